/- A slice of numbers as an argument, opened. -/
import Derived.Test.YtifehfcgmodmaaaDoorA8
namespace Go.Proofs.YtifehfcgmodmaaaDoor
open Go Go.RowKit Go.ChangeShapes Go.WideShapes
set_option maxRecDepth 100000
theorem open_numsV {H : Type} {enc : TypeId × Value → H} {w : World} {base : Nat} {spare : Nat → Bool} {held : Bool} {v : Value} {d : DataW H} {ps : List MemPlace} {W2 : World} {r : Reach} (hok : Value.okWide Tryd.prog W2 r base 57 v) (h : DataW.Trod enc Tryd.prog w 0 spare held 57 v d ps) :
    ∃ l : List Nat, Rd w v (nv l) ∧ l.length + 1 ≤ Rows.uptoBulk d ∧ ∀ x ∈ l, x < 18446744073709551616 := by
  obtain ⟨a0, n0, c0, rfl⟩ := okWide_slice Tryd.underlying57 hok
  obtain ⟨fuel, hf⟩ := h
  rcases open_ints Tryd.underlying57 Tryd.underlying35 (by kernel_rfl) hf with ⟨h1, h2⟩ | ⟨a, len, cap, zs, h1, -, hl, hm, hz, h2, hc, hw⟩
  · have hv : Value.slice a0 n0 c0 = .slice none 0 0 := List.singleton_inj.1 h1
    rw [hv]
    cases h2
    exact ⟨[], Rd.nil w, by simp [Rows.uptoBulk], by simp⟩
  · have hv := List.singleton_inj.1 h1
    rw [hv]
    cases h2
    have hzl : len ≤ zs.length := by rw [hz]; split <;> omega
    have hlen : (nv ((zs.take len).map fun z => z.toNat)).length = len := by rw [nv_length, List.length_map, List.length_take]; omega
    refine ⟨(zs.take len).map (fun z => z.toNat), ⟨some a, cap, by rw [hlen], by omega, hm, (fun h => by cases h), fun ad ha j u hu => ?_⟩, ?_, fun x hx => ?_⟩
    rotate_left 1
    · have h2 := bulks.slice_le (lits (H := H) .u64 (zs.take len)) (lits .u64 (zs.drop len))
      have h3 : (lits (H := H) .u64 (zs.take len)).length = (zs.take len).length := by simp [lits]
      simp only [List.length_map] at h2 h3 ⊢
      omega
    · obtain ⟨z, hz1, rfl⟩ := List.mem_map.1 hx
      have := bounds_u64 (hw z (List.mem_of_mem_take hz1))
      omega
    cases ha
    have hj : j < len := by rw [← hlen]; exact (List.getElem?_eq_some_iff.1 hu).1
    rw [hc j (by omega)]
    have hj2 : j < zs.length := by omega
    simp only [nv, List.map_map, List.getElem?_map, List.getElem?_take_of_lt hj, List.getElem?_eq_getElem hj2, Option.map_some, Function.comp, Option.some.injEq] at hu
    subst hu
    have := bounds_u64 (hw _ (List.getElem_mem hj2))
    rw [List.getD, List.getElem?_eq_getElem hj2, Option.getD_some, Int.toNat_of_nonneg this.1]
end Go.Proofs.YtifehfcgmodmaaaDoor
