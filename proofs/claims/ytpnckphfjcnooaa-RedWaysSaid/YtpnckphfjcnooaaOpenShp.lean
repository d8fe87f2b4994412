/- A tree that comes in: its members, and its levels. -/
import Derived.Test.YtpnckphfjcnooaaOpenInt
import Derived.Test.YtpnckphfjcnooaaT2
namespace Go.Proofs.Ytpnckphfjcnooaa
open Go Go.RowKit Go.ChangeShapes Go.WideShapes
set_option maxRecDepth 100000
section
variable {H : Type} {enc : TypeId × Value → H} {w : World} {base : Nat} {spare : Nat → Bool} {held : Bool}
theorem open_intsC {fuel : Nat} {cs : List Value} {x : DataW H × List MemPlace} (h : DataW.trod enc Try.prog w base spare held fuel 22 cs = some x) : ∃ v l, cs = [v] ∧ Rd w v (zv l) := by
  rcases open_ints Try.underlying22 Try.underlying3 (by kernel_rfl) h with ⟨rfl, rfl⟩ | ⟨a, len, cap, zs, rfl, -, hl, hm, hz, rfl, hc, hw⟩
  · exact ⟨_, [], rfl, Rd.nil w⟩
  · have hzl : len ≤ zs.length := by rw [hz]; split <;> omega
    have hlen : (zv (zs.take len)).length = len := by rw [zv_length, List.length_take]; omega
    refine ⟨_, zs.take len, rfl, ⟨some a, cap, by rw [hlen], by omega, hm, (fun h => by cases h), fun ad ha j u hu => ?_⟩⟩
    cases ha
    have hj : j < len := by rw [← hlen]; exact (List.getElem?_eq_some_iff.1 hu).1
    rw [hc j (by omega)]
    have hj2 : j < zs.length := by omega
    simp only [zv, List.getElem?_map, List.getElem?_take_of_lt hj, List.getElem?_eq_getElem hj2, Option.map_some, Option.some.injEq] at hu
    subst hu
    rw [List.getD, List.getElem?_eq_getElem hj2, Option.getD_some]
theorem open_levels {fuel : Nat} {cs : List Value} {x : DataW H × List MemPlace} (h : DataW.trod enc Try.prog w base spare held fuel 24 cs = some x) : ∃ v ls, cs = [v] ∧ RdLs w v ls := by
  rcases Deep.open_slice1 Try.underlying24 (by kernel_rfl) h with ⟨rfl, rfl⟩ | ⟨a, len, cap, m, n, V, D, Pl, rfl, -, hl, hm, hz, rfl, hc⟩
  · exact ⟨_, [], rfl, RdLs.nil w⟩
  · have hml : len ≤ m := by rw [hz]; split <;> omega
    obtain ⟨L, hL⟩ := Deep.choose_lt (α := List Int) (n := len) (p := fun i l => Rd w (V i) (zv l)) (fun i hi => by
      obtain ⟨v, l, h1, h2⟩ := open_intsC (hc i (by omega)).2
      obtain rfl := List.singleton_inj.1 h1
      exact ⟨l, h2⟩)
    refine ⟨_, (List.range len).map L, rfl, ⟨(List.range len).map V, ⟨some a, cap, by simp, by simpa using hl, hm, (fun h => by cases h), fun ad ha j u hu => ?_⟩, by simp, fun i v hv => ?_⟩⟩
    · cases ha
      have hj : j < len := by have := (List.getElem?_eq_some_iff.1 hu).1; simpa using this
      simp only [List.getElem?_map, List.getElem?_range hj, Option.map_some, Option.some.injEq] at hu
      subst hu
      exact (hc j (by omega)).1
    · have hj : i < len := by have := (List.getElem?_eq_some_iff.1 hv).1; simpa using this
      simp only [List.getElem?_map, List.getElem?_range hj, Option.map_some, Option.some.injEq] at hv
      subst hv
      simpa [List.getD, List.getElem?_map, List.getElem?_range hj] using hL i hj
theorem open_shapeC {fuel : Nat} {cs : List Value} {x : DataW H × List MemPlace} (h : DataW.trod enc Try.prog w base spare held fuel 26 cs = some x) :
    ∃ vi vl ids ls, cs = shpL vi vl ∧ Rd w vi (zv ids) ∧ RdLs w vl ls := by
  obtain ⟨xs, m, _, hx1, hl, hlen, hf⟩ := DataW.trod_struct Try.underlying26 h
  have hl : cs.length = 2 := by rw [hl]; kernel_rfl
  have hlen : xs.length = 2 := hlen
  have f0 := hf 0 _ rfl
  have f1 := hf 1 _ rfl
  rw [List.getElem?_eq_getElem (by omega)] at f0 f1
  match cs, hl with
  | [c0, c1], _ =>
    have hk1 : Try.prog.cellsOf 22 = 1 := by kernel_rfl
    have hk2 : Try.prog.cellsOf 24 = 1 := by kernel_rfl
    obtain ⟨v, l, e8, hr⟩ := open_intsC f0
    obtain ⟨v2, ls, e9, hr2⟩ := open_levels f1
    simp [hk1] at e8
    simp [hk2] at e9
    subst e8 e9
    exact ⟨_, _, l, ls, rfl, hr, hr2⟩
theorem open_shapeV {v : Value} {d : DataW H} {ps : List MemPlace} {W2 : World} {r : Reach} {b2 : Nat} (hok : Value.okWide Try.prog W2 r b2 26 v) (h : DataW.Trod enc Try.prog w 0 spare held 26 v d ps) :
    ∃ vi vl ids ls, v = .agg (shpL vi vl).toArray ∧ Rd w vi (zv ids) ∧ RdLs w vl ls := by
  obtain ⟨cs, rfl, -⟩ := okWide_struct Try.underlying26 hok
  obtain ⟨fuel, hf⟩ := h
  obtain ⟨vi, vl, ids, ls, h1, h2, h3⟩ := open_shapeC hf
  refine ⟨vi, vl, ids, ls, ?_, h2, h3⟩
  have : cs.toList = _ := h1
  rw [← this]
end
end Go.Proofs.Ytpnckphfjcnooaa
