/- A list of nodes, as an argument: opened. -/
import Derived.Test.YtpnckphfjcnooaaOpenShp
import Derived.Test.YtpnckphfjcnooaaN1
import Derived.Deep.Slices
namespace Go.Proofs.Ytpnckphfjcnooaa
open Go Go.RowKit Go.ChangeShapes Go.WideShapes Go.ChangeAt
section
variable {H : Type} {enc : TypeId × Value → H} {w : World} {base : Nat} {spare : Nat → Bool} {held : Bool}
set_option maxRecDepth 100000 in
theorem open_ndCells {fuel : Nat} {cs : List Value} {x : DataW H × List MemPlace} (hl : cs.length = 7) (h : DataW.trod enc Try.prog w base spare held fuel 41 cs = some x) : ∃ s : Nd × Value, cs = ndR s.1 s.2 ∧ Rd w s.2 (zv s.1.ks) := by
  obtain ⟨xs, m, _, hx1, hl2, hlen, hf⟩ := DataW.trod_struct Try.underlying41 h
  have hlen : xs.length = 7 := hlen
  have hk0 : Try.prog.cellsOf 3 = 1 := by kernel_rfl
  have hk1 : Try.prog.cellsOf 4 = 1 := by kernel_rfl
  have hk2 : Try.prog.cellsOf 22 = 1 := by kernel_rfl
  have f0 := hf 0 _ rfl
  have f1 := hf 1 _ rfl
  have f2 := hf 2 _ rfl
  have f3 := hf 3 _ rfl
  have f4 := hf 4 _ rfl
  have f5 := hf 5 _ rfl
  have f6 := hf 6 _ rfl
  rw [List.getElem?_eq_getElem (by omega)] at f0 f1 f2 f3 f4 f5 f6
  match cs, hl with
  | [c0, c1, c2, c3, c4, c5, c6], _ =>
    obtain ⟨z0, e0, -, -⟩ := DataW.trod_int Try.underlying3 f0
    obtain ⟨z1, e1, -, -⟩ := DataW.trod_int Try.underlying3 f1
    obtain ⟨b2, e2, -⟩ := DataW.trod_bool Try.underlying4 f2
    obtain ⟨z3, e3, -, -⟩ := DataW.trod_int Try.underlying3 f3
    obtain ⟨z4, e4, -, -⟩ := DataW.trod_int Try.underlying3 f4
    obtain ⟨v5, l5, e5, hr⟩ := open_intsC f5
    obtain ⟨z6, e6, -, -⟩ := DataW.trod_int Try.underlying3 f6
    simp [hk0, hk1, hk2] at e0 e1 e2 e3 e4 e5 e6
    subst e0 e1 e2 e3 e4 e5 e6
    exact ⟨(⟨z0, z1, b2, z3, z4, l5, z6⟩, c5), rfl, hr⟩
set_option maxRecDepth 100000 in
theorem open_ndsV {r : Reach} {b2 : Nat} {v : Value} {d : DataW H} {ps : List MemPlace} (hok : Value.okWide Try.prog w r b2 37 v) (h : DataW.Trod enc Try.prog w 0 spare held 37 v d ps) :
    ∃ zs : List (Nd × Value), RdN w v zs := by
  obtain ⟨a0, n0, c0, rfl⟩ := okWide_slice Try.underlying37 hok
  obtain ⟨fuel, hf⟩ := h
  rcases Deep.open_slice Try.underlying37 hf with ⟨h1, h2⟩ | ⟨a, len, cap, m, n, D, Pl, h1, hb, hl, hm, hmm, hx, hi⟩
  · have hv : Value.slice a0 n0 c0 = .slice none 0 0 := List.singleton_inj.1 h1
    rw [hv]
    exact ⟨[], RdR.nil 7 w, fun z hz => by simp at hz⟩
  · have hv := List.singleton_inj.1 h1
    rw [hv] at hok ⊢
    have hk0 : Try.prog.cellsOf 41 = 7 := by kernel_rfl
    rw [hk0] at hi
    have hlm : len ≤ m := by rw [hmm]; split <;> omega
    simp only [Value.okWide, Cell.okWide, Try.underlying37, Cell.ok] at hok
    obtain ⟨-, -, -, hsp, row, cells, hsh, -⟩ := hok
    have hbl : a.block < w.heap.size := by
      rcases Nat.lt_or_ge a.block w.heap.size with h' | h'
      · exact h'
      · simp [World.shape?, Array.getElem?_eq_none h'] at hsh
    obtain ⟨b, off, sp⟩ := a
    simp only at hsp hbl
    subst hsp
    haveI : Inhabited (Nd × Value) := ⟨ndP⟩
    obtain ⟨K, hK⟩ := Deep.choose_lt (α := Nd × Value) (n := len) (p := fun i s => (∀ j, j < 7 → w.cell? (Addr.add ⟨b, off, none⟩ (i * 7 + j)) = (ndR s.1 s.2)[j]?) ∧ Rd w s.2 (zv s.1.ks)) (fun i him => by
      obtain ⟨cs', h3, h4⟩ := hi i (by omega)
      obtain ⟨-, hcl, hat⟩ := World.cells?_some h3
      obtain ⟨s, rfl, hw⟩ := open_ndCells hcl h4
      exact ⟨s, fun j hj => by rw [← Deep.add_add, hat j hj], hw⟩)
    have hrow : Row 7 (ndRs ((List.range len).map K)) := by
      intro r hr
      obtain ⟨s, hs, rfl⟩ := List.mem_map.1 hr
      obtain ⟨i, hi2, rfl⟩ := List.mem_map.1 hs
      have h5 := (hK i (List.mem_range.1 hi2)).2
      obtain ⟨ka, kc, hk, -, -⟩ := h5.numS
      rw [hk]
      exact ⟨rfl, ndR_one⟩
    refine ⟨(List.range len).map K, ⟨hrow, .inr ⟨b, off, cap, by simp [ndRs], by simpa [ndRs] using hl, by unfold maxLen at hm; omega, hbl, fun i hi j u hu => ?_⟩⟩, fun z hz => ?_⟩
    · have hil : i < len := by simpa [ndRs] using hi
      have hg : (ndRs ((List.range len).map K)).getD i [] = ndR (K i).1 (K i).2 := by simp [ndRs, hil]
      rw [hg] at hu
      have hj : j < 7 := (List.getElem?_eq_some_iff.1 hu).1
      have := (hK i hil).1 j hj
      rw [Addr.add_lit] at this
      rw [Nat.add_assoc, this]
      exact hu
    · obtain ⟨i, hi, rfl⟩ := List.mem_map.1 hz
      exact (hK i (List.mem_range.1 hi)).2
end
end Go.Proofs.Ytpnckphfjcnooaa
