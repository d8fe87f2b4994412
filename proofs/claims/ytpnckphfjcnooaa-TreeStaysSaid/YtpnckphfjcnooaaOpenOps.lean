/- What members do, as an argument: opened. -/
import Derived.Test.YtpnckphfjcnooaaA8
import Derived.Test.YtpnckphfjcnooaaStRow
import Derived.Deep.Slices
namespace Go.Proofs.Ytpnckphfjcnooaa
open Go Go.RowKit Go.ChangeShapes Go.WideShapes Go.ChangeAt
/-- One, as cells. -/
def opR (x : Int × Bool) : List Value := [.int .i64 x.1, .bool x.2]
theorem opR_row (xs : List (Int × Bool)) : Row 2 (xs.map opR) := fun r hr => by
  obtain ⟨x, -, rfl⟩ := List.mem_map.1 hr
  refine ⟨rfl, fun u hu => ?_⟩
  simp only [opR, List.mem_cons, List.not_mem_nil, or_false] at hu
  rcases hu with rfl | rfl <;> rfl
section
variable {H : Type} {enc : TypeId × Value → H} {w : World} {base : Nat} {spare : Nat → Bool} {held : Bool}
set_option maxRecDepth 100000 in
theorem open_opCells {fuel : Nat} {cs : List Value} {x : DataW H × List MemPlace} (hl : cs.length = 2) (h : DataW.trod enc Try.prog w base spare held fuel 59 cs = some x) : ∃ s : Int × Bool, cs = opR s ∧ (Lit.int .i64 s.1).wf = true := by
  obtain ⟨xs, m, _, hx1, hl2, hlen, hf⟩ := DataW.trod_struct Try.underlying59 h
  have hlen : xs.length = 2 := hlen
  have hk0 : Try.prog.cellsOf 3 = 1 := by kernel_rfl
  have hk1 : Try.prog.cellsOf 4 = 1 := by kernel_rfl
  have f0 := hf 0 _ rfl
  have f1 := hf 1 _ rfl
  rw [List.getElem?_eq_getElem (by omega)] at f0 f1
  match cs, hl with
  | [c0, c1], _ =>
    obtain ⟨z, e0, -, wz⟩ := DataW.trod_int Try.underlying3 f0
    obtain ⟨b, e1, -⟩ := DataW.trod_bool Try.underlying4 f1
    simp [hk0] at e0
    simp [hk1] at e1
    subst e0 e1
    exact ⟨(z, b), rfl, wz⟩
set_option maxRecDepth 100000 in
theorem open_opsV {r : Reach} {b2 : Nat} {v : Value} {d : DataW H} {ps : List MemPlace} (hok : Value.okWide Try.prog w r b2 56 v) (h : DataW.Trod enc Try.prog w 0 spare held 56 v d ps) :
    ∃ zs : List (Int × Bool), RdR 2 w v (zs.map opR) ∧ ∀ z ∈ zs, (Lit.int .i64 z.1).wf = true := by
  obtain ⟨a0, n0, c0, rfl⟩ := okWide_slice Try.underlying56 hok
  obtain ⟨fuel, hf⟩ := h
  rcases Deep.open_slice Try.underlying56 hf with ⟨h1, h2⟩ | ⟨a, len, cap, m, n, D, Pl, h1, hb, hl, hm, hmm, hx, hi⟩
  · have hv : Value.slice a0 n0 c0 = .slice none 0 0 := List.singleton_inj.1 h1
    rw [hv]
    exact ⟨[], RdR.nil 2 w, fun z hz => by simp at hz⟩
  · have hv := List.singleton_inj.1 h1
    rw [hv] at hok ⊢
    have hk0 : Try.prog.cellsOf 59 = 2 := by kernel_rfl
    rw [hk0] at hi
    have hlm : len ≤ m := by rw [hmm]; split <;> omega
    simp only [Value.okWide, Cell.okWide, Try.underlying56, Cell.ok] at hok
    obtain ⟨-, -, -, hsp, row, cells, hsh, -⟩ := hok
    have hbl : a.block < w.heap.size := by
      rcases Nat.lt_or_ge a.block w.heap.size with h' | h'
      · exact h'
      · simp [World.shape?, Array.getElem?_eq_none h'] at hsh
    obtain ⟨b, off, sp⟩ := a
    simp only at hsp hbl
    subst hsp
    obtain ⟨K, hK⟩ := Deep.choose_lt (α := Int × Bool) (n := len) (p := fun i s => (∀ j, j < 2 → w.cell? (Addr.add ⟨b, off, none⟩ (i * 2 + j)) = (opR s)[j]?) ∧ (Lit.int .i64 s.1).wf = true) (fun i him => by
      obtain ⟨cs', h3, h4⟩ := hi i (by omega)
      obtain ⟨-, hcl, hat⟩ := World.cells?_some h3
      obtain ⟨s, rfl, hw⟩ := open_opCells hcl h4
      exact ⟨s, fun j hj => by rw [← Deep.add_add, hat j hj], hw⟩)
    refine ⟨(List.range len).map K, ⟨opR_row _, .inr ⟨b, off, cap, by simp, by simpa using hl, by unfold maxLen at hm; omega, hbl, fun i hi j u hu => ?_⟩⟩, fun z hz => ?_⟩
    · have hil : i < len := by simpa using hi
      have hg : (((List.range len).map K).map opR).getD i [] = opR (K i) := by simp [hil]
      rw [hg] at hu
      have hj : j < 2 := (List.getElem?_eq_some_iff.1 hu).1
      have := (hK i hil).1 j hj
      rw [Addr.add_lit] at this
      rw [Nat.add_assoc, this]
      exact hu
    · obtain ⟨i, hi, rfl⟩ := List.mem_map.1 hz
      exact (hK i (List.mem_range.1 hi)).2
end
end Go.Proofs.Ytpnckphfjcnooaa
