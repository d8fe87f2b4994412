/- A key as an argument, opened. -/
import Derived.Test.YtifehfcgmodmaaaDoorOpen
namespace Go.Proofs.YtifehfcgmodmaaaDoor
open Go Go.RowKit Go.ChangeShapes Go.WideShapes
set_option maxRecDepth 100000
theorem okWide_array {P : Program} {w : World} {r : Reach} {base : Nat} {t : TypeId} {v : Value} {n : Nat} {e : TypeId} (ht : P.underlying t = some (.array n e)) (h : Value.okWide P w r base t v) : ∃ cs, v = .agg cs ∧ cs.size = P.cellsOf t := by
  simp only [Value.okWide, ht] at h
  obtain ⟨cs, h1, h2, _⟩ := h
  exact ⟨cs, h1, h2⟩
theorem open_keyV {H : Type} {enc : TypeId × Value → H} {w : World} {base : Nat} {spare : Nat → Bool} {held : Bool} {v : Value} {d : DataW H} {ps : List MemPlace} {W2 : World} {r : Reach} (hok : Value.okWide Tryd.prog W2 r base 28 v) (h : DataW.Trod enc Tryd.prog w 0 spare held 28 v d ps) :
    ∃ k : List (BitVec 8), v = .agg (bv k).toArray ∧ k.length = 32 := by
  obtain ⟨cs, rfl, hcs⟩ := okWide_array Tryd.underlying28 hok
  obtain ⟨fuel, hf⟩ := h
  have hsz : cs.size = 32 := by rw [hcs]; kernel_rfl
  have g := ints_of_array Tryd.underlying28 Tryd.underlying5 (by kernel_rfl) hf
  obtain ⟨Z, hZ⟩ := Deep.choose_lt (α := Int) (n := 32) (p := fun i z => cs[i]? = some (.int .u8 z) ∧ (Lit.int .u8 z).wf = true) (fun i hi => by
    obtain ⟨z, h1, h2⟩ := g i hi
    exact ⟨z, by simpa [Value.cells] using h1, h2⟩)
  refine ⟨(List.range 32).map fun i => BitVec.ofInt 8 (Z i), ?_, by simp⟩
  congr 1
  apply Array.ext_getElem?
  intro i
  by_cases hi : i < 32
  · rw [(hZ i hi).1]
    simp only [bv, List.map_map, List.getElem?_toArray, List.getElem?_map, List.getElem?_range hi, Option.map_some, Function.comp]
    rw [← bn_of (hZ i hi).2]
  · rw [Array.getElem?_eq_none (by omega), Array.getElem?_eq_none (by simp [bv]; omega)]
end Go.Proofs.YtifehfcgmodmaaaDoor
