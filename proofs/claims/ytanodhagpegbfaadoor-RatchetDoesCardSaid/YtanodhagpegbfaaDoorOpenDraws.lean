/- A source that comes in: its cells. -/
import Derived.Test.YtanodhagpegbfaaDoorStruct
import Derived.Test.YtanodhagpegbfaaDoorA5
namespace Go.Proofs.YtanodhagpegbfaaDoor
open Go Go.RowKit Go.ChangeShapes Go.WideShapes Go.ChangeAt
section
variable {H : Type} {enc : TypeId × Value → H} {w : World} {base : Nat} {spare : Nat → Bool} {held : Bool}
theorem open_keyCells {fuel : Nat} {cs : List Value} {x : DataW H × List MemPlace} (hl : cs.length = 32) (h : DataW.trod enc Tryd.prog w base spare held fuel 23 cs = some x) : ∃ k : List (BitVec 8), cs = bv k ∧ k.length = 32 := by
  have g := ints_of_array Tryd.underlying23 Tryd.underlying5 (by kernel_rfl) h
  obtain ⟨Z, hZ⟩ := Deep.choose_lt (α := Int) (n := 32) (p := fun i z => cs[i]? = some (.int .u8 z) ∧ (Lit.int .u8 z).wf = true) (fun i hi => by
    obtain ⟨z, h1, h2⟩ := g i hi
    exact ⟨z, by simpa [Value.cells] using h1, h2⟩)
  refine ⟨(List.range 32).map fun i => BitVec.ofInt 8 (Z i), ?_, by simp⟩
  apply List.ext_getElem?
  intro i
  by_cases hi : i < 32
  · rw [(hZ i hi).1]
    simp only [bv, List.map_map, List.getElem?_map, List.getElem?_range hi, Option.map_some, Function.comp]
    rw [← bn_of (hZ i hi).2]
  · rw [List.getElem?_eq_none (by omega), List.getElem?_eq_none (by simp [bv]; omega)]
set_option maxRecDepth 100000 in
theorem open_drawsV {v : Value} {d : DataW H} {ps : List MemPlace} {W2 : World} {r : Reach} (hok : Value.okWide Tryd.prog W2 r base 39 v) (h : DataW.Trod enc Tryd.prog w 0 spare held 39 v d ps) :
    ∃ (seed : List (BitVec 8)) (N : Nat), v = .agg (drawsL seed N).toArray ∧ seed.length = 32 ∧ N < 18446744073709551616 := by
  obtain ⟨cs, rfl, -⟩ := okWide_struct Tryd.underlying39 hok
  obtain ⟨fuel, hf⟩ := h
  obtain ⟨xs, m, _, hx1, hl, hlen, hf⟩ := DataW.trod_struct Tryd.underlying39 hf
  have hl : (Value.agg cs).cells.toList.length = 33 := by rw [hl]; kernel_rfl
  have hlen : xs.length = 2 := hlen
  have hk0 : Tryd.prog.cellsOf 23 = 32 := by kernel_rfl
  have hk1 : Tryd.prog.cellsOf 37 = 1 := by kernel_rfl
  generalize hcs : (Value.agg cs).cells.toList = L at *
  have f0 := hf 0 _ rfl
  have f1 := hf 1 _ rfl
  rw [List.getElem?_eq_getElem (by omega)] at f0 f1
  change DataW.trod _ _ _ _ _ _ _ 23 (List.take (Tryd.prog.cellsOf 23) L) = _ at f0
  change DataW.trod _ _ _ _ _ _ _ 37 (List.take (Tryd.prog.cellsOf 37) (List.drop 32 L)) = _ at f1
  rw [hk0] at f0
  rw [hk1] at f1
  obtain ⟨k, e0, hk⟩ := open_keyCells (by simp; omega) f0
  obtain ⟨z, e1, -, wz⟩ := DataW.trod_int Tryd.underlying37 f1
  have bz := bounds_u64 wz
  have hL : L = bv k ++ [.int .u64 z] := by
    have h1 : (L.drop 32).take 1 = L.drop 32 := List.take_of_length_le (by simp; omega)
    rw [← e0, ← e1, h1, List.take_append_drop]
  refine ⟨k, z.toNat, ?_, hk, by omega⟩
  unfold drawsL
  rw [Int.toNat_of_nonneg bz.1, ← hL, ← hcs]
  rfl
end
end Go.Proofs.YtanodhagpegbfaaDoor
