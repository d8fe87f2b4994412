/- draw.Many: a list of keys, drawn one behind the other. -/
import Derived.Test.YtpnckphfjcnooaaKeys
import Derived.Test.YtpnckphfjcnooaaLed
namespace Go.Proofs.Ytpnckphfjcnooaa
open Go Go.RowKit
set_option linter.unusedSimpArgs false
theorem Led.duo {w0 w : World} {a b : Nat × Obj} {L : List (Nat × Obj)} (h : Led w0 w (a :: b :: L)) : Led w0 w [a, b] := by
  refine ⟨h.aft, fun i g o hi => ?_, fun i j g k o p hij hi hj => ?_⟩
  · match i, hi with
    | 0, hi => exact h.has 0 g o hi
    | 1, hi => exact h.has 1 g o hi
    | i + 2, hi => simp at hi
  · match i, j, hi, hj, hij with
    | 0, 1, hi, hj, hij => exact h.inc 0 1 g k o p hij hi hj
    | 0, 0, _, _, hij => exact absurd hij (Nat.lt_irrefl _)
    | 1, 0, _, _, hij => exact absurd hij (by omega)
    | 1, 1, _, _, hij => exact absurd hij (Nat.lt_irrefl _)
    | i + 2, _, hi, _, _ => simp at hi
    | _, j + 2, _, hj, _ => simp at hj
theorem Led.grown {w0 w w' : World} {L : List (Nat × Obj)} {row : Option Nat} (h : Led w0 w L) (hg : w.grownBy w' row) (hrow : ∀ k, row = some k → w0.heap.size ≤ k ∧ ∀ p ∈ L, p.1 ≠ k) : Led w0 w' L := by
  refine ⟨⟨hg.os.trans h.aft.os, hg.tape.trans h.aft.tape, hg.output.trans h.aft.output, Nat.le_trans h.aft.size hg.size, fun k hk => ?_⟩, fun i g o hi => ⟨?_, (h.has i g o hi).2⟩, h.inc⟩
  · exact (hg.block k (Nat.lt_of_lt_of_le hk h.aft.size) (fun e => by have := (hrow k e.symm).1; omega)).trans (h.aft.block k hk)
  · have hm : (g, o) ∈ L := List.mem_of_getElem? hi
    exact (hg.block g (heap_lt (h.get i hi)) (fun e => (hrow g e.symm).2 _ hm rfl)).trans (h.get i hi)
end Go.Proofs.Ytpnckphfjcnooaa

