/- The guard of an operation, read off the frame by the kit's own tactic, for the lexical walk of a region with guards. And a class of worlds: those in which the blocks below a number are as they were. -/
import Derived.Test.YtifehfcgmodmaaaDoorLex
namespace Go.Proofs.YtifehfcgmodmaaaDoor
open Go Go.RowKit
section
variable {P : Program} {ops : Array Oper} {C : World → Prop} {E : Nat → Bool} {Q : Exit → Act → World → Prop} {n k : Nat} {o : Oper} {l : List Oper} {a : Act} {w : World}
theorem lx_skipT (_ : wpQuiet P ops (fun _ => False) (fun _ => True) [o] a) (hw : Region.wanted o (yielded ops a.tmps) = false) (h : wpLx P ops C E Q n (k + 1) l (a.put o.dst undef) w) : wpLx P ops C E Q (n + 1) k (o :: l) a w := lx_skip hw h
theorem lx_quietT (hE : E k = false) (_ : wpQuiet P ops (fun _ => False) (fun _ => True) [o] a) (hw : Region.wanted o (yielded ops a.tmps) = true) (hv : isV o.op = true)
    (h : ∀ K : Act → Prop, (∀ a', wpLx P ops C E Q n (k + 1) l a' w → K a') → o.quiet P a C K) : wpLx P ops C E Q (n + 1) k (o :: l) a w := lx_quiet hE hw hv h
theorem lx_effT (hE : E k = true) (_ : wpQuiet P ops (fun _ => False) (fun _ => True) [o] a) (hw : Region.wanted o (yielded ops a.tmps) = true)
    (h : ∀ K : Act → World → Prop, (∀ a' w', (C w' ∧ wpLx P ops C E Q n (k + 1) l a' w') → K a' w') → o.wp P a w K noOut) : wpLx P ops C E Q (n + 1) k (o :: l) a w := lx_eff hE hw h
theorem quiet_false {K : Act → Prop} (hK : ∀ a, wpQuiet P ops (fun _ => False) (fun _ => True) [] a → K a) : o.quiet P a (fun _ => False) K := ⟨undef, fun _ h => h.elim, hK _ (wpQuiet_nil trivial)⟩
end
/-- A world in which the blocks below k are as they were. -/
structure Later (k : Nat) (w0 : World) where
  w : World
  h : Below k w0 w
instance (k : Nat) (w0 : World) : Nonempty (Later k w0) := ⟨⟨w0, Below.refl _ _⟩⟩
theorem Later.start (k : Nat) (w0 : World) : ∃ u : Later k w0, w0.drew = u.w := ⟨⟨w0.drew, (Below.refl _ _).drew⟩, rfl⟩
theorem Later.on {k : Nat} {w0 w : World} (h : Below k w0 w) : ∃ u : Later k w0, w = u.w := ⟨⟨w, h⟩, rfl⟩
end Go.Proofs.YtifehfcgmodmaaaDoor
