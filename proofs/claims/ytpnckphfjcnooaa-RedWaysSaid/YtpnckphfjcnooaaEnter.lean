/- sched.Enter, and the document's: what an epoch is, entered. -/
import Derived.Test.YtpnckphfjcnooaaLed
namespace Go.Proofs.Ytpnckphfjcnooaa
open Go Go.RowKit
theorem Led.same {w0 w w' : World} {L : List (Nat × Obj)} (h : Led w0 w L) {g : Nat} {o : Obj} (h0 : w0.heap[g]? = some o) (h1 : Hid (w'.heap[g]? = some o)) (h2 : Hid (∀ k, k ≠ g → w'.heap[k]? = w.heap[k]?)) (h3 : ∀ k w0, k ≤ g → Below k w0 w → Below k w0 w') : Led w0 w' L := by
  have hz := h3 0 w0 (Nat.zero_le _) ⟨h.aft.os, h.aft.tape, h.aft.output, h.aft.size, fun k hk => absurd hk (Nat.not_lt_zero _)⟩
  refine ⟨⟨hz.os, hz.tape, hz.output, hz.size, fun k hk => ?_⟩, fun i g' o' hi => ?_, h.inc⟩
  · by_cases e : k = g
    · subst e
      exact h1.out.trans h0.symm
    · exact (h2.out k e).trans (h.aft.block k hk)
  · have hge := (h.has i g' o' hi).2
    have hlt := heap_lt h0
    exact ⟨(h2.out g' (by omega)).trans (h.get i hi), hge⟩
theorem alloc_errno (w : World) : (Instr.alloc 27 true (.tuple #[])).run Try.prog w = .ok (.pointer (some ⟨w.heap.size, 0, none⟩)) (w.alloc (.cells #[.int .i64 0] 27)) := by kernel_rfl
theorem wpList_store_errno {ops : Array Oper} {rest : List Oper} {o : Oper} {a : Act} {w : World} {Q : Exit → Act → World → Prop} (hgd : o.guard = none) (x y : Operand) (ho : o.op = .store 27 x y) (g : Nat) (u : Int)
    (hx : a.eval x = .pointer (some ⟨g, 0, none⟩)) (hy : a.eval y = .int .i64 u) (old : Int) (hg : w.heap[g]? = some (.cells #[.int .i64 old] 27 (0, 0)))
    (h : ∀ w', Hid (w'.heap[g]? = some (.cells #[.int .i64 u] 27 (0, 0))) → Hid (∀ k, k ≠ g → w'.heap[k]? = w.heap[k]?) → (∀ k w0, k ≤ g → Below k w0 w → Below k w0 w') → wpList Try.prog ops Q rest (a.put o.dst undef) w') : wpList Try.prog ops Q (o :: rest) a w :=
  wpList_store_part hgd _ x y ho g 0 (.int .i64 u) hx hy 27 [] [.int .i64 old] [.int .i64 u] [] rfl rfl hg (by kernel_rfl) rfl (fun v hv => by simp at hv; subst hv; rfl) h
end Go.Proofs.Ytpnckphfjcnooaa

