import Derived.Test.YtpnckphfjcnooaaA6
import Derived.Test.YtpnckphfjcnooaaA4
import Derived.Test.YtpnckphfjcnooaaA5
/- coterieref02.Done: the document's end of a sum that stands in a block. -/
namespace Go.Proofs.Ytpnckphfjcnooaa
open Go Go.RowKit
end Go.Proofs.Ytpnckphfjcnooaa
/- coterieref02.Write: the document's sum, block by block, that stands in a block. -/
namespace Go.Proofs.Ytpnckphfjcnooaa
open Go Go.RowKit
set_option maxRecDepth 100000 in
theorem run_cut64 {ao : Option Addr} {len cap : Nat} (h : 64 ≤ cap) (wx : World) : (Instr.slice 32 (.slice ao len cap) none (some (.int .i64 64)) none).run Try.prog wx = .ok (.slice ao 64 cap) wx := by
  obtain ⟨iB, hiB, -⟩ := info_parts info_byte
  have := cut_to (P := Try.prog) (ao := ao) (len := len) (cap := cap) (n := 64) Try.underlying32 h wx hiB
  rw [run_sliceAt_slice wx 32 _ _ _ _ Try.underlying32] at this
  exact this
set_option maxRecDepth 100000 in
theorem run_drop64 {ao : Option Addr} {len cap : Nat} (h : 64 ≤ len) (wx : World) : (Instr.slice 32 (.slice ao len cap) (some (.int .i64 64)) none none).run Try.prog wx = .ok (.slice (if cap = 64 then ao else ao.map (·.add 64)) (len - 64) (cap - 64)) wx := by
  obtain ⟨iB, hiB, hz1, hz2, -⟩ := info_parts info_byte
  have := cut_from (P := Try.prog) (ao := ao) (len := len) (cap := cap) (n := 64) Try.underlying32 h wx hiB hz2
  rw [run_sliceAt_slice wx 32 _ _ _ _ Try.underlying32] at this
  exact this
end Go.Proofs.Ytpnckphfjcnooaa
/- coterieref03.padded: a key of 64 bytes, each xor a number. -/
namespace Go.Proofs.Ytpnckphfjcnooaa
open Go Go.RowKit
end Go.Proofs.Ytpnckphfjcnooaa
/- coterieref03.Mac, and Extract: the document's sum with a key. -/
namespace Go.Proofs.Ytpnckphfjcnooaa
open Go Go.RowKit
end Go.Proofs.Ytpnckphfjcnooaa
/- coterielaw03.MacSums: it answers true. -/
namespace Go.Proofs.Ytpnckphfjcnooaa
open Go Go.RowKit
theorem wp_bin {P : Program} {o : Oper} {a : Act} {w : World} {K : Act → World → Prop} {Q : Exit → Act → World → Prop} (op : BinOp) (t t2 : TypeId) (x y : Operand) (ho : o.op = .binOp op t x y t2) (vx vy v : Value) (hx : a.eval x = vx) (hy : a.eval y = vy)
    (hr : ∀ w1, (Go.binOp op t vx vy).run P w1 = .ok v w1) (hg : ∀ w1, (eqGuard op t x y vx vy).run P w1 = .ok () w1) (h : K (a.put o.dst v) w) : o.wp P a w K Q := by
  unfold Oper.wp execOp
  simp only [ho, hx, hy, Sem.run_bind, hg, hr, Result.andThen_ok, Sem.run_pure]
  exact h
theorem wpList_binG {P : Program} {w : World} {ops : Array Oper} {rest : List Oper} {o : Oper} {a : Act} {Q : Exit → Act → World → Prop} (hw : Region.wanted o (yielded ops a.tmps) = true) (op : BinOp) (t t2 : TypeId) (x y : Operand) (ho : o.op = .binOp op t x y t2) (vx vy v : Value) (hx : a.eval x = vx) (hy : a.eval y = vy)
    (hr : ∀ w1, (Go.binOp op t vx vy).run P w1 = .ok v w1) (hg : ∀ w1, (eqGuard op t x y vx vy).run P w1 = .ok () w1) (h : wpList P ops Q rest (a.put o.dst v) w) : wpList P ops Q (o :: rest) a w := by
  unfold wpList
  rw [if_pos hw]
  exact .inl (wp_noOut (wp_bin op t t2 x y ho vx vy v hx hy hr hg h))
end Go.Proofs.Ytpnckphfjcnooaa
/- coterielaw02.ShaSteps: it answers true. -/
namespace Go.Proofs.Ytpnckphfjcnooaa
open Go Go.RowKit
end Go.Proofs.Ytpnckphfjcnooaa

