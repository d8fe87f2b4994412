import Derived.Test.YtpnckphfjcnooaaA5
import Derived.Test.YtpnckphfjcnooaaA4
/- coterieref01.Bytes: a number's bytes. -/
namespace Go.Proofs.Ytpnckphfjcnooaa
open Go Go.RowKit
end Go.Proofs.Ytpnckphfjcnooaa
/- coterieref02.Padded: bytes, padded. -/
namespace Go.Proofs.Ytpnckphfjcnooaa
open Go Go.RowKit
end Go.Proofs.Ytpnckphfjcnooaa
/- coterieref02.Bytes: words' bytes; and First. -/
namespace Go.Proofs.Ytpnckphfjcnooaa
open Go Go.RowKit
end Go.Proofs.Ytpnckphfjcnooaa
/- coterieref02.First, and coterieref02.Sum: the document's sum of any parts is the digest. -/
namespace Go.Proofs.Ytpnckphfjcnooaa
open Go Go.RowKit
/-- A block of a list of bytes. -/
def blk (b : List (BitVec 8)) (j : Nat) : List (BitVec 8) := (b.drop (64 * j)).take 64
theorem blk_length {b : List (BitVec 8)} {j : Nat} (h : 64 * j + 64 ≤ b.length) : (blk b j).length = 64 := by
  unfold blk
  rw [List.length_take, List.length_drop]
  omega
set_option maxRecDepth 100000 in
theorem cut_blk {w : World} {ao : Option Addr} {len cap j : Nat} {b : List (BitVec 8)} (h : Rd w (.slice ao len cap) (bv b)) (hj : 64 * j + 64 ≤ b.length) (l r : Int) (hl : l = ((64 * j : Nat) : Int)) (hr : r = ((64 * j + 64 : Nat) : Int)) :
    ∃ g o, (∀ wx, (Instr.slice 32 (.slice ao len cap) (some (.int .i64 l)) (some (.int .i64 r)) none).run Try.prog wx = .ok (.slice (some ⟨g, o, none⟩) 64 (cap - 64 * j)) wx) ∧ Rd w (.slice (some ⟨g, o, none⟩) 64 (cap - 64 * j)) (bv (blk b j)) := by
  subst hl hr
  have hs := h.sl
  rw [bv_length] at hs
  have h1 := (h.from (n := 64 * j) (by rw [bv_length]; omega)).to (n := 64) (by rw [List.length_drop, bv_length]; omega)
  have e : bv (blk b j) = ((bv b).drop (64 * j)).take 64 := by unfold blk; rw [bv_take, bv_drop]
  rw [← e] at h1
  obtain ⟨g, o, hgo, -, -⟩ := Rd.some_of h1 (by rw [bv_length, blk_length hj]; omega)
  rw [hgo] at h1
  refine ⟨g, o, fun wx => ?_, h1⟩
  obtain ⟨i0, hi, hz1, hz2, hz3⟩ := info_parts info_byte
  have hc : Try.prog.cellsOf 5 = 1 := by simp [Program.cellsOf, hi, hz2]
  rw [run_slice_lh wx 32 ao len cap Try.underlying32 .i64 .i64 ((64 * j : Nat) : Int) ((64 * j + 64 : Nat) : Int) (by omega) (by omega) (by omega)]
  rw [show Try.prog.elem 32 = 5 from rfl, run_sizeOf wx hi]
  simp only [Result.andThen, sliced, Int.toNat_natCast]
  rw [hc, Nat.mul_one, hgo, show 64 * j + 64 - 64 * j = 64 by omega]
end Go.Proofs.Ytpnckphfjcnooaa
/- coterielaw02.ShaSums: it answers true. -/
namespace Go.Proofs.Ytpnckphfjcnooaa
open Go Go.RowKit
end Go.Proofs.Ytpnckphfjcnooaa
/- coterieref02.New and Check. -/
namespace Go.Proofs.Ytpnckphfjcnooaa
open Go Go.RowKit
end Go.Proofs.Ytpnckphfjcnooaa
/- The words at the head of a sum that stands in a block: loaded, and stored, as an array. -/
namespace Go.Proofs.Ytpnckphfjcnooaa
open Go Go.RowKit
section
variable {ops : Array Oper} {rest : List Oper} {o : Oper} {a : Act} {w : World} {Q : Exit → Act → World → Prop}
end
section
variable {ops : Array Oper} {w0 : World} {Kd : Nat → Nat} {Q : Exit → Act → World → Prop} {n k : Nat} {o : Oper} {l : List Oper} {a : Act} {w : World}
end
end Go.Proofs.Ytpnckphfjcnooaa

