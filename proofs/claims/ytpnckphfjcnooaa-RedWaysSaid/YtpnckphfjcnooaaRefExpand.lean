/- coterieref03.Key, and coterieref03.Expand; mac.Expand of a number that may not be. -/
import Derived.Test.YtpnckphfjcnooaaA7
namespace Go.Proofs.Ytpnckphfjcnooaa
open Go Go.RowKit
set_option maxRecDepth 100000 in
theorem run_cutTo' {ao : Option Addr} {len cap n : Nat} (h : n ≤ cap) (wx : World) : (Instr.slice 32 (.slice ao len cap) none (some (.int .i64 (n : Int))) none).run Try.prog wx = .ok (.slice ao n cap) wx := by
  obtain ⟨iB, hiB, -⟩ := info_parts info_byte
  have := cut_to (P := Try.prog) (ao := ao) (len := len) (cap := cap) (n := n) Try.underlying32 h wx hiB
  rw [run_sliceAt_slice wx 32 _ _ _ _ Try.underlying32] at this
  exact this
end Go.Proofs.Ytpnckphfjcnooaa

