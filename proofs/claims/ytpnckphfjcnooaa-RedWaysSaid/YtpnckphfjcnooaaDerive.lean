/- mac.Derive, and coterieref03.Derive: a key of a key. -/
import Derived.Test.YtpnckphfjcnooaaRefExpand
import Derived.Test.YtpnckphfjcnooaaA8
import Derived.Lib.ConvBytes
import Derived.Lib.AtoiErrMem
namespace Go.Proofs.Ytpnckphfjcnooaa
open Go Go.RowKit
/-- A string's bytes. -/
def sb (s : ByteArray) : List (BitVec 8) := s.data.toList.map UInt8.toBitVec
end Go.Proofs.Ytpnckphfjcnooaa

