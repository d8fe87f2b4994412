/- Words of 32 bits as the walk has them: a sum, a bitwise operation and a shift of two such numbers is the word's own. -/
import Derived.WalkKit
namespace Go.Proofs.YtifehfcgmodmaaaDoor

/-- The number in a slot that holds a word. -/
def wn (x : BitVec 32) : Int := (x.toNat : Int)
theorem wn_nonneg (x : BitVec 32) : 0 ≤ wn x := Int.natCast_nonneg _
theorem wn_lt (x : BitVec 32) : wn x < 4294967296 := by have := x.isLt; unfold wn; omega
theorem wrap_u32_nat (n : Nat) : IntKind.u32.wrap (n : Int) = ((n % 4294967296 : Nat) : Int) := by
  rw [IntKind.wrap_u32]; omega
theorem wn_add (x y : BitVec 32) : IntKind.u32.wrap (wn x + wn y) = wn (x + y) := by
  unfold wn; rw [IntKind.wrap_u32, BitVec.toNat_add]; omega
theorem ofInt32 (x : BitVec 32) : BitVec.ofInt 32 (wn x) = x := by
  unfold wn
  apply BitVec.eq_of_toNat_eq
  simp
theorem wrap32_id (x : BitVec 32) : IntKind.u32.wrap (wn x) = wn x := by
  have := x.isLt
  unfold wn
  rw [wrap_u32_nat, Nat.mod_eq_of_lt (by simpa using this)]
theorem wn_xor (x y : BitVec 32) : bits .xor .u32 (wn x) (wn y) = wn (x ^^^ y) := by
  show IntKind.u32.wrap ((BitVec.ofInt 32 (wn x) ^^^ BitVec.ofInt 32 (wn y)).toNat : Int) = _
  rw [ofInt32, ofInt32]; exact wrap32_id _
theorem wn_and (x y : BitVec 32) : bits .and .u32 (wn x) (wn y) = wn (x &&& y) := by
  show IntKind.u32.wrap ((BitVec.ofInt 32 (wn x) &&& BitVec.ofInt 32 (wn y)).toNat : Int) = _
  rw [ofInt32, ofInt32]; exact wrap32_id _
theorem wn_or (x y : BitVec 32) : bits .or .u32 (wn x) (wn y) = wn (x ||| y) := by
  show IntKind.u32.wrap ((BitVec.ofInt 32 (wn x) ||| BitVec.ofInt 32 (wn y)).toNat : Int) = _
  rw [ofInt32, ofInt32]; exact wrap32_id _
theorem wn_shr (x : BitVec 32) (n : Nat) : wn x / 2 ^ n = wn (x >>> n) := by
  unfold wn; rw [BitVec.toNat_ushiftRight, Nat.shiftRight_eq_div_pow]; simp
theorem wn_shl (x : BitVec 32) (n : Nat) : IntKind.u32.wrap (wn x * 2 ^ n) = wn (x <<< n) := by
  unfold wn; rw [BitVec.toNat_shiftLeft, Nat.shiftLeft_eq, IntKind.wrap_u32]; simp
/-- A word turned to the right. -/
def ror (x : BitVec 32) (a : Nat) : BitVec 32 := x >>> a ||| x <<< (32 - a)
/-- A word turned by three, and by two and shifted. -/
def rorx3 (x : BitVec 32) (a b c : Nat) : BitVec 32 := ror x a ^^^ ror x b ^^^ ror x c
def rorx2s (x : BitVec 32) (a b c : Nat) : BitVec 32 := ror x a ^^^ ror x b ^^^ x >>> c

/-- The number in a slot that holds a byte. -/
def bn (x : BitVec 8) : Int := (x.toNat : Int)
theorem bn_nonneg (x : BitVec 8) : 0 ≤ bn x := Int.natCast_nonneg _
theorem bn_lt (x : BitVec 8) : bn x < 256 := by have := x.isLt; unfold bn; omega
theorem bn_wide (x : BitVec 8) : IntKind.u32.wrap (bn x) = wn (x.setWidth 32) := by
  have := x.isLt
  unfold bn wn
  rw [IntKind.wrap_u32, BitVec.toNat_setWidth]; omega
/-- Four bytes, the highest first. -/
def word4 (a b c d : BitVec 8) : BitVec 32 := a.setWidth 32 <<< 24 ||| b.setWidth 32 <<< 16 ||| c.setWidth 32 <<< 8 ||| d.setWidth 32
theorem wn_shl24 (x : BitVec 32) : IntKind.u32.wrap (wn x * 16777216) = wn (x <<< 24) := wn_shl x 24
theorem wn_shl16 (x : BitVec 32) : IntKind.u32.wrap (wn x * 65536) = wn (x <<< 16) := wn_shl x 16
theorem wn_shl8 (x : BitVec 32) : IntKind.u32.wrap (wn x * 256) = wn (x <<< 8) := wn_shl x 8
end Go.Proofs.YtifehfcgmodmaaaDoor
