/- The walks of package sha's inner functions on words: word, small, great, mix (and bits.RotateLeft32): each computes the plain function of XSha. -/
import Derived.Test.YtifehfcgmodmaaaDoorRows
import Derived.Test.YtifehfcgmodmaaaDoorSha
import Derived.Test.YtifehfcgmodmaaaDoorKit
import Derived.WalkKit
import Derived.WalkSpells
import Derived.WalkLawsBesides
import Derived.Deep.QuietTactic
import Derived.BigQuiet
import Derived.Handy
namespace Go.Proofs.YtifehfcgmodmaaaDoor
open Go.RowKit
attribute [local go_sem] wn_add wn_xor wn_and wn_or wn_shr wn_shl bn_wide wn_shl24 wn_shl16 wn_shl8

theorem rot_amount (a : Nat) (h1 : 1 ≤ a) (h2 : a ≤ 31) : bits .and .u64 (IntKind.u64.wrap (-(a : Int))) 31 = ((32 - a : Nat) : Int) := by
  have : ∀ a : Fin 32, 1 ≤ a.val → bits .and .u64 (IntKind.u64.wrap (-(a.val : Int))) 31 = ((32 - a.val : Nat) : Int) := by decide
  exact this ⟨a, by omega⟩ h1
set_option maxHeartbeats 400000 in
theorem rot_any (x : BitVec 32) (a : Nat) (h1 : 1 ≤ a) (h2 : a ≤ 31) (w : World) :
    Calls Tryd.prog 93 #[.int .u32 (wn x), .int .i64 (-(a : Int))] w fun e w' => e = .returned (.int .u32 (wn (ror x a))) ∧ w' = w := by
  have e1 := rot_amount a h1 h2
  have s3 : IntKind.u64.wrap (32 - ((32 - a : Nat) : Int)) = (a : Int) := by rw [IntKind.wrap_u64]; omega
  have s4 : 32 - a ≤ 32 := by omega
  have o1 : bits .or .u32 (wn (x <<< (32 - a))) (wn (x >>> a)) = wn (ror x a) := by
    rw [wn_or]; unfold ror; rw [BitVec.or_comm]
  go_enter Tryd.func93, Tryd.ntmps93
  go_wp2
  go_ret
  exact ⟨rfl, rfl⟩
set_option maxHeartbeats 400000 in
theorem great_any (x : BitVec 32) (i j k : Int) (ha : 1 ≤ i ∧ i ≤ 31) (hb : 1 ≤ j ∧ j ≤ 31) (hc : 1 ≤ k ∧ k ≤ 31) (w : World) :
    Calls Tryd.prog 89 #[.int .u32 (wn x), .int .i64 i, .int .i64 j, .int .i64 k] w fun e w' => e = .returned (.int .u32 (wn (rorx3 x i.toNat j.toNat k.toNat))) ∧ w' = w := by
  obtain ⟨a, rfl⟩ := Int.eq_ofNat_of_zero_le (show 0 ≤ i by omega)
  obtain ⟨b, rfl⟩ := Int.eq_ofNat_of_zero_le (show 0 ≤ j by omega)
  obtain ⟨c, rfl⟩ := Int.eq_ofNat_of_zero_le (show 0 ≤ k by omega)
  go_enter Tryd.func89, Tryd.ntmps89
  go_wp2_with fail
  refine (rot_any x a (by omega) (by omega) _).mono ?_; rintro e w' ⟨rfl, rfl⟩
  go_wp2_with fail
  refine (rot_any x b (by omega) (by omega) _).mono ?_; rintro e w' ⟨rfl, rfl⟩
  go_wp2_with fail
  refine (rot_any x c (by omega) (by omega) _).mono ?_; rintro e w' ⟨rfl, rfl⟩
  go_wp2
  go_ret
  exact ⟨rfl, rfl⟩
set_option maxHeartbeats 400000 in
theorem small_any (x : BitVec 32) (i j k : Int) (ha : 1 ≤ i ∧ i ≤ 31) (hb : 1 ≤ j ∧ j ≤ 31) (hc : 1 ≤ k ∧ k ≤ 31) (w : World) :
    Calls Tryd.prog 88 #[.int .u32 (wn x), .int .i64 i, .int .i64 j, .int .i64 k] w fun e w' => e = .returned (.int .u32 (wn (rorx2s x i.toNat j.toNat k.toNat))) ∧ ∃ n, w' = w.drewN n := by
  obtain ⟨a, rfl⟩ := Int.eq_ofNat_of_zero_le (show 0 ≤ i by omega)
  obtain ⟨b, rfl⟩ := Int.eq_ofNat_of_zero_le (show 0 ≤ j by omega)
  obtain ⟨c, rfl⟩ := Int.eq_ofNat_of_zero_le (show 0 ≤ k by omega)
  go_enter Tryd.func88, Tryd.ntmps88
  go_wp2_with fail
  go_quiet ((go_at_call 93; exact Calls.quiet_of_same (rot_any _ _ (by omega) (by omega) _)))
  go_wp2
  go_ret
  exact ⟨rfl, _, rfl⟩
set_option maxHeartbeats 400000 in
theorem word_any (g o n c : Nat) (b0 b1 b2 b3 : BitVec 8) (w : World) (hn : 4 ≤ n)
    (c0 : w.cell? ⟨g, o, none⟩ = some (.int .u8 (bn b0))) (c1 : w.cell? ⟨g, o + 1, none⟩ = some (.int .u8 (bn b1)))
    (c2 : w.cell? ⟨g, o + 2, none⟩ = some (.int .u8 (bn b2))) (c3 : w.cell? ⟨g, o + 3, none⟩ = some (.int .u8 (bn b3))) :
    Calls Tryd.prog 87 #[.slice (some ⟨g, o, none⟩) n c] w fun e w' => e = .returned (.int .u32 (wn (word4 b0 b1 b2 b3))) ∧ ∃ n, w' = w.drewN n := by
  have h0 : (0 : Int) < n := by omega
  have h1 : (1 : Int) < n := by omega
  have h2 : (2 : Int) < n := by omega
  have h3 : (3 : Int) < n := by omega
  go_enter Tryd.func87, Tryd.ntmps87
  go_wp2
  go_quiet (fail)
  go_wp2
  go_ret
  exact ⟨rfl, _, rfl⟩

/-- Block b is a ring of sixteen words. -/
def ringIs (w : World) (b : Nat) (f : Nat → BitVec 32) : Prop := w.rowIs b 109 16 (fun i => .int .u32 (wn (f i)))
theorem ringIs.drewN {w : World} {b : Nat} {f : Nat → BitVec 32} (h : ringIs w b f) (n : Nat) : ringIs (w.drewN n) b f := h
theorem ringIs.cell {w : World} {b : Nat} {f : Nat → BitVec 32} (h : ringIs w b f) {i : Nat} (hi : i < 16) : w.cell? ⟨b, i, none⟩ = some (.int .u32 (wn (f i))) := World.rowIs.cell h hi
theorem ringIs.free {w : World} {b : Nat} {f : Nat → BitVec 32} (h : ringIs w b f) (i : Nat) : w.frozen? ⟨b, i, none⟩ = false := World.rowIs.frozen h i
theorem ringIs.set {w : World} {b : Nat} {f g : Nat → BitVec 32} (h : ringIs w b f) (i : Nat) (v : BitVec 32) (hg : ∀ j, j < 16 → g j = if j = i then v else f j) : ringIs (w.setCell ⟨b, i, none⟩ (.int .u32 (wn v))) b g :=
  (World.rowIs.set h i _).congr fun j hj => by rw [hg j hj]; split <;> rfl
/-- n bytes at a place. -/
def bytesAt (w : World) (g o : Nat) (n : Nat) (B : Nat → BitVec 8) : Prop := ∀ j, j < n → w.cell? ⟨g, o + j, none⟩ = some (.int .u8 (bn (B j)))
theorem bytesAt.below {w w' : World} {g o n : Nat} {B : Nat → BitVec 8} (h : bytesAt w g o n B) {k : Nat} (hb : Below k w w') (hk : g < k) : bytesAt w' g o n B :=
  fun j hj => (hb.cell (p := ⟨g, o + j, none⟩) hk).trans (h j hj)
end Go.Proofs.YtifehfcgmodmaaaDoor
