import Derived.WalkKit
import Derived.Deep.OwnRows
import Derived.Deep.Draws
import Derived.WalkSpells
import Derived.WalkLawsBesides
import Derived.Deep.QuietTactic
import Derived.BigQuiet
import Derived.BigRegion
import Derived.Deep.RegionHeld3
import Derived.Handy
import Derived.Lib.Hide
import Derived.Test.YtdbhlajajdlmfaaDoorRows
import Derived.Laws.AppendOwnNone
import Derived.Lib.SliceRun
import Derived.Laws.CopyOwn
import Derived.Laws.BytesString
import Derived.Lib.SlBytesConst
import Derived.Deep.Slices
import Derived.OpenShut
import Derived.Lib.LaidTab
import Derived.Carry
import Derived.KernelRfl
import Derived.Lib.AppendZerosOnto
/- Words of 32 bits as the walk has them: a sum, a bitwise operation and a shift of two such numbers is the word's own. -/
namespace Go.Proofs.YtdbhlajajdlmfaaDoor

/-- The number in a slot that holds a word. -/
def wn (x : BitVec 32) : Int := (x.toNat : Int)
theorem wrap_u32_nat (n : Nat) : IntKind.u32.wrap (n : Int) = ((n % 4294967296 : Nat) : Int) := by
  rw [IntKind.wrap_u32]; omega
theorem wn_add (x y : BitVec 32) : IntKind.u32.wrap (wn x + wn y) = wn (x + y) := by
  unfold wn; rw [IntKind.wrap_u32, BitVec.toNat_add]; omega
theorem ofInt32 (x : BitVec 32) : BitVec.ofInt 32 (wn x) = x := by
  unfold wn
  apply BitVec.eq_of_toNat_eq
  simp
theorem wrap32_id (x : BitVec 32) : IntKind.u32.wrap (wn x) = wn x := by
  have := x.isLt
  unfold wn
  rw [wrap_u32_nat, Nat.mod_eq_of_lt (by simpa using this)]
theorem wn_xor (x y : BitVec 32) : bits .xor .u32 (wn x) (wn y) = wn (x ^^^ y) := by
  show IntKind.u32.wrap ((BitVec.ofInt 32 (wn x) ^^^ BitVec.ofInt 32 (wn y)).toNat : Int) = _
  rw [ofInt32, ofInt32]; exact wrap32_id _
theorem wn_and (x y : BitVec 32) : bits .and .u32 (wn x) (wn y) = wn (x &&& y) := by
  show IntKind.u32.wrap ((BitVec.ofInt 32 (wn x) &&& BitVec.ofInt 32 (wn y)).toNat : Int) = _
  rw [ofInt32, ofInt32]; exact wrap32_id _
theorem wn_or (x y : BitVec 32) : bits .or .u32 (wn x) (wn y) = wn (x ||| y) := by
  show IntKind.u32.wrap ((BitVec.ofInt 32 (wn x) ||| BitVec.ofInt 32 (wn y)).toNat : Int) = _
  rw [ofInt32, ofInt32]; exact wrap32_id _
theorem wn_shr (x : BitVec 32) (n : Nat) : wn x / 2 ^ n = wn (x >>> n) := by
  unfold wn; rw [BitVec.toNat_ushiftRight, Nat.shiftRight_eq_div_pow]; simp
theorem wn_shl (x : BitVec 32) (n : Nat) : IntKind.u32.wrap (wn x * 2 ^ n) = wn (x <<< n) := by
  unfold wn; rw [BitVec.toNat_shiftLeft, Nat.shiftLeft_eq, IntKind.wrap_u32]; simp
/-- A word turned to the right. -/
def ror (x : BitVec 32) (a : Nat) : BitVec 32 := x >>> a ||| x <<< (32 - a)
/-- A word turned by three, and by two and shifted. -/
def rorx3 (x : BitVec 32) (a b c : Nat) : BitVec 32 := ror x a ^^^ ror x b ^^^ ror x c
def rorx2s (x : BitVec 32) (a b c : Nat) : BitVec 32 := ror x a ^^^ ror x b ^^^ x >>> c

/-- The number in a slot that holds a byte. -/
def bn (x : BitVec 8) : Int := (x.toNat : Int)
theorem bn_nonneg (x : BitVec 8) : 0 ≤ bn x := Int.natCast_nonneg _
theorem bn_lt (x : BitVec 8) : bn x < 256 := by have := x.isLt; unfold bn; omega
theorem bn_wide (x : BitVec 8) : IntKind.u32.wrap (bn x) = wn (x.setWidth 32) := by
  have := x.isLt
  unfold bn wn
  rw [IntKind.wrap_u32, BitVec.toNat_setWidth]; omega
/-- Four bytes, the highest first. -/
def word4 (a b c d : BitVec 8) : BitVec 32 := a.setWidth 32 <<< 24 ||| b.setWidth 32 <<< 16 ||| c.setWidth 32 <<< 8 ||| d.setWidth 32
theorem wn_shl24 (x : BitVec 32) : IntKind.u32.wrap (wn x * 16777216) = wn (x <<< 24) := wn_shl x 24
theorem wn_shl16 (x : BitVec 32) : IntKind.u32.wrap (wn x * 65536) = wn (x <<< 16) := wn_shl x 16
theorem wn_shl8 (x : BitVec 32) : IntKind.u32.wrap (wn x * 256) = wn (x <<< 8) := wn_shl x 8
end Go.Proofs.YtdbhlajajdlmfaaDoor
/- SHA-256 as plain functions on words: the schedule as a register of sixteen words, the round, a block. No program here. -/
namespace Go.Proofs.YtdbhlajajdlmfaaDoor

/-- The register's next state: sixteen words, the first one goes out. -/
def regStep (l : List (BitVec 32)) : List (BitVec 32) :=
  l.drop 1 ++ [l.getD 0 0 + (rorx2s (l.getD 1 0) 7 18 3 + l.getD 9 0 + rorx2s (l.getD 14 0) 17 19 10)]
def reg (M : List (BitVec 32)) : Nat → List (BitVec 32)
  | 0 => M
  | t + 1 => regStep (reg M t)
/-- Word t of a block's schedule. -/
def sched (M : List (BitVec 32)) (t : Nat) : BitVec 32 := (reg M t).getD 0 0
theorem reg_length (M : List (BitVec 32)) (hM : M.length = 16) : ∀ t, (reg M t).length = 16
  | 0 => hM
  | t + 1 => by simp [reg, regStep, reg_length M hM t]
theorem reg_at (M : List (BitVec 32)) (hM : M.length = 16) : ∀ i t, i < 16 → (reg M t).getD i 0 = sched M (t + i)
  | 0, t, _ => rfl
  | i + 1, t, h => by
    have ih := reg_at M hM i (t + 1) (by omega)
    have hl := reg_length M hM t
    have e : (reg M (t + 1)).getD i 0 = (reg M t).getD (i + 1) 0 := by
      show (regStep (reg M t)).getD i 0 = _
      unfold regStep
      simp only [List.getD_eq_getElem?_getD]
      rw [List.getElem?_append_left (by simp [hl]; omega), List.getElem?_drop]
      congr 2
      omega
    rw [← e, ih]
    congr 1
    omega
theorem sched_low (M : List (BitVec 32)) (hM : M.length = 16) (i : Nat) (hi : i < 16) : sched M i = M.getD i 0 := by
  have := reg_at M hM i 0 hi
  rw [Nat.zero_add] at this
  exact this.symm
theorem sched_high (M : List (BitVec 32)) (hM : M.length = 16) (t : Nat) :
    sched M (t + 16) = sched M t + (rorx2s (sched M (t + 1)) 7 18 3 + sched M (t + 9) + rorx2s (sched M (t + 14)) 17 19 10) := by
  have hl := reg_length M hM t
  have h15 := reg_at M hM 15 (t + 1) (by omega)
  rw [show t + 16 = t + 1 + 15 by omega, ← h15]
  show (regStep (reg M t)).getD 15 0 = _
  unfold regStep
  rw [reg_at M hM 1 t (by omega), reg_at M hM 9 t (by omega), reg_at M hM 14 t (by omega), reg_at M hM 0 t (by omega)]
  simp only [List.getD_eq_getElem?_getD]
  rw [List.getElem?_append_right (by simp [hl])]
  simp [hl]

/-- The eight words of a state. -/
structure St where
  a : BitVec 32
  b : BitVec 32
  c : BitVec 32
  d : BitVec 32
  e : BitVec 32
  f : BitVec 32
  g : BitVec 32
  h : BitVec 32
def rnd1 (s : St) (k w : BitVec 32) : BitVec 32 := s.h + rorx3 s.e 6 11 25 + (s.g ^^^ s.e &&& (s.f ^^^ s.g)) + k + w
def rnd2 (s : St) : BitVec 32 := rorx3 s.a 2 13 22 + (s.a &&& s.b ||| s.c &&& (s.a ||| s.b))
def rnd (s : St) (k w : BitVec 32) : St := ⟨rnd1 s k w + rnd2 s, s.a, s.b, s.c, s.d + rnd1 s k w, s.e, s.f, s.g⟩
def rounds (K : Nat → BitVec 32) (M : List (BitVec 32)) (s : St) : Nat → St
  | 0 => s
  | t + 1 => rnd (rounds K M s t) (K t) (sched M t)
def St.at (s : St) : Nat → BitVec 32
  | 0 => s.a
  | 1 => s.b
  | 2 => s.c
  | 3 => s.d
  | 4 => s.e
  | 5 => s.f
  | 6 => s.g
  | _ => s.h
def St.plus (s t : St) : St := ⟨s.a + t.a, s.b + t.b, s.c + t.c, s.d + t.d, s.e + t.e, s.f + t.f, s.g + t.g, s.h + t.h⟩
theorem St.at_plus (s t : St) : ∀ i, (s.plus t).at i = s.at i + t.at i
  | 0 => rfl
  | 1 => rfl
  | 2 => rfl
  | 3 => rfl
  | 4 => rfl
  | 5 => rfl
  | 6 => rfl
  | _ + 7 => rfl
/-- A block's words, of its bytes. -/
def blockWords (B : Nat → BitVec 8) : List (BitVec 32) := (List.range 16).map fun t => word4 (B (4 * t)) (B (4 * t + 1)) (B (4 * t + 2)) (B (4 * t + 3))
theorem blockWords_length (B : Nat → BitVec 8) : (blockWords B).length = 16 := by simp [blockWords]
theorem blockWords_at (B : Nat → BitVec 8) (t : Nat) (h : t < 16) : (blockWords B).getD t 0 = word4 (B (4 * t)) (B (4 * t + 1)) (B (4 * t + 2)) (B (4 * t + 3)) := by
  simp [blockWords, h]
/-- The state behind a block. -/
def mixed (K : Nat → BitVec 32) (s : St) (B : Nat → BitVec 8) : St := s.plus (rounds K (blockWords B) s 64)
/-- The state behind n blocks of a list of bytes. -/
def absorb (K : Nat → BitVec 32) : Nat → St → List (BitVec 8) → St
  | 0, s, _ => s
  | n + 1, s, l => absorb K n (mixed K s fun i => l.getD i 0) (l.drop 64)
theorem absorb_succ (K : Nat → BitVec 32) : ∀ (n : Nat) (s : St) (l : List (BitVec 8)), absorb K (n + 1) s l = mixed K (absorb K n s l) fun i => (l.drop (64 * n)).getD i 0
  | 0, s, l => by simp [absorb]
  | n + 1, s, l => by
    have := absorb_succ K n (mixed K s fun i => l.getD i 0) (l.drop 64)
    rw [List.drop_drop, show 64 + 64 * n = 64 * (n + 1) by omega] at this
    exact this
/-- Bytes as the walk's cells have them. -/
def bv (l : List (BitVec 8)) : List Value := l.map fun b => .int .u8 (bn b)
theorem bv_length (l : List (BitVec 8)) : (bv l).length = l.length := by simp [bv]
theorem bv_append (l m : List (BitVec 8)) : bv (l ++ m) = bv l ++ bv m := by simp [bv]
theorem bv_drop (l : List (BitVec 8)) (k : Nat) : bv (l.drop k) = (bv l).drop k := by simp [bv]
theorem bv_take (l : List (BitVec 8)) (k : Nat) : bv (l.take k) = (bv l).take k := by simp [bv]
theorem bv_one (l : List (BitVec 8)) : ∀ u ∈ bv l, u.oneCell' = true := by
  intro u hu
  obtain ⟨b, _, rfl⟩ := List.mem_map.1 hu
  rfl
theorem bv_at (l : List (BitVec 8)) (j : Nat) (h : j < l.length) : (bv l)[j]? = some (.int .u8 (bn (l.getD j 0))) := by simp [bv, h]
end Go.Proofs.YtdbhlajajdlmfaaDoor
/- Small laws of the model, of whatever program: an array value indexed. -/
namespace Go.Proofs.YtdbhlajajdlmfaaDoor
open Go.RowKit

theorem run_index_cells {P : Program} {t e len : Nat} {k : IntKind} (ht : P.underlying t = some (.array len e)) (he : P.underlying e = some (.int k)) (hs : (P.info? e).map (·.size) = some 1)
    {cs : Array Value} {i : Nat} {v : Value} (hi : i < len) (hv : cs[i]? = some v) (w : World) :
    (Instr.index t (.agg cs) (.int .i64 (i : Int))).run P w = .ok v w := by
  obtain ⟨i0, hi0, hz⟩ := Option.map_eq_some_iff.1 hs
  have hc : P.cellsOf e = 1 := by simp [Program.cellsOf, hi0, hz]
  simp [Instr.index, asIntOf, run_underlying ht, run_sizeOf w hi0, hc, hi, part, isAgg, run_underlying he, hv]
theorem heap_lt {w : World} {b : Nat} {o : Obj} (h : w.heap[b]? = some o) : b < w.heap.size := (Array.getElem?_eq_some_iff.1 h).1
theorem below_drewN' (k : Nat) (w : World) (n : Nat) : Below k w (w.drewN n) := ⟨rfl, rfl, rfl, Nat.le_refl _, fun _ _ => rfl⟩
end Go.Proofs.YtdbhlajajdlmfaaDoor
/- The walks of package sha's inner functions on words: word, small, great, mix (and bits.RotateLeft32): each computes the plain function of XSha. -/
namespace Go.Proofs.YtdbhlajajdlmfaaDoor
open Go.RowKit
attribute [local go_sem] wn_add wn_xor wn_and wn_or wn_shr wn_shl bn_wide wn_shl24 wn_shl16 wn_shl8
theorem rot_amount (a : Nat) (h1 : 1 ≤ a) (h2 : a ≤ 31) : bits .and .u64 (IntKind.u64.wrap (-(a : Int))) 31 = ((32 - a : Nat) : Int) := by
  have : ∀ a : Fin 32, 1 ≤ a.val → bits .and .u64 (IntKind.u64.wrap (-(a.val : Int))) 31 = ((32 - a.val : Nat) : Int) := by decide
  exact this ⟨a, by omega⟩ h1
set_option maxHeartbeats 400000 in
theorem rot_any (x : BitVec 32) (a : Nat) (h1 : 1 ≤ a) (h2 : a ≤ 31) (w : World) :
    Calls Tryd.prog 108 #[.int .u32 (wn x), .int .i64 (-(a : Int))] w fun e w' => e = .returned (.int .u32 (wn (ror x a))) ∧ w' = w := by
  have e1 := rot_amount a h1 h2
  have s3 : IntKind.u64.wrap (32 - ((32 - a : Nat) : Int)) = (a : Int) := by rw [IntKind.wrap_u64]; omega
  have s4 : 32 - a ≤ 32 := by omega
  have o1 : bits .or .u32 (wn (x <<< (32 - a))) (wn (x >>> a)) = wn (ror x a) := by
    rw [wn_or]; unfold ror; rw [BitVec.or_comm]
  go_enter Tryd.func108, Tryd.ntmps108
  go_wp2
  go_ret
  exact ⟨rfl, rfl⟩
set_option maxHeartbeats 400000 in
theorem great_any (x : BitVec 32) (i j k : Int) (ha : 1 ≤ i ∧ i ≤ 31) (hb : 1 ≤ j ∧ j ≤ 31) (hc : 1 ≤ k ∧ k ≤ 31) (w : World) :
    Calls Tryd.prog 103 #[.int .u32 (wn x), .int .i64 i, .int .i64 j, .int .i64 k] w fun e w' => e = .returned (.int .u32 (wn (rorx3 x i.toNat j.toNat k.toNat))) ∧ w' = w := by
  obtain ⟨a, rfl⟩ := Int.eq_ofNat_of_zero_le (show 0 ≤ i by omega)
  obtain ⟨b, rfl⟩ := Int.eq_ofNat_of_zero_le (show 0 ≤ j by omega)
  obtain ⟨c, rfl⟩ := Int.eq_ofNat_of_zero_le (show 0 ≤ k by omega)
  go_enter Tryd.func103, Tryd.ntmps103
  go_wp2_with fail
  refine (rot_any x a (by omega) (by omega) _).mono ?_; rintro e w' ⟨rfl, rfl⟩
  go_wp2_with fail
  refine (rot_any x b (by omega) (by omega) _).mono ?_; rintro e w' ⟨rfl, rfl⟩
  go_wp2_with fail
  refine (rot_any x c (by omega) (by omega) _).mono ?_; rintro e w' ⟨rfl, rfl⟩
  go_wp2
  go_ret
  exact ⟨rfl, rfl⟩
set_option maxHeartbeats 400000 in
theorem small_any (x : BitVec 32) (i j k : Int) (ha : 1 ≤ i ∧ i ≤ 31) (hb : 1 ≤ j ∧ j ≤ 31) (hc : 1 ≤ k ∧ k ≤ 31) (w : World) :
    Calls Tryd.prog 102 #[.int .u32 (wn x), .int .i64 i, .int .i64 j, .int .i64 k] w fun e w' => e = .returned (.int .u32 (wn (rorx2s x i.toNat j.toNat k.toNat))) ∧ ∃ n, w' = w.drewN n := by
  obtain ⟨a, rfl⟩ := Int.eq_ofNat_of_zero_le (show 0 ≤ i by omega)
  obtain ⟨b, rfl⟩ := Int.eq_ofNat_of_zero_le (show 0 ≤ j by omega)
  obtain ⟨c, rfl⟩ := Int.eq_ofNat_of_zero_le (show 0 ≤ k by omega)
  go_enter Tryd.func102, Tryd.ntmps102
  go_wp2_with fail
  go_quiet ((go_at_call 108; exact Calls.quiet_of_same (rot_any _ _ (by omega) (by omega) _)))
  go_wp2
  go_ret
  exact ⟨rfl, _, rfl⟩
set_option maxHeartbeats 400000 in
theorem word_any (g o n c : Nat) (b0 b1 b2 b3 : BitVec 8) (w : World) (hn : 4 ≤ n)
    (c0 : w.cell? ⟨g, o, none⟩ = some (.int .u8 (bn b0))) (c1 : w.cell? ⟨g, o + 1, none⟩ = some (.int .u8 (bn b1)))
    (c2 : w.cell? ⟨g, o + 2, none⟩ = some (.int .u8 (bn b2))) (c3 : w.cell? ⟨g, o + 3, none⟩ = some (.int .u8 (bn b3))) :
    Calls Tryd.prog 101 #[.slice (some ⟨g, o, none⟩) n c] w fun e w' => e = .returned (.int .u32 (wn (word4 b0 b1 b2 b3))) ∧ ∃ n, w' = w.drewN n := by
  have h0 : (0 : Int) < n := by omega
  have h1 : (1 : Int) < n := by omega
  have h2 : (2 : Int) < n := by omega
  have h3 : (3 : Int) < n := by omega
  go_enter Tryd.func101, Tryd.ntmps101
  go_wp2
  go_quiet (fail)
  go_wp2
  go_ret
  exact ⟨rfl, _, rfl⟩

/-- Block b is a ring of sixteen words. -/
def ringIs (w : World) (b : Nat) (f : Nat → BitVec 32) : Prop := w.rowIs b 149 16 (fun i => .int .u32 (wn (f i)))
theorem ringIs.drewN {w : World} {b : Nat} {f : Nat → BitVec 32} (h : ringIs w b f) (n : Nat) : ringIs (w.drewN n) b f := h
theorem ringIs.cell {w : World} {b : Nat} {f : Nat → BitVec 32} (h : ringIs w b f) {i : Nat} (hi : i < 16) : w.cell? ⟨b, i, none⟩ = some (.int .u32 (wn (f i))) := World.rowIs.cell h hi
theorem ringIs.free {w : World} {b : Nat} {f : Nat → BitVec 32} (h : ringIs w b f) (i : Nat) : w.frozen? ⟨b, i, none⟩ = false := World.rowIs.frozen h i
theorem ringIs.set {w : World} {b : Nat} {f g : Nat → BitVec 32} (h : ringIs w b f) (i : Nat) (v : BitVec 32) (hg : ∀ j, j < 16 → g j = if j = i then v else f j) : ringIs (w.setCell ⟨b, i, none⟩ (.int .u32 (wn v))) b g :=
  (World.rowIs.set h i _).congr fun j hj => by rw [hg j hj]; split <;> rfl
/-- n bytes at a place. -/
def bytesAt (w : World) (g o : Nat) (n : Nat) (B : Nat → BitVec 8) : Prop := ∀ j, j < n → w.cell? ⟨g, o + j, none⟩ = some (.int .u8 (bn (B j)))
theorem bytesAt.below {w w' : World} {g o n : Nat} {B : Nat → BitVec 8} (h : bytesAt w g o n B) {k : Nat} (hb : Below k w w') (hk : g < k) : bytesAt w' g o n B :=
  fun j hj => (hb.cell (p := ⟨g, o + j, none⟩) hk).trans (h j hj)
end Go.Proofs.YtdbhlajajdlmfaaDoor
/- A region that draws its order, walked once in the order of the text: operations that only read yield, in every world of a class, one value; those that turn the world stand in one order among themselves, and leave a world of the class; the tail stands in one order behind all others. Of whatever program. -/
namespace Go.Proofs.YtdbhlajajdlmfaaDoor
open Go
section
variable {P : Program} {ops : Array Oper} {C : World → Prop} {E : Nat → Bool}

/-- An operation that hands back a value or nothing: no call of a Go function, no defer. -/
def isV : Op → Bool
  | .call { callee := .builtin .len, .. } => true
  | .call { callee := .builtin .cap, .. } => true
  | .call { callee := .builtin .min, .. } => true
  | .call { callee := .builtin .max, .. } => true
  | .call _ => false
  | .go _ => false
  | .defer _ => false
  | .send .. => false
  | .recv .. => false
  | .select .. => false
  | _ => true

/-- What it hands back is a value or nothing. -/
def plainRes : Result Next → Prop
  | .ok (.value _) _ => True
  | .ok .skip _ => True
  | .ok _ _ => False
  | .halt _ _ => True
theorem plainRes_v (s : Sem Value) (w : World) : plainRes ((do pure (Next.value (← s)) : Sem Next).run P w) := by
  simp only [Sem.run_bind]
  cases s.run P w <;> simp [Result.andThen, plainRes]
theorem plainRes_u (s : Sem Unit) (w : World) : plainRes ((do s; pure Next.skip : Sem Next).run P w) := by
  simp only [Sem.run_bind]
  cases s.run P w <;> simp [Result.andThen, plainRes]
theorem plainRes_bind {α : Type} (s : Sem α) (f : α → Sem Next) (w : World) (h : ∀ x w', plainRes ((f x).run P w')) : plainRes ((s >>= f).run P w) := by
  simp only [Sem.run_bind]
  cases s.run P w with
  | ok x w' => exact h x w'
  | halt x w' => simp [Result.andThen, plainRes]
theorem plainRes_pure (v : Value) (w : World) : plainRes ((pure (Next.value v) : Sem Next).run P w) := by simp [plainRes]
theorem plainRes_nil (w : World) : plainRes ((runtimePanic .nilDeref : Sem Next).run P w) := by
  unfold runtimePanic
  exact plainRes_bind _ _ _ fun _ _ => by simp [goPanic, plainRes]
theorem isV_run {o : Oper} (h : isV o.op = true) (ρ : Operand → Value) (w : World) : plainRes ((execOp ρ o).run P w) := by
  obtain ⟨dst, op, type, pos, after, guard⟩ := o
  cases op
  case call c =>
    obtain ⟨callee, args, ats⟩ := c
    cases callee with
    | value f => simp [isV] at h
    | invoke r m => simp [isV] at h
    | builtin b => cases b <;> first | (simp [isV] at h; done) | exact plainRes_v _ _
  case go c => simp [isV] at h
  case defer c => simp [isV] at h
  case send c x => simp [isV] at h
  case recv c x b => simp [isV] at h
  case select c b => simp [isV] at h
  case nilCheck x =>
    simp only [execOp]
    split <;> first | exact plainRes_nil _ | exact plainRes_pure _ _ | skip
    split <;> first | exact plainRes_nil _ | exact plainRes_pure _ _ | skip
    refine plainRes_bind _ _ _ fun _ _ => plainRes_bind _ _ _ fun b _ => ?_
    split
    · exact plainRes_bind _ _ _ fun _ _ => plainRes_pure _ _
    · exact plainRes_pure _ _
  case pick c a b =>
    simp only [execOp]
    refine plainRes_bind _ _ _ fun b _ => ?_
    split <;> exact plainRes_pure _ _
  all_goals (simp only [execOp]; first | exact plainRes_pure _ _ | exact plainRes_v _ _ | exact plainRes_u _ _)

/-- In this world it hands back this value, and the world stands. -/
def qAt (P : Program) (o : Oper) (a : Act) (w : World) (v : Value) : Prop :=
  (execOp a.eval o).run P w = .ok (.value v) w ∨ ((execOp a.eval o).run P w = .ok .skip w ∧ v = undef)
theorem qAt_of_quietAt {o : Oper} {a : Act} {w : World} {v : Value} (h : isV o.op = true) (hq : o.quietAt P a C w v) : qAt P o a w v := by
  have hp := isV_run (P := P) h a.eval w
  unfold Oper.quietAt at hq
  unfold qAt
  generalize (execOp a.eval o).run P w = r at *
  cases r with
  | ok n w' =>
    cases n <;> simp only [Oper.quietUpon] at hq <;> simp only [plainRes] at hp
    case value u => obtain ⟨rfl, rfl⟩ := hq; exact .inl rfl
    case skip => obtain ⟨rfl, rfl⟩ := hq; exact .inr ⟨rfl, rfl⟩
  | halt x w' => simp only [Oper.quietUpon] at hq
theorem qAt_unique {o : Oper} {a : Act} {w : World} {v u : Value} (h : qAt P o a w v) (k : qAt P o a w u) : v = u := by
  rcases h with h | ⟨h, rfl⟩ <;> rcases k with k | ⟨k, rfl⟩
  · rw [h] at k; simpa using k
  · rw [h] at k; simp at k
  · rw [h] at k; simp at k
  · rfl
theorem qAt_wp {o : Oper} {a : Act} {w : World} {v : Value} {K : Act → World → Prop} {Q : Exit → Act → World → Prop} (h : qAt P o a w v) (hk : K (a.put o.dst v) w) : o.wp P a w K Q := by
  unfold Oper.wp
  rcases h with h | ⟨h, rfl⟩ <;> rw [h] <;> exact hk

/-- No way out but by the operation's own end. -/
def noOut : Exit → Act → World → Prop := fun _ _ _ => False
theorem wp_noOut {o : Oper} {a : Act} {w : World} {K : Act → World → Prop} {Q : Exit → Act → World → Prop} (h : o.wp P a w K noOut) : o.wp P a w K Q := by
  unfold Oper.wp at *
  generalize (execOp a.eval o).run P w = r at *
  cases r with
  | ok n w' =>
    cases n <;> simp only [Oper.upon] at h ⊢ <;> try exact h
    exact Calls.mono h fun e w'' he => by cases e <;> first | exact he | exact (he : False).elim | exact (by obtain ⟨_, _, hf⟩ := (he : LetsOut noOut); exact hf.elim)
  | halt x w' => cases x <;> simp only [Oper.upon] at h ⊢ <;> first | exact h.elim | exact (h : False).elim
/-- A slot that the operation does not look at may be written before it or behind it. -/
theorem wp_put {o : Oper} (hs : ∀ cs b, o.op ≠ .select cs b) {a : Act} {w : World} {dst : Option Tmp} {u : Value} (h1 : ∀ d, dst = some d → d ∉ o.looksAt ops) (h2 : ∀ d, dst = some d → o.dst ≠ some d)
    {K : Act → World → Prop} : o.wp P (a.put dst u) w K noOut ↔ o.wp P a w (fun a' w' => K (a'.put dst u) w') noOut := by
  unfold Oper.wp
  rw [execOp_put (ops := ops) o hs a dst u h1]
  generalize (execOp a.eval o).run P w = r
  have hc : ∀ v, (a.put dst u).put o.dst v = (a.put o.dst v).put dst u := fun v => Act.put_comm a u v h2
  cases r with
  | ok n w' =>
    cases n <;> simp only [Oper.upon, hc]
    case defer d =>
      have e : ({ a.put dst u with defers := d :: (a.put dst u).defers } : Act) = ({ a with defers := d :: a.defers } : Act).put dst u := Act.put_defers a dst u d
      rw [e, Act.put_comm _ u undef h2]
    case enter f args =>
      constructor <;> exact fun h => Calls.mono h fun e w'' he => by cases e <;> exact he
  | halt x w' => cases x <;> simp only [Oper.upon] <;> exact Iff.rfl

/-- One operation of the prefix. -/
def stepL (P : Program) (ops : Array Oper) (C : World → Prop) (eff : Bool) (o : Oper) (K : Act → World → Prop) (a : Act) (w : World) : Prop :=
  if Region.wanted o (yielded ops a.tmps) = true then
    (if eff = true then o.wp P a w (fun a' w' => C w' ∧ K a' w') noOut else ∃ v, (∀ w', C w' → qAt P o a w' v) ∧ K (a.put o.dst v) w)
  else K (a.put o.dst undef) w
theorem stepL_mono {eff : Bool} {o : Oper} {K K' : Act → World → Prop} (h : ∀ a w, C w → K a w → K' a w) {a : Act} {w : World} (hC : C w) (hs : stepL P ops C eff o K a w) : stepL P ops C eff o K' a w := by
  unfold stepL at *
  split
  · rename_i hw
    rw [if_pos hw] at hs
    split
    · rename_i he
      rw [if_pos he] at hs
      exact Oper.wp_mono (fun a w ⟨c, k⟩ => ⟨c, h a w c k⟩) hs
    · rename_i he
      rw [if_neg he] at hs
      obtain ⟨v, hv, hk⟩ := hs
      exact ⟨v, hv, h _ _ hC hk⟩
  · rename_i hw
    rw [if_neg hw] at hs
    exact h _ _ hC hs
theorem qAt_put {o : Oper} (hs : ∀ cs b, o.op ≠ .select cs b) {a : Act} {w : World} {dst : Option Tmp} {u v : Value} (h1 : ∀ d, dst = some d → d ∉ o.looksAt ops) : qAt P o (a.put dst u) w v ↔ qAt P o a w v := by
  unfold qAt
  rw [execOp_put (ops := ops) o hs a dst u h1]
/-- What a wp of an operation shows of some frame behind it. -/
theorem wp_some {o : Oper} {a : Act} {w : World} {K : Act → World → Prop} (h : o.wp P a w K noOut) : ∃ b v w', K (({ a with defers := b } : Act).put o.dst v) w' := by
  unfold Oper.wp at h
  generalize (execOp a.eval o).run P w = r at *
  cases r with
  | ok n w' =>
    cases n <;> simp only [Oper.upon] at h
    case value v => exact ⟨a.defers, v, w', h⟩
    case skip => exact ⟨a.defers, undef, w', h⟩
    case defer d => exact ⟨d :: a.defers, undef, w', h⟩
    case enter f args =>
      obtain ⟨e, w'', fr, he, _⟩ := h []
      cases e with
      | returned v => exact ⟨a.defers, v, w'', he⟩
      | panicked c => exact (he : False).elim
      | outgrown => obtain ⟨_, _, hf⟩ := (he : LetsOut noOut); exact hf.elim
    case row r args =>
      obtain ⟨v, w'', he, _⟩ := h default []
      exact ⟨a.defers, v, w'', he⟩
  | halt x w' => cases x <;> simp only [Oper.upon] at h <;> first | exact h.elim | exact (h : False).elim
theorem wp_mono_put {o : Oper} {a : Act} {w : World} {K K' : Act → World → Prop} (hk : ∀ b v w', K (({ a with defers := b } : Act).put o.dst v) w' → K' (({ a with defers := b } : Act).put o.dst v) w') (h : o.wp P a w K noOut) : o.wp P a w K' noOut := by
  unfold Oper.wp at *
  generalize (execOp a.eval o).run P w = r at *
  cases r with
  | ok n w' =>
    cases n <;> simp only [Oper.upon] at h ⊢
    case value v => exact hk a.defers v w' h
    case skip => exact hk a.defers undef w' h
    case defer d => exact hk _ undef w' h
    case enter f args => exact Calls.mono h fun e w'' he => by cases e <;> first | exact hk a.defers _ _ he | exact he
    case row r args => exact Rows.mono h fun v w'' he => hk a.defers v _ he
  | halt x w' => cases x <;> simp only [Oper.upon] at h ⊢ <;> exact h
theorem qAt_defers {o : Oper} {a : Act} {w : World} {v : Value} (b : List Deferred) : qAt P o { a with defers := b } w v ↔ qAt P o a w v := by
  have e : (({ a with defers := b } : Act).eval) = a.eval := by funext x; cases x <;> rfl
  unfold qAt
  rw [e]
/-- TWO STEPS MAY CHANGE PLACES: apart, and not both of those that turn the world. -/
theorem stepL_swap {ei ej : Bool} {oi oj : Oper} (hsi : ∀ cs b, oi.op ≠ .select cs b) (hsj : ∀ cs b, oj.op ≠ .select cs b) (hap : oi.apart ops oj = true) (hE : ei = false ∨ ej = false)
    {K : Act → World → Prop} {a : Act} {w : World} (hC : C w) (h : stepL P ops C ei oi (stepL P ops C ej oj K) a w) : stepL P ops C ej oj (stepL P ops C ei oi K) a w := by
  obtain ⟨h1, h2, h3⟩ := Oper.apart_spec hap
  have h2' : ∀ d, oj.dst = some d → oi.dst ≠ some d := fun d hd he => h2 d he hd
  have wj : ∀ (a : Act) v, Region.wanted oj (yielded ops (a.put oi.dst v).tmps) = Region.wanted oj (yielded ops a.tmps) := fun a v => wanted_put oj a oi.dst v h1
  have wi : ∀ (a : Act) v, Region.wanted oi (yielded ops (a.put oj.dst v).tmps) = Region.wanted oi (yielded ops a.tmps) := fun a v => wanted_put oi a oj.dst v h3
  have pc : ∀ (a : Act) v u, (a.put oi.dst v).put oj.dst u = (a.put oj.dst u).put oi.dst v := fun a v u => Act.put_comm a v u h2
  by_cases hwi : Region.wanted oi (yielded ops a.tmps) = true
  · by_cases hei : ei = true
    · have hej : ej = false := hE.resolve_left (by simp [hei])
      subst hei hej
      unfold stepL at h
      rw [if_pos hwi, if_pos rfl] at h
      by_cases hwj : Region.wanted oj (yielded ops a.tmps) = true
      · have key : ∀ b v w', (C w' ∧ stepL P ops C false oj K (({ a with defers := b } : Act).put oi.dst v) w') → C w' ∧ ∃ u, (∀ w'', C w'' → qAt P oj a w'' u) ∧ K ((({ a with defers := b } : Act).put oi.dst v).put oj.dst u) w' := by
          rintro b v w' ⟨hc, hs⟩
          unfold stepL at hs
          rw [if_pos (by rw [wj]; exact hwj), if_neg (by simp)] at hs
          obtain ⟨u, hu, hk⟩ := hs
          exact ⟨hc, u, fun w'' hw'' => (qAt_defers b).1 ((qAt_put (ops := ops) hsj h1).1 (hu w'' hw'')), hk⟩
        obtain ⟨b, v, w', hs⟩ := wp_some h
        obtain ⟨_, u, hu, _⟩ := key b v w' hs
        unfold stepL
        rw [if_pos hwj, if_neg (by simp)]
        refine ⟨u, hu, ?_⟩
        rw [if_pos (by rw [wi]; exact hwi), if_pos rfl]
        refine (wp_put (ops := ops) hsi h3 h2').2 (wp_mono_put (fun b v w' hs => ?_) h)
        obtain ⟨hc, u', hu', hk⟩ := key b v w' hs
        rw [qAt_unique (hu w hC) (hu' w hC)]
        exact ⟨hc, hk⟩
      · unfold stepL
        rw [if_neg hwj, if_pos (by rw [wi]; exact hwi), if_pos rfl]
        refine (wp_put (ops := ops) hsi h3 h2').2 (wp_mono_put (fun b v w' hs => ?_) h)
        obtain ⟨hc, hs⟩ := hs
        rw [if_neg (by rw [wj]; exact hwj)] at hs
        exact ⟨hc, hs⟩
    · have hei' : ei = false := by simpa using hei
      subst hei'
      unfold stepL at h
      rw [if_pos hwi, if_neg (by simp)] at h
      obtain ⟨v, hv, h⟩ := h
      unfold stepL
      by_cases hwj : Region.wanted oj (yielded ops a.tmps) = true
      · rw [if_pos (by rw [wj]; exact hwj)] at h
        rw [if_pos hwj]
        by_cases hej : ej = true
        · subst hej
          rw [if_pos rfl] at h ⊢
          refine wp_mono_put (fun b u w' hs => ?_) ((wp_put (ops := ops) hsj h1 h2).1 h)
          obtain ⟨hc, hk⟩ := hs
          refine ⟨hc, ?_⟩
          rw [if_pos (by rw [wi]; exact hwi), if_neg (by simp)]
          exact ⟨v, fun w'' hw'' => (qAt_put (ops := ops) hsi h3).2 ((qAt_defers b).2 (hv w'' hw'')), hk⟩
        · rw [if_neg hej] at h ⊢
          obtain ⟨u, hu, hk⟩ := h
          refine ⟨u, fun w'' hw'' => (qAt_put (ops := ops) hsj h1).1 (hu w'' hw''), ?_⟩
          rw [if_pos (by rw [wi]; exact hwi), if_neg (by simp)]
          exact ⟨v, fun w'' hw'' => (qAt_put (ops := ops) hsi h3).2 (hv w'' hw''), by rw [← pc]; exact hk⟩
      · rw [if_neg (by rw [wj]; exact hwj)] at h
        rw [if_neg hwj, if_pos (by rw [wi]; exact hwi), if_neg (by simp)]
        exact ⟨v, fun w'' hw'' => (qAt_put (ops := ops) hsi h3).2 (hv w'' hw''), by rw [← pc]; exact h⟩
  · unfold stepL at h
    rw [if_neg hwi] at h
    unfold stepL
    by_cases hwj : Region.wanted oj (yielded ops a.tmps) = true
    · rw [if_pos (by rw [wj]; exact hwj)] at h
      rw [if_pos hwj]
      by_cases hej : ej = true
      · subst hej
        rw [if_pos rfl] at h ⊢
        refine wp_mono_put (fun b u w' hs => ?_) ((wp_put (ops := ops) hsj h1 h2).1 h)
        obtain ⟨hc, hk⟩ := hs
        refine ⟨hc, ?_⟩
        rw [if_neg (by rw [wi]; exact hwi)]
        exact hk
      · rw [if_neg hej] at h ⊢
        obtain ⟨u, hu, hk⟩ := h
        refine ⟨u, fun w'' hw'' => (qAt_put (ops := ops) hsj h1).1 (hu w'' hw''), ?_⟩
        rw [if_neg (by rw [wi]; exact hwi), ← pc]
        exact hk
    · rw [if_neg (by rw [wj]; exact hwj)] at h
      rw [if_neg hwj, if_neg (by rw [wi]; exact hwi), ← pc]
      exact h

/-- The prefix, in the order of the list; T behind it. -/
def wpLs (P : Program) (ops : Array Oper) (C : World → Prop) (E : Nat → Bool) (T : Act → World → Prop) : List Nat → Act → World → Prop
  | [], a, w => T a w
  | i :: l, a, w => match ops[i]? with
    | some o => stepL P ops C (E i) o (wpLs P ops C E T l) a w
    | none => False
theorem wpLs_front {T : Act → World → Prop} (hs : ∀ (j : Nat) (o : Oper) cs b, ops[j]? = some o → o.op ≠ .select cs b) {j : Nat} {oj : Oper} (hj : ops[j]? = some oj) : ∀ (p q : List Nat) (a : Act) (w : World),
    (∀ i ∈ p, ∀ oi, ops[i]? = some oi → oi.apart ops oj = true ∧ (E i = false ∨ E j = false)) → C w → wpLs P ops C E T (p ++ j :: q) a w → stepL P ops C (E j) oj (wpLs P ops C E T (p ++ q)) a w
  | [], q, a, w, _, _, h => by simpa [wpLs, hj] using h
  | i :: p, q, a, w, hp, hC, h => by
    simp only [List.cons_append, wpLs] at h
    cases hi : ops[i]? with
    | none => rw [hi] at h; exact h.elim
    | some oi =>
      rw [hi] at h
      simp only at h
      obtain ⟨hap, hE⟩ := hp i (by simp) oi hi
      have ih := stepL_mono (fun a w hc hk => wpLs_front hs hj p q a w (fun x hx => hp x (by simp [hx])) hc hk) hC h
      have := stepL_swap (hs i oi · · hi) (hs j oj · · hj) hap hE hC ih
      refine stepL_mono (fun a w _ hk => ?_) hC this
      simp only [List.cons_append, wpLs, hi]
      exact hk

theorem stepL_wpOp {i : Nat} {o : Oper} (hi : ops[i]? = some o) {eff : Bool} {K K' : Act → World → Prop} {Q : Exit → Act → World → Prop} (h : ∀ a w, C w → K a w → K' a w) {a : Act} {w : World} (hC : C w) (hs : stepL P ops C eff o K a w) : wpOp P ops Q i K' a w := by
  unfold stepL at hs
  unfold wpOp
  simp only [hi]
  split
  · rename_i hw
    rw [if_pos hw] at hs
    by_cases he : eff = true
    · rw [if_pos he] at hs
      exact .inl (wp_noOut (Oper.wp_mono (fun a w ⟨c, k⟩ => h a w c k) hs))
    · rw [if_neg he] at hs
      obtain ⟨v, hv, hk⟩ := hs
      exact .inl (qAt_wp (hv w hC) (h _ _ hC hk))
  · rename_i hw
    rw [if_neg hw] at hs
    exact h _ _ hC hs

/-- A certificate: number k's bits are operations that come ahead of k in every order. -/
def maskOk (ops : Array Oper) (M : Array Nat) : Bool := (List.range ops.size).all fun k => match ops[k]? with
  | none => false
  | some o => (o.after.all fun e => !Region.binds .any e || decide (e.on < k)) && (List.range ops.size).all fun j => !(M.getD k 0).testBit j || o.after.any fun e => Region.binds .any e && (e.on == j || (decide (e.on < k) && (M.getD e.on 0).testBit j))
def pairsOk (ops : Array Oper) (E : Nat → Bool) (N : Nat) (M : Array Nat) : Bool := (List.range ops.size).all fun k => (List.range k).all fun j => (M.getD k 0).testBit j || (decide (k < N) && match ops[j]?, ops[k]? with
  | some oj, some ok => oj.apart ops ok && (!E j || !E k)
  | _, _ => false)
def lexOK (ops : Array Oper) (E : Nat → Bool) (N : Nat) (M : Array Nat) : Bool := Region.noSelect ops && maskOk ops M && pairsOk ops E N M && decide (N ≤ ops.size)

def Closed (ops : Array Oper) (listed : Array Bool) : Prop := ∀ k o, ops[k]? = some o → listed.getD k false = true → ∀ e ∈ o.after, Region.binds .any e = true → listed.getD e.on false = true
theorem mask_listed {M : Array Nat} (hM : maskOk ops M = true) {listed : Array Bool} (hc : Closed ops listed) : ∀ (k : Nat) (o : Oper), ops[k]? = some o → (∀ e ∈ o.after, Region.binds .any e = true → listed.getD e.on false = true) →
    ∀ j, j < ops.size → (M.getD k 0).testBit j = true → listed.getD j false = true := by
  intro k
  induction k using Nat.strongRecOn with
  | _ k ih =>
    intro o ho he j hj hb
    have hk : k < ops.size := (Array.getElem?_eq_some_iff.1 ho).1
    have h1 := List.all_eq_true.1 hM k (List.mem_range.2 hk)
    rw [ho] at h1
    simp only [Bool.and_eq_true] at h1
    have h2 := List.all_eq_true.1 h1.2 j (List.mem_range.2 hj)
    simp only [hb, Bool.not_true, Bool.false_or] at h2
    obtain ⟨e, hem, hx⟩ := Array.any_eq_true'.1 h2
    simp only [Bool.and_eq_true, Bool.or_eq_true, beq_iff_eq, decide_eq_true_eq] at hx
    obtain ⟨hbind, hx⟩ := hx
    have hl := he e hem hbind
    rcases hx with rfl | ⟨hlt, hbit⟩
    · exact hl
    · have hon : e.on < ops.size := by omega
      have ho' : ops[e.on]? = some ops[e.on] := Array.getElem?_eq_getElem hon
      exact ih e.on hlt _ ho' (hc e.on _ ho' hl) j hj hbit
theorem edges_back {M : Array Nat} (hM : maskOk ops M = true) {k : Nat} {o : Oper} (ho : ops[k]? = some o) : ∀ e ∈ o.after, Region.binds .any e = true → e.on < k := by
  intro e he hb
  have hk : k < ops.size := (Array.getElem?_eq_some_iff.1 ho).1
  have h1 := List.all_eq_true.1 hM k (List.mem_range.2 hk)
  rw [ho] at h1
  simp only [Bool.and_eq_true] at h1
  have h2 := Array.all_eq_true_iff_forall_mem.1 h1.1 e he
  simpa [hb] using h2
theorem pair_of {N : Nat} {M : Array Nat} (h : pairsOk ops E N M = true) {j k : Nat} (hk : k < ops.size) (hjk : j < k) : (M.getD k 0).testBit j = true ∨ (k < N ∧ ∀ oj ok, ops[j]? = some oj → ops[k]? = some ok → oj.apart ops ok = true ∧ (E j = false ∨ E k = false)) := by
  have h1 := List.all_eq_true.1 (List.all_eq_true.1 h k (List.mem_range.2 hk)) j (List.mem_range.2 hjk)
  simp only [Bool.or_eq_true, Bool.and_eq_true, decide_eq_true_eq] at h1
  rcases h1 with h1 | ⟨h1, h2⟩
  · exact .inl h1
  · refine .inr ⟨h1, fun oj ok ej ek => ?_⟩
    rw [ej, ek] at h2
    simpa using h2

theorem mem_wait {listed : Array Bool} {k : Nat} (hz : listed.size = ops.size) {o : Oper} (ho : ops[k]? = some o) (h0 : listed.getD k false = false) (he : ∀ e ∈ o.after, Region.binds .any e = true → listed.getD e.on false = true) : k ∈ Region.ready .any ops listed := by
  have hk : k < ops.size := (Array.getElem?_eq_some_iff.1 ho).1
  refine mem_ready.2 ⟨?_, o, ho, he⟩
  simpa [show k < listed.size by omega] using h0
theorem ready_spec {listed : Array Bool} {k : Nat} (hz : listed.size = ops.size) (h : k ∈ Region.ready .any ops listed) : ∃ o, ops[k]? = some o ∧ listed.getD k false = false ∧ ∀ e ∈ o.after, Region.binds .any e = true → listed.getD e.on false = true := by
  obtain ⟨h0, o, ho, he⟩ := mem_ready.1 h
  have hk : k < ops.size := (Array.getElem?_eq_some_iff.1 ho).1
  exact ⟨o, ho, by simpa [show k < listed.size by omega] using h0, he⟩
theorem closed_set {listed : Array Bool} (hc : Closed ops listed) {i : Nat} {oi : Oper} (hi : ops[i]? = some oi) (he : ∀ e ∈ oi.after, Region.binds .any e = true → listed.getD e.on false = true) : Closed ops (listed.setIfInBounds i true) := by
  intro k o ho hl e hem hb
  by_cases hk : i = k
  · subst hk
    rw [hi] at ho
    cases ho
    exact getD_set_true (he e hem hb)
  · rw [getD_set_ne false hk] at hl
    exact getD_set_true (hc k o ho hl e hem hb)
theorem getD_set_self {listed : Array Bool} {i : Nat} (h : i < listed.size) : (listed.setIfInBounds i true).getD i false = true := by simp [h]

/-- The tail stands in one order. -/
theorem lex_tail {M : Array Nat} {N : Nat} {Q : Exit → Act → World → Prop} (hM : maskOk ops M = true) (hp : pairsOk ops E N M = true) : ∀ (fuel k : Nat) (listed : Array Bool) (a : Act) (w : World), listed.size = ops.size → Closed ops listed →
    (∀ i, i < k → i < ops.size → listed.getD i false = true) → (∀ i, k ≤ i → i < ops.size → listed.getD i false = false) → N ≤ k → ops.size - k ≤ fuel → wpOps P ops Q (List.range' k (ops.size - k)) a w → wpAny P .any ops Q fuel listed a w := by
  intro fuel
  induction fuel with
  | zero =>
    intro k listed a w hz hc hlo hhi hN hf h
    have hk : ops.size - k = 0 := by omega
    rw [hk] at h
    refine ⟨?_, by simpa [wpOps] using h⟩
    apply List.eq_nil_iff_forall_not_mem.2
    intro i hi
    obtain ⟨o, ho, h0, _⟩ := ready_spec hz hi
    have hi' : i < ops.size := (Array.getElem?_eq_some_iff.1 ho).1
    rw [hlo i (by omega) hi'] at h0
    cases h0
  | succ fuel ih =>
    intro k listed a w hz hc hlo hhi hN hf h
    by_cases hk : k < ops.size
    · have ho : ops[k]? = some ops[k] := Array.getElem?_eq_getElem hk
      have hr : k ∈ Region.ready .any ops listed := mem_wait hz ho (hhi k (Nat.le_refl _) hk) fun e he hb => hlo _ (edges_back hM ho e he hb) (by have := edges_back hM ho e he hb; omega)
      refine ⟨fun h0 => (by rw [h0] at hr; cases hr), fun i hi => ?_⟩
      obtain ⟨o, hio, h0, he⟩ := ready_spec hz hi
      have hi' : i < ops.size := (Array.getElem?_eq_some_iff.1 hio).1
      have hki : k ≤ i := by
        rcases Nat.lt_or_ge i k with h' | h'
        · rw [hlo i h' hi'] at h0; cases h0
        · exact h'
      have hik : i = k := by
        rcases Nat.lt_or_ge k i with h' | h'
        · exfalso
          rcases pair_of hp hi' h' with hb | ⟨hb, _⟩
          · have := mask_listed hM hc i o hio he k hk hb
            rw [hhi k (Nat.le_refl _) hk] at this
            cases this
          · omega
        · omega
      subst hik
      rw [show ops.size - i = (ops.size - (i + 1)) + 1 by omega, List.range'_succ, wpOps_cons] at h
      refine wpOp_mono (fun a w hk => ih (i + 1) _ a w (by simp [hz]) (closed_set hc hio he) ?_ ?_ (by omega) (by omega) hk) h
      · intro j hj hjs
        by_cases hji : i = j
        · subst hji; exact getD_set_self (by omega)
        · exact getD_set_true (hlo j (by omega) hjs)
      · intro j hj hjs
        rw [getD_set_ne false (by omega)]
        exact hhi j (by omega) hjs
    · have hk' : ops.size - k = 0 := by omega
      rw [hk'] at h
      refine ⟨fun _ => by simpa [wpOps] using h, fun i hi => ?_⟩
      obtain ⟨o, ho, h0, _⟩ := ready_spec hz hi
      have hi' : i < ops.size := (Array.getElem?_eq_some_iff.1 ho).1
      rw [hlo i (by omega) hi'] at h0
      cases h0
def waiting (listed : Array Bool) (N : Nat) : List Nat := (List.range N).filter fun i => !listed.getD i true
theorem mem_waiting {listed : Array Bool} {N i : Nat} (h : N ≤ listed.size) : i ∈ waiting listed N ↔ i < N ∧ listed.getD i false = false := by
  unfold waiting
  rw [List.mem_filter, List.mem_range]
  constructor
  · rintro ⟨h1, h2⟩
    exact ⟨h1, by simpa [show i < listed.size by omega] using h2⟩
  · rintro ⟨h1, h2⟩
    exact ⟨h1, by simpa [show i < listed.size by omega] using h2⟩
theorem waiting_sorted (listed : Array Bool) (N : Nat) : (waiting listed N).Pairwise (· < ·) := List.Pairwise.filter _ List.pairwise_lt_range
theorem waiting_set {listed : Array Bool} {N i : Nat} (h : N ≤ listed.size) {p q : List Nat} (hw : waiting listed N = p ++ i :: q) : waiting (listed.setIfInBounds i true) N = p ++ q := by
  have hs := waiting_sorted listed N
  rw [hw] at hs
  have e : waiting (listed.setIfInBounds i true) N = (waiting listed N).filter fun j => j != i := by
    unfold waiting
    rw [List.filter_filter]
    apply List.filter_congr
    intro j hj
    rw [List.mem_range] at hj
    by_cases hji : i = j
    · subst hji; simp [show i < listed.size by omega]
    · rw [getD_set_ne true hji]
      simp [Ne.symm hji]
  rw [e, hw, List.filter_append, List.filter_cons_of_neg (by simp)]
  rw [List.pairwise_append] at hs
  obtain ⟨_, h2, h3⟩ := hs
  rw [List.pairwise_cons] at h2
  rw [List.filter_eq_self.2, List.filter_eq_self.2]
  · intro j hj
    have := h2.1 j hj
    simp; omega
  · intro j hj
    have := h3 j hj i (by simp)
    simp; omega
/-- The prefix, in whatever order. -/
theorem lex_prefix {M : Array Nat} {N : Nat} {Q : Exit → Act → World → Prop} (hs : Region.noSelect ops = true) (hM : maskOk ops M = true) (hp : pairsOk ops E N M = true) (hN : N ≤ ops.size) : ∀ (fuel : Nat) (listed : Array Bool) (a : Act) (w : World), listed.size = ops.size → Closed ops listed →
    (∀ i, N ≤ i → i < ops.size → listed.getD i false = false) → C w → (waiting listed N).length + (ops.size - N) ≤ fuel →
    wpLs P ops C E (fun a w => wpOps P ops Q (List.range' N (ops.size - N)) a w) (waiting listed N) a w → wpAny P .any ops Q fuel listed a w := by
  intro fuel
  induction fuel with
  | zero =>
    intro listed a w hz hc hhi hC hf h
    have h0 : waiting listed N = [] := List.eq_nil_of_length_eq_zero (by omega)
    rw [h0] at h
    refine lex_tail (N := N) hM hp 0 N listed a w hz hc (fun i hi hi' => ?_) hhi (Nat.le_refl _) (by omega) h
    cases hl : listed.getD i false with
    | true => rfl
    | false => have := (mem_waiting (listed := listed) (N := N) (by omega)).2 ⟨hi, hl⟩; rw [h0] at this; cases this
  | succ fuel ih =>
    intro listed a w hz hc hhi hC hf h
    cases hw : waiting listed N with
    | nil =>
      rw [hw] at h
      refine lex_tail (N := N) hM hp (fuel + 1) N listed a w hz hc (fun i hi hi' => ?_) hhi (Nat.le_refl _) (by rw [hw] at hf; simpa using hf) h
      cases hl : listed.getD i false with
      | true => rfl
      | false => have := (mem_waiting (listed := listed) (N := N) (by omega)).2 ⟨hi, hl⟩; rw [hw] at this; cases this
    | cons k0 rest =>
      have hk0 := (mem_waiting (listed := listed) (N := N) (i := k0) (by omega)).1 (by rw [hw]; simp)
      have hsort := waiting_sorted listed N
      have hlow : ∀ i, i < k0 → listed.getD i false = true := by
        intro i hi
        cases hl : listed.getD i false with
        | true => rfl
        | false =>
          have hm := (mem_waiting (listed := listed) (N := N) (i := i) (by omega)).2 ⟨by omega, hl⟩
          rw [hw] at hm hsort
          rw [List.pairwise_cons] at hsort
          rcases List.mem_cons.1 hm with rfl | hm
          · omega
          · have := hsort.1 i hm; omega
      have hk0s : k0 < ops.size := by omega
      have ho0 : ops[k0]? = some ops[k0] := Array.getElem?_eq_getElem hk0s
      have hr : k0 ∈ Region.ready .any ops listed := mem_wait hz ho0 hk0.2 fun e he hb => hlow _ (edges_back hM ho0 e he hb)
      refine ⟨fun h0 => (by rw [h0] at hr; cases hr), fun i hi => ?_⟩
      obtain ⟨oi, hio, h0, he⟩ := ready_spec hz hi
      have hi' : i < ops.size := (Array.getElem?_eq_some_iff.1 hio).1
      have hbits : ∀ j, j < ops.size → (M.getD i 0).testBit j = true → listed.getD j false = true := mask_listed hM hc i oi hio he
      have hiN : i < N := by
        rcases Nat.lt_or_ge i N with h' | h'
        · exact h'
        · exfalso
          rcases pair_of hp hi' (show k0 < i by omega) with hb | ⟨hb, _⟩
          · have := hbits k0 (by omega) hb
            rw [hk0.2] at this
            cases this
          · omega
      have hmem := (mem_waiting (listed := listed) (N := N) (i := i) (by omega)).2 ⟨hiN, h0⟩
      obtain ⟨p, q, hpq⟩ := List.append_of_mem hmem
      have hfront := wpLs_front (E := E) (Region.noSelect_spec hs) hio p q a w (fun j hj oj hjo => by
        have hji : j < i := by
          have hs' := hsort
          rw [hpq, List.pairwise_append] at hs'
          exact hs'.2.2 j hj i (by simp)
        have hj0 := ((mem_waiting (listed := listed) (N := N) (i := j) (by omega)).1 (by rw [hpq]; simp [hj])).2
        rcases pair_of hp hi' hji with hb | ⟨_, hb⟩
        · have := hbits j (by omega) hb
          rw [hj0] at this
          cases this
        · exact hb oj oi hjo hio) hC (by rw [← hpq]; exact h)
      have hset := waiting_set (listed := listed) (N := N) (by omega) hpq
      refine stepL_wpOp hio (fun a w hc' hk => ih _ a w (by simp [hz]) (closed_set hc hio he) (fun j hj hjs => ?_) hc' ?_ ?_) hC hfront
      · rw [getD_set_ne false (by omega)]; exact hhi j hj hjs
      · rw [hset]; rw [hpq] at hf; simp at hf ⊢; omega
      · rw [hset]; exact hk

/-- The walk itself: n operations of the prefix are left, the next one is number k; behind them the tail, in its one order. -/
def wpLx (P : Program) (ops : Array Oper) (C : World → Prop) (E : Nat → Bool) (Q : Exit → Act → World → Prop) : Nat → Nat → List Oper → Act → World → Prop
  | 0, _, l, a, w => wpList P ops Q l a w
  | n + 1, k, o :: l, a, w => stepL P ops C (E k) o (wpLx P ops C E Q n (k + 1) l) a w
  | _ + 1, _, [], _, _ => False
theorem wpLs_of_wpLx {Q : Exit → Act → World → Prop} : ∀ (n k : Nat) (l : List Oper) (a : Act) (w : World), (∀ j, l[j]? = ops[k + j]?) → n ≤ l.length → k + l.length = ops.size → wpLx P ops C E Q n k l a w →
    wpLs P ops C E (fun a w => wpOps P ops Q (List.range' (k + n) (ops.size - (k + n))) a w) (List.range' k n) a w
  | 0, k, l, a, w, hl, _, hz, h => by
    simp only [List.range'_zero, wpLs, Nat.add_zero]
    simp only [wpLx] at h
    rw [show ops.size - k = l.length by omega, wpOps_eq_wpList l k hl]
    exact h
  | n + 1, k, [], a, w, _, hn, _, _ => by simp at hn
  | n + 1, k, o :: l, a, w, hl, hn, hz, h => by
    have h0 : ops[k]? = some o := by simpa using (hl 0).symm
    simp only [wpLx] at h
    rw [List.range'_succ]
    simp only [wpLs, h0]
    have ih := fun a w => wpLs_of_wpLx (Q := Q) n (k + 1) l a w (fun j => by have := hl (j + 1); simpa [Nat.add_assoc, Nat.add_comm 1 j] using this) (by simpa using hn) (by simp at hz; omega)
    rw [show k + (n + 1) = k + 1 + n by omega]
    unfold stepL at h ⊢
    split
    · rename_i hw
      rw [if_pos hw] at h
      split
      · rename_i he
        rw [if_pos he] at h
        exact Oper.wp_mono (fun a w ⟨c, hk⟩ => ⟨c, ih a w hk⟩) h
      · rename_i he
        rw [if_neg he] at h
        obtain ⟨v, hv, hk⟩ := h
        exact ⟨v, hv, ih _ _ hk⟩
    · rename_i hw
      rw [if_neg hw] at h
      exact ih _ _ h
/-- **A REGION THAT DRAWS ITS ORDER IS WALKED ONCE**: n operations of the prefix in the text's order (those that E names turn the world, and leave a world of the class C), the rest as a plain list. -/
theorem wp_region_lex {id : Nat} {Q : Exit → Act → World → Prop} {a : Act} {w : World} {l : List Oper} (C : World → Prop) (E : Nat → Bool) (n : Nat) (hm : P.follows .mixedOrders = true)
    (hB : lexOK l.toArray E n (Region.before l.toArray) = true) (hC : C { w with drawn := w.drawn + 1 }) (h : wpLx P l.toArray C E Q n 0 l a { w with drawn := w.drawn + 1 }) : (Code.region id l.toArray true).wp P Q a w := by
  simp only [lexOK, Bool.and_eq_true, decide_eq_true_eq] at hB
  obtain ⟨⟨⟨hs, hM⟩, hp⟩, hN⟩ := hB
  have hN' : n ≤ l.length := by simpa using hN
  refine wp_region_any hm ?_
  have hw : waiting (Array.replicate l.toArray.size false) n = List.range n := by
    unfold waiting
    rw [List.filter_eq_self]
    intro i hi
    rw [List.mem_range] at hi
    have : i < l.length := by omega
    simp [this]
  have h1 := wpLs_of_wpLx (E := E) (ops := l.toArray) n 0 l a _ (by simp) hN' (by simp) h
  rw [Nat.zero_add, ← List.range_eq_range'] at h1
  refine lex_prefix (E := E) hs hM hp hN _ _ a _ (by simp) ?_ ?_ hC ?_ ?_
  · intro k o _ hl
    exfalso
    have hk : ¬ (Array.replicate l.toArray.size false).getD k false = true := by
      by_cases hk : k < l.length <;> simp [hk]
    exact hk hl
  · intro i _ hi
    have hi' : i < l.length := by simpa using hi
    simp [hi']
  · rw [hw]; simp; omega
  · rw [hw]; exact h1
section
variable {Q : Exit → Act → World → Prop} {n k : Nat} {o : Oper} {l : List Oper} {a : Act} {w : World}
theorem lx_quiet (hE : E k = false) (hw : Region.wanted o (yielded ops a.tmps) = true) (hv : isV o.op = true) (h : ∀ K : Act → Prop, (∀ a', wpLx P ops C E Q n (k + 1) l a' w → K a') → o.quiet P a C K) : wpLx P ops C E Q (n + 1) k (o :: l) a w := by
  obtain ⟨v, hq, hk⟩ := h (fun a' => wpLx P ops C E Q n (k + 1) l a' w) fun _ h => h
  simp only [wpLx, stepL, hw, if_true, hE]
  exact ⟨v, fun w' hw' => qAt_of_quietAt hv (hq w' hw'), hk⟩
theorem lx_skip (hw : Region.wanted o (yielded ops a.tmps) = false) (h : wpLx P ops C E Q n (k + 1) l (a.put o.dst undef) w) : wpLx P ops C E Q (n + 1) k (o :: l) a w := by
  simp only [wpLx, stepL, hw]
  exact h
theorem lx_eff (hE : E k = true) (hw : Region.wanted o (yielded ops a.tmps) = true) (h : ∀ K : Act → World → Prop, (∀ a' w', (C w' ∧ wpLx P ops C E Q n (k + 1) l a' w') → K a' w') → o.wp P a w K noOut) : wpLx P ops C E Q (n + 1) k (o :: l) a w := by
  simp only [wpLx, stepL, hw, if_true, hE]
  exact h _ fun _ _ h => h
theorem lx_done (h : wpList P ops Q l a w) : wpLx P ops C E Q 0 k l a w := h
end
end
attribute [irreducible] wpLx
end Go.Proofs.YtdbhlajajdlmfaaDoor
/- The guard of an operation, read off the frame by the kit's own tactic, for the lexical walk of a region with guards. And a class of worlds: those in which the blocks below a number are as they were. -/
namespace Go.Proofs.YtdbhlajajdlmfaaDoor
open Go Go.RowKit
section
variable {P : Program} {ops : Array Oper} {C : World → Prop} {E : Nat → Bool} {Q : Exit → Act → World → Prop} {n k : Nat} {o : Oper} {l : List Oper} {a : Act} {w : World}
theorem lx_skipT (_ : wpQuiet P ops (fun _ => False) (fun _ => True) [o] a) (hw : Region.wanted o (yielded ops a.tmps) = false) (h : wpLx P ops C E Q n (k + 1) l (a.put o.dst undef) w) : wpLx P ops C E Q (n + 1) k (o :: l) a w := lx_skip hw h
theorem lx_quietT (hE : E k = false) (_ : wpQuiet P ops (fun _ => False) (fun _ => True) [o] a) (hw : Region.wanted o (yielded ops a.tmps) = true) (hv : isV o.op = true)
    (h : ∀ K : Act → Prop, (∀ a', wpLx P ops C E Q n (k + 1) l a' w → K a') → o.quiet P a C K) : wpLx P ops C E Q (n + 1) k (o :: l) a w := lx_quiet hE hw hv h
theorem lx_effT (hE : E k = true) (_ : wpQuiet P ops (fun _ => False) (fun _ => True) [o] a) (hw : Region.wanted o (yielded ops a.tmps) = true)
    (h : ∀ K : Act → World → Prop, (∀ a' w', (C w' ∧ wpLx P ops C E Q n (k + 1) l a' w') → K a' w') → o.wp P a w K noOut) : wpLx P ops C E Q (n + 1) k (o :: l) a w := lx_eff hE hw h
theorem quiet_false {K : Act → Prop} (hK : ∀ a, wpQuiet P ops (fun _ => False) (fun _ => True) [] a → K a) : o.quiet P a (fun _ => False) K := ⟨undef, fun _ h => h.elim, hK _ (wpQuiet_nil trivial)⟩
end
/-- A world in which the blocks below k are as they were. -/
structure Later (k : Nat) (w0 : World) where
  w : World
  h : Below k w0 w
instance (k : Nat) (w0 : World) : Nonempty (Later k w0) := ⟨⟨w0, Below.refl _ _⟩⟩
theorem Later.start (k : Nat) (w0 : World) : ∃ u : Later k w0, w0.drew = u.w := ⟨⟨w0.drew, (Below.refl _ _).drew⟩, rfl⟩
theorem Later.on {k : Nat} {w0 w : World} (h : Below k w0 w) : ∃ u : Later k w0, w = u.w := ⟨⟨w, h⟩, rfl⟩
end Go.Proofs.YtdbhlajajdlmfaaDoor
/- The walk of package sha's mix: a block is taken into the state's eight words as XSha's plain function says; nothing else of what was there turns. -/
namespace Go.Proofs.YtdbhlajajdlmfaaDoor
open Go.RowKit
attribute [local go_sem] wn_add wn_xor wn_and wn_or wn_shr wn_shl bn_wide wn_shl24 wn_shl16 wn_shl8
/-- The table that is added. -/
def TabK (K : Nat → BitVec 32) (g : Nat) (w : World) : Prop := ∃ T cs fr, w.heap[g]? = some (.cells cs T fr) ∧ cs.size = 64 ∧ ∀ i, i < 64 → cs[i]? = some (.int .u32 (wn (K i)))

theorem and15 (t : Nat) (h : t < 128) : bits .and .i64 (t : Int) 15 = ((t % 16 : Nat) : Int) := by
  have : ∀ t : Fin 128, bits .and .i64 (t.val : Int) 15 = ((t.val % 16 : Nat) : Int) := by decide
  exact this ⟨t, h⟩

theorem ring_step1 (B : Nat → BitVec 8) (f : Nat → BitVec 32) (t : Nat) (ht : t < 16) (hf : ∀ i, i < t → f i = (blockWords B).getD i 0) (i : Nat) (hi : i < t + 1) :
    (if i = t then word4 (B (4 * t)) (B (4 * t + 1)) (B (4 * t + 2)) (B (4 * t + 3)) else f i) = (blockWords B).getD i 0 := by
  split
  · rename_i e; rw [e, blockWords_at B t ht]
  · exact hf i (by omega)
theorem ring_start (w : World) : ringIs (w.alloc (.cells #[.int .u32 0, .int .u32 0, .int .u32 0, .int .u32 0, .int .u32 0, .int .u32 0, .int .u32 0, .int .u32 0, .int .u32 0, .int .u32 0, .int .u32 0, .int .u32 0, .int .u32 0, .int .u32 0, .int .u32 0, .int .u32 0] 149)) w.heap.size (fun _ => 0) :=
  World.rowIs_alloc _ _ _ _ (fun i hi => by
    show (Array.replicate 16 (Value.int .u32 0))[i]? = some (.int .u32 0)
    have hi' : i < 16 := hi
    simp [hi'])
def stIn (s : St) (va vb vc vd ve vf vg vh : Value) : Prop := va = .int .u32 (wn s.a) ∧ vb = .int .u32 (wn s.b) ∧ vc = .int .u32 (wn s.c) ∧ vd = .int .u32 (wn s.d) ∧
  ve = .int .u32 (wn s.e) ∧ vf = .int .u32 (wn s.f) ∧ vg = .int .u32 (wn s.g) ∧ vh = .int .u32 (wn s.h)
def ringOk (M : List (BitVec 32)) (t : Nat) (f : Nat → BitVec 32) : Prop := ∀ j, t ≤ j + 16 → j < max t 16 → f (j % 16) = sched M j
theorem ringOk_start (B : Nat → BitVec 8) (f : Nat → BitVec 32) (hf : ∀ i, i < 16 → f i = (blockWords B).getD i 0) : ringOk (blockWords B) 0 f := fun j _ hj => by
  have hj' : j < 16 := by simpa using hj
  rw [Nat.mod_eq_of_lt hj', hf j hj', sched_low _ (blockWords_length B) j hj']
theorem ring_place (t : Nat) (h : t < 128) : ∃ p, Hid (p = t % 16) ∧ bits .and .i64 (t : Int) 15 = (p : Int) ∧ (p : Int) < 16 ∧ (0 : Int) ≤ p ∧ p < 16 :=
  ⟨t % 16, rfl, and15 t h, by omega, by omega, by omega⟩
theorem ring_place' (t d : Nat) (e : Int) (he : e = (d : Int)) (h : t + d < 128) : ∃ p, Hid (p = (t + d) % 16) ∧ bits .and .i64 ((t : Int) + e) 15 = (p : Int) ∧ (p : Int) < 16 ∧ (0 : Int) ≤ p ∧ IntKind.i64.wrap ((t : Int) + e) = (t : Int) + e ∧ p < 16 := by
  subst he
  exact ⟨(t + d) % 16, rfl, and15 (t + d) h, by omega, by omega, IntWalk.i64_in _ (by omega), by omega⟩
theorem st_step {K : Nat → BitVec 32} {M : List (BitVec 32)} {s st : St} {t : Nat} {x : BitVec 32} (hst : rounds K M s t = st) (hx : x = sched M t) :
    stIn (rounds K M s (t + 1)) (.int .u32 (wn (st.h + rorx3 st.e 6 11 25 + (st.g ^^^ st.e &&& (st.f ^^^ st.g)) + K t + x + (rorx3 st.a 2 13 22 + (st.a &&& st.b ||| st.c &&& (st.a ||| st.b)))))) (.int .u32 (wn st.a)) (.int .u32 (wn st.b)) (.int .u32 (wn st.c))
      (.int .u32 (wn (st.d + (st.h + rorx3 st.e 6 11 25 + (st.g ^^^ st.e &&& (st.f ^^^ st.g)) + K t + x)))) (.int .u32 (wn st.e)) (.int .u32 (wn st.f)) (.int .u32 (wn st.g)) := by
  subst hst hx
  exact ⟨rfl, rfl, rfl, rfl, rfl, rfl, rfl, rfl⟩
theorem ring_old {M : List (BitVec 32)} {t p : Nat} {f : Nat → BitVec 32} (h : t < 16) (hf : ringOk M t f) (hp : p = t % 16) : f p = sched M t := by
  rw [hp]; exact hf t (by omega) (by omega)
theorem ring_keep {M : List (BitVec 32)} {t : Nat} {f : Nat → BitVec 32} (h : t < 16) (hf : ringOk M t f) : ringOk M (t + 1) f := fun j h1 h2 => hf j (by omega) (by omega)
theorem ring_new {B : Nat → BitVec 8} {t p0 p1 p9 p14 : Nat} {f : Nat → BitVec 32} (h : 16 ≤ t) (hf : ringOk (blockWords B) t f) (h0 : p0 = t % 16) (h1 : p1 = (t + 1) % 16) (h9 : p9 = (t + 9) % 16) (h14 : p14 = (t + 14) % 16) :
    f p0 + (rorx2s (f p1) 7 18 3 + f p9 + rorx2s (f p14) 17 19 10) = sched (blockWords B) t := by
  obtain ⟨u, rfl⟩ : ∃ u, t = u + 16 := ⟨t - 16, by omega⟩
  have e0 : f p0 = sched (blockWords B) u := by rw [h0, show (u + 16) % 16 = u % 16 by omega]; exact hf u (by omega) (by omega)
  have e1 : f p1 = sched (blockWords B) (u + 1) := by rw [h1, show (u + 16 + 1) % 16 = (u + 1) % 16 by omega]; exact hf (u + 1) (by omega) (by omega)
  have e9 : f p9 = sched (blockWords B) (u + 9) := by rw [h9, show (u + 16 + 9) % 16 = (u + 9) % 16 by omega]; exact hf (u + 9) (by omega) (by omega)
  have e14 : f p14 = sched (blockWords B) (u + 14) := by rw [h14, show (u + 16 + 14) % 16 = (u + 14) % 16 by omega]; exact hf (u + 14) (by omega) (by omega)
  rw [e0, e1, e9, e14, sched_high _ (blockWords_length B)]
theorem ring_step {M : List (BitVec 32)} {t p : Nat} {f : Nat → BitVec 32} {x : BitVec 32} (h : 16 ≤ t) (hf : ringOk M t f) (hp : p = t % 16) (hx : x = sched M t) : ringOk M (t + 1) (fun j => if j = p then x else f j) := fun j h1 h2 => by
  show (if j % 16 = p then x else f (j % 16)) = sched M j
  by_cases e : j = t
  · subst e; rw [if_pos hp.symm, hx]
  · rw [if_neg (by omega)]; exact hf j (by omega) (by omega)
def halfMixed (s st : St) (F : Nat → Value) (t : Nat) (i : Nat) : Value := if i < 8 then (if i < t then .int .u32 (wn (s.at i + st.at i)) else .int .u32 (wn (s.at i))) else F i
theorem halfMixed_start {s st : St} {F : Nat → Value} (hF : ∀ i, i < 8 → F i = .int .u32 (wn (s.at i))) {n : Nat} (i : Nat) (_h : i < n) : F i = halfMixed s st F 0 i := by
  unfold halfMixed
  split
  · rename_i h8; rw [if_neg (by omega)]; exact hF i h8
  · rfl
theorem halfMixed_step {s st : St} {F : Nat → Value} {t n : Nat} (h8 : t < 8) (i : Nat) (_h : i < n) : (if i = t then .int .u32 (wn (s.at t + st.at t)) else halfMixed s st F t i) = halfMixed s st F (t + 1) i := by
  unfold halfMixed
  by_cases e : i = t
  · subst e; rw [if_pos rfl, if_pos h8, if_pos (by omega)]
  · rw [if_neg e]
    split
    · by_cases h : i < t
      · rw [if_pos h, if_pos (by omega)]
      · rw [if_neg h, if_neg (by omega)]
    · rfl
theorem halfMixed_end {K : Nat → BitVec 32} {B : Nat → BitVec 8} {s st : St} {F : Nat → Value} (hst : rounds K (blockWords B) s 64 = st) {n : Nat} (i : Nat) (_h : i < n) : halfMixed s st F 8 i = if i < 8 then .int .u32 (wn ((mixed K s B).at i)) else F i := by
  unfold halfMixed mixed
  rw [hst, St.at_plus]
  split <;> rfl
theorem half_cell {w : World} {bs T n t : Nat} {s st : St} {F : Nat → Value} (h : w.rowIs bs T n (halfMixed s st F t)) (hn : 8 ≤ n) (h8 : t < 8) : w.cell? ⟨bs, t, none⟩ = some (.int .u32 (wn (s.at t))) := by
  rw [World.rowIs.cell h (by omega)]
  unfold halfMixed
  rw [if_pos h8, if_neg (by omega)]
theorem st_cells (st : St) (t : Nat) (h : t < 8) : (#[.int .u32 (wn st.a), .int .u32 (wn st.b), .int .u32 (wn st.c), .int .u32 (wn st.d), .int .u32 (wn st.e), .int .u32 (wn st.f), .int .u32 (wn st.g), .int .u32 (wn st.h)] : Array Value)[t]? = some (.int .u32 (wn (st.at t))) := by
  have : t = 0 ∨ t = 1 ∨ t = 2 ∨ t = 3 ∨ t = 4 ∨ t = 5 ∨ t = 6 ∨ t = 7 := by omega
  rcases this with rfl | rfl | rfl | rfl | rfl | rfl | rfl | rfl <;> rfl
theorem grownBy_store {w wr w' : World} {bs i : Nat} {v : Value} (h : w.grownBy wr (some bs)) (wx : World) (hx : w' = wx.setCell ⟨bs, i, none⟩ v) (hd : wr.drew = wx) : w.grownBy w' (some bs) := by
  subst hx hd
  refine ⟨h.os, h.tape, h.output, by simpa [World.setCell] using h.size, fun k hk hne => ?_⟩
  rw [Below.heap_setCell _ _ _ _ (fun e => hne (by rw [e]))]
  exact h.block k hk hne
theorem state_cells {w wr : World} {bs T n : Nat} {F : Nat → Value} {s : St} (hH : w.rowIs bs T n F) (hF : ∀ i, i < 8 → F i = .int .u32 (wn (s.at i))) (hn : 8 ≤ n) {k : Nat} (hb : Below k w wr) (hk : bs < k) :
    wr.cell? ⟨bs, 0, none⟩ = some (.int .u32 (wn s.a)) ∧ wr.cell? ⟨bs, 1, none⟩ = some (.int .u32 (wn s.b)) ∧ wr.cell? ⟨bs, 2, none⟩ = some (.int .u32 (wn s.c)) ∧ wr.cell? ⟨bs, 3, none⟩ = some (.int .u32 (wn s.d)) ∧
    wr.cell? ⟨bs, 4, none⟩ = some (.int .u32 (wn s.e)) ∧ wr.cell? ⟨bs, 5, none⟩ = some (.int .u32 (wn s.f)) ∧ wr.cell? ⟨bs, 6, none⟩ = some (.int .u32 (wn s.g)) ∧ wr.cell? ⟨bs, 7, none⟩ = some (.int .u32 (wn s.h)) := by
  have hc : ∀ i, i < 8 → wr.cell? ⟨bs, i, none⟩ = some (.int .u32 (wn (s.at i))) := fun i hi => by
    rw [hb.cell (p := ⟨bs, i, none⟩) hk, World.rowIs.cell hH (by omega), hF i hi]
  exact ⟨hc 0 (by omega), hc 1 (by omega), hc 2 (by omega), hc 3 (by omega), hc 4 (by omega), hc 5 (by omega), hc 6 (by omega), hc 7 (by omega)⟩
set_option maxRecDepth 100000 in
set_option maxHeartbeats 1000000 in
theorem mix_any (K : Nat → BitVec 32) (bs T n g o c : Nat) (F : Nat → Value) (s : St) (B : Nat → BitVec 8) (w : World) (hK : TabK K 1 w)
    (hH : w.rowIs bs T n F) (hn : 8 ≤ n) (hF : ∀ i, i < 8 → F i = .int .u32 (wn (s.at i))) (hB : bytesAt w g o 64 B) (hc : 64 ≤ c) (hc' : c ≤ 9223372036854775807) (hg : g < w.heap.size) :
    Calls Tryd.prog 87 #[.pointer (some ⟨bs, 0, none⟩), .slice (some ⟨g, o, none⟩) 64 c] w fun e w' => e = .returned (.tuple #[]) ∧
      w'.rowIs bs T n (fun i => if i < 8 then .int .u32 (wn ((mixed K s B).at i)) else F i) ∧ w.grownBy w' (some bs) := by
  have HB := Lib.hid hB
  have HF := Lib.hid hF
  have HK := Lib.hid hK
  have HH := Lib.hid hH
  have hbs := hH.lt
  clear hB hF hK hH
  go_enter Tryd.func87, Tryd.ntmps87
  go_wp2
  go_loopw [20] (fun v wr => ∃ t : Nat, t ≤ 16 ∧ v = .int .i64 t ∧ (∃ f, ringIs wr w.heap.size f ∧ ∀ i, i < t → f i = (blockWords B).getD i 0) ∧ Below w.heap.size w wr) (fun v _ => 16 - (intOf v).toNat)
  case atStart =>
    refine ⟨0, by omega, rfl, ⟨fun _ => 0, ?_, by omega⟩, (Below.refl _ _).alloc (Nat.le_refl _) _⟩
    exact ring_start w
  case round =>
    obtain ⟨t, ht, rfl, ⟨f, hr, hf⟩, hb⟩ := hrel
    have HR := Lib.hid hf
    clear hf
    by_cases hlt : t < 16
    · have c0 := (HB.out.below hb hg) (4 * t) (by omega)
      have c1 := (HB.out.below hb hg) (4 * t + 1) (by omega)
      have c2 := (HB.out.below hb hg) (4 * t + 2) (by omega)
      have c3 := (HB.out.below hb hg) (4 * t + 3) (by omega)
      have e0 : ¬ c = 4 * t := by omega
      go_wp2_with fail
      refine (word_any g (o + 4 * t) _ _ _ _ _ _ _ (by omega) c0 c1 c2 c3).mono ?_
      rintro e w1 ⟨rfl, q, rfl⟩
      have f1 := (hr.drewN q).cell hlt
      have f2 := (hr.drewN q).free t
      have hlt' : (t : Int) < 16 := by omega
      go_wp2
      go_roundw
      case rel =>
        exact ⟨t + 1, by omega, by go_num, ⟨_, (hr.drewN q).set t _ (fun _ _ => rfl), ring_step1 B f t hlt HR.out⟩, (hb.trans (below_drewN' _ _ _)).setCell (by simp) _⟩
      case measure => simp [intOf]; omega
    · have hlt' : ¬ (t : Int) < 16 := by omega
      obtain rfl : t = 16 := by omega
      obtain ⟨g0, g1, g2, g3, g4, g5, g6, g7⟩ := state_cells (HH.out) HF.out hn hb hbs
      go_wp2_with fail
      go_quiet (fail)
      obtain ⟨TT, cs, fr, hk1, hk2, hk3⟩ := HK.out
      have HK3 := Lib.hid hk3
      have hk4 : (wr.drewN nq).heap[1]? = some (.cells cs TT fr) := (hb.block 1 (heap_lt hk1)).trans hk1
      have hk5 : (Tryd.prog.info? 146).map (·.size) = some cs.size := by rw [hk2]; kernel_rfl
      have HK1 := Lib.hid hk1
      have HK2 := Lib.hid hk2
      have HK4 := Lib.hid hk4
      have HK5 := Lib.hid hk5
      clear hk3 hk1 hk2 hk4 hk5
      go_wp2_with (refine wpList_load_row rfl 146 _ rfl 1 rfl TT cs fr _ HK4.out Tryd.underlying146 rfl HK5.out ?_)
      go_loopw [6, 7, 8, 9, 10, 11, 12, 13, 64] (fun va vb vc vd ve vf vg vh v wx => ∃ t : Nat, t ≤ 64 ∧ v = .int .i64 t ∧ stIn (rounds K (blockWords B) s t) va vb vc vd ve vf vg vh ∧ (∃ f, ringIs wx w.heap.size f ∧ ringOk (blockWords B) t f) ∧ Below w.heap.size w wx) (fun _ _ _ _ _ _ _ _ v _ => 64 - (intOf v).toNat)
      case atStart =>
        exact ⟨0, by omega, rfl, ⟨rfl, rfl, rfl, rfl, rfl, rfl, rfl, rfl⟩, ⟨f, hr.drewN _, ringOk_start B f HR.out⟩, hb.trans (below_drewN' _ _ _)⟩
      case round =>
        clear hr g0 g1 g2 g3 g4 g5 g6 g7 hb
        obtain ⟨t, ht, rfl, ⟨rfl, rfl, rfl, rfl, rfl, rfl, rfl, rfl⟩, ⟨f, hr, hf⟩, hb⟩ := hrel
        have HR := Lib.hid hf
        clear hf
        generalize hst : rounds K (blockWords B) s t = st
        have HS := Lib.hid hst
        clear hst
        by_cases hlt : t < 64
        · have hlt' : (t : Int) < 64 := by omega
          have i0 := run_index_cells (P := Tryd.prog) (len := 64) (t := 146) (e := 95) (k := .u32) Tryd.underlying146 Tryd.underlying95 (by kernel_rfl) (cs := cs) (i := t) hlt (HK3.out t hlt)
          by_cases h16 : 16 ≤ t
          · obtain ⟨p0, q0, a0, b0, z0, r0⟩ := ring_place t (by omega)
            obtain ⟨p1, q1, a1, b1, z1, w1, r1⟩ := ring_place' t 1 1 rfl (by omega)
            obtain ⟨p9, q9, a9, b9, z9, w9, r9⟩ := ring_place' t 9 9 rfl (by omega)
            obtain ⟨p14, q14, a14, b14, z14, w14, r14⟩ := ring_place' t 14 14 rfl (by omega)
            have h16' : (16 : Int) ≤ t := by omega
            go_wp2_with fail
            have c0 := hr.cell (i := p0) (by omega)
            have c1 := hr.cell (i := p1) (by omega)
            have c9 := hr.cell (i := p9) (by omega)
            have c14 := hr.cell (i := p14) (by omega)
            have fz := hr.free p0
            refine wp_region_lex (fun w' => ∃ n, w' = wr.drewN n) (fun i => ([9, 21] : List Nat).contains i) 25 (by kernel_rfl) (by kernel_rfl) (⟨1, rfl⟩) ?_
            repeat (first | (refine lx_skipT (by go_big_quiet_skip; exact wpQuiet_nil trivial) (by kernel_rfl) ?_; simp only [Act.put, List.setIfInBounds_toArray, List.set_cons_succ, List.set_cons_zero]) | (refine lx_quietT rfl (by go_big_quiet_want; exact quiet_false (by assumption)) (by kernel_rfl) rfl ?_; intro Kx hKx; go_big_quiet_op; go_big_quiet_on))
            refine lx_effT rfl (by go_big_quiet_want; exact quiet_false (by assumption)) (by kernel_rfl) ?_; intro Kx hKx; go_wp2_with fail
            refine (small_any _ _ _ _ (by omega) (by omega) (by omega) _).mono ?_; rintro e w' ⟨rfl, q, rfl⟩
            go_wp2_with fail
            refine ⟨⟨_, rfl⟩, ?_⟩
            repeat (first | (refine lx_skipT (by go_big_quiet_skip; exact wpQuiet_nil trivial) (by kernel_rfl) ?_; simp only [Act.put, List.setIfInBounds_toArray, List.set_cons_succ, List.set_cons_zero]) | (refine lx_quietT rfl (by go_big_quiet_want; exact quiet_false (by assumption)) (by kernel_rfl) rfl ?_; intro Kx hKx; go_big_quiet_op; go_big_quiet_on))
            refine lx_effT rfl (by go_big_quiet_want; exact quiet_false (by assumption)) (by kernel_rfl) ?_; intro Kx hKx; go_wp2_with fail
            refine (small_any _ _ _ _ (by omega) (by omega) (by omega) _).mono ?_; rintro e w' ⟨rfl, q', rfl⟩
            go_wp2_with fail
            refine ⟨⟨_, rfl⟩, ?_⟩
            repeat (first | (refine lx_skipT (by go_big_quiet_skip; exact wpQuiet_nil trivial) (by kernel_rfl) ?_; simp only [Act.put, List.setIfInBounds_toArray, List.set_cons_succ, List.set_cons_zero]) | (refine lx_quietT rfl (by go_big_quiet_want; exact quiet_false (by assumption)) (by kernel_rfl) rfl ?_; intro Kx hKx; go_big_quiet_op; go_big_quiet_on))
            refine lx_done ?_
            go_wp2_with fail
            have hr2 := (hr.drewN (1 + q + q')).set p0 (f p0 + (rorx2s (f p1) 7 18 3 + f p9 + rorx2s (f p14) 17 19 10)) (g := fun j => if j = p0 then f p0 + (rorx2s (f p1) 7 18 3 + f p9 + rorx2s (f p14) 17 19 10) else f j) (fun _ _ => rfl)
            have hb2 := (hb.trans (below_drewN' _ _ (1 + q + q'))).setCell (p := ⟨w.heap.size, p0, none⟩) (Nat.le_refl _) (.int .u32 (wn (f p0 + (rorx2s (f p1) 7 18 3 + f p9 + rorx2s (f p14) 17 19 10))))
            have HW := Lib.hid (ring_new h16 HR.out q0 q1 q9 q14)
            go_quiet ((go_at_call 103; exact Calls.quiet_of_same (great_any _ _ _ _ (by omega) (by omega) (by omega) _)))
            go_wp2_with fail
            refine (great_any _ _ _ _ (by omega) (by omega) (by omega) _).mono ?_; rintro e w' ⟨rfl, rfl⟩
            go_wp2_with fail
            go_roundw
            case rel =>
              exact ⟨t + 1, by omega, by go_num, st_step HS.out HW.out, ⟨_, hr2.drewN _, ring_step h16 HR.out q0 HW.out⟩, hb2.trans (below_drewN' _ _ _)⟩
            case measure => simp [intOf]; omega
          · obtain ⟨p0, q0, a0, b0, z0, r0⟩ := ring_place t (by omega)
            have h16' : ¬ (16 : Int) ≤ t := by omega
            have c0 := hr.cell (i := p0) (by omega)
            go_wp2_with fail
            go_quiet ((go_at_call 103; exact Calls.quiet_of_same (great_any _ _ _ _ (by omega) (by omega) (by omega) _)))
            go_wp2_with fail
            refine (great_any _ _ _ _ (by omega) (by omega) (by omega) _).mono ?_; rintro e w' ⟨rfl, rfl⟩
            go_wp2_with fail
            go_roundw
            case rel =>
              exact ⟨t + 1, by omega, by go_num, st_step HS.out (ring_old (by omega) HR.out q0), ⟨_, hr.drewN _, ring_keep (by omega) HR.out⟩, hb.trans (below_drewN' _ _ _)⟩
            case measure => simp [intOf]; omega
        · obtain rfl : t = 64 := by omega
          have hlt' : ¬ ((64 : Nat) : Int) < 64 := by omega
          go_wp2_with fail
          go_loopw [148] (fun v wx => ∃ t : Nat, t ≤ 8 ∧ v = .int .i64 t ∧ wx.rowIs bs T n (halfMixed s st F t) ∧ w.grownBy wx (some bs)) (fun v _ => 8 - (intOf v).toNat)
          case atStart =>
            exact ⟨0, by omega, rfl, (HH.out.of_block (hb.block bs hbs)).congr (halfMixed_start HF.out), hb.os, hb.tape, hb.output, hb.size, fun k hk _ => hb.block k hk⟩
          case round =>
            clear hb hr
            obtain ⟨t, ht, rfl, hrow, hgr⟩ := hrel
            by_cases h8 : t < 8
            · have h8' : (t : Int) < 8 := by omega
              have i0 := run_index_cells (P := Tryd.prog) (len := 8) (t := 96) (e := 95) (k := .u32) Tryd.underlying96 Tryd.underlying95 (by kernel_rfl) (i := t) h8 (st_cells st t h8)
              have c0 := half_cell hrow hn h8
              have fz := World.rowIs.frozen hrow t
              go_wp2_with fail
              obtain ⟨wo, rfl⟩ : ∃ wo : World, wo = wr := ⟨_, rfl⟩
              refine wp_region_lex (fun w' => ∃ n, w' = wo.drewN n) (fun i => ([] : List Nat).contains i) 9 (by kernel_rfl) (by kernel_rfl) (⟨1, rfl⟩) ?_
              repeat (first | (refine lx_skipT (by go_big_quiet_skip; exact wpQuiet_nil trivial) (by kernel_rfl) ?_; simp only [Act.put, List.setIfInBounds_toArray, List.set_cons_succ, List.set_cons_zero]) | (refine lx_quietT rfl (by go_big_quiet_want; exact quiet_false (by assumption)) (by kernel_rfl) rfl ?_; intro Kx hKx; go_big_quiet_op; go_big_quiet_on))
              refine lx_done ?_
              go_wp2_with fail
              go_roundw
              case rel =>
                exact ⟨t + 1, by omega, by go_num, (World.rowIs.set (World.rowIs.drew hrow) t _).congr (halfMixed_step h8), grownBy_store hgr _ rfl rfl⟩
              case measure => simp [intOf]; omega
            · obtain rfl : t = 8 := by omega
              have h8' : ¬ ((8 : Nat) : Int) < 8 := by omega
              go_wp2_with fail
              go_end0
              exact ⟨rfl, hrow.congr (halfMixed_end HS.out), hgr⟩
end Go.Proofs.YtdbhlajajdlmfaaDoor
/- Slices that read as lists, one cell an element: what keeps them, how they are cut, and the law on append from such a slice. Of whatever program. -/
namespace Go.Proofs.YtdbhlajajdlmfaaDoor
open Go Go.RowKit

/-- The ending is a return of a value of which Q holds. -/
def Returns (Q : Value → World → Prop) (e : Ending) (w : World) : Prop := ∃ v, e = .returned v ∧ Q v w
theorem Returns.mk {Q : Value → World → Prop} {v : Value} {w : World} (h : Q v w) : Returns Q (.returned v) w := ⟨v, rfl, h⟩

/-- The slice value v reads as xs. -/
def Rd (w : World) (v : Value) (xs : List Value) : Prop :=
  ∃ ao cap, v = .slice ao xs.length cap ∧ xs.length ≤ cap ∧ cap ≤ 9223372036854775807 ∧ (ao = none → cap = 0) ∧ ∀ ad, ao = some ad → ∀ j u, xs[j]? = some u → w.cell? (ad.add j) = some u
theorem Addr.block_add (a : Addr) (n : Nat) : (a.add n).block = a.block := by unfold Addr.add; split <;> rfl
theorem Rd.keep {w w' : World} {v : Value} {xs : List Value} (h : Rd w v xs) (hk : ∀ g, v.ownBlock = some g → xs ≠ [] → g < w.heap.size → w'.heap[g]? = w.heap[g]?) : Rd w' v xs := by
  obtain ⟨ao, cap, rfl, h1, h2, h3, h4⟩ := h
  refine ⟨ao, cap, rfl, h1, h2, h3, fun ad ha j u hu => ?_⟩
  subst ha
  have hc := h4 ad rfl j u hu
  have hlt := World.block_lt_of_cell? w _ hc
  rw [Addr.block_add] at hlt
  rw [World.cell?_of_block (w := w) (by rw [Addr.block_add]; exact hk ad.block rfl (fun e => by simp [e] at hu) hlt)]
  exact hc
theorem Rd.grow {w w' : World} {v : Value} {xs : List Value} (h : Rd w v xs) (hb : Below w.heap.size w w') : Rd w' v xs := h.keep fun g _ _ hg => hb.block g hg
theorem Rd.below {w w' : World} {v : Value} {xs : List Value} (h : Rd w v xs) {k : Nat} (hb : Below k w w') (hk : ∀ g, v.ownBlock = some g → xs ≠ [] → g < k) : Rd w' v xs := h.keep fun g hg hx _ => hb.block g (hk g hg hx)
theorem Rd.grown {w w' : World} {v : Value} {xs : List Value} (h : Rd w v xs) {row : Option Nat} (hg : w.grownBy w' row) (hne : ∀ g, v.ownBlock = some g → xs ≠ [] → some g ≠ row) : Rd w' v xs := h.keep fun g hv hx hlt => hg.block g hlt (hne g hv hx)
theorem Rd.setCell {w : World} {v : Value} {xs : List Value} (h : Rd w v xs) {p : Addr} (hne : ∀ g, v.ownBlock = some g → xs ≠ [] → g ≠ p.block) (u : Value) : Rd (w.setCell p u) v xs := h.keep fun g hv hx _ => Below.heap_setCell _ _ _ _ (hne g hv hx)
theorem Rd.lt {w : World} {v : Value} {xs : List Value} (h : Rd w v xs) {g : Nat} (hg : v.ownBlock = some g) (hx : xs ≠ []) : g < w.heap.size := by
  obtain ⟨ao, cap, rfl, h1, h2, h3, h4⟩ := h
  cases ao with
  | none => cases hg
  | some ad =>
    simp only [Value.ownBlock, Option.some.injEq] at hg
    subst hg
    cases xs with
    | nil => exact absurd rfl hx
    | cons x xs =>
      have := World.block_lt_of_cell? w _ (h4 ad rfl 0 x rfl)
      rwa [Addr.block_add] at this
theorem Rd.nil (w : World) : Rd w (.slice none 0 0) [] := ⟨none, 0, rfl, Nat.le_refl _, by omega, fun _ => rfl, fun _ h => by cases h⟩
theorem Rd.at {w : World} {v : Value} {xs : List Value} (h : Rd w v xs) (hx : 0 < xs.length) : ∃ g o cap, v = .slice (some ⟨g, o, none⟩) xs.length cap ∧ xs.length ≤ cap ∧ cap ≤ 9223372036854775807 ∧ g < w.heap.size ∧ ∀ j u, xs[j]? = some u → w.cell? ⟨g, o + j, none⟩ = some u := by
  obtain ⟨ao, cap, rfl, h1, h2, h3, h4⟩ := h
  cases ao with
  | none => have := h3 rfl; omega
  | some ad =>
    obtain ⟨g, o, spot⟩ := ad
    have hc := h4 _ rfl 0 _ (List.getElem?_eq_getElem hx)
    have hs : spot = none := by
      cases spot with
      | none => rfl
      | some b =>
        simp only [Addr.add, if_true, World.cell?] at hc
        split at hc <;> simp at hc
    subst hs
    refine ⟨g, o, cap, rfl, h1, h2, ?_, fun j u hu => ?_⟩
    · have := World.block_lt_of_cell? w _ hc; rwa [Addr.block_add] at this
    · have := h4 _ rfl j u hu; rwa [Addr.add_lit] at this
theorem Rd.of_own {w : World} {base e : Nat} {v : Value} {n : Nat} {xs : List Value} (h : w.ownsRow base e 1 v n xs) : Rd w v xs := by
  have hl : xs.length = n := by simpa using h.1
  rcases h.2 with ⟨rfl, rfl⟩ | ⟨g, cap, cur, rfl, _, hg, hn, hm, hc, ht⟩
  · have : xs = [] := List.eq_nil_of_length_eq_zero hl
    subst this
    exact Rd.nil w
  · refine ⟨some ⟨g, 0, none⟩, cap, by rw [hl], by omega, by simpa [maxLen] using hm, fun he => (by cases he), fun ad ha j u hu => ?_⟩
    cases ha
    exact h.cells rfl j u hu
theorem ownsRow_mono {w : World} {base base' e size : Nat} {v : Value} {n : Nat} {xs : List Value} (h : w.ownsRow base e size v n xs) (hb : base' ≤ base) : w.ownsRow base' e size v n xs := by
  refine ⟨h.1, ?_⟩
  rcases h.2 with h | ⟨g, cap, cur, h1, h2, h3⟩
  · exact .inl h
  · exact .inr ⟨g, cap, cur, h1, Nat.le_trans hb h2, h3⟩
theorem ownsRow_below {w w' : World} {base e size : Nat} {v : Value} {n : Nat} {xs : List Value} (h : w.ownsRow base e size v n xs) (hk : ∀ g, v.ownBlock = some g → w'.heap[g]? = w.heap[g]?) : w'.ownsRow base e size v n xs := by
  refine ⟨h.1, ?_⟩
  rcases h.2 with h | ⟨g, cap, cur, rfl, h2, h3, h4⟩
  · exact .inl h
  · exact .inr ⟨g, cap, cur, rfl, h2, by rw [hk g rfl]; exact h3, h4⟩
/-- Cut off ahead: 's[k:]' as the walk writes it, for a slice that is not empty. -/
theorem Rd.drop {w : World} {g o cap : Nat} {xs : List Value} (h : Rd w (.slice (some ⟨g, o, none⟩) xs.length cap) xs) {k : Nat} (hk : k ≤ xs.length) (ao : Option Addr) (hao : ¬ cap = k → ao = some ⟨g, o + k, none⟩) :
    Rd w (.slice ao (xs.length - k) (cap - k)) (xs.drop k) := by
  obtain ⟨ao', cap', hv, h1, h2, h3, h4⟩ := h
  cases hv
  refine ⟨ao, cap - k, by rw [List.length_drop], by rw [List.length_drop]; omega, by omega, fun e => ?_, fun ad ha j u hu => ?_⟩
  · by_cases hc : cap = k
    · omega
    · rw [hao hc] at e; cases e
  · rw [List.getElem?_drop] at hu
    have hj : k + j < xs.length := (List.getElem?_eq_some_iff.1 hu).1
    rw [hao (by omega)] at ha
    cases ha
    have := h4 _ rfl (k + j) u hu
    rw [Addr.add_lit] at this ⊢
    rwa [Nat.add_assoc]
/-- Cut off behind: 's[:k]'. -/
theorem Rd.take {w : World} {g o cap : Nat} {xs : List Value} (h : Rd w (.slice (some ⟨g, o, none⟩) xs.length cap) xs) {k : Nat} (hk : k ≤ xs.length) :
    Rd w (.slice (some ⟨g, o, none⟩) k cap) (xs.take k) := by
  obtain ⟨ao', cap', hv, h1, h2, h3, h4⟩ := h
  cases hv
  refine ⟨_, cap, by rw [List.length_take, Nat.min_eq_left hk], by rw [List.length_take]; omega, h2, fun e => (by cases e), fun ad ha j u hu => ?_⟩
  cases ha
  refine h4 _ rfl j u ?_
  rw [List.getElem?_take] at hu
  split at hu
  · exact hu
  · cases hu

theorem Rd.none_nil {w : World} {n c : Nat} {xs : List Value} (h : Rd w (.slice none n c) xs) : xs = [] := by
  obtain ⟨ao, cap, hv, h1, _, h3, _⟩ := h
  cases hv
  have := h3 rfl
  exact List.eq_nil_of_length_eq_zero (by omega)
theorem Rd.none_zero {w : World} {n c : Nat} {xs : List Value} (h : Rd w (.slice none n c) xs) : xs = [] ∧ c = 0 := by
  obtain ⟨ao, cap, hv, h1, _, h3, _⟩ := h
  cases hv
  have := h3 rfl
  exact ⟨List.eq_nil_of_length_eq_zero (by omega), this⟩
/-- 'append(s, x...)', s nil or the call's own, x a slice that reads as a list. -/
theorem wpList_append_rd {P : Program} {w : World} {ops : Array Oper} {rest : List Oper} {o : Oper} {a : Act} {Q : Exit → Act → World → Prop} (hgd : o.guard = none) (s x : Operand) (t : TypeId)
    (ho : o.op = .call { callee := .builtin .append, args := #[s, x], argTypes := #[t, t] })
    (base : Nat) (e : TypeId) (z : Value) (bytes : Nat) (ht : P.underlying t = some (.slice e)) (hinfo : (P.info? e).map (fun i => (i.zero, i.size, i.bytes)) = some (some z, 1, bytes)) (hzs : z.cells.size = 1)
    (v vx : Value) (xs news : List Value) (hs : a.eval s = v) (hx : a.eval x = vx) (hown : w.ownsRow base e 1 v xs.length xs) (hrd : Rd w vx news) (h1 : ∀ u ∈ news, u.oneCell' = true)
    (hbytes : (xs.length + news.length) * bytes ≤ 140737488355328) (hlen : xs.length + news.length ≤ 140737488355328) (hbase : base ≤ w.heap.size)
    (h : ∀ v' w', w'.ownsRow base e 1 v' (xs ++ news).length (xs ++ news) → w.grownBy w' v.ownBlock → (v' = .slice none 0 0 ↔ v = .slice none 0 0 ∧ news = []) → wpList P ops Q rest (a.put o.dst v') w') : wpList P ops Q (o :: rest) a w := by
  obtain ⟨i, hi, hz1, hz2, hz3⟩ := info_parts hinfo
  obtain ⟨ao, cap, rfl, r1, r2, r3, r4⟩ := hrd
  have hnl : (news.length = 0) ↔ news = [] := List.length_eq_zero_iff
  cases ao with
  | none =>
    have hc := r3 rfl
    have hn : news = [] := hnl.1 (by omega)
    subst hn hc
    refine wpList_append_own_none hgd s x t ho base e i 1 ht hi v _ xs hs hown hx ?_
    exact h v w (by simpa using hown) ⟨rfl, rfl, rfl, Nat.le_refl _, fun _ _ _ => rfl⟩ (by simp)
  | some ad =>
    refine wpList_append_own w hgd s x t ho base e i z 1 bytes ht hi hz1 hz2 hz3 hzs (by omega) v _ xs hs hown ad news.length cap news hx (by simp) (r4 ad rfl) h1 (by unfold maxLen; omega) hbytes hbase ?_
    intro v' w' k1 k2 k3
    exact h v' w' (by rw [List.length_append]; exact k1) k2 (by rw [k3, hnl])
/-- The ending is a return of a slice of n elements of which Q holds. -/
def RetSl (n : Nat) (Q : Value → World → Prop) (e : Ending) (w : World) : Prop := ∃ ao cap, e = .returned (.slice ao n cap) ∧ Q (.slice ao n cap) w
theorem own_shape {w : World} {base e size : Nat} {v : Value} {n : Nat} {xs : List Value} (h : w.ownsRow base e size v n xs) : ∃ ao cap, v = .slice ao n cap := by
  rcases h.2 with ⟨rfl, rfl⟩ | ⟨g, cap, cur, rfl, _⟩
  · exact ⟨none, 0, rfl⟩
  · exact ⟨_, cap, rfl⟩
theorem RetSl.of_own {n : Nat} {Q : Value → World → Prop} {e : Ending} {w : World} {base el size : Nat} {xs : List Value} (h : Returns Q e w) (ho : ∀ v w, Q v w → w.ownsRow base el size v n xs) : RetSl n Q e w := by
  obtain ⟨v, rfl, hq⟩ := h
  obtain ⟨ao, cap, rfl⟩ := own_shape (ho v w hq)
  exact ⟨ao, cap, rfl, hq⟩
/-- Of what was there only blocks of S may have turned. -/
structure Fr (S : Nat → Prop) (w w' : World) : Prop where
  os : w'.os = w.os
  tape : w'.tape = w.tape
  output : w'.output = w.output
  size : w.heap.size ≤ w'.heap.size
  block : ∀ k, k < w.heap.size → ¬ S k → w'.heap[k]? = w.heap[k]?
theorem Fr.refl (S : Nat → Prop) (w : World) : Fr S w w := ⟨rfl, rfl, rfl, Nat.le_refl _, fun _ _ _ => rfl⟩
theorem Fr.trans {S : Nat → Prop} {a b c : World} (h : Fr S a b) (k : Fr S b c) : Fr S a c :=
  ⟨k.os.trans h.os, k.tape.trans h.tape, k.output.trans h.output, Nat.le_trans h.size k.size, fun i hi hn => (k.block i (Nat.lt_of_lt_of_le hi h.size) hn).trans (h.block i hi hn)⟩
theorem Fr.mono {S S' : Nat → Prop} {w w' : World} (h : Fr S w w') (hs : ∀ k, k < w.heap.size → S k → S' k) : Fr S' w w' := ⟨h.os, h.tape, h.output, h.size, fun k hk hn => h.block k hk fun hh => hn (hs k hk hh)⟩
theorem Fr.of_below {S : Nat → Prop} {w w' : World} (h : Below w.heap.size w w') : Fr S w w' := ⟨h.os, h.tape, h.output, h.size, fun k hk _ => h.block k hk⟩
theorem Fr.of_grown {S : Nat → Prop} {w w' : World} {row : Option Nat} (h : w.grownBy w' row) (hs : ∀ k, row = some k → S k) : Fr S w w' := ⟨h.os, h.tape, h.output, h.size, fun k hk hn => h.block k hk fun e => hn (hs k e.symm)⟩
theorem Fr.drew {S : Nat → Prop} {a w : World} (h : Fr S a w) : Fr S a w.drew := ⟨h.os, h.tape, h.output, h.size, h.block⟩
theorem Fr.drewN {S : Nat → Prop} {a w : World} (h : Fr S a w) (n : Nat) : Fr S a (w.drewN n) := ⟨h.os, h.tape, h.output, h.size, h.block⟩
theorem Fr.setCell {S : Nat → Prop} {a w : World} (h : Fr S a w) {p : Addr} (hp : S p.block) (u : Value) : Fr S a (w.setCell p u) :=
  h.trans ⟨rfl, rfl, rfl, by simp [World.setCell], fun k _ hn => Below.heap_setCell _ _ _ _ (fun e => hn (e ▸ hp))⟩
theorem Fr.alloc {S : Nat → Prop} {a w : World} (h : Fr S a w) (o : Obj) : Fr S a (w.alloc o) := h.trans (Fr.of_below ((Below.refl _ _).alloc (Nat.le_refl _) _))
theorem Fr.below {S : Nat → Prop} {w w' : World} (h : Fr S w w') {B : Nat} (hB : B ≤ w.heap.size) (hs : ∀ k, S k → B ≤ k) : Below B w w' :=
  ⟨h.os, h.tape, h.output, h.size, fun k hk => h.block k (by omega) fun hh => by have := hs k hh; omega⟩
theorem Rd.fr {w w' : World} {v : Value} {xs : List Value} (h : Rd w v xs) {S : Nat → Prop} (hf : Fr S w w') (hn : ∀ g, v.ownBlock = some g → xs ≠ [] → ¬ S g) : Rd w' v xs := h.keep fun g hg hx hlt => hf.block g hlt (hn g hg hx)
theorem own_lt {w : World} {base e size : Nat} {v : Value} {n : Nat} {xs : List Value} (h : w.ownsRow base e size v n xs) {g : Nat} (hg : v.ownBlock = some g) : base ≤ g ∧ g < w.heap.size := h.lt g hg
theorem ownsRow_fr {w w' : World} {base e size : Nat} {v : Value} {n : Nat} {xs : List Value} (h : w.ownsRow base e size v n xs) {S : Nat → Prop} (hf : Fr S w w') (hn : ∀ g, v.ownBlock = some g → ¬ S g) : w'.ownsRow base e size v n xs :=
  ownsRow_below h fun g hg => hf.block g (own_lt h hg).2 (hn g hg)
end Go.Proofs.YtdbhlajajdlmfaaDoor
/- The walk of slices.Clone at bytes: what it hands back is the call's own, and reads as what came in. -/
namespace Go.Proofs.YtdbhlajajdlmfaaDoor
open Go Go.RowKit
theorem info_byte : (Tryd.prog.info? 5).map (fun i => (i.zero, i.size, i.bytes)) = some (some (.int .u8 0), 1, 1) := by kernel_rfl
set_option maxHeartbeats 400000 in
theorem clone_none (w : World) : Calls Tryd.prog 64 #[.slice none 0 0] w (Returns fun v' w' => w'.ownsRow w.heap.size 5 1 v' 0 [] ∧ Below w.heap.size w w') := by
  have heq := fun w => Lib.run_eql_slice_nil (P := Tryd.prog) w 44 5 none 0 0 0 0 Tryd.underlying44
  go_enter Tryd.func64, Tryd.ntmps64
  go_wp2
  go_ret
  exact Returns.mk ⟨World.ownsRow_nil _ _ _ _, Below.refl _ _⟩
set_option maxHeartbeats 400000 in
theorem clone_any0 (v : Value) (xs : List Value) (w : World) (hrd : Rd w v xs) (h1 : ∀ u ∈ xs, u.oneCell' = true) (hlen : xs.length ≤ 140737488355328) :
    Calls Tryd.prog 64 #[v] w (Returns fun v' w' => w'.ownsRow w.heap.size 5 1 v' xs.length xs ∧ Below w.heap.size w w') := by
  have hl := hrd
  obtain ⟨ao, cap, rfl, r1, r2, r3, r4⟩ := hl
  have HX := Lib.hid h1
  clear h1 r4 r3
  have heq := fun w => Lib.run_eql_slice_nil (P := Tryd.prog) w 44 5 ao xs.length cap 0 0 Tryd.underlying44
  cases ao with
  | none =>
    obtain ⟨rfl, rfl⟩ := hrd.none_zero
    exact clone_none w
  | some ad =>
    have HR := Lib.hid hrd
    clear hrd
    have HO := Lib.hid (World.ownsRow_lit (base := w.heap.size) (e := 5) (size := 1) w #[] 0 (Nat.le_refl _) (by decide) rfl)
    go_enter Tryd.func64, Tryd.ntmps64
    go_wp2_with ((at_builtin; refine wpList_append_rd rfl _ _ 44 rfl w.heap.size 5 (.int .u8 0) 1 Tryd.underlying44 info_byte rfl (.slice (some ⟨w.heap.size, 0, none⟩) 0 0) (.slice (some ad) xs.length cap) [] xs rfl rfl HO.out (HR.out.grow ((Below.refl _ _).alloc (Nat.le_refl _) _)) HX.out (by simp; omega) (by simp; omega) (by simp) ?_; intro v' w' k1 k2 k3))
    go_ret
    exact Returns.mk ⟨k1, ((Below.refl _ _).alloc (Nat.le_refl _) _).grown k2 (by simp) (by simp [Value.ownBlock])⟩
theorem clone_any (v : Value) (xs : List Value) (w : World) (hrd : Rd w v xs) (h1 : ∀ u ∈ xs, u.oneCell' = true) (hlen : xs.length ≤ 140737488355328) :
    Calls Tryd.prog 64 #[v] w (RetSl xs.length fun v' w' => w'.ownsRow w.heap.size 5 1 v' xs.length xs ∧ Below w.heap.size w w') :=
  (clone_any0 v xs w hrd h1 hlen).mono fun _ _ h => RetSl.of_own h fun _ _ q => q.1
end Go.Proofs.YtdbhlajajdlmfaaDoor
namespace Go.Proofs.YtdbhlajajdlmfaaDoor
open Go Go.RowKit
/-- The cells of a sum that is not done. -/
def shaCells (s : St) (N : Nat) (vr : Value) (i : Nat) : Value := if i < 8 then .int .u32 (wn (s.at i)) else if i = 8 then .int .u64 (N : Int) else vr
theorem shaCells_low {s : St} {N : Nat} {vr : Value} (i : Nat) (h : i < 8) : shaCells s N vr i = .int .u32 (wn (s.at i)) := by unfold shaCells; rw [if_pos h]
theorem shaCells_8 (s : St) (N : Nat) (vr : Value) : shaCells s N vr 8 = .int .u64 (N : Int) := rfl
theorem shaCells_9 (s : St) (N : Nat) (vr : Value) : shaCells s N vr 9 = vr := rfl
theorem shaCells_set8 (s : St) (N M : Nat) (vr : Value) (i : Nat) (h : i < 10) : (if i = 8 then .int .u64 (M : Int) else shaCells s N vr i) = shaCells s M vr i := by
  have : i = 0 ∨ i = 1 ∨ i = 2 ∨ i = 3 ∨ i = 4 ∨ i = 5 ∨ i = 6 ∨ i = 7 ∨ i = 8 ∨ i = 9 := by omega
  rcases this with rfl | rfl | rfl | rfl | rfl | rfl | rfl | rfl | rfl | rfl <;> rfl
theorem shaCells_set9 (s : St) (N : Nat) (vr vx : Value) (i : Nat) (h : i < 10) : (if i = 9 then vx else shaCells s N vr i) = shaCells s N vx i := by
  have : i = 0 ∨ i = 1 ∨ i = 2 ∨ i = 3 ∨ i = 4 ∨ i = 5 ∨ i = 6 ∨ i = 7 ∨ i = 8 ∨ i = 9 := by omega
  rcases this with rfl | rfl | rfl | rfl | rfl | rfl | rfl | rfl | rfl | rfl <;> rfl
theorem shaCells_mixed (s s' : St) (N : Nat) (vr : Value) (i : Nat) (_h : i < 10) : (if i < 8 then .int .u32 (wn (s'.at i)) else shaCells s N vr i) = shaCells s' N vr i := by
  unfold shaCells
  split <;> rfl
/-- What a slot that holds a slice has as its length. -/
def lenV : Value → Nat | .slice _ n _ => n | _ => 0
theorem TabK_fr {K : Nat → BitVec 32} {g : Nat} {w w' : World} (h : TabK K g w) {S : Nat → Prop} (hf : Fr S w w') (hn : ¬ S g) : TabK K g w' := by
  obtain ⟨T, cs, fr, h1, h2⟩ := h
  exact ⟨T, cs, fr, (hf.block g (heap_lt h1) hn).trans h1, h2⟩
theorem bytesAt_of {w : World} {g o n : Nat} {l : List (BitVec 8)} (h : ∀ j u, (bv l)[j]? = some u → w.cell? ⟨g, o + j, none⟩ = some u) (hn : n ≤ l.length) : bytesAt w g o n (fun i => l.getD i 0) :=
  fun j hj => h j _ (bv_at l j (by omega))
/-- The blocks that a sum in progress may turn. -/
def takeS (bs : Nat) (vr : Value) (k : Nat) : Prop := k = bs ∨ vr.ownBlock = some k

def takeInv (K : Nat → BitVec 32) (bs : Nat) (s : St) (N : Nat) (vr : Value) (d : List (BitVec 8)) (w : World) (v : Value) (wr : World) : Prop :=
  ∃ k, 64 * k ≤ d.length ∧ Rd wr v (bv (d.drop (64 * k))) ∧ (∀ g, v.ownBlock = some g → bs < g) ∧ wr.rowIs bs 98 10 (shaCells (absorb K k s d) N vr) ∧ Fr (takeS bs vr) w wr
theorem takeInv_start {K : Nat → BitVec 32} {bs : Nat} {s : St} {N : Nat} {vr v : Value} {d : List (BitVec 8)} {w w1 : World} (h1 : w1.ownsRow (bs + 1) 5 1 v (bv d).length (bv d)) (hf : Fr (takeS bs vr) w w1)
    (hr : w1.rowIs bs 98 10 (shaCells s N vr)) : takeInv K bs s N vr d w v w1 :=
  ⟨0, by omega, by simpa using Rd.of_own h1, fun g hg => (own_lt h1 hg).1, hr, hf⟩
theorem takeInv_step {K : Nat → BitVec 32} {bs : Nat} {s : St} {N : Nat} {vr : Value} {d : List (BitVec 8)} {w wr w2 : World} {k g o cap : Nat} {ao : Option Addr} (hl : 64 ≤ d.length - 64 * k)
    (hr : Rd wr (.slice (some ⟨g, o, none⟩) (bv (d.drop (64 * k))).length cap) (bv (d.drop (64 * k)))) (hf : Fr (takeS bs vr) w wr) (hv : ∀ g', (Value.slice (some ⟨g, o, none⟩) (bv (d.drop (64 * k))).length cap).ownBlock = some g' → bs < g')
    (hrow : w2.rowIs bs 98 10 (fun i => if i < 8 then .int .u32 (wn ((mixed K (absorb K k s d) fun i => (d.drop (64 * k)).getD i 0).at i)) else shaCells (absorb K k s d) N vr i)) (hg : wr.drew.grownBy w2 (some bs))
    (hao : ¬ cap = 64 → ao = some ⟨g, o + 64, none⟩) (hao' : ∀ n c g', (Value.slice ao n c).ownBlock = some g' → g' = g) : takeInv K bs s N vr d w (.slice ao ((bv (d.drop (64 * k))).length - 64) (cap - 64)) w2 := by
  have hg' : wr.grownBy w2 (some bs) := ⟨hg.os, hg.tape, hg.output, hg.size, hg.block⟩
  have hxl : (bv (d.drop (64 * k))).length = d.length - 64 * k := by rw [bv_length, List.length_drop]
  have hgb : bs < g := hv g rfl
  refine ⟨k + 1, by omega, ?_, ?_, ?_, hf.trans (Fr.of_grown hg' fun k hk => .inl (by cases hk; rfl))⟩
  · have h1 := hr.drop (k := 64) (by omega) ao hao
    rw [← bv_drop, List.drop_drop, show 64 * k + 64 = 64 * (k + 1) by omega] at h1
    exact h1.grown hg' fun g' hg'' _ e => by
      have := hao' _ _ g' hg''
      simp only [Option.some.injEq] at e
      omega
  · intro g' hg''
    have := hao' _ _ g' hg''
    omega
  · rw [absorb_succ]
    exact hrow.congr fun i hi => shaCells_mixed _ _ _ _ i hi
theorem takeEnd {K : Nat → BitVec 32} {bs : Nat} {s : St} {N : Nat} {vr v' : Value} {rest b d : List (BitVec 8)} {w wr w2 : World} {k : Nat} (hd : d = rest ++ b) (h64 : d.length - 64 * k < 64) (hk : 64 * k ≤ d.length) (hf : Fr (takeS bs vr) w wr) (hbw : bs < wr.heap.size) (_hdl : d.length ≤ 140737488355328)
    (hrow : w2.rowIs bs 98 10 (shaCells (absorb K k s d) (N + (bv b).length) vr)) (ho : w2.ownsRow wr.heap.size 5 1 v' (bv (d.drop (64 * k))).length (bv (d.drop (64 * k)))) (hb : Below wr.heap.size wr w2) :
    (w2.setCell ⟨bs, 9, none⟩ v').rowIs bs 98 10 (shaCells (absorb K ((rest ++ b).length / 64) s (rest ++ b)) (N + b.length) v') ∧
      (w2.setCell ⟨bs, 9, none⟩ v').ownsRow w.heap.size 5 1 v' (bv ((rest ++ b).drop (64 * ((rest ++ b).length / 64)))).length (bv ((rest ++ b).drop (64 * ((rest ++ b).length / 64)))) ∧ Fr (takeS bs vr) w (w2.setCell ⟨bs, 9, none⟩ v') := by
  have hkn : (rest ++ b).length / 64 = k := by rw [← hd]; omega
  rw [hkn, ← hd, ← bv_length b]
  refine ⟨(World.rowIs.set hrow 9 v').congr (shaCells_set9 _ _ vr v'), ?_, (hf.trans (Fr.of_below hb)).setCell (.inl rfl) _⟩
  refine ownsRow_setCell_other (a := ⟨bs, 9, none⟩) (ownsRow_mono ho hf.size) (fun e => ?_) _
  have := (own_lt ho e).1
  simp only at this
  omega
set_option maxRecDepth 100000 in
set_option maxHeartbeats 1000000 in
theorem take_any (K : Nat → BitVec 32) (bs : Nat) (s : St) (N : Nat) (vr vb : Value) (rest b : List (BitVec 8)) (w : World) (hK : TabK K 1 w) (hg : 1 < bs)
    (hrow : w.rowIs bs 98 10 (shaCells s N vr)) (hown : w.ownsRow (bs + 1) 5 1 vr (bv rest).length (bv rest)) (hb : Rd w vb (bv b)) (hbne : ∀ g, vb.ownBlock = some g → bv b ≠ [] → g ≠ bs)
    (hN : N ≤ 1152921504606846976) (hlen : (bv rest).length + (bv b).length ≤ 140737488355328) :
    Calls Tryd.prog 58 #[.pointer (some ⟨bs, 0, none⟩), vb] w fun e w' => e = .returned (.tuple #[]) ∧ ∃ vr', w'.rowIs bs 98 10 (shaCells (absorb K ((rest ++ b).length / 64) s (rest ++ b)) (N + b.length) vr') ∧
      w'.ownsRow w.heap.size 5 1 vr' (bv ((rest ++ b).drop (64 * ((rest ++ b).length / 64)))).length (bv ((rest ++ b).drop (64 * ((rest ++ b).length / 64)))) ∧ Fr (takeS bs vr) w w' := by
  have HB := Lib.hid hb
  obtain ⟨aob, capb, rfl, b1, b2, -, -⟩ := hb
  have HK := Lib.hid hK
  have HO := Lib.hid hown
  have HR := Lib.hid hrow
  have hbs := hrow.lt
  have c8 := hrow.cell (i := 8) (by omega)
  rw [shaCells_8] at c8
  have c9 := hrow.cell (i := 9) (by omega)
  rw [shaCells_9] at c9
  have f8 := hrow.frozen 8
  have e1 : IntKind.u64.wrap (((bv b).length : Nat) : Int) = (((bv b).length : Nat) : Int) := IntWalk.u64_in _ (by omega)
  have e2 : IntKind.u64.wrap ((N : Int) + (((bv b).length : Nat) : Int)) = ((N + (bv b).length : Nat) : Int) := by rw [IntWalk.u64_in _ (by omega)]; rfl
  have hvr : ∀ g, vr.ownBlock = some g → bs + 1 ≤ g ∧ g < w.heap.size := fun g hg => own_lt hown hg
  have HO1 := Lib.hid (ownsRow_setCell_other (a := ⟨bs, 8, none⟩) hown (fun e => by have := hvr bs e; omega) (.int .u64 ((N + (bv b).length : Nat) : Int)))
  have HB1 := Lib.hid (HB.out.setCell (p := ⟨bs, 8, none⟩) hbne (.int .u64 ((N + (bv b).length : Nat) : Int)))
  have HF1 := Lib.hid (((Fr.refl (takeS bs vr) w).setCell (p := ⟨bs, 8, none⟩) (.inl rfl) (.int .u64 ((N + (bv b).length : Nat) : Int))))
  have HR1 := Lib.hid ((World.rowIs.set hrow 8 (.int .u64 ((N + (bv b).length : Nat) : Int))).congr (shaCells_set8 s N _ vr))
  have HV := Lib.hid hvr
  clear hK hown hrow hN hvr hbne
  go_enter Tryd.func58, Tryd.ntmps58
  go_wp2_with ((at_builtin; refine wpList_append_rd rfl _ _ 44 rfl (bs + 1) 5 (.int .u8 0) 1 Tryd.underlying44 info_byte rfl vr (.slice aob (bv b).length capb) (bv rest) (bv b) rfl rfl HO1.out HB1.out (bv_one b) (by omega) (by omega) (by simp; omega) ?_; intro v1 w1 k1 k2 k3))
  obtain ⟨d, hd⟩ : ∃ d, d = rest ++ b := ⟨_, rfl⟩
  have k1' : w1.ownsRow (bs + 1) 5 1 v1 (bv d).length (bv d) := by rw [hd, bv_append]; exact k1
  have k2' : (w.setCell ⟨bs, 8, none⟩ (.int .u64 ((N + (bv b).length : Nat) : Int))).grownBy w1 vr.ownBlock := k2
  have HD := Lib.hid hd
  have HI := Lib.hid (takeInv_start (s := s) (K := K) k1' (HF1.out.trans (Fr.of_grown k2' fun k hk => .inr hk)) (HR1.out.of_block (k2'.block bs (by simpa using hbs) (fun e => by have := HV.out bs e.symm; omega))))
  clear k1 k2 k3 k1' k2' hd c8 c9 f8 e1 e2
  have hdl : d.length ≤ 140737488355328 := by rw [HD.out, List.length_append, ← bv_length, ← bv_length]; exact hlen
  go_loopw [4] (fun v wr => takeInv K bs s (N + (bv b).length) vr d w v wr) (fun v _ => lenV v)
  case atStart => exact HI.out
  case round =>
    obtain ⟨k, hk, hr, hv, hrow, hfr⟩ := hrel
    have hxl : (bv (d.drop (64 * k))).length = d.length - 64 * k := by rw [bv_length, List.length_drop]
    by_cases h64 : 64 ≤ (bv (d.drop (64 * k))).length
    · have HRd := Lib.hid hr
      obtain ⟨g, o, cap, rfl, r1, r2, r3, r4⟩ := hr.at (by omega)
      have HX := Lib.hid hxl
      have hK' : TabK K 1 wr := TabK_fr HK.out hfr (fun hh => by rcases hh with hh | hh; omega; have := HV.out _ hh; omega)
      have h64' : (64 : Int) ≤ ((bv (d.drop (64 * k))).length : Nat) := by omega
      have hcap : (64 : Int) ≤ (cap : Int) := by omega
      obtain ⟨wo, rfl⟩ : ∃ wo : World, wo = wr := ⟨_, rfl⟩
      have HK' := Lib.hid (show TabK K 1 wo.drew from hK')
      have HRow := Lib.hid (World.rowIs.drew hrow)
      have HBy := Lib.hid (show bytesAt wo.drew g o 64 _ from bytesAt_of r4 (by rw [← bv_length]; exact h64))
      have HGl := Lib.hid (show g < wo.drew.heap.size from r3)
      clear r4 hxl hrow hK' hr
      by_cases hc : cap = 64
      all_goals
        go_wp2_with fail
        refine wp_region_lex (fun _ => True) (fun i => ([5] : List Nat).contains i) 6 (by kernel_rfl) (by kernel_rfl) (trivial) ?_
        repeat (first | (refine lx_skipT (by go_big_quiet_skip; exact wpQuiet_nil trivial) (by kernel_rfl) ?_; simp only [Act.put, List.setIfInBounds_toArray, List.set_cons_succ, List.set_cons_zero]) | (refine lx_quietT rfl (by go_big_quiet_want; exact quiet_false (by assumption)) (by kernel_rfl) rfl ?_; intro Kx hKx; go_big_quiet_op; go_big_quiet_on))
        refine lx_effT rfl (by go_big_quiet_want; exact quiet_false (by assumption)) (by kernel_rfl) ?_; intro Kx hKx; go_wp2_with fail
        refine (mix_any K bs 98 10 g o _ (shaCells (absorb K k s d) (N + (bv b).length) vr) (absorb K k s d) (fun i => (d.drop (64 * k)).getD i 0) wo.drew HK'.out HRow.out (by omega) shaCells_low HBy.out (by omega) (by omega) HGl.out).mono ?_
        rintro e w2 ⟨rfl, hrow2, hgr2⟩
        have HS := Lib.hid hrow2
        have HG := Lib.hid hgr2
        clear hrow2 hgr2
        go_wp2_with fail
        refine ⟨trivial, ?_⟩
        refine lx_done ?_
        go_wp2_with fail
        go_roundw
        case rel =>
          first
            | exact takeInv_step (ao := some ⟨g, o + 64, none⟩) (HX.out ▸ h64) HRd.out hfr hv HS.out HG.out (fun _ => rfl) (by intro _ _ g' hg'; simpa [Value.ownBlock] using hg'.symm)
            | (have h := takeInv_step (ao := some ⟨g, o, none⟩) (HX.out ▸ h64) HRd.out hfr hv HS.out HG.out (fun h => absurd hc h) (by intro _ _ g' hg'; simpa [Value.ownBlock] using hg'.symm)
               rw [show cap - 64 = 0 by omega] at h
               exact h)
        case measure => simp [lenV]; omega
    · have h64' : ¬ (64 : Int) ≤ ((bv (d.drop (64 * k))).length : Nat) := by omega
      have HRd := Lib.hid hr
      obtain ⟨ao, cap, rfl, r1, r2, -, -⟩ := hr
      have HX := Lib.hid hxl
      have HRow := Lib.hid hrow
      clear hxl hrow
      have hbw : bs < wr.heap.size := by have := hfr.size; omega
      obtain ⟨wo, rfl⟩ : ∃ wo : World, wo = wr := ⟨_, rfl⟩
      go_wp2_with fail
      refine (clone_any _ _ _ HRd.out (bv_one _) (by omega)).mono ?_
      rintro e w2 ⟨ao', cap', rfl, ho2, hb2⟩
      have hrow2 := HRow.out.of_block (hb2.block bs hbw)
      have c9 := World.rowIs.cell hrow2 (i := 9) (by omega)
      rw [shaCells_9] at c9
      have f9 := World.rowIs.frozen hrow2 9
      have HO2 := Lib.hid ho2
      have HB2 := Lib.hid hb2
      have HRow2 := Lib.hid hrow2
      clear ho2 hb2 hrow2
      go_wp2_with fail
      go_end0
      exact ⟨rfl, _, takeEnd HD.out (by have := HX.out; omega) hk hfr hbw hdl HRow2.out HO2.out HB2.out⟩
end Go.Proofs.YtdbhlajajdlmfaaDoor
namespace Go.Proofs.YtdbhlajajdlmfaaDoor
open Go Go.RowKit
theorem run_sliceAt_low {P : Program} {t n e : Nat} (ht : P.underlying t = some (.array n e)) (hs : (P.info? e).map (·.size) = some 1) (b l : Nat) (hl : l < n) (x : Int) (hx : x = (l : Int)) (w : World) :
    (Instr.sliceAt t (.pointer (some ⟨b, 0, none⟩)) (some (.int .i64 x)) none none).run P w = .ok (.slice (some ⟨b, l, none⟩) (n - l) (n - l)) w := by
  subst hx
  obtain ⟨i0, hi0, hz⟩ := Option.map_eq_some_iff.1 hs
  have hn : P.arrayLen t = n := by simp [Program.arrayLen, ht]
  have he : P.elem t = e := by simp [Program.elem, ht]
  have ht' : P.underlying t = some (.array (P.arrayLen t) (P.elem t)) := by rw [hn, he]; exact ht
  rw [run_sliceAt_array_l w t _ ht' .i64 (l : Int) (by omega) (by rw [hn]; omega), he, hn]
  have : ¬ n = l := by omega
  have hc : P.cellsOf e = 1 := by simp [Program.cellsOf, hi0, hz]
  simp [run_sizeOf w hi0, slicedAt, hc, this, Addr.add]
  intro h0; exact h0.symm
/-- The end that a sum's bytes get: a bit, zeros, and how many bits there are. -/
def beByte (m : Nat) (t : Nat) : BitVec 8 := BitVec.ofNat 8 (m >>> (8 * (7 - t)))
def tailB (N j : Nat) : List (BitVec 8) := 128 :: (List.replicate (63 - (N + 8) % 64) 0 ++ (List.range j).map (beByte (N * 8)))
theorem tailB_succ (N j : Nat) : tailB N (j + 1) = tailB N j ++ [beByte (N * 8) j] := by simp [tailB, List.range_succ]
theorem tailB_length (N j : Nat) : (tailB N j).length = 64 - (N + 8) % 64 + j := by simp [tailB]; omega
def key0 : Array Value := #[.int .u8 0, .int .u8 0, .int .u8 0, .int .u8 0, .int .u8 0, .int .u8 0, .int .u8 0, .int .u8 0, .int .u8 0, .int .u8 0, .int .u8 0, .int .u8 0, .int .u8 0, .int .u8 0, .int .u8 0, .int .u8 0, .int .u8 0, .int .u8 0, .int .u8 0, .int .u8 0, .int .u8 0, .int .u8 0, .int .u8 0, .int .u8 0, .int .u8 0, .int .u8 0, .int .u8 0, .int .u8 0, .int .u8 0, .int .u8 0, .int .u8 0, .int .u8 0]
def finW (s : St) (N : Nat) (vr : Value) (w : World) : World := (w.alloc (.cells #[.int .u32 (wn s.a), .int .u32 (wn s.b), .int .u32 (wn s.c), .int .u32 (wn s.d), .int .u32 (wn s.e), .int .u32 (wn s.f), .int .u32 (wn s.g), .int .u32 (wn s.h), .int .u64 (N : Int), vr] 98)).alloc (.cells key0 30)
theorem finW_size (s : St) (N : Nat) (vr : Value) (w : World) : (finW s N vr w).heap.size = w.heap.size + 2 := by simp [finW, World.size_alloc]
theorem finW_below (s : St) (N : Nat) (vr : Value) (w : World) : Below w.heap.size w (finW s N vr w) := ((Below.refl _ _).alloc (Nat.le_refl _) _).alloc (by rw [World.size_alloc]; omega) _
def shaArr (s : St) (N : Nat) (vr : Value) : Array Value := #[.int .u32 (wn s.a), .int .u32 (wn s.b), .int .u32 (wn s.c), .int .u32 (wn s.d), .int .u32 (wn s.e), .int .u32 (wn s.f), .int .u32 (wn s.g), .int .u32 (wn s.h), .int .u64 (N : Int), vr]
theorem shaArr_at (s : St) (N : Nat) (vr : Value) (i : Nat) (hi : i < 10) : (shaArr s N vr)[i]? = some (shaCells s N vr i) := by
  have : i = 0 ∨ i = 1 ∨ i = 2 ∨ i = 3 ∨ i = 4 ∨ i = 5 ∨ i = 6 ∨ i = 7 ∨ i = 8 ∨ i = 9 := by omega
  rcases this with rfl | rfl | rfl | rfl | rfl | rfl | rfl | rfl | rfl | rfl <;> rfl
theorem shaRow (s : St) (N : Nat) (vr : Value) (w : World) : (w.alloc (.cells (shaArr s N vr) 98)).rowIs w.heap.size 98 10 (shaCells s N vr) :=
  World.rowIs_alloc w (shaArr s N vr) _ (shaCells s N vr) (fun i hi => shaArr_at s N vr i hi)
theorem finW_sha (s : St) (N : Nat) (vr : Value) (w : World) : (finW s N vr w).rowIs w.heap.size 98 10 (shaCells s N vr) :=
  (shaRow s N vr w).of_block (Below.heap_alloc _ _ _ (by rw [World.size_alloc]; omega))
/-- A word's bytes, the highest first; a state's. -/
def wbytes (x : BitVec 32) : List (BitVec 8) := [(x >>> 24).setWidth 8, (x >>> 16).setWidth 8, (x >>> 8).setWidth 8, x.setWidth 8]
theorem wn_b0 (x : BitVec 32) : wn x % (256 : Int) = bn (x.setWidth 8) := by unfold wn bn; rw [BitVec.toNat_setWidth]; omega
def keyPart (s : St) (t : Nat) : List (BitVec 8) := (List.range t).flatMap (fun i => wbytes (s.at i)) ++ List.replicate (32 - 4 * t) 0
theorem keyPart_low (s : St) (t : Nat) : ((List.range t).flatMap (fun i => wbytes (s.at i))).length = 4 * t := by
  induction t with
  | zero => rfl
  | succ t ih => rw [List.range_succ, List.flatMap_append, List.length_append, ih]; simp [wbytes]; omega
theorem keyPart_length (s : St) (t : Nat) (h : t ≤ 8) : (keyPart s t).length = 32 := by
  unfold keyPart; rw [List.length_append, keyPart_low, List.length_replicate]; omega
theorem keyPart_step (s : St) (t : Nat) (h : t < 8) : (keyPart s t).take (4 * t) ++ (wbytes (s.at t) ++ (keyPart s t).drop (4 * t + 4)) = keyPart s (t + 1) := by
  have e := keyPart_low s t
  unfold keyPart
  rw [List.take_append_of_le_length (by omega), List.take_of_length_le (by omega), List.drop_append, List.drop_of_length_le (by omega), List.nil_append, e, List.drop_replicate, List.range_succ, List.flatMap_append]
  simp only [List.flatMap_cons, List.flatMap_nil, List.append_nil, List.append_assoc]
  rw [show 32 - 4 * t - (4 * t + 4 - 4 * t) = 32 - 4 * (t + 1) by omega]
def keyBytes (s : St) : List (BitVec 8) := (List.range 8).flatMap (fun i => wbytes (s.at i))
theorem keyPart_end (s : St) : keyPart s 8 = keyBytes s := by simp [keyPart, keyBytes]
/-- The sum of a state, behind N bytes, with so many left. -/
def finKey (K : Nat → BitVec 32) (s : St) (N : Nat) (rest : List (BitVec 8)) : List (BitVec 8) := keyBytes (absorb K ((rest ++ tailB N 8).length / 64) s (rest ++ tailB N 8))
def padRow : Array Value := madeCells #[.int .u8 0] 128
theorem padRow_size : padRow.size = 128 := size_madeCells _ _
theorem padRow_eq : padRow.toList = List.replicate 128 (.int .u8 0) := toList_madeCells_one _ 128
theorem padRow_0 : padRow[0]? = some (.int .u8 0) := by rw [← Array.getElem?_toList, padRow_eq]; rfl
theorem tail_start (N : Nat) (w : World) (b g : Nat) (hg : g = w.heap.size) (hb : b ≤ w.heap.size) : (w.alloc (.cells (padRow.setIfInBounds 0 (.int .u8 128)) 5)).ownsRow b 5 1 (.slice (some ⟨g, 0, none⟩) (64 - (N + 8) % 64) 128) (bv (tailB N 0)).length (bv (tailB N 0)) := by
  subst hg
  have e : bv (tailB N 0) = (List.replicate (64 - (N + 8) % 64) (.int .u8 0)).set 0 (.int .u8 128) := by
    obtain ⟨k, hk⟩ : ∃ k, 64 - (N + 8) % 64 = k + 1 := ⟨63 - (N + 8) % 64, by omega⟩
    rw [hk, List.replicate_succ, List.set_cons_zero]
    unfold tailB bv
    rw [show 63 - (N + 8) % 64 = k by omega]
    simp [bn]
  rw [bv_length, tailB_length, e]
  have hn : 64 - (N + 8) % 64 ≤ 128 := by omega
  generalize 64 - (N + 8) % 64 = n at hn ⊢
  refine ⟨by simp, .inr ⟨w.heap.size, 128, _, rfl, hb, heap_alloc_new w _, hn, by decide, by rw [Array.size_setIfInBounds]; exact padRow_size, ?_⟩⟩
  rw [Array.toList_setIfInBounds, padRow_eq, List.take_set, List.take_replicate, Nat.mul_one, Nat.add_zero, Nat.min_eq_left hn]
theorem be_num (N t : Nat) : (N : Int) * 8 / 2 ^ (8 * (7 - t)) % 256 = bn (beByte (N * 8) t) := by
  unfold bn beByte
  rw [BitVec.toNat_ofNat, Nat.shiftRight_eq_div_pow, Int.natCast_emod, Int.natCast_ediv, Int.natCast_mul]
  simp
theorem Rd.lit (w : World) (cs : Array Value) (t n : Nat) (hn : cs.size = n) (hm : n ≤ maxLen) : Rd (w.alloc (.cells cs t)) (.slice (some ⟨w.heap.size, 0, none⟩) n n) cs.toList :=
  Rd.of_own (World.ownsRow_lit (base := 0) w cs n (Nat.zero_le _) hm (by omega))
theorem copy_word (k b t : Nat) (st : St) (w wr : World) (h8 : t < 8) (hkb : k ≤ b) (hrow : wr.heap[b]? = some (.cells (bv (keyPart st t)).toArray 30 (0, 0))) (hB : Below k w wr) :
    ∃ w2, (Builtin.copy_ #[44, 44] 3 #[.slice (some ⟨b, 4 * t, none⟩) (32 - 4 * t) (32 - 4 * t), .slice (some ⟨wr.heap.size, 0, none⟩) 4 4]).run Tryd.prog
      (wr.alloc (.cells #[.int .u8 (bn (BitVec.setWidth 8 (st.at t >>> 24))), .int .u8 (bn (BitVec.setWidth 8 (st.at t >>> 16))), .int .u8 (bn (BitVec.setWidth 8 (st.at t >>> 8))), .int .u8 (bn (BitVec.setWidth 8 (st.at t)))] 5)) = .ok (.int .i64 4) w2 ∧
      w2.heap[b]? = some (.cells (bv (keyPart st (t + 1))).toArray 30 (0, 0)) ∧ Below k w w2 := by
  have hb := heap_lt hrow
  have hk := hB.size
  have h1 := (Below.heap_alloc wr (.cells (bv (wbytes (st.at t))).toArray 5) b hb).trans hrow
  have h2 := run_copy_row Tryd.prog (wr.alloc (.cells (bv (wbytes (st.at t))).toArray 5)) 44 44 3 5 b (4 * t) (32 - 4 * t) (32 - 4 * t) ⟨wr.heap.size, 0, none⟩ 4 4 _ _ (bv (wbytes (st.at t))) Tryd.underlying44 (by kernel_rfl) h1
    (by rw [bv_length]; show 4 = min 4 (32 - 4 * t); omega) (fun j v hv => (World.ownsRow.cells (World.ownsRow_lit (base := 0) (e := 5) (size := 1) wr (bv (wbytes (st.at t))).toArray 4 (Nat.zero_le _) (by decide) rfl) rfl j v hv))
    (by rw [bv_length, List.size_toArray, bv_length, keyPart_length _ _ (by omega)]; show 4 * t + 4 ≤ 32; omega) (bv_one _)
  refine ⟨_, h2, ?_, ?_⟩
  · rw [setRow_heap _ _ _ _ _ _ h1, ← keyPart_step st t h8, bv_append, bv_append, bv_take, bv_drop, List.append_assoc]
    rfl
  · refine below_setRow (hB.alloc (by
      obtain hlt := hb
      omega) _) hkb _
theorem wn_shr24 (x : BitVec 32) : wn x / (16777216 : Int) = wn (x >>> 24) := wn_shr x 24
theorem wn_shr16 (x : BitVec 32) : wn x / (65536 : Int) = wn (x >>> 16) := wn_shr x 16
theorem wn_shr8 (x : BitVec 32) : wn x / (256 : Int) = wn (x >>> 8) := wn_shr x 8
theorem store_self {P : Program} {w : World} {b t : Nat} {l : List Value} (hg : w.heap[b]? = some (.cells l.toArray t (0, 0))) (h1 : ∀ u ∈ l, u.oneCell' = true) : (storeCells ⟨b, 0, none⟩ l).run P w = .ok () w := by
  rw [run_storeCells_at P b 0 t l 0 l.toArray w hg (by simp) h1]
  simp [setRow_self w b _ t (0, 0) hg]
attribute [local go_sem] wn_shr24 wn_shr16 wn_shr8 wn_b0
set_option maxRecDepth 100000 in
set_option maxHeartbeats 1000000 in
theorem finish_any (K : Nat → BitVec 32) (s : St) (N : Nat) (vr : Value) (rest : List (BitVec 8)) (w : World) (hK : TabK K 1 w) (hrd : Rd w vr (bv rest)) (hN : N ≤ 1125899906842624) (hlen : rest.length ≤ 1099511627776) :
    Calls Tryd.prog 59 #[.agg #[.int .u32 (wn s.a), .int .u32 (wn s.b), .int .u32 (wn s.c), .int .u32 (wn s.d), .int .u32 (wn s.e), .int .u32 (wn s.f), .int .u32 (wn s.g), .int .u32 (wn s.h), .int .u64 (N : Int), vr]] w fun e w' => e = .returned (.agg (bv (finKey K s N rest)).toArray) ∧ Below w.heap.size w w' := by
  have HR := Lib.hid hrd
  have HK := Lib.hid hK
  clear hrd hK
  obtain ⟨i0, hi, hz1, hz2, hz3⟩ := info_parts info_byte
  have hmk : ∀ w, (Instr.makeSlice 44 (.int .i64 (64 - ((N : Int) + 8) % 64)) (.int .i64 128)).run Tryd.prog w = .ok (.slice (some ⟨w.heap.size, 0, none⟩) (64 - (N + 8) % 64) 128) (w.alloc (.cells padRow 5)) := fun w => by
    have := run_make (P := Tryd.prog) w 44 5 i0 (.int .u8 0) Tryd.underlying44 hi hz1 .i64 .i64 (64 - ((N : Int) + 8) % 64) 128 (by omega) (by omega) (by rw [hz3]; omega) (by omega)
    rw [this, hz2, show (64 - ((N : Int) + 8) % 64).toNat = 64 - (N + 8) % 64 by omega]
    rfl
  have p0 := padRow_0
  have ps := padRow_size
  clear hi hz1 hz2 hz3
  go_enter Tryd.func59, Tryd.ntmps59
  go_wp2_with fail
  go_loopw [4, 5] (fun v4 v5 wr => ∃ j : Nat, j ≤ 8 ∧ v5 = .int .i64 (7 - (j : Int)) ∧ wr.ownsRow (w.heap.size + 2) 5 1 v4 (bv (tailB N j)).length (bv (tailB N j)) ∧ Below (w.heap.size + 2) (finW s N vr w) wr) (fun _ v5 _ => (intOf v5 + 1).toNat)
  case atStart =>
    exact ⟨0, by omega, rfl, tail_start N (finW s N vr w) _ _ (finW_size s N vr w).symm (Nat.le_of_eq (finW_size s N vr w).symm), (Below.refl _ (finW s N vr w)).alloc (Nat.le_of_eq (finW_size s N vr w).symm) _⟩
  case round =>
    obtain ⟨j, hj, rfl, ho, hb⟩ := hrel
    by_cases h8 : j < 8
    · have h8' : (0 : Int) ≤ 7 - (j : Int) := by omega
      have HO := Lib.hid ho
      have HB := Lib.hid hb
      clear ho hb
      have hbe := be_num N j
      go_wp2_with ((at_builtin; refine wpList_append_rd rfl _ _ 44 rfl (w.heap.size + 2) 5 (.int .u8 0) 1 Tryd.underlying44 info_byte rfl u4 (.slice (some ⟨wr.heap.size, 0, none⟩) 1 1) (bv (tailB N j)) [.int .u8 (bn (beByte (N * 8) j))] rfl rfl (HO.out.alloc _) (Rd.lit wr #[.int .u8 (bn (beByte (N * 8) j))] 5 1 rfl (by decide)) (by simp [Value.oneCell']) (by rw [bv_length, tailB_length]; simp; omega) (by rw [bv_length, tailB_length]; simp; omega) (by have := HB.out.size; rw [finW_size] at this; rw [World.size_alloc]; omega) ?_; intro v1 w1 k1 k2 k3))
      go_roundw
      case rel =>
        have hsz : w.heap.size + 2 ≤ wr.heap.size := by have := HB.out.size; rwa [finW_size] at this
        have hk1 : w1.ownsRow (w.heap.size + 2) 5 1 v1 (bv (tailB N (j + 1))).length (bv (tailB N (j + 1))) := by rw [tailB_succ, bv_append]; exact k1
        exact ⟨j + 1, by omega, by go_num, hk1, (HB.out.alloc hsz _).grown k2 (by rw [World.size_alloc]; omega) (fun g hg => (own_lt HO.out hg).1)⟩
      case measure => simp [intOf]; omega
    · obtain rfl : j = 8 := by omega
      have hsha := (finW_sha s N vr w).of_block (hb.block w.heap.size (by omega))
      have c9 := World.rowIs.cell hsha (i := 9) (by omega)
      rw [shaCells_9] at c9
      have f9 := World.rowIs.frozen hsha 9
      have HO := Lib.hid ho
      have HB := Lib.hid hb
      have HS := Lib.hid hsha
      clear ho hb hsha
      obtain ⟨wo, rfl⟩ : ∃ wo : World, wo = wr := ⟨_, rfl⟩
      have hsz : w.heap.size + 2 ≤ wo.heap.size := by have := HB.out.size; rwa [finW_size] at this
      have HR1 := Lib.hid (HR.out.grow (((finW_below s N vr w).trans (HB.out.mono (by omega)))))
      go_wp2_with fail
      refine (clone_any _ _ _ HR1.out (bv_one _) (by rw [bv_length]; omega)).mono ?_
      rintro e w2 ⟨ao, cap, rfl, ho2, hb2⟩
      have hsha2 := HS.out.of_block (hb2.block w.heap.size (by omega))
      have c9 := World.rowIs.cell hsha2 (i := 9) (by omega)
      rw [shaCells_9] at c9
      have f9 := World.rowIs.frozen hsha2 9
      have hown3 : (w2.setCell ⟨w.heap.size, 9, none⟩ (.slice ao (bv rest).length cap)).ownsRow (w.heap.size + 1) 5 1 (.slice ao (bv rest).length cap) (bv rest).length (bv rest) :=
        ownsRow_setCell_other (a := ⟨w.heap.size, 9, none⟩) (ownsRow_mono ho2 (by omega)) (fun e => by have := (own_lt ho2 e).1; simp only at this; omega) _
      have hrow3 : (w2.setCell ⟨w.heap.size, 9, none⟩ (.slice ao (bv rest).length cap)).rowIs w.heap.size 98 10 (shaCells s N (.slice ao (bv rest).length cap)) :=
        (World.rowIs.set hsha2 9 _).congr (shaCells_set9 s N vr _)
      have hrd3 : Rd (w2.setCell ⟨w.heap.size, 9, none⟩ (.slice ao (bv rest).length cap)) u4 (bv (tailB N 8)) :=
        ((Rd.of_own HO.out).grow hb2).setCell (fun g hg _ => by have := (own_lt HO.out hg).1; simp only; omega) _
      have hb3 : Below w.heap.size w (w2.setCell ⟨w.heap.size, 9, none⟩ (.slice ao (bv rest).length cap)) :=
        (((finW_below s N vr w).trans (HB.out.mono (by omega))).trans (hb2.mono (by omega))).setCell (Nat.le_refl _) _
      have hK3 : TabK K 1 (w2.setCell ⟨w.heap.size, 9, none⟩ (.slice ao (bv rest).length cap)) := TabK_fr HK.out (Fr.of_below (S := fun _ => False) hb3) (fun h => h)
      have hg : 1 < w.heap.size := by obtain ⟨_, cs, fr, h1, _⟩ := HK.out; exact heap_lt h1
      have hs3 : wo.heap.size ≤ (w2.setCell ⟨w.heap.size, 9, none⟩ (.slice ao (bv rest).length cap)).heap.size := by have := hb2.size; simpa using this
      have HT := Lib.hid (take_any K w.heap.size s N _ u4 rest (tailB N 8) _ hK3 hg hrow3 hown3 hrd3 (fun g hg _ => by have := (own_lt HO.out hg).1; omega) (by omega) (by rw [bv_length, bv_length, tailB_length]; omega))
      have hout : (w2.setCell ⟨w.heap.size, 9, none⟩ (.slice ao (bv rest).length cap)).heap[w.heap.size + 1]? = some (.cells key0 30 (0, 0)) := by
        rw [Below.heap_setCell _ _ _ _ (by simp), hb2.block _ (by omega), HB.out.block _ (by omega)]
        exact heap_alloc2_new w _ _
      have hao : ∀ g, (Value.slice ao (bv rest).length cap).ownBlock = some g → wo.heap.size ≤ g := fun g hg => (own_lt ho2 hg).1
      have HOut := Lib.hid hout
      have HAo := Lib.hid hao
      have HB3 := Lib.hid hb3
      clear hown3 hrow3 hrd3 hK3 hsha2 hout hao hb3
      go_wp2_with fail
      refine (HT.out).mono ?_
      rintro e w4 ⟨rfl, vr', hrow4, hown4, hf4⟩
      have HR4 := Lib.hid hrow4
      have HF4 := Lib.hid hf4
      clear hrow4 hown4 hf4
      obtain ⟨st, hst⟩ : ∃ st, st = absorb K ((rest ++ tailB N 8).length / 64) s (rest ++ tailB N 8) := ⟨_, rfl⟩
      rw [← hst] at HR4
      obtain ⟨g0, g1, g2, g3, g4, g5, g6, g7⟩ := state_cells HR4.out shaCells_low (by omega) (Below.refl (w.heap.size + 1) w4) (by omega)
      have hout4 : w4.heap[w.heap.size + 1]? = some (.cells (bv (keyPart st 0)).toArray 30 (0, 0)) :=
        (HF4.out.block _ (by have := heap_lt HOut.out; exact this) (fun hh => by rcases hh with hh | hh; omega; have := HAo.out _ hh; omega)).trans HOut.out
      have HO4 := Lib.hid hout4
      have HB4 := Lib.hid (show Below w.heap.size w w4 from HB3.out.trans (HF4.out.below (by have := HB3.out.size; exact this) (fun k hk => by rcases hk with hk | hk; omega; have := HAo.out _ hk; omega)))
      have HSt := Lib.hid hst
      clear hout4 hst hs3 f9 c9 HT
      clear f9 c9
      go_wp2_with fail
      go_loopw [40] (fun v wx => ∃ t : Nat, t ≤ 8 ∧ v = .int .i64 t ∧ wx.heap[w.heap.size + 1]? = some (.cells (bv (keyPart st t)).toArray 30 (0, 0)) ∧ Below w.heap.size w wx) (fun v _ => 8 - (intOf v).toNat)
      case atStart => exact ⟨0, by omega, rfl, HO4.out, HB4.out⟩
      case round =>
        obtain ⟨t, ht, rfl, hrow, hbx⟩ := hrel
        by_cases h8 : t < 8
        · have h8' : (t : Int) < 8 := by omega
          have i0 := run_index_cells (P := Tryd.prog) (len := 8) (t := 96) (e := 95) (k := .u32) Tryd.underlying96 Tryd.underlying95 (by kernel_rfl) (i := t) h8 (st_cells st t h8)
          have HR := Lib.hid hrow
          have HB := Lib.hid hbx
          clear hrow hbx
          have hsl := run_sliceAt_low (P := Tryd.prog) (t := 30) (n := 32) (e := 5) Tryd.underlying30 (by kernel_rfl) (w.heap.size + 1) (4 * t) (by omega) (4 * (t : Int)) (by omega)
          obtain ⟨w5, q1, q2, q3⟩ := copy_word w.heap.size (w.heap.size + 1) t st w wr h8 (by omega) HR.out HB.out
          have Q2 := Lib.hid q2
          have Q3 := Lib.hid q3
          clear q2 q3
          go_wp2_with fail
          go_roundw
          case rel => exact ⟨t + 1, by omega, by go_num, Q2.out, Q3.out⟩
          case measure => simp [intOf]; omega
        · obtain rfl : t = 8 := by omega
          have h8' : ¬ ((8 : Nat) : Int) < 8 := by omega
          have HR := Lib.hid hrow
          have HB := Lib.hid hbx
          have hsz8 : (Tryd.prog.info? 30).map (·.size) = some (bv (keyPart st 8)).toArray.size := by rw [List.size_toArray, bv_length, keyPart_length _ _ ht]; kernel_rfl
          have hss := store_self (P := Tryd.prog) hrow (bv_one _)
          clear hrow hbx
          go_wp2_with (refine wpList_load_row rfl 30 _ rfl (w.heap.size + 1) rfl 30 (bv (keyPart st 8)).toArray (0, 0) _ HR.out Tryd.underlying30 rfl hsz8 ?_)
          refine bodyPost_ret (results_cell_row rfl _ _ (w.heap.size + 1) 30 (bv (keyPart st 8)).toArray (0, 0) _ rfl HR.out Tryd.underlying30 rfl hsz8) rfl ?_
          rw [keyPart_end, HSt.out]
          exact ⟨by rw [finKey, List.length_append], HB.out⟩
end Go.Proofs.YtdbhlajajdlmfaaDoor
/- Arrays of integers: '==' of two of them; a field of a struct's value. Of whatever program. -/
namespace Go.Proofs.YtdbhlajajdlmfaaDoor
open Go Go.RowKit
theorem all_range_ints : ∀ (xs ys : List Int), xs.length = ys.length → ((List.range xs.length).all fun i => xs.getD i 0 == ys.getD i 0) = (xs == ys)
  | [], [], _ => rfl
  | x :: xs, y :: ys, h => by
    have ih := all_range_ints xs ys (by simpa using h)
    rw [List.length_cons, List.range_succ_eq_map, List.all_cons, List.all_map]
    simp only [List.getD_cons_zero, Function.comp_def, List.getD_cons_succ, ih]
    simp [List.cons_beq_cons]
  | [], _ :: _, h => by simp at h
  | _ :: _, [], h => by simp at h
theorem run_equalIn_ints {P : Program} (w : World) (D d : Nat) (hD : D = d + 2) (t e n : Nat) (k : IntKind) (ht : P.underlying t = some (.array n e)) (he : P.underlying e = some (.int k)) (hs : (P.info? e).map (·.size) = some 1)
    (xs ys : List Int) (hx : xs.length = n) (hy : ys.length = n) :
    (Op.equalIn D t (.agg (xs.map (.int k)).toArray) (.agg (ys.map (.int k)).toArray)).run P w = .ok (xs == ys) w := by
  subst hD
  obtain ⟨i0, hi0, hz⟩ := Option.map_eq_some_iff.1 hs
  have hc : P.cellsOf e = 1 := by simp [Program.cellsOf, hi0, hz]
  have hsz : ∀ w, (sizeOf e).run P w = .ok 1 w := fun w => by rw [run_sizeOf w hi0, hc]
  rw [← all_range_ints xs ys (hx.trans hy.symm), hx, List.range_eq_range', Op.equalIn]
  simp only [Sem.run_bind, run_underlying ht, Result.andThen_ok, hsz, Std.Legacy.Range.forIn_eq_forIn_range', Std.Legacy.Range.size, Nat.sub_zero, Nat.add_sub_cancel, Nat.div_one]
  have hl : ∀ i ∈ List.range' 0 n 1, i < n := fun i hi => by simpa using (List.mem_range'_1.1 hi).2
  generalize List.range' 0 n 1 = l at hl ⊢
  induction l with
  | nil => simp
  | cons i l ih =>
    have hi : i < n := hl i (by simp)
    have px : (part e (xs.map (.int k)).toArray (i * 1)).run P w = .ok (.int k (xs.getD i 0)) w := by
      simp [part, isAgg, run_underlying he, List.getD, List.getElem?_eq_getElem (show i < xs.length by omega)]
    have py : (part e (ys.map (.int k)).toArray (i * 1)).run P w = .ok (.int k (ys.getD i 0)) w := by
      simp [part, isAgg, run_underlying he, List.getD, List.getElem?_eq_getElem (show i < ys.length by omega)]
    have pe : (Op.equalIn (d + 1) e (.int k (xs.getD i 0)) (.int k (ys.getD i 0))).run P w = .ok (xs.getD i 0 == ys.getD i 0) w := run_equalIn_int w d e k k _ _ he
    simp only [List.forIn_cons, Sem.run_bind, px, py, pe, Result.andThen_ok, List.all_cons]
    cases hb : (xs.getD i 0 == ys.getD i 0)
    · simp
    · simp only [Bool.not_true, Bool.false_eq_true, if_false, Sem.run_pure, Result.andThen_ok, Bool.true_and]
      exact ih fun j hj => hl j (by simp [hj])
theorem wn_inj {x y : BitVec 32} (h : wn x = wn y) : x = y := by
  unfold wn at h
  exact BitVec.eq_of_toNat_eq (by omega)
theorem bn_inj {x y : BitVec 8} (h : bn x = bn y) : x = y := by
  unfold bn at h
  exact BitVec.eq_of_toNat_eq (by omega)
end Go.Proofs.YtdbhlajajdlmfaaDoor
namespace Go.Proofs.YtdbhlajajdlmfaaDoor
open Go Go.RowKit
deriving instance DecidableEq for St
/-- The words at first. -/
def iv : St := ⟨1779033703, 3144134277, 1013904242, 2773480762, 1359893119, 2600822924, 528734635, 1541459225⟩
theorem new_any (w : World) : Calls Tryd.prog 57 #[] w fun e w' => e = .returned (.agg (shaArr iv 0 (.slice none 0 0))) ∧ Below w.heap.size w w' := by
  go_enter Tryd.func57, Tryd.ntmps57
  go_wp2_with fail
  go_returns
  exact ⟨rfl, (Below.refl _ _).alloc (Nat.le_refl _) _⟩
def St.words (s : St) : List Int := [wn s.a, wn s.b, wn s.c, wn s.d, wn s.e, wn s.f, wn s.g, wn s.h]
theorem St.words_inj {s t : St} (h : s.words = t.words) : s = t := by
  simp only [St.words, List.cons.injEq] at h
  obtain ⟨h1, h2, h3, h4, h5, h6, h7, h8, -⟩ := h
  cases s; cases t
  simp only [St.mk.injEq]
  exact ⟨wn_inj h1, wn_inj h2, wn_inj h3, wn_inj h4, wn_inj h5, wn_inj h6, wn_inj h7, wn_inj h8⟩
theorem St.words_beq (s t : St) : (s.words == t.words) = decide (s = t) := by
  by_cases hst : s = t
  · subst hst; simp
  · simp only [hst, decide_false, beq_eq_false_iff_ne]
    exact fun e => hst (St.words_inj e)
theorem St.words_agg (s : St) : Value.agg #[.int .u32 (wn s.a), .int .u32 (wn s.b), .int .u32 (wn s.c), .int .u32 (wn s.d), .int .u32 (wn s.e), .int .u32 (wn s.f), .int .u32 (wn s.g), .int .u32 (wn s.h)] = .agg (s.words.map (.int .u32)).toArray := rfl
theorem run_eq_st (s t : St) (b : Bool) (hb : b = decide (s = t)) (w : World) : (Op.equalIn 10000 96 (.agg #[.int .u32 (wn s.a), .int .u32 (wn s.b), .int .u32 (wn s.c), .int .u32 (wn s.d), .int .u32 (wn s.e), .int .u32 (wn s.f), .int .u32 (wn s.g), .int .u32 (wn s.h)])
    (.agg #[.int .u32 (wn t.a), .int .u32 (wn t.b), .int .u32 (wn t.c), .int .u32 (wn t.d), .int .u32 (wn t.e), .int .u32 (wn t.f), .int .u32 (wn t.g), .int .u32 (wn t.h)])).run Tryd.prog w = .ok b w := by
  have h := run_equalIn_ints (P := Tryd.prog) w 10000 9998 (by omega) 96 95 8 .u32 Tryd.underlying96 Tryd.underlying95 (by kernel_rfl) s.words t.words rfl rfl
  rw [s.words_agg, t.words_agg, h]
  rw [hb, St.words_beq]
theorem new_any' (w : World) : Calls Tryd.prog 57 #[] w fun e w' => e = .returned (.agg #[.int .u32 (wn iv.a), .int .u32 (wn iv.b), .int .u32 (wn iv.c), .int .u32 (wn iv.d), .int .u32 (wn iv.e), .int .u32 (wn iv.f), .int .u32 (wn iv.g), .int .u32 (wn iv.h), .int .u64 0, .slice none 0 0]) ∧ Below w.heap.size w w' := new_any w
end Go.Proofs.YtdbhlajajdlmfaaDoor
/- A sum in progress, of any bytes: what it is behind more bytes. Lists of byte slices. No program here. -/
namespace Go.Proofs.YtdbhlajajdlmfaaDoor
open Go Go.RowKit
/-- The state behind the whole blocks of d, and what is left. -/
def shaSt (K : Nat → BitVec 32) (s : St) (d : List (BitVec 8)) : St := absorb K (d.length / 64) s d
def restOf (d : List (BitVec 8)) : List (BitVec 8) := d.drop (64 * (d.length / 64))
theorem restOf_length (d : List (BitVec 8)) : (restOf d).length = d.length % 64 := by unfold restOf; rw [List.length_drop]; omega
theorem mixed_congr (K : Nat → BitVec 32) (s : St) {B B' : Nat → BitVec 8} (h : ∀ i, i < 64 → B i = B' i) : mixed K s B = mixed K s B' := by
  have e : blockWords B = blockWords B' := by
    unfold blockWords
    apply List.map_congr_left
    intro t ht
    have ht' : t < 16 := by simpa using ht
    rw [h _ (by omega), h _ (by omega), h _ (by omega), h _ (by omega)]
  unfold mixed
  rw [e]
theorem absorb_append (K : Nat → BitVec 32) : ∀ (n : Nat) (s : St) (l m : List (BitVec 8)), 64 * n ≤ l.length → absorb K n s (l ++ m) = absorb K n s l
  | 0, _, _, _, _ => rfl
  | n + 1, s, l, m, h => by
    show absorb K n (mixed K s fun i => (l ++ m).getD i 0) ((l ++ m).drop 64) = absorb K n (mixed K s fun i => l.getD i 0) (l.drop 64)
    rw [List.drop_append_of_le_length (by omega), absorb_append K n _ _ _ (by rw [List.length_drop]; omega)]
    rw [mixed_congr K s (B' := fun i => l.getD i 0) fun i hi => by simp only [List.getD_eq_getElem?_getD]; rw [List.getElem?_append_left (by omega)]]
theorem absorb_add (K : Nat → BitVec 32) : ∀ (m n : Nat) (s : St) (l : List (BitVec 8)), absorb K (m + n) s l = absorb K n (absorb K m s l) (l.drop (64 * m))
  | 0, n, s, l => by simp [absorb]
  | m + 1, n, s, l => by
    rw [show m + 1 + n = (m + n) + 1 by omega]
    show absorb K (m + n) (mixed K s fun i => l.getD i 0) (l.drop 64) = absorb K n (absorb K m (mixed K s fun i => l.getD i 0) (l.drop 64)) (l.drop (64 * (m + 1)))
    rw [absorb_add K m n, List.drop_drop, show 64 + 64 * m = 64 * (m + 1) by omega]
theorem sha_step (K : Nat → BitVec 32) (s : St) (d b : List (BitVec 8)) : absorb K ((restOf d ++ b).length / 64) (shaSt K s d) (restOf d ++ b) = shaSt K s (d ++ b) ∧ (restOf d ++ b).drop (64 * ((restOf d ++ b).length / 64)) = restOf (d ++ b) := by
  have hl := restOf_length d
  have e1 : (d ++ b).length / 64 = d.length / 64 + (restOf d ++ b).length / 64 := by rw [List.length_append, List.length_append, hl]; omega
  have e2 : (d ++ b).drop (64 * (d.length / 64)) = restOf d ++ b := by unfold restOf; rw [List.drop_append_of_le_length (by omega)]
  constructor
  · show _ = absorb K ((d ++ b).length / 64) s (d ++ b)
    rw [e1, absorb_add, e2, absorb_append K (d.length / 64) s d b (by omega)]
    rfl
  · show _ = (d ++ b).drop (64 * ((d ++ b).length / 64))
    rw [e1, Nat.mul_add, ← List.drop_drop, e2]
theorem shaSt_short (K : Nat → BitVec 32) (s : St) (d : List (BitVec 8)) (h : d.length < 64) : shaSt K s d = s ∧ restOf d = d := by
  have e : d.length / 64 = 0 := by omega
  unfold shaSt restOf
  rw [e]
  exact ⟨rfl, rfl⟩
/-- A slice of byte slices reads as a list of lists. -/
def RdAll (w : World) (v : Value) (ps : List (List (BitVec 8))) : Prop := ∃ vs, Rd w v vs ∧ vs.length = ps.length ∧ ∀ i v, vs[i]? = some v → Rd w v (bv (ps.getD i []))
theorem RdAll.fr {w w' : World} {v : Value} {ps : List (List (BitVec 8))} (h : RdAll w v ps) {S : Nat → Prop} (hf : Fr S w w') (hn : ∀ k, k < w.heap.size → ¬ S k) : RdAll w' v ps := by
  obtain ⟨vs, h1, h2, h3⟩ := h
  exact ⟨vs, h1.fr hf (fun g hg hx => hn g (h1.lt hg hx)), h2, fun i v hv => (h3 i v hv).fr hf (fun g hg hx => hn g ((h3 i v hv).lt hg hx))⟩
theorem RdAll.below {w w' : World} {v : Value} {ps : List (List (BitVec 8))} (h : RdAll w v ps) (hb : Below w.heap.size w w') : RdAll w' v ps := h.fr (Fr.of_below (S := fun _ => False) hb) (fun _ _ h => h)
theorem RdAll.shape {w : World} {v : Value} {ps : List (List (BitVec 8))} (h : RdAll w v ps) : ∃ ao cap, v = .slice ao ps.length cap ∧ ps.length ≤ 9223372036854775807 := by
  obtain ⟨vs, ⟨ao, cap, rfl, r1, r2, r3, r4⟩, h2, h3⟩ := h
  exact ⟨ao, cap, by rw [h2], by omega⟩
theorem RdAll.cell {w : World} {v : Value} {ps : List (List (BitVec 8))} (h : RdAll w v ps) {i : Nat} (hi : i < ps.length) : ∃ g o cap u, v = .slice (some ⟨g, o, none⟩) ps.length cap ∧ w.cell? ⟨g, o + i, none⟩ = some u ∧ Rd w u (bv (ps.getD i [])) := by
  obtain ⟨vs, h1, h2, h3⟩ := h
  obtain ⟨g, o, cap, rfl, r1, r2, r3, r4⟩ := h1.at (by omega)
  have hv : vs[i]? = some (vs[i]'(by omega)) := List.getElem?_eq_getElem (by omega)
  exact ⟨g, o, cap, _, by rw [h2], r4 i _ hv, h3 i _ hv⟩
theorem flatten_take_succ {α : Type} (ps : List (List α)) (i : Nat) (h : i < ps.length) : (ps.take (i + 1)).flatten = (ps.take i).flatten ++ ps.getD i [] := by
  rw [List.take_succ_eq_append_getElem h, List.flatten_append]
  simp [List.getD_eq_getElem?_getD, List.getElem?_eq_getElem h]
theorem flatten_take_le {α : Type} : ∀ (ps : List (List α)) (i : Nat), (ps.take i).flatten.length ≤ ps.flatten.length
  | [], i => by simp
  | p :: ps, 0 => by simp
  | p :: ps, i + 1 => by
    have := flatten_take_le ps i
    simp only [List.take_succ_cons, List.flatten_cons, List.length_append]
    omega
theorem getD_flatten_le {α : Type} (ps : List (List α)) (i : Nat) (h : i < ps.length) : (ps.take i).flatten.length + (ps.getD i []).length ≤ ps.flatten.length := by
  have h1 := flatten_take_le ps (i + 1)
  rw [flatten_take_succ ps i h, List.length_append] at h1
  exact h1
end Go.Proofs.YtdbhlajajdlmfaaDoor
namespace Go.Proofs.YtdbhlajajdlmfaaDoor
open Go Go.RowKit
/-- The sum at once. -/
def digest (K : Nat → BitVec 32) (d : List (BitVec 8)) : List (BitVec 8) := finKey K (shaSt K iv d) d.length (restOf d)
/-- A sum in progress, in a block of its own, behind the bytes d (those that it began with among them). -/
def shaInv (K : Nat → BitVec 32) (w0 : World) (bs : Nat) (s : St) (N : Nat) (d : List (BitVec 8)) (wr : World) : Prop :=
  ∃ vr, wr.rowIs bs 98 10 (shaCells (shaSt K s d) N vr) ∧ wr.ownsRow (bs + 1) 5 1 vr (bv (restOf d)).length (bv (restOf d)) ∧ Below w0.heap.size w0 wr
theorem shaInv.step {K : Nat → BitVec 32} {w0 : World} {bs : Nat} {s : St} {N : Nat} {d : List (BitVec 8)} {wr : World} (h : shaInv K w0 bs s N d wr) (hK : TabK K 1 w0) (hbs : w0.heap.size ≤ bs) {vb : Value} {b : List (BitVec 8)} (hb : Rd wr vb (bv b))
    (hvb : ∀ g, vb.ownBlock = some g → bv b ≠ [] → g < w0.heap.size) (hN : N ≤ 1152921504606846976) (hlen : b.length ≤ 70368744177664) :
    Calls Tryd.prog 58 #[.pointer (some ⟨bs, 0, none⟩), vb] wr fun e w' => e = .returned (.tuple #[]) ∧ shaInv K w0 bs s (N + b.length) (d ++ b) w' := by
  obtain ⟨vr, h1, h2, h3⟩ := h
  have hr := restOf_length d
  obtain ⟨e1, e2⟩ := sha_step K s d b
  have hg : 1 < w0.heap.size := by obtain ⟨_, cs, fr, h1, _⟩ := hK; exact heap_lt h1
  refine (take_any K bs (shaSt K s d) N vr vb (restOf d) b wr (TabK_fr hK (Fr.of_below (S := fun _ => False) h3) (fun h => h)) (by omega) h1 h2 hb (fun g hg hx => by have := hvb g hg hx; omega) hN (by rw [bv_length, bv_length]; omega)).mono ?_
  rintro e w' ⟨rfl, vr', k1, k2, k3⟩
  rw [e1] at k1
  rw [e2] at k2
  exact ⟨rfl, vr', k1, ownsRow_mono k2 (by have := h1.lt; omega), h3.trans (k3.below h3.size (fun k hk => by rcases hk with hk | hk; omega; have := (own_lt h2 hk).1; omega))⟩
theorem shaInv.below {K : Nat → BitVec 32} {w0 : World} {bs : Nat} {s : St} {N : Nat} {d : List (BitVec 8)} {wr : World} (h : shaInv K w0 bs s N d wr) : Below w0.heap.size w0 wr := by
  obtain ⟨_, _, _, h⟩ := h; exact h
theorem shaInv.start (K : Nat → BitVec 32) (s : St) (w : World) : shaInv K w w.heap.size s 0 [] (w.alloc (.cells #[.int .u32 (wn s.a), .int .u32 (wn s.b), .int .u32 (wn s.c), .int .u32 (wn s.d), .int .u32 (wn s.e), .int .u32 (wn s.f), .int .u32 (wn s.g), .int .u32 (wn s.h), .int .u64 0, .slice none 0 0] 98)) :=
  ⟨.slice none 0 0, by rw [(shaSt_short K s [] (by simp)).1]; exact shaRow s 0 (.slice none 0 0) w, World.ownsRow_nil _ _ _ _, (Below.refl _ _).alloc (Nat.le_refl _) _⟩
theorem RdAll.elem_lt {w wr : World} {ao : Option Addr} {n cap : Nat} {ps : List (List (BitVec 8))} (h : RdAll w (.slice ao n cap) ps) (hb : Below w.heap.size w wr) {i g o : Nat} (hi : i < ps.length) {u : Value} (hao : ao = some ⟨g, o, none⟩) (hc : wr.cell? ⟨g, o + i, none⟩ = some u) :
    ∀ g, u.ownBlock = some g → bv (ps.getD i []) ≠ [] → g < w.heap.size := by
  obtain ⟨g', o', cap', u', hv, hc', hu'⟩ := h.cell hi
  subst hao
  cases hv
  have := hb.cell (p := ⟨g, o + i, none⟩) (World.block_lt_of_cell? w _ hc')
  rw [hc, hc'] at this
  cases this
  exact fun g hg hx => hu'.lt hg hx
theorem keyBytes_length (s : St) : (keyBytes s).length = 32 := keyPart_low s 8
theorem digest_length (K : Nat → BitVec 32) (d : List (BitVec 8)) : (digest K d).length = 32 := keyBytes_length _
theorem store_key {w : World} {b : Nat} (l : List (BitVec 8)) {n : Nat} (hl : l.length = n) {cur : Array Value} (hg : w.heap[b]? = some (.cells cur 30 (0, 0))) (hc : cur.size = n := by rfl) :
    ∃ w', (storeCells ⟨b, 0, none⟩ (bv l)).run Tryd.prog w = .ok () w' ∧ w'.heap[b]? = some (.cells (bv l).toArray 30 (0, 0)) ∧ ∀ k w0, k ≤ b → Below k w0 w → Below k w0 w' := by
  have h := run_storeCells_at Tryd.prog b 0 _ (bv l) 0 cur w hg (by rw [bv_length]; omega) (bv_one l)
  have e : (cur.toList.take (0 + 0) ++ bv l ++ cur.toList.drop (0 + 0 + (bv l).length)).toArray = (bv l).toArray := by
    rw [List.drop_of_length_le (by rw [bv_length, Array.length_toList]; omega)]; simp
  rw [e] at h
  exact ⟨_, h, setRow_heap _ _ _ _ _ _ hg, fun k w0 hk hb => below_setRow hb hk _⟩
set_option maxRecDepth 100000 in
set_option maxHeartbeats 1000000 in
theorem sum_any (K : Nat → BitVec 32) (vp : Value) (ps : List (List (BitVec 8))) (w : World) (hK : TabK K 1 w) (hp : RdAll w vp ps) (hlen : ps.flatten.length ≤ 1099511627776) :
    Calls Tryd.prog 31 #[vp] w fun e w' => e = .returned (.agg (bv (digest K ps.flatten)).toArray) ∧ Below w.heap.size w w' := by
  have HK := Lib.hid hK
  have HP := Lib.hid hp
  obtain ⟨ao, cap, rfl, hcap⟩ := hp.shape
  clear hK hp
  go_enter Tryd.func31, Tryd.ntmps31
  go_wp2_with fail
  refine (new_any' _).mono ?_
  rintro e w1 ⟨rfl, hb1⟩
  go_wp2_with fail
  have hb1' : Below w.heap.size w w1 := ((Below.refl _ _).alloc (Nat.le_refl _) _).trans (hb1.mono (by rw [World.size_alloc]; omega))
  have hout1 : w1.heap[w.heap.size]? = some (.cells key0 30 (0, 0)) := (hb1.block w.heap.size (by rw [World.size_alloc]; omega)).trans (heap_alloc_new w _)
  have HO1 := Lib.hid hout1
  have HB1 := Lib.hid hb1'
  have HK1 := Lib.hid (TabK_fr HK.out (Fr.of_below (S := fun _ => False) hb1') (fun h => h))
  have HP1 := Lib.hid (HP.out.below hb1')
  have hlt1 : w.heap.size < w1.heap.size := heap_lt hout1
  clear hb1 hb1' hout1
  have HI := Lib.hid (shaInv.start K iv w1)
  go_loopw [9] (fun v wr => ∃ i : Nat, i ≤ ps.length ∧ v = .int .i64 i ∧ shaInv K w1 w1.heap.size iv (ps.take i).flatten.length (ps.take i).flatten wr) (fun v _ => ps.length - (intOf v).toNat)
  case atStart => exact ⟨0, by omega, rfl, HI.out⟩
  case round =>
    obtain ⟨i, hi, rfl, hv⟩ := hrel
    have hfl := flatten_take_le ps i
    have hbw := hv.below
    by_cases hlt : i < ps.length
    · obtain ⟨g, o, cap', u, hvv, hc, hu⟩ := (HP1.out.below hbw).cell hlt
      cases hvv
      have hfl2 := getD_flatten_le ps i hlt
      have hu1 : ∀ g, u.ownBlock = some g → bv (ps.getD i []) ≠ [] → g < w1.heap.size := HP1.out.elem_lt hbw hlt rfl hc
      have HT := Lib.hid (hv.step HK1.out (Nat.le_refl _) hu hu1 (by omega) (by omega))
      have HV := Lib.hid hv
      clear hv hu hu1
      have hlt' : (i : Int) < (ps.length : Nat) := by omega
      go_wp2_with fail
      refine HT.out.mono ?_
      rintro e w2 ⟨rfl, hi2⟩
      have HI2 := Lib.hid hi2
      clear hi2
      go_wp2_with fail
      go_roundw
      case rel => exact ⟨i + 1, by omega, by go_num, by rw [flatten_take_succ ps i hlt, List.length_append]; exact HI2.out⟩
      case measure => simp [intOf]; omega
    · obtain rfl : i = ps.length := by omega
      have hlt' : ¬ ((ps.length : Nat) : Int) < (ps.length : Nat) := by omega
      rw [List.take_length] at hv
      obtain ⟨d, hd⟩ : ∃ d, d = ps.flatten := ⟨_, rfl⟩
      rw [← hd] at hv hlen
      have HD := Lib.hid hd
      clear hd hfl
      obtain ⟨vr, h1, h2, h3⟩ := hv
      have HF0 := finish_any K (shaSt K iv d) d.length vr (restOf d) wr (TabK_fr HK1.out (Fr.of_below (S := fun _ => False) h3) (fun h => h)) (Rd.of_own h2) (by omega) (by have := restOf_length d; omega)
      have HG : Hid (finKey K (shaSt K iv d) d.length (restOf d) = digest K d) := rfl
      clear h2
      generalize shaSt K iv d = st at h1 HF0 HG
      generalize restOf d = rs at HF0 HG
      generalize d.length = N at h1 HF0 HG hlen
      obtain ⟨g0, g1, g2, g3, g4, g5, g6, g7⟩ := state_cells h1 shaCells_low (by omega) (Below.refl (w1.heap.size + 1) wr) (by omega)
      have g8 := h1.cell (i := 8) (by omega)
      rw [shaCells_8] at g8
      have g9 := h1.cell (i := 9) (by omega)
      rw [shaCells_9] at g9
      rw [HG.out] at HF0
      generalize hx : digest K d = X at HF0
      have hxl : X.length = 32 := by rw [← hx]; exact digest_length K d
      have HF := Lib.hid HF0
      have HX := Lib.hid hx
      clear HF0 HG hx
      have HO := Lib.hid ((h3.block _ hlt1).trans HO1.out)
      have HB := Lib.hid (HB1.out.trans (h3.mono (by omega)))
      have hsz := h3.size
      clear h1 h3
      go_wp2_with fail
      refine HF.out.mono ?_
      rintro e w2 ⟨rfl, hb2⟩
      obtain ⟨w3, q1, q2, q3⟩ := store_key (w := w2) (b := w.heap.size) X hxl ((hb2.block _ (by omega)).trans HO.out)
      have HO3 := Lib.hid q2
      have HB3 := Lib.hid (q3 w.heap.size w (Nat.le_refl _) (HB.out.trans (hb2.mono (by omega))))
      have hsz8 : (Tryd.prog.info? 30).map (·.size) = some (bv X).toArray.size := by rw [List.size_toArray, bv_length, hxl]; kernel_rfl
      have hxb : (bv X).length = 32 := by rw [bv_length]; exact hxl
      clear q2 q3 hb2
      go_wp2_with fail
      refine bodyPost_ret (results_cell_row rfl _ _ w.heap.size 30 (bv X).toArray (0, 0) _ rfl HO3.out Tryd.underlying30 rfl hsz8) rfl ?_
      exact ⟨by rw [← HX.out, HD.out], HB3.out⟩
end Go.Proofs.YtdbhlajajdlmfaaDoor
namespace Go.Proofs.YtdbhlajajdlmfaaDoor
open Go Go.RowKit
theorem wpList_store_rowX {P : Program} {ops : Array Oper} {rest : List Oper} {o : Oper} {a : Act} {w : World} {Q : Exit → Act → World → Prop} (hgd : o.guard = none) (ty : TypeId) (x y : Operand) (ho : o.op = .store ty x y)
    (g : Nat) (cells : Array Value) (hx : a.eval x = .pointer (some ⟨g, 0, none⟩)) (hy : a.eval y = .agg cells)
    (t : TypeId) (old : Array Value) (hg : w.heap[g]? = some (.cells old t (0, 0))) (hi : (P.info? ty).map (·.size) = some cells.size)
    (hold : old.size = cells.size) (h1 : cells.all (·.oneCell') = true)
    (h : ∀ w', Hid (w'.heap[g]? = some (.cells cells t (0, 0))) → (∀ k w0, k ≤ g → Below k w0 w → Below k w0 w') → wpList P ops Q rest (a.put o.dst undef) w') : wpList P ops Q (o :: rest) a w :=
  wpList_store_row hgd ty x y ho g cells hx hy t old hg hi hold h1 (h _ (show _ = _ from setRow_heap _ _ _ _ _ _ hg) fun _ _ hk hb => below_setRow hb hk _)
theorem wpList_store_key0 {ops : Array Oper} {rest : List Oper} {o : Oper} {a : Act} {w : World} {Q : Exit → Act → World → Prop} (hgd : o.guard = none) (x y : Operand) (ho : o.op = .store 30 x y)
    (g : Nat) (hx : a.eval x = .pointer (some ⟨g, 0, none⟩)) (hy : a.eval y = .agg key0)
    (hg : w.heap[g]? = some (.cells key0 30 (0, 0)))
    (h : ∀ w', Hid (w'.heap[g]? = some (.cells key0 30 (0, 0))) → (∀ k w0, k ≤ g → Below k w0 w → Below k w0 w') → wpList Tryd.prog ops Q rest (a.put o.dst undef) w') : wpList Tryd.prog ops Q (o :: rest) a w :=
  wpList_store_rowX hgd _ x y ho g key0 hx hy _ key0 hg (by kernel_rfl) rfl (by kernel_rfl) h
theorem results_cell_tmp {P : Program} {fn : Func} {p q : Tmp} {ty : TypeId} (h : fn.results = #[.cell p ty, .tmp q]) (tmps : Array Value) (w : World) (g : Nat) (t : TypeId) (cs : Array Value) (fr : Nat × Nat) (d : TypeDesc)
    (hp : tmps.getD p undef = .pointer (some ⟨g, 0, none⟩)) (hg : w.heap[g]? = some (.cells cs t fr))
    (hu : P.underlying ty = some d) (hd : (match d with | .struct _ | .array _ _ => true | _ => false) = true) (hi : (P.info? ty).map (·.size) = some cs.size) :
    (results fn tmps).run P w = .ok (.tuple #[.agg cs, tmps.getD q undef]) w := by
  have hp' : tmps[p]?.getD undef = .pointer (some ⟨g, 0, none⟩) := by simpa using hp
  simp [results, h, hp', asAddr, run_loadVar_row w g t ty cs fr d hg hu hd hi]
end Go.Proofs.YtdbhlajajdlmfaaDoor
namespace Go.Proofs.YtdbhlajajdlmfaaDoor
open Go Go.RowKit
/-- A sum in progress, in a block bs, what is left of it at B or above; nothing else of what was there turns. -/
def shaInv2 (K : Nat → BitVec 32) (w0 : World) (bs B : Nat) (s : St) (N : Nat) (d : List (BitVec 8)) (wr : World) : Prop :=
  ∃ vr, wr.rowIs bs 98 10 (shaCells (shaSt K s d) N vr) ∧ wr.ownsRow B 5 1 vr (bv (restOf d)).length (bv (restOf d)) ∧ Fr (fun k => k = bs ∨ B ≤ k) w0 wr
theorem shaInv2.fr {K : Nat → BitVec 32} {w0 : World} {bs B : Nat} {s : St} {N : Nat} {d : List (BitVec 8)} {wr : World} (h : shaInv2 K w0 bs B s N d wr) : Fr (fun k => k = bs ∨ B ≤ k) w0 wr := by obtain ⟨_, _, _, h⟩ := h; exact h
theorem shaInv2.step {K : Nat → BitVec 32} {w0 : World} {bs B : Nat} {s : St} {N : Nat} {d : List (BitVec 8)} {wr : World} (h : shaInv2 K w0 bs B s N d wr) (hK : TabK K 1 w0) (hg : 1 < bs) (hbB : bs < B) (hB : B ≤ w0.heap.size) {vb : Value} {b : List (BitVec 8)} (hb : Rd wr vb (bv b))
    (hvb : ∀ g, vb.ownBlock = some g → bv b ≠ [] → g ≠ bs) (hN : N ≤ 1152921504606846976) (hlen : b.length ≤ 70368744177664) :
    Calls Tryd.prog 58 #[.pointer (some ⟨bs, 0, none⟩), vb] wr fun e w' => e = .returned (.tuple #[]) ∧ shaInv2 K w0 bs B s (N + b.length) (d ++ b) w' := by
  obtain ⟨vr, h1, h2, h3⟩ := h
  have hr := restOf_length d
  obtain ⟨e1, e2⟩ := sha_step K s d b
  refine (take_any K bs (shaSt K s d) N vr vb (restOf d) b wr (TabK_fr hK h3 (fun h => by omega)) hg h1 (ownsRow_mono h2 (by omega)) hb hvb hN (by rw [bv_length, bv_length]; omega)).mono ?_
  rintro e w' ⟨rfl, vr', k1, k2, k3⟩
  rw [e1] at k1
  rw [e2] at k2
  exact ⟨rfl, vr', k1, ownsRow_mono k2 (by have := h3.size; omega), h3.trans (k3.mono (fun k _ hk => by rcases hk with hk | hk; exact .inl hk; exact .inr (own_lt h2 hk).1))⟩
theorem wpList_store_sha {ops : Array Oper} {rest : List Oper} {o : Oper} {a : Act} {w : World} {Q : Exit → Act → World → Prop} (hgd : o.guard = none) (x y : Operand) (ho : o.op = .store 98 x y)
    (g : Nat) (cs : Array Value) (hx : a.eval x = .pointer (some ⟨g, 0, none⟩)) (hy : a.eval y = .agg cs) (hcs : cs.size = 10) (h1 : cs.all (·.oneCell') = true) (old : Array Value) (hold : old.size = 10)
    (hg : w.heap[g]? = some (.cells old 98 (0, 0)))
    (h : ∀ w', Hid (w'.heap[g]? = some (.cells cs 98 (0, 0))) → (∀ k w0, k ≤ g → Below k w0 w → Below k w0 w') → Hid (∀ k, k ≠ g → w'.heap[k]? = w.heap[k]?) → wpList Tryd.prog ops Q rest (a.put o.dst undef) w') : wpList Tryd.prog ops Q (o :: rest) a w :=
  wpList_store_row hgd _ x y ho g cs hx hy _ old hg (by rw [hcs]; kernel_rfl) (by rw [hold, hcs]) h1 (h _ (show _ = _ from setRow_heap _ _ _ _ _ _ hg) (fun _ _ hk hb => below_setRow hb hk _) (show _ from fun k hk => setRow_other w g k _ hk))
theorem shaInv2.start (K : Nat → BitVec 32) {w : World} {bs B : Nat} {s : St} {N : Nat} {d : List (BitVec 8)} {vr : Value} (hd : d.length < 64) (h1 : w.rowIs bs 98 10 (shaCells s N vr)) (h2 : w.ownsRow B 5 1 vr (bv d).length (bv d)) : shaInv2 K w bs B s N d w := by
  obtain ⟨e1, e2⟩ := shaSt_short K s d hd
  exact ⟨vr, by rw [e1]; exact h1, by rw [e2]; exact h2, Fr.refl _ _⟩
end Go.Proofs.YtdbhlajajdlmfaaDoor
namespace Go.Proofs.YtdbhlajajdlmfaaDoor
open Go Go.RowKit
/-- The bytes as a string. -/
def bstr (xs : List (BitVec 8)) : ByteArray := ⟨(xs.map UInt8.ofBitVec).toArray⟩
theorem bstr_toList (xs : List (BitVec 8)) : (bstr xs).toList = xs.map UInt8.ofBitVec := by rw [ByteArray.toList_eq]; rfl
theorem bstr_eq (xs ys : List (BitVec 8)) : ((bstr xs).toList == (bstr ys).toList) = decide (xs = ys) := by
  by_cases h : xs = ys
  · subst h; simp
  · simp only [h, decide_false, beq_eq_false_iff_ne]
    intro e
    rw [bstr_toList, bstr_toList] at e
    exact h (List.map_inj_right (fun x y e => by cases e; rfl) |>.1 e)
theorem push_bytes : ∀ (xs : List (BitVec 8)) (s : List UInt8), (xs.map bn).foldl (fun (r : ByteArray) n => r.push (UInt8.ofNat n.toNat)) ⟨s.toArray⟩ = ⟨(s ++ xs.map UInt8.ofBitVec).toArray⟩
  | [], s => by simp
  | x :: xs, s => by
    have e : (ByteArray.push ⟨s.toArray⟩ (UInt8.ofNat (bn x).toNat)) = ⟨(s ++ [UInt8.ofBitVec x]).toArray⟩ := by
      have : UInt8.ofNat (bn x).toNat = UInt8.ofBitVec x := by
        unfold bn
        apply UInt8.toNat_inj.1
        simp
      rw [this]
      simp [ByteArray.push]
    rw [List.map_cons, List.foldl_cons, e, push_bytes xs]
    simp
theorem run_str {P : Program} {src dst e : Nat} (hs : P.underlying src = some (.slice e)) (he : P.underlying e = some (.int .u8)) (hd : P.underlying dst = some .string) {w : World} {v : Value} {xs : List (BitVec 8)} (h : Rd w v (bv xs)) :
    (convert src dst v).run P w = .ok (.string (bstr xs)) w := by
  obtain ⟨ao, cap, rfl, h1, h2, h3, h4⟩ := h
  rw [run_convert_bytes_string w src dst e _ _ _ hs he hd]
  cases ao with
  | none =>
    have hc := h3 rfl
    have : xs = [] := List.eq_nil_of_length_eq_zero (by rw [bv_length] at h1; omega)
    subst this
    simp [Conv.bytesToString, bstr]
    rfl
  | some ad =>
    have hl := run_loadCells_list (P := P) w ad (bv xs) (h4 ad rfl)
    have hm : bv xs = (xs.map bn).map (Value.int .u8) := by simp [bv]
    rw [run_bytesToString w ad (bv xs).length cap (xs.map bn) (by rw [← hm]; exact hl)]
    have := push_bytes xs []
    simp only [List.nil_append] at this
    rw [show (ByteArray.empty) = ⟨([] : List UInt8).toArray⟩ from rfl, this]
    rfl
set_option maxRecDepth 100000 in
theorem same_any (va vb : Value) (xs ys : List (BitVec 8)) (w : World) (ha : Rd w va (bv xs)) (hb : Rd w vb (bv ys)) :
    Calls Tryd.prog 21 #[va, vb] w fun e w' => e = .returned (.bool (decide (xs = ys))) ∧ w' = w := by
  have h1 := run_str (P := Tryd.prog) (dst := 9) Tryd.underlying44 Tryd.underlying5 Tryd.underlying9 ha
  have h2 := run_str (P := Tryd.prog) (dst := 9) Tryd.underlying44 Tryd.underlying5 Tryd.underlying9 hb
  have h3 := bstr_eq xs ys
  clear ha hb
  go_enter Tryd.func21, Tryd.ntmps21
  go_wp2_with fail
  go_ret
  exact ⟨rfl, rfl⟩
end Go.Proofs.YtdbhlajajdlmfaaDoor
namespace Go.Proofs.YtdbhlajajdlmfaaDoor
open Go Go.RowKit
set_option maxRecDepth 100000 in
theorem copy_any0 (v : Value) (xs : List (BitVec 8)) (w : World) (h : Rd w v (bv xs)) (hlen : xs.length ≤ 70368744177664) :
    Calls Tryd.prog 32 #[v] w (Returns fun v' w' => w'.ownsRow w.heap.size 5 1 v' (bv xs).length (bv xs) ∧ Below w.heap.size w w') := by
  have HR := Lib.hid h
  have HO := Lib.hid (World.ownsRow_nil w w.heap.size 5 1)
  obtain ⟨ao, cap, rfl, -, -, -, -⟩ := h
  go_enter Tryd.func32, Tryd.ntmps32
  go_wp2_with ((at_builtin; refine wpList_append_rd rfl _ _ 44 rfl w.heap.size 5 (.int .u8 0) 1 Tryd.underlying44 info_byte rfl (.slice none 0 0) (.slice ao (bv xs).length cap) [] (bv xs) rfl rfl HO.out HR.out (bv_one _) (by simp [bv_length]; omega) (by simp [bv_length]; omega) (Nat.le_refl _) ?_; intro v' w' k1 k2 k3))
  go_ret
  exact Returns.mk ⟨k1, (Below.refl _ _).grown k2 (Nat.le_refl _) (by simp [Value.ownBlock])⟩
theorem copy_any (v : Value) (xs : List (BitVec 8)) (w : World) (h : Rd w v (bv xs)) (hlen : xs.length ≤ 70368744177664) :
    Calls Tryd.prog 32 #[v] w (RetSl (bv xs).length fun v' w' => w'.ownsRow w.heap.size 5 1 v' (bv xs).length (bv xs) ∧ Below w.heap.size w w') :=
  (copy_any0 v xs w h hlen).mono fun _ _ h => RetSl.of_own h fun _ _ q => q.1
set_option maxRecDepth 100000 in
set_option maxHeartbeats 1000000 in
theorem all_any0 (vp : Value) (ps : List (List (BitVec 8))) (w : World) (hp : RdAll w vp ps) (hlen : ps.flatten.length ≤ 70368744177664) :
    Calls Tryd.prog 75 #[vp] w (Returns fun v' w' => w'.ownsRow w.heap.size 5 1 v' (bv ps.flatten).length (bv ps.flatten) ∧ Below w.heap.size w w') := by
  have HP := Lib.hid hp
  obtain ⟨aop, capp, rfl, hcapp⟩ := hp.shape
  go_enter Tryd.func75, Tryd.ntmps75
  go_wp2_with fail
  go_loopw [3, 8] (fun v3 v8 wr => ∃ i : Nat, i ≤ ps.length ∧ v8 = .int .i64 i ∧ wr.ownsRow w.heap.size 5 1 v3 (bv (ps.take i).flatten).length (bv (ps.take i).flatten) ∧ Below w.heap.size w wr) (fun _ v _ => ps.length - (intOf v).toNat)
  case atStart => exact ⟨0, by omega, rfl, World.ownsRow_nil _ _ _ _, Below.refl _ _⟩
  case round =>
    obtain ⟨i, hi, rfl, ho, hb⟩ := hrel
    have hfl := flatten_take_le ps i
    have HO := Lib.hid ho
    have HB := Lib.hid hb
    clear ho hb
    by_cases hlt : i < ps.length
    · obtain ⟨g, o, cap', u, hvv, hcc, hu⟩ := (HP.out.below HB.out).cell hlt
      cases hvv
      have hfl2 := getD_flatten_le ps i hlt
      have hlt' : (i : Int) < (ps.length : Nat) := by omega
      have hF := flatten_take_succ ps i hlt
      generalize ps.getD i [] = p at hu hfl2 hF
      generalize (ps.take i).flatten = d at HO hfl hfl2 hF
      have HU := Lib.hid hu
      have HF := Lib.hid hF
      obtain ⟨au, cu, rfl, -, -, -, -⟩ := hu
      clear hF
      go_wp2_with ((at_builtin; refine wpList_append_rd rfl _ _ 44 rfl w.heap.size 5 (.int .u8 0) 1 Tryd.underlying44 info_byte rfl u3 (.slice au (bv p).length cu) (bv d) (bv p) rfl rfl HO.out HU.out (bv_one _) (by rw [bv_length, bv_length]; omega) (by rw [bv_length, bv_length]; omega) (by have := HB.out.size; omega) ?_; intro v' w' k1 k2 k3))
      go_roundw
      case rel =>
        have k1' : w'.ownsRow w.heap.size 5 1 v' (bv (ps.take (i + 1)).flatten).length (bv (ps.take (i + 1)).flatten) := by rw [HF.out, bv_append]; exact k1
        exact ⟨i + 1, by omega, by go_num, k1', HB.out.grown k2 (by have := HB.out.size; omega) (fun g hg => (own_lt HO.out hg).1)⟩
      case measure => simp [intOf]; omega
    · obtain rfl : i = ps.length := by omega
      have hlt' : ¬ ((ps.length : Nat) : Int) < (ps.length : Nat) := by omega
      rw [List.take_length] at HO
      go_wp2_with fail
      go_ret
      exact Returns.mk ⟨HO.out, HB.out⟩
theorem all_any (vp : Value) (ps : List (List (BitVec 8))) (w : World) (hp : RdAll w vp ps) (hlen : ps.flatten.length ≤ 70368744177664) :
    Calls Tryd.prog 75 #[vp] w (RetSl (bv ps.flatten).length fun v' w' => w'.ownsRow w.heap.size 5 1 v' (bv ps.flatten).length (bv ps.flatten) ∧ Below w.heap.size w w') :=
  (all_any0 vp ps w hp hlen).mono fun _ _ h => RetSl.of_own h fun _ _ q => q.1
/-- Few enough to be played. -/
def fewSum (ps : List (List (BitVec 8))) : Nat := (ps.map fun p => min p.length 70000).sum
def few (ps : List (List (BitVec 8))) : Prop := ps.length ≤ 200 ∧ fewSum ps ≤ 140000
instance (ps : List (List (BitVec 8))) : Decidable (few ps) := inferInstanceAs (Decidable (_ ∧ _))
end Go.Proofs.YtdbhlajajdlmfaaDoor
namespace Go.Proofs.YtdbhlajajdlmfaaDoor
def k0 : List (BitVec 32) := [
  0x428a2f98, 0x71374491, 0xb5c0fbcf, 0xe9b5dba5, 0x3956c25b, 0x59f111f1, 0x923f82a4, 0xab1c5ed5,
  0xd807aa98, 0x12835b01, 0x243185be, 0x550c7dc3, 0x72be5d74, 0x80deb1fe, 0x9bdc06a7, 0xc19bf174,
  0xe49b69c1, 0xefbe4786, 0x0fc19dc6, 0x240ca1cc, 0x2de92c6f, 0x4a7484aa, 0x5cb0a9dc, 0x76f988da,
  0x983e5152, 0xa831c66d, 0xb00327c8, 0xbf597fc7, 0xc6e00bf3, 0xd5a79147, 0x06ca6351, 0x14292967,
  0x27b70a85, 0x2e1b2138, 0x4d2c6dfc, 0x53380d13, 0x650a7354, 0x766a0abb, 0x81c2c92e, 0x92722c85,
  0xa2bfe8a1, 0xa81a664b, 0xc24b8b70, 0xc76c51a3, 0xd192e819, 0xd6990624, 0xf40e3585, 0x106aa070,
  0x19a4c116, 0x1e376c08, 0x2748774c, 0x34b0bcb5, 0x391c0cb3, 0x4ed8aa4a, 0x5b9cca4f, 0x682e6ff3,
  0x748f82ee, 0x78a5636f, 0x84c87814, 0x8cc70208, 0x90befffa, 0xa4506ceb, 0xbef9a3f7, 0xc67178f2]
def K0 (i : Nat) : BitVec 32 := k0.getD i 0
set_option maxRecDepth 100000
end Go.Proofs.YtdbhlajajdlmfaaDoor
namespace Go.Proofs.YtdbhlajajdlmfaaDoor
open Go Go.RowKit
theorem RdAll.nil (w : World) : RdAll w (.slice none 0 0) [] := ⟨[], Rd.nil w, rfl, fun _ _ h => by cases h⟩
theorem Rd.litF (w : World) (cs : List Value) (t : Nat) (fr : Nat × Nat) (hm : cs.length ≤ maxLen) : Rd (w.alloc (.cells cs.toArray t fr)) (.slice (some ⟨w.heap.size, 0, none⟩) cs.length cs.length) cs := by
  refine ⟨_, cs.length, rfl, Nat.le_refl _, by unfold maxLen at hm; omega, fun e => (by cases e), fun ad ha j u hu => ?_⟩
  cases ha
  rw [Addr.add_lit, cell_of_row _ _ _ _ _ _ (heap_alloc_new w _)]
  simpa using hu
theorem RdAll.one_lit (w : World) (l : List (BitVec 8)) (t t' : Nat) (fr : Nat × Nat) (hl : l.length ≤ maxLen := by decide) : RdAll ((w.alloc (.cells (bv l).toArray t fr)).alloc (.cells #[.slice (some ⟨w.heap.size, 0, none⟩) l.length l.length] t')) (.slice (some ⟨w.heap.size + 1, 0, none⟩) 1 1) [l] := by
  have h1 := Rd.lit (w.alloc (.cells (bv l).toArray t fr)) #[.slice (some ⟨w.heap.size, 0, none⟩) l.length l.length] t' 1 rfl (by decide)
  rw [World.size_alloc] at h1
  have h2 := (Rd.litF w (bv l) t fr (by rw [bv_length]; exact hl)).grow ((Below.refl _ _).alloc (Nat.le_refl _) (.cells #[.slice (some ⟨w.heap.size, 0, none⟩) l.length l.length] t'))
  refine ⟨_, h1, rfl, fun i v hv => ?_⟩
  cases i with
  | zero => cases hv; rw [bv_length] at h2; exact h2
  | succ i => simp at hv
end Go.Proofs.YtdbhlajajdlmfaaDoor
namespace Go.Proofs.YtdbhlajajdlmfaaDoor
open Go Go.RowKit
/-- A slice of one byte slice, as the walk writes it. -/
theorem RdAll.one (w : World) (v : Value) (l : List (BitVec 8)) (t : Nat) (h : Rd w v (bv l)) : RdAll (w.alloc (.cells #[v] t)) (.slice (some ⟨w.heap.size, 0, none⟩) 1 1) [l] := by
  refine ⟨[v], Rd.litF w [v] t (0, 0) (by show 1 ≤ maxLen; decide), rfl, fun i u hu => ?_⟩
  cases i with
  | zero => cases hu; exact h.grow ((Below.refl _ _).alloc (Nat.le_refl _) _)
  | succ i => simp at hu
end Go.Proofs.YtdbhlajajdlmfaaDoor
/- What an 'Upto' statement's bound gives (begun from the guide's UptoLemmas.lean). -/
namespace Go.Proofs.YtdbhlajajdlmfaaDoor.bulks

theorem one_le {H : Type} (d : DataW H) : 1 ≤ Rows.uptoBulk d := by
  cases d with
  | lit l => cases l <;> simp [Rows.uptoBulk]
  | nil => simp [Rows.uptoBulk]
  | ptr d => simp [Rows.uptoBulk]
  | slice elems spare => simp [Rows.uptoBulk]
  | agg parts => simp [Rows.uptoBulk]
  | iface t d => simp [Rows.uptoBulk]
  | map entries => simp [Rows.uptoBulk]
  | held h => simp [Rows.uptoBulk]

/-- a part's bulk is at most the whole's -/
theorem part_le {H : Type} {d : DataW H} {l : List (DataW H)} (h : d ∈ l) : Rows.uptoBulk d ≤ Rows.uptoBulkAll l := by
  induction l with
  | nil => cases h
  | cons x r ih =>
    simp only [Rows.uptoBulkAll]
    cases List.mem_cons.1 h with
    | inl e => subst e; omega
    | inr e => have := ih e; omega

theorem append {H : Type} (l r : List (DataW H)) : Rows.uptoBulkAll (l ++ r) = Rows.uptoBulkAll l + Rows.uptoBulkAll r := by
  induction l with
  | nil => simp [Rows.uptoBulkAll]
  | cons x l ih => simp only [List.cons_append, Rows.uptoBulkAll, ih]; omega

/-- so many values at the most -/
theorem length_le {H : Type} (l : List (DataW H)) : l.length ≤ Rows.uptoBulkAll l := by
  induction l with
  | nil => simp [Rows.uptoBulkAll]
  | cons x r ih => have := one_le x; simp only [Rows.uptoBulkAll, List.length_cons]; omega

/-- a slice's places, and what they hold -/
theorem slice_le {H : Type} (elems spare : List (DataW H)) : elems.length + spare.length + 1 ≤ Rows.uptoBulk (.slice elems spare) := by
  have h1 := length_le elems
  have h2 := length_le spare
  simp only [Rows.uptoBulk]
  omega
end Go.Proofs.YtdbhlajajdlmfaaDoor.bulks
/- Arguments opened: a slice of bytes, a slice of such slices, a sum that is not done; and the table that is laid. -/
namespace Go.Proofs.YtdbhlajajdlmfaaDoor
open Go Go.RowKit Go.ChangeShapes Go.WideShapes
set_option maxRecDepth 100000
section
variable {H : Type} {enc : TypeId × Value → H} {w : World} {base : Nat} {spare : Nat → Bool} {held : Bool}
theorem bn_of {z : Int} (h : (Lit.int .u8 z).wf = true) : z = bn (BitVec.ofInt 8 z) := by
  have := bounds_u8 h
  unfold bn
  rw [BitVec.toNat_ofInt]
  omega
theorem open_bytes {fuel : Nat} {cs : List Value} {x : DataW H × List MemPlace} (h : DataW.trod enc Tryd.prog w base spare held fuel 44 cs = some x) : ∃ v l, cs = [v] ∧ Rd w v (bv l) ∧ l.length + 1 ≤ Rows.uptoBulk x.1 := by
  rcases open_ints Tryd.underlying44 Tryd.underlying5 (by kernel_rfl) h with ⟨rfl, rfl⟩ | ⟨a, len, cap, zs, rfl, -, hl, hm, hz, rfl, hc, hw⟩
  · exact ⟨_, [], rfl, Rd.nil w, by simp [Rows.uptoBulk]⟩
  · have hzl : len ≤ zs.length := by rw [hz]; split <;> omega
    have hlen : (bv ((zs.take len).map fun z => BitVec.ofInt 8 z)).length = len := by rw [bv_length, List.length_map, List.length_take]; omega
    refine ⟨_, (zs.take len).map (fun z => BitVec.ofInt 8 z), rfl, ⟨some a, cap, by rw [hlen], by omega, hm, (fun h => by cases h), fun ad ha j u hu => ?_⟩, ?_⟩
    rotate_left 1
    · have h2 := bulks.slice_le (lits (H := H) .u8 (zs.take len)) (lits .u8 (zs.drop len))
      have h3 : (lits (H := H) .u8 (zs.take len)).length = (zs.take len).length := by simp [lits]
      simp only [List.length_map] at h2 h3 ⊢
      omega
    cases ha
    have hj : j < len := by rw [← hlen]; exact (List.getElem?_eq_some_iff.1 hu).1
    rw [hc j (by omega)]
    have hj2 : j < zs.length := by omega
    simp only [bv, List.map_map, List.getElem?_map, List.getElem?_take_of_lt hj, List.getElem?_eq_getElem hj2, Option.map_some, Function.comp, Option.some.injEq] at hu
    subst hu
    rw [List.getD, List.getElem?_eq_getElem hj2, Option.getD_some]
    rw [← bn_of (hw _ (List.getElem_mem hj2))]
theorem ints_of_array {P : Program} {n : Nat} {e t : TypeId} {k : IntKind} {fuel : Nat} {cs : List Value} {x : DataW H × List MemPlace} (ht : P.underlying t = some (.array n e)) (he : P.underlying e = some (.int k)) (hc : P.cellsOf e = 1)
    (h : DataW.trod enc P w base spare held fuel t cs = some x) : ∀ i, i < n → ∃ z, cs[i]? = some (.int k z) ∧ (Lit.int k z).wf = true := by
  obtain ⟨xs, m, _, _, hl, hlen, hf⟩ := DataW.trod_array ht h
  intro i hi
  have h1 := hf i hi
  rw [hc, Nat.mul_one, List.getElem?_eq_getElem (by omega)] at h1
  obtain ⟨z, hz, _, hw⟩ := DataW.trod_int he h1
  refine ⟨z, ?_, hw⟩
  have := congrArg (·[0]?) hz
  simpa [List.getElem?_take, List.getElem?_drop] using this
theorem open_bytesV {v : Value} {d : DataW H} {ps : List MemPlace} {W2 : World} {r : Reach} (hok : Value.okWide Tryd.prog W2 r base 44 v) (h : DataW.Trod enc Tryd.prog w 0 spare held 44 v d ps) : ∃ l, Rd w v (bv l) ∧ l.length + 1 ≤ Rows.uptoBulk d := by
  obtain ⟨a, n, c, rfl⟩ := okWide_slice Tryd.underlying44 hok
  obtain ⟨fuel, hf⟩ := h
  obtain ⟨v, l, h1, h2⟩ := open_bytes hf
  obtain rfl := List.singleton_inj.1 h1
  exact ⟨l, h2⟩
end
theorem laidOut_all : laidOutB Tryd.prog = true := by kernel_rfl
end Go.Proofs.YtdbhlajajdlmfaaDoor
/- Slices cut at a number: what the walk's slice instruction hands back, and what it reads as. Of whatever program. -/
namespace Go.Proofs.YtdbhlajajdlmfaaDoor
open Go Go.RowKit
theorem cut_to {P : Program} {t e : TypeId} (ht : P.underlying t = some (.slice e)) {ao : Option Addr} {len cap : Nat} {n : Nat} (hn : n ≤ cap) (w : World) {i : TypeInfo} (hi : P.info? e = some i) :
    (Instr.sliceAt t (.slice ao len cap) none (some (.int .i64 (n : Int))) none).run P w = .ok (.slice ao n cap) w := by
  have he : P.elem t = e := by simp [Program.elem, ht]
  rw [run_sliceAt_slice (w := w) t _ _ _ _ (by rw [he]; exact ht), run_slice_h w t ao len cap (by rw [he]; exact ht) .i64 (n : Int) (by omega) (by omega), he, run_sizeOf w hi]
  simp only [Result.andThen, sliced, Int.toNat_natCast, Nat.zero_mul, Nat.sub_zero]
  cases ao <;> simp [Addr.add]
theorem cut_from {P : Program} {t e : TypeId} (ht : P.underlying t = some (.slice e)) {ao : Option Addr} {len cap : Nat} {n : Nat} (hn : n ≤ len) (w : World) {i : TypeInfo} (hi : P.info? e = some i) (h1 : i.size = 1) :
    (Instr.sliceAt t (.slice ao len cap) (some (.int .i64 (n : Int))) none none).run P w = .ok (.slice (if cap = n then ao else ao.map (·.add n)) (len - n) (cap - n)) w := by
  have he : P.elem t = e := by simp [Program.elem, ht]
  have hc : P.cellsOf e = 1 := by simp [Program.cellsOf, hi, h1]
  rw [run_sliceAt_slice (w := w) t _ _ _ _ (by rw [he]; exact ht), run_slice_l w t ao len cap (by rw [he]; exact ht) .i64 (n : Int) (by omega) (by omega), he, run_sizeOf w hi]
  simp only [Result.andThen, sliced, Int.toNat_natCast, hc, Nat.mul_one]
theorem Rd.to {w : World} {ao : Option Addr} {cap len : Nat} {xs : List Value} (h : Rd w (.slice ao len cap) xs) {n : Nat} (hn : n ≤ xs.length) : Rd w (.slice ao n cap) (xs.take n) := by
  obtain ⟨ao', cap', hv, h1, h2, h3, h4⟩ := h
  cases hv
  refine ⟨ao, cap, by rw [List.length_take, Nat.min_eq_left hn], by rw [List.length_take]; omega, h2, h3, fun ad ha j u hu => ?_⟩
  refine h4 ad ha j u ?_
  rw [List.getElem?_take] at hu
  split at hu
  · exact hu
  · cases hu
theorem Rd.from {w : World} {ao : Option Addr} {cap len : Nat} {xs : List Value} (h : Rd w (.slice ao len cap) xs) {n : Nat} (hn : n ≤ xs.length) : Rd w (.slice (if cap = n then ao else ao.map (·.add n)) (len - n) (cap - n)) (xs.drop n) := by
  obtain ⟨ao', cap', hv, h1, h2, h3, h4⟩ := h
  cases hv
  refine ⟨_, cap - n, by rw [List.length_drop], by rw [List.length_drop]; omega, by omega, fun e => ?_, fun ad ha j u hu => ?_⟩
  · by_cases hc : cap = n
    · omega
    · rw [if_neg hc, Option.map_eq_none_iff] at e
      have := h3 e
      omega
  · rw [List.getElem?_drop] at hu
    have hj : n + j < xs.length := (List.getElem?_eq_some_iff.1 hu).1
    rw [if_neg (by omega)] at ha
    obtain ⟨a0, ha0, rfl⟩ := Option.map_eq_some_iff.1 ha
    have := h4 a0 ha0 (n + j) u hu
    rw [show (a0.add n).add j = a0.add (n + j) by unfold Addr.add; by_cases h0 : n = 0 <;> by_cases h1 : j = 0 <;> simp [h0, h1, Nat.add_assoc]]
    exact this
theorem Rd.sl {w : World} {ao : Option Addr} {cap len : Nat} {xs : List Value} (h : Rd w (.slice ao len cap) xs) : len = xs.length ∧ xs.length ≤ cap ∧ cap ≤ 9223372036854775807 := by
  obtain ⟨ao', cap', hv, h1, h2, h3, h4⟩ := h
  cases hv
  exact ⟨rfl, h1, h2⟩
theorem cut_from_ex {P : Program} {t e : TypeId} (ht : P.underlying t = some (.slice e)) {i : TypeInfo} (hi : P.info? e = some i) (h1 : i.size = 1) {w : World} {ao : Option Addr} {cap len : Nat} {xs : List Value} (h : Rd w (.slice ao len cap) xs) {n : Nat} (hn : n ≤ xs.length) :
    ∃ ax, (∀ wx, (Instr.slice t (.slice ao len cap) (some (.int .i64 (n : Int))) none none).run P wx = .ok (.slice ax (len - n) (cap - n)) wx) ∧ Rd w (.slice ax (len - n) (cap - n)) (xs.drop n) :=
  ⟨_, fun wx => by rw [← run_sliceAt_slice wx t _ _ _ _ (by rw [show P.elem t = e by simp [Program.elem, ht]]; exact ht)]; exact cut_from ht (by have := h.sl; omega) wx hi h1, h.from hn⟩
end Go.Proofs.YtdbhlajajdlmfaaDoor
/- A region that draws its order, walked once in the order of the text, where some operations make a block of their own (an allocation, a slice written out): these may stand anywhere among the calls. Of whatever program. -/
namespace Go.Proofs.YtdbhlajajdlmfaaDoor
open Go Go.RowKit
section
variable {P : Program} {ops : Array Oper} {w0 : World}
/-- A later world: what was there stands. -/
def Aft (w w' : World) : Prop := Below w.heap.size w w'
theorem Aft.refl (w : World) : Aft w w := Below.refl _ _
theorem Aft.trans {a b c : World} (h : Aft a b) (k : Aft b c) : Aft a c := Below.trans h (Below.mono k (Below.size h))
theorem Aft.alloc (w : World) (o : Obj) : Aft w (w.alloc o) := (Below.refl _ _).alloc (Nat.le_refl _) o
theorem Aft.get {w w' : World} (h : Aft w w') {g : Nat} {o : Obj} (hg : w.heap[g]? = some o) : w'.heap[g]? = some o := (Below.block h g (heap_lt hg)).trans hg
/-- It makes one block, and hands back a value that hangs on the block's number alone. -/
def fAt (P : Program) (o : Oper) (a : Act) (w : World) (obj : Obj) (F : Nat → Value) : Prop := (execOp a.eval o).run P w = .ok (.value (F w.heap.size)) (w.alloc obj)
def pAt (P : Program) (o : Oper) (a : Act) (w : World) (F : Nat → Value) : Option Obj → Prop
  | none => ∀ g, qAt P o a w (F g)
  | some obj => fAt P o a w obj F
def holds (w0 : World) (g : Nat) (w : World) : Option Obj → Prop
  | none => True
  | some obj => w0.heap.size ≤ g ∧ w.heap[g]? = some obj
theorem holds.aft {g : Nat} {w w' : World} {ob : Option Obj} (h : holds w0 g w ob) (hs : Aft w w') : holds w0 g w' ob := by
  cases ob with
  | none => trivial
  | some obj => exact ⟨h.1, hs.get h.2⟩
theorem pAt_put {o : Oper} (hs : ∀ cs b, o.op ≠ .select cs b) {a : Act} {w : World} {dst : Option Tmp} {u : Value} {F : Nat → Value} {ob : Option Obj} (h1 : ∀ d, dst = some d → d ∉ o.looksAt ops) : pAt P o (a.put dst u) w F ob ↔ pAt P o a w F ob := by
  cases ob with
  | none => exact forall_congr' fun g => qAt_put (ops := ops) hs h1
  | some obj => unfold pAt fAt; rw [execOp_put (ops := ops) o hs a dst u h1]
theorem pAt_defers {o : Oper} {a : Act} {w : World} {F : Nat → Value} {ob : Option Obj} (b : List Deferred) : pAt P o { a with defers := b } w F ob ↔ pAt P o a w F ob := by
  cases ob with
  | none => exact forall_congr' fun g => qAt_defers b
  | some obj =>
    have e : (({ a with defers := b } : Act).eval) = a.eval := by funext x; cases x <;> rfl
    unfold pAt fAt; rw [e]
theorem grow_to (w0 : World) : ∀ n : Nat, ∃ w1, Aft w0 w1 ∧ w1.heap.size = w0.heap.size + n
  | 0 => ⟨w0, Aft.refl _, rfl⟩
  | n + 1 => by
    obtain ⟨w1, h1, h2⟩ := grow_to w0 n
    exact ⟨w1.alloc (.cells #[] 0), h1.trans (Aft.alloc _ _), by rw [World.size_alloc]; omega⟩
theorem alloc_ne (w : World) (o : Obj) : w.alloc o ≠ w := fun h => by
  have := congrArg (fun w => w.heap.size) h
  simp only [World.size_alloc] at this
  omega
theorem alloc_inj {w : World} {o o' : Obj} (h : w.alloc o = w.alloc o') : o = o' := by
  have := heap_alloc_new w o
  rw [h, heap_alloc_new w o'] at this
  exact (Option.some.inj this).symm
/-- What an operation makes, and what it hands back, is one thing. -/
theorem pAt_unique {o : Oper} {a : Act} {F F' : Nat → Value} {ob ob' : Option Obj} (h : ∀ w1, Aft w0 w1 → pAt P o a w1 F ob) (k : ∀ w1, Aft w0 w1 → pAt P o a w1 F' ob') : ob = ob' ∧ ∀ g w, holds w0 g w ob → F g = F' g := by
  cases ob with
  | none =>
    cases ob' with
    | none => exact ⟨rfl, fun g _ _ => qAt_unique (h w0 (Aft.refl _) g) (k w0 (Aft.refl _) g)⟩
    | some obj' =>
      exfalso
      have h1 := h w0 (Aft.refl _) 0
      have k1 := k w0 (Aft.refl _)
      unfold pAt fAt at k1
      rcases h1 with h1 | ⟨h1, _⟩
      · rw [k1] at h1; simp only [Result.ok.injEq] at h1; exact alloc_ne _ _ h1.2
      · rw [k1] at h1; simp at h1
  | some obj =>
    cases ob' with
    | none =>
      exfalso
      have h1 := k w0 (Aft.refl _) 0
      have k1 := h w0 (Aft.refl _)
      unfold pAt fAt at k1
      rcases h1 with h1 | ⟨h1, _⟩
      · rw [k1] at h1; simp only [Result.ok.injEq] at h1; exact alloc_ne _ _ h1.2
      · rw [k1] at h1; simp at h1
    | some obj' =>
      have each : ∀ w1, Aft w0 w1 → F w1.heap.size = F' w1.heap.size ∧ obj = obj' := by
        intro w1 hw
        have h1 := h w1 hw
        have k1 := k w1 hw
        unfold pAt fAt at h1 k1
        rw [k1] at h1
        simp only [Result.ok.injEq, Next.value.injEq] at h1
        exact ⟨h1.1.symm, (alloc_inj h1.2).symm⟩
      refine ⟨congrArg some (each w0 (Aft.refl _)).2, fun g w hh => ?_⟩
      obtain ⟨w1, hw, hz⟩ := grow_to w0 (g - w0.heap.size)
      have := (each w1 hw).1
      rw [hz, Nat.add_sub_cancel' hh.1] at this
      exact this
/-- What an operation leaves: of kind 3 it may write what the region has made. -/
def Leaves (w0 : World) (kd : Nat) (w w' : World) : Prop := if kd = 3 then Aft w0 w' else Aft w w'
theorem Leaves.base {w0 w w' : World} {kd : Nat} (h : Leaves w0 kd w w') (hC : Aft w0 w) : Aft w0 w' := by
  unfold Leaves at h
  split at h
  · exact h
  · exact hC.trans h
/-- One operation of the prefix: of kind 2 or 3 it turns the world as it will; else it reads, or makes a block of its own. -/
def stepF (P : Program) (ops : Array Oper) (w0 : World) (kd : Nat) (o : Oper) (K : Act → World → Prop) (a : Act) (w : World) : Prop :=
  if Region.wanted o (yielded ops a.tmps) = true then
    (if 2 ≤ kd then ∀ w1, Aft w w1 → o.wp P a w1 (fun a' w' => Leaves w0 kd w1 w' ∧ K a' w') noOut
     else ∃ ob F, (kd = 0 → ob = none) ∧ (∀ w1, Aft w0 w1 → pAt P o a w1 F ob) ∧ ∀ w1 g, Aft w w1 → holds w0 g w1 ob → K (a.put o.dst (F g)) w1)
  else K (a.put o.dst undef) w
/-- It holds in later worlds, too. -/
def Up (K : Act → World → Prop) : Prop := ∀ a w w1, Aft w w1 → K a w → K a w1
theorem stepF_up {kd : Nat} {o : Oper} {K : Act → World → Prop} (hK : Up K) : Up (stepF P ops w0 kd o K) := by
  intro a w w1 hw h
  unfold stepF at *
  split
  · rename_i hg
    rw [if_pos hg] at h
    split
    · rename_i he
      rw [if_pos he] at h
      exact fun w2 h2 => h w2 (hw.trans h2)
    · rename_i he
      rw [if_neg he] at h
      obtain ⟨ob, F, hz, h1, h2⟩ := h
      exact ⟨ob, F, hz, h1, fun w2 g hw2 hh => h2 w2 g (hw.trans hw2) hh⟩
  · rename_i hg
    rw [if_neg hg] at h
    exact hK _ _ _ hw h
theorem stepF_mono {kd : Nat} {o : Oper} {K K' : Act → World → Prop} (h : ∀ a w, Aft w0 w → K a w → K' a w) {a : Act} {w : World} (hC : Aft w0 w) (hs : stepF P ops w0 kd o K a w) : stepF P ops w0 kd o K' a w := by
  unfold stepF at *
  split
  · rename_i hw
    rw [if_pos hw] at hs
    split
    · rename_i he
      rw [if_pos he] at hs
      exact fun w1 h1 => Oper.wp_mono (fun a w ⟨c, k⟩ => ⟨c, h a w (c.base (hC.trans h1)) k⟩) (hs w1 h1)
    · rename_i he
      rw [if_neg he] at hs
      obtain ⟨ob, F, hz, h1, h2⟩ := hs
      exact ⟨ob, F, hz, h1, fun w1 g hw1 hh => h _ _ (hC.trans hw1) (h2 w1 g hw1 hh)⟩
  · rename_i hw
    rw [if_neg hw] at hs
    exact h _ _ hC hs
/-- A block made now. -/
theorem holds_now {w : World} (hC : Aft w0 w) (ob : Option Obj) : ∃ w1, Aft w w1 ∧ ∃ g, holds w0 g w1 ob := by
  cases ob with
  | none => exact ⟨w, Aft.refl _, 0, trivial⟩
  | some obj => exact ⟨w.alloc obj, Aft.alloc _ _, w.heap.size, Below.size hC, heap_alloc_new _ _⟩
theorem stepF_swap {ki kj : Nat} {oi oj : Oper} (hsi : ∀ cs b, oi.op ≠ .select cs b) (hsj : ∀ cs b, oj.op ≠ .select cs b) (hap : oi.apart ops oj = true) (hE : (2 ≤ kj → ki = 0) ∧ (ki = 3 → kj = 0))
    {K : Act → World → Prop} {a : Act} {w : World} (hC : Aft w0 w) (hK : Up K) (h : stepF P ops w0 ki oi (stepF P ops w0 kj oj K) a w) : stepF P ops w0 kj oj (stepF P ops w0 ki oi K) a w := by
  obtain ⟨h1, h2, h3⟩ := Oper.apart_spec hap
  have h2' : ∀ d, oj.dst = some d → oi.dst ≠ some d := fun d hd he => h2 d he hd
  have wj : ∀ (a : Act) v, Region.wanted oj (yielded ops (a.put oi.dst v).tmps) = Region.wanted oj (yielded ops a.tmps) := fun a v => wanted_put oj a oi.dst v h1
  have wi : ∀ (a : Act) v, Region.wanted oi (yielded ops (a.put oj.dst v).tmps) = Region.wanted oi (yielded ops a.tmps) := fun a v => wanted_put oi a oj.dst v h3
  have pc : ∀ (a : Act) v u, (a.put oi.dst v).put oj.dst u = (a.put oj.dst u).put oi.dst v := fun a v u => Act.put_comm a v u h2
  by_cases hwi : Region.wanted oi (yielded ops a.tmps) = true
  · by_cases hei : 2 ≤ ki
    · have hej : ¬ 2 ≤ kj := by omega
      unfold stepF at h
      rw [if_pos hwi, if_pos hei] at h
      by_cases hwj : Region.wanted oj (yielded ops a.tmps) = true
      · have key : ∀ b v w', stepF P ops w0 kj oj K (({ a with defers := b } : Act).put oi.dst v) w' → ∃ ob F, (kj = 0 → ob = none) ∧ (∀ w1, Aft w0 w1 → pAt P oj a w1 F ob) ∧ ∀ w1 g, Aft w' w1 → holds w0 g w1 ob → K ((({ a with defers := b } : Act).put oi.dst v).put oj.dst (F g)) w1 := by
          intro b v w' hs
          unfold stepF at hs
          rw [if_pos (by rw [wj]; exact hwj), if_neg hej] at hs
          obtain ⟨ob, F, hz, hu, hk⟩ := hs
          exact ⟨ob, F, hz, fun w1 hw1 => (pAt_defers b).1 ((pAt_put (ops := ops) hsj h1).1 (hu w1 hw1)), hk⟩
        obtain ⟨b, v, w', hs⟩ := wp_some (h w (Aft.refl _))
        obtain ⟨ob, F, hz, hu, _⟩ := key b v w' hs.2
        unfold stepF
        rw [if_pos hwj, if_neg hej]
        refine ⟨ob, F, hz, hu, fun w1 g hw1 hh => ?_⟩
        rw [if_pos (by rw [wi]; exact hwi), if_pos hei]
        intro w2 hw2
        refine (wp_put (ops := ops) hsi h3 h2').2 (wp_mono_put (fun b v w' hs => ?_) (h w2 (hw1.trans hw2)))
        obtain ⟨hc, hs⟩ := hs
        obtain ⟨ob', F', _, hu', hk⟩ := key b v w' hs
        obtain ⟨rfl, hF⟩ := pAt_unique hu hu'
        refine ⟨hc, ?_⟩
        have hh' : holds w0 g w' ob := by
          by_cases h3 : ki = 3
          · rw [hz (hE.2 h3)]; trivial
          · unfold Leaves at hc
            rw [if_neg h3] at hc
            exact hh.aft (hw2.trans hc)
        rw [hF g _ hh']
        exact hk w' g (Aft.refl _) hh'
      · unfold stepF
        rw [if_neg hwj, if_pos (by rw [wi]; exact hwi), if_pos hei]
        intro w1 hw1
        refine (wp_put (ops := ops) hsi h3 h2').2 (wp_mono_put (fun b v w' hs => ?_) (h w1 hw1))
        obtain ⟨hc, hs⟩ := hs
        rw [if_neg (by rw [wj]; exact hwj)] at hs
        exact ⟨hc, hs⟩
    · unfold stepF at h
      rw [if_pos hwi, if_neg hei] at h
      obtain ⟨ob, F, hz, hv, h⟩ := h
      by_cases hwj : Region.wanted oj (yielded ops a.tmps) = true
      · by_cases hej : 2 ≤ kj
        · have hki : ki = 0 := hE.1 hej
          obtain rfl := hz hki
          unfold stepF
          rw [if_pos hwj, if_pos hej]
          intro w1 hw1
          have h4 := h w1 0 hw1 trivial
          rw [if_pos (by rw [wj]; exact hwj), if_pos hej] at h4
          refine wp_mono_put (fun b u w' hs => ?_) ((wp_put (ops := ops) hsj h1 h2).1 (h4 w1 (Aft.refl _)))
          obtain ⟨hc, hk⟩ := hs
          refine ⟨hc, ?_⟩
          rw [if_pos (by rw [wi]; exact hwi), if_neg hei]
          refine ⟨none, F, fun _ => rfl, fun w2 hw2 => (pAt_put (ops := ops) hsi h3).2 ((pAt_defers b).2 (hv w2 hw2)), fun w2 g hw2 _ => ?_⟩
          rw [qAt_unique (hv w hC g) (hv w hC 0)]
          exact hK _ _ _ hw2 hk
        · obtain ⟨wn, hwn, gn, hgn⟩ := holds_now hC ob
          have h4 := h wn gn hwn hgn
          rw [if_pos (by rw [wj]; exact hwj), if_neg hej] at h4
          obtain ⟨oj', Fj, hzj, hj1, _⟩ := h4
          have hj2 : ∀ w1, Aft w0 w1 → pAt P oj a w1 Fj oj' := fun w1 hw1 => (pAt_put (ops := ops) hsj h1).1 (hj1 w1 hw1)
          unfold stepF
          rw [if_pos hwj, if_neg hej]
          refine ⟨oj', Fj, hzj, hj2, fun w1 g hw1 hh => ?_⟩
          rw [if_pos (by rw [wi]; exact hwi), if_neg hei]
          refine ⟨ob, F, hz, fun w2 hw2 => (pAt_put (ops := ops) hsi h3).2 (hv w2 hw2), fun w2 g2 hw2 hh2 => ?_⟩
          have h5 := h w2 g2 (hw1.trans hw2) hh2
          rw [if_pos (by rw [wj]; exact hwj), if_neg hej] at h5
          obtain ⟨oj'', Fj', _, hj3, hj4⟩ := h5
          obtain ⟨rfl, hF⟩ := pAt_unique hj2 fun w1 hw1 => (pAt_put (ops := ops) hsj h1).1 (hj3 w1 hw1)
          have hh' := hh.aft hw2
          rw [hF g _ hh', ← pc]
          exact hj4 w2 g (Aft.refl _) hh'
      · unfold stepF
        rw [if_neg hwj, if_pos (by rw [wi]; exact hwi), if_neg hei]
        refine ⟨ob, F, hz, fun w2 hw2 => (pAt_put (ops := ops) hsi h3).2 (hv w2 hw2), fun w2 g2 hw2 hh2 => ?_⟩
        have h5 := h w2 g2 hw2 hh2
        rw [if_neg (by rw [wj]; exact hwj)] at h5
        rw [← pc]
        exact h5
  · unfold stepF at h
    rw [if_neg hwi] at h
    unfold stepF
    by_cases hwj : Region.wanted oj (yielded ops a.tmps) = true
    · rw [if_pos (by rw [wj]; exact hwj)] at h
      rw [if_pos hwj]
      by_cases hej : 2 ≤ kj
      · rw [if_pos hej] at h ⊢
        intro w1 hw1
        refine wp_mono_put (fun b u w' hs => ?_) ((wp_put (ops := ops) hsj h1 h2).1 (h w1 hw1))
        obtain ⟨hc, hk⟩ := hs
        refine ⟨hc, ?_⟩
        rw [if_neg (by rw [wi]; exact hwi)]
        exact hk
      · rw [if_neg hej] at h ⊢
        obtain ⟨ob, F, hz, hu, hk⟩ := h
        refine ⟨ob, F, hz, fun w2 hw2 => (pAt_put (ops := ops) hsj h1).1 (hu w2 hw2), fun w2 g2 hw2 hh2 => ?_⟩
        rw [if_neg (by rw [wi]; exact hwi), ← pc]
        exact hk w2 g2 hw2 hh2
    · rw [if_neg (by rw [wj]; exact hwj)] at h
      rw [if_neg hwj, if_neg (by rw [wi]; exact hwi), ← pc]
      exact h
/-- The prefix, in the order of the list; T behind it. -/
def wpFs (P : Program) (ops : Array Oper) (w0 : World) (Kd : Nat → Nat) (T : Act → World → Prop) : List Nat → Act → World → Prop
  | [], a, w => T a w
  | i :: l, a, w => match ops[i]? with
    | some o => stepF P ops w0 (Kd i) o (wpFs P ops w0 Kd T l) a w
    | none => False
theorem wpFs_up {Kd : Nat → Nat} {T : Act → World → Prop} (hT : Up T) : ∀ l : List Nat, Up (wpFs P ops w0 Kd T l)
  | [] => hT
  | i :: l => by
    intro a w w1 hw h
    simp only [wpFs] at h ⊢
    cases hi : ops[i]? with
    | none => rw [hi] at h; exact h.elim
    | some o =>
      rw [hi] at h
      exact stepF_up (wpFs_up hT l) a w w1 hw h
theorem wpFs_front {Kd : Nat → Nat} {T : Act → World → Prop} (hT : Up T) (hs : ∀ (j : Nat) (o : Oper) cs b, ops[j]? = some o → o.op ≠ .select cs b) {j : Nat} {oj : Oper} (hj : ops[j]? = some oj) : ∀ (p q : List Nat) (a : Act) (w : World),
    (∀ i ∈ p, ∀ oi, ops[i]? = some oi → oi.apart ops oj = true ∧ ((2 ≤ Kd j → Kd i = 0) ∧ (Kd i = 3 → Kd j = 0))) → Aft w0 w → wpFs P ops w0 Kd T (p ++ j :: q) a w → stepF P ops w0 (Kd j) oj (wpFs P ops w0 Kd T (p ++ q)) a w
  | [], q, a, w, _, _, h => by simpa [wpFs, hj] using h
  | i :: p, q, a, w, hp, hC, h => by
    simp only [List.cons_append, wpFs] at h
    cases hi : ops[i]? with
    | none => rw [hi] at h; exact h.elim
    | some oi =>
      rw [hi] at h
      simp only at h
      obtain ⟨hap, hE⟩ := hp i (by simp) oi hi
      have ih := stepF_mono (fun a w hc hk => wpFs_front hT hs hj p q a w (fun x hx => hp x (by simp [hx])) hc hk) hC h
      have := stepF_swap (hs i oi · · hi) (hs j oj · · hj) hap hE hC (wpFs_up hT (p ++ q)) ih
      refine stepF_mono (fun a w _ hk => ?_) hC this
      simp only [List.cons_append, wpFs, hi]
      exact hk
theorem stepF_wpOp {i : Nat} {o : Oper} (hi : ops[i]? = some o) {kd : Nat} {K K' : Act → World → Prop} {Q : Exit → Act → World → Prop} (h : ∀ a w, Aft w0 w → K a w → K' a w) {a : Act} {w : World} (hC : Aft w0 w) (hs : stepF P ops w0 kd o K a w) : wpOp P ops Q i K' a w := by
  unfold stepF at hs
  unfold wpOp
  simp only [hi]
  split
  · rename_i hw
    rw [if_pos hw] at hs
    by_cases he : 2 ≤ kd
    · rw [if_pos he] at hs
      exact .inl (wp_noOut (Oper.wp_mono (fun a w ⟨c, k⟩ => h a w (c.base hC) k) (hs w (Aft.refl _))))
    · rw [if_neg he] at hs
      obtain ⟨ob, F, _, hv, hk⟩ := hs
      cases ob with
      | none => exact .inl (qAt_wp (hv w hC 0) (h _ _ hC (hk w 0 (Aft.refl _) trivial)))
      | some obj =>
        refine .inl ?_
        have hf := hv w hC
        unfold pAt fAt at hf
        unfold Oper.wp
        rw [hf]
        exact h _ _ (hC.trans (Aft.alloc _ _)) (hk _ _ (Aft.alloc _ _) ⟨Below.size hC, heap_alloc_new _ _⟩)
  · rename_i hw
    rw [if_neg hw] at hs
    exact h _ _ hC hs
def pairsF (ops : Array Oper) (Kd : Nat → Nat) (M : Array Nat) : Bool := (List.range ops.size).all fun k => (List.range k).all fun j => (M.getD k 0).testBit j || ((!Nat.ble 2 (Kd k) || Kd j == 0) && (Kd j != 3 || Kd k == 0))
def lexOKF (ops : Array Oper) (Kd : Nat → Nat) (N : Nat) (M : Array Nat) : Bool := lexOK ops (fun i => Nat.ble 2 (Kd i)) N M && pairsF ops Kd M
theorem pairF_of {Kd : Nat → Nat} {M : Array Nat} (h : pairsF ops Kd M = true) {j k : Nat} (hk : k < ops.size) (hjk : j < k) : (M.getD k 0).testBit j = true ∨ ((2 ≤ Kd k → Kd j = 0) ∧ (Kd j = 3 → Kd k = 0)) := by
  have h1 := List.all_eq_true.1 (List.all_eq_true.1 h k (List.mem_range.2 hk)) j (List.mem_range.2 hjk)
  simp only [Bool.or_eq_true, Bool.and_eq_true, Bool.not_eq_true', beq_iff_eq, bne_iff_ne, ne_eq] at h1
  rcases h1 with h1 | ⟨h1, h2⟩
  · exact .inl h1
  · refine .inr ⟨fun h3 => ?_, fun h3 => ?_⟩
    · rcases h1 with h1 | h1
      · have h4 : Nat.ble 2 (Kd k) = true := Nat.ble_eq ▸ h3
        rw [h1] at h4; cases h4
      · exact h1
    · rcases h2 with h2 | h2
      · exact absurd h3 h2
      · exact h2
/-- The prefix, in whatever order. -/
theorem lexF_prefix {Kd : Nat → Nat} {M : Array Nat} {N : Nat} {Q : Exit → Act → World → Prop} (hs : Region.noSelect ops = true) (hM : maskOk ops M = true) (hp : pairsOk ops (fun i => Nat.ble 2 (Kd i)) N M = true) (hF : pairsF ops Kd M = true) (hN : N ≤ ops.size) : ∀ (fuel : Nat) (listed : Array Bool) (a : Act) (w : World), listed.size = ops.size → Closed ops listed →
    (∀ i, N ≤ i → i < ops.size → listed.getD i false = false) → Aft w0 w → (waiting listed N).length + (ops.size - N) ≤ fuel →
    wpFs P ops w0 Kd (fun a w => ∀ w1, Aft w w1 → wpOps P ops Q (List.range' N (ops.size - N)) a w1) (waiting listed N) a w → wpAny P .any ops Q fuel listed a w := by
  have hT : Up (fun a w => ∀ w1, Aft w w1 → wpOps P ops Q (List.range' N (ops.size - N)) a w1) := fun a w w1 hw h w2 h2 => h w2 (hw.trans h2)
  intro fuel
  induction fuel with
  | zero =>
    intro listed a w hz hc hhi hC hf h
    have h0 : waiting listed N = [] := List.eq_nil_of_length_eq_zero (by omega)
    rw [h0] at h
    refine lex_tail (N := N) hM hp 0 N listed a w hz hc (fun i hi hi' => ?_) hhi (Nat.le_refl _) (by omega) (h w (Aft.refl _))
    cases hl : listed.getD i false with
    | true => rfl
    | false => have := (mem_waiting (listed := listed) (N := N) (by omega)).2 ⟨hi, hl⟩; rw [h0] at this; cases this
  | succ fuel ih =>
    intro listed a w hz hc hhi hC hf h
    cases hw : waiting listed N with
    | nil =>
      rw [hw] at h
      refine lex_tail (N := N) hM hp (fuel + 1) N listed a w hz hc (fun i hi hi' => ?_) hhi (Nat.le_refl _) (by rw [hw] at hf; simpa using hf) (h w (Aft.refl _))
      cases hl : listed.getD i false with
      | true => rfl
      | false => have := (mem_waiting (listed := listed) (N := N) (by omega)).2 ⟨hi, hl⟩; rw [hw] at this; cases this
    | cons k0 rest =>
      have hk0 := (mem_waiting (listed := listed) (N := N) (i := k0) (by omega)).1 (by rw [hw]; simp)
      have hsort := waiting_sorted listed N
      have hlow : ∀ i, i < k0 → listed.getD i false = true := by
        intro i hi
        cases hl : listed.getD i false with
        | true => rfl
        | false =>
          have hm := (mem_waiting (listed := listed) (N := N) (i := i) (by omega)).2 ⟨by omega, hl⟩
          rw [hw] at hm hsort
          rw [List.pairwise_cons] at hsort
          rcases List.mem_cons.1 hm with rfl | hm
          · omega
          · have := hsort.1 i hm; omega
      have hk0s : k0 < ops.size := by omega
      have ho0 : ops[k0]? = some ops[k0] := Array.getElem?_eq_getElem hk0s
      have hr : k0 ∈ Region.ready .any ops listed := mem_wait hz ho0 hk0.2 fun e he hb => hlow _ (edges_back hM ho0 e he hb)
      refine ⟨fun h0 => (by rw [h0] at hr; cases hr), fun i hi => ?_⟩
      obtain ⟨oi, hio, h0, he⟩ := ready_spec hz hi
      have hi' : i < ops.size := (Array.getElem?_eq_some_iff.1 hio).1
      have hbits : ∀ j, j < ops.size → (M.getD i 0).testBit j = true → listed.getD j false = true := mask_listed hM hc i oi hio he
      have hiN : i < N := by
        rcases Nat.lt_or_ge i N with h' | h'
        · exact h'
        · exfalso
          rcases pair_of hp hi' (show k0 < i by omega) with hb | ⟨hb, _⟩
          · have := hbits k0 (by omega) hb
            rw [hk0.2] at this
            cases this
          · omega
      have hmem := (mem_waiting (listed := listed) (N := N) (i := i) (by omega)).2 ⟨hiN, h0⟩
      obtain ⟨p, q, hpq⟩ := List.append_of_mem hmem
      have hfront := wpFs_front (Kd := Kd) hT (Region.noSelect_spec hs) hio p q a w (fun j hj oj hjo => by
        have hji : j < i := by
          have hs' := hsort
          rw [hpq, List.pairwise_append] at hs'
          exact hs'.2.2 j hj i (by simp)
        have hj0 := ((mem_waiting (listed := listed) (N := N) (i := j) (by omega)).1 (by rw [hpq]; simp [hj])).2
        rcases pair_of hp hi' hji with hb | ⟨_, hb⟩
        · have := hbits j (by omega) hb
          rw [hj0] at this
          cases this
        · refine ⟨(hb oj oi hjo hio).1, ?_⟩
          rcases pairF_of hF hi' hji with hb | hb
          · have := hbits j (by omega) hb
            rw [hj0] at this
            cases this
          · exact hb) hC (by rw [← hpq]; exact h)
      have hset := waiting_set (listed := listed) (N := N) (by omega) hpq
      refine stepF_wpOp hio (fun a w hc' hk => ih _ a w (by simp [hz]) (closed_set hc hio he) (fun j hj hjs => ?_) hc' ?_ ?_) hC hfront
      · rw [getD_set_ne false (by omega)]; exact hhi j hj hjs
      · rw [hset]; rw [hpq] at hf; simp at hf ⊢; omega
      · rw [hset]; exact hk
/-- The walk itself. -/
def wpFx (P : Program) (ops : Array Oper) (w0 : World) (Kd : Nat → Nat) (Q : Exit → Act → World → Prop) : Nat → Nat → List Oper → Act → World → Prop
  | 0, _, l, a, w => ∀ w1, Aft w w1 → wpList P ops Q l a w1
  | n + 1, k, o :: l, a, w => stepF P ops w0 (Kd k) o (wpFx P ops w0 Kd Q n (k + 1) l) a w
  | _ + 1, _, [], _, _ => False
theorem wpFx_up {Kd : Nat → Nat} {Q : Exit → Act → World → Prop} : ∀ (n k : Nat) (l : List Oper), Up (wpFx P ops w0 Kd Q n k l)
  | 0, _, l => fun a w w1 hw h w2 h2 => h w2 (hw.trans h2)
  | n + 1, k, o :: l => fun a w w1 hw h => by simp only [wpFx] at h ⊢; exact stepF_up (wpFx_up n (k + 1) l) a w w1 hw h
  | _ + 1, _, [] => fun _ _ _ _ h => by simp only [wpFx] at h
theorem wpFs_of_wpFx {Kd : Nat → Nat} {Q : Exit → Act → World → Prop} : ∀ (n k : Nat) (l : List Oper) (a : Act) (w : World), Aft w0 w → (∀ j, l[j]? = ops[k + j]?) → n ≤ l.length → k + l.length = ops.size → wpFx P ops w0 Kd Q n k l a w →
    wpFs P ops w0 Kd (fun a w => ∀ w1, Aft w w1 → wpOps P ops Q (List.range' (k + n) (ops.size - (k + n))) a w1) (List.range' k n) a w
  | 0, k, l, a, w, hC, hl, _, hz, h => by
    simp only [List.range'_zero, wpFs, Nat.add_zero]
    simp only [wpFx] at h
    intro w1 hw1
    rw [show ops.size - k = l.length by omega, wpOps_eq_wpList l k hl]
    exact h w1 hw1
  | n + 1, k, [], a, w, _, _, hn, _, _ => by simp at hn
  | n + 1, k, o :: l, a, w, hC, hl, hn, hz, h => by
    have h0 : ops[k]? = some o := by simpa using (hl 0).symm
    simp only [wpFx] at h
    rw [List.range'_succ]
    simp only [wpFs, h0]
    have ih := fun a w hC => wpFs_of_wpFx (Kd := Kd) (Q := Q) n (k + 1) l a w hC (fun j => by have := hl (j + 1); simpa [Nat.add_assoc, Nat.add_comm 1 j] using this) (by simpa using hn) (by simp at hz; omega)
    rw [show k + (n + 1) = k + 1 + n by omega]
    exact stepF_mono ih hC h
/-- **A REGION THAT DRAWS ITS ORDER IS WALKED ONCE.** Kd: 0 reads, 1 makes a block, 2 turns the world. -/
theorem wp_region_lexF {id : Nat} {Q : Exit → Act → World → Prop} {a : Act} {w : World} {l : List Oper} (Kd : Nat → Nat) (n : Nat) (hm : P.follows .mixedOrders = true)
    (hB : lexOKF l.toArray Kd n (Region.before l.toArray) = true) (h : ∀ w0, w0 = w.drew → wpFx P l.toArray w0 Kd Q n 0 l a w0) : (Code.region id l.toArray true).wp P Q a w := by
  have h := h w.drew rfl
  simp only [lexOKF, lexOK, Bool.and_eq_true, decide_eq_true_eq] at hB
  obtain ⟨⟨⟨⟨hs, hM⟩, hp⟩, hN⟩, hF⟩ := hB
  have hN' : n ≤ l.length := by simpa using hN
  refine wp_region_any hm ?_
  have hw : waiting (Array.replicate l.toArray.size false) n = List.range n := by
    unfold waiting
    rw [List.filter_eq_self]
    intro i hi
    rw [List.mem_range] at hi
    have : i < l.length := by omega
    simp [this]
  have h1 := wpFs_of_wpFx (Kd := Kd) (ops := l.toArray) n 0 l a _ (Aft.refl _) (by simp) hN' (by simp) h
  rw [Nat.zero_add, ← List.range_eq_range'] at h1
  refine lexF_prefix (Kd := Kd) (w0 := w.drew) hs hM hp hF hN _ _ a _ (by simp) ?_ ?_ (Aft.refl _) ?_ ?_
  · intro k o _ hl
    exfalso
    have hk : ¬ (Array.replicate l.toArray.size false).getD k false = true := by
      by_cases hk : k < l.length <;> simp [hk]
    exact hk hl
  · intro i _ hi
    have hi' : i < l.length := by simpa using hi
    simp [hi']
  · rw [hw]; simp; omega
  · rw [hw]; exact h1
theorem wpFx_succ {Kd : Nat → Nat} {Q : Exit → Act → World → Prop} {n k : Nat} {o : Oper} {l : List Oper} {a : Act} {w : World} : wpFx P ops w0 Kd Q (n + 1) k (o :: l) a w = stepF P ops w0 (Kd k) o (wpFx P ops w0 Kd Q n (k + 1) l) a w := rfl
section
variable {Kd : Nat → Nat} {Q : Exit → Act → World → Prop} {n k : Nat} {o : Oper} {l : List Oper} {a : Act} {w : World}
theorem lf_skip (_ : wpQuiet P ops (fun _ => False) (fun _ => True) [o] a) (hw : Region.wanted o (yielded ops a.tmps) = false) (h : wpFx P ops w0 Kd Q n (k + 1) l (a.put o.dst undef) w) : wpFx P ops w0 Kd Q (n + 1) k (o :: l) a w := by
  simp only [wpFx, stepF, hw]
  exact h
theorem lf_quiet (hk : Kd k = 0) (_ : wpQuiet P ops (fun _ => False) (fun _ => True) [o] a) (hw : Region.wanted o (yielded ops a.tmps) = true) (hv : isV o.op = true)
    (h : ∀ K : Act → Prop, (∀ a', wpFx P ops w0 Kd Q n (k + 1) l a' w → K a') → o.quiet P a (fun w' => ∃ u : Later w0.heap.size w0, w' = u.w) K) : wpFx P ops w0 Kd Q (n + 1) k (o :: l) a w := by
  obtain ⟨v, hq, hk2⟩ := h (fun a' => wpFx P ops w0 Kd Q n (k + 1) l a' w) fun _ h => h
  simp only [wpFx, stepF, hw, if_true, hk]
  rw [if_neg (by omega)]
  exact ⟨none, fun _ => v, fun _ => rfl, fun w' hw' _ => qAt_of_quietAt hv (hq w' ⟨⟨w', hw'⟩, rfl⟩), fun w1 g hw1 _ => wpFx_up _ _ _ _ _ _ hw1 hk2⟩
theorem lf_fresh (obj : Obj) (F : Nat → Value) (hk : Kd k = 1) (hw : Region.wanted o (yielded ops a.tmps) = true) (hv : ∀ w1, (execOp a.eval o).run P w1 = .ok (.value (F w1.heap.size)) (w1.alloc obj))
    (h : ∀ w1 g, Aft w w1 → w0.heap.size ≤ g → w1.heap[g]? = some obj → wpFx P ops w0 Kd Q n (k + 1) l (a.put o.dst (F g)) w1) : wpFx P ops w0 Kd Q (n + 1) k (o :: l) a w := by
  simp only [wpFx, stepF, hw, if_true, hk]
  rw [if_neg (by omega)]
  exact ⟨some obj, F, (fun h => by cases h), fun w1 _ => hv w1, fun w1 g hw1 hh => h w1 g hw1 hh.1 hh.2⟩
theorem lf_eff (hk : Kd k = 2) (_ : wpQuiet P ops (fun _ => False) (fun _ => True) [o] a) (hw : Region.wanted o (yielded ops a.tmps) = true)
    (h : ∀ w1, Aft w w1 → ∀ K : Act → World → Prop, (∀ a' w', (Aft w1 w' ∧ wpFx P ops w0 Kd Q n (k + 1) l a' w') → K a' w') → o.wp P a w1 K noOut) : wpFx P ops w0 Kd Q (n + 1) k (o :: l) a w := by
  simp only [wpFx, stepF, hw, if_true, hk, Nat.le_refl]
  exact fun w1 hw1 => h w1 hw1 _ fun _ _ h => ⟨by unfold Leaves; rw [if_neg (by decide)]; exact h.1, h.2⟩
theorem lf_store (hk : Kd k = 3) (hw : Region.wanted o (yielded ops a.tmps) = true) (ty : TypeId) (x y : Operand) (ho : o.op = .store ty x y)
    (g : Nat) (cells : Array Value) (hx : a.eval x = .pointer (some ⟨g, 0, none⟩)) (hy : a.eval y = .agg cells)
    (t : TypeId) (old : Array Value) (hC : Aft w0 w) (h0 : w0.heap.size ≤ g) (hg : w.heap[g]? = some (.cells old t (0, 0))) (hi : (P.info? ty).map (·.size) = some cells.size)
    (hold : old.size = cells.size) (h1 : cells.all (·.oneCell') = true)
    (h : ∀ w2, Hid (w2.heap[g]? = some (.cells cells t (0, 0))) → Aft w0 w2 → Hid (∀ k, k < w.heap.size → k ≠ g → w2.heap[k]? = w.heap[k]?) → wpFx P ops w0 Kd Q n (k + 1) l (a.put o.dst undef) w2) : wpFx P ops w0 Kd Q (n + 1) k (o :: l) a w := by
  simp only [wpFx, stepF, hw, if_true, hk]
  rw [if_pos (by omega)]
  intro w1 hw1
  refine wp_store_row ty x y ho g cells hx hy t old (hw1.get hg) hi hold h1 ?_
  have hb : Aft w0 (w1.setRow g cells) := below_setRow (hC.trans hw1) h0 _
  refine ⟨by unfold Leaves; rw [if_pos rfl]; exact hb, h _ (show _ = _ from setRow_heap _ _ _ _ _ _ (hw1.get hg)) hb (show _ from fun k hk hne => ?_)⟩
  rw [setRow_other w1 g k _ hne]
  exact Below.block hw1 k hk
theorem lf_eff3 (hk : Kd k = 3) (_ : wpQuiet P ops (fun _ => False) (fun _ => True) [o] a) (hw : Region.wanted o (yielded ops a.tmps) = true)
    (h : ∀ w1, Aft w w1 → ∀ K : Act → World → Prop, (∀ a' w', (Aft w0 w' ∧ wpFx P ops w0 Kd Q n (k + 1) l a' w') → K a' w') → o.wp P a w1 K noOut) : wpFx P ops w0 Kd Q (n + 1) k (o :: l) a w := by
  simp only [wpFx, stepF, hw, if_true, hk]
  rw [if_pos (by omega)]
  exact fun w1 hw1 => h w1 hw1 _ fun _ _ h => ⟨by unfold Leaves; rw [if_pos rfl]; exact h.1, h.2⟩
theorem lf_done (h : ∀ w1, Aft w w1 → wpList P ops Q l a w1) : wpFx P ops w0 Kd Q 0 k l a w := h
end
end
/-- A law on a plain list of operations serves a single, guarded one. -/
theorem wp_of_list {P : Program} {ops : Array Oper} {o : Oper} {a : Act} {w : World} {K : Act → World → Prop} (h : wpList P ops (fun ex a w => ex = .normal ∧ K a w) [{ o with guard := none }] a w) : o.wp P a w K noOut := by
  unfold wpList at h
  rw [if_pos (show Region.wanted { o with guard := none } (yielded ops a.tmps) = true from rfl)] at h
  rcases h with h | ⟨_, h⟩
  · have e : ({ o with guard := none } : Oper).wp P a w = o.wp P a w := rfl
    rw [e] at h
    unfold Oper.wp at *
    generalize (execOp a.eval o).run P w = r at *
    cases r with
    | ok n w' =>
      cases n <;> simp only [Oper.upon, wpList] at h ⊢
      case value v => exact h.2
      case skip => exact h.2
      case defer d => exact h.2
      case enter f args => exact Calls.mono h fun e w'' he => by cases e <;> first | exact he.2 | exact (by cases he.1) | exact (by obtain ⟨_, _, hf⟩ := he; cases hf.1)
      case row r args => exact Rows.mono h fun v w'' he => he.2
    | halt x w' => cases x <;> simp only [Oper.upon] at h ⊢ <;> first | exact h.elim | exact (by cases h.1)
  · obtain ⟨_, _, hf⟩ := h
    cases hf.1
attribute [irreducible] wpFx
end Go.Proofs.YtdbhlajajdlmfaaDoor
/- law02.ShaRest, walked whole. -/
namespace Go.Proofs.YtdbhlajajdlmfaaDoor
open Go Go.RowKit
theorem wrap64_mid {z : Int} (h0 : 0 ≤ z) (h1 : z < 9223372036854775808) : wrap64 z = z := by
  unfold wrap64
  omega
theorem RdAll.blk {w : World} {v : Value} {g : Nat} {t : TypeId} {fr : Nat × Nat} {l : List (BitVec 8)} (hg : w.heap[g]? = some (.cells #[v] t fr)) (h : Rd w v (bv l)) : RdAll w (.slice (some ⟨g, 0, none⟩) 1 1) [l] := by
  refine ⟨[v], ⟨some ⟨g, 0, none⟩, 1, rfl, Nat.le_refl _, by omega, (fun h => by cases h), fun ad ha j u hu => ?_⟩, rfl, fun i u hu => ?_⟩
  · cases ha
    cases j with
    | zero => cases hu; simp [World.cell?, hg, Addr.add]
    | succ j => simp at hu
  · cases i with
    | zero => cases hu; exact h
    | succ i => simp at hu
end Go.Proofs.YtdbhlajajdlmfaaDoor
/- law02.ShaParts, walked whole. -/
namespace Go.Proofs.YtdbhlajajdlmfaaDoor
open Go Go.RowKit
section
variable {P : Program} {ops : Array Oper} {w0 : World} {Kd : Nat → Nat} {Q : Exit → Act → World → Prop} {n k : Nat} {o : Oper} {l : List Oper} {a : Act} {w : World}
theorem lf_load_row (hk : Kd k = 0) (hw : Region.wanted o (yielded ops a.tmps) = true) (ty : TypeId) (x : Operand) (ho : o.op = .load ty x)
    (g : Nat) (hx : a.eval x = .pointer (some ⟨g, 0, none⟩)) (t : TypeId) (cs : Array Value) (fr : Nat × Nat) (d : TypeDesc) (hg : w0.heap[g]? = some (.cells cs t fr))
    (hu : P.underlying ty = some d) (hd : (match d with | .struct _ | .array _ _ => true | _ => false) = true) (hi : (P.info? ty).map (·.size) = some cs.size)
    (h : wpFx P ops w0 Kd Q n (k + 1) l (a.put o.dst (.agg cs)) w) : wpFx P ops w0 Kd Q (n + 1) k (o :: l) a w := by
  have hup := wpFx_up (P := P) (ops := ops) (w0 := w0) (Kd := Kd) (Q := Q) n (k + 1) l
  simp only [wpFx_succ, stepF, hw, if_true, hk]
  rw [if_neg (by omega)]
  refine ⟨none, fun _ => .agg cs, fun _ => rfl, fun w1 hw1 _ => .inl ?_, fun w1 g hw1 _ => hup _ _ _ hw1 h⟩
  unfold execOp
  simp only [ho, hx, Instr.loadAt, Instr.sureAddr, Sem.run_bind, Sem.run_pure, Result.andThen_ok, run_loadVar_row w1 g t ty cs fr d (hw1.get hg) hu hd hi]
theorem wp_append_rd {K : Act → World → Prop} (s x : Operand) (t : TypeId)
    (ho : o.op = .call { callee := .builtin .append, args := #[s, x], argTypes := #[t, t] })
    (base : Nat) (e : TypeId) (z : Value) (bytes : Nat) (ht : P.underlying t = some (.slice e)) (hinfo : (P.info? e).map (fun i => (i.zero, i.size, i.bytes)) = some (some z, 1, bytes)) (hzs : z.cells.size = 1)
    (v vx : Value) (xs news : List Value) (hs : a.eval s = v) (hx : a.eval x = vx) (hown : w.ownsRow base e 1 v xs.length xs) (hrd : Rd w vx news) (h1 : ∀ u ∈ news, u.oneCell' = true)
    (hbytes : (xs.length + news.length) * bytes ≤ 140737488355328) (hlen : xs.length + news.length ≤ 140737488355328) (hbase : base ≤ w.heap.size)
    (h : ∀ v' w', w'.ownsRow base e 1 v' (xs ++ news).length (xs ++ news) → w.grownBy w' v.ownBlock → K (a.put o.dst v') w') : o.wp P a w K noOut :=
  wp_of_list (ops := #[]) (wpList_append_rd rfl s x t ho base e z bytes ht hinfo hzs v vx xs news hs hx hown hrd h1 hbytes hlen hbase fun v' w' k1 k2 _ => ⟨rfl, h v' w' k1 k2⟩)
end
theorem info_slice : (Tryd.prog.info? 44).map (fun i => (i.zero, i.size, i.bytes)) = some (some (.slice none 0 0), 1, 24) := by kernel_rfl
theorem RdAll.one_cell {w : World} {vs : List Value} {ps : List (List (BitVec 8))} (h : ∀ i v, vs[i]? = some v → Rd w v (bv (ps.getD i []))) : ∀ u ∈ vs, u.oneCell' = true := by
  intro u hu
  obtain ⟨i, hi⟩ := List.getElem?_of_mem hu
  obtain ⟨ao, cap, rfl, _⟩ := h i u hi
  rfl
theorem RdAll.join {w : World} {v : Value} {vs ws : List Value} {ps qs : List (List (BitVec 8))} (h : Rd w v (vs ++ ws)) (h1 : vs.length = ps.length) (h2 : ws.length = qs.length)
    (e1 : ∀ i v, vs[i]? = some v → Rd w v (bv (ps.getD i []))) (e2 : ∀ i v, ws[i]? = some v → Rd w v (bv (qs.getD i []))) : RdAll w v (ps ++ qs) := by
  refine ⟨vs ++ ws, h, by simp [h1, h2], fun i u hu => ?_⟩
  by_cases hi : i < vs.length
  · rw [List.getElem?_append_left hi] at hu
    have := e1 i u hu
    rw [List.getD_eq_getElem?_getD] at this ⊢
    rwa [List.getElem?_append_left (by omega)]
  · rw [List.getElem?_append_right (by omega)] at hu
    have := e2 _ u hu
    rw [List.getD_eq_getElem?_getD] at this ⊢
    rwa [List.getElem?_append_right (by omega), ← h1]
set_option maxRecDepth 100000 in
theorem wpList_store_keyX {ops : Array Oper} {rest : List Oper} {o : Oper} {a : Act} {w : World} {Q : Exit → Act → World → Prop} (hgd : o.guard = none) (x y : Operand) (ho : o.op = .store 30 x y)
    (g : Nat) (X : List (BitVec 8)) (hX : X.length = 32) (hx : a.eval x = .pointer (some ⟨g, 0, none⟩)) (hy : a.eval y = .agg (bv X).toArray)
    (hg : w.heap[g]? = some (.cells key0 30 (0, 0)))
    (h : ∀ w', Hid (w'.heap[g]? = some (.cells (bv X).toArray 30 (0, 0))) → (∀ k w0, k ≤ g → Below k w0 w → Below k w0 w') → wpList Tryd.prog ops Q rest (a.put o.dst undef) w') : wpList Tryd.prog ops Q (o :: rest) a w := by
  have hxl : (bv X).toArray.size = 32 := by rw [List.size_toArray, bv_length]; exact hX
  exact wpList_store_rowX hgd _ x y ho g (bv X).toArray hx hy _ key0 hg (by rw [hxl]; kernel_rfl) (by rw [hxl]; rfl) (Array.all_eq_true_iff_forall_mem.2 fun u hu => bv_one X u (by simpa using hu)) h
set_option maxRecDepth 100000 in
theorem run_eq_key (X Y : List (BitVec 8)) (hx : X.length = 32) (hy : Y.length = 32) (w : World) : (Op.equalIn 10000 30 (.agg (bv X).toArray) (.agg (bv Y).toArray)).run Tryd.prog w = .ok (decide (X = Y)) w := by
  have h := run_equalIn_ints (P := Tryd.prog) w 10000 9998 (by omega) 30 5 32 .u8 Tryd.underlying30 Tryd.underlying5 (by kernel_rfl) (X.map bn) (Y.map bn) (by simpa using hx) (by simpa using hy)
  have e : ∀ Z : List (BitVec 8), (bv Z) = (Z.map bn).map (Value.int .u8) := fun Z => by simp [bv]
  rw [e, e, h]
  congr 1
  by_cases hXY : X = Y
  · subst hXY; simp
  · simp only [hXY, decide_false, beq_eq_false_iff_ne]
    exact fun e => hXY (List.map_inj_right (fun x y e => bn_inj e) |>.1 e)
end Go.Proofs.YtdbhlajajdlmfaaDoor
/- mac.held: a key, held against a byte. -/
namespace Go.Proofs.YtdbhlajajdlmfaaDoor
open Go Go.RowKit
/-- A key of at most 64 bytes. -/
def key64 (K : Nat → BitVec 32) (k : List (BitVec 8)) : List (BitVec 8) := if k.length ≤ 64 then k else digest K k
def heldB (k : List (BitVec 8)) (b : BitVec 8) : List (BitVec 8) := (List.range 64).map fun j => k.getD j 0 ^^^ b
theorem Rd.addr {w : World} {ao : Option Addr} {n cap : Nat} {xs : List Value} (h : Rd w (.slice ao n cap) xs) (hx : 0 < xs.length) : ∃ ad, ao = some ad ∧ ∀ j u, xs[j]? = some u → w.cell? (ad.add j) = some u := by
  obtain ⟨ao', cap', hv, h1, h2, h3, h4⟩ := h
  cases hv
  cases ao with
  | none => have := h3 rfl; omega
  | some ad => exact ⟨ad, rfl, fun j u hu => h4 ad rfl j u hu⟩
theorem aft_set {w wr : World} (h : Aft w wr) {p : Addr} (hp : w.heap.size ≤ p.block) (u : Value) : Aft w (wr.setCell p u) :=
  ⟨h.os, h.tape, h.output, by have := Below.size h; simpa [World.setCell] using this, fun k hk => (Below.heap_setCell _ _ _ _ (by omega)).trans (Below.block h k hk)⟩
theorem Rd.of_key {w : World} {g t : Nat} {X : List (BitVec 8)} (h : w.heap[g]? = some (.cells (bv X).toArray t (0, 0))) (hX : X.length = 32) : Rd w (.slice (some ⟨g, 0, none⟩) 32 32) (bv X) := by
  refine ⟨some ⟨g, 0, none⟩, 32, by rw [bv_length, hX], by rw [bv_length]; omega, by omega, (fun h => by cases h), fun ad ha j u hu => ?_⟩
  cases ha
  rw [Addr.add_lit]
  simp only [World.cell?, h, Nat.zero_add, List.getElem?_toArray]
  exact hu
end Go.Proofs.YtdbhlajajdlmfaaDoor
/- mac.Mac: a sum with a key. -/
namespace Go.Proofs.YtdbhlajajdlmfaaDoor
open Go Go.RowKit
/-- A sum with a key. -/
def macOf (K : Nat → BitVec 32) (k d : List (BitVec 8)) : List (BitVec 8) := digest K (heldB (key64 K k) 92 ++ digest K (heldB (key64 K k) 54 ++ d))
theorem macOf_length (K : Nat → BitVec 32) (k d : List (BitVec 8)) : (macOf K k d).length = 32 := digest_length K _
theorem RdAll.two {w : World} {v1 v2 : Value} {g : Nat} {t : TypeId} {fr : Nat × Nat} {l1 l2 : List (BitVec 8)} (hg : w.heap[g]? = some (.cells #[v1, v2] t fr)) (h1 : Rd w v1 (bv l1)) (h2 : Rd w v2 (bv l2)) : RdAll w (.slice (some ⟨g, 0, none⟩) 2 2) [l1, l2] := by
  refine ⟨[v1, v2], ⟨some ⟨g, 0, none⟩, 2, rfl, Nat.le_refl _, by omega, (fun h => by cases h), fun ad ha j u hu => ?_⟩, rfl, fun i u hu => ?_⟩
  · cases ha
    match j with
    | 0 => cases hu; simp [World.cell?, hg, Addr.add]
    | 1 => cases hu; simp [World.cell?, hg, Addr.add]
    | j + 2 => simp at hu
  · match i with
    | 0 => cases hu; exact h1
    | 1 => cases hu; exact h2
    | i + 2 => simp at hu
theorem run_sliceAt_key (w : World) (b : Nat) : (Instr.sliceAt 30 (.pointer (some ⟨b, 0, none⟩)) none none none).run Tryd.prog w = .ok (.slice (some ⟨b, 0, none⟩) 32 32) w := by kernel_rfl
end Go.Proofs.YtdbhlajajdlmfaaDoor
/- law03.live: the chapter's example. -/
namespace Go.Proofs.YtdbhlajajdlmfaaDoor
open Go Go.RowKit
end Go.Proofs.YtdbhlajajdlmfaaDoor
/- mac.Equal. -/
namespace Go.Proofs.YtdbhlajajdlmfaaDoor
open Go Go.RowKit
theorem Rd.cell_at {w : World} {g o n cap : Nat} {xs : List (BitVec 8)} (h : Rd w (.slice (some ⟨g, o, none⟩) n cap) (bv xs)) {i : Nat} (hi : i < xs.length) : w.cell? ⟨g, o + i, none⟩ = some (.int .u8 (bn (xs.getD i 0))) := by
  obtain ⟨ao', cap', hv, h1, h2, h3, h4⟩ := h
  cases hv
  have := h4 _ rfl i (.int .u8 (bn (xs.getD i 0))) (by simp [bv, List.getD, List.getElem?_eq_getElem hi])
  rwa [Addr.add_lit] at this
theorem Rd.some_of {w : World} {ao : Option Addr} {n cap : Nat} {xs : List Value} (h : Rd w (.slice ao n cap) xs) (hx : 0 < xs.length) : ∃ g o, ao = some ⟨g, o, none⟩ ∧ n = xs.length ∧ xs.length ≤ cap := by
  have hs := h.sl
  obtain ⟨g, o, cap', hv, _⟩ := h.at hx
  cases hv
  exact ⟨g, o, rfl, rfl, hs.2.1⟩
end Go.Proofs.YtdbhlajajdlmfaaDoor
/- law03.MacEqual, walked whole. -/
namespace Go.Proofs.YtdbhlajajdlmfaaDoor
open Go Go.RowKit
/-- 'append' in an operation that is guarded. -/
theorem wpList_append_rdG {P : Program} {w : World} {ops : Array Oper} {rest : List Oper} {o : Oper} {a : Act} {Q : Exit → Act → World → Prop} (hw : Region.wanted o (yielded ops a.tmps) = true) (s x : Operand) (t : TypeId)
    (ho : o.op = .call { callee := .builtin .append, args := #[s, x], argTypes := #[t, t] })
    (base : Nat) (e : TypeId) (z : Value) (bytes : Nat) (ht : P.underlying t = some (.slice e)) (hinfo : (P.info? e).map (fun i => (i.zero, i.size, i.bytes)) = some (some z, 1, bytes)) (hzs : z.cells.size = 1)
    (v vx : Value) (xs news : List Value) (hs : a.eval s = v) (hx : a.eval x = vx) (hown : w.ownsRow base e 1 v xs.length xs) (hrd : Rd w vx news) (h1 : ∀ u ∈ news, u.oneCell' = true)
    (hbytes : (xs.length + news.length) * bytes ≤ 140737488355328) (hlen : xs.length + news.length ≤ 140737488355328) (hbase : base ≤ w.heap.size)
    (h : ∀ v' w', w'.ownsRow base e 1 v' (xs ++ news).length (xs ++ news) → w.grownBy w' v.ownBlock → wpList P ops Q rest (a.put o.dst v') w') : wpList P ops Q (o :: rest) a w := by
  unfold wpList
  rw [if_pos hw]
  exact .inl (wp_noOut (wp_append_rd s x t ho base e z bytes ht hinfo hzs v vx xs news hs hx hown hrd h1 hbytes hlen hbase h))
end Go.Proofs.YtdbhlajajdlmfaaDoor
/- 'append(s, make([]byte, n)...)', s the call's own, as the model has it: with a number in the place of a slice. Of whatever program. -/
namespace Go.Proofs.YtdbhlajajdlmfaaDoor
open Go Go.RowKit
theorem zeroCells_byte (n : Nat) : (Builtin.zeroCells #[Value.int .u8 0] n).toList = List.replicate n (Value.int .u8 0) := by
  unfold Builtin.zeroCells
  apply List.ext_getElem?
  intro i
  by_cases hi : i < n
  · simp [hi, Nat.mod_one]
  · simp [hi]
theorem run_append_no_zeros {P : Program} (w : World) (t tn ty e : TypeId) (i : TypeInfo) (kn : IntKind) (ht : P.underlying t = some (.slice e)) (htn : P.underlying tn = some (.int kn)) (hi : P.info? e = some i)
    (b : Option Addr) (sLen sCap : Nat) (h : sLen ≤ sCap) : (Builtin.append_ #[t, tn] ty #[.slice b sLen sCap, .int .i64 0]).run P w = .ok (.slice b sLen sCap) w := by
  have hw : IntKind.i64.wrap (0 : Int) = 0 := by rw [IntKind.wrap_i64]; omega
  cases b <;> simp [Builtin.append_, run_underlying ht, run_underlying htn, sizeOf, typeInfo, hi, asInt, asIntOf, hw, h, storeCells]
theorem run_append_room_zeros {P : Program} (w : World) (t tn ty e : TypeId) (i : TypeInfo) (kn : IntKind) (ht : P.underlying t = some (.slice e)) (htn : P.underlying tn = some (.int kn)) (hi : P.info? e = some i) (hz : i.zero = some (Value.int .u8 0)) (hsize : i.size = 1) (hby : i.bytes = 1)
    (g sLen sCap : Nat) (cur : Array Value) (hg : w.heap[g]? = some (.cells cur e (0, 0))) (k : Nat) (hk : k ≠ 0) (h : sLen + k ≤ sCap) (hcs : cur.size = sCap) (h48 : k ≤ 1000000) :
    (Builtin.append_ #[t, tn] ty #[.slice (some ⟨g, 0, none⟩) sLen sCap, .int .i64 k]).run P w =
      .ok (.slice (some ⟨g, 0, none⟩) (sLen + k) sCap) (w.setRow g (cur.toList.take sLen ++ List.replicate k (Value.int .u8 0) ++ cur.toList.drop (sLen + k)).toArray) := by
  have hw : IntKind.i64.wrap (k : Int) = k := by rw [IntKind.wrap_i64]; omega
  have hneg : ¬ ((k : Int) < 0) := by omega
  have h48i : ¬ (281474976710656 < (k : Int)) := by omega
  have hst := run_storeCells_at P g sLen e (List.replicate k (Value.int .u8 0)) 0 cur w hg (by simp; omega) (by intro v hv; rw [List.mem_replicate] at hv; rw [hv.2]; rfl)
  simp only [Nat.add_zero, List.length_replicate] at hst
  have hcells : (Value.int .u8 0).cells = #[Value.int .u8 0] := rfl
  simp [Builtin.append_, run_underlying ht, run_underlying htn, sizeOf, typeInfo, zeroValue, hi, hz, hsize, hby, asInt, asIntOf, hw, h, hneg, h48i, hk, hcells, zeroCells_byte, Addr.add_lit, hst]
theorem run_append_own_zeros {P : Program} (w : World) (base : Nat) (t tn ty e : TypeId) (i : TypeInfo) (kn : IntKind) (ht : P.underlying t = some (.slice e)) (htn : P.underlying tn = some (.int kn)) (hi : P.info? e = some i) (hz : i.zero = some (Value.int .u8 0)) (hsize : i.size = 1) (hby : i.bytes = 1)
    (v : Value) (xs : List Value) (hown : w.ownsRow base e 1 v xs.length xs) (k : Nat) (hlen : xs.length + k ≤ 1000000) (hbase : base ≤ w.heap.size) :
    ∃ v' w', (Builtin.append_ #[t, tn] ty #[v, .int .i64 k]).run P w = .ok v' w' ∧ w'.ownsRow base e 1 v' (xs ++ List.replicate k (Value.int .u8 0)).length (xs ++ List.replicate k (Value.int .u8 0)) ∧ w.grownBy w' v.ownBlock := by
  by_cases hk : k = 0
  · subst hk
    refine ⟨v, w, ?_, by simpa using hown, ⟨rfl, rfl, rfl, Nat.le_refl _, fun _ _ _ => rfl⟩⟩
    rcases hown.2 with ⟨rfl, h0⟩ | ⟨g, cap, cur, rfl, _, _, hnc, _⟩
    · exact run_append_no_zeros w t tn ty e i kn ht htn hi none 0 0 (Nat.le_refl _)
    · exact run_append_no_zeros w t tn ty e i kn ht htn hi _ _ _ hnc
  · have hl2 : (xs ++ List.replicate k (Value.int .u8 0)).length = xs.length + k := by simp
    rw [hl2]
    have hlen2 : (xs ++ List.replicate k (Value.int .u8 0)).length = (xs.length + k) * 1 := by rw [hl2, Nat.mul_one]
    have grown : ∀ (old : Nat), old < xs.length + k → ∀ (row : Option Nat),
        (w.drew.alloc (.cells (xs.toArray ++ Builtin.zeroCells (Value.int .u8 0).cells k ++ Builtin.zeroCells (Value.int .u8 0).cells (grownCap w (xs.length + k) old e - (xs.length + k))) e)).ownsRow base e 1
          (.slice (some ⟨w.heap.size, 0, none⟩) (xs.length + k) (grownCap w (xs.length + k) old e)) (xs.length + k) (xs ++ List.replicate k (Value.int .u8 0)) ∧
        w.grownBy (w.drew.alloc (.cells (xs.toArray ++ Builtin.zeroCells (Value.int .u8 0).cells k ++ Builtin.zeroCells (Value.int .u8 0).cells (grownCap w (xs.length + k) old e - (xs.length + k))) e)) row := by
      intro old ho row
      have hge := grownCap_ge w (xs.length + k) old e
      have hcm : grownCap w (xs.length + k) old e ≤ maxLen := grownCap_le_maxLen w (xs.length + k) old e (by unfold maxLen; omega)
      have hz1 : (Value.int IntKind.u8 0).cells.size = 1 := rfl
      refine ⟨⟨hlen2, .inr ⟨w.heap.size, _, _, rfl, hbase, heap_alloc_new w.drew _, hge, hcm, ?_, ?_⟩⟩, ⟨rfl, rfl, rfl, by simp, fun j hj _ => Below.heap_alloc w.drew _ j hj⟩⟩
      · simp only [Array.size_append, List.size_toArray, size_zeroCells, hz1]
        omega
      · have hzk : (Builtin.zeroCells (Value.int .u8 0).cells k).toList = List.replicate k (Value.int .u8 0) := zeroCells_byte k
        simp only [Array.toList_append, hzk]
        rw [← hlen2]
        exact List.take_left
    rcases hown.2 with ⟨rfl, h0⟩ | ⟨g, cap, cur, rfl, hbg, hg, hnc, hcm, hcs, htake⟩
    · have hx : xs = [] := List.eq_nil_of_length_eq_zero h0
      subst hx
      have hr := Lib.run_append_nil_zeros (P := P) w t tn ty e i (Value.int .u8 0) .i64 kn ht htn hi hz k (by omega) (by omega) (by simp at hlen; omega) (by rw [hby]; simp at hlen; omega)
      have hgr := grown 0 (by omega) (Value.ownBlock (.slice none 0 0))
      simp only [List.length_nil, Nat.zero_add, List.nil_append, Array.empty_append] at hgr ⊢
      exact ⟨_, _, hr, hgr.1, hgr.2⟩
    · by_cases hroom : xs.length + k ≤ cap
      · have hcs' : cur.size = cap := by simpa using hcs
        have hr := run_append_room_zeros (P := P) w t tn ty e i kn ht htn hi hz hsize hby g xs.length cap cur hg k hk hroom hcs' (by omega)
        refine ⟨_, _, hr, ⟨hlen2, .inr ⟨g, cap, _, rfl, hbg, setRow_heap w g cur _ e _ hg, hroom, hcm, ?_, ?_⟩⟩, ⟨rfl, rfl, rfl, by simp, fun k _ hk => setRow_other w g k _ (fun e => hk (by simp [Value.ownBlock, e]))⟩⟩
        · simp only [List.size_toArray, List.length_append, List.length_take, List.length_drop, Array.length_toList, List.length_replicate]
          omega
        · have ht' : cur.toList.take xs.length = xs := by simpa using htake
          rw [ht', ← hlen2]
          exact List.take_left
      · have holds : ∀ j u, xs[j]? = some u → w.cell? ((⟨g, 0, none⟩ : Addr).add j) = some u := hown.cells (g := g) rfl
        have hf : (Builtin.firstCells i.size xs.length (.slice (some ⟨g, 0, none⟩) xs.length cap)).run P w.drew = .ok xs.toArray w.drew := by
          have hl := run_loadCells_list (P := P) w.drew ⟨g, 0, none⟩ xs (fun j u hu => holds j u hu)
          rw [hsize]
          simpa [Builtin.firstCells] using hl
        have hr := Lib.run_append_grow_zeros (P := P) w t tn ty e i (Value.int .u8 0) .i64 kn ht htn hi hz (some ⟨g, 0, none⟩) xs.length cap xs hf k (by omega) (by omega) (by omega) (by omega) (by rw [hby]; omega) (by rw [hby]; exact growslice_fits (by omega) (by omega))
        have hgr := grown cap (by omega) (Value.ownBlock (.slice (some ⟨g, 0, none⟩) xs.length cap))
        exact ⟨_, _, hr, hgr.1, hgr.2⟩
theorem wpList_append_zeros {P : Program} {w : World} {ops : Array Oper} {rest : List Oper} {o : Oper} {a : Act} {Q : Exit → Act → World → Prop} (hgd : o.guard = none) (s x : Operand) (t tn : TypeId)
    (ho : o.op = .call { callee := .builtin .append, args := #[s, x], argTypes := #[t, tn] })
    (base : Nat) (e : TypeId) (kn : IntKind) (ht : P.underlying t = some (.slice e)) (htn : P.underlying tn = some (.int kn)) (hinfo : (P.info? e).map (fun i => (i.zero, i.size, i.bytes)) = some (some (Value.int .u8 0), 1, 1))
    (v : Value) (xs : List Value) (k : Nat) (hs : a.eval s = v) (hx : a.eval x = .int .i64 (k : Int)) (hown : w.ownsRow base e 1 v xs.length xs) (hlen : xs.length + k ≤ 1000000) (hbase : base ≤ w.heap.size)
    (h : ∀ v' w', w'.ownsRow base e 1 v' (xs ++ List.replicate k (Value.int .u8 0)).length (xs ++ List.replicate k (Value.int .u8 0)) → w.grownBy w' v.ownBlock → wpList P ops Q rest (a.put o.dst v') w') : wpList P ops Q (o :: rest) a w := by
  obtain ⟨i, hi, hz1, hz2, hz3⟩ := info_parts hinfo
  obtain ⟨v', w', hr, h2, h3⟩ := run_append_own_zeros (P := P) w base t tn o.type e i kn ht htn hi hz1 hz2 hz3 v xs hown k hlen hbase
  exact Lib.wpList_append_run w hgd s x t tn ho v _ hs hx v' w' hr (h v' w' h2 h3)
end Go.Proofs.YtdbhlajajdlmfaaDoor
/- law03.MacKeys, walked whole. -/
namespace Go.Proofs.YtdbhlajajdlmfaaDoor
open Go Go.RowKit
theorem RdAll.twoA (w : World) (v1 v2 : Value) (l1 l2 : List (BitVec 8)) (t : Nat) (h1 : Rd w v1 (bv l1)) (h2 : Rd w v2 (bv l2)) : RdAll (w.alloc (.cells #[v1, v2] t)) (.slice (some ⟨w.heap.size, 0, none⟩) 2 2) [l1, l2] :=
  RdAll.two (heap_alloc_new w _) (h1.grow (Aft.alloc w _)) (h2.grow (Aft.alloc w _))
theorem bv_zeros (n : Nat) : List.replicate n (Value.int .u8 0) = bv (List.replicate n 0) := by simp [bv, bn]
set_option maxRecDepth 100000 in
theorem run_neq_key (X : List (BitVec 8)) (hx : X.length = 32) (w : World) : (Go.binOp .neq 30 (.agg (bv X).toArray) (.agg (bv X).toArray)).run Tryd.prog w = .ok (.bool false) w := by
  have heq := run_eq_key X X hx hx
  simp only [decide_true] at heq
  simp [go_sem, heq]
set_option maxRecDepth 100000 in
theorem run_eql_key (X : List (BitVec 8)) (hx : X.length = 32) (w : World) : (Go.binOp .eql 30 (.agg (bv X).toArray) (.agg (bv X).toArray)).run Tryd.prog w = .ok (.bool true) w := by
  have heq := run_eq_key X X hx hx
  simp only [decide_true] at heq
  simp [go_sem, heq]
theorem guard_key (op : BinOp) (x y : Operand) (cs ds : Array Value) (w : World) : (eqGuard op 30 x y (.agg cs) (.agg ds)).run Tryd.prog w = .ok () w := by
  have hq := Tryd.eqGuardType30
  cases op <;> simp [eqGuard, run_program, hq]
/-- An operation on two values, whose outcome is known. -/
theorem lf_bin {P : Program} {ops : Array Oper} {w0 : World} {Kd : Nat → Nat} {Q : Exit → Act → World → Prop} {n k : Nat} {o : Oper} {l : List Oper} {a : Act} {w : World} (hk : Kd k = 0) (hw : Region.wanted o (yielded ops a.tmps) = true)
    (op : BinOp) (t t2 : TypeId) (x y : Operand) (ho : o.op = .binOp op t x y t2) (vx vy v : Value) (hx : a.eval x = vx) (hy : a.eval y = vy) (hr : ∀ w1, (Go.binOp op t vx vy).run P w1 = .ok v w1) (hg : ∀ w1, (eqGuard op t x y vx vy).run P w1 = .ok () w1)
    (h : wpFx P ops w0 Kd Q n (k + 1) l (a.put o.dst v) w) : wpFx P ops w0 Kd Q (n + 1) k (o :: l) a w := by
  have hup := wpFx_up (P := P) (ops := ops) (w0 := w0) (Kd := Kd) (Q := Q) n (k + 1) l
  simp only [wpFx_succ, stepF, hw, if_true, hk]
  rw [if_neg (by omega)]
  refine ⟨none, fun _ => v, fun _ => rfl, fun w1 hw1 _ => .inl ?_, fun w1 g hw1 _ => hup _ _ _ hw1 h⟩
  unfold execOp
  simp only [ho, hx, hy, Sem.run_bind, hg, hr, Result.andThen_ok, Sem.run_pure]
end Go.Proofs.YtdbhlajajdlmfaaDoor
/- mac.Expand's own function: the next bytes. -/
namespace Go.Proofs.YtdbhlajajdlmfaaDoor
open Go Go.RowKit
theorem RdAll.three {w : World} {v1 v2 v3 : Value} {g : Nat} {t : TypeId} {fr : Nat × Nat} {l1 l2 l3 : List (BitVec 8)} (hg : w.heap[g]? = some (.cells #[v1, v2, v3] t fr)) (h1 : Rd w v1 (bv l1)) (h2 : Rd w v2 (bv l2)) (h3 : Rd w v3 (bv l3)) : RdAll w (.slice (some ⟨g, 0, none⟩) 3 3) [l1, l2, l3] := by
  refine ⟨[v1, v2, v3], ⟨some ⟨g, 0, none⟩, 3, rfl, Nat.le_refl _, by omega, (fun h => by cases h), fun ad ha j u hu => ?_⟩, rfl, fun i u hu => ?_⟩
  · cases ha
    match j with
    | 0 => cases hu; simp [World.cell?, hg, Addr.add]
    | 1 => cases hu; simp [World.cell?, hg, Addr.add]
    | 2 => cases hu; simp [World.cell?, hg, Addr.add]
    | j + 3 => simp at hu
  · match i with
    | 0 => cases hu; exact h1
    | 1 => cases hu; exact h2
    | 2 => cases hu; exact h3
    | i + 3 => simp at hu
theorem one_cell_at {w : World} {g t : Nat} {v : Value} (h : w.heap[g]? = some (.cells #[v] t (0, 0))) : w.cell? ⟨g, 0, none⟩ = some v ∧ w.frozen? ⟨g, 0, none⟩ = false :=
  ⟨by rw [cell_of_row w g 0 _ _ _ h]; rfl, frozen_of_row w g 0 _ _ h⟩
theorem one_cell_set {w : World} {g t : Nat} {v : Value} (u : Value) (h : w.heap[g]? = some (.cells #[v] t (0, 0))) : (w.setCell ⟨g, 0, none⟩ u).heap[g]? = some (.cells #[u] t (0, 0)) := by
  rw [heap_setCell_same w g 0 _ _ u h]
  rfl
end Go.Proofs.YtdbhlajajdlmfaaDoor
/- mac.Expand: bytes of a key. -/
namespace Go.Proofs.YtdbhlajajdlmfaaDoor
open Go Go.RowKit
def expT (K : Nat → BitVec 32) (k info : List (BitVec 8)) : Nat → List (BitVec 8)
  | 0 => []
  | i + 1 => macOf K k (expT K k info i ++ (info ++ [BitVec.ofNat 8 (i + 1)]))
def expOut (K : Nat → BitVec 32) (k info : List (BitVec 8)) : Nat → List (BitVec 8)
  | 0 => []
  | i + 1 => expOut K k info i ++ expT K k info (i + 1)
theorem cut_whole {P : Program} {t e : TypeId} (ht : P.underlying t = some (.slice e)) {ao : Option Addr} {len cap n : Nat} (hn : n ≤ cap) (w : World) {i : TypeInfo} (hi : P.info? e = some i) :
    (Instr.slice t (.slice ao len cap) none (some (.int .i64 (n : Int))) (some (.int .i64 (n : Int)))).run P w = .ok (.slice ao n n) w := by
  have he : P.elem t = e := by simp [Program.elem, ht]
  rw [run_slice_hm w t ao len cap (by rw [he]; exact ht) .i64 .i64 (n : Int) (n : Int) (by omega) (by omega) (by omega), he, run_sizeOf w hi]
  simp only [Result.andThen, sliced, Int.toNat_natCast, Nat.zero_mul, Nat.sub_zero]
  cases ao <;> simp [Addr.add]
theorem Rd.whole {w : World} {ao : Option Addr} {cap len : Nat} {xs : List Value} (h : Rd w (.slice ao len cap) xs) {n : Nat} (hn : n ≤ xs.length) : Rd w (.slice ao n n) (xs.take n) := by
  obtain ⟨ao', cap', hv, h1, h2, h3, h4⟩ := h
  cases hv
  refine ⟨ao, n, by rw [List.length_take, Nat.min_eq_left hn], by rw [List.length_take]; omega, by omega, fun e => (by have := h3 e; omega), fun ad ha j u hu => h4 ad ha j u ?_⟩
  rw [List.getElem?_take] at hu
  split at hu
  · exact hu
  · cases hu
end Go.Proofs.YtdbhlajajdlmfaaDoor
/- law03.MacPrefix, walked whole. -/
namespace Go.Proofs.YtdbhlajajdlmfaaDoor
open Go Go.RowKit
end Go.Proofs.YtdbhlajajdlmfaaDoor
/- A key as an argument, opened. -/
namespace Go.Proofs.YtdbhlajajdlmfaaDoor
open Go Go.RowKit Go.ChangeShapes Go.WideShapes
set_option maxRecDepth 100000
end Go.Proofs.YtdbhlajajdlmfaaDoor
/- coterieref02.ror and .words: the document's schedule of a block. -/
namespace Go.Proofs.YtdbhlajajdlmfaaDoor
open Go Go.RowKit
theorem byte32_toNat (b : BitVec 8) : (b.setWidth 32).toNat = b.toNat := by
  have := b.isLt
  rw [BitVec.toNat_setWidth]
  omega
theorem word4_add (a b c d : BitVec 8) : a.setWidth 32 <<< 24 + b.setWidth 32 <<< 16 + c.setWidth 32 <<< 8 + d.setWidth 32 = word4 a b c d := by
  have ha := a.isLt
  have hb := b.isLt
  have hc := c.isLt
  have hd := d.isLt
  have e1 := Nat.shiftLeft_add_eq_or_of_lt (b := d.toNat) (i := 8) (by omega) c.toNat
  have e2 := Nat.shiftLeft_add_eq_or_of_lt (b := c.toNat <<< 8 + d.toNat) (i := 16) (by rw [Nat.shiftLeft_eq]; omega) b.toNat
  have e3 := Nat.shiftLeft_add_eq_or_of_lt (b := b.toNat <<< 16 + (c.toNat <<< 8 + d.toNat)) (i := 24) (by rw [Nat.shiftLeft_eq, Nat.shiftLeft_eq]; omega) a.toNat
  apply BitVec.eq_of_toNat_eq
  unfold word4
  rw [BitVec.or_assoc, BitVec.or_assoc]
  simp only [BitVec.toNat_or, BitVec.toNat_add, BitVec.toNat_shiftLeft, byte32_toNat]
  have m1 : a.toNat <<< 24 % 2 ^ 32 = a.toNat <<< 24 := by rw [Nat.shiftLeft_eq]; omega
  have m2 : b.toNat <<< 16 % 2 ^ 32 = b.toNat <<< 16 := by rw [Nat.shiftLeft_eq]; omega
  have m3 : c.toNat <<< 8 % 2 ^ 32 = c.toNat <<< 8 := by rw [Nat.shiftLeft_eq]; omega
  rw [m1, m2, m3, ← e1, ← e2, ← e3]
  simp only [Nat.shiftLeft_eq]
  omega
attribute [local go_sem] wn_add wn_xor wn_and wn_or wn_shr wn_shl bn_wide
set_option maxHeartbeats 400000 in
theorem refror_any (x : BitVec 32) (a : Nat) (h1 : 1 ≤ a) (h2 : a ≤ 31) (w : World) :
    Calls Tryd.prog 99 #[.int .u32 (wn x), .int .i64 (a : Int)] w fun e w' => e = .returned (.int .u32 (wn (ror x a))) ∧ Below w.heap.size w w' := by
  have s4 : 32 - a ≤ 32 := by omega
  have o1 : bits .or .u32 (wn (x >>> a)) (wn (x <<< (32 - a))) = wn (ror x a) := by rw [wn_or]; rfl
  have e5 : (32 : Int) - (a : Int) = ((32 - a : Nat) : Int) := by omega
  go_enter Tryd.func99, Tryd.ntmps99
  go_wp2_with fail
  go_quiet (fail)
  go_wp2
  go_ret
  exact ⟨rfl, below_drewN' _ _ _⟩
def wRow (M : List (BitVec 32)) (t i : Nat) : Value := .int .u32 (wn (if i < t then sched M i else 0))
def zero64 : List Value := List.replicate 64 (.int .u32 0)
theorem words_start (w : World) (M : List (BitVec 32)) : ((w.alloc (.cells zero64.toArray 146)).alloc (.cells zero64.toArray 146)).rowIs (w.heap.size + 1) 146 64 (wRow M 0) ∧
    ((w.alloc (.cells zero64.toArray 146)).alloc (.cells zero64.toArray 146)).heap[w.heap.size]? = some (.cells zero64.toArray 146 (0, 0)) ∧ Aft w ((w.alloc (.cells zero64.toArray 146)).alloc (.cells zero64.toArray 146)) := by
  have a0 := heap_alloc_new w (.cells zero64.toArray 146)
  have a1 := heap_alloc_new (w.alloc (.cells zero64.toArray 146)) (.cells zero64.toArray 146)
  rw [World.size_alloc] at a1
  refine ⟨⟨_, a1, by simp [zero64], fun i hi => ?_⟩, Aft.get (Aft.alloc _ _) a0, Aft.trans (Aft.alloc _ _) (Aft.alloc _ _)⟩
  unfold zero64 wRow
  rw [List.getElem?_toArray, List.getElem?_replicate_of_lt hi, if_neg (by omega)]
  rfl
theorem wRow_step (M : List (BitVec 32)) (t : Nat) (x : BitVec 32) (hx : x = sched M t) : ∀ j, j < 64 → (if j = t then Value.int .u32 (wn x) else wRow M t j) = wRow M (t + 1) j := by
  intro j _
  unfold wRow
  by_cases h : j = t
  · subst h; rw [if_pos rfl, if_pos (by omega), hx]
  · rw [if_neg h]
    by_cases h2 : j < t
    · rw [if_pos h2, if_pos (by omega)]
    · rw [if_neg h2, if_neg (by omega)]
theorem wn_shr_3 (x : BitVec 32) : wn x / (8 : Int) = wn (x >>> 3) := wn_shr x 3
theorem wn_shr_10 (x : BitVec 32) : wn x / (1024 : Int) = wn (x >>> 10) := wn_shr x 10
def schedArr (M : List (BitVec 32)) : Array Value := ((List.range 64).map fun i => Value.int .u32 (wn (sched M i))).toArray
def bwords (b : List (BitVec 8)) : List (BitVec 32) := blockWords fun i => b.getD i 0
theorem bwords_at (b : List (BitVec 8)) (t : Nat) (h : t < 16) : (bwords b).getD t 0 = word4 (b.getD (4 * t) 0) (b.getD (4 * t + 1) 0) (b.getD (4 * t + 2) 0) (b.getD (4 * t + 3) 0) := blockWords_at _ t h
theorem schedArr_at (M : List (BitVec 32)) (i : Nat) (hi : i < 64) : (schedArr M)[i]? = some (.int .u32 (wn (sched M i))) := by simp [schedArr, hi]
theorem schedArr_size (M : List (BitVec 32)) : (schedArr M).size = 64 := by simp [schedArr]
theorem schedArr_one (M : List (BitVec 32)) : (schedArr M).all (·.oneCell') = true := by simp [schedArr, Value.oneCell']
theorem words_end {w : World} {g : Nat} {M : List (BitVec 32)} (h : w.rowIs g 146 64 (wRow M 64)) : w.heap[g]? = some (.cells (schedArr M) 146 (0, 0)) := by
  obtain ⟨cs, h1, h2, h3⟩ := h
  rw [h1]
  congr 2
  apply Array.ext_getElem?
  intro i
  by_cases hi : i < 64
  · rw [h3 i hi]
    unfold wRow
    rw [if_pos hi]
    rw [schedArr_at M i hi]
  · rw [Array.getElem?_eq_none (by omega), Array.getElem?_eq_none (by rw [schedArr_size]; omega)]
attribute [local go_sem] wn_shl24 wn_shl16 wn_shl8 word4_add wn_shr_3 wn_shr_10
set_option maxRecDepth 100000 in
set_option maxHeartbeats 2000000 in
theorem words_any (g o n c : Nat) (b : List (BitVec 8)) (w : World) (hb : Rd w (.slice (some ⟨g, o, none⟩) n c) (bv b)) (h64 : 64 ≤ b.length) :
    Calls Tryd.prog 98 #[.slice (some ⟨g, o, none⟩) n c] w fun e w' => e = .returned (.agg (schedArr (bwords b))) ∧ Below w.heap.size w w' := by
  have HB := Lib.hid hb
  have hn := hb.sl
  rw [bv_length] at hn
  obtain ⟨hn1, -, -⟩ := hn
  clear hb
  go_enter Tryd.func98, Tryd.ntmps98
  go_wp2_with fail
  go_loopw [10] (fun v10 wr => ∃ t : Nat, t ≤ 16 ∧ v10 = .int .i64 t ∧ wr.rowIs (w.heap.size + 1) 146 64 (wRow (bwords b) t) ∧ wr.heap[w.heap.size]? = some (.cells zero64.toArray 146 (0, 0)) ∧ Aft w wr) (fun v _ => 16 - (intOf v).toNat)
  case atStart =>
    obtain ⟨s1, s2, s3⟩ := words_start w (bwords b)
    exact ⟨0, by omega, rfl, s1, s2, s3⟩
  case round =>
    obtain ⟨t, ht, rfl, hrow, hz, hbw⟩ := hrel
    by_cases hlt : t < 16
    · have hlt' : (t : Int) < 16 := by omega
      have HRow := Lib.hid hrow
      have HZ := Lib.hid hz
      have HBw := Lib.hid hbw
      have hrd := HB.out.grow hbw
      have HRd := Lib.hid hrd
      clear hrow hz hbw hrd
      go_wp2_with fail
      refine wp_region_lexF (fun i => ([] : List Nat).getD i 0) 35 (by kernel_rfl) (by kernel_rfl) ?_; intro wi hwi
      have HWi := Lib.hid (show Aft wr wi by rw [hwi]; exact (Below.refl _ _).drew)
      clear hwi
      have c0 := fun u : Later wi.heap.size wi => (HRd.out.grow (Aft.trans HWi.out u.h)).cell_at (i := 4 * t) (by omega)
      have c1 := fun u : Later wi.heap.size wi => (HRd.out.grow (Aft.trans HWi.out u.h)).cell_at (i := 4 * t + 1) (by omega)
      have c2 := fun u : Later wi.heap.size wi => (HRd.out.grow (Aft.trans HWi.out u.h)).cell_at (i := 4 * t + 2) (by omega)
      have c3 := fun u : Later wi.heap.size wi => (HRd.out.grow (Aft.trans HWi.out u.h)).cell_at (i := 4 * t + 3) (by omega)
      have i0 : (4 * (t : Int)).toNat = 4 * t := by omega
      have i1 : (4 * (t : Int) + 1).toNat = 4 * t + 1 := by omega
      have i2 : (4 * (t : Int) + 2).toNat = 4 * t + 2 := by omega
      have i3 : (4 * (t : Int) + 3).toNat = 4 * t + 3 := by omega
      have l3 : 4 * (t : Int) + 3 < (n : Int) := by omega
      have hx := sched_low (bwords b) (blockWords_length _) t hlt
      rw [bwords_at _ t hlt] at hx
      have HX := Lib.hid hx
      clear hx
      generalize b.getD (4 * t) 0 = b0 at *
      generalize b.getD (4 * t + 1) 0 = b1 at *
      generalize b.getD (4 * t + 2) 0 = b2 at *
      generalize b.getD (4 * t + 3) 0 = b3 at *
      repeat (first | (refine lf_skip (by go_big_quiet_skip; exact wpQuiet_nil trivial) (by kernel_rfl) ?_; simp only [Act.put, List.setIfInBounds_toArray, List.set_cons_succ, List.set_cons_zero]) | (refine lf_quiet rfl (by go_big_quiet_want; exact quiet_false (by assumption)) (by kernel_rfl) rfl ?_; intro Kx hKx; go_big_quiet_op; go_big_quiet_on))
      refine lf_done ?_
      intro wj hj
      have HWj := Lib.hid (Aft.trans HWi.out hj)
      have HRj := Lib.hid (HRow.out.of_block (Below.block HWj.out _ HRow.out.lt))
      have hcj := HRj.out.cell (i := t) (by omega)
      have hfj := HRj.out.frozen t
      clear hj c0 c1 c2 c3
      go_wp2_with fail
      go_roundw
      case rel =>
        exact ⟨t + 1, by omega, by go_num, (World.rowIs.set HRj.out t _).congr (wRow_step _ t _ HX.out.symm), (Below.heap_setCell _ _ _ _ (show w.heap.size ≠ w.heap.size + 1 by omega)).trans (Aft.get HWj.out HZ.out), aft_set (Aft.trans HBw.out HWj.out) (show w.heap.size ≤ w.heap.size + 1 by omega) _⟩
      case measure => simp [intOf]; omega
    · obtain rfl : t = 16 := by omega
      have hlt' : ¬ ((16 : Nat) : Int) < 16 := by omega
      go_wp2_with fail
      go_loopw [5] (fun v5 wr => ∃ t : Nat, 16 ≤ t ∧ t ≤ 64 ∧ v5 = .int .i64 t ∧ wr.rowIs (w.heap.size + 1) 146 64 (wRow (bwords b) t) ∧ wr.heap[w.heap.size]? = some (.cells zero64.toArray 146 (0, 0)) ∧ Aft w wr) (fun v _ => 64 - (intOf v).toNat)
      case atStart => exact ⟨16, by omega, by omega, rfl, hrow, hz, hbw⟩
      case round =>
        clear hrow hz hbw
        obtain ⟨t, ht0, ht, rfl, hrow, hz, hbw⟩ := hrel
        by_cases hlt : t < 64
        · have hlt' : (t : Int) < 64 := by omega
          have hM : (bwords b).length = 16 := blockWords_length _
          have hsh := sched_high (bwords b) hM (t - 16)
          rw [show t - 16 + 16 = t by omega, show t - 16 + 1 = t - 15 by omega, show t - 16 + 9 = t - 7 by omega, show t - 16 + 14 = t - 2 by omega] at hsh
          generalize (bwords b) = M at *
          have g15 := hrow.cell (i := t - 15) (by omega)
          have g2 := hrow.cell (i := t - 2) (by omega)
          unfold wRow at g15 g2
          rw [if_pos (by omega)] at g15 g2
          have i15 : ((t : Int) - 15).toNat = t - 15 := by omega
          have i2 : ((t : Int) - 2).toNat = t - 2 := by omega
          have HRow := Lib.hid hrow
          have HZ := Lib.hid hz
          have HBw := Lib.hid hbw
          have HSH := Lib.hid hsh
          clear hrow hz hbw hsh
          go_wp2_with fail
          refine (refror_any _ 7 (by omega) (by omega) _).mono ?_
          rintro e wa ⟨rfl, ha⟩
          have HA := Lib.hid (show Aft wr wa from ha)
          clear ha
          go_wp2_with fail
          refine (refror_any _ 18 (by omega) (by omega) _).mono ?_
          rintro e wb ⟨rfl, hb⟩
          have HBb := Lib.hid (Aft.trans HA.out hb)
          clear hb
          go_wp2_with fail
          refine (refror_any _ 17 (by omega) (by omega) _).mono ?_
          rintro e wc ⟨rfl, hc⟩
          have HC := Lib.hid (Aft.trans HBb.out hc)
          clear hc
          go_wp2_with fail
          refine (refror_any _ 19 (by omega) (by omega) _).mono ?_
          rintro e wd ⟨rfl, hd⟩
          have HD := Lib.hid (Aft.trans HC.out hd)
          clear hd
          go_wp2_with fail
          refine wp_region_lexF (fun i => ([] : List Nat).getD i 0) 15 (by kernel_rfl) (by kernel_rfl) ?_; intro wi hwi
          have HWi := Lib.hid (show Aft wr wi by rw [hwi]; exact Aft.trans HD.out ((Below.refl _ _).drew))
          clear hwi
          have c16 := fun u : Later wi.heap.size wi => World.rowIs.cell (HRow.out.of_block (Below.block (Aft.trans HWi.out u.h) _ HRow.out.lt)) (i := t - 16) (by omega)
          have c7 := fun u : Later wi.heap.size wi => World.rowIs.cell (HRow.out.of_block (Below.block (Aft.trans HWi.out u.h) _ HRow.out.lt)) (i := t - 7) (by omega)
          simp only [wRow, show t - 16 < t by omega, show t - 7 < t by omega, if_true] at c16 c7
          have i16 : ((t : Int) - 16).toNat = t - 16 := by omega
          have i7 : ((t : Int) - 7).toNat = t - 7 := by omega
          repeat (first | (refine lf_skip (by go_big_quiet_skip; exact wpQuiet_nil trivial) (by kernel_rfl) ?_; simp only [Act.put, List.setIfInBounds_toArray, List.set_cons_succ, List.set_cons_zero]) | (refine lf_quiet rfl (by go_big_quiet_want; exact quiet_false (by assumption)) (by kernel_rfl) rfl ?_; intro Kx hKx; go_big_quiet_op; go_big_quiet_on))
          refine lf_done ?_
          intro wj hj
          have HWj := Lib.hid (Aft.trans HWi.out hj)
          have HRj := Lib.hid (HRow.out.of_block (Below.block HWj.out _ HRow.out.lt))
          have hcj := HRj.out.cell (i := t) (by omega)
          have hfj := HRj.out.frozen t
          clear hj c16 c7 g15 g2
          go_wp2_with fail
          go_roundw
          case rel =>
            exact ⟨t + 1, by omega, by omega, by go_num, (World.rowIs.set HRj.out t _).congr (wRow_step _ t _ (by rw [HSH.out]; simp only [rorx2s, BitVec.add_assoc])), (Below.heap_setCell _ _ _ _ (show w.heap.size ≠ w.heap.size + 1 by omega)).trans (Aft.get HWj.out HZ.out), aft_set (Aft.trans HBw.out HWj.out) (show w.heap.size ≤ w.heap.size + 1 by omega) _⟩
          case measure => simp [intOf]; omega
        · obtain rfl : t = 64 := by omega
          have hlt' : ¬ ((64 : Nat) : Int) < 64 := by omega
          generalize hMM : bwords b = M at *
          have HMM := Lib.hid hMM
          have HW := Lib.hid (words_end hrow)
          have HZ := Lib.hid hz
          have HBw := Lib.hid hbw
          have hsz := schedArr_size M
          have h1c := schedArr_one M
          generalize hA : schedArr M = A at *
          have HA := Lib.hid hA
          have hi64 : (Tryd.prog.info? 146).map (·.size) = some A.size := by rw [hsz]; kernel_rfl
          have HI64 := Lib.hid hi64
          have HSz := Lib.hid hsz
          have H1c := Lib.hid h1c
          clear hrow hz hbw hsz h1c hi64 hA hMM
          go_wp2_with (first
            | (refine wpList_load_row rfl 146 (.tmp 3) rfl (w.heap.size + 1) rfl 146 A (0, 0) _ HW.out Tryd.underlying146 rfl HI64.out ?_)
            | (refine wpList_store_rowX rfl 146 (.tmp 2) (.tmp 92) rfl w.heap.size A rfl rfl 146 zero64.toArray HZ.out HI64.out (by rw [HSz.out]; rfl) H1c.out ?_; intro wk q2 q3; have HKk := Lib.hid q2.out; have HBk := Lib.hid (q3 w.heap.size w (Nat.le_refl _) HBw.out); clear q2 q3))
          refine bodyPost_ret (results_cell_row rfl _ _ w.heap.size 146 A (0, 0) _ rfl HKk.out Tryd.underlying146 rfl HI64.out) rfl ?_
          exact ⟨by rw [HMM.out, HA.out], HBk.out⟩
end Go.Proofs.YtdbhlajajdlmfaaDoor
/- coterieref02.Block: the document's block. -/
namespace Go.Proofs.YtdbhlajajdlmfaaDoor
open Go Go.RowKit
theorem ch_eq (e f g : BitVec 32) : (e &&& f) ^^^ (~~~e &&& g) = g ^^^ (e &&& (f ^^^ g)) := by
  apply BitVec.eq_of_getLsbD_eq
  intro i hi
  simp only [BitVec.getLsbD_xor, BitVec.getLsbD_and, BitVec.getLsbD_not, hi, decide_true, Bool.true_and]
  cases e.getLsbD i <;> cases f.getLsbD i <;> cases g.getLsbD i <;> rfl
theorem maj_eq (a b c : BitVec 32) : (a &&& b) ^^^ (a &&& c) ^^^ (b &&& c) = a &&& b ||| c &&& (a ||| b) := by
  apply BitVec.eq_of_getLsbD_eq
  intro i hi
  simp only [BitVec.getLsbD_xor, BitVec.getLsbD_and, BitVec.getLsbD_or]
  cases a.getLsbD i <;> cases b.getLsbD i <;> cases c.getLsbD i <;> rfl
def stArr (s : St) : Array Value := #[.int .u32 (wn s.a), .int .u32 (wn s.b), .int .u32 (wn s.c), .int .u32 (wn s.d), .int .u32 (wn s.e), .int .u32 (wn s.f), .int .u32 (wn s.g), .int .u32 (wn s.h)]
theorem st_cells8 {w : World} {g t : Nat} {s : St} {fr : Nat × Nat} (h : w.heap[g]? = some (.cells (stArr s) t fr)) : w.cell? ⟨g, 0, none⟩ = some (.int .u32 (wn s.a)) ∧ w.cell? ⟨g, 1, none⟩ = some (.int .u32 (wn s.b)) ∧ w.cell? ⟨g, 2, none⟩ = some (.int .u32 (wn s.c)) ∧ w.cell? ⟨g, 3, none⟩ = some (.int .u32 (wn s.d)) ∧
    w.cell? ⟨g, 4, none⟩ = some (.int .u32 (wn s.e)) ∧ w.cell? ⟨g, 5, none⟩ = some (.int .u32 (wn s.f)) ∧ w.cell? ⟨g, 6, none⟩ = some (.int .u32 (wn s.g)) ∧ w.cell? ⟨g, 7, none⟩ = some (.int .u32 (wn s.h)) := by
  simp [World.cell?, h, stArr]
theorem stArr_size (s : St) : (stArr s).size = 8 := rfl
theorem st_info (s : St) : (Tryd.prog.info? 96).map (·.size) = some (stArr s).size := by rw [stArr_size]; kernel_rfl
theorem stArr_one (s : St) : (stArr s).all (·.oneCell') = true := by kernel_rfl
theorem tab_cell {K : Nat → BitVec 32} {g : Nat} {w : World} (h : TabK K g w) {i : Nat} (hi : i < 64) : w.cell? ⟨g, i, none⟩ = some (.int .u32 (wn (K i))) := by
  obtain ⟨T, cs, fr, h1, h2, h3⟩ := h
  rw [cell_of_row w g i _ _ _ h1]
  exact h3 i hi
theorem row_cell {w : World} {g t : Nat} {cs : Array Value} {fr : Nat × Nat} (h : w.heap[g]? = some (.cells cs t fr)) {i : Nat} {v : Value} (hv : cs[i]? = some v) : w.cell? ⟨g, i, none⟩ = some v := by
  rw [cell_of_row w g i _ _ _ h]
  exact hv
theorem wn_not (x : BitVec 32) : bits .xor .u32 (if IntKind.u32.signed = true then -1 else IntKind.u32.max) (wn x) = wn (~~~x) := by
  have e : (if IntKind.u32.signed = true then (-1 : Int) else IntKind.u32.max) = wn (BitVec.allOnes 32) := by decide
  rw [e, wn_xor, BitVec.allOnes_xor]
theorem TabK_below {K : Nat → BitVec 32} {g k : Nat} {w w' : World} (h : TabK K g w) (hb : Below k w w') (hk : g < k) : TabK K g w' := by
  obtain ⟨T, cs, fr, h1, h2⟩ := h
  exact ⟨T, cs, fr, (hb.block g hk).trans h1, h2⟩
def plusRow (s v : St) (i j : Nat) : Value := .int .u32 (wn (if j < i then s.at j + v.at j else s.at j))
theorem plus_start {w : World} {g t : Nat} {s v : St} (h : w.heap[g]? = some (.cells (stArr s) t (0, 0))) : w.rowIs g t 8 (plusRow s v 0) :=
  ⟨_, h, rfl, fun i hi => by
    unfold plusRow
    rw [if_neg (by omega)]
    match i, hi with
    | 0, _ => rfl
    | 1, _ => rfl
    | 2, _ => rfl
    | 3, _ => rfl
    | 4, _ => rfl
    | 5, _ => rfl
    | 6, _ => rfl
    | 7, _ => rfl⟩
theorem plus_step (s v : St) (i : Nat) : ∀ j, j < 8 → (if j = i then Value.int .u32 (wn (s.at i + v.at i)) else plusRow s v i j) = plusRow s v (i + 1) j := by
  intro j _
  unfold plusRow
  by_cases h : j = i
  · subst h; rw [if_pos rfl, if_pos (by omega)]
  · rw [if_neg h]
    by_cases h2 : j < i
    · rw [if_pos h2, if_pos (by omega)]
    · rw [if_neg h2, if_neg (by omega)]
theorem plus_end {w : World} {g t : Nat} {s v : St} (h : w.rowIs g t 8 (plusRow s v 8)) : w.heap[g]? = some (.cells (stArr (s.plus v)) t (0, 0)) := by
  obtain ⟨cs, h1, h2, h3⟩ := h
  rw [h1]
  congr 2
  apply Array.ext_getElem?
  intro i
  by_cases hi : i < 8
  · rw [h3 i hi]
    unfold plusRow
    rw [if_pos hi]
    match i, hi with
    | 0, _ => rfl
    | 1, _ => rfl
    | 2, _ => rfl
    | 3, _ => rfl
    | 4, _ => rfl
    | 5, _ => rfl
    | 6, _ => rfl
    | 7, _ => rfl
  · rw [Array.getElem?_eq_none (by omega), Array.getElem?_eq_none (by show 8 ≤ i; omega)]
theorem stArr_at (s : St) (i : Nat) (hi : i < 8) : (stArr s)[i]? = some (.int .u32 (wn (s.at i))) := by
  match i, hi with
  | 0, _ => rfl
  | 1, _ => rfl
  | 2, _ => rfl
  | 3, _ => rfl
  | 4, _ => rfl
  | 5, _ => rfl
  | 6, _ => rfl
  | 7, _ => rfl
def byteAt (b : List (BitVec 8)) : Nat → BitVec 8 := fun i => b.getD i 0
def zero8 : Array Value := #[.int .u32 0, .int .u32 0, .int .u32 0, .int .u32 0, .int .u32 0, .int .u32 0, .int .u32 0, .int .u32 0]
attribute [local go_sem] wn_add wn_xor wn_and wn_or wn_not ch_eq maj_eq
set_option maxRecDepth 100000 in
set_option maxHeartbeats 4000000 in
theorem block_any (s : St) (g o n c : Nat) (b : List (BitVec 8)) (w : World) (hK : TabK K0 0 w) (hb : Rd w (.slice (some ⟨g, o, none⟩) n c) (bv b)) (h64 : 64 ≤ b.length) :
    Calls Tryd.prog 77 #[.agg (stArr s), .slice (some ⟨g, o, none⟩) n c] w fun e w' => e = .returned (.agg (stArr (mixed K0 s (byteAt b)))) ∧ Below w.heap.size w w' := by
  have HK := Lib.hid hK
  have HB := Lib.hid hb
  clear hK hb
  go_enter Tryd.func77, Tryd.ntmps77
  go_wp2_with fail
  have ha := Aft.trans (Aft.alloc w (.cells (stArr s) 96)) (Aft.alloc (w.alloc (.cells (stArr s) 96)) (.cells zero8 96))
  have h0 := Aft.get (Aft.alloc (w.alloc (.cells (stArr s) 96)) (.cells zero8 96)) (heap_alloc_new w (.cells (stArr s) 96))
  have h1 := heap_alloc_new (w.alloc (.cells (stArr s) 96)) (.cells zero8 96)
  rw [World.size_alloc] at h1
  have hw := words_any g o n c b ((w.alloc (.cells (stArr s) 96)).alloc (.cells zero8 96)) (HB.out.grow ha) h64
  have HM : Hid (bwords b = blockWords (byteAt b)) := rfl
  generalize bwords b = M at *
  have HW := Lib.hid hw
  have HA := Lib.hid ha
  have H0 := Lib.hid h0
  have H1 := Lib.hid h1
  clear hw ha h0 h1
  refine HW.out.mono ?_
  rintro e w3 ⟨rfl, hb3⟩
  have HA3 := Lib.hid (show Aft w w3 from Aft.trans HA.out hb3)
  have H03 := Lib.hid (Aft.get hb3 H0.out)
  have H13 := Lib.hid (Aft.get hb3 H1.out)
  have HS3 := Lib.hid (heap_alloc_new w3 (.cells zero64.toArray 146))
  have HSz := Lib.hid (schedArr_size M)
  have HI64 := Lib.hid (show (Tryd.prog.info? 146).map (·.size) = some (schedArr M).size by rw [HSz.out]; kernel_rfl)
  have HZ8 := Lib.hid (fun wx : World => heap_alloc_new wx (.cells zero8 96))
  clear hb3
  go_wp2_with (first
    | (refine wpList_store_rowX rfl 146 (.tmp 5) (.tmp 14) rfl w3.heap.size (schedArr M) rfl rfl 146 zero64.toArray HS3.out HI64.out (by rw [HSz.out]; rfl) (schedArr_one M) ?_; intro w4 q2 q3; have HM4 := Lib.hid q2.out; have HA4 := Lib.hid (show Aft w w4 from q3 w.heap.size w (Below.size HA3.out) (Below.alloc HA3.out (Below.size HA3.out) _)); have h34 := (show Aft w3 w4 from q3 w3.heap.size w3 (Nat.le_refl _) (Below.alloc (Below.refl _ _) (Nat.le_refl _) _)); have H04 := Lib.hid (Aft.get h34 H03.out); have H14 := Lib.hid (Aft.get h34 H13.out); clear q2 q3 h34)
    | (refine wpList_load_row rfl 96 (.tmp 2) rfl w.heap.size rfl 96 (stArr s) (0, 0) _ H04.out Tryd.underlying96 rfl (st_info _) ?_)
    | (refine wpList_store_rowX rfl 96 (.tmp 6) (.tmp 15) rfl w4.heap.size (stArr s) rfl rfl 96 zero8 (HZ8.out w4) (st_info _) (by rw [stArr_size]; rfl) (stArr_one s) ?_; intro w5 q2 q3; have HV5 := Lib.hid q2.out; have h45 := (show Aft w4 w5 from q3 w4.heap.size w4 (Nat.le_refl _) (Below.alloc (Below.refl _ _) (Nat.le_refl _) _)); have HA5 := Lib.hid (Aft.trans HA4.out h45); have H05 := Lib.hid (Aft.get h45 H04.out); have H15 := Lib.hid (Aft.get h45 H14.out); have HM5 := Lib.hid (Aft.get h45 HM4.out); have HL5 := Lib.hid (heap_lt HM4.out); clear q2 q3 h45))
  go_loopw [16] (fun v16 wr => ∃ t : Nat, t ≤ 64 ∧ v16 = .int .i64 t ∧ wr.heap[w4.heap.size]? = some (.cells (stArr (rounds K0 M s t)) 96 (0, 0)) ∧ Below w4.heap.size w5 wr) (fun v _ => 64 - (intOf v).toNat)
  case atStart => exact ⟨0, by omega, rfl, HV5.out, Below.refl _ _⟩
  case round =>
    obtain ⟨t, ht, rfl, hv, hfr⟩ := hrel
    have HV := Lib.hid hv
    have HF := Lib.hid hfr
    have hgk : 0 < w4.heap.size := by obtain ⟨_, _, _, h, _⟩ := HK.out; have := heap_lt h; have := Below.size HA4.out; omega
    have HKr := Lib.hid (TabK_below (TabK_below HK.out HA5.out (by obtain ⟨_, _, _, h, _⟩ := HK.out; exact heap_lt h)) hfr hgk)
    have HMr := Lib.hid ((hfr.block w3.heap.size HL5.out).trans HM5.out)
    clear hv hfr hgk
    by_cases hlt : t < 64
    · have hlt' : (t : Int) < 64 := by omega
      have HR : Hid (rounds K0 M s (t + 1) = rnd (rounds K0 M s t) (K0 t) (sched M t)) := rfl
      generalize hvv : rounds K0 M s t = v at *
      have hsa := schedArr_at M t hlt
      have htk := fun (wx : World) (h : TabK K0 0 wx) => tab_cell h hlt
      generalize K0 t = kt at *
      generalize sched M t = wt at *
      have HSA := Lib.hid hsa
      have HTK := Lib.hid htk
      clear hvv hsa htk
      go_wp2_with fail
      refine wp_region_lexF (fun i => ([] : List Nat).getD i 0) 6 (by kernel_rfl) (by kernel_rfl) ?_; intro wi hwi
      have HWi := Lib.hid (show Aft wr wi by rw [hwi]; exact (Below.refl _ _).drew)
      clear hwi
      have L := fun u : Later wi.heap.size wi => st_cells8 (Aft.get (Aft.trans HWi.out u.h) HV.out)
      simp only [forall_and] at L
      obtain ⟨e0, e1, e2, e3, e4, e5, e6, e7⟩ := L
      repeat (first | (refine lf_skip (by go_big_quiet_skip; exact wpQuiet_nil trivial) (by kernel_rfl) ?_; simp only [Act.put, List.setIfInBounds_toArray, List.set_cons_succ, List.set_cons_zero]) | (refine lf_quiet rfl (by go_big_quiet_want; exact quiet_false (by assumption)) (by kernel_rfl) rfl ?_; intro Kx hKx; go_big_quiet_op; go_big_quiet_on))
      refine lf_done ?_
      intro wj hj
      have HWj := Lib.hid (Aft.trans HWi.out hj)
      clear hj e0 e1 e2 e3 e4 e5 e6 e7
      go_wp2_with fail
      refine wp_region_lexF (fun i => ([0, 0, 0, 2, 0, 2, 0, 0, 2] : List Nat).getD i 0) 31 (by kernel_rfl) (by kernel_rfl) ?_; intro wk hwk
      have HWk := Lib.hid (show Aft wr wk by rw [hwk]; exact Aft.trans HWj.out ((Below.refl _ _).drew))
      clear hwk
      have L := fun u : Later wk.heap.size wk => st_cells8 (Aft.get (Aft.trans HWk.out u.h) HV.out)
      simp only [forall_and] at L
      obtain ⟨e0, e1, e2, e3, e4, e5, e6, e7⟩ := L
      have ck := fun u : Later wk.heap.size wk => HTK.out _ (TabK_fr HKr.out (Fr.of_below (S := fun _ => False) (Aft.trans HWk.out u.h)) (fun h => h))
      have cm := fun u : Later wk.heap.size wk => row_cell (Aft.get (Aft.trans HWk.out u.h) HMr.out) HSA.out
      repeat (first | (refine lf_skip (by go_big_quiet_skip; exact wpQuiet_nil trivial) (by kernel_rfl) ?_; simp only [Act.put, List.setIfInBounds_toArray, List.set_cons_succ, List.set_cons_zero]) | (refine lf_quiet rfl (by go_big_quiet_want; exact quiet_false (by assumption)) (by kernel_rfl) rfl ?_; intro Kx hKx; go_big_quiet_op; go_big_quiet_on))
      refine lf_eff rfl (by go_big_quiet_want; exact quiet_false (by assumption)) (by kernel_rfl) ?_; intro wl hl Kx hKx; go_wp2_with fail
      refine (refror_any _ 6 (by omega) (by omega) _).mono ?_
      rintro e wm0 ⟨rfl, hm⟩
      have HC0 := Lib.hid (Aft.trans HWk.out (Aft.trans hl hm))
      go_wp2_with fail
      refine ⟨hm, ?_⟩
      clear hm hl
      repeat (first | (refine lf_skip (by go_big_quiet_skip; exact wpQuiet_nil trivial) (by kernel_rfl) ?_; simp only [Act.put, List.setIfInBounds_toArray, List.set_cons_succ, List.set_cons_zero]) | (refine lf_quiet rfl (by go_big_quiet_want; exact quiet_false (by assumption)) (by kernel_rfl) rfl ?_; intro Kx hKx; go_big_quiet_op; go_big_quiet_on))
      refine lf_eff rfl (by go_big_quiet_want; exact quiet_false (by assumption)) (by kernel_rfl) ?_; intro wl hl Kx hKx; go_wp2_with fail
      refine (refror_any _ 11 (by omega) (by omega) _).mono ?_
      rintro e wm1 ⟨rfl, hm⟩
      have HC1 := Lib.hid (Aft.trans HC0.out (Aft.trans hl hm))
      go_wp2_with fail
      refine ⟨hm, ?_⟩
      clear hm hl
      repeat (first | (refine lf_skip (by go_big_quiet_skip; exact wpQuiet_nil trivial) (by kernel_rfl) ?_; simp only [Act.put, List.setIfInBounds_toArray, List.set_cons_succ, List.set_cons_zero]) | (refine lf_quiet rfl (by go_big_quiet_want; exact quiet_false (by assumption)) (by kernel_rfl) rfl ?_; intro Kx hKx; go_big_quiet_op; go_big_quiet_on))
      refine lf_eff rfl (by go_big_quiet_want; exact quiet_false (by assumption)) (by kernel_rfl) ?_; intro wl hl Kx hKx; go_wp2_with fail
      refine (refror_any _ 25 (by omega) (by omega) _).mono ?_
      rintro e wm2 ⟨rfl, hm⟩
      have HC2 := Lib.hid (Aft.trans HC1.out (Aft.trans hl hm))
      go_wp2_with fail
      refine ⟨hm, ?_⟩
      clear hm hl
      repeat (first | (refine lf_skip (by go_big_quiet_skip; exact wpQuiet_nil trivial) (by kernel_rfl) ?_; simp only [Act.put, List.setIfInBounds_toArray, List.set_cons_succ, List.set_cons_zero]) | (refine lf_quiet rfl (by go_big_quiet_want; exact quiet_false (by assumption)) (by kernel_rfl) rfl ?_; intro Kx hKx; go_big_quiet_op; go_big_quiet_on))
      refine lf_done ?_
      intro wn1 hn1
      have HN1 := Lib.hid (Aft.trans HC2.out hn1)
      clear hn1 e0 e1 e2 e3 e4 e5 e6 e7 ck cm
      go_wp2_with fail
      refine wp_region_lexF (fun i => ([0, 2, 0, 2, 0, 0, 2] : List Nat).getD i 0) 25 (by kernel_rfl) (by kernel_rfl) ?_; intro wo hwo
      have HWo := Lib.hid (show Aft wr wo by rw [hwo]; exact Aft.trans HN1.out ((Below.refl _ _).drew))
      clear hwo
      have L := fun u : Later wo.heap.size wo => st_cells8 (Aft.get (Aft.trans HWo.out u.h) HV.out)
      simp only [forall_and] at L
      obtain ⟨e0, e1, e2, e3, e4, e5, e6, e7⟩ := L
      repeat (first | (refine lf_skip (by go_big_quiet_skip; exact wpQuiet_nil trivial) (by kernel_rfl) ?_; simp only [Act.put, List.setIfInBounds_toArray, List.set_cons_succ, List.set_cons_zero]) | (refine lf_quiet rfl (by go_big_quiet_want; exact quiet_false (by assumption)) (by kernel_rfl) rfl ?_; intro Kx hKx; go_big_quiet_op; go_big_quiet_on))
      refine lf_eff rfl (by go_big_quiet_want; exact quiet_false (by assumption)) (by kernel_rfl) ?_; intro wl hl Kx hKx; go_wp2_with fail
      refine (refror_any _ 2 (by omega) (by omega) _).mono ?_
      rintro e wp0 ⟨rfl, hm⟩
      have HP0 := Lib.hid (Aft.trans HWo.out (Aft.trans hl hm))
      go_wp2_with fail
      refine ⟨hm, ?_⟩
      clear hm hl
      repeat (first | (refine lf_skip (by go_big_quiet_skip; exact wpQuiet_nil trivial) (by kernel_rfl) ?_; simp only [Act.put, List.setIfInBounds_toArray, List.set_cons_succ, List.set_cons_zero]) | (refine lf_quiet rfl (by go_big_quiet_want; exact quiet_false (by assumption)) (by kernel_rfl) rfl ?_; intro Kx hKx; go_big_quiet_op; go_big_quiet_on))
      refine lf_eff rfl (by go_big_quiet_want; exact quiet_false (by assumption)) (by kernel_rfl) ?_; intro wl hl Kx hKx; go_wp2_with fail
      refine (refror_any _ 13 (by omega) (by omega) _).mono ?_
      rintro e wp1 ⟨rfl, hm⟩
      have HP1 := Lib.hid (Aft.trans HP0.out (Aft.trans hl hm))
      go_wp2_with fail
      refine ⟨hm, ?_⟩
      clear hm hl
      repeat (first | (refine lf_skip (by go_big_quiet_skip; exact wpQuiet_nil trivial) (by kernel_rfl) ?_; simp only [Act.put, List.setIfInBounds_toArray, List.set_cons_succ, List.set_cons_zero]) | (refine lf_quiet rfl (by go_big_quiet_want; exact quiet_false (by assumption)) (by kernel_rfl) rfl ?_; intro Kx hKx; go_big_quiet_op; go_big_quiet_on))
      refine lf_eff rfl (by go_big_quiet_want; exact quiet_false (by assumption)) (by kernel_rfl) ?_; intro wl hl Kx hKx; go_wp2_with fail
      refine (refror_any _ 22 (by omega) (by omega) _).mono ?_
      rintro e wp2 ⟨rfl, hm⟩
      have HP2 := Lib.hid (Aft.trans HP1.out (Aft.trans hl hm))
      go_wp2_with fail
      refine ⟨hm, ?_⟩
      clear hm hl
      repeat (first | (refine lf_skip (by go_big_quiet_skip; exact wpQuiet_nil trivial) (by kernel_rfl) ?_; simp only [Act.put, List.setIfInBounds_toArray, List.set_cons_succ, List.set_cons_zero]) | (refine lf_quiet rfl (by go_big_quiet_want; exact quiet_false (by assumption)) (by kernel_rfl) rfl ?_; intro Kx hKx; go_big_quiet_op; go_big_quiet_on))
      refine lf_done ?_
      intro wq hq
      have HQ := Lib.hid (Aft.trans HP2.out hq)
      have HVq := Lib.hid (Aft.get HQ.out HV.out)
      have HFq := Lib.hid (show Below w4.heap.size w5 wq from Below.trans HF.out (Below.mono HQ.out (by have := heap_lt HV.out; omega)))
      clear hq e0 e1 e2 e3 e4 e5 e6 e7
      obtain ⟨e0, e1, e2, e3, e4, e5, e6, e7⟩ := st_cells8 HVq.out
      go_wp2_with ((refine wpList_store_rowX rfl 96 (.tmp 6) (.tmp 96) rfl w4.heap.size (stArr (rnd v kt wt)) rfl rfl 96 (stArr v) HVq.out (st_info _) (by rw [stArr_size, stArr_size]) (stArr_one _) ?_; intro wr2 q2 q3; have HV2 := Lib.hid q2.out; have HF2 := Lib.hid (q3 w4.heap.size w5 (Nat.le_refl _) HFq.out); clear q2 q3))
      go_roundw
      case rel => exact ⟨t + 1, by omega, by go_num, by rw [HR.out]; exact HV2.out, HF2.out⟩
      case measure => simp [intOf]; omega
    · obtain rfl : t = 64 := by omega
      have hlt' : ¬ ((64 : Nat) : Int) < 64 := by omega
      have hmx : mixed K0 s (byteAt b) = s.plus (rounds K0 M s 64) := by unfold mixed; rw [HM.out]
      generalize rounds K0 M s 64 = v at *
      have HMX := Lib.hid hmx
      have hl0 : w.heap.size < w5.heap.size := heap_lt H05.out
      have hl6 : w.heap.size + 1 < w4.heap.size := heap_lt H14.out
      have HRr := Lib.hid (plus_start (v := v) ((HF.out.block w.heap.size (by omega)).trans H05.out))
      have HOr := Lib.hid ((HF.out.block (w.heap.size + 1) hl6).trans H15.out)
      have HBr := Lib.hid (show Aft w wr from Below.trans HA5.out (Below.mono HF.out (by omega)))
      have HVb := Lib.hid HV.out
      clear hmx
      go_wp2_with fail
      go_loopw [98] (fun v98 wx => ∃ i : Nat, i ≤ 8 ∧ v98 = .int .i64 i ∧ wx.rowIs w.heap.size 96 8 (plusRow s v i) ∧ wx.heap[w4.heap.size]? = some (.cells (stArr v) 96 (0, 0)) ∧ wx.heap[w.heap.size + 1]? = some (.cells zero8 96 (0, 0)) ∧ Aft w wx) (fun v _ => 8 - (intOf v).toNat)
      case atStart => exact ⟨0, by omega, rfl, HRr.out, HVb.out, HOr.out, HBr.out⟩
      case round =>
        obtain ⟨i, hi, rfl, hrow, hv8, ho8, hb8⟩ := hrel
        have HRow := Lib.hid hrow
        have HV8 := Lib.hid hv8
        have HO8 := Lib.hid ho8
        have HB8 := Lib.hid hb8
        clear hrow hv8 ho8 hb8
        by_cases hlt : i < 8
        · have hlt' : (i : Int) < 8 := by omega
          go_wp2_with fail
          refine wp_region_lexF (fun i => ([] : List Nat).getD i 0) 8 (by kernel_rfl) (by kernel_rfl) ?_; intro wi hwi
          have HWi := Lib.hid (show Aft wr wi by rw [hwi]; exact (Below.refl _ _).drew)
          clear hwi
          have cs := fun u : Later wi.heap.size wi => World.rowIs.cell (HRow.out.of_block (Below.block (Aft.trans HWi.out u.h) _ HRow.out.lt)) (i := i) hlt
          have cv := fun u : Later wi.heap.size wi => row_cell (Aft.get (Aft.trans HWi.out u.h) HV8.out) (stArr_at v i hlt)
          simp only [plusRow, Nat.lt_irrefl, if_false] at cs
          repeat (first | (refine lf_skip (by go_big_quiet_skip; exact wpQuiet_nil trivial) (by kernel_rfl) ?_; simp only [Act.put, List.setIfInBounds_toArray, List.set_cons_succ, List.set_cons_zero]) | (refine lf_quiet rfl (by go_big_quiet_want; exact quiet_false (by assumption)) (by kernel_rfl) rfl ?_; intro Kx hKx; go_big_quiet_op; go_big_quiet_on))
          refine lf_done ?_
          intro wj hj
          have HWj := Lib.hid (Aft.trans HWi.out hj)
          have HRj := Lib.hid (HRow.out.of_block (Below.block HWj.out _ HRow.out.lt))
          have hcj := HRj.out.cell (i := i) hlt
          have hfj := HRj.out.frozen i
          clear hj cs cv
          go_wp2_with fail
          go_roundw
          case rel =>
            exact ⟨i + 1, by omega, by go_num, (World.rowIs.set HRj.out i _).congr (plus_step s v i), (Below.heap_setCell _ _ _ _ (show w4.heap.size ≠ w.heap.size by omega)).trans (Aft.get HWj.out HV8.out), (Below.heap_setCell _ _ _ _ (show w.heap.size + 1 ≠ w.heap.size by omega)).trans (Aft.get HWj.out HO8.out), aft_set (Aft.trans HB8.out HWj.out) (Nat.le_refl _) _⟩
          case measure => simp [intOf]; omega
        · obtain rfl : i = 8 := by omega
          have hlt' : ¬ ((8 : Nat) : Int) < 8 := by omega
          have HE := Lib.hid (plus_end HRow.out)
          go_wp2_with (first
            | (refine wpList_load_row rfl 96 (.tmp 2) rfl w.heap.size rfl 96 (stArr (s.plus v)) (0, 0) _ HE.out Tryd.underlying96 rfl (st_info _) ?_)
            | (refine wpList_store_rowX rfl 96 (.tmp 4) (.tmp 110) rfl (w.heap.size + 1) (stArr (s.plus v)) rfl rfl 96 zero8 HO8.out (st_info _) (by rw [stArr_size]; rfl) (stArr_one _) ?_; intro wk q2 q3; have HKk := Lib.hid q2.out; have HBk := Lib.hid (q3 w.heap.size w (by omega) HB8.out); clear q2 q3))
          refine bodyPost_ret (results_cell_row rfl _ _ (w.heap.size + 1) 96 (stArr (s.plus v)) (0, 0) _ rfl HKk.out Tryd.underlying96 rfl (st_info _)) rfl ?_
          exact ⟨by rw [HMX.out], HBk.out⟩
end Go.Proofs.YtdbhlajajdlmfaaDoor
