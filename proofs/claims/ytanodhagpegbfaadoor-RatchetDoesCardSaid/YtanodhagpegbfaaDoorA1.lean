import Derived.WalkKit
import Derived.Deep.OwnRows
import Derived.Deep.Draws
import Derived.WalkSpells
import Derived.WalkLawsBesides
import Derived.Deep.QuietTactic
import Derived.BigQuiet
import Derived.BigRegion
import Derived.Deep.RegionHeld3
import Derived.Handy
import Derived.Lib.Hide
import Derived.Test.YtanodhagpegbfaaDoorRows
import Derived.Laws.AppendOwnNone
import Derived.Lib.SliceRun
/- Words of 32 bits as the walk has them: a sum, a bitwise operation and a shift of two such numbers is the word's own. -/
namespace Go.Proofs.YtanodhagpegbfaaDoor

/-- The number in a slot that holds a word. -/
def wn (x : BitVec 32) : Int := (x.toNat : Int)
theorem wn_nonneg (x : BitVec 32) : 0 ≤ wn x := Int.natCast_nonneg _
theorem wn_lt (x : BitVec 32) : wn x < 4294967296 := by have := x.isLt; unfold wn; omega
theorem wrap_u32_nat (n : Nat) : IntKind.u32.wrap (n : Int) = ((n % 4294967296 : Nat) : Int) := by
  rw [IntKind.wrap_u32]; omega
theorem wn_add (x y : BitVec 32) : IntKind.u32.wrap (wn x + wn y) = wn (x + y) := by
  unfold wn; rw [IntKind.wrap_u32, BitVec.toNat_add]; omega
theorem ofInt32 (x : BitVec 32) : BitVec.ofInt 32 (wn x) = x := by
  unfold wn
  apply BitVec.eq_of_toNat_eq
  simp
theorem wrap32_id (x : BitVec 32) : IntKind.u32.wrap (wn x) = wn x := by
  have := x.isLt
  unfold wn
  rw [wrap_u32_nat, Nat.mod_eq_of_lt (by simpa using this)]
theorem wn_xor (x y : BitVec 32) : bits .xor .u32 (wn x) (wn y) = wn (x ^^^ y) := by
  show IntKind.u32.wrap ((BitVec.ofInt 32 (wn x) ^^^ BitVec.ofInt 32 (wn y)).toNat : Int) = _
  rw [ofInt32, ofInt32]; exact wrap32_id _
theorem wn_and (x y : BitVec 32) : bits .and .u32 (wn x) (wn y) = wn (x &&& y) := by
  show IntKind.u32.wrap ((BitVec.ofInt 32 (wn x) &&& BitVec.ofInt 32 (wn y)).toNat : Int) = _
  rw [ofInt32, ofInt32]; exact wrap32_id _
theorem wn_or (x y : BitVec 32) : bits .or .u32 (wn x) (wn y) = wn (x ||| y) := by
  show IntKind.u32.wrap ((BitVec.ofInt 32 (wn x) ||| BitVec.ofInt 32 (wn y)).toNat : Int) = _
  rw [ofInt32, ofInt32]; exact wrap32_id _
theorem wn_shr (x : BitVec 32) (n : Nat) : wn x / 2 ^ n = wn (x >>> n) := by
  unfold wn; rw [BitVec.toNat_ushiftRight, Nat.shiftRight_eq_div_pow]; simp
theorem wn_shl (x : BitVec 32) (n : Nat) : IntKind.u32.wrap (wn x * 2 ^ n) = wn (x <<< n) := by
  unfold wn; rw [BitVec.toNat_shiftLeft, Nat.shiftLeft_eq, IntKind.wrap_u32]; simp
/-- A word turned to the right. -/
def ror (x : BitVec 32) (a : Nat) : BitVec 32 := x >>> a ||| x <<< (32 - a)
/-- A word turned by three, and by two and shifted. -/
def rorx3 (x : BitVec 32) (a b c : Nat) : BitVec 32 := ror x a ^^^ ror x b ^^^ ror x c
def rorx2s (x : BitVec 32) (a b c : Nat) : BitVec 32 := ror x a ^^^ ror x b ^^^ x >>> c

/-- The number in a slot that holds a byte. -/
def bn (x : BitVec 8) : Int := (x.toNat : Int)
theorem bn_nonneg (x : BitVec 8) : 0 ≤ bn x := Int.natCast_nonneg _
theorem bn_lt (x : BitVec 8) : bn x < 256 := by have := x.isLt; unfold bn; omega
theorem bn_wide (x : BitVec 8) : IntKind.u32.wrap (bn x) = wn (x.setWidth 32) := by
  have := x.isLt
  unfold bn wn
  rw [IntKind.wrap_u32, BitVec.toNat_setWidth]; omega
/-- Four bytes, the highest first. -/
def word4 (a b c d : BitVec 8) : BitVec 32 := a.setWidth 32 <<< 24 ||| b.setWidth 32 <<< 16 ||| c.setWidth 32 <<< 8 ||| d.setWidth 32
theorem wn_shl24 (x : BitVec 32) : IntKind.u32.wrap (wn x * 16777216) = wn (x <<< 24) := wn_shl x 24
theorem wn_shl16 (x : BitVec 32) : IntKind.u32.wrap (wn x * 65536) = wn (x <<< 16) := wn_shl x 16
theorem wn_shl8 (x : BitVec 32) : IntKind.u32.wrap (wn x * 256) = wn (x <<< 8) := wn_shl x 8
end Go.Proofs.YtanodhagpegbfaaDoor
/- SHA-256 as plain functions on words: the schedule as a register of sixteen words, the round, a block. No program here. -/
namespace Go.Proofs.YtanodhagpegbfaaDoor

/-- The register's next state: sixteen words, the first one goes out. -/
def regStep (l : List (BitVec 32)) : List (BitVec 32) :=
  l.drop 1 ++ [l.getD 0 0 + (rorx2s (l.getD 1 0) 7 18 3 + l.getD 9 0 + rorx2s (l.getD 14 0) 17 19 10)]
def reg (M : List (BitVec 32)) : Nat → List (BitVec 32)
  | 0 => M
  | t + 1 => regStep (reg M t)
/-- Word t of a block's schedule. -/
def sched (M : List (BitVec 32)) (t : Nat) : BitVec 32 := (reg M t).getD 0 0
theorem reg_length (M : List (BitVec 32)) (hM : M.length = 16) : ∀ t, (reg M t).length = 16
  | 0 => hM
  | t + 1 => by simp [reg, regStep, reg_length M hM t]
theorem reg_at (M : List (BitVec 32)) (hM : M.length = 16) : ∀ i t, i < 16 → (reg M t).getD i 0 = sched M (t + i)
  | 0, t, _ => rfl
  | i + 1, t, h => by
    have ih := reg_at M hM i (t + 1) (by omega)
    have hl := reg_length M hM t
    have e : (reg M (t + 1)).getD i 0 = (reg M t).getD (i + 1) 0 := by
      show (regStep (reg M t)).getD i 0 = _
      unfold regStep
      simp only [List.getD_eq_getElem?_getD]
      rw [List.getElem?_append_left (by simp [hl]; omega), List.getElem?_drop]
      congr 2
      omega
    rw [← e, ih]
    congr 1
    omega
theorem sched_low (M : List (BitVec 32)) (hM : M.length = 16) (i : Nat) (hi : i < 16) : sched M i = M.getD i 0 := by
  have := reg_at M hM i 0 hi
  rw [Nat.zero_add] at this
  exact this.symm
theorem sched_high (M : List (BitVec 32)) (hM : M.length = 16) (t : Nat) :
    sched M (t + 16) = sched M t + (rorx2s (sched M (t + 1)) 7 18 3 + sched M (t + 9) + rorx2s (sched M (t + 14)) 17 19 10) := by
  have hl := reg_length M hM t
  have h15 := reg_at M hM 15 (t + 1) (by omega)
  rw [show t + 16 = t + 1 + 15 by omega, ← h15]
  show (regStep (reg M t)).getD 15 0 = _
  unfold regStep
  rw [reg_at M hM 1 t (by omega), reg_at M hM 9 t (by omega), reg_at M hM 14 t (by omega), reg_at M hM 0 t (by omega)]
  simp only [List.getD_eq_getElem?_getD]
  rw [List.getElem?_append_right (by simp [hl])]
  simp [hl]

/-- The eight words of a state. -/
structure St where
  a : BitVec 32
  b : BitVec 32
  c : BitVec 32
  d : BitVec 32
  e : BitVec 32
  f : BitVec 32
  g : BitVec 32
  h : BitVec 32
def rnd1 (s : St) (k w : BitVec 32) : BitVec 32 := s.h + rorx3 s.e 6 11 25 + (s.g ^^^ s.e &&& (s.f ^^^ s.g)) + k + w
def rnd2 (s : St) : BitVec 32 := rorx3 s.a 2 13 22 + (s.a &&& s.b ||| s.c &&& (s.a ||| s.b))
def rnd (s : St) (k w : BitVec 32) : St := ⟨rnd1 s k w + rnd2 s, s.a, s.b, s.c, s.d + rnd1 s k w, s.e, s.f, s.g⟩
def rounds (K : Nat → BitVec 32) (M : List (BitVec 32)) (s : St) : Nat → St
  | 0 => s
  | t + 1 => rnd (rounds K M s t) (K t) (sched M t)
def St.at (s : St) : Nat → BitVec 32
  | 0 => s.a
  | 1 => s.b
  | 2 => s.c
  | 3 => s.d
  | 4 => s.e
  | 5 => s.f
  | 6 => s.g
  | _ => s.h
def St.plus (s t : St) : St := ⟨s.a + t.a, s.b + t.b, s.c + t.c, s.d + t.d, s.e + t.e, s.f + t.f, s.g + t.g, s.h + t.h⟩
theorem St.at_plus (s t : St) : ∀ i, (s.plus t).at i = s.at i + t.at i
  | 0 => rfl
  | 1 => rfl
  | 2 => rfl
  | 3 => rfl
  | 4 => rfl
  | 5 => rfl
  | 6 => rfl
  | _ + 7 => rfl
/-- A block's words, of its bytes. -/
def blockWords (B : Nat → BitVec 8) : List (BitVec 32) := (List.range 16).map fun t => word4 (B (4 * t)) (B (4 * t + 1)) (B (4 * t + 2)) (B (4 * t + 3))
theorem blockWords_length (B : Nat → BitVec 8) : (blockWords B).length = 16 := by simp [blockWords]
theorem blockWords_at (B : Nat → BitVec 8) (t : Nat) (h : t < 16) : (blockWords B).getD t 0 = word4 (B (4 * t)) (B (4 * t + 1)) (B (4 * t + 2)) (B (4 * t + 3)) := by
  simp [blockWords, h]
/-- The state behind a block. -/
def mixed (K : Nat → BitVec 32) (s : St) (B : Nat → BitVec 8) : St := s.plus (rounds K (blockWords B) s 64)
/-- The state behind n blocks of a list of bytes. -/
def absorb (K : Nat → BitVec 32) : Nat → St → List (BitVec 8) → St
  | 0, s, _ => s
  | n + 1, s, l => absorb K n (mixed K s fun i => l.getD i 0) (l.drop 64)
theorem absorb_succ (K : Nat → BitVec 32) : ∀ (n : Nat) (s : St) (l : List (BitVec 8)), absorb K (n + 1) s l = mixed K (absorb K n s l) fun i => (l.drop (64 * n)).getD i 0
  | 0, s, l => by simp [absorb]
  | n + 1, s, l => by
    have := absorb_succ K n (mixed K s fun i => l.getD i 0) (l.drop 64)
    rw [List.drop_drop, show 64 + 64 * n = 64 * (n + 1) by omega] at this
    exact this
/-- Bytes as the walk's cells have them. -/
def bv (l : List (BitVec 8)) : List Value := l.map fun b => .int .u8 (bn b)
theorem bv_length (l : List (BitVec 8)) : (bv l).length = l.length := by simp [bv]
theorem bv_append (l m : List (BitVec 8)) : bv (l ++ m) = bv l ++ bv m := by simp [bv]
theorem bv_drop (l : List (BitVec 8)) (k : Nat) : bv (l.drop k) = (bv l).drop k := by simp [bv]
theorem bv_take (l : List (BitVec 8)) (k : Nat) : bv (l.take k) = (bv l).take k := by simp [bv]
theorem bv_one (l : List (BitVec 8)) : ∀ u ∈ bv l, u.oneCell' = true := by
  intro u hu
  obtain ⟨b, _, rfl⟩ := List.mem_map.1 hu
  rfl
theorem bv_at (l : List (BitVec 8)) (j : Nat) (h : j < l.length) : (bv l)[j]? = some (.int .u8 (bn (l.getD j 0))) := by simp [bv, h]
end Go.Proofs.YtanodhagpegbfaaDoor
/- Small laws of the model, of whatever program: an array value indexed. -/
namespace Go.Proofs.YtanodhagpegbfaaDoor
open Go.RowKit

theorem run_index_cells {P : Program} {t e len : Nat} {k : IntKind} (ht : P.underlying t = some (.array len e)) (he : P.underlying e = some (.int k)) (hs : (P.info? e).map (·.size) = some 1)
    {cs : Array Value} {i : Nat} {v : Value} (hi : i < len) (hv : cs[i]? = some v) (w : World) :
    (Instr.index t (.agg cs) (.int .i64 (i : Int))).run P w = .ok v w := by
  obtain ⟨i0, hi0, hz⟩ := Option.map_eq_some_iff.1 hs
  have hc : P.cellsOf e = 1 := by simp [Program.cellsOf, hi0, hz]
  simp [Instr.index, asIntOf, run_underlying ht, run_sizeOf w hi0, hc, hi, part, isAgg, run_underlying he, hv]
theorem heap_lt {w : World} {b : Nat} {o : Obj} (h : w.heap[b]? = some o) : b < w.heap.size := (Array.getElem?_eq_some_iff.1 h).1
theorem below_drewN' (k : Nat) (w : World) (n : Nat) : Below k w (w.drewN n) := ⟨rfl, rfl, rfl, Nat.le_refl _, fun _ _ => rfl⟩
end Go.Proofs.YtanodhagpegbfaaDoor
/- The walks of package sha's inner functions on words: word, small, great, mix (and bits.RotateLeft32): each computes the plain function of XSha. -/
namespace Go.Proofs.YtanodhagpegbfaaDoor
open Go.RowKit
attribute [local go_sem] wn_add wn_xor wn_and wn_or wn_shr wn_shl bn_wide wn_shl24 wn_shl16 wn_shl8
theorem rot_amount (a : Nat) (h1 : 1 ≤ a) (h2 : a ≤ 31) : bits .and .u64 (IntKind.u64.wrap (-(a : Int))) 31 = ((32 - a : Nat) : Int) := by
  have : ∀ a : Fin 32, 1 ≤ a.val → bits .and .u64 (IntKind.u64.wrap (-(a.val : Int))) 31 = ((32 - a.val : Nat) : Int) := by decide
  exact this ⟨a, by omega⟩ h1
set_option maxHeartbeats 400000 in
theorem rot_any (x : BitVec 32) (a : Nat) (h1 : 1 ≤ a) (h2 : a ≤ 31) (w : World) :
    Calls Tryd.prog 119 #[.int .u32 (wn x), .int .i64 (-(a : Int))] w fun e w' => e = .returned (.int .u32 (wn (ror x a))) ∧ w' = w := by
  have e1 := rot_amount a h1 h2
  have s3 : IntKind.u64.wrap (32 - ((32 - a : Nat) : Int)) = (a : Int) := by rw [IntKind.wrap_u64]; omega
  have s4 : 32 - a ≤ 32 := by omega
  have o1 : bits .or .u32 (wn (x <<< (32 - a))) (wn (x >>> a)) = wn (ror x a) := by
    rw [wn_or]; unfold ror; rw [BitVec.or_comm]
  go_enter Tryd.func119, Tryd.ntmps119
  go_wp2
  go_ret
  exact ⟨rfl, rfl⟩
set_option maxHeartbeats 400000 in
theorem great_any (x : BitVec 32) (i j k : Int) (ha : 1 ≤ i ∧ i ≤ 31) (hb : 1 ≤ j ∧ j ≤ 31) (hc : 1 ≤ k ∧ k ≤ 31) (w : World) :
    Calls Tryd.prog 117 #[.int .u32 (wn x), .int .i64 i, .int .i64 j, .int .i64 k] w fun e w' => e = .returned (.int .u32 (wn (rorx3 x i.toNat j.toNat k.toNat))) ∧ w' = w := by
  obtain ⟨a, rfl⟩ := Int.eq_ofNat_of_zero_le (show 0 ≤ i by omega)
  obtain ⟨b, rfl⟩ := Int.eq_ofNat_of_zero_le (show 0 ≤ j by omega)
  obtain ⟨c, rfl⟩ := Int.eq_ofNat_of_zero_le (show 0 ≤ k by omega)
  go_enter Tryd.func117, Tryd.ntmps117
  go_wp2_with fail
  refine (rot_any x a (by omega) (by omega) _).mono ?_; rintro e w' ⟨rfl, rfl⟩
  go_wp2_with fail
  refine (rot_any x b (by omega) (by omega) _).mono ?_; rintro e w' ⟨rfl, rfl⟩
  go_wp2_with fail
  refine (rot_any x c (by omega) (by omega) _).mono ?_; rintro e w' ⟨rfl, rfl⟩
  go_wp2
  go_ret
  exact ⟨rfl, rfl⟩
set_option maxHeartbeats 400000 in
theorem small_any (x : BitVec 32) (i j k : Int) (ha : 1 ≤ i ∧ i ≤ 31) (hb : 1 ≤ j ∧ j ≤ 31) (hc : 1 ≤ k ∧ k ≤ 31) (w : World) :
    Calls Tryd.prog 116 #[.int .u32 (wn x), .int .i64 i, .int .i64 j, .int .i64 k] w fun e w' => e = .returned (.int .u32 (wn (rorx2s x i.toNat j.toNat k.toNat))) ∧ ∃ n, w' = w.drewN n := by
  obtain ⟨a, rfl⟩ := Int.eq_ofNat_of_zero_le (show 0 ≤ i by omega)
  obtain ⟨b, rfl⟩ := Int.eq_ofNat_of_zero_le (show 0 ≤ j by omega)
  obtain ⟨c, rfl⟩ := Int.eq_ofNat_of_zero_le (show 0 ≤ k by omega)
  go_enter Tryd.func116, Tryd.ntmps116
  go_wp2_with fail
  go_quiet ((go_at_call 119; exact Calls.quiet_of_same (rot_any _ _ (by omega) (by omega) _)))
  go_wp2
  go_ret
  exact ⟨rfl, _, rfl⟩
set_option maxHeartbeats 400000 in
theorem word_any (g o n c : Nat) (b0 b1 b2 b3 : BitVec 8) (w : World) (hn : 4 ≤ n)
    (c0 : w.cell? ⟨g, o, none⟩ = some (.int .u8 (bn b0))) (c1 : w.cell? ⟨g, o + 1, none⟩ = some (.int .u8 (bn b1)))
    (c2 : w.cell? ⟨g, o + 2, none⟩ = some (.int .u8 (bn b2))) (c3 : w.cell? ⟨g, o + 3, none⟩ = some (.int .u8 (bn b3))) :
    Calls Tryd.prog 115 #[.slice (some ⟨g, o, none⟩) n c] w fun e w' => e = .returned (.int .u32 (wn (word4 b0 b1 b2 b3))) ∧ ∃ n, w' = w.drewN n := by
  have h0 : (0 : Int) < n := by omega
  have h1 : (1 : Int) < n := by omega
  have h2 : (2 : Int) < n := by omega
  have h3 : (3 : Int) < n := by omega
  go_enter Tryd.func115, Tryd.ntmps115
  go_wp2
  go_quiet (fail)
  go_wp2
  go_ret
  exact ⟨rfl, _, rfl⟩

/-- Block b is a ring of sixteen words. -/
def ringIs (w : World) (b : Nat) (f : Nat → BitVec 32) : Prop := w.rowIs b 147 16 (fun i => .int .u32 (wn (f i)))
theorem ringIs.drewN {w : World} {b : Nat} {f : Nat → BitVec 32} (h : ringIs w b f) (n : Nat) : ringIs (w.drewN n) b f := h
theorem ringIs.cell {w : World} {b : Nat} {f : Nat → BitVec 32} (h : ringIs w b f) {i : Nat} (hi : i < 16) : w.cell? ⟨b, i, none⟩ = some (.int .u32 (wn (f i))) := World.rowIs.cell h hi
theorem ringIs.free {w : World} {b : Nat} {f : Nat → BitVec 32} (h : ringIs w b f) (i : Nat) : w.frozen? ⟨b, i, none⟩ = false := World.rowIs.frozen h i
theorem ringIs.set {w : World} {b : Nat} {f g : Nat → BitVec 32} (h : ringIs w b f) (i : Nat) (v : BitVec 32) (hg : ∀ j, j < 16 → g j = if j = i then v else f j) : ringIs (w.setCell ⟨b, i, none⟩ (.int .u32 (wn v))) b g :=
  (World.rowIs.set h i _).congr fun j hj => by rw [hg j hj]; split <;> rfl
/-- n bytes at a place. -/
def bytesAt (w : World) (g o : Nat) (n : Nat) (B : Nat → BitVec 8) : Prop := ∀ j, j < n → w.cell? ⟨g, o + j, none⟩ = some (.int .u8 (bn (B j)))
theorem bytesAt.below {w w' : World} {g o n : Nat} {B : Nat → BitVec 8} (h : bytesAt w g o n B) {k : Nat} (hb : Below k w w') (hk : g < k) : bytesAt w' g o n B :=
  fun j hj => (hb.cell (p := ⟨g, o + j, none⟩) hk).trans (h j hj)
end Go.Proofs.YtanodhagpegbfaaDoor
/- A region that draws its order, walked once in the order of the text: operations that only read yield, in every world of a class, one value; those that turn the world stand in one order among themselves, and leave a world of the class; the tail stands in one order behind all others. Of whatever program. -/
namespace Go.Proofs.YtanodhagpegbfaaDoor
open Go
section
variable {P : Program} {ops : Array Oper} {C : World → Prop} {E : Nat → Bool}

/-- An operation that hands back a value or nothing: no call of a Go function, no defer. -/
def isV : Op → Bool
  | .call { callee := .builtin .len, .. } => true
  | .call { callee := .builtin .cap, .. } => true
  | .call { callee := .builtin .min, .. } => true
  | .call { callee := .builtin .max, .. } => true
  | .call _ => false
  | .go _ => false
  | .defer _ => false
  | .send .. => false
  | .recv .. => false
  | .select .. => false
  | _ => true

/-- What it hands back is a value or nothing. -/
def plainRes : Result Next → Prop
  | .ok (.value _) _ => True
  | .ok .skip _ => True
  | .ok _ _ => False
  | .halt _ _ => True
theorem plainRes_v (s : Sem Value) (w : World) : plainRes ((do pure (Next.value (← s)) : Sem Next).run P w) := by
  simp only [Sem.run_bind]
  cases s.run P w <;> simp [Result.andThen, plainRes]
theorem plainRes_u (s : Sem Unit) (w : World) : plainRes ((do s; pure Next.skip : Sem Next).run P w) := by
  simp only [Sem.run_bind]
  cases s.run P w <;> simp [Result.andThen, plainRes]
theorem plainRes_bind {α : Type} (s : Sem α) (f : α → Sem Next) (w : World) (h : ∀ x w', plainRes ((f x).run P w')) : plainRes ((s >>= f).run P w) := by
  simp only [Sem.run_bind]
  cases s.run P w with
  | ok x w' => exact h x w'
  | halt x w' => simp [Result.andThen, plainRes]
theorem plainRes_pure (v : Value) (w : World) : plainRes ((pure (Next.value v) : Sem Next).run P w) := by simp [plainRes]
theorem plainRes_nil (w : World) : plainRes ((runtimePanic .nilDeref : Sem Next).run P w) := by
  unfold runtimePanic
  exact plainRes_bind _ _ _ fun _ _ => by simp [goPanic, plainRes]
theorem isV_run {o : Oper} (h : isV o.op = true) (ρ : Operand → Value) (w : World) : plainRes ((execOp ρ o).run P w) := by
  obtain ⟨dst, op, type, pos, after, guard⟩ := o
  cases op
  case call c =>
    obtain ⟨callee, args, ats⟩ := c
    cases callee with
    | value f => simp [isV] at h
    | invoke r m => simp [isV] at h
    | builtin b => cases b <;> first | (simp [isV] at h; done) | exact plainRes_v _ _
  case go c => simp [isV] at h
  case defer c => simp [isV] at h
  case send c x => simp [isV] at h
  case recv c x b => simp [isV] at h
  case select c b => simp [isV] at h
  case nilCheck x =>
    simp only [execOp]
    split <;> first | exact plainRes_nil _ | exact plainRes_pure _ _ | skip
    split <;> first | exact plainRes_nil _ | exact plainRes_pure _ _ | skip
    refine plainRes_bind _ _ _ fun _ _ => plainRes_bind _ _ _ fun b _ => ?_
    split
    · exact plainRes_bind _ _ _ fun _ _ => plainRes_pure _ _
    · exact plainRes_pure _ _
  case pick c a b =>
    simp only [execOp]
    refine plainRes_bind _ _ _ fun b _ => ?_
    split <;> exact plainRes_pure _ _
  all_goals (simp only [execOp]; first | exact plainRes_pure _ _ | exact plainRes_v _ _ | exact plainRes_u _ _)

/-- In this world it hands back this value, and the world stands. -/
def qAt (P : Program) (o : Oper) (a : Act) (w : World) (v : Value) : Prop :=
  (execOp a.eval o).run P w = .ok (.value v) w ∨ ((execOp a.eval o).run P w = .ok .skip w ∧ v = undef)
theorem qAt_of_quietAt {o : Oper} {a : Act} {w : World} {v : Value} (h : isV o.op = true) (hq : o.quietAt P a C w v) : qAt P o a w v := by
  have hp := isV_run (P := P) h a.eval w
  unfold Oper.quietAt at hq
  unfold qAt
  generalize (execOp a.eval o).run P w = r at *
  cases r with
  | ok n w' =>
    cases n <;> simp only [Oper.quietUpon] at hq <;> simp only [plainRes] at hp
    case value u => obtain ⟨rfl, rfl⟩ := hq; exact .inl rfl
    case skip => obtain ⟨rfl, rfl⟩ := hq; exact .inr ⟨rfl, rfl⟩
  | halt x w' => simp only [Oper.quietUpon] at hq
theorem qAt_unique {o : Oper} {a : Act} {w : World} {v u : Value} (h : qAt P o a w v) (k : qAt P o a w u) : v = u := by
  rcases h with h | ⟨h, rfl⟩ <;> rcases k with k | ⟨k, rfl⟩
  · rw [h] at k; simpa using k
  · rw [h] at k; simp at k
  · rw [h] at k; simp at k
  · rfl
theorem qAt_wp {o : Oper} {a : Act} {w : World} {v : Value} {K : Act → World → Prop} {Q : Exit → Act → World → Prop} (h : qAt P o a w v) (hk : K (a.put o.dst v) w) : o.wp P a w K Q := by
  unfold Oper.wp
  rcases h with h | ⟨h, rfl⟩ <;> rw [h] <;> exact hk

/-- No way out but by the operation's own end. -/
def noOut : Exit → Act → World → Prop := fun _ _ _ => False
theorem wp_noOut {o : Oper} {a : Act} {w : World} {K : Act → World → Prop} {Q : Exit → Act → World → Prop} (h : o.wp P a w K noOut) : o.wp P a w K Q := by
  unfold Oper.wp at *
  generalize (execOp a.eval o).run P w = r at *
  cases r with
  | ok n w' =>
    cases n <;> simp only [Oper.upon] at h ⊢ <;> try exact h
    exact Calls.mono h fun e w'' he => by cases e <;> first | exact he | exact (he : False).elim | exact (by obtain ⟨_, _, hf⟩ := (he : LetsOut noOut); exact hf.elim)
  | halt x w' => cases x <;> simp only [Oper.upon] at h ⊢ <;> first | exact h.elim | exact (h : False).elim
/-- A slot that the operation does not look at may be written before it or behind it. -/
theorem wp_put {o : Oper} (hs : ∀ cs b, o.op ≠ .select cs b) {a : Act} {w : World} {dst : Option Tmp} {u : Value} (h1 : ∀ d, dst = some d → d ∉ o.looksAt ops) (h2 : ∀ d, dst = some d → o.dst ≠ some d)
    {K : Act → World → Prop} : o.wp P (a.put dst u) w K noOut ↔ o.wp P a w (fun a' w' => K (a'.put dst u) w') noOut := by
  unfold Oper.wp
  rw [execOp_put (ops := ops) o hs a dst u h1]
  generalize (execOp a.eval o).run P w = r
  have hc : ∀ v, (a.put dst u).put o.dst v = (a.put o.dst v).put dst u := fun v => Act.put_comm a u v h2
  cases r with
  | ok n w' =>
    cases n <;> simp only [Oper.upon, hc]
    case defer d =>
      have e : ({ a.put dst u with defers := d :: (a.put dst u).defers } : Act) = ({ a with defers := d :: a.defers } : Act).put dst u := Act.put_defers a dst u d
      rw [e, Act.put_comm _ u undef h2]
    case enter f args =>
      constructor <;> exact fun h => Calls.mono h fun e w'' he => by cases e <;> exact he
  | halt x w' => cases x <;> simp only [Oper.upon] <;> exact Iff.rfl

/-- One operation of the prefix. -/
def stepL (P : Program) (ops : Array Oper) (C : World → Prop) (eff : Bool) (o : Oper) (K : Act → World → Prop) (a : Act) (w : World) : Prop :=
  if Region.wanted o (yielded ops a.tmps) = true then
    (if eff = true then o.wp P a w (fun a' w' => C w' ∧ K a' w') noOut else ∃ v, (∀ w', C w' → qAt P o a w' v) ∧ K (a.put o.dst v) w)
  else K (a.put o.dst undef) w
theorem stepL_mono {eff : Bool} {o : Oper} {K K' : Act → World → Prop} (h : ∀ a w, C w → K a w → K' a w) {a : Act} {w : World} (hC : C w) (hs : stepL P ops C eff o K a w) : stepL P ops C eff o K' a w := by
  unfold stepL at *
  split
  · rename_i hw
    rw [if_pos hw] at hs
    split
    · rename_i he
      rw [if_pos he] at hs
      exact Oper.wp_mono (fun a w ⟨c, k⟩ => ⟨c, h a w c k⟩) hs
    · rename_i he
      rw [if_neg he] at hs
      obtain ⟨v, hv, hk⟩ := hs
      exact ⟨v, hv, h _ _ hC hk⟩
  · rename_i hw
    rw [if_neg hw] at hs
    exact h _ _ hC hs
theorem qAt_put {o : Oper} (hs : ∀ cs b, o.op ≠ .select cs b) {a : Act} {w : World} {dst : Option Tmp} {u v : Value} (h1 : ∀ d, dst = some d → d ∉ o.looksAt ops) : qAt P o (a.put dst u) w v ↔ qAt P o a w v := by
  unfold qAt
  rw [execOp_put (ops := ops) o hs a dst u h1]
/-- What a wp of an operation shows of some frame behind it. -/
theorem wp_some {o : Oper} {a : Act} {w : World} {K : Act → World → Prop} (h : o.wp P a w K noOut) : ∃ b v w', K (({ a with defers := b } : Act).put o.dst v) w' := by
  unfold Oper.wp at h
  generalize (execOp a.eval o).run P w = r at *
  cases r with
  | ok n w' =>
    cases n <;> simp only [Oper.upon] at h
    case value v => exact ⟨a.defers, v, w', h⟩
    case skip => exact ⟨a.defers, undef, w', h⟩
    case defer d => exact ⟨d :: a.defers, undef, w', h⟩
    case enter f args =>
      obtain ⟨e, w'', fr, he, _⟩ := h []
      cases e with
      | returned v => exact ⟨a.defers, v, w'', he⟩
      | panicked c => exact (he : False).elim
      | outgrown => obtain ⟨_, _, hf⟩ := (he : LetsOut noOut); exact hf.elim
    case row r args =>
      obtain ⟨v, w'', he, _⟩ := h default []
      exact ⟨a.defers, v, w'', he⟩
  | halt x w' => cases x <;> simp only [Oper.upon] at h <;> first | exact h.elim | exact (h : False).elim
theorem wp_mono_put {o : Oper} {a : Act} {w : World} {K K' : Act → World → Prop} (hk : ∀ b v w', K (({ a with defers := b } : Act).put o.dst v) w' → K' (({ a with defers := b } : Act).put o.dst v) w') (h : o.wp P a w K noOut) : o.wp P a w K' noOut := by
  unfold Oper.wp at *
  generalize (execOp a.eval o).run P w = r at *
  cases r with
  | ok n w' =>
    cases n <;> simp only [Oper.upon] at h ⊢
    case value v => exact hk a.defers v w' h
    case skip => exact hk a.defers undef w' h
    case defer d => exact hk _ undef w' h
    case enter f args => exact Calls.mono h fun e w'' he => by cases e <;> first | exact hk a.defers _ _ he | exact he
    case row r args => exact Rows.mono h fun v w'' he => hk a.defers v _ he
  | halt x w' => cases x <;> simp only [Oper.upon] at h ⊢ <;> exact h
theorem qAt_defers {o : Oper} {a : Act} {w : World} {v : Value} (b : List Deferred) : qAt P o { a with defers := b } w v ↔ qAt P o a w v := by
  have e : (({ a with defers := b } : Act).eval) = a.eval := by funext x; cases x <;> rfl
  unfold qAt
  rw [e]
/-- TWO STEPS MAY CHANGE PLACES: apart, and not both of those that turn the world. -/
theorem stepL_swap {ei ej : Bool} {oi oj : Oper} (hsi : ∀ cs b, oi.op ≠ .select cs b) (hsj : ∀ cs b, oj.op ≠ .select cs b) (hap : oi.apart ops oj = true) (hE : ei = false ∨ ej = false)
    {K : Act → World → Prop} {a : Act} {w : World} (hC : C w) (h : stepL P ops C ei oi (stepL P ops C ej oj K) a w) : stepL P ops C ej oj (stepL P ops C ei oi K) a w := by
  obtain ⟨h1, h2, h3⟩ := Oper.apart_spec hap
  have h2' : ∀ d, oj.dst = some d → oi.dst ≠ some d := fun d hd he => h2 d he hd
  have wj : ∀ (a : Act) v, Region.wanted oj (yielded ops (a.put oi.dst v).tmps) = Region.wanted oj (yielded ops a.tmps) := fun a v => wanted_put oj a oi.dst v h1
  have wi : ∀ (a : Act) v, Region.wanted oi (yielded ops (a.put oj.dst v).tmps) = Region.wanted oi (yielded ops a.tmps) := fun a v => wanted_put oi a oj.dst v h3
  have pc : ∀ (a : Act) v u, (a.put oi.dst v).put oj.dst u = (a.put oj.dst u).put oi.dst v := fun a v u => Act.put_comm a v u h2
  by_cases hwi : Region.wanted oi (yielded ops a.tmps) = true
  · by_cases hei : ei = true
    · have hej : ej = false := hE.resolve_left (by simp [hei])
      subst hei hej
      unfold stepL at h
      rw [if_pos hwi, if_pos rfl] at h
      by_cases hwj : Region.wanted oj (yielded ops a.tmps) = true
      · have key : ∀ b v w', (C w' ∧ stepL P ops C false oj K (({ a with defers := b } : Act).put oi.dst v) w') → C w' ∧ ∃ u, (∀ w'', C w'' → qAt P oj a w'' u) ∧ K ((({ a with defers := b } : Act).put oi.dst v).put oj.dst u) w' := by
          rintro b v w' ⟨hc, hs⟩
          unfold stepL at hs
          rw [if_pos (by rw [wj]; exact hwj), if_neg (by simp)] at hs
          obtain ⟨u, hu, hk⟩ := hs
          exact ⟨hc, u, fun w'' hw'' => (qAt_defers b).1 ((qAt_put (ops := ops) hsj h1).1 (hu w'' hw'')), hk⟩
        obtain ⟨b, v, w', hs⟩ := wp_some h
        obtain ⟨_, u, hu, _⟩ := key b v w' hs
        unfold stepL
        rw [if_pos hwj, if_neg (by simp)]
        refine ⟨u, hu, ?_⟩
        rw [if_pos (by rw [wi]; exact hwi), if_pos rfl]
        refine (wp_put (ops := ops) hsi h3 h2').2 (wp_mono_put (fun b v w' hs => ?_) h)
        obtain ⟨hc, u', hu', hk⟩ := key b v w' hs
        rw [qAt_unique (hu w hC) (hu' w hC)]
        exact ⟨hc, hk⟩
      · unfold stepL
        rw [if_neg hwj, if_pos (by rw [wi]; exact hwi), if_pos rfl]
        refine (wp_put (ops := ops) hsi h3 h2').2 (wp_mono_put (fun b v w' hs => ?_) h)
        obtain ⟨hc, hs⟩ := hs
        rw [if_neg (by rw [wj]; exact hwj)] at hs
        exact ⟨hc, hs⟩
    · have hei' : ei = false := by simpa using hei
      subst hei'
      unfold stepL at h
      rw [if_pos hwi, if_neg (by simp)] at h
      obtain ⟨v, hv, h⟩ := h
      unfold stepL
      by_cases hwj : Region.wanted oj (yielded ops a.tmps) = true
      · rw [if_pos (by rw [wj]; exact hwj)] at h
        rw [if_pos hwj]
        by_cases hej : ej = true
        · subst hej
          rw [if_pos rfl] at h ⊢
          refine wp_mono_put (fun b u w' hs => ?_) ((wp_put (ops := ops) hsj h1 h2).1 h)
          obtain ⟨hc, hk⟩ := hs
          refine ⟨hc, ?_⟩
          rw [if_pos (by rw [wi]; exact hwi), if_neg (by simp)]
          exact ⟨v, fun w'' hw'' => (qAt_put (ops := ops) hsi h3).2 ((qAt_defers b).2 (hv w'' hw'')), hk⟩
        · rw [if_neg hej] at h ⊢
          obtain ⟨u, hu, hk⟩ := h
          refine ⟨u, fun w'' hw'' => (qAt_put (ops := ops) hsj h1).1 (hu w'' hw''), ?_⟩
          rw [if_pos (by rw [wi]; exact hwi), if_neg (by simp)]
          exact ⟨v, fun w'' hw'' => (qAt_put (ops := ops) hsi h3).2 (hv w'' hw''), by rw [← pc]; exact hk⟩
      · rw [if_neg (by rw [wj]; exact hwj)] at h
        rw [if_neg hwj, if_pos (by rw [wi]; exact hwi), if_neg (by simp)]
        exact ⟨v, fun w'' hw'' => (qAt_put (ops := ops) hsi h3).2 (hv w'' hw''), by rw [← pc]; exact h⟩
  · unfold stepL at h
    rw [if_neg hwi] at h
    unfold stepL
    by_cases hwj : Region.wanted oj (yielded ops a.tmps) = true
    · rw [if_pos (by rw [wj]; exact hwj)] at h
      rw [if_pos hwj]
      by_cases hej : ej = true
      · subst hej
        rw [if_pos rfl] at h ⊢
        refine wp_mono_put (fun b u w' hs => ?_) ((wp_put (ops := ops) hsj h1 h2).1 h)
        obtain ⟨hc, hk⟩ := hs
        refine ⟨hc, ?_⟩
        rw [if_neg (by rw [wi]; exact hwi)]
        exact hk
      · rw [if_neg hej] at h ⊢
        obtain ⟨u, hu, hk⟩ := h
        refine ⟨u, fun w'' hw'' => (qAt_put (ops := ops) hsj h1).1 (hu w'' hw''), ?_⟩
        rw [if_neg (by rw [wi]; exact hwi), ← pc]
        exact hk
    · rw [if_neg (by rw [wj]; exact hwj)] at h
      rw [if_neg hwj, if_neg (by rw [wi]; exact hwi), ← pc]
      exact h

/-- The prefix, in the order of the list; T behind it. -/
def wpLs (P : Program) (ops : Array Oper) (C : World → Prop) (E : Nat → Bool) (T : Act → World → Prop) : List Nat → Act → World → Prop
  | [], a, w => T a w
  | i :: l, a, w => match ops[i]? with
    | some o => stepL P ops C (E i) o (wpLs P ops C E T l) a w
    | none => False
theorem wpLs_front {T : Act → World → Prop} (hs : ∀ (j : Nat) (o : Oper) cs b, ops[j]? = some o → o.op ≠ .select cs b) {j : Nat} {oj : Oper} (hj : ops[j]? = some oj) : ∀ (p q : List Nat) (a : Act) (w : World),
    (∀ i ∈ p, ∀ oi, ops[i]? = some oi → oi.apart ops oj = true ∧ (E i = false ∨ E j = false)) → C w → wpLs P ops C E T (p ++ j :: q) a w → stepL P ops C (E j) oj (wpLs P ops C E T (p ++ q)) a w
  | [], q, a, w, _, _, h => by simpa [wpLs, hj] using h
  | i :: p, q, a, w, hp, hC, h => by
    simp only [List.cons_append, wpLs] at h
    cases hi : ops[i]? with
    | none => rw [hi] at h; exact h.elim
    | some oi =>
      rw [hi] at h
      simp only at h
      obtain ⟨hap, hE⟩ := hp i (by simp) oi hi
      have ih := stepL_mono (fun a w hc hk => wpLs_front hs hj p q a w (fun x hx => hp x (by simp [hx])) hc hk) hC h
      have := stepL_swap (hs i oi · · hi) (hs j oj · · hj) hap hE hC ih
      refine stepL_mono (fun a w _ hk => ?_) hC this
      simp only [List.cons_append, wpLs, hi]
      exact hk

theorem stepL_wpOp {i : Nat} {o : Oper} (hi : ops[i]? = some o) {eff : Bool} {K K' : Act → World → Prop} {Q : Exit → Act → World → Prop} (h : ∀ a w, C w → K a w → K' a w) {a : Act} {w : World} (hC : C w) (hs : stepL P ops C eff o K a w) : wpOp P ops Q i K' a w := by
  unfold stepL at hs
  unfold wpOp
  simp only [hi]
  split
  · rename_i hw
    rw [if_pos hw] at hs
    by_cases he : eff = true
    · rw [if_pos he] at hs
      exact .inl (wp_noOut (Oper.wp_mono (fun a w ⟨c, k⟩ => h a w c k) hs))
    · rw [if_neg he] at hs
      obtain ⟨v, hv, hk⟩ := hs
      exact .inl (qAt_wp (hv w hC) (h _ _ hC hk))
  · rename_i hw
    rw [if_neg hw] at hs
    exact h _ _ hC hs

/-- A certificate: number k's bits are operations that come ahead of k in every order. -/
def maskOk (ops : Array Oper) (M : Array Nat) : Bool := (List.range ops.size).all fun k => match ops[k]? with
  | none => false
  | some o => (o.after.all fun e => !Region.binds .any e || decide (e.on < k)) && (List.range ops.size).all fun j => !(M.getD k 0).testBit j || o.after.any fun e => Region.binds .any e && (e.on == j || (decide (e.on < k) && (M.getD e.on 0).testBit j))
def pairsOk (ops : Array Oper) (E : Nat → Bool) (N : Nat) (M : Array Nat) : Bool := (List.range ops.size).all fun k => (List.range k).all fun j => (M.getD k 0).testBit j || (decide (k < N) && match ops[j]?, ops[k]? with
  | some oj, some ok => oj.apart ops ok && (!E j || !E k)
  | _, _ => false)
def lexOK (ops : Array Oper) (E : Nat → Bool) (N : Nat) (M : Array Nat) : Bool := Region.noSelect ops && maskOk ops M && pairsOk ops E N M && decide (N ≤ ops.size)

def Closed (ops : Array Oper) (listed : Array Bool) : Prop := ∀ k o, ops[k]? = some o → listed.getD k false = true → ∀ e ∈ o.after, Region.binds .any e = true → listed.getD e.on false = true
theorem mask_listed {M : Array Nat} (hM : maskOk ops M = true) {listed : Array Bool} (hc : Closed ops listed) : ∀ (k : Nat) (o : Oper), ops[k]? = some o → (∀ e ∈ o.after, Region.binds .any e = true → listed.getD e.on false = true) →
    ∀ j, j < ops.size → (M.getD k 0).testBit j = true → listed.getD j false = true := by
  intro k
  induction k using Nat.strongRecOn with
  | _ k ih =>
    intro o ho he j hj hb
    have hk : k < ops.size := (Array.getElem?_eq_some_iff.1 ho).1
    have h1 := List.all_eq_true.1 hM k (List.mem_range.2 hk)
    rw [ho] at h1
    simp only [Bool.and_eq_true] at h1
    have h2 := List.all_eq_true.1 h1.2 j (List.mem_range.2 hj)
    simp only [hb, Bool.not_true, Bool.false_or] at h2
    obtain ⟨e, hem, hx⟩ := Array.any_eq_true'.1 h2
    simp only [Bool.and_eq_true, Bool.or_eq_true, beq_iff_eq, decide_eq_true_eq] at hx
    obtain ⟨hbind, hx⟩ := hx
    have hl := he e hem hbind
    rcases hx with rfl | ⟨hlt, hbit⟩
    · exact hl
    · have hon : e.on < ops.size := by omega
      have ho' : ops[e.on]? = some ops[e.on] := Array.getElem?_eq_getElem hon
      exact ih e.on hlt _ ho' (hc e.on _ ho' hl) j hj hbit
theorem edges_back {M : Array Nat} (hM : maskOk ops M = true) {k : Nat} {o : Oper} (ho : ops[k]? = some o) : ∀ e ∈ o.after, Region.binds .any e = true → e.on < k := by
  intro e he hb
  have hk : k < ops.size := (Array.getElem?_eq_some_iff.1 ho).1
  have h1 := List.all_eq_true.1 hM k (List.mem_range.2 hk)
  rw [ho] at h1
  simp only [Bool.and_eq_true] at h1
  have h2 := Array.all_eq_true_iff_forall_mem.1 h1.1 e he
  simpa [hb] using h2
theorem pair_of {N : Nat} {M : Array Nat} (h : pairsOk ops E N M = true) {j k : Nat} (hk : k < ops.size) (hjk : j < k) : (M.getD k 0).testBit j = true ∨ (k < N ∧ ∀ oj ok, ops[j]? = some oj → ops[k]? = some ok → oj.apart ops ok = true ∧ (E j = false ∨ E k = false)) := by
  have h1 := List.all_eq_true.1 (List.all_eq_true.1 h k (List.mem_range.2 hk)) j (List.mem_range.2 hjk)
  simp only [Bool.or_eq_true, Bool.and_eq_true, decide_eq_true_eq] at h1
  rcases h1 with h1 | ⟨h1, h2⟩
  · exact .inl h1
  · refine .inr ⟨h1, fun oj ok ej ek => ?_⟩
    rw [ej, ek] at h2
    simpa using h2

theorem mem_wait {listed : Array Bool} {k : Nat} (hz : listed.size = ops.size) {o : Oper} (ho : ops[k]? = some o) (h0 : listed.getD k false = false) (he : ∀ e ∈ o.after, Region.binds .any e = true → listed.getD e.on false = true) : k ∈ Region.ready .any ops listed := by
  have hk : k < ops.size := (Array.getElem?_eq_some_iff.1 ho).1
  refine mem_ready.2 ⟨?_, o, ho, he⟩
  simpa [show k < listed.size by omega] using h0
theorem ready_spec {listed : Array Bool} {k : Nat} (hz : listed.size = ops.size) (h : k ∈ Region.ready .any ops listed) : ∃ o, ops[k]? = some o ∧ listed.getD k false = false ∧ ∀ e ∈ o.after, Region.binds .any e = true → listed.getD e.on false = true := by
  obtain ⟨h0, o, ho, he⟩ := mem_ready.1 h
  have hk : k < ops.size := (Array.getElem?_eq_some_iff.1 ho).1
  exact ⟨o, ho, by simpa [show k < listed.size by omega] using h0, he⟩
theorem closed_set {listed : Array Bool} (hc : Closed ops listed) {i : Nat} {oi : Oper} (hi : ops[i]? = some oi) (he : ∀ e ∈ oi.after, Region.binds .any e = true → listed.getD e.on false = true) : Closed ops (listed.setIfInBounds i true) := by
  intro k o ho hl e hem hb
  by_cases hk : i = k
  · subst hk
    rw [hi] at ho
    cases ho
    exact getD_set_true (he e hem hb)
  · rw [getD_set_ne false hk] at hl
    exact getD_set_true (hc k o ho hl e hem hb)
theorem getD_set_self {listed : Array Bool} {i : Nat} (h : i < listed.size) : (listed.setIfInBounds i true).getD i false = true := by simp [h]

/-- The tail stands in one order. -/
theorem lex_tail {M : Array Nat} {N : Nat} {Q : Exit → Act → World → Prop} (hM : maskOk ops M = true) (hp : pairsOk ops E N M = true) : ∀ (fuel k : Nat) (listed : Array Bool) (a : Act) (w : World), listed.size = ops.size → Closed ops listed →
    (∀ i, i < k → i < ops.size → listed.getD i false = true) → (∀ i, k ≤ i → i < ops.size → listed.getD i false = false) → N ≤ k → ops.size - k ≤ fuel → wpOps P ops Q (List.range' k (ops.size - k)) a w → wpAny P .any ops Q fuel listed a w := by
  intro fuel
  induction fuel with
  | zero =>
    intro k listed a w hz hc hlo hhi hN hf h
    have hk : ops.size - k = 0 := by omega
    rw [hk] at h
    refine ⟨?_, by simpa [wpOps] using h⟩
    apply List.eq_nil_iff_forall_not_mem.2
    intro i hi
    obtain ⟨o, ho, h0, _⟩ := ready_spec hz hi
    have hi' : i < ops.size := (Array.getElem?_eq_some_iff.1 ho).1
    rw [hlo i (by omega) hi'] at h0
    cases h0
  | succ fuel ih =>
    intro k listed a w hz hc hlo hhi hN hf h
    by_cases hk : k < ops.size
    · have ho : ops[k]? = some ops[k] := Array.getElem?_eq_getElem hk
      have hr : k ∈ Region.ready .any ops listed := mem_wait hz ho (hhi k (Nat.le_refl _) hk) fun e he hb => hlo _ (edges_back hM ho e he hb) (by have := edges_back hM ho e he hb; omega)
      refine ⟨fun h0 => (by rw [h0] at hr; cases hr), fun i hi => ?_⟩
      obtain ⟨o, hio, h0, he⟩ := ready_spec hz hi
      have hi' : i < ops.size := (Array.getElem?_eq_some_iff.1 hio).1
      have hki : k ≤ i := by
        rcases Nat.lt_or_ge i k with h' | h'
        · rw [hlo i h' hi'] at h0; cases h0
        · exact h'
      have hik : i = k := by
        rcases Nat.lt_or_ge k i with h' | h'
        · exfalso
          rcases pair_of hp hi' h' with hb | ⟨hb, _⟩
          · have := mask_listed hM hc i o hio he k hk hb
            rw [hhi k (Nat.le_refl _) hk] at this
            cases this
          · omega
        · omega
      subst hik
      rw [show ops.size - i = (ops.size - (i + 1)) + 1 by omega, List.range'_succ, wpOps_cons] at h
      refine wpOp_mono (fun a w hk => ih (i + 1) _ a w (by simp [hz]) (closed_set hc hio he) ?_ ?_ (by omega) (by omega) hk) h
      · intro j hj hjs
        by_cases hji : i = j
        · subst hji; exact getD_set_self (by omega)
        · exact getD_set_true (hlo j (by omega) hjs)
      · intro j hj hjs
        rw [getD_set_ne false (by omega)]
        exact hhi j (by omega) hjs
    · have hk' : ops.size - k = 0 := by omega
      rw [hk'] at h
      refine ⟨fun _ => by simpa [wpOps] using h, fun i hi => ?_⟩
      obtain ⟨o, ho, h0, _⟩ := ready_spec hz hi
      have hi' : i < ops.size := (Array.getElem?_eq_some_iff.1 ho).1
      rw [hlo i (by omega) hi'] at h0
      cases h0
def waiting (listed : Array Bool) (N : Nat) : List Nat := (List.range N).filter fun i => !listed.getD i true
theorem mem_waiting {listed : Array Bool} {N i : Nat} (h : N ≤ listed.size) : i ∈ waiting listed N ↔ i < N ∧ listed.getD i false = false := by
  unfold waiting
  rw [List.mem_filter, List.mem_range]
  constructor
  · rintro ⟨h1, h2⟩
    exact ⟨h1, by simpa [show i < listed.size by omega] using h2⟩
  · rintro ⟨h1, h2⟩
    exact ⟨h1, by simpa [show i < listed.size by omega] using h2⟩
theorem waiting_sorted (listed : Array Bool) (N : Nat) : (waiting listed N).Pairwise (· < ·) := List.Pairwise.filter _ List.pairwise_lt_range
theorem waiting_set {listed : Array Bool} {N i : Nat} (h : N ≤ listed.size) {p q : List Nat} (hw : waiting listed N = p ++ i :: q) : waiting (listed.setIfInBounds i true) N = p ++ q := by
  have hs := waiting_sorted listed N
  rw [hw] at hs
  have e : waiting (listed.setIfInBounds i true) N = (waiting listed N).filter fun j => j != i := by
    unfold waiting
    rw [List.filter_filter]
    apply List.filter_congr
    intro j hj
    rw [List.mem_range] at hj
    by_cases hji : i = j
    · subst hji; simp [show i < listed.size by omega]
    · rw [getD_set_ne true hji]
      simp [Ne.symm hji]
  rw [e, hw, List.filter_append, List.filter_cons_of_neg (by simp)]
  rw [List.pairwise_append] at hs
  obtain ⟨_, h2, h3⟩ := hs
  rw [List.pairwise_cons] at h2
  rw [List.filter_eq_self.2, List.filter_eq_self.2]
  · intro j hj
    have := h2.1 j hj
    simp; omega
  · intro j hj
    have := h3 j hj i (by simp)
    simp; omega
/-- The prefix, in whatever order. -/
theorem lex_prefix {M : Array Nat} {N : Nat} {Q : Exit → Act → World → Prop} (hs : Region.noSelect ops = true) (hM : maskOk ops M = true) (hp : pairsOk ops E N M = true) (hN : N ≤ ops.size) : ∀ (fuel : Nat) (listed : Array Bool) (a : Act) (w : World), listed.size = ops.size → Closed ops listed →
    (∀ i, N ≤ i → i < ops.size → listed.getD i false = false) → C w → (waiting listed N).length + (ops.size - N) ≤ fuel →
    wpLs P ops C E (fun a w => wpOps P ops Q (List.range' N (ops.size - N)) a w) (waiting listed N) a w → wpAny P .any ops Q fuel listed a w := by
  intro fuel
  induction fuel with
  | zero =>
    intro listed a w hz hc hhi hC hf h
    have h0 : waiting listed N = [] := List.eq_nil_of_length_eq_zero (by omega)
    rw [h0] at h
    refine lex_tail (N := N) hM hp 0 N listed a w hz hc (fun i hi hi' => ?_) hhi (Nat.le_refl _) (by omega) h
    cases hl : listed.getD i false with
    | true => rfl
    | false => have := (mem_waiting (listed := listed) (N := N) (by omega)).2 ⟨hi, hl⟩; rw [h0] at this; cases this
  | succ fuel ih =>
    intro listed a w hz hc hhi hC hf h
    cases hw : waiting listed N with
    | nil =>
      rw [hw] at h
      refine lex_tail (N := N) hM hp (fuel + 1) N listed a w hz hc (fun i hi hi' => ?_) hhi (Nat.le_refl _) (by rw [hw] at hf; simpa using hf) h
      cases hl : listed.getD i false with
      | true => rfl
      | false => have := (mem_waiting (listed := listed) (N := N) (by omega)).2 ⟨hi, hl⟩; rw [hw] at this; cases this
    | cons k0 rest =>
      have hk0 := (mem_waiting (listed := listed) (N := N) (i := k0) (by omega)).1 (by rw [hw]; simp)
      have hsort := waiting_sorted listed N
      have hlow : ∀ i, i < k0 → listed.getD i false = true := by
        intro i hi
        cases hl : listed.getD i false with
        | true => rfl
        | false =>
          have hm := (mem_waiting (listed := listed) (N := N) (i := i) (by omega)).2 ⟨by omega, hl⟩
          rw [hw] at hm hsort
          rw [List.pairwise_cons] at hsort
          rcases List.mem_cons.1 hm with rfl | hm
          · omega
          · have := hsort.1 i hm; omega
      have hk0s : k0 < ops.size := by omega
      have ho0 : ops[k0]? = some ops[k0] := Array.getElem?_eq_getElem hk0s
      have hr : k0 ∈ Region.ready .any ops listed := mem_wait hz ho0 hk0.2 fun e he hb => hlow _ (edges_back hM ho0 e he hb)
      refine ⟨fun h0 => (by rw [h0] at hr; cases hr), fun i hi => ?_⟩
      obtain ⟨oi, hio, h0, he⟩ := ready_spec hz hi
      have hi' : i < ops.size := (Array.getElem?_eq_some_iff.1 hio).1
      have hbits : ∀ j, j < ops.size → (M.getD i 0).testBit j = true → listed.getD j false = true := mask_listed hM hc i oi hio he
      have hiN : i < N := by
        rcases Nat.lt_or_ge i N with h' | h'
        · exact h'
        · exfalso
          rcases pair_of hp hi' (show k0 < i by omega) with hb | ⟨hb, _⟩
          · have := hbits k0 (by omega) hb
            rw [hk0.2] at this
            cases this
          · omega
      have hmem := (mem_waiting (listed := listed) (N := N) (i := i) (by omega)).2 ⟨hiN, h0⟩
      obtain ⟨p, q, hpq⟩ := List.append_of_mem hmem
      have hfront := wpLs_front (E := E) (Region.noSelect_spec hs) hio p q a w (fun j hj oj hjo => by
        have hji : j < i := by
          have hs' := hsort
          rw [hpq, List.pairwise_append] at hs'
          exact hs'.2.2 j hj i (by simp)
        have hj0 := ((mem_waiting (listed := listed) (N := N) (i := j) (by omega)).1 (by rw [hpq]; simp [hj])).2
        rcases pair_of hp hi' hji with hb | ⟨_, hb⟩
        · have := hbits j (by omega) hb
          rw [hj0] at this
          cases this
        · exact hb oj oi hjo hio) hC (by rw [← hpq]; exact h)
      have hset := waiting_set (listed := listed) (N := N) (by omega) hpq
      refine stepL_wpOp hio (fun a w hc' hk => ih _ a w (by simp [hz]) (closed_set hc hio he) (fun j hj hjs => ?_) hc' ?_ ?_) hC hfront
      · rw [getD_set_ne false (by omega)]; exact hhi j hj hjs
      · rw [hset]; rw [hpq] at hf; simp at hf ⊢; omega
      · rw [hset]; exact hk

/-- The walk itself: n operations of the prefix are left, the next one is number k; behind them the tail, in its one order. -/
def wpLx (P : Program) (ops : Array Oper) (C : World → Prop) (E : Nat → Bool) (Q : Exit → Act → World → Prop) : Nat → Nat → List Oper → Act → World → Prop
  | 0, _, l, a, w => wpList P ops Q l a w
  | n + 1, k, o :: l, a, w => stepL P ops C (E k) o (wpLx P ops C E Q n (k + 1) l) a w
  | _ + 1, _, [], _, _ => False
theorem wpLs_of_wpLx {Q : Exit → Act → World → Prop} : ∀ (n k : Nat) (l : List Oper) (a : Act) (w : World), (∀ j, l[j]? = ops[k + j]?) → n ≤ l.length → k + l.length = ops.size → wpLx P ops C E Q n k l a w →
    wpLs P ops C E (fun a w => wpOps P ops Q (List.range' (k + n) (ops.size - (k + n))) a w) (List.range' k n) a w
  | 0, k, l, a, w, hl, _, hz, h => by
    simp only [List.range'_zero, wpLs, Nat.add_zero]
    simp only [wpLx] at h
    rw [show ops.size - k = l.length by omega, wpOps_eq_wpList l k hl]
    exact h
  | n + 1, k, [], a, w, _, hn, _, _ => by simp at hn
  | n + 1, k, o :: l, a, w, hl, hn, hz, h => by
    have h0 : ops[k]? = some o := by simpa using (hl 0).symm
    simp only [wpLx] at h
    rw [List.range'_succ]
    simp only [wpLs, h0]
    have ih := fun a w => wpLs_of_wpLx (Q := Q) n (k + 1) l a w (fun j => by have := hl (j + 1); simpa [Nat.add_assoc, Nat.add_comm 1 j] using this) (by simpa using hn) (by simp at hz; omega)
    rw [show k + (n + 1) = k + 1 + n by omega]
    unfold stepL at h ⊢
    split
    · rename_i hw
      rw [if_pos hw] at h
      split
      · rename_i he
        rw [if_pos he] at h
        exact Oper.wp_mono (fun a w ⟨c, hk⟩ => ⟨c, ih a w hk⟩) h
      · rename_i he
        rw [if_neg he] at h
        obtain ⟨v, hv, hk⟩ := h
        exact ⟨v, hv, ih _ _ hk⟩
    · rename_i hw
      rw [if_neg hw] at h
      exact ih _ _ h
/-- **A REGION THAT DRAWS ITS ORDER IS WALKED ONCE**: n operations of the prefix in the text's order (those that E names turn the world, and leave a world of the class C), the rest as a plain list. -/
theorem wp_region_lex {id : Nat} {Q : Exit → Act → World → Prop} {a : Act} {w : World} {l : List Oper} (C : World → Prop) (E : Nat → Bool) (n : Nat) (hm : P.follows .mixedOrders = true)
    (hB : lexOK l.toArray E n (Region.before l.toArray) = true) (hC : C { w with drawn := w.drawn + 1 }) (h : wpLx P l.toArray C E Q n 0 l a { w with drawn := w.drawn + 1 }) : (Code.region id l.toArray true).wp P Q a w := by
  simp only [lexOK, Bool.and_eq_true, decide_eq_true_eq] at hB
  obtain ⟨⟨⟨hs, hM⟩, hp⟩, hN⟩ := hB
  have hN' : n ≤ l.length := by simpa using hN
  refine wp_region_any hm ?_
  have hw : waiting (Array.replicate l.toArray.size false) n = List.range n := by
    unfold waiting
    rw [List.filter_eq_self]
    intro i hi
    rw [List.mem_range] at hi
    have : i < l.length := by omega
    simp [this]
  have h1 := wpLs_of_wpLx (E := E) (ops := l.toArray) n 0 l a _ (by simp) hN' (by simp) h
  rw [Nat.zero_add, ← List.range_eq_range'] at h1
  refine lex_prefix (E := E) hs hM hp hN _ _ a _ (by simp) ?_ ?_ hC ?_ ?_
  · intro k o _ hl
    exfalso
    have hk : ¬ (Array.replicate l.toArray.size false).getD k false = true := by
      by_cases hk : k < l.length <;> simp [hk]
    exact hk hl
  · intro i _ hi
    have hi' : i < l.length := by simpa using hi
    simp [hi']
  · rw [hw]; simp; omega
  · rw [hw]; exact h1
section
variable {Q : Exit → Act → World → Prop} {n k : Nat} {o : Oper} {l : List Oper} {a : Act} {w : World}
theorem lx_quiet (hE : E k = false) (hw : Region.wanted o (yielded ops a.tmps) = true) (hv : isV o.op = true) (h : ∀ K : Act → Prop, (∀ a', wpLx P ops C E Q n (k + 1) l a' w → K a') → o.quiet P a C K) : wpLx P ops C E Q (n + 1) k (o :: l) a w := by
  obtain ⟨v, hq, hk⟩ := h (fun a' => wpLx P ops C E Q n (k + 1) l a' w) fun _ h => h
  simp only [wpLx, stepL, hw, if_true, hE]
  exact ⟨v, fun w' hw' => qAt_of_quietAt hv (hq w' hw'), hk⟩
theorem lx_skip (hw : Region.wanted o (yielded ops a.tmps) = false) (h : wpLx P ops C E Q n (k + 1) l (a.put o.dst undef) w) : wpLx P ops C E Q (n + 1) k (o :: l) a w := by
  simp only [wpLx, stepL, hw]
  exact h
theorem lx_eff (hE : E k = true) (hw : Region.wanted o (yielded ops a.tmps) = true) (h : ∀ K : Act → World → Prop, (∀ a' w', (C w' ∧ wpLx P ops C E Q n (k + 1) l a' w') → K a' w') → o.wp P a w K noOut) : wpLx P ops C E Q (n + 1) k (o :: l) a w := by
  simp only [wpLx, stepL, hw, if_true, hE]
  exact h _ fun _ _ h => h
theorem lx_done (h : wpList P ops Q l a w) : wpLx P ops C E Q 0 k l a w := h
end
end
attribute [irreducible] wpLx
end Go.Proofs.YtanodhagpegbfaaDoor
/- The guard of an operation, read off the frame by the kit's own tactic, for the lexical walk of a region with guards. And a class of worlds: those in which the blocks below a number are as they were. -/
namespace Go.Proofs.YtanodhagpegbfaaDoor
open Go Go.RowKit
section
variable {P : Program} {ops : Array Oper} {C : World → Prop} {E : Nat → Bool} {Q : Exit → Act → World → Prop} {n k : Nat} {o : Oper} {l : List Oper} {a : Act} {w : World}
theorem lx_skipT (_ : wpQuiet P ops (fun _ => False) (fun _ => True) [o] a) (hw : Region.wanted o (yielded ops a.tmps) = false) (h : wpLx P ops C E Q n (k + 1) l (a.put o.dst undef) w) : wpLx P ops C E Q (n + 1) k (o :: l) a w := lx_skip hw h
theorem lx_quietT (hE : E k = false) (_ : wpQuiet P ops (fun _ => False) (fun _ => True) [o] a) (hw : Region.wanted o (yielded ops a.tmps) = true) (hv : isV o.op = true)
    (h : ∀ K : Act → Prop, (∀ a', wpLx P ops C E Q n (k + 1) l a' w → K a') → o.quiet P a C K) : wpLx P ops C E Q (n + 1) k (o :: l) a w := lx_quiet hE hw hv h
theorem lx_effT (hE : E k = true) (_ : wpQuiet P ops (fun _ => False) (fun _ => True) [o] a) (hw : Region.wanted o (yielded ops a.tmps) = true)
    (h : ∀ K : Act → World → Prop, (∀ a' w', (C w' ∧ wpLx P ops C E Q n (k + 1) l a' w') → K a' w') → o.wp P a w K noOut) : wpLx P ops C E Q (n + 1) k (o :: l) a w := lx_eff hE hw h
theorem quiet_false {K : Act → Prop} (hK : ∀ a, wpQuiet P ops (fun _ => False) (fun _ => True) [] a → K a) : o.quiet P a (fun _ => False) K := ⟨undef, fun _ h => h.elim, hK _ (wpQuiet_nil trivial)⟩
end
/-- A world in which the blocks below k are as they were. -/
structure Later (k : Nat) (w0 : World) where
  w : World
  h : Below k w0 w
instance (k : Nat) (w0 : World) : Nonempty (Later k w0) := ⟨⟨w0, Below.refl _ _⟩⟩
theorem Later.start (k : Nat) (w0 : World) : ∃ u : Later k w0, w0.drew = u.w := ⟨⟨w0.drew, (Below.refl _ _).drew⟩, rfl⟩
theorem Later.on {k : Nat} {w0 w : World} (h : Below k w0 w) : ∃ u : Later k w0, w = u.w := ⟨⟨w, h⟩, rfl⟩
end Go.Proofs.YtanodhagpegbfaaDoor
/- The walk of package sha's mix: a block is taken into the state's eight words as XSha's plain function says; nothing else of what was there turns. -/
namespace Go.Proofs.YtanodhagpegbfaaDoor
open Go.RowKit
attribute [local go_sem] wn_add wn_xor wn_and wn_or wn_shr wn_shl bn_wide wn_shl24 wn_shl16 wn_shl8
/-- The table that is added. -/
def TabK (K : Nat → BitVec 32) (g : Nat) (w : World) : Prop := ∃ T cs fr, w.heap[g]? = some (.cells cs T fr) ∧ cs.size = 64 ∧ ∀ i, i < 64 → cs[i]? = some (.int .u32 (wn (K i)))

theorem and15 (t : Nat) (h : t < 128) : bits .and .i64 (t : Int) 15 = ((t % 16 : Nat) : Int) := by
  have : ∀ t : Fin 128, bits .and .i64 (t.val : Int) 15 = ((t.val % 16 : Nat) : Int) := by decide
  exact this ⟨t, h⟩

theorem ring_step1 (B : Nat → BitVec 8) (f : Nat → BitVec 32) (t : Nat) (ht : t < 16) (hf : ∀ i, i < t → f i = (blockWords B).getD i 0) (i : Nat) (hi : i < t + 1) :
    (if i = t then word4 (B (4 * t)) (B (4 * t + 1)) (B (4 * t + 2)) (B (4 * t + 3)) else f i) = (blockWords B).getD i 0 := by
  split
  · rename_i e; rw [e, blockWords_at B t ht]
  · exact hf i (by omega)
theorem ring_start (w : World) : ringIs (w.alloc (.cells #[.int .u32 0, .int .u32 0, .int .u32 0, .int .u32 0, .int .u32 0, .int .u32 0, .int .u32 0, .int .u32 0, .int .u32 0, .int .u32 0, .int .u32 0, .int .u32 0, .int .u32 0, .int .u32 0, .int .u32 0, .int .u32 0] 147)) w.heap.size (fun _ => 0) :=
  World.rowIs_alloc _ _ _ _ (fun i hi => by
    show (Array.replicate 16 (Value.int .u32 0))[i]? = some (.int .u32 0)
    have hi' : i < 16 := hi
    simp [hi'])
def stIn (s : St) (va vb vc vd ve vf vg vh : Value) : Prop := va = .int .u32 (wn s.a) ∧ vb = .int .u32 (wn s.b) ∧ vc = .int .u32 (wn s.c) ∧ vd = .int .u32 (wn s.d) ∧
  ve = .int .u32 (wn s.e) ∧ vf = .int .u32 (wn s.f) ∧ vg = .int .u32 (wn s.g) ∧ vh = .int .u32 (wn s.h)
def ringOk (M : List (BitVec 32)) (t : Nat) (f : Nat → BitVec 32) : Prop := ∀ j, t ≤ j + 16 → j < max t 16 → f (j % 16) = sched M j
theorem ringOk_start (B : Nat → BitVec 8) (f : Nat → BitVec 32) (hf : ∀ i, i < 16 → f i = (blockWords B).getD i 0) : ringOk (blockWords B) 0 f := fun j _ hj => by
  have hj' : j < 16 := by simpa using hj
  rw [Nat.mod_eq_of_lt hj', hf j hj', sched_low _ (blockWords_length B) j hj']
theorem ring_place (t : Nat) (h : t < 128) : ∃ p, Hid (p = t % 16) ∧ bits .and .i64 (t : Int) 15 = (p : Int) ∧ (p : Int) < 16 ∧ (0 : Int) ≤ p ∧ p < 16 :=
  ⟨t % 16, rfl, and15 t h, by omega, by omega, by omega⟩
theorem ring_place' (t d : Nat) (e : Int) (he : e = (d : Int)) (h : t + d < 128) : ∃ p, Hid (p = (t + d) % 16) ∧ bits .and .i64 ((t : Int) + e) 15 = (p : Int) ∧ (p : Int) < 16 ∧ (0 : Int) ≤ p ∧ IntKind.i64.wrap ((t : Int) + e) = (t : Int) + e ∧ p < 16 := by
  subst he
  exact ⟨(t + d) % 16, rfl, and15 (t + d) h, by omega, by omega, IntWalk.i64_in _ (by omega), by omega⟩
theorem st_step {K : Nat → BitVec 32} {M : List (BitVec 32)} {s st : St} {t : Nat} {x : BitVec 32} (hst : rounds K M s t = st) (hx : x = sched M t) :
    stIn (rounds K M s (t + 1)) (.int .u32 (wn (st.h + rorx3 st.e 6 11 25 + (st.g ^^^ st.e &&& (st.f ^^^ st.g)) + K t + x + (rorx3 st.a 2 13 22 + (st.a &&& st.b ||| st.c &&& (st.a ||| st.b)))))) (.int .u32 (wn st.a)) (.int .u32 (wn st.b)) (.int .u32 (wn st.c))
      (.int .u32 (wn (st.d + (st.h + rorx3 st.e 6 11 25 + (st.g ^^^ st.e &&& (st.f ^^^ st.g)) + K t + x)))) (.int .u32 (wn st.e)) (.int .u32 (wn st.f)) (.int .u32 (wn st.g)) := by
  subst hst hx
  exact ⟨rfl, rfl, rfl, rfl, rfl, rfl, rfl, rfl⟩
theorem ring_old {M : List (BitVec 32)} {t p : Nat} {f : Nat → BitVec 32} (h : t < 16) (hf : ringOk M t f) (hp : p = t % 16) : f p = sched M t := by
  rw [hp]; exact hf t (by omega) (by omega)
theorem ring_keep {M : List (BitVec 32)} {t : Nat} {f : Nat → BitVec 32} (h : t < 16) (hf : ringOk M t f) : ringOk M (t + 1) f := fun j h1 h2 => hf j (by omega) (by omega)
theorem ring_new {B : Nat → BitVec 8} {t p0 p1 p9 p14 : Nat} {f : Nat → BitVec 32} (h : 16 ≤ t) (hf : ringOk (blockWords B) t f) (h0 : p0 = t % 16) (h1 : p1 = (t + 1) % 16) (h9 : p9 = (t + 9) % 16) (h14 : p14 = (t + 14) % 16) :
    f p0 + (rorx2s (f p1) 7 18 3 + f p9 + rorx2s (f p14) 17 19 10) = sched (blockWords B) t := by
  obtain ⟨u, rfl⟩ : ∃ u, t = u + 16 := ⟨t - 16, by omega⟩
  have e0 : f p0 = sched (blockWords B) u := by rw [h0, show (u + 16) % 16 = u % 16 by omega]; exact hf u (by omega) (by omega)
  have e1 : f p1 = sched (blockWords B) (u + 1) := by rw [h1, show (u + 16 + 1) % 16 = (u + 1) % 16 by omega]; exact hf (u + 1) (by omega) (by omega)
  have e9 : f p9 = sched (blockWords B) (u + 9) := by rw [h9, show (u + 16 + 9) % 16 = (u + 9) % 16 by omega]; exact hf (u + 9) (by omega) (by omega)
  have e14 : f p14 = sched (blockWords B) (u + 14) := by rw [h14, show (u + 16 + 14) % 16 = (u + 14) % 16 by omega]; exact hf (u + 14) (by omega) (by omega)
  rw [e0, e1, e9, e14, sched_high _ (blockWords_length B)]
theorem ring_step {M : List (BitVec 32)} {t p : Nat} {f : Nat → BitVec 32} {x : BitVec 32} (h : 16 ≤ t) (hf : ringOk M t f) (hp : p = t % 16) (hx : x = sched M t) : ringOk M (t + 1) (fun j => if j = p then x else f j) := fun j h1 h2 => by
  show (if j % 16 = p then x else f (j % 16)) = sched M j
  by_cases e : j = t
  · subst e; rw [if_pos hp.symm, hx]
  · rw [if_neg (by omega)]; exact hf j (by omega) (by omega)
def halfMixed (s st : St) (F : Nat → Value) (t : Nat) (i : Nat) : Value := if i < 8 then (if i < t then .int .u32 (wn (s.at i + st.at i)) else .int .u32 (wn (s.at i))) else F i
theorem halfMixed_start {s st : St} {F : Nat → Value} (hF : ∀ i, i < 8 → F i = .int .u32 (wn (s.at i))) {n : Nat} (i : Nat) (_h : i < n) : F i = halfMixed s st F 0 i := by
  unfold halfMixed
  split
  · rename_i h8; rw [if_neg (by omega)]; exact hF i h8
  · rfl
theorem halfMixed_step {s st : St} {F : Nat → Value} {t n : Nat} (h8 : t < 8) (i : Nat) (_h : i < n) : (if i = t then .int .u32 (wn (s.at t + st.at t)) else halfMixed s st F t i) = halfMixed s st F (t + 1) i := by
  unfold halfMixed
  by_cases e : i = t
  · subst e; rw [if_pos rfl, if_pos h8, if_pos (by omega)]
  · rw [if_neg e]
    split
    · by_cases h : i < t
      · rw [if_pos h, if_pos (by omega)]
      · rw [if_neg h, if_neg (by omega)]
    · rfl
theorem halfMixed_end {K : Nat → BitVec 32} {B : Nat → BitVec 8} {s st : St} {F : Nat → Value} (hst : rounds K (blockWords B) s 64 = st) {n : Nat} (i : Nat) (_h : i < n) : halfMixed s st F 8 i = if i < 8 then .int .u32 (wn ((mixed K s B).at i)) else F i := by
  unfold halfMixed mixed
  rw [hst, St.at_plus]
  split <;> rfl
theorem half_cell {w : World} {bs T n t : Nat} {s st : St} {F : Nat → Value} (h : w.rowIs bs T n (halfMixed s st F t)) (hn : 8 ≤ n) (h8 : t < 8) : w.cell? ⟨bs, t, none⟩ = some (.int .u32 (wn (s.at t))) := by
  rw [World.rowIs.cell h (by omega)]
  unfold halfMixed
  rw [if_pos h8, if_neg (by omega)]
theorem st_cells (st : St) (t : Nat) (h : t < 8) : (#[.int .u32 (wn st.a), .int .u32 (wn st.b), .int .u32 (wn st.c), .int .u32 (wn st.d), .int .u32 (wn st.e), .int .u32 (wn st.f), .int .u32 (wn st.g), .int .u32 (wn st.h)] : Array Value)[t]? = some (.int .u32 (wn (st.at t))) := by
  have : t = 0 ∨ t = 1 ∨ t = 2 ∨ t = 3 ∨ t = 4 ∨ t = 5 ∨ t = 6 ∨ t = 7 := by omega
  rcases this with rfl | rfl | rfl | rfl | rfl | rfl | rfl | rfl <;> rfl
theorem grownBy_store {w wr w' : World} {bs i : Nat} {v : Value} (h : w.grownBy wr (some bs)) (wx : World) (hx : w' = wx.setCell ⟨bs, i, none⟩ v) (hd : wr.drew = wx) : w.grownBy w' (some bs) := by
  subst hx hd
  refine ⟨h.os, h.tape, h.output, by simpa [World.setCell] using h.size, fun k hk hne => ?_⟩
  rw [Below.heap_setCell _ _ _ _ (fun e => hne (by rw [e]))]
  exact h.block k hk hne
theorem state_cells {w wr : World} {bs T n : Nat} {F : Nat → Value} {s : St} (hH : w.rowIs bs T n F) (hF : ∀ i, i < 8 → F i = .int .u32 (wn (s.at i))) (hn : 8 ≤ n) {k : Nat} (hb : Below k w wr) (hk : bs < k) :
    wr.cell? ⟨bs, 0, none⟩ = some (.int .u32 (wn s.a)) ∧ wr.cell? ⟨bs, 1, none⟩ = some (.int .u32 (wn s.b)) ∧ wr.cell? ⟨bs, 2, none⟩ = some (.int .u32 (wn s.c)) ∧ wr.cell? ⟨bs, 3, none⟩ = some (.int .u32 (wn s.d)) ∧
    wr.cell? ⟨bs, 4, none⟩ = some (.int .u32 (wn s.e)) ∧ wr.cell? ⟨bs, 5, none⟩ = some (.int .u32 (wn s.f)) ∧ wr.cell? ⟨bs, 6, none⟩ = some (.int .u32 (wn s.g)) ∧ wr.cell? ⟨bs, 7, none⟩ = some (.int .u32 (wn s.h)) := by
  have hc : ∀ i, i < 8 → wr.cell? ⟨bs, i, none⟩ = some (.int .u32 (wn (s.at i))) := fun i hi => by
    rw [hb.cell (p := ⟨bs, i, none⟩) hk, World.rowIs.cell hH (by omega), hF i hi]
  exact ⟨hc 0 (by omega), hc 1 (by omega), hc 2 (by omega), hc 3 (by omega), hc 4 (by omega), hc 5 (by omega), hc 6 (by omega), hc 7 (by omega)⟩
set_option maxRecDepth 100000 in
set_option maxHeartbeats 1000000 in
theorem mix_any (K : Nat → BitVec 32) (bs T n g o c : Nat) (F : Nat → Value) (s : St) (B : Nat → BitVec 8) (w : World) (hK : TabK K 2 w)
    (hH : w.rowIs bs T n F) (hn : 8 ≤ n) (hF : ∀ i, i < 8 → F i = .int .u32 (wn (s.at i))) (hB : bytesAt w g o 64 B) (hc : 64 ≤ c) (hc' : c ≤ 9223372036854775807) (hg : g < w.heap.size) :
    Calls Tryd.prog 107 #[.pointer (some ⟨bs, 0, none⟩), .slice (some ⟨g, o, none⟩) 64 c] w fun e w' => e = .returned (.tuple #[]) ∧
      w'.rowIs bs T n (fun i => if i < 8 then .int .u32 (wn ((mixed K s B).at i)) else F i) ∧ w.grownBy w' (some bs) := by
  have HB := Lib.hid hB
  have HF := Lib.hid hF
  have HK := Lib.hid hK
  have HH := Lib.hid hH
  have hbs := hH.lt
  clear hB hF hK hH
  go_enter Tryd.func107, Tryd.ntmps107
  go_wp2
  go_loopw [20] (fun v wr => ∃ t : Nat, t ≤ 16 ∧ v = .int .i64 t ∧ (∃ f, ringIs wr w.heap.size f ∧ ∀ i, i < t → f i = (blockWords B).getD i 0) ∧ Below w.heap.size w wr) (fun v _ => 16 - (intOf v).toNat)
  case atStart =>
    refine ⟨0, by omega, rfl, ⟨fun _ => 0, ?_, by omega⟩, (Below.refl _ _).alloc (Nat.le_refl _) _⟩
    exact ring_start w
  case round =>
    obtain ⟨t, ht, rfl, ⟨f, hr, hf⟩, hb⟩ := hrel
    have HR := Lib.hid hf
    clear hf
    by_cases hlt : t < 16
    · have c0 := (HB.out.below hb hg) (4 * t) (by omega)
      have c1 := (HB.out.below hb hg) (4 * t + 1) (by omega)
      have c2 := (HB.out.below hb hg) (4 * t + 2) (by omega)
      have c3 := (HB.out.below hb hg) (4 * t + 3) (by omega)
      have e0 : ¬ c = 4 * t := by omega
      go_wp2_with fail
      refine (word_any g (o + 4 * t) _ _ _ _ _ _ _ (by omega) c0 c1 c2 c3).mono ?_
      rintro e w1 ⟨rfl, q, rfl⟩
      have f1 := (hr.drewN q).cell hlt
      have f2 := (hr.drewN q).free t
      have hlt' : (t : Int) < 16 := by omega
      go_wp2
      go_roundw
      case rel =>
        exact ⟨t + 1, by omega, by go_num, ⟨_, (hr.drewN q).set t _ (fun _ _ => rfl), ring_step1 B f t hlt HR.out⟩, (hb.trans (below_drewN' _ _ _)).setCell (by simp) _⟩
      case measure => simp [intOf]; omega
    · have hlt' : ¬ (t : Int) < 16 := by omega
      obtain rfl : t = 16 := by omega
      obtain ⟨g0, g1, g2, g3, g4, g5, g6, g7⟩ := state_cells (HH.out) HF.out hn hb hbs
      go_wp2_with fail
      go_quiet (fail)
      obtain ⟨TT, cs, fr, hk1, hk2, hk3⟩ := HK.out
      have HK3 := Lib.hid hk3
      have hk4 : (wr.drewN nq).heap[2]? = some (.cells cs TT fr) := (hb.block 2 (heap_lt hk1)).trans hk1
      have hk5 : (Tryd.prog.info? 140).map (·.size) = some cs.size := by rw [hk2]; kernel_rfl
      have HK1 := Lib.hid hk1
      have HK2 := Lib.hid hk2
      have HK4 := Lib.hid hk4
      have HK5 := Lib.hid hk5
      clear hk3 hk1 hk2 hk4 hk5
      go_wp2_with (refine wpList_load_row rfl 140 _ rfl 2 rfl TT cs fr _ HK4.out Tryd.underlying140 rfl HK5.out ?_)
      go_loopw [6, 7, 8, 9, 10, 11, 12, 13, 64] (fun va vb vc vd ve vf vg vh v wx => ∃ t : Nat, t ≤ 64 ∧ v = .int .i64 t ∧ stIn (rounds K (blockWords B) s t) va vb vc vd ve vf vg vh ∧ (∃ f, ringIs wx w.heap.size f ∧ ringOk (blockWords B) t f) ∧ Below w.heap.size w wx) (fun _ _ _ _ _ _ _ _ v _ => 64 - (intOf v).toNat)
      case atStart =>
        exact ⟨0, by omega, rfl, ⟨rfl, rfl, rfl, rfl, rfl, rfl, rfl, rfl⟩, ⟨f, hr.drewN _, ringOk_start B f HR.out⟩, hb.trans (below_drewN' _ _ _)⟩
      case round =>
        clear hr g0 g1 g2 g3 g4 g5 g6 g7 hb
        obtain ⟨t, ht, rfl, ⟨rfl, rfl, rfl, rfl, rfl, rfl, rfl, rfl⟩, ⟨f, hr, hf⟩, hb⟩ := hrel
        have HR := Lib.hid hf
        clear hf
        generalize hst : rounds K (blockWords B) s t = st
        have HS := Lib.hid hst
        clear hst
        by_cases hlt : t < 64
        · have hlt' : (t : Int) < 64 := by omega
          have i0 := run_index_cells (P := Tryd.prog) (len := 64) (t := 140) (e := 115) (k := .u32) Tryd.underlying140 Tryd.underlying115 (by kernel_rfl) (cs := cs) (i := t) hlt (HK3.out t hlt)
          by_cases h16 : 16 ≤ t
          · obtain ⟨p0, q0, a0, b0, z0, r0⟩ := ring_place t (by omega)
            obtain ⟨p1, q1, a1, b1, z1, w1, r1⟩ := ring_place' t 1 1 rfl (by omega)
            obtain ⟨p9, q9, a9, b9, z9, w9, r9⟩ := ring_place' t 9 9 rfl (by omega)
            obtain ⟨p14, q14, a14, b14, z14, w14, r14⟩ := ring_place' t 14 14 rfl (by omega)
            have h16' : (16 : Int) ≤ t := by omega
            go_wp2_with fail
            have c0 := hr.cell (i := p0) (by omega)
            have c1 := hr.cell (i := p1) (by omega)
            have c9 := hr.cell (i := p9) (by omega)
            have c14 := hr.cell (i := p14) (by omega)
            have fz := hr.free p0
            refine wp_region_lex (fun w' => ∃ n, w' = wr.drewN n) (fun i => ([9, 21] : List Nat).contains i) 25 (by kernel_rfl) (by kernel_rfl) (⟨1, rfl⟩) ?_
            repeat (first | (refine lx_skipT (by go_big_quiet_skip; exact wpQuiet_nil trivial) (by kernel_rfl) ?_; simp only [Act.put, List.setIfInBounds_toArray, List.set_cons_succ, List.set_cons_zero]) | (refine lx_quietT rfl (by go_big_quiet_want; exact quiet_false (by assumption)) (by kernel_rfl) rfl ?_; intro Kx hKx; go_big_quiet_op; go_big_quiet_on))
            refine lx_effT rfl (by go_big_quiet_want; exact quiet_false (by assumption)) (by kernel_rfl) ?_; intro Kx hKx; go_wp2_with fail
            refine (small_any _ _ _ _ (by omega) (by omega) (by omega) _).mono ?_; rintro e w' ⟨rfl, q, rfl⟩
            go_wp2_with fail
            refine ⟨⟨_, rfl⟩, ?_⟩
            repeat (first | (refine lx_skipT (by go_big_quiet_skip; exact wpQuiet_nil trivial) (by kernel_rfl) ?_; simp only [Act.put, List.setIfInBounds_toArray, List.set_cons_succ, List.set_cons_zero]) | (refine lx_quietT rfl (by go_big_quiet_want; exact quiet_false (by assumption)) (by kernel_rfl) rfl ?_; intro Kx hKx; go_big_quiet_op; go_big_quiet_on))
            refine lx_effT rfl (by go_big_quiet_want; exact quiet_false (by assumption)) (by kernel_rfl) ?_; intro Kx hKx; go_wp2_with fail
            refine (small_any _ _ _ _ (by omega) (by omega) (by omega) _).mono ?_; rintro e w' ⟨rfl, q', rfl⟩
            go_wp2_with fail
            refine ⟨⟨_, rfl⟩, ?_⟩
            repeat (first | (refine lx_skipT (by go_big_quiet_skip; exact wpQuiet_nil trivial) (by kernel_rfl) ?_; simp only [Act.put, List.setIfInBounds_toArray, List.set_cons_succ, List.set_cons_zero]) | (refine lx_quietT rfl (by go_big_quiet_want; exact quiet_false (by assumption)) (by kernel_rfl) rfl ?_; intro Kx hKx; go_big_quiet_op; go_big_quiet_on))
            refine lx_done ?_
            go_wp2_with fail
            have hr2 := (hr.drewN (1 + q + q')).set p0 (f p0 + (rorx2s (f p1) 7 18 3 + f p9 + rorx2s (f p14) 17 19 10)) (g := fun j => if j = p0 then f p0 + (rorx2s (f p1) 7 18 3 + f p9 + rorx2s (f p14) 17 19 10) else f j) (fun _ _ => rfl)
            have hb2 := (hb.trans (below_drewN' _ _ (1 + q + q'))).setCell (p := ⟨w.heap.size, p0, none⟩) (Nat.le_refl _) (.int .u32 (wn (f p0 + (rorx2s (f p1) 7 18 3 + f p9 + rorx2s (f p14) 17 19 10))))
            have HW := Lib.hid (ring_new h16 HR.out q0 q1 q9 q14)
            go_quiet ((go_at_call 117; exact Calls.quiet_of_same (great_any _ _ _ _ (by omega) (by omega) (by omega) _)))
            go_wp2_with fail
            refine (great_any _ _ _ _ (by omega) (by omega) (by omega) _).mono ?_; rintro e w' ⟨rfl, rfl⟩
            go_wp2_with fail
            go_roundw
            case rel =>
              exact ⟨t + 1, by omega, by go_num, st_step HS.out HW.out, ⟨_, hr2.drewN _, ring_step h16 HR.out q0 HW.out⟩, hb2.trans (below_drewN' _ _ _)⟩
            case measure => simp [intOf]; omega
          · obtain ⟨p0, q0, a0, b0, z0, r0⟩ := ring_place t (by omega)
            have h16' : ¬ (16 : Int) ≤ t := by omega
            have c0 := hr.cell (i := p0) (by omega)
            go_wp2_with fail
            go_quiet ((go_at_call 117; exact Calls.quiet_of_same (great_any _ _ _ _ (by omega) (by omega) (by omega) _)))
            go_wp2_with fail
            refine (great_any _ _ _ _ (by omega) (by omega) (by omega) _).mono ?_; rintro e w' ⟨rfl, rfl⟩
            go_wp2_with fail
            go_roundw
            case rel =>
              exact ⟨t + 1, by omega, by go_num, st_step HS.out (ring_old (by omega) HR.out q0), ⟨_, hr.drewN _, ring_keep (by omega) HR.out⟩, hb.trans (below_drewN' _ _ _)⟩
            case measure => simp [intOf]; omega
        · obtain rfl : t = 64 := by omega
          have hlt' : ¬ ((64 : Nat) : Int) < 64 := by omega
          go_wp2_with fail
          go_loopw [148] (fun v wx => ∃ t : Nat, t ≤ 8 ∧ v = .int .i64 t ∧ wx.rowIs bs T n (halfMixed s st F t) ∧ w.grownBy wx (some bs)) (fun v _ => 8 - (intOf v).toNat)
          case atStart =>
            exact ⟨0, by omega, rfl, (HH.out.of_block (hb.block bs hbs)).congr (halfMixed_start HF.out), hb.os, hb.tape, hb.output, hb.size, fun k hk _ => hb.block k hk⟩
          case round =>
            clear hb hr
            obtain ⟨t, ht, rfl, hrow, hgr⟩ := hrel
            by_cases h8 : t < 8
            · have h8' : (t : Int) < 8 := by omega
              have i0 := run_index_cells (P := Tryd.prog) (len := 8) (t := 116) (e := 115) (k := .u32) Tryd.underlying116 Tryd.underlying115 (by kernel_rfl) (i := t) h8 (st_cells st t h8)
              have c0 := half_cell hrow hn h8
              have fz := World.rowIs.frozen hrow t
              go_wp2_with fail
              obtain ⟨wo, rfl⟩ : ∃ wo : World, wo = wr := ⟨_, rfl⟩
              refine wp_region_lex (fun w' => ∃ n, w' = wo.drewN n) (fun i => ([] : List Nat).contains i) 9 (by kernel_rfl) (by kernel_rfl) (⟨1, rfl⟩) ?_
              repeat (first | (refine lx_skipT (by go_big_quiet_skip; exact wpQuiet_nil trivial) (by kernel_rfl) ?_; simp only [Act.put, List.setIfInBounds_toArray, List.set_cons_succ, List.set_cons_zero]) | (refine lx_quietT rfl (by go_big_quiet_want; exact quiet_false (by assumption)) (by kernel_rfl) rfl ?_; intro Kx hKx; go_big_quiet_op; go_big_quiet_on))
              refine lx_done ?_
              go_wp2_with fail
              go_roundw
              case rel =>
                exact ⟨t + 1, by omega, by go_num, (World.rowIs.set (World.rowIs.drew hrow) t _).congr (halfMixed_step h8), grownBy_store hgr _ rfl rfl⟩
              case measure => simp [intOf]; omega
            · obtain rfl : t = 8 := by omega
              have h8' : ¬ ((8 : Nat) : Int) < 8 := by omega
              go_wp2_with fail
              go_end0
              exact ⟨rfl, hrow.congr (halfMixed_end HS.out), hgr⟩
end Go.Proofs.YtanodhagpegbfaaDoor
/- Slices that read as lists, one cell an element: what keeps them, how they are cut, and the law on append from such a slice. Of whatever program. -/
namespace Go.Proofs.YtanodhagpegbfaaDoor
open Go Go.RowKit

/-- The ending is a return of a value of which Q holds. -/
def Returns (Q : Value → World → Prop) (e : Ending) (w : World) : Prop := ∃ v, e = .returned v ∧ Q v w
theorem Returns.mk {Q : Value → World → Prop} {v : Value} {w : World} (h : Q v w) : Returns Q (.returned v) w := ⟨v, rfl, h⟩

/-- The slice value v reads as xs. -/
def Rd (w : World) (v : Value) (xs : List Value) : Prop :=
  ∃ ao cap, v = .slice ao xs.length cap ∧ xs.length ≤ cap ∧ cap ≤ 9223372036854775807 ∧ (ao = none → cap = 0) ∧ ∀ ad, ao = some ad → ∀ j u, xs[j]? = some u → w.cell? (ad.add j) = some u
theorem Addr.block_add (a : Addr) (n : Nat) : (a.add n).block = a.block := by unfold Addr.add; split <;> rfl
theorem Rd.keep {w w' : World} {v : Value} {xs : List Value} (h : Rd w v xs) (hk : ∀ g, v.ownBlock = some g → xs ≠ [] → g < w.heap.size → w'.heap[g]? = w.heap[g]?) : Rd w' v xs := by
  obtain ⟨ao, cap, rfl, h1, h2, h3, h4⟩ := h
  refine ⟨ao, cap, rfl, h1, h2, h3, fun ad ha j u hu => ?_⟩
  subst ha
  have hc := h4 ad rfl j u hu
  have hlt := World.block_lt_of_cell? w _ hc
  rw [Addr.block_add] at hlt
  rw [World.cell?_of_block (w := w) (by rw [Addr.block_add]; exact hk ad.block rfl (fun e => by simp [e] at hu) hlt)]
  exact hc
theorem Rd.grow {w w' : World} {v : Value} {xs : List Value} (h : Rd w v xs) (hb : Below w.heap.size w w') : Rd w' v xs := h.keep fun g _ _ hg => hb.block g hg
theorem Rd.below {w w' : World} {v : Value} {xs : List Value} (h : Rd w v xs) {k : Nat} (hb : Below k w w') (hk : ∀ g, v.ownBlock = some g → xs ≠ [] → g < k) : Rd w' v xs := h.keep fun g hg hx _ => hb.block g (hk g hg hx)
theorem Rd.grown {w w' : World} {v : Value} {xs : List Value} (h : Rd w v xs) {row : Option Nat} (hg : w.grownBy w' row) (hne : ∀ g, v.ownBlock = some g → xs ≠ [] → some g ≠ row) : Rd w' v xs := h.keep fun g hv hx hlt => hg.block g hlt (hne g hv hx)
theorem Rd.setCell {w : World} {v : Value} {xs : List Value} (h : Rd w v xs) {p : Addr} (hne : ∀ g, v.ownBlock = some g → xs ≠ [] → g ≠ p.block) (u : Value) : Rd (w.setCell p u) v xs := h.keep fun g hv hx _ => Below.heap_setCell _ _ _ _ (hne g hv hx)
theorem Rd.lt {w : World} {v : Value} {xs : List Value} (h : Rd w v xs) {g : Nat} (hg : v.ownBlock = some g) (hx : xs ≠ []) : g < w.heap.size := by
  obtain ⟨ao, cap, rfl, h1, h2, h3, h4⟩ := h
  cases ao with
  | none => cases hg
  | some ad =>
    simp only [Value.ownBlock, Option.some.injEq] at hg
    subst hg
    cases xs with
    | nil => exact absurd rfl hx
    | cons x xs =>
      have := World.block_lt_of_cell? w _ (h4 ad rfl 0 x rfl)
      rwa [Addr.block_add] at this
theorem Rd.nil (w : World) : Rd w (.slice none 0 0) [] := ⟨none, 0, rfl, Nat.le_refl _, by omega, fun _ => rfl, fun _ h => by cases h⟩
theorem Rd.at {w : World} {v : Value} {xs : List Value} (h : Rd w v xs) (hx : 0 < xs.length) : ∃ g o cap, v = .slice (some ⟨g, o, none⟩) xs.length cap ∧ xs.length ≤ cap ∧ cap ≤ 9223372036854775807 ∧ g < w.heap.size ∧ ∀ j u, xs[j]? = some u → w.cell? ⟨g, o + j, none⟩ = some u := by
  obtain ⟨ao, cap, rfl, h1, h2, h3, h4⟩ := h
  cases ao with
  | none => have := h3 rfl; omega
  | some ad =>
    obtain ⟨g, o, spot⟩ := ad
    have hc := h4 _ rfl 0 _ (List.getElem?_eq_getElem hx)
    have hs : spot = none := by
      cases spot with
      | none => rfl
      | some b =>
        simp only [Addr.add, if_true, World.cell?] at hc
        split at hc <;> simp at hc
    subst hs
    refine ⟨g, o, cap, rfl, h1, h2, ?_, fun j u hu => ?_⟩
    · have := World.block_lt_of_cell? w _ hc; rwa [Addr.block_add] at this
    · have := h4 _ rfl j u hu; rwa [Addr.add_lit] at this
theorem Rd.of_own {w : World} {base e : Nat} {v : Value} {n : Nat} {xs : List Value} (h : w.ownsRow base e 1 v n xs) : Rd w v xs := by
  have hl : xs.length = n := by simpa using h.1
  rcases h.2 with ⟨rfl, rfl⟩ | ⟨g, cap, cur, rfl, _, hg, hn, hm, hc, ht⟩
  · have : xs = [] := List.eq_nil_of_length_eq_zero hl
    subst this
    exact Rd.nil w
  · refine ⟨some ⟨g, 0, none⟩, cap, by rw [hl], by omega, by simpa [maxLen] using hm, fun he => (by cases he), fun ad ha j u hu => ?_⟩
    cases ha
    exact h.cells rfl j u hu
theorem ownsRow_mono {w : World} {base base' e size : Nat} {v : Value} {n : Nat} {xs : List Value} (h : w.ownsRow base e size v n xs) (hb : base' ≤ base) : w.ownsRow base' e size v n xs := by
  refine ⟨h.1, ?_⟩
  rcases h.2 with h | ⟨g, cap, cur, h1, h2, h3⟩
  · exact .inl h
  · exact .inr ⟨g, cap, cur, h1, Nat.le_trans hb h2, h3⟩
theorem ownsRow_below {w w' : World} {base e size : Nat} {v : Value} {n : Nat} {xs : List Value} (h : w.ownsRow base e size v n xs) (hk : ∀ g, v.ownBlock = some g → w'.heap[g]? = w.heap[g]?) : w'.ownsRow base e size v n xs := by
  refine ⟨h.1, ?_⟩
  rcases h.2 with h | ⟨g, cap, cur, rfl, h2, h3, h4⟩
  · exact .inl h
  · exact .inr ⟨g, cap, cur, rfl, h2, by rw [hk g rfl]; exact h3, h4⟩
/-- Cut off ahead: 's[k:]' as the walk writes it, for a slice that is not empty. -/
theorem Rd.drop {w : World} {g o cap : Nat} {xs : List Value} (h : Rd w (.slice (some ⟨g, o, none⟩) xs.length cap) xs) {k : Nat} (hk : k ≤ xs.length) (ao : Option Addr) (hao : ¬ cap = k → ao = some ⟨g, o + k, none⟩) :
    Rd w (.slice ao (xs.length - k) (cap - k)) (xs.drop k) := by
  obtain ⟨ao', cap', hv, h1, h2, h3, h4⟩ := h
  cases hv
  refine ⟨ao, cap - k, by rw [List.length_drop], by rw [List.length_drop]; omega, by omega, fun e => ?_, fun ad ha j u hu => ?_⟩
  · by_cases hc : cap = k
    · omega
    · rw [hao hc] at e; cases e
  · rw [List.getElem?_drop] at hu
    have hj : k + j < xs.length := (List.getElem?_eq_some_iff.1 hu).1
    rw [hao (by omega)] at ha
    cases ha
    have := h4 _ rfl (k + j) u hu
    rw [Addr.add_lit] at this ⊢
    rwa [Nat.add_assoc]
/-- Cut off behind: 's[:k]'. -/
theorem Rd.take {w : World} {g o cap : Nat} {xs : List Value} (h : Rd w (.slice (some ⟨g, o, none⟩) xs.length cap) xs) {k : Nat} (hk : k ≤ xs.length) :
    Rd w (.slice (some ⟨g, o, none⟩) k cap) (xs.take k) := by
  obtain ⟨ao', cap', hv, h1, h2, h3, h4⟩ := h
  cases hv
  refine ⟨_, cap, by rw [List.length_take, Nat.min_eq_left hk], by rw [List.length_take]; omega, h2, fun e => (by cases e), fun ad ha j u hu => ?_⟩
  cases ha
  refine h4 _ rfl j u ?_
  rw [List.getElem?_take] at hu
  split at hu
  · exact hu
  · cases hu

theorem Rd.none_nil {w : World} {n c : Nat} {xs : List Value} (h : Rd w (.slice none n c) xs) : xs = [] := by
  obtain ⟨ao, cap, hv, h1, _, h3, _⟩ := h
  cases hv
  have := h3 rfl
  exact List.eq_nil_of_length_eq_zero (by omega)
theorem Rd.none_zero {w : World} {n c : Nat} {xs : List Value} (h : Rd w (.slice none n c) xs) : xs = [] ∧ c = 0 := by
  obtain ⟨ao, cap, hv, h1, _, h3, _⟩ := h
  cases hv
  have := h3 rfl
  exact ⟨List.eq_nil_of_length_eq_zero (by omega), this⟩
/-- 'append(s, x...)', s nil or the call's own, x a slice that reads as a list. -/
theorem wpList_append_rd {P : Program} {w : World} {ops : Array Oper} {rest : List Oper} {o : Oper} {a : Act} {Q : Exit → Act → World → Prop} (hgd : o.guard = none) (s x : Operand) (t : TypeId)
    (ho : o.op = .call { callee := .builtin .append, args := #[s, x], argTypes := #[t, t] })
    (base : Nat) (e : TypeId) (z : Value) (bytes : Nat) (ht : P.underlying t = some (.slice e)) (hinfo : (P.info? e).map (fun i => (i.zero, i.size, i.bytes)) = some (some z, 1, bytes)) (hzs : z.cells.size = 1)
    (v vx : Value) (xs news : List Value) (hs : a.eval s = v) (hx : a.eval x = vx) (hown : w.ownsRow base e 1 v xs.length xs) (hrd : Rd w vx news) (h1 : ∀ u ∈ news, u.oneCell' = true)
    (hbytes : (xs.length + news.length) * bytes ≤ 140737488355328) (hlen : xs.length + news.length ≤ 140737488355328) (hbase : base ≤ w.heap.size)
    (h : ∀ v' w', w'.ownsRow base e 1 v' (xs ++ news).length (xs ++ news) → w.grownBy w' v.ownBlock → (v' = .slice none 0 0 ↔ v = .slice none 0 0 ∧ news = []) → wpList P ops Q rest (a.put o.dst v') w') : wpList P ops Q (o :: rest) a w := by
  obtain ⟨i, hi, hz1, hz2, hz3⟩ := info_parts hinfo
  obtain ⟨ao, cap, rfl, r1, r2, r3, r4⟩ := hrd
  have hnl : (news.length = 0) ↔ news = [] := List.length_eq_zero_iff
  cases ao with
  | none =>
    have hc := r3 rfl
    have hn : news = [] := hnl.1 (by omega)
    subst hn hc
    refine wpList_append_own_none hgd s x t ho base e i 1 ht hi v _ xs hs hown hx ?_
    exact h v w (by simpa using hown) ⟨rfl, rfl, rfl, Nat.le_refl _, fun _ _ _ => rfl⟩ (by simp)
  | some ad =>
    refine wpList_append_own w hgd s x t ho base e i z 1 bytes ht hi hz1 hz2 hz3 hzs (by omega) v _ xs hs hown ad news.length cap news hx (by simp) (r4 ad rfl) h1 (by unfold maxLen; omega) hbytes hbase ?_
    intro v' w' k1 k2 k3
    exact h v' w' (by rw [List.length_append]; exact k1) k2 (by rw [k3, hnl])
/-- The ending is a return of a slice of n elements of which Q holds. -/
def RetSl (n : Nat) (Q : Value → World → Prop) (e : Ending) (w : World) : Prop := ∃ ao cap, e = .returned (.slice ao n cap) ∧ Q (.slice ao n cap) w
theorem own_shape {w : World} {base e size : Nat} {v : Value} {n : Nat} {xs : List Value} (h : w.ownsRow base e size v n xs) : ∃ ao cap, v = .slice ao n cap := by
  rcases h.2 with ⟨rfl, rfl⟩ | ⟨g, cap, cur, rfl, _⟩
  · exact ⟨none, 0, rfl⟩
  · exact ⟨_, cap, rfl⟩
theorem RetSl.of_own {n : Nat} {Q : Value → World → Prop} {e : Ending} {w : World} {base el size : Nat} {xs : List Value} (h : Returns Q e w) (ho : ∀ v w, Q v w → w.ownsRow base el size v n xs) : RetSl n Q e w := by
  obtain ⟨v, rfl, hq⟩ := h
  obtain ⟨ao, cap, rfl⟩ := own_shape (ho v w hq)
  exact ⟨ao, cap, rfl, hq⟩
/-- Of what was there only blocks of S may have turned. -/
structure Fr (S : Nat → Prop) (w w' : World) : Prop where
  os : w'.os = w.os
  tape : w'.tape = w.tape
  output : w'.output = w.output
  size : w.heap.size ≤ w'.heap.size
  block : ∀ k, k < w.heap.size → ¬ S k → w'.heap[k]? = w.heap[k]?
theorem Fr.refl (S : Nat → Prop) (w : World) : Fr S w w := ⟨rfl, rfl, rfl, Nat.le_refl _, fun _ _ _ => rfl⟩
theorem Fr.trans {S : Nat → Prop} {a b c : World} (h : Fr S a b) (k : Fr S b c) : Fr S a c :=
  ⟨k.os.trans h.os, k.tape.trans h.tape, k.output.trans h.output, Nat.le_trans h.size k.size, fun i hi hn => (k.block i (Nat.lt_of_lt_of_le hi h.size) hn).trans (h.block i hi hn)⟩
theorem Fr.mono {S S' : Nat → Prop} {w w' : World} (h : Fr S w w') (hs : ∀ k, k < w.heap.size → S k → S' k) : Fr S' w w' := ⟨h.os, h.tape, h.output, h.size, fun k hk hn => h.block k hk fun hh => hn (hs k hk hh)⟩
theorem Fr.of_below {S : Nat → Prop} {w w' : World} (h : Below w.heap.size w w') : Fr S w w' := ⟨h.os, h.tape, h.output, h.size, fun k hk _ => h.block k hk⟩
theorem Fr.of_grown {S : Nat → Prop} {w w' : World} {row : Option Nat} (h : w.grownBy w' row) (hs : ∀ k, row = some k → S k) : Fr S w w' := ⟨h.os, h.tape, h.output, h.size, fun k hk hn => h.block k hk fun e => hn (hs k e.symm)⟩
theorem Fr.drew {S : Nat → Prop} {a w : World} (h : Fr S a w) : Fr S a w.drew := ⟨h.os, h.tape, h.output, h.size, h.block⟩
theorem Fr.drewN {S : Nat → Prop} {a w : World} (h : Fr S a w) (n : Nat) : Fr S a (w.drewN n) := ⟨h.os, h.tape, h.output, h.size, h.block⟩
theorem Fr.setCell {S : Nat → Prop} {a w : World} (h : Fr S a w) {p : Addr} (hp : S p.block) (u : Value) : Fr S a (w.setCell p u) :=
  h.trans ⟨rfl, rfl, rfl, by simp [World.setCell], fun k _ hn => Below.heap_setCell _ _ _ _ (fun e => hn (e ▸ hp))⟩
theorem Fr.alloc {S : Nat → Prop} {a w : World} (h : Fr S a w) (o : Obj) : Fr S a (w.alloc o) := h.trans (Fr.of_below ((Below.refl _ _).alloc (Nat.le_refl _) _))
theorem Fr.below {S : Nat → Prop} {w w' : World} (h : Fr S w w') {B : Nat} (hB : B ≤ w.heap.size) (hs : ∀ k, S k → B ≤ k) : Below B w w' :=
  ⟨h.os, h.tape, h.output, h.size, fun k hk => h.block k (by omega) fun hh => by have := hs k hh; omega⟩
theorem Rd.fr {w w' : World} {v : Value} {xs : List Value} (h : Rd w v xs) {S : Nat → Prop} (hf : Fr S w w') (hn : ∀ g, v.ownBlock = some g → xs ≠ [] → ¬ S g) : Rd w' v xs := h.keep fun g hg hx hlt => hf.block g hlt (hn g hg hx)
theorem own_lt {w : World} {base e size : Nat} {v : Value} {n : Nat} {xs : List Value} (h : w.ownsRow base e size v n xs) {g : Nat} (hg : v.ownBlock = some g) : base ≤ g ∧ g < w.heap.size := h.lt g hg
theorem ownsRow_fr {w w' : World} {base e size : Nat} {v : Value} {n : Nat} {xs : List Value} (h : w.ownsRow base e size v n xs) {S : Nat → Prop} (hf : Fr S w w') (hn : ∀ g, v.ownBlock = some g → ¬ S g) : w'.ownsRow base e size v n xs :=
  ownsRow_below h fun g hg => hf.block g (own_lt h hg).2 (hn g hg)
end Go.Proofs.YtanodhagpegbfaaDoor
/- The walk of slices.Clone at bytes: what it hands back is the call's own, and reads as what came in. -/
namespace Go.Proofs.YtanodhagpegbfaaDoor
open Go Go.RowKit
theorem info_byte : (Tryd.prog.info? 5).map (fun i => (i.zero, i.size, i.bytes)) = some (some (.int .u8 0), 1, 1) := by kernel_rfl
set_option maxHeartbeats 400000 in
theorem clone_none (w : World) : Calls Tryd.prog 102 #[.slice none 0 0] w (Returns fun v' w' => w'.ownsRow w.heap.size 5 1 v' 0 [] ∧ Below w.heap.size w w') := by
  have heq := fun w => Lib.run_eql_slice_nil (P := Tryd.prog) w 24 5 none 0 0 0 0 Tryd.underlying24
  go_enter Tryd.func102, Tryd.ntmps102
  go_wp2
  go_ret
  exact Returns.mk ⟨World.ownsRow_nil _ _ _ _, Below.refl _ _⟩
set_option maxHeartbeats 400000 in
theorem clone_any0 (v : Value) (xs : List Value) (w : World) (hrd : Rd w v xs) (h1 : ∀ u ∈ xs, u.oneCell' = true) (hlen : xs.length ≤ 140737488355328) :
    Calls Tryd.prog 102 #[v] w (Returns fun v' w' => w'.ownsRow w.heap.size 5 1 v' xs.length xs ∧ Below w.heap.size w w') := by
  have hl := hrd
  obtain ⟨ao, cap, rfl, r1, r2, r3, r4⟩ := hl
  have HX := Lib.hid h1
  clear h1 r4 r3
  have heq := fun w => Lib.run_eql_slice_nil (P := Tryd.prog) w 24 5 ao xs.length cap 0 0 Tryd.underlying24
  cases ao with
  | none =>
    obtain ⟨rfl, rfl⟩ := hrd.none_zero
    exact clone_none w
  | some ad =>
    have HR := Lib.hid hrd
    clear hrd
    have HO := Lib.hid (World.ownsRow_lit (base := w.heap.size) (e := 5) (size := 1) w #[] 0 (Nat.le_refl _) (by decide) rfl)
    go_enter Tryd.func102, Tryd.ntmps102
    go_wp2_with ((at_builtin; refine wpList_append_rd rfl _ _ 24 rfl w.heap.size 5 (.int .u8 0) 1 Tryd.underlying24 info_byte rfl (.slice (some ⟨w.heap.size, 0, none⟩) 0 0) (.slice (some ad) xs.length cap) [] xs rfl rfl HO.out (HR.out.grow ((Below.refl _ _).alloc (Nat.le_refl _) _)) HX.out (by simp; omega) (by simp; omega) (by simp) ?_; intro v' w' k1 k2 k3))
    go_ret
    exact Returns.mk ⟨k1, ((Below.refl _ _).alloc (Nat.le_refl _) _).grown k2 (by simp) (by simp [Value.ownBlock])⟩
theorem clone_any (v : Value) (xs : List Value) (w : World) (hrd : Rd w v xs) (h1 : ∀ u ∈ xs, u.oneCell' = true) (hlen : xs.length ≤ 140737488355328) :
    Calls Tryd.prog 102 #[v] w (RetSl xs.length fun v' w' => w'.ownsRow w.heap.size 5 1 v' xs.length xs ∧ Below w.heap.size w w') :=
  (clone_any0 v xs w hrd h1 hlen).mono fun _ _ h => RetSl.of_own h fun _ _ q => q.1
end Go.Proofs.YtanodhagpegbfaaDoor
namespace Go.Proofs.YtanodhagpegbfaaDoor
open Go Go.RowKit
/-- The cells of a sum that is not done. -/
def shaCells (s : St) (N : Nat) (vr : Value) (i : Nat) : Value := if i < 8 then .int .u32 (wn (s.at i)) else if i = 8 then .int .u64 (N : Int) else vr
theorem shaCells_low {s : St} {N : Nat} {vr : Value} (i : Nat) (h : i < 8) : shaCells s N vr i = .int .u32 (wn (s.at i)) := by unfold shaCells; rw [if_pos h]
theorem shaCells_8 (s : St) (N : Nat) (vr : Value) : shaCells s N vr 8 = .int .u64 (N : Int) := rfl
theorem shaCells_9 (s : St) (N : Nat) (vr : Value) : shaCells s N vr 9 = vr := rfl
theorem shaCells_set8 (s : St) (N M : Nat) (vr : Value) (i : Nat) (h : i < 10) : (if i = 8 then .int .u64 (M : Int) else shaCells s N vr i) = shaCells s M vr i := by
  have : i = 0 ∨ i = 1 ∨ i = 2 ∨ i = 3 ∨ i = 4 ∨ i = 5 ∨ i = 6 ∨ i = 7 ∨ i = 8 ∨ i = 9 := by omega
  rcases this with rfl | rfl | rfl | rfl | rfl | rfl | rfl | rfl | rfl | rfl <;> rfl
theorem shaCells_set9 (s : St) (N : Nat) (vr vx : Value) (i : Nat) (h : i < 10) : (if i = 9 then vx else shaCells s N vr i) = shaCells s N vx i := by
  have : i = 0 ∨ i = 1 ∨ i = 2 ∨ i = 3 ∨ i = 4 ∨ i = 5 ∨ i = 6 ∨ i = 7 ∨ i = 8 ∨ i = 9 := by omega
  rcases this with rfl | rfl | rfl | rfl | rfl | rfl | rfl | rfl | rfl | rfl <;> rfl
theorem shaCells_mixed (s s' : St) (N : Nat) (vr : Value) (i : Nat) (_h : i < 10) : (if i < 8 then .int .u32 (wn (s'.at i)) else shaCells s N vr i) = shaCells s' N vr i := by
  unfold shaCells
  split <;> rfl
/-- What a slot that holds a slice has as its length. -/
def lenV : Value → Nat | .slice _ n _ => n | _ => 0
theorem TabK_fr {K : Nat → BitVec 32} {g : Nat} {w w' : World} (h : TabK K g w) {S : Nat → Prop} (hf : Fr S w w') (hn : ¬ S g) : TabK K g w' := by
  obtain ⟨T, cs, fr, h1, h2⟩ := h
  exact ⟨T, cs, fr, (hf.block g (heap_lt h1) hn).trans h1, h2⟩
theorem bytesAt_of {w : World} {g o n : Nat} {l : List (BitVec 8)} (h : ∀ j u, (bv l)[j]? = some u → w.cell? ⟨g, o + j, none⟩ = some u) (hn : n ≤ l.length) : bytesAt w g o n (fun i => l.getD i 0) :=
  fun j hj => h j _ (bv_at l j (by omega))
/-- The blocks that a sum in progress may turn. -/
def takeS (bs : Nat) (vr : Value) (k : Nat) : Prop := k = bs ∨ vr.ownBlock = some k

def takeInv (K : Nat → BitVec 32) (bs : Nat) (s : St) (N : Nat) (vr : Value) (d : List (BitVec 8)) (w : World) (v : Value) (wr : World) : Prop :=
  ∃ k, 64 * k ≤ d.length ∧ Rd wr v (bv (d.drop (64 * k))) ∧ (∀ g, v.ownBlock = some g → bs < g) ∧ wr.rowIs bs 118 10 (shaCells (absorb K k s d) N vr) ∧ Fr (takeS bs vr) w wr
theorem takeInv_start {K : Nat → BitVec 32} {bs : Nat} {s : St} {N : Nat} {vr v : Value} {d : List (BitVec 8)} {w w1 : World} (h1 : w1.ownsRow (bs + 1) 5 1 v (bv d).length (bv d)) (hf : Fr (takeS bs vr) w w1)
    (hr : w1.rowIs bs 118 10 (shaCells s N vr)) : takeInv K bs s N vr d w v w1 :=
  ⟨0, by omega, by simpa using Rd.of_own h1, fun g hg => (own_lt h1 hg).1, hr, hf⟩
theorem takeInv_step {K : Nat → BitVec 32} {bs : Nat} {s : St} {N : Nat} {vr : Value} {d : List (BitVec 8)} {w wr w2 : World} {k g o cap : Nat} {ao : Option Addr} (hl : 64 ≤ d.length - 64 * k)
    (hr : Rd wr (.slice (some ⟨g, o, none⟩) (bv (d.drop (64 * k))).length cap) (bv (d.drop (64 * k)))) (hf : Fr (takeS bs vr) w wr) (hv : ∀ g', (Value.slice (some ⟨g, o, none⟩) (bv (d.drop (64 * k))).length cap).ownBlock = some g' → bs < g')
    (hrow : w2.rowIs bs 118 10 (fun i => if i < 8 then .int .u32 (wn ((mixed K (absorb K k s d) fun i => (d.drop (64 * k)).getD i 0).at i)) else shaCells (absorb K k s d) N vr i)) (hg : wr.drew.grownBy w2 (some bs))
    (hao : ¬ cap = 64 → ao = some ⟨g, o + 64, none⟩) (hao' : ∀ n c g', (Value.slice ao n c).ownBlock = some g' → g' = g) : takeInv K bs s N vr d w (.slice ao ((bv (d.drop (64 * k))).length - 64) (cap - 64)) w2 := by
  have hg' : wr.grownBy w2 (some bs) := ⟨hg.os, hg.tape, hg.output, hg.size, hg.block⟩
  have hxl : (bv (d.drop (64 * k))).length = d.length - 64 * k := by rw [bv_length, List.length_drop]
  have hgb : bs < g := hv g rfl
  refine ⟨k + 1, by omega, ?_, ?_, ?_, hf.trans (Fr.of_grown hg' fun k hk => .inl (by cases hk; rfl))⟩
  · have h1 := hr.drop (k := 64) (by omega) ao hao
    rw [← bv_drop, List.drop_drop, show 64 * k + 64 = 64 * (k + 1) by omega] at h1
    exact h1.grown hg' fun g' hg'' _ e => by
      have := hao' _ _ g' hg''
      simp only [Option.some.injEq] at e
      omega
  · intro g' hg''
    have := hao' _ _ g' hg''
    omega
  · rw [absorb_succ]
    exact hrow.congr fun i hi => shaCells_mixed _ _ _ _ i hi
theorem takeEnd {K : Nat → BitVec 32} {bs : Nat} {s : St} {N : Nat} {vr v' : Value} {rest b d : List (BitVec 8)} {w wr w2 : World} {k : Nat} (hd : d = rest ++ b) (h64 : d.length - 64 * k < 64) (hk : 64 * k ≤ d.length) (hf : Fr (takeS bs vr) w wr) (hbw : bs < wr.heap.size) (_hdl : d.length ≤ 140737488355328)
    (hrow : w2.rowIs bs 118 10 (shaCells (absorb K k s d) (N + (bv b).length) vr)) (ho : w2.ownsRow wr.heap.size 5 1 v' (bv (d.drop (64 * k))).length (bv (d.drop (64 * k)))) (hb : Below wr.heap.size wr w2) :
    (w2.setCell ⟨bs, 9, none⟩ v').rowIs bs 118 10 (shaCells (absorb K ((rest ++ b).length / 64) s (rest ++ b)) (N + b.length) v') ∧
      (w2.setCell ⟨bs, 9, none⟩ v').ownsRow w.heap.size 5 1 v' (bv ((rest ++ b).drop (64 * ((rest ++ b).length / 64)))).length (bv ((rest ++ b).drop (64 * ((rest ++ b).length / 64)))) ∧ Fr (takeS bs vr) w (w2.setCell ⟨bs, 9, none⟩ v') := by
  have hkn : (rest ++ b).length / 64 = k := by rw [← hd]; omega
  rw [hkn, ← hd, ← bv_length b]
  refine ⟨(World.rowIs.set hrow 9 v').congr (shaCells_set9 _ _ vr v'), ?_, (hf.trans (Fr.of_below hb)).setCell (.inl rfl) _⟩
  refine ownsRow_setCell_other (a := ⟨bs, 9, none⟩) (ownsRow_mono ho hf.size) (fun e => ?_) _
  have := (own_lt ho e).1
  simp only at this
  omega
set_option maxRecDepth 100000 in
set_option maxHeartbeats 1000000 in
theorem take_any (K : Nat → BitVec 32) (bs : Nat) (s : St) (N : Nat) (vr vb : Value) (rest b : List (BitVec 8)) (w : World) (hK : TabK K 2 w) (hg : 2 < bs)
    (hrow : w.rowIs bs 118 10 (shaCells s N vr)) (hown : w.ownsRow (bs + 1) 5 1 vr (bv rest).length (bv rest)) (hb : Rd w vb (bv b)) (hbne : ∀ g, vb.ownBlock = some g → bv b ≠ [] → g ≠ bs)
    (hN : N ≤ 1152921504606846976) (hlen : (bv rest).length + (bv b).length ≤ 140737488355328) :
    Calls Tryd.prog 90 #[.pointer (some ⟨bs, 0, none⟩), vb] w fun e w' => e = .returned (.tuple #[]) ∧ ∃ vr', w'.rowIs bs 118 10 (shaCells (absorb K ((rest ++ b).length / 64) s (rest ++ b)) (N + b.length) vr') ∧
      w'.ownsRow w.heap.size 5 1 vr' (bv ((rest ++ b).drop (64 * ((rest ++ b).length / 64)))).length (bv ((rest ++ b).drop (64 * ((rest ++ b).length / 64)))) ∧ Fr (takeS bs vr) w w' := by
  have HB := Lib.hid hb
  obtain ⟨aob, capb, rfl, b1, b2, -, -⟩ := hb
  have HK := Lib.hid hK
  have HO := Lib.hid hown
  have HR := Lib.hid hrow
  have hbs := hrow.lt
  have c8 := hrow.cell (i := 8) (by omega)
  rw [shaCells_8] at c8
  have c9 := hrow.cell (i := 9) (by omega)
  rw [shaCells_9] at c9
  have f8 := hrow.frozen 8
  have e1 : IntKind.u64.wrap (((bv b).length : Nat) : Int) = (((bv b).length : Nat) : Int) := IntWalk.u64_in _ (by omega)
  have e2 : IntKind.u64.wrap ((N : Int) + (((bv b).length : Nat) : Int)) = ((N + (bv b).length : Nat) : Int) := by rw [IntWalk.u64_in _ (by omega)]; rfl
  have hvr : ∀ g, vr.ownBlock = some g → bs + 1 ≤ g ∧ g < w.heap.size := fun g hg => own_lt hown hg
  have HO1 := Lib.hid (ownsRow_setCell_other (a := ⟨bs, 8, none⟩) hown (fun e => by have := hvr bs e; omega) (.int .u64 ((N + (bv b).length : Nat) : Int)))
  have HB1 := Lib.hid (HB.out.setCell (p := ⟨bs, 8, none⟩) hbne (.int .u64 ((N + (bv b).length : Nat) : Int)))
  have HF1 := Lib.hid (((Fr.refl (takeS bs vr) w).setCell (p := ⟨bs, 8, none⟩) (.inl rfl) (.int .u64 ((N + (bv b).length : Nat) : Int))))
  have HR1 := Lib.hid ((World.rowIs.set hrow 8 (.int .u64 ((N + (bv b).length : Nat) : Int))).congr (shaCells_set8 s N _ vr))
  have HV := Lib.hid hvr
  clear hK hown hrow hN hvr hbne
  go_enter Tryd.func90, Tryd.ntmps90
  go_wp2_with ((at_builtin; refine wpList_append_rd rfl _ _ 24 rfl (bs + 1) 5 (.int .u8 0) 1 Tryd.underlying24 info_byte rfl vr (.slice aob (bv b).length capb) (bv rest) (bv b) rfl rfl HO1.out HB1.out (bv_one b) (by omega) (by omega) (by simp; omega) ?_; intro v1 w1 k1 k2 k3))
  obtain ⟨d, hd⟩ : ∃ d, d = rest ++ b := ⟨_, rfl⟩
  have k1' : w1.ownsRow (bs + 1) 5 1 v1 (bv d).length (bv d) := by rw [hd, bv_append]; exact k1
  have k2' : (w.setCell ⟨bs, 8, none⟩ (.int .u64 ((N + (bv b).length : Nat) : Int))).grownBy w1 vr.ownBlock := k2
  have HD := Lib.hid hd
  have HI := Lib.hid (takeInv_start (s := s) (K := K) k1' (HF1.out.trans (Fr.of_grown k2' fun k hk => .inr hk)) (HR1.out.of_block (k2'.block bs (by simpa using hbs) (fun e => by have := HV.out bs e.symm; omega))))
  clear k1 k2 k3 k1' k2' hd c8 c9 f8 e1 e2
  have hdl : d.length ≤ 140737488355328 := by rw [HD.out, List.length_append, ← bv_length, ← bv_length]; exact hlen
  go_loopw [4] (fun v wr => takeInv K bs s (N + (bv b).length) vr d w v wr) (fun v _ => lenV v)
  case atStart => exact HI.out
  case round =>
    obtain ⟨k, hk, hr, hv, hrow, hfr⟩ := hrel
    have hxl : (bv (d.drop (64 * k))).length = d.length - 64 * k := by rw [bv_length, List.length_drop]
    by_cases h64 : 64 ≤ (bv (d.drop (64 * k))).length
    · have HRd := Lib.hid hr
      obtain ⟨g, o, cap, rfl, r1, r2, r3, r4⟩ := hr.at (by omega)
      have HX := Lib.hid hxl
      have hK' : TabK K 2 wr := TabK_fr HK.out hfr (fun hh => by rcases hh with hh | hh; omega; have := HV.out _ hh; omega)
      have h64' : (64 : Int) ≤ ((bv (d.drop (64 * k))).length : Nat) := by omega
      have hcap : (64 : Int) ≤ (cap : Int) := by omega
      obtain ⟨wo, rfl⟩ : ∃ wo : World, wo = wr := ⟨_, rfl⟩
      have HK' := Lib.hid (show TabK K 2 wo.drew from hK')
      have HRow := Lib.hid (World.rowIs.drew hrow)
      have HBy := Lib.hid (show bytesAt wo.drew g o 64 _ from bytesAt_of r4 (by rw [← bv_length]; exact h64))
      have HGl := Lib.hid (show g < wo.drew.heap.size from r3)
      clear r4 hxl hrow hK' hr
      by_cases hc : cap = 64
      all_goals
        go_wp2_with fail
        refine wp_region_lex (fun _ => True) (fun i => ([5] : List Nat).contains i) 6 (by kernel_rfl) (by kernel_rfl) (trivial) ?_
        repeat (first | (refine lx_skipT (by go_big_quiet_skip; exact wpQuiet_nil trivial) (by kernel_rfl) ?_; simp only [Act.put, List.setIfInBounds_toArray, List.set_cons_succ, List.set_cons_zero]) | (refine lx_quietT rfl (by go_big_quiet_want; exact quiet_false (by assumption)) (by kernel_rfl) rfl ?_; intro Kx hKx; go_big_quiet_op; go_big_quiet_on))
        refine lx_effT rfl (by go_big_quiet_want; exact quiet_false (by assumption)) (by kernel_rfl) ?_; intro Kx hKx; go_wp2_with fail
        refine (mix_any K bs 118 10 g o _ (shaCells (absorb K k s d) (N + (bv b).length) vr) (absorb K k s d) (fun i => (d.drop (64 * k)).getD i 0) wo.drew HK'.out HRow.out (by omega) shaCells_low HBy.out (by omega) (by omega) HGl.out).mono ?_
        rintro e w2 ⟨rfl, hrow2, hgr2⟩
        have HS := Lib.hid hrow2
        have HG := Lib.hid hgr2
        clear hrow2 hgr2
        go_wp2_with fail
        refine ⟨trivial, ?_⟩
        refine lx_done ?_
        go_wp2_with fail
        go_roundw
        case rel =>
          first
            | exact takeInv_step (ao := some ⟨g, o + 64, none⟩) (HX.out ▸ h64) HRd.out hfr hv HS.out HG.out (fun _ => rfl) (by intro _ _ g' hg'; simpa [Value.ownBlock] using hg'.symm)
            | (have h := takeInv_step (ao := some ⟨g, o, none⟩) (HX.out ▸ h64) HRd.out hfr hv HS.out HG.out (fun h => absurd hc h) (by intro _ _ g' hg'; simpa [Value.ownBlock] using hg'.symm)
               rw [show cap - 64 = 0 by omega] at h
               exact h)
        case measure => simp [lenV]; omega
    · have h64' : ¬ (64 : Int) ≤ ((bv (d.drop (64 * k))).length : Nat) := by omega
      have HRd := Lib.hid hr
      obtain ⟨ao, cap, rfl, r1, r2, -, -⟩ := hr
      have HX := Lib.hid hxl
      have HRow := Lib.hid hrow
      clear hxl hrow
      have hbw : bs < wr.heap.size := by have := hfr.size; omega
      obtain ⟨wo, rfl⟩ : ∃ wo : World, wo = wr := ⟨_, rfl⟩
      go_wp2_with fail
      refine (clone_any _ _ _ HRd.out (bv_one _) (by omega)).mono ?_
      rintro e w2 ⟨ao', cap', rfl, ho2, hb2⟩
      have hrow2 := HRow.out.of_block (hb2.block bs hbw)
      have c9 := World.rowIs.cell hrow2 (i := 9) (by omega)
      rw [shaCells_9] at c9
      have f9 := World.rowIs.frozen hrow2 9
      have HO2 := Lib.hid ho2
      have HB2 := Lib.hid hb2
      have HRow2 := Lib.hid hrow2
      clear ho2 hb2 hrow2
      go_wp2_with fail
      go_end0
      exact ⟨rfl, _, takeEnd HD.out (by have := HX.out; omega) hk hfr hbw hdl HRow2.out HO2.out HB2.out⟩
end Go.Proofs.YtanodhagpegbfaaDoor

