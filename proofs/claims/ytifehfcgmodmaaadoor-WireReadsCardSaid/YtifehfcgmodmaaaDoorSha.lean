/- SHA-256 as plain functions on words: the schedule as a register of sixteen words, the round, a block. No program here. -/
import Derived.Test.YtifehfcgmodmaaaDoorWord
namespace Go.Proofs.YtifehfcgmodmaaaDoor

/-- The register's next state: sixteen words, the first one goes out. -/
def regStep (l : List (BitVec 32)) : List (BitVec 32) :=
  l.drop 1 ++ [l.getD 0 0 + (rorx2s (l.getD 1 0) 7 18 3 + l.getD 9 0 + rorx2s (l.getD 14 0) 17 19 10)]
def reg (M : List (BitVec 32)) : Nat → List (BitVec 32)
  | 0 => M
  | t + 1 => regStep (reg M t)
/-- Word t of a block's schedule. -/
def sched (M : List (BitVec 32)) (t : Nat) : BitVec 32 := (reg M t).getD 0 0
theorem reg_length (M : List (BitVec 32)) (hM : M.length = 16) : ∀ t, (reg M t).length = 16
  | 0 => hM
  | t + 1 => by simp [reg, regStep, reg_length M hM t]
theorem reg_at (M : List (BitVec 32)) (hM : M.length = 16) : ∀ i t, i < 16 → (reg M t).getD i 0 = sched M (t + i)
  | 0, t, _ => rfl
  | i + 1, t, h => by
    have ih := reg_at M hM i (t + 1) (by omega)
    have hl := reg_length M hM t
    have e : (reg M (t + 1)).getD i 0 = (reg M t).getD (i + 1) 0 := by
      show (regStep (reg M t)).getD i 0 = _
      unfold regStep
      simp only [List.getD_eq_getElem?_getD]
      rw [List.getElem?_append_left (by simp [hl]; omega), List.getElem?_drop]
      congr 2
      omega
    rw [← e, ih]
    congr 1
    omega
theorem sched_low (M : List (BitVec 32)) (hM : M.length = 16) (i : Nat) (hi : i < 16) : sched M i = M.getD i 0 := by
  have := reg_at M hM i 0 hi
  rw [Nat.zero_add] at this
  exact this.symm
theorem sched_high (M : List (BitVec 32)) (hM : M.length = 16) (t : Nat) :
    sched M (t + 16) = sched M t + (rorx2s (sched M (t + 1)) 7 18 3 + sched M (t + 9) + rorx2s (sched M (t + 14)) 17 19 10) := by
  have hl := reg_length M hM t
  have h15 := reg_at M hM 15 (t + 1) (by omega)
  rw [show t + 16 = t + 1 + 15 by omega, ← h15]
  show (regStep (reg M t)).getD 15 0 = _
  unfold regStep
  rw [reg_at M hM 1 t (by omega), reg_at M hM 9 t (by omega), reg_at M hM 14 t (by omega), reg_at M hM 0 t (by omega)]
  simp only [List.getD_eq_getElem?_getD]
  rw [List.getElem?_append_right (by simp [hl])]
  simp [hl]

/-- The eight words of a state. -/
structure St where
  a : BitVec 32
  b : BitVec 32
  c : BitVec 32
  d : BitVec 32
  e : BitVec 32
  f : BitVec 32
  g : BitVec 32
  h : BitVec 32
def rnd1 (s : St) (k w : BitVec 32) : BitVec 32 := s.h + rorx3 s.e 6 11 25 + (s.g ^^^ s.e &&& (s.f ^^^ s.g)) + k + w
def rnd2 (s : St) : BitVec 32 := rorx3 s.a 2 13 22 + (s.a &&& s.b ||| s.c &&& (s.a ||| s.b))
def rnd (s : St) (k w : BitVec 32) : St := ⟨rnd1 s k w + rnd2 s, s.a, s.b, s.c, s.d + rnd1 s k w, s.e, s.f, s.g⟩
def rounds (K : Nat → BitVec 32) (M : List (BitVec 32)) (s : St) : Nat → St
  | 0 => s
  | t + 1 => rnd (rounds K M s t) (K t) (sched M t)
def St.at (s : St) : Nat → BitVec 32
  | 0 => s.a
  | 1 => s.b
  | 2 => s.c
  | 3 => s.d
  | 4 => s.e
  | 5 => s.f
  | 6 => s.g
  | _ => s.h
def St.plus (s t : St) : St := ⟨s.a + t.a, s.b + t.b, s.c + t.c, s.d + t.d, s.e + t.e, s.f + t.f, s.g + t.g, s.h + t.h⟩
theorem St.at_plus (s t : St) : ∀ i, (s.plus t).at i = s.at i + t.at i
  | 0 => rfl
  | 1 => rfl
  | 2 => rfl
  | 3 => rfl
  | 4 => rfl
  | 5 => rfl
  | 6 => rfl
  | _ + 7 => rfl
/-- A block's words, of its bytes. -/
def blockWords (B : Nat → BitVec 8) : List (BitVec 32) := (List.range 16).map fun t => word4 (B (4 * t)) (B (4 * t + 1)) (B (4 * t + 2)) (B (4 * t + 3))
theorem blockWords_length (B : Nat → BitVec 8) : (blockWords B).length = 16 := by simp [blockWords]
theorem blockWords_at (B : Nat → BitVec 8) (t : Nat) (h : t < 16) : (blockWords B).getD t 0 = word4 (B (4 * t)) (B (4 * t + 1)) (B (4 * t + 2)) (B (4 * t + 3)) := by
  simp [blockWords, h]
/-- The state behind a block. -/
def mixed (K : Nat → BitVec 32) (s : St) (B : Nat → BitVec 8) : St := s.plus (rounds K (blockWords B) s 64)
/-- The state behind n blocks of a list of bytes. -/
def absorb (K : Nat → BitVec 32) : Nat → St → List (BitVec 8) → St
  | 0, s, _ => s
  | n + 1, s, l => absorb K n (mixed K s fun i => l.getD i 0) (l.drop 64)
theorem absorb_succ (K : Nat → BitVec 32) : ∀ (n : Nat) (s : St) (l : List (BitVec 8)), absorb K (n + 1) s l = mixed K (absorb K n s l) fun i => (l.drop (64 * n)).getD i 0
  | 0, s, l => by simp [absorb]
  | n + 1, s, l => by
    have := absorb_succ K n (mixed K s fun i => l.getD i 0) (l.drop 64)
    rw [List.drop_drop, show 64 + 64 * n = 64 * (n + 1) by omega] at this
    exact this
/-- Bytes as the walk's cells have them. -/
def bv (l : List (BitVec 8)) : List Value := l.map fun b => .int .u8 (bn b)
theorem bv_length (l : List (BitVec 8)) : (bv l).length = l.length := by simp [bv]
theorem bv_append (l m : List (BitVec 8)) : bv (l ++ m) = bv l ++ bv m := by simp [bv]
theorem bv_drop (l : List (BitVec 8)) (k : Nat) : bv (l.drop k) = (bv l).drop k := by simp [bv]
theorem bv_take (l : List (BitVec 8)) (k : Nat) : bv (l.take k) = (bv l).take k := by simp [bv]
theorem bv_one (l : List (BitVec 8)) : ∀ u ∈ bv l, u.oneCell' = true := by
  intro u hu
  obtain ⟨b, _, rfl⟩ := List.mem_map.1 hu
  rfl
theorem bv_at (l : List (BitVec 8)) (j : Nat) (h : j < l.length) : (bv l)[j]? = some (.int .u8 (bn (l.getD j 0))) := by simp [bv, h]
end Go.Proofs.YtifehfcgmodmaaaDoor
