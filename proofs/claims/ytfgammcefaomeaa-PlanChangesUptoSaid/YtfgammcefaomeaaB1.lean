import Derived.WalkKit
import Derived.Deep.OwnRows
import Derived.Deep.Draws
import Derived.WalkSpells
import Derived.WalkLawsBesides
import Derived.Deep.QuietTactic
import Derived.BigQuiet
import Derived.BigRegion
import Derived.Deep.RegionHeld3
import Derived.Handy
import Derived.Lib.Hide
import Derived.Test.YtfgammcefaomeaaRows
import Derived.Laws.AppendOwnNone
import Derived.Lib.SliceRun
import Derived.Laws.CopyOwn
import Derived.Laws.BytesString
import Derived.Lib.SlBytesConst
import Derived.Deep.Slices
import Derived.OpenShut
import Derived.Lib.LaidTab
import Derived.Carry
import Derived.KernelRfl
import Derived.Lib.AppendZerosOnto
import Derived.Lib.Tables
import Derived.Lib.BitFns
import Derived.Lib.ItoaNum
import Derived.Laws.Bits64
import Derived.Lib.ConvBytes
import Derived.Lib.AtoiErrMem
import Derived.Lib.BufferMore
import Derived.Deep.MidRow
/- Words of 32 bits as the walk has them: a sum, a bitwise operation and a shift of two such numbers is the word's own. -/
namespace Go.Proofs.Ytfgammcefaomeaa

/-- The number in a slot that holds a word. -/
def wn (x : BitVec 32) : Int := (x.toNat : Int)
theorem wrap_u32_nat (n : Nat) : IntKind.u32.wrap (n : Int) = ((n % 4294967296 : Nat) : Int) := by
  rw [IntKind.wrap_u32]; omega
theorem wn_add (x y : BitVec 32) : IntKind.u32.wrap (wn x + wn y) = wn (x + y) := by
  unfold wn; rw [IntKind.wrap_u32, BitVec.toNat_add]; omega
theorem ofInt32 (x : BitVec 32) : BitVec.ofInt 32 (wn x) = x := by
  unfold wn
  apply BitVec.eq_of_toNat_eq
  simp
theorem wrap32_id (x : BitVec 32) : IntKind.u32.wrap (wn x) = wn x := by
  have := x.isLt
  unfold wn
  rw [wrap_u32_nat, Nat.mod_eq_of_lt (by simpa using this)]
theorem wn_xor (x y : BitVec 32) : bits .xor .u32 (wn x) (wn y) = wn (x ^^^ y) := by
  show IntKind.u32.wrap ((BitVec.ofInt 32 (wn x) ^^^ BitVec.ofInt 32 (wn y)).toNat : Int) = _
  rw [ofInt32, ofInt32]; exact wrap32_id _
theorem wn_and (x y : BitVec 32) : bits .and .u32 (wn x) (wn y) = wn (x &&& y) := by
  show IntKind.u32.wrap ((BitVec.ofInt 32 (wn x) &&& BitVec.ofInt 32 (wn y)).toNat : Int) = _
  rw [ofInt32, ofInt32]; exact wrap32_id _
theorem wn_or (x y : BitVec 32) : bits .or .u32 (wn x) (wn y) = wn (x ||| y) := by
  show IntKind.u32.wrap ((BitVec.ofInt 32 (wn x) ||| BitVec.ofInt 32 (wn y)).toNat : Int) = _
  rw [ofInt32, ofInt32]; exact wrap32_id _
theorem wn_shr (x : BitVec 32) (n : Nat) : wn x / 2 ^ n = wn (x >>> n) := by
  unfold wn; rw [BitVec.toNat_ushiftRight, Nat.shiftRight_eq_div_pow]; simp
theorem wn_shl (x : BitVec 32) (n : Nat) : IntKind.u32.wrap (wn x * 2 ^ n) = wn (x <<< n) := by
  unfold wn; rw [BitVec.toNat_shiftLeft, Nat.shiftLeft_eq, IntKind.wrap_u32]; simp
/-- A word turned to the right. -/
def ror (x : BitVec 32) (a : Nat) : BitVec 32 := x >>> a ||| x <<< (32 - a)
/-- A word turned by three, and by two and shifted. -/
def rorx3 (x : BitVec 32) (a b c : Nat) : BitVec 32 := ror x a ^^^ ror x b ^^^ ror x c
def rorx2s (x : BitVec 32) (a b c : Nat) : BitVec 32 := ror x a ^^^ ror x b ^^^ x >>> c

/-- The number in a slot that holds a byte. -/
def bn (x : BitVec 8) : Int := (x.toNat : Int)
theorem bn_wide (x : BitVec 8) : IntKind.u32.wrap (bn x) = wn (x.setWidth 32) := by
  have := x.isLt
  unfold bn wn
  rw [IntKind.wrap_u32, BitVec.toNat_setWidth]; omega
/-- Four bytes, the highest first. -/
def word4 (a b c d : BitVec 8) : BitVec 32 := a.setWidth 32 <<< 24 ||| b.setWidth 32 <<< 16 ||| c.setWidth 32 <<< 8 ||| d.setWidth 32
theorem wn_shl24 (x : BitVec 32) : IntKind.u32.wrap (wn x * 16777216) = wn (x <<< 24) := wn_shl x 24
theorem wn_shl16 (x : BitVec 32) : IntKind.u32.wrap (wn x * 65536) = wn (x <<< 16) := wn_shl x 16
theorem wn_shl8 (x : BitVec 32) : IntKind.u32.wrap (wn x * 256) = wn (x <<< 8) := wn_shl x 8
end Go.Proofs.Ytfgammcefaomeaa
/- SHA-256 as plain functions on words: the schedule as a register of sixteen words, the round, a block. No program here. -/
namespace Go.Proofs.Ytfgammcefaomeaa

/-- The register's next state: sixteen words, the first one goes out. -/
def regStep (l : List (BitVec 32)) : List (BitVec 32) :=
  l.drop 1 ++ [l.getD 0 0 + (rorx2s (l.getD 1 0) 7 18 3 + l.getD 9 0 + rorx2s (l.getD 14 0) 17 19 10)]
def reg (M : List (BitVec 32)) : Nat → List (BitVec 32)
  | 0 => M
  | t + 1 => regStep (reg M t)
/-- Word t of a block's schedule. -/
def sched (M : List (BitVec 32)) (t : Nat) : BitVec 32 := (reg M t).getD 0 0
/-- The eight words of a state. -/
structure St where
  a : BitVec 32
  b : BitVec 32
  c : BitVec 32
  d : BitVec 32
  e : BitVec 32
  f : BitVec 32
  g : BitVec 32
  h : BitVec 32
def rnd1 (s : St) (k w : BitVec 32) : BitVec 32 := s.h + rorx3 s.e 6 11 25 + (s.g ^^^ s.e &&& (s.f ^^^ s.g)) + k + w
def rnd2 (s : St) : BitVec 32 := rorx3 s.a 2 13 22 + (s.a &&& s.b ||| s.c &&& (s.a ||| s.b))
def rnd (s : St) (k w : BitVec 32) : St := ⟨rnd1 s k w + rnd2 s, s.a, s.b, s.c, s.d + rnd1 s k w, s.e, s.f, s.g⟩
def rounds (K : Nat → BitVec 32) (M : List (BitVec 32)) (s : St) : Nat → St
  | 0 => s
  | t + 1 => rnd (rounds K M s t) (K t) (sched M t)
def St.at (s : St) : Nat → BitVec 32
  | 0 => s.a
  | 1 => s.b
  | 2 => s.c
  | 3 => s.d
  | 4 => s.e
  | 5 => s.f
  | 6 => s.g
  | _ => s.h
def St.plus (s t : St) : St := ⟨s.a + t.a, s.b + t.b, s.c + t.c, s.d + t.d, s.e + t.e, s.f + t.f, s.g + t.g, s.h + t.h⟩
/-- A block's words, of its bytes. -/
def blockWords (B : Nat → BitVec 8) : List (BitVec 32) := (List.range 16).map fun t => word4 (B (4 * t)) (B (4 * t + 1)) (B (4 * t + 2)) (B (4 * t + 3))
/-- The state behind a block. -/
def mixed (K : Nat → BitVec 32) (s : St) (B : Nat → BitVec 8) : St := s.plus (rounds K (blockWords B) s 64)
/-- The state behind n blocks of a list of bytes. -/
def absorb (K : Nat → BitVec 32) : Nat → St → List (BitVec 8) → St
  | 0, s, _ => s
  | n + 1, s, l => absorb K n (mixed K s fun i => l.getD i 0) (l.drop 64)
/-- Bytes as the walk's cells have them. -/
def bv (l : List (BitVec 8)) : List Value := l.map fun b => .int .u8 (bn b)
theorem bv_length (l : List (BitVec 8)) : (bv l).length = l.length := by simp [bv]
theorem bv_drop (l : List (BitVec 8)) (k : Nat) : bv (l.drop k) = (bv l).drop k := by simp [bv]
theorem bv_take (l : List (BitVec 8)) (k : Nat) : bv (l.take k) = (bv l).take k := by simp [bv]
end Go.Proofs.Ytfgammcefaomeaa
/- Small laws of the model, of whatever program: an array value indexed. -/
namespace Go.Proofs.Ytfgammcefaomeaa
open Go.RowKit

theorem run_index_cells {P : Program} {t e len : Nat} {k : IntKind} (ht : P.underlying t = some (.array len e)) (he : P.underlying e = some (.int k)) (hs : (P.info? e).map (·.size) = some 1)
    {cs : Array Value} {i : Nat} {v : Value} (hi : i < len) (hv : cs[i]? = some v) (w : World) :
    (Instr.index t (.agg cs) (.int .i64 (i : Int))).run P w = .ok v w := by
  obtain ⟨i0, hi0, hz⟩ := Option.map_eq_some_iff.1 hs
  have hc : P.cellsOf e = 1 := by simp [Program.cellsOf, hi0, hz]
  simp [Instr.index, asIntOf, run_underlying ht, run_sizeOf w hi0, hc, hi, part, isAgg, run_underlying he, hv]
theorem heap_lt {w : World} {b : Nat} {o : Obj} (h : w.heap[b]? = some o) : b < w.heap.size := (Array.getElem?_eq_some_iff.1 h).1
theorem below_drewN' (k : Nat) (w : World) (n : Nat) : Below k w (w.drewN n) := ⟨rfl, rfl, rfl, Nat.le_refl _, fun _ _ => rfl⟩
end Go.Proofs.Ytfgammcefaomeaa
/- The walks of package sha's inner functions on words: word, small, great, mix (and bits.RotateLeft32): each computes the plain function of XSha. -/
namespace Go.Proofs.Ytfgammcefaomeaa
open Go.RowKit
attribute [local go_sem] wn_add wn_xor wn_and wn_or wn_shr wn_shl bn_wide wn_shl24 wn_shl16 wn_shl8
/-- n bytes at a place. -/
def bytesAt (w : World) (g o : Nat) (n : Nat) (B : Nat → BitVec 8) : Prop := ∀ j, j < n → w.cell? ⟨g, o + j, none⟩ = some (.int .u8 (bn (B j)))
theorem bytesAt.below {w w' : World} {g o n : Nat} {B : Nat → BitVec 8} (h : bytesAt w g o n B) {k : Nat} (hb : Below k w w') (hk : g < k) : bytesAt w' g o n B :=
  fun j hj => (hb.cell (p := ⟨g, o + j, none⟩) hk).trans (h j hj)
end Go.Proofs.Ytfgammcefaomeaa
/- A region that draws its order, walked once in the order of the text: operations that only read yield, in every world of a class, one value; those that turn the world stand in one order among themselves, and leave a world of the class; the tail stands in one order behind all others. Of whatever program. -/
namespace Go.Proofs.Ytfgammcefaomeaa
open Go
section
variable {P : Program} {ops : Array Oper} {C : World → Prop} {E : Nat → Bool}

/-- An operation that hands back a value or nothing: no call of a Go function, no defer. -/
def isV : Op → Bool
  | .call { callee := .builtin .len, .. } => true
  | .call { callee := .builtin .cap, .. } => true
  | .call { callee := .builtin .min, .. } => true
  | .call { callee := .builtin .max, .. } => true
  | .call _ => false
  | .go _ => false
  | .defer _ => false
  | .send .. => false
  | .recv .. => false
  | .select .. => false
  | _ => true

/-- What it hands back is a value or nothing. -/
def plainRes : Result Next → Prop
  | .ok (.value _) _ => True
  | .ok .skip _ => True
  | .ok _ _ => False
  | .halt _ _ => True
theorem plainRes_v (s : Sem Value) (w : World) : plainRes ((do pure (Next.value (← s)) : Sem Next).run P w) := by
  simp only [Sem.run_bind]
  cases s.run P w <;> simp [Result.andThen, plainRes]
theorem plainRes_u (s : Sem Unit) (w : World) : plainRes ((do s; pure Next.skip : Sem Next).run P w) := by
  simp only [Sem.run_bind]
  cases s.run P w <;> simp [Result.andThen, plainRes]
theorem plainRes_bind {α : Type} (s : Sem α) (f : α → Sem Next) (w : World) (h : ∀ x w', plainRes ((f x).run P w')) : plainRes ((s >>= f).run P w) := by
  simp only [Sem.run_bind]
  cases s.run P w with
  | ok x w' => exact h x w'
  | halt x w' => simp [Result.andThen, plainRes]
theorem plainRes_pure (v : Value) (w : World) : plainRes ((pure (Next.value v) : Sem Next).run P w) := by simp [plainRes]
theorem plainRes_nil (w : World) : plainRes ((runtimePanic .nilDeref : Sem Next).run P w) := by
  unfold runtimePanic
  exact plainRes_bind _ _ _ fun _ _ => by simp [goPanic, plainRes]
theorem isV_run {o : Oper} (h : isV o.op = true) (ρ : Operand → Value) (w : World) : plainRes ((execOp ρ o).run P w) := by
  obtain ⟨dst, op, type, pos, after, guard⟩ := o
  cases op
  case call c =>
    obtain ⟨callee, args, ats⟩ := c
    cases callee with
    | value f => simp [isV] at h
    | invoke r m => simp [isV] at h
    | builtin b => cases b <;> first | (simp [isV] at h; done) | exact plainRes_v _ _
  case go c => simp [isV] at h
  case defer c => simp [isV] at h
  case send c x => simp [isV] at h
  case recv c x b => simp [isV] at h
  case select c b => simp [isV] at h
  case nilCheck x =>
    simp only [execOp]
    split <;> first | exact plainRes_nil _ | exact plainRes_pure _ _ | skip
    split <;> first | exact plainRes_nil _ | exact plainRes_pure _ _ | skip
    refine plainRes_bind _ _ _ fun _ _ => plainRes_bind _ _ _ fun b _ => ?_
    split
    · exact plainRes_bind _ _ _ fun _ _ => plainRes_pure _ _
    · exact plainRes_pure _ _
  case pick c a b =>
    simp only [execOp]
    refine plainRes_bind _ _ _ fun b _ => ?_
    split <;> exact plainRes_pure _ _
  all_goals (simp only [execOp]; first | exact plainRes_pure _ _ | exact plainRes_v _ _ | exact plainRes_u _ _)

/-- In this world it hands back this value, and the world stands. -/
def qAt (P : Program) (o : Oper) (a : Act) (w : World) (v : Value) : Prop :=
  (execOp a.eval o).run P w = .ok (.value v) w ∨ ((execOp a.eval o).run P w = .ok .skip w ∧ v = undef)
theorem qAt_of_quietAt {o : Oper} {a : Act} {w : World} {v : Value} (h : isV o.op = true) (hq : o.quietAt P a C w v) : qAt P o a w v := by
  have hp := isV_run (P := P) h a.eval w
  unfold Oper.quietAt at hq
  unfold qAt
  generalize (execOp a.eval o).run P w = r at *
  cases r with
  | ok n w' =>
    cases n <;> simp only [Oper.quietUpon] at hq <;> simp only [plainRes] at hp
    case value u => obtain ⟨rfl, rfl⟩ := hq; exact .inl rfl
    case skip => obtain ⟨rfl, rfl⟩ := hq; exact .inr ⟨rfl, rfl⟩
  | halt x w' => simp only [Oper.quietUpon] at hq
theorem qAt_unique {o : Oper} {a : Act} {w : World} {v u : Value} (h : qAt P o a w v) (k : qAt P o a w u) : v = u := by
  rcases h with h | ⟨h, rfl⟩ <;> rcases k with k | ⟨k, rfl⟩
  · rw [h] at k; simpa using k
  · rw [h] at k; simp at k
  · rw [h] at k; simp at k
  · rfl
theorem qAt_wp {o : Oper} {a : Act} {w : World} {v : Value} {K : Act → World → Prop} {Q : Exit → Act → World → Prop} (h : qAt P o a w v) (hk : K (a.put o.dst v) w) : o.wp P a w K Q := by
  unfold Oper.wp
  rcases h with h | ⟨h, rfl⟩ <;> rw [h] <;> exact hk

/-- No way out but by the operation's own end. -/
def noOut : Exit → Act → World → Prop := fun _ _ _ => False
theorem wp_noOut {o : Oper} {a : Act} {w : World} {K : Act → World → Prop} {Q : Exit → Act → World → Prop} (h : o.wp P a w K noOut) : o.wp P a w K Q := by
  unfold Oper.wp at *
  generalize (execOp a.eval o).run P w = r at *
  cases r with
  | ok n w' =>
    cases n <;> simp only [Oper.upon] at h ⊢ <;> try exact h
    exact Calls.mono h fun e w'' he => by cases e <;> first | exact he | exact (he : False).elim | exact (by obtain ⟨_, _, hf⟩ := (he : LetsOut noOut); exact hf.elim)
  | halt x w' => cases x <;> simp only [Oper.upon] at h ⊢ <;> first | exact h.elim | exact (h : False).elim
/-- A slot that the operation does not look at may be written before it or behind it. -/
theorem wp_put {o : Oper} (hs : ∀ cs b, o.op ≠ .select cs b) {a : Act} {w : World} {dst : Option Tmp} {u : Value} (h1 : ∀ d, dst = some d → d ∉ o.looksAt ops) (h2 : ∀ d, dst = some d → o.dst ≠ some d)
    {K : Act → World → Prop} : o.wp P (a.put dst u) w K noOut ↔ o.wp P a w (fun a' w' => K (a'.put dst u) w') noOut := by
  unfold Oper.wp
  rw [execOp_put (ops := ops) o hs a dst u h1]
  generalize (execOp a.eval o).run P w = r
  have hc : ∀ v, (a.put dst u).put o.dst v = (a.put o.dst v).put dst u := fun v => Act.put_comm a u v h2
  cases r with
  | ok n w' =>
    cases n <;> simp only [Oper.upon, hc]
    case defer d =>
      have e : ({ a.put dst u with defers := d :: (a.put dst u).defers } : Act) = ({ a with defers := d :: a.defers } : Act).put dst u := Act.put_defers a dst u d
      rw [e, Act.put_comm _ u undef h2]
    case enter f args =>
      constructor <;> exact fun h => Calls.mono h fun e w'' he => by cases e <;> exact he
  | halt x w' => cases x <;> simp only [Oper.upon] <;> exact Iff.rfl

/-- One operation of the prefix. -/
def stepL (P : Program) (ops : Array Oper) (C : World → Prop) (eff : Bool) (o : Oper) (K : Act → World → Prop) (a : Act) (w : World) : Prop :=
  if Region.wanted o (yielded ops a.tmps) = true then
    (if eff = true then o.wp P a w (fun a' w' => C w' ∧ K a' w') noOut else ∃ v, (∀ w', C w' → qAt P o a w' v) ∧ K (a.put o.dst v) w)
  else K (a.put o.dst undef) w
theorem stepL_mono {eff : Bool} {o : Oper} {K K' : Act → World → Prop} (h : ∀ a w, C w → K a w → K' a w) {a : Act} {w : World} (hC : C w) (hs : stepL P ops C eff o K a w) : stepL P ops C eff o K' a w := by
  unfold stepL at *
  split
  · rename_i hw
    rw [if_pos hw] at hs
    split
    · rename_i he
      rw [if_pos he] at hs
      exact Oper.wp_mono (fun a w ⟨c, k⟩ => ⟨c, h a w c k⟩) hs
    · rename_i he
      rw [if_neg he] at hs
      obtain ⟨v, hv, hk⟩ := hs
      exact ⟨v, hv, h _ _ hC hk⟩
  · rename_i hw
    rw [if_neg hw] at hs
    exact h _ _ hC hs
theorem qAt_put {o : Oper} (hs : ∀ cs b, o.op ≠ .select cs b) {a : Act} {w : World} {dst : Option Tmp} {u v : Value} (h1 : ∀ d, dst = some d → d ∉ o.looksAt ops) : qAt P o (a.put dst u) w v ↔ qAt P o a w v := by
  unfold qAt
  rw [execOp_put (ops := ops) o hs a dst u h1]
/-- What a wp of an operation shows of some frame behind it. -/
theorem wp_some {o : Oper} {a : Act} {w : World} {K : Act → World → Prop} (h : o.wp P a w K noOut) : ∃ b v w', K (({ a with defers := b } : Act).put o.dst v) w' := by
  unfold Oper.wp at h
  generalize (execOp a.eval o).run P w = r at *
  cases r with
  | ok n w' =>
    cases n <;> simp only [Oper.upon] at h
    case value v => exact ⟨a.defers, v, w', h⟩
    case skip => exact ⟨a.defers, undef, w', h⟩
    case defer d => exact ⟨d :: a.defers, undef, w', h⟩
    case enter f args =>
      obtain ⟨e, w'', fr, he, _⟩ := h []
      cases e with
      | returned v => exact ⟨a.defers, v, w'', he⟩
      | panicked c => exact (he : False).elim
      | outgrown => obtain ⟨_, _, hf⟩ := (he : LetsOut noOut); exact hf.elim
    case row r args =>
      obtain ⟨v, w'', he, _⟩ := h default []
      exact ⟨a.defers, v, w'', he⟩
  | halt x w' => cases x <;> simp only [Oper.upon] at h <;> first | exact h.elim | exact (h : False).elim
theorem wp_mono_put {o : Oper} {a : Act} {w : World} {K K' : Act → World → Prop} (hk : ∀ b v w', K (({ a with defers := b } : Act).put o.dst v) w' → K' (({ a with defers := b } : Act).put o.dst v) w') (h : o.wp P a w K noOut) : o.wp P a w K' noOut := by
  unfold Oper.wp at *
  generalize (execOp a.eval o).run P w = r at *
  cases r with
  | ok n w' =>
    cases n <;> simp only [Oper.upon] at h ⊢
    case value v => exact hk a.defers v w' h
    case skip => exact hk a.defers undef w' h
    case defer d => exact hk _ undef w' h
    case enter f args => exact Calls.mono h fun e w'' he => by cases e <;> first | exact hk a.defers _ _ he | exact he
    case row r args => exact Rows.mono h fun v w'' he => hk a.defers v _ he
  | halt x w' => cases x <;> simp only [Oper.upon] at h ⊢ <;> exact h
theorem qAt_defers {o : Oper} {a : Act} {w : World} {v : Value} (b : List Deferred) : qAt P o { a with defers := b } w v ↔ qAt P o a w v := by
  have e : (({ a with defers := b } : Act).eval) = a.eval := by funext x; cases x <;> rfl
  unfold qAt
  rw [e]
/-- TWO STEPS MAY CHANGE PLACES: apart, and not both of those that turn the world. -/
theorem stepL_swap {ei ej : Bool} {oi oj : Oper} (hsi : ∀ cs b, oi.op ≠ .select cs b) (hsj : ∀ cs b, oj.op ≠ .select cs b) (hap : oi.apart ops oj = true) (hE : ei = false ∨ ej = false)
    {K : Act → World → Prop} {a : Act} {w : World} (hC : C w) (h : stepL P ops C ei oi (stepL P ops C ej oj K) a w) : stepL P ops C ej oj (stepL P ops C ei oi K) a w := by
  obtain ⟨h1, h2, h3⟩ := Oper.apart_spec hap
  have h2' : ∀ d, oj.dst = some d → oi.dst ≠ some d := fun d hd he => h2 d he hd
  have wj : ∀ (a : Act) v, Region.wanted oj (yielded ops (a.put oi.dst v).tmps) = Region.wanted oj (yielded ops a.tmps) := fun a v => wanted_put oj a oi.dst v h1
  have wi : ∀ (a : Act) v, Region.wanted oi (yielded ops (a.put oj.dst v).tmps) = Region.wanted oi (yielded ops a.tmps) := fun a v => wanted_put oi a oj.dst v h3
  have pc : ∀ (a : Act) v u, (a.put oi.dst v).put oj.dst u = (a.put oj.dst u).put oi.dst v := fun a v u => Act.put_comm a v u h2
  by_cases hwi : Region.wanted oi (yielded ops a.tmps) = true
  · by_cases hei : ei = true
    · have hej : ej = false := hE.resolve_left (by simp [hei])
      subst hei hej
      unfold stepL at h
      rw [if_pos hwi, if_pos rfl] at h
      by_cases hwj : Region.wanted oj (yielded ops a.tmps) = true
      · have key : ∀ b v w', (C w' ∧ stepL P ops C false oj K (({ a with defers := b } : Act).put oi.dst v) w') → C w' ∧ ∃ u, (∀ w'', C w'' → qAt P oj a w'' u) ∧ K ((({ a with defers := b } : Act).put oi.dst v).put oj.dst u) w' := by
          rintro b v w' ⟨hc, hs⟩
          unfold stepL at hs
          rw [if_pos (by rw [wj]; exact hwj), if_neg (by simp)] at hs
          obtain ⟨u, hu, hk⟩ := hs
          exact ⟨hc, u, fun w'' hw'' => (qAt_defers b).1 ((qAt_put (ops := ops) hsj h1).1 (hu w'' hw'')), hk⟩
        obtain ⟨b, v, w', hs⟩ := wp_some h
        obtain ⟨_, u, hu, _⟩ := key b v w' hs
        unfold stepL
        rw [if_pos hwj, if_neg (by simp)]
        refine ⟨u, hu, ?_⟩
        rw [if_pos (by rw [wi]; exact hwi), if_pos rfl]
        refine (wp_put (ops := ops) hsi h3 h2').2 (wp_mono_put (fun b v w' hs => ?_) h)
        obtain ⟨hc, u', hu', hk⟩ := key b v w' hs
        rw [qAt_unique (hu w hC) (hu' w hC)]
        exact ⟨hc, hk⟩
      · unfold stepL
        rw [if_neg hwj, if_pos (by rw [wi]; exact hwi), if_pos rfl]
        refine (wp_put (ops := ops) hsi h3 h2').2 (wp_mono_put (fun b v w' hs => ?_) h)
        obtain ⟨hc, hs⟩ := hs
        rw [if_neg (by rw [wj]; exact hwj)] at hs
        exact ⟨hc, hs⟩
    · have hei' : ei = false := by simpa using hei
      subst hei'
      unfold stepL at h
      rw [if_pos hwi, if_neg (by simp)] at h
      obtain ⟨v, hv, h⟩ := h
      unfold stepL
      by_cases hwj : Region.wanted oj (yielded ops a.tmps) = true
      · rw [if_pos (by rw [wj]; exact hwj)] at h
        rw [if_pos hwj]
        by_cases hej : ej = true
        · subst hej
          rw [if_pos rfl] at h ⊢
          refine wp_mono_put (fun b u w' hs => ?_) ((wp_put (ops := ops) hsj h1 h2).1 h)
          obtain ⟨hc, hk⟩ := hs
          refine ⟨hc, ?_⟩
          rw [if_pos (by rw [wi]; exact hwi), if_neg (by simp)]
          exact ⟨v, fun w'' hw'' => (qAt_put (ops := ops) hsi h3).2 ((qAt_defers b).2 (hv w'' hw'')), hk⟩
        · rw [if_neg hej] at h ⊢
          obtain ⟨u, hu, hk⟩ := h
          refine ⟨u, fun w'' hw'' => (qAt_put (ops := ops) hsj h1).1 (hu w'' hw''), ?_⟩
          rw [if_pos (by rw [wi]; exact hwi), if_neg (by simp)]
          exact ⟨v, fun w'' hw'' => (qAt_put (ops := ops) hsi h3).2 (hv w'' hw''), by rw [← pc]; exact hk⟩
      · rw [if_neg (by rw [wj]; exact hwj)] at h
        rw [if_neg hwj, if_pos (by rw [wi]; exact hwi), if_neg (by simp)]
        exact ⟨v, fun w'' hw'' => (qAt_put (ops := ops) hsi h3).2 (hv w'' hw''), by rw [← pc]; exact h⟩
  · unfold stepL at h
    rw [if_neg hwi] at h
    unfold stepL
    by_cases hwj : Region.wanted oj (yielded ops a.tmps) = true
    · rw [if_pos (by rw [wj]; exact hwj)] at h
      rw [if_pos hwj]
      by_cases hej : ej = true
      · subst hej
        rw [if_pos rfl] at h ⊢
        refine wp_mono_put (fun b u w' hs => ?_) ((wp_put (ops := ops) hsj h1 h2).1 h)
        obtain ⟨hc, hk⟩ := hs
        refine ⟨hc, ?_⟩
        rw [if_neg (by rw [wi]; exact hwi)]
        exact hk
      · rw [if_neg hej] at h ⊢
        obtain ⟨u, hu, hk⟩ := h
        refine ⟨u, fun w'' hw'' => (qAt_put (ops := ops) hsj h1).1 (hu w'' hw''), ?_⟩
        rw [if_neg (by rw [wi]; exact hwi), ← pc]
        exact hk
    · rw [if_neg (by rw [wj]; exact hwj)] at h
      rw [if_neg hwj, if_neg (by rw [wi]; exact hwi), ← pc]
      exact h

/-- The prefix, in the order of the list; T behind it. -/
def wpLs (P : Program) (ops : Array Oper) (C : World → Prop) (E : Nat → Bool) (T : Act → World → Prop) : List Nat → Act → World → Prop
  | [], a, w => T a w
  | i :: l, a, w => match ops[i]? with
    | some o => stepL P ops C (E i) o (wpLs P ops C E T l) a w
    | none => False
theorem wpLs_front {T : Act → World → Prop} (hs : ∀ (j : Nat) (o : Oper) cs b, ops[j]? = some o → o.op ≠ .select cs b) {j : Nat} {oj : Oper} (hj : ops[j]? = some oj) : ∀ (p q : List Nat) (a : Act) (w : World),
    (∀ i ∈ p, ∀ oi, ops[i]? = some oi → oi.apart ops oj = true ∧ (E i = false ∨ E j = false)) → C w → wpLs P ops C E T (p ++ j :: q) a w → stepL P ops C (E j) oj (wpLs P ops C E T (p ++ q)) a w
  | [], q, a, w, _, _, h => by simpa [wpLs, hj] using h
  | i :: p, q, a, w, hp, hC, h => by
    simp only [List.cons_append, wpLs] at h
    cases hi : ops[i]? with
    | none => rw [hi] at h; exact h.elim
    | some oi =>
      rw [hi] at h
      simp only at h
      obtain ⟨hap, hE⟩ := hp i (by simp) oi hi
      have ih := stepL_mono (fun a w hc hk => wpLs_front hs hj p q a w (fun x hx => hp x (by simp [hx])) hc hk) hC h
      have := stepL_swap (hs i oi · · hi) (hs j oj · · hj) hap hE hC ih
      refine stepL_mono (fun a w _ hk => ?_) hC this
      simp only [List.cons_append, wpLs, hi]
      exact hk

theorem stepL_wpOp {i : Nat} {o : Oper} (hi : ops[i]? = some o) {eff : Bool} {K K' : Act → World → Prop} {Q : Exit → Act → World → Prop} (h : ∀ a w, C w → K a w → K' a w) {a : Act} {w : World} (hC : C w) (hs : stepL P ops C eff o K a w) : wpOp P ops Q i K' a w := by
  unfold stepL at hs
  unfold wpOp
  simp only [hi]
  split
  · rename_i hw
    rw [if_pos hw] at hs
    by_cases he : eff = true
    · rw [if_pos he] at hs
      exact .inl (wp_noOut (Oper.wp_mono (fun a w ⟨c, k⟩ => h a w c k) hs))
    · rw [if_neg he] at hs
      obtain ⟨v, hv, hk⟩ := hs
      exact .inl (qAt_wp (hv w hC) (h _ _ hC hk))
  · rename_i hw
    rw [if_neg hw] at hs
    exact h _ _ hC hs

/-- A certificate: number k's bits are operations that come ahead of k in every order. -/
def maskOk (ops : Array Oper) (M : Array Nat) : Bool := (List.range ops.size).all fun k => match ops[k]? with
  | none => false
  | some o => (o.after.all fun e => !Region.binds .any e || decide (e.on < k)) && (List.range ops.size).all fun j => !(M.getD k 0).testBit j || o.after.any fun e => Region.binds .any e && (e.on == j || (decide (e.on < k) && (M.getD e.on 0).testBit j))
def pairsOk (ops : Array Oper) (E : Nat → Bool) (N : Nat) (M : Array Nat) : Bool := (List.range ops.size).all fun k => (List.range k).all fun j => (M.getD k 0).testBit j || (decide (k < N) && match ops[j]?, ops[k]? with
  | some oj, some ok => oj.apart ops ok && (!E j || !E k)
  | _, _ => false)
def lexOK (ops : Array Oper) (E : Nat → Bool) (N : Nat) (M : Array Nat) : Bool := Region.noSelect ops && maskOk ops M && pairsOk ops E N M && decide (N ≤ ops.size)

def Closed (ops : Array Oper) (listed : Array Bool) : Prop := ∀ k o, ops[k]? = some o → listed.getD k false = true → ∀ e ∈ o.after, Region.binds .any e = true → listed.getD e.on false = true
theorem mask_listed {M : Array Nat} (hM : maskOk ops M = true) {listed : Array Bool} (hc : Closed ops listed) : ∀ (k : Nat) (o : Oper), ops[k]? = some o → (∀ e ∈ o.after, Region.binds .any e = true → listed.getD e.on false = true) →
    ∀ j, j < ops.size → (M.getD k 0).testBit j = true → listed.getD j false = true := by
  intro k
  induction k using Nat.strongRecOn with
  | _ k ih =>
    intro o ho he j hj hb
    have hk : k < ops.size := (Array.getElem?_eq_some_iff.1 ho).1
    have h1 := List.all_eq_true.1 hM k (List.mem_range.2 hk)
    rw [ho] at h1
    simp only [Bool.and_eq_true] at h1
    have h2 := List.all_eq_true.1 h1.2 j (List.mem_range.2 hj)
    simp only [hb, Bool.not_true, Bool.false_or] at h2
    obtain ⟨e, hem, hx⟩ := Array.any_eq_true'.1 h2
    simp only [Bool.and_eq_true, Bool.or_eq_true, beq_iff_eq, decide_eq_true_eq] at hx
    obtain ⟨hbind, hx⟩ := hx
    have hl := he e hem hbind
    rcases hx with rfl | ⟨hlt, hbit⟩
    · exact hl
    · have hon : e.on < ops.size := by omega
      have ho' : ops[e.on]? = some ops[e.on] := Array.getElem?_eq_getElem hon
      exact ih e.on hlt _ ho' (hc e.on _ ho' hl) j hj hbit
theorem edges_back {M : Array Nat} (hM : maskOk ops M = true) {k : Nat} {o : Oper} (ho : ops[k]? = some o) : ∀ e ∈ o.after, Region.binds .any e = true → e.on < k := by
  intro e he hb
  have hk : k < ops.size := (Array.getElem?_eq_some_iff.1 ho).1
  have h1 := List.all_eq_true.1 hM k (List.mem_range.2 hk)
  rw [ho] at h1
  simp only [Bool.and_eq_true] at h1
  have h2 := Array.all_eq_true_iff_forall_mem.1 h1.1 e he
  simpa [hb] using h2
theorem pair_of {N : Nat} {M : Array Nat} (h : pairsOk ops E N M = true) {j k : Nat} (hk : k < ops.size) (hjk : j < k) : (M.getD k 0).testBit j = true ∨ (k < N ∧ ∀ oj ok, ops[j]? = some oj → ops[k]? = some ok → oj.apart ops ok = true ∧ (E j = false ∨ E k = false)) := by
  have h1 := List.all_eq_true.1 (List.all_eq_true.1 h k (List.mem_range.2 hk)) j (List.mem_range.2 hjk)
  simp only [Bool.or_eq_true, Bool.and_eq_true, decide_eq_true_eq] at h1
  rcases h1 with h1 | ⟨h1, h2⟩
  · exact .inl h1
  · refine .inr ⟨h1, fun oj ok ej ek => ?_⟩
    rw [ej, ek] at h2
    simpa using h2

theorem mem_wait {listed : Array Bool} {k : Nat} (hz : listed.size = ops.size) {o : Oper} (ho : ops[k]? = some o) (h0 : listed.getD k false = false) (he : ∀ e ∈ o.after, Region.binds .any e = true → listed.getD e.on false = true) : k ∈ Region.ready .any ops listed := by
  have hk : k < ops.size := (Array.getElem?_eq_some_iff.1 ho).1
  refine mem_ready.2 ⟨?_, o, ho, he⟩
  simpa [show k < listed.size by omega] using h0
theorem ready_spec {listed : Array Bool} {k : Nat} (hz : listed.size = ops.size) (h : k ∈ Region.ready .any ops listed) : ∃ o, ops[k]? = some o ∧ listed.getD k false = false ∧ ∀ e ∈ o.after, Region.binds .any e = true → listed.getD e.on false = true := by
  obtain ⟨h0, o, ho, he⟩ := mem_ready.1 h
  have hk : k < ops.size := (Array.getElem?_eq_some_iff.1 ho).1
  exact ⟨o, ho, by simpa [show k < listed.size by omega] using h0, he⟩
theorem closed_set {listed : Array Bool} (hc : Closed ops listed) {i : Nat} {oi : Oper} (hi : ops[i]? = some oi) (he : ∀ e ∈ oi.after, Region.binds .any e = true → listed.getD e.on false = true) : Closed ops (listed.setIfInBounds i true) := by
  intro k o ho hl e hem hb
  by_cases hk : i = k
  · subst hk
    rw [hi] at ho
    cases ho
    exact getD_set_true (he e hem hb)
  · rw [getD_set_ne false hk] at hl
    exact getD_set_true (hc k o ho hl e hem hb)
theorem getD_set_self {listed : Array Bool} {i : Nat} (h : i < listed.size) : (listed.setIfInBounds i true).getD i false = true := by simp [h]

/-- The tail stands in one order. -/
theorem lex_tail {M : Array Nat} {N : Nat} {Q : Exit → Act → World → Prop} (hM : maskOk ops M = true) (hp : pairsOk ops E N M = true) : ∀ (fuel k : Nat) (listed : Array Bool) (a : Act) (w : World), listed.size = ops.size → Closed ops listed →
    (∀ i, i < k → i < ops.size → listed.getD i false = true) → (∀ i, k ≤ i → i < ops.size → listed.getD i false = false) → N ≤ k → ops.size - k ≤ fuel → wpOps P ops Q (List.range' k (ops.size - k)) a w → wpAny P .any ops Q fuel listed a w := by
  intro fuel
  induction fuel with
  | zero =>
    intro k listed a w hz hc hlo hhi hN hf h
    have hk : ops.size - k = 0 := by omega
    rw [hk] at h
    refine ⟨?_, by simpa [wpOps] using h⟩
    apply List.eq_nil_iff_forall_not_mem.2
    intro i hi
    obtain ⟨o, ho, h0, _⟩ := ready_spec hz hi
    have hi' : i < ops.size := (Array.getElem?_eq_some_iff.1 ho).1
    rw [hlo i (by omega) hi'] at h0
    cases h0
  | succ fuel ih =>
    intro k listed a w hz hc hlo hhi hN hf h
    by_cases hk : k < ops.size
    · have ho : ops[k]? = some ops[k] := Array.getElem?_eq_getElem hk
      have hr : k ∈ Region.ready .any ops listed := mem_wait hz ho (hhi k (Nat.le_refl _) hk) fun e he hb => hlo _ (edges_back hM ho e he hb) (by have := edges_back hM ho e he hb; omega)
      refine ⟨fun h0 => (by rw [h0] at hr; cases hr), fun i hi => ?_⟩
      obtain ⟨o, hio, h0, he⟩ := ready_spec hz hi
      have hi' : i < ops.size := (Array.getElem?_eq_some_iff.1 hio).1
      have hki : k ≤ i := by
        rcases Nat.lt_or_ge i k with h' | h'
        · rw [hlo i h' hi'] at h0; cases h0
        · exact h'
      have hik : i = k := by
        rcases Nat.lt_or_ge k i with h' | h'
        · exfalso
          rcases pair_of hp hi' h' with hb | ⟨hb, _⟩
          · have := mask_listed hM hc i o hio he k hk hb
            rw [hhi k (Nat.le_refl _) hk] at this
            cases this
          · omega
        · omega
      subst hik
      rw [show ops.size - i = (ops.size - (i + 1)) + 1 by omega, List.range'_succ, wpOps_cons] at h
      refine wpOp_mono (fun a w hk => ih (i + 1) _ a w (by simp [hz]) (closed_set hc hio he) ?_ ?_ (by omega) (by omega) hk) h
      · intro j hj hjs
        by_cases hji : i = j
        · subst hji; exact getD_set_self (by omega)
        · exact getD_set_true (hlo j (by omega) hjs)
      · intro j hj hjs
        rw [getD_set_ne false (by omega)]
        exact hhi j (by omega) hjs
    · have hk' : ops.size - k = 0 := by omega
      rw [hk'] at h
      refine ⟨fun _ => by simpa [wpOps] using h, fun i hi => ?_⟩
      obtain ⟨o, ho, h0, _⟩ := ready_spec hz hi
      have hi' : i < ops.size := (Array.getElem?_eq_some_iff.1 ho).1
      rw [hlo i (by omega) hi'] at h0
      cases h0
def waiting (listed : Array Bool) (N : Nat) : List Nat := (List.range N).filter fun i => !listed.getD i true
theorem mem_waiting {listed : Array Bool} {N i : Nat} (h : N ≤ listed.size) : i ∈ waiting listed N ↔ i < N ∧ listed.getD i false = false := by
  unfold waiting
  rw [List.mem_filter, List.mem_range]
  constructor
  · rintro ⟨h1, h2⟩
    exact ⟨h1, by simpa [show i < listed.size by omega] using h2⟩
  · rintro ⟨h1, h2⟩
    exact ⟨h1, by simpa [show i < listed.size by omega] using h2⟩
theorem waiting_sorted (listed : Array Bool) (N : Nat) : (waiting listed N).Pairwise (· < ·) := List.Pairwise.filter _ List.pairwise_lt_range
theorem waiting_set {listed : Array Bool} {N i : Nat} (h : N ≤ listed.size) {p q : List Nat} (hw : waiting listed N = p ++ i :: q) : waiting (listed.setIfInBounds i true) N = p ++ q := by
  have hs := waiting_sorted listed N
  rw [hw] at hs
  have e : waiting (listed.setIfInBounds i true) N = (waiting listed N).filter fun j => j != i := by
    unfold waiting
    rw [List.filter_filter]
    apply List.filter_congr
    intro j hj
    rw [List.mem_range] at hj
    by_cases hji : i = j
    · subst hji; simp [show i < listed.size by omega]
    · rw [getD_set_ne true hji]
      simp [Ne.symm hji]
  rw [e, hw, List.filter_append, List.filter_cons_of_neg (by simp)]
  rw [List.pairwise_append] at hs
  obtain ⟨_, h2, h3⟩ := hs
  rw [List.pairwise_cons] at h2
  rw [List.filter_eq_self.2, List.filter_eq_self.2]
  · intro j hj
    have := h2.1 j hj
    simp; omega
  · intro j hj
    have := h3 j hj i (by simp)
    simp; omega
/-- The prefix, in whatever order. -/
theorem lex_prefix {M : Array Nat} {N : Nat} {Q : Exit → Act → World → Prop} (hs : Region.noSelect ops = true) (hM : maskOk ops M = true) (hp : pairsOk ops E N M = true) (hN : N ≤ ops.size) : ∀ (fuel : Nat) (listed : Array Bool) (a : Act) (w : World), listed.size = ops.size → Closed ops listed →
    (∀ i, N ≤ i → i < ops.size → listed.getD i false = false) → C w → (waiting listed N).length + (ops.size - N) ≤ fuel →
    wpLs P ops C E (fun a w => wpOps P ops Q (List.range' N (ops.size - N)) a w) (waiting listed N) a w → wpAny P .any ops Q fuel listed a w := by
  intro fuel
  induction fuel with
  | zero =>
    intro listed a w hz hc hhi hC hf h
    have h0 : waiting listed N = [] := List.eq_nil_of_length_eq_zero (by omega)
    rw [h0] at h
    refine lex_tail (N := N) hM hp 0 N listed a w hz hc (fun i hi hi' => ?_) hhi (Nat.le_refl _) (by omega) h
    cases hl : listed.getD i false with
    | true => rfl
    | false => have := (mem_waiting (listed := listed) (N := N) (by omega)).2 ⟨hi, hl⟩; rw [h0] at this; cases this
  | succ fuel ih =>
    intro listed a w hz hc hhi hC hf h
    cases hw : waiting listed N with
    | nil =>
      rw [hw] at h
      refine lex_tail (N := N) hM hp (fuel + 1) N listed a w hz hc (fun i hi hi' => ?_) hhi (Nat.le_refl _) (by rw [hw] at hf; simpa using hf) h
      cases hl : listed.getD i false with
      | true => rfl
      | false => have := (mem_waiting (listed := listed) (N := N) (by omega)).2 ⟨hi, hl⟩; rw [hw] at this; cases this
    | cons k0 rest =>
      have hk0 := (mem_waiting (listed := listed) (N := N) (i := k0) (by omega)).1 (by rw [hw]; simp)
      have hsort := waiting_sorted listed N
      have hlow : ∀ i, i < k0 → listed.getD i false = true := by
        intro i hi
        cases hl : listed.getD i false with
        | true => rfl
        | false =>
          have hm := (mem_waiting (listed := listed) (N := N) (i := i) (by omega)).2 ⟨by omega, hl⟩
          rw [hw] at hm hsort
          rw [List.pairwise_cons] at hsort
          rcases List.mem_cons.1 hm with rfl | hm
          · omega
          · have := hsort.1 i hm; omega
      have hk0s : k0 < ops.size := by omega
      have ho0 : ops[k0]? = some ops[k0] := Array.getElem?_eq_getElem hk0s
      have hr : k0 ∈ Region.ready .any ops listed := mem_wait hz ho0 hk0.2 fun e he hb => hlow _ (edges_back hM ho0 e he hb)
      refine ⟨fun h0 => (by rw [h0] at hr; cases hr), fun i hi => ?_⟩
      obtain ⟨oi, hio, h0, he⟩ := ready_spec hz hi
      have hi' : i < ops.size := (Array.getElem?_eq_some_iff.1 hio).1
      have hbits : ∀ j, j < ops.size → (M.getD i 0).testBit j = true → listed.getD j false = true := mask_listed hM hc i oi hio he
      have hiN : i < N := by
        rcases Nat.lt_or_ge i N with h' | h'
        · exact h'
        · exfalso
          rcases pair_of hp hi' (show k0 < i by omega) with hb | ⟨hb, _⟩
          · have := hbits k0 (by omega) hb
            rw [hk0.2] at this
            cases this
          · omega
      have hmem := (mem_waiting (listed := listed) (N := N) (i := i) (by omega)).2 ⟨hiN, h0⟩
      obtain ⟨p, q, hpq⟩ := List.append_of_mem hmem
      have hfront := wpLs_front (E := E) (Region.noSelect_spec hs) hio p q a w (fun j hj oj hjo => by
        have hji : j < i := by
          have hs' := hsort
          rw [hpq, List.pairwise_append] at hs'
          exact hs'.2.2 j hj i (by simp)
        have hj0 := ((mem_waiting (listed := listed) (N := N) (i := j) (by omega)).1 (by rw [hpq]; simp [hj])).2
        rcases pair_of hp hi' hji with hb | ⟨_, hb⟩
        · have := hbits j (by omega) hb
          rw [hj0] at this
          cases this
        · exact hb oj oi hjo hio) hC (by rw [← hpq]; exact h)
      have hset := waiting_set (listed := listed) (N := N) (by omega) hpq
      refine stepL_wpOp hio (fun a w hc' hk => ih _ a w (by simp [hz]) (closed_set hc hio he) (fun j hj hjs => ?_) hc' ?_ ?_) hC hfront
      · rw [getD_set_ne false (by omega)]; exact hhi j hj hjs
      · rw [hset]; rw [hpq] at hf; simp at hf ⊢; omega
      · rw [hset]; exact hk

/-- The walk itself: n operations of the prefix are left, the next one is number k; behind them the tail, in its one order. -/
def wpLx (P : Program) (ops : Array Oper) (C : World → Prop) (E : Nat → Bool) (Q : Exit → Act → World → Prop) : Nat → Nat → List Oper → Act → World → Prop
  | 0, _, l, a, w => wpList P ops Q l a w
  | n + 1, k, o :: l, a, w => stepL P ops C (E k) o (wpLx P ops C E Q n (k + 1) l) a w
  | _ + 1, _, [], _, _ => False
theorem wpLs_of_wpLx {Q : Exit → Act → World → Prop} : ∀ (n k : Nat) (l : List Oper) (a : Act) (w : World), (∀ j, l[j]? = ops[k + j]?) → n ≤ l.length → k + l.length = ops.size → wpLx P ops C E Q n k l a w →
    wpLs P ops C E (fun a w => wpOps P ops Q (List.range' (k + n) (ops.size - (k + n))) a w) (List.range' k n) a w
  | 0, k, l, a, w, hl, _, hz, h => by
    simp only [List.range'_zero, wpLs, Nat.add_zero]
    simp only [wpLx] at h
    rw [show ops.size - k = l.length by omega, wpOps_eq_wpList l k hl]
    exact h
  | n + 1, k, [], a, w, _, hn, _, _ => by simp at hn
  | n + 1, k, o :: l, a, w, hl, hn, hz, h => by
    have h0 : ops[k]? = some o := by simpa using (hl 0).symm
    simp only [wpLx] at h
    rw [List.range'_succ]
    simp only [wpLs, h0]
    have ih := fun a w => wpLs_of_wpLx (Q := Q) n (k + 1) l a w (fun j => by have := hl (j + 1); simpa [Nat.add_assoc, Nat.add_comm 1 j] using this) (by simpa using hn) (by simp at hz; omega)
    rw [show k + (n + 1) = k + 1 + n by omega]
    unfold stepL at h ⊢
    split
    · rename_i hw
      rw [if_pos hw] at h
      split
      · rename_i he
        rw [if_pos he] at h
        exact Oper.wp_mono (fun a w ⟨c, hk⟩ => ⟨c, ih a w hk⟩) h
      · rename_i he
        rw [if_neg he] at h
        obtain ⟨v, hv, hk⟩ := h
        exact ⟨v, hv, ih _ _ hk⟩
    · rename_i hw
      rw [if_neg hw] at h
      exact ih _ _ h
/-- **A REGION THAT DRAWS ITS ORDER IS WALKED ONCE**: n operations of the prefix in the text's order (those that E names turn the world, and leave a world of the class C), the rest as a plain list. -/
theorem wp_region_lex {id : Nat} {Q : Exit → Act → World → Prop} {a : Act} {w : World} {l : List Oper} (C : World → Prop) (E : Nat → Bool) (n : Nat) (hm : P.follows .mixedOrders = true)
    (hB : lexOK l.toArray E n (Region.before l.toArray) = true) (hC : C { w with drawn := w.drawn + 1 }) (h : wpLx P l.toArray C E Q n 0 l a { w with drawn := w.drawn + 1 }) : (Code.region id l.toArray true).wp P Q a w := by
  simp only [lexOK, Bool.and_eq_true, decide_eq_true_eq] at hB
  obtain ⟨⟨⟨hs, hM⟩, hp⟩, hN⟩ := hB
  have hN' : n ≤ l.length := by simpa using hN
  refine wp_region_any hm ?_
  have hw : waiting (Array.replicate l.toArray.size false) n = List.range n := by
    unfold waiting
    rw [List.filter_eq_self]
    intro i hi
    rw [List.mem_range] at hi
    have : i < l.length := by omega
    simp [this]
  have h1 := wpLs_of_wpLx (E := E) (ops := l.toArray) n 0 l a _ (by simp) hN' (by simp) h
  rw [Nat.zero_add, ← List.range_eq_range'] at h1
  refine lex_prefix (E := E) hs hM hp hN _ _ a _ (by simp) ?_ ?_ hC ?_ ?_
  · intro k o _ hl
    exfalso
    have hk : ¬ (Array.replicate l.toArray.size false).getD k false = true := by
      by_cases hk : k < l.length <;> simp [hk]
    exact hk hl
  · intro i _ hi
    have hi' : i < l.length := by simpa using hi
    simp [hi']
  · rw [hw]; simp; omega
  · rw [hw]; exact h1
section
variable {Q : Exit → Act → World → Prop} {n k : Nat} {o : Oper} {l : List Oper} {a : Act} {w : World}
theorem lx_quiet (hE : E k = false) (hw : Region.wanted o (yielded ops a.tmps) = true) (hv : isV o.op = true) (h : ∀ K : Act → Prop, (∀ a', wpLx P ops C E Q n (k + 1) l a' w → K a') → o.quiet P a C K) : wpLx P ops C E Q (n + 1) k (o :: l) a w := by
  obtain ⟨v, hq, hk⟩ := h (fun a' => wpLx P ops C E Q n (k + 1) l a' w) fun _ h => h
  simp only [wpLx, stepL, hw, if_true, hE]
  exact ⟨v, fun w' hw' => qAt_of_quietAt hv (hq w' hw'), hk⟩
theorem lx_skip (hw : Region.wanted o (yielded ops a.tmps) = false) (h : wpLx P ops C E Q n (k + 1) l (a.put o.dst undef) w) : wpLx P ops C E Q (n + 1) k (o :: l) a w := by
  simp only [wpLx, stepL, hw]
  exact h
theorem lx_eff (hE : E k = true) (hw : Region.wanted o (yielded ops a.tmps) = true) (h : ∀ K : Act → World → Prop, (∀ a' w', (C w' ∧ wpLx P ops C E Q n (k + 1) l a' w') → K a' w') → o.wp P a w K noOut) : wpLx P ops C E Q (n + 1) k (o :: l) a w := by
  simp only [wpLx, stepL, hw, if_true, hE]
  exact h _ fun _ _ h => h
theorem lx_done (h : wpList P ops Q l a w) : wpLx P ops C E Q 0 k l a w := h
end
end
attribute [irreducible] wpLx
end Go.Proofs.Ytfgammcefaomeaa
/- The guard of an operation, read off the frame by the kit's own tactic, for the lexical walk of a region with guards. And a class of worlds: those in which the blocks below a number are as they were. -/
namespace Go.Proofs.Ytfgammcefaomeaa
open Go Go.RowKit
section
variable {P : Program} {ops : Array Oper} {C : World → Prop} {E : Nat → Bool} {Q : Exit → Act → World → Prop} {n k : Nat} {o : Oper} {l : List Oper} {a : Act} {w : World}
theorem lx_skipT (_ : wpQuiet P ops (fun _ => False) (fun _ => True) [o] a) (hw : Region.wanted o (yielded ops a.tmps) = false) (h : wpLx P ops C E Q n (k + 1) l (a.put o.dst undef) w) : wpLx P ops C E Q (n + 1) k (o :: l) a w := lx_skip hw h
theorem lx_quietT (hE : E k = false) (_ : wpQuiet P ops (fun _ => False) (fun _ => True) [o] a) (hw : Region.wanted o (yielded ops a.tmps) = true) (hv : isV o.op = true)
    (h : ∀ K : Act → Prop, (∀ a', wpLx P ops C E Q n (k + 1) l a' w → K a') → o.quiet P a C K) : wpLx P ops C E Q (n + 1) k (o :: l) a w := lx_quiet hE hw hv h
theorem lx_effT (hE : E k = true) (_ : wpQuiet P ops (fun _ => False) (fun _ => True) [o] a) (hw : Region.wanted o (yielded ops a.tmps) = true)
    (h : ∀ K : Act → World → Prop, (∀ a' w', (C w' ∧ wpLx P ops C E Q n (k + 1) l a' w') → K a' w') → o.wp P a w K noOut) : wpLx P ops C E Q (n + 1) k (o :: l) a w := lx_eff hE hw h
theorem quiet_false {K : Act → Prop} (hK : ∀ a, wpQuiet P ops (fun _ => False) (fun _ => True) [] a → K a) : o.quiet P a (fun _ => False) K := ⟨undef, fun _ h => h.elim, hK _ (wpQuiet_nil trivial)⟩
end
/-- A world in which the blocks below k are as they were. -/
structure Later (k : Nat) (w0 : World) where
  w : World
  h : Below k w0 w
instance (k : Nat) (w0 : World) : Nonempty (Later k w0) := ⟨⟨w0, Below.refl _ _⟩⟩
theorem Later.start (k : Nat) (w0 : World) : ∃ u : Later k w0, w0.drew = u.w := ⟨⟨w0.drew, (Below.refl _ _).drew⟩, rfl⟩
theorem Later.on {k : Nat} {w0 w : World} (h : Below k w0 w) : ∃ u : Later k w0, w = u.w := ⟨⟨w, h⟩, rfl⟩
end Go.Proofs.Ytfgammcefaomeaa
/- The walk of package sha's mix: a block is taken into the state's eight words as XSha's plain function says; nothing else of what was there turns. -/
namespace Go.Proofs.Ytfgammcefaomeaa
open Go.RowKit
attribute [local go_sem] wn_add wn_xor wn_and wn_or wn_shr wn_shl bn_wide wn_shl24 wn_shl16 wn_shl8
/-- The table that is added. -/
def TabK (K : Nat → BitVec 32) (g : Nat) (w : World) : Prop := ∃ T cs fr, w.heap[g]? = some (.cells cs T fr) ∧ cs.size = 64 ∧ ∀ i, i < 64 → cs[i]? = some (.int .u32 (wn (K i)))

end Go.Proofs.Ytfgammcefaomeaa
/- Slices that read as lists, one cell an element: what keeps them, how they are cut, and the law on append from such a slice. Of whatever program. -/
namespace Go.Proofs.Ytfgammcefaomeaa
open Go Go.RowKit

/-- The ending is a return of a value of which Q holds. -/
def Returns (Q : Value → World → Prop) (e : Ending) (w : World) : Prop := ∃ v, e = .returned v ∧ Q v w
theorem Returns.mk {Q : Value → World → Prop} {v : Value} {w : World} (h : Q v w) : Returns Q (.returned v) w := ⟨v, rfl, h⟩

/-- The slice value v reads as xs. -/
def Rd (w : World) (v : Value) (xs : List Value) : Prop :=
  ∃ ao cap, v = .slice ao xs.length cap ∧ xs.length ≤ cap ∧ cap ≤ 9223372036854775807 ∧ (ao = none → cap = 0) ∧ ∀ ad, ao = some ad → ∀ j u, xs[j]? = some u → w.cell? (ad.add j) = some u
theorem Addr.block_add (a : Addr) (n : Nat) : (a.add n).block = a.block := by unfold Addr.add; split <;> rfl
theorem Rd.keep {w w' : World} {v : Value} {xs : List Value} (h : Rd w v xs) (hk : ∀ g, v.ownBlock = some g → xs ≠ [] → g < w.heap.size → w'.heap[g]? = w.heap[g]?) : Rd w' v xs := by
  obtain ⟨ao, cap, rfl, h1, h2, h3, h4⟩ := h
  refine ⟨ao, cap, rfl, h1, h2, h3, fun ad ha j u hu => ?_⟩
  subst ha
  have hc := h4 ad rfl j u hu
  have hlt := World.block_lt_of_cell? w _ hc
  rw [Addr.block_add] at hlt
  rw [World.cell?_of_block (w := w) (by rw [Addr.block_add]; exact hk ad.block rfl (fun e => by simp [e] at hu) hlt)]
  exact hc
theorem Rd.grow {w w' : World} {v : Value} {xs : List Value} (h : Rd w v xs) (hb : Below w.heap.size w w') : Rd w' v xs := h.keep fun g _ _ hg => hb.block g hg
theorem Rd.below {w w' : World} {v : Value} {xs : List Value} (h : Rd w v xs) {k : Nat} (hb : Below k w w') (hk : ∀ g, v.ownBlock = some g → xs ≠ [] → g < k) : Rd w' v xs := h.keep fun g hg hx _ => hb.block g (hk g hg hx)
theorem Rd.grown {w w' : World} {v : Value} {xs : List Value} (h : Rd w v xs) {row : Option Nat} (hg : w.grownBy w' row) (hne : ∀ g, v.ownBlock = some g → xs ≠ [] → some g ≠ row) : Rd w' v xs := h.keep fun g hv hx hlt => hg.block g hlt (hne g hv hx)
theorem Rd.setCell {w : World} {v : Value} {xs : List Value} (h : Rd w v xs) {p : Addr} (hne : ∀ g, v.ownBlock = some g → xs ≠ [] → g ≠ p.block) (u : Value) : Rd (w.setCell p u) v xs := h.keep fun g hv hx _ => Below.heap_setCell _ _ _ _ (hne g hv hx)
theorem Rd.lt {w : World} {v : Value} {xs : List Value} (h : Rd w v xs) {g : Nat} (hg : v.ownBlock = some g) (hx : xs ≠ []) : g < w.heap.size := by
  obtain ⟨ao, cap, rfl, h1, h2, h3, h4⟩ := h
  cases ao with
  | none => cases hg
  | some ad =>
    simp only [Value.ownBlock, Option.some.injEq] at hg
    subst hg
    cases xs with
    | nil => exact absurd rfl hx
    | cons x xs =>
      have := World.block_lt_of_cell? w _ (h4 ad rfl 0 x rfl)
      rwa [Addr.block_add] at this
theorem Rd.nil (w : World) : Rd w (.slice none 0 0) [] := ⟨none, 0, rfl, Nat.le_refl _, by omega, fun _ => rfl, fun _ h => by cases h⟩
theorem Rd.at {w : World} {v : Value} {xs : List Value} (h : Rd w v xs) (hx : 0 < xs.length) : ∃ g o cap, v = .slice (some ⟨g, o, none⟩) xs.length cap ∧ xs.length ≤ cap ∧ cap ≤ 9223372036854775807 ∧ g < w.heap.size ∧ ∀ j u, xs[j]? = some u → w.cell? ⟨g, o + j, none⟩ = some u := by
  obtain ⟨ao, cap, rfl, h1, h2, h3, h4⟩ := h
  cases ao with
  | none => have := h3 rfl; omega
  | some ad =>
    obtain ⟨g, o, spot⟩ := ad
    have hc := h4 _ rfl 0 _ (List.getElem?_eq_getElem hx)
    have hs : spot = none := by
      cases spot with
      | none => rfl
      | some b =>
        simp only [Addr.add, if_true, World.cell?] at hc
        split at hc <;> simp at hc
    subst hs
    refine ⟨g, o, cap, rfl, h1, h2, ?_, fun j u hu => ?_⟩
    · have := World.block_lt_of_cell? w _ hc; rwa [Addr.block_add] at this
    · have := h4 _ rfl j u hu; rwa [Addr.add_lit] at this
theorem Rd.of_own {w : World} {base e : Nat} {v : Value} {n : Nat} {xs : List Value} (h : w.ownsRow base e 1 v n xs) : Rd w v xs := by
  have hl : xs.length = n := by simpa using h.1
  rcases h.2 with ⟨rfl, rfl⟩ | ⟨g, cap, cur, rfl, _, hg, hn, hm, hc, ht⟩
  · have : xs = [] := List.eq_nil_of_length_eq_zero hl
    subst this
    exact Rd.nil w
  · refine ⟨some ⟨g, 0, none⟩, cap, by rw [hl], by omega, by simpa [maxLen] using hm, fun he => (by cases he), fun ad ha j u hu => ?_⟩
    cases ha
    exact h.cells rfl j u hu
theorem ownsRow_mono {w : World} {base base' e size : Nat} {v : Value} {n : Nat} {xs : List Value} (h : w.ownsRow base e size v n xs) (hb : base' ≤ base) : w.ownsRow base' e size v n xs := by
  refine ⟨h.1, ?_⟩
  rcases h.2 with h | ⟨g, cap, cur, h1, h2, h3⟩
  · exact .inl h
  · exact .inr ⟨g, cap, cur, h1, Nat.le_trans hb h2, h3⟩
theorem ownsRow_below {w w' : World} {base e size : Nat} {v : Value} {n : Nat} {xs : List Value} (h : w.ownsRow base e size v n xs) (hk : ∀ g, v.ownBlock = some g → w'.heap[g]? = w.heap[g]?) : w'.ownsRow base e size v n xs := by
  refine ⟨h.1, ?_⟩
  rcases h.2 with h | ⟨g, cap, cur, rfl, h2, h3, h4⟩
  · exact .inl h
  · exact .inr ⟨g, cap, cur, rfl, h2, by rw [hk g rfl]; exact h3, h4⟩
/-- Cut off ahead: 's[k:]' as the walk writes it, for a slice that is not empty. -/
theorem Rd.drop {w : World} {g o cap : Nat} {xs : List Value} (h : Rd w (.slice (some ⟨g, o, none⟩) xs.length cap) xs) {k : Nat} (hk : k ≤ xs.length) (ao : Option Addr) (hao : ¬ cap = k → ao = some ⟨g, o + k, none⟩) :
    Rd w (.slice ao (xs.length - k) (cap - k)) (xs.drop k) := by
  obtain ⟨ao', cap', hv, h1, h2, h3, h4⟩ := h
  cases hv
  refine ⟨ao, cap - k, by rw [List.length_drop], by rw [List.length_drop]; omega, by omega, fun e => ?_, fun ad ha j u hu => ?_⟩
  · by_cases hc : cap = k
    · omega
    · rw [hao hc] at e; cases e
  · rw [List.getElem?_drop] at hu
    have hj : k + j < xs.length := (List.getElem?_eq_some_iff.1 hu).1
    rw [hao (by omega)] at ha
    cases ha
    have := h4 _ rfl (k + j) u hu
    rw [Addr.add_lit] at this ⊢
    rwa [Nat.add_assoc]
/-- Cut off behind: 's[:k]'. -/
theorem Rd.take {w : World} {g o cap : Nat} {xs : List Value} (h : Rd w (.slice (some ⟨g, o, none⟩) xs.length cap) xs) {k : Nat} (hk : k ≤ xs.length) :
    Rd w (.slice (some ⟨g, o, none⟩) k cap) (xs.take k) := by
  obtain ⟨ao', cap', hv, h1, h2, h3, h4⟩ := h
  cases hv
  refine ⟨_, cap, by rw [List.length_take, Nat.min_eq_left hk], by rw [List.length_take]; omega, h2, fun e => (by cases e), fun ad ha j u hu => ?_⟩
  cases ha
  refine h4 _ rfl j u ?_
  rw [List.getElem?_take] at hu
  split at hu
  · exact hu
  · cases hu

theorem Rd.none_nil {w : World} {n c : Nat} {xs : List Value} (h : Rd w (.slice none n c) xs) : xs = [] := by
  obtain ⟨ao, cap, hv, h1, _, h3, _⟩ := h
  cases hv
  have := h3 rfl
  exact List.eq_nil_of_length_eq_zero (by omega)
theorem Rd.none_zero {w : World} {n c : Nat} {xs : List Value} (h : Rd w (.slice none n c) xs) : xs = [] ∧ c = 0 := by
  obtain ⟨ao, cap, hv, h1, _, h3, _⟩ := h
  cases hv
  have := h3 rfl
  exact ⟨List.eq_nil_of_length_eq_zero (by omega), this⟩
/-- 'append(s, x...)', s nil or the call's own, x a slice that reads as a list. -/
theorem wpList_append_rd {P : Program} {w : World} {ops : Array Oper} {rest : List Oper} {o : Oper} {a : Act} {Q : Exit → Act → World → Prop} (hgd : o.guard = none) (s x : Operand) (t : TypeId)
    (ho : o.op = .call { callee := .builtin .append, args := #[s, x], argTypes := #[t, t] })
    (base : Nat) (e : TypeId) (z : Value) (bytes : Nat) (ht : P.underlying t = some (.slice e)) (hinfo : (P.info? e).map (fun i => (i.zero, i.size, i.bytes)) = some (some z, 1, bytes)) (hzs : z.cells.size = 1)
    (v vx : Value) (xs news : List Value) (hs : a.eval s = v) (hx : a.eval x = vx) (hown : w.ownsRow base e 1 v xs.length xs) (hrd : Rd w vx news) (h1 : ∀ u ∈ news, u.oneCell' = true)
    (hbytes : (xs.length + news.length) * bytes ≤ 140737488355328) (hlen : xs.length + news.length ≤ 140737488355328) (hbase : base ≤ w.heap.size)
    (h : ∀ v' w', w'.ownsRow base e 1 v' (xs ++ news).length (xs ++ news) → w.grownBy w' v.ownBlock → (v' = .slice none 0 0 ↔ v = .slice none 0 0 ∧ news = []) → wpList P ops Q rest (a.put o.dst v') w') : wpList P ops Q (o :: rest) a w := by
  obtain ⟨i, hi, hz1, hz2, hz3⟩ := info_parts hinfo
  obtain ⟨ao, cap, rfl, r1, r2, r3, r4⟩ := hrd
  have hnl : (news.length = 0) ↔ news = [] := List.length_eq_zero_iff
  cases ao with
  | none =>
    have hc := r3 rfl
    have hn : news = [] := hnl.1 (by omega)
    subst hn hc
    refine wpList_append_own_none hgd s x t ho base e i 1 ht hi v _ xs hs hown hx ?_
    exact h v w (by simpa using hown) ⟨rfl, rfl, rfl, Nat.le_refl _, fun _ _ _ => rfl⟩ (by simp)
  | some ad =>
    refine wpList_append_own w hgd s x t ho base e i z 1 bytes ht hi hz1 hz2 hz3 hzs (by omega) v _ xs hs hown ad news.length cap news hx (by simp) (r4 ad rfl) h1 (by unfold maxLen; omega) hbytes hbase ?_
    intro v' w' k1 k2 k3
    exact h v' w' (by rw [List.length_append]; exact k1) k2 (by rw [k3, hnl])
/-- The ending is a return of a slice of n elements of which Q holds. -/
def RetSl (n : Nat) (Q : Value → World → Prop) (e : Ending) (w : World) : Prop := ∃ ao cap, e = .returned (.slice ao n cap) ∧ Q (.slice ao n cap) w
theorem own_shape {w : World} {base e size : Nat} {v : Value} {n : Nat} {xs : List Value} (h : w.ownsRow base e size v n xs) : ∃ ao cap, v = .slice ao n cap := by
  rcases h.2 with ⟨rfl, rfl⟩ | ⟨g, cap, cur, rfl, _⟩
  · exact ⟨none, 0, rfl⟩
  · exact ⟨_, cap, rfl⟩
theorem RetSl.of_own {n : Nat} {Q : Value → World → Prop} {e : Ending} {w : World} {base el size : Nat} {xs : List Value} (h : Returns Q e w) (ho : ∀ v w, Q v w → w.ownsRow base el size v n xs) : RetSl n Q e w := by
  obtain ⟨v, rfl, hq⟩ := h
  obtain ⟨ao, cap, rfl⟩ := own_shape (ho v w hq)
  exact ⟨ao, cap, rfl, hq⟩
/-- Of what was there only blocks of S may have turned. -/
structure Fr (S : Nat → Prop) (w w' : World) : Prop where
  os : w'.os = w.os
  tape : w'.tape = w.tape
  output : w'.output = w.output
  size : w.heap.size ≤ w'.heap.size
  block : ∀ k, k < w.heap.size → ¬ S k → w'.heap[k]? = w.heap[k]?
theorem Fr.refl (S : Nat → Prop) (w : World) : Fr S w w := ⟨rfl, rfl, rfl, Nat.le_refl _, fun _ _ _ => rfl⟩
theorem Fr.trans {S : Nat → Prop} {a b c : World} (h : Fr S a b) (k : Fr S b c) : Fr S a c :=
  ⟨k.os.trans h.os, k.tape.trans h.tape, k.output.trans h.output, Nat.le_trans h.size k.size, fun i hi hn => (k.block i (Nat.lt_of_lt_of_le hi h.size) hn).trans (h.block i hi hn)⟩
theorem Fr.mono {S S' : Nat → Prop} {w w' : World} (h : Fr S w w') (hs : ∀ k, k < w.heap.size → S k → S' k) : Fr S' w w' := ⟨h.os, h.tape, h.output, h.size, fun k hk hn => h.block k hk fun hh => hn (hs k hk hh)⟩
theorem Fr.of_below {S : Nat → Prop} {w w' : World} (h : Below w.heap.size w w') : Fr S w w' := ⟨h.os, h.tape, h.output, h.size, fun k hk _ => h.block k hk⟩
theorem Fr.of_grown {S : Nat → Prop} {w w' : World} {row : Option Nat} (h : w.grownBy w' row) (hs : ∀ k, row = some k → S k) : Fr S w w' := ⟨h.os, h.tape, h.output, h.size, fun k hk hn => h.block k hk fun e => hn (hs k e.symm)⟩
theorem Fr.drew {S : Nat → Prop} {a w : World} (h : Fr S a w) : Fr S a w.drew := ⟨h.os, h.tape, h.output, h.size, h.block⟩
theorem Fr.drewN {S : Nat → Prop} {a w : World} (h : Fr S a w) (n : Nat) : Fr S a (w.drewN n) := ⟨h.os, h.tape, h.output, h.size, h.block⟩
theorem Fr.setCell {S : Nat → Prop} {a w : World} (h : Fr S a w) {p : Addr} (hp : S p.block) (u : Value) : Fr S a (w.setCell p u) :=
  h.trans ⟨rfl, rfl, rfl, by simp [World.setCell], fun k _ hn => Below.heap_setCell _ _ _ _ (fun e => hn (e ▸ hp))⟩
theorem Fr.alloc {S : Nat → Prop} {a w : World} (h : Fr S a w) (o : Obj) : Fr S a (w.alloc o) := h.trans (Fr.of_below ((Below.refl _ _).alloc (Nat.le_refl _) _))
theorem Fr.below {S : Nat → Prop} {w w' : World} (h : Fr S w w') {B : Nat} (hB : B ≤ w.heap.size) (hs : ∀ k, S k → B ≤ k) : Below B w w' :=
  ⟨h.os, h.tape, h.output, h.size, fun k hk => h.block k (by omega) fun hh => by have := hs k hh; omega⟩
theorem Rd.fr {w w' : World} {v : Value} {xs : List Value} (h : Rd w v xs) {S : Nat → Prop} (hf : Fr S w w') (hn : ∀ g, v.ownBlock = some g → xs ≠ [] → ¬ S g) : Rd w' v xs := h.keep fun g hg hx hlt => hf.block g hlt (hn g hg hx)
theorem own_lt {w : World} {base e size : Nat} {v : Value} {n : Nat} {xs : List Value} (h : w.ownsRow base e size v n xs) {g : Nat} (hg : v.ownBlock = some g) : base ≤ g ∧ g < w.heap.size := h.lt g hg
theorem ownsRow_fr {w w' : World} {base e size : Nat} {v : Value} {n : Nat} {xs : List Value} (h : w.ownsRow base e size v n xs) {S : Nat → Prop} (hf : Fr S w w') (hn : ∀ g, v.ownBlock = some g → ¬ S g) : w'.ownsRow base e size v n xs :=
  ownsRow_below h fun g hg => hf.block g (own_lt h hg).2 (hn g hg)
end Go.Proofs.Ytfgammcefaomeaa
/- The walk of slices.Clone at bytes: what it hands back is the call's own, and reads as what came in. -/
namespace Go.Proofs.Ytfgammcefaomeaa
open Go Go.RowKit
theorem info_byte : (Try.prog.info? 5).map (fun i => (i.zero, i.size, i.bytes)) = some (some (.int .u8 0), 1, 1) := by kernel_rfl
end Go.Proofs.Ytfgammcefaomeaa
namespace Go.Proofs.Ytfgammcefaomeaa
open Go Go.RowKit
/-- What a slot that holds a slice has as its length. -/
def lenV : Value → Nat | .slice _ n _ => n | _ => 0
theorem TabK_fr {K : Nat → BitVec 32} {g : Nat} {w w' : World} (h : TabK K g w) {S : Nat → Prop} (hf : Fr S w w') (hn : ¬ S g) : TabK K g w' := by
  obtain ⟨T, cs, fr, h1, h2⟩ := h
  exact ⟨T, cs, fr, (hf.block g (heap_lt h1) hn).trans h1, h2⟩
end Go.Proofs.Ytfgammcefaomeaa
namespace Go.Proofs.Ytfgammcefaomeaa
open Go Go.RowKit
theorem run_sliceAt_low {P : Program} {t n e : Nat} (ht : P.underlying t = some (.array n e)) (hs : (P.info? e).map (·.size) = some 1) (b l : Nat) (hl : l < n) (x : Int) (hx : x = (l : Int)) (w : World) :
    (Instr.sliceAt t (.pointer (some ⟨b, 0, none⟩)) (some (.int .i64 x)) none none).run P w = .ok (.slice (some ⟨b, l, none⟩) (n - l) (n - l)) w := by
  subst hx
  obtain ⟨i0, hi0, hz⟩ := Option.map_eq_some_iff.1 hs
  have hn : P.arrayLen t = n := by simp [Program.arrayLen, ht]
  have he : P.elem t = e := by simp [Program.elem, ht]
  have ht' : P.underlying t = some (.array (P.arrayLen t) (P.elem t)) := by rw [hn, he]; exact ht
  rw [run_sliceAt_array_l w t _ ht' .i64 (l : Int) (by omega) (by rw [hn]; omega), he, hn]
  have : ¬ n = l := by omega
  have hc : P.cellsOf e = 1 := by simp [Program.cellsOf, hi0, hz]
  simp [run_sizeOf w hi0, slicedAt, hc, this, Addr.add]
  intro h0; exact h0.symm
/-- The end that a sum's bytes get: a bit, zeros, and how many bits there are. -/
def beByte (m : Nat) (t : Nat) : BitVec 8 := BitVec.ofNat 8 (m >>> (8 * (7 - t)))
def tailB (N j : Nat) : List (BitVec 8) := 128 :: (List.replicate (63 - (N + 8) % 64) 0 ++ (List.range j).map (beByte (N * 8)))
def key0 : Array Value := #[.int .u8 0, .int .u8 0, .int .u8 0, .int .u8 0, .int .u8 0, .int .u8 0, .int .u8 0, .int .u8 0, .int .u8 0, .int .u8 0, .int .u8 0, .int .u8 0, .int .u8 0, .int .u8 0, .int .u8 0, .int .u8 0, .int .u8 0, .int .u8 0, .int .u8 0, .int .u8 0, .int .u8 0, .int .u8 0, .int .u8 0, .int .u8 0, .int .u8 0, .int .u8 0, .int .u8 0, .int .u8 0, .int .u8 0, .int .u8 0, .int .u8 0, .int .u8 0]
/-- A word's bytes, the highest first; a state's. -/
def wbytes (x : BitVec 32) : List (BitVec 8) := [(x >>> 24).setWidth 8, (x >>> 16).setWidth 8, (x >>> 8).setWidth 8, x.setWidth 8]
def keyBytes (s : St) : List (BitVec 8) := (List.range 8).flatMap (fun i => wbytes (s.at i))
/-- The sum of a state, behind N bytes, with so many left. -/
def finKey (K : Nat → BitVec 32) (s : St) (N : Nat) (rest : List (BitVec 8)) : List (BitVec 8) := keyBytes (absorb K ((rest ++ tailB N 8).length / 64) s (rest ++ tailB N 8))
theorem Rd.lit (w : World) (cs : Array Value) (t n : Nat) (hn : cs.size = n) (hm : n ≤ maxLen) : Rd (w.alloc (.cells cs t)) (.slice (some ⟨w.heap.size, 0, none⟩) n n) cs.toList :=
  Rd.of_own (World.ownsRow_lit (base := 0) w cs n (Nat.zero_le _) hm (by omega))
end Go.Proofs.Ytfgammcefaomeaa
/- Arrays of integers: '==' of two of them; a field of a struct's value. Of whatever program. -/
namespace Go.Proofs.Ytfgammcefaomeaa
open Go Go.RowKit
theorem all_range_ints : ∀ (xs ys : List Int), xs.length = ys.length → ((List.range xs.length).all fun i => xs.getD i 0 == ys.getD i 0) = (xs == ys)
  | [], [], _ => rfl
  | x :: xs, y :: ys, h => by
    have ih := all_range_ints xs ys (by simpa using h)
    rw [List.length_cons, List.range_succ_eq_map, List.all_cons, List.all_map]
    simp only [List.getD_cons_zero, Function.comp_def, List.getD_cons_succ, ih]
    simp [List.cons_beq_cons]
  | [], _ :: _, h => by simp at h
  | _ :: _, [], h => by simp at h
theorem run_equalIn_ints {P : Program} (w : World) (D d : Nat) (hD : D = d + 2) (t e n : Nat) (k : IntKind) (ht : P.underlying t = some (.array n e)) (he : P.underlying e = some (.int k)) (hs : (P.info? e).map (·.size) = some 1)
    (xs ys : List Int) (hx : xs.length = n) (hy : ys.length = n) :
    (Op.equalIn D t (.agg (xs.map (.int k)).toArray) (.agg (ys.map (.int k)).toArray)).run P w = .ok (xs == ys) w := by
  subst hD
  obtain ⟨i0, hi0, hz⟩ := Option.map_eq_some_iff.1 hs
  have hc : P.cellsOf e = 1 := by simp [Program.cellsOf, hi0, hz]
  have hsz : ∀ w, (sizeOf e).run P w = .ok 1 w := fun w => by rw [run_sizeOf w hi0, hc]
  rw [← all_range_ints xs ys (hx.trans hy.symm), hx, List.range_eq_range', Op.equalIn]
  simp only [Sem.run_bind, run_underlying ht, Result.andThen_ok, hsz, Std.Legacy.Range.forIn_eq_forIn_range', Std.Legacy.Range.size, Nat.sub_zero, Nat.add_sub_cancel, Nat.div_one]
  have hl : ∀ i ∈ List.range' 0 n 1, i < n := fun i hi => by simpa using (List.mem_range'_1.1 hi).2
  generalize List.range' 0 n 1 = l at hl ⊢
  induction l with
  | nil => simp
  | cons i l ih =>
    have hi : i < n := hl i (by simp)
    have px : (part e (xs.map (.int k)).toArray (i * 1)).run P w = .ok (.int k (xs.getD i 0)) w := by
      simp [part, isAgg, run_underlying he, List.getD, List.getElem?_eq_getElem (show i < xs.length by omega)]
    have py : (part e (ys.map (.int k)).toArray (i * 1)).run P w = .ok (.int k (ys.getD i 0)) w := by
      simp [part, isAgg, run_underlying he, List.getD, List.getElem?_eq_getElem (show i < ys.length by omega)]
    have pe : (Op.equalIn (d + 1) e (.int k (xs.getD i 0)) (.int k (ys.getD i 0))).run P w = .ok (xs.getD i 0 == ys.getD i 0) w := run_equalIn_int w d e k k _ _ he
    simp only [List.forIn_cons, Sem.run_bind, px, py, pe, Result.andThen_ok, List.all_cons]
    cases hb : (xs.getD i 0 == ys.getD i 0)
    · simp
    · simp only [Bool.not_true, Bool.false_eq_true, if_false, Sem.run_pure, Result.andThen_ok, Bool.true_and]
      exact ih fun j hj => hl j (by simp [hj])
end Go.Proofs.Ytfgammcefaomeaa
namespace Go.Proofs.Ytfgammcefaomeaa
open Go Go.RowKit
deriving instance DecidableEq for St
/-- The words at first. -/
def iv : St := ⟨1779033703, 3144134277, 1013904242, 2773480762, 1359893119, 2600822924, 528734635, 1541459225⟩
end Go.Proofs.Ytfgammcefaomeaa
/- A sum in progress, of any bytes: what it is behind more bytes. Lists of byte slices. No program here. -/
namespace Go.Proofs.Ytfgammcefaomeaa
open Go Go.RowKit
/-- The state behind the whole blocks of d, and what is left. -/
def shaSt (K : Nat → BitVec 32) (s : St) (d : List (BitVec 8)) : St := absorb K (d.length / 64) s d
def restOf (d : List (BitVec 8)) : List (BitVec 8) := d.drop (64 * (d.length / 64))
/-- A slice of byte slices reads as a list of lists. -/
def RdAll (w : World) (v : Value) (ps : List (List (BitVec 8))) : Prop := ∃ vs, Rd w v vs ∧ vs.length = ps.length ∧ ∀ i v, vs[i]? = some v → Rd w v (bv (ps.getD i []))
theorem RdAll.fr {w w' : World} {v : Value} {ps : List (List (BitVec 8))} (h : RdAll w v ps) {S : Nat → Prop} (hf : Fr S w w') (hn : ∀ k, k < w.heap.size → ¬ S k) : RdAll w' v ps := by
  obtain ⟨vs, h1, h2, h3⟩ := h
  exact ⟨vs, h1.fr hf (fun g hg hx => hn g (h1.lt hg hx)), h2, fun i v hv => (h3 i v hv).fr hf (fun g hg hx => hn g ((h3 i v hv).lt hg hx))⟩
theorem RdAll.below {w w' : World} {v : Value} {ps : List (List (BitVec 8))} (h : RdAll w v ps) (hb : Below w.heap.size w w') : RdAll w' v ps := h.fr (Fr.of_below (S := fun _ => False) hb) (fun _ _ h => h)
theorem RdAll.shape {w : World} {v : Value} {ps : List (List (BitVec 8))} (h : RdAll w v ps) : ∃ ao cap, v = .slice ao ps.length cap ∧ ps.length ≤ 9223372036854775807 := by
  obtain ⟨vs, ⟨ao, cap, rfl, r1, r2, r3, r4⟩, h2, h3⟩ := h
  exact ⟨ao, cap, by rw [h2], by omega⟩
theorem RdAll.cell {w : World} {v : Value} {ps : List (List (BitVec 8))} (h : RdAll w v ps) {i : Nat} (hi : i < ps.length) : ∃ g o cap u, v = .slice (some ⟨g, o, none⟩) ps.length cap ∧ w.cell? ⟨g, o + i, none⟩ = some u ∧ Rd w u (bv (ps.getD i [])) := by
  obtain ⟨vs, h1, h2, h3⟩ := h
  obtain ⟨g, o, cap, rfl, r1, r2, r3, r4⟩ := h1.at (by omega)
  have hv : vs[i]? = some (vs[i]'(by omega)) := List.getElem?_eq_getElem (by omega)
  exact ⟨g, o, cap, _, by rw [h2], r4 i _ hv, h3 i _ hv⟩
end Go.Proofs.Ytfgammcefaomeaa
namespace Go.Proofs.Ytfgammcefaomeaa
open Go Go.RowKit
/-- The sum at once. -/
def digest (K : Nat → BitVec 32) (d : List (BitVec 8)) : List (BitVec 8) := finKey K (shaSt K iv d) d.length (restOf d)
theorem RdAll.elem_lt {w wr : World} {ao : Option Addr} {n cap : Nat} {ps : List (List (BitVec 8))} (h : RdAll w (.slice ao n cap) ps) (hb : Below w.heap.size w wr) {i g o : Nat} (hi : i < ps.length) {u : Value} (hao : ao = some ⟨g, o, none⟩) (hc : wr.cell? ⟨g, o + i, none⟩ = some u) :
    ∀ g, u.ownBlock = some g → bv (ps.getD i []) ≠ [] → g < w.heap.size := by
  obtain ⟨g', o', cap', u', hv, hc', hu'⟩ := h.cell hi
  subst hao
  cases hv
  have := hb.cell (p := ⟨g, o + i, none⟩) (World.block_lt_of_cell? w _ hc')
  rw [hc, hc'] at this
  cases this
  exact fun g hg hx => hu'.lt hg hx
end Go.Proofs.Ytfgammcefaomeaa
namespace Go.Proofs.Ytfgammcefaomeaa
open Go Go.RowKit
theorem wpList_store_rowX {P : Program} {ops : Array Oper} {rest : List Oper} {o : Oper} {a : Act} {w : World} {Q : Exit → Act → World → Prop} (hgd : o.guard = none) (ty : TypeId) (x y : Operand) (ho : o.op = .store ty x y)
    (g : Nat) (cells : Array Value) (hx : a.eval x = .pointer (some ⟨g, 0, none⟩)) (hy : a.eval y = .agg cells)
    (t : TypeId) (old : Array Value) (hg : w.heap[g]? = some (.cells old t (0, 0))) (hi : (P.info? ty).map (·.size) = some cells.size)
    (hold : old.size = cells.size) (h1 : cells.all (·.oneCell') = true)
    (h : ∀ w', Hid (w'.heap[g]? = some (.cells cells t (0, 0))) → (∀ k w0, k ≤ g → Below k w0 w → Below k w0 w') → wpList P ops Q rest (a.put o.dst undef) w') : wpList P ops Q (o :: rest) a w :=
  wpList_store_row hgd ty x y ho g cells hx hy t old hg hi hold h1 (h _ (show _ = _ from setRow_heap _ _ _ _ _ _ hg) fun _ _ hk hb => below_setRow hb hk _)
theorem results_cell_tmp {P : Program} {fn : Func} {p q : Tmp} {ty : TypeId} (h : fn.results = #[.cell p ty, .tmp q]) (tmps : Array Value) (w : World) (g : Nat) (t : TypeId) (cs : Array Value) (fr : Nat × Nat) (d : TypeDesc)
    (hp : tmps.getD p undef = .pointer (some ⟨g, 0, none⟩)) (hg : w.heap[g]? = some (.cells cs t fr))
    (hu : P.underlying ty = some d) (hd : (match d with | .struct _ | .array _ _ => true | _ => false) = true) (hi : (P.info? ty).map (·.size) = some cs.size) :
    (results fn tmps).run P w = .ok (.tuple #[.agg cs, tmps.getD q undef]) w := by
  have hp' : tmps[p]?.getD undef = .pointer (some ⟨g, 0, none⟩) := by simpa using hp
  simp [results, h, hp', asAddr, run_loadVar_row w g t ty cs fr d hg hu hd hi]
end Go.Proofs.Ytfgammcefaomeaa
namespace Go.Proofs.Ytfgammcefaomeaa
open Go Go.RowKit
end Go.Proofs.Ytfgammcefaomeaa
namespace Go.Proofs.Ytfgammcefaomeaa
open Go Go.RowKit
/-- The bytes as a string. -/
def bstr (xs : List (BitVec 8)) : ByteArray := ⟨(xs.map UInt8.ofBitVec).toArray⟩
theorem push_bytes : ∀ (xs : List (BitVec 8)) (s : List UInt8), (xs.map bn).foldl (fun (r : ByteArray) n => r.push (UInt8.ofNat n.toNat)) ⟨s.toArray⟩ = ⟨(s ++ xs.map UInt8.ofBitVec).toArray⟩
  | [], s => by simp
  | x :: xs, s => by
    have e : (ByteArray.push ⟨s.toArray⟩ (UInt8.ofNat (bn x).toNat)) = ⟨(s ++ [UInt8.ofBitVec x]).toArray⟩ := by
      have : UInt8.ofNat (bn x).toNat = UInt8.ofBitVec x := by
        unfold bn
        apply UInt8.toNat_inj.1
        simp
      rw [this]
      simp [ByteArray.push]
    rw [List.map_cons, List.foldl_cons, e, push_bytes xs]
    simp
theorem run_str {P : Program} {src dst e : Nat} (hs : P.underlying src = some (.slice e)) (he : P.underlying e = some (.int .u8)) (hd : P.underlying dst = some .string) {w : World} {v : Value} {xs : List (BitVec 8)} (h : Rd w v (bv xs)) :
    (convert src dst v).run P w = .ok (.string (bstr xs)) w := by
  obtain ⟨ao, cap, rfl, h1, h2, h3, h4⟩ := h
  rw [run_convert_bytes_string w src dst e _ _ _ hs he hd]
  cases ao with
  | none =>
    have hc := h3 rfl
    have : xs = [] := List.eq_nil_of_length_eq_zero (by rw [bv_length] at h1; omega)
    subst this
    simp [Conv.bytesToString, bstr]
    rfl
  | some ad =>
    have hl := run_loadCells_list (P := P) w ad (bv xs) (h4 ad rfl)
    have hm : bv xs = (xs.map bn).map (Value.int .u8) := by simp [bv]
    rw [run_bytesToString w ad (bv xs).length cap (xs.map bn) (by rw [← hm]; exact hl)]
    have := push_bytes xs []
    simp only [List.nil_append] at this
    rw [show (ByteArray.empty) = ⟨([] : List UInt8).toArray⟩ from rfl, this]
    rfl
end Go.Proofs.Ytfgammcefaomeaa
namespace Go.Proofs.Ytfgammcefaomeaa
open Go Go.RowKit
/-- Few enough to be played. -/
def fewSum (ps : List (List (BitVec 8))) : Nat := (ps.map fun p => min p.length 70000).sum
def few (ps : List (List (BitVec 8))) : Prop := ps.length ≤ 200 ∧ fewSum ps ≤ 140000
instance (ps : List (List (BitVec 8))) : Decidable (few ps) := inferInstanceAs (Decidable (_ ∧ _))
end Go.Proofs.Ytfgammcefaomeaa
namespace Go.Proofs.Ytfgammcefaomeaa
def k0 : List (BitVec 32) := [
  0x428a2f98, 0x71374491, 0xb5c0fbcf, 0xe9b5dba5, 0x3956c25b, 0x59f111f1, 0x923f82a4, 0xab1c5ed5,
  0xd807aa98, 0x12835b01, 0x243185be, 0x550c7dc3, 0x72be5d74, 0x80deb1fe, 0x9bdc06a7, 0xc19bf174,
  0xe49b69c1, 0xefbe4786, 0x0fc19dc6, 0x240ca1cc, 0x2de92c6f, 0x4a7484aa, 0x5cb0a9dc, 0x76f988da,
  0x983e5152, 0xa831c66d, 0xb00327c8, 0xbf597fc7, 0xc6e00bf3, 0xd5a79147, 0x06ca6351, 0x14292967,
  0x27b70a85, 0x2e1b2138, 0x4d2c6dfc, 0x53380d13, 0x650a7354, 0x766a0abb, 0x81c2c92e, 0x92722c85,
  0xa2bfe8a1, 0xa81a664b, 0xc24b8b70, 0xc76c51a3, 0xd192e819, 0xd6990624, 0xf40e3585, 0x106aa070,
  0x19a4c116, 0x1e376c08, 0x2748774c, 0x34b0bcb5, 0x391c0cb3, 0x4ed8aa4a, 0x5b9cca4f, 0x682e6ff3,
  0x748f82ee, 0x78a5636f, 0x84c87814, 0x8cc70208, 0x90befffa, 0xa4506ceb, 0xbef9a3f7, 0xc67178f2]
def K0 (i : Nat) : BitVec 32 := k0.getD i 0
set_option maxRecDepth 100000
end Go.Proofs.Ytfgammcefaomeaa
namespace Go.Proofs.Ytfgammcefaomeaa
open Go Go.RowKit
theorem RdAll.nil (w : World) : RdAll w (.slice none 0 0) [] := ⟨[], Rd.nil w, rfl, fun _ _ h => by cases h⟩
theorem Rd.litF (w : World) (cs : List Value) (t : Nat) (fr : Nat × Nat) (hm : cs.length ≤ maxLen) : Rd (w.alloc (.cells cs.toArray t fr)) (.slice (some ⟨w.heap.size, 0, none⟩) cs.length cs.length) cs := by
  refine ⟨_, cs.length, rfl, Nat.le_refl _, by unfold maxLen at hm; omega, fun e => (by cases e), fun ad ha j u hu => ?_⟩
  cases ha
  rw [Addr.add_lit, cell_of_row _ _ _ _ _ _ (heap_alloc_new w _)]
  simpa using hu
theorem RdAll.one_lit (w : World) (l : List (BitVec 8)) (t t' : Nat) (fr : Nat × Nat) (hl : l.length ≤ maxLen := by decide) : RdAll ((w.alloc (.cells (bv l).toArray t fr)).alloc (.cells #[.slice (some ⟨w.heap.size, 0, none⟩) l.length l.length] t')) (.slice (some ⟨w.heap.size + 1, 0, none⟩) 1 1) [l] := by
  have h1 := Rd.lit (w.alloc (.cells (bv l).toArray t fr)) #[.slice (some ⟨w.heap.size, 0, none⟩) l.length l.length] t' 1 rfl (by decide)
  rw [World.size_alloc] at h1
  have h2 := (Rd.litF w (bv l) t fr (by rw [bv_length]; exact hl)).grow ((Below.refl _ _).alloc (Nat.le_refl _) (.cells #[.slice (some ⟨w.heap.size, 0, none⟩) l.length l.length] t'))
  refine ⟨_, h1, rfl, fun i v hv => ?_⟩
  cases i with
  | zero => cases hv; rw [bv_length] at h2; exact h2
  | succ i => simp at hv
end Go.Proofs.Ytfgammcefaomeaa
namespace Go.Proofs.Ytfgammcefaomeaa
open Go Go.RowKit
/-- A slice of one byte slice, as the walk writes it. -/
theorem RdAll.one (w : World) (v : Value) (l : List (BitVec 8)) (t : Nat) (h : Rd w v (bv l)) : RdAll (w.alloc (.cells #[v] t)) (.slice (some ⟨w.heap.size, 0, none⟩) 1 1) [l] := by
  refine ⟨[v], Rd.litF w [v] t (0, 0) (by show 1 ≤ maxLen; decide), rfl, fun i u hu => ?_⟩
  cases i with
  | zero => cases hu; exact h.grow ((Below.refl _ _).alloc (Nat.le_refl _) _)
  | succ i => simp at hu
end Go.Proofs.Ytfgammcefaomeaa
/- What an 'Upto' statement's bound gives (begun from the guide's UptoLemmas.lean). -/
namespace Go.Proofs.Ytfgammcefaomeaa.bulks

theorem one_le {H : Type} (d : DataW H) : 1 ≤ Rows.uptoBulk d := by
  cases d with
  | lit l => cases l <;> simp [Rows.uptoBulk]
  | nil => simp [Rows.uptoBulk]
  | ptr d => simp [Rows.uptoBulk]
  | slice elems spare => simp [Rows.uptoBulk]
  | agg parts => simp [Rows.uptoBulk]
  | iface t d => simp [Rows.uptoBulk]
  | map entries => simp [Rows.uptoBulk]
  | held h => simp [Rows.uptoBulk]

/-- a part's bulk is at most the whole's -/
theorem part_le {H : Type} {d : DataW H} {l : List (DataW H)} (h : d ∈ l) : Rows.uptoBulk d ≤ Rows.uptoBulkAll l := by
  induction l with
  | nil => cases h
  | cons x r ih =>
    simp only [Rows.uptoBulkAll]
    cases List.mem_cons.1 h with
    | inl e => subst e; omega
    | inr e => have := ih e; omega

theorem append {H : Type} (l r : List (DataW H)) : Rows.uptoBulkAll (l ++ r) = Rows.uptoBulkAll l + Rows.uptoBulkAll r := by
  induction l with
  | nil => simp [Rows.uptoBulkAll]
  | cons x l ih => simp only [List.cons_append, Rows.uptoBulkAll, ih]; omega

/-- so many values at the most -/
theorem length_le {H : Type} (l : List (DataW H)) : l.length ≤ Rows.uptoBulkAll l := by
  induction l with
  | nil => simp [Rows.uptoBulkAll]
  | cons x r ih => have := one_le x; simp only [Rows.uptoBulkAll, List.length_cons]; omega

end Go.Proofs.Ytfgammcefaomeaa.bulks
/- Arguments opened: a slice of bytes, a slice of such slices, a sum that is not done; and the table that is laid. -/
namespace Go.Proofs.Ytfgammcefaomeaa
open Go Go.RowKit Go.ChangeShapes Go.WideShapes
set_option maxRecDepth 100000
section
variable {H : Type} {enc : TypeId × Value → H} {w : World} {base : Nat} {spare : Nat → Bool} {held : Bool}
end
theorem laidOut_all : laidOutB Try.prog = true := by kernel_rfl
end Go.Proofs.Ytfgammcefaomeaa
/- Slices cut at a number: what the walk's slice instruction hands back, and what it reads as. Of whatever program. -/
namespace Go.Proofs.Ytfgammcefaomeaa
open Go Go.RowKit
theorem cut_to {P : Program} {t e : TypeId} (ht : P.underlying t = some (.slice e)) {ao : Option Addr} {len cap : Nat} {n : Nat} (hn : n ≤ cap) (w : World) {i : TypeInfo} (hi : P.info? e = some i) :
    (Instr.sliceAt t (.slice ao len cap) none (some (.int .i64 (n : Int))) none).run P w = .ok (.slice ao n cap) w := by
  have he : P.elem t = e := by simp [Program.elem, ht]
  rw [run_sliceAt_slice (w := w) t _ _ _ _ (by rw [he]; exact ht), run_slice_h w t ao len cap (by rw [he]; exact ht) .i64 (n : Int) (by omega) (by omega), he, run_sizeOf w hi]
  simp only [Result.andThen, sliced, Int.toNat_natCast, Nat.zero_mul, Nat.sub_zero]
  cases ao <;> simp [Addr.add]
theorem cut_from {P : Program} {t e : TypeId} (ht : P.underlying t = some (.slice e)) {ao : Option Addr} {len cap : Nat} {n : Nat} (hn : n ≤ len) (w : World) {i : TypeInfo} (hi : P.info? e = some i) (h1 : i.size = 1) :
    (Instr.sliceAt t (.slice ao len cap) (some (.int .i64 (n : Int))) none none).run P w = .ok (.slice (if cap = n then ao else ao.map (·.add n)) (len - n) (cap - n)) w := by
  have he : P.elem t = e := by simp [Program.elem, ht]
  have hc : P.cellsOf e = 1 := by simp [Program.cellsOf, hi, h1]
  rw [run_sliceAt_slice (w := w) t _ _ _ _ (by rw [he]; exact ht), run_slice_l w t ao len cap (by rw [he]; exact ht) .i64 (n : Int) (by omega) (by omega), he, run_sizeOf w hi]
  simp only [Result.andThen, sliced, Int.toNat_natCast, hc, Nat.mul_one]
theorem Rd.to {w : World} {ao : Option Addr} {cap len : Nat} {xs : List Value} (h : Rd w (.slice ao len cap) xs) {n : Nat} (hn : n ≤ xs.length) : Rd w (.slice ao n cap) (xs.take n) := by
  obtain ⟨ao', cap', hv, h1, h2, h3, h4⟩ := h
  cases hv
  refine ⟨ao, cap, by rw [List.length_take, Nat.min_eq_left hn], by rw [List.length_take]; omega, h2, h3, fun ad ha j u hu => ?_⟩
  refine h4 ad ha j u ?_
  rw [List.getElem?_take] at hu
  split at hu
  · exact hu
  · cases hu
theorem Rd.from {w : World} {ao : Option Addr} {cap len : Nat} {xs : List Value} (h : Rd w (.slice ao len cap) xs) {n : Nat} (hn : n ≤ xs.length) : Rd w (.slice (if cap = n then ao else ao.map (·.add n)) (len - n) (cap - n)) (xs.drop n) := by
  obtain ⟨ao', cap', hv, h1, h2, h3, h4⟩ := h
  cases hv
  refine ⟨_, cap - n, by rw [List.length_drop], by rw [List.length_drop]; omega, by omega, fun e => ?_, fun ad ha j u hu => ?_⟩
  · by_cases hc : cap = n
    · omega
    · rw [if_neg hc, Option.map_eq_none_iff] at e
      have := h3 e
      omega
  · rw [List.getElem?_drop] at hu
    have hj : n + j < xs.length := (List.getElem?_eq_some_iff.1 hu).1
    rw [if_neg (by omega)] at ha
    obtain ⟨a0, ha0, rfl⟩ := Option.map_eq_some_iff.1 ha
    have := h4 a0 ha0 (n + j) u hu
    rw [show (a0.add n).add j = a0.add (n + j) by unfold Addr.add; by_cases h0 : n = 0 <;> by_cases h1 : j = 0 <;> simp [h0, h1, Nat.add_assoc]]
    exact this
theorem Rd.sl {w : World} {ao : Option Addr} {cap len : Nat} {xs : List Value} (h : Rd w (.slice ao len cap) xs) : len = xs.length ∧ xs.length ≤ cap ∧ cap ≤ 9223372036854775807 := by
  obtain ⟨ao', cap', hv, h1, h2, h3, h4⟩ := h
  cases hv
  exact ⟨rfl, h1, h2⟩
theorem cut_from_ex {P : Program} {t e : TypeId} (ht : P.underlying t = some (.slice e)) {i : TypeInfo} (hi : P.info? e = some i) (h1 : i.size = 1) {w : World} {ao : Option Addr} {cap len : Nat} {xs : List Value} (h : Rd w (.slice ao len cap) xs) {n : Nat} (hn : n ≤ xs.length) :
    ∃ ax, (∀ wx, (Instr.slice t (.slice ao len cap) (some (.int .i64 (n : Int))) none none).run P wx = .ok (.slice ax (len - n) (cap - n)) wx) ∧ Rd w (.slice ax (len - n) (cap - n)) (xs.drop n) :=
  ⟨_, fun wx => by rw [← run_sliceAt_slice wx t _ _ _ _ (by rw [show P.elem t = e by simp [Program.elem, ht]]; exact ht)]; exact cut_from ht (by have := h.sl; omega) wx hi h1, h.from hn⟩
end Go.Proofs.Ytfgammcefaomeaa
/- A region that draws its order, walked once in the order of the text, where some operations make a block of their own (an allocation, a slice written out): these may stand anywhere among the calls. Of whatever program. -/
namespace Go.Proofs.Ytfgammcefaomeaa
open Go Go.RowKit
section
variable {P : Program} {ops : Array Oper} {w0 : World}
/-- A later world: what was there stands. -/
def Aft (w w' : World) : Prop := Below w.heap.size w w'
theorem Aft.refl (w : World) : Aft w w := Below.refl _ _
theorem Aft.trans {a b c : World} (h : Aft a b) (k : Aft b c) : Aft a c := Below.trans h (Below.mono k (Below.size h))
theorem Aft.alloc (w : World) (o : Obj) : Aft w (w.alloc o) := (Below.refl _ _).alloc (Nat.le_refl _) o
theorem Aft.get {w w' : World} (h : Aft w w') {g : Nat} {o : Obj} (hg : w.heap[g]? = some o) : w'.heap[g]? = some o := (Below.block h g (heap_lt hg)).trans hg
/-- It makes one block, and hands back a value that hangs on the block's number alone. -/
def fAt (P : Program) (o : Oper) (a : Act) (w : World) (obj : Obj) (F : Nat → Value) : Prop := (execOp a.eval o).run P w = .ok (.value (F w.heap.size)) (w.alloc obj)
def pAt (P : Program) (o : Oper) (a : Act) (w : World) (F : Nat → Value) : Option Obj → Prop
  | none => ∀ g, qAt P o a w (F g)
  | some obj => fAt P o a w obj F
def holds (w0 : World) (g : Nat) (w : World) : Option Obj → Prop
  | none => True
  | some obj => w0.heap.size ≤ g ∧ w.heap[g]? = some obj
theorem holds.aft {g : Nat} {w w' : World} {ob : Option Obj} (h : holds w0 g w ob) (hs : Aft w w') : holds w0 g w' ob := by
  cases ob with
  | none => trivial
  | some obj => exact ⟨h.1, hs.get h.2⟩
theorem pAt_put {o : Oper} (hs : ∀ cs b, o.op ≠ .select cs b) {a : Act} {w : World} {dst : Option Tmp} {u : Value} {F : Nat → Value} {ob : Option Obj} (h1 : ∀ d, dst = some d → d ∉ o.looksAt ops) : pAt P o (a.put dst u) w F ob ↔ pAt P o a w F ob := by
  cases ob with
  | none => exact forall_congr' fun g => qAt_put (ops := ops) hs h1
  | some obj => unfold pAt fAt; rw [execOp_put (ops := ops) o hs a dst u h1]
theorem pAt_defers {o : Oper} {a : Act} {w : World} {F : Nat → Value} {ob : Option Obj} (b : List Deferred) : pAt P o { a with defers := b } w F ob ↔ pAt P o a w F ob := by
  cases ob with
  | none => exact forall_congr' fun g => qAt_defers b
  | some obj =>
    have e : (({ a with defers := b } : Act).eval) = a.eval := by funext x; cases x <;> rfl
    unfold pAt fAt; rw [e]
theorem grow_to (w0 : World) : ∀ n : Nat, ∃ w1, Aft w0 w1 ∧ w1.heap.size = w0.heap.size + n
  | 0 => ⟨w0, Aft.refl _, rfl⟩
  | n + 1 => by
    obtain ⟨w1, h1, h2⟩ := grow_to w0 n
    exact ⟨w1.alloc (.cells #[] 0), h1.trans (Aft.alloc _ _), by rw [World.size_alloc]; omega⟩
theorem alloc_ne (w : World) (o : Obj) : w.alloc o ≠ w := fun h => by
  have := congrArg (fun w => w.heap.size) h
  simp only [World.size_alloc] at this
  omega
theorem alloc_inj {w : World} {o o' : Obj} (h : w.alloc o = w.alloc o') : o = o' := by
  have := heap_alloc_new w o
  rw [h, heap_alloc_new w o'] at this
  exact (Option.some.inj this).symm
/-- What an operation makes, and what it hands back, is one thing. -/
theorem pAt_unique {o : Oper} {a : Act} {F F' : Nat → Value} {ob ob' : Option Obj} (h : ∀ w1, Aft w0 w1 → pAt P o a w1 F ob) (k : ∀ w1, Aft w0 w1 → pAt P o a w1 F' ob') : ob = ob' ∧ ∀ g w, holds w0 g w ob → F g = F' g := by
  cases ob with
  | none =>
    cases ob' with
    | none => exact ⟨rfl, fun g _ _ => qAt_unique (h w0 (Aft.refl _) g) (k w0 (Aft.refl _) g)⟩
    | some obj' =>
      exfalso
      have h1 := h w0 (Aft.refl _) 0
      have k1 := k w0 (Aft.refl _)
      unfold pAt fAt at k1
      rcases h1 with h1 | ⟨h1, _⟩
      · rw [k1] at h1; simp only [Result.ok.injEq] at h1; exact alloc_ne _ _ h1.2
      · rw [k1] at h1; simp at h1
  | some obj =>
    cases ob' with
    | none =>
      exfalso
      have h1 := k w0 (Aft.refl _) 0
      have k1 := h w0 (Aft.refl _)
      unfold pAt fAt at k1
      rcases h1 with h1 | ⟨h1, _⟩
      · rw [k1] at h1; simp only [Result.ok.injEq] at h1; exact alloc_ne _ _ h1.2
      · rw [k1] at h1; simp at h1
    | some obj' =>
      have each : ∀ w1, Aft w0 w1 → F w1.heap.size = F' w1.heap.size ∧ obj = obj' := by
        intro w1 hw
        have h1 := h w1 hw
        have k1 := k w1 hw
        unfold pAt fAt at h1 k1
        rw [k1] at h1
        simp only [Result.ok.injEq, Next.value.injEq] at h1
        exact ⟨h1.1.symm, (alloc_inj h1.2).symm⟩
      refine ⟨congrArg some (each w0 (Aft.refl _)).2, fun g w hh => ?_⟩
      obtain ⟨w1, hw, hz⟩ := grow_to w0 (g - w0.heap.size)
      have := (each w1 hw).1
      rw [hz, Nat.add_sub_cancel' hh.1] at this
      exact this
/-- What an operation leaves: of kind 3 it may write what the region has made. -/
def Leaves (w0 : World) (kd : Nat) (w w' : World) : Prop := if kd = 3 then Aft w0 w' else Aft w w'
theorem Leaves.base {w0 w w' : World} {kd : Nat} (h : Leaves w0 kd w w') (hC : Aft w0 w) : Aft w0 w' := by
  unfold Leaves at h
  split at h
  · exact h
  · exact hC.trans h
/-- One operation of the prefix: of kind 2 or 3 it turns the world as it will; else it reads, or makes a block of its own. -/
def stepF (P : Program) (ops : Array Oper) (w0 : World) (kd : Nat) (o : Oper) (K : Act → World → Prop) (a : Act) (w : World) : Prop :=
  if Region.wanted o (yielded ops a.tmps) = true then
    (if 2 ≤ kd then ∀ w1, Aft w w1 → o.wp P a w1 (fun a' w' => Leaves w0 kd w1 w' ∧ K a' w') noOut
     else ∃ ob F, (kd = 0 → ob = none) ∧ (∀ w1, Aft w0 w1 → pAt P o a w1 F ob) ∧ ∀ w1 g, Aft w w1 → holds w0 g w1 ob → K (a.put o.dst (F g)) w1)
  else K (a.put o.dst undef) w
/-- It holds in later worlds, too. -/
def Up (K : Act → World → Prop) : Prop := ∀ a w w1, Aft w w1 → K a w → K a w1
theorem stepF_up {kd : Nat} {o : Oper} {K : Act → World → Prop} (hK : Up K) : Up (stepF P ops w0 kd o K) := by
  intro a w w1 hw h
  unfold stepF at *
  split
  · rename_i hg
    rw [if_pos hg] at h
    split
    · rename_i he
      rw [if_pos he] at h
      exact fun w2 h2 => h w2 (hw.trans h2)
    · rename_i he
      rw [if_neg he] at h
      obtain ⟨ob, F, hz, h1, h2⟩ := h
      exact ⟨ob, F, hz, h1, fun w2 g hw2 hh => h2 w2 g (hw.trans hw2) hh⟩
  · rename_i hg
    rw [if_neg hg] at h
    exact hK _ _ _ hw h
theorem stepF_mono {kd : Nat} {o : Oper} {K K' : Act → World → Prop} (h : ∀ a w, Aft w0 w → K a w → K' a w) {a : Act} {w : World} (hC : Aft w0 w) (hs : stepF P ops w0 kd o K a w) : stepF P ops w0 kd o K' a w := by
  unfold stepF at *
  split
  · rename_i hw
    rw [if_pos hw] at hs
    split
    · rename_i he
      rw [if_pos he] at hs
      exact fun w1 h1 => Oper.wp_mono (fun a w ⟨c, k⟩ => ⟨c, h a w (c.base (hC.trans h1)) k⟩) (hs w1 h1)
    · rename_i he
      rw [if_neg he] at hs
      obtain ⟨ob, F, hz, h1, h2⟩ := hs
      exact ⟨ob, F, hz, h1, fun w1 g hw1 hh => h _ _ (hC.trans hw1) (h2 w1 g hw1 hh)⟩
  · rename_i hw
    rw [if_neg hw] at hs
    exact h _ _ hC hs
/-- A block made now. -/
theorem holds_now {w : World} (hC : Aft w0 w) (ob : Option Obj) : ∃ w1, Aft w w1 ∧ ∃ g, holds w0 g w1 ob := by
  cases ob with
  | none => exact ⟨w, Aft.refl _, 0, trivial⟩
  | some obj => exact ⟨w.alloc obj, Aft.alloc _ _, w.heap.size, Below.size hC, heap_alloc_new _ _⟩
theorem stepF_swap {ki kj : Nat} {oi oj : Oper} (hsi : ∀ cs b, oi.op ≠ .select cs b) (hsj : ∀ cs b, oj.op ≠ .select cs b) (hap : oi.apart ops oj = true) (hE : (2 ≤ kj → ki = 0) ∧ (ki = 3 → kj = 0))
    {K : Act → World → Prop} {a : Act} {w : World} (hC : Aft w0 w) (hK : Up K) (h : stepF P ops w0 ki oi (stepF P ops w0 kj oj K) a w) : stepF P ops w0 kj oj (stepF P ops w0 ki oi K) a w := by
  obtain ⟨h1, h2, h3⟩ := Oper.apart_spec hap
  have h2' : ∀ d, oj.dst = some d → oi.dst ≠ some d := fun d hd he => h2 d he hd
  have wj : ∀ (a : Act) v, Region.wanted oj (yielded ops (a.put oi.dst v).tmps) = Region.wanted oj (yielded ops a.tmps) := fun a v => wanted_put oj a oi.dst v h1
  have wi : ∀ (a : Act) v, Region.wanted oi (yielded ops (a.put oj.dst v).tmps) = Region.wanted oi (yielded ops a.tmps) := fun a v => wanted_put oi a oj.dst v h3
  have pc : ∀ (a : Act) v u, (a.put oi.dst v).put oj.dst u = (a.put oj.dst u).put oi.dst v := fun a v u => Act.put_comm a v u h2
  by_cases hwi : Region.wanted oi (yielded ops a.tmps) = true
  · by_cases hei : 2 ≤ ki
    · have hej : ¬ 2 ≤ kj := by omega
      unfold stepF at h
      rw [if_pos hwi, if_pos hei] at h
      by_cases hwj : Region.wanted oj (yielded ops a.tmps) = true
      · have key : ∀ b v w', stepF P ops w0 kj oj K (({ a with defers := b } : Act).put oi.dst v) w' → ∃ ob F, (kj = 0 → ob = none) ∧ (∀ w1, Aft w0 w1 → pAt P oj a w1 F ob) ∧ ∀ w1 g, Aft w' w1 → holds w0 g w1 ob → K ((({ a with defers := b } : Act).put oi.dst v).put oj.dst (F g)) w1 := by
          intro b v w' hs
          unfold stepF at hs
          rw [if_pos (by rw [wj]; exact hwj), if_neg hej] at hs
          obtain ⟨ob, F, hz, hu, hk⟩ := hs
          exact ⟨ob, F, hz, fun w1 hw1 => (pAt_defers b).1 ((pAt_put (ops := ops) hsj h1).1 (hu w1 hw1)), hk⟩
        obtain ⟨b, v, w', hs⟩ := wp_some (h w (Aft.refl _))
        obtain ⟨ob, F, hz, hu, _⟩ := key b v w' hs.2
        unfold stepF
        rw [if_pos hwj, if_neg hej]
        refine ⟨ob, F, hz, hu, fun w1 g hw1 hh => ?_⟩
        rw [if_pos (by rw [wi]; exact hwi), if_pos hei]
        intro w2 hw2
        refine (wp_put (ops := ops) hsi h3 h2').2 (wp_mono_put (fun b v w' hs => ?_) (h w2 (hw1.trans hw2)))
        obtain ⟨hc, hs⟩ := hs
        obtain ⟨ob', F', _, hu', hk⟩ := key b v w' hs
        obtain ⟨rfl, hF⟩ := pAt_unique hu hu'
        refine ⟨hc, ?_⟩
        have hh' : holds w0 g w' ob := by
          by_cases h3 : ki = 3
          · rw [hz (hE.2 h3)]; trivial
          · unfold Leaves at hc
            rw [if_neg h3] at hc
            exact hh.aft (hw2.trans hc)
        rw [hF g _ hh']
        exact hk w' g (Aft.refl _) hh'
      · unfold stepF
        rw [if_neg hwj, if_pos (by rw [wi]; exact hwi), if_pos hei]
        intro w1 hw1
        refine (wp_put (ops := ops) hsi h3 h2').2 (wp_mono_put (fun b v w' hs => ?_) (h w1 hw1))
        obtain ⟨hc, hs⟩ := hs
        rw [if_neg (by rw [wj]; exact hwj)] at hs
        exact ⟨hc, hs⟩
    · unfold stepF at h
      rw [if_pos hwi, if_neg hei] at h
      obtain ⟨ob, F, hz, hv, h⟩ := h
      by_cases hwj : Region.wanted oj (yielded ops a.tmps) = true
      · by_cases hej : 2 ≤ kj
        · have hki : ki = 0 := hE.1 hej
          obtain rfl := hz hki
          unfold stepF
          rw [if_pos hwj, if_pos hej]
          intro w1 hw1
          have h4 := h w1 0 hw1 trivial
          rw [if_pos (by rw [wj]; exact hwj), if_pos hej] at h4
          refine wp_mono_put (fun b u w' hs => ?_) ((wp_put (ops := ops) hsj h1 h2).1 (h4 w1 (Aft.refl _)))
          obtain ⟨hc, hk⟩ := hs
          refine ⟨hc, ?_⟩
          rw [if_pos (by rw [wi]; exact hwi), if_neg hei]
          refine ⟨none, F, fun _ => rfl, fun w2 hw2 => (pAt_put (ops := ops) hsi h3).2 ((pAt_defers b).2 (hv w2 hw2)), fun w2 g hw2 _ => ?_⟩
          rw [qAt_unique (hv w hC g) (hv w hC 0)]
          exact hK _ _ _ hw2 hk
        · obtain ⟨wn, hwn, gn, hgn⟩ := holds_now hC ob
          have h4 := h wn gn hwn hgn
          rw [if_pos (by rw [wj]; exact hwj), if_neg hej] at h4
          obtain ⟨oj', Fj, hzj, hj1, _⟩ := h4
          have hj2 : ∀ w1, Aft w0 w1 → pAt P oj a w1 Fj oj' := fun w1 hw1 => (pAt_put (ops := ops) hsj h1).1 (hj1 w1 hw1)
          unfold stepF
          rw [if_pos hwj, if_neg hej]
          refine ⟨oj', Fj, hzj, hj2, fun w1 g hw1 hh => ?_⟩
          rw [if_pos (by rw [wi]; exact hwi), if_neg hei]
          refine ⟨ob, F, hz, fun w2 hw2 => (pAt_put (ops := ops) hsi h3).2 (hv w2 hw2), fun w2 g2 hw2 hh2 => ?_⟩
          have h5 := h w2 g2 (hw1.trans hw2) hh2
          rw [if_pos (by rw [wj]; exact hwj), if_neg hej] at h5
          obtain ⟨oj'', Fj', _, hj3, hj4⟩ := h5
          obtain ⟨rfl, hF⟩ := pAt_unique hj2 fun w1 hw1 => (pAt_put (ops := ops) hsj h1).1 (hj3 w1 hw1)
          have hh' := hh.aft hw2
          rw [hF g _ hh', ← pc]
          exact hj4 w2 g (Aft.refl _) hh'
      · unfold stepF
        rw [if_neg hwj, if_pos (by rw [wi]; exact hwi), if_neg hei]
        refine ⟨ob, F, hz, fun w2 hw2 => (pAt_put (ops := ops) hsi h3).2 (hv w2 hw2), fun w2 g2 hw2 hh2 => ?_⟩
        have h5 := h w2 g2 hw2 hh2
        rw [if_neg (by rw [wj]; exact hwj)] at h5
        rw [← pc]
        exact h5
  · unfold stepF at h
    rw [if_neg hwi] at h
    unfold stepF
    by_cases hwj : Region.wanted oj (yielded ops a.tmps) = true
    · rw [if_pos (by rw [wj]; exact hwj)] at h
      rw [if_pos hwj]
      by_cases hej : 2 ≤ kj
      · rw [if_pos hej] at h ⊢
        intro w1 hw1
        refine wp_mono_put (fun b u w' hs => ?_) ((wp_put (ops := ops) hsj h1 h2).1 (h w1 hw1))
        obtain ⟨hc, hk⟩ := hs
        refine ⟨hc, ?_⟩
        rw [if_neg (by rw [wi]; exact hwi)]
        exact hk
      · rw [if_neg hej] at h ⊢
        obtain ⟨ob, F, hz, hu, hk⟩ := h
        refine ⟨ob, F, hz, fun w2 hw2 => (pAt_put (ops := ops) hsj h1).1 (hu w2 hw2), fun w2 g2 hw2 hh2 => ?_⟩
        rw [if_neg (by rw [wi]; exact hwi), ← pc]
        exact hk w2 g2 hw2 hh2
    · rw [if_neg (by rw [wj]; exact hwj)] at h
      rw [if_neg hwj, if_neg (by rw [wi]; exact hwi), ← pc]
      exact h
/-- The prefix, in the order of the list; T behind it. -/
def wpFs (P : Program) (ops : Array Oper) (w0 : World) (Kd : Nat → Nat) (T : Act → World → Prop) : List Nat → Act → World → Prop
  | [], a, w => T a w
  | i :: l, a, w => match ops[i]? with
    | some o => stepF P ops w0 (Kd i) o (wpFs P ops w0 Kd T l) a w
    | none => False
theorem wpFs_up {Kd : Nat → Nat} {T : Act → World → Prop} (hT : Up T) : ∀ l : List Nat, Up (wpFs P ops w0 Kd T l)
  | [] => hT
  | i :: l => by
    intro a w w1 hw h
    simp only [wpFs] at h ⊢
    cases hi : ops[i]? with
    | none => rw [hi] at h; exact h.elim
    | some o =>
      rw [hi] at h
      exact stepF_up (wpFs_up hT l) a w w1 hw h
theorem wpFs_front {Kd : Nat → Nat} {T : Act → World → Prop} (hT : Up T) (hs : ∀ (j : Nat) (o : Oper) cs b, ops[j]? = some o → o.op ≠ .select cs b) {j : Nat} {oj : Oper} (hj : ops[j]? = some oj) : ∀ (p q : List Nat) (a : Act) (w : World),
    (∀ i ∈ p, ∀ oi, ops[i]? = some oi → oi.apart ops oj = true ∧ ((2 ≤ Kd j → Kd i = 0) ∧ (Kd i = 3 → Kd j = 0))) → Aft w0 w → wpFs P ops w0 Kd T (p ++ j :: q) a w → stepF P ops w0 (Kd j) oj (wpFs P ops w0 Kd T (p ++ q)) a w
  | [], q, a, w, _, _, h => by simpa [wpFs, hj] using h
  | i :: p, q, a, w, hp, hC, h => by
    simp only [List.cons_append, wpFs] at h
    cases hi : ops[i]? with
    | none => rw [hi] at h; exact h.elim
    | some oi =>
      rw [hi] at h
      simp only at h
      obtain ⟨hap, hE⟩ := hp i (by simp) oi hi
      have ih := stepF_mono (fun a w hc hk => wpFs_front hT hs hj p q a w (fun x hx => hp x (by simp [hx])) hc hk) hC h
      have := stepF_swap (hs i oi · · hi) (hs j oj · · hj) hap hE hC (wpFs_up hT (p ++ q)) ih
      refine stepF_mono (fun a w _ hk => ?_) hC this
      simp only [List.cons_append, wpFs, hi]
      exact hk
theorem stepF_wpOp {i : Nat} {o : Oper} (hi : ops[i]? = some o) {kd : Nat} {K K' : Act → World → Prop} {Q : Exit → Act → World → Prop} (h : ∀ a w, Aft w0 w → K a w → K' a w) {a : Act} {w : World} (hC : Aft w0 w) (hs : stepF P ops w0 kd o K a w) : wpOp P ops Q i K' a w := by
  unfold stepF at hs
  unfold wpOp
  simp only [hi]
  split
  · rename_i hw
    rw [if_pos hw] at hs
    by_cases he : 2 ≤ kd
    · rw [if_pos he] at hs
      exact .inl (wp_noOut (Oper.wp_mono (fun a w ⟨c, k⟩ => h a w (c.base hC) k) (hs w (Aft.refl _))))
    · rw [if_neg he] at hs
      obtain ⟨ob, F, _, hv, hk⟩ := hs
      cases ob with
      | none => exact .inl (qAt_wp (hv w hC 0) (h _ _ hC (hk w 0 (Aft.refl _) trivial)))
      | some obj =>
        refine .inl ?_
        have hf := hv w hC
        unfold pAt fAt at hf
        unfold Oper.wp
        rw [hf]
        exact h _ _ (hC.trans (Aft.alloc _ _)) (hk _ _ (Aft.alloc _ _) ⟨Below.size hC, heap_alloc_new _ _⟩)
  · rename_i hw
    rw [if_neg hw] at hs
    exact h _ _ hC hs
def pairsF (ops : Array Oper) (Kd : Nat → Nat) (M : Array Nat) : Bool := (List.range ops.size).all fun k => (List.range k).all fun j => (M.getD k 0).testBit j || ((!Nat.ble 2 (Kd k) || Kd j == 0) && (Kd j != 3 || Kd k == 0))
def lexOKF (ops : Array Oper) (Kd : Nat → Nat) (N : Nat) (M : Array Nat) : Bool := lexOK ops (fun i => Nat.ble 2 (Kd i)) N M && pairsF ops Kd M
theorem pairF_of {Kd : Nat → Nat} {M : Array Nat} (h : pairsF ops Kd M = true) {j k : Nat} (hk : k < ops.size) (hjk : j < k) : (M.getD k 0).testBit j = true ∨ ((2 ≤ Kd k → Kd j = 0) ∧ (Kd j = 3 → Kd k = 0)) := by
  have h1 := List.all_eq_true.1 (List.all_eq_true.1 h k (List.mem_range.2 hk)) j (List.mem_range.2 hjk)
  simp only [Bool.or_eq_true, Bool.and_eq_true, Bool.not_eq_true', beq_iff_eq, bne_iff_ne, ne_eq] at h1
  rcases h1 with h1 | ⟨h1, h2⟩
  · exact .inl h1
  · refine .inr ⟨fun h3 => ?_, fun h3 => ?_⟩
    · rcases h1 with h1 | h1
      · have h4 : Nat.ble 2 (Kd k) = true := Nat.ble_eq ▸ h3
        rw [h1] at h4; cases h4
      · exact h1
    · rcases h2 with h2 | h2
      · exact absurd h3 h2
      · exact h2
/-- The prefix, in whatever order. -/
theorem lexF_prefix {Kd : Nat → Nat} {M : Array Nat} {N : Nat} {Q : Exit → Act → World → Prop} (hs : Region.noSelect ops = true) (hM : maskOk ops M = true) (hp : pairsOk ops (fun i => Nat.ble 2 (Kd i)) N M = true) (hF : pairsF ops Kd M = true) (hN : N ≤ ops.size) : ∀ (fuel : Nat) (listed : Array Bool) (a : Act) (w : World), listed.size = ops.size → Closed ops listed →
    (∀ i, N ≤ i → i < ops.size → listed.getD i false = false) → Aft w0 w → (waiting listed N).length + (ops.size - N) ≤ fuel →
    wpFs P ops w0 Kd (fun a w => ∀ w1, Aft w w1 → wpOps P ops Q (List.range' N (ops.size - N)) a w1) (waiting listed N) a w → wpAny P .any ops Q fuel listed a w := by
  have hT : Up (fun a w => ∀ w1, Aft w w1 → wpOps P ops Q (List.range' N (ops.size - N)) a w1) := fun a w w1 hw h w2 h2 => h w2 (hw.trans h2)
  intro fuel
  induction fuel with
  | zero =>
    intro listed a w hz hc hhi hC hf h
    have h0 : waiting listed N = [] := List.eq_nil_of_length_eq_zero (by omega)
    rw [h0] at h
    refine lex_tail (N := N) hM hp 0 N listed a w hz hc (fun i hi hi' => ?_) hhi (Nat.le_refl _) (by omega) (h w (Aft.refl _))
    cases hl : listed.getD i false with
    | true => rfl
    | false => have := (mem_waiting (listed := listed) (N := N) (by omega)).2 ⟨hi, hl⟩; rw [h0] at this; cases this
  | succ fuel ih =>
    intro listed a w hz hc hhi hC hf h
    cases hw : waiting listed N with
    | nil =>
      rw [hw] at h
      refine lex_tail (N := N) hM hp (fuel + 1) N listed a w hz hc (fun i hi hi' => ?_) hhi (Nat.le_refl _) (by rw [hw] at hf; simpa using hf) (h w (Aft.refl _))
      cases hl : listed.getD i false with
      | true => rfl
      | false => have := (mem_waiting (listed := listed) (N := N) (by omega)).2 ⟨hi, hl⟩; rw [hw] at this; cases this
    | cons k0 rest =>
      have hk0 := (mem_waiting (listed := listed) (N := N) (i := k0) (by omega)).1 (by rw [hw]; simp)
      have hsort := waiting_sorted listed N
      have hlow : ∀ i, i < k0 → listed.getD i false = true := by
        intro i hi
        cases hl : listed.getD i false with
        | true => rfl
        | false =>
          have hm := (mem_waiting (listed := listed) (N := N) (i := i) (by omega)).2 ⟨by omega, hl⟩
          rw [hw] at hm hsort
          rw [List.pairwise_cons] at hsort
          rcases List.mem_cons.1 hm with rfl | hm
          · omega
          · have := hsort.1 i hm; omega
      have hk0s : k0 < ops.size := by omega
      have ho0 : ops[k0]? = some ops[k0] := Array.getElem?_eq_getElem hk0s
      have hr : k0 ∈ Region.ready .any ops listed := mem_wait hz ho0 hk0.2 fun e he hb => hlow _ (edges_back hM ho0 e he hb)
      refine ⟨fun h0 => (by rw [h0] at hr; cases hr), fun i hi => ?_⟩
      obtain ⟨oi, hio, h0, he⟩ := ready_spec hz hi
      have hi' : i < ops.size := (Array.getElem?_eq_some_iff.1 hio).1
      have hbits : ∀ j, j < ops.size → (M.getD i 0).testBit j = true → listed.getD j false = true := mask_listed hM hc i oi hio he
      have hiN : i < N := by
        rcases Nat.lt_or_ge i N with h' | h'
        · exact h'
        · exfalso
          rcases pair_of hp hi' (show k0 < i by omega) with hb | ⟨hb, _⟩
          · have := hbits k0 (by omega) hb
            rw [hk0.2] at this
            cases this
          · omega
      have hmem := (mem_waiting (listed := listed) (N := N) (i := i) (by omega)).2 ⟨hiN, h0⟩
      obtain ⟨p, q, hpq⟩ := List.append_of_mem hmem
      have hfront := wpFs_front (Kd := Kd) hT (Region.noSelect_spec hs) hio p q a w (fun j hj oj hjo => by
        have hji : j < i := by
          have hs' := hsort
          rw [hpq, List.pairwise_append] at hs'
          exact hs'.2.2 j hj i (by simp)
        have hj0 := ((mem_waiting (listed := listed) (N := N) (i := j) (by omega)).1 (by rw [hpq]; simp [hj])).2
        rcases pair_of hp hi' hji with hb | ⟨_, hb⟩
        · have := hbits j (by omega) hb
          rw [hj0] at this
          cases this
        · refine ⟨(hb oj oi hjo hio).1, ?_⟩
          rcases pairF_of hF hi' hji with hb | hb
          · have := hbits j (by omega) hb
            rw [hj0] at this
            cases this
          · exact hb) hC (by rw [← hpq]; exact h)
      have hset := waiting_set (listed := listed) (N := N) (by omega) hpq
      refine stepF_wpOp hio (fun a w hc' hk => ih _ a w (by simp [hz]) (closed_set hc hio he) (fun j hj hjs => ?_) hc' ?_ ?_) hC hfront
      · rw [getD_set_ne false (by omega)]; exact hhi j hj hjs
      · rw [hset]; rw [hpq] at hf; simp at hf ⊢; omega
      · rw [hset]; exact hk
/-- The walk itself. -/
def wpFx (P : Program) (ops : Array Oper) (w0 : World) (Kd : Nat → Nat) (Q : Exit → Act → World → Prop) : Nat → Nat → List Oper → Act → World → Prop
  | 0, _, l, a, w => ∀ w1, Aft w w1 → wpList P ops Q l a w1
  | n + 1, k, o :: l, a, w => stepF P ops w0 (Kd k) o (wpFx P ops w0 Kd Q n (k + 1) l) a w
  | _ + 1, _, [], _, _ => False
theorem wpFx_up {Kd : Nat → Nat} {Q : Exit → Act → World → Prop} : ∀ (n k : Nat) (l : List Oper), Up (wpFx P ops w0 Kd Q n k l)
  | 0, _, l => fun a w w1 hw h w2 h2 => h w2 (hw.trans h2)
  | n + 1, k, o :: l => fun a w w1 hw h => by simp only [wpFx] at h ⊢; exact stepF_up (wpFx_up n (k + 1) l) a w w1 hw h
  | _ + 1, _, [] => fun _ _ _ _ h => by simp only [wpFx] at h
theorem wpFs_of_wpFx {Kd : Nat → Nat} {Q : Exit → Act → World → Prop} : ∀ (n k : Nat) (l : List Oper) (a : Act) (w : World), Aft w0 w → (∀ j, l[j]? = ops[k + j]?) → n ≤ l.length → k + l.length = ops.size → wpFx P ops w0 Kd Q n k l a w →
    wpFs P ops w0 Kd (fun a w => ∀ w1, Aft w w1 → wpOps P ops Q (List.range' (k + n) (ops.size - (k + n))) a w1) (List.range' k n) a w
  | 0, k, l, a, w, hC, hl, _, hz, h => by
    simp only [List.range'_zero, wpFs, Nat.add_zero]
    simp only [wpFx] at h
    intro w1 hw1
    rw [show ops.size - k = l.length by omega, wpOps_eq_wpList l k hl]
    exact h w1 hw1
  | n + 1, k, [], a, w, _, _, hn, _, _ => by simp at hn
  | n + 1, k, o :: l, a, w, hC, hl, hn, hz, h => by
    have h0 : ops[k]? = some o := by simpa using (hl 0).symm
    simp only [wpFx] at h
    rw [List.range'_succ]
    simp only [wpFs, h0]
    have ih := fun a w hC => wpFs_of_wpFx (Kd := Kd) (Q := Q) n (k + 1) l a w hC (fun j => by have := hl (j + 1); simpa [Nat.add_assoc, Nat.add_comm 1 j] using this) (by simpa using hn) (by simp at hz; omega)
    rw [show k + (n + 1) = k + 1 + n by omega]
    exact stepF_mono ih hC h
/-- **A REGION THAT DRAWS ITS ORDER IS WALKED ONCE.** Kd: 0 reads, 1 makes a block, 2 turns the world. -/
theorem wp_region_lexF {id : Nat} {Q : Exit → Act → World → Prop} {a : Act} {w : World} {l : List Oper} (Kd : Nat → Nat) (n : Nat) (hm : P.follows .mixedOrders = true)
    (hB : lexOKF l.toArray Kd n (Region.before l.toArray) = true) (h : ∀ w0, w0 = w.drew → wpFx P l.toArray w0 Kd Q n 0 l a w0) : (Code.region id l.toArray true).wp P Q a w := by
  have h := h w.drew rfl
  simp only [lexOKF, lexOK, Bool.and_eq_true, decide_eq_true_eq] at hB
  obtain ⟨⟨⟨⟨hs, hM⟩, hp⟩, hN⟩, hF⟩ := hB
  have hN' : n ≤ l.length := by simpa using hN
  refine wp_region_any hm ?_
  have hw : waiting (Array.replicate l.toArray.size false) n = List.range n := by
    unfold waiting
    rw [List.filter_eq_self]
    intro i hi
    rw [List.mem_range] at hi
    have : i < l.length := by omega
    simp [this]
  have h1 := wpFs_of_wpFx (Kd := Kd) (ops := l.toArray) n 0 l a _ (Aft.refl _) (by simp) hN' (by simp) h
  rw [Nat.zero_add, ← List.range_eq_range'] at h1
  refine lexF_prefix (Kd := Kd) (w0 := w.drew) hs hM hp hF hN _ _ a _ (by simp) ?_ ?_ (Aft.refl _) ?_ ?_
  · intro k o _ hl
    exfalso
    have hk : ¬ (Array.replicate l.toArray.size false).getD k false = true := by
      by_cases hk : k < l.length <;> simp [hk]
    exact hk hl
  · intro i _ hi
    have hi' : i < l.length := by simpa using hi
    simp [hi']
  · rw [hw]; simp; omega
  · rw [hw]; exact h1
theorem wpFx_succ {Kd : Nat → Nat} {Q : Exit → Act → World → Prop} {n k : Nat} {o : Oper} {l : List Oper} {a : Act} {w : World} : wpFx P ops w0 Kd Q (n + 1) k (o :: l) a w = stepF P ops w0 (Kd k) o (wpFx P ops w0 Kd Q n (k + 1) l) a w := rfl
section
variable {Kd : Nat → Nat} {Q : Exit → Act → World → Prop} {n k : Nat} {o : Oper} {l : List Oper} {a : Act} {w : World}
theorem lf_skip (_ : wpQuiet P ops (fun _ => False) (fun _ => True) [o] a) (hw : Region.wanted o (yielded ops a.tmps) = false) (h : wpFx P ops w0 Kd Q n (k + 1) l (a.put o.dst undef) w) : wpFx P ops w0 Kd Q (n + 1) k (o :: l) a w := by
  simp only [wpFx, stepF, hw]
  exact h
theorem lf_quiet (hk : Kd k = 0) (_ : wpQuiet P ops (fun _ => False) (fun _ => True) [o] a) (hw : Region.wanted o (yielded ops a.tmps) = true) (hv : isV o.op = true)
    (h : ∀ K : Act → Prop, (∀ a', wpFx P ops w0 Kd Q n (k + 1) l a' w → K a') → o.quiet P a (fun w' => ∃ u : Later w0.heap.size w0, w' = u.w) K) : wpFx P ops w0 Kd Q (n + 1) k (o :: l) a w := by
  obtain ⟨v, hq, hk2⟩ := h (fun a' => wpFx P ops w0 Kd Q n (k + 1) l a' w) fun _ h => h
  simp only [wpFx, stepF, hw, if_true, hk]
  rw [if_neg (by omega)]
  exact ⟨none, fun _ => v, fun _ => rfl, fun w' hw' _ => qAt_of_quietAt hv (hq w' ⟨⟨w', hw'⟩, rfl⟩), fun w1 g hw1 _ => wpFx_up _ _ _ _ _ _ hw1 hk2⟩
theorem lf_fresh (obj : Obj) (F : Nat → Value) (hk : Kd k = 1) (hw : Region.wanted o (yielded ops a.tmps) = true) (hv : ∀ w1, (execOp a.eval o).run P w1 = .ok (.value (F w1.heap.size)) (w1.alloc obj))
    (h : ∀ w1 g, Aft w w1 → w0.heap.size ≤ g → w1.heap[g]? = some obj → wpFx P ops w0 Kd Q n (k + 1) l (a.put o.dst (F g)) w1) : wpFx P ops w0 Kd Q (n + 1) k (o :: l) a w := by
  simp only [wpFx, stepF, hw, if_true, hk]
  rw [if_neg (by omega)]
  exact ⟨some obj, F, (fun h => by cases h), fun w1 _ => hv w1, fun w1 g hw1 hh => h w1 g hw1 hh.1 hh.2⟩
theorem lf_eff (hk : Kd k = 2) (_ : wpQuiet P ops (fun _ => False) (fun _ => True) [o] a) (hw : Region.wanted o (yielded ops a.tmps) = true)
    (h : ∀ w1, Aft w w1 → ∀ K : Act → World → Prop, (∀ a' w', (Aft w1 w' ∧ wpFx P ops w0 Kd Q n (k + 1) l a' w') → K a' w') → o.wp P a w1 K noOut) : wpFx P ops w0 Kd Q (n + 1) k (o :: l) a w := by
  simp only [wpFx, stepF, hw, if_true, hk, Nat.le_refl]
  exact fun w1 hw1 => h w1 hw1 _ fun _ _ h => ⟨by unfold Leaves; rw [if_neg (by decide)]; exact h.1, h.2⟩
theorem lf_store (hk : Kd k = 3) (hw : Region.wanted o (yielded ops a.tmps) = true) (ty : TypeId) (x y : Operand) (ho : o.op = .store ty x y)
    (g : Nat) (cells : Array Value) (hx : a.eval x = .pointer (some ⟨g, 0, none⟩)) (hy : a.eval y = .agg cells)
    (t : TypeId) (old : Array Value) (hC : Aft w0 w) (h0 : w0.heap.size ≤ g) (hg : w.heap[g]? = some (.cells old t (0, 0))) (hi : (P.info? ty).map (·.size) = some cells.size)
    (hold : old.size = cells.size) (h1 : cells.all (·.oneCell') = true)
    (h : ∀ w2, Hid (w2.heap[g]? = some (.cells cells t (0, 0))) → Aft w0 w2 → Hid (∀ k, k < w.heap.size → k ≠ g → w2.heap[k]? = w.heap[k]?) → wpFx P ops w0 Kd Q n (k + 1) l (a.put o.dst undef) w2) : wpFx P ops w0 Kd Q (n + 1) k (o :: l) a w := by
  simp only [wpFx, stepF, hw, if_true, hk]
  rw [if_pos (by omega)]
  intro w1 hw1
  refine wp_store_row ty x y ho g cells hx hy t old (hw1.get hg) hi hold h1 ?_
  have hb : Aft w0 (w1.setRow g cells) := below_setRow (hC.trans hw1) h0 _
  refine ⟨by unfold Leaves; rw [if_pos rfl]; exact hb, h _ (show _ = _ from setRow_heap _ _ _ _ _ _ (hw1.get hg)) hb (show _ from fun k hk hne => ?_)⟩
  rw [setRow_other w1 g k _ hne]
  exact Below.block hw1 k hk
theorem lf_eff3 (hk : Kd k = 3) (_ : wpQuiet P ops (fun _ => False) (fun _ => True) [o] a) (hw : Region.wanted o (yielded ops a.tmps) = true)
    (h : ∀ w1, Aft w w1 → ∀ K : Act → World → Prop, (∀ a' w', (Aft w0 w' ∧ wpFx P ops w0 Kd Q n (k + 1) l a' w') → K a' w') → o.wp P a w1 K noOut) : wpFx P ops w0 Kd Q (n + 1) k (o :: l) a w := by
  simp only [wpFx, stepF, hw, if_true, hk]
  rw [if_pos (by omega)]
  exact fun w1 hw1 => h w1 hw1 _ fun _ _ h => ⟨by unfold Leaves; rw [if_pos rfl]; exact h.1, h.2⟩
theorem lf_done (h : ∀ w1, Aft w w1 → wpList P ops Q l a w1) : wpFx P ops w0 Kd Q 0 k l a w := h
end
end
/-- A law on a plain list of operations serves a single, guarded one. -/
theorem wp_of_list {P : Program} {ops : Array Oper} {o : Oper} {a : Act} {w : World} {K : Act → World → Prop} (h : wpList P ops (fun ex a w => ex = .normal ∧ K a w) [{ o with guard := none }] a w) : o.wp P a w K noOut := by
  unfold wpList at h
  rw [if_pos (show Region.wanted { o with guard := none } (yielded ops a.tmps) = true from rfl)] at h
  rcases h with h | ⟨_, h⟩
  · have e : ({ o with guard := none } : Oper).wp P a w = o.wp P a w := rfl
    rw [e] at h
    unfold Oper.wp at *
    generalize (execOp a.eval o).run P w = r at *
    cases r with
    | ok n w' =>
      cases n <;> simp only [Oper.upon, wpList] at h ⊢
      case value v => exact h.2
      case skip => exact h.2
      case defer d => exact h.2
      case enter f args => exact Calls.mono h fun e w'' he => by cases e <;> first | exact he.2 | exact (by cases he.1) | exact (by obtain ⟨_, _, hf⟩ := he; cases hf.1)
      case row r args => exact Rows.mono h fun v w'' he => he.2
    | halt x w' => cases x <;> simp only [Oper.upon] at h ⊢ <;> first | exact h.elim | exact (by cases h.1)
  · obtain ⟨_, _, hf⟩ := h
    cases hf.1
attribute [irreducible] wpFx
end Go.Proofs.Ytfgammcefaomeaa
/- law02.ShaRest, walked whole. -/
namespace Go.Proofs.Ytfgammcefaomeaa
open Go Go.RowKit
theorem wrap64_mid {z : Int} (h0 : 0 ≤ z) (h1 : z < 9223372036854775808) : wrap64 z = z := by
  unfold wrap64
  omega
theorem RdAll.blk {w : World} {v : Value} {g : Nat} {t : TypeId} {fr : Nat × Nat} {l : List (BitVec 8)} (hg : w.heap[g]? = some (.cells #[v] t fr)) (h : Rd w v (bv l)) : RdAll w (.slice (some ⟨g, 0, none⟩) 1 1) [l] := by
  refine ⟨[v], ⟨some ⟨g, 0, none⟩, 1, rfl, Nat.le_refl _, by omega, (fun h => by cases h), fun ad ha j u hu => ?_⟩, rfl, fun i u hu => ?_⟩
  · cases ha
    cases j with
    | zero => cases hu; simp [World.cell?, hg, Addr.add]
    | succ j => simp at hu
  · cases i with
    | zero => cases hu; exact h
    | succ i => simp at hu
end Go.Proofs.Ytfgammcefaomeaa
/- law02.ShaParts, walked whole. -/
namespace Go.Proofs.Ytfgammcefaomeaa
open Go Go.RowKit
section
variable {P : Program} {ops : Array Oper} {w0 : World} {Kd : Nat → Nat} {Q : Exit → Act → World → Prop} {n k : Nat} {o : Oper} {l : List Oper} {a : Act} {w : World}
theorem lf_load_row (hk : Kd k = 0) (hw : Region.wanted o (yielded ops a.tmps) = true) (ty : TypeId) (x : Operand) (ho : o.op = .load ty x)
    (g : Nat) (hx : a.eval x = .pointer (some ⟨g, 0, none⟩)) (t : TypeId) (cs : Array Value) (fr : Nat × Nat) (d : TypeDesc) (hg : w0.heap[g]? = some (.cells cs t fr))
    (hu : P.underlying ty = some d) (hd : (match d with | .struct _ | .array _ _ => true | _ => false) = true) (hi : (P.info? ty).map (·.size) = some cs.size)
    (h : wpFx P ops w0 Kd Q n (k + 1) l (a.put o.dst (.agg cs)) w) : wpFx P ops w0 Kd Q (n + 1) k (o :: l) a w := by
  have hup := wpFx_up (P := P) (ops := ops) (w0 := w0) (Kd := Kd) (Q := Q) n (k + 1) l
  simp only [wpFx_succ, stepF, hw, if_true, hk]
  rw [if_neg (by omega)]
  refine ⟨none, fun _ => .agg cs, fun _ => rfl, fun w1 hw1 _ => .inl ?_, fun w1 g hw1 _ => hup _ _ _ hw1 h⟩
  unfold execOp
  simp only [ho, hx, Instr.loadAt, Instr.sureAddr, Sem.run_bind, Sem.run_pure, Result.andThen_ok, run_loadVar_row w1 g t ty cs fr d (hw1.get hg) hu hd hi]
theorem wp_append_rd {K : Act → World → Prop} (s x : Operand) (t : TypeId)
    (ho : o.op = .call { callee := .builtin .append, args := #[s, x], argTypes := #[t, t] })
    (base : Nat) (e : TypeId) (z : Value) (bytes : Nat) (ht : P.underlying t = some (.slice e)) (hinfo : (P.info? e).map (fun i => (i.zero, i.size, i.bytes)) = some (some z, 1, bytes)) (hzs : z.cells.size = 1)
    (v vx : Value) (xs news : List Value) (hs : a.eval s = v) (hx : a.eval x = vx) (hown : w.ownsRow base e 1 v xs.length xs) (hrd : Rd w vx news) (h1 : ∀ u ∈ news, u.oneCell' = true)
    (hbytes : (xs.length + news.length) * bytes ≤ 140737488355328) (hlen : xs.length + news.length ≤ 140737488355328) (hbase : base ≤ w.heap.size)
    (h : ∀ v' w', w'.ownsRow base e 1 v' (xs ++ news).length (xs ++ news) → w.grownBy w' v.ownBlock → K (a.put o.dst v') w') : o.wp P a w K noOut :=
  wp_of_list (ops := #[]) (wpList_append_rd rfl s x t ho base e z bytes ht hinfo hzs v vx xs news hs hx hown hrd h1 hbytes hlen hbase fun v' w' k1 k2 _ => ⟨rfl, h v' w' k1 k2⟩)
end
theorem RdAll.one_cell {w : World} {vs : List Value} {ps : List (List (BitVec 8))} (h : ∀ i v, vs[i]? = some v → Rd w v (bv (ps.getD i []))) : ∀ u ∈ vs, u.oneCell' = true := by
  intro u hu
  obtain ⟨i, hi⟩ := List.getElem?_of_mem hu
  obtain ⟨ao, cap, rfl, _⟩ := h i u hi
  rfl
theorem RdAll.join {w : World} {v : Value} {vs ws : List Value} {ps qs : List (List (BitVec 8))} (h : Rd w v (vs ++ ws)) (h1 : vs.length = ps.length) (h2 : ws.length = qs.length)
    (e1 : ∀ i v, vs[i]? = some v → Rd w v (bv (ps.getD i []))) (e2 : ∀ i v, ws[i]? = some v → Rd w v (bv (qs.getD i []))) : RdAll w v (ps ++ qs) := by
  refine ⟨vs ++ ws, h, by simp [h1, h2], fun i u hu => ?_⟩
  by_cases hi : i < vs.length
  · rw [List.getElem?_append_left hi] at hu
    have := e1 i u hu
    rw [List.getD_eq_getElem?_getD] at this ⊢
    rwa [List.getElem?_append_left (by omega)]
  · rw [List.getElem?_append_right (by omega)] at hu
    have := e2 _ u hu
    rw [List.getD_eq_getElem?_getD] at this ⊢
    rwa [List.getElem?_append_right (by omega), ← h1]
end Go.Proofs.Ytfgammcefaomeaa
/- mac.held: a key, held against a byte. -/
namespace Go.Proofs.Ytfgammcefaomeaa
open Go Go.RowKit
/-- A key of at most 64 bytes. -/
def key64 (K : Nat → BitVec 32) (k : List (BitVec 8)) : List (BitVec 8) := if k.length ≤ 64 then k else digest K k
def heldB (k : List (BitVec 8)) (b : BitVec 8) : List (BitVec 8) := (List.range 64).map fun j => k.getD j 0 ^^^ b
theorem Rd.addr {w : World} {ao : Option Addr} {n cap : Nat} {xs : List Value} (h : Rd w (.slice ao n cap) xs) (hx : 0 < xs.length) : ∃ ad, ao = some ad ∧ ∀ j u, xs[j]? = some u → w.cell? (ad.add j) = some u := by
  obtain ⟨ao', cap', hv, h1, h2, h3, h4⟩ := h
  cases hv
  cases ao with
  | none => have := h3 rfl; omega
  | some ad => exact ⟨ad, rfl, fun j u hu => h4 ad rfl j u hu⟩
theorem Rd.of_key {w : World} {g t : Nat} {X : List (BitVec 8)} (h : w.heap[g]? = some (.cells (bv X).toArray t (0, 0))) (hX : X.length = 32) : Rd w (.slice (some ⟨g, 0, none⟩) 32 32) (bv X) := by
  refine ⟨some ⟨g, 0, none⟩, 32, by rw [bv_length, hX], by rw [bv_length]; omega, by omega, (fun h => by cases h), fun ad ha j u hu => ?_⟩
  cases ha
  rw [Addr.add_lit]
  simp only [World.cell?, h, Nat.zero_add, List.getElem?_toArray]
  exact hu
end Go.Proofs.Ytfgammcefaomeaa
/- mac.Mac: a sum with a key. -/
namespace Go.Proofs.Ytfgammcefaomeaa
open Go Go.RowKit
/-- A sum with a key. -/
def macOf (K : Nat → BitVec 32) (k d : List (BitVec 8)) : List (BitVec 8) := digest K (heldB (key64 K k) 92 ++ digest K (heldB (key64 K k) 54 ++ d))
theorem RdAll.two {w : World} {v1 v2 : Value} {g : Nat} {t : TypeId} {fr : Nat × Nat} {l1 l2 : List (BitVec 8)} (hg : w.heap[g]? = some (.cells #[v1, v2] t fr)) (h1 : Rd w v1 (bv l1)) (h2 : Rd w v2 (bv l2)) : RdAll w (.slice (some ⟨g, 0, none⟩) 2 2) [l1, l2] := by
  refine ⟨[v1, v2], ⟨some ⟨g, 0, none⟩, 2, rfl, Nat.le_refl _, by omega, (fun h => by cases h), fun ad ha j u hu => ?_⟩, rfl, fun i u hu => ?_⟩
  · cases ha
    match j with
    | 0 => cases hu; simp [World.cell?, hg, Addr.add]
    | 1 => cases hu; simp [World.cell?, hg, Addr.add]
    | j + 2 => simp at hu
  · match i with
    | 0 => cases hu; exact h1
    | 1 => cases hu; exact h2
    | i + 2 => simp at hu
end Go.Proofs.Ytfgammcefaomeaa
/- law03.live: the chapter's example. -/
namespace Go.Proofs.Ytfgammcefaomeaa
open Go Go.RowKit
end Go.Proofs.Ytfgammcefaomeaa
/- mac.Equal. -/
namespace Go.Proofs.Ytfgammcefaomeaa
open Go Go.RowKit
theorem Rd.cell_at {w : World} {g o n cap : Nat} {xs : List (BitVec 8)} (h : Rd w (.slice (some ⟨g, o, none⟩) n cap) (bv xs)) {i : Nat} (hi : i < xs.length) : w.cell? ⟨g, o + i, none⟩ = some (.int .u8 (bn (xs.getD i 0))) := by
  obtain ⟨ao', cap', hv, h1, h2, h3, h4⟩ := h
  cases hv
  have := h4 _ rfl i (.int .u8 (bn (xs.getD i 0))) (by simp [bv, List.getD, List.getElem?_eq_getElem hi])
  rwa [Addr.add_lit] at this
theorem Rd.some_of {w : World} {ao : Option Addr} {n cap : Nat} {xs : List Value} (h : Rd w (.slice ao n cap) xs) (hx : 0 < xs.length) : ∃ g o, ao = some ⟨g, o, none⟩ ∧ n = xs.length ∧ xs.length ≤ cap := by
  have hs := h.sl
  obtain ⟨g, o, cap', hv, _⟩ := h.at hx
  cases hv
  exact ⟨g, o, rfl, rfl, hs.2.1⟩
end Go.Proofs.Ytfgammcefaomeaa
/- law03.MacEqual, walked whole. -/
namespace Go.Proofs.Ytfgammcefaomeaa
open Go Go.RowKit
/-- 'append' in an operation that is guarded. -/
theorem wpList_append_rdG {P : Program} {w : World} {ops : Array Oper} {rest : List Oper} {o : Oper} {a : Act} {Q : Exit → Act → World → Prop} (hw : Region.wanted o (yielded ops a.tmps) = true) (s x : Operand) (t : TypeId)
    (ho : o.op = .call { callee := .builtin .append, args := #[s, x], argTypes := #[t, t] })
    (base : Nat) (e : TypeId) (z : Value) (bytes : Nat) (ht : P.underlying t = some (.slice e)) (hinfo : (P.info? e).map (fun i => (i.zero, i.size, i.bytes)) = some (some z, 1, bytes)) (hzs : z.cells.size = 1)
    (v vx : Value) (xs news : List Value) (hs : a.eval s = v) (hx : a.eval x = vx) (hown : w.ownsRow base e 1 v xs.length xs) (hrd : Rd w vx news) (h1 : ∀ u ∈ news, u.oneCell' = true)
    (hbytes : (xs.length + news.length) * bytes ≤ 140737488355328) (hlen : xs.length + news.length ≤ 140737488355328) (hbase : base ≤ w.heap.size)
    (h : ∀ v' w', w'.ownsRow base e 1 v' (xs ++ news).length (xs ++ news) → w.grownBy w' v.ownBlock → wpList P ops Q rest (a.put o.dst v') w') : wpList P ops Q (o :: rest) a w := by
  unfold wpList
  rw [if_pos hw]
  exact .inl (wp_noOut (wp_append_rd s x t ho base e z bytes ht hinfo hzs v vx xs news hs hx hown hrd h1 hbytes hlen hbase h))
end Go.Proofs.Ytfgammcefaomeaa
/- 'append(s, make([]byte, n)...)', s the call's own, as the model has it: with a number in the place of a slice. Of whatever program. -/
namespace Go.Proofs.Ytfgammcefaomeaa
open Go Go.RowKit
theorem zeroCells_byte (n : Nat) : (Builtin.zeroCells #[Value.int .u8 0] n).toList = List.replicate n (Value.int .u8 0) := by
  unfold Builtin.zeroCells
  apply List.ext_getElem?
  intro i
  by_cases hi : i < n
  · simp [hi, Nat.mod_one]
  · simp [hi]
theorem run_append_no_zeros {P : Program} (w : World) (t tn ty e : TypeId) (i : TypeInfo) (kn : IntKind) (ht : P.underlying t = some (.slice e)) (htn : P.underlying tn = some (.int kn)) (hi : P.info? e = some i)
    (b : Option Addr) (sLen sCap : Nat) (h : sLen ≤ sCap) : (Builtin.append_ #[t, tn] ty #[.slice b sLen sCap, .int .i64 0]).run P w = .ok (.slice b sLen sCap) w := by
  have hw : IntKind.i64.wrap (0 : Int) = 0 := by rw [IntKind.wrap_i64]; omega
  cases b <;> simp [Builtin.append_, run_underlying ht, run_underlying htn, sizeOf, typeInfo, hi, asInt, asIntOf, hw, h, storeCells]
theorem run_append_room_zeros {P : Program} (w : World) (t tn ty e : TypeId) (i : TypeInfo) (kn : IntKind) (ht : P.underlying t = some (.slice e)) (htn : P.underlying tn = some (.int kn)) (hi : P.info? e = some i) (hz : i.zero = some (Value.int .u8 0)) (hsize : i.size = 1) (hby : i.bytes = 1)
    (g sLen sCap : Nat) (cur : Array Value) (hg : w.heap[g]? = some (.cells cur e (0, 0))) (k : Nat) (hk : k ≠ 0) (h : sLen + k ≤ sCap) (hcs : cur.size = sCap) (h48 : k ≤ 1000000) :
    (Builtin.append_ #[t, tn] ty #[.slice (some ⟨g, 0, none⟩) sLen sCap, .int .i64 k]).run P w =
      .ok (.slice (some ⟨g, 0, none⟩) (sLen + k) sCap) (w.setRow g (cur.toList.take sLen ++ List.replicate k (Value.int .u8 0) ++ cur.toList.drop (sLen + k)).toArray) := by
  have hw : IntKind.i64.wrap (k : Int) = k := by rw [IntKind.wrap_i64]; omega
  have hneg : ¬ ((k : Int) < 0) := by omega
  have h48i : ¬ (281474976710656 < (k : Int)) := by omega
  have hst := run_storeCells_at P g sLen e (List.replicate k (Value.int .u8 0)) 0 cur w hg (by simp; omega) (by intro v hv; rw [List.mem_replicate] at hv; rw [hv.2]; rfl)
  simp only [Nat.add_zero, List.length_replicate] at hst
  have hcells : (Value.int .u8 0).cells = #[Value.int .u8 0] := rfl
  simp [Builtin.append_, run_underlying ht, run_underlying htn, sizeOf, typeInfo, zeroValue, hi, hz, hsize, hby, asInt, asIntOf, hw, h, hneg, h48i, hk, hcells, zeroCells_byte, Addr.add_lit, hst]
theorem run_append_own_zeros {P : Program} (w : World) (base : Nat) (t tn ty e : TypeId) (i : TypeInfo) (kn : IntKind) (ht : P.underlying t = some (.slice e)) (htn : P.underlying tn = some (.int kn)) (hi : P.info? e = some i) (hz : i.zero = some (Value.int .u8 0)) (hsize : i.size = 1) (hby : i.bytes = 1)
    (v : Value) (xs : List Value) (hown : w.ownsRow base e 1 v xs.length xs) (k : Nat) (hlen : xs.length + k ≤ 1000000) (hbase : base ≤ w.heap.size) :
    ∃ v' w', (Builtin.append_ #[t, tn] ty #[v, .int .i64 k]).run P w = .ok v' w' ∧ w'.ownsRow base e 1 v' (xs ++ List.replicate k (Value.int .u8 0)).length (xs ++ List.replicate k (Value.int .u8 0)) ∧ w.grownBy w' v.ownBlock := by
  by_cases hk : k = 0
  · subst hk
    refine ⟨v, w, ?_, by simpa using hown, ⟨rfl, rfl, rfl, Nat.le_refl _, fun _ _ _ => rfl⟩⟩
    rcases hown.2 with ⟨rfl, h0⟩ | ⟨g, cap, cur, rfl, _, _, hnc, _⟩
    · exact run_append_no_zeros w t tn ty e i kn ht htn hi none 0 0 (Nat.le_refl _)
    · exact run_append_no_zeros w t tn ty e i kn ht htn hi _ _ _ hnc
  · have hl2 : (xs ++ List.replicate k (Value.int .u8 0)).length = xs.length + k := by simp
    rw [hl2]
    have hlen2 : (xs ++ List.replicate k (Value.int .u8 0)).length = (xs.length + k) * 1 := by rw [hl2, Nat.mul_one]
    have grown : ∀ (old : Nat), old < xs.length + k → ∀ (row : Option Nat),
        (w.drew.alloc (.cells (xs.toArray ++ Builtin.zeroCells (Value.int .u8 0).cells k ++ Builtin.zeroCells (Value.int .u8 0).cells (grownCap w (xs.length + k) old e - (xs.length + k))) e)).ownsRow base e 1
          (.slice (some ⟨w.heap.size, 0, none⟩) (xs.length + k) (grownCap w (xs.length + k) old e)) (xs.length + k) (xs ++ List.replicate k (Value.int .u8 0)) ∧
        w.grownBy (w.drew.alloc (.cells (xs.toArray ++ Builtin.zeroCells (Value.int .u8 0).cells k ++ Builtin.zeroCells (Value.int .u8 0).cells (grownCap w (xs.length + k) old e - (xs.length + k))) e)) row := by
      intro old ho row
      have hge := grownCap_ge w (xs.length + k) old e
      have hcm : grownCap w (xs.length + k) old e ≤ maxLen := grownCap_le_maxLen w (xs.length + k) old e (by unfold maxLen; omega)
      have hz1 : (Value.int IntKind.u8 0).cells.size = 1 := rfl
      refine ⟨⟨hlen2, .inr ⟨w.heap.size, _, _, rfl, hbase, heap_alloc_new w.drew _, hge, hcm, ?_, ?_⟩⟩, ⟨rfl, rfl, rfl, by simp, fun j hj _ => Below.heap_alloc w.drew _ j hj⟩⟩
      · simp only [Array.size_append, List.size_toArray, size_zeroCells, hz1]
        omega
      · have hzk : (Builtin.zeroCells (Value.int .u8 0).cells k).toList = List.replicate k (Value.int .u8 0) := zeroCells_byte k
        simp only [Array.toList_append, hzk]
        rw [← hlen2]
        exact List.take_left
    rcases hown.2 with ⟨rfl, h0⟩ | ⟨g, cap, cur, rfl, hbg, hg, hnc, hcm, hcs, htake⟩
    · have hx : xs = [] := List.eq_nil_of_length_eq_zero h0
      subst hx
      have hr := Lib.run_append_nil_zeros (P := P) w t tn ty e i (Value.int .u8 0) .i64 kn ht htn hi hz k (by omega) (by omega) (by simp at hlen; omega) (by rw [hby]; simp at hlen; omega)
      have hgr := grown 0 (by omega) (Value.ownBlock (.slice none 0 0))
      simp only [List.length_nil, Nat.zero_add, List.nil_append, Array.empty_append] at hgr ⊢
      exact ⟨_, _, hr, hgr.1, hgr.2⟩
    · by_cases hroom : xs.length + k ≤ cap
      · have hcs' : cur.size = cap := by simpa using hcs
        have hr := run_append_room_zeros (P := P) w t tn ty e i kn ht htn hi hz hsize hby g xs.length cap cur hg k hk hroom hcs' (by omega)
        refine ⟨_, _, hr, ⟨hlen2, .inr ⟨g, cap, _, rfl, hbg, setRow_heap w g cur _ e _ hg, hroom, hcm, ?_, ?_⟩⟩, ⟨rfl, rfl, rfl, by simp, fun k _ hk => setRow_other w g k _ (fun e => hk (by simp [Value.ownBlock, e]))⟩⟩
        · simp only [List.size_toArray, List.length_append, List.length_take, List.length_drop, Array.length_toList, List.length_replicate]
          omega
        · have ht' : cur.toList.take xs.length = xs := by simpa using htake
          rw [ht', ← hlen2]
          exact List.take_left
      · have holds : ∀ j u, xs[j]? = some u → w.cell? ((⟨g, 0, none⟩ : Addr).add j) = some u := hown.cells (g := g) rfl
        have hf : (Builtin.firstCells i.size xs.length (.slice (some ⟨g, 0, none⟩) xs.length cap)).run P w.drew = .ok xs.toArray w.drew := by
          have hl := run_loadCells_list (P := P) w.drew ⟨g, 0, none⟩ xs (fun j u hu => holds j u hu)
          rw [hsize]
          simpa [Builtin.firstCells] using hl
        have hr := Lib.run_append_grow_zeros (P := P) w t tn ty e i (Value.int .u8 0) .i64 kn ht htn hi hz (some ⟨g, 0, none⟩) xs.length cap xs hf k (by omega) (by omega) (by omega) (by omega) (by rw [hby]; omega) (by rw [hby]; exact growslice_fits (by omega) (by omega))
        have hgr := grown cap (by omega) (Value.ownBlock (.slice (some ⟨g, 0, none⟩) xs.length cap))
        exact ⟨_, _, hr, hgr.1, hgr.2⟩
theorem wpList_append_zeros {P : Program} {w : World} {ops : Array Oper} {rest : List Oper} {o : Oper} {a : Act} {Q : Exit → Act → World → Prop} (hgd : o.guard = none) (s x : Operand) (t tn : TypeId)
    (ho : o.op = .call { callee := .builtin .append, args := #[s, x], argTypes := #[t, tn] })
    (base : Nat) (e : TypeId) (kn : IntKind) (ht : P.underlying t = some (.slice e)) (htn : P.underlying tn = some (.int kn)) (hinfo : (P.info? e).map (fun i => (i.zero, i.size, i.bytes)) = some (some (Value.int .u8 0), 1, 1))
    (v : Value) (xs : List Value) (k : Nat) (hs : a.eval s = v) (hx : a.eval x = .int .i64 (k : Int)) (hown : w.ownsRow base e 1 v xs.length xs) (hlen : xs.length + k ≤ 1000000) (hbase : base ≤ w.heap.size)
    (h : ∀ v' w', w'.ownsRow base e 1 v' (xs ++ List.replicate k (Value.int .u8 0)).length (xs ++ List.replicate k (Value.int .u8 0)) → w.grownBy w' v.ownBlock → wpList P ops Q rest (a.put o.dst v') w') : wpList P ops Q (o :: rest) a w := by
  obtain ⟨i, hi, hz1, hz2, hz3⟩ := info_parts hinfo
  obtain ⟨v', w', hr, h2, h3⟩ := run_append_own_zeros (P := P) w base t tn o.type e i kn ht htn hi hz1 hz2 hz3 v xs hown k hlen hbase
  exact Lib.wpList_append_run w hgd s x t tn ho v _ hs hx v' w' hr (h v' w' h2 h3)
end Go.Proofs.Ytfgammcefaomeaa
/- law03.MacKeys, walked whole. -/
namespace Go.Proofs.Ytfgammcefaomeaa
open Go Go.RowKit
theorem RdAll.twoA (w : World) (v1 v2 : Value) (l1 l2 : List (BitVec 8)) (t : Nat) (h1 : Rd w v1 (bv l1)) (h2 : Rd w v2 (bv l2)) : RdAll (w.alloc (.cells #[v1, v2] t)) (.slice (some ⟨w.heap.size, 0, none⟩) 2 2) [l1, l2] :=
  RdAll.two (heap_alloc_new w _) (h1.grow (Aft.alloc w _)) (h2.grow (Aft.alloc w _))
theorem bv_zeros (n : Nat) : List.replicate n (Value.int .u8 0) = bv (List.replicate n 0) := by simp [bv, bn]
/-- An operation on two values, whose outcome is known. -/
theorem lf_bin {P : Program} {ops : Array Oper} {w0 : World} {Kd : Nat → Nat} {Q : Exit → Act → World → Prop} {n k : Nat} {o : Oper} {l : List Oper} {a : Act} {w : World} (hk : Kd k = 0) (hw : Region.wanted o (yielded ops a.tmps) = true)
    (op : BinOp) (t t2 : TypeId) (x y : Operand) (ho : o.op = .binOp op t x y t2) (vx vy v : Value) (hx : a.eval x = vx) (hy : a.eval y = vy) (hr : ∀ w1, (Go.binOp op t vx vy).run P w1 = .ok v w1) (hg : ∀ w1, (eqGuard op t x y vx vy).run P w1 = .ok () w1)
    (h : wpFx P ops w0 Kd Q n (k + 1) l (a.put o.dst v) w) : wpFx P ops w0 Kd Q (n + 1) k (o :: l) a w := by
  have hup := wpFx_up (P := P) (ops := ops) (w0 := w0) (Kd := Kd) (Q := Q) n (k + 1) l
  simp only [wpFx_succ, stepF, hw, if_true, hk]
  rw [if_neg (by omega)]
  refine ⟨none, fun _ => v, fun _ => rfl, fun w1 hw1 _ => .inl ?_, fun w1 g hw1 _ => hup _ _ _ hw1 h⟩
  unfold execOp
  simp only [ho, hx, hy, Sem.run_bind, hg, hr, Result.andThen_ok, Sem.run_pure]
end Go.Proofs.Ytfgammcefaomeaa
/- mac.Expand's own function: the next bytes. -/
namespace Go.Proofs.Ytfgammcefaomeaa
open Go Go.RowKit
theorem RdAll.three {w : World} {v1 v2 v3 : Value} {g : Nat} {t : TypeId} {fr : Nat × Nat} {l1 l2 l3 : List (BitVec 8)} (hg : w.heap[g]? = some (.cells #[v1, v2, v3] t fr)) (h1 : Rd w v1 (bv l1)) (h2 : Rd w v2 (bv l2)) (h3 : Rd w v3 (bv l3)) : RdAll w (.slice (some ⟨g, 0, none⟩) 3 3) [l1, l2, l3] := by
  refine ⟨[v1, v2, v3], ⟨some ⟨g, 0, none⟩, 3, rfl, Nat.le_refl _, by omega, (fun h => by cases h), fun ad ha j u hu => ?_⟩, rfl, fun i u hu => ?_⟩
  · cases ha
    match j with
    | 0 => cases hu; simp [World.cell?, hg, Addr.add]
    | 1 => cases hu; simp [World.cell?, hg, Addr.add]
    | 2 => cases hu; simp [World.cell?, hg, Addr.add]
    | j + 3 => simp at hu
  · match i with
    | 0 => cases hu; exact h1
    | 1 => cases hu; exact h2
    | 2 => cases hu; exact h3
    | i + 3 => simp at hu
theorem one_cell_at {w : World} {g t : Nat} {v : Value} (h : w.heap[g]? = some (.cells #[v] t (0, 0))) : w.cell? ⟨g, 0, none⟩ = some v ∧ w.frozen? ⟨g, 0, none⟩ = false :=
  ⟨by rw [cell_of_row w g 0 _ _ _ h]; rfl, frozen_of_row w g 0 _ _ h⟩
theorem one_cell_set {w : World} {g t : Nat} {v : Value} (u : Value) (h : w.heap[g]? = some (.cells #[v] t (0, 0))) : (w.setCell ⟨g, 0, none⟩ u).heap[g]? = some (.cells #[u] t (0, 0)) := by
  rw [heap_setCell_same w g 0 _ _ u h]
  rfl
end Go.Proofs.Ytfgammcefaomeaa
/- mac.Expand: bytes of a key. -/
namespace Go.Proofs.Ytfgammcefaomeaa
open Go Go.RowKit
def expT (K : Nat → BitVec 32) (k info : List (BitVec 8)) : Nat → List (BitVec 8)
  | 0 => []
  | i + 1 => macOf K k (expT K k info i ++ (info ++ [BitVec.ofNat 8 (i + 1)]))
def expOut (K : Nat → BitVec 32) (k info : List (BitVec 8)) : Nat → List (BitVec 8)
  | 0 => []
  | i + 1 => expOut K k info i ++ expT K k info (i + 1)
theorem cut_whole {P : Program} {t e : TypeId} (ht : P.underlying t = some (.slice e)) {ao : Option Addr} {len cap n : Nat} (hn : n ≤ cap) (w : World) {i : TypeInfo} (hi : P.info? e = some i) :
    (Instr.slice t (.slice ao len cap) none (some (.int .i64 (n : Int))) (some (.int .i64 (n : Int)))).run P w = .ok (.slice ao n n) w := by
  have he : P.elem t = e := by simp [Program.elem, ht]
  rw [run_slice_hm w t ao len cap (by rw [he]; exact ht) .i64 .i64 (n : Int) (n : Int) (by omega) (by omega) (by omega), he, run_sizeOf w hi]
  simp only [Result.andThen, sliced, Int.toNat_natCast, Nat.zero_mul, Nat.sub_zero]
  cases ao <;> simp [Addr.add]
theorem Rd.whole {w : World} {ao : Option Addr} {cap len : Nat} {xs : List Value} (h : Rd w (.slice ao len cap) xs) {n : Nat} (hn : n ≤ xs.length) : Rd w (.slice ao n n) (xs.take n) := by
  obtain ⟨ao', cap', hv, h1, h2, h3, h4⟩ := h
  cases hv
  refine ⟨ao, n, by rw [List.length_take, Nat.min_eq_left hn], by rw [List.length_take]; omega, by omega, fun e => (by have := h3 e; omega), fun ad ha j u hu => h4 ad ha j u ?_⟩
  rw [List.getElem?_take] at hu
  split at hu
  · exact hu
  · cases hu
end Go.Proofs.Ytfgammcefaomeaa
/- law03.MacPrefix, walked whole. -/
namespace Go.Proofs.Ytfgammcefaomeaa
open Go Go.RowKit
end Go.Proofs.Ytfgammcefaomeaa
/- A key as an argument, opened. -/
namespace Go.Proofs.Ytfgammcefaomeaa
open Go Go.RowKit Go.ChangeShapes Go.WideShapes
set_option maxRecDepth 100000
end Go.Proofs.Ytfgammcefaomeaa
/- coterieref02.Block: the document's block. -/
namespace Go.Proofs.Ytfgammcefaomeaa
open Go Go.RowKit
theorem row_cell {w : World} {g t : Nat} {cs : Array Value} {fr : Nat × Nat} (h : w.heap[g]? = some (.cells cs t fr)) {i : Nat} {v : Value} (hv : cs[i]? = some v) : w.cell? ⟨g, i, none⟩ = some v := by
  rw [cell_of_row w g i _ _ _ h]
  exact hv
attribute [local go_sem] wn_add wn_xor wn_and wn_or
end Go.Proofs.Ytfgammcefaomeaa
/- coterieref01.Bytes: a number's bytes. -/
namespace Go.Proofs.Ytfgammcefaomeaa
open Go Go.RowKit
/-- The bytes of a number, of a width, the highest first. -/
def beL : Nat → Nat → List (BitVec 8)
  | 0, _ => []
  | i + 1, n => BitVec.ofNat 8 (n / 256 ^ i) :: beL i n
end Go.Proofs.Ytfgammcefaomeaa
/- coterieref02.Padded: bytes, padded. -/
namespace Go.Proofs.Ytfgammcefaomeaa
open Go Go.RowKit
end Go.Proofs.Ytfgammcefaomeaa
/- coterieref02.Bytes: words' bytes; and First. -/
namespace Go.Proofs.Ytfgammcefaomeaa
open Go Go.RowKit
end Go.Proofs.Ytfgammcefaomeaa
/- coterieref02.First, and coterieref02.Sum: the document's sum of any parts is the digest. -/
namespace Go.Proofs.Ytfgammcefaomeaa
open Go Go.RowKit
/-- A block of a list of bytes. -/
def blk (b : List (BitVec 8)) (j : Nat) : List (BitVec 8) := (b.drop (64 * j)).take 64
end Go.Proofs.Ytfgammcefaomeaa
/- coterielaw02.ShaSums: it answers true. -/
namespace Go.Proofs.Ytfgammcefaomeaa
open Go Go.RowKit
end Go.Proofs.Ytfgammcefaomeaa
/- coterieref02.New and Check. -/
namespace Go.Proofs.Ytfgammcefaomeaa
open Go Go.RowKit
end Go.Proofs.Ytfgammcefaomeaa
/- The words at the head of a sum that stands in a block: loaded, and stored, as an array. -/
namespace Go.Proofs.Ytfgammcefaomeaa
open Go Go.RowKit
section
variable {ops : Array Oper} {rest : List Oper} {o : Oper} {a : Act} {w : World} {Q : Exit → Act → World → Prop}
end
section
variable {ops : Array Oper} {w0 : World} {Kd : Nat → Nat} {Q : Exit → Act → World → Prop} {n k : Nat} {o : Oper} {l : List Oper} {a : Act} {w : World}
end
end Go.Proofs.Ytfgammcefaomeaa
/- coterieref02.Done: the document's end of a sum that stands in a block. -/
namespace Go.Proofs.Ytfgammcefaomeaa
open Go Go.RowKit
end Go.Proofs.Ytfgammcefaomeaa
/- coterieref02.Write: the document's sum, block by block, that stands in a block. -/
namespace Go.Proofs.Ytfgammcefaomeaa
open Go Go.RowKit
/-- What is left of a text, as a slice, all of it above a block. -/
def Left (w : World) (bs : Nat) (v : Value) (n cap : Nat) (ao : Option Addr) (xs : List (BitVec 8)) : Prop :=
  v = .slice ao n cap ∧ Rd w v (bv xs) ∧ ∀ g, v.ownBlock = some g → bs + 1 < g
theorem Left.next {w : World} {bs : Nat} {v : Value} {n cap : Nat} {ao : Option Addr} {xs : List (BitVec 8)} (h : Left w bs v n cap ao xs) (h64 : 64 ≤ xs.length) :
    Left w bs (.slice (if cap = 64 then ao else ao.map (·.add 64)) (n - 64) (cap - 64)) (n - 64) (cap - 64) (if cap = 64 then ao else ao.map (·.add 64)) (xs.drop 64) := by
  obtain ⟨rfl, h1, h2⟩ := h
  refine ⟨rfl, ?_, fun g hg => h2 g ?_⟩
  · rw [bv_drop]; exact h1.from (by rw [bv_length]; exact h64)
  · cases ao with
    | none => simp [Value.ownBlock] at hg
    | some a =>
      by_cases hc : cap = 64
      · simpa [hc, Value.ownBlock] using hg
      · simp only [hc, if_false, Option.map_some, Value.ownBlock] at hg ⊢
        rw [← hg]
        unfold Addr.add
        split <;> rfl
theorem Left.head {w : World} {bs : Nat} {v : Value} {n cap : Nat} {ao : Option Addr} {xs : List (BitVec 8)} (h : Left w bs v n cap ao xs) (h64 : 64 ≤ xs.length) :
    ∃ g o, ao = some ⟨g, o, none⟩ ∧ Rd w (.slice ao 64 cap) (bv (xs.take 64)) ∧ bs + 1 < g := by
  obtain ⟨rfl, h1, h2⟩ := h
  have h3 := h1.to (n := 64) (by rw [bv_length]; exact h64)
  obtain ⟨g, o, hgo, -, -⟩ := Rd.some_of h3 (by rw [← bv_take, bv_length, List.length_take]; omega)
  refine ⟨g, o, hgo, by rw [bv_take]; exact h3, h2 g (by rw [hgo]; rfl)⟩
end Go.Proofs.Ytfgammcefaomeaa
/- coterieref03.padded: a key of 64 bytes, each xor a number. -/
namespace Go.Proofs.Ytfgammcefaomeaa
open Go Go.RowKit
end Go.Proofs.Ytfgammcefaomeaa
/- coterieref03.Mac, and Extract: the document's sum with a key. -/
namespace Go.Proofs.Ytfgammcefaomeaa
open Go Go.RowKit
end Go.Proofs.Ytfgammcefaomeaa
/- coterielaw03.MacSums: it answers true. -/
namespace Go.Proofs.Ytfgammcefaomeaa
open Go Go.RowKit
theorem wp_bin {P : Program} {o : Oper} {a : Act} {w : World} {K : Act → World → Prop} {Q : Exit → Act → World → Prop} (op : BinOp) (t t2 : TypeId) (x y : Operand) (ho : o.op = .binOp op t x y t2) (vx vy v : Value) (hx : a.eval x = vx) (hy : a.eval y = vy)
    (hr : ∀ w1, (Go.binOp op t vx vy).run P w1 = .ok v w1) (hg : ∀ w1, (eqGuard op t x y vx vy).run P w1 = .ok () w1) (h : K (a.put o.dst v) w) : o.wp P a w K Q := by
  unfold Oper.wp execOp
  simp only [ho, hx, hy, Sem.run_bind, hg, hr, Result.andThen_ok, Sem.run_pure]
  exact h
theorem wpList_binG {P : Program} {w : World} {ops : Array Oper} {rest : List Oper} {o : Oper} {a : Act} {Q : Exit → Act → World → Prop} (hw : Region.wanted o (yielded ops a.tmps) = true) (op : BinOp) (t t2 : TypeId) (x y : Operand) (ho : o.op = .binOp op t x y t2) (vx vy v : Value) (hx : a.eval x = vx) (hy : a.eval y = vy)
    (hr : ∀ w1, (Go.binOp op t vx vy).run P w1 = .ok v w1) (hg : ∀ w1, (eqGuard op t x y vx vy).run P w1 = .ok () w1) (h : wpList P ops Q rest (a.put o.dst v) w) : wpList P ops Q (o :: rest) a w := by
  unfold wpList
  rw [if_pos hw]
  exact .inl (wp_noOut (wp_bin op t t2 x y ho vx vy v hx hy hr hg h))
end Go.Proofs.Ytfgammcefaomeaa
/- coterielaw02.ShaSteps: it answers true. -/
namespace Go.Proofs.Ytfgammcefaomeaa
open Go Go.RowKit
theorem key0_bv : (bv (List.replicate 32 0)).toArray = key0 := by rw [← bv_zeros]; rfl
end Go.Proofs.Ytfgammcefaomeaa
/- Numbers written: math/bits.Len64, wire.fits, the predicate of wire.Num, slices.IndexFunc and ContainsFunc at it, wire.put. -/
namespace Go.Proofs.Ytfgammcefaomeaa
open Go Go.RowKit
/-- A number stands in a width. -/
def fitsB (W x : Nat) : Bool := decide (x < 256 ^ W)
/-- Numbers, as values. -/
def nv (ns : List Nat) : List Value := ns.map fun (x : Nat) => Value.int .u64 (x : Int)
/-- A number of a list. -/
def nat (ns : List Nat) (i : Nat) : Nat := ns.getD i 0
theorem nv_at (ns : List Nat) (i : Nat) (h : i < ns.length) : (nv ns)[i]? = some (.int .u64 ((nat ns i : Nat) : Int)) := by simp [nv, nat, List.getD, List.getElem?_eq_getElem h]
theorem Rd.nat_at {w : World} {g o n cap : Nat} {ns : List Nat} (h : Rd w (.slice (some ⟨g, o, none⟩) n cap) (nv ns)) {i : Nat} (hi : i < ns.length) : w.cell? ⟨g, o + i, none⟩ = some (.int .u64 ((nat ns i : Nat) : Int)) := by
  obtain ⟨ao', cap', hv, h1, h2, h3, h4⟩ := h
  cases hv
  have := h4 _ rfl i _ (nv_at ns i hi)
  rwa [Addr.add_lit] at this
/-- One of them at least does not stand in a width. -/
def overB (W : Nat) (ns : List Nat) : Bool := ns.any fun x => !fitsB W x
end Go.Proofs.Ytfgammcefaomeaa
/- wire.put, wire.Num, and coterieref01.Num. -/
namespace Go.Proofs.Ytfgammcefaomeaa
open Go Go.RowKit
/-- Numbers, written. -/
def numsB (W : Nat) (ns : List Nat) : List (BitVec 8) := ns.flatMap (beL W)
/-- Whether numbers may be written in a width. -/
def numOk (W : Int) (ns : List Nat) : Bool := decide (1 ≤ W) && (decide (W ≤ 8) && !overB W.toNat ns)
def numErr (W : Int) (ns : List Nat) : Int := if numOk W ns then 0 else 1
def numB (d : List (BitVec 8)) (W : Int) (ns : List Nat) : List (BitVec 8) := if numOk W ns then d ++ numsB W.toNat ns else []
/-- What Num hands back. -/
def NumSays (d : List (BitVec 8)) (W : Int) (ns : List Nat) (w : World) (e : Ending) (w' : World) : Prop :=
  ∃ ao cap, e = .returned (.tuple #[.slice ao (bv (numB d W ns)).length cap, .int .i64 (numErr W ns)]) ∧ w'.ownsRow w.heap.size 5 1 (.slice ao (bv (numB d W ns)).length cap) (bv (numB d W ns)).length (bv (numB d W ns)) ∧ Below w.heap.size w w'
theorem NumSays.bad {d : List (BitVec 8)} {W : Int} {ns : List Nat} {w w' : World} (h : numOk W ns = false) (hb : Below w.heap.size w w') : NumSays d W ns w (.returned (.tuple #[.slice none 0 0, .int .i64 1])) w' := by
  refine ⟨none, 0, ?_, ?_, hb⟩ <;> simp only [numB, numErr, h] <;> first | rfl | exact World.ownsRow_nil _ _ _ _
theorem NumSays.good {d : List (BitVec 8)} {W : Nat} {ns : List Nat} {w w' : World} {v : Value} (h : numOk (W : Int) ns = true) (ho : w'.ownsRow w.heap.size 5 1 v (bv (d ++ numsB W ns)).length (bv (d ++ numsB W ns))) (hb : Below w.heap.size w w') :
    NumSays d (W : Int) ns w (.returned (.tuple #[v, .int .i64 0])) w' := by
  have hB : numB d (W : Int) ns = d ++ numsB W ns := by unfold numB; rw [if_pos h, Int.toNat_natCast]
  obtain ⟨a, c, rfl⟩ := own_shape ho
  refine ⟨a, c, ?_, ?_, hb⟩
  · rw [hB]; unfold numErr; rw [if_pos h]
  · rw [hB]; exact ho
end Go.Proofs.Ytfgammcefaomeaa
/- bytes.Buffer at this program: the kit's contracts on Write and Bytes, and a write of no bytes. -/
namespace Go.Proofs.Ytfgammcefaomeaa
open Go Go.RowKit
end Go.Proofs.Ytfgammcefaomeaa
/- wire.Text, and coterieref01.Text: texts written. -/
namespace Go.Proofs.Ytfgammcefaomeaa
open Go Go.RowKit
def textsB (ts : List (List (BitVec 8))) : List (BitVec 8) := ts.flatMap fun t => beL 2 t.length ++ t
def textOk (ts : List (List (BitVec 8))) : Bool := ts.all fun t => decide (t.length ≤ 65535)
def textErr (ts : List (List (BitVec 8))) : Int := if textOk ts then 0 else 4
def textB (d : List (BitVec 8)) (ts : List (List (BitVec 8))) : List (BitVec 8) := if textOk ts then d ++ textsB ts else []
/-- What Text hands back. -/
def TextSays (d : List (BitVec 8)) (ts : List (List (BitVec 8))) (w : World) (e : Ending) (w' : World) : Prop :=
  ∃ ao cap, e = .returned (.tuple #[.slice ao (bv (textB d ts)).length cap, .int .i64 (textErr ts)]) ∧ w'.ownsRow w.heap.size 5 1 (.slice ao (bv (textB d ts)).length cap) (bv (textB d ts)).length (bv (textB d ts)) ∧ Below w.heap.size w w'
theorem TextSays.bad {d : List (BitVec 8)} {ts : List (List (BitVec 8))} {w w' : World} (h : textOk ts = false) (hb : Below w.heap.size w w') : TextSays d ts w (.returned (.tuple #[.slice none 0 0, .int .i64 4])) w' := by
  refine ⟨none, 0, ?_, ?_, hb⟩ <;> simp only [textB, textErr, h] <;> first | rfl | exact World.ownsRow_nil _ _ _ _
theorem TextSays.good {d : List (BitVec 8)} {ts : List (List (BitVec 8))} {w w' : World} {v : Value} (h : textOk ts = true) (ho : w'.ownsRow w.heap.size 5 1 v (bv (d ++ textsB ts)).length (bv (d ++ textsB ts))) (hb : Below w.heap.size w w') :
    TextSays d ts w (.returned (.tuple #[v, .int .i64 0])) w' := by
  have hB : textB d ts = d ++ textsB ts := by unfold textB; rw [if_pos h]
  obtain ⟨a, c, rfl⟩ := own_shape ho
  refine ⟨a, c, ?_, ?_, hb⟩
  · rw [hB]; unfold textErr; rw [if_pos h]
  · rw [hB]; exact ho
end Go.Proofs.Ytfgammcefaomeaa
/- coterielaw01.live: the chapter's examples hold. -/
namespace Go.Proofs.Ytfgammcefaomeaa
open Go Go.RowKit
end Go.Proofs.Ytfgammcefaomeaa
/- coterielaw01.WireOrder: it answers true. -/
namespace Go.Proofs.Ytfgammcefaomeaa
open Go Go.RowKit
end Go.Proofs.Ytfgammcefaomeaa
/- Numbers and texts read: wire.TakeNum, TakeText, Texts, End, and the document's. -/
namespace Go.Proofs.Ytfgammcefaomeaa
open Go Go.RowKit
/-- A byte of those from a place on. -/
def byteFrom (b : List (BitVec 8)) (p i : Nat) : BitVec 8 := b.getD (p + i) 0
theorem take_from_succ (b : List (BitVec 8)) (p i : Nat) (h : p + i < b.length) : (b.drop p).take (i + 1) = (b.drop p).take i ++ [byteFrom b p i] := by
  rw [List.take_add_one]
  congr 1
  rw [List.getElem?_drop, List.getElem?_eq_getElem h]
  unfold byteFrom
  rw [List.getD_eq_getElem?_getD, List.getElem?_eq_getElem h]
  rfl
end Go.Proofs.Ytfgammcefaomeaa
/- Texts read: wire.TakeText, Texts, End, and the document's; and coterieref01.SameAll. -/
namespace Go.Proofs.Ytfgammcefaomeaa
open Go Go.RowKit
/-- What TakeText hands back, as values. -/
def TTSays (x : List (BitVec 8) × Int × Int) (w : World) (e : Ending) (w' : World) : Prop :=
  ∃ ao cap, e = .returned (.tuple #[.slice ao (bv x.1).length cap, .int .i64 x.2.1, .int .i64 x.2.2]) ∧ w'.ownsRow w.heap.size 5 1 (.slice ao (bv x.1).length cap) (bv x.1).length (bv x.1) ∧ Below w.heap.size w w'
theorem TTSays.some {x : List (BitVec 8) × Int × Int} {t : List (BitVec 8)} {q e : Int} {ao : Option Addr} {n cap : Nat} {w w' : World} (h : x = (t, q, e)) (hn : n = (bv t).length) (ho : w'.ownsRow w.heap.size 5 1 (.slice ao (bv t).length cap) (bv t).length (bv t)) (hb : Below w.heap.size w w') :
    TTSays x w (.returned (.tuple #[.slice ao n cap, .int .i64 q, .int .i64 e])) w' := by
  subst h hn
  exact ⟨_, _, rfl, ho, hb⟩
theorem own_ne {w : World} {B1 B2 e1 e2 n1 n2 : Nat} {v1 v2 : Value} {x1 x2 : List Value} (h1 : w.ownsRow B1 e1 1 v1 n1 x1) (h2 : w.ownsRow B2 e2 1 v2 n2 x2) (he : e1 ≠ e2) : v1.ownBlock = none ∨ v1.ownBlock ≠ v2.ownBlock := by
  rcases h1.2 with ⟨rfl, -⟩ | ⟨g1, c1, k1, rfl, -, q1, -⟩
  · exact .inl rfl
  · refine .inr ?_
    rcases h2.2 with ⟨rfl, -⟩ | ⟨g2, c2, k2, rfl, -, q2, -⟩
    · simp [Value.ownBlock]
    · simp only [Value.ownBlock, ne_eq, Option.some.injEq]
      intro h
      subst h
      rw [q1] at q2
      simp only [Option.some.injEq, Obj.cells.injEq] at q2
      exact he q2.2.1
end Go.Proofs.Ytfgammcefaomeaa
/- wire.Texts, End, the document's, and coterieref01.SameAll. -/
namespace Go.Proofs.Ytfgammcefaomeaa
open Go Go.RowKit
end Go.Proofs.Ytfgammcefaomeaa
/- coterielaw01.WireReads: it answers true. -/
namespace Go.Proofs.Ytfgammcefaomeaa
open Go Go.RowKit
end Go.Proofs.Ytfgammcefaomeaa
/- coterieref03.Key, and coterieref03.Expand; mac.Expand of a number that may not be. -/
namespace Go.Proofs.Ytfgammcefaomeaa
open Go Go.RowKit
/-- So many bytes of a key. -/
def okm (k info : List (BitVec 8)) (n : Nat) : List (BitVec 8) := (expOut K0 k info n).take n
end Go.Proofs.Ytfgammcefaomeaa
/- mac.Derive, and coterieref03.Derive: a key of a key. -/
namespace Go.Proofs.Ytfgammcefaomeaa
open Go Go.RowKit
/-- A string's bytes. -/
def sb (s : ByteArray) : List (BitVec 8) := s.data.toList.map UInt8.toBitVec
def cot : List (BitVec 8) := [99, 111, 116, 101, 114, 105, 101]
/-- The texts that a key of a key hangs on. -/
def drvT (L : List (BitVec 8)) (ctx : List (List (BitVec 8))) : List (List (BitVec 8)) := cot :: L :: ctx
def drvKey (k L : List (BitVec 8)) (ctx : List (List (BitVec 8))) : List (BitVec 8) := if textOk (drvT L ctx) then okm k (textsB (drvT L ctx)) 32 else List.replicate 32 0
def DrvSays (k L : List (BitVec 8)) (ctx : List (List (BitVec 8))) (w : World) (e : Ending) (w' : World) : Prop :=
  e = .returned (.tuple #[.agg (bv (drvKey k L ctx)).toArray, .int .i64 (textErr (drvT L ctx))]) ∧ Below w.heap.size w w'
theorem DrvSays.bad {k L : List (BitVec 8)} {ctx : List (List (BitVec 8))} {w w' : World} (h : textOk (drvT L ctx) = false) (hb : Below w.heap.size w w') : DrvSays k L ctx w (.returned (.tuple #[.agg key0, .int .i64 4])) w' := by
  refine ⟨?_, hb⟩
  unfold drvKey textErr
  rw [h, ← key0_bv]
  rfl
theorem DrvSays.good {k L : List (BitVec 8)} {ctx : List (List (BitVec 8))} {X : List (BitVec 8)} {w w' : World} (h : textOk (drvT L ctx) = true) (hX : okm k (textsB (drvT L ctx)) 32 = X) (hb : Below w.heap.size w w') : DrvSays k L ctx w (.returned (.tuple #[.agg (bv X).toArray, .int .i64 0])) w' := by
  refine ⟨?_, hb⟩
  unfold drvKey textErr
  rw [if_pos h, if_pos h, hX]
end Go.Proofs.Ytfgammcefaomeaa
/- Blocks that hold a struct with keys in it: a part reads as the key; a store of the whole; two results in blocks. -/
namespace Go.Proofs.Ytfgammcefaomeaa
open Go Go.RowKit
theorem Rd.part {w : World} {g t : Nat} {fr : Nat × Nat} {L : List Value} (pre post : List Value) (X : List (BitVec 8)) (n : Nat) (h : w.heap[g]? = some (.cells L.toArray t fr)) (hn : pre.length = n) (hX : X.length = 32) (hL : L = pre ++ (bv X ++ post)) :
    Rd w (.slice (some ⟨g, n, none⟩) 32 32) (bv X) := by
  refine ⟨some ⟨g, n, none⟩, 32, by rw [bv_length, hX], by rw [bv_length]; omega, by omega, (fun h => by cases h), fun ad ha j u hu => ?_⟩
  cases ha
  rw [Addr.add_lit]
  subst hL hn
  simp only [World.cell?, h, List.getElem?_toArray]
  have hj := (List.getElem?_eq_some_iff.1 hu).1
  rw [List.getElem?_append_right (by omega), Nat.add_sub_cancel_left, List.getElem?_append_left hj]
  exact hu
theorem cell_part {w : World} {g t : Nat} {fr : Nat × Nat} {L : List Value} {n : Nat} {u : Value} (h : w.heap[g]? = some (.cells L.toArray t fr)) (hu : L[n]? = some u) : w.cell? ⟨g, n, none⟩ = some u := by
  simp only [World.cell?, h, List.getElem?_toArray]
  exact hu
/-- A block's cell is written. -/
theorem block_setCell {w : World} {g t : Nat} {fr : Nat × Nat} {L : List Value} {n : Nat} (h : w.heap[g]? = some (.cells L.toArray t fr)) (u : Value) : (w.setCell ⟨g, n, none⟩ u).heap[g]? = some (.cells (L.set n u).toArray t fr) := by
  rw [Lib.heap_setCell_same h u]
  simp
/-- A store of a whole struct, or array, into a block. -/
theorem wpList_store_rowZ {P : Program} {ops : Array Oper} {rest : List Oper} {o : Oper} {a : Act} {w : World} {Q : Exit → Act → World → Prop} (hgd : o.guard = none) (ty : TypeId) (x y : Operand) (ho : o.op = .store ty x y)
    (g : Nat) (cells : Array Value) (hx : a.eval x = .pointer (some ⟨g, 0, none⟩)) (hy : a.eval y = .agg cells)
    (t : TypeId) (old : Array Value) (hg : w.heap[g]? = some (.cells old t (0, 0))) (hi : (P.info? ty).map (·.size) = some cells.size)
    (hold : old.size = cells.size) (h1 : cells.all (·.oneCell') = true)
    (h : ∀ w', Hid (w'.heap[g]? = some (.cells cells t (0, 0))) → Hid (∀ k, k ≠ g → w'.heap[k]? = w.heap[k]?) → (∀ k w0, k ≤ g → Below k w0 w → Below k w0 w') → wpList P ops Q rest (a.put o.dst undef) w') : wpList P ops Q (o :: rest) a w :=
  wpList_store_row hgd ty x y ho g cells hx hy t old hg hi hold h1 (h _ (show _ = _ from setRow_heap _ _ _ _ _ _ hg) (show _ from fun k hk => setRow_other w g k _ hk) fun _ _ hk hb => below_setRow hb hk _)
theorem all_one {L : List Value} (h : ∀ u ∈ L, u.oneCell' = true) : L.toArray.all (·.oneCell') = true := Array.all_eq_true_iff_forall_mem.2 fun u hu => h u (by simpa using hu)
/-- A new variable: the world behind it stays a letter. -/
theorem wpList_allocO {P : Program} {ops : Array Oper} {rest : List Oper} {o : Oper} {a : Act} {w : World} {Q : Exit → Act → World → Prop} (hgd : o.guard = none) (ty : TypeId) (ho : o.op = .alloc ty) (obj : Obj)
    (hv : ∀ w1, (Instr.alloc ty true (.tuple #[])).run P w1 = .ok (.pointer (some ⟨w1.heap.size, 0, none⟩)) (w1.alloc obj))
    (h : ∀ w', Aft w w' → Hid (w'.heap[w.heap.size]? = some obj) → w'.heap.size = w.heap.size + 1 → wpList P ops Q rest (a.put o.dst (.pointer (some ⟨w.heap.size, 0, none⟩))) w') : wpList P ops Q (o :: rest) a w :=
  wpList_plain hgd fun K hK => by
    unfold Oper.wp execOp
    simp only [ho, Sem.run_bind, hv, Result.andThen_ok, Sem.run_pure]
    exact hK _ _ (h _ (Aft.alloc w obj) (heap_alloc_new w obj) (World.size_alloc w obj))
theorem wpList_boxO {P : Program} {ops : Array Oper} {rest : List Oper} {o : Oper} {a : Act} {w : World} {Q : Exit → Act → World → Prop} (hgd : o.guard = none) (ty : TypeId) (x : Operand) (ho : o.op = .box ty x) (v : Value) (hx : a.eval x = v) (obj : Obj)
    (hv : ∀ w1, (Instr.box ty v).run P w1 = .ok (.pointer (some ⟨w1.heap.size, 0, none⟩)) (w1.alloc obj))
    (h : ∀ w', Aft w w' → Hid (w'.heap[w.heap.size]? = some obj) → w'.heap.size = w.heap.size + 1 → wpList P ops Q rest (a.put o.dst (.pointer (some ⟨w.heap.size, 0, none⟩))) w') : wpList P ops Q (o :: rest) a w :=
  wpList_plain hgd fun K hK => by
    unfold Oper.wp execOp
    simp only [ho, hx, Sem.run_bind, hv, Result.andThen_ok, Sem.run_pure]
    exact hK _ _ (h _ (Aft.alloc w obj) (heap_alloc_new w obj) (World.size_alloc w obj))
theorem below_set1 {k g n : Nat} {w0 w : World} (h : Below k w0 w) (hk : k ≤ g) (u : Value) : Below k w0 (w.setCell ⟨g, n, none⟩ u) :=
  ⟨h.os, h.tape, h.output, by have := Below.size h; simpa [World.setCell] using this, fun j hj => (Below.heap_setCell _ _ _ _ (by show j ≠ g; omega)).trans (Below.block h j hj)⟩
theorem below_sets {k g : Nat} (hk : k ≤ g) : ∀ (vs : List Value) (n : Nat) {w0 w : World}, Below k w0 w → Below k w0 (w.setCells g n vs)
  | [], _, _, _, h => h
  | v :: vs, n, _, _, h => below_sets hk vs (n + 1) (below_set1 h hk v)
theorem heap_sets {g k : Nat} (hk : k ≠ g) : ∀ (vs : List Value) (n : Nat) (w : World), (w.setCells g n vs).heap[k]? = w.heap[k]?
  | [], _, _ => rfl
  | _ :: vs, n, _ => (heap_sets hk vs (n + 1) _).trans (Below.heap_setCell _ _ _ _ hk)
theorem block_setCells {g t : Nat} {fr : Nat × Nat} (post : List Value) : ∀ (vs old pre : List Value) (w : World), old.length = vs.length → w.heap[g]? = some (.cells (pre ++ (old ++ post)).toArray t fr) → (w.setCells g pre.length vs).heap[g]? = some (.cells (pre ++ (vs ++ post)).toArray t fr)
  | [], [], pre, w, _, h => h
  | v :: vs, o :: old, pre, w, hl, h => by
    have h1 := block_setCell (n := pre.length) h v
    rw [List.set_append_right _ _ (Nat.le_refl _), Nat.sub_self] at h1
    have h2 : (w.setCell ⟨g, pre.length, none⟩ v).heap[g]? = some (.cells ((pre ++ [v]) ++ (old ++ post)).toArray t fr) := by rw [h1]; simp
    have ih := block_setCells post vs old (pre ++ [v]) (w.setCell ⟨g, pre.length, none⟩ v) (by simpa using hl) h2
    rw [List.length_append] at ih
    show ((w.setCell ⟨g, pre.length, none⟩ v).setCells g (pre.length + 1) vs).heap[g]? = _
    rw [show pre.length + 1 = pre.length + [v].length from rfl, ih]
    simp
  | [], _ :: _, _, _, hl, _ => by simp at hl
  | _ :: _, [], _, _, hl, _ => by simp at hl
theorem there_part {w : World} {g t : Nat} (pre old post : List Value) (h : w.heap[g]? = some (.cells (pre ++ (old ++ post)).toArray t (0, 0))) : w.there g pre.length old.length := fun j hj => by
  refine ⟨?_, ?_⟩
  · rw [cell_part (n := pre.length + j) (u := old[j]) h (by rw [List.getElem?_append_right (by omega), Nat.add_sub_cancel_left, List.getElem?_append_left hj, List.getElem?_eq_getElem hj])]
    rfl
  · simp [World.frozen?, h]
/-- A store into a part of a struct that lies in a block: the world behind it stays a letter. -/
theorem wpList_store_part {P : Program} {ops : Array Oper} {rest : List Oper} {o : Oper} {a : Act} {w : World} {Q : Exit → Act → World → Prop} (hgd : o.guard = none) (ty : TypeId) (x y : Operand) (ho : o.op = .store ty x y)
    (g n : Nat) (v : Value) (hx : a.eval x = .pointer (some ⟨g, n, none⟩)) (hy : a.eval y = v)
    (t : TypeId) (pre old vs post : List Value) (hv : v.cells = vs.toArray) (hn : pre.length = n) (hg : w.heap[g]? = some (.cells (pre ++ (old ++ post)).toArray t (0, 0))) (hi : (P.info? ty).map (·.size) = some vs.length)
    (hold : old.length = vs.length) (h1 : ∀ u ∈ vs, u.oneCell' = true)
    (h : ∀ w', Hid (w'.heap[g]? = some (.cells (pre ++ (vs ++ post)).toArray t (0, 0))) → Hid (∀ k, k ≠ g → w'.heap[k]? = w.heap[k]?) → (∀ k w0, k ≤ g → Below k w0 w → Below k w0 w') → wpList P ops Q rest (a.put o.dst undef) w') : wpList P ops Q (o :: rest) a w :=
  wpList_plain hgd fun K hK => by
    subst hn
    have ht := there_part pre old post hg
    rw [hold] at ht
    have hr : (storeVar ty ⟨g, pre.length, none⟩ v).run P w = .ok () (w.setCells g pre.length vs) := by
      have := run_storeCells_cells (P := P) g pre.length vs 0 w (fun j hj => by simpa using (ht j hj).1) (fun j hj => by simpa using (ht j hj).2) h1
      cases hq : P.info? ty with
      | none => simp [hq] at hi
      | some i =>
        have hs : vs.length = i.size := by simp [hq] at hi; omega
        simp only [Nat.add_zero] at this
        simp [storeVar, sizeOf, typeInfo, hq, hv, hs, this]
    unfold Oper.wp execOp
    simp only [ho, hx, hy, Instr.storeAt, Instr.sureAddr, Sem.run_bind, Sem.run_pure, Result.andThen_ok, hr]
    exact hK _ _ (h _ (show _ = _ from block_setCells post vs old pre w hold hg) (show _ from fun k hk => heap_sets hk vs _ w) fun k w0 hk hb => below_sets hk vs _ hb)
theorem results_cell2 {P : Program} {fn : Func} {p1 p2 q : Tmp} {ty1 ty2 : TypeId} (h : fn.results = #[.cell p1 ty1, .cell p2 ty2, .tmp q]) (tmps : Array Value) (w : World) (g1 g2 : Nat) (t1 t2 : TypeId) (cs1 cs2 : Array Value) (fr1 fr2 : Nat × Nat) (d1 d2 : TypeDesc)
    (hp1 : tmps.getD p1 undef = .pointer (some ⟨g1, 0, none⟩)) (hp2 : tmps.getD p2 undef = .pointer (some ⟨g2, 0, none⟩)) (hg1 : w.heap[g1]? = some (.cells cs1 t1 fr1)) (hg2 : w.heap[g2]? = some (.cells cs2 t2 fr2))
    (hu1 : P.underlying ty1 = some d1) (hd1 : (match d1 with | .struct _ | .array _ _ => true | _ => false) = true) (hi1 : (P.info? ty1).map (·.size) = some cs1.size)
    (hu2 : P.underlying ty2 = some d2) (hd2 : (match d2 with | .struct _ | .array _ _ => true | _ => false) = true) (hi2 : (P.info? ty2).map (·.size) = some cs2.size) :
    (results fn tmps).run P w = .ok (.tuple #[.agg cs1, .agg cs2, tmps.getD q undef]) w := by
  have hp1' : tmps[p1]?.getD undef = .pointer (some ⟨g1, 0, none⟩) := by simpa using hp1
  have hp2' : tmps[p2]?.getD undef = .pointer (some ⟨g2, 0, none⟩) := by simpa using hp2
  simp [results, h, hp1', hp2', asAddr, run_loadVar_row w g1 t1 ty1 cs1 fr1 d1 hg1 hu1 hd1 hi1, run_loadVar_row w g2 t2 ty2 cs2 fr2 d2 hg2 hu2 hd2 hi2]
theorem results_tmp_cell_tmp {P : Program} {fn : Func} {p q r : Tmp} {ty : TypeId} (h : fn.results = #[.tmp r, .cell p ty, .tmp q]) (tmps : Array Value) (w : World) (g : Nat) (t : TypeId) (cs : Array Value) (fr : Nat × Nat) (d : TypeDesc)
    (hp : tmps.getD p undef = .pointer (some ⟨g, 0, none⟩)) (hg : w.heap[g]? = some (.cells cs t fr))
    (hu : P.underlying ty = some d) (hd : (match d with | .struct _ | .array _ _ => true | _ => false) = true) (hi : (P.info? ty).map (·.size) = some cs.size) :
    (results fn tmps).run P w = .ok (.tuple #[tmps.getD r undef, .agg cs, tmps.getD q undef]) w := by
  have hp' : tmps[p]?.getD undef = .pointer (some ⟨g, 0, none⟩) := by simpa using hp
  simp [results, h, hp', asAddr, run_loadVar_row w g t ty cs fr d hg hu hd hi]
section
variable {ops : Array Oper} {w0 : World} {Kd : Nat → Nat} {Q : Exit → Act → World → Prop} {n k : Nat} {o : Oper} {l : List Oper} {a : Act} {w : World}
end
theorem own_blk {w : World} {base g e : Nat} {xs : List Value} (hg : w.heap[g]? = some (.cells xs.toArray e (0, 0))) (hb : base ≤ g) (hm : xs.length ≤ maxLen) : w.ownsRow base e 1 (.slice (some ⟨g, 0, none⟩) xs.length xs.length) xs.length xs :=
  ⟨by simp, .inr ⟨g, xs.length, xs.toArray, rfl, hb, hg, Nat.le_refl _, hm, by simp, by simp⟩⟩
section
variable {P : Program} {ops : Array Oper} {C : World → Prop} {E : Nat → Bool} {Q : Exit → Act → World → Prop} {n k : Nat} {o : Oper} {l : List Oper} {a : Act} {w : World}
theorem lx_load_agg (hE : E k = false) (hw : Region.wanted o (yielded ops a.tmps) = true) (ty : TypeId) (x : Operand) (ho : o.op = .load ty x) (ad : Addr) (hx : a.eval x = .pointer (some ad)) (cs : Array Value)
    (hl : ∀ w', C w' → (loadVar ty ad).run P w' = .ok (.agg cs) w') (h : wpLx P ops C E Q n (k + 1) l (a.put o.dst (.agg cs)) w) : wpLx P ops C E Q (n + 1) k (o :: l) a w := by
  simp only [wpLx, stepL, hw, if_true, hE]
  refine ⟨.agg cs, fun w' hw' => .inl ?_, h⟩
  unfold execOp
  simp only [ho, hx, Instr.loadAt, Instr.sureAddr, Sem.run_bind, Sem.run_pure, Result.andThen_ok, hl w' hw']
end
/-- A source's cells. -/
def drawsL (seed : List (BitVec 8)) (N : Nat) : List Value := bv seed ++ [.int .u64 (N : Int)]
end Go.Proofs.Ytfgammcefaomeaa
/- draw.Check, derived, Next, Fork, New: what they hand back. -/
namespace Go.Proofs.Ytfgammcefaomeaa
open Go Go.RowKit
/-- A drawn secret, the source behind it, and why not. -/
def drawS : List (BitVec 8) := [100, 114, 97, 119]
def nxE (N : Nat) : Int := if N < 4294967296 then 0 else if N = 4294967296 then 8 else 1
def nxK (seed : List (BitVec 8)) (N : Nat) : List (BitVec 8) := if N < 4294967296 then drvKey seed drawS [beL 8 N] else List.replicate 32 0
def nxS (seed : List (BitVec 8)) (N : Nat) : List (BitVec 8) := if N < 4294967296 then seed else List.replicate 32 0
def nxN (N : Nat) : Nat := if N < 4294967296 then N + 1 else 0
def NextSays (seed : List (BitVec 8)) (N : Nat) (w : World) (e : Ending) (w' : World) : Prop :=
  e = .returned (.tuple #[.agg (bv (nxK seed N)).toArray, .agg (drawsL (nxS seed N) (nxN N)).toArray, .int .i64 (nxE N)]) ∧ Aft w w'
theorem NextSays.good {seed X : List (BitVec 8)} {N : Nat} {w w' : World} (h : N < 4294967296) (hX : X = nxK seed N) (ha : Aft w w') : NextSays seed N w (.returned (.tuple #[.agg (bv X).toArray, .agg (drawsL seed (N + 1)).toArray, .int .i64 0])) w' := by
  subst hX
  refine ⟨?_, ha⟩
  have h1 : nxS seed N = seed := if_pos h
  have h2 : nxN N = N + 1 := if_pos h
  have h3 : nxE N = 0 := if_pos h
  rw [h1, h2, h3]
theorem NextSays.bad {seed : List (BitVec 8)} {N : Nat} {w w' : World} (h : ¬ N ≤ 4294967296) (ha : Aft w w') : NextSays seed N w (.returned (.tuple #[.agg (bv (List.replicate 32 0)).toArray, .agg (drawsL (List.replicate 32 0) 0).toArray, .int .i64 1])) w' := by
  refine ⟨?_, ha⟩
  have h0 : nxK seed N = List.replicate 32 0 := if_neg (by omega)
  have h1 : nxS seed N = List.replicate 32 0 := if_neg (by omega)
  have h2 : nxN N = 0 := if_neg (by omega)
  have h3 : nxE N = 1 := by unfold nxE; rw [if_neg (by omega), if_neg (by omega)]
  rw [h0, h1, h2, h3]
end Go.Proofs.Ytfgammcefaomeaa
/- coterielaw03.MacExpands: it answers true. -/
namespace Go.Proofs.Ytfgammcefaomeaa
open Go Go.RowKit
theorem wpList_load_rowG {P : Program} {ops : Array Oper} {rest : List Oper} {o : Oper} {a : Act} {w : World} {Q : Exit → Act → World → Prop} (hw : Region.wanted o (yielded ops a.tmps) = true) (ty : TypeId) (x : Operand) (ho : o.op = .load ty x)
    (g : Nat) (hx : a.eval x = .pointer (some ⟨g, 0, none⟩)) (t : TypeId) (cs : Array Value) (fr : Nat × Nat) (d : TypeDesc) (hg : w.heap[g]? = some (.cells cs t fr))
    (hu : P.underlying ty = some d) (hd : (match d with | .struct _ | .array _ _ => true | _ => false) = true) (hi : (P.info? ty).map (·.size) = some cs.size)
    (h : wpList P ops Q rest (a.put o.dst (.agg cs)) w) : wpList P ops Q (o :: rest) a w := by
  unfold wpList
  rw [if_pos hw]
  exact .inl (wp_noOut (wp_load_row ty x ho g hx t cs fr d hg hu hd hi h))
end Go.Proofs.Ytfgammcefaomeaa
/- A ledger of the blocks that a walk has made: what each holds now, by its number in the order of making. -/
namespace Go.Proofs.Ytfgammcefaomeaa
open Go Go.RowKit
structure Led (w0 w : World) (L : List (Nat × Obj)) : Prop where
  aft : Aft w0 w
  has : ∀ (i g : Nat) (o : Obj), L[i]? = some (g, o) → w.heap[g]? = some o ∧ w0.heap.size ≤ g
  inc : ∀ (i j g h : Nat) (o p : Obj), i < j → L[i]? = some (g, o) → L[j]? = some (h, p) → g < h
theorem Led.start (w : World) : Led w w [] := ⟨Aft.refl w, fun _ _ _ h => by simp at h, fun _ _ _ _ _ _ _ h => by simp at h⟩
theorem Led.get {w0 w : World} {L : List (Nat × Obj)} (h : Led w0 w L) (i : Nat) {g : Nat} {o : Obj} (hi : L[i]? = some (g, o)) : w.heap[g]? = some o := (h.has i g o hi).1
theorem Led.call {w0 w w' : World} {L : List (Nat × Obj)} (h : Led w0 w L) (ha : Aft w w') : Led w0 w' L :=
  ⟨Aft.trans h.aft ha, fun i g o hi => ⟨Aft.get ha (h.get i hi), (h.has i g o hi).2⟩, h.inc⟩
theorem Led.fresh {w0 w w' : World} {L : List (Nat × Obj)} {obj : Obj} {g0 : Nat} (h : Led w0 w L) (ha : Aft w w') (hle : w.heap.size ≤ g0) (hg : w'.heap[g0]? = some obj) : Led w0 w' (L ++ [(g0, obj)]) := by
  have hlt : ∀ (i g : Nat) (o : Obj), L[i]? = some (g, o) → g < w.heap.size := fun i g o hi => heap_lt (h.get i hi)
  have hsz := Below.size h.aft
  refine ⟨Aft.trans h.aft ha, fun i g o hi => ?_, fun i j g k o p hij hi hj => ?_⟩
  · by_cases hl : i < L.length
    · rw [List.getElem?_append_left hl] at hi
      exact ⟨Aft.get ha (h.get i hi), (h.has i g o hi).2⟩
    · rw [List.getElem?_append_right (by omega)] at hi
      have : i - L.length = 0 := by have := (List.getElem?_eq_some_iff.1 hi).1; simp at this; omega
      rw [this] at hi
      cases hi
      exact ⟨hg, by omega⟩
  · by_cases hl : j < L.length
    · rw [List.getElem?_append_left hl] at hj
      rw [List.getElem?_append_left (by omega)] at hi
      exact h.inc i j g k o p hij hi hj
    · rw [List.getElem?_append_right (by omega)] at hj
      have h0 : j - L.length = 0 := by have := (List.getElem?_eq_some_iff.1 hj).1; simp at this; omega
      rw [h0] at hj
      cases hj
      rw [List.getElem?_append_left (by omega)] at hi
      have := hlt i g o hi
      omega
theorem Led.alloc {w0 w w' : World} {L : List (Nat × Obj)} {obj : Obj} (h : Led w0 w L) (ha : Aft w w') (hg : w'.heap[w.heap.size]? = some obj) : Led w0 w' (L ++ [(w.heap.size, obj)]) := h.fresh ha (Nat.le_refl _) hg
theorem Led.store {w0 w w' : World} {L : List (Nat × Obj)} (h : Led w0 w L) (i : Nat) {g : Nat} {old new : Obj} (hi : L[i]? = some (g, old)) (h1 : Hid (w'.heap[g]? = some new)) (h2 : Hid (∀ k, k ≠ g → w'.heap[k]? = w.heap[k]?))
    (h3 : ∀ k w0, k ≤ g → Below k w0 w → Below k w0 w') : Led w0 w' (L.set i (g, new)) := by
  have hl : i < L.length := (List.getElem?_eq_some_iff.1 hi).1
  have hset : ∀ (j k : Nat) (o : Obj), (L.set i (g, new))[j]? = some (k, o) → ∃ o', L[j]? = some (k, o') ∧ (j ≠ i → o' = o) := by
    intro j k o hj
    by_cases hji : j = i
    · subst hji
      rw [List.getElem?_set_self hl] at hj
      cases hj
      exact ⟨old, hi, fun h => absurd rfl h⟩
    · rw [List.getElem?_set_ne (Ne.symm hji)] at hj
      exact ⟨o, hj, fun _ => rfl⟩
  refine ⟨h3 _ _ (h.has i g old hi).2 h.aft, fun j k o hj => ?_, fun j l k m o p hjl hj hp => ?_⟩
  · obtain ⟨o', ho, hoo⟩ := hset j k o hj
    refine ⟨?_, (h.has j k o' ho).2⟩
    by_cases hji : j = i
    · subst hji
      rw [List.getElem?_set_self hl] at hj
      cases hj
      exact h1
    · obtain rfl := hoo hji
      have hne : k ≠ g := by
        intro e
        subst e
        rcases Nat.lt_or_gt_of_ne hji with hlt | hlt
        · exact absurd (h.inc j i k k _ _ hlt ho hi) (Nat.lt_irrefl _)
        · exact absurd (h.inc i j k k _ _ hlt hi ho) (Nat.lt_irrefl _)
      exact (h2 k hne).trans (h.get j ho)
  · obtain ⟨o', ho, -⟩ := hset j k o hj
    obtain ⟨p', hp', -⟩ := hset l m p hp
    exact h.inc j l k m o' p' hjl ho hp'
theorem Led.tab {w0 w : World} {L : List (Nat × Obj)} {b : Nat} (h : Led w0 w L) (hK : TabK K0 b w0) : TabK K0 b w := TabK_fr hK (Fr.of_below (S := fun _ => False) h.aft) (fun h => h)
theorem Led.le {w0 w : World} {L : List (Nat × Obj)} (h : Led w0 w L) (i : Nat) {g : Nat} {o : Obj} (hi : L[i]? = some (g, o)) : w0.heap.size ≤ g := (h.has i g o hi).2
/-- A struct, built: its value by an equation. -/
theorem wpList_buildO {P : Program} {ops : Array Oper} {rest : List Oper} {o : Oper} {a : Act} {w : World} {Q : Exit → Act → World → Prop} (hw : Region.wanted o (yielded ops a.tmps) = true) (ty : TypeId) (parts : Array (Nat × Operand)) (ho : o.op = .build ty parts) (vs : Array (Nat × Value))
    (hp : (parts.map fun (i, x) => (i, a.eval x)) = vs) (v : Value) (hv : ∀ w1, (Instr.build ty vs).run P w1 = .ok v w1) (h : wpList P ops Q rest (a.put o.dst v) w) : wpList P ops Q (o :: rest) a w := by
  unfold wpList
  rw [if_pos hw]
  refine .inl (wp_noOut ?_)
  unfold Oper.wp execOp
  simp only [ho, hp, Sem.run_bind, hv, Result.andThen_ok, Sem.run_pure]
  exact h
end Go.Proofs.Ytfgammcefaomeaa
/- sched.Enter, and the document's: what an epoch is, entered. -/
namespace Go.Proofs.Ytfgammcefaomeaa
open Go Go.RowKit
theorem Led.same {w0 w w' : World} {L : List (Nat × Obj)} (h : Led w0 w L) {g : Nat} {o : Obj} (h0 : w0.heap[g]? = some o) (h1 : Hid (w'.heap[g]? = some o)) (h2 : Hid (∀ k, k ≠ g → w'.heap[k]? = w.heap[k]?)) (h3 : ∀ k w0, k ≤ g → Below k w0 w → Below k w0 w') : Led w0 w' L := by
  have hz := h3 0 w0 (Nat.zero_le _) ⟨h.aft.os, h.aft.tape, h.aft.output, h.aft.size, fun k hk => absurd hk (Nat.not_lt_zero _)⟩
  refine ⟨⟨hz.os, hz.tape, hz.output, hz.size, fun k hk => ?_⟩, fun i g' o' hi => ?_, h.inc⟩
  · by_cases e : k = g
    · subst e
      exact h1.out.trans h0.symm
    · exact (h2.out k e).trans (h.aft.block k hk)
  · have hge := (h.has i g' o' hi).2
    have hlt := heap_lt h0
    exact ⟨(h2.out g' (by omega)).trans (h.get i hi), hge⟩
theorem alloc_errno (w : World) : (Instr.alloc 31 true (.tuple #[])).run Try.prog w = .ok (.pointer (some ⟨w.heap.size, 0, none⟩)) (w.alloc (.cells #[.int .i64 0] 31)) := by kernel_rfl
theorem wpList_store_errno {ops : Array Oper} {rest : List Oper} {o : Oper} {a : Act} {w : World} {Q : Exit → Act → World → Prop} (hgd : o.guard = none) (x y : Operand) (ho : o.op = .store 31 x y) (g : Nat) (u : Int)
    (hx : a.eval x = .pointer (some ⟨g, 0, none⟩)) (hy : a.eval y = .int .i64 u) (old : Int) (hg : w.heap[g]? = some (.cells #[.int .i64 old] 31 (0, 0)))
    (h : ∀ w', Hid (w'.heap[g]? = some (.cells #[.int .i64 u] 31 (0, 0))) → Hid (∀ k, k ≠ g → w'.heap[k]? = w.heap[k]?) → (∀ k w0, k ≤ g → Below k w0 w → Below k w0 w') → wpList Try.prog ops Q rest (a.put o.dst undef) w') : wpList Try.prog ops Q (o :: rest) a w :=
  wpList_store_part hgd _ x y ho g 0 (.int .i64 u) hx hy 31 [] [.int .i64 old] [.int .i64 u] [] rfl rfl hg (by kernel_rfl) rfl (fun v hv => by simp at hv; subst hv; rfl) h
end Go.Proofs.Ytfgammcefaomeaa
/- Slices of keys: how they read, and how one comes in. -/
namespace Go.Proofs.Ytfgammcefaomeaa
open Go Go.RowKit
def ksL (ks : List (List (BitVec 8))) : List Value := (ks.map bv).flatten
theorem ksL_cons (k : List (BitVec 8)) (ks : List (List (BitVec 8))) : ksL (k :: ks) = bv k ++ ksL ks := by simp [ksL]
theorem ksL_length : ∀ {ks : List (List (BitVec 8))} (_ : ∀ k ∈ ks, k.length = 32), (ksL ks).length = ks.length * 32
  | [], _ => rfl
  | k :: ks, h => by
    rw [ksL_cons, List.length_append, bv_length, h k (by simp), ksL_length (fun x hx => h x (by simp [hx])), List.length_cons]
    omega
theorem ksL_at : ∀ {ks : List (List (BitVec 8))} (_ : ∀ k ∈ ks, k.length = 32) (i j : Nat), i < ks.length → j < 32 → (ksL ks)[i * 32 + j]? = (bv (ks.getD i []))[j]?
  | [], _, i, j, hi, _ => by simp at hi
  | k :: ks, h, 0, j, _, hj => by
    rw [ksL_cons, Nat.zero_mul, Nat.zero_add, List.getElem?_append_left (by rw [bv_length, h k (by simp)]; exact hj)]
    rfl
  | k :: ks, h, i + 1, j, hi, hj => by
    have h1 : (bv k).length = 32 := by rw [bv_length, h k (by simp)]
    rw [ksL_cons, List.getElem?_append_right (by rw [h1]; omega), h1, show (i + 1) * 32 + j - 32 = i * 32 + j by omega, ksL_at (fun x hx => h x (by simp [hx])) i j (by simpa using hi) hj]
    rfl
/-- A slice of keys reads as a list of keys. -/
def RdK (w : World) (v : Value) (ks : List (List (BitVec 8))) : Prop :=
  ∃ ao cap, v = .slice ao ks.length cap ∧ ks.length ≤ cap ∧ cap ≤ 9223372036854775807 ∧ (ao = none → cap = 0) ∧ (∀ k ∈ ks, k.length = 32) ∧ ∀ ad, ao = some ad → ∀ i, i < ks.length → Rd w (.slice (some (ad.add (i * 32))) 32 32) (bv (ks.getD i []))
theorem RdK.nil (w : World) : RdK w (.slice none 0 0) [] := ⟨none, 0, rfl, Nat.le_refl _, by omega, fun _ => rfl, fun _ h => (by simp at h), fun _ h => (by cases h)⟩
theorem RdK.grow {w w' : World} {v : Value} {ks : List (List (BitVec 8))} (h : RdK w v ks) (hb : Aft w w') : RdK w' v ks := by
  obtain ⟨ao, cap, rfl, h1, h2, h3, h4, h5⟩ := h
  exact ⟨ao, cap, rfl, h1, h2, h3, h4, fun ad ha i hi => (h5 ad ha i hi).grow hb⟩
theorem RdK.shape {w : World} {v : Value} {ks : List (List (BitVec 8))} (h : RdK w v ks) : ∃ ao cap, v = .slice ao ks.length cap ∧ ks.length ≤ 9223372036854775807 ∧ ∀ k ∈ ks, k.length = 32 := by
  obtain ⟨ao, cap, rfl, h1, h2, h3, h4, h5⟩ := h
  exact ⟨ao, cap, rfl, by omega, h4⟩
/-- An element: where it lies, and what it reads as. -/
theorem RdK.at {w : World} {v : Value} {ks : List (List (BitVec 8))} (h : RdK w v ks) {i : Nat} (hi : i < ks.length) :
    ∃ g o cap, v = .slice (some ⟨g, o, none⟩) ks.length cap ∧ (ks.getD i []).length = 32 ∧ Rd w (.slice (some ⟨g, o + i * 32, none⟩) 32 32) (bv (ks.getD i [])) := by
  obtain ⟨ao, cap, rfl, h1, h2, h3, h4, h5⟩ := h
  have hk : (ks.getD i []).length = 32 := by
    rw [List.getD_eq_getElem?_getD, List.getElem?_eq_getElem hi]
    exact h4 _ (List.getElem_mem hi)
  cases ao with
  | none => have := h3 rfl; omega
  | some ad =>
    have h0 : (ks.getD 0 []).length = 32 := by
      rw [List.getD_eq_getElem?_getD, List.getElem?_eq_getElem (by omega)]
      exact h4 _ (List.getElem_mem _)
    obtain ⟨g, o, c, he, -⟩ := (h5 ad rfl 0 (by omega)).at (by rw [bv_length, h0]; omega)
    injection he with he
    obtain rfl : ad = ⟨g, o, none⟩ := by
      have := Option.some.inj he
      rwa [show ad.add (0 * 32) = ad from rfl] at this
    have h6 := h5 _ rfl i hi
    rw [Addr.add_lit] at h6
    exact ⟨g, o, cap, rfl, hk, h6⟩
/-- The cells of all. -/
theorem RdK.cells {w : World} {ad : Addr} {n cap : Nat} {ks : List (List (BitVec 8))} (h : RdK w (.slice (some ad) n cap) ks) : ∀ j u, (ksL ks)[j]? = some u → w.cell? (ad.add j) = some u := by
  obtain ⟨ao, cap, he, h1, h2, h3, h4, h5⟩ := h
  intro j u hu
  have hL := ksL_length h4
  have hj : j < ks.length * 32 := by
    have := (List.getElem?_eq_some_iff.1 hu).1
    omega
  injection he with ha
  obtain ⟨a2, c2, e2, r1, r2, r3, r4⟩ := h5 ad ha.symm (j / 32) (by omega)
  have hd := ksL_at h4 (j / 32) (j % 32) (by omega) (Nat.mod_lt _ (by omega))
  rw [show j / 32 * 32 + j % 32 = j by omega] at hd
  injection e2 with e2
  have := r4 _ e2.symm (j % 32) u (hd.symm.trans hu)
  rwa [Deep.add_add, show j / 32 * 32 + j % 32 = j by omega] at this
end Go.Proofs.Ytfgammcefaomeaa
namespace Go.Proofs.Ytfgammcefaomeaa
open Go Go.RowKit Go.ChangeShapes Go.WideShapes Go.ChangeAt
section
variable {H : Type} {enc : TypeId × Value → H} {w : World} {base : Nat} {spare : Nat → Bool} {held : Bool}
end
end Go.Proofs.Ytfgammcefaomeaa
/- As the walk of a region that draws its order (wp_region_lexF), but one operation (number sp) may hand back whatever answers R, with a world of its own behind it: a conversion of a string, a call that is not ordered with another one. -/
namespace Go.Proofs.Ytfgammcefaomeaa
open Go Go.RowKit
section
variable {P : Program} {ops : Array Oper} {w0 : World} {Kd : Nat → Nat} {sp : Nat} {R : World → Value → Prop}
/-- What the special operation does. -/
def mkR (P : Program) (w0 : World) (R : World → Value → Prop) (o : Oper) (a : Act) : Prop := (∀ w w' v, Aft w w' → R w v → R w' v) ∧ ∀ w1, Aft w0 w1 → ∃ v w2, (execOp a.eval o).run P w1 = .ok (.value v) w2 ∧ Aft w1 w2 ∧ R w2 v
/-- What a value is, wherever in the order it is made. -/
def Spec (P : Program) (w0 : World) (kd : Nat) (special : Bool) (R : World → Value → Prop) (o : Oper) (a : Act) (S : World → Value → Prop) : Prop :=
  if special = true ∧ kd = 1 then S = R ∧ mkR P w0 R o a
  else ∃ ob F, S = (fun w v => ∃ g, holds w0 g w ob ∧ v = F g) ∧ (kd = 0 → ob = none) ∧ ∀ w1, Aft w0 w1 → pAt P o a w1 F ob
theorem mkR_put {o : Oper} (hs : ∀ cs b, o.op ≠ .select cs b) {a : Act} {dst : Option Tmp} {u : Value} (h1 : ∀ d, dst = some d → d ∉ o.looksAt ops) : mkR P w0 R o (a.put dst u) ↔ mkR P w0 R o a := by
  unfold mkR
  rw [execOp_put (ops := ops) o hs a dst u h1]
theorem mkR_defers {o : Oper} {a : Act} (b : List Deferred) : mkR P w0 R o { a with defers := b } ↔ mkR P w0 R o a := by
  have e : (({ a with defers := b } : Act).eval) = a.eval := by funext x; cases x <;> rfl
  unfold mkR
  rw [e]
theorem Spec_put {kd : Nat} {sb : Bool} {S : World → Value → Prop} {o : Oper} (hs : ∀ cs b, o.op ≠ .select cs b) {a : Act} {dst : Option Tmp} {u : Value} (h1 : ∀ d, dst = some d → d ∉ o.looksAt ops) : Spec P w0 kd sb R o (a.put dst u) S ↔ Spec P w0 kd sb R o a S := by
  unfold Spec
  split
  · rw [mkR_put (ops := ops) hs h1]
  · simp only [pAt_put (ops := ops) hs h1]
theorem Spec_defers {kd : Nat} {sb : Bool} {S : World → Value → Prop} {o : Oper} {a : Act} (b : List Deferred) : Spec P w0 kd sb R o { a with defers := b } S ↔ Spec P w0 kd sb R o a S := by
  unfold Spec
  split
  · rw [mkR_defers b]
  · simp only [pAt_defers b]
theorem Spec_unique {kd : Nat} {sb : Bool} {S S' : World → Value → Prop} {o : Oper} {a : Act} (h : Spec P w0 kd sb R o a S) (k : Spec P w0 kd sb R o a S') {w : World} {v : Value} (hv : S w v) : S' w v := by
  unfold Spec at h k
  split at h
  · rename_i hc
    rw [if_pos hc] at k
    rw [k.1, ← h.1]
    exact hv
  · rename_i hc
    rw [if_neg hc] at k
    obtain ⟨ob, F, rfl, -, h⟩ := h
    obtain ⟨ob', F', rfl, -, k⟩ := k
    obtain ⟨rfl, hF⟩ := pAt_unique h k
    obtain ⟨g, hg, rfl⟩ := hv
    exact ⟨g, hg, hF g w hg⟩
theorem Spec_up {kd : Nat} {sb : Bool} {S : World → Value → Prop} {o : Oper} {a : Act} (h : Spec P w0 kd sb R o a S) {w w' : World} {v : Value} (ha : Aft w w') (hv : S w v) : S w' v := by
  unfold Spec at h
  split at h
  · obtain ⟨rfl, h, -⟩ := h
    exact h _ _ _ ha hv
  · obtain ⟨ob, F, rfl, -, -⟩ := h
    obtain ⟨g, hg, rfl⟩ := hv
    exact ⟨g, hg.aft ha, rfl⟩
theorem Spec_zero {sb : Bool} {S : World → Value → Prop} {o : Oper} {a : Act} (h : Spec P w0 0 sb R o a S) : ∃ v0, (∀ w, S w v0) ∧ ∀ w v, S w v → v = v0 := by
  unfold Spec at h
  rw [if_neg (by simp)] at h
  obtain ⟨ob, F, rfl, hz, h⟩ := h
  obtain rfl := hz rfl
  refine ⟨F 0, fun w => ⟨0, trivial, rfl⟩, fun w v hv => ?_⟩
  obtain ⟨g, -, rfl⟩ := hv
  exact qAt_unique (h w0 (Aft.refl _) g) (h w0 (Aft.refl _) 0)
theorem Spec_now {kd : Nat} {sb : Bool} {S : World → Value → Prop} {o : Oper} {a : Act} (h : Spec P w0 kd sb R o a S) {w : World} (hC : Aft w0 w) : ∃ w1 v, Aft w w1 ∧ S w1 v := by
  unfold Spec at h
  split at h
  · obtain ⟨rfl, -, h⟩ := h
    obtain ⟨v, w2, -, h2, h3⟩ := h w hC
    exact ⟨w2, v, h2, h3⟩
  · obtain ⟨ob, F, rfl, -, -⟩ := h
    obtain ⟨w1, hw, g, hg⟩ := holds_now hC ob
    exact ⟨w1, F g, hw, g, hg, rfl⟩
theorem Spec_wp {kd : Nat} {sb : Bool} {S : World → Value → Prop} {o : Oper} {a : Act} {K : Act → World → Prop} (h : Spec P w0 kd sb R o a S) {w : World} (hC : Aft w0 w) (hk : ∀ w1 v, Aft w w1 → S w1 v → K (a.put o.dst v) w1) : o.wp P a w K noOut := by
  unfold Spec at h
  split at h
  · obtain ⟨rfl, -, h⟩ := h
    obtain ⟨v, w2, h1, h2, h3⟩ := h w hC
    unfold Oper.wp
    rw [h1]
    exact hk w2 v h2 h3
  · obtain ⟨ob, F, rfl, -, hv⟩ := h
    cases ob with
    | none => exact qAt_wp (hv w hC 0) (hk w _ (Aft.refl _) ⟨0, trivial, rfl⟩)
    | some obj =>
      have hf := hv w hC
      unfold pAt fAt at hf
      unfold Oper.wp
      rw [hf]
      exact hk _ _ (Aft.alloc _ _) ⟨_, ⟨Below.size hC, heap_alloc_new _ _⟩, rfl⟩
/-- One operation of the prefix. -/
def stepG (P : Program) (ops : Array Oper) (w0 : World) (sp : Nat) (R : World → Value → Prop) (Kd : Nat → Nat) (i : Nat) (o : Oper) (K : Act → World → Prop) (a : Act) (w : World) : Prop :=
  if Region.wanted o (yielded ops a.tmps) = true then
    (if 2 ≤ Kd i then ∀ w1, Aft w w1 → o.wp P a w1 (fun a' w' => Leaves w0 (Kd i) w1 w' ∧ K a' w') noOut
     else ∃ S, Spec P w0 (Kd i) (i == sp) R o a S ∧ ∀ w1 v, Aft w w1 → S w1 v → K (a.put o.dst v) w1)
  else K (a.put o.dst undef) w
theorem stepG_up {i : Nat} {o : Oper} {K : Act → World → Prop} (hK : Up K) : Up (stepG P ops w0 sp R Kd i o K) := by
  intro a w w1 hw h
  unfold stepG at *
  split
  · rename_i hg
    rw [if_pos hg] at h
    split
    · rename_i he
      rw [if_pos he] at h
      exact fun w2 h2 => h w2 (hw.trans h2)
    · rename_i he
      rw [if_neg he] at h
      obtain ⟨S, hS, h2⟩ := h
      exact ⟨S, hS, fun w2 v hw2 hv => h2 w2 v (hw.trans hw2) hv⟩
  · rename_i hg
    rw [if_neg hg] at h
    exact hK _ _ _ hw h
theorem stepG_mono {i : Nat} {o : Oper} {K K' : Act → World → Prop} (h : ∀ a w, Aft w0 w → K a w → K' a w) {a : Act} {w : World} (hC : Aft w0 w) (hs : stepG P ops w0 sp R Kd i o K a w) : stepG P ops w0 sp R Kd i o K' a w := by
  unfold stepG at *
  split
  · rename_i hw
    rw [if_pos hw] at hs
    split
    · rename_i he
      rw [if_pos he] at hs
      exact fun w1 h1 => Oper.wp_mono (fun a w ⟨c, k⟩ => ⟨c, h a w (c.base (hC.trans h1)) k⟩) (hs w1 h1)
    · rename_i he
      rw [if_neg he] at hs
      obtain ⟨S, hS, h2⟩ := hs
      exact ⟨S, hS, fun w1 v hw1 hv => h _ _ (hC.trans hw1) (h2 w1 v hw1 hv)⟩
  · rename_i hw
    rw [if_neg hw] at hs
    exact h _ _ hC hs
theorem stepG_swap {i j : Nat} {oi oj : Oper} (hsi : ∀ cs b, oi.op ≠ .select cs b) (hsj : ∀ cs b, oj.op ≠ .select cs b) (hap : oi.apart ops oj = true) (hE : (2 ≤ Kd j → Kd i = 0) ∧ (Kd i = 3 → Kd j = 0))
    {K : Act → World → Prop} {a : Act} {w : World} (hC : Aft w0 w) (hK : Up K) (h : stepG P ops w0 sp R Kd i oi (stepG P ops w0 sp R Kd j oj K) a w) : stepG P ops w0 sp R Kd j oj (stepG P ops w0 sp R Kd i oi K) a w := by
  obtain ⟨h1, h2, h3⟩ := Oper.apart_spec hap
  have h2' : ∀ d, oj.dst = some d → oi.dst ≠ some d := fun d hd he => h2 d he hd
  have wj : ∀ (a : Act) v, Region.wanted oj (yielded ops (a.put oi.dst v).tmps) = Region.wanted oj (yielded ops a.tmps) := fun a v => wanted_put oj a oi.dst v h1
  have wi : ∀ (a : Act) v, Region.wanted oi (yielded ops (a.put oj.dst v).tmps) = Region.wanted oi (yielded ops a.tmps) := fun a v => wanted_put oi a oj.dst v h3
  have pc : ∀ (a : Act) v u, (a.put oi.dst v).put oj.dst u = (a.put oj.dst u).put oi.dst v := fun a v u => Act.put_comm a v u h2
  by_cases hwi : Region.wanted oi (yielded ops a.tmps) = true
  · by_cases hei : 2 ≤ Kd i
    · have hej : ¬ 2 ≤ Kd j := by omega
      unfold stepG at h
      rw [if_pos hwi, if_pos hei] at h
      by_cases hwj : Region.wanted oj (yielded ops a.tmps) = true
      · have key : ∀ b v w', stepG P ops w0 sp R Kd j oj K (({ a with defers := b } : Act).put oi.dst v) w' → ∃ S, Spec P w0 (Kd j) (j == sp) R oj a S ∧ ∀ w1 u, Aft w' w1 → S w1 u → K ((({ a with defers := b } : Act).put oi.dst v).put oj.dst u) w1 := by
          intro b v w' hs
          unfold stepG at hs
          rw [if_pos (by rw [wj]; exact hwj), if_neg hej] at hs
          obtain ⟨S, hS, hk⟩ := hs
          exact ⟨S, (Spec_defers b).1 ((Spec_put (ops := ops) hsj h1).1 hS), hk⟩
        obtain ⟨b, v, w', hs⟩ := wp_some (h w (Aft.refl _))
        obtain ⟨S, hS, _⟩ := key b v w' hs.2
        unfold stepG
        rw [if_pos hwj, if_neg hej]
        refine ⟨S, hS, fun w1 u hw1 hu => ?_⟩
        rw [if_pos (by rw [wi]; exact hwi), if_pos hei]
        intro w2 hw2
        refine (wp_put (ops := ops) hsi h3 h2').2 (wp_mono_put (fun b v w' hs => ?_) (h w2 (hw1.trans hw2)))
        obtain ⟨hc, hs⟩ := hs
        obtain ⟨S', hS', hk⟩ := key b v w' hs
        refine ⟨hc, hk w' u (Aft.refl _) (Spec_unique hS hS' ?_)⟩
        by_cases h3 : Kd i = 3
        · rw [hE.2 h3] at hS
          obtain ⟨v0, hv0, hv1⟩ := Spec_zero hS
          rw [hv1 _ _ hu]
          exact hv0 _
        · unfold Leaves at hc
          rw [if_neg h3] at hc
          exact Spec_up hS (hw2.trans hc) hu
      · unfold stepG
        rw [if_neg hwj, if_pos (by rw [wi]; exact hwi), if_pos hei]
        intro w1 hw1
        refine (wp_put (ops := ops) hsi h3 h2').2 (wp_mono_put (fun b v w' hs => ?_) (h w1 hw1))
        obtain ⟨hc, hs⟩ := hs
        rw [if_neg (by rw [wj]; exact hwj)] at hs
        exact ⟨hc, hs⟩
    · unfold stepG at h
      rw [if_pos hwi, if_neg hei] at h
      obtain ⟨S, hS, h⟩ := h
      by_cases hwj : Region.wanted oj (yielded ops a.tmps) = true
      · by_cases hej : 2 ≤ Kd j
        · have hki : Kd i = 0 := hE.1 hej
          have hS0 := hS
          rw [hki] at hS0
          obtain ⟨v0, hv0, hv1⟩ := Spec_zero hS0
          unfold stepG
          rw [if_pos hwj, if_pos hej]
          intro w1 hw1
          have h4 := h w1 v0 hw1 (hv0 _)
          rw [if_pos (by rw [wj]; exact hwj), if_pos hej] at h4
          refine wp_mono_put (fun b u w' hs => ?_) ((wp_put (ops := ops) hsj h1 h2).1 (h4 w1 (Aft.refl _)))
          obtain ⟨hc, hk⟩ := hs
          refine ⟨hc, ?_⟩
          rw [if_pos (by rw [wi]; exact hwi), if_neg hei]
          refine ⟨S, (Spec_put (ops := ops) hsi h3).2 ((Spec_defers b).2 hS), fun w2 v hw2 hv => ?_⟩
          rw [hv1 _ _ hv]
          exact hK _ _ _ hw2 hk
        · obtain ⟨wn, vn, hwn, hvn⟩ := Spec_now hS hC
          have h4 := h wn vn hwn hvn
          rw [if_pos (by rw [wj]; exact hwj), if_neg hej] at h4
          obtain ⟨Sj, hj1, _⟩ := h4
          have hj2 := (Spec_put (ops := ops) hsj h1).1 hj1
          unfold stepG
          rw [if_pos hwj, if_neg hej]
          refine ⟨Sj, hj2, fun w1 u hw1 hu => ?_⟩
          rw [if_pos (by rw [wi]; exact hwi), if_neg hei]
          refine ⟨S, (Spec_put (ops := ops) hsi h3).2 hS, fun w2 v hw2 hv => ?_⟩
          have h5 := h w2 v (hw1.trans hw2) hv
          rw [if_pos (by rw [wj]; exact hwj), if_neg hej] at h5
          obtain ⟨Sj', hj3, hj4⟩ := h5
          rw [← pc]
          exact hj4 w2 u (Aft.refl _) (Spec_unique hj2 ((Spec_put (ops := ops) hsj h1).1 hj3) (Spec_up hj2 hw2 hu))
      · unfold stepG
        rw [if_neg hwj, if_pos (by rw [wi]; exact hwi), if_neg hei]
        refine ⟨S, (Spec_put (ops := ops) hsi h3).2 hS, fun w2 v hw2 hv => ?_⟩
        have h5 := h w2 v hw2 hv
        rw [if_neg (by rw [wj]; exact hwj)] at h5
        rw [← pc]
        exact h5
  · unfold stepG at h
    rw [if_neg hwi] at h
    unfold stepG
    by_cases hwj : Region.wanted oj (yielded ops a.tmps) = true
    · rw [if_pos (by rw [wj]; exact hwj)] at h
      rw [if_pos hwj]
      by_cases hej : 2 ≤ Kd j
      · rw [if_pos hej] at h ⊢
        intro w1 hw1
        refine wp_mono_put (fun b u w' hs => ?_) ((wp_put (ops := ops) hsj h1 h2).1 (h w1 hw1))
        obtain ⟨hc, hk⟩ := hs
        refine ⟨hc, ?_⟩
        rw [if_neg (by rw [wi]; exact hwi)]
        exact hk
      · rw [if_neg hej] at h ⊢
        obtain ⟨S, hS, hk⟩ := h
        refine ⟨S, (Spec_put (ops := ops) hsj h1).1 hS, fun w2 u hw2 hu => ?_⟩
        rw [if_neg (by rw [wi]; exact hwi), ← pc]
        exact hk w2 u hw2 hu
    · rw [if_neg (by rw [wj]; exact hwj)] at h
      rw [if_neg hwj, if_neg (by rw [wi]; exact hwi), ← pc]
      exact h
/-- The prefix, in the order of the list; T behind it. -/
def wpGs (P : Program) (ops : Array Oper) (w0 : World) (sp : Nat) (R : World → Value → Prop) (Kd : Nat → Nat) (T : Act → World → Prop) : List Nat → Act → World → Prop
  | [], a, w => T a w
  | i :: l, a, w => match ops[i]? with
    | some o => stepG P ops w0 sp R Kd i o (wpGs P ops w0 sp R Kd T l) a w
    | none => False
theorem wpGs_up {T : Act → World → Prop} (hT : Up T) : ∀ l : List Nat, Up (wpGs P ops w0 sp R Kd T l)
  | [] => hT
  | i :: l => by
    intro a w w1 hw h
    simp only [wpGs] at h ⊢
    cases hi : ops[i]? with
    | none => rw [hi] at h; exact h.elim
    | some o =>
      rw [hi] at h
      exact stepG_up (wpGs_up hT l) a w w1 hw h
theorem wpGs_front {T : Act → World → Prop} (hT : Up T) (hs : ∀ (j : Nat) (o : Oper) cs b, ops[j]? = some o → o.op ≠ .select cs b) {j : Nat} {oj : Oper} (hj : ops[j]? = some oj) : ∀ (p q : List Nat) (a : Act) (w : World),
    (∀ i ∈ p, ∀ oi, ops[i]? = some oi → oi.apart ops oj = true ∧ ((2 ≤ Kd j → Kd i = 0) ∧ (Kd i = 3 → Kd j = 0))) → Aft w0 w → wpGs P ops w0 sp R Kd T (p ++ j :: q) a w → stepG P ops w0 sp R Kd j oj (wpGs P ops w0 sp R Kd T (p ++ q)) a w
  | [], q, a, w, _, _, h => by simpa [wpGs, hj] using h
  | i :: p, q, a, w, hp, hC, h => by
    simp only [List.cons_append, wpGs] at h
    cases hi : ops[i]? with
    | none => rw [hi] at h; exact h.elim
    | some oi =>
      rw [hi] at h
      simp only at h
      obtain ⟨hap, hE⟩ := hp i (by simp) oi hi
      have ih := stepG_mono (fun a w hc hk => wpGs_front hT hs hj p q a w (fun x hx => hp x (by simp [hx])) hc hk) hC h
      have := stepG_swap (hs i oi · · hi) (hs j oj · · hj) hap hE hC (wpGs_up hT (p ++ q)) ih
      refine stepG_mono (fun a w _ hk => ?_) hC this
      simp only [List.cons_append, wpGs, hi]
      exact hk
theorem stepG_wpOp {i : Nat} {o : Oper} (hi : ops[i]? = some o) {K K' : Act → World → Prop} {Q : Exit → Act → World → Prop} (h : ∀ a w, Aft w0 w → K a w → K' a w) {a : Act} {w : World} (hC : Aft w0 w) (hs : stepG P ops w0 sp R Kd i o K a w) : wpOp P ops Q i K' a w := by
  unfold stepG at hs
  unfold wpOp
  simp only [hi]
  split
  · rename_i hw
    rw [if_pos hw] at hs
    by_cases he : 2 ≤ Kd i
    · rw [if_pos he] at hs
      exact .inl (wp_noOut (Oper.wp_mono (fun a w ⟨c, k⟩ => h a w (c.base hC) k) (hs w (Aft.refl _))))
    · rw [if_neg he] at hs
      obtain ⟨S, hS, hk⟩ := hs
      exact .inl (wp_noOut (Spec_wp hS hC fun w1 v hw1 hv => h _ _ (hC.trans hw1) (hk w1 v hw1 hv)))
  · rename_i hw
    rw [if_neg hw] at hs
    exact h _ _ hC hs
/-- The prefix, in whatever order. -/
theorem lexG_prefix {M : Array Nat} {N : Nat} {Q : Exit → Act → World → Prop} (hs : Region.noSelect ops = true) (hM : maskOk ops M = true) (hp : pairsOk ops (fun i => Nat.ble 2 (Kd i)) N M = true) (hF : pairsF ops Kd M = true) (hN : N ≤ ops.size) : ∀ (fuel : Nat) (listed : Array Bool) (a : Act) (w : World), listed.size = ops.size → Closed ops listed →
    (∀ i, N ≤ i → i < ops.size → listed.getD i false = false) → Aft w0 w → (waiting listed N).length + (ops.size - N) ≤ fuel →
    wpGs P ops w0 sp R Kd (fun a w => ∀ w1, Aft w w1 → wpOps P ops Q (List.range' N (ops.size - N)) a w1) (waiting listed N) a w → wpAny P .any ops Q fuel listed a w := by
  have hT : Up (fun a w => ∀ w1, Aft w w1 → wpOps P ops Q (List.range' N (ops.size - N)) a w1) := fun a w w1 hw h w2 h2 => h w2 (hw.trans h2)
  intro fuel
  induction fuel with
  | zero =>
    intro listed a w hz hc hhi hC hf h
    have h0 : waiting listed N = [] := List.eq_nil_of_length_eq_zero (by omega)
    rw [h0] at h
    refine lex_tail (N := N) hM hp 0 N listed a w hz hc (fun i hi hi' => ?_) hhi (Nat.le_refl _) (by omega) (h w (Aft.refl _))
    cases hl : listed.getD i false with
    | true => rfl
    | false => have := (mem_waiting (listed := listed) (N := N) (by omega)).2 ⟨hi, hl⟩; rw [h0] at this; cases this
  | succ fuel ih =>
    intro listed a w hz hc hhi hC hf h
    cases hw : waiting listed N with
    | nil =>
      rw [hw] at h
      refine lex_tail (N := N) hM hp (fuel + 1) N listed a w hz hc (fun i hi hi' => ?_) hhi (Nat.le_refl _) (by rw [hw] at hf; simpa using hf) (h w (Aft.refl _))
      cases hl : listed.getD i false with
      | true => rfl
      | false => have := (mem_waiting (listed := listed) (N := N) (by omega)).2 ⟨hi, hl⟩; rw [hw] at this; cases this
    | cons k0 rest =>
      have hk0 := (mem_waiting (listed := listed) (N := N) (i := k0) (by omega)).1 (by rw [hw]; simp)
      have hsort := waiting_sorted listed N
      have hlow : ∀ i, i < k0 → listed.getD i false = true := by
        intro i hi
        cases hl : listed.getD i false with
        | true => rfl
        | false =>
          have hm := (mem_waiting (listed := listed) (N := N) (i := i) (by omega)).2 ⟨by omega, hl⟩
          rw [hw] at hm hsort
          rw [List.pairwise_cons] at hsort
          rcases List.mem_cons.1 hm with rfl | hm
          · omega
          · have := hsort.1 i hm; omega
      have hk0s : k0 < ops.size := by omega
      have ho0 : ops[k0]? = some ops[k0] := Array.getElem?_eq_getElem hk0s
      have hr : k0 ∈ Region.ready .any ops listed := mem_wait hz ho0 hk0.2 fun e he hb => hlow _ (edges_back hM ho0 e he hb)
      refine ⟨fun h0 => (by rw [h0] at hr; cases hr), fun i hi => ?_⟩
      obtain ⟨oi, hio, h0, he⟩ := ready_spec hz hi
      have hi' : i < ops.size := (Array.getElem?_eq_some_iff.1 hio).1
      have hbits : ∀ j, j < ops.size → (M.getD i 0).testBit j = true → listed.getD j false = true := mask_listed hM hc i oi hio he
      have hiN : i < N := by
        rcases Nat.lt_or_ge i N with h' | h'
        · exact h'
        · exfalso
          rcases pair_of hp hi' (show k0 < i by omega) with hb | ⟨hb, _⟩
          · have := hbits k0 (by omega) hb
            rw [hk0.2] at this
            cases this
          · omega
      have hmem := (mem_waiting (listed := listed) (N := N) (i := i) (by omega)).2 ⟨hiN, h0⟩
      obtain ⟨p, q, hpq⟩ := List.append_of_mem hmem
      have hfront := wpGs_front (Kd := Kd) hT (Region.noSelect_spec hs) hio p q a w (fun j hj oj hjo => by
        have hji : j < i := by
          have hs' := hsort
          rw [hpq, List.pairwise_append] at hs'
          exact hs'.2.2 j hj i (by simp)
        have hj0 := ((mem_waiting (listed := listed) (N := N) (i := j) (by omega)).1 (by rw [hpq]; simp [hj])).2
        rcases pair_of hp hi' hji with hb | ⟨_, hb⟩
        · have := hbits j (by omega) hb
          rw [hj0] at this
          cases this
        · refine ⟨(hb oj oi hjo hio).1, ?_⟩
          rcases pairF_of hF hi' hji with hb | hb
          · have := hbits j (by omega) hb
            rw [hj0] at this
            cases this
          · exact hb) hC (by rw [← hpq]; exact h)
      have hset := waiting_set (listed := listed) (N := N) (by omega) hpq
      refine stepG_wpOp hio (fun a w hc' hk => ih _ a w (by simp [hz]) (closed_set hc hio he) (fun j hj hjs => ?_) hc' ?_ ?_) hC hfront
      · rw [getD_set_ne false (by omega)]; exact hhi j hj hjs
      · rw [hset]; rw [hpq] at hf; simp at hf ⊢; omega
      · rw [hset]; exact hk
/-- The walk itself. -/
def wpGx (P : Program) (ops : Array Oper) (w0 : World) (sp : Nat) (R : World → Value → Prop) (Kd : Nat → Nat) (Q : Exit → Act → World → Prop) : Nat → Nat → List Oper → Act → World → Prop
  | 0, _, l, a, w => ∀ w1, Aft w w1 → wpList P ops Q l a w1
  | n + 1, k, o :: l, a, w => stepG P ops w0 sp R Kd k o (wpGx P ops w0 sp R Kd Q n (k + 1) l) a w
  | _ + 1, _, [], _, _ => False
theorem wpGx_up {Q : Exit → Act → World → Prop} : ∀ (n k : Nat) (l : List Oper), Up (wpGx P ops w0 sp R Kd Q n k l)
  | 0, _, l => fun a w w1 hw h w2 h2 => h w2 (hw.trans h2)
  | n + 1, k, o :: l => fun a w w1 hw h => by simp only [wpGx] at h ⊢; exact stepG_up (wpGx_up n (k + 1) l) a w w1 hw h
  | _ + 1, _, [] => fun _ _ _ _ h => by simp only [wpGx] at h
theorem wpGs_of_wpGx {Q : Exit → Act → World → Prop} : ∀ (n k : Nat) (l : List Oper) (a : Act) (w : World), Aft w0 w → (∀ j, l[j]? = ops[k + j]?) → n ≤ l.length → k + l.length = ops.size → wpGx P ops w0 sp R Kd Q n k l a w →
    wpGs P ops w0 sp R Kd (fun a w => ∀ w1, Aft w w1 → wpOps P ops Q (List.range' (k + n) (ops.size - (k + n))) a w1) (List.range' k n) a w
  | 0, k, l, a, w, hC, hl, _, hz, h => by
    simp only [List.range'_zero, wpGs, Nat.add_zero]
    simp only [wpGx] at h
    intro w1 hw1
    rw [show ops.size - k = l.length by omega, wpOps_eq_wpList l k hl]
    exact h w1 hw1
  | n + 1, k, [], a, w, _, _, hn, _, _ => by simp at hn
  | n + 1, k, o :: l, a, w, hC, hl, hn, hz, h => by
    have h0 : ops[k]? = some o := by simpa using (hl 0).symm
    simp only [wpGx] at h
    rw [List.range'_succ]
    simp only [wpGs, h0]
    have ih := fun a w hC => wpGs_of_wpGx (Q := Q) n (k + 1) l a w hC (fun j => by have := hl (j + 1); simpa [Nat.add_assoc, Nat.add_comm 1 j] using this) (by simpa using hn) (by simp at hz; omega)
    rw [show k + (n + 1) = k + 1 + n by omega]
    exact stepG_mono ih hC h
/-- **A REGION THAT DRAWS ITS ORDER IS WALKED ONCE.** Kd: 0 reads, 1 makes a block, 2 turns the world. -/
theorem wp_region_lexG {id : Nat} {Q : Exit → Act → World → Prop} {a : Act} {w : World} {l : List Oper} (sp : Nat) (R : World → World → Value → Prop) (Kd : Nat → Nat) (n : Nat) (hm : P.follows .mixedOrders = true)
    (hB : lexOKF l.toArray Kd n (Region.before l.toArray) = true) (h : ∀ w0, w0 = w.drew → wpGx P l.toArray w0 sp (R w0) Kd Q n 0 l a w0) : (Code.region id l.toArray true).wp P Q a w := by
  have h := h w.drew rfl
  simp only [lexOKF, lexOK, Bool.and_eq_true, decide_eq_true_eq] at hB
  obtain ⟨⟨⟨⟨hs, hM⟩, hp⟩, hN⟩, hF⟩ := hB
  have hN' : n ≤ l.length := by simpa using hN
  refine wp_region_any hm ?_
  have hw : waiting (Array.replicate l.toArray.size false) n = List.range n := by
    unfold waiting
    rw [List.filter_eq_self]
    intro i hi
    rw [List.mem_range] at hi
    have : i < l.length := by omega
    simp [this]
  have h1 := wpGs_of_wpGx (Kd := Kd) (sp := sp) (R := R w.drew) (ops := l.toArray) n 0 l a _ (Aft.refl _) (by simp) hN' (by simp) h
  rw [Nat.zero_add, ← List.range_eq_range'] at h1
  refine lexG_prefix (Kd := Kd) (sp := sp) (R := R w.drew) (w0 := w.drew) hs hM hp hF hN _ _ a _ (by simp) ?_ ?_ (Aft.refl _) ?_ ?_
  · intro k o _ hl
    exfalso
    have hk : ¬ (Array.replicate l.toArray.size false).getD k false = true := by
      by_cases hk : k < l.length <;> simp [hk]
    exact hk hl
  · intro i _ hi
    have hi' : i < l.length := by simpa using hi
    simp [hi']
  · rw [hw]; simp; omega
  · rw [hw]; exact h1
section
variable {Q : Exit → Act → World → Prop} {n k : Nat} {o : Oper} {l : List Oper} {a : Act} {w : World}
theorem lg_skip (_ : wpQuiet P ops (fun _ => False) (fun _ => True) [o] a) (hw : Region.wanted o (yielded ops a.tmps) = false) (h : wpGx P ops w0 sp R Kd Q n (k + 1) l (a.put o.dst undef) w) : wpGx P ops w0 sp R Kd Q (n + 1) k (o :: l) a w := by
  simp only [wpGx, stepG, hw]
  exact h
theorem Spec_none {sb : Bool} {v : Value} (h : ∀ w1, Aft w0 w1 → qAt P o a w1 v) : Spec P w0 0 sb R o a (fun w u => ∃ g : Nat, holds w0 g w none ∧ u = v) := by
  unfold Spec
  rw [if_neg (by simp)]
  exact ⟨none, fun _ => v, rfl, fun _ => rfl, fun w1 hw1 _ => h w1 hw1⟩
theorem lg_quiet (hk : Kd k = 0) (_ : wpQuiet P ops (fun _ => False) (fun _ => True) [o] a) (hw : Region.wanted o (yielded ops a.tmps) = true) (hv : isV o.op = true)
    (h : ∀ K : Act → Prop, (∀ a', wpGx P ops w0 sp R Kd Q n (k + 1) l a' w → K a') → o.quiet P a (fun w' => ∃ u : Later w0.heap.size w0, w' = u.w) K) : wpGx P ops w0 sp R Kd Q (n + 1) k (o :: l) a w := by
  obtain ⟨v, hq, hk2⟩ := h (fun a' => wpGx P ops w0 sp R Kd Q n (k + 1) l a' w) fun _ h => h
  simp only [wpGx, stepG, hw, if_true, hk]
  rw [if_neg (by omega)]
  exact ⟨_, Spec_none fun w' hw' => qAt_of_quietAt hv (hq w' ⟨⟨w', hw'⟩, rfl⟩), fun w1 u hw1 ⟨_, _, hu⟩ => by rw [hu]; exact wpGx_up _ _ _ _ _ _ hw1 hk2⟩
theorem lg_val (hk : Kd k = 0) (hw : Region.wanted o (yielded ops a.tmps) = true) (v : Value) (hv : ∀ w1, Aft w0 w1 → (execOp a.eval o).run P w1 = .ok (.value v) w1) (h : wpGx P ops w0 sp R Kd Q n (k + 1) l (a.put o.dst v) w) : wpGx P ops w0 sp R Kd Q (n + 1) k (o :: l) a w := by
  simp only [wpGx, stepG, hw, if_true, hk]
  rw [if_neg (by omega)]
  exact ⟨_, Spec_none fun w' hw' => .inl (hv w' hw'), fun w1 u hw1 ⟨_, _, hu⟩ => by rw [hu]; exact wpGx_up _ _ _ _ _ _ hw1 h⟩
theorem lg_fresh (obj : Obj) (F : Nat → Value) (hk : Kd k = 1) (hsp : (k == sp) = false) (hw : Region.wanted o (yielded ops a.tmps) = true) (hv : ∀ w1, (execOp a.eval o).run P w1 = .ok (.value (F w1.heap.size)) (w1.alloc obj))
    (h : ∀ w1 g, Aft w w1 → w0.heap.size ≤ g → w1.heap[g]? = some obj → wpGx P ops w0 sp R Kd Q n (k + 1) l (a.put o.dst (F g)) w1) : wpGx P ops w0 sp R Kd Q (n + 1) k (o :: l) a w := by
  simp only [wpGx, stepG, hw, if_true, hk]
  rw [if_neg (by omega)]
  refine ⟨fun w v => ∃ g, holds w0 g w (some obj) ∧ v = F g, ?_, fun w1 v hw1 ⟨g, hg, hv⟩ => by rw [hv]; exact h w1 g hw1 hg.1 hg.2⟩
  unfold Spec
  rw [if_neg (by rw [hsp]; simp)]
  exact ⟨some obj, F, rfl, (fun h => by cases h), fun w1 _ => hv w1⟩
/-- The special operation. -/
theorem lg_spec (hk : Kd k = 1) (hsp : (k == sp) = true) (hw : Region.wanted o (yielded ops a.tmps) = true) (hR : mkR P w0 R o a)
    (h : ∀ w1 v, Aft w w1 → R w1 v → wpGx P ops w0 sp R Kd Q n (k + 1) l (a.put o.dst v) w1) : wpGx P ops w0 sp R Kd Q (n + 1) k (o :: l) a w := by
  simp only [wpGx, stepG, hw, if_true, hk]
  rw [if_neg (by omega)]
  refine ⟨R, ?_, h⟩
  unfold Spec
  rw [if_pos ⟨hsp, rfl⟩]
  exact ⟨rfl, hR⟩
theorem lg_eff (hk : Kd k = 2) (_ : wpQuiet P ops (fun _ => False) (fun _ => True) [o] a) (hw : Region.wanted o (yielded ops a.tmps) = true)
    (h : ∀ w1, Aft w w1 → ∀ K : Act → World → Prop, (∀ a' w', (Aft w1 w' ∧ wpGx P ops w0 sp R Kd Q n (k + 1) l a' w') → K a' w') → o.wp P a w1 K noOut) : wpGx P ops w0 sp R Kd Q (n + 1) k (o :: l) a w := by
  simp only [wpGx, stepG, hw, if_true, hk, Nat.le_refl]
  exact fun w1 hw1 => h w1 hw1 _ fun _ _ h => ⟨by unfold Leaves; rw [if_neg (by decide)]; exact h.1, h.2⟩
theorem lg_store (hk : Kd k = 3) (hw : Region.wanted o (yielded ops a.tmps) = true) (ty : TypeId) (x y : Operand) (ho : o.op = .store ty x y)
    (g : Nat) (cells : Array Value) (hx : a.eval x = .pointer (some ⟨g, 0, none⟩)) (hy : a.eval y = .agg cells)
    (t : TypeId) (old : Array Value) (hC : Aft w0 w) (h0 : w0.heap.size ≤ g) (hg : w.heap[g]? = some (.cells old t (0, 0))) (hi : (P.info? ty).map (·.size) = some cells.size)
    (hold : old.size = cells.size) (h1 : cells.all (·.oneCell') = true)
    (h : ∀ w2, Hid (w2.heap[g]? = some (.cells cells t (0, 0))) → Aft w0 w2 → Hid (∀ k, k < w.heap.size → k ≠ g → w2.heap[k]? = w.heap[k]?) → wpGx P ops w0 sp R Kd Q n (k + 1) l (a.put o.dst undef) w2) : wpGx P ops w0 sp R Kd Q (n + 1) k (o :: l) a w := by
  simp only [wpGx, stepG, hw, if_true, hk]
  rw [if_pos (by omega)]
  intro w1 hw1
  refine wp_store_row ty x y ho g cells hx hy t old (hw1.get hg) hi hold h1 ?_
  have hb : Aft w0 (w1.setRow g cells) := below_setRow (hC.trans hw1) h0 _
  refine ⟨by unfold Leaves; rw [if_pos rfl]; exact hb, h _ (show _ = _ from setRow_heap _ _ _ _ _ _ (hw1.get hg)) hb (show _ from fun k hk hne => ?_)⟩
  rw [setRow_other w1 g k _ hne]
  exact Below.block hw1 k hk
theorem lg_done (h : ∀ w1, Aft w w1 → wpList P ops Q l a w1) : wpGx P ops w0 sp R Kd Q 0 k l a w := h
end
end
attribute [irreducible] wpGx
end Go.Proofs.Ytfgammcefaomeaa
/- draw.Many: a list of keys, drawn one behind the other. -/
namespace Go.Proofs.Ytfgammcefaomeaa
open Go Go.RowKit
set_option linter.unusedSimpArgs false
theorem Led.duo {w0 w : World} {a b : Nat × Obj} {L : List (Nat × Obj)} (h : Led w0 w (a :: b :: L)) : Led w0 w [a, b] := by
  refine ⟨h.aft, fun i g o hi => ?_, fun i j g k o p hij hi hj => ?_⟩
  · match i, hi with
    | 0, hi => exact h.has 0 g o hi
    | 1, hi => exact h.has 1 g o hi
    | i + 2, hi => simp at hi
  · match i, j, hi, hj, hij with
    | 0, 1, hi, hj, hij => exact h.inc 0 1 g k o p hij hi hj
    | 0, 0, _, _, hij => exact absurd hij (Nat.lt_irrefl _)
    | 1, 0, _, _, hij => exact absurd hij (by omega)
    | 1, 1, _, _, hij => exact absurd hij (Nat.lt_irrefl _)
    | i + 2, _, hi, _, _ => simp at hi
    | _, j + 2, _, hj, _ => simp at hj
theorem Led.grown {w0 w w' : World} {L : List (Nat × Obj)} {row : Option Nat} (h : Led w0 w L) (hg : w.grownBy w' row) (hrow : ∀ k, row = some k → w0.heap.size ≤ k ∧ ∀ p ∈ L, p.1 ≠ k) : Led w0 w' L := by
  refine ⟨⟨hg.os.trans h.aft.os, hg.tape.trans h.aft.tape, hg.output.trans h.aft.output, Nat.le_trans h.aft.size hg.size, fun k hk => ?_⟩, fun i g o hi => ⟨?_, (h.has i g o hi).2⟩, h.inc⟩
  · exact (hg.block k (Nat.lt_of_lt_of_le hk h.aft.size) (fun e => by have := (hrow k e.symm).1; omega)).trans (h.aft.block k hk)
  · have hm : (g, o) ∈ L := List.mem_of_getElem? hi
    exact (hg.block g (heap_lt (h.get i hi)) (fun e => (hrow g e.symm).2 _ hm rfl)).trans (h.get i hi)
end Go.Proofs.Ytfgammcefaomeaa
