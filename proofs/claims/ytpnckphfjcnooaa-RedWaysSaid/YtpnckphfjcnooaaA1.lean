import Derived.WalkKit
import Derived.Deep.OwnRows
import Derived.Deep.Draws
import Derived.WalkSpells
import Derived.WalkLawsBesides
import Derived.Deep.QuietTactic
import Derived.BigQuiet
import Derived.BigRegion
import Derived.Deep.RegionHeld3
import Derived.Handy
import Derived.Lib.Hide
import Derived.Test.YtpnckphfjcnooaaRows
import Derived.Laws.AppendOwnNone
import Derived.Lib.SliceRun
/- Words of 32 bits as the walk has them: a sum, a bitwise operation and a shift of two such numbers is the word's own. -/
namespace Go.Proofs.Ytpnckphfjcnooaa

/-- The number in a slot that holds a word. -/
def wn (x : BitVec 32) : Int := (x.toNat : Int)
theorem wrap_u32_nat (n : Nat) : IntKind.u32.wrap (n : Int) = ((n % 4294967296 : Nat) : Int) := by
  rw [IntKind.wrap_u32]; omega
theorem wn_add (x y : BitVec 32) : IntKind.u32.wrap (wn x + wn y) = wn (x + y) := by
  unfold wn; rw [IntKind.wrap_u32, BitVec.toNat_add]; omega
theorem ofInt32 (x : BitVec 32) : BitVec.ofInt 32 (wn x) = x := by
  unfold wn
  apply BitVec.eq_of_toNat_eq
  simp
theorem wrap32_id (x : BitVec 32) : IntKind.u32.wrap (wn x) = wn x := by
  have := x.isLt
  unfold wn
  rw [wrap_u32_nat, Nat.mod_eq_of_lt (by simpa using this)]
theorem wn_xor (x y : BitVec 32) : bits .xor .u32 (wn x) (wn y) = wn (x ^^^ y) := by
  show IntKind.u32.wrap ((BitVec.ofInt 32 (wn x) ^^^ BitVec.ofInt 32 (wn y)).toNat : Int) = _
  rw [ofInt32, ofInt32]; exact wrap32_id _
theorem wn_and (x y : BitVec 32) : bits .and .u32 (wn x) (wn y) = wn (x &&& y) := by
  show IntKind.u32.wrap ((BitVec.ofInt 32 (wn x) &&& BitVec.ofInt 32 (wn y)).toNat : Int) = _
  rw [ofInt32, ofInt32]; exact wrap32_id _
theorem wn_or (x y : BitVec 32) : bits .or .u32 (wn x) (wn y) = wn (x ||| y) := by
  show IntKind.u32.wrap ((BitVec.ofInt 32 (wn x) ||| BitVec.ofInt 32 (wn y)).toNat : Int) = _
  rw [ofInt32, ofInt32]; exact wrap32_id _
theorem wn_shr (x : BitVec 32) (n : Nat) : wn x / 2 ^ n = wn (x >>> n) := by
  unfold wn; rw [BitVec.toNat_ushiftRight, Nat.shiftRight_eq_div_pow]; simp
theorem wn_shl (x : BitVec 32) (n : Nat) : IntKind.u32.wrap (wn x * 2 ^ n) = wn (x <<< n) := by
  unfold wn; rw [BitVec.toNat_shiftLeft, Nat.shiftLeft_eq, IntKind.wrap_u32]; simp
/-- The number in a slot that holds a byte. -/
def bn (x : BitVec 8) : Int := (x.toNat : Int)
theorem bn_wide (x : BitVec 8) : IntKind.u32.wrap (bn x) = wn (x.setWidth 32) := by
  have := x.isLt
  unfold bn wn
  rw [IntKind.wrap_u32, BitVec.toNat_setWidth]; omega
theorem wn_shl24 (x : BitVec 32) : IntKind.u32.wrap (wn x * 16777216) = wn (x <<< 24) := wn_shl x 24
theorem wn_shl16 (x : BitVec 32) : IntKind.u32.wrap (wn x * 65536) = wn (x <<< 16) := wn_shl x 16
theorem wn_shl8 (x : BitVec 32) : IntKind.u32.wrap (wn x * 256) = wn (x <<< 8) := wn_shl x 8
end Go.Proofs.Ytpnckphfjcnooaa
/- SHA-256 as plain functions on words: the schedule as a register of sixteen words, the round, a block. No program here. -/
namespace Go.Proofs.Ytpnckphfjcnooaa

/-- The eight words of a state. -/
structure St where
  a : BitVec 32
  b : BitVec 32
  c : BitVec 32
  d : BitVec 32
  e : BitVec 32
  f : BitVec 32
  g : BitVec 32
  h : BitVec 32
def St.at (s : St) : Nat → BitVec 32
  | 0 => s.a
  | 1 => s.b
  | 2 => s.c
  | 3 => s.d
  | 4 => s.e
  | 5 => s.f
  | 6 => s.g
  | _ => s.h
/-- Bytes as the walk's cells have them. -/
def bv (l : List (BitVec 8)) : List Value := l.map fun b => .int .u8 (bn b)
theorem bv_length (l : List (BitVec 8)) : (bv l).length = l.length := by simp [bv]
theorem bv_drop (l : List (BitVec 8)) (k : Nat) : bv (l.drop k) = (bv l).drop k := by simp [bv]
theorem bv_take (l : List (BitVec 8)) (k : Nat) : bv (l.take k) = (bv l).take k := by simp [bv]
end Go.Proofs.Ytpnckphfjcnooaa
/- Small laws of the model, of whatever program: an array value indexed. -/
namespace Go.Proofs.Ytpnckphfjcnooaa
open Go.RowKit

theorem run_index_cells {P : Program} {t e len : Nat} {k : IntKind} (ht : P.underlying t = some (.array len e)) (he : P.underlying e = some (.int k)) (hs : (P.info? e).map (·.size) = some 1)
    {cs : Array Value} {i : Nat} {v : Value} (hi : i < len) (hv : cs[i]? = some v) (w : World) :
    (Instr.index t (.agg cs) (.int .i64 (i : Int))).run P w = .ok v w := by
  obtain ⟨i0, hi0, hz⟩ := Option.map_eq_some_iff.1 hs
  have hc : P.cellsOf e = 1 := by simp [Program.cellsOf, hi0, hz]
  simp [Instr.index, asIntOf, run_underlying ht, run_sizeOf w hi0, hc, hi, part, isAgg, run_underlying he, hv]
theorem heap_lt {w : World} {b : Nat} {o : Obj} (h : w.heap[b]? = some o) : b < w.heap.size := (Array.getElem?_eq_some_iff.1 h).1
theorem below_drewN' (k : Nat) (w : World) (n : Nat) : Below k w (w.drewN n) := ⟨rfl, rfl, rfl, Nat.le_refl _, fun _ _ => rfl⟩
end Go.Proofs.Ytpnckphfjcnooaa
/- The walks of package sha's inner functions on words: word, small, great, mix (and bits.RotateLeft32): each computes the plain function of XSha. -/
namespace Go.Proofs.Ytpnckphfjcnooaa
open Go.RowKit
attribute [local go_sem] wn_add wn_xor wn_and wn_or wn_shr wn_shl bn_wide wn_shl24 wn_shl16 wn_shl8
/-- n bytes at a place. -/
def bytesAt (w : World) (g o : Nat) (n : Nat) (B : Nat → BitVec 8) : Prop := ∀ j, j < n → w.cell? ⟨g, o + j, none⟩ = some (.int .u8 (bn (B j)))
theorem bytesAt.below {w w' : World} {g o n : Nat} {B : Nat → BitVec 8} (h : bytesAt w g o n B) {k : Nat} (hb : Below k w w') (hk : g < k) : bytesAt w' g o n B :=
  fun j hj => (hb.cell (p := ⟨g, o + j, none⟩) hk).trans (h j hj)
end Go.Proofs.Ytpnckphfjcnooaa
/- A region that draws its order, walked once in the order of the text: operations that only read yield, in every world of a class, one value; those that turn the world stand in one order among themselves, and leave a world of the class; the tail stands in one order behind all others. Of whatever program. -/
namespace Go.Proofs.Ytpnckphfjcnooaa
open Go
section
variable {P : Program} {ops : Array Oper} {C : World → Prop} {E : Nat → Bool}

/-- An operation that hands back a value or nothing: no call of a Go function, no defer. -/
def isV : Op → Bool
  | .call { callee := .builtin .len, .. } => true
  | .call { callee := .builtin .cap, .. } => true
  | .call { callee := .builtin .min, .. } => true
  | .call { callee := .builtin .max, .. } => true
  | .call _ => false
  | .go _ => false
  | .defer _ => false
  | .send .. => false
  | .recv .. => false
  | .select .. => false
  | _ => true

/-- What it hands back is a value or nothing. -/
def plainRes : Result Next → Prop
  | .ok (.value _) _ => True
  | .ok .skip _ => True
  | .ok _ _ => False
  | .halt _ _ => True
theorem plainRes_v (s : Sem Value) (w : World) : plainRes ((do pure (Next.value (← s)) : Sem Next).run P w) := by
  simp only [Sem.run_bind]
  cases s.run P w <;> simp [Result.andThen, plainRes]
theorem plainRes_u (s : Sem Unit) (w : World) : plainRes ((do s; pure Next.skip : Sem Next).run P w) := by
  simp only [Sem.run_bind]
  cases s.run P w <;> simp [Result.andThen, plainRes]
theorem plainRes_bind {α : Type} (s : Sem α) (f : α → Sem Next) (w : World) (h : ∀ x w', plainRes ((f x).run P w')) : plainRes ((s >>= f).run P w) := by
  simp only [Sem.run_bind]
  cases s.run P w with
  | ok x w' => exact h x w'
  | halt x w' => simp [Result.andThen, plainRes]
theorem plainRes_pure (v : Value) (w : World) : plainRes ((pure (Next.value v) : Sem Next).run P w) := by simp [plainRes]
theorem plainRes_nil (w : World) : plainRes ((runtimePanic .nilDeref : Sem Next).run P w) := by
  unfold runtimePanic
  exact plainRes_bind _ _ _ fun _ _ => by simp [goPanic, plainRes]
theorem isV_run {o : Oper} (h : isV o.op = true) (ρ : Operand → Value) (w : World) : plainRes ((execOp ρ o).run P w) := by
  obtain ⟨dst, op, type, pos, after, guard⟩ := o
  cases op
  case call c =>
    obtain ⟨callee, args, ats⟩ := c
    cases callee with
    | value f => simp [isV] at h
    | invoke r m => simp [isV] at h
    | builtin b => cases b <;> first | (simp [isV] at h; done) | exact plainRes_v _ _
  case go c => simp [isV] at h
  case defer c => simp [isV] at h
  case send c x => simp [isV] at h
  case recv c x b => simp [isV] at h
  case select c b => simp [isV] at h
  case nilCheck x =>
    simp only [execOp]
    split <;> first | exact plainRes_nil _ | exact plainRes_pure _ _ | skip
    split <;> first | exact plainRes_nil _ | exact plainRes_pure _ _ | skip
    refine plainRes_bind _ _ _ fun _ _ => plainRes_bind _ _ _ fun b _ => ?_
    split
    · exact plainRes_bind _ _ _ fun _ _ => plainRes_pure _ _
    · exact plainRes_pure _ _
  case pick c a b =>
    simp only [execOp]
    refine plainRes_bind _ _ _ fun b _ => ?_
    split <;> exact plainRes_pure _ _
  all_goals (simp only [execOp]; first | exact plainRes_pure _ _ | exact plainRes_v _ _ | exact plainRes_u _ _)

/-- In this world it hands back this value, and the world stands. -/
def qAt (P : Program) (o : Oper) (a : Act) (w : World) (v : Value) : Prop :=
  (execOp a.eval o).run P w = .ok (.value v) w ∨ ((execOp a.eval o).run P w = .ok .skip w ∧ v = undef)
theorem qAt_of_quietAt {o : Oper} {a : Act} {w : World} {v : Value} (h : isV o.op = true) (hq : o.quietAt P a C w v) : qAt P o a w v := by
  have hp := isV_run (P := P) h a.eval w
  unfold Oper.quietAt at hq
  unfold qAt
  generalize (execOp a.eval o).run P w = r at *
  cases r with
  | ok n w' =>
    cases n <;> simp only [Oper.quietUpon] at hq <;> simp only [plainRes] at hp
    case value u => obtain ⟨rfl, rfl⟩ := hq; exact .inl rfl
    case skip => obtain ⟨rfl, rfl⟩ := hq; exact .inr ⟨rfl, rfl⟩
  | halt x w' => simp only [Oper.quietUpon] at hq
theorem qAt_unique {o : Oper} {a : Act} {w : World} {v u : Value} (h : qAt P o a w v) (k : qAt P o a w u) : v = u := by
  rcases h with h | ⟨h, rfl⟩ <;> rcases k with k | ⟨k, rfl⟩
  · rw [h] at k; simpa using k
  · rw [h] at k; simp at k
  · rw [h] at k; simp at k
  · rfl
theorem qAt_wp {o : Oper} {a : Act} {w : World} {v : Value} {K : Act → World → Prop} {Q : Exit → Act → World → Prop} (h : qAt P o a w v) (hk : K (a.put o.dst v) w) : o.wp P a w K Q := by
  unfold Oper.wp
  rcases h with h | ⟨h, rfl⟩ <;> rw [h] <;> exact hk

/-- No way out but by the operation's own end. -/
def noOut : Exit → Act → World → Prop := fun _ _ _ => False
theorem wp_noOut {o : Oper} {a : Act} {w : World} {K : Act → World → Prop} {Q : Exit → Act → World → Prop} (h : o.wp P a w K noOut) : o.wp P a w K Q := by
  unfold Oper.wp at *
  generalize (execOp a.eval o).run P w = r at *
  cases r with
  | ok n w' =>
    cases n <;> simp only [Oper.upon] at h ⊢ <;> try exact h
    exact Calls.mono h fun e w'' he => by cases e <;> first | exact he | exact (he : False).elim | exact (by obtain ⟨_, _, hf⟩ := (he : LetsOut noOut); exact hf.elim)
  | halt x w' => cases x <;> simp only [Oper.upon] at h ⊢ <;> first | exact h.elim | exact (h : False).elim
/-- A slot that the operation does not look at may be written before it or behind it. -/
theorem wp_put {o : Oper} (hs : ∀ cs b, o.op ≠ .select cs b) {a : Act} {w : World} {dst : Option Tmp} {u : Value} (h1 : ∀ d, dst = some d → d ∉ o.looksAt ops) (h2 : ∀ d, dst = some d → o.dst ≠ some d)
    {K : Act → World → Prop} : o.wp P (a.put dst u) w K noOut ↔ o.wp P a w (fun a' w' => K (a'.put dst u) w') noOut := by
  unfold Oper.wp
  rw [execOp_put (ops := ops) o hs a dst u h1]
  generalize (execOp a.eval o).run P w = r
  have hc : ∀ v, (a.put dst u).put o.dst v = (a.put o.dst v).put dst u := fun v => Act.put_comm a u v h2
  cases r with
  | ok n w' =>
    cases n <;> simp only [Oper.upon, hc]
    case defer d =>
      have e : ({ a.put dst u with defers := d :: (a.put dst u).defers } : Act) = ({ a with defers := d :: a.defers } : Act).put dst u := Act.put_defers a dst u d
      rw [e, Act.put_comm _ u undef h2]
    case enter f args =>
      constructor <;> exact fun h => Calls.mono h fun e w'' he => by cases e <;> exact he
  | halt x w' => cases x <;> simp only [Oper.upon] <;> exact Iff.rfl

/-- One operation of the prefix. -/
def stepL (P : Program) (ops : Array Oper) (C : World → Prop) (eff : Bool) (o : Oper) (K : Act → World → Prop) (a : Act) (w : World) : Prop :=
  if Region.wanted o (yielded ops a.tmps) = true then
    (if eff = true then o.wp P a w (fun a' w' => C w' ∧ K a' w') noOut else ∃ v, (∀ w', C w' → qAt P o a w' v) ∧ K (a.put o.dst v) w)
  else K (a.put o.dst undef) w
theorem stepL_mono {eff : Bool} {o : Oper} {K K' : Act → World → Prop} (h : ∀ a w, C w → K a w → K' a w) {a : Act} {w : World} (hC : C w) (hs : stepL P ops C eff o K a w) : stepL P ops C eff o K' a w := by
  unfold stepL at *
  split
  · rename_i hw
    rw [if_pos hw] at hs
    split
    · rename_i he
      rw [if_pos he] at hs
      exact Oper.wp_mono (fun a w ⟨c, k⟩ => ⟨c, h a w c k⟩) hs
    · rename_i he
      rw [if_neg he] at hs
      obtain ⟨v, hv, hk⟩ := hs
      exact ⟨v, hv, h _ _ hC hk⟩
  · rename_i hw
    rw [if_neg hw] at hs
    exact h _ _ hC hs
theorem qAt_put {o : Oper} (hs : ∀ cs b, o.op ≠ .select cs b) {a : Act} {w : World} {dst : Option Tmp} {u v : Value} (h1 : ∀ d, dst = some d → d ∉ o.looksAt ops) : qAt P o (a.put dst u) w v ↔ qAt P o a w v := by
  unfold qAt
  rw [execOp_put (ops := ops) o hs a dst u h1]
/-- What a wp of an operation shows of some frame behind it. -/
theorem wp_some {o : Oper} {a : Act} {w : World} {K : Act → World → Prop} (h : o.wp P a w K noOut) : ∃ b v w', K (({ a with defers := b } : Act).put o.dst v) w' := by
  unfold Oper.wp at h
  generalize (execOp a.eval o).run P w = r at *
  cases r with
  | ok n w' =>
    cases n <;> simp only [Oper.upon] at h
    case value v => exact ⟨a.defers, v, w', h⟩
    case skip => exact ⟨a.defers, undef, w', h⟩
    case defer d => exact ⟨d :: a.defers, undef, w', h⟩
    case enter f args =>
      obtain ⟨e, w'', fr, he, _⟩ := h []
      cases e with
      | returned v => exact ⟨a.defers, v, w'', he⟩
      | panicked c => exact (he : False).elim
      | outgrown => obtain ⟨_, _, hf⟩ := (he : LetsOut noOut); exact hf.elim
    case row r args =>
      obtain ⟨v, w'', he, _⟩ := h default []
      exact ⟨a.defers, v, w'', he⟩
  | halt x w' => cases x <;> simp only [Oper.upon] at h <;> first | exact h.elim | exact (h : False).elim
theorem wp_mono_put {o : Oper} {a : Act} {w : World} {K K' : Act → World → Prop} (hk : ∀ b v w', K (({ a with defers := b } : Act).put o.dst v) w' → K' (({ a with defers := b } : Act).put o.dst v) w') (h : o.wp P a w K noOut) : o.wp P a w K' noOut := by
  unfold Oper.wp at *
  generalize (execOp a.eval o).run P w = r at *
  cases r with
  | ok n w' =>
    cases n <;> simp only [Oper.upon] at h ⊢
    case value v => exact hk a.defers v w' h
    case skip => exact hk a.defers undef w' h
    case defer d => exact hk _ undef w' h
    case enter f args => exact Calls.mono h fun e w'' he => by cases e <;> first | exact hk a.defers _ _ he | exact he
    case row r args => exact Rows.mono h fun v w'' he => hk a.defers v _ he
  | halt x w' => cases x <;> simp only [Oper.upon] at h ⊢ <;> exact h
theorem qAt_defers {o : Oper} {a : Act} {w : World} {v : Value} (b : List Deferred) : qAt P o { a with defers := b } w v ↔ qAt P o a w v := by
  have e : (({ a with defers := b } : Act).eval) = a.eval := by funext x; cases x <;> rfl
  unfold qAt
  rw [e]
/-- TWO STEPS MAY CHANGE PLACES: apart, and not both of those that turn the world. -/
theorem stepL_swap {ei ej : Bool} {oi oj : Oper} (hsi : ∀ cs b, oi.op ≠ .select cs b) (hsj : ∀ cs b, oj.op ≠ .select cs b) (hap : oi.apart ops oj = true) (hE : ei = false ∨ ej = false)
    {K : Act → World → Prop} {a : Act} {w : World} (hC : C w) (h : stepL P ops C ei oi (stepL P ops C ej oj K) a w) : stepL P ops C ej oj (stepL P ops C ei oi K) a w := by
  obtain ⟨h1, h2, h3⟩ := Oper.apart_spec hap
  have h2' : ∀ d, oj.dst = some d → oi.dst ≠ some d := fun d hd he => h2 d he hd
  have wj : ∀ (a : Act) v, Region.wanted oj (yielded ops (a.put oi.dst v).tmps) = Region.wanted oj (yielded ops a.tmps) := fun a v => wanted_put oj a oi.dst v h1
  have wi : ∀ (a : Act) v, Region.wanted oi (yielded ops (a.put oj.dst v).tmps) = Region.wanted oi (yielded ops a.tmps) := fun a v => wanted_put oi a oj.dst v h3
  have pc : ∀ (a : Act) v u, (a.put oi.dst v).put oj.dst u = (a.put oj.dst u).put oi.dst v := fun a v u => Act.put_comm a v u h2
  by_cases hwi : Region.wanted oi (yielded ops a.tmps) = true
  · by_cases hei : ei = true
    · have hej : ej = false := hE.resolve_left (by simp [hei])
      subst hei hej
      unfold stepL at h
      rw [if_pos hwi, if_pos rfl] at h
      by_cases hwj : Region.wanted oj (yielded ops a.tmps) = true
      · have key : ∀ b v w', (C w' ∧ stepL P ops C false oj K (({ a with defers := b } : Act).put oi.dst v) w') → C w' ∧ ∃ u, (∀ w'', C w'' → qAt P oj a w'' u) ∧ K ((({ a with defers := b } : Act).put oi.dst v).put oj.dst u) w' := by
          rintro b v w' ⟨hc, hs⟩
          unfold stepL at hs
          rw [if_pos (by rw [wj]; exact hwj), if_neg (by simp)] at hs
          obtain ⟨u, hu, hk⟩ := hs
          exact ⟨hc, u, fun w'' hw'' => (qAt_defers b).1 ((qAt_put (ops := ops) hsj h1).1 (hu w'' hw'')), hk⟩
        obtain ⟨b, v, w', hs⟩ := wp_some h
        obtain ⟨_, u, hu, _⟩ := key b v w' hs
        unfold stepL
        rw [if_pos hwj, if_neg (by simp)]
        refine ⟨u, hu, ?_⟩
        rw [if_pos (by rw [wi]; exact hwi), if_pos rfl]
        refine (wp_put (ops := ops) hsi h3 h2').2 (wp_mono_put (fun b v w' hs => ?_) h)
        obtain ⟨hc, u', hu', hk⟩ := key b v w' hs
        rw [qAt_unique (hu w hC) (hu' w hC)]
        exact ⟨hc, hk⟩
      · unfold stepL
        rw [if_neg hwj, if_pos (by rw [wi]; exact hwi), if_pos rfl]
        refine (wp_put (ops := ops) hsi h3 h2').2 (wp_mono_put (fun b v w' hs => ?_) h)
        obtain ⟨hc, hs⟩ := hs
        rw [if_neg (by rw [wj]; exact hwj)] at hs
        exact ⟨hc, hs⟩
    · have hei' : ei = false := by simpa using hei
      subst hei'
      unfold stepL at h
      rw [if_pos hwi, if_neg (by simp)] at h
      obtain ⟨v, hv, h⟩ := h
      unfold stepL
      by_cases hwj : Region.wanted oj (yielded ops a.tmps) = true
      · rw [if_pos (by rw [wj]; exact hwj)] at h
        rw [if_pos hwj]
        by_cases hej : ej = true
        · subst hej
          rw [if_pos rfl] at h ⊢
          refine wp_mono_put (fun b u w' hs => ?_) ((wp_put (ops := ops) hsj h1 h2).1 h)
          obtain ⟨hc, hk⟩ := hs
          refine ⟨hc, ?_⟩
          rw [if_pos (by rw [wi]; exact hwi), if_neg (by simp)]
          exact ⟨v, fun w'' hw'' => (qAt_put (ops := ops) hsi h3).2 ((qAt_defers b).2 (hv w'' hw'')), hk⟩
        · rw [if_neg hej] at h ⊢
          obtain ⟨u, hu, hk⟩ := h
          refine ⟨u, fun w'' hw'' => (qAt_put (ops := ops) hsj h1).1 (hu w'' hw''), ?_⟩
          rw [if_pos (by rw [wi]; exact hwi), if_neg (by simp)]
          exact ⟨v, fun w'' hw'' => (qAt_put (ops := ops) hsi h3).2 (hv w'' hw''), by rw [← pc]; exact hk⟩
      · rw [if_neg (by rw [wj]; exact hwj)] at h
        rw [if_neg hwj, if_pos (by rw [wi]; exact hwi), if_neg (by simp)]
        exact ⟨v, fun w'' hw'' => (qAt_put (ops := ops) hsi h3).2 (hv w'' hw''), by rw [← pc]; exact h⟩
  · unfold stepL at h
    rw [if_neg hwi] at h
    unfold stepL
    by_cases hwj : Region.wanted oj (yielded ops a.tmps) = true
    · rw [if_pos (by rw [wj]; exact hwj)] at h
      rw [if_pos hwj]
      by_cases hej : ej = true
      · subst hej
        rw [if_pos rfl] at h ⊢
        refine wp_mono_put (fun b u w' hs => ?_) ((wp_put (ops := ops) hsj h1 h2).1 h)
        obtain ⟨hc, hk⟩ := hs
        refine ⟨hc, ?_⟩
        rw [if_neg (by rw [wi]; exact hwi)]
        exact hk
      · rw [if_neg hej] at h ⊢
        obtain ⟨u, hu, hk⟩ := h
        refine ⟨u, fun w'' hw'' => (qAt_put (ops := ops) hsj h1).1 (hu w'' hw''), ?_⟩
        rw [if_neg (by rw [wi]; exact hwi), ← pc]
        exact hk
    · rw [if_neg (by rw [wj]; exact hwj)] at h
      rw [if_neg hwj, if_neg (by rw [wi]; exact hwi), ← pc]
      exact h

/-- The prefix, in the order of the list; T behind it. -/
def wpLs (P : Program) (ops : Array Oper) (C : World → Prop) (E : Nat → Bool) (T : Act → World → Prop) : List Nat → Act → World → Prop
  | [], a, w => T a w
  | i :: l, a, w => match ops[i]? with
    | some o => stepL P ops C (E i) o (wpLs P ops C E T l) a w
    | none => False
theorem wpLs_front {T : Act → World → Prop} (hs : ∀ (j : Nat) (o : Oper) cs b, ops[j]? = some o → o.op ≠ .select cs b) {j : Nat} {oj : Oper} (hj : ops[j]? = some oj) : ∀ (p q : List Nat) (a : Act) (w : World),
    (∀ i ∈ p, ∀ oi, ops[i]? = some oi → oi.apart ops oj = true ∧ (E i = false ∨ E j = false)) → C w → wpLs P ops C E T (p ++ j :: q) a w → stepL P ops C (E j) oj (wpLs P ops C E T (p ++ q)) a w
  | [], q, a, w, _, _, h => by simpa [wpLs, hj] using h
  | i :: p, q, a, w, hp, hC, h => by
    simp only [List.cons_append, wpLs] at h
    cases hi : ops[i]? with
    | none => rw [hi] at h; exact h.elim
    | some oi =>
      rw [hi] at h
      simp only at h
      obtain ⟨hap, hE⟩ := hp i (by simp) oi hi
      have ih := stepL_mono (fun a w hc hk => wpLs_front hs hj p q a w (fun x hx => hp x (by simp [hx])) hc hk) hC h
      have := stepL_swap (hs i oi · · hi) (hs j oj · · hj) hap hE hC ih
      refine stepL_mono (fun a w _ hk => ?_) hC this
      simp only [List.cons_append, wpLs, hi]
      exact hk

theorem stepL_wpOp {i : Nat} {o : Oper} (hi : ops[i]? = some o) {eff : Bool} {K K' : Act → World → Prop} {Q : Exit → Act → World → Prop} (h : ∀ a w, C w → K a w → K' a w) {a : Act} {w : World} (hC : C w) (hs : stepL P ops C eff o K a w) : wpOp P ops Q i K' a w := by
  unfold stepL at hs
  unfold wpOp
  simp only [hi]
  split
  · rename_i hw
    rw [if_pos hw] at hs
    by_cases he : eff = true
    · rw [if_pos he] at hs
      exact .inl (wp_noOut (Oper.wp_mono (fun a w ⟨c, k⟩ => h a w c k) hs))
    · rw [if_neg he] at hs
      obtain ⟨v, hv, hk⟩ := hs
      exact .inl (qAt_wp (hv w hC) (h _ _ hC hk))
  · rename_i hw
    rw [if_neg hw] at hs
    exact h _ _ hC hs

/-- A certificate: number k's bits are operations that come ahead of k in every order. -/
def maskOk (ops : Array Oper) (M : Array Nat) : Bool := (List.range ops.size).all fun k => match ops[k]? with
  | none => false
  | some o => (o.after.all fun e => !Region.binds .any e || decide (e.on < k)) && (List.range ops.size).all fun j => !(M.getD k 0).testBit j || o.after.any fun e => Region.binds .any e && (e.on == j || (decide (e.on < k) && (M.getD e.on 0).testBit j))
def pairsOk (ops : Array Oper) (E : Nat → Bool) (N : Nat) (M : Array Nat) : Bool := (List.range ops.size).all fun k => (List.range k).all fun j => (M.getD k 0).testBit j || (decide (k < N) && match ops[j]?, ops[k]? with
  | some oj, some ok => oj.apart ops ok && (!E j || !E k)
  | _, _ => false)
def lexOK (ops : Array Oper) (E : Nat → Bool) (N : Nat) (M : Array Nat) : Bool := Region.noSelect ops && maskOk ops M && pairsOk ops E N M && decide (N ≤ ops.size)

def Closed (ops : Array Oper) (listed : Array Bool) : Prop := ∀ k o, ops[k]? = some o → listed.getD k false = true → ∀ e ∈ o.after, Region.binds .any e = true → listed.getD e.on false = true
theorem mask_listed {M : Array Nat} (hM : maskOk ops M = true) {listed : Array Bool} (hc : Closed ops listed) : ∀ (k : Nat) (o : Oper), ops[k]? = some o → (∀ e ∈ o.after, Region.binds .any e = true → listed.getD e.on false = true) →
    ∀ j, j < ops.size → (M.getD k 0).testBit j = true → listed.getD j false = true := by
  intro k
  induction k using Nat.strongRecOn with
  | _ k ih =>
    intro o ho he j hj hb
    have hk : k < ops.size := (Array.getElem?_eq_some_iff.1 ho).1
    have h1 := List.all_eq_true.1 hM k (List.mem_range.2 hk)
    rw [ho] at h1
    simp only [Bool.and_eq_true] at h1
    have h2 := List.all_eq_true.1 h1.2 j (List.mem_range.2 hj)
    simp only [hb, Bool.not_true, Bool.false_or] at h2
    obtain ⟨e, hem, hx⟩ := Array.any_eq_true'.1 h2
    simp only [Bool.and_eq_true, Bool.or_eq_true, beq_iff_eq, decide_eq_true_eq] at hx
    obtain ⟨hbind, hx⟩ := hx
    have hl := he e hem hbind
    rcases hx with rfl | ⟨hlt, hbit⟩
    · exact hl
    · have hon : e.on < ops.size := by omega
      have ho' : ops[e.on]? = some ops[e.on] := Array.getElem?_eq_getElem hon
      exact ih e.on hlt _ ho' (hc e.on _ ho' hl) j hj hbit
theorem edges_back {M : Array Nat} (hM : maskOk ops M = true) {k : Nat} {o : Oper} (ho : ops[k]? = some o) : ∀ e ∈ o.after, Region.binds .any e = true → e.on < k := by
  intro e he hb
  have hk : k < ops.size := (Array.getElem?_eq_some_iff.1 ho).1
  have h1 := List.all_eq_true.1 hM k (List.mem_range.2 hk)
  rw [ho] at h1
  simp only [Bool.and_eq_true] at h1
  have h2 := Array.all_eq_true_iff_forall_mem.1 h1.1 e he
  simpa [hb] using h2
theorem pair_of {N : Nat} {M : Array Nat} (h : pairsOk ops E N M = true) {j k : Nat} (hk : k < ops.size) (hjk : j < k) : (M.getD k 0).testBit j = true ∨ (k < N ∧ ∀ oj ok, ops[j]? = some oj → ops[k]? = some ok → oj.apart ops ok = true ∧ (E j = false ∨ E k = false)) := by
  have h1 := List.all_eq_true.1 (List.all_eq_true.1 h k (List.mem_range.2 hk)) j (List.mem_range.2 hjk)
  simp only [Bool.or_eq_true, Bool.and_eq_true, decide_eq_true_eq] at h1
  rcases h1 with h1 | ⟨h1, h2⟩
  · exact .inl h1
  · refine .inr ⟨h1, fun oj ok ej ek => ?_⟩
    rw [ej, ek] at h2
    simpa using h2

theorem mem_wait {listed : Array Bool} {k : Nat} (hz : listed.size = ops.size) {o : Oper} (ho : ops[k]? = some o) (h0 : listed.getD k false = false) (he : ∀ e ∈ o.after, Region.binds .any e = true → listed.getD e.on false = true) : k ∈ Region.ready .any ops listed := by
  have hk : k < ops.size := (Array.getElem?_eq_some_iff.1 ho).1
  refine mem_ready.2 ⟨?_, o, ho, he⟩
  simpa [show k < listed.size by omega] using h0
theorem ready_spec {listed : Array Bool} {k : Nat} (hz : listed.size = ops.size) (h : k ∈ Region.ready .any ops listed) : ∃ o, ops[k]? = some o ∧ listed.getD k false = false ∧ ∀ e ∈ o.after, Region.binds .any e = true → listed.getD e.on false = true := by
  obtain ⟨h0, o, ho, he⟩ := mem_ready.1 h
  have hk : k < ops.size := (Array.getElem?_eq_some_iff.1 ho).1
  exact ⟨o, ho, by simpa [show k < listed.size by omega] using h0, he⟩
theorem closed_set {listed : Array Bool} (hc : Closed ops listed) {i : Nat} {oi : Oper} (hi : ops[i]? = some oi) (he : ∀ e ∈ oi.after, Region.binds .any e = true → listed.getD e.on false = true) : Closed ops (listed.setIfInBounds i true) := by
  intro k o ho hl e hem hb
  by_cases hk : i = k
  · subst hk
    rw [hi] at ho
    cases ho
    exact getD_set_true (he e hem hb)
  · rw [getD_set_ne false hk] at hl
    exact getD_set_true (hc k o ho hl e hem hb)
theorem getD_set_self {listed : Array Bool} {i : Nat} (h : i < listed.size) : (listed.setIfInBounds i true).getD i false = true := by simp [h]

/-- The tail stands in one order. -/
theorem lex_tail {M : Array Nat} {N : Nat} {Q : Exit → Act → World → Prop} (hM : maskOk ops M = true) (hp : pairsOk ops E N M = true) : ∀ (fuel k : Nat) (listed : Array Bool) (a : Act) (w : World), listed.size = ops.size → Closed ops listed →
    (∀ i, i < k → i < ops.size → listed.getD i false = true) → (∀ i, k ≤ i → i < ops.size → listed.getD i false = false) → N ≤ k → ops.size - k ≤ fuel → wpOps P ops Q (List.range' k (ops.size - k)) a w → wpAny P .any ops Q fuel listed a w := by
  intro fuel
  induction fuel with
  | zero =>
    intro k listed a w hz hc hlo hhi hN hf h
    have hk : ops.size - k = 0 := by omega
    rw [hk] at h
    refine ⟨?_, by simpa [wpOps] using h⟩
    apply List.eq_nil_iff_forall_not_mem.2
    intro i hi
    obtain ⟨o, ho, h0, _⟩ := ready_spec hz hi
    have hi' : i < ops.size := (Array.getElem?_eq_some_iff.1 ho).1
    rw [hlo i (by omega) hi'] at h0
    cases h0
  | succ fuel ih =>
    intro k listed a w hz hc hlo hhi hN hf h
    by_cases hk : k < ops.size
    · have ho : ops[k]? = some ops[k] := Array.getElem?_eq_getElem hk
      have hr : k ∈ Region.ready .any ops listed := mem_wait hz ho (hhi k (Nat.le_refl _) hk) fun e he hb => hlo _ (edges_back hM ho e he hb) (by have := edges_back hM ho e he hb; omega)
      refine ⟨fun h0 => (by rw [h0] at hr; cases hr), fun i hi => ?_⟩
      obtain ⟨o, hio, h0, he⟩ := ready_spec hz hi
      have hi' : i < ops.size := (Array.getElem?_eq_some_iff.1 hio).1
      have hki : k ≤ i := by
        rcases Nat.lt_or_ge i k with h' | h'
        · rw [hlo i h' hi'] at h0; cases h0
        · exact h'
      have hik : i = k := by
        rcases Nat.lt_or_ge k i with h' | h'
        · exfalso
          rcases pair_of hp hi' h' with hb | ⟨hb, _⟩
          · have := mask_listed hM hc i o hio he k hk hb
            rw [hhi k (Nat.le_refl _) hk] at this
            cases this
          · omega
        · omega
      subst hik
      rw [show ops.size - i = (ops.size - (i + 1)) + 1 by omega, List.range'_succ, wpOps_cons] at h
      refine wpOp_mono (fun a w hk => ih (i + 1) _ a w (by simp [hz]) (closed_set hc hio he) ?_ ?_ (by omega) (by omega) hk) h
      · intro j hj hjs
        by_cases hji : i = j
        · subst hji; exact getD_set_self (by omega)
        · exact getD_set_true (hlo j (by omega) hjs)
      · intro j hj hjs
        rw [getD_set_ne false (by omega)]
        exact hhi j (by omega) hjs
    · have hk' : ops.size - k = 0 := by omega
      rw [hk'] at h
      refine ⟨fun _ => by simpa [wpOps] using h, fun i hi => ?_⟩
      obtain ⟨o, ho, h0, _⟩ := ready_spec hz hi
      have hi' : i < ops.size := (Array.getElem?_eq_some_iff.1 ho).1
      rw [hlo i (by omega) hi'] at h0
      cases h0
def waiting (listed : Array Bool) (N : Nat) : List Nat := (List.range N).filter fun i => !listed.getD i true
theorem mem_waiting {listed : Array Bool} {N i : Nat} (h : N ≤ listed.size) : i ∈ waiting listed N ↔ i < N ∧ listed.getD i false = false := by
  unfold waiting
  rw [List.mem_filter, List.mem_range]
  constructor
  · rintro ⟨h1, h2⟩
    exact ⟨h1, by simpa [show i < listed.size by omega] using h2⟩
  · rintro ⟨h1, h2⟩
    exact ⟨h1, by simpa [show i < listed.size by omega] using h2⟩
theorem waiting_sorted (listed : Array Bool) (N : Nat) : (waiting listed N).Pairwise (· < ·) := List.Pairwise.filter _ List.pairwise_lt_range
theorem waiting_set {listed : Array Bool} {N i : Nat} (h : N ≤ listed.size) {p q : List Nat} (hw : waiting listed N = p ++ i :: q) : waiting (listed.setIfInBounds i true) N = p ++ q := by
  have hs := waiting_sorted listed N
  rw [hw] at hs
  have e : waiting (listed.setIfInBounds i true) N = (waiting listed N).filter fun j => j != i := by
    unfold waiting
    rw [List.filter_filter]
    apply List.filter_congr
    intro j hj
    rw [List.mem_range] at hj
    by_cases hji : i = j
    · subst hji; simp [show i < listed.size by omega]
    · rw [getD_set_ne true hji]
      simp [Ne.symm hji]
  rw [e, hw, List.filter_append, List.filter_cons_of_neg (by simp)]
  rw [List.pairwise_append] at hs
  obtain ⟨_, h2, h3⟩ := hs
  rw [List.pairwise_cons] at h2
  rw [List.filter_eq_self.2, List.filter_eq_self.2]
  · intro j hj
    have := h2.1 j hj
    simp; omega
  · intro j hj
    have := h3 j hj i (by simp)
    simp; omega
/-- The prefix, in whatever order. -/
theorem lex_prefix {M : Array Nat} {N : Nat} {Q : Exit → Act → World → Prop} (hs : Region.noSelect ops = true) (hM : maskOk ops M = true) (hp : pairsOk ops E N M = true) (hN : N ≤ ops.size) : ∀ (fuel : Nat) (listed : Array Bool) (a : Act) (w : World), listed.size = ops.size → Closed ops listed →
    (∀ i, N ≤ i → i < ops.size → listed.getD i false = false) → C w → (waiting listed N).length + (ops.size - N) ≤ fuel →
    wpLs P ops C E (fun a w => wpOps P ops Q (List.range' N (ops.size - N)) a w) (waiting listed N) a w → wpAny P .any ops Q fuel listed a w := by
  intro fuel
  induction fuel with
  | zero =>
    intro listed a w hz hc hhi hC hf h
    have h0 : waiting listed N = [] := List.eq_nil_of_length_eq_zero (by omega)
    rw [h0] at h
    refine lex_tail (N := N) hM hp 0 N listed a w hz hc (fun i hi hi' => ?_) hhi (Nat.le_refl _) (by omega) h
    cases hl : listed.getD i false with
    | true => rfl
    | false => have := (mem_waiting (listed := listed) (N := N) (by omega)).2 ⟨hi, hl⟩; rw [h0] at this; cases this
  | succ fuel ih =>
    intro listed a w hz hc hhi hC hf h
    cases hw : waiting listed N with
    | nil =>
      rw [hw] at h
      refine lex_tail (N := N) hM hp (fuel + 1) N listed a w hz hc (fun i hi hi' => ?_) hhi (Nat.le_refl _) (by rw [hw] at hf; simpa using hf) h
      cases hl : listed.getD i false with
      | true => rfl
      | false => have := (mem_waiting (listed := listed) (N := N) (by omega)).2 ⟨hi, hl⟩; rw [hw] at this; cases this
    | cons k0 rest =>
      have hk0 := (mem_waiting (listed := listed) (N := N) (i := k0) (by omega)).1 (by rw [hw]; simp)
      have hsort := waiting_sorted listed N
      have hlow : ∀ i, i < k0 → listed.getD i false = true := by
        intro i hi
        cases hl : listed.getD i false with
        | true => rfl
        | false =>
          have hm := (mem_waiting (listed := listed) (N := N) (i := i) (by omega)).2 ⟨by omega, hl⟩
          rw [hw] at hm hsort
          rw [List.pairwise_cons] at hsort
          rcases List.mem_cons.1 hm with rfl | hm
          · omega
          · have := hsort.1 i hm; omega
      have hk0s : k0 < ops.size := by omega
      have ho0 : ops[k0]? = some ops[k0] := Array.getElem?_eq_getElem hk0s
      have hr : k0 ∈ Region.ready .any ops listed := mem_wait hz ho0 hk0.2 fun e he hb => hlow _ (edges_back hM ho0 e he hb)
      refine ⟨fun h0 => (by rw [h0] at hr; cases hr), fun i hi => ?_⟩
      obtain ⟨oi, hio, h0, he⟩ := ready_spec hz hi
      have hi' : i < ops.size := (Array.getElem?_eq_some_iff.1 hio).1
      have hbits : ∀ j, j < ops.size → (M.getD i 0).testBit j = true → listed.getD j false = true := mask_listed hM hc i oi hio he
      have hiN : i < N := by
        rcases Nat.lt_or_ge i N with h' | h'
        · exact h'
        · exfalso
          rcases pair_of hp hi' (show k0 < i by omega) with hb | ⟨hb, _⟩
          · have := hbits k0 (by omega) hb
            rw [hk0.2] at this
            cases this
          · omega
      have hmem := (mem_waiting (listed := listed) (N := N) (i := i) (by omega)).2 ⟨hiN, h0⟩
      obtain ⟨p, q, hpq⟩ := List.append_of_mem hmem
      have hfront := wpLs_front (E := E) (Region.noSelect_spec hs) hio p q a w (fun j hj oj hjo => by
        have hji : j < i := by
          have hs' := hsort
          rw [hpq, List.pairwise_append] at hs'
          exact hs'.2.2 j hj i (by simp)
        have hj0 := ((mem_waiting (listed := listed) (N := N) (i := j) (by omega)).1 (by rw [hpq]; simp [hj])).2
        rcases pair_of hp hi' hji with hb | ⟨_, hb⟩
        · have := hbits j (by omega) hb
          rw [hj0] at this
          cases this
        · exact hb oj oi hjo hio) hC (by rw [← hpq]; exact h)
      have hset := waiting_set (listed := listed) (N := N) (by omega) hpq
      refine stepL_wpOp hio (fun a w hc' hk => ih _ a w (by simp [hz]) (closed_set hc hio he) (fun j hj hjs => ?_) hc' ?_ ?_) hC hfront
      · rw [getD_set_ne false (by omega)]; exact hhi j hj hjs
      · rw [hset]; rw [hpq] at hf; simp at hf ⊢; omega
      · rw [hset]; exact hk

/-- The walk itself: n operations of the prefix are left, the next one is number k; behind them the tail, in its one order. -/
def wpLx (P : Program) (ops : Array Oper) (C : World → Prop) (E : Nat → Bool) (Q : Exit → Act → World → Prop) : Nat → Nat → List Oper → Act → World → Prop
  | 0, _, l, a, w => wpList P ops Q l a w
  | n + 1, k, o :: l, a, w => stepL P ops C (E k) o (wpLx P ops C E Q n (k + 1) l) a w
  | _ + 1, _, [], _, _ => False
theorem wpLs_of_wpLx {Q : Exit → Act → World → Prop} : ∀ (n k : Nat) (l : List Oper) (a : Act) (w : World), (∀ j, l[j]? = ops[k + j]?) → n ≤ l.length → k + l.length = ops.size → wpLx P ops C E Q n k l a w →
    wpLs P ops C E (fun a w => wpOps P ops Q (List.range' (k + n) (ops.size - (k + n))) a w) (List.range' k n) a w
  | 0, k, l, a, w, hl, _, hz, h => by
    simp only [List.range'_zero, wpLs, Nat.add_zero]
    simp only [wpLx] at h
    rw [show ops.size - k = l.length by omega, wpOps_eq_wpList l k hl]
    exact h
  | n + 1, k, [], a, w, _, hn, _, _ => by simp at hn
  | n + 1, k, o :: l, a, w, hl, hn, hz, h => by
    have h0 : ops[k]? = some o := by simpa using (hl 0).symm
    simp only [wpLx] at h
    rw [List.range'_succ]
    simp only [wpLs, h0]
    have ih := fun a w => wpLs_of_wpLx (Q := Q) n (k + 1) l a w (fun j => by have := hl (j + 1); simpa [Nat.add_assoc, Nat.add_comm 1 j] using this) (by simpa using hn) (by simp at hz; omega)
    rw [show k + (n + 1) = k + 1 + n by omega]
    unfold stepL at h ⊢
    split
    · rename_i hw
      rw [if_pos hw] at h
      split
      · rename_i he
        rw [if_pos he] at h
        exact Oper.wp_mono (fun a w ⟨c, hk⟩ => ⟨c, ih a w hk⟩) h
      · rename_i he
        rw [if_neg he] at h
        obtain ⟨v, hv, hk⟩ := h
        exact ⟨v, hv, ih _ _ hk⟩
    · rename_i hw
      rw [if_neg hw] at h
      exact ih _ _ h
/-- **A REGION THAT DRAWS ITS ORDER IS WALKED ONCE**: n operations of the prefix in the text's order (those that E names turn the world, and leave a world of the class C), the rest as a plain list. -/
theorem wp_region_lex {id : Nat} {Q : Exit → Act → World → Prop} {a : Act} {w : World} {l : List Oper} (C : World → Prop) (E : Nat → Bool) (n : Nat) (hm : P.follows .mixedOrders = true)
    (hB : lexOK l.toArray E n (Region.before l.toArray) = true) (hC : C { w with drawn := w.drawn + 1 }) (h : wpLx P l.toArray C E Q n 0 l a { w with drawn := w.drawn + 1 }) : (Code.region id l.toArray true).wp P Q a w := by
  simp only [lexOK, Bool.and_eq_true, decide_eq_true_eq] at hB
  obtain ⟨⟨⟨hs, hM⟩, hp⟩, hN⟩ := hB
  have hN' : n ≤ l.length := by simpa using hN
  refine wp_region_any hm ?_
  have hw : waiting (Array.replicate l.toArray.size false) n = List.range n := by
    unfold waiting
    rw [List.filter_eq_self]
    intro i hi
    rw [List.mem_range] at hi
    have : i < l.length := by omega
    simp [this]
  have h1 := wpLs_of_wpLx (E := E) (ops := l.toArray) n 0 l a _ (by simp) hN' (by simp) h
  rw [Nat.zero_add, ← List.range_eq_range'] at h1
  refine lex_prefix (E := E) hs hM hp hN _ _ a _ (by simp) ?_ ?_ hC ?_ ?_
  · intro k o _ hl
    exfalso
    have hk : ¬ (Array.replicate l.toArray.size false).getD k false = true := by
      by_cases hk : k < l.length <;> simp [hk]
    exact hk hl
  · intro i _ hi
    have hi' : i < l.length := by simpa using hi
    simp [hi']
  · rw [hw]; simp; omega
  · rw [hw]; exact h1
section
variable {Q : Exit → Act → World → Prop} {n k : Nat} {o : Oper} {l : List Oper} {a : Act} {w : World}
theorem lx_quiet (hE : E k = false) (hw : Region.wanted o (yielded ops a.tmps) = true) (hv : isV o.op = true) (h : ∀ K : Act → Prop, (∀ a', wpLx P ops C E Q n (k + 1) l a' w → K a') → o.quiet P a C K) : wpLx P ops C E Q (n + 1) k (o :: l) a w := by
  obtain ⟨v, hq, hk⟩ := h (fun a' => wpLx P ops C E Q n (k + 1) l a' w) fun _ h => h
  simp only [wpLx, stepL, hw, if_true, hE]
  exact ⟨v, fun w' hw' => qAt_of_quietAt hv (hq w' hw'), hk⟩
theorem lx_skip (hw : Region.wanted o (yielded ops a.tmps) = false) (h : wpLx P ops C E Q n (k + 1) l (a.put o.dst undef) w) : wpLx P ops C E Q (n + 1) k (o :: l) a w := by
  simp only [wpLx, stepL, hw]
  exact h
theorem lx_eff (hE : E k = true) (hw : Region.wanted o (yielded ops a.tmps) = true) (h : ∀ K : Act → World → Prop, (∀ a' w', (C w' ∧ wpLx P ops C E Q n (k + 1) l a' w') → K a' w') → o.wp P a w K noOut) : wpLx P ops C E Q (n + 1) k (o :: l) a w := by
  simp only [wpLx, stepL, hw, if_true, hE]
  exact h _ fun _ _ h => h
theorem lx_done (h : wpList P ops Q l a w) : wpLx P ops C E Q 0 k l a w := h
end
end
attribute [irreducible] wpLx
end Go.Proofs.Ytpnckphfjcnooaa
/- The guard of an operation, read off the frame by the kit's own tactic, for the lexical walk of a region with guards. And a class of worlds: those in which the blocks below a number are as they were. -/
namespace Go.Proofs.Ytpnckphfjcnooaa
open Go Go.RowKit
section
variable {P : Program} {ops : Array Oper} {C : World → Prop} {E : Nat → Bool} {Q : Exit → Act → World → Prop} {n k : Nat} {o : Oper} {l : List Oper} {a : Act} {w : World}
theorem lx_skipT (_ : wpQuiet P ops (fun _ => False) (fun _ => True) [o] a) (hw : Region.wanted o (yielded ops a.tmps) = false) (h : wpLx P ops C E Q n (k + 1) l (a.put o.dst undef) w) : wpLx P ops C E Q (n + 1) k (o :: l) a w := lx_skip hw h
theorem lx_quietT (hE : E k = false) (_ : wpQuiet P ops (fun _ => False) (fun _ => True) [o] a) (hw : Region.wanted o (yielded ops a.tmps) = true) (hv : isV o.op = true)
    (h : ∀ K : Act → Prop, (∀ a', wpLx P ops C E Q n (k + 1) l a' w → K a') → o.quiet P a C K) : wpLx P ops C E Q (n + 1) k (o :: l) a w := lx_quiet hE hw hv h
theorem lx_effT (hE : E k = true) (_ : wpQuiet P ops (fun _ => False) (fun _ => True) [o] a) (hw : Region.wanted o (yielded ops a.tmps) = true)
    (h : ∀ K : Act → World → Prop, (∀ a' w', (C w' ∧ wpLx P ops C E Q n (k + 1) l a' w') → K a' w') → o.wp P a w K noOut) : wpLx P ops C E Q (n + 1) k (o :: l) a w := lx_eff hE hw h
theorem quiet_false {K : Act → Prop} (hK : ∀ a, wpQuiet P ops (fun _ => False) (fun _ => True) [] a → K a) : o.quiet P a (fun _ => False) K := ⟨undef, fun _ h => h.elim, hK _ (wpQuiet_nil trivial)⟩
end
/-- A world in which the blocks below k are as they were. -/
structure Later (k : Nat) (w0 : World) where
  w : World
  h : Below k w0 w
instance (k : Nat) (w0 : World) : Nonempty (Later k w0) := ⟨⟨w0, Below.refl _ _⟩⟩
theorem Later.start (k : Nat) (w0 : World) : ∃ u : Later k w0, w0.drew = u.w := ⟨⟨w0.drew, (Below.refl _ _).drew⟩, rfl⟩
theorem Later.on {k : Nat} {w0 w : World} (h : Below k w0 w) : ∃ u : Later k w0, w = u.w := ⟨⟨w, h⟩, rfl⟩
end Go.Proofs.Ytpnckphfjcnooaa
/- The walk of package sha's mix: a block is taken into the state's eight words as XSha's plain function says; nothing else of what was there turns. -/
namespace Go.Proofs.Ytpnckphfjcnooaa
open Go.RowKit
attribute [local go_sem] wn_add wn_xor wn_and wn_or wn_shr wn_shl bn_wide wn_shl24 wn_shl16 wn_shl8
/-- The table that is added. -/
def TabK (K : Nat → BitVec 32) (g : Nat) (w : World) : Prop := ∃ T cs fr, w.heap[g]? = some (.cells cs T fr) ∧ cs.size = 64 ∧ ∀ i, i < 64 → cs[i]? = some (.int .u32 (wn (K i)))

end Go.Proofs.Ytpnckphfjcnooaa
/- Slices that read as lists, one cell an element: what keeps them, how they are cut, and the law on append from such a slice. Of whatever program. -/
namespace Go.Proofs.Ytpnckphfjcnooaa
open Go Go.RowKit

/-- The ending is a return of a value of which Q holds. -/
def Returns (Q : Value → World → Prop) (e : Ending) (w : World) : Prop := ∃ v, e = .returned v ∧ Q v w
theorem Returns.mk {Q : Value → World → Prop} {v : Value} {w : World} (h : Q v w) : Returns Q (.returned v) w := ⟨v, rfl, h⟩

/-- The slice value v reads as xs. -/
def Rd (w : World) (v : Value) (xs : List Value) : Prop :=
  ∃ ao cap, v = .slice ao xs.length cap ∧ xs.length ≤ cap ∧ cap ≤ 9223372036854775807 ∧ (ao = none → cap = 0) ∧ ∀ ad, ao = some ad → ∀ j u, xs[j]? = some u → w.cell? (ad.add j) = some u
theorem Addr.block_add (a : Addr) (n : Nat) : (a.add n).block = a.block := by unfold Addr.add; split <;> rfl
theorem Rd.keep {w w' : World} {v : Value} {xs : List Value} (h : Rd w v xs) (hk : ∀ g, v.ownBlock = some g → xs ≠ [] → g < w.heap.size → w'.heap[g]? = w.heap[g]?) : Rd w' v xs := by
  obtain ⟨ao, cap, rfl, h1, h2, h3, h4⟩ := h
  refine ⟨ao, cap, rfl, h1, h2, h3, fun ad ha j u hu => ?_⟩
  subst ha
  have hc := h4 ad rfl j u hu
  have hlt := World.block_lt_of_cell? w _ hc
  rw [Addr.block_add] at hlt
  rw [World.cell?_of_block (w := w) (by rw [Addr.block_add]; exact hk ad.block rfl (fun e => by simp [e] at hu) hlt)]
  exact hc
theorem Rd.grow {w w' : World} {v : Value} {xs : List Value} (h : Rd w v xs) (hb : Below w.heap.size w w') : Rd w' v xs := h.keep fun g _ _ hg => hb.block g hg
theorem Rd.below {w w' : World} {v : Value} {xs : List Value} (h : Rd w v xs) {k : Nat} (hb : Below k w w') (hk : ∀ g, v.ownBlock = some g → xs ≠ [] → g < k) : Rd w' v xs := h.keep fun g hg hx _ => hb.block g (hk g hg hx)
theorem Rd.grown {w w' : World} {v : Value} {xs : List Value} (h : Rd w v xs) {row : Option Nat} (hg : w.grownBy w' row) (hne : ∀ g, v.ownBlock = some g → xs ≠ [] → some g ≠ row) : Rd w' v xs := h.keep fun g hv hx hlt => hg.block g hlt (hne g hv hx)
theorem Rd.setCell {w : World} {v : Value} {xs : List Value} (h : Rd w v xs) {p : Addr} (hne : ∀ g, v.ownBlock = some g → xs ≠ [] → g ≠ p.block) (u : Value) : Rd (w.setCell p u) v xs := h.keep fun g hv hx _ => Below.heap_setCell _ _ _ _ (hne g hv hx)
theorem Rd.lt {w : World} {v : Value} {xs : List Value} (h : Rd w v xs) {g : Nat} (hg : v.ownBlock = some g) (hx : xs ≠ []) : g < w.heap.size := by
  obtain ⟨ao, cap, rfl, h1, h2, h3, h4⟩ := h
  cases ao with
  | none => cases hg
  | some ad =>
    simp only [Value.ownBlock, Option.some.injEq] at hg
    subst hg
    cases xs with
    | nil => exact absurd rfl hx
    | cons x xs =>
      have := World.block_lt_of_cell? w _ (h4 ad rfl 0 x rfl)
      rwa [Addr.block_add] at this
theorem Rd.nil (w : World) : Rd w (.slice none 0 0) [] := ⟨none, 0, rfl, Nat.le_refl _, by omega, fun _ => rfl, fun _ h => by cases h⟩
theorem Rd.at {w : World} {v : Value} {xs : List Value} (h : Rd w v xs) (hx : 0 < xs.length) : ∃ g o cap, v = .slice (some ⟨g, o, none⟩) xs.length cap ∧ xs.length ≤ cap ∧ cap ≤ 9223372036854775807 ∧ g < w.heap.size ∧ ∀ j u, xs[j]? = some u → w.cell? ⟨g, o + j, none⟩ = some u := by
  obtain ⟨ao, cap, rfl, h1, h2, h3, h4⟩ := h
  cases ao with
  | none => have := h3 rfl; omega
  | some ad =>
    obtain ⟨g, o, spot⟩ := ad
    have hc := h4 _ rfl 0 _ (List.getElem?_eq_getElem hx)
    have hs : spot = none := by
      cases spot with
      | none => rfl
      | some b =>
        simp only [Addr.add, if_true, World.cell?] at hc
        split at hc <;> simp at hc
    subst hs
    refine ⟨g, o, cap, rfl, h1, h2, ?_, fun j u hu => ?_⟩
    · have := World.block_lt_of_cell? w _ hc; rwa [Addr.block_add] at this
    · have := h4 _ rfl j u hu; rwa [Addr.add_lit] at this
theorem Rd.of_own {w : World} {base e : Nat} {v : Value} {n : Nat} {xs : List Value} (h : w.ownsRow base e 1 v n xs) : Rd w v xs := by
  have hl : xs.length = n := by simpa using h.1
  rcases h.2 with ⟨rfl, rfl⟩ | ⟨g, cap, cur, rfl, _, hg, hn, hm, hc, ht⟩
  · have : xs = [] := List.eq_nil_of_length_eq_zero hl
    subst this
    exact Rd.nil w
  · refine ⟨some ⟨g, 0, none⟩, cap, by rw [hl], by omega, by simpa [maxLen] using hm, fun he => (by cases he), fun ad ha j u hu => ?_⟩
    cases ha
    exact h.cells rfl j u hu
theorem ownsRow_mono {w : World} {base base' e size : Nat} {v : Value} {n : Nat} {xs : List Value} (h : w.ownsRow base e size v n xs) (hb : base' ≤ base) : w.ownsRow base' e size v n xs := by
  refine ⟨h.1, ?_⟩
  rcases h.2 with h | ⟨g, cap, cur, h1, h2, h3⟩
  · exact .inl h
  · exact .inr ⟨g, cap, cur, h1, Nat.le_trans hb h2, h3⟩
theorem ownsRow_below {w w' : World} {base e size : Nat} {v : Value} {n : Nat} {xs : List Value} (h : w.ownsRow base e size v n xs) (hk : ∀ g, v.ownBlock = some g → w'.heap[g]? = w.heap[g]?) : w'.ownsRow base e size v n xs := by
  refine ⟨h.1, ?_⟩
  rcases h.2 with h | ⟨g, cap, cur, rfl, h2, h3, h4⟩
  · exact .inl h
  · exact .inr ⟨g, cap, cur, rfl, h2, by rw [hk g rfl]; exact h3, h4⟩
/-- Cut off ahead: 's[k:]' as the walk writes it, for a slice that is not empty. -/
theorem Rd.drop {w : World} {g o cap : Nat} {xs : List Value} (h : Rd w (.slice (some ⟨g, o, none⟩) xs.length cap) xs) {k : Nat} (hk : k ≤ xs.length) (ao : Option Addr) (hao : ¬ cap = k → ao = some ⟨g, o + k, none⟩) :
    Rd w (.slice ao (xs.length - k) (cap - k)) (xs.drop k) := by
  obtain ⟨ao', cap', hv, h1, h2, h3, h4⟩ := h
  cases hv
  refine ⟨ao, cap - k, by rw [List.length_drop], by rw [List.length_drop]; omega, by omega, fun e => ?_, fun ad ha j u hu => ?_⟩
  · by_cases hc : cap = k
    · omega
    · rw [hao hc] at e; cases e
  · rw [List.getElem?_drop] at hu
    have hj : k + j < xs.length := (List.getElem?_eq_some_iff.1 hu).1
    rw [hao (by omega)] at ha
    cases ha
    have := h4 _ rfl (k + j) u hu
    rw [Addr.add_lit] at this ⊢
    rwa [Nat.add_assoc]
/-- Cut off behind: 's[:k]'. -/
theorem Rd.take {w : World} {g o cap : Nat} {xs : List Value} (h : Rd w (.slice (some ⟨g, o, none⟩) xs.length cap) xs) {k : Nat} (hk : k ≤ xs.length) :
    Rd w (.slice (some ⟨g, o, none⟩) k cap) (xs.take k) := by
  obtain ⟨ao', cap', hv, h1, h2, h3, h4⟩ := h
  cases hv
  refine ⟨_, cap, by rw [List.length_take, Nat.min_eq_left hk], by rw [List.length_take]; omega, h2, fun e => (by cases e), fun ad ha j u hu => ?_⟩
  cases ha
  refine h4 _ rfl j u ?_
  rw [List.getElem?_take] at hu
  split at hu
  · exact hu
  · cases hu

theorem Rd.none_nil {w : World} {n c : Nat} {xs : List Value} (h : Rd w (.slice none n c) xs) : xs = [] := by
  obtain ⟨ao, cap, hv, h1, _, h3, _⟩ := h
  cases hv
  have := h3 rfl
  exact List.eq_nil_of_length_eq_zero (by omega)
theorem Rd.none_zero {w : World} {n c : Nat} {xs : List Value} (h : Rd w (.slice none n c) xs) : xs = [] ∧ c = 0 := by
  obtain ⟨ao, cap, hv, h1, _, h3, _⟩ := h
  cases hv
  have := h3 rfl
  exact ⟨List.eq_nil_of_length_eq_zero (by omega), this⟩
/-- 'append(s, x...)', s nil or the call's own, x a slice that reads as a list. -/
theorem wpList_append_rd {P : Program} {w : World} {ops : Array Oper} {rest : List Oper} {o : Oper} {a : Act} {Q : Exit → Act → World → Prop} (hgd : o.guard = none) (s x : Operand) (t : TypeId)
    (ho : o.op = .call { callee := .builtin .append, args := #[s, x], argTypes := #[t, t] })
    (base : Nat) (e : TypeId) (z : Value) (bytes : Nat) (ht : P.underlying t = some (.slice e)) (hinfo : (P.info? e).map (fun i => (i.zero, i.size, i.bytes)) = some (some z, 1, bytes)) (hzs : z.cells.size = 1)
    (v vx : Value) (xs news : List Value) (hs : a.eval s = v) (hx : a.eval x = vx) (hown : w.ownsRow base e 1 v xs.length xs) (hrd : Rd w vx news) (h1 : ∀ u ∈ news, u.oneCell' = true)
    (hbytes : (xs.length + news.length) * bytes ≤ 140737488355328) (hlen : xs.length + news.length ≤ 140737488355328) (hbase : base ≤ w.heap.size)
    (h : ∀ v' w', w'.ownsRow base e 1 v' (xs ++ news).length (xs ++ news) → w.grownBy w' v.ownBlock → (v' = .slice none 0 0 ↔ v = .slice none 0 0 ∧ news = []) → wpList P ops Q rest (a.put o.dst v') w') : wpList P ops Q (o :: rest) a w := by
  obtain ⟨i, hi, hz1, hz2, hz3⟩ := info_parts hinfo
  obtain ⟨ao, cap, rfl, r1, r2, r3, r4⟩ := hrd
  have hnl : (news.length = 0) ↔ news = [] := List.length_eq_zero_iff
  cases ao with
  | none =>
    have hc := r3 rfl
    have hn : news = [] := hnl.1 (by omega)
    subst hn hc
    refine wpList_append_own_none hgd s x t ho base e i 1 ht hi v _ xs hs hown hx ?_
    exact h v w (by simpa using hown) ⟨rfl, rfl, rfl, Nat.le_refl _, fun _ _ _ => rfl⟩ (by simp)
  | some ad =>
    refine wpList_append_own w hgd s x t ho base e i z 1 bytes ht hi hz1 hz2 hz3 hzs (by omega) v _ xs hs hown ad news.length cap news hx (by simp) (r4 ad rfl) h1 (by unfold maxLen; omega) hbytes hbase ?_
    intro v' w' k1 k2 k3
    exact h v' w' (by rw [List.length_append]; exact k1) k2 (by rw [k3, hnl])
/-- The ending is a return of a slice of n elements of which Q holds. -/
def RetSl (n : Nat) (Q : Value → World → Prop) (e : Ending) (w : World) : Prop := ∃ ao cap, e = .returned (.slice ao n cap) ∧ Q (.slice ao n cap) w
theorem own_shape {w : World} {base e size : Nat} {v : Value} {n : Nat} {xs : List Value} (h : w.ownsRow base e size v n xs) : ∃ ao cap, v = .slice ao n cap := by
  rcases h.2 with ⟨rfl, rfl⟩ | ⟨g, cap, cur, rfl, _⟩
  · exact ⟨none, 0, rfl⟩
  · exact ⟨_, cap, rfl⟩
theorem RetSl.of_own {n : Nat} {Q : Value → World → Prop} {e : Ending} {w : World} {base el size : Nat} {xs : List Value} (h : Returns Q e w) (ho : ∀ v w, Q v w → w.ownsRow base el size v n xs) : RetSl n Q e w := by
  obtain ⟨v, rfl, hq⟩ := h
  obtain ⟨ao, cap, rfl⟩ := own_shape (ho v w hq)
  exact ⟨ao, cap, rfl, hq⟩
/-- Of what was there only blocks of S may have turned. -/
structure Fr (S : Nat → Prop) (w w' : World) : Prop where
  os : w'.os = w.os
  tape : w'.tape = w.tape
  output : w'.output = w.output
  size : w.heap.size ≤ w'.heap.size
  block : ∀ k, k < w.heap.size → ¬ S k → w'.heap[k]? = w.heap[k]?
theorem Fr.refl (S : Nat → Prop) (w : World) : Fr S w w := ⟨rfl, rfl, rfl, Nat.le_refl _, fun _ _ _ => rfl⟩
theorem Fr.trans {S : Nat → Prop} {a b c : World} (h : Fr S a b) (k : Fr S b c) : Fr S a c :=
  ⟨k.os.trans h.os, k.tape.trans h.tape, k.output.trans h.output, Nat.le_trans h.size k.size, fun i hi hn => (k.block i (Nat.lt_of_lt_of_le hi h.size) hn).trans (h.block i hi hn)⟩
theorem Fr.mono {S S' : Nat → Prop} {w w' : World} (h : Fr S w w') (hs : ∀ k, k < w.heap.size → S k → S' k) : Fr S' w w' := ⟨h.os, h.tape, h.output, h.size, fun k hk hn => h.block k hk fun hh => hn (hs k hk hh)⟩
theorem Fr.of_below {S : Nat → Prop} {w w' : World} (h : Below w.heap.size w w') : Fr S w w' := ⟨h.os, h.tape, h.output, h.size, fun k hk _ => h.block k hk⟩
theorem Fr.of_grown {S : Nat → Prop} {w w' : World} {row : Option Nat} (h : w.grownBy w' row) (hs : ∀ k, row = some k → S k) : Fr S w w' := ⟨h.os, h.tape, h.output, h.size, fun k hk hn => h.block k hk fun e => hn (hs k e.symm)⟩
theorem Fr.drew {S : Nat → Prop} {a w : World} (h : Fr S a w) : Fr S a w.drew := ⟨h.os, h.tape, h.output, h.size, h.block⟩
theorem Fr.drewN {S : Nat → Prop} {a w : World} (h : Fr S a w) (n : Nat) : Fr S a (w.drewN n) := ⟨h.os, h.tape, h.output, h.size, h.block⟩
theorem Fr.setCell {S : Nat → Prop} {a w : World} (h : Fr S a w) {p : Addr} (hp : S p.block) (u : Value) : Fr S a (w.setCell p u) :=
  h.trans ⟨rfl, rfl, rfl, by simp [World.setCell], fun k _ hn => Below.heap_setCell _ _ _ _ (fun e => hn (e ▸ hp))⟩
theorem Fr.alloc {S : Nat → Prop} {a w : World} (h : Fr S a w) (o : Obj) : Fr S a (w.alloc o) := h.trans (Fr.of_below ((Below.refl _ _).alloc (Nat.le_refl _) _))
theorem Fr.below {S : Nat → Prop} {w w' : World} (h : Fr S w w') {B : Nat} (hB : B ≤ w.heap.size) (hs : ∀ k, S k → B ≤ k) : Below B w w' :=
  ⟨h.os, h.tape, h.output, h.size, fun k hk => h.block k (by omega) fun hh => by have := hs k hh; omega⟩
theorem Rd.fr {w w' : World} {v : Value} {xs : List Value} (h : Rd w v xs) {S : Nat → Prop} (hf : Fr S w w') (hn : ∀ g, v.ownBlock = some g → xs ≠ [] → ¬ S g) : Rd w' v xs := h.keep fun g hg hx hlt => hf.block g hlt (hn g hg hx)
theorem own_lt {w : World} {base e size : Nat} {v : Value} {n : Nat} {xs : List Value} (h : w.ownsRow base e size v n xs) {g : Nat} (hg : v.ownBlock = some g) : base ≤ g ∧ g < w.heap.size := h.lt g hg
theorem ownsRow_fr {w w' : World} {base e size : Nat} {v : Value} {n : Nat} {xs : List Value} (h : w.ownsRow base e size v n xs) {S : Nat → Prop} (hf : Fr S w w') (hn : ∀ g, v.ownBlock = some g → ¬ S g) : w'.ownsRow base e size v n xs :=
  ownsRow_below h fun g hg => hf.block g (own_lt h hg).2 (hn g hg)
end Go.Proofs.Ytpnckphfjcnooaa
/- The walk of slices.Clone at bytes: what it hands back is the call's own, and reads as what came in. -/
namespace Go.Proofs.Ytpnckphfjcnooaa
open Go Go.RowKit
theorem info_byte : (Try.prog.info? 5).map (fun i => (i.zero, i.size, i.bytes)) = some (some (.int .u8 0), 1, 1) := by kernel_rfl
end Go.Proofs.Ytpnckphfjcnooaa
namespace Go.Proofs.Ytpnckphfjcnooaa
open Go Go.RowKit
/-- What a slot that holds a slice has as its length. -/
def lenV : Value → Nat | .slice _ n _ => n | _ => 0
theorem TabK_fr {K : Nat → BitVec 32} {g : Nat} {w w' : World} (h : TabK K g w) {S : Nat → Prop} (hf : Fr S w w') (hn : ¬ S g) : TabK K g w' := by
  obtain ⟨T, cs, fr, h1, h2⟩ := h
  exact ⟨T, cs, fr, (hf.block g (heap_lt h1) hn).trans h1, h2⟩
end Go.Proofs.Ytpnckphfjcnooaa

