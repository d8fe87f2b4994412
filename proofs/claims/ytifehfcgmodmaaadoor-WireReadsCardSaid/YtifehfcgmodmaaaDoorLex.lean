/- A region that draws its order, walked once in the order of the text: operations that only read yield, in every world of a class, one value; those that turn the world stand in one order among themselves, and leave a world of the class; the tail stands in one order behind all others. Of whatever program. -/
import Derived.Test.YtifehfcgmodmaaaDoorKit
namespace Go.Proofs.YtifehfcgmodmaaaDoor
open Go
section
variable {P : Program} {ops : Array Oper} {C : World → Prop} {E : Nat → Bool}

/-- An operation that hands back a value or nothing: no call of a Go function, no defer. -/
def isV : Op → Bool
  | .call { callee := .builtin .len, .. } => true
  | .call { callee := .builtin .cap, .. } => true
  | .call { callee := .builtin .min, .. } => true
  | .call { callee := .builtin .max, .. } => true
  | .call _ => false
  | .go _ => false
  | .defer _ => false
  | .send .. => false
  | .recv .. => false
  | .select .. => false
  | _ => true

/-- What it hands back is a value or nothing. -/
def plainRes : Result Next → Prop
  | .ok (.value _) _ => True
  | .ok .skip _ => True
  | .ok _ _ => False
  | .halt _ _ => True
theorem plainRes_v (s : Sem Value) (w : World) : plainRes ((do pure (Next.value (← s)) : Sem Next).run P w) := by
  simp only [Sem.run_bind]
  cases s.run P w <;> simp [Result.andThen, plainRes]
theorem plainRes_u (s : Sem Unit) (w : World) : plainRes ((do s; pure Next.skip : Sem Next).run P w) := by
  simp only [Sem.run_bind]
  cases s.run P w <;> simp [Result.andThen, plainRes]
theorem plainRes_bind {α : Type} (s : Sem α) (f : α → Sem Next) (w : World) (h : ∀ x w', plainRes ((f x).run P w')) : plainRes ((s >>= f).run P w) := by
  simp only [Sem.run_bind]
  cases s.run P w with
  | ok x w' => exact h x w'
  | halt x w' => simp [Result.andThen, plainRes]
theorem plainRes_pure (v : Value) (w : World) : plainRes ((pure (Next.value v) : Sem Next).run P w) := by simp [plainRes]
theorem plainRes_nil (w : World) : plainRes ((runtimePanic .nilDeref : Sem Next).run P w) := by
  unfold runtimePanic
  exact plainRes_bind _ _ _ fun _ _ => by simp [goPanic, plainRes]
theorem plainRes_unsupported (u : Unsupported) (w : World) : plainRes ((unsupported u : Sem Next).run P w) := by simp [unsupported, plainRes]
theorem isV_run {o : Oper} (h : isV o.op = true) (ρ : Operand → Value) (w : World) : plainRes ((execOp ρ o).run P w) := by
  obtain ⟨dst, op, type, pos, after, guard⟩ := o
  cases op
  case call c =>
    obtain ⟨callee, args, ats⟩ := c
    cases callee with
    | value f => simp [isV] at h
    | invoke r m => simp [isV] at h
    | builtin b => cases b <;> first | (simp [isV] at h; done) | exact plainRes_v _ _
  case go c => simp [isV] at h
  case defer c => simp [isV] at h
  case send c x => simp [isV] at h
  case recv c x b => simp [isV] at h
  case select c b => simp [isV] at h
  case nilCheck x =>
    simp only [execOp]
    split <;> first | exact plainRes_nil _ | exact plainRes_pure _ _ | skip
    split <;> first | exact plainRes_nil _ | exact plainRes_pure _ _ | skip
    refine plainRes_bind _ _ _ fun _ _ => plainRes_bind _ _ _ fun b _ => ?_
    split
    · exact plainRes_bind _ _ _ fun _ _ => plainRes_pure _ _
    · exact plainRes_pure _ _
  case pick c a b =>
    simp only [execOp]
    refine plainRes_bind _ _ _ fun b _ => ?_
    split <;> exact plainRes_pure _ _
  all_goals (simp only [execOp]; first | exact plainRes_pure _ _ | exact plainRes_v _ _ | exact plainRes_u _ _)

/-- In this world it hands back this value, and the world stands. -/
def qAt (P : Program) (o : Oper) (a : Act) (w : World) (v : Value) : Prop :=
  (execOp a.eval o).run P w = .ok (.value v) w ∨ ((execOp a.eval o).run P w = .ok .skip w ∧ v = undef)
theorem qAt_of_quietAt {o : Oper} {a : Act} {w : World} {v : Value} (h : isV o.op = true) (hq : o.quietAt P a C w v) : qAt P o a w v := by
  have hp := isV_run (P := P) h a.eval w
  unfold Oper.quietAt at hq
  unfold qAt
  generalize (execOp a.eval o).run P w = r at *
  cases r with
  | ok n w' =>
    cases n <;> simp only [Oper.quietUpon] at hq <;> simp only [plainRes] at hp
    case value u => obtain ⟨rfl, rfl⟩ := hq; exact .inl rfl
    case skip => obtain ⟨rfl, rfl⟩ := hq; exact .inr ⟨rfl, rfl⟩
  | halt x w' => simp only [Oper.quietUpon] at hq
theorem qAt_unique {o : Oper} {a : Act} {w : World} {v u : Value} (h : qAt P o a w v) (k : qAt P o a w u) : v = u := by
  rcases h with h | ⟨h, rfl⟩ <;> rcases k with k | ⟨k, rfl⟩
  · rw [h] at k; simpa using k
  · rw [h] at k; simp at k
  · rw [h] at k; simp at k
  · rfl
theorem qAt_wp {o : Oper} {a : Act} {w : World} {v : Value} {K : Act → World → Prop} {Q : Exit → Act → World → Prop} (h : qAt P o a w v) (hk : K (a.put o.dst v) w) : o.wp P a w K Q := by
  unfold Oper.wp
  rcases h with h | ⟨h, rfl⟩ <;> rw [h] <;> exact hk

/-- No way out but by the operation's own end. -/
def noOut : Exit → Act → World → Prop := fun _ _ _ => False
theorem wp_noOut {o : Oper} {a : Act} {w : World} {K : Act → World → Prop} {Q : Exit → Act → World → Prop} (h : o.wp P a w K noOut) : o.wp P a w K Q := by
  unfold Oper.wp at *
  generalize (execOp a.eval o).run P w = r at *
  cases r with
  | ok n w' =>
    cases n <;> simp only [Oper.upon] at h ⊢ <;> try exact h
    exact Calls.mono h fun e w'' he => by cases e <;> first | exact he | exact (he : False).elim | exact (by obtain ⟨_, _, hf⟩ := (he : LetsOut noOut); exact hf.elim)
  | halt x w' => cases x <;> simp only [Oper.upon] at h ⊢ <;> first | exact h.elim | exact (h : False).elim
/-- A slot that the operation does not look at may be written before it or behind it. -/
theorem wp_put {o : Oper} (hs : ∀ cs b, o.op ≠ .select cs b) {a : Act} {w : World} {dst : Option Tmp} {u : Value} (h1 : ∀ d, dst = some d → d ∉ o.looksAt ops) (h2 : ∀ d, dst = some d → o.dst ≠ some d)
    {K : Act → World → Prop} : o.wp P (a.put dst u) w K noOut ↔ o.wp P a w (fun a' w' => K (a'.put dst u) w') noOut := by
  unfold Oper.wp
  rw [execOp_put (ops := ops) o hs a dst u h1]
  generalize (execOp a.eval o).run P w = r
  have hc : ∀ v, (a.put dst u).put o.dst v = (a.put o.dst v).put dst u := fun v => Act.put_comm a u v h2
  cases r with
  | ok n w' =>
    cases n <;> simp only [Oper.upon, hc]
    case defer d =>
      have e : ({ a.put dst u with defers := d :: (a.put dst u).defers } : Act) = ({ a with defers := d :: a.defers } : Act).put dst u := Act.put_defers a dst u d
      rw [e, Act.put_comm _ u undef h2]
    case enter f args =>
      constructor <;> exact fun h => Calls.mono h fun e w'' he => by cases e <;> exact he
  | halt x w' => cases x <;> simp only [Oper.upon] <;> exact Iff.rfl

/-- One operation of the prefix. -/
def stepL (P : Program) (ops : Array Oper) (C : World → Prop) (eff : Bool) (o : Oper) (K : Act → World → Prop) (a : Act) (w : World) : Prop :=
  if Region.wanted o (yielded ops a.tmps) = true then
    (if eff = true then o.wp P a w (fun a' w' => C w' ∧ K a' w') noOut else ∃ v, (∀ w', C w' → qAt P o a w' v) ∧ K (a.put o.dst v) w)
  else K (a.put o.dst undef) w
theorem stepL_mono {eff : Bool} {o : Oper} {K K' : Act → World → Prop} (h : ∀ a w, C w → K a w → K' a w) {a : Act} {w : World} (hC : C w) (hs : stepL P ops C eff o K a w) : stepL P ops C eff o K' a w := by
  unfold stepL at *
  split
  · rename_i hw
    rw [if_pos hw] at hs
    split
    · rename_i he
      rw [if_pos he] at hs
      exact Oper.wp_mono (fun a w ⟨c, k⟩ => ⟨c, h a w c k⟩) hs
    · rename_i he
      rw [if_neg he] at hs
      obtain ⟨v, hv, hk⟩ := hs
      exact ⟨v, hv, h _ _ hC hk⟩
  · rename_i hw
    rw [if_neg hw] at hs
    exact h _ _ hC hs
theorem qAt_put {o : Oper} (hs : ∀ cs b, o.op ≠ .select cs b) {a : Act} {w : World} {dst : Option Tmp} {u v : Value} (h1 : ∀ d, dst = some d → d ∉ o.looksAt ops) : qAt P o (a.put dst u) w v ↔ qAt P o a w v := by
  unfold qAt
  rw [execOp_put (ops := ops) o hs a dst u h1]
/-- What a wp of an operation shows of some frame behind it. -/
theorem wp_some {o : Oper} {a : Act} {w : World} {K : Act → World → Prop} (h : o.wp P a w K noOut) : ∃ b v w', K (({ a with defers := b } : Act).put o.dst v) w' := by
  unfold Oper.wp at h
  generalize (execOp a.eval o).run P w = r at *
  cases r with
  | ok n w' =>
    cases n <;> simp only [Oper.upon] at h
    case value v => exact ⟨a.defers, v, w', h⟩
    case skip => exact ⟨a.defers, undef, w', h⟩
    case defer d => exact ⟨d :: a.defers, undef, w', h⟩
    case enter f args =>
      obtain ⟨e, w'', fr, he, _⟩ := h []
      cases e with
      | returned v => exact ⟨a.defers, v, w'', he⟩
      | panicked c => exact (he : False).elim
      | outgrown => obtain ⟨_, _, hf⟩ := (he : LetsOut noOut); exact hf.elim
    case row r args =>
      obtain ⟨v, w'', he, _⟩ := h default []
      exact ⟨a.defers, v, w'', he⟩
  | halt x w' => cases x <;> simp only [Oper.upon] at h <;> first | exact h.elim | exact (h : False).elim
theorem wp_mono_put {o : Oper} {a : Act} {w : World} {K K' : Act → World → Prop} (hk : ∀ b v w', K (({ a with defers := b } : Act).put o.dst v) w' → K' (({ a with defers := b } : Act).put o.dst v) w') (h : o.wp P a w K noOut) : o.wp P a w K' noOut := by
  unfold Oper.wp at *
  generalize (execOp a.eval o).run P w = r at *
  cases r with
  | ok n w' =>
    cases n <;> simp only [Oper.upon] at h ⊢
    case value v => exact hk a.defers v w' h
    case skip => exact hk a.defers undef w' h
    case defer d => exact hk _ undef w' h
    case enter f args => exact Calls.mono h fun e w'' he => by cases e <;> first | exact hk a.defers _ _ he | exact he
    case row r args => exact Rows.mono h fun v w'' he => hk a.defers v _ he
  | halt x w' => cases x <;> simp only [Oper.upon] at h ⊢ <;> exact h
theorem qAt_defers {o : Oper} {a : Act} {w : World} {v : Value} (b : List Deferred) : qAt P o { a with defers := b } w v ↔ qAt P o a w v := by
  have e : (({ a with defers := b } : Act).eval) = a.eval := by funext x; cases x <;> rfl
  unfold qAt
  rw [e]
/-- TWO STEPS MAY CHANGE PLACES: apart, and not both of those that turn the world. -/
theorem stepL_swap {ei ej : Bool} {oi oj : Oper} (hsi : ∀ cs b, oi.op ≠ .select cs b) (hsj : ∀ cs b, oj.op ≠ .select cs b) (hap : oi.apart ops oj = true) (hE : ei = false ∨ ej = false)
    {K : Act → World → Prop} {a : Act} {w : World} (hC : C w) (h : stepL P ops C ei oi (stepL P ops C ej oj K) a w) : stepL P ops C ej oj (stepL P ops C ei oi K) a w := by
  obtain ⟨h1, h2, h3⟩ := Oper.apart_spec hap
  have h2' : ∀ d, oj.dst = some d → oi.dst ≠ some d := fun d hd he => h2 d he hd
  have wj : ∀ (a : Act) v, Region.wanted oj (yielded ops (a.put oi.dst v).tmps) = Region.wanted oj (yielded ops a.tmps) := fun a v => wanted_put oj a oi.dst v h1
  have wi : ∀ (a : Act) v, Region.wanted oi (yielded ops (a.put oj.dst v).tmps) = Region.wanted oi (yielded ops a.tmps) := fun a v => wanted_put oi a oj.dst v h3
  have pc : ∀ (a : Act) v u, (a.put oi.dst v).put oj.dst u = (a.put oj.dst u).put oi.dst v := fun a v u => Act.put_comm a v u h2
  by_cases hwi : Region.wanted oi (yielded ops a.tmps) = true
  · by_cases hei : ei = true
    · have hej : ej = false := hE.resolve_left (by simp [hei])
      subst hei hej
      unfold stepL at h
      rw [if_pos hwi, if_pos rfl] at h
      by_cases hwj : Region.wanted oj (yielded ops a.tmps) = true
      · have key : ∀ b v w', (C w' ∧ stepL P ops C false oj K (({ a with defers := b } : Act).put oi.dst v) w') → C w' ∧ ∃ u, (∀ w'', C w'' → qAt P oj a w'' u) ∧ K ((({ a with defers := b } : Act).put oi.dst v).put oj.dst u) w' := by
          rintro b v w' ⟨hc, hs⟩
          unfold stepL at hs
          rw [if_pos (by rw [wj]; exact hwj), if_neg (by simp)] at hs
          obtain ⟨u, hu, hk⟩ := hs
          exact ⟨hc, u, fun w'' hw'' => (qAt_defers b).1 ((qAt_put (ops := ops) hsj h1).1 (hu w'' hw'')), hk⟩
        obtain ⟨b, v, w', hs⟩ := wp_some h
        obtain ⟨_, u, hu, _⟩ := key b v w' hs
        unfold stepL
        rw [if_pos hwj, if_neg (by simp)]
        refine ⟨u, hu, ?_⟩
        rw [if_pos (by rw [wi]; exact hwi), if_pos rfl]
        refine (wp_put (ops := ops) hsi h3 h2').2 (wp_mono_put (fun b v w' hs => ?_) h)
        obtain ⟨hc, u', hu', hk⟩ := key b v w' hs
        rw [qAt_unique (hu w hC) (hu' w hC)]
        exact ⟨hc, hk⟩
      · unfold stepL
        rw [if_neg hwj, if_pos (by rw [wi]; exact hwi), if_pos rfl]
        refine (wp_put (ops := ops) hsi h3 h2').2 (wp_mono_put (fun b v w' hs => ?_) h)
        obtain ⟨hc, hs⟩ := hs
        rw [if_neg (by rw [wj]; exact hwj)] at hs
        exact ⟨hc, hs⟩
    · have hei' : ei = false := by simpa using hei
      subst hei'
      unfold stepL at h
      rw [if_pos hwi, if_neg (by simp)] at h
      obtain ⟨v, hv, h⟩ := h
      unfold stepL
      by_cases hwj : Region.wanted oj (yielded ops a.tmps) = true
      · rw [if_pos (by rw [wj]; exact hwj)] at h
        rw [if_pos hwj]
        by_cases hej : ej = true
        · subst hej
          rw [if_pos rfl] at h ⊢
          refine wp_mono_put (fun b u w' hs => ?_) ((wp_put (ops := ops) hsj h1 h2).1 h)
          obtain ⟨hc, hk⟩ := hs
          refine ⟨hc, ?_⟩
          rw [if_pos (by rw [wi]; exact hwi), if_neg (by simp)]
          exact ⟨v, fun w'' hw'' => (qAt_put (ops := ops) hsi h3).2 ((qAt_defers b).2 (hv w'' hw'')), hk⟩
        · rw [if_neg hej] at h ⊢
          obtain ⟨u, hu, hk⟩ := h
          refine ⟨u, fun w'' hw'' => (qAt_put (ops := ops) hsj h1).1 (hu w'' hw''), ?_⟩
          rw [if_pos (by rw [wi]; exact hwi), if_neg (by simp)]
          exact ⟨v, fun w'' hw'' => (qAt_put (ops := ops) hsi h3).2 (hv w'' hw''), by rw [← pc]; exact hk⟩
      · rw [if_neg (by rw [wj]; exact hwj)] at h
        rw [if_neg hwj, if_pos (by rw [wi]; exact hwi), if_neg (by simp)]
        exact ⟨v, fun w'' hw'' => (qAt_put (ops := ops) hsi h3).2 (hv w'' hw''), by rw [← pc]; exact h⟩
  · unfold stepL at h
    rw [if_neg hwi] at h
    unfold stepL
    by_cases hwj : Region.wanted oj (yielded ops a.tmps) = true
    · rw [if_pos (by rw [wj]; exact hwj)] at h
      rw [if_pos hwj]
      by_cases hej : ej = true
      · subst hej
        rw [if_pos rfl] at h ⊢
        refine wp_mono_put (fun b u w' hs => ?_) ((wp_put (ops := ops) hsj h1 h2).1 h)
        obtain ⟨hc, hk⟩ := hs
        refine ⟨hc, ?_⟩
        rw [if_neg (by rw [wi]; exact hwi)]
        exact hk
      · rw [if_neg hej] at h ⊢
        obtain ⟨u, hu, hk⟩ := h
        refine ⟨u, fun w'' hw'' => (qAt_put (ops := ops) hsj h1).1 (hu w'' hw''), ?_⟩
        rw [if_neg (by rw [wi]; exact hwi), ← pc]
        exact hk
    · rw [if_neg (by rw [wj]; exact hwj)] at h
      rw [if_neg hwj, if_neg (by rw [wi]; exact hwi), ← pc]
      exact h

/-- The prefix, in the order of the list; T behind it. -/
def wpLs (P : Program) (ops : Array Oper) (C : World → Prop) (E : Nat → Bool) (T : Act → World → Prop) : List Nat → Act → World → Prop
  | [], a, w => T a w
  | i :: l, a, w => match ops[i]? with
    | some o => stepL P ops C (E i) o (wpLs P ops C E T l) a w
    | none => False
theorem wpLs_front {T : Act → World → Prop} (hs : ∀ (j : Nat) (o : Oper) cs b, ops[j]? = some o → o.op ≠ .select cs b) {j : Nat} {oj : Oper} (hj : ops[j]? = some oj) : ∀ (p q : List Nat) (a : Act) (w : World),
    (∀ i ∈ p, ∀ oi, ops[i]? = some oi → oi.apart ops oj = true ∧ (E i = false ∨ E j = false)) → C w → wpLs P ops C E T (p ++ j :: q) a w → stepL P ops C (E j) oj (wpLs P ops C E T (p ++ q)) a w
  | [], q, a, w, _, _, h => by simpa [wpLs, hj] using h
  | i :: p, q, a, w, hp, hC, h => by
    simp only [List.cons_append, wpLs] at h
    cases hi : ops[i]? with
    | none => rw [hi] at h; exact h.elim
    | some oi =>
      rw [hi] at h
      simp only at h
      obtain ⟨hap, hE⟩ := hp i (by simp) oi hi
      have ih := stepL_mono (fun a w hc hk => wpLs_front hs hj p q a w (fun x hx => hp x (by simp [hx])) hc hk) hC h
      have := stepL_swap (hs i oi · · hi) (hs j oj · · hj) hap hE hC ih
      refine stepL_mono (fun a w _ hk => ?_) hC this
      simp only [List.cons_append, wpLs, hi]
      exact hk

theorem stepL_wpOp {i : Nat} {o : Oper} (hi : ops[i]? = some o) {eff : Bool} {K K' : Act → World → Prop} {Q : Exit → Act → World → Prop} (h : ∀ a w, C w → K a w → K' a w) {a : Act} {w : World} (hC : C w) (hs : stepL P ops C eff o K a w) : wpOp P ops Q i K' a w := by
  unfold stepL at hs
  unfold wpOp
  simp only [hi]
  split
  · rename_i hw
    rw [if_pos hw] at hs
    by_cases he : eff = true
    · rw [if_pos he] at hs
      exact .inl (wp_noOut (Oper.wp_mono (fun a w ⟨c, k⟩ => h a w c k) hs))
    · rw [if_neg he] at hs
      obtain ⟨v, hv, hk⟩ := hs
      exact .inl (qAt_wp (hv w hC) (h _ _ hC hk))
  · rename_i hw
    rw [if_neg hw] at hs
    exact h _ _ hC hs

/-- A certificate: number k's bits are operations that come ahead of k in every order. -/
def maskOk (ops : Array Oper) (M : Array Nat) : Bool := (List.range ops.size).all fun k => match ops[k]? with
  | none => false
  | some o => (o.after.all fun e => !Region.binds .any e || decide (e.on < k)) && (List.range ops.size).all fun j => !(M.getD k 0).testBit j || o.after.any fun e => Region.binds .any e && (e.on == j || (decide (e.on < k) && (M.getD e.on 0).testBit j))
def pairsOk (ops : Array Oper) (E : Nat → Bool) (N : Nat) (M : Array Nat) : Bool := (List.range ops.size).all fun k => (List.range k).all fun j => (M.getD k 0).testBit j || (decide (k < N) && match ops[j]?, ops[k]? with
  | some oj, some ok => oj.apart ops ok && (!E j || !E k)
  | _, _ => false)
def lexOK (ops : Array Oper) (E : Nat → Bool) (N : Nat) (M : Array Nat) : Bool := Region.noSelect ops && maskOk ops M && pairsOk ops E N M && decide (N ≤ ops.size)

def Closed (ops : Array Oper) (listed : Array Bool) : Prop := ∀ k o, ops[k]? = some o → listed.getD k false = true → ∀ e ∈ o.after, Region.binds .any e = true → listed.getD e.on false = true
theorem mask_listed {M : Array Nat} (hM : maskOk ops M = true) {listed : Array Bool} (hc : Closed ops listed) : ∀ (k : Nat) (o : Oper), ops[k]? = some o → (∀ e ∈ o.after, Region.binds .any e = true → listed.getD e.on false = true) →
    ∀ j, j < ops.size → (M.getD k 0).testBit j = true → listed.getD j false = true := by
  intro k
  induction k using Nat.strongRecOn with
  | _ k ih =>
    intro o ho he j hj hb
    have hk : k < ops.size := (Array.getElem?_eq_some_iff.1 ho).1
    have h1 := List.all_eq_true.1 hM k (List.mem_range.2 hk)
    rw [ho] at h1
    simp only [Bool.and_eq_true] at h1
    have h2 := List.all_eq_true.1 h1.2 j (List.mem_range.2 hj)
    simp only [hb, Bool.not_true, Bool.false_or] at h2
    obtain ⟨e, hem, hx⟩ := Array.any_eq_true'.1 h2
    simp only [Bool.and_eq_true, Bool.or_eq_true, beq_iff_eq, decide_eq_true_eq] at hx
    obtain ⟨hbind, hx⟩ := hx
    have hl := he e hem hbind
    rcases hx with rfl | ⟨hlt, hbit⟩
    · exact hl
    · have hon : e.on < ops.size := by omega
      have ho' : ops[e.on]? = some ops[e.on] := Array.getElem?_eq_getElem hon
      exact ih e.on hlt _ ho' (hc e.on _ ho' hl) j hj hbit
theorem edges_back {M : Array Nat} (hM : maskOk ops M = true) {k : Nat} {o : Oper} (ho : ops[k]? = some o) : ∀ e ∈ o.after, Region.binds .any e = true → e.on < k := by
  intro e he hb
  have hk : k < ops.size := (Array.getElem?_eq_some_iff.1 ho).1
  have h1 := List.all_eq_true.1 hM k (List.mem_range.2 hk)
  rw [ho] at h1
  simp only [Bool.and_eq_true] at h1
  have h2 := Array.all_eq_true_iff_forall_mem.1 h1.1 e he
  simpa [hb] using h2
theorem pair_of {N : Nat} {M : Array Nat} (h : pairsOk ops E N M = true) {j k : Nat} (hk : k < ops.size) (hjk : j < k) : (M.getD k 0).testBit j = true ∨ (k < N ∧ ∀ oj ok, ops[j]? = some oj → ops[k]? = some ok → oj.apart ops ok = true ∧ (E j = false ∨ E k = false)) := by
  have h1 := List.all_eq_true.1 (List.all_eq_true.1 h k (List.mem_range.2 hk)) j (List.mem_range.2 hjk)
  simp only [Bool.or_eq_true, Bool.and_eq_true, decide_eq_true_eq] at h1
  rcases h1 with h1 | ⟨h1, h2⟩
  · exact .inl h1
  · refine .inr ⟨h1, fun oj ok ej ek => ?_⟩
    rw [ej, ek] at h2
    simpa using h2

theorem mem_wait {listed : Array Bool} {k : Nat} (hz : listed.size = ops.size) {o : Oper} (ho : ops[k]? = some o) (h0 : listed.getD k false = false) (he : ∀ e ∈ o.after, Region.binds .any e = true → listed.getD e.on false = true) : k ∈ Region.ready .any ops listed := by
  have hk : k < ops.size := (Array.getElem?_eq_some_iff.1 ho).1
  refine mem_ready.2 ⟨?_, o, ho, he⟩
  simpa [show k < listed.size by omega] using h0
theorem ready_spec {listed : Array Bool} {k : Nat} (hz : listed.size = ops.size) (h : k ∈ Region.ready .any ops listed) : ∃ o, ops[k]? = some o ∧ listed.getD k false = false ∧ ∀ e ∈ o.after, Region.binds .any e = true → listed.getD e.on false = true := by
  obtain ⟨h0, o, ho, he⟩ := mem_ready.1 h
  have hk : k < ops.size := (Array.getElem?_eq_some_iff.1 ho).1
  exact ⟨o, ho, by simpa [show k < listed.size by omega] using h0, he⟩
theorem closed_set {listed : Array Bool} (hc : Closed ops listed) {i : Nat} {oi : Oper} (hi : ops[i]? = some oi) (he : ∀ e ∈ oi.after, Region.binds .any e = true → listed.getD e.on false = true) : Closed ops (listed.setIfInBounds i true) := by
  intro k o ho hl e hem hb
  by_cases hk : i = k
  · subst hk
    rw [hi] at ho
    cases ho
    exact getD_set_true (he e hem hb)
  · rw [getD_set_ne false hk] at hl
    exact getD_set_true (hc k o ho hl e hem hb)
theorem getD_set_self {listed : Array Bool} {i : Nat} (h : i < listed.size) : (listed.setIfInBounds i true).getD i false = true := by simp [h]

/-- The tail stands in one order. -/
theorem lex_tail {M : Array Nat} {N : Nat} {Q : Exit → Act → World → Prop} (hM : maskOk ops M = true) (hp : pairsOk ops E N M = true) : ∀ (fuel k : Nat) (listed : Array Bool) (a : Act) (w : World), listed.size = ops.size → Closed ops listed →
    (∀ i, i < k → i < ops.size → listed.getD i false = true) → (∀ i, k ≤ i → i < ops.size → listed.getD i false = false) → N ≤ k → ops.size - k ≤ fuel → wpOps P ops Q (List.range' k (ops.size - k)) a w → wpAny P .any ops Q fuel listed a w := by
  intro fuel
  induction fuel with
  | zero =>
    intro k listed a w hz hc hlo hhi hN hf h
    have hk : ops.size - k = 0 := by omega
    rw [hk] at h
    refine ⟨?_, by simpa [wpOps] using h⟩
    apply List.eq_nil_iff_forall_not_mem.2
    intro i hi
    obtain ⟨o, ho, h0, _⟩ := ready_spec hz hi
    have hi' : i < ops.size := (Array.getElem?_eq_some_iff.1 ho).1
    rw [hlo i (by omega) hi'] at h0
    cases h0
  | succ fuel ih =>
    intro k listed a w hz hc hlo hhi hN hf h
    by_cases hk : k < ops.size
    · have ho : ops[k]? = some ops[k] := Array.getElem?_eq_getElem hk
      have hr : k ∈ Region.ready .any ops listed := mem_wait hz ho (hhi k (Nat.le_refl _) hk) fun e he hb => hlo _ (edges_back hM ho e he hb) (by have := edges_back hM ho e he hb; omega)
      refine ⟨fun h0 => (by rw [h0] at hr; cases hr), fun i hi => ?_⟩
      obtain ⟨o, hio, h0, he⟩ := ready_spec hz hi
      have hi' : i < ops.size := (Array.getElem?_eq_some_iff.1 hio).1
      have hki : k ≤ i := by
        rcases Nat.lt_or_ge i k with h' | h'
        · rw [hlo i h' hi'] at h0; cases h0
        · exact h'
      have hik : i = k := by
        rcases Nat.lt_or_ge k i with h' | h'
        · exfalso
          rcases pair_of hp hi' h' with hb | ⟨hb, _⟩
          · have := mask_listed hM hc i o hio he k hk hb
            rw [hhi k (Nat.le_refl _) hk] at this
            cases this
          · omega
        · omega
      subst hik
      rw [show ops.size - i = (ops.size - (i + 1)) + 1 by omega, List.range'_succ, wpOps_cons] at h
      refine wpOp_mono (fun a w hk => ih (i + 1) _ a w (by simp [hz]) (closed_set hc hio he) ?_ ?_ (by omega) (by omega) hk) h
      · intro j hj hjs
        by_cases hji : i = j
        · subst hji; exact getD_set_self (by omega)
        · exact getD_set_true (hlo j (by omega) hjs)
      · intro j hj hjs
        rw [getD_set_ne false (by omega)]
        exact hhi j (by omega) hjs
    · have hk' : ops.size - k = 0 := by omega
      rw [hk'] at h
      refine ⟨fun _ => by simpa [wpOps] using h, fun i hi => ?_⟩
      obtain ⟨o, ho, h0, _⟩ := ready_spec hz hi
      have hi' : i < ops.size := (Array.getElem?_eq_some_iff.1 ho).1
      rw [hlo i (by omega) hi'] at h0
      cases h0
def waiting (listed : Array Bool) (N : Nat) : List Nat := (List.range N).filter fun i => !listed.getD i true
theorem mem_waiting {listed : Array Bool} {N i : Nat} (h : N ≤ listed.size) : i ∈ waiting listed N ↔ i < N ∧ listed.getD i false = false := by
  unfold waiting
  rw [List.mem_filter, List.mem_range]
  constructor
  · rintro ⟨h1, h2⟩
    exact ⟨h1, by simpa [show i < listed.size by omega] using h2⟩
  · rintro ⟨h1, h2⟩
    exact ⟨h1, by simpa [show i < listed.size by omega] using h2⟩
theorem waiting_sorted (listed : Array Bool) (N : Nat) : (waiting listed N).Pairwise (· < ·) := List.Pairwise.filter _ List.pairwise_lt_range
theorem waiting_set {listed : Array Bool} {N i : Nat} (h : N ≤ listed.size) {p q : List Nat} (hw : waiting listed N = p ++ i :: q) : waiting (listed.setIfInBounds i true) N = p ++ q := by
  have hs := waiting_sorted listed N
  rw [hw] at hs
  have e : waiting (listed.setIfInBounds i true) N = (waiting listed N).filter fun j => j != i := by
    unfold waiting
    rw [List.filter_filter]
    apply List.filter_congr
    intro j hj
    rw [List.mem_range] at hj
    by_cases hji : i = j
    · subst hji; simp [show i < listed.size by omega]
    · rw [getD_set_ne true hji]
      simp [Ne.symm hji]
  rw [e, hw, List.filter_append, List.filter_cons_of_neg (by simp)]
  rw [List.pairwise_append] at hs
  obtain ⟨_, h2, h3⟩ := hs
  rw [List.pairwise_cons] at h2
  rw [List.filter_eq_self.2, List.filter_eq_self.2]
  · intro j hj
    have := h2.1 j hj
    simp; omega
  · intro j hj
    have := h3 j hj i (by simp)
    simp; omega
/-- The prefix, in whatever order. -/
theorem lex_prefix {M : Array Nat} {N : Nat} {Q : Exit → Act → World → Prop} (hs : Region.noSelect ops = true) (hM : maskOk ops M = true) (hp : pairsOk ops E N M = true) (hN : N ≤ ops.size) : ∀ (fuel : Nat) (listed : Array Bool) (a : Act) (w : World), listed.size = ops.size → Closed ops listed →
    (∀ i, N ≤ i → i < ops.size → listed.getD i false = false) → C w → (waiting listed N).length + (ops.size - N) ≤ fuel →
    wpLs P ops C E (fun a w => wpOps P ops Q (List.range' N (ops.size - N)) a w) (waiting listed N) a w → wpAny P .any ops Q fuel listed a w := by
  intro fuel
  induction fuel with
  | zero =>
    intro listed a w hz hc hhi hC hf h
    have h0 : waiting listed N = [] := List.eq_nil_of_length_eq_zero (by omega)
    rw [h0] at h
    refine lex_tail (N := N) hM hp 0 N listed a w hz hc (fun i hi hi' => ?_) hhi (Nat.le_refl _) (by omega) h
    cases hl : listed.getD i false with
    | true => rfl
    | false => have := (mem_waiting (listed := listed) (N := N) (by omega)).2 ⟨hi, hl⟩; rw [h0] at this; cases this
  | succ fuel ih =>
    intro listed a w hz hc hhi hC hf h
    cases hw : waiting listed N with
    | nil =>
      rw [hw] at h
      refine lex_tail (N := N) hM hp (fuel + 1) N listed a w hz hc (fun i hi hi' => ?_) hhi (Nat.le_refl _) (by rw [hw] at hf; simpa using hf) h
      cases hl : listed.getD i false with
      | true => rfl
      | false => have := (mem_waiting (listed := listed) (N := N) (by omega)).2 ⟨hi, hl⟩; rw [hw] at this; cases this
    | cons k0 rest =>
      have hk0 := (mem_waiting (listed := listed) (N := N) (i := k0) (by omega)).1 (by rw [hw]; simp)
      have hsort := waiting_sorted listed N
      have hlow : ∀ i, i < k0 → listed.getD i false = true := by
        intro i hi
        cases hl : listed.getD i false with
        | true => rfl
        | false =>
          have hm := (mem_waiting (listed := listed) (N := N) (i := i) (by omega)).2 ⟨by omega, hl⟩
          rw [hw] at hm hsort
          rw [List.pairwise_cons] at hsort
          rcases List.mem_cons.1 hm with rfl | hm
          · omega
          · have := hsort.1 i hm; omega
      have hk0s : k0 < ops.size := by omega
      have ho0 : ops[k0]? = some ops[k0] := Array.getElem?_eq_getElem hk0s
      have hr : k0 ∈ Region.ready .any ops listed := mem_wait hz ho0 hk0.2 fun e he hb => hlow _ (edges_back hM ho0 e he hb)
      refine ⟨fun h0 => (by rw [h0] at hr; cases hr), fun i hi => ?_⟩
      obtain ⟨oi, hio, h0, he⟩ := ready_spec hz hi
      have hi' : i < ops.size := (Array.getElem?_eq_some_iff.1 hio).1
      have hbits : ∀ j, j < ops.size → (M.getD i 0).testBit j = true → listed.getD j false = true := mask_listed hM hc i oi hio he
      have hiN : i < N := by
        rcases Nat.lt_or_ge i N with h' | h'
        · exact h'
        · exfalso
          rcases pair_of hp hi' (show k0 < i by omega) with hb | ⟨hb, _⟩
          · have := hbits k0 (by omega) hb
            rw [hk0.2] at this
            cases this
          · omega
      have hmem := (mem_waiting (listed := listed) (N := N) (i := i) (by omega)).2 ⟨hiN, h0⟩
      obtain ⟨p, q, hpq⟩ := List.append_of_mem hmem
      have hfront := wpLs_front (E := E) (Region.noSelect_spec hs) hio p q a w (fun j hj oj hjo => by
        have hji : j < i := by
          have hs' := hsort
          rw [hpq, List.pairwise_append] at hs'
          exact hs'.2.2 j hj i (by simp)
        have hj0 := ((mem_waiting (listed := listed) (N := N) (i := j) (by omega)).1 (by rw [hpq]; simp [hj])).2
        rcases pair_of hp hi' hji with hb | ⟨_, hb⟩
        · have := hbits j (by omega) hb
          rw [hj0] at this
          cases this
        · exact hb oj oi hjo hio) hC (by rw [← hpq]; exact h)
      have hset := waiting_set (listed := listed) (N := N) (by omega) hpq
      refine stepL_wpOp hio (fun a w hc' hk => ih _ a w (by simp [hz]) (closed_set hc hio he) (fun j hj hjs => ?_) hc' ?_ ?_) hC hfront
      · rw [getD_set_ne false (by omega)]; exact hhi j hj hjs
      · rw [hset]; rw [hpq] at hf; simp at hf ⊢; omega
      · rw [hset]; exact hk

/-- The walk itself: n operations of the prefix are left, the next one is number k; behind them the tail, in its one order. -/
def wpLx (P : Program) (ops : Array Oper) (C : World → Prop) (E : Nat → Bool) (Q : Exit → Act → World → Prop) : Nat → Nat → List Oper → Act → World → Prop
  | 0, _, l, a, w => wpList P ops Q l a w
  | n + 1, k, o :: l, a, w => stepL P ops C (E k) o (wpLx P ops C E Q n (k + 1) l) a w
  | _ + 1, _, [], _, _ => False
theorem wpLs_of_wpLx {Q : Exit → Act → World → Prop} : ∀ (n k : Nat) (l : List Oper) (a : Act) (w : World), (∀ j, l[j]? = ops[k + j]?) → n ≤ l.length → k + l.length = ops.size → wpLx P ops C E Q n k l a w →
    wpLs P ops C E (fun a w => wpOps P ops Q (List.range' (k + n) (ops.size - (k + n))) a w) (List.range' k n) a w
  | 0, k, l, a, w, hl, _, hz, h => by
    simp only [List.range'_zero, wpLs, Nat.add_zero]
    simp only [wpLx] at h
    rw [show ops.size - k = l.length by omega, wpOps_eq_wpList l k hl]
    exact h
  | n + 1, k, [], a, w, _, hn, _, _ => by simp at hn
  | n + 1, k, o :: l, a, w, hl, hn, hz, h => by
    have h0 : ops[k]? = some o := by simpa using (hl 0).symm
    simp only [wpLx] at h
    rw [List.range'_succ]
    simp only [wpLs, h0]
    have ih := fun a w => wpLs_of_wpLx (Q := Q) n (k + 1) l a w (fun j => by have := hl (j + 1); simpa [Nat.add_assoc, Nat.add_comm 1 j] using this) (by simpa using hn) (by simp at hz; omega)
    rw [show k + (n + 1) = k + 1 + n by omega]
    unfold stepL at h ⊢
    split
    · rename_i hw
      rw [if_pos hw] at h
      split
      · rename_i he
        rw [if_pos he] at h
        exact Oper.wp_mono (fun a w ⟨c, hk⟩ => ⟨c, ih a w hk⟩) h
      · rename_i he
        rw [if_neg he] at h
        obtain ⟨v, hv, hk⟩ := h
        exact ⟨v, hv, ih _ _ hk⟩
    · rename_i hw
      rw [if_neg hw] at h
      exact ih _ _ h
/-- **A REGION THAT DRAWS ITS ORDER IS WALKED ONCE**: n operations of the prefix in the text's order (those that E names turn the world, and leave a world of the class C), the rest as a plain list. -/
theorem wp_region_lex {id : Nat} {Q : Exit → Act → World → Prop} {a : Act} {w : World} {l : List Oper} (C : World → Prop) (E : Nat → Bool) (n : Nat) (hm : P.follows .mixedOrders = true)
    (hB : lexOK l.toArray E n (Region.before l.toArray) = true) (hC : C { w with drawn := w.drawn + 1 }) (h : wpLx P l.toArray C E Q n 0 l a { w with drawn := w.drawn + 1 }) : (Code.region id l.toArray true).wp P Q a w := by
  simp only [lexOK, Bool.and_eq_true, decide_eq_true_eq] at hB
  obtain ⟨⟨⟨hs, hM⟩, hp⟩, hN⟩ := hB
  have hN' : n ≤ l.length := by simpa using hN
  refine wp_region_any hm ?_
  have hw : waiting (Array.replicate l.toArray.size false) n = List.range n := by
    unfold waiting
    rw [List.filter_eq_self]
    intro i hi
    rw [List.mem_range] at hi
    have : i < l.length := by omega
    simp [this]
  have h1 := wpLs_of_wpLx (E := E) (ops := l.toArray) n 0 l a _ (by simp) hN' (by simp) h
  rw [Nat.zero_add, ← List.range_eq_range'] at h1
  refine lex_prefix (E := E) hs hM hp hN _ _ a _ (by simp) ?_ ?_ hC ?_ ?_
  · intro k o _ hl
    exfalso
    have hk : ¬ (Array.replicate l.toArray.size false).getD k false = true := by
      by_cases hk : k < l.length <;> simp [hk]
    exact hk hl
  · intro i _ hi
    have hi' : i < l.length := by simpa using hi
    simp [hi']
  · rw [hw]; simp; omega
  · rw [hw]; exact h1
section
variable {Q : Exit → Act → World → Prop} {n k : Nat} {o : Oper} {l : List Oper} {a : Act} {w : World}
theorem lx_quiet (hE : E k = false) (hw : Region.wanted o (yielded ops a.tmps) = true) (hv : isV o.op = true) (h : ∀ K : Act → Prop, (∀ a', wpLx P ops C E Q n (k + 1) l a' w → K a') → o.quiet P a C K) : wpLx P ops C E Q (n + 1) k (o :: l) a w := by
  obtain ⟨v, hq, hk⟩ := h (fun a' => wpLx P ops C E Q n (k + 1) l a' w) fun _ h => h
  simp only [wpLx, stepL, hw, if_true, hE]
  exact ⟨v, fun w' hw' => qAt_of_quietAt hv (hq w' hw'), hk⟩
theorem lx_skip (hw : Region.wanted o (yielded ops a.tmps) = false) (h : wpLx P ops C E Q n (k + 1) l (a.put o.dst undef) w) : wpLx P ops C E Q (n + 1) k (o :: l) a w := by
  simp only [wpLx, stepL, hw]
  exact h
theorem lx_eff (hE : E k = true) (hw : Region.wanted o (yielded ops a.tmps) = true) (h : ∀ K : Act → World → Prop, (∀ a' w', (C w' ∧ wpLx P ops C E Q n (k + 1) l a' w') → K a' w') → o.wp P a w K noOut) : wpLx P ops C E Q (n + 1) k (o :: l) a w := by
  simp only [wpLx, stepL, hw, if_true, hE]
  exact h _ fun _ _ h => h
theorem lx_done (h : wpList P ops Q l a w) : wpLx P ops C E Q 0 k l a w := h
end
end
attribute [irreducible] wpLx
end Go.Proofs.YtifehfcgmodmaaaDoor
