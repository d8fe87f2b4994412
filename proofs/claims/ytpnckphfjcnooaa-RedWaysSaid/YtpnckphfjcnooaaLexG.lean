/- As the walk of a region that draws its order (wp_region_lexF), but one operation (number sp) may hand back whatever answers R, with a world of its own behind it: a conversion of a string, a call that is not ordered with another one. -/
import Derived.Test.YtpnckphfjcnooaaA3
namespace Go.Proofs.Ytpnckphfjcnooaa
open Go Go.RowKit
section
variable {P : Program} {ops : Array Oper} {w0 : World} {Kd : Nat → Nat} {sp : Nat} {R : World → Value → Prop}
/-- What the special operation does. -/
def mkR (P : Program) (w0 : World) (R : World → Value → Prop) (o : Oper) (a : Act) : Prop := (∀ w w' v, Aft w w' → R w v → R w' v) ∧ ∀ w1, Aft w0 w1 → ∃ v w2, (execOp a.eval o).run P w1 = .ok (.value v) w2 ∧ Aft w1 w2 ∧ R w2 v
/-- What a value is, wherever in the order it is made. -/
def Spec (P : Program) (w0 : World) (kd : Nat) (special : Bool) (R : World → Value → Prop) (o : Oper) (a : Act) (S : World → Value → Prop) : Prop :=
  if special = true ∧ kd = 1 then S = R ∧ mkR P w0 R o a
  else ∃ ob F, S = (fun w v => ∃ g, holds w0 g w ob ∧ v = F g) ∧ (kd = 0 → ob = none) ∧ ∀ w1, Aft w0 w1 → pAt P o a w1 F ob
theorem mkR_put {o : Oper} (hs : ∀ cs b, o.op ≠ .select cs b) {a : Act} {dst : Option Tmp} {u : Value} (h1 : ∀ d, dst = some d → d ∉ o.looksAt ops) : mkR P w0 R o (a.put dst u) ↔ mkR P w0 R o a := by
  unfold mkR
  rw [execOp_put (ops := ops) o hs a dst u h1]
theorem mkR_defers {o : Oper} {a : Act} (b : List Deferred) : mkR P w0 R o { a with defers := b } ↔ mkR P w0 R o a := by
  have e : (({ a with defers := b } : Act).eval) = a.eval := by funext x; cases x <;> rfl
  unfold mkR
  rw [e]
theorem Spec_put {kd : Nat} {sb : Bool} {S : World → Value → Prop} {o : Oper} (hs : ∀ cs b, o.op ≠ .select cs b) {a : Act} {dst : Option Tmp} {u : Value} (h1 : ∀ d, dst = some d → d ∉ o.looksAt ops) : Spec P w0 kd sb R o (a.put dst u) S ↔ Spec P w0 kd sb R o a S := by
  unfold Spec
  split
  · rw [mkR_put (ops := ops) hs h1]
  · simp only [pAt_put (ops := ops) hs h1]
theorem Spec_defers {kd : Nat} {sb : Bool} {S : World → Value → Prop} {o : Oper} {a : Act} (b : List Deferred) : Spec P w0 kd sb R o { a with defers := b } S ↔ Spec P w0 kd sb R o a S := by
  unfold Spec
  split
  · rw [mkR_defers b]
  · simp only [pAt_defers b]
theorem Spec_unique {kd : Nat} {sb : Bool} {S S' : World → Value → Prop} {o : Oper} {a : Act} (h : Spec P w0 kd sb R o a S) (k : Spec P w0 kd sb R o a S') {w : World} {v : Value} (hv : S w v) : S' w v := by
  unfold Spec at h k
  split at h
  · rename_i hc
    rw [if_pos hc] at k
    rw [k.1, ← h.1]
    exact hv
  · rename_i hc
    rw [if_neg hc] at k
    obtain ⟨ob, F, rfl, -, h⟩ := h
    obtain ⟨ob', F', rfl, -, k⟩ := k
    obtain ⟨rfl, hF⟩ := pAt_unique h k
    obtain ⟨g, hg, rfl⟩ := hv
    exact ⟨g, hg, hF g w hg⟩
theorem Spec_up {kd : Nat} {sb : Bool} {S : World → Value → Prop} {o : Oper} {a : Act} (h : Spec P w0 kd sb R o a S) {w w' : World} {v : Value} (ha : Aft w w') (hv : S w v) : S w' v := by
  unfold Spec at h
  split at h
  · obtain ⟨rfl, h, -⟩ := h
    exact h _ _ _ ha hv
  · obtain ⟨ob, F, rfl, -, -⟩ := h
    obtain ⟨g, hg, rfl⟩ := hv
    exact ⟨g, hg.aft ha, rfl⟩
theorem Spec_zero {sb : Bool} {S : World → Value → Prop} {o : Oper} {a : Act} (h : Spec P w0 0 sb R o a S) : ∃ v0, (∀ w, S w v0) ∧ ∀ w v, S w v → v = v0 := by
  unfold Spec at h
  rw [if_neg (by simp)] at h
  obtain ⟨ob, F, rfl, hz, h⟩ := h
  obtain rfl := hz rfl
  refine ⟨F 0, fun w => ⟨0, trivial, rfl⟩, fun w v hv => ?_⟩
  obtain ⟨g, -, rfl⟩ := hv
  exact qAt_unique (h w0 (Aft.refl _) g) (h w0 (Aft.refl _) 0)
theorem Spec_now {kd : Nat} {sb : Bool} {S : World → Value → Prop} {o : Oper} {a : Act} (h : Spec P w0 kd sb R o a S) {w : World} (hC : Aft w0 w) : ∃ w1 v, Aft w w1 ∧ S w1 v := by
  unfold Spec at h
  split at h
  · obtain ⟨rfl, -, h⟩ := h
    obtain ⟨v, w2, -, h2, h3⟩ := h w hC
    exact ⟨w2, v, h2, h3⟩
  · obtain ⟨ob, F, rfl, -, -⟩ := h
    obtain ⟨w1, hw, g, hg⟩ := holds_now hC ob
    exact ⟨w1, F g, hw, g, hg, rfl⟩
theorem Spec_wp {kd : Nat} {sb : Bool} {S : World → Value → Prop} {o : Oper} {a : Act} {K : Act → World → Prop} (h : Spec P w0 kd sb R o a S) {w : World} (hC : Aft w0 w) (hk : ∀ w1 v, Aft w w1 → S w1 v → K (a.put o.dst v) w1) : o.wp P a w K noOut := by
  unfold Spec at h
  split at h
  · obtain ⟨rfl, -, h⟩ := h
    obtain ⟨v, w2, h1, h2, h3⟩ := h w hC
    unfold Oper.wp
    rw [h1]
    exact hk w2 v h2 h3
  · obtain ⟨ob, F, rfl, -, hv⟩ := h
    cases ob with
    | none => exact qAt_wp (hv w hC 0) (hk w _ (Aft.refl _) ⟨0, trivial, rfl⟩)
    | some obj =>
      have hf := hv w hC
      unfold pAt fAt at hf
      unfold Oper.wp
      rw [hf]
      exact hk _ _ (Aft.alloc _ _) ⟨_, ⟨Below.size hC, heap_alloc_new _ _⟩, rfl⟩
/-- One operation of the prefix. -/
def stepG (P : Program) (ops : Array Oper) (w0 : World) (sp : Nat) (R : World → Value → Prop) (Kd : Nat → Nat) (i : Nat) (o : Oper) (K : Act → World → Prop) (a : Act) (w : World) : Prop :=
  if Region.wanted o (yielded ops a.tmps) = true then
    (if 2 ≤ Kd i then ∀ w1, Aft w w1 → o.wp P a w1 (fun a' w' => Leaves w0 (Kd i) w1 w' ∧ K a' w') noOut
     else ∃ S, Spec P w0 (Kd i) (i == sp) R o a S ∧ ∀ w1 v, Aft w w1 → S w1 v → K (a.put o.dst v) w1)
  else K (a.put o.dst undef) w
theorem stepG_up {i : Nat} {o : Oper} {K : Act → World → Prop} (hK : Up K) : Up (stepG P ops w0 sp R Kd i o K) := by
  intro a w w1 hw h
  unfold stepG at *
  split
  · rename_i hg
    rw [if_pos hg] at h
    split
    · rename_i he
      rw [if_pos he] at h
      exact fun w2 h2 => h w2 (hw.trans h2)
    · rename_i he
      rw [if_neg he] at h
      obtain ⟨S, hS, h2⟩ := h
      exact ⟨S, hS, fun w2 v hw2 hv => h2 w2 v (hw.trans hw2) hv⟩
  · rename_i hg
    rw [if_neg hg] at h
    exact hK _ _ _ hw h
theorem stepG_mono {i : Nat} {o : Oper} {K K' : Act → World → Prop} (h : ∀ a w, Aft w0 w → K a w → K' a w) {a : Act} {w : World} (hC : Aft w0 w) (hs : stepG P ops w0 sp R Kd i o K a w) : stepG P ops w0 sp R Kd i o K' a w := by
  unfold stepG at *
  split
  · rename_i hw
    rw [if_pos hw] at hs
    split
    · rename_i he
      rw [if_pos he] at hs
      exact fun w1 h1 => Oper.wp_mono (fun a w ⟨c, k⟩ => ⟨c, h a w (c.base (hC.trans h1)) k⟩) (hs w1 h1)
    · rename_i he
      rw [if_neg he] at hs
      obtain ⟨S, hS, h2⟩ := hs
      exact ⟨S, hS, fun w1 v hw1 hv => h _ _ (hC.trans hw1) (h2 w1 v hw1 hv)⟩
  · rename_i hw
    rw [if_neg hw] at hs
    exact h _ _ hC hs
theorem stepG_swap {i j : Nat} {oi oj : Oper} (hsi : ∀ cs b, oi.op ≠ .select cs b) (hsj : ∀ cs b, oj.op ≠ .select cs b) (hap : oi.apart ops oj = true) (hE : (2 ≤ Kd j → Kd i = 0) ∧ (Kd i = 3 → Kd j = 0))
    {K : Act → World → Prop} {a : Act} {w : World} (hC : Aft w0 w) (hK : Up K) (h : stepG P ops w0 sp R Kd i oi (stepG P ops w0 sp R Kd j oj K) a w) : stepG P ops w0 sp R Kd j oj (stepG P ops w0 sp R Kd i oi K) a w := by
  obtain ⟨h1, h2, h3⟩ := Oper.apart_spec hap
  have h2' : ∀ d, oj.dst = some d → oi.dst ≠ some d := fun d hd he => h2 d he hd
  have wj : ∀ (a : Act) v, Region.wanted oj (yielded ops (a.put oi.dst v).tmps) = Region.wanted oj (yielded ops a.tmps) := fun a v => wanted_put oj a oi.dst v h1
  have wi : ∀ (a : Act) v, Region.wanted oi (yielded ops (a.put oj.dst v).tmps) = Region.wanted oi (yielded ops a.tmps) := fun a v => wanted_put oi a oj.dst v h3
  have pc : ∀ (a : Act) v u, (a.put oi.dst v).put oj.dst u = (a.put oj.dst u).put oi.dst v := fun a v u => Act.put_comm a v u h2
  by_cases hwi : Region.wanted oi (yielded ops a.tmps) = true
  · by_cases hei : 2 ≤ Kd i
    · have hej : ¬ 2 ≤ Kd j := by omega
      unfold stepG at h
      rw [if_pos hwi, if_pos hei] at h
      by_cases hwj : Region.wanted oj (yielded ops a.tmps) = true
      · have key : ∀ b v w', stepG P ops w0 sp R Kd j oj K (({ a with defers := b } : Act).put oi.dst v) w' → ∃ S, Spec P w0 (Kd j) (j == sp) R oj a S ∧ ∀ w1 u, Aft w' w1 → S w1 u → K ((({ a with defers := b } : Act).put oi.dst v).put oj.dst u) w1 := by
          intro b v w' hs
          unfold stepG at hs
          rw [if_pos (by rw [wj]; exact hwj), if_neg hej] at hs
          obtain ⟨S, hS, hk⟩ := hs
          exact ⟨S, (Spec_defers b).1 ((Spec_put (ops := ops) hsj h1).1 hS), hk⟩
        obtain ⟨b, v, w', hs⟩ := wp_some (h w (Aft.refl _))
        obtain ⟨S, hS, _⟩ := key b v w' hs.2
        unfold stepG
        rw [if_pos hwj, if_neg hej]
        refine ⟨S, hS, fun w1 u hw1 hu => ?_⟩
        rw [if_pos (by rw [wi]; exact hwi), if_pos hei]
        intro w2 hw2
        refine (wp_put (ops := ops) hsi h3 h2').2 (wp_mono_put (fun b v w' hs => ?_) (h w2 (hw1.trans hw2)))
        obtain ⟨hc, hs⟩ := hs
        obtain ⟨S', hS', hk⟩ := key b v w' hs
        refine ⟨hc, hk w' u (Aft.refl _) (Spec_unique hS hS' ?_)⟩
        by_cases h3 : Kd i = 3
        · rw [hE.2 h3] at hS
          obtain ⟨v0, hv0, hv1⟩ := Spec_zero hS
          rw [hv1 _ _ hu]
          exact hv0 _
        · unfold Leaves at hc
          rw [if_neg h3] at hc
          exact Spec_up hS (hw2.trans hc) hu
      · unfold stepG
        rw [if_neg hwj, if_pos (by rw [wi]; exact hwi), if_pos hei]
        intro w1 hw1
        refine (wp_put (ops := ops) hsi h3 h2').2 (wp_mono_put (fun b v w' hs => ?_) (h w1 hw1))
        obtain ⟨hc, hs⟩ := hs
        rw [if_neg (by rw [wj]; exact hwj)] at hs
        exact ⟨hc, hs⟩
    · unfold stepG at h
      rw [if_pos hwi, if_neg hei] at h
      obtain ⟨S, hS, h⟩ := h
      by_cases hwj : Region.wanted oj (yielded ops a.tmps) = true
      · by_cases hej : 2 ≤ Kd j
        · have hki : Kd i = 0 := hE.1 hej
          have hS0 := hS
          rw [hki] at hS0
          obtain ⟨v0, hv0, hv1⟩ := Spec_zero hS0
          unfold stepG
          rw [if_pos hwj, if_pos hej]
          intro w1 hw1
          have h4 := h w1 v0 hw1 (hv0 _)
          rw [if_pos (by rw [wj]; exact hwj), if_pos hej] at h4
          refine wp_mono_put (fun b u w' hs => ?_) ((wp_put (ops := ops) hsj h1 h2).1 (h4 w1 (Aft.refl _)))
          obtain ⟨hc, hk⟩ := hs
          refine ⟨hc, ?_⟩
          rw [if_pos (by rw [wi]; exact hwi), if_neg hei]
          refine ⟨S, (Spec_put (ops := ops) hsi h3).2 ((Spec_defers b).2 hS), fun w2 v hw2 hv => ?_⟩
          rw [hv1 _ _ hv]
          exact hK _ _ _ hw2 hk
        · obtain ⟨wn, vn, hwn, hvn⟩ := Spec_now hS hC
          have h4 := h wn vn hwn hvn
          rw [if_pos (by rw [wj]; exact hwj), if_neg hej] at h4
          obtain ⟨Sj, hj1, _⟩ := h4
          have hj2 := (Spec_put (ops := ops) hsj h1).1 hj1
          unfold stepG
          rw [if_pos hwj, if_neg hej]
          refine ⟨Sj, hj2, fun w1 u hw1 hu => ?_⟩
          rw [if_pos (by rw [wi]; exact hwi), if_neg hei]
          refine ⟨S, (Spec_put (ops := ops) hsi h3).2 hS, fun w2 v hw2 hv => ?_⟩
          have h5 := h w2 v (hw1.trans hw2) hv
          rw [if_pos (by rw [wj]; exact hwj), if_neg hej] at h5
          obtain ⟨Sj', hj3, hj4⟩ := h5
          rw [← pc]
          exact hj4 w2 u (Aft.refl _) (Spec_unique hj2 ((Spec_put (ops := ops) hsj h1).1 hj3) (Spec_up hj2 hw2 hu))
      · unfold stepG
        rw [if_neg hwj, if_pos (by rw [wi]; exact hwi), if_neg hei]
        refine ⟨S, (Spec_put (ops := ops) hsi h3).2 hS, fun w2 v hw2 hv => ?_⟩
        have h5 := h w2 v hw2 hv
        rw [if_neg (by rw [wj]; exact hwj)] at h5
        rw [← pc]
        exact h5
  · unfold stepG at h
    rw [if_neg hwi] at h
    unfold stepG
    by_cases hwj : Region.wanted oj (yielded ops a.tmps) = true
    · rw [if_pos (by rw [wj]; exact hwj)] at h
      rw [if_pos hwj]
      by_cases hej : 2 ≤ Kd j
      · rw [if_pos hej] at h ⊢
        intro w1 hw1
        refine wp_mono_put (fun b u w' hs => ?_) ((wp_put (ops := ops) hsj h1 h2).1 (h w1 hw1))
        obtain ⟨hc, hk⟩ := hs
        refine ⟨hc, ?_⟩
        rw [if_neg (by rw [wi]; exact hwi)]
        exact hk
      · rw [if_neg hej] at h ⊢
        obtain ⟨S, hS, hk⟩ := h
        refine ⟨S, (Spec_put (ops := ops) hsj h1).1 hS, fun w2 u hw2 hu => ?_⟩
        rw [if_neg (by rw [wi]; exact hwi), ← pc]
        exact hk w2 u hw2 hu
    · rw [if_neg (by rw [wj]; exact hwj)] at h
      rw [if_neg hwj, if_neg (by rw [wi]; exact hwi), ← pc]
      exact h
/-- The prefix, in the order of the list; T behind it. -/
def wpGs (P : Program) (ops : Array Oper) (w0 : World) (sp : Nat) (R : World → Value → Prop) (Kd : Nat → Nat) (T : Act → World → Prop) : List Nat → Act → World → Prop
  | [], a, w => T a w
  | i :: l, a, w => match ops[i]? with
    | some o => stepG P ops w0 sp R Kd i o (wpGs P ops w0 sp R Kd T l) a w
    | none => False
theorem wpGs_up {T : Act → World → Prop} (hT : Up T) : ∀ l : List Nat, Up (wpGs P ops w0 sp R Kd T l)
  | [] => hT
  | i :: l => by
    intro a w w1 hw h
    simp only [wpGs] at h ⊢
    cases hi : ops[i]? with
    | none => rw [hi] at h; exact h.elim
    | some o =>
      rw [hi] at h
      exact stepG_up (wpGs_up hT l) a w w1 hw h
theorem wpGs_front {T : Act → World → Prop} (hT : Up T) (hs : ∀ (j : Nat) (o : Oper) cs b, ops[j]? = some o → o.op ≠ .select cs b) {j : Nat} {oj : Oper} (hj : ops[j]? = some oj) : ∀ (p q : List Nat) (a : Act) (w : World),
    (∀ i ∈ p, ∀ oi, ops[i]? = some oi → oi.apart ops oj = true ∧ ((2 ≤ Kd j → Kd i = 0) ∧ (Kd i = 3 → Kd j = 0))) → Aft w0 w → wpGs P ops w0 sp R Kd T (p ++ j :: q) a w → stepG P ops w0 sp R Kd j oj (wpGs P ops w0 sp R Kd T (p ++ q)) a w
  | [], q, a, w, _, _, h => by simpa [wpGs, hj] using h
  | i :: p, q, a, w, hp, hC, h => by
    simp only [List.cons_append, wpGs] at h
    cases hi : ops[i]? with
    | none => rw [hi] at h; exact h.elim
    | some oi =>
      rw [hi] at h
      simp only at h
      obtain ⟨hap, hE⟩ := hp i (by simp) oi hi
      have ih := stepG_mono (fun a w hc hk => wpGs_front hT hs hj p q a w (fun x hx => hp x (by simp [hx])) hc hk) hC h
      have := stepG_swap (hs i oi · · hi) (hs j oj · · hj) hap hE hC (wpGs_up hT (p ++ q)) ih
      refine stepG_mono (fun a w _ hk => ?_) hC this
      simp only [List.cons_append, wpGs, hi]
      exact hk
theorem stepG_wpOp {i : Nat} {o : Oper} (hi : ops[i]? = some o) {K K' : Act → World → Prop} {Q : Exit → Act → World → Prop} (h : ∀ a w, Aft w0 w → K a w → K' a w) {a : Act} {w : World} (hC : Aft w0 w) (hs : stepG P ops w0 sp R Kd i o K a w) : wpOp P ops Q i K' a w := by
  unfold stepG at hs
  unfold wpOp
  simp only [hi]
  split
  · rename_i hw
    rw [if_pos hw] at hs
    by_cases he : 2 ≤ Kd i
    · rw [if_pos he] at hs
      exact .inl (wp_noOut (Oper.wp_mono (fun a w ⟨c, k⟩ => h a w (c.base hC) k) (hs w (Aft.refl _))))
    · rw [if_neg he] at hs
      obtain ⟨S, hS, hk⟩ := hs
      exact .inl (wp_noOut (Spec_wp hS hC fun w1 v hw1 hv => h _ _ (hC.trans hw1) (hk w1 v hw1 hv)))
  · rename_i hw
    rw [if_neg hw] at hs
    exact h _ _ hC hs
/-- The prefix, in whatever order. -/
theorem lexG_prefix {M : Array Nat} {N : Nat} {Q : Exit → Act → World → Prop} (hs : Region.noSelect ops = true) (hM : maskOk ops M = true) (hp : pairsOk ops (fun i => Nat.ble 2 (Kd i)) N M = true) (hF : pairsF ops Kd M = true) (hN : N ≤ ops.size) : ∀ (fuel : Nat) (listed : Array Bool) (a : Act) (w : World), listed.size = ops.size → Closed ops listed →
    (∀ i, N ≤ i → i < ops.size → listed.getD i false = false) → Aft w0 w → (waiting listed N).length + (ops.size - N) ≤ fuel →
    wpGs P ops w0 sp R Kd (fun a w => ∀ w1, Aft w w1 → wpOps P ops Q (List.range' N (ops.size - N)) a w1) (waiting listed N) a w → wpAny P .any ops Q fuel listed a w := by
  have hT : Up (fun a w => ∀ w1, Aft w w1 → wpOps P ops Q (List.range' N (ops.size - N)) a w1) := fun a w w1 hw h w2 h2 => h w2 (hw.trans h2)
  intro fuel
  induction fuel with
  | zero =>
    intro listed a w hz hc hhi hC hf h
    have h0 : waiting listed N = [] := List.eq_nil_of_length_eq_zero (by omega)
    rw [h0] at h
    refine lex_tail (N := N) hM hp 0 N listed a w hz hc (fun i hi hi' => ?_) hhi (Nat.le_refl _) (by omega) (h w (Aft.refl _))
    cases hl : listed.getD i false with
    | true => rfl
    | false => have := (mem_waiting (listed := listed) (N := N) (by omega)).2 ⟨hi, hl⟩; rw [h0] at this; cases this
  | succ fuel ih =>
    intro listed a w hz hc hhi hC hf h
    cases hw : waiting listed N with
    | nil =>
      rw [hw] at h
      refine lex_tail (N := N) hM hp (fuel + 1) N listed a w hz hc (fun i hi hi' => ?_) hhi (Nat.le_refl _) (by rw [hw] at hf; simpa using hf) (h w (Aft.refl _))
      cases hl : listed.getD i false with
      | true => rfl
      | false => have := (mem_waiting (listed := listed) (N := N) (by omega)).2 ⟨hi, hl⟩; rw [hw] at this; cases this
    | cons k0 rest =>
      have hk0 := (mem_waiting (listed := listed) (N := N) (i := k0) (by omega)).1 (by rw [hw]; simp)
      have hsort := waiting_sorted listed N
      have hlow : ∀ i, i < k0 → listed.getD i false = true := by
        intro i hi
        cases hl : listed.getD i false with
        | true => rfl
        | false =>
          have hm := (mem_waiting (listed := listed) (N := N) (i := i) (by omega)).2 ⟨by omega, hl⟩
          rw [hw] at hm hsort
          rw [List.pairwise_cons] at hsort
          rcases List.mem_cons.1 hm with rfl | hm
          · omega
          · have := hsort.1 i hm; omega
      have hk0s : k0 < ops.size := by omega
      have ho0 : ops[k0]? = some ops[k0] := Array.getElem?_eq_getElem hk0s
      have hr : k0 ∈ Region.ready .any ops listed := mem_wait hz ho0 hk0.2 fun e he hb => hlow _ (edges_back hM ho0 e he hb)
      refine ⟨fun h0 => (by rw [h0] at hr; cases hr), fun i hi => ?_⟩
      obtain ⟨oi, hio, h0, he⟩ := ready_spec hz hi
      have hi' : i < ops.size := (Array.getElem?_eq_some_iff.1 hio).1
      have hbits : ∀ j, j < ops.size → (M.getD i 0).testBit j = true → listed.getD j false = true := mask_listed hM hc i oi hio he
      have hiN : i < N := by
        rcases Nat.lt_or_ge i N with h' | h'
        · exact h'
        · exfalso
          rcases pair_of hp hi' (show k0 < i by omega) with hb | ⟨hb, _⟩
          · have := hbits k0 (by omega) hb
            rw [hk0.2] at this
            cases this
          · omega
      have hmem := (mem_waiting (listed := listed) (N := N) (i := i) (by omega)).2 ⟨hiN, h0⟩
      obtain ⟨p, q, hpq⟩ := List.append_of_mem hmem
      have hfront := wpGs_front (Kd := Kd) hT (Region.noSelect_spec hs) hio p q a w (fun j hj oj hjo => by
        have hji : j < i := by
          have hs' := hsort
          rw [hpq, List.pairwise_append] at hs'
          exact hs'.2.2 j hj i (by simp)
        have hj0 := ((mem_waiting (listed := listed) (N := N) (i := j) (by omega)).1 (by rw [hpq]; simp [hj])).2
        rcases pair_of hp hi' hji with hb | ⟨_, hb⟩
        · have := hbits j (by omega) hb
          rw [hj0] at this
          cases this
        · refine ⟨(hb oj oi hjo hio).1, ?_⟩
          rcases pairF_of hF hi' hji with hb | hb
          · have := hbits j (by omega) hb
            rw [hj0] at this
            cases this
          · exact hb) hC (by rw [← hpq]; exact h)
      have hset := waiting_set (listed := listed) (N := N) (by omega) hpq
      refine stepG_wpOp hio (fun a w hc' hk => ih _ a w (by simp [hz]) (closed_set hc hio he) (fun j hj hjs => ?_) hc' ?_ ?_) hC hfront
      · rw [getD_set_ne false (by omega)]; exact hhi j hj hjs
      · rw [hset]; rw [hpq] at hf; simp at hf ⊢; omega
      · rw [hset]; exact hk
/-- The walk itself. -/
def wpGx (P : Program) (ops : Array Oper) (w0 : World) (sp : Nat) (R : World → Value → Prop) (Kd : Nat → Nat) (Q : Exit → Act → World → Prop) : Nat → Nat → List Oper → Act → World → Prop
  | 0, _, l, a, w => ∀ w1, Aft w w1 → wpList P ops Q l a w1
  | n + 1, k, o :: l, a, w => stepG P ops w0 sp R Kd k o (wpGx P ops w0 sp R Kd Q n (k + 1) l) a w
  | _ + 1, _, [], _, _ => False
theorem wpGx_up {Q : Exit → Act → World → Prop} : ∀ (n k : Nat) (l : List Oper), Up (wpGx P ops w0 sp R Kd Q n k l)
  | 0, _, l => fun a w w1 hw h w2 h2 => h w2 (hw.trans h2)
  | n + 1, k, o :: l => fun a w w1 hw h => by simp only [wpGx] at h ⊢; exact stepG_up (wpGx_up n (k + 1) l) a w w1 hw h
  | _ + 1, _, [] => fun _ _ _ _ h => by simp only [wpGx] at h
theorem wpGs_of_wpGx {Q : Exit → Act → World → Prop} : ∀ (n k : Nat) (l : List Oper) (a : Act) (w : World), Aft w0 w → (∀ j, l[j]? = ops[k + j]?) → n ≤ l.length → k + l.length = ops.size → wpGx P ops w0 sp R Kd Q n k l a w →
    wpGs P ops w0 sp R Kd (fun a w => ∀ w1, Aft w w1 → wpOps P ops Q (List.range' (k + n) (ops.size - (k + n))) a w1) (List.range' k n) a w
  | 0, k, l, a, w, hC, hl, _, hz, h => by
    simp only [List.range'_zero, wpGs, Nat.add_zero]
    simp only [wpGx] at h
    intro w1 hw1
    rw [show ops.size - k = l.length by omega, wpOps_eq_wpList l k hl]
    exact h w1 hw1
  | n + 1, k, [], a, w, _, _, hn, _, _ => by simp at hn
  | n + 1, k, o :: l, a, w, hC, hl, hn, hz, h => by
    have h0 : ops[k]? = some o := by simpa using (hl 0).symm
    simp only [wpGx] at h
    rw [List.range'_succ]
    simp only [wpGs, h0]
    have ih := fun a w hC => wpGs_of_wpGx (Q := Q) n (k + 1) l a w hC (fun j => by have := hl (j + 1); simpa [Nat.add_assoc, Nat.add_comm 1 j] using this) (by simpa using hn) (by simp at hz; omega)
    rw [show k + (n + 1) = k + 1 + n by omega]
    exact stepG_mono ih hC h
/-- **A REGION THAT DRAWS ITS ORDER IS WALKED ONCE.** Kd: 0 reads, 1 makes a block, 2 turns the world. -/
theorem wp_region_lexG {id : Nat} {Q : Exit → Act → World → Prop} {a : Act} {w : World} {l : List Oper} (sp : Nat) (R : World → World → Value → Prop) (Kd : Nat → Nat) (n : Nat) (hm : P.follows .mixedOrders = true)
    (hB : lexOKF l.toArray Kd n (Region.before l.toArray) = true) (h : ∀ w0, w0 = w.drew → wpGx P l.toArray w0 sp (R w0) Kd Q n 0 l a w0) : (Code.region id l.toArray true).wp P Q a w := by
  have h := h w.drew rfl
  simp only [lexOKF, lexOK, Bool.and_eq_true, decide_eq_true_eq] at hB
  obtain ⟨⟨⟨⟨hs, hM⟩, hp⟩, hN⟩, hF⟩ := hB
  have hN' : n ≤ l.length := by simpa using hN
  refine wp_region_any hm ?_
  have hw : waiting (Array.replicate l.toArray.size false) n = List.range n := by
    unfold waiting
    rw [List.filter_eq_self]
    intro i hi
    rw [List.mem_range] at hi
    have : i < l.length := by omega
    simp [this]
  have h1 := wpGs_of_wpGx (Kd := Kd) (sp := sp) (R := R w.drew) (ops := l.toArray) n 0 l a _ (Aft.refl _) (by simp) hN' (by simp) h
  rw [Nat.zero_add, ← List.range_eq_range'] at h1
  refine lexG_prefix (Kd := Kd) (sp := sp) (R := R w.drew) (w0 := w.drew) hs hM hp hF hN _ _ a _ (by simp) ?_ ?_ (Aft.refl _) ?_ ?_
  · intro k o _ hl
    exfalso
    have hk : ¬ (Array.replicate l.toArray.size false).getD k false = true := by
      by_cases hk : k < l.length <;> simp [hk]
    exact hk hl
  · intro i _ hi
    have hi' : i < l.length := by simpa using hi
    simp [hi']
  · rw [hw]; simp; omega
  · rw [hw]; exact h1
section
variable {Q : Exit → Act → World → Prop} {n k : Nat} {o : Oper} {l : List Oper} {a : Act} {w : World}
theorem lg_skip (_ : wpQuiet P ops (fun _ => False) (fun _ => True) [o] a) (hw : Region.wanted o (yielded ops a.tmps) = false) (h : wpGx P ops w0 sp R Kd Q n (k + 1) l (a.put o.dst undef) w) : wpGx P ops w0 sp R Kd Q (n + 1) k (o :: l) a w := by
  simp only [wpGx, stepG, hw]
  exact h
theorem Spec_none {sb : Bool} {v : Value} (h : ∀ w1, Aft w0 w1 → qAt P o a w1 v) : Spec P w0 0 sb R o a (fun w u => ∃ g : Nat, holds w0 g w none ∧ u = v) := by
  unfold Spec
  rw [if_neg (by simp)]
  exact ⟨none, fun _ => v, rfl, fun _ => rfl, fun w1 hw1 _ => h w1 hw1⟩
theorem lg_quiet (hk : Kd k = 0) (_ : wpQuiet P ops (fun _ => False) (fun _ => True) [o] a) (hw : Region.wanted o (yielded ops a.tmps) = true) (hv : isV o.op = true)
    (h : ∀ K : Act → Prop, (∀ a', wpGx P ops w0 sp R Kd Q n (k + 1) l a' w → K a') → o.quiet P a (fun w' => ∃ u : Later w0.heap.size w0, w' = u.w) K) : wpGx P ops w0 sp R Kd Q (n + 1) k (o :: l) a w := by
  obtain ⟨v, hq, hk2⟩ := h (fun a' => wpGx P ops w0 sp R Kd Q n (k + 1) l a' w) fun _ h => h
  simp only [wpGx, stepG, hw, if_true, hk]
  rw [if_neg (by omega)]
  exact ⟨_, Spec_none fun w' hw' => qAt_of_quietAt hv (hq w' ⟨⟨w', hw'⟩, rfl⟩), fun w1 u hw1 ⟨_, _, hu⟩ => by rw [hu]; exact wpGx_up _ _ _ _ _ _ hw1 hk2⟩
theorem lg_val (hk : Kd k = 0) (hw : Region.wanted o (yielded ops a.tmps) = true) (v : Value) (hv : ∀ w1, Aft w0 w1 → (execOp a.eval o).run P w1 = .ok (.value v) w1) (h : wpGx P ops w0 sp R Kd Q n (k + 1) l (a.put o.dst v) w) : wpGx P ops w0 sp R Kd Q (n + 1) k (o :: l) a w := by
  simp only [wpGx, stepG, hw, if_true, hk]
  rw [if_neg (by omega)]
  exact ⟨_, Spec_none fun w' hw' => .inl (hv w' hw'), fun w1 u hw1 ⟨_, _, hu⟩ => by rw [hu]; exact wpGx_up _ _ _ _ _ _ hw1 h⟩
theorem lg_fresh (obj : Obj) (F : Nat → Value) (hk : Kd k = 1) (hsp : (k == sp) = false) (hw : Region.wanted o (yielded ops a.tmps) = true) (hv : ∀ w1, (execOp a.eval o).run P w1 = .ok (.value (F w1.heap.size)) (w1.alloc obj))
    (h : ∀ w1 g, Aft w w1 → w0.heap.size ≤ g → w1.heap[g]? = some obj → wpGx P ops w0 sp R Kd Q n (k + 1) l (a.put o.dst (F g)) w1) : wpGx P ops w0 sp R Kd Q (n + 1) k (o :: l) a w := by
  simp only [wpGx, stepG, hw, if_true, hk]
  rw [if_neg (by omega)]
  refine ⟨fun w v => ∃ g, holds w0 g w (some obj) ∧ v = F g, ?_, fun w1 v hw1 ⟨g, hg, hv⟩ => by rw [hv]; exact h w1 g hw1 hg.1 hg.2⟩
  unfold Spec
  rw [if_neg (by rw [hsp]; simp)]
  exact ⟨some obj, F, rfl, (fun h => by cases h), fun w1 _ => hv w1⟩
/-- The special operation. -/
theorem lg_spec (hk : Kd k = 1) (hsp : (k == sp) = true) (hw : Region.wanted o (yielded ops a.tmps) = true) (hR : mkR P w0 R o a)
    (h : ∀ w1 v, Aft w w1 → R w1 v → wpGx P ops w0 sp R Kd Q n (k + 1) l (a.put o.dst v) w1) : wpGx P ops w0 sp R Kd Q (n + 1) k (o :: l) a w := by
  simp only [wpGx, stepG, hw, if_true, hk]
  rw [if_neg (by omega)]
  refine ⟨R, ?_, h⟩
  unfold Spec
  rw [if_pos ⟨hsp, rfl⟩]
  exact ⟨rfl, hR⟩
theorem lg_eff (hk : Kd k = 2) (_ : wpQuiet P ops (fun _ => False) (fun _ => True) [o] a) (hw : Region.wanted o (yielded ops a.tmps) = true)
    (h : ∀ w1, Aft w w1 → ∀ K : Act → World → Prop, (∀ a' w', (Aft w1 w' ∧ wpGx P ops w0 sp R Kd Q n (k + 1) l a' w') → K a' w') → o.wp P a w1 K noOut) : wpGx P ops w0 sp R Kd Q (n + 1) k (o :: l) a w := by
  simp only [wpGx, stepG, hw, if_true, hk, Nat.le_refl]
  exact fun w1 hw1 => h w1 hw1 _ fun _ _ h => ⟨by unfold Leaves; rw [if_neg (by decide)]; exact h.1, h.2⟩
theorem lg_store (hk : Kd k = 3) (hw : Region.wanted o (yielded ops a.tmps) = true) (ty : TypeId) (x y : Operand) (ho : o.op = .store ty x y)
    (g : Nat) (cells : Array Value) (hx : a.eval x = .pointer (some ⟨g, 0, none⟩)) (hy : a.eval y = .agg cells)
    (t : TypeId) (old : Array Value) (hC : Aft w0 w) (h0 : w0.heap.size ≤ g) (hg : w.heap[g]? = some (.cells old t (0, 0))) (hi : (P.info? ty).map (·.size) = some cells.size)
    (hold : old.size = cells.size) (h1 : cells.all (·.oneCell') = true)
    (h : ∀ w2, Hid (w2.heap[g]? = some (.cells cells t (0, 0))) → Aft w0 w2 → Hid (∀ k, k < w.heap.size → k ≠ g → w2.heap[k]? = w.heap[k]?) → wpGx P ops w0 sp R Kd Q n (k + 1) l (a.put o.dst undef) w2) : wpGx P ops w0 sp R Kd Q (n + 1) k (o :: l) a w := by
  simp only [wpGx, stepG, hw, if_true, hk]
  rw [if_pos (by omega)]
  intro w1 hw1
  refine wp_store_row ty x y ho g cells hx hy t old (hw1.get hg) hi hold h1 ?_
  have hb : Aft w0 (w1.setRow g cells) := below_setRow (hC.trans hw1) h0 _
  refine ⟨by unfold Leaves; rw [if_pos rfl]; exact hb, h _ (show _ = _ from setRow_heap _ _ _ _ _ _ (hw1.get hg)) hb (show _ from fun k hk hne => ?_)⟩
  rw [setRow_other w1 g k _ hne]
  exact Below.block hw1 k hk
theorem lg_done (h : ∀ w1, Aft w w1 → wpList P ops Q l a w1) : wpGx P ops w0 sp R Kd Q 0 k l a w := h
end
end
attribute [irreducible] wpGx
end Go.Proofs.Ytpnckphfjcnooaa

