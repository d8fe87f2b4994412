/- So many are sent to as there are groups that did not stay, four of each at the most. -/
import Derived.Test.YtfgammcefaomeaaPB2
namespace Go.Proofs.Ytfgammcefaomeaa
open Go Go.RowKit
theorem emb_kid {N : List Nd} {kind : Int} {ls : List (List Int)} {L at' b j : Nat} (h : EmbS N kind ls (L + 1) at' b) (h2 : (ls.getD L []).getD at' 0 = 2 ∨ (ls.getD L []).getD at' 0 = 3) (hj : (j : Int) < (ls.getD L []).getD at' 0) : ∃ b', EmbS N kind ls L (fstN ls L at' + j) b' := by
  have g := grpV h
  generalize (seg kind ls (L + 1) at' b).length = n at *
  cases g with
  | two n1 n2 h e1 l1 e2 l2 p1 p2 g =>
    rcases (show j = 0 ∨ j = 1 by omega) with rfl | rfl
    · exact ⟨_, e1⟩
    · exact ⟨_, e2⟩
  | three n1 n2 n3 h hk e1 l1 e2 l2 e3 l3 p1 p2 p3 g =>
    rcases (show j = 0 ∨ j = 1 ∨ j = 2 by omega) with rfl | rfl | rfl
    · exact ⟨_, e1⟩
    · exact ⟨_, e2⟩
    · exact ⟨_, e3⟩
  | red n1 n2 n3 h hk e1 l1 e2 l2 e3 l3 p1 p2 p3 g gz =>
    rcases (show j = 0 ∨ j = 1 ∨ j = 2 by omega) with rfl | rfl | rfl
    · exact ⟨_, e1⟩
    · exact ⟨_, e2⟩
    · exact ⟨_, e3⟩
/-- Each node of a tree is a group whose nodes stand in the list. -/
theorem emb_sub {N : List Nd} {kind : Int} {ids : List Int} {ls : List (List Int)} {L d : Nat} {t : NT L} {x : NT d} (h : SubN L t d x) : ∀ (at' b : Nat), wfT d x → AtT ids ls d x at' → EmbS N kind ls d at' b → ∃ at2 b2, AtT ids ls L t at2 ∧ EmbS N kind ls L at2 b2 := by
  induction h with
  | self => exact fun at' b _ h1 h2 => ⟨at', b, h1, h2⟩
  | @kid d x k hk hs ih =>
    intro at' b hw h1 h2
    obtain ⟨j, hj, e⟩ := List.getElem_of_mem hk
    have e : (kidsT x).getD j (dfT d) = k := by rw [List.getD_eq_getElem?_getD, List.getElem?_eq_getElem hj]; exact e
    have hw1 := hw.1
    obtain ⟨b', hb⟩ := emb_kid (j := j) h2 (by rw [h1.1]; omega) (by rw [h1.1]; omega)
    have ha := h1.2 j hj
    rw [e] at ha
    exact ih (fstN ls d at' + j) b' (hw.2 k hk) ha hb
/-- A tree's root. -/
theorem emb_root {kind : Int} {ids : List Int} {ls : List (List Int)} (hok : OkT ids ls) (hz : ¬ ids.length = 0) : EmbS (nodesL kind ids ls) kind ls ls.length 0 0 := by
  rw [nodes_seg hok hz]
  have hu := seg_up kind ls ls.length 0 0
  have hps := seg_pos kind ls ls.length 0 0
  refine ⟨-1, by rw [upL_length]; omega, fun j hj => ?_⟩
  rw [upL_length] at hj
  rw [Nat.zero_add]
  unfold upL
  by_cases e : (seg kind ls ls.length 0 0).length - 1 = j
  · subst e
    rw [List.getD_eq_getElem?_getD (l := List.set _ _ _), List.getElem?_set_self (by omega)]
    have h := hu.2
    unfold lastN at h
    show _ = ({ (seg kind ls ls.length 0 0).getD ((seg kind ls ls.length 0 0).length - 1) nd0 with up := -1 } : Nd)
    rw [← h]
  · rw [List.getD_eq_getElem?_getD (l := List.set _ _ _), List.getElem?_set_ne e, ← List.getD_eq_getElem?_getD]
def sumF (f : Nat → Nat) (b : Nat) : Nat → Nat
  | 0 => 0
  | n + 1 => sumF f b n + f (b + n)
theorem sumF_add (f : Nat → Nat) (b n : Nat) : ∀ m, sumF f b (n + m) = sumF f b n + sumF f (b + n) m
  | 0 => rfl
  | m + 1 => by
    show sumF f b (n + m) + f (b + (n + m)) = _
    rw [sumF_add f b n m]
    show _ = sumF f b n + (sumF f (b + n) m + f (b + n + m))
    rw [show b + (n + m) = b + n + m by omega]
    omega
theorem sumF_one (f : Nat → Nat) (b : Nat) : sumF f b 1 = f b := by
  show 0 + f (b + 0) = f b
  rw [Nat.add_zero, Nat.zero_add]
theorem sumF_zero (f : Nat → Nat) (b : Nat) : ∀ n, (∀ i, i < n → f (b + i) = 0) → sumF f b n = 0
  | 0, _ => rfl
  | n + 1, h => by
    show sumF f b n + f (b + n) = 0
    rw [sumF_zero f b n fun i hi => h i (by omega), h n (by omega)]
/-- How many are below a node that gets a new secret. -/
def stF (B : List Nd) (K : List Int) (i : Nat) : Nat := if K.getD i 0 < 0 ∧ 0 < (B.getD i nd0).lv then (B.getD i nd0).ks.length else 0
theorem stF_le {B : List Nd} {K : List Int} {r L : Nat} {rd : Bool} {ks : List Nat} (h : GrpN B r L rd ks) : stF B K r ≤ ks.length := by
  unfold stF
  split
  · rw [h.kk]
    unfold kz
    rw [List.length_map]
    exact Nat.le_refl _
  · exact Nat.zero_le _
/-- So many such groups in all. -/
def TbLe (Bd : (d : Nat) → NT d → Prop) : (d : Nat) → List (NT d) → Nat → Prop
  | 0, _, _ => True
  | d + 1, l, n => ∃ m k, m + k ≤ n ∧ CntLe (Bd (d + 1)) l m ∧ TbLe Bd d (flatT l) k
theorem TbLe.of {Bd : (d : Nat) → NT d → Prop} {n : Nat} : ∀ (d : Nat) (l : List (NT d)), BadA Bd n d l → TbLe Bd d l (n * d)
  | 0, _, _ => trivial
  | d + 1, l, h => ⟨n, n * d, by rw [Nat.mul_succ]; omega, h.1, TbLe.of d (flatT l) h.2⟩
theorem TbLe.split {Bd : (d : Nat) → NT d → Prop} : ∀ (d : Nat) (a b : List (NT d)) (n : Nat), TbLe Bd d (a ++ b) n → ∃ m k, m + k ≤ n ∧ TbLe Bd d a m ∧ TbLe Bd d b k
  | 0, _, _, n, _ => ⟨0, n, by omega, trivial, trivial⟩
  | d + 1, a, b, n, ⟨m, k, h1, h2, h3⟩ => by
    obtain ⟨m1, m2, e, q1, q2⟩ := h2.split
    rw [flatT_append] at h3
    obtain ⟨k1, k2, e2, q3, q4⟩ := TbLe.split d (flatT a) (flatT b) k h3
    exact ⟨m1 + k1, m2 + k2, by omega, ⟨m1, k1, Nat.le_refl _, q1, q3⟩, ⟨m2, k2, Nat.le_refl _, q2, q4⟩⟩
theorem send_seg {kind by' : Int} {ids0 ids T K : List Int} {ls0 ls : List (List Int)} {A B : List Nd} {Bd : (d : Nat) → NT d → Prop} (ht : TrF A ids0) (eK : K = keepL A (lvT A ids0 T by') ids B B.length)
    (hold : ∀ L (t : NT L), ¬ Bd L t → ∃ at0 b0, AtT ids0 ls0 L t at0 ∧ EmbS A kind ls0 L at0 b0 ∧ ∀ y ∈ idsF L [t], y ∉ T ∧ y ≠ by') : ∀ (L : Nat) (t : NT L) (at' b n : Nat), wfT L t → AtT ids ls L t at' → EmbS B kind ls L at' b → TbLe Bd L [t] n → sumF (stF B K) b (seg kind ls L at' b).length ≤ 4 * n
  | 0, t, at', b, n, _, _, e1, _ => by
    obtain ⟨-, v1, -⟩ := emb_leaf e1
    have h1 : (seg kind ls 0 at' b).length = 1 := rfl
    rw [h1, sumF_one]
    unfold stF
    rw [if_neg (by omega)]
    exact Nat.zero_le _
  | L + 1, t, at', b, n, hw, h1, e1, hb => by
    obtain ⟨m, k, hmk, hc, hk⟩ := hb
    rw [flatT_one] at hk
    rcases hc with ⟨hnb, -⟩ | ⟨m', rfl, -⟩
    · obtain ⟨at0, b0, q1, q2, q3⟩ := hold (L + 1) t hnb
      obtain ⟨-, hz⟩ := keep_seg ht eK (L + 1) t at' at0 b b0 hw q3 h1 q1 e1 q2
      rw [sumF_zero _ _ _ fun i hi => ?_]
      · exact Nat.zero_le _
      · unfold stF
        rw [if_neg (by rw [hz i hi]; omega)]
    · have gB := grpV e1
      have hsz := h1.1
      have hih := fun (j : Nat) (c : NT L) (b n : Nat) (e : (kidsT t).getD j (dfT L) = c) (hj : j < (kidsT t).length) (e1 : EmbS B kind ls L (fstN ls L at' + j) b) (hb : TbLe Bd L [c] n) => send_seg ht eK hold L c (fstN ls L at' + j) b n (hw.2 c (by
        rw [← e, List.getD_eq_getElem?_getD, List.getElem?_eq_getElem hj]
        exact List.getElem_mem hj)) (by rw [← e]; exact h1.2 j hj) e1 hb
      rcases kids_two hw with ⟨c0, c1, hk2, -, -⟩ | ⟨c0, c1, c2, hk3, -, -, -⟩
      · rw [hk2] at hk hsz
        obtain ⟨k1, k2, hkk, t1, t2⟩ := TbLe.split L [c0] [c1] k hk
        have hl : (kidsT t).length = 2 := by rw [hk2]; rfl
        generalize (seg kind ls (L + 1) at' b).length = nB at *
        cases gB with
        | two n1 n2 h e1 l1 e2 l2 p1 p2 g =>
          have i0 := hih 0 c0 b k1 (by rw [hk2]; rfl) (by omega) e1 t1
          have i1 := hih 1 c1 (b + n1) k2 (by rw [hk2]; rfl) (by omega) e2 t2
          rw [Nat.add_zero, l1] at i0
          rw [l2] at i1
          rw [sumF_add, sumF_add, sumF_one, ← Nat.add_assoc]
          have := stF_le (K := K) g
          simp only [List.length_cons, List.length_nil] at this
          omega
        | three n1 n2 n3 h => exact absurd hsz h
        | red n1 n2 n3 h => exact absurd hsz h
      · rw [hk3] at hk hsz
        obtain ⟨k1, k23, hkk, t1, t23⟩ := TbLe.split L [c0] [c1, c2] k hk
        obtain ⟨k2, k3, hkk2, t2, t3⟩ := TbLe.split L [c1] [c2] k23 t23
        have hl : (kidsT t).length = 3 := by rw [hk3]; rfl
        have hsz : (ls.getD L []).getD at' 0 = 3 := hsz
        generalize (seg kind ls (L + 1) at' b).length = nB at *
        cases gB with
        | two n1 n2 h => omega
        | three n1 n2 n3 h hkk e1 l1 e2 l2 e3 l3 p1 p2 p3 g =>
          have i0 := hih 0 c0 b k1 (by rw [hk3]; rfl) (by omega) e1 t1
          have i1 := hih 1 c1 (b + n1) k2 (by rw [hk3]; rfl) (by omega) e2 t2
          have i2 := hih 2 c2 (b + n1 + n2) k3 (by rw [hk3]; rfl) (by omega) e3 t3
          rw [Nat.add_zero, l1] at i0
          rw [l2] at i1
          rw [l3] at i2
          rw [sumF_add, sumF_add, sumF_add, sumF_one, ← Nat.add_assoc, ← Nat.add_assoc, ← Nat.add_assoc]
          have := stF_le (K := K) g
          simp only [List.length_cons, List.length_nil] at this
          omega
        | red n1 n2 n3 h hkk e1 l1 e2 l2 e3 l3 p1 p2 p3 g gz =>
          have i0 := hih 0 c0 b k1 (by rw [hk3]; rfl) (by omega) e1 t1
          have i1 := hih 1 c1 (b + n1) k2 (by rw [hk3]; rfl) (by omega) e2 t2
          have i2 := hih 2 c2 (b + n1 + n2 + 1) k3 (by rw [hk3]; rfl) (by omega) e3 t3
          rw [Nat.add_zero, l1] at i0
          rw [l2] at i1
          rw [l3] at i2
          rw [sumF_add, sumF_add, sumF_add, sumF_add, sumF_one, sumF_one]
          rw [show b + (n1 + n2) = b + n1 + n2 by omega, show b + (n1 + n2 + 1) = b + n1 + n2 + 1 by omega, show b + (n1 + n2 + 1 + n3) = b + n1 + n2 + 1 + n3 by omega]
          have g1 := stF_le (K := K) g
          have g2 := stF_le (K := K) gz
          simp only [List.length_cons, List.length_nil] at g1 g2
          omega
theorem sndL_snoc (ps : List Stp) (z : Stp) : sndL (ps ++ [z]) = sndL ps + (z.sd.length : Int) := by
  unfold sndL
  rw [List.map_append, List.sum_append]
  simp
theorem step_few {B : List Nd} {ids K : List Int} {by' : Int} (ks : List Int) : (stepN B ids K by' ks).2.length ≤ ks.length := by
  unfold stepN
  split
  · rw [List.length_eraseIdx]
    split <;> omega
  · exact Nat.le_refl _
theorem stp_sum {A B : List Nd} {ids K : List Int} {f : Int → Option Int} {by' : Int} (eK : K = keepL A f ids B B.length) : ∀ n, n ≤ B.length → sndL (stpL A f ids B by' n) ≤ ((sumF (stF B K) 0 n : Nat) : Int)
  | 0, _ => Int.le_refl _
  | n + 1, hn => by
    have ih := stp_sum (by' := by') eK n (by omega)
    show _ ≤ ((sumF (stF B K) 0 n + stF B K (0 + n) : Nat) : Int)
    rw [Nat.zero_add, stpL]
    have hp : (keepL A f ids B (n + 1)).getD n 0 = K.getD n 0 := by rw [eK, keepL_pre A f ids B (Nat.lt_succ_self n) B.length hn]
    have e : stF B K n = (if K.getD n 0 < 0 ∧ 0 < (B.getD n nd0).lv then (B.getD n nd0).ks.length else 0) := rfl
    rw [hp, e]
    split
    · rw [sndL_snoc]
      have := step_few (B := B) (ids := ids) (K := keepL A f ids B (n + 1)) (by' := by') (B.getD n nd0).ks
      show sndL _ + (((stepN B ids (keepL A f ids B (n + 1)) by' (B.getD n nd0).ks).2.length : Nat) : Int) ≤ _
      omega
    · rw [List.append_nil]
      omega
/-- Groups cut off a list. -/
def cutG {d : Nat} : List Int → List (NT d) → List (NT (d + 1))
  | [], _ => []
  | x :: r, l => grpT (l.take x.toNat) :: cutG r (l.drop x.toNat)
theorem cutG_ok {d : Nat} : ∀ (r : List Int) (l : List (NT d)), r.all two3 = true → r.sum = (l.length : Int) → (∀ t ∈ l, wfT d t) → flatT (cutG r l) = l ∧ lensT (cutG r l) = r ∧ (∀ t ∈ cutG r l, wfT (d + 1) t) ∧ (cutG r l).length = r.length
  | [], l, _, hs, _ => by
    have : l = [] := List.length_eq_zero_iff.1 (by have : ([] : List Int).sum = 0 := rfl; omega)
    subst this
    exact ⟨rfl, rfl, fun t ht => by simp [cutG] at ht, rfl⟩
  | x :: r, l, h2, hs, hw => by
    rw [List.all_cons, Bool.and_eq_true] at h2
    rw [List.sum_cons] at hs
    have hx : x = 2 ∨ x = 3 := by
      have := h2.1
      unfold two3 at this
      simpa using this
    have hr : 0 ≤ r.sum := by
      have : ∀ r : List Int, r.all two3 = true → 0 ≤ r.sum := fun r => by
        induction r with
        | nil => exact fun _ => Int.le_refl _
        | cons y r ih =>
          intro h
          rw [List.all_cons, Bool.and_eq_true] at h
          have h1 := h.1
          unfold two3 at h1
          have h1 : y = 2 ∨ y = 3 := by simpa using h1
          have := ih h.2
          rw [List.sum_cons]
          omega
      exact this r h2.2
    have htl : (l.take x.toNat).length = x.toNat := by rw [List.length_take]; omega
    obtain ⟨q1, q2, q3, q4⟩ := cutG_ok r (l.drop x.toNat) h2.2 (by rw [List.length_drop]; omega) fun t ht => hw t (List.mem_of_mem_drop ht)
    refine ⟨?_, ?_, fun t ht => ?_, ?_⟩
    · show flatT (grpT (l.take x.toNat) :: cutG r (l.drop x.toNat)) = l
      rw [flatT_cons, q1]
      exact List.take_append_drop _ _
    · show ((((l.take x.toNat).length : Nat) : Int) :: lensT (cutG r (l.drop x.toNat))) = x :: r
      rw [q2, htl]
      congr 1
      omega
    · have ht : t ∈ grpT (l.take x.toNat) :: cutG r (l.drop x.toNat) := ht
      rcases List.mem_cons.1 ht with rfl | ht
      · exact ⟨by show (l.take x.toNat).length = 2 ∨ (l.take x.toNat).length = 3; omega, fun k hk => hw k (List.mem_of_mem_take hk)⟩
      · exact q3 t ht
    · show (cutG r (l.drop x.toNat)).length + 1 = r.length + 1
      rw [q4]
theorem tree_of : ∀ (ls : List (List Int)) (d : Nat) (l : List (NT d)), okLv (l.length : Int) ls = true → (∀ t ∈ l, wfT d t) → 0 < l.length → ∃ (D : Nat) (t : NT D), D = d + ls.length ∧ wfT D t ∧ idsF D [t] = idsF d l ∧ lvF D [t] = lvF d l ++ ls
  | [], d, l, h, hw, hp => by
    simp only [okLv, decide_eq_true_eq] at h
    match l, h, hw, hp with
    | [t], _, hw, _ => exact ⟨d, t, rfl, hw t (List.mem_singleton.2 rfl), rfl, (List.append_nil _).symm⟩
    | _ :: _ :: _, h, _, _ => simp only [List.length_cons] at h; omega
  | r :: ls, d, l, h, hw, hp => by
    simp only [okLv, Bool.and_eq_true, decide_eq_true_eq] at h
    obtain ⟨⟨⟨h1, h2⟩, h3⟩, h4⟩ := h
    obtain ⟨q1, q2, q3, q4⟩ := cutG_ok r l h2 h3 hw
    obtain ⟨D, t, e1, e2, e3, e4⟩ := tree_of ls (d + 1) (cutG r l) (by rw [q4]; exact h4) q3 (by
      rw [q4]
      cases r with
      | nil => have : ([] : List Int).sum = 0 := rfl; omega
      | cons => exact Nat.succ_pos _)
    refine ⟨D, t, by rw [e1, List.length_cons]; omega, e2, ?_, ?_⟩
    · rw [e3]
      show idsF d (flatT (cutG r l)) = _
      rw [q1]
    · rw [e4]
      show (lvF d (flatT (cutG r l)) ++ [lensT (cutG r l)]) ++ ls = _
      rw [q1, q2, List.append_assoc]
      rfl
theorem tree_is {ids : List Int} {ls : List (List Int)} (hok : OkT ids ls) : ∃ (d : Nat) (l : List (NT d)), TreeIs d l ids ls := by
  by_cases hz : ids = []
  · subst hz
    have hl : ls = [] := by
      have h := hok.2
      cases ls with
      | nil => rfl
      | cons r ls =>
        simp only [okLv, Bool.and_eq_true, decide_eq_true_eq] at h
        have := h.1.1.1
        simp only [List.length_nil] at this
        omega
    subst hl
    exact ⟨0, [], (fun _ q => by cases q), Nat.zero_le _, (fun _ => rfl), rfl, rfl⟩
  · obtain ⟨D, t, e1, e2, e3, e4⟩ := tree_of ls 0 (show List (NT 0) from ids) hok.2 (fun _ _ => trivial) (List.length_pos_iff.2 hz)
    exact ⟨D, [t], fun s hs => by rw [List.mem_singleton.1 hs]; exact e2, Nat.le_refl 1, fun q => by simp at q, e3, e4⟩
/-- A forest of one is a root, and all of it stands in the nodes. -/
theorem tree_root {kind : Int} {d : Nat} {l : List (NT d)} {ids : List Int} {ls : List (List Int)} (h : TreeIs d l ids ls) (hok : OkT ids ls) {L : Nat} {t : NT L} (hs : SubT L t d l) : ∃ at2 b2, AtT ids ls L t at2 ∧ EmbS (nodesL kind ids ls) kind ls L at2 b2 := by
  obtain ⟨x, hx, hs⟩ := hs
  have hl : l = [x] := by
    have := h.one
    match l, hx, this with
    | [y], hx, _ => rw [List.mem_singleton.1 hx]
    | _ :: _ :: _, _, h => simp at h
  subst hl
  have hw := h.wf x (List.mem_singleton.2 rfl)
  have hz : ¬ ids.length = 0 := fun q => by
    obtain ⟨r, hr⟩ := ids_fst d x hw
    rw [← h.ids, hr] at q
    simp at q
  have hd : ls.length = d := by rw [← h.lv, lvF_len]
  have ha := at_all (ids := ids) (ls := ls) d [] [] x [] h.ids.symm (by rw [List.append_nil]; exact h.lv.symm)
  have he := emb_root (kind := kind) hok hz
  rw [hd] at he
  exact emb_sub hs 0 0 hw ha he
/-- All that is sent. -/
theorem sends_few {kind by' : Int} {ids0 ids T : List Int} {ls0 ls : List (List Int)} {d0 d n : Nat} {l0 : List (NT d0)} {l : List (NT d)} (h0 : OkT ids0 ls0) (h1 : OkT ids ls) (t0 : TreeIs d0 l0 ids0 ls0) (t1 : TreeIs d l ids ls) (hz : ¬ ids.length = 0) (hb : BadA (BadT d0 l0 (by' :: T)) n d l) :
    sndL (stpL (nodesL kind ids0 ls0) (lvT (nodesL kind ids0 ls0) ids0 T by') ids (nodesL kind ids ls) by' (nodesL kind ids ls).length) ≤ ((4 * (n * ls.length) : Nat) : Int) := by
  have hs := stp_sum (A := nodesL kind ids0 ls0) (B := nodesL kind ids ls) (ids := ids) (f := lvT (nodesL kind ids0 ls0) ids0 T by') (by' := by') rfl _ (Nat.le_refl _)
  have hd : ls.length = d := by rw [← t1.lv, lvF_len]
  obtain ⟨x, rfl⟩ : ∃ x, l = [x] := by
    match l, t1 with
    | [], t1 => exact absurd (by rw [← t1.ids, idsF_nil]; rfl) hz
    | [x], _ => exact ⟨x, rfl⟩
    | _ :: _ :: _, t1 => exact absurd t1.one (by simp)
  have hw := t1.wf x (List.mem_singleton.2 rfl)
  have ha := at_all (ids := ids) (ls := ls) d [] [] x [] t1.ids.symm (by rw [List.append_nil]; exact t1.lv.symm)
  have he := emb_root (kind := kind) h1 hz
  have hl : (nodesL kind ids ls).length = (seg kind ls d 0 0).length := by rw [nodes_seg h1 hz, hd]
  rw [hd] at he ⊢
  have h3 := send_seg (T := T) (by' := by') (ids := ids) (nodes_trf (kind := kind) h0) (B := nodesL kind ids ls) rfl (fun L t hnb => by
    obtain ⟨at0, b0, q1, q2⟩ := tree_root (kind := kind) t0 h0 (L := L) (t := t) (Classical.not_not.1 fun q => hnb (.inl q))
    exact ⟨at0, b0, q1, q2, fun y hy => ⟨fun q => hnb (.inr ⟨y, List.mem_cons_of_mem _ q, hy⟩), fun q => hnb (.inr ⟨y, by rw [q]; exact List.mem_cons_self .., hy⟩)⟩⟩) d x 0 0 (n * d) hw ha he (TbLe.of d [x] hb)
  rw [← hl] at h3
  omega
end Go.Proofs.Ytfgammcefaomeaa
