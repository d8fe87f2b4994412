/- Groups that stay are kept whole; so many are sent to as there are others. -/
import Derived.Test.YtfgammcefaomeaaPB1
import Derived.Test.YtfgammcefaomeaaP15
namespace Go.Proofs.Ytfgammcefaomeaa
open Go Go.RowKit
/-- A tree's node is a group of the levels. -/
def AtT (ids : List Int) (ls : List (List Int)) : (L : Nat) → NT L → Nat → Prop
  | 0, t, at' => at' < ids.length ∧ ids.getD at' 0 = (show Int from t)
  | L + 1, t, at' => (ls.getD L []).getD at' 0 = ((kidsT t).length : Int) ∧ ∀ j, j < (kidsT t).length → AtT ids ls L ((kidsT t).getD j (dfT L)) (fstN ls L at' + j)
theorem at_zero (pre post : List Int) (t : Int) : pre.length < (pre ++ t :: post).length ∧ (pre ++ t :: post).getD pre.length 0 = t := by
  refine ⟨by rw [List.length_append, List.length_cons]; omega, ?_⟩
  rw [List.getD_eq_getElem?_getD, List.getElem?_append_right (Nat.le_refl _), Nat.sub_self]
  rfl
theorem at_all {ids : List Int} {ls : List (List Int)} : ∀ (d : Nat) (pre post : List (NT d)) (t : NT d) (rest : List (List Int)), ids = idsF d (pre ++ t :: post) → ls = lvF d (pre ++ t :: post) ++ rest → AtT ids ls d t pre.length
  | 0, pre, post, t, rest, hi, _ => by
    subst hi
    exact at_zero pre post t
  | d + 1, pre, post, t, rest, hi, hl => by
    have hl2 : ls = lvF d (flatT (pre ++ t :: post)) ++ (lensT (pre ++ t :: post) :: rest) := by
      rw [hl]
      show (lvF d (flatT (pre ++ t :: post)) ++ [lensT (pre ++ t :: post)]) ++ rest = _
      rw [List.append_assoc]
      rfl
    have hd : ls.getD d [] = lensT (pre ++ t :: post) := by
      rw [hl2, List.getD_eq_getElem?_getD, List.getElem?_append_right (by rw [lvF_len]; exact Nat.le_refl _), lvF_len, Nat.sub_self]
      rfl
    refine ⟨by rw [hd, lens_at], fun j hj => ?_⟩
    have hf : fstN ls d pre.length = (flatT pre).length := by
      unfold fstN
      rw [hd, frm_lens, Int.toNat_natCast]
    have e := split_at (kidsT t) (dfT d) hj
    have hfl : flatT (pre ++ t :: post) = (flatT pre ++ (kidsT t).take j) ++ (kidsT t).getD j (dfT d) :: ((kidsT t).drop (j + 1) ++ flatT post) := by
      rw [flatT_append, flatT_cons]
      conv => lhs; rw [e]
      simp only [List.append_assoc, List.cons_append]
    have ih := at_all (ids := ids) (ls := ls) d (flatT pre ++ (kidsT t).take j) ((kidsT t).drop (j + 1) ++ flatT post) ((kidsT t).getD j (dfT d)) (lensT (pre ++ t :: post) :: rest) (by rw [← hfl]; exact hi) (by rw [← hfl]; exact hl2)
    rw [List.length_append, List.length_take, Nat.min_eq_left (by omega), ← hf] at ih
    exact ih
/-- A group's nodes stand in a list. -/
def EmbS (N : List Nd) (kind : Int) (ls : List (List Int)) (L at' b : Nat) : Prop := ∃ u, Emb2 N b (upL (seg kind ls L at' b) u)
structure GrpN (N : List Nd) (r L : Nat) (rd : Bool) (ks : List Nat) : Prop where
  lt : r < N.length
  lv : (N.getD r nd0).lv = ((L + 1 : Nat) : Int)
  red : (N.getD r nd0).rd = rd
  kk : (N.getD r nd0).ks = kz ks
  up : ∀ k ∈ ks, (N.getD k nd0).up = (r : Int)
/-- What stands of a group. -/
inductive GrpV (N : List Nd) (kind : Int) (ls : List (List Int)) (L at' b : Nat) : Nat → Prop
  | two (n1 n2 : Nat) (h : (ls.getD L []).getD at' 0 = 2) (e1 : EmbS N kind ls L (fstN ls L at') b) (l1 : (seg kind ls L (fstN ls L at') b).length = n1) (e2 : EmbS N kind ls L (fstN ls L at' + 1) (b + n1)) (l2 : (seg kind ls L (fstN ls L at' + 1) (b + n1)).length = n2) (p1 : 0 < n1) (p2 : 0 < n2) (g : GrpN N (b + n1 + n2) L false [b + n1 - 1, b + n1 + n2 - 1]) : GrpV N kind ls L at' b (n1 + n2 + 1)
  | three (n1 n2 n3 : Nat) (h : ¬ (ls.getD L []).getD at' 0 = 2) (hk : kind = 1) (e1 : EmbS N kind ls L (fstN ls L at') b) (l1 : (seg kind ls L (fstN ls L at') b).length = n1) (e2 : EmbS N kind ls L (fstN ls L at' + 1) (b + n1)) (l2 : (seg kind ls L (fstN ls L at' + 1) (b + n1)).length = n2)
      (e3 : EmbS N kind ls L (fstN ls L at' + 2) (b + n1 + n2)) (l3 : (seg kind ls L (fstN ls L at' + 2) (b + n1 + n2)).length = n3) (p1 : 0 < n1) (p2 : 0 < n2) (p3 : 0 < n3) (g : GrpN N (b + n1 + n2 + n3) L false [b + n1 - 1, b + n1 + n2 - 1, b + n1 + n2 + n3 - 1]) : GrpV N kind ls L at' b (n1 + n2 + n3 + 1)
  | red (n1 n2 n3 : Nat) (h : ¬ (ls.getD L []).getD at' 0 = 2) (hk : ¬ kind = 1) (e1 : EmbS N kind ls L (fstN ls L at') b) (l1 : (seg kind ls L (fstN ls L at') b).length = n1) (e2 : EmbS N kind ls L (fstN ls L at' + 1) (b + n1)) (l2 : (seg kind ls L (fstN ls L at' + 1) (b + n1)).length = n2)
      (e3 : EmbS N kind ls L (fstN ls L at' + 2) (b + n1 + n2 + 1)) (l3 : (seg kind ls L (fstN ls L at' + 2) (b + n1 + n2 + 1)).length = n3) (p1 : 0 < n1) (p2 : 0 < n2) (p3 : 0 < n3) (g : GrpN N (b + n1 + n2) L true [b + n1 - 1, b + n1 + n2 - 1]) (g2 : GrpN N (b + n1 + n2 + 1 + n3) L false [b + n1 + n2, b + n1 + n2 + 1 + n3 - 1]) : GrpV N kind ls L at' b (n1 + n2 + 1 + n3 + 1)
theorem grpV {N : List Nd} {kind : Int} {ls : List (List Int)} {L at' b : Nat} (h : EmbS N kind ls (L + 1) at' b) : GrpV N kind ls L at' b (seg kind ls (L + 1) at' b).length := by
  obtain ⟨u, he⟩ := h
  have hA := seg_pos kind ls L (fstN ls L at') b
  have hB := seg_pos kind ls L (fstN ls L at' + 1) (b + (seg kind ls L (fstN ls L at') b).length)
  by_cases h2 : (ls.getD L []).getD at' 0 = 2
  · simp only [seg] at he ⊢
    rw [if_pos h2] at he ⊢
    generalize qA : seg kind ls L (fstN ls L at') b = A at *
    generalize qB : seg kind ls L (fstN ls L at' + 1) (b + A.length) = B at *
    rw [← List.append_assoc, upL_snoc, List.append_assoc] at he
    have eA := he.left
    have eB := he.right.left
    have eX := he.right.right
    rw [upL_length] at eB
    rw [upL_length, upL_length] at eX
    have hx := eX.2 0 Nat.one_pos
    have hlt := eX.1
    rw [Nat.add_zero] at hx
    rw [List.length_append, List.length_append, upL_length, upL_length, List.length_singleton, ← Nat.add_assoc]
    refine .two A.length B.length h2 ⟨_, by rw [qA]; exact eA⟩ (by rw [qA]) ⟨_, by rw [qB]; exact eB⟩ (by rw [qB]) hA hB ⟨by simp at hlt; omega, by rw [hx]; rfl, by rw [hx]; rfl, by rw [hx]; rfl, fun k hk => ?_⟩
    simp only [List.mem_cons, List.not_mem_nil, or_false] at hk
    rcases hk with rfl | rfl
    · exact eA.last hA
    · exact eB.last hB
  · by_cases hk : kind = 1
    · have hC := seg_pos kind ls L (fstN ls L at' + 2) (b + (seg kind ls L (fstN ls L at') b).length + (seg kind ls L (fstN ls L at' + 1) (b + (seg kind ls L (fstN ls L at') b).length)).length)
      simp only [seg] at he ⊢
      rw [if_neg h2, if_pos hk] at he ⊢
      generalize qA : seg kind ls L (fstN ls L at') b = A at *
      generalize qB : seg kind ls L (fstN ls L at' + 1) (b + A.length) = B at *
      generalize qC : seg kind ls L (fstN ls L at' + 2) (b + A.length + B.length) = C at *
      rw [← List.append_assoc, ← List.append_assoc, upL_snoc, List.append_assoc, List.append_assoc] at he
      have eA := he.left
      have eB := he.right.left
      have eC := he.right.right.left
      have eX := he.right.right.right
      rw [upL_length] at eB
      rw [upL_length, upL_length] at eC
      rw [upL_length, upL_length, upL_length] at eX
      have hx := eX.2 0 Nat.one_pos
      have hlt := eX.1
      rw [Nat.add_zero] at hx
      rw [List.length_append, List.length_append, List.length_append, upL_length, upL_length, upL_length, List.length_singleton, ← Nat.add_assoc, ← Nat.add_assoc]
      refine .three A.length B.length C.length h2 hk ⟨_, by rw [qA]; exact eA⟩ (by rw [qA]) ⟨_, by rw [qB]; exact eB⟩ (by rw [qB]) ⟨_, by rw [qC]; exact eC⟩ (by rw [qC]) hA hB hC ⟨by simp at hlt; omega, by rw [hx]; rfl, by rw [hx]; rfl, by rw [hx]; rfl, fun k hk => ?_⟩
      simp only [List.mem_cons, List.not_mem_nil, or_false] at hk
      rcases hk with rfl | rfl | rfl
      · exact eA.last hA
      · exact eB.last hB
      · exact eC.last hC
    · have hC := seg_pos kind ls L (fstN ls L at' + 2) (b + (seg kind ls L (fstN ls L at') b).length + (seg kind ls L (fstN ls L at' + 1) (b + (seg kind ls L (fstN ls L at') b).length)).length + 1)
      rw [seg_red h2 hk] at he ⊢
      simp only [] at he ⊢
      generalize qA : seg kind ls L (fstN ls L at') b = A at *
      generalize qB : seg kind ls L (fstN ls L at' + 1) (b + A.length) = B at *
      generalize qC : seg kind ls L (fstN ls L at' + 2) (b + A.length + B.length + 1) = C at *
      generalize hz : ndN (L + 1) at' false (loN ls (L + 1) at') (loN ls (L + 1) (at' + 1)) [b + A.length + B.length, b + A.length + B.length + 1 + C.length - 1] = z at *
      have ez : z.lv = ((L + 1 : Nat) : Int) ∧ z.rd = false ∧ z.ks = kz [b + A.length + B.length, b + A.length + B.length + 1 + C.length - 1] := by subst hz; exact ⟨rfl, rfl, rfl⟩
      generalize hr : ({ ndN (L + 1) at' true (loN ls (L + 1) at') (loN ls L (fstN ls L at' + 2)) [b + A.length - 1, b + A.length + B.length - 1] with up := ((b + A.length + B.length + 1 + C.length : Nat) : Int) } : Nd) = r at *
      have er : r.lv = ((L + 1 : Nat) : Int) ∧ r.rd = true ∧ r.ks = kz [b + A.length - 1, b + A.length + B.length - 1] ∧ r.up = ((b + A.length + B.length + 1 + C.length : Nat) : Int) := by subst hr; exact ⟨rfl, rfl, rfl, rfl⟩
      have e0 : upL A ((b + A.length + B.length : Nat) : Int) ++ (upL B ((b + A.length + B.length : Nat) : Int) ++ r :: (upL C ((b + A.length + B.length + 1 + C.length : Nat) : Int) ++ [z])) = (((upL A ((b + A.length + B.length : Nat) : Int) ++ upL B ((b + A.length + B.length : Nat) : Int)) ++ [r]) ++ upL C ((b + A.length + B.length + 1 + C.length : Nat) : Int)) ++ [z] := by simp only [List.append_assoc, List.cons_append, List.nil_append]
      rw [e0, upL_snoc] at he
      simp only [List.append_assoc] at he
      have eA := he.left
      have eB := he.right.left
      have eR := he.right.right.left
      have eC := he.right.right.right.left
      have eX := he.right.right.right.right
      rw [upL_length] at eB
      rw [upL_length, upL_length] at eR
      rw [upL_length, upL_length, List.length_singleton] at eC
      rw [upL_length, upL_length, upL_length, List.length_singleton] at eX
      have hxr := eR.2 0 Nat.one_pos
      have hlr := eR.1
      rw [Nat.add_zero] at hxr
      have hxz := eX.2 0 Nat.one_pos
      have hlz := eX.1
      rw [Nat.add_zero] at hxz
      have hxr : N.getD (b + A.length + B.length) nd0 = r := hxr
      have hxz : N.getD (b + A.length + B.length + 1 + C.length) nd0 = { z with up := u } := hxz
      have hlen : (upL A ((b + A.length + B.length : Nat) : Int) ++ (upL B ((b + A.length + B.length : Nat) : Int) ++ r :: (upL C ((b + A.length + B.length + 1 + C.length : Nat) : Int) ++ [z]))).length = A.length + B.length + 1 + C.length + 1 := by
        simp only [List.length_append, List.length_cons, List.length_nil, upL_length]
        omega
      rw [hlen]
      refine .red A.length B.length C.length h2 hk ⟨_, by rw [qA]; exact eA⟩ (by rw [qA]) ⟨_, by rw [qB]; exact eB⟩ (by rw [qB]) ⟨_, by rw [qC]; exact eC⟩ (by rw [qC]) hA hB hC ⟨by simp at hlr; omega, by rw [hxr]; exact er.1, by rw [hxr]; exact er.2.1, by rw [hxr]; exact er.2.2.1, fun k hk => ?_⟩ ⟨by simp at hlz; omega, by rw [hxz]; exact ez.1, by rw [hxz]; exact ez.2.1, by rw [hxz]; exact ez.2.2, fun k hk => ?_⟩
      · simp only [List.mem_cons, List.not_mem_nil, or_false] at hk
        rcases hk with rfl | rfl
        · exact eA.last hA
        · exact eB.last hB
      · simp only [List.mem_cons, List.not_mem_nil, or_false] at hk
        rcases hk with rfl | rfl
        · rw [hxr]
          exact er.2.2.2
        · exact eC.last hC
theorem keep_node {A B : List Nd} {ids K : List Int} {f : Int → Option Int} (eK : K = keepL A f ids B B.length) {r r0 L : Nat} {rd : Bool} {ks : List Nat} (g : Nat → Nat) (hB : GrpN B r L rd ks) (hA : GrpN A r0 L rd (ks.map g)) (hks : 0 < ks.length) (hk : ∀ k ∈ ks, k < r ∧ K.getD k 0 = ((g k : Nat) : Int)) : K.getD r 0 = (r0 : Int) := by
  have h1 : kidK (keepL A f ids B r) (B.getD r nd0).ks = kz (ks.map g) := by
    rw [hB.kk]
    unfold kidK kz
    rw [List.map_map, List.map_map]
    refine List.map_congr_left fun k hk' => ?_
    show (keepL A f ids B r).getD ((k : Int).toNat) 0 = ((g k : Nat) : Int)
    rw [Int.toNat_natCast, ← keepL_pre A f ids B (hk k hk').1 B.length (Nat.le_of_lt hB.lt), ← eK]
    exact (hk k hk').2
  have h2 := keepL_at A f ids B hB.lt
  rw [← eK] at h2
  rw [h2]
  unfold keptN
  rw [if_neg (by rw [hB.lv]; omega), h1, if_neg]
  · match ks, hks with
    | k :: ks, _ =>
      have h3 : (kz ((k :: ks).map g)).getD 0 0 = ((g k : Nat) : Int) := rfl
      have h4 := hA.up (g k) (by simp)
      rw [h3, Int.toNat_natCast, h4]
      simp only []
      rw [if_neg, ]
      rw [Int.toNat_natCast, hA.red, hB.red, hA.kk]
      rintro (q | q | q)
      · omega
      · exact q rfl
      · exact q rfl
  · intro q
    obtain ⟨z, hz, hzl⟩ := List.any_eq_true.1 q
    obtain ⟨j, rfl, -⟩ := kz_in hz
    have := of_decide_eq_true hzl
    omega
theorem emb_leaf {N : List Nd} {kind : Int} {ls : List (List Int)} {at' b : Nat} (h : EmbS N kind ls 0 at' b) : b < N.length ∧ (N.getD b nd0).lv = 0 ∧ (N.getD b nd0).ix = (at' : Int) := by
  obtain ⟨u, h1, h2⟩ := h
  have h3 := h2 0 Nat.one_pos
  rw [Nat.add_zero] at h3
  rw [upL_length] at h1
  have h4 : (seg kind ls 0 at' b).length = 1 := rfl
  refine ⟨by omega, ?_, ?_⟩
  · rw [h3]
    rfl
  · rw [h3]
    rfl
/-- A group that stays is kept whole. -/
theorem keep_seg {kind by' : Int} {ids0 ids T K : List Int} {ls0 ls : List (List Int)} {A B : List Nd} (ht : TrF A ids0) (eK : K = keepL A (lvT A ids0 T by') ids B B.length) : ∀ (L : Nat) (t : NT L) (at' at0 b b0 : Nat), wfT L t → (∀ y ∈ idsF L [t], y ∉ T ∧ y ≠ by') → AtT ids ls L t at' → AtT ids0 ls0 L t at0 → EmbS B kind ls L at' b → EmbS A kind ls0 L at0 b0 →
    (seg kind ls L at' b).length = (seg kind ls0 L at0 b0).length ∧ ∀ i, i < (seg kind ls L at' b).length → K.getD (b + i) 0 = ((b0 + i : Nat) : Int)
  | 0, t, at', at0, b, b0, _, hT, h1, h2, e1, e2 => by
    refine ⟨rfl, fun i hi => ?_⟩
    have hi : i < 1 := hi
    have : i = 0 := by omega
    subst this
    obtain ⟨l1, v1, x1⟩ := emb_leaf e1
    obtain ⟨l2, v2, x2⟩ := emb_leaf e2
    obtain ⟨q1, q2⟩ := hT (show Int from t) (List.mem_singleton.2 rfl)
    rw [Nat.add_zero, Nat.add_zero, eK, keepL_at A _ ids B l1]
    unfold keptN
    rw [if_pos v1, x1, Int.toNat_natCast, h1.2]
    unfold lvT
    rw [if_neg (fun q => q.elim q2 q1), lfF_hit (k := b0) v2 (by rw [x2, Int.toNat_natCast]; exact h2.2.symm) (fun j hj hz hq => ?_) A.length (Nat.le_refl _) l2]
    · rfl
    · rcases ht.lv j hj with ⟨-, -, y, h4, h5⟩ | ⟨q, -⟩
      · rw [h4, Int.toNat_natCast, ← h2.2] at hq
        have : at0 = y := nodup_at ht.idn h2.1 h5 hq
        subst this
        exact ht.one j b0 at0 hj l2 hz v2 h4 x2
      · omega
  | L + 1, t, at', at0, b, b0, hw, hT, h1, h2, e1, e2 => by
    have hlen := hw.1
    have hsz := h1.1.trans h2.1.symm
    have hl1 := h1.1
    have hT' : ∀ j, j < (kidsT t).length → ∀ y ∈ idsF L [(kidsT t).getD j (dfT L)], y ∉ T ∧ y ≠ by' := fun j hj y hy => hT y (by
      rw [idsF_one]
      refine ids_part (t := (kidsT t).getD j (dfT L)) ?_ hy
      rw [List.getD_eq_getElem?_getD, List.getElem?_eq_getElem hj]
      exact List.getElem_mem hj)
    have hW' : ∀ j, j < (kidsT t).length → wfT L ((kidsT t).getD j (dfT L)) := fun j hj => hw.2 _ (by
      rw [List.getD_eq_getElem?_getD, List.getElem?_eq_getElem hj]
      exact List.getElem_mem hj)
    have hK := fun (j : Nat) (hj : j < (kidsT t).length) (b b0 : Nat) (e1 : EmbS B kind ls L (fstN ls L at' + j) b) (e2 : EmbS A kind ls0 L (fstN ls0 L at0 + j) b0) => keep_seg ht eK L _ (fstN ls L at' + j) (fstN ls0 L at0 + j) b b0 (hW' j hj) (hT' j hj) (h1.2 j hj) (h2.2 j hj) e1 e2
    have gB := grpV e1
    have gA := grpV e2
    have hb2 : (ls.getD L []).getD at' 0 = 2 ∨ (ls.getD L []).getD at' 0 = 3 := by rw [h1.1]; omega
    generalize (seg kind ls (L + 1) at' b).length = nB at *
    generalize (seg kind ls0 (L + 1) at0 b0).length = nA at *
    have hj0 : 0 < (kidsT t).length := by omega
    have hj1 : 1 < (kidsT t).length := by omega
    cases gB with
    | two n1 n2 h e1 l1 e2 l2 p1 p2 g =>
      cases gA with
      | two m1 m2 h' e1' l1' e2' l2' p1' p2' g' =>
        obtain ⟨k1, k2⟩ := hK 0 hj0 b b0 e1 e1'
        have : m1 = n1 := by rw [← l1, ← l1']; exact k1.symm
        subst this
        obtain ⟨k3, k4⟩ := hK 1 hj1 (b + m1) (b0 + m1) e2 e2'
        have : m2 = n2 := by rw [← l2, ← l2']; exact k3.symm
        subst this
        rw [Nat.add_zero, l1] at k2
        rw [l2] at k4
        refine ⟨rfl, fun i hi => ?_⟩
        by_cases c1 : i < m1
        · exact k2 i c1
        by_cases c2 : i < m1 + m2
        · have := k4 (i - m1) (by omega)
          rwa [show b + m1 + (i - m1) = b + i by omega, show b0 + m1 + (i - m1) = b0 + i by omega] at this
        have : i = m1 + m2 := by omega
        subst this
        rw [← Nat.add_assoc, ← Nat.add_assoc]
        refine keep_node eK (fun k => k - b + b0) g (by
          have e3 : [b + m1 - 1, b + m1 + m2 - 1].map (fun k => k - b + b0) = [b0 + m1 - 1, b0 + m1 + m2 - 1] := by
            simp only [List.map_cons, List.map_nil]
            rw [show b + m1 - 1 - b + b0 = b0 + m1 - 1 by omega, show b + m1 + m2 - 1 - b + b0 = b0 + m1 + m2 - 1 by omega]
          rw [e3]
          exact g') (Nat.succ_pos _) fun k hk => ?_
        simp only [List.mem_cons, List.not_mem_nil, or_false] at hk
        rcases hk with rfl | rfl
        · refine ⟨by omega, ?_⟩
          have := k2 (m1 - 1) (by omega)
          rw [show b + m1 - 1 = b + (m1 - 1) by omega, this]
          congr 1
          omega
        · refine ⟨by omega, ?_⟩
          have := k4 (m2 - 1) (by omega)
          rw [show b + m1 + m2 - 1 = b + m1 + (m2 - 1) by omega, this]
          congr 1
          omega
      | three m1 m2 m3 h' => omega
      | red m1 m2 m3 h' => omega
    | three n1 n2 n3 h hk e1 l1 e2 l2 e3 l3 p1 p2 p3 g =>
      cases gA with
      | two m1 m2 h' => exact absurd (hsz.trans h') h
      | three m1 m2 m3 h' hk' e1' l1' e2' l2' e3' l3' p1' p2' p3' g' =>
        obtain ⟨k1, k2⟩ := hK 0 hj0 b b0 e1 e1'
        have : m1 = n1 := by rw [← l1, ← l1']; exact k1.symm
        subst this
        obtain ⟨k3, k4⟩ := hK 1 hj1 (b + m1) (b0 + m1) e2 e2'
        have : m2 = n2 := by rw [← l2, ← l2']; exact k3.symm
        subst this
        obtain ⟨k5, k6⟩ := hK 2 (by have := hl1; omega) (b + m1 + m2) (b0 + m1 + m2) e3 e3'
        have : m3 = n3 := by rw [← l3, ← l3']; exact k5.symm
        subst this
        rw [Nat.add_zero, l1] at k2
        rw [l2] at k4
        rw [l3] at k6
        refine ⟨rfl, fun i hi => ?_⟩
        by_cases c1 : i < m1
        · exact k2 i c1
        by_cases c2 : i < m1 + m2
        · have := k4 (i - m1) (by omega)
          rwa [show b + m1 + (i - m1) = b + i by omega, show b0 + m1 + (i - m1) = b0 + i by omega] at this
        by_cases c3 : i < m1 + m2 + m3
        · have := k6 (i - m1 - m2) (by omega)
          rwa [show b + m1 + m2 + (i - m1 - m2) = b + i by omega, show b0 + m1 + m2 + (i - m1 - m2) = b0 + i by omega] at this
        have : i = m1 + m2 + m3 := by omega
        subst this
        rw [← Nat.add_assoc, ← Nat.add_assoc, ← Nat.add_assoc, ← Nat.add_assoc]
        refine keep_node eK (fun k => k - b + b0) g (by
          have e3 : [b + m1 - 1, b + m1 + m2 - 1, b + m1 + m2 + m3 - 1].map (fun k => k - b + b0) = [b0 + m1 - 1, b0 + m1 + m2 - 1, b0 + m1 + m2 + m3 - 1] := by
            simp only [List.map_cons, List.map_nil]
            rw [show b + m1 - 1 - b + b0 = b0 + m1 - 1 by omega, show b + m1 + m2 - 1 - b + b0 = b0 + m1 + m2 - 1 by omega, show b + m1 + m2 + m3 - 1 - b + b0 = b0 + m1 + m2 + m3 - 1 by omega]
          rw [e3]
          exact g') (Nat.succ_pos _) fun k hk => ?_
        simp only [List.mem_cons, List.not_mem_nil, or_false] at hk
        rcases hk with rfl | rfl | rfl
        · refine ⟨by omega, ?_⟩
          have := k2 (m1 - 1) (by omega)
          rw [show b + m1 - 1 = b + (m1 - 1) by omega, this]
          congr 1
          omega
        · refine ⟨by omega, ?_⟩
          have := k4 (m2 - 1) (by omega)
          rw [show b + m1 + m2 - 1 = b + m1 + (m2 - 1) by omega, this]
          congr 1
          omega
        · refine ⟨by omega, ?_⟩
          have := k6 (m3 - 1) (by omega)
          rw [show b + m1 + m2 + m3 - 1 = b + m1 + m2 + (m3 - 1) by omega, this]
          congr 1
          omega
      | red m1 m2 m3 h' hk' => exact absurd hk hk'
    | red n1 n2 n3 h hk e1 l1 e2 l2 e3 l3 p1 p2 p3 g gz =>
      cases gA with
      | two m1 m2 h' => exact absurd (hsz.trans h') h
      | three m1 m2 m3 h' hk' => exact absurd hk' hk
      | red m1 m2 m3 h' hk' e1' l1' e2' l2' e3' l3' p1' p2' p3' g' gz' =>
        obtain ⟨k1, k2⟩ := hK 0 hj0 b b0 e1 e1'
        have : m1 = n1 := by rw [← l1, ← l1']; exact k1.symm
        subst this
        obtain ⟨k3, k4⟩ := hK 1 hj1 (b + m1) (b0 + m1) e2 e2'
        have : m2 = n2 := by rw [← l2, ← l2']; exact k3.symm
        subst this
        obtain ⟨k5, k6⟩ := hK 2 (by omega) (b + m1 + m2 + 1) (b0 + m1 + m2 + 1) e3 e3'
        have : m3 = n3 := by rw [← l3, ← l3']; exact k5.symm
        subst this
        rw [Nat.add_zero, l1] at k2
        rw [l2] at k4
        rw [l3] at k6
        have kr : K.getD (b + m1 + m2) 0 = ((b0 + m1 + m2 : Nat) : Int) := by
          refine keep_node eK (fun k => k - b + b0) g (by
            have e3 : [b + m1 - 1, b + m1 + m2 - 1].map (fun k => k - b + b0) = [b0 + m1 - 1, b0 + m1 + m2 - 1] := by
              simp only [List.map_cons, List.map_nil]
              rw [show b + m1 - 1 - b + b0 = b0 + m1 - 1 by omega, show b + m1 + m2 - 1 - b + b0 = b0 + m1 + m2 - 1 by omega]
            rw [e3]
            exact g') (Nat.succ_pos _) fun k hk => ?_
          simp only [List.mem_cons, List.not_mem_nil, or_false] at hk
          rcases hk with rfl | rfl
          · refine ⟨by omega, ?_⟩
            have := k2 (m1 - 1) (by omega)
            rw [show b + m1 - 1 = b + (m1 - 1) by omega, this]
            congr 1
            omega
          · refine ⟨by omega, ?_⟩
            have := k4 (m2 - 1) (by omega)
            rw [show b + m1 + m2 - 1 = b + m1 + (m2 - 1) by omega, this]
            congr 1
            omega
        refine ⟨rfl, fun i hi => ?_⟩
        by_cases c1 : i < m1
        · exact k2 i c1
        by_cases c2 : i < m1 + m2
        · have := k4 (i - m1) (by omega)
          rwa [show b + m1 + (i - m1) = b + i by omega, show b0 + m1 + (i - m1) = b0 + i by omega] at this
        by_cases c3 : i = m1 + m2
        · subst c3
          rw [← Nat.add_assoc, ← Nat.add_assoc]
          exact kr
        by_cases c4 : i < m1 + m2 + 1 + m3
        · have := k6 (i - m1 - m2 - 1) (by omega)
          rwa [show b + m1 + m2 + 1 + (i - m1 - m2 - 1) = b + i by omega, show b0 + m1 + m2 + 1 + (i - m1 - m2 - 1) = b0 + i by omega] at this
        have : i = m1 + m2 + 1 + m3 := by omega
        subst this
        rw [show b + (m1 + m2 + 1 + m3) = b + m1 + m2 + 1 + m3 by omega, show b0 + (m1 + m2 + 1 + m3) = b0 + m1 + m2 + 1 + m3 by omega]
        refine keep_node eK (fun k => k - b + b0) gz (by
          have e3 : [b + m1 + m2, b + m1 + m2 + 1 + m3 - 1].map (fun k => k - b + b0) = [b0 + m1 + m2, b0 + m1 + m2 + 1 + m3 - 1] := by
            simp only [List.map_cons, List.map_nil]
            rw [show b + m1 + m2 - b + b0 = b0 + m1 + m2 by omega, show b + m1 + m2 + 1 + m3 - 1 - b + b0 = b0 + m1 + m2 + 1 + m3 - 1 by omega]
          rw [e3]
          exact gz') (Nat.succ_pos _) fun k hk => ?_
        simp only [List.mem_cons, List.not_mem_nil, or_false] at hk
        rcases hk with rfl | rfl
        · refine ⟨by omega, ?_⟩
          rw [kr]
          congr 1
          omega
        · refine ⟨by omega, ?_⟩
          have := k6 (m3 - 1) (by omega)
          rw [show b + m1 + m2 + 1 + m3 - 1 = b + m1 + m2 + 1 + (m3 - 1) by omega, this]
          congr 1
          omega
end Go.Proofs.Ytfgammcefaomeaa
