/- Trees of nodes, as the document of law 10 has them: the plain law of its Insert. -/
import Derived.Test.YtfgammcefaomeaaB2
namespace Go.Proofs.Ytfgammcefaomeaa
/-- A node so deep: a member, or the nodes below. -/
def NT : Nat → Type
  | 0 => Int
  | d + 1 => List (NT d)
def dfT : (d : Nat) → NT d
  | 0 => (0 : Int)
  | d + 1 => ([] : List (NT d))
def kidsT {d : Nat} (t : NT (d + 1)) : List (NT d) := t
def grpT {d : Nat} (l : List (NT d)) : NT (d + 1) := l
def fstT : (d : Nat) → NT d → Int
  | 0, t => t
  | d + 1, t => fstT d ((kidsT t).getD 0 (dfT d))
/-- What is below nodes, one behind another. -/
def flatT {d : Nat} (l : List (NT (d + 1))) : List (NT d) := (l.map kidsT).flatten
def idsF : (d : Nat) → List (NT d) → List Int
  | 0, l => l
  | d + 1, l => idsF d (flatT l)
def lensT {d : Nat} (l : List (NT (d + 1))) : List Int := l.map (fun x => ((kidsT x).length : Int))
def lvF : (d : Nat) → List (NT d) → List (List Int)
  | 0, _ => []
  | d + 1, l => lvF d (flatT l) ++ [lensT l]
def wfT : (d : Nat) → NT d → Prop
  | 0, _ => True
  | d + 1, t => ((kidsT t).length = 2 ∨ (kidsT t).length = 3) ∧ ∀ k ∈ kidsT t, wfT d k
theorem flatT_append {d : Nat} (a b : List (NT (d + 1))) : flatT (a ++ b) = flatT a ++ flatT b := by
  unfold flatT
  rw [List.map_append, List.flatten_append]
theorem flatT_cons {d : Nat} (a : NT (d + 1)) (b : List (NT (d + 1))) : flatT (a :: b) = kidsT a ++ flatT b := rfl
theorem flatT_one {d : Nat} (a : NT (d + 1)) : flatT [a] = kidsT a := List.append_nil _
theorem idsF_append : ∀ (d : Nat) (a b : List (NT d)), idsF d (a ++ b) = idsF d a ++ idsF d b
  | 0, _, _ => rfl
  | d + 1, a, b => by
    show idsF d (flatT (a ++ b)) = idsF d (flatT a) ++ idsF d (flatT b)
    rw [flatT_append, idsF_append d]
theorem idsF_nil : ∀ d : Nat, idsF d [] = []
  | 0 => rfl
  | d + 1 => idsF_nil d
theorem idsF_one (d : Nat) (t : NT (d + 1)) : idsF (d + 1) [t] = idsF d (kidsT t) := by
  show idsF d (flatT [t]) = _
  rw [flatT_one]
theorem idsF_cons (d : Nat) (t : NT d) (l : List (NT d)) : idsF d (t :: l) = idsF d [t] ++ idsF d l := idsF_append d [t] l
/-- A node's members begin with its first. -/
theorem ids_fst : ∀ (d : Nat) (t : NT d), wfT d t → ∃ r, idsF d [t] = fstT d t :: r
  | 0, t, _ => ⟨[], rfl⟩
  | d + 1, t, h => by
    obtain ⟨h1, h2⟩ := h
    rw [idsF_one]
    cases hk : kidsT t with
    | nil => rw [hk] at h1; simp at h1
    | cons k ks =>
      obtain ⟨r, hr⟩ := ids_fst d k (h2 k (by rw [hk]; exact List.mem_cons_self ..))
      rw [idsF_cons, hr]
      refine ⟨r ++ idsF d ks, ?_⟩
      show _ = fstT d ((kidsT t).getD 0 (dfT d)) :: _
      rw [hk]
      rfl
/-- The last place at which something holds, or the first. -/
def lastP (p : Nat → Bool) : Nat → Nat
  | 0 => 0
  | i + 1 => if p i then i else lastP p i
theorem lastP_le (p : Nat → Bool) : ∀ n, lastP p n ≤ n
  | 0 => Nat.le_refl _
  | n + 1 => by
    have := lastP_le p n
    unfold lastP
    split <;> omega
theorem lastP_lt (p : Nat → Bool) : ∀ n, 0 < n → lastP p n < n
  | n + 1, _ => by
    have := lastP_le p n
    unfold lastP
    split <;> omega
theorem lastP_is (p : Nat → Bool) : ∀ n, lastP p n = 0 ∨ p (lastP p n) = true
  | 0 => .inl rfl
  | n + 1 => by
    unfold lastP
    split
    · rename_i h
      exact .inr h
    · exact lastP_is p n
theorem lastP_not (p : Nat → Bool) : ∀ n j, lastP p n < j → j < n → p j = false
  | n + 1, j, h1, h2 => by
    unfold lastP at h1
    split at h1
    · omega
    · rename_i h
      by_cases e : j = n
      · rw [e]
        simpa using h
      · exact lastP_not p n j h1 (by omega)
/-- Into which one it goes. -/
def chP (r : Int → Bool) (d : Nat) (x : List (NT d)) (n : Nat) : Nat := lastP (fun j => r (fstT d (x.getD j (dfT d)))) n
/-- Four are two and two. -/
def splT {d : Nat} (kids : List (NT d)) : List (NT (d + 1)) := if kids.length = 4 then [grpT (kids.take 2), grpT (kids.drop 2)] else [grpT kids]
theorem splT_four {d : Nat} {kids : List (NT d)} (h : kids.length = 4) : splT kids = [grpT (kids.take 2), grpT (kids.drop 2)] := if_pos h
theorem splT_not {d : Nat} {kids : List (NT d)} (h : ¬ kids.length = 4) : splT kids = [grpT kids] := if_neg h
def withT (id : Int) : (d : Nat) → NT d → List (NT d)
  | 0, x => if id < (show Int from x) then [(show NT 0 from id), x] else [x, (show NT 0 from id)]
  | d + 1, x =>
    let at' := chP (fun f => decide (f < id)) d (kidsT x) (kidsT x).length
    splT ((kidsT x).take at' ++ withT id d ((kidsT x).getD at' (dfT d)) ++ (kidsT x).drop (at' + 1))
theorem withT_succ (id : Int) (d : Nat) (x : NT (d + 1)) : withT id (d + 1) x = splT ((kidsT x).take (chP (fun f => decide (f < id)) d (kidsT x) (kidsT x).length) ++ withT id d ((kidsT x).getD (chP (fun f => decide (f < id)) d (kidsT x) (kidsT x).length) (dfT d)) ++ (kidsT x).drop (chP (fun f => decide (f < id)) d (kidsT x) (kidsT x).length + 1)) := rfl
theorem cnt_append (a b : List Int) (id : Int) : cnt (a ++ b) id = cnt a id + cnt b id := by
  unfold cnt
  rw [List.filter_append, List.length_append]
theorem cnt_all {a : List Int} {id : Int} (h : ∀ x ∈ a, x < id) : cnt a id = a.length := by
  unfold cnt
  rw [List.filter_eq_self.2 fun x hx => by simpa using h x hx]
theorem cnt_none {a : List Int} {id : Int} (h : ∀ x ∈ a, ¬ x < id) : cnt a id = 0 := by
  unfold cnt
  rw [List.length_eq_zero_iff, List.filter_eq_nil_iff]
  intro x hx
  simpa using h x hx
theorem split_at {α : Type} (l : List α) (df : α) {i : Nat} (h : i < l.length) : l = l.take i ++ l.getD i df :: l.drop (i + 1) := by
  have := List.take_append_drop i l
  rw [List.drop_eq_getElem_cons h] at this
  rw [List.getD_eq_getElem?_getD, List.getElem?_eq_getElem h]
  exact this.symm
/-- Where a member goes: into the node chosen, and there as it does in all. -/
theorem chosen (r : Int → Bool) (id lo : Int) (hlo : id ≤ lo) (hr : ∀ f, r f = true → f ≤ id) (hn : ∀ f, r f = false → lo ≤ f) (d : Nat) (x : List (NT d)) (hx : 0 < x.length) (hw : ∀ k ∈ x, wfT d k) (hs : Rise (idsF d x)) :
    chP r d x x.length < x.length ∧ cnt (idsF d x) id = (idsF d (x.take (chP r d x x.length))).length + cnt (idsF d [x.getD (chP r d x x.length) (dfT d)]) id ∧
      (∀ y ∈ idsF d (x.drop (chP r d x x.length + 1)), lo ≤ y) ∧ (chP r d x x.length = 0 ∨ r (fstT d (x.getD (chP r d x x.length) (dfT d))) = true) := by
  obtain ⟨i, hi⟩ : ∃ i, i = chP r d x x.length := ⟨_, rfl⟩
  have h1 : i < x.length := by rw [hi]; exact lastP_lt _ _ hx
  have h2 := lastP_is (fun j => r (fstT d (x.getD j (dfT d)))) x.length
  have h3 := lastP_not (fun j => r (fstT d (x.getD j (dfT d)))) x.length
  rw [show lastP (fun j => r (fstT d (x.getD j (dfT d)))) x.length = i from hi.symm] at h2 h3
  rw [← hi]
  have e := split_at x (dfT d) h1
  have hs2 := hs
  rw [e, idsF_append, idsF_cons] at hs2
  have hsA := List.pairwise_append.1 hs2
  have hsK := List.pairwise_append.1 hsA.2.1
  have hki : x.getD i (dfT d) ∈ x := by
    rw [List.getD_eq_getElem?_getD, List.getElem?_eq_getElem h1]
    exact List.getElem_mem h1
  obtain ⟨rk, hrk⟩ := ids_fst d _ (hw _ hki)
  have hC : ∀ y ∈ idsF d (x.drop (i + 1)), lo ≤ y := by
    intro y hy
    by_cases hlt : i + 1 < x.length
    · have e2 : x.drop (i + 1) = x.getD (i + 1) (dfT d) :: x.drop (i + 1 + 1) := by
        rw [List.drop_eq_getElem_cons hlt, List.getD_eq_getElem?_getD, List.getElem?_eq_getElem hlt]
        rfl
      have hm : x.getD (i + 1) (dfT d) ∈ x := by
        rw [List.getD_eq_getElem?_getD, List.getElem?_eq_getElem hlt]
        exact List.getElem_mem hlt
      obtain ⟨r2, hr2⟩ := ids_fst d _ (hw _ hm)
      have hsC := hsK.2.1
      rw [e2, idsF_cons, hr2] at hsC hy
      have h4 := hn _ (h3 (i + 1) (by omega) hlt)
      rcases List.mem_append.1 hy with hy | hy
      · rcases List.mem_cons.1 hy with rfl | hy
        · exact h4
        · have := (List.pairwise_cons.1 (List.pairwise_append.1 hsC).1).1 y hy
          omega
      · have := (List.pairwise_append.1 hsC).2.2 _ (List.mem_cons_self ..) y hy
        omega
    · rw [List.drop_eq_nil_of_le (by omega), idsF_nil] at hy
      cases hy
  refine ⟨h1, ?_, hC, h2⟩
  have e3 : cnt (idsF d x) id = cnt (idsF d (x.take i)) id + (cnt (idsF d [x.getD i (dfT d)]) id + cnt (idsF d (x.drop (i + 1))) id) := by
    rw [← cnt_append, ← cnt_append, ← idsF_cons, ← idsF_append, ← e]
  rw [e3, cnt_none (a := idsF d (x.drop (i + 1))) (fun y hy => by have := hC y hy; omega)]
  rcases h2 with h0 | hp
  · rw [h0, List.take_zero, idsF_nil]
    have : cnt ([] : List Int) id = 0 := rfl
    rw [this, List.length_nil]
    omega
  · have hle := hr _ hp
    rw [cnt_all (a := idsF d (x.take i)) (fun y hy => by
      have h5 := hsA.2.2 y hy (fstT d (x.getD i (dfT d))) (by rw [hrk]; exact List.mem_cons_self ..)
      omega)]
    omega
theorem rise_one {d : Nat} {x : List (NT d)} (hs : Rise (idsF d x)) {i : Nat} (hi : i < x.length) : Rise (idsF d [x.getD i (dfT d)]) := by
  rw [split_at x (dfT d) hi, idsF_append, idsF_cons] at hs
  exact (List.pairwise_append.1 (List.pairwise_append.1 hs).2.1).1
theorem insI_mid {A K C : List Int} {id : Int} (h : cnt (A ++ (K ++ C)) id = A.length + cnt K id) : insI (A ++ (K ++ C)) id = A ++ (insI K id ++ C) := by
  have hk := cnt_le K id
  unfold insI
  rw [h, List.take_append, List.drop_append, List.take_of_length_le (by omega), List.drop_eq_nil_of_le (by omega), Nat.add_sub_cancel_left, List.take_append, List.drop_append, show cnt K id - K.length = 0 by omega, List.take_zero, List.drop_zero]
  simp only [List.append_nil, List.nil_append, List.append_assoc, List.cons_append]
theorem with_leaf (id z : Int) (hne : ¬ z = id) : (if id < z then [id, z] else [z, id]) = insI [z] id := by
  unfold insI
  split
  · rename_i h
    rw [show cnt [z] id = 0 from cnt_none fun y hy => by rw [List.mem_singleton.1 hy]; omega]
    rfl
  · rename_i h
    rw [show cnt [z] id = 1 from cnt_all fun y hy => by rw [List.mem_singleton.1 hy]; omega]
    rfl
/-- With a member more, there are its members, and one more. -/
theorem with_ids (id : Int) : ∀ (d : Nat) (x : NT d), wfT d x → Rise (idsF d [x]) → id ∉ idsF d [x] → idsF d (withT id d x) = insI (idsF d [x]) id
  | 0, x, _, _, hn => with_leaf id x fun e => hn (by rw [← e]; exact List.mem_singleton.2 rfl)
  | d + 1, x, hw, hs, hn => by
    rw [idsF_one] at hs hn ⊢
    have hl : 0 < (kidsT x).length := by have := hw.1; omega
    obtain ⟨h1, h2, -, -⟩ := chosen (fun f => decide (f < id)) id id (Int.le_refl _) (fun f h => Int.le_of_lt (of_decide_eq_true h)) (fun f h => Int.not_lt.1 (of_decide_eq_false h)) d (kidsT x) hl hw.2 hs
    generalize hi : chP (fun f => decide (f < id)) d (kidsT x) (kidsT x).length = i at *
    have e := split_at (kidsT x) (dfT d) h1
    have hm : (kidsT x).getD i (dfT d) ∈ kidsT x := by
      rw [List.getD_eq_getElem?_getD, List.getElem?_eq_getElem h1]
      exact List.getElem_mem h1
    have hsub : idsF d (kidsT x) = idsF d ((kidsT x).take i) ++ (idsF d [(kidsT x).getD i (dfT d)] ++ idsF d ((kidsT x).drop (i + 1))) := by
      conv => lhs; rw [e]
      rw [idsF_append, idsF_cons]
    have ih := with_ids id d ((kidsT x).getD i (dfT d)) (hw.2 _ hm) (rise_one hs h1) (fun q => hn (by rw [hsub]; exact List.mem_append_right _ (List.mem_append_left _ q)))
    have key : idsF d ((kidsT x).take i ++ withT id d ((kidsT x).getD i (dfT d)) ++ (kidsT x).drop (i + 1)) = insI (idsF d (kidsT x)) id := by
      rw [List.append_assoc, idsF_append, idsF_append, ih, hsub]
      rw [hsub] at h2
      rw [insI_mid h2]
    show idsF (d + 1) (withT id (d + 1) x) = _
    rw [← key]
    rw [withT_succ]
    rw [hi]
    generalize (kidsT x).take i ++ withT id d ((kidsT x).getD i (dfT d)) ++ (kidsT x).drop (i + 1) = kids
    by_cases h4 : kids.length = 4
    · rw [splT_four h4]
      show idsF d (flatT [grpT _, grpT _]) = _
      rw [flatT_cons, flatT_one]
      show idsF d (List.take 2 _ ++ List.drop 2 _) = _
      rw [List.take_append_drop]
    · rw [splT_not h4, idsF_one]
      rfl
theorem with_wf (id : Int) : ∀ (d : Nat) (x : NT d), wfT d x → (∀ k ∈ withT id d x, wfT d k) ∧ ((withT id d x).length = 1 ∨ (withT id d x).length = 2)
  | 0, x, _ => by
    refine ⟨fun k _ => trivial, ?_⟩
    unfold withT
    split <;> exact .inr rfl
  | d + 1, x, hw => by
    rw [withT_succ]
    have h1 : chP (fun f => decide (f < id)) d (kidsT x) (kidsT x).length < (kidsT x).length := lastP_lt _ _ (by have := hw.1; omega)
    generalize chP (fun f => decide (f < id)) d (kidsT x) (kidsT x).length = i at *
    have hm : (kidsT x).getD i (dfT d) ∈ kidsT x := by
      rw [List.getD_eq_getElem?_getD, List.getElem?_eq_getElem h1]
      exact List.getElem_mem h1
    obtain ⟨ih1, ih2⟩ := with_wf id d ((kidsT x).getD i (dfT d)) (hw.2 _ hm)
    have hall : ∀ k ∈ (kidsT x).take i ++ withT id d ((kidsT x).getD i (dfT d)) ++ (kidsT x).drop (i + 1), wfT d k := by
      intro k hk
      rcases List.mem_append.1 hk with hk | hk
      · rcases List.mem_append.1 hk with hk | hk
        · exact hw.2 k (List.mem_of_mem_take hk)
        · exact ih1 k hk
      · exact hw.2 k (List.mem_of_mem_drop hk)
    have hlen : ((kidsT x).take i ++ withT id d ((kidsT x).getD i (dfT d)) ++ (kidsT x).drop (i + 1)).length + 1 = (kidsT x).length + (withT id d ((kidsT x).getD i (dfT d))).length := by
      rw [List.length_append, List.length_append, List.length_take, List.length_drop]
      omega
    generalize (kidsT x).take i ++ withT id d ((kidsT x).getD i (dfT d)) ++ (kidsT x).drop (i + 1) = kids at *
    have hw1 := hw.1
    by_cases h4 : kids.length = 4
    · rw [splT_four h4]
      refine ⟨fun k hk => ?_, .inr rfl⟩
      rcases List.mem_cons.1 hk with rfl | hk
      · exact ⟨.inl (by show (List.take 2 kids).length = 2; rw [List.length_take]; omega), fun q hq => hall q (List.mem_of_mem_take hq)⟩
      · rw [List.mem_singleton.1 hk]
        exact ⟨.inl (by show (List.drop 2 kids).length = 2; rw [List.length_drop]; omega), fun q hq => hall q (List.mem_of_mem_drop hq)⟩
    · rw [splT_not h4]
      refine ⟨fun k hk => ?_, .inl rfl⟩
      rw [List.mem_singleton.1 hk]
      exact ⟨by show kids.length = 2 ∨ kids.length = 3; omega, hall⟩
theorem lensT_pos {d : Nat} {l : List (NT (d + 1))} (h : ∀ k ∈ l, wfT (d + 1) k) : pos (lensT l) := by
  intro z hz
  obtain ⟨k, hk, rfl⟩ := List.mem_map.1 hz
  have := (h k hk).1
  omega
theorem frm_lens {d : Nat} (pre rest : List (NT (d + 1))) : frm (lensT (pre ++ rest)) pre.length = ((flatT pre).length : Int) := by
  unfold frm
  have e : (lensT (pre ++ rest)).take pre.length = lensT pre := by
    unfold lensT
    rw [List.map_append, List.take_append_of_le_length (by rw [List.length_map]; exact Nat.le_refl _), List.take_of_length_le (by rw [List.length_map]; exact Nat.le_refl _)]
  rw [e]
  induction pre with
  | nil => rfl
  | cons a pre ih =>
    rw [flatT_cons, List.length_append]
    have h2 : lensT (a :: pre) = ((kidsT a).length : Int) :: lensT pre := rfl
    rw [h2, List.sum_cons, ih (by
      unfold lensT
      rw [List.map_append, List.take_append_of_le_length (by rw [List.length_map]; exact Nat.le_refl _), List.take_of_length_le (by rw [List.length_map]; exact Nat.le_refl _)])]
    omega
/-- In which group it is. -/
theorem grp_lens {d : Nat} (pre post : List (NT (d + 1))) (x : NT (d + 1)) (h : ∀ k ∈ pre ++ x :: post, wfT (d + 1) k) {j : Nat} (hj : j < (kidsT x).length) : grpG (lensT (pre ++ x :: post)) (((flatT pre).length + j : Nat) : Int) = pre.length := by
  refine grp_unique (lensT_pos h) ?_ ?_
  · rw [frm_lens]
    omega
  · have h2 := frm_lens (pre ++ [x]) post
    rw [List.append_assoc, List.length_append, flatT_append, List.length_append, flatT_one] at h2
    have h3 : pre.length + 1 = pre.length + [x].length := rfl
    rw [h3]
    have h4 : pre ++ ([x] ++ post) = pre ++ x :: post := rfl
    rw [h4] at h2
    rw [h2]
    omega
theorem lens_at {d : Nat} (pre post : List (NT (d + 1))) (x : NT (d + 1)) : (lensT (pre ++ x :: post)).getD pre.length 0 = ((kidsT x).length : Int) := by
  unfold lensT
  rw [List.map_append, List.getD_eq_getElem?_getD, List.getElem?_append_right (by rw [List.length_map]; exact Nat.le_refl _), List.length_map, Nat.sub_self]
  rfl
theorem lens_set {d : Nat} (pre post : List (NT (d + 1))) (x : NT (d + 1)) (z : Int) : (lensT (pre ++ x :: post)).set pre.length z = lensT pre ++ z :: lensT post := by
  unfold lensT
  rw [List.map_append, List.set_append_right _ _ (by rw [List.length_map]; exact Nat.le_refl _), List.length_map, Nat.sub_self]
  rfl
theorem lensT_append {d : Nat} (a b : List (NT (d + 1))) : lensT (a ++ b) = lensT a ++ lensT b := List.map_append ..
theorem insL_cons (l : List Int) (ls : List (List Int)) (a : Int) : insL (l :: ls) a = if l.getD (grpG l a) 0 = 2 then l.set (grpG l a) 3 :: ls
      else ((l.set (grpG l a) 2).take (grpG l a + 1) ++ 2 :: (l.set (grpG l a) 2).drop (grpG l a + 1)) :: insL ls (grpG l a : Nat) := rfl
/-- The levels with a member more, up to one, as the program turns them. -/
theorem with_lv (id : Int) : ∀ (d : Nat) (pre post : List (NT d)) (x : NT d) (B : List (List Int)), (∀ k ∈ pre ++ x :: post, wfT d k) → Rise (idsF d [x]) →
    insL (lvF d (pre ++ x :: post) ++ B) (((idsF d pre).length + (cnt (idsF d [x]) id - 1) : Nat) : Int) =
      lvF d (pre ++ withT id d x ++ post) ++ (if (withT id d x).length = 1 then B else insL B (pre.length : Int))
  | 0, pre, post, x, B, _, _ => by
    have h1 : (withT id 0 x).length = 2 := by
      unfold withT
      split <;> rfl
    have h2 : cnt (idsF 0 [x]) id ≤ 1 := cnt_le _ _
    rw [h1, if_neg (by decide), show cnt (idsF 0 [x]) id - 1 = 0 by omega]
    rfl
  | d + 1, pre, post, x, B, hw, hs => by
    have hwx := hw x (by simp)
    rw [idsF_one] at hs ⊢
    have hl : 0 < (kidsT x).length := by have := hwx.1; omega
    obtain ⟨h1, h2, -, h4⟩ := chosen (fun f => decide (f < id)) id id (Int.le_refl _) (fun f h => Int.le_of_lt (of_decide_eq_true h)) (fun f h => Int.not_lt.1 (of_decide_eq_false h)) d (kidsT x) hl hwx.2 hs
    rw [withT_succ]
    generalize hi : chP (fun f => decide (f < id)) d (kidsT x) (kidsT x).length = i at *
    have e := split_at (kidsT x) (dfT d) h1
    have hm : (kidsT x).getD i (dfT d) ∈ kidsT x := by
      rw [List.getD_eq_getElem?_getD, List.getElem?_eq_getElem h1]
      exact List.getElem_mem h1
    have hflat : flatT (pre ++ x :: post) = (flatT pre ++ (kidsT x).take i) ++ (kidsT x).getD i (dfT d) :: ((kidsT x).drop (i + 1) ++ flatT post) := by
      rw [flatT_append, flatT_cons]
      conv => lhs; rw [e]
      simp only [List.append_assoc, List.cons_append]
    have hwf2 : ∀ k ∈ (flatT pre ++ (kidsT x).take i) ++ (kidsT x).getD i (dfT d) :: ((kidsT x).drop (i + 1) ++ flatT post), wfT d k := by
      rw [← hflat]
      intro k hk
      obtain ⟨l, hl, hkl⟩ := List.mem_flatten.1 hk
      obtain ⟨t, ht, rfl⟩ := List.mem_map.1 hl
      exact (hw t ht).2 k hkl
    have ih := with_lv id d (flatT pre ++ (kidsT x).take i) ((kidsT x).drop (i + 1) ++ flatT post) ((kidsT x).getD i (dfT d)) ([lensT (pre ++ x :: post)] ++ B) hwf2 (rise_one hs h1)
    obtain ⟨w1, w2⟩ := with_wf id d _ (hwx.2 _ hm)
    have hpos : (idsF (d + 1) pre).length + (cnt (idsF d (kidsT x)) id - 1) = (idsF d (flatT pre ++ (kidsT x).take i)).length + (cnt (idsF d [(kidsT x).getD i (dfT d)]) id - 1) := by
      rw [idsF_append, List.length_append, h2]
      show (idsF d (flatT pre)).length + _ = _
      rcases h4 with h0 | hp
      · rw [h0, List.take_zero, idsF_nil]
        simp only [List.length_nil]
        omega
      · obtain ⟨r, hr⟩ := ids_fst d _ (hwx.2 _ hm)
        have : 1 ≤ cnt (idsF d [(kidsT x).getD i (dfT d)]) id := by
          rw [hr, cnt_cons, if_pos (of_decide_eq_true hp)]
          omega
        omega
    have hlv : lvF (d + 1) (pre ++ x :: post) ++ B = lvF d ((flatT pre ++ (kidsT x).take i) ++ (kidsT x).getD i (dfT d) :: ((kidsT x).drop (i + 1) ++ flatT post)) ++ ([lensT (pre ++ x :: post)] ++ B) := by
      show (lvF d (flatT (pre ++ x :: post)) ++ [lensT (pre ++ x :: post)]) ++ B = _
      rw [hflat, List.append_assoc]
    rw [hpos, hlv, ih]
    have hmid : flatT pre ++ (kidsT x).take i ++ withT id d ((kidsT x).getD i (dfT d)) ++ ((kidsT x).drop (i + 1) ++ flatT post) = flatT pre ++ (((kidsT x).take i ++ withT id d ((kidsT x).getD i (dfT d)) ++ (kidsT x).drop (i + 1)) ++ flatT post) := by
      simp only [List.append_assoc]
    rw [hmid]
    have hlen : ((kidsT x).take i ++ withT id d ((kidsT x).getD i (dfT d)) ++ (kidsT x).drop (i + 1)).length + 1 = (kidsT x).length + (withT id d ((kidsT x).getD i (dfT d))).length := by
      rw [List.length_append, List.length_append, List.length_take, List.length_drop]
      omega
    have hwx1 := hwx.1
    generalize (kidsT x).take i ++ withT id d ((kidsT x).getD i (dfT d)) ++ (kidsT x).drop (i + 1) = kids at *
    have hflat1 : flatT (pre ++ [grpT kids] ++ post) = flatT pre ++ (kids ++ flatT post) := by
      rw [flatT_append, flatT_append, flatT_one, List.append_assoc]
      rfl
    have hflat2 : flatT (pre ++ [grpT (kids.take 2), grpT (kids.drop 2)] ++ post) = flatT pre ++ (kids ++ flatT post) := by
      rw [flatT_append, flatT_append, flatT_cons, flatT_one, List.append_assoc]
      show _ ++ ((List.take 2 kids ++ List.drop 2 kids) ++ _) = _
      rw [List.take_append_drop]
    rcases w2 with w2 | w2
    · rw [if_pos w2]
      have h5 : ¬ kids.length = 4 := by omega
      rw [splT_not h5, if_pos (show [grpT kids].length = 1 from rfl)]
      show _ = (lvF d (flatT (pre ++ [grpT kids] ++ post)) ++ [lensT (pre ++ [grpT kids] ++ post)]) ++ B
      rw [hflat1, List.append_assoc]
      congr 2
      rw [List.append_assoc, lensT_append, lensT_append]
      show [lensT pre ++ lensT (x :: post)] = [lensT pre ++ (((kids.length : Nat) : Int) :: lensT post)]
      have : kids.length = (kidsT x).length := by omega
      rw [this]
      rfl
    · rw [if_neg (by omega)]
      have hg : grpG (lensT (pre ++ x :: post)) (((flatT pre ++ (kidsT x).take i).length : Nat) : Int) = pre.length := by
        rw [List.length_append, List.length_take, Nat.min_eq_left (by omega)]
        exact grp_lens pre post x hw h1
      show _ ++ insL (lensT (pre ++ x :: post) :: B) _ = _
      rw [insL_cons, hg, lens_at, lens_set, lens_set]
      by_cases h3 : (kidsT x).length = 2
      · rw [if_pos (by rw [h3]; rfl)]
        have h5 : ¬ kids.length = 4 := by omega
        rw [splT_not h5, if_pos (show [grpT kids].length = 1 from rfl)]
        show _ = (lvF d (flatT (pre ++ [grpT kids] ++ post)) ++ [lensT (pre ++ [grpT kids] ++ post)]) ++ B
        rw [hflat1, List.append_assoc, List.append_assoc pre, lensT_append]
        have : kids.length = 3 := by omega
        show _ = _ ++ ([lensT pre ++ (((kids.length : Nat) : Int) :: lensT post)] ++ B)
        rw [this]
        rfl
      · rw [if_neg (by omega)]
        have h5 : kids.length = 4 := by omega
        rw [splT_four h5, if_neg (show ¬ [grpT (kids.take 2), grpT (kids.drop 2)].length = 1 from fun q => by simp at q)]
        show _ = (lvF d (flatT (pre ++ [grpT (kids.take 2), grpT (kids.drop 2)] ++ post)) ++ [lensT (pre ++ [grpT (kids.take 2), grpT (kids.drop 2)] ++ post)]) ++ insL B _
        rw [hflat2, List.append_assoc, List.append_assoc pre, lensT_append]
        have e1 : (kids.take 2).length = 2 := by rw [List.length_take]; omega
        have e2 : (kids.drop 2).length = 2 := by rw [List.length_drop]; omega
        show _ = _ ++ ([lensT pre ++ ((((kids.take 2).length : Nat) : Int) :: (((kids.drop 2).length : Nat) : Int) :: lensT post)] ++ insL B _)
        rw [e1, e2]
        have e3 : (lensT pre ++ 2 :: lensT post).take (pre.length + 1) = lensT pre ++ [2] := by
          have hpl : (lensT pre).length = pre.length := List.length_map ..
          rw [List.take_append, List.take_of_length_le (by omega), show pre.length + 1 - (lensT pre).length = 1 by omega]
          rfl
        have e4 : (lensT pre ++ 2 :: lensT post).drop (pre.length + 1) = lensT post := by
          have hpl : (lensT pre).length = pre.length := List.length_map ..
          rw [List.drop_append, List.drop_eq_nil_of_le (by omega), show pre.length + 1 - (lensT pre).length = 1 by omega]
          rfl
        rw [e3, e4]
        simp only [List.append_assoc, List.cons_append, List.nil_append]
        rfl
/-- The document's Insert. -/
theorem ins_doc (id : Int) (d : Nat) (x : NT d) (hw : wfT d x) (hs : Rise (idsF d [x])) (hn : id ∉ idsF d [x]) :
    ((withT id d x).length = 1 → idsF d (withT id d x) = insI (idsF d [x]) id ∧ lvF d (withT id d x) = insL (lvF d [x]) ((cnt (idsF d [x]) id - 1 : Nat) : Int)) ∧
    ((withT id d x).length = 2 → idsF (d + 1) [grpT (withT id d x)] = insI (idsF d [x]) id ∧ lvF (d + 1) [grpT (withT id d x)] = insL (lvF d [x]) ((cnt (idsF d [x]) id - 1 : Nat) : Int)) := by
  have h1 := with_ids id d x hw hs hn
  have h2 := with_lv id d [] [] x [] (fun k hk => by rw [List.mem_singleton.1 hk]; exact hw) hs
  rw [idsF_nil, List.length_nil, Nat.zero_add, List.append_nil, List.nil_append, List.nil_append, List.append_nil] at h2
  refine ⟨fun h => ⟨h1, ?_⟩, fun h => ⟨?_, ?_⟩⟩
  · rw [h2, if_pos h, List.append_nil]
  · rw [idsF_one]
    exact h1
  · rw [h2, if_neg (by omega)]
    show lvF d (flatT [grpT (withT id d x)]) ++ [lensT [grpT (withT id d x)]] = _
    rw [flatT_one]
    show lvF d (withT id d x) ++ [[(((withT id d x).length : Nat) : Int)]] = _
    rw [h]
    rfl
end Go.Proofs.Ytfgammcefaomeaa
