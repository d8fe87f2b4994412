/- Trees of two and three, as lists: no program in sight. -/
namespace Go.Proofs.Ytpnckphfjcnooaa
/-- Two, or three. -/
def two3 (x : Int) : Bool := x == 2 || x == 3
/-- The levels above so many: each one's groups have two or three, and all of what is below. -/
def okLv : Int → List (List Int) → Bool
  | n, [] => decide (n ≤ 1)
  | n, l :: ls => decide (2 ≤ n) && l.all two3 && decide (l.sum = n) && okLv (l.length : Int) ls
/-- Members: rising, and few. -/
def okIds (ids : List Int) : Prop := ids.length ≤ 1000 ∧ (∀ x ∈ ids, 0 ≤ x ∧ x ≤ 1048576) ∧ ids.Pairwise (· < ·)
instance (ids : List Int) : Decidable (okIds ids) := by unfold okIds; infer_instance
/-- The tree may be. -/
def OkT (ids : List Int) (lv : List (List Int)) : Prop := okIds ids ∧ okLv (ids.length : Int) lv = true
instance (ids : List Int) (lv : List (List Int)) : Decidable (OkT ids lv) := by unfold OkT; infer_instance
def chkT (ids : List Int) (lv : List (List Int)) : Int := if OkT ids lv then 0 else 1
theorem chkT_or (ids : List Int) (lv : List (List Int)) : chkT ids lv = 0 ∨ chkT ids lv = 1 := by
  unfold chkT
  split
  · exact .inl rfl
  · exact .inr rfl
theorem chkT_zero {ids : List Int} {lv : List (List Int)} : chkT ids lv = 0 ↔ OkT ids lv := by
  unfold chkT
  split
  · simpa
  · simpa
theorem two3_iff {x : Int} : two3 x = true ↔ x = 2 ∨ x = 3 := by simp [two3]
/-- In which group something is. -/
def grpG : List Int → Int → Nat
  | [], _ => 0
  | x :: l, a => if a < x then 0 else grpG l (a - x) + 1
/-- Where a group begins. -/
def frm (l : List Int) (g : Nat) : Int := (l.take g).sum
theorem frm_zero (l : List Int) : frm l 0 = 0 := rfl
theorem frm_cons (x : Int) (l : List Int) (g : Nat) : frm (x :: l) (g + 1) = x + frm l g := by simp [frm]
theorem frm_succ {l : List Int} {g : Nat} (h : g < l.length) : frm l (g + 1) = frm l g + l.getD g 0 := by
  unfold frm
  rw [List.take_succ_eq_append_getElem h, List.sum_append]
  simp [List.getD_eq_getElem?_getD, List.getElem?_eq_getElem h]
theorem frm_all (l : List Int) : frm l l.length = l.sum := by simp [frm]
def pos (l : List Int) : Prop := ∀ x ∈ l, 0 < x
theorem grp_spec : ∀ (l : List Int) (a : Int), 0 ≤ a → a < l.sum → grpG l a < l.length ∧ frm l (grpG l a) ≤ a ∧ a < frm l (grpG l a + 1)
  | [], a, h0, h => by simp at h; omega
  | x :: l, a, h0, h => by
    unfold grpG
    split
    · rename_i hx
      refine ⟨by simp, by rw [frm_zero]; omega, ?_⟩
      rw [frm_cons, frm_zero]
      omega
    · rename_i hx
      rw [List.sum_cons] at h
      obtain ⟨h1, h2, h3⟩ := grp_spec l (a - x) (by omega) (by omega)
      refine ⟨by simpa using h1, ?_, ?_⟩
      · rw [frm_cons]; omega
      · rw [frm_cons]; omega
theorem frm_mono {l : List Int} (hp : pos l) : ∀ {g k : Nat}, g ≤ k → frm l g ≤ frm l k := by
  intro g k hk
  induction k with
  | zero => obtain rfl : g = 0 := by omega
            exact Int.le_refl _
  | succ k ih =>
    by_cases e : g = k + 1
    · subst e; exact Int.le_refl _
    · have h1 := ih (by omega)
      by_cases hl : k < l.length
      · rw [frm_succ hl]
        have : 0 < l.getD k 0 := by
          rw [List.getD_eq_getElem?_getD, List.getElem?_eq_getElem hl]
          exact hp _ (List.getElem_mem hl)
        omega
      · have : frm l (k + 1) = frm l k := by
          unfold frm
          rw [List.take_of_length_le (by omega), List.take_of_length_le (by omega)]
        omega
theorem grp_unique {l : List Int} (hp : pos l) {a : Int} {g : Nat} (h1 : frm l g ≤ a) (h2 : a < frm l (g + 1)) : grpG l a = g := by
  have h0 : 0 ≤ a := by have := frm_mono hp (Nat.zero_le g); rw [frm_zero] at this; omega
  have hs : a < l.sum := by
    have h3 : frm l (g + 1) ≤ l.sum := by
      rw [← frm_all]
      by_cases hl : g + 1 ≤ l.length
      · exact frm_mono hp hl
      · unfold frm
        rw [List.take_of_length_le (by omega), List.take_length]
        exact Int.le_refl _
    omega
  obtain ⟨s1, s2, s3⟩ := grp_spec l a h0 hs
  rcases Nat.lt_trichotomy (grpG l a) g with h | h | h
  · have := frm_mono hp (show grpG l a + 1 ≤ g by omega)
    omega
  · exact h
  · have := frm_mono hp (show g + 1 ≤ grpG l a by omega)
    omega
theorem okLv_cons {n : Int} {l : List Int} {ls : List (List Int)} (h : okLv n (l :: ls) = true) : 2 ≤ n ∧ (∀ x ∈ l, x = 2 ∨ x = 3) ∧ l.sum = n ∧ okLv (l.length : Int) ls = true := by
  unfold okLv at h
  simp only [Bool.and_eq_true, decide_eq_true_eq, List.all_eq_true] at h
  obtain ⟨⟨⟨h1, h2⟩, h3⟩, h4⟩ := h
  exact ⟨h1, fun x hx => two3_iff.1 (h2 x hx), h3, h4⟩
theorem okLv_mk {n : Int} {l : List Int} {ls : List (List Int)} (h1 : 2 ≤ n) (h2 : ∀ x ∈ l, x = 2 ∨ x = 3) (h3 : l.sum = n) (h4 : okLv (l.length : Int) ls = true) : okLv n (l :: ls) = true := by
  unfold okLv
  simp only [Bool.and_eq_true, decide_eq_true_eq, List.all_eq_true]
  exact ⟨⟨⟨h1, fun x hx => two3_iff.2 (h2 x hx)⟩, h3⟩, h4⟩
theorem pos_of {l : List Int} (h : ∀ x ∈ l, x = 2 ∨ x = 3) : pos l := fun x hx => by rcases h x hx with h | h <;> omega
theorem sum_set : ∀ (l : List Int) (g : Nat) (x : Int), g < l.length → (l.set g x).sum = l.sum - l.getD g 0 + x
  | [], _, _, h => by simp at h
  | y :: l, 0, x, _ => by simp; omega
  | y :: l, g + 1, x, h => by
    have := sum_set l g x (by simpa using h)
    simp only [List.set_cons_succ, List.sum_cons, this, List.getD_cons_succ]
    omega
theorem sum_erase : ∀ (l : List Int) (g : Nat), g < l.length → (l.eraseIdx g).sum = l.sum - l.getD g 0
  | [], _, h => by simp at h
  | y :: l, 0, _ => by simp; omega
  | y :: l, g + 1, h => by
    have := sum_erase l g (by simpa using h)
    simp only [List.eraseIdx_cons_succ, List.sum_cons, this, List.getD_cons_succ]
    omega
theorem two_le_sum {l : List Int} (h : ∀ x ∈ l, x = 2 ∨ x = 3) : 2 * (l.length : Int) ≤ l.sum := by
  induction l with
  | nil => simp
  | cons x l ih =>
    have h1 := h x (by simp)
    have h2 := ih (fun y hy => h y (by simp [hy]))
    rw [List.sum_cons, List.length_cons]
    omega
theorem getD_of {l : List Int} (h : ∀ x ∈ l, x = 2 ∨ x = 3) {g : Nat} (hg : g < l.length) : l.getD g 0 = 2 ∨ l.getD g 0 = 3 := by
  rw [List.getD_eq_getElem?_getD, List.getElem?_eq_getElem hg]
  exact h _ (List.getElem_mem hg)
theorem mem_set {l : List Int} {g : Nat} {x y : Int} (h : ∀ x ∈ l, x = 2 ∨ x = 3) (hx : x = 2 ∨ x = 3) (hy : y ∈ l.set g x) : y = 2 ∨ y = 3 := by
  rcases List.mem_or_eq_of_mem_set hy with h1 | h1
  · exact h y h1
  · subst h1; exact hx
/-- One more below, in the group in which something is: level by level. -/
def insL : List (List Int) → Int → List (List Int)
  | [], _ => [[2]]
  | l :: ls, a => if l.getD (grpG l a) 0 = 2 then l.set (grpG l a) 3 :: ls
      else ((l.set (grpG l a) 2).take (grpG l a + 1) ++ 2 :: (l.set (grpG l a) 2).drop (grpG l a + 1)) :: insL ls (grpG l a : Nat)
theorem insL_ok : ∀ (lv : List (List Int)) (n a : Int), okLv n lv = true → 0 ≤ a → a < n → okLv (n + 1) (insL lv a) = true
  | [], n, a, h, h0, h1 => by
    have h : n ≤ 1 := by simpa [okLv] using h
    obtain rfl : n = 1 := by omega
    rfl
  | l :: ls, n, a, h, h0, h1 => by
    obtain ⟨k1, k2, k3, k4⟩ := okLv_cons h
    obtain ⟨s1, s2, s3⟩ := grp_spec l a h0 (by omega)
    unfold insL
    generalize grpG l a = g at *
    split
    · rename_i h2
      refine okLv_mk (by omega) (fun x hx => mem_set k2 (.inr rfl) hx) ?_ (by rw [List.length_set]; exact k4)
      rw [sum_set l g 3 s1, h2]
      omega
    · rename_i h2
      have h3 : l.getD g 0 = 3 := (getD_of k2 s1).resolve_left h2
      refine okLv_mk (by omega) (fun x hx => ?_) ?_ ?_
      · simp only [List.mem_append, List.mem_cons] at hx
        rcases hx with hx | rfl | hx
        · exact mem_set k2 (.inl rfl) (List.mem_of_mem_take hx)
        · exact .inl rfl
        · exact mem_set k2 (.inl rfl) (List.mem_of_mem_drop hx)
      · have h4 := sum_set l g 2 s1
        have h5 : ((l.set g 2).take (g + 1)).sum + ((l.set g 2).drop (g + 1)).sum = (l.set g 2).sum := by rw [← List.sum_append, List.take_append_drop]
        rw [List.sum_append, List.sum_cons]
        omega
      · have hl : (((l.set g 2).take (g + 1) ++ 2 :: (l.set g 2).drop (g + 1)).length : Int) = (l.length : Int) + 1 := by
          have := List.length_take_le (g + 1) (l.set g 2)
          have h6 : ((l.set g 2).take (g + 1)).length + ((l.set g 2).drop (g + 1)).length = (l.set g 2).length := by rw [← List.length_append, List.take_append_drop]
          rw [List.length_set] at h6
          simp only [List.length_append, List.length_cons]
          omega
        rw [hl]
        exact insL_ok ls (l.length : Int) (g : Nat) k4 (by omega) (by omega)
/-- Which neighbour. -/
def othr (above : List Int) (g : Nat) : Nat := if (g : Int) = frm above (grpG above (g : Nat)) then g + 1 else g - 1
/-- Which one goes. -/
def gon (above : List Int) (g : Nat) : Nat := max g ((frm above (grpG above (g : Nat))).toNat + 1)
/-- One fewer below. -/
def delL : List (List Int) → Int → List (List Int)
  | [], _ => []
  | l :: ls, a =>
    if 2 ≤ l.getD (grpG l a) 0 - 1 then l.set (grpG l a) (l.getD (grpG l a) 0 - 1) :: ls
    else match ls with
      | [] => []
      | above :: _ =>
        if (l.set (grpG l a) (l.getD (grpG l a) 0 - 1)).getD (othr above (grpG l a)) 0 = 3 then ((l.set (grpG l a) (l.getD (grpG l a) 0 - 1)).set (othr above (grpG l a)) 2).set (grpG l a) 2 :: ls
        else (((l.set (grpG l a) (l.getD (grpG l a) 0 - 1)).set (min (grpG l a) (othr above (grpG l a))) 3).eraseIdx (gon above (grpG l a))) :: delL ls (grpG l a : Nat)
theorem getD_set_ne {l : List Int} {g k : Nat} {x : Int} (h : k ≠ g) : (l.set g x).getD k 0 = l.getD k 0 := by
  rw [List.getD_eq_getElem?_getD, List.getD_eq_getElem?_getD, List.getElem?_set_ne (Ne.symm h)]
theorem getD_set_eq {l : List Int} {g : Nat} {x : Int} (h : g < l.length) : (l.set g x).getD g 0 = x := by
  rw [List.getD_eq_getElem?_getD, List.getElem?_set_self h, Option.getD_some]
theorem othr_spec {above : List Int} {g n : Nat} (h2 : ∀ x ∈ above, x = 2 ∨ x = 3) (hs : above.sum = (n : Int)) (hg : g < n) :
    othr above g < n ∧ othr above g ≠ g ∧ min g (othr above g) + 1 = gon above g ∧ gon above g = max g (othr above g) := by
  obtain ⟨s1, s2, s3⟩ := grp_spec above (g : Nat) (by omega) (by omega)
  have hm := frm_mono (pos_of h2) (Nat.zero_le (grpG above (g : Nat)))
  have hle : frm above (grpG above (g : Nat) + 1) ≤ above.sum := by
    rw [← frm_all]
    exact frm_mono (pos_of h2) s1
  rw [frm_zero] at hm
  rw [frm_succ s1] at s3 hle
  have h3 := getD_of h2 s1
  unfold othr gon
  generalize frm above (grpG above (g : Nat)) = f at *
  split
  · omega
  · omega
theorem delL_ok : ∀ (lv : List (List Int)) (n a : Int), okLv n lv = true → 0 ≤ a → a < n → okLv (n - 1) (delL lv a) = true
  | [], n, a, h, h0, h1 => by
    have h : n ≤ 1 := by simpa [okLv] using h
    obtain rfl : n = 1 := by omega
    rfl
  | l :: ls, n, a, h, h0, h1 => by
    obtain ⟨k1, k2, k3, k4⟩ := okLv_cons h
    obtain ⟨s1, s2, s3⟩ := grp_spec l a h0 (by omega)
    have hv := getD_of k2 s1
    have hlen := two_le_sum k2
    unfold delL
    generalize grpG l a = g at *
    split
    · rename_i h2
      have h3 : l.getD g 0 = 3 := by omega
      have hn : 2 ≤ n - 1 := by
        have hall : l.getD g 0 ≤ l.sum := by
          have h5 := sum_erase l g s1
          have h6 : 0 ≤ (l.eraseIdx g).sum := by
            have := two_le_sum (l := l.eraseIdx g) (fun x hx => k2 x (List.mem_of_mem_eraseIdx hx))
            omega
          omega
        omega
      refine okLv_mk hn (fun x hx => mem_set k2 (by omega) hx) ?_ (by rw [List.length_set]; exact k4)
      rw [sum_set l g _ s1]
      omega
    · rename_i h2
      have h2 : l.getD g 0 = 2 := by omega
      cases ls with
      | nil =>
        have h5 : (l.length : Int) ≤ 1 := by simpa [okLv] using k4
        have h6 : l.length = 1 := by omega
        obtain ⟨x, rfl⟩ := List.length_eq_one_iff.1 h6
        obtain rfl : g = 0 := by simp at s1; omega
        simp at h2 k3
        subst h2 k3
        rfl
      | cons above ls =>
        obtain ⟨a1, a2, a3, a4⟩ := okLv_cons k4
        obtain ⟨o1, o2, o3, o4⟩ := othr_spec a2 a3 s1
        simp only
        generalize gon above g = q at *
        generalize othr above g = o at *
        rw [h2, getD_set_ne o2]
        have hvo := getD_of k2 o1
        have e1 : (l.set g (2 - 1)).sum = l.sum - 1 := by rw [sum_set l g _ s1]; omega
        split
        · rename_i h3
          refine okLv_mk (by omega) (fun x hx => ?_) ?_ (by simpa using k4)
          · rw [List.set_comm _ _ o2, List.set_set] at hx
            exact mem_set (fun y hy => mem_set k2 (.inl rfl) hy) (.inl rfl) hx
          · rw [List.set_comm _ _ o2, List.set_set, sum_set _ o _ (by simpa using o1), sum_set l g _ s1, getD_set_ne o2]
            omega
        · rename_i h3
          have h4 : l.getD o 0 = 2 := by omega
          have hmem : ∀ x ∈ ((l.set g (2 - 1)).set (min g o) 3).eraseIdx q, x = 2 ∨ x = 3 := by
            intro x hx
            rcases Nat.lt_or_gt_of_ne o2 with hlt | hgt
            · have hq : q = g := by omega
              subst hq
              have hm : min q o = o := by omega
              rw [hm, List.set_comm _ _ (Ne.symm o2)] at hx
              have hx2 : x ∈ (l.set o 3).eraseIdx q := by
                rw [List.eraseIdx_set_eq] at hx
                exact hx
              exact mem_set k2 (.inr rfl) (List.mem_of_mem_eraseIdx hx2)
            · have hm : min g o = g := by omega
              rw [hm, List.set_set] at hx
              exact mem_set k2 (.inr rfl) (List.mem_of_mem_eraseIdx hx)
          have hsum : (((l.set g (2 - 1)).set (min g o) 3).eraseIdx q).sum = n - 1 := by
            rcases Nat.lt_or_gt_of_ne o2 with hlt | hgt
            · have hq : q = g := by omega
              subst hq
              have hm : min q o = o := by omega
              rw [hm, sum_erase _ q (by simpa using s1), sum_set _ o _ (by simpa using o1), getD_set_ne o2, getD_set_ne (Ne.symm o2), getD_set_eq s1]
              omega
            · have hq : q = o := by omega
              subst hq
              have hm : min g q = g := by omega
              rw [hm, List.set_set, sum_erase _ q (by simpa using o1), sum_set _ g _ s1, getD_set_ne o2]
              omega
          have hlq : q < l.length := by omega
          have hlen2 : ((((l.set g (2 - 1)).set (min g o) 3).eraseIdx q).length : Int) = (l.length : Int) - 1 := by
            rw [List.length_eraseIdx_of_lt (by simpa using hlq)]
            simp only [List.length_set]
            omega
          refine okLv_mk (by omega) hmem hsum ?_
          rw [hlen2]
          exact delL_ok (above :: ls) (l.length : Int) (g : Nat) k4 (by omega) (by omega)
/-- Few levels. -/
theorem okLv_high : ∀ (lv : List (List Int)) (n : Int), okLv n lv = true → 0 < n → (2 : Int) ^ lv.length ≤ n
  | [], n, h, h0 => by simp; omega
  | l :: ls, n, h, h0 => by
    obtain ⟨k1, k2, k3, k4⟩ := okLv_cons h
    have h1 := two_le_sum k2
    have h2 : 0 < (l.length : Int) := by
      rcases l with _ | ⟨x, l⟩
      · simp at k3; omega
      · simp
    have h3 := okLv_high ls (l.length : Int) k4 h2
    rw [List.length_cons, Int.pow_succ]
    omega
theorem okLv_zero {lv : List (List Int)} (h : okLv 0 lv = true) : lv = [] := by
  rcases lv with _ | ⟨l, ls⟩
  · rfl
  · have := (okLv_cons h).1
    omega
/-- How many groups: one more at most. -/
theorem insL_near : ∀ (lv : List (List Int)) (n a : Int), okLv n lv = true → 0 ≤ a → a < n → lv.length ≤ (insL lv a).length ∧ (insL lv a).length ≤ lv.length + 1 ∧ ∀ i, i < lv.length → (lv.getD i []).length ≤ ((insL lv a).getD i []).length ∧ ((insL lv a).getD i []).length ≤ (lv.getD i []).length + 1
  | [], _, _, _, _, _ => by simp [insL]
  | l :: ls, n, a, h, h0, h1 => by
    obtain ⟨k1, k2, k3, k4⟩ := okLv_cons h
    obtain ⟨s1, s2, s3⟩ := grp_spec l a h0 (by omega)
    unfold insL
    generalize grpG l a = g at *
    split
    · refine ⟨by simp, by simp, fun i hi => ?_⟩
      cases i with
      | zero => simp
      | succ i => simp
    · obtain ⟨r1, r2, r3⟩ := insL_near ls (l.length : Int) (g : Nat) k4 (by omega) (by omega)
      refine ⟨by simpa using r1, by simpa using r2, fun i hi => ?_⟩
      cases i with
      | zero =>
        have h6 : ((l.set g 2).take (g + 1)).length + ((l.set g 2).drop (g + 1)).length = (l.set g 2).length := by rw [← List.length_append, List.take_append_drop]
        rw [List.length_set] at h6
        simp only [List.getD_cons_zero, List.length_append, List.length_cons]
        omega
      | succ i =>
        simpa using r3 i (by simpa using hi)
theorem delL_near : ∀ (lv : List (List Int)) (n a : Int), okLv n lv = true → 0 ≤ a → a < n → (delL lv a).length ≤ lv.length ∧ lv.length ≤ (delL lv a).length + 1 ∧ ∀ i, i < (delL lv a).length → ((delL lv a).getD i []).length ≤ (lv.getD i []).length ∧ (lv.getD i []).length ≤ ((delL lv a).getD i []).length + 1
  | [], _, _, _, _, _ => by simp [delL]
  | l :: ls, n, a, h, h0, h1 => by
    obtain ⟨k1, k2, k3, k4⟩ := okLv_cons h
    obtain ⟨s1, s2, s3⟩ := grp_spec l a h0 (by omega)
    unfold delL
    generalize grpG l a = g at *
    split
    · refine ⟨by simp, by simp, fun i hi => ?_⟩
      cases i with
      | zero => simp
      | succ i => simp
    · cases ls with
      | nil => simp
      | cons above ls =>
        obtain ⟨a1, a2, a3, a4⟩ := okLv_cons k4
        obtain ⟨o1, o2, o3, o4⟩ := othr_spec a2 a3 s1
        simp only
        split
        · refine ⟨by simp, by simp, fun i hi => ?_⟩
          cases i with
          | zero => simp
          | succ i => simp
        · obtain ⟨r1, r2, r3⟩ := delL_near (above :: ls) (l.length : Int) (g : Nat) k4 (by omega) (by omega)
          refine ⟨by simpa using r1, by simpa using r2, fun i hi => ?_⟩
          cases i with
          | zero =>
            simp only [List.getD_cons_zero]
            rw [List.length_eraseIdx_of_lt (by simp only [List.length_set]; omega)]
            simp only [List.length_set]
            omega
          | succ i =>
            simpa using r3 i (by simpa using hi)
/-- How many members are below a number. -/
def cnt (ids : List Int) (id : Int) : Nat := (ids.filter (fun x => decide (x < id))).length
theorem cnt_le (ids : List Int) (id : Int) : cnt ids id ≤ ids.length := List.length_filter_le _ _
theorem cnt_cons (x : Int) (ids : List Int) (id : Int) : cnt (x :: ids) id = (if x < id then 1 else 0) + cnt ids id := by
  unfold cnt
  rw [List.filter_cons]
  by_cases h : x < id
  · rw [if_pos (by simpa using h), if_pos h, List.length_cons]; omega
  · rw [if_neg (by simpa using h), if_neg h]; omega
abbrev Rise (ids : List Int) : Prop := ids.Pairwise (· < ·)
theorem cnt_zero {x : Int} {ids : List Int} {id : Int} (h : Rise (x :: ids)) (hx : ¬ x < id) : cnt ids id = 0 := by
  unfold cnt
  rw [List.length_eq_zero_iff, List.filter_eq_nil_iff]
  intro y hy
  have := (List.pairwise_cons.1 h).1 y hy
  simp only [decide_eq_true_eq]
  omega
/-- With a member more. -/
def insI (ids : List Int) (id : Int) : List Int := ids.take (cnt ids id) ++ id :: ids.drop (cnt ids id)
theorem insI_length (ids : List Int) (id : Int) : (insI ids id).length = ids.length + 1 := by
  have := congrArg List.length (List.take_append_drop (cnt ids id) ids)
  rw [List.length_append] at this
  unfold insI
  rw [List.length_append, List.length_cons]
  omega
theorem insI_mem {ids : List Int} {id x : Int} : x ∈ insI ids id ↔ x = id ∨ x ∈ ids := by
  have h : x ∈ ids ↔ x ∈ ids.take (cnt ids id) ∨ x ∈ ids.drop (cnt ids id) := by
    rw [← List.mem_append, List.take_append_drop]
  unfold insI
  rw [List.mem_append, List.mem_cons, h]
  constructor
  · rintro (h | h | h) <;> simp [h]
  · rintro (h | h | h) <;> simp [h]
theorem insI_rise : ∀ {ids : List Int} {id : Int}, Rise ids → id ∉ ids → Rise (insI ids id)
  | [], id, _, _ => by simp [insI, Rise]
  | x :: ids, id, h, hn => by
    have hp := List.pairwise_cons.1 h
    have hne : x ≠ id := fun e => hn (by simp [e])
    unfold insI
    rw [cnt_cons]
    by_cases hx : x < id
    · rw [if_pos hx, Nat.add_comm, List.take_succ_cons, List.drop_succ_cons]
      have ih := insI_rise (ids := ids) (id := id) hp.2 (fun q => hn (by simp [q]))
      refine List.pairwise_cons.2 ⟨fun y hy => ?_, ih⟩
      rcases (insI_mem (ids := ids) (id := id)).1 hy with rfl | hy
      · exact hx
      · exact hp.1 y hy
    · rw [if_neg hx, cnt_zero h hx]
      refine List.pairwise_cons.2 ⟨fun y hy => ?_, h⟩
      have hid : id < x := by omega
      rcases List.mem_cons.1 hy with rfl | hy
      · exact hid
      · have := hp.1 y hy
        omega
/-- Where a member stands. -/
theorem cnt_at : ∀ {ids : List Int} {id : Int}, Rise ids → id ∈ ids → ids[cnt ids id]? = some id
  | [], _, _, h => by simp at h
  | x :: ids, id, h, hm => by
    have hp := List.pairwise_cons.1 h
    rw [cnt_cons]
    rcases List.mem_cons.1 hm with rfl | hm
    · rw [if_neg (by omega), cnt_zero h (by omega)]
      rfl
    · have hx := hp.1 id hm
      rw [if_pos hx, Nat.add_comm, List.getElem?_cons_succ]
      exact cnt_at hp.2 hm
theorem cnt_lt {ids : List Int} {id : Int} (h : Rise ids) (hm : id ∈ ids) : cnt ids id < ids.length := (List.getElem?_eq_some_iff.1 (cnt_at h hm)).1
/-- With a member fewer. -/
def delI (ids : List Int) (id : Int) : List Int := ids.eraseIdx (cnt ids id)
theorem delI_length {ids : List Int} {id : Int} (h : Rise ids) (hm : id ∈ ids) : (delI ids id).length + 1 = ids.length := by
  have := cnt_lt h hm
  unfold delI
  rw [List.length_eraseIdx_of_lt this]
  omega
theorem delI_rise {ids : List Int} {id : Int} (h : Rise ids) : Rise (delI ids id) := h.sublist (List.eraseIdx_sublist _ _)
theorem delI_mem : ∀ {ids : List Int} {id x : Int}, Rise ids → id ∈ ids → (x ∈ delI ids id ↔ x ∈ ids ∧ x ≠ id)
  | [], _, _, _, h => by simp at h
  | y :: ids, id, x, h, hm => by
    have hp := List.pairwise_cons.1 h
    unfold delI
    rw [cnt_cons]
    by_cases hy : y < id
    · have hm2 : id ∈ ids := by
        rcases List.mem_cons.1 hm with rfl | hm
        · omega
        · exact hm
      rw [if_pos hy, Nat.add_comm, List.eraseIdx_cons_succ, List.mem_cons, List.mem_cons]
      have ih := delI_mem (ids := ids) (id := id) (x := x) hp.2 hm2
      unfold delI at ih
      rw [ih]
      constructor
      · rintro (rfl | ⟨h1, h2⟩)
        · exact ⟨.inl rfl, by omega⟩
        · exact ⟨.inr h1, h2⟩
      · rintro ⟨rfl | h1, h2⟩
        · exact .inl rfl
        · exact .inr ⟨h1, h2⟩
    · have he : id = y := by
        rcases List.mem_cons.1 hm with e | hm
        · exact e
        · have := hp.1 id hm
          omega
      subst he
      rw [if_neg hy, cnt_zero h hy, List.eraseIdx_cons_zero, List.mem_cons]
      constructor
      · intro hx
        have := hp.1 x hx
        exact ⟨.inr hx, by omega⟩
      · rintro ⟨h1 | h1, h2⟩
        · exact absurd h1 h2
        · exact h1
/-- Two rising lists that have the same are the same. -/
theorem rise_eq : ∀ {xs ys : List Int}, Rise xs → Rise ys → (∀ z, z ∈ xs ↔ z ∈ ys) → xs = ys
  | [], [], _, _, _ => rfl
  | [], y :: ys, _, _, h => by have := (h y).2 (by simp); simp at this
  | x :: xs, [], _, _, h => by have := (h x).1 (by simp); simp at this
  | x :: xs, y :: ys, hx, hy, h => by
    have px := List.pairwise_cons.1 hx
    have py := List.pairwise_cons.1 hy
    have e : x = y := by
      have h1 := (h x).1 (by simp)
      have h2 := (h y).2 (by simp)
      rcases List.mem_cons.1 h1 with h1 | h1
      · exact h1
      · rcases List.mem_cons.1 h2 with h2 | h2
        · exact h2.symm
        · have := py.1 x h1
          have := px.1 y h2
          omega
    subst e
    congr 1
    refine rise_eq px.2 py.2 fun z => ?_
    constructor
    · intro hz
      have h1 := (h z).1 (by simp [hz])
      rcases List.mem_cons.1 h1 with rfl | h1
      · exact absurd (px.1 z hz) (by omega)
      · exact h1
    · intro hz
      have h1 := (h z).2 (by simp [hz])
      rcases List.mem_cons.1 h1 with rfl | h1
      · exact absurd (py.1 z hz) (by omega)
      · exact h1
/-- The place of what is beside the new one. -/
def nxt (ids : List Int) (id : Int) : Nat := cnt ids id - 1
/-- A tree with a member more: why not, and what. -/
def insE (ids : List Int) (lv : List (List Int)) (id : Int) : Int :=
  if ¬ OkT ids lv ∨ id < 0 ∨ 1048576 < id then 1 else if id ∈ ids then 7 else if ids.length = 1000 then 8 else 0
def insIds (ids : List Int) (lv : List (List Int)) (id : Int) : List Int := if insE ids lv id = 0 then insI ids id else []
def insLv (ids : List Int) (lv : List (List Int)) (id : Int) : List (List Int) := if insE ids lv id = 0 then (if ids.length = 0 then lv else insL lv (nxt ids id : Nat)) else []
theorem insE_zero {ids : List Int} {lv : List (List Int)} {id : Int} (h : insE ids lv id = 0) : OkT ids lv ∧ 0 ≤ id ∧ id ≤ 1048576 ∧ id ∉ ids ∧ ids.length < 1000 := by
  unfold insE at h
  split at h
  · cases h
  · rename_i h1
    split at h
    · cases h
    · rename_i h2
      split at h
      · cases h
      · rename_i h3
        have h4 : OkT ids lv := Decidable.of_not_not fun q => h1 (.inl q)
        have h5 := h4.1.1
        exact ⟨h4, by omega, by omega, h2, by omega⟩
theorem ins_ok {ids : List Int} {lv : List (List Int)} {id : Int} (h : insE ids lv id = 0) : OkT (insIds ids lv id) (insLv ids lv id) ∧ insIds ids lv id = insI ids id := by
  obtain ⟨⟨⟨h1, h2, h3⟩, h4⟩, h5, h6, h7, h8⟩ := insE_zero h
  have e1 : insIds ids lv id = insI ids id := if_pos h
  refine ⟨⟨?_, ?_⟩, e1⟩
  · rw [e1]
    refine ⟨by rw [insI_length]; omega, fun x hx => ?_, insI_rise h3 h7⟩
    rcases insI_mem.1 hx with rfl | hx
    · exact ⟨h5, h6⟩
    · exact h2 x hx
  · rw [e1, insI_length]
    unfold insLv
    rw [if_pos h]
    split
    · rename_i h0
      rw [h0] at h4 ⊢
      rw [okLv_zero h4]
      rfl
    · rename_i h0
      have := cnt_le ids id
      have h9 := insL_ok lv ids.length (nxt ids id : Nat) h4 (by omega) (by unfold nxt; omega)
      rwa [Int.natCast_add]
/-- A tree with a member fewer. -/
def delE (ids : List Int) (lv : List (List Int)) (id : Int) : Int := if ¬ OkT ids lv then 1 else if id ∈ ids then 0 else 6
def delIds (ids : List Int) (lv : List (List Int)) (id : Int) : List Int := if delE ids lv id = 0 then delI ids id else []
def delLv (ids : List Int) (lv : List (List Int)) (id : Int) : List (List Int) := if delE ids lv id = 0 then delL lv (cnt ids id : Nat) else []
theorem delE_zero {ids : List Int} {lv : List (List Int)} {id : Int} (h : delE ids lv id = 0) : OkT ids lv ∧ id ∈ ids := by
  unfold delE at h
  split at h
  · cases h
  · rename_i h1
    split at h
    · rename_i h2
      exact ⟨Decidable.of_not_not h1, h2⟩
    · cases h
theorem del_ok {ids : List Int} {lv : List (List Int)} {id : Int} (h : delE ids lv id = 0) : OkT (delIds ids lv id) (delLv ids lv id) ∧ delIds ids lv id = delI ids id := by
  obtain ⟨⟨⟨h1, h2, h3⟩, h4⟩, h5⟩ := delE_zero h
  have e1 : delIds ids lv id = delI ids id := if_pos h
  have e2 : delLv ids lv id = delL lv (cnt ids id : Nat) := if_pos h
  have hl := delI_length h3 h5
  refine ⟨⟨?_, ?_⟩, e1⟩
  · rw [e1]
    exact ⟨by omega, fun x hx => h2 x ((delI_mem h3 h5).1 hx).1, delI_rise h3⟩
  · rw [e1, e2]
    have := cnt_lt h3 h5
    have h9 := delL_ok lv ids.length (cnt ids id : Nat) h4 (by omega) (by omega)
    rwa [show ((delI ids id).length : Int) = (ids.length : Int) - 1 by omega]
/-- In, and out again; out, and in again. -/
theorem back_in {ids : List Int} {lv lv' : List (List Int)} {id : Int} (h : insE ids lv id = 0) (hk : OkT (insI ids id) lv') : delE (insI ids id) lv' id = 0 ∧ delI (insI ids id) id = ids := by
  obtain ⟨⟨⟨h1, h2, h3⟩, h4⟩, h5, h6, h7, h8⟩ := insE_zero h
  have hm : id ∈ insI ids id := insI_mem.2 (.inl rfl)
  refine ⟨?_, ?_⟩
  · unfold delE
    rw [if_neg (fun q => q hk), if_pos hm]
  · refine rise_eq (delI_rise hk.1.2.2) h3 fun z => ?_
    rw [delI_mem hk.1.2.2 hm, insI_mem]
    constructor
    · rintro ⟨rfl | hz, hne⟩
      · exact absurd rfl hne
      · exact hz
    · intro hz
      exact ⟨.inr hz, fun e => h7 (e ▸ hz)⟩
theorem back_out {ids : List Int} {lv lv' : List (List Int)} {id : Int} (h : delE ids lv id = 0) (hk : OkT (delI ids id) lv') : insE (delI ids id) lv' id = 0 ∧ insI (delI ids id) id = ids := by
  obtain ⟨⟨⟨h1, h2, h3⟩, h4⟩, h5⟩ := delE_zero h
  have hl := delI_length h3 h5
  have hn : id ∉ delI ids id := fun q => ((delI_mem h3 h5).1 q).2 rfl
  refine ⟨?_, ?_⟩
  · unfold insE
    have := h2 id h5
    rw [if_neg (by simp only [not_or, Decidable.not_not]; exact ⟨hk, by omega, by omega⟩), if_neg hn, if_neg (by omega)]
  · refine rise_eq (insI_rise hk.1.2.2 hn) h3 fun z => ?_
    rw [insI_mem, delI_mem h3 h5]
    constructor
    · rintro (rfl | hz)
      · exact h5
      · exact hz.1
    · intro hz
      by_cases e : z = id
      · exact .inl e
      · exact .inr ⟨hz, e⟩
/-- No more than one group more, level by level. -/
def nearT (few more : List (List Int)) : Bool := decide (few.length ≤ more.length ∧ more.length ≤ few.length + 1 ∧ ∀ i, i < few.length → (few.getD i []).length ≤ (more.getD i []).length ∧ (more.getD i []).length ≤ (few.getD i []).length + 1)
theorem near_ins {ids : List Int} {lv : List (List Int)} {id : Int} (h : insE ids lv id = 0) : nearT lv (insLv ids lv id) = true := by
  obtain ⟨⟨⟨h1, h2, h3⟩, h4⟩, h5, h6, h7, h8⟩ := insE_zero h
  unfold insLv nearT
  rw [if_pos h]
  split
  · exact decide_eq_true ⟨by omega, by omega, fun i hi => ⟨by omega, by omega⟩⟩
  · have := cnt_le ids id
    exact decide_eq_true (insL_near lv ids.length (nxt ids id : Nat) h4 (by omega) (by unfold nxt; omega))
theorem near_del {ids : List Int} {lv : List (List Int)} {id : Int} (h : delE ids lv id = 0) : nearT (delLv ids lv id) lv = true := by
  obtain ⟨⟨⟨h1, h2, h3⟩, h4⟩, h5⟩ := delE_zero h
  unfold delLv nearT
  rw [if_pos h]
  have := cnt_lt h3 h5
  obtain ⟨n1, n2, n3⟩ := delL_near lv ids.length (cnt ids id : Nat) h4 (by omega) (by omega)
  exact decide_eq_true ⟨n1, n2, n3⟩
/-- The groups of something, level by level. -/
def pathL : List (List Int) → Int → List Int
  | [], _ => []
  | l :: ls, a => (grpG l a : Int) :: pathL ls (grpG l a : Nat)
theorem pathL_length : ∀ (lv : List (List Int)) (a : Int), (pathL lv a).length = lv.length
  | [], _ => rfl
  | l :: ls, a => by rw [pathL, List.length_cons, pathL_length ls, List.length_cons]
def pathE (ids : List Int) (lv : List (List Int)) (id : Int) : Int := delE ids lv id
def pathV (ids : List Int) (lv : List (List Int)) (id : Int) : List Int := if pathE ids lv id = 0 then pathL lv (cnt ids id : Nat) else []
/-- Where the groups above begin, out of where those below do. -/
def spF (l from' : List Int) : List Int := (List.range (l.length + 1)).map fun j => from'.getD (frm l j).toNat 0
theorem spF_length (l from' : List Int) : (spF l from').length = l.length + 1 := by simp [spF]
theorem spF_at {l from' : List Int} {j : Nat} (h : j ≤ l.length) : (spF l from').getD j 0 = from'.getD (frm l j).toNat 0 := by
  unfold spF
  rw [List.getD_eq_getElem?_getD, List.getElem?_map, List.getElem?_range (by omega)]
  rfl
def ones (n : Nat) : List Int := (List.range (n + 1)).map fun i : Nat => (i : Int)
theorem ones_length (n : Nat) : (ones n).length = n + 1 := by simp [ones]
theorem ones_at {n i : Nat} (h : i ≤ n) : (ones n).getD i 0 = (i : Int) := by
  unfold ones
  rw [List.getD_eq_getElem?_getD, List.getElem?_map, List.getElem?_range (by omega)]
  rfl
def spanL (n : Nat) (lv : List (List Int)) : List Int := lv.foldl (fun f l => spF l f) (ones n)
def spanE (ids : List Int) (lv : List (List Int)) (level : Int) : Int := if ¬ OkT ids lv ∨ level < 0 ∨ (lv.length : Int) ≤ level then 1 else 0
def spanV (ids : List Int) (lv : List (List Int)) (level : Int) : List Int := if spanE ids lv level = 0 then spanL ids.length (lv.take (level.toNat + 1)) else []
/-- What `from` is, level by level: of so many entries, rising, from 0 to n. -/
structure Fro (n : Nat) (m : Int) (f : List Int) : Prop where
  len : (f.length : Int) = m + 1
  zero : f.getD 0 0 = 0
  last : f.getD m.toNat 0 = n
  rise : ∀ i j : Nat, i ≤ j → (j : Int) ≤ m → f.getD i 0 ≤ f.getD j 0
theorem fro_ones (n : Nat) : Fro n n (ones n) where
  len := by rw [ones_length]; omega
  zero := ones_at (Nat.zero_le n)
  last := by rw [Int.toNat_natCast]; exact ones_at (Nat.le_refl n)
  rise i j h1 h2 := by rw [ones_at (by omega), ones_at (by omega)]; omega
theorem frm_nonneg {l : List Int} (h : pos l) (j : Nat) : 0 ≤ frm l j := by
  have := frm_mono h (Nat.zero_le j)
  rwa [frm_zero] at this
theorem frm_le {l : List Int} (h : pos l) {j : Nat} (hj : j ≤ l.length) : frm l j ≤ l.sum := by
  rw [← frm_all]
  exact frm_mono h hj
theorem fro_step {n : Nat} {m : Int} {f l : List Int} (h : Fro n m f) (hl : ∀ x ∈ l, x = 2 ∨ x = 3) (hs : l.sum = m) : Fro n l.length (spF l f) where
  len := by rw [spF_length]; omega
  zero := by rw [spF_at (Nat.zero_le _), frm_zero]; exact h.zero
  last := by rw [Int.toNat_natCast, spF_at (Nat.le_refl _), frm_all, hs]; exact h.last
  rise i j h1 h2 := by
    have hp := pos_of hl
    rw [spF_at (by omega), spF_at (by omega)]
    have k1 := frm_mono hp h1
    have k2 := frm_nonneg hp i
    have k3 := frm_le hp (show j ≤ l.length by omega)
    refine h.rise _ _ (by omega) (by omega)
/-- The spans hold their members. -/
theorem span_holds : ∀ (lv : List (List Int)) (n : Nat) (m a : Int) (f : List Int) (x : Int), Fro n m f → okLv m lv = true → 0 ≤ a → a < m → f.getD a.toNat 0 ≤ x → x < f.getD (a.toNat + 1) 0 → ∀ k, k < lv.length →
    Fro n ((lv.getD k []).length : Int) ((lv.take (k + 1)).foldl (fun f l => spF l f) f) ∧ 0 ≤ (pathL lv a).getD k 0 ∧ (pathL lv a).getD k 0 < ((lv.getD k []).length : Int) ∧
      ((lv.take (k + 1)).foldl (fun f l => spF l f) f).getD ((pathL lv a).getD k 0).toNat 0 ≤ x ∧ x < ((lv.take (k + 1)).foldl (fun f l => spF l f) f).getD (((pathL lv a).getD k 0).toNat + 1) 0 ∧ (k + 1 = lv.length → (pathL lv a).getD k 0 = 0)
  | [], _, _, _, _, _, _, _, _, _, _, _, k, hk => by simp at hk
  | l :: ls, n, m, a, f, x, hf, hok, h0, h1, h2, h3, k, hk => by
    obtain ⟨k1, k2, k3, k4⟩ := okLv_cons hok
    obtain ⟨s1, s2, s3⟩ := grp_spec l a h0 (by omega)
    have hp := pos_of k2
    have hF := fro_step hf k2 k3
    have e1 : (spF l f).getD (grpG l a) 0 ≤ x := by
      rw [spF_at (by omega)]
      have := hf.rise (frm l (grpG l a)).toNat a.toNat (by omega) (by omega)
      omega
    have e2 : x < (spF l f).getD (grpG l a + 1) 0 := by
      rw [spF_at (show grpG l a + 1 ≤ l.length from s1)]
      have hle := frm_le hp (show grpG l a + 1 ≤ l.length from s1)
      have := hf.rise (a.toNat + 1) (frm l (grpG l a + 1)).toNat (by omega) (by omega)
      omega
    cases k with
    | zero =>
      refine ⟨by simpa using hF, by simp [pathL], by simpa [pathL] using s1, by simpa [pathL] using e1, by simpa [pathL] using e2, fun hq => ?_⟩
      simp only [List.length_cons, Nat.add_right_cancel_iff] at hq
      have hn : ls = [] := List.eq_nil_of_length_eq_zero hq.symm
      subst hn
      have h5 : (l.length : Int) ≤ 1 := by simpa [okLv] using k4
      have : grpG l a = 0 := by omega
      simp [pathL, this]
    | succ k =>
      have ih := span_holds ls n l.length (grpG l a : Nat) (spF l f) x hF k4 (by omega) (by omega) (by simpa using e1) (by simpa using e2) k (by simpa using hk)
      simpa [pathL] using ih
/-- The document's way: so many below each, and then their sums. -/
def pre (wide : List Int) : List Int := (List.range (wide.length + 1)).map fun j => (wide.take j).sum
def spW : List Int → List Int → List Int
  | [], _ => []
  | n :: l, wide => (wide.take n.toNat).sum :: spW l (wide.drop n.toNat)
theorem spW_length : ∀ (l wide : List Int), (spW l wide).length = l.length
  | [], _ => rfl
  | n :: l, wide => by rw [spW, List.length_cons, spW_length, List.length_cons]
theorem pre_at {wide : List Int} {j : Nat} (h : j ≤ wide.length) : (pre wide).getD j 0 = (wide.take j).sum := by
  unfold pre
  rw [List.getD_eq_getElem?_getD, List.getElem?_map, List.getElem?_range (by omega)]
  rfl
theorem spW_take : ∀ (l wide : List Int) (j : Nat), pos l → ((spW l wide).take j).sum = (wide.take (frm l j).toNat).sum
  | l, wide, 0, _ => by simp [frm]
  | [], wide, j + 1, _ => by simp [spW, frm]
  | n :: l, wide, j + 1, hp => by
    have hn : 0 < n := hp n (by simp)
    have hp2 : pos l := fun x hx => hp x (by simp [hx])
    have h0 := frm_nonneg hp2 j
    rw [spW, List.take_succ_cons, List.sum_cons, spW_take l _ j hp2, frm_cons, show (n + frm l j).toNat = n.toNat + (frm l j).toNat by omega, List.take_add, List.sum_append]
theorem pre_spW {l wide : List Int} (hp : pos l) (hs : l.sum ≤ wide.length) : pre (spW l wide) = spF l (pre wide) := by
  refine List.ext_getElem? fun j => ?_
  unfold spF
  by_cases hj : j < l.length + 1
  · have hle := frm_le hp (show j ≤ l.length by omega)
    have h0 := frm_nonneg hp j
    rw [List.getElem?_map, List.getElem?_range hj, Option.map_some, pre_at (by omega)]
    unfold pre
    rw [List.getElem?_map, List.getElem?_range (by rw [spW_length]; exact hj), Option.map_some, spW_take l wide j hp]
  · rw [List.getElem?_eq_none (by simp [pre, spW_length]; omega), List.getElem?_eq_none (by simp; omega)]
theorem pre_ones (n : Nat) : pre (List.replicate n 1) = ones n := by
  refine List.ext_getElem? fun j => ?_
  unfold pre ones
  by_cases hj : j < n + 1
  · rw [List.getElem?_map, List.getElem?_map, List.getElem?_range (by simpa using hj), List.getElem?_range hj]
    have hm : min j n = j := by omega
    simp [hm]
  · rw [List.getElem?_eq_none (by simp; omega), List.getElem?_eq_none (by simp; omega)]
def wideL (n : Nat) (lv : List (List Int)) : List Int := lv.foldl (fun f l => spW l f) (List.replicate n 1)
theorem wide_spanG : ∀ (lv : List (List Int)) (m : Int) (wide : List Int), okLv m lv = true → (wide.length : Int) = m → ∀ k, pre ((lv.take k).foldl (fun f l => spW l f) wide) = (lv.take k).foldl (fun f l => spF l f) (pre wide)
  | [], _, _, _, _, k => by simp
  | l :: ls, m, wide, hok, hw, 0 => by simp
  | l :: ls, m, wide, hok, hw, k + 1 => by
    obtain ⟨k1, k2, k3, k4⟩ := okLv_cons hok
    rw [List.take_succ_cons, List.foldl_cons, List.foldl_cons, ← pre_spW (pos_of k2) (by omega)]
    exact wide_spanG ls l.length (spW l wide) k4 (by rw [spW_length]) k
theorem wide_span {n : Nat} {lv : List (List Int)} (h : okLv n lv = true) (k : Nat) : pre (wideL n (lv.take k)) = spanL n (lv.take k) := by
  unfold wideL spanL
  rw [← pre_ones]
  exact wide_spanG lv n _ h (by simp) k
end Go.Proofs.Ytpnckphfjcnooaa
