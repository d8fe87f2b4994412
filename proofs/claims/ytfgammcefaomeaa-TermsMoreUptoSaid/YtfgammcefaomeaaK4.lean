/- Closing by a stack, plain (law 24): what its loops keep. -/
import Derived.Test.YtfgammcefaomeaaK1
namespace Go.Proofs.Ytfgammcefaomeaa
/-- A list's members, rising. -/
def rsl (l : List Int) : List Int := l.foldl wth []
theorem rsl_aux : ∀ (l a : List Int), Rise a → Rise (l.foldl wth a) ∧ ∀ x, x ∈ l.foldl wth a ↔ x ∈ a ∨ x ∈ l
  | [], a, h => ⟨h, fun x => by simp⟩
  | y :: l, a, h => by
    obtain ⟨h1, h2⟩ := rsl_aux l (wth a y) (wth_rise h)
    refine ⟨h1, fun x => ?_⟩
    rw [List.foldl_cons, h2, wth_mem, List.mem_cons, or_assoc]
theorem rsl_rise (l : List Int) : Rise (rsl l) := (rsl_aux l [] .nil).1
theorem rsl_mem {l : List Int} {x : Int} : x ∈ rsl l ↔ x ∈ l := by
  rw [rsl, (rsl_aux l [] .nil).2]
  simp
theorem rsl_eq {l s : List Int} (h : Rise s) (hm : ∀ x, x ∈ s ↔ x ∈ l) : s = rsl l := rise_eq h (rsl_rise l) fun z => (hm z).trans rsl_mem.symm
theorem rsl_snoc (l : List Int) (x : Int) : rsl (l ++ [x]) = wth (rsl l) x := by
  unfold rsl
  rw [List.foldl_append]
  rfl
theorem two_filters (n : Int) : ∀ l : List Int, (l.filter (fun x => decide (x < n))).length + (l.filter (fun x => decide (n < x))).length ≤ l.length
  | [] => Nat.le_refl _
  | x :: l => by
    have ih := two_filters n l
    simp only [List.filter_cons, List.length_cons]
    by_cases h1 : x < n
    · have h2 : ¬ n < x := by omega
      simp only [h1, h2, decide_true, decide_false, if_true, Bool.false_eq_true, if_false, List.length_cons]
      omega
    · by_cases h2 : n < x
      · simp only [h1, h2, decide_true, decide_false, if_true, Bool.false_eq_true, if_false, List.length_cons]
        omega
      · simp only [h1, h2, decide_false, Bool.false_eq_true, if_false]
        omega
theorem wth_length (l : List Int) (n : Int) : (wth l n).length ≤ l.length + 1 := by
  unfold wth
  split
  · omega
  · have := two_filters n l
    simp only [List.length_append, List.length_cons]
    omega
theorem rsl_len_aux : ∀ (l a : List Int), (l.foldl wth a).length ≤ a.length + l.length
  | [], a => Nat.le_refl _
  | y :: l, a => by
    have h := rsl_len_aux l (wth a y)
    have h2 := wth_length a y
    simp only [List.foldl_cons, List.length_cons]
    omega
theorem rsl_length (l : List Int) : (rsl l).length ≤ l.length := by
  have := rsl_len_aux l []
  simpa [rsl] using this
theorem rsl_nil {l : List Int} : rsl l = [] ↔ l = [] := by
  constructor
  · intro h
    cases l with
    | nil => rfl
    | cons x l =>
      have : x ∈ rsl (x :: l) := rsl_mem.2 (by simp)
      rw [h] at this
      cases this
  · rintro rfl
    rfl
/-- The rule at a place. -/
def ru (rs : List Rl) (i : Nat) : Rl := rs.getD i ⟨[], 0⟩
theorem ru_mem {rs : List Rl} {i : Nat} (h : i < rs.length) : ru rs i ∈ rs := by
  rw [ru, List.getD_eq_getElem?_getD, List.getElem?_eq_getElem h]
  exact List.getElem_mem h
theorem ru_of {rs : List Rl} {r : Rl} (h : r ∈ rs) : ∃ i, i < rs.length ∧ ru rs i = r := by
  obtain ⟨i, hi, rfl⟩ := List.getElem_of_mem h
  exact ⟨i, hi, by rw [ru, List.getD_eq_getElem?_getD, List.getElem?_eq_getElem hi]; rfl⟩
/-- Which of the first rules ask for a number. -/
def askF (rs : List Rl) (i : Nat) (x : Int) : List Nat := (List.range i).filter fun j => decide (x ∈ (ru rs j).frm)
theorem askF_zero (rs : List Rl) (x : Int) : askF rs 0 x = [] := rfl
theorem askF_succ (rs : List Rl) (i : Nat) (x : Int) : askF rs (i + 1) x = askF rs i x ++ (if x ∈ (ru rs i).frm then [i] else []) := by
  unfold askF
  rw [List.range_succ, List.filter_append]
  congr 1
  by_cases h : x ∈ (ru rs i).frm
  · rw [if_pos h, List.filter_cons, if_pos (by simpa using h)]
    rfl
  · rw [if_neg h, List.filter_cons, if_neg (by simpa using h)]
    rfl
theorem askF_mem {rs : List Rl} {i j : Nat} {x : Int} : j ∈ askF rs i x ↔ j < i ∧ x ∈ (ru rs j).frm := by
  simp [askF]
theorem askF_nodup (rs : List Rl) (i : Nat) (x : Int) : (askF rs i x).Nodup := by
  unfold askF
  exact List.Nodup.sublist (List.filter_sublist) List.nodup_range
theorem askF_length (rs : List Rl) (i : Nat) (x : Int) : (askF rs i x).length ≤ i := by
  unfold askF
  refine Nat.le_trans (List.length_filter_le _ _) ?_
  rw [List.length_range]
  exact Nat.le_refl _
/-- How many of a list are not met. -/
def cntU (met fr : List Int) : Nat := (fr.filter fun x => decide (x ∉ met)).length
theorem cntU_nil (fr : List Int) : cntU [] fr = fr.length := by
  unfold cntU
  rw [List.filter_eq_self.2 (fun x _ => by simp)]
theorem cntU_zero {met fr : List Int} : cntU met fr = 0 ↔ ∀ x ∈ fr, x ∈ met := by
  unfold cntU
  rw [List.length_eq_zero_iff, List.filter_eq_nil_iff]
  simp
theorem cntU_cons {met : List Int} {x : Int} (hx : x ∉ met) : ∀ {fr : List Int}, Rise fr → cntU met fr = cntU (x :: met) fr + (if x ∈ fr then 1 else 0)
  | [], _ => rfl
  | y :: fr, h => by
    have hp := List.pairwise_cons.1 h
    have ih := cntU_cons hx hp.2
    by_cases hy : y = x
    · subst hy
      have hn : y ∉ fr := fun q => by
        have := hp.1 y q
        omega
      rw [if_neg hn] at ih
      rw [if_pos (by simp)]
      unfold cntU at ih ⊢
      rw [List.filter_cons, if_pos (by simpa using hx), List.filter_cons, if_neg (by simp)]
      simp only [List.length_cons]
      omega
    · have e1 : (x ∈ y :: fr) = (x ∈ fr) := by
        simp only [List.mem_cons, eq_iff_iff]
        exact ⟨fun q => q.resolve_left fun e => hy e.symm, .inr⟩
      have e2 : (y ∉ x :: met) = (y ∉ met) := by
        simp only [List.mem_cons, eq_iff_iff]
        exact ⟨fun q r => q (.inr r), fun q r => r.elim hy q⟩
      simp only [e1]
      unfold cntU at ih ⊢
      rw [List.filter_cons, List.filter_cons]
      simp only [e2]
      by_cases hm : y ∈ met
      · rw [if_neg (by simpa using hm), if_neg (by simpa using hm)]
        exact ih
      · rw [if_pos (by simpa using hm), if_pos (by simpa using hm)]
        simp only [List.length_cons]
        omega
/-- How many are left above 0. -/
def psl (l : List Int) : Nat := (l.filter fun v => decide (0 < v)).length
theorem psl_set : ∀ {l : List Int} {i : Nat} {v : Int}, i < l.length → l.getD i 0 = v + 1 → 0 ≤ v → psl (l.set i v) + (if v = 0 then 1 else 0) = psl l
  | x :: l, 0, v, _, h, h0 => by
    simp only [List.getD_cons_zero] at h
    subst h
    simp only [List.set_cons_zero]
    unfold psl
    rw [List.filter_cons, List.filter_cons, if_pos (show decide (0 < v + 1) = true from decide_eq_true (by omega))]
    by_cases e : v = 0
    · rw [if_pos e, if_neg (by simp [e])]
      rfl
    · rw [if_neg e, if_pos (show decide (0 < v) = true from decide_eq_true (by omega))]
      rfl
  | x :: l, i + 1, v, hi, h, h0 => by
    have ih := psl_set (l := l) (i := i) (v := v) (by simpa using hi) (by simpa using h) h0
    simp only [List.set_cons_succ]
    unfold psl at ih ⊢
    rw [List.filter_cons, List.filter_cons]
    split <;> (try simp only [List.length_cons]) <;> omega
/-- What the loop keeps. -/
structure ClI (known : List Int) (rs : List Rl) (met next lf : List Int) : Prop where
  len : lf.length = rs.length
  mt : ∀ x ∈ met, Rch known rs x
  nxt : ∀ x ∈ next, Rch known rs x
  kn : ∀ x ∈ known, x ∈ met ∨ x ∈ next
  to : ∀ i, i < rs.length → lf.getD i 0 = 0 → (ru rs i).to ∈ met ∨ (ru rs i).to ∈ next
  sz : met.length + next.length + psl lf ≤ known.length + rs.length
/-- .. and what each rule waits for, where some have been told. -/
def ClL (rs : List Rl) (met lf : List Int) (done : List Nat) : Prop := ∀ i, i < rs.length → lf.getD i 0 + (if i ∈ done then 1 else 0) = (cntU met (rsl (ru rs i).frm) : Int)
/-- Rules that wait for nothing, and how many each waits for. -/
def toL (rs : List Rl) : List Int := (rs.filter fun r => r.frm.isEmpty).map (·.to)
def lfL (rs : List Rl) : List Int := rs.map fun r => ((rsl r.frm).length : Int)
theorem lfL_at {rs : List Rl} {i : Nat} (h : i < rs.length) : (lfL rs).getD i 0 = ((rsl (ru rs i).frm).length : Int) := by
  rw [lfL, List.getD_eq_getElem?_getD, List.getElem?_map, ru, List.getD_eq_getElem?_getD, List.getElem?_eq_getElem h]
  rfl
theorem start_sz : ∀ rs : List Rl, (toL rs).length + psl (lfL rs) = rs.length
  | [] => rfl
  | r :: rs => by
    have ih := start_sz rs
    unfold toL lfL psl at ih ⊢
    rw [List.filter_cons, List.map_cons, List.filter_cons]
    cases hf : r.frm with
    | nil =>
      rw [if_pos (show ([] : List Int).isEmpty = true from rfl), if_neg (by simp [rsl])]
      simp only [List.map_cons, List.length_cons]
      omega
    | cons x l =>
      have h1 : 0 < (rsl (x :: l)).length := by
        rcases Nat.eq_zero_or_pos (rsl (x :: l)).length with h | h
        · exact absurd (rsl_nil.1 (List.length_eq_zero_iff.1 h)) (by simp)
        · exact h
      rw [if_neg (by simp), if_pos (decide_eq_true (by omega))]
      simp only [List.length_cons]
      omega
theorem ClI.start (known : List Int) (rs : List Rl) : ClI known rs [] (known ++ toL rs) (lfL rs) ∧ ClL rs [] (lfL rs) [] := by
  refine ⟨⟨by simp [lfL], fun x h => (by cases h), fun x h => ?_, fun x h => .inr (by simp [h]), fun i hi h => ?_, ?_⟩, fun i hi => ?_⟩
  · rcases List.mem_append.1 h with h | h
    · exact .base h
    · obtain ⟨r, hr, rfl⟩ := List.mem_map.1 h
      obtain ⟨h1, h2⟩ := List.mem_filter.1 hr
      refine .step h1 fun x hx => ?_
      rw [List.isEmpty_iff.1 h2] at hx
      cases hx
  · rw [lfL_at hi] at h
    have h0 := rsl_nil.1 (List.length_eq_zero_iff.1 (show (rsl (ru rs i).frm).length = 0 by omega))
    refine .inr (List.mem_append.2 (.inr (List.mem_map.2 ⟨ru rs i, List.mem_filter.2 ⟨ru_mem hi, ?_⟩, rfl⟩)))
    rw [h0]
    rfl
  · have := start_sz rs
    simp only [List.length_append, List.length_nil]
    omega
  · rw [lfL_at hi, cntU_nil]
    simp
theorem ClI.again {known : List Int} {rs : List Rl} {met next lf : List Int} {x : Int} (h : ClI known rs met (next ++ [x]) lf) (hx : x ∈ met) : ClI known rs met next lf := by
  refine ⟨h.len, h.mt, fun y hy => h.nxt y (by simp [hy]), fun y hy => ?_, fun i hi h0 => ?_, ?_⟩
  · rcases h.kn y hy with h1 | h1
    · exact .inl h1
    · rcases List.mem_append.1 h1 with h1 | h1
      · exact .inr h1
      · exact .inl (by rw [List.mem_singleton.1 h1]; exact hx)
  · rcases h.to i hi h0 with h1 | h1
    · exact .inl h1
    · rcases List.mem_append.1 h1 with h1 | h1
      · exact .inr h1
      · exact .inl (by rw [List.mem_singleton.1 h1]; exact hx)
  · have := h.sz
    simp only [List.length_append, List.length_cons, List.length_nil] at this
    omega
theorem ClI.pop {known : List Int} {rs : List Rl} {met next lf : List Int} {x : Int} (h : ClI known rs met (next ++ [x]) lf) : ClI known rs (x :: met) next lf := by
  refine ⟨h.len, fun y hy => ?_, fun y hy => h.nxt y (by simp [hy]), fun y hy => ?_, fun i hi h0 => ?_, ?_⟩
  · rcases List.mem_cons.1 hy with rfl | hy
    · exact h.nxt _ (by simp)
    · exact h.mt y hy
  · rcases h.kn y hy with h1 | h1
    · exact .inl (by simp [h1])
    · rcases List.mem_append.1 h1 with h1 | h1
      · exact .inr h1
      · exact .inl (by rw [List.mem_singleton.1 h1]; simp)
  · rcases h.to i hi h0 with h1 | h1
    · exact .inl (by simp [h1])
    · rcases List.mem_append.1 h1 with h1 | h1
      · exact .inr h1
      · exact .inl (by rw [List.mem_singleton.1 h1]; simp)
  · have := h.sz
    simp only [List.length_append, List.length_cons, List.length_nil] at this ⊢
    omega
theorem getD_set {l : List Int} {i j : Nat} {v : Int} (h : i < l.length) : (l.set i v).getD j 0 = if j = i then v else l.getD j 0 := by
  by_cases e : j = i
  · subst e
    rw [if_pos rfl, getD_set_eq h]
  · rw [if_neg e, getD_set_ne e]
/-- One rule is told. -/
theorem ClL.fire {known : List Int} {rs : List Rl} {met next lf : List Int} {x : Int} {done : List Nat} {i : Nat} (hI : ClI known rs (x :: met) next lf) (h : ClL rs met lf done) (hx : x ∉ met) (hi : i < rs.length) (hd : i ∉ done) (hf : x ∈ (ru rs i).frm) :
    0 ≤ lf.getD i 0 - 1 ∧ lf.getD i 0 ≤ (cntU met (rsl (ru rs i).frm) : Int) ∧ ClL rs met (lf.set i (lf.getD i 0 - 1)) (done ++ [i]) ∧ ClI known rs (x :: met) (if lf.getD i 0 - 1 = 0 then next ++ [(ru rs i).to] else next) (lf.set i (lf.getD i 0 - 1)) ∧
    (if lf.getD i 0 - 1 = 0 then next ++ [(ru rs i).to] else next).length + psl (lf.set i (lf.getD i 0 - 1)) = next.length + psl lf := by
  have hl : i < lf.length := by rw [hI.len]; exact hi
  have h1 := h i hi
  rw [if_neg hd] at h1
  have h2 := cntU_cons hx (rsl_rise (ru rs i).frm)
  rw [if_pos (rsl_mem.2 hf)] at h2
  have hp := psl_set hl (show lf.getD i 0 = (lf.getD i 0 - 1) + 1 by omega) (by omega)
  generalize hv : lf.getD i 0 - 1 = v at *
  have hz : v = 0 → Rch known rs (ru rs i).to := fun e => by
    refine .step (ru_mem hi) fun y hy => hI.mt y (cntU_zero.1 (show cntU (x :: met) (rsl (ru rs i).frm) = 0 by omega) y (rsl_mem.2 hy))
  refine ⟨by omega, by omega, fun j hj => ?_, ⟨by rw [List.length_set]; exact hI.len, hI.mt, fun y hy => ?_, fun y hy => ?_, fun j hj h0 => ?_, ?_⟩, ?_⟩
  · have h3 := h j hj
    rw [getD_set hl]
    by_cases e : j = i
    · subst e
      rw [if_pos rfl, if_pos (by simp)]
      omega
    · rw [if_neg e]
      have e2 : (j ∈ done ++ [i]) = (j ∈ done) := by
        simp only [List.mem_append, List.mem_singleton, eq_iff_iff]
        exact ⟨fun q => q.resolve_right e, .inl⟩
      simp only [e2]
      exact h3
  · split at hy
    · rename_i e
      rcases List.mem_append.1 hy with hy | hy
      · exact hI.nxt y hy
      · rw [List.mem_singleton.1 hy]
        exact hz e
    · exact hI.nxt y hy
  · rcases hI.kn y hy with h3 | h3
    · exact .inl h3
    · refine .inr ?_
      split
      · exact List.mem_append.2 (.inl h3)
      · exact h3
  · rw [getD_set hl] at h0
    by_cases e : j = i
    · subst e
      rw [if_pos rfl] at h0
      rw [if_pos h0]
      exact .inr (by simp)
    · rw [if_neg e] at h0
      rcases hI.to j hj h0 with h3 | h3
      · exact .inl h3
      · refine .inr ?_
        split
        · exact List.mem_append.2 (.inl h3)
        · exact h3
  · have h4 := hI.sz
    split <;> rename_i e
    · rw [if_pos e] at hp
      simp only [List.length_append, List.length_cons, List.length_nil] at h4 ⊢
      omega
    · rw [if_neg e] at hp
      omega
  · split <;> rename_i e
    · rw [if_pos e] at hp
      simp only [List.length_append, List.length_cons, List.length_nil]
      omega
    · rw [if_neg e] at hp
      omega
/-- .. and all that ask. -/
theorem ClL.told {rs : List Rl} {met lf : List Int} {x : Int} (h : ClL rs met lf (askF rs rs.length x)) (hx : x ∉ met) : ClL rs (x :: met) lf [] := fun i hi => by
  have h1 := h i hi
  have h2 := cntU_cons hx (rsl_rise (ru rs i).frm)
  rw [if_neg (by simp)]
  by_cases hf : x ∈ (ru rs i).frm
  · rw [if_pos (askF_mem.2 ⟨hi, hf⟩)] at h1
    rw [if_pos (rsl_mem.2 hf)] at h2
    omega
  · rw [if_neg (fun q => hf (askF_mem.1 q).2)] at h1
    rw [if_neg (fun q => hf (rsl_mem.1 q))] at h2
    omega
/-- Where nothing is left to look at, all is met that follows. -/
theorem ClI.done {known : List Int} {rs : List Rl} {met lf : List Int} (h : ClI known rs met [] lf) (hl : ClL rs met lf []) (x : Int) : x ∈ met ↔ Rch known rs x := by
  refine Rch.iff (S := fun x => x ∈ met) (fun y hy => (h.kn y hy).resolve_right (by simp)) (fun r hr ha => ?_) h.mt x
  obtain ⟨i, hi, rfl⟩ := ru_of hr
  have h1 := hl i hi
  rw [if_neg (by simp), cntU_zero.2 (fun y hy => ha y (rsl_mem.1 hy))] at h1
  exact (h.to i hi (by omega)).resolve_right (by simp)
/-- What follows lies in the bounds of what is given. -/
theorem Rch.within {known : List Int} {rs : List Rl} {m : Int} (hk : ∀ x ∈ known, 0 ≤ x ∧ x < m) (hr : ∀ r ∈ rs, 0 ≤ r.to ∧ r.to < m) {x : Int} (h : Rch known rs x) : 0 ≤ x ∧ x < m :=
  Rch.least (S := fun x => 0 ≤ x ∧ x < m) hk (fun r h _ => hr r h) h
end Go.Proofs.Ytfgammcefaomeaa
