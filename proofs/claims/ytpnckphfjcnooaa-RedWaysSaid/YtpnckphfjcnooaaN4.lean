/- red.nodes: the plain function, and how a tree's levels stand to one another. -/
import Derived.Test.YtpnckphfjcnooaaN3
import Derived.Test.YtpnckphfjcnooaaT9
namespace Go.Proofs.Ytpnckphfjcnooaa
open Go Go.RowKit
def cntN (n : Nat) (ls : List (List Int)) : Nat → Nat
  | 0 => n
  | l + 1 => (ls.getD l []).length
theorem cntN_cons (n : Nat) (l : List Int) (ls : List (List Int)) (k : Nat) : cntN n (l :: ls) (k + 1) = cntN l.length ls k := by
  cases k <;> rfl
/-- How the levels stand to one another. -/
structure Fit (n : Nat) (ls : List (List Int)) : Prop where
  sum : ∀ l, l < ls.length → (ls.getD l []).sum = (cntN n ls l : Int)
  tt : ∀ l, ∀ x ∈ ls.getD l [], x = 2 ∨ x = 3
  few : ∀ l, l ≤ ls.length → cntN n ls l ≤ n
  top : cntN n ls ls.length ≤ 1
theorem sum_two : ∀ (l : List Int), (∀ x ∈ l, x = 2 ∨ x = 3) → 2 * (l.length : Int) ≤ l.sum
  | [], _ => by simp
  | x :: l, h => by
    have h1 := sum_two l fun y hy => h y (by simp [hy])
    have h2 := h x (by simp)
    simp only [List.length_cons, List.sum_cons]
    omega
theorem okLv_fit : ∀ (ls : List (List Int)) (n : Nat), okLv (n : Int) ls = true → Fit n ls
  | [], n, h => by
    have hn : n ≤ 1 := by
      unfold okLv at h
      have := of_decide_eq_true h
      omega
    exact ⟨fun l hl => by simp at hl, fun l x hx => by simp at hx, fun l hl => by
      cases l with
      | zero => exact Nat.le_refl _
      | succ l => exact absurd hl (by simp), hn⟩
  | l :: ls, n, h => by
    obtain ⟨h1, h2, h3, h4⟩ := okLv_cons h
    have ih := okLv_fit ls l.length h4
    have hs := sum_two l h2
    refine ⟨fun k hk => ?_, fun k x hx => ?_, fun k hk => ?_, ?_⟩
    · cases k with
      | zero => exact h3
      | succ k => rw [cntN_cons]; exact ih.sum k (by simpa using hk)
    · cases k with
      | zero => exact h2 x hx
      | succ k => exact ih.tt k x hx
    · cases k with
      | zero => exact Nat.le_refl _
      | succ k =>
        rw [cntN_cons]
        have := ih.few k (by simpa using hk)
        omega
    · rw [List.length_cons, cntN_cons]
      exact ih.top
theorem frm_nonnegN : ∀ (l : List Int), (∀ x ∈ l, x = 2 ∨ x = 3) → ∀ k, 0 ≤ frm l k
  | [], _, k => by simp [frm]
  | x :: l, h, 0 => by simp [frm]
  | x :: l, h, k + 1 => by
    rw [frm_cons]
    have h1 := frm_nonnegN l (fun y hy => h y (by simp [hy])) k
    have h2 := h x (by simp)
    omega
theorem frm_leN : ∀ (l : List Int), (∀ x ∈ l, x = 2 ∨ x = 3) → ∀ k, frm l k ≤ l.sum
  | [], _, k => by simp [frm]
  | x :: l, h, 0 => by
    have h2 := sum_two (x :: l) h
    rw [frm_zero]
    omega
  | x :: l, h, k + 1 => by
    rw [frm_cons, List.sum_cons]
    have h1 := frm_leN l (fun y hy => h y (by simp [hy])) k
    omega
/-- Where a group's first part stands. -/
def fstN (ls : List (List Int)) (L at' : Nat) : Nat := (frm (ls.getD L []) at').toNat
theorem getD_memN {l : List Int} {i : Nat} (h : i < l.length) : l.getD i 0 ∈ l := by
  rw [List.getD_eq_getElem?_getD, List.getElem?_eq_getElem h]
  exact List.getElem_mem _
theorem fit_step {n : Nat} {ls : List (List Int)} (h : Fit n ls) {L at' : Nat} (hL : L < ls.length) (ha : at' < cntN n ls (L + 1)) :
    ∃ x : Nat, (ls.getD L []).getD at' 0 = (x : Int) ∧ (x = 2 ∨ x = 3) ∧ fstN ls L (at' + 1) = fstN ls L at' + x ∧ fstN ls L at' + x ≤ cntN n ls L := by
  have ha' : at' < (ls.getD L []).length := ha
  have h1 := frm_nonnegN _ (h.tt L) at'
  have h2 := frm_succ ha'
  have h3 := frm_leN _ (h.tt L) (at' + 1)
  rw [h.sum L hL] at h3
  have h4 := h.tt L ((ls.getD L []).getD at' 0) (getD_memN ha')
  unfold fstN
  generalize (ls.getD L []).getD at' 0 = y at *
  rcases h4 with rfl | rfl
  · exact ⟨2, rfl, .inl rfl, by omega, by omega⟩
  · exact ⟨3, rfl, .inr rfl, by omega, by omega⟩
/-- Which groups come next: from a level down. -/
def Al (ls : List (List Int)) : Nat → Nat → List Int → Prop
  | 0, at', nx => nx.getD 0 0 = (at' : Int)
  | L + 1, at', nx => nx.getD (L + 1) 0 = (at' : Int) ∧ Al ls L (fstN ls L at') nx
theorem Al.congr {ls : List (List Int)} : ∀ {L at' : Nat} {nx nx' : List Int}, Al ls L at' nx → (∀ j, j ≤ L → nx'.getD j 0 = nx.getD j 0) → Al ls L at' nx'
  | 0, _, _, _, h, e => (e 0 (Nat.le_refl _)).trans h
  | L + 1, _, _, _, h, e => ⟨(e (L + 1) (Nat.le_refl _)).trans h.1, Al.congr h.2 fun j hj => e j (by omega)⟩
theorem Al.head {ls : List (List Int)} {L at' : Nat} {nx : List Int} (h : Al ls L at' nx) : nx.getD L 0 = (at' : Int) := by
  cases L with
  | zero => exact h
  | succ L => exact h.1
theorem getD_set_neN {l : List Int} {i j : Nat} {v : Int} (h : i ≠ j) : (l.set i v).getD j 0 = l.getD j 0 := by
  rw [List.getD_eq_getElem?_getD, List.getElem?_set_ne h, List.getD_eq_getElem?_getD]
theorem getD_set_selfN {l : List Int} {i : Nat} {v : Int} (h : i < l.length) : (l.set i v).getD i 0 = v := by
  rw [List.getD_eq_getElem?_getD, List.getElem?_set_self h]
  rfl
/-- A node above others, in the list of all. -/
def abvN (x : Nd) (l : List Nd) (ks : List Nat) : List Nd :=
  ks.foldl (fun q k => q.set k { q.getD k nd0 with up := (l.length : Nat) }) l ++ [⟨x.lv, x.ix, x.rd, (l.getD (ks.getD 0 0) nd0).fr, (l.getD (ks.getD (ks.length - 1) 0) nd0).tt, kz ks, -1⟩]
theorem fold_up_length (n : Int) : ∀ (ks : List Nat) (l : List Nd), (ks.foldl (fun q k => q.set k { q.getD k nd0 with up := n }) l).length = l.length
  | [], _ => rfl
  | _ :: ks, _ => (fold_up_length n ks _).trans (List.length_set ..)
theorem abvN_length (x : Nd) (l : List Nd) (ks : List Nat) : (abvN x l ks).length = l.length + 1 := by
  unfold abvN
  rw [List.length_append, fold_up_length]
  rfl
theorem fst_getD (ps : List (Nd × Value)) (k : Nat) : (ps.map Prod.fst).getD k nd0 = (ps.getD k ndP).1 := by
  simp only [List.getD_eq_getElem?_getD, List.getElem?_map]
  cases ps[k]? <;> rfl
theorem upAll_fst (n : Int) : ∀ (ks : List Nat) (ps : List (Nd × Value)), (upAll ps ks n).map Prod.fst = ks.foldl (fun q k => q.set k { q.getD k nd0 with up := n }) (ps.map Prod.fst)
  | [], _ => rfl
  | k :: ks, ps => by
    refine (upAll_fst n ks (upS ps k n)).trans ?_
    have e : (upS ps k n).map Prod.fst = (ps.map Prod.fst).set k { (ps.map Prod.fst).getD k nd0 with up := n } := by
      unfold upS
      rw [List.map_set, fst_getD]
    rw [e]
    rfl
theorem abvP_fst (x : Nd) (kv : Value) (ps : List (Nd × Value)) (ks : List Nat) : (abvP x kv ps ks).map Prod.fst = abvN x (ps.map Prod.fst) ks := by
  unfold abvP abvN nodeOf
  rw [List.map_append, upAll_fst, List.length_map]
  simp only [List.map_cons, List.map_nil, fst_getD]
def hdN (L at' : Nat) (rd : Bool) : Nd := ⟨(L : Nat), (at' : Nat), rd, 0, 0, [], 0⟩
/-- The nodes of a group, and of all below it, put behind others. -/
def below (kind : Int) (ls : List (List Int)) : Nat → Nat → List Nd → List Nd
  | 0, at', l => l ++ [⟨0, (at' : Nat), false, (at' : Nat), (at' : Int) + 1, [], -1⟩]
  | L + 1, at', l =>
    let l1 := below kind ls L (fstN ls L at') l
    let l2 := below kind ls L (fstN ls L at' + 1) l1
    if (ls.getD L []).getD at' 0 = 2 then abvN (hdN (L + 1) at' false) l2 [l1.length - 1, l2.length - 1]
    else if kind = 1 then
      let l3 := below kind ls L (fstN ls L at' + 2) l2
      abvN (hdN (L + 1) at' false) l3 [l1.length - 1, l2.length - 1, l3.length - 1]
    else
      let r := abvN (hdN (L + 1) at' true) l2 [l1.length - 1, l2.length - 1]
      let l3 := below kind ls L (fstN ls L at' + 2) r
      abvN (hdN (L + 1) at' false) l3 [r.length - 1, l3.length - 1]
theorem below_length (kind : Int) (ls : List (List Int)) : ∀ (L at' : Nat) (l : List Nd), l.length + 1 ≤ (below kind ls L at' l).length ∧ (below kind ls L at' l).length + 1 ≤ l.length + 2 * 3 ^ L
  | 0, at', l => by simp [below]
  | L + 1, at', l => by
    have h1 := below_length kind ls L (fstN ls L at') l
    have h2 := below_length kind ls L (fstN ls L at' + 1) (below kind ls L (fstN ls L at') l)
    have h3 := below_length kind ls L (fstN ls L at' + 2) (below kind ls L (fstN ls L at' + 1) (below kind ls L (fstN ls L at') l))
    have h4 := below_length kind ls L (fstN ls L at' + 2) (abvN (hdN (L + 1) at' true) (below kind ls L (fstN ls L at' + 1) (below kind ls L (fstN ls L at') l)) [(below kind ls L (fstN ls L at') l).length - 1, (below kind ls L (fstN ls L at' + 1) (below kind ls L (fstN ls L at') l)).length - 1])
    rw [abvN_length] at h4
    have hp : 1 ≤ 3 ^ L := Nat.pow_pos (by decide)
    rw [Nat.pow_succ]
    simp only [below]
    split
    · rw [abvN_length]
      omega
    · split
      · rw [abvN_length]
        omega
      · rw [abvN_length]
        omega
end Go.Proofs.Ytpnckphfjcnooaa
