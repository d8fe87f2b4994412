/- red.nodes' plain function by closed forms. -/
import Derived.Test.YtpnckphfjcnooaaN7
namespace Go.Proofs.Ytpnckphfjcnooaa
open Go Go.RowKit
set_option linter.unusedSimpArgs false
/-- The way up of one told. -/
def wayU (l : List Nd) (k : Nat) (n : Int) : List Nd := l.set k { l.getD k nd0 with up := n }
theorem abvN_def (x : Nd) (l : List Nd) (ks : List Nat) : abvN x l ks = ks.foldl (fun q k => wayU q k (l.length : Nat)) l ++ [⟨x.lv, x.ix, x.rd, (l.getD (ks.getD 0 0) nd0).fr, (l.getD (ks.getD (ks.length - 1) 0) nd0).tt, kz ks, -1⟩] := rfl
/-- Where the leaves of a group begin. -/
def loN (ls : List (List Int)) : Nat → Nat → Nat
  | 0, at' => at'
  | L + 1, at' => loN ls L (fstN ls L at')
/-- A list whose last node's way up is told. -/
def upL (l : List Nd) (n : Int) : List Nd := l.set (l.length - 1) { l.getD (l.length - 1) nd0 with up := n }
theorem upL_length (l : List Nd) (n : Int) : (upL l n).length = l.length := List.length_set ..
def lastN (l : List Nd) : Nd := l.getD (l.length - 1) nd0
def ndN (L at' : Nat) (rd : Bool) (lo hi : Nat) (ks : List Nat) : Nd := ⟨(L : Nat), (at' : Nat), rd, (lo : Nat), (hi : Nat), kz ks, -1⟩
/-- The nodes of a group and of all below it; b: how many stand ahead. -/
def seg (kind : Int) (ls : List (List Int)) : Nat → Nat → Nat → List Nd
  | 0, at', _ => [ndN 0 at' false at' (at' + 1) []]
  | L + 1, at', b =>
    let A := seg kind ls L (fstN ls L at') b
    let B := seg kind ls L (fstN ls L at' + 1) (b + A.length)
    if (ls.getD L []).getD at' 0 = 2 then
      upL A (b + A.length + B.length : Nat) ++ (upL B (b + A.length + B.length : Nat) ++ [ndN (L + 1) at' false (loN ls (L + 1) at') (loN ls (L + 1) (at' + 1)) [b + A.length - 1, b + A.length + B.length - 1]])
    else if kind = 1 then
      let C := seg kind ls L (fstN ls L at' + 2) (b + A.length + B.length)
      upL A (b + A.length + B.length + C.length : Nat) ++ (upL B (b + A.length + B.length + C.length : Nat) ++ (upL C (b + A.length + B.length + C.length : Nat) ++
        [ndN (L + 1) at' false (loN ls (L + 1) at') (loN ls (L + 1) (at' + 1)) [b + A.length - 1, b + A.length + B.length - 1, b + A.length + B.length + C.length - 1]]))
    else
      let C := seg kind ls L (fstN ls L at' + 2) (b + A.length + B.length + 1)
      upL A (b + A.length + B.length : Nat) ++ (upL B (b + A.length + B.length : Nat) ++ ({ ndN (L + 1) at' true (loN ls (L + 1) at') (loN ls L (fstN ls L at' + 2)) [b + A.length - 1, b + A.length + B.length - 1] with up := ((b + A.length + B.length + 1 + C.length : Nat) : Int) } ::
        (upL C (b + A.length + B.length + 1 + C.length : Nat) ++ [ndN (L + 1) at' false (loN ls (L + 1) at') (loN ls (L + 1) (at' + 1)) [b + A.length + B.length, b + A.length + B.length + 1 + C.length - 1]])))
theorem seg_red {kind : Int} {ls : List (List Int)} {L at' b : Nat} (h2 : ¬ (ls.getD L []).getD at' 0 = 2) (hk : ¬ kind = 1) : seg kind ls (L + 1) at' b =
    (let A := seg kind ls L (fstN ls L at') b
    let B := seg kind ls L (fstN ls L at' + 1) (b + A.length)
    let C := seg kind ls L (fstN ls L at' + 2) (b + A.length + B.length + 1)
    upL A (b + A.length + B.length : Nat) ++ (upL B (b + A.length + B.length : Nat) ++ ({ ndN (L + 1) at' true (loN ls (L + 1) at') (loN ls L (fstN ls L at' + 2)) [b + A.length - 1, b + A.length + B.length - 1] with up := ((b + A.length + B.length + 1 + C.length : Nat) : Int) } ::
      (upL C (b + A.length + B.length + 1 + C.length : Nat) ++ [ndN (L + 1) at' false (loN ls (L + 1) at') (loN ls (L + 1) (at' + 1)) [b + A.length + B.length, b + A.length + B.length + 1 + C.length - 1]])))) := by
  simp only [seg]
  rw [if_neg h2, if_neg hk]
theorem seg_pos (kind : Int) (ls : List (List Int)) (L at' b : Nat) : 0 < (seg kind ls L at' b).length := by
  cases L with
  | zero => simp [seg]
  | succ L =>
    simp only [seg]
    split
    · simp only [List.length_append, List.length_cons]; omega
    · split
      · simp only [List.length_append, List.length_cons]; omega
      · simp only [List.length_append, List.length_cons]; omega
theorem lastN_snoc (l : List Nd) (x : Nd) : lastN (l ++ [x]) = x := by
  unfold lastN
  rw [List.length_append, List.length_singleton, Nat.add_sub_cancel, List.getD_eq_getElem?_getD, List.getElem?_append_right (Nat.le_refl _), Nat.sub_self]
  rfl
theorem lastN_append {l m : List Nd} (h : 0 < m.length) : lastN (l ++ m) = lastN m := by
  unfold lastN
  rw [List.getD_eq_getElem?_getD, List.getD_eq_getElem?_getD, List.length_append, List.getElem?_append_right (by omega)]
  congr 2
  omega
theorem lastN_cons {x : Nd} {m : List Nd} (h : 0 < m.length) : lastN (x :: m) = lastN m := lastN_append (l := [x]) h
theorem seg_last (kind : Int) (ls : List (List Int)) (L at' b : Nat) : (lastN (seg kind ls L at' b)).fr = (loN ls L at' : Nat) ∧ (lastN (seg kind ls L at' b)).tt = (loN ls L (at' + 1) : Nat) := by
  cases L with
  | zero => exact ⟨rfl, rfl⟩
  | succ L =>
    simp only [seg]
    split
    · rw [lastN_append (by simp only [List.length_append, List.length_cons]; omega), lastN_append (by simp only [List.length_append, List.length_cons]; omega)]
      exact ⟨rfl, rfl⟩
    · split
      · rw [lastN_append (by simp only [List.length_append, List.length_cons]; omega), lastN_append (by simp only [List.length_append, List.length_cons]; omega), lastN_append (by simp only [List.length_append, List.length_cons]; omega)]
        exact ⟨rfl, rfl⟩
      · rw [lastN_append (by simp only [List.length_append, List.length_cons]; omega), lastN_append (by simp only [List.length_append, List.length_cons]; omega), lastN_cons (by simp only [List.length_append, List.length_cons]; omega), lastN_append (by simp only [List.length_append, List.length_cons]; omega)]
        exact ⟨rfl, rfl⟩
theorem set_mid (l A B : List Nd) (v : Nd) (hA : 0 < A.length) : (l ++ (A ++ B)).set (l.length + A.length - 1) v = l ++ (A.set (A.length - 1) v ++ B) := by
  rw [List.set_append_right _ _ (by omega), List.set_append_left _ _ (by omega), show l.length + A.length - 1 - l.length = A.length - 1 by omega]
theorem getD_mid (l A B : List Nd) (hA : 0 < A.length) : (l ++ (A ++ B)).getD (l.length + A.length - 1) nd0 = lastN A := by
  unfold lastN
  rw [List.getD_eq_getElem?_getD, List.getD_eq_getElem?_getD, List.getElem?_append_right (by omega), List.getElem?_append_left (by omega)]
  congr 2
  omega
theorem up_mid (l A B : List Nd) (n : Int) (hA : 0 < A.length) : wayU (l ++ (A ++ B)) (l.length + A.length - 1) n = l ++ (upL A n ++ B) := by
  unfold wayU
  rw [getD_mid l A B hA, set_mid l A B _ hA]
  rfl
theorem abvN_two (x : Nd) (l A B : List Nd) (hA : 0 < A.length) (hB : 0 < B.length) :
    abvN x (l ++ (A ++ B)) [l.length + A.length - 1, l.length + A.length + B.length - 1] =
      l ++ (upL A (l.length + A.length + B.length : Nat) ++ (upL B (l.length + A.length + B.length : Nat) ++ [⟨x.lv, x.ix, x.rd, (lastN A).fr, (lastN B).tt, kz [l.length + A.length - 1, l.length + A.length + B.length - 1], -1⟩])) := by
  have hn : (l ++ (A ++ B)).length = l.length + A.length + B.length := by simp only [List.length_append]; omega
  rw [abvN_def, hn]
  generalize ((l.length + A.length + B.length : Nat) : Int) = n
  have h1 := up_mid l A B n hA
  have h2 := up_mid (l ++ upL A n) B [] n hB
  have h3 := getD_mid (l ++ A) B [] hB
  rw [List.length_append] at h3
  rw [List.length_append, upL_length] at h2
  simp only [List.append_nil, List.append_assoc] at h2 h3
  show wayU (wayU (l ++ (A ++ B)) (l.length + A.length - 1) n) (l.length + A.length + B.length - 1) n ++ [(⟨x.lv, x.ix, x.rd, ((l ++ (A ++ B)).getD (l.length + A.length - 1) nd0).fr, ((l ++ (A ++ B)).getD (l.length + A.length + B.length - 1) nd0).tt, _, -1⟩ : Nd)] = _
  rw [h1, h2, h3, getD_mid l A B hA]
  simp only [List.append_assoc]
theorem abvN_three (x : Nd) (l A B C : List Nd) (hA : 0 < A.length) (hB : 0 < B.length) (hC : 0 < C.length) :
    abvN x (l ++ (A ++ (B ++ C))) [l.length + A.length - 1, l.length + A.length + B.length - 1, l.length + A.length + B.length + C.length - 1] =
      l ++ (upL A (l.length + A.length + B.length + C.length : Nat) ++ (upL B (l.length + A.length + B.length + C.length : Nat) ++ (upL C (l.length + A.length + B.length + C.length : Nat) ++ [⟨x.lv, x.ix, x.rd, (lastN A).fr, (lastN C).tt, kz [l.length + A.length - 1, l.length + A.length + B.length - 1, l.length + A.length + B.length + C.length - 1], -1⟩]))) := by
  have hn : (l ++ (A ++ (B ++ C))).length = l.length + A.length + B.length + C.length := by simp only [List.length_append]; omega
  rw [abvN_def, hn]
  generalize ((l.length + A.length + B.length + C.length : Nat) : Int) = n
  have h1 := up_mid l A (B ++ C) n hA
  have h2 := up_mid (l ++ upL A n) B C n hB
  have h4 := up_mid (l ++ (upL A n ++ upL B n)) C [] n hC
  have h3 := getD_mid (l ++ (A ++ B)) C [] hC
  rw [List.length_append, List.length_append] at h3
  rw [List.length_append, upL_length] at h2
  rw [List.length_append, List.length_append, upL_length, upL_length] at h4
  rw [← Nat.add_assoc] at h3 h4
  simp only [List.append_nil, List.append_assoc] at h2 h3 h4
  show wayU (wayU (wayU (l ++ (A ++ (B ++ C))) (l.length + A.length - 1) n) (l.length + A.length + B.length - 1) n) (l.length + A.length + B.length + C.length - 1) n ++ [(⟨x.lv, x.ix, x.rd, ((l ++ (A ++ (B ++ C))).getD (l.length + A.length - 1) nd0).fr, ((l ++ (A ++ (B ++ C))).getD (l.length + A.length + B.length + C.length - 1) nd0).tt, _, -1⟩ : Nd)] = _
  rw [h1, h2, h4, h3, getD_mid l A (B ++ C) hA]
  simp only [List.append_assoc]
/-- The plain function, by its closed form. -/
theorem below_seg {n : Nat} {ls : List (List Int)} (h : Fit n ls) (kind : Int) : ∀ (L at' : Nat) (l : List Nd), L ≤ ls.length → at' < cntN n ls L → below kind ls L at' l = l ++ seg kind ls L at' l.length
  | 0, at', l, _, _ => rfl
  | L + 1, at', l, hL, ha => by
    obtain ⟨x, hx, hx23, hx1, hx2⟩ := fit_step h hL ha
    have e1 := below_seg h kind L (fstN ls L at') l (by omega) (by omega)
    have e2 := below_seg h kind L (fstN ls L at' + 1) (l ++ seg kind ls L (fstN ls L at') l.length) (by omega) (by omega)
    rw [List.length_append] at e2
    have hA := seg_pos kind ls L (fstN ls L at') l.length
    have hB := seg_pos kind ls L (fstN ls L at' + 1) (l.length + (seg kind ls L (fstN ls L at') l.length).length)
    have lA := seg_last kind ls L (fstN ls L at') l.length
    have lB := seg_last kind ls L (fstN ls L at' + 1) (l.length + (seg kind ls L (fstN ls L at') l.length).length)
    have hlo : loN ls (L + 1) at' = loN ls L (fstN ls L at') := rfl
    have hhi : loN ls (L + 1) (at' + 1) = loN ls L (fstN ls L at' + x) := by rw [← hx1]; rfl
    by_cases h2 : (ls.getD L []).getD at' 0 = 2
    · have hx' : x = 2 := by omega
      subst hx'
      rw [below_two e1.symm e2.symm h2]
      simp only [seg]
      rw [if_pos h2, hlo, hhi]
      generalize seg kind ls L (fstN ls L at') l.length = A at *
      generalize seg kind ls L (fstN ls L at' + 1) (l.length + A.length) = B at *
      rw [List.append_assoc, List.length_append, List.length_append, List.length_append, ← Nat.add_assoc, abvN_two _ l A B hA hB, lA.1, lB.2]
      rfl
    · have hx' : x = 3 := by omega
      subst hx'
      by_cases hk : kind = 1
      · have e3 := below_seg h kind L (fstN ls L at' + 2) (l ++ seg kind ls L (fstN ls L at') l.length ++ seg kind ls L (fstN ls L at' + 1) (l.length + (seg kind ls L (fstN ls L at') l.length).length)) (by omega) (by omega)
        rw [List.length_append, List.length_append] at e3
        have hC := seg_pos kind ls L (fstN ls L at' + 2) (l.length + (seg kind ls L (fstN ls L at') l.length).length + (seg kind ls L (fstN ls L at' + 1) (l.length + (seg kind ls L (fstN ls L at') l.length).length)).length)
        have lC := seg_last kind ls L (fstN ls L at' + 2) (l.length + (seg kind ls L (fstN ls L at') l.length).length + (seg kind ls L (fstN ls L at' + 1) (l.length + (seg kind ls L (fstN ls L at') l.length).length)).length)
        rw [below_three e1.symm e2.symm e3.symm h2 hk]
        simp only [seg]
        rw [if_neg h2, if_pos hk, hlo, hhi]
        generalize seg kind ls L (fstN ls L at') l.length = A at *
        generalize seg kind ls L (fstN ls L at' + 1) (l.length + A.length) = B at *
        generalize seg kind ls L (fstN ls L at' + 2) (l.length + A.length + B.length) = C at *
        rw [List.append_assoc, List.append_assoc, List.length_append, List.length_append, List.length_append, List.length_append, List.length_append, List.length_append]
        simp only [← Nat.add_assoc]
        rw [abvN_three _ l A B C hA hB hC, lA.1, lC.2]
        rfl
      · rw [seg_red h2 hk]
        rw [hlo, hhi]
        simp only []
        generalize seg kind ls L (fstN ls L at') l.length = A at *
        generalize seg kind ls L (fstN ls L at' + 1) (l.length + A.length) = B at *
        have hr : abvN (hdN (L + 1) at' true) (l ++ A ++ B) [(l ++ A).length - 1, (l ++ A ++ B).length - 1] = l ++ (upL A (l.length + A.length + B.length : Nat) ++ (upL B (l.length + A.length + B.length : Nat) ++ [ndN (L + 1) at' true (loN ls L (fstN ls L at')) (loN ls L (fstN ls L at' + 2)) [l.length + A.length - 1, l.length + A.length + B.length - 1]])) := by
          rw [List.append_assoc, List.length_append, List.length_append, List.length_append, ← Nat.add_assoc, abvN_two _ l A B hA hB, lA.1, lB.2]
          rfl
        generalize hrn : ndN (L + 1) at' true (loN ls L (fstN ls L at')) (loN ls L (fstN ls L at' + 2)) [l.length + A.length - 1, l.length + A.length + B.length - 1] = rn at *
        have hl' : (l ++ (upL A (l.length + A.length + B.length : Nat) ++ upL B (l.length + A.length + B.length : Nat))).length = l.length + A.length + B.length := by
          simp only [List.length_append, upL_length]
          omega
        have hl2 : (l ++ (upL A (l.length + A.length + B.length : Nat) ++ (upL B (l.length + A.length + B.length : Nat) ++ [rn]))).length = l.length + A.length + B.length + 1 := by
          simp only [List.length_append, upL_length, List.length_cons, List.length_nil]
          omega
        have e3 := below_seg h kind L (fstN ls L at' + 2) (l ++ (upL A (l.length + A.length + B.length : Nat) ++ (upL B (l.length + A.length + B.length : Nat) ++ [rn]))) (by omega) (by omega)
        rw [hl2] at e3
        have hC := seg_pos kind ls L (fstN ls L at' + 2) (l.length + A.length + B.length + 1)
        have lC := seg_last kind ls L (fstN ls L at' + 2) (l.length + A.length + B.length + 1)
        rw [below_red e1.symm e2.symm hr.symm e3.symm h2 hk, hl2, List.length_append, hl2]
        generalize seg kind ls L (fstN ls L at' + 2) (l.length + A.length + B.length + 1) = C at *
        generalize ((l.length + A.length + B.length : Nat) : Int) = nn at *
        have key := abvN_two (hdN (L + 1) at' false) (l ++ (upL A nn ++ upL B nn)) [rn] C Nat.one_pos hC
        rw [hl'] at key
        simp only [List.append_assoc, List.length_cons, List.length_nil, Nat.zero_add] at key ⊢
        rw [key, lC.2]
        subst hrn
        rfl
end Go.Proofs.Ytpnckphfjcnooaa
