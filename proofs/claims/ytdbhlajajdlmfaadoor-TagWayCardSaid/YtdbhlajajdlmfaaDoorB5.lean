import Derived.Test.YtdbhlajajdlmfaaDoorB4
import Derived.Test.YtdbhlajajdlmfaaDoorB2
import Derived.Deep.Cut
/- red.nodes' plain function by closed forms. -/
namespace Go.Proofs.YtdbhlajajdlmfaaDoor
open Go Go.RowKit
set_option linter.unusedSimpArgs false
/-- The way up of one told. -/
def wayU (l : List Nd) (k : Nat) (n : Int) : List Nd := l.set k { l.getD k nd0 with up := n }
theorem abvN_def (x : Nd) (l : List Nd) (ks : List Nat) : abvN x l ks = ks.foldl (fun q k => wayU q k (l.length : Nat)) l ++ [⟨x.lv, x.ix, x.rd, (l.getD (ks.getD 0 0) nd0).fr, (l.getD (ks.getD (ks.length - 1) 0) nd0).tt, kz ks, -1⟩] := rfl
/-- Where the leaves of a group begin. -/
def loN (ls : List (List Int)) : Nat → Nat → Nat
  | 0, at' => at'
  | L + 1, at' => loN ls L (fstN ls L at')
/-- A list whose last node's way up is told. -/
def upL (l : List Nd) (n : Int) : List Nd := l.set (l.length - 1) { l.getD (l.length - 1) nd0 with up := n }
theorem upL_length (l : List Nd) (n : Int) : (upL l n).length = l.length := List.length_set ..
def lastN (l : List Nd) : Nd := l.getD (l.length - 1) nd0
def ndN (L at' : Nat) (rd : Bool) (lo hi : Nat) (ks : List Nat) : Nd := ⟨(L : Nat), (at' : Nat), rd, (lo : Nat), (hi : Nat), kz ks, -1⟩
/-- The nodes of a group and of all below it; b: how many stand ahead. -/
def seg (kind : Int) (ls : List (List Int)) : Nat → Nat → Nat → List Nd
  | 0, at', _ => [ndN 0 at' false at' (at' + 1) []]
  | L + 1, at', b =>
    let A := seg kind ls L (fstN ls L at') b
    let B := seg kind ls L (fstN ls L at' + 1) (b + A.length)
    if (ls.getD L []).getD at' 0 = 2 then
      upL A (b + A.length + B.length : Nat) ++ (upL B (b + A.length + B.length : Nat) ++ [ndN (L + 1) at' false (loN ls (L + 1) at') (loN ls (L + 1) (at' + 1)) [b + A.length - 1, b + A.length + B.length - 1]])
    else if kind = 1 then
      let C := seg kind ls L (fstN ls L at' + 2) (b + A.length + B.length)
      upL A (b + A.length + B.length + C.length : Nat) ++ (upL B (b + A.length + B.length + C.length : Nat) ++ (upL C (b + A.length + B.length + C.length : Nat) ++
        [ndN (L + 1) at' false (loN ls (L + 1) at') (loN ls (L + 1) (at' + 1)) [b + A.length - 1, b + A.length + B.length - 1, b + A.length + B.length + C.length - 1]]))
    else
      let C := seg kind ls L (fstN ls L at' + 2) (b + A.length + B.length + 1)
      upL A (b + A.length + B.length : Nat) ++ (upL B (b + A.length + B.length : Nat) ++ ({ ndN (L + 1) at' true (loN ls (L + 1) at') (loN ls L (fstN ls L at' + 2)) [b + A.length - 1, b + A.length + B.length - 1] with up := ((b + A.length + B.length + 1 + C.length : Nat) : Int) } ::
        (upL C (b + A.length + B.length + 1 + C.length : Nat) ++ [ndN (L + 1) at' false (loN ls (L + 1) at') (loN ls (L + 1) (at' + 1)) [b + A.length + B.length, b + A.length + B.length + 1 + C.length - 1]])))
theorem seg_red {kind : Int} {ls : List (List Int)} {L at' b : Nat} (h2 : ¬ (ls.getD L []).getD at' 0 = 2) (hk : ¬ kind = 1) : seg kind ls (L + 1) at' b =
    (let A := seg kind ls L (fstN ls L at') b
    let B := seg kind ls L (fstN ls L at' + 1) (b + A.length)
    let C := seg kind ls L (fstN ls L at' + 2) (b + A.length + B.length + 1)
    upL A (b + A.length + B.length : Nat) ++ (upL B (b + A.length + B.length : Nat) ++ ({ ndN (L + 1) at' true (loN ls (L + 1) at') (loN ls L (fstN ls L at' + 2)) [b + A.length - 1, b + A.length + B.length - 1] with up := ((b + A.length + B.length + 1 + C.length : Nat) : Int) } ::
      (upL C (b + A.length + B.length + 1 + C.length : Nat) ++ [ndN (L + 1) at' false (loN ls (L + 1) at') (loN ls (L + 1) (at' + 1)) [b + A.length + B.length, b + A.length + B.length + 1 + C.length - 1]])))) := by
  simp only [seg]
  rw [if_neg h2, if_neg hk]
theorem seg_pos (kind : Int) (ls : List (List Int)) (L at' b : Nat) : 0 < (seg kind ls L at' b).length := by
  cases L with
  | zero => simp [seg]
  | succ L =>
    simp only [seg]
    split
    · simp only [List.length_append, List.length_cons]; omega
    · split
      · simp only [List.length_append, List.length_cons]; omega
      · simp only [List.length_append, List.length_cons]; omega
theorem lastN_snoc (l : List Nd) (x : Nd) : lastN (l ++ [x]) = x := by
  unfold lastN
  rw [List.length_append, List.length_singleton, Nat.add_sub_cancel, List.getD_eq_getElem?_getD, List.getElem?_append_right (Nat.le_refl _), Nat.sub_self]
  rfl
theorem lastN_append {l m : List Nd} (h : 0 < m.length) : lastN (l ++ m) = lastN m := by
  unfold lastN
  rw [List.getD_eq_getElem?_getD, List.getD_eq_getElem?_getD, List.length_append, List.getElem?_append_right (by omega)]
  congr 2
  omega
theorem lastN_cons {x : Nd} {m : List Nd} (h : 0 < m.length) : lastN (x :: m) = lastN m := lastN_append (l := [x]) h
theorem seg_last (kind : Int) (ls : List (List Int)) (L at' b : Nat) : (lastN (seg kind ls L at' b)).fr = (loN ls L at' : Nat) ∧ (lastN (seg kind ls L at' b)).tt = (loN ls L (at' + 1) : Nat) := by
  cases L with
  | zero => exact ⟨rfl, rfl⟩
  | succ L =>
    simp only [seg]
    split
    · rw [lastN_append (by simp only [List.length_append, List.length_cons]; omega), lastN_append (by simp only [List.length_append, List.length_cons]; omega)]
      exact ⟨rfl, rfl⟩
    · split
      · rw [lastN_append (by simp only [List.length_append, List.length_cons]; omega), lastN_append (by simp only [List.length_append, List.length_cons]; omega), lastN_append (by simp only [List.length_append, List.length_cons]; omega)]
        exact ⟨rfl, rfl⟩
      · rw [lastN_append (by simp only [List.length_append, List.length_cons]; omega), lastN_append (by simp only [List.length_append, List.length_cons]; omega), lastN_cons (by simp only [List.length_append, List.length_cons]; omega), lastN_append (by simp only [List.length_append, List.length_cons]; omega)]
        exact ⟨rfl, rfl⟩
theorem set_mid (l A B : List Nd) (v : Nd) (hA : 0 < A.length) : (l ++ (A ++ B)).set (l.length + A.length - 1) v = l ++ (A.set (A.length - 1) v ++ B) := by
  rw [List.set_append_right _ _ (by omega), List.set_append_left _ _ (by omega), show l.length + A.length - 1 - l.length = A.length - 1 by omega]
theorem getD_mid (l A B : List Nd) (hA : 0 < A.length) : (l ++ (A ++ B)).getD (l.length + A.length - 1) nd0 = lastN A := by
  unfold lastN
  rw [List.getD_eq_getElem?_getD, List.getD_eq_getElem?_getD, List.getElem?_append_right (by omega), List.getElem?_append_left (by omega)]
  congr 2
  omega
theorem up_mid (l A B : List Nd) (n : Int) (hA : 0 < A.length) : wayU (l ++ (A ++ B)) (l.length + A.length - 1) n = l ++ (upL A n ++ B) := by
  unfold wayU
  rw [getD_mid l A B hA, set_mid l A B _ hA]
  rfl
theorem abvN_two (x : Nd) (l A B : List Nd) (hA : 0 < A.length) (hB : 0 < B.length) :
    abvN x (l ++ (A ++ B)) [l.length + A.length - 1, l.length + A.length + B.length - 1] =
      l ++ (upL A (l.length + A.length + B.length : Nat) ++ (upL B (l.length + A.length + B.length : Nat) ++ [⟨x.lv, x.ix, x.rd, (lastN A).fr, (lastN B).tt, kz [l.length + A.length - 1, l.length + A.length + B.length - 1], -1⟩])) := by
  have hn : (l ++ (A ++ B)).length = l.length + A.length + B.length := by simp only [List.length_append]; omega
  rw [abvN_def, hn]
  generalize ((l.length + A.length + B.length : Nat) : Int) = n
  have h1 := up_mid l A B n hA
  have h2 := up_mid (l ++ upL A n) B [] n hB
  have h3 := getD_mid (l ++ A) B [] hB
  rw [List.length_append] at h3
  rw [List.length_append, upL_length] at h2
  simp only [List.append_nil, List.append_assoc] at h2 h3
  show wayU (wayU (l ++ (A ++ B)) (l.length + A.length - 1) n) (l.length + A.length + B.length - 1) n ++ [(⟨x.lv, x.ix, x.rd, ((l ++ (A ++ B)).getD (l.length + A.length - 1) nd0).fr, ((l ++ (A ++ B)).getD (l.length + A.length + B.length - 1) nd0).tt, _, -1⟩ : Nd)] = _
  rw [h1, h2, h3, getD_mid l A B hA]
  simp only [List.append_assoc]
theorem abvN_three (x : Nd) (l A B C : List Nd) (hA : 0 < A.length) (hB : 0 < B.length) (hC : 0 < C.length) :
    abvN x (l ++ (A ++ (B ++ C))) [l.length + A.length - 1, l.length + A.length + B.length - 1, l.length + A.length + B.length + C.length - 1] =
      l ++ (upL A (l.length + A.length + B.length + C.length : Nat) ++ (upL B (l.length + A.length + B.length + C.length : Nat) ++ (upL C (l.length + A.length + B.length + C.length : Nat) ++ [⟨x.lv, x.ix, x.rd, (lastN A).fr, (lastN C).tt, kz [l.length + A.length - 1, l.length + A.length + B.length - 1, l.length + A.length + B.length + C.length - 1], -1⟩]))) := by
  have hn : (l ++ (A ++ (B ++ C))).length = l.length + A.length + B.length + C.length := by simp only [List.length_append]; omega
  rw [abvN_def, hn]
  generalize ((l.length + A.length + B.length + C.length : Nat) : Int) = n
  have h1 := up_mid l A (B ++ C) n hA
  have h2 := up_mid (l ++ upL A n) B C n hB
  have h4 := up_mid (l ++ (upL A n ++ upL B n)) C [] n hC
  have h3 := getD_mid (l ++ (A ++ B)) C [] hC
  rw [List.length_append, List.length_append] at h3
  rw [List.length_append, upL_length] at h2
  rw [List.length_append, List.length_append, upL_length, upL_length] at h4
  rw [← Nat.add_assoc] at h3 h4
  simp only [List.append_nil, List.append_assoc] at h2 h3 h4
  show wayU (wayU (wayU (l ++ (A ++ (B ++ C))) (l.length + A.length - 1) n) (l.length + A.length + B.length - 1) n) (l.length + A.length + B.length + C.length - 1) n ++ [(⟨x.lv, x.ix, x.rd, ((l ++ (A ++ (B ++ C))).getD (l.length + A.length - 1) nd0).fr, ((l ++ (A ++ (B ++ C))).getD (l.length + A.length + B.length + C.length - 1) nd0).tt, _, -1⟩ : Nd)] = _
  rw [h1, h2, h4, h3, getD_mid l A (B ++ C) hA]
  simp only [List.append_assoc]
/-- The plain function, by its closed form. -/
theorem below_seg {n : Nat} {ls : List (List Int)} (h : Fit n ls) (kind : Int) : ∀ (L at' : Nat) (l : List Nd), L ≤ ls.length → at' < cntN n ls L → below kind ls L at' l = l ++ seg kind ls L at' l.length
  | 0, at', l, _, _ => rfl
  | L + 1, at', l, hL, ha => by
    obtain ⟨x, hx, hx23, hx1, hx2⟩ := fit_step h hL ha
    have e1 := below_seg h kind L (fstN ls L at') l (by omega) (by omega)
    have e2 := below_seg h kind L (fstN ls L at' + 1) (l ++ seg kind ls L (fstN ls L at') l.length) (by omega) (by omega)
    rw [List.length_append] at e2
    have hA := seg_pos kind ls L (fstN ls L at') l.length
    have hB := seg_pos kind ls L (fstN ls L at' + 1) (l.length + (seg kind ls L (fstN ls L at') l.length).length)
    have lA := seg_last kind ls L (fstN ls L at') l.length
    have lB := seg_last kind ls L (fstN ls L at' + 1) (l.length + (seg kind ls L (fstN ls L at') l.length).length)
    have hlo : loN ls (L + 1) at' = loN ls L (fstN ls L at') := rfl
    have hhi : loN ls (L + 1) (at' + 1) = loN ls L (fstN ls L at' + x) := by rw [← hx1]; rfl
    by_cases h2 : (ls.getD L []).getD at' 0 = 2
    · have hx' : x = 2 := by omega
      subst hx'
      rw [below_two e1.symm e2.symm h2]
      simp only [seg]
      rw [if_pos h2, hlo, hhi]
      generalize seg kind ls L (fstN ls L at') l.length = A at *
      generalize seg kind ls L (fstN ls L at' + 1) (l.length + A.length) = B at *
      rw [List.append_assoc, List.length_append, List.length_append, List.length_append, ← Nat.add_assoc, abvN_two _ l A B hA hB, lA.1, lB.2]
      rfl
    · have hx' : x = 3 := by omega
      subst hx'
      by_cases hk : kind = 1
      · have e3 := below_seg h kind L (fstN ls L at' + 2) (l ++ seg kind ls L (fstN ls L at') l.length ++ seg kind ls L (fstN ls L at' + 1) (l.length + (seg kind ls L (fstN ls L at') l.length).length)) (by omega) (by omega)
        rw [List.length_append, List.length_append] at e3
        have hC := seg_pos kind ls L (fstN ls L at' + 2) (l.length + (seg kind ls L (fstN ls L at') l.length).length + (seg kind ls L (fstN ls L at' + 1) (l.length + (seg kind ls L (fstN ls L at') l.length).length)).length)
        have lC := seg_last kind ls L (fstN ls L at' + 2) (l.length + (seg kind ls L (fstN ls L at') l.length).length + (seg kind ls L (fstN ls L at' + 1) (l.length + (seg kind ls L (fstN ls L at') l.length).length)).length)
        rw [below_three e1.symm e2.symm e3.symm h2 hk]
        simp only [seg]
        rw [if_neg h2, if_pos hk, hlo, hhi]
        generalize seg kind ls L (fstN ls L at') l.length = A at *
        generalize seg kind ls L (fstN ls L at' + 1) (l.length + A.length) = B at *
        generalize seg kind ls L (fstN ls L at' + 2) (l.length + A.length + B.length) = C at *
        rw [List.append_assoc, List.append_assoc, List.length_append, List.length_append, List.length_append, List.length_append, List.length_append, List.length_append]
        simp only [← Nat.add_assoc]
        rw [abvN_three _ l A B C hA hB hC, lA.1, lC.2]
        rfl
      · rw [seg_red h2 hk]
        rw [hlo, hhi]
        simp only []
        generalize seg kind ls L (fstN ls L at') l.length = A at *
        generalize seg kind ls L (fstN ls L at' + 1) (l.length + A.length) = B at *
        have hr : abvN (hdN (L + 1) at' true) (l ++ A ++ B) [(l ++ A).length - 1, (l ++ A ++ B).length - 1] = l ++ (upL A (l.length + A.length + B.length : Nat) ++ (upL B (l.length + A.length + B.length : Nat) ++ [ndN (L + 1) at' true (loN ls L (fstN ls L at')) (loN ls L (fstN ls L at' + 2)) [l.length + A.length - 1, l.length + A.length + B.length - 1]])) := by
          rw [List.append_assoc, List.length_append, List.length_append, List.length_append, ← Nat.add_assoc, abvN_two _ l A B hA hB, lA.1, lB.2]
          rfl
        generalize hrn : ndN (L + 1) at' true (loN ls L (fstN ls L at')) (loN ls L (fstN ls L at' + 2)) [l.length + A.length - 1, l.length + A.length + B.length - 1] = rn at *
        have hl' : (l ++ (upL A (l.length + A.length + B.length : Nat) ++ upL B (l.length + A.length + B.length : Nat))).length = l.length + A.length + B.length := by
          simp only [List.length_append, upL_length]
          omega
        have hl2 : (l ++ (upL A (l.length + A.length + B.length : Nat) ++ (upL B (l.length + A.length + B.length : Nat) ++ [rn]))).length = l.length + A.length + B.length + 1 := by
          simp only [List.length_append, upL_length, List.length_cons, List.length_nil]
          omega
        have e3 := below_seg h kind L (fstN ls L at' + 2) (l ++ (upL A (l.length + A.length + B.length : Nat) ++ (upL B (l.length + A.length + B.length : Nat) ++ [rn]))) (by omega) (by omega)
        rw [hl2] at e3
        have hC := seg_pos kind ls L (fstN ls L at' + 2) (l.length + A.length + B.length + 1)
        have lC := seg_last kind ls L (fstN ls L at' + 2) (l.length + A.length + B.length + 1)
        rw [below_red e1.symm e2.symm hr.symm e3.symm h2 hk, hl2, List.length_append, hl2]
        generalize seg kind ls L (fstN ls L at' + 2) (l.length + A.length + B.length + 1) = C at *
        generalize ((l.length + A.length + B.length : Nat) : Int) = nn at *
        have key := abvN_two (hdN (L + 1) at' false) (l ++ (upL A nn ++ upL B nn)) [rn] C Nat.one_pos hC
        rw [hl'] at key
        simp only [List.append_assoc, List.length_cons, List.length_nil, Nat.zero_add] at key ⊢
        rw [key, lC.2]
        subst hrn
        rfl
end Go.Proofs.YtdbhlajajdlmfaaDoor
/- Both kinds of a tree's nodes: the plain law of RedKinds. -/
namespace Go.Proofs.YtdbhlajajdlmfaaDoor
open Go Go.RowKit
structure Cor where
  lv : Int
  ix : Int
  rd : Bool
  fr : Int
  tt : Int
deriving DecidableEq
def cor (x : Nd) : Cor := ⟨x.lv, x.ix, x.rd, x.fr, x.tt⟩
theorem upL_cor (l : List Nd) (n : Int) : (upL l n).map cor = l.map cor := by
  unfold upL
  rw [List.map_set]
  refine List.ext_getElem? fun j => ?_
  by_cases e : l.length - 1 = j
  · subst e
    by_cases h : l.length - 1 < l.length
    · rw [List.getElem?_set_self (by rw [List.length_map]; exact h), List.getElem?_map, List.getD_eq_getElem?_getD, List.getElem?_eq_getElem h]
      rfl
    · rw [List.getElem?_eq_none (by rw [List.length_set, List.length_map]; omega), List.getElem?_eq_none (by rw [List.length_map]; omega)]
  · rw [List.getElem?_set_ne e]
/-- The nodes without their ways up and down. -/
def skN (kind : Int) (ls : List (List Int)) : Nat → Nat → List Cor
  | 0, at' => [⟨0, (at' : Nat), false, (at' : Nat), (at' + 1 : Nat)⟩]
  | L + 1, at' =>
    if (ls.getD L []).getD at' 0 = 2 then
      skN kind ls L (fstN ls L at') ++ (skN kind ls L (fstN ls L at' + 1) ++ [⟨(L + 1 : Nat), (at' : Nat), false, (loN ls (L + 1) at' : Nat), (loN ls (L + 1) (at' + 1) : Nat)⟩])
    else if kind = 1 then
      skN kind ls L (fstN ls L at') ++ (skN kind ls L (fstN ls L at' + 1) ++ (skN kind ls L (fstN ls L at' + 2) ++ [⟨(L + 1 : Nat), (at' : Nat), false, (loN ls (L + 1) at' : Nat), (loN ls (L + 1) (at' + 1) : Nat)⟩]))
    else
      skN kind ls L (fstN ls L at') ++ (skN kind ls L (fstN ls L at' + 1) ++ (⟨(L + 1 : Nat), (at' : Nat), true, (loN ls (L + 1) at' : Nat), (loN ls L (fstN ls L at' + 2) : Nat)⟩ :: (skN kind ls L (fstN ls L at' + 2) ++ [⟨(L + 1 : Nat), (at' : Nat), false, (loN ls (L + 1) at' : Nat), (loN ls (L + 1) (at' + 1) : Nat)⟩])))
theorem seg_cor (kind : Int) (ls : List (List Int)) : ∀ (L at' b : Nat), (seg kind ls L at' b).map cor = skN kind ls L at'
  | 0, at', b => rfl
  | L + 1, at', b => by
    simp only [seg, skN]
    split
    · simp only [List.map_append, upL_cor, seg_cor kind ls L, List.map_cons, List.map_nil]
      rfl
    · split
      · simp only [List.map_append, upL_cor, seg_cor kind ls L, List.map_cons, List.map_nil]
        rfl
      · simp only [List.map_append, upL_cor, seg_cor kind ls L, List.map_cons, List.map_nil]
        rfl
theorem sk_one (ls : List (List Int)) : ∀ (L at' : Nat), (skN 1 ls L at').filter (fun c => !c.rd) = skN 1 ls L at'
  | 0, at' => rfl
  | L + 1, at' => by
    simp only [skN]
    split
    · simp only [List.filter_append, sk_one ls L]
      rfl
    · simp only [if_true, List.filter_append, sk_one ls L]
      rfl
theorem sk_two (ls : List (List Int)) : ∀ (L at' : Nat), (skN 2 ls L at').filter (fun c => !c.rd) = skN 1 ls L at'
  | 0, at' => rfl
  | L + 1, at' => by
    simp only [skN]
    split
    · simp only [List.filter_append, sk_two ls L]
      rfl
    · rw [if_neg (by decide)]
      simp only [if_true, List.filter_append, List.filter_cons, sk_two ls L]
      rfl
/-- How many groups of three. -/
def thrN (ls : List (List Int)) : Nat → Nat → Nat
  | 0, _ => 0
  | L + 1, at' => if (ls.getD L []).getD at' 0 = 2 then thrN ls L (fstN ls L at') + thrN ls L (fstN ls L at' + 1) else thrN ls L (fstN ls L at') + thrN ls L (fstN ls L at' + 1) + thrN ls L (fstN ls L at' + 2) + 1
theorem sk_thr (ls : List (List Int)) : ∀ (L at' : Nat), ((skN 2 ls L at').filter (fun c => c.rd)).length = thrN ls L at'
  | 0, at' => rfl
  | L + 1, at' => by
    simp only [skN, thrN]
    split
    · simp only [List.filter_append, List.length_append, sk_thr ls L]
      rfl
    · rw [if_neg (by decide)]
      simp only [List.filter_append, List.filter_cons, List.length_append, List.length_cons, sk_thr ls L, if_true]
      simp
      omega
def c3 (l : List Int) : Nat := (l.filter (fun x => x == 3)).length
def sumTo (n : Nat) (g : Nat → Nat) : Nat := ((List.range n).map g).sum
theorem sumTo_zero (g : Nat → Nat) : sumTo 0 g = 0 := rfl
theorem sumTo_succ (n : Nat) (g : Nat → Nat) : sumTo (n + 1) g = sumTo n g + g n := by
  simp [sumTo, List.range_succ]
/-- The groups of a level, up to one, have just what stands below up to where it begins. -/
theorem part {n : Nat} {ls : List (List Int)} (h : Fit n ls) {L : Nat} (hL : L < ls.length) (k : Nat) (hk : k ≤ cntN n ls (L + 1)) :
    sumTo k (thrN ls (L + 1)) = sumTo (fstN ls L k) (thrN ls L) + c3 ((ls.getD L []).take k) := by
  induction k with
  | zero => simp [sumTo, fstN, frm, c3]
  | succ k ih =>
    have hk' : k < cntN n ls (L + 1) := by omega
    obtain ⟨x, hx, hx23, hx1, hx2⟩ := fit_step h hL hk'
    have hkl : k < (ls.getD L []).length := hk'
    have ht : (ls.getD L []).take (k + 1) = (ls.getD L []).take k ++ [(ls.getD L []).getD k 0] := by
      generalize ls.getD L [] = l at hkl
      rw [List.take_add_one, List.getElem?_eq_getElem hkl, List.getD_eq_getElem?_getD, List.getElem?_eq_getElem hkl]
      rfl
    have hc : c3 ((ls.getD L []).take (k + 1)) = c3 ((ls.getD L []).take k) + (if x = 3 then 1 else 0) := by
      rw [ht, hx]
      unfold c3
      rw [List.filter_append, List.length_append]
      rcases hx23 with rfl | rfl <;> rfl
    rw [sumTo_succ, ih (by omega), hx1, hc]
    unfold thrN
    rcases hx23 with rfl | rfl
    · rw [if_pos (show (ls.getD L []).getD k 0 = 2 from hx), show fstN ls L k + 2 = fstN ls L k + 1 + 1 from rfl, sumTo_succ, sumTo_succ, if_neg (by decide)]
      omega
    · rw [if_neg (by rw [hx]; decide), show fstN ls L k + 3 = fstN ls L k + 1 + 1 + 1 from rfl, sumTo_succ, sumTo_succ, sumTo_succ, if_pos rfl]
      omega
def c3s (ls : List (List Int)) (m : Nat) : Nat := ((ls.take m).map c3).sum
theorem c3s_succ {ls : List (List Int)} {m : Nat} (h : m < ls.length) : c3s ls (m + 1) = c3s ls m + c3 (ls.getD m []) := by
  unfold c3s
  have ht : ls.take (m + 1) = ls.take m ++ [ls.getD m []] := by
    rw [List.take_add_one, List.getElem?_eq_getElem h, List.getD_eq_getElem?_getD, List.getElem?_eq_getElem h]
    rfl
  rw [ht, List.map_append, List.sum_append, List.map_cons, List.map_nil, List.sum_cons, List.sum_nil, Nat.add_zero]
theorem thr_all {n : Nat} {ls : List (List Int)} (h : Fit n ls) : ∀ L, L ≤ ls.length → sumTo (cntN n ls L) (thrN ls L) = c3s ls L
  | 0, _ => by
    have : ∀ m, sumTo m (thrN ls 0) = 0 := fun m => by
      induction m with
      | zero => rfl
      | succ m ih => rw [sumTo_succ, ih]; rfl
    rw [this]
    rfl
  | L + 1, hL => by
    have h1 := thr_all h L (by omega)
    have hs := h.sum L hL
    have hf : fstN ls L (cntN n ls (L + 1)) = cntN n ls L := by
      unfold fstN frm
      rw [show cntN n ls (L + 1) = (ls.getD L []).length from rfl, List.take_length, hs]
      rfl
    rw [part h hL _ (Nat.le_refl _), hf, h1, c3s_succ hL, show cntN n ls (L + 1) = (ls.getD L []).length from rfl, List.take_length]
theorem thr_top {n : Nat} {ls : List (List Int)} (h : Fit n ls) (ht : cntN n ls ls.length = 1) : thrN ls ls.length 0 = c3s ls ls.length := by
  have := thr_all h ls.length (Nat.le_refl _)
  rw [ht, sumTo_succ, sumTo_zero, Nat.zero_add] at this
  exact this
theorem cnt_top {ids : List Int} {ls : List (List Int)} (hok : OkT ids ls) (hz : ¬ ids.length = 0) : cntN ids.length ls ls.length = 1 := by
  have hf := okLv_fit ls ids.length hok.2
  have h1 := cnt_pos hf (by omega) ls.length (Nat.le_refl _)
  have h2 := hf.top
  omega
theorem nodes_seg {kind : Int} {ids : List Int} {ls : List (List Int)} (hok : OkT ids ls) (hz : ¬ ids.length = 0) : nodesL kind ids ls = seg kind ls ls.length 0 0 := by
  unfold nodesL
  rw [if_neg hz, below_seg (okLv_fit ls ids.length hok.2) kind ls.length 0 [] (Nat.le_refl _) (by rw [cnt_top hok hz]; exact Nat.one_pos)]
  rfl
theorem kinds_cor {ids : List Int} {ls : List (List Int)} (hok : OkT ids ls) : ((nodesL 2 ids ls).filter (fun x => !x.rd)).map cor = (nodesL 1 ids ls).map cor := by
  have e : ∀ l : List Nd, (l.filter (fun x => !x.rd)).map cor = (l.map cor).filter (fun c => !c.rd) := fun l => by
    rw [List.filter_map]
    rfl
  rw [e]
  by_cases hz : ids.length = 0
  · unfold nodesL
    rw [if_pos hz, if_pos hz]
    rfl
  · rw [nodes_seg hok hz, nodes_seg hok hz, seg_cor, seg_cor, sk_two]
theorem kinds_thr {ids : List Int} {ls : List (List Int)} (hok : OkT ids ls) : ((nodesL 2 ids ls).filter (fun x => x.rd)).length = c3s ls ls.length := by
  have e : ∀ l : List Nd, (l.filter (fun x => x.rd)).length = ((l.map cor).filter (fun c => c.rd)).length := fun l => by
    rw [List.filter_map, List.length_map]
    rfl
  rw [e]
  by_cases hz : ids.length = 0
  · have h2 := hok.2
    rw [hz] at h2
    rw [okLv_zero h2]
    unfold nodesL
    rw [if_pos hz]
    rfl
  · rw [nodes_seg hok hz, seg_cor, sk_thr, thr_top (okLv_fit ls ids.length hok.2) (cnt_top hok hz)]
def redK (b : List Nd) (i : Nat) : Nat := ((b.take i).filter (fun x => x.rd)).length
def nonK (b : List Nd) (i : Nat) : Nat := ((b.take i).filter (fun x => !x.rd)).length
theorem take_snoc (b : List Nd) {i : Nat} (h : i < b.length) : b.take (i + 1) = b.take i ++ [b.getD i nd0] := by
  rw [List.take_add_one, List.getElem?_eq_getElem h, List.getD_eq_getElem?_getD, List.getElem?_eq_getElem h]
  rfl
theorem redK_step (b : List Nd) {i : Nat} (h : i < b.length) : redK b (i + 1) = redK b i + (if (b.getD i nd0).rd then 1 else 0) := by
  unfold redK
  rw [take_snoc b h, List.filter_append, List.length_append]
  generalize b.getD i nd0 = y
  rw [List.filter_cons]
  cases y.rd <;> rfl
theorem nonK_step (b : List Nd) {i : Nat} (h : i < b.length) : nonK b (i + 1) = nonK b i + (if (b.getD i nd0).rd then 0 else 1) := by
  unfold nonK
  rw [take_snoc b h, List.filter_append, List.length_append]
  generalize b.getD i nd0 = y
  rw [List.filter_cons]
  cases y.rd <;> rfl
theorem nonK_at {a b : List Nd} (hc : (b.filter (fun x => !x.rd)).map cor = a.map cor) {i : Nat} (h : i < b.length) (hr : (b.getD i nd0).rd = false) : nonK b i < a.length ∧ cor (a.getD (nonK b i) nd0) = cor (b.getD i nd0) := by
  have e : b = b.take i ++ (b.getD i nd0 :: b.drop (i + 1)) := by
    have := List.take_append_drop i b
    rw [List.drop_eq_getElem_cons h] at this
    rw [List.getD_eq_getElem?_getD, List.getElem?_eq_getElem h]
    exact this.symm
  have hf : b.filter (fun x => !x.rd) = (b.take i).filter (fun x => !x.rd) ++ (b.getD i nd0 :: (b.drop (i + 1)).filter (fun x => !x.rd)) := by
    have := congrArg (List.filter (fun x : Nd => !x.rd)) e
    rw [List.filter_append, List.filter_cons, hr] at this
    exact this
  have hk : (a.map cor)[nonK b i]? = some (cor (b.getD i nd0)) := by
    have hz : nonK b i = ((b.take i).filter (fun x => !x.rd)).length := rfl
    rw [← hc, hf, List.map_append, hz, List.getElem?_append_right (by rw [List.length_map]; exact Nat.le_refl _), List.length_map, Nat.sub_self]
    rfl
  have hlt : nonK b i < a.length := by
    have := (List.getElem?_eq_some_iff.1 hk).1
    rwa [List.length_map] at this
  refine ⟨hlt, ?_⟩
  rw [List.getElem?_map, List.getElem?_eq_getElem hlt] at hk
  rw [List.getD_eq_getElem?_getD, List.getElem?_eq_getElem hlt]
  exact Option.some.inj hk
theorem nonK_all {a b : List Nd} (hc : (b.filter (fun x => !x.rd)).map cor = a.map cor) : nonK b b.length = a.length := by
  unfold nonK
  rw [List.take_length, ← List.length_map (f := cor), hc, List.length_map]
theorem redK_le (b : List Nd) (i : Nat) : redK b i ≤ redK b b.length := by
  unfold redK
  rw [List.take_length]
  exact List.Sublist.length_le ((List.take_sublist i b).filter _)
theorem c3s_le {ids : List Int} {ls : List (List Int)} (hok : OkT ids ls) : (nodesL 2 ids ls).length ≤ 90000 := by
  unfold nodesL
  split
  · simp
  · have h := (below_length 2 ls ls.length 0 []).2
    have h9 : 3 ^ ls.length ≤ 3 ^ 9 := Nat.pow_le_pow_right (by decide) (lv_nine2 hok)
    simp only [List.length_nil] at h
    omega
def leftK (b : List Nd) (i : Nat) : Nat := redK b b.length - redK b i
theorem leftK_zero {ids : List Int} {ls : List (List Int)} (hok : OkT ids ls) : leftK (nodesL 2 ids ls) 0 = c3s ls ls.length := by
  unfold leftK redK
  rw [List.take_length, kinds_thr hok]
  rfl
theorem leftK_red {b : List Nd} {i : Nat} (h : i < b.length) (hr : (b.getD i nd0).rd = true) : leftK b i = leftK b (i + 1) + 1 := by
  have h1 := redK_step b h
  have h2 := redK_le b (i + 1)
  rw [hr, if_pos rfl] at h1
  unfold leftK
  omega
theorem leftK_non {b : List Nd} {i : Nat} (h : i < b.length) (hr : (b.getD i nd0).rd = false) : leftK b (i + 1) = leftK b i := by
  have h1 := redK_step b h
  rw [hr] at h1
  unfold leftK
  rw [h1]
  rfl
theorem leftK_end (b : List Nd) : leftK b b.length = 0 := Nat.sub_self _
theorem nonK_le (b : List Nd) (i : Nat) : nonK b i ≤ i := Nat.le_trans (List.length_filter_le _ _) (by rw [List.length_take]; exact Nat.min_le_left _ _)
theorem leftK_le (b : List Nd) (i : Nat) : leftK b i ≤ b.length := by
  have h4 := List.length_filter_le (fun x : Nd => x.rd) b
  unfold leftK redK
  rw [List.take_length]
  omega
theorem c3s_mono {ls : List (List Int)} (m : Nat) : ∀ d, m + d ≤ ls.length → c3s ls m ≤ c3s ls (m + d)
  | 0, _ => Nat.le_refl _
  | d + 1, h => by
    have h1 := c3s_mono (ls := ls) m d (by omega)
    have h2 := c3s_succ (ls := ls) (m := m + d) (by omega)
    rw [← Nat.add_assoc, h2]
    omega
theorem c3_take_le (l : List Int) (j : Nat) : c3 (l.take j) ≤ c3 l := List.Sublist.length_le ((List.take_sublist j l).filter _)
theorem c3s_few {ids : List Int} {ls : List (List Int)} (hok : OkT ids ls) {m : Nat} (h : m < ls.length) (j : Nat) : c3s ls m + c3 ((ls.getD m []).take j) ≤ 90000 := by
  have h1 := c3_take_le (ls.getD m []) j
  have h2 := c3s_succ h
  have h3 := c3s_mono (ls := ls) (m + 1) (ls.length - (m + 1)) (by omega)
  rw [show m + 1 + (ls.length - (m + 1)) = ls.length by omega, ← kinds_thr hok] at h3
  have h4 := List.length_filter_le (fun x : Nd => x.rd) (nodesL 2 ids ls)
  have h5 := c3s_le hok
  omega
theorem c3s_few2 {ids : List Int} {ls : List (List Int)} (hok : OkT ids ls) {m : Nat} (h : m ≤ ls.length) : c3s ls m ≤ 90000 := by
  have h3 := c3s_mono (ls := ls) m (ls.length - m) (by omega)
  rw [show m + (ls.length - m) = ls.length by omega, ← kinds_thr hok] at h3
  have h4 := List.length_filter_le (fun x : Nd => x.rd) (nodesL 2 ids ls)
  have h5 := c3s_le hok
  omega
theorem c3_take {l : List Int} {j : Nat} (h : j < l.length) : c3 (l.take (j + 1)) = c3 (l.take j) + (if l.getD j 0 = 3 then 1 else 0) := by
  have ht : l.take (j + 1) = l.take j ++ [l.getD j 0] := by
    rw [List.take_add_one, List.getElem?_eq_getElem h, List.getD_eq_getElem?_getD, List.getElem?_eq_getElem h]
    rfl
  rw [ht]
  unfold c3
  rw [List.filter_append, List.length_append]
  congr 1
  generalize l.getD j 0 = y
  by_cases e : y = 3
  · rw [if_pos e, e]
    rfl
  · rw [if_neg e]
    simp [e]
theorem nd_info3 (x : Nd) (kv : Value) : (Tryd.prog.info? 68).map (·.size) = some (ndR x kv).length := by kernel_rfl
theorem may_two {ids : List Int} {ls : List (List Int)} (kind : Int) (h : kind = 1 ∨ kind = 2) : mayE kind ids ls = chkT ids ls := if_pos h
theorem OwnN.rngA {w : World} {base : Nat} {v : Value} {ps : List (Nd × Value)} (h : OwnN w base v ps) {i : Nat} (hi : i < ps.length) :
    ∃ g cap, v = .slice (some ⟨g, 0, none⟩) ps.length cap ∧ g < w.heap.size ∧ ∀ wx, Aft w wx → wx.rangeAt g (i * 7) (ndR (ps.getD i ndP).1 (ps.getD i ndP).2) := by
  obtain ⟨g, cap, hv, hg, hc⟩ := h.atA hi
  exact ⟨g, cap, hv, hg, fun wx hx j u hu => hc wx hx j u hu⟩
theorem OwnN.kidv {w : World} {base : Nat} {v : Value} {ps : List (Nd × Value)} (h : OwnN w base v ps) {i : Nat} (hi : i < ps.length) : ∃ a c, (ps.getD i ndP).2 = .slice a (ps.getD i ndP).1.ks.length c :=
  (h.own _ (by rw [List.getD_eq_getElem?_getD, List.getElem?_eq_getElem hi]; exact List.getElem_mem hi)).shape
end Go.Proofs.YtdbhlajajdlmfaaDoor
/- Each node has just what is below it: the plain law of RedSpans. -/
namespace Go.Proofs.YtdbhlajajdlmfaaDoor
open Go Go.RowKit
/-- Nodes one behind another: from where to where. -/
def ChainN (N : List Nd) : Int → List Nat → Int → Prop
  | a, [], t => a = t
  | a, k :: ks, t => (N.getD k nd0).fr = a ∧ ChainN N (N.getD k nd0).tt ks t
def GoodN (n : Nat) (ls : List (List Int)) (N : List Nd) (x : Nd) : Prop :=
  (∃ at' : Nat, at' < n ∧ x.lv = 0 ∧ x.ks = [] ∧ x.ix = (at' : Int) ∧ x.fr = (at' : Int) ∧ x.tt = (at' : Int) + 1) ∨
  (∃ (L at' : Nat) (ks : List Nat), x.lv = ((L + 1 : Nat) : Int) ∧ x.ix = (at' : Int) ∧ x.ks = kz ks ∧ 0 < ks.length ∧ (∀ k ∈ ks, k < N.length) ∧ ChainN N x.fr ks x.tt ∧ (x.rd = false → L < ls.length ∧ at' < cntN n ls (L + 1) ∧ x.fr = (loN ls (L + 1) at' : Nat) ∧ x.tt = (loN ls (L + 1) (at' + 1) : Nat)))
def Emb (N : List Nd) (b : Nat) (S : List Cor) : Prop := b + S.length ≤ N.length ∧ ∀ i, i < S.length → some (cor (N.getD (b + i) nd0)) = S[i]?
theorem Emb.left {N : List Nd} {b : Nat} {S T : List Cor} (h : Emb N b (S ++ T)) : Emb N b S := by
  refine ⟨by have := h.1; rw [List.length_append] at this; omega, fun i hi => ?_⟩
  rw [h.2 i (by rw [List.length_append]; omega), List.getElem?_append_left hi]
theorem Emb.right {N : List Nd} {b : Nat} {S T : List Cor} (h : Emb N b (S ++ T)) : Emb N (b + S.length) T := by
  refine ⟨by have := h.1; rw [List.length_append] at this; omega, fun i hi => ?_⟩
  rw [Nat.add_assoc, h.2 (S.length + i) (by rw [List.length_append]; omega), List.getElem?_append_right (by omega), Nat.add_sub_cancel_left]
theorem Emb.last {N : List Nd} {b : Nat} {A : List Nd} (h : Emb N b (A.map cor)) (hA : 0 < A.length) : b + A.length - 1 < N.length ∧ cor (N.getD (b + A.length - 1) nd0) = cor (lastN A) := by
  have h1 := h.1
  rw [List.length_map] at h1
  refine ⟨by omega, ?_⟩
  have h2 := h.2 (A.length - 1) (by rw [List.length_map]; omega)
  rw [List.getElem?_map, List.getElem?_eq_getElem (by omega), show b + (A.length - 1) = b + A.length - 1 by omega] at h2
  unfold lastN
  rw [List.getD_eq_getElem?_getD (l := A), List.getElem?_eq_getElem (by omega)]
  exact Option.some.inj h2
theorem GoodN.up {n : Nat} {ls : List (List Int)} {N : List Nd} {x : Nd} (h : GoodN n ls N x) (u : Int) : GoodN n ls N { x with up := u } := h
theorem good_upL {n : Nat} {ls : List (List Int)} {N A : List Nd} {u : Int} (h : ∀ x ∈ A, GoodN n ls N x) : ∀ x ∈ upL A u, GoodN n ls N x := by
  intro x hx
  unfold upL at hx
  rcases List.mem_or_eq_of_mem_set hx with hx | rfl
  · exact h x hx
  · by_cases hz : A.length = 0
    · rw [List.eq_nil_of_length_eq_zero hz] at hx
      simp at hx
    · refine GoodN.up (h _ ?_) u
      rw [List.getD_eq_getElem?_getD, List.getElem?_eq_getElem (by omega)]
      exact List.getElem_mem _
theorem seg_good {n : Nat} {ls : List (List Int)} (h : Fit n ls) (kind : Int) (N : List Nd) : ∀ (L at' b : Nat), L ≤ ls.length → at' < cntN n ls L → Emb N b ((seg kind ls L at' b).map cor) → ∀ x ∈ seg kind ls L at' b, GoodN n ls N x
  | 0, at', b, _, ha, _ => fun x hx => by
    simp only [seg, List.mem_singleton] at hx
    subst hx
    exact .inl ⟨at', ha, rfl, rfl, rfl, rfl, rfl⟩
  | L + 1, at', b, hL, ha, he => by
    obtain ⟨x, hx, hx23, hx1, hx2⟩ := fit_step h hL ha
    have hA := seg_pos kind ls L (fstN ls L at') b
    have hB := seg_pos kind ls L (fstN ls L at' + 1) (b + (seg kind ls L (fstN ls L at') b).length)
    have lA := seg_last kind ls L (fstN ls L at') b
    have lB := seg_last kind ls L (fstN ls L at' + 1) (b + (seg kind ls L (fstN ls L at') b).length)
    have gA := seg_good h kind N L (fstN ls L at') b (by omega) (by omega)
    have gB := seg_good h kind N L (fstN ls L at' + 1) (b + (seg kind ls L (fstN ls L at') b).length) (by omega) (by omega)
    have hlo : loN ls (L + 1) at' = loN ls L (fstN ls L at') := rfl
    have hhi : loN ls (L + 1) (at' + 1) = loN ls L (fstN ls L at' + x) := by rw [← hx1]; rfl
    by_cases h2 : (ls.getD L []).getD at' 0 = 2
    · have hx' : x = 2 := by omega
      subst hx'
      simp only [seg] at he ⊢
      rw [if_pos h2] at he ⊢
      generalize seg kind ls L (fstN ls L at') b = A at *
      generalize seg kind ls L (fstN ls L at' + 1) (b + A.length) = B at *
      simp only [List.map_append, upL_cor] at he
      have eA := he.left
      have eB := he.right.left
      rw [List.length_map] at eB
      have kA := eA.last hA
      have kB := eB.last hB
      intro y hy
      simp only [List.mem_append, List.mem_singleton] at hy
      rcases hy with hy | hy | rfl
      · exact good_upL (gA eA) y hy
      · exact good_upL (gB eB) y hy
      · refine .inr ⟨L, at', _, rfl, rfl, rfl, Nat.succ_pos _, ?_, ?_, fun _ => ⟨hL, ha, rfl, rfl⟩⟩
        · intro k hk
          simp only [List.mem_cons, List.not_mem_nil, or_false] at hk
          rcases hk with rfl | rfl
          · exact kA.1
          · exact kB.1
        · refine ⟨?_, ?_, ?_⟩
          · exact (congrArg Cor.fr kA.2).trans (lA.1.trans (by rw [← hlo]; rfl))
          · exact (congrArg Cor.fr kB.2).trans (lB.1.trans ((congrArg Cor.tt kA.2).trans lA.2).symm)
          · exact (congrArg Cor.tt kB.2).trans (lB.2.trans (by rw [show fstN ls L at' + 1 + 1 = fstN ls L at' + 2 from rfl, ← hhi]; rfl))
    · have hx' : x = 3 := by omega
      subst hx'
      by_cases hk : kind = 1
      · have hC := seg_pos kind ls L (fstN ls L at' + 2) (b + (seg kind ls L (fstN ls L at') b).length + (seg kind ls L (fstN ls L at' + 1) (b + (seg kind ls L (fstN ls L at') b).length)).length)
        have lC := seg_last kind ls L (fstN ls L at' + 2) (b + (seg kind ls L (fstN ls L at') b).length + (seg kind ls L (fstN ls L at' + 1) (b + (seg kind ls L (fstN ls L at') b).length)).length)
        have gC := seg_good h kind N L (fstN ls L at' + 2) (b + (seg kind ls L (fstN ls L at') b).length + (seg kind ls L (fstN ls L at' + 1) (b + (seg kind ls L (fstN ls L at') b).length)).length) (by omega) (by omega)
        simp only [seg] at he ⊢
        rw [if_neg h2, if_pos hk] at he ⊢
        generalize seg kind ls L (fstN ls L at') b = A at *
        generalize seg kind ls L (fstN ls L at' + 1) (b + A.length) = B at *
        generalize seg kind ls L (fstN ls L at' + 2) (b + A.length + B.length) = C at *
        simp only [List.map_append, upL_cor] at he
        have eA := he.left
        have eB := he.right.left
        have eC := he.right.right.left
        rw [List.length_map] at eB
        rw [List.length_map, List.length_map] at eC
        have kA := eA.last hA
        have kB := eB.last hB
        have kC := eC.last hC
        intro y hy
        simp only [List.mem_append, List.mem_singleton] at hy
        rcases hy with hy | hy | hy | rfl
        · exact good_upL (gA eA) y hy
        · exact good_upL (gB eB) y hy
        · exact good_upL (gC eC) y hy
        · refine .inr ⟨L, at', _, rfl, rfl, rfl, Nat.succ_pos _, ?_, ?_, fun _ => ⟨hL, ha, rfl, rfl⟩⟩
          · intro k hk
            simp only [List.mem_cons, List.not_mem_nil, or_false] at hk
            rcases hk with rfl | rfl | rfl
            · exact kA.1
            · exact kB.1
            · exact kC.1
          · refine ⟨?_, ?_, ?_, ?_⟩
            · exact (congrArg Cor.fr kA.2).trans (lA.1.trans (by rw [← hlo]; rfl))
            · exact (congrArg Cor.fr kB.2).trans (lB.1.trans ((congrArg Cor.tt kA.2).trans lA.2).symm)
            · exact (congrArg Cor.fr kC.2).trans (lC.1.trans ((congrArg Cor.tt kB.2).trans lB.2).symm)
            · exact (congrArg Cor.tt kC.2).trans (lC.2.trans (by rw [show fstN ls L at' + 2 + 1 = fstN ls L at' + 3 from rfl, ← hhi]; rfl))
      · have hC := seg_pos kind ls L (fstN ls L at' + 2) (b + (seg kind ls L (fstN ls L at') b).length + (seg kind ls L (fstN ls L at' + 1) (b + (seg kind ls L (fstN ls L at') b).length)).length + 1)
        have lC := seg_last kind ls L (fstN ls L at' + 2) (b + (seg kind ls L (fstN ls L at') b).length + (seg kind ls L (fstN ls L at' + 1) (b + (seg kind ls L (fstN ls L at') b).length)).length + 1)
        have gC := seg_good h kind N L (fstN ls L at' + 2) (b + (seg kind ls L (fstN ls L at') b).length + (seg kind ls L (fstN ls L at' + 1) (b + (seg kind ls L (fstN ls L at') b).length)).length + 1) (by omega) (by omega)
        rw [seg_red h2 hk] at he ⊢
        simp only [] at he ⊢
        generalize seg kind ls L (fstN ls L at') b = A at *
        generalize seg kind ls L (fstN ls L at' + 1) (b + A.length) = B at *
        generalize seg kind ls L (fstN ls L at' + 2) (b + A.length + B.length + 1) = C at *
        simp only [List.map_append, List.map_cons, upL_cor] at he
        have eA := he.left
        have eB := he.right.left
        have eR := he.right.right
        rw [List.length_map] at eB
        rw [List.length_map, List.length_map] at eR
        have eR1 := Emb.left (S := [_]) eR
        have eC := (Emb.right (S := [_]) eR).left
        have kA := eA.last hA
        have kB := eB.last hB
        have kC := eC.last hC
        have kR := eR1.2 0 (Nat.succ_pos _)
        have kR1 := eR1.1
        intro y hy
        simp only [List.mem_append, List.mem_cons, List.not_mem_nil, or_false] at hy
        rcases hy with hy | hy | rfl | hy | rfl
        · exact good_upL (gA eA) y hy
        · exact good_upL (gB eB) y hy
        · refine .inr ⟨L, at', [b + A.length - 1, b + A.length + B.length - 1], rfl, rfl, rfl, Nat.succ_pos _, ?_, ?_, fun q => absurd q (by simp [ndN])⟩
          · intro k hk
            simp only [List.mem_cons, List.not_mem_nil, or_false] at hk
            rcases hk with rfl | rfl
            · exact kA.1
            · exact kB.1
          · refine ⟨?_, ?_, ?_⟩
            · exact (congrArg Cor.fr kA.2).trans (lA.1.trans (by rw [← hlo]; rfl))
            · exact (congrArg Cor.fr kB.2).trans (lB.1.trans ((congrArg Cor.tt kA.2).trans lA.2).symm)
            · exact (congrArg Cor.tt kB.2).trans lB.2
        · exact good_upL (gC eC) y hy
        · have kR2 := Option.some.inj kR
          rw [Nat.add_zero] at kR2
          refine .inr ⟨L, at', _, rfl, rfl, rfl, Nat.succ_pos _, ?_, ?_, fun _ => ⟨hL, ha, rfl, rfl⟩⟩
          · intro k hk
            simp only [List.mem_cons, List.not_mem_nil, or_false] at hk
            rcases hk with rfl | rfl
            · exact kR1
            · exact kC.1
          · refine ⟨?_, ?_, ?_⟩
            · exact (congrArg Cor.fr kR2).trans rfl
            · exact (congrArg Cor.fr kC.2).trans (lC.1.trans (congrArg Cor.tt kR2).symm)
            · exact (congrArg Cor.tt kC.2).trans (lC.2.trans (by rw [show fstN ls L at' + 2 + 1 = fstN ls L at' + 3 from rfl, ← hhi]; rfl))
theorem getD_some {l : List Nd} {i : Nat} (h : i < l.length) : l[i]? = some (l.getD i nd0) := by
  rw [List.getD_eq_getElem?_getD, List.getElem?_eq_getElem h]
  rfl
theorem nodes_good {kind : Int} {ids : List Int} {ls : List (List Int)} (hok : OkT ids ls) {i : Nat} (hi : i < (nodesL kind ids ls).length) : GoodN ids.length ls (nodesL kind ids ls) ((nodesL kind ids ls).getD i nd0) := by
  by_cases hz : ids.length = 0
  · unfold nodesL at hi
    rw [if_pos hz] at hi
    simp at hi
  · have he := nodes_seg (kind := kind) hok hz
    rw [he] at hi ⊢
    refine seg_good (okLv_fit ls ids.length hok.2) kind _ ls.length 0 0 (Nat.le_refl _) (by rw [cnt_top hok hz]; exact Nat.one_pos) ⟨by rw [List.length_map]; omega, fun j hj => ?_⟩ _ ?_
    · rw [List.length_map] at hj
      rw [Nat.zero_add, List.getElem?_map, getD_some hj]
      rfl
    · rw [List.getD_eq_getElem?_getD, List.getElem?_eq_getElem hi]
      exact List.getElem_mem hi
/-- Where groups begin, as the program tells it. -/
theorem span_lo {n : Nat} {ls : List (List Int)} (h : Fit n ls) : ∀ L, L ≤ ls.length → (((ls.take L).foldl (fun f l => spF l f) (ones n)).length = cntN n ls L + 1 ∧ ∀ at', at' ≤ cntN n ls L → ((ls.take L).foldl (fun f l => spF l f) (ones n)).getD at' 0 = (loN ls L at' : Nat))
  | 0, _ => by
    refine ⟨by simp [ones, cntN], fun at' ha => ?_⟩
    have ha' : at' ≤ n := ha
    simp only [List.take_zero, List.foldl_nil, ones, loN]
    rw [List.getD_eq_getElem?_getD, List.getElem?_map, List.getElem?_range (by omega)]
    rfl
  | L + 1, hL => by
    obtain ⟨h1, h2⟩ := span_lo h L (by omega)
    have hLl : L < ls.length := hL
    have ht : ls.take (L + 1) = ls.take L ++ [ls.getD L []] := by
      rw [List.take_add_one, List.getElem?_eq_getElem hLl, List.getD_eq_getElem?_getD, List.getElem?_eq_getElem hLl]
      rfl
    rw [ht, List.foldl_append, List.foldl_cons, List.foldl_nil]
    refine ⟨spF_length _ _, fun at' ha => ?_⟩
    have hle : fstN ls L at' ≤ cntN n ls L := by
      have h3 := frm_leN _ (h.tt L) at'
      have h4 := frm_nonnegN _ (h.tt L) at'
      rw [h.sum L hLl] at h3
      unfold fstN
      omega
    rw [spF_at ha]
    exact h2 _ hle
theorem span_at {ids : List Int} {ls : List (List Int)} (hok : OkT ids ls) {L at' : Nat} (hL : L < ls.length) (ha : at' < cntN ids.length ls (L + 1)) :
    spanE ids ls (L : Int) = 0 ∧ (spanV ids ls (L : Int)).length = cntN ids.length ls (L + 1) + 1 ∧ (spanV ids ls (L : Int)).getD at' 0 = (loN ls (L + 1) at' : Nat) ∧ (spanV ids ls (L : Int)).getD (at' + 1) 0 = (loN ls (L + 1) (at' + 1) : Nat) := by
  have h0 : spanE ids ls (L : Int) = 0 := by
    unfold spanE
    rw [if_neg]
    rintro (q | q | q)
    · exact q hok
    · omega
    · omega
  have hv : spanV ids ls (L : Int) = (ls.take (L + 1)).foldl (fun f l => spF l f) (ones ids.length) := by
    unfold spanV
    rw [if_pos h0]
    rfl
  obtain ⟨h1, h2⟩ := span_lo (okLv_fit ls ids.length hok.2) (L + 1) hL
  rw [hv]
  exact ⟨h0, h1, h2 at' (by omega), h2 (at' + 1) (by omega)⟩
end Go.Proofs.YtdbhlajajdlmfaaDoor
/- slices.Equal, SameInts: lists of any length. -/
namespace Go.Proofs.YtdbhlajajdlmfaaDoor
open Go Go.RowKit
set_option linter.unusedSimpArgs false
set_option maxRecDepth 100000 in
set_option maxHeartbeats 1000000 in
theorem equalW_any (v u : Value) (xs ys : List Int) (w : World) (hx : Rd w v (zv xs)) (hy : Rd w u (zv ys)) (hl : xs.length ≤ 9223372036854775807) :
    Calls Tryd.prog 80 #[v, u] w fun e w' => e = .returned (.bool (decide (xs = ys))) ∧ Aft w w' := by
  obtain ⟨ao, cap, rfl, -, -⟩ := hx.numS
  obtain ⟨bo, dap, rfl, -, -⟩ := hy.numS
  have HX := Lib.hid (fun (wx : World) (ha : Aft w wx) => hx.grow ha)
  have HY := Lib.hid (fun (wx : World) (ha : Aft w wx) => hy.grow ha)
  obtain ⟨bq, hbq⟩ : ∃ bq, bq = decide (xs = ys) := ⟨_, rfl⟩
  have HB := Lib.hid hbq
  rw [← hbq]
  clear hx hy hbq
  go_enter Tryd.func80, Tryd.ntmps80
  by_cases hlen : xs.length = ys.length
  rotate_left
  · have HR := Lib.hid (show bq = false by rw [HB.out]; exact decide_eq_false (fun q => hlen (by rw [q])))
    rw [HR.out]
    have hlen' : ¬ ((xs.length : Nat) : Int) = (ys.length : Nat) := by omega
    go_wp2_with fail
    go_ret
    exact ⟨rfl, Aft.refl _⟩
  have HLn := Lib.hid hlen
  rw [← hlen]
  clear hlen
  go_wp2_with fail
  go_loopw [13] (fun v13 wr => ∃ i : Nat, i ≤ xs.length ∧ v13 = .int .i64 (i : Int) ∧ (∀ j, j < i → xs[j]? = ys[j]?) ∧ Aft w wr) (fun v _ => xs.length - (intOf v).toNat)
  case atStart => exact ⟨0, by omega, rfl, fun j hj => absurd hj (Nat.not_lt_zero _), Aft.refl _⟩
  case round =>
    obtain ⟨i, hi, rfl, hsm, hA⟩ := hrel
    have HA := Lib.hid hA
    have HSm := Lib.hid hsm
    clear hA hsm
    by_cases hlt : i < xs.length
    · have hlt' : (i : Int) < (xs.length : Nat) := by omega
      have hylt : i < ys.length := by rw [← HLn.out]; exact hlt
      obtain ⟨b1, o1, rfl, -, -⟩ := (HX.out _ HA.out).some_of (by rw [zv_length]; omega)
      obtain ⟨b2, o2, rfl, -, -⟩ := (HY.out _ HA.out).some_of (by rw [zv_length]; omega)
      have cx := fun u : Later wr.heap.size wr => (HX.out _ (Aft.trans HA.out u.h)).num_at hlt
      have hy0 := HY.out
      have cy := fun u : Later wr.heap.size wr => (hy0 _ (Aft.trans HA.out u.h)).num_at hylt
      have HXe := Lib.hid (show xs[i]? = some (xs.getD i 0) by rw [List.getD_eq_getElem?_getD, List.getElem?_eq_getElem hlt]; rfl)
      have HYe := Lib.hid (show ys[i]? = some (ys.getD i 0) by rw [List.getD_eq_getElem?_getD, List.getElem?_eq_getElem hylt]; rfl)
      generalize xs.getD i 0 = x at *
      generalize ys.getD i 0 = y at *
      clear hylt hy0
      have HDr := Lib.hid (Aft.trans HA.out (show Aft wr wr.drew from (Below.refl _ _).drew))
      by_cases hxy : x = y
      · subst hxy
        go_wp2_with (first | (refine wp_region_lex (fun wz => ∃ u : Later wr.heap.size wr, wz = u.w) (fun i => ([] : List Nat).contains i) 9 (by kernel_rfl) (by kernel_rfl) ⟨⟨wr.drew, (Below.refl _ _).drew⟩, rfl⟩ ?_))
        change wpLx _ _ _ _ _ _ _ _ _ wr.drew
        try simp only [Act.put]
        repeat (first | (refine lx_skipT (by go_big_quiet_skip; exact wpQuiet_nil trivial) (by kernel_rfl) ?_; simp only [Act.put, List.setIfInBounds_toArray, List.set_cons_succ, List.set_cons_zero]) | (refine lx_quietT rfl (by go_big_quiet_want; exact quiet_false (by assumption)) (by kernel_rfl) rfl ?_; intro Kx hKx; go_big_quiet_op; go_big_quiet_on))
        refine lx_done ?_
        go_wp2_with fail
        go_roundw
        case rel =>
          refine ⟨i + 1, by omega, by go_num, fun j hj => ?_, HDr.out⟩
          by_cases hji : j = i
          · subst hji
            rw [HXe.out, HYe.out]
          · exact HSm.out j (by omega)
        case measure => simp [intOf]; omega
      · have HR2 := Lib.hid (show bq = false by
          rw [HB.out]
          exact decide_eq_false (fun e => hxy (by have := HXe.out; rw [e, HYe.out] at this; exact (Option.some.inj this).symm)))
        have hxb : (x != y) = true := by simpa using hxy
        go_wp2_with (first | (refine wp_region_lex (fun wz => ∃ u : Later wr.heap.size wr, wz = u.w) (fun i => ([] : List Nat).contains i) 9 (by kernel_rfl) (by kernel_rfl) ⟨⟨wr.drew, (Below.refl _ _).drew⟩, rfl⟩ ?_))
        change wpLx _ _ _ _ _ _ _ _ _ wr.drew
        try simp only [Act.put]
        repeat (first | (refine lx_skipT (by go_big_quiet_skip; exact wpQuiet_nil trivial) (by kernel_rfl) ?_; simp only [Act.put, List.setIfInBounds_toArray, List.set_cons_succ, List.set_cons_zero]) | (refine lx_quietT rfl (by go_big_quiet_want; exact quiet_false (by assumption)) (by kernel_rfl) rfl ?_; intro Kx hKx; go_big_quiet_op; go_big_quiet_on))
        refine lx_done ?_
        go_wp2_with fail
        go_ret
        exact ⟨by rw [HR2.out]; rfl, HDr.out⟩
    · obtain rfl : i = xs.length := by omega
      have hlt' : ¬ ((xs.length : Nat) : Int) < (xs.length : Nat) := by omega
      have HR2 := Lib.hid (show bq = true by
        rw [HB.out, decide_eq_true_eq]
        exact List.ext_getElem? fun j => by
          by_cases hj : j < xs.length
          · exact HSm.out j hj
          · rw [List.getElem?_eq_none (by omega), List.getElem?_eq_none (by have := HLn.out; omega)])
      go_wp2_with fail
      go_ret
      exact ⟨by rw [HR2.out]; rfl, HA.out⟩
set_option maxRecDepth 100000 in
set_option maxHeartbeats 1000000 in
theorem sameIntsW_any (v u : Value) (xs ys : List Int) (w : World) (hx : Rd w v (zv xs)) (hy : Rd w u (zv ys)) (hl : xs.length ≤ 9223372036854775807) :
    Calls Tryd.prog 82 #[v, u] w fun e w' => e = .returned (.bool (decide (xs = ys))) ∧ Aft w w' := by
  obtain ⟨ao, cap, rfl, -, -⟩ := hx.numS
  obtain ⟨bo, dap, rfl, -, -⟩ := hy.numS
  have HX := Lib.hid (fun (wx : World) (ha : Aft w wx) => hx.grow ha)
  have HY := Lib.hid (fun (wx : World) (ha : Aft w wx) => hy.grow ha)
  obtain ⟨bq, hbq⟩ : ∃ bq, bq = decide (xs = ys) := ⟨_, rfl⟩
  have HB := Lib.hid hbq
  rw [← hbq]
  clear hx hy hbq
  go_enter Tryd.func82, Tryd.ntmps82
  by_cases hlen : xs.length = ys.length
  rotate_left
  · have HR := Lib.hid (show bq = false by rw [HB.out]; exact decide_eq_false (fun q => hlen (by rw [q])))
    rw [HR.out]
    have hlen' : ¬ ((xs.length : Nat) : Int) = (ys.length : Nat) := by omega
    go_wp2_with fail
    go_ret
    exact ⟨rfl, Aft.refl _⟩
  have HLn := Lib.hid hlen
  rw [← hlen]
  clear hlen
  go_wp2_with fail
  go_loopw [13] (fun v13 wr => ∃ i : Nat, i ≤ xs.length ∧ v13 = .int .i64 (i : Int) ∧ (∀ j, j < i → xs[j]? = ys[j]?) ∧ Aft w wr) (fun v _ => xs.length - (intOf v).toNat)
  case atStart => exact ⟨0, by omega, rfl, fun j hj => absurd hj (Nat.not_lt_zero _), Aft.refl _⟩
  case round =>
    obtain ⟨i, hi, rfl, hsm, hA⟩ := hrel
    have HA := Lib.hid hA
    have HSm := Lib.hid hsm
    clear hA hsm
    by_cases hlt : i < xs.length
    · have hlt' : (i : Int) < (xs.length : Nat) := by omega
      have hylt : i < ys.length := by rw [← HLn.out]; exact hlt
      obtain ⟨b1, o1, rfl, -, -⟩ := (HX.out _ HA.out).some_of (by rw [zv_length]; omega)
      obtain ⟨b2, o2, rfl, -, -⟩ := (HY.out _ HA.out).some_of (by rw [zv_length]; omega)
      have cx := fun u : Later wr.heap.size wr => (HX.out _ (Aft.trans HA.out u.h)).num_at hlt
      have hy0 := HY.out
      have cy := fun u : Later wr.heap.size wr => (hy0 _ (Aft.trans HA.out u.h)).num_at hylt
      have HXe := Lib.hid (show xs[i]? = some (xs.getD i 0) by rw [List.getD_eq_getElem?_getD, List.getElem?_eq_getElem hlt]; rfl)
      have HYe := Lib.hid (show ys[i]? = some (ys.getD i 0) by rw [List.getD_eq_getElem?_getD, List.getElem?_eq_getElem hylt]; rfl)
      generalize xs.getD i 0 = x at *
      generalize ys.getD i 0 = y at *
      clear hylt hy0
      have HDr := Lib.hid (Aft.trans HA.out (show Aft wr wr.drew from (Below.refl _ _).drew))
      by_cases hxy : x = y
      · subst hxy
        go_wp2_with (first | (refine wp_region_lex (fun wz => ∃ u : Later wr.heap.size wr, wz = u.w) (fun i => ([] : List Nat).contains i) 9 (by kernel_rfl) (by kernel_rfl) ⟨⟨wr.drew, (Below.refl _ _).drew⟩, rfl⟩ ?_))
        change wpLx _ _ _ _ _ _ _ _ _ wr.drew
        try simp only [Act.put]
        repeat (first | (refine lx_skipT (by go_big_quiet_skip; exact wpQuiet_nil trivial) (by kernel_rfl) ?_; simp only [Act.put, List.setIfInBounds_toArray, List.set_cons_succ, List.set_cons_zero]) | (refine lx_quietT rfl (by go_big_quiet_want; exact quiet_false (by assumption)) (by kernel_rfl) rfl ?_; intro Kx hKx; go_big_quiet_op; go_big_quiet_on))
        refine lx_done ?_
        go_wp2_with fail
        go_roundw
        case rel =>
          refine ⟨i + 1, by omega, by go_num, fun j hj => ?_, HDr.out⟩
          by_cases hji : j = i
          · subst hji
            rw [HXe.out, HYe.out]
          · exact HSm.out j (by omega)
        case measure => simp [intOf]; omega
      · have HR2 := Lib.hid (show bq = false by
          rw [HB.out]
          exact decide_eq_false (fun e => hxy (by have := HXe.out; rw [e, HYe.out] at this; exact (Option.some.inj this).symm)))
        have hxb : (x != y) = true := by simpa using hxy
        go_wp2_with (first | (refine wp_region_lex (fun wz => ∃ u : Later wr.heap.size wr, wz = u.w) (fun i => ([] : List Nat).contains i) 9 (by kernel_rfl) (by kernel_rfl) ⟨⟨wr.drew, (Below.refl _ _).drew⟩, rfl⟩ ?_))
        change wpLx _ _ _ _ _ _ _ _ _ wr.drew
        try simp only [Act.put]
        repeat (first | (refine lx_skipT (by go_big_quiet_skip; exact wpQuiet_nil trivial) (by kernel_rfl) ?_; simp only [Act.put, List.setIfInBounds_toArray, List.set_cons_succ, List.set_cons_zero]) | (refine lx_quietT rfl (by go_big_quiet_want; exact quiet_false (by assumption)) (by kernel_rfl) rfl ?_; intro Kx hKx; go_big_quiet_op; go_big_quiet_on))
        refine lx_done ?_
        go_wp2_with fail
        go_ret
        exact ⟨by rw [HR2.out]; rfl, HDr.out⟩
    · obtain rfl : i = xs.length := by omega
      have hlt' : ¬ ((xs.length : Nat) : Int) < (xs.length : Nat) := by omega
      have HR2 := Lib.hid (show bq = true by
        rw [HB.out, decide_eq_true_eq]
        exact List.ext_getElem? fun j => by
          by_cases hj : j < xs.length
          · exact HSm.out j hj
          · rw [List.getElem?_eq_none (by omega), List.getElem?_eq_none (by have := HLn.out; omega)])
      go_wp2_with fail
      go_ret
      exact ⟨by rw [HR2.out]; rfl, HA.out⟩
end Go.Proofs.YtdbhlajajdlmfaaDoor
/- red.Same and coterieref11.Same. -/
namespace Go.Proofs.YtdbhlajajdlmfaaDoor
open Go Go.RowKit
set_option linter.unusedSimpArgs false
theorem nd_info2 (x : Nd) (kv : Value) : (Tryd.prog.info? 68).map (·.size) = some (ndR x kv).length := by kernel_rfl
theorem nd_ext {x y : Nd} (h0 : x.lv = y.lv) (h1 : x.ix = y.ix) (h2 : x.rd = y.rd) (h3 : x.fr = y.fr) (h4 : x.tt = y.tt) (h5 : x.up = y.up) (h6 : x.ks = y.ks) : x = y := by
  cases x
  cases y
  simp only at h0 h1 h2 h3 h4 h5 h6
  subst h0 h1 h2 h3 h4 h5 h6
  rfl
theorem nd_dec {x y : Nd} (h0 : x.lv = y.lv) (h1 : x.ix = y.ix) (h2 : x.rd = y.rd) (h3 : x.fr = y.fr) (h4 : x.tt = y.tt) (h5 : x.up = y.up) : decide (x.ks = y.ks) = decide (x = y) := by
  by_cases h6 : x.ks = y.ks
  · rw [decide_eq_true h6, decide_eq_true (nd_ext h0 h1 h2 h3 h4 h5 h6)]
  · rw [decide_eq_false h6, decide_eq_false (fun q => h6 (by rw [q]))]
theorem fst_at {ps : List (Nd × Value)} {i : Nat} (h : i < ps.length) : (ps.map Prod.fst)[i]? = some (ps.getD i ndP).1 := by
  rw [List.getElem?_map, List.getD_eq_getElem?_getD, List.getElem?_eq_getElem h]
  rfl
theorem RdN.mem {w : World} {v : Value} {ps : List (Nd × Value)} (h : RdN w v ps) {i : Nat} (hi : i < ps.length) : Rd w (ps.getD i ndP).2 (zv (ps.getD i ndP).1.ks) :=
  h.kid _ (by rw [List.getD_eq_getElem?_getD, List.getElem?_eq_getElem hi]; exact List.getElem_mem hi)
theorem RdN.rng {w : World} {v : Value} {ps : List (Nd × Value)} (h : RdN w v ps) {i : Nat} (hi : i < ps.length) :
    ∃ g o cap, v = .slice (some ⟨g, o, none⟩) ps.length cap ∧ ∀ wx, Aft w wx → wx.rangeAt g (o + i * 7) (ndR (ps.getD i ndP).1 (ps.getD i ndP).2) := by
  obtain ⟨g, o, cap, he, -, hr⟩ := h.row.at (i := i) (by rw [ndRs_length]; exact hi)
  rw [ndRs_length] at he
  rw [ndRs_at hi] at hr
  exact ⟨g, o, cap, he, hr⟩
end Go.Proofs.YtdbhlajajdlmfaaDoor
