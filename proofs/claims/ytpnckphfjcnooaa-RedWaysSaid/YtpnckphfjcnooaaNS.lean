/- Each node has just what is below it: the plain law of RedSpans. -/
import Derived.Test.YtpnckphfjcnooaaNK
namespace Go.Proofs.Ytpnckphfjcnooaa
open Go Go.RowKit
/-- Nodes one behind another: from where to where. -/
def ChainN (N : List Nd) : Int → List Nat → Int → Prop
  | a, [], t => a = t
  | a, k :: ks, t => (N.getD k nd0).fr = a ∧ ChainN N (N.getD k nd0).tt ks t
def GoodN (n : Nat) (ls : List (List Int)) (N : List Nd) (x : Nd) : Prop :=
  (∃ at' : Nat, at' < n ∧ x.lv = 0 ∧ x.ks = [] ∧ x.ix = (at' : Int) ∧ x.fr = (at' : Int) ∧ x.tt = (at' : Int) + 1) ∨
  (∃ (L at' : Nat) (ks : List Nat), x.lv = ((L + 1 : Nat) : Int) ∧ x.ix = (at' : Int) ∧ x.ks = kz ks ∧ 0 < ks.length ∧ (∀ k ∈ ks, k < N.length) ∧ ChainN N x.fr ks x.tt ∧ (x.rd = false → L < ls.length ∧ at' < cntN n ls (L + 1) ∧ x.fr = (loN ls (L + 1) at' : Nat) ∧ x.tt = (loN ls (L + 1) (at' + 1) : Nat)))
def Emb (N : List Nd) (b : Nat) (S : List Cor) : Prop := b + S.length ≤ N.length ∧ ∀ i, i < S.length → some (cor (N.getD (b + i) nd0)) = S[i]?
theorem Emb.left {N : List Nd} {b : Nat} {S T : List Cor} (h : Emb N b (S ++ T)) : Emb N b S := by
  refine ⟨by have := h.1; rw [List.length_append] at this; omega, fun i hi => ?_⟩
  rw [h.2 i (by rw [List.length_append]; omega), List.getElem?_append_left hi]
theorem Emb.right {N : List Nd} {b : Nat} {S T : List Cor} (h : Emb N b (S ++ T)) : Emb N (b + S.length) T := by
  refine ⟨by have := h.1; rw [List.length_append] at this; omega, fun i hi => ?_⟩
  rw [Nat.add_assoc, h.2 (S.length + i) (by rw [List.length_append]; omega), List.getElem?_append_right (by omega), Nat.add_sub_cancel_left]
theorem Emb.last {N : List Nd} {b : Nat} {A : List Nd} (h : Emb N b (A.map cor)) (hA : 0 < A.length) : b + A.length - 1 < N.length ∧ cor (N.getD (b + A.length - 1) nd0) = cor (lastN A) := by
  have h1 := h.1
  rw [List.length_map] at h1
  refine ⟨by omega, ?_⟩
  have h2 := h.2 (A.length - 1) (by rw [List.length_map]; omega)
  rw [List.getElem?_map, List.getElem?_eq_getElem (by omega), show b + (A.length - 1) = b + A.length - 1 by omega] at h2
  unfold lastN
  rw [List.getD_eq_getElem?_getD (l := A), List.getElem?_eq_getElem (by omega)]
  exact Option.some.inj h2
theorem GoodN.up {n : Nat} {ls : List (List Int)} {N : List Nd} {x : Nd} (h : GoodN n ls N x) (u : Int) : GoodN n ls N { x with up := u } := h
theorem good_upL {n : Nat} {ls : List (List Int)} {N A : List Nd} {u : Int} (h : ∀ x ∈ A, GoodN n ls N x) : ∀ x ∈ upL A u, GoodN n ls N x := by
  intro x hx
  unfold upL at hx
  rcases List.mem_or_eq_of_mem_set hx with hx | rfl
  · exact h x hx
  · by_cases hz : A.length = 0
    · rw [List.eq_nil_of_length_eq_zero hz] at hx
      simp at hx
    · refine GoodN.up (h _ ?_) u
      rw [List.getD_eq_getElem?_getD, List.getElem?_eq_getElem (by omega)]
      exact List.getElem_mem _
theorem seg_good {n : Nat} {ls : List (List Int)} (h : Fit n ls) (kind : Int) (N : List Nd) : ∀ (L at' b : Nat), L ≤ ls.length → at' < cntN n ls L → Emb N b ((seg kind ls L at' b).map cor) → ∀ x ∈ seg kind ls L at' b, GoodN n ls N x
  | 0, at', b, _, ha, _ => fun x hx => by
    simp only [seg, List.mem_singleton] at hx
    subst hx
    exact .inl ⟨at', ha, rfl, rfl, rfl, rfl, rfl⟩
  | L + 1, at', b, hL, ha, he => by
    obtain ⟨x, hx, hx23, hx1, hx2⟩ := fit_step h hL ha
    have hA := seg_pos kind ls L (fstN ls L at') b
    have hB := seg_pos kind ls L (fstN ls L at' + 1) (b + (seg kind ls L (fstN ls L at') b).length)
    have lA := seg_last kind ls L (fstN ls L at') b
    have lB := seg_last kind ls L (fstN ls L at' + 1) (b + (seg kind ls L (fstN ls L at') b).length)
    have gA := seg_good h kind N L (fstN ls L at') b (by omega) (by omega)
    have gB := seg_good h kind N L (fstN ls L at' + 1) (b + (seg kind ls L (fstN ls L at') b).length) (by omega) (by omega)
    have hlo : loN ls (L + 1) at' = loN ls L (fstN ls L at') := rfl
    have hhi : loN ls (L + 1) (at' + 1) = loN ls L (fstN ls L at' + x) := by rw [← hx1]; rfl
    by_cases h2 : (ls.getD L []).getD at' 0 = 2
    · have hx' : x = 2 := by omega
      subst hx'
      simp only [seg] at he ⊢
      rw [if_pos h2] at he ⊢
      generalize seg kind ls L (fstN ls L at') b = A at *
      generalize seg kind ls L (fstN ls L at' + 1) (b + A.length) = B at *
      simp only [List.map_append, upL_cor] at he
      have eA := he.left
      have eB := he.right.left
      rw [List.length_map] at eB
      have kA := eA.last hA
      have kB := eB.last hB
      intro y hy
      simp only [List.mem_append, List.mem_singleton] at hy
      rcases hy with hy | hy | rfl
      · exact good_upL (gA eA) y hy
      · exact good_upL (gB eB) y hy
      · refine .inr ⟨L, at', _, rfl, rfl, rfl, Nat.succ_pos _, ?_, ?_, fun _ => ⟨hL, ha, rfl, rfl⟩⟩
        · intro k hk
          simp only [List.mem_cons, List.not_mem_nil, or_false] at hk
          rcases hk with rfl | rfl
          · exact kA.1
          · exact kB.1
        · refine ⟨?_, ?_, ?_⟩
          · exact (congrArg Cor.fr kA.2).trans (lA.1.trans (by rw [← hlo]; rfl))
          · exact (congrArg Cor.fr kB.2).trans (lB.1.trans ((congrArg Cor.tt kA.2).trans lA.2).symm)
          · exact (congrArg Cor.tt kB.2).trans (lB.2.trans (by rw [show fstN ls L at' + 1 + 1 = fstN ls L at' + 2 from rfl, ← hhi]; rfl))
    · have hx' : x = 3 := by omega
      subst hx'
      by_cases hk : kind = 1
      · have hC := seg_pos kind ls L (fstN ls L at' + 2) (b + (seg kind ls L (fstN ls L at') b).length + (seg kind ls L (fstN ls L at' + 1) (b + (seg kind ls L (fstN ls L at') b).length)).length)
        have lC := seg_last kind ls L (fstN ls L at' + 2) (b + (seg kind ls L (fstN ls L at') b).length + (seg kind ls L (fstN ls L at' + 1) (b + (seg kind ls L (fstN ls L at') b).length)).length)
        have gC := seg_good h kind N L (fstN ls L at' + 2) (b + (seg kind ls L (fstN ls L at') b).length + (seg kind ls L (fstN ls L at' + 1) (b + (seg kind ls L (fstN ls L at') b).length)).length) (by omega) (by omega)
        simp only [seg] at he ⊢
        rw [if_neg h2, if_pos hk] at he ⊢
        generalize seg kind ls L (fstN ls L at') b = A at *
        generalize seg kind ls L (fstN ls L at' + 1) (b + A.length) = B at *
        generalize seg kind ls L (fstN ls L at' + 2) (b + A.length + B.length) = C at *
        simp only [List.map_append, upL_cor] at he
        have eA := he.left
        have eB := he.right.left
        have eC := he.right.right.left
        rw [List.length_map] at eB
        rw [List.length_map, List.length_map] at eC
        have kA := eA.last hA
        have kB := eB.last hB
        have kC := eC.last hC
        intro y hy
        simp only [List.mem_append, List.mem_singleton] at hy
        rcases hy with hy | hy | hy | rfl
        · exact good_upL (gA eA) y hy
        · exact good_upL (gB eB) y hy
        · exact good_upL (gC eC) y hy
        · refine .inr ⟨L, at', _, rfl, rfl, rfl, Nat.succ_pos _, ?_, ?_, fun _ => ⟨hL, ha, rfl, rfl⟩⟩
          · intro k hk
            simp only [List.mem_cons, List.not_mem_nil, or_false] at hk
            rcases hk with rfl | rfl | rfl
            · exact kA.1
            · exact kB.1
            · exact kC.1
          · refine ⟨?_, ?_, ?_, ?_⟩
            · exact (congrArg Cor.fr kA.2).trans (lA.1.trans (by rw [← hlo]; rfl))
            · exact (congrArg Cor.fr kB.2).trans (lB.1.trans ((congrArg Cor.tt kA.2).trans lA.2).symm)
            · exact (congrArg Cor.fr kC.2).trans (lC.1.trans ((congrArg Cor.tt kB.2).trans lB.2).symm)
            · exact (congrArg Cor.tt kC.2).trans (lC.2.trans (by rw [show fstN ls L at' + 2 + 1 = fstN ls L at' + 3 from rfl, ← hhi]; rfl))
      · have hC := seg_pos kind ls L (fstN ls L at' + 2) (b + (seg kind ls L (fstN ls L at') b).length + (seg kind ls L (fstN ls L at' + 1) (b + (seg kind ls L (fstN ls L at') b).length)).length + 1)
        have lC := seg_last kind ls L (fstN ls L at' + 2) (b + (seg kind ls L (fstN ls L at') b).length + (seg kind ls L (fstN ls L at' + 1) (b + (seg kind ls L (fstN ls L at') b).length)).length + 1)
        have gC := seg_good h kind N L (fstN ls L at' + 2) (b + (seg kind ls L (fstN ls L at') b).length + (seg kind ls L (fstN ls L at' + 1) (b + (seg kind ls L (fstN ls L at') b).length)).length + 1) (by omega) (by omega)
        rw [seg_red h2 hk] at he ⊢
        simp only [] at he ⊢
        generalize seg kind ls L (fstN ls L at') b = A at *
        generalize seg kind ls L (fstN ls L at' + 1) (b + A.length) = B at *
        generalize seg kind ls L (fstN ls L at' + 2) (b + A.length + B.length + 1) = C at *
        simp only [List.map_append, List.map_cons, upL_cor] at he
        have eA := he.left
        have eB := he.right.left
        have eR := he.right.right
        rw [List.length_map] at eB
        rw [List.length_map, List.length_map] at eR
        have eR1 := Emb.left (S := [_]) eR
        have eC := (Emb.right (S := [_]) eR).left
        have kA := eA.last hA
        have kB := eB.last hB
        have kC := eC.last hC
        have kR := eR1.2 0 (Nat.succ_pos _)
        have kR1 := eR1.1
        intro y hy
        simp only [List.mem_append, List.mem_cons, List.not_mem_nil, or_false] at hy
        rcases hy with hy | hy | rfl | hy | rfl
        · exact good_upL (gA eA) y hy
        · exact good_upL (gB eB) y hy
        · refine .inr ⟨L, at', [b + A.length - 1, b + A.length + B.length - 1], rfl, rfl, rfl, Nat.succ_pos _, ?_, ?_, fun q => absurd q (by simp [ndN])⟩
          · intro k hk
            simp only [List.mem_cons, List.not_mem_nil, or_false] at hk
            rcases hk with rfl | rfl
            · exact kA.1
            · exact kB.1
          · refine ⟨?_, ?_, ?_⟩
            · exact (congrArg Cor.fr kA.2).trans (lA.1.trans (by rw [← hlo]; rfl))
            · exact (congrArg Cor.fr kB.2).trans (lB.1.trans ((congrArg Cor.tt kA.2).trans lA.2).symm)
            · exact (congrArg Cor.tt kB.2).trans lB.2
        · exact good_upL (gC eC) y hy
        · have kR2 := Option.some.inj kR
          rw [Nat.add_zero] at kR2
          refine .inr ⟨L, at', _, rfl, rfl, rfl, Nat.succ_pos _, ?_, ?_, fun _ => ⟨hL, ha, rfl, rfl⟩⟩
          · intro k hk
            simp only [List.mem_cons, List.not_mem_nil, or_false] at hk
            rcases hk with rfl | rfl
            · exact kR1
            · exact kC.1
          · refine ⟨?_, ?_, ?_⟩
            · exact (congrArg Cor.fr kR2).trans rfl
            · exact (congrArg Cor.fr kC.2).trans (lC.1.trans (congrArg Cor.tt kR2).symm)
            · exact (congrArg Cor.tt kC.2).trans (lC.2.trans (by rw [show fstN ls L at' + 2 + 1 = fstN ls L at' + 3 from rfl, ← hhi]; rfl))
theorem getD_some {l : List Nd} {i : Nat} (h : i < l.length) : l[i]? = some (l.getD i nd0) := by
  rw [List.getD_eq_getElem?_getD, List.getElem?_eq_getElem h]
  rfl
theorem nodes_good {kind : Int} {ids : List Int} {ls : List (List Int)} (hok : OkT ids ls) {i : Nat} (hi : i < (nodesL kind ids ls).length) : GoodN ids.length ls (nodesL kind ids ls) ((nodesL kind ids ls).getD i nd0) := by
  by_cases hz : ids.length = 0
  · unfold nodesL at hi
    rw [if_pos hz] at hi
    simp at hi
  · have he := nodes_seg (kind := kind) hok hz
    rw [he] at hi ⊢
    refine seg_good (okLv_fit ls ids.length hok.2) kind _ ls.length 0 0 (Nat.le_refl _) (by rw [cnt_top hok hz]; exact Nat.one_pos) ⟨by rw [List.length_map]; omega, fun j hj => ?_⟩ _ ?_
    · rw [List.length_map] at hj
      rw [Nat.zero_add, List.getElem?_map, getD_some hj]
      rfl
    · rw [List.getD_eq_getElem?_getD, List.getElem?_eq_getElem hi]
      exact List.getElem_mem hi
/-- Where groups begin, as the program tells it. -/
theorem span_lo {n : Nat} {ls : List (List Int)} (h : Fit n ls) : ∀ L, L ≤ ls.length → (((ls.take L).foldl (fun f l => spF l f) (ones n)).length = cntN n ls L + 1 ∧ ∀ at', at' ≤ cntN n ls L → ((ls.take L).foldl (fun f l => spF l f) (ones n)).getD at' 0 = (loN ls L at' : Nat))
  | 0, _ => by
    refine ⟨by simp [ones, cntN], fun at' ha => ?_⟩
    have ha' : at' ≤ n := ha
    simp only [List.take_zero, List.foldl_nil, ones, loN]
    rw [List.getD_eq_getElem?_getD, List.getElem?_map, List.getElem?_range (by omega)]
    rfl
  | L + 1, hL => by
    obtain ⟨h1, h2⟩ := span_lo h L (by omega)
    have hLl : L < ls.length := hL
    have ht : ls.take (L + 1) = ls.take L ++ [ls.getD L []] := by
      rw [List.take_add_one, List.getElem?_eq_getElem hLl, List.getD_eq_getElem?_getD, List.getElem?_eq_getElem hLl]
      rfl
    rw [ht, List.foldl_append, List.foldl_cons, List.foldl_nil]
    refine ⟨spF_length _ _, fun at' ha => ?_⟩
    have hle : fstN ls L at' ≤ cntN n ls L := by
      have h3 := frm_leN _ (h.tt L) at'
      have h4 := frm_nonnegN _ (h.tt L) at'
      rw [h.sum L hLl] at h3
      unfold fstN
      omega
    rw [spF_at ha]
    exact h2 _ hle
theorem span_at {ids : List Int} {ls : List (List Int)} (hok : OkT ids ls) {L at' : Nat} (hL : L < ls.length) (ha : at' < cntN ids.length ls (L + 1)) :
    spanE ids ls (L : Int) = 0 ∧ (spanV ids ls (L : Int)).length = cntN ids.length ls (L + 1) + 1 ∧ (spanV ids ls (L : Int)).getD at' 0 = (loN ls (L + 1) at' : Nat) ∧ (spanV ids ls (L : Int)).getD (at' + 1) 0 = (loN ls (L + 1) (at' + 1) : Nat) := by
  have h0 : spanE ids ls (L : Int) = 0 := by
    unfold spanE
    rw [if_neg]
    rintro (q | q | q)
    · exact q hok
    · omega
    · omega
  have hv : spanV ids ls (L : Int) = (ls.take (L + 1)).foldl (fun f l => spF l f) (ones ids.length) := by
    unfold spanV
    rw [if_pos h0]
    rfl
  obtain ⟨h1, h2⟩ := span_lo (okLv_fit ls ids.length hok.2) (L + 1) hL
  rw [hv]
  exact ⟨h0, h1, h2 at' (by omega), h2 (at' + 1) (by omega)⟩
end Go.Proofs.Ytpnckphfjcnooaa
