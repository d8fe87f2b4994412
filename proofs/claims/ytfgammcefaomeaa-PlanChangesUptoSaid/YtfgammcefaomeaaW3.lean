/- The plain law of the document's Delete (law 10), whole. -/
import Derived.Test.YtfgammcefaomeaaW2
namespace Go.Proofs.Ytfgammcefaomeaa
structure GoneOk (id : Int) {d : Nat} (x x' : NT (d + 1)) : Prop where
  wf : ∀ k ∈ kidsT x', wfT d k
  len : (kidsT x').length = (kidsT x).length ∨ (kidsT x').length + 1 = (kidsT x).length
  ids : idsF (d + 1) [x'] = delI (idsF (d + 1) [x]) id
  lv : ∀ (pre post : List (NT (d + 1))) (B : List (List Int)), (∀ k ∈ pre ++ x :: post, wfT (d + 1) k) →
    delL (lvF (d + 1) (pre ++ x :: post) ++ B) (((idsF (d + 1) pre).length + cnt (idsF (d + 1) [x]) id : Nat) : Int) =
      if 2 ≤ (kidsT x').length then lvF (d + 1) (pre ++ x' :: post) ++ B else lvF d (flatT (pre ++ x' :: post)) ++ under (lensT (pre ++ x' :: post)) pre.length B
theorem del_here {d : Nat} (pre post : List (NT (d + 1))) (x x' : NT (d + 1)) (B : List (List Int)) (hl : (kidsT x').length + 1 = (kidsT x).length) (a : Int) (hg : grpG (lensT (pre ++ x :: post)) a = pre.length) :
    delL (lensT (pre ++ x :: post) :: B) a = if 2 ≤ (kidsT x').length then lensT (pre ++ x' :: post) :: B else under (lensT (pre ++ x' :: post)) pre.length B := by
  have e : lensT pre ++ (((kidsT x').length : Nat) : Int) :: lensT post = lensT (pre ++ x' :: post) := by
    rw [lensT_append]
    rfl
  rw [delL_cons, hg, lens_at, lens_set, show ((kidsT x).length : Int) - 1 = ((kidsT x').length : Nat) by omega, e]
  by_cases h : 2 ≤ (kidsT x').length
  · rw [if_pos h, if_pos (by omega)]
  · rw [if_neg h, if_neg (by omega)]
/-- A member is in the node chosen. -/
theorem in_chosen (id : Int) (d : Nat) (x : List (NT d)) (hx : 0 < x.length) (hw : ∀ k ∈ x, wfT d k) (hs : Rise (idsF d x)) (hm : id ∈ idsF d x) :
    ∃ P k S, x = P ++ k :: S ∧ P.length = chP (fun f => decide (f ≤ id)) d x x.length ∧ x.getD P.length (dfT d) = k ∧ wfT d k ∧ (∀ q ∈ P, wfT d q) ∧ (∀ q ∈ S, wfT d q) ∧ Rise (idsF d [k]) ∧ id ∈ idsF d [k] ∧ cnt (idsF d x) id = (idsF d P).length + cnt (idsF d [k]) id ∧ idsF d x = idsF d P ++ (idsF d [k] ++ idsF d S) := by
  obtain ⟨h1, h2, h3, h4⟩ := chosen (fun f => decide (f ≤ id)) id (id + 1) (by omega) (fun f h => of_decide_eq_true h) (fun f h => by have := of_decide_eq_false h; omega) d x hx hw hs
  generalize chP (fun f => decide (f ≤ id)) d x x.length = i at *
  have e := split_at x (dfT d) h1
  have hl : (x.take i).length = i := by rw [List.length_take]; omega
  have hk : x.getD i (dfT d) ∈ x := by
    rw [List.getD_eq_getElem?_getD, List.getElem?_eq_getElem h1]
    exact List.getElem_mem h1
  have he : idsF d x = idsF d (x.take i) ++ (idsF d [x.getD i (dfT d)] ++ idsF d (x.drop (i + 1))) := by
    conv => lhs; rw [e]
    rw [idsF_append, idsF_cons]
  refine ⟨x.take i, x.getD i (dfT d), x.drop (i + 1), e, hl, by rw [hl], hw _ hk, fun q hq => hw q (List.mem_of_mem_take hq), fun q hq => hw q (List.mem_of_mem_drop hq), rise_one hs h1, ?_, h2, he⟩
  rw [he] at hm hs
  rcases List.mem_append.1 hm with hA | hm
  · exfalso
    rcases h4 with h0 | hp
    · rw [h0, List.take_zero, idsF_nil] at hA
      cases hA
    · obtain ⟨r, hr⟩ := ids_fst d _ (hw _ hk)
      have h5 := (List.pairwise_append.1 hs).2.2 id hA (fstT d (x.getD i (dfT d))) (by rw [hr]; exact List.mem_append_left _ (List.mem_cons_self ..))
      have h6 : fstT d (x.getD i (dfT d)) ≤ id := of_decide_eq_true hp
      omega
  · rcases List.mem_append.1 hm with hK | hC
    · exact hK
    · have := h3 id hC
      omega
theorem goneT_zero (id : Int) (x : NT 1) {P S : List (NT 0)} {k : NT 0} (e : kidsT x = P ++ k :: S) (hi : P.length = chP (fun f => decide (f ≤ id)) 0 (kidsT x) (kidsT x).length) : goneT id 0 x = grpT (P ++ S) := by
  unfold goneT
  rw [← hi, e, List.take_append, List.take_of_length_le (Nat.le_refl _), Nat.sub_self, List.drop_append, List.drop_eq_nil_of_le (by omega), Nat.add_sub_cancel_left]
  simp
theorem goneT_succ (id : Int) (d : Nat) (x : NT (d + 2)) {P S : List (NT (d + 1))} {k : NT (d + 1)} (e : kidsT x = P ++ k :: S) (hi : P.length = chP (fun f => decide (f ≤ id)) (d + 1) (kidsT x) (kidsT x).length) (hk : (kidsT x).getD P.length (dfT (d + 1)) = k) :
    goneT id (d + 1) x = grpT (if (kidsT (goneT id d k)).length = 1 then mendT (P ++ goneT id d k :: S) P.length else P ++ goneT id d k :: S) := by
  have hs : (kidsT x).set P.length (goneT id d k) = P ++ goneT id d k :: S := by
    rw [e, List.set_append_right _ _ (Nat.le_refl _), Nat.sub_self]
    rfl
  show grpT (if (kidsT (goneT id d ((kidsT x).getD (chP (fun f => decide (f ≤ id)) (d + 1) (kidsT x) (kidsT x).length) (dfT (d + 1))))).length = 1 then mendT ((kidsT x).set (chP (fun f => decide (f ≤ id)) (d + 1) (kidsT x) (kidsT x).length) (goneT id d ((kidsT x).getD (chP (fun f => decide (f ≤ id)) (d + 1) (kidsT x) (kidsT x).length) (dfT (d + 1))))) (chP (fun f => decide (f ≤ id)) (d + 1) (kidsT x) (kidsT x).length) else (kidsT x).set (chP (fun f => decide (f ≤ id)) (d + 1) (kidsT x) (kidsT x).length) (goneT id d ((kidsT x).getD (chP (fun f => decide (f ≤ id)) (d + 1) (kidsT x) (kidsT x).length) (dfT (d + 1))))) = _
  rw [← hi, hk, hs]
theorem gone_ok (id : Int) : ∀ (d : Nat) (x : NT (d + 1)), wfT (d + 1) x → Rise (idsF (d + 1) [x]) → id ∈ idsF (d + 1) [x] → GoneOk id x (goneT id d x)
  | 0, x, hw, hs, hm => by
    rw [idsF_one] at hs hm
    obtain ⟨P, k, S, e, hi, -, -, hP, hS, -, hkm, hc, hids⟩ := in_chosen id 0 (kidsT x) (by have := hw.1; omega) hw.2 hs hm
    rw [goneT_zero id x e hi]
    have hk : (k : Int) = id := (List.mem_singleton.1 hkm).symm
    have hk1 : cnt (idsF 0 [k]) id = 0 := cnt_none fun y hy => by
      have : y = (k : Int) := List.mem_singleton.1 hy
      rw [this, hk]
      exact Int.lt_irrefl _
    have hlen : (P ++ S).length + 1 = (kidsT x).length := by
      rw [e, List.length_append, List.length_append, List.length_cons]
      omega
    refine ⟨fun q hq => trivial, .inr hlen, ?_, ?_⟩
    · rw [idsF_one, idsF_one, hids]
      rw [hids] at hc
      rw [delI_mid hc (by rw [hk1]; exact Nat.one_pos)]
      have : delI (idsF 0 [k]) id = [] := by
        unfold delI
        rw [hk1]
        rfl
      rw [this, List.nil_append]
      exact idsF_append 0 P S
    · intro pre post B hwf
      have hcl : cnt (idsF 1 [x]) id < (kidsT x).length := by
        rw [idsF_one, hc, hk1]
        have : (idsF 0 P).length = P.length := rfl
        rw [this, e, List.length_append, List.length_cons]
        omega
      have hg := grp_lens pre post x hwf hcl
      show delL (lensT (pre ++ x :: post) :: B) (((flatT pre).length + cnt (idsF 1 [x]) id : Nat) : Int) = _
      rw [del_here pre post x (grpT (P ++ S)) B hlen _ hg]
      rfl
  | d + 1, x, hw, hs, hm => by
    rw [idsF_one] at hs hm
    obtain ⟨P, k, S, e, hi, hk, hwk, hP, hS, hsk, hkm, hc, hids⟩ := in_chosen id (d + 1) (kidsT x) (by have := hw.1; omega) hw.2 hs hm
    rw [goneT_succ id d x e hi hk]
    have ih := gone_ok id d k hwk hsk hkm
    have hck : cnt (idsF (d + 1) [k]) id < (idsF (d + 1) [k]).length := cnt_lt hsk hkm
    generalize goneT id d k = k' at *
    have hwk1 := hwk.1
    have hil := ih.len
    have hxl : (kidsT x).length = P.length + S.length + 1 := by
      rw [e, List.length_append, List.length_cons]
      omega
    have hx23 := hw.1
    have hidk : idsF (d + 1) (P ++ k' :: S) = delI (idsF (d + 1) (kidsT x)) id := by
      rw [hids]
      rw [hids] at hc
      rw [delI_mid hc hck, idsF_append, idsF_cons, ih.ids]
    have hfl : ∀ pre post : List (NT (d + 2)), flatT (pre ++ x :: post) = (flatT pre ++ P) ++ k :: (S ++ flatT post) := fun pre post => by
      rw [flatT_append, flatT_cons, e]
      simp only [List.append_assoc, List.cons_append]
    have hwf2 : ∀ pre post : List (NT (d + 2)), (∀ q ∈ pre ++ x :: post, wfT (d + 2) q) → ∀ q ∈ (flatT pre ++ P) ++ k :: (S ++ flatT post), wfT (d + 1) q := fun pre post hwf q hq => by
      rw [← hfl] at hq
      obtain ⟨l, hl, hql⟩ := List.mem_flatten.1 hq
      obtain ⟨t, ht, rfl⟩ := List.mem_map.1 hl
      exact (hwf t ht).2 q hql
    have hstart : ∀ (pre post : List (NT (d + 2))) (B : List (List Int)), (∀ q ∈ pre ++ x :: post, wfT (d + 2) q) →
        delL (lvF (d + 2) (pre ++ x :: post) ++ B) (((idsF (d + 2) pre).length + cnt (idsF (d + 2) [x]) id : Nat) : Int) =
          if 2 ≤ (kidsT k').length then lvF (d + 1) ((flatT pre ++ P) ++ k' :: (S ++ flatT post)) ++ (lensT (pre ++ x :: post) :: B)
          else lvF d (flatT ((flatT pre ++ P) ++ k' :: (S ++ flatT post))) ++ under (lensT ((flatT pre ++ P) ++ k' :: (S ++ flatT post))) (flatT pre ++ P).length (lensT (pre ++ x :: post) :: B) := fun pre post B hwf => by
      rw [← ih.lv (flatT pre ++ P) (S ++ flatT post) (lensT (pre ++ x :: post) :: B) (hwf2 pre post hwf)]
      have h1 : lvF (d + 2) (pre ++ x :: post) ++ B = lvF (d + 1) ((flatT pre ++ P) ++ k :: (S ++ flatT post)) ++ (lensT (pre ++ x :: post) :: B) := by
        show (lvF (d + 1) (flatT (pre ++ x :: post)) ++ [lensT (pre ++ x :: post)]) ++ B = _
        rw [hfl, List.append_assoc]
        rfl
      have h2 : (idsF (d + 2) pre).length + cnt (idsF (d + 2) [x]) id = (idsF (d + 1) (flatT pre ++ P)).length + cnt (idsF (d + 1) [k]) id := by
        rw [idsF_one, hc, idsF_append, List.length_append]
        show (idsF (d + 1) (flatT pre)).length + _ = _
        omega
      rw [h1, h2]
    by_cases h1 : (kidsT k').length = 1
    · rw [if_pos h1]
      obtain ⟨l0, hl0⟩ : ∃ l0, kidsT k' = [l0] := List.length_eq_one_iff.1 h1
      have hwl : wfT d l0 := ih.wf l0 (by rw [hl0]; exact List.mem_singleton.2 rfl)
      have hM := mend_ok P S k' hl0 hwl hP hS (by omega)
      generalize hoth : (if P.length = 0 then 1 else P.length - 1) = oth at hM
      have hoth2 : (P.length = 0 ∧ oth = 1) ∨ (0 < P.length ∧ oth + 1 = P.length) := by
        split at hoth <;> omega
      generalize mendT (P ++ k' :: S) P.length = M at *
      have hLl : (lensT (P ++ k' :: S)).length = P.length + S.length + 1 := by
        unfold lensT
        rw [List.length_map, List.length_append, List.length_cons]
        omega
      have hPl : (P ++ k' :: S).length = P.length + S.length + 1 := by
        rw [List.length_append, List.length_cons]
        omega
      have hfix : ∀ pre post : List (NT (d + 2)), flatT (flatT pre ++ P ++ k' :: (S ++ flatT post)) = flatT (flatT (pre ++ grpT M :: post)) := fun pre post => by
        rw [flatT_append pre, flatT_cons]
        show _ = flatT (flatT pre ++ (M ++ flatT post))
        rw [flatT_append (flatT pre), flatT_append M, hM.flat, ← flatT_append, ← flatT_append]
        simp only [List.append_assoc, List.cons_append]
      have hlx : ∀ pre post : List (NT (d + 2)), lensT (flatT pre ++ P ++ k' :: (S ++ flatT post)) = lensT (flatT pre) ++ (lensT (P ++ k' :: S) ++ lensT (flatT post)) := fun pre post => by
        rw [← lensT_append, ← lensT_append]
        simp only [List.append_assoc, List.cons_append]
      have hlM : ∀ pre post : List (NT (d + 2)), lensT (flatT (pre ++ grpT M :: post)) = lensT (flatT pre) ++ (lensT M ++ lensT (flatT post)) := fun pre post => by
        rw [flatT_append pre, flatT_cons]
        show lensT (flatT pre ++ (M ++ flatT post)) = _
        rw [lensT_append, lensT_append]
      refine ⟨hM.wf, ?_, ?_, ?_⟩
      · show M.length = _ ∨ M.length + 1 = _
        rcases hM.lens with ⟨h, -⟩ | ⟨h, -⟩ <;> omega
      · rw [idsF_one, idsF_one, ← hidk]
        show idsF d (flatT M) = idsF d (flatT (P ++ k' :: S))
        rw [hM.flat]
      · intro pre post B hwf
        have hFl : (lensT (flatT pre)).length = (flatT pre).length := List.length_map ..
        have hfr : frm (lensT (pre ++ x :: post)) pre.length = ((flatT pre).length : Int) := frm_lens pre (x :: post)
        have hgr : grpG (lensT (pre ++ x :: post)) (((flatT pre).length + P.length : Nat) : Int) = pre.length := grp_lens pre post x hwf (by omega)
        have ho1 : othr (lensT (pre ++ x :: post)) ((lensT (flatT pre)).length + P.length) = (lensT (flatT pre)).length + oth := by
          unfold othr
          rw [hFl, hgr, hfr]
          split <;> omega
        have hg1 : gon (lensT (pre ++ x :: post)) ((lensT (flatT pre)).length + P.length) = (lensT (flatT pre)).length + max P.length oth := by
          unfold gon
          rw [hFl, hgr, hfr, Int.toNat_natCast]
          omega
        rw [hstart pre post B hwf, if_neg (by omega), hlx, List.length_append, ← hFl, under_mid _ _ _ _ _ _ oth (by omega) (by omega) ho1 hg1, hfix]
        rcases hM.lens with ⟨m1, m2, m3⟩ | ⟨m1, m2, m3⟩
        · rw [if_pos m2, ← m3, ← hlM, if_pos (show 2 ≤ (kidsT (grpT M)).length from by show 2 ≤ M.length; omega)]
          show _ = (lvF (d + 1) (flatT (pre ++ grpT M :: post)) ++ [lensT (pre ++ grpT M :: post)]) ++ B
          show _ = ((lvF d (flatT (flatT (pre ++ grpT M :: post))) ++ [lensT (flatT (pre ++ grpT M :: post))]) ++ [lensT (pre ++ grpT M :: post)]) ++ B
          have hA : lensT (pre ++ grpT M :: post) = lensT (pre ++ x :: post) := by
            rw [lensT_append, lensT_append]
            show _ ++ ((M.length : Nat) : Int) :: lensT post = _ ++ (((kidsT x).length : Nat) : Int) :: lensT post
            rw [show M.length = (kidsT x).length by omega]
          rw [hA]
          simp only [List.append_assoc, List.cons_append, List.nil_append]
        · have hMl : (kidsT (grpT M)).length + 1 = (kidsT x).length := by
            show M.length + 1 = _
            omega
          rw [if_neg m2, ← m3, ← hlM, hFl, del_here pre post x (grpT M) B hMl _ hgr]
          split
          · show _ = ((lvF d (flatT (flatT (pre ++ grpT M :: post))) ++ [lensT (flatT (pre ++ grpT M :: post))]) ++ [lensT (pre ++ grpT M :: post)]) ++ B
            simp only [List.append_assoc, List.cons_append, List.nil_append]
          · show _ = (lvF d (flatT (flatT (pre ++ grpT M :: post))) ++ [lensT (flatT (pre ++ grpT M :: post))]) ++ _
            simp only [List.append_assoc, List.cons_append, List.nil_append]
    · rw [if_neg h1]
      have h2 : 2 ≤ (kidsT k').length := by omega
      have hlen : (kidsT (grpT (P ++ k' :: S))).length = (kidsT x).length := by
        show (P ++ k' :: S).length = _
        rw [e, List.length_append, List.length_append, List.length_cons, List.length_cons]
      refine ⟨fun q hq => ?_, .inl hlen, ?_, fun pre post B hwf => ?_⟩
      · have hq : q ∈ P ++ k' :: S := hq
        rcases List.mem_append.1 hq with hq | hq
        · exact hP q hq
        · rcases List.mem_cons.1 hq with rfl | hq
          · exact ⟨by omega, ih.wf⟩
          · exact hS q hq
      · rw [idsF_one, idsF_one]
        exact hidk
      · rw [hstart pre post B hwf, if_pos h2, if_pos (by omega)]
        show _ = (lvF (d + 1) (flatT (pre ++ grpT (P ++ k' :: S) :: post)) ++ [lensT (pre ++ grpT (P ++ k' :: S) :: post)]) ++ B
        have hA : lensT (pre ++ grpT (P ++ k' :: S) :: post) = lensT (pre ++ x :: post) := by
          rw [lensT_append, lensT_append]
          show _ ++ (((kidsT (grpT (P ++ k' :: S))).length : Nat) : Int) :: lensT post = _ ++ (((kidsT x).length : Nat) : Int) :: lensT post
          rw [hlen]
        have hB : flatT (pre ++ grpT (P ++ k' :: S) :: post) = (flatT pre ++ P) ++ k' :: (S ++ flatT post) := by
          rw [flatT_append, flatT_cons]
          show flatT pre ++ ((P ++ k' :: S) ++ flatT post) = _
          simp only [List.append_assoc, List.cons_append]
        rw [hA, hB, List.append_assoc (lvF (d + 1) _)]
        rfl
/-- The document's Delete. -/
theorem del_doc (id : Int) (d : Nat) (x : NT (d + 1)) (hw : wfT (d + 1) x) (hs : Rise (idsF (d + 1) [x])) (hm : id ∈ idsF (d + 1) [x]) :
    (¬ (kidsT (goneT id d x)).length = 1 → idsF (d + 1) [goneT id d x] = delI (idsF (d + 1) [x]) id ∧ lvF (d + 1) [goneT id d x] = delL (lvF (d + 1) [x]) ((cnt (idsF (d + 1) [x]) id : Nat) : Int)) ∧
    ((kidsT (goneT id d x)).length = 1 → idsF d [(kidsT (goneT id d x)).getD 0 (dfT d)] = delI (idsF (d + 1) [x]) id ∧ lvF d [(kidsT (goneT id d x)).getD 0 (dfT d)] = delL (lvF (d + 1) [x]) ((cnt (idsF (d + 1) [x]) id : Nat) : Int)) := by
  have h := gone_ok id d x hw hs hm
  have h1 := h.lv [] [] [] (fun k hk => by rw [List.mem_singleton.1 hk]; exact hw)
  rw [idsF_nil, List.length_nil, Nat.zero_add, List.nil_append, List.nil_append, List.append_nil, List.append_nil] at h1
  have hl := h.len
  have hx := hw.1
  refine ⟨fun h2 => ⟨h.ids, ?_⟩, fun h2 => ?_⟩
  · rw [h1, if_pos (by omega)]
  · obtain ⟨l0, hl0⟩ : ∃ l0, kidsT (goneT id d x) = [l0] := List.length_eq_one_iff.1 h2
    have hi := h.ids
    rw [idsF_one, hl0] at hi
    rw [h1, if_neg (by omega), flatT_one, hl0]
    exact ⟨hi, (List.append_nil _).symm⟩
end Go.Proofs.Ytfgammcefaomeaa
