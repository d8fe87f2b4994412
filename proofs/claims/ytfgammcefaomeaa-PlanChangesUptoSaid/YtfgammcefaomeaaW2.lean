/- The plain law of the document's Delete (law 10). -/
import Derived.Test.YtfgammcefaomeaaW1
namespace Go.Proofs.Ytfgammcefaomeaa
/-- One node has one alone below: it gets one of its neighbour's, or both are one. -/
def mendT {d : Nat} (kids : List (NT (d + 1))) (at' : Nat) : List (NT (d + 1)) :=
  let lone := (kidsT (kids.getD at' (dfT (d + 1)))).getD 0 (dfT d)
  if 0 < at' then
    let o := kidsT (kids.getD (at' - 1) (dfT (d + 1)))
    if o.length = 3 then (kids.set (at' - 1) (grpT (o.take 2))).set at' (grpT [o.getD 2 (dfT d), lone])
    else (kids.set (at' - 1) (grpT [o.getD 0 (dfT d), o.getD 1 (dfT d), lone])).take at' ++ kids.drop (at' + 1)
  else
    let o := kidsT (kids.getD 1 (dfT (d + 1)))
    if o.length = 3 then (kids.set 0 (grpT [lone, o.getD 0 (dfT d)])).set 1 (grpT (o.drop 1))
    else (kids.set 1 (grpT [lone, o.getD 0 (dfT d), o.getD 1 (dfT d)])).drop 1
def goneT (id : Int) : (d : Nat) → NT (d + 1) → NT (d + 1)
  | 0, x => grpT ((kidsT x).take (chP (fun f => decide (f ≤ id)) 0 (kidsT x) (kidsT x).length) ++ (kidsT x).drop (chP (fun f => decide (f ≤ id)) 0 (kidsT x) (kidsT x).length + 1))
  | d + 1, x =>
    let at' := chP (fun f => decide (f ≤ id)) (d + 1) (kidsT x) (kidsT x).length
    let k := goneT id d ((kidsT x).getD at' (dfT (d + 1)))
    grpT (if (kidsT k).length = 1 then mendT ((kidsT x).set at' k) at' else (kidsT x).set at' k)
/-- A group that has one alone, at a level; ls: the levels above. -/
def under (l : List Int) (g : Nat) (ls : List (List Int)) : List (List Int) :=
  match ls with
  | [] => []
  | above :: _ =>
    if l.getD (othr above g) 0 = 3 then (l.set (othr above g) 2).set g 2 :: ls
    else ((l.set (min g (othr above g)) 3).eraseIdx (gon above g)) :: delL ls (g : Nat)
theorem delL_cons (l : List Int) (ls : List (List Int)) (a : Int) : delL (l :: ls) a =
    if 2 ≤ l.getD (grpG l a) 0 - 1 then l.set (grpG l a) (l.getD (grpG l a) 0 - 1) :: ls else under (l.set (grpG l a) (l.getD (grpG l a) 0 - 1)) (grpG l a) ls := by
  cases ls with
  | nil => rfl
  | cons above ls => rfl
theorem delI_mid {A K C : List Int} {id : Int} (h : cnt (A ++ (K ++ C)) id = A.length + cnt K id) (hk : cnt K id < K.length) : delI (A ++ (K ++ C)) id = A ++ (delI K id ++ C) := by
  unfold delI
  rw [h, List.eraseIdx_append_of_length_le (by omega), Nat.add_sub_cancel_left, List.eraseIdx_append_of_lt_length hk]
theorem mend_two {d : Nat} (xa xb : List (NT (d + 1))) (o k : NT (d + 1)) {o0 o1 l0 : NT d} (ho : kidsT o = [o0, o1]) (hk : kidsT k = [l0]) : mendT (xa ++ o :: k :: xb) (xa.length + 1) = xa ++ grpT [o0, o1, l0] :: xb := by
  have e1 : (xa ++ o :: k :: xb).getD (xa.length + 1) (dfT (d + 1)) = k := by
    rw [List.getD_eq_getElem?_getD, List.getElem?_append_right (by omega), Nat.add_sub_cancel_left]
    rfl
  have e2 : (xa ++ o :: k :: xb).getD xa.length (dfT (d + 1)) = o := by
    rw [List.getD_eq_getElem?_getD, List.getElem?_append_right (Nat.le_refl _), Nat.sub_self]
    rfl
  unfold mendT
  simp only []
  rw [if_pos (Nat.succ_pos _), Nat.add_sub_cancel, e1, e2, ho, hk, if_neg (show ¬ [o0, o1].length = 3 from fun q => by simp at q), List.set_append_right _ _ (Nat.le_refl _), Nat.sub_self]
  simp only [List.set_cons_zero]
  rw [List.take_append, List.take_of_length_le (Nat.le_succ _), Nat.add_sub_cancel_left, List.drop_append, List.drop_eq_nil_of_le (by omega), show xa.length + 1 + 1 - xa.length = 2 by omega]
  simp
theorem mend_three {d : Nat} (xa xb : List (NT (d + 1))) (o k : NT (d + 1)) {o0 o1 o2 l0 : NT d} (ho : kidsT o = [o0, o1, o2]) (hk : kidsT k = [l0]) : mendT (xa ++ o :: k :: xb) (xa.length + 1) = xa ++ grpT [o0, o1] :: grpT [o2, l0] :: xb := by
  have e1 : (xa ++ o :: k :: xb).getD (xa.length + 1) (dfT (d + 1)) = k := by
    rw [List.getD_eq_getElem?_getD, List.getElem?_append_right (by omega), Nat.add_sub_cancel_left]
    rfl
  have e2 : (xa ++ o :: k :: xb).getD xa.length (dfT (d + 1)) = o := by
    rw [List.getD_eq_getElem?_getD, List.getElem?_append_right (Nat.le_refl _), Nat.sub_self]
    rfl
  unfold mendT
  simp only []
  rw [if_pos (Nat.succ_pos _), Nat.add_sub_cancel, e1, e2, ho, hk, if_pos (show [o0, o1, o2].length = 3 from rfl), List.set_append_right _ _ (Nat.le_refl _), Nat.sub_self]
  simp only [List.set_cons_zero]
  rw [List.set_append_right _ _ (Nat.le_succ _), show xa.length.succ - xa.length = 1 by omega]
  rfl
theorem mend_two0 {d : Nat} (xb : List (NT (d + 1))) (o k : NT (d + 1)) {o0 o1 l0 : NT d} (ho : kidsT o = [o0, o1]) (hk : kidsT k = [l0]) : mendT (k :: o :: xb) 0 = grpT [l0, o0, o1] :: xb := by
  unfold mendT
  simp only []
  rw [if_neg (Nat.lt_irrefl _)]
  show (if (kidsT o).length = 3 then _ else _) = _
  rw [show (k :: o :: xb).getD 1 (dfT (d + 1)) = o from rfl, show (k :: o :: xb).getD 0 (dfT (d + 1)) = k from rfl, ho, hk, if_neg (show ¬ [o0, o1].length = 3 from fun q => by simp at q)]
  rfl
theorem mend_three0 {d : Nat} (xb : List (NT (d + 1))) (o k : NT (d + 1)) {o0 o1 o2 l0 : NT d} (ho : kidsT o = [o0, o1, o2]) (hk : kidsT k = [l0]) : mendT (k :: o :: xb) 0 = grpT [l0, o0] :: grpT [o1, o2] :: xb := by
  unfold mendT
  simp only []
  rw [if_neg (Nat.lt_irrefl _)]
  show (if (kidsT o).length = 3 then _ else _) = _
  rw [show (k :: o :: xb).getD 1 (dfT (d + 1)) = o from rfl, show (k :: o :: xb).getD 0 (dfT (d + 1)) = k from rfl, ho, hk, if_pos (show [o0, o1, o2].length = 3 from rfl)]
  rfl
theorem kids_two {d : Nat} {o : NT (d + 1)} (h : wfT (d + 1) o) : (∃ o0 o1, kidsT o = [o0, o1] ∧ wfT d o0 ∧ wfT d o1) ∨ ∃ o0 o1 o2, kidsT o = [o0, o1, o2] ∧ wfT d o0 ∧ wfT d o1 ∧ wfT d o2 := by
  obtain ⟨h1, h2⟩ := h
  match hk : kidsT o, h1, h2 with
  | [a, b], _, h2 => exact .inl ⟨a, b, rfl, h2 a (by simp), h2 b (by simp)⟩
  | [a, b, c], _, h2 => exact .inr ⟨a, b, c, rfl, h2 a (by simp), h2 b (by simp), h2 c (by simp)⟩
  | [], h1, _ => simp at h1
  | [a], h1, _ => simp at h1
  | a :: b :: c :: e :: l, h1, _ => simp at h1
/-- What mending does: to what is below, and to how many. -/
structure MendOk {d : Nat} (xs M : List (NT (d + 1))) (i oth : Nat) : Prop where
  flat : flatT M = flatT xs
  wf : ∀ k ∈ M, wfT (d + 1) k
  lens : (M.length = xs.length ∧ (lensT xs).getD oth 0 = 3 ∧ lensT M = ((lensT xs).set oth 2).set i 2) ∨ (M.length + 1 = xs.length ∧ ¬ (lensT xs).getD oth 0 = 3 ∧ lensT M = ((lensT xs).set (min i oth) 3).eraseIdx (max i oth))
theorem wf_two {d : Nat} {a b : NT d} (h1 : wfT d a) (h2 : wfT d b) : wfT (d + 1) (grpT [a, b]) := ⟨.inl rfl, fun k hk => by
  have hk : k ∈ [a, b] := hk
  simp only [List.mem_cons, List.not_mem_nil, or_false] at hk
  rcases hk with rfl | rfl
  · exact h1
  · exact h2⟩
theorem wf_three {d : Nat} {a b c : NT d} (h1 : wfT d a) (h2 : wfT d b) (h3 : wfT d c) : wfT (d + 1) (grpT [a, b, c]) := ⟨.inr rfl, fun k hk => by
  have hk : k ∈ [a, b, c] := hk
  simp only [List.mem_cons, List.not_mem_nil, or_false] at hk
  rcases hk with rfl | rfl | rfl
  · exact h1
  · exact h2
  · exact h3⟩
theorem mend_ok {d : Nat} (P S : List (NT (d + 1))) (k : NT (d + 1)) {l0 : NT d} (hk : kidsT k = [l0]) (hl : wfT d l0) (hP : ∀ q ∈ P, wfT (d + 1) q) (hS : ∀ q ∈ S, wfT (d + 1) q) (hn : 0 < P.length + S.length) :
    MendOk (P ++ k :: S) (mendT (P ++ k :: S) P.length) P.length (if P.length = 0 then 1 else P.length - 1) := by
  have hlk : lensT [k] = [1] := by
    show [((kidsT k).length : Int)] = _
    rw [hk]
    rfl
  by_cases hp : P = []
  · subst hp
    match S, hS, hn with
    | o :: S, hS, _ =>
      rw [List.length_nil, if_pos rfl, List.nil_append]
      have hSS : ∀ q ∈ S, wfT (d + 1) q := fun q hq => hS q (List.mem_cons_of_mem _ hq)
      rcases kids_two (hS o (List.mem_cons_self ..)) with ⟨o0, o1, ho, w0, w1⟩ | ⟨o0, o1, o2, ho, w0, w1, w2⟩
      · rw [mend_two0 S o k ho hk]
        have hx : lensT (k :: o :: S) = 1 :: 2 :: lensT S := by
          show ((kidsT k).length : Int) :: ((kidsT o).length : Int) :: lensT S = _
          rw [hk, ho]
          rfl
        refine ⟨?_, fun q hq => ?_, .inr ⟨rfl, by rw [hx]; exact (show ¬ (2 : Int) = 3 by decide), by rw [hx]; rfl⟩⟩
        · rw [flatT_cons, flatT_cons, flatT_cons, hk, ho]
          rfl
        · rcases List.mem_cons.1 hq with rfl | hq
          · exact wf_three hl w0 w1
          · exact hSS q hq
      · rw [mend_three0 S o k ho hk]
        have hx : lensT (k :: o :: S) = 1 :: 3 :: lensT S := by
          show ((kidsT k).length : Int) :: ((kidsT o).length : Int) :: lensT S = _
          rw [hk, ho]
          rfl
        refine ⟨?_, fun q hq => ?_, .inl ⟨rfl, by rw [hx]; rfl, by rw [hx]; rfl⟩⟩
        · rw [flatT_cons, flatT_cons, flatT_cons, flatT_cons, hk, ho]
          rfl
        · rcases List.mem_cons.1 hq with rfl | hq
          · exact wf_two hl w0
          · rcases List.mem_cons.1 hq with rfl | hq
            · exact wf_two w1 w2
            · exact hSS q hq
  · obtain ⟨xa, o, rfl⟩ : ∃ xa o, P = xa ++ [o] := ⟨P.dropLast, P.getLast hp, (List.dropLast_concat_getLast hp).symm⟩
    have hlen : (xa ++ [o]).length = xa.length + 1 := by rw [List.length_append]; rfl
    rw [hlen, if_neg (by omega), Nat.add_sub_cancel, show xa ++ [o] ++ k :: S = xa ++ o :: k :: S by rw [List.append_assoc]; rfl]
    have hxa : (lensT xa).length = xa.length := List.length_map ..
    have hPa : ∀ q ∈ xa, wfT (d + 1) q := fun q hq => hP q (List.mem_append_left _ hq)
    rcases kids_two (hP o (List.mem_append_right _ (List.mem_singleton.2 rfl))) with ⟨o0, o1, ho, w0, w1⟩ | ⟨o0, o1, o2, ho, w0, w1, w2⟩
    · rw [mend_two xa S o k ho hk]
      have hx : lensT (xa ++ o :: k :: S) = lensT xa ++ 2 :: 1 :: lensT S := by
        rw [lensT_append]
        show _ ++ ((kidsT o).length : Int) :: ((kidsT k).length : Int) :: lensT S = _
        rw [hk, ho]
        rfl
      refine ⟨?_, fun q hq => ?_, .inr ⟨by simp; omega, ?_, ?_⟩⟩
      · rw [flatT_append, flatT_append, flatT_cons, flatT_cons, flatT_cons, hk, ho]
        rfl
      · rcases List.mem_append.1 hq with hq | hq
        · exact hPa q hq
        · rcases List.mem_cons.1 hq with rfl | hq
          · exact wf_three w0 w1 hl
          · exact hS q hq
      · rw [hx, List.getD_eq_getElem?_getD, List.getElem?_append_right (by omega), hxa, Nat.sub_self]
        exact (show ¬ (2 : Int) = 3 by decide)
      · rw [hx, Nat.min_eq_right (by omega), Nat.max_eq_left (by omega), List.set_append_right _ _ (by omega), hxa, Nat.sub_self, List.eraseIdx_append_of_length_le (by omega), hxa, Nat.add_sub_cancel_left, lensT_append]
        rfl
    · rw [mend_three xa S o k ho hk]
      have hx : lensT (xa ++ o :: k :: S) = lensT xa ++ 3 :: 1 :: lensT S := by
        rw [lensT_append]
        show _ ++ ((kidsT o).length : Int) :: ((kidsT k).length : Int) :: lensT S = _
        rw [hk, ho]
        rfl
      refine ⟨?_, fun q hq => ?_, .inl ⟨by simp, ?_, ?_⟩⟩
      · rw [flatT_append, flatT_append, flatT_cons, flatT_cons, flatT_cons, flatT_cons, hk, ho]
        rfl
      · rcases List.mem_append.1 hq with hq | hq
        · exact hPa q hq
        · rcases List.mem_cons.1 hq with rfl | hq
          · exact wf_two w0 w1
          · rcases List.mem_cons.1 hq with rfl | hq
            · exact wf_two w2 hl
            · exact hS q hq
      · rw [hx, List.getD_eq_getElem?_getD, List.getElem?_append_right (by omega), hxa, Nat.sub_self]
        rfl
      · rw [hx, List.set_append_right _ _ (by omega), hxa, Nat.sub_self, List.set_cons_zero, List.set_append_right _ _ (by omega), hxa, Nat.add_sub_cancel_left, lensT_append]
        rfl
theorem under_mid (F L G A : List Int) (B : List (List Int)) (i oth : Nat) (hi : i < L.length) (ho : oth < L.length) (h1 : othr A (F.length + i) = F.length + oth) (h2 : gon A (F.length + i) = F.length + max i oth) :
    under (F ++ (L ++ G)) (F.length + i) (A :: B) = if L.getD oth 0 = 3 then (F ++ ((L.set oth 2).set i 2 ++ G)) :: A :: B else (F ++ ((L.set (min i oth) 3).eraseIdx (max i oth) ++ G)) :: delL (A :: B) ((F.length + i : Nat) : Int) := by
  have hg : (F ++ (L ++ G)).getD (F.length + oth) 0 = L.getD oth 0 := by
    rw [List.getD_eq_getElem?_getD, List.getElem?_append_right (by omega), Nat.add_sub_cancel_left, List.getElem?_append_left ho, ← List.getD_eq_getElem?_getD]
  have hs : ∀ (X : List Int) (j : Nat) (z : Int), j < X.length → (F ++ (X ++ G)).set (F.length + j) z = F ++ (X.set j z ++ G) := fun X j z hj => by
    rw [List.set_append_right _ _ (by omega), Nat.add_sub_cancel_left, List.set_append_left _ _ hj]
  show (if (F ++ (L ++ G)).getD (othr A (F.length + i)) 0 = 3 then ((F ++ (L ++ G)).set (othr A (F.length + i)) 2).set (F.length + i) 2 :: A :: B else (((F ++ (L ++ G)).set (min (F.length + i) (othr A (F.length + i))) 3).eraseIdx (gon A (F.length + i))) :: delL (A :: B) ((F.length + i : Nat) : Int)) = _
  rw [h1, h2, hg, hs L oth 2 ho, hs (L.set oth 2) i 2 (by rw [List.length_set]; exact hi), show min (F.length + i) (F.length + oth) = F.length + min i oth by omega, hs L (min i oth) 3 (by omega),
    List.eraseIdx_append_of_length_le (by omega), Nat.add_sub_cancel_left, List.eraseIdx_append_of_lt_length (by rw [List.length_set]; omega)]
end Go.Proofs.Ytfgammcefaomeaa
