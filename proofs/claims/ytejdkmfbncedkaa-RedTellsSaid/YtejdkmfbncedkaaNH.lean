/- How many nodes a tree has, and which: towards RedHeight. -/
import Derived.Test.YtejdkmfbncedkaaQ
namespace Go.Proofs.Ytejdkmfbncedkaa
open Go Go.RowKit
def leavesN (l : List Nd) : Nat := (l.filter (fun x => x.lv == 0)).length
theorem leaves_upL (A : List Nd) (u : Int) : leavesN (upL A u) = leavesN A := by
  have e : ∀ l : List Nd, leavesN l = ((l.map cor).filter (fun c => c.lv == 0)).length := fun l => by
    unfold leavesN
    rw [List.filter_map, List.length_map]
    rfl
  rw [e, e, upL_cor]
theorem leaves_app (A B : List Nd) : leavesN (A ++ B) = leavesN A + leavesN B := by
  unfold leavesN
  rw [List.filter_append, List.length_append]
theorem leaves_one {x : Nd} {L : Nat} (h : x.lv = ((L + 1 : Nat) : Int)) : leavesN [x] = 0 := by
  unfold leavesN
  rw [List.filter_cons_of_neg (by rw [h]; simp; omega)]
  rfl
/-- As many leaves as lie in the span, and fewer nodes than twice as many. -/
theorem seg_count {n : Nat} {ls : List (List Int)} (h : Fit n ls) (kind : Int) : ∀ (L at' b : Nat), L ≤ ls.length → at' < cntN n ls L → leavesN (seg kind ls L at' b) = loN ls L (at' + 1) - loN ls L at' ∧ (seg kind ls L at' b).length + 1 ≤ 2 * (loN ls L (at' + 1) - loN ls L at')
  | 0, at', b, _, _ => by
    have e : loN ls 0 (at' + 1) - loN ls 0 at' = 1 := by show at' + 1 - at' = 1; omega
    rw [e]
    exact ⟨rfl, Nat.le_refl _⟩
  | L + 1, at', b, hL, ha => by
    obtain ⟨y, hy, hy23, hy1, hy2⟩ := fit_step h hL ha
    have cA := seg_count h kind L (fstN ls L at') b (by omega) (by omega)
    have cB := seg_count h kind L (fstN ls L at' + 1) (b + (seg kind ls L (fstN ls L at') b).length) (by omega) (by omega)
    have l1 := lo_lt h L (fstN ls L at') (by omega) (by omega)
    have l2 := lo_lt h L (fstN ls L at' + 1) (by omega) (by omega)
    have hlo : loN ls (L + 1) at' = loN ls L (fstN ls L at') := rfl
    have hhi : loN ls (L + 1) (at' + 1) = loN ls L (fstN ls L at' + y) := by rw [← hy1]; rfl
    rw [hlo, hhi]
    by_cases h2 : (ls.getD L []).getD at' 0 = 2
    · have hy' : y = 2 := by omega
      subst hy'
      simp only [seg]
      rw [if_pos h2]
      generalize seg kind ls L (fstN ls L at') b = A at *
      generalize seg kind ls L (fstN ls L at' + 1) (b + A.length) = B at *
      rw [show fstN ls L at' + 2 = fstN ls L at' + 1 + 1 from rfl]
      refine ⟨?_, ?_⟩
      · rw [leaves_app, leaves_app, leaves_upL, leaves_upL, leaves_one (L := L) rfl, cA.1, cB.1]
        omega
      · simp only [List.length_append, upL_length, List.length_cons, List.length_nil]
        omega
    · have hy' : y = 3 := by omega
      subst hy'
      have l3 := lo_lt h L (fstN ls L at' + 2) (by omega) (by omega)
      by_cases hk : kind = 1
      · have cC := seg_count h kind L (fstN ls L at' + 2) (b + (seg kind ls L (fstN ls L at') b).length + (seg kind ls L (fstN ls L at' + 1) (b + (seg kind ls L (fstN ls L at') b).length)).length) (by omega) (by omega)
        simp only [seg]
        rw [if_neg h2, if_pos hk]
        generalize seg kind ls L (fstN ls L at') b = A at *
        generalize seg kind ls L (fstN ls L at' + 1) (b + A.length) = B at *
        generalize seg kind ls L (fstN ls L at' + 2) (b + A.length + B.length) = C at *
        rw [show fstN ls L at' + 3 = fstN ls L at' + 2 + 1 from rfl]
        rw [show fstN ls L at' + 1 + 1 = fstN ls L at' + 2 from rfl] at cB l2
        refine ⟨?_, ?_⟩
        · rw [leaves_app, leaves_app, leaves_app, leaves_upL, leaves_upL, leaves_upL, leaves_one (L := L) rfl, cA.1, cB.1, cC.1]
          omega
        · simp only [List.length_append, upL_length, List.length_cons, List.length_nil]
          omega
      · have cC := seg_count h kind L (fstN ls L at' + 2) (b + (seg kind ls L (fstN ls L at') b).length + (seg kind ls L (fstN ls L at' + 1) (b + (seg kind ls L (fstN ls L at') b).length)).length + 1) (by omega) (by omega)
        rw [seg_red h2 hk]
        simp only []
        generalize seg kind ls L (fstN ls L at') b = A at *
        generalize seg kind ls L (fstN ls L at' + 1) (b + A.length) = B at *
        generalize seg kind ls L (fstN ls L at' + 2) (b + A.length + B.length + 1) = C at *
        rw [show fstN ls L at' + 3 = fstN ls L at' + 2 + 1 from rfl]
        rw [show fstN ls L at' + 1 + 1 = fstN ls L at' + 2 from rfl] at cB l2
        refine ⟨?_, ?_⟩
        · rw [leaves_app, leaves_app, leaves_upL, leaves_upL]
          rw [show ∀ (r : Nd) (l : List Nd), r :: l = [r] ++ l from fun _ _ => rfl, leaves_app, leaves_app, leaves_upL, leaves_one (L := L) rfl, leaves_one (L := L) rfl, cA.1, cB.1, cC.1]
          omega
        · simp only [List.length_append, upL_length, List.length_cons, List.length_nil]
          omega
theorem nodes_count {kind : Int} {ids : List Int} {ls : List (List Int)} (hok : OkT ids ls) (hz : ¬ ids.length = 0) : leavesN (nodesL kind ids ls) = ids.length ∧ (nodesL kind ids ls).length < 2 * ids.length := by
  have hf := okLv_fit ls ids.length hok.2
  have h := seg_count hf kind ls.length 0 0 (Nat.le_refl _) (by rw [cnt_top hok hz]; exact Nat.one_pos)
  have h1 := lo_end hf ls.length (Nat.le_refl _)
  rw [cnt_top hok hz] at h1
  rw [lo_zero, Nat.zero_add, h1, Nat.sub_zero, ← nodes_seg hok hz] at h
  exact ⟨h.1, h.2⟩
end Go.Proofs.Ytejdkmfbncedkaa

