/- Path and Spans of the document of law 10. -/
import Derived.Test.YtfgammcefaomeaaT17
import Derived.Test.YtfgammcefaomeaaT18
namespace Go.Proofs.Ytfgammcefaomeaa
open Go Go.RowKit
set_option linter.unusedSimpArgs false
theorem wpList_fromI {ops : Array Oper} {rest : List Oper} {o : Oper} {a : Act} {w : World} {Q : Exit → Act → World → Prop} (hw : Region.wanted o (yielded ops a.tmps) = true) (x y : Operand) (ho : o.op = .slice 22 x (some y) none none) (ao : Option Addr) (len cap : Nat) (xs : List Int) (hx : a.eval x = .slice ao len cap) (n : Nat) (hy : a.eval y = .int .i64 (n : Int)) (wq : World) (hr : Rd wq (.slice ao len cap) (zv xs)) (hn : n ≤ xs.length)
    (h : ∀ ax cx, Hid (Rd wq (.slice ax (xs.length - n) cx) (zv (xs.drop n))) → wpList Try.prog ops Q rest (a.put o.dst (.slice ax (xs.length - n) cx)) w) : wpList Try.prog ops Q (o :: rest) a w := by
  obtain ⟨i0, hi0, hz1, hz2, hz3⟩ := info_parts info_int
  obtain ⟨ax, h1, h2⟩ := cut_from_ex (P := Try.prog) Try.underlying22 hi0 hz2 hr (n := n) (by rw [zv_length]; exact hn)
  have hl := hr.sl.1
  rw [zv_length] at hl
  subst hl
  have h3 := cut_from (P := Try.prog) Try.underlying22 (ao := ao) (len := xs.length) (cap := cap) (n := n) hn w hi0 hz2
  unfold wpList
  rw [if_pos hw]
  refine .inl (wp_noOut ?_)
  unfold Oper.wp execOp
  simp only [ho, hx, hy, Option.map_some, Option.map_none, h3, Sem.run_bind, Result.andThen_ok, Sem.run_pure]
  have h4 := hr.from (n := n) (by rw [zv_length]; exact hn)
  rw [zv_drop] at h4
  exact h _ _ (Lib.hid h4)
def nn (l : List Int) : Prop := ∀ x ∈ l, 0 ≤ x
theorem nn_sum : ∀ {l : List Int}, nn l → 0 ≤ l.sum
  | [], _ => by simp
  | x :: l, h => by
    have h1 := h x (by simp)
    have h2 := nn_sum (l := l) fun y hy => h y (by simp [hy])
    rw [List.sum_cons]
    omega
theorem nn_take {l : List Int} (h : nn l) (i : Nat) : nn (l.take i) := fun x hx => h x (List.mem_of_mem_take hx)
theorem nn_drop {l : List Int} (h : nn l) (i : Nat) : nn (l.drop i) := fun x hx => h x (List.mem_of_mem_drop hx)
theorem frm_nn {l : List Int} (h : nn l) (i : Nat) : 0 ≤ frm l i ∧ frm l i ≤ l.sum := by
  have h1 := nn_sum (nn_take h i)
  have h2 := nn_sum (nn_drop h i)
  have h3 : (l.take i).sum + (l.drop i).sum = l.sum := by rw [← List.sum_append, List.take_append_drop]
  unfold frm
  omega
theorem drop_sum {l : List Int} (h : nn l) (i : Nat) : (l.drop i).sum ≤ l.sum := by
  have h1 := nn_sum (nn_take h i)
  have h3 : (l.take i).sum + (l.drop i).sum = l.sum := by rw [← List.sum_append, List.take_append_drop]
  omega
theorem spW_nn : ∀ (l : List Int) {wide : List Int}, nn wide → nn (spW l wide)
  | [], _, _ => fun x hx => by simp [spW] at hx
  | n :: l, wide, h => fun x hx => by
    rw [spW, List.mem_cons] at hx
    rcases hx with rfl | hx
    · exact nn_sum (nn_take h _)
    · exact spW_nn l (nn_drop h _) x hx
theorem spW_sum {l wide : List Int} (hp : pos l) (hs : l.sum = (wide.length : Nat)) : (spW l wide).sum = wide.sum := by
  have h := spW_take l wide l.length hp
  rw [List.take_of_length_le (by rw [spW_length]; exact Nat.le_refl _), frm_all, hs, Int.toNat_natCast, List.take_length] at h
  exact h
theorem wideL_snoc (n : Nat) (ls : List (List Int)) (l : List Int) : wideL n (ls ++ [l]) = spW l (wideL n ls) := by
  unfold wideL
  rw [List.foldl_append]
  rfl
theorem pre_length (F : List Int) : (pre F).length = F.length + 1 := by simp [pre]
theorem pre_snoc {F : List Int} {i : Nat} (h : i < F.length) : (pre F).take (i + 1 + 1) = (pre F).take (i + 1) ++ [frm F (i + 1)] := by
  rw [List.take_succ_eq_append_getElem (by rw [pre_length]; omega)]
  congr 2
  have := pre_at (wide := F) (j := i + 1) (by omega)
  rw [List.getD_eq_getElem?_getD, List.getElem?_eq_getElem (by rw [pre_length]; omega)] at this
  exact this
theorem pre_one (F : List Int) : (pre F).take 1 = [0] := by
  unfold pre
  rw [List.range_succ_eq_map]
  simp
theorem pre_last {F : List Int} {i : Nat} (h : i ≤ F.length) : ((pre F).take (i + 1)).getD i 0 = frm F i := by
  rw [List.getD_eq_getElem?_getD, List.getElem?_take_of_lt (Nat.lt_succ_self i), ← List.getD_eq_getElem?_getD, pre_at h]
  rfl
end Go.Proofs.Ytfgammcefaomeaa

