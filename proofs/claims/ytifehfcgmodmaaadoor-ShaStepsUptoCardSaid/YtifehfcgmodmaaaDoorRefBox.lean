/- The words at the head of a sum that stands in a block: loaded, and stored, as an array. -/
import Derived.Test.YtifehfcgmodmaaaDoorRefCheck
import Derived.Test.YtifehfcgmodmaaaDoorShaParts
namespace Go.Proofs.YtifehfcgmodmaaaDoor
open Go Go.RowKit
theorem sha_words (s : St) (N : Nat) (vr : Value) : shaArr s N vr = ((stArr s).toList ++ [.int .u64 (N : Int), vr]).toArray := rfl
theorem stArr_len (s : St) : (stArr s).toList.length = 8 := rfl
theorem run_loadVar_st (w : World) (g : Nat) (s : St) (N : Nat) (vr : Value) (hg : w.heap[g]? = some (.cells (shaArr s N vr) 37 (0, 0))) :
    (loadVar 34 ⟨g, 0, none⟩).run Tryd.prog w = .ok (.agg (stArr s)) w := by
  have hl : (loadCells ⟨g, 0, none⟩ (stArr s).toList.length).run Tryd.prog w = .ok (stArr s).toList.toArray w :=
    run_loadCells_list (P := Tryd.prog) w ⟨g, 0, none⟩ (stArr s).toList (fun j v hv => by
      have hj : j < (stArr s).toList.length := (List.getElem?_eq_some_iff.1 hv).1
      have hadd : (⟨g, 0, none⟩ : Addr).add j = ⟨g, j, none⟩ := by unfold Addr.add; split <;> simp_all
      rw [hadd, cell_of_row w g j _ _ _ hg, sha_words, List.getElem?_toArray, List.getElem?_append_left hj]
      exact hv)
  obtain ⟨i, hq, hs⟩ := Option.map_eq_some_iff.1 (st_info s)
  have hagg : (isAgg 34).run Tryd.prog w = .ok true w := by
    unfold isAgg
    rw [Sem.run_bind, run_underlying Tryd.underlying34 w]
    rfl
  simp only [Array.length_toList, Array.toArray_toList] at hl
  simp [loadVar, Sem.run_bind, hagg, sizeOf, typeInfo, hq, hs, hl]
theorem run_storeVar_st (w : World) (g : Nat) (s s' : St) (N : Nat) (vr : Value) (hg : w.heap[g]? = some (.cells (shaArr s N vr) 37 (0, 0))) :
    (storeVar 34 ⟨g, 0, none⟩ (.agg (stArr s'))).run Tryd.prog w = .ok () (w.setRow g (shaArr s' N vr)) := by
  have h := run_storeCells_at Tryd.prog g 0 37 (stArr s').toList 0 (shaArr s N vr) w hg (by rw [stArr_len]; show 8 ≤ 10; decide) (fun v hv => (Array.all_eq_true_iff_forall_mem.1 (stArr_one s')) v (by simpa using hv))
  have e : ((shaArr s N vr).toList.take (0 + 0) ++ (stArr s').toList ++ (shaArr s N vr).toList.drop (0 + 0 + (stArr s').toList.length)).toArray = shaArr s' N vr := rfl
  rw [e] at h
  obtain ⟨i, hq, hs⟩ := Option.map_eq_some_iff.1 (st_info s')
  have hs' : (stArr s').size = i.size := hs.symm
  simp [storeVar, sizeOf, typeInfo, hq, Value.cells, hs', h]
section
variable {ops : Array Oper} {rest : List Oper} {o : Oper} {a : Act} {w : World} {Q : Exit → Act → World → Prop}
theorem wpList_load_st (hgd : o.guard = none) (x : Operand) (ho : o.op = .load 34 x)
    (g : Nat) (s : St) (N : Nat) (vr : Value) (hx : a.eval x = .pointer (some ⟨g, 0, none⟩)) (hg : w.heap[g]? = some (.cells (shaArr s N vr) 37 (0, 0)))
    (h : wpList Tryd.prog ops Q rest (a.put o.dst (.agg (stArr s))) w) : wpList Tryd.prog ops Q (o :: rest) a w :=
  wpList_plain hgd fun K hK => by
    unfold Oper.wp execOp
    simp only [ho, hx, Instr.loadAt, Instr.sureAddr, Sem.run_bind, Sem.run_pure, Result.andThen_ok, run_loadVar_st w g s N vr hg]
    exact hK _ _ h
theorem wpList_store_st (hgd : o.guard = none) (x y : Operand) (ho : o.op = .store 34 x y)
    (g : Nat) (s s' : St) (N : Nat) (vr : Value) (hx : a.eval x = .pointer (some ⟨g, 0, none⟩)) (hy : a.eval y = .agg (stArr s')) (hg : w.heap[g]? = some (.cells (shaArr s N vr) 37 (0, 0)))
    (h : ∀ w', Hid (w'.heap[g]? = some (.cells (shaArr s' N vr) 37 (0, 0))) → Hid (Fr (fun k => k = g) w w') → wpList Tryd.prog ops Q rest (a.put o.dst undef) w') : wpList Tryd.prog ops Q (o :: rest) a w :=
  wpList_plain hgd fun K hK => by
    unfold Oper.wp execOp
    simp only [ho, hx, hy, Instr.storeAt, Instr.sureAddr, Sem.run_bind, Sem.run_pure, Result.andThen_ok, run_storeVar_st w g s s' N vr hg]
    exact hK _ _ (h _ (show _ = _ from setRow_heap _ _ _ _ _ _ hg) (show Fr _ _ _ from ⟨rfl, rfl, rfl, by simp, fun k _ hk => setRow_other w g k _ hk⟩))
end
section
variable {ops : Array Oper} {w0 : World} {Kd : Nat → Nat} {Q : Exit → Act → World → Prop} {n k : Nat} {o : Oper} {l : List Oper} {a : Act} {w : World}
theorem lf_load_st (hk : Kd k = 0) (hw : Region.wanted o (yielded ops a.tmps) = true) (x : Operand) (ho : o.op = .load 34 x)
    (g : Nat) (hx : a.eval x = .pointer (some ⟨g, 0, none⟩)) (s : St) (N : Nat) (vr : Value) (hg : w0.heap[g]? = some (.cells (shaArr s N vr) 37 (0, 0)))
    (h : wpFx Tryd.prog ops w0 Kd Q n (k + 1) l (a.put o.dst (.agg (stArr s))) w) : wpFx Tryd.prog ops w0 Kd Q (n + 1) k (o :: l) a w := by
  have hup := wpFx_up (P := Tryd.prog) (ops := ops) (w0 := w0) (Kd := Kd) (Q := Q) n (k + 1) l
  simp only [wpFx_succ, stepF, hw, if_true, hk]
  rw [if_neg (by omega)]
  refine ⟨none, fun _ => .agg (stArr s), fun _ => rfl, fun w1 hw1 _ => .inl ?_, fun w1 g hw1 _ => hup _ _ _ hw1 h⟩
  unfold execOp
  simp only [ho, hx, Instr.loadAt, Instr.sureAddr, Sem.run_bind, Sem.run_pure, Result.andThen_ok, run_loadVar_st w1 g s N vr (hw1.get hg)]
end
end Go.Proofs.YtifehfcgmodmaaaDoor
