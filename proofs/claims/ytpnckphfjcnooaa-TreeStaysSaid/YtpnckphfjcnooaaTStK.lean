/- TreeStays of law 10: small laws, and the body of its loop. -/
import Derived.Deep.Cut
import Derived.Test.YtpnckphfjcnooaaTNear
import Derived.Test.YtpnckphfjcnooaaTMap
import Derived.Test.YtpnckphfjcnooaaOpenOps
namespace Go.Proofs.Ytpnckphfjcnooaa
open Go Go.RowKit
set_option linter.unusedSimpArgs false
theorem op_info (x : Int × Bool) : (Try.prog.info? 59).map (·.size) = some (opR x).toArray.size := by kernel_rfl
theorem op_info2 (x : Int × Bool) : (Try.prog.info? 59).map (·.size) = some (opR x).length := by kernel_rfl
theorem op_sz (x : Int × Bool) : (opR x).toArray.size = 2 := rfl
theorem opR_one (x : Int × Bool) : ∀ u ∈ opR x, u.oneCell' = true := (opR_row [x] _ (by simp)).2
theorem alloc_op (w : World) : (Instr.alloc 59 true (.tuple #[])).run Try.prog w = .ok (.pointer (some ⟨w.heap.size, 0, none⟩)) (w.alloc (.cells (opR (0, false)).toArray 59)) := by kernel_rfl
theorem op_i {w : World} {g : Nat} {x : Int × Bool} {t : TypeId} {fr : Nat × Nat} (h : w.heap[g]? = some (.cells (opR x).toArray t fr)) : w.cell? ⟨g, 0, none⟩ = some (.int .i64 x.1) := cell_part h rfl
theorem op_o {w : World} {g : Nat} {x : Int × Bool} {t : TypeId} {fr : Nat × Nat} (h : w.heap[g]? = some (.cells (opR x).toArray t fr)) : w.cell? ⟨g, 1, none⟩ = some (.bool x.2) := cell_part h rfl
theorem Tr.shape {w : World} {base : Nat} {vi vl : Value} {ids : List Int} {ls : List (List Int)} (h : Tr w base vi vl ids ls) : ∃ a c b d, vi = .slice a ids.length c ∧ vl = .slice b ls.length d := h.choose_spec.shape
theorem Tr.map {w w' : World} {b n base : Nat} {vi vl : Value} {ids ms : List Int} {ls : List (List Int)} (hm : SetM w b n ms) (h : Tr w base vi vl ids ls) (hg : w.grownBy w' (some b)) : Tr w' base vi vl ids ls := ⟨h.choose, h.choose_spec.map hm hg⟩
theorem wpList_skipG {P : Program} {ops : Array Oper} {rest : List Oper} {o : Oper} {a : Act} {w : World} {Q : Exit → Act → World → Prop} (hw : Region.wanted o (yielded ops a.tmps) = false) (h : wpList P ops Q rest (a.put o.dst undef) w) : wpList P ops Q (o :: rest) a w := by
  unfold wpList
  rw [if_neg (by rw [hw]; decide)]
  exact h
theorem wpList_valK {P : Program} {ops : Array Oper} {rest : List Oper} {o : Oper} {a : Act} {w : World} {Q : Exit → Act → World → Prop} (hw : Region.wanted o (yielded ops a.tmps) = true) (v : Value) (hv : (execOp a.eval o).run P w = .ok (.value v) w) (h : wpList P ops Q rest (a.put o.dst v) w) : wpList P ops Q (o :: rest) a w := by
  unfold wpList
  rw [if_pos hw]
  refine .inl (wp_noOut ?_)
  unfold Oper.wp
  rw [hv]
  exact h
def firstLoop : Code → Option Code
  | .loop c => some c
  | .seq a b => match firstLoop a with
    | some c => some c
    | none => firstLoop b
  | .block _ c => firstLoop c
  | .scope c => firstLoop c
  | .cond _ a b => match firstLoop a with
    | some c => some c
    | none => firstLoop b
  | _ => none
theorem run_shl (L : Nat) (h : L ≤ 9) (w : World) : (Go.binOp .shl 3 (.int .i64 1) (.int .i64 (L : Nat))).run Try.prog w = .ok (.int .i64 ((2 : Int) ^ L)) w :=
  match L, h with
  | 0, _ => by show _ = _; kernel_rfl
  | 1, _ => by show _ = _; kernel_rfl
  | 2, _ => by show _ = _; kernel_rfl
  | 3, _ => by show _ = _; kernel_rfl
  | 4, _ => by show _ = _; kernel_rfl
  | 5, _ => by show _ = _; kernel_rfl
  | 6, _ => by show _ = _; kernel_rfl
  | 7, _ => by show _ = _; kernel_rfl
  | 8, _ => by show _ = _; kernel_rfl
  | 9, _ => by show _ = _; kernel_rfl
theorem lv_nine {ids : List Int} {ls : List (List Int)} (h : OkT ids ls) : ls.length ≤ 9 := by
  by_cases hz : ids.length = 0
  · have h2 := h.2
    rw [hz] at h2
    rw [okLv_zero h2]
    exact Nat.zero_le _
  · have h2 := okLv_high ls ids.length h.2 (by omega)
    refine Nat.le_of_not_lt fun q => ?_
    have h3 : (2 : Int) ^ 10 ≤ 2 ^ ls.length := by
      rw [show ls.length = 10 + (ls.length - 10) by omega, Int.pow_add]
      have h3 : ∀ n : Nat, (1 : Int) ≤ 2 ^ n := fun n => by
        induction n with
        | zero => decide
        | succ n ih => rw [Int.pow_succ]; omega
      have h3 := h3 (ls.length - 10)
      omega
    have := h.1.1
    have h4 : (2 : Int) ^ 10 = 1024 := by decide
    omega
theorem run_lenS {w : World} {b n : Nat} {xs : List Int} (h : SetM w b n xs) (o : Oper) (m : Operand) (ho : o.op = .call { callee := .builtin .len, args := #[m], argTypes := #[57] }) (e : Operand → Value) (hm : e m = .map (some b)) : (execOp e o).run Try.prog w = .ok (.value (.int .i64 (xs.length : Nat))) w := by
  have h1 := h.len o.type
  unfold execOp
  simp only [ho, resolve, invoke, builtin, hm, Sem.run_bind, List.map_toArray, List.map_cons, List.map_nil, Result.andThen_ok, Sem.run_pure, h1]
noncomputable def stBody : Code := (Try.f12.body.bind firstLoop).getD .skip
/-- What stands at the head of a round. -/
def StRel (w : World) (gs gm n k : Nat) (wr : World) : Prop := ∃ (ui ul : Value) (ids : List Int) (ls : List (List Int)), k ≤ n ∧ OkT ids ls ∧ ids.length ≤ k ∧ SetM wr gm k ids ∧ Tr wr w.heap.size ui ul ids ls ∧ Led w wr [(gs, .cells (shpL ui ul).toArray 26)]
end Go.Proofs.Ytpnckphfjcnooaa
