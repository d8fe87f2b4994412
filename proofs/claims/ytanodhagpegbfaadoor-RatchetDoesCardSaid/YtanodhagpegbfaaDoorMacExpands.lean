/- coterielaw03.MacExpands: it answers true. -/
import Derived.Test.YtanodhagpegbfaaDoorDerive
namespace Go.Proofs.YtanodhagpegbfaaDoor
open Go Go.RowKit
theorem wpList_load_rowG {P : Program} {ops : Array Oper} {rest : List Oper} {o : Oper} {a : Act} {w : World} {Q : Exit → Act → World → Prop} (hw : Region.wanted o (yielded ops a.tmps) = true) (ty : TypeId) (x : Operand) (ho : o.op = .load ty x)
    (g : Nat) (hx : a.eval x = .pointer (some ⟨g, 0, none⟩)) (t : TypeId) (cs : Array Value) (fr : Nat × Nat) (d : TypeDesc) (hg : w.heap[g]? = some (.cells cs t fr))
    (hu : P.underlying ty = some d) (hd : (match d with | .struct _ | .array _ _ => true | _ => false) = true) (hi : (P.info? ty).map (·.size) = some cs.size)
    (h : wpList P ops Q rest (a.put o.dst (.agg cs)) w) : wpList P ops Q (o :: rest) a w := by
  unfold wpList
  rw [if_pos hw]
  exact .inl (wp_noOut (wp_load_row ty x ho g hx t cs fr d hg hu hd hi h))
theorem fewSum_ge : ∀ ts : List (List (BitVec 8)), (∀ x ∈ ts, x.length ≤ 65535) → (textsB ts).length = 2 * ts.length + fewSum ts
  | [], _ => rfl
  | t :: ts, h => by
    have ih := fewSum_ge ts (fun x hx => h x (by simp [hx]))
    have ht := h t (by simp)
    unfold textsB fewSum at ih ⊢
    rw [List.flatMap_cons, List.length_append, List.length_append, beL_length, ih, List.map_cons, List.sum_cons, List.length_cons, Nat.min_eq_left (by omega)]
    omega
theorem drv_len {L : List (BitVec 8)} {ctx : List (List (BitVec 8))} (hf : few ctx) (h : textOk (drvT L ctx) = true) : (textsB (drvT L ctx)).length ≤ 1048576 := by
  have h2 : ∀ x ∈ drvT L ctx, x.length ≤ 65535 := fun x hx => of_decide_eq_true (List.all_eq_true.1 h x hx)
  have hL := h2 L (by simp [drvT])
  rw [fewSum_ge _ h2]
  have e : fewSum (drvT L ctx) = 7 + min L.length 70000 + fewSum ctx := by
    unfold drvT fewSum
    rw [List.map_cons, List.map_cons, List.sum_cons, List.sum_cons]
    show 7 + _ = _
    omega
  have hl : (drvT L ctx).length = ctx.length + 2 := by simp [drvT]
  rw [e, hl]
  have := hf.1
  have := hf.2
  omega
end Go.Proofs.YtanodhagpegbfaaDoor

