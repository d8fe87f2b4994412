/- A map from numbers to steps of one's own, as a function. -/
import Derived.Test.YtfgammcefaomeaaP5
namespace Go.Proofs.Ytfgammcefaomeaa
open Go Go.RowKit
set_option linter.unusedSimpArgs false
def stepRel (v : Value) : Option (DataW Value × List MemPlace) := some (.held v, [])
def stepZ : Value := .agg (stR 0 0 (.slice none 0 0)).toArray
def MapS (w : World) (b n : Nat) (f : Int → Option Value) : Prop := n ≤ 1000000 ∧ ∃ D : DataW Value, w.ownsMap Try.prog 3 stepRel b n D ∧
  ∀ x : Int, (Lit.int .i64 x).wf = true → Maps.has D (.int .i64 x) = (f x).isSome ∧ D.atKey (.int .i64 x) (.held stepZ) = .held ((f x).getD stepZ)
theorem MapS.made (w : World) : MapS (w.alloc (.map #[] 0)) w.heap.size 0 (fun _ => none) :=
  ⟨by omega, .map [], World.ownsMap_made w _ _ _, fun x _ => ⟨by simp [Maps.has], by simp [DataW.atKey]⟩⟩
theorem MapS.keep {w w' : World} {b n : Nat} {f : Int → Option Value} (h : MapS w b n f) (hk : w'.heap[b]? = w.heap[b]?) : MapS w' b n f := by
  obtain ⟨h1, D, ⟨es, clock, hb, hr⟩, h3⟩ := h
  exact ⟨h1, D, ⟨es, clock, hk.trans hb, hr⟩, h3⟩
theorem MapS.blk {w : World} {b n : Nat} {f : Int → Option Value} (h : MapS w b n f) : ∃ es clock, w.heap[b]? = some (.map es clock) := by
  obtain ⟨h1, D, ⟨es, clock, hb, hr⟩, -⟩ := h
  exact ⟨es, clock, hb⟩
theorem MapS.lt {w : World} {b n : Nat} {f : Int → Option Value} (h : MapS w b n f) : b < w.heap.size := by
  obtain ⟨es, clock, hb⟩ := h.blk
  exact heap_lt hb
theorem MapS.aft {w w' : World} {b n : Nat} {f : Int → Option Value} (h : MapS w b n f) (ha : Aft w w') : MapS w' b n f := h.keep (ha.block b h.lt)
theorem MapS.congr {w : World} {b n : Nat} {f f' : Int → Option Value} (h : MapS w b n f) (e : ∀ x, f x = f' x) : MapS w b n f' := by
  rw [show f' = f from (funext e).symm]
  exact h
set_option maxRecDepth 100000 in
theorem MapS.look {w : World} {b n : Nat} {f : Int → Option Value} (h : MapS w b n f) {z : Int} (hz : (Lit.int .i64 z).wf = true) : (Instr.lookup 66 (.map (some b)) (.int .i64 z) true).run Try.prog w = .ok (.tuple #[(f z).getD stepZ, .bool (f z).isSome]) w := by
  obtain ⟨h1, D, hD, h3⟩ := h
  have hzv : (zeroValue 40).run Try.prog w = .ok stepZ w := by kernel_rfl
  obtain ⟨v, ps, hr, hv⟩ := hD.look_ok int_key Try.underlying66 hzv (zd := .held stepZ) (zp := []) rfl (key_int hz)
  have hv : some (DataW.held v, []) = some (D.atKey (.int .i64 z) (.held stepZ), ps) := hv
  have hc := congrArg Prod.fst (Option.some.inj hv)
  have hc : DataW.held v = D.atKey (.int .i64 z) (.held stepZ) := hc
  rw [(h3 z hz).2] at hc
  injection hc with e1
  rw [e1] at hr
  rw [(h3 z hz).1] at hr
  exact hr
section
variable {ops : Array Oper} {rest : List Oper} {o : Oper} {a : Act} {w : World} {Q : Exit → Act → World → Prop}
theorem wpList_makeMapSt (hw : Region.wanted o (yielded ops a.tmps) = true) (ho : o.op = .makeMap 66 none)
    (h : ∀ w', Aft w w' → Hid (MapS w' w.heap.size 0 (fun _ => none)) → wpList Try.prog ops Q rest (a.put o.dst (.map (some w.heap.size))) w') : wpList Try.prog ops Q (o :: rest) a w := by
  unfold wpList
  rw [if_pos hw]
  refine .inl (wp_noOut ?_)
  unfold Oper.wp execOp
  have hr : (Instr.makeMap 66 none).run Try.prog w = .ok (.map (some w.heap.size)) (w.alloc (.map #[] 0)) := by kernel_rfl
  simp only [ho, Option.map_none, hr, Sem.run_bind, Result.andThen_ok, Sem.run_pure]
  exact h _ (Aft.alloc w _) (Lib.hid (MapS.made w))
theorem wpList_putSt (hgd : o.guard = none) (m x y : Operand) (ho : o.op = .mapUpdate 66 m x y) (b n : Nat) (f : Int → Option Value) (hm : a.eval m = .map (some b)) (hS : MapS w b n f) (z : Int) (v : Value) (hx : a.eval x = .int .i64 z) (hz : (Lit.int .i64 z).wf = true) (hy : a.eval y = v) (hn : n < 1000000)
    (h : ∀ w', Hid (MapS w' b (n + 1) (fun q => if q = z then some v else f q)) → Hid (w.grownBy w' (some b)) → wpList Try.prog ops Q rest (a.put o.dst undef) w') : wpList Try.prog ops Q (o :: rest) a w := by
  obtain ⟨h1, D, hD, h3⟩ := hS
  refine wpList_mapUpdate_own w hgd m x y 66 ho 3 40 int_key Try.underlying66 stepRel b n D hm hD (by unfold maxLen; omega) _ _ (.int .i64 z) hx hy (key_int hz) (.held v) [] rfl ?_
  intro w' k1 k2
  have hk : WideAt.IsKeyLit (.int .i64 z) := int_key.key (key_int hz)
  refine h w' (Lib.hid ⟨by omega, _, k1, fun q hq => ?_⟩) (Lib.hid k2)
  by_cases e : q = z
  · subst e
    rw [Maps.has_put_same hD.isMap hk, Maps.atKey_put_same hD.isMap hk]
    simp
  · have hne : (Lit.int .i64 q) ≠ .int .i64 z := fun q2 => by injection q2 with _ q3; exact e q3
    rw [Maps.has_put_other hne, Maps.atKey_put_other hne, (h3 q hq).1, (h3 q hq).2]
    simp [e]
end
end Go.Proofs.Ytfgammcefaomeaa
