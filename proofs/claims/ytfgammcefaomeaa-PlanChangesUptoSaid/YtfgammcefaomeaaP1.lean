/- plan's maker in memory; a map from numbers to numbers of one's own; what is kept, plainly. -/
import Derived.Test.YtfgammcefaomeaaB4
import Derived.Test.YtfgammcefaomeaaTMap
namespace Go.Proofs.Ytfgammcefaomeaa
open Go Go.RowKit
set_option linter.unusedSimpArgs false
/-- A map of one's own, as a function. -/
def MapM (w : World) (b n : Nat) (f : Int → Option Int) : Prop := n ≤ 1000000 ∧ ∃ D : DataW Unit, w.ownsMap Try.prog 3 (plainElem Try.prog 3) b n D ∧
  ∀ x : Int, (Lit.int .i64 x).wf = true → Maps.has D (.int .i64 x) = (f x).isSome ∧ D.atKey (.int .i64 x) (.lit (.int .i64 0)) = .lit (.int .i64 ((f x).getD 0))
theorem MapM.made (w : World) : MapM (w.alloc (.map #[] 0)) w.heap.size 0 (fun _ => none) :=
  ⟨by omega, .map [], World.ownsMap_made w _ _ _, fun x _ => ⟨by simp [Maps.has], by simp [DataW.atKey]⟩⟩
theorem MapM.keep {w w' : World} {b n : Nat} {f : Int → Option Int} (h : MapM w b n f) (hk : w'.heap[b]? = w.heap[b]?) : MapM w' b n f := by
  obtain ⟨h1, D, ⟨es, clock, hb, hr⟩, h3⟩ := h
  exact ⟨h1, D, ⟨es, clock, hk.trans hb, hr⟩, h3⟩
theorem MapM.blk {w : World} {b n : Nat} {f : Int → Option Int} (h : MapM w b n f) : ∃ es clock, w.heap[b]? = some (.map es clock) := by
  obtain ⟨h1, D, ⟨es, clock, hb, hr⟩, -⟩ := h
  exact ⟨es, clock, hb⟩
theorem MapM.lt {w : World} {b n : Nat} {f : Int → Option Int} (h : MapM w b n f) : b < w.heap.size := by
  obtain ⟨es, clock, hb⟩ := h.blk
  exact heap_lt hb
theorem MapM.aft {w w' : World} {b n : Nat} {f : Int → Option Int} (h : MapM w b n f) (ha : Aft w w') : MapM w' b n f := h.keep (ha.block b h.lt)
theorem MapM.congr {w : World} {b n : Nat} {f f' : Int → Option Int} (h : MapM w b n f) (e : ∀ x, f x = f' x) : MapM w b n f' := by
  rw [show f' = f from (funext e).symm]
  exact h
set_option maxRecDepth 100000 in
theorem MapM.look {w : World} {b n : Nat} {f : Int → Option Int} (h : MapM w b n f) {z : Int} (hz : (Lit.int .i64 z).wf = true) : (Instr.lookup 71 (.map (some b)) (.int .i64 z) true).run Try.prog w = .ok (.tuple #[.int .i64 ((f z).getD 0), .bool (f z).isSome]) w := by
  obtain ⟨h1, D, hD, h3⟩ := h
  obtain ⟨v, ps, hr, hv⟩ := hD.look_ok int_key Try.underlying71 (Try.zeroValue3 w) (plainElem_int Try.underlying3 (by decide)) (key_int hz)
  obtain ⟨c, rfl, hc, -⟩ := plainElem_int_inv Try.underlying3 hv
  have hc := congrArg Prod.fst hc
  rw [(h3 z hz).2] at hc
  injection hc with e1
  injection e1 with e1 e2
  rw [e2]
  rw [(h3 z hz).1] at hr
  exact hr
section
variable {ops : Array Oper} {rest : List Oper} {o : Oper} {a : Act} {w : World} {Q : Exit → Act → World → Prop}
theorem wpList_makeMapI (hw : Region.wanted o (yielded ops a.tmps) = true) (ho : o.op = .makeMap 71 none)
    (h : ∀ w', Aft w w' → Hid (MapM w' w.heap.size 0 (fun _ => none)) → wpList Try.prog ops Q rest (a.put o.dst (.map (some w.heap.size))) w') : wpList Try.prog ops Q (o :: rest) a w := by
  unfold wpList
  rw [if_pos hw]
  refine .inl (wp_noOut ?_)
  unfold Oper.wp execOp
  have hr : (Instr.makeMap 71 none).run Try.prog w = .ok (.map (some w.heap.size)) (w.alloc (.map #[] 0)) := by kernel_rfl
  simp only [ho, Option.map_none, hr, Sem.run_bind, Result.andThen_ok, Sem.run_pure]
  exact h _ (Aft.alloc w _) (Lib.hid (MapM.made w))
theorem wpList_putM (hgd : o.guard = none) (m x y : Operand) (ho : o.op = .mapUpdate 71 m x y) (b n : Nat) (f : Int → Option Int) (hm : a.eval m = .map (some b)) (hS : MapM w b n f) (z v : Int) (hx : a.eval x = .int .i64 z) (hz : (Lit.int .i64 z).wf = true) (hy : a.eval y = .int .i64 v) (hv : (Lit.int .i64 v).wf = true) (hn : n < 1000000)
    (h : ∀ w', Hid (MapM w' b (n + 1) (fun q => if q = z then some v else f q)) → Hid (w.grownBy w' (some b)) → wpList Try.prog ops Q rest (a.put o.dst undef) w') : wpList Try.prog ops Q (o :: rest) a w := by
  obtain ⟨h1, D, hD, h3⟩ := hS
  refine wpList_mapUpdate_own w hgd m x y 71 ho 3 3 int_key Try.underlying71 (plainElem Try.prog 3) b n D hm hD (by unfold maxLen; omega) _ _ (.int .i64 z) hx hy (key_int hz) (.lit (.int .i64 v)) [] (plainElem_int Try.underlying3 hv) ?_
  intro w' k1 k2
  have hk : WideAt.IsKeyLit (.int .i64 z) := int_key.key (key_int hz)
  refine h w' (Lib.hid ⟨by omega, _, k1, fun q hq => ?_⟩) (Lib.hid k2)
  by_cases e : q = z
  · subst e
    rw [Maps.has_put_same hD.isMap hk, Maps.atKey_put_same hD.isMap hk]
    simp
  · have hne : (Lit.int .i64 q) ≠ .int .i64 z := fun q2 => by injection q2 with _ q3; exact e q3
    rw [Maps.has_put_other hne, Maps.atKey_put_other hne, (h3 q hq).1, (h3 q hq).2]
    simp only [if_neg e]
    exact ⟨trivial, trivial⟩
theorem wpList_delM (hgd : o.guard = none) (m x : Operand) (ho : o.op = Op.call { callee := Callee.builtin Builtin.delete, args := #[m, x], argTypes := #[71, 3] }) (b n : Nat) (f : Int → Option Int) (hm : a.eval m = .map (some b)) (hS : MapM w b n f) (z : Int) (hx : a.eval x = .int .i64 z) (hz : (Lit.int .i64 z).wf = true)
    (h : ∀ w', Hid (MapM w' b n (fun q => if q = z then none else f q)) → Hid (w.grownBy w' (some b)) → wpList Try.prog ops Q rest (a.put o.dst (.tuple #[])) w') : wpList Try.prog ops Q (o :: rest) a w := by
  obtain ⟨h1, D, hD, h3⟩ := hS
  refine wpList_delete_own w hgd m x 71 3 ho 3 int_key Try.underlying71 (plainElem Try.prog 3) b n D hm hD _ (.int .i64 z) hx (key_int hz) ?_
  intro w' k1 k2
  refine h w' (Lib.hid ⟨h1, _, k1, fun q hq => ?_⟩) (Lib.hid k2.grown)
  by_cases e : q = z
  · subst e
    rw [Maps.has_del_same, Maps.atKey_del_same]
    simp
  · have hne : (Lit.int .i64 q) ≠ .int .i64 z := fun q2 => by injection q2 with _ q3; exact e q3
    rw [Maps.has_del_other hne, Maps.atKey_del_other hne, (h3 q hq).1, (h3 q hq).2]
    simp only [if_neg e]
    exact ⟨trivial, trivial⟩
end
/-- The cells of a node, in whatever world follows. -/
theorem RdN.rngP {w : World} {v : Value} {ps : List (Nd × Value)} (h : RdN w v ps) {i : Nat} (hi : i < ps.length) :
    ∃ g o cap, v = .slice (some ⟨g, o, none⟩) ps.length cap ∧ ∀ wx, Aft w wx → wx.rangeAt g (o + i * 7) (ndR (ps.getD i ndP).1 (ps.getD i ndP).2) := by
  obtain ⟨g, o, cap, h1, h2, h3⟩ := h.row.at (i := i) (by rw [ndRs_length]; exact hi)
  rw [ndRs_at hi] at h3
  rw [ndRs_length] at h1
  exact ⟨g, o, cap, h1, h3⟩
theorem ndP_mem {ps : List (Nd × Value)} {i : Nat} (hi : i < ps.length) : ps.getD i ndP ∈ ps := by
  rw [List.getD_eq_getElem?_getD, List.getElem?_eq_getElem hi]
  exact List.getElem_mem hi
/-- The maker's cells. -/
def mkrR (va vb : Value) (lb : Nat) (vi vk : Value) (by' : Int) : List Value := [va, vb, .map (some lb), vi, vk, .int .i64 by']
/-- What the maker's functions read. -/
structure MkW (w : World) (mb lb : Nat) (va vb vi vk : Value) (by' : Int) (A B : List (Nd × Value)) (ids keep : List Int) (n : Nat) (f : Int → Option Int) : Prop where
  bx : w.heap[mb]? = some (.cells (mkrR va vb lb vi vk by').toArray 73 (0, 0))
  rA : RdN w va A
  rB : RdN w vb B
  rI : Rd w vi (zv ids)
  rK : Rd w vk (zv keep)
  mp : MapM w lb n f
theorem MkW.aft {w w' : World} {mb lb : Nat} {va vb vi vk : Value} {by' : Int} {A B : List (Nd × Value)} {ids keep : List Int} {n : Nat} {f : Int → Option Int} (h : MkW w mb lb va vb vi vk by' A B ids keep n f) (ha : Aft w w') : MkW w' mb lb va vb vi vk by' A B ids keep n f :=
  ⟨(ha.block mb (heap_lt h.bx)).trans h.bx, h.rA.aft ha, h.rB.aft ha, h.rI.grow ha, h.rK.grow ha, h.mp.aft ha⟩
/-- What kids are kept as. -/
def kidK (keep ks : List Int) : List Int := ks.map fun k => keep.getD k.toNat 0
/-- What a node is kept as. -/
def keptN (A : List Nd) (f : Int → Option Int) (ids keep : List Int) (x : Nd) : Int :=
  if x.lv = 0 then (f (ids.getD x.ix.toNat 0)).getD (-1)
  else if (kidK keep x.ks).any (fun k => decide (k < 0)) then -1
  else
    let up := (A.getD ((kidK keep x.ks).getD 0 0).toNat nd0).up
    if up < 0 ∨ (A.getD up.toNat nd0).rd ≠ x.rd ∨ (A.getD up.toNat nd0).ks ≠ kidK keep x.ks then -1 else up
/-- So that nothing is out of its bounds. -/
structure KeptOk (A : List Nd) (ids keep : List Int) (x : Nd) : Prop where
  leaf : x.lv = 0 → ∃ j : Nat, x.ix = (j : Int) ∧ j < ids.length ∧ (Lit.int .i64 (ids.getD j 0)).wf = true
  kids : x.lv ≠ 0 → x.ks ≠ [] ∧ x.ks.length ≤ 3 ∧ ∀ k ∈ x.ks, ∃ j : Nat, k = (j : Int) ∧ j < keep.length
  keep : ∀ v ∈ keep, v = -1 ∨ ∃ j : Nat, v = (j : Int) ∧ j < A.length
  up : ∀ i, i < A.length → (A.getD i nd0).up = -1 ∨ ∃ j : Nat, (A.getD i nd0).up = (j : Int) ∧ j < A.length
  wide : ∀ i, i < A.length → (A.getD i nd0).ks.length ≤ 3
end Go.Proofs.Ytfgammcefaomeaa
