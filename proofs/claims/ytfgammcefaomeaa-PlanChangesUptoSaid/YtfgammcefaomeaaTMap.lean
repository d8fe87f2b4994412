/- A map of one's own from numbers to true: a set of numbers. -/
import Derived.Test.YtfgammcefaomeaaB2
import Derived.Maps.OwnSet
import Derived.Maps.Views
namespace Go.Proofs.Ytfgammcefaomeaa
open Go Go.RowKit
set_option linter.unusedSimpArgs false
theorem int_key : Maps.Keyed Try.prog 3 := Maps.int_keyed Try.underlying3
theorem key_int {x : Int} (h : (Lit.int .i64 x).wf = true) : keyOf Try.prog 3 (.int .i64 x) = some (.int .i64 x) := Maps.keyOf_int_mk Try.underlying3 h
theorem wf_int {x : Int} (h : -9223372036854775808 ≤ x) (h2 : x ≤ 9223372036854775807) : (Lit.int .i64 x).wf = true := by
  simp only [Lit.wf, Bool.and_eq_true, decide_eq_true_eq]
  exact ⟨h, h2⟩
theorem bool_inv {H : Type} {v : Value} {z : DataW H × List MemPlace} (h : plainElem Try.prog 4 v = some z) : ∃ x, v = .bool x ∧ z = (.lit (.bool x), []) := by
  have hu := Try.underlying4
  generalize Try.prog = P at *
  unfold plainElem at h
  rw [hu] at h
  cases v <;> simp at h
  exact ⟨_, rfl, h.symm⟩
def SetM (w : World) (b n : Nat) (xs : List Int) : Prop := n ≤ 1000000 ∧ ∃ D : DataW Unit, w.ownsMap Try.prog 3 (plainElem Try.prog 4) b n D ∧ Maps.size D = xs.length ∧
  ∀ x : Int, (Lit.int .i64 x).wf = true → Maps.has D (.int .i64 x) = decide (x ∈ xs) ∧ D.atKey (.int .i64 x) (.lit (.bool false)) = .lit (.bool (decide (x ∈ xs)))
theorem SetM.made (w : World) : SetM (w.alloc (.map #[] 0)) w.heap.size 0 [] :=
  ⟨by omega, .map [], World.ownsMap_made w _ _ _, rfl, fun x hx => ⟨by simp [Maps.has], by simp [DataW.atKey]⟩⟩
theorem SetM.keep {w w' : World} {b n : Nat} {xs : List Int} (h : SetM w b n xs) (hk : w'.heap[b]? = w.heap[b]?) : SetM w' b n xs := by
  obtain ⟨h1, D, ⟨es, clock, hb, hr⟩, h2, h3⟩ := h
  exact ⟨h1, D, ⟨es, clock, hk.trans hb, hr⟩, h2, h3⟩
theorem SetM.blk {w : World} {b n : Nat} {xs : List Int} (h : SetM w b n xs) : ∃ es clock, w.heap[b]? = some (.map es clock) := by
  obtain ⟨h1, D, ⟨es, clock, hb, hr⟩, -⟩ := h
  exact ⟨es, clock, hb⟩
theorem SetM.lt {w : World} {b n : Nat} {xs : List Int} (h : SetM w b n xs) : b < w.heap.size := by
  obtain ⟨es, clock, hb⟩ := h.blk
  exact heap_lt hb
theorem SetM.aft {w w' : World} {b n : Nat} {xs : List Int} (h : SetM w b n xs) (ha : Aft w w') : SetM w' b n xs := h.keep (ha.block b h.lt)
theorem SetM.ne {w : World} {b n g t : Nat} {xs : List Int} {cs : Array Value} {fr : Nat × Nat} (h : SetM w b n xs) (hg : w.heap[g]? = some (.cells cs t fr)) : b ≠ g := by
  rintro rfl
  obtain ⟨es, clock, hb⟩ := h.blk
  rw [hg] at hb
  cases hb
theorem SetM.stored {w w' : World} {b n g t : Nat} {xs : List Int} {cs : Array Value} {fr : Nat × Nat} (h : SetM w b n xs) (hg : w.heap[g]? = some (.cells cs t fr)) (_ : true = true) (hb : ∀ k, k ≠ g → w'.heap[k]? = w.heap[k]?) : SetM w' b n xs := h.keep (hb b (h.ne hg))
theorem SetM.mono {w : World} {b n n' : Nat} {xs : List Int} (h : SetM w b n xs) (hn : n ≤ n') (hm : n' ≤ 1000000) : SetM w b n' xs := by
  obtain ⟨h1, D, hD, hr⟩ := h
  exact ⟨hm, D, hD.mono hn, hr⟩
/-- A row of one's own is none of a map's block. -/
theorem row_map {w w' : World} {b n base e size k : Nat} {v : Value} {ms : List Int} {xs : List Value} (hm : SetM w b n ms) (h : w.ownsRow base e size v k xs) (hg : w.grownBy w' (some b)) : w'.ownsRow base e size v k xs := by
  refine ⟨h.1, ?_⟩
  rcases h.2 with h | ⟨g, cap, cur, rfl, hb, hgc, hr⟩
  · exact .inl h
  · exact .inr ⟨g, cap, cur, rfl, hb, (hg.block g (heap_lt hgc) (fun e => hm.ne hgc (Option.some.inj e).symm)).trans hgc, hr⟩
theorem OwnTr.map {w w' : World} {b n base : Nat} {vi vl : Value} {vs : List Value} {ids ms : List Int} {ls : List (List Int)} (hm : SetM w b n ms) (h : OwnTr w base vi vl vs ids ls) (hg : w.grownBy w' (some b)) : OwnTr w' base vi vl vs ids ls :=
  ⟨row_map hm h.ids hg, ⟨row_map hm h.lv.row hg, h.lv.len, fun i u hu => row_map hm (h.lv.own i u hu) hg, h.lv.dis⟩, h.dis⟩
theorem Led.map {w0 w w' : World} {b n : Nat} {ms : List Int} {L : List (Nat × Obj)} (hm : SetM w b n ms) (h : Led w0 w L) (hb : w0.heap.size ≤ b) (hg : w.grownBy w' (some b)) (hL : ∀ p ∈ L, ∃ cs t fr, p.2 = Obj.cells cs t fr) : Led w0 w' L :=
  ⟨⟨hg.os.trans h.aft.os, hg.tape.trans h.aft.tape, hg.output.trans h.aft.output, Nat.le_trans h.aft.size hg.size, fun k hk => (hg.block k (Nat.lt_of_lt_of_le hk h.aft.size) (fun e => by
    have := Option.some.inj e
    omega)).trans (h.aft.block k hk)⟩, fun i g o hi => ⟨(hg.block g (heap_lt (h.get i hi)) (fun e => by
      obtain ⟨cs, t, fr, ho⟩ := hL _ (List.mem_of_getElem? hi)
      have := h.get i hi
      simp only at ho
      rw [ho] at this
      exact hm.ne this (Option.some.inj e).symm)).trans (h.get i hi), (h.has i g o hi).2⟩, h.inc⟩
section
variable {ops : Array Oper} {rest : List Oper} {o : Oper} {a : Act} {w : World} {Q : Exit → Act → World → Prop}
theorem wpList_makeMapS (hw : Region.wanted o (yielded ops a.tmps) = true) (ho : o.op = .makeMap 54 none)
    (h : ∀ w', Aft w w' → Hid (SetM w' w.heap.size 0 []) → wpList Try.prog ops Q rest (a.put o.dst (.map (some w.heap.size))) w') : wpList Try.prog ops Q (o :: rest) a w := by
  unfold wpList
  rw [if_pos hw]
  refine .inl (wp_noOut ?_)
  unfold Oper.wp execOp
  have hr : (Instr.makeMap 54 none).run Try.prog w = .ok (.map (some w.heap.size)) (w.alloc (.map #[] 0)) := by kernel_rfl
  simp only [ho, Option.map_none, hr, Sem.run_bind, Result.andThen_ok, Sem.run_pure]
  exact h _ (Aft.alloc w _) (Lib.hid (SetM.made w))
set_option maxRecDepth 100000 in
theorem SetM.look {b n : Nat} {xs : List Int} (h : SetM w b n xs) {z : Int} (hz : (Lit.int .i64 z).wf = true) : (Instr.lookup 54 (.map (some b)) (.int .i64 z) false).run Try.prog w = .ok (.bool (decide (z ∈ xs))) w := by
  obtain ⟨h1, D, hD, h2, h3⟩ := h
  obtain ⟨v, ps, hr, hv⟩ := hD.lookup int_key Try.underlying54 (Try.zeroValue4 w) (plainElem_bool Try.underlying4 false) (key_int hz)
  obtain ⟨x, rfl, hx⟩ := bool_inv hv
  rw [(h3 z hz).2] at hx
  injection hx with e1 e2
  injection e1 with e1
  injection e1 with e1
  rw [e1]
  exact hr
theorem wpList_lookS (hw : Region.wanted o (yielded ops a.tmps) = true) (m x : Operand) (ho : o.op = .lookup 54 m x false) (b n : Nat) (xs : List Int) (hm : a.eval m = .map (some b)) (hS : SetM w b n xs) (z : Int) (hx : a.eval x = .int .i64 z) (hz : (Lit.int .i64 z).wf = true)
    (h : wpList Try.prog ops Q rest (a.put o.dst (.bool (decide (z ∈ xs)))) w) : wpList Try.prog ops Q (o :: rest) a w := by
  unfold wpList
  rw [if_pos hw]
  refine .inl (wp_noOut ?_)
  unfold Oper.wp execOp
  simp only [ho, hm, hx, hS.look hz, Sem.run_bind, Result.andThen_ok, Sem.run_pure]
  exact h
theorem wpList_putS (hgd : o.guard = none) (m x y : Operand) (ho : o.op = .mapUpdate 54 m x y) (b n : Nat) (xs ys : List Int) (hm : a.eval m = .map (some b)) (hS : SetM w b n xs) (z : Int) (hx : a.eval x = .int .i64 z) (hz : (Lit.int .i64 z).wf = true) (hy : a.eval y = .bool true) (hn : n < 1000000)
    (hnot : z ∉ xs) (hys : ∀ q, q ∈ ys ↔ q = z ∨ q ∈ xs) (hl : ys.length = xs.length + 1)
    (h : ∀ w', Hid (SetM w' b (n + 1) ys) → Hid (w.grownBy w' (some b)) → wpList Try.prog ops Q rest (a.put o.dst undef) w') : wpList Try.prog ops Q (o :: rest) a w := by
  obtain ⟨h1, D, hD, h2, h3⟩ := hS
  refine wpList_mapUpdate_own w hgd m x y 54 ho 3 4 int_key Try.underlying54 (plainElem Try.prog 4) b n D hm hD (by unfold maxLen; omega) _ _ (.int .i64 z) hx hy (key_int hz) (.lit (.bool true)) [] (plainElem_bool Try.underlying4 true) ?_
  intro w' k1 k2
  have hk : WideAt.IsKeyLit (.int .i64 z) := int_key.key (key_int hz)
  refine h w' (Lib.hid ⟨by omega, _, k1, ?_, fun q hq => ?_⟩) (Lib.hid k2)
  · rw [Maps.size_put (hD.tidy int_key), (h3 z hz).1, decide_eq_false hnot, h2, hl]
    rfl
  · by_cases e : q = z
    · subst e
      rw [Maps.has_put_same hD.isMap hk, Maps.atKey_put_same hD.isMap hk, decide_eq_true ((hys q).2 (.inl rfl))]
      exact ⟨rfl, rfl⟩
    · have hne : (Lit.int .i64 q) ≠ .int .i64 z := fun q2 => by injection q2 with _ q3; exact e q3
      rw [Maps.has_put_other hne, Maps.atKey_put_other hne, (h3 q hq).1, (h3 q hq).2]
      have : decide (q ∈ xs) = decide (q ∈ ys) := decide_eq_decide.2 ⟨fun q2 => (hys q).2 (.inr q2), fun q2 => ((hys q).1 q2).resolve_left e⟩
      rw [this]
      exact ⟨rfl, rfl⟩
theorem wpList_delS (hgd : o.guard = none) (m x : Operand) (ho : o.op = Op.call { callee := Callee.builtin Builtin.delete, args := #[m, x], argTypes := #[54, 3] }) (b n : Nat) (xs ys : List Int) (hm : a.eval m = .map (some b)) (hS : SetM w b n xs) (z : Int) (hx : a.eval x = .int .i64 z) (hz : (Lit.int .i64 z).wf = true)
    (hin : z ∈ xs) (hys : ∀ q, q ∈ ys ↔ q ∈ xs ∧ q ≠ z) (hl : ys.length + 1 = xs.length)
    (h : ∀ w', Hid (SetM w' b n ys) → Hid (w.grownBy w' (some b)) → wpList Try.prog ops Q rest (a.put o.dst (.tuple #[])) w') : wpList Try.prog ops Q (o :: rest) a w := by
  obtain ⟨h1, D, hD, h2, h3⟩ := hS
  refine wpList_delete_own w hgd m x 54 3 ho 4 int_key Try.underlying54 (plainElem Try.prog 4) b n D hm hD _ (.int .i64 z) hx (key_int hz) ?_
  intro w' k1 k2
  refine h w' (Lib.hid ⟨h1, _, k1, ?_, fun q hq => ?_⟩) (Lib.hid k2.grown)
  · have := Maps.size_del (k := .int .i64 z) (hD.tidy int_key)
    rw [(h3 z hz).1, decide_eq_true hin, h2] at this
    simp only [if_true] at this
    omega
  · by_cases e : q = z
    · subst e
      rw [Maps.has_del_same, Maps.atKey_del_same, decide_eq_false (fun q2 => ((hys q).1 q2).2 rfl)]
      exact ⟨rfl, rfl⟩
    · have hne : (Lit.int .i64 q) ≠ .int .i64 z := fun q2 => by injection q2 with _ q3; exact e q3
      rw [Maps.has_del_other hne, Maps.atKey_del_other hne, (h3 q hq).1, (h3 q hq).2]
      have : decide (q ∈ xs) = decide (q ∈ ys) := decide_eq_decide.2 ⟨fun q2 => (hys q).2 ⟨q2, e⟩, fun q2 => ((hys q).1 q2).1⟩
      rw [this]
      exact ⟨rfl, rfl⟩
theorem SetM.len {b n : Nat} {xs : List Int} (h : SetM w b n xs) (ty : TypeId) : (Builtin.len_ #[54] ty #[.map (some b)]).run Try.prog w = .ok (.int .i64 (xs.length : Nat)) w := by
  obtain ⟨h1, D, hD, h2, h3⟩ := h
  have := hD.len Try.underlying54 ty
  rw [h2] at this
  exact this
end
end Go.Proofs.Ytfgammcefaomeaa

