/- terms.Close's memory: a map of slices, a set, two slices of one's own; (set).put. -/
import Derived.Test.YtfgammcefaomeaaK9
import Derived.Test.YtfgammcefaomeaaKR
import Derived.Maps.GroupsBeside
namespace Go.Proofs.Ytfgammcefaomeaa
open Go Go.RowKit
set_option linter.unusedSimpArgs false
theorem zero_ints (w : World) : (zeroValue 22).run Try.prog w = .ok (.slice none 0 0) w := Try.zeroValue22 w
def itemsD : DataW Unit → List (DataW Unit)
  | .slice es _ => es
  | _ => []
theorem items_row {w : World} {base : Nat} {v : Value} {zs : List Int} (h : w.ownsInts base 3 .i64 v zs) : itemsD (rowDatum .i64 v zs) = ChangeShapes.lits .i64 zs := by
  rcases h.datum (H := Unit) with ⟨e, rfl⟩ | e
  · rw [e]
    rfl
  · rw [e]
    rfl
theorem lits_inj {xs ys : List Int} (h : ChangeShapes.lits (H := Unit) .i64 xs = ChangeShapes.lits .i64 ys) : xs = ys := by
  unfold ChangeShapes.lits at h
  exact (List.map_inj_right fun a b e => by injection e with e; injection e).1 h
theorem owns_of {w : World} {base : Nat} {v : Value} {zs : List Int} (h : OwnI w base v zs) (hw : ∀ z ∈ zs, (Lit.int .i64 z).wf = true) : w.ownsInts base 3 .i64 v zs := ⟨h, hw⟩
/-- Block b is a map: f's lists by their numbers; none of their rows is one of No. -/
def AskM (w : World) (b base n : Nat) (f : Int → List Int) (No : Nat → Prop) : Prop :=
  n ≤ 1000000000 ∧ ∃ D : DataW Unit, w.ownsGroups Try.prog 3 base 3 .i64 b n D ∧ w.Shuns b No ∧ ∀ x : Int, (Lit.int .i64 x).wf = true → itemsD (D.atKey (.int .i64 x) .nil) = ChangeShapes.lits .i64 (f x)
theorem AskM.made {w : World} {b base : Nat} (No : Nat → Prop) (hb : w.heap[b]? = some (.map #[] 0)) (hl : b < base) : AskM w b base 0 (fun _ => []) No :=
  ⟨by omega, .map [], ⟨#[], 0, hb, ⟨by simp, MapKept.stamped_empty 0, by simp⟩, Nat.le_refl _, rfl, hl, by simp, by simp⟩, fun es clock h x hx => by
    rw [hb] at h
    cases h
    simp at hx, fun x _ => by simp [DataW.atKey, itemsD, ChangeShapes.lits]⟩
theorem AskM.lt {w : World} {b base n : Nat} {f : Int → List Int} {No : Nat → Prop} (h : AskM w b base n f No) : b < base ∧ b < w.heap.size := by
  obtain ⟨-, D, ⟨es, clock, hb, -, -, -, hbb, -⟩, -⟩ := h
  exact ⟨hbb, (Array.getElem?_eq_some_iff.1 hb).1⟩
theorem AskM.blk {w : World} {b base n : Nat} {f : Int → List Int} {No : Nat → Prop} (h : AskM w b base n f No) : ∃ es clock, w.heap[b]? = some (.map es clock) := by
  obtain ⟨-, D, ⟨es, clock, hb, -⟩, -⟩ := h
  exact ⟨es, clock, hb⟩
theorem AskM.congr {w : World} {b base n : Nat} {f f' : Int → List Int} {No : Nat → Prop} (h : AskM w b base n f No) (e : ∀ x, f x = f' x) : AskM w b base n f' No := by
  rw [show f' = f from (funext e).symm]
  exact h
theorem AskM.mono {w : World} {b base n n' : Nat} {f : Int → List Int} {No : Nat → Prop} (h : AskM w b base n f No) (hn : n ≤ n') (hm : n' ≤ 1000000000) : AskM w b base n' f No := by
  obtain ⟨-, D, ⟨es, clock, hb, F, hs, hD, hbb, hl, ha⟩, hS, hf⟩ := h
  exact ⟨hm, D, ⟨es, clock, hb, F, Nat.le_trans hs hn, hD, hbb, fun x hx zs hz => Nat.le_trans (hl x hx zs hz) hn, ha⟩, hS, hf⟩
/-- Over whatever turns one block that none of its rows is (and not the map's). -/
theorem AskM.grow {w w' : World} {b base n : Nat} {f : Int → List Int} {No No' : Nat → Prop} {row : Option Nat} (h : AskM w b base n f No) (hg : w.grownBy w' row) (hb : some b ≠ row) (hr : ∀ g, row = some g → No g ∨ g < base) (hn : ∀ g, No' g → No g ∨ w.heap.size ≤ g) : AskM w' b base n f No' := by
  have hlt := h.lt.2
  obtain ⟨h1, D, hD, hS, hf⟩ := h
  refine ⟨h1, D, hD.kept hg hb ?_, (hS.reno hD hn).kept hg hlt hb, hf⟩
  intro es clock he x hx
  cases hx' : x.val.ownBlock with
  | none => exact .inl rfl
  | some g =>
    refine .inr fun e => ?_
    rcases hr g e.symm with q | q
    · exact hS es clock he x hx g hx' q
    · rcases hD.rowsAbove (row := some g) (fun j hj => by cases hj; exact q) es clock he x hx with h' | h'
      · rw [hx'] at h'
        cases h'
      · exact h' hx'
theorem grown_of_aft {w w' : World} (h : Aft w w') : w.grownBy w' none := ⟨h.os, h.tape, h.output, h.size, fun k hk _ => h.block k hk⟩
theorem grown_of_fr {w w' : World} {r : Option Nat} (h : Fr (fun b => r = some b) w w') : w.grownBy w' r := ⟨h.os, h.tape, h.output, h.size, fun k hk hn => h.block k hk fun e => hn e.symm⟩
theorem AskM.aft {w w' : World} {b base n : Nat} {f : Int → List Int} {No : Nat → Prop} (h : AskM w b base n f No) (ha : Aft w w') : AskM w' b base n f No := h.grow (grown_of_aft ha) (fun e => by cases e) (fun g e => by cases e) fun g q => .inl q
theorem AskM.reno {w : World} {b base n : Nat} {f : Int → List Int} {No No' : Nat → Prop} (h : AskM w b base n f No) (hn : ∀ g, No' g → No g ∨ w.heap.size ≤ g) : AskM w b base n f No' := h.grow (grown_of_aft (Aft.refl w)) (fun e => by cases e) (fun g e => by cases e) hn
/-- A slice's own block is no map. -/
theorem own_nomap {w : World} {b base : Nat} {es : Array MapEntry} {clock : Nat} {v : Value} {xs : List Int} (h : OwnI w base v xs) (hb : w.heap[b]? = some (.map es clock)) : some b ≠ v.ownBlock := by
  rcases h.2 with ⟨rfl, -⟩ | ⟨g, cap, cur, rfl, -, hgc, -⟩
  · exact fun e => by cases e
  · intro e
    cases e
    rw [show w.heap[Addr.block ⟨g, 0, none⟩]? = _ from hgc] at hb
    cases hb
/-- What a look-up leaves for the store behind it. -/
def AskB (w : World) (b base n : Nat) (f : Int → List Int) (No : Nat → Prop) (z : Int) (v : Value) : Prop :=
  n ≤ 1000000000 ∧ ∃ D : DataW Unit, w.ownsGroups Try.prog 3 base 3 .i64 b n D ∧ w.Shuns b No ∧ (∀ x : Int, (Lit.int .i64 x).wf = true → itemsD (D.atKey (.int .i64 x) .nil) = ChangeShapes.lits .i64 (f x)) ∧
    w.groupBack Try.prog 89 3 base 3 .i64 b n D (.int .i64 z) (.int .i64 z) v ∧ w.ownsInts base 3 .i64 v (f z)
section
variable {ops : Array Oper} {rest : List Oper} {o : Oper} {a : Act} {w : World} {Q : Exit → Act → World → Prop}
theorem wpList_lookA (hg : o.guard = none) (m x : Operand) (ho : o.op = Op.lookup 89 m x false) (b base n : Nat) (f : Int → List Int) (No : Nat → Prop) (hm : a.eval m = .map (some b)) (hA : AskM w b base n f No) (z : Int) (hx : a.eval x = .int .i64 z) (hz : (Lit.int .i64 z).wf = true)
    (h : ∀ v, Hid (OwnI w base v (f z)) → Hid ((f z).length ≤ n) → Hid (∀ y ∈ f z, (Lit.int .i64 y).wf = true) → Hid (∀ g, v.ownBlock = some g → ¬ No g) → Hid (AskB w b base n f No z v) → wpList Try.prog ops Q rest (a.put o.dst v) w) : wpList Try.prog ops Q (o :: rest) a w := by
  obtain ⟨h1, D, hD, hS, hf⟩ := hA
  refine wpList_lookup_groups_shuns w hg m x 89 ho 3 22 3 .i64 int_key Try.underlying89 (zero_ints w) base b n D hm hD (by unfold maxLen; omega) (.int .i64 z) (.int .i64 z) hx (key_int hz) ?_
  intro v zs hat hoi hzl hback hsu
  obtain rfl : zs = f z := lits_inj (by rw [← hf z hz, hat, items_row hoi])
  exact h v (Lib.hid hoi.1) (Lib.hid hzl) (Lib.hid hoi.2) (Lib.hid (hsu No hS)) (Lib.hid ⟨h1, D, hD, hS, hf, hback, hoi⟩)
theorem wpList_putA (hgd : o.guard = none) (m x y : Operand) (ho : o.op = .mapUpdate 89 m x y) {w0 : World} {b base n : Nat} {f : Int → List Int} {No : Nat → Prop} {z : Int} {u v' : Value} {zs' : List Int} (hB : AskB w0 b base n f No z u) (hz : (Lit.int .i64 z).wf = true) (hn : n < 1000000000)
    (hm : a.eval m = .map (some b)) (hx : a.eval x = .int .i64 z) (hy : a.eval y = v') (hgr : w0.grownBy w u.ownBlock) (hown : OwnI w base v' zs') (hw : ∀ q ∈ zs', (Lit.int .i64 q).wf = true) (hl : zs'.length ≤ n + 1) (hloc : v'.ownBlock = u.ownBlock ∨ ∃ g, v'.ownBlock = some g ∧ w0.heap.size ≤ g) (hno : ∀ g, v'.ownBlock = some g → ¬ No g)
    (h : ∀ w2, Hid (AskM w2 b base (n + 1) (fun q => if q = z then zs' else f q) No) → Hid (w.grownBy w2 (some b)) → wpList Try.prog ops Q rest (a.put o.dst undef) w2) : wpList Try.prog ops Q (o :: rest) a w := by
  obtain ⟨h1, D, hD, hS, hf, hback, hoi⟩ := hB
  refine wpList_mapUpdate_back_shuns w hgd m x y 89 ho int_key Try.underlying89 (key_int hz) hD (by unfold maxLen; omega) hoi hS hno hback hm hx hy hgr (owns_of hown hw) hl hloc ?_
  intro w2 k1 k2 k3
  refine h w2 (Lib.hid ⟨by omega, _, k1, k3, fun q hq => ?_⟩) (Lib.hid k2)
  have hM : Maps.IsMap D := by
    obtain ⟨es, clock, -, -, -, rfl, -⟩ := hD
    exact ⟨_, rfl⟩
  have hk : WideAt.IsKeyLit (.int .i64 z) := int_key.key (key_int hz)
  by_cases e : q = z
  · subst e
    rw [Maps.atKey_put_same hM hk, items_row (owns_of hown hw)]
    simp only [if_true]
  · have hne : (Lit.int .i64 q) ≠ .int .i64 z := fun q2 => by injection q2 with _ q3; exact e q3
    rw [Maps.atKey_put_other hne, hf q hq]
    simp only [if_neg e]
/-- The set's own type. -/
theorem wpList_makeMapT (hw : Region.wanted o (yielded ops a.tmps) = true) (ho : o.op = .makeMap 88 none)
    (h : ∀ w', Aft w w' → Hid (SetM w' w.heap.size 0 []) → wpList Try.prog ops Q rest (a.put o.dst (.map (some w.heap.size))) w') : wpList Try.prog ops Q (o :: rest) a w := by
  unfold wpList
  rw [if_pos hw]
  refine .inl (wp_noOut ?_)
  unfold Oper.wp execOp
  have hr : (Instr.makeMap 88 none).run Try.prog w = .ok (.map (some w.heap.size)) (w.alloc (.map #[] 0)) := by kernel_rfl
  simp only [ho, Option.map_none, hr, Sem.run_bind, Result.andThen_ok, Sem.run_pure]
  exact h _ (Aft.alloc w _) (Lib.hid (SetM.made w))
set_option maxRecDepth 100000 in
theorem SetM.lookT {b n : Nat} {xs : List Int} (h : SetM w b n xs) {z : Int} (hz : (Lit.int .i64 z).wf = true) : (Instr.lookup 88 (.map (some b)) (.int .i64 z) false).run Try.prog w = .ok (.bool (decide (z ∈ xs))) w := by
  obtain ⟨h1, D, hD, h2, h3⟩ := h
  obtain ⟨v, ps, hr, hv⟩ := hD.lookup int_key Try.underlying88 (Try.zeroValue4 w) (plainElem_bool Try.underlying4 false) (key_int hz)
  obtain ⟨x, rfl, hx⟩ := bool_inv hv
  rw [(h3 z hz).2] at hx
  injection hx with e1 e2
  injection e1 with e1
  injection e1 with e1
  rw [e1]
  exact hr
theorem wpList_putT (hgd : o.guard = none) (m x y : Operand) (ho : o.op = .mapUpdate 88 m x y) (b n : Nat) (xs ys : List Int) (hm : a.eval m = .map (some b)) (hS : SetM w b n xs) (z : Int) (hx : a.eval x = .int .i64 z) (hz : (Lit.int .i64 z).wf = true) (hy : a.eval y = .bool true) (hn : n < 1000000)
    (hnot : z ∉ xs) (hys : ∀ q, q ∈ ys ↔ q = z ∨ q ∈ xs) (hl : ys.length = xs.length + 1)
    (h : ∀ w', Hid (SetM w' b (n + 1) ys) → Hid (w.grownBy w' (some b)) → wpList Try.prog ops Q rest (a.put o.dst undef) w') : wpList Try.prog ops Q (o :: rest) a w := by
  obtain ⟨h1, D, hD, h2, h3⟩ := hS
  refine wpList_mapUpdate_own w hgd m x y 88 ho 3 4 int_key Try.underlying88 (plainElem Try.prog 4) b n D hm hD (by unfold maxLen; omega) _ _ (.int .i64 z) hx hy (key_int hz) (.lit (.bool true)) [] (plainElem_bool Try.underlying4 true) ?_
  intro w' k1 k2
  have hk : WideAt.IsKeyLit (.int .i64 z) := int_key.key (key_int hz)
  refine h w' (Lib.hid ⟨by omega, _, k1, ?_, fun q hq => ?_⟩) (Lib.hid k2)
  · rw [Maps.size_put (hD.tidy int_key), (h3 z hz).1, decide_eq_false hnot, h2, hl]
    rfl
  · by_cases e : q = z
    · subst e
      rw [Maps.has_put_same hD.isMap hk, Maps.atKey_put_same hD.isMap hk, decide_eq_true ((hys q).2 (.inl rfl))]
      exact ⟨rfl, rfl⟩
    · have hne : (Lit.int .i64 q) ≠ .int .i64 z := fun q2 => by injection q2 with _ q3; exact e q3
      rw [Maps.has_put_other hne, Maps.atKey_put_other hne, (h3 q hq).1, (h3 q hq).2]
      have : decide (q ∈ xs) = decide (q ∈ ys) := decide_eq_decide.2 ⟨fun q2 => (hys q).2 (.inr q2), fun q2 => ((hys q).1 q2).resolve_left e⟩
      rw [this]
      exact ⟨rfl, rfl⟩
end
set_option maxRecDepth 100000 in
theorem tput_any (b n : Nat) (xs : List Int) (z : Int) (w : World) (hS : SetM w b n xs) (hn : n < 1000000) (hz : (Lit.int .i64 z).wf = true) :
    Calls Try.prog 56 #[.map (some b), .int .i64 z] w fun e w' => (z ∈ xs ∧ e = .returned (.bool false) ∧ w' = w) ∨ (z ∉ xs ∧ e = .returned (.bool true) ∧ SetM w' b (n + 1) (z :: xs) ∧ w.grownBy w' (some b)) := by
  have hlk := hS.lookT hz
  have HS := Lib.hid hS
  have HZ := Lib.hid hz
  clear hS hz
  by_cases hm : z ∈ xs
  · have HM := Lib.hid hm
    rw [decide_eq_true hm] at hlk
    clear hm
    go_enter Try.func56, Try.ntmps56
    go_wp2_with fail
    go_ret
    exact .inl ⟨HM.out, rfl, rfl⟩
  · have HM := Lib.hid hm
    rw [decide_eq_false hm] at hlk
    clear hm
    go_enter Try.func56, Try.ntmps56
    go_wp2_with (first | (refine wpList_putT rfl (.tmp 8) (.tmp 9) (.const (.bool true)) rfl b n xs (z :: xs) rfl HS.out z rfl HZ.out rfl hn HM.out (fun q => List.mem_cons) rfl ?_; intro w' k1 k2))
    go_ret
    exact .inr ⟨HM.out, rfl, k1.out, k2.out⟩
end Go.Proofs.Ytfgammcefaomeaa
