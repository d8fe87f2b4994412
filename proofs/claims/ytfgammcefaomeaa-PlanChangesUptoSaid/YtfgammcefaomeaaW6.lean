/- coterieref10.with. -/
import Derived.Test.YtfgammcefaomeaaW5
import Derived.Test.YtfgammcefaomeaaB1
namespace Go.Proofs.Ytfgammcefaomeaa
open Go Go.RowKit
set_option linter.unusedSimpArgs false
theorem rowsK_row {d : Nat} {w : World} {B : Nat → Prop} {ps : List (NT d × Value)} (hk : ∀ p ∈ ps, Kd d w B p.1 p.2) : Row 2 (rowsK ps) := fun r hr => by
  obtain ⟨p, hp, rfl⟩ := List.mem_map.1 hr
  refine ⟨rfl, fun u hu => ?_⟩
  have := (hk p hp).one
  rw [Array.all_eq_true_iff_forall_mem] at this
  exact this u (by simpa using hu)
theorem OwnF.blk {d : Nat} {w : World} {base g : Nat} {B : Nat → Prop} {ps : List (NT d × Value)} (hg : w.heap[g]? = some (.cells (rowsK ps).flatten.toArray 114 (0, 0))) (hb : base ≤ g) (hm : ps.length ≤ 1000) (hk : ∀ p ∈ ps, Kd d w B p.1 p.2) :
    OwnF d w base B (.slice (some ⟨g, 0, none⟩) ps.length ps.length) ps := by
  have hl : (rowsK ps).flatten.length = ps.length * 2 := by rw [rows_length (rowsK_row hk), rowsK_length]
  refine ⟨⟨rowsK_row hk, ?_, .inr ⟨g, ps.length, (rowsK ps).flatten.toArray, ?_, hb, hg, ?_, ?_, ?_, ?_⟩⟩, hk⟩
  · rw [rowsK_length, hl]
  · rw [rowsK_length]
  · rw [rowsK_length]; exact Nat.le_refl _
  · unfold maxLen; omega
  · rw [List.size_toArray, hl]
  · rw [rowsK_length, ← hl]
    exact List.take_length
theorem run_rn2 (a b : Int) (u v : Value) (w : World) : (Instr.buildSlice 112 2 #[(0, .agg #[.int .i64 a, u]), (1, .agg #[.int .i64 b, v])]).run Try.prog w = .ok (.slice (some ⟨w.heap.size, 0, none⟩) 2 2) (w.alloc (.cells #[.int .i64 a, u, .int .i64 b, v] 114)) := by kernel_rfl
theorem run_rn1 (a : Int) (u : Value) (w : World) : (Instr.buildSlice 112 1 #[(0, .agg #[.int .i64 a, u])]).run Try.prog w = .ok (.slice (some ⟨w.heap.size, 0, none⟩) 1 1) (w.alloc (.cells #[.int .i64 a, u] 114)) := by kernel_rfl
theorem run_rn3 (a b c : Int) (u v x : Value) (w : World) : (Instr.buildSlice 112 3 #[(0, .agg #[.int .i64 a, u]), (1, .agg #[.int .i64 b, v]), (2, .agg #[.int .i64 c, x])]).run Try.prog w = .ok (.slice (some ⟨w.heap.size, 0, none⟩) 3 3) (w.alloc (.cells #[.int .i64 a, u, .int .i64 b, v, .int .i64 c, x] 114)) := by kernel_rfl
section
variable {ops : Array Oper} {rest : List Oper} {o : Oper} {a : Act} {w : World} {Q : Exit → Act → World → Prop}
theorem wpList_rn2 (hw : Region.wanted o (yielded ops a.tmps) = true) (y1 y2 : Operand) (z1 z2 : Int) (u1 u2 : Value) (ho : o.op = .buildSlice 112 2 #[(0, y1), (1, y2)]) (hy : a.eval y1 = .agg #[.int .i64 z1, u1]) (hz : a.eval y2 = .agg #[.int .i64 z2, u2])
    (h : ∀ w', Aft w w' → Hid (w'.heap[w.heap.size]? = some (.cells #[.int .i64 z1, u1, .int .i64 z2, u2] 114 (0, 0))) → wpList Try.prog ops Q rest (a.put o.dst (.slice (some ⟨w.heap.size, 0, none⟩) 2 2)) w') : wpList Try.prog ops Q (o :: rest) a w := by
  unfold wpList
  rw [if_pos hw]
  refine .inl (wp_noOut ?_)
  unfold Oper.wp execOp
  simp only [ho, hy, hz, Sem.run_bind, List.map_toArray, List.map_cons, List.map_nil, run_rn2 z1 z2 u1 u2 w, Result.andThen_ok, Sem.run_pure]
  exact h _ (Aft.alloc w _) (heap_alloc_new w _)
theorem wpList_rn1 (hw : Region.wanted o (yielded ops a.tmps) = true) (y1 : Operand) (z1 : Int) (u1 : Value) (ho : o.op = .buildSlice 112 1 #[(0, y1)]) (hy : a.eval y1 = .agg #[.int .i64 z1, u1])
    (h : ∀ w', Aft w w' → Hid (w'.heap[w.heap.size]? = some (.cells #[.int .i64 z1, u1] 114 (0, 0))) → wpList Try.prog ops Q rest (a.put o.dst (.slice (some ⟨w.heap.size, 0, none⟩) 1 1)) w') : wpList Try.prog ops Q (o :: rest) a w := by
  unfold wpList
  rw [if_pos hw]
  refine .inl (wp_noOut ?_)
  unfold Oper.wp execOp
  simp only [ho, hy, Sem.run_bind, List.map_toArray, List.map_cons, List.map_nil, run_rn1 z1 u1 w, Result.andThen_ok, Sem.run_pure]
  exact h _ (Aft.alloc w _) (heap_alloc_new w _)
end
theorem led_one {w0 w w' : World} {b : Nat} {o : Obj} {v : Value} (h : Led w0 w [(b, o)]) (hf : Fr (fun x => v.ownBlock = some x) w w') (hv : ∀ g, v.ownBlock = some g → b < g) (hb : w0.heap.size ≤ b) : Led w0 w' [(b, o)] :=
  h.frS hf (fun x hx => Nat.le_trans hb (Nat.le_of_lt (hv x hx))) (fun i g o' hi q => by
    have h0 : i = 0 := by
      have := (List.getElem?_eq_some_iff.1 hi).1
      simpa using this
    subst h0
    cases hi
    exact absurd (hv _ q) (Nat.lt_irrefl _))
theorem lx_slice {P : Program} {ops : Array Oper} {C : World → Prop} {E : Nat → Bool} {Q : Exit → Act → World → Prop} {n k : Nat} {o : Oper} {l : List Oper} {a : Act} {w : World} (hE : E k = false) (hw : Region.wanted o (yielded ops a.tmps) = true) (ty : TypeId) (x : Operand) (lo hi mx : Option Operand) (ho : o.op = .slice ty x lo hi mx) (v : Value)
    (hl : ∀ w', (Instr.sliceAt ty (a.eval x) (lo.map a.eval) (hi.map a.eval) (mx.map a.eval)).run P w' = .ok v w') (h : wpLx P ops C E Q n (k + 1) l (a.put o.dst v) w) : wpLx P ops C E Q (n + 1) k (o :: l) a w := by
  simp only [wpLx, stepL, hw, if_true, hE]
  refine ⟨v, fun w' hw' => .inl ?_, h⟩
  unfold execOp
  simp only [ho, hl w', Sem.run_bind, Result.andThen_ok, Sem.run_pure]
set_option maxRecDepth 100000 in
theorem sliceAt_K (x : Value) (lo hi mx : Option Value) (wx : World) : (Instr.sliceAt 112 x lo hi mx).run Try.prog wx = (Instr.slice 112 x lo hi mx).run Try.prog wx :=
  run_sliceAt_slice wx 112 _ _ _ _ Try.underlying112
/-- A node more: one's own nodes, one or two; B: where the node's lie. -/
def WithSays (id : Int) (d : Nat) (t : NT d) (B : Nat → Prop) (w : World) (e : Ending) (w' : World) : Prop :=
  ∃ v ps, e = .returned v ∧ OwnF d w' w.heap.size (fun g => (B g ∨ w.heap.size ≤ g) ∧ v.ownBlock ≠ some g) v ps ∧ ps.map Prod.fst = withT id d t ∧ Aft w w'
theorem alloc2_new (w : World) (o1 o2 : Obj) : ((w.alloc o1).alloc o2).heap[w.heap.size + 1]? = some o2 := by
  have := heap_alloc_new (w.alloc o1) o2
  rwa [World.size_alloc] at this
set_option maxRecDepth 100000 in
set_option maxHeartbeats 1000000 in
theorem rwith_zero (id z : Int) (B : Nat → Prop) (w : World) :
    Calls Try.prog 83 #[.agg #[.int .i64 z, .slice none 0 0], .int .i64 id] w (WithSays id 0 z B w) := by
  by_cases hlt : id < z
  all_goals
    go_enter Try.func83, Try.ntmps83
    go_wp2_with fail
    go_ret
  · refine ⟨_, [((id : NT 0), .slice none 0 0), ((z : NT 0), .slice none 0 0)], rfl, OwnF.blk (d := 0) (ps := [((id : NT 0), .slice none 0 0), ((z : NT 0), .slice none 0 0)]) (alloc2_new w _ _) (Nat.le_succ _) (by show 2 ≤ 1000; decide) (fun p hp => ?_), (if_pos hlt).symm, Aft.trans (Aft.alloc _ _) (Aft.alloc _ _)⟩
    simp only [List.mem_cons, List.not_mem_nil, or_false] at hp
    rcases hp with rfl | rfl <;> rfl
  · refine ⟨_, [((z : NT 0), .slice none 0 0), ((id : NT 0), .slice none 0 0)], rfl, OwnF.blk (d := 0) (ps := [((z : NT 0), .slice none 0 0), ((id : NT 0), .slice none 0 0)]) (alloc2_new w _ _) (Nat.le_succ _) (by show 2 ≤ 1000; decide) (fun p hp => ?_), (if_neg (Int.not_lt.2 hlt)).symm, Aft.trans (Aft.alloc _ _) (Aft.alloc _ _)⟩
    simp only [List.mem_cons, List.not_mem_nil, or_false] at hp
    rcases hp with rfl | rfl <;> rfl
set_option maxRecDepth 100000 in
set_option maxHeartbeats 4000000 in
theorem rwith_succ (id : Int) (d : Nat) (ih : ∀ (t : NT d) (k : Value) (B : Nat → Prop) (w : World), Kd d w B t k → wfT d t → (∀ g, B g → g < w.heap.size) → Calls Try.prog 83 #[.agg (ndK (t, k)).toArray, .int .i64 id] w (WithSays id d t B w))
    (t : NT (d + 1)) (k : Value) (B : Nat → Prop) (w : World) (hk : Kd (d + 1) w B t k) (hw : wfT (d + 1) t) (hBl : ∀ g, B g → g < w.heap.size) :
    Calls Try.prog 83 #[.agg (ndK (t, k)).toArray, .int .i64 id] w (WithSays id (d + 1) t B w) := by
  obtain ⟨ps, hps, hr⟩ := hk.rdF
  have hlen : ps.length = (kidsT t).length := by rw [← hps, List.length_map]
  have hl23 : ps.length = 2 ∨ ps.length = 3 := by rw [hlen]; exact hw.1
  have hget : ∀ i, (ps.getD i (dfT d, .slice none 0 0)).1 = (kidsT t).getD i (dfT d) := fun i => by
    rw [← hps]
    simp only [List.getD_eq_getElem?_getD, List.getElem?_map]
    cases ps[i]? <;> rfl
  have hmem : ∀ i, i < ps.length → ps.getD i (dfT d, .slice none 0 0) ∈ ps := fun i hi => by
    rw [List.getD_eq_getElem?_getD, List.getElem?_eq_getElem hi]
    exact List.getElem_mem hi
  have hwf : ∀ i, i < ps.length → wfT d (ps.getD i (dfT d, .slice none 0 0)).1 := fun i hi => by
    rw [hget]
    refine hw.2 _ ?_
    rw [List.getD_eq_getElem?_getD, List.getElem?_eq_getElem (by rw [← hlen]; exact hi)]
    exact List.getElem_mem _
  have hat : chP (fun f => decide (f < id)) d (kidsT t) ps.length < ps.length := lastP_lt _ _ (by omega)
  obtain ⟨g, o, cap, rfl, hgl, -, -⟩ := hr.at (show 0 < ps.length by omega) (dfT d, .slice none 0 0)
  have hcap : ps.length ≤ cap ∧ cap ≤ 9223372036854775807 := by
    obtain ⟨ao, cap', he, h1, h2⟩ := hr.shape
    injection he with e1 e2 e3
    omega
  have HIh := Lib.hid ih
  have HR := Lib.hid hr
  have HPs := Lib.hid hps
  have HGet := Lib.hid hget
  have HWf := Lib.hid hwf
  have HBl := Lib.hid hBl
  have HAt := Lib.hid hat
  have HCap := Lib.hid hcap
  have HL23 := Lib.hid hl23
  have HLen := Lib.hid hlen
  have HFst := Lib.hid (fun (i : Nat) (hi : i < ps.length) (wx : World) (ha : Aft w wx) => rfirst_any d (ps.getD i (dfT d, .slice none 0 0)).1 (ps.getD i (dfT d, .slice none 0 0)).2 B wx ((hr.kid _ (hmem i hi)).aft ha) (hwf i hi))
  have HRg := Lib.hid (fun (i : Nat) (hi : i < ps.length) (wx : World) (ha : Aft w wx) => show wx.rangeAt g (o + i * 2) (ndK (ps.getD i (dfT d, .slice none 0 0))) by
    obtain ⟨g', o', cap', he, -, h2, -⟩ := hr.at hi (dfT d, .slice none 0 0)
    injection he with e1 e2 e3
    injection e1 with e1
    injection e1 with e1 e4 e5
    subst e1 e4
    exact h2 wx ha)
  have HKd := Lib.hid (fun (i : Nat) (hi : i < ps.length) => hr.kid _ (hmem i hi))
  have HL := Lib.hid (Led.start w)
  have hne : ¬ ((ps.length : Nat) : Int) = 0 := by omega
  have hne2 : (((ps.length : Nat) : Int) == 0) = false := by simpa using hne
  clear hk hr hps hget hmem hwf hBl hat hcap hl23 ih hlen hgl
  go_enter Try.func83, Try.ntmps83
  go_wp2_with (first | (refine wpList_boxO rfl 114 (.tmp 0) rfl (.agg (ndK (t, (.slice (some ⟨g, o, none⟩) ps.length cap))).toArray) rfl (.cells (ndK (t, (.slice (some ⟨g, o, none⟩) ps.length cap))).toArray 114) (box_rn _) ?_; intro w1 aa gg zz; replace HL := Lib.hid (HL.out.alloc aa gg.out); clear aa gg zz; (try simp only [List.nil_append, List.cons_append, List.set_cons_zero, List.set_cons_succ] at HL); have hc1 := cell_part (n := 1) (HL.out.get 0 rfl) (show _ = some (Value.slice (some ⟨g, o, none⟩) ps.length cap) from rfl)))
  go_loopw [5, 28] (fun v5 v28 wr => ∃ i : Nat, i ≤ ps.length ∧ v28 = .int .i64 (i : Int) ∧ v5 = .int .i64 ((chP (fun f => decide (f < id)) d (kidsT t) i : Nat) : Int) ∧ Led w wr [(w.heap.size, .cells (ndK (t, (.slice (some ⟨g, o, none⟩) ps.length cap))).toArray 114)]) (fun _ v _ => ps.length - (intOf v).toNat)
  case atStart => exact ⟨0, Nat.zero_le _, rfl, rfl, HL.out⟩
  case round =>
    clear HL hc1
    obtain ⟨i, hi, rfl, rfl, hL⟩ := hrel
    have HL := Lib.hid hL
    clear hL
    by_cases hlt : i < ps.length
    · have hlt' : (i : Int) < (ps.length : Nat) := by omega
      have hi9 : (i : Int) ≤ 3 := by have := HL23.out; omega
      have HRx := Lib.hid (HRg.out i hlt wr HL.out.aft)
      have HF := Lib.hid (HFst.out i hlt)
      have HOne := Lib.hid (HKd.out i hlt).one
      have HCh := Lib.hid (show chP (fun f => decide (f < id)) d (kidsT t) (i + 1) = if fstT d (ps.getD i (dfT d, .slice none 0 0)).1 < id then i else chP (fun f => decide (f < id)) d (kidsT t) i by
        rw [HGet.out]
        show (if decide (fstT d ((kidsT t).getD i (dfT d)) < id) = true then i else _) = _
        simp only [decide_eq_true_eq]
        rfl)
      generalize chP (fun f => decide (f < id)) d (kidsT t) i = c at *
      generalize ps.getD i (dfT d, .slice none 0 0) = p at *
      go_wp2_with (first | (refine wpList_load_mid2 (by kernel_rfl) 114 (.tmp 31) rfl _ _ rfl (ndK p) HRx.out _ Try.underlying114 rfl (rn_info2 _) ?_) | (refine wpList_allocO rfl 114 rfl (.cells [.int .i64 0, .slice none 0 0].toArray 114) alloc_rn ?_; intro w' aa gg zz; replace HL := Lib.hid (HL.out.alloc aa gg.out); clear aa gg zz; try simp only [List.nil_append, List.cons_append, List.set_cons_zero, List.set_cons_succ] at HL) | (refine wpList_store_rowZ rfl 114 (.tmp 7) (.tmp 32) rfl _ (ndK p).toArray rfl rfl _ _ (HL.out.get 1 rfl) (rn_info _) rfl HOne.out ?_; intro w' b1 b2 b3; replace HL := Lib.hid (HL.out.store 1 rfl b1 b2 b3); clear b1 b2 b3; try simp only [List.nil_append, List.cons_append, List.set_cons_zero, List.set_cons_succ] at HL) | (refine wpList_load_rowG (by kernel_rfl) 114 (.tmp 7) rfl _ rfl _ _ _ _ (HL.out.get 1 rfl) Try.underlying114 rfl (rn_info p) ?_))
      refine (HF.out _ HL.out.aft).mono ?_
      rintro e w5 ⟨rfl, h5⟩
      replace HL := Lib.hid (HL.out.call h5)
      clear h5 HF
      by_cases hf : fstT d p.1 < id
      · rw [if_pos hf] at HCh
        generalize fstT d p.1 = f at *
        go_wp2_with fail
        go_roundw
        case rel => exact ⟨i + 1, by omega, by go_num, by rw [HCh.out], HL.out.cut 1⟩
        case measure => simp [intOf]; omega
      · rw [if_neg hf] at HCh
        generalize fstT d p.1 = f at *
        go_wp2_with fail
        go_roundw
        case rel => exact ⟨i + 1, by omega, by go_num, by rw [HCh.out], HL.out.cut 1⟩
        case measure => simp [intOf]; omega
    · obtain rfl : i = ps.length := by omega
      have hlt' : ¬ ((ps.length : Nat) : Int) < (ps.length : Nat) := by omega
      have hca := HAt.out
      have HWt := Lib.hid (show withT id (d + 1) t = splT ((kidsT t).take (chP (fun f => decide (f < id)) d (kidsT t) ps.length) ++ withT id d ((kidsT t).getD (chP (fun f => decide (f < id)) d (kidsT t) ps.length) (dfT d)) ++ (kidsT t).drop (chP (fun f => decide (f < id)) d (kidsT t) ps.length + 1)) by rw [withT_succ, HLen.out])
      generalize chP (fun f => decide (f < id)) d (kidsT t) ps.length = c at *
      have hc3 : (c : Int) ≤ 3 := by have := HL23.out; omega
      have hcl : (c : Int) < (ps.length : Nat) := by omega
      have hcc := HCap.out
      have hsl1 := fun wx => run_toK (ao := some ⟨g, o, none⟩) (len := ps.length) (cap := cap) (n := c) (by omega) wx
      obtain ⟨ax, hax⟩ : ∃ ax : Option Addr, ax = (if cap = c + 1 then some ⟨g, o, none⟩ else (some ⟨g, o, none⟩ : Option Addr).map (·.add ((c + 1) * 2))) := ⟨_, rfl⟩
      have hsl2 : ∀ wx, (Instr.slice 112 (.slice (some ⟨g, o, none⟩) ps.length cap) (some (.int .i64 ((c : Int) + 1))) none none).run Try.prog wx = .ok (.slice ax (ps.length - (c + 1)) (cap - (c + 1))) wx := fun wx => by
        rw [hax]
        exact run_fromK (n := c + 1) (by omega) wx
      have HT1 := Lib.hid (HR.out.to (n := c) (c := cap) (by omega) (by omega) (Nat.le_refl _))
      have HT2 := Lib.hid (show RdF d w B (.slice ax (ps.length - (c + 1)) (cap - (c + 1))) (ps.drop (c + 1)) by rw [hax]; exact HR.out.from (n := c + 1) (by omega))
      have HRx := Lib.hid (fun (wx : World) (ha : Aft w wx) => HRg.out c hca wx ha)
      have HKx := Lib.hid (HKd.out c hca)
      have HWx := Lib.hid (HWf.out c hca)
      have HGx := Lib.hid (HGet.out c)
      have hc1 := cell_part (n := 1) (HL.out.get 0 rfl) (show _ = some (Value.slice (some ⟨g, o, none⟩) ps.length cap) from rfl)
      generalize ps.getD c (dfT d, .slice none 0 0) = p at *
      obtain ⟨tp, kp⟩ := p
      have hP1l : (ps.take c).length = c := by rw [List.length_take]; omega
      have hS1l : (ps.drop (c + 1)).length = ps.length - (c + 1) := List.length_drop
      have HP1 := Lib.hid (show (ps.take c).map Prod.fst = (kidsT t).take c by rw [← HPs.out, List.map_take])
      have HS1 := Lib.hid (show (ps.drop (c + 1)).map Prod.fst = (kidsT t).drop (c + 1) by rw [← HPs.out, List.map_drop])
      generalize ps.take c = P1 at *
      generalize ps.drop (c + 1) = S1 at *
      have HP1l := Lib.hid hP1l
      have HS1l := Lib.hid hS1l
      clear hax hcc hP1l hS1l
      go_wp2_with (first | (at_builtin; refine wpList_appK rfl (.const (.slice none 0 0)) (.tmp 42) rfl w.heap.size B (.slice none 0 0) [] rfl (OwnF.nil d _ _ B) (fun g hg => (by cases hg)) _ P1 rfl (HT1.out.aft HL.out.aft).row (HT1.out.aft HL.out.aft).kid (by rw [HP1l.out]; simp only [List.length_nil]; omega) (Below.size HL.out.aft) ?_; intro v1 wA k1 k2 k3; have HO1 := Lib.hid k1.out; have HN1 := Lib.hid (show ∀ g, v1.ownBlock = some g → w.heap.size < g from fun g hg => by (rcases k3.out g hg with e | e; cases e; rw [e]; exact heap_lt (HL.out.get 0 rfl))); have HLA := Lib.hid (led_one HL.out k2.out (fun g hg => (by cases hg)) (Nat.le_refl _)); clear k1 k2 k3 hc1; have hc1 := cell_part (n := 1) (HLA.out.get 0 rfl) (show _ = some (Value.slice (some ⟨g, o, none⟩) ps.length cap) from rfl)) | (refine wpList_load_mid2 (by kernel_rfl) 114 (.tmp 48) rfl _ _ rfl (ndK (tp, kp)) (HRx.out _ HLA.out.aft) _ Try.underlying114 rfl (rn_info2 _) ?_))
      refine (HIh.out tp kp B _ (HKx.out.aft HLA.out.aft) HWx.out (fun g hg => Nat.lt_of_lt_of_le (HBl.out g hg) (Below.size HLA.out.aft))).mono ?_
      rintro e wC ⟨v2, qs, rfl, ho2, hq2, h2⟩
      have HO2 := Lib.hid ho2
      have HQ2 := Lib.hid hq2
      have HAC := Lib.hid h2
      have HLC := Lib.hid (HLA.out.call h2)
      have HO1C := Lib.hid (show OwnF d wC w.heap.size (fun g => B g ∨ wA.heap.size ≤ g) v1 P1 from (HO1.out.monoB (fun _ hg _ => .inl hg.1)).aft h2)
      have HB1 := Lib.hid (show ∀ g, v1.ownBlock = some g → ¬ (B g ∨ wA.heap.size ≤ g) from fun g hg q => by
        have h1 := HO1.out.row.lt g hg
        rcases q with q | q
        · exact absurd (HBl.out g q) (Nat.not_lt.2 h1.1)
        · exact absurd h1.2 (Nat.not_lt.2 q))
      have HQr := Lib.hid (show ∀ p ∈ qs, Kd d wC (fun g => B g ∨ wA.heap.size ≤ g) p.1 p.2 from fun p hp => (ho2.kid p hp).mono fun _ hg _ => hg.1)
      have hql : qs.length ≤ 2 := by
        have := (with_wf id d tp HWx.out).2
        rw [← hq2, List.length_map] at this
        omega
      obtain ⟨a1, c1, rfl⟩ := HO1C.out.shape
      obtain ⟨a2, c2, rfl⟩ := ho2.shape
      have HR2 := Lib.hid ho2.row.rd
      have hc2 := cell_part (n := 1) (HLC.out.get 0 rfl) (show _ = some (Value.slice (some ⟨g, o, none⟩) ps.length cap) from rfl)
      clear ho2 hq2 h2 hc1
      have HKf := Lib.hid (show ∀ K3 K4 : List (NT d × Value), K3 = P1 ++ qs → K4 = K3 ++ S1 → K4.map Prod.fst = (kidsT t).take c ++ withT id d ((kidsT t).getD c (dfT d)) ++ (kidsT t).drop (c + 1) from fun K3 K4 e1 e2 => by
        rw [e2, e1, List.map_append, List.map_append, HP1.out, HS1.out, HQ2.out, HGx.out])
      by_cases hq5 : ps.length + qs.length = 5
      · have HQ5 := Lib.hid hq5
        clear hq5
        go_wp2_with (first | (at_builtin; refine wpList_appK rfl (.tmp 44) (.tmp 51) rfl w.heap.size (fun g => B g ∨ wA.heap.size ≤ g) _ P1 rfl HO1C.out HB1.out _ qs rfl HR2.out HQr.out (by rw [HP1l.out]; omega) (Below.size HLC.out.aft) ?_; intro v3 wD k1 k2 k3; have HO3 := Lib.hid k1.out; have HV3 := Lib.hid k3.out; have HLD := Lib.hid (led_one HLC.out k2.out HN1.out (Nat.le_refl _)); clear k1 k2 k3 hc2; have hc2 := cell_part (n := 1) (HLD.out.get 0 rfl) (show _ = some (Value.slice (some ⟨g, o, none⟩) ps.length cap) from rfl); have HN3 := Lib.hid (show ∀ g, v3.ownBlock = some g → w.heap.size < g from fun g hg => by (rcases HV3.out g hg with e | e; exact HN1.out g e; rw [e]; exact heap_lt (HLC.out.get 0 rfl))); have HB3 := Lib.hid (show ∀ g, v3.ownBlock = some g → ¬ ((B g ∨ wA.heap.size ≤ g) ∧ g < wC.heap.size) from fun g hg q => by (rcases HV3.out g hg with e | e; exact HB1.out g e q.1; exact absurd q.2 (by rw [e]; exact Nat.lt_irrefl _))); have HT3 := Lib.hid (HT2.out.aft HLD.out.aft); have HT3k := Lib.hid (show ∀ p ∈ S1, Kd d wD (fun g => (B g ∨ wA.heap.size ≤ g) ∧ g < wC.heap.size) p.1 p.2 from fun p hp => (HT3.out.kid p hp).mono fun g hg _ => ⟨.inl hg, Nat.lt_of_lt_of_le (HBl.out g hg) (Below.size HLC.out.aft)⟩); have HK3 := Lib.hid (show (P1 ++ qs).length ≤ 5 by (rw [List.length_append, HP1l.out]; omega)); obtain ⟨a3, c3, he3⟩ := HO3.out.shape; obtain ⟨K3, hK3⟩ : ∃ K3, K3 = P1 ++ qs := ⟨_, rfl⟩; rw [← hK3] at HO3 HK3 he3; have HK3e := Lib.hid hK3; clear hK3; subst he3) | (at_builtin; refine wpList_appK rfl (.tmp 53) (.tmp 58) rfl w.heap.size (fun g => (B g ∨ wA.heap.size ≤ g) ∧ g < wC.heap.size) _ K3 rfl HO3.out HB3.out _ S1 rfl HT3.out.row HT3k.out (by have h1 := HK3.out; have h2 := HL23.out; rw [HS1l.out]; omega) (Below.size HLD.out.aft) ?_; intro v4 wE k1 k2 k3; have HO4 := Lib.hid k1.out; have HV4 := Lib.hid k3.out; have HLE := Lib.hid (led_one HLD.out k2.out HN3.out (Nat.le_refl _)); have HN4 := Lib.hid (show ∀ g, v4.ownBlock = some g → w.heap.size < g from fun g hg => by (rcases HV4.out g hg with e | e; exact HN3.out g e; rw [e]; exact heap_lt (HLD.out.get 0 rfl))); have HK4 := Lib.hid (show (K3 ++ S1).length + 1 = ps.length + qs.length by (rw [List.length_append, HK3e.out, List.length_append, HP1l.out, HS1l.out]; omega)); obtain ⟨a4, c4, he4⟩ := HO4.out.shape; obtain ⟨K4, hK4⟩ : ∃ K4, K4 = K3 ++ S1 := ⟨_, rfl⟩; rw [← hK4] at HO4 HK4 he4; have HK4e := Lib.hid hK4; clear hK4; subst he4; clear k1 k2 k3 hc2; first | (have hk4 : (((K4.length : Nat) : Int) == 4) = true := beq_iff_eq.2 (by have h1 := HK4.out; have h2 := HQ5.out; omega)) | (have hk4 : (((K4.length : Nat) : Int) == 4) = false := beq_eq_false_iff_ne.2 (fun q => absurd HK4.out (fun h1 => HQ5.out (by omega))))))
        have hK4l : K4.length = 4 := by have h1 := HK4.out; have h2 := HQ5.out; omega
        have hc4 : K4.length ≤ c4 := by
          obtain ⟨_, _, he, h1, -⟩ := HO4.out.rd.shape
          injection he with e1 e2 e3
          omega
        have HRd := Lib.hid HO4.out.rd
        have hw2 := fun wx => run_wholeK (ao := a4) (len := K4.length) (cap := c4) (n := 2) (by omega) wx
        obtain ⟨ay, hay⟩ : ∃ ay : Option Addr, ay = (if c4 = 2 then a4 else a4.map (·.add (2 * 2))) := ⟨_, rfl⟩
        have hf2 : ∀ wx, (Instr.slice 112 (.slice a4 K4.length c4) (some (.int .i64 2)) none none).run Try.prog wx = .ok (.slice ay (K4.length - 2) (c4 - 2)) wx := fun wx => by
          rw [hay]
          exact run_fromK (n := 2) (by omega) wx
        have HL1 := Lib.hid (HRd.out.to (n := 2) (c := 2) (by omega) (Nat.le_refl _) (by omega))
        have HL2 := Lib.hid (show RdF d wE _ (.slice ay (K4.length - 2) (c4 - 2)) (K4.drop 2) by rw [hay]; exact HRd.out.from (n := 2) (by omega))
        clear hay hK4l hc4
        refine wp_region_lex (fun wz => ∃ u : Later wE.heap.size wE, wz = u.w) (fun i => ([6] : List Nat).contains i) 7 (by kernel_rfl) (by kernel_rfl) ⟨⟨wE.drew, (Below.refl _ _).drew⟩, rfl⟩ ?_
        change wpLx _ _ _ _ _ _ _ _ _ wE.drew
        have HDr := Lib.hid (show Aft wE wE.drew from (Below.refl _ _).drew)
        generalize wE.drew = wd at *
        try simp only [Act.put, List.setIfInBounds_toArray, List.set_cons_succ, List.set_cons_zero]
        repeat (first | (refine lx_skipT (by go_big_quiet_skip; exact wpQuiet_nil trivial) (by kernel_rfl) ?_; simp only [Act.put, List.setIfInBounds_toArray, List.set_cons_succ, List.set_cons_zero]) | (refine lx_quietT rfl (by go_big_quiet_want; exact quiet_false (by assumption)) (by kernel_rfl) rfl ?_; intro Kx hKx; go_big_quiet_op; go_big_quiet_on))
        refine lx_slice rfl (by kernel_rfl) 112 (.tmp 63) none (some (.const (.int .i64 2))) (some (.const (.int .i64 2))) rfl (.slice a4 2 2) (fun wx => (sliceAt_K _ _ _ _ wx).trans (hw2 wx)) ?_
        simp only [Act.put, List.setIfInBounds_toArray, List.set_cons_succ, List.set_cons_zero]
        repeat (first | (refine lx_skipT (by go_big_quiet_skip; exact wpQuiet_nil trivial) (by kernel_rfl) ?_; simp only [Act.put, List.setIfInBounds_toArray, List.set_cons_succ, List.set_cons_zero]) | (refine lx_quietT rfl (by go_big_quiet_want; exact quiet_false (by assumption)) (by kernel_rfl) rfl ?_; intro Kx hKx; go_big_quiet_op; go_big_quiet_on))
        refine lx_effT rfl (by go_big_quiet_want; exact quiet_false (by assumption)) (by kernel_rfl) ?_; intro Kx hKx; go_wp2_with fail
        refine ⟨⟨⟨_, Aft.trans HDr.out (Aft.alloc _ _)⟩, rfl⟩, ?_⟩
        have HGF := Lib.hid (heap_alloc_new wd (.cells #[.int .i64 0, .slice a4 2 2, .int .i64 0, .slice ay (K4.length - 2) (c4 - 2)] 114))
        have HAF := Lib.hid (Aft.trans HDr.out (Aft.alloc wd (.cells #[.int .i64 0, .slice a4 2 2, .int .i64 0, .slice ay (K4.length - 2) (c4 - 2)] 114)))
        have HSd := Lib.hid (Below.size HDr.out)
        obtain ⟨gd, hgd⟩ : ∃ gd, gd = wd.heap.size := ⟨_, rfl⟩
        rw [← hgd] at HGF HSd ⊢
        generalize wd.alloc (.cells #[.int .i64 0, .slice a4 2 2, .int .i64 0, .slice ay (K4.length - 2) (c4 - 2)] 114) = wF at *
        clear hgd hw2 hf2
        refine lx_done ?_
        go_wp2_with fail
        go_ret
        have hB : ∀ x, (((B x ∨ wA.heap.size ≤ x) ∧ x < wC.heap.size) ∧ x < wD.heap.size) ∨ (Value.slice a4 K4.length c4).ownBlock = some x → x < wE.heap.size → (B x ∨ w.heap.size ≤ x) ∧ (Value.slice (some ⟨gd, 0, none⟩) 2 2).ownBlock ≠ some x := fun x hx hlx => by
          refine ⟨?_, fun q => by cases q; exact absurd hlx (Nat.not_lt.2 HSd.out)⟩
          rcases hx with hx | hx
          · rcases hx.1.1 with h | h
            · exact .inl h
            · exact .inr (Nat.le_trans (Below.size HLA.out.aft) h)
          · exact .inr (Nat.le_of_lt (HN4.out _ hx))
        have hk1 := (HL1.out.kd.mono hB).aft HAF.out
        have hk2 := (HL2.out.kd.mono hB).aft HAF.out
        refine ⟨_, [(grpT ((K4.take 2).map Prod.fst), .slice a4 2 2), (grpT ((K4.drop 2).map Prod.fst), .slice ay (K4.length - 2) (c4 - 2))], rfl, OwnF.blk (d := d + 1) (ps := [(grpT ((K4.take 2).map Prod.fst), .slice a4 2 2), (grpT ((K4.drop 2).map Prod.fst), .slice ay (K4.length - 2) (c4 - 2))]) HGF.out (Nat.le_trans (Below.size HLE.out.aft) HSd.out) (by show 2 ≤ 1000; decide) (fun p hp => ?_), ?_, Aft.trans HLE.out.aft HAF.out⟩
        · simp only [List.mem_cons, List.not_mem_nil, or_false] at hp
          rcases hp with rfl | rfl
          · exact hk1
          · exact hk2
        · rw [HWt.out, ← HKf.out K3 K4 HK3e.out HK4e.out, splT_four (by rw [List.length_map]; have h1 := HK4.out; have h2 := HQ5.out; omega), ← List.map_take, ← List.map_drop]
          rfl
      · have HQ5 := Lib.hid hq5
        clear hq5
        go_wp2_with (first | (at_builtin; refine wpList_appK rfl (.tmp 44) (.tmp 51) rfl w.heap.size (fun g => B g ∨ wA.heap.size ≤ g) _ P1 rfl HO1C.out HB1.out _ qs rfl HR2.out HQr.out (by rw [HP1l.out]; omega) (Below.size HLC.out.aft) ?_; intro v3 wD k1 k2 k3; have HO3 := Lib.hid k1.out; have HV3 := Lib.hid k3.out; have HLD := Lib.hid (led_one HLC.out k2.out HN1.out (Nat.le_refl _)); clear k1 k2 k3 hc2; have hc2 := cell_part (n := 1) (HLD.out.get 0 rfl) (show _ = some (Value.slice (some ⟨g, o, none⟩) ps.length cap) from rfl); have HN3 := Lib.hid (show ∀ g, v3.ownBlock = some g → w.heap.size < g from fun g hg => by (rcases HV3.out g hg with e | e; exact HN1.out g e; rw [e]; exact heap_lt (HLC.out.get 0 rfl))); have HB3 := Lib.hid (show ∀ g, v3.ownBlock = some g → ¬ ((B g ∨ wA.heap.size ≤ g) ∧ g < wC.heap.size) from fun g hg q => by (rcases HV3.out g hg with e | e; exact HB1.out g e q.1; exact absurd q.2 (by rw [e]; exact Nat.lt_irrefl _))); have HT3 := Lib.hid (HT2.out.aft HLD.out.aft); have HT3k := Lib.hid (show ∀ p ∈ S1, Kd d wD (fun g => (B g ∨ wA.heap.size ≤ g) ∧ g < wC.heap.size) p.1 p.2 from fun p hp => (HT3.out.kid p hp).mono fun g hg _ => ⟨.inl hg, Nat.lt_of_lt_of_le (HBl.out g hg) (Below.size HLC.out.aft)⟩); have HK3 := Lib.hid (show (P1 ++ qs).length ≤ 5 by (rw [List.length_append, HP1l.out]; omega)); obtain ⟨a3, c3, he3⟩ := HO3.out.shape; obtain ⟨K3, hK3⟩ : ∃ K3, K3 = P1 ++ qs := ⟨_, rfl⟩; rw [← hK3] at HO3 HK3 he3; have HK3e := Lib.hid hK3; clear hK3; subst he3) | (at_builtin; refine wpList_appK rfl (.tmp 53) (.tmp 58) rfl w.heap.size (fun g => (B g ∨ wA.heap.size ≤ g) ∧ g < wC.heap.size) _ K3 rfl HO3.out HB3.out _ S1 rfl HT3.out.row HT3k.out (by have h1 := HK3.out; have h2 := HL23.out; rw [HS1l.out]; omega) (Below.size HLD.out.aft) ?_; intro v4 wE k1 k2 k3; have HO4 := Lib.hid k1.out; have HV4 := Lib.hid k3.out; have HLE := Lib.hid (led_one HLD.out k2.out HN3.out (Nat.le_refl _)); have HN4 := Lib.hid (show ∀ g, v4.ownBlock = some g → w.heap.size < g from fun g hg => by (rcases HV4.out g hg with e | e; exact HN3.out g e; rw [e]; exact heap_lt (HLD.out.get 0 rfl))); have HK4 := Lib.hid (show (K3 ++ S1).length + 1 = ps.length + qs.length by (rw [List.length_append, HK3e.out, List.length_append, HP1l.out, HS1l.out]; omega)); obtain ⟨a4, c4, he4⟩ := HO4.out.shape; obtain ⟨K4, hK4⟩ : ∃ K4, K4 = K3 ++ S1 := ⟨_, rfl⟩; rw [← hK4] at HO4 HK4 he4; have HK4e := Lib.hid hK4; clear hK4; subst he4; clear k1 k2 k3 hc2; first | (have hk4 : (((K4.length : Nat) : Int) == 4) = true := beq_iff_eq.2 (by have h1 := HK4.out; have h2 := HQ5.out; omega)) | (have hk4 : (((K4.length : Nat) : Int) == 4) = false := beq_eq_false_iff_ne.2 (fun q => absurd HK4.out (fun h1 => HQ5.out (by omega))))) | (refine wpList_rn1 (by kernel_rfl) (.tmp 71) 0 (.slice a4 K4.length c4) rfl rfl ?_; intro wF q1 q2; have HAF := Lib.hid q1; have HGF := Lib.hid q2.out; clear q1 q2))
        go_ret
        have hkd := (HO4.out.rd.kd.mono (B' := fun x => (B x ∨ w.heap.size ≤ x) ∧ (Value.slice (some ⟨wE.heap.size, 0, none⟩) 1 1).ownBlock ≠ some x) (fun x hx hlx => ⟨?_, fun q => by cases q; exact absurd hlx (Nat.lt_irrefl _)⟩)).aft HAF.out
        · refine ⟨_, [(grpT (K4.map Prod.fst), .slice a4 K4.length c4)], rfl, OwnF.blk (d := d + 1) (ps := [(grpT (K4.map Prod.fst), .slice a4 K4.length c4)]) HGF.out (Below.size HLE.out.aft) (by show 1 ≤ 1000; decide) (fun p hp => by rw [List.mem_singleton.1 hp]; exact hkd), ?_, Aft.trans HLE.out.aft HAF.out⟩
          rw [HWt.out, ← HKf.out K3 K4 HK3e.out HK4e.out, splT_not (by rw [List.length_map]; have h1 := HK4.out; have h2 := HQ5.out; omega)]
          rfl
        · rcases hx with hx | hx
          · rcases hx.1.1 with h | h
            · exact .inl h
            · exact .inr (Nat.le_trans (Below.size HLA.out.aft) h)
          · exact .inr (Nat.le_of_lt (HN4.out _ hx))
theorem rwith_any (id : Int) : ∀ (d : Nat) (t : NT d) (k : Value) (B : Nat → Prop) (w : World), Kd d w B t k → wfT d t → (∀ g, B g → g < w.heap.size) → Calls Try.prog 83 #[.agg (ndK (t, k)).toArray, .int .i64 id] w (WithSays id d t B w)
  | 0, t, k, B, w, hk, _, _ => by
    obtain rfl : k = .slice none 0 0 := hk
    exact rwith_zero id t B w
  | d + 1, t, k, B, w, hk, hw, hB => rwith_succ id d (rwith_any id d) t k B w hk hw hB
end Go.Proofs.Ytfgammcefaomeaa
