/- law 12's live: it answers true. -/
import Derived.Test.YtfgammcefaomeaaP7
import Derived.Test.YtfgammcefaomeaaP8
import Derived.Test.YtfgammcefaomeaaP9
import Derived.Test.YtfgammcefaomeaaB3
namespace Go.Proofs.Ytfgammcefaomeaa
open Go Go.RowKit
set_option linter.unusedSimpArgs false
section
variable {ops : Array Oper} {rest : List Oper} {o : Oper} {a : Act} {w : World} {Q : Exit → Act → World → Prop}
theorem run_stSlice2 (x y : List Value) (p q p' q' : Int) (ao bo : Option Addr) (n c n' c' : Nat) (hx : x = stR p q (.slice ao n c)) (hy : y = stR p' q' (.slice bo n' c')) (w : World) : (Instr.buildSlice 28 2 #[(0, .agg x.toArray), (1, .agg y.toArray)]).run Try.prog w = .ok (.slice (some ⟨w.heap.size, 0, none⟩) 2 2) (w.alloc (.cells (x ++ y).toArray 40)) := by
  subst hx hy
  kernel_rfl
theorem wpList_stSlice2 (hw : Region.wanted o (yielded ops a.tmps) = true) (y z : Operand) (p q p' q' : Int) (ao bo : Option Addr) (n c n' c' : Nat) (ho : o.op = .buildSlice 28 2 #[(0, y), (1, z)]) (hy : a.eval y = .agg (stR p q (.slice ao n c)).toArray) (hz : a.eval z = .agg (stR p' q' (.slice bo n' c')).toArray)
    (h : ∀ w', Aft w w' → Hid (w'.heap[w.heap.size]? = some (.cells (stR p q (.slice ao n c) ++ stR p' q' (.slice bo n' c')).toArray 40 (0, 0))) → wpList Try.prog ops Q rest (a.put o.dst (.slice (some ⟨w.heap.size, 0, none⟩) 2 2)) w') : wpList Try.prog ops Q (o :: rest) a w := by
  unfold wpList
  rw [if_pos hw]
  refine .inl (wp_noOut ?_)
  unfold Oper.wp execOp
  simp only [ho, hy, hz, Sem.run_bind, List.map_toArray, List.map_cons, List.map_nil, run_stSlice2 _ _ p q p' q' ao bo n c n' c' rfl rfl w, Result.andThen_ok, Sem.run_pure]
  exact h _ (Aft.alloc w _) (Lib.hid (heap_alloc_new w _))
end
theorem build_st (p q : Int) (ao : Option Addr) (n c : Nat) (w : World) : (Instr.build 40 #[(0, .int .i64 p), (1, .int .i64 q), (2, .slice ao n c)]).run Try.prog w = .ok (.agg (stR p q (.slice ao n c)).toArray) w := by kernel_rfl
theorem build_pl1 (ao : Option Addr) (n c : Nat) (w : World) : (Instr.build 30 #[(1, .slice ao n c)]).run Try.prog w = .ok (.agg (plR (.slice none 0 0) (.slice ao n c)).toArray) w := by kernel_rfl
theorem rdSt_two {w : World} {g : Nat} {x y : Stp} {ao bo : Option Addr} {c c' : Nat} (hg : w.heap[g]? = some (.cells (stR x.nd x.fr (.slice ao x.sd.length c) ++ stR y.nd y.fr (.slice bo y.sd.length c')).toArray 40 (0, 0))) (h1 : Rd w (.slice ao x.sd.length c) (zv x.sd)) (h2 : Rd w (.slice bo y.sd.length c') (zv y.sd)) :
    RdSt w (.slice (some ⟨g, 0, none⟩) 2 2) [(x, .slice ao x.sd.length c), (y, .slice bo y.sd.length c')] := by
  refine ⟨⟨?_, .inr ⟨g, 0, 2, rfl, Nat.le_refl _, by decide, heap_lt hg, fun i hi j u hu => ?_⟩⟩, fun p hp => ?_⟩
  · intro r hr
    simp only [stRs, List.map_cons, List.map_nil, List.mem_cons, List.not_mem_nil, or_false] at hr
    rcases hr with rfl | rfl <;> exact ⟨rfl, stR_one⟩
  · match i, hi, j, hu with
    | 0, _, 0, hu => exact cell_part (n := 0) hg hu
    | 0, _, 1, hu => exact cell_part (n := 1) hg hu
    | 0, _, 2, hu => exact cell_part (n := 2) hg hu
    | 1, _, 0, hu => exact cell_part (n := 3) hg hu
    | 1, _, 1, hu => exact cell_part (n := 4) hg hu
    | 1, _, 2, hu => exact cell_part (n := 5) hg hu
    | 0, _, j + 3, hu => cases hu
    | 1, _, j + 3, hu => cases hu
    | i + 2, hi, _, _ => exact absurd hi (by simp [stRs])
  · simp only [List.mem_cons, List.not_mem_nil, or_false] at hp
    rcases hp with rfl | rfl
    · exact h1
    · exact h2
theorem pln4 : PlnOk 1 [1, 2, 3, 4] [[2, 2], [2]] [1, 2, 3, 4] [[2, 2], [2]] 1 := by unfold PlnOk; decide
theorem wf4 : ∀ x ∈ [(1 : Int), 2, 3, 4], (Lit.int .i64 x).wf = true := by decide
theorem stp4 : stpL (nodesL 1 [1, 2, 3, 4] [[2, 2], [2]]) (lvT (nodesL 1 [1, 2, 3, 4] [[2, 2], [2]]) [1, 2, 3, 4] [] 1) [1, 2, 3, 4] (nodesL 1 [1, 2, 3, 4] [[2, 2], [2]]) 1 (nodesL 1 [1, 2, 3, 4] [[2, 2], [2]]).length = [⟨2, 0, [1]⟩, ⟨6, 2, [5]⟩] := by decide +kernel
theorem lits12 (w w1 w2 w3 : World) (h1 : w1 = w.alloc (.cells #[.int .i64 1] 3 (0, 0))) (h2 : w2 = w1.alloc (.cells #[.int .i64 5] 3 (0, 0)))
    (h3 : w3 = w2.alloc (.cells #[.int .i64 2, .int .i64 0, .slice (some ⟨w.heap.size, 0, none⟩) 1 1, .int .i64 6, .int .i64 2, .slice (some ⟨w.heap.size + 1, 0, none⟩) 1 1] 40 (0, 0))) :
    Aft w w3 ∧ RdSt w3 (.slice (some ⟨w.heap.size + 1 + 1, 0, none⟩) 2 2) [(⟨2, 0, [1]⟩, .slice (some ⟨w.heap.size, 0, none⟩) 1 1), (⟨6, 2, [5]⟩, .slice (some ⟨w.heap.size + 1, 0, none⟩) 1 1)] := by
  have s1 : w1.heap.size = w.heap.size + 1 := by rw [h1, World.size_alloc]
  have s2 : w2.heap.size = w.heap.size + 1 + 1 := by rw [h2, World.size_alloc, s1]
  have a1 : Aft w w1 := h1 ▸ Aft.alloc w _
  have a2 : Aft w1 w2 := h2 ▸ Aft.alloc w1 _
  have a3 : Aft w2 w3 := h3 ▸ Aft.alloc w2 _
  have o1 : OwnI w1 0 (.slice (some ⟨w.heap.size, 0, none⟩) 1 1) [1] := h1 ▸ lit_own (w := w) [1] (Nat.zero_le _) (by decide)
  have o2 : OwnI w2 0 (.slice (some ⟨w.heap.size + 1, 0, none⟩) 1 1) [5] := s1 ▸ h2 ▸ lit_own (w := w1) [5] (Nat.zero_le _) (by decide)
  have hg : w3.heap[w.heap.size + 1 + 1]? = some (.cells (stR 2 0 (.slice (some ⟨w.heap.size, 0, none⟩) 1 1) ++ stR 6 2 (.slice (some ⟨w.heap.size + 1, 0, none⟩) 1 1)).toArray 40 (0, 0)) := by
    rw [← s2, h3]
    exact heap_alloc_new w2 _
  exact ⟨Aft.trans a1 (Aft.trans a2 a3), rdSt_two (x := ⟨2, 0, [1]⟩) (y := ⟨6, 2, [5]⟩) hg (o1.rd.grow (Aft.trans a2 a3)) (o2.rd.grow a3)⟩
theorem snd4 : sndL [⟨2, 0, [1]⟩, ⟨6, 2, [5]⟩] = 2 := rfl
set_option maxRecDepth 100000 in
set_option maxHeartbeats 8000000 in
theorem live12_any (w : World) : Calls Try.prog 11 #[] w fun e w' => e = .returned (.bool true) ∧ Aft w w' := by
  have HBu := Lib.hid (fun (wx : World) (v : Value) (h : Rd wx v (zv [1, 2, 3, 4])) => tbuild_any v [1, 2, 3, 4] wx h (by decide))
  have HL := Lib.hid (Led.start w)
  go_enter Try.func11, Try.ntmps11
  go_wp2_with fail
  refine (HBu.out _ _ (lit_own (w := w) (base := 0) [1, 2, 3, 4] (Nat.zero_le _) (by decide)).rd).mono ?_
  rintro e w2 ⟨vi, vl, vs, he, ho, h2⟩
  rw [bld4] at he ho
  dsimp only at he ho
  subst he
  replace HL := Lib.hid (HL.out.call (Aft.trans (Aft.alloc w _) h2))
  obtain ⟨a1, c1, b1, d1, rfl, rfl⟩ := ho.shape
  have HMk := Lib.hid (fun (wx : World) (ha : Aft w2 wx) => make_any 1 1 _ _ _ _ (.slice none 0 0) [1, 2, 3, 4] [[2, 2], [2]] [1, 2, 3, 4] [[2, 2], [2]] [] wx (ho.ids.rd.grow ha) (ho.lv.rd.aft ha) (small_of ok4) (ho.ids.rd.grow ha) (ho.lv.rd.aft ha) (small_of ok4) (OwnI.nil wx 0).rd (by decide) (by simp) (by decide) (make_pre wf4 wf4))
  have HA := Lib.hid (Aft.refl w2)
  clear ho h2 HBu
  generalize [1, 2, 3, 4].length = n1 at *
  generalize [[2, 2], [2]].length = n2 at *
  go_wp2_with (first | (refine wpList_allocO rfl 25 rfl (.cells (shpL (.slice none 0 0) (.slice none 0 0)).toArray 25) alloc_shp ?_; intro w' aa gg zz; replace HA := Lib.hid (Aft.trans HA.out aa); replace HL := Lib.hid (HL.out.alloc aa gg.out); clear aa gg zz; try simp only [List.nil_append, List.cons_append, List.set_cons_zero, List.set_cons_succ] at HL) | (refine wpList_store_shp rfl (.tmp 1) (.tmp 8) _ _ _ (.slice a1 n1 c1) (.slice b1 n2 d1) rfl rfl rfl rfl rfl (HL.out.get 0 rfl) ?_; intro w9 b1 b2 b3; replace HA := Lib.hid (b3 _ _ (Nat.le_refl _) HA.out); replace HL := Lib.hid (HL.out.store 0 rfl b1 b2 b3); clear b1 b2 b3; try simp only [List.nil_append, List.cons_append, List.set_cons_zero, List.set_cons_succ] at HL) | (refine wpList_load_rowG (by kernel_rfl) 25 (.tmp 1) rfl _ rfl _ _ _ _ (HL.out.get 0 rfl) Try.underlying25 rfl (shp_info _ _) ?_))
  refine (HMk.out _ HA.out).mono ?_
  rintro e w3 (⟨-, vk, vs, ss, rfl, hk, hS, hss, h3⟩ | ⟨hno, -⟩)
  rotate_left
  · exact absurd pln4 hno
  rw [stp4] at hss
  obtain ⟨ka, kc, rfl⟩ := hk.shape
  obtain ⟨sa, sc, rfl⟩ := hS.shape
  have hsl : ss.length = 2 := by have := congrArg List.length hss; simpa using this
  rw [hsl] at hS ⊢
  have HSd := Lib.hid (show ∀ p ∈ ss, p.1.sd.length ≤ 1000000 from fun p hp => by
    have h : p.1 ∈ ss.map Prod.fst := List.mem_map_of_mem hp
    rw [hss] at h
    simp only [List.mem_cons, List.not_mem_nil, or_false] at h
    rcases h with h | h <;> rw [h] <;> decide)
  have HSs := Lib.hid hss
  have HSl := Lib.hid hsl
  have HS := Lib.hid hS
  have HA3 := Lib.hid (Aft.refl w3)
  replace HL := Lib.hid (HL.out.call h3)
  clear hk hS hss hsl h3 HMk HA
  generalize (keepL _ _ _ _ _).length = nk at *
  go_wp2_with (first | (refine wpList_allocO rfl 30 rfl (.cells (plR (.slice none 0 0) (.slice none 0 0)).toArray 30) alloc_pl ?_; intro w4 aa gg zz; replace HA3 := Lib.hid (Aft.trans HA3.out aa); replace HL := Lib.hid (HL.out.alloc aa gg.out); clear aa gg zz; try simp only [List.nil_append, List.cons_append, List.set_cons_zero, List.set_cons_succ] at HL) | (refine wpList_store_rowZ rfl 30 (.tmp 3) (.tmp 14) rfl _ (plR (.slice ka nk kc) (.slice sa 2 sc)).toArray rfl rfl _ _ (HL.out.get 1 rfl) (pl_info _ _) rfl (all_one plR_one) ?_; intro w5 b1 b2 b3; replace HA3 := Lib.hid (b3 _ _ (Nat.le_refl _) HA3.out); replace HL := Lib.hid (HL.out.store 1 rfl b1 b2 b3); clear b1 b2 b3; try simp only [List.nil_append, List.cons_append, List.set_cons_zero, List.set_cons_succ] at HL; have e1 := cell_part (n := 1) (HL.out.get 1 rfl) rfl) | (refine wpList_load_rowG (by kernel_rfl) 30 (.tmp 3) rfl _ rfl _ _ _ _ (HL.out.get 1 rfl) Try.underlying30 rfl (pl_info _ _) ?_))
  refine (sends_any _ _ ss nk ka kc rfl _ (HS.out.rd.aft HA3.out) (by have := HSl.out; omega) HSd.out).mono ?_
  rintro e w6 ⟨rfl, h6⟩
  rw [HSs.out, snd4]
  replace HA3 := Lib.hid (Aft.trans HA3.out h6)
  replace HL := Lib.hid (HL.out.call h6)
  clear h6 e1
  have e1 := cell_part (n := 1) (HL.out.get 1 rfl) rfl
  go_wp2_with fail
  obtain ⟨q1, q2⟩ := lits12 w6 _ _ _ rfl rfl rfl
  refine (psame_any _ _ _ _ [] [] ss _ _ (OwnI.nil _ 0).rd (HS.out.rd.aft (Aft.trans HA3.out q1)) (OwnI.nil _ 0).rd q2 (by have := HSl.out; omega)).mono ?_
  rintro e w10 ⟨rfl, h10⟩
  rw [HSs.out]
  replace HL := Lib.hid (Aft.trans HL.out.aft (Aft.trans q1 h10))
  clear h10 q1 q2
  go_wp2_with fail
  go_ret
  exact ⟨rfl, HL.out⟩
end Go.Proofs.Ytfgammcefaomeaa
