/- coterielaw10.TreeDoes: it answers true. -/
import Derived.Test.YtejdkmfbncedkaaW16
import Derived.Test.YtejdkmfbncedkaaW17
import Derived.Test.YtejdkmfbncedkaaT20
import Derived.Test.YtejdkmfbncedkaaB3
namespace Go.Proofs.Ytejdkmfbncedkaa
open Go Go.RowKit
set_option linter.unusedSimpArgs false
theorem ins_okT (ids : List Int) (ls : List (List Int)) (id : Int) : OkT (insIds ids ls id) (insLv ids ls id) := by
  by_cases h : insE ids ls id = 0
  · exact (ins_ok h).1
  · unfold insIds insLv
    rw [if_neg h, if_neg h]
    exact ok_empty
theorem del_okT (ids : List Int) (ls : List (List Int)) (id : Int) : OkT (delIds ids ls id) (delLv ids ls id) := by
  by_cases h : delE ids ls id = 0
  · exact (del_ok h).1
  · unfold delIds delLv
    rw [if_neg h, if_neg h]
    exact ok_empty
theorem OwnTr.keepF {w w' : World} {base : Nat} {vi vl : Value} {vs : List Value} {ids : List Int} {ls : List (List Int)} {S : Nat → Prop} (h : OwnTr w base vi vl vs ids ls) (hf : Fr S w w') (hS : ∀ g, S g → g < base) : OwnTr w' base vi vl vs ids ls :=
  ⟨h.ids.fr hf (fun g hg e => absurd (hS g e) (Nat.not_lt.2 (h.ids.lt hg).1)), h.lv.keep hf (fun g hg e => absurd (hS g e) (Nat.not_lt.2 (own_lt h.lv.row hg).1)) (fun i u g hu hg e => absurd (hS g e) (Nat.not_lt.2 ((h.lv.own i u hu).lt hg).1)), h.dis⟩
theorem run_shp2 (u v x y : Value) (w : World) : (Instr.buildSlice 43 2 #[(0, .agg #[u, v]), (1, .agg #[x, y])]).run Try.prog w = .ok (.slice (some ⟨w.heap.size, 0, none⟩) 2 2) (w.alloc (.cells #[u, v, x, y] 26)) := by kernel_rfl
theorem wpList_shp2 {ops : Array Oper} {rest : List Oper} {o : Oper} {a : Act} {w : World} {Q : Exit → Act → World → Prop} (hw : Region.wanted o (yielded ops a.tmps) = true) (y1 y2 : Operand) (u v x y : Value) (ho : o.op = .buildSlice 43 2 #[(0, y1), (1, y2)]) (hy : a.eval y1 = .agg #[u, v]) (hz : a.eval y2 = .agg #[x, y])
    (h : ∀ w', Aft w w' → Hid (w'.heap[w.heap.size]? = some (.cells #[u, v, x, y] 26 (0, 0))) → wpList Try.prog ops Q rest (a.put o.dst (.slice (some ⟨w.heap.size, 0, none⟩) 2 2)) w') : wpList Try.prog ops Q (o :: rest) a w := by
  unfold wpList
  rw [if_pos hw]
  refine .inl (wp_noOut ?_)
  unfold Oper.wp execOp
  simp only [ho, hy, hz, Sem.run_bind, List.map_toArray, List.map_cons, List.map_nil, run_shp2 u v x y w, Result.andThen_ok, Sem.run_pure]
  exact h _ (Aft.alloc w _) (heap_alloc_new w _)
set_option maxRecDepth 100000 in
set_option maxHeartbeats 8000000 in
theorem treeDoes_any (vi vl : Value) (ids : List Int) (ls : List (List Int)) (id : Int) (w : World) (hi : Rd w vi (zv ids)) (hl : RdLs w vl ls) :
    Calls Try.prog 5 #[.agg (shpL vi vl).toArray, .int .i64 id] w fun e w' => e = .returned (.bool true) ∧ Aft w w' := by
  have HI := Lib.hid (fun (wx : World) (ha : Aft w wx) => hi.grow ha)
  have HV := Lib.hid (fun (wx : World) (ha : Aft w wx) => hl.aft ha)
  have HFw := Lib.hid (fun (wx : World) (ha : Aft w wx) => tfew_any vi vl ids ls wx (hi.grow ha) (hl.aft ha))
  obtain ⟨ao, cap, rfl, -, -⟩ := hi.numS
  obtain ⟨bo, dap, rfl, -⟩ := hl.shape
  have HL := Lib.hid (Led.start w)
  clear hi hl
  go_enter Try.func5, Try.ntmps5
  go_wp2_with (first | (refine wpList_boxO rfl 26 (.tmp 0) rfl (.agg (shpL (.slice ao ids.length cap) (.slice bo ls.length dap)).toArray) rfl (.cells (shpL (.slice ao ids.length cap) (.slice bo ls.length dap)).toArray 26) (box_shp _) ?_; intro wB aa gg zz; replace HL := Lib.hid (HL.out.alloc aa gg.out); clear aa gg zz; try simp only [List.nil_append, List.cons_append, List.set_cons_zero, List.set_cons_succ] at HL))
  refine (live10_any _).mono ?_
  rintro e w2 ⟨rfl, h2⟩
  replace HL := Lib.hid (HL.out.call h2)
  clear h2
  go_wp2_with (first | (refine wpList_load_rowG (by kernel_rfl) 26 (.tmp 2) rfl _ rfl _ _ _ _ (HL.out.get 0 rfl) Try.underlying26 rfl (shp_info _ _) ?_))
  refine (HFw.out _ HL.out.aft).mono ?_
  rintro e w3 ⟨rfl, h3⟩
  replace HL := Lib.hid (HL.out.call h3)
  clear h3 HFw
  by_cases hf : fewT ids ls = true
  rotate_left
  · rw [Bool.not_eq_true] at hf
    rw [hf]
    go_wp2_with fail
    go_ret
    exact ⟨rfl, HL.out.aft⟩
  rw [hf]
  have HSm := Lib.hid (fewT_small hf)
  clear hf
  go_wp2_with (first | (refine wpList_load_rowG (by kernel_rfl) 26 (.tmp 2) rfl _ rfl _ _ _ _ (HL.out.get 0 rfl) Try.underlying26 rfl (shp_info _ _) ?_))
  refine (rcopy_any _ _ ids ls _ (HI.out _ HL.out.aft) (HV.out _ HL.out.aft) HSm.out).mono ?_
  rintro e w4 ⟨vi4, vl4, vs4, rfl, ho, h4⟩
  obtain ⟨a4, c4, b4, d4, rfl, rfl⟩ := ho.shape
  have HW := Lib.hid ho
  replace HL := Lib.hid (HL.out.call h4)
  clear ho h4
  go_wp2_with (first | (refine wpList_allocO rfl 26 rfl (.cells (shpL (.slice none 0 0) (.slice none 0 0)).toArray 26) alloc_shp ?_; intro w5 aa gg zz; replace HW := Lib.hid (HW.out.aft aa); replace HL := Lib.hid (HL.out.alloc aa gg.out); clear aa gg zz; try simp only [List.nil_append, List.cons_append, List.set_cons_zero, List.set_cons_succ] at HL) | (refine wpList_store_shp rfl (.tmp 6) (.tmp 28) _ _ _ (.slice a4 ids.length c4) (.slice b4 ls.length d4) rfl rfl rfl rfl rfl (HL.out.get 1 rfl) ?_; intro wX q1 q2 q3; replace HW := Lib.hid (HW.out.stored (HL.out.get 1 rfl) (by decide) (by decide) q2.out); replace HL := Lib.hid (HL.out.store 1 rfl q1 q2 q3); clear q1 q2 q3; (try simp only [List.nil_append, List.cons_append, List.set_cons_zero, List.set_cons_succ] at HL)) | (refine wpList_load_rowG (by kernel_rfl) 26 (.tmp 2) rfl _ rfl _ _ _ _ (HL.out.get 0 rfl) Try.underlying26 rfl (shp_info _ _) ?_))
  have HAX := Lib.hid (show Aft wX wX from Aft.refl _)
  have HSX := Lib.hid (Below.size HL.out.aft)
  obtain ⟨ia, hia⟩ : ∃ ia, ia = insIds ids ls id := ⟨_, rfl⟩
  obtain ⟨la, hla⟩ : ∃ la, la = insLv ids ls id := ⟨_, rfl⟩
  obtain ⟨ea, hea⟩ : ∃ ea, ea = insE ids ls id := ⟨_, rfl⟩
  obtain ⟨ic, hic⟩ : ∃ ic, ic = delIds ids ls id := ⟨_, rfl⟩
  obtain ⟨lc, hlc⟩ : ∃ lc, lc = delLv ids ls id := ⟨_, rfl⟩
  obtain ⟨ec, hec⟩ : ∃ ec, ec = delE ids ls id := ⟨_, rfl⟩
  have HIa := Lib.hid hia
  have HLa := Lib.hid hla
  have HEa := Lib.hid hea
  have HIc := Lib.hid hic
  have HLc := Lib.hid hlc
  have HEc := Lib.hid hec
  have HOka := Lib.hid (show OkT ia la by rw [hia, hla]; exact ins_okT ids ls id)
  have HOkc := Lib.hid (show OkT ic lc by rw [hic, hlc]; exact del_okT ids ls id)
  clear hia hla hea hic hlc hec
  refine (tinsert_any _ _ ids ls id _ (HI.out _ HL.out.aft) (HV.out _ HL.out.aft) HSm.out).mono ?_
  rintro e w6 ⟨vi6, vl6, vs6, rfl, ho, h6⟩
  rw [← HIa.out, ← HLa.out] at ho
  rw [← HEa.out]
  obtain ⟨a6, c6, b6, d6, rfl, rfl⟩ := ho.shape
  have HTa := Lib.hid ho
  replace HL := Lib.hid (HL.out.call h6)
  replace HAX := Lib.hid (Aft.trans HAX.out h6)
  clear ho h6
  go_wp2_with (first | (refine wpList_allocO rfl 26 rfl (.cells (shpL (.slice none 0 0) (.slice none 0 0)).toArray 26) alloc_shp ?_; intro wa6 aa gg zz; have HG6 := Lib.hid (Below.size HAX.out); replace HAX := Lib.hid (Aft.trans HAX.out aa); replace HTa := Lib.hid (HTa.out.aft aa); replace HL := Lib.hid (HL.out.alloc aa gg.out); clear aa gg zz; (try simp only [List.nil_append, List.cons_append, List.set_cons_zero, List.set_cons_succ] at HL)) | (refine wpList_store_shp rfl (.tmp 7) (.tmp 33) _ _ _ (.slice a6 ia.length c6) (.slice b6 la.length d6) rfl rfl rfl rfl rfl (HL.out.get 2 rfl) ?_; intro wb6 q1 q2 q3; replace HAX := Lib.hid (q3 _ _ HG6.out HAX.out); replace HTa := Lib.hid (HTa.out.stored (HL.out.get 2 rfl) (by decide) (by decide) q2.out); replace HL := Lib.hid (HL.out.store 2 rfl q1 q2 q3); clear q1 q2 q3; (try simp only [List.nil_append, List.cons_append, List.set_cons_zero, List.set_cons_succ] at HL)) | (refine wpList_load_rowG (by kernel_rfl) 26 (.tmp 2) rfl _ rfl _ _ _ _ (HL.out.get 0 rfl) Try.underlying26 rfl (shp_info _ _) ?_))
  refine (rinsert_any _ _ ids ls id _ (HI.out _ HL.out.aft) (HV.out _ HL.out.aft) HSm.out).mono ?_
  rintro e w7 ⟨vi7, vl7, vs7, rfl, ho, h6⟩
  rw [← HIa.out, ← HLa.out] at ho
  rw [← HEa.out]
  obtain ⟨a7, c7, b7, d7, rfl, rfl⟩ := ho.shape
  have HTb := Lib.hid ho
  replace HL := Lib.hid (HL.out.call h6)
  replace HAX := Lib.hid (Aft.trans HAX.out h6)
  replace HTa := Lib.hid (HTa.out.aft h6)
  clear ho h6
  go_wp2_with (first | (refine wpList_allocO rfl 26 rfl (.cells (shpL (.slice none 0 0) (.slice none 0 0)).toArray 26) alloc_shp ?_; intro wa7 aa gg zz; have HG7 := Lib.hid (Below.size HAX.out); replace HAX := Lib.hid (Aft.trans HAX.out aa); replace HTa := Lib.hid (HTa.out.aft aa); replace HTb := Lib.hid (HTb.out.aft aa); replace HL := Lib.hid (HL.out.alloc aa gg.out); clear aa gg zz; (try simp only [List.nil_append, List.cons_append, List.set_cons_zero, List.set_cons_succ] at HL)) | (refine wpList_store_shp rfl (.tmp 9) (.tmp 39) _ _ _ (.slice a7 ia.length c7) (.slice b7 la.length d7) rfl rfl rfl rfl rfl (HL.out.get 3 rfl) ?_; intro wb7 q1 q2 q3; replace HAX := Lib.hid (q3 _ _ HG7.out HAX.out); replace HTa := Lib.hid (HTa.out.stored (HL.out.get 3 rfl) (by decide) (by decide) q2.out); replace HTb := Lib.hid (HTb.out.stored (HL.out.get 3 rfl) (by decide) (by decide) q2.out); replace HL := Lib.hid (HL.out.store 3 rfl q1 q2 q3); clear q1 q2 q3; (try simp only [List.nil_append, List.cons_append, List.set_cons_zero, List.set_cons_succ] at HL)) | (refine wpList_load_rowG (by kernel_rfl) 26 (.tmp 2) rfl _ rfl _ _ _ _ (HL.out.get 0 rfl) Try.underlying26 rfl (shp_info _ _) ?_))
  obtain ⟨m, hm⟩ : ∃ m, m = wb7.heap.size := ⟨_, rfl⟩
  have HM := Lib.hid hm
  have HMx := Lib.hid (show wX.heap.size ≤ m by rw [hm]; exact Below.size HAX.out)
  have HBi := Lib.hid (show ∀ g, (Value.slice a6 ia.length c6).ownBlock = some g → g < m from fun g hg => by rw [hm]; exact (HTa.out.ids.lt hg).2)
  have HBs := Lib.hid (show ∀ (i : Nat) (u : Value) (g : Nat), vs6[i]? = some u → u.ownBlock = some g → g < m from fun i u g hu hg => by rw [hm]; exact ((HTa.out.lv.own i u hu).lt hg).2)
  clear hm
  refine (tdelete_any _ _ ids ls id _ (HI.out _ HL.out.aft) (HV.out _ HL.out.aft) HSm.out).mono ?_
  rintro e w8 ⟨vi8, vl8, vs8, rfl, ho, h6⟩
  rw [← HIc.out, ← HLc.out] at ho
  rw [← HEc.out]
  obtain ⟨a8, c8, b8, d8, rfl, rfl⟩ := ho.shape
  have HTc := Lib.hid ho
  replace HL := Lib.hid (HL.out.call h6)
  replace HAX := Lib.hid (Aft.trans HAX.out h6)
  replace HTa := Lib.hid (HTa.out.aft h6)
  replace HTb := Lib.hid (HTb.out.aft h6)
  clear ho h6
  go_wp2_with (first | (refine wpList_allocO rfl 26 rfl (.cells (shpL (.slice none 0 0) (.slice none 0 0)).toArray 26) alloc_shp ?_; intro wa8 aa gg zz; have HG8 := Lib.hid (Below.size HAX.out); replace HAX := Lib.hid (Aft.trans HAX.out aa); replace HTa := Lib.hid (HTa.out.aft aa); replace HTb := Lib.hid (HTb.out.aft aa); replace HTc := Lib.hid (HTc.out.aft aa); replace HL := Lib.hid (HL.out.alloc aa gg.out); clear aa gg zz; (try simp only [List.nil_append, List.cons_append, List.set_cons_zero, List.set_cons_succ] at HL)) | (refine wpList_store_shp rfl (.tmp 11) (.tmp 45) _ _ _ (.slice a8 ic.length c8) (.slice b8 lc.length d8) rfl rfl rfl rfl rfl (HL.out.get 4 rfl) ?_; intro wb8 q1 q2 q3; replace HAX := Lib.hid (q3 _ _ HG8.out HAX.out); replace HTa := Lib.hid (HTa.out.stored (HL.out.get 4 rfl) (by decide) (by decide) q2.out); replace HTb := Lib.hid (HTb.out.stored (HL.out.get 4 rfl) (by decide) (by decide) q2.out); replace HTc := Lib.hid (HTc.out.stored (HL.out.get 4 rfl) (by decide) (by decide) q2.out); replace HL := Lib.hid (HL.out.store 4 rfl q1 q2 q3); clear q1 q2 q3; (try simp only [List.nil_append, List.cons_append, List.set_cons_zero, List.set_cons_succ] at HL)) | (refine wpList_load_rowG (by kernel_rfl) 26 (.tmp 2) rfl _ rfl _ _ _ _ (HL.out.get 0 rfl) Try.underlying26 rfl (shp_info _ _) ?_))
  refine (rdelete_any _ _ ids ls id _ (HI.out _ HL.out.aft) (HV.out _ HL.out.aft) HSm.out).mono ?_
  rintro e w9 ⟨vi9, vl9, vs9, rfl, ho, h6⟩
  rw [← HIc.out, ← HLc.out] at ho
  rw [← HEc.out]
  obtain ⟨a9, c9, b9, d9, rfl, rfl⟩ := ho.shape
  have HTd := Lib.hid ho
  replace HL := Lib.hid (HL.out.call h6)
  replace HAX := Lib.hid (Aft.trans HAX.out h6)
  replace HTa := Lib.hid (HTa.out.aft h6)
  replace HTb := Lib.hid (HTb.out.aft h6)
  replace HTc := Lib.hid (HTc.out.aft h6)
  clear ho h6
  go_wp2_with (first | (refine wpList_allocO rfl 26 rfl (.cells (shpL (.slice none 0 0) (.slice none 0 0)).toArray 26) alloc_shp ?_; intro wa9 aa gg zz; have HG9 := Lib.hid (Below.size HAX.out); replace HAX := Lib.hid (Aft.trans HAX.out aa); replace HTa := Lib.hid (HTa.out.aft aa); replace HTb := Lib.hid (HTb.out.aft aa); replace HTc := Lib.hid (HTc.out.aft aa); replace HTd := Lib.hid (HTd.out.aft aa); replace HL := Lib.hid (HL.out.alloc aa gg.out); clear aa gg zz; (try simp only [List.nil_append, List.cons_append, List.set_cons_zero, List.set_cons_succ] at HL)) | (refine wpList_store_shp rfl (.tmp 13) (.tmp 51) _ _ _ (.slice a9 ic.length c9) (.slice b9 lc.length d9) rfl rfl rfl rfl rfl (HL.out.get 5 rfl) ?_; intro wb9 q1 q2 q3; replace HAX := Lib.hid (q3 _ _ HG9.out HAX.out); replace HTa := Lib.hid (HTa.out.stored (HL.out.get 5 rfl) (by decide) (by decide) q2.out); replace HTb := Lib.hid (HTb.out.stored (HL.out.get 5 rfl) (by decide) (by decide) q2.out); replace HTc := Lib.hid (HTc.out.stored (HL.out.get 5 rfl) (by decide) (by decide) q2.out); replace HTd := Lib.hid (HTd.out.stored (HL.out.get 5 rfl) (by decide) (by decide) q2.out); replace HL := Lib.hid (HL.out.store 5 rfl q1 q2 q3); clear q1 q2 q3; (try simp only [List.nil_append, List.cons_append, List.set_cons_zero, List.set_cons_succ] at HL)) | (refine wpList_load_rowG (by kernel_rfl) 26 (.tmp 2) rfl _ rfl _ _ _ _ (HL.out.get 0 rfl) Try.underlying26 rfl (shp_info _ _) ?_) | (refine wpList_load_rowG (by kernel_rfl) 26 (.tmp 7) rfl _ rfl _ _ _ _ (HL.out.get 2 rfl) Try.underlying26 rfl (shp_info _ _) ?_) | (refine wpList_load_rowG (by kernel_rfl) 26 (.tmp 9) rfl _ rfl _ _ _ _ (HL.out.get 3 rfl) Try.underlying26 rfl (shp_info _ _) ?_))
  refine (rsame_any _ _ _ _ ia ia la la _ HTa.out.ids.rd HTa.out.lv.rd (small_of HOka.out) HTb.out.ids.rd HTb.out.lv.rd (small_of HOka.out)).mono ?_
  rintro e w10 ⟨rfl, h6⟩
  rw [decide_eq_true (show ia = ia ∧ la = la from ⟨rfl, rfl⟩)]
  replace HL := Lib.hid (HL.out.call h6)
  replace HAX := Lib.hid (Aft.trans HAX.out h6)
  replace HTa := Lib.hid (HTa.out.aft h6)
  replace HTc := Lib.hid (HTc.out.aft h6)
  replace HTd := Lib.hid (HTd.out.aft h6)
  clear h6
  clear HTb
  go_wp2_with (first | (refine wpList_load_rowG (by kernel_rfl) 26 (.tmp 11) rfl _ rfl _ _ _ _ (HL.out.get 4 rfl) Try.underlying26 rfl (shp_info _ _) ?_) | (refine wpList_load_rowG (by kernel_rfl) 26 (.tmp 13) rfl _ rfl _ _ _ _ (HL.out.get 5 rfl) Try.underlying26 rfl (shp_info _ _) ?_))
  refine (rsame_any _ _ _ _ ic ic lc lc _ HTc.out.ids.rd HTc.out.lv.rd (small_of HOkc.out) HTd.out.ids.rd HTd.out.lv.rd (small_of HOkc.out)).mono ?_
  rintro e w11 ⟨rfl, h6⟩
  rw [decide_eq_true (show ic = ic ∧ lc = lc from ⟨rfl, rfl⟩)]
  replace HL := Lib.hid (HL.out.call h6)
  replace HAX := Lib.hid (Aft.trans HAX.out h6)
  replace HTa := Lib.hid (HTa.out.aft h6)
  replace HTc := Lib.hid (HTc.out.aft h6)
  clear h6
  clear HTd
  go_wp2_with (first | (refine wpList_load_rowG (by kernel_rfl) 26 (.tmp 7) rfl _ rfl _ _ _ _ (HL.out.get 2 rfl) Try.underlying26 rfl (shp_info _ _) ?_) | (refine wpList_load_rowG (by kernel_rfl) 26 (.tmp 11) rfl _ rfl _ _ _ _ (HL.out.get 4 rfl) Try.underlying26 rfl (shp_info _ _) ?_) | (refine wpList_shp2 (by kernel_rfl) (.tmp 71) (.tmp 72) (.slice a6 ia.length c6) (.slice b6 la.length d6) (.slice a8 ic.length c8) (.slice b8 lc.length d8) rfl rfl rfl ?_; intro w12 aa gg; have HG12 := Lib.hid (Below.size HAX.out); replace HAX := Lib.hid (Aft.trans HAX.out aa); replace HTa := Lib.hid (HTa.out.aft aa); replace HTc := Lib.hid (HTc.out.aft aa); replace HL := Lib.hid (HL.out.alloc aa gg.out); clear aa gg; (try simp only [List.nil_append, List.cons_append, List.set_cons_zero, List.set_cons_succ] at HL)))
  go_loopw [75] (fun v75 wr => ∃ i : Nat, i ≤ 2 ∧ v75 = .int .i64 (i : Int) ∧ Aft wX wr ∧ (i = 0 → OwnTr wr wX.heap.size (.slice a6 ia.length c6) (.slice b6 la.length d6) vs6 ia la) ∧ (i ≤ 1 → OwnTr wr m (.slice a8 ic.length c8) (.slice b8 lc.length d8) vs8 ic lc) ∧ Led w wr [(w.heap.size, .cells (shpL (.slice ao ids.length cap) (.slice bo ls.length dap)).toArray 26), (w4.heap.size, .cells (shpL (.slice a4 ids.length c4) (.slice b4 ls.length d4)).toArray 26), (w6.heap.size, .cells (shpL (.slice a6 ia.length c6) (.slice b6 la.length d6)).toArray 26), (w7.heap.size, .cells (shpL (.slice a7 ia.length c7) (.slice b7 la.length d7)).toArray 26), (w8.heap.size, .cells (shpL (.slice a8 ic.length c8) (.slice b8 lc.length d8)).toArray 26), (w9.heap.size, .cells (shpL (.slice a9 ic.length c9) (.slice b9 lc.length d9)).toArray 26), (w11.heap.size, .cells #[.slice a6 ia.length c6, .slice b6 la.length d6, .slice a8 ic.length c8, .slice b8 lc.length d8] 26)]) (fun v _ => 2 - (intOf v).toNat)
  case atStart => exact ⟨0, by decide, rfl, HAX.out, fun _ => HTa.out, fun _ => by rw [HM.out]; exact HTc.out, HL.out⟩
  case round =>
    clear HL HAX HTa HTc
    obtain ⟨i, hi, rfl, hA, hTa, hTc, hL⟩ := hrel
    have HL := Lib.hid hL
    have HAX := Lib.hid hA
    by_cases hlt : i < 2
    · have hlt' : (i : Int) < 2 := by omega
      obtain ⟨x1, e1, y1, f1, vs, js, ks, hrg, hown, hjs, hks, hnext⟩ : ∃ (x1 : Option Addr) (e1 : Nat) (y1 : Option Addr) (f1 : Nat) (vs : List Value) (js : List Int) (ks : List (List Int)), wr.rangeAt w11.heap.size (i * 2) (shpL (.slice x1 js.length e1) (.slice y1 ks.length f1)) ∧ OwnTr wr wX.heap.size (.slice x1 js.length e1) (.slice y1 ks.length f1) vs js ks ∧ js.length ≤ 1000 ∧ ks.length ≤ 1000 ∧
          (∀ ws, Fr (fun g => (Value.slice x1 js.length e1).ownBlock = some g ∨ ∃ (k : Nat) (u : Value), vs[k]? = some u ∧ u.ownBlock = some g) wr ws → i + 1 ≤ 1 → OwnTr ws m (.slice a8 ic.length c8) (.slice b8 lc.length d8) vs8 ic lc) := by
        rcases (show i = 0 ∨ i = 1 by omega) with rfl | rfl
        · exact ⟨a6, c6, b6, d6, vs6, ia, la, fun j u hu => cell_part (HL.out.get 6 rfl) (by match j, hu with | 0, hu => exact hu | 1, hu => exact hu | n + 2, hu => cases hu), hTa rfl, by have := HOka.out.1.1; omega, by have := (okLv_few la ia.length (Int.natCast_nonneg _) HOka.out.2).1; have := HOka.out.1.1; omega, fun ws hf _ => (hTc (by decide)).keepF hf (fun g hg => by
            rcases hg with hg | ⟨k, u, hu, hg⟩
            · exact HBi.out g hg
            · exact HBs.out k u g hu hg)⟩
        · exact ⟨a8, c8, b8, d8, vs8, ic, lc, fun j u hu => cell_part (HL.out.get 6 rfl) (by match j, hu with | 0, hu => exact hu | 1, hu => exact hu | n + 2, hu => cases hu), (hTc (by decide)).mono HMx.out, by have := HOkc.out.1.1; omega, by have := (okLv_few lc ic.length (Int.natCast_nonneg _) HOkc.out.2).1; have := HOkc.out.1.1; omega, fun ws _ h => absurd h (by decide)⟩
      clear hA hTa hTc hL
      have HO := Lib.hid hown
      have HNx := Lib.hid hnext
      have HRg := Lib.hid hrg
      have hj9 : js.length ≤ 1000 := hjs
      have hk9 : ks.length ≤ 1000 := hks
      clear hown hnext hrg hjs hks
      obtain ⟨W5, hW5⟩ : ∃ W5, W5 = wr := ⟨_, rfl⟩
      subst hW5
      go_wp2_with (first | (refine wpList_load_mid2 (by kernel_rfl) 26 (.tmp 77) rfl _ _ rfl (shpL (.slice x1 js.length e1) (.slice y1 ks.length f1)) HRg.out _ Try.underlying26 rfl (shp_info _ _) ?_) | (refine wpList_allocO rfl 26 rfl (.cells (shpL (.slice none 0 0) (.slice none 0 0)).toArray 26) alloc_shp ?_; intro wa aa gg zz; have HGx := Lib.hid (Below.size HAX.out); replace HAX := Lib.hid (Aft.trans HAX.out aa); replace HO := Lib.hid (HO.out.aft aa); have HF1 := Lib.hid (show Fr (fun g => (Value.slice x1 js.length e1).ownBlock = some g ∨ ∃ (k : Nat) (u : Value), vs[k]? = some u ∧ u.ownBlock = some g) W5 wa from Fr.of_below aa); have HAa := Lib.hid aa; replace HL := Lib.hid (HL.out.alloc aa gg.out); clear aa gg zz; (try simp only [List.nil_append, List.cons_append, List.set_cons_zero, List.set_cons_succ] at HL)) | (refine wpList_store_shp rfl (.tmp 17) (.tmp 78) _ _ _ (.slice x1 js.length e1) (.slice y1 ks.length f1) rfl rfl rfl rfl rfl (HL.out.get 7 rfl) ?_; intro wb q1 q2 q3; replace HAX := Lib.hid (q3 _ _ HGx.out HAX.out); replace HO := Lib.hid (HO.out.stored (HL.out.get 7 rfl) (by decide) (by decide) q2.out); have HF2 := Lib.hid (show Fr (fun g => (Value.slice x1 js.length e1).ownBlock = some g ∨ ∃ (k : Nat) (u : Value), vs[k]? = some u ∧ u.ownBlock = some g) W5 wb from Fr.of_below (q3 _ _ (Nat.le_refl _) HAa.out)); replace HL := Lib.hid (HL.out.store 7 rfl q1 q2 q3); clear q1 q2 q3; (try simp only [List.nil_append, List.cons_append, List.set_cons_zero, List.set_cons_succ] at HL); have hx1 := shp_i (HL.out.get 7 rfl)))
      go_loopw [18, 82] (fun v18 v82 ws => ∃ (j : Nat) (js' : List Int), j ≤ js.length ∧ v82 = .int .i64 (j : Int) ∧ js'.length = js.length ∧ Aft wX ws ∧ OwnTr ws wX.heap.size (.slice x1 js.length e1) (.slice y1 ks.length f1) vs js' ks ∧ Fr (fun g => (Value.slice x1 js.length e1).ownBlock = some g ∨ ∃ (k : Nat) (u : Value), vs[k]? = some u ∧ u.ownBlock = some g) W5 ws ∧ Led w ws [(w.heap.size, .cells (shpL (.slice ao ids.length cap) (.slice bo ls.length dap)).toArray 26), (w4.heap.size, .cells (shpL (.slice a4 ids.length c4) (.slice b4 ls.length d4)).toArray 26), (w6.heap.size, .cells (shpL (.slice a6 ia.length c6) (.slice b6 la.length d6)).toArray 26), (w7.heap.size, .cells (shpL (.slice a7 ia.length c7) (.slice b7 la.length d7)).toArray 26), (w8.heap.size, .cells (shpL (.slice a8 ic.length c8) (.slice b8 lc.length d8)).toArray 26), (w9.heap.size, .cells (shpL (.slice a9 ic.length c9) (.slice b9 lc.length d9)).toArray 26), (w11.heap.size, .cells #[.slice a6 ia.length c6, .slice b6 la.length d6, .slice a8 ic.length c8, .slice b8 lc.length d8] 26), (W5.heap.size, .cells (shpL (.slice x1 js.length e1) (.slice y1 ks.length f1)).toArray 26)]) (fun _ v _ => js.length - (intOf v).toNat)
      case atStart => exact ⟨0, js, Nat.zero_le _, rfl, rfl, HAX.out, HO.out, HF2.out, HL.out⟩
      case round =>
        clear HL HO HF2 HAX hx1 HF1
        obtain ⟨j, js', hj, rfl, hjl, hA, hO, hF, hL⟩ := hrel
        have HL := Lib.hid hL
        have HAX := Lib.hid hA
        have HO := Lib.hid hO
        have HF := Lib.hid hF
        have HJl := Lib.hid hjl
        have hx1 := shp_i (HL.out.get 7 rfl)
        by_cases hjt : j < js.length
        · have hjt' : (j : Int) < (js.length : Nat) := by omega
          have hjs : j < js'.length := by omega
          obtain ⟨gm, cx, cur, he, -, -⟩ := own_row_blk HO.out.ids (by omega)
          injection he with p1 p2 p3
          subst p1 p3
          have cj := HO.out.ids.rd.num_at hjs
          rw [Nat.zero_add] at cj
          have HJs := Lib.hid hjs
          generalize js'.getD j 0 = y at *
          clear hA hO hF hL hjl hjs p2
          go_wp2_with (first | (refine wpList_store_num rfl (.tmp 91) (.tmp 90) rfl wX.heap.size gm js.length e1 js' j HJs.out (wrap64 (y + 1)) HO.out.ids rfl rfl ?_; intro wS q1 q2; replace HL := Lib.hid (HL.out.frO HO.out.ids HSX.out q2 rfl); replace HAX := Lib.hid (aft_fr HAX.out HO.out.ids (Nat.le_refl _) q2); replace HF := Lib.hid (Fr.trans HF.out (Fr.mono q2 (fun _ _ hk => .inl hk))); replace HO := Lib.hid (HO.out.turnI q2 q1 (fun g hg => .inl hg)); clear q1 q2 cj hx1))
          go_roundw
          case rel => exact ⟨j + 1, _, by omega, by go_num, by rw [List.length_set]; exact HJl.out, HAX.out, HO.out, HF.out, HL.out⟩
          case measure => simp [intOf]; omega
        · obtain rfl : j = js.length := by omega
          have hjt' : ¬ ((js.length : Nat) : Int) < (js.length : Nat) := by omega
          have hx2 := shp_l (HL.out.get 7 rfl)
          clear hA hO hF hL hjl
          go_wp2_with fail
          clear hx1 hx2
          go_loopw [96] (fun v96 ws => ∃ (q : Nat) (kt : List (List Int)), q ≤ ks.length ∧ v96 = .int .i64 (q : Int) ∧ kt.length = ks.length ∧ Aft wX ws ∧ OwnTr ws wX.heap.size (.slice x1 js.length e1) (.slice y1 ks.length f1) vs js' kt ∧ Fr (fun g => (Value.slice x1 js.length e1).ownBlock = some g ∨ ∃ (k : Nat) (u : Value), vs[k]? = some u ∧ u.ownBlock = some g) W5 ws ∧ Led w ws [(w.heap.size, .cells (shpL (.slice ao ids.length cap) (.slice bo ls.length dap)).toArray 26), (w4.heap.size, .cells (shpL (.slice a4 ids.length c4) (.slice b4 ls.length d4)).toArray 26), (w6.heap.size, .cells (shpL (.slice a6 ia.length c6) (.slice b6 la.length d6)).toArray 26), (w7.heap.size, .cells (shpL (.slice a7 ia.length c7) (.slice b7 la.length d7)).toArray 26), (w8.heap.size, .cells (shpL (.slice a8 ic.length c8) (.slice b8 lc.length d8)).toArray 26), (w9.heap.size, .cells (shpL (.slice a9 ic.length c9) (.slice b9 lc.length d9)).toArray 26), (w11.heap.size, .cells #[.slice a6 ia.length c6, .slice b6 la.length d6, .slice a8 ic.length c8, .slice b8 lc.length d8] 26), (W5.heap.size, .cells (shpL (.slice x1 js.length e1) (.slice y1 ks.length f1)).toArray 26)]) (fun v _ => ks.length - (intOf v).toNat)
          case atStart => exact ⟨0, ks, Nat.zero_le _, rfl, rfl, HAX.out, HO.out, HF.out, HL.out⟩
          case round =>
            clear HL HO HF HAX
            obtain ⟨q, kt, hq, rfl, hkl, hA, hO, hF, hL⟩ := hrel
            have HL := Lib.hid hL
            have HAX := Lib.hid hA
            have HO := Lib.hid hO
            have HF := Lib.hid hF
            have HKl := Lib.hid hkl
            by_cases hqt : q < ks.length
            · have hqt' : (q : Int) < (ks.length : Nat) := by omega
              have hvl : vs.length = ks.length := by rw [hO.lv.len, hkl]
              obtain ⟨gl, cx, cur, he, -, -⟩ := own_row_blk HO.out.lv.row (by omega)
              injection he with p1 p2 p3
              subst p1 p3
              obtain ⟨u, hu, hou⟩ := HO.out.lv.at (i := q) (by omega)
              have cq := HO.out.lv.row.cells (g := gl) rfl q u hu
              rw [Addr.add_lit, Nat.zero_add] at cq
              obtain ⟨au, cu, rfl⟩ := hou.shape
              have HU := Lib.hid hu
              have HLq := Lib.hid (show (kt.getD q []).length = (kt.getD q []).length from rfl)
              obtain ⟨n, hn⟩ : ∃ n, n = (kt.getD q []).length := ⟨_, rfl⟩
              rw [← hn] at cq HU hu
              have HN := Lib.hid hn
              obtain ⟨-, cq9, he9, h91, h92⟩ := hou.rd.numS
              have hn9 : (n : Int) ≤ 9223372036854775807 := by omega
              clear hA hO hF hL hkl hvl hou hu hn p2 h91 h92
              go_wp2_with fail
              clear cq
              go_loopw [102] (fun v102 ws => ∃ (r : Nat) (kt : List (List Int)), r ≤ n ∧ v102 = .int .i64 (r : Int) ∧ kt.length = ks.length ∧ (kt.getD q []).length = n ∧ Aft wX ws ∧ OwnTr ws wX.heap.size (.slice x1 js.length e1) (.slice (some ⟨gl, 0, none⟩) ks.length f1) vs js' kt ∧ Fr (fun g => (Value.slice x1 js.length e1).ownBlock = some g ∨ ∃ (k : Nat) (u : Value), vs[k]? = some u ∧ u.ownBlock = some g) W5 ws ∧ Led w ws [(w.heap.size, .cells (shpL (.slice ao ids.length cap) (.slice bo ls.length dap)).toArray 26), (w4.heap.size, .cells (shpL (.slice a4 ids.length c4) (.slice b4 ls.length d4)).toArray 26), (w6.heap.size, .cells (shpL (.slice a6 ia.length c6) (.slice b6 la.length d6)).toArray 26), (w7.heap.size, .cells (shpL (.slice a7 ia.length c7) (.slice b7 la.length d7)).toArray 26), (w8.heap.size, .cells (shpL (.slice a8 ic.length c8) (.slice b8 lc.length d8)).toArray 26), (w9.heap.size, .cells (shpL (.slice a9 ic.length c9) (.slice b9 lc.length d9)).toArray 26), (w11.heap.size, .cells #[.slice a6 ia.length c6, .slice b6 la.length d6, .slice a8 ic.length c8, .slice b8 lc.length d8] 26), (W5.heap.size, .cells (shpL (.slice x1 js.length e1) (.slice (some ⟨gl, 0, none⟩) ks.length f1)).toArray 26)]) (fun v _ => n - (intOf v).toNat)
              case atStart => exact ⟨0, kt, Nat.zero_le _, rfl, HKl.out, HN.out.symm, HAX.out, HO.out, HF.out, HL.out⟩
              case round =>
                clear HL HO HF HAX HKl HN HLq
                obtain ⟨r, kt, hr, rfl, hkl, hkn, hA, hO, hF, hL⟩ := hrel
                have HL := Lib.hid hL
                have HAX := Lib.hid hA
                have HO := Lib.hid hO
                have HF := Lib.hid hF
                have HKl := Lib.hid hkl
                have HOu := Lib.hid (HO.out.lv.own q _ HU.out)
                by_cases hrt : r < n
                · have hrt' : (r : Int) < (n : Nat) := by omega
                  obtain ⟨gu, cx, cur, he, -, -⟩ := own_row_blk HOu.out (by omega)
                  injection he with p1 p2 p3
                  subst p1 p3
                  have cj := HOu.out.rd.num_at (i := r) (by omega)
                  rw [Nat.zero_add] at cj
                  have HR := Lib.hid (show r < (kt.getD q []).length by omega)
                  have HQ := Lib.hid (show q < kt.length by omega)
                  have HKn := Lib.hid hkn
                  generalize (kt.getD q []).getD r 0 = y at *
                  clear hA hO hF hL hkl hkn p2
                  go_wp2_with (first | (refine wpList_store_num rfl (.tmp 110) (.tmp 109) rfl wX.heap.size gu n cu (kt.getD q []) r HR.out (wrap64 (y + 1)) HOu.out rfl rfl ?_; intro wS q1 q2; replace HL := Lib.hid (HL.out.frO HOu.out HSX.out q2 rfl); replace HAX := Lib.hid (aft_fr HAX.out HOu.out (Nat.le_refl _) q2); replace HF := Lib.hid (Fr.trans HF.out (Fr.mono q2 (fun _ _ hk => .inr ⟨q, _, HU.out, hk⟩))); replace HO := Lib.hid (HO.out.cell HU.out q2 q1); clear q1 q2 cj))
                  go_roundw
                  case rel => exact ⟨r + 1, _, by omega, by go_num, by rw [List.length_set]; exact HKl.out, by rw [List.getD_eq_getElem?_getD, List.getElem?_set_self HQ.out, Option.getD_some, List.length_set]; exact HKn.out, HAX.out, HO.out, HF.out, HL.out⟩
                  case measure => simp [intOf]; omega
                · obtain rfl : r = n := by omega
                  have hrt' : ¬ ((r : Nat) : Int) < (r : Nat) := by omega
                  clear hA hO hF hL hkl hkn
                  go_wp2_with fail
                  go_roundw
                  case rel => exact ⟨q + 1, kt, by omega, by go_num, HKl.out, HAX.out, HO.out, HF.out, HL.out⟩
                  case measure => simp [intOf]; omega
            · obtain rfl : q = ks.length := by omega
              have hqt' : ¬ ((ks.length : Nat) : Int) < (ks.length : Nat) := by omega
              have HNn := Lib.hid (HNx.out _ HF.out)
              clear hA hO hF hL hkl
              go_wp2_with fail
              go_roundw
              case rel => exact ⟨i + 1, by omega, by go_num, HAX.out, fun h => absurd h (Nat.succ_ne_zero i), HNn.out, HL.out.cut 7⟩
              case measure => simp [intOf]; omega
    · obtain rfl : i = 2 := by omega
      clear hA hTa hTc hL
      have HWw := Lib.hid (HW.out.aft HAX.out)
      go_wp2_with (first | (refine wpList_load_rowG (by kernel_rfl) 26 (.tmp 2) rfl _ rfl _ _ _ _ (HL.out.get 0 rfl) Try.underlying26 rfl (shp_info _ _) ?_) | (refine wpList_load_rowG (by kernel_rfl) 26 (.tmp 6) rfl _ rfl _ _ _ _ (HL.out.get 1 rfl) Try.underlying26 rfl (shp_info _ _) ?_))
      refine (rsame_any _ _ _ _ ids ids ls ls _ (HI.out _ HL.out.aft) (HV.out _ HL.out.aft) HSm.out HWw.out.ids.rd HWw.out.lv.rd HSm.out).mono ?_
      rintro e w20 ⟨rfl, h6⟩
      rw [decide_eq_true (show ids = ids ∧ ls = ls from ⟨rfl, rfl⟩)]
      replace HL := Lib.hid (HL.out.call h6)
      clear h6
      go_wp2_with fail
      go_ret
      exact ⟨by simp, HL.out.aft⟩
end Go.Proofs.Ytejdkmfbncedkaa
