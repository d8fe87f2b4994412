/- coterieref10.Copy (as W17), without the depth-indexed trees. -/
import Derived.Test.YtdbhlajajdlmfaaDoorB3
import Derived.Test.YtdbhlajajdlmfaaDoorB4
namespace Go.Proofs.YtdbhlajajdlmfaaDoor
open Go Go.RowKit
set_option linter.unusedSimpArgs false
theorem OwnI.storedK {w w' : World} {base g t : Nat} {v : Value} {xs : List Int} {cs : Array Value} {fr : Nat × Nat} (h : OwnI w base v xs) (hg : w.heap[g]? = some (.cells cs t fr)) (ht : t ≠ 3) (hb : ∀ k, k ≠ g → w'.heap[k]? = w.heap[k]?) : OwnI w' base v xs :=
  h.keep fun k hk => hb k (own_off h hg ht hk)
theorem run_lvSlice (ao : Option Addr) (n c : Nat) (w : World) : (Instr.buildSlice 23 1 #[(0, .slice ao n c)]).run Tryd.prog w = .ok (.slice (some ⟨w.heap.size, 0, none⟩) 1 1) (w.alloc (.cells #[.slice ao n c] 22)) := by kernel_rfl
theorem wpList_lvSlice {ops : Array Oper} {rest : List Oper} {o : Oper} {a : Act} {w : World} {Q : Exit → Act → World → Prop} (hw : Region.wanted o (yielded ops a.tmps) = true) (y : Operand) (ao : Option Addr) (n c : Nat) (ho : o.op = .buildSlice 23 1 #[(0, y)]) (hy : a.eval y = .slice ao n c)
    (h : ∀ w', Aft w w' → Hid (w'.heap[w.heap.size]? = some (.cells #[.slice ao n c] 22 (0, 0))) → wpList Tryd.prog ops Q rest (a.put o.dst (.slice (some ⟨w.heap.size, 0, none⟩) 1 1)) w') : wpList Tryd.prog ops Q (o :: rest) a w := by
  unfold wpList
  rw [if_pos hw]
  refine .inl (wp_noOut ?_)
  unfold Oper.wp execOp
  simp only [ho, hy, Sem.run_bind, List.map_toArray, List.map_cons, List.map_nil, run_lvSlice ao n c w, Result.andThen_ok, Sem.run_pure]
  exact h _ (Aft.alloc w _) (heap_alloc_new w _)
def CpySays (ids : List Int) (ls : List (List Int)) (w : World) (e : Ending) (w' : World) : Prop :=
  ∃ vi vl vs, e = .returned (.agg (shpL vi vl).toArray) ∧ OwnTr w' w.heap.size vi vl vs ids ls ∧ Aft w w'
theorem take_get {α : Type} {ls : List (List α)} {i : Nat} (h : i < ls.length) : ls.take (i + 1) = ls.take i ++ [ls.getD i []] := by
  rw [List.take_add_one, List.getElem?_eq_getElem h, List.getD_eq_getElem?_getD, List.getElem?_eq_getElem h]
  rfl
set_option maxRecDepth 100000 in
set_option maxHeartbeats 4000000 in
theorem rcopy_any (vi vl : Value) (ids : List Int) (ls : List (List Int)) (w : World) (hi : Rd w vi (zv ids)) (hl : RdLs w vl ls) (hs : Small ids ls) :
    Calls Tryd.prog 37 #[.agg (shpL vi vl).toArray] w (CpySays ids ls w) := by
  have HI := Lib.hid (fun (wx : World) (ha : Aft w wx) => hi.grow ha)
  have HV := Lib.hid (fun (wx : World) (ha : Aft w wx) => hl.aft ha)
  have HS := Lib.hid hs
  obtain ⟨ao, cap, rfl, -, -⟩ := hi.numS
  obtain ⟨bo, dap, rfl, -⟩ := hl.shape
  have hfl := hs.fl
  have HL := Lib.hid (Led.start w)
  clear hi hl hs
  go_enter Tryd.func37, Tryd.ntmps37
  have HX := Lib.hid (zv_one ids)
  have hzl := Lib.hid (zv_length ids)
  go_wp2_with (first | (refine wpList_boxO rfl 25 (.tmp 0) rfl (.agg (shpL (.slice ao ids.length cap) (.slice bo ls.length dap)).toArray) rfl (.cells (shpL (.slice ao ids.length cap) (.slice bo ls.length dap)).toArray 25) (box_shp _) ?_; intro w' aa gg zz; replace HL := Lib.hid (HL.out.alloc aa gg.out); clear aa gg zz; try simp only [List.nil_append, List.cons_append, List.set_cons_zero, List.set_cons_succ] at HL; have hi0 := shp_i (HL.out.get 0 rfl)) | (refine wpList_allocO rfl 25 rfl (.cells (shpL (.slice none 0 0) (.slice none 0 0)).toArray 25) alloc_shp ?_; intro w' aa gg zz; replace HL := Lib.hid (HL.out.alloc aa gg.out); clear aa gg zz hi0; (try simp only [List.nil_append, List.cons_append, List.set_cons_zero, List.set_cons_succ] at HL); have hi0 := shp_i (HL.out.get 0 rfl)) | (at_builtin; refine wpList_append_rd rfl (.const (.slice none 0 0)) (.tmp 7) 22 rfl w.heap.size 3 (.int .i64 0) 8 Tryd.underlying22 info_int rfl (.slice none 0 0) _ [] (zv ids) rfl rfl (OwnI.nil _ _) (HI.out _ HL.out.aft) HX.out (by have := HS.out.fi; simp only [List.length_nil, hzl.out]; omega) (by have := HS.out.fi; simp only [List.length_nil, hzl.out]; omega) (Below.size HL.out.aft) ?_; intro v8 w3 k1 k2 k3; have HO := Lib.hid (show OwnI w3 w.heap.size v8 ids from (by have := k1; rw [List.nil_append, zv_length] at this; exact this)); replace HL := Lib.hid (HL.out.grown k2 fun k hk => by cases hk); obtain ⟨a8, c8, rfl⟩ := HO.out.shape; clear k1 k2 k3 hi0) | (refine wpList_allocO rfl 25 rfl (.cells (shpL (.slice none 0 0) (.slice none 0 0)).toArray 25) alloc_shp ?_; intro w4 aa gg zz; replace HO := Lib.hid (HO.out.aft aa); replace HL := Lib.hid (HL.out.alloc aa gg.out); clear aa gg zz; (try simp only [List.nil_append, List.cons_append, List.set_cons_zero, List.set_cons_succ] at HL)) | (refine wpList_store_shp rfl (.tmp 3) (.tmp 9) _ _ _ (.slice a8 ids.length c8) (.slice none 0 0) rfl rfl rfl rfl rfl (HL.out.get 2 rfl) ?_; intro w5 q1 q2 q3; replace HO := Lib.hid (HO.out.storedK (HL.out.get 2 rfl) (by decide) q2.out); replace HL := Lib.hid (HL.out.store 2 rfl q1 q2 q3); clear q1 q2 q3; (try simp only [List.nil_append, List.cons_append, List.set_cons_zero, List.set_cons_succ] at HL); have hl0 := shp_l (HL.out.get 0 rfl)))
  obtain ⟨s3, hs3⟩ : ∃ s3, s3 = w3.heap.size := ⟨_, rfl⟩
  rw [← hs3] at HL ⊢
  rename_i w1 Kx hKx
  obtain ⟨s2, hs2⟩ : ∃ s2, s2 = w1.heap.size := ⟨_, rfl⟩
  rw [← hs2] at HL ⊢
  clear hs2 hs3
  go_loopw [13] (fun v13 wr => ∃ (k : Nat) (vl : Value) (vs : List Value), k ≤ ls.length ∧ v13 = .int .i64 (k : Int) ∧ OwnTr wr w.heap.size (.slice a8 ids.length c8) vl vs ids (ls.take k) ∧ Led w wr [(w.heap.size, .cells (shpL (.slice ao ids.length cap) (.slice bo ls.length dap)).toArray 25), (s2, .cells (shpL (.slice none 0 0) (.slice none 0 0)).toArray 25), (s3, .cells (shpL (.slice a8 ids.length c8) vl).toArray 25)]) (fun v _ => ls.length - (intOf v).toNat)
  case atStart => exact ⟨0, .slice none 0 0, [], Nat.zero_le _, rfl, ⟨HO.out, (OwnTr.nil _ _).lv, fun i u g hu => by simp at hu⟩, HL.out⟩
  case round =>
    clear HL HO hl0
    obtain ⟨k, vl, vs, hk, rfl, hT, hL⟩ := hrel
    obtain ⟨x1, x2, b1, d1, -, hvl⟩ := hT.shape
    rw [show (ls.take k).length = k by rw [List.length_take]; omega] at hvl
    subst hvl
    have HT := Lib.hid hT
    have HL := Lib.hid hL
    have HVl := Lib.hid (show vs.length = k by rw [hT.lv.len, List.length_take]; omega)
    clear hT hL
    by_cases hlt : k < ls.length
    · have hlt' : (k : Int) < (ls.length : Nat) := by omega
      obtain ⟨g, o, cp, u, he, hcu, hru⟩ := (HV.out wr HL.out.aft).cell hlt
      injection he with e1 e2 e3
      subst e1 e3
      have hc := hcu wr (Aft.refl _)
      obtain ⟨au, cu, rfl, -, -⟩ := hru.numS
      have HTk := Lib.hid (take_get hlt)
      have HFv := Lib.hid (HS.out.fv _ (getD_mem hlt))
      generalize ls.getD k [] = l at *
      have HRu := Lib.hid hru
      have HX1 := Lib.hid (zv_one l)
      have hzl1 := Lib.hid (zv_length l)
      have HNe := Lib.hid (show ¬ (Value.slice b1 k d1).ownBlock = some s3 from fun e => own_off HT.out.lv.row (HL.out.get 2 rfl) (by decide) e rfl)
      have HS3 := Lib.hid (heap_lt (HL.out.get 2 rfl))
      have hsz := Lib.hid (Below.size HL.out.aft)
      have hfo := Lib.hid (show vs.length ≤ 1048576 by have := HVl.out; omega)
      clear hcu hru e2
      go_wp2_with fail
      have f1 := fun z : LaterF (fun b => (Value.slice b1 k d1).ownBlock = some b) wr => shp_l ((z.h.block s3 HS3.out HNe.out).trans (HL.out.get 2 rfl))
      refine wp_region_lex (fun wz => ∃ z : LaterF (fun b => (Value.slice b1 k d1).ownBlock = some b) wr, wz = z.w) (fun i => ([3, 4, 5] : List Nat).contains i) 7 (by kernel_rfl) (by kernel_rfl) ⟨⟨wr.drew, (Fr.refl _ _).drew⟩, rfl⟩ ?_
      change wpLx _ _ _ _ _ _ _ _ _ wr.drew
      have HDa := Lib.hid (show Aft wr wr.drew from (Below.refl _ _).drew)
      generalize wr.drew = wd at *
      try simp only [Act.put, List.setIfInBounds_toArray, List.set_cons_succ, List.set_cons_zero]
      repeat (first | (refine lx_skipT (by go_big_quiet_skip; exact wpQuiet_nil trivial) (by kernel_rfl) ?_; simp only [Act.put, List.setIfInBounds_toArray, List.set_cons_succ, List.set_cons_zero]) | (refine lx_quietT rfl (by go_big_quiet_want; exact quiet_false (by assumption)) (by kernel_rfl) rfl ?_; intro Kx hKx; go_big_quiet_op; go_big_quiet_on))
      refine lx_eff rfl (by kernel_rfl) ?_
      intro Kx hKx
      refine wp_of_list (ops := #[]) (wpList_append_rd rfl (.const (.slice none 0 0)) (.tmp 19) 22 rfl wd.heap.size 3 (.int .i64 0) 8 Tryd.underlying22 info_int rfl (.slice none 0 0) _ [] (zv l) rfl rfl (OwnI.nil _ _) (HRu.out.grow HDa.out) HX1.out (by have := HFv.out; simp only [List.length_nil, hzl1.out]; omega) (by have := HFv.out; simp only [List.length_nil, hzl1.out]; omega) (Nat.le_refl _) ?_)
      intro v20 w4 k1 k2 k3
      have ho4 : OwnI w4 wd.heap.size v20 l := by
        have := k1
        rw [List.nil_append, zv_length] at this
        exact this
      have HA4 := Lib.hid (show Aft wr w4 from Aft.trans HDa.out (Fr.below (Fr.of_grown (S := fun _ => False) k2 (fun q hq => by cases hq)) (Nat.le_refl _) (fun q e => e.elim)))
      have HO4 := Lib.hid ho4
      obtain ⟨a20, c20, rfl⟩ := ho4.shape
      clear k1 k2 k3 ho4
      refine ⟨rfl, hKx _ _ ⟨⟨⟨_, Fr.of_below HA4.out⟩, rfl⟩, ?_⟩⟩
      clear hKx
      simp only [Act.put, List.setIfInBounds_toArray, List.set_cons_succ, List.set_cons_zero]
      repeat (first | (refine lx_skipT (by go_big_quiet_skip; exact wpQuiet_nil trivial) (by kernel_rfl) ?_; simp only [Act.put, List.setIfInBounds_toArray, List.set_cons_succ, List.set_cons_zero]) | (refine lx_quietT rfl (by go_big_quiet_want; exact quiet_false (by assumption)) (by kernel_rfl) rfl ?_; intro Kx hKx; go_big_quiet_op; go_big_quiet_on))
      refine lx_eff rfl (by kernel_rfl) ?_
      intro Kx hKx
      refine wp_of_list (ops := #[]) (wpList_lvSlice (by kernel_rfl) (.tmp 20) a20 l.length c20 rfl rfl ?_)
      intro w5 q1 q2
      have HA5 := Lib.hid (Aft.trans HA4.out q1)
      have HO5 := Lib.hid (HO4.out.aft q1)
      have HG5 := Lib.hid q2.out
      have HSd := Lib.hid (Below.size HDa.out)
      clear q1 q2
      refine ⟨rfl, hKx _ _ ⟨⟨⟨_, Fr.of_below HA5.out⟩, rfl⟩, ?_⟩⟩
      clear hKx
      simp only [Act.put, List.setIfInBounds_toArray, List.set_cons_succ, List.set_cons_zero]
      repeat (first | (refine lx_skipT (by go_big_quiet_skip; exact wpQuiet_nil trivial) (by kernel_rfl) ?_; simp only [Act.put, List.setIfInBounds_toArray, List.set_cons_succ, List.set_cons_zero]) | (refine lx_quietT rfl (by go_big_quiet_want; exact quiet_false (by assumption)) (by kernel_rfl) rfl ?_; intro Kx hKx; go_big_quiet_op; go_big_quiet_on))
      refine lx_eff rfl (by kernel_rfl) ?_
      intro Kx hKx
      refine wp_of_list (ops := #[]) (wpList_append_rd rfl (.tmp 18) (.tmp 21) 23 rfl w.heap.size 22 (.slice none 0 0) 24 Tryd.underlying23 info_ints rfl (.slice b1 k d1) (.slice (some ⟨w4.heap.size, 0, none⟩) 1 1) vs [.slice a20 l.length c20] rfl rfl (HT.out.aft HA5.out).lv.row (Rd.of_own (own_blk HG5.out (Nat.zero_le _) (by show 1 ≤ maxLen; decide))) (fun u hu => by rw [List.mem_singleton.1 hu]; rfl) (by have := hfo.out; simp only [List.length_cons, List.length_nil]; omega) (by have := hfo.out; simp only [List.length_cons, List.length_nil]; omega) (Nat.le_trans hsz.out (Below.size HA5.out)) ?_)
      intro v22 w6 k1 k2 k3
      have HF6 := Lib.hid (show Fr (fun b => (Value.slice b1 k d1).ownBlock = some b) w5 w6 from Fr.of_grown k2 (fun q hq => hq))
      have HT6 := Lib.hid (show OwnTr w6 w.heap.size (.slice a8 ids.length c8) v22 (vs ++ [.slice a20 l.length c20]) ids (ls.take (k + 1)) from by
        rw [HTk.out]
        exact HT.out.snoc HA5.out (HO5.out.mono (Nat.le_trans hsz.out HSd.out)) (fun q hq => Nat.le_trans HSd.out (HO5.out.lt hq).1) k1 HF6.out)
      have HD6 := Lib.hid (show Fr (fun b => (Value.slice b1 k d1).ownBlock = some b) wr w6 from Fr.trans (Fr.of_below HA5.out) HF6.out)
      clear k1 k2 k3
      refine ⟨rfl, hKx _ _ ⟨⟨⟨_, HD6.out⟩, rfl⟩, ?_⟩⟩
      clear hKx
      simp only [Act.put, List.setIfInBounds_toArray, List.set_cons_succ, List.set_cons_zero]
      repeat (first | (refine lx_skipT (by go_big_quiet_skip; exact wpQuiet_nil trivial) (by kernel_rfl) ?_; simp only [Act.put, List.setIfInBounds_toArray, List.set_cons_succ, List.set_cons_zero]) | (refine lx_quietT rfl (by go_big_quiet_want; exact quiet_false (by assumption)) (by kernel_rfl) rfl ?_; intro Kx hKx; go_big_quiet_op; go_big_quiet_on))
      refine lx_done ?_
      clear f1
      replace HL := Lib.hid (HL.out.frO HT.out.lv.row (Nat.le_refl _) HD6.out rfl)
      obtain ⟨-, -, b6, d6, -, rfl⟩ := HT6.out.shape
      generalize (ls.take (k + 1)).length = k6 at *
      go_wp2_with (first | (refine wpList_store_cellJ rfl 23 (.tmp 23) (.tmp 22) rfl s3 1 (.slice b6 k6 d6) rfl rfl 25 (shpL (.slice a8 ids.length c8) (.slice b1 k d1)) (by show 1 < 2; decide) (HL.out.get 2 rfl) (by kernel_rfl) rfl rfl ?_; intro wG q1 q2 q3; have HTG := Lib.hid (HT6.out.stored (HL.out.get 2 rfl) (by decide) (by decide) q2.out); replace HL := Lib.hid (HL.out.store 2 rfl q1 q2 q3); clear q1 q2 q3; (try simp only [List.nil_append, List.cons_append, List.set_cons_zero, List.set_cons_succ] at HL)))
      go_roundw
      case rel => exact ⟨k + 1, _, _, by omega, by go_num, HTG.out, HL.out⟩
      case measure => simp [intOf]; omega
    · obtain rfl : k = ls.length := by omega
      have hlt' : ¬ ((ls.length : Nat) : Int) < (ls.length : Nat) := by omega
      rw [List.take_length] at HT
      go_wp2_with (first | (refine wpList_load_rowG (by kernel_rfl) 25 (.tmp 3) rfl _ rfl _ _ _ _ (HL.out.get 2 rfl) Tryd.underlying25 rfl (shp_info _ _) ?_) | (refine wpList_store_shp rfl (.tmp 2) (.tmp 25) _ _ _ (.slice a8 ids.length c8) (.slice b1 ls.length d1) rfl rfl rfl rfl rfl (HL.out.get 1 rfl) ?_; intro w9 q1 q2 q3; replace HT := Lib.hid (HT.out.stored (HL.out.get 1 rfl) (by decide) (by decide) q2.out); replace HL := Lib.hid (HL.out.store 1 rfl q1 q2 q3); clear q1 q2 q3; try simp only [List.nil_append, List.cons_append, List.set_cons_zero, List.set_cons_succ] at HL))
      refine bodyPost_ret (results_cell_row rfl _ _ _ 25 (shpL (.slice a8 ids.length c8) (.slice b1 ls.length d1)).toArray (0, 0) _ rfl (HL.out.get 1 rfl) Tryd.underlying25 rfl (shp_info _ _)) rfl ?_
      exact ⟨_, _, _, rfl, HT.out, HL.out.aft⟩
end Go.Proofs.YtdbhlajajdlmfaaDoor
