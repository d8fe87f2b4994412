/- plan.Change, walked. -/
import Derived.Test.YtfgammcefaomeaaP4
import Derived.Test.YtfgammcefaomeaaT16
import Derived.Test.YtfgammcefaomeaaB3
namespace Go.Proofs.Ytfgammcefaomeaa
open Go Go.RowKit
set_option linter.unusedSimpArgs false
/-- Members out, one by one. -/
def dlR (ids : List Int) (ls : List (List Int)) : List Int → Int × List Int × List (List Int)
  | [] => (0, ids, ls)
  | x :: r => if delE ids ls x = 0 then dlR (delIds ids ls x) (delLv ids ls x) r else (delE ids ls x, [], [])
/-- Members in, one by one. -/
def inR (ids : List Int) (ls : List (List Int)) : List Int → Int × List Int × List (List Int)
  | [] => (0, ids, ls)
  | x :: r => if insE ids ls x = 0 then inR (insIds ids ls x) (insLv ids ls x) r else (insE ids ls x, [], [])
def chgR (ids : List Int) (ls : List (List Int)) (out in' : List Int) : Int × List Int × List (List Int) :=
  if chkT ids ls = 0 then (if (dlR ids ls out).1 = 0 then inR (dlR ids ls out).2.1 (dlR ids ls out).2.2 in' else ((dlR ids ls out).1, [], [])) else (chkT ids ls, [], [])
def ChgSays (ids : List Int) (ls : List (List Int)) (out in' : List Int) (w : World) (e : Ending) (w' : World) : Prop :=
  ∃ vi vl vs, e = .returned (.tuple #[.agg (shpL vi vl).toArray, .int .i64 (chgR ids ls out in').1]) ∧ OwnTr w' w.heap.size vi vl vs (chgR ids ls out in').2.1 (chgR ids ls out in').2.2 ∧ Aft w w'
theorem ChgSays.bad {ids : List Int} {ls : List (List Int)} {out in' : List Int} {w w' : World} {c : Int} (h : chgR ids ls out in' = (c, [], [])) (ha : Aft w w') : ChgSays ids ls out in' w (.returned (.tuple #[.agg (shpL (.slice none 0 0) (.slice none 0 0)).toArray, .int .i64 c])) w' := by
  refine ⟨.slice none 0 0, .slice none 0 0, [], by rw [h], ?_, ha⟩
  rw [h]
  exact OwnTr.nil _ _
theorem run_lvSliceP (ao : Option Addr) (n c : Nat) (w : World) : (Instr.buildSlice 23 1 #[(0, .slice ao n c)]).run Try.prog w = .ok (.slice (some ⟨w.heap.size, 0, none⟩) 1 1) (w.alloc (.cells #[.slice ao n c] 22)) := by kernel_rfl
theorem wpList_lvSliceP {ops : Array Oper} {rest : List Oper} {o : Oper} {a : Act} {w : World} {Q : Exit → Act → World → Prop} (hw : Region.wanted o (yielded ops a.tmps) = true) (y : Operand) (ao : Option Addr) (n c : Nat) (ho : o.op = .buildSlice 23 1 #[(0, y)]) (hy : a.eval y = .slice ao n c)
    (h : ∀ w', Aft w w' → Hid (w'.heap[w.heap.size]? = some (.cells #[.slice ao n c] 22 (0, 0))) → wpList Try.prog ops Q rest (a.put o.dst (.slice (some ⟨w.heap.size, 0, none⟩) 1 1)) w') : wpList Try.prog ops Q (o :: rest) a w := by
  unfold wpList
  rw [if_pos hw]
  refine .inl (wp_noOut ?_)
  unfold Oper.wp execOp
  simp only [ho, hy, Sem.run_bind, List.map_toArray, List.map_cons, List.map_nil, run_lvSliceP ao n c w, Result.andThen_ok, Sem.run_pure]
  exact h _ (Aft.alloc w _) (heap_alloc_new w _)
theorem build_shp1P (ao : Option Addr) (n c : Nat) (w : World) : (Instr.build 25 #[(0, .slice ao n c)]).run Try.prog w = .ok (.agg (shpL (.slice ao n c) (.slice none 0 0)).toArray) w := by kernel_rfl
theorem take_getP {α : Type} {ls : List (List α)} {i : Nat} (h : i < ls.length) : ls.take (i + 1) = ls.take i ++ [ls.getD i []] := by
  rw [List.take_add_one, List.getElem?_eq_getElem h, List.getD_eq_getElem?_getD, List.getElem?_eq_getElem h]
  rfl
theorem drop_consP {l : List Int} {i : Nat} (h : i < l.length) : l.drop i = l.getD i 0 :: l.drop (i + 1) := by
  rw [List.drop_eq_getElem_cons h, List.getD_eq_getElem?_getD, List.getElem?_eq_getElem h]
  rfl
set_option maxRecDepth 100000 in
set_option maxHeartbeats 8000000 in
theorem change_any (vi vl vo vn : Value) (ids : List Int) (ls : List (List Int)) (out in' : List Int) (w : World) (hi : Rd w vi (zv ids)) (hl : RdLs w vl ls) (hs : Small ids ls) (ho : Rd w vo (zv out)) (hn : Rd w vn (zv in')) :
    Calls Try.prog 19 #[.agg (shpL vi vl).toArray, vo, vn] w (ChgSays ids ls out in' w) := by
  have HI := Lib.hid (fun (wx : World) (ha : Aft w wx) => hi.grow ha)
  have HV := Lib.hid (fun (wx : World) (ha : Aft w wx) => hl.aft ha)
  have HCk := Lib.hid (fun (wx : World) (ha : Aft w wx) => tcheck_any vi vl ids ls wx (hi.grow ha) (hl.aft ha) hs)
  have HO2 := Lib.hid ho
  have HN2 := Lib.hid hn
  have HS := Lib.hid hs
  obtain ⟨ao, ac, rfl, -, -⟩ := hi.numS
  obtain ⟨bo, bc, rfl, -⟩ := hl.shape
  obtain ⟨oo, oc, rfl, -, -⟩ := ho.numS
  obtain ⟨no, nc, rfl, -, -⟩ := hn.numS
  have hfl := hs.fl
  have HL := Lib.hid (Led.start w)
  clear hi hl hs ho hn
  go_enter Try.func19, Try.ntmps19
  go_wp2_with (first | (refine wpList_boxO rfl 25 (.tmp 0) rfl (.agg (shpL (.slice ao ids.length ac) (.slice bo ls.length bc)).toArray) rfl (.cells (shpL (.slice ao ids.length ac) (.slice bo ls.length bc)).toArray 25) (box_shp _) ?_; intro w1 aa gg zz; replace HL := Lib.hid (HL.out.alloc aa gg.out); clear aa gg zz; try simp only [List.nil_append, List.cons_append, List.set_cons_zero, List.set_cons_succ] at HL) | (refine wpList_allocO rfl 25 rfl (.cells (shpL (.slice none 0 0) (.slice none 0 0)).toArray 25) alloc_shp ?_; intro w2 aa gg zz; replace HL := Lib.hid (HL.out.alloc aa gg.out); clear aa gg zz; (try simp only [List.nil_append, List.cons_append, List.set_cons_zero, List.set_cons_succ] at HL)) | (refine wpList_load_rowG (by kernel_rfl) 25 (.tmp 3) rfl _ rfl _ _ _ _ (HL.out.get 0 rfl) Try.underlying25 rfl (shp_info _ _) ?_))
  refine (HCk.out _ HL.out.aft).mono ?_
  rintro e w3 ⟨rfl, h3⟩
  replace HL := Lib.hid (HL.out.call h3)
  clear h3 HCk
  by_cases hok : OkT ids ls
  rotate_left
  · have h1 := (chkT_or ids ls).resolve_left (fun q => hok (chkT_zero.1 q))
    have HR := Lib.hid (show chgR ids ls out in' = (1, [], []) by unfold chgR; rw [if_neg (by rw [h1]; decide), h1])
    rw [h1]
    clear h1 hok
    go_wp2_with (first | (refine wpList_buildO (by kernel_rfl) 25 #[] rfl #[] (by kernel_rfl) _ (build_shp0) ?_) | (refine wpList_store_shp rfl (.tmp 6) (.tmp 19) _ _ _ (.slice none 0 0) (.slice none 0 0) rfl rfl rfl rfl rfl (HL.out.get 1 rfl) ?_; intro w9 b1 b2 b3; replace HL := Lib.hid (HL.out.store 1 rfl b1 b2 b3); clear b1 b2 b3; try simp only [List.nil_append, List.cons_append, List.set_cons_zero, List.set_cons_succ] at HL))
    refine bodyPost_ret (results_cell_tmp rfl _ _ _ 25 _ (0, 0) _ rfl (HL.out.get 1 rfl) Try.underlying25 rfl (shp_info _ _)) rfl ?_
    exact ChgSays.bad HR.out HL.out.aft
  rw [chkT_zero.2 hok]
  have HOk0 := Lib.hid hok
  have HOk := Lib.hid hok
  clear hok
  have hi0 := shp_i (HL.out.get 0 rfl)
  go_wp2_with fail
  refine (cloneI_any _ (zv ids) w3 (HI.out _ HL.out.aft) (fun u hu => by obtain ⟨z, -, rfl⟩ := List.mem_map.1 hu; rfl) (by rw [zv_length]; exact HS.out.fi)).mono ?_
  rintro e w4 ⟨cv, rfl, hcv, h4⟩
  rw [zv_length] at hcv
  have hcv2 : OwnI w4 w3.heap.size cv ids := hcv
  obtain ⟨a8, c8, rfl⟩ := hcv2.shape
  have HO := Lib.hid (hcv2.mono (Below.size HL.out.aft))
  replace HL := Lib.hid (HL.out.call h4)
  clear hcv hcv2 h4 hi0
  go_wp2_with (first | (refine wpList_buildO (by kernel_rfl) 25 #[(0, .tmp 23)] rfl #[(0, .slice a8 ids.length c8)] (by kernel_rfl) _ (build_shp1P _ _ _) ?_) | (refine wpList_allocO rfl 25 rfl (.cells (shpL (.slice none 0 0) (.slice none 0 0)).toArray 25) alloc_shp ?_; intro w5 aa gg zz; replace HO := Lib.hid (HO.out.aft aa); replace HL := Lib.hid (HL.out.alloc aa gg.out); clear aa gg zz; (try simp only [List.nil_append, List.cons_append, List.set_cons_zero, List.set_cons_succ] at HL)) | (refine wpList_store_shp rfl (.tmp 8) (.tmp 24) _ _ _ (.slice a8 ids.length c8) (.slice none 0 0) rfl rfl rfl rfl rfl (HL.out.get 2 rfl) ?_; intro w6 q1 q2 q3; replace HO := Lib.hid (HO.out.storedP (HL.out.get 2 rfl) (by decide) q2.out); replace HL := Lib.hid (HL.out.store 2 rfl q1 q2 q3); clear q1 q2 q3; (try simp only [List.nil_append, List.cons_append, List.set_cons_zero, List.set_cons_succ] at HL); have hl0 := shp_l (HL.out.get 0 rfl)))
  obtain ⟨s3, hs3⟩ : ∃ s3, s3 = w4.heap.size := ⟨_, rfl⟩
  rw [← hs3] at HL ⊢
  obtain ⟨s2, hs2⟩ : ∃ s2, s2 = w1.heap.size := ⟨_, rfl⟩
  rw [← hs2] at HL ⊢
  clear hs2 hs3
  go_loopw [28] (fun v28 wr => ∃ (k : Nat) (vl : Value) (vs : List Value), k ≤ ls.length ∧ v28 = .int .i64 (k : Int) ∧ OwnTr wr w.heap.size (.slice a8 ids.length c8) vl vs ids (ls.take k) ∧ Led w wr [(w.heap.size, .cells (shpL (.slice ao ids.length ac) (.slice bo ls.length bc)).toArray 25), (s2, .cells (shpL (.slice none 0 0) (.slice none 0 0)).toArray 25), (s3, .cells (shpL (.slice a8 ids.length c8) vl).toArray 25)]) (fun v _ => ls.length - (intOf v).toNat)
  case atStart => exact ⟨0, .slice none 0 0, [], Nat.zero_le _, rfl, ⟨HO.out, (OwnTr.nil _ _).lv, fun i u g hu => by simp at hu⟩, HL.out⟩
  case round =>
    clear HL HO hl0
    obtain ⟨k, vl, vs, hk, rfl, hT, hL⟩ := hrel
    obtain ⟨x1, x2, b1, d1, -, hvl⟩ := hT.shape
    rw [show (ls.take k).length = k by rw [List.length_take]; omega] at hvl
    subst hvl
    have HT := Lib.hid hT
    have HL := Lib.hid hL
    have HVl := Lib.hid (show vs.length = k by rw [hT.lv.len, List.length_take]; omega)
    clear hT hL
    by_cases hlt : k < ls.length
    · have hlt' : (k : Int) < (ls.length : Nat) := by omega
      obtain ⟨g, o, cp, u, he, hcu, hru⟩ := (HV.out wr HL.out.aft).cell hlt
      injection he with e1 e2 e3
      subst e1 e3
      have hc := hcu wr (Aft.refl _)
      obtain ⟨au, cu, rfl, -, -⟩ := hru.numS
      have HTk := Lib.hid (take_getP hlt)
      have HFv := Lib.hid (HS.out.fv _ (getD_mem hlt))
      generalize ls.getD k [] = l at *
      have HRu := Lib.hid hru
      have HNe := Lib.hid (show ¬ (Value.slice b1 k d1).ownBlock = some s3 from fun e => own_off HT.out.lv.row (HL.out.get 2 rfl) (by decide) e rfl)
      have HS3 := Lib.hid (heap_lt (HL.out.get 2 rfl))
      have hsz := Lib.hid (Below.size HL.out.aft)
      have hfo := Lib.hid (show vs.length ≤ 1048576 by have := HVl.out; omega)
      clear hcu hru e2
      go_wp2_with fail
      have f1 := fun z : LaterF (fun b => (Value.slice b1 k d1).ownBlock = some b) wr => shp_l ((z.h.block s3 HS3.out HNe.out).trans (HL.out.get 2 rfl))
      refine wp_region_lex (fun wz => ∃ z : LaterF (fun b => (Value.slice b1 k d1).ownBlock = some b) wr, wz = z.w) (fun i => ([3, 4, 5] : List Nat).contains i) 7 (by kernel_rfl) (by kernel_rfl) ⟨⟨wr.drew, (Fr.refl _ _).drew⟩, rfl⟩ ?_
      change wpLx _ _ _ _ _ _ _ _ _ wr.drew
      have HDa := Lib.hid (show Aft wr wr.drew from (Below.refl _ _).drew)
      generalize wr.drew = wd at *
      try simp only [Act.put, List.setIfInBounds_toArray, List.set_cons_succ, List.set_cons_zero]
      repeat (first | (refine lx_skipT (by go_big_quiet_skip; exact wpQuiet_nil trivial) (by kernel_rfl) ?_; simp only [Act.put, List.setIfInBounds_toArray, List.set_cons_succ, List.set_cons_zero]) | (refine lx_quietT rfl (by go_big_quiet_want; exact quiet_false (by assumption)) (by kernel_rfl) rfl ?_; intro Kx hKx; go_big_quiet_op; go_big_quiet_on))
      refine lx_effT rfl (by go_big_quiet_want; exact quiet_false (by assumption)) (by kernel_rfl) ?_; intro Kx hKx; go_wp2_with fail
      refine (cloneI_any _ (zv l) wd (HRu.out.grow HDa.out) (fun u hu => by obtain ⟨z, -, rfl⟩ := List.mem_map.1 hu; rfl) (by rw [zv_length]; exact HFv.out)).mono ?_
      rintro e w44 ⟨cv, rfl, hcv, h4⟩
      rw [zv_length] at hcv
      have ho4 : OwnI w44 wd.heap.size cv l := hcv
      have HA4 := Lib.hid (Aft.trans HDa.out h4)
      have HO4 := Lib.hid ho4
      obtain ⟨a20, c20, rfl⟩ := ho4.shape
      clear hcv h4 ho4
      go_wp2_with fail
      refine ⟨⟨⟨_, Fr.of_below HA4.out⟩, rfl⟩, ?_⟩
      repeat (first | (refine lx_skipT (by go_big_quiet_skip; exact wpQuiet_nil trivial) (by kernel_rfl) ?_; simp only [Act.put, List.setIfInBounds_toArray, List.set_cons_succ, List.set_cons_zero]) | (refine lx_quietT rfl (by go_big_quiet_want; exact quiet_false (by assumption)) (by kernel_rfl) rfl ?_; intro Kx hKx; go_big_quiet_op; go_big_quiet_on))
      refine lx_eff rfl (by kernel_rfl) ?_
      intro Kx hKx
      refine wp_of_list (ops := #[]) (wpList_lvSliceP (by kernel_rfl) (.tmp 35) a20 l.length c20 rfl rfl ?_)
      intro w55 q1 q2
      have HA5 := Lib.hid (Aft.trans HA4.out q1)
      have HO5 := Lib.hid (HO4.out.aft q1)
      have HG5 := Lib.hid q2.out
      have HSd := Lib.hid (Below.size HDa.out)
      clear q1 q2
      refine ⟨rfl, hKx _ _ ⟨⟨⟨_, Fr.of_below HA5.out⟩, rfl⟩, ?_⟩⟩
      clear hKx
      simp only [Act.put, List.setIfInBounds_toArray, List.set_cons_succ, List.set_cons_zero]
      repeat (first | (refine lx_skipT (by go_big_quiet_skip; exact wpQuiet_nil trivial) (by kernel_rfl) ?_; simp only [Act.put, List.setIfInBounds_toArray, List.set_cons_succ, List.set_cons_zero]) | (refine lx_quietT rfl (by go_big_quiet_want; exact quiet_false (by assumption)) (by kernel_rfl) rfl ?_; intro Kx hKx; go_big_quiet_op; go_big_quiet_on))
      refine lx_eff rfl (by kernel_rfl) ?_
      intro Kx hKx
      refine wp_of_list (ops := #[]) (wpList_append_rd rfl (.tmp 33) (.tmp 36) 23 rfl w.heap.size 22 (.slice none 0 0) 24 Try.underlying23 info_ints rfl (.slice b1 k d1) (.slice (some ⟨w44.heap.size, 0, none⟩) 1 1) vs [.slice a20 l.length c20] rfl rfl (HT.out.aft HA5.out).lv.row (Rd.of_own (own_blk HG5.out (Nat.zero_le _) (by show 1 ≤ maxLen; decide))) (fun u hu => by rw [List.mem_singleton.1 hu]; rfl) (by have := hfo.out; simp only [List.length_cons, List.length_nil]; omega) (by have := hfo.out; simp only [List.length_cons, List.length_nil]; omega) (Nat.le_trans hsz.out (Below.size HA5.out)) ?_)
      intro v22 w66 k1 k2 k3
      have HF6 := Lib.hid (show Fr (fun b => (Value.slice b1 k d1).ownBlock = some b) w55 w66 from Fr.of_grown k2 (fun q hq => hq))
      have HT6 := Lib.hid (show OwnTr w66 w.heap.size (.slice a8 ids.length c8) v22 (vs ++ [.slice a20 l.length c20]) ids (ls.take (k + 1)) from by
        rw [HTk.out]
        exact HT.out.snoc HA5.out (HO5.out.mono (Nat.le_trans hsz.out HSd.out)) (fun q hq => Nat.le_trans HSd.out (HO5.out.lt hq).1) k1 HF6.out)
      have HD6 := Lib.hid (show Fr (fun b => (Value.slice b1 k d1).ownBlock = some b) wr w66 from Fr.trans (Fr.of_below HA5.out) HF6.out)
      clear k1 k2 k3
      refine ⟨rfl, hKx _ _ ⟨⟨⟨_, HD6.out⟩, rfl⟩, ?_⟩⟩
      clear hKx
      simp only [Act.put, List.setIfInBounds_toArray, List.set_cons_succ, List.set_cons_zero]
      repeat (first | (refine lx_skipT (by go_big_quiet_skip; exact wpQuiet_nil trivial) (by kernel_rfl) ?_; simp only [Act.put, List.setIfInBounds_toArray, List.set_cons_succ, List.set_cons_zero]) | (refine lx_quietT rfl (by go_big_quiet_want; exact quiet_false (by assumption)) (by kernel_rfl) rfl ?_; intro Kx hKx; go_big_quiet_op; go_big_quiet_on))
      refine lx_done ?_
      clear f1
      replace HL := Lib.hid (HL.out.frO HT.out.lv.row (Nat.le_refl _) HD6.out rfl)
      obtain ⟨-, -, b6, d6, -, rfl⟩ := HT6.out.shape
      generalize (ls.take (k + 1)).length = k6 at *
      go_wp2_with (first | (refine wpList_store_cellJ rfl 23 (.tmp 38) (.tmp 37) rfl s3 1 (.slice b6 k6 d6) rfl rfl 25 (shpL (.slice a8 ids.length c8) (.slice b1 k d1)) (by show 1 < 2; decide) (HL.out.get 2 rfl) (by kernel_rfl) rfl rfl ?_; intro wG q1 q2 q3; have HTG := Lib.hid (HT6.out.stored (HL.out.get 2 rfl) (by decide) (by decide) q2.out); replace HL := Lib.hid (HL.out.store 2 rfl q1 q2 q3); clear q1 q2 q3; (try simp only [List.nil_append, List.cons_append, List.set_cons_zero, List.set_cons_succ] at HL)))
      go_roundw
      case rel => exact ⟨k + 1, _, _, by omega, by go_num, HTG.out, HL.out⟩
      case measure => simp [intOf]; omega
    · obtain rfl : k = ls.length := by omega
      have hlt' : ¬ ((ls.length : Nat) : Int) < (ls.length : Nat) := by omega
      rw [List.take_length] at HT
      clear HVl HV HI
      go_wp2_with fail
      go_loopw [42] (fun v42 wr => ∃ (i : Nat) (ids' : List Int) (ls' : List (List Int)) (vi vl : Value) (vs : List Value), i ≤ out.length ∧ v42 = .int .i64 (i : Int) ∧ OkT ids' ls' ∧ OwnTr wr w.heap.size vi vl vs ids' ls' ∧ Led w wr [(w.heap.size, .cells (shpL (.slice ao ids.length ac) (.slice bo ls.length bc)).toArray 25), (s2, .cells (shpL (.slice none 0 0) (.slice none 0 0)).toArray 25), (s3, .cells (shpL vi vl).toArray 25)] ∧ dlR ids ls out = dlR ids' ls' (out.drop i)) (fun v _ => out.length - (intOf v).toNat)
      case atStart => exact ⟨0, ids, ls, _, _, _, Nat.zero_le _, rfl, HOk.out, HT.out, HL.out, rfl⟩
      case round =>
        clear HL HT
        obtain ⟨i, ids', ls', vi, vl, vs, hi, rfl, hok, hT, hL, heq⟩ := hrel
        have HT := Lib.hid hT
        have HL := Lib.hid hL
        have HOk := Lib.hid hok
        have HEq := Lib.hid heq
        obtain ⟨a5, c5, b5, d5, rfl, rfl⟩ := hT.shape
        clear hT hL hok heq
        by_cases hlt : i < out.length
        · have hlt' : (i : Int) < (out.length : Nat) := by omega
          obtain ⟨b, o, rfl, -, -⟩ := (HO2.out.grow HL.out.aft).some_of (by rw [zv_length]; omega)
          have hc := (HO2.out.grow HL.out.aft).num_at hlt
          have HDr := Lib.hid (drop_consP hlt)
          have hln := Lib.hid (rd_len HO2.out)
          have hi62 : i < 9223372036854775807 := by have := hln.out; omega
          generalize out.getD i 0 = x at *
          go_wp2_with (first | (refine wpList_load_rowG (by kernel_rfl) 25 (.tmp 8) rfl _ rfl _ _ _ _ (HL.out.get 2 rfl) Try.underlying25 rfl (shp_info _ _) ?_))
          clear hc
          refine (tdelete_any _ _ ids' ls' x wr HT.out.ids.rd HT.out.lv.rd (small_of HOk.out)).mono ?_
          rintro e w31 ⟨ui, ul, us, rfl, hT3, h31⟩
          obtain ⟨a6, c6, b6, d6, rfl, rfl⟩ := hT3.shape
          have HT3 := Lib.hid (hT3.mono (Below.size HL.out.aft))
          replace HL := Lib.hid (HL.out.call h31)
          clear hT3 h31
          by_cases h0 : delE ids' ls' x = 0
          · have H1 := Lib.hid (del_ok h0).1
            have HR := Lib.hid (show dlR ids ls out = dlR (delIds ids' ls' x) (delLv ids' ls' x) (out.drop (i + 1)) by rw [HEq.out, HDr.out, dlR, if_pos h0])
            rw [h0]
            clear h0 HEq HDr
            generalize delIds ids' ls' x = ids2 at *
            generalize delLv ids' ls' x = ls2 at *
            go_wp2_with (first | (refine wpList_store_shp rfl (.tmp 8) (.tmp 50) _ _ _ (.slice a6 ids2.length c6) (.slice b6 ls2.length d6) rfl rfl rfl rfl rfl (HL.out.get 2 rfl) ?_; intro w32 q1 q2 q3; replace HT3 := Lib.hid (HT3.out.stored (HL.out.get 2 rfl) (by decide) (by decide) q2.out); replace HL := Lib.hid (HL.out.store 2 rfl q1 q2 q3); clear q1 q2 q3; (try simp only [List.nil_append, List.cons_append, List.set_cons_zero, List.set_cons_succ] at HL)))
            go_roundw
            case rel => exact ⟨i + 1, ids2, ls2, _, _, _, by omega, by go_num, H1.out, HT3.out, HL.out, HR.out⟩
            case measure => simp [intOf]; omega
          · have HR := Lib.hid (show dlR ids ls out = (delE ids' ls' x, [], []) by rw [HEq.out, HDr.out, dlR, if_neg h0])
            have hne : (delE ids' ls' x == 0) = false := by simpa using h0
            have hne2 : (delE ids' ls' x != 0) = true := by simpa using h0
            have H0 := Lib.hid h0
            clear HEq HDr
            generalize delE ids' ls' x = cx at *
            generalize (delIds ids' ls' x).length = nx at *
            generalize (delLv ids' ls' x).length = mx at *
            go_wp2_with (first | (refine wpList_buildO (by kernel_rfl) 25 #[] rfl #[] (by kernel_rfl) _ (build_shp0) ?_) | (refine wpList_store_shp rfl (.tmp 8) (.tmp 50) _ _ _ (.slice a6 nx c6) (.slice b6 mx d6) rfl rfl rfl rfl rfl (HL.out.get 2 rfl) ?_; intro w32 q1 q2 q3; replace HL := Lib.hid (HL.out.store 2 rfl q1 q2 q3); clear q1 q2 q3; (try simp only [List.nil_append, List.cons_append, List.set_cons_zero, List.set_cons_succ] at HL)) | (refine wpList_store_shp rfl (.tmp 6) (.tmp 54) _ _ _ (.slice none 0 0) (.slice none 0 0) rfl rfl rfl rfl rfl (HL.out.get 1 rfl) ?_; intro w9 b1 b2 b3; replace HL := Lib.hid (HL.out.store 1 rfl b1 b2 b3); clear b1 b2 b3; try simp only [List.nil_append, List.cons_append, List.set_cons_zero, List.set_cons_succ] at HL))
            refine bodyPost_ret (results_cell_tmp rfl _ _ _ 25 _ (0, 0) _ rfl (HL.out.get 1 rfl) Try.underlying25 rfl (shp_info _ _)) rfl ?_
            refine ChgSays.bad ?_ HL.out.aft
            unfold chgR
            rw [if_pos (chkT_zero.2 HOk0.out), HR.out, if_neg H0.out]
        · obtain rfl : i = out.length := by omega
          have hlt' : ¬ ((out.length : Nat) : Int) < (out.length : Nat) := by omega
          have HD := Lib.hid (show dlR ids ls out = (0, ids', ls') by rw [HEq.out, List.drop_length]; rfl)
          clear HEq
          have HC0 := Lib.hid (show chgR ids ls out in' = inR ids' ls' in' by unfold chgR; rw [if_pos (chkT_zero.2 HOk0.out), HD.out, if_pos rfl])
          clear HD
          go_wp2_with fail
          go_loopw [59] (fun v59 wr => ∃ (i : Nat) (ids' : List Int) (ls' : List (List Int)) (vi vl : Value) (vs : List Value), i ≤ in'.length ∧ v59 = .int .i64 (i : Int) ∧ OkT ids' ls' ∧ OwnTr wr w.heap.size vi vl vs ids' ls' ∧ Led w wr [(w.heap.size, .cells (shpL (.slice ao ids.length ac) (.slice bo ls.length bc)).toArray 25), (s2, .cells (shpL (.slice none 0 0) (.slice none 0 0)).toArray 25), (s3, .cells (shpL vi vl).toArray 25)] ∧ chgR ids ls out in' = inR ids' ls' (in'.drop i)) (fun v _ => in'.length - (intOf v).toNat)
          case atStart => exact ⟨0, ids', ls', _, _, _, Nat.zero_le _, rfl, HOk.out, HT.out, HL.out, HC0.out⟩
          case round =>
            clear HL HT HOk HC0 ids' ls' hi hlt'
            obtain ⟨i, ids', ls', vi, vl, vs, hi, rfl, hok, hT, hL, heq⟩ := hrel
            have HT := Lib.hid hT
            have HL := Lib.hid hL
            have HOk := Lib.hid hok
            have HEq := Lib.hid heq
            obtain ⟨a5, c5, b5, d5, rfl, rfl⟩ := hT.shape
            clear hT hL hok heq
            by_cases hlt : i < in'.length
            · have hlt' : (i : Int) < (in'.length : Nat) := by omega
              obtain ⟨b, o, rfl, -, -⟩ := (HN2.out.grow HL.out.aft).some_of (by rw [zv_length]; omega)
              have hc := (HN2.out.grow HL.out.aft).num_at hlt
              have HDr := Lib.hid (drop_consP hlt)
              have hln := Lib.hid (rd_len HN2.out)
              have hi62 : i < 9223372036854775807 := by have := hln.out; omega
              generalize in'.getD i 0 = x at *
              go_wp2_with (first | (refine wpList_load_rowG (by kernel_rfl) 25 (.tmp 8) rfl _ rfl _ _ _ _ (HL.out.get 2 rfl) Try.underlying25 rfl (shp_info _ _) ?_))
              clear hc
              refine (tinsert_any _ _ ids' ls' x wr HT.out.ids.rd HT.out.lv.rd (small_of HOk.out)).mono ?_
              rintro e w31 ⟨ui, ul, us, rfl, hT3, h31⟩
              obtain ⟨a6, c6, b6, d6, rfl, rfl⟩ := hT3.shape
              have HT3 := Lib.hid (hT3.mono (Below.size HL.out.aft))
              replace HL := Lib.hid (HL.out.call h31)
              clear hT3 h31
              by_cases h0 : insE ids' ls' x = 0
              · have H1 := Lib.hid (ins_ok h0).1
                have HR := Lib.hid (show chgR ids ls out in' = inR (insIds ids' ls' x) (insLv ids' ls' x) (in'.drop (i + 1)) by rw [HEq.out, HDr.out, inR, if_pos h0])
                rw [h0]
                clear h0 HEq HDr
                generalize insIds ids' ls' x = ids2 at *
                generalize insLv ids' ls' x = ls2 at *
                go_wp2_with (first | (refine wpList_store_shp rfl (.tmp 8) (.tmp 67) _ _ _ (.slice a6 ids2.length c6) (.slice b6 ls2.length d6) rfl rfl rfl rfl rfl (HL.out.get 2 rfl) ?_; intro w32 q1 q2 q3; replace HT3 := Lib.hid (HT3.out.stored (HL.out.get 2 rfl) (by decide) (by decide) q2.out); replace HL := Lib.hid (HL.out.store 2 rfl q1 q2 q3); clear q1 q2 q3; (try simp only [List.nil_append, List.cons_append, List.set_cons_zero, List.set_cons_succ] at HL)))
                go_roundw
                case rel => exact ⟨i + 1, ids2, ls2, _, _, _, by omega, by go_num, H1.out, HT3.out, HL.out, HR.out⟩
                case measure => simp [intOf]; omega
              · have HR := Lib.hid (show chgR ids ls out in' = (insE ids' ls' x, [], []) by rw [HEq.out, HDr.out, inR, if_neg h0])
                have hne : (insE ids' ls' x == 0) = false := by simpa using h0
                have hne2 : (insE ids' ls' x != 0) = true := by simpa using h0
                have H0 := Lib.hid h0
                clear HEq HDr
                generalize insE ids' ls' x = cx at *
                generalize (insIds ids' ls' x).length = nx at *
                generalize (insLv ids' ls' x).length = mx at *
                go_wp2_with (first | (refine wpList_buildO (by kernel_rfl) 25 #[] rfl #[] (by kernel_rfl) _ (build_shp0) ?_) | (refine wpList_store_shp rfl (.tmp 8) (.tmp 67) _ _ _ (.slice a6 nx c6) (.slice b6 mx d6) rfl rfl rfl rfl rfl (HL.out.get 2 rfl) ?_; intro w32 q1 q2 q3; replace HL := Lib.hid (HL.out.store 2 rfl q1 q2 q3); clear q1 q2 q3; (try simp only [List.nil_append, List.cons_append, List.set_cons_zero, List.set_cons_succ] at HL)) | (refine wpList_store_shp rfl (.tmp 6) (.tmp 71) _ _ _ (.slice none 0 0) (.slice none 0 0) rfl rfl rfl rfl rfl (HL.out.get 1 rfl) ?_; intro w9 b1 b2 b3; replace HL := Lib.hid (HL.out.store 1 rfl b1 b2 b3); clear b1 b2 b3; try simp only [List.nil_append, List.cons_append, List.set_cons_zero, List.set_cons_succ] at HL))
                refine bodyPost_ret (results_cell_tmp rfl _ _ _ 25 _ (0, 0) _ rfl (HL.out.get 1 rfl) Try.underlying25 rfl (shp_info _ _)) rfl ?_
                refine ChgSays.bad ?_ HL.out.aft
                exact HR.out
            · obtain rfl : i = in'.length := by omega
              have hlt' : ¬ ((in'.length : Nat) : Int) < (in'.length : Nat) := by omega
              have HD := Lib.hid (show chgR ids ls out in' = (0, ids', ls') by rw [HEq.out, List.drop_length]; rfl)
              go_wp2_with (first | (refine wpList_load_rowG (by kernel_rfl) 25 (.tmp 8) rfl _ rfl _ _ _ _ (HL.out.get 2 rfl) Try.underlying25 rfl (shp_info _ _) ?_) | (refine wpList_store_shp rfl (.tmp 6) (.tmp 74) _ _ _ (.slice a5 ids'.length c5) (.slice b5 ls'.length d5) rfl rfl rfl rfl rfl (HL.out.get 1 rfl) ?_; intro w9 q1 q2 q3; replace HT := Lib.hid (HT.out.stored (HL.out.get 1 rfl) (by decide) (by decide) q2.out); replace HL := Lib.hid (HL.out.store 1 rfl q1 q2 q3); clear q1 q2 q3; try simp only [List.nil_append, List.cons_append, List.set_cons_zero, List.set_cons_succ] at HL))
              refine bodyPost_ret (results_cell_tmp rfl _ _ _ 25 _ (0, 0) _ rfl (HL.out.get 1 rfl) Try.underlying25 rfl (shp_info _ _)) rfl ?_
              exact ⟨_, _, _, by rw [HD.out]; rfl, by rw [HD.out]; exact HT.out, HL.out.aft⟩
end Go.Proofs.Ytfgammcefaomeaa
