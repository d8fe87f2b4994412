/- PlanChanges of law 12. -/
import Derived.Test.YtfgammcefaomeaaC1
import Derived.Test.YtfgammcefaomeaaC2
import Derived.Test.YtfgammcefaomeaaT20
import Derived.Test.YtfgammcefaomeaaP10
namespace Go.Proofs.Ytfgammcefaomeaa
open Go Go.RowKit
set_option linter.unusedSimpArgs false
theorem dlR_ok : ∀ (out : List Int) (ids : List Int) (ls : List (List Int)), OkT ids ls → OkT (dlR ids ls out).2.1 (dlR ids ls out).2.2
  | [], ids, ls, h => h
  | x :: r, ids, ls, h => by
    rw [dlR]
    by_cases h0 : delE ids ls x = 0
    · rw [if_pos h0]
      exact dlR_ok r _ _ (del_ok h0).1
    · rw [if_neg h0]
      exact ok_empty
theorem inR_ok : ∀ (in' : List Int) (ids : List Int) (ls : List (List Int)), OkT ids ls → OkT (inR ids ls in').2.1 (inR ids ls in').2.2
  | [], ids, ls, h => h
  | x :: r, ids, ls, h => by
    rw [inR]
    by_cases h0 : insE ids ls x = 0
    · rw [if_pos h0]
      exact inR_ok r _ _ (ins_ok h0).1
    · rw [if_neg h0]
      exact ok_empty
theorem chgR_ok (ids : List Int) (ls : List (List Int)) (out in' : List Int) : OkT (chgR ids ls out in').2.1 (chgR ids ls out in').2.2 := by
  unfold chgR
  by_cases h : chkT ids ls = 0
  · rw [if_pos h]
    by_cases h2 : (dlR ids ls out).1 = 0
    · rw [if_pos h2]
      exact inR_ok in' _ _ (dlR_ok out ids ls (chkT_zero.1 h))
    · rw [if_neg h2]
      exact ok_empty
  · rw [if_neg h]
    exact ok_empty
set_option maxRecDepth 100000 in
set_option maxHeartbeats 8000000 in
theorem planChanges_any (vi vl vo vn pk ps uk us : Value) (ids : List Int) (ls : List (List Int)) (out in' kp kq : List Int) (pp qq : List (Stp × Value)) (w : World) (hi : Rd w vi (zv ids)) (hl : RdLs w vl ls) (ho : Rd w vo (zv out)) (hn : Rd w vn (zv in')) (hpk : Rd w pk (zv kp)) (hps : RdSt w ps pp) (hqk : Rd w uk (zv kq)) (hqs : RdSt w us qq) (b1 : kp.length ≤ 1048576) (b2 : kq.length ≤ 1048576) (b3 : pp.length ≤ 1048576) (b4 : qq.length ≤ 1048576) :
    Calls Try.prog 5 #[.agg (shpL vi vl).toArray, vo, vn, .agg (plR pk ps).toArray, .agg (plR uk us).toArray] w fun e w' => e = .returned (.bool true) ∧ Aft w w' := by
  have HI := Lib.hid (fun (wx : World) (ha : Aft w wx) => hi.grow ha)
  have HV := Lib.hid (fun (wx : World) (ha : Aft w wx) => hl.aft ha)
  have HF0 := Lib.hid (fun (wx : World) (ha : Aft w wx) => few12_any vi vl vo ids ls out wx (hi.grow ha) (hl.aft ha) (ho.grow ha))
  have HF1 := Lib.hid (fun (wx : World) (ha : Aft w wx) => few12_any vi vl vn ids ls in' wx (hi.grow ha) (hl.aft ha) (hn.grow ha))
  have HCp := Lib.hid (fun (hs : Small ids ls) (wx : World) (ha : Aft w wx) => rcopy_any vi vl ids ls wx (hi.grow ha) (hl.aft ha) hs)
  have HCa := Lib.hid (fun (hs : Small ids ls) (wx : World) (ha : Aft w wx) => change_any vi vl vo vn ids ls out in' wx (hi.grow ha) (hl.aft ha) hs (ho.grow ha) (hn.grow ha))
  have HCb := Lib.hid (fun (hs : Small ids ls) (wx : World) (ha : Aft w wx) => rchange_any vi vl vo vn ids ls out in' wx (hi.grow ha) (hl.aft ha) hs (ho.grow ha) (hn.grow ha))
  have HPa := Lib.hid (fun (hl : pp.length ≤ 1000000) (wx : World) (ha : Aft w wx) => psame_any pk ps uk us kp kq pp qq wx (hpk.grow ha) (hps.aft ha) (hqk.grow ha) (hqs.aft ha) hl)
  have HPb := Lib.hid (fun (hl : pp.length ≤ 1000000) (wx : World) (ha : Aft w wx) => rpsame_any pk ps uk us kp kq pp qq wx (hpk.grow ha) (hps.aft ha) (hqk.grow ha) (hqs.aft ha) hl)
  obtain ⟨ao, ac, rfl, -, -⟩ := hi.numS
  obtain ⟨bo, bc, rfl, -⟩ := hl.shape
  obtain ⟨oo, oc, rfl, -, -⟩ := ho.numS
  obtain ⟨no, nc, rfl, -, -⟩ := hn.numS
  obtain ⟨po, pc, rfl, -, -⟩ := hpk.numS
  obtain ⟨so, sc, rfl, -⟩ := hps.shape
  obtain ⟨qo, qc, rfl, -, -⟩ := hqk.numS
  obtain ⟨ro, rc, rfl, -⟩ := hqs.shape
  have HL := Lib.hid (Led.start w)
  clear hi hl ho hn hpk hps hqk hqs
  go_enter Try.func5, Try.ntmps5
  go_wp2_with (first | (refine wpList_dstT 5 rfl ?_; refine wpList_boxO rfl 25 (.tmp 0) rfl (.agg (shpL (.slice ao ids.length ac) (.slice bo ls.length bc)).toArray) rfl (.cells (shpL (.slice ao ids.length ac) (.slice bo ls.length bc)).toArray 25) (box_shp _) ?_; intro w1 aa gg zz; replace HL := Lib.hid (HL.out.alloc aa gg.out); clear aa gg zz; (try simp only [List.nil_append, List.cons_append, List.set_cons_zero, List.set_cons_succ] at HL)) | (refine wpList_dstT 8 rfl ?_; refine wpList_boxO rfl 30 (.tmp 3) rfl (.agg (plR (.slice po kp.length pc) (.slice so pp.length sc)).toArray) rfl (.cells (plR (.slice po kp.length pc) (.slice so pp.length sc)).toArray 30) (fun w => rfl) ?_; intro w2 aa gg zz; replace HL := Lib.hid (HL.out.alloc aa gg.out); clear aa gg zz; (try simp only [List.nil_append, List.cons_append, List.set_cons_zero, List.set_cons_succ] at HL)) | (refine wpList_dstT 9 rfl ?_; refine wpList_boxO rfl 30 (.tmp 4) rfl (.agg (plR (.slice qo kq.length qc) (.slice ro qq.length rc)).toArray) rfl (.cells (plR (.slice qo kq.length qc) (.slice ro qq.length rc)).toArray 30) (fun w => rfl) ?_; intro w3 aa gg zz; replace HL := Lib.hid (HL.out.alloc aa gg.out); clear aa gg zz; (try simp only [List.nil_append, List.cons_append, List.set_cons_zero, List.set_cons_succ] at HL)))
  obtain ⟨s8, hs8⟩ : ∃ s, s = w1.heap.size := ⟨_, rfl⟩
  rw [← hs8] at HL ⊢
  obtain ⟨s9, hs9⟩ : ∃ s, s = w2.heap.size := ⟨_, rfl⟩
  rw [← hs9] at HL ⊢
  clear hs8 hs9
  refine (live12_any _).mono ?_
  rintro e w4 ⟨rfl, h4⟩
  replace HL := Lib.hid (HL.out.call h4)
  clear h4
  go_wp2_with (first | (refine wpList_dstT 20 rfl ?_; refine wpList_load_rowG (by kernel_rfl) 25 (.tmp 5) rfl _ rfl _ _ _ _ (HL.out.get 0 rfl) Try.underlying25 rfl (shp_info _ _) ?_))
  refine (HF0.out _ HL.out.aft).mono ?_
  rintro e w5 ⟨rfl, h5⟩
  replace HL := Lib.hid (HL.out.call h5)
  clear h5 HF0
  cases hf0 : (fewT ids ls && decide (ids.length ≤ 120) && decide (out.length ≤ 100)) with
  | false =>
    clear hf0
    go_wp2_with fail
    go_ret
    exact ⟨rfl, HL.out.aft⟩
  | true =>
    have HS := Lib.hid (show Small ids ls by simp only [Bool.and_eq_true] at hf0; exact fewT_small hf0.1.1)
    clear hf0
    go_wp2_with (first | (refine wpList_dstT 25 rfl ?_; refine wpList_load_rowG (by kernel_rfl) 25 (.tmp 5) rfl _ rfl _ _ _ _ (HL.out.get 0 rfl) Try.underlying25 rfl (shp_info _ _) ?_))
    refine (HF1.out _ HL.out.aft).mono ?_
    rintro e w6 ⟨rfl, h6⟩
    replace HL := Lib.hid (HL.out.call h6)
    clear h6 HF1
    cases hf1 : (fewT ids ls && decide (ids.length ≤ 120) && decide (in'.length ≤ 100)) with
    | false =>
      clear hf1
      go_wp2_with fail
      go_ret
      exact ⟨rfl, HL.out.aft⟩
    | true =>
      clear hf1
      have p0 := cell_part (n := 0) (HL.out.get 1 rfl) rfl
      have p1 := cell_part (n := 1) (HL.out.get 1 rfl) rfl
      have q0 := cell_part (n := 0) (HL.out.get 2 rfl) rfl
      have q1 := cell_part (n := 1) (HL.out.get 2 rfl) rfl
      by_cases hsum : (500 : Int) < ((kp.length : Nat) : Int) + (kq.length : Nat) + (pp.length : Nat) + (qq.length : Nat)
      · go_wp2_with fail
        go_ret
        exact ⟨rfl, HL.out.aft⟩
      have HPl := Lib.hid (show pp.length ≤ 1000000 by omega)
      go_upto_region 4 with fail
      clear p0 p1 q0 q1 b1 b2 b3 b4 hsum
      go_wp2_with (first | (refine wpList_dstT 49 rfl ?_; refine wpList_load_rowG (by kernel_rfl) 25 (.tmp 5) rfl _ rfl _ _ _ _ (HL.out.get 0 rfl) Try.underlying25 rfl (shp_info _ _) ?_))
      refine (HCp.out HS.out _ HL.out.aft).mono ?_
      rintro e w7 ⟨vi4, vl4, vs4, rfl, ho, h7⟩
      obtain ⟨a4, c4, b4, d4, rfl, rfl⟩ := ho.shape
      have HW := Lib.hid ho
      replace HL := Lib.hid (HL.out.call h7)
      clear ho h7 HCp
      go_wp2_with (first | (refine wpList_dstT 12 rfl ?_; refine wpList_allocO rfl 25 rfl (.cells (shpL (.slice none 0 0) (.slice none 0 0)).toArray 25) alloc_shp ?_; intro wY aa gg zz; replace HW := Lib.hid (HW.out.aft aa); replace HL := Lib.hid (HL.out.alloc aa gg.out); clear aa gg zz; (try simp only [List.nil_append, List.cons_append, List.set_cons_zero, List.set_cons_succ] at HL)) | (refine wpList_store_shp rfl (.tmp 12) (.tmp 50) _ _ _ (.slice a4 ids.length c4) (.slice b4 ls.length d4) rfl rfl rfl rfl rfl (HL.out.get 3 rfl) ?_; intro wX q1 q2 q3; replace HW := Lib.hid (HW.out.stored (HL.out.get 3 rfl) (by decide) (by decide) q2.out); replace HL := Lib.hid (HL.out.store 3 rfl q1 q2 q3); clear q1 q2 q3; (try simp only [List.nil_append, List.cons_append, List.set_cons_zero, List.set_cons_succ] at HL)) | (refine wpList_dstT 52 rfl ?_; refine wpList_load_rowG (by kernel_rfl) 25 (.tmp 5) rfl _ rfl _ _ _ _ (HL.out.get 0 rfl) Try.underlying25 rfl (shp_info _ _) ?_))
      have HAX := Lib.hid (show Aft wX wX from Aft.refl _)
      have HSX := Lib.hid (Below.size HL.out.aft)
      obtain ⟨ia, hia⟩ : ∃ ia, ia = (chgR ids ls out in').2.1 := ⟨_, rfl⟩
      obtain ⟨la, hla⟩ : ∃ la, la = (chgR ids ls out in').2.2 := ⟨_, rfl⟩
      obtain ⟨ea, hea⟩ : ∃ ea, ea = (chgR ids ls out in').1 := ⟨_, rfl⟩
      have HIa := Lib.hid hia
      have HLa := Lib.hid hla
      have HEa := Lib.hid hea
      have HOka := Lib.hid (show OkT ia la by rw [hia, hla]; exact chgR_ok ids ls out in')
      clear hia hla hea
      refine (HCa.out HS.out _ HL.out.aft).mono ?_
      rintro e w8 ⟨vi6, vl6, vs6, rfl, ho, h8⟩
      rw [← HIa.out, ← HLa.out] at ho
      rw [← HEa.out]
      obtain ⟨a6, c6, b6, d6, rfl, rfl⟩ := ho.shape
      have HTa := Lib.hid ho
      replace HL := Lib.hid (HL.out.call h8)
      replace HAX := Lib.hid (Aft.trans HAX.out h8)
      clear ho h8 HCa
      go_wp2_with (first | (refine wpList_dstT 13 rfl ?_; refine wpList_allocO rfl 25 rfl (.cells (shpL (.slice none 0 0) (.slice none 0 0)).toArray 25) alloc_shp ?_; intro wa6 aa gg zz; replace HTa := Lib.hid (HTa.out.aft aa); have HGx := Lib.hid (Below.size HAX.out); replace HAX := Lib.hid (Aft.trans HAX.out aa); replace HL := Lib.hid (HL.out.alloc aa gg.out); clear aa gg zz; (try simp only [List.nil_append, List.cons_append, List.set_cons_zero, List.set_cons_succ] at HL)) | (refine wpList_store_shp rfl (.tmp 13) (.tmp 56) _ _ _ (.slice a6 ia.length c6) (.slice b6 la.length d6) rfl rfl rfl rfl rfl (HL.out.get 4 rfl) ?_; intro wb6 q1 q2 q3; replace HAX := Lib.hid (q3 _ _ HGx.out HAX.out); replace HTa := Lib.hid (HTa.out.stored (HL.out.get 4 rfl) (by decide) (by decide) q2.out); replace HL := Lib.hid (HL.out.store 4 rfl q1 q2 q3); clear q1 q2 q3; (try simp only [List.nil_append, List.cons_append, List.set_cons_zero, List.set_cons_succ] at HL)) | (refine wpList_dstT 59 rfl ?_; refine wpList_load_rowG (by kernel_rfl) 25 (.tmp 5) rfl _ rfl _ _ _ _ (HL.out.get 0 rfl) Try.underlying25 rfl (shp_info _ _) ?_))
      refine (HCb.out HS.out _ HL.out.aft).mono ?_
      rintro e w9 ⟨vi7, vl7, vs7, rfl, ho, h9⟩
      rw [← HIa.out, ← HLa.out] at ho
      rw [← HEa.out]
      obtain ⟨a7, c7, b7, d7, rfl, rfl⟩ := ho.shape
      have HTb := Lib.hid ho
      replace HL := Lib.hid (HL.out.call h9)
      replace HAX := Lib.hid (Aft.trans HAX.out h9)
      replace HTa := Lib.hid (HTa.out.aft h9)
      clear ho h9 HCb
      go_wp2_with (first | (refine wpList_dstT 15 rfl ?_; refine wpList_allocO rfl 25 rfl (.cells (shpL (.slice none 0 0) (.slice none 0 0)).toArray 25) alloc_shp ?_; intro wa7 aa gg zz; replace HTa := Lib.hid (HTa.out.aft aa); replace HTb := Lib.hid (HTb.out.aft aa); have HGx := Lib.hid (Below.size HAX.out); replace HAX := Lib.hid (Aft.trans HAX.out aa); replace HL := Lib.hid (HL.out.alloc aa gg.out); clear aa gg zz; (try simp only [List.nil_append, List.cons_append, List.set_cons_zero, List.set_cons_succ] at HL)) | (refine wpList_store_shp rfl (.tmp 15) (.tmp 63) _ _ _ (.slice a7 ia.length c7) (.slice b7 la.length d7) rfl rfl rfl rfl rfl (HL.out.get 5 rfl) ?_; intro wb7 q1 q2 q3; replace HAX := Lib.hid (q3 _ _ HGx.out HAX.out); replace HTa := Lib.hid (HTa.out.stored (HL.out.get 5 rfl) (by decide) (by decide) q2.out); replace HTb := Lib.hid (HTb.out.stored (HL.out.get 5 rfl) (by decide) (by decide) q2.out); replace HL := Lib.hid (HL.out.store 5 rfl q1 q2 q3); clear q1 q2 q3; (try simp only [List.nil_append, List.cons_append, List.set_cons_zero, List.set_cons_succ] at HL)) | (refine wpList_dstT 65 rfl ?_; refine wpList_load_rowG (by kernel_rfl) 25 (.tmp 13) rfl _ rfl _ _ _ _ (HL.out.get 4 rfl) Try.underlying25 rfl (shp_info _ _) ?_) | (refine wpList_dstT 66 rfl ?_; refine wpList_load_rowG (by kernel_rfl) 25 (.tmp 15) rfl _ rfl _ _ _ _ (HL.out.get 5 rfl) Try.underlying25 rfl (shp_info _ _) ?_))
      refine (rsame_any _ _ _ _ ia ia la la _ HTa.out.ids.rd HTa.out.lv.rd (small_of HOka.out) HTb.out.ids.rd HTb.out.lv.rd (small_of HOka.out)).mono ?_
      rintro e w10 ⟨rfl, h6⟩
      rw [decide_eq_true (show ia = ia ∧ la = la from ⟨rfl, rfl⟩)]
      replace HL := Lib.hid (HL.out.call h6)
      replace HAX := Lib.hid (Aft.trans HAX.out h6)
      replace HTa := Lib.hid (HTa.out.aft h6)
      clear h6 HTb
      have hx1 := shp_i (HL.out.get 4 rfl)
      have hia9 := HOka.out.1.1
      go_wp2_with fail
      clear hx1
      go_loopw [76] (fun v76 wr => ∃ (j : Nat) (js : List Int), j ≤ ia.length ∧ v76 = .int .i64 (j : Int) ∧ js.length = ia.length ∧ Aft wX wr ∧ OwnI wr wX.heap.size (.slice a6 ia.length c6) js ∧ Led w wr [(w.heap.size, (.cells (shpL (.slice ao ids.length ac) (.slice bo ls.length bc)).toArray 25)), (s8, (.cells (plR (.slice po kp.length pc) (.slice so pp.length sc)).toArray 30)), (s9, (.cells (plR (.slice qo kq.length qc) (.slice ro qq.length rc)).toArray 30)), (w7.heap.size, (.cells (shpL (.slice a4 ids.length c4) (.slice b4 ls.length d4)).toArray 25)), (w8.heap.size, (.cells (shpL (.slice a6 ia.length c6) (.slice b6 la.length d6)).toArray 25)), (w9.heap.size, (.cells (shpL (.slice a7 ia.length c7) (.slice b7 la.length d7)).toArray 25))]) (fun v _ => ia.length - (intOf v).toNat)
      case atStart => exact ⟨0, ia, Nat.zero_le _, rfl, rfl, HAX.out, HTa.out.ids, HL.out⟩
      case round =>
        clear HL HTa HAX
        obtain ⟨j, js, hj, rfl, hjl, hA, hO, hL⟩ := hrel
        have HL := Lib.hid hL
        have HAX := Lib.hid hA
        have HO := Lib.hid hO
        have HJl := Lib.hid hjl
        have hx1 := shp_i (HL.out.get 4 rfl)
        by_cases hjt : j < ia.length
        · have hjt' : (j : Int) < (ia.length : Nat) := by omega
          have hjs : j < js.length := by omega
          rw [← hjl] at hO
          obtain ⟨gm, cx, cur, he, -, -⟩ := own_row_blk hO (by omega)
          injection he with p1 p2 p3
          subst p1 p3
          have cj := HO.out.rd.num_at hjs
          rw [Nat.zero_add] at cj
          have HJs := Lib.hid hjs
          generalize js.getD j 0 = y at *
          clear hA hO hL hjl hjs p2
          go_wp2_with (first | (refine wpList_store_num rfl (.tmp 85) (.tmp 84) rfl wX.heap.size gm ia.length c6 js j HJs.out (wrap64 (y + 1)) HO.out rfl rfl ?_; intro wS q1 q2; replace HL := Lib.hid (HL.out.frO HO.out HSX.out q2 rfl); replace HAX := Lib.hid (aft_fr HAX.out HO.out (Nat.le_refl _) q2); replace HO := Lib.hid q1; clear q1 q2 cj hx1))
          go_roundw
          case rel => exact ⟨j + 1, _, by omega, by go_num, by rw [List.length_set]; exact HJl.out, HAX.out, HO.out, HL.out⟩
          case measure => simp [intOf]; omega
        · obtain rfl : j = ia.length := by omega
          have hjt' : ¬ ((ia.length : Nat) : Int) < (ia.length : Nat) := by omega
          clear hA hO hL hjl
          obtain ⟨bq, hbq⟩ : ∃ bq, bq = decide (kp = kq ∧ pp.map Prod.fst = qq.map Prod.fst) := ⟨_, rfl⟩
          have HWw := Lib.hid (HW.out.aft HAX.out)
          have HIx := Lib.hid (HI.out _ HL.out.aft)
          have HVx := Lib.hid (HV.out _ HL.out.aft)
          have HLa2 := Lib.hid HL.out.aft
          go_wp2_with fail
          clear hx1
          refine wp_region_lex (fun wz => ∃ u : Later wr.heap.size wr, wz = u.w) (fun i => ([7, 12, 15] : List Nat).contains i) 18 (by kernel_rfl) (by kernel_rfl) ⟨⟨wr.drew, (Below.refl _ _).drew⟩, rfl⟩ ?_
          change wpLx _ _ _ _ _ _ _ _ _ wr.drew
          have HDa := Lib.hid (show Aft wr wr.drew from (Below.refl _ _).drew)
          generalize wr.drew = wd at *
          try simp only [Act.put, List.setIfInBounds_toArray, List.set_cons_succ, List.set_cons_zero]
          repeat (first | (refine lx_skipT (by go_big_quiet_skip; exact wpQuiet_nil trivial) (by kernel_rfl) ?_; simp only [Act.put, List.setIfInBounds_toArray, List.set_cons_succ, List.set_cons_zero]) | (refine lx_quietT rfl (by go_big_quiet_want; exact quiet_false (by assumption)) (by kernel_rfl) rfl ?_; intro Kx hKx; go_big_quiet_op; go_big_quiet_on))
          refine lx_load_agg rfl (by kernel_rfl) 25 (.tmp 5) rfl ⟨w.heap.size, 0, none⟩ rfl (shpL (.slice ao ids.length ac) (.slice bo ls.length bc)).toArray (fun wz hz => by obtain ⟨u, rfl⟩ := hz; exact run_loadVar_row u.w _ _ _ _ _ _ (Aft.get u.h (HL.out.get 0 rfl)) Try.underlying25 rfl (shp_info _ _)) ?_
          refine lx_load_agg rfl (by kernel_rfl) 25 (.tmp 12) rfl ⟨w7.heap.size, 0, none⟩ rfl (shpL (.slice a4 ids.length c4) (.slice b4 ls.length d4)).toArray (fun wz hz => by obtain ⟨u, rfl⟩ := hz; exact run_loadVar_row u.w _ _ _ _ _ _ (Aft.get u.h (HL.out.get 3 rfl)) Try.underlying25 rfl (shp_info _ _)) ?_
          try simp only [Act.put, List.setIfInBounds_toArray, List.set_cons_succ, List.set_cons_zero]
          refine lx_effT rfl (by go_big_quiet_want; exact quiet_false (by assumption)) (by kernel_rfl) ?_; intro Kx hKx; go_wp2_with fail
          refine (rsame_any _ _ _ _ ids ids ls ls _ (HIx.out.grow HDa.out) (HVx.out.aft HDa.out) HS.out (HWw.out.aft HDa.out).ids.rd (HWw.out.aft HDa.out).lv.rd HS.out).mono ?_
          rintro e w20 ⟨rfl, h6⟩
          rw [decide_eq_true (show ids = ids ∧ ls = ls from ⟨rfl, rfl⟩)]
          have HA6 := Lib.hid (Aft.trans HDa.out h6)
          clear h6
          go_wp2_with fail
          refine ⟨Later.on HA6.out, ?_⟩
          repeat (first | (refine lx_skipT (by go_big_quiet_skip; exact wpQuiet_nil trivial) (by kernel_rfl) ?_; simp only [Act.put, List.setIfInBounds_toArray, List.set_cons_succ, List.set_cons_zero]) | (refine lx_quietT rfl (by go_big_quiet_want; exact quiet_false (by assumption)) (by kernel_rfl) rfl ?_; intro Kx hKx; go_big_quiet_op; go_big_quiet_on))
          refine lx_load_agg rfl (by kernel_rfl) 30 (.tmp 8) rfl ⟨s8, 0, none⟩ rfl (plR (.slice po kp.length pc) (.slice so pp.length sc)).toArray (fun wz hz => by obtain ⟨u, rfl⟩ := hz; exact run_loadVar_row u.w _ _ _ _ _ _ (Aft.get u.h (HL.out.get 1 rfl)) Try.underlying30 rfl (pl_info _ _)) ?_
          refine lx_load_agg rfl (by kernel_rfl) 30 (.tmp 9) rfl ⟨s9, 0, none⟩ rfl (plR (.slice qo kq.length qc) (.slice ro qq.length rc)).toArray (fun wz hz => by obtain ⟨u, rfl⟩ := hz; exact run_loadVar_row u.w _ _ _ _ _ _ (Aft.get u.h (HL.out.get 2 rfl)) Try.underlying30 rfl (pl_info _ _)) ?_
          try simp only [Act.put, List.setIfInBounds_toArray, List.set_cons_succ, List.set_cons_zero]
          refine lx_effT rfl (by go_big_quiet_want; exact quiet_false (by assumption)) (by kernel_rfl) ?_; intro Kx hKx; go_wp2_with fail
          refine (HPa.out HPl.out _ (Aft.trans HLa2.out HA6.out)).mono ?_
          rintro e w21 ⟨rfl, h6⟩
          rw [← hbq]
          have HA7 := Lib.hid (Aft.trans HA6.out h6)
          clear h6
          go_wp2_with fail
          refine ⟨Later.on HA7.out, ?_⟩
          try simp only [Act.put, List.setIfInBounds_toArray, List.set_cons_succ, List.set_cons_zero]
          refine lx_load_agg rfl (by kernel_rfl) 30 (.tmp 8) rfl ⟨s8, 0, none⟩ rfl (plR (.slice po kp.length pc) (.slice so pp.length sc)).toArray (fun wz hz => by obtain ⟨u, rfl⟩ := hz; exact run_loadVar_row u.w _ _ _ _ _ _ (Aft.get u.h (HL.out.get 1 rfl)) Try.underlying30 rfl (pl_info _ _)) ?_
          refine lx_load_agg rfl (by kernel_rfl) 30 (.tmp 9) rfl ⟨s9, 0, none⟩ rfl (plR (.slice qo kq.length qc) (.slice ro qq.length rc)).toArray (fun wz hz => by obtain ⟨u, rfl⟩ := hz; exact run_loadVar_row u.w _ _ _ _ _ _ (Aft.get u.h (HL.out.get 2 rfl)) Try.underlying30 rfl (pl_info _ _)) ?_
          try simp only [Act.put, List.setIfInBounds_toArray, List.set_cons_succ, List.set_cons_zero]
          refine lx_effT rfl (by go_big_quiet_want; exact quiet_false (by assumption)) (by kernel_rfl) ?_; intro Kx hKx; go_wp2_with fail
          refine (HPb.out HPl.out _ (Aft.trans HLa2.out HA7.out)).mono ?_
          rintro e w22 ⟨rfl, h6⟩
          rw [← hbq]
          have HA8 := Lib.hid (Aft.trans HA7.out h6)
          clear h6
          go_wp2_with fail
          refine ⟨Later.on HA8.out, ?_⟩
          clear hbq
          repeat (first | (refine lx_skipT (by go_big_quiet_skip; exact wpQuiet_nil trivial) (by kernel_rfl) ?_; simp only [Act.put, List.setIfInBounds_toArray, List.set_cons_succ, List.set_cons_zero]) | (refine lx_quietT rfl (by go_big_quiet_want; exact quiet_false (by assumption)) (by kernel_rfl) rfl ?_; intro Kx hKx; go_big_quiet_op; go_big_quiet_on))
          refine lx_done ?_
          go_wp2_with fail
          go_ret
          exact ⟨by simp, Aft.trans HLa2.out HA8.out⟩
end Go.Proofs.Ytfgammcefaomeaa
