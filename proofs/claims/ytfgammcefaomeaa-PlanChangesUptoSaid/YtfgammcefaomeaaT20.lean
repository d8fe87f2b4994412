/- Same of the document of law 10. -/
import Derived.Test.YtfgammcefaomeaaT19
namespace Go.Proofs.Ytfgammcefaomeaa
open Go Go.RowKit
set_option linter.unusedSimpArgs false
theorem take_eq_iff {α : Type} {a b : List (List α)} {i : Nat} (ha : i < a.length) (hb : i < b.length) : a.take (i + 1) = b.take (i + 1) ↔ a.take i = b.take i ∧ a.getD i [] = b.getD i [] := by
  rw [List.take_succ_eq_append_getElem ha, List.take_succ_eq_append_getElem hb, List.getD_eq_getElem?_getD, List.getElem?_eq_getElem ha, List.getD_eq_getElem?_getD, List.getElem?_eq_getElem hb, Option.getD_some, Option.getD_some]
  constructor
  · intro h
    have := List.append_inj h (by simp; omega)
    exact ⟨this.1, List.singleton_inj.1 this.2⟩
  · rintro ⟨h1, h2⟩
    rw [h1, h2]
set_option maxRecDepth 100000 in
set_option maxHeartbeats 4000000 in
theorem rsame_any (vi vl ui ul : Value) (ids ids' : List Int) (ls ls' : List (List Int)) (w : World) (hi : Rd w vi (zv ids)) (hl : RdLs w vl ls) (hs : Small ids ls) (hi' : Rd w ui (zv ids')) (hl' : RdLs w ul ls') (hs' : Small ids' ls') :
    Calls Try.prog 21 #[.agg (shpL vi vl).toArray, .agg (shpL ui ul).toArray] w fun e w' => e = .returned (.bool (decide (ids = ids' ∧ ls = ls'))) ∧ Aft w w' := by
  have HE1 := Lib.hid (fun (wx : World) (ha : Aft w wx) => sameInts_any vi ui ids ids' wx (hi.grow ha) (hi'.grow ha) hs.fi)
  have HX := Lib.hid hl
  have HY := Lib.hid hl'
  have HS := Lib.hid hs
  have HS2 := Lib.hid hs'
  have hf1 := hs.fl
  have hf2 := hs'.fl
  obtain ⟨ao, cap, rfl, -, -⟩ := hi.numS
  obtain ⟨bo, dap, rfl, -⟩ := hl.shape
  obtain ⟨a1, cap1, rfl, -, -⟩ := hi'.numS
  obtain ⟨b1, dap1, rfl, -⟩ := hl'.shape
  obtain ⟨bq, hbq⟩ : ∃ bq, bq = decide (ids = ids' ∧ ls = ls') := ⟨_, rfl⟩
  have HB := Lib.hid hbq
  rw [← hbq]
  have HL := Lib.hid (Led.start w)
  clear hi hl hs hi' hl' hs' hbq
  go_enter Try.func21, Try.ntmps21
  go_wp2_with (first | (refine wpList_dstT 2 rfl ?_; (refine wpList_boxO rfl 25 (.tmp 0) rfl (.agg (shpL (.slice ao ids.length cap) (.slice bo ls.length dap)).toArray) rfl (.cells (shpL (.slice ao ids.length cap) (.slice bo ls.length dap)).toArray 25) (box_shp _) ?_; intro wB aa gg zz; replace HL := Lib.hid (HL.out.alloc aa gg.out); clear aa gg zz; try simp only [List.nil_append, List.cons_append, List.set_cons_zero, List.set_cons_succ] at HL)) | (refine wpList_dstT 3 rfl ?_; (refine wpList_boxO rfl 25 (.tmp 1) rfl (.agg (shpL (.slice a1 ids'.length cap1) (.slice b1 ls'.length dap1)).toArray) rfl (.cells (shpL (.slice a1 ids'.length cap1) (.slice b1 ls'.length dap1)).toArray 25) (box_shp _) ?_; intro w' aa gg zz; replace HL := Lib.hid (HL.out.alloc aa gg.out); clear aa gg zz; try simp only [List.nil_append, List.cons_append, List.set_cons_zero, List.set_cons_succ] at HL; have hA := shp_i (HL.out.get 0 rfl); have hB := shp_i (HL.out.get 1 rfl))))
  refine (HE1.out _ HL.out.aft).mono ?_
  rintro e w2 ⟨rfl, h2⟩
  replace HL := Lib.hid (HL.out.call h2)
  clear hA hB h2 HE1
  by_cases h1 : ids = ids'
  rotate_left
  · rw [decide_eq_false h1]
    have HD := Lib.hid (show decide (ids = ids' ∧ ls = ls') = false from decide_eq_false fun q => h1 q.1)
    clear h1
    go_wp2_with fail
    go_ret
    exact ⟨by rw [HB.out, HD.out]; rfl, HL.out.aft⟩
  rw [decide_eq_true h1]
  have hC := shp_l (HL.out.get 0 rfl)
  have hD := shp_l (HL.out.get 1 rfl)
  have HD := Lib.hid (show decide (ids = ids' ∧ ls = ls') = decide (ls = ls') from decide_eq_decide.2 ⟨fun q => q.2, fun q => ⟨h1, q⟩⟩)
  clear h1
  by_cases hlen : ls'.length = ls.length
  rotate_left
  · have HN := Lib.hid (show bq = false by rw [HB.out, HD.out]; exact decide_eq_false fun q => hlen (by rw [q]))
    have hne : ((ls.length : Nat) : Int) ≠ (ls'.length : Nat) := by omega
    go_wp2_with fail
    all_goals first | (go_ret; exact ⟨by rw [HN.out]; rfl, HL.out.aft⟩) | (exfalso; omega)
  have HLn := Lib.hid hlen
  rw [hlen] at HL HY hD ⊢
  clear hlen hf2
  go_wp2_with fail
  clear hC hD
  go_loopw [24] (fun v24 wr => ∃ i : Nat, i ≤ ls.length ∧ v24 = .int .i64 (i : Int) ∧ ls.take i = ls'.take i ∧ Led w wr [(w.heap.size, .cells (shpL (.slice ao ids.length cap) (.slice bo ls.length dap)).toArray 25), (wB.heap.size, .cells (shpL (.slice a1 ids'.length cap1) (.slice b1 ls.length dap1)).toArray 25)]) (fun v _ => ls.length - (intOf v).toNat)
  case atStart => exact ⟨0, by omega, rfl, rfl, HL.out⟩
  case round =>
    clear HL
    obtain ⟨i, hi, rfl, hf, hL⟩ := hrel
    have HL := Lib.hid hL
    have HF := Lib.hid hf
    clear hL hf
    by_cases hlt : i < ls.length
    · have hlt' : (i : Int) < (ls.length : Nat) := by omega
      have hylt : i < ls'.length := by have := HLn.out; omega
      obtain ⟨p1, o1, c1, x, he, hcx, hrx⟩ := HX.out.cell hlt
      injection he with he1 he2 he3
      subst he1 he3
      obtain ⟨p2, o2, c2, y, he, hcy, hry⟩ := HY.out.cell hylt
      injection he with he1 he4 he3
      subst he1 he3
      have HSm := Lib.hid (fun (wx : World) (ha : Aft w wx) => sameInts_any x y (ls.getD i []) (ls'.getD i []) wx (hrx.grow ha) (hry.grow ha) (HS.out.fv _ (getD_mem hlt)))
      obtain ⟨q1, r1, rfl, -, -⟩ := hrx.numS
      obtain ⟨q2, r2, rfl, -, -⟩ := hry.numS
      have f1 := fun u : Later wr.heap.size wr => shp_l (Aft.get u.h (HL.out.get 0 rfl))
      have f2 := fun u : Later wr.heap.size wr => shp_l (Aft.get u.h (HL.out.get 1 rfl))
      have f3 := fun u : Later wr.heap.size wr => hcx u.w (Aft.trans HL.out.aft u.h)
      have f4 := fun u : Later wr.heap.size wr => hcy u.w (Aft.trans HL.out.aft u.h)
      have HT := Lib.hid (take_eq_iff hlt hylt)
      have HN := Lib.hid (fun (q : ¬ ls.getD i [] = ls'.getD i []) => show bq = false by rw [HB.out, HD.out]; exact decide_eq_false fun z => q (by rw [z]))
      generalize ls.getD i [] = l at *
      generalize ls'.getD i [] = m at *
      clear hcx hrx hcy hry he2 he4
      have hll : True := trivial
      go_wp2_with (first | (refine wp_region_lex (fun wz => ∃ u : Later wr.heap.size wr, wz = u.w) (fun i => ([10] : List Nat).contains i) 12 (by kernel_rfl) (by kernel_rfl) ⟨⟨wr.drew, (Below.refl _ _).drew⟩, rfl⟩ ?_))
      change wpLx _ _ _ _ _ _ _ _ _ wr.drew
      have HDr := Lib.hid (show Aft wr wr.drew from (Below.refl _ _).drew)
      generalize wr.drew = wd at *
      try simp only [Act.put]
      repeat (first | (refine lx_skipT (by go_big_quiet_skip; exact wpQuiet_nil trivial) (by kernel_rfl) ?_; simp only [Act.put, List.setIfInBounds_toArray, List.set_cons_succ, List.set_cons_zero]) | (refine lx_quietT rfl (by go_big_quiet_want; exact quiet_false (by assumption)) (by kernel_rfl) rfl ?_; intro Kx hKx; go_big_quiet_op; go_big_quiet_on))
      refine lx_effT rfl (by go_big_quiet_want; exact quiet_false (by assumption)) (by kernel_rfl) ?_; intro Kx hKx; go_wp2_with fail
      refine (HSm.out _ (Aft.trans HL.out.aft HDr.out)).mono ?_
      rintro r w6 ⟨rfl, h6⟩
      go_wp2_with fail
      refine ⟨Later.on (Aft.trans HDr.out h6), ?_⟩
      replace HDr := Lib.hid (Aft.trans HDr.out h6)
      clear h6
      repeat (first | (refine lx_skipT (by go_big_quiet_skip; exact wpQuiet_nil trivial) (by kernel_rfl) ?_; simp only [Act.put, List.setIfInBounds_toArray, List.set_cons_succ, List.set_cons_zero]) | (refine lx_quietT rfl (by go_big_quiet_want; exact quiet_false (by assumption)) (by kernel_rfl) rfl ?_; intro Kx hKx; go_big_quiet_op; go_big_quiet_on))
      refine lx_done ?_
      clear f1 f2 f3 f4
      replace HL := Lib.hid (HL.out.call HDr.out)
      clear HDr
      by_cases hq : l = m
      · have HT2 := Lib.hid (HT.out.2 ⟨HF.out, hq⟩)
        rw [decide_eq_true hq]
        clear hq
        go_wp2_with fail
        go_roundw
        case rel => exact ⟨i + 1, by omega, by go_num, HT2.out, HL.out⟩
        case measure => simp [intOf]; omega
      · have HN2 := Lib.hid (HN.out hq)
        rw [decide_eq_false hq]
        clear hq
        go_wp2_with fail
        go_ret
        exact ⟨by rw [HN2.out]; rfl, HL.out.aft⟩
    · obtain rfl : i = ls.length := by omega
      have hlt' : ¬ ((ls.length : Nat) : Int) < (ls.length : Nat) := by omega
      have HN := Lib.hid (show bq = true by
        rw [HB.out, HD.out]
        have h := HF.out
        rw [List.take_length, List.take_of_length_le (by have := HLn.out; omega)] at h
        exact decide_eq_true h)
      go_wp2_with fail
      go_ret
      exact ⟨by rw [HN.out]; rfl, HL.out.aft⟩
end Go.Proofs.Ytfgammcefaomeaa

