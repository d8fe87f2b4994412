/- coterieref12.Change, walked. -/
import Derived.Test.YtfgammcefaomeaaP13
import Derived.Test.YtfgammcefaomeaaW16
import Derived.Test.YtfgammcefaomeaaW17
import Derived.Test.YtfgammcefaomeaaT18
namespace Go.Proofs.Ytfgammcefaomeaa
open Go Go.RowKit
set_option linter.unusedSimpArgs false
set_option maxRecDepth 100000 in
set_option maxHeartbeats 8000000 in
theorem rchange_any (vi vl vo vn : Value) (ids : List Int) (ls : List (List Int)) (out in' : List Int) (w : World) (hi : Rd w vi (zv ids)) (hl : RdLs w vl ls) (hs : Small ids ls) (ho : Rd w vo (zv out)) (hn : Rd w vn (zv in')) :
    Calls Try.prog 20 #[.agg (shpL vi vl).toArray, vo, vn] w (ChgSays ids ls out in' w) := by
  have HCp := Lib.hid (fun (wx : World) (ha : Aft w wx) => rcopy_any vi vl ids ls wx (hi.grow ha) (hl.aft ha) hs)
  have HCk := Lib.hid (fun (wx : World) (ha : Aft w wx) => rcheck_any vi vl ids ls wx (hi.grow ha) (hl.aft ha) hs)
  have HO2 := Lib.hid ho
  have HN2 := Lib.hid hn
  obtain ⟨ao, ac, rfl, -, -⟩ := hi.numS
  obtain ⟨bo, bc, rfl, -⟩ := hl.shape
  obtain ⟨oo, oc, rfl, -, -⟩ := ho.numS
  obtain ⟨no, nc, rfl, -, -⟩ := hn.numS
  have HL := Lib.hid (Led.start w)
  clear hi hl hs ho hn
  go_enter Try.func20, Try.ntmps20
  go_wp2_with (first | (refine wpList_dstT 3 rfl ?_; refine wpList_boxO rfl 25 (.tmp 0) rfl (.agg (shpL (.slice ao ids.length ac) (.slice bo ls.length bc)).toArray) rfl (.cells (shpL (.slice ao ids.length ac) (.slice bo ls.length bc)).toArray 25) (box_shp _) ?_; intro w1 aa gg zz; replace HL := Lib.hid (HL.out.alloc aa gg.out); clear aa gg zz; try simp only [List.nil_append, List.cons_append, List.set_cons_zero, List.set_cons_succ] at HL) | (refine wpList_dstT 6 rfl ?_; refine wpList_allocO rfl 25 rfl (.cells (shpL (.slice none 0 0) (.slice none 0 0)).toArray 25) alloc_shp ?_; intro w2 aa gg zz; replace HL := Lib.hid (HL.out.alloc aa gg.out); clear aa gg zz; (try simp only [List.nil_append, List.cons_append, List.set_cons_zero, List.set_cons_succ] at HL)) | (refine wpList_load_rowG (by kernel_rfl) 25 (.tmp 3) rfl _ rfl _ _ _ _ (HL.out.get 0 rfl) Try.underlying25 rfl (shp_info _ _) ?_))
  obtain ⟨s2, hs2⟩ : ∃ s2, s2 = w1.heap.size := ⟨_, rfl⟩
  rw [← hs2] at HL ⊢
  clear hs2
  refine (HCk.out _ HL.out.aft).mono ?_
  rintro e w3 ⟨rfl, h3⟩
  replace HL := Lib.hid (HL.out.call h3)
  clear h3 HCk
  by_cases hok : OkT ids ls
  rotate_left
  · have h1 := (chkT_or ids ls).resolve_left (fun q => hok (chkT_zero.1 q))
    have HR := Lib.hid (show chgR ids ls out in' = (1, [], []) by unfold chgR; rw [if_neg (by rw [h1]; decide), h1])
    rw [h1]
    clear h1 hok
    go_wp2_with (first | (refine wpList_buildO (by kernel_rfl) 25 #[] rfl #[] (by kernel_rfl) _ (build_shp0) ?_) | (refine wpList_store_shp rfl (.tmp 6) (.tmp 19) _ _ _ (.slice none 0 0) (.slice none 0 0) rfl rfl rfl rfl rfl (HL.out.get 1 rfl) ?_; intro w9 q1 q2 q3; replace HL := Lib.hid (HL.out.store 1 rfl q1 q2 q3); clear q1 q2 q3; (try simp only [List.nil_append, List.cons_append, List.set_cons_zero, List.set_cons_succ] at HL)))
    refine bodyPost_ret (results_cell_tmp rfl _ _ _ 25 _ (0, 0) _ rfl (HL.out.get 1 rfl) Try.underlying25 rfl (shp_info _ _)) rfl ?_
    exact ChgSays.bad HR.out HL.out.aft
  rw [chkT_zero.2 hok]
  have HOk0 := Lib.hid hok
  have HOk := Lib.hid hok
  clear hok
  go_wp2_with (first | (refine wpList_load_rowG (by kernel_rfl) 25 (.tmp 3) rfl _ rfl _ _ _ _ (HL.out.get 0 rfl) Try.underlying25 rfl (shp_info _ _) ?_))
  refine (HCp.out _ HL.out.aft).mono ?_
  rintro e w4 ⟨ci, cl, cs, rfl, hcp, h4⟩
  have HT := Lib.hid (hcp.mono (Below.size HL.out.aft))
  obtain ⟨a8, c8, b8, d8, rfl, rfl⟩ := hcp.shape
  replace HL := Lib.hid (HL.out.call h4)
  clear hcp h4 HCp
  go_wp2_with (first | (refine wpList_store_shp rfl (.tmp 3) (.tmp 21) _ _ _ (.slice a8 ids.length c8) (.slice b8 ls.length d8) rfl rfl rfl rfl rfl (HL.out.get 0 rfl) ?_; intro w5 q1 q2 q3; replace HT := Lib.hid (HT.out.stored (HL.out.get 0 rfl) (by decide) (by decide) q2.out); replace HL := Lib.hid (HL.out.store 0 rfl q1 q2 q3); clear q1 q2 q3; (try simp only [List.nil_append, List.cons_append, List.set_cons_zero, List.set_cons_succ] at HL)))
  go_loopw [24] (fun vc wr => ∃ (i : Nat) (ids' : List Int) (ls' : List (List Int)) (vi vl : Value) (vs : List Value), i ≤ out.length ∧ vc = .int .i64 (i : Int) ∧ OkT ids' ls' ∧ OwnTr wr w.heap.size vi vl vs ids' ls' ∧ Led w wr [(w.heap.size, (.cells (shpL vi vl).toArray 25)), (s2, (.cells (shpL (.slice none 0 0) (.slice none 0 0)).toArray 25))] ∧ dlR ids ls out = dlR ids' ls' (out.drop i)) (fun v _ => out.length - (intOf v).toNat)
  case atStart => exact ⟨0, ids, ls, _, _, _, Nat.zero_le _, rfl, HOk.out, HT.out, HL.out, rfl⟩
  case round =>
    clear HL HT HOk
    obtain ⟨i, ids', ls', vi, vl, vs, hi, rfl, hok, hT, hL, heq⟩ := hrel
    have HT := Lib.hid hT
    have HL := Lib.hid hL
    have HOk := Lib.hid hok
    have HEq := Lib.hid heq
    obtain ⟨a5, c5, b5, d5, rfl, rfl⟩ := hT.shape
    clear hT hL hok heq
    by_cases hlt : i < out.length
    · have hlt' : (i : Int) < (out.length : Nat) := by omega
      obtain ⟨b, o, rfl, -, -⟩ := (HO2.out.grow HL.out.aft).some_of (by rw [zv_length]; omega)
      have hc := (HO2.out.grow HL.out.aft).num_at hlt
      have HDr := Lib.hid (drop_consP hlt)
      have hln := Lib.hid (rd_len HO2.out)
      have hi62 : i < 9223372036854775807 := by have := hln.out; omega
      generalize out.getD i 0 = x at *
      go_wp2_with (first | (refine wpList_load_rowG (by kernel_rfl) 25 (.tmp 3) rfl _ rfl _ _ _ _ (HL.out.get 0 rfl) Try.underlying25 rfl (shp_info _ _) ?_))
      clear hc
      refine (rdelete_any _ _ ids' ls' x wr HT.out.ids.rd HT.out.lv.rd (small_of HOk.out)).mono ?_
      rintro e w31 ⟨ui, ul, us, rfl, hT3, h31⟩
      obtain ⟨a6, c6, b6, d6, rfl, rfl⟩ := hT3.shape
      have HT3 := Lib.hid (hT3.mono (Below.size HL.out.aft))
      replace HL := Lib.hid (HL.out.call h31)
      clear hT3 h31
      by_cases h0 : delE ids' ls' x = 0
      · have H1 := Lib.hid (del_ok h0).1
        have HR := Lib.hid (show dlR ids ls out = dlR (delIds ids' ls' x) (delLv ids' ls' x) (out.drop (i + 1)) by rw [HEq.out, HDr.out, dlR, if_pos h0])
        rw [h0]
        clear h0 HEq HDr
        generalize delIds ids' ls' x = ids2 at *
        generalize delLv ids' ls' x = ls2 at *
        go_wp2_with (first | (refine wpList_dstT 10 rfl ?_; refine wpList_allocO rfl 25 rfl (.cells (shpL (.slice none 0 0) (.slice none 0 0)).toArray 25) alloc_shp ?_; intro w5 aa gg zz; replace HT3 := Lib.hid (HT3.out.aft aa); replace HL := Lib.hid (HL.out.alloc aa gg.out); clear aa gg zz; (try simp only [List.nil_append, List.cons_append, List.set_cons_zero, List.set_cons_succ] at HL)) | (refine wpList_store_shp rfl (.tmp 10) (.tmp 32) _ _ _ (.slice a6 ids2.length c6) (.slice b6 ls2.length d6) rfl rfl rfl rfl rfl (HL.out.get 2 rfl) ?_; intro w6 q1 q2 q3; replace HT3 := Lib.hid (HT3.out.stored (HL.out.get 2 rfl) (by decide) (by decide) q2.out); replace HL := Lib.hid (HL.out.store 2 rfl q1 q2 q3); clear q1 q2 q3; (try simp only [List.nil_append, List.cons_append, List.set_cons_zero, List.set_cons_succ] at HL)) | (refine wpList_load_rowG (by kernel_rfl) 25 (.tmp 10) rfl _ rfl _ _ _ _ (HL.out.get 2 rfl) Try.underlying25 rfl (shp_info _ _) ?_) | (refine wpList_store_shp rfl (.tmp 3) (.tmp 38) _ _ _ (.slice a6 ids2.length c6) (.slice b6 ls2.length d6) rfl rfl rfl rfl rfl (HL.out.get 0 rfl) ?_; intro w7 q1 q2 q3; replace HT3 := Lib.hid (HT3.out.stored (HL.out.get 0 rfl) (by decide) (by decide) q2.out); replace HL := Lib.hid (HL.out.store 0 rfl q1 q2 q3); clear q1 q2 q3; (try simp only [List.nil_append, List.cons_append, List.set_cons_zero, List.set_cons_succ] at HL)))
        go_roundw
        case rel => exact ⟨i + 1, ids2, ls2, _, _, _, by omega, by go_num, H1.out, HT3.out, HL.out.cut 2, HR.out⟩
        case measure => simp [intOf]; omega
      · have HR := Lib.hid (show dlR ids ls out = (delE ids' ls' x, [], []) by rw [HEq.out, HDr.out, dlR, if_neg h0])
        have hne : (delE ids' ls' x == 0) = false := by simpa using h0
        have hne2 : (delE ids' ls' x != 0) = true := by simpa using h0
        have H0 := Lib.hid h0
        clear HEq HDr HT3
        generalize delE ids' ls' x = cx at *
        generalize (delIds ids' ls' x).length = nx at *
        generalize (delLv ids' ls' x).length = mx at *
        go_wp2_with (first | (refine wpList_dstT 10 rfl ?_; refine wpList_allocO rfl 25 rfl (.cells (shpL (.slice none 0 0) (.slice none 0 0)).toArray 25) alloc_shp ?_; intro w5 aa gg zz; replace HL := Lib.hid (HL.out.alloc aa gg.out); clear aa gg zz; (try simp only [List.nil_append, List.cons_append, List.set_cons_zero, List.set_cons_succ] at HL)) | (refine wpList_store_shp rfl (.tmp 10) (.tmp 32) _ _ _ (.slice a6 nx c6) (.slice b6 mx d6) rfl rfl rfl rfl rfl (HL.out.get 2 rfl) ?_; intro w6 q1 q2 q3; replace HL := Lib.hid (HL.out.store 2 rfl q1 q2 q3); clear q1 q2 q3; (try simp only [List.nil_append, List.cons_append, List.set_cons_zero, List.set_cons_succ] at HL)) | (refine wpList_buildO (by kernel_rfl) 25 #[] rfl #[] (by kernel_rfl) _ (build_shp0) ?_) | (refine wpList_store_shp rfl (.tmp 6) (.tmp 36) _ _ _ (.slice none 0 0) (.slice none 0 0) rfl rfl rfl rfl rfl (HL.out.get 1 rfl) ?_; intro w9 q1 q2 q3; replace HL := Lib.hid (HL.out.store 1 rfl q1 q2 q3); clear q1 q2 q3; (try simp only [List.nil_append, List.cons_append, List.set_cons_zero, List.set_cons_succ] at HL)))
        refine bodyPost_ret (results_cell_tmp rfl _ _ _ 25 _ (0, 0) _ rfl (HL.out.get 1 rfl) Try.underlying25 rfl (shp_info _ _)) rfl ?_
        refine ChgSays.bad ?_ HL.out.aft
        unfold chgR
        rw [if_pos (chkT_zero.2 HOk0.out), HR.out, if_neg H0.out]
    · obtain rfl : i = out.length := by omega
      have hlt' : ¬ ((out.length : Nat) : Int) < (out.length : Nat) := by omega
      have HD := Lib.hid (show dlR ids ls out = (0, ids', ls') by rw [HEq.out, List.drop_length]; rfl)
      clear HEq
      have HC0 := Lib.hid (show chgR ids ls out in' = inR ids' ls' in' by unfold chgR; rw [if_pos (chkT_zero.2 HOk0.out), HD.out, if_pos rfl])
      clear HD
      go_wp2_with fail
      go_loopw [42] (fun vc wr => ∃ (i : Nat) (ids' : List Int) (ls' : List (List Int)) (vi vl : Value) (vs : List Value), i ≤ in'.length ∧ vc = .int .i64 (i : Int) ∧ OkT ids' ls' ∧ OwnTr wr w.heap.size vi vl vs ids' ls' ∧ Led w wr [(w.heap.size, (.cells (shpL vi vl).toArray 25)), (s2, (.cells (shpL (.slice none 0 0) (.slice none 0 0)).toArray 25))] ∧ chgR ids ls out in' = inR ids' ls' (in'.drop i)) (fun v _ => in'.length - (intOf v).toNat)
      case atStart => exact ⟨0, ids', ls', _, _, _, Nat.zero_le _, rfl, HOk.out, HT.out, HL.out, HC0.out⟩
      case round =>
        clear HL HT HOk HC0 ids' ls' hi hlt'
        obtain ⟨i, ids', ls', vi, vl, vs, hi, rfl, hok, hT, hL, heq⟩ := hrel
        have HT := Lib.hid hT
        have HL := Lib.hid hL
        have HOk := Lib.hid hok
        have HEq := Lib.hid heq
        obtain ⟨a5, c5, b5, d5, rfl, rfl⟩ := hT.shape
        clear hT hL hok heq
        by_cases hlt : i < in'.length
        · have hlt' : (i : Int) < (in'.length : Nat) := by omega
          obtain ⟨b, o, rfl, -, -⟩ := (HN2.out.grow HL.out.aft).some_of (by rw [zv_length]; omega)
          have hc := (HN2.out.grow HL.out.aft).num_at hlt
          have HDr := Lib.hid (drop_consP hlt)
          have hln := Lib.hid (rd_len HN2.out)
          have hi62 : i < 9223372036854775807 := by have := hln.out; omega
          generalize in'.getD i 0 = x at *
          go_wp2_with (first | (refine wpList_load_rowG (by kernel_rfl) 25 (.tmp 3) rfl _ rfl _ _ _ _ (HL.out.get 0 rfl) Try.underlying25 rfl (shp_info _ _) ?_))
          clear hc
          refine (rinsert_any _ _ ids' ls' x wr HT.out.ids.rd HT.out.lv.rd (small_of HOk.out)).mono ?_
          rintro e w31 ⟨ui, ul, us, rfl, hT3, h31⟩
          obtain ⟨a6, c6, b6, d6, rfl, rfl⟩ := hT3.shape
          have HT3 := Lib.hid (hT3.mono (Below.size HL.out.aft))
          replace HL := Lib.hid (HL.out.call h31)
          clear hT3 h31
          by_cases h0 : insE ids' ls' x = 0
          · have H1 := Lib.hid (ins_ok h0).1
            have HR := Lib.hid (show chgR ids ls out in' = inR (insIds ids' ls' x) (insLv ids' ls' x) (in'.drop (i + 1)) by rw [HEq.out, HDr.out, inR, if_pos h0])
            rw [h0]
            clear h0 HEq HDr
            generalize insIds ids' ls' x = ids2 at *
            generalize insLv ids' ls' x = ls2 at *
            go_wp2_with (first | (refine wpList_dstT 14 rfl ?_; refine wpList_allocO rfl 25 rfl (.cells (shpL (.slice none 0 0) (.slice none 0 0)).toArray 25) alloc_shp ?_; intro w5 aa gg zz; replace HT3 := Lib.hid (HT3.out.aft aa); replace HL := Lib.hid (HL.out.alloc aa gg.out); clear aa gg zz; (try simp only [List.nil_append, List.cons_append, List.set_cons_zero, List.set_cons_succ] at HL)) | (refine wpList_store_shp rfl (.tmp 14) (.tmp 50) _ _ _ (.slice a6 ids2.length c6) (.slice b6 ls2.length d6) rfl rfl rfl rfl rfl (HL.out.get 2 rfl) ?_; intro w6 q1 q2 q3; replace HT3 := Lib.hid (HT3.out.stored (HL.out.get 2 rfl) (by decide) (by decide) q2.out); replace HL := Lib.hid (HL.out.store 2 rfl q1 q2 q3); clear q1 q2 q3; (try simp only [List.nil_append, List.cons_append, List.set_cons_zero, List.set_cons_succ] at HL)) | (refine wpList_load_rowG (by kernel_rfl) 25 (.tmp 14) rfl _ rfl _ _ _ _ (HL.out.get 2 rfl) Try.underlying25 rfl (shp_info _ _) ?_) | (refine wpList_store_shp rfl (.tmp 3) (.tmp 56) _ _ _ (.slice a6 ids2.length c6) (.slice b6 ls2.length d6) rfl rfl rfl rfl rfl (HL.out.get 0 rfl) ?_; intro w7 q1 q2 q3; replace HT3 := Lib.hid (HT3.out.stored (HL.out.get 0 rfl) (by decide) (by decide) q2.out); replace HL := Lib.hid (HL.out.store 0 rfl q1 q2 q3); clear q1 q2 q3; (try simp only [List.nil_append, List.cons_append, List.set_cons_zero, List.set_cons_succ] at HL)))
            go_roundw
            case rel => exact ⟨i + 1, ids2, ls2, _, _, _, by omega, by go_num, H1.out, HT3.out, HL.out.cut 2, HR.out⟩
            case measure => simp [intOf]; omega
          · have HR := Lib.hid (show chgR ids ls out in' = (insE ids' ls' x, [], []) by rw [HEq.out, HDr.out, inR, if_neg h0])
            have hne : (insE ids' ls' x == 0) = false := by simpa using h0
            have hne2 : (insE ids' ls' x != 0) = true := by simpa using h0
            have H0 := Lib.hid h0
            clear HEq HDr HT3
            generalize insE ids' ls' x = cx at *
            generalize (insIds ids' ls' x).length = nx at *
            generalize (insLv ids' ls' x).length = mx at *
            go_wp2_with (first | (refine wpList_dstT 14 rfl ?_; refine wpList_allocO rfl 25 rfl (.cells (shpL (.slice none 0 0) (.slice none 0 0)).toArray 25) alloc_shp ?_; intro w5 aa gg zz; replace HL := Lib.hid (HL.out.alloc aa gg.out); clear aa gg zz; (try simp only [List.nil_append, List.cons_append, List.set_cons_zero, List.set_cons_succ] at HL)) | (refine wpList_store_shp rfl (.tmp 14) (.tmp 50) _ _ _ (.slice a6 nx c6) (.slice b6 mx d6) rfl rfl rfl rfl rfl (HL.out.get 2 rfl) ?_; intro w6 q1 q2 q3; replace HL := Lib.hid (HL.out.store 2 rfl q1 q2 q3); clear q1 q2 q3; (try simp only [List.nil_append, List.cons_append, List.set_cons_zero, List.set_cons_succ] at HL)) | (refine wpList_buildO (by kernel_rfl) 25 #[] rfl #[] (by kernel_rfl) _ (build_shp0) ?_) | (refine wpList_store_shp rfl (.tmp 6) (.tmp 54) _ _ _ (.slice none 0 0) (.slice none 0 0) rfl rfl rfl rfl rfl (HL.out.get 1 rfl) ?_; intro w9 q1 q2 q3; replace HL := Lib.hid (HL.out.store 1 rfl q1 q2 q3); clear q1 q2 q3; (try simp only [List.nil_append, List.cons_append, List.set_cons_zero, List.set_cons_succ] at HL)))
            refine bodyPost_ret (results_cell_tmp rfl _ _ _ 25 _ (0, 0) _ rfl (HL.out.get 1 rfl) Try.underlying25 rfl (shp_info _ _)) rfl ?_
            refine ChgSays.bad ?_ HL.out.aft
            exact HR.out
        · obtain rfl : i = in'.length := by omega
          have hlt' : ¬ ((in'.length : Nat) : Int) < (in'.length : Nat) := by omega
          have HD := Lib.hid (show chgR ids ls out in' = (0, ids', ls') by rw [HEq.out, List.drop_length]; rfl)
          go_wp2_with (first | (refine wpList_load_rowG (by kernel_rfl) 25 (.tmp 3) rfl _ rfl _ _ _ _ (HL.out.get 0 rfl) Try.underlying25 rfl (shp_info _ _) ?_) | (refine wpList_store_shp rfl (.tmp 6) (.tmp 58) _ _ _ (.slice a5 ids'.length c5) (.slice b5 ls'.length d5) rfl rfl rfl rfl rfl (HL.out.get 1 rfl) ?_; intro w9 q1 q2 q3; replace HT := Lib.hid (HT.out.stored (HL.out.get 1 rfl) (by decide) (by decide) q2.out); replace HL := Lib.hid (HL.out.store 1 rfl q1 q2 q3); clear q1 q2 q3; (try simp only [List.nil_append, List.cons_append, List.set_cons_zero, List.set_cons_succ] at HL)))
          refine bodyPost_ret (results_cell_tmp rfl _ _ _ 25 _ (0, 0) _ rfl (HL.out.get 1 rfl) Try.underlying25 rfl (shp_info _ _)) rfl ?_
          exact ⟨_, _, _, by rw [HD.out]; rfl, by rw [HD.out]; exact HT.out, HL.out.aft⟩
end Go.Proofs.Ytfgammcefaomeaa
