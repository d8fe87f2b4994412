/- tree.Path and tree.Spans. -/
import Derived.Test.YtpnckphfjcnooaaTInts
namespace Go.Proofs.Ytpnckphfjcnooaa
open Go Go.RowKit
set_option linter.unusedSimpArgs false
set_option maxRecDepth 100000 in
set_option maxHeartbeats 4000000 in
theorem tpath_any (vi vl : Value) (ids : List Int) (ls : List (List Int)) (id : Int) (w : World) (hi : Rd w vi (zv ids)) (hl : RdLs w vl ls) (hs : Small ids ls) :
    Calls Try.prog 28 #[.agg (shpL vi vl).toArray, .int .i64 id] w fun e w' => ∃ v, e = .returned (.tuple #[v, .int .i64 (pathE ids ls id)]) ∧ Rd w' v (zv (pathV ids ls id)) ∧ Aft w w' := by
  have HCk := Lib.hid (fun (wx : World) (ha : Aft w wx) => tcheck_any vi vl ids ls wx (hi.grow ha) (hl.aft ha) hs)
  have HFd := Lib.hid (fun (wx : World) (ha : Aft w wx) => find_any vi vl ids id wx (hi.grow ha) hs.fi)
  have HLs := Lib.hid hl
  have HS := Lib.hid hs
  obtain ⟨ao, cap, rfl, -, -⟩ := hi.numS
  obtain ⟨bo, dap, rfl, -⟩ := hl.shape
  have HL := Lib.hid (Led.start w)
  clear hi hl hs
  go_enter Try.func28, Try.ntmps28
  go_wp2_with (first | (refine wpList_boxO rfl 26 (.tmp 0) rfl (.agg (shpL (.slice ao ids.length cap) (.slice bo ls.length dap)).toArray) rfl (.cells (shpL (.slice ao ids.length cap) (.slice bo ls.length dap)).toArray 26) (box_shp _) ?_; intro w' aa gg zz; replace HL := Lib.hid (HL.out.alloc aa gg.out); clear aa gg zz; try simp only [List.nil_append, List.cons_append, List.set_cons_zero, List.set_cons_succ] at HL) | (refine wpList_load_rowG (by kernel_rfl) 26 (.tmp 2) rfl _ rfl _ _ _ _ (HL.out.get 0 rfl) Try.underlying26 rfl (shp_info _ _) ?_))
  refine (HCk.out _ HL.out.aft).mono ?_
  rintro e w2 ⟨rfl, h2⟩
  replace HL := Lib.hid (HL.out.call h2)
  clear h2 HCk
  by_cases hok : OkT ids ls
  rotate_left
  · have HE := Lib.hid (show pathE ids ls id = 1 from if_pos hok)
    rw [chk_bad hok]
    go_wp2_with fail
    go_ret2
    exact ⟨_, by rw [HE.out]; rfl, by unfold pathV; rw [HE.out]; exact Rd.nil _, HL.out.aft⟩
  rw [chkT_zero.2 hok]
  have HId := Lib.hid (show pathE ids ls id = if id ∈ ids then 0 else 6 from if_neg fun q => q hok)
  have HOk := Lib.hid hok
  clear hok
  go_wp2_with (first | (refine wpList_load_rowG (by kernel_rfl) 26 (.tmp 2) rfl _ rfl _ _ _ _ (HL.out.get 0 rfl) Try.underlying26 rfl (shp_info _ _) ?_))
  refine (HFd.out _ HL.out.aft).mono ?_
  rintro e w3 ⟨rfl, h3⟩
  replace HL := Lib.hid (HL.out.call h3)
  clear h3 HFd
  by_cases hin : id ∈ ids
  rotate_left
  · have HE := Lib.hid (show pathE ids ls id = 6 by rw [HId.out, if_neg hin])
    rw [decide_eq_false hin]
    clear hin
    go_wp2_with fail
    go_ret2
    exact ⟨_, by rw [HE.out]; rfl, by unfold pathV; rw [HE.out]; exact Rd.nil _, HL.out.aft⟩
  rw [decide_eq_true hin]
  have HE := Lib.hid (show pathE ids ls id = 0 by rw [HId.out, if_pos hin])
  have HV := Lib.hid (show pathV ids ls id = pathL ls (cnt ids id : Nat) from if_pos HE.out)
  have HCn := Lib.hid (cnt_lt HOk.out.1.2.2 hin)
  clear hin HId
  have hl0 := shp_l (HL.out.get 0 rfl)
  have hfl := HS.out.fl
  go_wp2_with (first | (refine wpList_makeInts (by kernel_rfl) (.tmp 27) (.tmp 27) rfl ls.length _ rfl rfl rfl (by omega) ?_; intro w4 q1 q2; have HOw := Lib.hid (OwnI.mono q2.out HL.out.aft.size); replace HL := Lib.hid (HL.out.call q1); clear q1 q2 hl0; have hl0 := shp_l (HL.out.get 0 rfl)))
  clear hl0
  obtain ⟨P, hP⟩ : ∃ P, P = pathL ls (cnt ids id : Nat) := ⟨_, rfl⟩
  have HP := Lib.hid hP
  rw [← hP] at HV
  clear hP
  generalize w3.heap.size = go at *
  go_loopw [7, 32] (fun v7 v32 wr => ∃ (k a m : Nat) (done : List Int), k ≤ ls.length ∧ v32 = .int .i64 (k : Int) ∧ v7 = .int .i64 (a : Int) ∧ done.length = k ∧ P = done ++ pathL (ls.drop k) (a : Nat) ∧ okLv (m : Nat) (ls.drop k) = true ∧ a < m ∧ OwnI wr w.heap.size (.slice (some ⟨go, 0, none⟩) ls.length ls.length) (done ++ List.replicate (ls.length - k) 0) ∧ Led w wr [(w.heap.size, .cells (shpL (.slice ao ids.length cap) (.slice bo ls.length dap)).toArray 26)]) (fun _ v _ => ls.length - (intOf v).toNat)
  case atStart => exact ⟨0, cnt ids id, ids.length, [], by omega, rfl, rfl, rfl, HP.out, HOk.out.2, HCn.out, HOw.out, HL.out⟩
  case round =>
    clear HL HOw
    obtain ⟨k, a, m, done, hk, rfl, rfl, hdl, hps, hok, han, hO, hL⟩ := hrel
    have HL := Lib.hid hL
    have HO := Lib.hid hO
    have HDl := Lib.hid hdl
    have HPs := Lib.hid hps
    have HOl := Lib.hid hok
    clear hL hO hdl hps hok
    by_cases hlt : k < ls.length
    · have hlt' : (k : Int) < (ls.length : Nat) := by omega
      obtain ⟨b1, o1, c1, x, he, hcx, hrx⟩ := HLs.out.cell hlt
      injection he with he1 he2 he3
      subst he1 he3
      have hc := hcx _ HL.out.aft
      have hfv := HS.out.fv _ (getD_mem hlt)
      have hd := drop_cons ls k hlt
      rw [hd] at HPs HOl
      obtain ⟨a1, c1, rfl, -, -⟩ := hrx.numS
      generalize ls.getD k [] = l at *
      generalize hrq : ls.drop (k + 1) = rest at *
      have HRq := Lib.hid hrq
      obtain ⟨h2n, hl23, hsum, hokr⟩ := okLv_cons HOl.out
      have HOr := Lib.hid hokr
      have hgr := Lib.hid (fun (wx : World) (ha : Aft w wx) => group_any (.slice a1 l.length c1) l (a : Nat) wx (hrx.grow ha) hl23 hfv (by omega) (by omega))
      have HGs := Lib.hid (grp_spec l (a : Nat) (by omega) (by omega))
      have HPc := Lib.hid (show pathL (l :: rest) (a : Nat) = (grpG l (a : Nat) : Int) :: pathL rest (grpG l (a : Nat) : Nat) from rfl)
      have HXl := Lib.hid (show k < (done ++ List.replicate (ls.length - k) (0 : Int)).length by rw [List.length_append, List.length_replicate, HDl.out]; omega)
      generalize grpG l (a : Nat) = g at *
      have hgl := HGs.out.1
      clear hcx hrx he2 hd hrq hl23 hsum hokr HOl HGs
      go_wp2_with fail
      refine (hgr.out _ HL.out.aft).mono ?_
      rintro e wg ⟨rfl, rfl⟩
      go_wp2_with (first | (refine wpList_store_num rfl (.tmp 46) (.tmp 45) rfl w.heap.size go ls.length ls.length (done ++ List.replicate (ls.length - k) 0) k HXl.out (g : Int) HO.out rfl rfl ?_; intro wS q1 q2; clear hc; replace HL := Lib.hid (HL.out.frO HO.out (Nat.le_refl _) q2 rfl); replace HO := Lib.hid (set_zero HDl.out hlt (g : Int) ▸ q1); clear q1 q2))
      go_roundw
      case rel =>
        refine ⟨k + 1, g, l.length, done ++ [(g : Int)], by omega, by go_num, rfl, by rw [List.length_append, HDl.out]; rfl, ?_, ?_, hgl, HO.out, HL.out⟩
        · rw [HPs.out, HPc.out, HRq.out, List.append_assoc]
          rfl
        · rw [HRq.out]
          exact HOr.out
      case measure => simp [intOf]; omega
    · obtain rfl : k = ls.length := by omega
      have hlt' : ¬ ((ls.length : Nat) : Int) < (ls.length : Nat) := by omega
      rw [List.drop_length] at HPs
      rw [Nat.sub_self] at HO
      have HPd := Lib.hid (show pathV ids ls id = done by rw [HV.out, HPs.out]; exact List.append_nil _)
      replace HO := Lib.hid (show OwnI wr w.heap.size _ done from (List.append_nil done) ▸ HO.out)
      go_wp2_with fail
      go_ret2
      exact ⟨_, by rw [HE.out]; rfl, by rw [HPd.out]; exact HO.out.rd, HL.out.aft⟩
theorem idn_succ (i : Nat) : (List.range (i + 1)).map (fun i : Nat => (i : Int)) = (List.range i).map (fun i : Nat => (i : Int)) ++ [(i : Int)] := by
  rw [List.range_succ, List.map_append]
  rfl
def idn (i : Nat) : List Int := (List.range i).map (fun i : Nat => (i : Int))
theorem idn_length (i : Nat) : (idn i).length = i := by simp [idn]
theorem spF_snoc {l f : List Int} {j : Nat} (hj : j < l.length) : (spF l f).take (j + 1 + 1) = (spF l f).take (j + 1) ++ [f.getD (frm l (j + 1)).toNat 0] := by
  rw [List.take_succ_eq_append_getElem (by rw [spF_length]; omega)]
  congr 2
  have := spF_at (l := l) (from' := f) (j := j + 1) (by omega)
  rw [List.getD_eq_getElem?_getD, List.getElem?_eq_getElem (by rw [spF_length]; omega)] at this
  exact this
theorem spF_one (l f : List Int) : (spF l f).take 1 = [f.getD 0 0] := by
  unfold spF
  rw [List.range_succ_eq_map]
  simp [frm]
theorem spanL_snoc (n : Nat) (ls : List (List Int)) (l : List Int) : spanL n (ls ++ [l]) = spF l (spanL n ls) := by
  unfold spanL
  rw [List.foldl_append]
  rfl
set_option maxRecDepth 100000 in
set_option maxHeartbeats 8000000 in
theorem tspans_any (vi vl : Value) (ids : List Int) (ls : List (List Int)) (level : Int) (w : World) (hi : Rd w vi (zv ids)) (hl : RdLs w vl ls) (hs : Small ids ls) :
    Calls Try.prog 30 #[.agg (shpL vi vl).toArray, .int .i64 level] w fun e w' => ∃ v, e = .returned (.tuple #[v, .int .i64 (spanE ids ls level)]) ∧ Rd w' v (zv (spanV ids ls level)) ∧ Aft w w' := by
  have HCk := Lib.hid (fun (wx : World) (ha : Aft w wx) => tcheck_any vi vl ids ls wx (hi.grow ha) (hl.aft ha) hs)
  have HLs := Lib.hid hl
  have HS := Lib.hid hs
  obtain ⟨ao, cap, rfl, -, -⟩ := hi.numS
  obtain ⟨bo, dap, rfl, -⟩ := hl.shape
  have HDp := Lib.hid (show ls.length ≤ dap ∧ dap ≤ 9223372036854775807 by
    obtain ⟨vs, ⟨a9, c9, he, r1, r2, -, -⟩, h2, -⟩ := hl
    injection he with e1 e2 e3
    omega)
  have HL := Lib.hid (Led.start w)
  clear hi hl hs
  go_enter Try.func30, Try.ntmps30
  go_wp2_with (first | (refine wpList_boxO rfl 26 (.tmp 0) rfl (.agg (shpL (.slice ao ids.length cap) (.slice bo ls.length dap)).toArray) rfl (.cells (shpL (.slice ao ids.length cap) (.slice bo ls.length dap)).toArray 26) (box_shp _) ?_; intro w' aa gg zz; replace HL := Lib.hid (HL.out.alloc aa gg.out); clear aa gg zz; try simp only [List.nil_append, List.cons_append, List.set_cons_zero, List.set_cons_succ] at HL) | (refine wpList_load_rowG (by kernel_rfl) 26 (.tmp 2) rfl _ rfl _ _ _ _ (HL.out.get 0 rfl) Try.underlying26 rfl (shp_info _ _) ?_))
  refine (HCk.out _ HL.out.aft).mono ?_
  rintro e w2 ⟨rfl, h2⟩
  replace HL := Lib.hid (HL.out.call h2)
  clear h2 HCk
  by_cases hok : OkT ids ls
  rotate_left
  · have HE := Lib.hid (show spanE ids ls level = 1 from if_pos (.inl hok))
    rw [chk_bad hok]
    go_wp2_with fail
    go_ret2
    exact ⟨_, by rw [HE.out]; rfl, by unfold spanV; rw [HE.out]; exact Rd.nil _, HL.out.aft⟩
  rw [chkT_zero.2 hok]
  have HOk := Lib.hid hok
  clear hok
  by_cases h0 : level < 0
  · have HE := Lib.hid (show spanE ids ls level = 1 from if_pos (.inr (.inl h0)))
    go_wp2_with fail
    go_ret2
    exact ⟨_, by rw [HE.out]; rfl, by unfold spanV; rw [HE.out]; exact Rd.nil _, HL.out.aft⟩
  by_cases h1 : (ls.length : Int) ≤ level
  · have HE := Lib.hid (show spanE ids ls level = 1 from if_pos (.inr (.inr h1)))
    have hl0 := shp_l (HL.out.get 0 rfl)
    go_wp2_with fail
    go_ret2
    exact ⟨_, by rw [HE.out]; rfl, by unfold spanV; rw [HE.out]; exact Rd.nil _, HL.out.aft⟩
  have HE := Lib.hid (show spanE ids ls level = 0 from if_neg (by
    rintro (q | q | q)
    · exact q HOk.out
    · exact h0 q
    · exact h1 q))
  have HV := Lib.hid (show spanV ids ls level = spanL ids.length (ls.take (level.toNat + 1)) from if_pos HE.out)
  have hl0 := shp_l (HL.out.get 0 rfl)
  have hi0 := shp_i (HL.out.get 0 rfl)
  have hfi := HS.out.fi
  obtain ⟨n1, hn1⟩ : ∃ n1, n1 = ids.length + 1 := ⟨_, rfl⟩
  have HN1 := Lib.hid hn1
  have hnz : ((ids.length : Nat) : Int) + 1 = (n1 : Nat) := by omega
  have HNz := Lib.hid hnz
  clear hn1 hnz
  go_wp2_with (first | (refine wpList_makeInts (by kernel_rfl) (.tmp 31) (.tmp 31) rfl n1 _ HNz.out rfl rfl (by have := HN1.out; omega) ?_; intro w4 q1 q2; have HOw := Lib.hid (OwnI.mono q2.out HL.out.aft.size); replace HL := Lib.hid (HL.out.call q1); clear q1 q2 hl0 hi0))
  generalize w2.heap.size = go at *
  obtain ⟨K, rfl⟩ : ∃ K : Nat, level = (K : Int) := ⟨level.toNat, by omega⟩
  rw [Int.toNat_natCast] at HV
  have HK := Lib.hid (show K < ls.length by omega)
  rw [show decide ((K : Int) < 0) = false from decide_eq_false (by omega), show decide ((ls.length : Int) ≤ (K : Int)) = false from decide_eq_false (by omega), show (false || false) = false from rfl]
  clear h0 h1
  go_loopw [35] (fun v35 wr => ∃ i : Nat, i ≤ n1 ∧ v35 = .int .i64 (i : Int) ∧ OwnI wr w.heap.size (.slice (some ⟨go, 0, none⟩) n1 n1) (idn i ++ List.replicate (n1 - i) 0) ∧ Led w wr [(w.heap.size, .cells (shpL (.slice ao ids.length cap) (.slice bo ls.length dap)).toArray 26)]) (fun v _ => n1 - (intOf v).toNat)
  case atStart => exact ⟨0, by omega, rfl, HOw.out, HL.out⟩
  case round =>
    clear HL HOw
    obtain ⟨i, hi, rfl, hO, hL⟩ := hrel
    have HL := Lib.hid hL
    have HO := Lib.hid hO
    clear hL hO
    by_cases hlt : i < n1
    · have hlt' : (i : Int) < (n1 : Nat) := by omega
      have HXl := Lib.hid (show i < (idn i ++ List.replicate (n1 - i) (0 : Int)).length by rw [List.length_append, List.length_replicate, idn_length]; omega)
      have HSt := Lib.hid (show (idn i ++ List.replicate (n1 - i) 0).set i (i : Int) = idn (i + 1) ++ List.replicate (n1 - (i + 1)) 0 by
        rw [set_zero (idn_length i) hlt]
        unfold idn
        rw [← idn_succ])
      have hn9 : (n1 : Int) ≤ 1048577 := by have := HN1.out; omega
      go_wp2_with (first | (refine wpList_store_num rfl (.tmp 41) (.tmp 40) rfl w.heap.size go n1 n1 (idn i ++ List.replicate (n1 - i) 0) i HXl.out (i : Int) HO.out rfl rfl ?_; intro wS q1 q2; replace HL := Lib.hid (HL.out.frO HO.out (Nat.le_refl _) q2 rfl); replace HO := Lib.hid (HSt.out ▸ q1); clear q1 q2))
      go_roundw
      case rel => exact ⟨i + 1, by omega, by go_num, HO.out, HL.out⟩
      case measure => simp [intOf]; omega
    · obtain rfl : i = n1 := by omega
      have hlt' : ¬ ((i : Nat) : Int) < (i : Nat) := by omega
      rw [Nat.sub_self] at HO
      have HF0 := Lib.hid (show Rd wr (.slice (some ⟨go, 0, none⟩) i i) (zv (ones ids.length)) by
        have h := HO.out.rd
        rw [show idn i ++ List.replicate 0 0 = ones ids.length by rw [HN1.out]; exact List.append_nil _] at h
        exact h)
      clear HO
      obtain ⟨W5, hW5⟩ : ∃ W5, W5 = wr := ⟨_, rfl⟩
      subst hW5
      obtain ⟨b1, o1, c1, x1, he, -, -⟩ := HLs.out.cell (i := 0) (by have := HK.out; omega)
      injection he with he1 he2 he3
      subst he1 he3
      have hl0 := shp_l (HL.out.get 0 rfl)
      have hKi : (K : Int) + 1 ≤ (dap : Nat) := by have := HK.out; have := HDp.out; omega
      have hKm : (K : Int) < 1048576 := by have := HK.out; have := HS.out.fl; omega
      go_wp2_with fail
      clear hl0
      go_loopw [6, 49] (fun v6 v49 wr => ∃ (k m : Nat) (F : List Int) (af : Option Addr) (cf : Nat), k ≤ K + 1 ∧ v49 = .int .i64 (k : Int) ∧ v6 = .slice af F.length cf ∧ F = spanL ids.length (ls.take k) ∧ Rd wr (.slice af F.length cf) (zv F) ∧ Fro ids.length (m : Nat) F ∧ okLv (m : Nat) (ls.drop k) = true ∧ m ≤ 1048576 ∧ Led w wr [(w.heap.size, .cells (shpL (.slice ao ids.length cap) (.slice (some ⟨b1, o1, none⟩) ls.length dap)).toArray 26)]) (fun _ v _ => K + 1 - (intOf v).toNat)
      case atStart =>
        have h1 : (ones ids.length).length = i := by rw [ones_length]; exact HN1.out.symm
        exact ⟨0, ids.length, ones ids.length, _, _, by omega, rfl, by rw [h1], rfl, by rw [h1]; exact HF0.out, fro_ones _, HOk.out.2, HS.out.fi, HL.out⟩
      case round =>
        clear HL HF0
        obtain ⟨k, m, F, af, cf, hk, rfl, rfl, hF, hR, hFr, hok, hm, hL⟩ := hrel
        have HL := Lib.hid hL
        have HR := Lib.hid hR
        have HF := Lib.hid hF
        have HFr := Lib.hid hFr
        have HOl := Lib.hid hok
        clear hL hR hF hFr hok
        by_cases hlt : k < K + 1
        · have hlt' : (k : Int) < (K : Int) + 1 := by omega
          have hkl : k < ls.length := by have := HK.out; omega
          obtain ⟨b2, o2, c2, x, he, hcx, hrx⟩ := HLs.out.cell hkl
          injection he with he4 he5 he6
          cases he4
          have hc := hcx _ HL.out.aft
          have hfv := HS.out.fv _ (getD_mem hkl)
          have hd := drop_cons ls k hkl
          have HTk := Lib.hid (show ls.take (k + 1) = ls.take k ++ [ls.getD k []] by
            rw [List.take_add_one, List.getD_eq_getElem?_getD, List.getElem?_eq_getElem hkl]
            rfl)
          rw [hd] at HOl
          obtain ⟨a3, c3, rfl, -, -⟩ := hrx.numS
          have HX := Lib.hid hrx
          generalize ls.getD k [] = l at *
          obtain ⟨h2n, hl23, hsum, hokr⟩ := okLv_cons HOl.out
          have H23 := Lib.hid hl23
          have HSm := Lib.hid hsum
          have HOr := Lib.hid hokr
          have hb9 := HFr.out.len
          obtain ⟨W6, hW6⟩ : ∃ W6, W6 = wr := ⟨_, rfl⟩
          subst hW6
          clear hcx hrx hd he5 he6 HOl hl23 hsum hokr
          go_wp2_with (first | (refine wpList_dstT 53 rfl ?_; refine wpList_intSlice (by kernel_rfl) (.const (.int .i64 0)) 0 rfl rfl ?_; intro wI q1 q2; have HA := Lib.hid q1; have HU := Lib.hid (show OwnI wI W6.heap.size (.slice (some ⟨W6.heap.size, 0, none⟩) 1 1) ((spF l F).take 1) from by rw [spF_one, HFr.out.zero]; exact one_own q2.out (Nat.le_refl _)); clear q1 q2))
          clear hc
          have HSp := Lib.hid (fun j (hj : j ≤ l.length) => show 0 ≤ frm l j ∧ frm l j ≤ (m : Int) from by
            have := frm_le (pos_of H23.out) hj
            have := frm_nonneg (pos_of H23.out) j
            have := HSm.out
            omega)
          go_loopw [10, 11, 56] (fun v10 v11 v56 wr => ∃ (j q : Nat) (g : Nat) (c : Nat), j ≤ l.length ∧ v56 = .int .i64 (j : Int) ∧ v11 = .int .i64 (q : Int) ∧ (q : Int) = frm l j ∧ v10 = .slice (some ⟨g, 0, none⟩) (j + 1) c ∧ OwnI wr W6.heap.size (.slice (some ⟨g, 0, none⟩) (j + 1) c) ((spF l F).take (j + 1)) ∧ Aft W6 wr) (fun _ _ v _ => l.length - (intOf v).toNat)
          case atStart => exact ⟨0, 0, _, _, by omega, rfl, rfl, rfl, rfl, HU.out, HA.out⟩
          case round =>
            clear HU HA
            obtain ⟨j, q, g, c, hj, rfl, rfl, hq, rfl, hU, hA⟩ := hrel
            have HU := Lib.hid hU
            have HA := Lib.hid hA
            have HQ := Lib.hid hq
            clear hU hA hq
            by_cases hjt : j < l.length
            · have hjt' : (j : Int) < (l.length : Nat) := by omega
              obtain ⟨g3, o3, rfl, -, -⟩ := HX.out.some_of (by rw [zv_length]; omega)
              have hc := (HX.out.grow (Aft.trans HL.out.aft HA.out)).num_at hjt
              have hfs := frm_succ hjt
              obtain ⟨p1, p2⟩ := HSp.out (j + 1) hjt
              obtain ⟨q1, hq1⟩ : ∃ q1 : Nat, frm l (j + 1) = (q1 : Int) := ⟨(frm l (j + 1)).toNat, by omega⟩
              have HQ1 := Lib.hid hq1
              have hsm : (q : Int) + l.getD j 0 = (q1 : Int) := by have := HQ.out; omega
              have hq1l : q1 < F.length := by omega
              have hq1i : (q1 : Int) < (F.length : Nat) := by omega
              obtain ⟨g4, o4, rfl, -, -⟩ := HR.out.some_of (by rw [zv_length]; omega)
              have hc4 := (HR.out.grow HA.out).num_at hq1l
              have HSn := Lib.hid (show (spF l F).take (j + 1 + 1) = (spF l F).take (j + 1) ++ [F.getD q1 0] by rw [spF_snoc hjt, hq1, Int.toNat_natCast])
              have HUl := Lib.hid (show ((spF l F).take (j + 1)).length = j + 1 by rw [List.length_take, spF_length]; omega)
              have hqm : (q1 : Int) ≤ 1048576 := by omega
              have hjm : (j : Int) < 1048576 := by omega
              have hw : wrap64 ((q : Int) + l.getD j 0) = (q1 : Int) := by rw [hsm]; unfold wrap64; omega
              clear hfs p1 p2 hq1 hsm
              generalize l.getD j 0 = y at *
              generalize F.getD q1 0 = z at *
              generalize hxq : (spF l F).take (j + 1) = xs at *
              clear hxq
              have hxl := HUl.out
              go_wp2_with (first | (refine wpList_dstT 68 rfl ?_; refine wpList_intSlice (by kernel_rfl) (.tmp 67) z rfl rfl ?_; intro wJ k1 k2; have HG := Lib.hid k2.out; have HAj := Lib.hid (Aft.trans HA.out k1); have HUj := Lib.hid (HU.out.aft k1); have HSj := Lib.hid (Nat.le_of_lt (heap_lt k2.out)); clear k1 k2 hc hc4) | (at_builtin; refine wpList_snocI rfl (.tmp 63) (.tmp 68) rfl W6.heap.size _ xs rfl HUj.out wr.heap.size z rfl HG.out (by omega) (Nat.le_trans HA.out.size HSj.out) ?_; intro g9 c9 w9 k1 k2 k3; have HU9 := Lib.hid k1.out; have HA9 := Lib.hid (aft_fr HAj.out HUj.out (Nat.le_refl _) k2.out); clear k1 k2 k3))
              go_roundw
              case rel => exact ⟨j + 1, q1, g9, c9, by omega, by go_num, rfl, HQ1.out.symm, rfl, (by rw [HSn.out]; have h := HU9.out; rwa [HUl.out] at h), HA9.out⟩
              case measure => simp [intOf]; omega
            · obtain rfl : j = l.length := by omega
              have hjt' : ¬ ((l.length : Nat) : Int) < (l.length : Nat) := by omega
              have hFl : (spF l F).length = l.length + 1 := spF_length l F
              replace HU := Lib.hid (show OwnI wr W6.heap.size (.slice (some ⟨g, 0, none⟩) (l.length + 1) c) (spF l F) from by
                have h := HU.out
                rwa [List.take_of_length_le (by rw [hFl]; exact Nat.le_refl _)] at h)
              have HR2 := Lib.hid (HU.out.rd)
              have HL2 := Lib.hid (HL.out.call HA.out)
              have HFr2 := Lib.hid (fro_step HFr.out H23.out HSm.out)
              have HF2 := Lib.hid (show spF l F = spanL ids.length (ls.take (k + 1)) by rw [HTk.out, spanL_snoc, ← HF.out])
              clear HL HU HFr
              go_wp2_with fail
              go_roundw
              case rel => exact ⟨k + 1, l.length, spF l F, _, _, by omega, by go_num, by rw [hFl], HF2.out, by rw [hFl]; exact HR2.out, HFr2.out, HOr.out, hfv, HL2.out⟩
              case measure => simp [intOf]; omega
        · obtain rfl : k = K + 1 := by omega
          have hlt' : ¬ ((K : Int) + 1) < (K : Int) + 1 := by omega
          go_wp2_with fail
          go_ret2
          exact ⟨_, by rw [HE.out]; rfl, by rw [HV.out, ← HF.out]; exact HR.out, HL.out.aft⟩
end Go.Proofs.Ytpnckphfjcnooaa
