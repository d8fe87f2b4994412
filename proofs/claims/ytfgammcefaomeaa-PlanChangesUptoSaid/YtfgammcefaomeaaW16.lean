/- coterieref10.Delete. -/
import Derived.Test.YtfgammcefaomeaaW15
import Derived.Test.YtfgammcefaomeaaW9
import Derived.Test.YtfgammcefaomeaaW3
import Derived.Test.YtfgammcefaomeaaT16
namespace Go.Proofs.Ytfgammcefaomeaa
open Go Go.RowKit
set_option linter.unusedSimpArgs false
theorem nds_topD {ids : List Int} {ls : List (List Int)} {w w' : World} {e : Ending} {n : Nat} (h : NdsSays ids ls w e w') (hn : ls.length = n) (hok : OkT ids ls) (h0 : 0 < ids.length) :
    ∃ v, ∃ t : NT n, ∃ k, e = .returned v ∧ RdF n w' (fun _ => True) v [(t, k)] ∧ idsF n [t] = ids ∧ lvF n [t] = ls ∧ wfT n t ∧ Aft w w' := by
  subst hn
  obtain ⟨v, ps, rfl, hr, hn, ha⟩ := h
  obtain ⟨t, k, rfl, h1, h2, h3⟩ := nds_top hn hok h0
  exact ⟨v, t, k, rfl, hr.mono (fun _ _ _ => trivial), h1, h2, h3, ha⟩
theorem okLv_two {n : Int} {ls : List (List Int)} (h : okLv n ls = true) (h2 : 2 ≤ n) : ∃ d, ls.length = d + 1 := by
  rcases ls with _ | ⟨l, ls⟩
  · have h : n ≤ 1 := by simpa [okLv] using h
    omega
  · exact ⟨ls.length, rfl⟩
theorem okLv_one {ls : List (List Int)} (h : okLv 1 ls = true) : ls = [] := by
  rcases ls with _ | ⟨l, ls⟩
  · rfl
  · have := (okLv_cons h).1
    omega
set_option maxRecDepth 100000 in
set_option maxHeartbeats 8000000 in
theorem rdelete_any (vi vl : Value) (ids : List Int) (ls : List (List Int)) (id : Int) (w : World) (hi : Rd w vi (zv ids)) (hl : RdLs w vl ls) (hs : Small ids ls) :
    Calls Try.prog 44 #[.agg (shpL vi vl).toArray, .int .i64 id] w (DelSays ids ls id w) := by
  have HCk := Lib.hid (fun (wx : World) (ha : Aft w wx) => rcheck_any vi vl ids ls wx (hi.grow ha) (hl.aft ha) hs)
  have HFd := Lib.hid (fun (wx : World) (ha : Aft w wx) => rfind_any vi vl ids id wx (hi.grow ha) hs.fi)
  have HNd := Lib.hid (fun (hok : OkT ids ls) (wx : World) (ha : Aft w wx) => rNodesT_any vi vl ids ls wx (hi.grow ha) (hl.aft ha) hok)
  have HS := Lib.hid hs
  obtain ⟨ao, cap, rfl, -, -⟩ := hi.numS
  obtain ⟨bo, dap, rfl, -⟩ := hl.shape
  have HL := Lib.hid (Led.start w)
  clear hi hl hs
  go_enter Try.func44, Try.ntmps44
  go_wp2_with (first | (refine wpList_boxO rfl 25 (.tmp 0) rfl (.agg (shpL (.slice ao ids.length cap) (.slice bo ls.length dap)).toArray) rfl (.cells (shpL (.slice ao ids.length cap) (.slice bo ls.length dap)).toArray 25) (box_shp _) ?_; intro wB aa gg zz; replace HL := Lib.hid (HL.out.alloc aa gg.out); clear aa gg zz; try simp only [List.nil_append, List.cons_append, List.set_cons_zero, List.set_cons_succ] at HL) | (refine wpList_allocO rfl 25 rfl (.cells (shpL (.slice none 0 0) (.slice none 0 0)).toArray 25) alloc_shp ?_; intro w' aa gg zz; replace HL := Lib.hid (HL.out.alloc aa gg.out); clear aa gg zz; try simp only [List.nil_append, List.cons_append, List.set_cons_zero, List.set_cons_succ] at HL) | (refine wpList_load_rowG (by kernel_rfl) 25 (.tmp 2) rfl _ rfl _ _ _ _ (HL.out.get 0 rfl) Try.underlying25 rfl (shp_info _ _) ?_))
  refine (HCk.out _ HL.out.aft).mono ?_
  rintro e w2 ⟨rfl, h2⟩
  replace HL := Lib.hid (HL.out.call h2)
  clear h2 HCk
  by_cases hok : OkT ids ls
  rotate_left
  · have HE := Lib.hid (show delE ids ls id = 1 from if_pos hok)
    rw [chk_bad hok]
    go_wp2_with (first | (refine wpList_buildO (by kernel_rfl) 25 #[] rfl #[] (by kernel_rfl) _ (build_shp0) ?_) | (refine wpList_store_shp rfl (.tmp 4) (.tmp 12) _ _ _ (.slice none 0 0) (.slice none 0 0) rfl rfl rfl rfl rfl (HL.out.get 1 rfl) ?_; intro w3 b1 b2 b3; replace HL := Lib.hid (HL.out.store 1 rfl b1 b2 b3); clear b1 b2 b3; try simp only [List.nil_append, List.cons_append, List.set_cons_zero, List.set_cons_succ] at HL))
    refine bodyPost_ret (results_cell_tmp rfl _ _ _ 25 _ (0, 0) _ rfl (HL.out.get 1 rfl) Try.underlying25 rfl (shp_info _ _)) rfl ?_
    exact DelSays.bad HE.out (by decide) HL.out.aft
  rw [chkT_zero.2 hok]
  have HId := Lib.hid (show delE ids ls id = if id ∈ ids then 0 else 6 from if_neg fun q => q hok)
  have HOk := Lib.hid hok
  clear hok
  go_wp2_with (first | (refine wpList_load_rowG (by kernel_rfl) 25 (.tmp 2) rfl _ rfl _ _ _ _ (HL.out.get 0 rfl) Try.underlying25 rfl (shp_info _ _) ?_))
  refine (HFd.out _ HL.out.aft).mono ?_
  rintro e w3 ⟨rfl, h3⟩
  replace HL := Lib.hid (HL.out.call h3)
  clear h3 HFd
  by_cases hin : id ∈ ids
  rotate_left
  · have HE := Lib.hid (show delE ids ls id = 6 by rw [HId.out, if_neg hin])
    rw [decide_eq_false hin]
    clear hin
    go_wp2_with (first | (refine wpList_buildO (by kernel_rfl) 25 #[] rfl #[] (by kernel_rfl) _ (build_shp0) ?_) | (refine wpList_store_shp rfl (.tmp 4) (.tmp 21) _ _ _ (.slice none 0 0) (.slice none 0 0) rfl rfl rfl rfl rfl (HL.out.get 1 rfl) ?_; intro w3 b1 b2 b3; replace HL := Lib.hid (HL.out.store 1 rfl b1 b2 b3); clear b1 b2 b3; try simp only [List.nil_append, List.cons_append, List.set_cons_zero, List.set_cons_succ] at HL))
    refine bodyPost_ret (results_cell_tmp rfl _ _ _ 25 _ (0, 0) _ rfl (HL.out.get 1 rfl) Try.underlying25 rfl (shp_info _ _)) rfl ?_
    exact DelSays.bad HE.out (by decide) HL.out.aft
  rw [decide_eq_true hin]
  have HE := Lib.hid (show delE ids ls id = 0 by rw [HId.out, if_pos hin])
  have HIn := Lib.hid hin
  have hi0 := shp_i (HL.out.get 0 rfl)
  have HI := Lib.hid (show delIds ids ls id = delI ids id from if_pos HE.out)
  have HV := Lib.hid (show delLv ids ls id = delL ls (cnt ids id : Nat) from if_pos HE.out)
  have HP := Lib.hid (show 0 < ids.length from List.length_pos_of_mem hin)
  clear hin
  by_cases h1 : ids.length = 1
  · have hone : ((ids.length : Nat) : Int) = 1 := by omega
    have HZ := Lib.hid (show delI ids id = [] ∧ delL ls (cnt ids id : Nat) = [] by
      have h2 := delI_length HOk.out.1.2.2 HIn.out
      have h3 := HOk.out.2
      rw [h1] at h3
      rw [okLv_one h3]
      exact ⟨List.length_eq_zero_iff.1 (by omega), rfl⟩)
    clear h1
    go_wp2_with (first | (refine wpList_buildO (by kernel_rfl) 25 #[] rfl #[] (by kernel_rfl) _ (build_shp0) ?_) | (refine wpList_store_shp rfl (.tmp 4) (.tmp 26) _ _ _ (.slice none 0 0) (.slice none 0 0) rfl rfl rfl rfl rfl (HL.out.get 1 rfl) ?_; intro w3 b1 b2 b3; replace HL := Lib.hid (HL.out.store 1 rfl b1 b2 b3); clear b1 b2 b3; try simp only [List.nil_append, List.cons_append, List.set_cons_zero, List.set_cons_succ] at HL))
    refine bodyPost_ret (results_cell_tmp rfl _ _ _ 25 _ (0, 0) _ rfl (HL.out.get 1 rfl) Try.underlying25 rfl (shp_info _ _)) rfl ?_
    exact DelSays.good HE.out (HI.out.trans HZ.out.1) (HV.out.trans HZ.out.2) (OwnTr.nil _ _) HL.out.aft
  have hone : ¬ ((ids.length : Nat) : Int) = 1 := by omega
  obtain ⟨d, hd⟩ := okLv_two HOk.out.2 (by have := HP.out; omega)
  have HDl := Lib.hid hd
  have HLs := Lib.hid (show ls.length ≤ 1000 by have := (okLv_few ls ids.length (Int.natCast_nonneg _) HOk.out.2).1; have := HOk.out.1.1; omega)
  clear h1 hd
  go_wp2_with (first | (refine wpList_load_rowG (by kernel_rfl) 25 (.tmp 2) rfl _ rfl _ _ _ _ (HL.out.get 0 rfl) Try.underlying25 rfl (shp_info _ _) ?_))
  refine (HNd.out HOk.out _ HL.out.aft).mono ?_
  rintro e w4 hnds
  obtain ⟨v4, t, k, rfl, hr4, hti, htl, htw, h4⟩ := nds_topD hnds HDl.out HOk.out HP.out
  replace HL := Lib.hid (HL.out.call h4)
  obtain ⟨g, o, cp, rfl, -⟩ := hr4.nz (n := 1) rfl (by decide)
  have hrg := hr4.wat (i := 0) (by show 0 < 1; decide) (t, k) w4 (Aft.refl _)
  rw [Nat.zero_mul, Nat.add_zero] at hrg
  have HRg := Lib.hid (show w4.rangeAt g o (ndK (t, k)) from hrg)
  have HKd := Lib.hid (show Kd (d + 1) w4 (fun g => g < w4.heap.size) t k from (hr4.kid _ (List.mem_cons_self ..)).mono (fun g _ hl => hl))
  have HWt := Lib.hid (rwithout_any id d t k (fun g => g < w4.heap.size) w4 HKd.out htw (fun _ h => h))
  have HGo := Lib.hid (gone_ok id d t htw (by rw [hti]; exact HOk.out.1.2.2) (by rw [hti]; exact HIn.out))
  have hdoc := del_doc id d t htw (by rw [hti]; exact HOk.out.1.2.2) (by rw [hti]; exact HIn.out)
  rw [hti, htl] at hdoc
  have HD1 := Lib.hid hdoc.1
  have HD2 := Lib.hid hdoc.2
  have HIl := Lib.hid (show (delI ids id).length ≤ 1001 by have := delI_length HOk.out.1.2.2 HIn.out; have := HOk.out.1.1; omega)
  have HW23 := Lib.hid htw.1
  clear h4 hr4 hrg hti htl htw hnds HNd HId hone hi0 hdoc
  go_wp2_with (first | (refine wpList_load_mid2 (by kernel_rfl) 114 (.tmp 29) rfl _ _ rfl (ndK (t, k)) HRg.out _ Try.underlying114 rfl (rn_info2 _) ?_))
  refine HWt.out.mono ?_
  rintro e w5 ⟨k', rfl, hk', h5⟩
  replace HL := Lib.hid (HL.out.call h5)
  clear HWt h5
  obtain ⟨ka, kc, rfl⟩ := hk'.shape
  obtain ⟨n', hn'⟩ : ∃ n', n' = (kidsT (goneT id d t)).length := ⟨_, rfl⟩
  have HNe := Lib.hid hn'
  rw [← hn'] at hk' ⊢
  clear hn'
  have HK' := Lib.hid (show Kd (d + 1) w5 (fun x => x ≠ w5.heap.size) (goneT id d t) (.slice ka n' kc) from hk'.mono (fun x _ hl => Nat.ne_of_lt hl))
  have HOne := Lib.hid hk'.one
  obtain ⟨s8, hs8⟩ : ∃ s8, s8 = w5.heap.size := ⟨_, rfl⟩
  clear hk'
  by_cases h1 : n' = 1
  · have hn1 : ((n' : Nat) : Int) = 1 := by omega
    obtain ⟨ks, hks, hrk⟩ := HK'.out.rdF
    obtain ⟨q, rfl⟩ := fst_one hks (by rw [← HNe.out]; exact h1)
    obtain ⟨gk, ok, ck, he, -⟩ := hrk.nz (n := 1) rfl (by decide)
    injection he with e1 e2 e3
    subst e1 e3
    have HRk := Lib.hid hrk
    have HOq := Lib.hid (show (ndK q).toArray.all (·.oneCell') = true from (hrk.kid _ (List.mem_cons_self ..)).one)
    have HD := Lib.hid (HD2.out (by rw [← HNe.out]; exact h1))
    have HWq := Lib.hid (show wfT d q.1 from HGo.out.wf _ (by rw [← hks]; exact List.mem_cons_self ..))
    have HQ1 := Lib.hid (show (kidsT (goneT id d t)).getD 0 (dfT d) = q.1 by rw [← hks]; rfl)
    rw [HQ1.out] at HD
    clear hks hrk h1 e2
    go_wp2_with (first | (refine wpList_allocO rfl 114 rfl (.cells [.int .i64 0, .slice none 0 0].toArray 114) alloc_rn ?_; intro w6 aa gg zz; have HK6 := Lib.hid (HRk.out.aft aa); replace HL := Lib.hid (HL.out.alloc aa gg.out); clear aa gg zz; try simp only [List.nil_append, List.cons_append, List.set_cons_zero, List.set_cons_succ] at HL) | (refine wpList_store_rowZ rfl 114 (.tmp 8) (.tmp 32) rfl _ (ndK (goneT id d t, Value.slice (some ⟨gk, ok, none⟩) n' kc)).toArray rfl rfl _ _ (HL.out.get 2 rfl) (rn_info _) rfl HOne.out ?_; intro w7 q1 q2 q3; have HK7 := Lib.hid (HK6.out.keep (fun x hx _ => q2.out x hx) (q3 0 _ (Nat.zero_le _) (Below.refl 0 _)).size); replace HL := Lib.hid (HL.out.store 2 rfl q1 q2 q3); clear q1 q2 q3; (try simp only [List.nil_append, List.cons_append, List.set_cons_zero, List.set_cons_succ] at HL); have hc8 := cell_part (n := 1) (HL.out.get 2 rfl) (show _ = some (Value.slice (some ⟨gk, ok, none⟩) n' kc) from rfl); have f7 := HK7.out.wat (i := 0) (by show 0 < 1; decide) q w7 (Aft.refl _); rw [Nat.zero_mul, Nat.add_zero] at f7; have HF7 := Lib.hid (show w7.rangeAt gk ok (ndK q) from f7); clear f7) | (refine wpList_load_mid2 (by kernel_rfl) 114 (.tmp 39) rfl _ _ rfl (ndK q) HF7.out _ Try.underlying114 rfl (rn_info2 _) ?_) | (refine wpList_store_rowZ rfl 114 (.tmp 8) (.tmp 40) rfl _ (ndK q).toArray rfl rfl _ _ (HL.out.get 2 rfl) (rn_info _) rfl HOq.out ?_; intro w8 q1 q2 q3; have HK8 := Lib.hid (HK7.out.keep (fun x hx _ => q2.out x hx) (q3 0 _ (Nat.zero_le _) (Below.refl 0 _)).size); replace HL := Lib.hid (HL.out.store 2 rfl q1 q2 q3); clear q1 q2 q3 hc8; (try simp only [List.nil_append, List.cons_append, List.set_cons_zero, List.set_cons_succ] at HL)) | (refine wpList_load_rowG (by kernel_rfl) 114 (.tmp 8) rfl _ rfl _ _ _ _ (HL.out.get 2 rfl) Try.underlying114 rfl (rn_info q) ?_) | (refine wpList_rn1 (by kernel_rfl) (.tmp 41) (idT d q.1) q.2 rfl rfl ?_; intro wR aR gR; replace HL := Lib.hid (HL.out.call aR); have HR := Lib.hid (show RdF d wR (fun _ => True) (.slice (some ⟨w8.heap.size, 0, none⟩) 1 1) [q] from (OwnF.blk (base := 0) (ps := [q]) gR.out (Nat.zero_le _) (by show 1 ≤ 1000; decide) (fun p hp => by obtain rfl := List.mem_singleton.1 hp; exact (HK8.out.kid _ (List.mem_cons_self ..)).aft aR)).rd.mono (fun _ _ _ => trivial)); clear aR gR))
    refine (rOf_any d _ [q] wR HR.out (fun p hp => by
      obtain rfl := List.mem_singleton.1 hp
      exact HWq.out) (by show 0 < 1; decide) (by
      show (idsF d [q.1]).length ≤ 1001
      rw [HD.out.1]
      exact HIl.out) (by have := HLs.out; have := HDl.out; omega)).mono ?_
    rintro e w9 ⟨vi, vl, vs, rfl, hT, h6⟩
    have HT := Lib.hid (hT.mono (Below.size HL.out.aft))
    obtain ⟨a1, c1, b1, d1, rfl, rfl⟩ := hT.shape
    replace HL := Lib.hid (HL.out.call h6)
    clear hT h6
    generalize hI1 : idsF d (List.map Prod.fst [q]) = ids' at *
    generalize hI2 : lvF d (List.map Prod.fst [q]) = ls' at *
    have HJ1 := Lib.hid (show delIds ids ls id = ids' from (HI.out.trans HD.out.1.symm).trans hI1)
    have HJ2 := Lib.hid (show delLv ids ls id = ls' from (HV.out.trans HD.out.2.symm).trans hI2)
    clear hI1 hI2
    go_wp2_with (first | (refine wpList_store_shp rfl (.tmp 4) (.tmp 43) _ _ _ (.slice a1 ids'.length c1) (.slice b1 ls'.length d1) rfl rfl rfl rfl rfl (HL.out.get 1 rfl) ?_; intro w10 b1 b2 b3; replace HT := Lib.hid (HT.out.stored (HL.out.get 1 rfl) (by decide) (by decide) b2.out); replace HL := Lib.hid (HL.out.store 1 rfl b1 b2 b3); clear b1 b2 b3; try simp only [List.nil_append, List.cons_append, List.set_cons_zero, List.set_cons_succ] at HL))
    refine bodyPost_ret (results_cell_tmp rfl _ _ _ 25 _ (0, 0) _ rfl (HL.out.get 1 rfl) Try.underlying25 rfl (shp_info _ _)) rfl ?_
    exact DelSays.good HE.out HJ1.out HJ2.out HT.out HL.out.aft
  · have hn1 : ¬ ((n' : Nat) : Int) = 1 := by omega
    have HD := Lib.hid (HD1.out (by rw [← HNe.out]; exact h1))
    have HN1 := Lib.hid h1
    clear h1
    go_wp2_with (first | (refine wpList_allocO rfl 114 rfl (.cells [.int .i64 0, .slice none 0 0].toArray 114) alloc_rn ?_; intro w6 aa gg zz; have HK6 := Lib.hid (HK'.out.aft aa); replace HL := Lib.hid (HL.out.alloc aa gg.out); clear aa gg zz; try simp only [List.nil_append, List.cons_append, List.set_cons_zero, List.set_cons_succ] at HL) | (refine wpList_store_rowZ rfl 114 (.tmp 8) (.tmp 32) rfl _ (ndK (goneT id d t, Value.slice ka n' kc)).toArray rfl rfl _ _ (HL.out.get 2 rfl) (rn_info _) rfl HOne.out ?_; intro w7 q1 q2 q3; have HK7 := Lib.hid (HK6.out.keep (fun x hx _ => q2.out x hx) (q3 0 _ (Nat.zero_le _) (Below.refl 0 _)).size); replace HL := Lib.hid (HL.out.store 2 rfl q1 q2 q3); clear q1 q2 q3; (try simp only [List.nil_append, List.cons_append, List.set_cons_zero, List.set_cons_succ] at HL); have hc8 := cell_part (n := 1) (HL.out.get 2 rfl) (show _ = some (Value.slice ka n' kc) from rfl)) | (refine wpList_load_rowG (by kernel_rfl) 114 (.tmp 8) rfl _ rfl _ _ _ _ (HL.out.get 2 rfl) Try.underlying114 rfl (rn_info (goneT id d t, Value.slice ka n' kc)) ?_) | (refine wpList_rn1 (by kernel_rfl) (.tmp 41) 0 (.slice ka n' kc) rfl rfl ?_; intro wR aR gR; replace HL := Lib.hid (HL.out.call aR); have HR := Lib.hid (show RdF (d + 1) wR (fun _ => True) (.slice (some ⟨w7.heap.size, 0, none⟩) 1 1) [(goneT id d t, .slice ka n' kc)] from (OwnF.blk (base := 0) (ps := [(goneT id d t, .slice ka n' kc)]) gR.out (Nat.zero_le _) (by show 1 ≤ 1000; decide) (fun p hp => by obtain rfl := List.mem_singleton.1 hp; exact HK7.out.aft aR)).rd.mono (fun _ _ _ => trivial)); clear aR gR hc8))
    refine (rOf_any (d + 1) _ [(goneT id d t, .slice ka n' kc)] wR HR.out (fun p hp => by
      obtain rfl := List.mem_singleton.1 hp
      refine ⟨?_, HGo.out.wf⟩
      have h1 := HGo.out.len
      have h2 := HW23.out
      have h3 := HN1.out
      have h4 := HNe.out
      show (kidsT (goneT id d t)).length = 2 ∨ (kidsT (goneT id d t)).length = 3
      omega) (by show 0 < 1; decide) (by
      show (idsF (d + 1) [goneT id d t]).length ≤ 1001
      rw [HD.out.1]
      exact HIl.out) (by have := HLs.out; have := HDl.out; omega)).mono ?_
    rintro e w9 ⟨vi, vl, vs, rfl, hT, h6⟩
    have HT := Lib.hid (hT.mono (Below.size HL.out.aft))
    obtain ⟨a1, c1, b1, d1, rfl, rfl⟩ := hT.shape
    replace HL := Lib.hid (HL.out.call h6)
    clear hT h6
    generalize hI1 : idsF (d + 1) (List.map Prod.fst [(goneT id d t, Value.slice ka n' kc)]) = ids' at *
    generalize hI2 : lvF (d + 1) (List.map Prod.fst [(goneT id d t, Value.slice ka n' kc)]) = ls' at *
    have HJ1 := Lib.hid (show delIds ids ls id = ids' from (HI.out.trans HD.out.1.symm).trans hI1)
    have HJ2 := Lib.hid (show delLv ids ls id = ls' from (HV.out.trans HD.out.2.symm).trans hI2)
    clear hI1 hI2
    go_wp2_with (first | (refine wpList_store_shp rfl (.tmp 4) (.tmp 43) _ _ _ (.slice a1 ids'.length c1) (.slice b1 ls'.length d1) rfl rfl rfl rfl rfl (HL.out.get 1 rfl) ?_; intro w10 b1 b2 b3; replace HT := Lib.hid (HT.out.stored (HL.out.get 1 rfl) (by decide) (by decide) b2.out); replace HL := Lib.hid (HL.out.store 1 rfl b1 b2 b3); clear b1 b2 b3; try simp only [List.nil_append, List.cons_append, List.set_cons_zero, List.set_cons_succ] at HL))
    refine bodyPost_ret (results_cell_tmp rfl _ _ _ 25 _ (0, 0) _ rfl (HL.out.get 1 rfl) Try.underlying25 rfl (shp_info _ _)) rfl ?_
    exact DelSays.good HE.out HJ1.out HJ2.out HT.out HL.out.aft
end Go.Proofs.Ytfgammcefaomeaa
