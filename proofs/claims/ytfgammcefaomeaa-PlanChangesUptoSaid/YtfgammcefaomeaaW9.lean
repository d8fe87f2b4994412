/- coterieref10.Insert. -/
import Derived.Test.YtfgammcefaomeaaW8
import Derived.Test.YtfgammcefaomeaaW6
import Derived.Test.YtfgammcefaomeaaW7
import Derived.Test.YtfgammcefaomeaaB3
import Derived.Test.YtfgammcefaomeaaT18
import Derived.Test.YtfgammcefaomeaaW1
namespace Go.Proofs.Ytfgammcefaomeaa
open Go Go.RowKit
set_option linter.unusedSimpArgs false
theorem top_one : ∀ (ls : List (List Int)) (n : Nat), 0 < n → okLv n ls = true → cntN n ls ls.length = 1
  | [], n, h0, h => by
    have h : (n : Int) ≤ 1 := by simpa [okLv] using h
    show n = 1
    omega
  | l :: ls, n, h0, h => by
    obtain ⟨k1, k2, k3, k4⟩ := okLv_cons h
    rw [List.length_cons, cntN_cons]
    refine top_one ls l.length ?_ k4
    rcases l with _ | ⟨x, l⟩
    · simp only [List.sum_nil] at k3
      omega
    · exact Nat.succ_pos _
/-- The one node that has all below it. -/
theorem nds_top {ids : List Int} {ls : List (List Int)} {ps : List (NT ls.length × Value)} (h : NdsOk ids ls ls.length (ps.map Prod.fst)) (hok : OkT ids ls) (h0 : 0 < ids.length) : ∃ t k, ps = [(t, k)] ∧ idsF ls.length [t] = ids ∧ lvF ls.length [t] = ls ∧ wfT ls.length t := by
  have h1 := h.hlen
  rw [top_one ls ids.length h0 hok.2, List.length_map] at h1
  match ps, h1, h with
  | [(t, k)], _, h =>
    refine ⟨t, k, rfl, h.hids, ?_, h.hwf t (List.mem_cons_self ..)⟩
    have := h.hlv
    rwa [List.take_length] at this
theorem build_shpI (ao : Option Addr) (n c : Nat) (w : World) : (Instr.build 25 #[(0, .slice ao n c)]).run Try.prog w = .ok (.agg (shpL (.slice ao n c) (.slice none 0 0)).toArray) w := by kernel_rfl
set_option maxRecDepth 100000 in
set_option maxHeartbeats 8000000 in
theorem rinsert_any (vi vl : Value) (ids : List Int) (ls : List (List Int)) (id : Int) (w : World) (hi : Rd w vi (zv ids)) (hl : RdLs w vl ls) (hs : Small ids ls) :
    Calls Try.prog 45 #[.agg (shpL vi vl).toArray, .int .i64 id] w (InsSays ids ls id w) := by
  have HCk := Lib.hid (fun (wx : World) (ha : Aft w wx) => rcheck_any vi vl ids ls wx (hi.grow ha) (hl.aft ha) hs)
  have HFd := Lib.hid (fun (wx : World) (ha : Aft w wx) => rfind_any vi vl ids id wx (hi.grow ha) hs.fi)
  have HNd := Lib.hid (fun (hok : OkT ids ls) (wx : World) (ha : Aft w wx) => rNodesT_any vi vl ids ls wx (hi.grow ha) (hl.aft ha) hok)
  have HS := Lib.hid hs
  obtain ⟨ao, cap, rfl, -, -⟩ := hi.numS
  obtain ⟨bo, dap, rfl, -⟩ := hl.shape
  have HL := Lib.hid (Led.start w)
  clear hi hl hs
  go_enter Try.func45, Try.ntmps45
  go_wp2_with (first | (refine wpList_boxO rfl 25 (.tmp 0) rfl (.agg (shpL (.slice ao ids.length cap) (.slice bo ls.length dap)).toArray) rfl (.cells (shpL (.slice ao ids.length cap) (.slice bo ls.length dap)).toArray 25) (box_shp _) ?_; intro wB aa gg zz; replace HL := Lib.hid (HL.out.alloc aa gg.out); clear aa gg zz; try simp only [List.nil_append, List.cons_append, List.set_cons_zero, List.set_cons_succ] at HL) | (refine wpList_allocO rfl 25 rfl (.cells (shpL (.slice none 0 0) (.slice none 0 0)).toArray 25) alloc_shp ?_; intro w' aa gg zz; replace HL := Lib.hid (HL.out.alloc aa gg.out); clear aa gg zz; try simp only [List.nil_append, List.cons_append, List.set_cons_zero, List.set_cons_succ] at HL) | (refine wpList_load_rowG (by kernel_rfl) 25 (.tmp 2) rfl _ rfl _ _ _ _ (HL.out.get 0 rfl) Try.underlying25 rfl (shp_info _ _) ?_))
  refine (HCk.out _ HL.out.aft).mono ?_
  rintro e w2 ⟨rfl, h2⟩
  replace HL := Lib.hid (HL.out.call h2)
  clear h2 HCk
  by_cases hok : OkT ids ls
  rotate_left
  · have HE := Lib.hid (show insE ids ls id = 1 from if_pos (.inl hok))
    rw [chk_bad hok]
    go_wp2_with (first | (refine wpList_buildO (by kernel_rfl) 25 #[] rfl #[] (by kernel_rfl) _ (build_shp0) ?_) | (refine wpList_store_shp rfl (.tmp 4) (.tmp 20) _ _ _ (.slice none 0 0) (.slice none 0 0) rfl rfl rfl rfl rfl (HL.out.get 1 rfl) ?_; intro w3 b1 b2 b3; replace HL := Lib.hid (HL.out.store 1 rfl b1 b2 b3); clear b1 b2 b3; try simp only [List.nil_append, List.cons_append, List.set_cons_zero, List.set_cons_succ] at HL))
    refine bodyPost_ret (results_cell_tmp rfl _ _ _ 25 _ (0, 0) _ rfl (HL.out.get 1 rfl) Try.underlying25 rfl (shp_info _ _)) rfl ?_
    exact InsSays.bad HE.out (by decide) HL.out.aft
  rw [chkT_zero.2 hok]
  by_cases hid : id < 0 ∨ 1048576 < id
  · have HE := Lib.hid (show insE ids ls id = 1 from if_pos (.inr hid))
    have hn : ¬ id < 0 → 1048576 < id := fun q => by omega
    by_cases h0 : id < 0
    all_goals
      first | (have hn2 := hn h0) | skip
      clear hn hid
      go_wp2_with (first | (refine wpList_buildO (by kernel_rfl) 25 #[] rfl #[] (by kernel_rfl) _ (build_shp0) ?_) | (refine wpList_store_shp rfl (.tmp 4) (.tmp 20) _ _ _ (.slice none 0 0) (.slice none 0 0) rfl rfl rfl rfl rfl (HL.out.get 1 rfl) ?_; intro w3 b1 b2 b3; replace HL := Lib.hid (HL.out.store 1 rfl b1 b2 b3); clear b1 b2 b3; try simp only [List.nil_append, List.cons_append, List.set_cons_zero, List.set_cons_succ] at HL))
      refine bodyPost_ret (results_cell_tmp rfl _ _ _ 25 _ (0, 0) _ rfl (HL.out.get 1 rfl) Try.underlying25 rfl (shp_info _ _)) rfl ?_
      exact InsSays.bad HE.out (by decide) HL.out.aft
  have hid1 : ¬ id < 0 := fun q => hid (.inl q)
  have hid2 : ¬ 1048576 < id := fun q => hid (.inr q)
  have HId := Lib.hid (show insE ids ls id = if id ∈ ids then 7 else if ids.length = 1000 then 8 else 0 from if_neg (by
    rintro (q | q | q)
    · exact q hok
    · exact hid1 q
    · exact hid2 q))
  have HOk := Lib.hid hok
  clear hok hid
  go_wp2_with (first | (refine wpList_load_rowG (by kernel_rfl) 25 (.tmp 2) rfl _ rfl _ _ _ _ (HL.out.get 0 rfl) Try.underlying25 rfl (shp_info _ _) ?_))
  refine (HFd.out _ HL.out.aft).mono ?_
  rintro e w3 ⟨rfl, h3⟩
  replace HL := Lib.hid (HL.out.call h3)
  clear h3 HFd hid1 hid2
  by_cases hin : id ∈ ids
  · have HE := Lib.hid (show insE ids ls id = 7 by rw [HId.out, if_pos hin])
    rw [decide_eq_true hin]
    clear hin
    go_wp2_with (first | (refine wpList_buildO (by kernel_rfl) 25 #[] rfl #[] (by kernel_rfl) _ (build_shp0) ?_) | (refine wpList_store_shp rfl (.tmp 4) (.tmp 28) _ _ _ (.slice none 0 0) (.slice none 0 0) rfl rfl rfl rfl rfl (HL.out.get 1 rfl) ?_; intro w3 b1 b2 b3; replace HL := Lib.hid (HL.out.store 1 rfl b1 b2 b3); clear b1 b2 b3; try simp only [List.nil_append, List.cons_append, List.set_cons_zero, List.set_cons_succ] at HL))
    refine bodyPost_ret (results_cell_tmp rfl _ _ _ 25 _ (0, 0) _ rfl (HL.out.get 1 rfl) Try.underlying25 rfl (shp_info _ _)) rfl ?_
    exact InsSays.bad HE.out (by decide) HL.out.aft
  rw [decide_eq_false hin]
  have HNin := Lib.hid hin
  have hi0 := shp_i (HL.out.get 0 rfl)
  clear hin
  by_cases hfull : ids.length = 1000
  · have HE := Lib.hid (show insE ids ls id = 8 by rw [HId.out, if_neg HNin.out, if_pos hfull])
    have hfi : ((ids.length : Nat) : Int) = 1000 := by omega
    clear hfull
    go_wp2_with (first | (refine wpList_buildO (by kernel_rfl) 25 #[] rfl #[] (by kernel_rfl) _ (build_shp0) ?_) | (refine wpList_store_shp rfl (.tmp 4) (.tmp 33) _ _ _ (.slice none 0 0) (.slice none 0 0) rfl rfl rfl rfl rfl (HL.out.get 1 rfl) ?_; intro w3 b1 b2 b3; replace HL := Lib.hid (HL.out.store 1 rfl b1 b2 b3); clear b1 b2 b3; try simp only [List.nil_append, List.cons_append, List.set_cons_zero, List.set_cons_succ] at HL))
    refine bodyPost_ret (results_cell_tmp rfl _ _ _ 25 _ (0, 0) _ rfl (HL.out.get 1 rfl) Try.underlying25 rfl (shp_info _ _)) rfl ?_
    exact InsSays.bad HE.out (by decide) HL.out.aft
  have HE := Lib.hid (show insE ids ls id = 0 by rw [HId.out, if_neg HNin.out, if_neg hfull])
  have hfi : ¬ ((ids.length : Nat) : Int) = 1000 := by omega
  have HLt := Lib.hid (show ids.length < 1000 by have := HOk.out.1.1; omega)
  have HI := Lib.hid (ins_ok HE.out).2
  clear hfull
  by_cases h0 : ids.length = 0
  · have hone : ((ids.length : Nat) : Int) = 0 := by omega
    have HV := Lib.hid (show insLv ids ls id = ls from (if_pos HE.out).trans (if_pos h0))
    have HZ := Lib.hid (show insI ids id = [id] ∧ ls = [] by
      have h1 := HOk.out.2
      rw [h0] at h1
      have h2 := okLv_zero h1
      have h3 : ids = [] := List.length_eq_zero_iff.1 h0
      rw [h3]
      exact ⟨rfl, h2⟩)
    clear h0
    go_wp2_with (first | (refine wpList_intSlice (by kernel_rfl) (.tmp 38) id rfl rfl ?_; intro wE aB gB; have HO := Lib.hid (one_own gB.out (Below.size HL.out.aft)); have HNe := Lib.hid (Below.size HL.out.aft); replace HL := Lib.hid (HL.out.call aB); clear aB gB) | (refine wpList_buildO (by kernel_rfl) 25 #[(0, .tmp 39)] rfl #[(0, .slice (some ⟨w3.heap.size, 0, none⟩) 1 1)] rfl _ (build_shpI (some ⟨w3.heap.size, 0, none⟩) 1 1) ?_) | (refine wpList_store_shp rfl (.tmp 4) (.tmp 40) _ _ _ (.slice (some ⟨w3.heap.size, 0, none⟩) 1 1) (.slice none 0 0) rfl rfl rfl rfl rfl (HL.out.get 1 rfl) ?_; intro w9 b1 b2 b3; replace HO := Lib.hid (HO.out.storedK (HL.out.get 1 rfl) (by decide) b2.out); replace HL := Lib.hid (HL.out.store 1 rfl b1 b2 b3); clear b1 b2 b3; try simp only [List.nil_append, List.cons_append, List.set_cons_zero, List.set_cons_succ] at HL))
    refine bodyPost_ret (results_cell_tmp rfl _ _ _ 25 _ (0, 0) _ rfl (HL.out.get 1 rfl) Try.underlying25 rfl (shp_info _ _)) rfl ?_
    exact InsSays.good HE.out HI.out HV.out (by rw [HZ.out.1, HZ.out.2]; exact ⟨HO.out, (OwnTr.nil _ _).lv, fun i u g hu => by simp at hu⟩) HL.out.aft
  have hone : ¬ ((ids.length : Nat) : Int) = 0 := by omega
  have HP := Lib.hid (show 0 < ids.length by omega)
  have HV := Lib.hid (show insLv ids ls id = insL ls (nxt ids id : Nat) from (if_pos HE.out).trans (if_neg h0))
  clear h0
  go_wp2_with (first | (refine wpList_load_rowG (by kernel_rfl) 25 (.tmp 2) rfl _ rfl _ _ _ _ (HL.out.get 0 rfl) Try.underlying25 rfl (shp_info _ _) ?_))
  refine (HNd.out HOk.out _ HL.out.aft).mono ?_
  rintro e w4 ⟨v4, ps, rfl, hr4, hn4, h4⟩
  have HSz := Lib.hid (Below.size HL.out.aft)
  replace HL := Lib.hid (HL.out.call h4)
  obtain ⟨t, k, rfl, hti, htl, htw⟩ := nds_top hn4 HOk.out HP.out
  obtain ⟨g, o, cp, rfl, -, hrg, hkd⟩ := hr4.at (i := 0) (by show 0 < 1; decide) (t, k)
  have HRg := Lib.hid (hrg w4 (Aft.refl _))
  have HKd := Lib.hid (show Kd ls.length w4 (fun g => g < w4.heap.size) t k from hkd.mono (fun g _ hl => hl))
  have HWt := Lib.hid (rwith_any id ls.length t k (fun g => g < w4.heap.size) w4 HKd.out htw (fun _ h => h))
  have HTi := Lib.hid hti
  have HTl := Lib.hid htl
  have HTw := Lib.hid htw
  rw [Nat.zero_mul, Nat.add_zero] at HRg
  clear h4 hr4 hn4 hrg hkd hti htl htw
  go_wp2_with (first | (refine wpList_load_mid2 (by kernel_rfl) 114 (.tmp 43) rfl _ _ rfl (ndK (t, k)) HRg.out _ Try.underlying114 rfl (rn_info2 _) ?_))
  refine HWt.out.mono ?_
  rintro e w5 ⟨v5, qs, rfl, hq, hqt, h5⟩
  replace HL := Lib.hid (HL.out.call h5)
  have HQ := Lib.hid (show RdF ls.length w5 (fun _ => True) v5 qs from hq.rd.mono (fun _ _ _ => trivial))
  have HQt := Lib.hid hqt
  obtain ⟨qa, qc, rfl⟩ := hq.shape
  have hww := with_wf id ls.length t HTw.out
  rw [← hqt] at hww
  have HWw := Lib.hid hww.1
  have hdoc := ins_doc id ls.length t HTw.out (by rw [HTi.out]; exact HOk.out.1.2.2) (by rw [HTi.out]; exact HNin.out)
  rw [← hqt, HTi.out, HTl.out] at hdoc
  have hq12 := hww.2
  have HD1 := Lib.hid hdoc.1
  have HD2 := Lib.hid hdoc.2
  have HIl := Lib.hid (show (insI ids id).length ≤ 1001 by rw [insI_length]; have := HLt.out; omega)
  have HLs := Lib.hid (show ls.length ≤ 999 by have := (okLv_few ls ids.length (Int.natCast_nonneg _) HOk.out.2).1; have := HLt.out; omega)
  rw [List.length_map] at hq12
  clear HWt HKd HRg h5 hq hqt hww hdoc HNd HId hone hi0 hfi
  by_cases h2 : qs.length = 2
  · have h2' : ((qs.length : Nat) : Int) = 2 := by omega
    have HD := Lib.hid (HD2.out (by rw [List.length_map]; exact h2))
    have HL2 := Lib.hid h2
    clear h2 hq12
    go_wp2_with (first | (refine wpList_rn1 (by kernel_rfl) (.tmp 51) 0 (.slice qa qs.length qc) rfl rfl ?_; intro wR aR gR; replace HL := Lib.hid (HL.out.call aR); have HR := Lib.hid (show RdF (ls.length + 1) wR (fun _ => True) (.slice (some ⟨w5.heap.size, 0, none⟩) 1 1) [(grpT (qs.map Prod.fst), .slice qa qs.length qc)] from (OwnF.blk (base := 0) (ps := [(grpT (qs.map Prod.fst), .slice qa qs.length qc)]) gR.out (Nat.zero_le _) (by show 1 ≤ 1000; decide) (fun p hp => by obtain rfl := List.mem_singleton.1 hp; exact (HQ.out.aft aR).kd)).rd.mono (fun _ _ _ => trivial)); clear aR gR))
    refine (rOf_any (ls.length + 1) _ [(grpT (qs.map Prod.fst), .slice qa qs.length qc)] wR HR.out (fun p hp => by
      obtain rfl := List.mem_singleton.1 hp
      exact ⟨.inl (by show (qs.map Prod.fst).length = 2; rw [List.length_map]; exact HL2.out), HWw.out⟩) (by show 0 < 1; decide) (by
      show (idsF (ls.length + 1) [grpT (qs.map Prod.fst)]).length ≤ 1001
      rw [HD.out.1]
      exact HIl.out) (by have := HLs.out; omega)).mono ?_
    rintro e w6 ⟨vi, vl, vs, rfl, hT, h6⟩
    have HT := Lib.hid (hT.mono (Below.size HL.out.aft))
    obtain ⟨a1, c1, b1, d1, rfl, rfl⟩ := hT.shape
    replace HL := Lib.hid (HL.out.call h6)
    clear hT h6
    generalize hI1 : idsF (ls.length + 1) (List.map Prod.fst [(grpT (qs.map Prod.fst), Value.slice qa qs.length qc)]) = ids' at *
    generalize hI2 : lvF (ls.length + 1) (List.map Prod.fst [(grpT (qs.map Prod.fst), Value.slice qa qs.length qc)]) = ls' at *
    have HJ1 := Lib.hid (show insIds ids ls id = ids' from (HI.out.trans HD.out.1.symm).trans hI1)
    have HJ2 := Lib.hid (show insLv ids ls id = ls' from (HV.out.trans HD.out.2.symm).trans hI2)
    clear hI1 hI2
    go_wp2_with (first | (refine wpList_store_shp rfl (.tmp 4) (.tmp 54) _ _ _ (.slice a1 ids'.length c1) (.slice b1 ls'.length d1) rfl rfl rfl rfl rfl (HL.out.get 1 rfl) ?_; intro w9 b1 b2 b3; replace HT := Lib.hid (HT.out.stored (HL.out.get 1 rfl) (by decide) (by decide) b2.out); replace HL := Lib.hid (HL.out.store 1 rfl b1 b2 b3); clear b1 b2 b3; try simp only [List.nil_append, List.cons_append, List.set_cons_zero, List.set_cons_succ] at HL))
    refine bodyPost_ret (results_cell_tmp rfl _ _ _ 25 _ (0, 0) _ rfl (HL.out.get 1 rfl) Try.underlying25 rfl (shp_info _ _)) rfl ?_
    exact InsSays.good HE.out HJ1.out HJ2.out HT.out HL.out.aft
  · have h2' : ¬ ((qs.length : Nat) : Int) = 2 := by omega
    have HL1 := Lib.hid (show qs.length = 1 by omega)
    have HD := Lib.hid (HD1.out (by rw [List.length_map]; exact HL1.out))
    clear h2 hq12
    go_wp2_with fail
    refine (rOf_any ls.length _ qs w5 HQ.out (fun p hp => HWw.out _ (List.mem_map.2 ⟨p, hp, rfl⟩)) (by rw [HL1.out]; decide) (by
      rw [HD.out.1]
      exact HIl.out) (by have := HLs.out; omega)).mono ?_
    rintro e w6 ⟨vi, vl, vs, rfl, hT, h6⟩
    have HT := Lib.hid (hT.mono (Below.size HL.out.aft))
    obtain ⟨a1, c1, b1, d1, rfl, rfl⟩ := hT.shape
    replace HL := Lib.hid (HL.out.call h6)
    clear hT h6
    generalize hI1 : idsF ls.length (List.map Prod.fst qs) = ids' at *
    generalize hI2 : lvF ls.length (List.map Prod.fst qs) = ls' at *
    have HJ1 := Lib.hid (show insIds ids ls id = ids' from HI.out.trans HD.out.1.symm)
    have HJ2 := Lib.hid (show insLv ids ls id = ls' from HV.out.trans HD.out.2.symm)
    clear hI1 hI2
    go_wp2_with (first | (refine wpList_store_shp rfl (.tmp 4) (.tmp 54) _ _ _ (.slice a1 ids'.length c1) (.slice b1 ls'.length d1) rfl rfl rfl rfl rfl (HL.out.get 1 rfl) ?_; intro w9 b1 b2 b3; replace HT := Lib.hid (HT.out.stored (HL.out.get 1 rfl) (by decide) (by decide) b2.out); replace HL := Lib.hid (HL.out.store 1 rfl b1 b2 b3); clear b1 b2 b3; try simp only [List.nil_append, List.cons_append, List.set_cons_zero, List.set_cons_succ] at HL))
    refine bodyPost_ret (results_cell_tmp rfl _ _ _ 25 _ (0, 0) _ rfl (HL.out.get 1 rfl) Try.underlying25 rfl (shp_info _ _)) rfl ?_
    exact InsSays.good HE.out HJ1.out HJ2.out HT.out HL.out.aft
end Go.Proofs.Ytfgammcefaomeaa
