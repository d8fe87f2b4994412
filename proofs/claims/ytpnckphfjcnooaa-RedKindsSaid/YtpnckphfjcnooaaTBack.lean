/- TreeBack of law 10, walked. -/
import Derived.Test.YtpnckphfjcnooaaTNear
namespace Go.Proofs.Ytpnckphfjcnooaa
open Go Go.RowKit
set_option linter.unusedSimpArgs false

theorem backIn {ids : List Int} {lv : List (List Int)} {id : Int} (h : insE ids lv id = 0) : OkT (insIds ids lv id) (insLv ids lv id) ∧ id ∈ insIds ids lv id ∧ delE (insIds ids lv id) (insLv ids lv id) id = 0 ∧ delIds (insIds ids lv id) (insLv ids lv id) id = ids ∧ OkT ids (delLv (insIds ids lv id) (insLv ids lv id) id) := by
  obtain ⟨k1, k2⟩ := ins_ok h
  obtain ⟨d1, d2⟩ := back_in h (k2 ▸ k1)
  rw [← k2] at d1 d2
  obtain ⟨e1, e2⟩ := del_ok d1
  rw [e2, d2] at e1
  exact ⟨k1, by rw [k2]; exact insI_mem.2 (.inl rfl), d1, by rw [e2, d2], e1⟩
theorem backOut {ids : List Int} {lv : List (List Int)} {id : Int} (h : delE ids lv id = 0) : OkT (delIds ids lv id) (delLv ids lv id) ∧ insE (delIds ids lv id) (delLv ids lv id) id = 0 ∧ insIds (delIds ids lv id) (delLv ids lv id) id = ids ∧ OkT ids (insLv (delIds ids lv id) (delLv ids lv id) id) := by
  obtain ⟨k1, k2⟩ := del_ok h
  obtain ⟨d1, d2⟩ := back_out h (k2 ▸ k1)
  rw [← k2] at d1 d2
  obtain ⟨e1, e2⟩ := ins_ok d1
  rw [e2, d2] at e1
  exact ⟨k1, d1, by rw [e2, d2], e1⟩
theorem delE_six {ids : List Int} {lv : List (List Int)} {id : Int} (hk : OkT ids lv) (h : ¬ delE ids lv id = 0) : delE ids lv id = 6 ∧ id ∉ ids := by
  unfold delE at h ⊢
  rw [if_neg fun q => q hk] at h ⊢
  by_cases hm : id ∈ ids
  · rw [if_pos hm] at h
    exact absurd rfl h
  · rw [if_neg hm]
    exact ⟨rfl, hm⟩
theorem cnt_getD {ids : List Int} {id : Int} (h : Rise ids) (hm : id ∈ ids) : ids.getD (cnt ids id) 0 = id := by
  rw [List.getD_eq_getElem?_getD, cnt_at h hm]
  rfl
set_option maxRecDepth 100000 in
set_option maxHeartbeats 8000000 in
theorem treeBack_any (vi vl : Value) (ids : List Int) (ls : List (List Int)) (id : Int) (w : World) (hi : Rd w vi (zv ids)) (hl : RdLs w vl ls) :
    Calls Try.prog 13 #[.agg (shpL vi vl).toArray, .int .i64 id] w fun e w' => e = .returned (.bool true) ∧ Aft w w' := by
  have HFw := Lib.hid (fun (wx : World) (ha : Aft w wx) => tfew_any vi vl ids ls wx (hi.grow ha) (hl.aft ha))
  have HCk := Lib.hid (fun (hs : Small ids ls) (wx : World) (ha : Aft w wx) => tcheck_any vi vl ids ls wx (hi.grow ha) (hl.aft ha) hs)
  have HIn := Lib.hid (fun (hs : Small ids ls) (wx : World) (ha : Aft w wx) => tinsert_any vi vl ids ls id wx (hi.grow ha) (hl.aft ha) hs)
  have HDe := Lib.hid (fun (hs : Small ids ls) (wx : World) (ha : Aft w wx) => tdelete_any vi vl ids ls id wx (hi.grow ha) (hl.aft ha) hs)
  have HDe2 := Lib.hid (fun (ids' : List Int) (ms : List (List Int)) (hs' : Small ids' ms) (ui ul : Value) (base : Nat) (wx : World) (h : Tr wx base ui ul ids' ms) => tdelete_any ui ul ids' ms id wx h.ids h.lv hs')
  have HIn2 := Lib.hid (fun (ids' : List Int) (ms : List (List Int)) (hs' : Small ids' ms) (ui ul : Value) (base : Nat) (wx : World) (h : Tr wx base ui ul ids' ms) => tinsert_any ui ul ids' ms id wx h.ids h.lv hs')
  have HFd2 := Lib.hid (fun (ids' : List Int) (ms : List (List Int)) (hs' : Small ids' ms) (ui ul : Value) (base : Nat) (wx : World) (h : Tr wx base ui ul ids' ms) => find_any ui ul ids' id wx h.ids hs'.fi)
  have HCk2 := Lib.hid (fun (ids' : List Int) (ms : List (List Int)) (hs' : Small ids' ms) (ui ul : Value) (base : Nat) (wx : World) (h : Tr wx base ui ul ids' ms) => tcheck_any ui ul ids' ms wx h.ids h.lv hs')
  have HFd0 := Lib.hid (fun (hs : Small ids ls) (wx : World) (ha : Aft w wx) => find_any vi vl ids id wx (hi.grow ha) hs.fi)
  have HSi := Lib.hid (fun (_ : Small ids ls) (ids' : List Int) (hs' : ids'.length ≤ 1048576) (ui ul : Value) (ms : List (List Int)) (base : Nat) (wx : World) (ha : Aft w wx) (h : Tr wx base ui ul ids' ms) => sameInts_any ui vi ids' ids wx h.ids (hi.grow ha) hs')
  obtain ⟨ao, cap, rfl, -, -⟩ := hi.numS
  obtain ⟨bo, dap, rfl, -⟩ := hl.shape
  have HL := Lib.hid (Led.start w)
  clear hi hl
  go_enter Try.func13, Try.ntmps13
  go_wp2_with (first | (refine wpList_boxO rfl 26 (.tmp 0) rfl (.agg (shpL (.slice ao ids.length cap) (.slice bo ls.length dap)).toArray) rfl (.cells (shpL (.slice ao ids.length cap) (.slice bo ls.length dap)).toArray 26) (box_shp _) ?_; intro w' aa gg zz; (try replace HO := Lib.hid (HO.out.aft aa)); (try replace HO2 := Lib.hid (HO2.out.aft aa)); (try replace HOK := Lib.hid (HOK.out.aft aa)); (try replace HO3 := Lib.hid (HO3.out.aft aa)); (try replace HO4 := Lib.hid (HO4.out.aft aa)); (try replace HO5 := Lib.hid (HO5.out.aft aa)); replace HL := Lib.hid (HL.out.alloc aa gg.out); clear aa gg zz; try simp only [List.nil_append, List.cons_append, List.set_cons_zero, List.set_cons_succ] at HL))
  refine (live10_any _).mono ?_
  rintro e w1 ⟨rfl, h1⟩
  (try replace HO := Lib.hid (HO.out.aft h1)); (try replace HO2 := Lib.hid (HO2.out.aft h1)); (try replace HOK := Lib.hid (HOK.out.aft h1)); (try replace HO3 := Lib.hid (HO3.out.aft h1)); (try replace HO4 := Lib.hid (HO4.out.aft h1)); (try replace HO5 := Lib.hid (HO5.out.aft h1)); replace HL := Lib.hid (HL.out.call h1)
  clear h1
  go_wp2_with (first | (refine wpList_load_rowG (by kernel_rfl) 26 (.tmp 2) rfl _ rfl _ _ _ _ (HL.out.get 0 rfl) Try.underlying26 rfl (shp_info _ _) ?_))
  refine (HFw.out _ HL.out.aft).mono ?_
  rintro e w2 ⟨rfl, h2⟩
  (try replace HO := Lib.hid (HO.out.aft h2)); (try replace HO2 := Lib.hid (HO2.out.aft h2)); (try replace HOK := Lib.hid (HOK.out.aft h2)); (try replace HO3 := Lib.hid (HO3.out.aft h2)); (try replace HO4 := Lib.hid (HO4.out.aft h2)); (try replace HO5 := Lib.hid (HO5.out.aft h2)); replace HL := Lib.hid (HL.out.call h2)
  clear h2 HFw
  cases hf : fewT ids ls with
  | false =>
    clear hf
    go_wp2_with fail
    go_ret
    exact ⟨rfl, HL.out.aft⟩
  | true =>
    have HS := Lib.hid (fewT_small hf)
    clear hf
    go_wp2_with (first | (refine wpList_load_rowG (by kernel_rfl) 26 (.tmp 2) rfl _ rfl _ _ _ _ (HL.out.get 0 rfl) Try.underlying26 rfl (shp_info _ _) ?_))
    refine (HCk.out HS.out _ HL.out.aft).mono ?_
    rintro e w3 ⟨rfl, h3⟩
    (try replace HO := Lib.hid (HO.out.aft h3)); (try replace HO2 := Lib.hid (HO2.out.aft h3)); (try replace HOK := Lib.hid (HOK.out.aft h3)); (try replace HO3 := Lib.hid (HO3.out.aft h3)); (try replace HO4 := Lib.hid (HO4.out.aft h3)); (try replace HO5 := Lib.hid (HO5.out.aft h3)); replace HL := Lib.hid (HL.out.call h3)
    clear h3 HCk
    by_cases hok : OkT ids ls
    rotate_left
    · rw [chk_bad hok]
      clear hok
      go_wp2_with fail
      go_ret
      exact ⟨rfl, HL.out.aft⟩
    rw [chkT_zero.2 hok]
    have HOk := Lib.hid hok
    clear hok
    go_wp2_with (first | (refine wpList_dstT 29 rfl ?_; (refine wpList_load_rowG (by kernel_rfl) 26 (.tmp 2) rfl _ rfl _ _ _ _ (HL.out.get 0 rfl) Try.underlying26 rfl (shp_info _ _) ?_)))
    refine (HIn.out HS.out _ HL.out.aft).mono ?_
    rintro e w4 ⟨ui, ul, us, rfl, ho, h4⟩
    obtain ⟨a1, c1, b1, d1, rfl, rfl⟩ := ho.shape
    (try replace HO := Lib.hid (HO.out.aft h4)); (try replace HO2 := Lib.hid (HO2.out.aft h4)); (try replace HOK := Lib.hid (HOK.out.aft h4)); (try replace HO3 := Lib.hid (HO3.out.aft h4)); (try replace HO4 := Lib.hid (HO4.out.aft h4)); (try replace HO5 := Lib.hid (HO5.out.aft h4)); replace HL := Lib.hid (HL.out.call h4)
    have HO := Lib.hid (show Tr w4 _ _ _ _ _ from ⟨_, ho⟩)
    clear ho h4 HIn
    by_cases g1 : insE ids ls id = 0
    · obtain ⟨q1, q2, q3, q4, q5⟩ := backIn g1
      rw [g1]
      clear g1
      have HO1 := Lib.hid q1
      have HM1 := Lib.hid q2
      have HE2 := Lib.hid q3
      have HI2 := Lib.hid q4
      have HC2 := Lib.hid q5
      have HSa := Lib.hid (small_of q1)
      have HGd := Lib.hid (cnt_getD q1.1.2.2 q2)
      have HKl := Lib.hid (cnt_lt q1.1.2.2 q2)
      clear q1 q2 q3 q4 q5
      generalize insIds ids ls id = ids1 at *
      generalize insLv ids ls id = ls1 at *
      obtain ⟨ga, oa, rfl, -, -⟩ := HO.out.ids.some_of (by rw [zv_length]; have := HKl.out; omega)
      go_wp2_with (first | (refine wpList_allocO rfl 26 rfl (.cells (shpL (.slice none 0 0) (.slice none 0 0)).toArray 26) alloc_shp ?_; intro w' aa gg zz; (try replace HO := Lib.hid (HO.out.aft aa)); (try replace HO2 := Lib.hid (HO2.out.aft aa)); (try replace HOK := Lib.hid (HOK.out.aft aa)); (try replace HO3 := Lib.hid (HO3.out.aft aa)); (try replace HO4 := Lib.hid (HO4.out.aft aa)); (try replace HO5 := Lib.hid (HO5.out.aft aa)); replace HL := Lib.hid (HL.out.alloc aa gg.out); clear aa gg zz; try simp only [List.nil_append, List.cons_append, List.set_cons_zero, List.set_cons_succ] at HL) | (refine wpList_store_shp rfl (.tmp 6) (.tmp 32) _ _ _ (.slice (some ⟨ga, oa, none⟩) ids1.length c1) (.slice b1 ls1.length d1) rfl rfl rfl rfl rfl (HL.out.get 1 rfl) ?_; intro w' b1 b2 b3; (try replace HO := Lib.hid (HO.out.stored (HL.out.get 1 rfl) (by decide) b2.out)); (try replace HO2 := Lib.hid (HO2.out.stored (HL.out.get 1 rfl) (by decide) b2.out)); (try replace HOK := Lib.hid (HOK.out.stored (HL.out.get 1 rfl) (by decide) b2.out)); (try replace HO3 := Lib.hid (HO3.out.stored (HL.out.get 1 rfl) (by decide) b2.out)); (try replace HO4 := Lib.hid (HO4.out.stored (HL.out.get 1 rfl) (by decide) b2.out)); (try replace HO5 := Lib.hid (HO5.out.stored (HL.out.get 1 rfl) (by decide) b2.out)); replace HL := Lib.hid (HL.out.store 1 rfl b1 b2 b3); clear b1 b2 b3; try simp only [List.nil_append, List.cons_append, List.set_cons_zero, List.set_cons_succ] at HL) | (refine wpList_dstT 37 rfl ?_; (refine wpList_load_rowG (by kernel_rfl) 26 (.tmp 6) rfl _ rfl _ _ _ _ (HL.out.get 1 rfl) Try.underlying26 rfl (shp_info _ _) ?_)))
      refine (HDe2.out _ _ HSa.out _ _ _ _ HO.out).mono ?_
      rintro e w5 ⟨xi, xl, xs, rfl, ho, h5⟩
      rw [HE2.out]
      rw [HI2.out] at ho
      obtain ⟨a2, c2, b2, d2, rfl, rfl⟩ := ho.shape
      (try replace HO := Lib.hid (HO.out.aft h5)); (try replace HO2 := Lib.hid (HO2.out.aft h5)); (try replace HOK := Lib.hid (HOK.out.aft h5)); (try replace HO3 := Lib.hid (HO3.out.aft h5)); (try replace HO4 := Lib.hid (HO4.out.aft h5)); (try replace HO5 := Lib.hid (HO5.out.aft h5)); replace HL := Lib.hid (HL.out.call h5)
      have HO2 := Lib.hid (show Tr w5 _ _ _ _ _ from ⟨_, ho⟩)
      clear ho h5 HDe2
      generalize delLv ids1 ls1 id = ls2 at *
      go_wp2_with (first | (refine wpList_allocO rfl 26 rfl (.cells (shpL (.slice none 0 0) (.slice none 0 0)).toArray 26) alloc_shp ?_; intro w' aa gg zz; (try replace HO := Lib.hid (HO.out.aft aa)); (try replace HO2 := Lib.hid (HO2.out.aft aa)); (try replace HOK := Lib.hid (HOK.out.aft aa)); (try replace HO3 := Lib.hid (HO3.out.aft aa)); (try replace HO4 := Lib.hid (HO4.out.aft aa)); (try replace HO5 := Lib.hid (HO5.out.aft aa)); replace HL := Lib.hid (HL.out.alloc aa gg.out); clear aa gg zz; try simp only [List.nil_append, List.cons_append, List.set_cons_zero, List.set_cons_succ] at HL) | (refine wpList_store_shp rfl (.tmp 8) (.tmp 40) _ _ _ (.slice a2 ids.length c2) (.slice b2 ls2.length d2) rfl rfl rfl rfl rfl (HL.out.get 2 rfl) ?_; intro w' b1 b2 b3; (try replace HO := Lib.hid (HO.out.stored (HL.out.get 2 rfl) (by decide) b2.out)); (try replace HO2 := Lib.hid (HO2.out.stored (HL.out.get 2 rfl) (by decide) b2.out)); (try replace HOK := Lib.hid (HOK.out.stored (HL.out.get 2 rfl) (by decide) b2.out)); (try replace HO3 := Lib.hid (HO3.out.stored (HL.out.get 2 rfl) (by decide) b2.out)); (try replace HO4 := Lib.hid (HO4.out.stored (HL.out.get 2 rfl) (by decide) b2.out)); (try replace HO5 := Lib.hid (HO5.out.stored (HL.out.get 2 rfl) (by decide) b2.out)); replace HL := Lib.hid (HL.out.store 2 rfl b1 b2 b3); clear b1 b2 b3; try simp only [List.nil_append, List.cons_append, List.set_cons_zero, List.set_cons_succ] at HL; have hi2 := shp_i (HL.out.get 2 rfl); have hi0 := shp_i (HL.out.get 0 rfl)))
      clear hi2 hi0
      refine (HSi.out HS.out _ HS.out.fi _ _ _ _ _ HL.out.aft HO2.out).mono ?_
      rintro e w6 ⟨rfl, h6⟩
      rw [decide_eq_true rfl]
      (try replace HO := Lib.hid (HO.out.aft h6)); (try replace HO2 := Lib.hid (HO2.out.aft h6)); (try replace HOK := Lib.hid (HOK.out.aft h6)); (try replace HO3 := Lib.hid (HO3.out.aft h6)); (try replace HO4 := Lib.hid (HO4.out.aft h6)); (try replace HO5 := Lib.hid (HO5.out.aft h6)); replace HL := Lib.hid (HL.out.call h6)
      clear h6
      go_wp2_with (first | (refine wpList_dstT 53 rfl ?_; (refine wpList_load_rowG (by kernel_rfl) 26 (.tmp 8) rfl _ rfl _ _ _ _ (HL.out.get 2 rfl) Try.underlying26 rfl (shp_info _ _) ?_)))
      refine (HCk2.out _ _ (small_of HC2.out) _ _ _ _ HO2.out).mono ?_
      rintro e w7 ⟨rfl, h7⟩
      rw [chkT_zero.2 HC2.out]
      (try replace HO := Lib.hid (HO.out.aft h7)); (try replace HO2 := Lib.hid (HO2.out.aft h7)); (try replace HOK := Lib.hid (HOK.out.aft h7)); (try replace HO3 := Lib.hid (HO3.out.aft h7)); (try replace HO4 := Lib.hid (HO4.out.aft h7)); (try replace HO5 := Lib.hid (HO5.out.aft h7)); replace HL := Lib.hid (HL.out.call h7)
      clear h7
      go_wp2_with (first | (refine wpList_dstT 58 rfl ?_; (refine wpList_load_rowG (by kernel_rfl) 26 (.tmp 6) rfl _ rfl _ _ _ _ (HL.out.get 1 rfl) Try.underlying26 rfl (shp_info _ _) ?_)))
      refine (HFd2.out _ _ HSa.out _ _ _ _ HO.out).mono ?_
      rintro e w7 ⟨rfl, h7⟩
      rw [decide_eq_true HM1.out]
      (try replace HO := Lib.hid (HO.out.aft h7)); (try replace HO2 := Lib.hid (HO2.out.aft h7)); (try replace HOK := Lib.hid (HOK.out.aft h7)); (try replace HO3 := Lib.hid (HO3.out.aft h7)); (try replace HO4 := Lib.hid (HO4.out.aft h7)); (try replace HO5 := Lib.hid (HO5.out.aft h7)); replace HL := Lib.hid (HL.out.call h7)
      clear h7 HFd2
      have hcx := HO.out.ids.num_at HKl.out
      rw [HGd.out] at hcx
      have hkl : ((cnt ids1 id : Nat) : Int) < (ids1.length : Nat) := by have := HKl.out; omega
      clear HGd
      generalize cnt ids1 id = kx at *
      have hi1 := shp_i (HL.out.get 1 rfl)
      go_wp2_with (first | (refine wpList_dstT 82 rfl ?_; (refine wpList_load_rowG (by kernel_rfl) 26 (.tmp 2) rfl _ rfl _ _ _ _ (HL.out.get 0 rfl) Try.underlying26 rfl (shp_info _ _) ?_)))
      clear hi1 hcx hkl
      refine (HDe.out HS.out _ HL.out.aft).mono ?_
      rintro e w8 ⟨yi, yl, ys, rfl, ho, h8⟩
      obtain ⟨a3, c3, b3, d3, rfl, rfl⟩ := ho.shape
      (try replace HO := Lib.hid (HO.out.aft h8)); (try replace HO2 := Lib.hid (HO2.out.aft h8)); (try replace HOK := Lib.hid (HOK.out.aft h8)); (try replace HO3 := Lib.hid (HO3.out.aft h8)); (try replace HO4 := Lib.hid (HO4.out.aft h8)); (try replace HO5 := Lib.hid (HO5.out.aft h8)); replace HL := Lib.hid (HL.out.call h8)
      have HO3 := Lib.hid (show Tr w8 _ _ _ _ _ from ⟨_, ho⟩)
      clear ho h8 HDe
      by_cases g2 : delE ids ls id = 0
      · obtain ⟨q1, q2, q3, q4⟩ := backOut g2
        rw [g2]
        clear g2
        have HE4 := Lib.hid q2
        have HI4 := Lib.hid q3
        have HC4 := Lib.hid q4
        have HS3 := Lib.hid (small_of q1)
        clear q1 q2 q3 q4
        generalize delIds ids ls id = ids3 at *
        generalize delLv ids ls id = ls3 at *
        go_wp2_with (first | (refine wpList_allocO rfl 26 rfl (.cells (shpL (.slice none 0 0) (.slice none 0 0)).toArray 26) alloc_shp ?_; intro w' aa gg zz; (try replace HO := Lib.hid (HO.out.aft aa)); (try replace HO2 := Lib.hid (HO2.out.aft aa)); (try replace HOK := Lib.hid (HOK.out.aft aa)); (try replace HO3 := Lib.hid (HO3.out.aft aa)); (try replace HO4 := Lib.hid (HO4.out.aft aa)); (try replace HO5 := Lib.hid (HO5.out.aft aa)); replace HL := Lib.hid (HL.out.alloc aa gg.out); clear aa gg zz; try simp only [List.nil_append, List.cons_append, List.set_cons_zero, List.set_cons_succ] at HL) | (refine wpList_store_shp rfl (.tmp 12) (.tmp 85) _ _ _ (.slice a3 ids3.length c3) (.slice b3 ls3.length d3) rfl rfl rfl rfl rfl (HL.out.get 3 rfl) ?_; intro w' b1 b2 b3; (try replace HO := Lib.hid (HO.out.stored (HL.out.get 3 rfl) (by decide) b2.out)); (try replace HO2 := Lib.hid (HO2.out.stored (HL.out.get 3 rfl) (by decide) b2.out)); (try replace HOK := Lib.hid (HOK.out.stored (HL.out.get 3 rfl) (by decide) b2.out)); (try replace HO3 := Lib.hid (HO3.out.stored (HL.out.get 3 rfl) (by decide) b2.out)); (try replace HO4 := Lib.hid (HO4.out.stored (HL.out.get 3 rfl) (by decide) b2.out)); (try replace HO5 := Lib.hid (HO5.out.stored (HL.out.get 3 rfl) (by decide) b2.out)); replace HL := Lib.hid (HL.out.store 3 rfl b1 b2 b3); clear b1 b2 b3; try simp only [List.nil_append, List.cons_append, List.set_cons_zero, List.set_cons_succ] at HL) | (refine wpList_dstT 105 rfl ?_; (refine wpList_load_rowG (by kernel_rfl) 26 (.tmp 12) rfl _ rfl _ _ _ _ (HL.out.get 3 rfl) Try.underlying26 rfl (shp_info _ _) ?_)))
        refine (HIn2.out _ _ HS3.out _ _ _ _ HO3.out).mono ?_
        rintro e w9 ⟨zi, zl, zs, rfl, ho, h9⟩
        rw [HE4.out]
        rw [HI4.out] at ho
        obtain ⟨a4, c4, b4, d4, rfl, rfl⟩ := ho.shape
        (try replace HO := Lib.hid (HO.out.aft h9)); (try replace HO2 := Lib.hid (HO2.out.aft h9)); (try replace HOK := Lib.hid (HOK.out.aft h9)); (try replace HO3 := Lib.hid (HO3.out.aft h9)); (try replace HO4 := Lib.hid (HO4.out.aft h9)); (try replace HO5 := Lib.hid (HO5.out.aft h9)); replace HL := Lib.hid (HL.out.call h9)
        have HO4 := Lib.hid (show Tr w9 _ _ _ _ _ from ⟨_, ho⟩)
        clear ho h9 HIn2
        generalize insLv ids3 ls3 id = ls4 at *
        go_wp2_with (first | (refine wpList_allocO rfl 26 rfl (.cells (shpL (.slice none 0 0) (.slice none 0 0)).toArray 26) alloc_shp ?_; intro w' aa gg zz; (try replace HO := Lib.hid (HO.out.aft aa)); (try replace HO2 := Lib.hid (HO2.out.aft aa)); (try replace HOK := Lib.hid (HOK.out.aft aa)); (try replace HO3 := Lib.hid (HO3.out.aft aa)); (try replace HO4 := Lib.hid (HO4.out.aft aa)); (try replace HO5 := Lib.hid (HO5.out.aft aa)); replace HL := Lib.hid (HL.out.alloc aa gg.out); clear aa gg zz; try simp only [List.nil_append, List.cons_append, List.set_cons_zero, List.set_cons_succ] at HL) | (refine wpList_store_shp rfl (.tmp 16) (.tmp 108) _ _ _ (.slice a4 ids.length c4) (.slice b4 ls4.length d4) rfl rfl rfl rfl rfl (HL.out.get 4 rfl) ?_; intro w' b1 b2 b3; (try replace HO := Lib.hid (HO.out.stored (HL.out.get 4 rfl) (by decide) b2.out)); (try replace HO2 := Lib.hid (HO2.out.stored (HL.out.get 4 rfl) (by decide) b2.out)); (try replace HOK := Lib.hid (HOK.out.stored (HL.out.get 4 rfl) (by decide) b2.out)); (try replace HO3 := Lib.hid (HO3.out.stored (HL.out.get 4 rfl) (by decide) b2.out)); (try replace HO4 := Lib.hid (HO4.out.stored (HL.out.get 4 rfl) (by decide) b2.out)); (try replace HO5 := Lib.hid (HO5.out.stored (HL.out.get 4 rfl) (by decide) b2.out)); replace HL := Lib.hid (HL.out.store 4 rfl b1 b2 b3); clear b1 b2 b3; try simp only [List.nil_append, List.cons_append, List.set_cons_zero, List.set_cons_succ] at HL; have hi4 := shp_i (HL.out.get 4 rfl); have hi0 := shp_i (HL.out.get 0 rfl)))
        clear hi4 hi0
        refine (HSi.out HS.out _ HS.out.fi _ _ _ _ _ HL.out.aft HO4.out).mono ?_
        rintro e w10 ⟨rfl, h10⟩
        rw [decide_eq_true rfl]
        (try replace HO := Lib.hid (HO.out.aft h10)); (try replace HO2 := Lib.hid (HO2.out.aft h10)); (try replace HOK := Lib.hid (HOK.out.aft h10)); (try replace HO3 := Lib.hid (HO3.out.aft h10)); (try replace HO4 := Lib.hid (HO4.out.aft h10)); (try replace HO5 := Lib.hid (HO5.out.aft h10)); replace HL := Lib.hid (HL.out.call h10)
        clear h10
        go_wp2_with (first | (refine wpList_dstT 123 rfl ?_; (refine wpList_load_rowG (by kernel_rfl) 26 (.tmp 16) rfl _ rfl _ _ _ _ (HL.out.get 4 rfl) Try.underlying26 rfl (shp_info _ _) ?_)))
        refine (HCk2.out _ _ (small_of HC4.out) _ _ _ _ HO4.out).mono ?_
        rintro e w11 ⟨rfl, h11⟩
        rw [chkT_zero.2 HC4.out]
        (try replace HO := Lib.hid (HO.out.aft h11)); (try replace HO2 := Lib.hid (HO2.out.aft h11)); (try replace HOK := Lib.hid (HOK.out.aft h11)); (try replace HO3 := Lib.hid (HO3.out.aft h11)); (try replace HO4 := Lib.hid (HO4.out.aft h11)); (try replace HO5 := Lib.hid (HO5.out.aft h11)); replace HL := Lib.hid (HL.out.call h11)
        clear h11
        go_wp2_with fail
        go_ret
        exact ⟨rfl, HL.out.aft⟩
      · obtain ⟨q1, q2⟩ := delE_six HOk.out g2
        rw [q1]
        have HNi := Lib.hid q2
        clear q1 q2 g2
        generalize delIds ids ls id = ids3 at *
        generalize delLv ids ls id = ls3 at *
        go_wp2_with (first | (refine wpList_allocO rfl 26 rfl (.cells (shpL (.slice none 0 0) (.slice none 0 0)).toArray 26) alloc_shp ?_; intro w' aa gg zz; (try replace HO := Lib.hid (HO.out.aft aa)); (try replace HO2 := Lib.hid (HO2.out.aft aa)); (try replace HOK := Lib.hid (HOK.out.aft aa)); (try replace HO3 := Lib.hid (HO3.out.aft aa)); (try replace HO4 := Lib.hid (HO4.out.aft aa)); (try replace HO5 := Lib.hid (HO5.out.aft aa)); replace HL := Lib.hid (HL.out.alloc aa gg.out); clear aa gg zz; try simp only [List.nil_append, List.cons_append, List.set_cons_zero, List.set_cons_succ] at HL) | (refine wpList_store_shp rfl (.tmp 12) (.tmp 85) _ _ _ (.slice a3 ids3.length c3) (.slice b3 ls3.length d3) rfl rfl rfl rfl rfl (HL.out.get 3 rfl) ?_; intro w' b1 b2 b3; (try replace HO := Lib.hid (HO.out.stored (HL.out.get 3 rfl) (by decide) b2.out)); (try replace HO2 := Lib.hid (HO2.out.stored (HL.out.get 3 rfl) (by decide) b2.out)); (try replace HOK := Lib.hid (HOK.out.stored (HL.out.get 3 rfl) (by decide) b2.out)); (try replace HO3 := Lib.hid (HO3.out.stored (HL.out.get 3 rfl) (by decide) b2.out)); (try replace HO4 := Lib.hid (HO4.out.stored (HL.out.get 3 rfl) (by decide) b2.out)); (try replace HO5 := Lib.hid (HO5.out.stored (HL.out.get 3 rfl) (by decide) b2.out)); replace HL := Lib.hid (HL.out.store 3 rfl b1 b2 b3); clear b1 b2 b3; try simp only [List.nil_append, List.cons_append, List.set_cons_zero, List.set_cons_succ] at HL) | (refine wpList_dstT 90 rfl ?_; (refine wpList_load_rowG (by kernel_rfl) 26 (.tmp 2) rfl _ rfl _ _ _ _ (HL.out.get 0 rfl) Try.underlying26 rfl (shp_info _ _) ?_)))
        refine (HFd0.out HS.out _ HL.out.aft).mono ?_
        rintro e w9 ⟨rfl, h9⟩
        rw [decide_eq_false HNi.out]
        (try replace HO := Lib.hid (HO.out.aft h9)); (try replace HO2 := Lib.hid (HO2.out.aft h9)); (try replace HOK := Lib.hid (HOK.out.aft h9)); (try replace HO3 := Lib.hid (HO3.out.aft h9)); (try replace HO4 := Lib.hid (HO4.out.aft h9)); (try replace HO5 := Lib.hid (HO5.out.aft h9)); replace HL := Lib.hid (HL.out.call h9)
        clear h9
        go_wp2_with fail
        go_ret
        exact ⟨rfl, HL.out.aft⟩
    · have hg1 := g1
      clear g1
      generalize insIds ids ls id = ids1 at *
      generalize insLv ids ls id = ls1 at *
      generalize insE ids ls id = e1 at *
      go_wp2_with (first | (refine wpList_allocO rfl 26 rfl (.cells (shpL (.slice none 0 0) (.slice none 0 0)).toArray 26) alloc_shp ?_; intro w' aa gg zz; (try replace HO := Lib.hid (HO.out.aft aa)); (try replace HO2 := Lib.hid (HO2.out.aft aa)); (try replace HOK := Lib.hid (HOK.out.aft aa)); (try replace HO3 := Lib.hid (HO3.out.aft aa)); (try replace HO4 := Lib.hid (HO4.out.aft aa)); (try replace HO5 := Lib.hid (HO5.out.aft aa)); replace HL := Lib.hid (HL.out.alloc aa gg.out); clear aa gg zz; try simp only [List.nil_append, List.cons_append, List.set_cons_zero, List.set_cons_succ] at HL) | (refine wpList_store_shp rfl (.tmp 6) (.tmp 32) _ _ _ (.slice a1 ids1.length c1) (.slice b1 ls1.length d1) rfl rfl rfl rfl rfl (HL.out.get 1 rfl) ?_; intro w' b1 b2 b3; (try replace HO := Lib.hid (HO.out.stored (HL.out.get 1 rfl) (by decide) b2.out)); (try replace HO2 := Lib.hid (HO2.out.stored (HL.out.get 1 rfl) (by decide) b2.out)); (try replace HOK := Lib.hid (HOK.out.stored (HL.out.get 1 rfl) (by decide) b2.out)); (try replace HO3 := Lib.hid (HO3.out.stored (HL.out.get 1 rfl) (by decide) b2.out)); (try replace HO4 := Lib.hid (HO4.out.stored (HL.out.get 1 rfl) (by decide) b2.out)); (try replace HO5 := Lib.hid (HO5.out.stored (HL.out.get 1 rfl) (by decide) b2.out)); replace HL := Lib.hid (HL.out.store 1 rfl b1 b2 b3); clear b1 b2 b3; try simp only [List.nil_append, List.cons_append, List.set_cons_zero, List.set_cons_succ] at HL) | (refine wpList_dstT 82 rfl ?_; (refine wpList_load_rowG (by kernel_rfl) 26 (.tmp 2) rfl _ rfl _ _ _ _ (HL.out.get 0 rfl) Try.underlying26 rfl (shp_info _ _) ?_)))
      refine (HDe.out HS.out _ HL.out.aft).mono ?_
      rintro e w8 ⟨yi, yl, ys, rfl, ho, h8⟩
      obtain ⟨a3, c3, b3, d3, rfl, rfl⟩ := ho.shape
      (try replace HO := Lib.hid (HO.out.aft h8)); (try replace HO2 := Lib.hid (HO2.out.aft h8)); (try replace HOK := Lib.hid (HOK.out.aft h8)); (try replace HO3 := Lib.hid (HO3.out.aft h8)); (try replace HO4 := Lib.hid (HO4.out.aft h8)); (try replace HO5 := Lib.hid (HO5.out.aft h8)); replace HL := Lib.hid (HL.out.call h8)
      have HO3 := Lib.hid (show Tr w8 _ _ _ _ _ from ⟨_, ho⟩)
      clear ho h8 HDe
      by_cases g2 : delE ids ls id = 0
      · obtain ⟨q1, q2, q3, q4⟩ := backOut g2
        rw [g2]
        clear g2
        have HE4 := Lib.hid q2
        have HI4 := Lib.hid q3
        have HC4 := Lib.hid q4
        have HS3 := Lib.hid (small_of q1)
        clear q1 q2 q3 q4
        generalize delIds ids ls id = ids3 at *
        generalize delLv ids ls id = ls3 at *
        go_wp2_with (first | (refine wpList_allocO rfl 26 rfl (.cells (shpL (.slice none 0 0) (.slice none 0 0)).toArray 26) alloc_shp ?_; intro w' aa gg zz; (try replace HO := Lib.hid (HO.out.aft aa)); (try replace HO2 := Lib.hid (HO2.out.aft aa)); (try replace HOK := Lib.hid (HOK.out.aft aa)); (try replace HO3 := Lib.hid (HO3.out.aft aa)); (try replace HO4 := Lib.hid (HO4.out.aft aa)); (try replace HO5 := Lib.hid (HO5.out.aft aa)); replace HL := Lib.hid (HL.out.alloc aa gg.out); clear aa gg zz; try simp only [List.nil_append, List.cons_append, List.set_cons_zero, List.set_cons_succ] at HL) | (refine wpList_store_shp rfl (.tmp 12) (.tmp 85) _ _ _ (.slice a3 ids3.length c3) (.slice b3 ls3.length d3) rfl rfl rfl rfl rfl (HL.out.get 2 rfl) ?_; intro w' b1 b2 b3; (try replace HO := Lib.hid (HO.out.stored (HL.out.get 2 rfl) (by decide) b2.out)); (try replace HO2 := Lib.hid (HO2.out.stored (HL.out.get 2 rfl) (by decide) b2.out)); (try replace HOK := Lib.hid (HOK.out.stored (HL.out.get 2 rfl) (by decide) b2.out)); (try replace HO3 := Lib.hid (HO3.out.stored (HL.out.get 2 rfl) (by decide) b2.out)); (try replace HO4 := Lib.hid (HO4.out.stored (HL.out.get 2 rfl) (by decide) b2.out)); (try replace HO5 := Lib.hid (HO5.out.stored (HL.out.get 2 rfl) (by decide) b2.out)); replace HL := Lib.hid (HL.out.store 2 rfl b1 b2 b3); clear b1 b2 b3; try simp only [List.nil_append, List.cons_append, List.set_cons_zero, List.set_cons_succ] at HL) | (refine wpList_dstT 105 rfl ?_; (refine wpList_load_rowG (by kernel_rfl) 26 (.tmp 12) rfl _ rfl _ _ _ _ (HL.out.get 2 rfl) Try.underlying26 rfl (shp_info _ _) ?_)))
        refine (HIn2.out _ _ HS3.out _ _ _ _ HO3.out).mono ?_
        rintro e w9 ⟨zi, zl, zs, rfl, ho, h9⟩
        rw [HE4.out]
        rw [HI4.out] at ho
        obtain ⟨a4, c4, b4, d4, rfl, rfl⟩ := ho.shape
        (try replace HO := Lib.hid (HO.out.aft h9)); (try replace HO2 := Lib.hid (HO2.out.aft h9)); (try replace HOK := Lib.hid (HOK.out.aft h9)); (try replace HO3 := Lib.hid (HO3.out.aft h9)); (try replace HO4 := Lib.hid (HO4.out.aft h9)); (try replace HO5 := Lib.hid (HO5.out.aft h9)); replace HL := Lib.hid (HL.out.call h9)
        have HO4 := Lib.hid (show Tr w9 _ _ _ _ _ from ⟨_, ho⟩)
        clear ho h9 HIn2
        generalize insLv ids3 ls3 id = ls4 at *
        go_wp2_with (first | (refine wpList_allocO rfl 26 rfl (.cells (shpL (.slice none 0 0) (.slice none 0 0)).toArray 26) alloc_shp ?_; intro w' aa gg zz; (try replace HO := Lib.hid (HO.out.aft aa)); (try replace HO2 := Lib.hid (HO2.out.aft aa)); (try replace HOK := Lib.hid (HOK.out.aft aa)); (try replace HO3 := Lib.hid (HO3.out.aft aa)); (try replace HO4 := Lib.hid (HO4.out.aft aa)); (try replace HO5 := Lib.hid (HO5.out.aft aa)); replace HL := Lib.hid (HL.out.alloc aa gg.out); clear aa gg zz; try simp only [List.nil_append, List.cons_append, List.set_cons_zero, List.set_cons_succ] at HL) | (refine wpList_store_shp rfl (.tmp 16) (.tmp 108) _ _ _ (.slice a4 ids.length c4) (.slice b4 ls4.length d4) rfl rfl rfl rfl rfl (HL.out.get 3 rfl) ?_; intro w' b1 b2 b3; (try replace HO := Lib.hid (HO.out.stored (HL.out.get 3 rfl) (by decide) b2.out)); (try replace HO2 := Lib.hid (HO2.out.stored (HL.out.get 3 rfl) (by decide) b2.out)); (try replace HOK := Lib.hid (HOK.out.stored (HL.out.get 3 rfl) (by decide) b2.out)); (try replace HO3 := Lib.hid (HO3.out.stored (HL.out.get 3 rfl) (by decide) b2.out)); (try replace HO4 := Lib.hid (HO4.out.stored (HL.out.get 3 rfl) (by decide) b2.out)); (try replace HO5 := Lib.hid (HO5.out.stored (HL.out.get 3 rfl) (by decide) b2.out)); replace HL := Lib.hid (HL.out.store 3 rfl b1 b2 b3); clear b1 b2 b3; try simp only [List.nil_append, List.cons_append, List.set_cons_zero, List.set_cons_succ] at HL; have hi4 := shp_i (HL.out.get 3 rfl); have hi0 := shp_i (HL.out.get 0 rfl)))
        clear hi4 hi0
        refine (HSi.out HS.out _ HS.out.fi _ _ _ _ _ HL.out.aft HO4.out).mono ?_
        rintro e w10 ⟨rfl, h10⟩
        rw [decide_eq_true rfl]
        (try replace HO := Lib.hid (HO.out.aft h10)); (try replace HO2 := Lib.hid (HO2.out.aft h10)); (try replace HOK := Lib.hid (HOK.out.aft h10)); (try replace HO3 := Lib.hid (HO3.out.aft h10)); (try replace HO4 := Lib.hid (HO4.out.aft h10)); (try replace HO5 := Lib.hid (HO5.out.aft h10)); replace HL := Lib.hid (HL.out.call h10)
        clear h10
        go_wp2_with (first | (refine wpList_dstT 123 rfl ?_; (refine wpList_load_rowG (by kernel_rfl) 26 (.tmp 16) rfl _ rfl _ _ _ _ (HL.out.get 3 rfl) Try.underlying26 rfl (shp_info _ _) ?_)))
        refine (HCk2.out _ _ (small_of HC4.out) _ _ _ _ HO4.out).mono ?_
        rintro e w11 ⟨rfl, h11⟩
        rw [chkT_zero.2 HC4.out]
        (try replace HO := Lib.hid (HO.out.aft h11)); (try replace HO2 := Lib.hid (HO2.out.aft h11)); (try replace HOK := Lib.hid (HOK.out.aft h11)); (try replace HO3 := Lib.hid (HO3.out.aft h11)); (try replace HO4 := Lib.hid (HO4.out.aft h11)); (try replace HO5 := Lib.hid (HO5.out.aft h11)); replace HL := Lib.hid (HL.out.call h11)
        clear h11
        go_wp2_with fail
        go_ret
        exact ⟨rfl, HL.out.aft⟩
      · obtain ⟨q1, q2⟩ := delE_six HOk.out g2
        rw [q1]
        have HNi := Lib.hid q2
        clear q1 q2 g2
        generalize delIds ids ls id = ids3 at *
        generalize delLv ids ls id = ls3 at *
        go_wp2_with (first | (refine wpList_allocO rfl 26 rfl (.cells (shpL (.slice none 0 0) (.slice none 0 0)).toArray 26) alloc_shp ?_; intro w' aa gg zz; (try replace HO := Lib.hid (HO.out.aft aa)); (try replace HO2 := Lib.hid (HO2.out.aft aa)); (try replace HOK := Lib.hid (HOK.out.aft aa)); (try replace HO3 := Lib.hid (HO3.out.aft aa)); (try replace HO4 := Lib.hid (HO4.out.aft aa)); (try replace HO5 := Lib.hid (HO5.out.aft aa)); replace HL := Lib.hid (HL.out.alloc aa gg.out); clear aa gg zz; try simp only [List.nil_append, List.cons_append, List.set_cons_zero, List.set_cons_succ] at HL) | (refine wpList_store_shp rfl (.tmp 12) (.tmp 85) _ _ _ (.slice a3 ids3.length c3) (.slice b3 ls3.length d3) rfl rfl rfl rfl rfl (HL.out.get 2 rfl) ?_; intro w' b1 b2 b3; (try replace HO := Lib.hid (HO.out.stored (HL.out.get 2 rfl) (by decide) b2.out)); (try replace HO2 := Lib.hid (HO2.out.stored (HL.out.get 2 rfl) (by decide) b2.out)); (try replace HOK := Lib.hid (HOK.out.stored (HL.out.get 2 rfl) (by decide) b2.out)); (try replace HO3 := Lib.hid (HO3.out.stored (HL.out.get 2 rfl) (by decide) b2.out)); (try replace HO4 := Lib.hid (HO4.out.stored (HL.out.get 2 rfl) (by decide) b2.out)); (try replace HO5 := Lib.hid (HO5.out.stored (HL.out.get 2 rfl) (by decide) b2.out)); replace HL := Lib.hid (HL.out.store 2 rfl b1 b2 b3); clear b1 b2 b3; try simp only [List.nil_append, List.cons_append, List.set_cons_zero, List.set_cons_succ] at HL) | (refine wpList_dstT 90 rfl ?_; (refine wpList_load_rowG (by kernel_rfl) 26 (.tmp 2) rfl _ rfl _ _ _ _ (HL.out.get 0 rfl) Try.underlying26 rfl (shp_info _ _) ?_)))
        refine (HFd0.out HS.out _ HL.out.aft).mono ?_
        rintro e w9 ⟨rfl, h9⟩
        rw [decide_eq_false HNi.out]
        (try replace HO := Lib.hid (HO.out.aft h9)); (try replace HO2 := Lib.hid (HO2.out.aft h9)); (try replace HOK := Lib.hid (HOK.out.aft h9)); (try replace HO3 := Lib.hid (HO3.out.aft h9)); (try replace HO4 := Lib.hid (HO4.out.aft h9)); (try replace HO5 := Lib.hid (HO5.out.aft h9)); replace HL := Lib.hid (HL.out.call h9)
        clear h9
        go_wp2_with fail
        go_ret
        exact ⟨rfl, HL.out.aft⟩
end Go.Proofs.Ytpnckphfjcnooaa
