/- PlanKeeps of law 12. -/
import Derived.Deep.Cut
import Derived.Test.YtfgammcefaomeaaP17
import Derived.Test.YtfgammcefaomeaaP18
import Derived.Test.YtfgammcefaomeaaP10
import Derived.Test.YtfgammcefaomeaaTMap
namespace Go.Proofs.Ytfgammcefaomeaa
open Go Go.RowKit
set_option linter.unusedSimpArgs false
theorem wrap_sub {y x l : Nat} (h : y - x = l) (hx : x ≤ y) (hy : y ≤ 1000000) : wrap64 ((y : Int) - (x : Int)) = (l : Int) := by
  rw [IntWalk.wrap64_in _ ⟨by omega, by omega⟩]
  omega
theorem wrap_add {x n p : Nat} (h : p = x + n) (hp : p ≤ 1000000) : wrap64 ((x : Int) + (n : Int)) = (p : Int) := by
  rw [IntWalk.wrap64_in _ ⟨by omega, by omega⟩]
  omega
set_option maxRecDepth 100000 in
set_option maxHeartbeats 8000000 in
theorem planKeeps_any (kind by' : Int) (vi vo vn vm : Value) (ids out in' more : List Int) (w : World) (hi : Rd w vi (zv ids)) (ho : Rd w vo (zv out)) (hn : Rd w vn (zv in')) (hm : Rd w vm (zv more)) (w2 : ∀ x ∈ out, (Lit.int .i64 x).wf = true) (w3 : ∀ x ∈ in', (Lit.int .i64 x).wf = true) (w4 : ∀ x ∈ more, (Lit.int .i64 x).wf = true) (wb : (Lit.int .i64 by').wf = true) :
    Calls Try.prog 6 #[.int .i64 kind, vi, vo, vn, vm, .int .i64 by'] w fun e w' => e = .returned (.bool true) ∧ Aft w w' := by
  have HCg := Lib.hid (fun (l2 : out.length ≤ 40) (l3 : in'.length ≤ 40) (l4 : more.length ≤ 40) (wx : World) (ha : Aft w wx) => changed_any vi vo vn vm ids out in' more wx (hi.grow ha) (ho.grow ha) (hn.grow ha) (hm.grow ha) (by omega) (by omega) (by omega))
  have HW2 := Lib.hid w2
  have HW3 := Lib.hid w3
  have HW4 := Lib.hid w4
  have HWb := Lib.hid wb
  obtain ⟨ao, ac, rfl, -, -⟩ := hi.numS
  obtain ⟨oo, oc, rfl, -, -⟩ := ho.numS
  obtain ⟨no, nc, rfl, -, -⟩ := hn.numS
  obtain ⟨mo, mc, rfl, -, -⟩ := hm.numS
  have HL := Lib.hid (Led.start w)
  clear hi ho hn hm w2 w3 w4 wb
  go_enter Try.func6, Try.ntmps6
  go_wp2_with fail
  refine (live12_any _).mono ?_
  rintro e w3 ⟨rfl, h3⟩
  replace HL := Lib.hid (HL.out.call h3)
  clear h3
  go_upto_region 4 with fail
  go_cut [61] from 36 (fun s wc => ∃ b : Bool, s = .bool b ∧ (b = false → ids.length ≤ 100 ∧ out.length ≤ 40 ∧ in'.length ≤ 40 ∧ more.length ≤ 40 ∧ (kind = 1 ∨ kind = 2)) ∧ wc = w3)
  case first =>
    by_cases c1 : (100 : Int) < (ids.length : Nat)
    · go_wp2_with fail
      go_meet
      case rel => exact ⟨true, rfl, (fun h => by cases h), rfl⟩
    by_cases c2 : (40 : Int) < (out.length : Nat)
    · go_wp2_with fail
      go_meet
      case rel => exact ⟨true, rfl, (fun h => by cases h), rfl⟩
    by_cases c3 : (40 : Int) < (in'.length : Nat)
    · go_wp2_with fail
      go_meet
      case rel => exact ⟨true, rfl, (fun h => by cases h), rfl⟩
    by_cases c4 : (40 : Int) < (more.length : Nat)
    · go_wp2_with fail
      go_meet
      case rel => exact ⟨true, rfl, (fun h => by cases h), rfl⟩
    by_cases k1 : kind = 1
    · subst k1
      go_wp2_with fail
      go_meet
      case rel => exact ⟨false, rfl, fun _ => ⟨by omega, by omega, by omega, by omega, .inl (by trivial)⟩, rfl⟩
    by_cases k2 : kind = 2
    · subst k2
      go_wp2_with fail
      go_meet
      case rel => exact ⟨false, rfl, fun _ => ⟨by omega, by omega, by omega, by omega, .inr (by trivial)⟩, rfl⟩
    have e1 : (kind != 1) = true := by simpa using k1
    have e2 : (kind != 2) = true := by simpa using k2
    go_wp2_with fail
    go_meet
    case rel => exact ⟨true, rfl, (fun h => by cases h), rfl⟩
  case rest =>
    obtain ⟨b, rfl, hb, rfl⟩ := hcut
    cases b with
    | true =>
      go_wp2_with fail
      go_ret
      exact ⟨rfl, HL.out.aft⟩
    | false =>
      obtain ⟨l1, l2, l3, l4, hk⟩ := hb rfl
      have HKd := Lib.hid hk
      have HLo := Lib.hid l2
      have HLn := Lib.hid l3
      have HLm := Lib.hid l4
      clear hb l1 hk l2 l3 l4
      go_wp2_with fail
      refine (HCg.out HLo.out HLn.out HLm.out _ HL.out.aft).mono ?_
      rintro e w4 ⟨ids0, ls0, vi0, vl0, ids1, ls1, vi1, vl1, vt, T, rfl, h0, h1, ht, k0, k1, kc, kt, kl, h4⟩
      have HTl := Lib.hid (show (T ++ more).length ≤ 120 by rw [List.length_append]; have := HLo.out; have := HLn.out; have := HLm.out; omega)
      obtain ⟨TM, hTM⟩ : ∃ TM, TM = T ++ more := ⟨_, rfl⟩
      have HTM := Lib.hid hTM
      rw [← hTM] at ht HTl
      have HO0 := Lib.hid (h0.mono (Below.size HL.out.aft))
      have HO1 := Lib.hid (h1.mono (Below.size HL.out.aft))
      have HTt := Lib.hid (ht.mono (Below.size HL.out.aft))
      have HK0 := Lib.hid k0
      have HK1 := Lib.hid k1
      have HCh := Lib.hid kc
      have HTw := Lib.hid (show ∀ x ∈ TM, (Lit.int .i64 x).wf = true from fun x hx => by
        rw [HTM.out] at hx
        rcases List.mem_append.1 hx with hx | hx
        · rcases kt x hx with h | h
          · exact HW2.out x h
          · exact HW3.out x h
        · exact HW4.out x hx)
      have HWi := Lib.hid (ok_wf k0)
      have HWj := Lib.hid (ok_wf k1)
      have HI3 := Lib.hid k1.1.1
      obtain ⟨a5, c5, b5, d5, rfl, rfl⟩ := h0.shape
      obtain ⟨a7, c7, b7, d7, rfl, rfl⟩ := h1.shape
      obtain ⟨at5, ct5, rfl⟩ := ht.shape
      replace HL := Lib.hid (HL.out.call h4)
      clear h0 h1 ht k0 k1 kc kt kl h4 HCg hTM
      by_cases hz : 0 < ids1.length
      rotate_left
      · rw [decide_eq_false hz]
        go_wp2_with (first | (refine wpList_dstT 14 rfl ?_; refine wpList_allocO rfl 25 rfl (.cells (shpL (.slice none 0 0) (.slice none 0 0)).toArray 25) alloc_shp ?_; intro w5 aa gg zz; replace HO0 := Lib.hid (HO0.out.aft aa); replace HO1 := Lib.hid (HO1.out.aft aa); replace HTt := Lib.hid (HTt.out.aft aa); replace HL := Lib.hid (HL.out.alloc aa gg.out); clear aa gg zz; (try simp only [List.nil_append, List.cons_append, List.set_cons_zero, List.set_cons_succ] at HL)) | (refine wpList_dstT 15 rfl ?_; refine wpList_allocO rfl 25 rfl (.cells (shpL (.slice none 0 0) (.slice none 0 0)).toArray 25) alloc_shp ?_; intro w6 aa gg zz; replace HO0 := Lib.hid (HO0.out.aft aa); replace HO1 := Lib.hid (HO1.out.aft aa); replace HTt := Lib.hid (HTt.out.aft aa); replace HL := Lib.hid (HL.out.alloc aa gg.out); clear aa gg zz; (try simp only [List.nil_append, List.cons_append, List.set_cons_zero, List.set_cons_succ] at HL)) | (refine wpList_store_shp rfl (.tmp 14) (.tmp 69) _ _ _ (.slice a5 ids0.length c5) (.slice b5 ls0.length d5) rfl rfl rfl rfl rfl (HL.out.get 0 rfl) ?_; intro w7 q1 q2 q3; replace HO0 := Lib.hid (HO0.out.stored (HL.out.get 0 rfl) (by decide) (by decide) q2.out); replace HO1 := Lib.hid (HO1.out.stored (HL.out.get 0 rfl) (by decide) (by decide) q2.out); replace HTt := Lib.hid (HTt.out.storedP (HL.out.get 0 rfl) (by decide) q2.out); replace HL := Lib.hid (HL.out.store 0 rfl q1 q2 q3); clear q1 q2 q3; (try simp only [List.nil_append, List.cons_append, List.set_cons_zero, List.set_cons_succ] at HL)) | (refine wpList_store_shp rfl (.tmp 15) (.tmp 70) _ _ _ (.slice a7 ids1.length c7) (.slice b7 ls1.length d7) rfl rfl rfl rfl rfl (HL.out.get 1 rfl) ?_; intro w8 q1 q2 q3; replace HO0 := Lib.hid (HO0.out.stored (HL.out.get 1 rfl) (by decide) (by decide) q2.out); replace HO1 := Lib.hid (HO1.out.stored (HL.out.get 1 rfl) (by decide) (by decide) q2.out); replace HTt := Lib.hid (HTt.out.storedP (HL.out.get 1 rfl) (by decide) q2.out); replace HL := Lib.hid (HL.out.store 1 rfl q1 q2 q3); clear q1 q2 q3; (try simp only [List.nil_append, List.cons_append, List.set_cons_zero, List.set_cons_succ] at HL)))
        go_ret
        exact ⟨rfl, HL.out.aft⟩
      rw [decide_eq_true hz]
      have HZ := Lib.hid hz
      clear hz
      go_wp2_with (first | (refine wpList_dstT 14 rfl ?_; refine wpList_allocO rfl 25 rfl (.cells (shpL (.slice none 0 0) (.slice none 0 0)).toArray 25) alloc_shp ?_; intro w5 aa gg zz; replace HO0 := Lib.hid (HO0.out.aft aa); replace HO1 := Lib.hid (HO1.out.aft aa); replace HTt := Lib.hid (HTt.out.aft aa); replace HL := Lib.hid (HL.out.alloc aa gg.out); clear aa gg zz; (try simp only [List.nil_append, List.cons_append, List.set_cons_zero, List.set_cons_succ] at HL)) | (refine wpList_dstT 15 rfl ?_; refine wpList_allocO rfl 25 rfl (.cells (shpL (.slice none 0 0) (.slice none 0 0)).toArray 25) alloc_shp ?_; intro w6 aa gg zz; replace HO0 := Lib.hid (HO0.out.aft aa); replace HO1 := Lib.hid (HO1.out.aft aa); replace HTt := Lib.hid (HTt.out.aft aa); replace HL := Lib.hid (HL.out.alloc aa gg.out); clear aa gg zz; (try simp only [List.nil_append, List.cons_append, List.set_cons_zero, List.set_cons_succ] at HL)) | (refine wpList_store_shp rfl (.tmp 14) (.tmp 69) _ _ _ (.slice a5 ids0.length c5) (.slice b5 ls0.length d5) rfl rfl rfl rfl rfl (HL.out.get 0 rfl) ?_; intro w7 q1 q2 q3; replace HO0 := Lib.hid (HO0.out.stored (HL.out.get 0 rfl) (by decide) (by decide) q2.out); replace HO1 := Lib.hid (HO1.out.stored (HL.out.get 0 rfl) (by decide) (by decide) q2.out); replace HTt := Lib.hid (HTt.out.storedP (HL.out.get 0 rfl) (by decide) q2.out); replace HL := Lib.hid (HL.out.store 0 rfl q1 q2 q3); clear q1 q2 q3; (try simp only [List.nil_append, List.cons_append, List.set_cons_zero, List.set_cons_succ] at HL)) | (refine wpList_store_shp rfl (.tmp 15) (.tmp 70) _ _ _ (.slice a7 ids1.length c7) (.slice b7 ls1.length d7) rfl rfl rfl rfl rfl (HL.out.get 1 rfl) ?_; intro w8 q1 q2 q3; replace HO0 := Lib.hid (HO0.out.stored (HL.out.get 1 rfl) (by decide) (by decide) q2.out); replace HO1 := Lib.hid (HO1.out.stored (HL.out.get 1 rfl) (by decide) (by decide) q2.out); replace HTt := Lib.hid (HTt.out.storedP (HL.out.get 1 rfl) (by decide) q2.out); replace HL := Lib.hid (HL.out.store 1 rfl q1 q2 q3); clear q1 q2 q3; (try simp only [List.nil_append, List.cons_append, List.set_cons_zero, List.set_cons_succ] at HL)))
      obtain ⟨vs1, hq1, -, -⟩ := HO1.out
      have HI1 := Lib.hid hq1.ids.rd
      clear hq1
      obtain ⟨g7, o7, rfl, -, -⟩ := HI1.out.some_of (by rw [zv_length]; exact HZ.out)
      obtain ⟨ix, hix, eix⟩ := idx_ofP by' ids1.length HZ.out (by have := HI3.out; omega)
      have f1 := fun u : Later w8.heap.size w8 => shp_i (Aft.get u.h (HL.out.get 1 rfl))
      have f2 := fun u : Later w8.heap.size w8 => (HI1.out.grow u.h).num_at hix
      have HBi := Lib.hid (getD_memP hix)
      have HWz := Lib.hid (HWj.out _ HBi.out)
      generalize ids1.getD ix 0 = bz at *
      have hnz : ¬ ((ids1.length : Nat) : Int) = 0 := by omega
      have hil : (ix : Int) < (ids1.length : Nat) := by omega
      refine wp_region_lex (fun wz => ∃ u : Later w8.heap.size w8, wz = u.w) (fun i => ([] : List Nat).contains i) 17 (by kernel_rfl) (by kernel_rfl) ⟨⟨w8.drew, (Below.refl _ _).drew⟩, rfl⟩ ?_
      change wpLx _ _ _ _ _ _ _ _ _ w8.drew
      have HDa := Lib.hid (show Aft w8 w8.drew from (Below.refl _ _).drew)
      replace HL := Lib.hid (HL.out.call HDa.out)
      replace HO0 := Lib.hid (HO0.out.aft HDa.out)
      replace HO1 := Lib.hid (HO1.out.aft HDa.out)
      replace HTt := Lib.hid (HTt.out.aft HDa.out)
      generalize w8.drew = wd at *
      try simp only [Act.put, List.setIfInBounds_toArray, List.set_cons_succ, List.set_cons_zero]
      repeat (first | (refine lx_skipT (by go_big_quiet_skip; exact wpQuiet_nil trivial) (by kernel_rfl) ?_; simp only [Act.put, List.setIfInBounds_toArray, List.set_cons_succ, List.set_cons_zero]) | (refine lx_quietT rfl (by go_big_quiet_want; exact quiet_false (by assumption)) (by kernel_rfl) rfl ?_; intro Kx hKx; go_big_quiet_op; go_big_quiet_on))
      refine lx_done ?_
      clear f1 f2 eix hnz hil hix HDa HWb HI1 vs1
      go_upto_region 11 with (first | (refine wpList_dstT 95 rfl ?_; refine wpList_intSlice (by kernel_rfl) (.tmp 94) bz rfl rfl ?_; intro wS aS gS; replace HO0 := Lib.hid (HO0.out.aft aS); replace HO1 := Lib.hid (HO1.out.aft aS); replace HTt := Lib.hid (HTt.out.aft aS); replace HL := Lib.hid (HL.out.call aS); have HG := Lib.hid gS.out; clear aS gS) | (refine wpList_dstT 96 rfl ?_; refine wpList_snocI rfl (.tmp 93) (.tmp 95) rfl w.heap.size _ TM rfl HTt.out _ bz rfl HG.out (by have := HTl.out; omega) (Below.size HL.out.aft) ?_; intro gA cA wA k1 k2 k3; replace HL := Lib.hid (HL.out.frO HTt.out (Nat.le_refl _) k2.out rfl); replace HO0 := Lib.hid (HO0.out.app (vt' := .slice (some ⟨gA, 0, none⟩) (TM.length + 1) cA) HTt.out k2.out k3.out rfl); replace HO1 := Lib.hid (HO1.out.app (vt' := .slice (some ⟨gA, 0, none⟩) (TM.length + 1) cA) HTt.out k2.out k3.out rfl); have HTn := k1; clear k1 k2 k3 HTt HG))
      obtain ⟨TM2, hTM2⟩ : ∃ l, l = TM ++ [bz] := ⟨_, rfl⟩
      have hl2 : TM.length + 1 = TM2.length := by rw [hTM2, List.length_append]; rfl
      rw [hl2] at HTn ⊢
      rw [← hTM2] at HTn
      have HTt := HTn
      have HTw2 := Lib.hid (show ∀ x ∈ TM2, (Lit.int .i64 x).wf = true from fun x hx => by
        rw [hTM2] at hx
        rcases List.mem_append.1 hx with hx | hx
        · exact HTw.out x hx
        · rw [List.mem_singleton.1 hx]; exact HWz.out)
      have HTl2 := Lib.hid (show TM2.length ≤ 121 by rw [← hl2]; have := HTl.out; omega)
      clear hTM2 hl2 HTn HTw
      obtain ⟨vs0, hq0, -, -⟩ := HO0.out
      obtain ⟨vs1, hq1, -, -⟩ := HO1.out
      replace HO0 := Lib.hid hq0
      replace HO1 := Lib.hid hq1
      clear hq0 hq1
      go_wp2_with (first | (refine wpList_load_rowG (by kernel_rfl) 25 (.tmp 14) rfl _ rfl _ _ _ _ (HL.out.get 0 rfl) Try.underlying25 rfl (shp_info _ _) ?_) | (refine wpList_load_rowG (by kernel_rfl) 25 (.tmp 15) rfl _ rfl _ _ _ _ (HL.out.get 1 rfl) Try.underlying25 rfl (shp_info _ _) ?_))
      refine (make_any kind bz _ _ _ _ _ ids0 ls0 ids1 ls1 TM2 _ HO0.out.ids.rd HO0.out.lv.rd (small_of HK0.out) HO1.out.ids.rd HO1.out.lv.rd (small_of HK1.out) HTt.out.rd (by have := HI3.out; omega) HTw2.out HWz.out (make_pre HWi.out HWj.out)).mono ?_
      rintro e w9 (⟨-, vk, vs, ss, rfl, hkk, hS, hss, h6⟩ | ⟨hno, -, -⟩)
      rotate_left
      · exact absurd ⟨mayE_zero.2 ⟨HKd.out, HK0.out⟩, mayE_zero.2 ⟨HKd.out, HK1.out⟩, HBi.out⟩ hno
      have HK := Lib.hid (hkk.mono (Below.size HL.out.aft))
      have HSt := Lib.hid (hS.mono (Below.size HL.out.aft))
      have HN1 := Lib.hid (nodes_few (kind := kind) HK1.out)
      have HKl := Lib.hid (keepL_length (nodesL kind ids0 ls0) (lvT (nodesL kind ids0 ls0) ids0 TM2 bz) ids1 (nodesL kind ids1 ls1) (nodesL kind ids1 ls1).length)
      obtain ⟨ka, kc, rfl⟩ := hkk.shape
      obtain ⟨sa, sc, rfl⟩ := hS.shape
      replace HL := Lib.hid (HL.out.call h6)
      replace HO0 := Lib.hid (HO0.out.aft h6)
      replace HO1 := Lib.hid (HO1.out.aft h6)
      replace HTt := Lib.hid (HTt.out.aft h6)
      clear h6 hkk hS hss
      obtain ⟨kl, hkl⟩ : ∃ l, l = keepL (nodesL kind ids0 ls0) (lvT (nodesL kind ids0 ls0) ids0 TM2 bz) ids1 (nodesL kind ids1 ls1) (nodesL kind ids1 ls1).length := ⟨_, rfl⟩
      rw [← hkl] at HK HKl ⊢
      have HKe := Lib.hid hkl
      have HA9 := Lib.hid (Aft.refl w9)
      clear hkl
      go_wp2_with (first | (refine wpList_dstT 18 rfl ?_; refine wpList_allocO rfl 30 rfl (.cells (plR (.slice none 0 0) (.slice none 0 0)).toArray 30) alloc_pl ?_; intro w10 aa gg zz; replace HA9 := Lib.hid (Aft.trans HA9.out aa); replace HL := Lib.hid (HL.out.alloc aa gg.out); clear aa gg zz; (try simp only [List.nil_append, List.cons_append, List.set_cons_zero, List.set_cons_succ] at HL)) | (refine wpList_store_rowZ rfl 30 (.tmp 18) (.tmp 104) rfl _ (plR (.slice ka kl.length kc) (.slice sa ss.length sc)).toArray rfl rfl _ _ (HL.out.get 2 rfl) (pl_info _ _) rfl (all_one plR_one) ?_; intro w11 q1 q2 q3; replace HA9 := Lib.hid (q3 _ _ (Nat.le_refl _) HA9.out); replace HL := Lib.hid (HL.out.store 2 rfl q1 q2 q3); clear q1 q2 q3; (try simp only [List.nil_append, List.cons_append, List.set_cons_zero, List.set_cons_succ] at HL)) | (refine wpList_load_rowG (by kernel_rfl) 25 (.tmp 14) rfl _ rfl _ _ _ _ (HL.out.get 0 rfl) Try.underlying25 rfl (shp_info _ _) ?_))
      replace HO0 := Lib.hid (HO0.out.aft HA9.out)
      replace HO1 := Lib.hid (HO1.out.aft HA9.out)
      replace HTt := Lib.hid (HTt.out.aft HA9.out)
      replace HK := Lib.hid (HK.out.aft HA9.out)
      replace HSt := Lib.hid (HSt.out.aft HA9.out)
      clear HA9
      have hm0 := mayE_zero.2 ⟨HKd.out, HK0.out⟩
      have hm1 := mayE_zero.2 ⟨HKd.out, HK1.out⟩
      have HM0 := Lib.hid hm0
      have HM1 := Lib.hid hm1
      refine (rnodes_any kind _ _ ids0 ls0 _ HO0.out.ids.rd HO0.out.lv.rd (small_of HK0.out)).mono ?_
      rintro e w12 ⟨va, psA, rfl, hoA, hfA, h12⟩
      rw [HM0.out]
      rw [if_pos hm0] at hfA
      have HAn := Lib.hid hoA.rd
      obtain ⟨aa5, ac5, rfl⟩ := hoA.shape
      replace HL := Lib.hid (HL.out.call h12)
      replace HO0 := Lib.hid (HO0.out.aft h12)
      replace HO1 := Lib.hid (HO1.out.aft h12)
      replace HTt := Lib.hid (HTt.out.aft h12)
      replace HK := Lib.hid (HK.out.aft h12)
      clear hoA h12 HSt
      go_wp2_with (first | (refine wpList_load_rowG (by kernel_rfl) 25 (.tmp 15) rfl _ rfl _ _ _ _ (HL.out.get 1 rfl) Try.underlying25 rfl (shp_info _ _) ?_))
      refine (rnodes_any kind _ _ ids1 ls1 _ HO1.out.ids.rd HO1.out.lv.rd (small_of HK1.out)).mono ?_
      rintro e w13 ⟨vb, psB, rfl, hoB, hfB, h13⟩
      rw [HM1.out]
      rw [if_pos hm1] at hfB
      have HBn := Lib.hid hoB.rd
      obtain ⟨ab5, bc5, rfl⟩ := hoB.shape
      replace HL := Lib.hid (HL.out.call h13)
      replace HAn := Lib.hid (HAn.out.aft h13)
      have HI0 := Lib.hid (HO0.out.aft h13).ids.rd
      have HI1 := Lib.hid (HO1.out.aft h13).ids.rd
      have HT2 := Lib.hid (HTt.out.aft h13).rd
      have HKr := Lib.hid (HK.out.aft h13).rd
      have hpl : (psB.map Prod.fst).length = psB.length := List.length_map ..
      have hpa : (psA.map Prod.fst).length = psA.length := List.length_map ..
      have hkp : kl.length = psB.length := by rw [HKl.out, ← hfB, hpl]
      have HLaw := Lib.hid (fun (i : Nat) (hi : i < psB.length) => keeps_law (kind := kind) (by' := bz) (T := TM2) HK0.out HK1.out hfA hfB (K := kl) (by rw [HKe.out, hfA, hfB]) (i := i) (by rw [hpl]; exact hi))
      have HN2 := Lib.hid (show psB.length ≤ 90000 by rw [← hpl, hfB]; exact HN1.out)
      have HN3 := Lib.hid (show psA.length ≤ 90000 by rw [← hpa, hfA]; exact nodes_few (kind := kind) HK0.out)
      have HPa := Lib.hid hpa
      have HK3w := Lib.hid (show ∀ i, ((psB.map Prod.fst).getD i nd0).ks.length ≤ 3 from fun i => by rw [hfB]; exact nodes_k3 HK1.out i)
      have HI3' := Lib.hid (show ids0.length ≤ 1000 from HK0.out.1.1)
      clear hoB h13 HO0 HO1 HTt HK HKl HKe hfA hfB hpl hpa hm0 hm1 HM0 HM1 HN1
      rw [hkp]
      replace HL := Lib.hid (show Led w w13 [(w4.heap.size, (.cells (shpL (.slice a5 ids0.length c5) (.slice b5 ls0.length d5)).toArray 25)), (w5.heap.size, (.cells (shpL (.slice (some ⟨g7, o7, none⟩) ids1.length c7) (.slice b7 ls1.length d7)).toArray 25)), (w9.heap.size, .cells (plR (.slice ka psB.length kc) (.slice sa ss.length sc)).toArray 30)] by rw [← hkp]; exact HL.out)
      have HKp := Lib.hid hkp
      clear hkp
      have e0 := cell_part (n := 0) (HL.out.get 2 rfl) rfl
      go_wp2_with (first | (refine wpList_makeMapS (by kernel_rfl) rfl ?_; intro wM aM hM; have HAm := Lib.hid aM; have HSm := hM; have HLw := Lib.hid (HL.out.call aM); have e1 := cell_part (n := 0) (HLw.out.get 2 rfl) rfl; clear aM hM e0))
      clear e1
      go_loopw [140] (fun v140 wr => ∃ (i n : Nat) (xs : List Int), i ≤ psB.length ∧ v140 = .int .i64 (i : Int) ∧ n ≤ i ∧ SetM wr w13.heap.size n xs ∧ (∀ q ∈ xs, ∃ i' : Nat, i' < i ∧ kl.getD i' 0 = q) ∧ Aft w13 wr) (fun v _ => psB.length - (intOf v).toNat)
      case atStart => exact ⟨0, 0, [], Nat.zero_le _, rfl, Nat.le_refl _, HSm.out, (fun q hq => by cases hq), HAm.out⟩
      case round =>
        clear HSm HAm HLw
        obtain ⟨i, n, xs, hi, rfl, hn, hS, hxs, hA⟩ := hrel
        have HS := Lib.hid hS
        have HA := Lib.hid hA
        have HXs := Lib.hid hxs
        have HNi := Lib.hid hn
        clear hS hA hxs hn
        by_cases hlt : i < psB.length
        · have hlt' : (i : Int) < (psB.length : Nat) := by omega
          have hi9 : i ≤ 90000 := by have := HN2.out; omega
          obtain ⟨b, o, rfl, -, -⟩ := HKr.out.some_of (by rw [zv_length, HKp.out]; omega)
          have hck := (HKr.out.grow HA.out).num_at (i := i) (by rw [HKp.out]; exact hlt)
          rcases HLaw.out i hlt with hkk | ⟨j, x0, y0, x1, y1, hkk, hkt⟩
          · rw [hkk] at hck
            clear hkk
            go_wp2_with fail
            go_roundw
            case rel => exact ⟨i + 1, n, xs, by omega, by go_num, by have := HNi.out; omega, HS.out, (fun q hq => by obtain ⟨i', h1, h2⟩ := HXs.out q hq; exact ⟨i', by omega, h2⟩), HA.out⟩
            case measure => simp [intOf]; omega
          · rw [hkk] at hck
            have HKk := Lib.hid hkk
            have hjA : j < psA.length := by rw [← HPa.out]; exact hkt.lt
            obtain ⟨gA, oA, c4, he, hrgA⟩ := HAn.out.rngP hjA
            injection he with he1 he2 he3
            subst he1 he3
            obtain ⟨gB, oB, c5', he, hrgB⟩ := HBn.out.rngP hlt
            injection he with he1 he2' he3
            subst he1 he3
            have hkv := HBn.out.kid _ (ndP_mem hlt)
            have fA0 : (psA.getD j ndP).1.fr = (x0 : Int) := by rw [← fst_getD]; exact hkt.f0
            have fA1 : (psA.getD j ndP).1.tt = (y0 : Int) := by rw [← fst_getD]; exact hkt.t0
            have fB0 : (psB.getD i ndP).1.fr = (x1 : Int) := by rw [← fst_getD]; exact hkt.f1
            have fB1 : (psB.getD i ndP).1.tt = (y1 : Int) := by rw [← fst_getD]; exact hkt.t1
            have fB2 : ∀ z ∈ (psB.getD i ndP).1.ks, ∃ q : Nat, z = (q : Int) ∧ q < i ∧ 0 ≤ kl.getD q 0 := fun z hz => hkt.kd z (by rw [fst_getD]; exact hz)
            have CA3 := Lib.hid (fun (wx : World) (ha : Aft w13 wx) => show wx.cell? ⟨gA, oA + j * 7 + 3, none⟩ = some (.int .i64 (x0 : Int)) by rw [← fA0]; exact hrgA wx ha 3 _ rfl)
            have CA4 := Lib.hid (fun (wx : World) (ha : Aft w13 wx) => show wx.cell? ⟨gA, oA + j * 7 + 4, none⟩ = some (.int .i64 (y0 : Int)) by rw [← fA1]; exact hrgA wx ha 4 _ rfl)
            have CB3 := Lib.hid (fun (wx : World) (ha : Aft w13 wx) => show wx.cell? ⟨gB, oB + i * 7 + 3, none⟩ = some (.int .i64 (x1 : Int)) by rw [← fB0]; exact hrgB wx ha 3 _ rfl)
            have CB4 := Lib.hid (fun (wx : World) (ha : Aft w13 wx) => show wx.cell? ⟨gB, oB + i * 7 + 4, none⟩ = some (.int .i64 (y1 : Int)) by rw [← fB1]; exact hrgB wx ha 4 _ rfl)
            have CB5 := Lib.hid (fun (wx : World) (ha : Aft w13 wx) => show wx.cell? ⟨gB, oB + i * 7 + 5, none⟩ = some (psB.getD i ndP).2 from hrgB wx ha 5 _ rfl)
            have HKt := Lib.hid hkt
            have HKv := Lib.hid hkv
            have HKs := Lib.hid fB2
            have HK3 := Lib.hid (show (psB.getD i ndP).1.ks.length ≤ 3 by rw [← fst_getD]; exact HK3w.out i)
            generalize (psB.getD i ndP).1.ks = ks at *
            generalize (psB.getD i ndP).2 = kv at *
            obtain ⟨l, hl⟩ : ∃ l, l = y1 - x1 := ⟨_, rfl⟩
            have hw0 : wrap64 ((y0 : Int) - (x0 : Int)) = (l : Int) := wrap_sub (by have := hkt.ln; omega) (by have := hkt.b0; omega) (by have := hkt.b0; have := HI3'.out; omega)
            have hw1 : wrap64 ((y1 : Int) - (x1 : Int)) = (l : Int) := wrap_sub hl.symm (by have := hkt.b1; omega) (by have := hkt.b1; have := HI3.out; omega)
            have HLe := Lib.hid hl
            have hjw : (Lit.int .i64 (j : Int)).wf = true := wf_int (by omega) (by have := HN3.out; omega)
            have HJw := Lib.hid hjw
            have HNot := Lib.hid (show (j : Int) ∉ xs from fun hq => by
              obtain ⟨i', h1, h2⟩ := HXs.out _ hq
              exact hkt.one i' h1 h2)
            have hge : decide (psA.length ≤ j) = false := decide_eq_false (by omega)
            have hge2 : decide (((psA.length : Nat) : Int) ≤ (j : Int)) = false := decide_eq_false (by omega)
            have hjA' : (j : Int) < (psA.length : Nat) := by omega
            clear hkt hkv fA0 fA1 fB0 fB1 fB2 hrgA hrgB he2 he2' hl hjw hkk
            go_wp2_with fail
            clear hck
            have g1 := fun u : Later wr.heap.size wr => CA3.out u.w (Aft.trans HA.out u.h)
            have g2 := fun u : Later wr.heap.size wr => CA4.out u.w (Aft.trans HA.out u.h)
            have g3 := fun u : Later wr.heap.size wr => CB3.out u.w (Aft.trans HA.out u.h)
            have g4 := fun u : Later wr.heap.size wr => CB4.out u.w (Aft.trans HA.out u.h)
            have g5 := fun u : Later wr.heap.size wr => (show (Instr.lookup 54 (.map (some w13.heap.size)) (.int .i64 (j : Int)) false).run Try.prog u.w = .ok (.bool false) u.w by have h := (HS.out.aft u.h).look HJw.out; rw [decide_eq_false HNot.out] at h; exact h)
            have HS2 := Lib.hid (HS.out.aft (show Aft wr wr.drew from (Below.refl _ _).drew))
            refine wp_region_lex (fun wz => ∃ u : Later wr.heap.size wr, wz = u.w) (fun i => ([] : List Nat).contains i) 34 (by kernel_rfl) (by kernel_rfl) ⟨⟨wr.drew, (Below.refl _ _).drew⟩, rfl⟩ ?_
            change wpLx _ _ _ _ _ _ _ _ _ wr.drew
            have HA2 := Lib.hid (Aft.trans HA.out (show Aft wr wr.drew from (Below.refl _ _).drew))
            generalize wr.drew = wd2 at *
            try simp only [Act.put, List.setIfInBounds_toArray, List.set_cons_succ, List.set_cons_zero]
            repeat (first | (refine lx_skipT (by go_big_quiet_skip; exact wpQuiet_nil trivial) (by kernel_rfl) ?_; simp only [Act.put, List.setIfInBounds_toArray, List.set_cons_succ, List.set_cons_zero]) | (refine lx_quietT rfl (by go_big_quiet_want; exact quiet_false (by assumption)) (by kernel_rfl) rfl ?_; intro Kx hKx; go_big_quiet_op; go_big_quiet_on))
            refine lx_done ?_
            clear g1 g2 g3 g4 g5 hge hge2 hw0
            go_wp2_with (first | (refine wpList_putS rfl (.tmp 181) (.tmp 182) (.const (.bool true)) rfl w13.heap.size n xs ((j : Int) :: xs) rfl HS2.out (j : Int) rfl HJw.out rfl (by have := HNi.out; have := HN2.out; omega) HNot.out (fun q => List.mem_cons) rfl ?_; intro wQ k1 k2; have HS3 := k1; have HA3 := Lib.hid (aft_grown HA2.out (Nat.le_refl _) k2.out); clear k1 k2))
            have g3 := fun u : Later wQ.heap.size wQ => CB3.out u.w (Aft.trans HA3.out u.h)
            have g4 := fun u : Later wQ.heap.size wQ => CB4.out u.w (Aft.trans HA3.out u.h)
            have HS4 := Lib.hid (HS3.out.aft (show Aft wQ wQ.drew from (Below.refl _ _).drew))
            refine wp_region_lex (fun wz => ∃ u : Later wQ.heap.size wQ, wz = u.w) (fun i => ([] : List Nat).contains i) 12 (by kernel_rfl) (by kernel_rfl) ⟨⟨wQ.drew, (Below.refl _ _).drew⟩, rfl⟩ ?_
            change wpLx _ _ _ _ _ _ _ _ _ wQ.drew
            have HA4 := Lib.hid (Aft.trans HA3.out (show Aft wQ wQ.drew from (Below.refl _ _).drew))
            generalize wQ.drew = wd3 at *
            try simp only [Act.put, List.setIfInBounds_toArray, List.set_cons_succ, List.set_cons_zero]
            repeat (first | (refine lx_skipT (by go_big_quiet_skip; exact wpQuiet_nil trivial) (by kernel_rfl) ?_; simp only [Act.put, List.setIfInBounds_toArray, List.set_cons_succ, List.set_cons_zero]) | (refine lx_quietT rfl (by go_big_quiet_want; exact quiet_false (by assumption)) (by kernel_rfl) rfl ?_; intro Kx hKx; go_big_quiet_op; go_big_quiet_on))
            refine lx_done ?_
            rw [hw1]
            clear g3 g4 hw1
            go_wp2_with fail
            go_loopw [194] (fun v194 wz => ∃ m : Nat, m ≤ l ∧ v194 = .int .i64 (m : Int) ∧ Aft wd3 wz) (fun v _ => l - (intOf v).toNat)
            case atStart => exact ⟨0, Nat.zero_le _, rfl, Aft.refl _⟩
            case round =>
              obtain ⟨m, hm, rfl, hAz⟩ := hrel
              have HAz := Lib.hid (Aft.trans HA4.out hAz)
              have HAy := Lib.hid hAz
              clear hAz
              by_cases hmt : m < l
              · have hmt' : (m : Int) < (l : Int) := by omega
                have hm9 : m ≤ 1000 := by have := HKt.out.b1; have := HLe.out; have := HI3.out; omega
                obtain ⟨p1, hp1⟩ : ∃ p, p = x1 + m := ⟨_, rfl⟩
                obtain ⟨p0, hp0⟩ : ∃ p, p = x0 + m := ⟨_, rfl⟩
                have hq := HKt.out.same m (by have := HLe.out; omega)
                rw [← hp1, ← hp0] at hq
                have hp1l : p1 < ids1.length := by have := HKt.out.b1; have := HLe.out; omega
                have hp0l : p0 < ids0.length := by have := HKt.out.b0; have := HKt.out.ln; have := HLe.out; omega
                obtain ⟨b0, o0, rfl, -, -⟩ := HI0.out.some_of (by rw [zv_length]; omega)
                have CI1 := Lib.hid (fun (wx : World) (ha : Aft w13 wx) => (HI1.out.grow ha).num_at hp1l)
                have CI0 := Lib.hid (fun (wx : World) (ha : Aft w13 wx) => show wx.cell? ⟨b0, o0 + p0, none⟩ = some (.int .i64 (ids1.getD p1 0)) by rw [← hq.1]; exact (HI0.out.grow ha).num_at hp0l)
                have HQT := Lib.hid hq.2.1
                generalize ids1.getD p1 0 = q at *
                have hp1' : (p1 : Int) < (ids1.length : Nat) := by omega
                have hp0' : (p0 : Int) < (ids0.length : Nat) := by omega
                have HLz := Lib.hid (HL.out.call HAz.out)
                have hb2 : p1 ≤ 1000000 := by have := HI3.out; omega
                have hb3 : p0 ≤ 1000000 := by have := HI3'.out; omega
                have hw2 : wrap64 ((x1 : Int) + (m : Int)) = (p1 : Int) := wrap_add hp1 hb2
                have hw3 : wrap64 ((x0 : Int) + (m : Int)) = (p0 : Int) := wrap_add hp0 hb3
                clear hq hp1 hp0 hp1l hp0l hb2 hb3
                go_wp2_with fail
                have g1 := fun u : Later wr.heap.size wr => shp_i (Aft.get u.h (HLz.out.get 1 rfl))
                have g2 := fun u : Later wr.heap.size wr => CB3.out u.w (Aft.trans HAz.out u.h)
                have g3 := fun u : Later wr.heap.size wr => CI1.out u.w (Aft.trans HAz.out u.h)
                refine wp_region_lex (fun wz => ∃ u : Later wr.heap.size wr, wz = u.w) (fun i => ([] : List Nat).contains i) 11 (by kernel_rfl) (by kernel_rfl) ⟨⟨wr.drew, (Below.refl _ _).drew⟩, rfl⟩ ?_
                change wpLx _ _ _ _ _ _ _ _ _ wr.drew
                have HA5 := Lib.hid (Aft.trans HAz.out (show Aft wr wr.drew from (Below.refl _ _).drew))
                have HY5 := Lib.hid (Aft.trans HAy.out (show Aft wr wr.drew from (Below.refl _ _).drew))
                generalize wr.drew = wd5 at *
                try simp only [Act.put, List.setIfInBounds_toArray, List.set_cons_succ, List.set_cons_zero]
                repeat (first | (refine lx_skipT (by go_big_quiet_skip; exact wpQuiet_nil trivial) (by kernel_rfl) ?_; simp only [Act.put, List.setIfInBounds_toArray, List.set_cons_succ, List.set_cons_zero]) | (refine lx_quietT rfl (by go_big_quiet_want; exact quiet_false (by assumption)) (by kernel_rfl) rfl ?_; intro Kx hKx; go_big_quiet_op; go_big_quiet_on))
                refine lx_done ?_
                clear g1 g2 g3 hw2 hp1'
                go_wp2_with fail
                have HL5 := Lib.hid (HL.out.call HA5.out)
                have g1 := fun u : Later wd5.heap.size wd5 => shp_i (Aft.get u.h (HL5.out.get 0 rfl))
                have g2 := fun u : Later wd5.heap.size wd5 => CA3.out u.w (Aft.trans HA5.out u.h)
                have g3 := fun u : Later wd5.heap.size wd5 => CI0.out u.w (Aft.trans HA5.out u.h)
                refine wp_region_lex (fun wz => ∃ u : Later wd5.heap.size wd5, wz = u.w) (fun i => ([] : List Nat).contains i) 13 (by kernel_rfl) (by kernel_rfl) ⟨⟨wd5.drew, (Below.refl _ _).drew⟩, rfl⟩ ?_
                change wpLx _ _ _ _ _ _ _ _ _ wd5.drew
                have HA6 := Lib.hid (Aft.trans HA5.out (show Aft wd5 wd5.drew from (Below.refl _ _).drew))
                have HY6 := Lib.hid (Aft.trans HY5.out (show Aft wd5 wd5.drew from (Below.refl _ _).drew))
                generalize wd5.drew = wd6 at *
                try simp only [Act.put, List.setIfInBounds_toArray, List.set_cons_succ, List.set_cons_zero]
                repeat (first | (refine lx_skipT (by go_big_quiet_skip; exact wpQuiet_nil trivial) (by kernel_rfl) ?_; simp only [Act.put, List.setIfInBounds_toArray, List.set_cons_succ, List.set_cons_zero]) | (refine lx_quietT rfl (by go_big_quiet_want; exact quiet_false (by assumption)) (by kernel_rfl) rfl ?_; intro Kx hKx; go_big_quiet_op; go_big_quiet_on))
                refine lx_done ?_
                clear g1 g2 g3 hw3 hp0'
                go_wp2_with fail
                go_loopw [223] (fun v223 wz => ∃ r : Nat, r ≤ TM2.length ∧ v223 = .int .i64 (r : Int) ∧ Aft wd6 wz) (fun v _ => TM2.length - (intOf v).toNat)
                case atStart => exact ⟨0, Nat.zero_le _, rfl, Aft.refl _⟩
                case round =>
                  obtain ⟨r, hr, rfl, hAr⟩ := hrel
                  have HAr := Lib.hid hAr
                  clear hAr
                  by_cases hrt : r < TM2.length
                  · have hrt' : (r : Int) < (TM2.length : Nat) := by omega
                    have hr9 : r ≤ 1000 := by have := HTl2.out; omega
                    have hct := (HT2.out.grow (Aft.trans HA6.out HAr.out)).num_at hrt
                    rw [Nat.zero_add] at hct
                    have hne : ¬ TM2.getD r 0 = q := fun e => HQT.out (by rw [← e]; exact getD_memP hrt)
                    generalize TM2.getD r 0 = t at *
                    have hnb : (t == q) = false := by simpa using hne
                    go_wp2_with fail
                    go_roundw
                    case rel => exact ⟨r + 1, by omega, by go_num, HAr.out⟩
                    case measure => simp [intOf]; omega
                  · obtain rfl : r = TM2.length := by omega
                    have hrt' : ¬ ((TM2.length : Nat) : Int) < (TM2.length : Nat) := by omega
                    go_wp2_with fail
                    go_roundw
                    case rel => exact ⟨m + 1, by omega, by go_num, Aft.trans HY6.out HAr.out⟩
                    case measure => simp [intOf]; omega
              · have hml : m = l := by omega
                subst hml
                have hmt' : ¬ (m : Int) < (m : Int) := by omega
                obtain ⟨qa, qc, rfl, -, -⟩ := HKv.out.numS
                have g5 := CB5.out wr HAz.out
                go_wp2_with fail
                clear g5
                go_loopw [238] (fun v238 wz => ∃ r : Nat, r ≤ ks.length ∧ v238 = .int .i64 (r : Int) ∧ Aft w13 wz ∧ Aft wd3 wz) (fun v _ => ks.length - (intOf v).toNat)
                case atStart => exact ⟨0, Nat.zero_le _, rfl, HAz.out, HAy.out⟩
                case round =>
                  clear HAz HAy
                  obtain ⟨r, hr, rfl, hAr, hAs⟩ := hrel
                  have HAr := Lib.hid hAr
                  have HAs := Lib.hid hAs
                  clear hAr hAs
                  by_cases hrt : r < ks.length
                  · have hrt' : (r : Int) < (ks.length : Nat) := by omega
                    have hr9 : r ≤ 3 := by have := HK3.out; omega
                    obtain ⟨bk, ok, rfl, -, -⟩ := HKv.out.some_of (by rw [zv_length]; omega)
                    have hct := (HKv.out.grow HAr.out).num_at hrt
                    obtain ⟨q, hq1, hq2, hq3⟩ := HKs.out _ (getD_memP hrt)
                    rw [hq1] at hct
                    have hqk : q < kl.length := by have := HKp.out; omega
                    have hck := (HKr.out.grow HAr.out).num_at (i := q) hqk
                    have hqb : (q : Int) < (psB.length : Nat) := by omega
                    generalize kl.getD q 0 = v at *
                    have hv : ¬ v < 0 := by omega
                    have e0 := cell_part (n := 0) ((HL.out.call HAr.out).get 2 rfl) rfl
                    clear hq1 hq2 hq3 hqk
                    go_wp2_with fail
                    go_roundw
                    case rel => exact ⟨r + 1, by omega, by go_num, HAr.out, HAs.out⟩
                    case measure => simp [intOf]; omega
                  · obtain rfl : r = ks.length := by omega
                    have hrt' : ¬ ((ks.length : Nat) : Int) < (ks.length : Nat) := by omega
                    go_wp2_with fail
                    go_roundw
                    case rel => exact ⟨i + 1, n + 1, (j : Int) :: xs, by omega, by go_num, by have := HNi.out; omega, HS4.out.aft HAs.out, (fun q hq => by
                      rcases List.mem_cons.1 hq with e | hq
                      · exact ⟨i, Nat.lt_succ_self i, by rw [e]; exact HKk.out⟩
                      · obtain ⟨i', h1, h2⟩ := HXs.out q hq
                        exact ⟨i', by omega, h2⟩), HAr.out⟩
                    case measure => simp [intOf]; omega
        · obtain rfl : i = psB.length := by omega
          have hlt' : ¬ ((psB.length : Nat) : Int) < (psB.length : Nat) := by omega
          go_wp2_with fail
          go_ret
          exact ⟨rfl, (HL.out.call HA.out).aft⟩
end Go.Proofs.Ytfgammcefaomeaa
