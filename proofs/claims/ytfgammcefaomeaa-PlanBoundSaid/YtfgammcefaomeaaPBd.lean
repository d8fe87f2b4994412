/- PlanBound of law 12. -/
import Derived.Deep.Cut
import Derived.Test.YtfgammcefaomeaaPB4
import Derived.Test.YtfgammcefaomeaaPB5
import Derived.Test.YtfgammcefaomeaaP16
namespace Go.Proofs.Ytfgammcefaomeaa
open Go Go.RowKit
set_option linter.unusedSimpArgs false
theorem ok_wf {ids : List Int} {ls : List (List Int)} (h : OkT ids ls) : ∀ x ∈ ids, (Lit.int .i64 x).wf = true := fun x hx => by
  have := h.1.2.1 x hx
  exact wf_int (by omega) (by omega)
theorem idx_ofP (z : Int) (L : Nat) (h : 0 < L) (h2 : L ≤ 2000) : ∃ k : Nat, k < L ∧ (wrap64 (z.tmod (L : Int) + (L : Int))).tmod (L : Int) = (k : Int) := by
  have hL : (0 : Int) < (L : Int) := by omega
  have h3 := Int.tmod_lt_of_pos z hL
  have h4 := Int.lt_tmod_of_pos z hL
  rw [IntWalk.wrap64_in _ ⟨by omega, by omega⟩]
  have h5 := Int.tmod_lt_of_pos (z.tmod (L : Int) + (L : Int)) hL
  have h6 := Int.tmod_nonneg (L : Int) (show 0 ≤ z.tmod (L : Int) + (L : Int) by omega)
  exact ⟨((z.tmod (L : Int) + (L : Int)).tmod (L : Int)).toNat, by omega, by omega⟩
theorem stp_sd {A B : List Nd} {f : Int → Option Int} {ids : List Int} {by' : Int} (hk : ∀ i, (B.getD i nd0).ks.length ≤ 3) : ∀ n, ∀ p ∈ stpL A f ids B by' n, p.sd.length ≤ 3
  | 0, p, hp => by cases hp
  | n + 1, p, hp => by
    rw [stpL] at hp
    rcases List.mem_append.1 hp with hp | hp
    · exact stp_sd hk n p hp
    · split at hp
      · rw [List.mem_singleton.1 hp]
        exact Nat.le_trans (step_few _) (hk n)
      · cases hp
set_option maxRecDepth 100000 in
set_option maxHeartbeats 8000000 in
theorem planBound_any (kind by' : Int) (vi vo vn vm : Value) (ids out in' more : List Int) (w : World) (hi : Rd w vi (zv ids)) (ho : Rd w vo (zv out)) (hn : Rd w vn (zv in')) (hm : Rd w vm (zv more)) (w2 : ∀ x ∈ out, (Lit.int .i64 x).wf = true) (w3 : ∀ x ∈ in', (Lit.int .i64 x).wf = true) (w4 : ∀ x ∈ more, (Lit.int .i64 x).wf = true) (wb : (Lit.int .i64 by').wf = true) :
    Calls Try.prog 9 #[.int .i64 kind, vi, vo, vn, vm, .int .i64 by'] w fun e w' => e = .returned (.bool true) ∧ Aft w w' := by
  have HCg := Lib.hid (fun (l2 : out.length ≤ 40) (l3 : in'.length ≤ 40) (l4 : more.length ≤ 40) (wx : World) (ha : Aft w wx) => changed_any vi vo vn vm ids out in' more wx (hi.grow ha) (ho.grow ha) (hn.grow ha) (hm.grow ha) (by omega) (by omega) (by omega))
  have HW2 := Lib.hid w2
  have HW3 := Lib.hid w3
  have HW4 := Lib.hid w4
  have HWb := Lib.hid wb
  obtain ⟨ao, ac, rfl, -, -⟩ := hi.numS
  obtain ⟨oo, oc, rfl, -, -⟩ := ho.numS
  obtain ⟨no, nc, rfl, -, -⟩ := hn.numS
  obtain ⟨mo, mc, rfl, -, -⟩ := hm.numS
  have HL := Lib.hid (Led.start w)
  clear hi ho hn hm w2 w3 w4 wb
  go_enter Try.func9, Try.ntmps9
  go_wp2_with fail
  refine (live12_any _).mono ?_
  rintro e w3 ⟨rfl, h3⟩
  replace HL := Lib.hid (HL.out.call h3)
  clear h3
  go_upto_region 4 with fail
  go_cut [50] from 25 (fun s wc => ∃ b : Bool, s = .bool b ∧ (b = false → ids.length ≤ 100 ∧ out.length ≤ 40 ∧ in'.length ≤ 40 ∧ more.length ≤ 40 ∧ (kind = 1 ∨ kind = 2)) ∧ wc = w3)
  case first =>
    by_cases c1 : (100 : Int) < (ids.length : Nat)
    · go_wp2_with fail
      go_meet
      case rel => exact ⟨true, rfl, (fun h => by cases h), rfl⟩
    by_cases c2 : (40 : Int) < (out.length : Nat)
    · go_wp2_with fail
      go_meet
      case rel => exact ⟨true, rfl, (fun h => by cases h), rfl⟩
    by_cases c3 : (40 : Int) < (in'.length : Nat)
    · go_wp2_with fail
      go_meet
      case rel => exact ⟨true, rfl, (fun h => by cases h), rfl⟩
    by_cases c4 : (40 : Int) < (more.length : Nat)
    · go_wp2_with fail
      go_meet
      case rel => exact ⟨true, rfl, (fun h => by cases h), rfl⟩
    by_cases k1 : kind = 1
    · subst k1
      go_wp2_with fail
      go_meet
      case rel => exact ⟨false, rfl, fun _ => ⟨by omega, by omega, by omega, by omega, .inl (by trivial)⟩, rfl⟩
    by_cases k2 : kind = 2
    · subst k2
      go_wp2_with fail
      go_meet
      case rel => exact ⟨false, rfl, fun _ => ⟨by omega, by omega, by omega, by omega, .inr (by trivial)⟩, rfl⟩
    have e1 : (kind != 1) = true := by simpa using k1
    have e2 : (kind != 2) = true := by simpa using k2
    go_wp2_with fail
    go_meet
    case rel => exact ⟨true, rfl, (fun h => by cases h), rfl⟩
  case rest =>
    obtain ⟨b, rfl, hb, rfl⟩ := hcut
    cases b with
    | true =>
      go_wp2_with fail
      go_ret
      exact ⟨rfl, HL.out.aft⟩
    | false =>
      obtain ⟨l1, l2, l3, l4, hk⟩ := hb rfl
      have HKd := Lib.hid hk
      have HLo := Lib.hid l2
      have HLn := Lib.hid l3
      have HLm := Lib.hid l4
      clear hb l1 hk l2 l3 l4
      go_wp2_with fail
      refine (HCg.out HLo.out HLn.out HLm.out _ HL.out.aft).mono ?_
      rintro e w4 ⟨ids0, ls0, vi0, vl0, ids1, ls1, vi1, vl1, vt, T, vs0, vs1, rfl, h0, h1, ht, k0, k1, kc, kt, kl, h4⟩
      have HTl := Lib.hid (show (T ++ more).length ≤ 120 by rw [List.length_append]; have := HLo.out; have := HLn.out; have := HLm.out; omega)
      obtain ⟨TM, hTM⟩ : ∃ TM, TM = T ++ more := ⟨_, rfl⟩
      have HTM := Lib.hid hTM
      rw [← hTM] at ht HTl
      have HO0 := Lib.hid (h0.mono (Below.size HL.out.aft))
      have HO1 := Lib.hid (h1.mono (Below.size HL.out.aft))
      have HTt := Lib.hid (ht.mono (Below.size HL.out.aft))
      have HK0 := Lib.hid k0
      have HK1 := Lib.hid k1
      have HCh := Lib.hid kc
      have HTw := Lib.hid (show ∀ x ∈ TM, (Lit.int .i64 x).wf = true from fun x hx => by
        rw [HTM.out] at hx
        rcases List.mem_append.1 hx with hx | hx
        · rcases kt x hx with h | h
          · exact HW2.out x h
          · exact HW3.out x h
        · exact HW4.out x hx)
      have HWi := Lib.hid (ok_wf k0)
      have HWj := Lib.hid (ok_wf k1)
      have HI3 := Lib.hid k1.1.1
      obtain ⟨a5, c5, b5, d5, rfl, rfl⟩ := h0.shape
      obtain ⟨a7, c7, b7, d7, rfl, rfl⟩ := h1.shape
      obtain ⟨at5, ct5, rfl⟩ := ht.shape
      replace HL := Lib.hid (HL.out.call h4)
      clear h0 h1 ht k0 k1 kc kt kl h4 HCg hTM
      by_cases hz : 0 < ids1.length
      rotate_left
      · rw [decide_eq_false hz]
        go_wp2_with (first | (refine wpList_dstT 14 rfl ?_; refine wpList_allocO rfl 25 rfl (.cells (shpL (.slice none 0 0) (.slice none 0 0)).toArray 25) alloc_shp ?_; intro w5 aa gg zz; replace HO0 := Lib.hid (HO0.out.aft aa); replace HO1 := Lib.hid (HO1.out.aft aa); replace HTt := Lib.hid (HTt.out.aft aa); replace HL := Lib.hid (HL.out.alloc aa gg.out); clear aa gg zz; (try simp only [List.nil_append, List.cons_append, List.set_cons_zero, List.set_cons_succ] at HL)) | (refine wpList_dstT 15 rfl ?_; refine wpList_allocO rfl 25 rfl (.cells (shpL (.slice none 0 0) (.slice none 0 0)).toArray 25) alloc_shp ?_; intro w6 aa gg zz; replace HO0 := Lib.hid (HO0.out.aft aa); replace HO1 := Lib.hid (HO1.out.aft aa); replace HTt := Lib.hid (HTt.out.aft aa); replace HL := Lib.hid (HL.out.alloc aa gg.out); clear aa gg zz; (try simp only [List.nil_append, List.cons_append, List.set_cons_zero, List.set_cons_succ] at HL)) | (refine wpList_store_shp rfl (.tmp 14) (.tmp 58) _ _ _ (.slice a5 ids0.length c5) (.slice b5 ls0.length d5) rfl rfl rfl rfl rfl (HL.out.get 0 rfl) ?_; intro w7 q1 q2 q3; replace HO0 := Lib.hid (HO0.out.stored (HL.out.get 0 rfl) (by decide) (by decide) q2.out); replace HO1 := Lib.hid (HO1.out.stored (HL.out.get 0 rfl) (by decide) (by decide) q2.out); replace HTt := Lib.hid (HTt.out.storedP (HL.out.get 0 rfl) (by decide) q2.out); replace HL := Lib.hid (HL.out.store 0 rfl q1 q2 q3); clear q1 q2 q3; (try simp only [List.nil_append, List.cons_append, List.set_cons_zero, List.set_cons_succ] at HL)) | (refine wpList_store_shp rfl (.tmp 15) (.tmp 59) _ _ _ (.slice a7 ids1.length c7) (.slice b7 ls1.length d7) rfl rfl rfl rfl rfl (HL.out.get 1 rfl) ?_; intro w8 q1 q2 q3; replace HO0 := Lib.hid (HO0.out.stored (HL.out.get 1 rfl) (by decide) (by decide) q2.out); replace HO1 := Lib.hid (HO1.out.stored (HL.out.get 1 rfl) (by decide) (by decide) q2.out); replace HTt := Lib.hid (HTt.out.storedP (HL.out.get 1 rfl) (by decide) q2.out); replace HL := Lib.hid (HL.out.store 1 rfl q1 q2 q3); clear q1 q2 q3; (try simp only [List.nil_append, List.cons_append, List.set_cons_zero, List.set_cons_succ] at HL)))
        go_ret
        exact ⟨rfl, HL.out.aft⟩
      rw [decide_eq_true hz]
      have HZ := Lib.hid hz
      clear hz
      go_wp2_with (first | (refine wpList_dstT 14 rfl ?_; refine wpList_allocO rfl 25 rfl (.cells (shpL (.slice none 0 0) (.slice none 0 0)).toArray 25) alloc_shp ?_; intro w5 aa gg zz; replace HO0 := Lib.hid (HO0.out.aft aa); replace HO1 := Lib.hid (HO1.out.aft aa); replace HTt := Lib.hid (HTt.out.aft aa); replace HL := Lib.hid (HL.out.alloc aa gg.out); clear aa gg zz; (try simp only [List.nil_append, List.cons_append, List.set_cons_zero, List.set_cons_succ] at HL)) | (refine wpList_dstT 15 rfl ?_; refine wpList_allocO rfl 25 rfl (.cells (shpL (.slice none 0 0) (.slice none 0 0)).toArray 25) alloc_shp ?_; intro w6 aa gg zz; replace HO0 := Lib.hid (HO0.out.aft aa); replace HO1 := Lib.hid (HO1.out.aft aa); replace HTt := Lib.hid (HTt.out.aft aa); replace HL := Lib.hid (HL.out.alloc aa gg.out); clear aa gg zz; (try simp only [List.nil_append, List.cons_append, List.set_cons_zero, List.set_cons_succ] at HL)) | (refine wpList_store_shp rfl (.tmp 14) (.tmp 58) _ _ _ (.slice a5 ids0.length c5) (.slice b5 ls0.length d5) rfl rfl rfl rfl rfl (HL.out.get 0 rfl) ?_; intro w7 q1 q2 q3; replace HO0 := Lib.hid (HO0.out.stored (HL.out.get 0 rfl) (by decide) (by decide) q2.out); replace HO1 := Lib.hid (HO1.out.stored (HL.out.get 0 rfl) (by decide) (by decide) q2.out); replace HTt := Lib.hid (HTt.out.storedP (HL.out.get 0 rfl) (by decide) q2.out); replace HL := Lib.hid (HL.out.store 0 rfl q1 q2 q3); clear q1 q2 q3; (try simp only [List.nil_append, List.cons_append, List.set_cons_zero, List.set_cons_succ] at HL)) | (refine wpList_store_shp rfl (.tmp 15) (.tmp 59) _ _ _ (.slice a7 ids1.length c7) (.slice b7 ls1.length d7) rfl rfl rfl rfl rfl (HL.out.get 1 rfl) ?_; intro w8 q1 q2 q3; replace HO0 := Lib.hid (HO0.out.stored (HL.out.get 1 rfl) (by decide) (by decide) q2.out); replace HO1 := Lib.hid (HO1.out.stored (HL.out.get 1 rfl) (by decide) (by decide) q2.out); replace HTt := Lib.hid (HTt.out.storedP (HL.out.get 1 rfl) (by decide) q2.out); replace HL := Lib.hid (HL.out.store 1 rfl q1 q2 q3); clear q1 q2 q3; (try simp only [List.nil_append, List.cons_append, List.set_cons_zero, List.set_cons_succ] at HL)))
      obtain ⟨g7, o7, rfl, -, -⟩ := (HO1.out.ids.rd).some_of (by rw [zv_length]; exact HZ.out)
      obtain ⟨ix, hix, eix⟩ := idx_ofP by' ids1.length HZ.out (by have := HI3.out; omega)
      have f1 := fun u : Later w8.heap.size w8 => shp_i (Aft.get u.h (HL.out.get 1 rfl))
      have f2 := fun u : Later w8.heap.size w8 => (HO1.out.aft u.h).ids.rd.num_at hix
      have HBi := Lib.hid (getD_memP hix)
      have HWz := Lib.hid (HWj.out _ HBi.out)
      generalize ids1.getD ix 0 = bz at *
      have hnz : ¬ ((ids1.length : Nat) : Int) = 0 := by omega
      have hil : (ix : Int) < (ids1.length : Nat) := by omega
      refine wp_region_lex (fun wz => ∃ u : Later w8.heap.size w8, wz = u.w) (fun i => ([] : List Nat).contains i) 17 (by kernel_rfl) (by kernel_rfl) ⟨⟨w8.drew, (Below.refl _ _).drew⟩, rfl⟩ ?_
      change wpLx _ _ _ _ _ _ _ _ _ w8.drew
      have HDa := Lib.hid (show Aft w8 w8.drew from (Below.refl _ _).drew)
      replace HL := Lib.hid (HL.out.call HDa.out)
      replace HO0 := Lib.hid (HO0.out.aft HDa.out)
      replace HO1 := Lib.hid (HO1.out.aft HDa.out)
      replace HTt := Lib.hid (HTt.out.aft HDa.out)
      generalize w8.drew = wd at *
      try simp only [Act.put, List.setIfInBounds_toArray, List.set_cons_succ, List.set_cons_zero]
      repeat (first | (refine lx_skipT (by go_big_quiet_skip; exact wpQuiet_nil trivial) (by kernel_rfl) ?_; simp only [Act.put, List.setIfInBounds_toArray, List.set_cons_succ, List.set_cons_zero]) | (refine lx_quietT rfl (by go_big_quiet_want; exact quiet_false (by assumption)) (by kernel_rfl) rfl ?_; intro Kx hKx; go_big_quiet_op; go_big_quiet_on))
      refine lx_done ?_
      clear f1 f2 eix hnz hil hix HDa HWb
      go_wp2_with (first | (refine wpList_load_rowG (by kernel_rfl) 25 (.tmp 14) rfl _ rfl _ _ _ _ (HL.out.get 0 rfl) Try.underlying25 rfl (shp_info _ _) ?_) | (refine wpList_load_rowG (by kernel_rfl) 25 (.tmp 15) rfl _ rfl _ _ _ _ (HL.out.get 1 rfl) Try.underlying25 rfl (shp_info _ _) ?_))
      refine (make_any kind bz _ _ _ _ _ ids0 ls0 ids1 ls1 TM _ HO0.out.ids.rd HO0.out.lv.rd (small_of HK0.out) HO1.out.ids.rd HO1.out.lv.rd (small_of HK1.out) HTt.out.rd (by have := HI3.out; omega) HTw.out HWz.out (make_pre HWi.out HWj.out)).mono ?_
      rintro e w9 (⟨-, vk, vs, ss, rfl, hkk, hS, hss, h6⟩ | ⟨hno, -, -⟩)
      rotate_left
      · exact absurd ⟨mayE_zero.2 ⟨HKd.out, HK0.out⟩, mayE_zero.2 ⟨HKd.out, HK1.out⟩, HBi.out⟩ hno
      have HK := Lib.hid (hkk.mono (Below.size HL.out.aft))
      have HSt := Lib.hid (hS.mono (Below.size HL.out.aft))
      have HSs := Lib.hid hss
      have HN1 := Lib.hid (nodes_few (kind := kind) HK1.out)
      have HKl := Lib.hid (keepL_length (nodesL kind ids0 ls0) (lvT (nodesL kind ids0 ls0) ids0 TM bz) ids1 (nodesL kind ids1 ls1) (nodesL kind ids1 ls1).length)
      obtain ⟨ka, kc, rfl⟩ := hkk.shape
      obtain ⟨sa, sc, rfl⟩ := hS.shape
      replace HL := Lib.hid (HL.out.call h6)
      replace HO0 := Lib.hid (HO0.out.aft h6)
      replace HO1 := Lib.hid (HO1.out.aft h6)
      replace HTt := Lib.hid (HTt.out.aft h6)
      clear h6 hkk hS hss
      have HBd := Lib.hid (bound_law (kind := kind) (by' := bz) (more := more) HK0.out HK1.out HCh.out (by have := HZ.out; omega))
      rw [← HTM.out, ← HSs.out] at HBd
      have HTn := Lib.hid (show TM.length = T.length + more.length by rw [HTM.out, List.length_append])
      rw [← HTn.out] at HBd
      have HSl := Lib.hid (show ss.length ≤ 90000 by
        have h1 := stpL_length (nodesL kind ids0 ls0) (lvT (nodesL kind ids0 ls0) ids0 TM bz) ids1 (nodesL kind ids1 ls1) bz (nodesL kind ids1 ls1).length
        have h2 := congrArg List.length HSs.out
        rw [List.length_map] at h2
        have := HN1.out
        omega)
      have HSd := Lib.hid (show ∀ p ∈ ss, p.1.sd.length ≤ 1000000 from fun p hp => by
        have h1 := stp_sd (A := nodesL kind ids0 ls0) (f := lvT (nodesL kind ids0 ls0) ids0 TM bz) (ids := ids1) (by' := bz) (B := nodesL kind ids1 ls1) (fun i => nodes_k3 HK1.out i) (nodesL kind ids1 ls1).length p.1 (by rw [← HSs.out]; exact List.mem_map_of_mem hp)
        omega)
      obtain ⟨kl, hkl⟩ : ∃ l, l = keepL (nodesL kind ids0 ls0) (lvT (nodesL kind ids0 ls0) ids0 TM bz) ids1 (nodesL kind ids1 ls1) (nodesL kind ids1 ls1).length := ⟨_, rfl⟩
      rw [← hkl] at HK HKl ⊢
      have HKe := Lib.hid hkl
      have HA9 := Lib.hid (Aft.refl w9)
      clear hkl
      go_wp2_with (first | (refine wpList_dstT 18 rfl ?_; refine wpList_allocO rfl 30 rfl (.cells (plR (.slice none 0 0) (.slice none 0 0)).toArray 30) alloc_pl ?_; intro w10 aa gg zz; replace HA9 := Lib.hid (Aft.trans HA9.out aa); replace HL := Lib.hid (HL.out.alloc aa gg.out); clear aa gg zz; (try simp only [List.nil_append, List.cons_append, List.set_cons_zero, List.set_cons_succ] at HL)) | (refine wpList_store_rowZ rfl 30 (.tmp 18) (.tmp 89) rfl _ (plR (.slice ka kl.length kc) (.slice sa ss.length sc)).toArray rfl rfl _ _ (HL.out.get 2 rfl) (pl_info _ _) rfl (all_one plR_one) ?_; intro w11 q1 q2 q3; replace HA9 := Lib.hid (q3 _ _ (Nat.le_refl _) HA9.out); replace HL := Lib.hid (HL.out.store 2 rfl q1 q2 q3); clear q1 q2 q3; (try simp only [List.nil_append, List.cons_append, List.set_cons_zero, List.set_cons_succ] at HL)) | (refine wpList_load_rowG (by kernel_rfl) 25 (.tmp 14) rfl _ rfl _ _ _ _ (HL.out.get 0 rfl) Try.underlying25 rfl (shp_info _ _) ?_) | (refine wpList_load_rowG (by kernel_rfl) 25 (.tmp 15) rfl _ rfl _ _ _ _ (HL.out.get 1 rfl) Try.underlying25 rfl (shp_info _ _) ?_))
      replace HO0 := Lib.hid (HO0.out.aft HA9.out)
      replace HO1 := Lib.hid (HO1.out.aft HA9.out)
      replace HTt := Lib.hid (HTt.out.aft HA9.out)
      replace HK := Lib.hid (HK.out.aft HA9.out)
      replace HSt := Lib.hid (HSt.out.aft HA9.out)
      clear HA9
      refine (most_any _ _ _ _ ids0 ls0 ids1 ls1 TM.length _ HO0.out.ids.rd HO0.out.lv.rd HO1.out.ids.rd HO1.out.lv.rd HK0.out HK1.out (by have := HTl.out; omega)).mono ?_
      rintro e w12 ⟨rfl, h12⟩
      replace HL := Lib.hid (HL.out.call h12)
      replace HSt := Lib.hid (HSt.out.aft h12)
      clear h12 HO0 HO1 HTt HK
      generalize 4 * (2 * TM.length + 1) * (max ls0.length ls1.length + 2) = mst at *
      go_wp2_with (first | (refine wpList_dstT 109 rfl ?_; refine wpList_load_rowG (by kernel_rfl) 30 (.tmp 18) rfl _ rfl _ _ _ _ (HL.out.get 2 rfl) Try.underlying30 rfl (pl_info _ _) ?_))
      refine (sends_any _ _ ss kl.length ka kc rfl _ HSt.out.rd (by have := HSl.out; omega) HSd.out).mono ?_
      rintro e w13 ⟨rfl, h13⟩
      replace HL := Lib.hid (HL.out.call h13)
      have hle := HBd.out
      generalize sndL (ss.map Prod.fst) = sn at *
      go_wp2_with fail
      go_ret
      exact ⟨rfl, HL.out.aft⟩
end Go.Proofs.Ytfgammcefaomeaa
