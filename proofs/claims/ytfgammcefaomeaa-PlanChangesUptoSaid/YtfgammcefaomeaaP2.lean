/- (*plan.maker).kept, walked. -/
import Derived.Test.YtfgammcefaomeaaP1
import Derived.Test.YtfgammcefaomeaaB3
namespace Go.Proofs.Ytfgammcefaomeaa
open Go Go.RowKit
set_option linter.unusedSimpArgs false
theorem mk_cell {w : World} {mb lb : Nat} {va vb vi vk : Value} {by' : Int} (h : w.heap[mb]? = some (.cells (mkrR va vb lb vi vk by').toArray 73 (0, 0))) :
    w.cell? ⟨mb, 0, none⟩ = some va ∧ w.cell? ⟨mb, 1, none⟩ = some vb ∧ w.cell? ⟨mb, 2, none⟩ = some (.map (some lb)) ∧ w.cell? ⟨mb, 3, none⟩ = some vi ∧ w.cell? ⟨mb, 4, none⟩ = some vk ∧ w.cell? ⟨mb, 5, none⟩ = some (.int .i64 by') :=
  ⟨cell_part (n := 0) h rfl, cell_part (n := 1) h rfl, cell_part (n := 2) h rfl, cell_part (n := 3) h rfl, cell_part (n := 4) h rfl, cell_part (n := 5) h rfl⟩
set_option maxRecDepth 100000 in
set_option maxHeartbeats 4000000 in
theorem keptLeaf_any (mb lb : Nat) (va vb vi vk : Value) (by' : Int) (A B : List (Nd × Value)) (ids keep : List Int) (n : Nat) (f : Int → Option Int) (x : Nd) (kv : Value) (w : World) (hM : MkW w mb lb va vb vi vk by' A B ids keep n f) (hk : Rd w kv (zv x.ks)) (ho : KeptOk (A.map Prod.fst) ids keep x) (hz : x.lv = 0) :
    Calls Try.prog 34 #[.pointer (some ⟨mb, 0, none⟩), .agg (ndR x kv).toArray] w fun e w' => e = .returned (.int .i64 (keptN (A.map Prod.fst) f ids keep x)) ∧ Aft w w' := by
  obtain ⟨j, hj1, hj2, hj3⟩ := ho.leaf hz
  obtain ⟨qa, qc, rfl, -, -⟩ := hk.numS
  obtain ⟨ia, ic, rfl, -, -⟩ := hM.rI.numS
  obtain ⟨g, o, rfl, -, -⟩ := hM.rI.some_of (by rw [zv_length]; omega)
  have HM := Lib.hid hM
  have HJ := Lib.hid hj3
  have HK := Lib.hid (show keptN (A.map Prod.fst) f ids keep x = (f (ids.getD j 0)).getD (-1) by
    unfold keptN
    rw [if_pos hz, hj1, Int.toNat_natCast])
  have hjb : j < 9223372036854775807 := by
    obtain ⟨_, _, _, h0, h1, -⟩ := hM.rI
    rw [zv_length] at h0
    omega
  have HL := Lib.hid (Led.start w)
  clear hM hk ho hj3
  go_enter Try.func34, Try.ntmps34
  go_wp2_with (first | (refine wpList_boxO rfl 38 (.tmp 1) rfl (.agg (ndR x (.slice qa x.ks.length qc)).toArray) rfl (.cells (ndR x (.slice qa x.ks.length qc)).toArray 38) (box_nd _) ?_; intro w1 aa gg zz; replace HL := Lib.hid (HL.out.alloc aa gg.out); clear aa gg zz; try simp only [List.nil_append, List.cons_append, List.set_cons_zero, List.set_cons_succ] at HL; have d0 := cell_part (n := 0) (HL.out.get 0 rfl) rfl))
  have HMu := Lib.hid (fun u : Later w1.heap.size w1 => HM.out.aft (Aft.trans HL.out.aft u.h))
  have m2 := fun u : Later w1.heap.size w1 => (mk_cell (HMu.out u).bx).2.2.1
  have m3 := fun u : Later w1.heap.size w1 => (mk_cell (HMu.out u).bx).2.2.2.1
  have m4 := fun u : Later w1.heap.size w1 => (HMu.out u).rI.num_at hj2
  have m5 := fun u : Later w1.heap.size w1 => (HMu.out u).mp.look HJ.out
  have m6 := fun u : Later w1.heap.size w1 => (show u.w.cell? ⟨w.heap.size, 1, none⟩ = some (.int .i64 (j : Int)) by rw [← hj1]; exact cell_part (n := 1) (Aft.get u.h (HL.out.get 0 rfl)) rfl)
  have HDr := Lib.hid (show Aft w1 w1.drew from (Below.refl _ _).drew)
  clear d0
  generalize ids.getD j 0 = z at *
  cases hq : f z with
  | none =>
    rw [hq] at m5 HK
    have HK2 := Lib.hid HK.out
    clear hq
    go_wp2_with (first | (refine wp_region_lex (fun wz => ∃ u : Later w1.heap.size w1, wz = u.w) (fun i => ([] : List Nat).contains i) 18 (by kernel_rfl) (by kernel_rfl) ⟨⟨w1.drew, (Below.refl _ _).drew⟩, rfl⟩ ?_))
    change wpLx _ _ _ _ _ _ _ _ _ w1.drew
    try simp only [Act.put]
    repeat (first | (refine lx_skipT (by go_big_quiet_skip; exact wpQuiet_nil trivial) (by kernel_rfl) ?_; simp only [Act.put, List.setIfInBounds_toArray, List.set_cons_succ, List.set_cons_zero]) | (refine lx_quietT rfl (by go_big_quiet_want; exact quiet_false (by assumption)) (by kernel_rfl) rfl ?_; intro Kx hKx; go_big_quiet_op; go_big_quiet_on))
    refine lx_done ?_
    clear m2 m3 m4 m5 m6
    go_wp2_with fail
    go_ret
    exact ⟨by rw [HK2.out]; rfl, Aft.trans HL.out.aft HDr.out⟩
  | some q =>
    rw [hq] at m5 HK
    have HK2 := Lib.hid HK.out
    clear hq
    go_wp2_with (first | (refine wp_region_lex (fun wz => ∃ u : Later w1.heap.size w1, wz = u.w) (fun i => ([] : List Nat).contains i) 18 (by kernel_rfl) (by kernel_rfl) ⟨⟨w1.drew, (Below.refl _ _).drew⟩, rfl⟩ ?_))
    change wpLx _ _ _ _ _ _ _ _ _ w1.drew
    try simp only [Act.put]
    repeat (first | (refine lx_skipT (by go_big_quiet_skip; exact wpQuiet_nil trivial) (by kernel_rfl) ?_; simp only [Act.put, List.setIfInBounds_toArray, List.set_cons_succ, List.set_cons_zero]) | (refine lx_quietT rfl (by go_big_quiet_want; exact quiet_false (by assumption)) (by kernel_rfl) rfl ?_; intro Kx hKx; go_big_quiet_op; go_big_quiet_on))
    refine lx_done ?_
    clear m2 m3 m4 m5 m6
    go_wp2_with fail
    go_ret
    exact ⟨by rw [HK2.out]; rfl, Aft.trans HL.out.aft HDr.out⟩
theorem kidK_length (keep ks : List Int) : (kidK keep ks).length = ks.length := List.length_map ..
theorem kidK_at {keep ks : List Int} {i : Nat} (h : i < ks.length) : (kidK keep ks).getD i 0 = keep.getD (ks.getD i 0).toNat 0 := by
  simp [kidK, List.getD_eq_getElem?_getD, List.getElem?_eq_getElem h]
theorem getD_memP {l : List Int} {i : Nat} (h : i < l.length) : l.getD i 0 ∈ l := by
  rw [List.getD_eq_getElem?_getD, List.getElem?_eq_getElem h]
  exact List.getElem_mem h
theorem take_getD {l : List Int} {i : Nat} (h : i < l.length) : l.take (i + 1) = l.take i ++ [l.getD i 0] := by
  rw [List.take_add_one, List.getElem?_eq_getElem h, List.getD_eq_getElem?_getD, List.getElem?_eq_getElem h]
  rfl
theorem getD_midP {l m : List Int} {z : Int} {i : Nat} (hl : l.length = i) : ((l ++ [z]) ++ m).getD i 0 = z := by
  subst hl
  simp [List.getD_eq_getElem?_getD]
theorem rd_len {w : World} {v : Value} {xs : List Int} (h : Rd w v (zv xs)) : xs.length ≤ 9223372036854775807 := by
  obtain ⟨_, _, _, h0, h1, -⟩ := h
  rw [zv_length] at h0
  omega
set_option maxRecDepth 100000 in
set_option maxHeartbeats 8000000 in
theorem keptKids_any (mb lb : Nat) (va vb vi vk : Value) (by' : Int) (A B : List (Nd × Value)) (ids keep : List Int) (n : Nat) (f : Int → Option Int) (x : Nd) (kv : Value) (w : World) (hM : MkW w mb lb va vb vi vk by' A B ids keep n f) (hk : Rd w kv (zv x.ks)) (ho : KeptOk (A.map Prod.fst) ids keep x) (hz : x.lv ≠ 0) :
    Calls Try.prog 34 #[.pointer (some ⟨mb, 0, none⟩), .agg (ndR x kv).toArray] w fun e w' => e = .returned (.int .i64 (keptN (A.map Prod.fst) f ids keep x)) ∧ Aft w w' := by
  obtain ⟨hne, hl3, hkd⟩ := ho.kids hz
  have HFst := Lib.hid (fun (i : Nat) => show (A.map Prod.fst).getD i nd0 = (A.getD i ndP).1 from fst_getD A i)
  have hAl : (A.map Prod.fst).length = A.length := List.length_map ..
  obtain ⟨qa, qc, rfl, -, -⟩ := hk.numS
  obtain ⟨ka, kc, rfl, -, -⟩ := hM.rK.numS
  obtain ⟨aa, ac, rfl, hA1, hA2⟩ := hM.rA.shape
  have HM := Lib.hid hM
  have HK := Lib.hid hk
  have HKd := Lib.hid (fun (i : Nat) (hi : i < x.ks.length) => hkd _ (getD_memP hi))
  have HKp := Lib.hid ho.keep
  have HUp := Lib.hid ho.up
  have HWd := Lib.hid ho.wide
  have HKl := Lib.hid (rd_len hM.rK)
  have HN := Lib.hid (show keptN (A.map Prod.fst) f ids keep x = _ from if_neg hz)
  have hn0 : 0 < x.ks.length := List.length_pos_iff.2 hne
  have HL := Lib.hid (Led.start w)
  clear hM hk ho hkd hne
  go_enter Try.func34, Try.ntmps34
  go_wp2_with (first | (refine wpList_boxO rfl 38 (.tmp 1) rfl (.agg (ndR x (.slice qa x.ks.length qc)).toArray) rfl (.cells (ndR x (.slice qa x.ks.length qc)).toArray 38) (box_nd _) ?_; intro w1 aa gg zz; replace HL := Lib.hid (HL.out.alloc aa gg.out); clear aa gg zz; try simp only [List.nil_append, List.cons_append, List.set_cons_zero, List.set_cons_succ] at HL; have d0 := cell_part (n := 0) (HL.out.get 0 rfl) rfl; have d5 := cell_part (n := 5) (HL.out.get 0 rfl) rfl) | (refine wpList_makeInts (by kernel_rfl) (.tmp 35) (.tmp 35) rfl x.ks.length _ rfl rfl rfl (by omega) ?_; intro w2 aS gS; have HO := gS; have HS1 := Lib.hid (Below.size HL.out.aft); replace HL := Lib.hid (HL.out.call aS); have e5 := cell_part (n := 5) (HL.out.get 0 rfl) rfl; clear aS gS d0 d5))
  clear e5
  go_loopw [40] (fun v40 wr => ∃ i : Nat, i ≤ x.ks.length ∧ v40 = .int .i64 (i : Int) ∧ OwnI wr w1.heap.size (.slice (some ⟨w1.heap.size, 0, none⟩) x.ks.length x.ks.length) ((kidK keep x.ks).take i ++ List.replicate (x.ks.length - i) 0) ∧ (∀ j, j < i → 0 ≤ (kidK keep x.ks).getD j 0) ∧ Led w wr [(w.heap.size, .cells (ndR x (.slice qa x.ks.length qc)).toArray 38)]) (fun v _ => x.ks.length - (intOf v).toNat)
  case atStart => exact ⟨0, Nat.zero_le _, rfl, HO.out, fun j hj => absurd hj (Nat.not_lt_zero _), HL.out⟩
  case round =>
    clear HO HL
    obtain ⟨i, hi, rfl, hO, hP, hL⟩ := hrel
    have HO := Lib.hid hO
    have HP := Lib.hid hP
    have HL := Lib.hid hL
    clear hO hP hL
    by_cases hlt : i < x.ks.length
    · have hlt' : (i : Int) < (x.ks.length : Nat) := by omega
      obtain ⟨j, hj1, hj2⟩ := HKd.out i hlt
      have hM := HM.out.aft HL.out.aft
      obtain ⟨b, o, rfl, -, -⟩ := (HK.out.grow HL.out.aft).some_of (by rw [zv_length]; omega)
      have hc := (HK.out.grow HL.out.aft).num_at hlt
      rw [hj1] at hc
      obtain ⟨kg, ko, rfl, -, -⟩ := hM.rK.some_of (by rw [zv_length]; omega)
      have hkc := hM.rK.num_at hj2
      have m4 := (mk_cell hM.bx).2.2.2.2.1
      have HZ := Lib.hid (show (kidK keep x.ks).getD i 0 = keep.getD j 0 by rw [kidK_at hlt, hj1, Int.toNat_natCast])
      have HV := Lib.hid (HKp.out _ (getD_memP hj2))
      have hjb : j < 9223372036854775807 := by have := HKl.out; omega
      have HTk := Lib.hid (take_getD (l := kidK keep x.ks) (i := i) (by rw [kidK_length]; exact hlt))
      have HLl := Lib.hid (show ((kidK keep x.ks).take i).length = i by rw [List.length_take, kidK_length]; omega)
      rw [HZ.out] at HTk
      generalize keep.getD j 0 = z at *
      clear hj1 hM
      by_cases hneg : z < 0
      · have HAny := Lib.hid (show (kidK keep x.ks).any (fun k => decide (k < 0)) = true from List.any_eq_true.2 ⟨_, getD_memP (i := i) (by rw [kidK_length]; exact hlt), by rw [HZ.out]; exact decide_eq_true hneg⟩)
        go_wp2_with (first | (refine wpList_store_num rfl (.tmp 54) (.tmp 53) rfl w1.heap.size w1.heap.size x.ks.length x.ks.length _ i (by rw [List.length_append, HLl.out, List.length_replicate]; omega) z HO.out rfl rfl ?_; intro w4 k1 k2; rw [set_zero HLl.out hlt] at k1; replace HL := Lib.hid (HL.out.frO HO.out HS1.out k2 rfl); have HO4 := Lib.hid k1; have hz4 := k1.rd.num_at (i := i) (by rw [List.length_append, List.length_append, HLl.out]; simp; omega); rw [getD_midP HLl.out, Nat.zero_add] at hz4; clear k1 k2 hc hkc m4))
        go_ret
        exact ⟨by rw [HN.out, if_pos HAny.out]; rfl, HL.out.aft⟩
      · have HP2 := Lib.hid (show ∀ j, j < i + 1 → 0 ≤ (kidK keep x.ks).getD j 0 from fun q hq => by
          by_cases e : q = i
          · subst e; rw [HZ.out]; omega
          · exact HP.out q (by omega))
        go_wp2_with (first | (refine wpList_store_num rfl (.tmp 54) (.tmp 53) rfl w1.heap.size w1.heap.size x.ks.length x.ks.length _ i (by rw [List.length_append, HLl.out, List.length_replicate]; omega) z HO.out rfl rfl ?_; intro w4 k1 k2; rw [set_zero HLl.out hlt] at k1; replace HL := Lib.hid (HL.out.frO HO.out HS1.out k2 rfl); have HO4 := Lib.hid k1; have hz4 := k1.rd.num_at (i := i) (by rw [List.length_append, List.length_append, HLl.out]; simp; omega); rw [getD_midP HLl.out, Nat.zero_add] at hz4; clear k1 k2 hc hkc m4))
        go_roundw
        case rel => exact ⟨i + 1, by omega, by go_num, by rw [HTk.out]; exact HO4.out, HP2.out, HL.out⟩
        case measure => simp [intOf]; omega
    · obtain rfl : i = x.ks.length := by omega
      have hlt' : ¬ ((x.ks.length : Nat) : Int) < (x.ks.length : Nat) := by omega
      have HAny := Lib.hid (show ¬ (kidK keep x.ks).any (fun k => decide (k < 0)) = true from fun q => by
        obtain ⟨k, hk1, hk2⟩ := List.any_eq_true.1 q
        obtain ⟨a, ha, rfl⟩ := List.getElem_of_mem hk1
        have h1 := HP.out a (by rw [kidK_length] at ha; exact ha)
        rw [List.getD_eq_getElem?_getD, List.getElem?_eq_getElem ha] at h1
        have h2 := of_decide_eq_true hk2
        simp only [Option.getD_some] at h1
        omega)
      have HIn := Lib.hid (show ∃ a : Nat, (kidK keep x.ks).getD 0 0 = (a : Int) ∧ a < A.length by
        obtain ⟨j, hj1, hj2⟩ := HKd.out 0 hn0
        have h1 := HP.out 0 hn0
        have h2 : (kidK keep x.ks).getD 0 0 = keep.getD j 0 := by rw [kidK_at hn0, hj1, Int.toNat_natCast]
        rw [h2] at h1 ⊢
        rcases HKp.out _ (getD_memP hj2) with h3 | ⟨a, h3, h4⟩
        · omega
        · exact ⟨a, h3, by rw [hAl] at h4; exact h4⟩)
      have HO2 := Lib.hid (show OwnI wr w1.heap.size (.slice (some ⟨w1.heap.size, 0, none⟩) x.ks.length x.ks.length) (kidK keep x.ks) by
        have h1 := HO.out
        rw [Nat.sub_self, List.replicate_zero, List.append_nil, List.take_of_length_le (by rw [kidK_length]; exact Nat.le_refl _)] at h1
        exact h1)
      have HKl2 := Lib.hid (kidK_length keep x.ks)
      generalize kidK keep x.ks = kk at *
      obtain ⟨a, ha1, ha2⟩ := HIn.out
      clear HIn HO HP HKd HKp
      have HMu := Lib.hid (fun u : Later wr.heap.size wr => HM.out.aft (Aft.trans HL.out.aft u.h))
      obtain ⟨g, o, c4, he, hrg⟩ := HM.out.rA.rngP ha2
      injection he with he1 he2 he3
      subst he1 he3
      have m0 := fun u : Later wr.heap.size wr => (mk_cell (HMu.out u).bx).1
      have k0 := fun u : Later wr.heap.size wr => (HO2.out.aft u.h).rd.num_at (i := 0) (by rw [HKl2.out]; exact hn0)
      rw [ha1] at k0
      have u0 := fun u : Later wr.heap.size wr => (show u.w.cell? ⟨g, o + a * 7 + 6, none⟩ = some (.int .i64 (A.getD a ndP).1.up) from hrg u.w (Aft.trans HL.out.aft u.h) 6 _ rfl)
      have HDr := Lib.hid (show Aft wr wr.drew from (Below.refl _ _).drew)
      have HUa := Lib.hid (show (A.getD a ndP).1.up = -1 ∨ ∃ j : Nat, (A.getD a ndP).1.up = (j : Int) ∧ j < A.length by
        have := HUp.out a (by rw [hAl]; exact ha2)
        rw [HFst.out, hAl] at this
        exact this)
      have HN2 := Lib.hid (show keptN (A.map Prod.fst) f ids keep x = if (A.getD a ndP).1.up < 0 ∨ (A.getD (A.getD a ndP).1.up.toNat ndP).1.rd ≠ x.rd ∨ (A.getD (A.getD a ndP).1.up.toNat ndP).1.ks ≠ kk then -1 else (A.getD a ndP).1.up by
        rw [HN.out, if_neg HAny.out]
        simp only [ha1, Int.toNat_natCast, HFst.out])
      clear hrg he2 HN HAny
      generalize (A.getD a ndP).1.up = up at *
      go_wp2_with (first | (refine wp_region_lex (fun wz => ∃ u : Later wr.heap.size wr, wz = u.w) (fun i => ([] : List Nat).contains i) 11 (by kernel_rfl) (by kernel_rfl) ⟨⟨wr.drew, (Below.refl _ _).drew⟩, rfl⟩ ?_))
      change wpLx _ _ _ _ _ _ _ _ _ wr.drew
      try simp only [Act.put]
      repeat (first | (refine lx_skipT (by go_big_quiet_skip; exact wpQuiet_nil trivial) (by kernel_rfl) ?_; simp only [Act.put, List.setIfInBounds_toArray, List.set_cons_succ, List.set_cons_zero]) | (refine lx_quietT rfl (by go_big_quiet_want; exact quiet_false (by assumption)) (by kernel_rfl) rfl ?_; intro Kx hKx; go_big_quiet_op; go_big_quiet_on))
      refine lx_done ?_
      clear m0 k0 u0
      replace HL := Lib.hid (HL.out.call HDr.out)
      replace HMu := Lib.hid (HM.out.aft HL.out.aft)
      replace HO2 := Lib.hid (HO2.out.aft HDr.out)
      clear HDr
      generalize wr.drew = wd at *
      have HDr := Lib.hid (show Aft wd wd.drew from (Below.refl _ _).drew)
      rcases HUa.out with rfl | ⟨b, rfl, hb⟩
      · have HR := Lib.hid (HN2.out.trans (if_pos (.inl (by decide))))
        clear HUa HN2
        go_wp2_with (first | (refine wp_region_lex (fun wz => ∃ u : Later wd.heap.size wd, wz = u.w) (fun i => ([25] : List Nat).contains i) 28 (by kernel_rfl) (by kernel_rfl) ⟨⟨wd.drew, (Below.refl _ _).drew⟩, rfl⟩ ?_))
        change wpLx _ _ _ _ _ _ _ _ _ wd.drew
        try simp only [Act.put]
        repeat (first | (refine lx_skipT (by go_big_quiet_skip; exact wpQuiet_nil trivial) (by kernel_rfl) ?_; simp only [Act.put, List.setIfInBounds_toArray, List.set_cons_succ, List.set_cons_zero]) | (refine lx_quietT rfl (by go_big_quiet_want; exact quiet_false (by assumption)) (by kernel_rfl) rfl ?_; intro Kx hKx; go_big_quiet_op; go_big_quiet_on))
        refine lx_done ?_
        go_wp2_with fail
        go_ret
        exact ⟨by rw [HR.out]; rfl, Aft.trans HL.out.aft HDr.out⟩
      · rw [Int.toNat_natCast] at HN2
        obtain ⟨g', o', c4, he, hrg⟩ := HM.out.rA.rngP hb
        injection he with he1 he2 he3
        injection he1 with he1
        injection he1 with he4 he5
        subst he4 he5 he3
        have hkb := HM.out.rA.kid _ (ndP_mem hb)
        obtain ⟨pa, pc, hpv, -, -⟩ := hkb.numS
        have HKb := Lib.hid hkb
        have m0 := fun u : Later wd.heap.size wd => (mk_cell (HMu.out.aft u.h).bx).1
        have r2 := fun u : Later wd.heap.size wd => (show u.w.cell? ⟨g, o + b * 7 + 2, none⟩ = some (.bool (A.getD b ndP).1.rd) from hrg u.w (Aft.trans HL.out.aft u.h) 2 _ rfl)
        have r5 := fun u : Later wd.heap.size wd => (show u.w.cell? ⟨g, o + b * 7 + 5, none⟩ = some (A.getD b ndP).2 from hrg u.w (Aft.trans HL.out.aft u.h) 5 _ rfl)
        have d2 := fun u : Later wd.heap.size wd => (show u.w.cell? ⟨w.heap.size, 2, none⟩ = some (.bool x.rd) from cell_part (n := 2) (Aft.get u.h (HL.out.get 0 rfl)) rfl)
        have hb0 : decide ((b : Int) < 0) = false := decide_eq_false (by omega)
        have hbn : ¬ (b : Int) < 0 := by omega
        have HKbl := Lib.hid (show (A.getD b ndP).1.ks.length ≤ 3 by
          have := HWd.out b (by rw [hAl]; exact hb)
          rwa [HFst.out] at this)
        rw [hpv] at r5 HKb
        clear hrg he2 hkb hpv HUa
        generalize (A.getD b ndP).1.rd = rb at *
        generalize (A.getD b ndP).1.ks = kb at *
        generalize hxr : x.rd = xr at d2 HN2
        clear hxr
        by_cases hr : rb = xr
        · subst hr
          by_cases heq : kb = kk
          · have HR := Lib.hid (HN2.out.trans (if_neg (fun q => q.elim (fun q => by omega) (fun q => q.elim (fun q => q rfl) (fun q => q heq)))))
            have HE := Lib.hid heq
            clear HN2 heq
            cases rb <;> skip
            · go_wp2_with (first | (refine wp_region_lex (fun wz => ∃ u : Later wd.heap.size wd, wz = u.w) (fun i => ([25] : List Nat).contains i) 28 (by kernel_rfl) (by kernel_rfl) ⟨⟨wd.drew, (Below.refl _ _).drew⟩, rfl⟩ ?_))
              change wpLx _ _ _ _ _ _ _ _ _ wd.drew
              generalize wd.drew = we at *
              try simp only [Act.put]
              repeat (first | (refine lx_skipT (by go_big_quiet_skip; exact wpQuiet_nil trivial) (by kernel_rfl) ?_; simp only [Act.put, List.setIfInBounds_toArray, List.set_cons_succ, List.set_cons_zero]) | (refine lx_quietT rfl (by go_big_quiet_want; exact quiet_false (by assumption)) (by kernel_rfl) rfl ?_; intro Kx hKx; go_big_quiet_op; go_big_quiet_on))
              refine lx_effT rfl (by go_big_quiet_want; exact quiet_false (by assumption)) (by kernel_rfl) ?_; intro Kx hKx; go_wp2_with fail
              refine (equalI_any _ _ kb kk we (HKb.out.grow (Aft.trans HL.out.aft HDr.out)) (HO2.out.aft HDr.out).rd (by have := HKbl.out; omega)).mono ?_
              rintro e w6 ⟨rfl, h6⟩
              rw [decide_eq_true HE.out]
              go_wp2_with fail
              refine ⟨Later.on (Aft.trans HDr.out h6), ?_⟩
              have HA6 := Lib.hid (Aft.trans HL.out.aft (Aft.trans HDr.out h6))
              clear h6
              repeat (first | (refine lx_skipT (by go_big_quiet_skip; exact wpQuiet_nil trivial) (by kernel_rfl) ?_; simp only [Act.put, List.setIfInBounds_toArray, List.set_cons_succ, List.set_cons_zero]) | (refine lx_quietT rfl (by go_big_quiet_want; exact quiet_false (by assumption)) (by kernel_rfl) rfl ?_; intro Kx hKx; go_big_quiet_op; go_big_quiet_on))
              refine lx_done ?_
              go_wp2_with fail
              go_ret
              exact ⟨by rw [HR.out]; rfl, HA6.out⟩
            · go_wp2_with (first | (refine wp_region_lex (fun wz => ∃ u : Later wd.heap.size wd, wz = u.w) (fun i => ([25] : List Nat).contains i) 28 (by kernel_rfl) (by kernel_rfl) ⟨⟨wd.drew, (Below.refl _ _).drew⟩, rfl⟩ ?_))
              change wpLx _ _ _ _ _ _ _ _ _ wd.drew
              generalize wd.drew = we at *
              try simp only [Act.put]
              repeat (first | (refine lx_skipT (by go_big_quiet_skip; exact wpQuiet_nil trivial) (by kernel_rfl) ?_; simp only [Act.put, List.setIfInBounds_toArray, List.set_cons_succ, List.set_cons_zero]) | (refine lx_quietT rfl (by go_big_quiet_want; exact quiet_false (by assumption)) (by kernel_rfl) rfl ?_; intro Kx hKx; go_big_quiet_op; go_big_quiet_on))
              refine lx_effT rfl (by go_big_quiet_want; exact quiet_false (by assumption)) (by kernel_rfl) ?_; intro Kx hKx; go_wp2_with fail
              refine (equalI_any _ _ kb kk we (HKb.out.grow (Aft.trans HL.out.aft HDr.out)) (HO2.out.aft HDr.out).rd (by have := HKbl.out; omega)).mono ?_
              rintro e w6 ⟨rfl, h6⟩
              rw [decide_eq_true HE.out]
              go_wp2_with fail
              refine ⟨Later.on (Aft.trans HDr.out h6), ?_⟩
              have HA6 := Lib.hid (Aft.trans HL.out.aft (Aft.trans HDr.out h6))
              clear h6
              repeat (first | (refine lx_skipT (by go_big_quiet_skip; exact wpQuiet_nil trivial) (by kernel_rfl) ?_; simp only [Act.put, List.setIfInBounds_toArray, List.set_cons_succ, List.set_cons_zero]) | (refine lx_quietT rfl (by go_big_quiet_want; exact quiet_false (by assumption)) (by kernel_rfl) rfl ?_; intro Kx hKx; go_big_quiet_op; go_big_quiet_on))
              refine lx_done ?_
              go_wp2_with fail
              go_ret
              exact ⟨by rw [HR.out]; rfl, HA6.out⟩
          · have HR := Lib.hid (HN2.out.trans (if_pos (.inr (.inr heq))))
            have HE := Lib.hid heq
            clear HN2 heq
            cases rb <;> skip
            · go_wp2_with (first | (refine wp_region_lex (fun wz => ∃ u : Later wd.heap.size wd, wz = u.w) (fun i => ([25] : List Nat).contains i) 28 (by kernel_rfl) (by kernel_rfl) ⟨⟨wd.drew, (Below.refl _ _).drew⟩, rfl⟩ ?_))
              change wpLx _ _ _ _ _ _ _ _ _ wd.drew
              generalize wd.drew = we at *
              try simp only [Act.put]
              repeat (first | (refine lx_skipT (by go_big_quiet_skip; exact wpQuiet_nil trivial) (by kernel_rfl) ?_; simp only [Act.put, List.setIfInBounds_toArray, List.set_cons_succ, List.set_cons_zero]) | (refine lx_quietT rfl (by go_big_quiet_want; exact quiet_false (by assumption)) (by kernel_rfl) rfl ?_; intro Kx hKx; go_big_quiet_op; go_big_quiet_on))
              refine lx_effT rfl (by go_big_quiet_want; exact quiet_false (by assumption)) (by kernel_rfl) ?_; intro Kx hKx; go_wp2_with fail
              refine (equalI_any _ _ kb kk we (HKb.out.grow (Aft.trans HL.out.aft HDr.out)) (HO2.out.aft HDr.out).rd (by have := HKbl.out; omega)).mono ?_
              rintro e w6 ⟨rfl, h6⟩
              rw [decide_eq_false HE.out]
              go_wp2_with fail
              refine ⟨Later.on (Aft.trans HDr.out h6), ?_⟩
              have HA6 := Lib.hid (Aft.trans HL.out.aft (Aft.trans HDr.out h6))
              clear h6
              repeat (first | (refine lx_skipT (by go_big_quiet_skip; exact wpQuiet_nil trivial) (by kernel_rfl) ?_; simp only [Act.put, List.setIfInBounds_toArray, List.set_cons_succ, List.set_cons_zero]) | (refine lx_quietT rfl (by go_big_quiet_want; exact quiet_false (by assumption)) (by kernel_rfl) rfl ?_; intro Kx hKx; go_big_quiet_op; go_big_quiet_on))
              refine lx_done ?_
              go_wp2_with fail
              go_ret
              exact ⟨by rw [HR.out]; rfl, HA6.out⟩
            · go_wp2_with (first | (refine wp_region_lex (fun wz => ∃ u : Later wd.heap.size wd, wz = u.w) (fun i => ([25] : List Nat).contains i) 28 (by kernel_rfl) (by kernel_rfl) ⟨⟨wd.drew, (Below.refl _ _).drew⟩, rfl⟩ ?_))
              change wpLx _ _ _ _ _ _ _ _ _ wd.drew
              generalize wd.drew = we at *
              try simp only [Act.put]
              repeat (first | (refine lx_skipT (by go_big_quiet_skip; exact wpQuiet_nil trivial) (by kernel_rfl) ?_; simp only [Act.put, List.setIfInBounds_toArray, List.set_cons_succ, List.set_cons_zero]) | (refine lx_quietT rfl (by go_big_quiet_want; exact quiet_false (by assumption)) (by kernel_rfl) rfl ?_; intro Kx hKx; go_big_quiet_op; go_big_quiet_on))
              refine lx_effT rfl (by go_big_quiet_want; exact quiet_false (by assumption)) (by kernel_rfl) ?_; intro Kx hKx; go_wp2_with fail
              refine (equalI_any _ _ kb kk we (HKb.out.grow (Aft.trans HL.out.aft HDr.out)) (HO2.out.aft HDr.out).rd (by have := HKbl.out; omega)).mono ?_
              rintro e w6 ⟨rfl, h6⟩
              rw [decide_eq_false HE.out]
              go_wp2_with fail
              refine ⟨Later.on (Aft.trans HDr.out h6), ?_⟩
              have HA6 := Lib.hid (Aft.trans HL.out.aft (Aft.trans HDr.out h6))
              clear h6
              repeat (first | (refine lx_skipT (by go_big_quiet_skip; exact wpQuiet_nil trivial) (by kernel_rfl) ?_; simp only [Act.put, List.setIfInBounds_toArray, List.set_cons_succ, List.set_cons_zero]) | (refine lx_quietT rfl (by go_big_quiet_want; exact quiet_false (by assumption)) (by kernel_rfl) rfl ?_; intro Kx hKx; go_big_quiet_op; go_big_quiet_on))
              refine lx_done ?_
              go_wp2_with fail
              go_ret
              exact ⟨by rw [HR.out]; rfl, HA6.out⟩
        · have HR := Lib.hid (HN2.out.trans (if_pos (.inr (.inl hr))))
          clear HN2
          have hr2 : (rb = !xr) := by
            cases rb <;> cases xr <;> first | rfl | exact absurd rfl hr
          subst hr2
          clear hr
          cases xr <;> skip
          · go_wp2_with (first | (refine wp_region_lex (fun wz => ∃ u : Later wd.heap.size wd, wz = u.w) (fun i => ([25] : List Nat).contains i) 28 (by kernel_rfl) (by kernel_rfl) ⟨⟨wd.drew, (Below.refl _ _).drew⟩, rfl⟩ ?_))
            change wpLx _ _ _ _ _ _ _ _ _ wd.drew
            try simp only [Act.put]
            repeat (first | (refine lx_skipT (by go_big_quiet_skip; exact wpQuiet_nil trivial) (by kernel_rfl) ?_; simp only [Act.put, List.setIfInBounds_toArray, List.set_cons_succ, List.set_cons_zero]) | (refine lx_quietT rfl (by go_big_quiet_want; exact quiet_false (by assumption)) (by kernel_rfl) rfl ?_; intro Kx hKx; go_big_quiet_op; go_big_quiet_on))
            refine lx_done ?_
            go_wp2_with fail
            go_ret
            exact ⟨by rw [HR.out]; rfl, Aft.trans HL.out.aft HDr.out⟩
          · go_wp2_with (first | (refine wp_region_lex (fun wz => ∃ u : Later wd.heap.size wd, wz = u.w) (fun i => ([25] : List Nat).contains i) 28 (by kernel_rfl) (by kernel_rfl) ⟨⟨wd.drew, (Below.refl _ _).drew⟩, rfl⟩ ?_))
            change wpLx _ _ _ _ _ _ _ _ _ wd.drew
            try simp only [Act.put]
            repeat (first | (refine lx_skipT (by go_big_quiet_skip; exact wpQuiet_nil trivial) (by kernel_rfl) ?_; simp only [Act.put, List.setIfInBounds_toArray, List.set_cons_succ, List.set_cons_zero]) | (refine lx_quietT rfl (by go_big_quiet_want; exact quiet_false (by assumption)) (by kernel_rfl) rfl ?_; intro Kx hKx; go_big_quiet_op; go_big_quiet_on))
            refine lx_done ?_
            go_wp2_with fail
            go_ret
            exact ⟨by rw [HR.out]; rfl, Aft.trans HL.out.aft HDr.out⟩
theorem kept_any (mb lb : Nat) (va vb vi vk : Value) (by' : Int) (A B : List (Nd × Value)) (ids keep : List Int) (n : Nat) (f : Int → Option Int) (x : Nd) (kv : Value) (w : World) (hM : MkW w mb lb va vb vi vk by' A B ids keep n f) (hk : Rd w kv (zv x.ks)) (ho : KeptOk (A.map Prod.fst) ids keep x) :
    Calls Try.prog 34 #[.pointer (some ⟨mb, 0, none⟩), .agg (ndR x kv).toArray] w fun e w' => e = .returned (.int .i64 (keptN (A.map Prod.fst) f ids keep x)) ∧ Aft w w' := by
  by_cases hz : x.lv = 0
  · exact keptLeaf_any mb lb va vb vi vk by' A B ids keep n f x kv w hM hk ho hz
  · exact keptKids_any mb lb va vb vi vk by' A B ids keep n f x kv w hM hk ho hz
end Go.Proofs.Ytfgammcefaomeaa
