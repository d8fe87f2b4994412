/- coterieref11.Same. -/
import Derived.Test.YtejdkmfbncedkaaB5
namespace Go.Proofs.Ytejdkmfbncedkaa
open Go Go.RowKit
set_option linter.unusedSimpArgs false
set_option maxRecDepth 100000 in
set_option maxHeartbeats 4000000 in
theorem refSame11_any (v u : Value) (ps qs : List (Nd × Value)) (w : World) (hx : RdN w v ps) (hy : RdN w u qs) (hp : ps.length ≤ 1000000) :
    Calls Try.prog 35 #[v, u] w fun e w' => e = .returned (.bool (decide (ps.map Prod.fst = qs.map Prod.fst))) ∧ Aft w w' := by
  have HX := Lib.hid hx
  have HY := Lib.hid hy
  have HP := Lib.hid hp
  obtain ⟨ao, cap, rfl, -, -⟩ := hx.shape
  obtain ⟨bo, dap, rfl, -, -⟩ := hy.shape
  obtain ⟨bq, hbq⟩ : ∃ bq, bq = decide (ps.map Prod.fst = qs.map Prod.fst) := ⟨_, rfl⟩
  have HB := Lib.hid hbq
  rw [← hbq]
  clear hx hy hbq hp
  go_enter Try.func35, Try.ntmps35
  by_cases hlen : ps.length = qs.length
  rotate_left
  · have HR := Lib.hid (show bq = false by rw [HB.out]; exact decide_eq_false (fun q => hlen (by have := congrArg List.length q; simpa using this)))
    rw [HR.out]
    have hlen' : ¬ ((ps.length : Nat) : Int) = (qs.length : Nat) := by omega
    go_wp2_with fail
    go_ret
    exact ⟨rfl, Aft.refl _⟩
  have HLn := Lib.hid hlen
  rw [← hlen]
  clear hlen
  go_wp2_with fail
  go_loopw [15] (fun v wr => ∃ i : Nat, i ≤ ps.length ∧ v = .int .i64 (i : Int) ∧ (∀ j, j < i → (ps.map Prod.fst)[j]? = (qs.map Prod.fst)[j]?) ∧ Aft w wr) (fun v _ => ps.length - (intOf v).toNat)
  case atStart => exact ⟨0, by omega, rfl, fun j hj => absurd hj (Nat.not_lt_zero _), Aft.refl _⟩
  case round =>
    obtain ⟨i, hi, rfl, hsm, hA⟩ := hrel
    have HL := Lib.hid ((Led.start w).call hA)
    have HSm := Lib.hid hsm
    have hp6 := HP.out
    clear hsm
    by_cases hlt : i < ps.length
    · have hlt' : (i : Int) < (ps.length : Nat) := by omega
      have hylt : i < qs.length := by rw [← HLn.out]; exact hlt
      obtain ⟨b1, o1, c1, he, hrx⟩ := HX.out.rng hlt
      injection he with he1 he2 he3
      subst he1 he3
      obtain ⟨b2, o2, c2, he, hry⟩ := HY.out.rng hylt
      injection he with he1 he4 he3
      subst he1 he3
      have HRx := Lib.hid hrx
      have HRy := Lib.hid hry
      have hkx := HX.out.mem hlt
      have hky := HY.out.mem hylt
      have HXe := Lib.hid (fst_at hlt)
      have HYe := Lib.hid (fst_at hylt)
      generalize ps.getD i ndP = p at *
      generalize qs.getD i ndP = q at *
      obtain ⟨x, kx⟩ := p
      obtain ⟨y, ky⟩ := q
      dsimp only at HRx HRy hkx hky HXe HYe
      obtain ⟨ka, kc, rfl, hk1, hk2⟩ := hkx.numS
      obtain ⟨la, lc, rfl, -, -⟩ := hky.numS
      have HRx2 := Lib.hid (HRx.out wr HL.out.aft)
      have HEq := Lib.hid (fun (wx : World) (ha : Aft w wx) => sameIntsW_any _ _ x.ks y.ks wx (hkx.grow ha) (hky.grow ha) (by omega))
      clear hylt he2 he4 hrx hry hkx hky hk1 hk2 HRx hA
      by_cases h0 : x.lv = y.lv
      · have E0 := Lib.hid h0
        clear h0
        by_cases h1 : x.ix = y.ix
        · have E1 := Lib.hid h1
          clear h1
          by_cases h2 : x.rd = y.rd
          · have E2 := Lib.hid h2
            clear h2
            by_cases h3 : x.fr = y.fr
            · have E3 := Lib.hid h3
              clear h3
              by_cases h4 : x.tt = y.tt
              · have E4 := Lib.hid h4
                clear h4
                by_cases h5 : x.up = y.up
                · have E5 := Lib.hid h5
                  clear h5
                  go_upto_region 8 with (first | (refine wpList_dstT 21 rfl ?_; refine wpList_load_mid2 (by kernel_rfl) 38 (.tmp 20) rfl _ _ rfl (ndR x (.slice ka x.ks.length kc)) HRx2.out _ Try.underlying38 rfl (nd_info2 _ _) ?_) | (refine wpList_allocO rfl 38 rfl (.cells (ndR nd0 (.slice none 0 0)).toArray 38) alloc_nd ?_; intro w' aa gg zz; replace HL := Lib.hid (HL.out.alloc aa gg.out); clear aa gg zz; try simp only [List.nil_append, List.cons_append, List.set_cons_zero, List.set_cons_succ] at HL) | (refine wpList_store_rowZ rfl 38 (.tmp 6) (.tmp 21) rfl _ (ndR x (.slice ka x.ks.length kc)).toArray rfl rfl _ _ (HL.out.get 0 rfl) (nd_info _ _) rfl (all_one ndR_one) ?_; intro w' b1 b2 b3; replace HL := Lib.hid (HL.out.store 0 rfl b1 b2 b3); clear b1 b2 b3; try simp only [List.nil_append, List.cons_append, List.set_cons_zero, List.set_cons_succ] at HL; have HRy2 := Lib.hid (HRy.out w' HL.out.aft)) | (refine wpList_dstT 25 rfl ?_; refine wpList_load_mid2 (by kernel_rfl) 38 (.tmp 24) rfl _ _ rfl (ndR y (.slice la y.ks.length lc)) HRy2.out _ Try.underlying38 rfl (nd_info2 _ _) ?_) | (refine wpList_store_rowZ rfl 38 (.tmp 7) (.tmp 25) rfl _ (ndR y (.slice la y.ks.length lc)).toArray rfl rfl _ _ (HL.out.get 1 rfl) (nd_info _ _) rfl (all_one ndR_one) ?_; intro w' b1 b2 b3; replace HL := Lib.hid (HL.out.store 1 rfl b1 b2 b3); clear b1 b2 b3; try simp only [List.nil_append, List.cons_append, List.set_cons_zero, List.set_cons_succ] at HL; have c0 := cell_part (n := 0) (HL.out.get 0 rfl) rfl; have d0 := cell_part (n := 0) (HL.out.get 1 rfl) rfl; rw [← E0.out] at d0; have c1 := cell_part (n := 1) (HL.out.get 0 rfl) rfl; have d1 := cell_part (n := 1) (HL.out.get 1 rfl) rfl; rw [← E1.out] at d1; have c2 := cell_part (n := 2) (HL.out.get 0 rfl) rfl; have d2 := cell_part (n := 2) (HL.out.get 1 rfl) rfl; rw [← E2.out] at d2; have c3 := cell_part (n := 3) (HL.out.get 0 rfl) rfl; have d3 := cell_part (n := 3) (HL.out.get 1 rfl) rfl; rw [← E3.out] at d3; have c4 := cell_part (n := 4) (HL.out.get 0 rfl) rfl; have d4 := cell_part (n := 4) (HL.out.get 1 rfl) rfl; rw [← E4.out] at d4; have c5 := cell_part (n := 6) (HL.out.get 0 rfl) rfl; have d5 := cell_part (n := 6) (HL.out.get 1 rfl) rfl; rw [← E5.out] at d5; have c6 := cell_part (n := 5) (HL.out.get 0 rfl) rfl; have d6 := cell_part (n := 5) (HL.out.get 1 rfl) rfl))
                  go_wp2_with fail
                  refine (HEq.out _ HL.out.aft).mono ?_
                  rintro e w2 ⟨rfl, h2⟩
                  replace HL := Lib.hid (HL.out.call h2)
                  rw [nd_dec E0.out E1.out E2.out E3.out E4.out E5.out]
                  clear h2 c0 c1 c2 c3 c4 c5 c6 d0 d1 d2 d3 d4 d5 d6
                  by_cases hxy : x = y
                  · rw [decide_eq_true hxy]
                    have HEx := Lib.hid hxy
                    clear hxy
                    go_wp2_with fail
                    go_roundw
                    case rel =>
                      refine ⟨i + 1, by omega, by go_num, fun j hj => ?_, HL.out.aft⟩
                      by_cases hji : j = i
                      · subst hji
                        rw [HXe.out, HYe.out, HEx.out]
                      · exact HSm.out j (by omega)
                    case measure => simp [intOf]; omega
                  · rw [decide_eq_false hxy]
                    have HR2 := Lib.hid (show bq = false by
                      rw [HB.out]
                      exact decide_eq_false (fun e => hxy (by have h := HXe.out; rw [e, HYe.out] at h; exact (Option.some.inj h).symm)))
                    clear hxy
                    go_wp2_with fail
                    go_ret
                    exact ⟨by rw [HR2.out]; rfl, HL.out.aft⟩
                · have hb : (x.up == y.up) = false := by simp [h5]
                  have hb2 : (x.up != y.up) = true := by simp [h5]
                  have HNe := Lib.hid (show decide (x = y) = false from decide_eq_false fun q => h5 (by rw [q]))
                  have hxy : ¬ x = y := fun q => h5 (by rw [q])
                  go_upto_region 8 with (first | (refine wpList_dstT 21 rfl ?_; refine wpList_load_mid2 (by kernel_rfl) 38 (.tmp 20) rfl _ _ rfl (ndR x (.slice ka x.ks.length kc)) HRx2.out _ Try.underlying38 rfl (nd_info2 _ _) ?_) | (refine wpList_allocO rfl 38 rfl (.cells (ndR nd0 (.slice none 0 0)).toArray 38) alloc_nd ?_; intro w' aa gg zz; replace HL := Lib.hid (HL.out.alloc aa gg.out); clear aa gg zz; try simp only [List.nil_append, List.cons_append, List.set_cons_zero, List.set_cons_succ] at HL) | (refine wpList_store_rowZ rfl 38 (.tmp 6) (.tmp 21) rfl _ (ndR x (.slice ka x.ks.length kc)).toArray rfl rfl _ _ (HL.out.get 0 rfl) (nd_info _ _) rfl (all_one ndR_one) ?_; intro w' b1 b2 b3; replace HL := Lib.hid (HL.out.store 0 rfl b1 b2 b3); clear b1 b2 b3; try simp only [List.nil_append, List.cons_append, List.set_cons_zero, List.set_cons_succ] at HL; have HRy2 := Lib.hid (HRy.out w' HL.out.aft)) | (refine wpList_dstT 25 rfl ?_; refine wpList_load_mid2 (by kernel_rfl) 38 (.tmp 24) rfl _ _ rfl (ndR y (.slice la y.ks.length lc)) HRy2.out _ Try.underlying38 rfl (nd_info2 _ _) ?_) | (refine wpList_store_rowZ rfl 38 (.tmp 7) (.tmp 25) rfl _ (ndR y (.slice la y.ks.length lc)).toArray rfl rfl _ _ (HL.out.get 1 rfl) (nd_info _ _) rfl (all_one ndR_one) ?_; intro w' b1 b2 b3; replace HL := Lib.hid (HL.out.store 1 rfl b1 b2 b3); clear b1 b2 b3; try simp only [List.nil_append, List.cons_append, List.set_cons_zero, List.set_cons_succ] at HL; have c0 := cell_part (n := 0) (HL.out.get 0 rfl) rfl; have d0 := cell_part (n := 0) (HL.out.get 1 rfl) rfl; rw [← E0.out] at d0; have c1 := cell_part (n := 1) (HL.out.get 0 rfl) rfl; have d1 := cell_part (n := 1) (HL.out.get 1 rfl) rfl; rw [← E1.out] at d1; have c2 := cell_part (n := 2) (HL.out.get 0 rfl) rfl; have d2 := cell_part (n := 2) (HL.out.get 1 rfl) rfl; rw [← E2.out] at d2; have c3 := cell_part (n := 3) (HL.out.get 0 rfl) rfl; have d3 := cell_part (n := 3) (HL.out.get 1 rfl) rfl; rw [← E3.out] at d3; have c4 := cell_part (n := 4) (HL.out.get 0 rfl) rfl; have d4 := cell_part (n := 4) (HL.out.get 1 rfl) rfl; rw [← E4.out] at d4; have c5 := cell_part (n := 6) (HL.out.get 0 rfl) rfl; have d5 := cell_part (n := 6) (HL.out.get 1 rfl) rfl))
                  go_wp2_with fail
                  have HR2 := Lib.hid (show bq = false by
                    rw [HB.out]
                    exact decide_eq_false (fun e => hxy (by have h := HXe.out; rw [e, HYe.out] at h; exact (Option.some.inj h).symm)))
                  clear HNe
                  go_ret
                  exact ⟨by rw [HR2.out]; rfl, HL.out.aft⟩
              · have hb : (x.tt == y.tt) = false := by simp [h4]
                have hb2 : (x.tt != y.tt) = true := by simp [h4]
                have HNe := Lib.hid (show decide (x = y) = false from decide_eq_false fun q => h4 (by rw [q]))
                have hxy : ¬ x = y := fun q => h4 (by rw [q])
                go_upto_region 8 with (first | (refine wpList_dstT 21 rfl ?_; refine wpList_load_mid2 (by kernel_rfl) 38 (.tmp 20) rfl _ _ rfl (ndR x (.slice ka x.ks.length kc)) HRx2.out _ Try.underlying38 rfl (nd_info2 _ _) ?_) | (refine wpList_allocO rfl 38 rfl (.cells (ndR nd0 (.slice none 0 0)).toArray 38) alloc_nd ?_; intro w' aa gg zz; replace HL := Lib.hid (HL.out.alloc aa gg.out); clear aa gg zz; try simp only [List.nil_append, List.cons_append, List.set_cons_zero, List.set_cons_succ] at HL) | (refine wpList_store_rowZ rfl 38 (.tmp 6) (.tmp 21) rfl _ (ndR x (.slice ka x.ks.length kc)).toArray rfl rfl _ _ (HL.out.get 0 rfl) (nd_info _ _) rfl (all_one ndR_one) ?_; intro w' b1 b2 b3; replace HL := Lib.hid (HL.out.store 0 rfl b1 b2 b3); clear b1 b2 b3; try simp only [List.nil_append, List.cons_append, List.set_cons_zero, List.set_cons_succ] at HL; have HRy2 := Lib.hid (HRy.out w' HL.out.aft)) | (refine wpList_dstT 25 rfl ?_; refine wpList_load_mid2 (by kernel_rfl) 38 (.tmp 24) rfl _ _ rfl (ndR y (.slice la y.ks.length lc)) HRy2.out _ Try.underlying38 rfl (nd_info2 _ _) ?_) | (refine wpList_store_rowZ rfl 38 (.tmp 7) (.tmp 25) rfl _ (ndR y (.slice la y.ks.length lc)).toArray rfl rfl _ _ (HL.out.get 1 rfl) (nd_info _ _) rfl (all_one ndR_one) ?_; intro w' b1 b2 b3; replace HL := Lib.hid (HL.out.store 1 rfl b1 b2 b3); clear b1 b2 b3; try simp only [List.nil_append, List.cons_append, List.set_cons_zero, List.set_cons_succ] at HL; have c0 := cell_part (n := 0) (HL.out.get 0 rfl) rfl; have d0 := cell_part (n := 0) (HL.out.get 1 rfl) rfl; rw [← E0.out] at d0; have c1 := cell_part (n := 1) (HL.out.get 0 rfl) rfl; have d1 := cell_part (n := 1) (HL.out.get 1 rfl) rfl; rw [← E1.out] at d1; have c2 := cell_part (n := 2) (HL.out.get 0 rfl) rfl; have d2 := cell_part (n := 2) (HL.out.get 1 rfl) rfl; rw [← E2.out] at d2; have c3 := cell_part (n := 3) (HL.out.get 0 rfl) rfl; have d3 := cell_part (n := 3) (HL.out.get 1 rfl) rfl; rw [← E3.out] at d3; have c4 := cell_part (n := 4) (HL.out.get 0 rfl) rfl; have d4 := cell_part (n := 4) (HL.out.get 1 rfl) rfl))
                go_wp2_with fail
                have HR2 := Lib.hid (show bq = false by
                  rw [HB.out]
                  exact decide_eq_false (fun e => hxy (by have h := HXe.out; rw [e, HYe.out] at h; exact (Option.some.inj h).symm)))
                clear HNe
                go_ret
                exact ⟨by rw [HR2.out]; rfl, HL.out.aft⟩
            · have hb : (x.fr == y.fr) = false := by simp [h3]
              have hb2 : (x.fr != y.fr) = true := by simp [h3]
              have HNe := Lib.hid (show decide (x = y) = false from decide_eq_false fun q => h3 (by rw [q]))
              have hxy : ¬ x = y := fun q => h3 (by rw [q])
              go_upto_region 8 with (first | (refine wpList_dstT 21 rfl ?_; refine wpList_load_mid2 (by kernel_rfl) 38 (.tmp 20) rfl _ _ rfl (ndR x (.slice ka x.ks.length kc)) HRx2.out _ Try.underlying38 rfl (nd_info2 _ _) ?_) | (refine wpList_allocO rfl 38 rfl (.cells (ndR nd0 (.slice none 0 0)).toArray 38) alloc_nd ?_; intro w' aa gg zz; replace HL := Lib.hid (HL.out.alloc aa gg.out); clear aa gg zz; try simp only [List.nil_append, List.cons_append, List.set_cons_zero, List.set_cons_succ] at HL) | (refine wpList_store_rowZ rfl 38 (.tmp 6) (.tmp 21) rfl _ (ndR x (.slice ka x.ks.length kc)).toArray rfl rfl _ _ (HL.out.get 0 rfl) (nd_info _ _) rfl (all_one ndR_one) ?_; intro w' b1 b2 b3; replace HL := Lib.hid (HL.out.store 0 rfl b1 b2 b3); clear b1 b2 b3; try simp only [List.nil_append, List.cons_append, List.set_cons_zero, List.set_cons_succ] at HL; have HRy2 := Lib.hid (HRy.out w' HL.out.aft)) | (refine wpList_dstT 25 rfl ?_; refine wpList_load_mid2 (by kernel_rfl) 38 (.tmp 24) rfl _ _ rfl (ndR y (.slice la y.ks.length lc)) HRy2.out _ Try.underlying38 rfl (nd_info2 _ _) ?_) | (refine wpList_store_rowZ rfl 38 (.tmp 7) (.tmp 25) rfl _ (ndR y (.slice la y.ks.length lc)).toArray rfl rfl _ _ (HL.out.get 1 rfl) (nd_info _ _) rfl (all_one ndR_one) ?_; intro w' b1 b2 b3; replace HL := Lib.hid (HL.out.store 1 rfl b1 b2 b3); clear b1 b2 b3; try simp only [List.nil_append, List.cons_append, List.set_cons_zero, List.set_cons_succ] at HL; have c0 := cell_part (n := 0) (HL.out.get 0 rfl) rfl; have d0 := cell_part (n := 0) (HL.out.get 1 rfl) rfl; rw [← E0.out] at d0; have c1 := cell_part (n := 1) (HL.out.get 0 rfl) rfl; have d1 := cell_part (n := 1) (HL.out.get 1 rfl) rfl; rw [← E1.out] at d1; have c2 := cell_part (n := 2) (HL.out.get 0 rfl) rfl; have d2 := cell_part (n := 2) (HL.out.get 1 rfl) rfl; rw [← E2.out] at d2; have c3 := cell_part (n := 3) (HL.out.get 0 rfl) rfl; have d3 := cell_part (n := 3) (HL.out.get 1 rfl) rfl))
              go_wp2_with fail
              have HR2 := Lib.hid (show bq = false by
                rw [HB.out]
                exact decide_eq_false (fun e => hxy (by have h := HXe.out; rw [e, HYe.out] at h; exact (Option.some.inj h).symm)))
              clear HNe
              go_ret
              exact ⟨by rw [HR2.out]; rfl, HL.out.aft⟩
          · have hb : (x.rd == y.rd) = false := by simp [h2]
            have hb2 : (x.rd != y.rd) = true := by simp [h2]
            have HNe := Lib.hid (show decide (x = y) = false from decide_eq_false fun q => h2 (by rw [q]))
            have hxy : ¬ x = y := fun q => h2 (by rw [q])
            go_upto_region 8 with (first | (refine wpList_dstT 21 rfl ?_; refine wpList_load_mid2 (by kernel_rfl) 38 (.tmp 20) rfl _ _ rfl (ndR x (.slice ka x.ks.length kc)) HRx2.out _ Try.underlying38 rfl (nd_info2 _ _) ?_) | (refine wpList_allocO rfl 38 rfl (.cells (ndR nd0 (.slice none 0 0)).toArray 38) alloc_nd ?_; intro w' aa gg zz; replace HL := Lib.hid (HL.out.alloc aa gg.out); clear aa gg zz; try simp only [List.nil_append, List.cons_append, List.set_cons_zero, List.set_cons_succ] at HL) | (refine wpList_store_rowZ rfl 38 (.tmp 6) (.tmp 21) rfl _ (ndR x (.slice ka x.ks.length kc)).toArray rfl rfl _ _ (HL.out.get 0 rfl) (nd_info _ _) rfl (all_one ndR_one) ?_; intro w' b1 b2 b3; replace HL := Lib.hid (HL.out.store 0 rfl b1 b2 b3); clear b1 b2 b3; try simp only [List.nil_append, List.cons_append, List.set_cons_zero, List.set_cons_succ] at HL; have HRy2 := Lib.hid (HRy.out w' HL.out.aft)) | (refine wpList_dstT 25 rfl ?_; refine wpList_load_mid2 (by kernel_rfl) 38 (.tmp 24) rfl _ _ rfl (ndR y (.slice la y.ks.length lc)) HRy2.out _ Try.underlying38 rfl (nd_info2 _ _) ?_) | (refine wpList_store_rowZ rfl 38 (.tmp 7) (.tmp 25) rfl _ (ndR y (.slice la y.ks.length lc)).toArray rfl rfl _ _ (HL.out.get 1 rfl) (nd_info _ _) rfl (all_one ndR_one) ?_; intro w' b1 b2 b3; replace HL := Lib.hid (HL.out.store 1 rfl b1 b2 b3); clear b1 b2 b3; try simp only [List.nil_append, List.cons_append, List.set_cons_zero, List.set_cons_succ] at HL; have c0 := cell_part (n := 0) (HL.out.get 0 rfl) rfl; have d0 := cell_part (n := 0) (HL.out.get 1 rfl) rfl; rw [← E0.out] at d0; have c1 := cell_part (n := 1) (HL.out.get 0 rfl) rfl; have d1 := cell_part (n := 1) (HL.out.get 1 rfl) rfl; rw [← E1.out] at d1; have c2 := cell_part (n := 2) (HL.out.get 0 rfl) rfl; have d2 := cell_part (n := 2) (HL.out.get 1 rfl) rfl))
            go_wp2_with fail
            have HR2 := Lib.hid (show bq = false by
              rw [HB.out]
              exact decide_eq_false (fun e => hxy (by have h := HXe.out; rw [e, HYe.out] at h; exact (Option.some.inj h).symm)))
            clear HNe
            go_ret
            exact ⟨by rw [HR2.out]; rfl, HL.out.aft⟩
        · have hb : (x.ix == y.ix) = false := by simp [h1]
          have hb2 : (x.ix != y.ix) = true := by simp [h1]
          have HNe := Lib.hid (show decide (x = y) = false from decide_eq_false fun q => h1 (by rw [q]))
          have hxy : ¬ x = y := fun q => h1 (by rw [q])
          go_upto_region 8 with (first | (refine wpList_dstT 21 rfl ?_; refine wpList_load_mid2 (by kernel_rfl) 38 (.tmp 20) rfl _ _ rfl (ndR x (.slice ka x.ks.length kc)) HRx2.out _ Try.underlying38 rfl (nd_info2 _ _) ?_) | (refine wpList_allocO rfl 38 rfl (.cells (ndR nd0 (.slice none 0 0)).toArray 38) alloc_nd ?_; intro w' aa gg zz; replace HL := Lib.hid (HL.out.alloc aa gg.out); clear aa gg zz; try simp only [List.nil_append, List.cons_append, List.set_cons_zero, List.set_cons_succ] at HL) | (refine wpList_store_rowZ rfl 38 (.tmp 6) (.tmp 21) rfl _ (ndR x (.slice ka x.ks.length kc)).toArray rfl rfl _ _ (HL.out.get 0 rfl) (nd_info _ _) rfl (all_one ndR_one) ?_; intro w' b1 b2 b3; replace HL := Lib.hid (HL.out.store 0 rfl b1 b2 b3); clear b1 b2 b3; try simp only [List.nil_append, List.cons_append, List.set_cons_zero, List.set_cons_succ] at HL; have HRy2 := Lib.hid (HRy.out w' HL.out.aft)) | (refine wpList_dstT 25 rfl ?_; refine wpList_load_mid2 (by kernel_rfl) 38 (.tmp 24) rfl _ _ rfl (ndR y (.slice la y.ks.length lc)) HRy2.out _ Try.underlying38 rfl (nd_info2 _ _) ?_) | (refine wpList_store_rowZ rfl 38 (.tmp 7) (.tmp 25) rfl _ (ndR y (.slice la y.ks.length lc)).toArray rfl rfl _ _ (HL.out.get 1 rfl) (nd_info _ _) rfl (all_one ndR_one) ?_; intro w' b1 b2 b3; replace HL := Lib.hid (HL.out.store 1 rfl b1 b2 b3); clear b1 b2 b3; try simp only [List.nil_append, List.cons_append, List.set_cons_zero, List.set_cons_succ] at HL; have c0 := cell_part (n := 0) (HL.out.get 0 rfl) rfl; have d0 := cell_part (n := 0) (HL.out.get 1 rfl) rfl; rw [← E0.out] at d0; have c1 := cell_part (n := 1) (HL.out.get 0 rfl) rfl; have d1 := cell_part (n := 1) (HL.out.get 1 rfl) rfl))
          go_wp2_with fail
          have HR2 := Lib.hid (show bq = false by
            rw [HB.out]
            exact decide_eq_false (fun e => hxy (by have h := HXe.out; rw [e, HYe.out] at h; exact (Option.some.inj h).symm)))
          clear HNe
          go_ret
          exact ⟨by rw [HR2.out]; rfl, HL.out.aft⟩
      · have hb : (x.lv == y.lv) = false := by simp [h0]
        have hb2 : (x.lv != y.lv) = true := by simp [h0]
        have HNe := Lib.hid (show decide (x = y) = false from decide_eq_false fun q => h0 (by rw [q]))
        have hxy : ¬ x = y := fun q => h0 (by rw [q])
        go_upto_region 8 with (first | (refine wpList_dstT 21 rfl ?_; refine wpList_load_mid2 (by kernel_rfl) 38 (.tmp 20) rfl _ _ rfl (ndR x (.slice ka x.ks.length kc)) HRx2.out _ Try.underlying38 rfl (nd_info2 _ _) ?_) | (refine wpList_allocO rfl 38 rfl (.cells (ndR nd0 (.slice none 0 0)).toArray 38) alloc_nd ?_; intro w' aa gg zz; replace HL := Lib.hid (HL.out.alloc aa gg.out); clear aa gg zz; try simp only [List.nil_append, List.cons_append, List.set_cons_zero, List.set_cons_succ] at HL) | (refine wpList_store_rowZ rfl 38 (.tmp 6) (.tmp 21) rfl _ (ndR x (.slice ka x.ks.length kc)).toArray rfl rfl _ _ (HL.out.get 0 rfl) (nd_info _ _) rfl (all_one ndR_one) ?_; intro w' b1 b2 b3; replace HL := Lib.hid (HL.out.store 0 rfl b1 b2 b3); clear b1 b2 b3; try simp only [List.nil_append, List.cons_append, List.set_cons_zero, List.set_cons_succ] at HL; have HRy2 := Lib.hid (HRy.out w' HL.out.aft)) | (refine wpList_dstT 25 rfl ?_; refine wpList_load_mid2 (by kernel_rfl) 38 (.tmp 24) rfl _ _ rfl (ndR y (.slice la y.ks.length lc)) HRy2.out _ Try.underlying38 rfl (nd_info2 _ _) ?_) | (refine wpList_store_rowZ rfl 38 (.tmp 7) (.tmp 25) rfl _ (ndR y (.slice la y.ks.length lc)).toArray rfl rfl _ _ (HL.out.get 1 rfl) (nd_info _ _) rfl (all_one ndR_one) ?_; intro w' b1 b2 b3; replace HL := Lib.hid (HL.out.store 1 rfl b1 b2 b3); clear b1 b2 b3; try simp only [List.nil_append, List.cons_append, List.set_cons_zero, List.set_cons_succ] at HL; have c0 := cell_part (n := 0) (HL.out.get 0 rfl) rfl; have d0 := cell_part (n := 0) (HL.out.get 1 rfl) rfl))
        go_wp2_with fail
        have HR2 := Lib.hid (show bq = false by
          rw [HB.out]
          exact decide_eq_false (fun e => hxy (by have h := HXe.out; rw [e, HYe.out] at h; exact (Option.some.inj h).symm)))
        clear HNe
        go_ret
        exact ⟨by rw [HR2.out]; rfl, HL.out.aft⟩
    · obtain rfl : i = ps.length := by omega
      have hlt' : ¬ ((ps.length : Nat) : Int) < (ps.length : Nat) := by omega
      have HR := Lib.hid (show bq = true by
        rw [HB.out]
        refine decide_eq_true (List.ext_getElem? fun j => ?_)
        by_cases hj : j < ps.length
        · exact HSm.out j hj
        · rw [List.getElem?_eq_none (by rw [List.length_map]; omega), List.getElem?_eq_none (by rw [List.length_map, ← HLn.out]; omega)])
      go_wp2_with fail
      go_ret
      exact ⟨by rw [HR.out]; rfl, HL.out.aft⟩
end Go.Proofs.Ytejdkmfbncedkaa

