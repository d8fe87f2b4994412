/- TreeSpans of law 10, walked. -/
import Derived.Test.YtpnckphfjcnooaaT17
import Derived.Test.YtpnckphfjcnooaaTBack
namespace Go.Proofs.Ytpnckphfjcnooaa
open Go Go.RowKit
set_option linter.unusedSimpArgs false

set_option maxRecDepth 100000 in
set_option maxHeartbeats 8000000 in
theorem treeSpans_any (vi vl : Value) (ids : List Int) (ls : List (List Int)) (id : Int) (w : World) (hi : Rd w vi (zv ids)) (hl : RdLs w vl ls) :
    Calls Try.prog 7 #[.agg (shpL vi vl).toArray, .int .i64 id] w fun e w' => e = .returned (.bool true) ∧ Aft w w' := by
  have HFw := Lib.hid (fun (wx : World) (ha : Aft w wx) => tfew_any vi vl ids ls wx (hi.grow ha) (hl.aft ha))
  have HCk := Lib.hid (fun (hs : Small ids ls) (wx : World) (ha : Aft w wx) => tcheck_any vi vl ids ls wx (hi.grow ha) (hl.aft ha) hs)
  have HPt := Lib.hid (fun (hs : Small ids ls) (wx : World) (ha : Aft w wx) => tpath_any vi vl ids ls id wx (hi.grow ha) (hl.aft ha) hs)
  have HSs := Lib.hid (fun (hs : Small ids ls) (level : Int) (wx : World) (ha : Aft w wx) => tspans_any vi vl ids ls level wx (hi.grow ha) (hl.aft ha) hs)
  have HFd0 := Lib.hid (fun (hs : Small ids ls) (wx : World) (ha : Aft w wx) => find_any vi vl ids id wx (hi.grow ha) hs.fi)
  have HLs := Lib.hid hl
  obtain ⟨ao, cap, rfl, -, -⟩ := hi.numS
  obtain ⟨bo, dap, rfl, -⟩ := hl.shape
  have HL := Lib.hid (Led.start w)
  clear hi hl
  go_enter Try.func7, Try.ntmps7
  go_wp2_with (first | (refine wpList_boxO rfl 26 (.tmp 0) rfl (.agg (shpL (.slice ao ids.length cap) (.slice bo ls.length dap)).toArray) rfl (.cells (shpL (.slice ao ids.length cap) (.slice bo ls.length dap)).toArray 26) (box_shp _) ?_; intro w' aa gg zz; (try replace HO := Lib.hid (HO.out.aft aa)); (try replace HO2 := Lib.hid (HO2.out.aft aa)); (try replace HOK := Lib.hid (HOK.out.aft aa)); (try replace HO3 := Lib.hid (HO3.out.aft aa)); (try replace HO4 := Lib.hid (HO4.out.aft aa)); (try replace HO5 := Lib.hid (HO5.out.aft aa)); replace HL := Lib.hid (HL.out.alloc aa gg.out); clear aa gg zz; try simp only [List.nil_append, List.cons_append, List.set_cons_zero, List.set_cons_succ] at HL))
  refine (live10_any _).mono ?_
  rintro e w1 ⟨rfl, h1⟩
  (try replace HO := Lib.hid (HO.out.aft h1)); (try replace HO2 := Lib.hid (HO2.out.aft h1)); (try replace HOK := Lib.hid (HOK.out.aft h1)); (try replace HO3 := Lib.hid (HO3.out.aft h1)); (try replace HO4 := Lib.hid (HO4.out.aft h1)); (try replace HO5 := Lib.hid (HO5.out.aft h1)); replace HL := Lib.hid (HL.out.call h1)
  clear h1
  go_wp2_with (first | (refine wpList_load_rowG (by kernel_rfl) 26 (.tmp 2) rfl _ rfl _ _ _ _ (HL.out.get 0 rfl) Try.underlying26 rfl (shp_info _ _) ?_))
  refine (HFw.out _ HL.out.aft).mono ?_
  rintro e w2 ⟨rfl, h2⟩
  (try replace HO := Lib.hid (HO.out.aft h2)); (try replace HO2 := Lib.hid (HO2.out.aft h2)); (try replace HOK := Lib.hid (HOK.out.aft h2)); (try replace HO3 := Lib.hid (HO3.out.aft h2)); (try replace HO4 := Lib.hid (HO4.out.aft h2)); (try replace HO5 := Lib.hid (HO5.out.aft h2)); replace HL := Lib.hid (HL.out.call h2)
  clear h2 HFw
  cases hf : fewT ids ls with
  | false =>
    clear hf
    go_wp2_with fail
    go_ret
    exact ⟨rfl, HL.out.aft⟩
  | true =>
    have HS := Lib.hid (fewT_small hf)
    clear hf
    go_wp2_with (first | (refine wpList_load_rowG (by kernel_rfl) 26 (.tmp 2) rfl _ rfl _ _ _ _ (HL.out.get 0 rfl) Try.underlying26 rfl (shp_info _ _) ?_))
    refine (HCk.out HS.out _ HL.out.aft).mono ?_
    rintro e w3 ⟨rfl, h3⟩
    (try replace HO := Lib.hid (HO.out.aft h3)); (try replace HO2 := Lib.hid (HO2.out.aft h3)); (try replace HOK := Lib.hid (HOK.out.aft h3)); (try replace HO3 := Lib.hid (HO3.out.aft h3)); (try replace HO4 := Lib.hid (HO4.out.aft h3)); (try replace HO5 := Lib.hid (HO5.out.aft h3)); replace HL := Lib.hid (HL.out.call h3)
    clear h3 HCk
    by_cases hok : OkT ids ls
    rotate_left
    · rw [chk_bad hok]
      clear hok
      go_wp2_with fail
      go_ret
      exact ⟨rfl, HL.out.aft⟩
    rw [chkT_zero.2 hok]
    have HOk := Lib.hid hok
    clear hok
    go_wp2_with (first | (refine wpList_load_rowG (by kernel_rfl) 26 (.tmp 2) rfl _ rfl _ _ _ _ (HL.out.get 0 rfl) Try.underlying26 rfl (shp_info _ _) ?_))
    refine (HPt.out HS.out _ HL.out.aft).mono ?_
    rintro e w4 ⟨vp, rfl, hp, h4⟩
    (try replace HO := Lib.hid (HO.out.aft h4)); (try replace HO2 := Lib.hid (HO2.out.aft h4)); (try replace HOK := Lib.hid (HOK.out.aft h4)); (try replace HO3 := Lib.hid (HO3.out.aft h4)); (try replace HO4 := Lib.hid (HO4.out.aft h4)); (try replace HO5 := Lib.hid (HO5.out.aft h4)); replace HL := Lib.hid (HL.out.call h4)
    have HPr := Lib.hid hp
    clear hp h4 HPt
    go_wp2_with (first | (refine wpList_load_rowG (by kernel_rfl) 26 (.tmp 2) rfl _ rfl _ _ _ _ (HL.out.get 0 rfl) Try.underlying26 rfl (shp_info _ _) ?_))
    refine (HFd0.out HS.out _ HL.out.aft).mono ?_
    rintro e w5 ⟨rfl, h5⟩
    (try replace HO := Lib.hid (HO.out.aft h5)); (try replace HO2 := Lib.hid (HO2.out.aft h5)); (try replace HOK := Lib.hid (HOK.out.aft h5)); (try replace HO3 := Lib.hid (HO3.out.aft h5)); (try replace HO4 := Lib.hid (HO4.out.aft h5)); (try replace HO5 := Lib.hid (HO5.out.aft h5)); replace HL := Lib.hid (HL.out.call h5)
    have HA5 := Lib.hid h5
    clear h5 HFd0
    by_cases g1 : delE ids ls id = 0
    rotate_left
    · obtain ⟨q1, q2⟩ := delE_six HOk.out g1
      rw [show pathE ids ls id = 6 from q1, decide_eq_false q2]
      clear q1 q2 g1
      go_wp2_with fail
      go_ret
      exact ⟨rfl, HL.out.aft⟩
    have hin := (delE_zero g1).2
    have HCn := Lib.hid (cnt_lt HOk.out.1.2.2 hin)
    have hpv : pathV ids ls id = pathL ls (cnt ids id : Nat) := if_pos g1
    rw [show pathE ids ls id = 0 from g1, decide_eq_true hin]
    rw [hpv] at HPr
    clear hin g1 hpv
    have HSp := Lib.hid (fun k (hk : k < ls.length) => span_holds ls ids.length (ids.length : Nat) (cnt ids id : Nat) (ones ids.length) (cnt ids id : Nat) (fro_ones _) HOk.out.2 (by omega) (by have := HCn.out; omega) (by rw [Int.toNat_natCast, ones_at (Nat.le_of_lt HCn.out)]; exact Int.le_refl _) (by rw [Int.toNat_natCast, ones_at HCn.out]; omega) k hk)
    have hPl := pathL_length ls (cnt ids id : Nat)
    obtain ⟨P, hP⟩ : ∃ P, P = pathL ls (cnt ids id : Nat) := ⟨_, rfl⟩
    rw [← hP] at HPr hPl HSp
    clear hP
    have HPl := Lib.hid hPl
    obtain ⟨ap, cp, rfl, -, -⟩ := HPr.out.numS
    rw [hPl] at HPr ⊢
    clear hPl
    have hl0 := shp_l (HL.out.get 0 rfl)
    have hcm : ((cnt ids id : Nat) : Int) ≤ 1048576 := by have := HCn.out; have := HS.out.fi; omega
    generalize cnt ids id = c at *
    go_wp2_with fail
    clear hl0
    go_loopw [59] (fun v59 wr => ∃ k : Nat, k ≤ ls.length ∧ v59 = .int .i64 (k : Int) ∧ Aft w4 wr ∧ Led w wr [(w.heap.size, .cells (shpL (.slice ao ids.length cap) (.slice bo ls.length dap)).toArray 26)]) (fun v _ => ls.length - (intOf v).toNat)
    case atStart => exact ⟨0, by omega, rfl, HA5.out, HL.out⟩
    case round =>
      clear HL HA5
      obtain ⟨k, hk, rfl, hA, hL⟩ := hrel
      have HL := Lib.hid hL
      have HA := Lib.hid hA
      clear hL hA
      by_cases hlt : k < ls.length
      · have hlt' : (k : Int) < (ls.length : Nat) := by omega
        obtain ⟨f1, p1, p2, p3, p4, p5⟩ := HSp.out k hlt
        obtain ⟨gp, op, rfl, -, -⟩ := HPr.out.some_of (by rw [zv_length, HPl.out]; omega)
        have hc := (HPr.out.grow HA.out).num_at (i := k) (by rw [HPl.out]; exact hlt)
        obtain ⟨g, hg⟩ : ∃ g : Nat, P.getD k 0 = (g : Int) := ⟨(P.getD k 0).toNat, by omega⟩
        rw [hg] at hc p2 p3 p4 p5
        rw [Int.toNat_natCast] at p3 p4
        have HF1 := Lib.hid f1
        have HE2 := Lib.hid (show spanE ids ls (k : Int) = 0 from if_neg (by
          rintro (q | q | q)
          · exact q HOk.out
          · omega
          · omega))
        have hsv : spanV ids ls (k : Int) = spanL ids.length (ls.take (k + 1)) := if_pos HE2.out
        change _ ≤ _ at p3
        have hF : (ls.take (k + 1)).foldl (fun f l => spF l f) (ones ids.length) = spanL ids.length (ls.take (k + 1)) := rfl
        rw [hF] at p3 p4 HF1
        have HV2 := Lib.hid hsv
        have HP5 := Lib.hid p5
        obtain ⟨b1, o1, c1, x, he, hcx, hrx⟩ := HLs.out.cell hlt
        injection he with he1 he2 he3
        subst he1 he3
        obtain ⟨a3, c3, rfl, -, -⟩ := hrx.numS
        have hgm : (g : Int) ≤ 1048576 := by have := HS.out.fv _ (getD_mem hlt); omega
        have HLm := Lib.hid (HS.out.fv _ (getD_mem hlt))
        generalize ls.getD k [] = l at *
        generalize spanL ids.length (ls.take (k + 1)) = F at *
        clear f1 p1 p5 hg hsv hF he2 hrx
        go_wp2_with (first | (refine wpList_load_rowG (by kernel_rfl) 26 (.tmp 2) rfl _ rfl _ _ _ _ (HL.out.get 0 rfl) Try.underlying26 rfl (shp_info _ _) ?_))
        refine (HSs.out HS.out _ _ HL.out.aft).mono ?_
        rintro e w6 ⟨vf, rfl, hf, h6⟩
        (try replace HO := Lib.hid (HO.out.aft h6)); (try replace HO2 := Lib.hid (HO2.out.aft h6)); (try replace HOK := Lib.hid (HOK.out.aft h6)); (try replace HO3 := Lib.hid (HO3.out.aft h6)); (try replace HO4 := Lib.hid (HO4.out.aft h6)); (try replace HO5 := Lib.hid (HO5.out.aft h6)); replace HL := Lib.hid (HL.out.call h6)
        replace HA := Lib.hid (Aft.trans HA.out h6)
        rw [HE2.out]
        rw [HV2.out] at hf
        have hFl : F.length = l.length + 1 := by have := HF1.out.len; omega
        obtain ⟨af, cf, rfl, -, -⟩ := hf.numS
        rw [hFl] at hf ⊢
        obtain ⟨gf, of, rfl, -, -⟩ := hf.some_of (by rw [zv_length]; omega)
        have q2 : g < l.length := by omega
        have HFr := Lib.hid hf
        clear h6 hf HE2 HV2 hc
        have k0 := HF1.out.zero
        have kl := HF1.out.last
        rw [Int.toNat_natCast] at kl
        have d0 := fun u : Later w6.heap.size w6 => (HFr.out.grow u.h).num_at (i := 0) (by omega)
        have dl := fun u : Later w6.heap.size w6 => (HFr.out.grow u.h).num_at (i := l.length) (by omega)
        have d1 := fun u : Later w6.heap.size w6 => (HFr.out.grow u.h).num_at (i := g) (by omega)
        have d2 := fun u : Later w6.heap.size w6 => (HFr.out.grow u.h).num_at (i := g + 1) (by omega)
        rw [k0, Nat.add_zero] at d0
        rw [kl] at dl
        have s0 := fun u : Later w6.heap.size w6 => shp_l (Aft.get u.h (HL.out.get 0 rfl))
        have s1 := fun u : Later w6.heap.size w6 => shp_i (Aft.get u.h (HL.out.get 0 rfl))
        have s2 := fun u : Later w6.heap.size w6 => hcx u.w (Aft.trans HL.out.aft u.h)
        generalize F.getD g 0 = y1 at *
        generalize F.getD (g + 1) 0 = y2 at *
        have e1 : decide ((g : Int) < 0) = false := decide_eq_false (by omega)
        have e2 : decide ((l.length : Int) + 1 ≤ (g : Int) + 1) = false := decide_eq_false (by omega)
        have e2' : decide (l.length ≤ g) = false := decide_eq_false (by omega)
        have e3 : decide ((c : Int) < y1) = false := decide_eq_false (by omega)
        have e4 : decide (y2 ≤ (c : Int)) = false := decide_eq_false (by omega)
        have hlm := HLm.out
        clear k0 kl hcx HF1 hFl
        go_wp2_with fail
        refine wp_region_lex (fun wz => ∃ u : Later w6.heap.size w6, wz = u.w) (fun i => ([] : List Nat).contains i) 60 (by kernel_rfl) (by kernel_rfl) ⟨⟨w6.drew, (Below.refl _ _).drew⟩, rfl⟩ ?_
        change wpLx _ _ _ _ _ _ _ _ _ w6.drew
        have HD := Lib.hid (show Aft w6 w6.drew from (Below.refl _ _).drew)
        generalize w6.drew = wd at *
        try simp only [Act.put, List.setIfInBounds_toArray, List.set_cons_succ, List.set_cons_zero]
        repeat (first | (refine lx_skipT (by go_big_quiet_skip; exact wpQuiet_nil trivial) (by kernel_rfl) ?_; simp only [Act.put, List.setIfInBounds_toArray, List.set_cons_succ, List.set_cons_zero]) | (refine lx_quietT rfl (by go_big_quiet_want; exact quiet_false (by assumption)) (by kernel_rfl) rfl ?_; intro Kx hKx; go_big_quiet_op; go_big_quiet_on))
        refine lx_done ?_
        clear d0 dl d1 d2 s0 s1 s2 e1 e2 e2' e3 e4
        replace HL := Lib.hid (HL.out.call HD.out)
        replace HA := Lib.hid (Aft.trans HA.out HD.out)
        clear HD
        have hfl := HS.out.fl
        go_wp2_with fail
        · have h : (g : Int) = 0 := HP5.out (by omega)
          have hx : ((g : Int) != 0) = true := by assumption
          rw [h] at hx
          cases hx
        all_goals
          go_roundw
          case rel => exact ⟨k + 1, by omega, by go_num, HA.out, HL.out⟩
          case measure => simp [intOf]; omega
      · obtain rfl : k = ls.length := by omega
        have hlt' : ¬ ((ls.length : Nat) : Int) < (ls.length : Nat) := by omega
        go_wp2_with fail
        go_ret
        exact ⟨rfl, HL.out.aft⟩
end Go.Proofs.Ytpnckphfjcnooaa
