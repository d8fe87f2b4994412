/- RedSpans of law 11, walked. -/
import Derived.Test.YtpnckphfjcnooaaNS
import Derived.Test.YtpnckphfjcnooaaStRow
import Derived.Test.YtpnckphfjcnooaaT17
import Derived.Deep.Cut
namespace Go.Proofs.Ytpnckphfjcnooaa
open Go Go.RowKit
set_option linter.unusedSimpArgs false

/-- Where the walk along a node's kids stands. -/
def atN (N : List Nd) (a : Int) : List Nat → Int
  | [] => a
  | k :: ks => atN N (N.getD k nd0).tt ks
theorem atN_snoc (N : List Nd) : ∀ (a : Int) (ks : List Nat) (k : Nat), atN N a (ks ++ [k]) = (N.getD k nd0).tt
  | _, [], _ => rfl
  | _, _ :: ks, k => atN_snoc N _ ks k
theorem chain_at {N : List Nd} : ∀ {a t : Int} {ks : List Nat}, ChainN N a ks t → ∀ j, j < ks.length → (N.getD (ks.getD j 0) nd0).fr = atN N a (ks.take j)
  | _, _, _ :: _, h, 0, _ => h.1
  | _, _, _ :: _, h, j + 1, hj => chain_at h.2 j (by simpa using hj)
theorem chain_end {N : List Nd} : ∀ {a t : Int} {ks : List Nat}, ChainN N a ks t → atN N a ks = t
  | _, _, [], h => h
  | _, t, k :: ks, h => (chain_end h.2 : atN N (N.getD k nd0).tt ks = t)
theorem take_snocN (ks : List Nat) {j : Nat} (h : j < ks.length) : ks.take (j + 1) = ks.take j ++ [ks.getD j 0] := by
  rw [List.take_add_one, List.getElem?_eq_getElem h, List.getD_eq_getElem?_getD, List.getElem?_eq_getElem h]
  rfl
set_option maxRecDepth 100000 in
set_option maxHeartbeats 4000000 in
theorem redSpans_any (kind : Int) (vi vl : Value) (ids : List Int) (ls : List (List Int)) (w : World) (hi : Rd w vi (zv ids)) (hl : RdLs w vl ls) :
    Calls Try.prog 8 #[.int .i64 kind, .agg (shpL vi vl).toArray] w fun e w' => e = .returned (.bool true) ∧ Aft w w' := by
  have HFw := Lib.hid (fun (wx : World) (ha : Aft w wx) => tfew_any vi vl ids ls wx (hi.grow ha) (hl.aft ha))
  have HNd := Lib.hid (fun (hs : Small ids ls) (wx : World) (ha : Aft w wx) => rnodes_any kind vi vl ids ls wx (hi.grow ha) (hl.aft ha) hs)
  have HSs := Lib.hid (fun (hs : Small ids ls) (level : Int) (wx : World) (ha : Aft w wx) => tspans_any vi vl ids ls level wx (hi.grow ha) (hl.aft ha) hs)
  obtain ⟨ao, cap, rfl, -, -⟩ := hi.numS
  obtain ⟨bo, dap, rfl, -⟩ := hl.shape
  have HL := Lib.hid (Led.start w)
  clear hi hl
  go_enter Try.func8, Try.ntmps8
  go_wp2_with (first | (refine wpList_boxO rfl 26 (.tmp 1) rfl (.agg (shpL (.slice ao ids.length cap) (.slice bo ls.length dap)).toArray) rfl (.cells (shpL (.slice ao ids.length cap) (.slice bo ls.length dap)).toArray 26) (box_shp _) ?_; intro w' aa gg zz; (try replace HO := Lib.hid (HO.out.aft aa)); (try replace HO2 := Lib.hid (HO2.out.aft aa)); (try replace HOK := Lib.hid (HOK.out.aft aa)); (try replace HO3 := Lib.hid (HO3.out.aft aa)); (try replace HO4 := Lib.hid (HO4.out.aft aa)); (try replace HO5 := Lib.hid (HO5.out.aft aa)); replace HL := Lib.hid (HL.out.alloc aa gg.out); clear aa gg zz; try simp only [List.nil_append, List.cons_append, List.set_cons_zero, List.set_cons_succ] at HL))
  refine (live11_any _).mono ?_
  rintro e w1 ⟨rfl, h1⟩
  (try replace HO := Lib.hid (HO.out.aft h1)); (try replace HO2 := Lib.hid (HO2.out.aft h1)); (try replace HOK := Lib.hid (HOK.out.aft h1)); (try replace HO3 := Lib.hid (HO3.out.aft h1)); (try replace HO4 := Lib.hid (HO4.out.aft h1)); (try replace HO5 := Lib.hid (HO5.out.aft h1)); replace HL := Lib.hid (HL.out.call h1)
  clear h1
  go_wp2_with (first | (refine wpList_load_rowG (by kernel_rfl) 26 (.tmp 3) rfl _ rfl _ _ _ _ (HL.out.get 0 rfl) Try.underlying26 rfl (shp_info _ _) ?_))
  refine (HFw.out _ HL.out.aft).mono ?_
  rintro e w2 ⟨rfl, h2⟩
  (try replace HO := Lib.hid (HO.out.aft h2)); (try replace HO2 := Lib.hid (HO2.out.aft h2)); (try replace HOK := Lib.hid (HOK.out.aft h2)); (try replace HO3 := Lib.hid (HO3.out.aft h2)); (try replace HO4 := Lib.hid (HO4.out.aft h2)); (try replace HO5 := Lib.hid (HO5.out.aft h2)); replace HL := Lib.hid (HL.out.call h2)
  clear h2 HFw
  have hc0 := shp_i (HL.out.get 0 rfl)
  cases hf : fewT ids ls with
  | false =>
    clear hf
    go_wp2_with fail
    go_ret
    exact ⟨rfl, HL.out.aft⟩
  | true =>
    have HS := Lib.hid (fewT_small hf)
    clear hf
    by_cases h120 : (120 : Int) < (ids.length : Nat)
    · go_wp2_with fail
      go_ret
      exact ⟨rfl, HL.out.aft⟩
    go_wp2_with (first | (refine wpList_load_rowG (by kernel_rfl) 26 (.tmp 3) rfl _ rfl _ _ _ _ (HL.out.get 0 rfl) Try.underlying26 rfl (shp_info _ _) ?_))
    clear hc0
    refine (HNd.out HS.out _ HL.out.aft).mono ?_
    rintro e w3 ⟨v3, ps3, rfl, ho3, hf3, h3⟩
    obtain ⟨x3, y3, rfl⟩ := ho3.shape
    (try replace HO := Lib.hid (HO.out.aft h3)); (try replace HO2 := Lib.hid (HO2.out.aft h3)); (try replace HOK := Lib.hid (HOK.out.aft h3)); (try replace HO3 := Lib.hid (HO3.out.aft h3)); (try replace HO4 := Lib.hid (HO4.out.aft h3)); (try replace HO5 := Lib.hid (HO5.out.aft h3)); replace HL := Lib.hid (HL.out.call h3)
    have HN3 := Lib.hid ho3
    have HF3 := Lib.hid hf3
    clear h3 ho3 hf3 HNd
    by_cases hz : mayE kind ids ls = 0
    rotate_left
    · rw [(mayE_or kind ids ls).resolve_left hz]
      clear hz h120
      go_wp2_with fail
      go_ret
      exact ⟨rfl, HL.out.aft⟩
    rw [hz]
    have hok := (mayE_zero.1 hz).2
    replace HF3 := Lib.hid (show ps3.map Prod.fst = nodesL kind ids ls by rw [HF3.out, if_pos hz])
    have HOk := Lib.hid hok
    have HGd := Lib.hid (fun (i : Nat) (hi : i < ps3.length) => show GoodN ids.length ls (ps3.map Prod.fst) (ps3.getD i ndP).1 by rw [← fst_getD, HF3.out]; exact nodes_good hok (by rw [← HF3.out, List.length_map]; exact hi))
    have hn3 : ps3.length ≤ 90000 := by
      have h := (below_length kind ls ls.length 0 []).2
      have h9 : 3 ^ ls.length ≤ 3 ^ 9 := Nat.pow_le_pow_right (by decide) (lv_nine2 hok)
      have h5 : (nodesL kind ids ls).length ≤ 90000 := by
        unfold nodesL
        split
        · simp
        · simp only [List.length_nil] at h
          omega
      rw [← HF3.out, List.length_map] at h5
      exact h5
    clear hok hz
    go_wp2_with fail
    go_loopw [41] (fun v41 wr => ∃ i : Nat, i ≤ ps3.length ∧ v41 = .int .i64 (i : Int) ∧ Aft w3 wr ∧ Led w wr [(w.heap.size, .cells (shpL (.slice ao ids.length cap) (.slice bo ls.length dap)).toArray 26)]) (fun v41 _ => ps3.length - (intOf v41).toNat)
    case atStart => exact ⟨0, by omega, rfl, Aft.refl _, HL.out⟩
    case round =>
      obtain ⟨i, hi, rfl, hA, hL⟩ := hrel
      have HL := Lib.hid hL
      have HA := Lib.hid hA
      clear hA hL
      by_cases hlt : i < ps3.length
      · have hlt' : (i : Int) < (ps3.length : Nat) := by omega
        have hown := HN3.out.own (ps3.getD i ndP) (by rw [List.getD_eq_getElem?_getD, List.getElem?_eq_getElem hlt]; exact List.getElem_mem hlt)
        obtain ⟨ka, kc, hkv⟩ := hown.shape
        obtain ⟨g4, c4, he, -, hrg⟩ := HN3.out.rngA hlt
        injection he with he1 he2 he3
        subst he1 he3
        have hrx := hrg wr HA.out
        have hgd := HGd.out i hlt
        rw [hkv] at hrx hown
        generalize (ps3.getD i ndP).1 = x at *
        have HRx := Lib.hid hrx
        have HKx := Lib.hid hown
        clear hrx hrg hkv he2 hown
        rcases hgd with ⟨at', ha, hlv, hks, hix, hfr, htt⟩ | ⟨L, at', ks, hlv, hix, hks, hk0, hkn, hch, hsp⟩
        · obtain ⟨xl, xi, xr, xf, xt, xk, xu⟩ := x
          simp only at hlv hks hix hfr htt
          subst hlv hks hix hfr htt
          have hat2 : (at' : Int) ≤ 1000 := by omega
          go_wp2_with (first | (refine wpList_dstT 44 rfl ?_; refine wpList_load_mid2 (by kernel_rfl) 41 (.tmp 43) rfl _ _ rfl (ndR ⟨0, (at' : Int), xr, (at' : Int), (at' : Int) + 1, [], xu⟩ (.slice ka 0 kc)) HRx.out _ Try.underlying41 rfl (nd_info3 _ _) ?_) | (refine wpList_allocO rfl 41 rfl (.cells (ndR nd0 (.slice none 0 0)).toArray 41) alloc_nd ?_; intro w' aa gg zz; have HA0 := HA; replace HA := Lib.hid (Aft.trans HA.out aa); replace HL := Lib.hid (HL.out.alloc aa gg.out); clear aa gg zz; try simp only [List.nil_append, List.cons_append, List.set_cons_zero, List.set_cons_succ] at HL) | (refine wpList_store_rowZ rfl 41 (.tmp 9) (.tmp 44) rfl _ (ndR ⟨0, (at' : Int), xr, (at' : Int), (at' : Int) + 1, [], xu⟩ (.slice ka 0 kc)).toArray rfl rfl _ _ (HL.out.get 1 rfl) (nd_info _ _) rfl (all_one ndR_one) ?_; intro w' b1 b2 b3; replace HA := Lib.hid (b3 _ _ (Below.size HA0.out) HA.out); replace HL := Lib.hid (HL.out.store 1 rfl b1 b2 b3); clear b1 b2 b3; try simp only [List.nil_append, List.cons_append, List.set_cons_zero, List.set_cons_succ] at HL; have d0 := cell_part (n := 0) (HL.out.get 1 rfl) rfl; have d1 := cell_part (n := 1) (HL.out.get 1 rfl) rfl; have d2 := cell_part (n := 2) (HL.out.get 1 rfl) rfl; have d3 := cell_part (n := 3) (HL.out.get 1 rfl) rfl; have d4 := cell_part (n := 4) (HL.out.get 1 rfl) rfl; have d5 := cell_part (n := 5) (HL.out.get 1 rfl) rfl))
          go_loop [50] (fun v50 => v50 = .int .i64 0) (fun _ => 0)
          case atStart => exact rfl
          case round =>
            subst hrel
            go_wp2_with fail
            go_roundw
            case rel => exact ⟨i + 1, by omega, by go_num, HA.out, HL.out.cut 1⟩
            case measure => simp [intOf]; omega
        · have HCh := Lib.hid hch
          have HKn := Lib.hid hkn
          have HKs := Lib.hid hks
          have hkl : x.ks.length = ks.length := by rw [hks, kz_length]
          have HSp := Lib.hid hsp
          have HLv := Lib.hid hlv
          have HIx := Lib.hid hix
          rw [hkl] at HRx
          rw [hkl] at HKx
          clear hch hkn hks hsp hlv hix hkl
          go_wp2_with (first | (refine wpList_dstT 44 rfl ?_; refine wpList_load_mid2 (by kernel_rfl) 41 (.tmp 43) rfl _ _ rfl (ndR x (.slice ka ks.length kc)) HRx.out _ Try.underlying41 rfl (nd_info3 _ _) ?_) | (refine wpList_allocO rfl 41 rfl (.cells (ndR nd0 (.slice none 0 0)).toArray 41) alloc_nd ?_; intro w' aa gg zz; have HA0 := HA; replace HA := Lib.hid (Aft.trans HA.out aa); replace HL := Lib.hid (HL.out.alloc aa gg.out); clear aa gg zz; try simp only [List.nil_append, List.cons_append, List.set_cons_zero, List.set_cons_succ] at HL) | (refine wpList_store_rowZ rfl 41 (.tmp 9) (.tmp 44) rfl _ (ndR x (.slice ka ks.length kc)).toArray rfl rfl _ _ (HL.out.get 1 rfl) (nd_info _ _) rfl (all_one ndR_one) ?_; intro w' b1 b2 b3; replace HA := Lib.hid (b3 _ _ (Below.size HA0.out) HA.out); replace HL := Lib.hid (HL.out.store 1 rfl b1 b2 b3); clear b1 b2 b3; try simp only [List.nil_append, List.cons_append, List.set_cons_zero, List.set_cons_succ] at HL; have d0 := cell_part (n := 0) (HL.out.get 1 rfl) rfl; have d1 := cell_part (n := 1) (HL.out.get 1 rfl) rfl; have d2 := cell_part (n := 2) (HL.out.get 1 rfl) rfl; have d3 := cell_part (n := 3) (HL.out.get 1 rfl) rfl; have d4 := cell_part (n := 4) (HL.out.get 1 rfl) rfl; have d5 := cell_part (n := 5) (HL.out.get 1 rfl) rfl))
          have HB3 := Lib.hid (show (ps3.map Prod.fst).length = ps3.length from List.length_map _)
          have HFs := Lib.hid (fun k => fst_getD ps3 k)
          generalize ps3.map Prod.fst = N at *
          go_loop [10, 50] (fun v10 v50 => ∃ j : Nat, j ≤ ks.length ∧ v50 = .int .i64 (j : Int) ∧ v10 = .int .i64 (atN N x.fr (ks.take j))) (fun _ v50 => ks.length - (intOf v50).toNat)
          case atStart => exact ⟨0, by omega, rfl, rfl⟩
          case round =>
            obtain ⟨j, hj, rfl, rfl⟩ := hrel
            by_cases hjl : j < ks.length
            · have hjl' : (j : Int) < (ks.length : Nat) := by omega
              have hkb : ks.length ≤ 9223372036854775807 := by
                obtain ⟨_, _, _, h1, h2⟩ := HKx.out.rd.numS
                have h3 : x.ks.length = ks.length := by rw [HKs.out, kz_length]
                omega
              obtain ⟨gk, ck, he, -, hkc⟩ := HKx.out.atA (by rw [HKs.out, kz_length]; omega)
              rw [HKs.out, kz_length] at he
              injection he with he1 he2 he3
              subst he1 he3
              have hck := hkc w' HA.out j (by rw [HKs.out, kz_length]; exact hjl)
              rw [HKs.out, kz_at] at hck
              have hkm : ks.getD j 0 < ps3.length := by rw [← HB3.out]; exact HKn.out _ (by rw [List.getD_eq_getElem?_getD, List.getElem?_eq_getElem hjl]; exact List.getElem_mem hjl)
              obtain ⟨g5, c5, he, -, hc5⟩ := HN3.out.atA hkm
              injection he with he1 he4 he3
              cases he1
              have hfr := hc5 w' HA.out 3 _ rfl
              have htt := hc5 w' HA.out 4 _ rfl
              have HCt := Lib.hid (chain_at HCh.out j hjl)
              have HSn := Lib.hid (show atN N x.fr (ks.take (j + 1)) = (N.getD (ks.getD j 0) nd0).tt by rw [take_snocN ks hjl, atN_snoc])
              rw [← HFs.out, HCt.out] at hfr
              rw [← HFs.out] at htt
              generalize (N.getD (ks.getD j 0) nd0).tt = tv at *
              generalize ks.getD j 0 = k at *
              have hkm' : (k : Int) < (ps3.length : Nat) := Int.ofNat_lt.2 hkm
              have hk5 : ¬ (ps3.length : Int) ≤ (k : Int) := by omega
              have hk6 : ¬ (k : Int) < 0 := by omega
              generalize atN N x.fr (ks.take j) = av at *
              clear he2 he4 hkc hc5
              go_wp2_with fail
              go_round
              case rel => exact ⟨j + 1, by omega, by go_num, by rw [HSn.out]⟩
              case measure => simp [intOf]; omega
            · obtain rfl : j = ks.length := by omega
              have hjl' : ¬ ((ks.length : Nat) : Int) < (ks.length : Nat) := by omega
              rw [List.take_length, chain_end HCh.out]
              have hlen : (0 : Int) < (ks.length : Nat) := by omega
              have hl0 : (x.lv == 0) = false := by rw [HLv.out]; simp; omega
              have hl1 : ¬ x.lv = 0 := by rw [HLv.out]; omega
              clear d1
              go_upto_region 20 with fail
              cases hr : x.rd with
              | true =>
                rw [hr] at d2
                clear hr
                go_wp2_with fail
                go_roundw
                case rel => exact ⟨i + 1, by omega, by go_num, HA.out, HL.out.cut 1⟩
                case measure => simp [intOf]; omega
              | false =>
                obtain ⟨hLl, hal, hfr, htt⟩ := HSp.out hr
                obtain ⟨s0, s1, s2, s3⟩ := span_at HOk.out hLl hal
                rw [hr] at d2
                have hlw : wrap64 (x.lv - 1) = (L : Int) := by
                  have h9 := lv_nine2 HOk.out
                  rw [HLv.out, wrap64_mid (by omega) (by omega)]
                  omega
                have hfew := (okLv_fit ls ids.length HOk.out.2).few (L + 1) hLl
                have HS0 := Lib.hid s0
                have HS1 := Lib.hid s1
                have HS2 := Lib.hid (s2.trans hfr.symm)
                have HS3 := Lib.hid (s3.trans htt.symm)
                have HAl := Lib.hid hal
                have HFw := Lib.hid hfew
                have HLw := Lib.hid hlw
                clear hr s0 s1 s2 s3 hfr htt hal hfew hLl
                go_wp2_with (first | (refine wpList_dstT 115 rfl ?_; (refine wpList_load_rowG (by kernel_rfl) 26 (.tmp 3) rfl _ rfl _ _ _ _ (HL.out.get 0 rfl) Try.underlying26 rfl (shp_info _ _) ?_)))
                refine (HSs.out HS.out (L : Int) _ HL.out.aft).mono ?_
                rintro e w6 ⟨v6, rfl, hr6, h6⟩
                rw [HS0.out]
                obtain ⟨g6, o6, c6, hv6, -, -, -, -⟩ := Rd.at hr6 (by rw [zv_length, HS1.out]; omega)
                rw [zv_length] at hv6
                subst hv6
                replace HL := Lib.hid (HL.out.call h6)
                replace HA := Lib.hid (Aft.trans HA.out h6)
                have hm1 : at' + 1 < (spanV ids ls (L : Int)).length := by have h1 := HS1.out; have h2 := HAl.out; omega
                have HR6 := Lib.hid hr6
                have q0 := fun u : Later w6.heap.size w6 => (Rd.num_at (HR6.out.grow u.h) (i := at') (by omega)).trans (congrArg (fun z => some (Value.int .i64 z)) HS2.out)
                have q1 := fun u : Later w6.heap.size w6 => (Rd.num_at (HR6.out.grow u.h) (i := at' + 1) hm1).trans (congrArg (fun z => some (Value.int .i64 z)) HS3.out)
                have x1 := fun u : Later w6.heap.size w6 => (cell_part (n := 1) (Aft.get u.h (HL.out.get 1 rfl)) rfl).trans (congrArg (fun z => some (Value.int .i64 z)) HIx.out)
                have x3 := fun u : Later w6.heap.size w6 => cell_part (n := 3) (Aft.get u.h (HL.out.get 1 rfl)) rfl
                have x4 := fun u : Later w6.heap.size w6 => cell_part (n := 4) (Aft.get u.h (HL.out.get 1 rfl)) rfl
                have hat3 : (at' : Int) ≤ 1000 := by have h1 := HAl.out; have h2 := HFw.out; omega
                clear hr6 h6 d0 d2 d3 d4 d5
                generalize (spanV ids ls (L : Int)).length = m at *
                have hm2 : decide ((m : Int) ≤ (at' : Int) + 1) = false := decide_eq_false (by omega)
                have hm3 : decide ((at' : Int) < 0) = false := decide_eq_false (by omega)
                have hm4 : (at' : Int) < (m : Nat) := by omega
                have hm5 : (at' : Int) + 1 < (m : Nat) := by omega
                have hm6 : decide (m ≤ at' + 1) = false := decide_eq_false (by omega)
                go_upto_region 22 with fail
                refine wp_region_lex (fun wz => ∃ u : Later w6.heap.size w6, wz = u.w) (fun i => ([] : List Nat).contains i) 36 (by kernel_rfl) (by kernel_rfl) ⟨⟨w6.drew, (Below.refl _ _).drew⟩, rfl⟩ ?_
                change wpLx _ _ _ _ _ _ _ _ _ w6.drew
                have HDr := Lib.hid (show Aft w6 w6.drew from (Below.refl _ _).drew)
                generalize w6.drew = wd at *
                try simp only [Act.put, List.setIfInBounds_toArray, List.set_cons_succ, List.set_cons_zero]
                repeat (first | (refine lx_skipT (by go_big_quiet_skip; exact wpQuiet_nil trivial) (by kernel_rfl) ?_; simp only [Act.put, List.setIfInBounds_toArray, List.set_cons_succ, List.set_cons_zero]) | (refine lx_quietT rfl (by go_big_quiet_want; exact quiet_false (by assumption)) (by kernel_rfl) rfl ?_; intro Kx hKx; go_big_quiet_op; go_big_quiet_on))
                refine lx_done ?_
                clear q0 q1 x1 x3 x4 hm2 hm3 hm6
                replace HL := Lib.hid (HL.out.call HDr.out)
                replace HA := Lib.hid (Aft.trans HA.out HDr.out)
                clear HDr
                go_wp2_with fail
                go_roundw
                case rel => exact ⟨i + 1, by omega, by go_num, HA.out, HL.out.cut 1⟩
                case measure => simp [intOf]; omega
      · obtain rfl : i = ps3.length := by omega
        have hlt' : ¬ ((ps3.length : Nat) : Int) < (ps3.length : Nat) := by omega
        go_wp2_with fail
        go_ret
        exact ⟨rfl, HL.out.aft⟩
end Go.Proofs.Ytpnckphfjcnooaa
