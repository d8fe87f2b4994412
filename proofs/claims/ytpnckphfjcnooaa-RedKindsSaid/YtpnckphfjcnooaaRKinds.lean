/- RedKinds of law 11, walked. -/
import Derived.Test.YtpnckphfjcnooaaNK
import Derived.Test.YtpnckphfjcnooaaStRow
import Derived.Test.YtpnckphfjcnooaaTBack
import Derived.Deep.Cut
namespace Go.Proofs.Ytpnckphfjcnooaa
open Go Go.RowKit
set_option linter.unusedSimpArgs false

theorem nd_info3 (x : Nd) (kv : Value) : (Try.prog.info? 41).map (·.size) = some (ndR x kv).length := by kernel_rfl
theorem may_two {ids : List Int} {ls : List (List Int)} (kind : Int) (h : kind = 1 ∨ kind = 2) : mayE kind ids ls = chkT ids ls := if_pos h
theorem OwnN.rngA {w : World} {base : Nat} {v : Value} {ps : List (Nd × Value)} (h : OwnN w base v ps) {i : Nat} (hi : i < ps.length) :
    ∃ g cap, v = .slice (some ⟨g, 0, none⟩) ps.length cap ∧ g < w.heap.size ∧ ∀ wx, Aft w wx → wx.rangeAt g (i * 7) (ndR (ps.getD i ndP).1 (ps.getD i ndP).2) := by
  obtain ⟨g, cap, hv, hg, hc⟩ := h.atA hi
  exact ⟨g, cap, hv, hg, fun wx hx j u hu => hc wx hx j u hu⟩
theorem OwnN.kidv {w : World} {base : Nat} {v : Value} {ps : List (Nd × Value)} (h : OwnN w base v ps) {i : Nat} (hi : i < ps.length) : ∃ a c, (ps.getD i ndP).2 = .slice a (ps.getD i ndP).1.ks.length c :=
  (h.own _ (by rw [List.getD_eq_getElem?_getD, List.getElem?_eq_getElem hi]; exact List.getElem_mem hi)).shape
set_option maxRecDepth 100000 in
set_option maxHeartbeats 4000000 in
theorem redKinds_any (vi vl : Value) (ids : List Int) (ls : List (List Int)) (w : World) (hi : Rd w vi (zv ids)) (hl : RdLs w vl ls) :
    Calls Try.prog 5 #[.agg (shpL vi vl).toArray] w fun e w' => e = .returned (.bool true) ∧ Aft w w' := by
  have HFw := Lib.hid (fun (wx : World) (ha : Aft w wx) => tfew_any vi vl ids ls wx (hi.grow ha) (hl.aft ha))
  have HCk := Lib.hid (fun (hs : Small ids ls) (wx : World) (ha : Aft w wx) => tcheck_any vi vl ids ls wx (hi.grow ha) (hl.aft ha) hs)
  have HNd := Lib.hid (fun (hs : Small ids ls) (kind : Int) (wx : World) (ha : Aft w wx) => rnodes_any kind vi vl ids ls wx (hi.grow ha) (hl.aft ha) hs)
  have HLs := Lib.hid hl
  obtain ⟨ao, cap, rfl, -, -⟩ := hi.numS
  obtain ⟨bo, dap, rfl, -⟩ := hl.shape
  have HL := Lib.hid (Led.start w)
  clear hi hl
  go_enter Try.func5, Try.ntmps5
  go_wp2_with (first | (refine wpList_boxO rfl 26 (.tmp 0) rfl (.agg (shpL (.slice ao ids.length cap) (.slice bo ls.length dap)).toArray) rfl (.cells (shpL (.slice ao ids.length cap) (.slice bo ls.length dap)).toArray 26) (box_shp _) ?_; intro w' aa gg zz; (try replace HO := Lib.hid (HO.out.aft aa)); (try replace HO2 := Lib.hid (HO2.out.aft aa)); (try replace HOK := Lib.hid (HOK.out.aft aa)); (try replace HO3 := Lib.hid (HO3.out.aft aa)); (try replace HO4 := Lib.hid (HO4.out.aft aa)); (try replace HO5 := Lib.hid (HO5.out.aft aa)); replace HL := Lib.hid (HL.out.alloc aa gg.out); clear aa gg zz; try simp only [List.nil_append, List.cons_append, List.set_cons_zero, List.set_cons_succ] at HL))
  refine (live11_any _).mono ?_
  rintro e w1 ⟨rfl, h1⟩
  (try replace HO := Lib.hid (HO.out.aft h1)); (try replace HO2 := Lib.hid (HO2.out.aft h1)); (try replace HOK := Lib.hid (HOK.out.aft h1)); (try replace HO3 := Lib.hid (HO3.out.aft h1)); (try replace HO4 := Lib.hid (HO4.out.aft h1)); (try replace HO5 := Lib.hid (HO5.out.aft h1)); replace HL := Lib.hid (HL.out.call h1)
  clear h1
  go_wp2_with (first | (refine wpList_load_rowG (by kernel_rfl) 26 (.tmp 1) rfl _ rfl _ _ _ _ (HL.out.get 0 rfl) Try.underlying26 rfl (shp_info _ _) ?_))
  refine (HFw.out _ HL.out.aft).mono ?_
  rintro e w2 ⟨rfl, h2⟩
  (try replace HO := Lib.hid (HO.out.aft h2)); (try replace HO2 := Lib.hid (HO2.out.aft h2)); (try replace HOK := Lib.hid (HOK.out.aft h2)); (try replace HO3 := Lib.hid (HO3.out.aft h2)); (try replace HO4 := Lib.hid (HO4.out.aft h2)); (try replace HO5 := Lib.hid (HO5.out.aft h2)); replace HL := Lib.hid (HL.out.call h2)
  clear h2 HFw
  have hc0 := shp_i (HL.out.get 0 rfl)
  cases hf : fewT ids ls with
  | false =>
    clear hf
    go_wp2_with fail
    go_ret
    exact ⟨rfl, HL.out.aft⟩
  | true =>
    have HS := Lib.hid (fewT_small hf)
    clear hf
    by_cases h120 : (120 : Int) < (ids.length : Nat)
    · go_wp2_with fail
      go_ret
      exact ⟨rfl, HL.out.aft⟩
    go_wp2_with (first | (refine wpList_load_rowG (by kernel_rfl) 26 (.tmp 1) rfl _ rfl _ _ _ _ (HL.out.get 0 rfl) Try.underlying26 rfl (shp_info _ _) ?_))
    clear h120 hc0
    refine (HNd.out HS.out 1 _ HL.out.aft).mono ?_
    rintro e w3 ⟨v3, ps3, rfl, ho3, hf3, h3⟩
    rw [may_two 1 (.inl rfl)] at hf3 ⊢
    obtain ⟨x3, y3, rfl⟩ := ho3.shape
    (try replace HO := Lib.hid (HO.out.aft h3)); (try replace HO2 := Lib.hid (HO2.out.aft h3)); (try replace HOK := Lib.hid (HOK.out.aft h3)); (try replace HO3 := Lib.hid (HO3.out.aft h3)); (try replace HO4 := Lib.hid (HO4.out.aft h3)); (try replace HO5 := Lib.hid (HO5.out.aft h3)); replace HL := Lib.hid (HL.out.call h3)
    have HO3 := Lib.hid ho3
    have HF3 := Lib.hid hf3
    clear h3 ho3 hf3
    go_wp2_with (first | (refine wpList_load_rowG (by kernel_rfl) 26 (.tmp 1) rfl _ rfl _ _ _ _ (HL.out.get 0 rfl) Try.underlying26 rfl (shp_info _ _) ?_))
    refine (HNd.out HS.out 2 _ HL.out.aft).mono ?_
    rintro e w4 ⟨v4, ps4, rfl, ho4, hf4, h4⟩
    rw [may_two 2 (.inr rfl)] at hf4 ⊢
    obtain ⟨x4, y4, rfl⟩ := ho4.shape
    (try replace HO := Lib.hid (HO.out.aft h4)); (try replace HO2 := Lib.hid (HO2.out.aft h4)); (try replace HOK := Lib.hid (HOK.out.aft h4)); (try replace HO3 := Lib.hid (HO3.out.aft h4)); (try replace HO4 := Lib.hid (HO4.out.aft h4)); (try replace HO5 := Lib.hid (HO5.out.aft h4)); replace HL := Lib.hid (HL.out.call h4)
    have HO4 := Lib.hid ho4
    have HF4 := Lib.hid hf4
    clear h4 ho4 hf4 HNd
    by_cases hok : OkT ids ls
    rotate_left
    · rw [chk_bad hok]
      have HCk2 := Lib.hid (HCk.out HS.out)
      have HBad := Lib.hid (chk_bad hok)
      clear hok HCk
      go_wp2_with (first | (refine wpList_load_rowG (by kernel_rfl) 26 (.tmp 1) rfl _ rfl _ _ _ _ (HL.out.get 0 rfl) Try.underlying26 rfl (shp_info _ _) ?_))
      refine (HCk2.out _ HL.out.aft).mono ?_
      rintro e w5 ⟨rfl, h5⟩
      rw [HBad.out]
      (try replace HO := Lib.hid (HO.out.aft h5)); (try replace HO2 := Lib.hid (HO2.out.aft h5)); (try replace HOK := Lib.hid (HOK.out.aft h5)); (try replace HO3 := Lib.hid (HO3.out.aft h5)); (try replace HO4 := Lib.hid (HO4.out.aft h5)); (try replace HO5 := Lib.hid (HO5.out.aft h5)); replace HL := Lib.hid (HL.out.call h5)
      clear h5
      go_wp2_with fail
      go_ret
      exact ⟨rfl, HL.out.aft⟩
    have HZ := Lib.hid (chkT_zero.2 hok)
    rw [HZ.out]
    replace HF3 := Lib.hid (show ps3.map Prod.fst = nodesL 1 ids ls by rw [HF3.out, if_pos HZ.out])
    replace HF4 := Lib.hid (show ps4.map Prod.fst = nodesL 2 ids ls by rw [HF4.out, if_pos HZ.out])
    have HOk := Lib.hid hok
    clear hok HCk
    have hc1 := shp_l (HL.out.get 0 rfl)
    go_wp2_with fail
    clear hc1
    have hl9 := lv_nine2 HOk.out
    go_loop [8, 53] (fun v8 v53 => ∃ m : Nat, m ≤ ls.length ∧ v53 = .int .i64 (m : Int) ∧ v8 = .int .i64 (c3s ls m : Nat)) (fun _ v53 => ls.length - (intOf v53).toNat)
    case atStart => exact ⟨0, by omega, rfl, rfl⟩
    case round =>
      obtain ⟨m, hm, rfl, rfl⟩ := hrel
      by_cases hlt : m < ls.length
      · have hlt' : (m : Int) < (ls.length : Nat) := by omega
        obtain ⟨g1, o1, q1, u1, he, hcu, hru⟩ := HLs.out.cell hlt
        injection he with he1 he2 he3
        subst he1 he3
        obtain ⟨ka, kc, rfl, hk1, hk2⟩ := hru.numS
        have hcell := hcu w4 HL.out.aft
        have HRu := Lib.hid (hru.grow HL.out.aft)
        have HFew := Lib.hid (fun j => c3s_few HOk.out hlt j)
        have HSucc := Lib.hid (c3s_succ hlt)
        have hk3 : (ls.getD m []).length ≤ 9223372036854775807 := by omega
        clear he2 hcu hru hk1 hk2
        generalize ls.getD m [] = l at *
        go_wp2_with fail
        clear hcell
        go_loop [8, 59] (fun v8 v59 => ∃ j : Nat, j ≤ l.length ∧ v59 = .int .i64 (j : Int) ∧ v8 = .int .i64 ((c3s ls m + c3 (l.take j) : Nat) : Int)) (fun _ v59 => l.length - (intOf v59).toNat)
        case atStart => exact ⟨0, by omega, rfl, rfl⟩
        case round =>
          obtain ⟨j, hj, rfl, rfl⟩ := hrel
          by_cases hjl : j < l.length
          · have hjl' : (j : Int) < (l.length : Nat) := by omega
            obtain ⟨g2, o2, c2, he, -, -, -, -⟩ := Rd.at HRu.out (by rw [zv_length]; omega)
            rw [zv_length] at he
            injection he with he1 he2 he3
            subst he1 he3
            have hcy := Rd.num_at HRu.out hjl
            have ht := HFew.out j
            have HT := Lib.hid (show c3s ls m + c3 (l.take (j + 1)) = c3s ls m + c3 (l.take j) + (if l.getD j 0 = 3 then 1 else 0) by rw [c3_take hjl]; omega)
            generalize c3s ls m + c3 (l.take j) = t at *
            generalize l.getD j 0 = y at *
            clear he2
            by_cases hy : y = 3
            · subst hy
              go_wp2_with fail
              go_round
              case rel => exact ⟨j + 1, by omega, by go_num, by rw [HT.out]; go_num⟩
              case measure => simp [intOf]; omega
            · have hyb : (y == 3) = false := by simp [hy]
              have HT2 := Lib.hid (HT.out.trans (by rw [if_neg hy, Nat.add_zero]))
              go_wp2_with fail
              go_round
              case rel => exact ⟨j + 1, by omega, by go_num, by rw [HT2.out]⟩
              case measure => simp [intOf]; omega
          · obtain rfl : j = l.length := by omega
            have hjl' : ¬ ((l.length : Nat) : Int) < (l.length : Nat) := by omega
            go_wp2_with fail
            go_round
            case rel => exact ⟨m + 1, by omega, by go_num, by rw [HSucc.out, List.take_length]⟩
            case measure => simp [intOf]; omega
      · obtain rfl : m = ls.length := by omega
        have hlt' : ¬ ((ls.length : Nat) : Int) < (ls.length : Nat) := by omega
        have HCr := Lib.hid (show ((ps4.map Prod.fst).filter (fun x => !x.rd)).map cor = (ps3.map Prod.fst).map cor by rw [HF3.out, HF4.out]; exact kinds_cor HOk.out)
        have hn4 : ps4.length ≤ 90000 := by
          have := c3s_le HOk.out
          rw [← HF4.out, List.length_map] at this
          exact this
        rw [← leftK_zero HOk.out, ← HF4.out]
        have HB4 := Lib.hid (show (ps4.map Prod.fst).length = ps4.length from List.length_map _)
        have HB3 := Lib.hid (show (ps3.map Prod.fst).length = ps3.length from List.length_map _)
        have HG4 := Lib.hid (fun i => fst_getD ps4 i)
        have HG3 := Lib.hid (fun i => fst_getD ps3 i)
        generalize ps4.map Prod.fst = B at *
        generalize ps3.map Prod.fst = A at *
        go_wp2_with fail
        go_loopw [8, 13, 71] (fun v8 v13 v71 wr => ∃ i : Nat, i ≤ ps4.length ∧ v71 = .int .i64 (i : Int) ∧ v8 = .int .i64 (leftK B i : Nat) ∧ v13 = .int .i64 (nonK B i : Nat) ∧ Aft w4 wr ∧ Led w wr [(w.heap.size, .cells (shpL (.slice ao ids.length cap) (.slice bo ls.length dap)).toArray 26)]) (fun _ _ v71 _ => ps4.length - (intOf v71).toNat)
        case atStart => exact ⟨0, by omega, rfl, rfl, rfl, Aft.refl _, HL.out⟩
        case round =>
          obtain ⟨i, hi, rfl, rfl, rfl, hA, hL⟩ := hrel
          have HL := Lib.hid hL
          have HA := Lib.hid hA
          clear hA hL
          by_cases hlt : i < ps4.length
          · have hlt' : (i : Int) < (ps4.length : Nat) := by omega
            obtain ⟨ka, kc, hkv⟩ := HO4.out.kidv hlt
            obtain ⟨g4, c4, he, -, hrg⟩ := HO4.out.rngA hlt
            injection he with he1 he2 he3
            subst he1 he3
            have hrx := hrg wr HA.out
            have hxB := HG4.out i
            have hiB : i < B.length := by rw [HB4.out]; exact hlt
            rw [hkv] at hrx
            generalize (ps4.getD i ndP).1 = x at *
            have HRx := Lib.hid hrx
            have HxB := Lib.hid hxB
            have HiB := Lib.hid hiB
            clear hrx hrg hkv he2 hxB hiB
            cases hr : x.rd with
            | true =>
              have Hr := Lib.hid hr
              have HSt := Lib.hid (leftK_red HiB.out (by rw [HxB.out]; exact hr))
              have HNs := Lib.hid (show nonK B (i + 1) = nonK B i by rw [nonK_step B HiB.out, HxB.out, hr]; rfl)
              have hle := leftK_le B i
              rw [HB4.out, HSt.out] at hle
              rw [HSt.out]
              clear hr
              generalize hlf : leftK B (i + 1) = lf at *
              have HLf := Lib.hid hlf
              clear hlf
              go_wp2_with (first | (refine wpList_dstT 74 rfl ?_; refine wpList_load_mid2 (by kernel_rfl) 41 (.tmp 73) rfl _ _ rfl (ndR x (.slice ka x.ks.length kc)) HRx.out _ Try.underlying41 rfl (nd_info3 _ _) ?_) | (refine wpList_allocO rfl 41 rfl (.cells (ndR nd0 (.slice none 0 0)).toArray 41) alloc_nd ?_; intro w' aa gg zz; have HA0 := HA; replace HA := Lib.hid (Aft.trans HA.out aa); replace HL := Lib.hid (HL.out.alloc aa gg.out); clear aa gg zz; try simp only [List.nil_append, List.cons_append, List.set_cons_zero, List.set_cons_succ] at HL) | (refine wpList_store_rowZ rfl 41 (.tmp 15) (.tmp 74) rfl _ (ndR x (.slice ka x.ks.length kc)).toArray rfl rfl _ _ (HL.out.get 1 rfl) (nd_info _ _) rfl (all_one ndR_one) ?_; intro w' b1 b2 b3; replace HA := Lib.hid (b3 _ _ (Below.size HA0.out) HA.out); replace HL := Lib.hid (HL.out.store 1 rfl b1 b2 b3); clear b1 b2 b3; try simp only [List.nil_append, List.cons_append, List.set_cons_zero, List.set_cons_succ] at HL; have cr := cell_part (n := 2) (HL.out.get 1 rfl) rfl; rw [Hr.out] at cr))
              go_roundw
              case rel => exact ⟨i + 1, by omega, by go_num, by rw [HLf.out], by rw [HNs.out], HA.out, HL.out.cut 1⟩
              case measure => simp [intOf]; omega
            | false =>
              have Hr := Lib.hid hr
              have HSt := Lib.hid (leftK_non HiB.out (by rw [HxB.out]; exact hr))
              have HNs := Lib.hid (show nonK B (i + 1) = nonK B i + 1 by rw [nonK_step B HiB.out, HxB.out, hr]; rfl)
              obtain ⟨hk0, hco⟩ := nonK_at HCr.out HiB.out (by rw [HxB.out]; exact hr)
              rw [HxB.out, HG3.out] at hco
              have hle := leftK_le B i
              rw [HB4.out] at hle
              have hk1 : nonK B i < ps3.length := by rw [← HB3.out]; exact hk0
              obtain ⟨g3, c3', he, hg3, hc3⟩ := HO3.out.atA hk1
              injection he with he1 he2 he3
              subst he1 he3
              have E0 := Lib.hid (congrArg Cor.lv hco)
              have E1 := Lib.hid (congrArg Cor.ix hco)
              have E3 := Lib.hid (congrArg Cor.fr hco)
              have E4 := Lib.hid (congrArg Cor.tt hco)
              have HC3 := Lib.hid hc3
              have HNk := Lib.hid (show nonK B i ≤ 90000 by have h2 := nonK_le B i; omega)
              clear hr hk0 hco hc3 he2 hg3
              generalize nonK B i = k at *
              have hk2 : (k : Int) < (ps3.length : Nat) := Int.ofNat_lt.2 hk1
              have hkk := HNk.out
              generalize leftK B i = lf at *
              go_upto_region 25 with (first | (refine wpList_dstT 74 rfl ?_; refine wpList_load_mid2 (by kernel_rfl) 41 (.tmp 73) rfl _ _ rfl (ndR x (.slice ka x.ks.length kc)) HRx.out _ Try.underlying41 rfl (nd_info3 _ _) ?_) | (refine wpList_allocO rfl 41 rfl (.cells (ndR nd0 (.slice none 0 0)).toArray 41) alloc_nd ?_; intro w' aa gg zz; have HA0 := HA; replace HA := Lib.hid (Aft.trans HA.out aa); replace HL := Lib.hid (HL.out.alloc aa gg.out); clear aa gg zz; try simp only [List.nil_append, List.cons_append, List.set_cons_zero, List.set_cons_succ] at HL) | (refine wpList_store_rowZ rfl 41 (.tmp 15) (.tmp 74) rfl _ (ndR x (.slice ka x.ks.length kc)).toArray rfl rfl _ _ (HL.out.get 1 rfl) (nd_info _ _) rfl (all_one ndR_one) ?_; intro w' b1 b2 b3; replace HA := Lib.hid (b3 _ _ (Below.size HA0.out) HA.out); replace HL := Lib.hid (HL.out.store 1 rfl b1 b2 b3); clear b1 b2 b3; try simp only [List.nil_append, List.cons_append, List.set_cons_zero, List.set_cons_succ] at HL; have cr := cell_part (n := 2) (HL.out.get 1 rfl) rfl; rw [Hr.out] at cr))
              have hle3 : decide ((ps3.length : Int) ≤ (k : Int)) = false := decide_eq_false (by omega)
              have hle4 : decide (ps3.length ≤ k) = false := decide_eq_false (by omega)
              have f0 := fun u : Later w'.heap.size w' => show u.w.cell? ⟨g3, k * 7, none⟩ = some (Value.int .i64 x.lv) from (HC3.out u.w (Aft.trans HA.out u.h) 0 _ rfl).trans (congrArg (fun z => some (Value.int .i64 z)) E0.out)
              have f1 := fun u : Later w'.heap.size w' => show u.w.cell? ⟨g3, k * 7 + 1, none⟩ = some (Value.int .i64 x.ix) from (HC3.out u.w (Aft.trans HA.out u.h) 1 _ rfl).trans (congrArg (fun z => some (Value.int .i64 z)) E1.out)
              have f3 := fun u : Later w'.heap.size w' => show u.w.cell? ⟨g3, k * 7 + 3, none⟩ = some (Value.int .i64 x.fr) from (HC3.out u.w (Aft.trans HA.out u.h) 3 _ rfl).trans (congrArg (fun z => some (Value.int .i64 z)) E3.out)
              have f4 := fun u : Later w'.heap.size w' => show u.w.cell? ⟨g3, k * 7 + 4, none⟩ = some (Value.int .i64 x.tt) from (HC3.out u.w (Aft.trans HA.out u.h) 4 _ rfl).trans (congrArg (fun z => some (Value.int .i64 z)) E4.out)
              have x0 := fun u : Later w'.heap.size w' => cell_part (n := 0) (Aft.get u.h (HL.out.get 1 rfl)) rfl
              have x1 := fun u : Later w'.heap.size w' => cell_part (n := 1) (Aft.get u.h (HL.out.get 1 rfl)) rfl
              have x3 := fun u : Later w'.heap.size w' => cell_part (n := 3) (Aft.get u.h (HL.out.get 1 rfl)) rfl
              have x4 := fun u : Later w'.heap.size w' => cell_part (n := 4) (Aft.get u.h (HL.out.get 1 rfl)) rfl
              refine wp_region_lex (fun wz => ∃ u : Later w'.heap.size w', wz = u.w) (fun i => ([] : List Nat).contains i) 44 (by kernel_rfl) (by kernel_rfl) ⟨⟨w'.drew, (Below.refl _ _).drew⟩, rfl⟩ ?_
              change wpLx _ _ _ _ _ _ _ _ _ w'.drew
              have HDr := Lib.hid (show Aft w' w'.drew from (Below.refl _ _).drew)
              generalize w'.drew = wd at *
              try simp only [Act.put, List.setIfInBounds_toArray, List.set_cons_succ, List.set_cons_zero]
              repeat (first | (refine lx_skipT (by go_big_quiet_skip; exact wpQuiet_nil trivial) (by kernel_rfl) ?_; simp only [Act.put, List.setIfInBounds_toArray, List.set_cons_succ, List.set_cons_zero]) | (refine lx_quietT rfl (by go_big_quiet_want; exact quiet_false (by assumption)) (by kernel_rfl) rfl ?_; intro Kx hKx; go_big_quiet_op; go_big_quiet_on))
              refine lx_done ?_
              clear f0 f1 f3 f4 x0 x1 x3 x4 hle3 hle4
              replace HL := Lib.hid (HL.out.call HDr.out)
              replace HA := Lib.hid (Aft.trans HA.out HDr.out)
              clear HDr
              go_wp2_with fail
              go_roundw
              case rel => exact ⟨i + 1, by omega, by go_num, by rw [HSt.out], by rw [HNs.out]; go_num, HA.out, HL.out.cut 1⟩
              case measure => simp [intOf]; omega
          · obtain rfl : i = ps4.length := by omega
            have hlt' : ¬ ((ps4.length : Nat) : Int) < (ps4.length : Nat) := by omega
            rw [show leftK B ps4.length = 0 by rw [← HB4.out]; exact leftK_end B, show nonK B ps4.length = ps3.length by rw [← HB4.out, nonK_all HCr.out, HB3.out]]
            go_wp2_with fail
            go_ret
            exact ⟨rfl, HL.out.aft⟩
end Go.Proofs.Ytpnckphfjcnooaa
