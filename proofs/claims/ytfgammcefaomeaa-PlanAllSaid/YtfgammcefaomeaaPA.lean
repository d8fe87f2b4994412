/- PlanAll of law 12: where all are touched nothing is kept. -/
import Derived.Test.YtfgammcefaomeaaP10
namespace Go.Proofs.Ytfgammcefaomeaa
open Go Go.RowKit
set_option linter.unusedSimpArgs false
/-- Nothing is kept. -/
theorem keepL_none {A B : List Nd} {f : Int → Option Int} {ids : List Int} (hf : ∀ q ∈ ids, f q = none) (hb : ∀ i, i < B.length → ((B.getD i nd0).lv = 0 ∧ (B.getD i nd0).ks = [] ∧ ∃ j : Nat, (B.getD i nd0).ix = (j : Int) ∧ j < ids.length) ∨ (0 < (B.getD i nd0).lv ∧ (B.getD i nd0).ks ≠ []))
    (hk : ∀ i, i < B.length → ∀ k ∈ (B.getD i nd0).ks, ∃ j : Nat, k = (j : Int) ∧ j < i) : ∀ i, i ≤ B.length → ∀ j, j < i → (keepL A f ids B i).getD j 0 = -1
  | 0, _, j, hj => absurd hj (Nat.not_lt_zero _)
  | i + 1, hi, j, hj => by
    have ih := keepL_none (A := A) hf hb hk i (by omega)
    rw [keepL]
    by_cases h : j < i
    · rw [List.getD_eq_getElem?_getD, List.getElem?_append_left (by rw [keepL_length]; exact h), ← List.getD_eq_getElem?_getD]
      exact ih j h
    · obtain rfl : j = i := by omega
      have hm := getD_midP (m := []) (z := keptN A f ids (keepL A f ids B j) (B.getD j nd0)) (keepL_length A f ids B j)
      rw [List.append_nil] at hm
      rw [hm]
      rcases hb j (by omega) with ⟨h1, -, n, h2, h3⟩ | ⟨h1, h2⟩
      · unfold keptN
        rw [if_pos h1, h2, Int.toNat_natCast, hf _ (getD_memP h3)]
        rfl
      · unfold keptN
        rw [if_neg (by omega), if_pos]
        have h0 : 0 < (B.getD j nd0).ks.length := List.length_pos_iff.2 h2
        refine List.any_eq_true.2 ⟨(kidK (keepL A f ids B j) (B.getD j nd0).ks).getD 0 0, getD_memP (by rw [kidK_length]; exact h0), ?_⟩
        obtain ⟨n, h3, h4⟩ := hk j (by omega) _ (getD_memP h0)
        rw [kidK_at h0, h3, Int.toNat_natCast, ih n h4]
        rfl
theorem stpL_some {A B : List Nd} {f : Int → Option Int} {ids : List Int} {by' : Int} (hn : ∀ i, i ≤ B.length → ∀ j, j < i → (keepL A f ids B i).getD j 0 = -1) {i : Nat} (hi : i < B.length) (hl : 0 < (B.getD i nd0).lv) :
    ∃ x : Stp, x.nd = (i : Int) ∧ stpL A f ids B by' (i + 1) = stpL A f ids B by' i ++ [x] := by
  have h : (keepL A f ids B (i + 1)).getD i 0 < 0 ∧ 0 < (B.getD i nd0).lv := ⟨by rw [hn (i + 1) (by omega) i (by omega)]; decide, hl⟩
  have h2 : stpL A f ids B by' (i + 1) = stpL A f ids B by' i ++ [⟨(i : Int), (stepN B ids (keepL A f ids B (i + 1)) by' (B.getD i nd0).ks).1, (stepN B ids (keepL A f ids B (i + 1)) by' (B.getD i nd0).ks).2⟩] := by
    rw [stpL, if_pos h]
  exact ⟨_, rfl, h2⟩
theorem stpL_same {A B : List Nd} {f : Int → Option Int} {ids : List Int} {by' : Int} {i : Nat} (hl : ¬ 0 < (B.getD i nd0).lv) : stpL A f ids B by' (i + 1) = stpL A f ids B by' i := by
  rw [stpL, if_neg (fun q => hl q.2), List.append_nil]
theorem stpL_pre (A B : List Nd) (f : Int → Option Int) (ids : List Int) (by' : Int) (i : Nat) : ∀ d, ∃ l, stpL A f ids B by' (i + d) = stpL A f ids B by' i ++ l
  | 0 => ⟨[], (List.append_nil _).symm⟩
  | d + 1 => by
    obtain ⟨l, h⟩ := stpL_pre A B f ids by' i d
    exact ⟨_, by rw [← Nat.add_assoc, stpL, h, List.append_assoc]⟩
theorem stp_bundle {A B : List Nd} {f : Int → Option Int} {ids : List Int} {by' : Int} {ss : List (Stp × Value)} (hss : ss.map Prod.fst = stpL A f ids B by' B.length) (hn : ∀ i, i ≤ B.length → ∀ j, j < i → (keepL A f ids B i).getD j 0 = -1) :
    ∃ sl : Nat → Nat, sl 0 = 0 ∧ sl B.length = ss.length ∧ (∀ i, sl i ≤ i) ∧ ∀ i, i < B.length → (0 < (B.getD i nd0).lv → sl (i + 1) = sl i + 1 ∧ sl i < ss.length ∧ (ss.getD (sl i) stP).1.nd = (i : Int)) ∧ (¬ 0 < (B.getD i nd0).lv → sl (i + 1) = sl i) := by
  refine ⟨fun i => (stpL A f ids B by' i).length, rfl, by show (stpL A f ids B by' B.length).length = _; rw [← hss, List.length_map], fun i => stpL_length A f ids B by' i, fun i hi => ⟨fun hl => ?_, fun hl => by show (stpL A f ids B by' (i + 1)).length = _; rw [stpL_same hl]⟩⟩
  obtain ⟨x, hx, h1⟩ := stpL_some (A := A) (by' := by') hn hi hl
  obtain ⟨l, h2⟩ := stpL_pre A B f ids by' (i + 1) (B.length - (i + 1))
  rw [show i + 1 + (B.length - (i + 1)) = B.length by omega, ← hss, h1] at h2
  have hlen : (stpL A f ids B by' i).length < ss.length := by
    have := congrArg List.length h2
    simp only [List.length_map, List.length_append, List.length_singleton] at this
    omega
  refine ⟨by show (stpL A f ids B by' (i + 1)).length = _; rw [h1, List.length_append]; rfl, hlen, ?_⟩
  show (ss.getD (stpL A f ids B by' i).length stP).1.nd = _
  have h3 := st_at hlen
  rw [h2, List.append_assoc, List.getElem?_append_right (Nat.le_refl _), Nat.sub_self] at h3
  have h4 := Option.some.inj h3
  rw [← h4]
  exact hx
set_option maxRecDepth 100000 in
set_option maxHeartbeats 8000000 in
theorem planAll_any (kind by' : Int) (vi0 vl0 vi vl : Value) (ids0 : List Int) (ls0 : List (List Int)) (ids : List Int) (ls : List (List Int)) (w : World) (hi0 : Rd w vi0 (zv ids0)) (hl0 : RdLs w vl0 ls0) (hi : Rd w vi (zv ids)) (hl : RdLs w vl ls) (w0 : ∀ x ∈ ids0, (Lit.int .i64 x).wf = true) (w1 : ∀ x ∈ ids, (Lit.int .i64 x).wf = true) (wb : (Lit.int .i64 by').wf = true) :
    Calls Try.prog 3 #[.int .i64 kind, .agg (shpL vi0 vl0).toArray, .agg (shpL vi vl).toArray, .int .i64 by'] w fun e w' => e = .returned (.bool true) ∧ Aft w w' := by
  have HF0 := Lib.hid (fun (wx : World) (ha : Aft w wx) => few12_any vi0 vl0 (.slice none 0 0) ids0 ls0 [] wx (hi0.grow ha) (hl0.aft ha) (OwnI.nil wx 0).rd)
  have HF1 := Lib.hid (fun (wx : World) (ha : Aft w wx) => few12_any vi vl (.slice none 0 0) ids ls [] wx (hi.grow ha) (hl.aft ha) (OwnI.nil wx 0).rd)
  have HMk := Lib.hid (fun (hs0 : Small ids0 ls0) (hs : Small ids ls) (wx : World) (ha : Aft w wx) => make_any kind by' vi0 vl0 vi vl vi ids0 ls0 ids ls ids wx (hi0.grow ha) (hl0.aft ha) hs0 (hi.grow ha) (hl.aft ha) hs (hi.grow ha) hs.fi w1 wb (make_pre w0 w1))
  have HNd := Lib.hid (fun (hs : Small ids ls) (wx : World) (ha : Aft w wx) => rnodes_any kind vi vl ids ls wx (hi.grow ha) (hl.aft ha) hs)
  obtain ⟨ao, ac, rfl, -, -⟩ := hi0.numS
  obtain ⟨bo, bc, rfl, -⟩ := hl0.shape
  obtain ⟨co, cc, rfl, -, -⟩ := hi.numS
  obtain ⟨dd, dc, rfl, -⟩ := hl.shape
  have HL := Lib.hid (Led.start w)
  clear hi0 hl0 hi hl w0 w1 wb
  go_enter Try.func3, Try.ntmps3
  go_wp2_with (first | (refine wpList_dstT 5 rfl ?_; refine wpList_boxO rfl 25 (.tmp 1) rfl (.agg (shpL (.slice ao ids0.length ac) (.slice bo ls0.length bc)).toArray) rfl (.cells (shpL (.slice ao ids0.length ac) (.slice bo ls0.length bc)).toArray 25) (box_shp _) ?_; intro w1 aa gg zz; replace HL := Lib.hid (HL.out.alloc aa gg.out); clear aa gg zz; try simp only [List.nil_append, List.cons_append, List.set_cons_zero, List.set_cons_succ] at HL) | (refine wpList_dstT 6 rfl ?_; refine wpList_boxO rfl 25 (.tmp 2) rfl (.agg (shpL (.slice co ids.length cc) (.slice dd ls.length dc)).toArray) rfl (.cells (shpL (.slice co ids.length cc) (.slice dd ls.length dc)).toArray 25) (box_shp _) ?_; intro w2 aa gg zz; replace HL := Lib.hid (HL.out.alloc aa gg.out); clear aa gg zz; try simp only [List.nil_append, List.cons_append, List.set_cons_zero, List.set_cons_succ] at HL))
  refine (live12_any _).mono ?_
  rintro e w3 ⟨rfl, h3⟩
  replace HL := Lib.hid (HL.out.call h3)
  clear h3
  go_wp2_with (first | (refine wpList_load_rowG (by kernel_rfl) 25 (.tmp 5) rfl _ rfl _ _ _ _ (HL.out.get 0 rfl) Try.underlying25 rfl (shp_info _ _) ?_))
  refine (HF0.out _ HL.out.aft).mono ?_
  rintro e w4 ⟨rfl, h4⟩
  replace HL := Lib.hid (HL.out.call h4)
  clear h4 HF0
  cases hf0 : (fewT ids0 ls0 && decide (ids0.length ≤ 120) && decide (([] : List Int).length ≤ 100)) with
  | false =>
    clear hf0
    go_wp2_with fail
    go_ret
    exact ⟨rfl, HL.out.aft⟩
  | true =>
    have HS0 := Lib.hid (show Small ids0 ls0 by simp only [Bool.and_eq_true] at hf0; exact fewT_small hf0.1.1)
    clear hf0
    go_wp2_with (first | (refine wpList_load_rowG (by kernel_rfl) 25 (.tmp 6) rfl _ rfl _ _ _ _ (HL.out.get 1 rfl) Try.underlying25 rfl (shp_info _ _) ?_))
    refine (HF1.out _ HL.out.aft).mono ?_
    rintro e w5 ⟨rfl, h5⟩
    replace HL := Lib.hid (HL.out.call h5)
    clear h5 HF1
    cases hf1 : (fewT ids ls && decide (ids.length ≤ 120) && decide (([] : List Int).length ≤ 100)) with
    | false =>
      clear hf1
      go_wp2_with fail
      go_ret
      exact ⟨rfl, HL.out.aft⟩
    | true =>
      have HS1 := Lib.hid (show Small ids ls by simp only [Bool.and_eq_true] at hf1; exact fewT_small hf1.1.1)
      clear hf1
      have hc := shp_i (HL.out.get 1 rfl)
      go_wp2_with (first | (refine wpList_load_rowG (by kernel_rfl) 25 (.tmp 5) rfl _ rfl _ _ _ _ (HL.out.get 0 rfl) Try.underlying25 rfl (shp_info _ _) ?_) | (refine wpList_load_rowG (by kernel_rfl) 25 (.tmp 6) rfl _ rfl _ _ _ _ (HL.out.get 1 rfl) Try.underlying25 rfl (shp_info _ _) ?_))
      clear hc
      refine (HMk.out HS0.out HS1.out _ HL.out.aft).mono ?_
      rintro e w6 (⟨hok, vk, vs, ss, rfl, hk, hS, hss, h6⟩ | ⟨hno, rfl, h6⟩)
      rotate_left
      · replace HL := Lib.hid (HL.out.call h6)
        clear h6 hno HMk
        go_wp2_with (first | (refine wpList_allocO rfl 30 rfl (.cells (plR (.slice none 0 0) (.slice none 0 0)).toArray 30) alloc_pl ?_; intro w7 aa gg zz; replace HL := Lib.hid (HL.out.alloc aa gg.out); clear aa gg zz; try simp only [List.nil_append, List.cons_append, List.set_cons_zero, List.set_cons_succ] at HL) | (refine wpList_store_rowZ rfl 30 (.tmp 10) (.tmp 35) rfl _ (plR (.slice none 0 0) (.slice none 0 0)).toArray rfl rfl _ _ (HL.out.get 2 rfl) (pl_info _ _) rfl (all_one plR_one) ?_; intro w8 b1 b2 b3; replace HL := Lib.hid (HL.out.store 2 rfl b1 b2 b3); clear b1 b2 b3; try simp only [List.nil_append, List.cons_append, List.set_cons_zero, List.set_cons_succ] at HL) | (refine wpList_load_rowG (by kernel_rfl) 25 (.tmp 6) rfl _ rfl _ _ _ _ (HL.out.get 1 rfl) Try.underlying25 rfl (shp_info _ _) ?_))
        refine (HNd.out HS1.out _ HL.out.aft).mono ?_
        rintro e w9 ⟨vb, ps, rfl, hoB, -, h9⟩
        obtain ⟨ba, bc2, rfl⟩ := hoB.shape
        replace HL := Lib.hid (HL.out.call h9)
        clear hoB h9 HNd
        go_wp2_with fail
        go_ret
        exact ⟨rfl, HL.out.aft⟩
      have hm1 := hok.2.1
      have HN1 := Lib.hid (nodes_few (kind := kind) (mayE_zero.1 hm1).2)
      have hkn := keepL_none (A := nodesL kind ids0 ls0) (B := nodesL kind ids ls) (f := lvT (nodesL kind ids0 ls0) ids0 ids by') (ids := ids) (fun q hq => if_pos (.inr hq)) (fun i hi => nodes_lv (kind := kind) (mayE_zero.1 hm1).2 hi) (fun i hi => nodes_kd (kind := kind) (mayE_zero.1 hm1).2 hi)
      have HKn := Lib.hid (hkn _ (Nat.le_refl _))
      have HKl := Lib.hid (keepL_length (nodesL kind ids0 ls0) (lvT (nodesL kind ids0 ls0) ids0 ids by') ids (nodesL kind ids ls) (nodesL kind ids ls).length)
      obtain ⟨sl, q0, q1, q2, q3⟩ := stp_bundle hss hkn
      have HSl := Lib.hid q3
      have HSb := Lib.hid q2
      have HS0' := Lib.hid q0
      have HSe := Lib.hid q1
      have HK := Lib.hid hk
      have HSt := Lib.hid hS
      obtain ⟨ka, kc, rfl⟩ := hk.shape
      obtain ⟨sa, sc, rfl⟩ := hS.shape
      have HM1 := Lib.hid hm1
      replace HL := Lib.hid (HL.out.call h6)
      clear h6 hok hk hS hss hkn q0 q1 q2 q3 HMk hm1
      generalize keepL (nodesL kind ids0 ls0) (lvT (nodesL kind ids0 ls0) ids0 ids by') ids (nodesL kind ids ls) (nodesL kind ids ls).length = kl at *
      have HA6 := Lib.hid (Aft.refl w6)
      go_wp2_with (first | (refine wpList_allocO rfl 30 rfl (.cells (plR (.slice none 0 0) (.slice none 0 0)).toArray 30) alloc_pl ?_; intro w7 aa gg zz; replace HA6 := Lib.hid (Aft.trans HA6.out aa); replace HL := Lib.hid (HL.out.alloc aa gg.out); clear aa gg zz; try simp only [List.nil_append, List.cons_append, List.set_cons_zero, List.set_cons_succ] at HL) | (refine wpList_store_rowZ rfl 30 (.tmp 10) (.tmp 35) rfl _ (plR (.slice ka kl.length kc) (.slice sa ss.length sc)).toArray rfl rfl _ _ (HL.out.get 2 rfl) (pl_info _ _) rfl (all_one plR_one) ?_; intro w8 b1 b2 b3; replace HA6 := Lib.hid (b3 _ _ (Nat.le_refl _) HA6.out); replace HL := Lib.hid (HL.out.store 2 rfl b1 b2 b3); clear b1 b2 b3; try simp only [List.nil_append, List.cons_append, List.set_cons_zero, List.set_cons_succ] at HL) | (refine wpList_load_rowG (by kernel_rfl) 25 (.tmp 6) rfl _ rfl _ _ _ _ (HL.out.get 1 rfl) Try.underlying25 rfl (shp_info _ _) ?_))
      refine (HNd.out HS1.out _ HL.out.aft).mono ?_
      rintro e w9 ⟨vb, ps, rfl, hoB, hfB, h9⟩
      rw [HM1.out]
      rw [if_pos HM1.out] at hfB
      have HB := Lib.hid hoB.rd
      obtain ⟨ba, bc2, rfl⟩ := hoB.shape
      replace HL := Lib.hid (HL.out.call h9)
      replace HA6 := Lib.hid (Aft.trans HA6.out h9)
      replace HK := Lib.hid (HK.out.aft HA6.out)
      replace HSt := Lib.hid (HSt.out.aft HA6.out)
      rw [← hfB] at HN1 HKn HKl HSl HSe
      have hpl : (ps.map Prod.fst).length = ps.length := List.length_map ..
      rw [hpl] at HN1 HKn HKl HSl HSe
      have hkp : kl.length = ps.length := HKl.out
      clear hoB h9 HNd hpl hfB
      rw [hkp]
      replace HL := Lib.hid (show Led w w9 [(w.heap.size, .cells (shpL (.slice ao ids0.length ac) (.slice bo ls0.length bc)).toArray 25), (w1.heap.size, .cells (shpL (.slice co ids.length cc) (.slice dd ls.length dc)).toArray 25), (w6.heap.size, .cells (plR (.slice ka ps.length kc) (.slice sa ss.length sc)).toArray 30)] by rw [← hkp]; exact HL.out)
      have HKp := Lib.hid hkp
      clear hkp
      have e0 := cell_part (n := 0) (HL.out.get 2 rfl) rfl
      go_wp2_with fail
      clear e0
      go_loopw [14, 64] (fun v14 v64 wr => ∃ i : Nat, i ≤ ps.length ∧ v64 = .int .i64 (i : Int) ∧ v14 = .int .i64 ((sl i : Nat) : Int) ∧ Led w wr [(w.heap.size, .cells (shpL (.slice ao ids0.length ac) (.slice bo ls0.length bc)).toArray 25), (w1.heap.size, .cells (shpL (.slice co ids.length cc) (.slice dd ls.length dc)).toArray 25), (w6.heap.size, .cells (plR (.slice ka ps.length kc) (.slice sa ss.length sc)).toArray 30)] ∧ Aft w9 wr) (fun _ v _ => ps.length - (intOf v).toNat)
      case atStart => exact ⟨0, Nat.zero_le _, rfl, by rw [HS0'.out]; rfl, HL.out, Aft.refl _⟩
      case round =>
        clear HL
        obtain ⟨i, hi, rfl, rfl, hL, hA⟩ := hrel
        have HL := Lib.hid hL
        have HA := Lib.hid hA
        clear hL hA
        by_cases hlt : i < ps.length
        · have hlt' : (i : Int) < (ps.length : Nat) := by omega
          have hi9 : i ≤ 90000 := by have := HN1.out; omega
          obtain ⟨g, o, c4, he, hrg⟩ := HB.out.rngP hlt
          injection he with he1 he2 he3
          subst he1 he3
          obtain ⟨qa, qc, hkv, -, -⟩ := (HB.out.kid _ (ndP_mem hlt)).numS
          have hrx := hrg wr HA.out
          rw [hkv] at hrx
          have HRx := Lib.hid hrx
          obtain ⟨b, o2, rfl, -, -⟩ := HK.out.rd.some_of (by rw [zv_length, HKp.out]; omega)
          have hck := (HK.out.rd.grow HA.out).num_at (i := i) (by rw [HKp.out]; exact hlt)
          rw [HKn.out i hlt] at hck
          have HSi := Lib.hid (HSl.out i hlt)
          rw [fst_getD] at HSi
          have hsb := HSb.out i
          generalize (ps.getD i ndP).1 = x at *
          clear hrg hkv he2 hrx
          have HKi := Lib.hid (show i < kl.length by rw [HKp.out]; exact hlt)
          have HKni := Lib.hid (HKn.out i hlt)
          by_cases hl0 : 0 < x.lv
          · obtain ⟨r1, r2, r3⟩ := HSi.out.1 hl0
            obtain ⟨g3, o3, c5, he, hrg3⟩ := HSt.out.rd.rng r2
            injection he with he1 he2 he3
            subst he1 he3
            have HStp := Lib.hid (fun (wx : World) (ha : Aft w9 wx) => show wx.cell? ⟨g3, o3 + sl i * 3, none⟩ = some (.int .i64 (i : Int)) by rw [← r3]; exact hrg3 wx ha 0 _ rfl)
            have HR1 := Lib.hid (show ((sl i : Nat) : Int) + 1 = ((sl (i + 1) : Nat) : Int) by omega)
            have hsb2 : ((sl i : Nat) : Int) < (ss.length : Nat) := by omega
            generalize sl i = si at *
            clear r1 r2 r3 hrg3 he2
            go_wp2_with (first | (refine wpList_dstT 68 rfl ?_; refine wpList_load_mid2 (by kernel_rfl) 38 (.tmp 67) rfl _ _ rfl (ndR x (.slice qa x.ks.length qc)) HRx.out _ Try.underlying38 rfl (nd_infoP _ _) ?_) | (refine wpList_allocO rfl 38 rfl (.cells (ndR nd0 (.slice none 0 0)).toArray 38) alloc_nd ?_; intro wA aa gg zz; have HA9 := Lib.hid HA.out; replace HA := Lib.hid (Aft.trans HA.out aa); replace HL := Lib.hid (HL.out.alloc aa gg.out); clear aa gg zz; try simp only [List.nil_append, List.cons_append, List.set_cons_zero, List.set_cons_succ] at HL) | (refine wpList_store_rowZ rfl 38 (.tmp 16) (.tmp 68) rfl _ (ndR x (.slice qa x.ks.length qc)).toArray rfl rfl _ _ (HL.out.get 3 rfl) (nd_info _ _) rfl (all_one ndR_one) ?_; intro wB b1 b2 b3; replace HA := Lib.hid (b3 _ _ (Below.size HA9.out) HA.out); replace HL := Lib.hid (HL.out.store 3 rfl b1 b2 b3); clear b1 b2 b3 HA9 hck; try simp only [List.nil_append, List.cons_append, List.set_cons_zero, List.set_cons_succ] at HL; have d0 := cell_part (n := 0) (HL.out.get 3 rfl) rfl; have e0 := cell_part (n := 0) (HL.out.get 2 rfl) rfl; have e1 := cell_part (n := 1) (HL.out.get 2 rfl) rfl; have hck := (HK.out.rd.grow HA.out).num_at (i := i) HKi.out; rw [HKni.out] at hck; try have hst := HStp.out wB HA.out))
            go_roundw
            case rel => exact ⟨i + 1, by omega, by go_num, by rw [← HR1.out], HL.out.cut 3, HA.out⟩
            case measure => simp [intOf]; omega
          · have HR1 := Lib.hid (show ((sl i : Nat) : Int) = ((sl (i + 1) : Nat) : Int) by rw [HSi.out.2 (by omega)])
            clear HSi
            go_wp2_with (first | (refine wpList_dstT 68 rfl ?_; refine wpList_load_mid2 (by kernel_rfl) 38 (.tmp 67) rfl _ _ rfl (ndR x (.slice qa x.ks.length qc)) HRx.out _ Try.underlying38 rfl (nd_infoP _ _) ?_) | (refine wpList_allocO rfl 38 rfl (.cells (ndR nd0 (.slice none 0 0)).toArray 38) alloc_nd ?_; intro wA aa gg zz; have HA9 := Lib.hid HA.out; replace HA := Lib.hid (Aft.trans HA.out aa); replace HL := Lib.hid (HL.out.alloc aa gg.out); clear aa gg zz; try simp only [List.nil_append, List.cons_append, List.set_cons_zero, List.set_cons_succ] at HL) | (refine wpList_store_rowZ rfl 38 (.tmp 16) (.tmp 68) rfl _ (ndR x (.slice qa x.ks.length qc)).toArray rfl rfl _ _ (HL.out.get 3 rfl) (nd_info _ _) rfl (all_one ndR_one) ?_; intro wB b1 b2 b3; replace HA := Lib.hid (b3 _ _ (Below.size HA9.out) HA.out); replace HL := Lib.hid (HL.out.store 3 rfl b1 b2 b3); clear b1 b2 b3 HA9 hck; try simp only [List.nil_append, List.cons_append, List.set_cons_zero, List.set_cons_succ] at HL; have d0 := cell_part (n := 0) (HL.out.get 3 rfl) rfl; have e0 := cell_part (n := 0) (HL.out.get 2 rfl) rfl; have e1 := cell_part (n := 1) (HL.out.get 2 rfl) rfl; have hck := (HK.out.rd.grow HA.out).num_at (i := i) HKi.out; rw [HKni.out] at hck; try have hst := HStp.out wB HA.out))
            go_roundw
            case rel => exact ⟨i + 1, by omega, by go_num, by rw [HR1.out], HL.out.cut 3, HA.out⟩
            case measure => simp [intOf]; omega
        · obtain rfl : i = ps.length := by omega
          have hlt' : ¬ ((ps.length : Nat) : Int) < (ps.length : Nat) := by omega
          have e1 := cell_part (n := 1) (HL.out.get 2 rfl) rfl
          rw [HSe.out]
          go_wp2_with fail
          go_ret
          exact ⟨rfl, HL.out.aft⟩
end Go.Proofs.Ytfgammcefaomeaa
