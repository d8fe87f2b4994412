/- coterieref11: Nodes, Path. -/
import Derived.Test.YtejdkmfbncedkaaR11c
import Derived.Test.YtejdkmfbncedkaaNT
namespace Go.Proofs.Ytejdkmfbncedkaa
open Go Go.RowKit
set_option linter.unusedSimpArgs false
theorem OwnI.storedN {w w' : World} {base g t : Nat} {v : Value} {xs : List Int} {cs : Array Value} {fr : Nat × Nat} (h : OwnI w base v xs) (hg : w.heap[g]? = some (.cells cs t fr)) (ht : t ≠ 3) (hb : ∀ k, k ≠ g → w'.heap[k]? = w.heap[k]?) : OwnI w' base v xs :=
  h.keep fun k hk => hb k fun e => by
    rcases h.2 with ⟨rfl, -⟩ | ⟨g', cap, cur, rfl, -, hg', -⟩
    · cases hk
    · cases hk
      subst e
      rw [show Addr.block ⟨g', 0, none⟩ = g' from rfl] at hg
      rw [hg'] at hg
      injection Option.some.inj hg with e1 e2
      exact ht e2.symm
theorem rbelow_any (kind : Int) (hk : kind = 1 ∨ kind = 2) (vi vl : Value) (ids : List Int) (ls : List (List Int)) (hok : OkT ids ls) (w0 : World) (hi : Rd w0 vi (zv ids)) (hl : RdLs w0 vl ls) (base : Nat) (hB : w0.heap.size ≤ base) :
    ∀ (L at' : Nat) (va : Value) (ps : List (Nd × Value)) (w : World), L ≤ ls.length → at' < cntN ids.length ls L → Aft w0 w → base ≤ w.heap.size → OwnN w base va ps → ps.length + 2 * 3 ^ L ≤ 100000 →
      Calls Try.prog 73 #[.int .i64 kind, .agg (shpL vi vl).toArray, va, .int .i64 (L : Int), .int .i64 (at' : Int)] w (RbSays kind ls L at' base va ps w)
  | 0, at', va, ps, w, _, ha, hw, hb, ho, hp => rbelow_zero kind vi vl ids ls w0 hi hl base at' va ps w (by have h1 : at' < ids.length := ha; have := hok.1.1; omega) hb ho (by omega)
  | L + 1, at', va, ps, w, hL, ha, hw, hb, ho, hp => rbelow_succ kind hk vi vl ids ls hok w0 hi hl base hB L (fun at2 va2 ps2 w2 h1 h2 h3 h4 h5 => rbelow_any kind hk vi vl ids ls hok w0 hi hl base hB L at2 va2 ps2 w2 (by omega) h1 h2 h3 h4 h5) at' va ps w hL ha hw hb ho hp
set_option maxRecDepth 100000 in
set_option maxHeartbeats 1000000 in
theorem rNodes_any (kind : Int) (vi vl : Value) (ids : List Int) (ls : List (List Int)) (w : World) (hi : Rd w vi (zv ids)) (hl : RdLs w vl ls) (hs : Small ids ls) :
    Calls Try.prog 29 #[.int .i64 kind, .agg (shpL vi vl).toArray] w (RNdSays kind ids ls w) := by
  have HMy := Lib.hid (fun (wx : World) (ha : Aft w wx) => rmay_any kind vi vl ids ls wx (hi.grow ha) (hl.aft ha) hs)
  have HBl := Lib.hid (fun (hk : kind = 1 ∨ kind = 2) (hok : OkT ids ls) (wx : World) (ha : Aft w wx) => rbelow_any kind hk vi vl ids ls hok w hi hl w.heap.size (Nat.le_refl _))
  obtain ⟨ao, cap, rfl, -, -⟩ := hi.numS
  obtain ⟨bo, dap, rfl, -⟩ := hl.shape
  have HL := Lib.hid (Led.start w)
  clear hi hl hs
  go_enter Try.func29, Try.ntmps29
  go_wp2_with (first | (refine wpList_boxO rfl 26 (.tmp 1) rfl (.agg (shpL (.slice ao ids.length cap) (.slice bo ls.length dap)).toArray) rfl (.cells (shpL (.slice ao ids.length cap) (.slice bo ls.length dap)).toArray 26) (box_shp _) ?_; intro w' aa gg zz; replace HL := Lib.hid (HL.out.alloc aa gg.out); clear aa gg zz; try simp only [List.nil_append, List.cons_append, List.set_cons_zero, List.set_cons_succ] at HL) | (refine wpList_load_rowG (by kernel_rfl) 26 (.tmp 3) rfl _ rfl _ _ _ _ (HL.out.get 0 rfl) Try.underlying26 rfl (shp_info _ _) ?_))
  refine (HMy.out _ HL.out.aft).mono ?_
  rintro e w2 ⟨rfl, h2⟩
  replace HL := Lib.hid (HL.out.call h2)
  clear h2 HMy
  by_cases h0 : mayE kind ids ls = 0
  rotate_left
  · have h1 : mayE kind ids ls = 1 := (mayE_or kind ids ls).resolve_left h0
    have HZ := Lib.hid h1
    rw [decide_eq_false h0]
    clear h0 h1 HBl
    go_wp2_with fail
    go_ret2
    refine ⟨_, [], by rw [HZ.out]; rfl, OwnN.nil _ _, ?_, HL.out.aft⟩
    rw [if_neg (by rw [HZ.out]; decide)]
    rfl
  · obtain ⟨hk, hok⟩ := mayE_zero.1 h0
    have HZ := Lib.hid h0
    rw [decide_eq_true h0]
    have HBl2 := Lib.hid (fun (wx : World) (ha : Aft w wx) => HBl.out hk hok wx ha)
    have hci := shp_i (HL.out.get 0 rfl)
    have hcl := shp_l (HL.out.get 0 rfl)
    have HOk := Lib.hid hok
    clear h0 HBl
    by_cases hz : ids.length = 0
    · have HE := Lib.hid (show nodesL kind ids ls = [] from if_pos hz)
      have hz2 : ((ids.length : Nat) : Int) = 0 := by omega
      have hz3 : (((ids.length : Nat) : Int) == 0) = true := by rw [hz2]; rfl
      clear hk hok hz hz2
      go_wp2_with fail
      go_ret2
      refine ⟨_, [], by rw [HZ.out]; rfl, OwnN.nil _ _, ?_, HL.out.aft⟩
      rw [if_pos HZ.out, HE.out]
      rfl
    · have hz3 : (((ids.length : Nat) : Int) == 0) = false := by
        have : ¬ ((ids.length : Nat) : Int) = 0 := by omega
        simpa using this
      have HE := Lib.hid (show nodesL kind ids ls = below kind ls ls.length 0 [] from if_neg hz)
      have HC := Lib.hid (fun (wx : World) (ha : Aft w wx) => HBl2.out wx ha ls.length 0 (.slice none 0 0) [] wx (Nat.le_refl _) (by rw [cnt_top hok hz]; exact Nat.one_pos) ha (Below.size ha) (OwnN.nil _ _) (by
        have h9 : 3 ^ ls.length ≤ 3 ^ 9 := Nat.pow_le_pow_right (by decide) (lv_nine2 hok)
        simp only [List.length_nil]
        omega))
      clear hk hok hz HBl2
      go_wp2_with (first | (refine wpList_load_rowG (by kernel_rfl) 26 (.tmp 3) rfl _ rfl _ _ _ _ (HL.out.get 0 rfl) Try.underlying26 rfl (shp_info _ _) ?_))
      refine (HC.out _ HL.out.aft).mono ?_
      rintro e w3 ⟨va3, ps3, rfl, ho3, hf3, hfr3, -, -⟩
      have HO := Lib.hid ho3
      have HF := Lib.hid hf3
      have HA := Lib.hid (aft_frN HL.out.aft (OwnN.nil w2 w.heap.size) (Nat.le_refl _) hfr3)
      clear ho3 hf3 hfr3 hci hcl HC
      go_wp2_with fail
      go_ret2
      refine ⟨_, ps3, by rw [HZ.out]; rfl, HO.out, ?_, HA.out⟩
      rw [if_pos HZ.out, HE.out, HF.out]
      rfl
set_option maxRecDepth 100000 in
set_option maxHeartbeats 2000000 in
theorem rPathD_any (kind : Int) (vi vl : Value) (ids : List Int) (ls : List (List Int)) (id : Int) (w : World) (hi : Rd w vi (zv ids)) (hl : RdLs w vl ls) (hs : Small ids ls) :
    Calls Try.prog 31 #[.int .i64 kind, .agg (shpL vi vl).toArray, .int .i64 id] w (RPathSays kind ids ls id w) := by
  have HMy := Lib.hid (fun (wx : World) (ha : Aft w wx) => rmay_any kind vi vl ids ls wx (hi.grow ha) (hl.aft ha) hs)
  have HFd := Lib.hid (fun (wx : World) (ha : Aft w wx) => rfind_any vi vl ids id wx (hi.grow ha) hs.fi)
  have HNd := Lib.hid (fun (wx : World) (ha : Aft w wx) => rNodes_any kind vi vl ids ls wx (hi.grow ha) (hl.aft ha) hs)
  obtain ⟨ao, cap, rfl, -, -⟩ := hi.numS
  obtain ⟨bo, dap, rfl, -⟩ := hl.shape
  have HL := Lib.hid (Led.start w)
  clear hi hl hs
  go_enter Try.func31, Try.ntmps31
  go_wp2_with (first | (refine wpList_boxO rfl 26 (.tmp 1) rfl (.agg (shpL (.slice ao ids.length cap) (.slice bo ls.length dap)).toArray) rfl (.cells (shpL (.slice ao ids.length cap) (.slice bo ls.length dap)).toArray 26) (box_shp _) ?_; intro w' aa gg zz; replace HL := Lib.hid (HL.out.alloc aa gg.out); clear aa gg zz; try simp only [List.nil_append, List.cons_append, List.set_cons_zero, List.set_cons_succ] at HL) | (refine wpList_load_rowG (by kernel_rfl) 26 (.tmp 4) rfl _ rfl _ _ _ _ (HL.out.get 0 rfl) Try.underlying26 rfl (shp_info _ _) ?_))
  refine (HMy.out _ HL.out.aft).mono ?_
  rintro e w2 ⟨rfl, h2⟩
  replace HL := Lib.hid (HL.out.call h2)
  clear h2 HMy
  by_cases h0 : mayE kind ids ls = 0
  rotate_left
  · have HE := Lib.hid (show rpathE kind ids ls id = 1 from if_neg h0)
    have HW := Lib.hid (show rpathW kind ids ls id = [] from if_neg (by rw [HE.out]; decide))
    rw [decide_eq_false h0]
    clear h0
    go_wp2_with fail
    go_ret2
    exact ⟨_, by rw [HE.out]; rfl, by rw [HW.out]; exact OwnI.nil _ _, HL.out.aft⟩
  have hok := (mayE_zero.1 h0).2
  have HOk := Lib.hid hok
  have HZ := Lib.hid h0
  rw [decide_eq_true h0]
  clear h0
  go_wp2_with (first | (refine wpList_load_rowG (by kernel_rfl) 26 (.tmp 4) rfl _ rfl _ _ _ _ (HL.out.get 0 rfl) Try.underlying26 rfl (shp_info _ _) ?_))
  refine (HFd.out _ HL.out.aft).mono ?_
  rintro e w3 ⟨rfl, h3⟩
  replace HL := Lib.hid (HL.out.call h3)
  clear h3 HFd
  by_cases hin : id ∈ ids
  rotate_left
  · have HE := Lib.hid (show rpathE kind ids ls id = 6 by unfold rpathE; rw [if_pos HZ.out, if_neg hin])
    have HW := Lib.hid (show rpathW kind ids ls id = [] from if_neg (by rw [HE.out]; decide))
    rw [decide_eq_false hin]
    clear hin hok
    go_wp2_with fail
    go_ret2
    exact ⟨_, by rw [HE.out]; rfl, by rw [HW.out]; exact OwnI.nil _ _, HL.out.aft⟩
  have HE := Lib.hid (show rpathE kind ids ls id = 0 by unfold rpathE; rw [if_pos HZ.out, if_pos hin])
  rw [decide_eq_true hin]
  have ha := cnt_lt hok.1.2.2 hin
  have HW := Lib.hid (show rpathW kind ids ls id = pthT (nodesL kind ids ls) ((cnt ids id : Nat) : Int) (nodesL kind ids ls).length by
    rw [path_eq hok ha]
    exact if_pos HE.out)
  have ha9 : ((cnt ids id : Nat) : Int) ≤ 1000 := by have := hok.1.1; omega
  generalize cnt ids id = a at *
  clear hin hok ha
  go_wp2_with (first | (refine wpList_load_rowG (by kernel_rfl) 26 (.tmp 4) rfl _ rfl _ _ _ _ (HL.out.get 0 rfl) Try.underlying26 rfl (shp_info _ _) ?_))
  refine (HNd.out _ HL.out.aft).mono ?_
  rintro e w4 ⟨v4, ps, rfl, ho4, hf4, h4⟩
  rw [if_pos HZ.out] at hf4
  rw [HZ.out]
  obtain ⟨x4, y4, rfl⟩ := ho4.shape
  replace HL := Lib.hid (HL.out.call h4)
  have HN := Lib.hid ho4
  have HG := Lib.hid (fun k => show (nodesL kind ids ls).getD k nd0 = (ps.getD k ndP).1 by rw [← hf4]; exact fst_getD ps k)
  have hln : (nodesL kind ids ls).length = ps.length := by rw [← hf4, List.length_map]
  have HLn := Lib.hid hln
  have hps : ps.length ≤ 90000 := by
    have h := (below_length kind ls ls.length 0 []).2
    have h9 : 3 ^ ls.length ≤ 3 ^ 9 := Nat.pow_le_pow_right (by decide) (lv_nine2 HOk.out)
    have h5 : (nodesL kind ids ls).length ≤ 90000 := by
      unfold nodesL
      split
      · simp
      · simp only [List.length_nil] at h
        omega
    rw [hln] at h5
    exact h5
  replace HW := Lib.hid (HW.out.trans (by rw [hln]))
  generalize nodesL kind ids ls = N at *
  have HSz4 := Lib.hid (Below.size HL.out.aft)
  clear h4 ho4 hf4 HNd hln
  go_wp2_with fail
  go_loopw [12, 35] (fun v12 v35 wr => ∃ i : Nat, i ≤ ps.length ∧ v35 = .int .i64 (i : Int) ∧ OwnI wr w4.heap.size v12 (pthT N (a : Int) i) ∧ Aft w4 wr ∧ Led w wr [(w.heap.size, .cells (shpL (.slice ao ids.length cap) (.slice bo ls.length dap)).toArray 26)]) (fun _ v _ => ps.length - (intOf v).toNat)
  case atStart => exact ⟨0, by omega, rfl, OwnI.nil _ _, Aft.refl _, HL.out⟩
  case round =>
    clear HL
    obtain ⟨i, hi, rfl, hO, hA, hL⟩ := hrel
    have HL := Lib.hid hL
    have HA := Lib.hid hA
    have HO := Lib.hid hO
    obtain ⟨oa, oc, rfl⟩ := hO.shape
    clear hA hL hO
    by_cases hlt : i < ps.length
    · have hlt' : (i : Int) < (ps.length : Nat) := by omega
      have hown := HN.out.own (ps.getD i ndP) (by rw [List.getD_eq_getElem?_getD, List.getElem?_eq_getElem hlt]; exact List.getElem_mem hlt)
      obtain ⟨ka, kc, hkv⟩ := hown.shape
      obtain ⟨g4, c4, he, -, hrg⟩ := HN.out.rngA hlt
      injection he with he1 he2 he3
      subst he1 he3
      have hrx := hrg wr HA.out
      have HSn := Lib.hid (pthT_succ N (a : Int) i)
      have hpl := pthT_length N (a : Int) i
      have HHb := Lib.hid (show holdB N (a : Int) i = (decide ((ps.getD i ndP).1.fr ≤ (a : Int)) && decide ((a : Int) < (ps.getD i ndP).1.tt)) by unfold holdB; rw [HG.out])
      rw [hkv] at hrx
      generalize (ps.getD i ndP).1 = x at *
      have HRx := Lib.hid hrx
      have hi9 : (i : Int) ≤ 90000 := by omega
      generalize hpt : pthT N (a : Int) i = pt at *
      clear hrx hrg hkv he2 hown hpt
      by_cases hfr : x.fr ≤ (a : Int)
      · by_cases htt : (a : Int) < x.tt
        · have HS := Lib.hid (HSn.out.trans (by rw [HHb.out, decide_eq_true hfr, decide_eq_true htt]; rfl : _ = pt ++ [(i : Int)]))
          clear HSn HHb
          go_wp2_with (first | (refine wpList_dstT 39 rfl ?_; refine wpList_load_mid2 (by kernel_rfl) 38 (.tmp 38) rfl _ _ rfl (ndR x (.slice ka x.ks.length kc)) HRx.out _ Try.underlying38 rfl (nd_info3 _ _) ?_) | (refine wpList_allocO rfl 38 rfl (.cells (ndR nd0 (.slice none 0 0)).toArray 38) alloc_nd ?_; intro w' aa gg zz; have HA0 := HA; replace HA := Lib.hid (Aft.trans HA.out aa); replace HO := Lib.hid (HO.out.aft aa); replace HL := Lib.hid (HL.out.alloc aa gg.out); clear aa gg zz; try simp only [List.nil_append, List.cons_append, List.set_cons_zero, List.set_cons_succ] at HL) | (refine wpList_store_rowZ rfl 38 (.tmp 14) (.tmp 39) rfl _ (ndR x (.slice ka x.ks.length kc)).toArray rfl rfl _ _ (HL.out.get 1 rfl) (nd_info _ _) rfl (all_one ndR_one) ?_; intro w' b1 b2 b3; replace HO := Lib.hid (HO.out.storedN (HL.out.get 1 rfl) (by decide) b2.out); replace HA := Lib.hid (b3 _ _ (Below.size HA0.out) HA.out); replace HL := Lib.hid (HL.out.store 1 rfl b1 b2 b3); clear b1 b2 b3; try simp only [List.nil_append, List.cons_append, List.set_cons_zero, List.set_cons_succ] at HL; have d3 := cell_part (n := 3) (HL.out.get 1 rfl) rfl; have d4 := cell_part (n := 4) (HL.out.get 1 rfl) rfl) | (refine wpList_intSlice (by kernel_rfl) (.tmp 51) (i : Int) rfl rfl ?_; intro wB aB gB; have HOb := Lib.hid (HO.out.aft aB); have HAb := Lib.hid (Aft.trans HA.out aB); have HLb := Lib.hid (HL.out.call aB); have HGb := Lib.hid gB.out; clear aB gB d3 d4) | (at_builtin; refine wpList_snocI rfl (.tmp 50) (.tmp 52) rfl w4.heap.size _ pt rfl HOb.out w'.heap.size (i : Int) rfl HGb.out (by omega) (Below.size HAb.out) ?_; intro g6 c6 wC t1 t2 t3; have HAc := Lib.hid (aft_fr HAb.out HOb.out (Nat.le_refl _) t2.out); have HLc := Lib.hid (HLb.out.frO HOb.out HSz4.out t2.out rfl)))
          go_roundw
          case rel => exact ⟨i + 1, by omega, by go_num, by rw [HS.out]; exact t1.out, HAc.out, HLc.out.cut 1⟩
          case measure => simp [intOf]; omega
        · have HS := Lib.hid (HSn.out.trans (by rw [HHb.out, decide_eq_true hfr, decide_eq_false htt]; exact List.append_nil _ : _ = pt))
          clear HSn HHb
          go_wp2_with (first | (refine wpList_dstT 39 rfl ?_; refine wpList_load_mid2 (by kernel_rfl) 38 (.tmp 38) rfl _ _ rfl (ndR x (.slice ka x.ks.length kc)) HRx.out _ Try.underlying38 rfl (nd_info3 _ _) ?_) | (refine wpList_allocO rfl 38 rfl (.cells (ndR nd0 (.slice none 0 0)).toArray 38) alloc_nd ?_; intro w' aa gg zz; have HA0 := HA; replace HA := Lib.hid (Aft.trans HA.out aa); replace HO := Lib.hid (HO.out.aft aa); replace HL := Lib.hid (HL.out.alloc aa gg.out); clear aa gg zz; try simp only [List.nil_append, List.cons_append, List.set_cons_zero, List.set_cons_succ] at HL) | (refine wpList_store_rowZ rfl 38 (.tmp 14) (.tmp 39) rfl _ (ndR x (.slice ka x.ks.length kc)).toArray rfl rfl _ _ (HL.out.get 1 rfl) (nd_info _ _) rfl (all_one ndR_one) ?_; intro w' b1 b2 b3; replace HO := Lib.hid (HO.out.storedN (HL.out.get 1 rfl) (by decide) b2.out); replace HA := Lib.hid (b3 _ _ (Below.size HA0.out) HA.out); replace HL := Lib.hid (HL.out.store 1 rfl b1 b2 b3); clear b1 b2 b3; try simp only [List.nil_append, List.cons_append, List.set_cons_zero, List.set_cons_succ] at HL; have d3 := cell_part (n := 3) (HL.out.get 1 rfl) rfl; have d4 := cell_part (n := 4) (HL.out.get 1 rfl) rfl))
          go_roundw
          case rel => exact ⟨i + 1, by omega, by go_num, by rw [HS.out]; exact HO.out, HA.out, HL.out.cut 1⟩
          case measure => simp [intOf]; omega
      · have HS := Lib.hid (HSn.out.trans (by rw [HHb.out, decide_eq_false hfr]; exact List.append_nil _ : _ = pt))
        clear HSn HHb
        go_wp2_with (first | (refine wpList_dstT 39 rfl ?_; refine wpList_load_mid2 (by kernel_rfl) 38 (.tmp 38) rfl _ _ rfl (ndR x (.slice ka x.ks.length kc)) HRx.out _ Try.underlying38 rfl (nd_info3 _ _) ?_) | (refine wpList_allocO rfl 38 rfl (.cells (ndR nd0 (.slice none 0 0)).toArray 38) alloc_nd ?_; intro w' aa gg zz; have HA0 := HA; replace HA := Lib.hid (Aft.trans HA.out aa); replace HO := Lib.hid (HO.out.aft aa); replace HL := Lib.hid (HL.out.alloc aa gg.out); clear aa gg zz; try simp only [List.nil_append, List.cons_append, List.set_cons_zero, List.set_cons_succ] at HL) | (refine wpList_store_rowZ rfl 38 (.tmp 14) (.tmp 39) rfl _ (ndR x (.slice ka x.ks.length kc)).toArray rfl rfl _ _ (HL.out.get 1 rfl) (nd_info _ _) rfl (all_one ndR_one) ?_; intro w' b1 b2 b3; replace HO := Lib.hid (HO.out.storedN (HL.out.get 1 rfl) (by decide) b2.out); replace HA := Lib.hid (b3 _ _ (Below.size HA0.out) HA.out); replace HL := Lib.hid (HL.out.store 1 rfl b1 b2 b3); clear b1 b2 b3; try simp only [List.nil_append, List.cons_append, List.set_cons_zero, List.set_cons_succ] at HL; have d3 := cell_part (n := 3) (HL.out.get 1 rfl) rfl; have d4 := cell_part (n := 4) (HL.out.get 1 rfl) rfl))
        go_roundw
        case rel => exact ⟨i + 1, by omega, by go_num, by rw [HS.out]; exact HO.out, HA.out, HL.out.cut 1⟩
        case measure => simp [intOf]; omega
    · obtain rfl : i = ps.length := by omega
      have hlt' : ¬ ((ps.length : Nat) : Int) < (ps.length : Nat) := by omega
      go_wp2_with fail
      go_ret2
      exact ⟨_, by rw [HE.out]; rfl, by rw [HW.out]; exact HO.out.mono HSz4.out, HL.out.aft⟩
end Go.Proofs.Ytejdkmfbncedkaa
