/- coterielaw13.TagWay: it answers true. -/
import Derived.Test.YtdbhlajajdlmfaaDoorV11
import Derived.Test.YtdbhlajajdlmfaaDoorV12
namespace Go.Proofs.YtdbhlajajdlmfaaDoor
open Go Go.RowKit
set_option linter.unusedSimpArgs false
theorem run_eql_keyD (X Y : List (BitVec 8)) (hx : X.length = 32) (hy : Y.length = 32) (w : World) : (Go.binOp .eql 30 (.agg (bv X).toArray) (.agg (bv Y).toArray)).run Tryd.prog w = .ok (.bool (decide (X = Y))) w := by
  have heq := run_eq_key X Y hx hy
  simp [go_sem, heq]
theorem run_neq_keyD (X Y : List (BitVec 8)) (hx : X.length = 32) (hy : Y.length = 32) (w : World) : (Go.binOp .neq 30 (.agg (bv X).toArray) (.agg (bv Y).toArray)).run Tryd.prog w = .ok (.bool (!decide (X = Y))) w := by
  have heq := run_eq_key X Y hx hy
  simp [go_sem, heq]
theorem Led.frB {w0 w w' : World} {L : List (Nat × Obj)} {S : Nat → Prop} (h : Led w0 w L) (hf : Fr S w w') (hS : ∀ g, S g → w0.heap.size ≤ g) (hL : ∀ (i g : Nat) (o : Obj), L[i]? = some (g, o) → ¬ S g) : Led w0 w' L :=
  ⟨⟨hf.os.trans h.aft.os, hf.tape.trans h.aft.tape, hf.output.trans h.aft.output, Nat.le_trans h.aft.size hf.size, fun k hk => (hf.block k (Nat.lt_of_lt_of_le hk h.aft.size) (fun e => by have := hS k e; omega)).trans (h.aft.block k hk)⟩,
    fun i g o hi => ⟨(hf.block g (heap_lt (h.get i hi)) (hL i g o hi)).trans (h.get i hi), (h.has i g o hi).2⟩, h.inc⟩
theorem OwnTr.frK {w w' : World} {base b2 : Nat} {vi vl vp : Value} {vs : List Value} {ids : List Int} {ls : List (List Int)} {ks : List Byt} (h : OwnTr w base vi vl vs ids ls) (hk : OwnK w b2 vp ks) (hf : Fr (fun b => vp.ownBlock = some b) w w') : OwnTr w' base vi vl vs ids ls := by
  have hne : ∀ {e n : Nat} {v : Value} {xs : List Value}, w.ownsRow base e 1 v n xs → e ≠ 30 → ∀ g, v.ownBlock = some g → w'.heap[g]? = w.heap[g]? := by
    intro e n v xs ho he g hg
    refine hf.block g (own_lt ho hg).2 fun q => ?_
    rcases hk.2.2 with ⟨rfl, -⟩ | ⟨b, cap, cur, rfl, -, hq, -⟩
    · cases q
    · have e2 : b = g := Option.some.inj q
      subst e2
      exact own_off ho (show w.heap[b]? = _ from hq) (fun e3 => he e3.symm) hg rfl
  exact ⟨h.ids.keep fun k hk => hne h.ids (by decide) k hk, ⟨ownsRow_below h.lv.row fun k hk => hne h.lv.row (by decide) k hk, h.lv.len, fun i u hu => (h.lv.own i u hu).keep fun k hk => hne (h.lv.own i u hu) (by decide) k hk, h.lv.dis⟩, h.dis⟩
theorem take_sn {xs : List Int} {j : Nat} (h : j < xs.length) : xs.take (j + 1) = xs.take j ++ [xs.getD j 0] := by
  rw [List.take_add_one, List.getElem?_eq_getElem h, List.getD_eq_getElem?_getD, List.getElem?_eq_getElem h]
  rfl
theorem own_some {w : World} {base : Nat} {v : Value} {ks : List Byt} (h : OwnK w base v ks) (hp : 0 < ks.length) : ∃ g cap, v = .slice (some ⟨g, 0, none⟩) ks.length cap ∧ base ≤ g := by
  rcases h.2.2 with ⟨-, hn⟩ | ⟨g, cap, cur, rfl, hb, -⟩
  · omega
  · exact ⟨g, cap, rfl, hb⟩
set_option maxRecDepth 100000 in
set_option maxHeartbeats 8000000 in
theorem tagWay_any (kind : Int) (vi vl vp : Value) (ids : List Int) (ls : List (List Int)) (ps : List Byt) (id : Int) (q : Byt) (w : World) (hk : TabK K0 1 w) (h : RdTr w vi vl vp ids ls ps) (hq : q.length = 32) :
    Calls Tryd.prog 3 #[.agg (trL kind vi vl vp).toArray, .int .i64 id, .agg (bv q).toArray] w fun e w' => e = .returned (.bool true) ∧ Aft w w' := by
  have HLi := Lib.hid (fun (wx : World) (ha : Aft w wx) => live13_any wx (TabK_fr hk (Fr.of_below (S := fun _ => False) ha) (fun h => h)))
  have HFw := Lib.hid (fun (wx : World) (ha : Aft w wx) => gfew_any kind vi vl vp ids ls ps wx (h.aft ha))
  have HLf := Lib.hid (fun (hs : Small ids ls) (hp : ps.length ≤ 400) (wx : World) (ha : Aft w wx) => tleaf_any kind vi vl vp ids ls ps id wx (h.aft ha) hs hp)
  have HCp := Lib.hid (fun (hs : Small ids ls) (hp : ps.length ≤ 400) (wx : World) (ha : Aft w wx) => gcopy_any kind vi vl vp ids ls ps wx (h.aft ha) hs (Nat.le_trans hp (by decide)))
  have HSa := Lib.hid (fun (hs : Small ids ls) (hp : ps.length ≤ 400) (wx : World) (ha : Aft w wx) => tsums_any kind vi vl vp ids ls ps wx (TabK_fr hk (Fr.of_below (S := fun _ => False) ha) (fun h => h)) (h.aft ha) hs (Nat.le_trans hp (by decide)))
  have HSb := Lib.hid (fun (hs : Small ids ls) (ui ul up : Value) (rs : List Byt) (wx : World) (hp : rs.length ≤ 400) (ha : Aft w wx) (hr : RdTr wx ui ul up ids ls rs) => tsums_any kind ui ul up ids ls rs wx (TabK_fr hk (Fr.of_below (S := fun _ => False) ha) (fun h => h)) hr hs (Nat.le_trans hp (by decide)))
  have HPt := Lib.hid (fun (hs : Small ids ls) (wx : World) (ha : Aft w wx) => rPath_any kind vi vl ids ls id wx (h.i.grow ha) (h.l.aft ha) hs)
  have HQl := Lib.hid hq
  obtain ⟨ao, ac, rfl, -, -⟩ := h.i.numS
  obtain ⟨bo, bc, rfl, -⟩ := h.l.shape
  obtain ⟨po, pc, rfl, -, -⟩ := h.p.shape
  have HL := Lib.hid (Led.start w)
  clear h hk hq
  go_enter Tryd.func3, Tryd.ntmps3
  go_wp2_with (first | (refine wpList_dstT 3 rfl ?_; refine wpList_boxO rfl 28 (.tmp 0) rfl (.agg (trL kind (.slice ao ids.length ac) (.slice bo ls.length bc) (.slice po ps.length pc)).toArray) rfl (.cells (trL kind (.slice ao ids.length ac) (.slice bo ls.length bc) (.slice po ps.length pc)).toArray 28) (box_tr _ _ _ _) ?_; intro w1 aa gg zz; replace HL := Lib.hid (HL.out.alloc aa gg.out); clear aa gg zz; (try simp only [List.nil_append, List.cons_append, List.set_cons_zero, List.set_cons_succ] at HL)) | (refine wpList_dstT 5 rfl ?_; refine wpList_boxO rfl 30 (.tmp 2) rfl (.agg (bv q).toArray) rfl (.cells (bv q).toArray 30) (box_key _) ?_; intro w2 aa gg zz; replace HL := Lib.hid (HL.out.alloc aa gg.out); clear aa gg zz; (try simp only [List.nil_append, List.cons_append, List.set_cons_zero, List.set_cons_succ] at HL)))
  refine (HLi.out _ HL.out.aft).mono ?_
  rintro e w3 ⟨rfl, h3⟩
  replace HL := Lib.hid (HL.out.call h3)
  clear h3 HLi
  go_wp2_with (first | (refine wpList_dstT 22 rfl ?_; refine wpList_load_rowG (by kernel_rfl) 28 (.tmp 3) rfl _ rfl _ _ _ _ (HL.out.get 0 rfl) Tryd.underlying28 rfl (tr_info _ _ _ _) ?_))
  refine (HFw.out _ HL.out.aft).mono ?_
  rintro e w4 ⟨rfl, h4⟩
  replace HL := Lib.hid (HL.out.call h4)
  clear h4 HFw
  cases hf : fewG ids ls ps with
  | false =>
    go_wp2_with fail
    go_ret
    exact ⟨rfl, HL.out.aft⟩
  | true =>
  obtain ⟨hf1, -, hf3⟩ := fewG_of hf
  have HSm := Lib.hid (fewT_small hf1)
  have HPl := Lib.hid hf3
  clear hf hf1 hf3
  by_cases hz : q = kzero
  · have hzb : decide (q = kzero) = true := decide_eq_true hz
    clear hz
    go_wp2_with (first | (refine wpList_dstT 26 rfl ?_; refine wpList_load_rowG (by kernel_rfl) 30 (.tmp 5) rfl _ rfl _ _ _ _ (HL.out.get 1 rfl) Tryd.underlying30 rfl (key_info HQl.out) ?_) | (refine wpList_dstT 27 rfl ?_; refine wpList_buildO (by kernel_rfl) 30 #[] rfl #[] (by kernel_rfl) _ (build_kz _) ?_) | (refine wpList_dstT 28 rfl ?_; refine wpList_binG (by kernel_rfl) .eql 30 30 (.tmp 26) (.tmp 27) rfl (.agg (bv q).toArray) (.agg (bv kzero).toArray) (.bool true) rfl rfl (fun w1 => by rw [run_eql_keyD q kzero HQl.out rfl, hzb]) (fun w1 => guard_key _ _ _ _ _ _) ?_))
    go_ret
    exact ⟨rfl, HL.out.aft⟩
  have hzb : decide (q = kzero) = false := decide_eq_false hz
  have HZ := Lib.hid hz
  clear hz
  go_wp2_with (first | (refine wpList_dstT 26 rfl ?_; refine wpList_load_rowG (by kernel_rfl) 30 (.tmp 5) rfl _ rfl _ _ _ _ (HL.out.get 1 rfl) Tryd.underlying30 rfl (key_info HQl.out) ?_) | (refine wpList_dstT 27 rfl ?_; refine wpList_buildO (by kernel_rfl) 30 #[] rfl #[] (by kernel_rfl) _ (build_kz _) ?_) | (refine wpList_dstT 28 rfl ?_; refine wpList_binG (by kernel_rfl) .eql 30 30 (.tmp 26) (.tmp 27) rfl (.agg (bv q).toArray) (.agg (bv kzero).toArray) (.bool false) rfl rfl (fun w1 => by rw [run_eql_keyD q kzero HQl.out rfl, hzb]) (fun w1 => guard_key _ _ _ _ _ _) ?_) | (refine wpList_dstT 32 rfl ?_; refine wpList_load_rowG (by kernel_rfl) 28 (.tmp 3) rfl _ rfl _ _ _ _ (HL.out.get 0 rfl) Tryd.underlying28 rfl (tr_info _ _ _ _) ?_))
  clear hzb
  refine (HLf.out HSm.out HPl.out _ HL.out.aft).mono ?_
  rintro e w5 ⟨rfl, h5⟩
  replace HL := Lib.hid (HL.out.call h5)
  clear h5 HLf
  by_cases hok : tagOk kind ids ls ps
  rotate_left
  · have HE := Lib.hid (show leafE kind ids ls ps id = 1 from if_neg hok)
    rw [HE.out]
    clear hok
    go_wp2_with fail
    go_ret
    exact ⟨rfl, HL.out.aft⟩
  by_cases hm : memI ids id (nodesL kind ids ls) < 0
  · have HE := Lib.hid (show leafE kind ids ls ps id = 6 by unfold leafE; rw [if_pos hok, if_pos hm])
    rw [HE.out]
    clear hok hm
    go_wp2_with fail
    go_ret
    exact ⟨rfl, HL.out.aft⟩
  have HE := Lib.hid (show leafE kind ids ls ps id = 0 by unfold leafE; rw [if_pos hok, if_neg hm])
  obtain ⟨i, hi⟩ : ∃ i : Nat, memI ids id (nodesL kind ids ls) = (i : Int) := ⟨(memI ids id (nodesL kind ids ls)).toNat, by omega⟩
  have HX := Lib.hid (show leafX kind ids ls ps id = (i : Int) by unfold leafX; rw [if_pos HE.out, hi])
  obtain ⟨hil, hlv, hpe, hws⟩ := way13 hok.1 hi
  rw [HE.out, HX.out]
  have HOk := Lib.hid hok
  have HOk2 := Lib.hid (kset_ok (i := i) hok HZ.out)
  have HTr := Lib.hid (nodes_trf (kind := kind) (mayE_zero.1 hok.1).2)
  have HNl := Lib.hid hok.2.2.1
  have HLv := Lib.hid hlv
  have HWs := Lib.hid hws
  have HPe := Lib.hid hpe
  have hip : i < ps.length := by rw [← hok.2.2.1]; exact hil
  clear hok hm hi hil hlv hpe hws HE HX
  go_wp2_with (first | (refine wpList_dstT 48 rfl ?_; refine wpList_load_rowG (by kernel_rfl) 28 (.tmp 3) rfl _ rfl _ _ _ _ (HL.out.get 0 rfl) Tryd.underlying28 rfl (tr_info _ _ _ _) ?_))
  refine (HCp.out HSm.out HPl.out _ HL.out.aft).mono ?_
  rintro e w6 ⟨vi6, vl6, vp6, vs6, rfl, ho, hoK, h6⟩
  obtain ⟨gp, cp, rfl, hgb⟩ := own_some hoK (by omega)
  have HT := Lib.hid ho
  have HK := Lib.hid hoK
  have HGb := Lib.hid hgb
  obtain ⟨a6, c6, b6, d6, rfl, rfl⟩ := ho.shape
  have HLo := Lib.hid HL.out
  have HGp := Lib.hid (show gp < w6.heap.size from (hoK.lt gp rfl).2)
  replace HL := Lib.hid (HL.out.call h6)
  clear ho hoK hgb h6 HCp
  go_upto_region 9 with (first | (refine wpList_dstT 10 rfl ?_; refine wpList_allocO rfl 28 rfl (.cells (trL 0 (.slice none 0 0) (.slice none 0 0) (.slice none 0 0)).toArray 28) alloc_tr ?_; intro w7 aa gg zz; replace HT := Lib.hid (HT.out.aft aa); replace HK := Lib.hid (HK.out.aft aa); replace HL := Lib.hid (HL.out.alloc aa gg.out); clear aa gg zz; (try simp only [List.nil_append, List.cons_append, List.set_cons_zero, List.set_cons_succ] at HL)) | (refine wpList_store_rowZ rfl 28 (.tmp 10) (.tmp 49) rfl _ (trL kind (.slice a6 ids.length c6) (.slice b6 ls.length d6) (.slice (some ⟨gp, 0, none⟩) ps.length cp)).toArray rfl rfl _ _ (HL.out.get 2 rfl) (tr_info _ _ _ _) rfl (all_one (trL_one _ _ _ _ rfl rfl rfl)) ?_; intro w8 q1 q2 q3; replace HT := Lib.hid (HT.out.stored (HL.out.get 2 rfl) (by decide) (by decide) q2.out); replace HK := Lib.hid (HK.out.storedT (HL.out.get 2 rfl) (by decide) q2.out); replace HL := Lib.hid (HL.out.store 2 rfl q1 q2 q3); clear q1 q2 q3; (try simp only [List.nil_append, List.cons_append, List.set_cons_zero, List.set_cons_succ] at HL); have k3 := cell_part (n := 3) (HL.out.get 2 rfl) rfl) | (refine wpList_dstT 53 rfl ?_; refine wpList_load_rowG (by kernel_rfl) 30 (.tmp 5) rfl _ rfl _ _ _ _ (HL.out.get 1 rfl) Tryd.underlying30 rfl (key_info HQl.out) ?_) | (refine wpList_store_keyAt rfl (.tmp 54) (.tmp 53) rfl w5.heap.size gp ps.length cp ps i hip q HQl.out HK.out rfl rfl ?_; intro w9 p1 p2; have HK9 := p1; have HF9 := p2; clear p1 p2))
  replace HT := Lib.hid (HT.out.frK HK.out HF9.out)
  replace HL := Lib.hid (HL.out.frB HF9.out (fun g e => by
    have e2 : gp = g := Option.some.inj e
    have h1 := HGb.out
    have h2 := Below.size HLo.out.aft
    omega) (fun k g o hk e => by
    have e2 : gp = g := Option.some.inj e
    have h1 := HGb.out
    have h2 := HGp.out
    have h3 : w.heap.size < w5.heap.size := heap_lt (HLo.out.get 0 rfl)
    have h4 : w1.heap.size < w5.heap.size := heap_lt (HLo.out.get 1 rfl)
    match k, hk with
    | 0, hk =>
      have e3 : w.heap.size = g := congrArg Prod.fst (Option.some.inj hk)
      omega
    | 1, hk =>
      have e3 : w1.heap.size = g := congrArg Prod.fst (Option.some.inj hk)
      omega
    | 2, hk =>
      have e3 : w6.heap.size = g := congrArg Prod.fst (Option.some.inj hk)
      omega
    | n + 3, hk => cases hk))
  have HRo := Lib.hid (fun (wx : World) (ha : Aft w9 wx) => show RdTr wx (.slice a6 ids.length c6) (.slice b6 ls.length d6) (.slice (some ⟨gp, 0, none⟩) ps.length cp) ids ls (ps.set i q) from ⟨HT.out.ids.rd.grow ha, HT.out.lv.rd.aft ha, HK9.out.rd.grow ha⟩)
  have HA9 := Lib.hid (Aft.refl w9)
  have HE1 := Lib.hid (show tagE kind ids ls ps = 0 from if_pos HOk.out)
  have HE2 := Lib.hid (show tagE kind ids ls (ps.set i q) = 0 from if_pos HOk2.out)
  have HL1 := Lib.hid (tsums_len HOk.out)
  have HL2 := Lib.hid (show (tsums kind ids ls (ps.set i q)).length = ps.length by rw [tsums_len HOk2.out, List.length_set])
  have HEq := Lib.hid (fun (k : Nat) (hk : k < ps.length) (hw : (k : Int) ∉ rpathW kind ids ls id) => show (tsums kind ids ls (ps.set i q)).getD k [] = (tsums kind ids ls ps).getD k [] from by
    unfold tsums
    rw [if_pos HOk.out, if_pos HOk2.out]
    exact sums_way HTr.out HWs.out HLv.out _ (Nat.le_refl _) k (by rw [HNl.out]; exact hk) hw)
  clear HT HK HK9 HF9 k3 HGp HGb HLo
  go_wp2_with (first | (refine wpList_dstT 56 rfl ?_; refine wpList_load_rowG (by kernel_rfl) 28 (.tmp 3) rfl _ rfl _ _ _ _ (HL.out.get 0 rfl) Tryd.underlying28 rfl (tr_info _ _ _ _) ?_))
  refine (HSa.out HSm.out HPl.out _ HL.out.aft).mono ?_
  rintro e w10 ⟨va, rfl, hoa, h10⟩
  have HRa := Lib.hid (fun (wx : World) (ha : Aft w10 wx) => hoa.rd.grow ha)
  obtain ⟨aA, cA, rfl, -, -⟩ := hoa.rd.shape
  rw [HL1.out] at HRa ⊢
  rw [HE1.out]
  replace HL := Lib.hid (HL.out.call h10)
  replace HA9 := Lib.hid (Aft.trans HA9.out h10)
  clear hoa h10 HSa
  go_wp2_with (first | (refine wpList_dstT 61 rfl ?_; refine wpList_load_rowG (by kernel_rfl) 28 (.tmp 10) rfl _ rfl _ _ _ _ (HL.out.get 2 rfl) Tryd.underlying28 rfl (tr_info _ _ _ _) ?_))
  refine (HSb.out HSm.out _ _ _ (ps.set i q) _ (by rw [List.length_set]; exact HPl.out) HL.out.aft (HRo.out _ HA9.out)).mono ?_
  rintro e w11 ⟨vb, rfl, hob, h11⟩
  have HRb := Lib.hid (fun (wx : World) (ha : Aft w11 wx) => hob.rd.grow ha)
  obtain ⟨aB, cB, rfl, -, -⟩ := hob.rd.shape
  rw [HL2.out] at HRb ⊢
  rw [HE2.out]
  replace HL := Lib.hid (HL.out.call h11)
  have HA10 := Lib.hid h11
  clear hob h11 HSb HRo HA9
  have k1 := cell_part (n := 0) (HL.out.get 0 rfl) rfl
  go_wp2_with (first | (refine wpList_dstT 69 rfl ?_; refine wpList_load_mid2 (by kernel_rfl) 25 (.tmp 68) rfl _ _ rfl (shpL (.slice ao ids.length ac) (.slice bo ls.length bc)) (tr_shp (HL.out.get 0 rfl)) _ Tryd.underlying25 rfl (shp_info _ _) ?_))
  refine (HPt.out HSm.out _ HL.out.aft).mono ?_
  rintro e w12 ⟨vw, rfl, how, h12⟩
  rw [HPe.out]
  have HRw := Lib.hid (fun (wx : World) (ha : Aft w12 wx) => how.rd.grow ha)
  obtain ⟨aW, cW, rfl⟩ := how.shape
  have HA12 := Lib.hid (Aft.trans HL.out.aft h12)
  replace HA10 := Lib.hid (Aft.trans HA10.out h12)
  have HA11 := Lib.hid h12
  clear how h12 HPt HL k1
  obtain ⟨S1, hS1⟩ : ∃ S, S = tsums kind ids ls ps := ⟨_, rfl⟩
  obtain ⟨S2, hS2⟩ : ∃ S, S = tsums kind ids ls (ps.set i q) := ⟨_, rfl⟩
  rw [← hS1] at HL1 HEq HRa
  rw [← hS2] at HL2 HEq HRb
  clear hS1 hS2 HWs
  generalize rpathW kind ids ls id = W at *
  have HWb := Lib.hid (show W.length ≤ 9223372036854775807 from by
    obtain ⟨_, _, -, h1, h2⟩ := (HRw.out w12 (Aft.refl _)).numS
    omega)
  have HPb := HPl.out
  have HA0 := Lib.hid (Aft.refl w12)
  generalize ps.length = n at *
  go_wp2_with fail
  go_loopw [93] (fun v93 wr => ∃ k : Nat, k ≤ n ∧ v93 = .int .i64 (k : Int) ∧ Aft w12 wr) (fun v93 _ => n - (intOf v93).toNat)
  case atStart => exact ⟨0, Nat.zero_le _, rfl, Aft.refl _⟩
  case round =>
    obtain ⟨wo, hwo⟩ : ∃ z, z = wr := ⟨_, rfl⟩
    subst hwo
    obtain ⟨k, hk, rfl, hA⟩ := hrel
    have HA := Lib.hid hA
    clear hA
    by_cases hlt : k < n
    · have hlt' : (k : Int) < (n : Nat) := by omega
      obtain ⟨gA, oA, c1, he1, hl1, hr1⟩ := (HRa.out wo (Aft.trans HA10.out HA.out)).at (i := k) (by rw [HL1.out]; exact hlt)
      obtain ⟨gB, oB, c2, he2, hl2, hr2⟩ := (HRb.out wo (Aft.trans HA11.out HA.out)).at (i := k) (by rw [HL2.out]; exact hlt)
      injection he1 with e1 e2 e3
      injection he2 with e4 e5 e6
      subst e1 e4
      clear e2 e3 e5 e6
      have HK1 := Lib.hid hl1
      have HR1 := Lib.hid (fun (wx : World) (ha : Aft wo wx) => hr1.grow ha)
      have HK2 := Lib.hid hl2
      have HR2 := Lib.hid (fun (wx : World) (ha : Aft wo wx) => hr2.grow ha)
      have HE := Lib.hid (HEq.out k hlt)
      clear hl1 hr1 hl2 hr2
      generalize S1.getD k [] = X at *
      generalize S2.getD k [] = Y at *
      go_wp2_with fail
      go_loopw [18, 98] (fun v18 v98 wk => ∃ (j : Nat) (b : Bool), j ≤ W.length ∧ v98 = .int .i64 (j : Int) ∧ v18 = .bool b ∧ (b = true ↔ (k : Int) ∈ W.take j) ∧ Aft wo wk) (fun _ v98 _ => W.length - (intOf v98).toNat)
      case atStart => exact ⟨0, false, Nat.zero_le _, rfl, rfl, ⟨fun h => (by cases h), fun h => (by simp at h)⟩, Aft.refl _⟩
      case round =>
        obtain ⟨wi, hwi⟩ : ∃ z, z = wr := ⟨_, rfl⟩
        subst hwi
        obtain ⟨j, b, hj, rfl, rfl, hb, hAi⟩ := hrel
        have HAi := Lib.hid hAi
        have HB := Lib.hid hb
        clear hAi hb
        by_cases hjt : j < W.length
        · have hjt' : (j : Int) < (W.length : Nat) := by omega
          have hwb := HWb.out
          obtain ⟨gW, oW, rfl, -, -⟩ := (HRw.out wi (Aft.trans HA.out HAi.out)).some_of (by rw [zv_length]; omega)
          have kw := (HRw.out wi (Aft.trans HA.out HAi.out)).num_at hjt
          have HTk := Lib.hid (take_sn hjt)
          generalize W.getD j 0 = x at *
          cases b with
          | true =>
            go_wp2_with fail
            go_roundw
            case rel => exact ⟨j + 1, true, by omega, by go_num, rfl, ⟨fun _ => by rw [HTk.out]; exact List.mem_append.2 (.inl (HB.out.1 rfl)), fun _ => rfl⟩, HAi.out⟩
            case measure => simp [intOf]; omega
          | false =>
            go_wp2_with fail
            go_roundw
            case rel =>
              refine ⟨j + 1, (x == (k : Int)), by omega, by go_num, rfl, ⟨fun h => ?_, fun h => ?_⟩, HAi.out⟩
              · rw [HTk.out, List.mem_append, List.mem_singleton]
                exact .inr (eq_of_beq h).symm
              · rw [HTk.out, List.mem_append, List.mem_singleton] at h
                rcases h with h | h
                · exact absurd (HB.out.2 h) (by decide)
                · rw [h]
                  exact beq_self_eq_true _
            case measure => simp [intOf]; omega
        · obtain rfl : j = W.length := by omega
          have hjt' : ¬ ((W.length : Nat) : Int) < (W.length : Nat) := by omega
          rw [List.take_length] at HB
          have HDr := Lib.hid (Aft.trans HAi.out (show Aft wi wi.drew from (Below.refl _ _).drew))
          cases b with
          | true =>
            go_wp2_with (first | (refine wp_region_lex (fun wz => ∃ u : Later wi.heap.size wi, wz = u.w) (fun i => ([] : List Nat).contains i) 12 (by kernel_rfl) (by kernel_rfl) ⟨⟨wi.drew, (Below.refl _ _).drew⟩, rfl⟩ ?_))
            change wpLx _ _ _ _ _ _ _ _ _ wi.drew
            try simp only [Act.put]
            repeat (first | (refine lx_skipT (by go_big_quiet_skip; exact wpQuiet_nil trivial) (by kernel_rfl) ?_; simp only [Act.put, List.setIfInBounds_toArray, List.set_cons_succ, List.set_cons_zero]) | (refine lx_quietT rfl (by go_big_quiet_want; exact quiet_false (by assumption)) (by kernel_rfl) rfl ?_; intro Kx hKx; go_big_quiet_op; go_big_quiet_on))
            refine lx_done ?_
            go_wp2_with fail
            go_roundw
            case rel => exact ⟨k + 1, by omega, by go_num, Aft.trans HA.out HDr.out⟩
            case measure => simp [intOf]; omega
          | false =>
            have hXY := HE.out fun h => absurd (HB.out.2 h) (by decide)
            subst hXY
            go_wp2_with (first | (refine wp_region_lex (fun wz => ∃ u : Later wi.heap.size wi, wz = u.w) (fun i => ([] : List Nat).contains i) 12 (by kernel_rfl) (by kernel_rfl) ⟨⟨wi.drew, (Below.refl _ _).drew⟩, rfl⟩ ?_))
            change wpLx _ _ _ _ _ _ _ _ _ wi.drew
            try simp only [Act.put]
            repeat (first | (refine lx_skipT (by go_big_quiet_skip; exact wpQuiet_nil trivial) (by kernel_rfl) ?_; simp only [Act.put, List.setIfInBounds_toArray, List.set_cons_succ, List.set_cons_zero]) | (refine lx_quietT rfl (by go_big_quiet_want; exact quiet_false (by assumption)) (by kernel_rfl) rfl ?_; intro Kx hKx; go_big_quiet_op; go_big_quiet_on))
            refine lx_key rfl (by kernel_rfl) (.tmp 114) rfl gA (oA + k * 32) rfl Y HK1.out (fun wz h => by obtain ⟨u, rfl⟩ := h; exact HR1.out _ (Aft.trans HAi.out u.h)) ?_
            try simp only [Act.put, List.setIfInBounds_toArray, List.set_cons_succ, List.set_cons_zero]
            repeat (first | (refine lx_skipT (by go_big_quiet_skip; exact wpQuiet_nil trivial) (by kernel_rfl) ?_; simp only [Act.put, List.setIfInBounds_toArray, List.set_cons_succ, List.set_cons_zero]) | (refine lx_quietT rfl (by go_big_quiet_want; exact quiet_false (by assumption)) (by kernel_rfl) rfl ?_; intro Kx hKx; go_big_quiet_op; go_big_quiet_on))
            refine lx_key rfl (by kernel_rfl) (.tmp 118) rfl gB (oB + k * 32) rfl Y HK1.out (fun wz h => by obtain ⟨u, rfl⟩ := h; exact HR2.out _ (Aft.trans HAi.out u.h)) ?_
            try simp only [Act.put, List.setIfInBounds_toArray, List.set_cons_succ, List.set_cons_zero]
            refine lx_bin rfl (by kernel_rfl) .neq 30 30 (.tmp 115) (.tmp 119) rfl (.agg (bv Y).toArray) (.agg (bv Y).toArray) (.bool false) rfl rfl (fun w1 => run_neq_key Y HK1.out w1) (fun w1 => guard_key _ _ _ _ _ _) ?_
            try simp only [Act.put, List.setIfInBounds_toArray, List.set_cons_succ, List.set_cons_zero]
            repeat (first | (refine lx_skipT (by go_big_quiet_skip; exact wpQuiet_nil trivial) (by kernel_rfl) ?_; simp only [Act.put, List.setIfInBounds_toArray, List.set_cons_succ, List.set_cons_zero]) | (refine lx_quietT rfl (by go_big_quiet_want; exact quiet_false (by assumption)) (by kernel_rfl) rfl ?_; intro Kx hKx; go_big_quiet_op; go_big_quiet_on))
            refine lx_done ?_
            go_wp2_with fail
            go_roundw
            case rel => exact ⟨k + 1, by omega, by go_num, Aft.trans HA.out HDr.out⟩
            case measure => simp [intOf]; omega
    · obtain rfl : k = n := by omega
      have hlt' : ¬ ((k : Nat) : Int) < (k : Nat) := by omega
      go_wp2_with fail
      go_ret
      exact ⟨rfl, Aft.trans HA12.out HA.out⟩
end Go.Proofs.YtdbhlajajdlmfaaDoor
