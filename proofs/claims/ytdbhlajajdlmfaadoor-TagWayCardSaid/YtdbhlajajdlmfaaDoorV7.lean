/- tag.Check, tag.Leaf. -/
import Derived.Test.YtdbhlajajdlmfaaDoorV2
import Derived.Test.YtdbhlajajdlmfaaDoorQ
namespace Go.Proofs.YtdbhlajajdlmfaaDoor
open Go Go.RowKit
set_option linter.unusedSimpArgs false
set_option maxRecDepth 100000 in
set_option maxHeartbeats 2000000 in
theorem tchk_any (kind : Int) (vi vl vp : Value) (ids : List Int) (ls : List (List Int)) (ps : List Byt) (w : World) (h : RdTr w vi vl vp ids ls ps) (hs : Small ids ls) (hp : ps.length ≤ 1048576) :
    Calls Tryd.prog 22 #[.agg (trL kind vi vl vp).toArray] w fun e w' => e = .returned (.int .i64 (tagE kind ids ls ps)) ∧ Aft w w' := by
  have HNd := Lib.hid (fun (wx : World) (ha : Aft w wx) => tnodes_any kind vi vl vp ids ls ps wx (h.aft ha) hs hp)
  obtain ⟨ao, ac, rfl, -, -⟩ := h.i.numS
  obtain ⟨bo, bc, rfl, -⟩ := h.l.shape
  obtain ⟨po, pc, rfl, -, -⟩ := h.p.shape
  have HL := Lib.hid (Led.start w)
  clear h hs
  go_enter Tryd.func22, Tryd.ntmps22
  go_wp2_with (first | (refine wpList_dstT 1 rfl ?_; refine wpList_boxO rfl 28 (.tmp 0) rfl (.agg (trL kind (.slice ao ids.length ac) (.slice bo ls.length bc) (.slice po ps.length pc)).toArray) rfl (.cells (trL kind (.slice ao ids.length ac) (.slice bo ls.length bc) (.slice po ps.length pc)).toArray 28) (box_tr _ _ _ _) ?_; intro w1 aa gg zz; replace HL := Lib.hid (HL.out.alloc aa gg.out); clear aa gg zz; (try simp only [List.nil_append, List.cons_append, List.set_cons_zero, List.set_cons_succ] at HL)) | (refine wpList_dstT 6 rfl ?_; refine wpList_load_rowG (by kernel_rfl) 28 (.tmp 1) rfl _ rfl _ _ _ _ (HL.out.get 0 rfl) Tryd.underlying28 rfl (tr_info _ _ _ _) ?_))
  refine (HNd.out _ HL.out.aft).mono ?_
  rintro e w2 ⟨vb, qs, rfl, ho, hf, h2⟩
  obtain ⟨qa, qc, rfl⟩ := ho.shape
  replace HL := Lib.hid (HL.out.call h2)
  clear ho h2 HNd hf
  go_wp2_with fail
  go_ret
  exact ⟨rfl, HL.out.aft⟩
/-- The leaf of a member. -/
def isMem (ids : List Int) (id : Int) (x : Nd) : Bool := x.lv == 0 && ids.getD x.ix.toNat 0 == id
set_option maxRecDepth 100000 in
set_option maxHeartbeats 2000000 in
theorem isMem_any (x : Nd) (kx : Value) (ids : List Int) (id : Int) (gt gi : Nat) (kind : Int) (vi vl vp : Value) (w : World) (hk : Rd w kx (zv x.ks)) (hx : x.lv = 0 → ∃ j : Nat, x.ix = (j : Int) ∧ j < ids.length)
    (ht : w.heap[gt]? = some (.cells (trL kind vi vl vp).toArray 28 (0, 0))) (hi : w.heap[gi]? = some (.cells #[.int .i64 id] 3 (0, 0))) (hr : Rd w vi (zv ids)) :
    Calls Tryd.prog 36 #[.agg (ndR x kx).toArray, .pointer (some ⟨gt, 0, none⟩), .pointer (some ⟨gi, 0, none⟩)] w fun e w' => e = .returned (.bool (isMem ids id x)) ∧ Aft w w' := by
  obtain ⟨ka, kc, rfl, -, -⟩ := hk.numS
  have HT := Lib.hid ht
  have HI := Lib.hid hi
  have HR := Lib.hid hr
  have HL := Lib.hid (Led.start w)
  clear ht hi hr hk
  by_cases h0 : x.lv = 0
  · obtain ⟨j, hj, hjl⟩ := hx h0
    obtain ⟨aq, ca, rfl, -, -⟩ := HR.out.numS
    obtain ⟨ga, oa, rfl, -, -⟩ := HR.out.some_of (by rw [zv_length]; omega)
    obtain ⟨y, hy⟩ : ∃ y, y = ids.getD j 0 := ⟨_, rfl⟩
    have HE := Lib.hid (show isMem ids id x = (y == id) by unfold isMem; rw [hy, h0, hj, Int.toNat_natCast]; rfl)
    have HY := Lib.hid hy
    clear hy
    have h0b := Lib.hid h0
    clear h0 hx
    have hj2 : (j : Int) < (ids.length : Nat) := by omega
    go_enter Tryd.func36, Tryd.ntmps36
    go_wp2_with (first | (refine wpList_boxO rfl 68 (.tmp 0) rfl (.agg (ndR x (.slice ka x.ks.length kc)).toArray) rfl (.cells (ndR x (.slice ka x.ks.length kc)).toArray 68) (box_nd _) ?_; intro w1 aa gg zz; replace HL := Lib.hid (HL.out.alloc aa gg.out); clear aa gg zz; try simp only [List.nil_append, List.cons_append, List.set_cons_zero, List.set_cons_succ] at HL))
    have c0 := fun u : Later w1.heap.size w1 => show u.w.cell? ⟨w.heap.size, 0, none⟩ = some (.int .i64 0) from h0b.out ▸ cell_part (n := 0) (Aft.get u.h (HL.out.get 0 rfl)) rfl
    have c1 := fun u : Later w1.heap.size w1 => show u.w.cell? ⟨w.heap.size, 1, none⟩ = some (.int .i64 (j : Int)) from hj ▸ cell_part (n := 1) (Aft.get u.h (HL.out.get 0 rfl)) rfl
    have t1 := fun u : Later w1.heap.size w1 => cell_part (n := 1) (Aft.get u.h (Aft.get HL.out.aft HT.out)) rfl
    have i1 := fun u : Later w1.heap.size w1 => cell_part (n := 0) (Aft.get u.h (Aft.get HL.out.aft HI.out)) rfl
    have r1 := fun u : Later w1.heap.size w1 => show u.w.cell? ⟨ga, oa + j, none⟩ = some (.int .i64 y) from HY.out ▸ (HR.out.grow (Aft.trans HL.out.aft u.h)).num_at hjl
    have HDr := Lib.hid (Aft.trans HL.out.aft (show Aft w1 w1.drew from (Below.refl _ _).drew))
    go_wp2_with (first | (refine wp_region_lex (fun wz => ∃ u : Later w1.heap.size w1, wz = u.w) (fun i => ([] : List Nat).contains i) 14 (by kernel_rfl) (by kernel_rfl) ⟨⟨w1.drew, (Below.refl _ _).drew⟩, rfl⟩ ?_))
    change wpLx _ _ _ _ _ _ _ _ _ w1.drew
    try simp only [Act.put]
    repeat (first | (refine lx_skipT (by go_big_quiet_skip; exact wpQuiet_nil trivial) (by kernel_rfl) ?_; simp only [Act.put, List.setIfInBounds_toArray, List.set_cons_succ, List.set_cons_zero]) | (refine lx_quietT rfl (by go_big_quiet_want; exact quiet_false (by assumption)) (by kernel_rfl) rfl ?_; intro Kx hKx; go_big_quiet_op; go_big_quiet_on))
    refine lx_done ?_
    go_wp2_with fail
    go_ret
    exact ⟨by rw [HE.out]; rfl, HDr.out⟩
  · have hb : (x.lv == 0) = false := by simp [h0]
    have HE := Lib.hid (show isMem ids id x = false by simp [isMem, h0])
    clear h0 hx
    go_enter Tryd.func36, Tryd.ntmps36
    go_wp2_with (first | (refine wpList_boxO rfl 68 (.tmp 0) rfl (.agg (ndR x (.slice ka x.ks.length kc)).toArray) rfl (.cells (ndR x (.slice ka x.ks.length kc)).toArray 68) (box_nd _) ?_; intro w1 aa gg zz; replace HL := Lib.hid (HL.out.alloc aa gg.out); clear aa gg zz; try simp only [List.nil_append, List.cons_append, List.set_cons_zero, List.set_cons_succ] at HL))
    have c0 := fun u : Later w1.heap.size w1 => cell_part (n := 0) (Aft.get u.h (HL.out.get 0 rfl)) rfl
    have HDr := Lib.hid (Aft.trans HL.out.aft (show Aft w1 w1.drew from (Below.refl _ _).drew))
    go_wp2_with (first | (refine wp_region_lex (fun wz => ∃ u : Later w1.heap.size w1, wz = u.w) (fun i => ([] : List Nat).contains i) 14 (by kernel_rfl) (by kernel_rfl) ⟨⟨w1.drew, (Below.refl _ _).drew⟩, rfl⟩ ?_))
    change wpLx _ _ _ _ _ _ _ _ _ w1.drew
    try simp only [Act.put]
    repeat (first | (refine lx_skipT (by go_big_quiet_skip; exact wpQuiet_nil trivial) (by kernel_rfl) ?_; simp only [Act.put, List.setIfInBounds_toArray, List.set_cons_succ, List.set_cons_zero]) | (refine lx_quietT rfl (by go_big_quiet_want; exact quiet_false (by assumption)) (by kernel_rfl) rfl ?_; intro Kx hKx; go_big_quiet_op; go_big_quiet_on))
    refine lx_done ?_
    go_wp2_with fail
    go_ret
    exact ⟨by rw [HE.out]; rfl, HDr.out⟩
def memI (ids : List Int) (id : Int) (N : List Nd) : Int := match N.findIdx? (isMem ids id) with | some i => (i : Int) | none => -1
set_option maxRecDepth 100000 in
set_option maxHeartbeats 1000000 in
theorem memI_any (v : Value) (ps : List (Nd × Value)) (ids : List Int) (id : Int) (gt gi : Nat) (kind : Int) (vi vl vp : Value) (w : World) (hx : RdN w v ps) (hn : ps.length ≤ 1000000) (hlv : ∀ k, k < ps.length → (ps.getD k ndP).1.lv = 0 → ∃ j : Nat, (ps.getD k ndP).1.ix = (j : Int) ∧ j < ids.length)
    (ht : w.heap[gt]? = some (.cells (trL kind vi vl vp).toArray 28 (0, 0))) (hi : w.heap[gi]? = some (.cells #[.int .i64 id] 3 (0, 0))) (hr : Rd w vi (zv ids)) :
    Calls Tryd.prog 35 #[v, .func (.func 36) #[] #[.pointer (some ⟨gt, 0, none⟩), .pointer (some ⟨gi, 0, none⟩)]] w fun e w' => e = .returned (.int .i64 (memI ids id (ps.map Prod.fst))) ∧ Aft w w' := by
  have HX := Lib.hid hx
  have HP := Lib.hid (fun (wx : World) (ha : Aft w wx) (x : Nd) (kx : Value) (h1 : Rd wx kx (zv x.ks)) (h2 : x.lv = 0 → ∃ j : Nat, x.ix = (j : Int) ∧ j < ids.length) => isMem_any x kx ids id gt gi kind vi vl vp wx h1 h2 (Aft.get ha ht) (Aft.get ha hi) (hr.grow ha))
  have HV := Lib.hid hlv
  have HN := Lib.hid hn
  obtain ⟨ao, cap, rfl, -, -⟩ := hx.shape
  obtain ⟨bq, hbq⟩ : ∃ bq, bq = memI ids id (ps.map Prod.fst) := ⟨_, rfl⟩
  have HB := Lib.hid hbq
  have HLn := Lib.hid (show (ps.map Prod.fst).length = ps.length from List.length_map _)
  have HG := Lib.hid (fun k => fst_getD ps k)
  rw [← hbq]
  clear hx ht hi hr hlv hbq hn
  go_enter Tryd.func35, Tryd.ntmps35
  go_wp2_with fail
  go_loopw [8] (fun v8 wr => ∃ i : Nat, i ≤ ps.length ∧ v8 = .int .i64 (i : Int) ∧ (∀ j, j < i → isMem ids id ((ps.map Prod.fst).getD j nd0) = false) ∧ Aft w wr) (fun v8 _ => ps.length - (intOf v8).toNat)
  case atStart => exact ⟨0, by omega, rfl, fun j hj => absurd hj (Nat.not_lt_zero _), Aft.refl _⟩
  case round =>
    obtain ⟨i, hi, rfl, hsm, hA⟩ := hrel
    have HA := Lib.hid hA
    have HSm := Lib.hid hsm
    have hn6 := HN.out
    clear hA hsm
    by_cases hlt : i < ps.length
    · have hlt' : (i : Int) < (ps.length : Nat) := by omega
      obtain ⟨b1, o1, c1, he, hrx⟩ := HX.out.rng hlt
      injection he with he1 he2 he3
      subst he1 he3
      have hkx := HX.out.mem hlt
      have hvx := HV.out i hlt
      have hxg := HG.out i
      have HRx := Lib.hid (hrx wr HA.out)
      generalize ps.getD i ndP = p at *
      obtain ⟨x, kx⟩ := p
      dsimp only at HRx hkx hxg hvx
      have HIs := Lib.hid (HP.out wr HA.out x kx (hkx.grow HA.out) hvx)
      obtain ⟨ka, kc, rfl, -, -⟩ := hkx.numS
      have HXg := Lib.hid hxg
      clear he2 hrx hkx hxg hvx
      go_wp2_with (first | (refine wpList_dstT 15 rfl ?_; refine wpList_load_mid2 (by kernel_rfl) 68 (.tmp 14) rfl _ _ rfl (ndR x (.slice ka x.ks.length kc)) HRx.out _ Tryd.underlying68 rfl (nd_info2 _ _) ?_))
      refine HIs.out.mono ?_
      rintro e w2 ⟨rfl, h2⟩
      replace HA := Lib.hid (Aft.trans HA.out h2)
      clear h2
      cases hl : isMem ids id x with
      | true =>
        have HR := Lib.hid (show bq = (i : Int) by
          rw [HB.out]
          unfold memI
          rw [findIdx_at (by rw [HLn.out]; exact hlt) HSm.out (by rw [HXg.out]; exact hl)])
        clear hl
        go_wp2_with fail
        go_ret
        exact ⟨by rw [HR.out]; rfl, HA.out⟩
      | false =>
        have Hl := Lib.hid hl
        clear hl
        go_wp2_with fail
        go_roundw
        case rel =>
          refine ⟨i + 1, by omega, by go_num, fun j hj => ?_, HA.out⟩
          by_cases hji : j = i
          · subst hji
            rw [HXg.out]
            exact Hl.out
          · exact HSm.out j (by omega)
        case measure => simp [intOf]; omega
    · obtain rfl : i = ps.length := by omega
      have hlt' : ¬ ((ps.length : Nat) : Int) < (ps.length : Nat) := by omega
      have HR := Lib.hid (show bq = -1 by
        rw [HB.out]
        unfold memI
        rw [findIdx_none fun j hj => HSm.out j (by rw [← HLn.out]; exact hj)])
      go_wp2_with fail
      go_ret
      exact ⟨by rw [HR.out]; rfl, HA.out⟩
/-- What tag.Leaf hands back. -/
def leafE (kind : Int) (ids : List Int) (ls : List (List Int)) (ps : List Byt) (id : Int) : Int := if tagOk kind ids ls ps then (if memI ids id (nodesL kind ids ls) < 0 then 6 else 0) else 1
def leafX (kind : Int) (ids : List Int) (ls : List (List Int)) (ps : List Byt) (id : Int) : Int := if leafE kind ids ls ps id = 0 then memI ids id (nodesL kind ids ls) else 0
set_option maxRecDepth 100000 in
set_option maxHeartbeats 2000000 in
theorem tleaf_any (kind : Int) (vi vl vp : Value) (ids : List Int) (ls : List (List Int)) (ps : List Byt) (id : Int) (w : World) (h : RdTr w vi vl vp ids ls ps) (hs : Small ids ls) (hp : ps.length ≤ 400) :
    Calls Tryd.prog 10 #[.agg (trL kind vi vl vp).toArray, .int .i64 id] w fun e w' => e = .returned (.tuple #[.int .i64 (leafX kind ids ls ps id), .int .i64 (leafE kind ids ls ps id)]) ∧ Aft w w' := by
  have HNd := Lib.hid (fun (wx : World) (ha : Aft w wx) => tnodes_any kind vi vl vp ids ls ps wx (h.aft ha) hs (Nat.le_trans hp (by decide)))
  have HRi := Lib.hid (fun (wx : World) (ha : Aft w wx) => h.i.grow ha)
  obtain ⟨ao, ac, rfl, -, -⟩ := h.i.numS
  obtain ⟨bo, bc, rfl, -⟩ := h.l.shape
  obtain ⟨po, pc, rfl, -, -⟩ := h.p.shape
  have HL := Lib.hid (Led.start w)
  clear h hs
  go_enter Tryd.func10, Tryd.ntmps10
  go_wp2_with (first | (refine wpList_dstT 2 rfl ?_; refine wpList_boxO rfl 28 (.tmp 0) rfl (.agg (trL kind (.slice ao ids.length ac) (.slice bo ls.length bc) (.slice po ps.length pc)).toArray) rfl (.cells (trL kind (.slice ao ids.length ac) (.slice bo ls.length bc) (.slice po ps.length pc)).toArray 28) (box_tr _ _ _ _) ?_; intro w1 aa gg zz; replace HL := Lib.hid (HL.out.alloc aa gg.out); clear aa gg zz; (try simp only [List.nil_append, List.cons_append, List.set_cons_zero, List.set_cons_succ] at HL)) | (refine wpList_dstT 3 rfl ?_; refine wpList_boxO rfl 3 (.tmp 1) rfl (.int .i64 id) rfl (.cells #[.int .i64 id] 3) (fun _ => rfl) ?_; intro w1 aa gg zz; replace HL := Lib.hid (HL.out.alloc aa gg.out); clear aa gg zz; (try simp only [List.nil_append, List.cons_append, List.set_cons_zero, List.set_cons_succ] at HL)) | (refine wpList_dstT 10 rfl ?_; refine wpList_load_rowG (by kernel_rfl) 28 (.tmp 2) rfl _ rfl _ _ _ _ (HL.out.get 0 rfl) Tryd.underlying28 rfl (tr_info _ _ _ _) ?_))
  refine (HNd.out _ HL.out.aft).mono ?_
  rintro e w3 ⟨vb, qs, rfl, ho, hf, h2⟩
  obtain ⟨qa, qc, rfl⟩ := ho.shape
  replace HL := Lib.hid (HL.out.call h2)
  clear h2 HNd
  by_cases hok : tagOk kind ids ls ps
  rotate_left
  · have HT := Lib.hid (show tagE kind ids ls ps = 1 from if_neg hok)
    have HE := Lib.hid (show leafE kind ids ls ps id = 1 from if_neg hok)
    have HX := Lib.hid (show leafX kind ids ls ps id = 0 from if_neg (by rw [HE.out]; decide))
    rw [HT.out]
    clear hok hf ho
    go_wp2_with fail
    refine bodyPost_ret (results_tmp2 rfl _ _ _) rfl ?_
    exact ⟨by rw [HX.out, HE.out]; rfl, HL.out.aft⟩
  have HT := Lib.hid (show tagE kind ids ls ps = 0 from if_pos hok)
  rw [if_pos hok] at hf
  have HE := Lib.hid (show leafE kind ids ls ps id = if memI ids id (nodesL kind ids ls) < 0 then 6 else 0 from if_pos hok)
  have HX := Lib.hid (show leafX kind ids ls ps id = if leafE kind ids ls ps id = 0 then memI ids id (nodesL kind ids ls) else 0 from rfl)
  have hql : qs.length = ps.length := by rw [← hok.2.2.1, ← hf, List.length_map]
  obtain ⟨-, hT⟩ := mayE_zero.1 hok.1
  have HTr := Lib.hid (nodes_trf (kind := kind) hT)
  have HPl := Lib.hid hok.2.2.1
  have HMm := Lib.hid (memI_any _ qs ids id _ _ kind _ _ _ w3 ho.rd (by omega) (fun k hk hz => by
    have e := fst_getD qs k
    rw [hf] at e
    rw [← e] at hz ⊢
    rcases HTr.out.lv k (by rw [HPl.out, ← hql]; exact hk) with ⟨-, -, hj⟩ | ⟨hj, -⟩
    · exact hj
    · omega) (HL.out.get 0 rfl) (HL.out.get 1 rfl) (HRi.out _ HL.out.aft))
  rw [HT.out]
  rw [hf] at HMm
  clear hok hf hT HTr ho hql
  generalize memI ids id (nodesL kind ids ls) = mi at *
  go_wp2_with fail
  refine HMm.out.mono ?_
  rintro e w4 ⟨rfl, h4⟩
  replace HL := Lib.hid (HL.out.call h4)
  clear h4
  by_cases hm : mi < 0
  · rw [if_pos hm] at HE
    rw [HE.out, if_neg (by decide)] at HX
    go_wp2_with fail
    refine bodyPost_ret (results_tmp2 rfl _ _ _) rfl ?_
    exact ⟨by rw [HX.out, HE.out]; rfl, HL.out.aft⟩
  · rw [if_neg hm] at HE
    rw [HE.out, if_pos rfl] at HX
    go_wp2_with fail
    refine bodyPost_ret (results_tmp2 rfl _ _ _) rfl ?_
    exact ⟨by rw [HX.out, HE.out]; rfl, HL.out.aft⟩
end Go.Proofs.YtdbhlajajdlmfaaDoor
