/- coterieref10.Nodes. -/
import Derived.Test.YtfgammcefaomeaaW6
import Derived.Test.YtfgammcefaomeaaB4
import Derived.Test.YtfgammcefaomeaaWL
namespace Go.Proofs.Ytfgammcefaomeaa
open Go Go.RowKit
set_option linter.unusedSimpArgs false
def leaf1 (z : Int) : NT 0 × Value := (z, .slice none 0 0)
def leafK (ids : List Int) : List (NT 0 × Value) := ids.map leaf1
theorem leafK_fst (ids : List Int) : (leafK ids).map Prod.fst = ids := by
  unfold leafK
  rw [List.map_map]
  exact (List.map_congr_left (fun _ _ => rfl)).trans (List.map_id ids)
theorem leafK_take (ids : List Int) {i : Nat} (h : i < ids.length) : leafK (ids.take (i + 1)) = leafK (ids.take i) ++ [leaf1 (ids.getD i 0)] := by
  have h4 : ids.take (i + 1) = ids.take i ++ [ids.getD i 0] := by
    rw [List.take_add_one, List.getElem?_eq_getElem h, List.getD_eq_getElem?_getD, List.getElem?_eq_getElem h]
    rfl
  rw [h4]
  unfold leafK
  rw [List.map_append]
  rfl
theorem leafK_length (ids : List Int) : (leafK ids).length = ids.length := List.length_map ..
/-- What Nodes hands back. -/
structure NdsOk (ids : List Int) (ls : List (List Int)) (d : Nat) (ts : List (NT d)) : Prop where
  hids : idsF d ts = ids
  hlv : lvF d ts = ls.take d
  hwf : ∀ t ∈ ts, wfT d t
  hlen : ts.length = cntN ids.length ls d
def NdsSays (ids : List Int) (ls : List (List Int)) (w : World) (e : Ending) (w' : World) : Prop :=
  ∃ v, ∃ ps : List (NT ls.length × Value), e = .returned v ∧ RdF ls.length w' (fun g => w.heap.size ≤ g) v ps ∧ NdsOk ids ls ls.length (ps.map Prod.fst) ∧ Aft w w'
/-- Groups taken so far. -/
structure GrpOk {d : Nat} (lv : List Int) (j : Nat) (ts : List (NT d)) (gs : List (NT (d + 1))) : Prop where
  flat : flatT gs = ts.take (frm lv j).toNat
  lens : lensT gs = lv.take j
  wf : ∀ t ∈ gs, wfT (d + 1) t
theorem grpOk_zero {d : Nat} (lv : List Int) (ts : List (NT d)) : GrpOk lv 0 ts [] := ⟨rfl, by rw [List.take_zero]; rfl, fun t ht => by cases ht⟩
theorem grpOk_succ {d : Nat} {lv : List Int} {j : Nat} {ts : List (NT d)} {gs : List (NT (d + 1))} (h : GrpOk lv j ts gs) (hj : j < lv.length) {m f : Nat} (hm : lv.getD j 0 = (m : Int)) (hf : frm lv j = (f : Int)) (hm23 : m = 2 ∨ m = 3) (hl : f + m ≤ ts.length) (hw : ∀ t ∈ ts, wfT d t) :
    GrpOk lv (j + 1) ts (gs ++ [grpT ((ts.drop f).take m)]) := by
  have h1 : frm lv (j + 1) = ((f + m : Nat) : Int) := by rw [frm_succ hj, hm, hf]; omega
  have hf2 := h.flat
  rw [hf, Int.toNat_natCast] at hf2
  have hlen : ((ts.drop f).take m).length = m := by rw [List.length_take, List.length_drop]; omega
  refine ⟨?_, ?_, fun t ht => ?_⟩
  · rw [h1, Int.toNat_natCast, flatT_append, flatT_one, hf2, List.take_add]
    rfl
  · rw [lensT_append, h.lens]
    have h4 : lv.take (j + 1) = lv.take j ++ [lv.getD j 0] := by
      rw [List.take_add_one, List.getElem?_eq_getElem hj, List.getD_eq_getElem?_getD, List.getElem?_eq_getElem hj]
      rfl
    rw [h4, hm]
    show _ ++ [((((ts.drop f).take m).length : Nat) : Int)] = _
    rw [hlen]
  · rcases List.mem_append.1 ht with ht | ht
    · exact h.wf t ht
    · rw [List.mem_singleton.1 ht]
      refine ⟨?_, fun q hq => hw q (List.mem_of_mem_drop (List.mem_of_mem_take hq))⟩
      show ((ts.drop f).take m).length = 2 ∨ ((ts.drop f).take m).length = 3
      omega
theorem ndsOk_next {ids : List Int} {ls : List (List Int)} {k : Nat} {ts : List (NT k)} {gs : List (NT (k + 1))} (h : NdsOk ids ls k ts) (hk : k < ls.length) (hf : Fit ids.length ls) (hg : GrpOk (ls.getD k []) (ls.getD k []).length ts gs) : NdsOk ids ls (k + 1) gs := by
  have hs := hf.sum k hk
  have hflat : flatT gs = ts := by
    rw [hg.flat, frm_all, hs, Int.toNat_natCast, List.take_of_length_le (Nat.le_of_eq h.hlen)]
  have hl : lensT gs = ls.getD k [] := by rw [hg.lens, List.take_length]
  refine ⟨?_, ?_, hg.wf, ?_⟩
  · show idsF k (flatT gs) = ids
    rw [hflat, h.hids]
  · show lvF k (flatT gs) ++ [lensT gs] = _
    rw [hflat, h.hlv, hl, List.take_add_one, List.getElem?_eq_getElem hk, List.getD_eq_getElem?_getD, List.getElem?_eq_getElem hk]
    rfl
  · have := congrArg List.length hl
    unfold lensT at this
    rw [List.length_map] at this
    exact this
set_option maxRecDepth 100000 in
set_option maxHeartbeats 8000000 in
theorem rNodesT_any (vi vl : Value) (ids : List Int) (ls : List (List Int)) (w : World) (hi : Rd w vi (zv ids)) (hl : RdLs w vl ls) (hok : OkT ids ls) :
    Calls Try.prog 81 #[.agg (shpL vi vl).toArray] w (NdsSays ids ls w) := by
  have hf := okLv_fit ls ids.length hok.2
  have HI := Lib.hid hi
  have HLs := Lib.hid hl
  have HFit := Lib.hid hf
  have hn := hok.1.1
  have hlv9 := lv_nine2 hok
  obtain ⟨ao, cap, rfl, -, -⟩ := hi.numS
  obtain ⟨bo, dap, rfl, -⟩ := hl.shape
  have HL := Lib.hid (Led.start w)
  have hil : ids.length ≤ 1000 := hn
  clear hi hl hok hf hn
  go_enter Try.func81, Try.ntmps81
  go_wp2_with (first | (refine wpList_boxO rfl 25 (.tmp 0) rfl (.agg (shpL (.slice ao ids.length cap) (.slice bo ls.length dap)).toArray) rfl (.cells (shpL (.slice ao ids.length cap) (.slice bo ls.length dap)).toArray 25) (box_shp _) ?_; intro w' aa gg zz; replace HL := Lib.hid (HL.out.alloc aa gg.out); clear aa gg zz; try simp only [List.nil_append, List.cons_append, List.set_cons_zero, List.set_cons_succ] at HL; have hc0 := shp_i (HL.out.get 0 rfl)))
  go_loopw [3, 14] (fun v3 v14 wr => ∃ i : Nat, i ≤ ids.length ∧ v14 = .int .i64 (i : Int) ∧ OwnF 0 wr w.heap.size (fun _ => False) v3 (leafK (ids.take i)) ∧ Led w wr [(w.heap.size, .cells (shpL (.slice ao ids.length cap) (.slice bo ls.length dap)).toArray 25)]) (fun _ v _ => ids.length - (intOf v).toNat)
  case atStart => exact ⟨0, Nat.zero_le _, rfl, OwnF.nil 0 _ _ _, HL.out⟩
  case round =>
    clear HL hc0
    obtain ⟨i, hi, rfl, hO, hL⟩ := hrel
    have HL := Lib.hid hL
    have HO := Lib.hid hO
    obtain ⟨oa, oc, rfl⟩ := hO.shape
    clear hL hO
    by_cases hlt : i < ids.length
    · have hlt' : (i : Int) < (ids.length : Nat) := by omega
      obtain ⟨gi, oi, ci, he, -⟩ := HI.out.at (by rw [zv_length]; omega)
      injection he with he1 he2 he3
      subst he1
      have hcj := (HI.out.grow HL.out.aft).num_at hlt
      have HTk := Lib.hid (leafK_take ids hlt)
      have hll : (leafK (ids.take i)).length ≤ 1000 := by rw [leafK_length, List.length_take]; omega
      have HLl := Lib.hid hll
      generalize leafK (ids.take i) = qs at *
      generalize ids.getD i 0 = z at *
      clear he2 he3 hll
      go_wp2_with (first | (refine wpList_rn1 (by kernel_rfl) (.tmp 20) z (.slice none 0 0) rfl rfl ?_; intro wJ q1 q2; have HOJ := Lib.hid (HO.out.aft q1); have HLJ := Lib.hid (HL.out.call q1); have HRJ := Lib.hid (OwnF.blk (d := 0) (base := wr.heap.size) (B := fun _ => False) (ps := [leaf1 z]) q2.out (Nat.le_refl _) (by show 1 ≤ 1000; decide) (fun p hp => by rw [List.mem_singleton.1 hp]; rfl)); clear q1 q2 hcj) | (at_builtin; refine wpList_appK (d := 0) rfl (.tmp 18) (.tmp 21) rfl w.heap.size (fun _ => False) _ qs rfl HOJ.out (fun _ _ q => q) _ [leaf1 z] rfl HRJ.out.row.rd HRJ.out.kid (by have := HLl.out; simp only [List.length_cons, List.length_nil]; omega) (Below.size HLJ.out.aft) ?_; intro v1 wA k1 k2 k3; have HOA := Lib.hid (k1.out.monoB (B' := fun _ => False) (fun _ hg _ => hg.1)); have HLA := Lib.hid (Led.frR HLJ.out HOJ.out.row.2 (Nat.le_refl _) k2.out rfl); clear k1 k2 k3))
      go_roundw
      case rel => exact ⟨i + 1, by omega, by go_num, by rw [HTk.out]; exact HOA.out, HLA.out⟩
      case measure => simp [intOf]; omega
    · obtain rfl : i = ids.length := by omega
      have hlt' : ¬ ((ids.length : Nat) : Int) < (ids.length : Nat) := by omega
      rw [List.take_length] at HO
      have HR := Lib.hid (HO.out.rd.mono (B' := fun g => w.heap.size ≤ g) (fun g hg _ => by
        rcases hg with h | h
        · exact h.elim
        · exact (HO.out.row.lt g h).1))
      have HNo := Lib.hid (show NdsOk ids ls 0 ((leafK ids).map Prod.fst) from ⟨by rw [leafK_fst]; rfl, rfl, fun _ _ => trivial, by rw [List.length_map, leafK_length]; rfl⟩)
      have hlq : (leafK (ids.take ids.length)).length = (leafK ids).length := by rw [List.take_length]
      rw [hlq]
      generalize leafK ids = qs at *
      have hc1 := shp_l (HL.out.get 0 rfl)
      clear HO hlq
      go_wp2_with fail
      go_loopw [3, 27] (fun v3 v27 wr => ∃ (k : Nat) (ps : List (NT k × Value)), k ≤ ls.length ∧ v27 = .int .i64 (k : Int) ∧ RdF k wr (fun g => w.heap.size ≤ g) v3 ps ∧ NdsOk ids ls k (ps.map Prod.fst) ∧ Led w wr [(w.heap.size, .cells (shpL (.slice ao ids.length cap) (.slice bo ls.length dap)).toArray 25)]) (fun _ v _ => ls.length - (intOf v).toNat)
      case atStart => exact ⟨0, qs, Nat.zero_le _, rfl, HR.out, HNo.out, HL.out⟩
      case round =>
        clear HL HR HNo hc1
        obtain ⟨k, ps, hk, rfl, hR, hNo, hL⟩ := hrel
        have HL := Lib.hid hL
        have HNo := Lib.hid hNo
        have hRs := hR.mono (B' := fun g => w.heap.size ≤ g ∧ g < wr.heap.size) (fun g hg hl => ⟨hg, hl⟩)
        have HR := Lib.hid hRs
        obtain ⟨pa, pc, rfl, -, -⟩ := hR.shape
        have hpl : ps.length = cntN ids.length ls k := by
          have := hNo.hlen
          rwa [List.length_map] at this
        clear hL hR hNo hRs
        by_cases hlt : k < ls.length
        · have hlt' : (k : Int) < (ls.length : Nat) := by omega
          obtain ⟨g1, o1, c1, u1, he, hcu, hru⟩ := HLs.out.cell hlt
          injection he with he1 he2 he3
          subst he1 he3
          have hcx := hcu wr HL.out.aft
          have hsum := HFit.out.sum k hlt
          have htt := HFit.out.tt k
          have hfew := HFit.out.few k (by omega)
          have HNx := Lib.hid (fun (gs : List (NT (k + 1))) hg => ndsOk_next (gs := gs) HNo.out hlt HFit.out hg)
          obtain ⟨lv, hlv⟩ : ∃ lv, lv = ls.getD k [] := ⟨_, rfl⟩
          rw [← hlv] at hru hsum htt HNx
          obtain ⟨ua, uc, rfl, -, -⟩ := hru.numS
          have HX := Lib.hid hru
          have HTt := Lib.hid htt
          have HSm := Lib.hid hsum
          have HFS := Lib.hid (fun j (hj : j < lv.length) => frm_succ hj)
          have HFN := Lib.hid (fun j => frm_nonnegN lv htt j)
          have HFL := Lib.hid (fun j => frm_leN lv htt j)
          have HPl := Lib.hid hpl
          have HWf := Lib.hid HNo.out.hwf
          have hlvl : lv.length ≤ 1000 := by
            have h1 := sum_two lv htt
            rw [hsum] at h1
            omega
          obtain ⟨W5, hW5⟩ : ∃ W5, W5 = wr := ⟨_, rfl⟩
          subst hW5
          have HSz := Lib.hid (Below.size HL.out.aft)
          clear hcu hru hsum htt hlv he2 hpl hfew
          go_wp2_with fail
          clear hcx
          go_loopw [3, 8, 33] (fun v3 v8 v33 ws => ∃ (j : Nat) (rs : List (NT k × Value)) (gs : List (NT (k + 1) × Value)), j ≤ lv.length ∧ v33 = .int .i64 (j : Int) ∧ RdF k ws (fun g => w.heap.size ≤ g ∧ g < W5.heap.size) v3 rs ∧ rs = ps.drop (frm lv j).toNat ∧ OwnF (k + 1) ws W5.heap.size (fun g => w.heap.size ≤ g ∧ g < W5.heap.size) v8 gs ∧ GrpOk lv j (ps.map Prod.fst) (gs.map Prod.fst) ∧ W5.heap.size ≤ ws.heap.size ∧ Led w ws [(w.heap.size, .cells (shpL (.slice ao ids.length cap) (.slice (some ⟨g1, o1, none⟩) ls.length dap)).toArray 25)]) (fun _ _ v _ => lv.length - (intOf v).toNat)
          case atStart => exact ⟨0, ps, [], Nat.zero_le _, rfl, HR.out, by rw [frm_zero]; rfl, OwnF.nil _ _ _ _, grpOk_zero _ _, Nat.le_refl _, HL.out⟩
          case round =>
            clear HL HR
            obtain ⟨j, rs, gs, hj, rfl, hR, hrs, hO, hG, hsz, hL⟩ := hrel
            have HL := Lib.hid hL
            have HG := Lib.hid hG
            have HO := Lib.hid hO
            have HR := Lib.hid hR
            have HRs := Lib.hid hrs
            have HZ := Lib.hid hsz
            obtain ⟨a3, c3, rfl, hc3, -⟩ := hR.shape
            obtain ⟨a8, c8, rfl⟩ := hO.shape
            have HC3 := Lib.hid hc3
            clear hL hR hO hG hrs hsz hc3
            by_cases hjl : j < lv.length
            · have hjl' : (j : Int) < (lv.length : Nat) := by omega
              have hj9 : (j : Int) ≤ 1000 := by omega
              obtain ⟨gu, ou, cu, he, -⟩ := HX.out.at (by rw [zv_length]; omega)
              injection he with he1 he2 he3
              subst he1
              have hcj := (HX.out.grow HL.out.aft).num_at hjl
              obtain ⟨m, hm, hm23⟩ : ∃ m : Nat, lv.getD j 0 = (m : Int) ∧ (m = 2 ∨ m = 3) := by
                rcases HTt.out _ (getD_memN hjl) with h | h
                · exact ⟨2, h, .inl rfl⟩
                · exact ⟨3, h, .inr rfl⟩
              obtain ⟨f, hf⟩ : ∃ f : Nat, frm lv j = (f : Int) := ⟨(frm lv j).toNat, by have := HFN.out j; omega⟩
              have hfm : f + m ≤ ps.length := by
                have h1 := HFS.out j hjl
                have h2 := HFL.out (j + 1)
                rw [HSm.out] at h2
                have h3 := HPl.out
                omega
              have hrl : rs.length = ps.length - f := by rw [HRs.out, hf, Int.toNat_natCast, List.length_drop]
              have HNg := Lib.hid (show GrpOk lv (j + 1) (ps.map Prod.fst) (gs.map Prod.fst ++ [grpT ((rs.take m).map Prod.fst)]) by
                have h := grpOk_succ HG.out hjl hm hf hm23 (by rw [List.length_map]; exact hfm) HWf.out
                rw [HRs.out, hf, Int.toNat_natCast, List.map_take, List.map_drop]
                exact h)
              have HNr := Lib.hid (show rs.drop m = ps.drop (frm lv (j + 1)).toNat by
                rw [HRs.out, List.drop_drop, HFS.out j hjl, hm, hf]
                congr 1)
              rw [hm] at hcj
              have hm9 : (m : Int) ≤ 3 := by omega
              have hc3 := HC3.out
              have hw3 := fun wx => run_wholeK (ao := a3) (len := rs.length) (cap := c3) (n := m) (by omega) wx
              obtain ⟨ay, hay⟩ : ∃ ay : Option Addr, ay = (if c3 = m then a3 else a3.map (·.add (m * 2))) := ⟨_, rfl⟩
              have hf3 : ∀ wx, (Instr.slice 112 (.slice a3 rs.length c3) (some (.int .i64 (m : Int))) none none).run Try.prog wx = .ok (.slice ay (rs.length - m) (c3 - m)) wx := fun wx => by
                rw [hay]
                exact run_fromK (n := m) (by omega) wx
              have HK1 := Lib.hid (HR.out.to (n := m) (c := m) (by omega) (Nat.le_refl _) (by omega)).kd
              have HK2 := Lib.hid (show RdF k wr (fun g => w.heap.size ≤ g ∧ g < W5.heap.size) (.slice ay (rs.length - m) (c3 - m)) (rs.drop m) by rw [hay]; exact HR.out.from (n := m) (by omega))
              have hgl : gs.length ≤ 1000 := by
                have := congrArg List.length HG.out.lens
                unfold lensT at this
                rw [List.length_map, List.length_map, List.length_take] at this
                omega
              have HGl := Lib.hid hgl
              have HGr := Lib.hid (show gs.map Prod.fst ++ [grpT ((rs.take m).map Prod.fst)] = (gs ++ [(grpT ((rs.take m).map Prod.fst), Value.slice a3 m m)]).map Prod.fst by rw [List.map_append]; rfl)
              generalize grpT ((rs.take m).map Prod.fst) = tg at *
              generalize rs.drop m = rd at *
              clear he2 he3 hf hm hm23 hfm hrl hay hc3 hgl
              go_wp2_with (first | (refine wpList_rn1 (by kernel_rfl) (.tmp 42) 0 (.slice a3 m m) rfl rfl ?_; intro wJ q1 q2; have HOJ := Lib.hid (HO.out.aft q1); have HLJ := Lib.hid (HL.out.call q1); have HZJ := Lib.hid (Nat.le_trans HZ.out (Below.size q1)); have HKJ := Lib.hid (HK2.out.aft q1); have HRJ := Lib.hid (OwnF.blk (d := k + 1) (base := wr.heap.size) (B := fun g => w.heap.size ≤ g ∧ g < W5.heap.size) (ps := [(tg, .slice a3 m m)]) q2.out (Nat.le_refl _) (by show 1 ≤ 1000; decide) (fun p hp => by rw [List.mem_singleton.1 hp]; exact HK1.out.aft q1)); clear q1 q2 hcj) | (at_builtin; refine wpList_appK (d := k + 1) rfl (.tmp 37) (.tmp 43) rfl W5.heap.size (fun g => w.heap.size ≤ g ∧ g < W5.heap.size) _ gs rfl HOJ.out (fun g hg q => absurd q.2 (Nat.not_lt.2 (HOJ.out.row.lt g hg).1)) _ [(tg, .slice a3 m m)] rfl HRJ.out.row.rd HRJ.out.kid (by have := HGl.out; simp only [List.length_cons, List.length_nil]; omega) HZJ.out ?_; intro v1 wA k1 k2 k3; have HOA := Lib.hid (k1.out.monoB (B' := fun g => w.heap.size ≤ g ∧ g < W5.heap.size) (fun _ hg _ => hg.1)); have HLA := Lib.hid (Led.frR HLJ.out HOJ.out.row.2 HSz.out k2.out rfl); have HZA := Lib.hid (Nat.le_trans HZJ.out k2.out.size); have HKA := Lib.hid (HKJ.out.keep (fun g hg hl => k2.out.block g hl (fun e => absurd hg.2 (Nat.not_lt.2 (HOJ.out.row.lt g e).1))) k2.out.size); clear k1 k2 k3))
              go_roundw
              case rel => exact ⟨j + 1, rd, gs ++ [(tg, .slice a3 m m)], by omega, by go_num, HKA.out, HNr.out, HOA.out, by rw [← HGr.out]; exact HNg.out, HZA.out, HLA.out⟩
              case measure => simp [intOf]; omega
            · obtain rfl : j = lv.length := by omega
              have hjl' : ¬ ((lv.length : Nat) : Int) < (lv.length : Nat) := by omega
              have HN2 := Lib.hid (HNx.out _ HG.out)
              have HR2 := Lib.hid (HO.out.rd.mono (B' := fun g => w.heap.size ≤ g) (fun g hg _ => by
                rcases hg with h | h
                · exact h.1
                · exact Nat.le_trans HSz.out (HO.out.row.lt g h).1))
              go_wp2_with fail
              go_roundw
              case rel => exact ⟨k + 1, gs, by omega, by go_num, HR2.out, HN2.out, HL.out⟩
              case measure => simp [intOf]; omega
        · obtain rfl : k = ls.length := by omega
          have hlt' : ¬ ((ls.length : Nat) : Int) < (ls.length : Nat) := by omega
          clear hpl
          go_wp2_with fail
          go_ret
          exact ⟨_, ps, rfl, HR.out.mono (fun g hg _ => hg.1), HNo.out, HL.out.aft⟩
end Go.Proofs.Ytfgammcefaomeaa
