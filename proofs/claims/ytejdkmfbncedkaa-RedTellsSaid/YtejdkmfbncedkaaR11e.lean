/- coterieref11: Beside, High. -/
import Derived.Test.YtejdkmfbncedkaaR11d
import Derived.Test.YtejdkmfbncedkaaRH
namespace Go.Proofs.Ytejdkmfbncedkaa
open Go Go.RowKit
set_option linter.unusedSimpArgs false
/-- Whether one of the first is a number. -/
def inT (W : List Int) (z : Int) (n : Nat) : Bool := (W.take n).contains z
theorem inT_succ (W : List Int) (z : Int) {n : Nat} (h : n < W.length) : inT W z (n + 1) = (inT W z n || W.getD n 0 == z) := by
  unfold inT
  rw [List.take_add_one, List.getElem?_eq_getElem h, List.getD_eq_getElem?_getD, List.getElem?_eq_getElem h]
  show (W.take n ++ [W[n]]).contains z = ((W.take n).contains z || W[n] == z)
  rw [Bool.eq_iff_iff]
  simp only [List.contains_iff_mem, List.mem_append, List.mem_singleton, Bool.or_eq_true, beq_iff_eq]
  constructor
  · rintro (h | h)
    · exact .inl h
    · exact .inr h.symm
  · rintro (h | h)
    · exact .inl h
    · exact .inr h.symm
theorem take_filt (ks : List Int) (p : Int → Bool) {j : Nat} (h : j < ks.length) : (ks.take (j + 1)).filter p = (ks.take j).filter p ++ (if p (ks.getD j 0) then [ks.getD j 0] else []) := by
  have h4 : ks.take (j + 1) = ks.take j ++ [ks.getD j 0] := by
    rw [List.take_add_one, List.getElem?_eq_getElem h, List.getD_eq_getElem?_getD, List.getElem?_eq_getElem h]
    rfl
  rw [h4, List.filter_append]
  congr 1
  rw [List.filter_cons]
  rfl
set_option maxRecDepth 100000 in
set_option maxHeartbeats 4000000 in
theorem rBesideD_any (kind : Int) (vi vl : Value) (ids : List Int) (ls : List (List Int)) (id : Int) (w : World) (hi : Rd w vi (zv ids)) (hl : RdLs w vl ls) (hs : Small ids ls) :
    Calls Try.prog 33 #[.int .i64 kind, .agg (shpL vi vl).toArray, .int .i64 id] w (RBesSays kind ids ls id w) := by
  have HPt := Lib.hid (fun (wx : World) (ha : Aft w wx) => rPathD_any kind vi vl ids ls id wx (hi.grow ha) (hl.aft ha) hs)
  have HNd := Lib.hid (fun (wx : World) (ha : Aft w wx) => rNodes_any kind vi vl ids ls wx (hi.grow ha) (hl.aft ha) hs)
  obtain ⟨ao, cap, rfl, -, -⟩ := hi.numS
  obtain ⟨bo, dap, rfl, -⟩ := hl.shape
  have HL := Lib.hid (Led.start w)
  clear hi hl hs
  go_enter Try.func33, Try.ntmps33
  go_wp2_with (first | (refine wpList_boxO rfl 26 (.tmp 1) rfl (.agg (shpL (.slice ao ids.length cap) (.slice bo ls.length dap)).toArray) rfl (.cells (shpL (.slice ao ids.length cap) (.slice bo ls.length dap)).toArray 26) (box_shp _) ?_; intro w' aa gg zz; replace HL := Lib.hid (HL.out.alloc aa gg.out); clear aa gg zz; try simp only [List.nil_append, List.cons_append, List.set_cons_zero, List.set_cons_succ] at HL) | (refine wpList_load_rowG (by kernel_rfl) 26 (.tmp 4) rfl _ rfl _ _ _ _ (HL.out.get 0 rfl) Try.underlying26 rfl (shp_info _ _) ?_))
  refine (HPt.out _ HL.out.aft).mono ?_
  rintro e w2 ⟨vw, rfl, ho, h2⟩
  have HSz := Lib.hid (Nat.le_trans (Below.size HL.out.aft) (Below.size h2))
  obtain ⟨wa, wc, rfl⟩ := ho.shape
  have HO := Lib.hid ho
  replace HL := Lib.hid (HL.out.call h2)
  clear ho h2 HPt
  by_cases h0 : rpathE kind ids ls id = 0
  rotate_left
  · have hb1 : (rpathE kind ids ls id != 0) = true := by simp [h0]
    have HE := Lib.hid (show rbesW kind ids ls id = [] from if_neg h0)
    generalize hpe : rpathE kind ids ls id = pe at *
    have HPe := Lib.hid hpe
    generalize rpathW kind ids ls id = W at *
    clear h0 hpe
    go_wp2_with fail
    go_ret2
    exact ⟨_, by rw [HPe.out]; rfl, by rw [HE.out]; exact OwnI.nil _ _, HL.out.aft⟩
  have HZ := Lib.hid h0
  have hm0 : mayE kind ids ls = 0 := by
    unfold rpathE at h0
    split at h0
    · assumption
    · cases h0
  have hin : id ∈ ids := by
    unfold rpathE at h0
    rw [if_pos hm0] at h0
    split at h0
    · assumption
    · cases h0
  have hok := (mayE_zero.1 hm0).2
  have ha := cnt_lt hok.1.2.2 hin
  have hz : ¬ ids.length = 0 := by omega
  obtain ⟨i0, hi0, hl0, how⟩ := ways_on (kind := kind) hok ha
  have hW : rpathW kind ids ls id = wayN (nodesL kind ids ls) (nodesL kind ids ls).length (leafI (cnt ids id : Nat) (nodesL kind ids ls)) := if_pos h0
  rw [← hW] at how
  have HB := Lib.hid (show rbesW kind ids ls id = besDT (nodesL kind ids ls) (rpathW kind ids ls id) (rpathW kind ids ls id).length by
    have h1 := beside_eq how (fun k hk => nodes_lt hok hz hk) ((rpathW kind ids ls id).length - 1) (Nat.sub_lt how.spec.pos Nat.one_pos)
    rw [show (rpathW kind ids ls id).length - 1 + 1 = (rpathW kind ids ls id).length from Nat.sub_add_cancel how.spec.pos] at h1
    rw [h1]
    exact if_pos h0)
  have HWin := Lib.hid (show ∀ j, j < (rpathW kind ids ls id).length → ∃ k : Nat, (rpathW kind ids ls id).getD j 0 = (k : Int) ∧ k < (nodesL kind ids ls).length from fun j hj => by
    obtain ⟨k, h1, h2, -⟩ := how.hold hj
    exact ⟨k, h1, h2⟩)
  have HK3 := Lib.hid (fun k => nodes_k3 (kind := kind) hok k)
  have hwl2 := wayN_length (nodesL kind ids ls) (nodesL kind ids ls).length (leafI (cnt ids id : Nat) (nodesL kind ids ls))
  rw [← hW] at hwl2
  have hnl : (nodesL kind ids ls).length ≤ 90000 := by
    have h := (below_length kind ls ls.length 0 []).2
    have h9 : 3 ^ ls.length ≤ 3 ^ 9 := Nat.pow_le_pow_right (by decide) (lv_nine2 hok)
    unfold nodesL
    split
    · simp
    · simp only [List.length_nil] at h
      omega
  have HWl := Lib.hid (Nat.le_trans hwl2 hnl)
  have HNl := Lib.hid hnl
  have HM := Lib.hid hm0
  rw [h0]
  clear h0 hin hok ha hz hi0 hl0 how hW hwl2 hnl hm0
  go_wp2_with (first | (refine wpList_load_rowG (by kernel_rfl) 26 (.tmp 4) rfl _ rfl _ _ _ _ (HL.out.get 0 rfl) Try.underlying26 rfl (shp_info _ _) ?_))
  refine (HNd.out _ HL.out.aft).mono ?_
  rintro e w4 ⟨v4, ps, rfl, ho4, hf4, h4⟩
  rw [if_pos HM.out] at hf4
  rw [HM.out]
  obtain ⟨x4, y4, rfl⟩ := ho4.shape
  replace HL := Lib.hid (HL.out.call h4)
  replace HO := Lib.hid (HO.out.aft h4)
  have HN := Lib.hid ho4
  have HG := Lib.hid (fun k => show (nodesL kind ids ls).getD k nd0 = (ps.getD k ndP).1 by rw [← hf4]; exact fst_getD ps k)
  have HLn := Lib.hid (show (nodesL kind ids ls).length = ps.length by rw [← hf4, List.length_map])
  have HSz4 := Lib.hid (Nat.le_trans HSz.out (Below.size h4))
  generalize rpathW kind ids ls id = W at *
  generalize nodesL kind ids ls = N at *
  have hwl : W.length ≤ 90000 := HWl.out
  clear h4 ho4 hf4 HNd
  go_wp2_with fail
  go_loopw [12, 38] (fun v12 v38 wr => ∃ n : Nat, n ≤ W.length ∧ v38 = .int .i64 (n : Int) ∧ OwnI wr w4.heap.size v12 (besDT N W n) ∧ Aft w4 wr) (fun _ v _ => W.length - (intOf v).toNat)
  case atStart => exact ⟨0, Nat.zero_le _, rfl, OwnI.nil _ _, Aft.refl _⟩
  case round =>
    obtain ⟨n, hn, rfl, hO, hA⟩ := hrel
    have HOu := Lib.hid hO
    have HA := Lib.hid hA
    obtain ⟨oa, oc, rfl⟩ := hO.shape
    clear hO hA
    by_cases hlt : n < W.length
    · have hlt' : (n : Int) < (W.length : Nat) := by omega
      obtain ⟨kk, hkk, hkl⟩ := HWin.out n hlt
      rw [HLn.out] at hkl
      obtain ⟨gw, cw, he, -, hcw⟩ := HO.out.atA (by omega)
      injection he with he1 he2 he3
      subst he1 he3
      have hc1 := hcw wr HA.out n hlt
      rw [hkk] at hc1
      have HCw := Lib.hid hcw
      obtain ⟨g4, c4, he, -, hc4⟩ := HN.out.atA hkl
      injection he with he1 he4 he3
      subst he1 he3
      have hc2 := hc4 wr HA.out 5 _ rfl
      have hkl' : (kk : Int) < (ps.length : Nat) := by omega
      have hown := HN.out.own (ps.getD kk ndP) (by rw [List.getD_eq_getElem?_getD, List.getElem?_eq_getElem hkl]; exact List.getElem_mem hkl)
      have HBf := Lib.hid (show besDT N W (n + 1) = besDT N W n ++ (ps.getD kk ndP).1.ks.filter (fun z => !(W.contains z)) by
        show besDT N W n ++ besD N W n = _
        unfold besD
        rw [hkk, Int.toNat_natCast, HG.out])
      have h3 := HK3.out kk
      rw [HG.out] at h3
      have hbl := besDT_length HK3.out W n
      generalize (ps.getD kk ndP).1.ks = ks at *
      generalize (ps.getD kk ndP).2 = kv at *
      obtain ⟨ka, kc, rfl⟩ := hown.shape
      have HKo := Lib.hid hown
      have hn9 : n ≤ 90000 := by omega
      clear he2 he4 hcw hc4 hown hkk
      go_wp2_with fail
      go_loopw [12, 48] (fun v12 v48 ws => ∃ j : Nat, j ≤ ks.length ∧ v48 = .int .i64 (j : Int) ∧ OwnI ws w4.heap.size v12 (besDT N W n ++ (ks.take j).filter (fun z => !(W.contains z))) ∧ Aft w4 ws) (fun _ v _ => ks.length - (intOf v).toNat)
      case atStart => exact ⟨0, by omega, rfl, by rw [List.take_zero, List.filter_nil, List.append_nil]; exact HOu.out, HA.out⟩
      case round =>
        obtain ⟨j, hj, rfl, hO, hA⟩ := hrel
        have HOs := Lib.hid hO
        have HAs := Lib.hid hA
        obtain ⟨pa, pc, rfl⟩ := hO.shape
        clear hO hA
        by_cases hjl : j < ks.length
        · have hjl' : (j : Int) < (ks.length : Nat) := by omega
          obtain ⟨gk, ck, he, -, hck⟩ := HKo.out.atA (by omega)
          injection he with he1 he2 he3
          subst he1 he3
          have hc3 := hck wr HAs.out j hjl
          have HT := Lib.hid (take_filt ks (fun z => !(W.contains z)) hjl)
          have hfl := List.length_filter_le (fun z => !(W.contains z)) (ks.take j)
          have hol : (besDT N W n ++ (ks.take j).filter (fun z => !(W.contains z))).length ≤ 16777216 := by
            rw [List.length_append]
            rw [List.length_take] at hfl
            omega
          have HOl := Lib.hid hol
          clear he2 hck hfl hol
          generalize hq : besDT N W n ++ (ks.take j).filter (fun z => !(W.contains z)) = out at *
          have HQ := Lib.hid hq
          clear hq
          generalize hz : ks.getD j 0 = z at *
          clear hz
          go_wp2_with fail
          go_loopw [17, 54] (fun v17 v54 wt => ∃ q : Nat, q ≤ W.length ∧ v54 = .int .i64 (q : Int) ∧ v17 = .bool (inT W z q) ∧ wt = wr) (fun _ v _ => W.length - (intOf v).toNat)
          case atStart => exact ⟨0, Nat.zero_le _, rfl, rfl, rfl⟩
          case round =>
            obtain ⟨q, hq, rfl, rfl, rfl⟩ := hrel
            by_cases hql : q < W.length
            · have hql' : (q : Int) < (W.length : Nat) := by omega
              have hc5 := HCw.out wr HAs.out q hql
              have HI := Lib.hid (inT_succ W z hql)
              generalize W.getD q 0 = y at *
              cases hb : inT W z q with
              | true =>
                rw [hb] at HI
                clear hb
                go_wp2_with fail
                go_roundw
                case rel => exact ⟨q + 1, by omega, by go_num, by rw [HI.out]; rfl, by trivial⟩
                case measure => simp [intOf]; omega
              | false =>
                rw [hb] at HI
                clear hb
                go_wp2_with fail
                go_roundw
                case rel => exact ⟨q + 1, by omega, by go_num, by rw [HI.out]; rfl, by trivial⟩
                case measure => simp [intOf]; omega
            · obtain rfl : q = W.length := by omega
              have hql' : ¬ ((W.length : Nat) : Int) < (W.length : Nat) := by omega
              have HIw := Lib.hid (show inT W z W.length = W.contains z by unfold inT; rw [List.take_length])
              rw [HIw.out]
              cases hb : W.contains z with
              | true =>
                rw [hb] at HT
                have HT2 := Lib.hid (HT.out.trans (show (ks.take j).filter (fun z => !(W.contains z)) ++ _ = (ks.take j).filter (fun z => !(W.contains z)) by rw [if_neg (by decide)]; exact List.append_nil _))
                clear hb HIw HT
                go_wp2_with fail
                go_roundw
                case rel => exact ⟨j + 1, by omega, by go_num, by rw [HT2.out, HQ.out]; exact HOs.out, HAs.out⟩
                case measure => simp [intOf]; omega
              | false =>
                rw [hb] at HT
                have HT2 := Lib.hid (HT.out.trans (by rw [if_pos (by decide)]))
                clear hb HIw HT
                go_wp2_with (first | (refine wpList_intSlice (by kernel_rfl) (.tmp 68) z rfl rfl ?_; intro wB aB gB; have HOb := Lib.hid (HOs.out.aft aB); have HAb := Lib.hid (Aft.trans HAs.out aB); clear aB) | (at_builtin; refine wpList_snocI rfl (.tmp 67) (.tmp 69) rfl w4.heap.size _ out rfl HOb.out wr.heap.size z rfl gB.out HOl.out (Below.size HAb.out) ?_; intro g6 c6 wC t1 t2 t3; have HAc := Lib.hid (aft_fr HAb.out HOb.out (Nat.le_refl _) t2.out)))
                go_roundw
                case rel => exact ⟨j + 1, by omega, by go_num, by rw [HT2.out, ← List.append_assoc, HQ.out]; exact t1.out, HAc.out⟩
                case measure => simp [intOf]; omega
        · obtain rfl : j = ks.length := by omega
          have hjl' : ¬ ((ks.length : Nat) : Int) < (ks.length : Nat) := by omega
          have HEq := Lib.hid (show besDT N W (n + 1) = besDT N W n ++ (ks.take ks.length).filter (fun z => !(W.contains z)) by rw [List.take_length]; exact HBf.out)
          go_wp2_with fail
          go_roundw
          case rel => exact ⟨n + 1, by omega, by go_num, by rw [HEq.out]; exact HOs.out, HAs.out⟩
          case measure => simp [intOf]; omega
    · obtain rfl : n = W.length := by omega
      have hlt' : ¬ ((W.length : Nat) : Int) < (W.length : Nat) := by omega
      go_wp2_with fail
      go_ret2
      refine ⟨_, by rw [HZ.out]; rfl, ?_, Aft.trans HL.out.aft HA.out⟩
      rw [HB.out]
      exact HOu.out.mono HSz4.out
set_option maxRecDepth 100000 in
set_option maxHeartbeats 2000000 in
theorem rHighD_any (kind : Int) (vi vl : Value) (ids : List Int) (ls : List (List Int)) (w : World) (hi : Rd w vi (zv ids)) (hl : RdLs w vl ls) (hs : Small ids ls) :
    Calls Try.prog 34 #[.int .i64 kind, .agg (shpL vi vl).toArray] w fun e w' => e = .returned (.tuple #[.int .i64 (highN kind ids ls), .int .i64 (mayE kind ids ls)]) ∧ Aft w w' := by
  have HMy := Lib.hid (fun (wx : World) (ha : Aft w wx) => rmay_any kind vi vl ids ls wx (hi.grow ha) (hl.aft ha) hs)
  have HPt := Lib.hid (fun (id : Int) (wx : World) (ha : Aft w wx) => rPathD_any kind vi vl ids ls id wx (hi.grow ha) (hl.aft ha) hs)
  have HI := Lib.hid hi
  obtain ⟨ao, cap, rfl, -, -⟩ := hi.numS
  obtain ⟨bo, dap, rfl, -⟩ := hl.shape
  have HL := Lib.hid (Led.start w)
  clear hi hl hs
  go_enter Try.func34, Try.ntmps34
  go_wp2_with (first | (refine wpList_boxO rfl 26 (.tmp 1) rfl (.agg (shpL (.slice ao ids.length cap) (.slice bo ls.length dap)).toArray) rfl (.cells (shpL (.slice ao ids.length cap) (.slice bo ls.length dap)).toArray 26) (box_shp _) ?_; intro w' aa gg zz; replace HL := Lib.hid (HL.out.alloc aa gg.out); clear aa gg zz; try simp only [List.nil_append, List.cons_append, List.set_cons_zero, List.set_cons_succ] at HL) | (refine wpList_load_rowG (by kernel_rfl) 26 (.tmp 3) rfl _ rfl _ _ _ _ (HL.out.get 0 rfl) Try.underlying26 rfl (shp_info _ _) ?_))
  refine (HMy.out _ HL.out.aft).mono ?_
  rintro e w2 ⟨rfl, h2⟩
  replace HL := Lib.hid (HL.out.call h2)
  clear h2 HMy
  by_cases h0 : mayE kind ids ls = 0
  rotate_left
  · have h1 : mayE kind ids ls = 1 := (mayE_or kind ids ls).resolve_left h0
    have HZ := Lib.hid h1
    have HH := Lib.hid (show highN kind ids ls = 0 from if_neg h0)
    rw [decide_eq_false h0]
    clear h0 h1
    go_wp2_with fail
    go_ret2
    exact ⟨by rw [HZ.out, HH.out]; rfl, HL.out.aft⟩
  obtain ⟨hk, hok⟩ := mayE_zero.1 h0
  have HZ := Lib.hid h0
  have HH := Lib.hid (show highN kind ids ls = rhiT kind ids ls ids.length by rw [rhi_eq hk hok]; exact if_pos h0)
  have HNn := Lib.hid (fun j => rhiT_nn kind ids ls j)
  have HWl := Lib.hid (show ∀ id, (rpathW kind ids ls id).length ≤ 90000 from fun id => by
    have hwl2 := wayN_length (nodesL kind ids ls) (nodesL kind ids ls).length (leafI (cnt ids id : Nat) (nodesL kind ids ls))
    have hnl : (nodesL kind ids ls).length ≤ 90000 := by
      have h := (below_length kind ls ls.length 0 []).2
      have h9 : 3 ^ ls.length ≤ 3 ^ 9 := Nat.pow_le_pow_right (by decide) (lv_nine2 hok)
      unfold nodesL
      split
      · simp
      · simp only [List.length_nil] at h
        omega
    unfold rpathW
    split
    · omega
    · simp)
  rw [decide_eq_true h0]
  have hci := shp_i (HL.out.get 0 rfl)
  clear h0 hk hok
  go_wp2_with fail
  clear hci
  go_loopw [6, 18] (fun v6 v18 wr => ∃ j : Nat, j ≤ ids.length ∧ v18 = .int .i64 (j : Int) ∧ v6 = .int .i64 (rhiT kind ids ls j) ∧ Led w wr [(w.heap.size, .cells (shpL (.slice ao ids.length cap) (.slice bo ls.length dap)).toArray 26)]) (fun _ v _ => ids.length - (intOf v).toNat)
  case atStart => exact ⟨0, Nat.zero_le _, rfl, rfl, HL.out⟩
  case round =>
    clear HL
    obtain ⟨j, hj, rfl, rfl, hL⟩ := hrel
    have HL := Lib.hid hL
    clear hL
    by_cases hlt : j < ids.length
    · have hlt' : (j : Int) < (ids.length : Nat) := by omega
      obtain ⟨gi, oi, ci, he, -⟩ := HI.out.at (by rw [zv_length]; omega)
      injection he with he1 he2 he3
      subst he1
      have hcj := (HI.out.grow HL.out.aft).num_at hlt
      have hil : ids.length ≤ 9223372036854775807 := by
        obtain ⟨_, _, _, h1, h2⟩ := HI.out.numS
        omega
      have HP := Lib.hid (HPt.out (ids.getD j 0))
      have HRs := Lib.hid (show rhiT kind ids ls (j + 1) = max (rhiT kind ids ls j) ((rpathW kind ids ls (ids.getD j 0)).length - 1) from rfl)
      have HW9 := Lib.hid (HWl.out (ids.getD j 0))
      generalize ids.getD j 0 = id at *
      generalize rhiT kind ids ls j = rj at *
      clear he2 he3
      go_wp2_with (first | (refine wpList_load_rowG (by kernel_rfl) 26 (.tmp 3) rfl _ rfl _ _ _ _ (HL.out.get 0 rfl) Try.underlying26 rfl (shp_info _ _) ?_))
      refine (HP.out _ HL.out.aft).mono ?_
      rintro e w5 ⟨v5, rfl, ho5, h5⟩
      obtain ⟨a5, c5, rfl⟩ := ho5.shape
      replace HL := Lib.hid (HL.out.call h5)
      clear h5 ho5 hcj HP
      have hw9 := HW9.out
      generalize rpathE kind ids ls id = pe at *
      have hwr : wrap64 (((rpathW kind ids ls id).length : Int) - 1) = ((rpathW kind ids ls id).length : Int) - 1 := by
        generalize (rpathW kind ids ls id).length = n at *
        unfold wrap64
        omega
      generalize rpathW kind ids ls id = W at *
      go_wp2_with fail
      go_roundw
      case rel => exact ⟨j + 1, by omega, by go_num, by rw [HRs.out], HL.out⟩
      case measure => simp [intOf]; omega
    · obtain rfl : j = ids.length := by omega
      have hlt' : ¬ ((ids.length : Nat) : Int) < (ids.length : Nat) := by omega
      go_wp2_with fail
      go_ret2
      exact ⟨by rw [HZ.out, HH.out]; rfl, HL.out.aft⟩
end Go.Proofs.Ytejdkmfbncedkaa
