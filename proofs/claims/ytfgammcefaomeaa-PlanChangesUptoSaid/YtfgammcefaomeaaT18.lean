/- Check and Find of the document of law 10. -/
import Derived.Test.YtfgammcefaomeaaB3
namespace Go.Proofs.Ytfgammcefaomeaa
open Go Go.RowKit
set_option linter.unusedSimpArgs false
set_option maxRecDepth 100000 in
set_option maxHeartbeats 4000000 in
theorem rfind_any (vi vl : Value) (ids : List Int) (id : Int) (w : World) (h : Rd w vi (zv ids)) (hl : ids.length ≤ 1048576) :
    Calls Try.prog 79 #[.agg (shpL vi vl).toArray, .int .i64 id] w fun e w' => e = .returned (.tuple #[.int .i64 (cnt ids id : Nat), .bool (decide (id ∈ ids))]) ∧ Aft w w' := by
  obtain ⟨ao, cap, rfl, -, -⟩ := h.numS
  have HR := Lib.hid (fun (wx : World) (hx : Aft w wx) => h.grow hx)
  have HS := Lib.hid (fun i (hi : i < ids.length) => cnt_take (id := id) hi)
  have HL := Lib.hid (Led.start w)
  clear h
  go_enter Try.func79, Try.ntmps79
  go_wp2_with (first | (refine wpList_boxO rfl 25 (.tmp 0) rfl (.agg (shpL (.slice ao ids.length cap) vl).toArray) rfl (.cells (shpL (.slice ao ids.length cap) vl).toArray 25) (box_shp _) ?_; intro w' aa gg zz; replace HL := Lib.hid (HL.out.alloc aa gg.out); clear aa gg zz; try simp only [List.nil_append, List.cons_append, List.set_cons_zero, List.set_cons_succ] at HL; have hi0 := shp_i (HL.out.get 0 rfl)))
  clear hi0
  go_loopw [6, 7, 13] (fun v6 v7 v13 wr => ∃ i : Nat, i ≤ ids.length ∧ v13 = .int .i64 (i : Int) ∧ v6 = .int .i64 (cnt (ids.take i) id : Nat) ∧ v7 = .bool (decide (id ∈ ids.take i)) ∧ Led w wr [(w.heap.size, .cells (shpL (.slice ao ids.length cap) vl).toArray 25)]) (fun _ _ v _ => ids.length - (intOf v).toNat)
  case atStart => exact ⟨0, by omega, rfl, by simp [cnt], by simp, HL.out⟩
  case round =>
    clear HL
    obtain ⟨i, hi, rfl, rfl, rfl, hL⟩ := hrel
    have HL := Lib.hid hL
    clear hL
    by_cases hlt : i < ids.length
    · have hlt' : (i : Int) < (ids.length : Nat) := by omega
      obtain ⟨b, o, rfl, -, -⟩ := (HR.out _ HL.out.aft).some_of (by rw [zv_length]; omega)
      have hc := (HR.out _ HL.out.aft).num_at hlt
      have hcn := cnt_le (ids.take i) id
      rw [List.length_take] at hcn
      have hss := HS.out i hlt
      have HM := Lib.hid (show decide (id ∈ ids.take (i + 1)) = (decide (id ∈ ids.take i) || decide (ids.getD i 0 = id)) by
        rw [← Bool.decide_or]
        refine decide_eq_decide.2 ?_
        rw [List.take_succ_eq_append_getElem hlt, List.mem_append, List.mem_singleton, List.getD_eq_getElem?_getD, List.getElem?_eq_getElem hlt]
        exact or_congr_right ⟨fun q => q.symm, fun q => q.symm⟩)
      obtain ⟨f1, hf1⟩ : ∃ f1, f1 = cnt (ids.take (i + 1)) id := ⟨_, rfl⟩
      rw [← hf1] at hss
      have HF1 := Lib.hid hf1
      clear hf1
      generalize cnt (ids.take i) id = n at *
      generalize decide (id ∈ ids.take i) = b0 at *
      generalize ids.getD i 0 = x at *
      rcases Int.lt_trichotomy x id with hq | hq | hq
      · rw [if_pos hq] at hss
        have HE := Lib.hid hss
        have hne : ¬ x = id := by omega
        have HN := Lib.hid hne
        clear hss
        cases b0
        all_goals
          go_wp2_with fail
          go_roundw
          case rel => exact ⟨i + 1, by omega, by go_num, by rw [← HF1.out, HE.out]; go_num, by rw [HM.out, decide_eq_false HN.out]; simp [HN.out], HL.out⟩
          case measure => simp [intOf]; omega
      · subst hq
        rw [if_neg (Int.lt_irrefl _), Nat.add_zero] at hss
        have HE := Lib.hid hss
        clear hss
        cases b0
        all_goals
          go_wp2_with fail
          go_roundw
          case rel => exact ⟨i + 1, by omega, by go_num, by rw [← HF1.out, HE.out], by rw [HM.out, decide_eq_true rfl]; rfl, HL.out⟩
          case measure => simp [intOf]; omega
      · have hq2 : ¬ x < id := by omega
        rw [if_neg hq2, Nat.add_zero] at hss
        have HE := Lib.hid hss
        have hne : ¬ x = id := by omega
        have HN := Lib.hid hne
        clear hss
        cases b0
        all_goals
          go_wp2_with fail
          go_roundw
          case rel => exact ⟨i + 1, by omega, by go_num, by rw [← HF1.out, HE.out], by rw [HM.out, decide_eq_false HN.out]; simp [HN.out], HL.out⟩
          case measure => simp [intOf]; omega
    · obtain rfl : i = ids.length := by omega
      have hlt' : ¬ ((ids.length : Nat) : Int) < (ids.length : Nat) := by omega
      rw [List.take_length]
      go_wp2_with fail
      go_ret2
      exact ⟨rfl, HL.out.aft⟩
theorem okLv_bad {m : Int} {l : List Int} {rest : List (List Int)} (h : okLv m (l :: rest) = true) : (∀ x ∈ l, x = 2 ∨ x = 3) ∧ l.sum = m ∧ 2 ≤ m := by
  obtain ⟨h1, h2, h3, -⟩ := okLv_cons h
  exact ⟨h2, h3, h1⟩
set_option maxRecDepth 100000 in
set_option maxHeartbeats 4000000 in
theorem rcheck_any (vi vl : Value) (ids : List Int) (ls : List (List Int)) (w : World) (hi : Rd w vi (zv ids)) (hl : RdLs w vl ls) (hs : Small ids ls) :
    Calls Try.prog 43 #[.agg (shpL vi vl).toArray] w fun e w' => e = .returned (.int .i64 (chkT ids ls)) ∧ Aft w w' := by
  obtain ⟨ao, cap, rfl, -, -⟩ := hi.numS
  obtain ⟨bo, dap, rfl, -⟩ := hl.shape
  have HI := Lib.hid (fun (wx : World) (hx : Aft w wx) => hi.grow hx)
  have HV := Lib.hid (fun (wx : World) (hx : Aft w wx) => hl.aft hx)
  have HS := Lib.hid hs
  have HL := Lib.hid (Led.start w)
  clear hi hl hs
  go_enter Try.func43, Try.ntmps43
  by_cases h1 : (1000 : Int) < (ids.length : Nat)
  · have HR := Lib.hid (show chkT ids ls = 1 from chk_bad fun q => by have := q.1.1; omega)
    rw [HR.out]
    go_wp2_with (first | (refine wpList_boxO rfl 25 (.tmp 0) rfl (.agg (shpL (.slice ao ids.length cap) (.slice bo ls.length dap)).toArray) rfl (.cells (shpL (.slice ao ids.length cap) (.slice bo ls.length dap)).toArray 25) (box_shp _) ?_; intro w' aa gg zz; replace HL := Lib.hid (HL.out.alloc aa gg.out); clear aa gg zz; try simp only [List.nil_append, List.cons_append, List.set_cons_zero, List.set_cons_succ] at HL; have hi0 := shp_i (HL.out.get 0 rfl)))
    go_ret
    exact ⟨rfl, HL.out.aft⟩
  have HLen := Lib.hid (show ids.length ≤ 1000 by omega)
  go_wp2_with (first | (refine wpList_boxO rfl 25 (.tmp 0) rfl (.agg (shpL (.slice ao ids.length cap) (.slice bo ls.length dap)).toArray) rfl (.cells (shpL (.slice ao ids.length cap) (.slice bo ls.length dap)).toArray 25) (box_shp _) ?_; intro w' aa gg zz; replace HL := Lib.hid (HL.out.alloc aa gg.out); clear aa gg zz; try simp only [List.nil_append, List.cons_append, List.set_cons_zero, List.set_cons_succ] at HL; have hi0 := shp_i (HL.out.get 0 rfl)))
  clear hi0
  go_loopw [18] (fun v18 wr => ∃ i : Nat, i ≤ ids.length ∧ v18 = .int .i64 (i : Int) ∧ (∀ j, j < i → 0 ≤ ids.getD j 0 ∧ ids.getD j 0 ≤ 1048576) ∧ (∀ j, j + 1 < i → ids.getD j 0 < ids.getD (j + 1) 0) ∧ Led w wr [(w.heap.size, .cells (shpL (.slice ao ids.length cap) (.slice bo ls.length dap)).toArray 25)]) (fun v _ => ids.length - (intOf v).toNat)
  case atStart => exact ⟨0, by omega, rfl, fun j hj => absurd hj (Nat.not_lt_zero _), fun j hj => absurd hj (Nat.not_lt_zero _), HL.out⟩
  case round =>
    clear HL
    obtain ⟨i, hi, rfl, hfr, hrs, hL⟩ := hrel
    have HL := Lib.hid hL
    have HRs := Lib.hid hrs
    have HFr := Lib.hid hfr
    clear hL hrs hfr
    by_cases hlt : i < ids.length
    · have hlt' : (i : Int) < (ids.length : Nat) := by omega
      obtain ⟨b, o, rfl, -, -⟩ := (HI.out _ HL.out.aft).some_of (by rw [zv_length]; omega)
      have hc := (HI.out _ HL.out.aft).num_at hlt
      have HB := Lib.hid (show ¬ (0 ≤ ids.getD i 0 ∧ ids.getD i 0 ≤ 1048576) → chkT ids ls = 1 from fun q => chk_bad fun z => q (by
        have := z.1.2.1 (ids.getD i 0) (by rw [List.getD_eq_getElem?_getD, List.getElem?_eq_getElem hlt]; exact List.getElem_mem hlt)
        exact this))
      have HF2 := Lib.hid (show (0 ≤ ids.getD i 0 ∧ ids.getD i 0 ≤ 1048576) → ∀ j, j < i + 1 → 0 ≤ ids.getD j 0 ∧ ids.getD j 0 ≤ 1048576 from fun q j hj => by
        by_cases e : j = i
        · subst e; exact q
        · exact HFr.out j (by omega))
      by_cases h0 : i = 0
      · subst h0
        have hc' : ∀ u, u = ids.getD 0 0 → wr.cell? ⟨b, o, none⟩ = some (.int .i64 u) := fun u hu => by rw [hu]; simpa using hc
        generalize ids.getD 0 0 = y at *
        have hc := hc' y rfl
        clear hc'
        by_cases ha : y < 0
        · have HR := Lib.hid (HB.out (by omega))
          go_wp2_with fail
          go_ret
          exact ⟨by rw [HR.out]; rfl, HL.out.aft⟩
        by_cases hb : 1048576 < y
        · have HR := Lib.hid (HB.out (by omega))
          go_wp2_with fail
          go_ret
          exact ⟨by rw [HR.out]; rfl, HL.out.aft⟩
        have HX := Lib.hid (HF2.out (by omega))
        have hi0 := shp_i (HL.out.get 0 rfl)
        go_wp2_with fail
        clear hi0
        go_roundw
        case rel => exact ⟨1, by omega, by go_num, HX.out, fun j hj => by omega, HL.out⟩
        case measure => simp [intOf]; omega
      · obtain ⟨m, rfl⟩ : ∃ m, i = m + 1 := ⟨i - 1, by omega⟩
        have hc0 := (HI.out _ HL.out.aft).num_at (i := m) (by omega)
        have hml : (m : Int) < (ids.length : Nat) := by omega
        have hm0 : (0 : Int) < (m : Int) + 1 := by omega
        have HQ := Lib.hid (show ids.getD m 0 < ids.getD (m + 1) 0 → ∀ j, j + 1 < m + 1 + 1 → ids.getD j 0 < ids.getD (j + 1) 0 from fun q j hj => by
          by_cases e : j = m
          · subst e; exact q
          · exact HRs.out j (by omega))
        have HN := Lib.hid (show ¬ ids.getD m 0 < ids.getD (m + 1) 0 → chkT ids ls = 1 from fun q => chk_bad fun z => q (rise_adj.1 z.1.2.2 m hlt))
        generalize ids.getD m 0 = x at *
        generalize ids.getD (m + 1) 0 = y at *
        by_cases ha : y < 0
        · have HR := Lib.hid (HB.out (by omega))
          go_wp2_with fail
          go_ret
          exact ⟨by rw [HR.out]; rfl, HL.out.aft⟩
        by_cases hb : 1048576 < y
        · have HR := Lib.hid (HB.out (by omega))
          go_wp2_with fail
          go_ret
          exact ⟨by rw [HR.out]; rfl, HL.out.aft⟩
        have HX := Lib.hid (HF2.out (by omega))
        have hi0 := shp_i (HL.out.get 0 rfl)
        by_cases hxy : y ≤ x
        · have HR := Lib.hid (HN.out (by omega))
          go_wp2_with fail
          go_ret
          exact ⟨by rw [HR.out]; rfl, HL.out.aft⟩
        · have HR := Lib.hid (HQ.out (by omega))
          go_wp2_with fail
          clear hi0
          go_roundw
          case rel => exact ⟨m + 1 + 1, by omega, by go_num, HX.out, HR.out, HL.out⟩
          case measure => simp [intOf]; omega
    · obtain rfl : i = ids.length := by omega
      have hlt' : ¬ ((ids.length : Nat) : Int) < (ids.length : Nat) := by omega
      have HOk := Lib.hid (show okIds ids from ⟨HLen.out, fun x hx => by
        obtain ⟨j, hj, rfl⟩ := List.mem_iff_getElem.1 hx
        have := HFr.out j hj
        rwa [List.getD_eq_getElem?_getD, List.getElem?_eq_getElem hj] at this, rise_adj.2 fun j hj => HRs.out j hj⟩)
      have hi0 := shp_i (HL.out.get 0 rfl)
      have hl0 := shp_l (HL.out.get 0 rfl)
      have HRc := Lib.hid (show okLv (ids.length : Int) ls = false → chkT ids ls = 1 from fun q => chk_bad fun z => by have := z.2; rw [q] at this; cases this)
      have HRg := Lib.hid (show okLv (ids.length : Int) ls = true → chkT ids ls = 0 from fun q => chkT_zero.2 ⟨HOk.out, q⟩)
      have hn0 := HLen.out
      clear HRs HFr hlt
      go_wp2_with fail
      clear hi0 hl0
      go_loopw [5, 50] (fun v5 v50 wr => ∃ k m : Nat, k ≤ ls.length ∧ v50 = .int .i64 (k : Int) ∧ v5 = .int .i64 (m : Int) ∧ okLv (ids.length : Int) ls = okLv (m : Int) (ls.drop k) ∧ m ≤ 1048576 ∧ Led w wr [(w.heap.size, .cells (shpL (.slice ao ids.length cap) (.slice bo ls.length dap)).toArray 25)]) (fun _ v _ => ls.length - (intOf v).toNat)
      case atStart => exact ⟨0, ids.length, by omega, rfl, rfl, by rw [List.drop_zero], by omega, HL.out⟩
      case round =>
        clear HL
        obtain ⟨k, m, hk, rfl, rfl, hok, hm, hL⟩ := hrel
        have HL := Lib.hid hL
        have HOkl := Lib.hid hok
        clear hL hok
        by_cases hlt : k < ls.length
        · have hlt' : (k : Int) < (ls.length : Nat) := by omega
          obtain ⟨g, o, cap', u, he, hc, hr⟩ := (HV.out _ HL.out.aft).cell hlt
          cases he
          have hcell := hc _ (Aft.refl _)
          have HStep := Lib.hid (show okLv (m : Int) (ls.drop k) = okLv (m : Int) (ls.getD k [] :: ls.drop (k + 1)) by rw [drop_cons ls k hlt])
          have HLl := Lib.hid (HS.out.fv _ (getD_mem hlt))
          generalize ls.getD k [] = l at *
          obtain ⟨au, cu, rfl, -, -⟩ := hr.numS
          have HRl := Lib.hid hr
          have HBad := Lib.hid (show okLv (m : Int) (l :: ls.drop (k + 1)) = false → chkT ids ls = 1 from fun q => HRc.out (by rw [HOkl.out, HStep.out, q]))
          clear hc hr
          obtain ⟨W5, hW5⟩ : ∃ W5, W5 = wr := ⟨_, rfl⟩
          subst hW5
          go_wp2_with fail
          clear hcell
          go_loopw [8, 56] (fun v8 v56 wr => ∃ j : Nat, j ≤ l.length ∧ v56 = .int .i64 (j : Int) ∧ v8 = .int .i64 (frm l j) ∧ (∀ x ∈ l.take j, x = 2 ∨ x = 3) ∧ wr = W5) (fun _ v _ => l.length - (intOf v).toNat)
          case atStart => exact ⟨0, by omega, rfl, rfl, fun x hx => by simp at hx, rfl⟩
          case round =>
            obtain ⟨j, hj, rfl, rfl, hall, rfl⟩ := hrel
            have HAl := Lib.hid hall
            have hfb := (frm_bound hall j)
            rw [show frm (l.take j) j = frm l j by unfold frm; rw [List.take_take, Nat.min_self]] at hfb
            have hll := HLl.out
            clear hall
            by_cases hjt : j < l.length
            · have hjt' : (j : Int) < (l.length : Nat) := by omega
              obtain ⟨g3, o3, rfl, -, -⟩ := HRl.out.some_of (by rw [zv_length]; omega)
              have hc := HRl.out.num_at hjt
              have hfs := frm_succ hjt
              have HMx := Lib.hid (show ¬ (l.getD j 0 = 2 ∨ l.getD j 0 = 3) → chkT ids ls = 1 from fun q => HBad.out (Bool.eq_false_iff.2 fun z => q ((okLv_bad z).1 _ (by rw [List.getD_eq_getElem?_getD, List.getElem?_eq_getElem hjt]; exact List.getElem_mem hjt))))
              have HSt := Lib.hid (show (l.getD j 0 = 2 ∨ l.getD j 0 = 3) → ∀ x ∈ l.take (j + 1), x = 2 ∨ x = 3 from fun q x hx => by
                rw [List.take_succ_eq_append_getElem hjt, List.mem_append, List.mem_singleton] at hx
                rcases hx with hx | rfl
                · exact HAl.out x hx
                · rwa [List.getD_eq_getElem?_getD, List.getElem?_eq_getElem hjt] at q)
              obtain ⟨f1, hf1⟩ : ∃ f1, f1 = frm l (j + 1) := ⟨_, rfl⟩
              rw [← hf1] at hfs
              have HF1 := Lib.hid hf1
              clear hf1
              generalize frm l j = f at *
              generalize l.getD j 0 = y at *
              by_cases h2 : y = 2
              · subst h2
                have HX := Lib.hid (HSt.out (.inl rfl))
                have HF := Lib.hid hfs
                clear hfs
                go_wp2_with fail
                go_roundw
                case rel => exact ⟨j + 1, by omega, by go_num, by rw [← HF1.out, HF.out], HX.out, by trivial⟩
                case measure => simp [intOf]; omega
              by_cases h3 : y = 3
              · subst h3
                have HX := Lib.hid (HSt.out (.inr rfl))
                have HF := Lib.hid hfs
                clear hfs
                go_wp2_with fail
                go_roundw
                case rel => exact ⟨j + 1, by omega, by go_num, by rw [← HF1.out, HF.out], HX.out, by trivial⟩
                case measure => simp [intOf]; omega
              have HR := Lib.hid (HMx.out fun q => q.elim h2 h3)
              clear hfs
              go_wp2_with fail
              · go_ret
                exact ⟨by rw [HR.out]; rfl, HL.out.aft⟩
              all_goals
                exfalso
                have hx : (y != 2) = false ∨ (y != 3) = false := by assumption
                rcases hx with hx | hx
                · rw [bne_eq_false_iff_eq] at hx
                  exact h2 hx
                · rw [bne_eq_false_iff_eq] at hx
                  exact h3 hx
            · obtain rfl : j = l.length := by omega
              have hjt' : ¬ ((l.length : Nat) : Int) < (l.length : Nat) := by omega
              rw [frm_all] at hfb ⊢
              have HA2 := Lib.hid (show ∀ x ∈ l, x = 2 ∨ x = 3 by have := HAl.out; rwa [List.take_length] at this)
              by_cases hsm : l.sum = (m : Int)
              · by_cases hm2 : m < 2
                · have HR := Lib.hid (HBad.out (Bool.eq_false_iff.2 fun z => by have := (okLv_bad z).2.2; omega))
                  have hm2' : (m : Int) < 2 := by omega
                  rw [hsm]
                  go_wp2_with fail
                  go_ret
                  exact ⟨by rw [HR.out]; rfl, HL.out.aft⟩
                · have hm2' : ¬ (m : Int) < 2 := by omega
                  have HNx := Lib.hid (show okLv (ids.length : Int) ls = okLv (l.length : Int) (ls.drop (k + 1)) by
                    rw [HOkl.out, HStep.out, okLv, show l.all two3 = true from List.all_eq_true.2 fun x hx => two3_iff.2 (HA2.out x hx), decide_eq_true hsm, decide_eq_true (by omega)]
                    rfl)
                  have hfl := HS.out.fl
                  rw [hsm]
                  clear hsm
                  go_wp2_with fail
                  go_roundw
                  case rel => exact ⟨k + 1, l.length, by omega, by go_num, rfl, HNx.out, by omega, HL.out⟩
                  case measure => simp [intOf]; omega
              · have HR := Lib.hid (HBad.out (Bool.eq_false_iff.2 fun z => hsm (okLv_bad z).2.1))
                go_wp2_with fail
                go_ret
                exact ⟨by rw [HR.out]; rfl, HL.out.aft⟩
        · obtain rfl : k = ls.length := by omega
          have hlt' : ¬ ((ls.length : Nat) : Int) < (ls.length : Nat) := by omega
          have HE := Lib.hid (show okLv (ids.length : Int) ls = decide ((m : Int) ≤ 1) by rw [HOkl.out, List.drop_length]; rfl)
          by_cases hm1 : (1 : Int) < (m : Int)
          · have HR := Lib.hid (show chkT ids ls = 1 from HRc.out (by rw [HE.out, decide_eq_false (by omega)]))
            go_wp2_with fail
            go_ret
            exact ⟨by rw [HR.out]; rfl, HL.out.aft⟩
          · have HR := Lib.hid (show chkT ids ls = 0 from HRg.out (by rw [HE.out, decide_eq_true (by omega)]))
            go_wp2_with fail
            go_ret
            exact ⟨by rw [HR.out]; rfl, HL.out.aft⟩
end Go.Proofs.Ytfgammcefaomeaa

