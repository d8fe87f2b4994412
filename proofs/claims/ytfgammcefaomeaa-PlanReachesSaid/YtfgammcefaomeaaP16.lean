/- coterielaw12.changed, walked. -/
import Derived.Test.YtfgammcefaomeaaP14
namespace Go.Proofs.Ytfgammcefaomeaa
open Go Go.RowKit
set_option linter.unusedSimpArgs false
theorem results_cells2_tmps2 {P : Program} {fn : Func} {p1 p2 q r : Tmp} {ty1 ty2 : TypeId} (h : fn.results = #[.cell p1 ty1, .cell p2 ty2, .tmp q, .tmp r]) (tmps : Array Value) (w : World) (g1 g2 : Nat) (t1 t2 : TypeId) (cs1 cs2 : Array Value) (fr1 fr2 : Nat × Nat) (d1 d2 : TypeDesc)
    (hp1 : tmps.getD p1 undef = .pointer (some ⟨g1, 0, none⟩)) (hp2 : tmps.getD p2 undef = .pointer (some ⟨g2, 0, none⟩)) (hg1 : w.heap[g1]? = some (.cells cs1 t1 fr1)) (hg2 : w.heap[g2]? = some (.cells cs2 t2 fr2))
    (hu1 : P.underlying ty1 = some d1) (hd1 : (match d1 with | .struct _ | .array _ _ => true | _ => false) = true) (hi1 : (P.info? ty1).map (·.size) = some cs1.size)
    (hu2 : P.underlying ty2 = some d2) (hd2 : (match d2 with | .struct _ | .array _ _ => true | _ => false) = true) (hi2 : (P.info? ty2).map (·.size) = some cs2.size) :
    (results fn tmps).run P w = .ok (.tuple #[.agg cs1, .agg cs2, tmps.getD q undef, tmps.getD r undef]) w := by
  have hp1' : tmps[p1]?.getD undef = .pointer (some ⟨g1, 0, none⟩) := by simpa using hp1
  have hp2' : tmps[p2]?.getD undef = .pointer (some ⟨g2, 0, none⟩) := by simpa using hp2
  simp [results, h, hp1', hp2', asAddr, run_loadVar_row w g1 t1 ty1 cs1 fr1 d1 hg1 hu1 hd1 hi1, run_loadVar_row w g2 t2 ty2 cs2 fr2 d2 hg2 hu2 hd2 hi2]
structure Has2 (b1 b2 : Nat) (o1 o2 : Obj) where
  w : World
  h1 : w.heap[b1]? = some o1
  h2 : w.heap[b2]? = some o2
theorem shpBox {w : World} {g : Nat} {vi vl : Value} (h : w.heap[g]? = some (.cells (shpL vi vl).toArray 25 (0, 0))) : w.cell? ⟨g, 0, none⟩ = some vi := shp_i h
set_option maxRecDepth 100000 in
set_option maxHeartbeats 8000000 in
theorem changed_any (vi vo vn vm : Value) (ids out in' more : List Int) (w : World) (hi : Rd w vi (zv ids)) (ho : Rd w vo (zv out)) (hn : Rd w vn (zv in')) (hm : Rd w vm (zv more)) (l2 : out.length ≤ 1000) (l3 : in'.length ≤ 1000) (l4 : more.length ≤ 1000) :
    Calls Try.prog 24 #[vi, vo, vn, vm] w (ChdSays out in' more w) := by
  have HI := Lib.hid hi
  have HO2 := Lib.hid ho
  have HN2 := Lib.hid hn
  have HM2 := Lib.hid hm
  have HLo := Lib.hid l2
  have HLn := Lib.hid l3
  have HLm := Lib.hid l4
  obtain ⟨ao, ac, rfl, -, -⟩ := hi.numS
  obtain ⟨oo, oc, rfl, -, -⟩ := ho.numS
  obtain ⟨no, nc, rfl, -, -⟩ := hn.numS
  obtain ⟨mo, mc, rfl, -, -⟩ := hm.numS
  have HL := Lib.hid (Led.start w)
  clear hi ho hn hm l2 l3 l4
  go_enter Try.func24, Try.ntmps24
  go_wp2_with (first | (refine wpList_dstT 8 rfl ?_; refine wpList_allocO rfl 25 rfl (.cells (shpL (.slice none 0 0) (.slice none 0 0)).toArray 25) alloc_shp ?_; intro w1 aa gg zz; replace HL := Lib.hid (HL.out.alloc aa gg.out); clear aa gg zz; (try simp only [List.nil_append, List.cons_append, List.set_cons_zero, List.set_cons_succ] at HL)) | (refine wpList_dstT 9 rfl ?_; refine wpList_allocO rfl 25 rfl (.cells (shpL (.slice none 0 0) (.slice none 0 0)).toArray 25) alloc_shp ?_; intro w2 aa gg zz; replace HL := Lib.hid (HL.out.alloc aa gg.out); clear aa gg zz; (try simp only [List.nil_append, List.cons_append, List.set_cons_zero, List.set_cons_succ] at HL)) | (refine wpList_dstT 12 rfl ?_; refine wpList_allocO rfl 25 rfl (.cells (shpL (.slice none 0 0) (.slice none 0 0)).toArray 25) alloc_shp ?_; intro w3 aa gg zz; replace HL := Lib.hid (HL.out.alloc aa gg.out); clear aa gg zz; (try simp only [List.nil_append, List.cons_append, List.set_cons_zero, List.set_cons_succ] at HL)) | (refine wpList_buildO (by kernel_rfl) 25 #[] rfl #[] (by kernel_rfl) _ (build_shp0) ?_) | (refine wpList_store_shp rfl (.tmp 12) (.tmp 27) _ _ _ (.slice none 0 0) (.slice none 0 0) rfl rfl rfl rfl rfl (HL.out.get 2 rfl) ?_; intro w4 q1 q2 q3; replace HL := Lib.hid (HL.out.store 2 rfl q1 q2 q3); clear q1 q2 q3; (try simp only [List.nil_append, List.cons_append, List.set_cons_zero, List.set_cons_succ] at HL)))
  obtain ⟨s9, hs9⟩ : ∃ s, s = w1.heap.size := ⟨_, rfl⟩
  rw [← hs9] at HL ⊢
  obtain ⟨s12, hs12⟩ : ∃ s, s = w2.heap.size := ⟨_, rfl⟩
  rw [← hs12] at HL ⊢
  clear hs9 hs12
  go_loopw [30] (fun v30 wr => ∃ (k : Nat) (ids' : List Int) (ls' : List (List Int)) (vi vl : Value) (vs : List Value), k ≤ ids.length ∧ v30 = .int .i64 (k : Int) ∧ OkT ids' ls' ∧ OwnTr wr w.heap.size vi vl vs ids' ls' ∧ Led w wr [(w.heap.size, (.cells (shpL (.slice none 0 0) (.slice none 0 0)).toArray 25)), (s9, (.cells (shpL (.slice none 0 0) (.slice none 0 0)).toArray 25)), (s12, (.cells (shpL vi vl).toArray 25))]) (fun v _ => ids.length - (intOf v).toNat)
  case atStart => exact ⟨0, [], [], _, _, [], Nat.zero_le _, rfl, ok_empty, OwnTr.nil _ _, HL.out⟩
  case round =>
    clear HL
    obtain ⟨k, ids', ls', vi, vl, vs, hk, rfl, hok, hT, hL⟩ := hrel
    have HT := Lib.hid hT
    have HL := Lib.hid hL
    have HOk := Lib.hid hok
    obtain ⟨a5, c5, b5, d5, rfl, rfl⟩ := hT.shape
    clear hT hL hok
    by_cases hlt : k < ids.length
    · have hlt' : (k : Int) < (ids.length : Nat) := by omega
      obtain ⟨b, o, rfl, -, -⟩ := (HI.out.grow HL.out.aft).some_of (by rw [zv_length]; omega)
      have hc := (HI.out.grow HL.out.aft).num_at hlt
      have hln := Lib.hid (rd_len HI.out)
      have hi62 : k < 9223372036854775807 := by have := hln.out; omega
      generalize ids.getD k 0 = x at *
      go_wp2_with (first | (refine wpList_load_rowG (by kernel_rfl) 25 (.tmp 12) rfl _ rfl _ _ _ _ (HL.out.get 2 rfl) Try.underlying25 rfl (shp_info _ _) ?_))
      clear hc
      refine (tinsert_any _ _ ids' ls' x wr HT.out.ids.rd HT.out.lv.rd (small_of HOk.out)).mono ?_
      rintro e w31 ⟨ui, ul, us, rfl, hT3, h31⟩
      obtain ⟨a6, c6, b6, d6, rfl, rfl⟩ := hT3.shape
      have HT3 := Lib.hid (hT3.mono (Below.size HL.out.aft))
      replace HT := Lib.hid (HT.out.aft h31)
      replace HL := Lib.hid (HL.out.call h31)
      clear hT3 h31
      by_cases h0 : insE ids' ls' x = 0
      · have H1 := Lib.hid (ins_ok h0).1
        rw [h0]
        clear h0
        generalize insIds ids' ls' x = ids2 at *
        generalize insLv ids' ls' x = ls2 at *
        go_wp2_with (first | (refine wpList_dstT 15 rfl ?_; refine wpList_allocO rfl 25 rfl (.cells (shpL (.slice none 0 0) (.slice none 0 0)).toArray 25) alloc_shp ?_; intro w5 aa gg zz; replace HT3 := Lib.hid (HT3.out.aft aa); replace HL := Lib.hid (HL.out.alloc aa gg.out); clear aa gg zz; (try simp only [List.nil_append, List.cons_append, List.set_cons_zero, List.set_cons_succ] at HL)) | (refine wpList_store_shp rfl (.tmp 15) (.tmp 38) _ _ _ (.slice a6 ids2.length c6) (.slice b6 ls2.length d6) rfl rfl rfl rfl rfl (HL.out.get 3 rfl) ?_; intro w6 q1 q2 q3; replace HT3 := Lib.hid (HT3.out.stored (HL.out.get 3 rfl) (by decide) (by decide) q2.out); replace HL := Lib.hid (HL.out.store 3 rfl q1 q2 q3); clear q1 q2 q3; (try simp only [List.nil_append, List.cons_append, List.set_cons_zero, List.set_cons_succ] at HL)) | (refine wpList_load_rowG (by kernel_rfl) 25 (.tmp 15) rfl _ rfl _ _ _ _ (HL.out.get 3 rfl) Try.underlying25 rfl (shp_info _ _) ?_) | (refine wpList_store_shp rfl (.tmp 12) (.tmp 42) _ _ _ (.slice a6 ids2.length c6) (.slice b6 ls2.length d6) rfl rfl rfl rfl rfl (HL.out.get 2 rfl) ?_; intro w7 q1 q2 q3; replace HT3 := Lib.hid (HT3.out.stored (HL.out.get 2 rfl) (by decide) (by decide) q2.out); replace HL := Lib.hid (HL.out.store 2 rfl q1 q2 q3); clear q1 q2 q3; (try simp only [List.nil_append, List.cons_append, List.set_cons_zero, List.set_cons_succ] at HL)))
        go_roundw
        case rel => exact ⟨k + 1, ids2, ls2, _, _, _, by omega, by go_num, H1.out, HT3.out, HL.out.cut 3⟩
        case measure => simp [intOf]; omega
      · have hne : (insE ids' ls' x == 0) = false := by simpa using h0
        generalize insE ids' ls' x = cx at *
        clear HT3
        generalize (insIds ids' ls' x).length = nx at *
        generalize (insLv ids' ls' x).length = mx at *
        go_wp2_with (first | (refine wpList_dstT 15 rfl ?_; refine wpList_allocO rfl 25 rfl (.cells (shpL (.slice none 0 0) (.slice none 0 0)).toArray 25) alloc_shp ?_; intro w5 aa gg zz; replace HT := Lib.hid (HT.out.aft aa); replace HL := Lib.hid (HL.out.alloc aa gg.out); clear aa gg zz; (try simp only [List.nil_append, List.cons_append, List.set_cons_zero, List.set_cons_succ] at HL)) | (refine wpList_store_shp rfl (.tmp 15) (.tmp 38) _ _ _ (.slice a6 nx c6) (.slice b6 mx d6) rfl rfl rfl rfl rfl (HL.out.get 3 rfl) ?_; intro w6 q1 q2 q3; replace HT := Lib.hid (HT.out.stored (HL.out.get 3 rfl) (by decide) (by decide) q2.out); replace HL := Lib.hid (HL.out.store 3 rfl q1 q2 q3); clear q1 q2 q3; (try simp only [List.nil_append, List.cons_append, List.set_cons_zero, List.set_cons_succ] at HL)))
        go_roundw
        case rel => exact ⟨k + 1, ids', ls', _, _, _, by omega, by go_num, HOk.out, HT.out, HL.out.cut 3⟩
        case measure => simp [intOf]; omega
    · obtain rfl : k = ids.length := by omega
      have hlt' : ¬ ((ids.length : Nat) : Int) < (ids.length : Nat) := by omega
      clear HI
      go_wp2_with (first | (refine wpList_load_rowG (by kernel_rfl) 25 (.tmp 12) rfl _ rfl _ _ _ _ (HL.out.get 2 rfl) Try.underlying25 rfl (shp_info _ _) ?_) | (refine wpList_dstT 17 rfl ?_; refine wpList_allocO rfl 25 rfl (.cells (shpL (.slice none 0 0) (.slice none 0 0)).toArray 25) alloc_shp ?_; intro w5 aa gg zz; replace HT := Lib.hid (HT.out.aft aa); replace HL := Lib.hid (HL.out.alloc aa gg.out); clear aa gg zz; (try simp only [List.nil_append, List.cons_append, List.set_cons_zero, List.set_cons_succ] at HL)) | (refine wpList_store_shp rfl (.tmp 17) (.tmp 44) _ _ _ (.slice a5 ids'.length c5) (.slice b5 ls'.length d5) rfl rfl rfl rfl rfl (HL.out.get 3 rfl) ?_; intro w6 q1 q2 q3; replace HT := Lib.hid (HT.out.stored (HL.out.get 3 rfl) (by decide) (by decide) q2.out); replace HL := Lib.hid (HL.out.store 3 rfl q1 q2 q3); clear q1 q2 q3; (try simp only [List.nil_append, List.cons_append, List.set_cons_zero, List.set_cons_succ] at HL)))
      obtain ⟨s17, hs17⟩ : ∃ s, s = wr.heap.size := ⟨_, rfl⟩
      rw [← hs17] at HL ⊢
      have HW := Lib.hid (show ChW w w6 ids' ls' (.slice a5 ids'.length c5) (.slice b5 ls'.length d5) ids' ls' (.slice a5 ids'.length c5) (.slice b5 ls'.length d5) (.slice none 0 0) [] from ⟨.none HT.out, .none HT.out, OwnI.nil _ _, HOk.out, HOk.out, .nil⟩)
      clear hs17 hlt' hlt hk HOk HT
      obtain ⟨ids0, hids0⟩ : ∃ i, i = ids' := ⟨_, rfl⟩
      obtain ⟨ls0, hls0⟩ : ∃ i, i = ls' := ⟨_, rfl⟩
      replace HW : Hid (ChW w w6 ids0 ls0 (.slice a5 ids0.length c5) (.slice b5 ls0.length d5) ids' ls' (.slice a5 ids0.length c5) (.slice b5 ls0.length d5) (.slice none 0 0) []) := by rw [hids0, hls0]; exact HW
      rw [← hids0, ← hls0] at HL ⊢
      clear hids0 hls0
      go_wp2_with fail
      go_loopw [18, 47] (fun v18 vc wr => ∃ (k : Nat) (ids' : List Int) (ls' : List (List Int)) (vi vl : Value) (T : List Int), k ≤ out.length ∧ vc = .int .i64 (k : Int) ∧ ChW w wr ids0 ls0 (.slice a5 ids0.length c5) (.slice b5 ls0.length d5) ids' ls' vi vl v18 T ∧ (T.length ≤ k ∧ ∀ y ∈ T, y ∈ out ∨ y ∈ in') ∧ Led w wr [(w.heap.size, (.cells (shpL (.slice none 0 0) (.slice none 0 0)).toArray 25)), (s9, (.cells (shpL (.slice none 0 0) (.slice none 0 0)).toArray 25)), (s12, (.cells (shpL (.slice a5 ids0.length c5) (.slice b5 ls0.length d5)).toArray 25)), (s17, (.cells (shpL vi vl).toArray 25))]) (fun _ vc _ => out.length - (intOf vc).toNat)
      case atStart => exact ⟨0, ids', ls', _, _, [], Nat.zero_le _, rfl, HW.out, ⟨Nat.le_refl _, fun y hy => by cases hy⟩, HL.out⟩
      case round =>
        clear HL HW ids' ls'
        obtain ⟨k, ids', ls', vi, vl, T, hk, rfl, hW, hTl, hL⟩ := hrel
        have HW := Lib.hid hW
        have HL := Lib.hid hL
        have HTl := Lib.hid hTl
        obtain ⟨a7, c7, b7, d7, rfl, rfl⟩ := hW.t1.shape
        clear hW hL hTl
        by_cases hlt : k < out.length
        · have hlt' : (k : Int) < (out.length : Nat) := by omega
          obtain ⟨b, o, rfl, -, -⟩ := (HO2.out.grow HL.out.aft).some_of (by rw [zv_length]; omega)
          have hc := (HO2.out.grow HL.out.aft).num_at hlt
          have hi62 : k < 9223372036854775807 := by have := HLo.out; omega
          have HMem := Lib.hid (getD_memP hlt)
          generalize out.getD k 0 = x at *
          go_wp2_with (first | (refine wpList_load_rowG (by kernel_rfl) 25 (.tmp 17) rfl _ rfl _ _ _ _ (HL.out.get 3 rfl) Try.underlying25 rfl (shp_info _ _) ?_) | (refine wpList_intSlice (by kernel_rfl) (.tmp 53) x rfl rfl ?_; intro wS aS gS; replace HW := Lib.hid (HW.out.aft aS); replace HL := Lib.hid (HL.out.call aS); have HG := Lib.hid (one_own (base := 0) gS.out (Nat.zero_le _)); clear aS gS))
          clear hc
          obtain ⟨us0, hT0, -⟩ := HW.out.t1
          refine (change_any _ _ _ _ ids' ls' [x] [] wS hT0.ids.rd hT0.lv.rd (small_of HW.out.k1) HG.out.rd (OwnI.nil wS 0).rd).mono ?_
          rintro e w31 ⟨ui, ul, us, rfl, hT3, h31⟩
          clear hT0 HG
          by_cases h0 : delE ids' ls' x = 0
          · have e0 := chg_del (x := x) HW.out.k1
            rw [if_pos h0] at e0
            rw [e0] at hT3
            rw [show (chgR ids' ls' [x] []).1 = 0 from congrArg Prod.fst e0]
            have hT3 : OwnTr w31 wS.heap.size ui ul us (delIds ids' ls' x) (delLv ids' ls' x) := hT3
            obtain ⟨a6, c6, b6, d6, rfl, rfl⟩ := hT3.shape
            have H1 := Lib.hid (del_ok h0).1
            have HC := Lib.hid (Chd.del HW.out.ch h0)
            have HN := Lib.hid (TrN.new hT3 (Below.size HL.out.aft) (Nat.le_refl _) HW.out.tt)
            replace HW := Lib.hid (HW.out.aft h31)
            replace HL := Lib.hid (HL.out.call h31)
            clear h0 hT3 h31 e0
            generalize delIds ids' ls' x = ids2 at *
            generalize delLv ids' ls' x = ls2 at *
            go_wp2_with (first | (refine wpList_dstT 21 rfl ?_; refine wpList_allocO rfl 25 rfl (.cells (shpL (.slice none 0 0) (.slice none 0 0)).toArray 25) alloc_shp ?_; intro w5 aa gg zz; replace HW := Lib.hid (HW.out.aft aa); replace HN := Lib.hid (HN.out.aft aa); replace HL := Lib.hid (HL.out.alloc aa gg.out); clear aa gg zz; (try simp only [List.nil_append, List.cons_append, List.set_cons_zero, List.set_cons_succ] at HL)) | (refine wpList_store_shp rfl (.tmp 21) (.tmp 56) _ _ _ (.slice a6 ids2.length c6) (.slice b6 ls2.length d6) rfl rfl rfl rfl rfl (HL.out.get 4 rfl) ?_; intro w6 q1 q2 q3; replace HW := Lib.hid (HW.out.stored (HL.out.get 4 rfl) (by decide) (by decide) q2); replace HN := Lib.hid (HN.out.stored (HL.out.get 4 rfl) (by decide) (by decide) q2.out); replace HL := Lib.hid (HL.out.store 4 rfl q1 q2 q3); clear q1 q2 q3; (try simp only [List.nil_append, List.cons_append, List.set_cons_zero, List.set_cons_succ] at HL)) | (refine wpList_load_rowG (by kernel_rfl) 25 (.tmp 21) rfl _ rfl _ _ _ _ (HL.out.get 4 rfl) Try.underlying25 rfl (shp_info _ _) ?_) | (refine wpList_store_shp rfl (.tmp 17) (.tmp 60) _ _ _ (.slice a6 ids2.length c6) (.slice b6 ls2.length d6) rfl rfl rfl rfl rfl (HL.out.get 3 rfl) ?_; intro w7 q1 q2 q3; replace HW := Lib.hid (HW.out.stored (HL.out.get 3 rfl) (by decide) (by decide) q2); replace HN := Lib.hid (HN.out.stored (HL.out.get 3 rfl) (by decide) (by decide) q2.out); replace HL := Lib.hid (HL.out.store 3 rfl q1 q2 q3); clear q1 q2 q3; (try simp only [List.nil_append, List.cons_append, List.set_cons_zero, List.set_cons_succ] at HL)) | (refine wpList_intSlice (by kernel_rfl) (.tmp 62) x rfl rfl ?_; intro wS2 aS gS; replace HW := Lib.hid (HW.out.aft aS); replace HN := Lib.hid (HN.out.aft aS); replace HL := Lib.hid (HL.out.call aS); have HG := Lib.hid gS.out; clear aS gS) | (at_builtin; refine wpList_snocI rfl (.tmp 61) (.tmp 63) rfl w.heap.size _ T rfl HW.out.tt _ x rfl HG.out (by have := HTl.out.1; have := HLo.out; have := HLn.out; omega) (Below.size HL.out.aft) ?_; intro gA cA wA k1 k2 k3; replace HL := Lib.hid (HL.out.frO HW.out.tt (Nat.le_refl _) k2.out rfl); replace HW := Lib.hid (HW.out.app k2.out k1.out k3.out rfl HN.out H1.out HC.out); clear k1 k2 k3 HN))
            go_roundw
            case rel => exact ⟨k + 1, ids2, ls2, _, _, T ++ [x], by omega, by go_num, HW.out, ⟨by rw [List.length_append]; have := HTl.out.1; show _ + 1 ≤ _; omega, fun y hy => by
              rcases List.mem_append.1 hy with hy | hy
              · exact HTl.out.2 y hy
              · rw [List.mem_singleton.1 hy]; exact .inl HMem.out⟩, HL.out.cut 4⟩
            case measure => simp [intOf]; omega
          · have e0 := chg_del (x := x) HW.out.k1
            rw [if_neg h0] at e0
            rw [e0] at hT3
            rw [show (chgR ids' ls' [x] []).1 = delE ids' ls' x from congrArg Prod.fst e0]
            have hT3 : OwnTr w31 wS.heap.size ui ul us [] [] := hT3
            obtain ⟨a6, c6, b6, d6, hui, hul⟩ := hT3.shape
            have hui : ui = .slice a6 0 c6 := hui
            have hul : ul = .slice b6 0 d6 := hul
            subst hui hul
            have hne : (delE ids' ls' x == 0) = false := by simpa using h0
            replace HW := Lib.hid (HW.out.aft h31)
            replace HL := Lib.hid (HL.out.call h31)
            clear h0 hT3 h31 e0
            generalize delE ids' ls' x = cx at *
            go_wp2_with (first | (refine wpList_dstT 21 rfl ?_; refine wpList_allocO rfl 25 rfl (.cells (shpL (.slice none 0 0) (.slice none 0 0)).toArray 25) alloc_shp ?_; intro w5 aa gg zz; replace HW := Lib.hid (HW.out.aft aa); replace HL := Lib.hid (HL.out.alloc aa gg.out); clear aa gg zz; (try simp only [List.nil_append, List.cons_append, List.set_cons_zero, List.set_cons_succ] at HL)) | (refine wpList_store_shp rfl (.tmp 21) (.tmp 56) _ _ _ (.slice a6 0 c6) (.slice b6 0 d6) rfl rfl rfl rfl rfl (HL.out.get 4 rfl) ?_; intro w6 q1 q2 q3; replace HW := Lib.hid (HW.out.stored (HL.out.get 4 rfl) (by decide) (by decide) q2); replace HL := Lib.hid (HL.out.store 4 rfl q1 q2 q3); clear q1 q2 q3; (try simp only [List.nil_append, List.cons_append, List.set_cons_zero, List.set_cons_succ] at HL)))
            go_roundw
            case rel => exact ⟨k + 1, ids', ls', _, _, T, by omega, by go_num, HW.out, ⟨by have := HTl.out.1; omega, HTl.out.2⟩, HL.out.cut 4⟩
            case measure => simp [intOf]; omega
        · obtain rfl : k = out.length := by omega
          have hlt' : ¬ ((out.length : Nat) : Int) < (out.length : Nat) := by omega
          clear hlt' hlt HO2
          go_wp2_with fail
          go_loopw [18, 68] (fun v18 vc wr => ∃ (k : Nat) (ids' : List Int) (ls' : List (List Int)) (vi vl : Value) (T : List Int), k ≤ in'.length ∧ vc = .int .i64 (k : Int) ∧ ChW w wr ids0 ls0 (.slice a5 ids0.length c5) (.slice b5 ls0.length d5) ids' ls' vi vl v18 T ∧ (T.length ≤ out.length + k ∧ ∀ y ∈ T, y ∈ out ∨ y ∈ in') ∧ Led w wr [(w.heap.size, (.cells (shpL (.slice none 0 0) (.slice none 0 0)).toArray 25)), (s9, (.cells (shpL (.slice none 0 0) (.slice none 0 0)).toArray 25)), (s12, (.cells (shpL (.slice a5 ids0.length c5) (.slice b5 ls0.length d5)).toArray 25)), (s17, (.cells (shpL vi vl).toArray 25))]) (fun _ vc _ => in'.length - (intOf vc).toNat)
          case atStart => exact ⟨0, ids', ls', _, _, T, Nat.zero_le _, rfl, HW.out, HTl.out, HL.out⟩
          case round =>
            clear HL HW HTl hk T ids' ls'
            obtain ⟨k, ids', ls', vi, vl, T, hk, rfl, hW, hTl, hL⟩ := hrel
            have HW := Lib.hid hW
            have HL := Lib.hid hL
            have HTl := Lib.hid hTl
            obtain ⟨a7, c7, b7, d7, rfl, rfl⟩ := hW.t1.shape
            clear hW hL hTl
            by_cases hlt : k < in'.length
            · have hlt' : (k : Int) < (in'.length : Nat) := by omega
              obtain ⟨b, o, rfl, -, -⟩ := (HN2.out.grow HL.out.aft).some_of (by rw [zv_length]; omega)
              have hc := (HN2.out.grow HL.out.aft).num_at hlt
              have hi62 : k < 9223372036854775807 := by have := HLn.out; omega
              have HMem := Lib.hid (getD_memP hlt)
              generalize in'.getD k 0 = x at *
              go_wp2_with (first | (refine wpList_load_rowG (by kernel_rfl) 25 (.tmp 17) rfl _ rfl _ _ _ _ (HL.out.get 3 rfl) Try.underlying25 rfl (shp_info _ _) ?_) | (refine wpList_intSlice (by kernel_rfl) (.tmp 74) x rfl rfl ?_; intro wS aS gS; replace HW := Lib.hid (HW.out.aft aS); replace HL := Lib.hid (HL.out.call aS); have HG := Lib.hid (one_own (base := 0) gS.out (Nat.zero_le _)); clear aS gS))
              clear hc
              obtain ⟨us0, hT0, -⟩ := HW.out.t1
              refine (change_any _ _ _ _ ids' ls' [] [x] wS hT0.ids.rd hT0.lv.rd (small_of HW.out.k1) (OwnI.nil wS 0).rd HG.out.rd).mono ?_
              rintro e w31 ⟨ui, ul, us, rfl, hT3, h31⟩
              clear hT0 HG
              by_cases h0 : insE ids' ls' x = 0
              · have e0 := chg_ins (x := x) HW.out.k1
                rw [if_pos h0] at e0
                rw [e0] at hT3
                rw [show (chgR ids' ls' [] [x]).1 = 0 from congrArg Prod.fst e0]
                have hT3 : OwnTr w31 wS.heap.size ui ul us (insIds ids' ls' x) (insLv ids' ls' x) := hT3
                obtain ⟨a6, c6, b6, d6, rfl, rfl⟩ := hT3.shape
                have H1 := Lib.hid (ins_ok h0).1
                have HC := Lib.hid (Chd.ins HW.out.ch h0)
                have HN := Lib.hid (TrN.new hT3 (Below.size HL.out.aft) (Nat.le_refl _) HW.out.tt)
                replace HW := Lib.hid (HW.out.aft h31)
                replace HL := Lib.hid (HL.out.call h31)
                clear h0 hT3 h31 e0
                generalize insIds ids' ls' x = ids2 at *
                generalize insLv ids' ls' x = ls2 at *
                go_wp2_with (first | (refine wpList_dstT 25 rfl ?_; refine wpList_allocO rfl 25 rfl (.cells (shpL (.slice none 0 0) (.slice none 0 0)).toArray 25) alloc_shp ?_; intro w5 aa gg zz; replace HW := Lib.hid (HW.out.aft aa); replace HN := Lib.hid (HN.out.aft aa); replace HL := Lib.hid (HL.out.alloc aa gg.out); clear aa gg zz; (try simp only [List.nil_append, List.cons_append, List.set_cons_zero, List.set_cons_succ] at HL)) | (refine wpList_store_shp rfl (.tmp 25) (.tmp 77) _ _ _ (.slice a6 ids2.length c6) (.slice b6 ls2.length d6) rfl rfl rfl rfl rfl (HL.out.get 4 rfl) ?_; intro w6 q1 q2 q3; replace HW := Lib.hid (HW.out.stored (HL.out.get 4 rfl) (by decide) (by decide) q2); replace HN := Lib.hid (HN.out.stored (HL.out.get 4 rfl) (by decide) (by decide) q2.out); replace HL := Lib.hid (HL.out.store 4 rfl q1 q2 q3); clear q1 q2 q3; (try simp only [List.nil_append, List.cons_append, List.set_cons_zero, List.set_cons_succ] at HL)) | (refine wpList_load_rowG (by kernel_rfl) 25 (.tmp 25) rfl _ rfl _ _ _ _ (HL.out.get 4 rfl) Try.underlying25 rfl (shp_info _ _) ?_) | (refine wpList_store_shp rfl (.tmp 17) (.tmp 81) _ _ _ (.slice a6 ids2.length c6) (.slice b6 ls2.length d6) rfl rfl rfl rfl rfl (HL.out.get 3 rfl) ?_; intro w7 q1 q2 q3; replace HW := Lib.hid (HW.out.stored (HL.out.get 3 rfl) (by decide) (by decide) q2); replace HN := Lib.hid (HN.out.stored (HL.out.get 3 rfl) (by decide) (by decide) q2.out); replace HL := Lib.hid (HL.out.store 3 rfl q1 q2 q3); clear q1 q2 q3; (try simp only [List.nil_append, List.cons_append, List.set_cons_zero, List.set_cons_succ] at HL)) | (refine wpList_intSlice (by kernel_rfl) (.tmp 83) x rfl rfl ?_; intro wS2 aS gS; replace HW := Lib.hid (HW.out.aft aS); replace HN := Lib.hid (HN.out.aft aS); replace HL := Lib.hid (HL.out.call aS); have HG := Lib.hid gS.out; clear aS gS) | (at_builtin; refine wpList_snocI rfl (.tmp 82) (.tmp 84) rfl w.heap.size _ T rfl HW.out.tt _ x rfl HG.out (by have := HTl.out.1; have := HLo.out; have := HLn.out; omega) (Below.size HL.out.aft) ?_; intro gA cA wA k1 k2 k3; replace HL := Lib.hid (HL.out.frO HW.out.tt (Nat.le_refl _) k2.out rfl); replace HW := Lib.hid (HW.out.app k2.out k1.out k3.out rfl HN.out H1.out HC.out); clear k1 k2 k3 HN))
                go_roundw
                case rel => exact ⟨k + 1, ids2, ls2, _, _, T ++ [x], by omega, by go_num, HW.out, ⟨by rw [List.length_append]; have := HTl.out.1; show _ + 1 ≤ _; omega, fun y hy => by
                  rcases List.mem_append.1 hy with hy | hy
                  · exact HTl.out.2 y hy
                  · rw [List.mem_singleton.1 hy]; exact .inr HMem.out⟩, HL.out.cut 4⟩
                case measure => simp [intOf]; omega
              · have e0 := chg_ins (x := x) HW.out.k1
                rw [if_neg h0] at e0
                rw [e0] at hT3
                rw [show (chgR ids' ls' [] [x]).1 = insE ids' ls' x from congrArg Prod.fst e0]
                have hT3 : OwnTr w31 wS.heap.size ui ul us [] [] := hT3
                obtain ⟨a6, c6, b6, d6, hui, hul⟩ := hT3.shape
                have hui : ui = .slice a6 0 c6 := hui
                have hul : ul = .slice b6 0 d6 := hul
                subst hui hul
                have hne : (insE ids' ls' x == 0) = false := by simpa using h0
                replace HW := Lib.hid (HW.out.aft h31)
                replace HL := Lib.hid (HL.out.call h31)
                clear h0 hT3 h31 e0
                generalize insE ids' ls' x = cx at *
                go_wp2_with (first | (refine wpList_dstT 25 rfl ?_; refine wpList_allocO rfl 25 rfl (.cells (shpL (.slice none 0 0) (.slice none 0 0)).toArray 25) alloc_shp ?_; intro w5 aa gg zz; replace HW := Lib.hid (HW.out.aft aa); replace HL := Lib.hid (HL.out.alloc aa gg.out); clear aa gg zz; (try simp only [List.nil_append, List.cons_append, List.set_cons_zero, List.set_cons_succ] at HL)) | (refine wpList_store_shp rfl (.tmp 25) (.tmp 77) _ _ _ (.slice a6 0 c6) (.slice b6 0 d6) rfl rfl rfl rfl rfl (HL.out.get 4 rfl) ?_; intro w6 q1 q2 q3; replace HW := Lib.hid (HW.out.stored (HL.out.get 4 rfl) (by decide) (by decide) q2); replace HL := Lib.hid (HL.out.store 4 rfl q1 q2 q3); clear q1 q2 q3; (try simp only [List.nil_append, List.cons_append, List.set_cons_zero, List.set_cons_succ] at HL)))
                go_roundw
                case rel => exact ⟨k + 1, ids', ls', _, _, T, by omega, by go_num, HW.out, ⟨by have := HTl.out.1; omega, HTl.out.2⟩, HL.out.cut 4⟩
                case measure => simp [intOf]; omega
            · obtain rfl : k = in'.length := by omega
              have hlt' : ¬ ((in'.length : Nat) : Int) < (in'.length : Nat) := by omega
              clear hlt' hlt HN2
              have HT1 := Lib.hid HW.out.tt
              have HRm := Lib.hid (HM2.out.grow HL.out.aft)
              have HS12 := Lib.hid (heap_lt (HL.out.get 2 rfl))
              have HS17 := Lib.hid (heap_lt (HL.out.get 3 rfl))
              have HN12 := Lib.hid (show ¬ u18.ownBlock = some s12 from fun e => own_off HT1.out (HL.out.get 2 rfl) (by decide) e rfl)
              have HN17 := Lib.hid (show ¬ u18.ownBlock = some s17 from fun e => own_off HT1.out (HL.out.get 3 rfl) (by decide) e rfl)
              have hsz := Lib.hid (Below.size HL.out.aft)
              go_wp2_with fail
              haveI : Inhabited (Has2 s12 s17 (.cells (shpL (.slice a5 ids0.length c5) (.slice b5 ls0.length d5)).toArray 25 (0, 0)) (.cells (shpL (.slice a7 ids'.length c7) (.slice b7 ls'.length d7)).toArray 25 (0, 0))) := ⟨⟨wr, HL.out.get 2 rfl, HL.out.get 3 rfl⟩⟩
              have f1 := fun z : Has2 s12 s17 (.cells (shpL (.slice a5 ids0.length c5) (.slice b5 ls0.length d5)).toArray 25 (0, 0)) (.cells (shpL (.slice a7 ids'.length c7) (.slice b7 ls'.length d7)).toArray 25 (0, 0)) => shp_i z.h2
              refine wp_region_lex (fun wz => ∃ z : Has2 s12 s17 (.cells (shpL (.slice a5 ids0.length c5) (.slice b5 ls0.length d5)).toArray 25 (0, 0)) (.cells (shpL (.slice a7 ids'.length c7) (.slice b7 ls'.length d7)).toArray 25 (0, 0)), wz = z.w) (fun i => ([4, 9, 10] : List Nat).contains i) 12 (by kernel_rfl) (by kernel_rfl) ⟨⟨wr.drew, HL.out.get 2 rfl, HL.out.get 3 rfl⟩, rfl⟩ ?_
              change wpLx _ _ _ _ _ _ _ _ _ wr.drew
              have HDa := Lib.hid (show Aft wr wr.drew from (Below.refl _ _).drew)
              generalize wr.drew = wd at *
              refine lx_load_agg rfl (by kernel_rfl) 25 (.tmp 12) rfl ⟨s12, 0, none⟩ rfl (shpL (.slice a5 ids0.length c5) (.slice b5 ls0.length d5)).toArray (fun wz hz => by obtain ⟨u, rfl⟩ := hz; exact run_loadVar_row u.w _ _ _ _ _ _ u.h1 Try.underlying25 rfl (shp_info _ _)) ?_
              refine lx_load_agg rfl (by kernel_rfl) 25 (.tmp 17) rfl ⟨s17, 0, none⟩ rfl (shpL (.slice a7 ids'.length c7) (.slice b7 ls'.length d7)).toArray (fun wz hz => by obtain ⟨u, rfl⟩ := hz; exact run_loadVar_row u.w _ _ _ _ _ _ u.h2 Try.underlying25 rfl (shp_info _ _)) ?_
              try simp only [Act.put, List.setIfInBounds_toArray, List.set_cons_succ, List.set_cons_zero]
              repeat (first | (refine lx_skipT (by go_big_quiet_skip; exact wpQuiet_nil trivial) (by kernel_rfl) ?_; simp only [Act.put, List.setIfInBounds_toArray, List.set_cons_succ, List.set_cons_zero]) | (refine lx_quietT rfl (by go_big_quiet_want; exact quiet_false (by assumption)) (by kernel_rfl) rfl ?_; intro Kx hKx; go_big_quiet_op; go_big_quiet_on))
              refine lx_eff rfl (by kernel_rfl) ?_
              intro Kx hKx
              refine wp_of_list (ops := #[]) (wpList_catL rfl (.tmp 89) (.tmp 90) rfl w.heap.size u18 (.slice mo more.length mc) T more rfl rfl (HT1.out.aft HDa.out) (HRm.out.grow HDa.out) (by have := HTl.out.1; have := HLo.out; have := HLn.out; have := HLm.out; omega) (Nat.le_trans hsz.out (Below.size HDa.out)) ?_)
              intro v22 w66 k1 k2 k3
              have HT6 := k1
              have HF6 := Lib.hid k2.out
              have HD6 := Lib.hid (show Fr (fun b => u18.ownBlock = some b) wr w66 from Fr.trans (Fr.of_below HDa.out) HF6.out)
              have HLy := Lib.hid (show ∀ g, v22.ownBlock = some g → u18.ownBlock = some g ∨ wr.heap.size ≤ g from fun g hg => (k3.out g hg).imp id fun q => Nat.le_trans (Below.size HDa.out) q)
              clear k1 k2 k3
              have HA := Lib.hid (HW.out.t0.cat HT1.out HD6.out HLy.out)
              have HB := Lib.hid (HW.out.t1.cat HT1.out HD6.out HLy.out)
              have HK0 := Lib.hid HW.out.k0
              have HK1 := Lib.hid HW.out.k1
              have HCh := Lib.hid HW.out.ch
              replace HL := Lib.hid (HL.out.frO HT1.out (Nat.le_refl _) HD6.out rfl)
              clear HW HF6 HD6 HT1 HRm HM2 HLy
              refine ⟨rfl, hKx _ _ ⟨⟨⟨_, HL.out.get 2 rfl, HL.out.get 3 rfl⟩, rfl⟩, ?_⟩⟩
              clear hKx
              simp only [Act.put, List.setIfInBounds_toArray, List.set_cons_succ, List.set_cons_zero]
              repeat (first | (refine lx_skipT (by go_big_quiet_skip; exact wpQuiet_nil trivial) (by kernel_rfl) ?_; simp only [Act.put, List.setIfInBounds_toArray, List.set_cons_succ, List.set_cons_zero]) | (refine lx_quietT rfl (by go_big_quiet_want; exact quiet_false (by assumption)) (by kernel_rfl) rfl ?_; intro Kx hKx; go_big_quiet_op; go_big_quiet_on))
              refine lx_eff rfl (by kernel_rfl) ?_
              intro Kx hKx
              refine wp_of_list (ops := #[]) (wpList_store_shp rfl (.tmp 8) (.tmp 87) _ _ _ (.slice a5 ids0.length c5) (.slice b5 ls0.length d5) rfl rfl rfl rfl rfl (HL.out.get 0 rfl) ?_)
              intro w7 q1 q2 q3
              replace HA := Lib.hid (HA.out.stored (HL.out.get 0 rfl) (by decide) (by decide) q2.out)
              replace HB := Lib.hid (HB.out.stored (HL.out.get 0 rfl) (by decide) (by decide) q2.out)
              replace HT6 := Lib.hid (HT6.out.storedP (HL.out.get 0 rfl) (by decide) q2.out)
              replace HL := Lib.hid (HL.out.store 0 rfl q1 q2 q3)
              clear q1 q2 q3
              try simp only [List.nil_append, List.cons_append, List.set_cons_zero, List.set_cons_succ] at HL
              refine ⟨rfl, hKx _ _ ⟨⟨⟨_, HL.out.get 2 rfl, HL.out.get 3 rfl⟩, rfl⟩, ?_⟩⟩
              clear hKx
              try simp only [Act.put, List.setIfInBounds_toArray, List.set_cons_succ, List.set_cons_zero]
              refine lx_eff rfl (by kernel_rfl) ?_
              intro Kx hKx
              refine wp_of_list (ops := #[]) (wpList_store_shp rfl (.tmp 9) (.tmp 88) _ _ _ (.slice a7 ids'.length c7) (.slice b7 ls'.length d7) rfl rfl rfl rfl rfl (HL.out.get 1 rfl) ?_)
              intro w8 q1 q2 q3
              replace HA := Lib.hid (HA.out.stored (HL.out.get 1 rfl) (by decide) (by decide) q2.out)
              replace HB := Lib.hid (HB.out.stored (HL.out.get 1 rfl) (by decide) (by decide) q2.out)
              replace HT6 := Lib.hid (HT6.out.storedP (HL.out.get 1 rfl) (by decide) q2.out)
              replace HL := Lib.hid (HL.out.store 1 rfl q1 q2 q3)
              clear q1 q2 q3
              try simp only [List.nil_append, List.cons_append, List.set_cons_zero, List.set_cons_succ] at HL
              refine ⟨rfl, hKx _ _ ⟨⟨⟨_, HL.out.get 2 rfl, HL.out.get 3 rfl⟩, rfl⟩, ?_⟩⟩
              clear hKx
              try simp only [Act.put, List.setIfInBounds_toArray, List.set_cons_succ, List.set_cons_zero]
              repeat (first | (refine lx_skipT (by go_big_quiet_skip; exact wpQuiet_nil trivial) (by kernel_rfl) ?_; simp only [Act.put, List.setIfInBounds_toArray, List.set_cons_succ, List.set_cons_zero]) | (refine lx_quietT rfl (by go_big_quiet_want; exact quiet_false (by assumption)) (by kernel_rfl) rfl ?_; intro Kx hKx; go_big_quiet_op; go_big_quiet_on))
              refine lx_done ?_
              clear f1
              go_wp2_with fail
              refine bodyPost_ret (results_cells2_tmps2 rfl _ _ _ _ _ _ _ _ _ _ _ _ rfl rfl (HL.out.get 0 rfl) (HL.out.get 1 rfl) Try.underlying25 rfl (shp_info _ _) Try.underlying25 rfl (shp_info _ _)) rfl ?_
              refine ⟨ids0, ls0, _, _, ids', ls', _, _, _, T, ?_, HA.out, HB.out, HT6.out, HK0.out, HK1.out, HCh.out, HTl.out.2, HTl.out.1, HL.out.aft⟩
              have e : decide ((0 : Int) < ((ids'.length : Nat) : Int)) = decide (0 < ids'.length) := decide_eq_decide.2 Int.natCast_pos
              rw [← e]
              rfl
end Go.Proofs.Ytfgammcefaomeaa
