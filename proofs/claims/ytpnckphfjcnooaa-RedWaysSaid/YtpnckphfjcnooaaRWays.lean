/- RedWays of law 11, walked. -/
import Derived.Test.YtpnckphfjcnooaaQ
import Derived.Test.YtpnckphfjcnooaaT13
import Derived.Deep.Cut
namespace Go.Proofs.Ytpnckphfjcnooaa
open Go Go.RowKit
set_option linter.unusedSimpArgs false
theorem mk_zero {w : World} {g n a : Nat} (h : OwnI w g (.slice (some ⟨g, 0, none⟩) n n) (List.replicate n 0)) (ha : a < n) : w.cell? ⟨g, a, none⟩ = some (.int .i64 0) := by
  have h1 := Rd.num_at h.rd (i := a) (by rw [List.length_replicate]; exact ha)
  rw [Nat.zero_add, List.getD_eq_getElem?_getD, List.getElem?_replicate, if_pos ha] at h1
  exact h1
set_option maxRecDepth 100000 in
set_option maxHeartbeats 8000000 in
theorem redWays_any (kind : Int) (vi vl : Value) (ids : List Int) (ls : List (List Int)) (id : Int) (w : World) (hi : Rd w vi (zv ids)) (hl : RdLs w vl ls) :
    Calls Try.prog 15 #[.int .i64 kind, .agg (shpL vi vl).toArray, .int .i64 id] w fun e w' => e = .returned (.bool true) ∧ Aft w w' := by
  have HFw := Lib.hid (fun (wx : World) (ha : Aft w wx) => tfew_any vi vl ids ls wx (hi.grow ha) (hl.aft ha))
  have HNd := Lib.hid (fun (hs : Small ids ls) (wx : World) (ha : Aft w wx) => rnodes_any kind vi vl ids ls wx (hi.grow ha) (hl.aft ha) hs)
  have HPt := Lib.hid (fun (hs : Small ids ls) (wx : World) (ha : Aft w wx) => rPath_any kind vi vl ids ls id wx (hi.grow ha) (hl.aft ha) hs)
  have HBs := Lib.hid (fun (hs : Small ids ls) (wx : World) (ha : Aft w wx) => rBeside_any kind vi vl ids ls id wx (hi.grow ha) (hl.aft ha) hs)
  have HFd := Lib.hid (fun (hs : Small ids ls) (wx : World) (ha : Aft w wx) => find_any vi vl ids id wx (hi.grow ha) hs.fi)
  obtain ⟨ao, cap, rfl, -, -⟩ := hi.numS
  obtain ⟨bo, dap, rfl, -⟩ := hl.shape
  have HL := Lib.hid (Led.start w)
  clear hi hl
  go_enter Try.func15, Try.ntmps15
  go_wp2_with (first | (refine wpList_boxO rfl 26 (.tmp 1) rfl (.agg (shpL (.slice ao ids.length cap) (.slice bo ls.length dap)).toArray) rfl (.cells (shpL (.slice ao ids.length cap) (.slice bo ls.length dap)).toArray 26) (box_shp _) ?_; intro w' aa gg zz; replace HL := Lib.hid (HL.out.alloc aa gg.out); clear aa gg zz; try simp only [List.nil_append, List.cons_append, List.set_cons_zero, List.set_cons_succ] at HL))
  refine (live11_any _).mono ?_
  rintro e w1 ⟨rfl, h1⟩
  replace HL := Lib.hid (HL.out.call h1)
  clear h1
  go_wp2_with (first | (refine wpList_load_rowG (by kernel_rfl) 26 (.tmp 4) rfl _ rfl _ _ _ _ (HL.out.get 0 rfl) Try.underlying26 rfl (shp_info _ _) ?_))
  refine (HFw.out _ HL.out.aft).mono ?_
  rintro e w2 ⟨rfl, h2⟩
  replace HL := Lib.hid (HL.out.call h2)
  clear h2 HFw
  have hc0 := shp_i (HL.out.get 0 rfl)
  cases hf : fewT ids ls with
  | false =>
    clear hf
    go_wp2_with fail
    go_ret
    exact ⟨rfl, HL.out.aft⟩
  | true =>
    have HS := Lib.hid (fewT_small hf)
    clear hf
    by_cases h120 : (120 : Int) < (ids.length : Nat)
    · go_wp2_with fail
      go_ret
      exact ⟨rfl, HL.out.aft⟩
    go_wp2_with (first | (refine wpList_load_rowG (by kernel_rfl) 26 (.tmp 4) rfl _ rfl _ _ _ _ (HL.out.get 0 rfl) Try.underlying26 rfl (shp_info _ _) ?_))
    clear hc0
    refine (HNd.out HS.out _ HL.out.aft).mono ?_
    rintro e w3 ⟨v3, ps, rfl, ho3, hf3, h3⟩
    obtain ⟨x3, y3, rfl⟩ := ho3.shape
    replace HL := Lib.hid (HL.out.call h3)
    have HN := Lib.hid ho3
    have HF3 := Lib.hid hf3
    clear h3 ho3 hf3 HNd
    go_wp2_with (first | (refine wpList_load_rowG (by kernel_rfl) 26 (.tmp 4) rfl _ rfl _ _ _ _ (HL.out.get 0 rfl) Try.underlying26 rfl (shp_info _ _) ?_))
    refine (HPt.out HS.out _ HL.out.aft).mono ?_
    rintro e w4 ⟨v4, rfl, ho4, h4⟩
    obtain ⟨x4, y4, rfl⟩ := ho4.shape
    replace HL := Lib.hid (HL.out.call h4)
    replace HN := Lib.hid (HN.out.aft h4)
    have HW := Lib.hid ho4
    clear h4 ho4 HPt
    go_wp2_with (first | (refine wpList_load_rowG (by kernel_rfl) 26 (.tmp 4) rfl _ rfl _ _ _ _ (HL.out.get 0 rfl) Try.underlying26 rfl (shp_info _ _) ?_))
    refine (HBs.out HS.out _ HL.out.aft).mono ?_
    rintro e w5 ⟨v5, rfl, ho5, h5⟩
    obtain ⟨x5, y5, rfl⟩ := ho5.shape
    replace HL := Lib.hid (HL.out.call h5)
    replace HN := Lib.hid (HN.out.aft h5)
    replace HW := Lib.hid (HW.out.aft h5)
    have HBe := Lib.hid ho5
    clear h5 ho5 HBs
    by_cases hE : rpathE kind ids ls id = 0
    rotate_left
    · have hb1 : (rpathE kind ids ls id != 0) = true := by simp [hE]
      have e1 : rpathW kind ids ls id = [] := if_neg hE
      have e2 : rbesW kind ids ls id = [] := if_neg hE
      rw [e1, e2]
      clear hE e1 e2 h120
      generalize rpathE kind ids ls id = pe at *
      go_wp2_with fail
      go_ret
      exact ⟨rfl, HL.out.aft⟩
    have hm0 : mayE kind ids ls = 0 := by
      unfold rpathE at hE
      split at hE
      · assumption
      · cases hE
    have hin : id ∈ ids := by
      unfold rpathE at hE
      rw [if_pos hm0] at hE
      split at hE
      · assumption
      · cases hE
    have hok := (mayE_zero.1 hm0).2
    have ha := cnt_lt hok.1.2.2 hin
    have hz : ¬ ids.length = 0 := by omega
    have HPs := Lib.hid (show ps.map Prod.fst = nodesL kind ids ls by rw [HF3.out, if_pos hm0])
    have HLn := Lib.hid (show (nodesL kind ids ls).length = ps.length by rw [← HPs.out, List.length_map])
    have HG := Lib.hid (fun k => show (nodesL kind ids ls).getD k nd0 = (ps.getD k ndP).1 by rw [← HPs.out]; exact fst_getD ps k)
    obtain ⟨i0, hws, hlv, hfr0, htt0⟩ := ways_law (kind := kind) hok ha
    rw [show wayN (nodesL kind ids ls) (nodesL kind ids ls).length (leafI ((cnt ids id : Nat) : Int) (nodesL kind ids ls)) = rpathW kind ids ls id from (if_pos hE).symm] at hws
    have HBw := Lib.hid (show rbesW kind ids ls id = besTo (nodesL kind ids ls) (rpathW kind ids ls id) ((rpathW kind ids ls id).length - 1) from if_pos hE)
    have HOnce := Lib.hid (fun (x : Nat) (hx : x < ids.length) => ways_once hok hws hx)
    have HBin := Lib.hid (bes_in hok hz hws _ (Nat.sub_lt hws.pos Nat.one_pos))
    rw [← HBw.out] at HOnce HBin
    have HRt := Lib.hid (nodes_root (kind := kind) hok hz)
    have HBd := Lib.hid (fun (p : Nat) (hp : p < (nodesL kind ids ls).length) => nodes_bd (kind := kind) hok hz hp)
    have HLt := Lib.hid (fun (p : Nat) (hp : p < (nodesL kind ids ls).length) => nodes_lt (kind := kind) hok hz hp)
    have HWs := Lib.hid hws
    have HLv := Lib.hid hlv
    have HF0 := Lib.hid hfr0
    have HT0 := Lib.hid htt0
    have hwl : (rpathW kind ids ls id).length ≤ 90000 ∧ ps.length ≤ 90000 := by
      have h1 : rpathW kind ids ls id = wayN (nodesL kind ids ls) (nodesL kind ids ls).length (leafI (cnt ids id : Nat) (nodesL kind ids ls)) := if_pos hE
      have h2 := wayN_length (nodesL kind ids ls) (nodesL kind ids ls).length (leafI (cnt ids id : Nat) (nodesL kind ids ls))
      rw [← h1] at h2
      have h := (below_length kind ls ls.length 0 []).2
      have h9 : 3 ^ ls.length ≤ 3 ^ 9 := Nat.pow_le_pow_right (by decide) (lv_nine2 hok)
      have h5 : (nodesL kind ids ls).length ≤ 90000 := by
        unfold nodesL
        rw [if_neg hz]
        simp only [List.length_nil] at h
        omega
      have := HLn.out
      omega
    have HFd2 := Lib.hid (HFd.out HS.out)
    have HIn := Lib.hid hin
    rw [hE, hm0]
    have HWq := Lib.hid (show rpathW kind ids ls id = rpathW kind ids ls id from rfl)
    clear hE hm0 hok hz hin hws hlv hfr0 htt0 HFd HPs HF3 HBw HS
    generalize rpathW kind ids ls id = W at *
    generalize rbesW kind ids ls id = Bs at *
    generalize nodesL kind ids ls = N at *
    go_wp2_with (first | (refine wpList_load_rowG (by kernel_rfl) 26 (.tmp 4) rfl _ rfl _ _ _ _ (HL.out.get 0 rfl) Try.underlying26 rfl (shp_info _ _) ?_))
    refine (HFd2.out _ HL.out.aft).mono ?_
    rintro e w6 ⟨rfl, h6⟩
    rw [decide_eq_true HIn.out]
    replace HL := Lib.hid (HL.out.call h6)
    replace HN := Lib.hid (HN.out.aft h6)
    replace HW := Lib.hid (HW.out.aft h6)
    replace HBe := Lib.hid (HBe.out.aft h6)
    have HAa := Lib.hid ha
    have HN120 := Lib.hid (show ids.length ≤ 120 by omega)
    clear h6 HIn ha h120
    generalize cnt ids id = a at *
    obtain ⟨m, hm⟩ : ∃ m, W.length = m + 1 := ⟨W.length - 1, by have := HWs.out.pos; omega⟩
    obtain ⟨r, hr⟩ : ∃ r, ps.length = r + 1 := ⟨ps.length - 1, by have h1 := HRt.out.1; rw [HLn.out] at h1; omega⟩
    obtain ⟨gw, cw, he, -, hcw⟩ := HW.out.atA HWs.out.pos
    injection he with he1 he2 he3
    subst he1 he3
    have hcm := hcw w6 (Aft.refl _) m (by omega)
    have hla := HWs.out.last
    rw [hm, Nat.add_sub_cancel, HLn.out, hr, Nat.add_sub_cancel] at hla
    rw [hla] at hcm
    have HM := Lib.hid hm
    have HR := Lib.hid hr
    have HCw := Lib.hid hcw
    have hm9 : m ≤ 90000 := by omega
    have hr9 : r ≤ 90000 := by omega
    rw [hm, hr]
    clear hm hr hla he2 hcw hwl HFd2 HWq
    have hi0 : i0 < ps.length := by
      obtain ⟨k, k1, k2, -⟩ := HWs.out.all 0 HWs.out.pos
      rw [HWs.out.head] at k1
      rw [HLn.out] at k2
      have : i0 = k := by omega
      omega
    obtain ⟨g3, c3', he, -, -⟩ := HN.out.atA hi0
    injection he with he1 he2 he3
    subst he1 he3
    have HC3 := Lib.hid (fun (k : Nat) (hk : k < ps.length) => show ∀ wx, Aft w6 wx → ∀ (j : Nat) (u : Value), (ndR (N.getD k nd0) (ps.getD k ndP).2)[j]? = some u → wx.cell? ⟨g3, k * 7 + j, none⟩ = some u by
      obtain ⟨g', c', he', -, hc'⟩ := HN.out.atA hk
      cases he'
      rw [HG.out]
      exact hc')
    have HI0 := Lib.hid hi0
    clear he2 hi0
    go_wp2_with fail
    go_loop [108] (fun v108 => ∃ j : Nat, j ≤ m + 1 ∧ v108 = .int .i64 (j : Int)) (fun v108 => m + 1 - (intOf v108).toNat)
    case atStart => exact ⟨0, by omega, rfl⟩
    case round =>
      obtain ⟨j, hj, rfl⟩ := hrel
      by_cases hjl : j < m + 1
      · have hjl' : (j : Int) < (m : Int) + 1 := by omega
        obtain ⟨k, k1, k2, k3, k4⟩ := HWs.out.all j (by rw [HM.out]; exact hjl)
        rw [HLn.out] at k2
        rw [HF0.out] at k3
        rw [HT0.out] at k4
        have cw0 := HCw.out w6 (Aft.refl _) j (by rw [HM.out]; exact hjl)
        rw [k1] at cw0
        have cF := HC3.out k k2 w6 (Aft.refl _) 3 _ rfl
        have cT := HC3.out k k2 w6 (Aft.refl _) 4 _ rfl
        have hkr : (k : Int) < (r : Int) + 1 := by have := HR.out; omega
        have hk0 : ¬ (k : Int) < 0 := by omega
        have hkd : decide ((r : Int) + 1 ≤ (k : Int)) = false := decide_eq_false (by omega)
        cases j with
        | zero =>
          rw [HWs.out.head] at k1
          have hki : k = i0 := by omega
          subst hki
          have cL : w6.cell? ⟨g3, k * 7, none⟩ = some (.int .i64 0) := by rw [← HLv.out]; exact HC3.out k k2 w6 (Aft.refl _) 0 _ rfl
          generalize (N.getD k nd0).fr = fr at *
          generalize (N.getD k nd0).tt = tt at *
          have hdF : decide ((a : Int) < fr) = false := decide_eq_false (by omega)
          have hdT : decide (tt ≤ (a : Int)) = false := decide_eq_false (by omega)
          have hpF : ¬ (a : Int) < fr := by omega
          have hpT : ¬ tt ≤ (a : Int) := by omega
          clear k3 k4 k1
          go_wp2_with fail
          exact ⟨⟨1, by omega, rfl⟩, by simp [intOf]⟩
        | succ j =>
          obtain ⟨q, p, q1, q2, q3⟩ := HWs.out.step j (by rw [HM.out]; exact hjl)
          have hpk : p = k := by omega
          subst hpk
          have hql : q < ps.length := by have h1 := q3.2.1; omega
          have cP : w6.cell? ⟨gw, j, none⟩ = some (.int .i64 (q : Int)) := by rw [← q1]; exact HCw.out w6 (Aft.refl _) j (by rw [HM.out]; omega)
          have cU : w6.cell? ⟨g3, q * 7 + 6, none⟩ = some (.int .i64 (p : Int)) := by rw [← q3.1]; exact HC3.out q hql w6 (Aft.refl _) 6 _ rfl
          have hqr : (q : Int) < (r : Int) + 1 := by have := HR.out; omega
          have hj9 : j ≤ 90000 := by omega
          have hjm : (j : Int) < (m : Int) + 1 := by omega
          generalize (N.getD p nd0).fr = fr at *
          generalize (N.getD p nd0).tt = tt at *
          have hdF : decide ((a : Int) < fr) = false := decide_eq_false (by omega)
          have hdT : decide (tt ≤ (a : Int)) = false := decide_eq_false (by omega)
          have hpF : ¬ (a : Int) < fr := by omega
          have hpT : ¬ tt ≤ (a : Int) := by omega
          have hj0 : ((j : Int) + 1 == 0) = false := by simp; omega
          have hj1 : (0 : Int) < (j : Int) + 1 := by omega
          clear k3 k4 k1 q1 q2 q3
          go_wp2_with fail
          exact ⟨⟨j + 1 + 1, by omega, by go_num⟩, by simp [intOf]; omega⟩
      · obtain rfl : j = m + 1 := by omega
        have hjl' : ¬ ((m + 1 : Nat) : Int) < (m : Int) + 1 := by omega
        have cR : w6.cell? ⟨g3, r * 7 + 6, none⟩ = some (.int .i64 (-1)) := by
          have h1 := HRt.out.2.2.2
          rw [HLn.out, HR.out, Nat.add_sub_cancel] at h1
          rw [← h1]
          exact HC3.out r (by have := HR.out; omega) w6 (Aft.refl _) 6 _ rfl
        have hcs := shp_i (HL.out.get 0 rfl)
        have haa : (a : Int) < (ids.length : Nat) := Int.ofNat_lt.2 HAa.out
        go_wp2_with (first | (refine wpList_makeInts (by kernel_rfl) (.tmp 179) (.tmp 179) rfl ids.length (ids.length : Int) rfl rfl rfl (by have := HN120.out; omega) ?_; intro w7 aS gM; have HA7 := Lib.hid aS; have cM : w7.cell? ⟨w6.heap.size, a, none⟩ = some (.int .i64 0) := mk_zero gM.out HAa.out; clear aS) | (refine wpList_store_num rfl (.tmp 186) (.tmp 185) rfl w6.heap.size w6.heap.size ids.length ids.length (List.replicate ids.length 0) a (by rw [List.length_replicate]; exact HAa.out) 1 gM.out rfl rfl ?_; intro w8 q1 q2; have HM8 := Lib.hid q1; have HA8 := Lib.hid (aft_fr HA7.out gM.out (Nat.le_refl _) q2); clear q1 q2 cM))
        clear hcs cR haa
        have HM0 := Lib.hid (fun (x : Nat) (hx : x < ids.length) => show ((List.replicate ids.length (0 : Int)).set a 1).getD x 0 = ((cntZ N i0 Bs 0 x : Nat) : Int) by
          have e1 : cntZ N i0 Bs 0 x = indN N (x : Int) i0 := Nat.zero_add _
          rw [e1]
          unfold indN
          rw [HF0.out, HT0.out]
          by_cases e : a = x
          · subst e
            rw [getD_set_selfN (by rw [List.length_replicate]; exact hx), if_pos (by omega)]
            rfl
          · rw [getD_set_neN e, if_neg (by omega), List.getD_eq_getElem?_getD, List.getElem?_replicate, if_pos hx]
            rfl)
        have HM1 := Lib.hid (show ((List.replicate ids.length (0 : Int)).set a 1).length = ids.length by rw [List.length_set, List.length_replicate])
        generalize (List.replicate ids.length (0 : Int)).set a 1 = M0 at *
        go_loopw [189] (fun v189 wr => ∃ (j : Nat) (M : List Int), j ≤ Bs.length ∧ v189 = .int .i64 (j : Int) ∧ OwnI wr w6.heap.size (.slice (some ⟨w6.heap.size, 0, none⟩) ids.length ids.length) M ∧ M.length = ids.length ∧ Aft w6 wr ∧ ∀ x, x < ids.length → M.getD x 0 = ((cntZ N i0 Bs j x : Nat) : Int)) (fun v189 _ => Bs.length - (intOf v189).toNat)
        case atStart => exact ⟨0, M0, by omega, rfl, HM8.out, HM1.out, HA8.out, HM0.out⟩
        case round =>
          obtain ⟨j, M, hj, rfl, hO, hl, hA, hc⟩ := hrel
          have HO := Lib.hid hO
          have HMl0 := Lib.hid hl
          have HA := Lib.hid hA
          have HC := Lib.hid hc
          clear hO hl hA hc
          by_cases hjl : j < Bs.length
          · have hjl' : (j : Int) < (Bs.length : Nat) := by omega
            obtain ⟨k, hk, hkl⟩ := HBin.out (Bs.getD j 0) (by rw [List.getD_eq_getElem?_getD, List.getElem?_eq_getElem hjl]; exact List.getElem_mem hjl)
            have hkn := hkl
            rw [HLn.out] at hkl
            obtain ⟨gb, cb, he, -, hcb⟩ := HBe.out.atA (by omega)
            injection he with he1 he2 he3
            subst he1 he3
            have cB := hcb wr HA.out j hjl
            rw [hk] at cB
            have hbd := HBd.out k hkn
            have hlt := HLt.out k hkn
            have HCn := Lib.hid (fun (x : Nat) => show cntZ N i0 Bs (j + 1) x = cntZ N i0 Bs j x + (if (N.getD k nd0).fr ≤ (x : Int) ∧ (x : Int) < (N.getD k nd0).tt then 1 else 0) by rw [cntZ_succ hjl, hk]; rfl)
            have cF := HC3.out k hkl wr HA.out 3 _ rfl
            have HCt := Lib.hid (fun wx hw => HC3.out k hkl wx hw 4 _ rfl)
            obtain ⟨f, hf⟩ : ∃ f : Nat, (N.getD k nd0).fr = (f : Int) := ⟨(N.getD k nd0).fr.toNat, by omega⟩
            obtain ⟨t, ht⟩ : ∃ t : Nat, (N.getD k nd0).tt = (t : Int) := ⟨(N.getD k nd0).tt.toNat, by omega⟩
            rw [hf, ht] at HCn
            rw [ht] at HCt
            rw [hf] at cF
            rw [hf, ht] at hlt
            rw [ht] at hbd
            have htn : t ≤ ids.length := by omega
            have hft : f ≤ t := by omega
            have hkr : (k : Int) < (r : Int) + 1 := by have := HR.out; omega
            have hk0 : ¬ (k : Int) < 0 := by omega
            have hbl : Bs.length ≤ 9223372036854775807 := by
              obtain ⟨_, _, _, h1, h2⟩ := HBe.out.rd.numS
              omega
            clear he2 hcb hbd hlt hf ht hk
            go_wp2_with fail
            go_loopw [21] (fun v21 wr => ∃ (x : Nat) (M : List Int), f ≤ x ∧ x ≤ t ∧ v21 = .int .i64 (x : Int) ∧ OwnI wr w6.heap.size (.slice (some ⟨w6.heap.size, 0, none⟩) ids.length ids.length) M ∧ M.length = ids.length ∧ Aft w6 wr ∧ ∀ y, y < ids.length → M.getD y 0 = ((cntZ N i0 Bs j y + (if (f : Int) ≤ (y : Int) ∧ (y : Int) < (x : Int) then 1 else 0) : Nat) : Int)) (fun v21 _ => t - (intOf v21).toNat)
            case atStart => exact ⟨f, M, Nat.le_refl _, hft, rfl, HO.out, HMl0.out, HA.out, fun y hy => by rw [HC.out y hy, if_neg (by omega), Nat.add_zero]⟩
            case round =>
              obtain ⟨x, M, hx1, hx2, rfl, hO, hl, hA, hc⟩ := hrel
              have HMo := Lib.hid hO
              have HMl := Lib.hid hl
              have HMa := Lib.hid hA
              have HMc := Lib.hid hc
              have cT := HCt.out wr hA
              clear hO hl hA hc
              by_cases hxt : x < t
              · have hxt' : (x : Int) < (t : Int) := by omega
                have hxn : x < ids.length := by omega
                have hxn' : (x : Int) < (ids.length : Nat) := by omega
                have hxz : ¬ (x : Int) < 0 := by omega
                have cX := Rd.num_at HMo.out.rd (i := x) (by rw [HMl.out]; exact hxn)
                rw [Nat.zero_add, HMc.out x hxn, if_neg (by omega), Nat.add_zero] at cX
                have hc1 := cntZ_le (N := N) (i := i0) (Bs := Bs) j x
                rw [HOnce.out x hxn] at hc1
                have HCx := Lib.hid (show cntZ N i0 Bs j x = cntZ N i0 Bs j x from rfl)
                have HNew := Lib.hid (fun (y : Nat) (hy : y < ids.length) => show (M.set x (((cntZ N i0 Bs j x : Nat) : Int) + 1)).getD y 0 = ((cntZ N i0 Bs j y + (if (f : Int) ≤ (y : Int) ∧ (y : Int) < ((x + 1 : Nat) : Int) then 1 else 0) : Nat) : Int) by
                  by_cases e : x = y
                  · subst e
                    rw [getD_set_selfN (by rw [HMl.out]; exact hxn), if_pos (by omega)]
                    rfl
                  · rw [getD_set_neN e, HMc.out y hy]
                    congr 2
                    by_cases c1 : (f : Int) ≤ (y : Int) ∧ (y : Int) < (x : Int)
                    · rw [if_pos c1, if_pos (by omega)]
                    · rw [if_neg c1, if_neg (by omega)])
                generalize cntZ N i0 Bs j x = c at *
                go_wp2_with (first | (refine wpList_store_num rfl (.tmp 228) (.tmp 227) rfl w6.heap.size w6.heap.size ids.length ids.length M x (by rw [HMl.out]; exact hxn) ((c : Int) + 1) HMo.out rfl rfl ?_; intro w8 q1 q2; have HO8 := Lib.hid q1; have HA8 := Lib.hid (aft_fr HMa.out HMo.out (Nat.le_refl _) q2); clear q1 q2))
                go_roundw
                case rel => exact ⟨x + 1, _, by omega, by omega, by go_num, HO8.out, by rw [List.length_set]; exact HMl.out, HA8.out, HNew.out⟩
                case measure => simp [intOf]; omega
              · obtain rfl : x = t := by omega
                have hxt' : ¬ (x : Int) < (x : Int) := by omega
                go_wp2_with fail
                go_roundw
                case rel => exact ⟨j + 1, M, by omega, by go_num, HMo.out, HMl.out, HMa.out, fun y hy => by rw [HMc.out y hy, HCn.out y]⟩
                case measure => simp [intOf]; omega
          · obtain rfl : j = Bs.length := by omega
            have hjl' : ¬ ((Bs.length : Nat) : Int) < (Bs.length : Nat) := by omega
            have HOne := Lib.hid (fun (x : Nat) (hx : x < ids.length) => show M.getD x 0 = 1 by
              rw [HC.out x hx]
              have h1 := HOnce.out x hx
              unfold cntZ
              rw [List.take_length, h1]
              rfl)
            go_wp2_with fail
            go_loop [232] (fun v232 => ∃ x : Nat, x ≤ ids.length ∧ v232 = .int .i64 (x : Int)) (fun v232 => ids.length - (intOf v232).toNat)
            case atStart => exact ⟨0, by omega, rfl⟩
            case round =>
              obtain ⟨x, hx, rfl⟩ := hrel
              have hn120 := HN120.out
              by_cases hxl : x < ids.length
              · have hxl' : (x : Int) < (ids.length : Nat) := by omega
                have cX := Rd.num_at HO.out.rd (i := x) (by rw [HMl0.out]; exact hxl)
                rw [Nat.zero_add, HOne.out x hxl] at cX
                go_wp2_with fail
                go_round
                case rel => exact ⟨x + 1, by omega, by go_num⟩
                case measure => simp [intOf]; omega
              · obtain rfl : x = ids.length := by omega
                have hxl' : ¬ ((ids.length : Nat) : Int) < (ids.length : Nat) := by omega
                go_wp2_with fail
                go_ret
                exact ⟨rfl, Aft.trans HL.out.aft HA.out⟩
end Go.Proofs.Ytpnckphfjcnooaa
