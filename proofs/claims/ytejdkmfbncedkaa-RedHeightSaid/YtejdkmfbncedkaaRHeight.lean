/- RedHeight of law 11, walked. -/
import Derived.Test.YtejdkmfbncedkaaRH
import Derived.Test.YtejdkmfbncedkaaB2
import Derived.Test.YtejdkmfbncedkaaB3
import Derived.Deep.Cut
namespace Go.Proofs.Ytejdkmfbncedkaa
open Go Go.RowKit
set_option linter.unusedSimpArgs false
theorem bld_empty : ∀ (xs ids : List Int) (ls : List (List Int)), ¬ (bld xs ids ls).1 = 0 → (bld xs ids ls).2.1 = [] ∧ (bld xs ids ls).2.2 = []
  | [], ids, ls, h => absurd rfl h
  | id :: xs, ids, ls, h => by
    by_cases e : insE ids ls id = 0
    · rw [bld_good e] at h ⊢
      exact bld_empty xs _ _ h
    · rw [bld_bad e]
      exact ⟨rfl, rfl⟩
/-- How many leaves stand ahead. -/
def lvT (N : List Nd) (i : Nat) : Nat := leavesN (N.take i)
theorem lvT_succ (N : List Nd) {i : Nat} (h : i < N.length) : lvT N (i + 1) = lvT N i + (if (N.getD i nd0).lv = 0 then 1 else 0) := by
  unfold lvT
  rw [take_snoc N h, leaves_app]
  congr 1
  generalize N.getD i nd0 = y
  unfold leavesN
  rw [List.filter_cons]
  by_cases e : y.lv = 0
  · rw [if_pos (by simp [e]), if_pos e]
    rfl
  · rw [if_neg (by simp [e]), if_neg e]
    rfl
theorem lvT_le (N : List Nd) (i : Nat) : lvT N i ≤ i := Nat.le_trans (List.length_filter_le _ _) (by rw [List.length_take]; exact Nat.min_le_left _ _)
theorem lv_log {n k l : Nat} (h1 : 2 ^ l ≤ n) (h2 : n < 2 ^ (k + 1)) : l ≤ k := by
  apply Classical.byContradiction
  intro h
  have : 2 ^ (k + 1) ≤ 2 ^ l := Nat.pow_le_pow_right (by decide) (by omega)
  omega
set_option maxRecDepth 100000 in
set_option maxHeartbeats 8000000 in
theorem redHeight_any (v : Value) (xs : List Int) (kind : Int) (w : World) (hi : Rd w v (zv xs)) :
    Calls Try.prog 4 #[v, .int .i64 kind] w fun e w' => e = .returned (.bool true) ∧ Aft w w' := by
  have HR := Lib.hid hi
  obtain ⟨ao, cap, rfl, -, -⟩ := hi.numS
  have HL := Lib.hid (Led.start w)
  clear hi
  go_enter Try.func4, Try.ntmps4
  go_wp2_with fail
  refine (live11_any _).mono ?_
  rintro e w1 ⟨rfl, h1⟩
  replace HL := Lib.hid (HL.out.call h1)
  clear h1
  by_cases h150 : (150 : Int) < (xs.length : Nat)
  · go_wp2_with fail
    go_ret
    exact ⟨rfl, HL.out.aft⟩
  have hx : xs.length ≤ 150 := by omega
  have HX := Lib.hid hx
  clear hx
  go_wp2_with fail
  refine (tbuild_any _ xs _ (HR.out.grow HL.out.aft) (by have := HX.out; omega)).mono ?_
  rintro e w2 ⟨vi, vl, vs, he, ho, h2⟩
  have hsp := bld_spec xs [] [] ok_empty (by have := HX.out; simp; omega)
  have hem := bld_empty xs [] []
  obtain ⟨be, ids, ls, hb⟩ : ∃ be ids ls, bld xs [] [] = (be, ids, ls) := ⟨_, _, _, rfl⟩
  rw [hb] at he ho hsp hem
  dsimp only at he ho hsp hem
  subst he
  have hok : OkT ids ls := by
    by_cases e0 : be = 0
    · exact (hsp.2 e0).1
    · obtain ⟨rfl, rfl⟩ := hem e0
      exact ok_empty
  have hlen : be = 0 → ids.length = xs.length := fun e0 => by simpa using (hsp.2 e0).2.2
  have HOk := Lib.hid hok
  have HLen := Lib.hid hlen
  have HNd := Lib.hid (fun (wx : World) (ha : Aft w2 wx) => rnodes_any kind vi vl ids ls wx (ho.ids.rd.grow ha) (ho.lv.rd.aft ha) (small_of hok))
  have HHi := Lib.hid (fun (wx : World) (ha : Aft w2 wx) => high_any kind vi vl ids ls wx (ho.ids.rd.grow ha) (ho.lv.rd.aft ha) (small_of hok))
  obtain ⟨a1, c1, b1, d1, rfl, rfl⟩ := ho.shape
  replace HL := Lib.hid (HL.out.call h2)
  have HA := Lib.hid (Aft.refl w2)
  clear ho h2 hsp hem hb hok hlen
  go_wp2_with (first | (refine wpList_allocO rfl 26 rfl (.cells (shpL (.slice none 0 0) (.slice none 0 0)).toArray 26) alloc_shp ?_; intro w' aa gg zz; replace HA := Lib.hid (Aft.trans HA.out aa); replace HL := Lib.hid (HL.out.alloc aa gg.out); clear aa gg zz; try simp only [List.nil_append, List.cons_append, List.set_cons_zero, List.set_cons_succ] at HL) | (refine wpList_store_shp rfl (.tmp 6) (.tmp 30) _ _ _ (.slice a1 ids.length c1) (.slice b1 ls.length d1) rfl rfl rfl rfl rfl (HL.out.get 0 rfl) ?_; intro w3 q1 q2 q3; replace HA := Lib.hid (q3 _ _ (Nat.le_refl _) HA.out); replace HL := Lib.hid (HL.out.store 0 rfl q1 q2 q3); clear q1 q2 q3; try simp only [List.nil_append, List.cons_append, List.set_cons_zero, List.set_cons_succ] at HL) | (refine wpList_load_rowG (by kernel_rfl) 26 (.tmp 6) rfl _ rfl _ _ _ _ (HL.out.get 0 rfl) Try.underlying26 rfl (shp_info _ _) ?_))
  refine (HNd.out _ HA.out).mono ?_
  rintro e w4 ⟨v4, ps, rfl, ho4, hf4, h4⟩
  obtain ⟨x4, y4, rfl⟩ := ho4.shape
  replace HL := Lib.hid (HL.out.call h4)
  replace HA := Lib.hid (Aft.trans HA.out h4)
  have HN := Lib.hid ho4
  have HF := Lib.hid hf4
  clear h4 ho4 hf4 HNd
  go_wp2_with (first | (refine wpList_load_rowG (by kernel_rfl) 26 (.tmp 6) rfl _ rfl _ _ _ _ (HL.out.get 0 rfl) Try.underlying26 rfl (shp_info _ _) ?_))
  refine (HHi.out _ HA.out).mono ?_
  rintro e w5 ⟨rfl, h5⟩
  replace HL := Lib.hid (HL.out.call h5)
  replace HN := Lib.hid (HN.out.aft h5)
  clear h5 HHi HA
  by_cases hbe : be = 0
  rotate_left
  · have hb1 : (be != 0) = true := by simp [hbe]
    generalize highN kind ids ls = hv at *
    generalize mayE kind ids ls = me at *
    clear h150
    go_wp2_with fail
    go_ret
    exact ⟨rfl, HL.out.aft⟩
  have HIl := Lib.hid (HLen.out hbe)
  subst hbe
  by_cases hz : mayE kind ids ls = 0
  rotate_left
  · rw [(mayE_or kind ids ls).resolve_left hz]
    generalize highN kind ids ls = hv at *
    clear hz h150
    go_wp2_with fail
    go_ret
    exact ⟨rfl, HL.out.aft⟩
  obtain ⟨hk, hok⟩ := mayE_zero.1 hz
  have HK := Lib.hid hk
  have hhn : highN kind ids ls = hiN (nodesL kind ids ls) := if_pos hz
  rw [hhn]
  have HHs := Lib.hid (hiN_short hk hok)
  generalize hiN (nodesL kind ids ls) = hv at *
  replace HF := Lib.hid (show ps.map Prod.fst = nodesL kind ids ls by rw [HF.out, if_pos hz])
  have HGd := Lib.hid (fun (i : Nat) (hi : i < ps.length) => show HiEx kind ls.length (nodesL kind ids ls) (ps.getD i ndP).1 by rw [← fst_getD, HF.out]; exact nodes_hi hk hok (by rw [← HF.out, List.length_map]; exact hi))
  have HG := Lib.hid (fun k => show (nodesL kind ids ls).getD k nd0 = (ps.getD k ndP).1 by rw [← HF.out]; exact fst_getD ps k)
  have HLn := Lib.hid (show (nodesL kind ids ls).length = ps.length by rw [← HF.out, List.length_map])
  have HCt := Lib.hid (show leavesN (nodesL kind ids ls) = xs.length ∧ (xs.length = 0 → ps.length = 0) ∧ (¬ xs.length = 0 → ps.length < 2 * xs.length) by
    by_cases e0 : ids.length = 0
    · have e1 : nodesL kind ids ls = [] := by unfold nodesL; exact if_pos e0
      have e2 : ps.length = 0 := by rw [← HLn.out, e1]; rfl
      rw [e1]
      exact ⟨by rw [← HIl.out, e0]; rfl, fun _ => e2, fun q => absurd (HIl.out.symm.trans e0) q⟩
    · have h1 := nodes_count (kind := kind) hok e0
      rw [HIl.out, HLn.out] at h1
      exact ⟨h1.1, fun q => absurd (HIl.out.trans q) e0, fun _ => h1.2⟩)
  have hps : ps.length ≤ 300 := by
    have h1 := HCt.out
    have h2 := HX.out
    omega
  have HPs := Lib.hid hps
  have HPw := Lib.hid (show ¬ ids.length = 0 → 2 ^ ls.length ≤ ids.length from fun q => lv_pow hok q)
  have HP0 := Lib.hid (show ids.length = 0 → hv = 0 by
    intro q
    have h1 := HHs.out
    have h2 := hok.2
    rw [q] at h2
    rw [okLv_zero h2] at h1
    simp at h1
    omega)
  clear hz hhn hok h150
  generalize hmay : mayE kind ids ls = me at *
  obtain rfl : me = 0 := by rw [← hmay]; exact mayE_zero.2 ⟨HK.out, HOk.out⟩
  clear hmay hk
  go_wp2_with fail
  go_loopw [13, 63] (fun v13 v63 wr => ∃ i : Nat, i ≤ ps.length ∧ v63 = .int .i64 (i : Int) ∧ v13 = .int .i64 ((lvT (nodesL kind ids ls) i : Nat) : Int) ∧ Aft w5 wr ∧ Led w wr [(w2.heap.size, .cells (shpL (.slice a1 ids.length c1) (.slice b1 ls.length d1)).toArray 26)]) (fun _ v _ => ps.length - (intOf v).toNat)
  case atStart => exact ⟨0, by omega, rfl, rfl, Aft.refl _, HL.out⟩
  case round =>
    clear HL
    obtain ⟨i, hi, rfl, rfl, hA, hL⟩ := hrel
    have HL := Lib.hid hL
    have HA := Lib.hid hA
    clear hA hL
    by_cases hlt : i < ps.length
    · have hlt' : (i : Int) < (ps.length : Nat) := by omega
      have hown := HN.out.own (ps.getD i ndP) (by rw [List.getD_eq_getElem?_getD, List.getElem?_eq_getElem hlt]; exact List.getElem_mem hlt)
      obtain ⟨ka, kc, hkv⟩ := hown.shape
      obtain ⟨g4, c4, he, -, hrg⟩ := HN.out.rngA hlt
      injection he with he1 he2 he3
      subst he1 he3
      have hrx := hrg wr HA.out
      obtain ⟨ks, hgd⟩ := HGd.out i hlt
      have HLs := Lib.hid (lvT_succ (nodesL kind ids ls) (i := i) (by rw [HLn.out]; exact hlt))
      rw [HG.out] at HLs
      have hlv := lvT_le (nodesL kind ids ls) i
      have hlvb : ((lvT (nodesL kind ids ls) i : Nat) : Int) ≤ 300 := by have := HPs.out; omega
      generalize hln : lvT (nodesL kind ids ls) i = ln at *
      rw [hkv] at hrx hown
      have HKw := Lib.hid (show wrap64 (4 - kind) = 4 - kind from wrap64_mid (by have := HK.out; omega) (by have := HK.out; omega))
      generalize (ps.getD i ndP).1 = x at *
      have hkl : x.ks.length = ks.length := by rw [hgd.kse, kz_length]
      rw [hkl] at hrx hown
      have HRx := Lib.hid hrx
      have HKx := Lib.hid hown
      have HGx := Lib.hid hgd
      have hm1 : ¬ ((ks.length : Nat) : Int) = 1 := by have := hgd.k1; omega
      have hm1' : (((ks.length : Nat) : Int) == 1) = false := by simpa using hm1
      have hm4 : ¬ 4 - kind < ((ks.length : Nat) : Int) := by have := hgd.k4; omega
      have hkw := HKw.out
      have hrd : x.rd = true → kind = 2 ∧ ¬ x.lv = 0 := hgd.rd
      have HRd := Lib.hid hrd
      have HKn := Lib.hid hgd.kid
      have hk0 := hgd.k0
      clear hrx hrg hkv he2 hown hgd hln hkl hlv hrd
      by_cases hlv0 : x.lv = 0
      · have hks0 : ks.length = 0 := hk0.2 hlv0
        have hxr : x.rd = false := by
          cases hr : x.rd with
          | false => rfl
          | true => exact absurd hlv0 (HRd.out hr).2
        rw [if_pos hlv0] at HLs
        obtain ⟨xl, xi, xr, xf, xt, xk, xu⟩ := x
        simp only at hlv0 hxr
        subst hlv0 hxr
        have hks : ks = [] := List.eq_nil_of_length_eq_zero hks0
        subst hks
        have hm5 : ¬ 4 - kind < 0 := by rcases HK.out with rfl | rfl <;> decide
        clear hk0 hks0 hm1 hm1' hm4 HKn HRd
        simp only [List.length_nil] at HRx HKx
        go_wp2_with (first | (refine wpList_dstT 66 rfl ?_; refine wpList_load_mid2 (by kernel_rfl) 38 (.tmp 65) rfl _ _ rfl (ndR ⟨0, xi, false, xf, xt, xk, xu⟩ (.slice ka 0 kc)) HRx.out _ Try.underlying38 rfl (nd_info3 _ _) ?_) | (refine wpList_allocO rfl 38 rfl (.cells (ndR nd0 (.slice none 0 0)).toArray 38) alloc_nd ?_; intro w' aa gg zz; have HA0 := HA; replace HA := Lib.hid (Aft.trans HA.out aa); replace HL := Lib.hid (HL.out.alloc aa gg.out); clear aa gg zz; try simp only [List.nil_append, List.cons_append, List.set_cons_zero, List.set_cons_succ] at HL) | (refine wpList_store_rowZ rfl 38 (.tmp 15) (.tmp 66) rfl _ (ndR ⟨0, xi, false, xf, xt, xk, xu⟩ (.slice ka 0 kc)).toArray rfl rfl _ _ (HL.out.get 1 rfl) (nd_info _ _) rfl (all_one ndR_one) ?_; intro w' b1 b2 b3; replace HA := Lib.hid (b3 _ _ (Below.size HA0.out) HA.out); replace HL := Lib.hid (HL.out.store 1 rfl b1 b2 b3); clear b1 b2 b3; try simp only [List.nil_append, List.cons_append, List.set_cons_zero, List.set_cons_succ] at HL; have d0 := cell_part (n := 0) (HL.out.get 1 rfl) rfl; have d2 := cell_part (n := 2) (HL.out.get 1 rfl) rfl; have d5 := cell_part (n := 5) (HL.out.get 1 rfl) rfl))
        go_loop [110] (fun v110 => v110 = .int .i64 0) (fun _ => 0)
        case atStart => exact rfl
        case round =>
          subst hrel
          go_wp2_with fail
          go_roundw
          case rel => exact ⟨i + 1, by omega, by go_num, by rw [HLs.out]; rfl, HA.out, HL.out.cut 1⟩
          case measure => simp [intOf]; omega
      · have hk1 := HGx.out.k1
        have hm0 : ¬ ((ks.length : Nat) : Int) = 0 := fun q => hlv0 (hk0.1 (by omega))
        have hm0' : (((ks.length : Nat) : Int) == 0) = false := by simpa using hm0
        have hl0 : (x.lv == 0) = false := by simpa using hlv0
        have hkse := HGx.out.kse
        have HKs := Lib.hid hkse
        rw [if_neg hlv0] at HLs
        clear hk0 hk1 hkse HGx
        have HB3 := Lib.hid (fun k (hk : k < (nodesL kind ids ls).length) => show k < ps.length by rw [← HLn.out]; exact hk)
        have HKd := Lib.hid (fun j (hj : j < ks.length) => show ks.getD j 0 < ps.length ∧ ((ps.getD (ks.getD j 0) ndP).1.rd = true → x.rd = false ∧ j = 0) by
          have h := HKn.out j hj
          rw [← HG.out]
          exact ⟨HB3.out _ h.1, h.2.1⟩)
        clear HKn
        have hcase : ∀ b, x.rd = b → (b = true → (kind != 2) = false) := fun b hb q => by
          rw [(HRd.out (hb.trans q)).1]
          rfl
        cases hr : x.rd
        all_goals
          have hk2 := hcase _ hr
          first | (have hkk := hk2 rfl; clear hk2) | clear hk2
          clear hcase
          have HRr := Lib.hid hr
          clear hr
          go_wp2_with (first | (refine wpList_dstT 66 rfl ?_; refine wpList_load_mid2 (by kernel_rfl) 38 (.tmp 65) rfl _ _ rfl (ndR x (.slice ka ks.length kc)) HRx.out _ Try.underlying38 rfl (nd_info3 _ _) ?_) | (refine wpList_allocO rfl 38 rfl (.cells (ndR nd0 (.slice none 0 0)).toArray 38) alloc_nd ?_; intro w' aa gg zz; have HA0 := HA; replace HA := Lib.hid (Aft.trans HA.out aa); replace HL := Lib.hid (HL.out.alloc aa gg.out); clear aa gg zz; try simp only [List.nil_append, List.cons_append, List.set_cons_zero, List.set_cons_succ] at HL) | (refine wpList_store_rowZ rfl 38 (.tmp 15) (.tmp 66) rfl _ (ndR x (.slice ka ks.length kc)).toArray rfl rfl _ _ (HL.out.get 1 rfl) (nd_info _ _) rfl (all_one ndR_one) ?_; intro w' b1 b2 b3; replace HA := Lib.hid (b3 _ _ (Below.size HA0.out) HA.out); replace HL := Lib.hid (HL.out.store 1 rfl b1 b2 b3); clear b1 b2 b3; try simp only [List.nil_append, List.cons_append, List.set_cons_zero, List.set_cons_succ] at HL; have d0 := cell_part (n := 0) (HL.out.get 1 rfl) rfl; have d2 := cell_part (n := 2) (HL.out.get 1 rfl) (show _ = some (Value.bool x.rd) from rfl); rw [HRr.out] at d2; have d5 := cell_part (n := 5) (HL.out.get 1 rfl) rfl))
          go_loop [110] (fun v110 => ∃ j : Nat, j ≤ ks.length ∧ v110 = .int .i64 (j : Int)) (fun v => ks.length - (intOf v).toNat)
          case atStart => exact ⟨0, by omega, rfl⟩
          case round =>
            obtain ⟨j, hj, rfl⟩ := hrel
            by_cases hjl : j < ks.length
            · have hjl' : (j : Int) < (ks.length : Nat) := by omega
              have hkb : ks.length ≤ 9223372036854775807 := by
                obtain ⟨_, _, _, h1, h2⟩ := HKx.out.rd.numS
                have h3 : x.ks.length = ks.length := by rw [HKs.out, kz_length]
                omega
              obtain ⟨gk, ck, he, -, hkc⟩ := HKx.out.atA (by rw [HKs.out, kz_length]; omega)
              rw [HKs.out, kz_length] at he
              injection he with he1 he2 he3
              subst he1 he3
              have hck := hkc w' HA.out j (by rw [HKs.out, kz_length]; exact hjl)
              rw [HKs.out, kz_at] at hck
              obtain ⟨hkm, hkr⟩ := HKd.out j hjl
              obtain ⟨g5, c5, he, -, hc5⟩ := HN.out.atA hkm
              injection he with he1 he4 he3
              cases he1
              have hrr := hc5 w' HA.out 2 _ rfl
              generalize ks.getD j 0 = k at *
              generalize hrb : (ps.getD k ndP).1.rd = rb at *
              have hkm' : (k : Int) < (ps.length : Nat) := Int.ofNat_lt.2 hkm
              have hk5 : ¬ (ps.length : Int) ≤ (k : Int) := by omega
              have hk6 : ¬ (k : Int) < 0 := by omega
              clear he2 he4 hkc hc5 hrb
              cases rb with
              | false =>
                clear hkr
                go_wp2_with fail
                go_round
                case rel => exact ⟨j + 1, by omega, by go_num⟩
                case measure => simp [intOf]; omega
              | true =>
                obtain ⟨hx0, rfl⟩ := hkr rfl
                clear hkr
                first
                  | (exfalso; rw [HRr.out] at hx0; cases hx0; done)
                  | (clear hx0
                     go_wp2_with fail
                     go_round
                     case rel => exact ⟨1, by omega, by go_num⟩
                     case measure => simp [intOf]; omega)
            · obtain rfl : j = ks.length := by omega
              have hjl' : ¬ ((ks.length : Nat) : Int) < (ks.length : Nat) := by omega
              go_wp2_with fail
              go_roundw
              case rel => exact ⟨i + 1, by omega, by go_num, by rw [HLs.out]; rfl, HA.out, HL.out.cut 1⟩
              case measure => simp [intOf]; omega
    · obtain rfl : i = ps.length := by omega
      have hlt' : ¬ ((ps.length : Nat) : Int) < (ps.length : Nat) := by omega
      have hlv : lvT (nodesL kind ids ls) ps.length = xs.length := by
        rw [← HCt.out.1, lvT, ← HLn.out, List.take_length]
      rw [hlv]
      have hx := HX.out
      have HMx := Lib.hid (show ∀ k : Nat, k ≤ 7 → (xs.length < 2 ^ (k + 1)) → hv ≤ kind * (k : Int) by
        intro k hk hn
        have h1 := HHs.out
        by_cases e0 : ids.length = 0
        · rw [HP0.out e0]
          rcases HK.out with rfl | rfl <;> omega
        · have h2 := HPw.out e0
          rw [HIl.out] at h2
          have h3 := lv_log h2 hn
          rcases HK.out with rfl | rfl <;> omega)
      have hc0 : xs.length = 0 → ps.length = 0 := HCt.out.2.1
      have hc1 : ¬ xs.length = 0 → ps.length < 2 * xs.length := HCt.out.2.2
      have HC0 := Lib.hid hc0
      have HC1 := Lib.hid hc1
      have HHv := Lib.hid HHs.out.1
      clear hlv hc0 hc1
      generalize hxn : xs.length = n at *
      clear hxn
      go_wp2_with fail
      go_loopw [18] (fun v18 wr => ∃ k : Nat, k ≤ 7 ∧ v18 = .int .i64 (k : Int) ∧ (k = 0 ∨ 2 ^ k ≤ n) ∧ Aft w wr) (fun v _ => 8 - (intOf v).toNat)
      case atStart => exact ⟨0, by omega, rfl, .inl rfl, HL.out.aft⟩
      case round =>
        obtain ⟨k, hk, rfl, hkn, hA⟩ := hrel
        have hk8 : k = 0 ∨ k = 1 ∨ k = 2 ∨ k = 3 ∨ k = 4 ∨ k = 5 ∨ k = 6 ∨ k = 7 := by omega
        have HKk := Lib.hid HK.out
        have HA := Lib.hid hA
        clear hk hA
        rcases hk8 with rfl | rfl | rfl | rfl | rfl | rfl | rfl | rfl
        · have hm := HMx.out 0 (by decide)
          have hkq : 0 = 0 ∨ 1 ≤ n := hkn
          clear hkn
          by_cases hle : (2 : Int) ≤ (n : Nat)
          · clear hkq hm
            go_wp2_with fail
            go_roundw
            case rel => exact ⟨1, by omega, by go_num, .inr (by omega), HA.out⟩
            case measure => simp [intOf]
          · have hm2 : hv ≤ kind * (0 : Int) := hm (by omega)
            have hh0 := HHv.out
            clear hm
            by_cases hn0 : n = 0
            · have hp0 := HC0.out hn0
              have hn1 : ((n : Nat) : Int) = 0 := by omega
              have hp1 : ((ps.length : Nat) : Int) = 0 := by omega
              rcases HK.out with rfl | rfl
              all_goals
                clear hkq hn0 hp0
                go_wp2_with fail
                go_ret
                exact ⟨congrArg (fun b => Ending.returned (.bool b)) (decide_eq_true (by omega)), HA.out⟩
            · have hp0 := HC1.out hn0
              have hn1 : ¬ ((n : Nat) : Int) = 0 := by omega
              have hp1 : ((ps.length : Nat) : Int) < 2 * ((n : Nat) : Int) := by omega
              rcases HK.out with rfl | rfl
              all_goals
                clear hkq hn0 hp0
                go_wp2_with fail
                go_ret
                exact ⟨congrArg (fun b => Ending.returned (.bool b)) (decide_eq_true (by omega)), HA.out⟩
        · have hm := HMx.out 1 (by decide)
          have hkq : 1 = 0 ∨ 2 ≤ n := hkn
          clear hkn
          by_cases hle : (4 : Int) ≤ (n : Nat)
          · clear hkq hm
            go_wp2_with fail
            go_roundw
            case rel => exact ⟨2, by omega, by go_num, .inr (by omega), HA.out⟩
            case measure => simp [intOf]
          · have hm2 : hv ≤ kind * (1 : Int) := hm (by omega)
            have hh0 := HHv.out
            clear hm
            have hn0 : ¬ n = 0 := by omega
            have hp0 := HC1.out hn0
            have hn1 : ¬ ((n : Nat) : Int) = 0 := by omega
            have hp1 : ((ps.length : Nat) : Int) < 2 * ((n : Nat) : Int) := by omega
            rcases HK.out with rfl | rfl
            all_goals
              clear hkq hn0 hp0
              go_wp2_with fail
              go_ret
              exact ⟨congrArg (fun b => Ending.returned (.bool b)) (decide_eq_true (by omega)), HA.out⟩
        · have hm := HMx.out 2 (by decide)
          have hkq : 2 = 0 ∨ 4 ≤ n := hkn
          clear hkn
          by_cases hle : (8 : Int) ≤ (n : Nat)
          · clear hkq hm
            go_wp2_with fail
            go_roundw
            case rel => exact ⟨3, by omega, by go_num, .inr (by omega), HA.out⟩
            case measure => simp [intOf]
          · have hm2 : hv ≤ kind * (2 : Int) := hm (by omega)
            have hh0 := HHv.out
            clear hm
            have hn0 : ¬ n = 0 := by omega
            have hp0 := HC1.out hn0
            have hn1 : ¬ ((n : Nat) : Int) = 0 := by omega
            have hp1 : ((ps.length : Nat) : Int) < 2 * ((n : Nat) : Int) := by omega
            rcases HK.out with rfl | rfl
            all_goals
              clear hkq hn0 hp0
              go_wp2_with fail
              go_ret
              exact ⟨congrArg (fun b => Ending.returned (.bool b)) (decide_eq_true (by omega)), HA.out⟩
        · have hm := HMx.out 3 (by decide)
          have hkq : 3 = 0 ∨ 8 ≤ n := hkn
          clear hkn
          by_cases hle : (16 : Int) ≤ (n : Nat)
          · clear hkq hm
            go_wp2_with fail
            go_roundw
            case rel => exact ⟨4, by omega, by go_num, .inr (by omega), HA.out⟩
            case measure => simp [intOf]
          · have hm2 : hv ≤ kind * (3 : Int) := hm (by omega)
            have hh0 := HHv.out
            clear hm
            have hn0 : ¬ n = 0 := by omega
            have hp0 := HC1.out hn0
            have hn1 : ¬ ((n : Nat) : Int) = 0 := by omega
            have hp1 : ((ps.length : Nat) : Int) < 2 * ((n : Nat) : Int) := by omega
            rcases HK.out with rfl | rfl
            all_goals
              clear hkq hn0 hp0
              go_wp2_with fail
              go_ret
              exact ⟨congrArg (fun b => Ending.returned (.bool b)) (decide_eq_true (by omega)), HA.out⟩
        · have hm := HMx.out 4 (by decide)
          have hkq : 4 = 0 ∨ 16 ≤ n := hkn
          clear hkn
          by_cases hle : (32 : Int) ≤ (n : Nat)
          · clear hkq hm
            go_wp2_with fail
            go_roundw
            case rel => exact ⟨5, by omega, by go_num, .inr (by omega), HA.out⟩
            case measure => simp [intOf]
          · have hm2 : hv ≤ kind * (4 : Int) := hm (by omega)
            have hh0 := HHv.out
            clear hm
            have hn0 : ¬ n = 0 := by omega
            have hp0 := HC1.out hn0
            have hn1 : ¬ ((n : Nat) : Int) = 0 := by omega
            have hp1 : ((ps.length : Nat) : Int) < 2 * ((n : Nat) : Int) := by omega
            rcases HK.out with rfl | rfl
            all_goals
              clear hkq hn0 hp0
              go_wp2_with fail
              go_ret
              exact ⟨congrArg (fun b => Ending.returned (.bool b)) (decide_eq_true (by omega)), HA.out⟩
        · have hm := HMx.out 5 (by decide)
          have hkq : 5 = 0 ∨ 32 ≤ n := hkn
          clear hkn
          by_cases hle : (64 : Int) ≤ (n : Nat)
          · clear hkq hm
            go_wp2_with fail
            go_roundw
            case rel => exact ⟨6, by omega, by go_num, .inr (by omega), HA.out⟩
            case measure => simp [intOf]
          · have hm2 : hv ≤ kind * (5 : Int) := hm (by omega)
            have hh0 := HHv.out
            clear hm
            have hn0 : ¬ n = 0 := by omega
            have hp0 := HC1.out hn0
            have hn1 : ¬ ((n : Nat) : Int) = 0 := by omega
            have hp1 : ((ps.length : Nat) : Int) < 2 * ((n : Nat) : Int) := by omega
            rcases HK.out with rfl | rfl
            all_goals
              clear hkq hn0 hp0
              go_wp2_with fail
              go_ret
              exact ⟨congrArg (fun b => Ending.returned (.bool b)) (decide_eq_true (by omega)), HA.out⟩
        · have hm := HMx.out 6 (by decide)
          have hkq : 6 = 0 ∨ 64 ≤ n := hkn
          clear hkn
          by_cases hle : (128 : Int) ≤ (n : Nat)
          · clear hkq hm
            go_wp2_with fail
            go_roundw
            case rel => exact ⟨7, by omega, by go_num, .inr (by omega), HA.out⟩
            case measure => simp [intOf]
          · have hm2 : hv ≤ kind * (6 : Int) := hm (by omega)
            have hh0 := HHv.out
            clear hm
            have hn0 : ¬ n = 0 := by omega
            have hp0 := HC1.out hn0
            have hn1 : ¬ ((n : Nat) : Int) = 0 := by omega
            have hp1 : ((ps.length : Nat) : Int) < 2 * ((n : Nat) : Int) := by omega
            rcases HK.out with rfl | rfl
            all_goals
              clear hkq hn0 hp0
              go_wp2_with fail
              go_ret
              exact ⟨congrArg (fun b => Ending.returned (.bool b)) (decide_eq_true (by omega)), HA.out⟩
        · have hm := HMx.out 7 (by decide)
          have hkq : 7 = 0 ∨ 128 ≤ n := hkn
          clear hkn
          have hle : ¬ (256 : Int) ≤ (n : Nat) := by omega
          have hm2 : hv ≤ kind * (7 : Int) := hm (by omega)
          have hh0 := HHv.out
          clear hm
          have hn0 : ¬ n = 0 := by omega
          have hp0 := HC1.out hn0
          have hn1 : ¬ ((n : Nat) : Int) = 0 := by omega
          have hp1 : ((ps.length : Nat) : Int) < 2 * ((n : Nat) : Int) := by omega
          rcases HK.out with rfl | rfl
          all_goals
            clear hkq hn0 hp0
            go_wp2_with fail
            go_ret
            exact ⟨congrArg (fun b => Ending.returned (.bool b)) (decide_eq_true (by omega)), HA.out⟩
end Go.Proofs.Ytejdkmfbncedkaa
