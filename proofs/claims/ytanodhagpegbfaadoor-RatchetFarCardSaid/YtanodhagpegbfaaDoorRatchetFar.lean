/- The law RatchetFar. -/
import Derived.Test.YtanodhagpegbfaaDoorRLive
namespace Go.Proofs.YtanodhagpegbfaaDoor
open Go Go.RowKit
set_option linter.unusedSimpArgs false

/-- Turns that stand one behind the other. -/
def frZ (b n : Nat) : List Sk := (List.range n).map fun i => mkS (b + i) zC
theorem frZ_length (b n : Nat) : (frZ b n).length = n := by simp [frZ]
theorem frZ_succ (b n : Nat) : frZ b (n + 1) = frZ b n ++ [mkS (b + n) zC] := by simp [frZ, List.range_succ]
theorem okB_fr (b : Nat) : ∀ n, b + n < 18446744073709551616 → okB (b + n) (((frZ b n).map (·.1.1)).reverse) = true
  | 0, _ => rfl
  | n + 1, hn => by
    have ih := okB_fr b n (by omega)
    rw [frZ_succ, List.map_append, List.reverse_append]
    show okB (b + (n + 1)) ((mkS (b + n) zC).1.1 :: ((frZ b n).map (·.1.1)).reverse) = true
    rw [mkS_val (by omega) zC_length, okB, ih, Bool.and_true]
    exact decide_eq_true (by omega)
theorem chk_fr {G n : Nat} (hn : n ≤ 1024) (h : n ≤ G) (hG : G ≤ 4294965296) : chkE G (frZ (G - n) n) = 0 := by
  have h3 := okB_fr (G - n) n (by omega)
  rw [Nat.sub_add_cancel h] at h3
  exact if_pos ⟨by omega, by rw [frZ_length]; exact hn, h3⟩
theorem ah_fr {G n m : Nat} (hn : n ≤ 1024) (h : n ≤ G) (hG : G ≤ 4294965296) (hm : m < 2000) : ahE G (frZ (G - n) n) (G + m) = if 1024 < n + m then 10 else 0 := by
  unfold ahE
  rw [if_neg (fun q => q (chk_fr hn h hG)), if_neg (by omega), if_neg (by omega), frZ_length, Nat.add_sub_cancel_left]
  by_cases hq : 1024 < n + m
  · rw [if_pos (by omega), if_pos hq]
  · rw [if_neg (by omega), if_neg hq]
theorem build_skZ {g : Nat} (hg : g < 18446744073709551616) (w : World) : (Instr.build 73 #[(0, .int .u64 (g : Int))]).run Tryd.prog w = .ok (.agg (skL (mkS g zC)).toArray) w := by
  rw [mkS_L hg zC_length]
  generalize (g : Int) = z
  kernel_rfl
theorem build_rat2 {X : List (BitVec 8)} (hX : X.length = 32) (G : Nat) : ∀ w : World, (Instr.build 71 #[(0, .agg (bv X).toArray), (1, .int .u64 (G : Int))]).run Tryd.prog w = .ok (.agg (ratL X G (.slice none 0 0)).toArray) w := by
  intro w
  unfold ratL
  rw [bv_of_len hX]
  generalize (fun i => Value.int .u8 (bn (X.getD i 0))) = f
  generalize (G : Int) = z
  kernel_rfl
set_option maxRecDepth 100000 in
set_option maxHeartbeats 2000000 in
theorem ratchetFar_any (C : List (BitVec 8)) (G L F : Nat) (w : World) (hK : TabK K0 2 w) (hC : C.length = 32) (hG : G < 18446744073709551616) (hL : L < 65536) (hF : F < 65536) :
    Calls Tryd.prog 13 #[.agg (bv C).toArray, .int .u64 (G : Int), .int .u16 (L : Int), .int .u16 (F : Int)] w fun r w' => r = .returned (.bool true) ∧ Below w.heap.size w w' := by
  have HK := Lib.hid hK
  have HC := Lib.hid hC
  have HLv := Lib.hid (fun (wx : World) (h : Aft w wx) => live15_any wx (TabK_fr HK.out (Fr.of_below (S := fun _ => False) h) (fun h => h)))
  obtain ⟨zl, hzl⟩ : ∃ z : Int, z = (L : Int) := ⟨_, rfl⟩
  obtain ⟨zf, hzf⟩ : ∃ z : Int, z = (F : Int) := ⟨_, rfl⟩
  obtain ⟨g, hg0⟩ : ∃ g : Int, g = (G : Int) := ⟨_, rfl⟩
  obtain ⟨n, hn⟩ : ∃ n, n = L % 1025 := ⟨_, rfl⟩
  obtain ⟨m, hm⟩ : ∃ m, m = F % 2000 := ⟨_, rfl⟩
  obtain ⟨zn, hzn⟩ : ∃ z : Int, z = (n : Int) := ⟨_, rfl⟩
  obtain ⟨zm, hzm⟩ : ∃ z : Int, z = (m : Int) := ⟨_, rfl⟩
  have hnm : (wrap64 zl).tmod 1025 = zn := by
    rw [show wrap64 zl = zl by unfold wrap64; omega, hzn, hn, hzl, Int.tmod_eq_emod_of_nonneg (by omega)]
    omega
  have hmm : (wrap64 zf).tmod 2000 = zm := by
    rw [show wrap64 zf = zf by unfold wrap64; omega, hzm, hm, hzf, Int.tmod_eq_emod_of_nonneg (by omega)]
    omega
  have hwu : ∀ x : Int, IntKind.u64.wrap x = x % 18446744073709551616 := fun _ => rfl
  have hn1 : IntKind.u64.wrap zn = zn := by rw [hwu]; omega
  have hm1 : IntKind.u64.wrap zm = zm := by rw [hwu]; omega
  have HN := Lib.hid (show n ≤ 1024 by omega)
  have HM := Lib.hid (show m < 2000 by omega)
  have HZN := Lib.hid hzn
  have HZM := Lib.hid hzm
  have HG := Lib.hid hg0
  have HG2 := Lib.hid hG
  rw [← hzl, ← hzf, ← hg0]
  have HL := Lib.hid (Led.start w)
  clear hK hC hzl hzf hL hF hg0 hn hm hwu hG hzn hzm
  go_enter Tryd.func13, Tryd.ntmps13
  go_wp2_with (first | (refine wpList_boxO rfl 23 (.tmp 0) rfl (.agg (bv C).toArray) rfl (.cells (bv C).toArray 23) (box_key _) ?_; intro w' aa gg zz; (try replace HO := Lib.hid (HO.out.aft aa)); (try replace HO2 := Lib.hid (HO2.out.aft aa)); replace HL := Lib.hid (HL.out.alloc aa gg.out); clear aa gg zz; try simp only [List.nil_append, List.cons_append, List.set_cons_zero, List.set_cons_succ] at HL))
  refine (HLv.out _ HL.out.aft).mono ?_
  rintro r w2 ⟨rfl, h2⟩
  replace HL := Lib.hid (HL.out.call h2)
  clear h2 HLv
  by_cases hA : g < zn
  · go_wp2_with (first | (refine wpList_load_rowG (by kernel_rfl) 23 (.tmp 4) rfl _ rfl _ _ _ _ (HL.out.get 0 rfl) Tryd.underlying23 rfl (key_info HC.out) ?_) | (refine wpList_buildO (by kernel_rfl) 71 #[(0, .tmp 25), (1, .tmp 26)] rfl #[(0, .agg (bv C).toArray), (1, .int .u64 g)] (by kernel_rfl) _ (by rw [HG.out]; exact build_rat2 HC.out G) ?_) | (refine wpList_allocO rfl 71 rfl (.cells (ratL (List.replicate 32 0) 0 (.slice none 0 0)).toArray 71) alloc_rat ?_; intro w' aa gg zz; (try replace HO := Lib.hid (HO.out.aft aa)); (try replace HO2 := Lib.hid (HO2.out.aft aa)); replace HL := Lib.hid (HL.out.alloc aa gg.out); clear aa gg zz; try simp only [List.nil_append, List.cons_append, List.set_cons_zero, List.set_cons_succ] at HL) | (refine wpList_store_ratZ rfl (.tmp 11) (.tmp 27) _ C G (.slice none 0 0) HC.out rfl rfl rfl rfl _ (HL.out.get 1 rfl) (rat_old List.length_replicate) ?_; intro w4 b1 b2 b3; replace HL := Lib.hid (HL.out.store 1 rfl b1 b2 b3); clear b1 b2 b3; try simp only [List.nil_append, List.cons_append, List.set_cons_zero, List.set_cons_succ] at HL))
    go_ret
    exact ⟨rfl, HL.out.aft⟩
  by_cases hB : 4294965296 < g
  · go_wp2_with (first | (refine wpList_load_rowG (by kernel_rfl) 23 (.tmp 4) rfl _ rfl _ _ _ _ (HL.out.get 0 rfl) Tryd.underlying23 rfl (key_info HC.out) ?_) | (refine wpList_buildO (by kernel_rfl) 71 #[(0, .tmp 25), (1, .tmp 26)] rfl #[(0, .agg (bv C).toArray), (1, .int .u64 g)] (by kernel_rfl) _ (by rw [HG.out]; exact build_rat2 HC.out G) ?_) | (refine wpList_allocO rfl 71 rfl (.cells (ratL (List.replicate 32 0) 0 (.slice none 0 0)).toArray 71) alloc_rat ?_; intro w' aa gg zz; (try replace HO := Lib.hid (HO.out.aft aa)); (try replace HO2 := Lib.hid (HO2.out.aft aa)); replace HL := Lib.hid (HL.out.alloc aa gg.out); clear aa gg zz; try simp only [List.nil_append, List.cons_append, List.set_cons_zero, List.set_cons_succ] at HL) | (refine wpList_store_ratZ rfl (.tmp 11) (.tmp 27) _ C G (.slice none 0 0) HC.out rfl rfl rfl rfl _ (HL.out.get 1 rfl) (rat_old List.length_replicate) ?_; intro w4 b1 b2 b3; replace HL := Lib.hid (HL.out.store 1 rfl b1 b2 b3); clear b1 b2 b3; try simp only [List.nil_append, List.cons_append, List.set_cons_zero, List.set_cons_succ] at HL))
    go_ret
    exact ⟨rfl, HL.out.aft⟩
  go_wp2_with (first | (refine wpList_load_rowG (by kernel_rfl) 23 (.tmp 4) rfl _ rfl _ _ _ _ (HL.out.get 0 rfl) Tryd.underlying23 rfl (key_info HC.out) ?_) | (refine wpList_buildO (by kernel_rfl) 71 #[(0, .tmp 25), (1, .tmp 26)] rfl #[(0, .agg (bv C).toArray), (1, .int .u64 g)] (by kernel_rfl) _ (by rw [HG.out]; exact build_rat2 HC.out G) ?_) | (refine wpList_allocO rfl 71 rfl (.cells (ratL (List.replicate 32 0) 0 (.slice none 0 0)).toArray 71) alloc_rat ?_; intro w' aa gg zz; (try replace HO := Lib.hid (HO.out.aft aa)); (try replace HO2 := Lib.hid (HO2.out.aft aa)); replace HL := Lib.hid (HL.out.alloc aa gg.out); clear aa gg zz; try simp only [List.nil_append, List.cons_append, List.set_cons_zero, List.set_cons_succ] at HL) | (refine wpList_store_ratZ rfl (.tmp 11) (.tmp 27) _ C G (.slice none 0 0) HC.out rfl rfl rfl rfl _ (HL.out.get 1 rfl) (rat_old List.length_replicate) ?_; intro w4 b1 b2 b3; replace HL := Lib.hid (HL.out.store 1 rfl b1 b2 b3); clear b1 b2 b3; try simp only [List.nil_append, List.cons_append, List.set_cons_zero, List.set_cons_succ] at HL))
  obtain ⟨b, hb⟩ : ∃ b, b = G - n := ⟨_, rfl⟩
  have HB := Lib.hid (show b + n = G ∧ G ≤ 4294965296 by have := HG.out; have := HZN.out; omega)
  have HBs := Lib.hid hb
  have e1 : IntKind.u64.wrap (g - zn) = g - zn := sub_u64 g zn (by omega) (by have := HZN.out; omega) (by have := HG.out; have := HG2.out; omega)
  clear hb hA hB
  go_loopw [38] (fun v wr => ∃ (i : Nat) (ao : Option Addr) (k cp : Nat), i ≤ n ∧ v = .int .i64 (i : Int) ∧ OwnS wr w.heap.size (.slice ao k cp) (frZ b i) ∧ Led w wr [(w.heap.size, .cells (bv C).toArray 23), (w2.heap.size, .cells (ratL C G (.slice ao k cp)).toArray 71)]) (fun v _ => n - (intOf v).toNat)
  case atStart => exact ⟨0, none, 0, 0, by omega, rfl, OwnS.nil _ _, HL.out⟩
  case round =>
    clear HL
    obtain ⟨i, ao, k, cp, hi, rfl, hO, hL⟩ := hrel
    have HL := Lib.hid hL
    have HO := Lib.hid hO
    have HI := Lib.hid hi
    clear hL hO
    by_cases hlt : i < n
    · have hlt' : (i : Int) < zn := by have := HZN.out; omega
      obtain ⟨q, hq⟩ : ∃ q, q = b + i := ⟨_, rfl⟩
      have e2 : IntKind.u64.wrap (i : Int) = (i : Int) := by
        have e2 : ∀ x : Int, IntKind.u64.wrap x = x % 18446744073709551616 := fun _ => rfl
        rw [e2]
        have := HN.out
        omega
      have e3 : IntKind.u64.wrap (g - zn + (i : Int)) = (q : Int) := by
        have e2 : ∀ x : Int, IntKind.u64.wrap x = x % 18446744073709551616 := fun _ => rfl
        rw [e2]
        have := HG.out
        have := HZN.out
        have := HB.out
        omega
      have HQ := Lib.hid (show q < 18446744073709551616 by have := HB.out; omega)
      have HFs := Lib.hid (show frZ b i ++ [mkS q zC] = frZ b (i + 1) by rw [frZ_succ, hq])
      have hl := rat_l (HL.out.get 1 rfl) HC.out
      clear hlt hq hi
      go_wp2_with (first | (refine wpList_buildO (by kernel_rfl) 73 #[(0, .tmp 49)] rfl #[(0, .int .u64 (q : Int))] (by kernel_rfl) _ (build_skZ HQ.out) ?_) | (refine wpList_skSliceO (by kernel_rfl) (.tmp 50) rfl (mkS q zC) rfl ?_; intro w8 aa gg; have HSk := gg; replace HO := Lib.hid (HO.out.aft aa); replace HL := Lib.hid (HL.out.call aa); clear aa gg) | (at_builtin; refine wpList_append_sks (by kernel_rfl) (.tmp 42) (.tmp 51) rfl w.heap.size _ (frZ b i) rfl HO.out _ _ [mkS q zC] rfl HSk.out (by rw [frZ_length]; have := HN.out; have := HI.out; simp; omega) HL.out.aft.size ?_; intro v' w9 k1 k2; replace HL := Lib.hid (HL.out.grownS HO.out (Nat.le_refl _) k2 rfl); replace HO := Lib.hid k1; clear k2; obtain ⟨ao', cp', rfl⟩ := k1.shape; clear k1) | (refine wpList_store_ratV rfl (.tmp 53) (.tmp 52) _ C G (.slice ao k cp) HC.out rfl (.slice ao' _ cp') rfl rfl rfl rfl (HL.out.get 1 rfl) ?_; intro wz b1 b2 b3; replace HO := Lib.hid (HO.out.stored (HL.out.get 1 rfl) (by decide) b2.out); replace HL := Lib.hid (HL.out.store 1 rfl b1 b2 b3); clear b1 b2 b3; try simp only [List.nil_append, List.cons_append, List.set_cons_zero, List.set_cons_succ] at HL))
      refine ⟨⟨i + 1, ao', (frZ b i).length + 1, cp', by have := HZN.out; omega, by rfl, ?_, HL.out⟩, ?_⟩
      · have h := HO.out
        rw [HFs.out] at h
        have e : (frZ b (i + 1)).length = (frZ b i).length + 1 := by rw [frZ_length, frZ_length]
        try rw [e] at h
        exact h
      · simp [intOf]
        have := HZN.out
        omega
    · obtain rfl : i = n := by omega
      have hlt' : ¬ (i : Int) < zn := by have := HZN.out; omega
      obtain ⟨ao', cp', he⟩ := HO.out.shape
      injection he with h1 h2 h3
      subst h1 h2 h3
      obtain ⟨T, hT⟩ : ∃ T, T = G + m := ⟨_, rfl⟩
      have e4 : IntKind.u64.wrap (g + zm) = (T : Int) := by
        have e2 : ∀ x : Int, IntKind.u64.wrap x = x % 18446744073709551616 := fun _ => rfl
        rw [e2]
        have := HG.out
        have := HZM.out
        have := HB.out
        have := HM.out
        omega
      have HLn := Lib.hid (show (frZ b i).length ≤ 1048576 by rw [frZ_length]; have := HN.out; omega)
      have HA := Lib.hid (fun (wx : World) (ho : OwnS wx w.heap.size (.slice ao (frZ b i).length cp) (frZ b i)) => ahead_any C G T ao cp (frZ b i) wx HC.out HG2.out (by have := HB.out; have := HM.out; omega) HLn.out ho.sks)
      have HTk := Lib.hid (fun (wx : World) (h : Aft w wx) (ho : OwnS wx w.heap.size (.slice ao (frZ b i).length cp) (frZ b i)) => (rtake_any C G T ao cp (frZ b i) wx (TabK_fr HK.out (Fr.of_below (S := fun _ => False) h) (fun h => h)) HC.out HG2.out (by have := HB.out; have := HM.out; omega) HLn.out ho.sks).mono fun _ _ h => h.as)
      have HCk := Lib.hid (fun (wx : World) (ho : OwnS wx w.heap.size (.slice ao (frZ b i).length cp) (frZ b i)) => check_any C G ao cp (frZ b i) wx HC.out HG2.out HLn.out ho.sks)
      have HE := Lib.hid (show ahE G (frZ b i) T = if 1024 < i + m then 10 else 0 by
        have := ah_fr HN.out (show i ≤ G by have := HB.out; omega) HB.out.2 HM.out
        rw [← HBs.out] at this
        rw [hT]
        exact this)
      have HK0 := Lib.hid (show chkE G (frZ b i) = 0 by
        have := chk_fr HN.out (show i ≤ G by have := HB.out; omega) HB.out.2
        rwa [← HBs.out] at this)
      have HTe := Lib.hid (show tkE G (frZ b i) T = ahE G (frZ b i) T by
        unfold tkE
        by_cases h0 : ahE G (frZ b i) T = 0
        · rw [if_neg (by simp [h0]), if_neg (by have := HB.out; omega), h0]
        · rw [if_pos h0])
      have HAn := Lib.hid (show ahN G (frZ b i) T = if ahE G (frZ b i) T = 0 then m else 0 by
        unfold ahN
        by_cases h0 : ahE G (frZ b i) T = 0
        · rw [if_pos ⟨h0, by omega⟩, if_pos h0]; omega
        · rw [if_neg (fun q => h0 q.1), if_neg h0])
      have e5 : wrap64 (zn + zm) = zn + zm := by unfold wrap64; have := HZN.out; have := HZM.out; have := HN.out; have := HM.out; omega
      clear hi hT
      go_wp2_with (first | (refine wpList_load_rowG (by kernel_rfl) 71 (.tmp 11) rfl _ rfl _ _ _ _ (HL.out.get 1 rfl) Tryd.underlying71 rfl (rat_info HC.out) ?_))
      refine (HA.out _ HO.out).mono ?_
      rintro r w3 ⟨rfl, h3⟩
      replace HO := Lib.hid (HO.out.aft h3)
      replace HL := Lib.hid (HL.out.call h3)
      clear h3 HA
      by_cases hq : 1024 < zn + zm
      · have hE : ahE G (frZ b i) T = 10 := by rw [HE.out, if_pos (by have := HZN.out; have := HZM.out; omega)]
        have hN : ahN G (frZ b i) T = 0 := by rw [HAn.out, if_neg (by rw [hE]; decide)]
        have hTe : tkE G (frZ b i) T = 10 := by rw [HTe.out, hE]
        rw [hTe] at HTk
        rw [hE, hN]
        have HX := Lib.hid (tkK_length C G (frZ b i) T)
        have HY := Lib.hid (tkC_length HC.out G (frZ b i) T)
        generalize tkK C G (frZ b i) T = X at *
        generalize tkC C G (frZ b i) T = Y at *
        generalize tkG G (frZ b i) T = M at *
        generalize tkZ C G (frZ b i) T = Z at *
        clear hE hN hTe HE HAn HTe HCk HK0
        go_wp2_with (first | (refine wpList_load_rowG (by kernel_rfl) 71 (.tmp 11) rfl _ rfl _ _ _ _ (HL.out.get 1 rfl) Tryd.underlying71 rfl (rat_info HC.out) ?_))
        refine (HTk.out _ HL.out.aft HO.out).mono ?_
        rintro r w5 ⟨ao2, cp2, rfl, -, h5⟩
        replace HO := Lib.hid (HO.out.aft h5)
        replace HL := Lib.hid (HL.out.call h5)
        clear h5
        go_wp2_with (first | (refine wpList_allocO rfl 23 rfl (.cells key0 23) alloc_key ?_; intro w' aa gg zz; (try replace HO := Lib.hid (HO.out.aft aa)); (try replace HO2 := Lib.hid (HO2.out.aft aa)); replace HL := Lib.hid (HL.out.alloc aa gg.out); clear aa gg zz; try simp only [List.nil_append, List.cons_append, List.set_cons_zero, List.set_cons_succ] at HL) | (refine wpList_allocO rfl 71 rfl (.cells (ratL (List.replicate 32 0) 0 (.slice none 0 0)).toArray 71) alloc_rat ?_; intro w' aa gg zz; (try replace HO := Lib.hid (HO.out.aft aa)); (try replace HO2 := Lib.hid (HO2.out.aft aa)); replace HL := Lib.hid (HL.out.alloc aa gg.out); clear aa gg zz; try simp only [List.nil_append, List.cons_append, List.set_cons_zero, List.set_cons_succ] at HL) | (refine wpList_store_keyZ rfl (.tmp 16) (.tmp 78) rfl _ X HX.out rfl rfl _ (HL.out.get 2 rfl) key0_size ?_; intro w' b1 b2 b3; (try replace HO := Lib.hid (HO.out.stored (HL.out.get 2 rfl) (by decide) b2.out)); (try replace HO2 := Lib.hid (HO2.out.stored (HL.out.get 2 rfl) (by decide) b2.out)); replace HL := Lib.hid (HL.out.store 2 rfl b1 b2 b3); clear b1 b2 b3; try simp only [List.nil_append, List.cons_append, List.set_cons_zero, List.set_cons_succ] at HL) | (refine wpList_store_ratZ rfl (.tmp 17) (.tmp 79) _ (Y) (M) (.slice ao2 Z.length cp2) HY.out rfl rfl rfl rfl _ (HL.out.get 3 rfl) (rat_old List.length_replicate) ?_; intro w' b1 b2 b3; (try replace HO := Lib.hid (HO.out.stored (HL.out.get 3 rfl) (by decide) b2.out)); (try replace HO2 := Lib.hid (HO2.out.stored (HL.out.get 3 rfl) (by decide) b2.out)); replace HL := Lib.hid (HL.out.store 3 rfl b1 b2 b3); clear b1 b2 b3; try simp only [List.nil_append, List.cons_append, List.set_cons_zero, List.set_cons_succ] at HL))
        go_ret
        exact ⟨rfl, HL.out.aft⟩
      · have hE : ahE G (frZ b i) T = 0 := by rw [HE.out, if_neg (by have := HZN.out; have := HZM.out; omega)]
        have hN : ((ahN G (frZ b i) T : Nat) : Int) = zm := by rw [HAn.out, if_pos hE]; exact HZM.out.symm
        rw [hE, hN]
        rw [HK0.out] at HCk
        clear hE hN HE HAn HTe HTk HK0
        go_wp2_with (first | (refine wpList_load_rowG (by kernel_rfl) 71 (.tmp 11) rfl _ rfl _ _ _ _ (HL.out.get 1 rfl) Tryd.underlying71 rfl (rat_info HC.out) ?_))
        refine (HCk.out _ HO.out).mono ?_
        rintro r w5 ⟨rfl, h5⟩
        replace HL := Lib.hid (HL.out.call h5)
        clear h5
        go_wp2_with fail
        go_ret
        exact ⟨by simp, HL.out.aft⟩
end Go.Proofs.YtanodhagpegbfaaDoor
