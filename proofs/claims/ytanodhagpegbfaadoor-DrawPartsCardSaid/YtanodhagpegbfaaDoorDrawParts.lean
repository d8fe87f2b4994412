/- The law DrawParts. -/
import Derived.Test.YtanodhagpegbfaaDoorKeysSame
import Derived.Test.YtanodhagpegbfaaDoorEnter
namespace Go.Proofs.YtanodhagpegbfaaDoor
open Go Go.RowKit
set_option linter.unusedSimpArgs false
theorem mnE_big {N : Nat} {n : Int} (h : ¬ N ≤ 4294967296) : mnE N n = 1 := if_neg (fun q => h q.1)
theorem mnE_nat {N m : Nat} (h1 : m ≤ 1000) (h3 : N ≤ 4294967296) : mnE N (m : Int) = if N + m ≤ 4294967296 then 0 else 8 := by
  unfold mnE
  rw [if_pos ⟨h3, by omega, by omega⟩, Int.toNat_natCast]
theorem mn_good {seed : List (BitVec 8)} {N m : Nat} (h1 : m ≤ 1000) (h2 : N + m ≤ 4294967296) : mnE N (m : Int) = 0 ∧ mnS seed N (m : Int) = seed ∧ mnN N (m : Int) = N + m ∧ mnK seed N (m : Int) = manyL seed N m := by
  have h0 : mnE N (m : Int) = 0 := by rw [mnE_nat h1 (by omega), if_pos h2]
  refine ⟨h0, if_pos h0, ?_, ?_⟩
  · unfold mnN; rw [if_pos h0, Int.toNat_natCast]
  · unfold mnK; rw [if_pos h0, Int.toNat_natCast]
theorem manyL_add (seed : List (BitVec 8)) (N i k : Nat) : manyL seed N (i + k) = manyL seed N i ++ manyL seed (N + i) k := by
  unfold manyL
  rw [List.range_add, List.map_append, List.map_map]
  congr 1
  apply List.map_congr_left
  intro x _
  simp [Nat.add_assoc]
set_option maxRecDepth 100000 in
set_option maxHeartbeats 8000000 in
theorem drawParts_any (seed : List (BitVec 8)) (N p q : Nat) (w : World) (hK : TabK K0 2 w) (hs : seed.length = 32) (hN : N < 18446744073709551616) (hp : p < 256) (hq : q < 256) :
    Calls Tryd.prog 7 #[.agg (drawsL seed N).toArray, .int .u8 (p : Int), .int .u8 (q : Int)] w fun r w' => r = .returned (.bool true) ∧ Below w.heap.size w w' := by
  have HK := Lib.hid hK
  have HS := Lib.hid hs
  have HLv := Lib.hid (fun (wx : World) (h : Aft w wx) => live9_any wx (TabK_fr HK.out (Fr.of_below (S := fun _ => False) h) (fun h => h)))
  have HM := Lib.hid (fun (M : Nat) (hM : M < 18446744073709551616) (m : Nat) (wx : World) (h : Aft w wx) => many_any seed M (m : Int) wx (TabK_fr HK.out (Fr.of_below (S := fun _ => False) h) (fun h => h)) hs hM)
  unfold ManySays at HM
  have HL := Lib.hid (Led.start w)
  clear hK hs
  have hi1 : (p : Int) % 30 = ((p % 30 : Nat) : Int) := by omega
  have hk1 : (q : Int) % 30 = ((q % 30 : Nat) : Int) := by omega
  have hi2 : (p : Int).tmod 30 = ((p % 30 : Nat) : Int) := by rw [Int.tmod_eq_emod_of_nonneg (by omega)]; omega
  have hk2 : (q : Int).tmod 30 = ((q % 30 : Nat) : Int) := by rw [Int.tmod_eq_emod_of_nonneg (by omega)]; omega
  have hil : p % 30 < 30 := Nat.mod_lt _ (by omega)
  have hkl : q % 30 < 30 := Nat.mod_lt _ (by omega)
  generalize p % 30 = i at *
  generalize q % 30 = k at *
  go_enter Tryd.func7, Tryd.ntmps7
  go_wp2_with (first | (refine wpList_boxO rfl 39 (.tmp 0) rfl (.agg (drawsL seed N).toArray) rfl (.cells (drawsL seed N).toArray 39) (box_draws _) ?_; intro w' aa gg zz; replace HL := Lib.hid (HL.out.alloc aa gg.out); clear aa gg zz; try simp only [List.nil_append, List.cons_append, List.set_cons_zero, List.set_cons_succ] at HL))
  refine (HLv.out _ HL.out.aft).mono ?_
  rintro r w2 ⟨rfl, h2⟩
  replace HL := Lib.hid (HL.out.call h2)
  clear h2
  go_wp2_with (first | (refine wpList_load_rowG (by kernel_rfl) 39 (.tmp 3) rfl _ rfl _ _ _ _ (HL.out.get 0 rfl) Tryd.underlying39 rfl (draws_info HS.out _) ?_))
  have HM1 := Lib.hid (show ∀ (wx : World), Aft w wx → Calls Tryd.prog 28 #[.agg (drawsL seed N).toArray, .int .i64 ((i : Int) + (k : Int))] wx fun r w' => ∃ v, r = .returned (.tuple #[v, .agg (drawsL (mnS seed N ((i + k : Nat) : Int)) (mnN N ((i + k : Nat) : Int))).toArray, .int .i64 (mnE N ((i + k : Nat) : Int))]) ∧ OwnK w' wx.heap.size v (mnK seed N ((i + k : Nat) : Int)) ∧ Aft wx w' from fun wx h => HM.out N hN (i + k) wx h)
  have HM2 := Lib.hid (fun (wx : World) (h : Aft w wx) => HM.out N hN i wx h)
  by_cases hC : N + i ≤ 4294967296
  · obtain ⟨e1, e2, e3, e4⟩ := mn_good (seed := seed) (N := N) (m := i) (by omega) hC
    rw [e1, e2, e3, e4] at HM2
    have HM3 := Lib.hid (fun (wx : World) (h : Aft w wx) => HM.out (N + i) (by omega) k wx h)
    clear e1 e2 e3 e4
    by_cases hD : N + i + k ≤ 4294967296
    · obtain ⟨e1, e2, e3, e4⟩ := mn_good (seed := seed) (N := N) (m := i + k) (by omega) (by omega)
      rw [e1, e2, e3, e4, ← Nat.add_assoc] at HM1
      clear e1 e2 e3 e4
      obtain ⟨e1, e2, e3, e4⟩ := mn_good (seed := seed) (N := N + i) (m := k) (by omega) hD
      rw [e1, e2, e3, e4] at HM3
      clear e1 e2 e3 e4
      have HD := Lib.hid hD
      clear hC hN HM
      have HAw := Lib.hid (Below.size HL.out.aft)
      refine (HM1.out _ HL.out.aft).mono ?_
      rintro r w3 ⟨v1, rfl, own1, c1⟩
      obtain ⟨ao1, cp1, rfl, -, -⟩ := own1.rd.shape
      have OW1 := Lib.hid own1
      have C1 := Lib.hid c1
      replace HL := Lib.hid (HL.out.call c1)
      clear own1 c1
      replace HAw := Lib.hid (Below.size HL.out.aft)
      go_wp2_with (first | (refine wpList_allocO rfl 39 rfl (.cells (drawsL (List.replicate 32 0) 0).toArray 39) alloc_draws ?_; intro w3a aa gg zz; have A3a := Lib.hid aa; replace HL := Lib.hid (HL.out.alloc aa gg.out); clear aa gg zz; try simp only [List.nil_append, List.cons_append, List.set_cons_zero, List.set_cons_succ] at HL) | (refine wpList_store_drawsZ rfl (.tmp 11) (.tmp 35) rfl _ seed (N + i + k) HS.out rfl rfl _ (HL.out.get 1 rfl) drawsZ_size ?_; intro w3b b1 b2 b3; have A3b := Lib.hid (b3 w3.heap.size w3 (Nat.le_refl _) A3a.out); replace HL := Lib.hid (HL.out.store 1 rfl b1 b2 b3); clear b1 b2 b3; try simp only [List.nil_append, List.cons_append, List.set_cons_zero, List.set_cons_succ] at HL) | (refine wpList_load_rowG (by kernel_rfl) 39 (.tmp 3) rfl _ rfl _ _ _ _ (HL.out.get 0 rfl) Tryd.underlying39 rfl (draws_info HS.out _) ?_))
      have HL3b := HL
      refine (HM2.out _ HL.out.aft).mono ?_
      rintro r w4 ⟨v2, rfl, own2, c2⟩
      obtain ⟨ao2, cp2, rfl, -, -⟩ := own2.rd.shape
      have OW2 := Lib.hid own2
      have C2 := Lib.hid c2
      replace HL := Lib.hid (HL.out.call c2)
      clear own2 c2
      go_wp2_with (first | (refine wpList_allocO rfl 39 rfl (.cells (drawsL (List.replicate 32 0) 0).toArray 39) alloc_draws ?_; intro w4a aa gg zz; have A4a := Lib.hid aa; replace HL := Lib.hid (HL.out.alloc aa gg.out); clear aa gg zz; try simp only [List.nil_append, List.cons_append, List.set_cons_zero, List.set_cons_succ] at HL) | (refine wpList_store_drawsZ rfl (.tmp 14) (.tmp 42) rfl _ seed (N + i) HS.out rfl rfl _ (HL.out.get 2 rfl) drawsZ_size ?_; intro w4b b1 b2 b3; have A4b := Lib.hid (b3 w4.heap.size w4 (Nat.le_refl _) A4a.out); replace HL := Lib.hid (HL.out.store 2 rfl b1 b2 b3); clear b1 b2 b3; try simp only [List.nil_append, List.cons_append, List.set_cons_zero, List.set_cons_succ] at HL) | (refine wpList_load_rowG (by kernel_rfl) 39 (.tmp 14) rfl _ rfl _ _ _ _ (HL.out.get 2 rfl) Tryd.underlying39 rfl (draws_info HS.out _) ?_))
      refine (HM3.out _ HL.out.aft).mono ?_
      rintro r w5 ⟨v3, rfl, own3, c3⟩
      obtain ⟨ao3, cp3, rfl, -, -⟩ := own3.rd.shape
      have OW3 := Lib.hid own3
      have C3 := Lib.hid c3
      replace HL := Lib.hid (HL.out.call c3)
      clear own3 c3
      have hsz3 := Lib.hid (Below.size A3b.out)
      have hsz3b := Lib.hid (heap_lt (HL3b.out.get 1 rfl))
      have hb34 := Lib.hid (Below.size C2.out)
      have hb45 := Lib.hid (Below.size A4b.out)
      have hb5 := Lib.hid (Below.size C3.out)
      go_wp2_with (first | (refine wpList_allocO rfl 39 rfl (.cells (drawsL (List.replicate 32 0) 0).toArray 39) alloc_draws ?_; intro w5a aa gg zz; have A5a := Lib.hid aa; replace HL := Lib.hid (HL.out.alloc aa gg.out); clear aa gg zz; try simp only [List.nil_append, List.cons_append, List.set_cons_zero, List.set_cons_succ] at HL) | (refine wpList_store_drawsZ rfl (.tmp 17) (.tmp 57) rfl _ seed (N + i + k) HS.out rfl rfl _ (HL.out.get 3 rfl) drawsZ_size ?_; intro w5b b1 b2 b3; have A5b := Lib.hid (b3 w5.heap.size w5 (Nat.le_refl _) A5a.out); replace HL := Lib.hid (HL.out.store 3 rfl b1 b2 b3); clear b1 b2 b3; try simp only [List.nil_append, List.cons_append, List.set_cons_zero, List.set_cons_succ] at HL; have O1 := Lib.hid (OW1.out.aft (Aft.trans A3b.out (Aft.trans C2.out (Aft.trans A4b.out (Aft.trans C3.out A5b.out))))); have O2 := Lib.hid (OW2.out.aft (Aft.trans A4b.out (Aft.trans C3.out A5b.out))); have O3 := Lib.hid (OW3.out.aft A5b.out); have hb6 := Lib.hid (Below.size A5b.out)) | (refine wpList_load_rowG (by kernel_rfl) 39 (.tmp 11) rfl _ rfl _ _ _ _ (HL.out.get 1 rfl) Tryd.underlying39 rfl (draws_info HS.out _) ?_) | (refine wpList_load_rowG (by kernel_rfl) 39 (.tmp 17) rfl _ rfl _ _ _ _ (HL.out.get 3 rfl) Tryd.underlying39 rfl (draws_info HS.out _) ?_) | (refine wpList_binG (by kernel_rfl) .eql 39 39 (.tmp 73) (.tmp 74) rfl (.agg (drawsL seed (N + i + k)).toArray) (.agg (drawsL seed (N + i + k)).toArray) _ rfl rfl (run_eql_draws HS.out HS.out true (by simp)) (guard_draws _ _ _ _ _) ?_) | (refine wpList_append_keys (by kernel_rfl) (.tmp 79) (.tmp 80) rfl w3b.heap.size _ (manyL seed N i) rfl O2.out _ (manyL seed (N + i) k) rfl O3.out.rd (by rw [manyL_length, manyL_length]; omega) (by have := hb34.out; have := hb45.out; have := hb5.out; have := hb6.out; omega) ?_; intro v' w6 k1 k2; have K1 := Lib.hid k1; have K2 := Lib.hid k2; clear k1 k2))
      have hne : ∀ b, (Value.slice ao2 (manyL seed N i).length cp2).ownBlock = some b → w3b.heap.size ≤ b ∧ b < w4.heap.size := OW2.out.lt
      replace O1 := Lib.hid (O1.out.keep (fun g hg => K2.out.block g (O1.out.lt g hg).2 (fun e => by have := (hne g e.symm).1; have := (OW1.out.lt g hg).2; have := hsz3.out; omega)))
      replace HL := Lib.hid (HL.out.grown K2.out (fun b hb => ⟨by have := (hne b hb).1; have := HAw.out; have := hsz3.out; omega, fun pp hp => by
        have h1 := (hne b hb).1
        have h2 := (hne b hb).2
        have h3 := hsz3b.out
        have h4 := HAw.out
        have h5 := hb45.out
        have h6 := hb5.out
        have h7 := hsz3.out
        simp only [List.mem_cons, List.not_mem_nil, or_false] at hp
        rcases hp with rfl | rfl | rfl | rfl
        · show w.heap.size ≠ b
          omega
        · show w3.heap.size ≠ b
          omega
        · show w4.heap.size ≠ b
          omega
        · show w5.heap.size ≠ b
          omega⟩))
      have K1' := Lib.hid (show RdK w6 v' (manyL seed N (i + k)) by rw [manyL_add]; exact K1.out.rd)
      refine (keysSame_any _ _ (manyL seed N (i + k)) _ O1.out.rd K1'.out).mono ?_
      rintro r w7 ⟨rfl, h7⟩
      replace HL := Lib.hid (HL.out.call h7)
      clear h7 hne
      rw [manyL_length]
      have hn0 := draws_n (HL.out.get 0 rfl) HS.out
      have hn1 := draws_n (HL.out.get 1 rfl) HS.out
      rw [show ((N + i + k : Nat) : Int) = (N : Int) + ((i : Int) + (k : Int)) by omega] at hn1
      go_wp2_with (first | (refine wpList_load_keyG (by kernel_rfl) (.tmp 105) rfl _ _ rfl seed (draws_seed (HL.out.get 1 rfl) HS.out) HS.out ?_) | (refine wpList_load_keyG (by kernel_rfl) (.tmp 107) rfl _ _ rfl seed (draws_seed (HL.out.get 0 rfl) HS.out) HS.out ?_) | (refine wpList_binG (by kernel_rfl) .eql 23 23 (.tmp 106) (.tmp 108) rfl (.agg (bv seed).toArray) (.agg (bv seed).toArray) _ rfl rfl (run_eql_key seed HS.out) (guard_key _ _ _ _ _) ?_))
      go_ret
      exact ⟨by simp, HL.out.aft⟩
    · have e1 : mnE N ((i + k : Nat) : Int) = 8 := by rw [mnE_nat (by omega) (by omega), if_neg (by omega)]
      have e3 : mnE (N + i) (k : Int) = 8 := by rw [mnE_nat (by omega) (by omega), if_neg (by omega)]
      rw [e1] at HM1
      rw [e3] at HM3
      clear e1 e3 hC hN HM
      have HS1 := Lib.hid (mnS_length HS.out N ((i + k : Nat) : Int))
      have HS3 := Lib.hid (mnS_length HS.out (N + i) (k : Int))
      generalize mnS seed N ((i + k : Nat) : Int) = S1 at *
      generalize mnN N ((i + k : Nat) : Int) = N1 at *
      generalize mnK seed N ((i + k : Nat) : Int) = K1 at *
      generalize mnS seed (N + i) (k : Int) = S3 at *
      generalize mnN (N + i) (k : Int) = N3 at *
      generalize mnK seed (N + i) (k : Int) = K3 at *
      refine (HM1.out _ HL.out.aft).mono ?_
      rintro r w3 ⟨v1, rfl, own1, c1⟩
      obtain ⟨ao1, cp1, rfl, -, -⟩ := own1.rd.shape
      have OW1 := Lib.hid own1
      have C1 := Lib.hid c1
      replace HL := Lib.hid (HL.out.call c1)
      clear own1 c1
      go_wp2_with (first | (refine wpList_allocO rfl 39 rfl (.cells (drawsL (List.replicate 32 0) 0).toArray 39) alloc_draws ?_; intro w3a aa gg zz; have A3a := Lib.hid aa; replace HL := Lib.hid (HL.out.alloc aa gg.out); clear aa gg zz; try simp only [List.nil_append, List.cons_append, List.set_cons_zero, List.set_cons_succ] at HL) | (refine wpList_store_drawsZ rfl (.tmp 11) (.tmp 35) rfl _ S1 (N1) HS1.out rfl rfl _ (HL.out.get 1 rfl) drawsZ_size ?_; intro w3b b1 b2 b3; have A3b := Lib.hid (b3 w3.heap.size w3 (Nat.le_refl _) A3a.out); replace HL := Lib.hid (HL.out.store 1 rfl b1 b2 b3); clear b1 b2 b3; try simp only [List.nil_append, List.cons_append, List.set_cons_zero, List.set_cons_succ] at HL) | (refine wpList_load_rowG (by kernel_rfl) 39 (.tmp 3) rfl _ rfl _ _ _ _ (HL.out.get 0 rfl) Tryd.underlying39 rfl (draws_info HS.out _) ?_))
      refine (HM2.out _ HL.out.aft).mono ?_
      rintro r w4 ⟨v2, rfl, own2, c2⟩
      obtain ⟨ao2, cp2, rfl, -, -⟩ := own2.rd.shape
      have OW2 := Lib.hid own2
      have C2 := Lib.hid c2
      replace HL := Lib.hid (HL.out.call c2)
      clear own2 c2
      go_wp2_with (first | (refine wpList_allocO rfl 39 rfl (.cells (drawsL (List.replicate 32 0) 0).toArray 39) alloc_draws ?_; intro w4a aa gg zz; have A4a := Lib.hid aa; replace HL := Lib.hid (HL.out.alloc aa gg.out); clear aa gg zz; try simp only [List.nil_append, List.cons_append, List.set_cons_zero, List.set_cons_succ] at HL) | (refine wpList_store_drawsZ rfl (.tmp 14) (.tmp 42) rfl _ seed (N + i) HS.out rfl rfl _ (HL.out.get 2 rfl) drawsZ_size ?_; intro w4b b1 b2 b3; have A4b := Lib.hid (b3 w4.heap.size w4 (Nat.le_refl _) A4a.out); replace HL := Lib.hid (HL.out.store 2 rfl b1 b2 b3); clear b1 b2 b3; try simp only [List.nil_append, List.cons_append, List.set_cons_zero, List.set_cons_succ] at HL) | (refine wpList_load_rowG (by kernel_rfl) 39 (.tmp 14) rfl _ rfl _ _ _ _ (HL.out.get 2 rfl) Tryd.underlying39 rfl (draws_info HS.out _) ?_))
      refine (HM3.out _ HL.out.aft).mono ?_
      rintro r w5 ⟨v3, rfl, own3, c3⟩
      obtain ⟨ao3, cp3, rfl, -, -⟩ := own3.rd.shape
      have OW3 := Lib.hid own3
      have C3 := Lib.hid c3
      replace HL := Lib.hid (HL.out.call c3)
      clear own3 c3
      go_wp2_with (first | (refine wpList_allocO rfl 39 rfl (.cells (drawsL (List.replicate 32 0) 0).toArray 39) alloc_draws ?_; intro w5a aa gg zz; have A5a := Lib.hid aa; replace HL := Lib.hid (HL.out.alloc aa gg.out); clear aa gg zz; try simp only [List.nil_append, List.cons_append, List.set_cons_zero, List.set_cons_succ] at HL) | (refine wpList_store_drawsZ rfl (.tmp 17) (.tmp 57) rfl _ S3 (N3) HS3.out rfl rfl _ (HL.out.get 3 rfl) drawsZ_size ?_; intro w5b b1 b2 b3; have A5b := Lib.hid (b3 w5.heap.size w5 (Nat.le_refl _) A5a.out); replace HL := Lib.hid (HL.out.store 3 rfl b1 b2 b3); clear b1 b2 b3; try simp only [List.nil_append, List.cons_append, List.set_cons_zero, List.set_cons_succ] at HL))
      go_ret
      exact ⟨rfl, HL.out.aft⟩
  · have he : mnE N ((i + k : Nat) : Int) = mnE N (i : Int) ∧ mnE N (i : Int) ≠ 0 := by
      by_cases hE : N ≤ 4294967296
      · rw [mnE_nat (by omega) hE, mnE_nat (by omega) hE, if_neg (by omega), if_neg (by omega)]
        exact ⟨rfl, by decide⟩
      · rw [mnE_big hE, mnE_big hE]
        exact ⟨rfl, by decide⟩
    obtain ⟨he1, he2⟩ := he
    rw [he1] at HM1
    have HS1 := Lib.hid (mnS_length HS.out N ((i + k : Nat) : Int))
    have HS2 := Lib.hid (mnS_length HS.out N (i : Int))
    clear hC hN HM he1
    generalize mnS seed N ((i + k : Nat) : Int) = S1 at *
    generalize mnN N ((i + k : Nat) : Int) = N1 at *
    generalize mnK seed N ((i + k : Nat) : Int) = K1 at *
    generalize mnS seed N (i : Int) = S2 at *
    generalize mnN N (i : Int) = N2 at *
    generalize mnK seed N (i : Int) = K2 at *
    generalize mnE N (i : Int) = e at *
    refine (HM1.out _ HL.out.aft).mono ?_
    rintro r w3 ⟨v1, rfl, own1, c1⟩
    obtain ⟨ao1, cp1, rfl, -, -⟩ := own1.rd.shape
    have OW1 := Lib.hid own1
    have C1 := Lib.hid c1
    replace HL := Lib.hid (HL.out.call c1)
    clear own1 c1
    go_wp2_with (first | (refine wpList_allocO rfl 39 rfl (.cells (drawsL (List.replicate 32 0) 0).toArray 39) alloc_draws ?_; intro w3a aa gg zz; have A3a := Lib.hid aa; replace HL := Lib.hid (HL.out.alloc aa gg.out); clear aa gg zz; try simp only [List.nil_append, List.cons_append, List.set_cons_zero, List.set_cons_succ] at HL) | (refine wpList_store_drawsZ rfl (.tmp 11) (.tmp 35) rfl _ S1 (N1) HS1.out rfl rfl _ (HL.out.get 1 rfl) drawsZ_size ?_; intro w3b b1 b2 b3; have A3b := Lib.hid (b3 w3.heap.size w3 (Nat.le_refl _) A3a.out); replace HL := Lib.hid (HL.out.store 1 rfl b1 b2 b3); clear b1 b2 b3; try simp only [List.nil_append, List.cons_append, List.set_cons_zero, List.set_cons_succ] at HL) | (refine wpList_load_rowG (by kernel_rfl) 39 (.tmp 3) rfl _ rfl _ _ _ _ (HL.out.get 0 rfl) Tryd.underlying39 rfl (draws_info HS.out _) ?_))
    refine (HM2.out _ HL.out.aft).mono ?_
    rintro r w4 ⟨v2, rfl, own2, c2⟩
    obtain ⟨ao2, cp2, rfl, -, -⟩ := own2.rd.shape
    have OW2 := Lib.hid own2
    have C2 := Lib.hid c2
    replace HL := Lib.hid (HL.out.call c2)
    clear own2 c2
    go_wp2_with (first | (refine wpList_allocO rfl 39 rfl (.cells (drawsL (List.replicate 32 0) 0).toArray 39) alloc_draws ?_; intro w4a aa gg zz; have A4a := Lib.hid aa; replace HL := Lib.hid (HL.out.alloc aa gg.out); clear aa gg zz; try simp only [List.nil_append, List.cons_append, List.set_cons_zero, List.set_cons_succ] at HL) | (refine wpList_store_drawsZ rfl (.tmp 14) (.tmp 42) rfl _ S2 (N2) HS2.out rfl rfl _ (HL.out.get 2 rfl) drawsZ_size ?_; intro w4b b1 b2 b3; have A4b := Lib.hid (b3 w4.heap.size w4 (Nat.le_refl _) A4a.out); replace HL := Lib.hid (HL.out.store 2 rfl b1 b2 b3); clear b1 b2 b3; try simp only [List.nil_append, List.cons_append, List.set_cons_zero, List.set_cons_succ] at HL))
    go_ret
    exact ⟨by simp, HL.out.aft⟩
end Go.Proofs.YtanodhagpegbfaaDoor
