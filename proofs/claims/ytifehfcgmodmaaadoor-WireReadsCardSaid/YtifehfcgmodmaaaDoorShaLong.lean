import Derived.Test.YtifehfcgmodmaaaDoorLive2
namespace Go.Proofs.YtifehfcgmodmaaaDoor
open Go Go.RowKit
/-- A slice of one byte slice, as the walk writes it. -/
theorem RdAll.one (w : World) (v : Value) (l : List (BitVec 8)) (t : Nat) (h : Rd w v (bv l)) : RdAll (w.alloc (.cells #[v] t)) (.slice (some ⟨w.heap.size, 0, none⟩) 1 1) [l] := by
  refine ⟨[v], Rd.litF w [v] t (0, 0) (by show 1 ≤ maxLen; decide), rfl, fun i u hu => ?_⟩
  cases i with
  | zero => cases hu; exact h.grow ((Below.refl _ _).alloc (Nat.le_refl _) _)
  | succ i => simp at hu
theorem sha_all {w : World} {bs : Nat} {s : St} {N : Nat} {vr : Value} (h : w.rowIs bs 37 10 (shaCells s N vr)) :
    w.cell? ⟨bs, 0, none⟩ = some (.int .u32 (wn s.a)) ∧ w.cell? ⟨bs, 1, none⟩ = some (.int .u32 (wn s.b)) ∧ w.cell? ⟨bs, 2, none⟩ = some (.int .u32 (wn s.c)) ∧ w.cell? ⟨bs, 3, none⟩ = some (.int .u32 (wn s.d)) ∧ w.cell? ⟨bs, 4, none⟩ = some (.int .u32 (wn s.e)) ∧
    w.cell? ⟨bs, 5, none⟩ = some (.int .u32 (wn s.f)) ∧ w.cell? ⟨bs, 6, none⟩ = some (.int .u32 (wn s.g)) ∧ w.cell? ⟨bs, 7, none⟩ = some (.int .u32 (wn s.h)) ∧ w.cell? ⟨bs, 8, none⟩ = some (.int .u64 (N : Int)) ∧ w.cell? ⟨bs, 9, none⟩ = some vr := by
  obtain ⟨g0, g1, g2, g3, g4, g5, g6, g7⟩ := state_cells h shaCells_low (by omega) (Below.refl (bs + 1) w) (by omega)
  have g8 := World.rowIs.cell h (i := 8) (by omega)
  rw [shaCells_8] at g8
  have g9 := World.rowIs.cell h (i := 9) (by omega)
  rw [shaCells_9] at g9
  exact ⟨g0, g1, g2, g3, g4, g5, g6, g7, g8, g9⟩
theorem sha_row {w : World} {bs : Nat} {s : St} {N : Nat} {vr : Value} (h : w.heap[bs]? = some (.cells (shaArr s N vr) 37 (0, 0))) : w.rowIs bs 37 10 (shaCells s N vr) :=
  ⟨shaArr s N vr, h, rfl, fun i hi => shaArr_at s N vr i hi⟩
theorem chk_mk {s : St} {N n : Nat} (h1 : N ≤ 1099511627776) (h2 : n = N % 64) (h3 : N < 64 → s = iv) : chk s N n = 0 := by
  unfold chk
  rw [if_neg]
  simp only [not_or, not_and, Decidable.not_not]
  exact ⟨by omega, h2, h3⟩
theorem wrote_chk {K : Nat → BitVec 32} {s : St} {N : Nat} {rest b : List (BitVec 8)} (hc : chk s N (bv rest).length = 0) (h3 : N + b.length ≤ 1099511627776) : chk (shaSt K s (rest ++ b)) (N + b.length) (bv (restOf (rest ++ b))).length = 0 := by
  obtain ⟨c1, c2, c3⟩ := chk_ok hc
  rw [bv_length] at c2
  refine chk_mk h3 ?_ fun h => ?_
  · rw [bv_length, restOf_length, List.length_append]; omega
  · rw [(shaSt_short K s (rest ++ b) (by rw [List.length_append]; omega)).1]
    exact c3 (by omega)
theorem wrote_nil {K : Nat → BitVec 32} {s : St} {N : Nat} {rest : List (BitVec 8)} (hc : chk s N (bv rest).length = 0) : wrote K s N rest [] = (s, N, rest, 0) := by
  obtain ⟨c1, c2, c3⟩ := chk_ok hc
  rw [bv_length] at c2
  obtain ⟨e1, e2⟩ := shaSt_short K s rest (by omega)
  unfold wrote
  rw [if_pos hc, if_pos (by simpa using c1), List.append_nil, e1, e2]
  rfl
set_option maxRecDepth 100000 in
set_option maxHeartbeats 2000000 in
theorem shaLong_any (s : St) (N : Nat) (vr vb : Value) (rest b : List (BitVec 8)) (w : World) (hK : TabK K0 1 w) (hrd : Rd w vr (bv rest)) (hb : Rd w vb (bv b)) (hN : N < 18446744073709551616) :
    Calls Tryd.prog 10 #[.agg #[.int .u32 (wn s.a), .int .u32 (wn s.b), .int .u32 (wn s.c), .int .u32 (wn s.d), .int .u32 (wn s.e), .int .u32 (wn s.f), .int .u32 (wn s.g), .int .u32 (wn s.h), .int .u64 (N : Int), vr], vb] w
      fun e w' => e = .returned (.bool true) ∧ Below w.heap.size w w' := by
  have HK := Lib.hid hK
  have HR := Lib.hid hrd
  have HB := Lib.hid hb
  obtain ⟨ao, cap, rfl, hcap, hcap', -, -⟩ := hrd
  obtain ⟨aob, capb, rfl, hcapb, hcapb', -, -⟩ := hb
  clear hK
  have hrow := shaRow s N (.slice ao (bv rest).length cap) w
  have hbw := (Below.refl w.heap.size w).alloc (Nat.le_refl _) (.cells (shaArr s N (.slice ao (bv rest).length cap)) 37)
  unfold shaArr at hrow hbw
  have HL := Lib.hid (live2_any _ (TabK_fr HK.out (Fr.of_below (S := fun _ => False) hbw) (fun h => h)))
  have HRow := Lib.hid hrow
  have HBw := Lib.hid hbw
  clear hrow hbw
  go_enter Tryd.func10, Tryd.ntmps10
  go_wp2_with fail
  refine HL.out.mono ?_
  rintro e w1 ⟨rfl, hb1⟩
  have hbA := HBw.out.trans (hb1.mono HBw.out.size)
  have hrowA := HRow.out.of_block (hb1.block _ HRow.out.lt)
  by_cases h1 : (bv b).length > 2000
  · have h1' : (2000 : Int) < ((bv b).length : Nat) := by omega
    go_wp2_with fail
    go_ret
    exact ⟨rfl, hbA⟩
  · have h1' : ¬ (2000 : Int) < ((bv b).length : Nat) := by omega
    have g9 := World.rowIs.cell hrowA (i := 9) (by omega)
    rw [shaCells_9] at g9
    by_cases h2 : (bv rest).length > 200
    · have h2' : (200 : Int) < ((bv rest).length : Nat) := by omega
      go_wp2_with fail
      go_ret
      exact ⟨rfl, hbA⟩
    · have h2' : ¬ (200 : Int) < ((bv rest).length : Nat) := by omega
      obtain ⟨g0, g1, g2, g3, g4, g5, g6, g7⟩ := state_cells hrowA shaCells_low (by omega) (Below.refl (w.heap.size + 1) w1) (by omega)
      have g8 := World.rowIs.cell hrowA (i := 8) (by omega)
      rw [shaCells_8] at g8
      have HA := Lib.hid hbA
      have HRA := Lib.hid hrowA
      clear hbA hrowA hb1
      go_wp2_with fail
      have hl1 := HRA.out.lt
      have hb2 : Below w1.heap.size w1 (w1.alloc (.cells #[.slice aob (bv b).length capb] 25)) := (Below.refl _ _).alloc (Nat.le_refl _) _
      have hb3 := HA.out.trans (hb2.mono HA.out.size)
      have hlr : rest.length ≤ 200 := by rw [bv_length] at h2; omega
      have hlb : b.length ≤ 2000 := by rw [bv_length] at h1; omega
      refine (write_any K0 s N _ _ rest [b] _ (TabK_fr HK.out (Fr.of_below (S := fun _ => False) hb3) (fun h => h)) (HR.out.grow hb3) (RdAll.one w1 _ b _ (HB.out.grow HA.out)) hN (by omega) (by simp; omega)).mono ?_
      rintro e w2 ⟨st, N', rs, er, vr', hw, rfl, ho, hb4⟩
      obtain ⟨a2, c2, rfl⟩ := own_shape ho
      have hb5 := hb3.trans (hb4.mono hb3.size)
      have hrow2 := HRA.out.of_block ((hb2.trans (hb4.mono hb2.size)).block _ hl1)
      have HW := Lib.hid hw
      have HO := Lib.hid ho
      have H5 := Lib.hid hb5
      have HR2 := Lib.hid hrow2
      have HS2 := Lib.hid (heap_alloc_new w2 (.cells zero10 37))
      have hl2 : w.heap.size < w2.heap.size := hrow2.lt
      clear hw ho hb5 hrow2 hb2 hb3 hb4 g0 g1 g2 g3 g4 g5 g6 g7 g8 g9
      go_wp2_with ((refine wpList_store_sha rfl (.tmp 6) (.tmp 30) rfl w2.heap.size #[.int .u32 (wn st.a), .int .u32 (wn st.b), .int .u32 (wn st.c), .int .u32 (wn st.d), .int .u32 (wn st.e), .int .u32 (wn st.f), .int .u32 (wn st.g), .int .u32 (wn st.h), .int .u64 (N' : Int), .slice a2 (bv rs).length c2] rfl rfl rfl (by kernel_rfl) zero10 rfl HS2.out ?_; intro w3 q2 q3 q4; have HR3 := Lib.hid (HR2.out.of_block ((q4.out w.heap.size (by omega)).trans (Below.heap_alloc _ _ _ hl2))); obtain ⟨g0, g1, g2, g3, g4, g5, g6, g7, g8, g9⟩ := sha_all HR3.out; have H6 := Lib.hid (q3 w.heap.size w H5.out.size (H5.out.alloc H5.out.size _)); clear q3))
      have hl3 : w.heap.size < w3.heap.size := HR3.out.lt
      have hl23 : w2.heap.size < w3.heap.size := heap_lt q2.out
      refine (check_any s N (bv rest).length cap ao w3 hN (by omega)).mono ?_
      rintro e w4 ⟨rfl, hb4⟩
      have hrow4 := HR3.out.of_block (hb4.block _ hl3)
      have hA4 := (hb4.block _ hl23).trans q2.out
      have hb0 := H6.out.trans (hb4.mono H6.out.size)
      clear g0 g1 g2 g3 g4 g5 g6 g7 g8 g9
      obtain ⟨g0, g1, g2, g3, g4, g5, g6, g7, g8, g9⟩ := sha_all hrow4
      have HR4 := Lib.hid hrow4
      have HA4 := Lib.hid hA4
      have H0 := Lib.hid hb0
      have hl4 : w.heap.size < w4.heap.size := hrow4.lt
      have hl24 : w2.heap.size < w4.heap.size := heap_lt hA4
      obtain ⟨r0, r1, r2, r3, r4, r5, r6, r7, r8, r9⟩ := sha_all (sha_row (s := st) (N := N') (vr := .slice a2 (bv rs).length c2) hA4)
      clear hrow4 hA4 hb0 hb4
      rcases chk_cases s N (bv rest).length with hc | hc
      · have hw := HW.out
        unfold wrote at hw
        rw [if_pos hc] at hw
        have hbl := bv_length b
        have hfb : ([b] : List (List (BitVec 8))).flatten = b := by simp
        rw [hfb] at hw
        have hN2 := chk_N hc
        by_cases h3 : N + b.length ≤ 1099511627776
        · rw [if_pos h3] at hw
          simp only [Prod.mk.injEq] at hw
          obtain ⟨hw1, hw2, hw3, rfl⟩ := hw
          have h3' : ¬ (1099511627776 : Int) < (N : Int) + ((bv b).length : Nat) := by omega
          have hch : chk st N' (bv rs).length = 0 := by rw [hw1, hw2, hw3]; exact wrote_chk hc h3
          have hNN : (N : Int) + ((bv b).length : Nat) = (N' : Int) := by rw [hw2, hbl]; rfl
          have h3'' : ¬ (1099511627776 : Int) < (N' : Int) := by omega
          have hN' : N' < 18446744073709551616 := by omega
          have hrs : (bv rs).length ≤ 1099511627776 := by rw [bv_length, hw3, restOf_length]; omega
          have HN' : Hid ((N' : Int) = (N : Int) + (b.length : Int)) := (by rw [hw2]; rfl : (N' : Int) = (N : Int) + (b.length : Int))
          clear hw1 hw2 hw3
          go_wp2_with fail
          refine (write_any K0 s N _ _ rest [] w4 (TabK_fr HK.out (Fr.of_below (S := fun _ => False) H0.out) (fun h => h)) (HR.out.grow H0.out) (RdAll.nil _) hN (by omega) (by simp)).mono ?_
          rintro e w5 ⟨st5, N5, rs5, er5, vr5, hw5, rfl, ho5, hb5⟩
          rw [List.flatten_nil, wrote_nil hc] at hw5
          simp only [Prod.mk.injEq] at hw5
          obtain ⟨rfl, rfl, rfl, rfl⟩ := hw5
          obtain ⟨a5, c5, rfl⟩ := own_shape ho5
          have HO5 := Lib.hid ho5
          have HS5 := Lib.hid (heap_alloc_new w5 (.cells zero10 37))
          have hA5 := (hb5.block _ hl24).trans HA4.out
          have HA5 := Lib.hid ((Below.heap_alloc w5 (.cells zero10 37) _ (heap_lt hA5)).trans hA5)
          have hl25 : w2.heap.size < w5.heap.size := heap_lt hA5
          have hR5 := HR4.out.of_block (hb5.block _ hl4)
          have hl5 : w.heap.size < w5.heap.size := hR5.lt
          have HR5 := Lib.hid (hR5.of_block (Below.heap_alloc w5 (.cells zero10 37) _ hl5))
          have H5b := Lib.hid (H0.out.trans (hb5.mono H0.out.size))
          clear hA5 hR5 hb5 ho5 r0 r1 r2 r3 r4 r5 r6 r7 r8 r9 g0 g1 g2 g3 g4 g5 g6 g7 g8 g9
          go_wp2_with ((refine wpList_store_sha rfl (.tmp 10) (.tmp 74) rfl w5.heap.size #[.int .u32 (wn st5.a), .int .u32 (wn st5.b), .int .u32 (wn st5.c), .int .u32 (wn st5.d), .int .u32 (wn st5.e), .int .u32 (wn st5.f), .int .u32 (wn st5.g), .int .u32 (wn st5.h), .int .u64 (N5 : Int), .slice a5 (bv rs5).length c5] rfl rfl rfl (by kernel_rfl) zero10 rfl HS5.out ?_; intro w6 q2 q3 q4; have hA6 := (q4.out w2.heap.size (by omega)).trans HA5.out; have hR6 := HR5.out.of_block (q4.out w.heap.size (by omega)); obtain ⟨r0, r1, r2, r3, r4, r5, r6, r7, r8, r9⟩ := sha_all (sha_row (s := st) (N := N') (vr := .slice a2 (bv rs).length c2) hA6); obtain ⟨g0, g1, g2, g3, g4, g5, g6, g7, g8, g9⟩ := sha_all hR6; have H7 := Lib.hid (q3 w.heap.size w H5b.out.size (H5b.out.alloc H5b.out.size _)); have HR6 := Lib.hid hR6; clear q3 hA6 hR6))
          have h5c : ∀ i, i < 10 → True := fun _ _ => trivial
          clear h5c
          have p0 := sha_all (sha_row (s := st5) (N := N5) (vr := .slice a5 (bv rs5).length c5) q2.out)
          obtain ⟨p0, p1, p2, p3, p4, p5, p6, p7, p8, p9⟩ := p0
          have hl6 : w.heap.size < w6.heap.size := HR6.out.lt
          have hl56 : w5.heap.size < w6.heap.size := heap_lt q2.out
          go_wp2_with fail
          have hcA := check_any st N' (bv rs).length c2 a2 w6 hN' hrs
          rw [HN'.out] at hcA
          refine hcA.mono ?_
          rintro e w7 ⟨rfl, hb7⟩
          obtain ⟨t0, t1, t2, t3, t4, t5, t6, t7, t8, t9⟩ := sha_all (HR6.out.of_block (hb7.block _ hl6))
          obtain ⟨u0, u1, u2, u3, u4, u5, u6, u7, u8, u9⟩ := sha_all (sha_row (s := st5) (N := N5) (vr := .slice a5 (bv rs5).length c5) ((hb7.block _ hl56).trans q2.out))
          have hb8 := H7.out.trans (hb7.mono H7.out.size)
          have HB8 := Lib.hid hb8
          have HRd7 := Lib.hid ((Rd.of_own HO5.out).keep (w' := w7) fun g _ _ hlt => (hb7.block g (by omega)).trans ((q4.out g (by omega)).trans (Below.heap_alloc _ _ _ hlt)))
          clear hb7 hb8
          go_wp2_with fail
          refine (shaSame_any st5 st5 N5 N5 _ _ rs5 rs5 w7 HRd7.out (HR.out.grow HB8.out)).mono ?_
          rintro e w8 ⟨rfl, hb8⟩
          go_wp2_with fail
          go_ret
          exact ⟨by simp, HB8.out.trans (hb8.mono HB8.out.size)⟩
        · rw [if_neg h3] at hw
          simp only [Prod.mk.injEq] at hw
          obtain ⟨rfl, rfl, rfl, rfl⟩ := hw
          have h3' : (1099511627776 : Int) < (N : Int) + ((bv b).length : Nat) := by omega
          go_wp2_with fail
          refine (shaSame_any zeroSt zeroSt 0 0 (.slice a2 (bv []).length c2) (.slice none 0 0) [] [] w4 ((Rd.of_own HO.out).keep fun g hg hx _ => absurd rfl hx) (Rd.nil _)).mono ?_
          rintro e w5 ⟨rfl, hb5⟩
          go_wp2_with fail
          go_ret
          exact ⟨rfl, H0.out.trans (hb5.mono H0.out.size)⟩
      · have hw := HW.out
        unfold wrote at hw
        rw [if_neg (by rw [hc]; decide)] at hw
        simp only [Prod.mk.injEq] at hw
        obtain ⟨rfl, rfl, rfl, rfl⟩ := hw
        go_wp2_with fail
        refine (done_any K0 s N _ rest w4 (TabK_fr HK.out (Fr.of_below (S := fun _ => False) H0.out) (fun h => h)) (HR.out.grow H0.out) hN (by omega)).mono ?_
        rintro e w5 ⟨rfl, hb5⟩
        have HS5 := Lib.hid (heap_alloc_new w5 (.cells key0 28))
        have H5b := Lib.hid (H0.out.trans (hb5.mono H0.out.size))
        have hA5 := (hb5.block _ hl24).trans HA4.out
        have HA5 := Lib.hid ((Below.heap_alloc w5 (.cells key0 28) _ (heap_lt hA5)).trans hA5)
        have hl25 : w2.heap.size < w5.heap.size := heap_lt hA5
        clear hA5 hb5 r0 r1 r2 r3 r4 r5 r6 r7 r8 r9 g0 g1 g2 g3 g4 g5 g6 g7 g8 g9
        go_wp2_with ((refine wpList_store_key0 rfl (.tmp 8) (.tmp 38) rfl w5.heap.size rfl rfl HS5.out ?_; intro w6 q2 q3; have hA6 := ((q3 _ _ (Nat.le_refl _) (Below.refl _ _)).block _ hl25).trans HA5.out; obtain ⟨r0, r1, r2, r3, r4, r5, r6, r7, r8, r9⟩ := sha_all (sha_row (s := zeroSt) (N := 0) (vr := .slice a2 (bv []).length c2) hA6); have H7 := Lib.hid (q3 w.heap.size w H5b.out.size (H5b.out.alloc H5b.out.size _)); clear q3 hA6))
        refine (shaSame_any zeroSt zeroSt 0 0 (.slice a2 (bv []).length c2) (.slice none 0 0) [] [] w6 ((Rd.of_own HO.out).keep fun g hg hx _ => absurd rfl hx) (Rd.nil _)).mono ?_
        rintro e w7 ⟨rfl, hb7⟩
        go_wp2_with fail
        go_ret
        exact ⟨rfl, H7.out.trans (hb7.mono H7.out.size)⟩
end Go.Proofs.YtifehfcgmodmaaaDoor
