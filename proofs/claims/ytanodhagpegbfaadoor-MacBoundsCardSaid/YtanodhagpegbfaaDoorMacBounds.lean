/- coterielaw03.MacBounds and MacDerives: they answer true. -/
import Derived.Test.YtanodhagpegbfaaDoorDerive
import Derived.Test.YtanodhagpegbfaaDoorMacExpands
namespace Go.Proofs.YtanodhagpegbfaaDoor
open Go Go.RowKit
theorem run_eql_of (X : List (BitVec 8)) (Z : Array Value) (hX : X.length = 32) (hZ : Z = (bv X).toArray) (w : World) : (Go.binOp .eql 23 (.agg (bv X).toArray) (.agg Z)).run Tryd.prog w = .ok (.bool true) w := by
  subst hZ
  exact run_eql_key X hX w
theorem drv_one_ok (L c : List (BitVec 8)) (hL : L.length ≤ 65535) (hc : c.length ≤ 65535) : textOk (drvT L [c]) = true := by
  simp [textOk, drvT, hL, hc, cot]
theorem drv_one_bad (L c : List (BitVec 8)) (hc : 65535 < c.length) : textOk (drvT L [c]) = false := by
  have : ¬ c.length ≤ 65535 := by omega
  simp [textOk, drvT, this]
theorem drv_one_len (L c : List (BitVec 8)) (h : textOk (drvT L [c]) = true) : (textsB (drvT L [c])).length ≤ 1048576 := by
  refine drv_len ⟨by simp, ?_⟩ h
  simp only [fewSum, List.map_cons, List.map_nil, List.sum_cons, List.sum_nil]
  omega
set_option maxRecDepth 100000 in
set_option maxHeartbeats 2000000 in
theorem macBounds_any (k c : List (BitVec 8)) (vc : Value) (n : Int) (w : World) (hK : TabK K0 2 w) (hk : k.length = 32) (hc : Rd w vc (bv c)) :
    Calls Tryd.prog 3 #[.agg (bv k).toArray, .int .i64 n, vc] w fun e w' => e = .returned (.bool true) ∧ Below w.heap.size w w' := by
  have HK := Lib.hid hK
  have HC := Lib.hid hc
  have HKl := Lib.hid hk
  have hbk := box_key k
  obtain ⟨ac, cc, rfl, -, -, -, -⟩ := hc
  have HKb := Lib.hid (heap_alloc_new w (.cells (bv k).toArray 23))
  have HL := Lib.hid (live3_any (w.alloc (.cells (bv k).toArray 23)) (TabK_fr HK.out (Fr.of_below (S := fun _ => False) (show Below w.heap.size w _ from Aft.alloc w _)) (fun h => h)))
  clear hK hk
  rw [bv_length] at HC ⊢
  go_enter Tryd.func3, Tryd.ntmps3
  go_wp2_with fail
  refine HL.out.mono ?_
  rintro e w1 ⟨rfl, hb1⟩
  have HB1 := Lib.hid (show Aft w w1 from Aft.trans (Aft.alloc w _) hb1)
  have HK1 := Lib.hid (Aft.get hb1 HKb.out)
  clear hb1
  by_cases h1 : (70000 : Int) < (c.length : Nat)
  · go_wp2_with fail
    go_ret
    exact ⟨rfl, HB1.out⟩
  · -- behind the bound's question
    have hpost : ∀ w2, Aft w w2 → w2.heap[w.heap.size]? = some (.cells (bv k).toArray 23 (0, 0)) → Calls Tryd.prog 20 #[.agg (bv k).toArray, .string ⟨#[]⟩, .slice (some ⟨w2.heap.size, 0, none⟩) 1 1] (w2.alloc (.cells #[.slice ac c.length cc] 24)) (DrvSays k [] [c] (w2.alloc (.cells #[.slice ac c.length cc] 24))) := by
      intro w2 h2 hg
      exact derive_any k ⟨#[]⟩ _ [c] _ (TabK_fr HK.out (Fr.of_below (S := fun _ => False) (show Below w.heap.size w _ from Aft.trans h2 (Aft.alloc w2 _))) (fun h => h)) HKl.out (RdAll.one w2 _ c _ (HC.out.grow h2)) (by decide) (by simp) (drv_one_len _ _)
    have HP := Lib.hid hpost
    clear hpost
    unfold DrvSays at HP
    have HXL := Lib.hid (drvKey_length k [] [c])
    have HX0 := Lib.hid (fun h : 65535 < c.length => show drvKey k [] [c] = List.replicate 32 0 by unfold drvKey; rw [drv_one_bad [] c h]; rfl)
    have HE0 := Lib.hid (fun h : 65535 < c.length => show textErr (drvT [] [c]) = 4 by unfold textErr; rw [drv_one_bad [] c h]; rfl)
    have HE1 := Lib.hid (fun h : c.length ≤ 65535 => show textErr (drvT [] [c]) = 0 by unfold textErr; rw [drv_one_ok [] c (by simp) h]; rfl)
    generalize drvKey k [] [c] = X at *
    generalize textErr (drvT [] [c]) = ex at *
    by_cases hn : n < 0 ∨ 8160 < n
    · have HN := Lib.hid (expandBad_any k none 0 0 n w1 hn)
      by_cases hn0 : n < 0
      · clear hn
        go_wp2_with ((refine wpList_load_row rfl 23 (.tmp 3) rfl w.heap.size rfl 23 (bv k).toArray (0, 0) _ HK1.out Tryd.underlying23 rfl (key_info HKl.out) ?_))
        refine HN.out.mono ?_
        rintro e w2 ⟨rfl, hb2⟩
        have HA2 := Lib.hid (show Aft w w2 from Aft.trans HB1.out hb2)
        have HK2 := Lib.hid (Aft.get hb2 HK1.out)
        clear hb2
        go_wp2_with ((refine wpList_load_row rfl 23 (.tmp 3) rfl w.heap.size rfl 23 (bv k).toArray (0, 0) _ HK2.out Tryd.underlying23 rfl (key_info HKl.out) ?_))
        refine (HP.out w2 HA2.out HK2.out).mono ?_
        rintro e w3 ⟨rfl, hb3⟩
        have HA3 := Lib.hid (show Aft w w3 from Aft.trans (Aft.trans HA2.out (Aft.alloc w2 _)) hb3)
        have HZ3 := Lib.hid (heap_alloc_new w3 (.cells key0 23))
        clear hb3
        by_cases hc : c.length ≤ 65535
        · have hex := HE1.out hc
          subst hex
          have hcl : ¬ (65535 : Int) < (c.length : Nat) := by omega
          go_wp2_with ((refine wpList_store_keyX rfl (.tmp 10) (.tmp 43) rfl w3.heap.size X HXL.out rfl rfl HZ3.out ?_; intro w4 q2 q3; have HB4 := Lib.hid (Aft.trans HA3.out (show Aft w3 w4 from q3 w3.heap.size w3 (Nat.le_refl _) (Aft.alloc _ _))); clear q2 q3))
          go_ret
          exact ⟨rfl, HB4.out⟩
        · have hc2 : 65535 < c.length := by omega
          have hex := HE0.out hc2
          subst hex
          have hcl : (65535 : Int) < (c.length : Nat) := by omega
          have HXz := Lib.hid (HX0.out hc2)
          clear hc hc2
          go_wp2_with (first
            | (refine wpList_store_keyX rfl (.tmp 10) (.tmp 43) rfl w3.heap.size X HXL.out rfl rfl HZ3.out ?_; intro w4 q2 q3; have HB4 := Lib.hid (Aft.trans HA3.out (show Aft w3 w4 from q3 w3.heap.size w3 (Nat.le_refl _) (Aft.alloc _ _))); have HX4 := Lib.hid q2.out; clear q2 q3)
            | (refine wpList_load_rowG (by kernel_rfl) 23 (.tmp 10) rfl w3.heap.size rfl 23 (bv X).toArray (0, 0) _ HX4.out Tryd.underlying23 rfl (key_info HXL.out) ?_)
            | (refine wpList_binG (by kernel_rfl) .eql 23 23 (.tmp 54) (.tmp 55) rfl (.agg (bv X).toArray) (.agg key0) _ rfl rfl (run_eql_of X key0 HXL.out (by rw [HXz.out]; exact key0_bv.symm)) (guard_key _ _ _ _ _) ?_))
          go_ret
          exact ⟨rfl, HB4.out⟩
      · have hn1 : 8160 < n := by omega
        clear hn
        go_wp2_with ((refine wpList_load_row rfl 23 (.tmp 3) rfl w.heap.size rfl 23 (bv k).toArray (0, 0) _ HK1.out Tryd.underlying23 rfl (key_info HKl.out) ?_))
        refine HN.out.mono ?_
        rintro e w2 ⟨rfl, hb2⟩
        have HA2 := Lib.hid (show Aft w w2 from Aft.trans HB1.out hb2)
        have HK2 := Lib.hid (Aft.get hb2 HK1.out)
        clear hb2
        go_wp2_with ((refine wpList_load_row rfl 23 (.tmp 3) rfl w.heap.size rfl 23 (bv k).toArray (0, 0) _ HK2.out Tryd.underlying23 rfl (key_info HKl.out) ?_))
        refine (HP.out w2 HA2.out HK2.out).mono ?_
        rintro e w3 ⟨rfl, hb3⟩
        have HA3 := Lib.hid (show Aft w w3 from Aft.trans (Aft.trans HA2.out (Aft.alloc w2 _)) hb3)
        have HZ3 := Lib.hid (heap_alloc_new w3 (.cells key0 23))
        clear hb3
        by_cases hc : c.length ≤ 65535
        · have hex := HE1.out hc
          subst hex
          have hcl : ¬ (65535 : Int) < (c.length : Nat) := by omega
          go_wp2_with ((refine wpList_store_keyX rfl (.tmp 10) (.tmp 43) rfl w3.heap.size X HXL.out rfl rfl HZ3.out ?_; intro w4 q2 q3; have HB4 := Lib.hid (Aft.trans HA3.out (show Aft w3 w4 from q3 w3.heap.size w3 (Nat.le_refl _) (Aft.alloc _ _))); clear q2 q3))
          go_ret
          exact ⟨rfl, HB4.out⟩
        · have hc2 : 65535 < c.length := by omega
          have hex := HE0.out hc2
          subst hex
          have hcl : (65535 : Int) < (c.length : Nat) := by omega
          have HXz := Lib.hid (HX0.out hc2)
          clear hc hc2
          go_wp2_with (first
            | (refine wpList_store_keyX rfl (.tmp 10) (.tmp 43) rfl w3.heap.size X HXL.out rfl rfl HZ3.out ?_; intro w4 q2 q3; have HB4 := Lib.hid (Aft.trans HA3.out (show Aft w3 w4 from q3 w3.heap.size w3 (Nat.le_refl _) (Aft.alloc _ _))); have HX4 := Lib.hid q2.out; clear q2 q3)
            | (refine wpList_load_rowG (by kernel_rfl) 23 (.tmp 10) rfl w3.heap.size rfl 23 (bv X).toArray (0, 0) _ HX4.out Tryd.underlying23 rfl (key_info HXL.out) ?_)
            | (refine wpList_binG (by kernel_rfl) .eql 23 23 (.tmp 54) (.tmp 55) rfl (.agg (bv X).toArray) (.agg key0) _ rfl rfl (run_eql_of X key0 HXL.out (by rw [HXz.out]; exact key0_bv.symm)) (guard_key _ _ _ _ _) ?_))
          go_ret
          exact ⟨rfl, HB4.out⟩
    · have hn0 : ¬ n < 0 := by omega
      have hn1 : ¬ 8160 < n := by omega
      clear hn
      obtain ⟨w2, rfl⟩ : ∃ w2, w2 = w1 := ⟨_, rfl⟩
      have HA2 := HB1
      have HK2 := HK1
      go_wp2_with ((refine wpList_load_row rfl 23 (.tmp 3) rfl w.heap.size rfl 23 (bv k).toArray (0, 0) _ HK2.out Tryd.underlying23 rfl (key_info HKl.out) ?_))
      refine (HP.out w2 HA2.out HK2.out).mono ?_
      rintro e w3 ⟨rfl, hb3⟩
      have HA3 := Lib.hid (show Aft w w3 from Aft.trans (Aft.trans HA2.out (Aft.alloc w2 _)) hb3)
      have HZ3 := Lib.hid (heap_alloc_new w3 (.cells key0 23))
      clear hb3
      by_cases hc : c.length ≤ 65535
      · have hex := HE1.out hc
        subst hex
        have hcl : ¬ (65535 : Int) < (c.length : Nat) := by omega
        go_wp2_with ((refine wpList_store_keyX rfl (.tmp 10) (.tmp 43) rfl w3.heap.size X HXL.out rfl rfl HZ3.out ?_; intro w4 q2 q3; have HB4 := Lib.hid (Aft.trans HA3.out (show Aft w3 w4 from q3 w3.heap.size w3 (Nat.le_refl _) (Aft.alloc _ _))); clear q2 q3))
        go_ret
        exact ⟨rfl, HB4.out⟩
      · have hc2 : 65535 < c.length := by omega
        have hex := HE0.out hc2
        subst hex
        have hcl : (65535 : Int) < (c.length : Nat) := by omega
        have HXz := Lib.hid (HX0.out hc2)
        clear hc hc2
        go_wp2_with (first
          | (refine wpList_store_keyX rfl (.tmp 10) (.tmp 43) rfl w3.heap.size X HXL.out rfl rfl HZ3.out ?_; intro w4 q2 q3; have HB4 := Lib.hid (Aft.trans HA3.out (show Aft w3 w4 from q3 w3.heap.size w3 (Nat.le_refl _) (Aft.alloc _ _))); have HX4 := Lib.hid q2.out; clear q2 q3)
          | (refine wpList_load_rowG (by kernel_rfl) 23 (.tmp 10) rfl w3.heap.size rfl 23 (bv X).toArray (0, 0) _ HX4.out Tryd.underlying23 rfl (key_info HXL.out) ?_)
          | (refine wpList_binG (by kernel_rfl) .eql 23 23 (.tmp 54) (.tmp 55) rfl (.agg (bv X).toArray) (.agg key0) _ rfl rfl (run_eql_of X key0 HXL.out (by rw [HXz.out]; exact key0_bv.symm)) (guard_key _ _ _ _ _) ?_))
        go_ret
        exact ⟨rfl, HB4.out⟩
/-- Behind the label is laid. -/
def cotW (w : World) (s : ByteArray) : World := Lib.bytesWorld (w.alloc (.cells #[.int .u8 99, .int .u8 111, .int .u8 116, .int .u8 101, .int .u8 114, .int .u8 105, .int .u8 101] 5 (7, 8))) 5 s
def cotCap (w : World) (s : ByteArray) : Nat := grownCap (w.alloc (.cells #[.int .u8 99, .int .u8 111, .int .u8 116, .int .u8 101, .int .u8 114, .int .u8 105, .int .u8 101] 5 (7, 8))) s.size 0 5
theorem cotW_size (w : World) (s : ByteArray) : (cotW w s).heap.size = w.heap.size + 2 := by
  unfold cotW
  rw [Lib.bytesWorld_size, World.size_alloc]
theorem cot_start (w : World) (s : ByteArray) (hs : s.size ≤ maxLen) :
    Aft w (cotW w s) ∧ Rd (cotW w s) (.slice (some ⟨w.heap.size, 0, none⟩) 7 7) (bv cot) ∧ Rd (cotW w s) (.slice (some ⟨w.heap.size + 1, 0, none⟩) s.size (cotCap w s)) (bv (sb s)) := by
  have a3 := Aft.alloc w (.cells #[.int .u8 99, .int .u8 111, .int .u8 116, .int .u8 101, .int .u8 114, .int .u8 105, .int .u8 101] 5 (7, 8))
  have a4 : Aft (w.alloc (.cells #[.int .u8 99, .int .u8 111, .int .u8 116, .int .u8 101, .int .u8 114, .int .u8 105, .int .u8 101] 5 (7, 8))) (cotW w s) := Lib.bytesWorld_below _ _ _
  have c1 := Rd.litF w (bv cot) 5 (7, 8) (by decide)
  have c2 := rd_conv (w.alloc (.cells #[.int .u8 99, .int .u8 111, .int .u8 116, .int .u8 101, .int .u8 114, .int .u8 105, .int .u8 101] 5 (7, 8))) s hs
  simp only [World.size_alloc] at c1 c2
  exact ⟨Aft.trans a3 a4, Rd.grow c1 a4, c2⟩
set_option maxRecDepth 100000 in
set_option maxHeartbeats 4000000 in
theorem macDerives_any (k : List (BitVec 8)) (s : ByteArray) (vc : Value) (ctx : List (List (BitVec 8))) (w : World) (hK : TabK K0 2 w) (hk : k.length = 32) (hc : RdAll w vc ctx) (h0 : ctx.length ≤ 1048576) :
    Calls Tryd.prog 4 #[.agg (bv k).toArray, .string s, vc] w fun e w' => e = .returned (.bool true) ∧ Below w.heap.size w w' := by
  have HK := Lib.hid hK
  have HC := Lib.hid hc
  have HKl := Lib.hid hk
  have H0 := Lib.hid h0
  have hbk := box_key k
  obtain ⟨ac, cc, rfl, -⟩ := hc.shape
  have HKb := Lib.hid (heap_alloc_new w (.cells (bv k).toArray 23))
  have HL := Lib.hid (live3_any (w.alloc (.cells (bv k).toArray 23)) (TabK_fr HK.out (Fr.of_below (S := fun _ => False) (show Below w.heap.size w _ from Aft.alloc w _)) (fun h => h)))
  clear hK hk hc
  go_enter Tryd.func4, Tryd.ntmps4
  go_wp2_with fail
  refine HL.out.mono ?_
  rintro e w1 ⟨rfl, hb1⟩
  have HB1 := Lib.hid (show Aft w w1 from Aft.trans (Aft.alloc w _) hb1)
  have HK1 := Lib.hid (Aft.get hb1 HKb.out)
  clear hb1
  by_cases h1 : (1000 : Int) < (s.size : Nat)
  · go_wp2_with fail
    go_ret
    exact ⟨rfl, HB1.out⟩
  · go_wp2_with fail
    refine (few_any _ ctx w1 (HC.out.below HB1.out) (by have := H0.out; omega)).mono ?_
    rintro e w1' ⟨rfl, rfl⟩
    by_cases hf : few ctx
    · rw [decide_eq_true hf]
      have HLs := Lib.hid (show s.size ≤ 1000 by omega)
      have HInf := Lib.hid (fun h => drv_len (L := sb s) hf h)
      have HD1 := Lib.hid (derive_any k s _ ctx w1' (TabK_fr HK.out (Fr.of_below (S := fun _ => False) HB1.out) (fun h => h)) HKl.out (HC.out.below HB1.out) (by have := HLs.out; omega) (by have := H0.out; omega) HInf.out)
      unfold DrvSays at HD1
      have HXL := Lib.hid (drvKey_length k (sb s) ctx)
      have HXX := Lib.hid (show drvKey k (sb s) ctx = _ from rfl)
      have HEE := Lib.hid (show textErr (drvT (sb s) ctx) = _ from rfl)
      generalize hX : drvKey k (sb s) ctx = X at HD1 HXL HXX
      generalize hE : textErr (drvT (sb s) ctx) = ex at HD1 HEE
      have HX := Lib.hid hX
      have HEx := Lib.hid hE
      clear hX hE HXX HEE h0 hf
      go_wp2_with ((refine wpList_load_row rfl 23 (.tmp 3) rfl w.heap.size rfl 23 (bv k).toArray (0, 0) _ HK1.out Tryd.underlying23 rfl (key_info HKl.out) ?_))
      refine HD1.out.mono ?_
      rintro e w4 ⟨rfl, hb4⟩
      have HA4 := Lib.hid (show Aft w w4 from Aft.trans HB1.out hb4)
      have HK4 := Lib.hid (Aft.get hb4 HK1.out)
      have HZ4 := Lib.hid (heap_alloc_new w4 (.cells key0 23))
      clear hb4
      obtain ⟨vs, hv1, hv2, hv3⟩ := HC.out
      have HS := Lib.hid (fun w5 : World => cot_start w5 s (Nat.le_trans (show s.size ≤ 1000 by have := HLs.out; omega) (by decide)))
      have HSz := Lib.hid (fun w5 : World => cotW_size w5 s)
      have HOwn := Lib.hid (fun w5 : World => (show ((cotW w5 s).alloc (.cells #[.slice (some ⟨w5.heap.size, 0, none⟩) 7 7, .slice (some ⟨w5.heap.size + 1, 0, none⟩) s.size (cotCap w5 s)] 24)).ownsRow (w5.heap.size + 2) 24 1 (.slice (some ⟨w5.heap.size + 2, 0, none⟩) 2 2) 2 [.slice (some ⟨w5.heap.size, 0, none⟩) 7 7, .slice (some ⟨w5.heap.size + 1, 0, none⟩) s.size (cotCap w5 s)] by
        have h := World.ownsRow_lit (base := w5.heap.size + 2) (e := 24) (size := 1) (cotW w5 s) #[.slice (some ⟨w5.heap.size, 0, none⟩) 7 7, .slice (some ⟨w5.heap.size + 1, 0, none⟩) s.size (cotCap w5 s)] 2 (by rw [HSz.out]; exact Nat.le_refl _) (by decide) rfl
        rw [HSz.out] at h
        exact h))
      have HV1 := Lib.hid (fun (w5 : World) (h : Aft w w5) => hv1.grow (Aft.trans h (Aft.trans (HS.out w5).1 (Aft.alloc (cotW w5 s) (.cells #[.slice (some ⟨w5.heap.size, 0, none⟩) 7 7, .slice (some ⟨w5.heap.size + 1, 0, none⟩) s.size (cotCap w5 s)] 24)))))
      have HV2 := Lib.hid hv2
      have HV3 := Lib.hid hv3
      clear hv1 hv2 hv3
      have hsz := fun w5 : World => cotW_size w5 s
      have hcv := fun (w : World) (C : Array Value) (n c : Nat) => Lib.run_convert_bytes_const (P := Tryd.prog) w 24 5 C n c Tryd.underlying24 Tryd.underlying5
      have hcs : ∀ w5 : World, (Go.convert 9 24 (.string s)).run Tryd.prog (w5.alloc (.cells #[.int .u8 99, .int .u8 111, .int .u8 116, .int .u8 101, .int .u8 114, .int .u8 105, .int .u8 101] 5 (7, 8))) = .ok (.slice (some ⟨w5.heap.size + 1, 0, none⟩) s.size (cotCap w5 s)) (cotW w5 s) := fun w5 => by
        have hcs := Lib.run_convert_string_bytes (P := Tryd.prog) (w5.alloc (.cells #[.int .u8 99, .int .u8 111, .int .u8 116, .int .u8 101, .int .u8 114, .int .u8 105, .int .u8 101] 5 (7, 8))) 9 24 5 s (u := .string) Tryd.underlying9 Tryd.underlying24 Tryd.underlying5
        change _ = Result.ok (Value.slice _ s.size (cotCap w5 s)) (cotW w5 s) at hcs
        simp only [World.size_alloc] at hcs
        exact hcs
      go_wp2_with (first
        | (refine wpList_store_keyX rfl (.tmp 8) (.tmp 31) rfl w4.heap.size X HXL.out rfl rfl HZ4.out ?_; intro w5 q2 q3; have HA5 := Lib.hid (Aft.trans HA4.out (show Aft w4 w5 from q3 w4.heap.size w4 (Nat.le_refl _) (Aft.alloc _ _))); have HX5 := Lib.hid q2.out; have HK5 := Lib.hid (Aft.get (show Aft w4 w5 from q3 w4.heap.size w4 (Nat.le_refl _) (Aft.alloc _ _)) HK4.out); clear q2 q3)
        | (at_builtin; refine wpList_append_rd rfl _ _ 32 rfl (w5.heap.size + 2) 24 (.slice none 0 0) 24 Tryd.underlying32 info_slice rfl (.slice (some ⟨w5.heap.size + 2, 0, none⟩) 2 2) (.slice ac ctx.length cc) [.slice (some ⟨w5.heap.size, 0, none⟩) 7 7, .slice (some ⟨w5.heap.size + 1, 0, none⟩) s.size (cotCap w5 s)] vs rfl rfl (HOwn.out w5) (HV1.out w5 HA5.out) (RdAll.one_cell HV3.out) (by have := HV2.out; have := H0.out; simp; omega) (by have := HV2.out; have := H0.out; simp; omega) (by rw [World.size_alloc, HSz.out]; omega) ?_; intro v7 w7 k1 k2 k3; have HA7 := Lib.hid (show Aft (cotW w5 s) w7 from (show Below (cotW w5 s).heap.size (cotW w5 s) ((cotW w5 s).alloc (.cells #[.slice (some ⟨w5.heap.size, 0, none⟩) 7 7, .slice (some ⟨w5.heap.size + 1, 0, none⟩) s.size (cotCap w5 s)] 24)) from Aft.alloc _ _).grown k2 (by rw [World.size_alloc]; omega) (fun g hg => by simp [Value.ownBlock] at hg; have := HSz.out w5; omega)); have HALL := Lib.hid (show RdAll w7 v7 (drvT (sb s) ctx) from RdAll.join (ps := [cot, sb s]) (qs := ctx) (Rd.of_own k1) rfl HV2.out (fun i v hv => by
          match i, hv with
          | 0, hv => cases hv; exact (HS.out w5).2.1.grow HA7.out
          | 1, hv => cases hv; exact (HS.out w5).2.2.grow HA7.out
          | i + 2, hv => simp at hv) (fun i v hv => (HV3.out i v hv).grow (Aft.trans HA5.out (Aft.trans (HS.out w5).1 HA7.out)))); clear k1 k2 k3))
      have HT := Lib.hid (refText_any (.slice none 0 0) _ [] (drvT (sb s) ctx) _ (Rd.nil _) HALL.out (by simp) (by have := H0.out; simp [drvT]; omega))
      refine HT.out.mono ?_
      rintro e w8 ⟨a8, c8, rfl, ho8, hb8⟩
      have HA58 := Lib.hid (show Aft w5 w8 from Aft.trans (HS.out w5).1 (Aft.trans HA7.out hb8))
      have HA8 := Lib.hid (Aft.trans HA5.out HA58.out)
      have HR8 := Lib.hid (Rd.of_own ho8)
      have HX8 := Lib.hid (Aft.get HA58.out HX5.out)
      have HK8 := Lib.hid (Aft.get HA58.out HK5.out)
      clear ho8 hb8 hcv hcs hsz
      rcases txErr_cases (drvT (sb s) ctx) with ⟨he, hk⟩ | ⟨he, hk⟩
      · obtain rfl : ex = 4 := HEx.out.symm.trans he
        rw [he]
        clear he hk
        go_wp2_with fail
        go_ret
        exact ⟨rfl, HA8.out⟩
      · obtain rfl : ex = 0 := HEx.out.symm.trans he
        have hY : textB [] (drvT (sb s) ctx) = textsB (drvT (sb s) ctx) := by unfold textB; rw [if_pos hk]; rfl
        have hXo : okm k (textsB (drvT (sb s) ctx)) 32 = X := by have := HX.out; unfold drvKey at this; rwa [if_pos hk] at this
        rw [hY] at HR8 ⊢
        rw [he]
        have hE := expand2_any k (textsB (drvT (sb s) ctx)) _ 32 w8 (TabK_fr HK.out (Fr.of_below (S := fun _ => False) HA8.out) (fun h => h)) HKl.out HR8.out (HInf.out hk) (by omega)
        unfold ExpSays at hE
        rw [hXo] at hE
        have HE := Lib.hid hE
        clear hE he hk hY hXo
        go_wp2_with ((refine wpList_load_row rfl 23 (.tmp 3) rfl w.heap.size rfl 23 (bv k).toArray (0, 0) _ HK8.out Tryd.underlying23 rfl (key_info HKl.out) ?_))
        refine HE.out.mono ?_
        rintro e w9 ⟨a9, c9, rfl, hr9, hb9⟩
        have HA9 := Lib.hid (show Aft w w9 from Aft.trans HA8.out hb9)
        have HSm := Lib.hid (same_any _ _ X X w9 (Rd.of_key (Aft.get hb9 HX8.out) HXL.out) hr9)
        clear hr9 hb9
        go_wp2_with fail
        refine HSm.out.mono ?_
        rintro e w10 ⟨rfl, hx⟩
        obtain rfl : w10 = w9 := hx
        simp only [decide_true]
        go_wp2_with fail
        go_ret
        exact ⟨rfl, HA9.out⟩
    · rw [decide_eq_false hf]
      go_wp2_with fail
      go_ret
      exact ⟨rfl, HB1.out⟩
end Go.Proofs.YtanodhagpegbfaaDoor
