/- law03.MacKeys, walked whole. -/
import Derived.Test.YtifehfcgmodmaaaDoorZeros
namespace Go.Proofs.YtifehfcgmodmaaaDoor
open Go Go.RowKit
theorem key64_sum (k : List (BitVec 8)) (h : 64 < k.length) : key64 K0 (digest K0 k) = key64 K0 k := by
  unfold key64
  rw [if_pos (by rw [digest_length]; omega), if_neg (by omega)]
theorem macOf_sum (k d : List (BitVec 8)) (h : 64 < k.length) : macOf K0 (digest K0 k) d = macOf K0 k d := by
  unfold macOf
  rw [key64_sum k h]
theorem heldB_zeros (k : List (BitVec 8)) (n : Nat) (b : BitVec 8) : heldB (k ++ List.replicate n 0) b = heldB k b := by
  unfold heldB
  apply List.map_congr_left
  intro j _
  congr 1
  simp only [List.getD_eq_getElem?_getD]
  by_cases hj : j < k.length
  · rw [List.getElem?_append_left hj]
  · rw [List.getElem?_append_right (by omega), List.getElem?_eq_none (l := k) (by omega)]
    by_cases h2 : j - k.length < n
    · rw [List.getElem?_replicate_of_lt h2]; rfl
    · rw [List.getElem?_eq_none (by simp; omega)]
theorem macOf_zeros (k d : List (BitVec 8)) (n : Nat) (h : k.length + n ≤ 64) : macOf K0 (k ++ List.replicate n 0) d = macOf K0 k d := by
  have e1 : key64 K0 (k ++ List.replicate n 0) = k ++ List.replicate n 0 := if_pos (by simp; omega)
  have e2 : key64 K0 k = k := if_pos (by omega)
  unfold macOf
  rw [e1, e2, heldB_zeros, heldB_zeros]
theorem RdAll.twoA (w : World) (v1 v2 : Value) (l1 l2 : List (BitVec 8)) (t : Nat) (h1 : Rd w v1 (bv l1)) (h2 : Rd w v2 (bv l2)) : RdAll (w.alloc (.cells #[v1, v2] t)) (.slice (some ⟨w.heap.size, 0, none⟩) 2 2) [l1, l2] :=
  RdAll.two (heap_alloc_new w _) (h1.grow (Aft.alloc w _)) (h2.grow (Aft.alloc w _))
theorem bv_zeros (n : Nat) : List.replicate n (Value.int .u8 0) = bv (List.replicate n 0) := by simp [bv, bn]
set_option maxRecDepth 100000 in
theorem run_neq_key (X : List (BitVec 8)) (hx : X.length = 32) (w : World) : (Go.binOp .neq 28 (.agg (bv X).toArray) (.agg (bv X).toArray)).run Tryd.prog w = .ok (.bool false) w := by
  have heq := run_eq_key X X hx hx
  simp only [decide_true] at heq
  simp [go_sem, heq]
set_option maxRecDepth 100000 in
theorem run_eql_key (X : List (BitVec 8)) (hx : X.length = 32) (w : World) : (Go.binOp .eql 28 (.agg (bv X).toArray) (.agg (bv X).toArray)).run Tryd.prog w = .ok (.bool true) w := by
  have heq := run_eq_key X X hx hx
  simp only [decide_true] at heq
  simp [go_sem, heq]
theorem guard_key (op : BinOp) (x y : Operand) (cs ds : Array Value) (w : World) : (eqGuard op 28 x y (.agg cs) (.agg ds)).run Tryd.prog w = .ok () w := by
  have hq := Tryd.eqGuardType28
  cases op <;> simp [eqGuard, run_program, hq]
/-- An operation on two values, whose outcome is known. -/
theorem lf_bin {P : Program} {ops : Array Oper} {w0 : World} {Kd : Nat → Nat} {Q : Exit → Act → World → Prop} {n k : Nat} {o : Oper} {l : List Oper} {a : Act} {w : World} (hk : Kd k = 0) (hw : Region.wanted o (yielded ops a.tmps) = true)
    (op : BinOp) (t t2 : TypeId) (x y : Operand) (ho : o.op = .binOp op t x y t2) (vx vy v : Value) (hx : a.eval x = vx) (hy : a.eval y = vy) (hr : ∀ w1, (Go.binOp op t vx vy).run P w1 = .ok v w1) (hg : ∀ w1, (eqGuard op t x y vx vy).run P w1 = .ok () w1)
    (h : wpFx P ops w0 Kd Q n (k + 1) l (a.put o.dst v) w) : wpFx P ops w0 Kd Q (n + 1) k (o :: l) a w := by
  have hup := wpFx_up (P := P) (ops := ops) (w0 := w0) (Kd := Kd) (Q := Q) n (k + 1) l
  simp only [wpFx_succ, stepF, hw, if_true, hk]
  rw [if_neg (by omega)]
  refine ⟨none, fun _ => v, fun _ => rfl, fun w1 hw1 _ => .inl ?_, fun w1 g hw1 _ => hup _ _ _ hw1 h⟩
  unfold execOp
  simp only [ho, hx, hy, Sem.run_bind, hg, hr, Result.andThen_ok, Sem.run_pure]
set_option maxRecDepth 100000 in
set_option maxHeartbeats 4000000 in
theorem macKeys_any (vk va vb : Value) (k a b : List (BitVec 8)) (z : BitVec 8) (w : World) (hK : TabK K0 1 w) (hrk : Rd w vk (bv k)) (hra : Rd w va (bv a)) (hrb : Rd w vb (bv b)) :
    Calls Tryd.prog 4 #[vk, va, vb, .int .u8 (bn z)] w fun e w' => e = .returned (.bool true) ∧ Below w.heap.size w w' := by
  have HK := Lib.hid hK
  have HR := Lib.hid hrk
  have HA := Lib.hid hra
  have HB := Lib.hid hrb
  obtain ⟨aok, capk, rfl, -, -, -, -⟩ := hrk
  obtain ⟨aoa, capa, rfl, -, -, -, -⟩ := hra
  obtain ⟨aob, capb, rfl, -, -, -, -⟩ := hrb
  clear hK
  have HL := Lib.hid (live3_any w HK.out)
  go_enter Tryd.func4, Tryd.ntmps4
  go_wp2_with fail
  refine HL.out.mono ?_
  rintro e w1 ⟨rfl, hb1⟩
  have HB1 := Lib.hid hb1
  clear hb1
  by_cases h1 : (bv k).length > 500
  · have h1' : (500 : Int) < ((bv k).length : Nat) := by omega
    go_wp2_with fail
    go_ret
    exact ⟨rfl, HB1.out⟩
  · have h1' : ¬ (500 : Int) < ((bv k).length : Nat) := by omega
    by_cases h2 : (bv a).length > 2000
    · have h2' : (2000 : Int) < ((bv a).length : Nat) := by omega
      go_wp2_with fail
      go_ret
      exact ⟨rfl, HB1.out⟩
    · have h2' : ¬ (2000 : Int) < ((bv a).length : Nat) := by omega
      by_cases h3 : (bv b).length > 2000
      · have h3' : (2000 : Int) < ((bv b).length : Nat) := by omega
        go_wp2_with fail
        go_ret
        exact ⟨rfl, HB1.out⟩
      · have h3' : ¬ (2000 : Int) < ((bv b).length : Nat) := by omega
        have HLk := Lib.hid (show k.length ≤ 500 by rw [bv_length] at h1; omega)
        have HLa := Lib.hid (show a.length ≤ 2000 by rw [bv_length] at h2; omega)
        have HLb := Lib.hid (show b.length ≤ 2000 by rw [bv_length] at h3; omega)
        go_wp2_with fail
        have hal : Aft w1 (w1.alloc (.cells #[.slice aoa (bv a).length capa, .slice aob (bv b).length capb] 25)) := Aft.alloc _ _
        have hm := mac_any _ _ k [a, b] _ (TabK_fr HK.out (Fr.of_below (S := fun _ => False) (show Below w.heap.size w _ from Aft.trans HB1.out hal)) (fun h => h)) (HR.out.grow (Aft.trans HB1.out hal)) (RdAll.twoA w1 _ _ a b _ (HA.out.grow HB1.out) (HB.out.grow HB1.out)) (by have := HLk.out; omega) (by simp) (by have := HLa.out; have := HLb.out; simp; omega)
        rw [show ([a, b] : List (List (BitVec 8))).flatten = a ++ b by simp] at hm
        have hxl := macOf_length K0 k (a ++ b)
        generalize hX : macOf K0 k (a ++ b) = X at hm hxl
        have HX := Lib.hid hX
        have HXL := Lib.hid hxl
        have HM := Lib.hid hm
        have HAl := Lib.hid hal
        clear hm hxl hX hal
        refine HM.out.mono ?_
        rintro e w2 ⟨rfl, hb2⟩
        have HB2 := Lib.hid (show Below w.heap.size w w2 from Aft.trans HB1.out (Aft.trans HAl.out hb2))
        have HS2 := Lib.hid (heap_alloc_new w2 (.cells key0 28))
        clear hb2
        go_wp2_with ((refine wpList_store_keyX rfl (.tmp 10) (.tmp 34) rfl w2.heap.size X HXL.out rfl rfl HS2.out ?_; intro w3 q2 q3; have HK3 := Lib.hid q2.out; have HB3 := Lib.hid (q3 w.heap.size w HB2.out.size (HB2.out.alloc HB2.out.size _)); clear q2 q3))
        simp only [Act.put]
        have heq := run_eq_key X X HXL.out HXL.out
        simp only [decide_true] at heq
        refine wp_region_lexF (fun i => ([0, 0, 0, 2, 0, 3, 1, 2, 0] : List Nat).getD i 0) 9 (by kernel_rfl) (by kernel_rfl) ?_; intro wf hwf
        have HWf := Lib.hid (show Aft w3 wf by rw [hwf]; exact (Below.refl _ _).drew)
        have HBf := Lib.hid (show Below w.heap.size w wf by rw [hwf]; exact HB3.out.drew)
        clear hwf
        refine lf_load_row rfl (by kernel_rfl) 28 (.tmp 10) rfl w2.heap.size rfl _ (bv X).toArray _ _ (HWf.out.get HK3.out) Tryd.underlying28 rfl (by rw [List.size_toArray, bv_length, HXL.out]; kernel_rfl) ?_
        simp only [Act.put, List.setIfInBounds_toArray, List.set_cons_succ, List.set_cons_zero]
        repeat (first | (refine lf_skip (by go_big_quiet_skip; exact wpQuiet_nil trivial) (by kernel_rfl) ?_; simp only [Act.put, List.setIfInBounds_toArray, List.set_cons_succ, List.set_cons_zero]) | (refine lf_quiet rfl (by go_big_quiet_want; exact quiet_false (by assumption)) (by kernel_rfl) rfl ?_; intro Kx hKx; go_big_quiet_op; go_big_quiet_on))
        refine lf_eff rfl (by go_big_quiet_want; exact quiet_false (by assumption)) (by kernel_rfl) ?_
        intro wg hg Kx hKx
        have HBg := Lib.hid (show Below w.heap.size w wg from Aft.trans HBf.out hg)
        refine wp_append_rd (.const (.slice none 0 0)) (.tmp 37) 25 rfl wg.heap.size 5 (.int .u8 0) 1 Tryd.underlying25 info_byte rfl (.slice none 0 0) (.slice aoa (bv a).length capa) [] (bv a) rfl rfl (World.ownsRow_nil _ _ _ _) (HA.out.grow HBg.out) (bv_one _) (by have := HLa.out; simp [bv_length]; omega) (by have := HLa.out; simp [bv_length]; omega) (Nat.le_refl _) ?_
        intro v1 wh k1 k2
        rw [List.nil_append] at k1
        have hgh : Aft wg wh := (Below.refl _ _).grown k2 (Nat.le_refl _) (by simp [Value.ownBlock])
        apply hKx
        refine ⟨hgh, ?_⟩
        simp only [Act.put, List.setIfInBounds_toArray, List.set_cons_succ, List.set_cons_zero]
        have HK1 := Lib.hid k1
        have HFh := Lib.hid (Aft.trans hg hgh)
        have HFg := Lib.hid hg
        have HGH := Lib.hid hgh
        clear k1 k2 hg hgh hKx
        repeat (first | (refine lf_skip (by go_big_quiet_skip; exact wpQuiet_nil trivial) (by kernel_rfl) ?_; simp only [Act.put, List.setIfInBounds_toArray, List.set_cons_succ, List.set_cons_zero]) | (refine lf_quiet rfl (by go_big_quiet_want; exact quiet_false (by assumption)) (by kernel_rfl) rfl ?_; intro Kx hKx; go_big_quiet_op; go_big_quiet_on))
        refine lf_eff3 rfl (by go_big_quiet_want; exact quiet_false (by assumption)) (by kernel_rfl) ?_
        intro wi hi Kx hKx
        have HO1 := Lib.hid (ownsRow_below HK1.out (w' := wi) fun g hg => Below.block hi g (own_lt HK1.out hg).2)
        have HBi := Lib.hid (show Below w.heap.size w wi from Aft.trans HBf.out (Aft.trans HFh.out hi))
        have hsz : wg.heap.size ≤ wi.heap.size := by have := Below.size HGH.out; have := Below.size hi; omega
        refine wp_append_rd (.tmp 38) (.tmp 39) 25 rfl wg.heap.size 5 (.int .u8 0) 1 Tryd.underlying25 info_byte rfl v1 (.slice aob (bv b).length capb) (bv a) (bv b) rfl rfl HO1.out (HB.out.grow HBi.out) (bv_one _) (by have := HLa.out; have := HLb.out; simp [bv_length]; omega) (by have := HLa.out; have := HLb.out; simp [bv_length]; omega) hsz ?_
        intro v2 wj k1 k2
        have hij : Below wg.heap.size wi wj := (Below.refl wg.heap.size wi).grown k2 hsz (fun g hg => (own_lt HO1.out hg).1)
        have hgj : Aft wg wj := Below.trans (show Aft wg wi from Aft.trans HGH.out hi) hij
        have HFj := Lib.hid (show Aft wf wj from Aft.trans HFg.out hgj)
        have hab : Rd wj v2 (bv (a ++ b)) := by rw [bv_append]; exact Rd.of_own k1
        obtain ⟨av2, nab, cv2, rfl⟩ : ∃ ao n cap, v2 = .slice ao n cap := by obtain ⟨ao, cap, h⟩ := own_shape k1; exact ⟨ao, _, cap, h⟩
        apply hKx
        refine ⟨HFj.out, ?_⟩
        simp only [Act.put, List.setIfInBounds_toArray, List.set_cons_succ, List.set_cons_zero]
        have HAB := Lib.hid hab
        clear hij hgj k1 k2 hi hKx hsz hab
        refine lf_fresh (.cells #[.slice av2 nab cv2] 25) (fun g => .slice (some ⟨g, 0, none⟩) 1 1) rfl (by kernel_rfl) (fun w1 => by kernel_rfl) ?_
        intro wk gk hk1 hk2 hk3
        simp only [Act.put, List.setIfInBounds_toArray, List.set_cons_succ, List.set_cons_zero]
        have HK4 := Lib.hid hk3
        have HJk := Lib.hid hk1
        clear hk1 hk2 hk3
        refine lf_eff rfl (by go_big_quiet_want; exact quiet_false (by assumption)) (by kernel_rfl) ?_
        intro wl hl Kx hKx
        have HJl := Lib.hid (Aft.trans HJk.out hl)
        have HFl := Lib.hid (Aft.trans HFj.out HJl.out)
        have HBl := Lib.hid (show Below w.heap.size w wl from Aft.trans HBf.out HFl.out)
        have hm := mac_any (.slice aok (bv k).length capk) _ k [a ++ b] wl (TabK_fr HK.out (Fr.of_below (S := fun _ => False) HBl.out) (fun h => h)) (HR.out.grow HBl.out) (RdAll.blk (Aft.get hl HK4.out) (HAB.out.grow HJl.out)) (by have := HLk.out; omega) (by simp) (by have := HLa.out; have := HLb.out; simp; omega)
        rw [show ([a ++ b] : List (List (BitVec 8))).flatten = a ++ b by simp, HX.out] at hm
        have HM2 := Lib.hid hm
        clear hm hl
        go_wp2_with fail
        refine HM2.out.mono ?_
        rintro e wm ⟨rfl, hm⟩
        go_wp2_with fail
        refine ⟨hm, ?_⟩
        have HFm := Lib.hid (show Aft wf wm from Aft.trans HFl.out hm)
        clear hm
        refine lf_bin rfl (by kernel_rfl) .neq 28 28 (.tmp 35) (.tmp 42) rfl _ _ _ rfl rfl (run_neq_key X HXL.out) (guard_key _ _ _ _ _) ?_
        simp only [Act.put, List.setIfInBounds_toArray, List.set_cons_succ, List.set_cons_zero]
        refine lf_done ?_
        intro wn hn
        have HFn := Lib.hid (show Aft wf wn from Aft.trans HFm.out hn)
        have HBn := Lib.hid (show Below w.heap.size w wn from Aft.trans HBf.out HFn.out)
        have HKn := Lib.hid (Aft.get (Aft.trans HWf.out HFn.out) HK3.out)
        clear hn
        by_cases h4 : (bv k).length > 64
        · have h4' : (64 : Int) < ((bv k).length : Nat) := by omega
          go_wp2_with fail
          have hal : Aft wn (wn.alloc (.cells #[.slice aok (bv k).length capk] 25)) := Aft.alloc _ _
          have hs := sum_any K0 _ [k] _ (TabK_fr HK.out (Fr.of_below (S := fun _ => False) (show Below w.heap.size w _ from Aft.trans HBn.out hal)) (fun h => h)) (RdAll.one wn _ k _ (HR.out.grow HBn.out)) (by have := HLk.out; simp; omega)
          rw [show ([k] : List (List (BitVec 8))).flatten = k by simp] at hs
          have hsl := digest_length K0 k
          have hms := macOf_sum k (a ++ b) (by rw [bv_length] at h4; exact h4)
          rw [HX.out] at hms
          generalize digest K0 k = S at hs hsl hms
          have HSL := Lib.hid hsl
          have HMS := Lib.hid hms
          have HSum := Lib.hid hs
          have HAl2 := Lib.hid hal
          clear hs hsl hms hal
          refine HSum.out.mono ?_
          rintro e wo ⟨rfl, ho⟩
          have HBo := Lib.hid (show Below w.heap.size w wo from Aft.trans HBn.out (Aft.trans HAl2.out ho))
          have HKo := Lib.hid (Aft.get (Aft.trans HAl2.out ho) HKn.out)
          have HSo := Lib.hid (heap_alloc_new wo (.cells key0 28))
          clear ho
          have hal := fun wx : World => run_sliceAt_key wx wo.heap.size
          go_wp2_with ((refine wpList_store_keyX rfl (.tmp 11) (.tmp 49) rfl wo.heap.size S HSL.out rfl rfl HSo.out ?_; intro wp q2 q3; have HKp := Lib.hid q2.out; have HBp := Lib.hid (q3 w.heap.size w HBo.out.size (HBo.out.alloc HBo.out.size _)); have HK2p := Lib.hid ((Below.block (show Aft wo wp from q3 wo.heap.size wo (Nat.le_refl _) (Below.alloc (Below.refl _ _) (Nat.le_refl _) _)) w2.heap.size (heap_lt HKo.out)).trans HKo.out); clear q2 q3))
          simp only [Act.put]
          refine wp_region_lexF (fun i => ([0, 0, 0, 0, 0, 0, 1, 2, 0, 0, 0] : List Nat).getD i 0) 11 (by kernel_rfl) (by kernel_rfl) ?_; intro wq hwq
          have HWq := Lib.hid (show Aft wp wq by rw [hwq]; exact (Below.refl _ _).drew)
          have HBq := Lib.hid (show Below w.heap.size w wq by rw [hwq]; exact HBp.out.drew)
          clear hwq
          iterate 2 (refine lf_quiet rfl (by go_big_quiet_want; exact quiet_false (by assumption)) (by kernel_rfl) rfl ?_; intro Kx hKx; go_big_quiet_op; go_big_quiet_on)
          refine lf_load_row rfl (by kernel_rfl) 28 (.tmp 10) rfl w2.heap.size rfl _ (bv X).toArray _ _ (HWq.out.get HK2p.out) Tryd.underlying28 rfl (by rw [List.size_toArray, bv_length, HXL.out]; kernel_rfl) ?_
          simp only [Act.put, List.setIfInBounds_toArray, List.set_cons_succ, List.set_cons_zero]
          repeat (first | (refine lf_skip (by go_big_quiet_skip; exact wpQuiet_nil trivial) (by kernel_rfl) ?_; simp only [Act.put, List.setIfInBounds_toArray, List.set_cons_succ, List.set_cons_zero]) | (refine lf_quiet rfl (by go_big_quiet_want; exact quiet_false (by assumption)) (by kernel_rfl) rfl ?_; intro Kx hKx; go_big_quiet_op; go_big_quiet_on))
          refine lf_fresh (.cells #[.slice aoa (bv a).length capa, .slice aob (bv b).length capb] 25) (fun g => .slice (some ⟨g, 0, none⟩) 2 2) rfl (by kernel_rfl) (fun w1 => by kernel_rfl) ?_
          intro wr gr hr1 hr2 hr3
          simp only [Act.put, List.setIfInBounds_toArray, List.set_cons_succ, List.set_cons_zero]
          have HR3 := Lib.hid hr3
          have HQr := Lib.hid hr1
          clear hr1 hr2 hr3
          refine lf_eff rfl (by go_big_quiet_want; exact quiet_false (by assumption)) (by kernel_rfl) ?_
          intro ws hs Kx hKx
          have HQs := Lib.hid (Aft.trans HQr.out hs)
          have HBs := Lib.hid (show Below w.heap.size w ws from Aft.trans HBq.out HQs.out)
          have hm := mac_any (.slice (some ⟨wo.heap.size, 0, none⟩) 32 32) _ S [a, b] ws (TabK_fr HK.out (Fr.of_below (S := fun _ => False) HBs.out) (fun h => h)) (Rd.of_key (Aft.get (Aft.trans HWq.out HQs.out) HKp.out) HSL.out) (RdAll.two (Aft.get hs HR3.out) (HA.out.grow HBs.out) (HB.out.grow HBs.out)) (by have := HSL.out; omega) (by simp) (by have := HLa.out; have := HLb.out; simp; omega)
          rw [show ([a, b] : List (List (BitVec 8))).flatten = a ++ b by simp, HMS.out] at hm
          have HM3 := Lib.hid hm
          clear hm hs
          go_wp2_with fail
          refine HM3.out.mono ?_
          rintro e wt ⟨rfl, ht⟩
          go_wp2_with fail
          refine ⟨ht, ?_⟩
          have HBt := Lib.hid (show Below w.heap.size w wt from Aft.trans HBs.out ht)
          clear ht
          refine lf_bin rfl (by kernel_rfl) .eql 28 28 (.tmp 52) (.tmp 57) rfl _ _ _ rfl rfl (run_eql_key X HXL.out) (guard_key _ _ _ _ _) ?_
          simp only [Act.put, List.setIfInBounds_toArray, List.set_cons_succ, List.set_cons_zero]
          repeat (first | (refine lf_skip (by go_big_quiet_skip; exact wpQuiet_nil trivial) (by kernel_rfl) ?_; simp only [Act.put, List.setIfInBounds_toArray, List.set_cons_succ, List.set_cons_zero]) | (refine lf_quiet rfl (by go_big_quiet_want; exact quiet_false (by assumption)) (by kernel_rfl) rfl ?_; intro Kx hKx; go_big_quiet_op; go_big_quiet_on))
          refine lf_done ?_
          intro wu hu
          have HBu := Lib.hid (show Below w.heap.size w wu from Aft.trans HBt.out hu)
          clear hu
          go_wp2_with fail
          go_ret
          exact ⟨rfl, HBu.out⟩
        · have h4' : ¬ (64 : Int) < ((bv k).length : Nat) := by omega
          have HLk2 := Lib.hid (show k.length ≤ 64 by rw [bv_length] at h4; omega)
          obtain ⟨n, hn, hif⟩ : ∃ n : Nat, k.length + n ≤ 64 ∧ (if 64 - ((bv k).length : Int) < wrap64 (bn z) then 64 - ((bv k).length : Int) else wrap64 (bn z)) = (n : Int) := by
            have hz := z.isLt
            have hkl := HLk2.out
            have hwz : wrap64 (bn z) = (z.toNat : Int) := wrap64_mid (bn_nonneg z) (by have := bn_lt z; omega)
            rw [hwz, bv_length]
            refine ⟨min z.toNat (64 - k.length), by omega, ?_⟩
            split <;> omega
          have HNn := Lib.hid hn
          have HIF := Lib.hid hif
          have hif2 := hif
          have hmz := macOf_zeros k (a ++ b) n hn
          rw [HX.out] at hmz
          have HMZ := Lib.hid hmz
          clear hif hmz hn
          have HOn := Lib.hid (World.ownsRow_nil wn wn.heap.size 5 1)
          have HRn := Lib.hid (HR.out.grow HBn.out)
          go_wp2_with (first
            | (at_builtin; refine wpList_append_rd rfl _ _ 25 rfl wn.heap.size 5 (.int .u8 0) 1 Tryd.underlying25 info_byte rfl (.slice none 0 0) (.slice aok (bv k).length capk) [] (bv k) rfl rfl HOn.out HRn.out (bv_one _) (by have := HLk.out; simp [bv_length]; omega) (by have := HLk.out; simp [bv_length]; omega) (Nat.le_refl _) ?_; intro v7 w7 k1 k2 k3; have HN7 := Lib.hid (show Aft wn w7 from (Below.refl _ _).grown k2 (Nat.le_refl _) (by simp [Value.ownBlock])); have HO7 := Lib.hid (show w7.ownsRow wn.heap.size 5 1 v7 (bv k).length (bv k) from k1); clear k1 k2 k3)
            | (at_builtin; refine wpList_append_zeros rfl (.tmp 61) (.tmp 67) 25 3 rfl wn.heap.size 5 .i64 Tryd.underlying25 Tryd.underlying3 info_byte v7 (bv k) n rfl (by first | rfl | exact congrArg (Value.int .i64) HIF.out) HO7.out (by have := HNn.out; rw [bv_length]; omega) (Below.size HN7.out) ?_; intro v8 w8 k1 k2; have HN8 := Lib.hid (show Aft wn w8 from Below.trans (show Below wn.heap.size wn w7 from HN7.out) ((Below.refl wn.heap.size w7).grown k2 (Below.size HN7.out) (fun g hg => (own_lt HO7.out hg).1))); have HR8 := Lib.hid (show Rd w8 v8 (bv (k ++ List.replicate n 0)) by rw [bv_append, ← bv_zeros]; exact Rd.of_own k1); clear k1 k2))
          refine wp_region_lexF (fun i => ([0, 0, 0, 0, 0, 0, 1, 2, 0, 0, 0] : List Nat).getD i 0) 11 (by kernel_rfl) (by kernel_rfl) ?_; intro wq hwq
          have HWq := Lib.hid (show Aft w8 wq by rw [hwq]; exact (Below.refl _ _).drew)
          have HNq := Lib.hid (Aft.trans HN8.out HWq.out)
          have HBq := Lib.hid (show Below w.heap.size w wq from Aft.trans HBn.out HNq.out)
          clear hwq
          iterate 2 (refine lf_quiet rfl (by go_big_quiet_want; exact quiet_false (by assumption)) (by kernel_rfl) rfl ?_; intro Kx hKx; go_big_quiet_op; go_big_quiet_on)
          refine lf_load_row rfl (by kernel_rfl) 28 (.tmp 10) rfl w2.heap.size rfl _ (bv X).toArray _ _ (HNq.out.get HKn.out) Tryd.underlying28 rfl (by rw [List.size_toArray, bv_length, HXL.out]; kernel_rfl) ?_
          simp only [Act.put, List.setIfInBounds_toArray, List.set_cons_succ, List.set_cons_zero]
          repeat (first | (refine lf_skip (by go_big_quiet_skip; exact wpQuiet_nil trivial) (by kernel_rfl) ?_; simp only [Act.put, List.setIfInBounds_toArray, List.set_cons_succ, List.set_cons_zero]) | (refine lf_quiet rfl (by go_big_quiet_want; exact quiet_false (by assumption)) (by kernel_rfl) rfl ?_; intro Kx hKx; go_big_quiet_op; go_big_quiet_on))
          refine lf_fresh (.cells #[.slice aoa (bv a).length capa, .slice aob (bv b).length capb] 25) (fun g => .slice (some ⟨g, 0, none⟩) 2 2) rfl (by kernel_rfl) (fun w1 => by kernel_rfl) ?_
          intro wr gr hr1 hr2 hr3
          simp only [Act.put, List.setIfInBounds_toArray, List.set_cons_succ, List.set_cons_zero]
          have HR3 := Lib.hid hr3
          have HQr := Lib.hid hr1
          clear hr1 hr2 hr3
          refine lf_eff rfl (by go_big_quiet_want; exact quiet_false (by assumption)) (by kernel_rfl) ?_
          intro ws hs Kx hKx
          have HQs := Lib.hid (Aft.trans HQr.out hs)
          have HBs := Lib.hid (show Below w.heap.size w ws from Aft.trans HBq.out HQs.out)
          have hm := mac_any v8 _ (k ++ List.replicate n 0) [a, b] ws (TabK_fr HK.out (Fr.of_below (S := fun _ => False) HBs.out) (fun h => h)) (HR8.out.grow (Aft.trans HWq.out HQs.out)) (RdAll.two (Aft.get hs HR3.out) (HA.out.grow HBs.out) (HB.out.grow HBs.out)) (by have := HNn.out; simp; omega) (by simp) (by have := HLa.out; have := HLb.out; simp; omega)
          rw [show ([a, b] : List (List (BitVec 8))).flatten = a ++ b by simp, HMZ.out] at hm
          have HM3 := Lib.hid hm
          clear hm hs
          go_wp2_with fail
          refine HM3.out.mono ?_
          rintro e wt ⟨rfl, ht⟩
          go_wp2_with fail
          refine ⟨ht, ?_⟩
          have HBt := Lib.hid (show Below w.heap.size w wt from Aft.trans HBs.out ht)
          clear ht
          refine lf_bin rfl (by kernel_rfl) .eql 28 28 (.tmp 71) (.tmp 76) rfl _ _ _ rfl rfl (run_eql_key X HXL.out) (guard_key _ _ _ _ _) ?_
          simp only [Act.put, List.setIfInBounds_toArray, List.set_cons_succ, List.set_cons_zero]
          repeat (first | (refine lf_skip (by go_big_quiet_skip; exact wpQuiet_nil trivial) (by kernel_rfl) ?_; simp only [Act.put, List.setIfInBounds_toArray, List.set_cons_succ, List.set_cons_zero]) | (refine lf_quiet rfl (by go_big_quiet_want; exact quiet_false (by assumption)) (by kernel_rfl) rfl ?_; intro Kx hKx; go_big_quiet_op; go_big_quiet_on))
          refine lf_done ?_
          intro wu hu
          have HBu := Lib.hid (show Below w.heap.size w wu from Aft.trans HBt.out hu)
          clear hu
          go_wp2_with fail
          go_ret
          exact ⟨rfl, HBu.out⟩
end Go.Proofs.YtifehfcgmodmaaaDoor
