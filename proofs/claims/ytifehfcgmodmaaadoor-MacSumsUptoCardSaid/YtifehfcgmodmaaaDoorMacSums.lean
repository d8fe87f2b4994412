/- coterielaw03.MacSums: it answers true. -/
import Derived.Test.YtifehfcgmodmaaaDoorRefMac
import Derived.Test.YtifehfcgmodmaaaDoorMacKeys
import Derived.Test.YtifehfcgmodmaaaDoorMacEqual
namespace Go.Proofs.YtifehfcgmodmaaaDoor
open Go Go.RowKit
theorem wp_bin {P : Program} {o : Oper} {a : Act} {w : World} {K : Act → World → Prop} {Q : Exit → Act → World → Prop} (op : BinOp) (t t2 : TypeId) (x y : Operand) (ho : o.op = .binOp op t x y t2) (vx vy v : Value) (hx : a.eval x = vx) (hy : a.eval y = vy)
    (hr : ∀ w1, (Go.binOp op t vx vy).run P w1 = .ok v w1) (hg : ∀ w1, (eqGuard op t x y vx vy).run P w1 = .ok () w1) (h : K (a.put o.dst v) w) : o.wp P a w K Q := by
  unfold Oper.wp execOp
  simp only [ho, hx, hy, Sem.run_bind, hg, hr, Result.andThen_ok, Sem.run_pure]
  exact h
theorem wpList_binG {P : Program} {w : World} {ops : Array Oper} {rest : List Oper} {o : Oper} {a : Act} {Q : Exit → Act → World → Prop} (hw : Region.wanted o (yielded ops a.tmps) = true) (op : BinOp) (t t2 : TypeId) (x y : Operand) (ho : o.op = .binOp op t x y t2) (vx vy v : Value) (hx : a.eval x = vx) (hy : a.eval y = vy)
    (hr : ∀ w1, (Go.binOp op t vx vy).run P w1 = .ok v w1) (hg : ∀ w1, (eqGuard op t x y vx vy).run P w1 = .ok () w1) (h : wpList P ops Q rest (a.put o.dst v) w) : wpList P ops Q (o :: rest) a w := by
  unfold wpList
  rw [if_pos hw]
  exact .inl (wp_noOut (wp_bin op t t2 x y ho vx vy v hx hy hr hg h))
set_option maxRecDepth 100000 in
set_option maxHeartbeats 1000000 in
theorem refExtract_any (vs vx : Value) (s x : List (BitVec 8)) (w : World) (hK : TabK K0 0 w) (hrs : Rd w vs (bv s)) (hrx : Rd w vx (bv x)) (hs : s.length ≤ 1099511627776) (hx : x.length ≤ 1000000000000) :
    Calls Tryd.prog 33 #[vs, vx] w fun e w' => e = .returned (.agg (bv (macOf K0 s x)).toArray) ∧ Below w.heap.size w w' := by
  have HK := Lib.hid hK
  have HR := Lib.hid hrs
  have HX := Lib.hid hrx
  obtain ⟨aos, caps, rfl, -, -, -, -⟩ := hrs
  obtain ⟨aox, capx, rfl, -, -, -, -⟩ := hrx
  clear hK
  go_enter Tryd.func33, Tryd.ntmps33
  have hb0 : Aft w (w.alloc (.cells key0 28)) := Aft.alloc _ _
  have hal : Aft w ((w.alloc (.cells key0 28)).alloc (.cells #[.slice aox (bv x).length capx] 25)) := Aft.trans hb0 (Aft.alloc _ _)
  have hone := RdAll.one (w.alloc (.cells key0 28)) (.slice aox (bv x).length capx) x 25 (HX.out.grow hb0)
  rw [World.size_alloc] at hone
  have hm := refMac_any (.slice aos (bv s).length caps) (.slice (some ⟨w.heap.size + 1, 0, none⟩) 1 1) s [x] _ (TabK_fr HK.out (Fr.of_below (S := fun _ => False) hal) (fun h => h)) (HR.out.grow hal) hone hs (by simp; omega)
  rw [show ([x] : List (List (BitVec 8))).flatten = x by simp] at hm
  have hxl := macOf_length K0 s x
  generalize macOf K0 s x = X at hm hxl ⊢
  have HXL := Lib.hid hxl
  have HM := Lib.hid hm
  have HAl := Lib.hid hal
  have HZ := Lib.hid (heap_alloc_new w (.cells key0 28))
  clear hm hxl hal hb0 hone
  go_wp2_with fail
  refine HM.out.mono ?_
  rintro e w2 ⟨rfl, hb2⟩
  have hA2 : Aft ((w.alloc (.cells key0 28)).alloc (.cells #[.slice aox (bv x).length capx] 25)) w2 := hb2
  have HB2 := Lib.hid (show Below w.heap.size w w2 from Aft.trans HAl.out hA2)
  have HS2 := Lib.hid (Aft.get hA2 (Aft.get (Aft.alloc (w.alloc (.cells key0 28)) (.cells #[.slice aox (bv x).length capx] 25)) HZ.out))
  clear hb2 hA2
  go_wp2_with ((refine wpList_store_keyX rfl (.tmp 4) (.tmp 8) rfl w.heap.size X HXL.out rfl rfl HS2.out ?_; intro w3 q2 q3; have HK3 := Lib.hid q2.out; have HB3 := Lib.hid (q3 w.heap.size w (Nat.le_refl _) HB2.out); clear q2 q3))
  have hsz8 : (Tryd.prog.info? 28).map (·.size) = some (bv X).toArray.size := by rw [List.size_toArray, bv_length, HXL.out]; kernel_rfl
  refine bodyPost_ret (results_cell_row rfl _ _ w.heap.size 28 (bv X).toArray (0, 0) _ rfl HK3.out Tryd.underlying28 rfl hsz8) rfl ?_
  exact ⟨rfl, HB3.out⟩
set_option maxRecDepth 100000 in
set_option maxHeartbeats 1000000 in
theorem macExtract_any (vs vx : Value) (s x : List (BitVec 8)) (w : World) (hK : TabK K0 1 w) (hrs : Rd w vs (bv s)) (hrx : Rd w vx (bv x)) (hs : s.length ≤ 1099511627776) (hx : x.length ≤ 1000000000000) :
    Calls Tryd.prog 32 #[vs, vx] w fun e w' => e = .returned (.agg (bv (macOf K0 s x)).toArray) ∧ Below w.heap.size w w' := by
  have HK := Lib.hid hK
  have HR := Lib.hid hrs
  have HX := Lib.hid hrx
  obtain ⟨aos, caps, rfl, -, -, -, -⟩ := hrs
  obtain ⟨aox, capx, rfl, -, -, -, -⟩ := hrx
  clear hK
  go_enter Tryd.func32, Tryd.ntmps32
  have hb0 : Aft w (w.alloc (.cells key0 28)) := Aft.alloc _ _
  have hal : Aft w ((w.alloc (.cells key0 28)).alloc (.cells #[.slice aox (bv x).length capx] 25)) := Aft.trans hb0 (Aft.alloc _ _)
  have hone := RdAll.one (w.alloc (.cells key0 28)) (.slice aox (bv x).length capx) x 25 (HX.out.grow hb0)
  rw [World.size_alloc] at hone
  have hm := mac_any (.slice aos (bv s).length caps) (.slice (some ⟨w.heap.size + 1, 0, none⟩) 1 1) s [x] _ (TabK_fr HK.out (Fr.of_below (S := fun _ => False) hal) (fun h => h)) (HR.out.grow hal) hone hs (by simp) (by simp; omega)
  rw [show ([x] : List (List (BitVec 8))).flatten = x by simp] at hm
  have hxl := macOf_length K0 s x
  generalize macOf K0 s x = X at hm hxl ⊢
  have HXL := Lib.hid hxl
  have HM := Lib.hid hm
  have HAl := Lib.hid hal
  have HZ := Lib.hid (heap_alloc_new w (.cells key0 28))
  clear hm hxl hal hb0 hone
  go_wp2_with fail
  refine HM.out.mono ?_
  rintro e w2 ⟨rfl, hb2⟩
  have hA2 : Aft ((w.alloc (.cells key0 28)).alloc (.cells #[.slice aox (bv x).length capx] 25)) w2 := hb2
  have HB2 := Lib.hid (show Below w.heap.size w w2 from Aft.trans HAl.out hA2)
  have HS2 := Lib.hid (Aft.get hA2 (Aft.get (Aft.alloc (w.alloc (.cells key0 28)) (.cells #[.slice aox (bv x).length capx] 25)) HZ.out))
  clear hb2 hA2
  go_wp2_with ((refine wpList_store_keyX rfl (.tmp 4) (.tmp 8) rfl w.heap.size X HXL.out rfl rfl HS2.out ?_; intro w3 q2 q3; have HK3 := Lib.hid q2.out; have HB3 := Lib.hid (q3 w.heap.size w (Nat.le_refl _) HB2.out); clear q2 q3))
  have hsz8 : (Tryd.prog.info? 28).map (·.size) = some (bv X).toArray.size := by rw [List.size_toArray, bv_length, HXL.out]; kernel_rfl
  refine bodyPost_ret (results_cell_row rfl _ _ w.heap.size 28 (bv X).toArray (0, 0) _ rfl HK3.out Tryd.underlying28 rfl hsz8) rfl ?_
  exact ⟨rfl, HB3.out⟩
set_option maxRecDepth 100000 in
set_option maxHeartbeats 2000000 in
theorem macSums_any (vk vp vx : Value) (k : List (BitVec 8)) (ps : List (List (BitVec 8))) (x : List (BitVec 8)) (w : World) (hK : TabK K0 1 w) (hK2 : TabK K0 0 w)
    (hrk : Rd w vk (bv k)) (hrp : RdAll w vp ps) (hrx : Rd w vx (bv x)) (h1 : ps.length ≤ 1048576) (h3 : ps.flatten.length ≤ 1048576) :
    Calls Tryd.prog 7 #[vk, vp, vx] w fun e w' => e = .returned (.bool true) ∧ Below w.heap.size w w' := by
  have HK := Lib.hid hK
  have HK2 := Lib.hid hK2
  have HR := Lib.hid hrk
  have HP := Lib.hid hrp
  have HX := Lib.hid hrx
  have HL3 := Lib.hid h3
  have HL1 := Lib.hid h1
  obtain ⟨aok, capk, rfl, -, -, -, -⟩ := hrk
  obtain ⟨aop, capp, rfl, -⟩ := hrp.shape
  obtain ⟨aox, capx, rfl, -, -, -, -⟩ := hrx
  clear hK hK2 hrp h1 h3
  have HL := Lib.hid (live3_any w HK.out)
  go_enter Tryd.func7, Tryd.ntmps7
  go_wp2_with fail
  refine HL.out.mono ?_
  rintro e w1 ⟨rfl, hb1⟩
  have HB1 := Lib.hid (show Aft w w1 from hb1)
  clear hb1
  by_cases h1 : (bv k).length > 2000
  · have h1' : (2000 : Int) < ((bv k).length : Nat) := by omega
    go_wp2_with fail
    go_ret
    exact ⟨rfl, HB1.out⟩
  · have h1' : ¬ (2000 : Int) < ((bv k).length : Nat) := by omega
    go_wp2_with fail
    refine (few_any _ ps w1 (HP.out.below HB1.out) (by have := HL1.out; omega)).mono ?_
    rintro e w1' ⟨rfl, rfl⟩
    by_cases hf : few ps
    · rw [decide_eq_true hf]
      by_cases h2 : (bv x).length > 2000
      · have h2' : (2000 : Int) < ((bv x).length : Nat) := by omega
        go_wp2_with fail
        go_ret
        exact ⟨rfl, HB1.out⟩
      · have h2' : ¬ (2000 : Int) < ((bv x).length : Nat) := by omega
        have HLk := Lib.hid (show k.length ≤ 2000 by rw [bv_length] at h1; omega)
        have HLx := Lib.hid (show x.length ≤ 2000 by rw [bv_length] at h2; omega)
        clear h1 h2
        have HXL := Lib.hid (macOf_length K0 k ps.flatten)
        have HYL := Lib.hid (macOf_length K0 k x)
        have HM1 := Lib.hid (fun (wx : World) (h : Aft w wx) => mac_any _ _ k ps wx (TabK_fr HK.out (Fr.of_below (S := fun _ => False) h) (fun h => h)) (HR.out.grow h) (HP.out.below h) (by have := HLk.out; omega) (by have := HL1.out; omega) (by have := HL3.out; omega))
        have HM2 := Lib.hid (fun (wx : World) (h : Aft w wx) => refMac_any _ _ k ps wx (TabK_fr HK2.out (Fr.of_below (S := fun _ => False) h) (fun h => h)) (HR.out.grow h) (HP.out.below h) (by have := HLk.out; omega) (by have := HL3.out; omega))
        have HE1 := Lib.hid (fun (wx : World) (h : Aft w wx) => macExtract_any _ _ k x wx (TabK_fr HK.out (Fr.of_below (S := fun _ => False) h) (fun h => h)) (HR.out.grow h) (HX.out.grow h) (by have := HLk.out; omega) (by have := HLx.out; omega))
        have HE2 := Lib.hid (fun (wx : World) (h : Aft w wx) => refExtract_any _ _ k x wx (TabK_fr HK2.out (Fr.of_below (S := fun _ => False) h) (fun h => h)) (HR.out.grow h) (HX.out.grow h) (by have := HLk.out; omega) (by have := HLx.out; omega))
        generalize macOf K0 k ps.flatten = X at *
        generalize macOf K0 k x = Y at *
        go_wp2_with fail
        refine (HM1.out _ HB1.out).mono ?_
        rintro e w2 ⟨rfl, hb2⟩
        have HB2 := Lib.hid (Aft.trans HB1.out hb2)
        clear hb2
        go_wp2_with fail
        refine (HM2.out _ HB2.out).mono ?_
        rintro e w3 ⟨rfl, hb3⟩
        have HB3 := Lib.hid (Aft.trans HB2.out hb3)
        clear hb3
        go_wp2_with ((refine wpList_binG (by kernel_rfl) .eql 28 28 (.tmp 29) (.tmp 32) rfl _ _ _ rfl rfl (run_eql_key X HXL.out) (guard_key _ _ _ _ _) ?_))
        refine (HE1.out _ HB3.out).mono ?_
        rintro e w4 ⟨rfl, hb4⟩
        have HB4 := Lib.hid (Aft.trans HB3.out hb4)
        clear hb4
        go_wp2_with fail
        refine (HE2.out _ HB4.out).mono ?_
        rintro e w5 ⟨rfl, hb5⟩
        have HB5 := Lib.hid (Aft.trans HB4.out hb5)
        clear hb5
        go_wp2_with ((refine wpList_binG (by kernel_rfl) .eql 28 28 (.tmp 38) (.tmp 41) rfl _ _ _ rfl rfl (run_eql_key Y HYL.out) (guard_key _ _ _ _ _) ?_))
        refine (macEq_any _ _ k x _ (HR.out.grow HB5.out) (HX.out.grow HB5.out)).mono ?_
        rintro e w6 ⟨rfl, hb6⟩
        have HB6 := Lib.hid (Aft.trans HB5.out hb6)
        clear hb6
        go_wp2_with fail
        refine (same_any _ _ k x _ (HR.out.grow HB6.out) (HX.out.grow HB6.out)).mono ?_
        rintro e w7 ⟨rfl, rfl⟩
        go_wp2_with fail
        go_ret
        exact ⟨by simp, HB6.out⟩
    · rw [decide_eq_false hf]
      go_wp2_with fail
      go_ret
      exact ⟨rfl, HB1.out⟩
end Go.Proofs.YtifehfcgmodmaaaDoor
