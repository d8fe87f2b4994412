/- mac.Mac: a sum with a key. -/
import Derived.Test.YtifehfcgmodmaaaDoorHeld
namespace Go.Proofs.YtifehfcgmodmaaaDoor
open Go Go.RowKit
/-- A sum with a key. -/
def macOf (K : Nat → BitVec 32) (k d : List (BitVec 8)) : List (BitVec 8) := digest K (heldB (key64 K k) 92 ++ digest K (heldB (key64 K k) 54 ++ d))
theorem macOf_length (K : Nat → BitVec 32) (k d : List (BitVec 8)) : (macOf K k d).length = 32 := digest_length K _
theorem RdAll.two {w : World} {v1 v2 : Value} {g : Nat} {t : TypeId} {fr : Nat × Nat} {l1 l2 : List (BitVec 8)} (hg : w.heap[g]? = some (.cells #[v1, v2] t fr)) (h1 : Rd w v1 (bv l1)) (h2 : Rd w v2 (bv l2)) : RdAll w (.slice (some ⟨g, 0, none⟩) 2 2) [l1, l2] := by
  refine ⟨[v1, v2], ⟨some ⟨g, 0, none⟩, 2, rfl, Nat.le_refl _, by omega, (fun h => by cases h), fun ad ha j u hu => ?_⟩, rfl, fun i u hu => ?_⟩
  · cases ha
    match j with
    | 0 => cases hu; simp [World.cell?, hg, Addr.add]
    | 1 => cases hu; simp [World.cell?, hg, Addr.add]
    | j + 2 => simp at hu
  · match i with
    | 0 => cases hu; exact h1
    | 1 => cases hu; exact h2
    | i + 2 => simp at hu
theorem run_sliceAt_key (w : World) (b : Nat) : (Instr.sliceAt 28 (.pointer (some ⟨b, 0, none⟩)) none none none).run Tryd.prog w = .ok (.slice (some ⟨b, 0, none⟩) 32 32) w := by kernel_rfl
theorem b54 : (54 : Int) = bn 54 := by decide
theorem b92 : (92 : Int) = bn 92 := by decide
set_option maxRecDepth 100000 in
set_option maxHeartbeats 2000000 in
theorem mac_any (vk vp : Value) (k : List (BitVec 8)) (ps : List (List (BitVec 8))) (w : World) (hK : TabK K0 1 w) (hrk : Rd w vk (bv k)) (hrp : RdAll w vp ps)
    (hk : k.length ≤ 1099511627776) (hp : ps.length ≤ 1099511627776) (hd : ps.flatten.length ≤ 1000000000000) :
    Calls Tryd.prog 26 #[vk, vp] w fun e w' => e = .returned (.agg (bv (macOf K0 k ps.flatten)).toArray) ∧ Below w.heap.size w w' := by
  have HK := Lib.hid hK
  have HR := Lib.hid hrk
  have HP := Lib.hid hrp
  have HD := Lib.hid hd
  obtain ⟨aok, capk, rfl, -, -, -, -⟩ := hrk
  obtain ⟨aop, capp, rfl, -⟩ := hrp.shape
  clear hK hrp hd
  go_enter Tryd.func26, Tryd.ntmps26
  have hba : Aft w (w.alloc (.cells key0 28)) := Aft.alloc _ _
  have hh := held_any (.slice aok (bv k).length capk) k 54 (w.alloc (.cells key0 28)) (TabK_fr HK.out (Fr.of_below (S := fun _ => False) hba) (fun h => h)) (HR.out.grow hba) hk
  rw [← b54] at hh
  have HH := Lib.hid hh
  clear hh hba
  go_wp2_with fail
  refine HH.out.mono ?_
  rintro e w2 ⟨a2, c2, rfl, ho2, hb2⟩
  have HR4 := Lib.hid ((Below.block hb2 w.heap.size (by rw [World.size_alloc]; omega)).trans (heap_alloc_new w (.cells key0 28)))
  have HB2 := Lib.hid (show Aft w w2 from Aft.trans (Aft.alloc w _) hb2)
  have hRd2 := Rd.of_own ho2
  have hl2 := heldB_length (key64 K0 k) 54
  generalize hI : heldB (key64 K0 k) 54 = I at ho2 hRd2 hl2
  have HI := Lib.hid hI
  have HRd2 := Lib.hid (show Rd w2 (.slice a2 64 c2) (bv I) from hRd2)
  have HL2 := Lib.hid hl2
  have HOwn := Lib.hid (World.ownsRow_lit (base := w2.heap.size) (e := 25) (size := 1) w2 #[.slice a2 64 c2] 1 (Nat.le_refl _) (by decide) rfl)
  obtain ⟨vs, hv1, hv2, hv3⟩ := HP.out
  have HV1 := Lib.hid (hv1.grow (Aft.trans HB2.out (Aft.alloc w2 (.cells #[.slice a2 64 c2] 25))))
  have HV2 := Lib.hid hv2
  have HV3 := Lib.hid hv3
  have HPl := Lib.hid hp
  clear hI hRd2 hl2 ho2 hb2 hv1 hv2 hv3 hp
  go_wp2_with ((at_builtin; refine wpList_append_rd rfl _ _ 22 rfl w2.heap.size 25 (.slice none 0 0) 24 Tryd.underlying22 info_slice rfl (.slice (some ⟨w2.heap.size, 0, none⟩) 1 1) (.slice aop ps.length capp) [.slice a2 64 c2] vs rfl rfl HOwn.out HV1.out (RdAll.one_cell HV3.out) (by have := HPl.out; have := HV2.out; simp; omega) (by have := HPl.out; have := HV2.out; simp; omega) (by rw [World.size_alloc]; omega) ?_; intro v3 w3 k1 k2 k3; have hb3 := (show Below w2.heap.size w2 (w2.alloc (.cells #[.slice a2 64 c2] 25)) from Aft.alloc _ _).grown k2 (by rw [World.size_alloc]; omega) (fun g hg => by simp [Value.ownBlock] at hg; omega); have HB3 := Lib.hid (show Aft w2 w3 from hb3); have HW3 := Lib.hid (Aft.trans HB2.out hb3); have HALL := Lib.hid (RdAll.join (ps := [I]) (qs := ps) (Rd.of_own k1) rfl HV2.out (fun i v hv => (by cases i with | zero => cases hv; exact HRd2.out.grow hb3 | succ i => simp at hv)) (fun i v hv => (HV3.out i v hv).grow (Aft.trans HB2.out hb3))); clear k1 k2 k3 hb3))
  refine (sum_any K0 _ ([I] ++ ps) w3 (TabK_fr HK.out (Fr.of_below (S := fun _ => False) HW3.out) (fun h => h)) HALL.out (by have := HD.out; have := HL2.out; rw [show ([I] ++ ps).flatten = I ++ ps.flatten by simp, List.length_append]; omega)).mono ?_
  rintro e w4 ⟨rfl, hb4⟩
  rw [show ([I] ++ ps).flatten = I ++ ps.flatten by simp]
  generalize hJ : digest K0 (I ++ ps.flatten) = J
  have HJ := Lib.hid hJ
  have HJL := Lib.hid (show J.length = 32 by rw [← hJ]; exact digest_length K0 _)
  have HW4 := Lib.hid (show Below w.heap.size w w4 from Aft.trans HW3.out hb4)
  have HB4 := Lib.hid (Aft.trans HB3.out hb4)
  have HS4 := Lib.hid (heap_alloc_new w4 (.cells key0 28))
  clear hJ hb4
  go_wp2_with ((refine wpList_store_keyX rfl (.tmp 5) (.tmp 11) rfl w4.heap.size J HJL.out rfl rfl HS4.out ?_; intro w5 q2 q3; have HK5 := Lib.hid q2.out; have HW5 := Lib.hid (show Below w.heap.size w w5 from q3 w.heap.size w HW4.out.size (HW4.out.alloc HW4.out.size _)); have hs4 := Below.size HB4.out; have HB5 := Lib.hid (show Aft w2 w5 from q3 w2.heap.size w2 hs4 (Below.alloc HB4.out hs4 _)); clear q2 q3 hs4))
  have HR5 := Lib.hid ((Below.block HB5.out w.heap.size (heap_lt HR4.out)).trans HR4.out)
  have HKlen := Lib.hid hk
  have hal := fun wx : World => run_sliceAt_key wx w4.heap.size
  clear hk
  simp only [Act.put]
  refine wp_region_lexF (fun i => ([0, 2, 0, 1, 2] : List Nat).getD i 0) 5 (by kernel_rfl) (by kernel_rfl) ?_; intro wf hwf
  have HWf := Lib.hid (show Aft w5 wf by rw [hwf]; exact (Below.refl _ _).drew)
  have HBf := Lib.hid (show Below w.heap.size w wf by rw [hwf]; exact HW5.out.drew)
  clear hwf
  repeat (first | (refine lf_skip (by go_big_quiet_skip; exact wpQuiet_nil trivial) (by kernel_rfl) ?_; simp only [Act.put, List.setIfInBounds_toArray, List.set_cons_succ, List.set_cons_zero]) | (refine lf_quiet rfl (by go_big_quiet_want; exact quiet_false (by assumption)) (by kernel_rfl) rfl ?_; intro Kx hKx; go_big_quiet_op; go_big_quiet_on))
  refine lf_eff rfl (by go_big_quiet_want; exact quiet_false (by assumption)) (by kernel_rfl) ?_
  intro wg hg Kx hKx
  have HWg := Lib.hid (Aft.trans HWf.out hg)
  have HBg := Lib.hid (show Below w.heap.size w wg from Aft.trans HBf.out hg)
  have hh := held_any (.slice aok (bv k).length capk) k 92 wg (TabK_fr HK.out (Fr.of_below (S := fun _ => False) HBg.out) (fun h => h)) (HR.out.grow HBg.out) HKlen.out
  rw [← b92] at hh
  have HH2 := Lib.hid hh
  have hfg : Aft wf wg := hg
  clear hh hg
  go_wp2_with fail
  refine HH2.out.mono ?_
  rintro e w6 ⟨a6, c6, rfl, ho6, hb6⟩
  have hRd6 := Rd.of_own ho6
  have hl6 := heldB_length (key64 K0 k) 92
  generalize hO : heldB (key64 K0 k) 92 = O at ho6 hRd6 hl6
  have HO := Lib.hid hO
  have HRd6 := Lib.hid hRd6
  have HL6 := Lib.hid hl6
  have HB6 := Lib.hid (show Aft wf w6 from Aft.trans hfg hb6)
  go_wp2_with fail
  refine ⟨hb6, ?_⟩
  clear hO hRd6 hl6 ho6 hb6 hfg
  repeat (first | (refine lf_skip (by go_big_quiet_skip; exact wpQuiet_nil trivial) (by kernel_rfl) ?_; simp only [Act.put, List.setIfInBounds_toArray, List.set_cons_succ, List.set_cons_zero]) | (refine lf_quiet rfl (by go_big_quiet_want; exact quiet_false (by assumption)) (by kernel_rfl) rfl ?_; intro Kx hKx; go_big_quiet_op; go_big_quiet_on))
  refine lf_fresh (.cells #[.slice a6 64 c6, .slice (some ⟨w4.heap.size, 0, none⟩) 32 32] 25) (fun g => .slice (some ⟨g, 0, none⟩) 2 2) rfl (by kernel_rfl) (fun w1 => by kernel_rfl) ?_
  intro w7 g7 h71 h72 h73
  simp only [Act.put, List.setIfInBounds_toArray, List.set_cons_succ, List.set_cons_zero]
  have HB7 := Lib.hid (Aft.trans HB6.out h71)
  have HG7 := Lib.hid h73
  have HW67 := Lib.hid h71
  clear h71 h72 h73
  refine lf_eff rfl (by go_big_quiet_want; exact quiet_false (by assumption)) (by kernel_rfl) ?_
  intro w8 h8 Kx hKx
  have HB8 := Lib.hid (show Below w.heap.size w w8 from Aft.trans HBf.out (Aft.trans HB7.out h8))
  have hal2 := RdAll.two (h8.get HG7.out) (HRd6.out.grow (Aft.trans HW67.out h8)) (Rd.of_key (X := J) (t := 28) (Aft.get (Aft.trans HWf.out (Aft.trans HB7.out h8)) HK5.out) HJL.out)
  have hsum := sum_any K0 _ [O, J] w8 (TabK_fr HK.out (Fr.of_below (S := fun _ => False) HB8.out) (fun h => h)) hal2 (by have := HJL.out; have := HL6.out; simp; omega)
  rw [show ([O, J] : List (List (BitVec 8))).flatten = O ++ J by simp] at hsum
  generalize hX : digest K0 (O ++ J) = X at hsum
  have HX := Lib.hid hX
  have HXL := Lib.hid (show X.length = 32 by rw [← hX]; exact digest_length K0 _)
  have HSum := Lib.hid hsum
  have HA8 := Lib.hid h8
  clear hal2 hsum hX h8
  go_wp2_with fail
  refine HSum.out.mono ?_
  rintro e w9 ⟨rfl, hb9⟩
  have HW9 := Lib.hid (Aft.trans HWf.out (Aft.trans HB7.out (Aft.trans HA8.out hb9)))
  have HF9 := Lib.hid (show Aft wf w9 from Aft.trans HB7.out (Aft.trans HA8.out hb9))
  go_wp2_with fail
  refine ⟨hb9, ?_⟩
  clear hb9
  refine lf_done ?_
  intro wa ha
  have HWa := Lib.hid (Aft.trans HF9.out ha)
  have HS := Lib.hid (show wa.heap[w.heap.size]? = some (.cells key0 28 (0, 0)) from Aft.get (Aft.trans HWf.out HWa.out) HR5.out)
  have HBa := Lib.hid (show Below w.heap.size w wa from Aft.trans HBf.out HWa.out)
  clear ha
  go_wp2_with ((refine wpList_store_keyX rfl (.tmp 4) (.tmp 16) rfl w.heap.size X HXL.out rfl rfl HS.out ?_; intro wb q2 q3; have HKb := Lib.hid q2.out; have HBb := Lib.hid (q3 w.heap.size w (Nat.le_refl _) HBa.out); clear q2 q3))
  have hsz8 : (Tryd.prog.info? 28).map (·.size) = some (bv X).toArray.size := by rw [List.size_toArray, bv_length, HXL.out]; kernel_rfl
  refine bodyPost_ret (results_cell_row rfl _ _ w.heap.size 28 (bv X).toArray (0, 0) _ rfl HKb.out Tryd.underlying28 rfl hsz8) rfl ?_
  refine ⟨?_, HBb.out⟩
  rw [← HX.out]
  unfold macOf
  rw [HO.out, HI.out, HJ.out]
end Go.Proofs.YtifehfcgmodmaaaDoor
