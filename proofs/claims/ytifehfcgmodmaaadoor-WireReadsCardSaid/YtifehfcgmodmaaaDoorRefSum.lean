/- coterieref02.First, and coterieref02.Sum: the document's sum of any parts is the digest. -/
import Derived.Test.YtifehfcgmodmaaaDoorRefKey
namespace Go.Proofs.YtifehfcgmodmaaaDoor
open Go Go.RowKit
theorem beL_map : ∀ (i n : Nat), i ≤ 8 → beL i n = ((List.range 8).drop (8 - i)).map (beByte n)
  | 0, n, _ => rfl
  | i + 1, n, h => by
    rw [beL, beL_map i n (by omega), List.drop_eq_getElem_cons (i := 8 - (i + 1)) (by rw [List.length_range]; omega), List.map_cons, show 8 - (i + 1) + 1 = 8 - i by omega, List.getElem_range]
    unfold beByte
    rw [show 7 - (8 - (i + 1)) = i by omega, Nat.shiftRight_eq_div_pow, Nat.pow_mul]
theorem pad_tail (r : List (BitVec 8)) (N : Nat) (h : r.length % 64 = N % 64) : padB r (zc r.length) ++ beL 8 (8 * N) = r ++ tailB N 8 := by
  unfold padB tailB zc
  rw [show 63 - (N + 8) % 64 = (119 - r.length % 64) % 64 by omega, beL_map 8 (8 * N) (Nat.le_refl _), Nat.mul_comm 8 N]
  simp [List.append_assoc]
theorem digest_pad (K : Nat → BitVec 32) (d : List (BitVec 8)) : keyBytes (absorb K ((d ++ tailB d.length 8).length / 64) iv (d ++ tailB d.length 8)) = digest K d := by
  unfold digest finKey
  rw [(sha_step K iv d (tailB d.length 8)).1]
  rfl
theorem pad_whole (d : List (BitVec 8)) (N : Nat) (h : d.length % 64 = N % 64) : (d ++ tailB N 8).length % 64 = 0 := by
  rw [List.length_append, tailB_length]; omega
/-- A block of a list of bytes. -/
def blk (b : List (BitVec 8)) (j : Nat) : List (BitVec 8) := (b.drop (64 * j)).take 64
theorem absorb_blk (K : Nat → BitVec 32) (s : St) (b : List (BitVec 8)) (j : Nat) : mixed K (absorb K j s b) (byteAt (blk b j)) = absorb K (j + 1) s b := by
  rw [absorb_succ]
  apply mixed_congr
  intro i hi
  unfold byteAt blk
  simp only [List.getD_eq_getElem?_getD]
  rw [List.getElem?_take_of_lt hi]
theorem blk_length {b : List (BitVec 8)} {j : Nat} (h : 64 * j + 64 ≤ b.length) : (blk b j).length = 64 := by
  unfold blk
  rw [List.length_take, List.length_drop]
  omega
set_option maxRecDepth 100000 in
theorem cut_blk {w : World} {ao : Option Addr} {len cap j : Nat} {b : List (BitVec 8)} (h : Rd w (.slice ao len cap) (bv b)) (hj : 64 * j + 64 ≤ b.length) (l r : Int) (hl : l = ((64 * j : Nat) : Int)) (hr : r = ((64 * j + 64 : Nat) : Int)) :
    ∃ g o, (∀ wx, (Instr.slice 25 (.slice ao len cap) (some (.int .i64 l)) (some (.int .i64 r)) none).run Tryd.prog wx = .ok (.slice (some ⟨g, o, none⟩) 64 (cap - 64 * j)) wx) ∧ Rd w (.slice (some ⟨g, o, none⟩) 64 (cap - 64 * j)) (bv (blk b j)) := by
  subst hl hr
  have hs := h.sl
  rw [bv_length] at hs
  have h1 := (h.from (n := 64 * j) (by rw [bv_length]; omega)).to (n := 64) (by rw [List.length_drop, bv_length]; omega)
  have e : bv (blk b j) = ((bv b).drop (64 * j)).take 64 := by unfold blk; rw [bv_take, bv_drop]
  rw [← e] at h1
  obtain ⟨g, o, hgo, -, -⟩ := Rd.some_of h1 (by rw [bv_length, blk_length hj]; omega)
  rw [hgo] at h1
  refine ⟨g, o, fun wx => ?_, h1⟩
  obtain ⟨i0, hi, hz1, hz2, hz3⟩ := info_parts info_byte
  have hc : Tryd.prog.cellsOf 5 = 1 := by simp [Program.cellsOf, hi, hz2]
  rw [run_slice_lh wx 25 ao len cap Tryd.underlying25 .i64 .i64 ((64 * j : Nat) : Int) ((64 * j + 64 : Nat) : Int) (by omega) (by omega) (by omega)]
  rw [show Tryd.prog.elem 25 = 5 from rfl, run_sizeOf wx hi]
  simp only [Result.andThen, sliced, Int.toNat_natCast]
  rw [hc, Nat.mul_one, hgo, show 64 * j + 64 - 64 * j = 64 by omega]
set_option maxRecDepth 100000 in
theorem first_any (w : World) : Calls Tryd.prog 63 #[] w fun e w' => e = .returned (.agg (stArr iv)) ∧ Below w.heap.size w w' := by
  go_enter Tryd.func63, Tryd.ntmps63
  go_wp2_with fail
  go_returns
  exact ⟨rfl, (Below.refl _ _).alloc (Nat.le_refl _) _⟩
set_option maxRecDepth 100000 in
set_option maxHeartbeats 2000000 in
theorem refSum_any (vp : Value) (ps : List (List (BitVec 8))) (w : World) (hK : TabK K0 0 w) (hp : RdAll w vp ps) (hlen : ps.flatten.length ≤ 1099511627776) :
    Calls Tryd.prog 23 #[vp] w fun e w' => e = .returned (.agg (bv (digest K0 ps.flatten)).toArray) ∧ Below w.heap.size w w' := by
  have HK := Lib.hid hK
  have HP := Lib.hid hp
  have HL := Lib.hid hlen
  obtain ⟨ao, cap, rfl, hcap⟩ := hp.shape
  clear hK hp hcap
  have HZ := Lib.hid (heap_alloc_new w (.cells key0 28))
  go_enter Tryd.func23, Tryd.ntmps23
  go_wp2_with fail
  refine (all_any _ ps _ (HP.out.below (Aft.alloc w (.cells key0 28))) (by have := HL.out; omega)).mono ?_
  rintro e w1 ⟨a1, c1, rfl, ho1, hb1⟩
  have HR1 := Lib.hid (Rd.of_own ho1)
  have HA1 := Lib.hid (show Aft w w1 from Aft.trans (Aft.alloc w (.cells key0 28)) hb1)
  have HZ1 := Lib.hid (Aft.get (show Aft (w.alloc (.cells key0 28)) w1 from hb1) HZ.out)
  generalize hd : ps.flatten = d at *
  have HD := Lib.hid hd
  clear hd ho1 hb1 hlen
  go_wp2_with fail
  refine (padded_any _ d _ HR1.out HL.out).mono ?_
  rintro e w2 ⟨a2, c2, rfl, ho2, hb2⟩
  have hpt := pad_tail d d.length rfl
  rw [hpt] at ho2 ⊢
  have hwh := pad_whole d d.length rfl
  have hdp := digest_pad K0 d
  have hlB : (d ++ tailB d.length 8).length ≤ 1099511627776 + 1000 := by have := HL.out; rw [List.length_append, tailB_length]; omega
  generalize d ++ tailB d.length 8 = b at *
  have HR2 := Lib.hid (Rd.of_own ho2)
  have HA2 := Lib.hid (show Aft w w2 from Aft.trans HA1.out hb2)
  have HZ2 := Lib.hid (Aft.get (show Aft w1 w2 from hb2) HZ1.out)
  have HWh := Lib.hid hwh
  have HDp := Lib.hid hdp
  have HLB := Lib.hid hlB
  clear ho2 hb2 hpt hwh hdp hlB
  go_wp2_with fail
  refine (first_any _).mono ?_
  rintro e w3 ⟨rfl, hb3⟩
  have HR3 := Lib.hid (HR2.out.grow hb3)
  have HA3 := Lib.hid (show Aft w w3 from Aft.trans HA2.out hb3)
  have HZ3 := Lib.hid (Aft.get (show Aft w2 w3 from hb3) HZ2.out)
  have HS3 := Lib.hid (heap_alloc_new w3 (.cells zero8 34))
  clear hb3
  go_wp2_with ((refine wpList_store_rowX rfl 34 (.tmp 4) (.tmp 9) rfl w3.heap.size (stArr iv) rfl rfl 34 zero8 HS3.out (st_info _) (by rw [stArr_size]; rfl) (stArr_one iv) ?_; intro w5 q2 q3; have HV5 := Lib.hid q2.out; have h35 := (show Aft w3 w5 from q3 w3.heap.size w3 (Nat.le_refl _) (Below.alloc (Below.refl _ _) (Nat.le_refl _) _)); have HA5 := Lib.hid (Aft.trans HA3.out h35); have HR5 := Lib.hid (HR3.out.grow h35); have H35 := Lib.hid h35; clear q2 q3 h35))
  have hbl := bv_length b
  rw [hbl]
  go_loopw [5] (fun v5 wr => ∃ j : Nat, 64 * j ≤ b.length ∧ v5 = .int .i64 ((64 * j : Nat) : Int) ∧ wr.heap[w3.heap.size]? = some (.cells (stArr (absorb K0 j iv b)) 34 (0, 0)) ∧ Below w3.heap.size w3 wr) (fun v _ => b.length - (intOf v).toNat)
  case atStart => exact ⟨0, by omega, rfl, HV5.out, H35.out⟩
  case round =>
    obtain ⟨j, hj, rfl, hv, hb⟩ := hrel
    clear hbl
    have HV := Lib.hid hv
    have HB := Lib.hid hb
    have HW := Lib.hid (show Aft w wr from Below.trans HA3.out (Below.mono hb (Below.size HA3.out)))
    clear hv hb HV5 HR5 H35 HS3
    have hLb := HLB.out
    by_cases hlt : 64 * j < b.length
    · have hlt' : ((64 * j : Nat) : Int) < (b.length : Int) := by omega
      have h64 : 64 * j + 64 ≤ b.length := by have := HWh.out; omega
      have hrd := HR3.out.grow HB.out
      rw [bv_length] at hrd
      obtain ⟨gb, ob, hcut, hrb⟩ := cut_blk hrd h64 (64 * (j : Int)) (64 * (j : Int) + 64) (by omega) (by omega)
      have HRb := Lib.hid hrb
      have HCut := Lib.hid hcut
      have HAb := Lib.hid (absorb_blk K0 iv b j)
      have HBl := Lib.hid (blk_length h64)
      clear hrd hrb hcut
      generalize blk b j = bj at *
      generalize hs1 : absorb K0 (j + 1) iv b = s1 at *
      have HS1 := Lib.hid hs1
      clear hs1
      generalize absorb K0 j iv b = s0 at *
      go_wp2_with fail
      refine wp_region_lexF (fun i => ([0, 0, 0, 0, 0, 0, 2] : List Nat).getD i 0) 7 (by kernel_rfl) (by kernel_rfl) ?_; intro wi hwi
      have HWi := Lib.hid (show Aft wr wi by rw [hwi]; exact (Below.refl _ _).drew)
      clear hwi
      refine lf_load_row rfl (by kernel_rfl) 34 (.tmp 4) rfl w3.heap.size rfl _ (stArr s0) _ _ (Aft.get HWi.out HV.out) Tryd.underlying34 rfl (st_info _) ?_
      simp only [Act.put, List.setIfInBounds_toArray, List.set_cons_succ, List.set_cons_zero]
      have hcut := HCut.out
      repeat (first | (refine lf_skip (by go_big_quiet_skip; exact wpQuiet_nil trivial) (by kernel_rfl) ?_; simp only [Act.put, List.setIfInBounds_toArray, List.set_cons_succ, List.set_cons_zero]) | (refine lf_quiet rfl (by go_big_quiet_want; exact quiet_false (by assumption)) (by kernel_rfl) rfl ?_; intro Kx hKx; go_big_quiet_op; go_big_quiet_on))
      clear hcut
      refine lf_eff rfl (by go_big_quiet_want; exact quiet_false (by assumption)) (by kernel_rfl) ?_; intro wl hl Kx hKx; go_wp2_with fail
      have hlw := (show Aft wr wl from Aft.trans HWi.out hl)
      refine (block_any s0 gb ob 64 (c2 - 64 * j) bj wl (TabK_fr HK.out (Fr.of_below (S := fun _ => False) (Aft.trans HW.out hlw)) (fun h => h)) (HRb.out.grow hlw) (by rw [HBl.out]; omega)).mono ?_
      rintro e wm ⟨rfl, hm⟩
      rw [HAb.out]
      have HM := Lib.hid (show Aft wr wm from Aft.trans hlw hm)
      go_wp2_with fail
      refine ⟨hm, ?_⟩
      clear hm hl hlw
      repeat (first | (refine lf_skip (by go_big_quiet_skip; exact wpQuiet_nil trivial) (by kernel_rfl) ?_; simp only [Act.put, List.setIfInBounds_toArray, List.set_cons_succ, List.set_cons_zero]) | (refine lf_quiet rfl (by go_big_quiet_want; exact quiet_false (by assumption)) (by kernel_rfl) rfl ?_; intro Kx hKx; go_big_quiet_op; go_big_quiet_on))
      refine lf_done ?_
      intro wn1 hn1
      have HN := Lib.hid (show Aft wr wn1 from Aft.trans HM.out hn1)
      have HVn := Lib.hid (Aft.get HN.out HV.out)
      have HBn := Lib.hid (show Below w3.heap.size w3 wn1 from Below.trans HB.out (Below.mono HN.out (Below.size HB.out)))
      clear hn1
      go_wp2_with ((refine wpList_store_rowX rfl 34 (.tmp 4) (.tmp 22) rfl w3.heap.size (stArr s1) rfl rfl 34 (stArr s0) HVn.out (st_info _) (by rw [stArr_size, stArr_size]) (stArr_one _) ?_; intro wp q2 q3; have HVp := Lib.hid q2.out; have HBp := Lib.hid (q3 w3.heap.size w3 (Nat.le_refl _) HBn.out); clear q2 q3))
      go_roundw
      case rel => exact ⟨j + 1, by omega, by go_num, by rw [HS1.out]; exact HVp.out, HBp.out⟩
      case measure => simp [intOf]; omega
    · have hjl : j = b.length / 64 := by have := HWh.out; omega
      have hlt' : ¬ ((64 * j : Nat) : Int) < (b.length : Int) := by omega
      subst hjl
      have HKb := Lib.hid (fun wx => refKey_any (absorb K0 (b.length / 64) iv b) wx)
      rw [HDp.out] at HKb
      have HX := Lib.hid (show (digest K0 d).length = 32 from digest_length K0 d)
      generalize hX : digest K0 d = X at *
      have HXe := Lib.hid hX
      clear hX
      generalize absorb K0 (b.length / 64) iv b = s0 at *
      have HZr := Lib.hid ((Below.block HB.out w.heap.size (heap_lt HZ3.out)).trans HZ3.out)
      go_wp2_with ((refine wpList_load_row rfl 34 (.tmp 4) rfl w3.heap.size rfl 34 (stArr s0) (0, 0) _ HV.out Tryd.underlying34 rfl (st_info s0) ?_))
      refine (HKb.out _).mono ?_
      rintro e w6 ⟨rfl, hb6⟩
      have HZ6 := Lib.hid (Aft.get hb6 HZr.out)
      have HA6 := Lib.hid (Aft.trans HW.out hb6)
      clear hb6
      go_wp2_with ((refine wpList_store_keyX rfl (.tmp 2) (.tmp 24) rfl w.heap.size X HX.out rfl rfl HZ6.out ?_; intro w7 q2 q3; have HK7 := Lib.hid q2.out; have HB7 := Lib.hid (q3 w.heap.size w (Nat.le_refl _) HA6.out); clear q2 q3))
      have hsz8 : (Tryd.prog.info? 28).map (·.size) = some (bv X).toArray.size := by rw [List.size_toArray, bv_length, HX.out]; kernel_rfl
      refine bodyPost_ret (results_cell_row rfl _ _ w.heap.size 28 (bv X).toArray (0, 0) _ rfl HK7.out Tryd.underlying28 rfl hsz8) rfl ?_
      exact ⟨by rw [HD.out, HXe.out], HB7.out⟩
end Go.Proofs.YtifehfcgmodmaaaDoor
