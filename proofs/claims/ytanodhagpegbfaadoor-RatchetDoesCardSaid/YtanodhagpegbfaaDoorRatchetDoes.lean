/- The law RatchetDoes. -/
import Derived.Test.YtanodhagpegbfaaDoorRatRefTake
import Derived.Test.YtanodhagpegbfaaDoorRatRefSame
import Derived.Test.YtanodhagpegbfaaDoorRLive
import Derived.Test.YtanodhagpegbfaaDoorROnceKit
namespace Go.Proofs.YtanodhagpegbfaaDoor
open Go Go.RowKit
set_option linter.unusedSimpArgs false

/-- A Skip's number turned: the others stay. -/
theorem wpList_store_gen {ops : Array Oper} {rest : List Oper} {o : Oper} {a : Act} {w : World} {Q : Exit → Act → World → Prop} (hgd : o.guard = none) (x y : Operand) (ho : o.op = .store 37 x y) (base g : Nat) (cap n : Nat) (zs : List Sk) (i : Nat) (hi : i < zs.length) (hown : OwnS w base (.slice (some ⟨g, 0, none⟩) n cap) zs)
    (m : Nat) (hm : m < 18446744073709551616) (hx : a.eval x = .pointer (some ⟨g, i * 33, none⟩)) (hy : a.eval y = .int .u64 (m : Int))
    (h : ∀ w' zs', zs'.length = zs.length → OwnS w' base (.slice (some ⟨g, 0, none⟩) n cap) zs' → Hid (∀ k, k ≠ g → w'.heap[k]? = w.heap[k]?) → (∀ k w0, k ≤ g → Below k w0 w → Below k w0 w') → wpList Tryd.prog ops Q rest (a.put o.dst undef) w') : wpList Tryd.prog ops Q (o :: rest) a w := by
  rcases hown.2 with ⟨he, -⟩ | ⟨g', cap', cur, he, hb, hg, h1, h2, h3, h4⟩
  · cases he
  cases he
  have hz := List.take_append_drop i zs
  rw [List.drop_eq_getElem_cons hi] at hz
  have hcur : cur.toList = sksL (zs.take i) ++ ([.int .u64 ((zs[i].1.1 : Nat) : Int)] ++ (bv zs[i].1.2 ++ (sksL (zs.drop (i + 1)) ++ cur.toList.drop (zs.length * 33)))) := by
    have h5 := List.take_append_drop (zs.length * 33) cur.toList
    rw [h4] at h5
    have h6 : sksL zs = sksL (zs.take i) ++ (skL zs[i] ++ sksL (zs.drop (i + 1))) := by
      rw [← sksL_cons, ← sksL_append, hz]
    rw [h6] at h5
    unfold skL at h5
    simpa using h5.symm
  have hg' : w.heap[g]? = some (.cells (sksL (zs.take i) ++ ([Value.int .u64 ((zs[i].1.1 : Nat) : Int)] ++ (bv zs[i].1.2 ++ (sksL (zs.drop (i + 1)) ++ cur.toList.drop (zs.length * 33))))).toArray 73 (0, 0)) := by rw [← hcur]; exact hg
  refine wpList_store_part hgd _ x y ho g (i * 33) (.int .u64 (m : Int)) hx hy _ (sksL (zs.take i)) [.int .u64 ((zs[i].1.1 : Nat) : Int)] [.int .u64 (m : Int)] (bv zs[i].1.2 ++ (sksL (zs.drop (i + 1)) ++ cur.toList.drop (zs.length * 33))) rfl (by rw [sksL_length, List.length_take, Nat.min_eq_left (Nat.le_of_lt hi)]) hg' (by kernel_rfl) rfl (fun u hu => by simp at hu; subst hu; rfl) ?_
  intro w' b1 b2 b3
  have hs : sksL (zs.set i ⟨(m, zs[i].1.2), hm, zs[i].2.2⟩) = sksL (zs.take i) ++ ([Value.int .u64 (m : Int)] ++ (bv zs[i].1.2 ++ sksL (zs.drop (i + 1)))) := by
    rw [List.set_eq_take_append_cons_drop, if_pos hi, sksL_append, sksL_cons]
    rfl
  refine h w' (zs.set i ⟨(m, zs[i].1.2), hm, zs[i].2.2⟩) (by rw [List.length_set]) ⟨?_, .inr ⟨g, cap, _, by rw [List.length_set], hb, b1.out, by rw [List.length_set]; exact h1, h2, ?_, ?_⟩⟩ b2 b3
  · rw [List.length_set, sksL_length, List.length_set]
  · have h5 := congrArg List.length hcur
    rw [Array.length_toList, h3] at h5
    rw [List.size_toArray]
    simp only [List.length_append, List.length_cons, List.length_nil] at h5 ⊢
    omega
  · rw [List.length_set, hs]
    have h6 : (sksL (zs.take i) ++ ([Value.int .u64 (m : Int)] ++ (bv zs[i].1.2 ++ sksL (zs.drop (i + 1))))).length = zs.length * 33 := by
      rw [← hs, sksL_length, List.length_set]
    simp only [← List.append_assoc] at h6 ⊢
    exact List.take_left' h6
theorem tkZ_len (C : List (BitVec 8)) (G : Nat) (zs : List Sk) (t : Nat) : (tkZ C G zs t).length ≤ zs.length + 1024 := by
  by_cases h : tkE G zs t = 0
  · by_cases hl : t < G
    · have := (left_down (C := C) h hl).1
      omega
    · have := (left_up (C := C) h (by omega)).2.2.2.1
      omega
  · unfold tkZ
    rw [if_pos h]
    simp
theorem inc_u64 (n : Nat) : ∃ m : Nat, m < 18446744073709551616 ∧ IntKind.u64.wrap ((n : Int) + 1) = (m : Int) := by
  refine ⟨(n + 1) % 18446744073709551616, Nat.mod_lt _ (by decide), ?_⟩
  have e2 : ∀ x : Int, IntKind.u64.wrap x = x % 18446744073709551616 := fun _ => rfl
  rw [e2]
  omega
set_option maxRecDepth 100000 in
set_option maxHeartbeats 8000000 in
theorem ratchetDoes_any (k : List (BitVec 8)) (z : Int) (C : List (BitVec 8)) (G : Nat) (v : Value) (zs : List Sk) (D : List (BitVec 8)) (H : Nat) (u : Value) (ys : List Sk) (t : Nat) (w : World) (hK : TabK K0 2 w) (hK2 : TabK K0 0 w) (hk : k.length = 32)
    (hC : C.length = 32) (hG : G < 18446744073709551616) (hI : Sks w.heap.size w v zs) (hD : D.length = 32) (hJ : Sks w.heap.size w u ys) (ht : t < 18446744073709551616) :
    Calls Tryd.prog 16 #[.agg (bv k).toArray, .int .i64 z, .agg (ratL C G v).toArray, .agg (ratL D H u).toArray, .int .u64 (t : Int)] w fun r w' => r = .returned (.bool true) ∧ Below w.heap.size w w' := by
  obtain ⟨a, cap, rfl⟩ := hI.shape
  obtain ⟨b, d, rfl⟩ := hJ.shape
  have HK := Lib.hid hK
  have HT := Lib.hid hK2
  have HKl := Lib.hid hk
  have HC := Lib.hid hC
  have HD0 := Lib.hid hD
  have HLv := Lib.hid (fun (wx : World) (h : Aft w wx) => live15_any wx (TabK_fr HK.out (Fr.of_below (S := fun _ => False) h) (fun h => h)))
  have HF := Lib.hid (fun (wx : World) => few15_any C G t zs.length a cap wx hC hG ht)
  have HCp := Lib.hid (fun (hz : zs.length ≤ 1048576) (wx : World) (h : Aft w wx) => rcopy_any C G a cap zs wx hC hz (hI.aft h))
  have HS := Lib.hid (fun (wx : World) (h : Aft w wx) => start_any k z wx (TabK_fr HK.out (Fr.of_below (S := fun _ => False) h) (fun h => h)) hk)
  have HSr := Lib.hid (fun (wx : World) (h : Aft w wx) => startRef_any k z wx (TabK_fr HT.out (Fr.of_below (S := fun _ => False) h) (fun h => h)) hk)
  have HN := Lib.hid (fun (hz : zs.length ≤ 1048576) (wx : World) (h : Aft w wx) => rnext_any C G a cap zs wx (TabK_fr HK.out (Fr.of_below (S := fun _ => False) h) (fun h => h)) hC hG hz (hI.aft h))
  have HNr := Lib.hid (fun (hz : zs.length ≤ 1048576) (wx : World) (h : Aft w wx) => rnextRef_any C G a cap zs wx (TabK_fr HT.out (Fr.of_below (S := fun _ => False) h) (fun h => h)) hC hG hz (hI.aft h))
  have HTk := Lib.hid (fun (hz : zs.length ≤ 1048576) (wx : World) (h : Aft w wx) => (rtake_any C G t a cap zs wx (TabK_fr HK.out (Fr.of_below (S := fun _ => False) h) (fun h => h)) hC hG ht hz (hI.aft h)).mono fun _ _ h => h.as)
  have HTr := Lib.hid (fun (hz : zs.length ≤ 1048576) (wx : World) (h : Aft w wx) => (rtakeRef_any C G t a cap zs wx (TabK_fr HT.out (Fr.of_below (S := fun _ => False) h) (fun h => h)) hC hG ht hz (hI.aft h)).mono fun _ _ h => h.as)
  have HAh := Lib.hid (fun (hz : zs.length ≤ 1048576) (wx : World) (h : Aft w wx) => ahead_any C G t a cap zs wx hC hG ht hz (hI.aft h))
  have HAr := Lib.hid (fun (hz : zs.length ≤ 1048576) (wx : World) (h : Aft w wx) => raheadRef_any C G t a cap zs wx hC hG ht hz (hI.aft h))
  have HCk0 := Lib.hid (fun (hz : zs.length ≤ 1048576) (wx : World) (h : Aft w wx) => check_any C G a cap zs wx hC hG hz (hI.aft h))
  have HCr0 := Lib.hid (fun (hz : zs.length ≤ 1048576) (wx : World) (h : Aft w wx) => rcheckRef_any C G a cap zs wx hC hz (hI.aft h))
  have HSo0 := Lib.hid (fun (hz : zs.length ≤ 1048576) (hy : ys.length ≤ 1048576) (wx : World) (h : Aft w wx) => rsame_any C D G H (.slice a zs.length cap) (.slice b ys.length d) zs ys wx hC hD (hI.aft h) (hJ.aft h) hz hy)
  have HSp0 := Lib.hid (fun (hz : zs.length ≤ 1048576) (hy : ys.length ≤ 1048576) (wx : World) (h : Aft w wx) => rsameRef_any C D G H (.slice a zs.length cap) (.slice b ys.length d) zs ys wx hC hD (hI.aft h) (hJ.aft h) hz hy)
  have HSw := Lib.hid (fun (hz : zs.length ≤ 1048576) (wx : World) (h : Aft w wx) (vw : Value) (hw : Sks wx.heap.size wx vw zs) => rsameRef_any C C G G (.slice a zs.length cap) vw zs zs wx hC hC (hI.aft h) hw hz hz)
  rw [decide_eq_true (⟨rfl, rfl, rfl⟩ : C = C ∧ G = G ∧ zs = zs)] at HSw
  have HA := Lib.hid (stC_length k z)
  have HK1 := Lib.hid (rnK_length C G zs)
  have HC1 := Lib.hid (rnC_length C G zs)
  have HK2 := Lib.hid (tkK_length C G zs t)
  have HC2 := Lib.hid (tkC_length hC G zs t)
  have HZ1 := Lib.hid (show (rnZ G zs).length ≤ zs.length by unfold rnZ; split <;> simp)
  have HZ2 := Lib.hid (tkZ_len C G zs t)
  generalize stC k z = A at *
  generalize stE z = e1 at *
  generalize rnE G zs = e2 at *
  generalize rnK C G zs = K1 at *
  generalize rnC C G zs = C1 at *
  generalize rnG G zs = G1 at *
  generalize rnZ G zs = Z1 at *
  generalize tkE G zs t = e3 at *
  generalize tkK C G zs t = K2 at *
  generalize tkC C G zs t = C2 at *
  generalize tkG G zs t = G2 at *
  generalize tkZ C G zs t = Z2 at *
  generalize ahE G zs t = e4 at *
  generalize ahN G zs t = n4 at *
  generalize chkE G zs = e5 at *
  generalize decide (C = D ∧ G = H ∧ zs = ys) = bq at *
  have HL := Lib.hid (Led.start w)
  clear hK hK2 hk hC hI hG hD hJ ht
  go_enter Tryd.func16, Tryd.ntmps16
  go_wp2_with (first | (refine wpList_boxO rfl 23 (.tmp 0) rfl (.agg (bv k).toArray) rfl (.cells (bv k).toArray 23) (box_key _) ?_; intro wB0 aa gg zz; (try replace HO := Lib.hid (HO.out.aft aa)); (try replace HO2 := Lib.hid (HO2.out.aft aa)); (try replace HOK := Lib.hid (HOK.out.aft aa)); (try replace HO3 := Lib.hid (HO3.out.aft aa)); (try replace HO4 := Lib.hid (HO4.out.aft aa)); (try replace HO5 := Lib.hid (HO5.out.aft aa)); replace HL := Lib.hid (HL.out.alloc aa gg.out); clear aa gg zz; try simp only [List.nil_append, List.cons_append, List.set_cons_zero, List.set_cons_succ] at HL) | (refine wpList_boxO rfl 71 (.tmp 2) rfl (.agg (ratL C G (.slice a zs.length cap)).toArray) rfl (.cells (ratL C G (.slice a zs.length cap)).toArray 71) (box_rat _) ?_; intro w' aa gg zz; replace HL := Lib.hid (HL.out.alloc aa gg.out); clear aa gg zz; try simp only [List.nil_append, List.cons_append, List.set_cons_zero, List.set_cons_succ] at HL) | (refine wpList_boxO rfl 71 (.tmp 3) rfl (.agg (ratL D H (.slice b ys.length d)).toArray) rfl (.cells (ratL D H (.slice b ys.length d)).toArray 71) (box_rat _) ?_; intro w' aa gg zz; replace HL := Lib.hid (HL.out.alloc aa gg.out); clear aa gg zz; try simp only [List.nil_append, List.cons_append, List.set_cons_zero, List.set_cons_succ] at HL))
  refine (HLv.out _ HL.out.aft).mono ?_
  rintro r w2 ⟨rfl, h2⟩
  (try replace HO := Lib.hid (HO.out.aft h2)); (try replace HO2 := Lib.hid (HO2.out.aft h2)); (try replace HOK := Lib.hid (HOK.out.aft h2)); (try replace HO3 := Lib.hid (HO3.out.aft h2)); (try replace HO4 := Lib.hid (HO4.out.aft h2)); (try replace HO5 := Lib.hid (HO5.out.aft h2)); replace HL := Lib.hid (HL.out.call h2)
  clear h2 HLv
  go_wp2_with (first | (refine wpList_load_rowG (by kernel_rfl) 71 (.tmp 7) rfl _ rfl _ _ _ _ (HL.out.get 1 rfl) Tryd.underlying71 rfl (rat_info HC.out) ?_))
  refine (HF.out _).mono ?_
  rintro r w3 ⟨rfl, h3⟩
  (try replace HO := Lib.hid (HO.out.aft h3)); (try replace HO2 := Lib.hid (HO2.out.aft h3)); (try replace HOK := Lib.hid (HOK.out.aft h3)); (try replace HO3 := Lib.hid (HO3.out.aft h3)); (try replace HO4 := Lib.hid (HO4.out.aft h3)); (try replace HO5 := Lib.hid (HO5.out.aft h3)); replace HL := Lib.hid (HL.out.call h3)
  clear h3 HF
  have hl2 := rat_l (HL.out.get 2 rfl) HD0.out
  cases hfew : fewB G zs.length t with
  | false =>
    go_wp2_with fail
    go_ret
    exact ⟨rfl, HL.out.aft⟩
  | true =>
    have hz : zs.length ≤ 1100 := (of_decide_eq_true hfew).1
    by_cases hy : (1100 : Int) < (ys.length : Nat)
    · go_wp2_with fail
      go_ret
      exact ⟨rfl, HL.out.aft⟩
    have HZl := Lib.hid (show zs.length ≤ 1048576 ∧ ys.length ≤ 1048576 by omega)
    have HZk := Lib.hid hz
    replace HCp := Lib.hid (HCp.out HZl.out.1)
    replace HN := Lib.hid (HN.out HZl.out.1)
    replace HNr := Lib.hid (HNr.out HZl.out.1)
    replace HTk := Lib.hid (HTk.out HZl.out.1)
    replace HTr := Lib.hid (HTr.out HZl.out.1)
    replace HAh := Lib.hid (HAh.out HZl.out.1)
    replace HAr := Lib.hid (HAr.out HZl.out.1)
    replace HCk0 := Lib.hid (HCk0.out HZl.out.1)
    replace HCr0 := Lib.hid (HCr0.out HZl.out.1)
    replace HSo0 := Lib.hid (HSo0.out HZl.out.1 HZl.out.2)
    replace HSp0 := Lib.hid (HSp0.out HZl.out.1 HZl.out.2)
    replace HSw := Lib.hid (HSw.out HZl.out.1)
    clear hfew hz
    go_wp2_with (first | (refine wpList_load_rowG (by kernel_rfl) 71 (.tmp 7) rfl _ rfl _ _ _ _ (HL.out.get 1 rfl) Tryd.underlying71 rfl (rat_info HC.out) ?_))
    clear hl2 hy
    refine (HCp.out _ HL.out.aft).mono ?_
    rintro r w4 ⟨vw, rfl, ho, h4⟩
    obtain ⟨aw, cw, rfl⟩ := ho.shape
    have HO := Lib.hid (ho.mono HL.out.aft.size)
    replace HL := Lib.hid (HL.out.call h4)
    clear h4 ho HCp
    go_wp2_with (first | (refine wpList_allocO rfl 71 rfl (.cells (ratL (List.replicate 32 0) 0 (.slice none 0 0)).toArray 71) alloc_rat ?_; intro w' aa gg zz; (try replace HO := Lib.hid (HO.out.aft aa)); (try replace HO2 := Lib.hid (HO2.out.aft aa)); (try replace HOK := Lib.hid (HOK.out.aft aa)); (try replace HO3 := Lib.hid (HO3.out.aft aa)); (try replace HO4 := Lib.hid (HO4.out.aft aa)); (try replace HO5 := Lib.hid (HO5.out.aft aa)); replace HL := Lib.hid (HL.out.alloc aa gg.out); clear aa gg zz; try simp only [List.nil_append, List.cons_append, List.set_cons_zero, List.set_cons_succ] at HL) | (refine wpList_store_ratZ rfl (.tmp 12) (.tmp 48) _ (C) (G) (.slice aw zs.length cw) HC.out rfl rfl rfl rfl _ (HL.out.get 3 rfl) (rat_old List.length_replicate) ?_; intro w' b1 b2 b3; (try replace HO := Lib.hid (HO.out.stored (HL.out.get 3 rfl) (by decide) b2.out)); (try replace HO2 := Lib.hid (HO2.out.stored (HL.out.get 3 rfl) (by decide) b2.out)); (try replace HOK := Lib.hid (HOK.out.stored (HL.out.get 3 rfl) (by decide) b2.out)); (try replace HO3 := Lib.hid (HO3.out.stored (HL.out.get 3 rfl) (by decide) b2.out)); (try replace HO4 := Lib.hid (HO4.out.stored (HL.out.get 3 rfl) (by decide) b2.out)); (try replace HO5 := Lib.hid (HO5.out.stored (HL.out.get 3 rfl) (by decide) b2.out)); replace HL := Lib.hid (HL.out.store 3 rfl b1 b2 b3); clear b1 b2 b3; try simp only [List.nil_append, List.cons_append, List.set_cons_zero, List.set_cons_succ] at HL) | (refine wpList_load_rowG (by kernel_rfl) 23 (.tmp 5) rfl _ rfl _ _ _ _ (HL.out.get 0 rfl) Tryd.underlying23 rfl (key_info HKl.out) ?_))
    refine (HS.out _ HL.out.aft).mono ?_
    rintro r w5 ⟨rfl, h5⟩
    (try replace HO := Lib.hid (HO.out.aft h5)); (try replace HO2 := Lib.hid (HO2.out.aft h5)); (try replace HOK := Lib.hid (HOK.out.aft h5)); (try replace HO3 := Lib.hid (HO3.out.aft h5)); (try replace HO4 := Lib.hid (HO4.out.aft h5)); (try replace HO5 := Lib.hid (HO5.out.aft h5)); replace HL := Lib.hid (HL.out.call h5)
    clear h5 HS
    go_wp2_with (first | (refine wpList_allocO rfl 71 rfl (.cells (ratL (List.replicate 32 0) 0 (.slice none 0 0)).toArray 71) alloc_rat ?_; intro w' aa gg zz; (try replace HO := Lib.hid (HO.out.aft aa)); (try replace HO2 := Lib.hid (HO2.out.aft aa)); (try replace HOK := Lib.hid (HOK.out.aft aa)); (try replace HO3 := Lib.hid (HO3.out.aft aa)); (try replace HO4 := Lib.hid (HO4.out.aft aa)); (try replace HO5 := Lib.hid (HO5.out.aft aa)); replace HL := Lib.hid (HL.out.alloc aa gg.out); clear aa gg zz; try simp only [List.nil_append, List.cons_append, List.set_cons_zero, List.set_cons_succ] at HL) | (refine wpList_store_ratZ rfl (.tmp 13) (.tmp 53) _ (A) (0) (.slice none 0 0) HA.out rfl rfl rfl rfl _ (HL.out.get 4 rfl) (rat_old List.length_replicate) ?_; intro w' b1 b2 b3; (try replace HO := Lib.hid (HO.out.stored (HL.out.get 4 rfl) (by decide) b2.out)); (try replace HO2 := Lib.hid (HO2.out.stored (HL.out.get 4 rfl) (by decide) b2.out)); (try replace HOK := Lib.hid (HOK.out.stored (HL.out.get 4 rfl) (by decide) b2.out)); (try replace HO3 := Lib.hid (HO3.out.stored (HL.out.get 4 rfl) (by decide) b2.out)); (try replace HO4 := Lib.hid (HO4.out.stored (HL.out.get 4 rfl) (by decide) b2.out)); (try replace HO5 := Lib.hid (HO5.out.stored (HL.out.get 4 rfl) (by decide) b2.out)); replace HL := Lib.hid (HL.out.store 4 rfl b1 b2 b3); clear b1 b2 b3; try simp only [List.nil_append, List.cons_append, List.set_cons_zero, List.set_cons_succ] at HL) | (refine wpList_load_rowG (by kernel_rfl) 23 (.tmp 5) rfl _ rfl _ _ _ _ (HL.out.get 0 rfl) Tryd.underlying23 rfl (key_info HKl.out) ?_))
    refine (HSr.out _ HL.out.aft).mono ?_
    rintro r w6 ⟨rfl, h6⟩
    (try replace HO := Lib.hid (HO.out.aft h6)); (try replace HO2 := Lib.hid (HO2.out.aft h6)); (try replace HOK := Lib.hid (HOK.out.aft h6)); (try replace HO3 := Lib.hid (HO3.out.aft h6)); (try replace HO4 := Lib.hid (HO4.out.aft h6)); (try replace HO5 := Lib.hid (HO5.out.aft h6)); replace HL := Lib.hid (HL.out.call h6)
    clear h6 HSr
    go_wp2_with (first | (refine wpList_allocO rfl 71 rfl (.cells (ratL (List.replicate 32 0) 0 (.slice none 0 0)).toArray 71) alloc_rat ?_; intro w' aa gg zz; (try replace HO := Lib.hid (HO.out.aft aa)); (try replace HO2 := Lib.hid (HO2.out.aft aa)); (try replace HOK := Lib.hid (HOK.out.aft aa)); (try replace HO3 := Lib.hid (HO3.out.aft aa)); (try replace HO4 := Lib.hid (HO4.out.aft aa)); (try replace HO5 := Lib.hid (HO5.out.aft aa)); replace HL := Lib.hid (HL.out.alloc aa gg.out); clear aa gg zz; try simp only [List.nil_append, List.cons_append, List.set_cons_zero, List.set_cons_succ] at HL) | (refine wpList_store_ratZ rfl (.tmp 15) (.tmp 59) _ (A) (0) (.slice none 0 0) HA.out rfl rfl rfl rfl _ (HL.out.get 5 rfl) (rat_old List.length_replicate) ?_; intro w' b1 b2 b3; (try replace HO := Lib.hid (HO.out.stored (HL.out.get 5 rfl) (by decide) b2.out)); (try replace HO2 := Lib.hid (HO2.out.stored (HL.out.get 5 rfl) (by decide) b2.out)); (try replace HOK := Lib.hid (HOK.out.stored (HL.out.get 5 rfl) (by decide) b2.out)); (try replace HO3 := Lib.hid (HO3.out.stored (HL.out.get 5 rfl) (by decide) b2.out)); (try replace HO4 := Lib.hid (HO4.out.stored (HL.out.get 5 rfl) (by decide) b2.out)); (try replace HO5 := Lib.hid (HO5.out.stored (HL.out.get 5 rfl) (by decide) b2.out)); replace HL := Lib.hid (HL.out.store 5 rfl b1 b2 b3); clear b1 b2 b3; try simp only [List.nil_append, List.cons_append, List.set_cons_zero, List.set_cons_succ] at HL) | (refine wpList_load_rowG (by kernel_rfl) 71 (.tmp 7) rfl _ rfl _ _ _ _ (HL.out.get 1 rfl) Tryd.underlying71 rfl (rat_info HC.out) ?_))
    refine (HN.out _ HL.out.aft).mono ?_
    rintro r w7 ⟨v1, rfl, ho, h7⟩
    obtain ⟨a1, c1, rfl⟩ := ho.shape
    have HO2 := Lib.hid (ho.mono HL.out.aft.size)
    replace HO := Lib.hid (HO.out.aft h7)
    replace HL := Lib.hid (HL.out.call h7)
    clear h7 ho HN
    go_wp2_with (first | (refine wpList_allocO rfl 23 rfl (.cells key0 23) alloc_key ?_; intro w' aa gg zz; (try replace HO := Lib.hid (HO.out.aft aa)); (try replace HO2 := Lib.hid (HO2.out.aft aa)); (try replace HOK := Lib.hid (HOK.out.aft aa)); (try replace HO3 := Lib.hid (HO3.out.aft aa)); (try replace HO4 := Lib.hid (HO4.out.aft aa)); (try replace HO5 := Lib.hid (HO5.out.aft aa)); replace HL := Lib.hid (HL.out.alloc aa gg.out); clear aa gg zz; try simp only [List.nil_append, List.cons_append, List.set_cons_zero, List.set_cons_succ] at HL) | (refine wpList_allocO rfl 71 rfl (.cells (ratL (List.replicate 32 0) 0 (.slice none 0 0)).toArray 71) alloc_rat ?_; intro w' aa gg zz; (try replace HO := Lib.hid (HO.out.aft aa)); (try replace HO2 := Lib.hid (HO2.out.aft aa)); (try replace HOK := Lib.hid (HOK.out.aft aa)); (try replace HO3 := Lib.hid (HO3.out.aft aa)); (try replace HO4 := Lib.hid (HO4.out.aft aa)); (try replace HO5 := Lib.hid (HO5.out.aft aa)); replace HL := Lib.hid (HL.out.alloc aa gg.out); clear aa gg zz; try simp only [List.nil_append, List.cons_append, List.set_cons_zero, List.set_cons_succ] at HL) | (refine wpList_store_keyZ rfl (.tmp 17) (.tmp 64) rfl _ K1 HK1.out rfl rfl _ (HL.out.get 6 rfl) key0_size ?_; intro w' b1 b2 b3; (try replace HO := Lib.hid (HO.out.stored (HL.out.get 6 rfl) (by decide) b2.out)); (try replace HO2 := Lib.hid (HO2.out.stored (HL.out.get 6 rfl) (by decide) b2.out)); (try replace HOK := Lib.hid (HOK.out.stored (HL.out.get 6 rfl) (by decide) b2.out)); (try replace HO3 := Lib.hid (HO3.out.stored (HL.out.get 6 rfl) (by decide) b2.out)); (try replace HO4 := Lib.hid (HO4.out.stored (HL.out.get 6 rfl) (by decide) b2.out)); (try replace HO5 := Lib.hid (HO5.out.stored (HL.out.get 6 rfl) (by decide) b2.out)); replace HL := Lib.hid (HL.out.store 6 rfl b1 b2 b3); clear b1 b2 b3; try simp only [List.nil_append, List.cons_append, List.set_cons_zero, List.set_cons_succ] at HL) | (refine wpList_store_ratZ rfl (.tmp 18) (.tmp 65) _ (C1) (G1) (.slice a1 Z1.length c1) HC1.out rfl rfl rfl rfl _ (HL.out.get 7 rfl) (rat_old List.length_replicate) ?_; intro w' b1 b2 b3; (try replace HO := Lib.hid (HO.out.stored (HL.out.get 7 rfl) (by decide) b2.out)); (try replace HO2 := Lib.hid (HO2.out.stored (HL.out.get 7 rfl) (by decide) b2.out)); (try replace HOK := Lib.hid (HOK.out.stored (HL.out.get 7 rfl) (by decide) b2.out)); (try replace HO3 := Lib.hid (HO3.out.stored (HL.out.get 7 rfl) (by decide) b2.out)); (try replace HO4 := Lib.hid (HO4.out.stored (HL.out.get 7 rfl) (by decide) b2.out)); (try replace HO5 := Lib.hid (HO5.out.stored (HL.out.get 7 rfl) (by decide) b2.out)); replace HL := Lib.hid (HL.out.store 7 rfl b1 b2 b3); clear b1 b2 b3; try simp only [List.nil_append, List.cons_append, List.set_cons_zero, List.set_cons_succ] at HL) | (refine wpList_load_rowG (by kernel_rfl) 71 (.tmp 7) rfl _ rfl _ _ _ _ (HL.out.get 1 rfl) Tryd.underlying71 rfl (rat_info HC.out) ?_))
    refine (HNr.out _ HL.out.aft).mono ?_
    rintro r w8 ⟨v2, rfl, ho, h8⟩
    obtain ⟨a2, c2, rfl⟩ := ho.shape
    have HO3 := Lib.hid (ho.mono HL.out.aft.size)
    replace HO := Lib.hid (HO.out.aft h8)
    replace HO2 := Lib.hid (HO2.out.aft h8)
    replace HL := Lib.hid (HL.out.call h8)
    clear h8 ho HNr
    go_wp2_with (first | (refine wpList_allocO rfl 23 rfl (.cells key0 23) alloc_key ?_; intro w' aa gg zz; (try replace HO := Lib.hid (HO.out.aft aa)); (try replace HO2 := Lib.hid (HO2.out.aft aa)); (try replace HOK := Lib.hid (HOK.out.aft aa)); (try replace HO3 := Lib.hid (HO3.out.aft aa)); (try replace HO4 := Lib.hid (HO4.out.aft aa)); (try replace HO5 := Lib.hid (HO5.out.aft aa)); replace HL := Lib.hid (HL.out.alloc aa gg.out); clear aa gg zz; try simp only [List.nil_append, List.cons_append, List.set_cons_zero, List.set_cons_succ] at HL) | (refine wpList_allocO rfl 71 rfl (.cells (ratL (List.replicate 32 0) 0 (.slice none 0 0)).toArray 71) alloc_rat ?_; intro w' aa gg zz; (try replace HO := Lib.hid (HO.out.aft aa)); (try replace HO2 := Lib.hid (HO2.out.aft aa)); (try replace HOK := Lib.hid (HOK.out.aft aa)); (try replace HO3 := Lib.hid (HO3.out.aft aa)); (try replace HO4 := Lib.hid (HO4.out.aft aa)); (try replace HO5 := Lib.hid (HO5.out.aft aa)); replace HL := Lib.hid (HL.out.alloc aa gg.out); clear aa gg zz; try simp only [List.nil_append, List.cons_append, List.set_cons_zero, List.set_cons_succ] at HL) | (refine wpList_store_keyZ rfl (.tmp 20) (.tmp 70) rfl _ K1 HK1.out rfl rfl _ (HL.out.get 8 rfl) key0_size ?_; intro w' b1 b2 b3; (try replace HO := Lib.hid (HO.out.stored (HL.out.get 8 rfl) (by decide) b2.out)); (try replace HO2 := Lib.hid (HO2.out.stored (HL.out.get 8 rfl) (by decide) b2.out)); (try replace HOK := Lib.hid (HOK.out.stored (HL.out.get 8 rfl) (by decide) b2.out)); (try replace HO3 := Lib.hid (HO3.out.stored (HL.out.get 8 rfl) (by decide) b2.out)); (try replace HO4 := Lib.hid (HO4.out.stored (HL.out.get 8 rfl) (by decide) b2.out)); (try replace HO5 := Lib.hid (HO5.out.stored (HL.out.get 8 rfl) (by decide) b2.out)); replace HL := Lib.hid (HL.out.store 8 rfl b1 b2 b3); clear b1 b2 b3; try simp only [List.nil_append, List.cons_append, List.set_cons_zero, List.set_cons_succ] at HL) | (refine wpList_store_ratZ rfl (.tmp 21) (.tmp 71) _ (C1) (G1) (.slice a2 Z1.length c2) HC1.out rfl rfl rfl rfl _ (HL.out.get 9 rfl) (rat_old List.length_replicate) ?_; intro w' b1 b2 b3; (try replace HO := Lib.hid (HO.out.stored (HL.out.get 9 rfl) (by decide) b2.out)); (try replace HO2 := Lib.hid (HO2.out.stored (HL.out.get 9 rfl) (by decide) b2.out)); (try replace HOK := Lib.hid (HOK.out.stored (HL.out.get 9 rfl) (by decide) b2.out)); (try replace HO3 := Lib.hid (HO3.out.stored (HL.out.get 9 rfl) (by decide) b2.out)); (try replace HO4 := Lib.hid (HO4.out.stored (HL.out.get 9 rfl) (by decide) b2.out)); (try replace HO5 := Lib.hid (HO5.out.stored (HL.out.get 9 rfl) (by decide) b2.out)); replace HL := Lib.hid (HL.out.store 9 rfl b1 b2 b3); clear b1 b2 b3; try simp only [List.nil_append, List.cons_append, List.set_cons_zero, List.set_cons_succ] at HL) | (refine wpList_load_rowG (by kernel_rfl) 71 (.tmp 7) rfl _ rfl _ _ _ _ (HL.out.get 1 rfl) Tryd.underlying71 rfl (rat_info HC.out) ?_))
    obtain ⟨bT, hbT⟩ : ∃ n, n = w'.heap.size := ⟨_, rfl⟩
    refine (HTk.out _ HL.out.aft).mono ?_
    rintro r w9 ⟨a3, c3, rfl, ho, h9⟩
    rw [← hbT] at ho
    have HWb := Lib.hid (show w.heap.size ≤ bT from by rw [hbT]; exact HL.out.aft.size)
    have HWo := Lib.hid (fun g hg => show g < bT from by rw [hbT]; exact (HO.out.lt g hg).2)
    clear hbT
    have HO4 := Lib.hid ho
    replace HO := Lib.hid (HO.out.aft h9)
    replace HO2 := Lib.hid (HO2.out.aft h9)
    replace HO3 := Lib.hid (HO3.out.aft h9)
    replace HL := Lib.hid (HL.out.call h9)
    clear h9 ho HTk
    go_wp2_with (first | (refine wpList_allocO rfl 23 rfl (.cells key0 23) alloc_key ?_; intro wz9 aa gg zz; (try replace HO := Lib.hid (HO.out.aft aa)); (try replace HO2 := Lib.hid (HO2.out.aft aa)); (try replace HOK := Lib.hid (HOK.out.aft aa)); (try replace HO3 := Lib.hid (HO3.out.aft aa)); (try replace HO4 := Lib.hid (HO4.out.aft aa)); (try replace HO5 := Lib.hid (HO5.out.aft aa)); replace HL := Lib.hid (HL.out.alloc aa gg.out); clear aa gg zz; try simp only [List.nil_append, List.cons_append, List.set_cons_zero, List.set_cons_succ] at HL) | (refine wpList_allocO rfl 71 rfl (.cells (ratL (List.replicate 32 0) 0 (.slice none 0 0)).toArray 71) alloc_rat ?_; intro w' aa gg zz; (try replace HO := Lib.hid (HO.out.aft aa)); (try replace HO2 := Lib.hid (HO2.out.aft aa)); (try replace HOK := Lib.hid (HOK.out.aft aa)); (try replace HO3 := Lib.hid (HO3.out.aft aa)); (try replace HO4 := Lib.hid (HO4.out.aft aa)); (try replace HO5 := Lib.hid (HO5.out.aft aa)); replace HL := Lib.hid (HL.out.alloc aa gg.out); clear aa gg zz; try simp only [List.nil_append, List.cons_append, List.set_cons_zero, List.set_cons_succ] at HL) | (refine wpList_store_keyZ rfl (.tmp 23) (.tmp 77) rfl _ K2 HK2.out rfl rfl _ (HL.out.get 10 rfl) key0_size ?_; intro w' b1 b2 b3; (try replace HO := Lib.hid (HO.out.stored (HL.out.get 10 rfl) (by decide) b2.out)); (try replace HO2 := Lib.hid (HO2.out.stored (HL.out.get 10 rfl) (by decide) b2.out)); (try replace HOK := Lib.hid (HOK.out.stored (HL.out.get 10 rfl) (by decide) b2.out)); (try replace HO3 := Lib.hid (HO3.out.stored (HL.out.get 10 rfl) (by decide) b2.out)); (try replace HO4 := Lib.hid (HO4.out.stored (HL.out.get 10 rfl) (by decide) b2.out)); (try replace HO5 := Lib.hid (HO5.out.stored (HL.out.get 10 rfl) (by decide) b2.out)); replace HL := Lib.hid (HL.out.store 10 rfl b1 b2 b3); clear b1 b2 b3; try simp only [List.nil_append, List.cons_append, List.set_cons_zero, List.set_cons_succ] at HL) | (refine wpList_store_ratZ rfl (.tmp 24) (.tmp 78) _ (C2) (G2) (.slice a3 Z2.length c3) HC2.out rfl rfl rfl rfl _ (HL.out.get 11 rfl) (rat_old List.length_replicate) ?_; intro w' b1 b2 b3; (try replace HO := Lib.hid (HO.out.stored (HL.out.get 11 rfl) (by decide) b2.out)); (try replace HO2 := Lib.hid (HO2.out.stored (HL.out.get 11 rfl) (by decide) b2.out)); (try replace HOK := Lib.hid (HOK.out.stored (HL.out.get 11 rfl) (by decide) b2.out)); (try replace HO3 := Lib.hid (HO3.out.stored (HL.out.get 11 rfl) (by decide) b2.out)); (try replace HO4 := Lib.hid (HO4.out.stored (HL.out.get 11 rfl) (by decide) b2.out)); (try replace HO5 := Lib.hid (HO5.out.stored (HL.out.get 11 rfl) (by decide) b2.out)); replace HL := Lib.hid (HL.out.store 11 rfl b1 b2 b3); clear b1 b2 b3; try simp only [List.nil_append, List.cons_append, List.set_cons_zero, List.set_cons_succ] at HL) | (refine wpList_load_rowG (by kernel_rfl) 71 (.tmp 7) rfl _ rfl _ _ _ _ (HL.out.get 1 rfl) Tryd.underlying71 rfl (rat_info HC.out) ?_))
    refine (HTr.out _ HL.out.aft).mono ?_
    rintro r w10 ⟨a4, c4, rfl, ho, h10⟩
    have HO5 := Lib.hid (ho.mono HL.out.aft.size)
    replace HO := Lib.hid (HO.out.aft h10)
    replace HO2 := Lib.hid (HO2.out.aft h10)
    replace HO3 := Lib.hid (HO3.out.aft h10)
    replace HO4 := Lib.hid (HO4.out.aft h10)
    replace HL := Lib.hid (HL.out.call h10)
    clear h10 ho HTr
    go_wp2_with (first | (refine wpList_allocO rfl 23 rfl (.cells key0 23) alloc_key ?_; intro w' aa gg zz; (try replace HO := Lib.hid (HO.out.aft aa)); (try replace HO2 := Lib.hid (HO2.out.aft aa)); (try replace HOK := Lib.hid (HOK.out.aft aa)); (try replace HO3 := Lib.hid (HO3.out.aft aa)); (try replace HO4 := Lib.hid (HO4.out.aft aa)); (try replace HO5 := Lib.hid (HO5.out.aft aa)); replace HL := Lib.hid (HL.out.alloc aa gg.out); clear aa gg zz; try simp only [List.nil_append, List.cons_append, List.set_cons_zero, List.set_cons_succ] at HL) | (refine wpList_allocO rfl 71 rfl (.cells (ratL (List.replicate 32 0) 0 (.slice none 0 0)).toArray 71) alloc_rat ?_; intro w' aa gg zz; (try replace HO := Lib.hid (HO.out.aft aa)); (try replace HO2 := Lib.hid (HO2.out.aft aa)); (try replace HOK := Lib.hid (HOK.out.aft aa)); (try replace HO3 := Lib.hid (HO3.out.aft aa)); (try replace HO4 := Lib.hid (HO4.out.aft aa)); (try replace HO5 := Lib.hid (HO5.out.aft aa)); replace HL := Lib.hid (HL.out.alloc aa gg.out); clear aa gg zz; try simp only [List.nil_append, List.cons_append, List.set_cons_zero, List.set_cons_succ] at HL) | (refine wpList_store_keyZ rfl (.tmp 26) (.tmp 84) rfl _ K2 HK2.out rfl rfl _ (HL.out.get 12 rfl) key0_size ?_; intro w' b1 b2 b3; (try replace HO := Lib.hid (HO.out.stored (HL.out.get 12 rfl) (by decide) b2.out)); (try replace HO2 := Lib.hid (HO2.out.stored (HL.out.get 12 rfl) (by decide) b2.out)); (try replace HOK := Lib.hid (HOK.out.stored (HL.out.get 12 rfl) (by decide) b2.out)); (try replace HO3 := Lib.hid (HO3.out.stored (HL.out.get 12 rfl) (by decide) b2.out)); (try replace HO4 := Lib.hid (HO4.out.stored (HL.out.get 12 rfl) (by decide) b2.out)); (try replace HO5 := Lib.hid (HO5.out.stored (HL.out.get 12 rfl) (by decide) b2.out)); replace HL := Lib.hid (HL.out.store 12 rfl b1 b2 b3); clear b1 b2 b3; try simp only [List.nil_append, List.cons_append, List.set_cons_zero, List.set_cons_succ] at HL) | (refine wpList_store_ratZ rfl (.tmp 27) (.tmp 85) _ (C2) (G2) (.slice a4 Z2.length c4) HC2.out rfl rfl rfl rfl _ (HL.out.get 13 rfl) (rat_old List.length_replicate) ?_; intro w' b1 b2 b3; (try replace HO := Lib.hid (HO.out.stored (HL.out.get 13 rfl) (by decide) b2.out)); (try replace HO2 := Lib.hid (HO2.out.stored (HL.out.get 13 rfl) (by decide) b2.out)); (try replace HOK := Lib.hid (HOK.out.stored (HL.out.get 13 rfl) (by decide) b2.out)); (try replace HO3 := Lib.hid (HO3.out.stored (HL.out.get 13 rfl) (by decide) b2.out)); (try replace HO4 := Lib.hid (HO4.out.stored (HL.out.get 13 rfl) (by decide) b2.out)); (try replace HO5 := Lib.hid (HO5.out.stored (HL.out.get 13 rfl) (by decide) b2.out)); replace HL := Lib.hid (HL.out.store 13 rfl b1 b2 b3); clear b1 b2 b3; try simp only [List.nil_append, List.cons_append, List.set_cons_zero, List.set_cons_succ] at HL) | (refine wpList_load_rowG (by kernel_rfl) 71 (.tmp 7) rfl _ rfl _ _ _ _ (HL.out.get 1 rfl) Tryd.underlying71 rfl (rat_info HC.out) ?_))
    refine (HAh.out _ HL.out.aft).mono ?_
    rintro r w11 ⟨rfl, h11⟩
    (try replace HO := Lib.hid (HO.out.aft h11)); (try replace HO2 := Lib.hid (HO2.out.aft h11)); (try replace HOK := Lib.hid (HOK.out.aft h11)); (try replace HO3 := Lib.hid (HO3.out.aft h11)); (try replace HO4 := Lib.hid (HO4.out.aft h11)); (try replace HO5 := Lib.hid (HO5.out.aft h11)); replace HL := Lib.hid (HL.out.call h11)
    clear h11 HAh
    go_wp2_with (first | (refine wpList_load_rowG (by kernel_rfl) 71 (.tmp 7) rfl _ rfl _ _ _ _ (HL.out.get 1 rfl) Tryd.underlying71 rfl (rat_info HC.out) ?_))
    refine (HAr.out _ HL.out.aft).mono ?_
    rintro r w12 ⟨rfl, h12⟩
    (try replace HO := Lib.hid (HO.out.aft h12)); (try replace HO2 := Lib.hid (HO2.out.aft h12)); (try replace HOK := Lib.hid (HOK.out.aft h12)); (try replace HO3 := Lib.hid (HO3.out.aft h12)); (try replace HO4 := Lib.hid (HO4.out.aft h12)); (try replace HO5 := Lib.hid (HO5.out.aft h12)); replace HL := Lib.hid (HL.out.call h12)
    clear h12 HAr
    go_wp2_with (first | (refine wp_region_lex (fun wz => ∃ u : Later w12.heap.size w12, wz = u.w) (fun i => ([2, 16, 31, 50, 52, 58, 61] : List Nat).contains i) 64 (by kernel_rfl) (by kernel_rfl) ⟨⟨w12.drew, (Below.refl _ _).drew⟩, rfl⟩ ?_))
    change wpLx _ _ _ _ _ _ _ _ _ w12.drew
    have HD := Lib.hid (show Aft w12 w12.drew from (Below.refl _ _).drew)
    have HSa := Lib.hid (fun (wx : World) (h : Aft w12 wx) => rsameRef_any A A 0 0 (.slice none 0 0) (.slice none 0 0) [] [] wx HA.out HA.out (.inl ⟨rfl, rfl⟩) (.inl ⟨rfl, rfl⟩) (by simp) (by simp))
    rw [decide_eq_true (⟨rfl, rfl, rfl⟩ : A = A ∧ 0 = 0 ∧ ([] : List Sk) = [])] at HSa
    have HSx := Lib.hid (fun (wx : World) (h : Aft w12 wx) => rsameRef_any C1 C1 G1 G1 (.slice a1 Z1.length c1) (.slice a2 Z1.length c2) Z1 Z1 wx HC1.out HC1.out (HO2.out.aft h).sks (HO3.out.aft h).sks (Nat.le_trans HZ1.out HZl.out.1) (Nat.le_trans HZ1.out HZl.out.1))
    rw [decide_eq_true (⟨rfl, rfl, rfl⟩ : C1 = C1 ∧ G1 = G1 ∧ Z1 = Z1)] at HSx
    have HZ3 : Z2.length ≤ 1048576 := by have := HZ2.out; have := HZk.out; omega
    have HSz := Lib.hid (fun (wx : World) (h : Aft w12 wx) => rsameRef_any C2 C2 G2 G2 (.slice a3 Z2.length c3) (.slice a4 Z2.length c4) Z2 Z2 wx HC2.out HC2.out (HO4.out.aft h).sks (HO5.out.aft h).sks HZ3 HZ3)
    rw [decide_eq_true (⟨rfl, rfl, rfl⟩ : C2 = C2 ∧ G2 = G2 ∧ Z2 = Z2)] at HSz
    have HCk := Lib.hid (fun (wx : World) (h : Aft w12 wx) => HCk0.out wx (Aft.trans HL.out.aft h))
    have HCr := Lib.hid (fun (wx : World) (h : Aft w12 wx) => HCr0.out wx (Aft.trans HL.out.aft h))
    have HSo := Lib.hid (fun (wx : World) (h : Aft w12 wx) => HSo0.out wx (Aft.trans HL.out.aft h))
    have HSp := Lib.hid (fun (wx : World) (h : Aft w12 wx) => HSp0.out wx (Aft.trans HL.out.aft h))
    clear HCk0 HCr0 HSo0 HSp0
    generalize w12.drew = wd at *
    dsimp only [List.append]
    try simp only [Act.put]
    refine lx_load_agg rfl (by kernel_rfl) 71 (.tmp 13) rfl ⟨_, 0, none⟩ rfl (ratL A 0 (.slice none 0 0)).toArray (fun wz h => by obtain ⟨u, rfl⟩ := h; exact run_loadVar_row _ _ _ _ _ _ _ (Aft.get u.h (HL.out.get 4 rfl)) Tryd.underlying71 rfl (rat_info HA.out)) ?_
    simp only [Act.put, List.setIfInBounds_toArray, List.set_cons_succ, List.set_cons_zero]
    refine lx_load_agg rfl (by kernel_rfl) 71 (.tmp 15) rfl ⟨_, 0, none⟩ rfl (ratL A 0 (.slice none 0 0)).toArray (fun wz h => by obtain ⟨u, rfl⟩ := h; exact run_loadVar_row _ _ _ _ _ _ _ (Aft.get u.h (HL.out.get 5 rfl)) Tryd.underlying71 rfl (rat_info HA.out)) ?_
    simp only [Act.put, List.setIfInBounds_toArray, List.set_cons_succ, List.set_cons_zero]
    refine lx_effT rfl (by go_big_quiet_want; exact quiet_false (by assumption)) (by kernel_rfl) ?_; intro Kx hKx; go_wp2_with fail
    refine ((HSa).out _ HD.out).mono ?_
    rintro r x1 ⟨rfl, h1⟩
    go_wp2_with fail
    refine ⟨Later.on (Aft.trans HD.out h1), ?_⟩
    replace HD := Lib.hid (Aft.trans HD.out h1)
    clear h1
    repeat (first | (refine lx_skipT (by go_big_quiet_skip; exact wpQuiet_nil trivial) (by kernel_rfl) ?_; simp only [Act.put, List.setIfInBounds_toArray, List.set_cons_succ, List.set_cons_zero]) | (refine lx_quietT rfl (by go_big_quiet_want; exact quiet_false (by assumption)) (by kernel_rfl) rfl ?_; intro Kx hKx; go_big_quiet_op; go_big_quiet_on))
    refine lx_load_agg rfl (by kernel_rfl) 23 (.tmp 17) rfl ⟨_, 0, none⟩ rfl (bv K1).toArray (fun wz h => by obtain ⟨u, rfl⟩ := h; exact run_loadVar_row _ _ _ _ _ _ _ (Aft.get u.h (HL.out.get 6 rfl)) Tryd.underlying23 rfl (key_info HK1.out)) ?_
    simp only [Act.put, List.setIfInBounds_toArray, List.set_cons_succ, List.set_cons_zero]
    refine lx_load_agg rfl (by kernel_rfl) 23 (.tmp 20) rfl ⟨_, 0, none⟩ rfl (bv K1).toArray (fun wz h => by obtain ⟨u, rfl⟩ := h; exact run_loadVar_row _ _ _ _ _ _ _ (Aft.get u.h (HL.out.get 8 rfl)) Tryd.underlying23 rfl (key_info HK1.out)) ?_
    simp only [Act.put, List.setIfInBounds_toArray, List.set_cons_succ, List.set_cons_zero]
    refine lx_bin rfl (by kernel_rfl) .eql 23 23 (.tmp 108) (.tmp 109) rfl (.agg (bv K1).toArray) (.agg (bv K1).toArray) (.bool true) rfl rfl (fun w1 => run_eql_key K1 HK1.out w1) (fun w1 => guard_key _ _ _ _ _ _) ?_
    simp only [Act.put, List.setIfInBounds_toArray, List.set_cons_succ, List.set_cons_zero]
    repeat (first | (refine lx_skipT (by go_big_quiet_skip; exact wpQuiet_nil trivial) (by kernel_rfl) ?_; simp only [Act.put, List.setIfInBounds_toArray, List.set_cons_succ, List.set_cons_zero]) | (refine lx_quietT rfl (by go_big_quiet_want; exact quiet_false (by assumption)) (by kernel_rfl) rfl ?_; intro Kx hKx; go_big_quiet_op; go_big_quiet_on))
    refine lx_load_agg rfl (by kernel_rfl) 71 (.tmp 18) rfl ⟨_, 0, none⟩ rfl (ratL C1 G1 (.slice a1 Z1.length c1)).toArray (fun wz h => by obtain ⟨u, rfl⟩ := h; exact run_loadVar_row _ _ _ _ _ _ _ (Aft.get u.h (HL.out.get 7 rfl)) Tryd.underlying71 rfl (rat_info HC1.out)) ?_
    simp only [Act.put, List.setIfInBounds_toArray, List.set_cons_succ, List.set_cons_zero]
    refine lx_load_agg rfl (by kernel_rfl) 71 (.tmp 21) rfl ⟨_, 0, none⟩ rfl (ratL C1 G1 (.slice a2 Z1.length c2)).toArray (fun wz h => by obtain ⟨u, rfl⟩ := h; exact run_loadVar_row _ _ _ _ _ _ _ (Aft.get u.h (HL.out.get 9 rfl)) Tryd.underlying71 rfl (rat_info HC1.out)) ?_
    simp only [Act.put, List.setIfInBounds_toArray, List.set_cons_succ, List.set_cons_zero]
    refine lx_effT rfl (by go_big_quiet_want; exact quiet_false (by assumption)) (by kernel_rfl) ?_; intro Kx hKx; go_wp2_with fail
    refine ((HSx).out _ HD.out).mono ?_
    rintro r x2 ⟨rfl, h2⟩
    go_wp2_with fail
    refine ⟨Later.on (Aft.trans HD.out h2), ?_⟩
    replace HD := Lib.hid (Aft.trans HD.out h2)
    clear h2
    repeat (first | (refine lx_skipT (by go_big_quiet_skip; exact wpQuiet_nil trivial) (by kernel_rfl) ?_; simp only [Act.put, List.setIfInBounds_toArray, List.set_cons_succ, List.set_cons_zero]) | (refine lx_quietT rfl (by go_big_quiet_want; exact quiet_false (by assumption)) (by kernel_rfl) rfl ?_; intro Kx hKx; go_big_quiet_op; go_big_quiet_on))
    refine lx_load_agg rfl (by kernel_rfl) 23 (.tmp 23) rfl ⟨_, 0, none⟩ rfl (bv K2).toArray (fun wz h => by obtain ⟨u, rfl⟩ := h; exact run_loadVar_row _ _ _ _ _ _ _ (Aft.get u.h (HL.out.get 10 rfl)) Tryd.underlying23 rfl (key_info HK2.out)) ?_
    simp only [Act.put, List.setIfInBounds_toArray, List.set_cons_succ, List.set_cons_zero]
    refine lx_load_agg rfl (by kernel_rfl) 23 (.tmp 26) rfl ⟨_, 0, none⟩ rfl (bv K2).toArray (fun wz h => by obtain ⟨u, rfl⟩ := h; exact run_loadVar_row _ _ _ _ _ _ _ (Aft.get u.h (HL.out.get 12 rfl)) Tryd.underlying23 rfl (key_info HK2.out)) ?_
    simp only [Act.put, List.setIfInBounds_toArray, List.set_cons_succ, List.set_cons_zero]
    refine lx_bin rfl (by kernel_rfl) .eql 23 23 (.tmp 123) (.tmp 124) rfl (.agg (bv K2).toArray) (.agg (bv K2).toArray) (.bool true) rfl rfl (fun w1 => run_eql_key K2 HK2.out w1) (fun w1 => guard_key _ _ _ _ _ _) ?_
    simp only [Act.put, List.setIfInBounds_toArray, List.set_cons_succ, List.set_cons_zero]
    repeat (first | (refine lx_skipT (by go_big_quiet_skip; exact wpQuiet_nil trivial) (by kernel_rfl) ?_; simp only [Act.put, List.setIfInBounds_toArray, List.set_cons_succ, List.set_cons_zero]) | (refine lx_quietT rfl (by go_big_quiet_want; exact quiet_false (by assumption)) (by kernel_rfl) rfl ?_; intro Kx hKx; go_big_quiet_op; go_big_quiet_on))
    refine lx_load_agg rfl (by kernel_rfl) 71 (.tmp 24) rfl ⟨_, 0, none⟩ rfl (ratL C2 G2 (.slice a3 Z2.length c3)).toArray (fun wz h => by obtain ⟨u, rfl⟩ := h; exact run_loadVar_row _ _ _ _ _ _ _ (Aft.get u.h (HL.out.get 11 rfl)) Tryd.underlying71 rfl (rat_info HC2.out)) ?_
    simp only [Act.put, List.setIfInBounds_toArray, List.set_cons_succ, List.set_cons_zero]
    refine lx_load_agg rfl (by kernel_rfl) 71 (.tmp 27) rfl ⟨_, 0, none⟩ rfl (ratL C2 G2 (.slice a4 Z2.length c4)).toArray (fun wz h => by obtain ⟨u, rfl⟩ := h; exact run_loadVar_row _ _ _ _ _ _ _ (Aft.get u.h (HL.out.get 13 rfl)) Tryd.underlying71 rfl (rat_info HC2.out)) ?_
    simp only [Act.put, List.setIfInBounds_toArray, List.set_cons_succ, List.set_cons_zero]
    refine lx_effT rfl (by go_big_quiet_want; exact quiet_false (by assumption)) (by kernel_rfl) ?_; intro Kx hKx; go_wp2_with fail
    refine ((HSz).out _ HD.out).mono ?_
    rintro r x3 ⟨rfl, h3⟩
    go_wp2_with fail
    refine ⟨Later.on (Aft.trans HD.out h3), ?_⟩
    replace HD := Lib.hid (Aft.trans HD.out h3)
    clear h3
    repeat (first | (refine lx_skipT (by go_big_quiet_skip; exact wpQuiet_nil trivial) (by kernel_rfl) ?_; simp only [Act.put, List.setIfInBounds_toArray, List.set_cons_succ, List.set_cons_zero]) | (refine lx_quietT rfl (by go_big_quiet_want; exact quiet_false (by assumption)) (by kernel_rfl) rfl ?_; intro Kx hKx; go_big_quiet_op; go_big_quiet_on))
    refine lx_load_agg rfl (by kernel_rfl) 71 (.tmp 7) rfl ⟨_, 0, none⟩ rfl (ratL C G (.slice a zs.length cap)).toArray (fun wz h => by obtain ⟨u, rfl⟩ := h; exact run_loadVar_row _ _ _ _ _ _ _ (Aft.get u.h (HL.out.get 1 rfl)) Tryd.underlying71 rfl (rat_info HC.out)) ?_
    simp only [Act.put, List.setIfInBounds_toArray, List.set_cons_succ, List.set_cons_zero]
    refine lx_effT rfl (by go_big_quiet_want; exact quiet_false (by assumption)) (by kernel_rfl) ?_; intro Kx hKx; go_wp2_with fail
    refine ((HCk).out _ HD.out).mono ?_
    rintro r x4 ⟨rfl, h4⟩
    go_wp2_with fail
    refine ⟨Later.on (Aft.trans HD.out h4), ?_⟩
    replace HD := Lib.hid (Aft.trans HD.out h4)
    clear h4
    refine lx_load_agg rfl (by kernel_rfl) 71 (.tmp 7) rfl ⟨_, 0, none⟩ rfl (ratL C G (.slice a zs.length cap)).toArray (fun wz h => by obtain ⟨u, rfl⟩ := h; exact run_loadVar_row _ _ _ _ _ _ _ (Aft.get u.h (HL.out.get 1 rfl)) Tryd.underlying71 rfl (rat_info HC.out)) ?_
    simp only [Act.put, List.setIfInBounds_toArray, List.set_cons_succ, List.set_cons_zero]
    refine lx_effT rfl (by go_big_quiet_want; exact quiet_false (by assumption)) (by kernel_rfl) ?_; intro Kx hKx; go_wp2_with fail
    refine ((HCr).out _ HD.out).mono ?_
    rintro r x5 ⟨rfl, h5⟩
    go_wp2_with fail
    refine ⟨Later.on (Aft.trans HD.out h5), ?_⟩
    replace HD := Lib.hid (Aft.trans HD.out h5)
    clear h5
    repeat (first | (refine lx_skipT (by go_big_quiet_skip; exact wpQuiet_nil trivial) (by kernel_rfl) ?_; simp only [Act.put, List.setIfInBounds_toArray, List.set_cons_succ, List.set_cons_zero]) | (refine lx_quietT rfl (by go_big_quiet_want; exact quiet_false (by assumption)) (by kernel_rfl) rfl ?_; intro Kx hKx; go_big_quiet_op; go_big_quiet_on))
    refine lx_load_agg rfl (by kernel_rfl) 71 (.tmp 7) rfl ⟨_, 0, none⟩ rfl (ratL C G (.slice a zs.length cap)).toArray (fun wz h => by obtain ⟨u, rfl⟩ := h; exact run_loadVar_row _ _ _ _ _ _ _ (Aft.get u.h (HL.out.get 1 rfl)) Tryd.underlying71 rfl (rat_info HC.out)) ?_
    simp only [Act.put, List.setIfInBounds_toArray, List.set_cons_succ, List.set_cons_zero]
    refine lx_load_agg rfl (by kernel_rfl) 71 (.tmp 8) rfl ⟨_, 0, none⟩ rfl (ratL D H (.slice b ys.length d)).toArray (fun wz h => by obtain ⟨u, rfl⟩ := h; exact run_loadVar_row _ _ _ _ _ _ _ (Aft.get u.h (HL.out.get 2 rfl)) Tryd.underlying71 rfl (rat_info HD0.out)) ?_
    simp only [Act.put, List.setIfInBounds_toArray, List.set_cons_succ, List.set_cons_zero]
    refine lx_effT rfl (by go_big_quiet_want; exact quiet_false (by assumption)) (by kernel_rfl) ?_; intro Kx hKx; go_wp2_with fail
    refine ((HSo).out _ HD.out).mono ?_
    rintro r x6 ⟨rfl, h6⟩
    go_wp2_with fail
    refine ⟨Later.on (Aft.trans HD.out h6), ?_⟩
    replace HD := Lib.hid (Aft.trans HD.out h6)
    clear h6
    refine lx_load_agg rfl (by kernel_rfl) 71 (.tmp 7) rfl ⟨_, 0, none⟩ rfl (ratL C G (.slice a zs.length cap)).toArray (fun wz h => by obtain ⟨u, rfl⟩ := h; exact run_loadVar_row _ _ _ _ _ _ _ (Aft.get u.h (HL.out.get 1 rfl)) Tryd.underlying71 rfl (rat_info HC.out)) ?_
    simp only [Act.put, List.setIfInBounds_toArray, List.set_cons_succ, List.set_cons_zero]
    refine lx_load_agg rfl (by kernel_rfl) 71 (.tmp 8) rfl ⟨_, 0, none⟩ rfl (ratL D H (.slice b ys.length d)).toArray (fun wz h => by obtain ⟨u, rfl⟩ := h; exact run_loadVar_row _ _ _ _ _ _ _ (Aft.get u.h (HL.out.get 2 rfl)) Tryd.underlying71 rfl (rat_info HD0.out)) ?_
    simp only [Act.put, List.setIfInBounds_toArray, List.set_cons_succ, List.set_cons_zero]
    refine lx_effT rfl (by go_big_quiet_want; exact quiet_false (by assumption)) (by kernel_rfl) ?_; intro Kx hKx; go_wp2_with fail
    refine ((HSp).out _ HD.out).mono ?_
    rintro r x7 ⟨rfl, h7⟩
    go_wp2_with fail
    refine ⟨Later.on (Aft.trans HD.out h7), ?_⟩
    replace HD := Lib.hid (Aft.trans HD.out h7)
    clear h7
    repeat (first | (refine lx_skipT (by go_big_quiet_skip; exact wpQuiet_nil trivial) (by kernel_rfl) ?_; simp only [Act.put, List.setIfInBounds_toArray, List.set_cons_succ, List.set_cons_zero]) | (refine lx_quietT rfl (by go_big_quiet_want; exact quiet_false (by assumption)) (by kernel_rfl) rfl ?_; intro Kx hKx; go_big_quiet_op; go_big_quiet_on))
    refine lx_done ?_
    replace HO := Lib.hid (HO.out.aft HD.out)
    replace HO4 := Lib.hid (HO4.out.aft HD.out)
    replace HL := Lib.hid (HL.out.call HD.out)
    replace HL := Lib.hid (((((((((((HL.out.skip 13).skip 12).skip 10).skip 9).skip 8).skip 7).skip 6).skip 5).skip 4).skip 2).skip 0)
    try simp only [List.eraseIdx_cons_zero, List.eraseIdx_cons_succ] at HL
    have hl := rat_l (HL.out.get 2 rfl) HC2.out
    clear HO2 HO3 HO5 HSa HSx HSz HCk HCr HSo HSp HD
    go_wp2_with fail
    clear hl
    go_loopw [166] (fun v166 wr => ∃ (i : Nat) (Zx : List Sk), i ≤ Z2.length ∧ v166 = .int .i64 (i : Int) ∧ Zx.length = Z2.length ∧ OwnS wr bT (.slice a3 Z2.length c3) Zx ∧ OwnS wr w.heap.size (.slice aw zs.length cw) zs ∧ Led w wr [(wB0.heap.size, .cells (ratL C G (.slice a zs.length cap)).toArray 71), (w4.heap.size, .cells (ratL C G (.slice aw zs.length cw)).toArray 71), (wz9.heap.size, .cells (ratL C2 G2 (.slice a3 Z2.length c3)).toArray 71)]) (fun v _ => Z2.length - (intOf v).toNat)
    case atStart => exact ⟨0, Z2, by omega, rfl, rfl, HO4.out, HO.out, HL.out⟩
    case round =>
      clear HL HO HO4
      obtain ⟨i, Zx, hi, rfl, hzl, hO4, hO, hL⟩ := hrel
      have HL := Lib.hid hL
      have HO := Lib.hid hO
      have HO4 := Lib.hid hO4
      have HZx := Lib.hid hzl
      clear hL hO hO4
      by_cases hlt : i < Z2.length
      · have hlt' : (i : Int) < (Z2.length : Nat) := by omega
        rcases HO4.out.2 with ⟨he, hn⟩ | ⟨g3, cap3, cur, he, hb3, hg3, -⟩
        · exact absurd hlt (by omega)
        injection he with he1 he2 he3
        subst he1 he3
        have hgen := HO4.out.gen i (by omega)
        have hl := rat_l (HL.out.get 2 rfl) HC2.out
        generalize (Zx[i]?.getD default).1.1 = n at hgen
        obtain ⟨m, hm, hw⟩ := inc_u64 n
        have Hm := Lib.hid hm
        have HG3 := Lib.hid hg3
        have HB3 := Lib.hid hb3
        clear hm hg3 hb3 he2 hzl
        go_wp2_with (first | (refine wpList_store_gen rfl (.tmp 177) (.tmp 175) rfl bT g3 c3 _ Zx i (by have := HZx.out; omega) HO4.out m Hm.out rfl rfl ?_; intro wn Zn e1 e2 e3 e4; replace HO := Lib.hid (HO.out.keep (fun g hg => e3.out g (by have := HWo.out g hg; have := HB3.out; omega))); replace HL := Lib.hid (HL.out.other HG3.out (by have := HB3.out; have := HWb.out; omega) e3.out e4 rfl); have HO4n := Lib.hid e2; have HZn := Lib.hid (e1.trans HZx.out); clear e1 e2 e3 e4))
        go_roundw
        case rel => exact ⟨i + 1, Zn, by omega, by go_num, HZn.out, HO4n.out, HO.out, HL.out⟩
        case measure => simp [intOf]; omega
      · obtain rfl : i = Z2.length := by omega
        have hlt' : ¬ ((Z2.length : Nat) : Int) < (Z2.length : Nat) := by omega
        clear hlt
        go_wp2_with (first | (refine wpList_load_rowG (by kernel_rfl) 71 (.tmp 7) rfl _ rfl _ _ _ _ (HL.out.get 0 rfl) Tryd.underlying71 rfl (rat_info HC.out) ?_) | (refine wpList_load_rowG (by kernel_rfl) 71 (.tmp 12) rfl _ rfl _ _ _ _ (HL.out.get 1 rfl) Tryd.underlying71 rfl (rat_info HC.out) ?_))
        refine (HSw.out _ HL.out.aft _ HO.out.sks).mono ?_
        rintro r w13 ⟨rfl, h13⟩
        replace HL := Lib.hid (HL.out.call h13)
        clear h13
        go_wp2_with fail
        go_ret
        exact ⟨by simp, HL.out.aft⟩
end Go.Proofs.YtanodhagpegbfaaDoor
