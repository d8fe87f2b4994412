/- The document's ratchet: Take. -/
import Derived.Test.YtanodhagpegbfaaDoorRatRefNext
import Derived.Test.YtanodhagpegbfaaDoorRTake
namespace Go.Proofs.YtanodhagpegbfaaDoor
open Go Go.RowKit
set_option linter.unusedSimpArgs false

/-- What a look at all of them, one by one, finds. -/
def flS (t : Nat) (zs : List Sk) : List Sk := zs.filter fun x => !(x.1.1 == t)
def lkS (t : Nat) (zs : List Sk) : List (BitVec 8) := zs.foldl (fun k x => if x.1.1 = t then x.1.2 else k) (List.replicate 32 0)
def hsS (t : Nat) (zs : List Sk) : Bool := zs.any fun x => x.1.1 == t
theorem flS_snoc (t : Nat) (zs : List Sk) (x : Sk) : flS t (zs ++ [x]) = flS t zs ++ (if x.1.1 = t then [] else [x]) := by
  unfold flS
  rw [List.filter_append, List.filter_cons]
  by_cases h : x.1.1 = t
  · simp [h]
  · simp [h]
theorem lkS_snoc (t : Nat) (zs : List Sk) (x : Sk) : lkS t (zs ++ [x]) = if x.1.1 = t then x.1.2 else lkS t zs := by simp [lkS]
theorem hsS_snoc (t : Nat) (zs : List Sk) (x : Sk) : hsS t (zs ++ [x]) = (hsS t zs || decide (x.1.1 = t)) := by
  unfold hsS
  rw [List.any_append, List.any_cons, List.any_nil, Bool.or_false]
  congr 1
theorem flS_length (t : Nat) (zs : List Sk) : (flS t zs).length ≤ zs.length := List.length_filter_le _ _
theorem lkS_length (t : Nat) : ∀ zs : List Sk, (lkS t zs).length = 32 := by
  intro zs
  unfold lkS
  have : ∀ (l : List Sk) (k : List (BitVec 8)), k.length = 32 → (l.foldl (fun k x => if x.1.1 = t then x.1.2 else k) k).length = 32 := by
    intro l
    induction l with
    | nil => intro k hk; exact hk
    | cons x l ih =>
      intro k hk
      rw [List.foldl_cons]
      refine ih _ ?_
      split
      · exact x.2.2
      · exact hk
  exact this zs _ List.length_replicate
theorem take_next (zs : List Sk) (i : Nat) (h : i < zs.length) : zs.take (i + 1) = zs.take i ++ [zs[i]?.getD default] := by
  rw [List.take_succ_eq_append_getElem h, List.getElem?_eq_getElem h]
  rfl
theorem okF_tail {G : Nat} {z : Sk} {zs : List Sk} (h : okF G (z :: zs)) : okF G zs := fun i hi => by
  obtain ⟨k1, k2⟩ := h (i + 1) (by simpa using hi)
  refine ⟨by simpa using k1, fun h0 => ?_⟩
  obtain ⟨i, rfl⟩ : ∃ m, i = m + 1 := ⟨i - 1, by omega⟩
  simpa using k2 (by omega)
theorem okF_head {G : Nat} {z : Sk} {zs : List Sk} (h : okF G (z :: zs)) : ∀ j, j < zs.length → z.1.1 < (zs[j]?.getD default).1.1
  | 0, hj => by
    cases zs with
    | nil => simp at hj
    | cons y ys => simpa using (h 1 (by simp)).2 (by omega)
  | j + 1, hj => by
    have h1 := okF_head h j (by omega)
    have h2 := (h (j + 2) (by rw [List.length_cons]; omega)).2 (by omega)
    simp only [Nat.add_succ_sub_one, List.getElem?_cons_succ] at h2
    omega
theorem scan_none {t : Nat} {zs : List Sk} (h : zs.findIdx? (fun x => x.1.1 == t) = none) : hsS t zs = false := by
  rw [List.findIdx?_eq_none_iff] at h
  unfold hsS
  rw [List.any_eq_false]
  intro x hx
  have := h x hx
  simpa using this
theorem lkS_skip (t : Nat) (k : List (BitVec 8)) : ∀ zs : List Sk, (∀ j, j < zs.length → (zs[j]?.getD default).1.1 ≠ t) → zs.foldl (fun k x => if x.1.1 = t then x.1.2 else k) k = k ∧ zs.filter (fun x => !(x.1.1 == t)) = zs
  | [], _ => ⟨rfl, rfl⟩
  | z :: zs, h => by
    have h0 : z.1.1 ≠ t := by simpa using h 0 (by simp)
    obtain ⟨i1, i2⟩ := lkS_skip t k zs fun j hj => by simpa using h (j + 1) (by simpa using hj)
    refine ⟨?_, ?_⟩
    · rw [List.foldl_cons, if_neg h0, i1]
    · rw [List.filter_cons, if_pos (by simpa using h0), i2]
theorem scan_some {G t : Nat} : ∀ {zs : List Sk} {i : Nat} (k : List (BitVec 8)), okF G zs → zs.findIdx? (fun x => x.1.1 == t) = some i → hsS t zs = true ∧ zs.filter (fun x => !(x.1.1 == t)) = zs.eraseIdx i ∧ zs.foldl (fun k x => if x.1.1 = t then x.1.2 else k) k = (zs[i]?.getD default).1.2
  | [], i, _, _, h => by simp at h
  | z :: zs, i, k, hok, h => by
    rw [List.findIdx?_cons] at h
    by_cases hz : z.1.1 = t
    · rw [if_pos (by simpa using hz)] at h
      cases h
      have hne := okF_head hok
      obtain ⟨i1, i2⟩ := lkS_skip t z.1.2 zs fun j hj => by have := hne j hj; omega
      refine ⟨?_, ?_, ?_⟩
      · simp [hsS, hz]
      · rw [List.filter_cons, if_neg (by simp [hz]), i2]
        rfl
      · rw [List.foldl_cons, if_pos hz, i1]
        rfl
    · rw [if_neg (by simpa using hz)] at h
      obtain ⟨i', hi', rfl⟩ := Option.map_eq_some_iff.1 h
      obtain ⟨k1, k2, k3⟩ := scan_some k (okF_tail hok) hi'
      refine ⟨?_, ?_, ?_⟩
      · unfold hsS at k1 ⊢
        rw [List.any_cons, k1, Bool.or_true]
      · rw [List.filter_cons, if_pos (by simpa using hz), k2]
        rfl
      · rw [List.foldl_cons, if_neg hz, k3]
        simp
set_option maxRecDepth 100000 in
set_option maxHeartbeats 4000000 in
theorem rtakeRef_any (C : List (BitVec 8)) (G t : Nat) (a : Option Addr) (cap : Nat) (zs : List Sk) (w : World) (hK : TabK K0 0 w) (hC : C.length = 32) (hG : G < 18446744073709551616) (ht : t < 18446744073709551616) (hz : zs.length ≤ 1048576) (hI : Sks w.heap.size w (.slice a zs.length cap) zs) :
    Calls Tryd.prog 60 #[.agg (ratL C G (.slice a zs.length cap)).toArray, .int .u64 (t : Int)] w (TakeSays C G zs t w) := by
  have HK := Lib.hid hK
  have HC := Lib.hid hC
  have HZ := Lib.hid hz
  have HAh := Lib.hid (fun (wx : World) (h : Aft w wx) => raheadRef_any C G t a cap zs wx hC hG ht hz (hI.aft h))
  have HCl := Lib.hid (fun (wx : World) (h : Aft w wx) => rcopy_any C G a cap zs wx hC hz (hI.aft h))
  have D1 := Lib.hid (fun (D : List (BitVec 8)) (hD : D.length = 32) (wx : World) (h : Aft w wx) => dKey_any D wx (TabK_fr HK.out (Fr.of_below (S := fun _ => False) h) (fun h => h)) hD)
  have D2 := Lib.hid (fun (D : List (BitVec 8)) (hD : D.length = 32) (wx : World) (h : Aft w wx) => dChain_any D wx (TabK_fr HK.out (Fr.of_below (S := fun _ => False) h) (fun h => h)) hD)
  have HL := Lib.hid (Led.start w)
  clear hK hC hI hz hG ht
  go_enter Tryd.func60, Tryd.ntmps60
  go_wp2_with (first | (refine wpList_boxO rfl 71 (.tmp 0) rfl (.agg (ratL C G (.slice a zs.length cap)).toArray) rfl (.cells (ratL C G (.slice a zs.length cap)).toArray 71) (box_rat _) ?_; intro wa aa gg zz; (try replace HO := Lib.hid (HO.out.aft aa)); (try replace HO2 := Lib.hid (HO2.out.aft aa)); (try replace HOK := Lib.hid (HOK.out.aft aa)); replace HL := Lib.hid (HL.out.alloc aa gg.out); clear aa gg zz; try simp only [List.nil_append, List.cons_append, List.set_cons_zero, List.set_cons_succ] at HL) | (refine wpList_allocO rfl 23 rfl (.cells key0 23) alloc_key ?_; intro wb aa gg zz; replace HL := Lib.hid (HL.out.alloc aa gg.out); clear aa gg zz; try simp only [List.nil_append, List.cons_append, List.set_cons_zero, List.set_cons_succ] at HL) | (refine wpList_allocO rfl 71 rfl (.cells (ratL (List.replicate 32 0) 0 (.slice none 0 0)).toArray 71) alloc_rat ?_; intro w' aa gg zz; (try replace HO := Lib.hid (HO.out.aft aa)); (try replace HO2 := Lib.hid (HO2.out.aft aa)); (try replace HOK := Lib.hid (HOK.out.aft aa)); replace HL := Lib.hid (HL.out.alloc aa gg.out); clear aa gg zz; try simp only [List.nil_append, List.cons_append, List.set_cons_zero, List.set_cons_succ] at HL) | (refine wpList_load_rowG (by kernel_rfl) 71 (.tmp 2) rfl _ rfl _ _ _ _ (HL.out.get 0 rfl) Tryd.underlying71 rfl (rat_info HC.out) ?_))
  refine (HAh.out _ HL.out.aft).mono ?_
  rintro r w2 ⟨rfl, h2⟩
  replace HL := Lib.hid (HL.out.call h2)
  clear h2 HAh
  by_cases hE : ahE G zs t = 0
  rotate_left
  · have HE := Lib.hid (show tkE G zs t = ahE G zs t from if_pos hE)
    have HE0 := Lib.hid hE
    generalize ahE G zs t = e at *
    go_wp2_with (first | (refine wpList_store_keyZ0 rfl (.tmp 4) (.tmp 26) rfl _ rfl rfl _ (HL.out.get 1 rfl) key0_size ?_; intro w' b1 b2 b3; (try replace HO := Lib.hid (HO.out.stored (HL.out.get 1 rfl) (by decide) b2.out)); (try replace HO2 := Lib.hid (HO2.out.stored (HL.out.get 1 rfl) (by decide) b2.out)); (try replace HOK := Lib.hid (HOK.out.stored (HL.out.get 1 rfl) (by decide) b2.out)); replace HL := Lib.hid (HL.out.store 1 rfl b1 b2 b3); clear b1 b2 b3; try simp only [List.nil_append, List.cons_append, List.set_cons_zero, List.set_cons_succ] at HL) | (refine wpList_buildO (by kernel_rfl) 71 #[] rfl #[] (by kernel_rfl) _ (build_rat0) ?_) | (refine wpList_store_ratZ rfl (.tmp 5) (.tmp 27) _ (List.replicate 32 0) (0) (.slice none 0 0) List.length_replicate rfl rfl rfl rfl _ (HL.out.get 2 rfl) (rat_old List.length_replicate) ?_; intro w' b1 b2 b3; (try replace HO := Lib.hid (HO.out.stored (HL.out.get 2 rfl) (by decide) b2.out)); (try replace HO2 := Lib.hid (HO2.out.stored (HL.out.get 2 rfl) (by decide) b2.out)); (try replace HOK := Lib.hid (HOK.out.stored (HL.out.get 2 rfl) (by decide) b2.out)); replace HL := Lib.hid (HL.out.store 2 rfl b1 b2 b3); clear b1 b2 b3; try simp only [List.nil_append, List.cons_append, List.set_cons_zero, List.set_cons_succ] at HL))
    refine bodyPost_ret (results_cell2 rfl _ _ _ _ _ _ _ _ _ _ _ _ rfl rfl (HL.out.get 1 rfl) (HL.out.get 2 rfl) Tryd.underlying23 rfl (key_info List.length_replicate) Tryd.underlying71 rfl (rat_info List.length_replicate)) rfl ?_
    exact TakeSays.bad HE.out HE0.out HL.out.aft
  have HE := Lib.hid hE
  rw [hE]
  clear hE
  go_wp2_with (first | (refine wpList_load_rowG (by kernel_rfl) 71 (.tmp 2) rfl _ rfl _ _ _ _ (HL.out.get 0 rfl) Tryd.underlying71 rfl (rat_info HC.out) ?_))
  refine (HCl.out _ HL.out.aft).mono ?_
  rintro r w3 ⟨v, rfl, ho, h3⟩
  obtain ⟨ao, cap', rfl⟩ := ho.shape
  have HO := Lib.hid (ho.mono HL.out.aft.size)
  replace HL := Lib.hid (HL.out.call h3)
  clear h3 ho HCl
  by_cases hlt : (t : Int) < (G : Int)
  · have HLt := Lib.hid (show t < G by omega)
    go_wp2_with (first | (refine wpList_store_ratZ rfl (.tmp 2) (.tmp 30) _ C G (.slice ao zs.length cap') HC.out rfl rfl rfl rfl _ (HL.out.get 0 rfl) (rat_old HC.out) ?_; intro w4 b1 b2 b3; replace HO := Lib.hid (HO.out.stored (HL.out.get 0 rfl) (by decide) b2.out); replace HL := Lib.hid (HL.out.store 0 rfl b1 b2 b3); clear b1 b2 b3; try simp only [List.nil_append, List.cons_append, List.set_cons_zero, List.set_cons_succ] at HL; have hn := rat_n (HL.out.get 0 rfl) HC.out) | (refine wpList_allocO rfl 23 rfl (.cells key0 23) alloc_key ?_; intro wk aa gg zz; replace HO := Lib.hid (HO.out.aft aa); replace HL := Lib.hid (HL.out.alloc aa gg.out); clear aa gg zz; try simp only [List.nil_append, List.cons_append, List.set_cons_zero, List.set_cons_succ] at HL) | (refine wpList_store_keyZ0 rfl (.tmp 10) (.tmp 35) rfl _ rfl rfl _ (HL.out.get 3 rfl) key0_size ?_; intro wL b1 b2 b3; replace HO := Lib.hid (HO.out.stored (HL.out.get 3 rfl) (by decide) b2.out); replace HL := Lib.hid (HL.out.store 3 rfl b1 b2 b3); clear b1 b2 b3; try simp only [List.nil_append, List.cons_append, List.set_cons_zero, List.set_cons_succ] at HL; have hl := rat_l (HL.out.get 0 rfl) HC.out))
    have HWL := Lib.hid HL.out.aft.size
    have HNk := Lib.hid (fun g hg => (HO.out.lt g hg).2)
    have hrel0 := HL.out
    rw [show (Obj.cells key0 23 (0, 0)) = Obj.cells (bv (lkS t (zs.take 0))).toArray 23 (0, 0) by rw [List.take_zero, show lkS t [] = List.replicate 32 0 from rfl, key0_bv]] at hrel0
    clear hl hn
    go_loopw [9, 11, 39] (fun v9 v11 v39 wr => ∃ i : Nat, i ≤ zs.length ∧ wL.heap.size ≤ wr.heap.size ∧ v39 = .int .i64 (i : Int) ∧ v11 = .bool (hsS t (zs.take i)) ∧ OwnS wr wL.heap.size v9 (flS t (zs.take i)) ∧ OwnS wr w.heap.size (.slice ao zs.length cap') zs ∧ Led w wr [(w.heap.size, .cells (ratL C G (.slice ao zs.length cap')).toArray 71), (wa.heap.size, .cells key0 23), (wb.heap.size, .cells (ratL (List.replicate 32 0) 0 (.slice none 0 0)).toArray 71), (w4.heap.size, .cells (bv (lkS t (zs.take i))).toArray 23)]) (fun _ _ v _ => zs.length - (intOf v).toNat)
    case atStart => exact ⟨0, by omega, Nat.le_refl _, rfl, rfl, OwnS.nil _ _, HO.out, hrel0⟩
    case round =>
      clear HL HO hrel0
      obtain ⟨i, hi, hsz, rfl, rfl, hO2, hO, hL⟩ := hrel
      have HSz := Lib.hid hsz
      obtain ⟨a9, c9, rfl⟩ := hO2.shape
      have HL := Lib.hid hL
      have HO := Lib.hid hO
      have HO2 := Lib.hid hO2
      clear hL hO hO2
      by_cases hlz : i < zs.length
      · have hlz' : (i : Int) < (zs.length : Nat) := by omega
        obtain ⟨X, hXe⟩ : ∃ X, X = zs[i]?.getD default := ⟨_, rfl⟩
        have HTk := Lib.hid (show zs.take (i + 1) = zs.take i ++ [X] by rw [hXe]; exact take_next zs i hlz)
        have HSk := HO.out.sks
        rcases HSk with ⟨he, hn⟩ | ⟨b, off, cp, he, -, hc⟩
        · rw [hn] at hlz
          exact absurd hlz (Nat.not_lt_zero _)
        cases he
        have HRow := Lib.hid (show wr.rangeAt b (off + i * 33) (skL X) from by rw [hXe]; exact hc i hlz)
        have HNa := Lib.hid HO.out.lt
        have HNb := Lib.hid HO2.out.lt
        have HLk := Lib.hid (lkS_length t (zs.take i))
        have hzl := HZ.out
        have HFl := Lib.hid (show (flS t (zs.take i)).length ≤ i from Nat.le_trans (flS_length _ _) (by rw [List.length_take]; omega))
        clear hXe hc
        by_cases hx : X.1.1 = t
        · have HS1 := Lib.hid (show hsS t (zs.take (i + 1)) = true by rw [HTk.out, hsS_snoc, decide_eq_true hx, Bool.or_true])
          have HS2 := Lib.hid (show flS t (zs.take (i + 1)) = flS t (zs.take i) by rw [HTk.out, flS_snoc, if_pos hx, List.append_nil])
          have HS3 := Lib.hid (show lkS t (zs.take (i + 1)) = X.1.2 by rw [HTk.out, lkS_snoc, if_pos hx])
          go_wp2_with (first | (refine wpList_load_val (by kernel_rfl) 73 (.tmp 41) rfl _ rfl (.agg (skL X).toArray) (run_loadVar_sk _ HRow.out) ?_) | (refine wpList_allocO rfl 73 rfl (.cells (skL zSk).toArray 73) alloc_skz ?_; intro w' aa gg zz; (try replace HO := Lib.hid (HO.out.aft aa)); (try replace HO2 := Lib.hid (HO2.out.aft aa)); (try replace HOK := Lib.hid (HOK.out.aft aa)); replace HL := Lib.hid (HL.out.alloc aa gg.out); clear aa gg zz; try simp only [List.nil_append, List.cons_append, List.set_cons_zero, List.set_cons_succ] at HL) | (refine wpList_store_rowZ rfl 73 (.tmp 13) (.tmp 42) rfl _ (skL X).toArray rfl rfl _ _ (HL.out.get 4 rfl) (sk_info X) ((sk_sz _).trans (sk_sz _).symm) (all_one (skL_one _)) ?_; intro w' b1 b2 b3; replace HO := Lib.hid (HO.out.keep (fun g hg => b2.out g (by have := (HNa.out g hg).2; omega))); replace HO2 := Lib.hid (HO2.out.keep (fun g hg => b2.out g (by have := (HNb.out g hg).2; omega))); replace HL := Lib.hid (HL.out.store 4 rfl b1 b2 b3); clear b1 b2 b3; try simp only [List.nil_append, List.cons_append, List.set_cons_zero, List.set_cons_succ] at HL; have hg := sk_gen (HL.out.get 4 rfl); rw [hx] at hg) | (refine wpList_load_keyG (by kernel_rfl) (.tmp 47) rfl _ _ rfl X.1.2 (sk_key (HL.out.get 4 rfl)) X.2.2 ?_) | (refine wpList_store_keyZ rfl (.tmp 10) (.tmp 48) rfl _ X.1.2 X.2.2 rfl rfl _ (HL.out.get 3 rfl) (key_sz HLk.out) ?_; intro w' b1 b2 b3; (try replace HO := Lib.hid (HO.out.stored (HL.out.get 3 rfl) (by decide) b2.out)); (try replace HO2 := Lib.hid (HO2.out.stored (HL.out.get 3 rfl) (by decide) b2.out)); (try replace HOK := Lib.hid (HOK.out.stored (HL.out.get 3 rfl) (by decide) b2.out)); replace HL := Lib.hid (HL.out.store 3 rfl b1 b2 b3); clear b1 b2 b3; try simp only [List.nil_append, List.cons_append, List.set_cons_zero, List.set_cons_succ] at HL))
          go_roundw
          case rel => exact ⟨i + 1, by omega, by have := heap_lt (HL.out.get 4 rfl); have := HSz.out; omega, by go_num, by rw [HS1.out], by rw [HS2.out]; exact HO2.out, HO.out, by rw [HS3.out]; exact HL.out.cut 4⟩
          case measure => simp [intOf]; omega
        · have HS1 := Lib.hid (show hsS t (zs.take (i + 1)) = hsS t (zs.take i) by rw [HTk.out, hsS_snoc, decide_eq_false hx, Bool.or_false])
          have HS2 := Lib.hid (show flS t (zs.take (i + 1)) = flS t (zs.take i) ++ [X] by rw [HTk.out, flS_snoc, if_neg hx])
          have HS3 := Lib.hid (show lkS t (zs.take (i + 1)) = lkS t (zs.take i) by rw [HTk.out, lkS_snoc, if_neg hx])
          have hxb : (((X.1.1 : Nat) : Int) == (t : Int)) = false := by simpa using (show ¬ ((X.1.1 : Nat) : Int) = (t : Int) by omega)
          go_wp2_with (first | (refine wpList_load_val (by kernel_rfl) 73 (.tmp 41) rfl _ rfl (.agg (skL X).toArray) (run_loadVar_sk _ HRow.out) ?_) | (refine wpList_allocO rfl 73 rfl (.cells (skL zSk).toArray 73) alloc_skz ?_; intro w' aa gg zz; (try replace HO := Lib.hid (HO.out.aft aa)); (try replace HO2 := Lib.hid (HO2.out.aft aa)); (try replace HOK := Lib.hid (HOK.out.aft aa)); replace HL := Lib.hid (HL.out.alloc aa gg.out); clear aa gg zz; try simp only [List.nil_append, List.cons_append, List.set_cons_zero, List.set_cons_succ] at HL) | (refine wpList_store_rowZ rfl 73 (.tmp 13) (.tmp 42) rfl _ (skL X).toArray rfl rfl _ _ (HL.out.get 4 rfl) (sk_info X) ((sk_sz _).trans (sk_sz _).symm) (all_one (skL_one _)) ?_; intro w' b1 b2 b3; replace HO := Lib.hid (HO.out.keep (fun g hg => b2.out g (by have := (HNa.out g hg).2; omega))); replace HO2 := Lib.hid (HO2.out.keep (fun g hg => b2.out g (by have := (HNb.out g hg).2; omega))); replace HL := Lib.hid (HL.out.store 4 rfl b1 b2 b3); clear b1 b2 b3; try simp only [List.nil_append, List.cons_append, List.set_cons_zero, List.set_cons_succ] at HL; have hg := sk_gen (HL.out.get 4 rfl)) | (refine wpList_load_rowG (by kernel_rfl) 73 (.tmp 13) rfl _ rfl _ _ _ _ (HL.out.get 4 rfl) Tryd.underlying73 rfl (sk_info X) ?_) | (refine wpList_skSliceO (by kernel_rfl) (.tmp 50) rfl X rfl ?_; intro w8 aa gg; have HSk := gg; replace HO := Lib.hid (HO.out.aft aa); replace HO2 := Lib.hid (HO2.out.aft aa); replace HL := Lib.hid (HL.out.call aa); clear aa gg) | (at_builtin; refine wpList_append_sks (by kernel_rfl) (.tmp 49) (.tmp 51) rfl wL.heap.size _ (flS t (zs.take i)) rfl HO2.out _ _ [X] rfl HSk.out (by have := HFl.out; have := HZ.out; simp; omega) (by have := heap_lt (HL.out.get 4 rfl); have := HSz.out; omega) ?_; intro v' w9 k1 k2; have HS9 := Lib.hid (Nat.le_trans (Nat.le_of_lt (Nat.lt_of_le_of_lt HSz.out (heap_lt (HL.out.get 4 rfl)))) k2.size); replace HO := Lib.hid (HO.out.keep (fun g hg => k2.block g (HO.out.lt g hg).2 (fun e => by have := (HO2.out.lt g e.symm).1; have := HNk.out g hg; omega))); replace HL := Lib.hid ((HL.out.cut 4).grownS HO2.out HWL.out k2 rfl); replace HO2 := Lib.hid k1; clear k2; obtain ⟨ao', cp', rfl⟩ := k1.shape; clear k1))
          go_roundw
          case rel => exact ⟨i + 1, by omega, HS9.out, by go_num, by rw [HS1.out], by rw [HS2.out]; have h := HO2.out; rw [List.length_append] at h; exact h, HO.out, by rw [HS3.out]; exact HL.out⟩
          case measure => simp [intOf]; omega
      · obtain rfl : i = zs.length := by omega
        have hlz' : ¬ ((zs.length : Nat) : Int) < (zs.length : Nat) := by omega
        have HLk := Lib.hid (lkS_length t zs)
        have HOk := Lib.hid (show okF G zs from by
          have h := HE.out
          unfold ahE at h
          split at h
          · cases h
          · rename_i hc
            exact (okF_iff zs G).1 (chkE_zero (show chkE G zs = 0 by simpa using hc)).2.2)
        rw [List.take_length] at HL HO2 ⊢
        have hl := rat_l (HL.out.get 0 rfl) HC.out
        clear hlz hi HSz hsz
        rcases hix : zs.findIdx? (fun x => x.1.1 == t) with _ | i
        · have HX := Lib.hid (show ixS t zs = -1 by unfold ixS; rw [hix])
          have HE9 := Lib.hid (show tkE G zs t = 9 by unfold tkE; rw [if_neg (by rw [HE.out]; simp), if_pos ⟨HLt.out, by rw [HX.out]; decide⟩])
          rw [scan_none hix]
          clear hix
          go_wp2_with (first | (refine wpList_store_keyZ0 rfl (.tmp 4) (.tmp 56) rfl _ rfl rfl _ (HL.out.get 1 rfl) key0_size ?_; intro w' b1 b2 b3; (try replace HO := Lib.hid (HO.out.stored (HL.out.get 1 rfl) (by decide) b2.out)); (try replace HO2 := Lib.hid (HO2.out.stored (HL.out.get 1 rfl) (by decide) b2.out)); (try replace HOK := Lib.hid (HOK.out.stored (HL.out.get 1 rfl) (by decide) b2.out)); replace HL := Lib.hid (HL.out.store 1 rfl b1 b2 b3); clear b1 b2 b3; try simp only [List.nil_append, List.cons_append, List.set_cons_zero, List.set_cons_succ] at HL) | (refine wpList_buildO (by kernel_rfl) 71 #[] rfl #[] (by kernel_rfl) _ (build_rat0) ?_) | (refine wpList_store_ratZ rfl (.tmp 5) (.tmp 57) _ (List.replicate 32 0) (0) (.slice none 0 0) List.length_replicate rfl rfl rfl rfl _ (HL.out.get 2 rfl) (rat_old List.length_replicate) ?_; intro w' b1 b2 b3; (try replace HO := Lib.hid (HO.out.stored (HL.out.get 2 rfl) (by decide) b2.out)); (try replace HO2 := Lib.hid (HO2.out.stored (HL.out.get 2 rfl) (by decide) b2.out)); (try replace HOK := Lib.hid (HOK.out.stored (HL.out.get 2 rfl) (by decide) b2.out)); replace HL := Lib.hid (HL.out.store 2 rfl b1 b2 b3); clear b1 b2 b3; try simp only [List.nil_append, List.cons_append, List.set_cons_zero, List.set_cons_succ] at HL))
          refine bodyPost_ret (results_cell2 rfl _ _ _ _ _ _ _ _ _ _ _ _ rfl rfl (HL.out.get 1 rfl) (HL.out.get 2 rfl) Tryd.underlying23 rfl (key_info List.length_replicate) Tryd.underlying71 rfl (rat_info List.length_replicate)) rfl ?_
          exact TakeSays.bad HE9.out (by decide) HL.out.aft
        · obtain ⟨s1, s2, s3⟩ := scan_some (List.replicate 32 0) HOk.out hix
          have HX := Lib.hid (show ixS t zs = (i : Int) by unfold ixS; rw [hix])
          have HXn := Lib.hid (show ixN t zs = i by unfold ixN; rw [HX.out]; rfl)
          have HE0 := Lib.hid (show tkE G zs t = 0 by unfold tkE; rw [if_neg (by rw [HE.out]; simp), if_neg (by rw [HX.out]; omega)])
          have HS2 := Lib.hid (show flS t zs = zs.eraseIdx (ixN t zs) from by rw [HXn.out]; exact s2)
          have HS3 := Lib.hid (show lkS t zs = (zs[ixN t zs]?.getD default).1.2 from by rw [HXn.out]; exact s3)
          rw [s1]
          clear hix s1 s2 s3
          generalize lkS t zs = K at *
          generalize flS t zs = F at *
          go_wp2_with (first | (refine wpList_store_ratV rfl (.tmp 59) (.tmp 58) _ C G (.slice ao zs.length cap') HC.out rfl (.slice a9 F.length c9) rfl rfl rfl rfl (HL.out.get 0 rfl) ?_; intro w7 b1 b2 b3; (try replace HO2 := Lib.hid (HO2.out.stored (HL.out.get 0 rfl) (by decide) b2.out)); replace HL := Lib.hid (HL.out.store 0 rfl b1 b2 b3); clear b1 b2 b3; try simp only [List.nil_append, List.cons_append, List.set_cons_zero, List.set_cons_succ] at HL))
          refine wp_region_lex (fun w' => w'.heap[w4.heap.size]? = some (.cells (bv K).toArray 23 (0, 0)) ∧ w'.heap[w.heap.size]? = some (.cells (ratL C G (.slice a9 F.length c9)).toArray 71 (0, 0))) (fun i => ([2] : List Nat).contains i) 3 (by kernel_rfl) (by kernel_rfl) ⟨HL.out.get 3 rfl, HL.out.get 0 rfl⟩ ?_
          change wpLx _ _ _ _ _ _ _ _ _ w7.drew
          replace HO2 := Lib.hid (HO2.out.aft (show Aft w7 w7.drew from (Below.refl _ _).drew))
          replace HL := Lib.hid (HL.out.call (show Aft w7 w7.drew from (Below.refl _ _).drew))
          generalize w7.drew = wd at *
          refine lx_load_agg rfl (by kernel_rfl) 23 (.tmp 10) rfl ⟨w4.heap.size, 0, none⟩ rfl (bv K).toArray (fun w' h => run_loadVar_row w' _ _ _ _ _ _ h.1 Tryd.underlying23 rfl (key_info HLk.out)) ?_
          simp only [Act.put, List.setIfInBounds_toArray, List.set_cons_succ, List.set_cons_zero]
          refine lx_load_agg rfl (by kernel_rfl) 71 (.tmp 2) rfl ⟨w.heap.size, 0, none⟩ rfl (ratL C G (.slice a9 F.length c9)).toArray (fun w' h => run_loadVar_row w' _ _ _ _ _ _ h.2 Tryd.underlying71 rfl (rat_info HC.out)) ?_
          simp only [Act.put, List.setIfInBounds_toArray, List.set_cons_succ, List.set_cons_zero]
          refine lx_eff rfl (by kernel_rfl) ?_
          intro Kx hKx
          have hi1 := HL.out.inc 0 1 _ _ _ _ (by decide) rfl rfl
          have hi2 := HL.out.inc 1 3 _ _ _ _ (by decide) rfl rfl
          refine wp_of_list (ops := #[]) (wpList_store_keyZ rfl (.tmp 4) (.tmp 60) rfl _ K HLk.out rfl rfl key0 (HL.out.get 1 rfl) key0_size ?_)
          intro w8 b1 b2 b3
          refine ⟨rfl, hKx _ _ ⟨⟨(b2.out w4.heap.size (by omega)).trans (HL.out.get 3 rfl), (b2.out w.heap.size (by omega)).trans (HL.out.get 0 rfl)⟩, ?_⟩⟩
          replace HO2 := Lib.hid (HO2.out.stored (HL.out.get 1 rfl) (by decide) b2.out)
          replace HL := Lib.hid (HL.out.store 1 rfl b1 b2 b3)
          clear b1 b2 b3 hKx hi1 hi2
          try simp only [List.nil_append, List.cons_append, List.set_cons_zero, List.set_cons_succ] at HL
          refine lx_done ?_
          simp only [Act.put]
          go_wp2_with (first | (refine wpList_store_ratZ rfl (.tmp 5) (.tmp 61) _ C G (.slice a9 F.length c9) HC.out rfl rfl rfl rfl _ (HL.out.get 2 rfl) (rat_old List.length_replicate) ?_; intro w9 b1 b2 b3; replace HO2 := Lib.hid (HO2.out.stored (HL.out.get 2 rfl) (by decide) b2.out); replace HL := Lib.hid (HL.out.store 2 rfl b1 b2 b3); clear b1 b2 b3; try simp only [List.nil_append, List.cons_append, List.set_cons_zero, List.set_cons_succ] at HL))
          refine bodyPost_ret (results_cell2 rfl _ _ _ _ _ _ _ _ _ _ _ _ rfl rfl (HL.out.get 1 rfl) (HL.out.get 2 rfl) Tryd.underlying23 rfl (key_info HLk.out) Tryd.underlying71 rfl (rat_info HC.out)) rfl ?_
          rw [HS3.out]
          exact TakeSays.left HE0.out HLt.out (by rw [← HS2.out]; exact HO2.out.mono HWL.out) HL.out.aft
  · have hGt : G ≤ t := by omega
    obtain ⟨n, rfl⟩ := Nat.exists_eq_add_of_le hGt
    have HN := Lib.hid (show ahN G zs (G + n) = n by unfold ahN; rw [if_pos ⟨HE.out, by omega⟩]; omega)
    have HE0 := Lib.hid (show tkE G zs (G + n) = 0 by unfold tkE; rw [if_neg (by rw [HE.out]; simp), if_neg (by omega)])
    have HNz := Lib.hid (show zs.length + n ≤ 1024 ∧ G + n < 4294967296 by
      have h := HE.out
      unfold ahE at h
      split at h
      · cases h
      · rename_i hc
        rw [if_neg (show ¬ G + n < G by omega)] at h
        split at h
        · cases h
        · split at h
          · cases h
          · have := chkE_zero (show chkE G zs = 0 by simpa using hc)
            omega)
    rw [HN.out]
    clear hGt
    have hnl : ¬ ((G + n : Nat) : Int) < (G : Int) := by omega
    clear hlt
    go_wp2_with (first | (refine wpList_store_ratZ rfl (.tmp 2) (.tmp 30) _ C G (.slice ao zs.length cap') HC.out rfl rfl rfl rfl _ (HL.out.get 0 rfl) (rat_old HC.out) ?_; intro w4 b1 b2 b3; replace HO := Lib.hid (HO.out.stored (HL.out.get 0 rfl) (by decide) b2.out); replace HL := Lib.hid (HL.out.store 0 rfl b1 b2 b3); clear b1 b2 b3; try simp only [List.nil_append, List.cons_append, List.set_cons_zero, List.set_cons_succ] at HL; have hn := rat_n (HL.out.get 0 rfl) HC.out))
    clear hn hnl
    go_loopw [63] (fun v63 wr => ∃ (j M : Nat) (D : List (BitVec 8)) (ao : Option Addr) (m cp : Nat), j ≤ n ∧ M = G + j ∧ D = chn C j ∧ v63 = .int .i64 (j : Int) ∧ OwnS wr w.heap.size (.slice ao m cp) (zs ++ pasZ C G j) ∧ Led w wr [(w.heap.size, .cells (ratL D M (.slice ao m cp)).toArray 71), (wa.heap.size, .cells key0 23), (wb.heap.size, .cells (ratL (List.replicate 32 0) 0 (.slice none 0 0)).toArray 71)]) (fun v _ => n - (intOf v).toNat)
    case atStart => exact ⟨0, G, C, ao, zs.length, cap', by omega, rfl, rfl, rfl, by simpa [pasZ] using HO.out, HL.out⟩
    case round =>
      clear HL HO
      obtain ⟨j, M, D, ao, m, cp, hj, hM, hD, rfl, hO, hL⟩ := hrel
      have HL := Lib.hid hL
      have HO := Lib.hid hO
      have HDl := Lib.hid (show D.length = 32 by rw [hD]; exact chn_length HC.out j)
      have HM := Lib.hid hM
      have HDe := Lib.hid hD
      clear hL hO
      have hX := D1.out D HDl.out
      have hY := D2.out D HDl.out
      have HXl := Lib.hid (drvKey_length D keyS [])
      have HYl := Lib.hid (drvKey_length D chainS [])
      have HXe := Lib.hid (show drvKey D keyS [] = kyA C j by rw [hD]; rfl)
      have HYe := Lib.hid (show drvKey D chainS [] = chn C (j + 1) by rw [hD]; rfl)
      have HZs := Lib.hid (show zs ++ pasZ C G j ++ [mkS M (kyA C j)] = zs ++ pasZ C G (j + 1) by rw [hM, pasZ_succ, List.append_assoc])
      have HB64 := Lib.hid (show M < 18446744073709551616 by have := HNz.out; omega)
      have hl := rat_l (HL.out.get 0 rfl) HDl.out
      have hn := rat_n (HL.out.get 0 rfl) HDl.out
      have hN3 : (M : Int) + 1 < 18446744073709551616 := by have := HNz.out; omega
      rw [← HXe.out] at HZs
      generalize drvKey D keyS [] = X at *
      generalize drvKey D chainS [] = Y at *
      have HD1 := Lib.hid hX
      have HD2 := Lib.hid hY
      have hnz := HNz.out
      clear hX hY hD hM
      by_cases hlt : j < n
      · have hlt' : (j : Int) < (n : Int) := by omega
        go_wp2_with (first | (refine wpList_load_keyG (by kernel_rfl) (.tmp 66) rfl _ _ rfl D (rat_c (HL.out.get 0 rfl) HDl.out) HDl.out ?_))
        refine (HD1.out _ HL.out.aft).mono ?_
        rintro r w5 ⟨rfl, h5⟩
        replace HO := Lib.hid (HO.out.aft h5)
        replace HL := Lib.hid (HL.out.call h5)
        clear h5 hl hn
        go_wp2_with (first | (refine wpList_allocO rfl 23 rfl (.cells key0 23) alloc_key ?_; intro w' aa gg zz; (try replace HO := Lib.hid (HO.out.aft aa)); (try replace HO2 := Lib.hid (HO2.out.aft aa)); (try replace HOK := Lib.hid (HOK.out.aft aa)); replace HL := Lib.hid (HL.out.alloc aa gg.out); clear aa gg zz; try simp only [List.nil_append, List.cons_append, List.set_cons_zero, List.set_cons_succ] at HL) | (refine wpList_store_keyZ rfl (.tmp 14) (.tmp 69) rfl _ X HXl.out rfl rfl _ (HL.out.get 3 rfl) key0_size ?_; intro w' b1 b2 b3; (try replace HO := Lib.hid (HO.out.stored (HL.out.get 3 rfl) (by decide) b2.out)); (try replace HO2 := Lib.hid (HO2.out.stored (HL.out.get 3 rfl) (by decide) b2.out)); (try replace HOK := Lib.hid (HOK.out.stored (HL.out.get 3 rfl) (by decide) b2.out)); replace HL := Lib.hid (HL.out.store 3 rfl b1 b2 b3); clear b1 b2 b3; try simp only [List.nil_append, List.cons_append, List.set_cons_zero, List.set_cons_succ] at HL; have hl := rat_l (HL.out.get 0 rfl) HDl.out; have hn := rat_n (HL.out.get 0 rfl) HDl.out) | (refine wpList_load_rowG (by kernel_rfl) 23 (.tmp 14) rfl _ rfl _ _ _ _ (HL.out.get 3 rfl) Tryd.underlying23 rfl (key_info HXl.out) ?_) | (refine wpList_buildO (by kernel_rfl) 73 #[(0, .tmp 74), (1, .tmp 75)] rfl #[(0, .int .u64 (M : Int)), (1, .agg (bv X).toArray)] (by kernel_rfl) _ (build_sk HB64.out HXl.out) ?_) | (refine wpList_skSliceO (by kernel_rfl) (.tmp 76) rfl (mkS M X) rfl ?_; intro w8 aa gg; have HSk := gg; replace HO := Lib.hid (HO.out.aft aa); replace HL := Lib.hid (HL.out.call aa); clear aa gg) | (at_builtin; refine wpList_append_sks (by kernel_rfl) (.tmp 72) (.tmp 77) rfl w.heap.size _ (zs ++ pasZ C G j) rfl HO.out _ _ [mkS M X] rfl HSk.out (by rw [List.length_append, pasZ_length]; have := HNz.out; simp; omega) HL.out.aft.size ?_; intro v' w9 k1 k2; replace HL := Lib.hid (HL.out.grownS HO.out (Nat.le_refl _) k2 rfl); replace HO := Lib.hid k1; clear k2 hl hn; obtain ⟨ao', cp', rfl⟩ := k1.shape; clear k1) | (refine wpList_store_ratV rfl (.tmp 79) (.tmp 78) _ (D) (M) (.slice ao m cp) HDl.out rfl (.slice ao' _ cp') rfl rfl rfl rfl (HL.out.get 0 rfl) ?_; intro w' b1 b2 b3; (try replace HO := Lib.hid (HO.out.stored (HL.out.get 0 rfl) (by decide) b2.out)); (try replace HO2 := Lib.hid (HO2.out.stored (HL.out.get 0 rfl) (by decide) b2.out)); (try replace HOK := Lib.hid (HOK.out.stored (HL.out.get 0 rfl) (by decide) b2.out)); replace HL := Lib.hid (HL.out.store 0 rfl b1 b2 b3); clear b1 b2 b3; try simp only [List.nil_append, List.cons_append, List.set_cons_zero, List.set_cons_succ] at HL) | (refine wpList_load_keyG (by kernel_rfl) (.tmp 81) rfl _ _ rfl D (rat_c (HL.out.get 0 rfl) HDl.out) HDl.out ?_))
        refine (HD2.out _ HL.out.aft).mono ?_
        rintro r w6 ⟨rfl, h6⟩
        replace HO := Lib.hid (HO.out.aft h6)
        replace HL := Lib.hid (HL.out.call h6)
        clear h6
        go_wp2_with (first | (refine wpList_store_ratC rfl (.tmp 86) (.tmp 84) _ D M _ HDl.out rfl Y HYl.out rfl rfl (HL.out.get 0 rfl) ?_; intro w7 b1 b2 b3; replace HO := Lib.hid (HO.out.stored (HL.out.get 0 rfl) (by decide) b2.out); replace HL := Lib.hid (HL.out.store 0 rfl b1 b2 b3); clear b1 b2 b3; try simp only [List.nil_append, List.cons_append, List.set_cons_zero, List.set_cons_succ] at HL; have hn := rat_n (HL.out.get 0 rfl) HYl.out) | (refine wpList_store_ratG rfl (.tmp 90) (.tmp 89) _ Y M _ HYl.out rfl (M + 1) rfl rfl (HL.out.get 0 rfl) ?_; intro w8 b1 b2 b3; replace HO := Lib.hid (HO.out.stored (HL.out.get 0 rfl) (by decide) b2.out); replace HL := Lib.hid (HL.out.store 0 rfl b1 b2 b3); clear b1 b2 b3; try simp only [List.nil_append, List.cons_append, List.set_cons_zero, List.set_cons_succ] at HL))
        go_roundw
        case rel =>
          refine ⟨j + 1, M + 1, Y, ao', zs.length + ((pasZ C G j).length + 1), cp', by omega, by have := HM.out; omega, HYe.out, by go_num, ?_, ?_⟩
          · have h := HO.out
            rw [HZs.out] at h
            have e : (zs ++ pasZ C G (j + 1)).length = zs.length + ((pasZ C G j).length + 1) := by rw [List.length_append, pasZ_length, pasZ_length]
            try rw [e] at h
            exact h
          · exact HL.out.cut 3
        case measure => simp [intOf]; omega
      · obtain rfl : j = n := by omega
        have hlt' : ¬ (j : Int) < (j : Int) := by omega
        go_wp2_with (first | (refine wpList_load_keyG (by kernel_rfl) (.tmp 93) rfl _ _ rfl D (rat_c (HL.out.get 0 rfl) HDl.out) HDl.out ?_))
        refine (HD1.out _ HL.out.aft).mono ?_
        rintro r w5 ⟨rfl, h5⟩
        replace HO := Lib.hid (HO.out.aft h5)
        replace HL := Lib.hid (HL.out.call h5)
        clear h5 hl hn
        go_wp2_with (first | (refine wpList_allocO rfl 23 rfl (.cells key0 23) alloc_key ?_; intro w' aa gg zz; (try replace HO := Lib.hid (HO.out.aft aa)); (try replace HO2 := Lib.hid (HO2.out.aft aa)); (try replace HOK := Lib.hid (HOK.out.aft aa)); replace HL := Lib.hid (HL.out.alloc aa gg.out); clear aa gg zz; try simp only [List.nil_append, List.cons_append, List.set_cons_zero, List.set_cons_succ] at HL) | (refine wpList_store_keyZ rfl (.tmp 16) (.tmp 96) rfl _ X HXl.out rfl rfl _ (HL.out.get 3 rfl) key0_size ?_; intro w' b1 b2 b3; (try replace HO := Lib.hid (HO.out.stored (HL.out.get 3 rfl) (by decide) b2.out)); (try replace HO2 := Lib.hid (HO2.out.stored (HL.out.get 3 rfl) (by decide) b2.out)); (try replace HOK := Lib.hid (HOK.out.stored (HL.out.get 3 rfl) (by decide) b2.out)); replace HL := Lib.hid (HL.out.store 3 rfl b1 b2 b3); clear b1 b2 b3; try simp only [List.nil_append, List.cons_append, List.set_cons_zero, List.set_cons_succ] at HL) | (refine wpList_load_keyG (by kernel_rfl) (.tmp 99) rfl _ _ rfl D (rat_c (HL.out.get 0 rfl) HDl.out) HDl.out ?_))
        refine (HD2.out _ HL.out.aft).mono ?_
        rintro r w6 ⟨rfl, h6⟩
        replace HO := Lib.hid (HO.out.aft h6)
        replace HL := Lib.hid (HL.out.call h6)
        clear h6
        go_wp2_with (first | (refine wpList_store_ratC rfl (.tmp 104) (.tmp 102) _ D M _ HDl.out rfl Y HYl.out rfl rfl (HL.out.get 0 rfl) ?_; intro w7 b1 b2 b3; replace HO := Lib.hid (HO.out.stored (HL.out.get 0 rfl) (by decide) b2.out); replace HL := Lib.hid (HL.out.store 0 rfl b1 b2 b3); clear b1 b2 b3; try simp only [List.nil_append, List.cons_append, List.set_cons_zero, List.set_cons_succ] at HL; have hn := rat_n (HL.out.get 0 rfl) HYl.out) | (refine wpList_store_ratG rfl (.tmp 108) (.tmp 107) _ Y M _ HYl.out rfl (M + 1) rfl rfl (HL.out.get 0 rfl) ?_; intro w8 b1 b2 b3; replace HO := Lib.hid (HO.out.stored (HL.out.get 0 rfl) (by decide) b2.out); replace HL := Lib.hid (HL.out.store 0 rfl b1 b2 b3); clear b1 b2 b3; try simp only [List.nil_append, List.cons_append, List.set_cons_zero, List.set_cons_succ] at HL))
        refine wp_region_lex (fun w' => w'.heap[w5.heap.size]? = some (.cells (bv X).toArray 23 (0, 0)) ∧ w'.heap[w.heap.size]? = some (.cells (ratL Y (M + 1) (.slice ao m cp)).toArray 71 (0, 0))) (fun i => ([2] : List Nat).contains i) 3 (by kernel_rfl) (by kernel_rfl) ⟨HL.out.get 3 rfl, HL.out.get 0 rfl⟩ ?_
        change wpLx _ _ _ _ _ _ _ _ _ w8.drew
        replace HO := Lib.hid (HO.out.aft (show Aft w8 w8.drew from (Below.refl _ _).drew))
        replace HL := Lib.hid (HL.out.call (show Aft w8 w8.drew from (Below.refl _ _).drew))
        generalize w8.drew = wd at *
        refine lx_load_agg rfl (by kernel_rfl) 23 (.tmp 16) rfl ⟨w5.heap.size, 0, none⟩ rfl (bv X).toArray (fun w' h => run_loadVar_row w' _ _ _ _ _ _ h.1 Tryd.underlying23 rfl (key_info HXl.out)) ?_
        simp only [Act.put, List.setIfInBounds_toArray, List.set_cons_succ, List.set_cons_zero]
        refine lx_load_agg rfl (by kernel_rfl) 71 (.tmp 2) rfl ⟨w.heap.size, 0, none⟩ rfl (ratL Y (M + 1) (.slice ao m cp)).toArray (fun w' h => run_loadVar_row w' _ _ _ _ _ _ h.2 Tryd.underlying71 rfl (rat_info HYl.out)) ?_
        simp only [Act.put, List.setIfInBounds_toArray, List.set_cons_succ, List.set_cons_zero]
        refine lx_eff rfl (by kernel_rfl) ?_
        intro Kx hKx
        have hi1 := HL.out.inc 0 1 _ _ _ _ (by decide) rfl rfl
        have hi2 := HL.out.inc 1 3 _ _ _ _ (by decide) rfl rfl
        refine wp_of_list (ops := #[]) (wpList_store_keyZ rfl (.tmp 4) (.tmp 109) rfl _ X HXl.out rfl rfl key0 (HL.out.get 1 rfl) key0_size ?_)
        intro w10 b1 b2 b3
        refine ⟨rfl, hKx _ _ ⟨⟨(b2.out w5.heap.size (by omega)).trans (HL.out.get 3 rfl), (b2.out w.heap.size (by omega)).trans (HL.out.get 0 rfl)⟩, ?_⟩⟩
        replace HO := Lib.hid (HO.out.stored (HL.out.get 1 rfl) (by decide) b2.out)
        replace HL := Lib.hid (HL.out.store 1 rfl b1 b2 b3)
        clear b1 b2 b3 hKx hi1 hi2
        try simp only [List.nil_append, List.cons_append, List.set_cons_zero, List.set_cons_succ] at HL
        refine lx_done ?_
        simp only [Act.put]
        go_wp2_with (first | (refine wpList_store_ratZ rfl (.tmp 5) (.tmp 110) _ Y (M + 1) (.slice ao m cp) HYl.out rfl rfl rfl rfl _ (HL.out.get 2 rfl) (rat_old List.length_replicate) ?_; intro w9 b1 b2 b3; replace HO := Lib.hid (HO.out.stored (HL.out.get 2 rfl) (by decide) b2.out); replace HL := Lib.hid (HL.out.store 2 rfl b1 b2 b3); clear b1 b2 b3; try simp only [List.nil_append, List.cons_append, List.set_cons_zero, List.set_cons_succ] at HL))
        refine bodyPost_ret (results_cell2 rfl _ _ _ _ _ _ _ _ _ _ _ _ rfl rfl (HL.out.get 1 rfl) (HL.out.get 2 rfl) Tryd.underlying23 rfl (key_info HXl.out) Tryd.underlying71 rfl (rat_info HYl.out)) rfl ?_
        rw [HXe.out, HYe.out, HM.out]
        exact TakeSays.next HE0.out HO.out HL.out.aft
end Go.Proofs.YtanodhagpegbfaaDoor
