/- coterielaw10.TreeOrder: it answers true. -/
import Derived.Test.YtpnckphfjcnooaaT12
namespace Go.Proofs.Ytpnckphfjcnooaa
open Go Go.RowKit
set_option linter.unusedSimpArgs false
theorem bvAt (l : List (BitVec 8)) (j : Nat) (h : j < l.length) : (bv l)[j]? = some (.int .u8 (bn (l.getD j 0))) := by simp [bv, h]
theorem bnN (x : BitVec 8) : bn x = ((x.toNat : Nat) : Int) ∧ x.toNat < 256 := ⟨rfl, x.isLt⟩
set_option maxRecDepth 100000 in
set_option maxHeartbeats 4000000 in
theorem order_any (vi vt : Value) (xs : List Int) (T : List (BitVec 8)) (w : World) (hi : Rd w vi (zv xs)) (ht : Rd w vt (bv T)) :
    Calls Try.prog 4 #[vi, vt] w fun e w' => e = .returned (.bool true) ∧ Aft w w' := by
  have HR := Lib.hid hi
  have HT := Lib.hid ht
  obtain ⟨ao, cap, rfl, hc1, hc2⟩ := hi.numS
  obtain ⟨bo, dap, rfl, hd1, hd2, -⟩ := id ht
  rw [bv_length] at *
  have HL := Lib.hid (Led.start w)
  clear hi ht
  go_enter Try.func4, Try.ntmps4
  go_wp2_with fail
  refine (live10_any _).mono ?_
  rintro e w2 ⟨rfl, h2⟩
  replace HL := Lib.hid (HL.out.call h2)
  have HW2 := Lib.hid (show w.heap.size ≤ w2.heap.size from HL.out.aft.size)
  clear h2
  by_cases h1 : (100 : Int) < (xs.length : Nat)
  · go_wp2_with fail
    go_ret
    exact ⟨rfl, HL.out.aft⟩
  by_cases h3 : (200 : Int) < (T.length : Nat)
  · go_wp2_with fail
    go_ret
    exact ⟨rfl, HL.out.aft⟩
  have HO := Lib.hid (OwnI.nil w2 w2.heap.size)
  have HX := Lib.hid (zv_one xs)
  have hzl := zv_length xs
  go_wp2_with ((at_builtin; refine wpList_append_rd rfl (.const (.slice none 0 0)) (.tmp 28) 22 rfl w2.heap.size 3 (.int .i64 0) 8 Try.underlying22 info_int rfl (.slice none 0 0) (.slice ao xs.length cap) [] (zv xs) rfl rfl HO.out (HR.out.grow HL.out.aft) HX.out (by simp; omega) (by simp; omega) (Nat.le_refl _) ?_; intro v' w3 k1 k2 k3))
  have ho : OwnI w3 w2.heap.size v' xs := by
    have := k1
    rw [List.nil_append, zv_length] at this
    exact this
  have HO := Lib.hid ho
  obtain ⟨am, cm, rfl⟩ := ho.shape
  replace HL := Lib.hid (HL.out.grown k2 fun k hk => by cases hk)
  have e1 : decide ((100 : Int) < (xs.length : Nat)) = false := decide_eq_false (by omega)
  have e3 : decide ((200 : Int) < (T.length : Nat)) = false := decide_eq_false (by omega)
  simp only [e1, e3, Bool.or_self]
  clear k1 k2 k3 ho hzl e1 e3 hc1 hc2 hd1 hd2
  go_loopw [32] (fun v32 wr => ∃ (k : Nat) (ms : List Int), k ≤ T.length ∧ v32 = .int .i64 (k : Int) ∧ ms.Perm xs ∧ OwnI wr w2.heap.size (.slice am xs.length cm) ms ∧ Led w wr []) (fun v _ => T.length - (intOf v).toNat)
  case atStart => exact ⟨0, xs, by omega, rfl, .refl _, HO.out, HL.out⟩
  case round =>
    clear HL HO
    obtain ⟨k, ms, hk, rfl, hp, ho, hL⟩ := hrel
    have HL := Lib.hid hL
    have HO := Lib.hid ho
    have HP := Lib.hid hp
    have HLe := Lib.hid hp.length_eq
    clear hL ho hp
    by_cases hlt : k < T.length
    · have hlt' : (k : Int) < (T.length : Nat) := by omega
      obtain ⟨b1, o1, rfl, -, -⟩ := (HT.out.grow HL.out.aft).some_of (by rw [bv_length]; omega)
      have hc : wr.cell? ⟨b1, o1 + k, none⟩ = some (.int .u8 (bn (T.getD k 0))) := by
        obtain ⟨a', c', he', -, -, -, h4⟩ := HT.out.grow HL.out.aft
        injection he' with q1 q2 q3
        have := h4 ⟨b1, o1, none⟩ (by rw [← q1]) k _ (bvAt T k hlt)
        rwa [Addr.add_lit] at this
      generalize T.getD k 0 = x at hc
      obtain ⟨hxe, hx1⟩ := bnN x
      rw [hxe] at hc
      generalize x.toNat = y at hc hx1
      clear hxe
      by_cases hn : (1 : Int) < (xs.length : Nat)
      · obtain ⟨a, ha⟩ : ∃ a, a = k % xs.length := ⟨_, rfl⟩
        obtain ⟨b, hb⟩ : ∃ b, b = y % xs.length := ⟨_, rfl⟩
        have he1 : ((k : Int) % (xs.length : Nat)) = (a : Int) := by rw [ha]; rfl
        have he2 : ((y : Int) % (xs.length : Nat)) = (b : Int) := by rw [hb]; rfl
        have hal : a < xs.length := by rw [ha]; exact Nat.mod_lt _ (by omega)
        have hbl : b < xs.length := by rw [hb]; exact Nat.mod_lt _ (by omega)
        clear ha hb
        have ham : a < ms.length := by rw [HLe.out]; exact hal
        have hbm : b < ms.length := by rw [HLe.out]; exact hbl
        obtain ⟨gm, cx, cur, he, -, -⟩ := own_row_blk HO.out (by omega)
        injection he with q1 q2 q3
        subst q1 q3
        have ca := HO.out.rd.num_at ham
        have cb := HO.out.rd.num_at hbm
        rw [Nat.zero_add] at ca cb
        have HSw := Lib.hid (show swp ms a b = (ms.set a (ms.getD b 0)).set b (ms.getD a 0) from rfl)
        have HPs := Lib.hid ((swp_perm ms a b ham hbm).trans HP.out)
        generalize ms.getD a 0 = p at *
        generalize ms.getD b 0 = q at *
        clear q2
        go_wp2_with (first | (refine wpList_store_num rfl (.tmp 59) (.tmp 58) rfl w2.heap.size gm xs.length cm ms a ham q HO.out rfl rfl ?_; intro wS q1 q2; clear ca cb; replace HL := Lib.hid (HL.out.frO HO.out HW2.out q2 rfl); replace HO := Lib.hid q1; clear q1 q2) | (refine wpList_store_num rfl (.tmp 63) (.tmp 62) rfl w2.heap.size gm xs.length cm (ms.set a q) b (by rw [List.length_set]; exact hbm) p HO.out rfl rfl ?_; intro wT q1 q2; replace HL := Lib.hid (HL.out.frO HO.out HW2.out q2 rfl); replace HO := Lib.hid q1; clear q1 q2))
        go_roundw
        case rel => exact ⟨k + 1, swp ms a b, by omega, by go_num, HPs.out, by rw [HSw.out]; exact HO.out, HL.out⟩
        case measure => simp [intOf]; omega
      · go_wp2_with fail
        go_roundw
        case rel => exact ⟨k + 1, ms, by omega, by go_num, HP.out, HO.out, HL.out⟩
        case measure => simp [intOf]; omega
    · obtain rfl : k = T.length := by omega
      have hlt' : ¬ ((T.length : Nat) : Int) < (T.length : Nat) := by omega
      obtain ⟨c1, i1, l1, hb1⟩ : ∃ c i l, bld xs [] [] = (c, i, l) := ⟨_, _, _, rfl⟩
      obtain ⟨c2, i2, l2, hb2⟩ : ∃ c i l, bld ms [] [] = (c, i, l) := ⟨_, _, _, rfl⟩
      have hx : xs.length ≤ 1000 := by omega
      obtain ⟨p1, p2⟩ := bld_perm HP.out.symm hx
      have s1 := (bld_spec xs [] [] ok_empty (by simpa using hx)).2
      have s2 := (bld_spec ms [] [] ok_empty (by have := HLe.out; simp; omega)).2
      rw [hb1, hb2] at p1 p2
      rw [hb1] at s1
      rw [hb2] at s2
      dsimp only at p1 p2 s1 s2
      have HIff := Lib.hid p1
      have HEq := Lib.hid p2
      have HK1 := Lib.hid (fun q => show OkT i1 l1 ∧ i1.length = xs.length from ⟨(s1 q).1, by have := (s1 q).2.2; simpa using this⟩)
      have HK2 := Lib.hid (fun q => (s2 q).1)
      have HBa := Lib.hid hb1
      have HBb := Lib.hid hb2
      have HB1 := Lib.hid (fun (wx : World) (ha : Aft w wx) => tbuild_any _ xs wx (HR.out.grow ha) (by omega))
      have hml : ms.length ≤ 1048576 := by have := HLe.out; omega
      clear p1 p2 s1 s2 hb1 hb2
      go_wp2_with fail
      refine (HB1.out _ HL.out.aft).mono ?_
      rintro e w4 ⟨vi1, vl1, vs1, he, ho1, h4⟩
      rw [HBa.out] at he ho1
      dsimp only at he ho1
      subst he
      obtain ⟨a1, k1, b1, d1, rfl, rfl⟩ := ho1.shape
      have HT1 := Lib.hid ho1
      replace HL := Lib.hid (HL.out.call h4)
      replace HO := Lib.hid (HO.out.aft h4)
      clear ho1 h4
      go_wp2_with (first | (refine wpList_allocO rfl 26 rfl (.cells (shpL (.slice none 0 0) (.slice none 0 0)).toArray 26) alloc_shp ?_; intro w' aa gg zz; replace HT1 := Lib.hid (HT1.out.aft aa); replace HO := Lib.hid (HO.out.aft aa); replace HL := Lib.hid (HL.out.alloc aa gg.out); clear aa gg zz; try simp only [List.nil_append, List.cons_append, List.set_cons_zero, List.set_cons_succ] at HL) | (refine wpList_store_shp rfl (.tmp 12) (.tmp 68) _ _ _ (.slice a1 i1.length k1) (.slice b1 l1.length d1) rfl rfl rfl rfl rfl (HL.out.get 0 rfl) ?_; intro w9 b1 b2 b3; replace HT1 := Lib.hid (HT1.out.stored (HL.out.get 0 rfl) (by decide) (by decide) b2.out); replace HO := Lib.hid (HO.out.keep fun g hg => b2.out g (own_off HO.out (HL.out.get 0 rfl) (by decide) hg)); replace HL := Lib.hid (HL.out.store 0 rfl b1 b2 b3); clear b1 b2 b3; try simp only [List.nil_append, List.cons_append, List.set_cons_zero, List.set_cons_succ] at HL))
      have HB2 := tbuild_any _ ms _ HO.out.rd hml
      refine HB2.mono ?_
      rintro e w5 ⟨vi2, vl2, vs2, he, ho2, h5⟩
      rw [HBb.out] at he ho2
      dsimp only at he ho2
      subst he
      obtain ⟨a2, k2, b2, d2, rfl, rfl⟩ := ho2.shape
      have HT2 := Lib.hid ho2
      replace HL := Lib.hid (HL.out.call h5)
      replace HT1 := Lib.hid (HT1.out.aft h5)
      clear ho2 h5 HB2 HB1
      by_cases h0 : c1 = 0
      · have h02 := HIff.out.1 h0
        have HOk1 := Lib.hid (HK1.out h0).1
        have HOk2 := Lib.hid (HK2.out h02)
        have HLen := Lib.hid (HK1.out h0).2
        have HEq2 := Lib.hid (HEq.out h0)
        clear HIff HEq HK1 HK2
        subst h0 h02
        go_wp2_with (first | (refine wpList_allocO rfl 26 rfl (.cells (shpL (.slice none 0 0) (.slice none 0 0)).toArray 26) alloc_shp ?_; intro w' aa gg zz; replace HT1 := Lib.hid (HT1.out.aft aa); replace HT2 := Lib.hid (HT2.out.aft aa); replace HL := Lib.hid (HL.out.alloc aa gg.out); clear aa gg zz; try simp only [List.nil_append, List.cons_append, List.set_cons_zero, List.set_cons_succ] at HL) | (refine wpList_store_shp rfl (.tmp 14) (.tmp 73) _ _ _ (.slice a2 i2.length k2) (.slice b2 l2.length d2) rfl rfl rfl rfl rfl (HL.out.get 1 rfl) ?_; intro w9 q1 q2 q3; replace HT1 := Lib.hid (HT1.out.stored (HL.out.get 1 rfl) (by decide) (by decide) q2.out); replace HT2 := Lib.hid (HT2.out.stored (HL.out.get 1 rfl) (by decide) (by decide) q2.out); replace HL := Lib.hid (HL.out.store 1 rfl q1 q2 q3); clear q1 q2 q3; try simp only [List.nil_append, List.cons_append, List.set_cons_zero, List.set_cons_succ] at HL; have hA := shp_i (HL.out.get 0 rfl); have hB := shp_i (HL.out.get 1 rfl)))
        refine (sameInts_any _ _ i1 i2 _ HT1.out.ids.rd HT2.out.ids.rd (small_of HOk1.out).fi).mono ?_
        rintro e w6 ⟨rfl, h6⟩
        rw [decide_eq_true HEq2.out]
        replace HL := Lib.hid (HL.out.call h6)
        replace HT1 := Lib.hid (HT1.out.aft h6)
        replace HT2 := Lib.hid (HT2.out.aft h6)
        clear h6 hA hB
        go_wp2_with (first | (refine wpList_load_rowG (by kernel_rfl) 26 (.tmp 12) rfl _ rfl _ _ _ _ (HL.out.get 0 rfl) Try.underlying26 rfl (shp_info _ _) ?_) | (refine wpList_load_rowG (by kernel_rfl) 26 (.tmp 14) rfl _ rfl _ _ _ _ (HL.out.get 1 rfl) Try.underlying26 rfl (shp_info _ _) ?_))
        refine (tcheck_any _ _ i1 l1 _ HT1.out.ids.rd HT1.out.lv.rd (small_of HOk1.out)).mono ?_
        rintro e w7 ⟨rfl, h7⟩
        rw [chkT_zero.2 HOk1.out]
        replace HL := Lib.hid (HL.out.call h7)
        replace HT2 := Lib.hid (HT2.out.aft h7)
        clear h7
        go_wp2_with (first | (refine wpList_load_rowG (by kernel_rfl) 26 (.tmp 12) rfl _ rfl _ _ _ _ (HL.out.get 0 rfl) Try.underlying26 rfl (shp_info _ _) ?_) | (refine wpList_load_rowG (by kernel_rfl) 26 (.tmp 14) rfl _ rfl _ _ _ _ (HL.out.get 1 rfl) Try.underlying26 rfl (shp_info _ _) ?_))
        refine (tcheck_any _ _ i2 l2 _ HT2.out.ids.rd HT2.out.lv.rd (small_of HOk2.out)).mono ?_
        rintro e w8 ⟨rfl, h8⟩
        rw [chkT_zero.2 HOk2.out]
        replace HL := Lib.hid (HL.out.call h8)
        clear h8
        have hA := shp_i (HL.out.get 0 rfl)
        have hlen := HLen.out
        go_wp2_with fail
        go_ret
        exact ⟨rfl, HL.out.aft⟩
      · have h02 : ¬ c2 = 0 := fun q => h0 (HIff.out.2 q)
        clear HIff HEq HK1 HK2
        go_wp2_with (first | (refine wpList_allocO rfl 26 rfl (.cells (shpL (.slice none 0 0) (.slice none 0 0)).toArray 26) alloc_shp ?_; intro w' aa gg zz; replace HT1 := Lib.hid (HT1.out.aft aa); replace HT2 := Lib.hid (HT2.out.aft aa); replace HL := Lib.hid (HL.out.alloc aa gg.out); clear aa gg zz; try simp only [List.nil_append, List.cons_append, List.set_cons_zero, List.set_cons_succ] at HL) | (refine wpList_store_shp rfl (.tmp 14) (.tmp 73) _ _ _ (.slice a2 i2.length k2) (.slice b2 l2.length d2) rfl rfl rfl rfl rfl (HL.out.get 1 rfl) ?_; intro w9 q1 q2 q3; replace HT1 := Lib.hid (HT1.out.stored (HL.out.get 1 rfl) (by decide) (by decide) q2.out); replace HT2 := Lib.hid (HT2.out.stored (HL.out.get 1 rfl) (by decide) (by decide) q2.out); replace HL := Lib.hid (HL.out.store 1 rfl q1 q2 q3); clear q1 q2 q3; try simp only [List.nil_append, List.cons_append, List.set_cons_zero, List.set_cons_succ] at HL; have hA := shp_i (HL.out.get 0 rfl); have hB := shp_i (HL.out.get 1 rfl)))
        go_ret
        have HZ := Lib.hid (show (c1 != 0 && c2 != 0) = true by simp [h0, h02])
        exact ⟨by rw [← HZ.out]; rfl, HL.out.aft⟩
end Go.Proofs.Ytpnckphfjcnooaa
