/- The law RatchetOnce. -/
import Derived.Test.YtanodhagpegbfaaDoorROnceKit
namespace Go.Proofs.YtanodhagpegbfaaDoor
open Go Go.RowKit
set_option linter.unusedSimpArgs false

theorem wpList_dstR {P : Program} {ops : Array Oper} {rest : List Oper} {o : Oper} {a : Act} {w : World} {Q : Exit → Act → World → Prop} (n : Nat) (_ : o.dst = some n) (k : wpList P ops Q (o :: rest) a w) : wpList P ops Q (o :: rest) a w := k
def metL (met : List Bool) : List Value := met.map Value.bool
theorem make_met (w : World) : (Instr.makeSlice 84 (.int .i64 40) (.int .i64 40)).run Tryd.prog w = .ok (.slice (some ⟨w.heap.size, 0, none⟩) 40 40) (w.alloc (.cells (metL (List.replicate 40 false)).toArray 4)) := by kernel_rfl
theorem wpList_makeMet {ops : Array Oper} {rest : List Oper} {o : Oper} {a : Act} {w : World} {Q : Exit → Act → World → Prop} (hw : Region.wanted o (yielded ops a.tmps) = true) (ho : o.op = .makeSlice 84 (.const (.int .i64 40)) (.const (.int .i64 40)))
    (h : ∀ w', Aft w w' → Hid (w'.heap[w.heap.size]? = some (.cells (metL (List.replicate 40 false)).toArray 4 (0, 0))) → wpList Tryd.prog ops Q rest (a.put o.dst (.slice (some ⟨w.heap.size, 0, none⟩) 40 40)) w') : wpList Tryd.prog ops Q (o :: rest) a w := by
  unfold wpList
  rw [if_pos hw]
  refine .inl (wp_noOut ?_)
  unfold Oper.wp execOp
  simp only [ho, Act.eval, make_met w, Sem.run_bind, Result.andThen_ok, Sem.run_pure]
  exact h _ (Aft.alloc w _) (heap_alloc_new w _)
theorem met_at {w : World} {g : Nat} {met : List Bool} {t : TypeId} (h : w.heap[g]? = some (.cells (metL met).toArray t (0, 0))) {i : Nat} (hi : i < met.length) : w.cell? ⟨g, i, none⟩ = some (.bool (met.getD i false)) :=
  cell_part h (by unfold metL; rw [List.getElem?_map, List.getElem?_eq_getElem hi, List.getD_eq_getElem?_getD, List.getElem?_eq_getElem hi]; rfl)
theorem wpList_store_met {ops : Array Oper} {rest : List Oper} {o : Oper} {a : Act} {w : World} {Q : Exit → Act → World → Prop} (hgd : o.guard = none) (x y : Operand) (ho : o.op = .store 4 x y) (g i : Nat) (met : List Bool) (hi : i < met.length) (hx : a.eval x = .pointer (some ⟨g, i, none⟩)) (hy : a.eval y = .bool true)
    (hg : w.heap[g]? = some (.cells (metL met).toArray 4 (0, 0)))
    (h : ∀ w', Hid (w'.heap[g]? = some (.cells (metL (met.set i true)).toArray 4 (0, 0))) → Hid (∀ k, k ≠ g → w'.heap[k]? = w.heap[k]?) → (∀ k w0, k ≤ g → Below k w0 w → Below k w0 w') → wpList Tryd.prog ops Q rest (a.put o.dst undef) w') : wpList Tryd.prog ops Q (o :: rest) a w := by
  have e1 : metL met = (metL met).take i ++ ([.bool met[i]] ++ (metL met).drop (i + 1)) := by
    have h1 := List.take_append_drop i (metL met)
    have hl : i < (metL met).length := by simpa [metL] using hi
    rw [List.drop_eq_getElem_cons hl] at h1
    have h2 : (metL met)[i] = .bool met[i] := by simp [metL]
    rw [h2] at h1
    exact h1.symm
  have e2 : metL (met.set i true) = (metL met).take i ++ ([.bool true] ++ (metL met).drop (i + 1)) := by
    unfold metL
    rw [List.map_set, List.set_eq_take_append_cons_drop, if_pos (by simpa using hi)]
    rfl
  rw [e1] at hg
  refine wpList_store_part hgd _ x y ho g i (.bool true) hx hy _ ((metL met).take i) [.bool met[i]] [.bool true] ((metL met).drop (i + 1)) rfl (by simp [metL]; omega) hg (by kernel_rfl) rfl (fun u hu => by simp at hu; subst hu; rfl) ?_
  rw [← e2]
  exact h
theorem keys_at {C : List (BitVec 8)} {g cap n : Nat} {cur : Array Value} (hc : cur.toList.take (n * 32) = ksL (keyL C n)) (hn : n ≤ cap) (hm : cap ≤ maxLen) (hs : cur.size = cap * 32) {w : World} (h : w.heap[g]? = some (.cells cur 23 (0, 0))) {i : Nat} (hi : i < n) : Rd w (.slice (some ⟨g, i * 32, none⟩) 32 32) (bv (kyA C i)) := by
  have ho : OwnK w 0 (.slice (some ⟨g, 0, none⟩) n cap) (keyL C n) := by
    refine ⟨fun k hk => ?_, ?_, .inr ⟨g, cap, cur, by rw [keyL_length], Nat.zero_le _, h, by rw [keyL_length]; exact hn, hm, hs, by rw [keyL_length]; exact hc⟩⟩
    · obtain ⟨j, -, rfl⟩ := List.mem_map.1 hk
      exact kyA_length C j
    · exact ksL_length fun k hk => by
        obtain ⟨j, -, rfl⟩ := List.mem_map.1 hk
        exact kyA_length C j
  obtain ⟨g', o, d, e, -, hr⟩ := ho.rd.at (i := i) (by rw [keyL_length]; exact hi)
  injection e with e1 e2 e3
  cases e1
  rw [keyL_at C n i hi, Nat.zero_add] at hr
  exact hr
theorem Rd.of_sk {w : World} {g p : Nat} {z : Sk} (h : w.rangeAt g p (skL z)) : Rd w (.slice (some ⟨g, p + 1, none⟩) 32 32) (bv z.1.2) := by
  have hX := z.2.2
  refine ⟨some ⟨g, p + 1, none⟩, 32, by rw [bv_length, hX], by rw [bv_length]; omega, by omega, (fun h => by cases h), fun ad ha j u hu => ?_⟩
  cases ha
  rw [Addr.add_lit]
  have := h (j + 1) u (by unfold skL; rw [List.getElem?_cons_succ]; exact hu)
  rwa [show p + 1 + j = p + (j + 1) by omega]
theorem stE_zero {z : Int} (h : stE z = 0) : 0 ≤ z ∧ z ≤ 1048576 := by
  unfold stE at h
  split at h
  · assumption
  · cases h
theorem stE_one {z : Int} (h : stE z ≠ 0) : z < 0 ∨ 1048576 < z := by
  unfold stE at h
  split at h
  · exact absurd rfl h
  · omega
set_option maxRecDepth 100000 in
set_option maxHeartbeats 2000000 in
theorem ratchetOnce_any (k : List (BitVec 8)) (z : Int) (v : Value) (ts : List (BitVec 8)) (w : World) (hK : TabK K0 2 w) (hk : k.length = 32) (hr : Rd w v (bv ts)) :
    Calls Tryd.prog 15 #[.agg (bv k).toArray, .int .i64 z, v] w fun r w' => r = .returned (.bool true) ∧ Below w.heap.size w w' := by
  have HR := Lib.hid hr
  obtain ⟨a, cap, rfl, -⟩ := hr
  rw [bv_length]
  have HK := Lib.hid hK
  have HKl := Lib.hid hk
  have HLv := Lib.hid (fun (wx : World) (h : Aft w wx) => live15_any wx (TabK_fr HK.out (Fr.of_below (S := fun _ => False) h) (fun h => h)))
  have HS := Lib.hid (fun (wx : World) (h : Aft w wx) => start_any k z wx (TabK_fr HK.out (Fr.of_below (S := fun _ => False) h) (fun h => h)) hk)
  have HE := Lib.hid (stE_one (z := z))
  have HC := Lib.hid (stC_length k z)
  generalize stC k z = C at *
  generalize stE z = e at *
  have HN := Lib.hid (fun (i : Nat) (hi : i < 40) (ao : Option Addr) (cp : Nat) (wx : World) (h : Aft w wx) (hI : Sks wx.heap.size wx (.slice ao 0 cp) []) => rnext_any (chn C i) i ao cp [] wx (TabK_fr HK.out (Fr.of_below (S := fun _ => False) h) (fun h => h)) (chn_length HC.out i) (by omega) (by simp) hI)
  have HL := Lib.hid (Led.start w)
  clear hK hk
  go_enter Tryd.func15, Tryd.ntmps15
  go_wp2_with (first | (refine wpList_boxO rfl 23 (.tmp 0) rfl (.agg (bv k).toArray) rfl (.cells (bv k).toArray 23) (box_key _) ?_; intro w' aa gg zz; (try replace HO := Lib.hid (HO.out.aft aa)); (try replace HO2 := Lib.hid (HO2.out.aft aa)); (try replace HOK := Lib.hid (HOK.out.aft aa)); replace HL := Lib.hid (HL.out.alloc aa gg.out); clear aa gg zz; try simp only [List.nil_append, List.cons_append, List.set_cons_zero, List.set_cons_succ] at HL))
  refine (HLv.out _ HL.out.aft).mono ?_
  rintro r w2 ⟨rfl, h2⟩
  replace HL := Lib.hid (HL.out.call h2)
  clear h2 HLv
  by_cases h60 : (60 : Int) < (ts.length : Nat)
  · go_wp2_with fail
    go_ret
    exact ⟨rfl, HL.out.aft⟩
  go_wp2_with (first | (refine wpList_load_rowG (by kernel_rfl) 23 (.tmp 3) rfl _ rfl _ _ _ _ (HL.out.get 0 rfl) Tryd.underlying23 rfl (key_info HKl.out) ?_))
  refine (HS.out _ HL.out.aft).mono ?_
  rintro r w3 ⟨rfl, h3⟩
  replace HL := Lib.hid (HL.out.call h3)
  clear h3 HS
  by_cases he : e = 0
  rotate_left
  · rcases HE.out he with hz | hz
    · go_wp2_with (first | (refine wpList_allocO rfl 71 rfl (.cells (ratL (List.replicate 32 0) 0 (.slice none 0 0)).toArray 71) alloc_rat ?_; intro w' aa gg zz; (try replace HO := Lib.hid (HO.out.aft aa)); (try replace HO2 := Lib.hid (HO2.out.aft aa)); (try replace HOK := Lib.hid (HOK.out.aft aa)); replace HL := Lib.hid (HL.out.alloc aa gg.out); clear aa gg zz; try simp only [List.nil_append, List.cons_append, List.set_cons_zero, List.set_cons_succ] at HL) | (refine wpList_store_ratZ rfl (.tmp 8) (.tmp 35) _ (C) (0) (.slice none 0 0) HC.out rfl rfl rfl rfl _ (HL.out.get 1 rfl) (rat_old List.length_replicate) ?_; intro w' b1 b2 b3; (try replace HO := Lib.hid (HO.out.stored (HL.out.get 1 rfl) (by decide) b2.out)); (try replace HO2 := Lib.hid (HO2.out.stored (HL.out.get 1 rfl) (by decide) b2.out)); (try replace HOK := Lib.hid (HOK.out.stored (HL.out.get 1 rfl) (by decide) b2.out)); replace HL := Lib.hid (HL.out.store 1 rfl b1 b2 b3); clear b1 b2 b3; try simp only [List.nil_append, List.cons_append, List.set_cons_zero, List.set_cons_succ] at HL))
      go_ret
      exact ⟨rfl, HL.out.aft⟩
    · have hz0 : ¬ z < 0 := by omega
      go_wp2_with (first | (refine wpList_allocO rfl 71 rfl (.cells (ratL (List.replicate 32 0) 0 (.slice none 0 0)).toArray 71) alloc_rat ?_; intro w' aa gg zz; (try replace HO := Lib.hid (HO.out.aft aa)); (try replace HO2 := Lib.hid (HO2.out.aft aa)); (try replace HOK := Lib.hid (HOK.out.aft aa)); replace HL := Lib.hid (HL.out.alloc aa gg.out); clear aa gg zz; try simp only [List.nil_append, List.cons_append, List.set_cons_zero, List.set_cons_succ] at HL) | (refine wpList_store_ratZ rfl (.tmp 8) (.tmp 35) _ (C) (0) (.slice none 0 0) HC.out rfl rfl rfl rfl _ (HL.out.get 1 rfl) (rat_old List.length_replicate) ?_; intro w' b1 b2 b3; (try replace HO := Lib.hid (HO.out.stored (HL.out.get 1 rfl) (by decide) b2.out)); (try replace HO2 := Lib.hid (HO2.out.stored (HL.out.get 1 rfl) (by decide) b2.out)); (try replace HOK := Lib.hid (HOK.out.stored (HL.out.get 1 rfl) (by decide) b2.out)); replace HL := Lib.hid (HL.out.store 1 rfl b1 b2 b3); clear b1 b2 b3; try simp only [List.nil_append, List.cons_append, List.set_cons_zero, List.set_cons_succ] at HL))
      go_ret
      exact ⟨rfl, HL.out.aft⟩
  subst he
  go_wp2_with (first | (refine wpList_allocO rfl 71 rfl (.cells (ratL (List.replicate 32 0) 0 (.slice none 0 0)).toArray 71) alloc_rat ?_; intro w4 aa gg zz; replace HL := Lib.hid (HL.out.alloc aa gg.out); clear aa gg zz; try simp only [List.nil_append, List.cons_append, List.set_cons_zero, List.set_cons_succ] at HL) | (refine wpList_store_ratZ rfl (.tmp 8) (.tmp 35) _ C 0 (.slice none 0 0) HC.out rfl rfl rfl rfl _ (HL.out.get 1 rfl) (rat_old List.length_replicate) ?_; intro w5 b1 b2 b3; replace HL := Lib.hid (HL.out.store 1 rfl b1 b2 b3); clear b1 b2 b3; try simp only [List.nil_append, List.cons_append, List.set_cons_zero, List.set_cons_succ] at HL) | (refine wpList_load_rowG (by kernel_rfl) 71 (.tmp 8) rfl _ rfl _ _ _ _ (HL.out.get 1 rfl) Tryd.underlying71 rfl (rat_info HC.out) ?_) | (refine wpList_store_ratZ rfl (.tmp 11) (.tmp 48) _ (C) (0) (.slice none 0 0) HC.out rfl rfl rfl rfl _ (HL.out.get 2 rfl) (rat_old List.length_replicate) ?_; intro w' b1 b2 b3; (try replace HO := Lib.hid (HO.out.stored (HL.out.get 2 rfl) (by decide) b2.out)); (try replace HO2 := Lib.hid (HO2.out.stored (HL.out.get 2 rfl) (by decide) b2.out)); (try replace HOK := Lib.hid (HOK.out.stored (HL.out.get 2 rfl) (by decide) b2.out)); replace HL := Lib.hid (HL.out.store 2 rfl b1 b2 b3); clear b1 b2 b3; try simp only [List.nil_append, List.cons_append, List.set_cons_zero, List.set_cons_succ] at HL))
  simp only [Act.put, List.setIfInBounds_toArray, List.set_cons_succ, List.set_cons_zero]
  go_loopw [10, 11] (fun v10 v11 wr => ∃ (i gs : Nat) (ao : Option Addr) (cp : Nat), i ≤ 40 ∧ v11 = .pointer (some ⟨gs, 0, none⟩) ∧ OwnK wr (w3.heap.size + 1) v10 (keyL C i) ∧ Sks wr.heap.size wr (.slice ao 0 cp) [] ∧ Led w wr [(w.heap.size, .cells (bv k).toArray 23), (w3.heap.size, .cells (ratL C 0 (.slice none 0 0)).toArray 71), (gs, .cells (ratL (chn C i) i (.slice ao 0 cp)).toArray 71)]) (fun v _ _ => 40 - lenV v)
  case atStart => exact ⟨0, w5.heap.size, none, 0, by omega, rfl, OwnK.nil _ _, .inl ⟨rfl, rfl⟩, HL.out⟩
  case round =>
    have HB0 := Lib.hid (HL.out.inc 0 1 _ _ _ _ (by decide) rfl rfl)
    clear HL
    obtain ⟨i, gs, ao, cp, hi, rfl, hO, hI, hL⟩ := hrel
    obtain ⟨ak, ck, rfl⟩ := hO.shape
    rw [keyL_length] at hO ⊢
    have HL := Lib.hid hL
    have HOK := Lib.hid hO
    have HI := Lib.hid hI
    clear hL hO hI
    by_cases hlt : i < 40
    · obtain ⟨n1, n2, n3, n4, n5⟩ := next_none (chn C i) hlt
      have hn := HN.out i hlt ao cp
      rw [n1, n2, n3, n4, n5, show drvKey (chn C i) keyS [] = kyA C i from rfl, show drvKey (chn C i) chainS [] = chn C (i + 1) from rfl] at hn
      have HNx := Lib.hid hn
      have HCi := Lib.hid (chn_length HC.out i)
      have HX := Lib.hid (kyA_length C i)
      have HY := Lib.hid (chn_length HC.out (i + 1))
      have HKs := Lib.hid (keyL_succ C i)
      clear hn n1 n2 n3 n4 n5
      generalize kyA C i = X at *
      generalize hYg : chn C (i + 1) = Y at *
      have HYg := Lib.hid hYg
      clear hYg
      have hlt' : (i : Int) < 40 := by omega
      obtain ⟨zi, hzi⟩ : ∃ zi : Int, zi = (i : Int) := ⟨_, rfl⟩
      have HZi := Lib.hid hzi
      have hw : IntKind.u64.wrap (zi + 1) = zi + 1 := by
        have e2 : ∀ x : Int, IntKind.u64.wrap x = x % 18446744073709551616 := fun _ => rfl
        rw [e2]
        omega
      have HZi1 := Lib.hid (show ((i + 1 : Nat) : Int) = zi + 1 by omega)
      clear hzi
      go_wp2_with (first | (refine wpList_load_rowG (by kernel_rfl) 71 (.tmp 11) rfl _ rfl _ _ _ _ (HL.out.get 2 rfl) Tryd.underlying71 rfl (rat_info HCi.out) ?_))
      refine (HNx.out _ HL.out.aft HI.out).mono ?_
      rintro r w6 ⟨v6, rfl, ho, h6⟩
      obtain ⟨ao', cp', rfl⟩ := ho.shape
      have HI2 := Lib.hid ho.sks
      replace HOK := Lib.hid (HOK.out.aft h6)
      have HNK := Lib.hid HOK.out.lt
      replace HL := Lib.hid (HL.out.call h6)
      clear h6 ho HNx hlt
      rw [show ([] : List Sk).length = 0 from rfl] at HI2 ⊢
      go_wp2_with (first | (refine wpList_allocO rfl 23 rfl (.cells key0 23) alloc_key ?_; intro w7 aa gg zz; have HA7 := Lib.hid aa; replace HOK := Lib.hid (HOK.out.aft aa); replace HL := Lib.hid (HL.out.alloc aa gg.out); clear aa gg zz; try simp only [List.nil_append, List.cons_append, List.set_cons_zero, List.set_cons_succ] at HL) | (refine wpList_allocO rfl 71 rfl (.cells (ratL (List.replicate 32 0) 0 (.slice none 0 0)).toArray 71) alloc_rat ?_; intro w8 aa gg zz; replace HOK := Lib.hid (HOK.out.aft aa); replace HL := Lib.hid (HL.out.alloc aa gg.out); clear aa gg zz; try simp only [List.nil_append, List.cons_append, List.set_cons_zero, List.set_cons_succ] at HL) | (refine wpList_store_keyZ rfl (.tmp 12) (.tmp 55) rfl _ X HX.out rfl rfl _ (HL.out.get 3 rfl) key0_size ?_; intro w9 b1 b2 b3; replace HOK := Lib.hid (HOK.out.keep (fun g hg => b2.out g (by have := (HNK.out g hg).2; omega))); replace HL := Lib.hid (HL.out.store 3 rfl b1 b2 b3); clear b1 b2 b3; try simp only [List.nil_append, List.cons_append, List.set_cons_zero, List.set_cons_succ] at HL) | (refine wpList_store_ratZ rfl (.tmp 13) (.tmp 56) _ Y (i + 1) (.slice ao' 0 cp') HY.out rfl rfl rfl rfl _ (HL.out.get 4 rfl) (rat_old List.length_replicate) ?_; intro w10 b1 b2 b3; replace HOK := Lib.hid (HOK.out.stored (HL.out.get 4 rfl) (by decide) b2.out); replace HL := Lib.hid (HL.out.store 4 rfl b1 b2 b3); clear b1 b2 b3; try simp only [List.nil_append, List.cons_append, List.set_cons_zero, List.set_cons_succ] at HL; have hn4 := rat_n (HL.out.get 4 rfl) HY.out; have hn2 := rat_n (HL.out.get 2 rfl) HCi.out; rw [HZi1.out] at hn4; rw [← HZi.out] at hn2) | (refine wpList_load_rowG (by kernel_rfl) 23 (.tmp 12) rfl _ rfl _ _ _ _ (HL.out.get 3 rfl) Tryd.underlying23 rfl (key_info HX.out) ?_) | (refine wpList_keySliceR (by kernel_rfl) (.tmp 69) rfl X HX.out rfl ?_; intro w11 aa gg; have HSg := gg; replace HOK := Lib.hid (HOK.out.aft aa); replace HL := Lib.hid (HL.out.call aa); clear aa gg) | (at_builtin; refine wpList_append_keyR (by kernel_rfl) (.tmp 68) (.tmp 70) rfl (w3.heap.size + 1) _ (keyL C i) rfl HOK.out _ rfl X HX.out _ _ HSg.out (by rw [keyL_length]; omega) (heap_lt (HL.out.get 1 rfl)) ?_; intro v' w12 k1 k2; replace HL := Lib.hid (HL.out.grownK HOK.out (by have := HL.out.le 1 rfl; omega) k2 (by intro q hq j g cs fr hj; have h1 := HNK.out q hq; have h2 := HL.out.le 1 rfl; rcases j with _ | _ | _ | _ | _ | j <;> simp at hj <;> (obtain ⟨h3, -⟩ := hj; omega))); replace HOK := Lib.hid k1; clear k2; obtain ⟨ak', ck', rfl⟩ := k1.shape; clear k1) | (refine wpList_load_rowG (by kernel_rfl) 71 (.tmp 13) rfl _ rfl _ _ _ _ (HL.out.get 4 rfl) Tryd.underlying71 rfl (rat_info HY.out) ?_) | (refine wpList_store_ratZ rfl (.tmp 11) (.tmp 72) _ (Y) (i + 1) (.slice ao' 0 cp') HY.out rfl rfl rfl rfl _ (HL.out.get 2 rfl) (rat_old HCi.out) ?_; intro w' b1 b2 b3; (try replace HO := Lib.hid (HO.out.stored (HL.out.get 2 rfl) (by decide) b2.out)); (try replace HO2 := Lib.hid (HO2.out.stored (HL.out.get 2 rfl) (by decide) b2.out)); (try replace HOK := Lib.hid (HOK.out.stored (HL.out.get 2 rfl) (by decide) b2.out)); replace HL := Lib.hid (HL.out.store 2 rfl b1 b2 b3); clear b1 b2 b3; try simp only [List.nil_append, List.cons_append, List.set_cons_zero, List.set_cons_succ] at HL) | (refine wpList_load_rowG (by kernel_rfl) 71 (.tmp 11) rfl _ rfl _ _ _ _ (HL.out.get 2 rfl) Tryd.underlying71 rfl (rat_info HY.out) ?_) | (refine wpList_store_ratZ rfl (.tmp 11) (.tmp 73) _ (Y) (i + 1) (.slice ao' 0 cp') HY.out rfl rfl rfl rfl _ (HL.out.get 5 rfl) (rat_old List.length_replicate) ?_; intro w' b1 b2 b3; (try replace HO := Lib.hid (HO.out.stored (HL.out.get 5 rfl) (by decide) b2.out)); (try replace HO2 := Lib.hid (HO2.out.stored (HL.out.get 5 rfl) (by decide) b2.out)); (try replace HOK := Lib.hid (HOK.out.stored (HL.out.get 5 rfl) (by decide) b2.out)); replace HL := Lib.hid (HL.out.store 5 rfl b1 b2 b3); clear b1 b2 b3; try simp only [List.nil_append, List.cons_append, List.set_cons_zero, List.set_cons_succ] at HL))
      simp only [Act.put, List.setIfInBounds_toArray, List.set_cons_succ, List.set_cons_zero]
      go_roundw
      case rel =>
        refine ⟨i + 1, _, ao', cp', by omega, rfl, ?_, HI2.out.nilGrow (Nat.le_of_lt (heap_lt (HL.out.get 3 rfl))), ?_⟩
        · have h := HOK.out
          rw [← HKs.out] at h
          have e : (keyL C (i + 1)).length = (keyL C i).length + 1 := by rw [keyL_length, keyL_length]
          try rw [e] at h
          exact h
        · rw [HYg.out]
          exact ((HL.out.skip 2).skip 2).skip 2
      case measure =>
        have := keyL_length C i
        simp [lenV]
        omega
    · obtain rfl : i = 40 := by omega
      have hlt' : ¬ ((40 : Nat) : Int) < 40 := by omega
      clear HN hlt
      rcases HOK.out.2.2 with ⟨he, -⟩ | ⟨gk, cap2, cur, he, hbk, hgk, hck1, hck2, hck3, hck4⟩
      · cases he
      injection he with e1 e2 e3
      subst e1 e3
      have HL3 : Hid (Led w wr [(w.heap.size, .cells (bv k).toArray 23), (w3.heap.size, .cells (ratL C 0 (.slice none 0 0)).toArray 71), (gk, .cells cur 23 (0, 0))]) := Lib.hid ((HL.out.skip 2).add hgk (by have := HL.out.le 1 rfl; omega) (by
        intro i k' p hp
        rcases i with _ | _ | i
        · simp at hp
          obtain ⟨h3, -⟩ := hp
          have := HL.out.le 1 rfl
          omega
        · simp at hp
          obtain ⟨h3, -⟩ := hp
          omega
        · simp at hp))
      replace HL := HL3
      rw [keyL_length] at hck1 hck4
      have HKR := Lib.hid (fun (wx : World) (h : wx.heap[gk]? = some (.cells cur 23 (0, 0))) (i : Nat) (hi : i < 40) => keys_at hck4 hck1 hck2 hck3 h hi)
      clear HL3 HOK HI e2 hbk hgk hck1 hck2 hck3 hck4 hlt'
      go_wp2_with (first | (refine wpList_makeMet (by kernel_rfl) rfl ?_; intro w5m aa gg; replace HL := Lib.hid (HL.out.alloc aa gg.out); clear aa gg; try simp only [List.nil_append, List.cons_append, List.set_cons_zero, List.set_cons_succ] at HL))
      have HT := Lib.hid (fun (met : List Bool) (G t : Nat) (hG : G ≤ 40) (ht : t < 40) (ao : Option Addr) (cp : Nat) (wx : World) (h : Aft w wx) (hI : Sks wx.heap.size wx (.slice ao (lfZ C met G).length cp) (lfZ C met G)) => (rtake_any (chn C G) G t ao cp (lfZ C met G) wx (TabK_fr HK.out (Fr.of_below (S := fun _ => False) h) (fun h => h)) (chn_length HC.out G) (by omega) (by omega) (by rw [lfZ_length]; have := lf_length met G; omega) hI).mono fun _ _ h => h.as)
      have HTs := Lib.hid h60
      clear hi h60
      obtain ⟨W5, hW5⟩ : ∃ W5, W5 = wr := ⟨_, rfl⟩
      subst hW5
      go_loopw [77] (fun v77 wy => ∃ (j : Nat) (met : List Bool) (G : Nat) (ao : Option Addr) (cp : Nat), j ≤ ts.length ∧ v77 = .int .i64 (j : Int) ∧ met.length = 40 ∧ G ≤ 40 ∧ (∀ i, met.getD i false = true → i < G) ∧ OwnS wy w.heap.size (.slice ao (lfZ C met G).length cp) (lfZ C met G) ∧ Led w wy [(w.heap.size, .cells (bv k).toArray 23), (w3.heap.size, .cells (ratL (chn C G) G (.slice ao (lfZ C met G).length cp)).toArray 71), (gk, .cells cur 23 (0, 0)), (W5.heap.size, .cells (metL met).toArray 4)]) (fun v _ => ts.length - (intOf v).toNat)
      case atStart => exact ⟨0, List.replicate 40 false, 0, none, 0, by omega, rfl, List.length_replicate, by omega, (fun i hi => by rw [List.getD_eq_getElem?_getD, List.getElem?_replicate] at hi; split at hi <;> cases hi), OwnS.nil _ _, HL.out⟩
      case round =>
        clear HL
        obtain ⟨j, met, G, ao, cp, hj, rfl, hml, hG, hmb, hO, hL⟩ := hrel
        have HL := Lib.hid hL
        have HO := Lib.hid hO
        have HMl := Lib.hid hml
        have HGl := Lib.hid hG
        have HMb := Lib.hid hmb
        have HCG := Lib.hid (chn_length HC.out G)
        clear hL hO hml hG hmb
        by_cases hlt : j < ts.length
        · have hlt' : (j : Int) < (ts.length : Nat) := by omega
          have hts : (0 : Nat) < (bv ts).length := by rw [bv_length]; omega
          obtain ⟨gt, ot, rfl, -, -⟩ := HR.out.some_of hts
          have hcell := (HR.out.grow HL.out.aft).cell_at hlt
          generalize ts.getD j 0 = x at *
          obtain ⟨t, ht⟩ : ∃ t, t = x.toNat % 40 := ⟨_, rfl⟩
          have ht40 : t < 40 := by omega
          have hbx : (bn x) = (x.toNat : Int) := rfl
          have hrem : (bn x).tmod 40 = (t : Int) := by
            rw [hbx, Int.tmod_eq_emod_of_nonneg (by omega)]
            omega
          have hw1 : wrap64 (t : Int) = (t : Int) := by unfold wrap64; omega
          have hw2 : IntKind.u64.wrap (t : Int) = (t : Int) := by
            have e2 : ∀ x : Int, IntKind.u64.wrap x = x % 18446744073709551616 := fun _ => rfl
            rw [e2]
            omega
          have HT40 := Lib.hid ht40
          have hMt := fun (wx : World) (h : wx.heap[W5.heap.size]? = some (.cells (metL met).toArray 4 (0, 0))) => met_at (i := t) h (by rw [HMl.out]; exact HT40.out)
          have hTa := HT.out met G t HGl.out ht40 ao cp
          have hYl := tkC_length (chn_length HC.out G) G (lfZ C met G) t
          cases hm : met.getD t false with
          | true =>
            rw [hm] at hMt
            have HMt := Lib.hid hMt
            obtain ⟨q1, q2⟩ := once_met (C := C) HGl.out HMb.out ht40 hm
            rw [q1, q2] at hTa
            generalize tkC (chn C G) G (lfZ C met G) t = Y at hTa hYl
            generalize tkG G (lfZ C met G) t = M at hTa
            generalize tkZ (chn C G) G (lfZ C met G) t = Z at hTa
            have HTa := Lib.hid hTa
            have HY := Lib.hid hYl
            clear hTa hYl q1 q2 hbx ht hts hlt hm hMt
            go_wp2_with (first | (refine wpList_load_rowG (by kernel_rfl) 71 (.tmp 8) rfl _ rfl _ _ _ _ (HL.out.get 1 rfl) Tryd.underlying71 rfl (rat_info HCG.out) ?_))
            refine (HTa.out _ HL.out.aft HO.out.sks).mono ?_
            rintro r w6 ⟨ao2, cp2, rfl, -, h6⟩
            replace HO := Lib.hid (HO.out.aft h6)
            replace HL := Lib.hid (HL.out.call h6)
            clear h6
            go_wp2_with (first | (refine wpList_allocO rfl 23 rfl (.cells key0 23) alloc_key ?_; intro w' aa gg zz; (try replace HO := Lib.hid (HO.out.aft aa)); (try replace HO2 := Lib.hid (HO2.out.aft aa)); (try replace HOK := Lib.hid (HOK.out.aft aa)); replace HL := Lib.hid (HL.out.alloc aa gg.out); clear aa gg zz; try simp only [List.nil_append, List.cons_append, List.set_cons_zero, List.set_cons_succ] at HL) | (refine wpList_allocO rfl 71 rfl (.cells (ratL (List.replicate 32 0) 0 (.slice none 0 0)).toArray 71) alloc_rat ?_; intro w' aa gg zz; (try replace HO := Lib.hid (HO.out.aft aa)); (try replace HO2 := Lib.hid (HO2.out.aft aa)); (try replace HOK := Lib.hid (HOK.out.aft aa)); replace HL := Lib.hid (HL.out.alloc aa gg.out); clear aa gg zz; try simp only [List.nil_append, List.cons_append, List.set_cons_zero, List.set_cons_succ] at HL) | (refine wpList_store_keyZ rfl (.tmp 19) (.tmp 89) rfl _ (List.replicate 32 0) List.length_replicate rfl rfl _ (HL.out.get 4 rfl) key0_size ?_; intro w' b1 b2 b3; (try replace HO := Lib.hid (HO.out.stored (HL.out.get 4 rfl) (by decide) b2.out)); (try replace HO2 := Lib.hid (HO2.out.stored (HL.out.get 4 rfl) (by decide) b2.out)); (try replace HOK := Lib.hid (HOK.out.stored (HL.out.get 4 rfl) (by decide) b2.out)); replace HL := Lib.hid (HL.out.store 4 rfl b1 b2 b3); clear b1 b2 b3; try simp only [List.nil_append, List.cons_append, List.set_cons_zero, List.set_cons_succ] at HL) | (refine wpList_store_ratZ rfl (.tmp 20) (.tmp 90) _ (Y) (M) (.slice ao2 Z.length cp2) HY.out rfl rfl rfl rfl _ (HL.out.get 5 rfl) (rat_old List.length_replicate) ?_; intro w' b1 b2 b3; (try replace HO := Lib.hid (HO.out.stored (HL.out.get 5 rfl) (by decide) b2.out)); (try replace HO2 := Lib.hid (HO2.out.stored (HL.out.get 5 rfl) (by decide) b2.out)); (try replace HOK := Lib.hid (HOK.out.stored (HL.out.get 5 rfl) (by decide) b2.out)); replace HL := Lib.hid (HL.out.store 5 rfl b1 b2 b3); clear b1 b2 b3; try simp only [List.nil_append, List.cons_append, List.set_cons_zero, List.set_cons_succ] at HL; have hmt := HMt.out _ (HL.out.get 3 rfl)) | (refine wpList_load_rowG (by kernel_rfl) 23 (.tmp 19) rfl _ rfl _ _ _ _ (HL.out.get 4 rfl) Tryd.underlying23 rfl (key_info List.length_replicate) ?_) | (refine wpList_binG (by kernel_rfl) .neq 23 23 (.tmp 99) (.tmp 100) rfl (.agg (bv (List.replicate 32 0)).toArray) (.agg key0) _ rfl rfl (run_neq_zero List.length_replicate true (by decide)) (guard_key _ _ _ _ _) ?_))
            go_roundw
            case rel => exact ⟨j + 1, met, G, ao, cp, by omega, by simp, HMl.out, HGl.out, HMb.out, HO.out, (HL.out.skip 4).skip 4⟩
            case measure => simp [intOf]; omega
          | false =>
            rw [hm] at hMt
            have HMt := Lib.hid hMt
            obtain ⟨q1, q2, q3, q4, q5, q6⟩ := once_new (C := C) HGl.out HMl.out HMb.out ht40 hm
            rw [q1, q2, q3, q4, q5] at hTa
            rw [q3] at hYl
            have hG2 : max G (t + 1) ≤ 40 := by have := HGl.out; omega
            have hck := chk_lf C (met.set t true) hG2
            have hKt := fun (wx : World) (h : wx.heap[gk]? = some (.cells cur 23 (0, 0))) => HKR.out wx h t HT40.out
            have hX := kyA_length C t
            have HG2 := Lib.hid hG2
            have HMb2 := Lib.hid q6
            have hlz := lfZ_length C (met.set t true) (max G (t + 1))
            have hln := lf_length (met.set t true) (max G (t + 1))
            generalize max G (t + 1) = G2 at *
            generalize kyA C t = X at *
            obtain ⟨Y, hYe⟩ : ∃ Y, Y = chn C G2 := ⟨_, rfl⟩
            obtain ⟨Z, hZe⟩ : ∃ Z, Z = lfZ C (met.set t true) G2 := ⟨_, rfl⟩
            rw [← hYe] at hTa hYl
            rw [← hZe] at hTa hck hlz
            have HYe := Lib.hid hYe
            have HZe := Lib.hid hZe
            have HTa := Lib.hid hTa
            have HY := Lib.hid hYl
            have HX := Lib.hid hX
            have HKt := Lib.hid hKt
            have HCk := Lib.hid (fun (wx : World) (ao2 : Option Addr) (cp2 : Nat) (ho : Sks wx.heap.size wx (.slice ao2 Z.length cp2) Z) => check_any Y G2 ao2 cp2 Z wx HY.out (by omega) (by omega) ho)
            rw [hck] at HCk
            clear hTa hYl q1 q2 q3 q4 q5 q6 hbx ht hts hlt hm hMt hG2 hck hKt hX hlz hln hYe hZe
            go_wp2_with (first | (refine wpList_load_rowG (by kernel_rfl) 71 (.tmp 8) rfl _ rfl _ _ _ _ (HL.out.get 1 rfl) Tryd.underlying71 rfl (rat_info HCG.out) ?_))
            refine (HTa.out _ HL.out.aft HO.out.sks).mono ?_
            rintro r w6 ⟨ao2, cp2, rfl, ho, h6⟩
            have hb6 := Below.size HL.out.aft
            have HO2 := Lib.hid (ho.mono hb6)
            replace HL := Lib.hid (HL.out.call h6)
            clear h6 ho hb6 HO
            go_wp2_with (first | (refine wpList_allocO rfl 23 rfl (.cells key0 23) alloc_key ?_; intro w' aa gg zz; (try replace HO := Lib.hid (HO.out.aft aa)); (try replace HO2 := Lib.hid (HO2.out.aft aa)); (try replace HOK := Lib.hid (HOK.out.aft aa)); replace HL := Lib.hid (HL.out.alloc aa gg.out); clear aa gg zz; try simp only [List.nil_append, List.cons_append, List.set_cons_zero, List.set_cons_succ] at HL) | (refine wpList_allocO rfl 71 rfl (.cells (ratL (List.replicate 32 0) 0 (.slice none 0 0)).toArray 71) alloc_rat ?_; intro w' aa gg zz; (try replace HO := Lib.hid (HO.out.aft aa)); (try replace HO2 := Lib.hid (HO2.out.aft aa)); (try replace HOK := Lib.hid (HOK.out.aft aa)); replace HL := Lib.hid (HL.out.alloc aa gg.out); clear aa gg zz; try simp only [List.nil_append, List.cons_append, List.set_cons_zero, List.set_cons_succ] at HL) | (refine wpList_store_keyZ rfl (.tmp 19) (.tmp 89) rfl _ X HX.out rfl rfl _ (HL.out.get 4 rfl) key0_size ?_; intro w' b1 b2 b3; (try replace HO := Lib.hid (HO.out.stored (HL.out.get 4 rfl) (by decide) b2.out)); (try replace HO2 := Lib.hid (HO2.out.stored (HL.out.get 4 rfl) (by decide) b2.out)); (try replace HOK := Lib.hid (HOK.out.stored (HL.out.get 4 rfl) (by decide) b2.out)); replace HL := Lib.hid (HL.out.store 4 rfl b1 b2 b3); clear b1 b2 b3; try simp only [List.nil_append, List.cons_append, List.set_cons_zero, List.set_cons_succ] at HL) | (refine wpList_store_ratZ rfl (.tmp 20) (.tmp 90) _ (Y) (G2) (.slice ao2 Z.length cp2) HY.out rfl rfl rfl rfl _ (HL.out.get 5 rfl) (rat_old List.length_replicate) ?_; intro w' b1 b2 b3; (try replace HO := Lib.hid (HO.out.stored (HL.out.get 5 rfl) (by decide) b2.out)); (try replace HO2 := Lib.hid (HO2.out.stored (HL.out.get 5 rfl) (by decide) b2.out)); (try replace HOK := Lib.hid (HOK.out.stored (HL.out.get 5 rfl) (by decide) b2.out)); replace HL := Lib.hid (HL.out.store 5 rfl b1 b2 b3); clear b1 b2 b3; try simp only [List.nil_append, List.cons_append, List.set_cons_zero, List.set_cons_succ] at HL; have hmt := HMt.out _ (HL.out.get 3 rfl)) | (refine wp_region_lex (fun wz => ∃ u : Later w'.heap.size w', wz = u.w) (fun i => ([12] : List Nat).contains i) 15 (by kernel_rfl) (by kernel_rfl) ⟨⟨w'.drew, (Below.refl _ _).drew⟩, rfl⟩ ?_))
            change wpLx _ _ _ _ _ _ _ _ _ w'.drew
            have HD := Lib.hid (show Aft w' w'.drew from (Below.refl _ _).drew)
            generalize w'.drew = wd at *
            try simp only [Act.put]
            repeat (first | (refine lx_skipT (by go_big_quiet_skip; exact wpQuiet_nil trivial) (by kernel_rfl) ?_; simp only [Act.put, List.setIfInBounds_toArray, List.set_cons_succ, List.set_cons_zero]) | (refine lx_quietT rfl (by go_big_quiet_want; exact quiet_false (by assumption)) (by kernel_rfl) rfl ?_; intro Kx hKx; go_big_quiet_op; go_big_quiet_on))
            refine lx_load_agg rfl (by kernel_rfl) 23 (.tmp 19) rfl ⟨_, 0, none⟩ rfl (bv X).toArray (fun wz h => by obtain ⟨u, rfl⟩ := h; exact run_loadVar_row _ _ _ _ _ _ _ (Aft.get u.h (HL.out.get 4 rfl)) Tryd.underlying23 rfl (key_info HX.out)) ?_
            simp only [Act.put, List.setIfInBounds_toArray, List.set_cons_succ, List.set_cons_zero]
            repeat (first | (refine lx_skipT (by go_big_quiet_skip; exact wpQuiet_nil trivial) (by kernel_rfl) ?_; simp only [Act.put, List.setIfInBounds_toArray, List.set_cons_succ, List.set_cons_zero]) | (refine lx_quietT rfl (by go_big_quiet_want; exact quiet_false (by assumption)) (by kernel_rfl) rfl ?_; intro Kx hKx; go_big_quiet_op; go_big_quiet_on))
            refine lx_key rfl (by kernel_rfl) (.tmp 109) rfl gk (t * 32) rfl X HX.out (fun wz h => by obtain ⟨u, rfl⟩ := h; exact HKt.out _ (Aft.get u.h (HL.out.get 2 rfl))) ?_
            simp only [Act.put, List.setIfInBounds_toArray, List.set_cons_succ, List.set_cons_zero]
            refine lx_bin rfl (by kernel_rfl) .neq 23 23 (.tmp 106) (.tmp 110) rfl (.agg (bv X).toArray) (.agg (bv X).toArray) (.bool false) rfl rfl (fun w1 => run_neq_key X HX.out w1) (fun w1 => guard_key _ _ _ _ _ _) ?_
            simp only [Act.put, List.setIfInBounds_toArray, List.set_cons_succ, List.set_cons_zero]
            repeat (first | (refine lx_skipT (by go_big_quiet_skip; exact wpQuiet_nil trivial) (by kernel_rfl) ?_; simp only [Act.put, List.setIfInBounds_toArray, List.set_cons_succ, List.set_cons_zero]) | (refine lx_quietT rfl (by go_big_quiet_want; exact quiet_false (by assumption)) (by kernel_rfl) rfl ?_; intro Kx hKx; go_big_quiet_op; go_big_quiet_on))
            refine lx_load_agg rfl (by kernel_rfl) 71 (.tmp 20) rfl ⟨_, 0, none⟩ rfl (ratL Y G2 (.slice ao2 Z.length cp2)).toArray (fun wz h => by obtain ⟨u, rfl⟩ := h; exact run_loadVar_row _ _ _ _ _ _ _ (Aft.get u.h (HL.out.get 5 rfl)) Tryd.underlying71 rfl (rat_info HY.out)) ?_
            simp only [Act.put, List.setIfInBounds_toArray, List.set_cons_succ, List.set_cons_zero]
            refine lx_effT rfl (by go_big_quiet_want; exact quiet_false (by assumption)) (by kernel_rfl) ?_; intro Kx hKx; go_wp2_with fail
            refine (HCk.out wd ao2 cp2 (HO2.out.aft HD.out).sks).mono ?_
            rintro r w8 ⟨rfl, h8⟩
            go_wp2_with fail
            refine ⟨Later.on (Aft.trans HD.out h8), ?_⟩
            replace HO2 := Lib.hid (HO2.out.aft (Aft.trans HD.out h8))
            replace HL := Lib.hid (HL.out.call (Aft.trans HD.out h8))
            clear h8 HD
            repeat (first | (refine lx_skipT (by go_big_quiet_skip; exact wpQuiet_nil trivial) (by kernel_rfl) ?_; simp only [Act.put, List.setIfInBounds_toArray, List.set_cons_succ, List.set_cons_zero]) | (refine lx_quietT rfl (by go_big_quiet_want; exact quiet_false (by assumption)) (by kernel_rfl) rfl ?_; intro Kx hKx; go_big_quiet_op; go_big_quiet_on))
            refine lx_done ?_
            go_wp2_with (first | (refine wpList_store_met rfl (.tmp 120) (.const (.bool true)) rfl _ t met (by rw [HMl.out]; exact HT40.out) rfl rfl (HL.out.get 3 rfl) ?_; intro w9 b1 b2 b3; (replace HO2 := Lib.hid (HO2.out.stored (HL.out.get 3 rfl) (by decide) b2.out)); replace HL := Lib.hid (HL.out.store 3 rfl b1 b2 b3); clear b1 b2 b3; try simp only [List.nil_append, List.cons_append, List.set_cons_zero, List.set_cons_succ] at HL) | (refine wpList_load_rowG (by kernel_rfl) 71 (.tmp 20) rfl _ rfl _ _ _ _ (HL.out.get 5 rfl) Tryd.underlying71 rfl (rat_info HY.out) ?_) | (refine wpList_store_ratZ rfl (.tmp 8) (.tmp 121) _ (Y) (G2) (.slice ao2 Z.length cp2) HY.out rfl rfl rfl rfl _ (HL.out.get 1 rfl) (rat_old HCG.out) ?_; intro w' b1 b2 b3; (try replace HO := Lib.hid (HO.out.stored (HL.out.get 1 rfl) (by decide) b2.out)); (try replace HO2 := Lib.hid (HO2.out.stored (HL.out.get 1 rfl) (by decide) b2.out)); (try replace HOK := Lib.hid (HOK.out.stored (HL.out.get 1 rfl) (by decide) b2.out)); replace HL := Lib.hid (HL.out.store 1 rfl b1 b2 b3); clear b1 b2 b3; try simp only [List.nil_append, List.cons_append, List.set_cons_zero, List.set_cons_succ] at HL))
            go_roundw
            case rel => exact ⟨j + 1, met.set t true, G2, ao2, cp2, by omega, by simp, by rw [List.length_set]; exact HMl.out, HG2.out, HMb2.out, by rw [← HZe.out]; exact HO2.out, by rw [← HYe.out, ← HZe.out]; exact (HL.out.skip 4).skip 4⟩
            case measure => simp [intOf]; omega
        · obtain rfl : j = ts.length := by omega
          have hlt' : ¬ ((ts.length : Nat) : Int) < (ts.length : Nat) := by omega
          have hn := rat_n (HL.out.get 1 rfl) HCG.out
          have hw1 : wrap64 (G : Int) = (G : Int) := by unfold wrap64; have := HGl.out; omega
          clear HT hlt
          have hmin : min (G : Int) 40 = (G : Int) := by have := HGl.out; omega
          have HZl := Lib.hid (lfZ_length C met G)
          have HAt := Lib.hid (fun (i : Nat) (h : met.getD i false = false) (hi : i < G) => lfZ_at (C := C) h hi HGl.out)
          have HMt := Lib.hid (fun (i : Nat) (hi : i < G) (wx : World) (h : wx.heap[W5.heap.size]? = some (.cells (metL met).toArray 4 (0, 0))) => met_at (i := i) h (by rw [HMl.out]; have := HGl.out; omega))
          generalize lfZ C met G = Z at *
          have hl := rat_l (HL.out.get 1 rfl) HCG.out
          go_wp2_with fail
          clear hn hl hmin hw1
          go_loopw [22, 127] (fun v22 v127 wy => ∃ i : Nat, i ≤ G ∧ v127 = .int .i64 (i : Int) ∧ v22 = .int .i64 ((lf met i).length : Int) ∧ OwnS wy w.heap.size (.slice ao Z.length cp) Z ∧ Led w wy [(w.heap.size, .cells (bv k).toArray 23), (w3.heap.size, .cells (ratL (chn C G) G (.slice ao Z.length cp)).toArray 71), (gk, .cells cur 23 (0, 0)), (W5.heap.size, .cells (metL met).toArray 4)]) (fun _ v _ => G - (intOf v).toNat)
          case atStart => exact ⟨0, by omega, rfl, rfl, HO.out, HL.out⟩
          case round =>
            clear HL HO
            obtain ⟨i, hi, rfl, rfl, hO, hL⟩ := hrel
            have HL := Lib.hid hL
            have HO := Lib.hid hO
            clear hO hL
            have hl := rat_l (HL.out.get 1 rfl) HCG.out
            by_cases hlt : i < G
            · have hlt' : (i : Int) < (G : Int) := by omega
              have hG40 := HGl.out
              have hmi := HMt.out i hlt _ (HL.out.get 3 rfl)
              cases hm : met.getD i false with
              | true =>
                rw [hm] at hmi
                have HS := Lib.hid (show ((lf met (i + 1)).length : Int) = ((lf met i).length : Int) by rw [lf_succ, hm]; simp)
                generalize (lf met i).length = q at *
                clear hm
                go_wp2_with fail
                go_roundw
                case rel => exact ⟨i + 1, by omega, by go_num, by rw [HS.out], HO.out, HL.out⟩
                case measure => simp [intOf]; omega
              | false =>
                rw [hm] at hmi
                obtain ⟨a1, a2⟩ := HAt.out i hm hlt
                have HS := Lib.hid (show ((lf met (i + 1)).length : Int) = ((lf met i).length : Int) + 1 by rw [lf_succ, hm]; simp)
                have hq40 : (lf met i).length ≤ i := lf_length met i
                generalize (lf met i).length = q at *
                clear hm
                obtain ⟨x, hx⟩ : ∃ x, x = Z[q]?.getD default := ⟨_, rfl⟩
                rw [← hx] at a2
                have e1 : x.1.1 = i := by rw [a2]
                have e2 : x.1.2 = kyA C i := by rw [a2]
                have hrow := fun u : Later wr.heap.size wr => (HO.out.aft u.h).sks
                rcases HO.out.2 with ⟨he, hn0⟩ | ⟨g, cap2, cur2, he, -, -⟩
                · exact absurd a1 (by omega)
                injection he with he1 he2 he3
                subst he1 he3
                have HRow := Lib.hid (show ∀ u : Later wr.heap.size wr, u.w.rangeAt g (q * 33) (skL x) from fun u => by
                  rcases hrow u with ⟨h, -⟩ | ⟨b2, off2, cap2, he2, -, hc⟩
                  · cases h
                  · cases he2
                    have := hc q a1
                    rw [Nat.zero_add, ← hx] at this
                    exact this)
                have hX := kyA_length C i
                have hKt := fun (wx : World) (h : wx.heap[gk]? = some (.cells cur 23 (0, 0))) => HKR.out wx h i (by omega)
                have hgen := fun u : Later wr.heap.size wr => (show u.w.cell? ⟨g, q * 33, none⟩ = some (.int .u64 (i : Int)) from by rw [← e1]; exact HRow.out u 0 _ rfl)
                have hkey := fun u : Later wr.heap.size wr => (show Rd u.w (.slice (some ⟨g, q * 33 + 1, none⟩) 32 32) (bv (kyA C i)) from by rw [← e2]; exact Rd.of_sk (HRow.out u))
                generalize kyA C i = X at *
                have HX := Lib.hid hX
                have HKt := Lib.hid hKt
                have HKy := Lib.hid hkey
                clear hX hKt hkey hrow hx a2 e1 e2 he2 cur2 hl
                have hl := fun u : Later wr.heap.size wr => rat_l (Aft.get u.h (HL.out.get 1 rfl)) HCG.out
                have hqd : decide (Z.length ≤ q) = false := decide_eq_false (by omega)
                have hqz : (q : Int) < (Z.length : Nat) := by omega
                have hw : IntKind.u64.wrap (i : Int) = (i : Int) := by
                  have e2 : ∀ x : Int, IntKind.u64.wrap x = x % 18446744073709551616 := fun _ => rfl
                  rw [e2]
                  omega
                have hi40 : (i : Int) < 40 := by omega
                go_wp2_with (first | (refine wp_region_lex (fun wz => ∃ u : Later wr.heap.size wr, wz = u.w) (fun i => ([] : List Nat).contains i) 29 (by kernel_rfl) (by kernel_rfl) ⟨⟨wr.drew, (Below.refl _ _).drew⟩, rfl⟩ ?_))
                change wpLx _ _ _ _ _ _ _ _ _ wr.drew
                have HD := Lib.hid (show Aft wr wr.drew from (Below.refl _ _).drew)
                try simp only [Act.put]
                repeat (first | (refine lx_skipT (by go_big_quiet_skip; exact wpQuiet_nil trivial) (by kernel_rfl) ?_; simp only [Act.put, List.setIfInBounds_toArray, List.set_cons_succ, List.set_cons_zero]) | (refine lx_quietT rfl (by go_big_quiet_want; exact quiet_false (by assumption)) (by kernel_rfl) rfl ?_; intro Kx hKx; go_big_quiet_op; go_big_quiet_on))
                refine lx_key rfl (by kernel_rfl) (.tmp 156) rfl g (q * 33 + 1) rfl X HX.out (fun wz h => by obtain ⟨u, rfl⟩ := h; exact HKy.out u) ?_
                simp only [Act.put, List.setIfInBounds_toArray, List.set_cons_succ, List.set_cons_zero]
                repeat (first | (refine lx_skipT (by go_big_quiet_skip; exact wpQuiet_nil trivial) (by kernel_rfl) ?_; simp only [Act.put, List.setIfInBounds_toArray, List.set_cons_succ, List.set_cons_zero]) | (refine lx_quietT rfl (by go_big_quiet_want; exact quiet_false (by assumption)) (by kernel_rfl) rfl ?_; intro Kx hKx; go_big_quiet_op; go_big_quiet_on))
                refine lx_key rfl (by kernel_rfl) (.tmp 160) rfl gk (i * 32) rfl X HX.out (fun wz h => by obtain ⟨u, rfl⟩ := h; exact HKt.out _ (Aft.get u.h (HL.out.get 2 rfl))) ?_
                simp only [Act.put, List.setIfInBounds_toArray, List.set_cons_succ, List.set_cons_zero]
                refine lx_bin rfl (by kernel_rfl) .neq 23 23 (.tmp 157) (.tmp 161) rfl (.agg (bv X).toArray) (.agg (bv X).toArray) (.bool false) rfl rfl (fun w1 => run_neq_key X HX.out w1) (fun w1 => guard_key _ _ _ _ _ _) ?_
                simp only [Act.put, List.setIfInBounds_toArray, List.set_cons_succ, List.set_cons_zero]
                repeat (first | (refine lx_skipT (by go_big_quiet_skip; exact wpQuiet_nil trivial) (by kernel_rfl) ?_; simp only [Act.put, List.setIfInBounds_toArray, List.set_cons_succ, List.set_cons_zero]) | (refine lx_quietT rfl (by go_big_quiet_want; exact quiet_false (by assumption)) (by kernel_rfl) rfl ?_; intro Kx hKx; go_big_quiet_op; go_big_quiet_on))
                refine lx_done ?_
                clear hl hgen hmi
                replace HL := Lib.hid (HL.out.call HD.out)
                replace HO := Lib.hid (HO.out.aft HD.out)
                go_wp2_with fail
                go_roundw
                case rel => exact ⟨i + 1, by omega, by go_num, by rw [HS.out], HO.out, HL.out⟩
                case measure => simp [intOf]; omega
            · obtain rfl : i = G := by omega
              have hlt' : ¬ (i : Int) < (i : Int) := by omega
              rw [← HZl.out]
              go_wp2_with fail
              go_ret
              exact ⟨rfl, HL.out.aft⟩
end Go.Proofs.YtanodhagpegbfaaDoor
