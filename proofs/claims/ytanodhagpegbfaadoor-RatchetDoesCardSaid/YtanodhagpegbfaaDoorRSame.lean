/- ratchet.Same. -/
import Derived.Test.YtanodhagpegbfaaDoorRNext
import Derived.Deep.MidRow
import Derived.Deep.LoopGhost
namespace Go.Proofs.YtanodhagpegbfaaDoor
open Go Go.RowKit
set_option linter.unusedSimpArgs false
set_option maxRecDepth 100000 in
theorem run_eq_sk (x y : Sk) (w : World) : (Op.equalIn 10000 73 (.agg (skL x).toArray) (.agg (skL y).toArray)).run Tryd.prog w = .ok (decide (x = y)) w := by
  rw [run_equalIn_struct w 9999 _ _ _ (by rw [Program.fieldsOf, Tryd.underlying73]) Tryd.stoodInHeld73]
  have p1 := fun w => part_key (L := skL x) [.int .u64 (x.1.1 : Int)] [] x.1.2 1 rfl x.2.2 (by simp [skL]) w
  have p2 := fun w => part_key (L := skL y) [.int .u64 (y.1.1 : Int)] [] y.1.2 1 rfl y.2.2 (by simp [skL]) w
  have p3 := fun w => part_int (L := skL x) 37 .u64 Tryd.underlying37 0 (.int .u64 (x.1.1 : Int)) rfl w
  have p4 := fun w => part_int (L := skL y) 37 .u64 Tryd.underlying37 0 (.int .u64 (y.1.1 : Int)) rfl w
  have q1 := fun w => run_eq_keyD 9997 x.2.2 y.2.2 w
  have q2 := fun (a b : Int) w => run_equalIn_int (P := Tryd.prog) w 9998 37 .u64 .u64 a b Tryd.underlying37
  simp only [Program.fieldsOf, Tryd.underlying73, Op.eqFields, Sem.run_bind, Sem.run_ite, p1, p2, p3, p4, q1, q2, Result.andThen_ok]
  have hxy : x = y ↔ x.1.1 = y.1.1 ∧ x.1.2 = y.1.2 := by rw [Subtype.ext_iff, Prod.ext_iff]
  by_cases h1 : x.1.1 = y.1.1 <;> by_cases h2 : x.1.2 = y.1.2 <;> simp [h1, h2, hxy] <;> omega
theorem run_neq_sk (x y : Sk) (w : World) : (Go.binOp .neq 73 (.agg (skL x).toArray) (.agg (skL y).toArray)).run Tryd.prog w = .ok (.bool (!decide (x = y))) w := by
  rw [run_neq_struct, run_eq_sk]
  rfl
theorem guard_sk (op : BinOp) (x y : Operand) (cs ds : Array Value) (w : World) : (eqGuard op 73 x y (.agg cs) (.agg ds)).run Tryd.prog w = .ok () w := run_eqGuard_agg w op _ x y cs ds Tryd.eqGuardType73
theorem run_loadVar_sk {w : World} {g q : Nat} (s : Sk) (h : w.rangeAt g q (skL s)) : (loadVar 73 ⟨g, q, none⟩).run Tryd.prog w = .ok (.agg (skL s).toArray) w :=
  run_loadVar_mid w g q _ _ _ h Tryd.underlying73 rfl (by rw [skL_length]; kernel_rfl)
set_option maxRecDepth 100000 in
set_option maxHeartbeats 1000000 in
theorem equal_len (a b : Option Addr) (n m c d : Nat) (w : World) (h : n ≠ m) :
    Calls Tryd.prog 85 #[.slice a n c, .slice b m d] w fun e w' => e = .returned (.bool false) ∧ w' = w := by
  have h' : ¬ (n : Int) = (m : Int) := by omega
  go_enter Tryd.func85, Tryd.ntmps85
  go_wp2_with fail
  go_ret
  exact ⟨rfl, rfl⟩
set_option maxRecDepth 100000 in
set_option maxHeartbeats 1000000 in
theorem equal_zero (a b : Option Addr) (c d : Nat) (w : World) :
    Calls Tryd.prog 85 #[.slice a 0 c, .slice b 0 d] w fun e w' => e = .returned (.bool true) ∧ w' = w := by
  go_enter Tryd.func85, Tryd.ntmps85
  go_wp2
  go_loopg [5, 13] 0 (fun _ _ s8 wr => s8 = .int .i64 0 ∧ wr = w)
  case atStart => exact ⟨rfl, rfl⟩
  case round =>
    obtain ⟨rfl, rfl⟩ := hrel
    go_wp2
    go_ret
    exact ⟨rfl, rfl⟩
theorem Sks.shape {n₀ : Nat} {w : World} {v : Value} {zs : List Sk} (h : Sks n₀ w v zs) : ∃ ao cap, v = .slice ao zs.length cap := by
  rcases h with ⟨rfl, rfl⟩ | ⟨b, off, cap, rfl, -, -⟩
  · exact ⟨none, 0, rfl⟩
  · exact ⟨_, cap, rfl⟩
theorem lx_bin {P : Program} {ops : Array Oper} {C : World → Prop} {E : Nat → Bool} {Q : Exit → Act → World → Prop} {n k : Nat} {o : Oper} {l : List Oper} {a : Act} {w : World} (hE : E k = false) (hw : Region.wanted o (yielded ops a.tmps) = true) (op : BinOp) (t t2 : TypeId) (x y : Operand) (ho : o.op = .binOp op t x y t2)
    (vx vy v : Value) (hx : a.eval x = vx) (hy : a.eval y = vy) (hr : ∀ w1, (Go.binOp op t vx vy).run P w1 = .ok v w1) (hg : ∀ w1, (eqGuard op t x y vx vy).run P w1 = .ok () w1) (h : wpLx P ops C E Q n (k + 1) l (a.put o.dst v) w) : wpLx P ops C E Q (n + 1) k (o :: l) a w := by
  refine lx_val hE hw v (fun w' _ => ?_) h
  unfold execOp
  simp only [ho, hx, hy, Sem.run_bind, hg, hr, Result.andThen_ok, Sem.run_pure]
set_option maxRecDepth 100000 in
set_option maxHeartbeats 2000000 in
theorem equal_rows (b1 o1 c1 b2 o2 c2 : Nat) (xs ys : List Sk) (w : World) (hl : xs.length = ys.length) (h1 : ∀ j, j < xs.length → w.rangeAt b1 (o1 + j * 33) (skL (xs[j]?.getD default))) (h2 : ∀ j, j < ys.length → w.rangeAt b2 (o2 + j * 33) (skL (ys[j]?.getD default))) (hlx : xs.length ≤ 1048576)
    (hb1 : b1 < w.heap.size) (hb2 : b2 < w.heap.size) :
    Calls Tryd.prog 85 #[.slice (some ⟨b1, o1, none⟩) xs.length c1, .slice (some ⟨b2, o2, none⟩) xs.length c2] w fun e w' => e = .returned (.bool (decide (xs = ys))) ∧ Aft w w' := by
  have H1 := Lib.hid h1
  have H2 := Lib.hid h2
  have HB1 := Lib.hid hb1
  have HB2 := Lib.hid hb2
  have HL := Lib.hid hl
  have H0 := Lib.hid (Aft.refl w)
  clear h1 h2 hl hb1 hb2
  go_enter Tryd.func85, Tryd.ntmps85
  go_wp2_with fail
  go_loopw [5, 13] (fun _ v wr => ∃ i : Nat, i ≤ xs.length ∧ v = .int .i64 i ∧ (∀ j, j < i → xs[j]? = ys[j]?) ∧ Aft w wr) (fun _ v _ => xs.length - (intOf v).toNat)
  case atStart => exact ⟨0, by omega, rfl, fun j hj => absurd hj (Nat.not_lt_zero _), H0.out⟩
  case round =>
    obtain ⟨i, hi, rfl, hsame, hA⟩ := hrel
    have HA := Lib.hid hA
    have HSm := Lib.hid hsame
    clear hA hsame
    by_cases hlt : i < xs.length
    · have HX := Lib.hid (show ∀ wx : World, Aft wr wx → wx.rangeAt b1 (o1 + i * 33) (skL (xs[i]?.getD default)) from fun wx hx j u hu => ((Aft.trans HA.out hx).cell (p := ⟨b1, o1 + i * 33 + j, none⟩) HB1.out).trans (H1.out i hlt j u hu))
      have HY := Lib.hid (show ∀ wx : World, Aft wr wx → wx.rangeAt b2 (o2 + i * 33) (skL (ys[i]?.getD default)) from fun wx hx j u hu => ((Aft.trans HA.out hx).cell (p := ⟨b2, o2 + i * 33 + j, none⟩) HB2.out).trans (H2.out i (by rw [← HL.out]; exact hlt) j u hu))
      have HXe := Lib.hid (show xs[i]? = some (xs[i]?.getD default) by rw [List.getElem?_eq_getElem hlt]; rfl)
      have HYe := Lib.hid (show ys[i]? = some (ys[i]?.getD default) by rw [List.getElem?_eq_getElem (by rw [← HL.out]; exact hlt)]; rfl)
      generalize xs[i]?.getD default = x at *
      generalize ys[i]?.getD default = y at *
      have hlt' : (i : Int) < (xs.length : Nat) := by omega
      go_wp2_with fail
      refine wp_region_lex (fun w' => Aft wr w') (fun i => ([] : List Nat).contains i) 9 (by kernel_rfl) (by kernel_rfl) ((Below.refl _ _).drew) ?_
      change wpLx _ _ _ _ _ _ _ _ _ wr.drew
      have HAd := Lib.hid (Aft.trans HA.out (show Aft wr wr.drew from (Below.refl _ _).drew))
      generalize wr.drew = wd at *
      repeat (refine lx_quietT rfl (by go_big_quiet_want; exact quiet_false (by assumption)) (by kernel_rfl) rfl ?_; intro Kx hKx; go_big_quiet_op; first | go_big_quiet_on | refine ⟨_, fun _ _ => rfl, hKx _ ?_⟩; clear hKx)
      refine lx_load_agg rfl (by kernel_rfl) 73 (.tmp 18) rfl ⟨b1, o1 + i * 33, none⟩ rfl (skL x).toArray (fun w' h => run_loadVar_sk x (HX.out w' h)) ?_
      simp only [Act.put, List.setIfInBounds_toArray, List.set_cons_succ, List.set_cons_zero]
      repeat (refine lx_quietT rfl (by go_big_quiet_want; exact quiet_false (by assumption)) (by kernel_rfl) rfl ?_; intro Kx hKx; go_big_quiet_op; first | go_big_quiet_on | refine ⟨_, fun _ _ => rfl, hKx _ ?_⟩; clear hKx)
      refine lx_load_agg rfl (by kernel_rfl) 73 (.tmp 22) rfl ⟨b2, o2 + i * 33, none⟩ rfl (skL y).toArray (fun w' h => run_loadVar_sk y (HY.out w' h)) ?_
      simp only [Act.put, List.setIfInBounds_toArray, List.set_cons_succ, List.set_cons_zero]
      refine lx_bin rfl (by kernel_rfl) .neq 73 73 (.tmp 19) (.tmp 23) rfl (.agg (skL x).toArray) (.agg (skL y).toArray) (.bool (!decide (x = y))) rfl rfl (fun w1 => run_neq_sk x y w1) (fun w1 => guard_sk _ _ _ _ _ _) ?_
      simp only [Act.put, List.setIfInBounds_toArray, List.set_cons_succ, List.set_cons_zero]
      refine lx_done ?_
      by_cases hxy : x = y
      · subst hxy
        have hq : (!decide (x = x)) = false := by simp
        rw [hq]
        clear hq
        go_wp2_with fail
        go_roundw
        case rel =>
          refine ⟨i + 1, by omega, by go_num, fun j hj => ?_, HAd.out⟩
          by_cases hji : j = i
          · subst hji
            rw [HXe.out, HYe.out]
          · exact HSm.out j (by omega)
        case measure => simp [intOf]; omega
      · have hq : (!decide (x = y)) = true := by simp [hxy]
        have HN := Lib.hid hxy
        rw [hq]
        clear hq hxy
        go_wp2_with fail
        go_ret
        refine ⟨?_, HAd.out⟩
        rw [decide_eq_false (fun e => HN.out (by have := HXe.out; rw [e, HYe.out] at this; exact (Option.some.inj this).symm))]
        rfl
    · obtain rfl : i = xs.length := by omega
      have hlt' : ¬ ((xs.length : Nat) : Int) < (xs.length : Nat) := by omega
      go_wp2_with fail
      go_ret
      have hE : xs = ys := List.ext_getElem? fun j => by
        by_cases hj : j < xs.length
        · exact HSm.out j hj
        · rw [List.getElem?_eq_none (by omega), List.getElem?_eq_none (by have := HL.out; omega)]
      refine ⟨?_, HA.out⟩
      rw [decide_eq_true hE]
      rfl
theorem equalS_any (v u : Value) (xs ys : List Sk) (w : World) (hx : Sks w.heap.size w v xs) (hy : Sks w.heap.size w u ys) (hlx : xs.length ≤ 1048576) (hly : ys.length ≤ 1048576) :
    Calls Tryd.prog 85 #[v, u] w fun e w' => e = .returned (.bool (decide (xs = ys))) ∧ Aft w w' := by
  by_cases hl : xs.length = ys.length
  rotate_left
  · obtain ⟨a, c, rfl⟩ := hx.shape
    obtain ⟨b, d, rfl⟩ := hy.shape
    refine (equal_len a b xs.length ys.length c d w hl).mono ?_
    rintro e w' ⟨rfl, rfl⟩
    exact ⟨by rw [decide_eq_false (fun q => hl (by rw [q]))], Aft.refl _⟩
  rcases Nat.eq_zero_or_pos xs.length with h0 | h0
  · obtain ⟨a, c, rfl⟩ := hx.shape
    obtain ⟨b, d, rfl⟩ := hy.shape
    obtain rfl := List.eq_nil_of_length_eq_zero h0
    obtain rfl := List.eq_nil_of_length_eq_zero (show ys.length = 0 by omega)
    refine (equal_zero a b c d w).mono ?_
    rintro e w' ⟨rfl, rfl⟩
    exact ⟨rfl, Aft.refl _⟩
  rcases hx with ⟨-, rfl⟩ | ⟨b1, o1, c1, rfl, hb1, h1⟩
  · exact absurd h0 (Nat.lt_irrefl _)
  rcases hy with ⟨-, rfl⟩ | ⟨b2, o2, c2, rfl, hb2, h2⟩
  · exact absurd h0 (by rw [hl]; exact Nat.lt_irrefl _)
  have := equal_rows b1 o1 c1 b2 o2 c2 xs ys w hl h1 h2 hlx hb1 hb2
  rw [hl] at this
  rw [hl]
  exact this
theorem run_eql_keyB {X Y : List (BitVec 8)} (hX : X.length = 32) (hY : Y.length = 32) (b : Bool) (hb : decide (X = Y) = b) (w : World) : (Go.binOp .eql 23 (.agg (bv X).toArray) (.agg (bv Y).toArray)).run Tryd.prog w = .ok (.bool b) w := by
  rw [run_eql_struct, run_eq_keyD 9998 hX hY, ← hb]
  rfl
set_option maxRecDepth 100000 in
set_option maxHeartbeats 4000000 in
theorem rsame_any (C D : List (BitVec 8)) (G H : Nat) (v u : Value) (xs ys : List Sk) (w : World) (hC : C.length = 32) (hD : D.length = 32) (hx : Sks w.heap.size w v xs) (hy : Sks w.heap.size w u ys) (hlx : xs.length ≤ 1048576) (hly : ys.length ≤ 1048576) :
    Calls Tryd.prog 64 #[.agg (ratL C G v).toArray, .agg (ratL D H u).toArray] w fun r w' => r = .returned (.bool (decide (C = D ∧ G = H ∧ xs = ys))) ∧ Aft w w' := by
  have HC := Lib.hid hC
  have HD := Lib.hid hD
  have HE := Lib.hid (fun (wx : World) (h : Aft w wx) => equalS_any v u xs ys wx (hx.aft h) (hy.aft h) hlx hly)
  obtain ⟨a, c, rfl⟩ := hx.shape
  obtain ⟨b, d, rfl⟩ := hy.shape
  have HL := Lib.hid (Led.start w)
  clear hC hD hx hy hlx hly
  go_enter Tryd.func64, Tryd.ntmps64
  by_cases h1 : C = D
  · have hb1 := Lib.hid (decide_eq_true h1)
    by_cases h2 : (G : Int) = (H : Int)
    · have HR := Lib.hid (show decide (C = D ∧ G = H ∧ xs = ys) = decide (xs = ys) by have hq : G = H := (by omega); simp [h1, hq])
      have hb2 : ((G : Nat) : Int) == ((H : Nat) : Int) := by simpa using h2
      rw [HR.out]
      clear h1
      generalize hbq : decide (xs = ys) = bq at *
      clear hbq HR
      go_wp2_with (first | (refine wpList_boxO rfl 71 (.tmp 0) rfl (.agg (ratL C G (.slice a xs.length c)).toArray) rfl (.cells (ratL C G (.slice a xs.length c)).toArray 71) (box_rat _) ?_; intro wa aa gg zz; replace HL := Lib.hid (HL.out.alloc aa gg.out); clear aa gg zz; try simp only [List.nil_append, List.cons_append, List.set_cons_zero, List.set_cons_succ] at HL) | (refine wpList_boxO rfl 71 (.tmp 1) rfl (.agg (ratL D H (.slice b ys.length d)).toArray) rfl (.cells (ratL D H (.slice b ys.length d)).toArray 71) (box_rat _) ?_; intro wb aa gg zz; replace HL := Lib.hid (HL.out.alloc aa gg.out); clear aa gg zz; try simp only [List.nil_append, List.cons_append, List.set_cons_zero, List.set_cons_succ] at HL; have hn0 := rat_n (HL.out.get 0 rfl) HC.out; have hn1 := rat_n (HL.out.get 1 rfl) HD.out; have hl0 := rat_l (HL.out.get 0 rfl) HC.out; have hl1 := rat_l (HL.out.get 1 rfl) HD.out) | (refine wpList_load_keyG (by kernel_rfl) (.tmp 5) rfl _ _ rfl C (rat_c (HL.out.get 0 rfl) HC.out) HC.out ?_) | (refine wpList_load_keyG (by kernel_rfl) (.tmp 7) rfl _ _ rfl D (rat_c (HL.out.get 1 rfl) HD.out) HD.out ?_) | (refine wpList_binG (by kernel_rfl) .eql 23 23 (.tmp 6) (.tmp 8) rfl (.agg (bv C).toArray) (.agg (bv D).toArray) _ rfl rfl (run_eql_keyB HC.out HD.out true hb1.out) (guard_key _ _ _ _ _) ?_))
      refine (HE.out _ HL.out.aft).mono ?_
      rintro r w2 ⟨rfl, h2⟩
      replace HL := Lib.hid (HL.out.call h2)
      clear h2
      go_wp2_with fail
      go_ret
      exact ⟨rfl, HL.out.aft⟩
    · have HR := Lib.hid (show decide (C = D ∧ G = H ∧ xs = ys) = false by have hq : ¬ G = H := (by omega); simp [hq])
      rw [HR.out]
      clear h1
      go_wp2_with (first | (refine wpList_boxO rfl 71 (.tmp 0) rfl (.agg (ratL C G (.slice a xs.length c)).toArray) rfl (.cells (ratL C G (.slice a xs.length c)).toArray 71) (box_rat _) ?_; intro wa aa gg zz; replace HL := Lib.hid (HL.out.alloc aa gg.out); clear aa gg zz; try simp only [List.nil_append, List.cons_append, List.set_cons_zero, List.set_cons_succ] at HL) | (refine wpList_boxO rfl 71 (.tmp 1) rfl (.agg (ratL D H (.slice b ys.length d)).toArray) rfl (.cells (ratL D H (.slice b ys.length d)).toArray 71) (box_rat _) ?_; intro wb aa gg zz; replace HL := Lib.hid (HL.out.alloc aa gg.out); clear aa gg zz; try simp only [List.nil_append, List.cons_append, List.set_cons_zero, List.set_cons_succ] at HL; have hn0 := rat_n (HL.out.get 0 rfl) HC.out; have hn1 := rat_n (HL.out.get 1 rfl) HD.out; have hl0 := rat_l (HL.out.get 0 rfl) HC.out; have hl1 := rat_l (HL.out.get 1 rfl) HD.out) | (refine wpList_load_keyG (by kernel_rfl) (.tmp 5) rfl _ _ rfl C (rat_c (HL.out.get 0 rfl) HC.out) HC.out ?_) | (refine wpList_load_keyG (by kernel_rfl) (.tmp 7) rfl _ _ rfl D (rat_c (HL.out.get 1 rfl) HD.out) HD.out ?_) | (refine wpList_binG (by kernel_rfl) .eql 23 23 (.tmp 6) (.tmp 8) rfl (.agg (bv C).toArray) (.agg (bv D).toArray) _ rfl rfl (run_eql_keyB HC.out HD.out true hb1.out) (guard_key _ _ _ _ _) ?_))
      go_ret
      exact ⟨rfl, HL.out.aft⟩
  · have hb1 := Lib.hid (decide_eq_false h1)
    have HR := Lib.hid (show decide (C = D ∧ G = H ∧ xs = ys) = false by simp [h1])
    rw [HR.out]
    clear h1
    go_wp2_with (first | (refine wpList_boxO rfl 71 (.tmp 0) rfl (.agg (ratL C G (.slice a xs.length c)).toArray) rfl (.cells (ratL C G (.slice a xs.length c)).toArray 71) (box_rat _) ?_; intro wa aa gg zz; replace HL := Lib.hid (HL.out.alloc aa gg.out); clear aa gg zz; try simp only [List.nil_append, List.cons_append, List.set_cons_zero, List.set_cons_succ] at HL) | (refine wpList_boxO rfl 71 (.tmp 1) rfl (.agg (ratL D H (.slice b ys.length d)).toArray) rfl (.cells (ratL D H (.slice b ys.length d)).toArray 71) (box_rat _) ?_; intro wb aa gg zz; replace HL := Lib.hid (HL.out.alloc aa gg.out); clear aa gg zz; try simp only [List.nil_append, List.cons_append, List.set_cons_zero, List.set_cons_succ] at HL; have hn0 := rat_n (HL.out.get 0 rfl) HC.out; have hn1 := rat_n (HL.out.get 1 rfl) HD.out; have hl0 := rat_l (HL.out.get 0 rfl) HC.out; have hl1 := rat_l (HL.out.get 1 rfl) HD.out) | (refine wpList_load_keyG (by kernel_rfl) (.tmp 5) rfl _ _ rfl C (rat_c (HL.out.get 0 rfl) HC.out) HC.out ?_) | (refine wpList_load_keyG (by kernel_rfl) (.tmp 7) rfl _ _ rfl D (rat_c (HL.out.get 1 rfl) HD.out) HD.out ?_) | (refine wpList_binG (by kernel_rfl) .eql 23 23 (.tmp 6) (.tmp 8) rfl (.agg (bv C).toArray) (.agg (bv D).toArray) _ rfl rfl (run_eql_keyB HC.out HD.out false hb1.out) (guard_key _ _ _ _ _) ?_))
    go_ret
    exact ⟨rfl, HL.out.aft⟩
end Go.Proofs.YtanodhagpegbfaaDoor
