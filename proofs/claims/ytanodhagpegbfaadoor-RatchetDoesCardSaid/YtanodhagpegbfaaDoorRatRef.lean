/- The document's ratchet: Copy, Check, Ahead, Same, Next. -/
import Derived.Test.YtanodhagpegbfaaDoorRDelete
import Derived.Test.YtanodhagpegbfaaDoorRSame
import Derived.Test.YtanodhagpegbfaaDoorRefEnter
namespace Go.Proofs.YtanodhagpegbfaaDoor
open Go Go.RowKit
set_option linter.unusedSimpArgs false

theorem wpList_load_val {P : Program} {ops : Array Oper} {rest : List Oper} {o : Oper} {a : Act} {w : World} {Q : Exit → Act → World → Prop} (hw : Region.wanted o (yielded ops a.tmps) = true) (ty : TypeId) (x : Operand) (ho : o.op = .load ty x)
    (ad : Addr) (hx : a.eval x = .pointer (some ad)) (v : Value) (hv : (loadVar ty ad).run P w = .ok v w) (h : wpList P ops Q rest (a.put o.dst v) w) : wpList P ops Q (o :: rest) a w := by
  unfold wpList
  rw [if_pos hw]
  refine .inl (wp_noOut ?_)
  unfold Oper.wp execOp
  simp only [ho, hx, Instr.loadAt, Instr.sureAddr, Sem.run_bind, Sem.run_pure, Result.andThen_ok, hv]
  exact h
theorem alloc_skz (w : World) : (Instr.alloc 73 true (.tuple #[])).run Tryd.prog w = .ok (.pointer (some ⟨w.heap.size, 0, none⟩)) (w.alloc (.cells (skL zSk).toArray 73)) := by kernel_rfl
theorem sk_info (x : Sk) : (Tryd.prog.info? 73).map (·.size) = some (skL x).toArray.size := by rw [List.size_toArray, skL_length]; kernel_rfl
theorem sk_sz (x : Sk) : (skL x).toArray.size = 33 := by rw [List.size_toArray, skL_length]
theorem sk_gen {w : World} {g : Nat} {x : Sk} {t : TypeId} {fr : Nat × Nat} (h : w.heap[g]? = some (.cells (skL x).toArray t fr)) : w.cell? ⟨g, 0, none⟩ = some (.int .u64 (x.1.1 : Int)) := cell_part h (by rfl)
theorem sk_key {w : World} {g : Nat} {x : Sk} {t : TypeId} {fr : Nat × Nat} (h : w.heap[g]? = some (.cells (skL x).toArray t fr)) : Rd w (.slice (some ⟨g, 1, none⟩) 32 32) (bv x.1.2) := Rd.part [.int .u64 (x.1.1 : Int)] [] x.1.2 1 (by rw [List.append_nil]; exact h) rfl x.2.2 rfl
set_option maxRecDepth 100000 in
set_option maxHeartbeats 1000000 in
theorem rcopy_any (C : List (BitVec 8)) (G : Nat) (a : Option Addr) (cap : Nat) (zs : List Sk) (w : World) (hC : C.length = 32) (hz : zs.length ≤ 1048576) (hI : Sks w.heap.size w (.slice a zs.length cap) zs) :
    Calls Tryd.prog 57 #[.agg (ratL C G (.slice a zs.length cap)).toArray] w fun e W' => ∃ v, e = .returned (.agg (ratL C G v).toArray) ∧ OwnS W' w.heap.size v zs ∧ Aft w W' := by
  have HC := Lib.hid hC
  have HZ := Lib.hid hz
  have HI := Lib.hid (fun (wx : World) (h : Aft w wx) => hI.aft h)
  have HL := Lib.hid (Led.start w)
  clear hC hz hI
  go_enter Tryd.func57, Tryd.ntmps57
  go_wp2_with (first | (refine wpList_boxO rfl 71 (.tmp 0) rfl (.agg (ratL C G (.slice a zs.length cap)).toArray) rfl (.cells (ratL C G (.slice a zs.length cap)).toArray 71) (box_rat _) ?_; intro w' aa gg zz; (try replace HO := Lib.hid (HO.out.aft aa)); (try replace HO2 := Lib.hid (HO2.out.aft aa)); (try replace HOK := Lib.hid (HOK.out.aft aa)); replace HL := Lib.hid (HL.out.alloc aa gg.out); clear aa gg zz; try simp only [List.nil_append, List.cons_append, List.set_cons_zero, List.set_cons_succ] at HL) | (refine wpList_allocO rfl 71 rfl (.cells (ratL (List.replicate 32 0) 0 (.slice none 0 0)).toArray 71) alloc_rat ?_; intro w' aa gg zz; (try replace HO := Lib.hid (HO.out.aft aa)); (try replace HO2 := Lib.hid (HO2.out.aft aa)); (try replace HOK := Lib.hid (HOK.out.aft aa)); replace HL := Lib.hid (HL.out.alloc aa gg.out); clear aa gg zz; try simp only [List.nil_append, List.cons_append, List.set_cons_zero, List.set_cons_succ] at HL; have hl := rat_l (HL.out.get 0 rfl) HC.out) | (at_builtin; refine wpList_append_sks (by kernel_rfl) (.const (.slice none 0 0)) (.tmp 4) rfl w.heap.size (.slice none 0 0) [] rfl (OwnS.nil _ _) _ _ zs rfl (HI.out _ HL.out.aft) (by have := HZ.out; simp; omega) HL.out.aft.size ?_; intro v' w9 k1 k2; rw [List.nil_append] at k1; replace HL := Lib.hid (HL.out.grownS (OwnS.nil _ w.heap.size) (Nat.le_refl _) k2 rfl); have HO := Lib.hid k1; clear k2 hl; obtain ⟨ao', cp', rfl⟩ := k1.shape; clear k1) | (refine wpList_store_ratV rfl (.tmp 6) (.tmp 5) _ (C) (G) (.slice a zs.length cap) HC.out rfl (.slice ao' zs.length cp') rfl rfl rfl rfl (HL.out.get 0 rfl) ?_; intro w' b1 b2 b3; (try replace HO := Lib.hid (HO.out.stored (HL.out.get 0 rfl) (by decide) b2.out)); (try replace HO2 := Lib.hid (HO2.out.stored (HL.out.get 0 rfl) (by decide) b2.out)); (try replace HOK := Lib.hid (HOK.out.stored (HL.out.get 0 rfl) (by decide) b2.out)); replace HL := Lib.hid (HL.out.store 0 rfl b1 b2 b3); clear b1 b2 b3; try simp only [List.nil_append, List.cons_append, List.set_cons_zero, List.set_cons_succ] at HL) | (refine wpList_load_rowG (by kernel_rfl) 71 (.tmp 1) rfl _ rfl _ _ _ _ (HL.out.get 0 rfl) Tryd.underlying71 rfl (rat_info HC.out) ?_) | (refine wpList_store_ratZ rfl (.tmp 2) (.tmp 7) _ (C) (G) (.slice ao' zs.length cp') HC.out rfl rfl rfl rfl _ (HL.out.get 1 rfl) (rat_old List.length_replicate) ?_; intro w' b1 b2 b3; (try replace HO := Lib.hid (HO.out.stored (HL.out.get 1 rfl) (by decide) b2.out)); (try replace HO2 := Lib.hid (HO2.out.stored (HL.out.get 1 rfl) (by decide) b2.out)); (try replace HOK := Lib.hid (HOK.out.stored (HL.out.get 1 rfl) (by decide) b2.out)); replace HL := Lib.hid (HL.out.store 1 rfl b1 b2 b3); clear b1 b2 b3; try simp only [List.nil_append, List.cons_append, List.set_cons_zero, List.set_cons_succ] at HL))
  refine bodyPost_ret (results_cell_row rfl _ _ _ 71 (ratL C G (.slice ao' zs.length cp')).toArray (0, 0) _ rfl (HL.out.get 1 rfl) Tryd.underlying71 rfl (rat_info HC.out)) rfl ?_
  exact ⟨_, rfl, HO.out, HL.out.aft⟩
/-- In order, one by the other, as the document looks. -/
def okF (G : Nat) (zs : List Sk) : Prop := ∀ i, i < zs.length → (zs[i]?.getD default).1.1 < G ∧ (0 < i → (zs[i - 1]?.getD default).1.1 < (zs[i]?.getD default).1.1)
theorem okF_iff : ∀ (zs : List Sk) (G : Nat), okB G ((zs.map (·.1.1)).reverse) = true ↔ okF G zs
  | [], G => by
    refine ⟨fun _ i hi => absurd hi (Nat.not_lt_zero _), fun _ => rfl⟩
  | z :: zs, G => by
    rw [List.map_cons, List.reverse_cons, okB_snoc, Bool.and_eq_true, okF_iff zs G, decide_eq_true_eq, List.getLast?_reverse]
    constructor
    · rintro ⟨h1, h2⟩ i hi
      cases i with
      | zero =>
        refine ⟨?_, fun q => absurd q (Nat.lt_irrefl _)⟩
        cases zs with
        | nil => simpa using h2
        | cons y ys =>
          have := (h1 0 (by simp)).1
          simp at h2 this ⊢
          omega
      | succ i =>
        obtain ⟨k1, k2⟩ := h1 i (by simpa using hi)
        refine ⟨by simpa using k1, fun _ => ?_⟩
        cases i with
        | zero =>
          cases zs with
          | nil => simp at hi
          | cons y ys => simpa using h2
        | succ i => simpa using k2 (by omega)
    · intro h
      refine ⟨fun i hi => ?_, ?_⟩
      · obtain ⟨k1, k2⟩ := h (i + 1) (by simpa using hi)
        refine ⟨by simpa using k1, fun h0 => ?_⟩
        obtain ⟨i, rfl⟩ : ∃ m, i = m + 1 := ⟨i - 1, by omega⟩
        simpa using k2 (by omega)
      · cases zs with
        | nil => simpa using (h 0 (by simp)).1
        | cons y ys => simpa using (h 1 (by simp)).2 (by omega)
instance (G : Nat) (zs : List Sk) : Decidable (okF G zs) := decidable_of_iff _ (okF_iff zs G)
theorem chkE_is {G : Nat} {zs : List Sk} : chkE G zs = if G ≤ 4294967296 ∧ zs.length ≤ 1024 ∧ okF G zs then 0 else 1 := by
  unfold chkE
  by_cases h : okF G zs
  · have := (okF_iff zs G).2 h
    simp [h, this]
  · have : ¬ okB G ((zs.map (·.1.1)).reverse) = true := fun q => h ((okF_iff zs G).1 q)
    simp [h, this]
theorem refFour (w : World) (x : Nat) (hx : x < 18446744073709551616) :
    Calls Tryd.prog 68 #[.int .i64 4, .int .u64 (x : Int)] w fun e w' => ∃ ao cap, e = .returned (.slice ao 4 cap) ∧ Rd w' (.slice ao 4 cap) (bv (beL 4 x)) ∧ Aft w w' := by
  refine (refBytes_any 4 x w (by decide) hx).mono ?_
  rintro e w' ⟨ao, cap, rfl, ho, hb⟩
  rw [bv_length, beL_length] at *
  exact ⟨ao, cap, rfl, Rd.of_own ho, hb⟩
set_option maxRecDepth 100000 in
set_option maxHeartbeats 2000000 in
theorem rcheckRef_any (C : List (BitVec 8)) (G : Nat) (a : Option Addr) (cap : Nat) (zs : List Sk) (w : World) (hC : C.length = 32) (hz : zs.length ≤ 1048576) (hI : Sks w.heap.size w (.slice a zs.length cap) zs) :
    Calls Tryd.prog 63 #[.agg (ratL C G (.slice a zs.length cap)).toArray] w fun e W' => e = .returned (.int .i64 (chkE G zs)) ∧ Aft w W' := by
  have HC := Lib.hid hC
  have HI := Lib.hid (fun (wx : World) (h : Aft w wx) => hI.aft h)
  have HL := Lib.hid (Led.start w)
  clear hC
  obtain ⟨g, hg0⟩ : ∃ g : Int, g = (G : Int) := ⟨_, rfl⟩
  have HG := Lib.hid hg0
  go_enter Tryd.func63, Tryd.ntmps63
  by_cases h1 : (4294967296 : Int) < g
  · have HR := Lib.hid (show chkE G zs = 1 by rw [chkE_is]; exact if_neg (by omega))
    rw [HR.out]
    clear hg0
    go_wp2_with (first | (refine wpList_boxO rfl 71 (.tmp 0) rfl (.agg (ratL C G (.slice a zs.length cap)).toArray) rfl (.cells (ratL C G (.slice a zs.length cap)).toArray 71) (box_rat _) ?_; intro w' aa gg zz; (try replace HO := Lib.hid (HO.out.aft aa)); (try replace HO2 := Lib.hid (HO2.out.aft aa)); (try replace HOK := Lib.hid (HOK.out.aft aa)); replace HL := Lib.hid (HL.out.alloc aa gg.out); clear aa gg zz; try simp only [List.nil_append, List.cons_append, List.set_cons_zero, List.set_cons_succ] at HL; have hn := rat_n (HL.out.get 0 rfl) HC.out; rw [← HG.out] at hn))
    go_ret
    exact ⟨rfl, HL.out.aft⟩
  by_cases h2 : (1024 : Int) < (zs.length : Nat)
  · have HR := Lib.hid (show chkE G zs = 1 by rw [chkE_is]; exact if_neg (by omega))
    rw [HR.out]
    clear hg0
    go_wp2_with (first | (refine wpList_boxO rfl 71 (.tmp 0) rfl (.agg (ratL C G (.slice a zs.length cap)).toArray) rfl (.cells (ratL C G (.slice a zs.length cap)).toArray 71) (box_rat _) ?_; intro w' aa gg zz; (try replace HO := Lib.hid (HO.out.aft aa)); (try replace HO2 := Lib.hid (HO2.out.aft aa)); (try replace HOK := Lib.hid (HOK.out.aft aa)); replace HL := Lib.hid (HL.out.alloc aa gg.out); clear aa gg zz; try simp only [List.nil_append, List.cons_append, List.set_cons_zero, List.set_cons_succ] at HL; have hn := rat_n (HL.out.get 0 rfl) HC.out; rw [← HG.out] at hn; have hl := rat_l (HL.out.get 0 rfl) HC.out))
    go_ret
    exact ⟨rfl, HL.out.aft⟩
  have HK := Lib.hid (show G ≤ 4294967296 ∧ zs.length ≤ 1024 by omega)
  clear hg0
  go_wp2_with (first | (refine wpList_boxO rfl 71 (.tmp 0) rfl (.agg (ratL C G (.slice a zs.length cap)).toArray) rfl (.cells (ratL C G (.slice a zs.length cap)).toArray 71) (box_rat _) ?_; intro w' aa gg zz; (try replace HO := Lib.hid (HO.out.aft aa)); (try replace HO2 := Lib.hid (HO2.out.aft aa)); (try replace HOK := Lib.hid (HOK.out.aft aa)); replace HL := Lib.hid (HL.out.alloc aa gg.out); clear aa gg zz; try simp only [List.nil_append, List.cons_append, List.set_cons_zero, List.set_cons_succ] at HL; have hn := rat_n (HL.out.get 0 rfl) HC.out; rw [← HG.out] at hn; have hl := rat_l (HL.out.get 0 rfl) HC.out))
  clear hn hl
  go_loopw [17] (fun v17 wr => ∃ i : Nat, i ≤ zs.length ∧ v17 = .int .i64 (i : Int) ∧ (∀ j, j < i → (zs[j]?.getD default).1.1 < G ∧ (0 < j → (zs[j - 1]?.getD default).1.1 < (zs[j]?.getD default).1.1)) ∧ Led w wr [(w.heap.size, .cells (ratL C G (.slice a zs.length cap)).toArray 71)]) (fun v _ => zs.length - (intOf v).toNat)
  case atStart => exact ⟨0, by omega, rfl, fun j hj => absurd hj (Nat.not_lt_zero _), HL.out⟩
  case round =>
    clear HL
    obtain ⟨i, hi, rfl, hok, hL⟩ := hrel
    have HL := Lib.hid hL
    have HOk := Lib.hid hok
    clear hL hok
    by_cases hlt : i < zs.length
    rotate_left
    · obtain rfl : i = zs.length := by omega
      have HR := Lib.hid (show chkE G zs = 0 by rw [chkE_is]; exact if_pos ⟨HK.out.1, HK.out.2, HOk.out⟩)
      have hlt' : ¬ ((zs.length : Nat) : Int) < (zs.length : Nat) := by omega
      go_wp2_with fail
      go_ret
      exact ⟨by rw [HR.out]; rfl, HL.out.aft⟩
    · have hlt' : (i : Int) < (zs.length : Nat) := by omega
      rcases hI with ⟨-, rfl⟩ | ⟨b, off, cap', he, hb, -⟩
      · simp at hlt
      cases he
      have HRow := Lib.hid (show ∀ (j : Nat) (wx : World), j < zs.length → Aft w wx → wx.rangeAt b (off + j * 33) (skL (zs[j]?.getD default)) from fun j wx hj hx => by
        rcases HI.out wx hx with ⟨h, -⟩ | ⟨b2, off2, cap2, he2, -, hc⟩
        · cases h
        · cases he2
          exact hc j hj)
      have HX := Lib.hid (fun (wx : World) (hx : Aft w wx) => HRow.out i wx hlt hx)
      obtain ⟨X, hXe⟩ : ∃ X, X = zs[i]?.getD default := ⟨_, rfl⟩
      rw [← hXe] at HX
      have HXe := Lib.hid hXe
      obtain ⟨x, hx⟩ : ∃ x : Int, x = (X.1.1 : Int) := ⟨_, rfl⟩
      have Hx := Lib.hid hx
      clear hXe hx
      by_cases hge : g ≤ x
      · have HR := Lib.hid (show chkE G zs = 1 by
          rw [chkE_is]
          exact if_neg fun q => by have := (q.2.2 i hlt).1; rw [← HXe.out] at this; have := Hx.out; have := HG.out; omega)
        go_wp2_with (first | (refine wpList_load_val (by kernel_rfl) 73 (.tmp 20) rfl _ rfl (.agg (skL X).toArray) (run_loadVar_sk _ (HX.out _ HL.out.aft)) ?_) | (refine wpList_allocO rfl 73 rfl (.cells (skL zSk).toArray 73) alloc_skz ?_; intro w' aa gg zz; (try replace HO := Lib.hid (HO.out.aft aa)); (try replace HO2 := Lib.hid (HO2.out.aft aa)); (try replace HOK := Lib.hid (HOK.out.aft aa)); replace HL := Lib.hid (HL.out.alloc aa gg.out); clear aa gg zz; try simp only [List.nil_append, List.cons_append, List.set_cons_zero, List.set_cons_succ] at HL) | (refine wpList_store_rowZ rfl 73 (.tmp 4) (.tmp 21) rfl _ (skL X).toArray rfl rfl _ _ (HL.out.get 1 rfl) (sk_info X) ((sk_sz _).trans (sk_sz _).symm) (all_one (skL_one _)) ?_; intro w' b1 b2 b3; (try replace HO := Lib.hid (HO.out.stored (HL.out.get 1 rfl) (by decide) b2.out)); (try replace HO2 := Lib.hid (HO2.out.stored (HL.out.get 1 rfl) (by decide) b2.out)); (try replace HOK := Lib.hid (HOK.out.stored (HL.out.get 1 rfl) (by decide) b2.out)); replace HL := Lib.hid (HL.out.store 1 rfl b1 b2 b3); clear b1 b2 b3; try simp only [List.nil_append, List.cons_append, List.set_cons_zero, List.set_cons_succ] at HL))
        have f4 := fun u : Later w'.heap.size w' => sk_gen (Aft.get u.h (HL.out.get 1 rfl))
        have f0 := fun u : Later w'.heap.size w' => rat_n (Aft.get u.h (HL.out.get 0 rfl)) HC.out
        have fl := fun u : Later w'.heap.size w' => rat_l (Aft.get u.h (HL.out.get 0 rfl)) HC.out
        rw [← Hx.out] at f4
        rw [← HG.out] at f0
        refine wp_region_lex (fun wz => ∃ u : Later w'.heap.size w', wz = u.w) (fun i => ([] : List Nat).contains i) 21 (by kernel_rfl) (by kernel_rfl) ⟨⟨w'.drew, (Below.refl _ _).drew⟩, rfl⟩ ?_
        change wpLx _ _ _ _ _ _ _ _ _ w'.drew
        replace HL := Lib.hid (HL.out.call (show Aft w' w'.drew from (Below.refl _ _).drew))
        try simp only [Act.put]
        repeat (first | (refine lx_skipT (by go_big_quiet_skip; exact wpQuiet_nil trivial) (by kernel_rfl) ?_; simp only [Act.put, List.setIfInBounds_toArray, List.set_cons_succ, List.set_cons_zero]) | (refine lx_quietT rfl (by go_big_quiet_want; exact quiet_false (by assumption)) (by kernel_rfl) rfl ?_; intro Kx hKx; go_big_quiet_op; go_big_quiet_on))
        refine lx_done ?_
        go_wp2_with fail
        go_ret
        exact ⟨by rw [HR.out]; rfl, HL.out.aft⟩
      · have HLt := Lib.hid (show X.1.1 < G by have := Hx.out; have := HG.out; omega)
        have hgd : decide (g ≤ x) = false := decide_eq_false hge
        by_cases h0 : i = 0
        · subst h0
          go_wp2_with (first | (refine wpList_load_val (by kernel_rfl) 73 (.tmp 20) rfl _ rfl (.agg (skL X).toArray) (run_loadVar_sk _ (HX.out _ HL.out.aft)) ?_) | (refine wpList_allocO rfl 73 rfl (.cells (skL zSk).toArray 73) alloc_skz ?_; intro w' aa gg zz; (try replace HO := Lib.hid (HO.out.aft aa)); (try replace HO2 := Lib.hid (HO2.out.aft aa)); (try replace HOK := Lib.hid (HOK.out.aft aa)); replace HL := Lib.hid (HL.out.alloc aa gg.out); clear aa gg zz; try simp only [List.nil_append, List.cons_append, List.set_cons_zero, List.set_cons_succ] at HL) | (refine wpList_store_rowZ rfl 73 (.tmp 4) (.tmp 21) rfl _ (skL X).toArray rfl rfl _ _ (HL.out.get 1 rfl) (sk_info X) ((sk_sz _).trans (sk_sz _).symm) (all_one (skL_one _)) ?_; intro w' b1 b2 b3; (try replace HO := Lib.hid (HO.out.stored (HL.out.get 1 rfl) (by decide) b2.out)); (try replace HO2 := Lib.hid (HO2.out.stored (HL.out.get 1 rfl) (by decide) b2.out)); (try replace HOK := Lib.hid (HOK.out.stored (HL.out.get 1 rfl) (by decide) b2.out)); replace HL := Lib.hid (HL.out.store 1 rfl b1 b2 b3); clear b1 b2 b3; try simp only [List.nil_append, List.cons_append, List.set_cons_zero, List.set_cons_succ] at HL))
          have f4 := fun u : Later w'.heap.size w' => sk_gen (Aft.get u.h (HL.out.get 1 rfl))
          have f0 := fun u : Later w'.heap.size w' => rat_n (Aft.get u.h (HL.out.get 0 rfl)) HC.out
          have fl := fun u : Later w'.heap.size w' => rat_l (Aft.get u.h (HL.out.get 0 rfl)) HC.out
          rw [← Hx.out] at f4
          rw [← HG.out] at f0
          refine wp_region_lex (fun wz => ∃ u : Later w'.heap.size w', wz = u.w) (fun i => ([] : List Nat).contains i) 21 (by kernel_rfl) (by kernel_rfl) ⟨⟨w'.drew, (Below.refl _ _).drew⟩, rfl⟩ ?_
          change wpLx _ _ _ _ _ _ _ _ _ w'.drew
          replace HL := Lib.hid (HL.out.call (show Aft w' w'.drew from (Below.refl _ _).drew))
          try simp only [Act.put]
          repeat (first | (refine lx_skipT (by go_big_quiet_skip; exact wpQuiet_nil trivial) (by kernel_rfl) ?_; simp only [Act.put, List.setIfInBounds_toArray, List.set_cons_succ, List.set_cons_zero]) | (refine lx_quietT rfl (by go_big_quiet_want; exact quiet_false (by assumption)) (by kernel_rfl) rfl ?_; intro Kx hKx; go_big_quiet_op; go_big_quiet_on))
          refine lx_done ?_
          go_wp2_with fail
          go_roundw
          case rel =>
            refine ⟨1, by omega, by go_num, fun j hj => ?_, HL.out.cut 1⟩
            obtain rfl : j = 0 := by omega
            exact ⟨by rw [← HXe.out]; exact HLt.out, fun q => absurd q (Nat.lt_irrefl _)⟩
          case measure => simp [intOf]; omega
        · have h0' : (0 : Int) < (i : Int) := by omega
          have h0d : decide (0 < i) = true := decide_eq_true (by omega)
          have hi1 : wrap64 ((i : Int) - 1) = ((i - 1 : Nat) : Int) := by unfold wrap64; omega
          obtain ⟨Z, hZe⟩ : ∃ Z, Z = zs[i - 1]?.getD default := ⟨_, rfl⟩
          have HZ := Lib.hid (fun (wx : World) (hx : Aft w wx) => hZe ▸ HRow.out (i - 1) wx (by omega) hx)
          have HZe := Lib.hid hZe
          obtain ⟨z, hz0⟩ : ∃ z : Int, z = (Z.1.1 : Int) := ⟨_, rfl⟩
          have Hz := Lib.hid hz0
          clear hZe hz0
          have hlt1 : ((i - 1 : Nat) : Int) < (zs.length : Nat) := by omega
          by_cases hzx : x ≤ z
          · have HR := Lib.hid (show chkE G zs = 1 by
              rw [chkE_is]
              exact if_neg fun q => by have := (q.2.2 i hlt).2 (by omega); rw [← HXe.out, ← HZe.out] at this; have := Hx.out; have := Hz.out; omega)
            go_wp2_with (first | (refine wpList_load_val (by kernel_rfl) 73 (.tmp 20) rfl _ rfl (.agg (skL X).toArray) (run_loadVar_sk _ (HX.out _ HL.out.aft)) ?_) | (refine wpList_allocO rfl 73 rfl (.cells (skL zSk).toArray 73) alloc_skz ?_; intro w' aa gg zz; (try replace HO := Lib.hid (HO.out.aft aa)); (try replace HO2 := Lib.hid (HO2.out.aft aa)); (try replace HOK := Lib.hid (HOK.out.aft aa)); replace HL := Lib.hid (HL.out.alloc aa gg.out); clear aa gg zz; try simp only [List.nil_append, List.cons_append, List.set_cons_zero, List.set_cons_succ] at HL) | (refine wpList_store_rowZ rfl 73 (.tmp 4) (.tmp 21) rfl _ (skL X).toArray rfl rfl _ _ (HL.out.get 1 rfl) (sk_info X) ((sk_sz _).trans (sk_sz _).symm) (all_one (skL_one _)) ?_; intro w' b1 b2 b3; (try replace HO := Lib.hid (HO.out.stored (HL.out.get 1 rfl) (by decide) b2.out)); (try replace HO2 := Lib.hid (HO2.out.stored (HL.out.get 1 rfl) (by decide) b2.out)); (try replace HOK := Lib.hid (HOK.out.stored (HL.out.get 1 rfl) (by decide) b2.out)); replace HL := Lib.hid (HL.out.store 1 rfl b1 b2 b3); clear b1 b2 b3; try simp only [List.nil_append, List.cons_append, List.set_cons_zero, List.set_cons_succ] at HL))
            have f4 := fun u : Later w'.heap.size w' => sk_gen (Aft.get u.h (HL.out.get 1 rfl))
            have f0 := fun u : Later w'.heap.size w' => rat_n (Aft.get u.h (HL.out.get 0 rfl)) HC.out
            have fl := fun u : Later w'.heap.size w' => rat_l (Aft.get u.h (HL.out.get 0 rfl)) HC.out
            rw [← Hx.out] at f4
            rw [← HG.out] at f0
            have fz := fun u : Later w'.heap.size w' => (show u.w.cell? ⟨b, off + (i - 1) * 33, none⟩ = some (.int .u64 (Z.1.1 : Int)) from HZ.out _ (Aft.trans HL.out.aft u.h) 0 _ rfl)
            rw [← Hz.out] at fz
            refine wp_region_lex (fun wz => ∃ u : Later w'.heap.size w', wz = u.w) (fun i => ([] : List Nat).contains i) 21 (by kernel_rfl) (by kernel_rfl) ⟨⟨w'.drew, (Below.refl _ _).drew⟩, rfl⟩ ?_
            change wpLx _ _ _ _ _ _ _ _ _ w'.drew
            replace HL := Lib.hid (HL.out.call (show Aft w' w'.drew from (Below.refl _ _).drew))
            try simp only [Act.put]
            repeat (first | (refine lx_skipT (by go_big_quiet_skip; exact wpQuiet_nil trivial) (by kernel_rfl) ?_; simp only [Act.put, List.setIfInBounds_toArray, List.set_cons_succ, List.set_cons_zero]) | (refine lx_quietT rfl (by go_big_quiet_want; exact quiet_false (by assumption)) (by kernel_rfl) rfl ?_; intro Kx hKx; go_big_quiet_op; go_big_quiet_on))
            refine lx_done ?_
            go_wp2_with fail
            go_ret
            exact ⟨by rw [HR.out]; rfl, HL.out.aft⟩
          · have hzd : decide (x ≤ z) = false := decide_eq_false hzx
            go_wp2_with (first | (refine wpList_load_val (by kernel_rfl) 73 (.tmp 20) rfl _ rfl (.agg (skL X).toArray) (run_loadVar_sk _ (HX.out _ HL.out.aft)) ?_) | (refine wpList_allocO rfl 73 rfl (.cells (skL zSk).toArray 73) alloc_skz ?_; intro w' aa gg zz; (try replace HO := Lib.hid (HO.out.aft aa)); (try replace HO2 := Lib.hid (HO2.out.aft aa)); (try replace HOK := Lib.hid (HOK.out.aft aa)); replace HL := Lib.hid (HL.out.alloc aa gg.out); clear aa gg zz; try simp only [List.nil_append, List.cons_append, List.set_cons_zero, List.set_cons_succ] at HL) | (refine wpList_store_rowZ rfl 73 (.tmp 4) (.tmp 21) rfl _ (skL X).toArray rfl rfl _ _ (HL.out.get 1 rfl) (sk_info X) ((sk_sz _).trans (sk_sz _).symm) (all_one (skL_one _)) ?_; intro w' b1 b2 b3; (try replace HO := Lib.hid (HO.out.stored (HL.out.get 1 rfl) (by decide) b2.out)); (try replace HO2 := Lib.hid (HO2.out.stored (HL.out.get 1 rfl) (by decide) b2.out)); (try replace HOK := Lib.hid (HOK.out.stored (HL.out.get 1 rfl) (by decide) b2.out)); replace HL := Lib.hid (HL.out.store 1 rfl b1 b2 b3); clear b1 b2 b3; try simp only [List.nil_append, List.cons_append, List.set_cons_zero, List.set_cons_succ] at HL))
            have f4 := fun u : Later w'.heap.size w' => sk_gen (Aft.get u.h (HL.out.get 1 rfl))
            have f0 := fun u : Later w'.heap.size w' => rat_n (Aft.get u.h (HL.out.get 0 rfl)) HC.out
            have fl := fun u : Later w'.heap.size w' => rat_l (Aft.get u.h (HL.out.get 0 rfl)) HC.out
            rw [← Hx.out] at f4
            rw [← HG.out] at f0
            have fz := fun u : Later w'.heap.size w' => (show u.w.cell? ⟨b, off + (i - 1) * 33, none⟩ = some (.int .u64 (Z.1.1 : Int)) from HZ.out _ (Aft.trans HL.out.aft u.h) 0 _ rfl)
            rw [← Hz.out] at fz
            refine wp_region_lex (fun wz => ∃ u : Later w'.heap.size w', wz = u.w) (fun i => ([] : List Nat).contains i) 21 (by kernel_rfl) (by kernel_rfl) ⟨⟨w'.drew, (Below.refl _ _).drew⟩, rfl⟩ ?_
            change wpLx _ _ _ _ _ _ _ _ _ w'.drew
            replace HL := Lib.hid (HL.out.call (show Aft w' w'.drew from (Below.refl _ _).drew))
            try simp only [Act.put]
            repeat (first | (refine lx_skipT (by go_big_quiet_skip; exact wpQuiet_nil trivial) (by kernel_rfl) ?_; simp only [Act.put, List.setIfInBounds_toArray, List.set_cons_succ, List.set_cons_zero]) | (refine lx_quietT rfl (by go_big_quiet_want; exact quiet_false (by assumption)) (by kernel_rfl) rfl ?_; intro Kx hKx; go_big_quiet_op; go_big_quiet_on))
            refine lx_done ?_
            go_wp2_with fail
            go_roundw
            case rel =>
              refine ⟨i + 1, by omega, by go_num, fun j hj => ?_, HL.out.cut 1⟩
              by_cases e : j = i
              · subst e
                exact ⟨by rw [← HXe.out]; exact HLt.out, fun _ => by rw [← HXe.out, ← HZe.out]; have := Hx.out; have := Hz.out; omega⟩
              · exact HOk.out j (by omega)
            case measure => simp [intOf]; omega
set_option maxRecDepth 100000 in
set_option maxHeartbeats 2000000 in
theorem raheadRef_any (C : List (BitVec 8)) (G t : Nat) (a : Option Addr) (cap : Nat) (zs : List Sk) (w : World) (hC : C.length = 32) (hG : G < 18446744073709551616) (ht : t < 18446744073709551616) (hz : zs.length ≤ 1048576) (hI : Sks w.heap.size w (.slice a zs.length cap) zs) :
    Calls Tryd.prog 61 #[.agg (ratL C G (.slice a zs.length cap)).toArray, .int .u64 (t : Int)] w fun e W' => e = .returned (.tuple #[.int .i64 (ahN G zs t : Int), .int .i64 (ahE G zs t)]) ∧ Aft w W' := by
  have HC := Lib.hid hC
  have HK := Lib.hid (fun (wx : World) (h : Aft w wx) => rcheckRef_any C G a cap zs wx hC hz (hI.aft h))
  have HL := Lib.hid (Led.start w)
  clear hC hI
  obtain ⟨z, hz0⟩ : ∃ z : Int, z = (t : Int) := ⟨_, rfl⟩
  obtain ⟨g, hg0⟩ : ∃ g : Int, g = (G : Int) := ⟨_, rfl⟩
  rw [← hz0]
  have HZ := Lib.hid hz0
  have HG := Lib.hid hg0
  have HT := Lib.hid ht
  have HG2 := Lib.hid hG
  clear hz0 hg0 ht hG
  go_enter Tryd.func61, Tryd.ntmps61
  go_wp2_with (first | (refine wpList_boxO rfl 71 (.tmp 0) rfl (.agg (ratL C G (.slice a zs.length cap)).toArray) rfl (.cells (ratL C G (.slice a zs.length cap)).toArray 71) (box_rat _) ?_; intro w' aa gg zz; (try replace HO := Lib.hid (HO.out.aft aa)); (try replace HO2 := Lib.hid (HO2.out.aft aa)); (try replace HOK := Lib.hid (HOK.out.aft aa)); replace HL := Lib.hid (HL.out.alloc aa gg.out); clear aa gg zz; try simp only [List.nil_append, List.cons_append, List.set_cons_zero, List.set_cons_succ] at HL) | (refine wpList_load_rowG (by kernel_rfl) 71 (.tmp 2) rfl _ rfl _ _ _ _ (HL.out.get 0 rfl) Tryd.underlying71 rfl (rat_info HC.out) ?_))
  refine (HK.out _ HL.out.aft).mono ?_
  rintro r w2 ⟨rfl, h2⟩
  replace HL := Lib.hid (HL.out.call h2)
  clear h2
  have hn := rat_n (HL.out.get 0 rfl) HC.out
  rw [← HG.out] at hn
  have hl := rat_l (HL.out.get 0 rfl) HC.out
  rcases chkE_or G zs with hk | hk
  · obtain ⟨k1, k2, -⟩ := chkE_zero hk
    have HQ := Lib.hid hk
    have HK1 := Lib.hid k1
    have HK2 := Lib.hid k2
    rw [hk]
    clear hk k1 k2 hz
    by_cases hA : z < g
    · have HE := Lib.hid (show ahE G zs t = 0 by unfold ahE; rw [if_neg (by rw [HQ.out]; simp), if_pos (by have := HZ.out; have := HG.out; omega)])
      have HN := Lib.hid (show ahN G zs t = 0 from if_neg (by have := HZ.out; have := HG.out; omega))
      go_wp2_with fail
      go_ret2
      exact ⟨by rw [HE.out, HN.out]; rfl, HL.out.aft⟩
    by_cases hB : (4294967296 : Int) ≤ z
    · have HE := Lib.hid (show ahE G zs t = 8 by unfold ahE; rw [if_neg (by rw [HQ.out]; simp), if_neg (by have := HZ.out; have := HG.out; omega), if_pos (by have := HZ.out; omega)])
      have HN := Lib.hid (show ahN G zs t = 0 from if_neg (by rw [HE.out]; simp))
      go_wp2_with fail
      go_ret2
      exact ⟨by rw [HE.out, HN.out]; rfl, HL.out.aft⟩
    have e2 : ∀ x : Int, IntKind.u64.wrap x = x % 18446744073709551616 := fun _ => rfl
    have h0 : 0 ≤ z - g := by omega
    have w1 : IntKind.u64.wrap ((zs.length : Nat) : Int) = ((zs.length : Nat) : Int) := by rw [e2]; have := HK2.out; omega
    have w2 : IntKind.u64.wrap (((zs.length : Nat) : Int) + z) = ((zs.length : Nat) : Int) + z := by rw [e2]; have := HK2.out; have := HZ.out; omega
    have w3 : IntKind.u64.wrap (((zs.length : Nat) : Int) + z - g) = ((zs.length : Nat) : Int) + z - g := by rw [e2]; have := HK2.out; have := HZ.out; have := HG.out; omega
    have w4 : IntKind.u64.wrap (z - g) = z - g := by rw [e2]; have := HZ.out; have := HG.out; omega
    have w5 : wrap64 (z - g) = z - g := by unfold wrap64; have := HZ.out; have := HG.out; omega
    clear e2
    by_cases hD : (1024 : Int) < ((zs.length : Nat) : Int) + z - g
    · have HE := Lib.hid (show ahE G zs t = 10 by unfold ahE; rw [if_neg (by rw [HQ.out]; simp), if_neg (by have := HZ.out; have := HG.out; omega), if_neg (by have := HZ.out; omega), if_pos (by have := HZ.out; have := HG.out; have := HK2.out; omega)])
      have HN := Lib.hid (show ahN G zs t = 0 from if_neg (by rw [HE.out]; simp))
      go_wp2_with fail
      go_ret2
      exact ⟨by rw [HE.out, HN.out]; rfl, HL.out.aft⟩
    · have HE := Lib.hid (show ahE G zs t = 0 by unfold ahE; rw [if_neg (by rw [HQ.out]; simp), if_neg (by have := HZ.out; have := HG.out; omega), if_neg (by have := HZ.out; omega), if_neg (by have := HZ.out; have := HG.out; have := HK2.out; omega)])
      have HN := Lib.hid (show ((ahN G zs t : Nat) : Int) = z - g by unfold ahN; rw [if_pos ⟨HE.out, by have := HZ.out; have := HG.out; omega⟩]; have := HZ.out; have := HG.out; omega)
      go_wp2_with fail
      go_ret2
      exact ⟨by rw [HE.out, HN.out]; rfl, HL.out.aft⟩
  · have HE := Lib.hid (show ahE G zs t = 1 by unfold ahE; rw [if_pos (by rw [hk]; decide)])
    have HN := Lib.hid (show ahN G zs t = 0 from if_neg (by rw [HE.out]; simp))
    rw [hk]
    clear hk
    go_wp2_with fail
    go_ret2
    exact ⟨by rw [HE.out, HN.out]; rfl, HL.out.aft⟩
set_option maxRecDepth 100000 in
set_option maxHeartbeats 4000000 in
theorem startRef_any (k : List (BitVec 8)) (z : Int) (w : World) (hK : TabK K0 0 w) (hk : k.length = 32) :
    Calls Tryd.prog 58 #[.agg (bv k).toArray, .int .i64 z] w fun r w' => r = .returned (.tuple #[.agg (ratL (stC k z) 0 (.slice none 0 0)).toArray, .int .i64 (stE z)]) ∧ Aft w w' := by
  have HK := Lib.hid hK
  have HKl := Lib.hid hk
  have HD := Lib.hid (show ∀ (x : Nat) (wx : World) (vc : Value), Aft w wx → RdAll wx vc [beL 4 x] → Calls Tryd.prog 72 #[.agg (bv k).toArray, .string ⟨#[115, 101, 110, 100, 101, 114]⟩, vc] wx fun r w' => r = .returned (.tuple #[.agg (bv (drvKey k senderS [beL 4 x])).toArray, .int .i64 0]) ∧ Aft wx w' from
    fun x wx vc ha hr => refSub_any k ⟨#[115, 101, 110, 100, 101, 114]⟩ vc [beL 4 x] wx (TabK_fr HK.out (Fr.of_below (S := fun _ => False) ha) (fun h => h)) hk hr (by decide) (by simp) (by simp [textOk, drvT, sb, cot, beL_length]))
  have HL := Lib.hid (Led.start w)
  clear hK hk
  go_enter Tryd.func58, Tryd.ntmps58
  by_cases h1 : z < 0
  · have HQ1 := Lib.hid (show stC k z = List.replicate 32 0 from if_neg (by omega))
    have HQ2 := Lib.hid (show stE z = 1 from if_neg (by omega))
    go_wp2_with (first | (refine wpList_boxO rfl 23 (.tmp 0) rfl (.agg (bv k).toArray) rfl (.cells (bv k).toArray 23) (box_key _) ?_; intro w' aa gg zz; (try replace HO := Lib.hid (HO.out.aft aa)); (try replace HO2 := Lib.hid (HO2.out.aft aa)); (try replace HOK := Lib.hid (HOK.out.aft aa)); replace HL := Lib.hid (HL.out.alloc aa gg.out); clear aa gg zz; try simp only [List.nil_append, List.cons_append, List.set_cons_zero, List.set_cons_succ] at HL) | (refine wpList_allocO rfl 71 rfl (.cells (ratL (List.replicate 32 0) 0 (.slice none 0 0)).toArray 71) alloc_rat ?_; intro w' aa gg zz; (try replace HO := Lib.hid (HO.out.aft aa)); (try replace HO2 := Lib.hid (HO2.out.aft aa)); (try replace HOK := Lib.hid (HOK.out.aft aa)); replace HL := Lib.hid (HL.out.alloc aa gg.out); clear aa gg zz; try simp only [List.nil_append, List.cons_append, List.set_cons_zero, List.set_cons_succ] at HL) | (refine wpList_buildO (by kernel_rfl) 71 #[] rfl #[] (by kernel_rfl) _ (build_rat0) ?_) | (refine wpList_store_ratZ rfl (.tmp 4) (.tmp 14) _ (List.replicate 32 0) (0) (.slice none 0 0) List.length_replicate rfl rfl rfl rfl _ (HL.out.get 1 rfl) (rat_old List.length_replicate) ?_; intro w' b1 b2 b3; (try replace HO := Lib.hid (HO.out.stored (HL.out.get 1 rfl) (by decide) b2.out)); (try replace HO2 := Lib.hid (HO2.out.stored (HL.out.get 1 rfl) (by decide) b2.out)); (try replace HOK := Lib.hid (HOK.out.stored (HL.out.get 1 rfl) (by decide) b2.out)); replace HL := Lib.hid (HL.out.store 1 rfl b1 b2 b3); clear b1 b2 b3; try simp only [List.nil_append, List.cons_append, List.set_cons_zero, List.set_cons_succ] at HL))
    refine bodyPost_ret (results_cell_tmp rfl _ _ _ 71 _ (0, 0) _ rfl (HL.out.get 1 rfl) Tryd.underlying71 rfl (rat_info List.length_replicate)) rfl ?_
    exact ⟨by rw [HQ1.out, HQ2.out]; rfl, HL.out.aft⟩
  by_cases h2 : 1048576 < z
  · have HQ1 := Lib.hid (show stC k z = List.replicate 32 0 from if_neg (by omega))
    have HQ2 := Lib.hid (show stE z = 1 from if_neg (by omega))
    go_wp2_with (first | (refine wpList_boxO rfl 23 (.tmp 0) rfl (.agg (bv k).toArray) rfl (.cells (bv k).toArray 23) (box_key _) ?_; intro w' aa gg zz; (try replace HO := Lib.hid (HO.out.aft aa)); (try replace HO2 := Lib.hid (HO2.out.aft aa)); (try replace HOK := Lib.hid (HOK.out.aft aa)); replace HL := Lib.hid (HL.out.alloc aa gg.out); clear aa gg zz; try simp only [List.nil_append, List.cons_append, List.set_cons_zero, List.set_cons_succ] at HL) | (refine wpList_allocO rfl 71 rfl (.cells (ratL (List.replicate 32 0) 0 (.slice none 0 0)).toArray 71) alloc_rat ?_; intro w' aa gg zz; (try replace HO := Lib.hid (HO.out.aft aa)); (try replace HO2 := Lib.hid (HO2.out.aft aa)); (try replace HOK := Lib.hid (HOK.out.aft aa)); replace HL := Lib.hid (HL.out.alloc aa gg.out); clear aa gg zz; try simp only [List.nil_append, List.cons_append, List.set_cons_zero, List.set_cons_succ] at HL) | (refine wpList_buildO (by kernel_rfl) 71 #[] rfl #[] (by kernel_rfl) _ (build_rat0) ?_) | (refine wpList_store_ratZ rfl (.tmp 4) (.tmp 14) _ (List.replicate 32 0) (0) (.slice none 0 0) List.length_replicate rfl rfl rfl rfl _ (HL.out.get 1 rfl) (rat_old List.length_replicate) ?_; intro w' b1 b2 b3; (try replace HO := Lib.hid (HO.out.stored (HL.out.get 1 rfl) (by decide) b2.out)); (try replace HO2 := Lib.hid (HO2.out.stored (HL.out.get 1 rfl) (by decide) b2.out)); (try replace HOK := Lib.hid (HOK.out.stored (HL.out.get 1 rfl) (by decide) b2.out)); replace HL := Lib.hid (HL.out.store 1 rfl b1 b2 b3); clear b1 b2 b3; try simp only [List.nil_append, List.cons_append, List.set_cons_zero, List.set_cons_succ] at HL))
    refine bodyPost_ret (results_cell_tmp rfl _ _ _ 71 _ (0, 0) _ rfl (HL.out.get 1 rfl) Tryd.underlying71 rfl (rat_info List.length_replicate)) rfl ?_
    exact ⟨by rw [HQ1.out, HQ2.out]; rfl, HL.out.aft⟩
  obtain ⟨x, rfl⟩ : ∃ x : Nat, z = (x : Int) := ⟨z.toNat, by omega⟩
  have HQ1 := Lib.hid (show stC k (x : Int) = drvKey k senderS [beL 4 x] by unfold stC; rw [if_pos ⟨by omega, by omega⟩, Int.toNat_natCast])
  have HQ2 := Lib.hid (show stE (x : Int) = 0 from if_pos ⟨by omega, by omega⟩)
  have HNum := Lib.hid (fun wx : World => refFour wx x (by omega))
  have HD2 := Lib.hid (HD.out x)
  have HX := Lib.hid (drvKey_length k senderS [beL 4 x])
  generalize drvKey k senderS [beL 4 x] = X at *
  clear HD
  go_wp2_with (first | (refine wpList_boxO rfl 23 (.tmp 0) rfl (.agg (bv k).toArray) rfl (.cells (bv k).toArray 23) (box_key _) ?_; intro w' aa gg zz; (try replace HO := Lib.hid (HO.out.aft aa)); (try replace HO2 := Lib.hid (HO2.out.aft aa)); (try replace HOK := Lib.hid (HOK.out.aft aa)); replace HL := Lib.hid (HL.out.alloc aa gg.out); clear aa gg zz; try simp only [List.nil_append, List.cons_append, List.set_cons_zero, List.set_cons_succ] at HL) | (refine wpList_allocO rfl 71 rfl (.cells (ratL (List.replicate 32 0) 0 (.slice none 0 0)).toArray 71) alloc_rat ?_; intro wt aa gg zz; replace HL := Lib.hid (HL.out.alloc aa gg.out); clear aa gg zz))
  refine wp_region_lexF (fun i => ([0, 0, 0, 2, 1, 2, 0, 0, 0, 1, 3] : List Nat).getD i 0) 11 (by kernel_rfl) (by kernel_rfl) ?_; intro wr hwr
  replace HL := Lib.hid (HL.out.call (show Aft wt wr by rw [hwr]; exact (Below.refl _ _).drew))
  clear hwr
  have HLr := HL
  refine lf_load_key rfl (by kernel_rfl) (.tmp 2) rfl _ 0 rfl k (Rd.of_key (HL.out.get 0 rfl) HKl.out) HKl.out ?_
  simp only [Act.put, List.setIfInBounds_toArray, List.set_cons_succ, List.set_cons_zero]
  repeat (first | (refine lf_skip (by go_big_quiet_skip; exact wpQuiet_nil trivial) (by kernel_rfl) ?_; simp only [Act.put, List.setIfInBounds_toArray, List.set_cons_succ, List.set_cons_zero]) | (refine lf_quiet rfl (by go_big_quiet_want; exact quiet_false (by assumption)) (by kernel_rfl) rfl ?_; intro Kx hKx; go_big_quiet_op; go_big_quiet_on))
  refine lf_eff rfl (by go_big_quiet_want; exact quiet_false (by assumption)) (by kernel_rfl) ?_
  intro wn hb Kx hKx
  replace HL := Lib.hid (HL.out.call hb)
  go_wp2_with fail
  refine (HNum.out _).mono ?_
  rintro e w3 ⟨a3, c3, rfl, hr3, hb3⟩
  go_wp2_with fail
  refine ⟨hb3, ?_⟩
  have HR3 := Lib.hid hr3
  have HRn := Lib.hid (Aft.trans hb hb3)
  replace HL := Lib.hid (HL.out.call hb3)
  clear hr3 hb3 hb
  refine lf_fresh (.cells #[.slice a3 4 c3] 24) (fun g => .slice (some ⟨g, 0, none⟩) 1 1) rfl (by kernel_rfl) (fun w1 => by kernel_rfl) ?_
  intro wf gf ha1 ha2 ha3
  simp only [Act.put, List.setIfInBounds_toArray, List.set_cons_succ, List.set_cons_zero]
  replace HL := Lib.hid (HL.out.call ha1)
  have HAf := Lib.hid ha1
  have HB := Lib.hid ha3
  clear ha1 ha2 ha3
  refine lf_eff rfl (by go_big_quiet_want; exact quiet_false (by assumption)) (by kernel_rfl) ?_
  intro wg hc Kx hKx
  replace HL := Lib.hid (HL.out.call hc)
  go_wp2_with fail
  refine (HD2.out wg _ HL.out.aft (RdAll.blk (Aft.get hc HB.out) (HR3.out.grow (Aft.trans HAf.out hc)))).mono ?_
  rintro r wd ⟨rfl, hd⟩
  go_wp2_with fail
  refine ⟨hd, ?_⟩
  have HRd := Lib.hid (Aft.trans HRn.out (Aft.trans HAf.out (Aft.trans hc hd)))
  clear hd hc
  repeat (first | (refine lf_skip (by go_big_quiet_skip; exact wpQuiet_nil trivial) (by kernel_rfl) ?_; simp only [Act.put, List.setIfInBounds_toArray, List.set_cons_succ, List.set_cons_zero]) | (refine lf_quiet rfl (by go_big_quiet_want; exact quiet_false (by assumption)) (by kernel_rfl) rfl ?_; intro Kx hKx; go_big_quiet_op; go_big_quiet_on))
  refine lf_fresh (.cells key0 23) (fun g => .pointer (some ⟨g, 0, none⟩)) rfl (by kernel_rfl) (fun w1 => by kernel_rfl) ?_
  intro wk gk hk1 hk2 hk3
  simp only [Act.put, List.setIfInBounds_toArray, List.set_cons_succ, List.set_cons_zero]
  refine lf_store rfl (by kernel_rfl) 23 (.tmp 6) (.tmp 22) rfl gk (bv X).toArray rfl rfl _ key0 (Aft.trans HRd.out hk1) hk2 hk3 (key_info HX.out) (by rw [key_sz HX.out]; rfl) (all_one (bv_one X)) ?_
  intro wz z1 z2 z3
  simp only [Act.put]
  replace HL := Lib.hid (HLr.out.fresh z2 hk2 z1.out)
  clear HLr hk1 hk2 hk3 z1 z2 z3
  try simp only [List.nil_append, List.cons_append, List.set_cons_zero, List.set_cons_succ] at HL
  refine lf_done ?_
  intro wy hy
  replace HL := Lib.hid (HL.out.call hy)
  clear hy
  go_wp2_with (first | (refine wpList_load_rowG (by kernel_rfl) 23 (.tmp 6) rfl _ rfl _ _ _ _ (HL.out.get 2 rfl) Tryd.underlying23 rfl (key_info HX.out) ?_) | (refine wpList_buildO (by kernel_rfl) 71 #[(0, .tmp 24)] rfl #[(0, .agg (bv X).toArray)] (by kernel_rfl) _ (build_rat1 HX.out) ?_) | (refine wpList_store_ratZ rfl (.tmp 4) (.tmp 25) _ (X) (0) (.slice none 0 0) HX.out rfl rfl rfl rfl _ (HL.out.get 1 rfl) (rat_old List.length_replicate) ?_; intro w' b1 b2 b3; (try replace HO := Lib.hid (HO.out.stored (HL.out.get 1 rfl) (by decide) b2.out)); (try replace HO2 := Lib.hid (HO2.out.stored (HL.out.get 1 rfl) (by decide) b2.out)); (try replace HOK := Lib.hid (HOK.out.stored (HL.out.get 1 rfl) (by decide) b2.out)); replace HL := Lib.hid (HL.out.store 1 rfl b1 b2 b3); clear b1 b2 b3; try simp only [List.nil_append, List.cons_append, List.set_cons_zero, List.set_cons_succ] at HL))
  refine bodyPost_ret (results_cell_tmp rfl _ _ _ 71 _ (0, 0) _ rfl (HL.out.get 1 rfl) Tryd.underlying71 rfl (rat_info HX.out)) rfl ?_
  exact ⟨by rw [HQ1.out, HQ2.out]; rfl, HL.out.aft⟩
end Go.Proofs.YtanodhagpegbfaaDoor
