/- The law SchedAlike. -/
import Derived.Test.YtanodhagpegbfaaDoorLive14
namespace Go.Proofs.YtanodhagpegbfaaDoor
open Go Go.RowKit
set_option linter.unusedSimpArgs false
set_option maxRecDepth 100000 in
set_option maxHeartbeats 4000000 in
theorem schedAlike_any (e : Epo) (p q c t : List (BitVec 8)) (vx : Value) (x : List (BitVec 8)) (w : World) (hK : TabK K0 2 w) (ho : e.Ok) (hp : p.length = 32) (hq : q.length = 32) (hc : c.length = 32) (ht : t.length = 32) (hr : Rd w vx (bv x)) :
    Calls Tryd.prog 9 #[.agg (epoL e).toArray, .agg (bv p).toArray, .agg (bv q).toArray, .agg (bv c).toArray, .agg (bv t).toArray, vx] w fun r w' => r = .returned (.bool true) ∧ Below w.heap.size w w' := by
  have HK := Lib.hid hK
  have HO := Lib.hid ho
  have HP := Lib.hid hp
  have HQ := Lib.hid hq
  have HCl := Lib.hid hc
  have HTl := Lib.hid ht
  have HO1 := Lib.hid (show Epo.Ok { e with A := p } from ⟨ho.N, ho.I, hp, ho.C, ho.M, ho.H⟩)
  have HO2 := Lib.hid (show Epo.Ok { e with A := p, C := q } from ⟨ho.N, ho.I, hp, hq, ho.M, ho.H⟩)
  have HO3 := Lib.hid (show Epo.Ok { e with A := p, C := q, M := p } from ⟨ho.N, ho.I, hp, hq, hp, ho.H⟩)
  have HO4 := Lib.hid (show Epo.Ok { e with A := p, C := q, M := p, I := p } from ⟨ho.N, hp, hp, hq, hp, ho.H⟩)
  have HLv := Lib.hid (fun (wx : World) (h : Aft w wx) => live14_any wx (TabK_fr HK.out (Fr.of_below (S := fun _ => False) h) (fun h => h)))
  have HN := Lib.hid (fun (wx : World) (h : Aft w wx) => nextE_any e c t vx x wx (TabK_fr HK.out (Fr.of_below (S := fun _ => False) h) (fun h => h)) ho hc ht (hr.grow h))
  have HN2 := Lib.hid (show ∀ (wx : World), Aft w wx → Calls Tryd.prog 37 #[.agg (epoL { e with A := p, C := q, M := p }).toArray, .agg (bv c).toArray, .agg (bv t).toArray, vx] wx fun r w' => r = .returned (.tuple #[.agg (epoL (nxtE e c t x)).toArray, .int .i64 (nxtF e x)]) ∧ Aft wx w' from
    fun wx h => nextE_any { e with A := p, C := q, M := p } c t vx x wx (TabK_fr HK.out (Fr.of_below (S := fun _ => False) h) (fun h => h)) HO3.out hc ht (hr.grow h))
  have HH := Lib.hid (fun (wx : World) (h : Aft w wx) => hash_any e vx x wx (TabK_fr HK.out (Fr.of_below (S := fun _ => False) h) (fun h => h)) ho (hr.grow h))
  have HH2 := Lib.hid (show ∀ (wx : World), Aft w wx → Calls Tryd.prog 38 #[.agg (epoL { e with A := p, C := q, M := p, I := p }).toArray, vx] wx fun r w' => r = .returned (.tuple #[.agg (bv (hsK e x)).toArray, .int .i64 (hsE e x)]) ∧ Aft wx w' from
    fun wx h => hash_any { e with A := p, C := q, M := p, I := p } vx x wx (TabK_fr HK.out (Fr.of_below (S := fun _ => False) h) (fun h => h)) HO4.out (hr.grow h))
  have HEo := Lib.hid (nxtE_ok e c t x)
  have HHl := Lib.hid (hsK_length e x)
  obtain ⟨ax, cx, rfl, -, -, -, -⟩ := hr
  have HL := Lib.hid (Led.start w)
  clear hK ho hp hq hc ht
  rw [bv_length] at HN HN2 HH HH2 ⊢
  generalize nxtE e c t x = E at *
  generalize nxtF e x = F at *
  generalize hsK e x = H at *
  generalize hsE e x = f at *
  go_enter Tryd.func9, Tryd.ntmps9
  go_wp2_with (first | (refine wpList_boxO rfl 55 (.tmp 0) rfl (.agg (epoL e).toArray) rfl (.cells (epoL e).toArray 55) (box_epoch _) ?_; intro w' aa gg zz; replace HL := Lib.hid (HL.out.alloc aa gg.out); clear aa gg zz; try simp only [List.nil_append, List.cons_append, List.set_cons_zero, List.set_cons_succ] at HL) | (refine wpList_boxO rfl 23 (.tmp 1) rfl (.agg (bv p).toArray) rfl (.cells (bv p).toArray 23) (box_key _) ?_; intro w' aa gg zz; replace HL := Lib.hid (HL.out.alloc aa gg.out); clear aa gg zz; try simp only [List.nil_append, List.cons_append, List.set_cons_zero, List.set_cons_succ] at HL) | (refine wpList_boxO rfl 23 (.tmp 2) rfl (.agg (bv q).toArray) rfl (.cells (bv q).toArray 23) (box_key _) ?_; intro w' aa gg zz; replace HL := Lib.hid (HL.out.alloc aa gg.out); clear aa gg zz; try simp only [List.nil_append, List.cons_append, List.set_cons_zero, List.set_cons_succ] at HL) | (refine wpList_boxO rfl 23 (.tmp 3) rfl (.agg (bv c).toArray) rfl (.cells (bv c).toArray 23) (box_key _) ?_; intro w' aa gg zz; replace HL := Lib.hid (HL.out.alloc aa gg.out); clear aa gg zz; try simp only [List.nil_append, List.cons_append, List.set_cons_zero, List.set_cons_succ] at HL) | (refine wpList_boxO rfl 23 (.tmp 4) rfl (.agg (bv t).toArray) rfl (.cells (bv t).toArray 23) (box_key _) ?_; intro w' aa gg zz; replace HL := Lib.hid (HL.out.alloc aa gg.out); clear aa gg zz; try simp only [List.nil_append, List.cons_append, List.set_cons_zero, List.set_cons_succ] at HL))
  refine (HLv.out _ HL.out.aft).mono ?_
  rintro r w2 ⟨rfl, h2⟩
  replace HL := Lib.hid (HL.out.call h2)
  clear h2
  by_cases h1 : (3000 : Int) < (x.length : Nat)
  · go_wp2_with fail
    go_ret
    exact ⟨rfl, HL.out.aft⟩
  · go_wp2_with (first | (refine wpList_load_rowG (by kernel_rfl) 55 (.tmp 6) rfl _ rfl _ _ _ _ (HL.out.get 0 rfl) Tryd.underlying55 rfl (epo_info HO.out) ?_) | (refine wpList_allocO rfl 55 rfl (.cells (epoL zE).toArray 55) alloc_epoch ?_; intro w' aa gg zz; replace HL := Lib.hid (HL.out.alloc aa gg.out); clear aa gg zz; try simp only [List.nil_append, List.cons_append, List.set_cons_zero, List.set_cons_succ] at HL) | (refine wpList_store_epoZ rfl (.tmp 14) (.tmp 30) rfl _ _ HO.out rfl rfl _ (HL.out.get 5 rfl) (zE_ok) ?_; intro w' b1 b2 b3; replace HL := Lib.hid (HL.out.store 5 rfl b1 b2 b3); clear b1 b2 b3; try simp only [List.nil_append, List.cons_append, List.set_cons_zero, List.set_cons_succ] at HL) | (refine wpList_load_rowG (by kernel_rfl) 23 (.tmp 7) rfl _ rfl _ _ _ _ (HL.out.get 1 rfl) Tryd.underlying23 rfl (key_info HP.out) ?_) | (refine wpList_store_epoA rfl (.tmp 32) (.tmp 31) rfl _ (e) (HO.out) p HP.out rfl (HL.out.get 5 rfl) rfl ?_; intro w' b1 b2 b3; replace HL := Lib.hid (HL.out.store 5 rfl b1 b2 b3); clear b1 b2 b3; try simp only [List.nil_append, List.cons_append, List.set_cons_zero, List.set_cons_succ] at HL) | (refine wpList_load_rowG (by kernel_rfl) 23 (.tmp 8) rfl _ rfl _ _ _ _ (HL.out.get 2 rfl) Tryd.underlying23 rfl (key_info HQ.out) ?_) | (refine wpList_store_epoC rfl (.tmp 34) (.tmp 33) rfl _ ({ e with A := p }) (HO1.out) q HQ.out rfl (HL.out.get 5 rfl) rfl ?_; intro w' b1 b2 b3; replace HL := Lib.hid (HL.out.store 5 rfl b1 b2 b3); clear b1 b2 b3; try simp only [List.nil_append, List.cons_append, List.set_cons_zero, List.set_cons_succ] at HL) | (refine wpList_store_epoM rfl (.tmp 36) (.tmp 35) rfl _ ({ e with A := p, C := q }) (HO2.out) p HP.out rfl (HL.out.get 5 rfl) rfl ?_; intro w' b1 b2 b3; replace HL := Lib.hid (HL.out.store 5 rfl b1 b2 b3); clear b1 b2 b3; try simp only [List.nil_append, List.cons_append, List.set_cons_zero, List.set_cons_succ] at HL) | (refine wpList_load_rowG (by kernel_rfl) 23 (.tmp 9) rfl _ rfl _ _ _ _ (HL.out.get 3 rfl) Tryd.underlying23 rfl (key_info HCl.out) ?_) | (refine wpList_load_rowG (by kernel_rfl) 23 (.tmp 10) rfl _ rfl _ _ _ _ (HL.out.get 4 rfl) Tryd.underlying23 rfl (key_info HTl.out) ?_))
    refine (HN.out _ HL.out.aft).mono ?_
    rintro r w3 ⟨rfl, h3⟩
    replace HL := Lib.hid (HL.out.call h3)
    clear h3
    go_wp2_with (first | (refine wpList_allocO rfl 55 rfl (.cells (epoL zE).toArray 55) alloc_epoch ?_; intro w' aa gg zz; replace HL := Lib.hid (HL.out.alloc aa gg.out); clear aa gg zz; try simp only [List.nil_append, List.cons_append, List.set_cons_zero, List.set_cons_succ] at HL) | (refine wpList_store_epoZ rfl (.tmp 15) (.tmp 43) rfl _ _ HEo.out rfl rfl _ (HL.out.get 6 rfl) (zE_ok) ?_; intro w' b1 b2 b3; replace HL := Lib.hid (HL.out.store 6 rfl b1 b2 b3); clear b1 b2 b3; try simp only [List.nil_append, List.cons_append, List.set_cons_zero, List.set_cons_succ] at HL) | (refine wpList_load_rowG (by kernel_rfl) 55 (.tmp 14) rfl _ rfl _ _ _ _ (HL.out.get 5 rfl) Tryd.underlying55 rfl (epo_info HO3.out) ?_) | (refine wpList_load_rowG (by kernel_rfl) 23 (.tmp 9) rfl _ rfl _ _ _ _ (HL.out.get 3 rfl) Tryd.underlying23 rfl (key_info HCl.out) ?_) | (refine wpList_load_rowG (by kernel_rfl) 23 (.tmp 10) rfl _ rfl _ _ _ _ (HL.out.get 4 rfl) Tryd.underlying23 rfl (key_info HTl.out) ?_))
    refine (HN2.out _ HL.out.aft).mono ?_
    rintro r w4 ⟨rfl, h4⟩
    replace HL := Lib.hid (HL.out.call h4)
    clear h4
    go_wp2_with (first | (refine wpList_allocO rfl 55 rfl (.cells (epoL zE).toArray 55) alloc_epoch ?_; intro w' aa gg zz; replace HL := Lib.hid (HL.out.alloc aa gg.out); clear aa gg zz; try simp only [List.nil_append, List.cons_append, List.set_cons_zero, List.set_cons_succ] at HL) | (refine wpList_store_epoZ rfl (.tmp 17) (.tmp 51) rfl _ _ HEo.out rfl rfl _ (HL.out.get 7 rfl) (zE_ok) ?_; intro w' b1 b2 b3; replace HL := Lib.hid (HL.out.store 7 rfl b1 b2 b3); clear b1 b2 b3; try simp only [List.nil_append, List.cons_append, List.set_cons_zero, List.set_cons_succ] at HL) | (refine wpList_load_rowG (by kernel_rfl) 23 (.tmp 7) rfl _ rfl _ _ _ _ (HL.out.get 1 rfl) Tryd.underlying23 rfl (key_info HP.out) ?_) | (refine wpList_store_epoI rfl (.tmp 54) (.tmp 53) rfl _ ({ e with A := p, C := q, M := p }) (HO3.out) p HP.out rfl (HL.out.get 5 rfl) rfl ?_; intro w' b1 b2 b3; replace HL := Lib.hid (HL.out.store 5 rfl b1 b2 b3); clear b1 b2 b3; try simp only [List.nil_append, List.cons_append, List.set_cons_zero, List.set_cons_succ] at HL) | (refine wpList_load_rowG (by kernel_rfl) 55 (.tmp 6) rfl _ rfl _ _ _ _ (HL.out.get 0 rfl) Tryd.underlying55 rfl (epo_info HO.out) ?_))
    refine (HH.out _ HL.out.aft).mono ?_
    rintro r w5 ⟨rfl, h5⟩
    replace HL := Lib.hid (HL.out.call h5)
    clear h5
    go_wp2_with (first | (refine wpList_allocO rfl 23 rfl (.cells key0 23) alloc_key ?_; intro w' aa gg zz; replace HL := Lib.hid (HL.out.alloc aa gg.out); clear aa gg zz; try simp only [List.nil_append, List.cons_append, List.set_cons_zero, List.set_cons_succ] at HL) | (refine wpList_store_keyZ rfl (.tmp 19) (.tmp 59) rfl _ H HHl.out rfl rfl _ (HL.out.get 8 rfl) key0_size ?_; intro w' b1 b2 b3; replace HL := Lib.hid (HL.out.store 8 rfl b1 b2 b3); clear b1 b2 b3; try simp only [List.nil_append, List.cons_append, List.set_cons_zero, List.set_cons_succ] at HL) | (refine wpList_load_rowG (by kernel_rfl) 55 (.tmp 14) rfl _ rfl _ _ _ _ (HL.out.get 5 rfl) Tryd.underlying55 rfl (epo_info HO4.out) ?_))
    refine (HH2.out _ HL.out.aft).mono ?_
    rintro r w6 ⟨rfl, h6⟩
    replace HL := Lib.hid (HL.out.call h6)
    clear h6
    go_wp2_with (first | (refine wpList_allocO rfl 23 rfl (.cells key0 23) alloc_key ?_; intro w' aa gg zz; replace HL := Lib.hid (HL.out.alloc aa gg.out); clear aa gg zz; try simp only [List.nil_append, List.cons_append, List.set_cons_zero, List.set_cons_succ] at HL) | (refine wpList_store_keyZ rfl (.tmp 21) (.tmp 65) rfl _ H HHl.out rfl rfl _ (HL.out.get 9 rfl) key0_size ?_; intro w' b1 b2 b3; replace HL := Lib.hid (HL.out.store 9 rfl b1 b2 b3); clear b1 b2 b3; try simp only [List.nil_append, List.cons_append, List.set_cons_zero, List.set_cons_succ] at HL) | (refine wpList_load_rowG (by kernel_rfl) 55 (.tmp 15) rfl _ rfl _ _ _ _ (HL.out.get 6 rfl) Tryd.underlying55 rfl (epo_info HEo.out) ?_) | (refine wpList_load_rowG (by kernel_rfl) 55 (.tmp 17) rfl _ rfl _ _ _ _ (HL.out.get 7 rfl) Tryd.underlying55 rfl (epo_info HEo.out) ?_) | (refine wpList_binG (by kernel_rfl) .eql 55 55 (.tmp 69) (.tmp 70) rfl (.agg (epoL E).toArray) (.agg (epoL E).toArray) _ rfl rfl (run_eql_epo HEo.out) (guard_epoch _ _ _ _ _) ?_) | (refine wpList_load_rowG (by kernel_rfl) 23 (.tmp 19) rfl _ rfl _ _ _ _ (HL.out.get 8 rfl) Tryd.underlying23 rfl (key_info HHl.out) ?_) | (refine wpList_load_rowG (by kernel_rfl) 23 (.tmp 21) rfl _ rfl _ _ _ _ (HL.out.get 9 rfl) Tryd.underlying23 rfl (key_info HHl.out) ?_) | (refine wpList_binG (by kernel_rfl) .eql 23 23 (.tmp 79) (.tmp 80) rfl (.agg (bv H).toArray) (.agg (bv H).toArray) _ rfl rfl (run_eql_key H HHl.out) (guard_key _ _ _ _ _) ?_))
    go_ret
    exact ⟨by simp, HL.out.aft⟩
end Go.Proofs.YtanodhagpegbfaaDoor
