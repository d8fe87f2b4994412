/- PlanReaches of law 12. -/
import Derived.Deep.Cut
import Derived.Test.YtfgammcefaomeaaP17
import Derived.Test.YtfgammcefaomeaaP19
import Derived.Test.YtfgammcefaomeaaP20
import Derived.Test.YtfgammcefaomeaaP10
namespace Go.Proofs.Ytfgammcefaomeaa
open Go Go.RowKit
set_option linter.unusedSimpArgs false
section
variable {ops : Array Oper} {rest : List Oper} {o : Oper} {a : Act} {w : World} {Q : Exit → Act → World → Prop}
theorem wpList_lookSt (hw : Region.wanted o (yielded ops a.tmps) = true) (m x : Operand) (ho : o.op = .lookup 66 m x true) (b n : Nat) (f : Int → Option Value) (hm : a.eval m = .map (some b)) (hS : MapS w b n f) (z : Int) (hx : a.eval x = .int .i64 z) (hz : (Lit.int .i64 z).wf = true)
    (h : wpList Try.prog ops Q rest (a.put o.dst (.tuple #[(f z).getD stepZ, .bool (f z).isSome])) w) : wpList Try.prog ops Q (o :: rest) a w := by
  unfold wpList
  rw [if_pos hw]
  refine .inl (wp_noOut ?_)
  unfold Oper.wp execOp
  simp only [ho, hm, hx, hS.look hz, Sem.run_bind, Result.andThen_ok, Sem.run_pure]
  exact h
theorem wpList_lookStN (hw : Region.wanted o (yielded ops a.tmps) = true) (m x : Operand) (ho : o.op = .lookup 66 m x true) (b n : Nat) (f : Int → Option Value) (hm : a.eval m = .map (some b)) (hS : MapS w b n f) (z : Int) (hx : a.eval x = .int .i64 z) (hz : (Lit.int .i64 z).wf = true) (hf : f z = none)
    (h : wpList Try.prog ops Q rest (a.put o.dst (.tuple #[.agg (stR 0 0 (.slice none 0 0)).toArray, .bool false])) w) : wpList Try.prog ops Q (o :: rest) a w := by
  refine wpList_lookSt hw m x ho b n f hm hS z hx hz ?_
  rw [hf]
  exact h
theorem wpList_lookStS (hw : Region.wanted o (yielded ops a.tmps) = true) (m x : Operand) (ho : o.op = .lookup 66 m x true) (b n : Nat) (f : Int → Option Value) (hm : a.eval m = .map (some b)) (hS : MapS w b n f) (z : Int) (hx : a.eval x = .int .i64 z) (hz : (Lit.int .i64 z).wf = true) (v : Value) (hf : f z = some v)
    (h : wpList Try.prog ops Q rest (a.put o.dst (.tuple #[v, .bool true])) w) : wpList Try.prog ops Q (o :: rest) a w := by
  refine wpList_lookSt hw m x ho b n f hm hS z hx hz ?_
  rw [hf]
  exact h
end
/-- A step as it stands in the map. -/
def stV (ss : List (Stp × Value)) (p : Nat) : Value := .agg (stR (ss.getD p stP).1.nd (ss.getD p stP).1.fr (ss.getD p stP).2).toArray
theorem sfV_succ (ss : List (Stp × Value)) (i : Nat) (q : Int) : (if q = (ss.getD i stP).1.nd then some (stV ss i) else (sfF ss i q).map (stV ss)) = (sfF ss (i + 1) q).map (stV ss) := by
  rw [sfF]
  split <;> rfl
theorem wrap_pred {n m : Nat} (h : n = m + 1) (hn : n ≤ 1000000) : wrap64 ((n : Int) - 1) = (m : Int) := by
  rw [IntWalk.wrap64_in _ ⟨by omega, by omega⟩]
  omega
theorem few_of {B : List Nd} {ids K : List Int} {by' : Int} {ks : List Int} {x : Stp} (h : (x.fr, x.sd) = stepN B ids K by' ks) (hk : ks.length ≤ 3) : x.sd.length ≤ 3 := by
  have e : x.sd = (stepN B ids K by' ks).2 := congrArg Prod.snd h
  rw [e]
  unfold stepN
  split
  · rw [List.length_eraseIdx]
    split <;> omega
  · exact hk
theorem cnt_of {B : List Nd} {ids K : List Int} {by' w : Int} {ks : List Int} {x : Stp} (h : (x.fr, x.sd) = stepN B ids K by' ks) (hc : ((stepN B ids K by' ks).2.filter (fun z => z == w)).length = if (stepN B ids K by' ks).1 = w then 0 else 1) : (x.sd.filter (fun z => z == w)).length = if x.fr = w then 0 else 1 := by
  have e : x.sd = (stepN B ids K by' ks).2 := congrArg Prod.snd h
  have e2 : x.fr = (stepN B ids K by' ks).1 := congrArg Prod.fst h
  rw [e, e2]
  exact hc
theorem take_cnt {l : List Int} {r : Nat} (h : r < l.length) (w : Int) : ((l.take (r + 1)).filter (fun z => z == w)).length = ((l.take r).filter (fun z => z == w)).length + (if l.getD r 0 = w then 1 else 0) := by
  rw [take_getD h, List.filter_append, List.length_append]
  congr 1
  by_cases e : l.getD r 0 = w
  · rw [if_pos e, List.filter_cons, if_pos (by simpa using e)]
    rfl
  · rw [if_neg e, List.filter_cons, if_neg (by simpa using e)]
    rfl
set_option maxRecDepth 100000 in
set_option maxHeartbeats 8000000 in
theorem planReaches_any (kind by' : Int) (vi vo vn vm : Value) (ids out in' more : List Int) (w : World) (hi : Rd w vi (zv ids)) (ho : Rd w vo (zv out)) (hn : Rd w vn (zv in')) (hm : Rd w vm (zv more)) (w2 : ∀ x ∈ out, (Lit.int .i64 x).wf = true) (w3 : ∀ x ∈ in', (Lit.int .i64 x).wf = true) (w4 : ∀ x ∈ more, (Lit.int .i64 x).wf = true) (wb : (Lit.int .i64 by').wf = true) :
    Calls Try.prog 10 #[.int .i64 kind, vi, vo, vn, vm, .int .i64 by'] w fun e w' => e = .returned (.bool true) ∧ Aft w w' := by
  have HCg := Lib.hid (fun (l2 : out.length ≤ 40) (l3 : in'.length ≤ 40) (l4 : more.length ≤ 40) (wx : World) (ha : Aft w wx) => changed_any vi vo vn vm ids out in' more wx (hi.grow ha) (ho.grow ha) (hn.grow ha) (hm.grow ha) (by omega) (by omega) (by omega))
  have HW2 := Lib.hid w2
  have HW3 := Lib.hid w3
  have HW4 := Lib.hid w4
  have HWb := Lib.hid wb
  obtain ⟨ao, ac, rfl, -, -⟩ := hi.numS
  obtain ⟨oo, oc, rfl, -, -⟩ := ho.numS
  obtain ⟨no, nc, rfl, -, -⟩ := hn.numS
  obtain ⟨mo, mc, rfl, -, -⟩ := hm.numS
  have HL := Lib.hid (Led.start w)
  clear hi ho hn hm w2 w3 w4 wb
  go_enter Try.func10, Try.ntmps10
  go_wp2_with fail
  refine (live12_any _).mono ?_
  rintro e w3 ⟨rfl, h3⟩
  replace HL := Lib.hid (HL.out.call h3)
  clear h3
  go_upto_region 4 with fail
  go_cut [65] from 40 (fun s wc => ∃ b : Bool, s = .bool b ∧ (b = false → ids.length ≤ 100 ∧ out.length ≤ 40 ∧ in'.length ≤ 40 ∧ more.length ≤ 40 ∧ (kind = 1 ∨ kind = 2)) ∧ wc = w3)
  case first =>
    by_cases c1 : (100 : Int) < (ids.length : Nat)
    · go_wp2_with fail
      go_meet
      case rel => exact ⟨true, rfl, (fun h => by cases h), rfl⟩
    by_cases c2 : (40 : Int) < (out.length : Nat)
    · go_wp2_with fail
      go_meet
      case rel => exact ⟨true, rfl, (fun h => by cases h), rfl⟩
    by_cases c3 : (40 : Int) < (in'.length : Nat)
    · go_wp2_with fail
      go_meet
      case rel => exact ⟨true, rfl, (fun h => by cases h), rfl⟩
    by_cases c4 : (40 : Int) < (more.length : Nat)
    · go_wp2_with fail
      go_meet
      case rel => exact ⟨true, rfl, (fun h => by cases h), rfl⟩
    by_cases k1 : kind = 1
    · subst k1
      go_wp2_with fail
      go_meet
      case rel => exact ⟨false, rfl, fun _ => ⟨by omega, by omega, by omega, by omega, .inl (by trivial)⟩, rfl⟩
    by_cases k2 : kind = 2
    · subst k2
      go_wp2_with fail
      go_meet
      case rel => exact ⟨false, rfl, fun _ => ⟨by omega, by omega, by omega, by omega, .inr (by trivial)⟩, rfl⟩
    have e1 : (kind != 1) = true := by simpa using k1
    have e2 : (kind != 2) = true := by simpa using k2
    go_wp2_with fail
    go_meet
    case rel => exact ⟨true, rfl, (fun h => by cases h), rfl⟩
  case rest =>
    obtain ⟨b, rfl, hb, rfl⟩ := hcut
    cases b with
    | true =>
      go_wp2_with fail
      go_ret
      exact ⟨rfl, HL.out.aft⟩
    | false =>
      obtain ⟨l1, l2, l3, l4, hk⟩ := hb rfl
      have HKd := Lib.hid hk
      have HLo := Lib.hid l2
      have HLn := Lib.hid l3
      have HLm := Lib.hid l4
      clear hb l1 hk l2 l3 l4
      go_wp2_with fail
      refine (HCg.out HLo.out HLn.out HLm.out _ HL.out.aft).mono ?_
      rintro e w4 ⟨ids0, ls0, vi0, vl0, ids1, ls1, vi1, vl1, vt, T, rfl, h0, h1, ht, k0, k1, kc, kt, kl, h4⟩
      have HTl := Lib.hid (show (T ++ more).length ≤ 120 by rw [List.length_append]; have := HLo.out; have := HLn.out; have := HLm.out; omega)
      obtain ⟨TM, hTM⟩ : ∃ TM, TM = T ++ more := ⟨_, rfl⟩
      have HTM := Lib.hid hTM
      rw [← hTM] at ht HTl
      have HO0 := Lib.hid (h0.mono (Below.size HL.out.aft))
      have HO1 := Lib.hid (h1.mono (Below.size HL.out.aft))
      have HTt := Lib.hid (ht.mono (Below.size HL.out.aft))
      have HK0 := Lib.hid k0
      have HK1 := Lib.hid k1
      have HCh := Lib.hid kc
      have HTw := Lib.hid (show ∀ x ∈ TM, (Lit.int .i64 x).wf = true from fun x hx => by
        rw [HTM.out] at hx
        rcases List.mem_append.1 hx with hx | hx
        · rcases kt x hx with h | h
          · exact HW2.out x h
          · exact HW3.out x h
        · exact HW4.out x hx)
      have HWi := Lib.hid (ok_wf k0)
      have HWj := Lib.hid (ok_wf k1)
      have HI3 := Lib.hid k1.1.1
      obtain ⟨a5, c5, b5, d5, rfl, rfl⟩ := h0.shape
      obtain ⟨a7, c7, b7, d7, rfl, rfl⟩ := h1.shape
      obtain ⟨at5, ct5, rfl⟩ := ht.shape
      replace HL := Lib.hid (HL.out.call h4)
      clear h0 h1 ht k0 k1 kc kt kl h4 HCg hTM
      by_cases hz : 0 < ids1.length
      rotate_left
      · rw [decide_eq_false hz]
        go_wp2_with (first | (refine wpList_dstT 14 rfl ?_; refine wpList_allocO rfl 25 rfl (.cells (shpL (.slice none 0 0) (.slice none 0 0)).toArray 25) alloc_shp ?_; intro w5 aa gg zz; replace HO0 := Lib.hid (HO0.out.aft aa); replace HO1 := Lib.hid (HO1.out.aft aa); replace HTt := Lib.hid (HTt.out.aft aa); replace HL := Lib.hid (HL.out.alloc aa gg.out); clear aa gg zz; (try simp only [List.nil_append, List.cons_append, List.set_cons_zero, List.set_cons_succ] at HL)) | (refine wpList_dstT 15 rfl ?_; refine wpList_allocO rfl 25 rfl (.cells (shpL (.slice none 0 0) (.slice none 0 0)).toArray 25) alloc_shp ?_; intro w6 aa gg zz; replace HO0 := Lib.hid (HO0.out.aft aa); replace HO1 := Lib.hid (HO1.out.aft aa); replace HTt := Lib.hid (HTt.out.aft aa); replace HL := Lib.hid (HL.out.alloc aa gg.out); clear aa gg zz; (try simp only [List.nil_append, List.cons_append, List.set_cons_zero, List.set_cons_succ] at HL)) | (refine wpList_store_shp rfl (.tmp 14) (.tmp 73) _ _ _ (.slice a5 ids0.length c5) (.slice b5 ls0.length d5) rfl rfl rfl rfl rfl (HL.out.get 0 rfl) ?_; intro w7 q1 q2 q3; replace HO0 := Lib.hid (HO0.out.stored (HL.out.get 0 rfl) (by decide) (by decide) q2.out); replace HO1 := Lib.hid (HO1.out.stored (HL.out.get 0 rfl) (by decide) (by decide) q2.out); replace HTt := Lib.hid (HTt.out.storedP (HL.out.get 0 rfl) (by decide) q2.out); replace HL := Lib.hid (HL.out.store 0 rfl q1 q2 q3); clear q1 q2 q3; (try simp only [List.nil_append, List.cons_append, List.set_cons_zero, List.set_cons_succ] at HL)) | (refine wpList_store_shp rfl (.tmp 15) (.tmp 74) _ _ _ (.slice a7 ids1.length c7) (.slice b7 ls1.length d7) rfl rfl rfl rfl rfl (HL.out.get 1 rfl) ?_; intro w8 q1 q2 q3; replace HO0 := Lib.hid (HO0.out.stored (HL.out.get 1 rfl) (by decide) (by decide) q2.out); replace HO1 := Lib.hid (HO1.out.stored (HL.out.get 1 rfl) (by decide) (by decide) q2.out); replace HTt := Lib.hid (HTt.out.storedP (HL.out.get 1 rfl) (by decide) q2.out); replace HL := Lib.hid (HL.out.store 1 rfl q1 q2 q3); clear q1 q2 q3; (try simp only [List.nil_append, List.cons_append, List.set_cons_zero, List.set_cons_succ] at HL)))
        go_ret
        exact ⟨rfl, HL.out.aft⟩
      rw [decide_eq_true hz]
      have HZ := Lib.hid hz
      clear hz
      go_wp2_with (first | (refine wpList_dstT 14 rfl ?_; refine wpList_allocO rfl 25 rfl (.cells (shpL (.slice none 0 0) (.slice none 0 0)).toArray 25) alloc_shp ?_; intro w5 aa gg zz; replace HO0 := Lib.hid (HO0.out.aft aa); replace HO1 := Lib.hid (HO1.out.aft aa); replace HTt := Lib.hid (HTt.out.aft aa); replace HL := Lib.hid (HL.out.alloc aa gg.out); clear aa gg zz; (try simp only [List.nil_append, List.cons_append, List.set_cons_zero, List.set_cons_succ] at HL)) | (refine wpList_dstT 15 rfl ?_; refine wpList_allocO rfl 25 rfl (.cells (shpL (.slice none 0 0) (.slice none 0 0)).toArray 25) alloc_shp ?_; intro w6 aa gg zz; replace HO0 := Lib.hid (HO0.out.aft aa); replace HO1 := Lib.hid (HO1.out.aft aa); replace HTt := Lib.hid (HTt.out.aft aa); replace HL := Lib.hid (HL.out.alloc aa gg.out); clear aa gg zz; (try simp only [List.nil_append, List.cons_append, List.set_cons_zero, List.set_cons_succ] at HL)) | (refine wpList_store_shp rfl (.tmp 14) (.tmp 73) _ _ _ (.slice a5 ids0.length c5) (.slice b5 ls0.length d5) rfl rfl rfl rfl rfl (HL.out.get 0 rfl) ?_; intro w7 q1 q2 q3; replace HO0 := Lib.hid (HO0.out.stored (HL.out.get 0 rfl) (by decide) (by decide) q2.out); replace HO1 := Lib.hid (HO1.out.stored (HL.out.get 0 rfl) (by decide) (by decide) q2.out); replace HTt := Lib.hid (HTt.out.storedP (HL.out.get 0 rfl) (by decide) q2.out); replace HL := Lib.hid (HL.out.store 0 rfl q1 q2 q3); clear q1 q2 q3; (try simp only [List.nil_append, List.cons_append, List.set_cons_zero, List.set_cons_succ] at HL)) | (refine wpList_store_shp rfl (.tmp 15) (.tmp 74) _ _ _ (.slice a7 ids1.length c7) (.slice b7 ls1.length d7) rfl rfl rfl rfl rfl (HL.out.get 1 rfl) ?_; intro w8 q1 q2 q3; replace HO0 := Lib.hid (HO0.out.stored (HL.out.get 1 rfl) (by decide) (by decide) q2.out); replace HO1 := Lib.hid (HO1.out.stored (HL.out.get 1 rfl) (by decide) (by decide) q2.out); replace HTt := Lib.hid (HTt.out.storedP (HL.out.get 1 rfl) (by decide) q2.out); replace HL := Lib.hid (HL.out.store 1 rfl q1 q2 q3); clear q1 q2 q3; (try simp only [List.nil_append, List.cons_append, List.set_cons_zero, List.set_cons_succ] at HL)))
      obtain ⟨vs1, hq1, -, -⟩ := HO1.out
      have HI1 := Lib.hid hq1.ids.rd
      clear hq1
      obtain ⟨g7, o7, rfl, -, -⟩ := HI1.out.some_of (by rw [zv_length]; exact HZ.out)
      obtain ⟨ix, hix, eix⟩ := idx_ofP by' ids1.length HZ.out (by have := HI3.out; omega)
      have f1 := fun u : Later w8.heap.size w8 => shp_i (Aft.get u.h (HL.out.get 1 rfl))
      have f2 := fun u : Later w8.heap.size w8 => (HI1.out.grow u.h).num_at hix
      have HBi := Lib.hid (getD_memP hix)
      have HWz := Lib.hid (HWj.out _ HBi.out)
      generalize ids1.getD ix 0 = bz at *
      have hnz : ¬ ((ids1.length : Nat) : Int) = 0 := by omega
      have hil : (ix : Int) < (ids1.length : Nat) := by omega
      refine wp_region_lex (fun wz => ∃ u : Later w8.heap.size w8, wz = u.w) (fun i => ([] : List Nat).contains i) 17 (by kernel_rfl) (by kernel_rfl) ⟨⟨w8.drew, (Below.refl _ _).drew⟩, rfl⟩ ?_
      change wpLx _ _ _ _ _ _ _ _ _ w8.drew
      have HDa := Lib.hid (show Aft w8 w8.drew from (Below.refl _ _).drew)
      replace HL := Lib.hid (HL.out.call HDa.out)
      replace HO0 := Lib.hid (HO0.out.aft HDa.out)
      replace HO1 := Lib.hid (HO1.out.aft HDa.out)
      replace HTt := Lib.hid (HTt.out.aft HDa.out)
      generalize w8.drew = wd at *
      try simp only [Act.put, List.setIfInBounds_toArray, List.set_cons_succ, List.set_cons_zero]
      repeat (first | (refine lx_skipT (by go_big_quiet_skip; exact wpQuiet_nil trivial) (by kernel_rfl) ?_; simp only [Act.put, List.setIfInBounds_toArray, List.set_cons_succ, List.set_cons_zero]) | (refine lx_quietT rfl (by go_big_quiet_want; exact quiet_false (by assumption)) (by kernel_rfl) rfl ?_; intro Kx hKx; go_big_quiet_op; go_big_quiet_on))
      refine lx_done ?_
      clear f1 f2 eix hnz hil hix HDa HWb HI1 vs1
      obtain ⟨vs0, hq0, -, -⟩ := HO0.out
      obtain ⟨vs1, hq1, -, -⟩ := HO1.out
      replace HO0 := Lib.hid hq0
      replace HO1 := Lib.hid hq1
      clear hq0 hq1
      go_wp2_with (first | (refine wpList_load_rowG (by kernel_rfl) 25 (.tmp 14) rfl _ rfl _ _ _ _ (HL.out.get 0 rfl) Try.underlying25 rfl (shp_info _ _) ?_) | (refine wpList_load_rowG (by kernel_rfl) 25 (.tmp 15) rfl _ rfl _ _ _ _ (HL.out.get 1 rfl) Try.underlying25 rfl (shp_info _ _) ?_))
      refine (make_any kind bz _ _ _ _ _ ids0 ls0 ids1 ls1 TM _ HO0.out.ids.rd HO0.out.lv.rd (small_of HK0.out) HO1.out.ids.rd HO1.out.lv.rd (small_of HK1.out) HTt.out.rd (by have := HI3.out; omega) HTw.out HWz.out (make_pre HWi.out HWj.out)).mono ?_
      rintro e w9 (⟨-, vk, vs, ss, rfl, hkk, hS, hss, h6⟩ | ⟨hno, -, -⟩)
      rotate_left
      · exact absurd ⟨mayE_zero.2 ⟨HKd.out, HK0.out⟩, mayE_zero.2 ⟨HKd.out, HK1.out⟩, HBi.out⟩ hno
      have HK := Lib.hid (hkk.mono (Below.size HL.out.aft))
      have HSt := Lib.hid (hS.mono (Below.size HL.out.aft))
      have HSs := Lib.hid hss
      have HN1 := Lib.hid (nodes_few (kind := kind) HK1.out)
      have HKl := Lib.hid (keepL_length (nodesL kind ids0 ls0) (lvT (nodesL kind ids0 ls0) ids0 TM bz) ids1 (nodesL kind ids1 ls1) (nodesL kind ids1 ls1).length)
      obtain ⟨ka, kc, rfl⟩ := hkk.shape
      obtain ⟨sa, sc, rfl⟩ := hS.shape
      replace HL := Lib.hid (HL.out.call h6)
      replace HO0 := Lib.hid (HO0.out.aft h6)
      replace HO1 := Lib.hid (HO1.out.aft h6)
      replace HTt := Lib.hid (HTt.out.aft h6)
      clear h6 hkk hS hss
      obtain ⟨kl, hkl⟩ : ∃ l, l = keepL (nodesL kind ids0 ls0) (lvT (nodesL kind ids0 ls0) ids0 TM bz) ids1 (nodesL kind ids1 ls1) (nodesL kind ids1 ls1).length := ⟨_, rfl⟩
      rw [← hkl] at HK HKl ⊢
      have HKe := Lib.hid hkl
      have HA9 := Lib.hid (Aft.refl w9)
      clear hkl
      go_wp2_with (first | (refine wpList_dstT 18 rfl ?_; refine wpList_allocO rfl 30 rfl (.cells (plR (.slice none 0 0) (.slice none 0 0)).toArray 30) alloc_pl ?_; intro w10 aa gg zz; replace HA9 := Lib.hid (Aft.trans HA9.out aa); replace HL := Lib.hid (HL.out.alloc aa gg.out); clear aa gg zz; (try simp only [List.nil_append, List.cons_append, List.set_cons_zero, List.set_cons_succ] at HL)) | (refine wpList_store_rowZ rfl 30 (.tmp 18) (.tmp 104) rfl _ (plR (.slice ka kl.length kc) (.slice sa ss.length sc)).toArray rfl rfl _ _ (HL.out.get 2 rfl) (pl_info _ _) rfl (all_one plR_one) ?_; intro w11 q1 q2 q3; replace HA9 := Lib.hid (q3 _ _ (Nat.le_refl _) HA9.out); replace HL := Lib.hid (HL.out.store 2 rfl q1 q2 q3); clear q1 q2 q3; (try simp only [List.nil_append, List.cons_append, List.set_cons_zero, List.set_cons_succ] at HL)) | (refine wpList_load_rowG (by kernel_rfl) 25 (.tmp 15) rfl _ rfl _ _ _ _ (HL.out.get 1 rfl) Try.underlying25 rfl (shp_info _ _) ?_))
      replace HO0 := Lib.hid (HO0.out.aft HA9.out)
      replace HO1 := Lib.hid (HO1.out.aft HA9.out)
      replace HTt := Lib.hid (HTt.out.aft HA9.out)
      replace HK := Lib.hid (HK.out.aft HA9.out)
      replace HSt := Lib.hid (HSt.out.aft HA9.out)
      clear HA9
      have hm1 := mayE_zero.2 ⟨HKd.out, HK1.out⟩
      have HM1 := Lib.hid hm1
      refine (rnodes_any kind _ _ ids1 ls1 _ HO1.out.ids.rd HO1.out.lv.rd (small_of HK1.out)).mono ?_
      rintro e w12 ⟨vb, psB, rfl, hoB, hfB, h12⟩
      rw [HM1.out]
      rw [if_pos hm1] at hfB
      obtain ⟨ab5, bc5, rfl⟩ := hoB.shape
      replace HL := Lib.hid (HL.out.call h12)
      have HI1 := Lib.hid (HO1.out.aft h12).ids.rd
      have HV1 := Lib.hid (HO1.out.aft h12).lv.rd
      have HKr := Lib.hid (HK.out.aft h12).rd
      have HSr := Lib.hid (HSt.out.aft h12).rd
      have hpl : (psB.map Prod.fst).length = psB.length := List.length_map ..
      have hNl : (nodesL kind ids1 ls1).length = psB.length := by rw [← hfB, hpl]
      have hkp : kl.length = psB.length := by rw [HKl.out, hNl]
      have HNl := Lib.hid hNl
      have HBz := Lib.hid HBi.out
      have HLaw := Lib.hid (fun (id : Int) (hid : id ∈ ids1) => reach_law (kind := kind) (by' := bz) (T := TM) HK0.out HK1.out HBz.out hid rfl rfl (K := kl) HKe.out (W := rpathW kind ids1 ls1 id) (by
        unfold rpathW rpathE
        rw [if_pos hm1, if_pos hid, if_pos rfl]))
      have HN2 := Lib.hid (show psB.length ≤ 90000 by rw [← hNl]; exact HN1.out)
      have HSl := Lib.hid (show ss.length ≤ 90000 by
        have h1 := stpL_length (nodesL kind ids0 ls0) (lvT (nodesL kind ids0 ls0) ids0 TM bz) ids1 (nodesL kind ids1 ls1) bz (nodesL kind ids1 ls1).length
        have h2 := congrArg List.length HSs.out
        rw [List.length_map] at h2
        have := HN1.out
        omega)
      have HNd := Lib.hid (fun (i : Nat) (hi : i < ss.length) => stpL_mem (A := nodesL kind ids0 ls0) (f := lvT (nodesL kind ids0 ls0) ids0 TM bz) (ids := ids1) (by' := bz) (B := nodesL kind ids1 ls1) (nodesL kind ids1 ls1).length (ss.getD i stP).1 (by rw [← HSs.out]; exact List.mem_map_of_mem (stP_mem hi)))
      have HHs := Lib.hid (fun (k : Nat) (hk : k < psB.length) (h1 : kl.getD k 0 < 0) (h2 : 0 < ((nodesL kind ids1 ls1).getD k nd0).lv) => stpL_has (A := nodesL kind ids0 ls0) (f := lvT (nodesL kind ids0 ls0) ids0 TM bz) (ids := ids1) (by' := bz) (B := nodesL kind ids1 ls1) (i := k) (by rw [← keepL_pre _ _ _ _ (Nat.lt_succ_self k) (nodesL kind ids1 ls1).length (by rw [hNl]; omega), ← HKe.out]; exact h1) h2 (nodesL kind ids1 ls1).length (by rw [hNl]; exact hk))
      have HEr := Lib.hid (fun (id : Int) (hid : id ∈ ids1) => show rpathE kind ids1 ls1 id = 0 by unfold rpathE; rw [if_pos hm1, if_pos hid])
      have HPt := Lib.hid (fun (id : Int) (wx : World) (ha : Aft w12 wx) => rPath_any kind _ _ ids1 ls1 id wx (HI1.out.grow ha) (HV1.out.aft ha) (small_of HK1.out))
      clear hoB h12 HO0 HO1 HTt HK HKl hfB hpl hm1 HM1 hNl HSt HN1
      rw [hkp]
      replace HL := Lib.hid (show Led w w12 [(w4.heap.size, (.cells (shpL (.slice a5 ids0.length c5) (.slice b5 ls0.length d5)).toArray 25)), (w5.heap.size, (.cells (shpL (.slice (some ⟨g7, o7, none⟩) ids1.length c7) (.slice b7 ls1.length d7)).toArray 25)), (w9.heap.size, .cells (plR (.slice ka psB.length kc) (.slice sa ss.length sc)).toArray 30)] by rw [← hkp]; exact HL.out)
      have HKp := Lib.hid hkp
      clear hkp
      have e0 := cell_part (n := 0) (HL.out.get 2 rfl) rfl
      go_wp2_with (first | (refine wpList_makeMapSt (by kernel_rfl) rfl ?_; intro wM aM hM; have HAm := Lib.hid aM; have HSm := hM; have HLw := Lib.hid (HL.out.call aM); have e1 := cell_part (n := 1) (HLw.out.get 2 rfl) rfl; clear aM hM e0))
      clear e1 HLw
      go_loopw [130] (fun v130 wr => ∃ i : Nat, i ≤ ss.length ∧ v130 = .int .i64 (i : Int) ∧ MapS wr w12.heap.size i (fun q => (sfF ss i q).map (stV ss)) ∧ Aft w12 wr) (fun v _ => ss.length - (intOf v).toNat)
      case atStart => exact ⟨0, Nat.zero_le _, rfl, HSm.out, HAm.out⟩
      case round =>
        clear HSm HAm
        obtain ⟨i, hi, rfl, hS, hA⟩ := hrel
        have HS := Lib.hid hS
        have HA := Lib.hid hA
        clear hS hA
        by_cases hlt : i < ss.length
        · have hlt' : (i : Int) < (ss.length : Nat) := by omega
          have hi9 : i ≤ 90000 := by have := HSl.out; omega
          obtain ⟨g, o, c4, he, hrg⟩ := HSr.out.rng hlt
          injection he with he1 he2 he3
          subst he1 he3
          obtain ⟨qa, qc, hkv, -, -⟩ := (HSr.out.kid _ (stP_mem hlt)).numS
          have hrx := hrg wr HA.out
          obtain ⟨j, hj1, hj2, -⟩ := HNd.out i hlt
          have HXw := Lib.hid (show (Lit.int .i64 (ss.getD i stP).1.nd).wf = true by rw [hj2]; have := HNl.out; have := HN2.out; exact wf_int (by omega) (by omega))
          have HSv := Lib.hid (fun q => (sfV_succ ss i q))
          unfold stV at HSv
          rw [hkv] at hrx HSv
          generalize (ss.getD i stP).1 = x at *
          have HRx := Lib.hid hrx
          have HLr := Lib.hid (HL.out.call HA.out)
          have HA9 := Lib.hid (Aft.refl wr)
          clear hrg hkv he2 hrx hj1 hj2
          go_wp2_with (first | (refine wpList_dstT 133 rfl ?_; refine wpList_load_mid2 (by kernel_rfl) 40 (.tmp 132) rfl _ _ rfl (stR x.nd x.fr (.slice qa x.sd.length qc)) HRx.out _ Try.underlying40 rfl (st_info2 _ _ _) ?_) | (refine wpList_dstT 24 rfl ?_; refine wpList_allocO rfl 40 rfl (.cells (stR 0 0 (.slice none 0 0)).toArray 40) alloc_st ?_; intro wE aa gg zz; replace HA9 := Lib.hid (Aft.trans HA9.out aa); replace HLr := Lib.hid (HLr.out.alloc aa gg.out); clear aa gg zz; try simp only [List.nil_append, List.cons_append, List.set_cons_zero, List.set_cons_succ] at HLr) | (refine wpList_store_rowZ rfl 40 (.tmp 24) (.tmp 133) rfl _ (stR x.nd x.fr (.slice qa x.sd.length qc)).toArray rfl rfl _ _ (HLr.out.get 3 rfl) (st_info _ _ _) rfl (all_one stR_one) ?_; intro wF b1 b2 b3; replace HA9 := Lib.hid (b3 _ _ (Nat.le_refl _) HA9.out); replace HLr := Lib.hid (HLr.out.store 3 rfl b1 b2 b3); clear b1 b2 b3; (try simp only [List.nil_append, List.cons_append, List.set_cons_zero, List.set_cons_succ] at HLr); have x0 := cell_part (n := 0) (HLr.out.get 3 rfl) rfl) | (refine wpList_dstT 137 rfl ?_; refine wpList_load_rowG (by kernel_rfl) 40 (.tmp 24) rfl _ rfl _ _ _ _ (HLr.out.get 3 rfl) Try.underlying40 rfl (st_info _ _ _) ?_) | (refine wpList_putSt rfl (.tmp 134) (.tmp 136) (.tmp 137) rfl w12.heap.size i _ rfl (HS.out.aft HA9.out) x.nd (.agg (stR x.nd x.fr (.slice qa x.sd.length qc)).toArray) rfl HXw.out rfl (by omega) ?_; intro wQ k1 k2; have HS2 := k1; have HA2 := Lib.hid (aft_grown (Aft.trans HA.out HA9.out) (Nat.le_refl _) k2.out); clear k1 k2))
          go_roundw
          case rel => exact ⟨i + 1, by omega, by go_num, HS2.out.congr HSv.out, HA2.out⟩
          case measure => simp [intOf]; omega
        · obtain rfl : i = ss.length := by omega
          have hlt' : ¬ ((ss.length : Nat) : Int) < (ss.length : Nat) := by omega
          have c15 := shp_i ((HL.out.call HA.out).get 1 rfl)
          go_wp2_with fail
          clear c15
          obtain ⟨wS, hwS⟩ : ∃ x, x = wr := ⟨_, rfl⟩
          have HSS := Lib.hid (show MapS wS w12.heap.size ss.length (fun q => (sfF ss ss.length q).map (stV ss)) by rw [hwS]; exact HS.out)
          have HAS := Lib.hid (show Aft w12 wS by rw [hwS]; exact HA.out)
          rw [← hwS]
          clear hwS HS HA
          go_loopw [142] (fun v142 wz => ∃ a : Nat, a ≤ ids1.length ∧ v142 = .int .i64 (a : Int) ∧ Aft wS wz) (fun v _ => ids1.length - (intOf v).toNat)
          case atStart => exact ⟨0, Nat.zero_le _, rfl, Aft.refl _⟩
          case round =>
            obtain ⟨a, ha, rfl, hAa⟩ := hrel
            have HAa := Lib.hid hAa
            have HAb := Lib.hid (Aft.trans HAS.out hAa)
            clear hAa
            by_cases hat : a < ids1.length
            · have hat' : (a : Int) < (ids1.length : Nat) := by omega
              have ha9 : a ≤ 1000 := by have := HI3.out; omega
              have hca := (HI1.out.grow HAb.out).num_at hat
              have HId := Lib.hid (getD_memP hat)
              generalize ids1.getD a 0 = id at *
              have HLb := Lib.hid (HL.out.call HAb.out)
              go_wp2_with (first | (refine wpList_dstT 148 rfl ?_; refine wpList_load_rowG (by kernel_rfl) 25 (.tmp 15) rfl _ rfl _ _ _ _ (HLb.out.get 1 rfl) Try.underlying25 rfl (shp_info _ _) ?_))
              clear hca
              refine (HPt.out id _ HAb.out).mono ?_
              rintro e w15 ⟨vw, rfl, hoW, h15⟩
              obtain ⟨l1, l2, l3, l4, l5, l6⟩ := HLaw.out id HId.out
              rw [HNl.out] at l2 l3 l4 l5
              rw [HEr.out id HId.out]
              generalize rpathW kind ids1 ls1 id = W at *
              obtain ⟨wa, wc6, rfl⟩ := hoW.shape
              have HRw := Lib.hid hoW.rd
              obtain ⟨bw, ow, rfl, -, -⟩ := HRw.out.some_of (by rw [zv_length]; exact l1)
              obtain ⟨nW, hnW⟩ : ∃ n, W.length = n + 1 := ⟨W.length - 1, by omega⟩
              obtain ⟨nB, hnB⟩ : ∃ n, psB.length = n + 1 := ⟨psB.length - 1, by omega⟩
              have hww : wrap64 ((W.length : Int) - 1) = (nW : Int) := wrap_pred hnW (by have := HN2.out; omega)
              have hwb : wrap64 ((psB.length : Int) - 1) = (nB : Int) := wrap_pred hnB (by have := HN2.out; omega)
              have hcw := HRw.out.num_at (i := nW) (by omega)
              rw [show W.getD nW 0 = (nB : Int) by rw [show nW = W.length - 1 by omega, l3]; omega] at hcw
              have hnl : (nW : Int) < (W.length : Nat) := by omega
              have hW0 : ((W.length : Nat) : Int) ≠ 0 := by omega
              have hW0b : (((W.length : Nat) : Int) == 0) = false := by simpa using hW0
              have HWn := Lib.hid hnW
              have HWr := Lib.hid (show kl.getD (W.getD (W.length - 1) 0).toNat 0 < 0 by rw [l3, Int.toNat_natCast]; exact l5)
              have HW9 := Lib.hid (show W.length ≤ 90000 by have := HN2.out; omega)
              have HWk := Lib.hid l4
              have HWl := Lib.hid l6
              have HAc := Lib.hid (Aft.trans HAb.out h15)
              have HAd := Lib.hid (Aft.trans HAa.out h15)
              clear hoW h15 l1 l2 l3 l4 l5 l6 hnW hnB
              go_wp2_with fail
              clear hcw hww hwb hnl hW0 hW0b
              go_loopw [29, 174] (fun v29 v174 wz => ∃ i : Nat, i ≤ W.length ∧ v174 = .int .i64 (i : Int) ∧ v29 = .bool (decide (2 ≤ i ∧ kl.getD (W.getD (i - 1) 0).toNat 0 < 0)) ∧ Aft w15 wz) (fun _ v _ => W.length - (intOf v).toNat)
              case atStart => exact ⟨0, Nat.zero_le _, rfl, congrArg Value.bool (decide_eq_false (fun h => by have := h.1; omega)).symm, Aft.refl _⟩
              case round =>
                obtain ⟨i, hi, rfl, rfl, hAi⟩ := hrel
                obtain ⟨op, hop⟩ : ∃ b, b = decide (2 ≤ i ∧ kl.getD (W.getD (i - 1) 0).toNat 0 < 0) := ⟨_, rfl⟩
                rw [← hop]
                have HOp := Lib.hid hop
                have HAk := Lib.hid hAi
                have HAi := Lib.hid (Aft.trans HAc.out hAi)
                have HAj := Lib.hid (Aft.trans HAd.out hAi)
                clear hop hAi
                by_cases hit : i < W.length
                · have hit' : (i : Int) < (W.length : Nat) := by omega
                  have hi9 : i ≤ 90000 := by have := HW9.out; omega
                  have hcw := (HRw.out.grow HAk.out).num_at hit
                  by_cases h0 : i = 0
                  · subst h0
                    generalize W.getD 0 0 = w0 at hcw
                    rw [Nat.add_zero] at hcw
                    go_wp2_with fail
                    go_roundw
                    case rel => exact ⟨1, by omega, by go_num, by rw [HOp.out]; exact congrArg Value.bool ((decide_eq_false (fun h => by have := h.1; omega)).trans (decide_eq_false (fun h => by have := h.1; omega)).symm), HAk.out⟩
                    case measure => simp [intOf]; omega
                  · obtain ⟨k, hkl, hk⟩ := HWl.out i (by omega) hit
                    have hr := hk (k + 1) (Nat.lt_succ_self k) hkl
                    rw [HNl.out] at hkl
                    rw [hr.at'] at hcw
                    have HRt := Lib.hid hr.at'
                    have hib : ((i : Int) == 0) = false := by simp; omega
                    have HKw := Lib.hid (show (Lit.int .i64 (k : Int)).wf = true from wf_int (by omega) (by have := HN2.out; omega))
                    obtain ⟨i1, hi1⟩ : ∃ i1, i = i1 + 1 := ⟨i - 1, by omega⟩
                    have HI9 := Lib.hid hi1
                    have HLr := Lib.hid (HL.out.call HAi.out)
                    have HA9 := Lib.hid (Aft.refl wr)
                    have hk9 : k ≤ 90000 := by have := HN2.out; omega
                    cases hsf : sfF ss ss.length (k : Int) with
                    | none =>
                      have hneg : ¬ kl.getD k 0 < 0 := fun q => by
                        obtain ⟨z, hz, hzn⟩ := HHs.out k hkl q hr.lv
                        rw [← HSs.out] at hz
                        obtain ⟨e, he, rfl⟩ := List.mem_map.1 hz
                        obtain ⟨p, hp, rfl⟩ := List.getElem_of_mem he
                        refine sfF_none _ hsf p hp ?_
                        rw [List.getD_eq_getElem?_getD, List.getElem?_eq_getElem hp]
                        exact hzn
                      have hpos := hr.pos hneg
                      obtain rfl : op = false := by rw [HOp.out]; exact decide_eq_false (fun h => hpos.2 h.1 h.2)
                      have HSf := Lib.hid hsf
                      have hid1 : ¬ id = bz := hpos.1
                      have hidb : (id == bz) = false := by simpa using hid1
                      have hkb : (k : Int) < (psB.length : Nat) := by omega
                      obtain ⟨bk, ok, rfl, -, -⟩ := HKr.out.some_of (by rw [zv_length, HKp.out]; omega)
                      have HKc := Lib.hid (fun (wx : World) (ha : Aft w12 wx) => (HKr.out.grow ha).num_at (i := k) (by rw [HKp.out]; exact hkl))
                      have HNg := Lib.hid hneg
                      obtain ⟨v, hv⟩ : ∃ v, v = kl.getD k 0 := ⟨_, rfl⟩
                      have HVe := Lib.hid hv
                      rw [← hv] at HKc HNg
                      clear hv hneg
                      clear hk hr hsf hpos hi1 HOp
                      go_wp2_with (first | (refine wpList_dstT 184 rfl ?_; refine wpList_lookStN (by kernel_rfl) (.tmp 182) (.tmp 183) rfl w12.heap.size ss.length _ rfl (HSS.out.aft HAj.out) (k : Int) rfl HKw.out (by show (sfF ss ss.length (k : Int)).map (stV ss) = none; rw [HSf.out]; rfl) ?_) | (refine wpList_dstT 32 rfl ?_; refine wpList_allocO rfl 40 rfl (.cells (stR 0 0 (.slice none 0 0)).toArray 40) alloc_st ?_; intro wE aa gg zz; replace HA9 := Lib.hid (Aft.trans HA9.out aa); replace HLr := Lib.hid (HLr.out.alloc aa gg.out); clear aa gg zz; try simp only [List.nil_append, List.cons_append, List.set_cons_zero, List.set_cons_succ] at HLr) | (refine wpList_store_rowZ rfl 40 (.tmp 32) (.tmp 185) rfl _ (stR 0 0 (.slice none 0 0)).toArray rfl rfl _ _ (HLr.out.get 3 rfl) (st_info _ _ _) rfl (all_one stR_one) ?_; intro wF b1 b2 b3; replace HA9 := Lib.hid (b3 _ _ (Nat.le_refl _) HA9.out); replace HLr := Lib.hid (HLr.out.store 3 rfl b1 b2 b3); clear b1 b2 b3; (try simp only [List.nil_append, List.cons_append, List.set_cons_zero, List.set_cons_succ] at HLr); have e0 := cell_part (n := 0) (HLr.out.get 2 rfl) rfl; have hck := HKc.out _ (Aft.trans HAi.out HA9.out); have hvn := HNg.out))
                      go_roundw
                      case rel => exact ⟨i + 1, by omega, by go_num, congrArg Value.bool (decide_eq_false (fun h => HNg.out (by have := h.2; rw [Nat.add_sub_cancel, HRt.out, Int.toNat_natCast] at this; rw [HVe.out]; exact this))).symm, Aft.trans HAk.out HA9.out⟩
                      case measure => simp [intOf]; omega
                    | some p =>
                      obtain ⟨hp, hpn⟩ := sfF_some _ hsf
                      obtain ⟨j, hj1, hj2, hj3, hj4, hj5⟩ := HNd.out p hp
                      have hjk : j = k := by omega
                      subst hjk
                      have hneg : kl.getD j 0 < 0 := by rw [HKe.out, keepL_pre _ _ _ _ (Nat.lt_succ_self j) (nodesL kind ids1 ls1).length (by omega)]; exact hj3
                      have hcnt := cnt_of hj5 (hr.neg hneg)
                      have HSf := Lib.hid hsf
                      obtain ⟨qa, qc, hkv, -, -⟩ := (HSr.out.kid _ (stP_mem hp)).numS
                      have HKd2 := Lib.hid (HSr.out.kid _ (stP_mem hp))
                      have HVv := Lib.hid (show stV ss p = .agg (stR (ss.getD p stP).1.nd (ss.getD p stP).1.fr (ss.getD p stP).2).toArray from rfl)
                      rw [hkv] at HVv HKd2
                      have HSd := Lib.hid (few_of hj5 (nodes_k3 HK1.out j))
                      obtain ⟨x, hx⟩ : ∃ x, x = (ss.getD p stP).1 := ⟨_, rfl⟩
                      rw [← hx] at hcnt HVv HKd2 HSd
                      have hi1m : i - 1 = i1 := by omega
                      have hi1l : i1 < W.length := by omega
                      obtain ⟨wi, hwi⟩ : ∃ wi, wi = W.getD i1 0 := ⟨_, rfl⟩
                      rw [hi1m, ← hwi] at hcnt
                      have HWc := Lib.hid (fun (wx : World) (ha : Aft w15 wx) => show wx.cell? ⟨bw, ow + i1, none⟩ = some (.int .i64 wi) by rw [hwi]; exact (HRw.out.grow ha).num_at hi1l)
                      clear hx hwi
                      have HCn := Lib.hid hcnt
                      have HNg := Lib.hid hneg
                      have hi1b : (i1 : Int) < (W.length : Nat) := by omega
                      have hi1c : (i : Int) - 1 = (i1 : Int) := by omega
                      have HW1 := Lib.hid (show wrap64 ((i : Int) - 1) = (i1 : Int) ∧ (i : Int) - 1 = (i1 : Int) from ⟨wrap_pred hi1 (by omega), hi1c⟩)
                      clear hi1c
                      clear hk hr hsf hpn hj1 hj2 hj3 hj4 hj5 hi1 hkv hcnt hneg HOp hi1m hi1l
                      go_wp2_with (first | (refine wpList_dstT 184 rfl ?_; refine wpList_lookStS (by kernel_rfl) (.tmp 182) (.tmp 183) rfl w12.heap.size ss.length _ rfl (HSS.out.aft HAj.out) (j : Int) rfl HKw.out (.agg (stR x.nd x.fr (.slice qa x.sd.length qc)).toArray) (by show (sfF ss ss.length (j : Int)).map (stV ss) = some _; rw [HSf.out, ← HVv.out]; rfl) ?_) | (refine wpList_dstT 32 rfl ?_; refine wpList_allocO rfl 40 rfl (.cells (stR 0 0 (.slice none 0 0)).toArray 40) alloc_st ?_; intro wE aa gg zz; replace HA9 := Lib.hid (Aft.trans HA9.out aa); replace HLr := Lib.hid (HLr.out.alloc aa gg.out); clear aa gg zz; try simp only [List.nil_append, List.cons_append, List.set_cons_zero, List.set_cons_succ] at HLr) | (refine wpList_store_rowZ rfl 40 (.tmp 32) (.tmp 185) rfl _ (stR x.nd x.fr (.slice qa x.sd.length qc)).toArray rfl rfl _ _ (HLr.out.get 3 rfl) (st_info _ _ _) rfl (all_one stR_one) ?_; intro wF b1 b2 b3; replace HA9 := Lib.hid (b3 _ _ (Nat.le_refl _) HA9.out); replace HLr := Lib.hid (HLr.out.store 3 rfl b1 b2 b3); clear b1 b2 b3; (try simp only [List.nil_append, List.cons_append, List.set_cons_zero, List.set_cons_succ] at HLr); have x0 := cell_part (n := 0) (HLr.out.get 3 rfl) rfl; have x2 := cell_part (n := 2) (HLr.out.get 3 rfl) rfl))
                      have HAf := Lib.hid (Aft.trans HAi.out HA9.out)
                      have HAg := Lib.hid (Aft.trans HAk.out HA9.out)
                      clear x0 x2
                      go_loopw [34, 206] (fun v34 v206 wz => ∃ r : Nat, r ≤ x.sd.length ∧ v206 = .int .i64 (r : Int) ∧ v34 = .int .i64 (((x.sd.take r).filter (fun z => z == wi)).length : Nat) ∧ Aft wF wz) (fun _ v _ => x.sd.length - (intOf v).toNat)
                      case atStart => exact ⟨0, Nat.zero_le _, rfl, rfl, Aft.refl _⟩
                      case round =>
                        obtain ⟨r, hr, rfl, rfl, hAr⟩ := hrel
                        have HAr := Lib.hid hAr
                        clear hAr
                        by_cases hrt : r < x.sd.length
                        · have hrt' : (r : Int) < (x.sd.length : Nat) := by omega
                          have hr9 : r ≤ 3 := by have := HSd.out; omega
                          obtain ⟨bs, os, rfl, -, -⟩ := HKd2.out.some_of (by rw [zv_length]; omega)
                          have hcs := (HKd2.out.grow (Aft.trans HAf.out HAr.out)).num_at hrt
                          have hcw := HWc.out _ (Aft.trans HAg.out HAr.out)
                          have HTc := Lib.hid (take_cnt hrt wi)
                          have hcl : ((x.sd.take r).filter (fun z => z == wi)).length ≤ 3 := Nat.le_trans (List.length_filter_le _ _) (by rw [List.length_take]; omega)
                          generalize ((x.sd.take r).filter (fun z => z == wi)).length = c at *
                          generalize x.sd.getD r 0 = z at *
                          by_cases hz : z = wi
                          · have HTd := Lib.hid (HTc.out.trans (by rw [if_pos hz]))
                            subst hz
                            clear HTc
                            have hw1 := HW1.out.1
                            have hw2 := HW1.out.2
                            go_wp2_with fail
                            clear hw1 hw2
                            go_roundw
                            case rel => exact ⟨r + 1, by omega, by go_num, by rw [HTd.out]; go_num, HAr.out⟩
                            case measure => simp [intOf]; omega
                          · have HTd := Lib.hid (HTc.out.trans (by rw [if_neg hz]))
                            have hzb : (z == wi) = false := by simpa using hz
                            clear HTc
                            have hw1 := HW1.out.1
                            have hw2 := HW1.out.2
                            go_wp2_with fail
                            clear hw1 hw2
                            go_roundw
                            case rel => exact ⟨r + 1, by omega, by go_num, by rw [HTd.out]; rfl, HAr.out⟩
                            case measure => simp [intOf]; omega
                        · obtain rfl : r = x.sd.length := by omega
                          have hrt' : ¬ ((x.sd.length : Nat) : Int) < (x.sd.length : Nat) := by omega
                          rw [List.take_length, HCn.out]
                          have HAq := Lib.hid (Aft.trans HAf.out HAr.out)
                          have HAs := Lib.hid (Aft.trans HAg.out HAr.out)
                          have HLq := Lib.hid (HLr.out.call HAr.out)
                          by_cases hf : x.fr = wi
                          · rw [if_pos hf]
                            have hfb : (x.fr == wi) = true := by simpa using hf
                            clear hf
                            go_wp2_with fail
                            have g1 := fun u : Later wr.heap.size wr => cell_part (n := 1) (Aft.get u.h (HLq.out.get 3 rfl)) rfl
                            have g2 := fun u : Later wr.heap.size wr => HWc.out u.w (Aft.trans HAs.out u.h)
                            have hw1 := HW1.out.1
                            have hw2 := HW1.out.2
                            refine wp_region_lex (fun wz => ∃ u : Later wr.heap.size wr, wz = u.w) (fun i => ([] : List Nat).contains i) 15 (by kernel_rfl) (by kernel_rfl) ⟨⟨wr.drew, (Below.refl _ _).drew⟩, rfl⟩ ?_
                            change wpLx _ _ _ _ _ _ _ _ _ wr.drew
                            have HA7 := Lib.hid (Aft.trans HAq.out (show Aft wr wr.drew from (Below.refl _ _).drew))
                            have HAs7 := Lib.hid (Aft.trans HAs.out (show Aft wr wr.drew from (Below.refl _ _).drew))
                            generalize wr.drew = wd7 at *
                            try simp only [Act.put, List.setIfInBounds_toArray, List.set_cons_succ, List.set_cons_zero]
                            repeat (first | (refine lx_skipT (by go_big_quiet_skip; exact wpQuiet_nil trivial) (by kernel_rfl) ?_; simp only [Act.put, List.setIfInBounds_toArray, List.set_cons_succ, List.set_cons_zero]) | (refine lx_quietT rfl (by go_big_quiet_want; exact quiet_false (by assumption)) (by kernel_rfl) rfl ?_; intro Kx hKx; go_big_quiet_op; go_big_quiet_on))
                            refine lx_done ?_
                            clear g1 g2 hw1 hw2
                            go_wp2_with fail
                            go_roundw
                            case rel => exact ⟨i + 1, by omega, by go_num, congrArg Value.bool (decide_eq_true ⟨by have := HI9.out; omega, by rw [Nat.add_sub_cancel, HRt.out, Int.toNat_natCast]; exact HNg.out⟩).symm, HAs7.out⟩
                            case measure => simp [intOf]; omega
                          · rw [if_neg hf]
                            have hfb : (x.fr == wi) = false := by simpa using hf
                            go_wp2_with fail
                            have g1 := fun u : Later wr.heap.size wr => cell_part (n := 1) (Aft.get u.h (HLq.out.get 3 rfl)) rfl
                            have g2 := fun u : Later wr.heap.size wr => HWc.out u.w (Aft.trans HAs.out u.h)
                            have hw1 := HW1.out.1
                            have hw2 := HW1.out.2
                            refine wp_region_lex (fun wz => ∃ u : Later wr.heap.size wr, wz = u.w) (fun i => ([] : List Nat).contains i) 15 (by kernel_rfl) (by kernel_rfl) ⟨⟨wr.drew, (Below.refl _ _).drew⟩, rfl⟩ ?_
                            change wpLx _ _ _ _ _ _ _ _ _ wr.drew
                            have HA7 := Lib.hid (Aft.trans HAq.out (show Aft wr wr.drew from (Below.refl _ _).drew))
                            have HAs7 := Lib.hid (Aft.trans HAs.out (show Aft wr wr.drew from (Below.refl _ _).drew))
                            generalize wr.drew = wd7 at *
                            try simp only [Act.put, List.setIfInBounds_toArray, List.set_cons_succ, List.set_cons_zero]
                            repeat (first | (refine lx_skipT (by go_big_quiet_skip; exact wpQuiet_nil trivial) (by kernel_rfl) ?_; simp only [Act.put, List.setIfInBounds_toArray, List.set_cons_succ, List.set_cons_zero]) | (refine lx_quietT rfl (by go_big_quiet_want; exact quiet_false (by assumption)) (by kernel_rfl) rfl ?_; intro Kx hKx; go_big_quiet_op; go_big_quiet_on))
                            refine lx_done ?_
                            clear g1 g2 hw1 hw2
                            go_wp2_with fail
                            go_roundw
                            case rel => exact ⟨i + 1, by omega, by go_num, congrArg Value.bool (decide_eq_true ⟨by have := HI9.out; omega, by rw [Nat.add_sub_cancel, HRt.out, Int.toNat_natCast]; exact HNg.out⟩).symm, HAs7.out⟩
                            case measure => simp [intOf]; omega
                · obtain rfl : i = W.length := by omega
                  have hit' : ¬ ((W.length : Nat) : Int) < (W.length : Nat) := by omega
                  by_cases h2 : 2 ≤ W.length
                  · obtain rfl : op = true := by rw [HOp.out]; exact decide_eq_true ⟨h2, HWr.out⟩
                    go_wp2_with fail
                    go_roundw
                    case rel => exact ⟨a + 1, by omega, by go_num, HAj.out⟩
                    case measure => simp [intOf]; omega
                  · obtain rfl : op = false := by rw [HOp.out]; exact decide_eq_false (fun h => h2 h.1)
                    have h3 : ¬ (1 : Int) < (W.length : Nat) := by omega
                    go_wp2_with fail
                    go_roundw
                    case rel => exact ⟨a + 1, by omega, by go_num, HAj.out⟩
                    case measure => simp [intOf]; omega
            · obtain rfl : a = ids1.length := by omega
              have hat' : ¬ ((ids1.length : Nat) : Int) < (ids1.length : Nat) := by omega
              go_wp2_with fail
              go_ret
              exact ⟨rfl, (HL.out.call HAb.out).aft⟩
end Go.Proofs.Ytfgammcefaomeaa
