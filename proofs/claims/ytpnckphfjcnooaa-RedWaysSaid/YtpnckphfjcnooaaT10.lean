/- slices.EqualFunc over levels; tree.Same. -/
import Derived.Test.YtpnckphfjcnooaaT9
namespace Go.Proofs.Ytpnckphfjcnooaa
open Go Go.RowKit
set_option linter.unusedSimpArgs false
theorem RdLs.head {w : World} {v : Value} {ls : List (List Int)} (h : RdLs w v ls) {i : Nat} (hi : i < ls.length) : ∃ g o cap, v = .slice (some ⟨g, o, none⟩) ls.length cap := by
  obtain ⟨g, o, cap, u, he, -, -⟩ := h.cell hi
  exact ⟨g, o, cap, he⟩
set_option maxHeartbeats 4000000 in
theorem equalL_any (v u : Value) (ls ms : List (List Int)) (w : World) (hx : RdLs w v ls) (hy : RdLs w u ms) (hl : ls.length ≤ 1048576) (hv : ∀ l ∈ ls, l.length ≤ 1048576) :
    Calls Try.prog 58 #[v, u, .func (.func 57) #[] #[]] w fun e w' => e = .returned (.bool (decide (ls = ms))) ∧ Aft w w' := by
  have HX := Lib.hid hx
  have HY := Lib.hid hy
  have HV := Lib.hid hv
  obtain ⟨ao, cap, rfl, -⟩ := hx.shape
  obtain ⟨bo, dap, rfl, -⟩ := hy.shape
  obtain ⟨bq, hbq⟩ : ∃ bq, bq = decide (ls = ms) := ⟨_, rfl⟩
  have HB := Lib.hid hbq
  rw [← hbq]
  clear hx hy hbq hv
  go_enter Try.func58, Try.ntmps58
  by_cases hlen : ls.length = ms.length
  rotate_left
  · have HR := Lib.hid (show bq = false by rw [HB.out]; exact decide_eq_false (fun q => hlen (by rw [q])))
    rw [HR.out]
    have hlen' : ¬ ((ls.length : Nat) : Int) = (ms.length : Nat) := by omega
    go_wp2_with fail
    go_ret
    exact ⟨rfl, Aft.refl _⟩
  have HLn := Lib.hid hlen
  rw [← hlen]
  clear hlen
  go_wp2_with fail
  go_loopw [17] (fun v17 wr => ∃ i : Nat, i ≤ ls.length ∧ v17 = .int .i64 (i : Int) ∧ (∀ j, j < i → ls[j]? = ms[j]?) ∧ Aft w wr) (fun v _ => ls.length - (intOf v).toNat)
  case atStart => exact ⟨0, by omega, rfl, fun j hj => absurd hj (Nat.not_lt_zero _), Aft.refl _⟩
  case round =>
    obtain ⟨i, hi, rfl, hsm, hA⟩ := hrel
    have HA := Lib.hid hA
    have HSm := Lib.hid hsm
    clear hA hsm
    by_cases hlt : i < ls.length
    · have hlt' : (i : Int) < (ls.length : Nat) := by omega
      have hylt : i < ms.length := by rw [← HLn.out]; exact hlt
      obtain ⟨b1, o1, c1, x, he, hcx, hrx⟩ := HX.out.cell hlt
      injection he with he1 he2 he3
      subst he1 he3
      obtain ⟨b2, o2, c2, y, he, hcy, hry⟩ := HY.out.cell hylt
      injection he with he1 he4 he3
      subst he1 he3
      have hc1 := hcx _ HA.out
      have hc2 := hcy _ HA.out
      have HEq := Lib.hid (equalI_any x y (ls.getD i []) (ms.getD i []) wr (hrx.grow HA.out) (hry.grow HA.out) (HV.out _ (getD_mem hlt)))
      have HXe := Lib.hid (show ls[i]? = some (ls.getD i []) by rw [List.getD_eq_getElem?_getD, List.getElem?_eq_getElem hlt]; rfl)
      have HYe := Lib.hid (show ms[i]? = some (ms.getD i []) by rw [List.getD_eq_getElem?_getD, List.getElem?_eq_getElem hylt]; rfl)
      generalize ls.getD i [] = l at *
      generalize ms.getD i [] = m at *
      clear hylt he2 he4 hcx hcy hrx hry
      go_wp2_with fail
      refine HEq.out.mono ?_
      rintro e w2 ⟨rfl, h2⟩
      replace HA := Lib.hid (Aft.trans HA.out h2)
      clear h2 hc1 hc2
      by_cases hlm : l = m
      · rw [decide_eq_true hlm]
        have HLm := Lib.hid hlm
        clear hlm HEq
        go_wp2_with fail
        go_roundw
        case rel =>
          refine ⟨i + 1, by omega, by go_num, fun j hj => ?_, HA.out⟩
          by_cases hji : j = i
          · subst hji
            rw [HXe.out, HYe.out, HLm.out]
          · exact HSm.out j (by omega)
        case measure => simp [intOf]; omega
      · have HR2 := Lib.hid (show bq = false by
          rw [HB.out]
          exact decide_eq_false (fun e => hlm (by have := HXe.out; rw [e, HYe.out] at this; exact (Option.some.inj this).symm)))
        rw [decide_eq_false hlm]
        clear hlm HEq
        go_wp2_with fail
        go_ret
        exact ⟨by rw [HR2.out]; rfl, HA.out⟩
    · obtain rfl : i = ls.length := by omega
      have hlt' : ¬ ((ls.length : Nat) : Int) < (ls.length : Nat) := by omega
      have HR := Lib.hid (show bq = true by
        rw [HB.out]
        refine decide_eq_true (List.ext_getElem? fun j => ?_)
        by_cases hj : j < ls.length
        · exact HSm.out j hj
        · rw [List.getElem?_eq_none (by omega), List.getElem?_eq_none (by rw [← HLn.out]; omega)])
      go_wp2_with fail
      go_ret
      exact ⟨by rw [HR.out]; rfl, HA.out⟩
set_option maxRecDepth 100000 in
set_option maxHeartbeats 4000000 in
theorem tsame_any (vi vl ui ul : Value) (ids ids' : List Int) (ls ls' : List (List Int)) (w : World) (hi : Rd w vi (zv ids)) (hl : RdLs w vl ls) (hs : Small ids ls) (hi' : Rd w ui (zv ids')) (hl' : RdLs w ul ls') :
    Calls Try.prog 33 #[.agg (shpL vi vl).toArray, .agg (shpL ui ul).toArray] w fun e w' => e = .returned (.bool (decide (ids = ids' ∧ ls = ls'))) ∧ Aft w w' := by
  have HE1 := Lib.hid (fun (wx : World) (ha : Aft w wx) => equalI_any vi ui ids ids' wx (hi.grow ha) (hi'.grow ha) hs.fi)
  have HE2 := Lib.hid (fun (wx : World) (ha : Aft w wx) => equalL_any vl ul ls ls' wx (hl.aft ha) (hl'.aft ha) hs.fl hs.fv)
  obtain ⟨ao, cap, rfl, -, -⟩ := hi.numS
  obtain ⟨bo, dap, rfl, -⟩ := hl.shape
  obtain ⟨a1, cap1, rfl, -, -⟩ := hi'.numS
  obtain ⟨b1, dap1, rfl, -⟩ := hl'.shape
  obtain ⟨bq, hbq⟩ : ∃ bq, bq = decide (ids = ids' ∧ ls = ls') := ⟨_, rfl⟩
  have HB := Lib.hid hbq
  rw [← hbq]
  have HL := Lib.hid (Led.start w)
  clear hi hl hs hi' hl' hbq
  go_enter Try.func33, Try.ntmps33
  go_wp2_with (first | (refine wpList_boxO rfl 26 (.tmp 0) rfl (.agg (shpL (.slice ao ids.length cap) (.slice bo ls.length dap)).toArray) rfl (.cells (shpL (.slice ao ids.length cap) (.slice bo ls.length dap)).toArray 26) (box_shp _) ?_; intro wB aa gg zz; replace HL := Lib.hid (HL.out.alloc aa gg.out); clear aa gg zz; try simp only [List.nil_append, List.cons_append, List.set_cons_zero, List.set_cons_succ] at HL) | (refine wpList_boxO rfl 26 (.tmp 1) rfl (.agg (shpL (.slice a1 ids'.length cap1) (.slice b1 ls'.length dap1)).toArray) rfl (.cells (shpL (.slice a1 ids'.length cap1) (.slice b1 ls'.length dap1)).toArray 26) (box_shp _) ?_; intro w' aa gg zz; replace HL := Lib.hid (HL.out.alloc aa gg.out); clear aa gg zz; try simp only [List.nil_append, List.cons_append, List.set_cons_zero, List.set_cons_succ] at HL; have hA := shp_i (HL.out.get 0 rfl); have hB := shp_i (HL.out.get 1 rfl)))
  refine (HE1.out _ HL.out.aft).mono ?_
  rintro e w2 ⟨rfl, h2⟩
  replace HL := Lib.hid (HL.out.call h2)
  clear hA hB h2 HE1
  by_cases h1 : ids = ids'
  · rw [decide_eq_true h1]
    have hC := shp_l (HL.out.get 0 rfl)
    have hD := shp_l (HL.out.get 1 rfl)
    have HD := Lib.hid (show decide (ids = ids' ∧ ls = ls') = decide (ls = ls') from decide_eq_decide.2 ⟨fun q => q.2, fun q => ⟨h1, q⟩⟩)
    clear h1
    go_wp2_with fail
    refine (HE2.out _ HL.out.aft).mono ?_
    rintro e w3 ⟨rfl, h3⟩
    go_wp2_with fail
    go_ret
    exact ⟨by rw [HB.out, HD.out]; rfl, Aft.trans HL.out.aft h3⟩
  · rw [decide_eq_false h1]
    have HD := Lib.hid (show decide (ids = ids' ∧ ls = ls') = false from decide_eq_false fun q => h1 q.1)
    clear h1
    go_wp2_with fail
    go_ret
    exact ⟨by rw [HB.out, HD.out]; rfl, HL.out.aft⟩
end Go.Proofs.Ytpnckphfjcnooaa
