/- A round of TreeStays. -/
import Derived.Test.YtpnckphfjcnooaaTStDb
import Derived.Test.YtpnckphfjcnooaaTStDg
import Derived.Test.YtpnckphfjcnooaaTStIa
import Derived.Test.YtpnckphfjcnooaaTStIt
import Derived.Test.YtpnckphfjcnooaaTStIg
namespace Go.Proofs.Ytpnckphfjcnooaa
open Go Go.RowKit
set_option linter.unusedSimpArgs false

set_option maxRecDepth 100000 in
set_option maxHeartbeats 8000000 in
theorem treeStays_any (v : Value) (zs : List (Int × Bool)) (w : World) (hr : RdR 2 w v (zs.map opR)) (hw : ∀ z ∈ zs, (Lit.int .i64 z.1).wf = true) :
    Calls Try.prog 12 #[v] w fun e w' => e = .returned (.bool true) ∧ Aft w w' := by
  have HR := Lib.hid hr
  have HW := Lib.hid hw
  have hzl : (zs.map opR).length = zs.length := List.length_map ..
  have HZl := Lib.hid hzl
  obtain ⟨ao, cap, rfl, -, -⟩ := hr.shape
  rw [hzl] at HR ⊢
  have HL := Lib.hid (Led.start w)
  clear hr hw hzl
  go_enter Try.func12, Try.ntmps12
  go_wp2_with fail
  refine (live10_any _).mono ?_
  rintro e w1 ⟨rfl, h1⟩
  (try replace HO := Lib.hid (HO.out.aft h1)); (try replace HO2 := Lib.hid (HO2.out.aft h1)); (try replace HOK := Lib.hid (HOK.out.aft h1)); (try replace HO3 := Lib.hid (HO3.out.aft h1)); (try replace HO4 := Lib.hid (HO4.out.aft h1)); (try replace HO5 := Lib.hid (HO5.out.aft h1)); replace HL := Lib.hid (HL.out.call h1)
  clear h1
  by_cases h120 : (120 : Int) < (zs.length : Nat)
  · go_wp2_with fail
    go_ret
    exact ⟨rfl, HL.out.aft⟩
  have HZn := Lib.hid (show zs.length ≤ 120 by omega)
  have HO := Lib.hid (show Tr w1 w.heap.size (.slice none 0 0) (.slice none 0 0) [] [] from ⟨[], OwnTr.nil _ _⟩)
  go_wp2_with (first | (refine wpList_buildO (by kernel_rfl) 26 #[] rfl #[] (by kernel_rfl) _ (build_shp0) ?_) | (refine wpList_allocO rfl 26 rfl (.cells (shpL (.slice none 0 0) (.slice none 0 0)).toArray 26) alloc_shp ?_; intro w' aa gg zz; (try replace HO := Lib.hid (HO.out.aft aa)); (try replace HO2 := Lib.hid (HO2.out.aft aa)); (try replace HOK := Lib.hid (HOK.out.aft aa)); (try replace HO3 := Lib.hid (HO3.out.aft aa)); (try replace HO4 := Lib.hid (HO4.out.aft aa)); (try replace HO5 := Lib.hid (HO5.out.aft aa)); replace HL := Lib.hid (HL.out.alloc aa gg.out); clear aa gg zz; try simp only [List.nil_append, List.cons_append, List.set_cons_zero, List.set_cons_succ] at HL) | (refine wpList_store_shp rfl (.tmp 4) (.tmp 20) _ _ _ (.slice none 0 0) (.slice none 0 0) rfl rfl rfl rfl rfl (HL.out.get 0 rfl) ?_; intro w' b1 b2 b3; (try replace HO := Lib.hid (HO.out.stored (HL.out.get 0 rfl) (by decide) b2.out)); (try replace HO2 := Lib.hid (HO2.out.stored (HL.out.get 0 rfl) (by decide) b2.out)); (try replace HOK := Lib.hid (HOK.out.stored (HL.out.get 0 rfl) (by decide) b2.out)); (try replace HO3 := Lib.hid (HO3.out.stored (HL.out.get 0 rfl) (by decide) b2.out)); (try replace HO4 := Lib.hid (HO4.out.stored (HL.out.get 0 rfl) (by decide) b2.out)); (try replace HO5 := Lib.hid (HO5.out.stored (HL.out.get 0 rfl) (by decide) b2.out)); replace HL := Lib.hid (HL.out.store 0 rfl b1 b2 b3); clear b1 b2 b3; try simp only [List.nil_append, List.cons_append, List.set_cons_zero, List.set_cons_succ] at HL) | (refine wpList_makeMapS (by kernel_rfl) rfl ?_; intro wM q1 q2; have HGm := Lib.hid HL.out.aft.size; (try replace HO := Lib.hid (HO.out.aft q1)); (try replace HO2 := Lib.hid (HO2.out.aft q1)); (try replace HOK := Lib.hid (HOK.out.aft q1)); (try replace HO3 := Lib.hid (HO3.out.aft q1)); (try replace HO4 := Lib.hid (HO4.out.aft q1)); (try replace HO5 := Lib.hid (HO5.out.aft q1)); replace HL := Lib.hid (HL.out.call q1); have HO4 := Lib.hid q2.out; clear q1 q2))
  rw [show decide ((120 : Int) < (zs.length : Nat)) = false from decide_eq_false (by omega)]
  clear h120
  generalize hgm : w'.heap.size = gm at *
  generalize w1.heap.size = gs at *
  clear hgm
  go_loopw [24] (fun v24 wr => ∃ (k : Nat) (ui ul : Value) (ids : List Int) (ls : List (List Int)), k ≤ zs.length ∧ v24 = .int .i64 (k : Int) ∧ OkT ids ls ∧ ids.length ≤ k ∧ SetM wr gm k ids ∧ Tr wr w.heap.size ui ul ids ls ∧ Led w wr [(gs, .cells (shpL ui ul).toArray 26)]) (fun v _ => zs.length - (intOf v).toNat)
  case atStart => exact ⟨0, _, _, [], [], by omega, rfl, ok_empty, Nat.le_refl _, HO4.out, HO.out, HL.out⟩
  case round =>
    clear HL HO HO4
    obtain ⟨k, ui, ul, ids, ls, hk, rfl, hok, hil, hS, hT, hL⟩ := hrel
    have HL := Lib.hid hL
    have HO := Lib.hid hT
    have HO4 := Lib.hid hS
    have HOk := Lib.hid hok
    have HIl := Lib.hid hil
    obtain ⟨a1, c1, b1, d1, rfl, rfl⟩ := hT.shape
    clear hL hT hS hok hil
    by_cases hlt : k < zs.length
    · have hlt' : (k : Int) < (zs.length : Nat) := by omega
      obtain ⟨g, o, cp, he, hlen, hrg⟩ := HR.out.at (i := k) (by rw [HZl.out]; exact hlt)
      rw [HZl.out] at he
      injection he with he1 he2 he3
      subst he1 he3
      have hgd : (zs.map opR).getD k [] = opR (zs.getD k (0, false)) := by
        rw [List.getD_eq_getElem?_getD, List.getElem?_map, List.getElem?_eq_getElem hlt, List.getD_eq_getElem?_getD, List.getElem?_eq_getElem hlt]
        rfl
      rw [hgd] at hrg
      have hwf : (Lit.int .i64 (zs.getD k (0, false)).1).wf = true := HW.out _ (by rw [List.getD_eq_getElem?_getD, List.getElem?_eq_getElem hlt]; exact List.getElem_mem hlt)
      generalize zs.getD k (0, false) = zq at *
      obtain ⟨id, out⟩ := zq
      clear he2 hlen hgd
      cases out with
      | true =>
        by_cases hin : id ∈ ids
        · refine stDgood _ _ _ _ _ _ _ _ _ _ _ _ _ _ _ _ _ _ _ _ _ _ _ _ _ _ _ _ _ _ _ _ _ _ _ _ _ _ _ _ _ _ _ _ _ _ _ _ _ _ _ _ _ _ _ _ _ _ _ _ _ _ _ _ _ _ _ _ _ _ _ _ _ _ _ _ _ _ _ _ _ _ _ _ _ _ _ _ _ _ _ _ _ _ _ _ _ _ _ _ _ _ _ _ _ _ _ _ _ _ _ _ _ _ _ _ _ _ _ _ _ _ _ _ _ _ _ _ _ _ _ _ _ w wr gs gm g o zs.length _ k id a1 b1 c1 d1 ids ls hlt' HZn.out HL.out HO.out HO4.out HOk.out HIl.out HGm.out (fun wx hx => hrg wx (Aft.trans HL.out.aft hx)) hwf hin ?_
          intro w2 u24 _ _ _ _ _ _ _ _ _ _ _ _ _ _ _ _ _ _ _ _ _ _ _ _ _ _ _ _ _ _ _ _ _ _ _ _ _ _ _ _ _ _ _ _ _ _ _ _ _ _ _ _ _ _ _ _ _ _ _ _ _ _ _ _ _ _ _ _ _ _ _ _ _ _ _ _ _ _ _ _ _ _ _ _ _ _ _ _ _ _ _ _ _ _ _ _ _ _ _ _ _ _ _ _ _ _ _ _ _ _ _ _ _ _ _ _ _ _ _ _ e24 hst; subst e24; obtain ⟨ui', ul', ids', ls', z1, z2, z3, z4, z5, z6⟩ := hst; go_step; go_roundw; (case rel => exact ⟨k + 1, _, _, ids', ls', z1, rfl, z2, z3, z4, z5, z6⟩); (case measure => simp [intOf]; omega)
        · refine stDbad _ _ _ _ _ _ _ _ _ _ _ _ _ _ _ _ _ _ _ _ _ _ _ _ _ _ _ _ _ _ _ _ _ _ _ _ _ _ _ _ _ _ _ _ _ _ _ _ _ _ _ _ _ _ _ _ _ _ _ _ _ _ _ _ _ _ _ _ _ _ _ _ _ _ _ _ _ _ _ _ _ _ _ _ _ _ _ _ _ _ _ _ _ _ _ _ _ _ _ _ _ _ _ _ _ _ _ _ _ _ _ _ _ _ _ _ _ _ _ _ _ _ _ _ _ _ _ _ _ _ _ _ _ w wr gs gm g o zs.length _ k id a1 b1 c1 d1 ids ls hlt' HZn.out HL.out HO.out HO4.out HOk.out HIl.out HGm.out (fun wx hx => hrg wx (Aft.trans HL.out.aft hx)) hwf hin ?_
          intro w2 u24 _ _ _ _ _ _ _ _ _ _ _ _ _ _ _ _ _ _ _ _ _ _ _ _ _ _ _ _ _ _ _ _ _ _ _ _ _ _ _ _ _ _ _ _ _ _ _ _ _ _ _ _ _ _ _ _ _ _ _ _ _ _ _ _ _ _ _ _ _ _ _ _ _ _ _ _ _ _ _ _ _ _ _ _ _ _ _ _ _ _ _ _ _ _ _ _ _ _ _ _ _ _ _ _ _ _ _ _ _ _ _ _ _ _ _ _ _ _ _ _ e24 hst; subst e24; obtain ⟨ui', ul', ids', ls', z1, z2, z3, z4, z5, z6⟩ := hst; go_step; go_roundw; (case rel => exact ⟨k + 1, _, _, ids', ls', z1, rfl, z2, z3, z4, z5, z6⟩); (case measure => simp [intOf]; omega)
      | false =>
        by_cases hid : id < 0 ∨ 1048576 < id
        · refine stIarg _ _ _ _ _ _ _ _ _ _ _ _ _ _ _ _ _ _ _ _ _ _ _ _ _ _ _ _ _ _ _ _ _ _ _ _ _ _ _ _ _ _ _ _ _ _ _ _ _ _ _ _ _ _ _ _ _ _ _ _ _ _ _ _ _ _ _ _ _ _ _ _ _ _ _ _ _ _ _ _ _ _ _ _ _ _ _ _ _ _ _ _ _ _ _ _ _ _ _ _ _ _ _ _ _ _ _ _ _ _ _ _ _ _ _ _ _ _ _ _ _ _ _ _ _ _ _ _ _ _ _ _ _ w wr gs gm g o zs.length _ k id a1 b1 c1 d1 ids ls hlt' HZn.out HL.out HO.out HO4.out HOk.out HIl.out HGm.out (fun wx hx => hrg wx (Aft.trans HL.out.aft hx)) hwf hid ?_
          intro w2 u24 _ _ _ _ _ _ _ _ _ _ _ _ _ _ _ _ _ _ _ _ _ _ _ _ _ _ _ _ _ _ _ _ _ _ _ _ _ _ _ _ _ _ _ _ _ _ _ _ _ _ _ _ _ _ _ _ _ _ _ _ _ _ _ _ _ _ _ _ _ _ _ _ _ _ _ _ _ _ _ _ _ _ _ _ _ _ _ _ _ _ _ _ _ _ _ _ _ _ _ _ _ _ _ _ _ _ _ _ _ _ _ _ _ _ _ _ _ _ _ _ e24 hst; subst e24; obtain ⟨ui', ul', ids', ls', z1, z2, z3, z4, z5, z6⟩ := hst; go_step; go_roundw; (case rel => exact ⟨k + 1, _, _, ids', ls', z1, rfl, z2, z3, z4, z5, z6⟩); (case measure => simp [intOf]; omega)
        · by_cases hin : id ∈ ids
          · refine stIthere _ _ _ _ _ _ _ _ _ _ _ _ _ _ _ _ _ _ _ _ _ _ _ _ _ _ _ _ _ _ _ _ _ _ _ _ _ _ _ _ _ _ _ _ _ _ _ _ _ _ _ _ _ _ _ _ _ _ _ _ _ _ _ _ _ _ _ _ _ _ _ _ _ _ _ _ _ _ _ _ _ _ _ _ _ _ _ _ _ _ _ _ _ _ _ _ _ _ _ _ _ _ _ _ _ _ _ _ _ _ _ _ _ _ _ _ _ _ _ _ _ _ _ _ _ _ _ _ _ _ _ _ _ w wr gs gm g o zs.length _ k id a1 b1 c1 d1 ids ls hlt' HZn.out HL.out HO.out HO4.out HOk.out HIl.out HGm.out (fun wx hx => hrg wx (Aft.trans HL.out.aft hx)) hwf hid hin ?_
            intro w2 u24 _ _ _ _ _ _ _ _ _ _ _ _ _ _ _ _ _ _ _ _ _ _ _ _ _ _ _ _ _ _ _ _ _ _ _ _ _ _ _ _ _ _ _ _ _ _ _ _ _ _ _ _ _ _ _ _ _ _ _ _ _ _ _ _ _ _ _ _ _ _ _ _ _ _ _ _ _ _ _ _ _ _ _ _ _ _ _ _ _ _ _ _ _ _ _ _ _ _ _ _ _ _ _ _ _ _ _ _ _ _ _ _ _ _ _ _ _ _ _ _ e24 hst; subst e24; obtain ⟨ui', ul', ids', ls', z1, z2, z3, z4, z5, z6⟩ := hst; go_step; go_roundw; (case rel => exact ⟨k + 1, _, _, ids', ls', z1, rfl, z2, z3, z4, z5, z6⟩); (case measure => simp [intOf]; omega)
          · refine stIgood _ _ _ _ _ _ _ _ _ _ _ _ _ _ _ _ _ _ _ _ _ _ _ _ _ _ _ _ _ _ _ _ _ _ _ _ _ _ _ _ _ _ _ _ _ _ _ _ _ _ _ _ _ _ _ _ _ _ _ _ _ _ _ _ _ _ _ _ _ _ _ _ _ _ _ _ _ _ _ _ _ _ _ _ _ _ _ _ _ _ _ _ _ _ _ _ _ _ _ _ _ _ _ _ _ _ _ _ _ _ _ _ _ _ _ _ _ _ _ _ _ _ _ _ _ _ _ _ _ _ _ _ _ w wr gs gm g o zs.length _ k id a1 b1 c1 d1 ids ls hlt' HZn.out HL.out HO.out HO4.out HOk.out HIl.out HGm.out (fun wx hx => hrg wx (Aft.trans HL.out.aft hx)) hwf hid hin ?_
            intro w2 u24 _ _ _ _ _ _ _ _ _ _ _ _ _ _ _ _ _ _ _ _ _ _ _ _ _ _ _ _ _ _ _ _ _ _ _ _ _ _ _ _ _ _ _ _ _ _ _ _ _ _ _ _ _ _ _ _ _ _ _ _ _ _ _ _ _ _ _ _ _ _ _ _ _ _ _ _ _ _ _ _ _ _ _ _ _ _ _ _ _ _ _ _ _ _ _ _ _ _ _ _ _ _ _ _ _ _ _ _ _ _ _ _ _ _ _ _ _ _ _ _ e24 hst; subst e24; obtain ⟨ui', ul', ids', ls', z1, z2, z3, z4, z5, z6⟩ := hst; go_step; go_roundw; (case rel => exact ⟨k + 1, _, _, ids', ls', z1, rfl, z2, z3, z4, z5, z6⟩); (case measure => simp [intOf]; omega)
    · obtain rfl : k = zs.length := by omega
      have hlt' : ¬ ((zs.length : Nat) : Int) < (zs.length : Nat) := by omega
      go_wp2_with fail
      go_ret
      exact ⟨rfl, HL.out.aft⟩
end Go.Proofs.Ytpnckphfjcnooaa
