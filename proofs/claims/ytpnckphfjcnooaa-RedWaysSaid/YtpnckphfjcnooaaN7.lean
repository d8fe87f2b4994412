/- red.nodes: a group above others. -/
import Derived.Test.YtpnckphfjcnooaaN6
import Derived.Deep.Cut
namespace Go.Proofs.Ytpnckphfjcnooaa
open Go Go.RowKit
set_option linter.unusedSimpArgs false
/-- Worlds in which a block holds this. -/
structure HasB (b : Nat) (o : Obj) where
  w : World
  h : w.heap[b]? = some o
structure HasX (b1 b2 b3 : Nat) (o1 o2 o3 : Obj) where
  w : World
  h1 : w.heap[b1]? = some o1
  h2 : w.heap[b2]? = some o2
  h3 : w.heap[b3]? = some o3
theorem wrapP {M L : Nat} (h : M = L + 1) (hl : L ≤ 1000000) : wrap64 ((M : Int) - 1) = (L : Int) := by
  rw [wrap64_mid (by omega) (by omega)]
  omega
theorem below_two {kind : Int} {ls : List (List Int)} {L at' : Nat} {l l1 l2 : List Nd} (h1 : l1 = below kind ls L (fstN ls L at') l) (h2 : l2 = below kind ls L (fstN ls L at' + 1) l1) (hx : (ls.getD L []).getD at' 0 = 2) :
    below kind ls (L + 1) at' l = abvN (hdN (L + 1) at' false) l2 [l1.length - 1, l2.length - 1] := by
  subst h1 h2
  simp only [below]
  rw [if_pos hx]
theorem below_three {kind : Int} {ls : List (List Int)} {L at' : Nat} {l l1 l2 l3 : List Nd} (h1 : l1 = below kind ls L (fstN ls L at') l) (h2 : l2 = below kind ls L (fstN ls L at' + 1) l1) (h3 : l3 = below kind ls L (fstN ls L at' + 2) l2) (hx : ¬ (ls.getD L []).getD at' 0 = 2) (hk : kind = 1) :
    below kind ls (L + 1) at' l = abvN (hdN (L + 1) at' false) l3 [l1.length - 1, l2.length - 1, l3.length - 1] := by
  subst h1 h2 h3
  simp only [below]
  rw [if_neg hx, if_pos hk]
theorem below_red {kind : Int} {ls : List (List Int)} {L at' : Nat} {l l1 l2 r l3 : List Nd} (h1 : l1 = below kind ls L (fstN ls L at') l) (h2 : l2 = below kind ls L (fstN ls L at' + 1) l1) (hr : r = abvN (hdN (L + 1) at' true) l2 [l1.length - 1, l2.length - 1]) (h3 : l3 = below kind ls L (fstN ls L at' + 2) r) (hx : ¬ (ls.getD L []).getD at' 0 = 2) (hk : ¬ kind = 1) :
    below kind ls (L + 1) at' l = abvN (hdN (L + 1) at' false) l3 [r.length - 1, l3.length - 1] := by
  subst h1 h2 hr h3
  simp only [below]
  rw [if_neg hx, if_neg hk]
set_option maxRecDepth 100000 in
set_option maxHeartbeats 2000000 in
theorem down_succ (w0 : World) (bk bs ba bv gn bn bd base : Nat) (kind : Int) (vi vl : Value) (n : Nat) (ls : List (List Int)) (hn : n ≤ 1000) (hfit : Fit n ls) (hrd : RdLs w0 vl ls) (hkd : kind = 1 ∨ kind = 2) (hls : ls.length ≤ 1000) (L : Nat)
    (ih : ∀ (at' : Nat) (va : Value) (ps : List (Nd × Value)) (nx : List Int) (w : World), DnIn w0 bk bs ba bv gn bn bd base kind vi vl n ls L at' va ps nx w → Calls Try.prog 75 (dnArgs bk bs ba bv bn bd L) w (DnSays w0 bk bs ba bv gn bn bd base kind vi vl ls L at' va ps nx w))
    (at' : Nat) (va : Value) (ps : List (Nd × Value)) (nx : List Int) (w : World) (h : DnIn w0 bk bs ba bv gn bn bd base kind vi vl n ls (L + 1) at' va ps nx w) :
    Calls Try.prog 75 (dnArgs bk bs ba bv bn bd (L + 1)) w (DnSays w0 bk bs ba bv gn bn bd base kind vi vl ls (L + 1) at' va ps nx w) := by
  obtain ⟨hled, hown, hlo, hsz, hal, hnl, hL, ha, hfew⟩ := h
  have hL' : L < ls.length := hL
  obtain ⟨x, hx, hx23, hx1, hx2⟩ := fit_step hfit hL' ha
  have hat0 := hfit.few (L + 1) hL
  have hat : (at' : Int) ≤ 1000 := by omega
  obtain ⟨M, HM⟩ : ∃ M : Nat, Hid (M = L + 1) := ⟨_, Lib.hid rfl⟩
  have hpw : 1 ≤ 3 ^ L := Nat.pow_pos (by decide)
  rw [Nat.pow_succ] at hfew
  rw [show dnArgs bk bs ba bv bn bd (L + 1) = dnArgs bk bs ba bv bn bd M by rw [HM.out]]
  have hML : M < nx.length := by have := HM.out; omega
  unfold dnArgs
  have HL := Lib.hid hled
  unfold ledN at HL
  have HO := Lib.hid hown
  have HLo := Lib.hid hlo
  have HSz := Lib.hid hsz
  have HAl := Lib.hid hal
  have HNl := Lib.hid hnl
  have HFew := Lib.hid hfew
  have HPw := Lib.hid hpw
  have HFit := Lib.hid hfit
  have HLL := Lib.hid hL'
  have HX := Lib.hid hx
  have HX23 := Lib.hid hx23
  have HX1 := Lib.hid hx1
  have HX2 := Lib.hid hx2
  have HIh := Lib.hid ih
  have HKd := Lib.hid hkd
  obtain ⟨gL, oL, cL, u, rfl, hcl, hru⟩ := hrd.cell hL'
  obtain ⟨gU, oU, cU, hu, hu1, hu2, hu3, hu4⟩ := Rd.at hru (by rw [zv_length]; exact Nat.lt_of_le_of_lt (Nat.zero_le _) ha)
  have hcu := fun (wx : World) (hw : Aft w0 wx) => Rd.num_at (i := at') ((hu ▸ hru).grow hw) ha
  rw [hx] at hcu
  rw [zv_length] at hu
  subst hu
  have HCl := Lib.hid hcl
  have HCu := Lib.hid hcu
  have hlu : (at' : Int) < ((ls.getD L []).length : Nat) := by
    have : at' < (ls.getD L []).length := ha
    omega
  have HLu := Lib.hid hlu
  have hcn := cell_part (n := 0) (HL.out.get 5 rfl) rfl
  have hcx := cell_part (n := M) (HL.out.get 4 rfl) (zv_at hML)
  rw [HM.out, hal.head, ← HM.out] at hcx
  have hM0 : ((M : Int) == 0) = false := by
    have := HM.out
    simp
    omega
  have hMi : ¬ (M : Int) = 0 := by have := HM.out; omega
  have hMw : wrap64 ((M : Int) - 1) = (L : Int) := wrapP HM.out (by omega)
  have hMl : (M : Int) < (nx.length : Nat) := by omega
  have HML := Lib.hid hML
  obtain ⟨ca, cc, rfl⟩ := hown.shape
  clear hled hown hlo hsz hal hnl hfew ha hn hL hL' hpw hfit hx hx23 hx1 hx2 ih hkd hrd hcl hru hu1 hu2 hu3 hu4 hcu hlu hat0 hML
  generalize (ls.getD L []).length = lw at *
  go_enter Try.func75, Try.ntmps75
  go_wp2_with (first | (refine wpList_store_cellJ rfl 3 (.tmp 23) (.tmp 22) rfl gn M (.int .i64 ((at' : Int) + 1)) rfl rfl _ (zv nx) (by rw [zv_length]; exact HML.out) (HL.out.get 4 rfl) (by kernel_rfl) rfl rfl ?_; intro w1 b1 b2 b3; rw [zv_set] at b1; clear hcn hcx; replace HO := Lib.hid (HO.out.low (Nat.lt_trans (HL.out.inc 4 6 _ _ _ _ (by decide) rfl rfl) HLo.out) b2.out); have HF1 := Lib.hid (fr_store2 b2.out b3); replace HL := Lib.hid (HL.out.store 4 rfl b1 b2 b3); clear b1 b2 b3; simp only [List.set_cons_succ, List.set_cons_zero] at HL) | (refine wpList_buildO (by kernel_rfl) 41 #[(0, .tmp 37), (1, .tmp 38)] rfl #[(0, .int .i64 (M : Int)), (1, .int .i64 (at' : Int))] (by kernel_rfl) _ (build_nd _ _) ?_) | (refine wpList_allocO rfl 41 rfl (.cells (ndR nd0 (.slice none 0 0)).toArray 41) alloc_nd ?_; intro w2 aa gg zz; have HA2 := Lib.hid aa; replace HL := Lib.hid (HL.out.alloc aa gg.out); clear aa gg zz; simp only [List.nil_append, List.cons_append] at HL) | (refine wpList_store_rowZ rfl 41 (.tmp 10) (.tmp 39) rfl _ (ndR ⟨(M : Int), (at' : Int), false, 0, 0, [], 0⟩ (.slice none 0 0)).toArray rfl rfl _ _ (HL.out.get 7 rfl) (nd_info _ _) rfl (all_one ndR_one) ?_; intro w3 b1 b2 b3; have HA3 := Lib.hid (show Aft w1 w3 from b3 _ w1 (Nat.le_refl _) HA2.out); replace HL := Lib.hid (HL.out.store 7 rfl b1 b2 b3); clear b1 b2 b3; simp only [List.set_cons_succ, List.set_cons_zero] at HL))
  have HD := Lib.hid (show DnSt w0 bk bs ba bv gn bn bd base kind vi (.slice (some ⟨gL, oL, none⟩) ls.length cL) ls w1.heap.size (.cells (ndR ⟨(M : Int), (at' : Int), false, 0, 0, [], 0⟩ (.slice none 0 0)).toArray 41) (.slice ca ps.length cc) w (.slice ca ps.length cc) ps (nx.set M ((at' : Int) + 1)) w3 from
    ⟨by unfold ledN; rw [List.length_set]; exact HL.out, HO.out.aft HA3.out, HLo.out, fun g hg => by have := (HO.out.lt g hg).2; omega, (HF1.out.mono fun k _ e => .inr (.inl e)).trans (Fr.of_below HA3.out), fun g hg => .inl hg, by rw [List.length_set]; exact HNl.out, by have h1 := HSz.out; have h2 := HF1.out.size; have h3 := Below.size HA3.out; omega⟩)
  have HAl1 := Lib.hid (show Al ls L (fstN ls L at') (nx.set M ((at' : Int) + 1)) from HAl.out.2.congr fun j hj => getD_set_neN (by have := HM.out; omega))
  have HUp := Lib.hid (show (nx.set M ((at' : Int) + 1)).getD M 0 = (at' : Int) + 1 from getD_set_selfN HML.out)
  have HUp2 := Lib.hid (fun (j : Nat) (hj : M < j) => show (nx.set M ((at' : Int) + 1)).getD j 0 = nx.getD j 0 from getD_set_neN (by omega))
  generalize nx.set M ((at' : Int) + 1) = nx1 at *
  clear HL HO HF1 HA2 HA3
  have HMw := Lib.hid hMw
  haveI : Inhabited (HasB bd (.cells [fnD bk bs ba bv bn bd].toArray 92)) := ⟨⟨w3, HD.out.led.get 6 rfl⟩⟩
  have f0 := fun u : HasB bd (.cells [fnD bk bs ba bv bn bd].toArray 92) => show u.w.cell? ⟨bd, 0, none⟩ = some (Value.func (.func 75) #[] #[.pointer (some ⟨bn, 0, none⟩), .pointer (some ⟨ba, 0, none⟩), .pointer (some ⟨bd, 0, none⟩), .pointer (some ⟨bs, 0, none⟩), .pointer (some ⟨bv, 0, none⟩), .pointer (some ⟨bk, 0, none⟩)]) from cell_part (n := 0) (u := fnD bk bs ba bv bn bd) u.h rfl
  refine wp_region_lex (fun wz => ∃ u : HasB bd (.cells [fnD bk bs ba bv bn bd].toArray 92), wz = u.w) (fun i => ([3, 7] : List Nat).contains i) 10 (by kernel_rfl) (by kernel_rfl) ⟨⟨w3.drew, Aft.get (show Aft w3 w3.drew from (Below.refl _ _).drew) (HD.out.led.get 6 rfl)⟩, rfl⟩ ?_
  change wpLx _ _ _ _ _ _ _ _ _ w3.drew
  replace HD := Lib.hid (HD.out.aft (show Aft w3 w3.drew from (Below.refl _ _).drew))
  generalize w3.drew = wd at *
  try simp only [Act.put, List.setIfInBounds_toArray, List.set_cons_succ, List.set_cons_zero]
  repeat (first | (refine lx_skipT (by go_big_quiet_skip; exact wpQuiet_nil trivial) (by kernel_rfl) ?_; simp only [Act.put, List.setIfInBounds_toArray, List.set_cons_succ, List.set_cons_zero]) | (refine lx_quietT rfl (by go_big_quiet_want; exact quiet_false (by assumption)) (by kernel_rfl) rfl ?_; intro Kx hKx; go_big_quiet_op; go_big_quiet_on))
  refine lx_effT rfl (by go_big_quiet_want; exact quiet_false (by assumption)) (by kernel_rfl) ?_; intro Kx hKx; go_wp2_with fail
  refine (HIh.out (fstN ls L at') _ ps nx1 wd (HD.out.inn (n := n) HAl1.out (Nat.le_of_lt HLL.out) (by have := HX2.out; have := HX23.out; omega) (by have := HFew.out; have := HPw.out; omega))).mono ?_
  rintro e w4 hs
  obtain ⟨va1, ps1, nx2, rfl, hD, hf1, hal1, hup1⟩ := HD.out.down hs
  replace HD := Lib.hid hD
  have HF1 := Lib.hid hf1
  have HAl2 := Lib.hid hal1
  replace HUp := Lib.hid ((hup1 M (by have := HM.out; omega)).trans HUp.out)
  replace HUp2 := Lib.hid (fun (j : Nat) (hj : M < j) => (hup1 j (by have := HM.out; omega)).trans (HUp2.out j hj))
  have HLe1 := Lib.hid (show ps.length + 1 ≤ ps1.length ∧ ps1.length + 1 ≤ ps.length + 2 * 3 ^ L by
    have h1 := below_length kind ls L (fstN ls L at') (ps.map Prod.fst)
    rw [← hf1, List.length_map, List.length_map] at h1
    exact h1)
  clear hD hf1 hal1 hup1 hs HAl1
  go_wp2_with fail
  refine ⟨⟨⟨_, HD.out.led.get 6 rfl⟩, rfl⟩, ?_⟩
  repeat (first | (refine lx_skipT (by go_big_quiet_skip; exact wpQuiet_nil trivial) (by kernel_rfl) ?_; simp only [Act.put, List.setIfInBounds_toArray, List.set_cons_succ, List.set_cons_zero]) | (refine lx_quietT rfl (by go_big_quiet_want; exact quiet_false (by assumption)) (by kernel_rfl) rfl ?_; intro Kx hKx; go_big_quiet_op; go_big_quiet_on))
  refine lx_effT rfl (by go_big_quiet_want; exact quiet_false (by assumption)) (by kernel_rfl) ?_; intro Kx hKx; go_wp2_with fail
  refine (HIh.out (fstN ls L at' + 1) _ ps1 nx2 w4 (HD.out.inn (n := n) HAl2.out (Nat.le_of_lt HLL.out) (by have := HX2.out; have := HX23.out; omega) (by have := HFew.out; have := HPw.out; have := HLe1.out; omega))).mono ?_
  rintro e w5 hs
  obtain ⟨va2, ps2, nx3, rfl, hD, hf1, hal1, hup1⟩ := HD.out.down hs
  replace HD := Lib.hid hD
  have HF2 := Lib.hid hf1
  have HAl3 := Lib.hid hal1
  replace HUp := Lib.hid ((hup1 M (by have := HM.out; omega)).trans HUp.out)
  replace HUp2 := Lib.hid (fun (j : Nat) (hj : M < j) => (hup1 j (by have := HM.out; omega)).trans (HUp2.out j hj))
  have HLe2 := Lib.hid (show ps1.length + 1 ≤ ps2.length ∧ ps2.length + 1 ≤ ps1.length + 2 * 3 ^ L by
    have h1 := below_length kind ls L (fstN ls L at' + 1) (ps1.map Prod.fst)
    rw [← hf1, List.length_map, List.length_map] at h1
    exact h1)
  clear hD hf1 hal1 hup1 hs HAl2
  go_wp2_with fail
  refine ⟨⟨⟨_, HD.out.led.get 6 rfl⟩, rfl⟩, ?_⟩
  repeat (first | (refine lx_skipT (by go_big_quiet_skip; exact wpQuiet_nil trivial) (by kernel_rfl) ?_; simp only [Act.put, List.setIfInBounds_toArray, List.set_cons_succ, List.set_cons_zero]) | (refine lx_quietT rfl (by go_big_quiet_want; exact quiet_false (by assumption)) (by kernel_rfl) rfl ?_; intro Kx hKx; go_big_quiet_op; go_big_quiet_on))
  refine lx_done ?_
  clear f0
  have g0 := cell_part (n := 1) (HD.out.led.get 1 rfl) rfl
  have g1 := HCl.out w5 HD.out.led.aft
  have g2 := HCu.out w5 HD.out.led.aft
  have hlu := HLu.out
  have hlL : (L : Int) < (ls.length : Nat) := by have := HLL.out; omega
  obtain ⟨k1, HK1⟩ : ∃ k, Hid (k = ps1.length - 1) := ⟨_, Lib.hid rfl⟩
  obtain ⟨k2, HK2⟩ : ∃ k, Hid (k = ps2.length - 1) := ⟨_, Lib.hid rfl⟩
  rw [← HK1.out, ← HK2.out]
  have hk1 : k1 < ps1.length ∧ k2 < ps2.length := by
    have h1 := HK1.out
    have h2 := HK2.out
    have h3 := HLe1.out
    have h4 := HLe2.out
    omega
  have HKl := Lib.hid (show k1 < ps2.length ∧ k2 < ps2.length by have h4 := HLe2.out; omega)
  clear hk1
  by_cases hx2 : (ls.getD L []).getD at' 0 = 2
  · have e2 : x = 2 := by have := HX.out; omega
    subst e2
    have g2 : w5.cell? ⟨gU, oU + at', none⟩ = some (.int .i64 2) := g2
    have HAl := Lib.hid (show Al ls L (fstN ls L at' + 2) nx3 from HAl3.out)
    have g3 : w5.cell? ⟨bv, 0, none⟩ = some (Value.func (.func 74) #[] #[.pointer (some ⟨ba, 0, none⟩)]) := cell_part (n := 0) (u := fnA ba) (HD.out.led.get 3 rfl) rfl
    go_wp2_with (first | (refine wpList_load_rowG (by kernel_rfl) 41 (.tmp 10) rfl _ rfl _ _ _ _ (HD.out.led.get 7 rfl) Try.underlying41 rfl (nd_info _ _) ?_) | (refine wpList_ints2 (by kernel_rfl) (.tmp 61) (.tmp 62) (k1 : Int) (k2 : Int) rfl rfl rfl ?_; intro w6 aS hI; have HI := Lib.hid (hI.out.mono HD.out.sz); replace HD := Lib.hid (HD.out.aft aS); clear aS hI))
    clear g0 g1 g2 g3
    refine (above_any ⟨(M : Int), (at' : Int), false, 0, 0, [], 0⟩ _ [k1, k2] 1 rfl ba base _ ps2 w6 (HD.out.led.get 2 rfl) HD.out.own HI.out (by
      intro k hk
      simp only [List.mem_cons, List.not_mem_nil, or_false] at hk
      rcases hk with rfl | rfl
      · have := HKl.out; omega
      · exact HKl.out.2) (by have := HFew.out; have := HPw.out; have := HLe1.out; have := HLe2.out; omega) HD.out.sz (by decide)).mono ?_
    rintro e w7 hs
    obtain ⟨va3, rfl, hD⟩ := HD.out.above hs
    replace HD := Lib.hid hD
    clear hD hs
    go_wp2_with fail
    go_ret
    obtain rfl := HM.out
    refine ⟨_, _, _, congrArg (fun z => Ending.returned (.int .i64 z)) (by rw [abvP_length]; rfl), HD.out.led.cut 7, HD.out.own, ?_, ⟨HUp.out, by rw [HX1.out]; exact HAl.out⟩, HD.out.nl.trans HNl.out.symm, fun j hj => HUp2.out j hj, HD.out.fr, HD.out.gr⟩
    rw [abvP_fst, below_two HF1.out HF2.out hx2, List.length_map, List.length_map, HK1.out, HK2.out]
    rfl
  · have e2 : x = 3 := by have := HX.out; have := HX23.out; omega
    subst e2
    have g2 : w5.cell? ⟨gU, oU + at', none⟩ = some (.int .i64 3) := g2
    by_cases hk : kind = 1
    · have hkk : kind = 1 := hk
      have HKk := Lib.hid hkk
      have g3 : w5.cell? ⟨bk, 0, none⟩ = some (.int .i64 1) := by rw [← hkk]; exact cell_part (n := 0) (HD.out.led.get 0 rfl) rfl
      clear hkk hk
      go_upto_region 11 with fail
      clear g0 g1 g2 g3
      have HLr := Lib.hid (show ps2.length ≤ ps2.length from Nat.le_refl _)
      haveI : Inhabited (HasX bv w1.heap.size bd (.cells [fnA ba].toArray 91) (.cells (ndR ⟨(M : Int), (at' : Int), false, 0, 0, [], 0⟩ (.slice none 0 0)).toArray 41) (.cells [fnD bk bs ba bv bn bd].toArray 92)) := ⟨⟨w5, HD.out.led.get 3 rfl, HD.out.led.get 7 rfl, HD.out.led.get 6 rfl⟩⟩
      have f0 := fun u : HasX bv w1.heap.size bd (.cells [fnA ba].toArray 91) (.cells (ndR ⟨(M : Int), (at' : Int), false, 0, 0, [], 0⟩ (.slice none 0 0)).toArray 41) (.cells [fnD bk bs ba bv bn bd].toArray 92) => show u.w.cell? ⟨bd, 0, none⟩ = some (Value.func (.func 75) #[] #[.pointer (some ⟨bn, 0, none⟩), .pointer (some ⟨ba, 0, none⟩), .pointer (some ⟨bd, 0, none⟩), .pointer (some ⟨bs, 0, none⟩), .pointer (some ⟨bv, 0, none⟩), .pointer (some ⟨bk, 0, none⟩)]) from cell_part (n := 0) (u := fnD bk bs ba bv bn bd) u.h3 rfl
      have f1 := fun u : HasX bv w1.heap.size bd (.cells [fnA ba].toArray 91) (.cells (ndR ⟨(M : Int), (at' : Int), false, 0, 0, [], 0⟩ (.slice none 0 0)).toArray 41) (.cells [fnD bk bs ba bv bn bd].toArray 92) => show u.w.cell? ⟨bv, 0, none⟩ = some (Value.func (.func 74) #[] #[.pointer (some ⟨ba, 0, none⟩)]) from cell_part (n := 0) (u := fnA ba) u.h1 rfl
      refine wp_region_lex (fun wz => ∃ u : HasX bv w1.heap.size bd (.cells [fnA ba].toArray 91) (.cells (ndR ⟨(M : Int), (at' : Int), false, 0, 0, [], 0⟩ (.slice none 0 0)).toArray 41) (.cells [fnD bk bs ba bv bn bd].toArray 92), wz = u.w) (fun i => ([7, 8, 9] : List Nat).contains i) 11 (by kernel_rfl) (by kernel_rfl) ⟨⟨w5.drew, Aft.get (show Aft w5 w5.drew from (Below.refl _ _).drew) (HD.out.led.get 3 rfl), Aft.get (show Aft w5 w5.drew from (Below.refl _ _).drew) (HD.out.led.get 7 rfl), Aft.get (show Aft w5 w5.drew from (Below.refl _ _).drew) (HD.out.led.get 6 rfl)⟩, rfl⟩ ?_
      change wpLx _ _ _ _ _ _ _ _ _ w5.drew
      replace HD := Lib.hid (HD.out.aft (show Aft w5 w5.drew from (Below.refl _ _).drew))
      generalize w5.drew = wd2 at *
      try simp only [Act.put, List.setIfInBounds_toArray, List.set_cons_succ, List.set_cons_zero]
      repeat (first | (refine lx_skipT (by go_big_quiet_skip; exact wpQuiet_nil trivial) (by kernel_rfl) ?_; simp only [Act.put, List.setIfInBounds_toArray, List.set_cons_succ, List.set_cons_zero]) | (refine lx_quietT rfl (by go_big_quiet_want; exact quiet_false (by assumption)) (by kernel_rfl) rfl ?_; intro Kx hKx; go_big_quiet_op; go_big_quiet_on))
      refine lx_load_agg rfl (by kernel_rfl) 41 (.tmp 10) rfl ⟨w1.heap.size, 0, none⟩ rfl (ndR ⟨(M : Int), (at' : Int), false, 0, 0, [], 0⟩ (.slice none 0 0)).toArray (fun wz hz => by obtain ⟨u, rfl⟩ := hz; exact run_loadVar_row u.w _ _ _ _ _ _ u.h2 Try.underlying41 rfl (nd_info _ _)) ?_
      simp only [Act.put, List.setIfInBounds_toArray, List.set_cons_succ, List.set_cons_zero]
      repeat (first | (refine lx_skipT (by go_big_quiet_skip; exact wpQuiet_nil trivial) (by kernel_rfl) ?_; simp only [Act.put, List.setIfInBounds_toArray, List.set_cons_succ, List.set_cons_zero]) | (refine lx_quietT rfl (by go_big_quiet_want; exact quiet_false (by assumption)) (by kernel_rfl) rfl ?_; intro Kx hKx; go_big_quiet_op; go_big_quiet_on))
      refine lx_effT rfl (by go_big_quiet_want; exact quiet_false (by assumption)) (by kernel_rfl) ?_; intro Kx hKx; go_wp2_with fail
      refine (HIh.out (fstN ls L at' + 2) _ ps2 nx3 _ (HD.out.inn (n := n) HAl3.out (Nat.le_of_lt HLL.out) (by have := HX2.out; omega) (by have := HFew.out; have := HPw.out; have := HLe1.out; have := HLe2.out; have := HLr.out; omega))).mono ?_
      rintro e w7 hs
      obtain ⟨va4, ps3, nx4, rfl, hD, hf1, hal1, hup1⟩ := HD.out.down hs
      replace HD := Lib.hid hD
      have HF3 := Lib.hid hf1
      have HAl4 := Lib.hid hal1
      replace HUp := Lib.hid ((hup1 M (by have := HM.out; omega)).trans HUp.out)
      replace HUp2 := Lib.hid (fun (j : Nat) (hj : M < j) => (hup1 j (by have := HM.out; omega)).trans (HUp2.out j hj))
      have HLe3 := Lib.hid (show ps2.length + 1 ≤ ps3.length ∧ ps3.length + 1 ≤ ps2.length + 2 * 3 ^ L by
        have h1 := below_length kind ls L (fstN ls L at' + 2) (ps2.map Prod.fst)
        rw [← hf1, List.length_map, List.length_map] at h1
        exact h1)
      clear hD hf1 hal1 hup1 hs HAl3
      go_wp2_with fail
      refine ⟨⟨⟨_, HD.out.led.get 3 rfl, HD.out.led.get 7 rfl, HD.out.led.get 6 rfl⟩, rfl⟩, ?_⟩
      obtain ⟨k3, HK3⟩ : ∃ k, Hid (k = ps3.length - 1) := ⟨_, Lib.hid rfl⟩
      rw [← HK3.out]
      have HKm := Lib.hid (show k3 < ps3.length by have h1 := HK3.out; have h2 := HLe3.out; omega)
      repeat (first | (refine lx_skipT (by go_big_quiet_skip; exact wpQuiet_nil trivial) (by kernel_rfl) ?_; simp only [Act.put, List.setIfInBounds_toArray, List.set_cons_succ, List.set_cons_zero]) | (refine lx_quietT rfl (by go_big_quiet_want; exact quiet_false (by assumption)) (by kernel_rfl) rfl ?_; intro Kx hKx; go_big_quiet_op; go_big_quiet_on))
      refine lx_eff rfl (by kernel_rfl) ?_
      intro Kx hKx
      refine wp_of_list (ops := #[]) (wpList_ints3 rfl (.tmp 70) (.tmp 71) (.tmp 75) (k1 : Int) (k2 : Int) (k3 : Int) rfl rfl rfl rfl ?_)
      intro w8 aS hI
      have HI := Lib.hid (hI.out.mono HD.out.sz)
      replace HD := Lib.hid (HD.out.aft aS)
      clear aS hI
      refine ⟨rfl, hKx _ _ ⟨⟨⟨_, HD.out.led.get 3 rfl, HD.out.led.get 7 rfl, HD.out.led.get 6 rfl⟩, rfl⟩, ?_⟩⟩
      clear hKx
      simp only [Act.put, List.setIfInBounds_toArray, List.set_cons_succ, List.set_cons_zero]
      refine lx_effT rfl (by go_big_quiet_want; exact quiet_false (by assumption)) (by kernel_rfl) ?_; intro Kx hKx; go_wp2_with fail
      refine (above_any ⟨(M : Int), (at' : Int), false, 0, 0, [], 0⟩ _ [k1, k2, k3] 2 rfl ba base _ ps3 w8 (HD.out.led.get 2 rfl) HD.out.own HI.out (by
        intro k hk
        simp only [List.mem_cons, List.not_mem_nil, or_false] at hk
        rcases hk with rfl | rfl | rfl
        · have := HKl.out; have := HLe3.out; omega
        · have := HKl.out; have := HLe3.out; omega
        · exact HKm.out) (by have := HFew.out; have := HPw.out; have := HLe1.out; have := HLe2.out; have := HLe3.out; have := HLr.out; omega) HD.out.sz (by decide)).mono ?_
      rintro e w9 hs
      obtain ⟨va5, rfl, hD⟩ := HD.out.above hs
      replace HD := Lib.hid hD
      clear hD hs
      go_wp2_with fail
      refine ⟨⟨⟨_, HD.out.led.get 3 rfl, HD.out.led.get 7 rfl, HD.out.led.get 6 rfl⟩, rfl⟩, ?_⟩
      repeat (first | (refine lx_skipT (by go_big_quiet_skip; exact wpQuiet_nil trivial) (by kernel_rfl) ?_; simp only [Act.put, List.setIfInBounds_toArray, List.set_cons_succ, List.set_cons_zero]) | (refine lx_quietT rfl (by go_big_quiet_want; exact quiet_false (by assumption)) (by kernel_rfl) rfl ?_; intro Kx hKx; go_big_quiet_op; go_big_quiet_on))
      refine lx_done ?_
      clear f0 f1
      go_wp2_with fail
      go_ret
      obtain rfl := HM.out
      refine ⟨_, _, _, congrArg (fun z => Ending.returned (.int .i64 z)) (by rw [abvP_length]; rfl), HD.out.led.cut 7, HD.out.own, ?_, ⟨HUp.out, by rw [HX1.out]; exact HAl4.out⟩, HD.out.nl.trans HNl.out.symm, fun j hj => HUp2.out j hj, HD.out.fr, HD.out.gr⟩
      rw [abvP_fst, below_three HF1.out HF2.out HF3.out hx2 HKk.out, List.length_map, List.length_map, List.length_map, HK1.out, HK2.out, HK3.out]
      rfl
    · have hkk : kind = 2 := by
        rcases HKd.out with h1 | h1
        · exact absurd h1 hk
        · exact h1
      have HKk := Lib.hid hk
      have g3 : w5.cell? ⟨bk, 0, none⟩ = some (.int .i64 2) := by rw [← hkk]; exact cell_part (n := 0) (HD.out.led.get 0 rfl) rfl
      have g4 : w5.cell? ⟨bv, 0, none⟩ = some (Value.func (.func 74) #[] #[.pointer (some ⟨ba, 0, none⟩)]) := cell_part (n := 0) (u := fnA ba) (HD.out.led.get 3 rfl) rfl
      clear hkk hk
      go_wp2_with (first | (refine wpList_buildO (by kernel_rfl) 41 #[(0, .tmp 79), (1, .tmp 80), (2, .const (.bool true))] rfl #[(0, .int .i64 (M : Int)), (1, .int .i64 (at' : Int)), (2, .bool true)] (by kernel_rfl) _ (build_red _ _) ?_) | (refine wpList_ints2 (by kernel_rfl) (.tmp 82) (.tmp 83) (k1 : Int) (k2 : Int) rfl rfl rfl ?_; intro w6 aS hI; have HI := Lib.hid (hI.out.mono HD.out.sz); replace HD := Lib.hid (HD.out.aft aS); clear aS hI))
      clear g0 g1 g2 g3 g4
      refine (above_any ⟨(M : Int), (at' : Int), true, 0, 0, [], 0⟩ _ [k1, k2] 1 rfl ba base _ ps2 w6 (HD.out.led.get 2 rfl) HD.out.own HI.out (by
        intro k hk
        simp only [List.mem_cons, List.not_mem_nil, or_false] at hk
        rcases hk with rfl | rfl
        · have := HKl.out; omega
        · exact HKl.out.2) (by have := HFew.out; have := HPw.out; have := HLe1.out; have := HLe2.out; omega) HD.out.sz (by decide)).mono ?_
      rintro e wr hs
      obtain ⟨va3, rfl, hD⟩ := HD.out.above hs
      have HFr := Lib.hid (abvP_fst ⟨(M : Int), (at' : Int), true, 0, 0, [], 0⟩ (.slice (some ⟨w5.heap.size, 0, none⟩) 2 2) ps2 [k1, k2])
      have HLr := Lib.hid (abvP_length ⟨(M : Int), (at' : Int), true, 0, 0, [], 0⟩ (.slice (some ⟨w5.heap.size, 0, none⟩) 2 2) ps2 [k1, k2])
      generalize abvP ⟨(M : Int), (at' : Int), true, 0, 0, [], 0⟩ (.slice (some ⟨w5.heap.size, 0, none⟩) 2 2) ps2 [k1, k2] = pr at *
      replace HD := Lib.hid hD
      clear hD hs HI
      go_upto_region 13 with fail
      haveI : Inhabited (HasX bv w1.heap.size bd (.cells [fnA ba].toArray 91) (.cells (ndR ⟨(M : Int), (at' : Int), false, 0, 0, [], 0⟩ (.slice none 0 0)).toArray 41) (.cells [fnD bk bs ba bv bn bd].toArray 92)) := ⟨⟨wr, HD.out.led.get 3 rfl, HD.out.led.get 7 rfl, HD.out.led.get 6 rfl⟩⟩
      have f0 := fun u : HasX bv w1.heap.size bd (.cells [fnA ba].toArray 91) (.cells (ndR ⟨(M : Int), (at' : Int), false, 0, 0, [], 0⟩ (.slice none 0 0)).toArray 41) (.cells [fnD bk bs ba bv bn bd].toArray 92) => show u.w.cell? ⟨bd, 0, none⟩ = some (Value.func (.func 75) #[] #[.pointer (some ⟨bn, 0, none⟩), .pointer (some ⟨ba, 0, none⟩), .pointer (some ⟨bd, 0, none⟩), .pointer (some ⟨bs, 0, none⟩), .pointer (some ⟨bv, 0, none⟩), .pointer (some ⟨bk, 0, none⟩)]) from cell_part (n := 0) (u := fnD bk bs ba bv bn bd) u.h3 rfl
      have f1 := fun u : HasX bv w1.heap.size bd (.cells [fnA ba].toArray 91) (.cells (ndR ⟨(M : Int), (at' : Int), false, 0, 0, [], 0⟩ (.slice none 0 0)).toArray 41) (.cells [fnD bk bs ba bv bn bd].toArray 92) => show u.w.cell? ⟨bv, 0, none⟩ = some (Value.func (.func 74) #[] #[.pointer (some ⟨ba, 0, none⟩)]) from cell_part (n := 0) (u := fnA ba) u.h1 rfl
      refine wp_region_lex (fun wz => ∃ u : HasX bv w1.heap.size bd (.cells [fnA ba].toArray 91) (.cells (ndR ⟨(M : Int), (at' : Int), false, 0, 0, [], 0⟩ (.slice none 0 0)).toArray 41) (.cells [fnD bk bs ba bv bn bd].toArray 92), wz = u.w) (fun i => ([6, 7, 8] : List Nat).contains i) 10 (by kernel_rfl) (by kernel_rfl) ⟨⟨wr.drew, Aft.get (show Aft wr wr.drew from (Below.refl _ _).drew) (HD.out.led.get 3 rfl), Aft.get (show Aft wr wr.drew from (Below.refl _ _).drew) (HD.out.led.get 7 rfl), Aft.get (show Aft wr wr.drew from (Below.refl _ _).drew) (HD.out.led.get 6 rfl)⟩, rfl⟩ ?_
      change wpLx _ _ _ _ _ _ _ _ _ wr.drew
      replace HD := Lib.hid (HD.out.aft (show Aft wr wr.drew from (Below.refl _ _).drew))
      generalize wr.drew = wd2 at *
      try simp only [Act.put, List.setIfInBounds_toArray, List.set_cons_succ, List.set_cons_zero]
      repeat (first | (refine lx_skipT (by go_big_quiet_skip; exact wpQuiet_nil trivial) (by kernel_rfl) ?_; simp only [Act.put, List.setIfInBounds_toArray, List.set_cons_succ, List.set_cons_zero]) | (refine lx_quietT rfl (by go_big_quiet_want; exact quiet_false (by assumption)) (by kernel_rfl) rfl ?_; intro Kx hKx; go_big_quiet_op; go_big_quiet_on))
      refine lx_load_agg rfl (by kernel_rfl) 41 (.tmp 10) rfl ⟨w1.heap.size, 0, none⟩ rfl (ndR ⟨(M : Int), (at' : Int), false, 0, 0, [], 0⟩ (.slice none 0 0)).toArray (fun wz hz => by obtain ⟨u, rfl⟩ := hz; exact run_loadVar_row u.w _ _ _ _ _ _ u.h2 Try.underlying41 rfl (nd_info _ _)) ?_
      simp only [Act.put, List.setIfInBounds_toArray, List.set_cons_succ, List.set_cons_zero]
      repeat (first | (refine lx_skipT (by go_big_quiet_skip; exact wpQuiet_nil trivial) (by kernel_rfl) ?_; simp only [Act.put, List.setIfInBounds_toArray, List.set_cons_succ, List.set_cons_zero]) | (refine lx_quietT rfl (by go_big_quiet_want; exact quiet_false (by assumption)) (by kernel_rfl) rfl ?_; intro Kx hKx; go_big_quiet_op; go_big_quiet_on))
      refine lx_effT rfl (by go_big_quiet_want; exact quiet_false (by assumption)) (by kernel_rfl) ?_; intro Kx hKx; go_wp2_with fail
      refine (HIh.out (fstN ls L at' + 2) _ pr nx3 _ (HD.out.inn (n := n) HAl3.out (Nat.le_of_lt HLL.out) (by have := HX2.out; omega) (by have := HFew.out; have := HPw.out; have := HLe1.out; have := HLe2.out; have := HLr.out; omega))).mono ?_
      rintro e w7 hs
      obtain ⟨va4, ps3, nx4, rfl, hD, hf1, hal1, hup1⟩ := HD.out.down hs
      replace HD := Lib.hid hD
      have HF3 := Lib.hid hf1
      have HAl4 := Lib.hid hal1
      replace HUp := Lib.hid ((hup1 M (by have := HM.out; omega)).trans HUp.out)
      replace HUp2 := Lib.hid (fun (j : Nat) (hj : M < j) => (hup1 j (by have := HM.out; omega)).trans (HUp2.out j hj))
      have HLe3 := Lib.hid (show pr.length + 1 ≤ ps3.length ∧ ps3.length + 1 ≤ pr.length + 2 * 3 ^ L by
        have h1 := below_length kind ls L (fstN ls L at' + 2) (pr.map Prod.fst)
        rw [← hf1, List.length_map, List.length_map] at h1
        exact h1)
      clear hD hf1 hal1 hup1 hs HAl3
      go_wp2_with fail
      refine ⟨⟨⟨_, HD.out.led.get 3 rfl, HD.out.led.get 7 rfl, HD.out.led.get 6 rfl⟩, rfl⟩, ?_⟩
      obtain ⟨k3, HK3⟩ : ∃ k, Hid (k = ps3.length - 1) := ⟨_, Lib.hid rfl⟩
      rw [← HK3.out]
      have HKm := Lib.hid (show k3 < ps3.length by have h1 := HK3.out; have h2 := HLe3.out; omega)
      repeat (first | (refine lx_skipT (by go_big_quiet_skip; exact wpQuiet_nil trivial) (by kernel_rfl) ?_; simp only [Act.put, List.setIfInBounds_toArray, List.set_cons_succ, List.set_cons_zero]) | (refine lx_quietT rfl (by go_big_quiet_want; exact quiet_false (by assumption)) (by kernel_rfl) rfl ?_; intro Kx hKx; go_big_quiet_op; go_big_quiet_on))
      refine lx_eff rfl (by kernel_rfl) ?_
      intro Kx hKx
      refine wp_of_list (ops := #[]) (wpList_ints2 rfl (.tmp 88) (.tmp 92) (ps2.length : Int) (k3 : Int) rfl rfl rfl ?_)
      intro w8 aS hI
      have HI := Lib.hid (hI.out.mono HD.out.sz)
      replace HD := Lib.hid (HD.out.aft aS)
      clear aS hI
      refine ⟨rfl, hKx _ _ ⟨⟨⟨_, HD.out.led.get 3 rfl, HD.out.led.get 7 rfl, HD.out.led.get 6 rfl⟩, rfl⟩, ?_⟩⟩
      clear hKx
      simp only [Act.put, List.setIfInBounds_toArray, List.set_cons_succ, List.set_cons_zero]
      refine lx_effT rfl (by go_big_quiet_want; exact quiet_false (by assumption)) (by kernel_rfl) ?_; intro Kx hKx; go_wp2_with fail
      refine (above_any ⟨(M : Int), (at' : Int), false, 0, 0, [], 0⟩ _ [ps2.length, k3] 1 rfl ba base _ ps3 w8 (HD.out.led.get 2 rfl) HD.out.own HI.out (by
        intro k hk
        simp only [List.mem_cons, List.not_mem_nil, or_false] at hk
        rcases hk with rfl | rfl
        · have := HLr.out; have := HLe3.out; omega
        · exact HKm.out) (by have := HFew.out; have := HPw.out; have := HLe1.out; have := HLe2.out; have := HLe3.out; have := HLr.out; omega) HD.out.sz (by decide)).mono ?_
      rintro e w9 hs
      obtain ⟨va5, rfl, hD⟩ := HD.out.above hs
      replace HD := Lib.hid hD
      clear hD hs
      go_wp2_with fail
      refine ⟨⟨⟨_, HD.out.led.get 3 rfl, HD.out.led.get 7 rfl, HD.out.led.get 6 rfl⟩, rfl⟩, ?_⟩
      repeat (first | (refine lx_skipT (by go_big_quiet_skip; exact wpQuiet_nil trivial) (by kernel_rfl) ?_; simp only [Act.put, List.setIfInBounds_toArray, List.set_cons_succ, List.set_cons_zero]) | (refine lx_quietT rfl (by go_big_quiet_want; exact quiet_false (by assumption)) (by kernel_rfl) rfl ?_; intro Kx hKx; go_big_quiet_op; go_big_quiet_on))
      refine lx_done ?_
      clear f0 f1
      go_wp2_with fail
      go_ret
      obtain rfl := HM.out
      refine ⟨_, _, _, congrArg (fun z => Ending.returned (.int .i64 z)) (by rw [abvP_length]; rfl), HD.out.led.cut 7, HD.out.own, ?_, ⟨HUp.out, by rw [HX1.out]; exact HAl4.out⟩, HD.out.nl.trans HNl.out.symm, fun j hj => HUp2.out j hj, HD.out.fr, HD.out.gr⟩
      rw [abvP_fst, below_red HF1.out HF2.out (r := pr.map Prod.fst) (HFr.out.trans (by rw [List.length_map, List.length_map, HK1.out, HK2.out]; rfl)) HF3.out hx2 HKk.out, List.length_map, List.length_map, HLr.out, HK3.out]
      rfl
end Go.Proofs.Ytpnckphfjcnooaa
