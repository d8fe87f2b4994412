/- coterieref24.Close, walked. -/
import Derived.Test.YtfgammcefaomeaaK3
import Derived.Test.YtfgammcefaomeaaK5
import Derived.Test.YtfgammcefaomeaaKR
namespace Go.Proofs.Ytfgammcefaomeaa
open Go Go.RowKit
set_option linter.unusedSimpArgs false
theorem rl_info2 {r : Rl} {v : Value} : (Try.prog.info? 58).map (·.size) = some (rlR r v).toArray.size := by
  rw [List.size_toArray, rlR_length]
  kernel_rfl
theorem rise_len : ∀ {l : List Int} {a m : Int}, Rise l → (∀ x ∈ l, a ≤ x ∧ x < m) → a ≤ m → (l.length : Int) ≤ m - a
  | [], a, m, _, _, h => by simp only [List.length_nil]; omega
  | x :: l, a, m, h, hb, hm => by
    have hp := List.pairwise_cons.1 h
    have h1 := hb x (by simp)
    have ih := rise_len (l := l) (a := x + 1) (m := m) hp.2 (fun y hy => ⟨by have := hp.1 y hy; omega, (hb y (by simp [hy])).2⟩) (by omega)
    simp only [List.length_cons]
    omega
def inB (x : Int) : Prop := 0 ≤ x ∧ x < 1048576
def okR (r : Rl) : Prop := (∀ x ∈ r.frm, inB x) ∧ inB r.to
def ClOk (known : List Int) (rs : List Rl) : Prop := rs.length ≤ 20000 ∧ (∀ x ∈ known, inB x) ∧ ∀ r ∈ rs, okR r
theorem kin_true {l : List Int} (h : ∀ x ∈ l, inB x) : (l.all fun x => decide (0 ≤ x ∧ x < 1048576)) = true := by
  rw [List.all_eq_true]
  exact fun x hx => decide_eq_true (show 0 ≤ x ∧ x < 1048576 from h x hx)
theorem kin_false {l : List Int} (h : ¬ ∀ x ∈ l, inB x) : (l.all fun x => decide (0 ≤ x ∧ x < 1048576)) = false := by
  rw [Bool.eq_false_iff]
  exact fun q => h fun x hx => show 0 ≤ x ∧ x < 1048576 from of_decide_eq_true (List.all_eq_true.1 q x hx)
theorem ClOk.within {known : List Int} {rs : List Rl} (h : ClOk known rs) {x : Int} (hx : Rch known rs x) : 0 ≤ x ∧ x < 1048576 := Rch.within (m := 1048576) h.2.1 (fun r hr => (h.2.2 r hr).2) hx
theorem filters_all (n : Int) : ∀ {l : List Int}, n ∉ l → (l.filter (fun x => decide (x < n))).length + (l.filter (fun x => decide (n < x))).length = l.length
  | [], _ => rfl
  | x :: l, h => by
    have ih := filters_all n (l := l) (fun q => h (by simp [q]))
    have hx : x ≠ n := fun q => h (by simp [q])
    simp only [List.filter_cons, List.length_cons]
    by_cases h1 : x < n
    · have h2 : ¬ n < x := by omega
      simp only [h1, h2, decide_true, decide_false, if_true, Bool.false_eq_true, if_false, List.length_cons]
      omega
    · have h2 : n < x := by omega
      simp only [h1, h2, decide_true, decide_false, if_true, Bool.false_eq_true, if_false, List.length_cons]
      omega
theorem wth_new {l : List Int} {n : Int} (h : n ∉ l) : (wth l n).length = l.length + 1 := by
  have := filters_all n h
  unfold wth
  rw [if_neg h]
  simp only [List.length_append, List.length_cons]
  omega
/-- What Close says, the program's and the document's. -/
def CloSays (known : List Int) (rs : List Rl) (w : World) (e : Ending) (w' : World) : Prop :=
  (ClOk known rs ∧ ∃ v l, e = .returned (.tuple #[v, .int .i64 0]) ∧ Rd w' v (zv l) ∧ Rise l ∧ (∀ x, x ∈ l ↔ Rch known rs x) ∧ Aft w w') ∨
  (¬ ClOk known rs ∧ e = .returned (.tuple #[.slice none 0 0, .int .i64 1]) ∧ Aft w w')
/-- The list that grows. -/
structure Gr (known : List Int) (rs : List Rl) (l : List Int) : Prop where
  rise : Rise l
  rch : ∀ x ∈ l, Rch known rs x
  kn : ∀ x ∈ known, x ∈ l
theorem Gr.len {known : List Int} {rs : List Rl} {l : List Int} (h : Gr known rs l) (hok : ClOk known rs) : l.length ≤ 1048576 := by
  have := rise_len (a := 0) (m := 1048576) h.rise (fun x hx => hok.within (h.rch x hx)) (by decide)
  omega
theorem Gr.with {known : List Int} {rs : List Rl} {l : List Int} (h : Gr known rs l) {r : Rl} (hr : r ∈ rs) (hf : ∀ x ∈ r.frm, x ∈ l) : Gr known rs (wth l r.to) :=
  ⟨wth_rise h.rise, fun x hx => (wth_mem.1 hx).elim (h.rch x) (fun e => e ▸ .step hr fun y hy => h.rch y (hf y hy)), fun x hx => wth_mem.2 (.inl (h.kn x hx))⟩
def flagN : Value → Nat | .bool true => 1 | _ => 0
/-- What the inner loop keeps. -/
def KcI (known : List Int) (rs : List Rl) (l0 : List Int) (i : Nat) (v8 v11 : Value) (w wr : World) : Prop :=
  ∃ l b, Rd wr v8 (zv l) ∧ v11 = .bool b ∧ Gr known rs l ∧ l0.length ≤ l.length ∧ (b = true → l0.length < l.length) ∧ (b = false → ∀ j, j < i → (∀ x ∈ (ru rs j).frm, x ∈ l) → (ru rs j).to ∈ l) ∧ Aft w wr
def KcO (known : List Int) (rs : List Rl) (v8 v11 : Value) (w wr : World) : Prop :=
  ∃ l b, Rd wr v8 (zv l) ∧ v11 = .bool b ∧ Gr known rs l ∧ (b = false → ∀ r ∈ rs, (∀ x ∈ r.frm, x ∈ l) → r.to ∈ l) ∧ Aft w wr
set_option maxRecDepth 100000 in
set_option maxHeartbeats 4000000 in
theorem kclose_any (v u : Value) (known : List Int) (ps : List (Rl × Value)) (w : World) (h : Rd w v (zv known)) (hu : RdRl w u ps) (hk : known.length ≤ 200) (hn : ps.length ≤ 300 ∨ 20000 < ps.length) (hf : ps.length ≤ 300 → ∀ p ∈ ps, p.1.frm.length ≤ 50) :
    Calls Try.prog 27 #[v, u] w (CloSays known (ps.map Prod.fst) w) := by
  have HK := Lib.hid (kin_any v 1048576 known w h (by omega))
  have HKn := Lib.hid h
  obtain ⟨ao, cap, rfl, -, -⟩ := h.numS
  have HRl := Lib.hid hu
  obtain ⟨bo, dap, rfl, -, -⟩ := hu.shape
  have HLn := Lib.hid (show (ps.map Prod.fst).length = ps.length from List.length_map ..)
  clear h hu
  by_cases hbig : 20000 < ps.length
  · have hb' : (20000 : Int) < (ps.length : Nat) := by omega
    clear HK hn hf
    go_enter Try.func27, Try.ntmps27
    go_wp2_with fail
    go_ret2
    exact .inr ⟨fun q => by have := q.1; rw [HLn.out] at this; omega, rfl, Aft.refl w⟩
  have hb' : ¬ (20000 : Int) < (ps.length : Nat) := by omega
  have hn3 : ps.length ≤ 300 := hn.resolve_right hbig
  have HF := Lib.hid (hf hn3)
  clear hf hn hbig
  go_enter Try.func27, Try.ntmps27
  go_wp2_with fail
  refine HK.out.mono ?_
  rintro e w2 ⟨rfl, rfl⟩
  clear HK
  by_cases hkn : ∀ x ∈ known, inB x
  rotate_left
  · have HX := Lib.hid hkn
    rw [kin_false hkn]
    clear hkn
    go_wp2_with fail
    go_ret2
    exact .inr ⟨fun q => HX.out q.2.1, rfl, Aft.refl _⟩
  have HX := Lib.hid hkn
  rw [kin_true hkn]
  clear hkn
  go_wp2_with fail
  go_loopw [24] (fun v24 wr => ∃ i : Nat, i ≤ ps.length ∧ v24 = .int .i64 (i : Int) ∧ (∀ j, j < i → okR (ru (ps.map Prod.fst) j)) ∧ Aft w2 wr) (fun v _ => ps.length - (intOf v).toNat)
  case atStart => exact ⟨0, Nat.zero_le _, rfl, fun j hj => absurd hj (Nat.not_lt_zero _), Aft.refl _⟩
  case round =>
    obtain ⟨i, hi, rfl, hok, hA⟩ := hrel
    have HA := Lib.hid hA
    have HO := Lib.hid hok
    have HL := Lib.hid (Led.start wr)
    clear hA hok
    by_cases hlt : i < ps.length
    · have hlt' : (i : Int) < (ps.length : Nat) := by omega
      obtain ⟨g, o, c4, he, hrg⟩ := HRl.out.at hlt
      injection he with he1 he2 he3
      subst he1 he3
      obtain ⟨ka, kc, hkv, -, -⟩ := (HRl.out.kidAt hlt).numS
      have HFr := Lib.hid (HRl.out.kidAt hlt)
      have HFl := Lib.hid (HF.out _ (rlP_mem hlt))
      have HRu := Lib.hid (fst_ru hlt)
      have hrx := hrg wr HA.out
      rw [hkv] at hrx HFr
      generalize (ps.getD i rlP).1 = r at *
      have HRx := Lib.hid hrx
      clear hrx hrg hkv he2
      have HIn := Lib.hid (fun (wx : World) (ha : Aft w2 wx) => kin_any _ 1048576 r.frm wx (HFr.out.grow ha) (by have := HFl.out; omega))
      go_wp2_with (first | (refine wpList_dstT 27 rfl ?_; refine wpList_load_mid2 (by kernel_rfl) 58 (.tmp 26) rfl _ _ rfl (rlR r (.slice ka r.frm.length kc)) HRx.out _ Try.underlying58 rfl rl_info ?_) | (refine wpList_allocO rfl 58 rfl (.cells (rlR rl0 (.slice none 0 0)).toArray 58) alloc_rl ?_; intro wA aa gg zz; have HA0 := HA; replace HA := Lib.hid (Aft.trans HA.out aa); replace HL := Lib.hid (HL.out.alloc aa gg.out); clear aa gg zz; try simp only [List.nil_append, List.cons_append, List.set_cons_zero, List.set_cons_succ] at HL) | (refine wpList_store_rowZ rfl 58 (.tmp 7) (.tmp 27) rfl _ (rlR r (.slice ka r.frm.length kc)).toArray rfl rfl _ _ (HL.out.get 0 rfl) rl_info2 rfl (all_one rlR_one) ?_; intro wB b1 b2 b3; replace HA := Lib.hid (b3 _ _ (Below.size HA0.out) HA.out); replace HL := Lib.hid (HL.out.store 0 rfl b1 b2 b3); clear b1 b2 b3; try simp only [List.nil_append, List.cons_append, List.set_cons_zero, List.set_cons_succ] at HL; have d0 := cell_part (n := 0) (HL.out.get 0 rfl) rfl; have d1 := cell_part (n := 1) (HL.out.get 0 rfl) rfl))
      refine (HIn.out _ HA.out).mono ?_
      rintro e w4 ⟨rfl, rfl⟩
      clear HIn
      by_cases hfr : ∀ x ∈ r.frm, inB x
      rotate_left
      · have HY := Lib.hid hfr
        rw [kin_false hfr]
        clear hfr
        go_wp2_with fail
        go_ret2
        exact .inr ⟨fun q => HY.out (by have := (q.2.2 _ (ru_mem (i := i) (by rw [HLn.out]; exact hlt))).1; rwa [HRu.out] at this), rfl, HA.out⟩
      have HY := Lib.hid hfr
      rw [kin_true hfr]
      clear hfr
      go_wp2_with (first | (refine wpList_dstT 35 rfl ?_; refine wpList_intSlice (by kernel_rfl) (.tmp 34) r.to rfl rfl ?_; intro wC aC gC; replace HA := Lib.hid (Aft.trans HA.out aC); have HOne := Lib.hid (one_own (w := w4) gC.out (Nat.le_refl _)).rd; clear aC gC))
      refine (kin_any _ 1048576 [r.to] wC HOne.out (by simp)).mono ?_
      rintro e w5 ⟨rfl, rfl⟩
      by_cases hto : ∀ x ∈ [r.to], inB x
      · have HT := Lib.hid (show ∀ j, j < i + 1 → okR (ru (ps.map Prod.fst) j) from fun j hj => by
          by_cases e : j = i
          · subst e; rw [HRu.out]; exact ⟨HY.out, hto _ (by simp)⟩
          · exact HO.out j (by omega))
        rw [kin_true hto]
        clear hto
        go_wp2_with fail
        go_roundw
        case rel => exact ⟨i + 1, by omega, by go_num, HT.out, HA.out⟩
        case measure => simp [intOf]; omega
      · have HT := Lib.hid hto
        rw [kin_false hto]
        clear hto
        go_wp2_with fail
        go_ret2
        exact .inr ⟨fun q => HT.out (by have := (q.2.2 _ (ru_mem (i := i) (by rw [HLn.out]; exact hlt))).2; rw [HRu.out] at this; intro x hx; rw [List.mem_singleton.1 hx]; exact this), rfl, HA.out⟩
    · obtain rfl : i = ps.length := by omega
      have hlt' : ¬ ((ps.length : Nat) : Int) < (ps.length : Nat) := by omega
      have HOk := Lib.hid (show ClOk known (ps.map Prod.fst) from ⟨by rw [HLn.out]; omega, HX.out, fun r hr => by
        obtain ⟨j, hj, rfl⟩ := ru_of hr
        exact HO.out j (by rw [HLn.out] at hj; exact hj)⟩)
      clear HO HX HL
      go_wp2_with fail
      go_loopw [8, 42] (fun v8 v42 wr => ∃ i : Nat, i ≤ known.length ∧ v42 = .int .i64 (i : Int) ∧ Rd wr v8 (zv (rsl (known.take i))) ∧ Aft w2 wr) (fun _ v _ => known.length - (intOf v).toNat)
      case atStart => exact ⟨0, Nat.zero_le _, rfl, Rd.nil _, HA.out⟩
      case round =>
        clear HA
        obtain ⟨i, hi, rfl, hR, hA⟩ := hrel
        have HA := Lib.hid hA
        have HR := Lib.hid hR
        by_cases hlt : i < known.length
        · have hlt' : (i : Int) < (known.length : Nat) := by omega
          obtain ⟨b, o, rfl, -, -⟩ := (HKn.out.grow hA).some_of (by rw [zv_length]; omega)
          have hc := (HKn.out.grow hA).num_at hlt
          have HT := Lib.hid (show rsl (known.take (i + 1)) = wth (rsl (known.take i)) (known.getD i 0) by
            rw [List.take_add_one, List.getElem?_eq_getElem hlt, List.getD_eq_getElem?_getD, List.getElem?_eq_getElem hlt]
            exact rsl_snoc _ _)
          have hl : (rsl (known.take i)).length ≤ 200 := Nat.le_trans (rsl_length _) (by rw [List.length_take]; omega)
          have HW := Lib.hid (kwith_any _ (known.getD i 0) _ wr hR (by omega))
          generalize known.getD i 0 = z at *
          generalize rsl (known.take i) = l at *
          clear hA hR
          go_wp2_with fail
          refine HW.out.mono ?_
          rintro e w4 ⟨v4, rfl, h4, ha4⟩
          replace HA := Lib.hid (Aft.trans HA.out ha4)
          have HR4 := Lib.hid h4
          clear h4 ha4 HW HR
          go_wp2_with fail
          go_roundw
          case rel => exact ⟨i + 1, by omega, by go_num, by rw [HT.out]; exact HR4.out, HA.out⟩
          case measure => simp [intOf]; omega
        · obtain rfl : i = known.length := by omega
          have hlt' : ¬ ((known.length : Nat) : Int) < (known.length : Nat) := by omega
          have HG := Lib.hid (show KcO known (ps.map Prod.fst) _ (.bool true) w2 wr from ⟨_, true, HR.out, rfl, ⟨rsl_rise _, fun x hx => .base (by rw [List.take_length] at hx; exact rsl_mem.1 hx), fun x hx => by rw [List.take_length]; exact rsl_mem.2 hx⟩, fun q => (by cases q), HA.out⟩)
          have HR0 := Lib.hid hR
          obtain ⟨a8, c8, rfl, -, -⟩ := hR.numS
          clear hR hA HR HA HR0
          generalize (rsl (known.take known.length)).length = n8 at *
          go_wp2_with fail
          go_loopw [8, 11] (fun v8 v11 wr => KcO known (ps.map Prod.fst) v8 v11 w2 wr) (fun v8 v11 _ => 2 * (1048577 - lenV v8) + flagN v11)
          case atStart => exact HG.out
          case round =>
            clear HG
            obtain ⟨l, b, hR, rfl, hG, hcl, hA⟩ := hrel
            have HA := Lib.hid hA
            have HR := Lib.hid hR
            have HG := Lib.hid hG
            have HC := Lib.hid hcl
            obtain ⟨a8, c8, rfl, -, -⟩ := hR.numS
            clear hR hA hG hcl
            cases b with
            | false =>
              go_wp2_with fail
              go_ret2
              exact .inl ⟨HOk.out, _, l, rfl, HR.out, HG.out.rise, fun x => Rch.iff (S := fun x => x ∈ l) HG.out.kn (fun r hr ha => HC.out trivial r hr ha) HG.out.rch x, HA.out⟩
            | true =>
              clear HC
              go_wp2_with fail
              go_loopw [8, 11, 53] (fun v8 v11 v53 wr => ∃ i : Nat, i ≤ ps.length ∧ v53 = .int .i64 (i : Int) ∧ KcI known (ps.map Prod.fst) l i v8 v11 w2 wr) (fun _ _ v _ => ps.length - (intOf v).toNat)
              case atStart => exact ⟨0, Nat.zero_le _, rfl, l, false, HR.out, rfl, HG.out, Nat.le_refl _, fun q => (by cases q), fun _ j hj => absurd hj (Nat.not_lt_zero _), HA.out⟩
              case round =>
                clear HA HR HG
                obtain ⟨i, hi, rfl, m, b, hR, rfl, hG, hle, hbt, hbf, hA⟩ := hrel
                have HA := Lib.hid hA
                have HR := Lib.hid hR
                have HG := Lib.hid hG
                have HLe := Lib.hid hle
                have HBt := Lib.hid hbt
                have HBf := Lib.hid hbf
                have HLm := Lib.hid (hG.len HOk.out)
                obtain ⟨a9, c9, rfl, -, -⟩ := hR.numS
                have HL := Lib.hid (Led.start wr)
                clear hR hA hG hle hbt hbf
                by_cases hlt : i < ps.length
                · have hlt' : (i : Int) < (ps.length : Nat) := by omega
                  obtain ⟨g, o, c4, he, hrg⟩ := HRl.out.at hlt
                  injection he with he1 he2 he3
                  subst he1 he3
                  obtain ⟨ka, kc, hkv, -, -⟩ := (HRl.out.kidAt hlt).numS
                  have HFr := Lib.hid (HRl.out.kidAt hlt)
                  have HFl := Lib.hid (HF.out _ (rlP_mem hlt))
                  have HRu := Lib.hid (fst_ru hlt)
                  have hrx := hrg wr HA.out
                  rw [hkv] at hrx HFr
                  generalize (ps.getD i rlP).1 = r at *
                  have HRx := Lib.hid hrx
                  clear hrx hrg hkv he2
                  have HMr := Lib.hid (show r ∈ ps.map Prod.fst by rw [← HRu.out]; exact ru_mem (by rw [HLn.out]; exact hlt))
                  go_wp2_with (first | (refine wpList_dstT 56 rfl ?_; refine wpList_load_mid2 (by kernel_rfl) 58 (.tmp 55) rfl _ _ rfl (rlR r (.slice ka r.frm.length kc)) HRx.out _ Try.underlying58 rfl rl_info ?_) | (refine wpList_allocO rfl 58 rfl (.cells (rlR rl0 (.slice none 0 0)).toArray 58) alloc_rl ?_; intro wA aa gg zz; have HA0 := HA; replace HA := Lib.hid (Aft.trans HA.out aa); replace HL := Lib.hid (HL.out.alloc aa gg.out); clear aa gg zz; try simp only [List.nil_append, List.cons_append, List.set_cons_zero, List.set_cons_succ] at HL) | (refine wpList_store_rowZ rfl 58 (.tmp 13) (.tmp 56) rfl _ (rlR r (.slice ka r.frm.length kc)).toArray rfl rfl _ _ (HL.out.get 0 rfl) rl_info2 rfl (all_one rlR_one) ?_; intro wB b1 b2 b3; replace HA := Lib.hid (b3 _ _ (Below.size HA0.out) HA.out); replace HL := Lib.hid (HL.out.store 0 rfl b1 b2 b3); clear b1 b2 b3; try simp only [List.nil_append, List.cons_append, List.set_cons_zero, List.set_cons_succ] at HL; have d0 := cell_part (n := 0) (HL.out.get 0 rfl) rfl; have d1 := cell_part (n := 1) (HL.out.get 0 rfl) rfl))
                  refine (khas_any _ r.to m _ (HR.out.grow HL.out.aft) (by have := HLm.out; omega)).mono ?_
                  rintro e w4 ⟨rfl, rfl⟩
                  by_cases hto : r.to ∈ m
                  · rw [decide_eq_true hto]
                    have HT := Lib.hid (show b = false → ∀ j, j < i + 1 → (∀ x ∈ (ru (ps.map Prod.fst) j).frm, x ∈ m) → (ru (ps.map Prod.fst) j).to ∈ m from fun q j hj => by
                      by_cases e : j = i
                      · subst e; intro _; rw [HRu.out]; exact hto
                      · exact HBf.out q j (by omega))
                    clear hto
                    go_wp2_with fail
                    go_roundw
                    case rel => exact ⟨i + 1, by omega, by go_num, m, b, HR.out.grow HL.out.aft, rfl, HG.out, HLe.out, HBt.out, HT.out, HA.out⟩
                    case measure => simp [intOf]; omega
                  · rw [decide_eq_false hto]
                    have HTo := Lib.hid hto
                    clear hto
                    go_wp2_with fail
                    refine (kall_any _ _ m r.frm _ (HR.out.grow HL.out.aft) (by have := HLm.out; omega) (HFr.out.grow HA.out) (by have := HFl.out; omega)).mono ?_
                    rintro e w5 ⟨rfl, rfl⟩
                    by_cases hall : ∀ x ∈ r.frm, x ∈ m
                    · rw [decide_eq_true hall]
                      have HW := Lib.hid (HG.out.with HMr.out hall)
                      have HWl := Lib.hid (wth_new HTo.out)
                      clear hall
                      go_wp2_with fail
                      refine (kwith_any _ r.to m _ (HR.out.grow HL.out.aft) (by have := HLm.out; omega)).mono ?_
                      rintro e w6 ⟨v6, rfl, h6, ha6⟩
                      replace HA := Lib.hid (Aft.trans HA.out ha6)
                      have HR6 := Lib.hid h6
                      clear h6 ha6
                      go_wp2_with fail
                      go_roundw
                      case rel => exact ⟨i + 1, by omega, by go_num, _, true, HR6.out, rfl, HW.out, by have := HWl.out; have := HLe.out; omega, fun _ => by have := HWl.out; have := HLe.out; omega, fun q => (by cases q), HA.out⟩
                      case measure => simp [intOf]; omega
                    · rw [decide_eq_false hall]
                      have HT := Lib.hid (show b = false → ∀ j, j < i + 1 → (∀ x ∈ (ru (ps.map Prod.fst) j).frm, x ∈ m) → (ru (ps.map Prod.fst) j).to ∈ m from fun q j hj => by
                        by_cases e : j = i
                        · subst e; rw [HRu.out]; exact fun q => absurd q hall
                        · exact HBf.out q j (by omega))
                      clear hall
                      go_wp2_with fail
                      go_roundw
                      case rel => exact ⟨i + 1, by omega, by go_num, m, b, HR.out.grow HL.out.aft, rfl, HG.out, HLe.out, HBt.out, HT.out, HA.out⟩
                      case measure => simp [intOf]; omega
                · obtain rfl : i = ps.length := by omega
                  have hlt' : ¬ ((ps.length : Nat) : Int) < (ps.length : Nat) := by omega
                  have HQ := Lib.hid (show KcO known (ps.map Prod.fst) _ (.bool b) w2 wr from ⟨m, b, HR.out, rfl, HG.out, fun q r hr hx => by
                    obtain ⟨j, hj, rfl⟩ := ru_of hr
                    exact HBf.out q j (by rw [HLn.out] at hj; exact hj) hx, HA.out⟩)
                  have HMs := Lib.hid (show 2 * (1048577 - m.length) + flagN (.bool b) < 2 * (1048577 - l.length) + flagN (.bool true) by
                    have h1 := HLm.out
                    have h2 := HLe.out
                    cases b with
                    | false => simp only [flagN]; omega
                    | true => have h3 := HBt.out rfl; simp only [flagN]; omega)
                  go_wp2_with fail
                  go_roundw
                  case rel => exact HQ.out
                  case measure => exact HMs.out
end Go.Proofs.Ytfgammcefaomeaa
