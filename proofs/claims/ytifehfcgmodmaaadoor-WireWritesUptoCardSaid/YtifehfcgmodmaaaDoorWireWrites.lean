/- coterielaw01.WireWrites: it answers true. -/
import Derived.Test.YtifehfcgmodmaaaDoorA8
namespace Go.Proofs.YtifehfcgmodmaaaDoor
open Go Go.RowKit
set_option maxRecDepth 100000 in
set_option maxHeartbeats 4000000 in
theorem wireWrites_any (vb vn vt : Value) (b : List (BitVec 8)) (W : Int) (ns : List Nat) (ts : List (List (BitVec 8))) (w : World) (hb : Rd w vb (bv b)) (hn : Rd w vn (nv ns)) (hns : ∀ x ∈ ns, x < 18446744073709551616) (ht : RdAll w vt ts) (h0 : ts.length ≤ 1048576) :
    Calls Tryd.prog 12 #[vb, .int .i64 W, vn, vt] w fun e w' => e = .returned (.bool true) ∧ Below w.heap.size w w' := by
  have HB := Lib.hid hb
  have HN := Lib.hid hn
  have HT := Lib.hid ht
  have H0 := Lib.hid h0
  have HNs := Lib.hid hns
  obtain ⟨ab, cb, rfl, -, -, -, -⟩ := hb
  obtain ⟨an, cn, rfl, -, -, -, -⟩ := hn
  obtain ⟨at_, ct, rfl, -⟩ := ht.shape
  clear ht hns
  have HL := Lib.hid (live1_any w)
  go_enter Tryd.func12, Tryd.ntmps12
  go_wp2_with fail
  refine HL.out.mono ?_
  rintro e w1 ⟨rfl, hb1⟩
  have HB1 := Lib.hid (show Aft w w1 from hb1)
  clear hb1
  by_cases h1 : (2000 : Int) < ((bv b).length : Nat)
  · go_wp2_with fail
    go_ret
    exact ⟨rfl, HB1.out⟩
  · by_cases h2 : (200 : Int) < ((nv ns).length : Nat)
    · go_wp2_with fail
      go_ret
      exact ⟨rfl, HB1.out⟩
    · go_wp2_with fail
      refine (few_any _ ts w1 (HT.out.below HB1.out) (by have := H0.out; omega)).mono ?_
      rintro e w1' ⟨rfl, rfl⟩
      by_cases hf : few ts
      · rw [decide_eq_true hf]
        have HLb := Lib.hid (show b.length ≤ 2000 by rw [bv_length] at h1; omega)
        have HLn := Lib.hid (show ns.length ≤ 200 by rw [nv_length] at h2; omega)
        clear h0 hf
        have HC1 := Lib.hid (fun (wx : World) (h : Aft w wx) => num_any _ _ b W ns wx (HB.out.grow h) (HN.out.grow h) HNs.out (by have := HLb.out; omega) (by have := HLn.out; omega))
        have HC2 := Lib.hid (fun (wx : World) (h : Aft w wx) => refNum_any _ _ b W ns wx (HB.out.grow h) (HN.out.grow h) HNs.out (by have := HLb.out; omega) (by have := HLn.out; omega))
        have HC3 := Lib.hid (fun (wx : World) (h : Aft w wx) => text_any _ _ b ts wx (HB.out.grow h) (HT.out.below h) (by have := HLb.out; omega) (by have := H0.out; omega))
        have HC4 := Lib.hid (fun (wx : World) (h : Aft w wx) => refText_any _ _ b ts wx (HB.out.grow h) (HT.out.below h) (by have := HLb.out; omega) (by have := H0.out; omega))
        unfold NumSays at HC1 HC2
        unfold TextSays at HC3 HC4
        generalize numB b W ns = X at *
        generalize numErr W ns = ex at *
        generalize textB b ts = Y at *
        generalize textErr ts = ey at *
        go_wp2_with fail
        clear h1 h2
        refine (copy_any _ b _ (HB.out.grow HB1.out) (by have := HLb.out; omega)).mono ?_
        rintro e w2 ⟨a2, c2, rfl, ho2, hb2⟩
        have HA2 := Lib.hid (Aft.trans HB1.out hb2)
        have HR2 := Lib.hid (Rd.of_own ho2)
        clear ho2 hb2
        go_wp2_with fail
        refine (HC1.out w2 HA2.out).mono ?_
        rintro e w3 ⟨a3, c3, rfl, ho3, hb3⟩
        have HA23 := Lib.hid (show Aft w2 w3 from hb3)
        have HA3 := Lib.hid (Aft.trans HA2.out HA23.out)
        have HO3 := Lib.hid ho3
        clear ho3 hb3
        go_wp2_with fail
        refine (HC2.out w3 HA3.out).mono ?_
        rintro e w4 ⟨a4, c4, rfl, ho4, hb4⟩
        have HA34 := Lib.hid (show Aft w3 w4 from hb4)
        have HA4 := Lib.hid (Aft.trans HA3.out HA34.out)
        have HR4 := Lib.hid (Rd.of_own ho4)
        clear ho4 hb4
        go_wp2_with fail
        refine (HC3.out w4 HA4.out).mono ?_
        rintro e w5 ⟨a5, c5, rfl, ho5, hb5⟩
        have HA45 := Lib.hid (show Aft w4 w5 from hb5)
        have HA5 := Lib.hid (Aft.trans HA4.out HA45.out)
        have HR5 := Lib.hid (Rd.of_own ho5)
        clear ho5 hb5
        go_wp2_with fail
        refine (HC4.out w5 HA5.out).mono ?_
        rintro e w6 ⟨a6, c6, rfl, ho6, hb6⟩
        have HA56 := Lib.hid (show Aft w5 w6 from hb6)
        have HA6 := Lib.hid (Aft.trans HA5.out HA56.out)
        have HR6 := Lib.hid (Rd.of_own ho6)
        have HA36 := Lib.hid (show Aft w3 w6 from Aft.trans HA34.out (Aft.trans HA45.out HA56.out))
        clear ho6 hb6
        go_wp2_with fail
        refine (same_any _ _ X X w6 ((Rd.of_own HO3.out).grow HA36.out) (HR4.out.grow (Aft.trans HA45.out HA56.out))).mono ?_
        rintro e wx ⟨rfl, hx⟩
        obtain rfl : wx = w6 := hx
        simp only [decide_true]
        go_wp2_with fail
        refine (same_any _ _ Y Y wx (HR5.out.grow HA56.out) HR6.out).mono ?_
        rintro e wn ⟨rfl, hx⟩
        obtain rfl : wn = wx := hx
        simp only [decide_true]
        have HOn := Lib.hid (ownsRow_below HO3.out (w' := wn) fun g hg => Below.block HA36.out g (own_lt HO3.out hg).2)
        have HCn := Lib.hid (HR2.out.grow (Aft.trans HA23.out HA36.out))
        have hsz2 : w.heap.size ≤ w2.heap.size := Below.size HA2.out
        have hsl := (Rd.of_own HO3.out).sl
        have HX0 := Lib.hid (show ∀ j, j < (bv X).length → ∃ z, (bv X)[j]? = some (.int .u8 z) from fun j hj => ⟨_, bv_at X j (by rw [bv_length] at hj; exact hj)⟩)
        generalize hnn : (bv X).length = n at *
        have HSl := Lib.hid hsl.2
        have HW3 := Lib.hid (show w3.heap.size ≤ wn.heap.size from Below.size HA36.out)
        clear hsl hnn
        go_wp2_with fail
        go_loopw [86] (fun v wr => ∃ i : Nat, i ≤ n ∧ v = .int .i64 i ∧ (∃ xs, wr.ownsRow w2.heap.size 5 1 (.slice a3 n c3) n xs ∧ ∀ j, j < n → ∃ z, xs[j]? = some (.int .u8 z)) ∧ Fr (fun k => w2.heap.size ≤ k ∧ k < w3.heap.size) wn wr) (fun v _ => n - (intOf v).toNat)
        case atStart => exact ⟨0, by omega, rfl, ⟨_, HOn.out, HX0.out⟩, Fr.refl _ _⟩
        case round =>
          obtain ⟨i, hi, rfl, ⟨xs, hox, hxs⟩, hfr⟩ := hrel
          by_cases hlt : i < n
          · have hlt' : (i : Int) < (n : Int) := by omega
            have hn63 : (i : Int) + 1 ≤ 9223372036854775807 := by have := HSl.out; omega
            have hform : ∃ g, a3 = some ⟨g, 0, none⟩ ∧ w2.heap.size ≤ g ∧ g < w3.heap.size := by
              rcases HO3.out.2 with ⟨hv, h0⟩ | ⟨g, cap, cur, hv, hge, hgg, _⟩
              · omega
              · cases hv; exact ⟨g, rfl, hge, heap_lt hgg⟩
            obtain ⟨g, rfl, hg1, hg2⟩ := hform
            obtain ⟨z, hz⟩ := hxs i hlt
            have hcl : wr.cell? ⟨g, i, none⟩ = some (.int .u8 z) := by rw [hox.cellAt i (by omega)]; exact hz
            have hfz := hox.frozenAt i
            have HOx := Lib.hid hox
            have HXs := Lib.hid hxs
            have HFr := Lib.hid hfr
            have HLx := Lib.hid hox.1
            clear hox hxs hfr hz
            go_wp2_with fail
            go_roundw
            case rel =>
              refine ⟨i + 1, by omega, by go_num, ⟨_, (HOx.out.stored i _).1, fun j hj => ?_⟩, HFr.out.setCell ⟨hg1, hg2⟩ _⟩
              by_cases hji : j = i
              · subst hji
                rw [List.getElem?_set_self (by have := HLx.out; omega)]
                exact ⟨_, rfl⟩
              · rw [List.getElem?_set_ne (fun e => hji e.symm)]
                exact HXs.out j hj
            case measure => simp [intOf]; omega
          · obtain rfl : i = n := by omega
            have hlt' : ¬ (i : Int) < (i : Int) := by omega
            have HFr := Lib.hid hfr
            have HBr := Lib.hid (show Below w.heap.size w wr from Below.trans HA6.out (hfr.below (B := w.heap.size) (Below.size HA6.out) (fun k hk => by omega)))
            clear hox hxs hfr
            go_wp2_with fail
            refine (same_any _ _ b b wr (HB.out.grow HBr.out) (HCn.out.fr HFr.out (fun g hg hx => by have := HR2.out.lt hg hx; omega))).mono ?_
            rintro e w' ⟨rfl, rfl⟩
            go_wp2_with fail
            go_ret
            exact ⟨by simp, HBr.out⟩
      · rw [decide_eq_false hf]
        go_wp2_with fail
        go_ret
        exact ⟨rfl, HB1.out⟩
end Go.Proofs.YtifehfcgmodmaaaDoor
