/- coterielaw01.WireBack: it answers true. -/
import Derived.Test.YtifehfcgmodmaaaDoorWireStands
import Derived.Test.YtifehfcgmodmaaaDoorWireSplits
namespace Go.Proofs.YtifehfcgmodmaaaDoor
open Go Go.RowKit
theorem beN_beL : ∀ U x : Nat, x < 256 ^ U → beN (beL U x) = x
  | 0, x, h => by rw [Nat.pow_zero] at h; rw [show x = 0 by omega]; rfl
  | U + 1, x, h => by
    rw [Nat.pow_succ] at h
    rw [beL_snoc, beN_snoc, beN_beL U (x / 256) (by omega), BitVec.toNat_ofNat]
    omega
theorem numsB_split (U : Nat) (ns : List Nat) (i : Nat) (h : i < ns.length) : numsB U ns = numsB U (ns.take i) ++ (beL U (nat ns i) ++ numsB U (ns.drop (i + 1))) := by
  have e : numsB U ns = numsB U (ns.take (i + 1)) ++ numsB U (ns.drop (i + 1)) := by
    unfold numsB
    rw [← List.flatMap_append, List.take_append_drop]
  rw [e, numsB_succ U ns i h, List.append_assoc]
/-- A number that was written is read. -/
theorem num_back {b rest : List (BitVec 8)} {U : Nat} {ns : List Nat} {i : Nat} (h : i < ns.length) (h1 : 1 ≤ U) (h8 : U ≤ 8) (hf : fitsB U (nat ns i) = true) :
    takeNum (b ++ numsB U ns ++ rest) ((b.length + U * i : Nat) : Int) (U : Int) = (nat ns i, ((b.length + U * i : Nat) : Int) + (U : Int), 0) := by
  have hl : (b ++ numsB U (ns.take i)).length = b.length + U * i := by rw [List.length_append, numsB_length, List.length_take, Nat.min_eq_left (by omega)]
  have e : b ++ numsB U ns ++ rest = (b ++ numsB U (ns.take i)) ++ (beL U (nat ns i) ++ (numsB U (ns.drop (i + 1)) ++ rest)) := by rw [numsB_split U ns i h]; simp only [List.append_assoc]
  have hlen : (b ++ numsB U ns ++ rest).length = b.length + U * i + (U + (numsB U (ns.drop (i + 1)) ++ rest).length) := by rw [e, List.length_append, hl, List.length_append, beL_length]
  unfold takeNum
  rw [if_neg (by omega), if_neg (by omega), Int.toNat_natCast, Int.toNat_natCast, e, List.drop_left' hl, List.take_left' (beL_length U _), beN_beL U _ (of_decide_eq_true hf)]
/-- A text that was written is read. -/
theorem text_back {pre t post : List (BitVec 8)} (h : t.length ≤ 65535) : takeText (pre ++ ((beL 2 t.length ++ t) ++ post)) (pre.length : Int) = (t, ((pre.length + (2 + t.length) : Nat) : Int), 0) := by
  have h2 : (beL 2 t.length).length = 2 := beL_length 2 _
  have hn : takeNum (pre ++ ((beL 2 t.length ++ t) ++ post)) (pre.length : Int) 2 = (t.length, (pre.length : Int) + 2, 0) := by
    unfold takeNum
    rw [if_neg (by simp only [List.length_append]; omega), if_neg (by simp only [List.length_append, h2]; omega), Int.toNat_natCast, show Int.toNat 2 = 2 from rfl, List.drop_left' rfl, List.append_assoc, List.take_left' h2, beN_beL 2 _ (by omega)]
  have hl : (pre ++ ((beL 2 t.length ++ t) ++ post)).length = pre.length + (2 + t.length) + post.length := by simp only [List.length_append, h2]; omega
  rw [takeText_good hn (by rw [hl]; omega)]
  have e : pre ++ ((beL 2 t.length ++ t) ++ post) = (pre ++ beL 2 t.length) ++ (t ++ post) := by simp only [List.append_assoc]
  rw [show ((pre.length : Int) + 2).toNat = pre.length + 2 by omega, e, List.drop_left' (by rw [List.length_append, h2]), List.take_left' rfl]
  simp only [Prod.mk.injEq, true_and, and_true]
  omega
theorem texts_back : ∀ (ts : List (List (BitVec 8))) (pre post : List (BitVec 8)), (∀ x ∈ ts, x.length ≤ 65535) → textsGo (pre ++ (textsB ts ++ post)) ts.length (pre.length : Int) = (ts, ((pre.length + (textsB ts).length : Nat) : Int), 0)
  | [], pre, post, _ => rfl
  | t :: ts, pre, post, h => by
    have ht : t.length ≤ 65535 := h t (by simp)
    have e1 : pre ++ (textsB (t :: ts) ++ post) = pre ++ ((beL 2 t.length ++ t) ++ (textsB ts ++ post)) := by simp only [textsB, List.flatMap_cons, List.append_assoc]
    have e2 : pre ++ ((beL 2 t.length ++ t) ++ (textsB ts ++ post)) = (pre ++ (beL 2 t.length ++ t)) ++ (textsB ts ++ post) := by simp only [List.append_assoc]
    have hl : (pre ++ (beL 2 t.length ++ t)).length = pre.length + (2 + t.length) := by rw [List.length_append, List.length_append, beL_length]
    have h1 := text_back (pre := pre) (post := textsB ts ++ post) ht
    have ih := texts_back ts (pre ++ (beL 2 t.length ++ t)) post (fun x hx => h x (by simp [hx]))
    rw [hl, ← e2] at ih
    rw [e1, List.length_cons, textsGo_cons h1 ih]
    simp only [Prod.mk.injEq, true_and, and_true, textsB, List.flatMap_cons, List.length_append, beL_length]
    omega
theorem texts_back2 {ts : List (List (BitVec 8))} {pre post : List (BitVec 8)} (h : textOk ts = true) : texts (pre ++ textsB ts ++ post) (pre.length : Int) ((ts.length : Nat) : Int) = (ts, ((pre.length + (textsB ts).length : Nat) : Int), 0) := by
  have h2 : ∀ x ∈ ts, x.length ≤ 65535 := fun x hx => of_decide_eq_true (List.all_eq_true.1 h x hx)
  unfold texts
  rw [if_neg (by simp only [List.length_append]; omega), Int.toNat_natCast, List.append_assoc, texts_back ts pre post h2]
theorem end_back (n m : Nat) (h : m ≤ n) : (endOf n ((m : Nat) : Int) == 0) = decide (n - m = 0) := by
  unfold endOf
  rw [if_neg (by omega)]
  by_cases h2 : (m : Int) < (n : Int)
  · rw [if_pos h2, decide_eq_false (by omega)]; rfl
  · rw [if_neg h2, decide_eq_true (by omega)]; rfl
theorem numErr_cases (W : Int) (ns : List Nat) : (numErr W ns = 1 ∧ numOk W ns = false) ∨ (numErr W ns = 0 ∧ numOk W ns = true) := by
  unfold numErr
  cases numOk W ns <;> simp
theorem textErr_cases (ts : List (List (BitVec 8))) : (textErr ts = 4 ∧ textOk ts = false) ∨ (textErr ts = 0 ∧ textOk ts = true) := by
  unfold textErr
  cases textOk ts <;> simp
theorem numOk_parts {W : Int} {ns : List Nat} (h : numOk W ns = true) : ∃ U : Nat, W = (U : Int) ∧ 1 ≤ U ∧ U ≤ 8 ∧ ∀ i, i < ns.length → fitsB U (nat ns i) = true := by
  unfold numOk at h
  simp only [Bool.and_eq_true, decide_eq_true_eq, Bool.not_eq_true'] at h
  obtain ⟨h1, h2, h3⟩ := h
  obtain ⟨U, rfl⟩ : ∃ U : Nat, W = (U : Int) := ⟨W.toNat, by omega⟩
  rw [Int.toNat_natCast] at h3
  refine ⟨U, rfl, by omega, by omega, fun i hi => ?_⟩
  cases hf : fitsB U (nat ns i) with
  | true => rfl
  | false => rw [overB_true hi hf] at h3; cases h3
theorem textOk_le {ts : List (List (BitVec 8))} (h : textOk ts = true) (h0 : ts.length ≤ 1048576) : (textsB ts).length ≤ 68721836032 := by
  have h2 : ∀ j, j < ts.length → (txt ts j).length ≤ 65535 := fun j hj => by
    have := List.all_eq_true.1 h (ts[j]) (List.getElem_mem hj)
    unfold txt
    rw [List.getD_eq_getElem?_getD, List.getElem?_eq_getElem hj, Option.getD_some]
    exact of_decide_eq_true this
  have := textsB_le ts ts.length (Nat.le_refl _) h2
  rw [List.take_length] at this
  have : 65537 * ts.length ≤ 65537 * 1048576 := Nat.mul_le_mul_left _ h0
  omega
set_option maxRecDepth 100000 in
set_option maxHeartbeats 4000000 in
theorem wireBack_any (vb vn vt vd : Value) (b : List (BitVec 8)) (W : Int) (ns : List Nat) (ts : List (List (BitVec 8))) (d : List (BitVec 8)) (w : World) (hb : Rd w vb (bv b)) (hn : Rd w vn (nv ns)) (hns : ∀ x ∈ ns, x < 18446744073709551616) (ht : RdAll w vt ts) (hd : Rd w vd (bv d)) (h0 : ts.length ≤ 1048576) :
    Calls Tryd.prog 17 #[vb, .int .i64 W, vn, vt, vd] w fun e w' => e = .returned (.bool true) ∧ Below w.heap.size w w' := by
  have HB := Lib.hid hb
  have HN := Lib.hid hn
  have HT := Lib.hid ht
  have H0 := Lib.hid h0
  have HNs := Lib.hid hns
  have HD := Lib.hid hd
  obtain ⟨ab, cb, rfl, -, -, -, -⟩ := hb
  obtain ⟨an, cn, rfl, -, -, -, -⟩ := hn
  obtain ⟨at_, ct, rfl, -⟩ := ht.shape
  obtain ⟨ad, cd, rfl, -, -, -, -⟩ := hd
  clear ht hns
  have HL := Lib.hid (live1_any w)
  go_enter Tryd.func17, Tryd.ntmps17
  go_wp2_with fail
  refine HL.out.mono ?_
  rintro e w1 ⟨rfl, hb1⟩
  have HB1 := Lib.hid (show Aft w w1 from hb1)
  clear hb1
  by_cases h1 : (500 : Int) < ((bv b).length : Nat)
  · go_wp2_with fail
    go_ret
    exact ⟨rfl, HB1.out⟩
  · by_cases h2 : (50 : Int) < ((nv ns).length : Nat)
    · go_wp2_with fail
      go_ret
      exact ⟨rfl, HB1.out⟩
    · go_wp2_with fail
      refine (few_any _ ts w1 (HT.out.below HB1.out) (by have := H0.out; omega)).mono ?_
      rintro e w1' ⟨rfl, rfl⟩
      by_cases hf : few ts
      · rw [decide_eq_true hf]
        by_cases h3 : (500 : Int) < ((bv d).length : Nat)
        · go_wp2_with fail
          go_ret
          exact ⟨rfl, HB1.out⟩
        · have HLb := Lib.hid (show b.length ≤ 500 by rw [bv_length] at h1; omega)
          have HLn := Lib.hid (show ns.length ≤ 50 by rw [nv_length] at h2; omega)
          have HLd := Lib.hid (show d.length ≤ 500 by rw [bv_length] at h3; omega)
          clear hf h0
          have HC1 := Lib.hid (num_any _ _ b W ns _ (HB.out.grow HB1.out) (HN.out.grow HB1.out) HNs.out (by have := HLb.out; omega) (by have := HLn.out; omega))
          unfold NumSays at HC1
          go_wp2_with fail
          clear h1 h2 h3
          refine HC1.out.mono ?_
          rintro e w2 ⟨a2, c2, rfl, ho2, hb2⟩
          have HA2 := Lib.hid (Aft.trans HB1.out hb2)
          have HR2 := Lib.hid (Rd.of_own ho2)
          clear ho2 hb2 HC1
          rcases numErr_cases W ns with ⟨he, hk⟩ | ⟨he, hk⟩
          · have hX : numB b W ns = [] := by unfold numB; rw [if_neg (by rw [hk]; decide)]
            rw [he, hX]
            clear he hk
            go_wp2_with fail
            go_ret
            exact ⟨rfl, HA2.out⟩
          · obtain ⟨U, rfl, hU1, hU8, hfit⟩ := numOk_parts hk
            have hX : numB b (U : Int) ns = b ++ numsB U ns := by unfold numB; rw [if_pos hk, Int.toNat_natCast]
            rw [hX] at HR2 ⊢
            rw [he]
            have HFit := Lib.hid hfit
            have HXl := Lib.hid (show (b ++ numsB U ns).length = b.length + U * ns.length by rw [List.length_append, numsB_length])
            have HXle := Lib.hid (show (b ++ numsB U ns).length ≤ 1000 by have := HLb.out; have := HLn.out; have : U * ns.length ≤ 8 * 50 := Nat.mul_le_mul hU8 HLn.out; rw [List.length_append, numsB_length]; omega)
            have HBack := Lib.hid (fun (rest : List (BitVec 8)) (i : Nat) (hi : i < ns.length) => num_back (b := b) (rest := rest) hi hU1 hU8 (hfit i hi))
            clear he hk hX hfit
            generalize b ++ numsB U ns = X at *
            have HC2 := Lib.hid (text_any _ _ X ts _ HR2.out (HT.out.below HA2.out) (by have := HXle.out; omega) (by have := H0.out; omega))
            unfold TextSays at HC2
            go_wp2_with fail
            refine HC2.out.mono ?_
            rintro e w3 ⟨a3, c3, rfl, ho3, hb3⟩
            have HA3 := Lib.hid (Aft.trans HA2.out (show Aft w2 w3 from hb3))
            have HO3 := Lib.hid ho3
            have HS2 := Lib.hid (Below.size (show Aft w2 w3 from hb3))
            have HAw2 := Lib.hid (Below.size HA2.out)
            clear ho3 hb3 HC2
            rcases textErr_cases ts with ⟨he, hk⟩ | ⟨he, hk⟩
            · rw [he]
              clear he hk
              go_wp2_with fail
              go_ret
              exact ⟨rfl, HA3.out⟩
            · have hY : textB X ts = X ++ textsB ts := by unfold textB; rw [if_pos hk]
              rw [hY] at HO3 ⊢
              rw [he]
              have HTle := Lib.hid (textOk_le hk H0.out)
              have HTB := Lib.hid (texts_back2 (pre := X) (post := d) hk)
              have HYl := Lib.hid (show (bv (X ++ textsB ts)).length ≤ 70000000000 by rw [bv_length, List.length_append]; have := HXle.out; have := HTle.out; omega)
              have HDl := Lib.hid (show (bv d).length ≤ 500 by rw [bv_length]; exact HLd.out)
              have HD3 := Lib.hid (HD.out.grow HA3.out)
              clear he hk hY
              go_wp2_with ((at_builtin; refine wpList_append_rd rfl _ _ 25 rfl w2.heap.size 5 (.int .u8 0) 1 Tryd.underlying25 info_byte rfl (.slice a3 (bv (X ++ textsB ts)).length c3) (.slice ad (bv d).length cd) (bv (X ++ textsB ts)) (bv d) rfl rfl HO3.out HD3.out (bv_one _) (by have := HYl.out; have := HDl.out; omega) (by have := HYl.out; have := HDl.out; omega) HS2.out ?_; intro v4 w4 k1 k2 k3; have HO4 := Lib.hid (show w4.ownsRow w2.heap.size 5 1 v4 (bv (X ++ textsB ts ++ d)).length (bv (X ++ textsB ts ++ d)) by rw [bv_append _ d]; exact k1); have HA4 := Lib.hid (show Aft w w4 from HA3.out.grown k2 (Below.size HA3.out) (fun g hg => by have := (own_lt HO3.out hg).1; have := HAw2.out; omega)); clear k1 k2 k3))
              have HZl := Lib.hid (show (X ++ textsB ts ++ d).length = X.length + (textsB ts).length + d.length by simp only [List.length_append])
              have HBk := Lib.hid (fun (i : Nat) (hi : i < ns.length) => by
                have h9 := HBack.out (textsB ts ++ d) i hi
                rw [← List.append_assoc] at h9
                exact h9)
              have HTb := Lib.hid HTB.out
              clear HTB HBack HYl HO3
              generalize X ++ textsB ts ++ d = Z at *
              generalize (textsB ts).length = T at *
              have HR4 := Lib.hid (Rd.of_own HO4.out)
              have ho4 := HO4.out
              obtain ⟨a4, c4, rfl⟩ := own_shape ho4
              have HZle := Lib.hid (show Z.length ≤ 1099511627776 by rw [HZl.out]; have := HXle.out; have := HTle.out; have := HLd.out; omega)
              clear ho4 HO4
              have hbl := bv_length b
              rw [hbl]
              go_loopw [15, 81] (fun v15 v81 wr => ∃ i : Nat, i ≤ ns.length ∧ v15 = .int .i64 ((b.length + U * i : Nat) : Int) ∧ v81 = .int .i64 i ∧ wr = w4) (fun _ v _ => ns.length - (intOf v).toNat)
              case atStart => exact ⟨0, by omega, by rw [Nat.mul_zero, Nat.add_zero], rfl, rfl⟩
              case round =>
                obtain ⟨i, hi, rfl, rfl, rfl⟩ := hrel
                clear hbl
                by_cases hlt : i < ns.length
                · have hlt' : (i : Int) < ((nv ns).length : Nat) := by rw [nv_length]; omega
                  have hi63 : (i : Int) + 1 ≤ 9223372036854775807 := by have := HLn.out; omega
                  obtain ⟨g, o, rfl, -, hca⟩ := HN.out.some_of (by rw [nv_length]; omega)
                  have hcell := (HN.out.grow HA4.out).nat_at hlt
                  have hT := takeNum_any _ Z ((b.length + U * i : Nat) : Int) (U : Int) wr HR4.out HZle.out
                  rw [HBk.out i hlt] at hT
                  unfold tnV at hT
                  have HTn := Lib.hid hT
                  have HP := Lib.hid (show ((b.length + U * (i + 1) : Nat) : Int) = ((b.length + U * i : Nat) : Int) + (U : Int) by rw [Nat.mul_succ]; omega)
                  have hPle : b.length + U * i ≤ 1000 := by have := HLb.out; have : U * i ≤ 8 * 50 := Nat.mul_le_mul hU8 (by have := HLn.out; omega); omega
                  clear hT
                  generalize b.length + U * i = P at *
                  generalize nat ns i = x at *
                  go_wp2_with fail
                  refine HTn.out.mono ?_
                  rintro e wx ⟨rfl, hx⟩
                  obtain rfl : wx = wr := hx
                  go_wp2_with fail
                  go_roundw
                  case rel => exact ⟨i + 1, by omega, by rw [HP.out], by go_num, trivial⟩
                  case measure => simp [intOf]; omega
                · obtain rfl : i = ns.length := by omega
                  have hlt' : ¬ ((ns.length : Nat) : Int) < ((nv ns).length : Nat) := by rw [nv_length]; omega
                  rw [← HXl.out]
                  have hT := texts_any _ Z ((X.length : Nat) : Int) ((ts.length : Nat) : Int) wr HR4.out HZle.out (by have := H0.out; omega)
                  rw [HTb.out] at hT
                  have HTx := Lib.hid hT
                  have hE : (((bv Z).length : Nat) : Int) - (((bv d).length : Nat) : Int) = ((X.length + T : Nat) : Int) := by rw [bv_length, bv_length, HZl.out]; omega
                  have HEnd := Lib.hid (show (endOf (bv Z).length ((X.length + T : Nat) : Int) == 0) = ((((bv d).length : Nat) : Int) == 0) by
                    rw [end_back _ _ (by rw [bv_length, HZl.out]; omega), bv_length, bv_length, HZl.out]
                    by_cases h : d.length = 0
                    · rw [h, decide_eq_true (by omega)]; rfl
                    · rw [decide_eq_false (by omega)]
                      exact (beq_eq_false_iff_ne.2 (by omega)).symm)
                  have hZ9 : (bv Z).length ≤ 1099511627776 := by rw [bv_length]; exact HZle.out
                  have hd9 : (bv d).length ≤ 500 := HDl.out
                  clear hT
                  generalize (bv Z).length = zl at *
                  generalize (bv d).length = dl at *
                  generalize X.length + T = q at *
                  go_wp2_with fail
                  refine HTx.out.mono ?_
                  rintro e w5 ⟨a5, c5, rfl, hr5, hb5⟩
                  have HR5 := Lib.hid hr5
                  have HA5 := Lib.hid (Aft.trans HA4.out (show Aft wr w5 from hb5))
                  clear hr5 hb5
                  go_wp2_with fail
                  refine (sameAll_any _ _ ts ts w5 HR5.out (HT.out.below HA5.out) (by have := H0.out; omega)).mono ?_
                  rintro e w6 ⟨rfl, hb6⟩
                  simp only [decide_true]
                  have HA6 := Lib.hid (Aft.trans HA5.out hb6)
                  clear hb6
                  go_wp2_with fail
                  refine (end_any _ _ _ _ _).mono ?_
                  rintro e w7 ⟨rfl, rfl⟩
                  go_wp2_with fail
                  go_ret
                  exact ⟨by simp [HEnd.out], HA6.out⟩
      · rw [decide_eq_false hf]
        go_wp2_with fail
        go_ret
        exact ⟨rfl, HB1.out⟩
end Go.Proofs.YtifehfcgmodmaaaDoor
