/- coterielaw03.MacExpands: it answers true. -/
import Derived.Test.YtifehfcgmodmaaaDoorDerive
namespace Go.Proofs.YtifehfcgmodmaaaDoor
open Go Go.RowKit
theorem wpList_load_rowG {P : Program} {ops : Array Oper} {rest : List Oper} {o : Oper} {a : Act} {w : World} {Q : Exit → Act → World → Prop} (hw : Region.wanted o (yielded ops a.tmps) = true) (ty : TypeId) (x : Operand) (ho : o.op = .load ty x)
    (g : Nat) (hx : a.eval x = .pointer (some ⟨g, 0, none⟩)) (t : TypeId) (cs : Array Value) (fr : Nat × Nat) (d : TypeDesc) (hg : w.heap[g]? = some (.cells cs t fr))
    (hu : P.underlying ty = some d) (hd : (match d with | .struct _ | .array _ _ => true | _ => false) = true) (hi : (P.info? ty).map (·.size) = some cs.size)
    (h : wpList P ops Q rest (a.put o.dst (.agg cs)) w) : wpList P ops Q (o :: rest) a w := by
  unfold wpList
  rw [if_pos hw]
  exact .inl (wp_noOut (wp_load_row ty x ho g hx t cs fr d hg hu hd hi h))
theorem fewSum_ge : ∀ ts : List (List (BitVec 8)), (∀ x ∈ ts, x.length ≤ 65535) → (textsB ts).length = 2 * ts.length + fewSum ts
  | [], _ => rfl
  | t :: ts, h => by
    have ih := fewSum_ge ts (fun x hx => h x (by simp [hx]))
    have ht := h t (by simp)
    unfold textsB fewSum at ih ⊢
    rw [List.flatMap_cons, List.length_append, List.length_append, beL_length, ih, List.map_cons, List.sum_cons, List.length_cons, Nat.min_eq_left (by omega)]
    omega
theorem drv_len {L : List (BitVec 8)} {ctx : List (List (BitVec 8))} (hf : few ctx) (h : textOk (drvT L ctx) = true) : (textsB (drvT L ctx)).length ≤ 1048576 := by
  have h2 : ∀ x ∈ drvT L ctx, x.length ≤ 65535 := fun x hx => of_decide_eq_true (List.all_eq_true.1 h x hx)
  have hL := h2 L (by simp [drvT])
  rw [fewSum_ge _ h2]
  have e : fewSum (drvT L ctx) = 7 + min L.length 70000 + fewSum ctx := by
    unfold drvT fewSum
    rw [List.map_cons, List.map_cons, List.sum_cons, List.sum_cons]
    show 7 + _ = _
    omega
  have hl : (drvT L ctx).length = ctx.length + 2 := by simp [drvT]
  rw [e, hl]
  have := hf.1
  have := hf.2
  omega
set_option maxRecDepth 100000 in
set_option maxHeartbeats 4000000 in
theorem macExpands_any (k info : List (BitVec 8)) (vi : Value) (n : Int) (s : ByteArray) (vc : Value) (ctx : List (List (BitVec 8))) (w : World) (hK : TabK K0 1 w) (hK2 : TabK K0 0 w) (hk : k.length = 32) (hi : Rd w vi (bv info)) (hc : RdAll w vc ctx) (h0 : ctx.length ≤ 1048576) :
    Calls Tryd.prog 18 #[.agg (bv k).toArray, vi, .int .i64 n, .string s, vc] w fun e w' => e = .returned (.bool true) ∧ Below w.heap.size w w' := by
  have HK := Lib.hid hK
  have HK2 := Lib.hid hK2
  have HI := Lib.hid hi
  have HC := Lib.hid hc
  have HKl := Lib.hid hk
  have H0 := Lib.hid h0
  have hbk := box_key k
  obtain ⟨ai, ci, rfl, -, -, -, -⟩ := hi
  obtain ⟨ac, cc, rfl, -⟩ := hc.shape
  have HKb := Lib.hid (heap_alloc_new w (.cells (bv k).toArray 28))
  have HL := Lib.hid (live3_any (w.alloc (.cells (bv k).toArray 28)) (TabK_fr HK.out (Fr.of_below (S := fun _ => False) (show Below w.heap.size w _ from Aft.alloc w _)) (fun h => h)))
  clear hK hK2 hk hc
  go_enter Tryd.func18, Tryd.ntmps18
  go_wp2_with fail
  refine HL.out.mono ?_
  rintro e w1 ⟨rfl, hb1⟩
  have HB1 := Lib.hid (show Aft w w1 from Aft.trans (Aft.alloc w _) hb1)
  have HK1 := Lib.hid (Aft.get hb1 HKb.out)
  clear hb1
  by_cases h1 : (2000 : Int) < ((bv info).length : Nat)
  · go_wp2_with fail
    go_ret
    exact ⟨rfl, HB1.out⟩
  · go_wp2_with fail
    refine (few_any _ ctx w1 (HC.out.below HB1.out) (by have := H0.out; omega)).mono ?_
    rintro e w1' ⟨rfl, rfl⟩
    by_cases hf : few ctx
    · rw [decide_eq_true hf]
      by_cases h2 : (70000 : Int) < (s.size : Nat)
      · go_wp2_with fail
        go_ret
        exact ⟨rfl, HB1.out⟩
      · by_cases h3 : 2000 < n ∧ n ≤ 8160
        · obtain ⟨h3a, h3b⟩ := h3
          go_wp2_with fail
          go_ret
          exact ⟨rfl, HB1.out⟩
        · have HLi := Lib.hid (show info.length ≤ 2000 by rw [bv_length] at h1; omega)
          have HLs := Lib.hid (show s.size ≤ 70000 by omega)
          have HInf := Lib.hid (fun h => drv_len (L := sb s) hf h)
          have HD1 := Lib.hid (fun (wx : World) (h : Aft w wx) => derive_any k s _ ctx wx (TabK_fr HK.out (Fr.of_below (S := fun _ => False) h) (fun h => h)) HKl.out (HC.out.below h) (by have := HLs.out; omega) (by have := H0.out; omega) HInf.out)
          have HD2 := Lib.hid (fun (wx : World) (h : Aft w wx) => refDerive_any k s _ ctx wx (TabK_fr HK2.out (Fr.of_below (S := fun _ => False) h) (fun h => h)) HKl.out (HC.out.below h) (by have := HLs.out; omega) (by have := H0.out; omega) HInf.out)
          unfold DrvSays at HD1 HD2
          have HXL := Lib.hid (drvKey_length k (sb s) ctx)
          generalize drvKey k (sb s) ctx = X at *
          generalize textErr (drvT (sb s) ctx) = ex at *
          have HE : ∃ (q : Nat) (Y : List (BitVec 8)) (ey : Int), Hid (∀ (wx : World), Aft w wx → Calls Tryd.prog 42 #[.agg (bv k).toArray, .slice ai (bv info).length ci, .int .i64 n] wx fun e w' => ∃ ao cap, e = .returned (.tuple #[.slice ao q cap, .int .i64 ey]) ∧ Rd w' (.slice ao q cap) (bv Y) ∧ Aft wx w') ∧
              Hid (∀ (wx : World), Aft w wx → Calls Tryd.prog 57 #[.agg (bv k).toArray, .slice ai (bv info).length ci, .int .i64 n] wx fun e w' => ∃ ao cap, e = .returned (.tuple #[.slice ao q cap, .int .i64 ey]) ∧ Rd w' (.slice ao q cap) (bv Y) ∧ Aft wx w') := by
            by_cases hn : n < 0 ∨ 8160 < n
            · exact ⟨0, [], 1, fun wx _ => (expandBad_any k ai _ ci n wx hn).mono fun e w' ⟨he, hb⟩ => ⟨none, 0, he, Rd.nil _, hb⟩, fun wx _ => (refExpandBad_any k _ n wx hn).mono fun e w' ⟨he, hb⟩ => ⟨none, 0, he, Rd.nil _, hb⟩⟩
            · obtain ⟨q, rfl⟩ : ∃ q : Nat, n = (q : Int) := ⟨n.toNat, by omega⟩
              exact ⟨q, okm k info q, 0, fun wx h => expand2_any k info _ q wx (TabK_fr HK.out (Fr.of_below (S := fun _ => False) h) (fun h => h)) HKl.out (HI.out.grow h) (by have := HLi.out; omega) (by omega), fun wx h => refExpand_any k info _ q wx (TabK_fr HK2.out (Fr.of_below (S := fun _ => False) h) (fun h => h)) HKl.out (HI.out.grow h) (by have := HLi.out; omega) (by omega)⟩
          obtain ⟨q, Y, ey, HE1, HE2⟩ := HE
          clear h0 hf
          by_cases h4 : 2000 < n
          · have h5 : ¬ n ≤ 8160 := by omega
            go_wp2_with ((refine wpList_load_row rfl 28 (.tmp 5) rfl w.heap.size rfl 28 (bv k).toArray (0, 0) _ HK1.out Tryd.underlying28 rfl (key_info HKl.out) ?_))
            refine (HE1.out w1' HB1.out).mono ?_
            rintro e w2 ⟨a2, c2, rfl, hr2, hb2⟩
            have HA2 := Lib.hid (Aft.trans HB1.out hb2)
            have HR2 := Lib.hid hr2
            have HK2b := Lib.hid (Aft.get hb2 HK1.out)
            clear hr2 hb2
            go_wp2_with ((refine wpList_load_row rfl 28 (.tmp 5) rfl w.heap.size rfl 28 (bv k).toArray (0, 0) _ HK2b.out Tryd.underlying28 rfl (key_info HKl.out) ?_))
            refine (HE2.out w2 HA2.out).mono ?_
            rintro e w3 ⟨a3, c3, rfl, hr3, hb3⟩
            have HA23 := Lib.hid (show Aft w2 w3 from hb3)
            have HA3 := Lib.hid (Aft.trans HA2.out hb3)
            have HR3 := Lib.hid hr3
            have HK3 := Lib.hid (Aft.get hb3 HK2b.out)
            clear hr3 hb3
            go_wp2_with ((refine wpList_load_row rfl 28 (.tmp 5) rfl w.heap.size rfl 28 (bv k).toArray (0, 0) _ HK3.out Tryd.underlying28 rfl (key_info HKl.out) ?_))
            refine (HD1.out w3 HA3.out).mono ?_
            rintro e w4 ⟨rfl, hb4⟩
            have HA34 := Lib.hid (show Aft w3 w4 from hb4)
            have HA4 := Lib.hid (Aft.trans HA3.out HA34.out)
            have HZ4 := Lib.hid (heap_alloc_new w4 (.cells key0 28))
            clear hb4
            go_wp2_with (first
              | (refine wpList_store_keyX rfl (.tmp 16) (.tmp 64) rfl w4.heap.size X HXL.out rfl rfl HZ4.out ?_; intro w5 q2 q3; have h45 := (show Aft w4 w5 from q3 w4.heap.size w4 (Nat.le_refl _) (Aft.alloc _ _)); have HA45 := Lib.hid h45; have HA5 := Lib.hid (Aft.trans HA4.out h45); have HX5 := Lib.hid q2.out; have HK5 := Lib.hid (Aft.get h45 (Aft.get HA34.out HK3.out)); clear q2 q3 h45)
              | (refine wpList_load_row rfl 28 (.tmp 5) rfl w.heap.size rfl 28 (bv k).toArray (0, 0) _ HK5.out Tryd.underlying28 rfl (key_info HKl.out) ?_))
            refine (HD2.out w5 HA5.out).mono ?_
            rintro e w6 ⟨rfl, hb6⟩
            have HA56 := Lib.hid (show Aft w5 w6 from hb6)
            have HA6 := Lib.hid (Aft.trans HA5.out HA56.out)
            have HZ6 := Lib.hid (heap_alloc_new w6 (.cells key0 28))
            clear hb6
            go_wp2_with ((refine wpList_store_keyX rfl (.tmp 18) (.tmp 71) rfl w6.heap.size X HXL.out rfl rfl HZ6.out ?_; intro w7 q2 q3; have h67 := (show Aft w6 w7 from q3 w6.heap.size w6 (Nat.le_refl _) (Aft.alloc _ _)); have HA57 := Lib.hid (Aft.trans HA56.out h67); have HA7 := Lib.hid (Aft.trans HA6.out h67); have HX7 := Lib.hid (Aft.get (Aft.trans HA56.out h67) HX5.out); have HY7 := Lib.hid q2.out; clear q2 q3 h67))
            refine (same_any _ _ Y Y w7 (HR2.out.grow (Aft.trans HA23.out (Aft.trans HA34.out (Aft.trans HA45.out HA57.out)))) (HR3.out.grow (Aft.trans HA34.out (Aft.trans HA45.out HA57.out)))).mono ?_
            rintro e w8 ⟨rfl, hx⟩
            obtain rfl : w8 = w7 := hx
            simp only [decide_true]
            go_wp2_with (first
              | (refine wpList_load_rowG (by kernel_rfl) 28 (.tmp 16) rfl w4.heap.size rfl 28 (bv X).toArray (0, 0) _ HX7.out Tryd.underlying28 rfl (key_info HXL.out) ?_)
              | (refine wpList_load_rowG (by kernel_rfl) 28 (.tmp 18) rfl w6.heap.size rfl 28 (bv X).toArray (0, 0) _ HY7.out Tryd.underlying28 rfl (key_info HXL.out) ?_)
              | (refine wpList_binG (by kernel_rfl) .eql 28 28 (.tmp 85) (.tmp 86) rfl _ _ _ rfl rfl (run_eql_key X HXL.out) (guard_key _ _ _ _ _) ?_))
            go_ret
            exact ⟨by simp, HA7.out⟩
          · skip
            go_wp2_with ((refine wpList_load_row rfl 28 (.tmp 5) rfl w.heap.size rfl 28 (bv k).toArray (0, 0) _ HK1.out Tryd.underlying28 rfl (key_info HKl.out) ?_))
            refine (HE1.out w1' HB1.out).mono ?_
            rintro e w2 ⟨a2, c2, rfl, hr2, hb2⟩
            have HA2 := Lib.hid (Aft.trans HB1.out hb2)
            have HR2 := Lib.hid hr2
            have HK2b := Lib.hid (Aft.get hb2 HK1.out)
            clear hr2 hb2
            go_wp2_with ((refine wpList_load_row rfl 28 (.tmp 5) rfl w.heap.size rfl 28 (bv k).toArray (0, 0) _ HK2b.out Tryd.underlying28 rfl (key_info HKl.out) ?_))
            refine (HE2.out w2 HA2.out).mono ?_
            rintro e w3 ⟨a3, c3, rfl, hr3, hb3⟩
            have HA23 := Lib.hid (show Aft w2 w3 from hb3)
            have HA3 := Lib.hid (Aft.trans HA2.out hb3)
            have HR3 := Lib.hid hr3
            have HK3 := Lib.hid (Aft.get hb3 HK2b.out)
            clear hr3 hb3
            go_wp2_with ((refine wpList_load_row rfl 28 (.tmp 5) rfl w.heap.size rfl 28 (bv k).toArray (0, 0) _ HK3.out Tryd.underlying28 rfl (key_info HKl.out) ?_))
            refine (HD1.out w3 HA3.out).mono ?_
            rintro e w4 ⟨rfl, hb4⟩
            have HA34 := Lib.hid (show Aft w3 w4 from hb4)
            have HA4 := Lib.hid (Aft.trans HA3.out HA34.out)
            have HZ4 := Lib.hid (heap_alloc_new w4 (.cells key0 28))
            clear hb4
            go_wp2_with (first
              | (refine wpList_store_keyX rfl (.tmp 16) (.tmp 64) rfl w4.heap.size X HXL.out rfl rfl HZ4.out ?_; intro w5 q2 q3; have h45 := (show Aft w4 w5 from q3 w4.heap.size w4 (Nat.le_refl _) (Aft.alloc _ _)); have HA45 := Lib.hid h45; have HA5 := Lib.hid (Aft.trans HA4.out h45); have HX5 := Lib.hid q2.out; have HK5 := Lib.hid (Aft.get h45 (Aft.get HA34.out HK3.out)); clear q2 q3 h45)
              | (refine wpList_load_row rfl 28 (.tmp 5) rfl w.heap.size rfl 28 (bv k).toArray (0, 0) _ HK5.out Tryd.underlying28 rfl (key_info HKl.out) ?_))
            refine (HD2.out w5 HA5.out).mono ?_
            rintro e w6 ⟨rfl, hb6⟩
            have HA56 := Lib.hid (show Aft w5 w6 from hb6)
            have HA6 := Lib.hid (Aft.trans HA5.out HA56.out)
            have HZ6 := Lib.hid (heap_alloc_new w6 (.cells key0 28))
            clear hb6
            go_wp2_with ((refine wpList_store_keyX rfl (.tmp 18) (.tmp 71) rfl w6.heap.size X HXL.out rfl rfl HZ6.out ?_; intro w7 q2 q3; have h67 := (show Aft w6 w7 from q3 w6.heap.size w6 (Nat.le_refl _) (Aft.alloc _ _)); have HA57 := Lib.hid (Aft.trans HA56.out h67); have HA7 := Lib.hid (Aft.trans HA6.out h67); have HX7 := Lib.hid (Aft.get (Aft.trans HA56.out h67) HX5.out); have HY7 := Lib.hid q2.out; clear q2 q3 h67))
            refine (same_any _ _ Y Y w7 (HR2.out.grow (Aft.trans HA23.out (Aft.trans HA34.out (Aft.trans HA45.out HA57.out)))) (HR3.out.grow (Aft.trans HA34.out (Aft.trans HA45.out HA57.out)))).mono ?_
            rintro e w8 ⟨rfl, hx⟩
            obtain rfl : w8 = w7 := hx
            simp only [decide_true]
            go_wp2_with (first
              | (refine wpList_load_rowG (by kernel_rfl) 28 (.tmp 16) rfl w4.heap.size rfl 28 (bv X).toArray (0, 0) _ HX7.out Tryd.underlying28 rfl (key_info HXL.out) ?_)
              | (refine wpList_load_rowG (by kernel_rfl) 28 (.tmp 18) rfl w6.heap.size rfl 28 (bv X).toArray (0, 0) _ HY7.out Tryd.underlying28 rfl (key_info HXL.out) ?_)
              | (refine wpList_binG (by kernel_rfl) .eql 28 28 (.tmp 85) (.tmp 86) rfl _ _ _ rfl rfl (run_eql_key X HXL.out) (guard_key _ _ _ _ _) ?_))
            go_ret
            exact ⟨by simp, HA7.out⟩
    · rw [decide_eq_false hf]
      go_wp2_with fail
      go_ret
      exact ⟨rfl, HB1.out⟩
end Go.Proofs.YtifehfcgmodmaaaDoor
