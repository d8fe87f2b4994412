/- (*plan.maker).step, walked. -/
import Derived.Test.YtfgammcefaomeaaP2
import Derived.Test.YtfgammcefaomeaaB3
import Derived.Test.YtfgammcefaomeaaB2
namespace Go.Proofs.Ytfgammcefaomeaa
open Go Go.RowKit
set_option linter.unusedSimpArgs false
theorem nd_infoP (x : Nd) (kv : Value) : (Try.prog.info? 38).map (·.size) = some (ndR x kv).length := by kernel_rfl
/-- Whether the secret comes from a kid. -/
def ownB (B : List Nd) (ids keep : List Int) (by' : Int) (j : Nat) : Bool := if (B.getD j nd0).lv = 0 then decide (ids.getD (B.getD j nd0).ix.toNat 0 = by') else decide (keep.getD j 0 < 0)
/-- So that nothing is out of its bounds. -/
structure OwnOk (B : List Nd) (ids keep : List Int) (j : Nat) : Prop where
  lt : j < B.length
  leaf : (B.getD j nd0).lv = 0 → ∃ a : Nat, (B.getD j nd0).ix = (a : Int) ∧ a < ids.length
  kid : (B.getD j nd0).lv ≠ 0 → j < keep.length
set_option maxRecDepth 100000 in
set_option maxHeartbeats 4000000 in
theorem own1_any (pb mb lb : Nat) (va vb vi vk : Value) (by' : Int) (A B : List (Nd × Value)) (ids keep : List Int) (n : Nat) (f : Int → Option Int) (j : Nat) (w : World) (hM : MkW w mb lb va vb vi vk by' A B ids keep n f) (hp : w.heap[pb]? = some (.cells #[.pointer (some ⟨mb, 0, none⟩)] 70 (0, 0))) (ho : OwnOk (B.map Prod.fst) ids keep j) :
    Calls Try.prog 63 #[.int .i64 (j : Int), .pointer (some ⟨pb, 0, none⟩)] w fun e w' => e = .returned (.bool (ownB (B.map Prod.fst) ids keep by' j)) ∧ Aft w w' := by
  have hBl : (B.map Prod.fst).length = B.length := List.length_map ..
  have hf0 : (B.map Prod.fst).getD j nd0 = (B.getD j ndP).1 := fst_getD B j
  have hj : j < B.length := by have := ho.lt; rwa [hBl] at this
  have hleaf := ho.leaf
  have hkid := ho.kid
  obtain ⟨g, o, c4, rfl, hrg⟩ := hM.rB.rngP hj
  obtain ⟨ka, kc, hkv, -, -⟩ := (hM.rB.kid _ (ndP_mem hj)).numS
  have hrx := hrg w (Aft.refl w)
  have HOw := Lib.hid (show ownB (B.map Prod.fst) ids keep by' j = if (B.getD j ndP).1.lv = 0 then decide (ids.getD (B.getD j ndP).1.ix.toNat 0 = by') else decide (keep.getD j 0 < 0) by unfold ownB; rw [hf0])
  rw [hf0] at hleaf hkid
  rw [hkv] at hrx
  have hpc : w.cell? ⟨pb, 0, none⟩ = some (.pointer (some ⟨mb, 0, none⟩)) := by simp [World.cell?, hp]
  have m1 := (mk_cell hM.bx).2.1
  have hjb : j < 9223372036854775807 := by
    obtain ⟨_, _, h1, h2, h3⟩ := hM.rB.shape
    omega
  generalize (B.getD j ndP).1 = x at *
  have HRx := Lib.hid hrx
  have HM := Lib.hid hM
  have HP := Lib.hid hp
  have HL := Lib.hid (Led.start w)
  clear hrx hrg hkv hM hp ho hf0
  by_cases hz : x.lv = 0
  · obtain ⟨a, ha1, ha2⟩ := hleaf hz
    obtain ⟨ia, ic, rfl, -, -⟩ := HM.out.rI.numS
    obtain ⟨ig, io, rfl, -, -⟩ := HM.out.rI.some_of (by rw [zv_length]; omega)
    have HA := Lib.hid (HOw.out.trans (if_pos hz))
    rw [ha1, Int.toNat_natCast] at HA
    have hab : a < 9223372036854775807 := by have := rd_len HM.out.rI; omega
    clear hleaf hkid HOw
    go_enter Try.func63, Try.ntmps63
    go_wp2_with (first | (refine wpList_dstT 11 rfl ?_; refine wpList_load_mid2 (by kernel_rfl) 38 (.tmp 10) rfl _ _ rfl (ndR x (.slice ka x.ks.length kc)) HRx.out _ Try.underlying38 rfl (nd_infoP _ _) ?_) | (refine wpList_allocO rfl 38 rfl (.cells (ndR nd0 (.slice none 0 0)).toArray 38) alloc_nd ?_; intro wA aa gg zz; replace HL := Lib.hid (HL.out.alloc aa gg.out); clear aa gg zz; try simp only [List.nil_append, List.cons_append, List.set_cons_zero, List.set_cons_succ] at HL) | (refine wpList_store_rowZ rfl 38 (.tmp 4) (.tmp 11) rfl _ (ndR x (.slice ka x.ks.length kc)).toArray rfl rfl _ _ (HL.out.get 0 rfl) (nd_info _ _) rfl (all_one ndR_one) ?_; intro wB b1 b2 b3; replace HL := Lib.hid (HL.out.store 0 rfl b1 b2 b3); clear b1 b2 b3; try simp only [List.nil_append, List.cons_append, List.set_cons_zero, List.set_cons_succ] at HL; have d0 := cell_part (n := 0) (HL.out.get 0 rfl) rfl))
    have HMu := Lib.hid (HM.out.aft HL.out.aft)
    have HDr := Lib.hid (show Aft wB wB.drew from (Below.refl _ _).drew)
    have m3 := fun u : Later wB.heap.size wB => (mk_cell (HMu.out.aft u.h).bx).2.2.2.1
    have m5 := fun u : Later wB.heap.size wB => (mk_cell (HMu.out.aft u.h).bx).2.2.2.2.2
    have p0 := fun u : Later wB.heap.size wB => (show u.w.cell? ⟨pb, 0, none⟩ = some (.pointer (some ⟨mb, 0, none⟩)) by
      have := Aft.get (Aft.trans HL.out.aft u.h) HP.out
      simp [World.cell?, this])
    have x1 := fun u : Later wB.heap.size wB => (show u.w.cell? ⟨w.heap.size, 1, none⟩ = some (.int .i64 (a : Int)) by rw [← ha1]; exact cell_part (n := 1) (Aft.get u.h (HL.out.get 0 rfl)) rfl)
    have i1 := fun u : Later wB.heap.size wB => (HMu.out.aft u.h).rI.num_at ha2
    generalize ids.getD a 0 = z at *
    clear d0 m1 hpc
    go_wp2_with (first | (refine wp_region_lex (fun wz => ∃ u : Later wB.heap.size wB, wz = u.w) (fun i => ([] : List Nat).contains i) 14 (by kernel_rfl) (by kernel_rfl) ⟨⟨wB.drew, (Below.refl _ _).drew⟩, rfl⟩ ?_))
    change wpLx _ _ _ _ _ _ _ _ _ wB.drew
    try simp only [Act.put]
    repeat (first | (refine lx_skipT (by go_big_quiet_skip; exact wpQuiet_nil trivial) (by kernel_rfl) ?_; simp only [Act.put, List.setIfInBounds_toArray, List.set_cons_succ, List.set_cons_zero]) | (refine lx_quietT rfl (by go_big_quiet_want; exact quiet_false (by assumption)) (by kernel_rfl) rfl ?_; intro Kx hKx; go_big_quiet_op; go_big_quiet_on))
    refine lx_done ?_
    clear m3 m5 p0 x1 i1
    go_wp2_with fail
    go_ret
    exact ⟨by rw [HA.out]; first | rfl | simp, Aft.trans HL.out.aft HDr.out⟩
  · have hjk := hkid hz
    obtain ⟨ka2, kc2, rfl, -, -⟩ := HM.out.rK.numS
    obtain ⟨kg, ko, rfl, -, -⟩ := HM.out.rK.some_of (by rw [zv_length]; omega)
    have HA := Lib.hid (HOw.out.trans (if_neg hz))
    clear hleaf hkid HOw
    go_enter Try.func63, Try.ntmps63
    go_wp2_with (first | (refine wpList_dstT 11 rfl ?_; refine wpList_load_mid2 (by kernel_rfl) 38 (.tmp 10) rfl _ _ rfl (ndR x (.slice ka x.ks.length kc)) HRx.out _ Try.underlying38 rfl (nd_infoP _ _) ?_) | (refine wpList_allocO rfl 38 rfl (.cells (ndR nd0 (.slice none 0 0)).toArray 38) alloc_nd ?_; intro wA aa gg zz; replace HL := Lib.hid (HL.out.alloc aa gg.out); clear aa gg zz; try simp only [List.nil_append, List.cons_append, List.set_cons_zero, List.set_cons_succ] at HL) | (refine wpList_store_rowZ rfl 38 (.tmp 4) (.tmp 11) rfl _ (ndR x (.slice ka x.ks.length kc)).toArray rfl rfl _ _ (HL.out.get 0 rfl) (nd_info _ _) rfl (all_one ndR_one) ?_; intro wB b1 b2 b3; replace HL := Lib.hid (HL.out.store 0 rfl b1 b2 b3); clear b1 b2 b3; try simp only [List.nil_append, List.cons_append, List.set_cons_zero, List.set_cons_succ] at HL; have d0 := cell_part (n := 0) (HL.out.get 0 rfl) rfl; have hM2 := HM.out.aft HL.out.aft; have m4 := (mk_cell hM2.bx).2.2.2.2.1; have hk2 := hM2.rK.num_at hjk; have p2 := (show wB.cell? ⟨pb, 0, none⟩ = some (.pointer (some ⟨mb, 0, none⟩)) by (have := Aft.get HL.out.aft HP.out); simp [World.cell?, this])))
    go_ret
    exact ⟨by rw [HA.out]; simp [List.getD_eq_getElem?_getD, List.getElem?_eq_getElem hjk], HL.out.aft⟩
set_option maxRecDepth 100000 in
set_option maxHeartbeats 2000000 in
theorem ownX_any (pb mb lb : Nat) (va vb vi vk : Value) (by' : Int) (A B : List (Nd × Value)) (ids keep : List Int) (n : Nat) (f : Int → Option Int) (v : Value) (ks : List Int) (w : World) (hM : MkW w mb lb va vb vi vk by' A B ids keep n f) (hp : w.heap[pb]? = some (.cells #[.pointer (some ⟨mb, 0, none⟩)] 70 (0, 0))) (h : Rd w v (zv ks)) (hl : ks.length ≤ 3) (ho : ∀ k ∈ ks, ∃ j : Nat, k = (j : Int) ∧ OwnOk (B.map Prod.fst) ids keep j) :
    Calls Try.prog 64 #[v, .func (.func 63) #[] #[.pointer (some ⟨pb, 0, none⟩)]] w fun e w' => e = .returned (.int .i64 (fixI (fun k => ownB (B.map Prod.fst) ids keep by' k.toNat) ks)) ∧ Aft w w' := by
  obtain ⟨ao, cap, rfl, -, -⟩ := h.numS
  have HR := Lib.hid h
  have HC := Lib.hid (fun (i : Nat) (hi : i < ks.length) (wx : World) (ha : Aft w wx) => show ∃ j : Nat, ks.getD i 0 = (j : Int) ∧ Calls Try.prog 63 #[.int .i64 (j : Int), .pointer (some ⟨pb, 0, none⟩)] wx fun e w' => e = .returned (.bool (ownB (B.map Prod.fst) ids keep by' j)) ∧ Aft wx w' from by
    obtain ⟨j, h1, h2⟩ := ho _ (getD_memP hi)
    exact ⟨j, h1, own1_any pb mb lb va vb vi vk by' A B ids keep n f j wx (hM.aft ha) ((ha.block pb (heap_lt hp)).trans hp) h2⟩)
  have HX := Lib.hid (fun (i : Nat) (hi : i < ks.length) (q : (fun k : Int => ownB (B.map Prod.fst) ids keep by' k.toNat) (ks.getD i 0) = true) (hn : ∀ j, j < i → (fun k : Int => ownB (B.map Prod.fst) ids keep by' k.toNat) (ks.getD j 0) = false) => fixI_hit (p := fun k => ownB (B.map Prod.fst) ids keep by' k.toNat) hi q hn)
  clear h hM hp ho
  generalize hpp : (fun k : Int => ownB (B.map Prod.fst) ids keep by' k.toNat) = pp at *
  have HPp := Lib.hid (fun j : Nat => show ownB (B.map Prod.fst) ids keep by' j = pp (j : Int) by rw [← hpp]; simp)
  clear hpp
  go_enter Try.func64, Try.ntmps64
  go_wp2_with fail
  go_loopw [8] (fun v8 wr => ∃ i : Nat, i ≤ ks.length ∧ v8 = .int .i64 (i : Int) ∧ (∀ j, j < i → pp (ks.getD j 0) = false) ∧ Aft w wr) (fun v _ => ks.length - (intOf v).toNat)
  case atStart => exact ⟨0, by omega, rfl, fun j hj => absurd hj (Nat.not_lt_zero _), Aft.refl _⟩
  case round =>
    obtain ⟨i, hi, rfl, hne, hA⟩ := hrel
    have HN := Lib.hid hne
    have HA := Lib.hid hA
    clear hne hA
    by_cases hlt : i < ks.length
    · have hlt' : (i : Int) < (ks.length : Nat) := by omega
      obtain ⟨g, o, rfl, -, -⟩ := (HR.out.grow HA.out).some_of (by rw [zv_length]; omega)
      have hc := (HR.out.grow HA.out).num_at hlt
      obtain ⟨j, hj, hC⟩ := HC.out i hlt wr HA.out
      rw [HPp.out] at hC
      have HCj := Lib.hid hC
      have HX1 := Lib.hid (fun q => HX.out i hlt q HN.out)
      have HX2 := Lib.hid (show pp (ks.getD i 0) = false → ∀ j, j < i + 1 → pp (ks.getD j 0) = false from fun q j hj => by
        by_cases e : j = i
        · subst e; exact q
        · exact HN.out j (by omega))
      rw [hj] at hc HX1 HX2
      clear hC hj
      go_wp2_with fail
      refine HCj.out.mono ?_
      rintro e w2 ⟨rfl, h2⟩
      replace HA := Lib.hid (Aft.trans HA.out h2)
      clear h2 HCj
      cases hq : pp (j : Int) with
      | true =>
        have HI := Lib.hid (HX1.out hq)
        clear hq
        go_wp2_with fail
        go_ret
        exact ⟨by rw [HI.out]; rfl, HA.out⟩
      | false =>
        have HI := Lib.hid (HX2.out hq)
        clear hq
        go_wp2_with fail
        go_roundw
        case rel => exact ⟨i + 1, by omega, by go_num, HI.out, HA.out⟩
        case measure => simp [intOf]; omega
    · obtain rfl : i = ks.length := by omega
      have hlt' : ¬ ((ks.length : Nat) : Int) < (ks.length : Nat) := by omega
      have HI := Lib.hid (fixI_miss HN.out)
      go_wp2_with fail
      go_ret
      exact ⟨by rw [HI.out]; rfl, HA.out⟩
end Go.Proofs.Ytfgammcefaomeaa
