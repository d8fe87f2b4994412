/- near of law 10. -/
import Derived.Test.YtpnckphfjcnooaaT13
namespace Go.Proofs.Ytpnckphfjcnooaa
open Go Go.RowKit
set_option linter.unusedSimpArgs false
theorem wpList_dstT {P : Program} {ops : Array Oper} {rest : List Oper} {o : Oper} {a : Act} {w : World} {Q : Exit → Act → World → Prop} (n : Nat) (_ : o.dst = some n) (k : wpList P ops Q (o :: rest) a w) : wpList P ops Q (o :: rest) a w := k
set_option maxRecDepth 100000 in
set_option maxHeartbeats 4000000 in
theorem near_any (vi vl ui ul : Value) (ids ids' : List Int) (ls ms : List (List Int)) (w : World) (hi : Rd w vi (zv ids)) (hl : RdLs w vl ls) (hi' : Rd w ui (zv ids')) (hl' : RdLs w ul ms) (hs : Small ids ls) (hs' : Small ids' ms) :
    Calls Try.prog 42 #[.agg (shpL vi vl).toArray, .agg (shpL ui ul).toArray] w fun e w' => e = .returned (.bool (nearT ls ms)) ∧ Aft w w' := by
  have HX := Lib.hid hl
  have HY := Lib.hid hl'
  have HS := Lib.hid hs
  have HS2 := Lib.hid hs'
  have hf1 := hs.fl
  have hf2 := hs'.fl
  obtain ⟨ao, cap, rfl, -, -⟩ := hi.numS
  obtain ⟨bo, dap, rfl, -⟩ := hl.shape
  obtain ⟨a1, cap1, rfl, -, -⟩ := hi'.numS
  obtain ⟨b1, dap1, rfl, -⟩ := hl'.shape
  obtain ⟨bq, hbq⟩ : ∃ bq, bq = nearT ls ms := ⟨_, rfl⟩
  have HB := Lib.hid hbq
  rw [← hbq]
  have HL := Lib.hid (Led.start w)
  clear hi hl hs hi' hl' hs' hbq
  go_enter Try.func42, Try.ntmps42
  have HN := Lib.hid (show ms.length < ls.length ∨ ls.length + 1 < ms.length → bq = false from fun q => by rw [HB.out]; exact decide_eq_false fun q => by omega)
  go_wp2_with (first | (refine wpList_dstT 2 rfl ?_; (refine wpList_boxO rfl 26 (.tmp 0) rfl (.agg (shpL (.slice ao ids.length cap) (.slice bo ls.length dap)).toArray) rfl (.cells (shpL (.slice ao ids.length cap) (.slice bo ls.length dap)).toArray 26) (box_shp _) ?_; intro wB aa gg zz; replace HL := Lib.hid (HL.out.alloc aa gg.out); clear aa gg zz; try simp only [List.nil_append, List.cons_append, List.set_cons_zero, List.set_cons_succ] at HL)) | (refine wpList_dstT 3 rfl ?_; (refine wpList_boxO rfl 26 (.tmp 1) rfl (.agg (shpL (.slice a1 ids'.length cap1) (.slice b1 ms.length dap1)).toArray) rfl (.cells (shpL (.slice a1 ids'.length cap1) (.slice b1 ms.length dap1)).toArray 26) (box_shp _) ?_; intro w' aa gg zz; replace HL := Lib.hid (HL.out.alloc aa gg.out); clear aa gg zz; try simp only [List.nil_append, List.cons_append, List.set_cons_zero, List.set_cons_succ] at HL; have hA := shp_l (HL.out.get 0 rfl); have hB := shp_l (HL.out.get 1 rfl))))
  all_goals first | (go_ret; exact ⟨by rw [HN.out (by omega)]; rfl, HL.out.aft⟩) | skip
  have g1 : ¬ (ms.length : Int) < (ls.length : Nat) := by omega
  have g2 : ¬ (ls.length : Int) + 1 < (ms.length : Nat) := by omega
  rw [show decide (ms.length < ls.length) = false from decide_eq_false (by omega), decide_eq_false g2]
  rw [show (false || false) = false from rfl]
  clear hA hB
  go_loopw [27] (fun v27 wr => ∃ i : Nat, i ≤ ls.length ∧ v27 = .int .i64 (i : Int) ∧ (∀ j, j < i → (ls.getD j []).length ≤ (ms.getD j []).length ∧ (ms.getD j []).length ≤ (ls.getD j []).length + 1) ∧ Led w wr [(w.heap.size, .cells (shpL (.slice ao ids.length cap) (.slice bo ls.length dap)).toArray 26), (wB.heap.size, .cells (shpL (.slice a1 ids'.length cap1) (.slice b1 ms.length dap1)).toArray 26)]) (fun v _ => ls.length - (intOf v).toNat)
  case atStart => exact ⟨0, by omega, rfl, fun j hj => absurd hj (Nat.not_lt_zero _), HL.out⟩
  case round =>
    clear HL
    obtain ⟨i, hi, rfl, hf, hL⟩ := hrel
    have HL := Lib.hid hL
    have HF := Lib.hid hf
    clear hL hf
    by_cases hlt : i < ls.length
    · have hlt' : (i : Int) < (ls.length : Nat) := by omega
      have hylt : i < ms.length := by omega
      obtain ⟨p1, o1, c1, x, he, hcx, hrx⟩ := HX.out.cell hlt
      injection he with he1 he2 he3
      subst he1 he3
      obtain ⟨p2, o2, c2, y, he, hcy, hry⟩ := HY.out.cell hylt
      injection he with he1 he4 he3
      subst he1 he3
      have hc1 := hcx _ HL.out.aft
      have hc2 := hcy _ HL.out.aft
      have hB := shp_l (HL.out.get 1 rfl)
      obtain ⟨q1, r1, rfl, -, -⟩ := hrx.numS
      obtain ⟨q2, r2, rfl, -, -⟩ := hry.numS
      have hl1 := HS.out.fv _ (getD_mem hlt)
      have hl2 := HS2.out.fv _ (getD_mem hylt)
      have HAt := Lib.hid (fun (q : nearT ls ms = true) => (of_decide_eq_true q).2.2 i hlt)
      have HSt := Lib.hid (fun (q : (ls.getD i []).length ≤ (ms.getD i []).length ∧ (ms.getD i []).length ≤ (ls.getD i []).length + 1) (j : Nat) (hj : j < i + 1) => show (ls.getD j []).length ≤ (ms.getD j []).length ∧ (ms.getD j []).length ≤ (ls.getD j []).length + 1 from by
        by_cases e : j = i
        · rw [e]; exact q
        · exact HF.out j (by omega))
      generalize ls.getD i [] = l at *
      generalize ms.getD i [] = m at *
      clear hcx hrx hcy hry he2 he4
      have HN2 := Lib.hid (show m.length < l.length ∨ l.length + 1 < m.length → bq = false from fun q => by
        rw [HB.out]
        exact Bool.eq_false_iff.2 fun q2 => by have := HAt.out q2; omega)
      go_wp2_with fail
      all_goals first | (go_ret; exact ⟨by rw [HN2.out (by omega)]; rfl, HL.out.aft⟩) | skip
      have HQ := Lib.hid (HSt.out ⟨by omega, by omega⟩)
      go_roundw
      case rel => exact ⟨i + 1, by omega, by go_num, HQ.out, HL.out⟩
      case measure => simp [intOf]; omega
    · obtain rfl : i = ls.length := by omega
      have hlt' : ¬ ((ls.length : Nat) : Int) < (ls.length : Nat) := by omega
      have HN := Lib.hid (show bq = true by
        rw [HB.out]
        exact decide_eq_true ⟨by omega, by omega, HF.out⟩)
      go_wp2_with fail
      go_ret
      exact ⟨by rw [HN.out]; rfl, HL.out.aft⟩
end Go.Proofs.Ytpnckphfjcnooaa
