/- Few of the document of law 10. -/
import Derived.Test.YtpnckphfjcnooaaT11
namespace Go.Proofs.Ytpnckphfjcnooaa
open Go Go.RowKit
set_option linter.unusedSimpArgs false
def fewT (ids : List Int) (ls : List (List Int)) : Bool := decide ((∀ l ∈ ls, l.length ≤ 1100) ∧ ids.length ≤ 1100 ∧ ls.length ≤ 20)
theorem fewT_small {ids : List Int} {ls : List (List Int)} (h : fewT ids ls = true) : Small ids ls := by
  obtain ⟨h1, h2, h3⟩ := of_decide_eq_true h
  exact ⟨by omega, by omega, fun l hl => by have := h1 l hl; omega⟩
set_option maxRecDepth 100000 in
set_option maxHeartbeats 4000000 in
theorem tfew_any (vi vl : Value) (ids : List Int) (ls : List (List Int)) (w : World) (hi : Rd w vi (zv ids)) (hl : RdLs w vl ls) :
    Calls Try.prog 24 #[.agg (shpL vi vl).toArray] w fun e w' => e = .returned (.bool (fewT ids ls)) ∧ Aft w w' := by
  have HI := Lib.hid hi
  have HLs := Lib.hid hl
  obtain ⟨ao, cap, rfl, hc1, hc2⟩ := hi.numS
  obtain ⟨bo, dap, rfl, hd1⟩ := hl.shape
  obtain ⟨bq, hbq⟩ : ∃ bq, bq = fewT ids ls := ⟨_, rfl⟩
  have HB := Lib.hid hbq
  rw [← hbq]
  have HL := Lib.hid (Led.start w)
  clear hi hl hbq
  go_enter Try.func24, Try.ntmps24
  go_wp2_with (first | (refine wpList_boxO rfl 26 (.tmp 0) rfl (.agg (shpL (.slice ao ids.length cap) (.slice bo ls.length dap)).toArray) rfl (.cells (shpL (.slice ao ids.length cap) (.slice bo ls.length dap)).toArray 26) (box_shp _) ?_; intro w' aa gg zz; replace HL := Lib.hid (HL.out.alloc aa gg.out); clear aa gg zz; try simp only [List.nil_append, List.cons_append, List.set_cons_zero, List.set_cons_succ] at HL; have hA := shp_l (HL.out.get 0 rfl)))
  clear hA
  go_loopw [8] (fun v8 wr => ∃ i : Nat, i ≤ ls.length ∧ v8 = .int .i64 (i : Int) ∧ (∀ l ∈ ls.take i, l.length ≤ 1100) ∧ Led w wr [(w.heap.size, .cells (shpL (.slice ao ids.length cap) (.slice bo ls.length dap)).toArray 26)]) (fun v _ => ls.length - (intOf v).toNat)
  case atStart => exact ⟨0, by omega, rfl, fun l hl => by simp at hl, HL.out⟩
  case round =>
    clear HL
    obtain ⟨i, hi, rfl, hf, hL⟩ := hrel
    have HL := Lib.hid hL
    have HF := Lib.hid hf
    clear hL hf
    by_cases hlt : i < ls.length
    · have hlt' : (i : Int) < (ls.length : Nat) := by omega
      obtain ⟨b1, o1, c1, x, he, hcx, hrx⟩ := HLs.out.cell hlt
      injection he with he1 he2 he3
      subst he1 he3
      have hc := hcx _ HL.out.aft
      have HT := Lib.hid (show ls.take (i + 1) = ls.take i ++ [ls.getD i []] by
        rw [List.take_add_one, List.getD_eq_getElem?_getD, List.getElem?_eq_getElem hlt]
        rfl)
      have HM := Lib.hid (getD_mem hlt)
      obtain ⟨a1, c1, rfl, -, hq⟩ := hrx.numS
      generalize ls.getD i [] = l at *
      clear hcx hrx he2
      by_cases hb : (1100 : Int) < (l.length : Nat)
      · have HN := Lib.hid (show bq = false by
          rw [HB.out]
          exact decide_eq_false fun q => by have := q.1 l HM.out; omega)
        go_wp2_with fail
        go_ret
        exact ⟨by rw [HN.out]; rfl, HL.out.aft⟩
      · go_wp2_with fail
        go_roundw
        case rel =>
          refine ⟨i + 1, by omega, by go_num, fun y hy => ?_, HL.out⟩
          rw [HT.out] at hy
          rcases List.mem_append.1 hy with hy | hy
          · exact HF.out y hy
          · rw [List.mem_singleton.1 hy]
            omega
        case measure => simp [intOf]; omega
    · obtain rfl : i = ls.length := by omega
      have hlt' : ¬ ((ls.length : Nat) : Int) < (ls.length : Nat) := by omega
      rw [List.take_length] at HF
      have hA := shp_l (HL.out.get 0 rfl)
      have hB := shp_i (HL.out.get 0 rfl)
      have HN := Lib.hid (show bq = (decide ((ids.length : Int) ≤ 1100) && decide ((ls.length : Int) ≤ 20)) by
        rw [HB.out]
        unfold fewT
        rw [← Bool.decide_and]
        exact decide_eq_decide.2 ⟨fun q => ⟨by omega, by omega⟩, fun q => ⟨HF.out, by omega, by omega⟩⟩)
      obtain ⟨bz, hbz⟩ : ∃ bz, bz = (decide ((ids.length : Int) ≤ 1100) && decide ((ls.length : Int) ≤ 20)) := ⟨_, rfl⟩
      have HZ := Lib.hid (HN.out.trans hbz.symm)
      by_cases g1 : (ids.length : Int) ≤ 1100
      · by_cases g2 : (ls.length : Int) ≤ 20
        · have HZ2 := Lib.hid (show bq = true by rw [HN.out]; simp [g1, g2])
          clear hbz
          go_wp2_with fail
          go_ret
          exact ⟨by rw [HZ2.out]; rfl, HL.out.aft⟩
        · have HZ2 := Lib.hid (show bq = false by rw [HN.out]; simp [g2])
          clear hbz
          go_wp2_with fail
          go_ret
          exact ⟨by rw [HZ2.out]; rfl, HL.out.aft⟩
      · have HZ2 := Lib.hid (show bq = false by rw [HN.out]; simp [g1])
        clear hbz
        go_wp2_with fail
        go_ret
        exact ⟨by rw [HZ2.out]; rfl, HL.out.aft⟩
end Go.Proofs.Ytpnckphfjcnooaa
