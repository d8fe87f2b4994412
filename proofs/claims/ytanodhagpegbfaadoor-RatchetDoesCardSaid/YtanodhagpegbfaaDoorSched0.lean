/- sched.Check, and the document's; the secrets behind an epoch. -/
import Derived.Test.YtanodhagpegbfaaDoorEpo
namespace Go.Proofs.YtanodhagpegbfaaDoor
open Go Go.RowKit
def epChk (N : Nat) : Int := if N ≤ 1099511627776 then 0 else 1
def jnK (e : Epo) (c : List (BitVec 8)) : List (BitVec 8) := if e.N ≤ 1099511627776 then macOf K0 e.I c else List.replicate 32 0
def tgK (e : Epo) : List (BitVec 8) := if e.N ≤ 1099511627776 then macOf K0 e.C e.H else List.replicate 32 0
def hsK (e : Epo) (t : List (BitVec 8)) : List (BitVec 8) := if e.N ≤ 1099511627776 ∧ t.length ≤ 1048576 then digest K0 (e.H ++ digest K0 t) else List.replicate 32 0
def hsE (e : Epo) (t : List (BitVec 8)) : Int := if 1099511627776 < e.N then 1 else if 1048576 < t.length then 4 else 0
theorem run_sliceAt_keyN (w : World) (b n : Nat) : (Instr.sliceAt 23 (.pointer (some ⟨b, n, none⟩)) none none none).run Tryd.prog w = .ok (.slice (some ⟨b, n, none⟩) 32 32) w := by kernel_rfl
set_option maxRecDepth 100000 in
theorem schedCheck_any (e : Epo) (w : World) : Calls Tryd.prog 47 #[.agg (epoL e).toArray] w fun r w' => r = .returned (.int .i64 (epChk e.N)) ∧ Aft w w' := by
  have HL := Lib.hid (Led.start w)
  go_enter Tryd.func47, Tryd.ntmps47
  by_cases h : e.N ≤ 1099511627776
  · have h1 : ¬ (1099511627776 : Int) < (e.N : Int) := by omega
    have HQ := Lib.hid (show epChk e.N = 0 from if_pos h)
    clear h
    go_wp2_with (first | (refine wpList_boxO rfl 55 (.tmp 0) rfl (.agg (epoL e).toArray) rfl (.cells (epoL e).toArray 55) (box_epoch _) ?_; intro w' aa gg zz; replace HL := Lib.hid (HL.out.alloc aa gg.out); have hc := epo_n gg.out; clear aa gg zz))
    go_ret
    exact ⟨by rw [HQ.out]; rfl, HL.out.aft⟩
  · have h1 : (1099511627776 : Int) < (e.N : Int) := by omega
    have HQ := Lib.hid (show epChk e.N = 1 from if_neg h)
    clear h
    go_wp2_with (first | (refine wpList_boxO rfl 55 (.tmp 0) rfl (.agg (epoL e).toArray) rfl (.cells (epoL e).toArray 55) (box_epoch _) ?_; intro w' aa gg zz; replace HL := Lib.hid (HL.out.alloc aa gg.out); have hc := epo_n gg.out; clear aa gg zz))
    go_ret
    exact ⟨by rw [HQ.out]; rfl, HL.out.aft⟩
set_option maxRecDepth 100000 in
theorem refSchedCheck_any (e : Epo) (w : World) : Calls Tryd.prog 48 #[.agg (epoL e).toArray] w fun r w' => r = .returned (.int .i64 (epChk e.N)) ∧ Aft w w' := by
  have HL := Lib.hid (Led.start w)
  go_enter Tryd.func48, Tryd.ntmps48
  by_cases h : e.N ≤ 1099511627776
  · have h1 : ¬ (1099511627776 : Int) < (e.N : Int) := by omega
    have HQ := Lib.hid (show epChk e.N = 0 from if_pos h)
    clear h
    go_wp2_with (first | (refine wpList_boxO rfl 55 (.tmp 0) rfl (.agg (epoL e).toArray) rfl (.cells (epoL e).toArray 55) (box_epoch _) ?_; intro w' aa gg zz; replace HL := Lib.hid (HL.out.alloc aa gg.out); have hc := epo_n gg.out; clear aa gg zz))
    go_ret
    exact ⟨by rw [HQ.out]; rfl, HL.out.aft⟩
  · have h1 : (1099511627776 : Int) < (e.N : Int) := by omega
    have HQ := Lib.hid (show epChk e.N = 1 from if_neg h)
    clear h
    go_wp2_with (first | (refine wpList_boxO rfl 55 (.tmp 0) rfl (.agg (epoL e).toArray) rfl (.cells (epoL e).toArray 55) (box_epoch _) ?_; intro w' aa gg zz; replace HL := Lib.hid (HL.out.alloc aa gg.out); have hc := epo_n gg.out; clear aa gg zz))
    go_ret
    exact ⟨by rw [HQ.out]; rfl, HL.out.aft⟩
end Go.Proofs.YtanodhagpegbfaaDoor
