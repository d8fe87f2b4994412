/- coterielaw14.live. -/
import Derived.Test.YtanodhagpegbfaaDoorNext
import Derived.Test.YtanodhagpegbfaaDoorDraw2
namespace Go.Proofs.YtanodhagpegbfaaDoor
open Go Go.RowKit
set_option maxRecDepth 100000 in
theorem run_neq_keys {X Y : List (BitVec 8)} (hX : X.length = 32) (hY : Y.length = 32) (b : Bool) (hb : decide (X = Y) = b) (w : World) : (Go.binOp .neq 23 (.agg (bv X).toArray) (.agg (bv Y).toArray)).run Tryd.prog w = .ok (.bool (!b)) w := by
  rw [run_neq_struct, run_eq_keyD 9998 hX hY, ← hb]
  rfl
set_option maxRecDepth 100000 in
theorem run_eql_keys {X Y : List (BitVec 8)} (hX : X.length = 32) (hY : Y.length = 32) (b : Bool) (hb : decide (X = Y) = b) (w : World) : (Go.binOp .eql 23 (.agg (bv X).toArray) (.agg (bv Y).toArray)).run Tryd.prog w = .ok (.bool b) w := by
  rw [run_eql_struct, run_eq_keyD 9998 hX hY, ← hb]
  rfl
def oneK (b : BitVec 8) : List (BitVec 8) := b :: List.replicate 31 0
def textS : List (BitVec 8) := [116, 101, 120, 116]
def liveE : Epo := nxtE zE (oneK 1) (oneK 2) textS
theorem oneK_length (b : BitVec 8) : (oneK b).length = 32 := rfl
set_option maxRecDepth 100000 in
theorem liveE_n : liveE.N = 1 ∧ decide (liveE.I = List.replicate 32 0) = false ∧ decide (liveE.I = liveE.A) = false ∧ nxtF zE textS = 0 := by decide +kernel
theorem build_one1 (w : World) : (Instr.build 23 #[(0, .int .u8 1)]).run Tryd.prog w = .ok (.agg (bv (oneK 1)).toArray) w := by kernel_rfl
theorem build_one2 (w : World) : (Instr.build 23 #[(0, .int .u8 2)]).run Tryd.prog w = .ok (.agg (bv (oneK 2)).toArray) w := by kernel_rfl
set_option maxRecDepth 100000 in
set_option maxHeartbeats 2000000 in
theorem live14_any (w : World) (hK : TabK K0 2 w) : Calls Tryd.prog 36 #[] w fun e w' => e = .returned (.bool true) ∧ Aft w w' := by
  have HK := Lib.hid hK
  have hcv := fun (w : World) (C : Array Value) (n c : Nat) => Lib.run_convert_bytes_const (P := Tryd.prog) w 24 5 C n c Tryd.underlying24 Tryd.underlying5
  have HN := Lib.hid (show ∀ (wx : World) (vx : Value), Aft w wx → Rd wx vx (bv textS) → Calls Tryd.prog 37 #[.agg (epoL zE).toArray, .agg (bv (oneK 1)).toArray, .agg (bv (oneK 2)).toArray, vx] wx fun r w' => r = .returned (.tuple #[.agg (epoL liveE).toArray, .int .i64 0]) ∧ Aft wx w' from fun wx vx h hr => by
    have := nextE_any zE (oneK 1) (oneK 2) vx textS wx (TabK_fr HK.out (Fr.of_below (S := fun _ => False) h) (fun h => h)) zE_ok rfl rfl hr
    rw [liveE_n.2.2.2] at this
    exact this)
  have HO := Lib.hid (show liveE.Ok from nxtE_ok _ _ _ _)
  have h1 := liveE_n.1
  have H2 := Lib.hid liveE_n.2.1
  have H3 := Lib.hid liveE_n.2.2.1
  generalize liveE = E at *
  have HE1 := Lib.hid (show (E.N : Int) = 1 by rw [h1]; rfl)
  have HL := Lib.hid (Led.start w)
  clear hK h1
  go_enter Tryd.func36, Tryd.ntmps36
  go_wp2_with (first | (refine wpList_buildO (by kernel_rfl) 55 #[] rfl #[] (by kernel_rfl) _ (build_epoch0) ?_) | (refine wpList_buildO (by kernel_rfl) 23 #[(0, .const (.int .u8 1))] rfl #[(0, .int .u8 1)] (by kernel_rfl) _ (build_one1) ?_) | (refine wpList_buildO (by kernel_rfl) 23 #[(0, .const (.int .u8 2))] rfl #[(0, .int .u8 2)] (by kernel_rfl) _ (build_one2) ?_))
  refine (HN.out _ _ (Aft.alloc w _) (Rd.litF w (bv textS) _ _ (by decide))).mono ?_
  rintro e w2 ⟨rfl, h2⟩
  replace HL := Lib.hid (HL.out.call (Aft.trans (Aft.alloc w _) h2))
  clear h2 hcv
  go_wp2_with (first | (refine wpList_allocO rfl 55 rfl (.cells (epoL zE).toArray 55) alloc_epoch ?_; intro w' aa gg zz; replace HL := Lib.hid (HL.out.alloc aa gg.out); clear aa gg zz) | (refine wpList_store_epoZ rfl (.tmp 1) (.tmp 10) rfl _ E HO.out rfl rfl _ (HL.out.get 0 rfl) (zE_ok) ?_; intro w' b1 b2 b3; replace HL := Lib.hid (HL.out.store 0 rfl b1 b2 b3); clear b1 b2 b3; have hn := epo_n (HL.out.get 0 rfl); rw [HE1.out] at hn) | (refine wpList_load_keyG (by kernel_rfl) (.tmp 20) rfl _ _ rfl E.I (epo_I (HL.out.get 0 rfl) HO.out) HO.out.I ?_) | (refine wpList_load_keyG (by kernel_rfl) (.tmp 26) rfl _ _ rfl E.I (epo_I (HL.out.get 0 rfl) HO.out) HO.out.I ?_) | (refine wpList_load_keyG (by kernel_rfl) (.tmp 28) rfl _ _ rfl E.A (epo_A (HL.out.get 0 rfl) HO.out) HO.out.A ?_) | (refine wpList_load_keyG (by kernel_rfl) (.tmp 27) rfl _ _ rfl E.I (epo_I (HL.out.get 0 rfl) HO.out) HO.out.I ?_) | (refine wpList_binG (by kernel_rfl) .neq 23 23 (.tmp 21) (.tmp 22) rfl (.agg (bv E.I).toArray) (.agg key0) _ rfl rfl (run_neq_zero HO.out.I _ H2.out) (guard_key _ _ _ _ _) ?_) | (refine wpList_binG (by kernel_rfl) .neq 23 23 (.tmp 27) (.tmp 29) rfl (.agg (bv E.I).toArray) (.agg (bv E.A).toArray) _ rfl rfl (run_neq_keys HO.out.I HO.out.A _ H3.out) (guard_key _ _ _ _ _) ?_))
  go_ret
  exact ⟨rfl, HL.out.aft⟩
end Go.Proofs.YtanodhagpegbfaaDoor
