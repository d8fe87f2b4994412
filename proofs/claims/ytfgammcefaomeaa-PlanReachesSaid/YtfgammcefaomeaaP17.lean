/- Small laws for PlanBound, PlanReaches and PlanKeeps. -/
import Derived.Test.YtfgammcefaomeaaP16
namespace Go.Proofs.Ytfgammcefaomeaa
open Go Go.RowKit
set_option linter.unusedSimpArgs false
theorem ok_wf {ids : List Int} {ls : List (List Int)} (h : OkT ids ls) : ∀ x ∈ ids, (Lit.int .i64 x).wf = true := fun x hx => by
  have := h.1.2.1 x hx
  exact wf_int (by omega) (by omega)
theorem idx_ofP (z : Int) (L : Nat) (h : 0 < L) (h2 : L ≤ 2000) : ∃ k : Nat, k < L ∧ (wrap64 (z.tmod (L : Int) + (L : Int))).tmod (L : Int) = (k : Int) := by
  have hL : (0 : Int) < (L : Int) := by omega
  have h3 := Int.tmod_lt_of_pos z hL
  have h4 := Int.lt_tmod_of_pos z hL
  rw [IntWalk.wrap64_in _ ⟨by omega, by omega⟩]
  have h5 := Int.tmod_lt_of_pos (z.tmod (L : Int) + (L : Int)) hL
  have h6 := Int.tmod_nonneg (L : Int) (show 0 ≤ z.tmod (L : Int) + (L : Int) by omega)
  exact ⟨((z.tmod (L : Int) + (L : Int)).tmod (L : Int)).toNat, by omega, by omega⟩
theorem TrN.mono {w : World} {base base' : Nat} {vi vl vt : Value} {ids : List Int} {ls : List (List Int)} (h : TrN w base vi vl ids ls vt) (hb : base' ≤ base) : TrN w base' vi vl ids ls vt := by
  obtain ⟨vs, h1, h2, h3⟩ := h
  exact ⟨vs, h1.mono hb, h2, h3⟩
theorem aft_grown {w0 w w' : World} {b : Nat} (ha : Aft w0 w) (hb : w0.heap.size ≤ b) (hg : w.grownBy w' (some b)) : Aft w0 w' := by
  have hf : Fr (fun k => some b = some k) w w' := Fr.of_grown hg fun k hk => hk
  exact ⟨hf.os.trans ha.os, hf.tape.trans ha.tape, hf.output.trans ha.output, Nat.le_trans ha.size hf.size, fun k hk => (hf.block k (Nat.lt_of_lt_of_le hk ha.size) fun q => by
    have := Option.some.inj q
    omega).trans (ha.block k hk)⟩
end Go.Proofs.Ytfgammcefaomeaa
