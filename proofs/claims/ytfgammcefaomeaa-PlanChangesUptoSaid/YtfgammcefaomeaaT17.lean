/- tree.Path and tree.Spans. -/
import Derived.Test.YtfgammcefaomeaaB3
namespace Go.Proofs.Ytfgammcefaomeaa
open Go Go.RowKit
set_option linter.unusedSimpArgs false
theorem idn_succ (i : Nat) : (List.range (i + 1)).map (fun i : Nat => (i : Int)) = (List.range i).map (fun i : Nat => (i : Int)) ++ [(i : Int)] := by
  rw [List.range_succ, List.map_append]
  rfl
def idn (i : Nat) : List Int := (List.range i).map (fun i : Nat => (i : Int))
theorem idn_length (i : Nat) : (idn i).length = i := by simp [idn]
theorem spF_snoc {l f : List Int} {j : Nat} (hj : j < l.length) : (spF l f).take (j + 1 + 1) = (spF l f).take (j + 1) ++ [f.getD (frm l (j + 1)).toNat 0] := by
  rw [List.take_succ_eq_append_getElem (by rw [spF_length]; omega)]
  congr 2
  have := spF_at (l := l) (from' := f) (j := j + 1) (by omega)
  rw [List.getD_eq_getElem?_getD, List.getElem?_eq_getElem (by rw [spF_length]; omega)] at this
  exact this
theorem spF_one (l f : List Int) : (spF l f).take 1 = [f.getD 0 0] := by
  unfold spF
  rw [List.range_succ_eq_map]
  simp [frm]
theorem spanL_snoc (n : Nat) (ls : List (List Int)) (l : List Int) : spanL n (ls ++ [l]) = spF l (spanL n ls) := by
  unfold spanL
  rw [List.foldl_append]
  rfl
end Go.Proofs.Ytfgammcefaomeaa

