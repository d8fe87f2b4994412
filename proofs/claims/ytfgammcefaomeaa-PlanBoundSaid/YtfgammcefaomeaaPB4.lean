/- The plain law of PlanBound; plan.Most. -/
import Derived.Test.YtfgammcefaomeaaPB3
import Derived.Test.YtfgammcefaomeaaP14
namespace Go.Proofs.Ytfgammcefaomeaa
open Go Go.RowKit
set_option linter.unusedSimpArgs false
theorem bad_snoc {d0 : Nat} {l0 : List (NT d0)} {n d : Nat} {l : List (NT d)} {T : List Int} (m : Int) (hn : (idsF d l).Nodup) (h : BadA (BadT d0 l0 T) n d l) : BadA (BadT d0 l0 (T ++ [m])) (n + 1) d l :=
  BadA.one (B := BadT d0 l0 T) (B' := BadT d0 l0 (T ++ [m])) (y := m) (fun L t hb => by
    rcases hb with hb | ⟨y, hy, hyt⟩
    · exact .inl (.inl hb)
    · rcases List.mem_append.1 hy with hy | hy
      · exact .inl (.inr ⟨y, hy, hyt⟩)
      · rw [List.mem_singleton.1 hy] at hyt
        exact .inr hyt) d l hn h
theorem bad_add {d0 : Nat} {l0 : List (NT d0)} {d : Nat} {l : List (NT d)} (hn : (idsF d l).Nodup) : ∀ (M T : List Int) (n : Nat), BadA (BadT d0 l0 T) n d l → BadA (BadT d0 l0 (T ++ M)) (n + M.length) d l
  | [], T, n, h => by
    rw [List.append_nil]
    exact h
  | m :: M, T, n, h => by
    have := bad_add hn M (T ++ [m]) (n + 1) (bad_snoc m hn h)
    rw [List.append_assoc] at this
    rw [List.length_cons, show n + (M.length + 1) = n + 1 + M.length by omega]
    exact this
theorem chg_bad {d0 : Nat} {l0 : List (NT d0)} {ids0 : List Int} {ls0 : List (List Int)} (t0 : TreeIs d0 l0 ids0 ls0) {ids : List Int} {ls : List (List Int)} {T : List Int} (h : Chd ids0 ls0 ids ls T) : ∃ (d : Nat) (l : List (NT d)), TreeIs d l ids ls ∧ BadA (BadT d0 l0 T) (2 * T.length) d l := by
  induction h with
  | nil =>
    refine ⟨d0, l0, t0, BadA.zero d0 l0 fun L t hs hb => ?_⟩
    rcases hb with hb | ⟨y, hy, -⟩
    · exact hb hs
    · cases hy
  | del _ hx ih =>
    obtain ⟨d, l, h1, h2⟩ := ih
    obtain ⟨d', l', h3, h4⟩ := tree_del h1 h2 hx
    exact ⟨d', l', h3, by rw [List.length_append]; exact h4⟩
  | ins _ hx ih =>
    obtain ⟨d, l, h1, h2⟩ := ih
    obtain ⟨d', l', h3, h4⟩ := tree_ins h1 h2 hx
    exact ⟨d', l', h3, by rw [List.length_append]; exact h4⟩
/-- No more are sent to than the bound says. -/
theorem bound_law {kind by' : Int} {ids0 ids T more : List Int} {ls0 ls : List (List Int)} (h0 : OkT ids0 ls0) (h1 : OkT ids ls) (hc : Chd ids0 ls0 ids ls T) (hz : ¬ ids.length = 0) :
    sndL (stpL (nodesL kind ids0 ls0) (lvT (nodesL kind ids0 ls0) ids0 (T ++ more) by') ids (nodesL kind ids ls) by' (nodesL kind ids ls).length) ≤ ((4 * (2 * (T.length + more.length) + 1) * (max ls0.length ls.length + 2) : Nat) : Int) := by
  obtain ⟨d0, l0, t0⟩ := tree_is h0
  obtain ⟨d, l, t1, hb⟩ := chg_bad t0 hc
  have hn : (idsF d l).Nodup := by rw [t1.ids]; exact pw_nodup h1.1.2.2
  have hb2 := bad_snoc by' hn (bad_add hn more T _ hb)
  have hb3 : BadA (BadT d0 l0 (by' :: (T ++ more))) (2 * T.length + more.length + 1) d l := BadA.imp (fun L t h => by
    rcases h with h | ⟨y, hy, hyt⟩
    · exact .inl h
    · refine .inr ⟨y, ?_, hyt⟩
      rcases List.mem_cons.1 hy with rfl | hy
      · exact List.mem_append_right _ (List.mem_singleton.2 rfl)
      · exact List.mem_append_left _ hy) d l hb2
  have h := sends_few (kind := kind) (T := T ++ more) h0 h1 t0 t1 hz hb3
  refine Int.le_trans h (Int.ofNat_le.2 ?_)
  rw [Nat.mul_assoc]
  exact Nat.mul_le_mul_left 4 (Nat.mul_le_mul (by omega) (by omega))
end Go.Proofs.Ytfgammcefaomeaa
