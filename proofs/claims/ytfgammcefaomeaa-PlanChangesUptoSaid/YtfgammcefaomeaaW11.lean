/- coterieref10.mend. -/
import Derived.Test.YtfgammcefaomeaaW6
import Derived.Test.YtfgammcefaomeaaW2
import Derived.Test.YtfgammcefaomeaaB4
namespace Go.Proofs.Ytfgammcefaomeaa
open Go Go.RowKit
set_option linter.unusedSimpArgs false
theorem OwnF.nz {d : Nat} {w : World} {base : Nat} {B : Nat → Prop} {v : Value} {ps : List (NT d × Value)} (h : OwnF d w base B v ps) (hp : 0 < ps.length) : ∃ g cap, v = .slice (some ⟨g, 0, none⟩) ps.length cap ∧ ps.length ≤ cap := by
  rcases h.row.2.2 with ⟨he, hn⟩ | ⟨g, cap, cur, he, hb, hg, h1, -⟩
  · rw [rowsK_length] at hn
    omega
  · rw [rowsK_length] at he h1
    exact ⟨g, cap, he, h1⟩
theorem OwnF.has {d : Nat} {w : World} {base : Nat} {B : Nat → Prop} {g n cap : Nat} {ps : List (NT d × Value)} (h : OwnF d w base B (.slice (some ⟨g, 0, none⟩) n cap) ps) : n = ps.length := by
  obtain ⟨a, c, e⟩ := h.shape
  injection e
theorem take_mid {α : Type} (A r : List α) (i k n : Nat) (hr : r.length = k) (h : i + k ≤ n) (hn : n ≤ A.length) : (A.take i ++ (r ++ A.drop (i + k))).take n = (A.take n).take i ++ (r ++ (A.take n).drop (i + k)) := by
  have h1 : (A.take i).length = i := by rw [List.length_take]; omega
  rw [List.take_append, List.take_append, h1, hr, List.take_take, List.take_take, List.drop_take, Nat.min_eq_right (by omega : i ≤ n), Nat.min_eq_left (by omega : i ≤ n), List.take_of_length_le (l := r) (by omega), show n - i - k = n - (i + k) by omega]
theorem ndK_one {d : Nat} {w : World} {B : Nat → Prop} {p : NT d × Value} (h : Kd d w B p.1 p.2) : ∀ u ∈ ndK p, u.oneCell' = true := fun u hu => by
  have := h.one
  rw [Array.all_eq_true_iff_forall_mem] at this
  exact this u (by simpa using hu)
section
variable {ops : Array Oper} {rest : List Oper} {o : Oper} {a : Act} {w : World} {Q : Exit → Act → World → Prop}
/-- A node is stored among nodes of one's own. -/
theorem wpList_store_K {d : Nat} (hgd : o.guard = none) (x y : Operand) (ho : o.op = .store 114 x y) (base : Nat) (B : Nat → Prop) (g n cap : Nat) (ps : List (NT d × Value)) (i : Nat) (hi : i < ps.length) (p : NT d × Value)
    (hown : OwnF d w base B (.slice (some ⟨g, 0, none⟩) n cap) ps) (hB : ¬ B g) (hx : a.eval x = .pointer (some ⟨g, i * 2, none⟩)) (hy : a.eval y = .agg (ndK p).toArray) (hkd : Kd d w B p.1 p.2)
    (h : ∀ w', Hid (OwnF d w' base B (.slice (some ⟨g, 0, none⟩) n cap) (ps.set i p)) → Hid (Fr (fun b => (Value.slice (some ⟨g, 0, none⟩) n cap).ownBlock = some b) w w') → wpList Try.prog ops Q rest (a.put o.dst undef) w') : wpList Try.prog ops Q (o :: rest) a w := by
  rcases hown.row.2.2 with ⟨he, -⟩ | ⟨g', cap', cur, he, hb, hg, h1, h2, h3, h4⟩
  · cases he
  cases he
  have hR := hown.row.1
  have hrl := rows_length hR
  rw [rowsK_length] at h1 h4 hrl
  have hcl : cur.toList.length = cap * 2 := by rw [Array.length_toList, h3]
  have e0 : cur.toList = cur.toList.take (i * 2) ++ ((cur.toList.drop (i * 2)).take 2 ++ cur.toList.drop (i * 2 + 2)) := by
    rw [← List.drop_drop, List.take_append_drop, List.take_append_drop]
  have hg' : w.heap[g]? = some (.cells (cur.toList.take (i * 2) ++ ((cur.toList.drop (i * 2)).take 2 ++ cur.toList.drop (i * 2 + 2))).toArray 114 (0, 0)) := by rw [← e0]; exact hg
  refine wpList_store_part hgd _ x y ho g (i * 2) _ hx hy _ (cur.toList.take (i * 2)) ((cur.toList.drop (i * 2)).take 2) (ndK p) (cur.toList.drop (i * 2 + 2)) rfl (by rw [List.length_take]; omega) hg' (by kernel_rfl) (by rw [List.length_take, List.length_drop]; show min 2 _ = 2; omega) (ndK_one hkd) ?_
  intro w' b1 b2 b3
  have hf : Fr (fun b => (Value.slice (some ⟨g, 0, none⟩) (rowsK ps).length cap).ownBlock = some b) w w' := fr_store rfl b2.out b3
  have hset : (rowsK (ps.set i p)).flatten = (rowsK ps).flatten.take (i * 2) ++ (ndK p ++ (rowsK ps).flatten.drop (i * 2 + 2)) := by
    have e2 : rowsK (ps.set i p) = (rowsK ps).set i (ndK p) := by
      unfold rowsK
      rw [List.map_set]
    rw [e2, rows_set hR i (by rw [rowsK_length]; exact hi) _ rfl]
  have hRow : Row 2 (rowsK (ps.set i p)) := by
    unfold rowsK
    rw [List.map_set]
    intro r hr
    rcases List.mem_or_eq_of_mem_set hr with hr | rfl
    · exact hR r hr
    · exact ⟨rfl, ndK_one hkd⟩
  have hsz := (b3 0 _ (Nat.zero_le _) (Below.refl 0 _)).size
  refine h w' (Lib.hid ⟨⟨hRow, ?_⟩, fun q hq => ?_⟩) (Lib.hid hf)
  · refine ⟨?_, .inr ⟨g, cap, _, ?_, hb, b1.out, ?_, h2, ?_, ?_⟩⟩
    · rw [rows_length hRow]
    · rw [rowsK_length, rowsK_length, List.length_set]
    · rw [rowsK_length, List.length_set]; exact h1
    · rw [List.size_toArray, List.length_append, List.length_append, List.length_take, List.length_drop]
      show min (i * 2) cur.toList.length + (2 + _) = _
      omega
    · rw [hset, rowsK_length, List.length_set]
      have h5 : (rowsK ps).flatten = cur.toList.take (ps.length * 2) := h4.symm
      rw [h5]
      exact take_mid cur.toList (ndK p) (i * 2) 2 (ps.length * 2) rfl (by omega) (by omega)
  · rcases List.mem_or_eq_of_mem_set hq with hq | rfl
    · exact (hown.kid q hq).keep (fun k hk _ => b2.out k (fun e => hB (e ▸ hk))) hsz
    · exact hkd.keep (fun k hk _ => b2.out k (fun e => hB (e ▸ hk))) hsz
end
end Go.Proofs.Ytfgammcefaomeaa
