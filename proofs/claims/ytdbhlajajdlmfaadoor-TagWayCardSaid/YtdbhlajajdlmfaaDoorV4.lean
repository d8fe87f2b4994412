/- A make of keys; a key stored among one's own. -/
import Derived.Test.YtdbhlajajdlmfaaDoorB1
import Derived.Test.YtdbhlajajdlmfaaDoorB4
namespace Go.Proofs.YtdbhlajajdlmfaaDoor
open Go Go.RowKit
set_option linter.unusedSimpArgs false
def kz32 : List (BitVec 8) := List.replicate 32 0
theorem bv_kz32 : bv kz32 = List.replicate 32 (Value.int .u8 0) := rfl
theorem ksL_zero : ∀ n, ksL (List.replicate n kz32) = List.replicate (n * 32) (Value.int .u8 0)
  | 0 => rfl
  | n + 1 => by
    rw [List.replicate_succ, ksL_cons, ksL_zero n, bv_kz32, List.replicate_append_replicate]
    congr 1
    omega
theorem rep_at {v : Value} {m j : Nat} (h : j < m) : (List.replicate m v).toArray[j]! = v := by simp [h]
theorem made_keys (n : Nat) : madeCells (Value.agg key0).cells (n * 32) = (ksL (List.replicate n kz32)).toArray := by
  rw [ksL_zero]
  apply Array.ext'
  refine List.eq_replicate_iff.2 ⟨by simp [madeCells], fun b hb => ?_⟩
  simp only [madeCells, Array.toList_map, List.mem_map] at hb
  obtain ⟨k, -, rfl⟩ := hb
  have h : ∀ j, j < 32 → key0[j]! = Value.int .u8 0 := fun j hj => rep_at hj
  have hs : (Value.agg key0).cells = key0 := rfl
  rw [hs, show key0.size = 32 from rfl]
  exact h _ (Nat.mod_lt _ (by decide))
theorem key_row {ks : List (List (BitVec 8))} (h : ∀ k ∈ ks, k.length = 32) : Row 32 (ks.map bv) := fun r hr => by
  obtain ⟨k, hk, rfl⟩ := List.mem_map.1 hr
  refine ⟨by rw [bv_length]; exact h k hk, fun u hu => ?_⟩
  obtain ⟨b, -, rfl⟩ := List.mem_map.1 hu
  rfl
theorem take_midK {α : Type} (A r : List α) (i k n : Nat) (hr : r.length = k) (h : i + k ≤ n) (hn : n ≤ A.length) : (A.take i ++ (r ++ A.drop (i + k))).take n = (A.take n).take i ++ (r ++ (A.take n).drop (i + k)) := by
  have h1 : (A.take i).length = i := by rw [List.length_take]; omega
  rw [List.take_append, List.take_append, h1, hr, List.take_take, List.take_take, List.drop_take, Nat.min_eq_right (by omega : i ≤ n), Nat.min_eq_left (by omega : i ≤ n), List.take_of_length_le (l := r) (by omega), show n - i - k = n - (i + k) by omega]
section
variable {ops : Array Oper} {rest : List Oper} {o : Oper} {a : Act} {w : World} {Q : Exit → Act → World → Prop}
theorem wpList_makeKeys (hw : Region.wanted o (yielded ops a.tmps) = true) (x y : Operand) (ho : o.op = .makeSlice 26 x y) (n : Nat) (hx : a.eval x = .int .i64 (n : Int)) (hy : a.eval y = .int .i64 (n : Int)) (hn : n ≤ 1048576)
    (h : ∀ w', Aft w w' → Hid (w'.heap[w.heap.size]? = some (.cells (ksL (List.replicate n kz32)).toArray 30 (0, 0))) → wpList Tryd.prog ops Q rest (a.put o.dst (.slice (some ⟨w.heap.size, 0, none⟩) n n)) w') : wpList Tryd.prog ops Q (o :: rest) a w := by
  obtain ⟨i0, hi0, hz1, hz2, hz3⟩ := info_parts info_keyE
  have hr := run_make (P := Tryd.prog) w 26 30 i0 _ Tryd.underlying26 hi0 hz1 .i64 .i64 (n : Int) (n : Int) (by omega) (by omega) (by rw [hz3]; omega) (by omega)
  rw [hz2, Int.toNat_natCast, made_keys] at hr
  unfold wpList
  rw [if_pos hw]
  refine .inl (wp_noOut ?_)
  unfold Oper.wp execOp
  simp only [ho, hx, hy, hr, Sem.run_bind, Result.andThen_ok, Sem.run_pure]
  exact h _ (Aft.alloc w _) (Lib.hid (heap_alloc_new w _))
/-- A key is stored among keys of one's own. -/
theorem wpList_store_keyAt (hgd : o.guard = none) (x y : Operand) (ho : o.op = .store 30 x y) (base g n cap : Nat) (ks : List (List (BitVec 8))) (i : Nat) (hi : i < ks.length) (X : List (BitVec 8)) (hX : X.length = 32)
    (hown : OwnK w base (.slice (some ⟨g, 0, none⟩) n cap) ks) (hx : a.eval x = .pointer (some ⟨g, i * 32, none⟩)) (hy : a.eval y = .agg (bv X).toArray)
    (h : ∀ w', Hid (OwnK w' base (.slice (some ⟨g, 0, none⟩) n cap) (ks.set i X)) → Hid (Fr (fun b => (Value.slice (some ⟨g, 0, none⟩) n cap).ownBlock = some b) w w') → wpList Tryd.prog ops Q rest (a.put o.dst undef) w') : wpList Tryd.prog ops Q (o :: rest) a w := by
  rcases hown.2.2 with ⟨he, -⟩ | ⟨g', cap', cur, he, hb, hg, h1, h2, h3, h4⟩
  · cases he
  cases he
  have hR := key_row hown.1
  have hrl := ksL_length hown.1
  have hcl : cur.toList.length = cap * 32 := by rw [Array.length_toList, h3]
  have e0 : cur.toList = cur.toList.take (i * 32) ++ ((cur.toList.drop (i * 32)).take 32 ++ cur.toList.drop (i * 32 + 32)) := by
    rw [← List.drop_drop, List.take_append_drop, List.take_append_drop]
  have hg' : w.heap[g]? = some (.cells (cur.toList.take (i * 32) ++ ((cur.toList.drop (i * 32)).take 32 ++ cur.toList.drop (i * 32 + 32))).toArray 30 (0, 0)) := by rw [← e0]; exact hg
  have hone : ∀ u ∈ bv X, u.oneCell' = true := fun u hu => by
    obtain ⟨b, -, rfl⟩ := List.mem_map.1 hu
    rfl
  have hXl : (bv X).length = 32 := by rw [bv_length]; exact hX
  refine wpList_store_part hgd _ x y ho g (i * 32) _ hx hy _ (cur.toList.take (i * 32)) ((cur.toList.drop (i * 32)).take 32) (bv X) (cur.toList.drop (i * 32 + 32)) rfl (by rw [List.length_take]; omega) hg' (key_info hX) (by rw [List.length_take, List.length_drop, hXl]; omega) hone ?_
  intro w' b1 b2 b3
  have hf : Fr (fun b => (Value.slice (some ⟨g, 0, none⟩) ks.length cap).ownBlock = some b) w w' := fr_store rfl b2.out b3
  have hset : ksL (ks.set i X) = (ksL ks).take (i * 32) ++ (bv X ++ (ksL ks).drop (i * 32 + 32)) := by
    unfold ksL
    rw [List.map_set, rows_set hR i (by rw [List.length_map]; exact hi) _ hXl]
  have hall : ∀ k ∈ ks.set i X, k.length = 32 := fun k hk => by
    rcases List.mem_or_eq_of_mem_set hk with hk | rfl
    · exact hown.1 k hk
    · exact hX
  refine h w' (Lib.hid ⟨hall, ?_⟩) (Lib.hid hf)
  refine ⟨?_, .inr ⟨g, cap, _, ?_, hb, b1.out, ?_, h2, ?_, ?_⟩⟩
  · rw [ksL_length hall]
  · rw [List.length_set]
  · rw [List.length_set]; exact h1
  · rw [List.size_toArray, List.length_append, List.length_append, List.length_take, List.length_drop, hXl]
    omega
  · rw [hset, List.length_set]
    have h5 : ksL ks = cur.toList.take (ks.length * 32) := h4.symm
    rw [h5]
    exact take_midK cur.toList (bv X) (i * 32) 32 (ks.length * 32) hXl (by omega) (by omega)
end
end Go.Proofs.YtdbhlajajdlmfaaDoor
