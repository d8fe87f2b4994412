/- Lists of numbers made and grown. -/
import Derived.Test.YtpnckphfjcnooaaT15
import Derived.Test.YtpnckphfjcnooaaT14
namespace Go.Proofs.Ytpnckphfjcnooaa
open Go Go.RowKit
set_option linter.unusedSimpArgs false
theorem made_zeros (n : Nat) : madeCells (Value.int .i64 0).cells (n * 1) = (zv (List.replicate n 0)).toArray := by
  apply Array.ext'
  apply List.ext_getElem?
  intro k
  simp only [madeCells, Nat.mul_one, Value.cells, zv]
  by_cases hk : k < n
  · simp [hk, Nat.mod_one]
  · simp [hk]
theorem wpList_makeInts {ops : Array Oper} {rest : List Oper} {o : Oper} {a : Act} {w : World} {Q : Exit → Act → World → Prop} (hw : Region.wanted o (yielded ops a.tmps) = true) (x y : Operand) (ho : o.op = .makeSlice 22 x y) (n : Nat) (z : Int) (hz : z = (n : Int)) (hx : a.eval x = .int .i64 z) (hy : a.eval y = .int .i64 z) (hn : n ≤ 16777216)
    (h : ∀ w', Aft w w' → Hid (OwnI w' w.heap.size (.slice (some ⟨w.heap.size, 0, none⟩) n n) (List.replicate n 0)) → wpList Try.prog ops Q rest (a.put o.dst (.slice (some ⟨w.heap.size, 0, none⟩) n n)) w') : wpList Try.prog ops Q (o :: rest) a w := by
  subst hz
  obtain ⟨i0, hi0, hz1, hz2, hz3⟩ := info_parts info_int
  have hr := run_make (P := Try.prog) w 22 3 i0 (.int .i64 0) Try.underlying22 hi0 hz1 .i64 .i64 (n : Int) (n : Int) (by omega) (by omega) (by rw [hz3]; omega) (by omega)
  rw [hz2, Int.toNat_natCast, made_zeros] at hr
  unfold wpList
  rw [if_pos hw]
  refine .inl (wp_noOut ?_)
  unfold Oper.wp execOp
  simp only [ho, hx, hy, hr, Sem.run_bind, Result.andThen_ok, Sem.run_pure]
  refine h _ (Aft.alloc w _) (Lib.hid ?_)
  have := own_blk (base := w.heap.size) (heap_alloc_new w (.cells (zv (List.replicate n 0)).toArray 3 (0, 0))) (Nat.le_refl _) (by rw [zv_length, List.length_replicate]; unfold maxLen; omega)
  rw [zv_length, List.length_replicate] at this
  unfold OwnI
  rw [List.length_replicate]
  exact this
/-- One number more at the end. -/
theorem wpList_snocI {ops : Array Oper} {rest : List Oper} {o : Oper} {a : Act} {w : World} {Q : Exit → Act → World → Prop} (hgd : o.guard = none) (s x : Operand) (ho : o.op = .call { callee := .builtin .append, args := #[s, x], argTypes := #[22, 22] }) (base : Nat) (v : Value) (xs : List Int) (hs : a.eval s = v) (hown : OwnI w base v xs) (gx : Nat) (z : Int) (hx : a.eval x = .slice (some ⟨gx, 0, none⟩) 1 1)
    (hg : w.heap[gx]? = some (.cells #[.int .i64 z] 3 (0, 0))) (hl : xs.length ≤ 16777216) (hb : base ≤ w.heap.size)
    (h : ∀ g c w', Hid (OwnI w' base (.slice (some ⟨g, 0, none⟩) (xs.length + 1) c) (xs ++ [z])) → Hid (Fr (fun b => v.ownBlock = some b) w w') → Hid (v.ownBlock = some g ∨ w.heap.size ≤ g) → wpList Try.prog ops Q rest (a.put o.dst (.slice (some ⟨g, 0, none⟩) (xs.length + 1) c)) w') : wpList Try.prog ops Q (o :: rest) a w := by
  obtain ⟨i0, hi0, hz1, hz2, hz3⟩ := info_parts info_int
  refine wpList_append_lies w hgd s x 22 ho base 3 i0 (.int .i64 0) 1 8 Try.underlying22 hi0 hz1 hz2 hz3 rfl (by decide) v xs.length (zv xs) hs hown ⟨gx, 0, none⟩ 1 1 [.int .i64 z] hx rfl (fun j u hu => by
    rw [Addr.add_lit, Nat.zero_add]
    exact cell_part hg (by simpa using hu)) (fun u hu => by simp at hu; subst hu; rfl) (by decide) (by unfold maxLen; omega) (by omega) hb _ rfl ?_
  intro g c w' k1 k2 k3 k4
  refine h g c w' (Lib.hid ?_) (Lib.hid (Fr.of_grown k2 fun k hk => hk)) (Lib.hid ?_)
  · unfold OwnI
    rw [List.length_append, zv_append]
    exact k1
  · rcases k3 with h | h
    · exact .inl h
    · exact .inr (by omega)
theorem set_zero {done : List Int} {n k : Nat} (hd : done.length = k) (hk : k < n) (g : Int) : (done ++ List.replicate (n - k) 0).set k g = (done ++ [g]) ++ List.replicate (n - (k + 1)) 0 := by
  obtain ⟨m, hm⟩ : ∃ m, n - k = m + 1 := ⟨n - k - 1, by omega⟩
  rw [hm, show n - (k + 1) = m by omega, List.replicate_succ, List.set_append_right _ _ (by omega), hd, Nat.sub_self, List.set_cons_zero, List.append_assoc]
  rfl
theorem aft_fr {w0 w w' : World} {base : Nat} {v : Value} {xs : List Int} (ha : Aft w0 w) (ho : OwnI w base v xs) (hb : w0.heap.size ≤ base) (hf : Fr (fun b => v.ownBlock = some b) w w') : Aft w0 w' :=
  ⟨hf.os.trans ha.os, hf.tape.trans ha.tape, hf.output.trans ha.output, Nat.le_trans ha.size hf.size, fun k hk => (hf.block k (Nat.lt_of_lt_of_le hk ha.size) fun q => by
    have := (ho.lt q).1
    omega).trans (ha.block k hk)⟩
theorem one_own {w w' : World} {base : Nat} {z : Int} (hg : w'.heap[w.heap.size]? = some (.cells #[.int .i64 z] 3 (0, 0))) (hb : base ≤ w.heap.size) : OwnI w' base (.slice (some ⟨w.heap.size, 0, none⟩) 1 1) [z] :=
  own_blk (xs := zv [z]) hg hb (show 1 ≤ maxLen by decide)
end Go.Proofs.Ytpnckphfjcnooaa
