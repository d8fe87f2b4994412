/- slices.Clone over numbers and over lists of numbers; tree.own. -/
import Derived.Test.YtpnckphfjcnooaaT4
import Derived.Lib.SlBytesConst
namespace Go.Proofs.Ytpnckphfjcnooaa
open Go Go.RowKit
set_option linter.unusedSimpArgs false
theorem info_ints : (Try.prog.info? 22).map (fun i => (i.zero, i.size, i.bytes)) = some (some (.slice none 0 0), 1, 24) := by kernel_rfl
set_option maxRecDepth 100000 in
theorem cloneINil_any (w : World) :
    Calls Try.prog 78 #[.slice none 0 0] w fun e w' => ∃ v, e = .returned v ∧ w'.ownsRow w.heap.size 3 1 v 0 [] ∧ Aft w w' := by
  have heq := fun w => Lib.run_eql_slice_nil (P := Try.prog) w 22 3 none 0 0 0 0 Try.underlying22
  go_enter Try.func78, Try.ntmps78
  go_wp2_with fail
  go_ret
  exact ⟨_, rfl, World.ownsRow_nil _ _ _ _, Aft.refl _⟩
set_option maxRecDepth 100000 in
set_option maxHeartbeats 1000000 in
theorem cloneI_any (v : Value) (xs : List Value) (w : World) (h : Rd w v xs) (h1 : ∀ u ∈ xs, u.oneCell' = true) (hl : xs.length ≤ 1048576) :
    Calls Try.prog 78 #[v] w fun e w' => ∃ v, e = .returned v ∧ w'.ownsRow w.heap.size 3 1 v xs.length xs ∧ Aft w w' := by
  obtain ⟨ao, cap, rfl, r1, r2, r3, -⟩ := id h
  cases ao with
  | none =>
    obtain ⟨rfl, rfl⟩ := h.none_zero
    exact cloneINil_any w
  | some ad =>
    have HR := Lib.hid h
    have HX := Lib.hid h1
    have HO := Lib.hid (World.ownsRow_made (e := 3) (size := 1) w #[] 0 (Nat.le_refl _) (by decide) rfl)
    have heq := fun w => Lib.run_eql_slice_nil (P := Try.prog) w 22 3 (some ad) xs.length cap 0 0 Try.underlying22
    clear h h1 r1 r2 r3
    go_enter Try.func78, Try.ntmps78
    go_wp2_with ((at_builtin; refine wpList_append_rd rfl (.tmp 5) (.tmp 6) 22 rfl w.heap.size 3 (.int .i64 0) 8 Try.underlying22 info_int rfl (.slice (some ⟨w.heap.size, 0, none⟩) 0 0) (.slice (some ad) xs.length cap) [] xs rfl rfl HO.out (HR.out.grow (Aft.alloc w _)) HX.out (by simp; omega) (by simp; omega) (by rw [World.size_alloc]; omega) ?_; intro v' w2 k1 k2 k3))
    go_ret
    rw [List.nil_append] at k1
    exact ⟨_, rfl, k1, ((Below.refl _ _).alloc (Nat.le_refl _) _).grown k2 (by simp) (by simp [Value.ownBlock])⟩
set_option maxRecDepth 100000 in
theorem cloneLNil_any (w : World) :
    Calls Try.prog 79 #[.slice none 0 0] w fun e w' => ∃ v, e = .returned v ∧ w'.ownsRow w.heap.size 22 1 v 0 [] ∧ Aft w w' := by
  have heq := fun w => Lib.run_eql_slice_nil (P := Try.prog) w 24 22 none 0 0 0 0 Try.underlying24
  go_enter Try.func79, Try.ntmps79
  go_wp2_with fail
  go_ret
  exact ⟨_, rfl, World.ownsRow_nil _ _ _ _, Aft.refl _⟩
set_option maxRecDepth 100000 in
set_option maxHeartbeats 1000000 in
theorem cloneL_any (v : Value) (xs : List Value) (w : World) (h : Rd w v xs) (h1 : ∀ u ∈ xs, u.oneCell' = true) (hl : xs.length ≤ 1048576) :
    Calls Try.prog 79 #[v] w fun e w' => ∃ v, e = .returned v ∧ w'.ownsRow w.heap.size 22 1 v xs.length xs ∧ Aft w w' := by
  obtain ⟨ao, cap, rfl, r1, r2, r3, -⟩ := id h
  cases ao with
  | none =>
    obtain ⟨rfl, rfl⟩ := h.none_zero
    exact cloneLNil_any w
  | some ad =>
    have HR := Lib.hid h
    have HX := Lib.hid h1
    have HO := Lib.hid (World.ownsRow_made (e := 22) (size := 1) w #[] 0 (Nat.le_refl _) (by decide) rfl)
    have heq := fun w => Lib.run_eql_slice_nil (P := Try.prog) w 24 22 (some ad) xs.length cap 0 0 Try.underlying24
    clear h h1 r1 r2 r3
    go_enter Try.func79, Try.ntmps79
    go_wp2_with ((at_builtin; refine wpList_append_rd rfl (.tmp 5) (.tmp 6) 24 rfl w.heap.size 22 (.slice none 0 0) 24 Try.underlying24 info_ints rfl (.slice (some ⟨w.heap.size, 0, none⟩) 0 0) (.slice (some ad) xs.length cap) [] xs rfl rfl HO.out (HR.out.grow (Aft.alloc w _)) HX.out (by simp; omega) (by simp; omega) (by rw [World.size_alloc]; omega) ?_; intro v' w2 k1 k2 k3))
    go_ret
    rw [List.nil_append] at k1
    exact ⟨_, rfl, k1, ((Below.refl _ _).alloc (Nat.le_refl _) _).grown k2 (by simp) (by simp [Value.ownBlock])⟩
/-- One cell of a row of slices turned. -/
theorem wpList_store_row1 {ops : Array Oper} {rest : List Oper} {o : Oper} {a : Act} {w : World} {Q : Exit → Act → World → Prop} (hgd : o.guard = none) (ty : TypeId) (hty : (Try.prog.info? ty).map (·.size) = some 1) (x y : Operand) (ho : o.op = .store ty x y) (base g n cap : Nat) (vs : List Value) (i : Nat) (hi : i < vs.length) (u : Value) (hu : u.oneCell' = true) (hc : u.cells = #[u])
    (hown : w.ownsRow base ty 1 (.slice (some ⟨g, 0, none⟩) n cap) vs.length vs) (hx : a.eval x = .pointer (some ⟨g, i, none⟩)) (hy : a.eval y = u)
    (h : ∀ w', w'.ownsRow base ty 1 (.slice (some ⟨g, 0, none⟩) n cap) (vs.set i u).length (vs.set i u) → Hid (∀ k, k ≠ g → w'.heap[k]? = w.heap[k]?) → (∀ k w0, k ≤ g → Below k w0 w → Below k w0 w') → wpList Try.prog ops Q rest (a.put o.dst undef) w') : wpList Try.prog ops Q (o :: rest) a w := by
  rcases hown.2 with ⟨he, -⟩ | ⟨g', cap', cur, he, hb, hg, h1, h2, h3, h4⟩
  · cases he
  cases he
  rw [Nat.mul_one] at h4
  have hcl : cur.toList.length = cap := by rw [Array.length_toList, h3, Nat.mul_one]
  have hic : i < cur.toList.length := by omega
  have e0 : cur.toList = cur.toList.take i ++ ([cur.toList[i]] ++ cur.toList.drop (i + 1)) := by
    have := List.take_append_drop i cur.toList
    rw [List.drop_eq_getElem_cons hic] at this
    exact this.symm
  have hg' : w.heap[g]? = some (.cells (cur.toList.take i ++ ([cur.toList[i]] ++ cur.toList.drop (i + 1))).toArray ty (0, 0)) := by rw [← e0]; exact hg
  refine wpList_store_part hgd _ x y ho g i u hx hy _ (cur.toList.take i) [cur.toList[i]] [u] (cur.toList.drop (i + 1)) hc (by rw [List.length_take]; omega) hg' hty rfl (fun z hz => by simp at hz; subst hz; exact hu) ?_
  intro w' b1 b2 b3
  have e1 : cur.toList.take i ++ ([u] ++ cur.toList.drop (i + 1)) = cur.toList.set i u := by
    rw [List.set_eq_take_append_cons_drop, if_pos hic]
    rfl
  have hb1 := b1.out
  rw [e1] at hb1
  refine h w' ⟨by rw [List.length_set, Nat.mul_one], .inr ⟨g, cap, _, by rw [List.length_set], hb, hb1, by rw [List.length_set]; exact h1, h2, ?_, ?_⟩⟩ b2 b3
  · rw [List.size_toArray, List.length_set, hcl, Nat.mul_one]
  · rw [List.length_set, Nat.mul_one]
    show (cur.toList.set i u).take vs.length = vs.set i u
    rw [List.take_set, h4]
end Go.Proofs.Ytpnckphfjcnooaa
