/- Slices of Skip of one's own; slices.Clone over them. -/
import Derived.Test.YtanodhagpegbfaaDoorAhead
import Derived.Test.YtanodhagpegbfaaDoorKeysSame
namespace Go.Proofs.YtanodhagpegbfaaDoor
open Go Go.RowKit
def sksL (zs : List Sk) : List Value := (zs.map skL).flatten
theorem sksL_cons (z : Sk) (zs : List Sk) : sksL (z :: zs) = skL z ++ sksL zs := by simp [sksL]
theorem sksL_append (xs ys : List Sk) : sksL (xs ++ ys) = sksL xs ++ sksL ys := by simp [sksL]
theorem sksL_length : ∀ zs : List Sk, (sksL zs).length = zs.length * 33
  | [] => rfl
  | z :: zs => by
    rw [sksL_cons, List.length_append, skL_length, sksL_length zs, List.length_cons]
    omega
theorem sksL_at : ∀ (zs : List Sk) (i j : Nat), i < zs.length → j < 33 → (sksL zs)[i * 33 + j]? = (skL (zs[i]?.getD default))[j]?
  | [], i, j, hi, _ => by simp at hi
  | z :: zs, 0, j, _, hj => by
    rw [sksL_cons, Nat.zero_mul, Nat.zero_add, List.getElem?_append_left (by rw [skL_length]; exact hj)]
    rfl
  | z :: zs, i + 1, j, hi, hj => by
    rw [sksL_cons, List.getElem?_append_right (by rw [skL_length]; omega), skL_length, show (i + 1) * 33 + j - 33 = i * 33 + j by omega, sksL_at zs i j (by simpa using hi) hj]
    rfl
theorem sksL_one (zs : List Sk) : ∀ u ∈ sksL zs, u.oneCell' = true := by
  intro u hu
  obtain ⟨l, hl, hm⟩ := List.mem_flatten.1 hu
  obtain ⟨k, -, rfl⟩ := List.mem_map.1 hl
  exact skL_one k u hm
/-- The cells of all. -/
theorem Sks.cells {n₀ : Nat} {w : World} {ad : Addr} {n cap : Nat} {zs : List Sk} (h : Sks n₀ w (.slice (some ad) n cap) zs) : ∀ j u, (sksL zs)[j]? = some u → w.cell? (ad.add j) = some u := by
  intro j u hu
  have hj : j < zs.length * 33 := by
    have := (List.getElem?_eq_some_iff.1 hu).1
    rwa [sksL_length] at this
  rcases h with ⟨h, -⟩ | ⟨b, off, cap', he, -, hc⟩
  · cases h
  · cases he
    have hd := sksL_at zs (j / 33) (j % 33) (by omega) (Nat.mod_lt _ (by omega))
    rw [show j / 33 * 33 + j % 33 = j by omega] at hd
    have := hc (j / 33) (by omega) (j % 33) u (hd.symm.trans hu)
    rw [Addr.add_lit]
    rwa [Nat.add_assoc, show j / 33 * 33 + j % 33 = j by omega] at this
/-- A slice of Skip of its own. -/
def OwnS (w : World) (base : Nat) (v : Value) (zs : List Sk) : Prop := w.ownsRow base 73 33 v zs.length (sksL zs)
theorem OwnS.nil (w : World) (base : Nat) : OwnS w base (.slice none 0 0) [] := World.ownsRow_nil w base _ 33
theorem OwnS.lt {w : World} {base : Nat} {v : Value} {zs : List Sk} (h : OwnS w base v zs) : ∀ g, v.ownBlock = some g → base ≤ g ∧ g < w.heap.size := World.ownsRow.lt h
theorem OwnS.keep {w w' : World} {base : Nat} {v : Value} {zs : List Sk} (h : OwnS w base v zs) (hk : ∀ g, v.ownBlock = some g → w'.heap[g]? = w.heap[g]?) : OwnS w' base v zs := by
  refine ⟨h.1, ?_⟩
  rcases h.2 with hn | ⟨g, cap, cur, rfl, hb, hg, hr⟩
  · exact .inl hn
  · exact .inr ⟨g, cap, cur, rfl, hb, (hk g rfl).trans hg, hr⟩
theorem OwnS.aft {w w' : World} {base : Nat} {v : Value} {zs : List Sk} (h : OwnS w base v zs) (ha : Aft w w') : OwnS w' base v zs := h.keep fun g hg => ha.block g (h.lt g hg).2
theorem OwnS.mono {w : World} {base base' : Nat} {v : Value} {zs : List Sk} (h : OwnS w base v zs) (hb : base' ≤ base) : OwnS w base' v zs := ownsRow_mono h hb
theorem OwnS.sks {w : World} {base : Nat} {v : Value} {zs : List Sk} (h : OwnS w base v zs) : Sks w.heap.size w v zs := by
  rcases h.2 with ⟨rfl, hn⟩ | ⟨g, cap, cur, rfl, hb, hg, hn, hm, hc, ht⟩
  · exact .inl ⟨rfl, List.eq_nil_of_length_eq_zero hn⟩
  · refine .inr ⟨g, 0, cap, rfl, heap_lt hg, fun j hj i v hv => ?_⟩
    have hi : i < 33 := by
      have := (List.getElem?_eq_some_iff.1 hv).1
      rwa [skL_length] at this
    have := World.ownsRow.cells h rfl (j * 33 + i) v ((sksL_at zs j i hj hi).trans hv)
    rw [Addr.add_lit] at this
    rwa [Nat.add_assoc]
theorem OwnS.shape {w : World} {base : Nat} {v : Value} {zs : List Sk} (h : OwnS w base v zs) : ∃ ao cap, v = .slice ao zs.length cap := own_shape h
theorem info_skE : (Tryd.prog.info? 73).map (fun i => (i.zero, i.size, i.bytes)) = some (some (.agg (skL zSk).toArray), 33, 40) := by kernel_rfl
theorem wp_append_sks {o : Oper} {a : Act} {w : World} {K : Act → World → Prop} (s x : Operand) (ho : o.op = .call { callee := .builtin .append, args := #[s, x], argTypes := #[69, 69] })
    (base : Nat) (v : Value) (xs : List Sk) (hs : a.eval s = v) (hown : OwnS w base v xs) (n₀ : Nat) (vx : Value) (ys : List Sk) (hx : a.eval x = vx) (hr : Sks n₀ w vx ys)
    (hl : xs.length + ys.length ≤ 1048576) (hbase : base ≤ w.heap.size) (h : ∀ v' w', OwnS w' base v' (xs ++ ys) → w.grownBy w' v.ownBlock → K (a.put o.dst v') w') : o.wp Tryd.prog a w K noOut := by
  obtain ⟨i, hi, hz1, hz2, hz3⟩ := info_parts info_skE
  have hC := fun (ad : Addr) (n cap : Nat) (e : vx = .slice (some ad) n cap) => Sks.cells (n₀ := n₀) (w := w) (ad := ad) (n := n) (cap := cap) (zs := ys) (by rw [← e]; exact hr)
  rcases hr with ⟨rfl, rfl⟩ | ⟨b, off, cap, rfl, -, -⟩
  · refine wp_of_list (ops := #[]) (wpList_append_own_none rfl s x 69 ho base 73 i 33 Tryd.underlying69 hi v xs.length (sksL xs) hs hown hx ⟨rfl, h v w ?_ (World.grownBy.refl w _)⟩)
    rw [List.append_nil]
    exact hown
  · refine wp_append_own w s x 69 ho base 73 i (.agg (skL zSk).toArray) 33 40 Tryd.underlying69 hi hz1 hz2 hz3 (by kernel_rfl) (by omega) v xs.length (sksL xs) hs hown ⟨b, off, none⟩ ys.length cap (sksL ys) hx (sksL_length ys) (hC _ _ _ rfl) (sksL_one ys) (by unfold maxLen; omega) (by omega) hbase ?_
    intro v' w' k1 k2 k3
    refine h v' w' ?_ k2
    unfold OwnS
    rw [List.length_append, sksL_append]
    exact k1
theorem wpList_append_sks {ops : Array Oper} {rest : List Oper} {o : Oper} {a : Act} {w : World} {Q : Exit → Act → World → Prop} (hw : Region.wanted o (yielded ops a.tmps) = true) (s x : Operand) (ho : o.op = .call { callee := .builtin .append, args := #[s, x], argTypes := #[69, 69] })
    (base : Nat) (v : Value) (xs : List Sk) (hs : a.eval s = v) (hown : OwnS w base v xs) (n₀ : Nat) (vx : Value) (ys : List Sk) (hx : a.eval x = vx) (hr : Sks n₀ w vx ys)
    (hl : xs.length + ys.length ≤ 1048576) (hbase : base ≤ w.heap.size) (h : ∀ v' w', OwnS w' base v' (xs ++ ys) → w.grownBy w' v.ownBlock → wpList Tryd.prog ops Q rest (a.put o.dst v') w') : wpList Tryd.prog ops Q (o :: rest) a w := by
  unfold wpList
  rw [if_pos hw]
  exact .inl (wp_noOut (wp_append_sks s x ho base v xs hs hown n₀ vx ys hx hr hl hbase h))
set_option maxRecDepth 100000 in
set_option maxHeartbeats 1000000 in
theorem cloneS_any (a : Option Addr) (cap : Nat) (zs : List Sk) (w : World) (hz : zs.length ≤ 1048576) (hI : Sks w.heap.size w (.slice a zs.length cap) zs) :
    Calls Tryd.prog 79 #[.slice a zs.length cap] w fun e W' => ∃ v, e = .returned v ∧ OwnS W' w.heap.size v zs ∧ Aft w W' := by
  have HI := Lib.hid hI
  rcases hI with ⟨he, rfl⟩ | ⟨b, off, cap', he, -, -⟩
  · cases he
    clear HI
    have heq := fun w => Lib.run_eql_slice_nil (P := Tryd.prog) w 69 73 none 0 0 0 0 Tryd.underlying69
    go_enter Tryd.func79, Tryd.ntmps79
    go_wp2_with fail
    go_ret
    exact ⟨_, rfl, OwnS.nil _ _, Aft.refl _⟩
  · cases he
    have HZ := Lib.hid hz
    have heq := fun w => Lib.run_eql_slice_nil (P := Tryd.prog) w 69 73 (some ⟨b, off, none⟩) zs.length cap 0 0 Tryd.underlying69
    go_enter Tryd.func79, Tryd.ntmps79
    go_wp2_with ((at_builtin; refine wpList_append_sks (by kernel_rfl) (.tmp 5) (.tmp 6) rfl w.heap.size (.slice (some ⟨w.heap.size, 0, none⟩) 0 0) [] rfl (World.ownsRow_made (e := 73) (size := 33) w #[] 0 (Nat.le_refl _) (by decide) rfl) w.heap.size _ zs rfl (HI.out.below (Aft.alloc w _)) (by have := HZ.out; simp; omega) (by rw [World.size_alloc]; omega) ?_; intro v' w2 k1 k2))
    go_ret
    rw [List.nil_append] at k1
    exact ⟨_, rfl, k1, ((Below.refl _ _).alloc (Nat.le_refl _) _).grown k2 (by simp) (by simp [Value.ownBlock])⟩
end Go.Proofs.YtanodhagpegbfaaDoor
