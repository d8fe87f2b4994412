/- coterieref09.Same on one list of keys, read twice. -/
import Derived.Test.YtanodhagpegbfaaDoorMany
namespace Go.Proofs.YtanodhagpegbfaaDoor
open Go Go.RowKit
theorem wp_append_keys {o : Oper} {a : Act} {w : World} {K : Act → World → Prop} (s x : Operand) (ho : o.op = .call { callee := .builtin .append, args := #[s, x], argTypes := #[47, 47] })
    (base : Nat) (v : Value) (ks : List (List (BitVec 8))) (hs : a.eval s = v) (hown : OwnK w base v ks) (vx : Value) (ls : List (List (BitVec 8))) (hx : a.eval x = vx) (hr : RdK w vx ls)
    (hl : ks.length + ls.length ≤ 1000000) (hbase : base ≤ w.heap.size) (h : ∀ v' w', OwnK w' base v' (ks ++ ls) → w.grownBy w' v.ownBlock → K (a.put o.dst v') w') : o.wp Tryd.prog a w K noOut := by
  obtain ⟨i, hi, hz1, hz2, hz3⟩ := info_parts info_keyE
  have hC := fun (ad : Addr) (n cap : Nat) (e : vx = .slice (some ad) n cap) => RdK.cells (w := w) (ad := ad) (n := n) (cap := cap) (ks := ls) (by rw [← e]; exact hr)
  obtain ⟨ao, cap, rfl, r1, r2, r3, r4, r5⟩ := hr
  have hlen : ∀ k ∈ ks ++ ls, k.length = 32 := fun k hk => by
    rcases List.mem_append.1 hk with hk | hk
    · exact hown.1 k hk
    · exact r4 k hk
  cases ao with
  | none =>
    have hc := r3 rfl
    subst hc
    have hn : ls = [] := List.eq_nil_of_length_eq_zero (by omega)
    subst hn
    refine wp_of_list (ops := #[]) (wpList_append_own_none rfl s x 47 ho base 23 i 32 Tryd.underlying47 hi v ks.length (ksL ks) hs hown.2 hx ⟨rfl, h v w ?_ (World.grownBy.refl w _)⟩)
    rw [List.append_nil]
    exact hown
  | some ad =>
    refine wp_append_own w s x 47 ho base 23 i (.agg key0) 32 32 Tryd.underlying47 hi hz1 hz2 hz3 (by kernel_rfl) (by omega) v ks.length (ksL ks) hs hown.2 ad ls.length cap (ksL ls) hx (ksL_length r4) (hC ad _ _ rfl) (ksL_one ls) (by unfold maxLen; omega) (by omega) hbase ?_
    intro v' w' k1 k2 k3
    refine h v' w' ⟨hlen, ?_⟩ k2
    rw [List.length_append, ksL_append]
    exact k1
theorem wpList_append_keys {ops : Array Oper} {rest : List Oper} {o : Oper} {a : Act} {w : World} {Q : Exit → Act → World → Prop} (hw : Region.wanted o (yielded ops a.tmps) = true) (s x : Operand) (ho : o.op = .call { callee := .builtin .append, args := #[s, x], argTypes := #[47, 47] })
    (base : Nat) (v : Value) (ks : List (List (BitVec 8))) (hs : a.eval s = v) (hown : OwnK w base v ks) (vx : Value) (ls : List (List (BitVec 8))) (hx : a.eval x = vx) (hr : RdK w vx ls)
    (hl : ks.length + ls.length ≤ 1000000) (hbase : base ≤ w.heap.size) (h : ∀ v' w', OwnK w' base v' (ks ++ ls) → w.grownBy w' v.ownBlock → wpList Tryd.prog ops Q rest (a.put o.dst v') w') : wpList Tryd.prog ops Q (o :: rest) a w := by
  unfold wpList
  rw [if_pos hw]
  exact .inl (wp_noOut (wp_append_keys s x ho base v ks hs hown vx ls hx hr hl hbase h))
set_option maxRecDepth 100000 in
set_option maxHeartbeats 2000000 in
theorem keysSame_any (v1 v2 : Value) (ks : List (List (BitVec 8))) (w : World) (h1 : RdK w v1 ks) (h2 : RdK w v2 ks) :
    Calls Tryd.prog 29 #[v1, v2] w fun r w' => r = .returned (.bool true) ∧ Aft w w' := by
  have H1 := Lib.hid h1
  have H2 := Lib.hid h2
  obtain ⟨a1, c1, rfl, hlen, -⟩ := h1.shape
  obtain ⟨a2, c2, rfl, -, -⟩ := h2.shape
  have H0 := Lib.hid (Aft.refl w)
  clear h1 h2
  go_enter Tryd.func29, Tryd.ntmps29
  go_wp2_with fail
  go_loopw [13] (fun v wr => ∃ i : Nat, i ≤ ks.length ∧ v = .int .i64 i ∧ Aft w wr) (fun v _ => ks.length - (intOf v).toNat)
  case atStart => exact ⟨0, by omega, rfl, H0.out⟩
  case round =>
    obtain ⟨i, hi, rfl, hA⟩ := hrel
    have HA := Lib.hid hA
    clear hA
    by_cases hlt : i < ks.length
    · obtain ⟨g1, o1, d1, e1, hXl, hr1⟩ := (H1.out.grow HA.out).at hlt
      cases e1
      obtain ⟨g2, o2, d2, e2, -, hr2⟩ := (H2.out.grow HA.out).at hlt
      cases e2
      have HX := Lib.hid hXl
      have HR1 := Lib.hid hr1
      have HR2 := Lib.hid hr2
      clear hXl hr1 hr2
      generalize ks.getD i [] = X at *
      have hlt' : (i : Int) < (ks.length : Nat) := by omega
      go_wp2_with fail
      refine wp_region_lexF (fun i => ([0] : List Nat).getD i 0) 9 (by kernel_rfl) (by kernel_rfl) ?_; intro wq hwr
      have HAq := Lib.hid (show Aft wr wq by rw [hwr]; exact (Below.refl _ _).drew)
      clear hwr
      repeat (first | (refine lf_skip (by go_big_quiet_skip; exact wpQuiet_nil trivial) (by kernel_rfl) ?_; simp only [Act.put, List.setIfInBounds_toArray, List.set_cons_succ, List.set_cons_zero]) | (refine lf_quiet rfl (by go_big_quiet_want; exact quiet_false (by assumption)) (by kernel_rfl) rfl ?_; intro Kx hKx; go_big_quiet_op; go_big_quiet_on))
      refine lf_load_key rfl (by kernel_rfl) (.tmp 18) rfl g1 (o1 + i * 32) rfl X (HR1.out.grow HAq.out) HX.out ?_
      simp only [Act.put, List.setIfInBounds_toArray, List.set_cons_succ, List.set_cons_zero]
      repeat (first | (refine lf_skip (by go_big_quiet_skip; exact wpQuiet_nil trivial) (by kernel_rfl) ?_; simp only [Act.put, List.setIfInBounds_toArray, List.set_cons_succ, List.set_cons_zero]) | (refine lf_quiet rfl (by go_big_quiet_want; exact quiet_false (by assumption)) (by kernel_rfl) rfl ?_; intro Kx hKx; go_big_quiet_op; go_big_quiet_on))
      refine lf_load_key rfl (by kernel_rfl) (.tmp 22) rfl g2 (o2 + i * 32) rfl X (HR2.out.grow HAq.out) HX.out ?_
      simp only [Act.put, List.setIfInBounds_toArray, List.set_cons_succ, List.set_cons_zero]
      refine lf_bin rfl (by kernel_rfl) .neq 23 23 (.tmp 19) (.tmp 23) rfl _ _ _ rfl rfl (run_neq_key X HX.out) (guard_key _ _ _ _ _) ?_
      simp only [Act.put, List.setIfInBounds_toArray, List.set_cons_succ, List.set_cons_zero]
      refine lf_done ?_
      intro wt ht
      have HAt := Lib.hid (Aft.trans HA.out (Aft.trans HAq.out ht))
      clear ht
      go_wp2_with fail
      go_roundw
      case rel => exact ⟨i + 1, by omega, by go_num, HAt.out⟩
      case measure => simp [intOf]; omega
    · obtain rfl : i = ks.length := by omega
      have hlt' : ¬ ((ks.length : Nat) : Int) < (ks.length : Nat) := by omega
      go_wp2_with fail
      go_ret
      exact ⟨rfl, HA.out⟩
end Go.Proofs.YtanodhagpegbfaaDoor
