/- slices.Delete of one number out of a slice of one's own, and tree.lend. -/
import Derived.Test.YtpnckphfjcnooaaT7
import Derived.Shelf.Slices.Delete
import Derived.Sort.OwnSortedInts
namespace Go.Proofs.Ytpnckphfjcnooaa
open Go Go.RowKit Go.Shelf
set_option linter.unusedSimpArgs false
/-- The kit's numbers, as they are here. -/
def delRen : Ren :=
  ⟨fun x => match x with
    | 23 => 67
    | n => n,
  fun x => match x with
    | 0 => 0
    | 3 => 3
    | 4 => 4
    | 22 => 22
    | n => n,
  fun n => n⟩
theorem del23 : Lays2.n23 Try.prog delRen :=
  { mixed := by kernel_rfl, f23 := Try.func67,
    t0 := Try.underlying0, a0 := Try.isAgg0, z0 := Try.sizeOf0, v0 := Try.zeroValue0,
    t3 := Try.underlying3, a3 := Try.isAgg3, z3 := Try.sizeOf3, v3 := Try.zeroValue3,
    t4 := Try.underlying4, a4 := Try.isAgg4, z4 := Try.sizeOf4, v4 := Try.zeroValue4,
    t22 := Try.underlying22, a22 := Try.isAgg22, z22 := Try.sizeOf22, v22 := Try.zeroValue22,
    i3 := by kernel_rfl }
/-- What a deletion leaves. -/
def CutSays (v : Value) (xs : List Int) (i : Nat) (base : Nat) (w : World) (e : Ending) (w' : World) : Prop :=
  ∃ v', e = .returned v' ∧ v'.ownBlock = v.ownBlock ∧ OwnI w' base v' (xs.eraseIdx i) ∧ Fr (fun b => v.ownBlock = some b) w w'
theorem cutI_any (v : Value) (xs : List Int) (i : Nat) (base : Nat) (w : World) (ho : OwnI w base v xs) (hi : i < xs.length) :
    Calls Try.prog 67 #[v, .int .i64 (i : Int), .int .i64 ((i : Int) + 1)] w (CutSays v xs i base w) := by
  obtain ⟨ao, cap, rfl⟩ := ho.shape
  rcases ho.2 with ⟨he, h0⟩ | ⟨g, cap', cur, he, hbg, hgc, hn, hm, hs, ht⟩
  · omega
  cases he
  rw [Nat.mul_one] at ht hs
  have hgc' : w.heap[g]? = some (.cells cur 3 (0, 0)) := hgc
  refine (Any.slices_Delete_int del23 g 0 cap i (i + 1) xs w (holds_of_blockI hgc' ht) hn (by unfold maxLen at hm; omega) (by omega) (by omega)).mono ?_
  rintro e w' ⟨rfl, q, rfl⟩
  have hl : (xs.eraseIdx i).length = xs.length - 1 := List.length_eraseIdx_of_lt hi
  have e1 : xs.take i ++ xs.drop (i + 1) ++ List.replicate (i + 1 - i) 0 = xs.eraseIdx i ++ [0] := by
    rw [List.eraseIdx_eq_take_drop_succ, show i + 1 - i = 1 by omega]
    rfl
  rw [e1]
  have hb := heap_sortedI (w := w) (n := q) (os := #[]) (xs.eraseIdx i ++ [0]).toArray hgc'
  have hr : w.grownBy _ (some g) := grownBy_sortedI (w := w) (g := g) (n := q) (os := #[]) (xs.eraseIdx i ++ [0]).toArray
  have hgw : Sort.grow (Sort.putRow (Value.int .i64) (Sort.ahead w q) g 0 (xs.eraseIdx i ++ [0]).toArray) #[] = Sort.putRow (Value.int .i64) (Sort.ahead w q) g 0 (xs.eraseIdx i ++ [0]).toArray := by
    unfold Sort.grow
    rw [Array.append_empty]
  rw [hgw] at hb hr
  refine ⟨_, rfl, rfl, ?_, Fr.of_grown hr (fun k hk => hk)⟩
  unfold OwnI
  rw [hl, show xs.length - (i + 1 - i) = xs.length - 1 by omega]
  refine ⟨by rw [zv_length, hl, Nat.mul_one], .inr ⟨g, cap, _, rfl, hbg, hb, by omega, hm, by simp [Sort.putCells, hs], ?_⟩⟩
  rw [Nat.mul_one]
  have h3 := take_putCellsI cur (xs.eraseIdx i ++ [0]) (by rw [List.length_append, hl, hs]; simp; omega)
  rw [List.length_append, hl, List.length_singleton] at h3
  have h4 := congrArg (List.take (xs.length - 1)) h3
  rw [List.take_take, Nat.min_eq_left (by omega)] at h4
  rw [h4, List.map_append]
  exact List.take_left' (by rw [List.length_map, hl])
theorem row_cell {w : World} {base g n c : Nat} {t : TypeId} {vs : List Value} (h : w.ownsRow base t 1 (.slice (some ⟨g, 0, none⟩) n c) vs.length vs) {k : Nat} {u : Value} (hu : vs[k]? = some u) : w.cell? ⟨g, k, none⟩ = some u := by
  obtain ⟨a1, c1, he', -, -, -, h4⟩ := Rd.of_own h
  injection he' with q1 q2 q3
  have := h4 ⟨g, 0, none⟩ (by rw [← q1]) k _ hu
  rwa [Addr.add_lit, Nat.zero_add] at this
theorem num_set {w : World} {base g n c : Nat} {l : List Int} {i : Nat} {x : Int} (h : OwnI w base (.slice (some ⟨g, 0, none⟩) n c) (l.set i x)) (hi : i < l.length) : w.cell? ⟨g, i, none⟩ = some (.int .i64 x) := by
  have := Rd.num_at (OwnI.rd h) (i := i) (by rw [List.length_set]; exact hi)
  rwa [Nat.zero_add, getD_set_eq hi] at this
/-- What lend leaves. -/
def lendL (l above : List Int) (g : Nat) : List Int := if l.getD (othr above g) 0 = 3 then (l.set (othr above g) 2).set g 2 else l.set (min g (othr above g)) 3
set_option maxRecDepth 100000 in
set_option maxHeartbeats 2000000 in
theorem lend_any (gl cl : Nat) (va : Value) (l above : List Int) (g base : Nat) (w : World) (ho : OwnI w base (.slice (some ⟨gl, 0, none⟩) l.length cl) l) (ha : Rd w va (zv above)) (h2 : ∀ x ∈ above, x = 2 ∨ x = 3) (hs : above.sum = (l.length : Nat)) (hla : above.length ≤ 1048576) (hll : l.length ≤ 1048576) (hg : g < l.length) :
    Calls Try.prog 68 #[.slice (some ⟨gl, 0, none⟩) l.length cl, va, .int .i64 (g : Int)] w fun e w' => e = .returned (.bool (decide (l.getD (othr above g) 0 = 3))) ∧ OwnI w' base (.slice (some ⟨gl, 0, none⟩) l.length cl) (lendL l above g) ∧ Fr (fun b => (Value.slice (some ⟨gl, 0, none⟩) l.length cl).ownBlock = some b) w w' := by
  have HG := Lib.hid (group_any va above (g : Nat) w ha h2 hla (by omega) (by omega))
  obtain ⟨o1, o2, -, -⟩ := othr_spec h2 hs hg
  have HO := Lib.hid ho
  have HLd := Lib.hid (show lendL l above g = if l.getD (othr above g) 0 = 3 then (l.set (othr above g) 2).set g 2 else l.set (min g (othr above g)) 3 from rfl)
  obtain ⟨a1, c1, rfl, -, -⟩ := ha.numS
  have hco := ho.rd.num_at o1
  rw [Nat.zero_add] at hco
  have HX := Lib.hid (show othr above g = if (g : Int) = frm above (grpG above (g : Nat)) then g + 1 else g - 1 from rfl)
  have HF := Lib.hid (show ∀ f : Int, f = frm above (grpG above (g : Nat)) → 0 ≤ f ∧ f ≤ (g : Int) from by
    rintro f rfl
    have k1 := grp_spec above (g : Nat) (by omega) (by omega)
    exact ⟨frm_nonneg (pos_of h2) _, k1.2.1⟩)
  generalize hfq : frm above (grpG above (g : Nat)) = f at *
  have hfb := HF.out f rfl
  generalize othr above g = o at *
  generalize lendL l above g = l' at *
  clear h2 hs hla ho ha hfq HF
  by_cases hgf : (g : Int) = f
  · have ho1 : o = g + 1 := by rw [HX.out, if_pos hgf]
    subst ho1
    clear HX
    subst hgf
    by_cases h3 : l.getD (g + 1) 0 = 3
    · have HE := Lib.hid (HLd.out.trans (if_pos h3))
      have HD := Lib.hid (decide_eq_true h3)
      rw [h3] at hco
      clear HLd h3
      go_enter Try.func68, Try.ntmps68
      go_wp2_with fail
      refine HG.out.mono ?_
      rintro e wg ⟨rfl, rfl⟩
      go_wp2_with (first | (refine wpList_store_num rfl (.tmp 32) (.const (.int .i64 2)) rfl base gl l.length cl l (g + 1) o1 2 HO.out rfl rfl ?_; intro wS q1 q2; clear hco; have HQ1 := Lib.hid q1; have HQ2 := Lib.hid q2; clear q1 q2) | (refine wpList_store_num rfl (.tmp 33) (.const (.int .i64 2)) rfl base gl l.length cl (l.set (g + 1) 2) (g) (by rw [List.length_set]; exact hg) 2 HQ1.out rfl rfl ?_; intro wT q1 q2; have HQ3 := Lib.hid q1; have HQ4 := Lib.hid q2; clear q1 q2))
      go_ret
      exact ⟨by rw [HD.out]; rfl, by rw [HE.out]; exact HQ3.out, HQ2.out.trans HQ4.out⟩
    · have HE := Lib.hid (HLd.out.trans (if_neg h3))
      have HD := Lib.hid (decide_eq_false h3)
      clear HLd
      generalize l.getD (g + 1) 0 = x at hco h3 HD
      have HM := Lib.hid (show min (g) (g + 1) = g by omega)
      have hmin : min (g : Int) ((g : Int) + 1) = (g : Int) := by omega
      go_enter Try.func68, Try.ntmps68
      go_wp2_with fail
      refine HG.out.mono ?_
      rintro e wg ⟨rfl, rfl⟩
      go_wp2_with (first | (refine wpList_store_num rfl (.tmp 38) (.const (.int .i64 3)) rfl base gl l.length cl l (g) (by omega) 3 HO.out rfl rfl ?_; intro wS q1 q2; clear hco; have HQ1 := Lib.hid q1; have HQ2 := Lib.hid q2; clear q1 q2))
      go_ret
      exact ⟨by rw [HD.out]; rfl, by rw [HE.out, HM.out]; exact HQ1.out, HQ2.out⟩
  · have ho1 : g = o + 1 := by have := HX.out; rw [if_neg hgf] at this; omega
    subst ho1
    clear HX
    by_cases h3 : l.getD (o) 0 = 3
    · have HE := Lib.hid (HLd.out.trans (if_pos h3))
      have HD := Lib.hid (decide_eq_true h3)
      rw [h3] at hco
      clear HLd h3
      go_enter Try.func68, Try.ntmps68
      go_wp2_with fail
      refine HG.out.mono ?_
      rintro e wg ⟨rfl, rfl⟩
      go_wp2_with (first | (refine wpList_store_num rfl (.tmp 32) (.const (.int .i64 2)) rfl base gl l.length cl l (o) o1 2 HO.out rfl rfl ?_; intro wS q1 q2; clear hco; have HQ1 := Lib.hid q1; have HQ2 := Lib.hid q2; clear q1 q2) | (refine wpList_store_num rfl (.tmp 33) (.const (.int .i64 2)) rfl base gl l.length cl (l.set (o) 2) (o + 1) (by rw [List.length_set]; exact hg) 2 HQ1.out rfl rfl ?_; intro wT q1 q2; have HQ3 := Lib.hid q1; have HQ4 := Lib.hid q2; clear q1 q2))
      go_ret
      exact ⟨by rw [HD.out]; rfl, by rw [HE.out]; exact HQ3.out, HQ2.out.trans HQ4.out⟩
    · have HE := Lib.hid (HLd.out.trans (if_neg h3))
      have HD := Lib.hid (decide_eq_false h3)
      clear HLd
      generalize l.getD (o) 0 = x at hco h3 HD
      have HM := Lib.hid (show min (o + 1) (o) = o by omega)
      have hmin : min ((o : Int) + 1) (o : Int) = (o : Int) := by omega
      go_enter Try.func68, Try.ntmps68
      go_wp2_with fail
      refine HG.out.mono ?_
      rintro e wg ⟨rfl, rfl⟩
      go_wp2_with (first | (refine wpList_store_num rfl (.tmp 38) (.const (.int .i64 3)) rfl base gl l.length cl l (o) (by omega) 3 HO.out rfl rfl ?_; intro wS q1 q2; clear hco; have HQ1 := Lib.hid q1; have HQ2 := Lib.hid q2; clear q1 q2))
      go_ret
      exact ⟨by rw [HD.out]; rfl, by rw [HE.out, HM.out]; exact HQ1.out, HQ2.out⟩
end Go.Proofs.Ytpnckphfjcnooaa
