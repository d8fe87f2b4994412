/- coterieref11: may, below, Nodes. -/
import Derived.Test.YtejdkmfbncedkaaR11a
import Derived.Test.YtejdkmfbncedkaaT18
import Derived.Test.YtejdkmfbncedkaaB5
namespace Go.Proofs.Ytejdkmfbncedkaa
open Go Go.RowKit
set_option linter.unusedSimpArgs false
set_option maxRecDepth 100000 in
set_option maxHeartbeats 1000000 in
theorem rmay_any (kind : Int) (vi vl : Value) (ids : List Int) (ls : List (List Int)) (w : World) (hi : Rd w vi (zv ids)) (hl : RdLs w vl ls) (hs : Small ids ls) :
    Calls Try.prog 72 #[.int .i64 kind, .agg (shpL vi vl).toArray] w fun e w' => e = .returned (.bool (decide (mayE kind ids ls = 0))) ∧ Aft w w' := by
  have HCk := Lib.hid (fun (wx : World) (ha : Aft w wx) => rcheck_any vi vl ids ls wx (hi.grow ha) (hl.aft ha) hs)
  obtain ⟨ao, cap, rfl, -, -⟩ := hi.numS
  obtain ⟨bo, dap, rfl, -⟩ := hl.shape
  have HL := Lib.hid (Led.start w)
  clear hi hl hs
  by_cases h12 : kind = 1 ∨ kind = 2
  · have HE := Lib.hid (show mayE kind ids ls = chkT ids ls from if_pos h12)
    rcases h12 with rfl | rfl
    all_goals
      go_enter Try.func72, Try.ntmps72
      go_wp2_with (first | (refine wpList_boxO rfl 26 (.tmp 1) rfl (.agg (shpL (.slice ao ids.length cap) (.slice bo ls.length dap)).toArray) rfl (.cells (shpL (.slice ao ids.length cap) (.slice bo ls.length dap)).toArray 26) (box_shp _) ?_; intro w' aa gg zz; replace HL := Lib.hid (HL.out.alloc aa gg.out); clear aa gg zz; try simp only [List.nil_append, List.cons_append, List.set_cons_zero, List.set_cons_succ] at HL) | (refine wpList_load_rowG (by kernel_rfl) 26 (.tmp 3) rfl _ rfl _ _ _ _ (HL.out.get 0 rfl) Try.underlying26 rfl (shp_info _ _) ?_))
      refine (HCk.out _ HL.out.aft).mono ?_
      rintro e w2 ⟨rfl, h2⟩
      replace HL := Lib.hid (HL.out.call h2)
      clear h2
      go_wp2_with fail
      go_ret
      exact ⟨by rw [HE.out]; rcases chkT_or ids ls with h | h <;> rw [h] <;> rfl, HL.out.aft⟩
  · have HE := Lib.hid (show mayE kind ids ls = 1 from if_neg h12)
    have h1 : ¬ kind = 1 := fun q => h12 (.inl q)
    have h2 : ¬ kind = 2 := fun q => h12 (.inr q)
    have hb1 : (kind == 1) = false := by simp [h1]
    have hb2 : (kind == 2) = false := by simp [h2]
    clear h12
    go_enter Try.func72, Try.ntmps72
    go_wp2_with (first | (refine wpList_boxO rfl 26 (.tmp 1) rfl (.agg (shpL (.slice ao ids.length cap) (.slice bo ls.length dap)).toArray) rfl (.cells (shpL (.slice ao ids.length cap) (.slice bo ls.length dap)).toArray 26) (box_shp _) ?_; intro w' aa gg zz; replace HL := Lib.hid (HL.out.alloc aa gg.out); clear aa gg zz; try simp only [List.nil_append, List.cons_append, List.set_cons_zero, List.set_cons_succ] at HL))
    go_ret
    exact ⟨by rw [HE.out]; rfl, HL.out.aft⟩
set_option maxRecDepth 100000 in
theorem run_cutToI {ao : Option Addr} {len cap n : Nat} (h : n ≤ cap) (wx : World) : (Instr.slice 22 (.slice ao len cap) none (some (.int .i64 (n : Int))) none).run Try.prog wx = .ok (.slice ao n cap) wx := by
  obtain ⟨iB, hiB, -⟩ := info_parts info_int
  have := cut_to (P := Try.prog) (ao := ao) (len := len) (cap := cap) (n := n) Try.underlying22 h wx hiB
  rw [run_sliceAt_slice wx 22 _ _ _ _ Try.underlying22] at this
  exact this
/-- The list, and a group's kids, behind so many rounds. -/
def rbF (kind : Int) (ls : List (List Int)) (L at' : Nat) (l : List Nd) : Nat → List Nd × List Nat
  | 0 => (l, [])
  | i + 1 =>
    let p := below kind ls L (fstN ls L at' + i) (rbF kind ls L at' l i).1
    let ks := (rbF kind ls L at' l i).2 ++ [p.length - 1]
    if kind = 2 ∧ (ls.getD L []).getD at' 0 = 3 ∧ i = 1 then (abvN (hdN (L + 1) at' true) p ks, [p.length]) else (p, ks)
theorem rbF_go {kind : Int} {ls : List (List Int)} {L at' : Nat} {l : List Nd} {i : Nat} (h : ¬ (kind = 2 ∧ (ls.getD L []).getD at' 0 = 3 ∧ i = 1)) {q : List Nd} {ks : List Nat} (hq : rbF kind ls L at' l i = (q, ks)) :
    rbF kind ls L at' l (i + 1) = (below kind ls L (fstN ls L at' + i) q, ks ++ [(below kind ls L (fstN ls L at' + i) q).length - 1]) := by
  simp only [rbF]
  rw [if_neg h, hq]
theorem rbF_red {kind : Int} {ls : List (List Int)} {L at' : Nat} {l : List Nd} (hk : kind = 2) (h3 : (ls.getD L []).getD at' 0 = 3) {q : List Nd} {ks : List Nat} (hq : rbF kind ls L at' l 1 = (q, ks)) :
    rbF kind ls L at' l 2 = (abvN (hdN (L + 1) at' true) (below kind ls L (fstN ls L at' + 1) q) (ks ++ [(below kind ls L (fstN ls L at' + 1) q).length - 1]), [(below kind ls L (fstN ls L at' + 1) q).length]) := by
  rw [show (2 : Nat) = 1 + 1 from rfl]
  show (if _ then _ else _) = _
  rw [if_pos ⟨hk, h3, rfl⟩, hq]
theorem rbF_end {n : Nat} {ls : List (List Int)} (h : Fit n ls) {kind : Int} (hk : kind = 1 ∨ kind = 2) {L at' : Nat} (hL : L < ls.length) (ha : at' < cntN n ls (L + 1)) (l : List Nd) (m : Nat) (hm : (ls.getD L []).getD at' 0 = (m : Int)) :
    below kind ls (L + 1) at' l = abvN (hdN (L + 1) at' false) (rbF kind ls L at' l m).1 (rbF kind ls L at' l m).2 := by
  obtain ⟨x, hx, hx23, -, -⟩ := fit_step h hL ha
  have hmx : m = x := by omega
  subst hmx
  have h0 := rbF_go (kind := kind) (ls := ls) (L := L) (at' := at') (l := l) (i := 0) (fun q => by have := q.2.2; omega) (q := l) (ks := []) rfl
  rcases hx23 with rfl | rfl
  · have h2 : (ls.getD L []).getD at' 0 = 2 := hx
    have h1 := rbF_go (i := 1) (fun q => by have := q.2.1; omega) h0
    rw [h1]
    simp only [below]
    rw [if_pos h2]
    rfl
  · have h3 : (ls.getD L []).getD at' 0 = 3 := hx
    have n2 : ¬ (ls.getD L []).getD at' 0 = 2 := by omega
    rcases hk with rfl | rfl
    · have h1 := rbF_go (i := 1) (fun q => by have := q.1; omega) h0
      have h4 := rbF_go (i := 2) (fun q => by have := q.1; omega) h1
      rw [h4]
      simp only [below]
      rw [if_neg n2, if_pos trivial]
      rfl
    · have h1 := rbF_red rfl h3 h0
      have h4 := rbF_go (i := 2) (fun q => by have := q.2.2; omega) h1
      rw [h4]
      simp only [below]
      rw [if_neg n2, if_neg (by decide), abvN_length, Nat.add_sub_cancel]
      rfl
/-- What stays within bounds: each place told is of the list. -/
structure RbOk (m : Nat) (l : List Nd) (p : List Nd × List Nat) : Prop where
  lo : l.length ≤ p.1.length
  kid : ∀ k ∈ p.2, k < p.1.length
  few : p.2.length ≤ m
theorem rbF_ok (kind : Int) (ls : List (List Int)) (L at' : Nat) (l : List Nd) : ∀ i, RbOk i l (rbF kind ls L at' l i) ∧ (0 < i → 0 < (rbF kind ls L at' l i).2.length)
  | 0 => ⟨⟨Nat.le_refl _, fun k hk => (by cases hk), Nat.le_refl _⟩, fun h => absurd h (Nat.lt_irrefl _)⟩
  | i + 1 => by
    obtain ⟨ih, -⟩ := rbF_ok kind ls L at' l i
    have hb := (below_length kind ls L (fstN ls L at' + i) (rbF kind ls L at' l i).1).1
    have h1 := ih.lo
    have h2 := ih.few
    have hkid : ∀ k ∈ (rbF kind ls L at' l i).2 ++ [(below kind ls L (fstN ls L at' + i) (rbF kind ls L at' l i).1).length - 1], k < (below kind ls L (fstN ls L at' + i) (rbF kind ls L at' l i).1).length := by
      intro k hk
      rcases List.mem_append.1 hk with hk | hk
      · have := ih.kid k hk
        omega
      · rw [List.mem_singleton.1 hk]
        omega
    simp only [rbF]
    split
    · refine ⟨⟨?_, ?_, ?_⟩, fun _ => Nat.one_pos⟩
      · rw [abvN_length]
        omega
      · intro k hk
        rw [List.mem_singleton.1 hk, abvN_length]
        omega
      · show 1 ≤ i + 1
        omega
    · refine ⟨⟨?_, hkid, ?_⟩, fun _ => ?_⟩
      · show _ ≤ (below _ _ _ _ _).length
        omega
      · rw [List.length_append]
        exact Nat.succ_le_succ h2
      · rw [List.length_append]
        exact Nat.succ_pos _
theorem rbF_len (kind : Int) (ls : List (List Int)) (L at' : Nat) (l : List Nd) : ∀ i, (rbF kind ls L at' l i).1.length + i ≤ l.length + i * (2 * 3 ^ L) + i
  | 0 => by simp [rbF]
  | i + 1 => by
    have ih := rbF_len kind ls L at' l i
    have hb := (below_length kind ls L (fstN ls L at' + i) (rbF kind ls L at' l i).1).2
    rw [Nat.succ_mul]
    simp only [rbF]
    split
    · rw [abvN_length]
      omega
    · show (below _ _ _ _ _).length + _ ≤ _
      omega
end Go.Proofs.Ytejdkmfbncedkaa
