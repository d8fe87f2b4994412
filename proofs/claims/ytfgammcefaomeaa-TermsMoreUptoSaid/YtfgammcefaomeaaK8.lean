/- slices.Sorted over slices.Values. -/
import Derived.Test.YtfgammcefaomeaaKL
import Derived.RangeFuncNested
import Derived.RangeFuncBound
import Derived.RangeFuncCalls
import Derived.RangeFuncLeaves
import Derived.Shelf.Abstract
import Derived.Shelf.RegionOpen
import Derived.WalkKit
import Derived.OwnWalkIn
import Derived.TacticsInMore
import Derived.LoopNIn
import Derived.LoopIn
namespace Go.Proofs.Ytfgammcefaomeaa
open Go Go.RowKit Go.Shelf
set_option linter.unusedSimpArgs false
attribute [local go_sem] Oper.semAt_some
theorem own_kept {W W' : World} {row : Option Nat} {base : Nat} {v : Value} {xs : List Int} (h : OwnI W base v xs) (hg : W.grownBy W' row) (hr : ∀ r, row = some r → ∃ o : Obj, W.heap[r]? = some o ∧ o.isCells = false) : OwnI W' base v xs := by
  refine ⟨h.1, ?_⟩
  rcases h.2 with h | ⟨g, cap, cur, rfl, hb, hgc, hk⟩
  · exact .inl h
  · refine .inr ⟨g, cap, cur, rfl, hb, (hg.block g (heap_lt hgc) (fun e => ?_)).trans hgc, hk⟩
    obtain ⟨o, h1, h2⟩ := hr _ e.symm
    have h3 : W.heap[g]? = some o := h1
    rw [hgc] at h3
    cases h3
    cases h2
theorem cells_keptV {W W' : World} {row : Option Nat} {k : Nat} {cs : Array Value} {t : TypeId} {fr : Nat × Nat} (h : W.heap[k]? = some (.cells cs t fr)) (hg : W.grownBy W' row) (hr : ∀ r, row = some r → ∃ o : Obj, W.heap[r]? = some o ∧ o.isCells = false) : W'.heap[k]? = some (.cells cs t fr) :=
  (hg.block k (Array.getElem?_eq_some_iff.1 h).1 (fun e => by
    obtain ⟨o, h1, h2⟩ := hr k e.symm
    rw [h] at h1
    cases h1
    cases h2)).trans h
set_option maxRecDepth 100000 in
set_option maxHeartbeats 2000000 in
theorem vals_in (m l Bs : Nat) (v : Value) (xs : List Int) (w0 : World) (h : Rd w0 v (zv xs)) (hl : xs.length ≤ 9223372036854775000) (hBs : w0.heap[Bs]? = some (.cells #[v] 22 (0, 0)))
    (J Jx : List Int → World → Prop)
    (hY : ∀ pre x W1, J pre W1 → pre.length < xs.length → YieldAt Fence.wide (m - 1) Try.prog l #[.int .i64 x] W1 fun e W' => (e = .returned (.bool true) ∧ J (pre ++ [x]) W' ∧ Below w0.heap.size W1 W') ∨ (e = .returned (.bool false) ∧ Jx (pre ++ [x]) W'))
    (W : World) (hW : Below w0.heap.size w0 W) (h0 : J [] W) :
    CallsIn Fence.wide m Try.prog 88 #[.func (.yield l) #[] #[], .pointer (some ⟨Bs, 0, none⟩)] W fun e W' => (∃ v, e = .returned v) ∧ ((∃ ys, ys = xs ∧ J ys W') ∨ (∃ pre, True ∧ Jx pre W')) := by
  have hBl : Bs < w0.heap.size := (Array.getElem?_eq_some_iff.1 hBs).1
  have hc0 : W.cell? ⟨Bs, 0, none⟩ = some v := by
    have := (hW.block Bs hBl).trans hBs
    simp [World.cell?, this]
  obtain ⟨ao, cap, rfl, -, -⟩ := h.numS
  have HR := Lib.hid h
  have HW := Lib.hid hW
  have HY := Lib.hid hY
  have H0 := Lib.hid h0
  clear h hBs hW hY h0 hBl
  refine callsIn_of_wp Try.func88 rfl trivial ?_ rfl
  simp only [Try.ntmps88, List.size_toArray, List.length_cons, List.length_nil, Nat.reduceAdd, Nat.reduceSub, Array.replicate_succ, Array.replicate_zero, List.push_toArray, List.append_toArray, List.nil_append, List.cons_append]
  gi_wp2
  clear hc0
  gi_loopw [7] (fun i wr => ∃ k : Nat, k ≤ xs.length ∧ i = .int .i64 (k : Int) ∧ J (xs.take k) wr ∧ Below w0.heap.size w0 wr) (fun i _ => xs.length - (intOf i).toNat)
  case atStart => exact ⟨0, Nat.zero_le _, rfl, H0.out, HW.out⟩
  case round =>
    obtain ⟨k, hk, rfl, hJs, hK⟩ := hrel
    by_cases hlt : k < xs.length
    · have hlt' : (k : Int) < (xs.length : Nat) := by omega
      obtain ⟨b, o, rfl, -, -⟩ := (HR.out.grow hK).some_of (by rw [zv_length]; omega)
      have hc := (HR.out.grow hK).num_at hlt
      have HT := Lib.hid (show xs.take (k + 1) = xs.take k ++ [xs.getD k 0] by
        rw [List.take_add_one, List.getElem?_eq_getElem hlt, List.getD_eq_getElem?_getD, List.getElem?_eq_getElem hlt]
        rfl)
      obtain ⟨fn, tmps, assign, body, hy, hR⟩ := HY.out (xs.take k) (xs.getD k 0) wr hJs (by rw [List.length_take]; omega)
      have HK := Lib.hid hK
      generalize xs.getD k 0 = z at *
      clear hK hJs
      gi_wp2
      refine ⟨fun h => by simp [Fence.wide] at h, hR.mono ?_⟩
      rintro e W3 (⟨rfl, hJ3, hk3⟩ | ⟨rfl, hJx3⟩)
      · have HJ3 := Lib.hid hJ3
        have HK3 := Lib.hid hk3
        clear hJ3 hk3
        gi_wp2
        go_roundw
        case rel => exact ⟨k + 1, by omega, by go_num, by rw [HT.out]; exact HJ3.out, HK.out.trans HK3.out⟩
        case measure => simp [intOf]; omega
      · have HJ3 := Lib.hid hJx3
        clear hJx3
        gi_wp2
        refine bodyPost_ret (results_none rfl _ _ _) rfl ?_
        exact ⟨⟨_, rfl⟩, .inr ⟨_, trivial, HJ3.out⟩⟩
    · obtain rfl : k = xs.length := by omega
      have hlt' : ¬ ((xs.length : Nat) : Int) < (xs.length : Nat) := by omega
      rw [List.take_length] at hJs
      have HJ := Lib.hid hJs
      clear hJs hK
      gi_wp2
      go_end0
      exact ⟨⟨_, rfl⟩, .inl HJ.out⟩
theorem vals_stops (m Bs : Nat) (v : Value) (xs : List Int) (w0 : World) (h : Rd w0 v (zv xs)) (hl : xs.length ≤ 9223372036854775000) (hBs : w0.heap[Bs]? = some (.cells #[v] 22 (0, 0))) :
    SeqStopsK Fence.wide m Try.prog 88 #[.pointer (some ⟨Bs, 0, none⟩)] (fun x : Int => #[.int .i64 x]) (Below w0.heap.size) (fun ys => ys = xs) (fun _ => True) xs.length w0 := fun l J Jx W hW _ _ hY h0 =>
  vals_in m l Bs v xs w0 h hl hBs J Jx hY W hW h0
theorem vals_any (ao : Option Addr) (n c : Nat) (w : World) :
    Calls Try.prog 55 #[.slice ao n c] w fun e w' => e = .returned (.func (.func 88) #[] #[.pointer (some ⟨w.heap.size, 0, none⟩)]) ∧ Aft w w' ∧ w'.heap[w.heap.size]? = some (.cells #[.slice ao n c] 22 (0, 0)) := by
  have hmf : ∀ (fn : Fn) (first cap : Array Value) (w : World), (Instr.makeFunc fn first cap).run Try.prog w = .ok (.func fn first cap) w := fun _ _ _ _ => rfl
  go_enter Try.func55, Try.ntmps55
  go_wp2_with fail
  go_ret
  exact ⟨rfl, Aft.alloc _ _, heap_alloc_new w _⟩
theorem box_stays {W w3 : World} {g : Nat} {v u : Value} {o : Obj} {t : TypeId} (hu : W.heap[g]? = some (.cells #[u] t (0, 0))) (hg : (W.alloc o).grownBy w3 v.ownBlock) (hne : v.ownBlock = none ∨ v.ownBlock ≠ some g) : w3.heap[g]? = some (.cells #[u] t (0, 0)) := by
  have hl := heap_lt hu
  refine (hg.block g (by rw [World.size_alloc]; omega) (fun e => ?_)).trans ((Below.heap_alloc _ _ _ hl).trans hu)
  rcases hne with q | q
  · rw [q] at e
    cases e
  · exact q e.symm
/-- What lies between two rounds of AppendSeq. -/
structure ApV (Bx : Nat) (w : World) (pre : List Int) (W : World) : Prop where
  box : ∃ v, W.heap[Bx]? = some (.cells #[v] 22 (0, 0)) ∧ OwnI W w.heap.size v pre
  bl : Below w.heap.size w W
theorem ApV.own (Bx : Nat) (w : World) (B : Nat) (hB : w.heap.size ≤ B) : OwnFrom B (fun (s : List Int) W => ApV Bx w s W) := fun s X Y row hs hg hr => by
  have hr2 : ∀ r, row = some r → ∃ o : Obj, X.heap[r]? = some o ∧ o.isCells = false := fun r e => (hr r e).2
  obtain ⟨v, h1, h2⟩ := hs.box
  exact ⟨⟨v, cells_keptV h1 hg hr2, own_kept h2 hg hr2⟩, (ownFrom_below (β := Unit) (w₀ := w) (Nat.le_refl _) hB) () X Y row hs.bl hg hr⟩
set_option maxRecDepth 100000 in
set_option maxHeartbeats 2000000 in
theorem appendV_in (Bs : Nat) (v : Value) (xs : List Int) (w : World) (h : Rd w v (zv xs)) (hl : xs.length ≤ 17592186044415) (hBs : w.heap[Bs]? = some (.cells #[v] 22 (0, 0))) :
    Calls Try.prog 95 #[.slice none 0 0, .func (.func 88) #[] #[.pointer (some ⟨Bs, 0, none⟩)]] w fun e w' => ∃ u, e = .returned u ∧ OwnI w' w.heap.size u xs ∧ Aft w w' := by
  obtain ⟨i0, hi, hz0, hz1, hz2⟩ := info_parts info_int
  have HSq := Lib.hid (fun m => vals_stops m Bs v xs w h (by omega) hBs)
  clear h hBs
  refine (callsIn_wide (n := 9)).1 (callsIn_of_wp_marks Try.func95 rfl trivial ?_ rfl)
  simp only [Try.ntmps95, List.size_toArray, List.length_cons, List.length_nil, Nat.reduceAdd, Nat.reduceSub, Array.replicate_succ, Array.replicate_zero, List.push_toArray, List.append_toArray, List.nil_append, List.cons_append]
  gi_wp2
  obtain ⟨w1, hw1⟩ : ∃ w1, w1 = w.alloc (.cells #[.slice none 0 0] 22) := ⟨_, rfl⟩
  rw [← hw1]
  have hb1 : Below w.heap.size w w1 := by rw [hw1]; exact Aft.alloc w _
  have hx1 : w1.heap[w.heap.size]? = some (.cells #[.slice none 0 0] 22 (0, 0)) := by rw [hw1]; exact heap_alloc_new w _
  clear hw1
  refine wpIn_rangeFunc_ownH rfl (by decide) (gf := 88) (lb := #[.pointer (some ⟨Bs, 0, none⟩)]) rfl trivial (enters_of Try.func88 (by kernel_rfl) rfl)
    (HSq.out 8) (fun h k => h.trans k) (fun W l o o' h1 h2 h3 h4 => belowK_b (w := w1) hb1.size W l o o' h1 h2 h3 h4) hb1 (fun _ => rfl)
    (fun pre W => ApV w.heap.size w pre W) (fun _ _ _ => False) (ApV.own _ _ _ hb1.size) (fun _ _ _ _ _ hs _ _ => hs) ?h0
    (fun x a' _ => a' = { tmps := #[.slice none 0 0, .func (.func 88) #[] #[.pointer (some ⟨Bs, 0, none⟩)], .pointer (some ⟨w.heap.size, 0, none⟩), undef, .slice none 0 0, .int .i64 x, .func (.func 88) #[] #[.pointer (some ⟨Bs, 0, none⟩)], .int .i64 x, undef, undef, undef, undef, undef], defers := [] })
    (fun _ _ _ _ _ _ hs _ _ => hs) ?assign ?body ?done ?stop
  case h0 => exact ⟨⟨_, hx1, OwnI.nil _ _⟩, hb1⟩
  case assign =>
    intro l pre x W K hI hK
    have HK := Lib.hid hK
    have HI := Lib.hid hI
    clear hK hI
    gi_wp2
    exact HK.out _ _ (KeepsFrom.refl _ _) (Below.refl _ _) HI.out rfl
  case body =>
    rintro l pre x a' W hlw - hI rfl hlt
    obtain ⟨u, hu, ho⟩ := hI.box
    obtain ⟨ua, uc, rfl⟩ := ho.shape
    have hc : W.cell? ⟨w.heap.size, 0, none⟩ = some (.slice ua pre.length uc) := by simp [World.cell?, hu]
    have HU := Lib.hid hu
    have HO := Lib.hid ho
    have HB := Lib.hid hI.bl
    have hlt2 : pre.length < 17592186044415 := by omega
    have hls : w.heap.size < W.heap.size := heap_lt hu
    have HNe := Lib.hid (show (Value.slice ua pre.length uc).ownBlock = none ∨ (Value.slice ua pre.length uc).ownBlock ≠ some w.heap.size from ownsRow_ne_a ho hu (fun cur e => by injection e with e1 e2 e3; exact absurd e2 (by decide)))
    have HA := World.ownsRow.alloc (show W.ownsRow w.heap.size 3 1 (.slice ua pre.length uc) pre.length (zv pre) from ho) (.cells #[.int .i64 x] 3)
    clear hu ho hI
    gi_wp2_with (first | (gi_at_builtin; refine wpListIn_append_own _ rfl _ _ 22 rfl w.heap.size 3 i0 (.int .i64 0) 1 8 Try.underlying22 hi hz0 hz1 hz2 rfl (by decide) _ _ _ rfl HA ⟨W.heap.size, 0, none⟩ 1 1 [.int .i64 x] rfl rfl (cell_one_new _ _ _) (by simp [Value.oneCell']) (by unfold maxLen; omega) (by omega) (by simp; omega) ?_; intro v' w3 hown' hg3 hnil3; obtain ⟨xa, xc, hxv⟩ := own_shape hown'; subst hxv; have hg4 : (W.alloc (.cells #[.int .i64 x] 3)).grownBy w3 (Value.slice ua pre.length uc).ownBlock := hg3; have hu3 := box_stays HU.out hg4 HNe.out; obtain ⟨hc3, hf3⟩ := cell_of_box_a hu3; have HU3 := Lib.hid hu3; have HO3 := Lib.hid hown'; have HG3 := Lib.hid hg4; clear hu3 hown' hg3 hg4 hnil3))
    have hall : W.grownBy w3 (Value.slice ua pre.length uc).ownBlock := (World.grownBy_alloc _ _ _).trans HG3.out
    have hko : KeepsOthers W w3 := KeepsOthers.of_grownBy hall fun j o hj ho => by
      rcases HO.out.2 with ⟨q, -⟩ | ⟨g, cap, cur, q, -, hgc, -⟩
      · rw [q] at hj
        cases hj
      · rw [q] at hj
        cases hj
        rw [show W.heap[Addr.block ⟨g, 0, none⟩]? = _ from hgc] at ho
        cases ho
        rfl
    have hbl : Below w.heap.size W w3 := (Below.refl _ W).grown hall (Nat.le_of_lt hls) (fun k e => (HO.out.lt e).1)
    have hO4 : OwnI w3 w.heap.size (.slice xa (pre.length + 1) xc) (pre ++ [x]) := by
      unfold OwnI
      rw [List.length_append, zv_append]
      exact HO3.out
    have hne4 := ownsRow_ne_a hO4 HU3.out (fun cur e => by injection e with e1 e2 e3; exact absurd e2 (by decide))
    refine ⟨(hko.trans (KeepsOthers.setCell _ _ _)).from _, hbl.trans ((Below.refl _ w3).setCell (p := ⟨w.heap.size, 0, none⟩) (Nat.le_refl _) _), ⟨_, heap_setCell_box_a _ HU3.out, hO4.keep fun g hg => ?_⟩, (HB.out.trans hbl).trans ((Below.refl _ w3).setCell (p := ⟨w.heap.size, 0, none⟩) (Nat.le_refl _) _)⟩
    refine Below.heap_setCell _ _ _ g fun e => ?_
    subst e
    rcases hne4 with q | q
    · rw [q] at hg
      cases hg
    · exact q hg
  case done =>
    rintro D ys W hD rfl hI hK
    obtain ⟨u, hu, ho⟩ := hI.box
    have hc : W.cell? ⟨w.heap.size, 0, none⟩ = some u := by simp [World.cell?, hu]
    have HO := Lib.hid ho
    have HB := Lib.hid hI.bl
    have HK := Lib.hid hK
    clear hu ho hI hK
    gi_wp2
    refine ⟨by simp, .inl ⟨_, _, rfl, run_takeDeferred HK.out, ?_⟩⟩
    exact ⟨_, results_tmp rfl _ _ _, u, rfl, own_kept HO.out (grownBy_putObj' W D _) (fun r e => by cases e; exact ⟨_, HK.out, rfl⟩), Below.trans HB.out (belowK_b (w := w1) hb1.size W D _ _ hD HK.out rfl rfl)⟩
  case stop =>
    rintro D c pre W _ _ h _
    exact h.elim
end Go.Proofs.Ytfgammcefaomeaa
