/- red.nodes whole. -/
import Derived.Test.YtpnckphfjcnooaaN7
namespace Go.Proofs.Ytpnckphfjcnooaa
open Go Go.RowKit
set_option linter.unusedSimpArgs false
theorem results_cell_one {P : Program} {fn : Func} {p : Tmp} {ty e : TypeId} (h : fn.results = #[.cell p ty]) (hu : P.underlying ty = some (.slice e)) (tmps : Array Value) (w : World) (g : Nat) (v : Value) (hp : tmps.getD p undef = .pointer (some ⟨g, 0, none⟩)) (hc : w.cell? ⟨g, 0, none⟩ = some v) :
    (results fn tmps).run P w = .ok v w := by
  have hp' : tmps[p]?.getD undef = .pointer (some ⟨g, 0, none⟩) := by simpa using hp
  simp [results, h, hp', asAddr, loadVar, isAgg, go_sem, underlying, hu, hc]
theorem box_int1 (x : Int) (w : World) : (Instr.box 3 (.int .i64 x)).run Try.prog w = .ok (.pointer (some ⟨w.heap.size, 0, none⟩)) (w.alloc (.cells [.int .i64 x].toArray 3)) := by kernel_rfl
theorem alloc_nodes (w : World) : (Instr.alloc 37 true (.tuple #[])).run Try.prog w = .ok (.pointer (some ⟨w.heap.size, 0, none⟩)) (w.alloc (.cells [.slice none 0 0].toArray 37)) := by kernel_rfl
theorem alloc_fnA (w : World) : (Instr.alloc 91 true (.tuple #[])).run Try.prog w = .ok (.pointer (some ⟨w.heap.size, 0, none⟩)) (w.alloc (.cells [.nilFunc].toArray 91)) := by kernel_rfl
theorem alloc_fnD (w : World) : (Instr.alloc 92 true (.tuple #[])).run Try.prog w = .ok (.pointer (some ⟨w.heap.size, 0, none⟩)) (w.alloc (.cells [.nilFunc].toArray 92)) := by kernel_rfl
theorem alloc_intsV (w : World) : (Instr.alloc 22 true (.tuple #[])).run Try.prog w = .ok (.pointer (some ⟨w.heap.size, 0, none⟩)) (w.alloc (.cells [.slice none 0 0].toArray 22)) := by kernel_rfl
theorem wpList_makeIntsB {ops : Array Oper} {rest : List Oper} {o : Oper} {a : Act} {w : World} {Q : Exit → Act → World → Prop} (hw : Region.wanted o (yielded ops a.tmps) = true) (x y : Operand) (ho : o.op = .makeSlice 22 x y) (n : Nat) (z : Int) (hz : z = (n : Int)) (hx : a.eval x = .int .i64 z) (hy : a.eval y = .int .i64 z) (hn : n ≤ 16777216)
    (h : ∀ w', Aft w w' → Hid (w'.heap[w.heap.size]? = some (.cells (zv (List.replicate n 0)).toArray 3 (0, 0))) → wpList Try.prog ops Q rest (a.put o.dst (.slice (some ⟨w.heap.size, 0, none⟩) n n)) w') : wpList Try.prog ops Q (o :: rest) a w := by
  subst hz
  obtain ⟨i0, hi0, hz1, hz2, hz3⟩ := info_parts info_int
  have hr := run_make (P := Try.prog) w 22 3 i0 (.int .i64 0) Try.underlying22 hi0 hz1 .i64 .i64 (n : Int) (n : Int) (by omega) (by omega) (by rw [hz3]; omega) (by omega)
  rw [hz2, Int.toNat_natCast, made_zeros] at hr
  unfold wpList
  rw [if_pos hw]
  refine .inl (wp_noOut ?_)
  unfold Oper.wp execOp
  simp only [ho, hx, hy, hr, Sem.run_bind, Result.andThen_ok, Sem.run_pure]
  exact h _ (Aft.alloc w _) (Lib.hid (heap_alloc_new w _))
theorem cnt_pos {n : Nat} {ls : List (List Int)} (h : Fit n ls) (hn : 0 < n) : ∀ l, l ≤ ls.length → 0 < cntN n ls l
  | 0, _ => hn
  | l + 1, hl => by
    have h1 := cnt_pos h hn l (by omega)
    have h2 := h.sum l (by omega)
    show 0 < (ls.getD l []).length
    refine Nat.pos_of_ne_zero fun e => ?_
    rw [List.eq_nil_of_length_eq_zero e] at h2
    simp at h2
    omega
theorem al_zero (ls : List (List Int)) (m : Nat) : ∀ L, Al ls L 0 (List.replicate m 0)
  | 0 => by
    show (List.replicate m (0 : Int)).getD 0 0 = 0
    rw [List.getD_eq_getElem?_getD, List.getElem?_replicate]
    split <;> rfl
  | L + 1 => by
    refine ⟨?_, ?_⟩
    · rw [List.getD_eq_getElem?_getD, List.getElem?_replicate]
      split <;> rfl
    · have : fstN ls L 0 = 0 := by simp [fstN, frm]
      rw [this]
      exact al_zero ls m L
theorem down_any (w0 : World) (bk bs ba bv gn bn bd base : Nat) (kind : Int) (vi vl : Value) (n : Nat) (ls : List (List Int)) (hn : n ≤ 1000) (hfit : Fit n ls) (hrd : RdLs w0 vl ls) (hkd : kind = 1 ∨ kind = 2) (hls : ls.length ≤ 1000) :
    ∀ (L at' : Nat) (va : Value) (ps : List (Nd × Value)) (nx : List Int) (w : World), DnIn w0 bk bs ba bv gn bn bd base kind vi vl n ls L at' va ps nx w → Calls Try.prog 75 (dnArgs bk bs ba bv bn bd L) w (DnSays w0 bk bs ba bv gn bn bd base kind vi vl ls L at' va ps nx w)
  | 0, at', va, ps, nx, w, h => down_zero w0 bk bs ba bv gn bn bd base kind vi vl n ls hn at' va ps nx w h
  | L + 1, at', va, ps, nx, w, h => down_succ w0 bk bs ba bv gn bn bd base kind vi vl n ls hn hfit hrd hkd hls L (down_any w0 bk bs ba bv gn bn bd base kind vi vl n ls hn hfit hrd hkd hls L) at' va ps nx w h
/-- A tree's nodes. -/
def nodesL (kind : Int) (ids : List Int) (ls : List (List Int)) : List Nd := if ids.length = 0 then [] else below kind ls ls.length 0 []
theorem lv_nine2 {ids : List Int} {ls : List (List Int)} (h : OkT ids ls) : ls.length ≤ 9 := by
  by_cases hz : ids.length = 0
  · have h2 := h.2
    rw [hz] at h2
    rw [okLv_zero h2]
    exact Nat.zero_le _
  · have h2 := okLv_high ls ids.length h.2 (by omega)
    refine Nat.le_of_not_lt fun q => ?_
    have h3 : (2 : Int) ^ 10 ≤ 2 ^ ls.length := by
      rw [show ls.length = 10 + (ls.length - 10) by omega, Int.pow_add]
      have h3 : ∀ n : Nat, (1 : Int) ≤ 2 ^ n := fun n => by
        induction n with
        | zero => decide
        | succ n ih => rw [Int.pow_succ]; omega
      have h3 := h3 (ls.length - 10)
      omega
    have := h.1.1
    have h4 : (2 : Int) ^ 10 = 1024 := by decide
    omega
def NdSays (kind : Int) (ids : List Int) (ls : List (List Int)) (w : World) (e : Ending) (w' : World) : Prop := ∃ v ps, e = .returned v ∧ OwnN w' w.heap.size v ps ∧ ps.map Prod.fst = nodesL kind ids ls ∧ Aft w w'
set_option maxRecDepth 100000 in
set_option maxHeartbeats 1000000 in
theorem nodes_any (kind : Int) (hkd : kind = 1 ∨ kind = 2) (vi vl : Value) (ids : List Int) (ls : List (List Int)) (w : World) (hi : Rd w vi (zv ids)) (hl : RdLs w vl ls) (hok : OkT ids ls) :
    Calls Try.prog 54 #[.int .i64 kind, .agg (shpL vi vl).toArray] w (NdSays kind ids ls w) := by
  have HOk := Lib.hid hok
  have HFit := Lib.hid (okLv_fit ls ids.length hok.2)
  have HRd := Lib.hid hl
  have HKd := Lib.hid hkd
  have h9 := lv_nine2 hok
  have H9 := Lib.hid h9
  obtain ⟨ao, cap, rfl, -, -⟩ := hi.numS
  obtain ⟨bo, dap, rfl, -⟩ := hl.shape
  have hmf : ∀ (fn : Fn) (first cap : Array Value) (w : World), (Instr.makeFunc fn first cap).run Try.prog w = .ok (.func fn first cap) w := fun _ _ _ _ => rfl
  have HL := Lib.hid (Led.start w)
  clear hok hi hl hkd
  go_enter Try.func54, Try.ntmps54
  go_upto_region 5 with (first | (refine wpList_boxO rfl 3 (.tmp 0) rfl (.int .i64 kind) rfl (.cells [.int .i64 kind].toArray 3) (box_int1 _) ?_; intro w1 aa gg zz; replace HL := Lib.hid (HL.out.alloc aa gg.out); clear aa gg zz; try simp only [List.nil_append, List.cons_append, List.set_cons_zero, List.set_cons_succ] at HL) | (refine wpList_boxO rfl 26 (.tmp 1) rfl (.agg (shpL (.slice ao ids.length cap) (.slice bo ls.length dap)).toArray) rfl (.cells (shpL (.slice ao ids.length cap) (.slice bo ls.length dap)).toArray 26) (box_shp _) ?_; intro w2 aa gg zz; replace HL := Lib.hid (HL.out.alloc aa gg.out); clear aa gg zz; try simp only [List.nil_append, List.cons_append, List.set_cons_zero, List.set_cons_succ] at HL) | (refine wpList_allocO rfl 37 rfl (.cells [.slice none 0 0].toArray 37) alloc_nodes ?_; intro w3 aa gg zz; replace HL := Lib.hid (HL.out.alloc aa gg.out); clear aa gg zz; try simp only [List.nil_append, List.cons_append, List.set_cons_zero, List.set_cons_succ] at HL) | (refine wpList_allocO rfl 91 rfl (.cells [.nilFunc].toArray 91) alloc_fnA ?_; intro w4 aa gg zz; replace HL := Lib.hid (HL.out.alloc aa gg.out); clear aa gg zz; try simp only [List.nil_append, List.cons_append, List.set_cons_zero, List.set_cons_succ] at HL) | (refine wpList_store_cellJ rfl 91 (.tmp 5) (.tmp 8) rfl _ 0 (fnA w2.heap.size) rfl rfl _ _ (by simp) (HL.out.get 3 rfl) (by kernel_rfl) rfl rfl ?_; intro w5 b1 b2 b3; replace HL := Lib.hid (HL.out.store 3 rfl b1 b2 b3); clear b1 b2 b3; try simp only [List.nil_append, List.cons_append, List.set_cons_zero, List.set_cons_succ] at HL; have hcs := cell_part (n := 1) (HL.out.get 1 rfl) rfl) | (refine wpList_makeIntsB (by kernel_rfl) (.tmp 12) (.tmp 12) rfl (ls.length + 1) ((ls.length : Int) + 1) rfl rfl rfl (by omega) ?_; intro w6 aS gS; replace HL := Lib.hid (HL.out.alloc aS gS.out); clear aS gS hcs; try simp only [List.nil_append, List.cons_append, List.set_cons_zero, List.set_cons_succ] at HL) | (refine wpList_allocO rfl 22 rfl (.cells [.slice none 0 0].toArray 22) alloc_intsV ?_; intro w7 aa gg zz; replace HL := Lib.hid (HL.out.alloc aa gg.out); clear aa gg zz; try simp only [List.nil_append, List.cons_append, List.set_cons_zero, List.set_cons_succ] at HL) | (refine wpList_store_cellJ rfl 22 (.tmp 6) (.tmp 13) rfl _ 0 (.slice (some ⟨w5.heap.size, 0, none⟩) (ls.length + 1) (ls.length + 1)) rfl rfl _ _ (by simp) (HL.out.get 5 rfl) (by kernel_rfl) rfl rfl ?_; intro w8 b1 b2 b3; replace HL := Lib.hid (HL.out.store 5 rfl b1 b2 b3); clear b1 b2 b3; try simp only [List.nil_append, List.cons_append, List.set_cons_zero, List.set_cons_succ] at HL) | (refine wpList_allocO rfl 92 rfl (.cells [.nilFunc].toArray 92) alloc_fnD ?_; intro w9 aa gg zz; replace HL := Lib.hid (HL.out.alloc aa gg.out); clear aa gg zz; try simp only [List.nil_append, List.cons_append, List.set_cons_zero, List.set_cons_succ] at HL) | (refine wpList_store_cellJ rfl 92 (.tmp 7) (.tmp 14) rfl _ 0 (fnD w.heap.size w1.heap.size w2.heap.size w3.heap.size w6.heap.size w8.heap.size) rfl rfl _ _ (by simp) (HL.out.get 6 rfl) (by kernel_rfl) rfl rfl ?_; intro w10 b1 b2 b3; replace HL := Lib.hid (HL.out.store 6 rfl b1 b2 b3); clear b1 b2 b3; try simp only [List.nil_append, List.cons_append, List.set_cons_zero, List.set_cons_succ] at HL))
  clear hmf
  have hc0 := cell_part (n := 0) (HL.out.get 1 rfl) rfl
  have hc1 := cell_part (n := 1) (HL.out.get 1 rfl) rfl
  have hcd : w10.cell? ⟨w8.heap.size, 0, none⟩ = some (Value.func (.func 75) #[] #[.pointer (some ⟨w6.heap.size, 0, none⟩), .pointer (some ⟨w2.heap.size, 0, none⟩), .pointer (some ⟨w8.heap.size, 0, none⟩), .pointer (some ⟨w1.heap.size, 0, none⟩), .pointer (some ⟨w3.heap.size, 0, none⟩), .pointer (some ⟨w.heap.size, 0, none⟩)]) := cell_part (n := 0) (u := fnD w.heap.size w1.heap.size w2.heap.size w3.heap.size w6.heap.size w8.heap.size) (HL.out.get 6 rfl) rfl
  have hca := cell_part (n := 0) (HL.out.get 2 rfl) rfl
  by_cases hz : ids.length = 0
  · have hpos : ¬ (0 : Int) < (ids.length : Nat) := by omega
    have HZ := Lib.hid hz
    clear hz
    go_wp2_with (first | (refine wpList_store_cellJ rfl 37 (.tmp 4) (.tmp 24) rfl _ 0 (.slice none 0 0) rfl rfl _ _ (by simp) (HL.out.get 2 rfl) (by kernel_rfl) rfl rfl ?_; intro w11 b1 b2 b3; replace HL := Lib.hid (HL.out.store 2 rfl b1 b2 b3); clear b1 b2 b3 hca; simp only [List.set_cons_succ, List.set_cons_zero] at HL; have hca := cell_part (n := 0) (HL.out.get 2 rfl) rfl))
    refine bodyPost_ret (results_cell_one rfl Try.underlying37 _ _ _ _ rfl hca) rfl ?_
    refine ⟨_, [], rfl, OwnN.nil _ _, ?_, HL.out.aft⟩
    unfold nodesL
    rw [if_pos HZ.out]
    rfl
  · have hpos : (0 : Int) < (ids.length : Nat) := by omega
    have HZ := Lib.hid hz
    clear hz
    go_wp2_with fail
    have hp3 : 3 ^ ls.length ≤ 3 ^ 9 := Nat.pow_le_pow_right (by decide) H9.out
    refine (down_any w w.heap.size w1.heap.size w2.heap.size w3.heap.size w5.heap.size w6.heap.size w8.heap.size w10.heap.size kind _ _ ids.length ls HOk.out.1.1 HFit.out HRd.out HKd.out (by omega) ls.length 0 (.slice none 0 0) [] (List.replicate (ls.length + 1) 0) w10 ⟨by unfold ledN; rw [List.length_replicate]; exact HL.out, OwnN.nil _ _, heap_lt (HL.out.get 6 rfl), Nat.le_refl _, al_zero ls _ _, List.length_replicate, Nat.le_refl _, cnt_pos HFit.out (by omega) _ (Nat.le_refl _), by simp only [List.length_nil]; omega⟩).mono ?_
    rintro e w11 ⟨va, ps, nx, rfl, hled, hown, hfst, -, -, -, -, -⟩
    obtain ⟨va1, vac, rfl⟩ := hown.shape
    have HBa := Lib.hid (Nat.lt_of_lt_of_le (heap_lt (HL.out.get 2 rfl)) (Nat.le_refl _))
    have HW := Lib.hid (Below.size HL.out.aft)
    have HO := Lib.hid hown
    have HF := Lib.hid hfst
    replace HL := Lib.hid hled
    clear hled hown hfst hp3 hca hc0 hc1 hcd
    have hca := cell_part (n := 0) (HL.out.get 2 rfl) rfl
    go_wp2_with (first | (refine wpList_store_cellJ rfl 37 (.tmp 4) (.tmp 24) rfl _ 0 (.slice va1 ps.length vac) rfl rfl _ _ (by simp) (HL.out.get 2 rfl) (by kernel_rfl) rfl rfl ?_; intro w12 b1 b2 b3; replace HO := Lib.hid (HO.out.low HBa.out b2.out); replace HL := Lib.hid (HL.out.store 2 rfl b1 b2 b3); clear b1 b2 b3 hca; simp only [List.set_cons_succ, List.set_cons_zero] at HL; have hca := cell_part (n := 0) (HL.out.get 2 rfl) rfl))
    refine bodyPost_ret (results_cell_one rfl Try.underlying37 _ _ _ _ rfl hca) rfl ?_
    refine ⟨_, ps, rfl, HO.out.mono HW.out, ?_, HL.out.aft⟩
    unfold nodesL
    rw [if_neg HZ.out]
    exact HF.out
end Go.Proofs.Ytpnckphfjcnooaa
