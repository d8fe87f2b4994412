/- coterieref02.Block: the document's block. -/
import Derived.Test.YtanodhagpegbfaaDoorRefWords
namespace Go.Proofs.YtanodhagpegbfaaDoor
open Go Go.RowKit
theorem ch_eq (e f g : BitVec 32) : (e &&& f) ^^^ (~~~e &&& g) = g ^^^ (e &&& (f ^^^ g)) := by
  apply BitVec.eq_of_getLsbD_eq
  intro i hi
  simp only [BitVec.getLsbD_xor, BitVec.getLsbD_and, BitVec.getLsbD_not, hi, decide_true, Bool.true_and]
  cases e.getLsbD i <;> cases f.getLsbD i <;> cases g.getLsbD i <;> rfl
theorem maj_eq (a b c : BitVec 32) : (a &&& b) ^^^ (a &&& c) ^^^ (b &&& c) = a &&& b ||| c &&& (a ||| b) := by
  apply BitVec.eq_of_getLsbD_eq
  intro i hi
  simp only [BitVec.getLsbD_xor, BitVec.getLsbD_and, BitVec.getLsbD_or]
  cases a.getLsbD i <;> cases b.getLsbD i <;> cases c.getLsbD i <;> rfl
def stArr (s : St) : Array Value := #[.int .u32 (wn s.a), .int .u32 (wn s.b), .int .u32 (wn s.c), .int .u32 (wn s.d), .int .u32 (wn s.e), .int .u32 (wn s.f), .int .u32 (wn s.g), .int .u32 (wn s.h)]
theorem st_cells8 {w : World} {g t : Nat} {s : St} {fr : Nat × Nat} (h : w.heap[g]? = some (.cells (stArr s) t fr)) : w.cell? ⟨g, 0, none⟩ = some (.int .u32 (wn s.a)) ∧ w.cell? ⟨g, 1, none⟩ = some (.int .u32 (wn s.b)) ∧ w.cell? ⟨g, 2, none⟩ = some (.int .u32 (wn s.c)) ∧ w.cell? ⟨g, 3, none⟩ = some (.int .u32 (wn s.d)) ∧
    w.cell? ⟨g, 4, none⟩ = some (.int .u32 (wn s.e)) ∧ w.cell? ⟨g, 5, none⟩ = some (.int .u32 (wn s.f)) ∧ w.cell? ⟨g, 6, none⟩ = some (.int .u32 (wn s.g)) ∧ w.cell? ⟨g, 7, none⟩ = some (.int .u32 (wn s.h)) := by
  simp [World.cell?, h, stArr]
theorem stArr_size (s : St) : (stArr s).size = 8 := rfl
theorem st_info (s : St) : (Tryd.prog.info? 116).map (·.size) = some (stArr s).size := by rw [stArr_size]; kernel_rfl
theorem stArr_one (s : St) : (stArr s).all (·.oneCell') = true := by kernel_rfl
theorem tab_cell {K : Nat → BitVec 32} {g : Nat} {w : World} (h : TabK K g w) {i : Nat} (hi : i < 64) : w.cell? ⟨g, i, none⟩ = some (.int .u32 (wn (K i))) := by
  obtain ⟨T, cs, fr, h1, h2, h3⟩ := h
  rw [cell_of_row w g i _ _ _ h1]
  exact h3 i hi
theorem row_cell {w : World} {g t : Nat} {cs : Array Value} {fr : Nat × Nat} (h : w.heap[g]? = some (.cells cs t fr)) {i : Nat} {v : Value} (hv : cs[i]? = some v) : w.cell? ⟨g, i, none⟩ = some v := by
  rw [cell_of_row w g i _ _ _ h]
  exact hv
theorem wn_not (x : BitVec 32) : bits .xor .u32 (if IntKind.u32.signed = true then -1 else IntKind.u32.max) (wn x) = wn (~~~x) := by
  have e : (if IntKind.u32.signed = true then (-1 : Int) else IntKind.u32.max) = wn (BitVec.allOnes 32) := by decide
  rw [e, wn_xor, BitVec.allOnes_xor]
theorem TabK_below {K : Nat → BitVec 32} {g k : Nat} {w w' : World} (h : TabK K g w) (hb : Below k w w') (hk : g < k) : TabK K g w' := by
  obtain ⟨T, cs, fr, h1, h2⟩ := h
  exact ⟨T, cs, fr, (hb.block g hk).trans h1, h2⟩
def plusRow (s v : St) (i j : Nat) : Value := .int .u32 (wn (if j < i then s.at j + v.at j else s.at j))
theorem plus_start {w : World} {g t : Nat} {s v : St} (h : w.heap[g]? = some (.cells (stArr s) t (0, 0))) : w.rowIs g t 8 (plusRow s v 0) :=
  ⟨_, h, rfl, fun i hi => by
    unfold plusRow
    rw [if_neg (by omega)]
    match i, hi with
    | 0, _ => rfl
    | 1, _ => rfl
    | 2, _ => rfl
    | 3, _ => rfl
    | 4, _ => rfl
    | 5, _ => rfl
    | 6, _ => rfl
    | 7, _ => rfl⟩
theorem plus_step (s v : St) (i : Nat) : ∀ j, j < 8 → (if j = i then Value.int .u32 (wn (s.at i + v.at i)) else plusRow s v i j) = plusRow s v (i + 1) j := by
  intro j _
  unfold plusRow
  by_cases h : j = i
  · subst h; rw [if_pos rfl, if_pos (by omega)]
  · rw [if_neg h]
    by_cases h2 : j < i
    · rw [if_pos h2, if_pos (by omega)]
    · rw [if_neg h2, if_neg (by omega)]
theorem plus_end {w : World} {g t : Nat} {s v : St} (h : w.rowIs g t 8 (plusRow s v 8)) : w.heap[g]? = some (.cells (stArr (s.plus v)) t (0, 0)) := by
  obtain ⟨cs, h1, h2, h3⟩ := h
  rw [h1]
  congr 2
  apply Array.ext_getElem?
  intro i
  by_cases hi : i < 8
  · rw [h3 i hi]
    unfold plusRow
    rw [if_pos hi]
    match i, hi with
    | 0, _ => rfl
    | 1, _ => rfl
    | 2, _ => rfl
    | 3, _ => rfl
    | 4, _ => rfl
    | 5, _ => rfl
    | 6, _ => rfl
    | 7, _ => rfl
  · rw [Array.getElem?_eq_none (by omega), Array.getElem?_eq_none (by show 8 ≤ i; omega)]
theorem stArr_at (s : St) (i : Nat) (hi : i < 8) : (stArr s)[i]? = some (.int .u32 (wn (s.at i))) := by
  match i, hi with
  | 0, _ => rfl
  | 1, _ => rfl
  | 2, _ => rfl
  | 3, _ => rfl
  | 4, _ => rfl
  | 5, _ => rfl
  | 6, _ => rfl
  | 7, _ => rfl
def byteAt (b : List (BitVec 8)) : Nat → BitVec 8 := fun i => b.getD i 0
def zero8 : Array Value := #[.int .u32 0, .int .u32 0, .int .u32 0, .int .u32 0, .int .u32 0, .int .u32 0, .int .u32 0, .int .u32 0]
attribute [local go_sem] wn_add wn_xor wn_and wn_or wn_not ch_eq maj_eq
set_option maxRecDepth 100000 in
set_option maxHeartbeats 4000000 in
theorem block_any (s : St) (g o n c : Nat) (b : List (BitVec 8)) (w : World) (hK : TabK K0 0 w) (hb : Rd w (.slice (some ⟨g, o, none⟩) n c) (bv b)) (h64 : 64 ≤ b.length) :
    Calls Tryd.prog 95 #[.agg (stArr s), .slice (some ⟨g, o, none⟩) n c] w fun e w' => e = .returned (.agg (stArr (mixed K0 s (byteAt b)))) ∧ Below w.heap.size w w' := by
  have HK := Lib.hid hK
  have HB := Lib.hid hb
  clear hK hb
  go_enter Tryd.func95, Tryd.ntmps95
  go_wp2_with fail
  have ha := Aft.trans (Aft.alloc w (.cells (stArr s) 116)) (Aft.alloc (w.alloc (.cells (stArr s) 116)) (.cells zero8 116))
  have h0 := Aft.get (Aft.alloc (w.alloc (.cells (stArr s) 116)) (.cells zero8 116)) (heap_alloc_new w (.cells (stArr s) 116))
  have h1 := heap_alloc_new (w.alloc (.cells (stArr s) 116)) (.cells zero8 116)
  rw [World.size_alloc] at h1
  have hw := words_any g o n c b ((w.alloc (.cells (stArr s) 116)).alloc (.cells zero8 116)) (HB.out.grow ha) h64
  have HM : Hid (bwords b = blockWords (byteAt b)) := rfl
  generalize bwords b = M at *
  have HW := Lib.hid hw
  have HA := Lib.hid ha
  have H0 := Lib.hid h0
  have H1 := Lib.hid h1
  clear hw ha h0 h1
  refine HW.out.mono ?_
  rintro e w3 ⟨rfl, hb3⟩
  have HA3 := Lib.hid (show Aft w w3 from Aft.trans HA.out hb3)
  have H03 := Lib.hid (Aft.get hb3 H0.out)
  have H13 := Lib.hid (Aft.get hb3 H1.out)
  have HS3 := Lib.hid (heap_alloc_new w3 (.cells zero64.toArray 140))
  have HSz := Lib.hid (schedArr_size M)
  have HI64 := Lib.hid (show (Tryd.prog.info? 140).map (·.size) = some (schedArr M).size by rw [HSz.out]; kernel_rfl)
  have HZ8 := Lib.hid (fun wx : World => heap_alloc_new wx (.cells zero8 116))
  clear hb3
  go_wp2_with (first
    | (refine wpList_store_rowX rfl 140 (.tmp 5) (.tmp 14) rfl w3.heap.size (schedArr M) rfl rfl 140 zero64.toArray HS3.out HI64.out (by rw [HSz.out]; rfl) (schedArr_one M) ?_; intro w4 q2 q3; have HM4 := Lib.hid q2.out; have HA4 := Lib.hid (show Aft w w4 from q3 w.heap.size w (Below.size HA3.out) (Below.alloc HA3.out (Below.size HA3.out) _)); have h34 := (show Aft w3 w4 from q3 w3.heap.size w3 (Nat.le_refl _) (Below.alloc (Below.refl _ _) (Nat.le_refl _) _)); have H04 := Lib.hid (Aft.get h34 H03.out); have H14 := Lib.hid (Aft.get h34 H13.out); clear q2 q3 h34)
    | (refine wpList_load_row rfl 116 (.tmp 2) rfl w.heap.size rfl 116 (stArr s) (0, 0) _ H04.out Tryd.underlying116 rfl (st_info _) ?_)
    | (refine wpList_store_rowX rfl 116 (.tmp 6) (.tmp 15) rfl w4.heap.size (stArr s) rfl rfl 116 zero8 (HZ8.out w4) (st_info _) (by rw [stArr_size]; rfl) (stArr_one s) ?_; intro w5 q2 q3; have HV5 := Lib.hid q2.out; have h45 := (show Aft w4 w5 from q3 w4.heap.size w4 (Nat.le_refl _) (Below.alloc (Below.refl _ _) (Nat.le_refl _) _)); have HA5 := Lib.hid (Aft.trans HA4.out h45); have H05 := Lib.hid (Aft.get h45 H04.out); have H15 := Lib.hid (Aft.get h45 H14.out); have HM5 := Lib.hid (Aft.get h45 HM4.out); have HL5 := Lib.hid (heap_lt HM4.out); clear q2 q3 h45))
  go_loopw [16] (fun v16 wr => ∃ t : Nat, t ≤ 64 ∧ v16 = .int .i64 t ∧ wr.heap[w4.heap.size]? = some (.cells (stArr (rounds K0 M s t)) 116 (0, 0)) ∧ Below w4.heap.size w5 wr) (fun v _ => 64 - (intOf v).toNat)
  case atStart => exact ⟨0, by omega, rfl, HV5.out, Below.refl _ _⟩
  case round =>
    obtain ⟨t, ht, rfl, hv, hfr⟩ := hrel
    have HV := Lib.hid hv
    have HF := Lib.hid hfr
    have hgk : 0 < w4.heap.size := by obtain ⟨_, _, _, h, _⟩ := HK.out; have := heap_lt h; have := Below.size HA4.out; omega
    have HKr := Lib.hid (TabK_below (TabK_below HK.out HA5.out (by obtain ⟨_, _, _, h, _⟩ := HK.out; exact heap_lt h)) hfr hgk)
    have HMr := Lib.hid ((hfr.block w3.heap.size HL5.out).trans HM5.out)
    clear hv hfr hgk
    by_cases hlt : t < 64
    · have hlt' : (t : Int) < 64 := by omega
      have HR : Hid (rounds K0 M s (t + 1) = rnd (rounds K0 M s t) (K0 t) (sched M t)) := rfl
      generalize hvv : rounds K0 M s t = v at *
      have hsa := schedArr_at M t hlt
      have htk := fun (wx : World) (h : TabK K0 0 wx) => tab_cell h hlt
      generalize K0 t = kt at *
      generalize sched M t = wt at *
      have HSA := Lib.hid hsa
      have HTK := Lib.hid htk
      clear hvv hsa htk
      go_wp2_with fail
      refine wp_region_lexF (fun i => ([] : List Nat).getD i 0) 6 (by kernel_rfl) (by kernel_rfl) ?_; intro wi hwi
      have HWi := Lib.hid (show Aft wr wi by rw [hwi]; exact (Below.refl _ _).drew)
      clear hwi
      have L := fun u : Later wi.heap.size wi => st_cells8 (Aft.get (Aft.trans HWi.out u.h) HV.out)
      simp only [forall_and] at L
      obtain ⟨e0, e1, e2, e3, e4, e5, e6, e7⟩ := L
      repeat (first | (refine lf_skip (by go_big_quiet_skip; exact wpQuiet_nil trivial) (by kernel_rfl) ?_; simp only [Act.put, List.setIfInBounds_toArray, List.set_cons_succ, List.set_cons_zero]) | (refine lf_quiet rfl (by go_big_quiet_want; exact quiet_false (by assumption)) (by kernel_rfl) rfl ?_; intro Kx hKx; go_big_quiet_op; go_big_quiet_on))
      refine lf_done ?_
      intro wj hj
      have HWj := Lib.hid (Aft.trans HWi.out hj)
      clear hj e0 e1 e2 e3 e4 e5 e6 e7
      go_wp2_with fail
      refine wp_region_lexF (fun i => ([0, 0, 0, 2, 0, 2, 0, 0, 2] : List Nat).getD i 0) 31 (by kernel_rfl) (by kernel_rfl) ?_; intro wk hwk
      have HWk := Lib.hid (show Aft wr wk by rw [hwk]; exact Aft.trans HWj.out ((Below.refl _ _).drew))
      clear hwk
      have L := fun u : Later wk.heap.size wk => st_cells8 (Aft.get (Aft.trans HWk.out u.h) HV.out)
      simp only [forall_and] at L
      obtain ⟨e0, e1, e2, e3, e4, e5, e6, e7⟩ := L
      have ck := fun u : Later wk.heap.size wk => HTK.out _ (TabK_fr HKr.out (Fr.of_below (S := fun _ => False) (Aft.trans HWk.out u.h)) (fun h => h))
      have cm := fun u : Later wk.heap.size wk => row_cell (Aft.get (Aft.trans HWk.out u.h) HMr.out) HSA.out
      repeat (first | (refine lf_skip (by go_big_quiet_skip; exact wpQuiet_nil trivial) (by kernel_rfl) ?_; simp only [Act.put, List.setIfInBounds_toArray, List.set_cons_succ, List.set_cons_zero]) | (refine lf_quiet rfl (by go_big_quiet_want; exact quiet_false (by assumption)) (by kernel_rfl) rfl ?_; intro Kx hKx; go_big_quiet_op; go_big_quiet_on))
      refine lf_eff rfl (by go_big_quiet_want; exact quiet_false (by assumption)) (by kernel_rfl) ?_; intro wl hl Kx hKx; go_wp2_with fail
      refine (refror_any _ 6 (by omega) (by omega) _).mono ?_
      rintro e wm0 ⟨rfl, hm⟩
      have HC0 := Lib.hid (Aft.trans HWk.out (Aft.trans hl hm))
      go_wp2_with fail
      refine ⟨hm, ?_⟩
      clear hm hl
      repeat (first | (refine lf_skip (by go_big_quiet_skip; exact wpQuiet_nil trivial) (by kernel_rfl) ?_; simp only [Act.put, List.setIfInBounds_toArray, List.set_cons_succ, List.set_cons_zero]) | (refine lf_quiet rfl (by go_big_quiet_want; exact quiet_false (by assumption)) (by kernel_rfl) rfl ?_; intro Kx hKx; go_big_quiet_op; go_big_quiet_on))
      refine lf_eff rfl (by go_big_quiet_want; exact quiet_false (by assumption)) (by kernel_rfl) ?_; intro wl hl Kx hKx; go_wp2_with fail
      refine (refror_any _ 11 (by omega) (by omega) _).mono ?_
      rintro e wm1 ⟨rfl, hm⟩
      have HC1 := Lib.hid (Aft.trans HC0.out (Aft.trans hl hm))
      go_wp2_with fail
      refine ⟨hm, ?_⟩
      clear hm hl
      repeat (first | (refine lf_skip (by go_big_quiet_skip; exact wpQuiet_nil trivial) (by kernel_rfl) ?_; simp only [Act.put, List.setIfInBounds_toArray, List.set_cons_succ, List.set_cons_zero]) | (refine lf_quiet rfl (by go_big_quiet_want; exact quiet_false (by assumption)) (by kernel_rfl) rfl ?_; intro Kx hKx; go_big_quiet_op; go_big_quiet_on))
      refine lf_eff rfl (by go_big_quiet_want; exact quiet_false (by assumption)) (by kernel_rfl) ?_; intro wl hl Kx hKx; go_wp2_with fail
      refine (refror_any _ 25 (by omega) (by omega) _).mono ?_
      rintro e wm2 ⟨rfl, hm⟩
      have HC2 := Lib.hid (Aft.trans HC1.out (Aft.trans hl hm))
      go_wp2_with fail
      refine ⟨hm, ?_⟩
      clear hm hl
      repeat (first | (refine lf_skip (by go_big_quiet_skip; exact wpQuiet_nil trivial) (by kernel_rfl) ?_; simp only [Act.put, List.setIfInBounds_toArray, List.set_cons_succ, List.set_cons_zero]) | (refine lf_quiet rfl (by go_big_quiet_want; exact quiet_false (by assumption)) (by kernel_rfl) rfl ?_; intro Kx hKx; go_big_quiet_op; go_big_quiet_on))
      refine lf_done ?_
      intro wn1 hn1
      have HN1 := Lib.hid (Aft.trans HC2.out hn1)
      clear hn1 e0 e1 e2 e3 e4 e5 e6 e7 ck cm
      go_wp2_with fail
      refine wp_region_lexF (fun i => ([0, 2, 0, 2, 0, 0, 2] : List Nat).getD i 0) 25 (by kernel_rfl) (by kernel_rfl) ?_; intro wo hwo
      have HWo := Lib.hid (show Aft wr wo by rw [hwo]; exact Aft.trans HN1.out ((Below.refl _ _).drew))
      clear hwo
      have L := fun u : Later wo.heap.size wo => st_cells8 (Aft.get (Aft.trans HWo.out u.h) HV.out)
      simp only [forall_and] at L
      obtain ⟨e0, e1, e2, e3, e4, e5, e6, e7⟩ := L
      repeat (first | (refine lf_skip (by go_big_quiet_skip; exact wpQuiet_nil trivial) (by kernel_rfl) ?_; simp only [Act.put, List.setIfInBounds_toArray, List.set_cons_succ, List.set_cons_zero]) | (refine lf_quiet rfl (by go_big_quiet_want; exact quiet_false (by assumption)) (by kernel_rfl) rfl ?_; intro Kx hKx; go_big_quiet_op; go_big_quiet_on))
      refine lf_eff rfl (by go_big_quiet_want; exact quiet_false (by assumption)) (by kernel_rfl) ?_; intro wl hl Kx hKx; go_wp2_with fail
      refine (refror_any _ 2 (by omega) (by omega) _).mono ?_
      rintro e wp0 ⟨rfl, hm⟩
      have HP0 := Lib.hid (Aft.trans HWo.out (Aft.trans hl hm))
      go_wp2_with fail
      refine ⟨hm, ?_⟩
      clear hm hl
      repeat (first | (refine lf_skip (by go_big_quiet_skip; exact wpQuiet_nil trivial) (by kernel_rfl) ?_; simp only [Act.put, List.setIfInBounds_toArray, List.set_cons_succ, List.set_cons_zero]) | (refine lf_quiet rfl (by go_big_quiet_want; exact quiet_false (by assumption)) (by kernel_rfl) rfl ?_; intro Kx hKx; go_big_quiet_op; go_big_quiet_on))
      refine lf_eff rfl (by go_big_quiet_want; exact quiet_false (by assumption)) (by kernel_rfl) ?_; intro wl hl Kx hKx; go_wp2_with fail
      refine (refror_any _ 13 (by omega) (by omega) _).mono ?_
      rintro e wp1 ⟨rfl, hm⟩
      have HP1 := Lib.hid (Aft.trans HP0.out (Aft.trans hl hm))
      go_wp2_with fail
      refine ⟨hm, ?_⟩
      clear hm hl
      repeat (first | (refine lf_skip (by go_big_quiet_skip; exact wpQuiet_nil trivial) (by kernel_rfl) ?_; simp only [Act.put, List.setIfInBounds_toArray, List.set_cons_succ, List.set_cons_zero]) | (refine lf_quiet rfl (by go_big_quiet_want; exact quiet_false (by assumption)) (by kernel_rfl) rfl ?_; intro Kx hKx; go_big_quiet_op; go_big_quiet_on))
      refine lf_eff rfl (by go_big_quiet_want; exact quiet_false (by assumption)) (by kernel_rfl) ?_; intro wl hl Kx hKx; go_wp2_with fail
      refine (refror_any _ 22 (by omega) (by omega) _).mono ?_
      rintro e wp2 ⟨rfl, hm⟩
      have HP2 := Lib.hid (Aft.trans HP1.out (Aft.trans hl hm))
      go_wp2_with fail
      refine ⟨hm, ?_⟩
      clear hm hl
      repeat (first | (refine lf_skip (by go_big_quiet_skip; exact wpQuiet_nil trivial) (by kernel_rfl) ?_; simp only [Act.put, List.setIfInBounds_toArray, List.set_cons_succ, List.set_cons_zero]) | (refine lf_quiet rfl (by go_big_quiet_want; exact quiet_false (by assumption)) (by kernel_rfl) rfl ?_; intro Kx hKx; go_big_quiet_op; go_big_quiet_on))
      refine lf_done ?_
      intro wq hq
      have HQ := Lib.hid (Aft.trans HP2.out hq)
      have HVq := Lib.hid (Aft.get HQ.out HV.out)
      have HFq := Lib.hid (show Below w4.heap.size w5 wq from Below.trans HF.out (Below.mono HQ.out (by have := heap_lt HV.out; omega)))
      clear hq e0 e1 e2 e3 e4 e5 e6 e7
      obtain ⟨e0, e1, e2, e3, e4, e5, e6, e7⟩ := st_cells8 HVq.out
      go_wp2_with ((refine wpList_store_rowX rfl 116 (.tmp 6) (.tmp 96) rfl w4.heap.size (stArr (rnd v kt wt)) rfl rfl 116 (stArr v) HVq.out (st_info _) (by rw [stArr_size, stArr_size]) (stArr_one _) ?_; intro wr2 q2 q3; have HV2 := Lib.hid q2.out; have HF2 := Lib.hid (q3 w4.heap.size w5 (Nat.le_refl _) HFq.out); clear q2 q3))
      go_roundw
      case rel => exact ⟨t + 1, by omega, by go_num, by rw [HR.out]; exact HV2.out, HF2.out⟩
      case measure => simp [intOf]; omega
    · obtain rfl : t = 64 := by omega
      have hlt' : ¬ ((64 : Nat) : Int) < 64 := by omega
      have hmx : mixed K0 s (byteAt b) = s.plus (rounds K0 M s 64) := by unfold mixed; rw [HM.out]
      generalize rounds K0 M s 64 = v at *
      have HMX := Lib.hid hmx
      have hl0 : w.heap.size < w5.heap.size := heap_lt H05.out
      have hl6 : w.heap.size + 1 < w4.heap.size := heap_lt H14.out
      have HRr := Lib.hid (plus_start (v := v) ((HF.out.block w.heap.size (by omega)).trans H05.out))
      have HOr := Lib.hid ((HF.out.block (w.heap.size + 1) hl6).trans H15.out)
      have HBr := Lib.hid (show Aft w wr from Below.trans HA5.out (Below.mono HF.out (by omega)))
      have HVb := Lib.hid HV.out
      clear hmx
      go_wp2_with fail
      go_loopw [98] (fun v98 wx => ∃ i : Nat, i ≤ 8 ∧ v98 = .int .i64 i ∧ wx.rowIs w.heap.size 116 8 (plusRow s v i) ∧ wx.heap[w4.heap.size]? = some (.cells (stArr v) 116 (0, 0)) ∧ wx.heap[w.heap.size + 1]? = some (.cells zero8 116 (0, 0)) ∧ Aft w wx) (fun v _ => 8 - (intOf v).toNat)
      case atStart => exact ⟨0, by omega, rfl, HRr.out, HVb.out, HOr.out, HBr.out⟩
      case round =>
        obtain ⟨i, hi, rfl, hrow, hv8, ho8, hb8⟩ := hrel
        have HRow := Lib.hid hrow
        have HV8 := Lib.hid hv8
        have HO8 := Lib.hid ho8
        have HB8 := Lib.hid hb8
        clear hrow hv8 ho8 hb8
        by_cases hlt : i < 8
        · have hlt' : (i : Int) < 8 := by omega
          go_wp2_with fail
          refine wp_region_lexF (fun i => ([] : List Nat).getD i 0) 8 (by kernel_rfl) (by kernel_rfl) ?_; intro wi hwi
          have HWi := Lib.hid (show Aft wr wi by rw [hwi]; exact (Below.refl _ _).drew)
          clear hwi
          have cs := fun u : Later wi.heap.size wi => World.rowIs.cell (HRow.out.of_block (Below.block (Aft.trans HWi.out u.h) _ HRow.out.lt)) (i := i) hlt
          have cv := fun u : Later wi.heap.size wi => row_cell (Aft.get (Aft.trans HWi.out u.h) HV8.out) (stArr_at v i hlt)
          simp only [plusRow, Nat.lt_irrefl, if_false] at cs
          repeat (first | (refine lf_skip (by go_big_quiet_skip; exact wpQuiet_nil trivial) (by kernel_rfl) ?_; simp only [Act.put, List.setIfInBounds_toArray, List.set_cons_succ, List.set_cons_zero]) | (refine lf_quiet rfl (by go_big_quiet_want; exact quiet_false (by assumption)) (by kernel_rfl) rfl ?_; intro Kx hKx; go_big_quiet_op; go_big_quiet_on))
          refine lf_done ?_
          intro wj hj
          have HWj := Lib.hid (Aft.trans HWi.out hj)
          have HRj := Lib.hid (HRow.out.of_block (Below.block HWj.out _ HRow.out.lt))
          have hcj := HRj.out.cell (i := i) hlt
          have hfj := HRj.out.frozen i
          clear hj cs cv
          go_wp2_with fail
          go_roundw
          case rel =>
            exact ⟨i + 1, by omega, by go_num, (World.rowIs.set HRj.out i _).congr (plus_step s v i), (Below.heap_setCell _ _ _ _ (show w4.heap.size ≠ w.heap.size by omega)).trans (Aft.get HWj.out HV8.out), (Below.heap_setCell _ _ _ _ (show w.heap.size + 1 ≠ w.heap.size by omega)).trans (Aft.get HWj.out HO8.out), aft_set (Aft.trans HB8.out HWj.out) (Nat.le_refl _) _⟩
          case measure => simp [intOf]; omega
        · obtain rfl : i = 8 := by omega
          have hlt' : ¬ ((8 : Nat) : Int) < 8 := by omega
          have HE := Lib.hid (plus_end HRow.out)
          go_wp2_with (first
            | (refine wpList_load_row rfl 116 (.tmp 2) rfl w.heap.size rfl 116 (stArr (s.plus v)) (0, 0) _ HE.out Tryd.underlying116 rfl (st_info _) ?_)
            | (refine wpList_store_rowX rfl 116 (.tmp 4) (.tmp 110) rfl (w.heap.size + 1) (stArr (s.plus v)) rfl rfl 116 zero8 HO8.out (st_info _) (by rw [stArr_size]; rfl) (stArr_one _) ?_; intro wk q2 q3; have HKk := Lib.hid q2.out; have HBk := Lib.hid (q3 w.heap.size w (by omega) HB8.out); clear q2 q3))
          refine bodyPost_ret (results_cell_row rfl _ _ (w.heap.size + 1) 116 (stArr (s.plus v)) (0, 0) _ rfl HKk.out Tryd.underlying116 rfl (st_info _)) rfl ?_
          exact ⟨by rw [HMX.out], HBk.out⟩
end Go.Proofs.YtanodhagpegbfaaDoor

