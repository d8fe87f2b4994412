/- terms.Close, walked. -/
import Derived.Test.YtfgammcefaomeaaK11
import Derived.Test.YtfgammcefaomeaaK7
namespace Go.Proofs.Ytfgammcefaomeaa
open Go Go.RowKit
set_option linter.unusedSimpArgs false
theorem outB_in {x : Int} : outB 1048576 x = false ↔ inB x := by
  unfold outB inB
  rw [Bool.or_eq_false_iff, decide_eq_false_iff_not, decide_eq_false_iff_not]
  omega
theorem any_out {xs : List Int} : xs.any (outB 1048576) = false ↔ ∀ x ∈ xs, inB x := by
  rw [List.any_eq_false]
  exact ⟨fun h x hx => outB_in.1 (by simpa using h x hx), fun h x hx => by rw [outB_in.2 (h x hx)]; decide⟩
theorem badR_ok {r : Rl} : badR r = false ↔ okR r := by
  unfold badR okR
  rw [Bool.or_eq_false_iff, any_out, outB_in]
theorem any_bad {ps : List (Rl × Value)} : (ps.any fun p => badR p.1) = false ↔ ∀ r ∈ ps.map Prod.fst, okR r := by
  rw [List.any_eq_false]
  constructor
  · intro h r hr
    obtain ⟨p, hp, rfl⟩ := List.mem_map.1 hr
    exact badR_ok.1 (by simpa using h p hp)
  · intro h p hp
    rw [badR_ok.2 (h p.1 (List.mem_map.2 ⟨p, hp, rfl⟩))]
    decide
def askI (rs : List Rl) (i : Nat) (x : Int) : List Int := (askF rs i x).map fun (j : Nat) => ((j : Nat) : Int)
theorem run_makeN (n : Nat) (hn : n ≤ 16777216) (w : World) : (Instr.makeSlice 22 (.int .i64 (n : Int)) (.int .i64 (n : Int))).run Try.prog w = .ok (.slice (some ⟨w.heap.size, 0, none⟩) n n) (w.alloc (.cells (zv (List.replicate n 0)).toArray 3)) := by
  obtain ⟨i0, hi0, hz1, hz2, hz3⟩ := info_parts info_int
  have hr := run_make (P := Try.prog) w 22 3 i0 (.int .i64 0) Try.underlying22 hi0 hz1 .i64 .i64 (n : Int) (n : Int) (by omega) (by omega) (by rw [hz3]; omega) (by omega)
  rw [hz2, Int.toNat_natCast, made_zeros] at hr
  exact hr
theorem toL_snoc (l : List Rl) (r : Rl) : toL (l ++ [r]) = toL l ++ (if r.frm.isEmpty then [r.to] else []) := by
  unfold toL
  rw [List.filter_append, List.map_append]
  congr 1
  cases h : r.frm.isEmpty
  · rw [List.filter_cons, if_neg (by rw [h]; decide)]
    rfl
  · rw [List.filter_cons, if_pos h]
    rfl
theorem lfL_snoc (l : List Rl) (r : Rl) : lfL (l ++ [r]) = lfL l ++ [((rsl r.frm).length : Int)] := by
  unfold lfL
  rw [List.map_append]
  rfl
theorem take_ru {rs : List Rl} {i : Nat} (h : i < rs.length) : rs.take (i + 1) = rs.take i ++ [ru rs i] := by
  rw [List.take_add_one, List.getElem?_eq_getElem h, ru, List.getD_eq_getElem?_getD, List.getElem?_eq_getElem h]
  rfl
/-- While a rule's numbers are told of. -/
def askK (rs : List Rl) (i k : Nat) (l : List Int) (x : Int) : List Int := askI rs i x ++ (if x ∈ l.take k then [(i : Int)] else [])
theorem askK_zero (rs : List Rl) (i : Nat) (l : List Int) (x : Int) : askI rs i x = askK rs i 0 l x := by
  rw [askK, List.take_zero, if_neg (by simp), List.append_nil]
theorem askK_succ {rs : List Rl} {i k : Nat} {l : List Int} (hl : l.Nodup) (hk : k < l.length) (x : Int) : (if x = l.getD k 0 then askK rs i k l (l.getD k 0) ++ [(i : Int)] else askK rs i k l x) = askK rs i (k + 1) l x := by
  have e : l.take (k + 1) = l.take k ++ [l.getD k 0] := by
    rw [List.take_add_one, List.getElem?_eq_getElem hk, List.getD_eq_getElem?_getD, List.getElem?_eq_getElem hk]
    rfl
  have hn : l.getD k 0 ∉ l.take k := fun q => by
    have h1 : (l.take k ++ [l.getD k 0]).Nodup := e ▸ hl.sublist (List.take_sublist _ _)
    exact (List.nodup_append.1 h1).2.2 _ q _ (by simp) rfl
  unfold askK
  rw [e]
  by_cases h : x = l.getD k 0
  · subst h
    rw [if_pos rfl, if_neg hn, List.append_nil, if_pos (by simp)]
  · rw [if_neg h]
    congr 1
    have e2 : (x ∈ l.take k ++ [l.getD k 0]) = (x ∈ l.take k) := by
      simp only [List.mem_append, List.mem_singleton, eq_iff_iff]
      exact ⟨fun q => q.resolve_right h, .inl⟩
    simp only [e2]
theorem askK_all {rs : List Rl} {i : Nat} (x : Int) : askK rs i (rsl (ru rs i).frm).length (rsl (ru rs i).frm) x = askI rs (i + 1) x := by
  unfold askK askI
  rw [askF_succ, List.map_append, List.take_length]
  congr 1
  by_cases h : x ∈ (ru rs i).frm
  · rw [if_pos (rsl_mem.2 h), if_pos h]
    rfl
  · rw [if_neg (fun q => h (rsl_mem.1 q)), if_neg h]
    rfl
theorem askI_mem {rs : List Rl} {i : Nat} {x y : Int} (h : y ∈ askI rs i x) : ∃ j : Nat, y = (j : Int) ∧ j < i ∧ x ∈ (ru rs j).frm := by
  obtain ⟨j, hj, rfl⟩ := List.mem_map.1 h
  exact ⟨j, rfl, askF_mem.1 hj⟩
theorem askI_length (rs : List Rl) (i : Nat) (x : Int) : (askI rs i x).length ≤ i := by
  rw [askI, List.length_map]
  exact askF_length rs i x
theorem rise_nodup {l : List Int} (h : Rise l) : l.Nodup := h.imp fun {a b} q => by omega
theorem grown2 {w wB wC : World} {u : Value} (ha : Aft w wB) (hf : Fr (fun b => u.ownBlock = some b) wB wC) : w.grownBy wC u.ownBlock :=
  ⟨hf.os.trans ha.os, hf.tape.trans ha.tape, hf.output.trans ha.output, Nat.le_trans ha.size hf.size, fun k hk hn => (hf.block k (Nat.lt_of_lt_of_le hk ha.size) fun e => hn e.symm).trans (ha.block k hk)⟩
theorem no_new {No : Nat → Prop} {u : Value} {g n c a b : Nat} (h : ∀ k, u.ownBlock = some k → ¬ No k) (hN : ∀ k, No k → k < a) (ht : u.ownBlock = some g ∨ b ≤ g) (hab : a ≤ b) : ∀ k, (Value.slice (some ⟨g, 0, none⟩) n c).ownBlock = some k → ¬ No k := fun k hk hn => by
  cases hk
  rcases ht with q | q
  · exact h g q hn
  · have : g < a := hN _ hn
    omega
open Classical in
theorem least_exM {p : Nat → Prop} (h : ∃ n, p n) : ∃ n, p n ∧ ∀ k, p k → n ≤ k := by
  obtain ⟨n, hn⟩ := h
  induction n using Nat.strongRecOn with
  | _ n ih =>
    by_cases hq : ∃ k, k < n ∧ p k
    · obtain ⟨k, hk, hp⟩ := hq
      exact ih k hk hp
    · exact ⟨n, hn, fun k hk => Nat.le_of_not_lt fun q => hq ⟨k, q, hk⟩⟩
open Classical in
noncomputable def leastM (p : Nat → Prop) : Nat := if h : ∃ n, p n then Classical.choose (least_exM h) else 0
theorem leastM_is {p : Nat → Prop} (h : ∃ n, p n) : p (leastM p) := by
  unfold leastM
  rw [dif_pos h]
  exact (Classical.choose_spec (least_exM h)).1
theorem leastM_le {p : Nat → Prop} {n : Nat} (h : p n) : leastM p ≤ n := by
  unfold leastM
  rw [dif_pos ⟨n, h⟩]
  exact (Classical.choose_spec (least_exM ⟨n, h⟩)).2 n h
/-- Between two rounds of the loop that pops. -/
structure ClS (known : List Int) (rs : List Rl) (w0 : World) (mb ab lb base N L : Nat) (v9 : Value) (wr : World) (next lf met : List Int) : Prop where
  w : ClW w0 mb ab lb base N met.length v9 L next lf met (askI rs L) (fun _ => False) wr
  i : ClI known rs met next lf
  l : ClL rs met lf []
  n : met.Nodup
/-- The number at a place of those that ask. -/
theorem askI_at {rs : List Rl} {i k : Nat} {x : Int} (h : k < (askI rs i x).length) : ∃ j : Nat, (askI rs i x).getD k 0 = (j : Int) ∧ j < i ∧ x ∈ (ru rs j).frm ∧ j ∉ (askF rs i x).take k ∧ (askF rs i x).take (k + 1) = (askF rs i x).take k ++ [j] := by
  have hl : k < (askF rs i x).length := by rwa [askI, List.length_map] at h
  refine ⟨(askF rs i x)[k], ?_, (askF_mem.1 (List.getElem_mem hl)).1, (askF_mem.1 (List.getElem_mem hl)).2, fun q => ?_, ?_⟩
  · rw [askI, List.getD_eq_getElem?_getD, List.getElem?_map, List.getElem?_eq_getElem hl]
    rfl
  · have e : (askF rs i x).take (k + 1) = (askF rs i x).take k ++ [(askF rs i x)[k]] := by
      rw [List.take_add_one, List.getElem?_eq_getElem hl]
      rfl
    have h1 : ((askF rs i x).take k ++ [(askF rs i x)[k]]).Nodup := e ▸ (askF_nodup rs i x).sublist (List.take_sublist _ _)
    exact (List.nodup_append.1 h1).2.2 _ q _ (by simp) rfl
  · rw [List.take_add_one, List.getElem?_eq_getElem hl]
    rfl
theorem cntU_le (met fr : List Int) : cntU met fr ≤ fr.length := List.length_filter_le _ _
theorem exec_makeN {a : Act} {o : Oper} (x y : Operand) (ho : o.op = .makeSlice 22 x y) (n : Nat) (hn : n ≤ 16777216) (hx : a.eval x = .int .i64 (n : Int)) (hy : a.eval y = .int .i64 (n : Int)) (w : World) :
    (execOp a.eval o).run Try.prog w = .ok (.value (.slice (some ⟨w.heap.size, 0, none⟩) n n)) (w.alloc (.cells (zv (List.replicate n 0)).toArray 3)) := by
  unfold execOp
  simp only [ho, hx, hy, run_makeN n hn, Sem.run_bind, Result.andThen_ok, Sem.run_pure]
set_option maxRecDepth 100000 in
set_option maxHeartbeats 4000000 in
theorem tclose_any (v u : Value) (known : List Int) (ps : List (Rl × Value)) (w : World) (h : Rd w v (zv known)) (hu : RdRl w u ps) (hk : known.length ≤ 1000) (hn : ps.length ≤ 300 ∨ 20000 < ps.length) (hf : ps.length ≤ 300 → ∀ p ∈ ps, p.1.frm.length ≤ 17592186044415) :
    Calls Try.prog 26 #[v, u] w (CloSays known (ps.map Prod.fst) w) := by
  have HK := Lib.hid (tout_any v 1048576 known w h (by omega))
  have HKn := Lib.hid h
  obtain ⟨ao, cap, rfl, -, -⟩ := h.numS
  have HRl := Lib.hid hu
  obtain ⟨bo, dap, rfl, -, -⟩ := hu.shape
  have HLn := Lib.hid (show (ps.map Prod.fst).length = ps.length from List.length_map ..)
  clear h hu
  by_cases hbig : 20000 < ps.length
  · have hb' : (20000 : Int) < (ps.length : Nat) := by omega
    clear HK hn hf
    go_enter Try.func26, Try.ntmps26
    go_wp2_with fail
    go_ret2
    exact .inr ⟨fun q => by have := q.1; rw [HLn.out] at this; omega, rfl, Aft.refl w⟩
  have hb' : ¬ (20000 : Int) < (ps.length : Nat) := by omega
  have hn3 : ps.length ≤ 300 := hn.resolve_right hbig
  have HF := Lib.hid (hf hn3)
  clear hf hn hbig
  go_enter Try.func26, Try.ntmps26
  go_wp2_with fail
  refine HK.out.mono ?_
  rintro e w1 ⟨rfl, h1⟩
  have HA := Lib.hid h1
  clear HK h1
  cases hq : known.any (outB 1048576) with
  | true =>
    have HX := Lib.hid (show ¬ ∀ x ∈ known, inB x from fun q => by rw [any_out.2 q] at hq; cases hq)
    clear hq
    go_wp2_with fail
    go_ret2
    exact .inr ⟨fun q => HX.out q.2.1, rfl, HA.out⟩
  | false =>
  have HX := Lib.hid (any_out.1 hq)
  clear hq
  go_wp2_with fail
  refine (toutL_any _ ps w1 (HRl.out.aft HA.out) (by omega) (fun p hp => by have := HF.out p hp; omega)).mono ?_
  rintro e w2 ⟨rfl, h2⟩
  replace HA := Lib.hid (Aft.trans HA.out h2)
  clear h2
  cases hq : ps.any fun p => badR p.1 with
  | true =>
    have HY := Lib.hid (show ¬ ∀ r ∈ ps.map Prod.fst, okR r from fun q => by rw [any_bad.2 q] at hq; cases hq)
    clear hq
    go_wp2_with fail
    go_ret2
    exact .inr ⟨fun q => HY.out q.2.2, rfl, HA.out⟩
  | false =>
  have HOk := Lib.hid (show ClOk known (ps.map Prod.fst) from ⟨by rw [HLn.out]; omega, HX.out, any_bad.1 hq⟩)
  clear hq HX
  have HRw := Lib.hid (HRl.out.aft HA.out)
  have HKw := Lib.hid (HKn.out.grow HA.out)
  clear HKn HRl
  have HRs := Lib.hid (fun (i : Nat) (hi : i < ps.length) => fst_ru hi)
  generalize ps.map Prod.fst = rs at *
  go_wp2_with (first | (refine wpList_makeMapT (by kernel_rfl) rfl ?_; intro w3 aM gM; have HA3 := Lib.hid aM; have HS3 := Lib.hid gM.out; clear aM gM))
  refine wp_region_lexF (fun i => ([1, 0, 0, 1, 0, 0] : List Nat).getD i 0) 6 (by kernel_rfl) (by kernel_rfl) ?_; intro w4 hw4
  refine lf_fresh (.map #[] 0) (fun g => .map (some g)) rfl (by kernel_rfl) (fun w1 => by kernel_rfl) ?_
  intro wm gm am sm hm
  simp only [Act.put, List.setIfInBounds_toArray, List.set_cons_succ, List.set_cons_zero]
  repeat (first | (refine lf_skip (by go_big_quiet_skip; exact wpQuiet_nil trivial) (by kernel_rfl) ?_; simp only [Act.put, List.setIfInBounds_toArray, List.set_cons_succ, List.set_cons_zero]) | (refine lf_quiet rfl (by go_big_quiet_want; exact quiet_false (by assumption)) (by kernel_rfl) rfl ?_; intro Kx hKx; go_big_quiet_op; go_big_quiet_on))
  refine lf_fresh (.cells (zv (List.replicate ps.length 0)).toArray 3) (fun g => .slice (some ⟨g, 0, none⟩) ps.length ps.length) rfl (by kernel_rfl) (fun w1 => exec_makeN (.tmp 32) (.tmp 32) rfl ps.length (by omega) rfl rfl w1) ?_
  intro w5 lb al sl hl
  simp only [Act.put, List.setIfInBounds_toArray, List.set_cons_succ, List.set_cons_zero]
  repeat (first | (refine lf_skip (by go_big_quiet_skip; exact wpQuiet_nil trivial) (by kernel_rfl) ?_; simp only [Act.put, List.setIfInBounds_toArray, List.set_cons_succ, List.set_cons_zero]) | (refine lf_quiet rfl (by go_big_quiet_want; exact quiet_false (by assumption)) (by kernel_rfl) rfl ?_; intro Kx hKx; go_big_quiet_op; go_big_quiet_on))
  refine lf_done ?_
  intro w6 a6
  have hb6 : Aft w2 w6 := Aft.trans (Aft.trans HA3.out (by rw [hw4]; exact (Below.refl _ w3).drew)) (Aft.trans am (Aft.trans al a6))
  have hs4 : w2.heap.size < w4.heap.size := by rw [hw4]; exact HS3.out.lt
  have HM6 := Lib.hid (show SetM w6 w2.heap.size 0 [] from (HS3.out.aft (by rw [hw4]; exact (Below.refl _ w3).drew)).aft (Aft.trans am (Aft.trans al a6)))
  have HG6 := Lib.hid (show w6.heap[gm]? = some (.map #[] 0) from ((Aft.trans al a6).block gm (heap_lt hm)).trans hm)
  have HL6 := Lib.hid (show w6.heap[lb]? = some (.cells (zv (List.replicate ps.length 0)).toArray 3 (0, 0)) from (a6.block lb (heap_lt hl)).trans hl)
  have HA6 := Lib.hid hb6
  have HN6 := Lib.hid (show w2.heap.size < gm ∧ w2.heap.size < lb from ⟨by omega, by omega⟩)
  clear hw4 am al a6 hm hl sm sl hb6 hs4 HA3 HS3
  have HCl := Lib.hid (cloneI_any _ (zv known) w6 (HKw.out.grow HA6.out) (fun u hu => by obtain ⟨x, -, rfl⟩ := List.mem_map.1 hu; rfl) (by rw [zv_length]; omega))
  go_wp2_with fail
  refine HCl.out.mono ?_
  rintro e w7 ⟨v9, rfl, ho9, ha7⟩
  clear HCl
  have HW := Lib.hid (show ClW w2 w2.heap.size gm lb w6.heap.size 0 0 v9 ps.length known (List.replicate ps.length 0) [] (fun _ => []) (fun _ => False) w7 from
    ⟨HA6.out.trans ha7, ha7.size, HM6.out.aft ha7, by
      have := own_blk (base := lb) HL6.out (Nat.le_refl _) (by rw [zv_length, List.length_replicate]; unfold maxLen; omega)
      rw [zv_length, List.length_replicate] at this
      refine OwnI.aft ?_ ha7
      unfold OwnI
      rw [List.length_replicate]
      exact this, by rw [zv_length] at ho9; exact ho9, (AskM.made _ HG6.out (heap_lt HG6.out)).aft ha7, ⟨Nat.le_refl _, HM6.out.lt⟩, ⟨Nat.le_of_lt HN6.out.1, heap_lt HG6.out⟩, ⟨Nat.le_of_lt HN6.out.2, heap_lt HL6.out⟩, by have := HN6.out.1; omega⟩)
  clear ho9 ha7 HM6 HG6 HL6 HA6 HN6
  generalize w6.heap.size = base at *
  generalize w2.heap.size = mb at *
  go_wp2_with fail
  go_loopw [9, 38] (fun v9 v38 wr => ∃ i : Nat, i ≤ ps.length ∧ v38 = .int .i64 (i : Int) ∧ ClW w2 mb gm lb base (i * 1048576) 0 v9 ps.length (known ++ toL (rs.take i)) (lfL (rs.take i) ++ List.replicate (ps.length - i) 0) [] (askI rs i) (fun _ => False) wr) (fun _ v _ => ps.length - (intOf v).toNat)
  case atStart => exact ⟨0, Nat.zero_le _, rfl, by simpa [toL, lfL] using HW.out.congr (f' := askI rs 0) (fun x => rfl)⟩
  case round =>
    clear HW
    obtain ⟨i, hi, rfl, hW⟩ := hrel
    obtain ⟨a9, c9, rfl⟩ := hW.nx.shape
    generalize hnx : known ++ toL (rs.take i) = nx at *
    have HNx := Lib.hid hnx
    have HW := Lib.hid hW
    have HL := Lib.hid (Led.start wr)
    clear hW hnx
    by_cases hlt : i < ps.length
    · have hlt' : (i : Int) < (ps.length : Nat) := by omega
      obtain ⟨g, o, c4, he, hrg⟩ := HRw.out.at hlt
      injection he with he1 he2 he3
      subst he1 he3
      obtain ⟨ka, kc, hkv, -, -⟩ := (HRw.out.kidAt hlt).numS
      have HFr := Lib.hid (HRw.out.kidAt hlt)
      have HFl := Lib.hid (HF.out _ (rlP_mem hlt))
      have HRu := Lib.hid (HRs.out i hlt)
      have HRk := Lib.hid (HOk.out.2.2 _ (ru_mem (i := i) (by rw [HLn.out]; exact hlt)))
      have hrx := hrg wr HW.out.af
      rw [hkv] at hrx HFr
      rw [HRu.out] at HRk
      generalize (ps.getD i rlP).1 = r at *
      have HRx := Lib.hid hrx
      clear hrx hrg hkv he2
      go_wp2_with (first | (refine wpList_dstT 42 rfl ?_; refine wpList_load_mid2 (by kernel_rfl) 58 (.tmp 41) rfl _ _ rfl (rlR r (.slice ka r.frm.length kc)) HRx.out _ Try.underlying58 rfl rl_info ?_) | (refine wpList_allocO rfl 58 rfl (.cells (rlR rl0 (.slice none 0 0)).toArray 58) alloc_rl ?_; intro wA aa gg zz; replace HL := Lib.hid (HL.out.alloc aa gg.out); clear aa gg zz; try simp only [List.nil_append, List.cons_append, List.set_cons_zero, List.set_cons_succ] at HL) | (refine wpList_store_rowZ rfl 58 (.tmp 11) (.tmp 42) rfl _ (rlR r (.slice ka r.frm.length kc)).toArray rfl rfl _ _ (HL.out.get 0 rfl) rl_info2 rfl (all_one rlR_one) ?_; intro wB b1 b2 b3; replace HL := Lib.hid (HL.out.store 0 rfl b1 b2 b3); clear b1 b2 b3; try simp only [List.nil_append, List.cons_append, List.set_cons_zero, List.set_cons_succ] at HL; have d0 := cell_part (n := 0) (HL.out.get 0 rfl) rfl))
      refine (vals_any _ _ _ _).mono ?_
      rintro e w8 ⟨rfl, h8, hb8⟩
      have HRd := Lib.hid ((HFr.out.grow HW.out.af).grow (Aft.trans HL.out.aft h8))
      have HSz8 := Lib.hid (Below.size (Aft.trans HL.out.aft h8))
      replace HL := Lib.hid (HL.out.call h8)
      have HB8 := Lib.hid hb8
      clear h8 hb8 d0
      go_wp2_with fail
      refine (sortedV_any _ _ r.frm w8 HRd.out HFl.out HB8.out).mono ?_
      rintro e w9 ⟨u9, rfl, hu9, h9⟩
      replace HL := Lib.hid (HL.out.call h9)
      have HU9 := Lib.hid hu9
      clear h9 hu9 HB8
      go_wp2_with fail
      refine (compactI_any u9 _ w8.heap.size w9 HU9.out (by rw [sorted_length]; have := HFl.out; omega)).mono ?_
      rw [compact_rsl]
      rintro e w10 ⟨fv, rfl, hfv, -, h10⟩
      replace HL := Lib.hid (HL.out.frO HU9.out HSz8.out h10 rfl)
      have HW10 := Lib.hid ((HW.out.reno (X' := fun g => fv.ownBlock = some g) (fun g q => .inr (Nat.le_trans HSz8.out (hfv.lt q).1))).aft HL.out.aft)
      have HBx := Lib.hid (HL.out.get 0 rfl)
      have HFb := Lib.hid (show ∀ g, fv.ownBlock = some g → base ≤ g from fun g q => Nat.le_trans (Nat.le_trans HW.out.sz HSz8.out) (hfv.lt q).1)
      obtain ⟨fa, fc, rfl⟩ := hfv.shape
      have HO := Lib.hid hfv
      have HLl := Lib.hid (show (lfL (rs.take i)).length = i by rw [lfL, List.length_map, List.length_take, HLn.out]; omega)
      have HTk := Lib.hid (show rs.take (i + 1) = rs.take i ++ [r] by rw [← HRu.out]; exact take_ru (by rw [HLn.out]; exact hlt))
      clear HL HU9 hfv h10 HW HRd HRx HSz8
      generalize wr.heap.size = bx at *
      generalize w8.heap.size = fb at *
      go_wp2_with (first | (refine wpList_store_num rfl (.tmp 52) (.tmp 51) rfl lb lb ps.length ps.length _ i (by rw [List.length_append, HLl.out, List.length_replicate]; omega) ((rsl r.frm).length : Int) HW10.out.lo rfl rfl ?_; intro w11 k1 k2; rw [set_zero HLl.out hlt] at k1; have HW11 := Lib.hid (HW10.out.left k2 k1); have HO11 := Lib.hid (own_row HO.out (grown_of_fr k2) (fun g hg e => by have h1 := HFb.out g hg; have h2 := HW10.out.b3.2; cases e; have h3 : lb = Addr.block ⟨lb, 0, none⟩ := rfl; omega)); have HBx11 := Lib.hid (fr_cell k2 HW10.out.lo HBx.out (by decide)); clear k1 k2))
      have HLf := Lib.hid (show lfL (rs.take (i + 1)) = lfL (rs.take i) ++ [((rsl r.frm).length : Int)] by rw [HTk.out, lfL_snoc])
      rw [← HLf.out] at HW11
      clear HO HBx HW10 HLl
      generalize hlf : lfL (rs.take (i + 1)) ++ List.replicate (ps.length - (i + 1)) 0 = lf1 at *
      have HLf1 := Lib.hid hlf
      clear hlf
      have HFin := Lib.hid (show ∀ x ∈ rsl r.frm, 0 ≤ x ∧ x < 1048576 from fun x hx => HRk.out.1 x (rsl_mem.1 hx))
      have HFn := Lib.hid (rsl_rise r.frm)
      have HFm := Lib.hid (show (rsl r.frm).length ≤ 1048576 by
        have := rise_len (a := 0) (m := 1048576) (rsl_rise r.frm) HFin.out (by decide)
        omega)
      generalize hfm : rsl r.frm = fm at *
      have HFe := Lib.hid hfm
      clear hfm
      obtain ⟨N1, hN1⟩ : ∃ N1, N1 = i * 1048576 := ⟨_, rfl⟩
      rw [← hN1] at HW11
      have HN1 := Lib.hid hN1
      clear hN1
      go_loopw [55] (fun v55 wr => ∃ k : Nat, k ≤ fm.length ∧ v55 = .int .i64 (k : Int) ∧ ClW w2 mb gm lb base (N1 + k) 0 (.slice a9 nx.length c9) ps.length nx lf1 [] (askK rs i k fm) (fun g => (Value.slice fa fm.length fc).ownBlock = some g) wr ∧ OwnI wr fb (.slice fa fm.length fc) fm ∧ wr.heap[bx]? = some (.cells (rlR r (.slice ka r.frm.length kc)).toArray 58 (0, 0))) (fun v _ => fm.length - (intOf v).toNat)
      case atStart => exact ⟨0, Nat.zero_le _, rfl, HW11.out.congr (fun x => askK_zero rs i fm x), HO11.out, HBx11.out⟩
      case round =>
        clear HW11 HO11 HBx11
        obtain ⟨k, hk2, rfl, hW, hO, hB⟩ := hrel
        have HW := Lib.hid hW
        have HO := Lib.hid hO
        have HB := Lib.hid hB
        clear hB hW
        by_cases hlt2 : k < fm.length
        · have hlt2' : (k : Int) < (fm.length : Nat) := by omega
          obtain ⟨b, o2, rfl, -, -⟩ := hO.rd.some_of (by rw [zv_length]; omega)
          have hc := hO.rd.num_at hlt2
          have HSk := Lib.hid (fun x => askK_succ (rs := rs) (i := i) (rise_nodup HFn.out) hlt2 x)
          have HZi := Lib.hid (HFin.out (fm.getD k 0) (by rw [List.getD_eq_getElem?_getD, List.getElem?_eq_getElem hlt2]; exact List.getElem_mem hlt2))
          have HZ := Lib.hid (wf_int (x := fm.getD k 0) (by have := HZi.out.1; omega) (by have := HZi.out.2; omega))
          generalize fm.getD k 0 = z at *
          clear hO
          have HKl := Lib.hid (show (askK rs i k fm z).length ≤ 301 by
            have h1 := askI_length rs i z
            unfold askK
            rw [List.length_append]
            split
            · simp only [List.length_cons, List.length_nil]; omega
            · simp only [List.length_nil]; omega)
          have HNo := Lib.hid (show ∀ g, ((Value.slice a9 nx.length c9).ownBlock = some g ∨ (Value.slice (some ⟨b, o2, none⟩) fm.length fc).ownBlock = some g) → g < wr.heap.size from fun g q => q.elim (fun q => (HW.out.nx.lt q).2) (fun q => (HO.out.lt q).2))
          have hfm2 := HFm.out
          have hN9 : N1 ≤ 314572800 := by have := HN1.out; omega
          have HWi := Lib.hid (wf_int (x := (i : Int)) (by omega) (by omega))
          go_wp2_with (first | (refine wpList_lookA rfl (.tmp 61) (.tmp 62) rfl gm base _ _ _ rfl HW.out.ak z rfl HZ.out ?_; intro uu HU HUl HUw HUn HUb) | (refine wpList_intSlice (by kernel_rfl) (.tmp 64) (i : Int) rfl rfl ?_; intro wB aB gB; have HUB := Lib.hid (HU.out.aft aB); have HSB := Lib.hid (Nat.le_trans HW.out.sz (Below.size aB)); have HAB := Lib.hid aB; have HGb := Lib.hid gB.out; clear aB gB) | (at_builtin; refine wpList_snocI rfl (.tmp 63) (.tmp 65) rfl base uu (askK rs i k fm z) rfl HUB.out _ (i : Int) rfl HGb.out (by have := HKl.out; omega) HSB.out ?_; intro gC cC wC t1 t2 t3) | (refine wpList_putA rfl (.tmp 59) (.tmp 60) (.tmp 66) rfl HUb.out HZ.out (by have := HFm.out; omega) rfl rfl rfl (grown2 HAB.out t2.out) t1.out (fun q hq => (List.mem_append.1 hq).elim (HUw.out q) (fun hq => by rw [List.mem_singleton.1 hq]; exact HWi.out)) (by rw [List.length_append]; have := HUl.out; simp only [List.length_cons, List.length_nil]; omega) (t3.out.imp (fun q => q.symm) (fun q => ⟨gC, rfl, Nat.le_trans (Below.size HAB.out) q⟩)) (no_new HUn.out HNo.out t3.out (Below.size HAB.out)) ?_; intro wD s1 s2))
          have HW2 := Lib.hid ((HW.out.ask HAB.out HU.out HUn.out t2.out s2.out s1.out).congr HSk.out)
          have HO2 := Lib.hid (HW.out.askOther HAB.out HUn.out t2.out s2.out HO.out (fun g q => q))
          have HB2 := Lib.hid (HW.out.askCell HAB.out HU.out t2.out s2.out HB.out (by decide))
          clear HU HUl HUw HUn HUb HUB HSB HAB HGb t1 t2 t3 s1 s2 HW HO HB HSk
          go_roundw
          case rel => exact ⟨k + 1, by omega, by go_num, HW2.out, HO2.out, HB2.out⟩
          case measure => simp [intOf]; omega
        · obtain rfl : k = fm.length := by omega
          have hlt2' : ¬ ((fm.length : Nat) : Int) < (fm.length : Nat) := by omega
          have hfm2 := HFm.out
          have HAll := Lib.hid (fun x => show askK rs i fm.length fm x = askI rs (i + 1) x by
            rw [← HFe.out, ← HRu.out]
            exact askK_all x)
          have HW2 := Lib.hid (((HW.out.congr HAll.out).reno (X' := fun _ => False) (fun g q => q.elim)).mono (n' := (i + 1) * 1048576) (by have := HN1.out; omega) (by omega))
          have d1 := cell_part (n := 1) HB.out rfl
          have HBs := Lib.hid HW2.out.sz
          have HNl := Lib.hid (show nx.length ≤ 1301 by
            have h1 := start_sz (rs.take i)
            rw [← HNx.out, List.length_append]
            have h2 : (rs.take i).length ≤ 300 := by rw [List.length_take]; omega
            omega)
          have HTo := Lib.hid (show toL (rs.take (i + 1)) = toL (rs.take i) ++ (if r.frm.isEmpty then [r.to] else []) by rw [HTk.out, toL_snoc])
          by_cases hem : fm.length = 0
          · have HE := Lib.hid (show known ++ toL (rs.take (i + 1)) = nx ++ [r.to] by
              have : r.frm = [] := rsl_nil.1 (by rw [HFe.out]; exact List.eq_nil_of_length_eq_zero hem)
              rw [HTo.out, this, ← HNx.out, List.append_assoc]
              rfl)
            have hem' : ((fm.length : Nat) : Int) = 0 := by omega
            clear HW HO HB HAll HTo
            go_wp2_with (first | (refine wpList_intSlice (by kernel_rfl) (.tmp 73) r.to rfl rfl ?_; intro wB aB gB; have HWB := Lib.hid (HW2.out.aft aB); have HGb := Lib.hid gB.out; clear aB gB) | (at_builtin; refine wpList_snocI rfl (.tmp 71) (.tmp 74) rfl base _ nx rfl HWB.out.nx _ r.to rfl HGb.out (by have := HNl.out; omega) HWB.out.sz ?_; intro gC cC wC t1 t2 t3))
            have HW3 := Lib.hid (HWB.out.push t2.out t1.out rfl t3.out)
            go_roundw
            case rel => exact ⟨i + 1, by omega, by go_num, by rw [HE.out, HLf1.out]; exact HW3.out⟩
            case measure => simp [intOf]; omega
          · have HE := Lib.hid (show known ++ toL (rs.take (i + 1)) = nx by
              have : r.frm.isEmpty = false := by
                cases hq : r.frm with
                | nil => rw [hq] at HFe; exact absurd (by rw [← HFe.out]; rfl) hem
                | cons a l => rfl
              rw [HTo.out, this, ← HNx.out, if_neg (by decide), List.append_nil])
            have hem' : ¬ ((fm.length : Nat) : Int) = 0 := by omega
            clear HW HO HB HAll HTo
            go_wp2_with fail
            go_roundw
            case rel => exact ⟨i + 1, by omega, by go_num, by rw [HE.out, HLf1.out]; exact HW2.out⟩
            case measure => simp [intOf]; omega
    · obtain rfl : i = ps.length := by omega
      have hlt' : ¬ ((ps.length : Nat) : Int) < (ps.length : Nat) := by omega
      have HS := Lib.hid (show ∃ next lf met, ClS known rs w2 mb gm lb base (ps.length * 1048576) ps.length (.slice a9 nx.length c9) wr next lf met from ⟨nx, lfL rs, [], by
        have h1 := HW.out
        rw [show rs.take ps.length = rs by rw [← HLn.out, List.take_length], Nat.sub_self, List.replicate_zero, List.append_nil] at h1
        have h2 := HNx.out
        rw [show rs.take ps.length = rs by rw [← HLn.out, List.take_length]] at h2
        obtain ⟨h3, h4⟩ := ClI.start known rs
        rw [h2] at h3
        exact ⟨h1, h3, h4, List.nodup_nil⟩⟩)
      clear HW HL HNx
      generalize nx.length = nl at *
      go_wp2_with fail
      go_loopw [9] (fun v9 wr => ∃ next lf met, ClS known rs w2 mb gm lb base (ps.length * 1048576) ps.length v9 wr next lf met) (fun v9 wr => leastM (fun k => ∃ next lf met, ClS known rs w2 mb gm lb base (ps.length * 1048576) ps.length v9 wr next lf met ∧ k = next.length + psl lf))
      case atStart => exact HS.out
      case round =>
        clear HS
        obtain ⟨next0, lf0, met0, h0⟩ := hrel
        have hl := leastM_is (p := fun k => ∃ next lf met, ClS known rs w2 mb gm lb base (ps.length * 1048576) ps.length _ wr next lf met ∧ k = next.length + psl lf) ⟨_, next0, lf0, met0, h0, rfl⟩
        obtain ⟨next, lf, met, ⟨hW, hI, hL, hN⟩, hM⟩ := hl
        obtain ⟨a9, c9, rfl⟩ := hW.nx.shape
        have HW := Lib.hid hW
        have HI := Lib.hid hI
        have HL := Lib.hid hL
        have HN := Lib.hid hN
        have HM := Lib.hid hM
        clear h0 hW hI hL hN hM
        by_cases hz : next = []
        · subst hz
          have hmt : met.length ≤ 1300 := by
            have := HI.out.sz
            rw [HLn.out] at this
            omega
          have HWf := Lib.hid (show ∀ y ∈ met, (Lit.int .i64 y).wf = true from fun y hy => by
            have h1 := HOk.out.within (HI.out.mt y hy)
            exact wf_int (by omega) (by omega))
          go_wp2_with fail
          refine (keysI_any mb wr).mono ?_
          rintro e w8 ⟨rfl, h8, hb8⟩
          have HS8 := Lib.hid (HW.out.mp.aft h8)
          have HA8 := Lib.hid (Aft.trans HW.out.af h8)
          have HB8 := Lib.hid hb8
          clear h8 hb8
          go_wp2_with fail
          refine (sortedK_any _ mb met.length met w8 HS8.out HN.out HWf.out (by omega) HB8.out).mono ?_
          rintro e w9 ⟨v, rfl, hv, h9⟩
          have HV := Lib.hid hv
          have HA9 := Lib.hid (Aft.trans HA8.out h9)
          clear hv h9
          go_wp2_with fail
          go_ret2
          exact .inl ⟨HOk.out, v, rsl met, rfl, HV.out.rd, rsl_rise met, fun y => rsl_mem.trans (HI.out.done HL.out y), Aft.trans HA.out HA9.out⟩
        · obtain ⟨n1, x, rfl⟩ : ∃ n1 x, next = n1 ++ [x] := ⟨next.dropLast, next.getLast hz, (List.dropLast_concat_getLast hz).symm⟩
          clear hz
          have hn1 : n1.length ≤ 1300 ∧ met.length ≤ 1300 := by
            have := HI.out.sz
            rw [HLn.out] at this
            simp only [List.length_append, List.length_cons, List.length_nil] at this
            omega
          obtain ⟨hn1, hmt⟩ := hn1
          have HX := Lib.hid (HOk.out.within (HI.out.nxt x (by simp)))
          have HXw := Lib.hid (wf_int (x := x) (by have := HX.out.1; omega) (by have := HX.out.2; omega))
          obtain ⟨b, o, rfl, -, hcp⟩ := HW.out.nx.rd.some_of (by rw [zv_length]; simp)
          rw [zv_length, List.length_append, List.length_singleton] at hcp
          have hc := HW.out.nx.rd.num_at (i := n1.length) (by simp)
          rw [show (n1 ++ [x]).getD n1.length 0 = x by simp] at hc
          have HP := Lib.hid (HW.out.cut (v9' := .slice (some ⟨b, o, none⟩) n1.length c9) (next' := n1) (by
            have := own_take HW.out.nx (k := n1.length) (by simp) (by simp)
            rwa [List.take_left' rfl] at this) (fun g q => q))
          clear HW
          go_wp2_with fail
          refine (tput_any mb met.length met x wr HP.out.mp (by omega) HXw.out).mono ?_
          rintro e w8 (⟨hm, rfl, rfl⟩ | ⟨hm, rfl, hS, hg⟩)
          · have HI2 := Lib.hid (HI.out.again hm)
            clear hm HI hc
            go_wp2_with fail
            go_roundw
            case rel => exact ⟨n1, lf, met, HP.out, HI2.out, HL.out, HN.out⟩
            case measure => exact Nat.lt_of_le_of_lt (leastM_le ⟨n1, lf, met, ⟨HP.out, HI2.out, HL.out, HN.out⟩, rfl⟩) (by rw [HM.out, List.length_append, List.length_singleton]; omega)
          · have HP8 := Lib.hid (HP.out.seen hg hS)
            have HI8 := Lib.hid (HI.out.pop)
            have HMn := Lib.hid hm
            clear hm hS hg HP HI hc
            go_wp2_with (first | (refine wpList_lookA rfl (.tmp 95) (.tmp 96) rfl gm base _ _ _ rfl HP8.out.ak x rfl HXw.out ?_; intro uu HU HUl HUw HUn HUb; obtain ⟨ua, uc, huv⟩ := HU.out.shape; subst huv; generalize haq : askI rs ps.length x = aq at *; have HAq := Lib.hid haq; clear haq HUb HUw HUl))
            go_loopw [9, 99] (fun v9 v99 wr => ∃ (k : Nat) (n2 l2 : List Int), k ≤ aq.length ∧ v99 = .int .i64 (k : Int) ∧ ClW w2 mb gm lb base (ps.length * 1048576) (met.length + 1) v9 ps.length n2 l2 (x :: met) (askI rs ps.length) (fun _ => False) wr ∧ ClI known rs (x :: met) n2 l2 ∧ ClL rs met l2 ((askF rs ps.length x).take k) ∧ n2.length + psl l2 = n1.length + psl lf ∧ OwnI wr base (.slice ua aq.length uc) aq ∧ (∀ g, (Value.slice ua aq.length uc).ownBlock = some g → v9.ownBlock ≠ some g)) (fun _ v _ => aq.length - (intOf v).toNat)
            case atStart => exact ⟨0, n1, lf, Nat.zero_le _, rfl, HP8.out, HI8.out, by rw [List.take_zero]; exact HL.out, rfl, HU.out, fun g q e => HUn.out g q (.inl e)⟩
            case round =>
              clear HP8 HI8 HU HUn
              obtain ⟨k, n2, l2, hk2, rfl, hW, hI, hL2, hz, hU, hne⟩ := hrel
              obtain ⟨a8, c8, rfl⟩ := hW.nx.shape
              have HW := Lib.hid hW
              have HI := Lib.hid hI
              have HL2 := Lib.hid hL2
              have HZ := Lib.hid hz
              have HU := Lib.hid hU
              have HNe := Lib.hid hne
              clear hW hI hL2 hz hne
              by_cases hlt : k < aq.length
              · have hlt' : (k : Int) < (aq.length : Nat) := by omega
                obtain ⟨b2, o2, rfl, -, -⟩ := hU.rd.some_of (by rw [zv_length]; omega)
                have hc2 := hU.rd.num_at hlt
                obtain ⟨j, hj1, hj2, hj3, hj4, hj5⟩ := askI_at (rs := rs) (i := ps.length) (x := x) (k := k) (by rw [HAq.out]; exact hlt)
                rw [HAq.out] at hj1
                rw [hj1] at hc2
                have hlc := HW.out.lo.rd.num_at (i := j) (by rw [HI.out.len, HLn.out]; exact hj2)
                rw [Nat.zero_add] at hlc
                have HFi := Lib.hid (ClL.fire HI.out HL2.out HMn.out (by rw [HLn.out]; exact hj2) hj4 hj3)
                have HFm := Lib.hid (show l2.getD j 0 ≤ 1048576 by
                  have h1 := HFi.out.2.1
                  have h2 := cntU_le met (rsl (ru rs j).frm)
                  have h3 := rise_len (a := 0) (m := 1048576) (rsl_rise (ru rs j).frm) (fun y hy => (HOk.out.2.2 _ (ru_mem (i := j) (by rw [HLn.out]; exact hj2))).1 y (rsl_mem.1 hy)) (by decide)
                  omega)
                have HTk := Lib.hid hj5
                have HSet := Lib.hid (show (l2.set j (l2.getD j 0 - 1)).getD j 0 = l2.getD j 0 - 1 from getD_set_eq (by rw [HI.out.len, HLn.out]; exact hj2))
                have hz1 := HFi.out.1
                have hz2 := HFm.out
                obtain ⟨g, o, c4, he, hrg⟩ := HRw.out.at hj2
                injection he with he1 he2 he3
                subst he1 he3
                have HTo := Lib.hid (fun (wx : World) (hx : Aft w2 wx) => (rl_cell (hrg wx hx)).2)
                have HRj := Lib.hid (HRs.out j hj2)
                have HLl := Lib.hid (show j < l2.length by rw [HI.out.len, HLn.out]; exact hj2)
                have hj9 : j ≤ 300 := by omega
                clear hU hj1 hj3 hj4 hj5 hrg he2
                rw [← HRj.out] at HTo
                generalize (ru rs j).to = tj at *
                generalize l2.getD j 0 = z at *
                obtain ⟨v, rfl⟩ : ∃ v, z = v + 1 := ⟨z - 1, by omega⟩
                rw [Int.add_sub_cancel] at HFi HSet hz1
                have HN2l := Lib.hid (show n2.length ≤ 1300 by
                  have := HI.out.sz
                  rw [HLn.out] at this
                  omega)
                have hal : aq.length ≤ 300 := by
                  rw [← HAq.out]
                  exact Nat.le_trans (askI_length rs ps.length x) hn3
                by_cases hv : v = 0
                · subst hv
                  rw [if_pos rfl] at HFi
                  go_wp2_with (first | (refine wpList_store_num rfl (.tmp 108) (.tmp 107) rfl lb lb ps.length ps.length l2 j HLl.out 0 HW.out.lo rfl rfl ?_; intro w11 k1 k2; have HW11 := Lib.hid (HW.out.left k2 k1); have HU11 := Lib.hid (own_row HU.out (grown_of_fr k2) (fun g hg e => by have h1 := (HU.out.lt hg).1; have h2 := HW.out.b3.2; cases e; have h3 : lb = Addr.block ⟨lb, 0, none⟩ := rfl; omega)); have hlc2 := k1.rd.num_at (i := j) (by rw [List.length_set]; exact HLl.out); rw [Nat.zero_add, HSet.out] at hlc2; have hto := HTo.out w11 HW11.out.af; clear k1 k2 hlc) | (refine wpList_intSlice (by kernel_rfl) (.tmp 119) tj rfl rfl ?_; intro wB aB gB; have HWB := Lib.hid (HW11.out.aft aB); have HUB := Lib.hid (HU11.out.aft aB); have HGb := Lib.hid gB.out; clear aB gB hto hlc2) | (at_builtin; refine wpList_snocI rfl (.tmp 114) (.tmp 120) rfl base _ n2 rfl HWB.out.nx _ tj rfl HGb.out (by have := HN2l.out; omega) HWB.out.sz ?_; intro gC cC wC t1 t2 t3))
                  have HW3 := Lib.hid (HWB.out.push t2.out t1.out rfl t3.out)
                  have HU3 := Lib.hid (HUB.out.fr t2.out (fun g hg e => HNe.out g hg e))
                  have HNe3 := Lib.hid (show ∀ g, (Value.slice (some ⟨b2, o2, none⟩) aq.length uc).ownBlock = some g → (Value.slice (some ⟨gC, 0, none⟩) (n2.length + 1) cC).ownBlock ≠ some g from fun g hg e => by
                    cases e
                    rcases t3.out with q | q
                    · exact HNe.out gC hg q
                    · have h1 := (HUB.out.lt hg).2
                      have h2 : gC = Addr.block ⟨gC, 0, none⟩ := rfl
                      omega)
                  clear t1 t2 t3 HWB HUB HW11 HU11 HNe HU HW
                  go_roundw
                  case rel => exact ⟨k + 1, n2 ++ [tj], l2.set j 0, by omega, by go_num, HW3.out, HFi.out.2.2.2.1, by rw [HTk.out]; exact HFi.out.2.2.1, by rw [HFi.out.2.2.2.2]; exact HZ.out, HU3.out, HNe3.out⟩
                  case measure => simp [intOf]; omega
                · rw [if_neg hv] at HFi
                  go_wp2_with (first | (refine wpList_store_num rfl (.tmp 108) (.tmp 107) rfl lb lb ps.length ps.length l2 j HLl.out v HW.out.lo rfl rfl ?_; intro w11 k1 k2; have HW11 := Lib.hid (HW.out.left k2 k1); have HU11 := Lib.hid (own_row HU.out (grown_of_fr k2) (fun g hg e => by have h1 := (HU.out.lt hg).1; have h2 := HW.out.b3.2; cases e; have h3 : lb = Addr.block ⟨lb, 0, none⟩ := rfl; omega)); have hlc2 := k1.rd.num_at (i := j) (by rw [List.length_set]; exact HLl.out); rw [Nat.zero_add, HSet.out] at hlc2;  clear k1 k2 hlc))
                  go_roundw
                  case rel => exact ⟨k + 1, n2, l2.set j v, by omega, by go_num, HW11.out, HFi.out.2.2.2.1, by rw [HTk.out]; exact HFi.out.2.2.1, by rw [HFi.out.2.2.2.2]; exact HZ.out, HU11.out, HNe.out⟩
                  case measure => simp [intOf]; omega
              · obtain rfl : k = aq.length := by omega
                have hlt' : ¬ ((aq.length : Nat) : Int) < (aq.length : Nat) := by omega
                have HT := Lib.hid (show ClL rs (x :: met) l2 [] from by
                  have h1 := HL2.out
                  have h2 : aq.length = (askF rs ps.length x).length := by rw [← HAq.out, askI, List.length_map]
                  rw [h2, List.take_length, ← HLn.out] at h1
                  exact h1.told HMn.out)
                have HN2 := Lib.hid (List.nodup_cons.2 ⟨HMn.out, HN.out⟩)
                clear hU
                go_wp2_with fail
                go_roundw
                case rel => exact ⟨n2, l2, x :: met, HW.out, HI.out, HT.out, HN2.out⟩
                case measure => exact Nat.lt_of_le_of_lt (leastM_le ⟨n2, l2, x :: met, ⟨HW.out, HI.out, HT.out, HN2.out⟩, rfl⟩) (by have := HZ.out; rw [HM.out, List.length_append, List.length_singleton]; omega)
end Go.Proofs.Ytfgammcefaomeaa
