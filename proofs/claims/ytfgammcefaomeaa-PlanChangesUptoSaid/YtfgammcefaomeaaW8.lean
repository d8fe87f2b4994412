/- coterieref10.Of. -/
import Derived.Test.YtfgammcefaomeaaW7
import Derived.Test.YtfgammcefaomeaaB3
namespace Go.Proofs.Ytfgammcefaomeaa
open Go Go.RowKit
set_option linter.unusedSimpArgs false
theorem idsF_len : ∀ (d : Nat) (l : List (NT d)), (∀ t ∈ l, wfT d t) → l.length ≤ (idsF d l).length
  | _, [], _ => Nat.zero_le _
  | d, t :: l, h => by
    rw [idsF_cons, List.length_append, List.length_cons]
    obtain ⟨r, hr⟩ := ids_fst d t (h t (List.mem_cons_self ..))
    have := idsF_len d l fun q hq => h q (List.mem_cons_of_mem _ hq)
    rw [hr, List.length_cons]
    omega
/-- The levels alone, one's own, with one more ahead. -/
theorem OwnTr.cons {w wA w' : World} {base : Nat} {vl vl' u : Value} {vs : List Value} {x : List Int} {ls : List (List Int)} (h : OwnTr w base (.slice none 0 0) vl vs [] ls) (ha : Aft w wA) (hu : OwnI wA base u x) (hq : ∀ g, u.ownBlock = some g → w.heap.size ≤ g)
    (hrow : w'.ownsRow base 22 1 vl' (u :: vs).length (u :: vs)) (hb : Aft wA w') : OwnTr w' base (.slice none 0 0) vl' (u :: vs) [] (x :: ls) := by
  refine ⟨OwnI.nil _ _, ⟨hrow, by rw [List.length_cons, List.length_cons, h.lv.len], fun i v hi => ?_, fun i j v v' g hij hi hj hg => ?_⟩, fun i v g hi hg e => by cases e⟩
  · cases i with
    | zero =>
      obtain rfl : u = v := Option.some.inj hi
      exact hu.aft hb
    | succ i => exact ((h.lv.own i v hi).aft ha).aft hb
  · cases j with
    | zero => omega
    | succ j =>
      cases i with
      | zero =>
        obtain rfl : u = v := Option.some.inj hi
        intro e
        have h1 := ((h.lv.own j v' hj).lt e).2
        have h2 := hq g hg
        omega
      | succ i => exact h.lv.dis i j v v' g (by omega) hi hj hg
theorem flatT_take {d : Nat} (ts : List (NT (d + 1))) {i : Nat} (h : i < ts.length) : flatT (ts.take (i + 1)) = flatT (ts.take i) ++ kidsT (ts.getD i (dfT (d + 1))) ∧ (lensT ts).take (i + 1) = (lensT ts).take i ++ [((kidsT (ts.getD i (dfT (d + 1)))).length : Int)] := by
  have h4 : ts.take (i + 1) = ts.take i ++ [ts.getD i (dfT (d + 1))] := by
    rw [List.take_add_one, List.getElem?_eq_getElem h, List.getD_eq_getElem?_getD, List.getElem?_eq_getElem h]
    rfl
  refine ⟨by rw [h4, flatT_append, flatT_one], ?_⟩
  unfold lensT
  rw [← List.map_take, h4, List.map_append, ← List.map_take]
  rfl
theorem flatT_len {d : Nat} : ∀ (ts : List (NT (d + 1))), (∀ t ∈ ts, wfT (d + 1) t) → (flatT ts).length ≤ 3 * ts.length
  | [], _ => Nat.zero_le _
  | t :: ts, h => by
    have h1 := (h t (List.mem_cons_self ..)).1
    have h2 := flatT_len ts fun q hq => h q (List.mem_cons_of_mem _ hq)
    rw [flatT_cons, List.length_append, List.length_cons]
    omega
theorem OwnI.storedK {w w' : World} {base g t : Nat} {v : Value} {xs : List Int} {cs : Array Value} {fr : Nat × Nat} (h : OwnI w base v xs) (hg : w.heap[g]? = some (.cells cs t fr)) (ht : t ≠ 3) (hb : ∀ k, k ≠ g → w'.heap[k]? = w.heap[k]?) : OwnI w' base v xs :=
  h.keep fun k hk => hb k (own_off h hg ht hk)
theorem aft_frR {w0 w w' : World} {base e s n : Nat} {v : Value} {xs : List Value} (ha : Aft w0 w) (ho : w.ownsRow base e s v n xs) (hb : w0.heap.size ≤ base) (hf : Fr (fun b => v.ownBlock = some b) w w') : Aft w0 w' :=
  ⟨hf.os.trans ha.os, hf.tape.trans ha.tape, hf.output.trans ha.output, Nat.le_trans ha.size hf.size, fun k hk => (hf.block k (Nat.lt_of_lt_of_le hk ha.size) fun q => by
    have hle : base ≤ k := by
      rcases ho.2 with ⟨rfl, -⟩ | ⟨g', cap, cur, rfl, hb', -, -⟩
      · cases q
      · have e : g' = k := Option.some.inj q
        rw [← e]
        exact hb'
    omega).trans (ha.block k hk)⟩
theorem lvF_len : ∀ (d : Nat) (l : List (NT d)), (lvF d l).length = d
  | 0, _ => rfl
  | d + 1, l => by
    show (lvF d (flatT l) ++ [lensT l]).length = d + 1
    rw [List.length_append, lvF_len d]
    rfl
theorem run_lvSlice (ao : Option Addr) (n c : Nat) (w : World) : (Instr.buildSlice 23 1 #[(0, .slice ao n c)]).run Try.prog w = .ok (.slice (some ⟨w.heap.size, 0, none⟩) 1 1) (w.alloc (.cells #[.slice ao n c] 22)) := by kernel_rfl
theorem wpList_lvSlice {ops : Array Oper} {rest : List Oper} {o : Oper} {a : Act} {w : World} {Q : Exit → Act → World → Prop} (hw : Region.wanted o (yielded ops a.tmps) = true) (y : Operand) (ao : Option Addr) (n c : Nat) (ho : o.op = .buildSlice 23 1 #[(0, y)]) (hy : a.eval y = .slice ao n c)
    (h : ∀ w', Aft w w' → Hid (w'.heap[w.heap.size]? = some (.cells #[.slice ao n c] 22 (0, 0))) → wpList Try.prog ops Q rest (a.put o.dst (.slice (some ⟨w.heap.size, 0, none⟩) 1 1)) w') : wpList Try.prog ops Q (o :: rest) a w := by
  unfold wpList
  rw [if_pos hw]
  refine .inl (wp_noOut ?_)
  unfold Oper.wp execOp
  simp only [ho, hy, Sem.run_bind, List.map_toArray, List.map_cons, List.map_nil, run_lvSlice ao n c w, Result.andThen_ok, Sem.run_pure]
  exact h _ (Aft.alloc w _) (heap_alloc_new w _)
/-- Where the first loop stands. -/
def OfP (w : World) (sb : Nat) (ids : List Int) (lv : List (List Int)) (v0 : Value) (wr : World) (d : Nat) : Prop :=
  ∃ (qs : List (NT d × Value)) (vl : Value) (vs : List Value) (ls : List (List Int)), RdF d wr (fun g => g ≠ sb) v0 qs ∧ (∀ p ∈ qs, wfT d p.1) ∧ 0 < qs.length ∧ idsF d (qs.map Prod.fst) = ids ∧ lvF d (qs.map Prod.fst) ++ ls = lv ∧ OwnTr wr w.heap.size (.slice none 0 0) vl vs [] ls ∧
    Led w wr [(w.heap.size, .cells (shpL (.slice none 0 0) (.slice none 0 0)).toArray 25), (sb, .cells (shpL (.slice none 0 0) vl).toArray 25)]
def OfSays (ids : List Int) (lv : List (List Int)) (w : World) (e : Ending) (w' : World) : Prop :=
  ∃ vi vl vs, e = .returned (.agg (shpL vi vl).toArray) ∧ OwnTr w' w.heap.size vi vl vs ids lv ∧ Aft w w'
/-- Where the loop within stands. -/
def OfI {m : Nat} (qs : List (NT (m + 1) × Value)) (w W5 : World) (sb : Nat) (vl v4 v5 : Value) (i : Nat) (ws : World) : Prop :=
  ∃ bs : List (NT m × Value), OwnI ws W5.heap.size v4 ((lensT (qs.map Prod.fst)).take i) ∧ OwnF m ws W5.heap.size (fun g => g ≠ sb ∧ g < W5.heap.size) v5 bs ∧ bs.map Prod.fst = flatT ((qs.map Prod.fst).take i) ∧ Aft W5 ws ∧ Led w ws [(w.heap.size, .cells (shpL (.slice none 0 0) (.slice none 0 0)).toArray 25), (sb, .cells (shpL (.slice none 0 0) vl).toArray 25)]
/-- Where the last loop stands. -/
def OfJ (ids : List Int) (w W5 : World) (sb : Nat) (vl : Value) (vs : List Value) (ls : List (List Int)) (i : Nat) (ws : World) : Prop :=
  ∃ vi, OwnTr ws w.heap.size vi vl vs (ids.take i) ls ∧ OwnI ws W5.heap.size vi (ids.take i) ∧ (∀ g, g ≠ sb → g < W5.heap.size → ws.heap[g]? = W5.heap[g]?) ∧ W5.heap.size ≤ ws.heap.size ∧ Led w ws [(w.heap.size, .cells (shpL (.slice none 0 0) (.slice none 0 0)).toArray 25), (sb, .cells (shpL vi vl).toArray 25)]
theorem map_getD {α β : Type} (f : α → β) : ∀ (qs : List α) (i : Nat) (x : β) (df : α), i < qs.length → (qs.map f).getD i x = f (qs.getD i df)
  | [], _, _, _, h => by cases h
  | _ :: _, 0, _, _, _ => rfl
  | _ :: qs, i + 1, x, df, h => map_getD f qs i x df (Nat.lt_of_succ_lt_succ h)
theorem take_one {ids : List Int} {i : Nat} (h : i < ids.length) : ids.take (i + 1) = ids.take i ++ [ids.getD i 0] := by
  rw [List.take_add_one, List.getElem?_eq_getElem h, List.getD_eq_getElem?_getD, List.getElem?_eq_getElem h]
  rfl
set_option maxRecDepth 100000 in
set_option maxHeartbeats 8000000 in
theorem rOf_any (d : Nat) (v : Value) (ps : List (NT d × Value)) (w : World) (hr : RdF d w (fun _ => True) v ps) (hwf : ∀ p ∈ ps, wfT d p.1) (hpos : 0 < ps.length) (hsm : (idsF d (ps.map Prod.fst)).length ≤ 1001) (hd9 : d ≤ 1000) :
    Calls Try.prog 82 #[v] w (OfSays (idsF d (ps.map Prod.fst)) (lvF d (ps.map Prod.fst)) w) := by
  have HR := Lib.hid hr
  have HWf := Lib.hid hwf
  have HPos := Lib.hid hpos
  have HSm := Lib.hid hsm
  have HDl := Lib.hid (show (lvF d (ps.map Prod.fst)).length ≤ 1000 by rw [lvF_len]; exact hd9)
  obtain ⟨pa, pc, rfl, -, -⟩ := hr.shape
  obtain ⟨ids, hids⟩ : ∃ ids, ids = idsF d (ps.map Prod.fst) := ⟨_, rfl⟩
  obtain ⟨lv, hlv⟩ : ∃ lv, lv = lvF d (ps.map Prod.fst) := ⟨_, rfl⟩
  rw [← hids, ← hlv]
  rw [← hids] at HSm
  rw [← hlv] at HDl
  have HIds := Lib.hid hids
  have HLv := Lib.hid hlv
  have HL := Lib.hid (Led.start w)
  clear hr hwf hpos hsm hids hlv hd9
  go_enter Try.func82, Try.ntmps82
  go_wp2_with (first | (refine wpList_buildO (by kernel_rfl) 25 #[] rfl #[] (by kernel_rfl) _ (build_shp0) ?_) | (refine wpList_allocO rfl 25 rfl (.cells (shpL (.slice none 0 0) (.slice none 0 0)).toArray 25) alloc_shp ?_; intro w' aa gg zz; have HZ := Lib.hid zz; replace HL := Lib.hid (HL.out.alloc aa gg.out); clear aa gg; (try simp only [List.nil_append, List.cons_append, List.set_cons_zero, List.set_cons_succ] at HL)) | (refine wpList_store_shp rfl (.tmp 3) (.tmp 10) _ _ _ (.slice none 0 0) (.slice none 0 0) rfl rfl rfl rfl rfl (HL.out.get 1 rfl) ?_; intro w9 b1 b2 b3; replace HL := Lib.hid (HL.out.store 1 rfl b1 b2 b3); clear b1 b2 b3; try simp only [List.nil_append, List.cons_append, List.set_cons_zero, List.set_cons_succ] at HL))
  rename_i w1 zz1 HZ1 Kx hKx
  simp only [Act.put, List.setIfInBounds_toArray, List.set_cons_succ, List.set_cons_zero]
  have hsb : w1.heap.size = w.heap.size + 1 := zz1
  clear zz zz1 HZ HZ1
  obtain ⟨sb, hsb2⟩ : ∃ sb, sb = w1.heap.size := ⟨_, rfl⟩
  rw [← hsb2] at hsb HL ⊢
  clear hsb2
  have HSb := Lib.hid hsb
  clear hsb
  go_loopw [0] (fun v0 wr => ∃ d', OfP w sb ids lv v0 wr d') (fun v0 wr => leastN (OfP w sb ids lv v0 wr))
  case atStart => exact ⟨d, ps, .slice none 0 0, [], [], (HR.out.mono (B' := fun g => g ≠ sb) (fun g _ hl e => by have := HSb.out; omega)).aft HL.out.aft, HWf.out, HPos.out, HIds.out.symm, by rw [List.append_nil]; exact HLv.out.symm, OwnTr.nil _ _, HL.out⟩
  case round =>
    clear HL HR HWf HPos HIds HLv
    have hl := leastN_is hrel
    obtain ⟨m, hm⟩ : ∃ m, m = leastN (OfP w sb ids lv u0 wr) := ⟨_, rfl⟩
    rw [← hm] at hl
    have HM := Lib.hid hm
    clear hm hrel
    obtain ⟨qs, vl, vs, ls, hR, hwf, hpos, hid, hlv, hT, hL⟩ := hl
    have HL := Lib.hid hL
    have HT := Lib.hid hT
    have HR := Lib.hid hR
    have HWf := Lib.hid hwf
    have HPos := Lib.hid hpos
    have HId := Lib.hid hid
    have HLv := Lib.hid hlv
    have hql : qs.length ≤ 1001 := by
      have h1 := idsF_len m (qs.map Prod.fst) (fun t ht => by
        obtain ⟨p, hp, rfl⟩ := List.mem_map.1 ht
        exact hwf p hp)
      rw [hid, List.length_map] at h1
      exact Nat.le_trans h1 HSm.out
    obtain ⟨g, o, qc, rfl, -, hrg0, hkd0⟩ := hR.at hpos (dfT m, .slice none 0 0)
    have hpos' : (0 : Int) < (qs.length : Nat) := by omega
    have hc18 : wr.cell? ⟨g, o + 1, none⟩ = some (qs.getD 0 (dfT m, .slice none 0 0)).2 := by
      have := hrg0 wr (Aft.refl _) 1 _ rfl
      rwa [Nat.zero_mul, Nat.add_zero] at this
    clear hL hT hR hwf hpos hid hlv hrg0
    cases m with
    | zero =>
      have hk0 : (qs.getD 0 (dfT 0, Value.slice none 0 0)).2 = .slice none 0 0 := hkd0
      rw [hk0] at hc18
      clear hk0 hkd0
      have HIl := Lib.hid (show ids.length = qs.length by
        rw [← HId.out]
        exact List.length_map ..)
      have HIg := Lib.hid (show ∀ i, i < qs.length → ids.getD i 0 = idT 0 (qs.getD i (dfT 0, Value.slice none 0 0)).1 by
        intro i hi
        rw [← HId.out]
        exact map_getD Prod.fst qs i (0 : Int) (dfT 0, Value.slice none 0 0) hi)
      have HLl := Lib.hid (show ls = lv from HLv.out)
      obtain ⟨W5, hW5⟩ : ∃ W5, W5 = wr := ⟨_, rfl⟩
      subst hW5
      have HSz := Lib.hid (Below.size HL.out.aft)
      have HSm2 := Lib.hid hql
      obtain ⟨-, -, b0, d0, -, rfl⟩ := HT.out.shape
      go_wp2_with fail
      clear hc18
      go_loopw [48] (fun v48 ws => ∃ i : Nat, i ≤ qs.length ∧ v48 = .int .i64 (i : Int) ∧ OfJ ids w W5 sb (.slice b0 ls.length d0) vs ls i ws) (fun v _ => qs.length - (intOf v).toNat)
      case atStart => exact ⟨0, Nat.zero_le _, rfl, _, HT.out, OwnI.nil _ _, fun _ _ _ => rfl, Nat.le_refl _, HL.out⟩
      case round =>
        clear HL HT
        obtain ⟨i, hi, rfl, vi, hT, hO, hK, hS, hL⟩ := hrel
        have HL := Lib.hid hL
        have HT := Lib.hid hT
        have HO := Lib.hid hO
        have HK := Lib.hid hK
        have HS := Lib.hid hS
        obtain ⟨a4, c4, rfl⟩ := hO.shape
        clear hL hT hO hK hS
        by_cases hlt : i < qs.length
        · have hlt' : (i : Int) < (qs.length : Nat) := by omega
          obtain ⟨g', o', cp', he, -, hrg, hkd⟩ := (HR.out.keep HK.out HS.out).at hlt (dfT 0, .slice none 0 0)
          injection he with e1 e2 e3
          injection e1 with e1
          injection e1 with e1 e4 e5
          subst e1 e4
          have HRg := Lib.hid (hrg wr (Aft.refl _))
          have HOne := Lib.hid hkd.one
          have HTk := Lib.hid (take_one (ids := ids) (i := i) (by rw [HIl.out]; exact hlt))
          have HIx := Lib.hid (HIg.out i hlt)
          have HLl2 := Lib.hid (show (ids.take i).length ≤ 1001 by rw [List.length_take]; have := HSm2.out; omega)
          generalize qs.getD i (dfT 0, .slice none 0 0) = q at *
          obtain ⟨tq, kq⟩ := q
          generalize ids.take i = lt at *
          clear hrg hkd e2 e3 e5
          go_wp2_with (first | (refine wpList_load_mid2 (by kernel_rfl) 114 (.tmp 50) rfl _ _ rfl (ndK (tq, kq)) HRg.out _ Try.underlying114 rfl (rn_info2 _) ?_) | (refine wpList_allocO rfl 114 rfl (.cells [.int .i64 0, .slice none 0 0].toArray 114) alloc_rn ?_; intro wx aa gg zz; replace HT := Lib.hid (HT.out.aft aa); replace HO := Lib.hid (HO.out.aft aa); have HK2 := Lib.hid (fun g (h1 : g ≠ sb) (h2 : g < W5.heap.size) => (Below.block aa g (Nat.lt_of_lt_of_le h2 HS.out)).trans (HK.out g h1 h2)); replace HL := Lib.hid (HL.out.alloc aa gg.out); have HS2 := Lib.hid (Nat.le_trans HS.out (Below.size aa)); clear aa gg zz; try simp only [List.nil_append, List.cons_append, List.set_cons_zero, List.set_cons_succ] at HL) | (refine wpList_store_rowZ rfl 114 (.tmp 9) (.tmp 51) rfl _ (ndK (tq, kq)).toArray rfl rfl _ _ (HL.out.get 2 rfl) (rn_info _) rfl HOne.out ?_; intro wy b1 b2 b3; replace HO := Lib.hid (HO.out.storedK (HL.out.get 2 rfl) (by decide) b2.out); replace HT := Lib.hid (HT.out.stored (HL.out.get 2 rfl) (by decide) (by decide) b2.out); have HK3 := Lib.hid (fun g (h1 : g ≠ sb) (h2 : g < W5.heap.size) => (b2.out g (Nat.ne_of_lt (Nat.lt_of_lt_of_le h2 HS.out))).trans (HK2.out g h1 h2)); have HS3 := Lib.hid (Nat.le_trans HS2.out (b3 0 _ (Nat.zero_le _) (Below.refl 0 _)).size); replace HL := Lib.hid (HL.out.store 2 rfl b1 b2 b3); clear b1 b2 b3; (try simp only [List.nil_append, List.cons_append, List.set_cons_zero, List.set_cons_succ] at HL); have d1 := cell_part (n := 0) (HL.out.get 2 rfl) (show _ = some (Value.int .i64 (idT 0 tq)) from rfl); have d2 := cell_part (n := 0) (HL.out.get 1 rfl) (show _ = some (Value.slice a4 lt.length c4) from rfl)) | (refine wpList_intSlice (by kernel_rfl) (.tmp 55) (idT 0 tq) rfl rfl ?_; intro wB aB gB; replace HO := Lib.hid (HO.out.aft aB); replace HT := Lib.hid (HT.out.aft aB); have HK4 := Lib.hid (fun g (h1 : g ≠ sb) (h2 : g < W5.heap.size) => (Below.block aB g (Nat.lt_of_lt_of_le h2 HS3.out)).trans (HK3.out g h1 h2)); have HS4 := Lib.hid (Nat.le_trans HS3.out (Below.size aB)); replace HL := Lib.hid (HL.out.call aB); have HGb := Lib.hid gB.out; clear aB gB d1 d2) | (at_builtin; refine wpList_snocI rfl (.tmp 53) (.tmp 56) rfl W5.heap.size _ lt rfl HO.out wy.heap.size (idT 0 tq) rfl HGb.out (by have := HLl2.out; omega) HS4.out ?_; intro g6 c6 wC k1 k2 k3; have HK5 := Lib.hid (fun g (h1 : g ≠ sb) (h2 : g < W5.heap.size) => (k2.out.block g (Nat.lt_of_lt_of_le h2 HS4.out) (fun e => absurd h2 (Nat.not_lt.2 (HO.out.lt e).1))).trans (HK4.out g h1 h2)); have HS5 := Lib.hid (Nat.le_trans HS4.out k2.out.size); replace HL := Lib.hid (HL.out.frO HO.out HSz.out k2.out rfl); replace HT := Lib.hid (HT.out.turnI (vi' := .slice (some ⟨g6, 0, none⟩) (lt.length + 1) c6) k2.out (k1.out.mono HSz.out) (fun g hg => by obtain rfl : g6 = g := Option.some.inj hg; exact k3.out)); replace HO := Lib.hid k1.out; clear k1 k2 k3) | (refine wpList_store_cellJ rfl 22 (.tmp 58) (.tmp 57) rfl sb 0 (.slice (some ⟨g6, 0, none⟩) (lt.length + 1) c6) rfl rfl 25 (shpL (.slice a4 lt.length c4) (.slice b0 ls.length d0)) (by show 0 < 2; decide) (HL.out.get 1 rfl) (by kernel_rfl) rfl rfl ?_; intro wG b1 b2 b3; replace HT := Lib.hid (HT.out.stored (HL.out.get 1 rfl) (by decide) (by decide) b2.out); replace HO := Lib.hid (HO.out.storedK (HL.out.get 1 rfl) (by decide) b2.out); have HK6 := Lib.hid (fun g (h1 : g ≠ sb) (h2 : g < W5.heap.size) => (b2.out g h1).trans (HK5.out g h1 h2)); have HS6 := Lib.hid (Nat.le_trans HS5.out (b3 0 _ (Nat.zero_le _) (Below.refl 0 _)).size); replace HL := Lib.hid (HL.out.store 1 rfl b1 b2 b3); clear b1 b2 b3; (try simp only [List.nil_append, List.cons_append, List.set_cons_zero, List.set_cons_succ] at HL)))
          go_roundw
          case rel => exact ⟨i + 1, by omega, by go_num, _, by rw [HTk.out, HIx.out]; exact HT.out, by rw [HTk.out, HIx.out]; exact HO.out, HK6.out, HS6.out, HL.out.cut 2⟩
          case measure => simp [intOf]; omega
        · obtain rfl : i = qs.length := by omega
          have hlt' : ¬ ((qs.length : Nat) : Int) < (qs.length : Nat) := by omega
          have HTk := Lib.hid (show ids.take qs.length = ids from List.take_of_length_le (Nat.le_of_eq HIl.out))
          generalize ids.take qs.length = lt at *
          go_wp2_with (first | (refine wpList_load_rowG (by kernel_rfl) 25 (.tmp 3) rfl _ rfl _ _ _ _ (HL.out.get 1 rfl) Try.underlying25 rfl (shp_info _ _) ?_) | (refine wpList_store_shp rfl (.tmp 2) (.tmp 60) _ _ _ (.slice a4 lt.length c4) (.slice b0 ls.length d0) rfl rfl rfl rfl rfl (HL.out.get 0 rfl) ?_; intro w9 b1 b2 b3; replace HT := Lib.hid (HT.out.stored (HL.out.get 0 rfl) (by decide) (by decide) b2.out); replace HL := Lib.hid (HL.out.store 0 rfl b1 b2 b3); clear b1 b2 b3; try simp only [List.nil_append, List.cons_append, List.set_cons_zero, List.set_cons_succ] at HL))
          refine bodyPost_ret (results_cell_row rfl _ _ _ 25 (shpL (.slice a4 lt.length c4) (.slice b0 ls.length d0)).toArray (0, 0) _ rfl (HL.out.get 0 rfl) Try.underlying25 rfl (shp_info _ _)) rfl ?_
          exact ⟨_, _, _, rfl, by rw [← HTk.out, ← HLl.out]; exact HT.out, HL.out.aft⟩
    | succ m =>
      obtain ⟨ka, kc, hk0⟩ := hkd0.shape
      have hw0 : ((0 : Nat) : Int) < ((kidsT (qs.getD 0 (dfT (m + 1), Value.slice none 0 0)).1).length : Nat) := by
        have := (HWf.out (qs.getD 0 (dfT (m + 1), Value.slice none 0 0)) (by rw [List.getD_eq_getElem?_getD, List.getElem?_eq_getElem HPos.out]; exact List.getElem_mem _)).1
        omega
      have hw0' : (0 : Int) < ((kidsT (qs.getD 0 (dfT (m + 1), Value.slice none 0 0)).1).length : Nat) := hw0
      rw [hk0] at hc18
      generalize (kidsT (qs.getD 0 (dfT (m + 1), Value.slice none 0 0)).1).length = n0 at *
      obtain ⟨W5, hW5⟩ : ∃ W5, W5 = wr := ⟨_, rfl⟩
      subst hW5
      have HSz := Lib.hid (Below.size HL.out.aft)
      have HLW := HL
      clear hk0 hkd0 hw0
      go_wp2_with fail
      clear hc18
      go_loopw [4, 5, 24] (fun v4 v5 v24 ws => ∃ i : Nat, i ≤ qs.length ∧ v24 = .int .i64 (i : Int) ∧ OfI qs w W5 sb vl v4 v5 i ws) (fun _ _ v _ => qs.length - (intOf v).toNat)
      case atStart => exact ⟨0, Nat.zero_le _, rfl, [], OwnI.nil _ _, OwnF.nil _ _ _ _, rfl, Aft.refl _, HL.out⟩
      case round =>
        clear HL
        obtain ⟨i, hi, rfl, bs, hO, hB, hbs, hA, hL⟩ := hrel
        have HL := Lib.hid hL
        have HA := Lib.hid hA
        have HO := Lib.hid hO
        have HB := Lib.hid hB
        have HBs := Lib.hid hbs
        obtain ⟨a4, c4, rfl⟩ := hO.shape
        obtain ⟨a5, c5, rfl⟩ := hB.shape
        clear hL hA hO hB hbs
        by_cases hlt : i < qs.length
        · have hlt' : (i : Int) < (qs.length : Nat) := by omega
          obtain ⟨g', o', cp', he, -, hrg, hkd⟩ := HR.out.at hlt (dfT (m + 1), .slice none 0 0)
          injection he with e1 e2 e3
          injection e1 with e1
          injection e1 with e1 e4 e5
          subst e1 e4
          have HRg := Lib.hid (hrg wr HA.out)
          have HKd := Lib.hid hkd
          have HOne := Lib.hid hkd.one
          have hft := flatT_take (qs.map Prod.fst) (i := i) (by rw [List.length_map]; exact hlt)
          have hfs : (qs.map Prod.fst).getD i (dfT (m + 1)) = (qs.getD i (dfT (m + 1), Value.slice none 0 0)).1 := by
            simp only [List.getD_eq_getElem?_getD, List.getElem?_map]
            cases qs[i]? <;> rfl
          rw [hfs] at hft
          have HF1 := Lib.hid hft.1
          have HF2 := Lib.hid hft.2
          have HW23 := Lib.hid (HWf.out (qs.getD i (dfT (m + 1), Value.slice none 0 0)) (by rw [List.getD_eq_getElem?_getD, List.getElem?_eq_getElem hlt]; exact List.getElem_mem _)).1
          generalize qs.getD i (dfT (m + 1), .slice none 0 0) = q at *
          obtain ⟨tq, kq⟩ := q
          obtain ⟨ks, hks, hrk⟩ := hkd.rdF
          have hkl : ks.length = (kidsT tq).length := by rw [← hks, List.length_map]
          obtain ⟨ka, kc, hkq, -, -⟩ := hrk.shape
          have HKs := Lib.hid hks
          have HRk := Lib.hid hrk
          have HKq := Lib.hid hkq
          have hbl : bs.length ≤ 3003 := by
            have h1 := flatT_len ((qs.map Prod.fst).take i) (fun t ht => by
              obtain ⟨p, hp, rfl⟩ := List.mem_map.1 (List.mem_of_mem_take ht)
              exact HWf.out p hp)
            rw [← HBs.out, List.length_map, List.length_take, List.length_map] at h1
            omega
          have hll : ((lensT (qs.map Prod.fst)).take i).length ≤ 1001 := by
            rw [List.length_take]
            omega
          have HBl := Lib.hid hbl
          have HLl := Lib.hid hll
          have HK3 := Lib.hid (show ks.length ≤ 3 by rw [hkl]; have := HW23.out; simp only at this; omega)
          have HKl := Lib.hid hkl
          generalize (lensT (qs.map Prod.fst)).take i = lt at *
          clear hrg hkd hft hfs hks hrk hkq hbl hll hkl e2 e3 e5
          go_wp2_with (first | (refine wpList_load_mid2 (by kernel_rfl) 114 (.tmp 26) rfl _ _ rfl (ndK (tq, kq)) HRg.out _ Try.underlying114 rfl (rn_info2 _) ?_) | (refine wpList_allocO rfl 114 rfl (.cells [.int .i64 0, .slice none 0 0].toArray 114) alloc_rn ?_; intro wx aa gg zz; have HBn := Lib.hid (show ∀ k, (Value.slice a5 bs.length c5).ownBlock = some k → k ≠ wr.heap.size from fun k hk e => absurd (HB.out.row.lt k hk).2 (by rw [e]; exact Nat.lt_irrefl _)); have HA0 := HA; replace HA := Lib.hid (Aft.trans HA.out aa); replace HB := Lib.hid (HB.out.aft aa); replace HO := Lib.hid (HO.out.aft aa); replace HL := Lib.hid (HL.out.alloc aa gg.out); clear aa gg zz; try simp only [List.nil_append, List.cons_append, List.set_cons_zero, List.set_cons_succ] at HL) | (refine wpList_store_rowZ rfl 114 (.tmp 7) (.tmp 27) rfl _ (ndK (tq, kq)).toArray rfl rfl _ _ (HL.out.get 2 rfl) (rn_info _) rfl HOne.out ?_; intro wy b1 b2 b3; replace HO := Lib.hid (HO.out.storedK (HL.out.get 2 rfl) (by decide) b2.out); replace HB := Lib.hid (HB.out.keep (fun k hk => b2.out k (HBn.out k hk)) (fun k hk hl => b2.out k (fun e => absurd hk.2 (by rw [e]; exact Nat.not_lt.2 (Below.size HA0.out)))) (b3 0 _ (Nat.zero_le _) (Below.refl 0 _)).size); replace HA := Lib.hid (b3 _ _ (Below.size HA0.out) HA.out); replace HL := Lib.hid (HL.out.store 2 rfl b1 b2 b3); clear b1 b2 b3; (try simp only [List.nil_append, List.cons_append, List.set_cons_zero, List.set_cons_succ] at HL); have d1 := (cell_part (n := 1) (HL.out.get 2 rfl) (show _ = some kq from rfl)).trans (congrArg some HKq.out)) | (refine wpList_intSlice (by kernel_rfl) (.tmp 31) ((ks.length : Nat) : Int) rfl rfl ?_; intro wB aB gB; replace HO := Lib.hid (HO.out.aft aB); replace HB := Lib.hid (HB.out.aft aB); replace HA := Lib.hid (Aft.trans HA.out aB); replace HL := Lib.hid (HL.out.call aB); have HGb := Lib.hid gB.out; clear aB gB d1) | (at_builtin; refine wpList_snocI rfl (.tmp 28) (.tmp 32) rfl W5.heap.size _ lt rfl HO.out wy.heap.size ((ks.length : Nat) : Int) rfl HGb.out (by have := HLl.out; omega) (Below.size HA.out) ?_; intro g6 c6 wC k1 k2 k3; replace HB := Lib.hid (HB.out.keep (fun k hk => k2.out.block k (HB.out.row.lt k hk).2 (fun e => own_ne2 HB.out.row.2 HO.out (by decide) e hk)) (fun k hk hl => k2.out.block k hl (fun e => absurd hk.2 (Nat.not_lt.2 (HO.out.lt e).1))) k2.out.size); replace HA := Lib.hid (aft_fr HA.out HO.out (Nat.le_refl _) k2.out); replace HL := Lib.hid (HL.out.frO HO.out HSz.out k2.out rfl); replace HO := Lib.hid k1.out; clear k1 k2 k3; have d1 := (cell_part (n := 1) (HL.out.get 2 rfl) (show _ = some kq from rfl)).trans (congrArg some HKq.out)) | (at_builtin; refine wpList_appK rfl (.tmp 34) (.tmp 36) rfl W5.heap.size (fun g => g ≠ sb ∧ g < W5.heap.size) _ bs rfl HB.out (fun k hk q => absurd q.2 (Nat.not_lt.2 (HB.out.row.lt k hk).1)) _ ks rfl (by rw [← HKq.out]; exact (HRk.out.aft HA.out).row) (fun p hp => ((HRk.out.kid p hp).mono (fun _ hg hl => ⟨hg, hl⟩)).aft HA.out) (by have h1 := HBl.out; have h2 := HK3.out; omega) (Below.size HA.out) ?_; intro v9 wD k1 k2 k3; replace HL := Lib.hid (Led.frR (HL.out.cut 2) HB.out.row.2 HSz.out k2.out rfl); replace HO := Lib.hid (HO.out.fr k2.out (fun k hk e => own_ne2 HB.out.row.2 HO.out (by decide) hk e)); replace HA := Lib.hid (aft_frR HA.out HB.out.row.2 (Nat.le_refl _) k2.out); replace HB := Lib.hid (k1.out.monoB (B' := fun g => g ≠ sb ∧ g < W5.heap.size) (fun _ hg _ => hg.1)); clear k1 k2 k3 d1))
          go_roundw
          case rel => exact ⟨_, _, _, _, ⟨i + 1, by omega, by go_num, bs ++ ks, by rw [HF2.out, ← HKl.out]; exact HO.out, HB.out, by rw [HF1.out, List.map_append, HBs.out, HKs.out], HA.out, HL.out⟩, rfl, rfl, rfl, rfl⟩
          case measure => simp [intOf]; omega
        · obtain rfl : i = qs.length := by omega
          have hlt' : ¬ ((qs.length : Nat) : Int) < (qs.length : Nat) := by omega
          rw [List.take_of_length_le (by unfold lensT; rw [List.length_map, List.length_map]; exact Nat.le_refl _)] at HO
          rw [List.take_of_length_le (by rw [List.length_map]; exact Nat.le_refl _)] at HBs
          have hlen : ((lensT (qs.map Prod.fst)).take qs.length).length = (lensT (qs.map Prod.fst)).length := by
            rw [List.take_of_length_le (by unfold lensT; rw [List.length_map, List.length_map]; exact Nat.le_refl _)]
          rw [hlen]
          have HLf := Lib.hid (show lvF (m + 1) (qs.map Prod.fst) ++ ls = lvF m (bs.map Prod.fst) ++ (lensT (qs.map Prod.fst) :: ls) by
            rw [HBs.out]
            show (lvF m (flatT (qs.map Prod.fst)) ++ [lensT (qs.map Prod.fst)]) ++ ls = _
            rw [List.append_assoc]
            rfl)
          have HIf := Lib.hid (show idsF (m + 1) (qs.map Prod.fst) = idsF m (bs.map Prod.fst) by rw [HBs.out]; rfl)
          have HBw := Lib.hid (show ∀ p ∈ bs, wfT m p.1 from fun p hp => by
            have h1 : p.1 ∈ flatT (qs.map Prod.fst) := by rw [← HBs.out]; exact List.mem_map.2 ⟨p, hp, rfl⟩
            obtain ⟨l, hl, hpl⟩ := List.mem_flatten.1 h1
            obtain ⟨tt, htt, rfl⟩ := List.mem_map.1 hl
            obtain ⟨q, hq, rfl⟩ := List.mem_map.1 htt
            exact (HWf.out q hq).2 _ hpl)
          have HBp := Lib.hid (show 0 < bs.length by
            have h1 := congrArg List.length HBs.out
            rw [List.length_map] at h1
            rw [h1]
            have hp := HPos.out
            match qs, hp, HWf.out with
            | q :: qs, _, hw =>
              have h2 := (hw q (List.mem_cons_self ..)).1
              rw [List.map_cons, flatT_cons, List.length_append]
              omega)
          have hlsl : ls.length ≤ 1000 := by
            have h1 := congrArg List.length HLv.out
            rw [List.length_append] at h1
            have := HDl.out
            omega
          have HLl := Lib.hid hlsl
          have HTw := Lib.hid (HT.out.aft HA.out)
          obtain ⟨-, -, b0, d0, -, rfl⟩ := HT.out.shape
          have d1 := cell_part (n := 1) (HL.out.get 1 rfl) (show _ = some (Value.slice b0 ls.length d0) from rfl)
          have HOne := Lib.hid (show ∀ u ∈ vs, u.oneCell' = true from fun u hu => by
            obtain ⟨i, hi, rfl⟩ := List.getElem_of_mem hu
            obtain ⟨a, c, e⟩ := (HT.out.lv.own i _ (List.getElem?_eq_getElem hi)).shape
            rw [e]
            rfl)
          generalize lensT (qs.map Prod.fst) = lt at *
          clear hlen hlsl
          go_wp2_with (first | (refine wpList_lvSlice (by kernel_rfl) (.tmp 39) a4 lt.length c4 rfl rfl ?_; intro wE q1 q2; have HAE := Lib.hid q1; have HGE := Lib.hid q2.out; have d2 := cell_part (n := 1) ((HL.out.call q1).get 1 rfl) (show _ = some (Value.slice b0 ls.length d0) from rfl); clear q1 q2 d1) | (at_builtin; refine wpList_append_rd rfl (.tmp 40) (.tmp 42) 23 rfl wr.heap.size 22 (.slice none 0 0) 24 Try.underlying23 info_ints rfl _ _ [Value.slice a4 lt.length c4] vs rfl rfl (own_blk HGE.out (Nat.le_refl _) (by show 1 ≤ maxLen; decide)) (Rd.of_own (HTw.out.aft HAE.out).lv.row) HOne.out (by rw [HTw.out.lv.len]; have := HLl.out; simp only [List.length_cons, List.length_nil]; omega) (by rw [HTw.out.lv.len]; have := HLl.out; simp only [List.length_cons, List.length_nil]; omega) (Below.size HAE.out) ?_; intro vF wF k1 k2 k3; have HAF := Lib.hid (show Aft wr wF from aft_frR HAE.out (own_blk HGE.out (Nat.le_refl _) (by show 1 ≤ maxLen; decide)) (Nat.le_refl _) (Fr.of_grown k2 (fun k hk => hk))); have HTF := Lib.hid (HT.out.cons HA.out (HO.out.mono HSz.out) (fun g hg => (HO.out.lt hg).1) (ownsRow_mono k1 (Below.size HL.out.aft)) HAF.out); replace HB := Lib.hid (HB.out.aft HAF.out); replace HL := Lib.hid (HL.out.call HAF.out); clear k1 k2 k3 d2; obtain ⟨ls2, hls2⟩ : ∃ ls2, ls2 = lt :: ls := ⟨_, rfl⟩; rw [← hls2] at HTF HLf; have HLs2 := Lib.hid hls2; clear hls2; obtain ⟨-, -, bF, dF, -, rfl⟩ := HTF.out.shape) | (refine wpList_store_cellJ rfl 23 (.tmp 44) (.tmp 43) rfl sb 1 (.slice bF ls2.length dF) rfl rfl 25 (shpL (.slice none 0 0) (.slice b0 ls.length d0)) (by show 1 < 2; decide) (HL.out.get 1 rfl) (by kernel_rfl) rfl rfl ?_; intro wG b1 b2 b3; have HTG := Lib.hid (HTF.out.stored (HL.out.get 1 rfl) (by decide) (by decide) b2.out); have HBG := Lib.hid (HB.out.keep (fun k hk => b2.out k (HB.out.row.off (HL.out.get 1 rfl) (by decide) hk)) (fun k hk _ => b2.out k hk.1) (b3 0 _ (Nat.zero_le _) (Below.refl 0 _)).size); have HLG := Lib.hid (HL.out.store 1 rfl b1 b2 b3); clear b1 b2 b3; (try simp only [List.nil_append, List.cons_append, List.set_cons_zero, List.set_cons_succ] at HLG)))
          have hP : OfP w sb ids lv (.slice a5 bs.length c5) wG m := ⟨bs, _, _, ls2, HBG.out.rd.mono (fun g hg _ => by
              rcases hg with h | h
              · exact h.1
              · have h1 := (HBG.out.row.lt g h).1
                have h2 := heap_lt (HLW.out.get 1 rfl)
                omega), HBw.out, HBp.out, HIf.out.symm.trans HId.out, HLf.out.symm.trans HLv.out, HTG.out, HLG.out⟩
          go_roundw
          case rel => exact ⟨m, hP⟩
          case measure =>
            rw [← HM.out]
            exact Nat.lt_succ_of_le (leastN_le hP)
end Go.Proofs.Ytfgammcefaomeaa
