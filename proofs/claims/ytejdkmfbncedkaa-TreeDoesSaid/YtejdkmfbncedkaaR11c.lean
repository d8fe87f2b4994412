/- coterieref11.below, walked. -/
import Derived.Test.YtejdkmfbncedkaaR11b
import Derived.Test.YtejdkmfbncedkaaB4
namespace Go.Proofs.Ytejdkmfbncedkaa
open Go Go.RowKit
set_option linter.unusedSimpArgs false
def RbSays (kind : Int) (ls : List (List Int)) (L at' base : Nat) (va : Value) (ps : List (Nd × Value)) (w : World) (e : Ending) (w' : World) : Prop :=
  ∃ (va' : Value) (ps' : List (Nd × Value)), e = .returned (.tuple #[va', .int .i64 ((ps'.length - 1 : Nat) : Int)]) ∧ OwnN w' base va' ps' ∧ ps'.map Prod.fst = below kind ls L at' (ps.map Prod.fst) ∧ Fr (fun b => va.ownBlock = some b) w w' ∧
    (∀ g, va'.ownBlock = some g → va.ownBlock = some g ∨ w.heap.size ≤ g) ∧ ∀ p ∈ ps', p.2 ∈ ps.map Prod.snd ∨ ∀ g, p.2.ownBlock = some g → w.heap.size ≤ g
theorem aft_frN {w0 w w' : World} {base : Nat} {v : Value} {ps : List (Nd × Value)} (ha : Aft w0 w) (ho : OwnN w base v ps) (hb : w0.heap.size ≤ base) (hf : Fr (fun b => v.ownBlock = some b) w w') : Aft w0 w' :=
  ⟨hf.os.trans ha.os, hf.tape.trans ha.tape, hf.output.trans ha.output, Nat.le_trans ha.size hf.size, fun k hk => (hf.block k (Nat.lt_of_lt_of_le hk ha.size) fun q => by
    have := (ho.lt _ q).1
    omega).trans (ha.block k hk)⟩
set_option maxRecDepth 100000 in
set_option maxHeartbeats 1000000 in
theorem rbelow_zero (kind : Int) (vi vl : Value) (ids : List Int) (ls : List (List Int)) (w0 : World) (hi : Rd w0 vi (zv ids)) (hl : RdLs w0 vl ls) (base : Nat) (at' : Nat) (va : Value) (ps : List (Nd × Value)) (w : World)
    (ha : at' ≤ 1000) (hb : base ≤ w.heap.size) (ho : OwnN w base va ps) (hp : ps.length ≤ 100000) :
    Calls Try.prog 73 #[.int .i64 kind, .agg (shpL vi vl).toArray, va, .int .i64 0, .int .i64 (at' : Int)] w (RbSays kind ls 0 at' base va ps w) := by
  have HO := Lib.hid ho
  have HB := Lib.hid hb
  have HP := Lib.hid hp
  obtain ⟨ao, cap, rfl, -, -⟩ := hi.numS
  obtain ⟨bo, dap, rfl, -⟩ := hl.shape
  obtain ⟨ca, cc, rfl⟩ := ho.shape
  have hat : (at' : Int) ≤ 1000 := by omega
  have HL := Lib.hid (Led.start w)
  clear hi hl ho hb hp ha
  go_enter Try.func73, Try.ntmps73
  go_wp2_with (first | (refine wpList_boxO rfl 26 (.tmp 1) rfl (.agg (shpL (.slice ao ids.length cap) (.slice bo ls.length dap)).toArray) rfl (.cells (shpL (.slice ao ids.length cap) (.slice bo ls.length dap)).toArray 26) (box_shp _) ?_; intro w' aa gg zz; replace HL := Lib.hid (HL.out.alloc aa gg.out); clear aa gg zz; try simp only [List.nil_append, List.cons_append, List.set_cons_zero, List.set_cons_succ] at HL) | (refine wpList_buildO (by kernel_rfl) 38 #[(1, .tmp 23), (3, .tmp 24), (4, .tmp 26), (6, .const (.int .i64 (-1)))] rfl #[(1, .int .i64 (at' : Int)), (3, .int .i64 (at' : Int)), (4, .int .i64 ((at' : Int) + 1)), (6, .int .i64 (-1))] (by kernel_rfl) _ (build_leaf _ _) ?_) | (refine wpList_ndSlice (by kernel_rfl) (.tmp 27) ⟨0, (at' : Int), false, (at' : Int), (at' : Int) + 1, [], -1⟩ (.slice none 0 0) rfl rfl ?_; intro wS aS gS; have HSz := Lib.hid (Below.size HL.out.aft); replace HL := Lib.hid (HL.out.call aS); replace HO := Lib.hid (HO.out.aft HL.out.aft); clear aS) | (at_builtin; refine wpList_snocN rfl (.tmp 22) (.tmp 28) rfl base _ ps rfl HO.out w'.heap.size ⟨0, (at' : Int), false, (at' : Int), (at' : Int) + 1, [], -1⟩ (.slice none 0 0) rfl gS.out (OwnI.nil _ _) (by have := HP.out; omega) (Nat.le_trans HB.out (Below.size HL.out.aft)) ?_; intro g2 c2 wT t1 t2 t3; have hpl : ((ps.length : Nat) : Int) ≤ 100000 := by have := HP.out; omega))
  go_ret2
  refine ⟨_, ps ++ [(⟨0, (at' : Int), false, (at' : Int), (at' : Int) + 1, [], -1⟩, .slice none 0 0)], ?_, t1.out, ?_, ?_, ?_, ?_⟩
  · rw [List.length_append, List.length_singleton, Nat.add_sub_cancel]
    rfl
  · simp only [below, List.map_append, List.map_cons, List.map_nil]
  · exact (Fr.of_below HL.out.aft).trans t2.out
  · intro q hq
    cases hq
    rcases t3.out with e | e
    · exact .inl e
    · exact .inr (Nat.le_trans (Below.size HL.out.aft) e)
  · intro p hp
    rcases List.mem_append.1 hp with hp | hp
    · exact .inl (List.mem_map.2 ⟨p, hp, rfl⟩)
    · rw [List.mem_singleton.1 hp]
      exact .inr fun g hg => by cases hg

theorem Led.frR {w0 w w' : World} {L : List (Nat × Obj)} {base e s n : Nat} {v : Value} {xs : List Value} (h : Led w0 w L) (ho : w.ownsRow base e s v n xs) (hb : w0.heap.size ≤ base) (hf : Fr (fun b => v.ownBlock = some b) w w') (ht : noT e L = true) : Led w0 w' L := by
  have hlt : ∀ g, v.ownBlock = some g → base ≤ g := fun g q => by
    rcases ho.2 with ⟨rfl, -⟩ | ⟨g', cap, cur, rfl, hb', -, -⟩
    · cases q
    · cases q
      exact hb'
  refine ⟨⟨hf.os.trans h.aft.os, hf.tape.trans h.aft.tape, hf.output.trans h.aft.output, Nat.le_trans h.aft.size hf.size, fun k hk => (hf.block k (Nat.lt_of_lt_of_le hk h.aft.size) fun q => ?_).trans (h.aft.block k hk)⟩, fun i k o hi => ⟨?_, (h.has i k o hi).2⟩, h.inc⟩
  · have := hlt _ q
    omega
  · have hk := h.get i hi
    refine (hf.block k (heap_lt hk) fun q => ?_).trans hk
    rcases ho.2 with ⟨rfl, -⟩ | ⟨g, cap, cur, rfl, -, hg, -⟩
    · cases q
    · cases q
      rw [show Addr.block ⟨g, 0, none⟩ = g from rfl] at hk
      rw [hg] at hk
      exact noT_at ht _ (List.mem_of_getElem? hi) _ _ _ (Option.some.inj hk).symm rfl
theorem mem_snd {ps : List (Nd × Value)} {v : Value} (h : v ∈ ps.map Prod.snd) : ∃ p ∈ ps, p.2 = v := by
  obtain ⟨p, hp, e⟩ := List.mem_map.1 h
  exact ⟨p, hp, e⟩
theorem upAll_snd (n : Int) : ∀ (ks : List Nat) (ps : List (Nd × Value)), (∀ k ∈ ks, k < ps.length) → (upAll ps ks n).map Prod.snd = ps.map Prod.snd
  | [], _, _ => rfl
  | k :: ks, ps, h => by
    refine (upAll_snd n ks (upS ps k n) fun q hq => by rw [upS_length]; exact h q (by simp [hq])).trans ?_
    unfold upS
    rw [List.map_set]
    refine List.ext_getElem? fun j => ?_
    by_cases e : k = j
    · subst e
      have hk := h k (by simp)
      rw [List.getElem?_set_self (by rw [List.length_map]; exact hk), List.getElem?_map, List.getD_eq_getElem?_getD, List.getElem?_eq_getElem hk]
      rfl
    · rw [List.getElem?_set_ne e]
theorem abvP_snd (x : Nd) (kv : Value) {ps : List (Nd × Value)} {ks : List Nat} (h : ∀ k ∈ ks, k < ps.length) : (abvP x kv ps ks).map Prod.snd = ps.map Prod.snd ++ [kv] := by
  unfold abvP
  rw [List.map_append, upAll_snd _ _ _ h]
  rfl
/-- Away from a list's kids. -/
def Away (kv : Value) (ps : List (Nd × Value)) : Prop := ∀ p ∈ ps, ∀ g, kv.ownBlock = some g → p.2.ownBlock ≠ some g
def FromK (n : Nat) (ps ps' : List (Nd × Value)) : Prop := ∀ p ∈ ps', p.2 ∈ ps.map Prod.snd ∨ ∀ g, p.2.ownBlock = some g → n ≤ g
theorem FromK.trans {n m : Nat} {a b c : List (Nd × Value)} (h1 : FromK n a b) (h2 : FromK m b c) (hn : n ≤ m) : FromK n a c := fun p hp => by
  rcases h2 p hp with h | h
  · obtain ⟨q, hq, e⟩ := mem_snd h
    rw [← e]
    exact h1 q hq
  · exact .inr fun g hg => Nat.le_trans hn (h g hg)
theorem Away.from {w : World} {base : Nat} {kv : Value} {xs : List Int} {ps ps' : List (Nd × Value)} (h : Away kv ps) (hk : OwnI w base kv xs) (h2 : FromK w.heap.size ps ps') : Away kv ps' := fun p hp g hg e => by
  rcases h2 p hp with q | q
  · obtain ⟨z, hz, ez⟩ := mem_snd q
    exact h z hz g hg (by rw [ez]; exact e)
  · have := (hk.lt hg).2
    have := q g e
    omega
theorem Away.new {w : World} {base g9 : Nat} {ps : List (Nd × Value)} {va : Value} {a : Nat} {n c : Nat} (ho : OwnN w base va ps) (hg : w.heap.size ≤ g9) (v : Value) (hv : v = .slice (some ⟨g9, a, none⟩) n c) : Away v ps := fun p hp g hgv e => by
  subst hv
  cases hgv
  have h2 : g9 < w.heap.size := ((ho.own p hp).lt e).2
  omega
theorem abvP_from {n : Nat} {ps qs : List (Nd × Value)} {ks : List Nat} {kv : Value} {x : Nd} (h : FromK n ps qs) (hks : ∀ k ∈ ks, k < qs.length) (hk : ∀ g, kv.ownBlock = some g → n ≤ g) : FromK n ps (abvP x kv qs ks) := fun p hp => by
  have hm : p.2 ∈ (abvP x kv qs ks).map Prod.snd := List.mem_map.2 ⟨p, hp, rfl⟩
  rw [abvP_snd x kv hks] at hm
  rcases List.mem_append.1 hm with q | q
  · obtain ⟨z, hz, ez⟩ := mem_snd q
    rw [← ez]
    exact h z hz
  · rw [List.mem_singleton.1 q]
    exact .inr hk
set_option maxRecDepth 100000 in
set_option maxHeartbeats 8000000 in
theorem rbelow_succ (kind : Int) (hk : kind = 1 ∨ kind = 2) (vi vl : Value) (ids : List Int) (ls : List (List Int)) (hok : OkT ids ls) (w0 : World) (hi : Rd w0 vi (zv ids)) (hl : RdLs w0 vl ls) (base : Nat) (hB : w0.heap.size ≤ base) (L : Nat)
    (ih : ∀ (at' : Nat) (va : Value) (ps : List (Nd × Value)) (w : World), at' < cntN ids.length ls L → Aft w0 w → base ≤ w.heap.size → OwnN w base va ps → ps.length + 2 * 3 ^ L ≤ 100000 →
      Calls Try.prog 73 #[.int .i64 kind, .agg (shpL vi vl).toArray, va, .int .i64 (L : Int), .int .i64 (at' : Int)] w (RbSays kind ls L at' base va ps w))
    (at' : Nat) (va : Value) (ps : List (Nd × Value)) (w : World) (hL : L < ls.length) (ha : at' < cntN ids.length ls (L + 1)) (hw : Aft w0 w) (hb : base ≤ w.heap.size) (ho : OwnN w base va ps) (hp : ps.length + 2 * 3 ^ (L + 1) ≤ 100000) :
    Calls Try.prog 73 #[.int .i64 kind, .agg (shpL vi vl).toArray, va, .int .i64 ((L : Int) + 1), .int .i64 (at' : Int)] w (RbSays kind ls (L + 1) at' base va ps w) := by
  have hf := okLv_fit ls ids.length hok.2
  obtain ⟨m, hm, hm23, hm1, hm2⟩ := fit_step hf hL ha
  have HEnd := Lib.hid (rbF_end hf hk hL ha (ps.map Prod.fst) m hm)
  have HIh := Lib.hid ih
  have HO := Lib.hid ho
  have HW := Lib.hid hw
  have HBb := Lib.hid hb
  have HBB := Lib.hid hB
  have HK := Lib.hid hk
  have HM23 := Lib.hid hm23
  have HFc := Lib.hid hm2
  have HPl : Hid (∀ i, i ≤ 3 → (rbF kind ls L at' (ps.map Prod.fst) i).1.length ≤ ps.length + i * (2 * 3 ^ L)) := Lib.hid fun i _ => by
    have := rbF_len kind ls L at' (ps.map Prod.fst) i
    rw [List.length_map] at this
    omega
  have HP := Lib.hid (show ps.length + 3 * (2 * 3 ^ L) ≤ 100000 by rw [Nat.pow_succ] at hp; omega)
  have HRo := Lib.hid (fun i => rbF_ok kind ls L at' (ps.map Prod.fst) i)
  obtain ⟨g1, o1, c1, u1, hvl, hcu, hru⟩ := hl.cell hL
  obtain ⟨ao, cap, rfl, -, -⟩ := hi.numS
  obtain ⟨bo, dap, rfl, hls⟩ := hl.shape
  injection hvl with hv1 hv2 hv3
  subst hv1 hv3
  obtain ⟨ca, cc, rfl⟩ := ho.shape
  have hat : at' < (ls.getD L []).length := ha
  have hfew := hf.few L (by omega)
  have hfew1 := hf.few (L + 1) (by omega)
  have hn1 := hok.1.1
  have hsum := hf.sum L hL
  have htt := hf.tt L
  obtain ⟨lv, hlv⟩ : ∃ lv, lv = ls.getD L [] := ⟨_, rfl⟩
  have hcl : cntN ids.length ls (L + 1) = lv.length := by rw [hlv]; rfl
  have hfs : ∀ j, j ≤ lv.length → 0 ≤ frm lv j ∧ frm lv j ≤ 1000 := fun j hj => by
    rw [hlv]
    have h1 := frm_nonnegN _ htt j
    have h2 := frm_leN _ htt j
    rw [hsum] at h2
    omega
  have hf0 : frm lv at' = (fstN ls L at' : Int) := by
    have h1 := (hfs at' (by rw [hlv]; omega)).1
    unfold fstN
    rw [← hlv]
    omega
  rw [← hlv] at hru hm hat
  have HLv := Lib.hid hlv
  rw [hcl] at hfew1
  obtain ⟨ua, uc, rfl, huc, -⟩ := hru.numS
  obtain ⟨ug, uo, _, huv, -⟩ := hru.at (by rw [zv_length]; omega)
  injection huv with e1 e2 e3
  subst e1
  have HFs := Lib.hid hfs
  have HFS := Lib.hid (fun j (hj : j < lv.length) => frm_succ hj)
  have HX := Lib.hid hru
  have HCu := Lib.hid hcu
  have HF0 := Lib.hid hf0
  have HAt := Lib.hid hat
  have HMl := Lib.hid hm
  have hL9 : (L : Int) ≤ 1000 := by have := lv_nine2 hok; omega
  have hat9 : (at' : Int) ≤ 1000 := by omega
  have hLl : (L : Int) < (ls.length : Nat) := by omega
  have hatl : (at' : Int) < (lv.length : Nat) := by omega
  have hatc : at' ≤ uc := by omega
  have hsl := fun wx => run_cutToI (ao := some ⟨ug, uo, none⟩) (len := lv.length) hatc wx
  have hLw : wrap64 ((L : Int) + 1 - 1) = (L : Int) := by
    rw [Int.add_sub_cancel]
    exact wrap64_mid (by omega) (by omega)
  have HL := Lib.hid ((Led.start w0).call hw)
  clear hi hl ih ho hw hb hB hk hm23 hm2 hm1 hp hL ha hok hru hcu hf0 hfs hsum htt hfew hfew1 hn1 hf hat hm hcl e2 e3 hv2 hls hlv
  go_enter Try.func73, Try.ntmps73
  go_wp2_with (first | (refine wpList_boxO rfl 26 (.tmp 1) rfl (.agg (shpL (.slice ao ids.length cap) (.slice (some ⟨g1, o1, none⟩) ls.length dap)).toArray) rfl (.cells (shpL (.slice ao ids.length cap) (.slice (some ⟨g1, o1, none⟩) ls.length dap)).toArray 26) (box_shp _) ?_; intro w1 aa gg zz; replace HO := Lib.hid (HO.out.aft aa); replace HL := Lib.hid (HL.out.alloc aa gg.out); have HFr := Lib.hid (Fr.of_below (S := fun b => (Value.slice ca ps.length cc).ownBlock = some b) aa); clear aa gg zz; try simp only [List.nil_append] at HL; have hc1 := shp_l (HL.out.get 0 rfl); have hc2 := HCu.out _ HL.out.aft))
  go_loopw [12, 43] (fun v12 v43 wr => ∃ j : Nat, j ≤ at' ∧ v43 = .int .i64 (j : Int) ∧ v12 = .int .i64 (frm lv j) ∧ wr = w1) (fun _ v _ => at' - (intOf v).toNat)
  case atStart => exact ⟨0, Nat.zero_le _, rfl, by rw [frm_zero], rfl⟩
  case round =>
    obtain ⟨j, hj, rfl, rfl, rfl⟩ := hrel
    by_cases hlt : j < at'
    · have hlt' : (j : Int) < (at' : Int) := by omega
      have hjl : j < lv.length := by have := HAt.out; omega
      have hcj := (HX.out.grow HL.out.aft).num_at hjl
      have hs1 := HFS.out j hjl
      have hs2 := HFs.out (j + 1) hjl
      have hs3 := HFs.out j (by omega)
      have HS1 := Lib.hid hs1
      have hwr : wrap64 (frm lv j + lv.getD j 0) = frm lv (j + 1) := by
        rw [hs1]
        exact wrap64_mid (by omega) (by omega)
      generalize hfj : frm lv (j + 1) = fj1 at *
      generalize frm lv j = fj at *
      generalize lv.getD j 0 = y at *
      have HFj := Lib.hid hfj
      have HWr := Lib.hid hwr
      clear hfj hs1 hs2 hs3
      go_wp2_with fail
      go_roundw
      case rel => exact ⟨j + 1, by omega, by go_num, by rw [HFj.out]; first | rfl | rw [HWr.out], by trivial⟩
      case measure => simp [intOf]; omega
    · obtain rfl : j = at' := by omega
      have hlt' : ¬ (j : Int) < (j : Int) := by omega
      rw [HF0.out]
      have hcm := (HX.out.grow HL.out.aft).num_at HAt.out
      rw [HMl.out] at hcm
      go_wp2_with fail
      have hs73 : ∀ wx, (Instr.buildSlice 22 1 #[(0, .int .i64 0)]).run Try.prog wx = (Instr.buildSlice 22 1 #[(0, .int .i64 0)]).run Try.prog wx := fun _ => rfl
      clear hs73 hsl hLw hc1 hc2 hcm
      have hmm : (m : Int) ≤ 3 := by have := HM23.out; omega
      go_loopw [2, 16, 61] (fun v2 v16 v61 wr => ∃ (i : Nat) (qs : List (Nd × Value)) (ks : List Nat), i ≤ m ∧ v61 = .int .i64 (i : Int) ∧ rbF kind ls L j (ps.map Prod.fst) i = (qs.map Prod.fst, ks) ∧ OwnN wr base v2 qs ∧ OwnI wr w.heap.size v16 (kz ks) ∧ Away v16 qs ∧
        Fr (fun b => (Value.slice ca ps.length cc).ownBlock = some b) w wr ∧ (∀ g, v2.ownBlock = some g → (Value.slice ca ps.length cc).ownBlock = some g ∨ w.heap.size ≤ g) ∧ FromK w.heap.size ps qs ∧ Led w0 wr [(w.heap.size, .cells (shpL (.slice ao ids.length cap) (.slice (some ⟨g1, o1, none⟩) ls.length dap)).toArray 26)]) (fun _ _ v _ => m - (intOf v).toNat)
      case atStart => exact ⟨0, ps, [], Nat.zero_le _, rfl, rfl, HO.out, OwnI.nil _ _, fun p _ g hg => (by cases hg), HFr.out, fun g hg => .inl hg, fun p hp => .inl (List.mem_map.2 ⟨p, hp, rfl⟩), HL.out⟩
      case round =>
        clear HL HO HFr
        obtain ⟨i, qs, ks, hi, rfl, hrb, hO, hK, hAw, hFr, hVb, hFk, hL⟩ := hrel
        have HL := Lib.hid hL
        have HO := Lib.hid hO
        have HKd := Lib.hid hK
        have HAw := Lib.hid hAw
        have HFr := Lib.hid hFr
        have HVb := Lib.hid hVb
        have HFk := Lib.hid hFk
        have HRb := Lib.hid hrb
        have HQl := Lib.hid (show qs.length ≤ ps.length + i * (2 * 3 ^ L) by
          have := HPl.out i (by omega)
          rw [hrb, List.length_map] at this
          exact this)
        have HRk := Lib.hid (show RbOk i (ps.map Prod.fst) (qs.map Prod.fst, ks) ∧ (0 < i → 0 < ks.length) by
          have := HRo.out i
          rw [hrb] at this
          exact this)
        obtain ⟨qa, qc, rfl⟩ := hO.shape
        obtain ⟨ka, kc, rfl⟩ := hK.shape
        clear hL hO hK hAw hFr hVb hFk hrb
        by_cases hlt : i < m
        · have hlt' : (i : Int) < (m : Int) := by omega
          have hi9 : (i : Int) ≤ 3 := by omega
          have hlt3 : i < 3 := by have := HM23.out; omega
          have hwi : wrap64 ((fstN ls L j : Int) + (i : Int)) = ((fstN ls L j + i : Nat) : Int) := by
            have h1 := HFs.out j (by have := HAt.out; omega)
            rw [HF0.out] at h1
            rw [wrap64_mid (by omega) (by omega)]
            omega
          have hcm1 : fstN ls L j + i < cntN ids.length ls L := by have := HFc.out; omega
          have hbd : qs.length + 2 * 3 ^ L ≤ 100000 := by
            have h1 := HQl.out
            have h2 := HP.out
            have h3 : (i + 1) * (2 * 3 ^ L) ≤ 3 * (2 * 3 ^ L) := Nat.mul_le_mul_right _ (by omega)
            rw [Nat.succ_mul] at h3
            omega
          have HC := Lib.hid (fun (hh : True) => HIh.out (fstN ls L j + i) _ qs wr hcm1 HL.out.aft (Nat.le_trans HBb.out HFr.out.size) HO.out hbd)
          have HRl := Lib.hid (show ((rbF kind ls L j (ps.map Prod.fst) (i + 1) = (below kind ls L (fstN ls L j + i) (qs.map Prod.fst), ks ++ [(below kind ls L (fstN ls L j + i) (qs.map Prod.fst)).length - 1])) ∨ (kind = 2 ∧ m = 3 ∧ i = 1)) ∧ ((kind = 2 ∧ m = 3 ∧ i = 1) → rbF kind ls L j (ps.map Prod.fst) (i + 1) = (abvN (hdN (L + 1) j true) (below kind ls L (fstN ls L j + 1) (qs.map Prod.fst)) (ks ++ [(below kind ls L (fstN ls L j + 1) (qs.map Prod.fst)).length - 1]), [(below kind ls L (fstN ls L j + 1) (qs.map Prod.fst)).length])) by
            have hmq : (ls.getD L []).getD j 0 = (m : Int) := by rw [← HLv.out]; exact HMl.out
            refine ⟨?_, ?_⟩
            · by_cases c : kind = 2 ∧ m = 3 ∧ i = 1
              · exact .inr c
              · refine .inl (rbF_go (fun q => c ⟨q.1, ?_, q.2.2⟩) HRb.out)
                have := q.2.1
                omega
            · rintro ⟨c1, c2, rfl⟩
              exact rbF_red c1 (by rw [hmq, c2]; rfl) HRb.out)
          have HLn := Lib.hid (below_length kind ls L (fstN ls L j + i) (qs.map Prod.fst))
          clear hcm1 hbd
          go_wp2_with (first | (refine wpList_load_rowG (by kernel_rfl) 26 (.tmp 6) rfl _ rfl _ _ _ _ (HL.out.get 0 rfl) Try.underlying26 rfl (shp_info _ _) ?_))
          refine (HC.out trivial).mono ?_
          clear HC
          rintro e w3 ⟨va3, rs, rfl, ho3, hf3, hfr3, hv3, hfk3⟩
          obtain ⟨ra, rc, rfl⟩ := ho3.shape
          have HK3 := Lib.hid (HKd.out.fr hfr3 fun q hq e => own_ne2 HO.out.row.2 HKd.out (by decide) hq e)
          have HAw3 := Lib.hid (HAw.out.from HKd.out hfk3)
          replace HFk := Lib.hid (HFk.out.trans hfk3 HFr.out.size)
          -- GENERATED
          replace HL := Lib.hid (Led.frR HL.out HO.out.row.2 HBB.out hfr3 rfl)
          have HV3 := Lib.hid (show ∀ g, (Value.slice ra rs.length rc).ownBlock = some g → (Value.slice ca ps.length cc).ownBlock = some g ∨ w.heap.size ≤ g from fun g hg => by
            rcases hv3 g hg with h | h
            · exact HVb.out g h
            · exact .inr (Nat.le_trans HFr.out.size h))
          replace HFr := Lib.hid (HFr.out.next hfr3 (fun k hk e => by
            rcases HVb.out _ e with h | h
            · exact h
            · exact absurd hk (Nat.not_lt.2 h)))
          have HO3 := Lib.hid ho3
          have HF3 := Lib.hid hf3
          have hrl : rs.length = (below kind ls L (fstN ls L j + i) (qs.map Prod.fst)).length := by rw [← hf3, List.length_map]
          have HR3 := Lib.hid (show qs.length + 1 ≤ rs.length ∧ rs.length ≤ 100000 by
            have h1 := HLn.out
            rw [List.length_map, ← hrl] at h1
            have h2 := HQl.out
            have h3 := HP.out
            have h4 : (i + 1) * (2 * 3 ^ L) ≤ 3 * (2 * 3 ^ L) := Nat.mul_le_mul_right _ (by omega)
            rw [Nat.succ_mul] at h4
            omega)
          have HKk := Lib.hid (show ∀ k ∈ ks ++ [rs.length - 1], k < rs.length from fun k hk => by
            have h5 := HR3.out
            rcases List.mem_append.1 hk with h | h
            · have := HRk.out.1.kid k h
              simp only [List.length_map] at this
              omega
            · rw [List.mem_singleton.1 h]
              omega)
          have hrs9 : ((rs.length : Nat) : Int) ≤ 100000 := by have := HR3.out; omega
          clear ho3 hf3 hfr3 hv3 hfk3 HO HLn HQl HIh HPl hrl
          by_cases hcond : kind = 2 ∧ m = 3 ∧ i = 1
          · obtain ⟨rfl, hm3, rfl⟩ := hcond
            have hmb : ((m : Int) == 3) = true := by rw [hm3]; rfl
            have HM3 := Lib.hid hm3
            clear hm3
            have HRe := Lib.hid (show rbF 2 ls L j (ps.map Prod.fst) (1 + 1) = ((abvN (hdN (L + 1) j true) (rs.map Prod.fst) (ks ++ [rs.length - 1])), [rs.length]) by
              rw [HRl.out.2 ⟨rfl, HM3.out, rfl⟩, ← HF3.out, List.length_map])
            go_wp2_with (first | (refine wpList_dstT 78 rfl ?_; refine wpList_intSlice (by kernel_rfl) (.tmp 77) ((rs.length - 1 : Nat) : Int) rfl rfl ?_; intro wJ k1 k2; have HG := Lib.hid k2.out; have HOJ := Lib.hid (HO3.out.aft k1); have HKJ := Lib.hid (HK3.out.aft k1); have HLJ := Lib.hid (HL.out.call k1); have HFJ := Lib.hid (HFr.out.trans (Fr.of_below k1)); clear k1 k2) | (at_builtin; refine wpList_snocI rfl (.tmp 76) (.tmp 78) rfl w.heap.size _ (kz ks) rfl HKJ.out w3.heap.size _ rfl HG.out (by rw [kz_length]; have := HRk.out.1.few; simp only at this; omega) HFJ.out.size ?_; intro g9 c9 w9 k1 k2 k3; have HK9 := Lib.hid k1.out; have HO9 := Lib.hid (HOJ.out.keep k2.out (fun g hg e => own_ne2 HKJ.out HOJ.out.row.2 (by decide) hg e) (fun p hp g hg e => HAw3.out p hp g e hg)); have HAw9 := Lib.hid (show Away (.slice (some ⟨g9, 0, none⟩) ((kz ks).length + 1) c9) rs from fun p hp g hgv e => by (have hgq : g = g9 := by (cases hgv; rfl)); subst hgq; rcases k3.out with h | h; exact HAw3.out p hp _ h e; exact absurd ((HOJ.out.own p hp).lt e).2 (Nat.not_lt.2 h)); have HL9 := Lib.hid (HLJ.out.frO HKJ.out (Nat.le_trans HBB.out HBb.out) k2.out rfl); have HFr9 := Lib.hid (HFJ.out.next k2.out (fun k hk e => absurd hk (Nat.not_lt.2 (HKJ.out.lt e).1))); have HS9 := Lib.hid (show ∀ g, (Value.slice (some ⟨g9, 0, none⟩) ((kz ks).length + 1) c9).ownBlock = some g → w.heap.size ≤ g from fun g hg => (HK9.out.lt hg).1); clear k1 k2 k3 HOJ HKJ HLJ HFJ HG) | (refine wpList_buildO (by kernel_rfl) 38 #[(0, .tmp 92), (1, .tmp 93), (2, .const (.bool true))] rfl #[(0, .int .i64 ((L : Int) + 1)), (1, .int .i64 (j : Int)), (2, .bool true)] (by kernel_rfl) _ (build_red _ _ _) ?_))
            refine (join_any (hdN (L + 1) j true) _ (ks ++ [rs.length - 1]) ks.length (by rw [List.length_append]; rfl) base _ rs w9 HO9.out (by have h := HK9.out.mono HBb.out; rw [show kz (ks ++ [rs.length - 1]) = kz ks ++ [((rs.length - 1 : Nat) : Int)] from List.map_append ..]; exact h) HKk.out HR3.out.2 (Nat.le_trans HBb.out HFr9.out.size) (by have := HRk.out.1.few; simp only at this; omega)).mono ?_
            rintro e w10 ⟨va10, rfl, ho10, hfr10, hv10⟩
            obtain ⟨ta, tc, rfl⟩ := ho10.shape
            have HL10 := Lib.hid (Led.frR HL9.out HO9.out.row.2 HBB.out hfr10 rfl)
            have HO10 := Lib.hid ho10
            have HFr10 := Lib.hid (HFr9.out.next hfr10 (fun k hk e => by
              rcases HV3.out _ e with h | h
              · exact h
              · exact absurd hk (Nat.not_lt.2 h)))
            have HV10 := Lib.hid (show ∀ g, (Value.slice ta (abvP (hdN (L + 1) j true) (.slice (some ⟨g9, 0, none⟩) ((kz ks).length + 1) c9) rs (ks ++ [rs.length - 1])).length tc).ownBlock = some g → (Value.slice ca ps.length cc).ownBlock = some g ∨ w.heap.size ≤ g from fun g hg => by
              rcases hv10 g hg with h | h
              · exact HV3.out g h
              · exact .inr (Nat.le_trans HFr9.out.size h))
            have HFk10 := Lib.hid (abvP_from (x := hdN (L + 1) j true) HFk.out HKk.out HS9.out)
            have HAf := Lib.hid (abvP_fst (hdN (L + 1) j true) (.slice (some ⟨g9, 0, none⟩) ((kz ks).length + 1) c9) rs (ks ++ [rs.length - 1]))
            clear ho10 hfr10 hv10 HL9 HO9 HFr9 HV3 HFk HK9 HAw9 HS9 HO3 HF3 HKk HRk HAw HVb HRl
            generalize abvP (hdN (L + 1) j true) (.slice (some ⟨g9, 0, none⟩) ((kz ks).length + 1) c9) rs (ks ++ [rs.length - 1]) = ts at *
            go_wp2_with (first | (refine wpList_intSlice (by kernel_rfl) (.tmp 99) ((rs.length : Nat) : Int) rfl rfl ?_; intro wK k1 k2; have HGk := Lib.hid k2.out; have HAk := Lib.hid k1; clear k1 k2))
            go_roundw
            case rel =>
              refine ⟨2, ts, [rs.length], by have := HM3.out; omega, by go_num, ?_, HO10.out.aft HAk.out, ?_, Away.new HO10.out (Nat.le_refl _) _ rfl, HFr10.out.trans (Fr.of_below HAk.out), HV10.out, HFk10.out, HL10.out.call HAk.out⟩
              · rw [HAf.out]
                exact HRe.out
              · exact one_own HGk.out HFr10.out.size
            case measure => simp [intOf]; have := HM3.out; omega
          · have HRe := Lib.hid (show rbF kind ls L j (ps.map Prod.fst) (i + 1) = (rs.map Prod.fst, ks ++ [rs.length - 1]) by
              rw [HRl.out.1.resolve_right hcond, ← HF3.out, List.length_map])
            have hsub : kind = 1 ∨ (kind = 2 ∧ m = 2) ∨ (kind = 2 ∧ m = 3 ∧ ¬ i = 1) := by
              rcases HK.out with h | h
              · exact .inl h
              · rcases HM23.out with h2 | h2
                · exact .inr (.inl ⟨h, h2⟩)
                · exact .inr (.inr ⟨h, h2, fun q => hcond ⟨h, h2, q⟩⟩)
            clear hcond HRl HLv HMl
            rcases hsub with rfl | ⟨rfl, hm3⟩ | ⟨rfl, hm3, hi1⟩
            all_goals
              try (have hmb : ((m : Int) == 3) = false := by rw [hm3]; rfl)
              try (have hmb : ((m : Int) == 3) = true := by rw [hm3]; rfl)
              try clear hm3
              first
                | (have hi2 : ((i : Int) == 1) = false := by (have : ¬ (i : Int) = 1 := by omega); simpa using this
                   clear hi1)
                | skip
              go_wp2_with (first | (refine wpList_dstT 78 rfl ?_; refine wpList_intSlice (by kernel_rfl) (.tmp 77) ((rs.length - 1 : Nat) : Int) rfl rfl ?_; intro wJ k1 k2; have HG := Lib.hid k2.out; have HOJ := Lib.hid (HO3.out.aft k1); have HKJ := Lib.hid (HK3.out.aft k1); have HLJ := Lib.hid (HL.out.call k1); have HFJ := Lib.hid (HFr.out.trans (Fr.of_below k1)); clear k1 k2) | (at_builtin; refine wpList_snocI rfl (.tmp 76) (.tmp 78) rfl w.heap.size _ (kz ks) rfl HKJ.out w3.heap.size _ rfl HG.out (by rw [kz_length]; have := HRk.out.1.few; simp only at this; omega) HFJ.out.size ?_; intro g9 c9 w9 k1 k2 k3; have HK9 := Lib.hid k1.out; have HO9 := Lib.hid (HOJ.out.keep k2.out (fun g hg e => own_ne2 HKJ.out HOJ.out.row.2 (by decide) hg e) (fun p hp g hg e => HAw3.out p hp g e hg)); have HAw9 := Lib.hid (show Away (.slice (some ⟨g9, 0, none⟩) ((kz ks).length + 1) c9) rs from fun p hp g hgv e => by (have hgq : g = g9 := by (cases hgv; rfl)); subst hgq; rcases k3.out with h | h; exact HAw3.out p hp _ h e; exact absurd ((HOJ.out.own p hp).lt e).2 (Nat.not_lt.2 h)); have HL9 := Lib.hid (HLJ.out.frO HKJ.out (Nat.le_trans HBB.out HBb.out) k2.out rfl); have HFr9 := Lib.hid (HFJ.out.next k2.out (fun k hk e => absurd hk (Nat.not_lt.2 (HKJ.out.lt e).1))); have HS9 := Lib.hid (show ∀ g, (Value.slice (some ⟨g9, 0, none⟩) ((kz ks).length + 1) c9).ownBlock = some g → w.heap.size ≤ g from fun g hg => (HK9.out.lt hg).1); clear k1 k2 k3 HOJ HKJ HLJ HFJ HG))
              go_roundw
              case rel =>
                refine ⟨i + 1, rs, ks ++ [rs.length - 1], by omega, by go_num, HRe.out, HO9.out, ?_, HAw9.out, HFr9.out, HV3.out, HFk.out, HL9.out⟩
                rw [show kz (ks ++ [rs.length - 1]) = kz ks ++ [((rs.length - 1 : Nat) : Int)] from List.map_append ..]
                exact HK9.out
              case measure => simp [intOf]; omega
        · obtain rfl : i = m := by omega
          have hlt' : ¬ (i : Int) < (i : Int) := by omega
          obtain ⟨mm, hmm2⟩ : ∃ mm, ks.length = mm + 1 := ⟨ks.length - 1, by
            have h1 := HRk.out.2 (by have := HM23.out; omega)
            omega⟩
          have HMm := Lib.hid hmm2
          have HRe := Lib.hid (show below kind ls (L + 1) j (ps.map Prod.fst) = abvN (hdN (L + 1) j false) (qs.map Prod.fst) ks by
            rw [HEnd.out, HRb.out])
          have HKk := Lib.hid (show ∀ k ∈ ks, k < qs.length from fun k hk => by
            have := HRk.out.1.kid k hk
            simpa using this)
          have hq9 : qs.length ≤ 100000 := by
            have h2 := HQl.out
            have h3 := HP.out
            have h4 : i * (2 * 3 ^ L) ≤ 3 * (2 * 3 ^ L) := Nat.mul_le_mul_right _ (by have := HM23.out; omega)
            omega
          have HQ9 := Lib.hid hq9
          clear hmm2 hq9
          go_wp2_with (first | (refine wpList_buildO (by kernel_rfl) 38 #[(0, .tmp 103), (1, .tmp 104)] rfl #[(0, .int .i64 ((L : Int) + 1)), (1, .int .i64 (j : Int))] (by kernel_rfl) _ (build_nd _ _ _) ?_))
          refine (join_any (hdN (L + 1) j false) _ ks mm HMm.out base _ qs wr HO.out (HKd.out.mono HBb.out) HKk.out HQ9.out (Nat.le_trans HBb.out HFr.out.size) (by have h1 := HRk.out.1.few; have h2 := HMm.out; simp only at h1; omega)).mono ?_
          rintro e w10 ⟨va10, rfl, ho10, hfr10, hv10⟩
          obtain ⟨ta, tc, rfl⟩ := ho10.shape
          have hlen := abvP_length (hdN (L + 1) j false) (.slice ka (kz ks).length kc) qs ks
          have HLen := Lib.hid hlen
          have HO10 := Lib.hid ho10
          have HFr10 := Lib.hid (HFr.out.next hfr10 (fun k hk e => by
            rcases HVb.out _ e with h | h
            · exact h
            · exact absurd hk (Nat.not_lt.2 h)))
          have HV10 := Lib.hid hv10
          have HFk10 := Lib.hid (abvP_from (x := hdN (L + 1) j false) (kv := .slice ka (kz ks).length kc) HFk.out HKk.out (fun g hg => (HKd.out.lt hg).1))
          have HAf := Lib.hid (abvP_fst (hdN (L + 1) j false) (.slice ka (kz ks).length kc) qs ks)
          clear ho10 hfr10 hv10 hlen
          generalize abvP (hdN (L + 1) j false) (.slice ka (kz ks).length kc) qs ks = ts at *
          go_wp2_with fail
          go_ret2
          refine ⟨_, ts, ?_, HO10.out, ?_, HFr10.out, ?_, HFk10.out⟩
          · rw [HLen.out, Nat.add_sub_cancel]
            rfl
          · rw [HAf.out, HRe.out]
          · intro g hg
            rcases HV10.out g hg with h | h
            · exact HVb.out g h
            · exact .inr (Nat.le_trans HFr.out.size h)
end Go.Proofs.Ytejdkmfbncedkaa
