/- slices.IndexFunc and slices.Delete over Skips. -/
import Derived.Test.YtanodhagpegbfaaDoorRNext
import Derived.Deep.MidRow
import Derived.Deep.LoopGhost
import Derived.Lib.SliceRun
namespace Go.Proofs.YtanodhagpegbfaaDoor
open Go Go.RowKit
set_option linter.unusedSimpArgs false

def isSk : Obj → Bool
  | .cells _ t _ => t == 73
  | _ => false
def noSk (L : List (Nat × Obj)) : Bool := L.all fun p => !isSk p.2
theorem noSk_at {L : List (Nat × Obj)} (h : noSk L = true) {i k : Nat} {o : Obj} (hi : L[i]? = some (k, o)) (cs : Array Value) (fr : Nat × Nat) : o ≠ .cells cs 73 fr := by
  rintro rfl
  have := List.all_eq_true.1 h _ (List.mem_of_getElem? hi)
  exact absurd this (by simp [isSk])
theorem Led.other {w0 w w' : World} {L : List (Nat × Obj)} {g : Nat} {cs : Array Value} {fr : Nat × Nat} (h : Led w0 w L) (hg : w.heap[g]? = some (.cells cs 73 fr)) (hl : w0.heap.size ≤ g) (hb : ∀ k, k ≠ g → w'.heap[k]? = w.heap[k]?) (h3 : ∀ k w0, k ≤ g → Below k w0 w → Below k w0 w')
    (ht : noSk L = true) : Led w0 w' L :=
  ⟨h3 _ _ hl h.aft, fun i k o hi => ⟨(hb k (fun e => by subst e; have := h.get i hi; rw [hg] at this; cases this; exact noSk_at ht hi _ _ rfl)).trans (h.get i hi), (h.has i k o hi).2⟩, h.inc⟩
theorem Led.grownS {w0 w w' : World} {L : List (Nat × Obj)} {v : Value} {base : Nat} {zs : List Sk} (h : Led w0 w L) (ho : OwnS w base v zs) (hb : w0.heap.size ≤ base) (hg : w.grownBy w' v.ownBlock) (ht : noSk L = true) : Led w0 w' L := by
  rcases ho.2 with ⟨rfl, -⟩ | ⟨g, cap, cur, rfl, hbg, hgc, -⟩
  · exact h.grown hg (fun k hk => by cases hk)
  · refine h.grown hg (fun k hk => ?_)
    cases hk
    refine ⟨show w0.heap.size ≤ g by omega, fun p hp e => ?_⟩
    replace e : p.1 = g := e
    obtain ⟨i, hi⟩ := List.mem_iff_getElem?.1 hp
    have := h.get i (g := p.1) (o := p.2) hi
    rw [e, hgc] at this
    exact noSk_at ht hi _ _ (Option.some.inj this).symm
theorem Led.cut {w0 w : World} {L : List (Nat × Obj)} (h : Led w0 w L) (n : Nat) : Led w0 w (L.take n) :=
  have ht : ∀ (i : Nat) (p : Nat × Obj), (L.take n)[i]? = some p → L[i]? = some p := fun i p hp => by
    rw [List.getElem?_take] at hp
    split at hp
    · exact hp
    · cases hp
  ⟨h.aft, fun i g o hi => h.has i g o (ht i _ hi), fun i j g k o p hij hi hj => h.inc i j g k o p hij (ht i _ hi) (ht j _ hj)⟩
section
variable {ops : Array Oper} {rest : List Oper} {o : Oper} {a : Act} {w : World} {Q : Exit → Act → World → Prop}
theorem wpList_append_roomS (hw : Region.wanted o (yielded ops a.tmps) = true) (s x : Operand) (ho : o.op = .call { callee := .builtin .append, args := #[s, x], argTypes := #[69, 69] })
    (g n cap m c : Nat) (ad : Addr) (pre old post news : List Value) (hs : a.eval s = .slice (some ⟨g, 0, none⟩) n cap) (hx : a.eval x = .slice (some ad) m c)
    (hn : news.length = m * 33) (hc : ∀ j u, news[j]? = some u → w.cell? (ad.add j) = some u) (h1 : ∀ u ∈ news, u.oneCell' = true) (hroom : n + m ≤ cap)
    (hp : pre.length = n * 33) (hold : old.length = news.length) (hg : w.heap[g]? = some (.cells (pre ++ (old ++ post)).toArray 73 (0, 0)))
    (h : ∀ w', Hid (w'.heap[g]? = some (.cells (pre ++ (news ++ post)).toArray 73 (0, 0))) → Hid (∀ k, k ≠ g → w'.heap[k]? = w.heap[k]?) → (∀ k w0, k ≤ g → Below k w0 w → Below k w0 w') → wpList Tryd.prog ops Q rest (a.put o.dst (.slice (some ⟨g, 0, none⟩) (n + m) cap)) w') : wpList Tryd.prog ops Q (o :: rest) a w := by
  unfold wpList
  rw [if_pos hw]
  refine .inl (wp_noOut ?_)
  obtain ⟨i, hi, hz1, hz2, hz3⟩ := info_parts info_skE
  have ht := there_part pre old post hg
  rw [hold] at ht
  have hrun := run_append_room_cells (P := Tryd.prog) w 69 o.type 73 i Tryd.underlying69 hi g 0 n cap ad m c news (by rw [hz2]; exact hn) hc h1 hroom
    (fun j hj => by rw [hz2, ← hp, Nat.zero_add]; exact (ht j hj).1) (fun j hj => by rw [hz2, ← hp, Nat.zero_add]; exact (ht j hj).2)
  rw [hz2, ← hp, Nat.zero_add] at hrun
  unfold Oper.wp
  simp [execOp, ho, resolve, invoke, builtin, hs, hx, hrun, Result.andThen]
  exact h _ (show _ = _ from block_setCells post news old pre w hold hg) (show _ from fun k hk => heap_sets hk news _ w) fun k w0 hk hb => below_sets hk news _ hb
theorem zero_sk (w : World) : (zeroValue 73).run Tryd.prog w = .ok (.agg (skL zSk).toArray) w := by kernel_rfl
theorem zero_skC : (Builtin.zeroCells (Value.agg (skL zSk).toArray).cells 1).toList = skL zSk := by kernel_rfl
theorem run_clearS (g n c : Nat) (pre old post : List Value) (hp : pre.length = n) (hold : old.length = 33) (hg : w.heap[g]? = some (.cells (pre ++ (old ++ post)).toArray 73 (0, 0))) :
    ∃ w', (∀ ty, (Builtin.clear_ #[69] ty #[.slice (some ⟨g, n, none⟩) 1 c]).run Tryd.prog w = .ok (.tuple #[]) w') ∧ Hid (w'.heap[g]? = some (.cells (pre ++ (skL zSk ++ post)).toArray 73 (0, 0))) ∧ Hid (∀ k, k ≠ g → w'.heap[k]? = w.heap[k]?) ∧ (∀ k w0, k ≤ g → Below k w0 w → Below k w0 w') := by
  subst hp
  have hold' : old.length = (skL zSk).length := by rw [hold, skL_length]
  have ht := there_part pre old post hg
  rw [hold'] at ht
  have hst := run_storeCells_cells (P := Tryd.prog) g pre.length (skL zSk) 0 w (fun j hj => by simpa using (ht j hj).1) (fun j hj => by simpa using (ht j hj).2) (skL_one zSk)
  simp only [Nat.add_zero] at hst
  refine ⟨w.setCells g pre.length (skL zSk), fun ty => ?_, (show _ = _ from block_setCells post (skL zSk) old pre w hold' hg), (show _ from fun k hk => heap_sets hk (skL zSk) _ w), fun k w0 hk hb => below_sets hk (skL zSk) _ hb⟩
  simp only [Builtin.clear_]
  simp [run_underlying Tryd.underlying69]
  show (Result.andThen (Sem.run Tryd.prog (storeCells ⟨g, pre.length, none⟩ (Builtin.zeroCells (Value.agg (skL zSk).toArray).cells 1).toList) w) _) = _
  rw [zero_skC, hst]
  rfl
end
theorem box_sk (L : List Value) (w : World) : (Instr.box 73 (.agg L.toArray)).run Tryd.prog w = .ok (.pointer (some ⟨w.heap.size, 0, none⟩)) (w.alloc (.cells L.toArray 73)) := rfl
set_option maxRecDepth 100000 in
set_option maxHeartbeats 1000000 in
/-- The closure of Take: is a Skip the turn's that is asked for. -/
theorem pred_any (t B : Nat) (w : World) (hB : B < w.heap.size) (hc : w.cell? ⟨B, 0, none⟩ = some (.int .u64 (t : Int))) :
    ∀ (W : World) (x : Sk), Aft w W → Calls Tryd.prog 81 #[.agg (skL x).toArray, .pointer (some ⟨B, 0, none⟩)] W fun e w' => e = .returned (.bool (x.1.1 == t)) ∧ Aft w w' := fun W x hb => by
  have hcW : W.cell? ⟨B, 0, none⟩ = some (.int .u64 (t : Int)) := (hb.cell (p := ⟨B, 0, none⟩) hB).trans hc
  have hBW : B < W.heap.size := Nat.lt_of_lt_of_le hB hb.size
  have hc2 := Lib.cell?_alloc_some (.cells (skL x).toArray 73) hcW
  have hr := heap_alloc_new W (.cells (skL x).toArray 73)
  have hn := cell_part (n := 0) (u := .int .u64 (x.1.1 : Int)) hr rfl
  have hbx := box_sk (skL x)
  show Calls Tryd.prog 81 #[.agg (skL x).toArray, .pointer (some ⟨B, 0, none⟩)] W _
  have hbl := Aft.trans hb (Aft.alloc W (.cells (skL x).toArray 73))
  clear hb hB hc
  go_enter Tryd.func81, Tryd.ntmps81
  go_wp2_with fail
  go_ret
  exact ⟨by rw [show ((x.1.1 : Int) == (t : Int)) = (x.1.1 == t) by rw [Bool.eq_iff_iff]; simp; omega]; rfl, hbl⟩
/-- The place of a turn's Skip. -/
def ixS (t : Nat) (zs : List Sk) : Int := match zs.findIdx? (fun x => x.1.1 == t) with | some i => (i : Int) | none => -1
theorem ixS_hit {t k : Nat} {zs : List Sk} (hk : k < zs.length) (h : (zs[k]?.getD default).1.1 = t) (hne : ∀ j, j < k → (zs[j]?.getD default).1.1 ≠ t) : ixS t zs = (k : Int) := by
  have e : zs.findIdx? (fun x => x.1.1 == t) = some k := by
    rw [List.findIdx?_eq_some_iff_getElem]
    refine ⟨hk, ?_, fun j hj => ?_⟩
    · rw [List.getElem?_eq_getElem hk] at h
      simpa using h
    · have := hne j hj
      rw [List.getElem?_eq_getElem (by omega)] at this
      simpa using this
  unfold ixS
  rw [e]
theorem ixS_miss {t : Nat} {zs : List Sk} (hne : ∀ j, j < zs.length → (zs[j]?.getD default).1.1 ≠ t) : ixS t zs = -1 := by
  have e : zs.findIdx? (fun x => x.1.1 == t) = none := by
    rw [List.findIdx?_eq_none_iff]
    intro x hx
    obtain ⟨j, hj, rfl⟩ := List.mem_iff_getElem.1 hx
    have := hne j hj
    rw [List.getElem?_eq_getElem hj] at this
    simpa using this
  unfold ixS
  rw [e]
set_option maxRecDepth 100000 in
set_option maxHeartbeats 1000000 in
theorem index_none (fv : Value) (w : World) :
    Calls Tryd.prog 80 #[.slice none 0 0, fv] w fun e w' => e = .returned (.int .i64 (-1)) ∧ w' = w := by
  go_enter Tryd.func80, Tryd.ntmps80
  go_wp2
  go_loopg [5, 8] 0 (fun _ _ s8 wr => s8 = .int .i64 0 ∧ wr = w)
  case atStart => exact ⟨rfl, rfl⟩
  case round =>
    obtain ⟨rfl, rfl⟩ := hrel
    go_wp2
    go_ret
    exact ⟨rfl, rfl⟩
set_option maxRecDepth 100000 in
set_option maxHeartbeats 2000000 in
theorem index_rows (t B b o c : Nat) (zs : List Sk) (w : World) (hB : w.cell? ⟨B, 0, none⟩ = some (.int .u64 (t : Int))) (hBl : B < w.heap.size) (hb : b < w.heap.size) (hz : zs.length ≤ 1048576) (hc : ∀ j, j < zs.length → w.rangeAt b (o + j * 33) (skL (zs[j]?.getD default))) :
    Calls Tryd.prog 80 #[.slice (some ⟨b, o, none⟩) zs.length c, .func (.func 81) #[] #[.pointer (some ⟨B, 0, none⟩)]] w fun e w' => e = .returned (.int .i64 (ixS t zs)) ∧ Aft w w' := by
  have HP := Lib.hid (pred_any t B w hBl hB)
  have HR := Lib.hid (show ∀ W : World, Aft w W → ∀ j, j < zs.length → W.rangeAt b (o + j * 33) (skL (zs[j]?.getD default)) from fun W hW j hj i v hv => (hW.cell (p := ⟨b, o + j * 33 + i, none⟩) hb).trans (hc j hj i v hv))
  clear hB hBl hb hc
  have H0 := Lib.hid (Aft.refl w)
  go_enter Tryd.func80, Tryd.ntmps80
  go_wp2
  go_loopg [5, 8] zs.length (fun gg _ s8 wr => ∃ kk : Nat, kk ≤ zs.length ∧ zs.length - kk ≤ gg ∧ s8 = .int .i64 kk ∧ Hid (Aft w wr) ∧ Hid (∀ j, j < kk → (zs[j]?.getD default).1.1 ≠ t))
  case atStart => exact ⟨0, Nat.zero_le _, by omega, rfl, H0, Lib.hid (fun j hj => absurd hj (Nat.not_lt_zero _))⟩
  case round =>
    obtain ⟨kk, hkk, hg, rfl, BW, A⟩ := hrel
    by_cases hlt : kk < zs.length
    · have hltz : (kk : Int) < (zs.length : Int) := by omega
      have HX := Lib.hid (HR.out wr BW.out kk hlt)
      have HC := Lib.hid (HP.out wr (zs[kk]?.getD default) BW.out)
      have HT := Lib.hid (fun h => ixS_hit hlt h A.out)
      have HF := Lib.hid (show (zs[kk]?.getD default).1.1 ≠ t → ∀ j, j < kk + 1 → (zs[j]?.getD default).1.1 ≠ t from fun h j hj => by
        by_cases e : j = kk
        · subst e; exact h
        · exact A.out j (by omega))
      generalize zs[kk]?.getD default = y at *
      cases hq : (y.1.1 == t) with
      | true =>
        rw [hq] at HC
        have hyt : y.1.1 = t := by simpa using hq
        have HI := Lib.hid (HT.out hyt)
        clear hq hyt
        go_wp2_with (first | (refine wpList_load_mid rfl 73 (.tmp 14) rfl b (o + kk * 33) rfl (skL y) _ HX.out Tryd.underlying73 rfl (by rw [skL_length]; kernel_rfl) ?_))
        refine HC.out.mono ?_
        rintro e w' ⟨rfl, hb'⟩
        go_wp2_with fail
        go_ret
        rw [HI.out]
        exact ⟨rfl, hb'⟩
      | false =>
        rw [hq] at HC
        have hyt : y.1.1 ≠ t := by simpa using hq
        have HI := Lib.hid (HF.out hyt)
        clear hq hyt
        go_wp2_with (first | (refine wpList_load_mid rfl 73 (.tmp 14) rfl b (o + kk * 33) rfl (skL y) _ HX.out Tryd.underlying73 rfl (by rw [skL_length]; kernel_rfl) ?_))
        refine HC.out.mono ?_
        rintro e w' ⟨rfl, hb'⟩
        go_wp2_with fail
        go_roundg (zs.length - (kk + 1))
        case measure => omega
        case rel => exact ⟨kk + 1, by omega, by omega, by go_num, Lib.hid hb', HI⟩
    · have hltz : ¬ (kk : Int) < (zs.length : Int) := by omega
      have hk : kk = zs.length := by omega
      subst hk
      have HI := Lib.hid (ixS_miss A.out)
      go_wp2
      go_ret
      rw [HI.out]
      exact ⟨rfl, BW.out⟩
theorem index_any (t B : Nat) (v : Value) (zs : List Sk) (w : World) (base : Nat) (hB : w.cell? ⟨B, 0, none⟩ = some (.int .u64 (t : Int))) (hz : zs.length ≤ 1048576) (ho : OwnS w base v zs) :
    Calls Tryd.prog 80 #[v, .func (.func 81) #[] #[.pointer (some ⟨B, 0, none⟩)]] w fun e w' => e = .returned (.int .i64 (ixS t zs)) ∧ Aft w w' := by
  have hBl : B < w.heap.size := by
    rcases Nat.lt_or_ge B w.heap.size with h' | h'
    · exact h'
    · simp [World.cell?, Array.getElem?_eq_none h'] at hB
  rcases ho.sks with ⟨rfl, rfl⟩ | ⟨b, o, c, rfl, hb, hc⟩
  · refine (index_none _ w).mono ?_
    rintro e w' ⟨rfl, rfl⟩
    exact ⟨rfl, Aft.refl _⟩
  · exact index_rows t B b o c zs w hB hBl hb hz hc
set_option maxRecDepth 100000 in
set_option maxHeartbeats 4000000 in
/-- slices.Delete of one. -/
theorem delete_any (A : List Sk) (z : Sk) (Bs : List Sk) (v : Value) (w : World) (base : Nat) (hz : A.length + (Bs.length + 1) ≤ 1048576) (ho : OwnS w base v (A ++ z :: Bs)) :
    Calls Tryd.prog 82 #[v, .int .i64 (A.length : Int), .int .i64 ((A.length : Int) + 1)] w fun e w' => ∃ v' g, v.ownBlock = some g ∧ e = .returned v' ∧ OwnS w' base v' (A ++ Bs) ∧ v'.ownBlock = some g ∧ (∃ cs, w.heap[g]? = some (.cells cs 73 (0, 0))) ∧ (∀ k, k ≠ g → w'.heap[k]? = w.heap[k]?) ∧ (∀ k w0, k ≤ g → Below k w0 w → Below k w0 w') := by
  have HZ := Lib.hid hz
  rcases ho.2 with ⟨he, hn⟩ | ⟨g, cap, cur, rfl, hb, hg, hcap, hm, hsz, ht⟩
  · simp at hn
  obtain ⟨spare, hsp⟩ : ∃ spare, cur.toList = sksL A ++ (skL z ++ (sksL Bs ++ spare)) := by
    refine ⟨cur.toList.drop ((A ++ z :: Bs).length * 33), ?_⟩
    have := List.take_append_drop ((A ++ z :: Bs).length * 33) cur.toList
    rw [ht, sksL_append, sksL_cons] at this
    simpa only [List.append_assoc] using this.symm
  have hcur : cur = (sksL A ++ (skL z ++ (sksL Bs ++ spare))).toArray := by rw [← hsp]
  subst hcur
  have hspl : spare.length = (cap - (A.length + (Bs.length + 1))) * 33 := by
    have : (sksL A ++ (skL z ++ (sksL Bs ++ spare))).length = cap * 33 := by simpa using hsz
    rw [List.length_append, List.length_append, List.length_append, sksL_length, sksL_length, skL_length] at this
    have h2 : A.length + (Bs.length + 1) ≤ cap := by simpa using hcap
    omega
  -- what is moved to the left lies over what was there
  obtain ⟨old, last, hol, hold, hlast⟩ : ∃ old last, skL z ++ sksL Bs = old ++ last ∧ old.length = (sksL Bs).length ∧ last.length = 33 :=
    ⟨(skL z ++ sksL Bs).take (sksL Bs).length, (skL z ++ sksL Bs).drop (sksL Bs).length, (List.take_append_drop _ _).symm, by simp [skL_length], by simp [skL_length]⟩
  have hg2 : w.heap[g]? = some (.cells (sksL A ++ (old ++ (last ++ spare))).toArray 73 (0, 0)) := by
    rw [hg, ← List.append_assoc old last spare, ← hol, List.append_assoc]
  have hlen : (A ++ z :: Bs).length = A.length + (Bs.length + 1) := by simp
  have hcap2 : A.length + (Bs.length + 1) ≤ cap := by rw [← hlen]; exact hcap
  have hcapM := hm
  have hm2 := hm
  unfold maxLen at hm2
  obtain ⟨ad, had, hsrc⟩ : ∃ ad : Addr, (if cap = A.length + 1 then some (⟨g, 0, none⟩ : Addr) else some ⟨g, (A.length + 1) * 33, none⟩) = some ad ∧ Hid (∀ w1 : World, w1.heap[g]? = w.heap[g]? → ∀ j u, (sksL Bs)[j]? = some u → w1.cell? (ad.add j) = some u) := by
    by_cases h : cap = A.length + 1
    · refine ⟨⟨g, 0, none⟩, by simp [h], fun w1 _ j u hu => ?_⟩
      have : Bs = [] := List.eq_nil_of_length_eq_zero (by omega)
      subst this
      simp [sksL] at hu
    · refine ⟨⟨g, (A.length + 1) * 33, none⟩, by simp [h], fun w1 h1 j u hu => ?_⟩
      have hj : j < (sksL Bs).length := (List.getElem?_eq_some_iff.1 hu).1
      rw [Addr.add_lit]
      refine cell_part (h1.trans hg) ?_
      rw [List.getElem?_append_right (by rw [sksL_length]; omega), sksL_length, List.getElem?_append_right (by rw [skL_length]; omega), skL_length, show (A.length + 1) * 33 + j - A.length * 33 - 33 = j by omega, List.getElem?_append_left hj]
      exact hu
  have HP := Lib.hid (sksL_length A)
  have HB := Lib.hid (sksL_length Bs)
  have HO := Lib.hid hold
  have HLa := Lib.hid hlast
  have HS := Lib.hid hspl
  have HG := Lib.hid hg
  have HG2 := Lib.hid hg2
  have HOne := Lib.hid (sksL_one Bs)
  have HC := Lib.hid hcap2
  have HM := Lib.hid hm2
  rw [hlen]
  clear ho hg hg2 hsp hspl hold hlast hol hcap hm ht hsz hlen hz
  go_enter Tryd.func82, Tryd.ntmps82
  generalize hi : A.length = i at *
  generalize hm : Bs.length = m at *
  obtain ⟨n, hn⟩ : ∃ n, n = i + (m + 1) := ⟨_, rfl⟩
  rw [← hn]
  have HI := Lib.hid hi
  have HMm := Lib.hid hm
  have HN := Lib.hid hn
  have q6 : i + 1 ≤ n := by omega
  have q7 : n ≤ cap := by have := HC.out; omega
  clear hi hm hn
  clear hm2 hcap2
  go_wp2_with fail
  refine wp_region_lex (fun _ => True) (fun i => ([6] : List Nat).contains i) 7 (by kernel_rfl) (by kernel_rfl) trivial ?_
  change wpLx _ _ _ _ _ _ _ _ _ w.drew
  have HD := Lib.hid (show Aft w w.drew from (Below.refl _ _).drew)
  have HDh := Lib.hid (show w.drew.heap = w.heap from rfl)
  generalize w.drew = wd at *
  repeat (first | (refine lx_skipT (by go_big_quiet_skip; exact wpQuiet_nil trivial) (by kernel_rfl) ?_; simp only [Act.put, List.setIfInBounds_toArray, List.set_cons_succ, List.set_cons_zero]) | (refine lx_quietT rfl (by go_big_quiet_want; exact quiet_false (by assumption)) (by kernel_rfl) rfl ?_; intro Kx hKx; go_big_quiet_op; go_big_quiet_on))
  refine lx_eff rfl (by kernel_rfl) ?_
  intro Kx hKx
  have hnm : n - (i + 1) = m := by have := HN.out; omega
  rw [hnm]
  refine wp_of_list (ops := #[]) (wpList_append_roomS rfl (.tmp 22) (.tmp 25) rfl g i cap m _ ad (sksL A) old (last ++ spare) (sksL Bs) rfl rfl HB.out (hsrc.out wd (by rw [HDh.out])) HOne.out (by have := HN.out; omega) HP.out HO.out (by rw [HDh.out]; exact HG2.out) ?_)
  intro w2 b1 b2 b3
  refine ⟨rfl, hKx _ _ ⟨trivial, ?_⟩⟩
  clear hKx had hsrc hnm
  refine lx_done ?_
  simp only [Act.put]
  obtain ⟨p, hp⟩ : ∃ p, p = i + m := ⟨_, rfl⟩
  obtain rfl : n = p + 1 := by have := HN.out; omega
  rw [← hp]
  have HPp := Lib.hid hp
  have q8 : ¬ cap = p := by omega
  have HGx := Lib.hid (show w2.heap[g]? = some (.cells ((sksL A ++ sksL Bs) ++ (last ++ spare)).toArray 73 (0, 0)) by rw [b1.out, List.append_assoc])
  obtain ⟨w3, hclr, c1, c2, c3⟩ := run_clearS g (p * 33) (cap - p) (sksL A ++ sksL Bs) last spare (by rw [List.length_append, HP.out, HB.out, HPp.out]; omega) HLa.out HGx.out
  clear hp q6
  go_wp2_with fail
  go_ret
  have e2 : ∀ k, k ≠ g → w3.heap[k]? = w.heap[k]? := fun k hk => (c2.out k hk).trans ((b2.out k hk).trans (by rw [HDh.out]))
  have hpl : p = (A ++ Bs).length := by rw [List.length_append, HI.out, HMm.out, HPp.out]
  refine ⟨_, g, rfl, rfl, ⟨sksL_length _, .inr ⟨g, cap, _, by rw [← hpl]; rfl, hb, c1.out, by rw [← hpl]; omega, hcapM, ?_, ?_⟩⟩, rfl, ⟨_, HG.out⟩, e2, fun k w0 hk hb0 => c3 k w0 hk (b3 k w0 hk (hb0.trans (HD.out.mono (by have := heap_lt HG.out; omega))))⟩
  · have := HLa.out
    have := HS.out
    have := HC.out
    simp only [List.size_toArray, List.length_append, skL_length, HP.out, HB.out]
    omega
  · rw [← sksL_append]
    rw [← hpl, show p * 33 = (sksL (A ++ Bs)).length by rw [sksL_length, hpl]]
    exact List.take_left
end Go.Proofs.YtanodhagpegbfaaDoor
