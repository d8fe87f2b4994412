/- Law 13's kit: byte slices that lie in a slice of one's own (what a sum is of). -/
import Derived.Test.YtdbhlajajdlmfaaDoorV2
import Derived.Test.YtdbhlajajdlmfaaDoorV4
import Derived.Deep.AppendLies
namespace Go.Proofs.YtdbhlajajdlmfaaDoor
open Go Go.RowKit
/-- What parts come to. -/
def hK (ts : List Byt) : Byt := digest K0 (textB [] ts)
def nb4 (id : Int) : Byt := beL 4 id.toNat
def OwnP (w : World) (base : Nat) (v : Value) (ts : List Byt) : Prop :=
  ∃ vs, w.ownsRow base 44 1 v vs.length vs ∧ vs.length = ts.length ∧ ∀ i u, vs[i]? = some u → Rd w u (bv (ts.getD i [])) ∧ (ts.getD i [] ≠ [] → ∀ g, u.ownBlock = some g → v.ownBlock ≠ some g)
theorem OwnP.all {w : World} {base : Nat} {v : Value} {ts : List Byt} (h : OwnP w base v ts) : RdAll w v ts := by
  obtain ⟨vs, h1, h2, h3⟩ := h
  exact ⟨vs, Rd.of_own h1, h2, fun i u hu => (h3 i u hu).1⟩
theorem OwnP.aft {w w' : World} {base : Nat} {v : Value} {ts : List Byt} (h : OwnP w base v ts) (ha : Aft w w') : OwnP w' base v ts := by
  obtain ⟨vs, h1, h2, h3⟩ := h
  exact ⟨vs, ownsRow_below h1 fun g hg => Below.block ha g (own_lt h1 hg).2, h2, fun i u hu => ⟨(h3 i u hu).1.grow ha, (h3 i u hu).2⟩⟩
theorem OwnP.shape {w : World} {base : Nat} {v : Value} {ts : List Byt} (h : OwnP w base v ts) : ∃ ao cap, v = .slice ao ts.length cap := by
  obtain ⟨vs, h1, h2, -⟩ := h
  rw [← h2]
  exact own_shape h1
theorem OwnP.one {w : World} {base g : Nat} {u1 : Value} {t1 : Byt} (hg : w.heap[g]? = some (.cells #[u1] 44 (0, 0))) (hb : base ≤ g) (h1 : Rd w u1 (bv t1)) (n1 : u1.ownBlock ≠ some g) : OwnP w base (.slice (some ⟨g, 0, none⟩) 1 1) [t1] :=
  ⟨[u1], own_blk (xs := [u1]) hg hb (show 1 ≤ maxLen by decide), rfl, fun i u hu => by
    match i, hu with
    | 0, hu => cases hu; exact ⟨h1, fun _ k hk e => n1 (by cases e; exact hk)⟩⟩
theorem OwnP.two {w : World} {base g : Nat} {u1 u2 : Value} {t1 t2 : Byt} (hg : w.heap[g]? = some (.cells #[u1, u2] 44 (0, 0))) (hb : base ≤ g) (h1 : Rd w u1 (bv t1)) (n1 : u1.ownBlock ≠ some g) (h2 : Rd w u2 (bv t2)) (n2 : u2.ownBlock ≠ some g) : OwnP w base (.slice (some ⟨g, 0, none⟩) 2 2) [t1, t2] :=
  ⟨[u1, u2], own_blk (xs := [u1, u2]) hg hb (show 2 ≤ maxLen by decide), rfl, fun i u hu => by
    match i, hu with
    | 0, hu => cases hu; exact ⟨h1, fun _ k hk e => n1 (by cases e; exact hk)⟩
    | 1, hu => cases hu; exact ⟨h2, fun _ k hk e => n2 (by cases e; exact hk)⟩⟩
theorem OwnP.three {w : World} {base g : Nat} {u1 u2 u3 : Value} {t1 t2 t3 : Byt} (hg : w.heap[g]? = some (.cells #[u1, u2, u3] 44 (0, 0))) (hb : base ≤ g) (h1 : Rd w u1 (bv t1)) (n1 : u1.ownBlock ≠ some g) (h2 : Rd w u2 (bv t2)) (n2 : u2.ownBlock ≠ some g) (h3 : Rd w u3 (bv t3)) (n3 : u3.ownBlock ≠ some g) : OwnP w base (.slice (some ⟨g, 0, none⟩) 3 3) [t1, t2, t3] :=
  ⟨[u1, u2, u3], own_blk (xs := [u1, u2, u3]) hg hb (show 3 ≤ maxLen by decide), rfl, fun i u hu => by
    match i, hu with
    | 0, hu => cases hu; exact ⟨h1, fun _ k hk e => n1 (by cases e; exact hk)⟩
    | 1, hu => cases hu; exact ⟨h2, fun _ k hk e => n2 (by cases e; exact hk)⟩
    | 2, hu => cases hu; exact ⟨h3, fun _ k hk e => n3 (by cases e; exact hk)⟩⟩
/-- Bytes in a block of their own. -/
theorem rd_blk {w : World} {g : Nat} {l : Byt} {n : Nat} (hn : l.length = n) (hm : l.length ≤ maxLen) (hg : w.heap[g]? = some (.cells (bv l).toArray 5 (0, 0))) : Rd w (.slice (some ⟨g, 0, none⟩) n n) (bv l) := by
  have h := own_blk (xs := bv l) hg (Nat.le_refl g) (by rw [bv_length]; exact hm)
  rw [bv_length, hn] at h
  exact Rd.of_own h
theorem info_by : (Tryd.prog.info? 44).map (fun i => (i.zero, i.size, i.bytes)) = some (some (.slice none 0 0), 1, 24) := by kernel_rfl
theorem run_by4 (x y z u : Int) (w : World) : (Instr.buildSlice 44 4 #[(0, .int .u8 x), (1, .int .u8 y), (2, .int .u8 z), (3, .int .u8 u)]).run Tryd.prog w = .ok (.slice (some ⟨w.heap.size, 0, none⟩) 4 4) (w.alloc (.cells #[.int .u8 x, .int .u8 y, .int .u8 z, .int .u8 u] 5)) := by kernel_rfl
theorem run_by3 (x y z : Int) (w : World) : (Instr.buildSlice 44 3 #[(0, .int .u8 x), (1, .int .u8 y), (2, .int .u8 z)]).run Tryd.prog w = .ok (.slice (some ⟨w.heap.size, 0, none⟩) 3 3) (w.alloc (.cells #[.int .u8 x, .int .u8 y, .int .u8 z] 5)) := by kernel_rfl
theorem run_sl1 (a1 : Option Addr) (n1 c1 : Nat) (w : World) : (Instr.buildSlice 71 1 #[(0, .slice a1 n1 c1)]).run Tryd.prog w = .ok (.slice (some ⟨w.heap.size, 0, none⟩) 1 1) (w.alloc (.cells #[.slice a1 n1 c1] 44)) := by kernel_rfl
theorem run_sl2 (a1 a2 : Option Addr) (n1 c1 n2 c2 : Nat) (w : World) : (Instr.buildSlice 71 2 #[(0, .slice a1 n1 c1), (1, .slice a2 n2 c2)]).run Tryd.prog w = .ok (.slice (some ⟨w.heap.size, 0, none⟩) 2 2) (w.alloc (.cells #[.slice a1 n1 c1, .slice a2 n2 c2] 44)) := by kernel_rfl
theorem run_sl3 (a1 a2 a3 : Option Addr) (n1 c1 n2 c2 n3 c3 : Nat) (w : World) : (Instr.buildSlice 71 3 #[(0, .slice a1 n1 c1), (1, .slice a2 n2 c2), (2, .slice a3 n3 c3)]).run Tryd.prog w = .ok (.slice (some ⟨w.heap.size, 0, none⟩) 3 3) (w.alloc (.cells #[.slice a1 n1 c1, .slice a2 n2 c2, .slice a3 n3 c3] 44)) := by kernel_rfl
theorem run_u64s (x : Int) (w : World) : (Instr.buildSlice 104 1 #[(0, .int .u64 x)]).run Tryd.prog w = .ok (.slice (some ⟨w.heap.size, 0, none⟩) 1 1) (w.alloc (.cells #[.int .u64 x] 58)) := by kernel_rfl
section
variable {P : Program} {ops : Array Oper} {rest : List Oper} {o : Oper} {a : Act} {w : World} {Q : Exit → Act → World → Prop}
/-- Four, three, two or one value in a slice of their own. -/
theorem wpList_bs4 (hw : Region.wanted o (yielded ops a.tmps) = true) (t : TypeId) (y1 y2 y3 y4 : Operand) (ho : o.op = .buildSlice t 4 #[(0, y1), (1, y2), (2, y3), (3, y4)]) (u1 u2 u3 u4 : Value) (h1 : a.eval y1 = u1) (h2 : a.eval y2 = u2) (h3 : a.eval y3 = u3) (h4 : a.eval y4 = u4) (obj : Obj)
    (hr : ∀ w1, (Instr.buildSlice t 4 #[(0, u1), (1, u2), (2, u3), (3, u4)]).run P w1 = .ok (.slice (some ⟨w1.heap.size, 0, none⟩) 4 4) (w1.alloc obj))
    (h : ∀ w', Aft w w' → Hid (w'.heap[w.heap.size]? = some obj) → w'.heap.size = w.heap.size + 1 → wpList P ops Q rest (a.put o.dst (.slice (some ⟨w.heap.size, 0, none⟩) 4 4)) w') : wpList P ops Q (o :: rest) a w := by
  unfold wpList
  rw [if_pos hw]
  refine .inl (wp_noOut ?_)
  unfold Oper.wp execOp
  simp only [ho, h1, h2, h3, h4, Sem.run_bind, List.map_toArray, List.map_cons, List.map_nil, hr, Result.andThen_ok, Sem.run_pure]
  exact h _ (Aft.alloc w _) (heap_alloc_new w _) (World.size_alloc _ _)
theorem wpList_bs3 (hw : Region.wanted o (yielded ops a.tmps) = true) (t : TypeId) (y1 y2 y3 : Operand) (ho : o.op = .buildSlice t 3 #[(0, y1), (1, y2), (2, y3)]) (u1 u2 u3 : Value) (h1 : a.eval y1 = u1) (h2 : a.eval y2 = u2) (h3 : a.eval y3 = u3) (obj : Obj)
    (hr : ∀ w1, (Instr.buildSlice t 3 #[(0, u1), (1, u2), (2, u3)]).run P w1 = .ok (.slice (some ⟨w1.heap.size, 0, none⟩) 3 3) (w1.alloc obj))
    (h : ∀ w', Aft w w' → Hid (w'.heap[w.heap.size]? = some obj) → w'.heap.size = w.heap.size + 1 → wpList P ops Q rest (a.put o.dst (.slice (some ⟨w.heap.size, 0, none⟩) 3 3)) w') : wpList P ops Q (o :: rest) a w := by
  unfold wpList
  rw [if_pos hw]
  refine .inl (wp_noOut ?_)
  unfold Oper.wp execOp
  simp only [ho, h1, h2, h3, Sem.run_bind, List.map_toArray, List.map_cons, List.map_nil, hr, Result.andThen_ok, Sem.run_pure]
  exact h _ (Aft.alloc w _) (heap_alloc_new w _) (World.size_alloc _ _)
theorem wpList_bs2 (hw : Region.wanted o (yielded ops a.tmps) = true) (t : TypeId) (y1 y2 : Operand) (ho : o.op = .buildSlice t 2 #[(0, y1), (1, y2)]) (u1 u2 : Value) (h1 : a.eval y1 = u1) (h2 : a.eval y2 = u2) (obj : Obj)
    (hr : ∀ w1, (Instr.buildSlice t 2 #[(0, u1), (1, u2)]).run P w1 = .ok (.slice (some ⟨w1.heap.size, 0, none⟩) 2 2) (w1.alloc obj))
    (h : ∀ w', Aft w w' → Hid (w'.heap[w.heap.size]? = some obj) → w'.heap.size = w.heap.size + 1 → wpList P ops Q rest (a.put o.dst (.slice (some ⟨w.heap.size, 0, none⟩) 2 2)) w') : wpList P ops Q (o :: rest) a w := by
  unfold wpList
  rw [if_pos hw]
  refine .inl (wp_noOut ?_)
  unfold Oper.wp execOp
  simp only [ho, h1, h2, Sem.run_bind, List.map_toArray, List.map_cons, List.map_nil, hr, Result.andThen_ok, Sem.run_pure]
  exact h _ (Aft.alloc w _) (heap_alloc_new w _) (World.size_alloc _ _)
theorem wpList_bs1 (hw : Region.wanted o (yielded ops a.tmps) = true) (t : TypeId) (y1 : Operand) (ho : o.op = .buildSlice t 1 #[(0, y1)]) (u1 : Value) (h1 : a.eval y1 = u1) (obj : Obj)
    (hr : ∀ w1, (Instr.buildSlice t 1 #[(0, u1)]).run P w1 = .ok (.slice (some ⟨w1.heap.size, 0, none⟩) 1 1) (w1.alloc obj))
    (h : ∀ w', Aft w w' → Hid (w'.heap[w.heap.size]? = some obj) → w'.heap.size = w.heap.size + 1 → wpList P ops Q rest (a.put o.dst (.slice (some ⟨w.heap.size, 0, none⟩) 1 1)) w') : wpList P ops Q (o :: rest) a w := by
  unfold wpList
  rw [if_pos hw]
  refine .inl (wp_noOut ?_)
  unfold Oper.wp execOp
  simp only [ho, h1, Sem.run_bind, List.map_toArray, List.map_cons, List.map_nil, hr, Result.andThen_ok, Sem.run_pure]
  exact h _ (Aft.alloc w _) (heap_alloc_new w _) (World.size_alloc _ _)
end
section
variable {ops : Array Oper} {rest : List Oper} {o : Oper} {a : Act} {w : World} {Q : Exit → Act → World → Prop}
/-- One part more. -/
theorem wpList_pushP (hgd : o.guard = none) (s x : Operand) (ho : o.op = .call { callee := .builtin .append, args := #[s, x], argTypes := #[71, 71] }) (wm : World) (v : Value) (ts : List Byt) (hs : a.eval s = v) (hown : OwnP w wm.heap.size v ts) (gx : Nat) (u : Value) (t : Byt) (hx : a.eval x = .slice (some ⟨gx, 0, none⟩) 1 1)
    (hg : w.heap[gx]? = some (.cells #[u] 44 (0, 0))) (hu : Rd w u (bv t)) (hub : ∀ g, u.ownBlock = some g → v.ownBlock ≠ some g) (ha : Aft wm w) (hl : ts.length ≤ 1000)
    (h : ∀ g cap w', Aft wm w' → Hid (OwnP w' wm.heap.size (.slice (some ⟨g, 0, none⟩) (ts.length + 1) cap) (ts ++ [t])) → (v.ownBlock = some g ∨ g = w.heap.size) → wpList Tryd.prog ops Q rest (a.put o.dst (.slice (some ⟨g, 0, none⟩) (ts.length + 1) cap)) w') : wpList Tryd.prog ops Q (o :: rest) a w := by
  obtain ⟨vs, h1, h2, h3⟩ := hown
  obtain ⟨i0, hi0, hz1, hz2, hz3⟩ := info_parts info_by
  have hr1 : Rd w (.slice (some ⟨gx, 0, none⟩) 1 1) [u] := Rd.of_own (own_blk (xs := [u]) hg (Nat.le_refl _) (show 1 ≤ maxLen by decide))
  have hnew : ∀ j z, [u][j]? = some z → w.cell? ((⟨gx, 0, none⟩ : Addr).add j) = some z := by
    obtain ⟨ao, cap, he, -, -, -, r4⟩ := hr1
    cases he
    exact r4 _ rfl
  have hone : u.oneCell' = true := by
    obtain ⟨ao, cap, rfl, -⟩ := hu
    rfl
  have hsz : wm.heap.size ≤ w.heap.size := Below.size ha
  rw [h2] at h1
  refine wpList_append_lies w hgd s x 71 ho wm.heap.size 44 i0 _ 1 24 Tryd.underlying71 hi0 hz1 hz2 hz3 rfl (by decide) v ts.length vs hs h1 ⟨gx, 0, none⟩ 1 1 [u] hx rfl hnew (fun z hz => by simp at hz; subst hz; exact hone) (by decide) (by show ts.length + 1 ≤ 9223372036854775807; omega) (by omega) hsz w.heap.size rfl ?_
  intro g cap w' k1 k2 k3 k4
  have hA : Aft wm w' := ⟨k2.os.trans ha.os, k2.tape.trans ha.tape, k2.output.trans ha.output, Nat.le_trans ha.size k2.size, fun k hk => (k2.block k (Nat.lt_of_lt_of_le hk ha.size) (fun e => by have := (own_lt h1 e.symm).1; omega)).trans (ha.block k hk)⟩
  refine h g cap w' hA (Lib.hid ⟨vs ++ [u], by rw [List.length_append, h2]; exact k1, by rw [List.length_append, List.length_append, h2]; rfl, fun i z hz => ?_⟩) k3
  by_cases hi : i < vs.length
  · rw [List.getElem?_append_left hi] at hz
    obtain ⟨r1, r2⟩ := h3 i z hz
    rw [List.getD_eq_getElem?_getD, List.getElem?_append_left (by omega), ← List.getD_eq_getElem?_getD]
    refine ⟨r1.grown k2 fun g hg hx e => r2 (fun q => hx (by rw [q]; rfl)) g hg e.symm, fun hne q hq e => ?_⟩
    cases e
    rcases k3 with k3 | k3
    · exact r2 hne _ hq k3
    · have : g < w.heap.size := r1.lt hq (fun q => hne (by have := congrArg List.length q; rw [bv_length] at this; exact List.length_eq_zero_iff.1 this))
      omega
  · rw [List.getElem?_append_right (by omega)] at hz
    obtain ⟨j, hj⟩ : ∃ j, i - vs.length = j := ⟨_, rfl⟩
    rw [hj] at hz
    match j, hz with
    | 0, hz =>
      cases hz
      rw [List.getD_eq_getElem?_getD, List.getElem?_append_right (by omega), show i - ts.length = 0 by omega]
      refine ⟨hu.grown k2 fun g hg _ e => hub g hg e.symm, fun hne q hq e => ?_⟩
      cases e
      rcases k3 with k3 | k3
      · exact hub _ hq k3
      · have : g < w.heap.size := hu.lt hq (fun q => hne (by have := congrArg List.length q; rw [bv_length] at this; exact List.length_eq_zero_iff.1 this))
        omega
end
theorem run_leafW (w : World) : (Instr.buildSlice 44 4 #[(0, .int .u8 108), (1, .int .u8 101), (2, .int .u8 97), (3, .int .u8 102)]).run Tryd.prog w = .ok (.slice (some ⟨w.heap.size, 0, none⟩) 4 4) (w.alloc (.cells (bv leafW).toArray 5)) := by kernel_rfl
theorem run_nodeW (w : World) : (Instr.buildSlice 44 4 #[(0, .int .u8 110), (1, .int .u8 111), (2, .int .u8 100), (3, .int .u8 101)]).run Tryd.prog w = .ok (.slice (some ⟨w.heap.size, 0, none⟩) 4 4) (w.alloc (.cells (bv nodeW).toArray 5)) := by kernel_rfl
theorem run_redW (w : World) : (Instr.buildSlice 44 3 #[(0, .int .u8 114), (1, .int .u8 101), (2, .int .u8 100)]).run Tryd.prog w = .ok (.slice (some ⟨w.heap.size, 0, none⟩) 3 3) (w.alloc (.cells (bv redW).toArray 5)) := by kernel_rfl
theorem num4_ok {m : Nat} (h : m ≤ 1048576) : numB [] 4 [m] = beL 4 m ∧ numErr 4 [m] = 0 := by
  have hk : numOk 4 [m] = true := by
    simp [numOk, overB, fitsB]
    omega
  unfold numB numErr
  rw [if_pos hk, if_pos hk]
  exact ⟨by simp [numsB], rfl⟩
theorem text_ok {ts : List Byt} (h : ∀ t ∈ ts, t.length ≤ 65535) : textErr ts = 0 := by
  have hk : textOk ts = true := by
    unfold textOk
    rw [List.all_eq_true]
    exact fun x hx => decide_eq_true (h x hx)
  unfold textErr
  rw [hk]
  rfl
theorem hK_length (ts : List Byt) : (hK ts).length = 32 := digest_length _ _
theorem sumsK (N : List Nd) (ids : List Int) (ps : List Byt) : ∀ n, ∀ k ∈ sumsN hK nb4 N ids ps n, k.length = 32
  | 0, k, h => by simp [sumsN] at h
  | n + 1, k, h => by
    rw [sumsN, List.mem_append] at h
    rcases h with h | h
    · exact sumsK N ids ps n k h
    · rw [List.mem_singleton] at h
      rw [h]
      exact hK_length _
theorem aft_frK {w0 w w' : World} {base : Nat} {v : Value} {ks : List Byt} (ha : Aft w0 w) (ho : OwnK w base v ks) (hb : w0.heap.size ≤ base) (hf : Fr (fun b => v.ownBlock = some b) w w') : Aft w0 w' :=
  ⟨hf.os.trans ha.os, hf.tape.trans ha.tape, hf.output.trans ha.output, Nat.le_trans ha.size hf.size, fun k hk => (hf.block k (Nat.lt_of_lt_of_le hk ha.size) (fun e => by have := (ho.lt k e).1; omega)).trans (ha.block k hk)⟩
end Go.Proofs.YtdbhlajajdlmfaaDoor
