/- The walk of package sha's mix: a block is taken into the state's eight words as XSha's plain function says; nothing else of what was there turns. -/
import Derived.Test.YtifehfcgmodmaaaDoorMix
import Derived.Test.YtifehfcgmodmaaaDoorLexT
namespace Go.Proofs.YtifehfcgmodmaaaDoor
open Go.RowKit
attribute [local go_sem] wn_add wn_xor wn_and wn_or wn_shr wn_shl bn_wide wn_shl24 wn_shl16 wn_shl8
/-- The table that is added. -/
def TabK (K : Nat → BitVec 32) (g : Nat) (w : World) : Prop := ∃ T cs fr, w.heap[g]? = some (.cells cs T fr) ∧ cs.size = 64 ∧ ∀ i, i < 64 → cs[i]? = some (.int .u32 (wn (K i)))

theorem and15 (t : Nat) (h : t < 128) : bits .and .i64 (t : Int) 15 = ((t % 16 : Nat) : Int) := by
  have : ∀ t : Fin 128, bits .and .i64 (t.val : Int) 15 = ((t.val % 16 : Nat) : Int) := by decide
  exact this ⟨t, h⟩

theorem ring_step1 (B : Nat → BitVec 8) (f : Nat → BitVec 32) (t : Nat) (ht : t < 16) (hf : ∀ i, i < t → f i = (blockWords B).getD i 0) (i : Nat) (hi : i < t + 1) :
    (if i = t then word4 (B (4 * t)) (B (4 * t + 1)) (B (4 * t + 2)) (B (4 * t + 3)) else f i) = (blockWords B).getD i 0 := by
  split
  · rename_i e; rw [e, blockWords_at B t ht]
  · exact hf i (by omega)
theorem ring_start (w : World) : ringIs (w.alloc (.cells #[.int .u32 0, .int .u32 0, .int .u32 0, .int .u32 0, .int .u32 0, .int .u32 0, .int .u32 0, .int .u32 0, .int .u32 0, .int .u32 0, .int .u32 0, .int .u32 0, .int .u32 0, .int .u32 0, .int .u32 0, .int .u32 0] 109)) w.heap.size (fun _ => 0) :=
  World.rowIs_alloc _ _ _ _ (fun i hi => by
    show (Array.replicate 16 (Value.int .u32 0))[i]? = some (.int .u32 0)
    have hi' : i < 16 := hi
    simp [hi'])
def stIn (s : St) (va vb vc vd ve vf vg vh : Value) : Prop := va = .int .u32 (wn s.a) ∧ vb = .int .u32 (wn s.b) ∧ vc = .int .u32 (wn s.c) ∧ vd = .int .u32 (wn s.d) ∧
  ve = .int .u32 (wn s.e) ∧ vf = .int .u32 (wn s.f) ∧ vg = .int .u32 (wn s.g) ∧ vh = .int .u32 (wn s.h)
def ringOk (M : List (BitVec 32)) (t : Nat) (f : Nat → BitVec 32) : Prop := ∀ j, t ≤ j + 16 → j < max t 16 → f (j % 16) = sched M j
theorem ringOk_start (B : Nat → BitVec 8) (f : Nat → BitVec 32) (hf : ∀ i, i < 16 → f i = (blockWords B).getD i 0) : ringOk (blockWords B) 0 f := fun j _ hj => by
  have hj' : j < 16 := by simpa using hj
  rw [Nat.mod_eq_of_lt hj', hf j hj', sched_low _ (blockWords_length B) j hj']
theorem ring_place (t : Nat) (h : t < 128) : ∃ p, Hid (p = t % 16) ∧ bits .and .i64 (t : Int) 15 = (p : Int) ∧ (p : Int) < 16 ∧ (0 : Int) ≤ p ∧ p < 16 :=
  ⟨t % 16, rfl, and15 t h, by omega, by omega, by omega⟩
theorem ring_place' (t d : Nat) (e : Int) (he : e = (d : Int)) (h : t + d < 128) : ∃ p, Hid (p = (t + d) % 16) ∧ bits .and .i64 ((t : Int) + e) 15 = (p : Int) ∧ (p : Int) < 16 ∧ (0 : Int) ≤ p ∧ IntKind.i64.wrap ((t : Int) + e) = (t : Int) + e ∧ p < 16 := by
  subst he
  exact ⟨(t + d) % 16, rfl, and15 (t + d) h, by omega, by omega, IntWalk.i64_in _ (by omega), by omega⟩
theorem st_step {K : Nat → BitVec 32} {M : List (BitVec 32)} {s st : St} {t : Nat} {x : BitVec 32} (hst : rounds K M s t = st) (hx : x = sched M t) :
    stIn (rounds K M s (t + 1)) (.int .u32 (wn (st.h + rorx3 st.e 6 11 25 + (st.g ^^^ st.e &&& (st.f ^^^ st.g)) + K t + x + (rorx3 st.a 2 13 22 + (st.a &&& st.b ||| st.c &&& (st.a ||| st.b)))))) (.int .u32 (wn st.a)) (.int .u32 (wn st.b)) (.int .u32 (wn st.c))
      (.int .u32 (wn (st.d + (st.h + rorx3 st.e 6 11 25 + (st.g ^^^ st.e &&& (st.f ^^^ st.g)) + K t + x)))) (.int .u32 (wn st.e)) (.int .u32 (wn st.f)) (.int .u32 (wn st.g)) := by
  subst hst hx
  exact ⟨rfl, rfl, rfl, rfl, rfl, rfl, rfl, rfl⟩
theorem ring_old {M : List (BitVec 32)} {t p : Nat} {f : Nat → BitVec 32} (h : t < 16) (hf : ringOk M t f) (hp : p = t % 16) : f p = sched M t := by
  rw [hp]; exact hf t (by omega) (by omega)
theorem ring_keep {M : List (BitVec 32)} {t : Nat} {f : Nat → BitVec 32} (h : t < 16) (hf : ringOk M t f) : ringOk M (t + 1) f := fun j h1 h2 => hf j (by omega) (by omega)
theorem ring_new {B : Nat → BitVec 8} {t p0 p1 p9 p14 : Nat} {f : Nat → BitVec 32} (h : 16 ≤ t) (hf : ringOk (blockWords B) t f) (h0 : p0 = t % 16) (h1 : p1 = (t + 1) % 16) (h9 : p9 = (t + 9) % 16) (h14 : p14 = (t + 14) % 16) :
    f p0 + (rorx2s (f p1) 7 18 3 + f p9 + rorx2s (f p14) 17 19 10) = sched (blockWords B) t := by
  obtain ⟨u, rfl⟩ : ∃ u, t = u + 16 := ⟨t - 16, by omega⟩
  have e0 : f p0 = sched (blockWords B) u := by rw [h0, show (u + 16) % 16 = u % 16 by omega]; exact hf u (by omega) (by omega)
  have e1 : f p1 = sched (blockWords B) (u + 1) := by rw [h1, show (u + 16 + 1) % 16 = (u + 1) % 16 by omega]; exact hf (u + 1) (by omega) (by omega)
  have e9 : f p9 = sched (blockWords B) (u + 9) := by rw [h9, show (u + 16 + 9) % 16 = (u + 9) % 16 by omega]; exact hf (u + 9) (by omega) (by omega)
  have e14 : f p14 = sched (blockWords B) (u + 14) := by rw [h14, show (u + 16 + 14) % 16 = (u + 14) % 16 by omega]; exact hf (u + 14) (by omega) (by omega)
  rw [e0, e1, e9, e14, sched_high _ (blockWords_length B)]
theorem ring_step {M : List (BitVec 32)} {t p : Nat} {f : Nat → BitVec 32} {x : BitVec 32} (h : 16 ≤ t) (hf : ringOk M t f) (hp : p = t % 16) (hx : x = sched M t) : ringOk M (t + 1) (fun j => if j = p then x else f j) := fun j h1 h2 => by
  show (if j % 16 = p then x else f (j % 16)) = sched M j
  by_cases e : j = t
  · subst e; rw [if_pos hp.symm, hx]
  · rw [if_neg (by omega)]; exact hf j (by omega) (by omega)
def halfMixed (s st : St) (F : Nat → Value) (t : Nat) (i : Nat) : Value := if i < 8 then (if i < t then .int .u32 (wn (s.at i + st.at i)) else .int .u32 (wn (s.at i))) else F i
theorem halfMixed_start {s st : St} {F : Nat → Value} (hF : ∀ i, i < 8 → F i = .int .u32 (wn (s.at i))) {n : Nat} (i : Nat) (_h : i < n) : F i = halfMixed s st F 0 i := by
  unfold halfMixed
  split
  · rename_i h8; rw [if_neg (by omega)]; exact hF i h8
  · rfl
theorem halfMixed_step {s st : St} {F : Nat → Value} {t n : Nat} (h8 : t < 8) (i : Nat) (_h : i < n) : (if i = t then .int .u32 (wn (s.at t + st.at t)) else halfMixed s st F t i) = halfMixed s st F (t + 1) i := by
  unfold halfMixed
  by_cases e : i = t
  · subst e; rw [if_pos rfl, if_pos h8, if_pos (by omega)]
  · rw [if_neg e]
    split
    · by_cases h : i < t
      · rw [if_pos h, if_pos (by omega)]
      · rw [if_neg h, if_neg (by omega)]
    · rfl
theorem halfMixed_end {K : Nat → BitVec 32} {B : Nat → BitVec 8} {s st : St} {F : Nat → Value} (hst : rounds K (blockWords B) s 64 = st) {n : Nat} (i : Nat) (_h : i < n) : halfMixed s st F 8 i = if i < 8 then .int .u32 (wn ((mixed K s B).at i)) else F i := by
  unfold halfMixed mixed
  rw [hst, St.at_plus]
  split <;> rfl
theorem half_cell {w : World} {bs T n t : Nat} {s st : St} {F : Nat → Value} (h : w.rowIs bs T n (halfMixed s st F t)) (hn : 8 ≤ n) (h8 : t < 8) : w.cell? ⟨bs, t, none⟩ = some (.int .u32 (wn (s.at t))) := by
  rw [World.rowIs.cell h (by omega)]
  unfold halfMixed
  rw [if_pos h8, if_neg (by omega)]
theorem st_cells (st : St) (t : Nat) (h : t < 8) : (#[.int .u32 (wn st.a), .int .u32 (wn st.b), .int .u32 (wn st.c), .int .u32 (wn st.d), .int .u32 (wn st.e), .int .u32 (wn st.f), .int .u32 (wn st.g), .int .u32 (wn st.h)] : Array Value)[t]? = some (.int .u32 (wn (st.at t))) := by
  have : t = 0 ∨ t = 1 ∨ t = 2 ∨ t = 3 ∨ t = 4 ∨ t = 5 ∨ t = 6 ∨ t = 7 := by omega
  rcases this with rfl | rfl | rfl | rfl | rfl | rfl | rfl | rfl <;> rfl
theorem grownBy_store {w wr w' : World} {bs i : Nat} {v : Value} (h : w.grownBy wr (some bs)) (wx : World) (hx : w' = wx.setCell ⟨bs, i, none⟩ v) (hd : wr.drew = wx) : w.grownBy w' (some bs) := by
  subst hx hd
  refine ⟨h.os, h.tape, h.output, by simpa [World.setCell] using h.size, fun k hk hne => ?_⟩
  rw [Below.heap_setCell _ _ _ _ (fun e => hne (by rw [e]))]
  exact h.block k hk hne
theorem state_cells {w wr : World} {bs T n : Nat} {F : Nat → Value} {s : St} (hH : w.rowIs bs T n F) (hF : ∀ i, i < 8 → F i = .int .u32 (wn (s.at i))) (hn : 8 ≤ n) {k : Nat} (hb : Below k w wr) (hk : bs < k) :
    wr.cell? ⟨bs, 0, none⟩ = some (.int .u32 (wn s.a)) ∧ wr.cell? ⟨bs, 1, none⟩ = some (.int .u32 (wn s.b)) ∧ wr.cell? ⟨bs, 2, none⟩ = some (.int .u32 (wn s.c)) ∧ wr.cell? ⟨bs, 3, none⟩ = some (.int .u32 (wn s.d)) ∧
    wr.cell? ⟨bs, 4, none⟩ = some (.int .u32 (wn s.e)) ∧ wr.cell? ⟨bs, 5, none⟩ = some (.int .u32 (wn s.f)) ∧ wr.cell? ⟨bs, 6, none⟩ = some (.int .u32 (wn s.g)) ∧ wr.cell? ⟨bs, 7, none⟩ = some (.int .u32 (wn s.h)) := by
  have hc : ∀ i, i < 8 → wr.cell? ⟨bs, i, none⟩ = some (.int .u32 (wn (s.at i))) := fun i hi => by
    rw [hb.cell (p := ⟨bs, i, none⟩) hk, World.rowIs.cell hH (by omega), hF i hi]
  exact ⟨hc 0 (by omega), hc 1 (by omega), hc 2 (by omega), hc 3 (by omega), hc 4 (by omega), hc 5 (by omega), hc 6 (by omega), hc 7 (by omega)⟩
set_option maxRecDepth 100000 in
set_option maxHeartbeats 1000000 in
theorem mix_any (K : Nat → BitVec 32) (bs T n g o c : Nat) (F : Nat → Value) (s : St) (B : Nat → BitVec 8) (w : World) (hK : TabK K 1 w)
    (hH : w.rowIs bs T n F) (hn : 8 ≤ n) (hF : ∀ i, i < 8 → F i = .int .u32 (wn (s.at i))) (hB : bytesAt w g o 64 B) (hc : 64 ≤ c) (hc' : c ≤ 9223372036854775807) (hg : g < w.heap.size) :
    Calls Tryd.prog 80 #[.pointer (some ⟨bs, 0, none⟩), .slice (some ⟨g, o, none⟩) 64 c] w fun e w' => e = .returned (.tuple #[]) ∧
      w'.rowIs bs T n (fun i => if i < 8 then .int .u32 (wn ((mixed K s B).at i)) else F i) ∧ w.grownBy w' (some bs) := by
  have HB := Lib.hid hB
  have HF := Lib.hid hF
  have HK := Lib.hid hK
  have HH := Lib.hid hH
  have hbs := hH.lt
  clear hB hF hK hH
  go_enter Tryd.func80, Tryd.ntmps80
  go_wp2
  go_loopw [20] (fun v wr => ∃ t : Nat, t ≤ 16 ∧ v = .int .i64 t ∧ (∃ f, ringIs wr w.heap.size f ∧ ∀ i, i < t → f i = (blockWords B).getD i 0) ∧ Below w.heap.size w wr) (fun v _ => 16 - (intOf v).toNat)
  case atStart =>
    refine ⟨0, by omega, rfl, ⟨fun _ => 0, ?_, by omega⟩, (Below.refl _ _).alloc (Nat.le_refl _) _⟩
    exact ring_start w
  case round =>
    obtain ⟨t, ht, rfl, ⟨f, hr, hf⟩, hb⟩ := hrel
    have HR := Lib.hid hf
    clear hf
    by_cases hlt : t < 16
    · have c0 := (HB.out.below hb hg) (4 * t) (by omega)
      have c1 := (HB.out.below hb hg) (4 * t + 1) (by omega)
      have c2 := (HB.out.below hb hg) (4 * t + 2) (by omega)
      have c3 := (HB.out.below hb hg) (4 * t + 3) (by omega)
      have e0 : ¬ c = 4 * t := by omega
      go_wp2_with fail
      refine (word_any g (o + 4 * t) _ _ _ _ _ _ _ (by omega) c0 c1 c2 c3).mono ?_
      rintro e w1 ⟨rfl, q, rfl⟩
      have f1 := (hr.drewN q).cell hlt
      have f2 := (hr.drewN q).free t
      have hlt' : (t : Int) < 16 := by omega
      go_wp2
      go_roundw
      case rel =>
        exact ⟨t + 1, by omega, by go_num, ⟨_, (hr.drewN q).set t _ (fun _ _ => rfl), ring_step1 B f t hlt HR.out⟩, (hb.trans (below_drewN' _ _ _)).setCell (by simp) _⟩
      case measure => simp [intOf]; omega
    · have hlt' : ¬ (t : Int) < 16 := by omega
      obtain rfl : t = 16 := by omega
      obtain ⟨g0, g1, g2, g3, g4, g5, g6, g7⟩ := state_cells (HH.out) HF.out hn hb hbs
      go_wp2_with fail
      go_quiet (fail)
      obtain ⟨TT, cs, fr, hk1, hk2, hk3⟩ := HK.out
      have HK3 := Lib.hid hk3
      have hk4 : (wr.drewN nq).heap[1]? = some (.cells cs TT fr) := (hb.block 1 (heap_lt hk1)).trans hk1
      have hk5 : (Tryd.prog.info? 100).map (·.size) = some cs.size := by rw [hk2]; kernel_rfl
      have HK1 := Lib.hid hk1
      have HK2 := Lib.hid hk2
      have HK4 := Lib.hid hk4
      have HK5 := Lib.hid hk5
      clear hk3 hk1 hk2 hk4 hk5
      go_wp2_with (refine wpList_load_row rfl 100 _ rfl 1 rfl TT cs fr _ HK4.out Tryd.underlying100 rfl HK5.out ?_)
      go_loopw [6, 7, 8, 9, 10, 11, 12, 13, 64] (fun va vb vc vd ve vf vg vh v wx => ∃ t : Nat, t ≤ 64 ∧ v = .int .i64 t ∧ stIn (rounds K (blockWords B) s t) va vb vc vd ve vf vg vh ∧ (∃ f, ringIs wx w.heap.size f ∧ ringOk (blockWords B) t f) ∧ Below w.heap.size w wx) (fun _ _ _ _ _ _ _ _ v _ => 64 - (intOf v).toNat)
      case atStart =>
        exact ⟨0, by omega, rfl, ⟨rfl, rfl, rfl, rfl, rfl, rfl, rfl, rfl⟩, ⟨f, hr.drewN _, ringOk_start B f HR.out⟩, hb.trans (below_drewN' _ _ _)⟩
      case round =>
        clear hr g0 g1 g2 g3 g4 g5 g6 g7 hb
        obtain ⟨t, ht, rfl, ⟨rfl, rfl, rfl, rfl, rfl, rfl, rfl, rfl⟩, ⟨f, hr, hf⟩, hb⟩ := hrel
        have HR := Lib.hid hf
        clear hf
        generalize hst : rounds K (blockWords B) s t = st
        have HS := Lib.hid hst
        clear hst
        by_cases hlt : t < 64
        · have hlt' : (t : Int) < 64 := by omega
          have i0 := run_index_cells (P := Tryd.prog) (len := 64) (t := 100) (e := 33) (k := .u32) Tryd.underlying100 Tryd.underlying33 (by kernel_rfl) (cs := cs) (i := t) hlt (HK3.out t hlt)
          by_cases h16 : 16 ≤ t
          · obtain ⟨p0, q0, a0, b0, z0, r0⟩ := ring_place t (by omega)
            obtain ⟨p1, q1, a1, b1, z1, w1, r1⟩ := ring_place' t 1 1 rfl (by omega)
            obtain ⟨p9, q9, a9, b9, z9, w9, r9⟩ := ring_place' t 9 9 rfl (by omega)
            obtain ⟨p14, q14, a14, b14, z14, w14, r14⟩ := ring_place' t 14 14 rfl (by omega)
            have h16' : (16 : Int) ≤ t := by omega
            go_wp2_with fail
            have c0 := hr.cell (i := p0) (by omega)
            have c1 := hr.cell (i := p1) (by omega)
            have c9 := hr.cell (i := p9) (by omega)
            have c14 := hr.cell (i := p14) (by omega)
            have fz := hr.free p0
            refine wp_region_lex (fun w' => ∃ n, w' = wr.drewN n) (fun i => ([9, 21] : List Nat).contains i) 25 (by kernel_rfl) (by kernel_rfl) (⟨1, rfl⟩) ?_
            repeat (first | (refine lx_skipT (by go_big_quiet_skip; exact wpQuiet_nil trivial) (by kernel_rfl) ?_; simp only [Act.put, List.setIfInBounds_toArray, List.set_cons_succ, List.set_cons_zero]) | (refine lx_quietT rfl (by go_big_quiet_want; exact quiet_false (by assumption)) (by kernel_rfl) rfl ?_; intro Kx hKx; go_big_quiet_op; go_big_quiet_on))
            refine lx_effT rfl (by go_big_quiet_want; exact quiet_false (by assumption)) (by kernel_rfl) ?_; intro Kx hKx; go_wp2_with fail
            refine (small_any _ _ _ _ (by omega) (by omega) (by omega) _).mono ?_; rintro e w' ⟨rfl, q, rfl⟩
            go_wp2_with fail
            refine ⟨⟨_, rfl⟩, ?_⟩
            repeat (first | (refine lx_skipT (by go_big_quiet_skip; exact wpQuiet_nil trivial) (by kernel_rfl) ?_; simp only [Act.put, List.setIfInBounds_toArray, List.set_cons_succ, List.set_cons_zero]) | (refine lx_quietT rfl (by go_big_quiet_want; exact quiet_false (by assumption)) (by kernel_rfl) rfl ?_; intro Kx hKx; go_big_quiet_op; go_big_quiet_on))
            refine lx_effT rfl (by go_big_quiet_want; exact quiet_false (by assumption)) (by kernel_rfl) ?_; intro Kx hKx; go_wp2_with fail
            refine (small_any _ _ _ _ (by omega) (by omega) (by omega) _).mono ?_; rintro e w' ⟨rfl, q', rfl⟩
            go_wp2_with fail
            refine ⟨⟨_, rfl⟩, ?_⟩
            repeat (first | (refine lx_skipT (by go_big_quiet_skip; exact wpQuiet_nil trivial) (by kernel_rfl) ?_; simp only [Act.put, List.setIfInBounds_toArray, List.set_cons_succ, List.set_cons_zero]) | (refine lx_quietT rfl (by go_big_quiet_want; exact quiet_false (by assumption)) (by kernel_rfl) rfl ?_; intro Kx hKx; go_big_quiet_op; go_big_quiet_on))
            refine lx_done ?_
            go_wp2_with fail
            have hr2 := (hr.drewN (1 + q + q')).set p0 (f p0 + (rorx2s (f p1) 7 18 3 + f p9 + rorx2s (f p14) 17 19 10)) (g := fun j => if j = p0 then f p0 + (rorx2s (f p1) 7 18 3 + f p9 + rorx2s (f p14) 17 19 10) else f j) (fun _ _ => rfl)
            have hb2 := (hb.trans (below_drewN' _ _ (1 + q + q'))).setCell (p := ⟨w.heap.size, p0, none⟩) (Nat.le_refl _) (.int .u32 (wn (f p0 + (rorx2s (f p1) 7 18 3 + f p9 + rorx2s (f p14) 17 19 10))))
            have HW := Lib.hid (ring_new h16 HR.out q0 q1 q9 q14)
            go_quiet ((go_at_call 89; exact Calls.quiet_of_same (great_any _ _ _ _ (by omega) (by omega) (by omega) _)))
            go_wp2_with fail
            refine (great_any _ _ _ _ (by omega) (by omega) (by omega) _).mono ?_; rintro e w' ⟨rfl, rfl⟩
            go_wp2_with fail
            go_roundw
            case rel =>
              exact ⟨t + 1, by omega, by go_num, st_step HS.out HW.out, ⟨_, hr2.drewN _, ring_step h16 HR.out q0 HW.out⟩, hb2.trans (below_drewN' _ _ _)⟩
            case measure => simp [intOf]; omega
          · obtain ⟨p0, q0, a0, b0, z0, r0⟩ := ring_place t (by omega)
            have h16' : ¬ (16 : Int) ≤ t := by omega
            have c0 := hr.cell (i := p0) (by omega)
            go_wp2_with fail
            go_quiet ((go_at_call 89; exact Calls.quiet_of_same (great_any _ _ _ _ (by omega) (by omega) (by omega) _)))
            go_wp2_with fail
            refine (great_any _ _ _ _ (by omega) (by omega) (by omega) _).mono ?_; rintro e w' ⟨rfl, rfl⟩
            go_wp2_with fail
            go_roundw
            case rel =>
              exact ⟨t + 1, by omega, by go_num, st_step HS.out (ring_old (by omega) HR.out q0), ⟨_, hr.drewN _, ring_keep (by omega) HR.out⟩, hb.trans (below_drewN' _ _ _)⟩
            case measure => simp [intOf]; omega
        · obtain rfl : t = 64 := by omega
          have hlt' : ¬ ((64 : Nat) : Int) < 64 := by omega
          go_wp2_with fail
          go_loopw [148] (fun v wx => ∃ t : Nat, t ≤ 8 ∧ v = .int .i64 t ∧ wx.rowIs bs T n (halfMixed s st F t) ∧ w.grownBy wx (some bs)) (fun v _ => 8 - (intOf v).toNat)
          case atStart =>
            exact ⟨0, by omega, rfl, (HH.out.of_block (hb.block bs hbs)).congr (halfMixed_start HF.out), hb.os, hb.tape, hb.output, hb.size, fun k hk _ => hb.block k hk⟩
          case round =>
            clear hb hr
            obtain ⟨t, ht, rfl, hrow, hgr⟩ := hrel
            by_cases h8 : t < 8
            · have h8' : (t : Int) < 8 := by omega
              have i0 := run_index_cells (P := Tryd.prog) (len := 8) (t := 34) (e := 33) (k := .u32) Tryd.underlying34 Tryd.underlying33 (by kernel_rfl) (i := t) h8 (st_cells st t h8)
              have c0 := half_cell hrow hn h8
              have fz := World.rowIs.frozen hrow t
              go_wp2_with fail
              obtain ⟨wo, rfl⟩ : ∃ wo : World, wo = wr := ⟨_, rfl⟩
              refine wp_region_lex (fun w' => ∃ n, w' = wo.drewN n) (fun i => ([] : List Nat).contains i) 9 (by kernel_rfl) (by kernel_rfl) (⟨1, rfl⟩) ?_
              repeat (first | (refine lx_skipT (by go_big_quiet_skip; exact wpQuiet_nil trivial) (by kernel_rfl) ?_; simp only [Act.put, List.setIfInBounds_toArray, List.set_cons_succ, List.set_cons_zero]) | (refine lx_quietT rfl (by go_big_quiet_want; exact quiet_false (by assumption)) (by kernel_rfl) rfl ?_; intro Kx hKx; go_big_quiet_op; go_big_quiet_on))
              refine lx_done ?_
              go_wp2_with fail
              go_roundw
              case rel =>
                exact ⟨t + 1, by omega, by go_num, (World.rowIs.set (World.rowIs.drew hrow) t _).congr (halfMixed_step h8), grownBy_store hgr _ rfl rfl⟩
              case measure => simp [intOf]; omega
            · obtain rfl : t = 8 := by omega
              have h8' : ¬ ((8 : Nat) : Int) < 8 := by omega
              go_wp2_with fail
              go_end0
              exact ⟨rfl, hrow.congr (halfMixed_end HS.out), hgr⟩
end Go.Proofs.YtifehfcgmodmaaaDoor
