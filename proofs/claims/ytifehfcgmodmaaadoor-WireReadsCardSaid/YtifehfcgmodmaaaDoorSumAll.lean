import Derived.Test.YtifehfcgmodmaaaDoorSum
namespace Go.Proofs.YtifehfcgmodmaaaDoor
open Go Go.RowKit
/-- The sum at once. -/
def digest (K : Nat → BitVec 32) (d : List (BitVec 8)) : List (BitVec 8) := finKey K (shaSt K iv d) d.length (restOf d)
/-- A sum in progress, in a block of its own, behind the bytes d (those that it began with among them). -/
def shaInv (K : Nat → BitVec 32) (w0 : World) (bs : Nat) (s : St) (N : Nat) (d : List (BitVec 8)) (wr : World) : Prop :=
  ∃ vr, wr.rowIs bs 37 10 (shaCells (shaSt K s d) N vr) ∧ wr.ownsRow (bs + 1) 5 1 vr (bv (restOf d)).length (bv (restOf d)) ∧ Below w0.heap.size w0 wr
theorem shaInv.step {K : Nat → BitVec 32} {w0 : World} {bs : Nat} {s : St} {N : Nat} {d : List (BitVec 8)} {wr : World} (h : shaInv K w0 bs s N d wr) (hK : TabK K 1 w0) (hbs : w0.heap.size ≤ bs) {vb : Value} {b : List (BitVec 8)} (hb : Rd wr vb (bv b))
    (hvb : ∀ g, vb.ownBlock = some g → bv b ≠ [] → g < w0.heap.size) (hN : N ≤ 1152921504606846976) (hlen : b.length ≤ 70368744177664) :
    Calls Tryd.prog 60 #[.pointer (some ⟨bs, 0, none⟩), vb] wr fun e w' => e = .returned (.tuple #[]) ∧ shaInv K w0 bs s (N + b.length) (d ++ b) w' := by
  obtain ⟨vr, h1, h2, h3⟩ := h
  have hr := restOf_length d
  obtain ⟨e1, e2⟩ := sha_step K s d b
  have hg : 1 < w0.heap.size := by obtain ⟨_, cs, fr, h1, _⟩ := hK; exact heap_lt h1
  refine (take_any K bs (shaSt K s d) N vr vb (restOf d) b wr (TabK_fr hK (Fr.of_below (S := fun _ => False) h3) (fun h => h)) (by omega) h1 h2 hb (fun g hg hx => by have := hvb g hg hx; omega) hN (by rw [bv_length, bv_length]; omega)).mono ?_
  rintro e w' ⟨rfl, vr', k1, k2, k3⟩
  rw [e1] at k1
  rw [e2] at k2
  exact ⟨rfl, vr', k1, ownsRow_mono k2 (by have := h1.lt; omega), h3.trans (k3.below h3.size (fun k hk => by rcases hk with hk | hk; omega; have := (own_lt h2 hk).1; omega))⟩
theorem shaInv.below {K : Nat → BitVec 32} {w0 : World} {bs : Nat} {s : St} {N : Nat} {d : List (BitVec 8)} {wr : World} (h : shaInv K w0 bs s N d wr) : Below w0.heap.size w0 wr := by
  obtain ⟨_, _, _, h⟩ := h; exact h
theorem shaInv.start (K : Nat → BitVec 32) (s : St) (w : World) : shaInv K w w.heap.size s 0 [] (w.alloc (.cells #[.int .u32 (wn s.a), .int .u32 (wn s.b), .int .u32 (wn s.c), .int .u32 (wn s.d), .int .u32 (wn s.e), .int .u32 (wn s.f), .int .u32 (wn s.g), .int .u32 (wn s.h), .int .u64 0, .slice none 0 0] 37)) :=
  ⟨.slice none 0 0, by rw [(shaSt_short K s [] (by simp)).1]; exact shaRow s 0 (.slice none 0 0) w, World.ownsRow_nil _ _ _ _, (Below.refl _ _).alloc (Nat.le_refl _) _⟩
theorem RdAll.elem_lt {w wr : World} {ao : Option Addr} {n cap : Nat} {ps : List (List (BitVec 8))} (h : RdAll w (.slice ao n cap) ps) (hb : Below w.heap.size w wr) {i g o : Nat} (hi : i < ps.length) {u : Value} (hao : ao = some ⟨g, o, none⟩) (hc : wr.cell? ⟨g, o + i, none⟩ = some u) :
    ∀ g, u.ownBlock = some g → bv (ps.getD i []) ≠ [] → g < w.heap.size := by
  obtain ⟨g', o', cap', u', hv, hc', hu'⟩ := h.cell hi
  subst hao
  cases hv
  have := hb.cell (p := ⟨g, o + i, none⟩) (World.block_lt_of_cell? w _ hc')
  rw [hc, hc'] at this
  cases this
  exact fun g hg hx => hu'.lt hg hx
theorem keyBytes_length (s : St) : (keyBytes s).length = 32 := keyPart_low s 8
theorem digest_length (K : Nat → BitVec 32) (d : List (BitVec 8)) : (digest K d).length = 32 := keyBytes_length _
theorem store_key {w : World} {b : Nat} (l : List (BitVec 8)) {n : Nat} (hl : l.length = n) {cur : Array Value} (hg : w.heap[b]? = some (.cells cur 28 (0, 0))) (hc : cur.size = n := by rfl) :
    ∃ w', (storeCells ⟨b, 0, none⟩ (bv l)).run Tryd.prog w = .ok () w' ∧ w'.heap[b]? = some (.cells (bv l).toArray 28 (0, 0)) ∧ ∀ k w0, k ≤ b → Below k w0 w → Below k w0 w' := by
  have h := run_storeCells_at Tryd.prog b 0 _ (bv l) 0 cur w hg (by rw [bv_length]; omega) (bv_one l)
  have e : (cur.toList.take (0 + 0) ++ bv l ++ cur.toList.drop (0 + 0 + (bv l).length)).toArray = (bv l).toArray := by
    rw [List.drop_of_length_le (by rw [bv_length, Array.length_toList]; omega)]; simp
  rw [e] at h
  exact ⟨_, h, setRow_heap _ _ _ _ _ _ hg, fun k w0 hk hb => below_setRow hb hk _⟩
set_option maxRecDepth 100000 in
set_option maxHeartbeats 1000000 in
theorem sum_any (K : Nat → BitVec 32) (vp : Value) (ps : List (List (BitVec 8))) (w : World) (hK : TabK K 1 w) (hp : RdAll w vp ps) (hlen : ps.flatten.length ≤ 1099511627776) :
    Calls Tryd.prog 22 #[vp] w fun e w' => e = .returned (.agg (bv (digest K ps.flatten)).toArray) ∧ Below w.heap.size w w' := by
  have HK := Lib.hid hK
  have HP := Lib.hid hp
  obtain ⟨ao, cap, rfl, hcap⟩ := hp.shape
  clear hK hp
  go_enter Tryd.func22, Tryd.ntmps22
  go_wp2_with fail
  refine (new_any' _).mono ?_
  rintro e w1 ⟨rfl, hb1⟩
  go_wp2_with fail
  have hb1' : Below w.heap.size w w1 := ((Below.refl _ _).alloc (Nat.le_refl _) _).trans (hb1.mono (by rw [World.size_alloc]; omega))
  have hout1 : w1.heap[w.heap.size]? = some (.cells key0 28 (0, 0)) := (hb1.block w.heap.size (by rw [World.size_alloc]; omega)).trans (heap_alloc_new w _)
  have HO1 := Lib.hid hout1
  have HB1 := Lib.hid hb1'
  have HK1 := Lib.hid (TabK_fr HK.out (Fr.of_below (S := fun _ => False) hb1') (fun h => h))
  have HP1 := Lib.hid (HP.out.below hb1')
  have hlt1 : w.heap.size < w1.heap.size := heap_lt hout1
  clear hb1 hb1' hout1
  have HI := Lib.hid (shaInv.start K iv w1)
  go_loopw [9] (fun v wr => ∃ i : Nat, i ≤ ps.length ∧ v = .int .i64 i ∧ shaInv K w1 w1.heap.size iv (ps.take i).flatten.length (ps.take i).flatten wr) (fun v _ => ps.length - (intOf v).toNat)
  case atStart => exact ⟨0, by omega, rfl, HI.out⟩
  case round =>
    obtain ⟨i, hi, rfl, hv⟩ := hrel
    have hfl := flatten_take_le ps i
    have hbw := hv.below
    by_cases hlt : i < ps.length
    · obtain ⟨g, o, cap', u, hvv, hc, hu⟩ := (HP1.out.below hbw).cell hlt
      cases hvv
      have hfl2 := getD_flatten_le ps i hlt
      have hu1 : ∀ g, u.ownBlock = some g → bv (ps.getD i []) ≠ [] → g < w1.heap.size := HP1.out.elem_lt hbw hlt rfl hc
      have HT := Lib.hid (hv.step HK1.out (Nat.le_refl _) hu hu1 (by omega) (by omega))
      have HV := Lib.hid hv
      clear hv hu hu1
      have hlt' : (i : Int) < (ps.length : Nat) := by omega
      go_wp2_with fail
      refine HT.out.mono ?_
      rintro e w2 ⟨rfl, hi2⟩
      have HI2 := Lib.hid hi2
      clear hi2
      go_wp2_with fail
      go_roundw
      case rel => exact ⟨i + 1, by omega, by go_num, by rw [flatten_take_succ ps i hlt, List.length_append]; exact HI2.out⟩
      case measure => simp [intOf]; omega
    · obtain rfl : i = ps.length := by omega
      have hlt' : ¬ ((ps.length : Nat) : Int) < (ps.length : Nat) := by omega
      rw [List.take_length] at hv
      obtain ⟨d, hd⟩ : ∃ d, d = ps.flatten := ⟨_, rfl⟩
      rw [← hd] at hv hlen
      have HD := Lib.hid hd
      clear hd hfl
      obtain ⟨vr, h1, h2, h3⟩ := hv
      have HF0 := finish_any K (shaSt K iv d) d.length vr (restOf d) wr (TabK_fr HK1.out (Fr.of_below (S := fun _ => False) h3) (fun h => h)) (Rd.of_own h2) (by omega) (by have := restOf_length d; omega)
      have HG : Hid (finKey K (shaSt K iv d) d.length (restOf d) = digest K d) := rfl
      clear h2
      generalize shaSt K iv d = st at h1 HF0 HG
      generalize restOf d = rs at HF0 HG
      generalize d.length = N at h1 HF0 HG hlen
      obtain ⟨g0, g1, g2, g3, g4, g5, g6, g7⟩ := state_cells h1 shaCells_low (by omega) (Below.refl (w1.heap.size + 1) wr) (by omega)
      have g8 := h1.cell (i := 8) (by omega)
      rw [shaCells_8] at g8
      have g9 := h1.cell (i := 9) (by omega)
      rw [shaCells_9] at g9
      rw [HG.out] at HF0
      generalize hx : digest K d = X at HF0
      have hxl : X.length = 32 := by rw [← hx]; exact digest_length K d
      have HF := Lib.hid HF0
      have HX := Lib.hid hx
      clear HF0 HG hx
      have HO := Lib.hid ((h3.block _ hlt1).trans HO1.out)
      have HB := Lib.hid (HB1.out.trans (h3.mono (by omega)))
      have hsz := h3.size
      clear h1 h3
      go_wp2_with fail
      refine HF.out.mono ?_
      rintro e w2 ⟨rfl, hb2⟩
      obtain ⟨w3, q1, q2, q3⟩ := store_key (w := w2) (b := w.heap.size) X hxl ((hb2.block _ (by omega)).trans HO.out)
      have HO3 := Lib.hid q2
      have HB3 := Lib.hid (q3 w.heap.size w (Nat.le_refl _) (HB.out.trans (hb2.mono (by omega))))
      have hsz8 : (Tryd.prog.info? 28).map (·.size) = some (bv X).toArray.size := by rw [List.size_toArray, bv_length, hxl]; kernel_rfl
      have hxb : (bv X).length = 32 := by rw [bv_length]; exact hxl
      clear q2 q3 hb2
      go_wp2_with fail
      refine bodyPost_ret (results_cell_row rfl _ _ w.heap.size 28 (bv X).toArray (0, 0) _ rfl HO3.out Tryd.underlying28 rfl hsz8) rfl ?_
      exact ⟨by rw [← HX.out, HD.out], HB3.out⟩
end Go.Proofs.YtifehfcgmodmaaaDoor
