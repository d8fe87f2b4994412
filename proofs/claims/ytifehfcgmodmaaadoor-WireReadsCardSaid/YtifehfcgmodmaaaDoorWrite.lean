import Derived.Test.YtifehfcgmodmaaaDoorDone
namespace Go.Proofs.YtifehfcgmodmaaaDoor
open Go Go.RowKit
def zeroSt : St := ⟨0, 0, 0, 0, 0, 0, 0, 0⟩
/-- A sum in progress, in a block bs, what is left of it at B or above; nothing else of what was there turns. -/
def shaInv2 (K : Nat → BitVec 32) (w0 : World) (bs B : Nat) (s : St) (N : Nat) (d : List (BitVec 8)) (wr : World) : Prop :=
  ∃ vr, wr.rowIs bs 37 10 (shaCells (shaSt K s d) N vr) ∧ wr.ownsRow B 5 1 vr (bv (restOf d)).length (bv (restOf d)) ∧ Fr (fun k => k = bs ∨ B ≤ k) w0 wr
theorem shaInv2.fr {K : Nat → BitVec 32} {w0 : World} {bs B : Nat} {s : St} {N : Nat} {d : List (BitVec 8)} {wr : World} (h : shaInv2 K w0 bs B s N d wr) : Fr (fun k => k = bs ∨ B ≤ k) w0 wr := by obtain ⟨_, _, _, h⟩ := h; exact h
theorem shaInv2.step {K : Nat → BitVec 32} {w0 : World} {bs B : Nat} {s : St} {N : Nat} {d : List (BitVec 8)} {wr : World} (h : shaInv2 K w0 bs B s N d wr) (hK : TabK K 1 w0) (hg : 1 < bs) (hbB : bs < B) (hB : B ≤ w0.heap.size) {vb : Value} {b : List (BitVec 8)} (hb : Rd wr vb (bv b))
    (hvb : ∀ g, vb.ownBlock = some g → bv b ≠ [] → g ≠ bs) (hN : N ≤ 1152921504606846976) (hlen : b.length ≤ 70368744177664) :
    Calls Tryd.prog 60 #[.pointer (some ⟨bs, 0, none⟩), vb] wr fun e w' => e = .returned (.tuple #[]) ∧ shaInv2 K w0 bs B s (N + b.length) (d ++ b) w' := by
  obtain ⟨vr, h1, h2, h3⟩ := h
  have hr := restOf_length d
  obtain ⟨e1, e2⟩ := sha_step K s d b
  refine (take_any K bs (shaSt K s d) N vr vb (restOf d) b wr (TabK_fr hK h3 (fun h => by omega)) hg h1 (ownsRow_mono h2 (by omega)) hb hvb hN (by rw [bv_length, bv_length]; omega)).mono ?_
  rintro e w' ⟨rfl, vr', k1, k2, k3⟩
  rw [e1] at k1
  rw [e2] at k2
  exact ⟨rfl, vr', k1, ownsRow_mono k2 (by have := h3.size; omega), h3.trans (k3.mono (fun k _ hk => by rcases hk with hk | hk; exact .inl hk; exact .inr (own_lt h2 hk).1))⟩
/-- What Write hands back: a state, how many, what is left, and why not. -/
def wrote (K : Nat → BitVec 32) (s : St) (N : Nat) (rest all : List (BitVec 8)) : St × Nat × List (BitVec 8) × Int :=
  if chk s N (bv rest).length = 0 then (if N + all.length ≤ 1099511627776 then (shaSt K s (rest ++ all), N + all.length, restOf (rest ++ all), 0) else (zeroSt, 0, [], 4)) else (zeroSt, 0, [], 1)
def zero10 : Array Value := #[.int .u32 0, .int .u32 0, .int .u32 0, .int .u32 0, .int .u32 0, .int .u32 0, .int .u32 0, .int .u32 0, .int .u64 0, .slice none 0 0]
def writeW (s : St) (N : Nat) (vr : Value) (w : World) : World := (w.alloc (.cells (shaArr s N vr) 37)).alloc (.cells zero10 37)
theorem writeW_size (s : St) (N : Nat) (vr : Value) (w : World) : (writeW s N vr w).heap.size = w.heap.size + 2 := by simp [writeW, World.size_alloc]
theorem writeW_below (s : St) (N : Nat) (vr : Value) (w : World) : Below w.heap.size w (writeW s N vr w) := ((Below.refl _ _).alloc (Nat.le_refl _) _).alloc (by rw [World.size_alloc]; omega) _
theorem writeW_sha (s : St) (N : Nat) (vr : Value) (w : World) : (writeW s N vr w).rowIs w.heap.size 37 10 (shaCells s N vr) :=
  (shaRow s N vr w).of_block (Below.heap_alloc _ _ _ (by rw [World.size_alloc]; omega))
theorem wpList_store_sha {ops : Array Oper} {rest : List Oper} {o : Oper} {a : Act} {w : World} {Q : Exit → Act → World → Prop} (hgd : o.guard = none) (x y : Operand) (ho : o.op = .store 37 x y)
    (g : Nat) (cs : Array Value) (hx : a.eval x = .pointer (some ⟨g, 0, none⟩)) (hy : a.eval y = .agg cs) (hcs : cs.size = 10) (h1 : cs.all (·.oneCell') = true) (old : Array Value) (hold : old.size = 10)
    (hg : w.heap[g]? = some (.cells old 37 (0, 0)))
    (h : ∀ w', Hid (w'.heap[g]? = some (.cells cs 37 (0, 0))) → (∀ k w0, k ≤ g → Below k w0 w → Below k w0 w') → Hid (∀ k, k ≠ g → w'.heap[k]? = w.heap[k]?) → wpList Tryd.prog ops Q rest (a.put o.dst undef) w') : wpList Tryd.prog ops Q (o :: rest) a w :=
  wpList_store_row hgd _ x y ho g cs hx hy _ old hg (by rw [hcs]; kernel_rfl) (by rw [hold, hcs]) h1 (h _ (show _ = _ from setRow_heap _ _ _ _ _ _ hg) (fun _ _ hk hb => below_setRow hb hk _) (show _ from fun k hk => setRow_other w g k _ hk))
theorem shaInv2.start (K : Nat → BitVec 32) {w : World} {bs B : Nat} {s : St} {N : Nat} {d : List (BitVec 8)} {vr : Value} (hd : d.length < 64) (h1 : w.rowIs bs 37 10 (shaCells s N vr)) (h2 : w.ownsRow B 5 1 vr (bv d).length (bv d)) : shaInv2 K w bs B s N d w := by
  obtain ⟨e1, e2⟩ := shaSt_short K s d hd
  exact ⟨vr, by rw [e1]; exact h1, by rw [e2]; exact h2, Fr.refl _ _⟩
set_option maxRecDepth 100000 in
set_option maxHeartbeats 1000000 in
theorem write_any (K : Nat → BitVec 32) (s : St) (N : Nat) (vr vp : Value) (rest : List (BitVec 8)) (ps : List (List (BitVec 8))) (w : World) (hK : TabK K 1 w) (hrd : Rd w vr (bv rest)) (hp : RdAll w vp ps)
    (hN : N < 18446744073709551616) (hlen : rest.length ≤ 1099511627776) (hps : ps.flatten.length ≤ 1099511627776) :
    Calls Tryd.prog 27 #[.agg #[.int .u32 (wn s.a), .int .u32 (wn s.b), .int .u32 (wn s.c), .int .u32 (wn s.d), .int .u32 (wn s.e), .int .u32 (wn s.f), .int .u32 (wn s.g), .int .u32 (wn s.h), .int .u64 (N : Int), vr], vp] w fun e w' =>
      ∃ st N' rs er vr', (st, N', rs, er) = wrote K s N rest ps.flatten ∧ e = .returned (.tuple #[.agg #[.int .u32 (wn st.a), .int .u32 (wn st.b), .int .u32 (wn st.c), .int .u32 (wn st.d), .int .u32 (wn st.e), .int .u32 (wn st.f), .int .u32 (wn st.g), .int .u32 (wn st.h), .int .u64 (N' : Int), vr'], .int .i64 er]) ∧
        w'.ownsRow w.heap.size 5 1 vr' (bv rs).length (bv rs) ∧ Below w.heap.size w w' := by
  have HR := Lib.hid hrd
  have HK := Lib.hid hK
  have HP := Lib.hid hp
  obtain ⟨ao, cap, rfl, -, -, -, -⟩ := hrd
  obtain ⟨aop, capp, rfl, hcapp⟩ := hp.shape
  have HC := Lib.hid (fun w => check_any s N (bv rest).length cap ao w hN (by rw [bv_length]; exact hlen))
  clear hK
  go_enter Tryd.func27, Tryd.ntmps27
  go_wp2_with fail
  refine (HC.out _).mono ?_
  rintro e w1 ⟨rfl, hb1⟩
  change Below (writeW s N (.slice ao (bv rest).length cap) w).heap.size (writeW s N (.slice ao (bv rest).length cap) w) w1 at hb1
  have hb2 := (writeW_below s N (.slice ao (bv rest).length cap) w).trans (hb1.mono (by rw [writeW_size]; omega))
  have hout1 : w1.heap[w.heap.size + 1]? = some (.cells zero10 37 (0, 0)) := (hb1.block _ (by rw [writeW_size]; omega)).trans (heap_alloc2_new w _ _)
  have h1 := (writeW_sha s N (.slice ao (bv rest).length cap) w).of_block (hb1.block w.heap.size (by rw [writeW_size]; omega))
  have HB := Lib.hid hb2
  have HO := Lib.hid hout1
  have hlt1 : w.heap.size + 1 < w1.heap.size := heap_lt hout1
  have hs10 : (Tryd.prog.info? 37).map (·.size) = some zero10.size := by kernel_rfl
  rcases chk_cases s N (bv rest).length with hc | hc
  · have g8 := h1.cell (i := 8) (by omega)
    rw [shaCells_8] at g8
    have hN2 := chk_N hc
    have HS := Lib.hid h1
    have HP1 := Lib.hid (HP.out.below hb2)
    clear h1 hb1 hb2 hout1
    go_wp2_with fail
    go_loopw [7, 22] (fun v7 v22 wr => ∃ i : Nat, i ≤ ps.length ∧ v7 = .int .u64 ((N + (ps.take i).flatten.length : Nat) : Int) ∧ v22 = .int .i64 i ∧ wr = w1) (fun _ v _ => ps.length - (intOf v).toNat)
    case atStart => exact ⟨0, by omega, by simp, rfl, rfl⟩
    case round =>
      obtain ⟨i, hi, rfl, rfl, rfl⟩ := hrel
      have hfl := flatten_take_le ps i
      by_cases hlt : i < ps.length
      · obtain ⟨g, o, cap', u, hvv, hcc, hu⟩ := HP1.out.cell hlt
        cases hvv
        have hfl2 := getD_flatten_le ps i hlt
        generalize hpp : ps.getD i [] = p at hu hfl2
        obtain ⟨au, cu, rfl, -, -, -, -⟩ := hu
        have hbl := bv_length p
        have HPP := Lib.hid hpp
        clear hpp
        have hlt' : (i : Int) < (ps.length : Nat) := by omega
        generalize hL : (ps.take i).flatten.length = L at hfl hfl2 ⊢
        generalize hM : (bv p).length = M at hbl hcc ⊢
        have HL := Lib.hid hL
        have HM := Lib.hid hM
        clear hL hM
        rw [← hbl] at hfl2
        go_wp2_with fail
        go_roundw
        case rel =>
          refine ⟨i + 1, by omega, ?_, by go_num, trivial⟩
          rw [flatten_take_succ ps i hlt, HPP.out, List.length_append, HL.out, ← bv_length p, HM.out]
          go_num
        case measure => simp [intOf]; omega
      · obtain rfl : i = ps.length := by omega
        have hlt' : ¬ ((ps.length : Nat) : Int) < (ps.length : Nat) := by omega
        rw [List.take_length]
        obtain ⟨d, hd⟩ : ∃ d, d = ps.flatten := ⟨_, rfl⟩
        rw [← hd]
        have hdl : d.length ≤ 1099511627776 := by rw [hd]; exact hps
        by_cases hover : N + d.length ≤ 1099511627776
        · have hover' : ¬ (1099511627776 : Int) < ((N + d.length : Nat) : Int) := by omega
          have g9 := HS.out.cell (i := 9) (by omega)
          rw [shaCells_9] at g9
          have f9 := HS.out.frozen 9
          have HR1 := Lib.hid (HR.out.grow HB.out)
          have HD := Lib.hid hd
          clear hd hfl hi
          go_wp2_with fail
          refine (clone_any _ _ _ HR1.out (bv_one _) (by rw [bv_length]; omega)).mono ?_
          rintro e w2 ⟨ao2, cap2, rfl, ho2, hb2⟩
          have hsha2 := HS.out.of_block (hb2.block w.heap.size (by omega))
          have g9 := World.rowIs.cell hsha2 (i := 9) (by omega)
          rw [shaCells_9] at g9
          have f9 := World.rowIs.frozen hsha2 9
          have hN64 := (chk_ok hc).2.1
          rw [bv_length] at hN64
          have hown3 : (w2.setCell ⟨w.heap.size, 9, none⟩ (.slice ao2 (bv rest).length cap2)).ownsRow wr.heap.size 5 1 (.slice ao2 (bv rest).length cap2) (bv rest).length (bv rest) :=
            ownsRow_setCell_other (a := ⟨w.heap.size, 9, none⟩) ho2 (fun e => by have := (own_lt ho2 e).1; simp only at this; omega) _
          have hrow3 : (w2.setCell ⟨w.heap.size, 9, none⟩ (.slice ao2 (bv rest).length cap2)).rowIs w.heap.size 37 10 (shaCells s N (.slice ao2 (bv rest).length cap2)) :=
            (World.rowIs.set hsha2 9 _).congr (shaCells_set9 s N _ _)
          have hb3 : Below w.heap.size w (w2.setCell ⟨w.heap.size, 9, none⟩ (.slice ao2 (bv rest).length cap2)) := (HB.out.trans (hb2.mono (by omega))).setCell (Nat.le_refl _) _
          have hout3 : (w2.setCell ⟨w.heap.size, 9, none⟩ (.slice ao2 (bv rest).length cap2)).heap[w.heap.size + 1]? = some (.cells zero10 37 (0, 0)) := by
            rw [Below.heap_setCell _ _ _ _ (by simp), hb2.block _ (by omega)]
            exact HO.out
          have hsz3 : wr.heap.size ≤ (w2.setCell ⟨w.heap.size, 9, none⟩ (.slice ao2 (bv rest).length cap2)).heap.size := by have := hb2.size; simpa using this
          obtain ⟨w3, hw3⟩ : ∃ w3, w3 = w2.setCell ⟨w.heap.size, 9, none⟩ (.slice ao2 (bv rest).length cap2) := ⟨_, rfl⟩
          rw [← hw3] at hown3 hrow3 hb3 hout3 hsz3
          have HI := Lib.hid (shaInv2.start K (by omega) hrow3 hown3)
          have HK3 := Lib.hid (TabK_fr HK.out (Fr.of_below (S := fun _ => False) hb3) (fun h => h))
          have hg : 1 < w.heap.size := by obtain ⟨_, cs, fr, h1, _⟩ := HK.out; exact heap_lt h1
          have HB3 := Lib.hid hb3
          have HO3 := Lib.hid hout3
          have HW3 := Lib.hid hw3
          clear hown3 hrow3 hb3 hout3 hsha2 ho2 hb2 hw3
          go_wp2_with fail
          rw [← HW3.out]
          have hbs : w.heap.size < wr.heap.size := by omega
          have HI0 := Lib.hid (show shaInv2 K w3 w.heap.size wr.heap.size s (N + (ps.take 0).flatten.length) (rest ++ (ps.take 0).flatten) w3 by simpa using HI.out)
          generalize hB : wr.heap.size = B at hsz3 hbs hlt1 HI0
          have HBw := Lib.hid hB
          clear hB HI
          go_loopw [41] (fun v wx => ∃ i : Nat, i ≤ ps.length ∧ v = .int .i64 i ∧ shaInv2 K w3 w.heap.size B s (N + (ps.take i).flatten.length) (rest ++ (ps.take i).flatten) wx) (fun v _ => ps.length - (intOf v).toNat)
          case atStart => exact ⟨0, by omega, rfl, HI0.out⟩
          case round =>
            obtain ⟨i, hi, rfl, hv⟩ := hrel
            have hfl := flatten_take_le ps i
            have hfr := hv.fr
            have hbw := HB3.out.trans (hfr.below (B := w.heap.size) (by omega) (fun k hk => by rcases hk with hk | hk <;> omega))
            by_cases hlt : i < ps.length
            · obtain ⟨g, o, cap', u, hvv, hcc, hu⟩ := (HP.out.below hbw).cell hlt
              cases hvv
              have hfl2 := getD_flatten_le ps i hlt
              have hu1 : ∀ g, u.ownBlock = some g → bv (ps.getD i []) ≠ [] → g ≠ w.heap.size := fun g hg hx => by have := HP.out.elem_lt hbw hlt rfl hcc g hg hx; omega
              have HT := Lib.hid (hv.step HK3.out hg hbs hsz3 hu hu1 (by omega) (by omega))
              clear hv hu hu1 hfr
              have hlt' : (i : Int) < (ps.length : Nat) := by omega
              go_wp2_with fail
              refine HT.out.mono ?_
              rintro e w5 ⟨rfl, hi2⟩
              have HI2 := Lib.hid hi2
              clear hi2
              go_wp2_with fail
              go_roundw
              case rel => exact ⟨i + 1, by omega, by go_num, by rw [flatten_take_succ ps i hlt, List.length_append, ← Nat.add_assoc, ← List.append_assoc]; exact HI2.out⟩
              case measure => simp [intOf]; omega
            · obtain rfl : i = ps.length := by omega
              have hlt' : ¬ ((ps.length : Nat) : Int) < (ps.length : Nat) := by omega
              rw [List.take_length, ← HD.out] at hv
              obtain ⟨vr, h1, h2, h3⟩ := hv
              have HE : Hid ((shaSt K s (rest ++ d), N + d.length, restOf (rest ++ d), (0 : Int)) = wrote K s N rest ps.flatten) := by
                show _ = _
                unfold wrote; rw [if_pos hc, ← HD.out, if_pos hover]
              have hout5 : wr.heap[w.heap.size + 1]? = some (.cells zero10 37 (0, 0)) := (h3.block _ (heap_lt HO3.out) (by omega)).trans HO3.out
              generalize shaSt K s (rest ++ d) = st at h1 HE
              generalize restOf (rest ++ d) = rs at h2 HE
              generalize N + d.length = N' at h1 HE
              obtain ⟨g0, g1, g2, g3, g4, g5, g6, g7⟩ := state_cells h1 shaCells_low (by omega) (Below.refl (w.heap.size + 1) wr) (by omega)
              have g8 := h1.cell (i := 8) (by omega)
              rw [shaCells_8] at g8
              have g9 := h1.cell (i := 9) (by omega)
              rw [shaCells_9] at g9
              have HO5 := Lib.hid hout5
              have HV := Lib.hid h2
              have HBw := Lib.hid hbw
              clear hout5 h1 h2 h3 hbw hfr hfl
              have hal : (#[.int .u32 (wn st.a), .int .u32 (wn st.b), .int .u32 (wn st.c), .int .u32 (wn st.d), .int .u32 (wn st.e), .int .u32 (wn st.f), .int .u32 (wn st.g), .int .u32 (wn st.h), .int .u64 (N' : Int), vr] : Array Value).all (·.oneCell') = true := by
                obtain ⟨a1, c1, rfl⟩ := own_shape HV.out
                kernel_rfl
              go_wp2_with ((refine wpList_store_sha rfl (.tmp 4) (.tmp 48) rfl (w.heap.size + 1) #[.int .u32 (wn st.a), .int .u32 (wn st.b), .int .u32 (wn st.c), .int .u32 (wn st.d), .int .u32 (wn st.e), .int .u32 (wn st.f), .int .u32 (wn st.g), .int .u32 (wn st.h), .int .u64 (N' : Int), vr] rfl rfl rfl hal zero10 rfl HO5.out ?_; intro w6 q2 q3 q4))
              refine bodyPost_ret (results_cell_tmp rfl _ _ (w.heap.size + 1) 37 #[.int .u32 (wn st.a), .int .u32 (wn st.b), .int .u32 (wn st.c), .int .u32 (wn st.d), .int .u32 (wn st.e), .int .u32 (wn st.f), .int .u32 (wn st.g), .int .u32 (wn st.h), .int .u64 (N' : Int), vr] (0, 0) _ rfl q2.out Tryd.underlying37 rfl hs10) rfl ?_
              have hown6 : w6.ownsRow w.heap.size 5 1 vr (bv rs).length (bv rs) := ownsRow_mono (ownsRow_below HV.out (fun g hg => q4.out g (by have := (own_lt HV.out hg).1; omega))) (by omega)
              exact ⟨st, N', rs, 0, HE.out, vr, rfl, hown6, q3 _ _ (by omega) HBw.out⟩
        · have hover' : (1099511627776 : Int) < ((N + d.length : Nat) : Int) := by omega
          have HD := Lib.hid hd
          clear hd hfl hi
          go_wp2_with ((refine wpList_store_sha rfl (.tmp 4) (.tmp 34) rfl (w.heap.size + 1) zero10 rfl rfl rfl (by kernel_rfl) zero10 rfl HO.out ?_; intro w3 q2 q3 _))
          refine bodyPost_ret (results_cell_tmp rfl _ _ (w.heap.size + 1) 37 zero10 (0, 0) _ rfl q2.out Tryd.underlying37 rfl hs10) rfl ?_
          have hw : (zeroSt, 0, [], (4 : Int)) = wrote K s N rest ps.flatten := by unfold wrote; rw [if_pos hc, ← HD.out, if_neg hover]
          exact ⟨zeroSt, 0, [], 4, hw, .slice none 0 0, rfl, World.ownsRow_nil _ _ _ _, q3 _ _ (by omega) HB.out⟩
  · have hx := HO.out
    go_wp2_with ((refine wpList_store_sha rfl (.tmp 4) (.tmp 16) rfl (w.heap.size + 1) zero10 rfl rfl rfl (by kernel_rfl) zero10 rfl HO.out ?_; intro w3 q2 q3 _))
    refine bodyPost_ret (results_cell_tmp rfl _ _ (w.heap.size + 1) 37 zero10 (0, 0) _ rfl q2.out Tryd.underlying37 rfl hs10) rfl ?_
    have hw : (zeroSt, 0, [], (1 : Int)) = wrote K s N rest ps.flatten := by unfold wrote; rw [if_neg (by rw [hc]; decide)]
    exact ⟨zeroSt, 0, [], 1, .slice none 0 0, hw, rfl, World.ownsRow_nil _ _ _ _, q3 _ _ (by omega) HB.out⟩
end Go.Proofs.YtifehfcgmodmaaaDoor
