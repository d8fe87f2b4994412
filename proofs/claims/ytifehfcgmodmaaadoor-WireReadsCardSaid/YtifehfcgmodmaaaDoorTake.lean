import Derived.Test.YtifehfcgmodmaaaDoorMixAll
import Derived.Test.YtifehfcgmodmaaaDoorClone
namespace Go.Proofs.YtifehfcgmodmaaaDoor
open Go Go.RowKit
/-- The cells of a sum that is not done. -/
def shaCells (s : St) (N : Nat) (vr : Value) (i : Nat) : Value := if i < 8 then .int .u32 (wn (s.at i)) else if i = 8 then .int .u64 (N : Int) else vr
theorem shaCells_low {s : St} {N : Nat} {vr : Value} (i : Nat) (h : i < 8) : shaCells s N vr i = .int .u32 (wn (s.at i)) := by unfold shaCells; rw [if_pos h]
theorem shaCells_8 (s : St) (N : Nat) (vr : Value) : shaCells s N vr 8 = .int .u64 (N : Int) := rfl
theorem shaCells_9 (s : St) (N : Nat) (vr : Value) : shaCells s N vr 9 = vr := rfl
theorem shaCells_set8 (s : St) (N M : Nat) (vr : Value) (i : Nat) (h : i < 10) : (if i = 8 then .int .u64 (M : Int) else shaCells s N vr i) = shaCells s M vr i := by
  have : i = 0 ∨ i = 1 ∨ i = 2 ∨ i = 3 ∨ i = 4 ∨ i = 5 ∨ i = 6 ∨ i = 7 ∨ i = 8 ∨ i = 9 := by omega
  rcases this with rfl | rfl | rfl | rfl | rfl | rfl | rfl | rfl | rfl | rfl <;> rfl
theorem shaCells_set9 (s : St) (N : Nat) (vr vx : Value) (i : Nat) (h : i < 10) : (if i = 9 then vx else shaCells s N vr i) = shaCells s N vx i := by
  have : i = 0 ∨ i = 1 ∨ i = 2 ∨ i = 3 ∨ i = 4 ∨ i = 5 ∨ i = 6 ∨ i = 7 ∨ i = 8 ∨ i = 9 := by omega
  rcases this with rfl | rfl | rfl | rfl | rfl | rfl | rfl | rfl | rfl | rfl <;> rfl
theorem shaCells_mixed (s s' : St) (N : Nat) (vr : Value) (i : Nat) (_h : i < 10) : (if i < 8 then .int .u32 (wn (s'.at i)) else shaCells s N vr i) = shaCells s' N vr i := by
  unfold shaCells
  split <;> rfl
/-- What a slot that holds a slice has as its length. -/
def lenV : Value → Nat | .slice _ n _ => n | _ => 0
theorem TabK_fr {K : Nat → BitVec 32} {g : Nat} {w w' : World} (h : TabK K g w) {S : Nat → Prop} (hf : Fr S w w') (hn : ¬ S g) : TabK K g w' := by
  obtain ⟨T, cs, fr, h1, h2⟩ := h
  exact ⟨T, cs, fr, (hf.block g (heap_lt h1) hn).trans h1, h2⟩
theorem bytesAt_of {w : World} {g o n : Nat} {l : List (BitVec 8)} (h : ∀ j u, (bv l)[j]? = some u → w.cell? ⟨g, o + j, none⟩ = some u) (hn : n ≤ l.length) : bytesAt w g o n (fun i => l.getD i 0) :=
  fun j hj => h j _ (bv_at l j (by omega))
/-- The blocks that a sum in progress may turn. -/
def takeS (bs : Nat) (vr : Value) (k : Nat) : Prop := k = bs ∨ vr.ownBlock = some k

def takeInv (K : Nat → BitVec 32) (bs : Nat) (s : St) (N : Nat) (vr : Value) (d : List (BitVec 8)) (w : World) (v : Value) (wr : World) : Prop :=
  ∃ k, 64 * k ≤ d.length ∧ Rd wr v (bv (d.drop (64 * k))) ∧ (∀ g, v.ownBlock = some g → bs < g) ∧ wr.rowIs bs 37 10 (shaCells (absorb K k s d) N vr) ∧ Fr (takeS bs vr) w wr
theorem takeInv_start {K : Nat → BitVec 32} {bs : Nat} {s : St} {N : Nat} {vr v : Value} {d : List (BitVec 8)} {w w1 : World} (h1 : w1.ownsRow (bs + 1) 5 1 v (bv d).length (bv d)) (hf : Fr (takeS bs vr) w w1)
    (hr : w1.rowIs bs 37 10 (shaCells s N vr)) : takeInv K bs s N vr d w v w1 :=
  ⟨0, by omega, by simpa using Rd.of_own h1, fun g hg => (own_lt h1 hg).1, hr, hf⟩
theorem takeInv_step {K : Nat → BitVec 32} {bs : Nat} {s : St} {N : Nat} {vr : Value} {d : List (BitVec 8)} {w wr w2 : World} {k g o cap : Nat} {ao : Option Addr} (hl : 64 ≤ d.length - 64 * k)
    (hr : Rd wr (.slice (some ⟨g, o, none⟩) (bv (d.drop (64 * k))).length cap) (bv (d.drop (64 * k)))) (hf : Fr (takeS bs vr) w wr) (hv : ∀ g', (Value.slice (some ⟨g, o, none⟩) (bv (d.drop (64 * k))).length cap).ownBlock = some g' → bs < g')
    (hrow : w2.rowIs bs 37 10 (fun i => if i < 8 then .int .u32 (wn ((mixed K (absorb K k s d) fun i => (d.drop (64 * k)).getD i 0).at i)) else shaCells (absorb K k s d) N vr i)) (hg : wr.drew.grownBy w2 (some bs))
    (hao : ¬ cap = 64 → ao = some ⟨g, o + 64, none⟩) (hao' : ∀ n c g', (Value.slice ao n c).ownBlock = some g' → g' = g) : takeInv K bs s N vr d w (.slice ao ((bv (d.drop (64 * k))).length - 64) (cap - 64)) w2 := by
  have hg' : wr.grownBy w2 (some bs) := ⟨hg.os, hg.tape, hg.output, hg.size, hg.block⟩
  have hxl : (bv (d.drop (64 * k))).length = d.length - 64 * k := by rw [bv_length, List.length_drop]
  have hgb : bs < g := hv g rfl
  refine ⟨k + 1, by omega, ?_, ?_, ?_, hf.trans (Fr.of_grown hg' fun k hk => .inl (by cases hk; rfl))⟩
  · have h1 := hr.drop (k := 64) (by omega) ao hao
    rw [← bv_drop, List.drop_drop, show 64 * k + 64 = 64 * (k + 1) by omega] at h1
    exact h1.grown hg' fun g' hg'' _ e => by
      have := hao' _ _ g' hg''
      simp only [Option.some.injEq] at e
      omega
  · intro g' hg''
    have := hao' _ _ g' hg''
    omega
  · rw [absorb_succ]
    exact hrow.congr fun i hi => shaCells_mixed _ _ _ _ i hi
theorem takeEnd {K : Nat → BitVec 32} {bs : Nat} {s : St} {N : Nat} {vr v' : Value} {rest b d : List (BitVec 8)} {w wr w2 : World} {k : Nat} (hd : d = rest ++ b) (h64 : d.length - 64 * k < 64) (hk : 64 * k ≤ d.length) (hf : Fr (takeS bs vr) w wr) (hbw : bs < wr.heap.size) (_hdl : d.length ≤ 140737488355328)
    (hrow : w2.rowIs bs 37 10 (shaCells (absorb K k s d) (N + (bv b).length) vr)) (ho : w2.ownsRow wr.heap.size 5 1 v' (bv (d.drop (64 * k))).length (bv (d.drop (64 * k)))) (hb : Below wr.heap.size wr w2) :
    (w2.setCell ⟨bs, 9, none⟩ v').rowIs bs 37 10 (shaCells (absorb K ((rest ++ b).length / 64) s (rest ++ b)) (N + b.length) v') ∧
      (w2.setCell ⟨bs, 9, none⟩ v').ownsRow w.heap.size 5 1 v' (bv ((rest ++ b).drop (64 * ((rest ++ b).length / 64)))).length (bv ((rest ++ b).drop (64 * ((rest ++ b).length / 64)))) ∧ Fr (takeS bs vr) w (w2.setCell ⟨bs, 9, none⟩ v') := by
  have hkn : (rest ++ b).length / 64 = k := by rw [← hd]; omega
  rw [hkn, ← hd, ← bv_length b]
  refine ⟨(World.rowIs.set hrow 9 v').congr (shaCells_set9 _ _ vr v'), ?_, (hf.trans (Fr.of_below hb)).setCell (.inl rfl) _⟩
  refine ownsRow_setCell_other (a := ⟨bs, 9, none⟩) (ownsRow_mono ho hf.size) (fun e => ?_) _
  have := (own_lt ho e).1
  simp only at this
  omega
set_option maxRecDepth 100000 in
set_option maxHeartbeats 1000000 in
theorem take_any (K : Nat → BitVec 32) (bs : Nat) (s : St) (N : Nat) (vr vb : Value) (rest b : List (BitVec 8)) (w : World) (hK : TabK K 1 w) (hg : 1 < bs)
    (hrow : w.rowIs bs 37 10 (shaCells s N vr)) (hown : w.ownsRow (bs + 1) 5 1 vr (bv rest).length (bv rest)) (hb : Rd w vb (bv b)) (hbne : ∀ g, vb.ownBlock = some g → bv b ≠ [] → g ≠ bs)
    (hN : N ≤ 1152921504606846976) (hlen : (bv rest).length + (bv b).length ≤ 140737488355328) :
    Calls Tryd.prog 60 #[.pointer (some ⟨bs, 0, none⟩), vb] w fun e w' => e = .returned (.tuple #[]) ∧ ∃ vr', w'.rowIs bs 37 10 (shaCells (absorb K ((rest ++ b).length / 64) s (rest ++ b)) (N + b.length) vr') ∧
      w'.ownsRow w.heap.size 5 1 vr' (bv ((rest ++ b).drop (64 * ((rest ++ b).length / 64)))).length (bv ((rest ++ b).drop (64 * ((rest ++ b).length / 64)))) ∧ Fr (takeS bs vr) w w' := by
  have HB := Lib.hid hb
  obtain ⟨aob, capb, rfl, b1, b2, -, -⟩ := hb
  have HK := Lib.hid hK
  have HO := Lib.hid hown
  have HR := Lib.hid hrow
  have hbs := hrow.lt
  have c8 := hrow.cell (i := 8) (by omega)
  rw [shaCells_8] at c8
  have c9 := hrow.cell (i := 9) (by omega)
  rw [shaCells_9] at c9
  have f8 := hrow.frozen 8
  have e1 : IntKind.u64.wrap (((bv b).length : Nat) : Int) = (((bv b).length : Nat) : Int) := IntWalk.u64_in _ (by omega)
  have e2 : IntKind.u64.wrap ((N : Int) + (((bv b).length : Nat) : Int)) = ((N + (bv b).length : Nat) : Int) := by rw [IntWalk.u64_in _ (by omega)]; rfl
  have hvr : ∀ g, vr.ownBlock = some g → bs + 1 ≤ g ∧ g < w.heap.size := fun g hg => own_lt hown hg
  have HO1 := Lib.hid (ownsRow_setCell_other (a := ⟨bs, 8, none⟩) hown (fun e => by have := hvr bs e; omega) (.int .u64 ((N + (bv b).length : Nat) : Int)))
  have HB1 := Lib.hid (HB.out.setCell (p := ⟨bs, 8, none⟩) hbne (.int .u64 ((N + (bv b).length : Nat) : Int)))
  have HF1 := Lib.hid (((Fr.refl (takeS bs vr) w).setCell (p := ⟨bs, 8, none⟩) (.inl rfl) (.int .u64 ((N + (bv b).length : Nat) : Int))))
  have HR1 := Lib.hid ((World.rowIs.set hrow 8 (.int .u64 ((N + (bv b).length : Nat) : Int))).congr (shaCells_set8 s N _ vr))
  have HV := Lib.hid hvr
  clear hK hown hrow hN hvr hbne
  go_enter Tryd.func60, Tryd.ntmps60
  go_wp2_with ((at_builtin; refine wpList_append_rd rfl _ _ 25 rfl (bs + 1) 5 (.int .u8 0) 1 Tryd.underlying25 info_byte rfl vr (.slice aob (bv b).length capb) (bv rest) (bv b) rfl rfl HO1.out HB1.out (bv_one b) (by omega) (by omega) (by simp; omega) ?_; intro v1 w1 k1 k2 k3))
  obtain ⟨d, hd⟩ : ∃ d, d = rest ++ b := ⟨_, rfl⟩
  have k1' : w1.ownsRow (bs + 1) 5 1 v1 (bv d).length (bv d) := by rw [hd, bv_append]; exact k1
  have k2' : (w.setCell ⟨bs, 8, none⟩ (.int .u64 ((N + (bv b).length : Nat) : Int))).grownBy w1 vr.ownBlock := k2
  have HD := Lib.hid hd
  have HI := Lib.hid (takeInv_start (s := s) (K := K) k1' (HF1.out.trans (Fr.of_grown k2' fun k hk => .inr hk)) (HR1.out.of_block (k2'.block bs (by simpa using hbs) (fun e => by have := HV.out bs e.symm; omega))))
  clear k1 k2 k3 k1' k2' hd c8 c9 f8 e1 e2
  have hdl : d.length ≤ 140737488355328 := by rw [HD.out, List.length_append, ← bv_length, ← bv_length]; exact hlen
  go_loopw [4] (fun v wr => takeInv K bs s (N + (bv b).length) vr d w v wr) (fun v _ => lenV v)
  case atStart => exact HI.out
  case round =>
    obtain ⟨k, hk, hr, hv, hrow, hfr⟩ := hrel
    have hxl : (bv (d.drop (64 * k))).length = d.length - 64 * k := by rw [bv_length, List.length_drop]
    by_cases h64 : 64 ≤ (bv (d.drop (64 * k))).length
    · have HRd := Lib.hid hr
      obtain ⟨g, o, cap, rfl, r1, r2, r3, r4⟩ := hr.at (by omega)
      have HX := Lib.hid hxl
      have hK' : TabK K 1 wr := TabK_fr HK.out hfr (fun hh => by rcases hh with hh | hh; omega; have := HV.out _ hh; omega)
      have h64' : (64 : Int) ≤ ((bv (d.drop (64 * k))).length : Nat) := by omega
      have hcap : (64 : Int) ≤ (cap : Int) := by omega
      obtain ⟨wo, rfl⟩ : ∃ wo : World, wo = wr := ⟨_, rfl⟩
      have HK' := Lib.hid (show TabK K 1 wo.drew from hK')
      have HRow := Lib.hid (World.rowIs.drew hrow)
      have HBy := Lib.hid (show bytesAt wo.drew g o 64 _ from bytesAt_of r4 (by rw [← bv_length]; exact h64))
      have HGl := Lib.hid (show g < wo.drew.heap.size from r3)
      clear r4 hxl hrow hK' hr
      by_cases hc : cap = 64
      all_goals
        go_wp2_with fail
        refine wp_region_lex (fun _ => True) (fun i => ([5] : List Nat).contains i) 6 (by kernel_rfl) (by kernel_rfl) (trivial) ?_
        repeat (first | (refine lx_skipT (by go_big_quiet_skip; exact wpQuiet_nil trivial) (by kernel_rfl) ?_; simp only [Act.put, List.setIfInBounds_toArray, List.set_cons_succ, List.set_cons_zero]) | (refine lx_quietT rfl (by go_big_quiet_want; exact quiet_false (by assumption)) (by kernel_rfl) rfl ?_; intro Kx hKx; go_big_quiet_op; go_big_quiet_on))
        refine lx_effT rfl (by go_big_quiet_want; exact quiet_false (by assumption)) (by kernel_rfl) ?_; intro Kx hKx; go_wp2_with fail
        refine (mix_any K bs 37 10 g o _ (shaCells (absorb K k s d) (N + (bv b).length) vr) (absorb K k s d) (fun i => (d.drop (64 * k)).getD i 0) wo.drew HK'.out HRow.out (by omega) shaCells_low HBy.out (by omega) (by omega) HGl.out).mono ?_
        rintro e w2 ⟨rfl, hrow2, hgr2⟩
        have HS := Lib.hid hrow2
        have HG := Lib.hid hgr2
        clear hrow2 hgr2
        go_wp2_with fail
        refine ⟨trivial, ?_⟩
        refine lx_done ?_
        go_wp2_with fail
        go_roundw
        case rel =>
          first
            | exact takeInv_step (ao := some ⟨g, o + 64, none⟩) (HX.out ▸ h64) HRd.out hfr hv HS.out HG.out (fun _ => rfl) (by intro _ _ g' hg'; simpa [Value.ownBlock] using hg'.symm)
            | (have h := takeInv_step (ao := some ⟨g, o, none⟩) (HX.out ▸ h64) HRd.out hfr hv HS.out HG.out (fun h => absurd hc h) (by intro _ _ g' hg'; simpa [Value.ownBlock] using hg'.symm)
               rw [show cap - 64 = 0 by omega] at h
               exact h)
        case measure => simp [lenV]; omega
    · have h64' : ¬ (64 : Int) ≤ ((bv (d.drop (64 * k))).length : Nat) := by omega
      have HRd := Lib.hid hr
      obtain ⟨ao, cap, rfl, r1, r2, -, -⟩ := hr
      have HX := Lib.hid hxl
      have HRow := Lib.hid hrow
      clear hxl hrow
      have hbw : bs < wr.heap.size := by have := hfr.size; omega
      obtain ⟨wo, rfl⟩ : ∃ wo : World, wo = wr := ⟨_, rfl⟩
      go_wp2_with fail
      refine (clone_any _ _ _ HRd.out (bv_one _) (by omega)).mono ?_
      rintro e w2 ⟨ao', cap', rfl, ho2, hb2⟩
      have hrow2 := HRow.out.of_block (hb2.block bs hbw)
      have c9 := World.rowIs.cell hrow2 (i := 9) (by omega)
      rw [shaCells_9] at c9
      have f9 := World.rowIs.frozen hrow2 9
      have HO2 := Lib.hid ho2
      have HB2 := Lib.hid hb2
      have HRow2 := Lib.hid hrow2
      clear ho2 hb2 hrow2
      go_wp2_with fail
      go_end0
      exact ⟨rfl, _, takeEnd HD.out (by have := HX.out; omega) hk hfr hbw hdl HRow2.out HO2.out HB2.out⟩
end Go.Proofs.YtifehfcgmodmaaaDoor
