/- coterielaw01.WireStands: it answers true. -/
import Derived.Test.YtifehfcgmodmaaaDoorA8
namespace Go.Proofs.YtifehfcgmodmaaaDoor
open Go Go.RowKit
theorem beL_snoc : ∀ k m : Nat, beL (k + 1) m = beL k (m / 256) ++ [BitVec.ofNat 8 m]
  | 0, m => by simp [beL]
  | k + 1, m => by
    rw [beL, beL_snoc k m, beL, List.cons_append, Nat.div_div_eq_div_mul, Nat.pow_succ, Nat.mul_comm 256]
theorem beL_beN : ∀ x : List (BitVec 8), beL x.length (beN x) = x := by
  intro x
  generalize hn : x.length = n
  induction n generalizing x with
  | zero => rw [List.eq_nil_of_length_eq_zero hn]; rfl
  | succ n ih =>
    obtain ⟨m, c, rfl⟩ : ∃ m c, x = m ++ [c] := ⟨x.dropLast, x.getLast (by intro h; simp [h] at hn), (List.dropLast_concat_getLast _).symm⟩
    have hm : m.length = n := by simpa using hn
    have hc := c.isLt
    rw [beL_snoc, beN_snoc, show (beN m * 256 + c.toNat) / 256 = beN m by omega, ih m hm]
    congr 2
    apply BitVec.eq_of_toNat_eq
    rw [BitVec.toNat_ofNat]
    omega
/-- A number that is read, written, is what stood there. -/
theorem num_stood {b : List (BitVec 8)} {p W : Int} {n : Nat} {i : Int} (h : takeNum b p W = (n, i, 0)) : ∃ P U : Nat, p = (P : Int) ∧ W = (U : Int) ∧ i = ((P + U : Nat) : Int) ∧ P + U ≤ b.length ∧ n < 18446744073709551616 ∧ numOk W [n] = true ∧ numB [] W [n] = (b.drop P).take U := by
  obtain ⟨h1, h2, h3, h4⟩ := takeNum_ok (b := b) (p := p) (W := W) (by rw [h])
  unfold takeNum at h
  rw [if_neg (by omega), if_neg (by omega)] at h
  simp only [Prod.mk.injEq, and_true] at h
  obtain ⟨rfl, rfl⟩ := h
  obtain ⟨P, rfl⟩ : ∃ P : Nat, p = (P : Int) := ⟨p.toNat, by omega⟩
  obtain ⟨U, rfl⟩ : ∃ U : Nat, W = (U : Int) := ⟨W.toNat, by omega⟩
  rw [Int.toNat_natCast, Int.toNat_natCast]
  have hl : ((b.drop P).take U).length = U := by rw [List.length_take, List.length_drop]; omega
  have hlt := beN_lt ((b.drop P).take U)
  have hb := beL_beN ((b.drop P).take U)
  rw [hl] at hlt hb
  have ok : numOk (U : Int) [beN ((b.drop P).take U)] = true := by unfold numOk overB fitsB; rw [decide_eq_true h2, decide_eq_true h3, Int.toNat_natCast]; simp [hlt]
  refine ⟨P, U, rfl, rfl, rfl, by omega, ?_, ok, ?_⟩
  · have := Nat.pow_le_pow_right (n := 256) (by omega) (show U ≤ 8 by omega)
    omega
  · unfold numB; rw [if_pos ok, Int.toNat_natCast]; simp [numsB, hb]
theorem takeText_err {b : List (BitVec 8)} {p : Int} {t : List (BitVec 8)} {k e : Int} (h : takeText b p = (t, k, e)) (he : e ≠ 0) : t = [] := by
  obtain ⟨n, q, f, hn⟩ : ∃ n q f, takeNum b p 2 = (n, q, f) := ⟨_, _, _, rfl⟩
  by_cases hf : f = 0
  · subst hf
    by_cases hs : (b.length : Int) - q < n
    · rw [takeText_short hn hs] at h
      simp only [Prod.mk.injEq] at h
      exact h.1.symm
    · rw [takeText_good hn hs] at h
      simp only [Prod.mk.injEq] at h
      exact absurd h.2.2.symm he
  · rw [takeText_bad hn hf] at h
    simp only [Prod.mk.injEq] at h
    exact h.1.symm
theorem takeText_parts {b : List (BitVec 8)} {p : Int} {t : List (BitVec 8)} {k : Int} (h : takeText b p = (t, k, 0)) : ∃ P : Nat, p = (P : Int) ∧ k = ((P + 2 + t.length : Nat) : Int) ∧ P + 2 + t.length ≤ b.length ∧ t.length = beN ((b.drop P).take 2) ∧ t = (b.drop (P + 2)).take t.length := by
  obtain ⟨n, q, f, hn⟩ : ∃ n q f, takeNum b p 2 = (n, q, f) := ⟨_, _, _, rfl⟩
  by_cases hf : f = 0
  · subst hf
    obtain ⟨h1, rfl, h3, h4⟩ := takeNum2 hn
    by_cases hs : (b.length : Int) - (p + 2) < n
    · rw [takeText_short hn hs] at h
      simp at h
    · rw [takeText_good hn hs] at h
      simp only [Prod.mk.injEq, and_true] at h
      obtain ⟨rfl, rfl⟩ := h
      obtain ⟨P, rfl⟩ : ∃ P : Nat, p = (P : Int) := ⟨p.toNat, by omega⟩
      have hN : n = beN ((b.drop P).take 2) := by
        unfold takeNum at hn
        rw [if_neg (by omega), if_neg (by omega)] at hn
        simp only [Prod.mk.injEq, Int.toNat_natCast] at hn
        exact hn.1.symm
      have hq : ((P : Int) + 2).toNat = P + 2 := by omega
      rw [hq]
      have hl : ((b.drop (P + 2)).take n).length = n := by rw [List.length_take, List.length_drop]; omega
      exact ⟨P, rfl, by rw [hl]; omega, by rw [hl]; omega, by rw [hl]; exact hN, by rw [hl]⟩
  · rw [takeText_bad hn hf] at h
    simp only [Prod.mk.injEq] at h
    exact absurd h.2.2 hf
theorem text_stood {b : List (BitVec 8)} {P : Nat} {t : List (BitVec 8)} (h2 : P + 2 + t.length ≤ b.length) (h3 : t.length = beN ((b.drop P).take 2)) (h4 : t = (b.drop (P + 2)).take t.length) : beL 2 t.length ++ t = (b.drop P).take (2 + t.length) := by
  have hl : ((b.drop P).take 2).length = 2 := by rw [List.length_take, List.length_drop]; omega
  have hb := beL_beN ((b.drop P).take 2)
  rw [hl, ← h3] at hb
  rw [List.take_add, hb, List.drop_drop]
  congr 1
theorem text_cut {b : List (BitVec 8)} {P : Nat} {t : List (BitVec 8)} (h2 : P + 2 + t.length ≤ b.length) (h3 : t.length = beN ((b.drop P).take 2)) : takeText (b.take (P + 2 + t.length - 1)) (P : Int) = ([], 0, 2) := by
  have hl : (b.take (P + 2 + t.length - 1)).length = P + 1 + t.length := by rw [List.length_take]; omega
  by_cases h0 : t.length = 0
  · have hn : takeNum (b.take (P + 2 + t.length - 1)) (P : Int) 2 = (0, 0, 2) := by
      unfold takeNum
      rw [hl, if_neg (by omega), if_pos (by omega)]
    exact takeText_bad hn (by decide)
  · have hd : ((b.take (P + 2 + t.length - 1)).drop P).take 2 = (b.drop P).take 2 := by
      rw [List.drop_take, List.take_take, Nat.min_eq_left (by omega)]
    have hn : takeNum (b.take (P + 2 + t.length - 1)) (P : Int) 2 = (t.length, (P : Int) + 2, 0) := by
      unfold takeNum
      rw [hl, if_neg (by omega), if_neg (by omega), Int.toNat_natCast, show Int.toNat 2 = 2 from rfl, hd, ← h3]
    exact takeText_short hn (by rw [hl]; omega)
set_option maxRecDepth 100000 in
theorem run_cutTo {ao : Option Addr} {len cap n : Nat} (h : n ≤ cap) (wx : World) : (Instr.slice 25 (.slice ao len cap) none (some (.int .i64 (n : Int))) none).run Tryd.prog wx = .ok (.slice ao n cap) wx := by
  obtain ⟨iB, hiB, -⟩ := info_parts info_byte
  have := cut_to (P := Tryd.prog) (ao := ao) (len := len) (cap := cap) (n := n) Tryd.underlying25 h wx hiB
  rw [run_sliceAt_slice wx 25 _ _ _ _ Tryd.underlying25] at this
  exact this
set_option maxRecDepth 100000 in
set_option maxHeartbeats 4000000 in
theorem wireStands_any (vb : Value) (b : List (BitVec 8)) (p W : Int) (w : World) (hb : Rd w vb (bv b)) :
    Calls Tryd.prog 14 #[vb, .int .i64 p, .int .i64 W] w fun e w' => e = .returned (.bool true) ∧ Below w.heap.size w w' := by
  have HB := Lib.hid hb
  obtain ⟨ab, cb, rfl, -, -, -, -⟩ := hb
  have HL := Lib.hid (live1_any w)
  go_enter Tryd.func14, Tryd.ntmps14
  go_wp2_with fail
  refine HL.out.mono ?_
  rintro e w1 ⟨rfl, hb1⟩
  have HB1 := Lib.hid (show Aft w w1 from hb1)
  clear hb1
  by_cases h1 : (3000 : Int) < ((bv b).length : Nat)
  · go_wp2_with fail
    go_ret
    exact ⟨rfl, HB1.out⟩
  · have hlb : b.length ≤ 3000 := by rw [bv_length] at h1; omega
    have HRb := Lib.hid (HB.out.grow HB1.out)
    have HLb := Lib.hid hlb
    obtain ⟨n, i, e, hn⟩ : ∃ n i e, takeNum b p W = (n, i, e) := ⟨_, _, _, rfl⟩
    have hT1 := takeNum_any _ b p W w1 HRb.out (by omega)
    rw [hn] at hT1
    unfold tnV at hT1
    have HT1 := Lib.hid hT1
    obtain ⟨t, k, g, ht⟩ : ∃ t k g, takeText b p = (t, k, g) := ⟨_, _, _, rfl⟩
    have HT3 := Lib.hid (fun (wx : World) (h : Aft w1 wx) => by
      have h4 := takeText_any _ b p wx (HRb.out.grow h) (by omega)
      rw [ht] at h4
      exact h4)
    have HTt := Lib.hid ht
    have HTn := Lib.hid hn
    clear hn hT1 ht
    go_wp2_with fail
    refine HT1.out.mono ?_
    rintro e' w1x ⟨rfl, hw1⟩
    obtain rfl : w1x = w1 := hw1
    by_cases he : e = 0
    · subst he
      obtain ⟨P, U, rfl, rfl, rfl, hle, hn64, ok, nb⟩ := num_stood HTn.out
      have ne0 : numErr (U : Int) [n] = 0 := by unfold numErr; rw [if_pos ok]
      have hN := num_any (.slice none 0 0) _ [] (U : Int) [n] _ (Rd.nil _) (rd_num w1x n) (by simpa using hn64) (by simp) (by simp)
      unfold NumSays at hN
      rw [ne0, nb] at hN
      have HN := Lib.hid hN
      obtain ⟨ax, hcut, hrd⟩ := cut_lh HRb.out hle (P : Int) ((P + U : Nat) : Int) rfl rfl
      have HRx := Lib.hid hrd
      have hI1 : ¬ ((P + U : Nat) : Int) < (P : Int) := by omega
      have hbl := bv_length b
      have hI2 : ¬ ((bv b).length : Int) < ((P + U : Nat) : Int) := by omega
      clear hN hrd ne0 nb ok hbl
      generalize (b.drop P).take U = X at *
      generalize ((P + U : Nat) : Int) = I at *
      go_wp2_with fail
      refine HN.out.mono ?_
      rintro e' w2 ⟨a2, c2, rfl, ho2, hb2⟩
      have HA2 := Lib.hid (show Aft w1x w2 from Aft.trans (Aft.alloc w1x _) hb2)
      have HR2 := Lib.hid (Rd.of_own ho2)
      clear ho2 hb2
      go_wp2_with fail
      refine (same_any _ _ X X w2 HR2.out (HRx.out.grow HA2.out)).mono ?_
      rintro e' w3 ⟨rfl, rfl⟩
      simp only [decide_true]
      clear hcut
      go_wp2_with fail
      refine (HT3.out w3 (HA2.out)).mono ?_
      rintro e' wt ⟨at2, ct2, rfl, hot, hbt⟩
      have HAt := Lib.hid (show Aft w3 wt from hbt)
      have HRt := Lib.hid (Rd.of_own hot)
      clear hot hbt
      by_cases hg : g = 0
      · subst hg
        obtain ⟨P2, hP, rfl, h2, h3, h4⟩ := takeText_parts HTt.out
        obtain rfl : P2 = P := by omega
        have HSt := Lib.hid (text_stood h2 h3 h4)
        have HCt := Lib.hid (text_cut h2 h3)
        have htl : t.length ≤ 65535 := by
          have h9 := takeText_ok (b := b) (p := (P2 : Int)) (by rw [HTt.out])
          rw [HTt.out] at h9
          exact h9.2.2.2
        have ok1 : textOk [t] = true := by simp [textOk, htl]
        have tb1 : textB [] [t] = beL 2 t.length ++ t := by unfold textB; rw [if_pos ok1]; simp [textsB]
        have te1 : textErr [t] = 0 := by unfold textErr; rw [if_pos ok1]
        have hall := RdAll.one wt (.slice at2 (bv t).length ct2) t 25 HRt.out
        have hT := text_any (.slice none 0 0) _ [] [t] _ (Rd.nil _) hall (by simp) (by simp)
        unfold TextSays at hT
        rw [tb1, te1, HSt.out] at hT
        have HT := Lib.hid hT
        have HAw := Lib.hid (show Aft w wt from Aft.trans (Aft.trans HB1.out HA2.out) HAt.out)
        obtain ⟨ax2, hcut2, hrd2⟩ := cut_lh (n := 2 + t.length) (HB.out.grow HAw.out) (show P2 + (2 + t.length) ≤ b.length by omega) (P2 : Int) ((P2 + 2 + t.length : Nat) : Int) rfl (by omega)
        have hct := fun wx => run_cutTo (ao := ab) (len := (bv b).length) (cap := cb) (n := P2 + 2 + t.length - 1) (by have := HB.out.sl; rw [bv_length] at this; omega) wx
        rw [show ((P2 + 2 + t.length - 1 : Nat) : Int) = ((P2 + 2 + t.length : Nat) : Int) - 1 by omega] at hct
        have hrd3 := HB.out.to (n := P2 + 2 + t.length - 1) (by rw [bv_length]; omega)
        rw [← bv_take] at hrd3
        have HR3 := Lib.hid hrd3
        have HR2 := Lib.hid hrd2
        have hK1 : ¬ ((P2 + 2 + t.length : Nat) : Int) < (P2 : Int) := by omega
        have hbl := bv_length b
        have hK2 : ¬ ((bv b).length : Int) < ((P2 + 2 + t.length : Nat) : Int) := by omega
        have hK3 : ((P2 + 2 + t.length : Nat) : Int) ≤ 4000 := by omega
        have hK4 : (2 : Int) ≤ ((P2 + 2 + t.length : Nat) : Int) := by omega
        clear hT hall ok1 tb1 te1 htl h2 h3 h4 hrd2 hrd3 hbl HSt
        generalize (b.drop P2).take (2 + t.length) = Y at *
        generalize hKK : ((P2 + 2 + t.length : Nat) : Int) = K at *
        generalize P2 + 2 + t.length - 1 = K1 at *
        generalize 2 + t.length = K0 at *
        clear hKK
        go_wp2_with fail
        refine HT.out.mono ?_
        rintro e' wu ⟨au, cu, rfl, hou, hbu⟩
        have HAu := Lib.hid (show Aft wt wu from Aft.trans (Aft.alloc wt _) hbu)
        have HRu := Lib.hid (Rd.of_own hou)
        clear hou hbu
        go_wp2_with fail
        refine (same_any _ _ Y Y wu HRu.out (HR2.out.grow HAu.out)).mono ?_
        rintro e' wv ⟨rfl, rfl⟩
        simp only [decide_true]
        have HAv := Lib.hid (Aft.trans HAw.out HAu.out)
        have hT4 := takeText_any (.slice ab K1 cb) (b.take K1) (P2 : Int) wv (HR3.out.grow HAv.out) (by rw [List.length_take]; have := HLb.out; omega)
        rw [HCt.out] at hT4
        have HT4 := Lib.hid hT4
        clear hT4
        go_wp2_with fail
        refine HT4.out.mono ?_
        rintro e' wq ⟨aq, cq, rfl, -, hbq⟩
        have HQ := Lib.hid (Aft.trans HAv.out (show Aft wv wq from hbq))
        clear hbq
        go_wp2_with fail
        go_ret
        exact ⟨rfl, HQ.out⟩
      · obtain rfl := takeText_err HTt.out hg
        go_wp2_with fail
        go_ret
        exact ⟨rfl, Aft.trans (Aft.trans HB1.out HA2.out) HAt.out⟩
    · skip
      go_wp2_with fail
      refine (HT3.out w1x (Aft.refl _)).mono ?_
      rintro e' wt ⟨at2, ct2, rfl, hot, hbt⟩
      have HAt := Lib.hid (show Aft w1x wt from hbt)
      have HRt := Lib.hid (Rd.of_own hot)
      clear hot hbt
      by_cases hg : g = 0
      · subst hg
        obtain ⟨P2, hP, rfl, h2, h3, h4⟩ := takeText_parts HTt.out
        subst hP
        have HSt := Lib.hid (text_stood h2 h3 h4)
        have HCt := Lib.hid (text_cut h2 h3)
        have htl : t.length ≤ 65535 := by
          have h9 := takeText_ok (b := b) (p := (P2 : Int)) (by rw [HTt.out])
          rw [HTt.out] at h9
          exact h9.2.2.2
        have ok1 : textOk [t] = true := by simp [textOk, htl]
        have tb1 : textB [] [t] = beL 2 t.length ++ t := by unfold textB; rw [if_pos ok1]; simp [textsB]
        have te1 : textErr [t] = 0 := by unfold textErr; rw [if_pos ok1]
        have hall := RdAll.one wt (.slice at2 (bv t).length ct2) t 25 HRt.out
        have hT := text_any (.slice none 0 0) _ [] [t] _ (Rd.nil _) hall (by simp) (by simp)
        unfold TextSays at hT
        rw [tb1, te1, HSt.out] at hT
        have HT := Lib.hid hT
        have HAw := Lib.hid (show Aft w wt from Aft.trans (HB1.out) HAt.out)
        obtain ⟨ax2, hcut2, hrd2⟩ := cut_lh (n := 2 + t.length) (HB.out.grow HAw.out) (show P2 + (2 + t.length) ≤ b.length by omega) (P2 : Int) ((P2 + 2 + t.length : Nat) : Int) rfl (by omega)
        have hct := fun wx => run_cutTo (ao := ab) (len := (bv b).length) (cap := cb) (n := P2 + 2 + t.length - 1) (by have := HB.out.sl; rw [bv_length] at this; omega) wx
        rw [show ((P2 + 2 + t.length - 1 : Nat) : Int) = ((P2 + 2 + t.length : Nat) : Int) - 1 by omega] at hct
        have hrd3 := HB.out.to (n := P2 + 2 + t.length - 1) (by rw [bv_length]; omega)
        rw [← bv_take] at hrd3
        have HR3 := Lib.hid hrd3
        have HR2 := Lib.hid hrd2
        have hK1 : ¬ ((P2 + 2 + t.length : Nat) : Int) < (P2 : Int) := by omega
        have hbl := bv_length b
        have hK2 : ¬ ((bv b).length : Int) < ((P2 + 2 + t.length : Nat) : Int) := by omega
        have hK3 : ((P2 + 2 + t.length : Nat) : Int) ≤ 4000 := by omega
        have hK4 : (2 : Int) ≤ ((P2 + 2 + t.length : Nat) : Int) := by omega
        clear hT hall ok1 tb1 te1 htl h2 h3 h4 hrd2 hrd3 hbl HSt
        generalize (b.drop P2).take (2 + t.length) = Y at *
        generalize hKK : ((P2 + 2 + t.length : Nat) : Int) = K at *
        generalize P2 + 2 + t.length - 1 = K1 at *
        generalize 2 + t.length = K0 at *
        clear hKK
        go_wp2_with fail
        refine HT.out.mono ?_
        rintro e' wu ⟨au, cu, rfl, hou, hbu⟩
        have HAu := Lib.hid (show Aft wt wu from Aft.trans (Aft.alloc wt _) hbu)
        have HRu := Lib.hid (Rd.of_own hou)
        clear hou hbu
        go_wp2_with fail
        refine (same_any _ _ Y Y wu HRu.out (HR2.out.grow HAu.out)).mono ?_
        rintro e' wv ⟨rfl, rfl⟩
        simp only [decide_true]
        have HAv := Lib.hid (Aft.trans HAw.out HAu.out)
        have hT4 := takeText_any (.slice ab K1 cb) (b.take K1) (P2 : Int) wv (HR3.out.grow HAv.out) (by rw [List.length_take]; have := HLb.out; omega)
        rw [HCt.out] at hT4
        have HT4 := Lib.hid hT4
        clear hT4
        go_wp2_with fail
        refine HT4.out.mono ?_
        rintro e' wq ⟨aq, cq, rfl, -, hbq⟩
        have HQ := Lib.hid (Aft.trans HAv.out (show Aft wv wq from hbq))
        clear hbq
        go_wp2_with fail
        go_ret
        exact ⟨rfl, HQ.out⟩
      · obtain rfl := takeText_err HTt.out hg
        go_wp2_with fail
        go_ret
        exact ⟨rfl, Aft.trans (HB1.out) HAt.out⟩
end Go.Proofs.YtifehfcgmodmaaaDoor
