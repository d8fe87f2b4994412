/- coterielaw01.WireSplits: it answers true. -/
import Derived.Test.YtifehfcgmodmaaaDoorA8
import Derived.Test.YtifehfcgmodmaaaDoorA5
namespace Go.Proofs.YtifehfcgmodmaaaDoor
open Go Go.RowKit
theorem textsGo_err {b : List (BitVec 8)} : ∀ (N : Nat) {p : Int} {m : List (List (BitVec 8))} {r e : Int}, textsGo b N p = (m, r, e) → e ≠ 0 → m = [] ∧ r = 0
  | 0, p, m, r, e, h, he => by
    simp only [textsGo, Prod.mk.injEq] at h
    exact absurd h.2.2.symm he
  | N + 1, p, m, r, e, h, he => by
    unfold textsGo at h
    split at h
    · simp only [Prod.mk.injEq] at h
      exact ⟨h.1.symm, h.2.1.symm⟩
    · split at h
      · simp only [Prod.mk.injEq] at h
        exact ⟨h.1.symm, h.2.1.symm⟩
      · simp only [Prod.mk.injEq] at h
        exact absurd h.2.2.symm he
theorem textsGo_add {b : List (BitVec 8)} (N : Nat) : ∀ (M : Nat) {p : Int} {l : List (List (BitVec 8))} {q : Int}, textsGo b M p = (l, q, 0) → ∀ {m : List (List (BitVec 8))} {r e : Int}, textsGo b N q = (m, r, e) → textsGo b (M + N) p = if e = 0 then (l ++ m, r, 0) else ([], 0, e)
  | 0, p, l, q, h, m, r, e, h2 => by
    simp only [textsGo, Prod.mk.injEq, and_true] at h
    obtain ⟨rfl, rfl⟩ := h
    rw [Nat.zero_add, h2]
    by_cases he : e = 0
    · rw [if_pos he, he]; rfl
    · rw [if_neg he]
      have := textsGo_err N h2 he
      rw [this.1, this.2]
  | M + 1, p, l, q, h, m, r, e, h2 => by
    obtain ⟨t, q1, l1, h3, h4, rfl⟩ := textsGo_split h
    have ih := textsGo_add N M h4 h2
    rw [show M + 1 + N = (M + N) + 1 by omega]
    by_cases he : e = 0
    · rw [if_pos he] at ih ⊢
      exact textsGo_cons h3 ih
    · rw [if_neg he] at ih ⊢
      exact textsGo_bad2 h3 ih he
theorem textsGo_addbad {b : List (BitVec 8)} (N : Nat) : ∀ (M : Nat) {p : Int} {l : List (List (BitVec 8))} {q e : Int}, textsGo b M p = (l, q, e) → e ≠ 0 → textsGo b (M + N) p = ([], 0, e)
  | 0, p, l, q, e, h, he => by
    simp only [textsGo, Prod.mk.injEq] at h
    exact absurd h.2.2.symm he
  | M + 1, p, l, q, e, h, he => by
    rw [show M + 1 + N = (M + N) + 1 by omega]
    obtain ⟨t, q1, f, h1⟩ : ∃ t q1 f, takeText b p = (t, q1, f) := ⟨_, _, _, rfl⟩
    by_cases hf : f = 0
    · subst hf
      obtain ⟨m, r, g, h2⟩ : ∃ m r g, textsGo b M q1 = (m, r, g) := ⟨_, _, _, rfl⟩
      by_cases hg : g = 0
      · subst hg
        rw [textsGo_cons h1 h2] at h
        simp only [Prod.mk.injEq] at h
        exact absurd h.2.2.symm he
      · rw [textsGo_bad2 h1 h2 hg] at h
        simp only [Prod.mk.injEq] at h
        obtain ⟨-, -, rfl⟩ := h
        exact textsGo_bad2 h1 (textsGo_addbad N M h2 hg) hg
    · rw [textsGo_bad1 h1 hf] at h
      simp only [Prod.mk.injEq] at h
      obtain ⟨-, -, rfl⟩ := h
      exact textsGo_bad1 h1 hf
theorem textsGo_range {b : List (BitVec 8)} : ∀ (M : Nat) {p : Int} {l : List (List (BitVec 8))} {q : Int}, textsGo b M p = (l, q, 0) → 0 ≤ p → p ≤ b.length → 0 ≤ q ∧ q ≤ b.length
  | 0, p, l, q, h, h1, h2 => by
    simp only [textsGo, Prod.mk.injEq, and_true] at h
    obtain ⟨rfl, rfl⟩ := h
    exact ⟨h1, h2⟩
  | M + 1, p, l, q, h, h1, h2 => by
    obtain ⟨t, q1, l1, h3, h4, rfl⟩ := textsGo_split h
    have h5 := takeText_ok (b := b) (p := p) (by rw [h3])
    rw [h3] at h5
    simp only at h5
    exact textsGo_range M h4 (by omega) h5.2.2.1
/-- So many texts, and others behind them, are all at once. -/
theorem texts_split {b : List (BitVec 8)} {p : Int} {M N : Nat} {x : List (List (BitVec 8))} {j f : Int} (h : texts b p (M : Int) = (x, j, f)) :
    (f ≠ 0 → (texts b p ((M + N : Nat) : Int)).2.2 = f) ∧ (f = 0 → ∀ {y : List (List (BitVec 8))} {k g : Int}, texts b j (N : Int) = (y, k, g) → texts b p ((M + N : Nat) : Int) = if g = 0 then (x ++ y, k, 0) else ([], 0, g)) := by
  by_cases hp : p < 0 ∨ (b.length : Int) < p
  · have h0 : ∀ n : Nat, texts b p (n : Int) = ([], 0, 1) := fun n => by unfold texts; rw [if_pos (by omega)]
    rw [h0] at h
    simp only [Prod.mk.injEq] at h
    obtain ⟨rfl, rfl, rfl⟩ := h
    exact ⟨fun _ => by rw [h0], fun h => by cases h⟩
  · have h0 : ∀ n : Nat, texts b p (n : Int) = textsGo b n p := fun n => by unfold texts; rw [if_neg (by omega), Int.toNat_natCast]
    rw [h0] at h
    refine ⟨fun hf => by rw [h0, textsGo_addbad N M h hf], fun hf => ?_⟩
    subst hf
    intro y k g h2
    have hr := textsGo_range M h (by omega) (by omega)
    have h3 : texts b j (N : Int) = textsGo b N j := by unfold texts; rw [if_neg (by omega), Int.toNat_natCast]
    rw [h3] at h2
    rw [h0, textsGo_add N M h h2]
set_option maxRecDepth 100000 in
set_option maxHeartbeats 4000000 in
theorem wireSplits_any (vb : Value) (b : List (BitVec 8)) (p m n : Int) (w : World) (hb : Rd w vb (bv b)) :
    Calls Tryd.prog 15 #[vb, .int .i64 p, .int .i64 m, .int .i64 n] w fun e w' => e = .returned (.bool true) ∧ Below w.heap.size w w' := by
  have HB := Lib.hid hb
  obtain ⟨ab, cb, rfl, -, -, -, -⟩ := hb
  have HL := Lib.hid (live1_any w)
  go_enter Tryd.func15, Tryd.ntmps15
  go_wp2_with fail
  refine HL.out.mono ?_
  rintro e w1 ⟨rfl, hb1⟩
  have HB1 := Lib.hid (show Aft w w1 from hb1)
  clear hb1
  by_cases h1 : (3000 : Int) < ((bv b).length : Nat)
  · go_wp2_with fail
    go_ret
    exact ⟨rfl, HB1.out⟩
  · by_cases h2 : m < 0
    · go_wp2_with fail
      go_ret
      exact ⟨rfl, HB1.out⟩
    · by_cases h3 : n < 0
      · go_wp2_with fail
        go_ret
        exact ⟨rfl, HB1.out⟩
      · by_cases h4 : 1000 < m
        · go_wp2_with fail
          go_ret
          exact ⟨rfl, HB1.out⟩
        · by_cases h5 : 1000 < n
          · go_wp2_with fail
            go_ret
            exact ⟨rfl, HB1.out⟩
          · have hlb : b.length ≤ 3000 := by rw [bv_length] at h1; omega
            obtain ⟨M, rfl⟩ : ∃ M : Nat, m = (M : Int) := ⟨m.toNat, by omega⟩
            obtain ⟨N, rfl⟩ : ∃ N : Nat, n = (N : Int) := ⟨n.toNat, by omega⟩
            have HRb := Lib.hid (HB.out.grow HB1.out)
            have HLb := Lib.hid hlb
            have HMN := Lib.hid (show M ≤ 1000 ∧ N ≤ 1000 by omega)
            obtain ⟨x, j, f, hx⟩ : ∃ x j f, texts b p (M : Int) = (x, j, f) := ⟨_, _, _, rfl⟩
            have HSp := Lib.hid (texts_split (N := N) hx)
            have HLx := Lib.hid (show x.length ≤ 1000 by have := texts_len b p (M : Int); rw [hx] at this; simp only at this; omega)
            obtain ⟨l0, i0, e0, h0⟩ : ∃ l0 i0 e0, texts b p ((M : Int) + (N : Int)) = (l0, i0, e0) := ⟨_, _, _, rfl⟩
            have HT1 := Lib.hid (by
              have h7 := texts_any _ b p ((M : Int) + (N : Int)) w1 HRb.out (by omega) (by omega)
              rw [h0] at h7
              exact h7)
            have HT2 := Lib.hid (fun (wx : World) (h : Aft w1 wx) => by
              have h7 := texts_any _ b p (M : Int) wx (HRb.out.grow h) (by omega) (by omega)
              rw [hx] at h7
              exact h7)
            have H0 := Lib.hid (show texts b p ((M + N : Nat) : Int) = (l0, i0, e0) by rw [Int.natCast_add]; exact h0)
            clear hx h0 hlb
            go_wp2_with fail
            refine HT1.out.mono ?_
            rintro e' w2 ⟨a2, c2, rfl, hr2, hb2⟩
            have HA2 := Lib.hid (show Aft w1 w2 from hb2)
            have HR2 := Lib.hid hr2
            clear hr2 hb2
            go_wp2_with fail
            refine (HT2.out w2 HA2.out).mono ?_
            rintro e' w3 ⟨a3, c3, rfl, hr3, hb3⟩
            have HA23 := Lib.hid (show Aft w2 w3 from hb3)
            have HA3 := Lib.hid (Aft.trans HA2.out HA23.out)
            have HR3 := Lib.hid hr3
            clear hr3 hb3
            by_cases hf : f = 0
            · subst hf
              obtain ⟨y, k, g, hy⟩ : ∃ y k g, texts b j (N : Int) = (y, k, g) := ⟨_, _, _, rfl⟩
              have HE := Lib.hid (by have h8 := HSp.out.2 rfl hy; rw [H0.out] at h8; exact h8)
              have HLy := Lib.hid (show y.length ≤ 1000 by have := texts_len b j (N : Int); rw [hy] at this; simp only at this; have := HMN.out; omega)
              have HT3 := Lib.hid (by
                have h7 := texts_any _ b j (N : Int) w3 (HRb.out.grow HA3.out) (by have := HLb.out; omega) (by have := HMN.out; omega)
                rw [hy] at h7
                exact h7)
              clear hy
              go_wp2_with fail
              refine HT3.out.mono ?_
              rintro e' w4 ⟨a4, c4, rfl, hr4, hb4⟩
              have HA34 := Lib.hid (show Aft w3 w4 from hb4)
              have HA4 := Lib.hid (Aft.trans HA3.out HA34.out)
              have HR4 := Lib.hid hr4
              clear hr4 hb4
              by_cases hg : g = 0
              · subst hg
                have hq := HE.out
                rw [if_pos rfl] at hq
                simp only [Prod.mk.injEq] at hq
                obtain ⟨hl0, rfl, rfl⟩ := hq
                have HZ := Lib.hid hl0
                clear hl0
                obtain ⟨vs, v1, v2, v3⟩ := HR3.out.below HA34.out
                obtain ⟨ws, y1, y2, y3⟩ := HR4.out
                have V1 := Lib.hid v1
                have V2 := Lib.hid v2
                have V3 := Lib.hid v3
                have Y1 := Lib.hid y1
                have Y2 := Lib.hid y2
                have Y3 := Lib.hid y3
                clear v1 v2 v3 y1 y2 y3 HE
                go_wp2_with (first
                  | (at_builtin; refine wpList_append_rdG (by kernel_rfl) (.const (.slice none 0 0)) (.tmp 96) 22 rfl w4.heap.size 25 (.slice none 0 0) 24 Tryd.underlying22 info_slice rfl (.slice none 0 0) (.slice a3 x.length c3) [] vs rfl rfl (World.ownsRow_nil _ _ _ _) V1.out (RdAll.one_cell V3.out) (by have := V2.out; have := HLx.out; simp; omega) (by have := V2.out; have := HLx.out; simp; omega) (Nat.le_refl _) ?_; intro v5 w5 k1 k2; have HO5 := Lib.hid (show w5.ownsRow w4.heap.size 25 1 v5 vs.length vs by rw [List.nil_append] at k1; exact k1); have HA45 := Lib.hid (show Aft w4 w5 from (Below.refl _ _).grown k2 (Nat.le_refl _) (by simp [Value.ownBlock])); clear k1 k2)
                  | (at_builtin; refine wpList_append_rdG (by kernel_rfl) (.tmp 97) (.tmp 98) 22 rfl w4.heap.size 25 (.slice none 0 0) 24 Tryd.underlying22 info_slice rfl v5 (.slice a4 y.length c4) vs ws rfl rfl HO5.out (Y1.out.grow HA45.out) (RdAll.one_cell Y3.out) (by have := V2.out; have := HLx.out; have := Y2.out; have := HLy.out; omega) (by have := V2.out; have := HLx.out; have := Y2.out; have := HLy.out; omega) (Below.size HA45.out) ?_; intro v6 w6 k1 k2; have HA46 := Lib.hid (show Aft w4 w6 from (show Below w4.heap.size w4 w5 from HA45.out).grown k2 (Below.size HA45.out) (fun g hg => (own_lt HO5.out hg).1)); have HJ := Lib.hid (show RdAll w6 v6 l0 by rw [HZ.out]; exact RdAll.join (ps := x) (qs := y) (Rd.of_own k1) V2.out Y2.out (fun i v hv => (V3.out i v hv).grow HA46.out) (fun i v hv => (Y3.out i v hv).grow HA46.out)); clear k1 k2))
                refine (sameAll_any _ _ l0 l0 w6 (HR2.out.below (Aft.trans HA23.out (Aft.trans HA34.out HA46.out))) HJ.out (by have := HLx.out; have := HLy.out; rw [HZ.out, List.length_append]; omega)).mono ?_
                rintro e' w7 ⟨rfl, hb7⟩
                simp only [decide_true]
                have HA7 := Lib.hid (show Aft w6 w7 from hb7)
                clear hb7
                go_wp2_with fail
                go_ret
                exact ⟨by simp, Aft.trans HB1.out (Aft.trans HA4.out (Aft.trans HA46.out HA7.out))⟩
              · have hq := HE.out
                rw [if_neg hg] at hq
                simp only [Prod.mk.injEq] at hq
                obtain ⟨-, -, rfl⟩ := hq
                go_wp2_with fail
                go_ret
                exact ⟨by simp, Aft.trans HB1.out HA4.out⟩
            · have hq := HSp.out.1 hf
              rw [H0.out] at hq
              simp only at hq
              obtain rfl : e0 = f := hq
              go_wp2_with fail
              go_ret
              exact ⟨by simp, Aft.trans HB1.out HA3.out⟩
end Go.Proofs.YtifehfcgmodmaaaDoor
