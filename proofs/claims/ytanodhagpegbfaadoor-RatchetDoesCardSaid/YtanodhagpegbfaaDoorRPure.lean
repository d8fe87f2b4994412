/- What Next, Take and Ahead answer, one by the other: no program in sight. -/
import Derived.Test.YtanodhagpegbfaaDoorRTake
namespace Go.Proofs.YtanodhagpegbfaaDoor
open Go Go.RowKit
theorem ahE_self (G : Nat) (zs : List Sk) : ahE G zs G = rnE G zs := by
  unfold ahE rnE
  by_cases h : chkE G zs = 0
  · have h1 := (chkE_zero h).1
    have hn : ¬ chkE G zs ≠ 0 := fun q => q h
    rw [if_neg hn, if_neg (Nat.lt_irrefl G), if_neg hn]
    by_cases h2 : G = 4294967296
    · rw [if_pos (by omega), if_pos h2]
    · rw [if_neg (by omega), if_neg (by omega), if_neg h2]
  · rw [if_pos h, if_pos h]
theorem ahN_self (G : Nat) (zs : List Sk) : ahN G zs G = 0 := by
  unfold ahN
  split
  · omega
  · rfl
theorem tkE_self (G : Nat) (zs : List Sk) : tkE G zs G = rnE G zs := by
  unfold tkE
  rw [ahE_self]
  by_cases h : rnE G zs = 0
  · rw [if_neg (by simp [h]), if_neg (by omega), h]
  · rw [if_pos h]
theorem tkK_self (C : List (BitVec 8)) (G : Nat) (zs : List Sk) : tkK C G zs G = rnK C G zs := by
  unfold tkK rnK
  rw [tkE_self]
  by_cases h : rnE G zs = 0
  · rw [if_neg (by simp [h]), if_neg (by omega), if_pos h, Nat.sub_self]
    rfl
  · rw [if_pos h, if_neg h]
theorem tkC_self (C : List (BitVec 8)) (G : Nat) (zs : List Sk) : tkC C G zs G = rnC C G zs := by
  unfold tkC rnC
  rw [tkE_self]
  by_cases h : rnE G zs = 0
  · rw [if_neg (by simp [h]), if_neg (by omega), if_pos h, Nat.sub_self]
    rfl
  · rw [if_pos h, if_neg h]
theorem tkG_self (G : Nat) (zs : List Sk) : tkG G zs G = rnG G zs := by
  unfold tkG rnG
  rw [tkE_self]
  by_cases h : rnE G zs = 0
  · rw [if_neg (by simp [h]), if_neg (by omega), if_pos h]
  · rw [if_pos h, if_neg h]
theorem tkZ_self (C : List (BitVec 8)) (G : Nat) (zs : List Sk) : tkZ C G zs G = rnZ G zs := by
  unfold tkZ rnZ
  rw [tkE_self]
  by_cases h : rnE G zs = 0
  · rw [if_neg (by simp [h]), if_neg (by omega), if_pos h, Nat.sub_self]
    simp [pasZ]
  · rw [if_pos h, if_neg h]
theorem okB_mono : ∀ (gs : List Nat) (b b' : Nat), b ≤ b' → okB b gs = true → okB b' gs = true
  | [], _, _, _, _ => rfl
  | g :: gs, b, b', hb, h => by
    rw [okB, Bool.and_eq_true, decide_eq_true_eq] at h
    rw [okB, Bool.and_eq_true, decide_eq_true_eq]
    exact ⟨by omega, h.2⟩
theorem okB_pas (C : List (BitVec 8)) (G : Nat) (zs : List Sk) (h : okB G ((zs.map (·.1.1)).reverse) = true) : ∀ n, G + n < 18446744073709551616 → okB (G + n) (((zs ++ pasZ C G n).map (·.1.1)).reverse) = true
  | 0, _ => by simpa [pasZ] using h
  | n + 1, hn => by
    have ih := okB_pas C G zs h n (by omega)
    rw [pasZ_succ, ← List.append_assoc, List.map_append, List.reverse_append]
    show okB (G + (n + 1)) ((mkS (G + n) (kyA C n)).1.1 :: ((zs ++ pasZ C G n).map (·.1.1)).reverse) = true
    rw [mkS_val (by omega) (kyA_length C n), okB, ih, Bool.and_true]
    exact decide_eq_true (by omega)
/-- Where Take does not refuse. -/
theorem tkE_zero {G : Nat} {zs : List Sk} {t : Nat} (h : tkE G zs t = 0) : ahE G zs t = 0 ∧ (t < G → 0 ≤ ixS t zs) := by
  unfold tkE at h
  split at h
  · rename_i h'
    exact absurd h h'
  · rename_i h'
    refine ⟨by simpa using h', fun hl => ?_⟩
    split at h
    · cases h
    · rename_i h2
      omega
theorem tkE_bad {G : Nat} {zs : List Sk} {t : Nat} (h : tkE G zs t ≠ 0) : ahE G zs t = tkE G zs t ∨ ahE G zs t = 0 ∧ tkE G zs t = 9 := by
  unfold tkE at h ⊢
  split
  · exact .inl rfl
  · rename_i h'
    rw [if_neg h'] at h
    split at h
    · rename_i h2
      rw [if_pos h2]
      exact .inr ⟨by simpa using h', rfl⟩
    · exact absurd rfl h
theorem ahE_zero {G : Nat} {zs : List Sk} {t : Nat} (h : ahE G zs t = 0) : chkE G zs = 0 ∧ (G ≤ t → t < 4294967296 ∧ zs.length + (t - G) ≤ 1024) := by
  unfold ahE at h
  split at h
  · cases h
  · rename_i hc
    have hc0 : chkE G zs = 0 := by simpa using hc
    refine ⟨hc0, fun hle => ?_⟩
    rw [if_neg (show ¬ t < G by omega)] at h
    split at h
    · cases h
    · split at h
      · cases h
      · have := chkE_zero hc0
        omega
theorem ixS_lt {t : Nat} {zs : List Sk} (h : 0 ≤ ixS t zs) : ixN t zs < zs.length ∧ (zs[ixN t zs]?.getD default).1.1 = t := by
  rcases hx : zs.findIdx? (fun x => x.1.1 == t) with _ | i
  · have : ixS t zs = -1 := by unfold ixS; rw [hx]
    omega
  · have hi : ixS t zs = (i : Int) := by unfold ixS; rw [hx]
    obtain ⟨h1, h2, -⟩ := List.findIdx?_eq_some_iff_getElem.1 hx
    unfold ixN
    rw [hi, Int.toNat_natCast, List.getElem?_eq_getElem h1]
    exact ⟨h1, by simpa using h2⟩
theorem left_down {C : List (BitVec 8)} {G : Nat} {zs : List Sk} {t : Nat} (h : tkE G zs t = 0) (hl : t < G) : (tkZ C G zs t).length + 1 = zs.length ∧ tkG G zs t = G ∧ tkC C G zs t = C := by
  have h0 : ¬ tkE G zs t ≠ 0 := fun q => q h
  have hi := (ixS_lt ((tkE_zero h).2 hl)).1
  unfold tkZ tkG tkC
  rw [if_neg h0, if_neg h0, if_neg h0, if_pos hl, if_pos hl, if_pos hl, List.length_eraseIdx_of_lt hi]
  exact ⟨by omega, rfl, rfl⟩
theorem left_up {C : List (BitVec 8)} {G : Nat} {zs : List Sk} {t : Nat} (h : tkE G zs t = 0) (hl : G ≤ t) : (tkZ C G zs t).length = zs.length + ahN G zs t ∧ tkG G zs t = t + 1 ∧ t < 4294967296 ∧ (tkZ C G zs t).length ≤ 1024 ∧ chkE (t + 1) (tkZ C G zs t) = 0 := by
  have h0 : ¬ tkE G zs t ≠ 0 := fun q => q h
  have h1 : ¬ t < G := by omega
  have ha := (tkE_zero h).1
  obtain ⟨hc, hx⟩ := ahE_zero ha
  obtain ⟨ht, hlen⟩ := hx hl
  obtain ⟨c1, c2, c3⟩ := chkE_zero hc
  have hZ : tkZ C G zs t = zs ++ pasZ C G (t - G) := by
    unfold tkZ
    rw [if_neg h0, if_neg h1]
  have hN : ahN G zs t = t - G := if_pos ⟨ha, hl⟩
  have hL : (zs ++ pasZ C G (t - G)).length = zs.length + (t - G) := by rw [List.length_append, pasZ_length]
  rw [hZ, hN, hL]
  refine ⟨rfl, ?_, ht, hlen, ?_⟩
  · unfold tkG
    rw [if_neg h0, if_neg h1]
  · unfold chkE
    rw [if_pos ⟨by omega, by omega, okB_mono _ _ _ (by omega) (okB_pas C G zs c3 (t - G) (by omega))⟩]
theorem rnE_zero {G : Nat} {zs : List Sk} (h : rnE G zs = 0) : chkE G zs = 0 ∧ G < 4294967296 := by
  unfold rnE at h
  split at h
  · cases h
  · rename_i hc
    have hc0 : chkE G zs = 0 := by simpa using hc
    split at h
    · cases h
    · have := chkE_zero hc0
      exact ⟨hc0, by omega⟩
end Go.Proofs.YtanodhagpegbfaaDoor
