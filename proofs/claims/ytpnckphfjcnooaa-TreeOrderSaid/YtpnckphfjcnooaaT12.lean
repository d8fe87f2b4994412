/- Whatever the order in which members came: the plain law. -/
import Derived.Test.YtpnckphfjcnooaaT11
namespace Go.Proofs.Ytpnckphfjcnooaa
theorem insE_iff {ids : List Int} {ls : List (List Int)} {id : Int} (hok : OkT ids ls) (hl : ids.length < 1000) : insE ids ls id = 0 ↔ 0 ≤ id ∧ id ≤ 1048576 ∧ id ∉ ids := by
  constructor
  · intro h
    obtain ⟨-, h1, h2, h3, -⟩ := insE_zero h
    exact ⟨h1, h2, h3⟩
  · rintro ⟨h1, h2, h3⟩
    unfold insE
    rw [if_neg (by
      rintro (q | q | q)
      · exact q hok
      · omega
      · omega), if_neg h3, if_neg (by omega)]
/-- What Build makes. -/
theorem bld_spec : ∀ (xs ids : List Int) (ls : List (List Int)), OkT ids ls → ids.length + xs.length ≤ 1000 →
    ((bld xs ids ls).1 = 0 ↔ (∀ z ∈ xs, 0 ≤ z ∧ z ≤ 1048576 ∧ z ∉ ids) ∧ xs.Nodup) ∧
    ((bld xs ids ls).1 = 0 → OkT (bld xs ids ls).2.1 (bld xs ids ls).2.2 ∧ (∀ z, z ∈ (bld xs ids ls).2.1 ↔ z ∈ ids ∨ z ∈ xs) ∧ (bld xs ids ls).2.1.length = ids.length + xs.length)
  | [], ids, ls, hok, hl => ⟨by simp [bld], fun _ => ⟨hok, fun z => by simp [bld], by simp [bld]⟩⟩
  | id :: xs, ids, ls, hok, hl => by
    rw [List.length_cons] at hl
    have hiff := insE_iff (id := id) hok (by omega)
    by_cases h : insE ids ls id = 0
    · obtain ⟨k1, k2⟩ := ins_ok h
      have hlen : (insIds ids ls id).length = ids.length + 1 := by rw [k2, insI_length]
      obtain ⟨i1, i2⟩ := bld_spec xs _ _ k1 (by omega)
      have hm : ∀ z, z ∈ insIds ids ls id ↔ z = id ∨ z ∈ ids := fun z => by rw [k2]; exact insI_mem
      obtain ⟨h1, h2, h3⟩ := hiff.1 h
      rw [bld_good h]
      refine ⟨i1.trans ⟨fun ⟨p, q⟩ => ⟨fun z hz => ?_, ?_⟩, fun ⟨p, q⟩ => ⟨fun z hz => ?_, ?_⟩⟩, fun h0 => ?_⟩
      · rcases List.mem_cons.1 hz with rfl | hz
        · exact ⟨h1, h2, h3⟩
        · obtain ⟨p1, p2, p3⟩ := p z hz
          exact ⟨p1, p2, fun hh => p3 ((hm z).2 (.inr hh))⟩
      · refine List.nodup_cons.2 ⟨fun hz => ?_, q⟩
        exact (p id hz).2.2 ((hm id).2 (.inl rfl))
      · obtain ⟨p1, p2, p3⟩ := p z (List.mem_cons_of_mem _ hz)
        refine ⟨p1, p2, fun hh => ?_⟩
        rcases (hm z).1 hh with rfl | hh
        · exact (List.nodup_cons.1 q).1 hz
        · exact p3 hh
      · exact (List.nodup_cons.1 q).2
      · obtain ⟨j1, j2, j3⟩ := i2 h0
        refine ⟨j1, fun z => (j2 z).trans ?_, by rw [j3, hlen, List.length_cons]; omega⟩
        rw [hm, List.mem_cons]
        constructor
        · rintro ((q | q) | q)
          · exact .inr (.inl q)
          · exact .inl q
          · exact .inr (.inr q)
        · rintro (q | q | q)
          · exact .inl (.inr q)
          · exact .inl (.inl q)
          · exact .inr q
    · rw [bld_bad h]
      refine ⟨⟨fun q => absurd q h, fun ⟨p, _⟩ => absurd (hiff.2 (p id (List.mem_cons_self ..))) h⟩, fun q => absurd q h⟩
/-- Another order. -/
theorem bld_perm {xs ys : List Int} (hp : xs.Perm ys) (hl : xs.length ≤ 1000) : ((bld xs [] []).1 = 0 ↔ (bld ys [] []).1 = 0) ∧ ((bld xs [] []).1 = 0 → (bld xs [] []).2.1 = (bld ys [] []).2.1) := by
  obtain ⟨a1, a2⟩ := bld_spec xs [] [] ok_empty (by simpa using hl)
  obtain ⟨b1, b2⟩ := bld_spec ys [] [] ok_empty (by have := hp.length_eq; simp; omega)
  have hiff : ((bld xs [] []).1 = 0 ↔ (bld ys [] []).1 = 0) := by
    rw [a1, b1, hp.nodup_iff]
    exact and_congr_left fun _ => ⟨fun h z hz => h z (hp.mem_iff.2 hz), fun h z hz => h z (hp.mem_iff.1 hz)⟩
  refine ⟨hiff, fun h0 => ?_⟩
  obtain ⟨o1, m1, -⟩ := a2 h0
  obtain ⟨o2, m2, -⟩ := b2 (hiff.1 h0)
  exact rise_eq o1.1.2.2 o2.1.2.2 fun z => by rw [m1, m2, hp.mem_iff]
/-- Two places changed. -/
def swp (l : List Int) (a b : Nat) : List Int := (l.set a (l.getD b 0)).set b (l.getD a 0)
theorem swp_length (l : List Int) (a b : Nat) : (swp l a b).length = l.length := by simp [swp]
theorem swp_perm (l : List Int) (a b : Nat) (ha : a < l.length) (hb : b < l.length) : (swp l a b).Perm l := by
  have h := Array.swap_perm (xs := l.toArray) (i := a) (j := b) (by simpa using ha) (by simpa using hb)
  have h2 := Array.perm_iff_toList_perm.1 h
  have h3 : (l.toArray.swap a b (by simpa using ha) (by simpa using hb)).toList = swp l a b := by
    simp [Array.swap, swp, List.getD_eq_getElem?_getD, List.getElem?_eq_getElem ha, List.getElem?_eq_getElem hb]
  rw [h3] at h2
  exact h2
end Go.Proofs.Ytpnckphfjcnooaa
