/- TagWay, plainly: the way from a member's leaf. -/
import Derived.Test.YtdbhlajajdlmfaaDoorV7
namespace Go.Proofs.YtdbhlajajdlmfaaDoor
open Go Go.RowKit
theorem memI_spec {ids : List Int} {id : Int} {N : List Nd} {i : Nat} (h : memI ids id N = (i : Int)) : i < N.length ∧ isMem ids id (N.getD i nd0) = true := by
  unfold memI at h
  split at h
  · rename_i k hk
    obtain ⟨h1, h2, h3⟩ := List.findIdx?_eq_some_iff_getElem.1 hk
    have e : k = i := by omega
    subst e
    refine ⟨h1, ?_⟩
    rw [List.getD_eq_getElem?_getD, List.getElem?_eq_getElem h1]
    exact h2
  · omega
theorem leafI_spec {at' : Int} {N : List Nd} {i : Nat} (h : leafI at' N = (i : Int)) : i < N.length ∧ isLeaf at' (N.getD i nd0) = true := by
  unfold leafI at h
  split at h
  · rename_i k hk
    obtain ⟨h1, h2, h3⟩ := List.findIdx?_eq_some_iff_getElem.1 hk
    have e : k = i := by omega
    subst e
    refine ⟨h1, ?_⟩
    rw [List.getD_eq_getElem?_getD, List.getElem?_eq_getElem h1]
    exact h2
  · omega
theorem way13 {kind : Int} {ids : List Int} {ls : List (List Int)} {id : Int} {i : Nat} (hm : mayE kind ids ls = 0) (h : memI ids id (nodesL kind ids ls) = (i : Int)) :
    i < (nodesL kind ids ls).length ∧ ((nodesL kind ids ls).getD i nd0).lv = 0 ∧ rpathE kind ids ls id = 0 ∧ WaySpec (nodesL kind ids ls) i (rpathW kind ids ls id) := by
  obtain ⟨-, hok⟩ := mayE_zero.1 hm
  obtain ⟨h1, h2⟩ := memI_spec h
  have ht := nodes_trf (kind := kind) hok
  unfold isMem at h2
  rw [Bool.and_eq_true] at h2
  have hz : ((nodesL kind ids ls).getD i nd0).lv = 0 := eq_of_beq h2.1
  have hid := eq_of_beq h2.2
  rcases ht.lv i h1 with ⟨-, -, j, hj, hjl⟩ | ⟨hq, -⟩
  rotate_left
  · omega
  rw [hj, Int.toNat_natCast] at hid
  have hin : id ∈ ids := by
    rw [← hid, List.getD_eq_getElem?_getD, List.getElem?_eq_getElem hjl]
    exact List.getElem_mem hjl
  have hE : rpathE kind ids ls id = 0 := by
    unfold rpathE
    rw [if_pos hm, if_pos hin]
  refine ⟨h1, hz, hE, ?_⟩
  have hc := cnt_at hok.1.2.2 hin
  have hcl : cnt ids id < ids.length := (List.getElem?_eq_some_iff.1 hc).1
  have hcj : cnt ids id = j := nodup_at ht.idn hcl hjl (by rw [hid, List.getD_eq_getElem?_getD, hc]; rfl)
  obtain ⟨k, k1, k2, k3, -⟩ := leaf_is (kind := kind) hok hcl
  obtain ⟨-, k4⟩ := leafI_spec k1
  unfold isLeaf at k4
  rw [Bool.and_eq_true] at k4
  have hkx : ((nodesL kind ids ls).getD k nd0).ix = (j : Int) := by rw [← hcj]; exact eq_of_beq k4.2
  have e : i = k := ht.one i k j h1 k2 hz k3 hj hkx
  subst e
  unfold rpathW
  rw [if_pos hE, k1]
  have hzz : ¬ ids.length = 0 := by omega
  exact way_spec (fun j hj => nodes_sub hok hzz hj) (nodes_root hok hzz).2.2.2 _ i h1 (by omega)
theorem kset_ok {kind : Int} {ids : List Int} {ls : List (List Int)} {ps : List Byt} {i : Nat} {q : Byt} (h : tagOk kind ids ls ps) (hq : q ≠ kzero) : tagOk kind ids ls (ps.set i q) := by
  refine ⟨h.1, h.2.1, by rw [List.length_set]; exact h.2.2.1, fun hm => ?_⟩
  rcases List.mem_or_eq_of_mem_set hm with hm | hm
  · exact h.2.2.2 hm
  · exact hq hm.symm
end Go.Proofs.YtdbhlajajdlmfaaDoor
