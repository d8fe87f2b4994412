/- ratchet.Ahead. -/
import Derived.Test.YtanodhagpegbfaaDoorRCheck
import Derived.Test.YtanodhagpegbfaaDoorStart
namespace Go.Proofs.YtanodhagpegbfaaDoor
open Go Go.RowKit
set_option linter.unusedSimpArgs false
theorem Sks.mono {n₀ n₁ : Nat} (h : n₀ ≤ n₁) {W : World} {sv : Value} {zs : List Sk} : Sks n₀ W sv zs → Sks n₁ W sv zs
  | .inl e => .inl e
  | .inr ⟨b, off, cap, e, hb, hc⟩ => .inr ⟨b, off, cap, e, by omega, hc⟩
theorem Sks.aft {W W' : World} (h : Aft W W') {sv : Value} {zs : List Sk} (hs : Sks W.heap.size W sv zs) : Sks W'.heap.size W' sv zs := (hs.below h).mono (Below.size h)
def ahE (G : Nat) (zs : List Sk) (t : Nat) : Int := if chkE G zs ≠ 0 then 1 else if t < G then 0 else if 4294967296 ≤ t then 8 else if 1024 - zs.length < t - G then 10 else 0
def ahN (G : Nat) (zs : List Sk) (t : Nat) : Nat := if ahE G zs t = 0 ∧ G ≤ t then t - G else 0
theorem chkE_or (G : Nat) (zs : List Sk) : chkE G zs = 0 ∨ chkE G zs = 1 := by
  unfold chkE
  split
  · exact .inl rfl
  · exact .inr rfl
theorem chkE_zero {G : Nat} {zs : List Sk} (h : chkE G zs = 0) : G ≤ 4294967296 ∧ zs.length ≤ 1024 ∧ okB G ((zs.map (·.1.1)).reverse) = true := by
  unfold chkE at h
  split at h
  · assumption
  · cases h
theorem wrap_len (n : Nat) (h : n ≤ 1024) : IntKind.u64.wrap (wrap64 (1024 - (n : Int))) = 1024 - (n : Int) := by
  have e : wrap64 (1024 - (n : Int)) = 1024 - (n : Int) := by unfold wrap64; omega
  rw [e]
  have e2 : ∀ x : Int, IntKind.u64.wrap x = x % 18446744073709551616 := fun _ => rfl
  rw [e2]
  omega
set_option maxRecDepth 100000 in
set_option maxHeartbeats 2000000 in
theorem ahead_any (C : List (BitVec 8)) (G t : Nat) (a : Option Addr) (cap : Nat) (zs : List Sk) (w : World) (hC : C.length = 32) (hG : G < 18446744073709551616) (ht : t < 18446744073709551616) (hz : zs.length ≤ 1048576) (hI : Sks w.heap.size w (.slice a zs.length cap) zs) :
    Calls Tryd.prog 51 #[.agg (ratL C G (.slice a zs.length cap)).toArray, .int .u64 (t : Int)] w fun e W' => e = .returned (.tuple #[.int .i64 (ahN G zs t : Int), .int .i64 (ahE G zs t)]) ∧ Aft w W' := by
  have HC := Lib.hid hC
  have HK := Lib.hid (fun (wx : World) (h : Aft w wx) => check_any C G a cap zs wx hC hG hz (hI.aft h))
  have HL := Lib.hid (Led.start w)
  clear hC hI
  obtain ⟨z, hz0⟩ : ∃ z : Int, z = (t : Int) := ⟨_, rfl⟩
  obtain ⟨g, hg0⟩ : ∃ g : Int, g = (G : Int) := ⟨_, rfl⟩
  rw [← hz0]
  have HZ := Lib.hid hz0
  have HG := Lib.hid hg0
  have HT := Lib.hid ht
  have HG2 := Lib.hid hG
  clear hz0 hg0 ht hG
  go_enter Tryd.func51, Tryd.ntmps51
  go_wp2_with (first | (refine wpList_boxO rfl 71 (.tmp 0) rfl (.agg (ratL C G (.slice a zs.length cap)).toArray) rfl (.cells (ratL C G (.slice a zs.length cap)).toArray 71) (box_rat _) ?_; intro w' aa gg zz; replace HL := Lib.hid (HL.out.alloc aa gg.out); clear aa gg zz; try simp only [List.nil_append, List.cons_append, List.set_cons_zero, List.set_cons_succ] at HL) | (refine wpList_load_rowG (by kernel_rfl) 71 (.tmp 2) rfl _ rfl _ _ _ _ (HL.out.get 0 rfl) Tryd.underlying71 rfl (rat_info HC.out) ?_))
  refine (HK.out _ HL.out.aft).mono ?_
  rintro r w2 ⟨rfl, h2⟩
  replace HL := Lib.hid (HL.out.call h2)
  clear h2
  have hn := rat_n (HL.out.get 0 rfl) HC.out
  rw [← HG.out] at hn
  have hl := rat_l (HL.out.get 0 rfl) HC.out
  rcases chkE_or G zs with hk | hk
  · obtain ⟨k1, k2, -⟩ := chkE_zero hk
    have HQ := Lib.hid hk
    have HK1 := Lib.hid k1
    have HK2 := Lib.hid k2
    rw [hk]
    clear hk k1 k2 hz
    by_cases hA : z < g
    · have HE := Lib.hid (show ahE G zs t = 0 by unfold ahE; rw [if_neg (by rw [HQ.out]; simp), if_pos (by have := HZ.out; have := HG.out; omega)])
      have HN := Lib.hid (show ahN G zs t = 0 from if_neg (by have := HZ.out; have := HG.out; omega))
      go_wp2_with fail
      go_ret2
      exact ⟨by rw [HE.out, HN.out]; rfl, HL.out.aft⟩
    by_cases hB : (4294967296 : Int) ≤ z
    · have HE := Lib.hid (show ahE G zs t = 8 by unfold ahE; rw [if_neg (by rw [HQ.out]; simp), if_neg (by have := HZ.out; have := HG.out; omega), if_pos (by have := HZ.out; omega)])
      have HN := Lib.hid (show ahN G zs t = 0 from if_neg (by rw [HE.out]; simp))
      go_wp2_with fail
      go_ret2
      exact ⟨by rw [HE.out, HN.out]; rfl, HL.out.aft⟩
    have h1 : z - g < 4294967297 := by have := HZ.out; have := HG.out; omega
    have h2 : 0 ≤ z - g := by omega
    obtain ⟨y, hy⟩ : ∃ y : Int, y = 1024 - (zs.length : Int) := ⟨_, rfl⟩
    have HY := Lib.hid hy
    clear hy
    go_wp2_with fail
    · have hq : IntKind.u64.wrap (wrap64 (1024 - (zs.length : Int))) < z - g := by assumption
      rw [wrap_len _ HK2.out] at hq
      have HE := Lib.hid (show ahE G zs t = 10 by unfold ahE; rw [if_neg (by rw [HQ.out]; simp), if_neg (by have := HZ.out; have := HG.out; omega), if_neg (by have := HZ.out; omega), if_pos (by have := HZ.out; have := HG.out; have := HK2.out; omega)])
      have HN := Lib.hid (show ahN G zs t = 0 from if_neg (by rw [HE.out]; simp))
      go_ret2
      exact ⟨by rw [HE.out, HN.out]; rfl, HL.out.aft⟩
    · have hq : z - g ≤ IntKind.u64.wrap (wrap64 (1024 - (zs.length : Int))) := by assumption
      rw [wrap_len _ HK2.out] at hq
      have HE := Lib.hid (show ahE G zs t = 0 by unfold ahE; rw [if_neg (by rw [HQ.out]; simp), if_neg (by have := HZ.out; have := HG.out; omega), if_neg (by have := HZ.out; omega), if_neg (by have := HZ.out; have := HG.out; have := HK2.out; omega)])
      have HN := Lib.hid (show ((ahN G zs t : Nat) : Int) = z - g by unfold ahN; rw [if_pos ⟨HE.out, by have := HZ.out; have := HG.out; omega⟩]; have := HZ.out; have := HG.out; omega)
      go_ret2
      exact ⟨by rw [HE.out, HN.out]; rfl, HL.out.aft⟩
  · have HE := Lib.hid (show ahE G zs t = 1 by unfold ahE; rw [if_pos (by rw [hk]; decide)])
    have HN := Lib.hid (show ahN G zs t = 0 from if_neg (by rw [HE.out]; simp))
    rw [hk]
    clear hk
    go_wp2_with fail
    go_ret2
    exact ⟨by rw [HE.out, HN.out]; rfl, HL.out.aft⟩
end Go.Proofs.YtanodhagpegbfaaDoor
