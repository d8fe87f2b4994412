import Derived.Test.YtifehfcgmodmaaaDoorSame
namespace Go.Proofs.YtifehfcgmodmaaaDoor
open Go Go.RowKit
set_option maxRecDepth 100000 in
theorem copy_any0 (v : Value) (xs : List (BitVec 8)) (w : World) (h : Rd w v (bv xs)) (hlen : xs.length ≤ 70368744177664) :
    Calls Tryd.prog 30 #[v] w (Returns fun v' w' => w'.ownsRow w.heap.size 5 1 v' (bv xs).length (bv xs) ∧ Below w.heap.size w w') := by
  have HR := Lib.hid h
  have HO := Lib.hid (World.ownsRow_nil w w.heap.size 5 1)
  obtain ⟨ao, cap, rfl, -, -, -, -⟩ := h
  go_enter Tryd.func30, Tryd.ntmps30
  go_wp2_with ((at_builtin; refine wpList_append_rd rfl _ _ 25 rfl w.heap.size 5 (.int .u8 0) 1 Tryd.underlying25 info_byte rfl (.slice none 0 0) (.slice ao (bv xs).length cap) [] (bv xs) rfl rfl HO.out HR.out (bv_one _) (by simp [bv_length]; omega) (by simp [bv_length]; omega) (Nat.le_refl _) ?_; intro v' w' k1 k2 k3))
  go_ret
  exact Returns.mk ⟨k1, (Below.refl _ _).grown k2 (Nat.le_refl _) (by simp [Value.ownBlock])⟩
theorem copy_any (v : Value) (xs : List (BitVec 8)) (w : World) (h : Rd w v (bv xs)) (hlen : xs.length ≤ 70368744177664) :
    Calls Tryd.prog 30 #[v] w (RetSl (bv xs).length fun v' w' => w'.ownsRow w.heap.size 5 1 v' (bv xs).length (bv xs) ∧ Below w.heap.size w w') :=
  (copy_any0 v xs w h hlen).mono fun _ _ h => RetSl.of_own h fun _ _ q => q.1
set_option maxRecDepth 100000 in
set_option maxHeartbeats 1000000 in
theorem all_any0 (vp : Value) (ps : List (List (BitVec 8))) (w : World) (hp : RdAll w vp ps) (hlen : ps.flatten.length ≤ 70368744177664) :
    Calls Tryd.prog 21 #[vp] w (Returns fun v' w' => w'.ownsRow w.heap.size 5 1 v' (bv ps.flatten).length (bv ps.flatten) ∧ Below w.heap.size w w') := by
  have HP := Lib.hid hp
  obtain ⟨aop, capp, rfl, hcapp⟩ := hp.shape
  go_enter Tryd.func21, Tryd.ntmps21
  go_wp2_with fail
  go_loopw [3, 8] (fun v3 v8 wr => ∃ i : Nat, i ≤ ps.length ∧ v8 = .int .i64 i ∧ wr.ownsRow w.heap.size 5 1 v3 (bv (ps.take i).flatten).length (bv (ps.take i).flatten) ∧ Below w.heap.size w wr) (fun _ v _ => ps.length - (intOf v).toNat)
  case atStart => exact ⟨0, by omega, rfl, World.ownsRow_nil _ _ _ _, Below.refl _ _⟩
  case round =>
    obtain ⟨i, hi, rfl, ho, hb⟩ := hrel
    have hfl := flatten_take_le ps i
    have HO := Lib.hid ho
    have HB := Lib.hid hb
    clear ho hb
    by_cases hlt : i < ps.length
    · obtain ⟨g, o, cap', u, hvv, hcc, hu⟩ := (HP.out.below HB.out).cell hlt
      cases hvv
      have hfl2 := getD_flatten_le ps i hlt
      have hlt' : (i : Int) < (ps.length : Nat) := by omega
      have hF := flatten_take_succ ps i hlt
      generalize ps.getD i [] = p at hu hfl2 hF
      generalize (ps.take i).flatten = d at HO hfl hfl2 hF
      have HU := Lib.hid hu
      have HF := Lib.hid hF
      obtain ⟨au, cu, rfl, -, -, -, -⟩ := hu
      clear hF
      go_wp2_with ((at_builtin; refine wpList_append_rd rfl _ _ 25 rfl w.heap.size 5 (.int .u8 0) 1 Tryd.underlying25 info_byte rfl u3 (.slice au (bv p).length cu) (bv d) (bv p) rfl rfl HO.out HU.out (bv_one _) (by rw [bv_length, bv_length]; omega) (by rw [bv_length, bv_length]; omega) (by have := HB.out.size; omega) ?_; intro v' w' k1 k2 k3))
      go_roundw
      case rel =>
        have k1' : w'.ownsRow w.heap.size 5 1 v' (bv (ps.take (i + 1)).flatten).length (bv (ps.take (i + 1)).flatten) := by rw [HF.out, bv_append]; exact k1
        exact ⟨i + 1, by omega, by go_num, k1', HB.out.grown k2 (by have := HB.out.size; omega) (fun g hg => (own_lt HO.out hg).1)⟩
      case measure => simp [intOf]; omega
    · obtain rfl : i = ps.length := by omega
      have hlt' : ¬ ((ps.length : Nat) : Int) < (ps.length : Nat) := by omega
      rw [List.take_length] at HO
      go_wp2_with fail
      go_ret
      exact Returns.mk ⟨HO.out, HB.out⟩
theorem all_any (vp : Value) (ps : List (List (BitVec 8))) (w : World) (hp : RdAll w vp ps) (hlen : ps.flatten.length ≤ 70368744177664) :
    Calls Tryd.prog 21 #[vp] w (RetSl (bv ps.flatten).length fun v' w' => w'.ownsRow w.heap.size 5 1 v' (bv ps.flatten).length (bv ps.flatten) ∧ Below w.heap.size w w') :=
  (all_any0 vp ps w hp hlen).mono fun _ _ h => RetSl.of_own h fun _ _ q => q.1
/-- Few enough to be played. -/
def fewSum (ps : List (List (BitVec 8))) : Nat := (ps.map fun p => min p.length 70000).sum
def few (ps : List (List (BitVec 8))) : Prop := ps.length ≤ 200 ∧ fewSum ps ≤ 140000
instance (ps : List (List (BitVec 8))) : Decidable (few ps) := inferInstanceAs (Decidable (_ ∧ _))
theorem fewSum_succ (ps : List (List (BitVec 8))) (i : Nat) (h : i < ps.length) : fewSum (ps.take (i + 1)) = fewSum (ps.take i) + min (ps.getD i []).length 70000 := by
  unfold fewSum
  rw [List.take_succ_eq_append_getElem h, List.map_append, List.sum_append]
  simp [List.getD_eq_getElem?_getD, List.getElem?_eq_getElem h]
theorem fewSum_le (ps : List (List (BitVec 8))) : ∀ i, fewSum (ps.take i) ≤ 70000 * i
  | 0 => by simp [fewSum]
  | i + 1 => by
    by_cases h : i < ps.length
    · have := fewSum_le ps i
      rw [fewSum_succ ps i h]; omega
    · have := fewSum_le ps i
      rw [List.take_of_length_le (by omega)] at this ⊢
      omega
set_option maxRecDepth 100000 in
set_option maxHeartbeats 1000000 in
theorem few_any (vp : Value) (ps : List (List (BitVec 8))) (w : World) (hp : RdAll w vp ps) (hlen : ps.length ≤ 1099511627776) :
    Calls Tryd.prog 20 #[vp] w fun e w' => e = .returned (.bool (decide (few ps))) ∧ w' = w := by
  have HP := Lib.hid hp
  obtain ⟨aop, capp, rfl, hcapp⟩ := hp.shape
  go_enter Tryd.func20, Tryd.ntmps20
  go_wp2_with fail
  go_loopw [3, 8] (fun v3 v8 wr => ∃ i : Nat, i ≤ ps.length ∧ v8 = .int .i64 i ∧ v3 = .int .i64 (fewSum (ps.take i) : Nat) ∧ wr = w) (fun _ v _ => ps.length - (intOf v).toNat)
  case atStart => exact ⟨0, by omega, rfl, rfl, rfl⟩
  case round =>
    obtain ⟨i, hi, rfl, rfl, rfl⟩ := hrel
    have hfl := fewSum_le ps i
    by_cases hlt : i < ps.length
    · obtain ⟨g, o, cap', u, hvv, hcc, hu⟩ := HP.out.cell hlt
      cases hvv
      have hlt' : (i : Int) < (ps.length : Nat) := by omega
      have hF := fewSum_succ ps i hlt
      generalize ps.getD i [] = p at hu hF
      generalize hd : fewSum (ps.take i) = d at hfl hF
      obtain ⟨au, cu, rfl, -, -, -, -⟩ := hu
      have HF := Lib.hid hF
      rw [bv_length] at hcc
      generalize p.length = n at hcc hF HF
      clear hd hF
      by_cases hn : n ≤ 70000
      · have hn' : (n : Int) ≤ 70000 := by omega
        go_wp2_with fail
        go_roundw
        case rel =>
          refine ⟨i + 1, by omega, by go_num, ?_, trivial⟩
          rw [HF.out, Nat.min_eq_left hn]; go_num
        case measure => simp [intOf]; omega
      · have hn' : ¬ (n : Int) ≤ 70000 := by omega
        go_wp2_with fail
        go_roundw
        case rel =>
          refine ⟨i + 1, by omega, by go_num, ?_, trivial⟩
          rw [HF.out, Nat.min_eq_right (by omega)]; go_num
        case measure => simp [intOf]; omega
    · obtain rfl : i = ps.length := by omega
      have hlt' : ¬ ((ps.length : Nat) : Int) < (ps.length : Nat) := by omega
      rw [List.take_length] at hfl ⊢
      have HF : Hid (decide (few ps) = decide (ps.length ≤ 200 ∧ fewSum ps ≤ 140000)) := rfl
      generalize hd : fewSum ps = d at hfl HF
      by_cases h1 : ps.length ≤ 200
      · have h1' : ((ps.length : Nat) : Int) ≤ 200 := by omega
        by_cases h2 : d ≤ 140000
        · have h2' : (d : Int) ≤ 140000 := by omega
          go_wp2_with fail
          go_ret
          exact ⟨by rw [HF.out]; simp [h1, h2], rfl⟩
        · have h2' : ¬ (d : Int) ≤ 140000 := by omega
          go_wp2_with fail
          go_ret
          exact ⟨by rw [HF.out]; simp [h2], rfl⟩
      · have h1' : ¬ ((ps.length : Nat) : Int) ≤ 200 := by omega
        go_wp2_with fail
        go_ret
        exact ⟨by rw [HF.out]; simp [h1], rfl⟩
end Go.Proofs.YtifehfcgmodmaaaDoor
