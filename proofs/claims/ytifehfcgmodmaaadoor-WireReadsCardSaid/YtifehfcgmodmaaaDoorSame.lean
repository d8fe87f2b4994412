import Derived.Test.YtifehfcgmodmaaaDoorWrite
import Derived.Laws.BytesString
namespace Go.Proofs.YtifehfcgmodmaaaDoor
open Go Go.RowKit
/-- The bytes as a string. -/
def bstr (xs : List (BitVec 8)) : ByteArray := ⟨(xs.map UInt8.ofBitVec).toArray⟩
theorem bstr_inj {xs ys : List (BitVec 8)} (h : bstr xs = bstr ys) : xs = ys := by
  have h2 : xs.map UInt8.ofBitVec = ys.map UInt8.ofBitVec := by
    have := congrArg (fun b : ByteArray => b.data.toList) h
    simpa [bstr] using this
  exact List.map_inj_right (fun x y e => by cases e; rfl) |>.1 h2
theorem bstr_toList (xs : List (BitVec 8)) : (bstr xs).toList = xs.map UInt8.ofBitVec := by rw [ByteArray.toList_eq]; rfl
theorem bstr_eq (xs ys : List (BitVec 8)) : ((bstr xs).toList == (bstr ys).toList) = decide (xs = ys) := by
  by_cases h : xs = ys
  · subst h; simp
  · simp only [h, decide_false, beq_eq_false_iff_ne]
    intro e
    rw [bstr_toList, bstr_toList] at e
    exact h (List.map_inj_right (fun x y e => by cases e; rfl) |>.1 e)
theorem push_bytes : ∀ (xs : List (BitVec 8)) (s : List UInt8), (xs.map bn).foldl (fun (r : ByteArray) n => r.push (UInt8.ofNat n.toNat)) ⟨s.toArray⟩ = ⟨(s ++ xs.map UInt8.ofBitVec).toArray⟩
  | [], s => by simp
  | x :: xs, s => by
    have e : (ByteArray.push ⟨s.toArray⟩ (UInt8.ofNat (bn x).toNat)) = ⟨(s ++ [UInt8.ofBitVec x]).toArray⟩ := by
      have : UInt8.ofNat (bn x).toNat = UInt8.ofBitVec x := by
        unfold bn
        apply UInt8.toNat_inj.1
        simp
      rw [this]
      simp [ByteArray.push]
    rw [List.map_cons, List.foldl_cons, e, push_bytes xs]
    simp
theorem run_str {P : Program} {src dst e : Nat} (hs : P.underlying src = some (.slice e)) (he : P.underlying e = some (.int .u8)) (hd : P.underlying dst = some .string) {w : World} {v : Value} {xs : List (BitVec 8)} (h : Rd w v (bv xs)) :
    (convert src dst v).run P w = .ok (.string (bstr xs)) w := by
  obtain ⟨ao, cap, rfl, h1, h2, h3, h4⟩ := h
  rw [run_convert_bytes_string w src dst e _ _ _ hs he hd]
  cases ao with
  | none =>
    have hc := h3 rfl
    have : xs = [] := List.eq_nil_of_length_eq_zero (by rw [bv_length] at h1; omega)
    subst this
    simp [Conv.bytesToString, bstr]
    rfl
  | some ad =>
    have hl := run_loadCells_list (P := P) w ad (bv xs) (h4 ad rfl)
    have hm : bv xs = (xs.map bn).map (Value.int .u8) := by simp [bv]
    rw [run_bytesToString w ad (bv xs).length cap (xs.map bn) (by rw [← hm]; exact hl)]
    have := push_bytes xs []
    simp only [List.nil_append] at this
    rw [show (ByteArray.empty) = ⟨([] : List UInt8).toArray⟩ from rfl, this]
    rfl
set_option maxRecDepth 100000 in
theorem same_any (va vb : Value) (xs ys : List (BitVec 8)) (w : World) (ha : Rd w va (bv xs)) (hb : Rd w vb (bv ys)) :
    Calls Tryd.prog 24 #[va, vb] w fun e w' => e = .returned (.bool (decide (xs = ys))) ∧ w' = w := by
  have h1 := run_str (P := Tryd.prog) (dst := 9) Tryd.underlying25 Tryd.underlying5 Tryd.underlying9 ha
  have h2 := run_str (P := Tryd.prog) (dst := 9) Tryd.underlying25 Tryd.underlying5 Tryd.underlying9 hb
  have h3 := bstr_eq xs ys
  clear ha hb
  go_enter Tryd.func24, Tryd.ntmps24
  go_wp2_with fail
  go_ret
  exact ⟨rfl, rfl⟩
set_option maxRecDepth 100000 in
theorem equal_any (va vb : Value) (xs ys : List (BitVec 8)) (w : World) (ha : Rd w va (bv xs)) (hb : Rd w vb (bv ys)) :
    Calls Tryd.prog 70 #[va, vb] w fun e w' => e = .returned (.bool (decide (xs = ys))) ∧ w' = w := by
  have h1 := run_str (P := Tryd.prog) (dst := 9) Tryd.underlying25 Tryd.underlying5 Tryd.underlying9 ha
  have h2 := run_str (P := Tryd.prog) (dst := 9) Tryd.underlying25 Tryd.underlying5 Tryd.underlying9 hb
  have h3 := bstr_eq xs ys
  clear ha hb
  go_enter Tryd.func70, Tryd.ntmps70
  go_wp2_with fail
  go_ret
  exact ⟨rfl, rfl⟩
set_option maxRecDepth 100000 in
set_option maxHeartbeats 1000000 in
theorem shaSame_any (s t : St) (N M : Nat) (va vb : Value) (xs ys : List (BitVec 8)) (w : World) (ha : Rd w va (bv xs)) (hb : Rd w vb (bv ys)) :
    Calls Tryd.prog 40 #[.agg #[.int .u32 (wn s.a), .int .u32 (wn s.b), .int .u32 (wn s.c), .int .u32 (wn s.d), .int .u32 (wn s.e), .int .u32 (wn s.f), .int .u32 (wn s.g), .int .u32 (wn s.h), .int .u64 (N : Int), va],
      .agg #[.int .u32 (wn t.a), .int .u32 (wn t.b), .int .u32 (wn t.c), .int .u32 (wn t.d), .int .u32 (wn t.e), .int .u32 (wn t.f), .int .u32 (wn t.g), .int .u32 (wn t.h), .int .u64 (M : Int), vb]] w
      fun e w' => e = .returned (.bool (decide (s = t ∧ N = M ∧ xs = ys))) ∧ Below w.heap.size w w' := by
  have HA := Lib.hid ha
  have HB := Lib.hid hb
  have heq := run_eq_st s t _ rfl
  clear ha hb
  by_cases h1 : s = t
  · simp only [h1, decide_true] at heq
    by_cases h2 : N = M
    · have h2' : ((N : Int) == (M : Int)) = true := by simp [h2]
      go_enter Tryd.func40, Tryd.ntmps40
      go_wp2_with fail
      have hbw : ∀ o1 o2, Below w.heap.size w ((w.alloc o1).alloc o2) := fun o1 o2 => ((Below.refl w.heap.size w).alloc (Nat.le_refl _) o1).alloc (by rw [World.size_alloc]; omega) o2
      refine (equal_any va vb xs ys _ (HA.out.grow (hbw _ _)) (HB.out.grow (hbw _ _))).mono ?_
      rintro e w2 ⟨rfl, rfl⟩
      by_cases h3 : xs = ys
      all_goals
        go_wp2_with fail
        go_returns
        exact ⟨by simp [h1, h2, h3], hbw _ _⟩
    · have h2' : ((N : Int) == (M : Int)) = false := by simp; omega
      go_enter Tryd.func40, Tryd.ntmps40
      go_wp2_with fail
      go_returns
      exact ⟨by simp [h2], ((Below.refl w.heap.size w).alloc (Nat.le_refl _) _).alloc (by rw [World.size_alloc]; omega) _⟩
  · simp only [h1, decide_false] at heq
    go_enter Tryd.func40, Tryd.ntmps40
    go_wp2_with fail
    go_returns
    exact ⟨by simp [h1], ((Below.refl w.heap.size w).alloc (Nat.le_refl _) _).alloc (by rw [World.size_alloc]; omega) _⟩
set_option maxRecDepth 100000 in
set_option maxHeartbeats 1000000 in
theorem refSame_any (s t : St) (N M : Nat) (va vb : Value) (xs ys : List (BitVec 8)) (w : World) (ha : Rd w va (bv xs)) (hb : Rd w vb (bv ys)) :
    Calls Tryd.prog 37 #[.agg #[.int .u32 (wn s.a), .int .u32 (wn s.b), .int .u32 (wn s.c), .int .u32 (wn s.d), .int .u32 (wn s.e), .int .u32 (wn s.f), .int .u32 (wn s.g), .int .u32 (wn s.h), .int .u64 (N : Int), va],
      .agg #[.int .u32 (wn t.a), .int .u32 (wn t.b), .int .u32 (wn t.c), .int .u32 (wn t.d), .int .u32 (wn t.e), .int .u32 (wn t.f), .int .u32 (wn t.g), .int .u32 (wn t.h), .int .u64 (M : Int), vb]] w
      fun e w' => e = .returned (.bool (decide (s = t ∧ N = M ∧ xs = ys))) ∧ Below w.heap.size w w' := by
  have HA := Lib.hid ha
  have HB := Lib.hid hb
  have heq := run_eq_st s t _ rfl
  clear ha hb
  by_cases h1 : s = t
  · simp only [h1, decide_true] at heq
    by_cases h2 : N = M
    · have h2' : ((N : Int) == (M : Int)) = true := by simp [h2]
      go_enter Tryd.func37, Tryd.ntmps37
      go_wp2_with fail
      have hbw : ∀ o1 o2, Below w.heap.size w ((w.alloc o1).alloc o2) := fun o1 o2 => ((Below.refl w.heap.size w).alloc (Nat.le_refl _) o1).alloc (by rw [World.size_alloc]; omega) o2
      refine (same_any va vb xs ys _ (HA.out.grow (hbw _ _)) (HB.out.grow (hbw _ _))).mono ?_
      rintro e w2 ⟨rfl, rfl⟩
      by_cases h3 : xs = ys
      all_goals
        go_wp2_with fail
        go_returns
        exact ⟨by simp [h1, h2, h3], hbw _ _⟩
    · have h2' : ((N : Int) == (M : Int)) = false := by simp; omega
      go_enter Tryd.func37, Tryd.ntmps37
      go_wp2_with fail
      go_returns
      exact ⟨by simp [h2], ((Below.refl w.heap.size w).alloc (Nat.le_refl _) _).alloc (by rw [World.size_alloc]; omega) _⟩
  · simp only [h1, decide_false] at heq
    go_enter Tryd.func37, Tryd.ntmps37
    go_wp2_with fail
    go_returns
    exact ⟨by simp [h1], ((Below.refl w.heap.size w).alloc (Nat.le_refl _) _).alloc (by rw [World.size_alloc]; omega) _⟩
end Go.Proofs.YtifehfcgmodmaaaDoor
