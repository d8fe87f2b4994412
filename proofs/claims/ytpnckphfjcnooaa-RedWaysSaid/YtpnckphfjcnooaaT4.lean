/- slices.Insert of one number into a slice of one's own. -/
import Derived.Test.YtpnckphfjcnooaaT3
import Derived.Shelf.Spec.SlicesInsert
import Derived.Lib.AppendZerosOnto
import Derived.Deep.AppendLies
namespace Go.Proofs.Ytpnckphfjcnooaa
open Go Go.RowKit Go.Shelf
/-- The kit's numbers, as they are here. -/
def insRen : Ren :=
  ⟨fun x => match x with
    | 21 => 63
    | 27 => 80
    | 28 => 81
    | 35 => 87
    | 39 => 88
    | n => n,
  fun x => match x with
    | 0 => 0
    | 3 => 3
    | 4 => 4
    | 22 => 22
    | n => n,
  fun n => n⟩
theorem ins21 : Lays2.n21 Try.prog insRen :=
  { mixed := by kernel_rfl, f21 := Try.func63, f27 := Try.func80, f28 := Try.func81, f35 := Try.func87, f39 := Try.func88,
    t0 := Try.underlying0, a0 := Try.isAgg0, z0 := Try.sizeOf0, v0 := Try.zeroValue0,
    t3 := Try.underlying3, a3 := Try.isAgg3, z3 := Try.sizeOf3, v3 := Try.zeroValue3,
    t4 := Try.underlying4, a4 := Try.isAgg4, z4 := Try.sizeOf4, v4 := Try.zeroValue4,
    t22 := Try.underlying22, a22 := Try.isAgg22, z22 := Try.sizeOf22, v22 := Try.zeroValue22,
    i3 := by kernel_rfl }
theorem info_int : (Try.prog.info? 3).map (fun i => (i.zero, i.size, i.bytes)) = some (some (.int .i64 0), 1, 8) := by kernel_rfl
theorem size_int : (Try.prog.info? 3).map (·.size) = some 1 := by kernel_rfl
/-- With one more at a place. -/
def putI (xs : List Int) (i : Nat) (x : Int) : List Int := xs.take i ++ x :: xs.drop i
theorem putI_length {xs : List Int} {i : Nat} (x : Int) (_h : i ≤ xs.length) : (putI xs i x).length = xs.length + 1 := by
  have := congrArg List.length (List.take_append_drop i xs)
  rw [List.length_append] at this
  unfold putI
  rw [List.length_append, List.length_cons]
  omega
/-- What an insertion leaves. -/
def PutSays (v : Value) (xs : List Int) (i : Nat) (x : Int) (base : Nat) (w : World) (e : Ending) (w' : World) : Prop :=
  ∃ v', e = .returned v' ∧ OwnI w' base v' (putI xs i x) ∧ Fr (fun b => v.ownBlock = some b) w w' ∧ ∀ g, v'.ownBlock = some g → v.ownBlock = some g ∨ w.heap.size ≤ g
set_option maxRecDepth 100000 in
set_option maxHeartbeats 2000000 in
theorem insEnd_any (v : Value) (xs : List Int) (x : Int) (gv base : Nat) (w : World) (ho : OwnI w base v xs) (hl : xs.length ≤ 1048576) (hb : base ≤ w.heap.size) (hg : w.heap[gv]? = some (.cells #[.int .i64 x] 3 (0, 0))) :
    Calls Try.prog 63 #[v, .int .i64 (xs.length : Int), .slice (some ⟨gv, 0, none⟩) 1 1] w (PutSays v xs xs.length x base w) := by
  obtain ⟨ao, cap, rfl⟩ := ho.shape
  have HO := Lib.hid ho
  have HB := Lib.hid hb
  have HN := Lib.hid (show ∀ j u, [Value.int .i64 x][j]? = some u → w.cell? ((⟨gv, 0, none⟩ : Addr).add j) = some u from fun j u hu => by
    rw [Addr.add_lit, Nat.zero_add]
    exact cell_part hg (by simpa using hu))
  have hcc : xs.length ≤ cap := by
    obtain ⟨a', c', he, h1, -⟩ := ho.rd.numS
    injection he with _ _ e3
    omega
  obtain ⟨i0, hi0, hz1, hz2, hz3⟩ := info_parts info_int
  have HI := Lib.hid hi0
  have HZ1 := Lib.hid hz1
  have HZ2 := Lib.hid hz2
  have HZ3 := Lib.hid hz3
  clear ho hb hg hi0 hz1 hz2 hz3
  have HEnd := Lib.hid (show ∀ (g c1 : Nat) (w1 : World), w1.ownsRow base 3 1 (.slice (some ⟨g, 0, none⟩) (xs.length + 1) c1) (xs.length + 1) (zv xs ++ [Value.int .i64 x]) → w.grownBy w1 (Value.slice ao xs.length cap).ownBlock → ((Value.slice ao xs.length cap).ownBlock = some g ∨ g = w.heap.size) →
      PutSays (.slice ao xs.length cap) xs xs.length x base w (.returned (.slice (some ⟨g, 0, none⟩) (xs.length + 1) c1)) w1 from fun g c1 w1 k1 k2 k3 => by
    refine ⟨_, rfl, ?_, Fr.of_grown k2 (fun k hk => hk), fun g' hg' => ?_⟩
    · unfold OwnI
      rw [putI_length x (Nat.le_refl _), show putI xs xs.length x = xs ++ [x] by unfold putI; rw [List.take_length, List.drop_length], zv_append]
      exact k1
    · cases hg'
      rcases k3 with h | h
      · exact .inl h
      · exact .inr (by show w.heap.size ≤ g; omega))
  cases ao with
  | none =>
    go_enter Try.func63, Try.ntmps63
    go_wp2_with (at_builtin; refine wpList_append_lies _ rfl (.tmp 23) (.tmp 24) 22 rfl base 3 i0 (.int .i64 0) 1 8 Try.underlying22 HI.out HZ1.out HZ2.out HZ3.out rfl (by decide) (.slice none xs.length cap) xs.length (zv xs) rfl HO.out ⟨gv, 0, none⟩ 1 1 [.int .i64 x] rfl rfl HN.out (fun u hu => by simp at hu; subst hu; rfl) (by decide) (by unfold maxLen; omega) (by omega) HB.out _ rfl ?_; intro g c1 w1 k1 k2 k3 k4)
    all_goals
      go_ret
      exact HEnd.out _ _ _ k1 k2 k3
  | some ad =>
    obtain ⟨b, o, sp⟩ := ad
    go_enter Try.func63, Try.ntmps63
    go_wp2_with (at_builtin; refine wpList_append_lies _ rfl (.tmp 23) (.tmp 24) 22 rfl base 3 i0 (.int .i64 0) 1 8 Try.underlying22 HI.out HZ1.out HZ2.out HZ3.out rfl (by decide) (.slice (some ⟨b, o, sp⟩) xs.length cap) xs.length (zv xs) rfl HO.out ⟨gv, 0, none⟩ 1 1 [.int .i64 x] rfl rfl HN.out (fun u hu => by simp at hu; subst hu; rfl) (by decide) (by unfold maxLen; omega) (by omega) HB.out _ rfl ?_; intro g c1 w1 k1 k2 k3 k4)
    all_goals
      go_ret
      exact HEnd.out _ _ _ k1 k2 k3
theorem shape_of {w : World} {g t : Nat} {cs : Array Value} {fr : Nat × Nat} (h : w.heap[g]? = some (.cells cs t fr)) : w.shape? g = some (t, cs.size) := by
  simp [World.shape?, h]
theorem frozen_of {w : World} {g t k : Nat} {cs : Array Value} (h : w.heap[g]? = some (.cells cs t (0, 0))) : w.frozen? ⟨g, k, none⟩ = false := by
  simp [World.frozen?, h]
/-- What stands in a row behind an insertion. -/
theorem row_put {w w' : World} {base g cap : Nat} {xs : List Int} {i : Nat} {x : Int} {rest : List Value} (hi : i ≤ xs.length) (hb : base ≤ g) (hm : cap ≤ maxLen) (hr : xs.length + 1 + rest.length = cap) (h : w'.heap[g]? = some (.cells (zv (putI xs i x) ++ rest).toArray 3 (0, 0))) :
    OwnI w' base (.slice (some ⟨g, 0, none⟩) (xs.length + 1) cap) (putI xs i x) := by
  have _ := w
  have hl := putI_length x hi
  unfold OwnI
  rw [hl]
  refine ⟨by rw [zv_length, hl]; omega, .inr ⟨g, cap, _, rfl, hb, h, by omega, hm, ?_, ?_⟩⟩
  · rw [List.size_toArray, List.length_append, zv_length, hl]
    omega
  · show List.take ((xs.length + 1) * 1) (zv (putI xs i x) ++ rest) = _
    exact List.take_left' (by rw [zv_length, hl]; omega)
set_option maxRecDepth 100000 in
set_option maxHeartbeats 2000000 in
theorem insRoom_any (g cap : Nat) (xs : List Int) (i : Nat) (x : Int) (gv base : Nat) (w : World) (ho : OwnI w base (.slice (some ⟨g, 0, none⟩) xs.length cap) xs) (hi : i < xs.length) (hc : xs.length + 1 ≤ cap) (hg : w.heap[gv]? = some (.cells #[.int .i64 x] 3 (0, 0))) (hne : gv ≠ g) :
    Calls Try.prog 63 #[.slice (some ⟨g, 0, none⟩) xs.length cap, .int .i64 (i : Int), .slice (some ⟨gv, 0, none⟩) 1 1] w (PutSays (.slice (some ⟨g, 0, none⟩) xs.length cap) xs i x base w) := by
  rcases ho.2 with ⟨he, -⟩ | ⟨g', cap', cur, he, hbg, hgc, hn, hm, hs, ht⟩
  · cases he
  cases he
  have hcl : cur.toList.length = cap := by rw [Array.length_toList, hs, Nat.mul_one]
  rw [Nat.mul_one] at ht
  have hgc' : w.heap[g]? = some (.cells cur.toList.toArray 3 (0, 0)) := hgc
  have hcell : ∀ j u, cur.toList[j]? = some u → w.cell? ⟨g, 0 + j, none⟩ = some u := fun j u hu => by
    rw [Nat.zero_add]
    exact cell_part hgc' hu
  refine (Any2.slices_Insert_int_shift ins21 g 0 xs.length cap i gv 0 1 1 (zv xs) [.int .i64 x] w hi (by decide) hc (by unfold maxLen at hm; omega) hne (zv_length xs) rfl ?_ ?_ ?_ ?_ (zv_one xs) (fun u hu => by simp at hu; subst hu; rfl) _ _ _ _ (shape_of hg) (shape_of hgc) (by rw [hs]; omega) (frozen_of hg) (frozen_of hg)).mono ?_
  · intro j u hu
    refine hcell j u ?_
    rw [← ht, List.getElem?_take] at hu
    split at hu
    · exact hu
    · cases hu
  · intro j hj
    rw [hcell j cur.toList[j] (List.getElem?_eq_getElem (by omega))]
    rfl
  · intro j _
    exact frozen_of hgc
  · intro j u hu
    rw [Nat.zero_add]
    exact cell_part (L := [.int .i64 x]) hg hu
  rintro e w' ⟨rfl, rfl⟩
  have hd : w.drew.heap = w.heap := rfl
  have hlen : ((zv xs).drop i).length = xs.length - i := by rw [List.length_drop, zv_length]
  have e0 : cur.toList = cur.toList.take (i + 1) ++ ((cur.toList.drop (i + 1)).take (xs.length - i) ++ cur.toList.drop (xs.length + 1)) := by
    have h2 := List.take_append_drop (xs.length - i) (cur.toList.drop (i + 1))
    rw [List.drop_drop, show i + 1 + (xs.length - i) = xs.length + 1 by omega] at h2
    rw [h2, List.take_append_drop]
  have hb1 : w.drew.heap[g]? = some (.cells (cur.toList.take (i + 1) ++ ((cur.toList.drop (i + 1)).take (xs.length - i) ++ cur.toList.drop (xs.length + 1))).toArray 3 (0, 0)) := by rw [← e0, hd]; exact hgc'
  have h1 := block_setCells (cur.toList.drop (xs.length + 1)) ((zv xs).drop i) ((cur.toList.drop (i + 1)).take (xs.length - i)) (cur.toList.take (i + 1)) w.drew (by rw [hlen, List.length_take, List.length_drop]; omega) hb1
  have hl1 : (cur.toList.take (i + 1)).length = i + 1 := by rw [List.length_take]; omega
  rw [hl1] at h1
  have e1 : cur.toList.take (i + 1) = cur.toList.take i ++ [cur.toList[i]'(by omega)] := List.take_succ_eq_append_getElem (by omega)
  have hb2 : (w.drew.setCells g (i + 1) ((zv xs).drop i)).heap[g]? = some (.cells (cur.toList.take i ++ ([cur.toList[i]'(by omega)] ++ ((zv xs).drop i ++ cur.toList.drop (xs.length + 1)))).toArray 3 (0, 0)) := by
    rw [h1, e1, List.append_assoc]
  have h2 := block_setCells ((zv xs).drop i ++ cur.toList.drop (xs.length + 1)) [.int .i64 x] [cur.toList[i]'(by omega)] (cur.toList.take i) _ rfl hb2
  have hl2 : (cur.toList.take i).length = i := by rw [List.length_take]; omega
  rw [hl2] at h2
  have e2 : cur.toList.take i = zv (xs.take i) := by
    rw [← zv_take, ← ht, List.take_take, Nat.min_eq_left (by omega)]
  rw [e2, show zv (xs.take i) ++ ([Value.int .i64 x] ++ ((zv xs).drop i ++ cur.toList.drop (xs.length + 1))) = zv (putI xs i x) ++ cur.toList.drop (xs.length + 1) by unfold putI; rw [zv_append, zv_drop]; simp [zv]] at h2
  have hbel : Below g w ((w.drew.setCells g (0 + (i + 1)) ((zv xs).drop i)).setCells g (0 + i) [.int .i64 x]) := below_sets (Nat.le_refl _) _ _ (below_sets (Nat.le_refl _) _ _ ((Below.refl _ _).drew))
  refine ⟨_, rfl, ?_, ⟨hbel.os, hbel.tape, hbel.output, hbel.size, fun k hk hn => ?_⟩, fun g' hg' => .inl hg'⟩
  · rw [Nat.zero_add, Nat.zero_add]
    exact row_put (w := w) (Nat.le_of_lt hi) hbg hm (by rw [List.length_drop]; omega) h2
  · have hkg : k ≠ g := fun e => hn (by rw [e]; rfl)
    exact (heap_sets hkg _ _ _).trans ((heap_sets hkg _ _ _).trans rfl)
theorem zeros_int (k : Nat) : (Builtin.zeroCells (Value.int .i64 0).cells k).toList = List.replicate k (.int .i64 0) := by
  have e : (Value.int .i64 0).cells = #[.int .i64 0] := rfl
  rw [e]
  unfold Builtin.zeroCells
  rw [Array.toList_map, Array.toList_range]
  refine List.ext_getElem? fun j => ?_
  rw [List.getElem?_map, List.getElem?_replicate]
  simp only [List.size_toArray, List.length_cons, List.length_nil, Nat.zero_add, Nat.mul_one]
  by_cases hj : j < k
  · rw [List.getElem?_range hj, if_pos hj, Option.map_some, Nat.mod_one]
    rfl
  · rw [List.getElem?_eq_none (by simpa using hj), if_neg hj]
    rfl
set_option maxRecDepth 100000 in
set_option maxHeartbeats 2000000 in
theorem insGrow_any (g cap : Nat) (xs : List Int) (i : Nat) (x : Int) (gv base : Nat) (w : World) (ho : OwnI w base (.slice (some ⟨g, 0, none⟩) xs.length cap) xs) (hi : i < xs.length) (hc : cap < xs.length + 1) (hl : xs.length ≤ 1048576) (hb : base ≤ w.heap.size) (hg : w.heap[gv]? = some (.cells #[.int .i64 x] 3 (0, 0))) :
    Calls Try.prog 63 #[.slice (some ⟨g, 0, none⟩) xs.length cap, .int .i64 (i : Int), .slice (some ⟨gv, 0, none⟩) 1 1] w (PutSays (.slice (some ⟨g, 0, none⟩) xs.length cap) xs i x base w) := by
  have hrd := ho.rd
  have hcc : xs.length ≤ cap := by
    obtain ⟨a', c', he, h1, -⟩ := hrd.numS
    injection he with _ _ e3
    omega
  have hgl : g < w.heap.size := (ho.lt rfl).2
  have hgvl : gv < w.heap.size := heap_lt hg
  obtain ⟨i0, hi0, hz1, hz2, hz3⟩ := info_parts info_int
  obtain ⟨k, hk⟩ : ∃ k : Nat, k = xs.length + 1 - i := ⟨_, rfl⟩
  have hik : i + k = xs.length + 1 := by omega
  have hcell : ∀ (W : World), Aft w W → ∀ j u, (zv xs)[j]? = some u → W.cell? ⟨g, j, none⟩ = some u := fun W hW j u hu => by
    have hj : j < xs.length := by
      have := (List.getElem?_eq_some_iff.1 hu).1
      rwa [zv_length] at this
    rw [zv_at hj] at hu
    have := (hrd.grow hW).num_at hj
    rw [Nat.zero_add] at this
    rw [this]
    exact hu
  have hold : (Builtin.firstCells i0.size i (.slice (some ⟨g, 0, none⟩) i cap)).run Try.prog w.drew = .ok (zv (xs.take i)).toArray w.drew := by
    rw [hz2]
    refine run_firstCells_some w.drew 1 i ⟨g, 0, none⟩ i cap (zv (xs.take i)) (by rw [zv_length, List.length_take]; omega) (fun j v hj => ?_)
    rw [Addr.add_lit, Nat.zero_add]
    refine hcell w.drew ((Below.refl _ _).drew) j v ?_
    rw [← zv_take, List.getElem?_take] at hj
    split at hj
    · exact hj
    · cases hj
  obtain ⟨cG, hcG⟩ : ∃ cG, cG = grownCap w (i + k) cap 3 := ⟨_, rfl⟩
  have hge : xs.length + 1 ≤ cG := by rw [hcG, ← hik]; exact grownCap_ge _ _ _ _
  have hmx : cG ≤ maxLen := by rw [hcG]; exact grownCap_le_maxLen _ _ _ _ (by unfold maxLen; omega)
  obtain ⟨W1, hr1, hA1, hB1⟩ : ∃ W1, (∀ ty, (Builtin.append_ #[22, 3] ty #[.slice (some ⟨g, 0, none⟩) i cap, .int .i64 (k : Int)]).run Try.prog w = .ok (.slice (some ⟨w.heap.size, 0, none⟩) (xs.length + 1) cG) W1) ∧ Aft w W1 ∧ W1.heap[w.heap.size]? = some (.cells (zv (xs.take i) ++ List.replicate (cG - i) (Value.int .i64 0)).toArray 3 (0, 0)) := by
    refine ⟨w.drew.alloc (.cells ((zv (xs.take i)).toArray ++ Builtin.zeroCells (Value.int .i64 0).cells k ++ Builtin.zeroCells (Value.int .i64 0).cells (cG - (xs.length + 1))) 3), fun ty => ?_, ?_, ?_⟩
    · have h := Lib.run_append_grow_zeros w 22 3 ty 3 i0 (.int .i64 0) .i64 .i64 Try.underlying22 Try.underlying3 hi0 hz1 (some ⟨g, 0, none⟩) i cap (zv (xs.take i)) hold k (by omega) (by rw [hz2]; decide) (by omega) (by omega) (by rw [hz3]; omega) (by rw [hz3]; exact growslice_fits (by omega) (by omega))
      rw [hik] at h
      rw [hik] at hcG
      rw [hcG]
      exact h
    · exact ((Below.refl _ _).drew).alloc (Nat.le_refl _) _
    · have h := heap_alloc_new w.drew (.cells ((zv (xs.take i)).toArray ++ Builtin.zeroCells (Value.int .i64 0).cells k ++ Builtin.zeroCells (Value.int .i64 0).cells (cG - (xs.length + 1))) 3)
      have e : (zv (xs.take i)).toArray ++ Builtin.zeroCells (Value.int .i64 0).cells k ++ Builtin.zeroCells (Value.int .i64 0).cells (cG - (xs.length + 1)) = (zv (xs.take i) ++ List.replicate (cG - i) (Value.int .i64 0)).toArray := by
        refine Array.toList_inj.1 ?_
        rw [Array.toList_append, Array.toList_append, zeros_int, zeros_int, List.append_assoc, List.replicate_append_replicate, show k + (cG - (xs.length + 1)) = cG - i by omega]
      rw [e] at h ⊢
      exact h
  have hlt1 : w.heap.size < W1.heap.size := heap_lt hB1
  have hpl : (zv (xs.take i)).length = i := by rw [zv_length, List.length_take]; omega
  have hsp : List.replicate (cG - i) (Value.int .i64 0) = [Value.int .i64 0] ++ List.replicate (cG - (i + 1)) (Value.int .i64 0) := by
    rw [show cG - i = (cG - (i + 1)) + 1 by omega, List.replicate_succ]
    rfl
  have hB1' : W1.heap[w.heap.size]? = some (.cells (zv (xs.take i) ++ ([Value.int .i64 0] ++ List.replicate (cG - (i + 1)) (Value.int .i64 0))).toArray 3 (0, 0)) := by rw [← hsp]; exact hB1
  have hcp1 : ∀ ty dc, (Builtin.copy_ #[22, 22] ty #[.slice (some ⟨w.heap.size, i, none⟩) (xs.length + 1 - i) dc, .slice (some ⟨gv, 0, none⟩) 1 1]).run Try.prog W1 = .ok (goInt 1) (W1.setCells w.heap.size i [.int .i64 x]) := fun ty dc =>
    run_copy_cells W1 _ _ ty 3 w.heap.size i (xs.length + 1 - i) dc ⟨gv, 0, none⟩ 1 1 [.int .i64 x] Try.underlying22 size_int (by simp only [List.length_cons, List.length_nil, Nat.min_def]; split <;> omega)
      (fun j v hj => by rw [Addr.add_lit, Nat.zero_add]; exact cell_part (L := [.int .i64 x]) (Aft.get hA1 hg) hj)
      (fun j hj => by
        have hj0 : j = 0 := by simpa using hj
        subst hj0
        rw [Nat.add_zero, cell_part (n := i) (u := .int .i64 0) hB1' (by rw [List.getElem?_append_right (by omega), hpl, Nat.sub_self]; rfl)]
        rfl)
      (fun j _ => frozen_of hB1) (fun v hv => by simp at hv; subst hv; rfl)
  have hB2 := block_setCells (List.replicate (cG - (i + 1)) (Value.int .i64 0)) [.int .i64 x] [Value.int .i64 0] (zv (xs.take i)) W1 rfl hB1'
  rw [hpl] at hB2
  obtain ⟨W2, hW2⟩ : ∃ W2, W2 = W1.setCells w.heap.size i [.int .i64 x] := ⟨_, rfl⟩
  rw [← hW2] at hB2
  have hbel2 : Below w.heap.size W1 W2 := by rw [hW2]; exact below_sets (Nat.le_refl _) _ _ (Below.refl _ _)
  have hA2 : Aft w W2 := Below.trans hA1 hbel2
  have HCp1 := Lib.hid (show ∀ ty dc, (Builtin.copy_ #[22, 22] ty #[.slice (some ⟨w.heap.size, i, none⟩) (xs.length + 1 - i) dc, .slice (some ⟨gv, 0, none⟩) 1 1]).run Try.prog W1 = .ok (goInt 1) W2 by rw [hW2]; exact hcp1)
  clear hcp1 hW2
  have hln : ((zv xs).drop i).length = xs.length - i := by rw [List.length_drop, zv_length]
  have hsp2 : List.replicate (cG - (i + 1)) (Value.int .i64 0) = List.replicate (xs.length - i) (Value.int .i64 0) ++ List.replicate (cG - (xs.length + 1)) (Value.int .i64 0) := by
    rw [List.replicate_append_replicate, show xs.length - i + (cG - (xs.length + 1)) = cG - (i + 1) by omega]
  have hB2' : W2.drew.heap[w.heap.size]? = some (.cells ((zv (xs.take i) ++ [Value.int .i64 x]) ++ (List.replicate (xs.length - i) (Value.int .i64 0) ++ List.replicate (cG - (xs.length + 1)) (Value.int .i64 0))).toArray 3 (0, 0)) := by
    rw [← hsp2, List.append_assoc]
    exact hB2
  have hpl2 : (zv (xs.take i) ++ [Value.int .i64 x]).length = i + 1 := by rw [List.length_append, hpl]; rfl
  have hcp2 : ∀ ty dc sc, (Builtin.copy_ #[22, 22] ty #[.slice (some ⟨w.heap.size, i + 1, none⟩) (xs.length + 1 - (i + 1)) dc, .slice (some ⟨g, i, none⟩) (xs.length - i) sc]).run Try.prog W2.drew = .ok (goInt ((zv xs).drop i).length) (W2.drew.setCells w.heap.size (i + 1) ((zv xs).drop i)) := fun ty dc sc =>
    run_copy_cells W2.drew _ _ ty 3 w.heap.size (i + 1) (xs.length + 1 - (i + 1)) dc ⟨g, i, none⟩ (xs.length - i) sc ((zv xs).drop i) Try.underlying22 size_int (by rw [hln]; simp only [Nat.min_def]; split <;> omega)
      (fun j v hj => by
        rw [Addr.add_lit]
        rw [List.getElem?_drop] at hj
        exact hcell W2.drew (Below.drew hA2) (i + j) v hj)
      (fun j hj => by
        rw [cell_part (n := i + 1 + j) (u := .int .i64 0) hB2' (by rw [List.getElem?_append_right (by omega), hpl2, show i + 1 + j - (i + 1) = j by omega, List.getElem?_append_left (by rw [List.length_replicate]; omega), List.getElem?_replicate, if_pos (by omega)])]
        rfl)
      (fun j _ => frozen_of hB2') (fun v hv => zv_one xs v (List.mem_of_mem_drop hv))
  have hB3 := block_setCells (List.replicate (cG - (xs.length + 1)) (Value.int .i64 0)) ((zv xs).drop i) (List.replicate (xs.length - i) (Value.int .i64 0)) (zv (xs.take i) ++ [Value.int .i64 x]) W2.drew (by rw [List.length_replicate, hln]) hB2'
  rw [hpl2] at hB3
  obtain ⟨W3, hW3⟩ : ∃ W3, W3 = W2.drew.setCells w.heap.size (i + 1) ((zv xs).drop i) := ⟨_, rfl⟩
  rw [← hW3] at hB3
  have hbel3 : Below w.heap.size W2 W3 := by rw [hW3]; exact below_sets (Nat.le_refl _) _ _ ((Below.refl _ _).drew)
  have hA3 : Aft w W3 := Below.trans hA2 hbel3
  have HCp2 := Lib.hid (show ∀ ty n dc sc, n = xs.length - i → (Builtin.copy_ #[22, 22] ty #[.slice (some ⟨w.heap.size, i + 1, none⟩) n dc, .slice (some ⟨g, i, none⟩) (xs.length - i) sc]).run Try.prog W2.drew = .ok (goInt ((zv xs).drop i).length) W3 by rw [hW3]; intro ty n dc sc hn; have h := hcp2 ty dc sc; rw [show xs.length + 1 - (i + 1) = n by omega] at h; exact h)
  have HR1 := Lib.hid hr1
  have HEnd := Lib.hid (show PutSays (.slice (some ⟨g, 0, none⟩) xs.length cap) xs i x base w (.returned (.slice (some ⟨w.heap.size, 0, none⟩) (xs.length + 1) cG)) W3 from by
    refine ⟨_, rfl, ?_, Fr.of_below hA3, fun g' hg' => .inr ?_⟩
    · refine row_put (w := w) (rest := List.replicate (cG - (xs.length + 1)) (Value.int .i64 0)) (Nat.le_of_lt hi) hb hmx (by rw [List.length_replicate]; omega) ?_
      have e : (zv (xs.take i) ++ [Value.int .i64 x]) ++ ((zv xs).drop i ++ List.replicate (cG - (xs.length + 1)) (Value.int .i64 0)) = zv (putI xs i x) ++ List.replicate (cG - (xs.length + 1)) (Value.int .i64 0) := by
        rw [show zv (putI xs i x) = zv (xs.take i) ++ [Value.int .i64 x] ++ (zv xs).drop i by unfold putI; rw [zv_append, zv_drop]; simp [zv]]
        simp only [List.append_assoc]
      rw [hB3, e]
    · cases hg'
      exact Nat.le_refl _)
  clear hcp2 hW3 hr1 hA1 hA2 hA3 hB1 hB1' hB2 hB2' hB3 hbel2 hbel3 hold hcell hrd ho hz1 hz2 hz3 hi0 hb hg hcG hsp hsp2 hpl hpl2 hln
  have hii : (i : Int) < (xs.length : Nat) := by omega
  have hne : ¬ (i : Int) = (xs.length : Nat) := by omega
  have hcap : (cap : Int) < ((xs.length : Nat) : Int) + 1 := by omega
  have hkk : ((xs.length : Nat) : Int) + 1 - (i : Int) = (k : Int) := by omega
  have hci : ¬ cap = i := by omega
  have hcgi : ¬ cG = i := by omega
  have hcgi1 : ¬ cG = i + 1 := by omega
  have hige : i ≤ cap := by omega
  clear hk hik
  go_enter Try.func63, Try.ntmps63
  go_wp2_with (first | (at_builtin; refine Lib.wpList_append_run _ rfl (.tmp 34) (.tmp 39) 22 3 rfl _ _ rfl rfl _ _ (HR1.out _) ?_) | (refine wpList_copy_runI _ rfl (.tmp 43) (.tmp 44) 22 22 rfl _ _ rfl rfl (HCp1.out _ _) ?_))
  have mixed := ins21.mixed
  have hw1 : IntKind.i64.wrap ((i : Int) + 1) = (i : Int) + 1 := by rw [IntKind.wrap_i64]; omega
  have htn : ((i : Int) + 1).toNat = i + 1 := by omega
  have hb1 : (0 : Int) ≤ (i : Int) + 1 := by omega
  have hin : i ≤ xs.length := by omega
  have hb3 : (i : Int) + 1 ≤ ((xs.length : Nat) : Int) + 1 := by omega
  refine wp_region_lex (fun _ => True) (fun i => ([8] : List Nat).contains i) 9 (by kernel_rfl) (by kernel_rfl) trivial ?_
  change wpLx _ _ _ _ _ _ _ _ _ W2.drew
  simp only [Act.put, List.setIfInBounds_toArray, List.set_cons_succ, List.set_cons_zero]
  repeat (first | (refine lx_skipT (by go_big_quiet_skip; exact wpQuiet_nil trivial) (by kernel_rfl) ?_; simp only [Act.put, List.setIfInBounds_toArray, List.set_cons_succ, List.set_cons_zero]) | (refine lx_quietT rfl (by go_big_quiet_want; exact quiet_false (by assumption)) (by kernel_rfl) rfl ?_; intro Kx hKx; go_big_quiet_op; go_big_quiet_on))
  refine lx_eff rfl (by kernel_rfl) ?_
  intro Kx hKx
  refine wp_copy_runI _ (.tmp 50) (.tmp 53) 22 22 rfl _ _ rfl rfl (HCp2.out _ _ _ _ (by omega)) ?_
  refine hKx _ _ ⟨trivial, ?_⟩
  clear hKx
  refine lx_done ?_
  simp only [Act.put]
  go_wp2_with fail
  go_ret
  exact HEnd.out
/-- slices.Insert of one number, wherever. -/
theorem insI_any (v : Value) (xs : List Int) (i : Nat) (x : Int) (gv base : Nat) (w : World) (ho : OwnI w base v xs) (hi : i ≤ xs.length) (hl : xs.length ≤ 1048576) (hb : base ≤ w.heap.size) (hg : w.heap[gv]? = some (.cells #[.int .i64 x] 3 (0, 0))) (hne : v.ownBlock ≠ some gv) :
    Calls Try.prog 63 #[v, .int .i64 (i : Int), .slice (some ⟨gv, 0, none⟩) 1 1] w (PutSays v xs i x base w) := by
  by_cases he : i = xs.length
  · subst he
    exact insEnd_any v xs x gv base w ho hl hb hg
  · have hlt : i < xs.length := by omega
    obtain ⟨ao, cap, rfl⟩ := ho.shape
    rcases ho.2 with ⟨e, h0⟩ | ⟨g, cap', cur, e, -⟩
    · omega
    · cases e
      by_cases hc : xs.length + 1 ≤ cap
      · exact insRoom_any g cap xs i x gv base w ho hlt hc hg (fun q => hne (by rw [q]; rfl))
      · exact insGrow_any g cap xs i x gv base w ho hlt (by omega) hl hb hg
end Go.Proofs.Ytpnckphfjcnooaa
