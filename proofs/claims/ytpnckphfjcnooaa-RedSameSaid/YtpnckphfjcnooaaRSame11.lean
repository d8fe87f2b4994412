/- RedSame of law 11, walked. -/
import Derived.Test.YtpnckphfjcnooaaN12
import Derived.Test.YtpnckphfjcnooaaOpenNds
namespace Go.Proofs.Ytpnckphfjcnooaa
open Go Go.RowKit
set_option linter.unusedSimpArgs false
set_option maxRecDepth 100000 in
set_option maxHeartbeats 2000000 in
theorem redSameLaw_any (v u : Value) (ps qs : List (Nd × Value)) (w : World) (hx : RdN w v ps) (hy : RdN w u qs) :
    Calls Try.prog 10 #[v, u] w fun e w' => e = .returned (.bool true) ∧ Aft w w' := by
  have HSa := Lib.hid (fun (wx : World) (ha : Aft w wx) (hp : ps.length ≤ 1000000) => redSame_any v u ps qs wx (hx.aft ha) (hy.aft ha) hp)
  have HSb := Lib.hid (fun (wx : World) (ha : Aft w wx) (hp : ps.length ≤ 1000000) => refSame11_any v u ps qs wx (hx.aft ha) (hy.aft ha) hp)
  obtain ⟨ao, cap, rfl, -, -⟩ := hx.shape
  obtain ⟨bo, dap, rfl, -, -⟩ := hy.shape
  have HL := Lib.hid (Led.start w)
  clear hx hy
  go_enter Try.func10, Try.ntmps10
  go_wp2_with fail
  refine (live11_any _).mono ?_
  rintro e w1 ⟨rfl, h1⟩
  replace HL := Lib.hid (HL.out.call h1)
  clear h1
  by_cases ha : (300 : Int) < (ps.length : Nat)
  · go_wp2_with fail
    go_ret
    exact ⟨rfl, HL.out.aft⟩
  by_cases hb : (300 : Int) < (qs.length : Nat)
  · go_wp2_with fail
    go_ret
    exact ⟨rfl, HL.out.aft⟩
  have hp : ps.length ≤ 1000000 := by omega
  have HP := Lib.hid hp
  clear hp
  go_wp2_with fail
  refine (HSa.out _ HL.out.aft HP.out).mono ?_
  rintro e w2 ⟨rfl, h2⟩
  replace HL := Lib.hid (HL.out.call h2)
  clear h2
  go_wp2_with fail
  refine (HSb.out _ HL.out.aft HP.out).mono ?_
  rintro e w3 ⟨rfl, h3⟩
  replace HL := Lib.hid (HL.out.call h3)
  clear h3
  generalize decide (ps.map Prod.fst = qs.map Prod.fst) = bq at *
  cases bq
  all_goals
    go_wp2_with fail
    go_ret
    exact ⟨rfl, HL.out.aft⟩
end Go.Proofs.Ytpnckphfjcnooaa
