/- The walk of the statement on the four bounds. -/
import Derived.Test.YtfbacopjookplaaAwake
import Derived.Test.YtfbacopjookplaaFacts
import Derived.Test.YtfbacopjookplaaOpen
import Derived.Test.YtfbacopjookplaaRows
namespace Go.Proofs.Ytfbacopjookplaa
open Go.ChangeShapes Go.WideShapes Go.ChangeAt Go.RowKit

set_option maxRecDepth 100000 in
set_option maxHeartbeats 4000000 in
theorem boundsLaw_any (hA : AwakeSays) (T R H Re Ca S B : Int) (w : World) : Calls Try.prog 7 #[(.agg #[.int .i64 T, .int .i64 R, .int .i64 H, .int .i64 Re, .int .i64 Ca, .int .i64 S, .int .i64 B])] w fun e w' => e = .returned (.bool true) ∧ Ext w w' := by
  by_cases hok : Okay T R H Re Ca S B
  · have h1 : ∀ w : World, Calls Try.prog 30 #[(.agg #[.int .i64 T, .int .i64 R, .int .i64 H, .int .i64 Re, .int .i64 Ca, .int .i64 S, .int .i64 B])] w fun e w' => e = .returned (.tuple #[.int .i64 (listedF R H Re), .int .i64 0]) ∧ Ext w w' := fun w => listed_any T R H Re Ca S B hok w
    have h2 : ∀ w : World, Calls Try.prog 31 #[(.agg #[.int .i64 T, .int .i64 R, .int .i64 H, .int .i64 Re, .int .i64 Ca, .int .i64 S, .int .i64 B])] w fun e w' => e = .returned (.tuple #[.int .i64 (listedF R H Re * R), .int .i64 0]) ∧ Ext w w' := fun w => retired_any T R H Re Ca S B hok w
    have h3 : ∀ w : World, Calls Try.prog 32 #[(.agg #[.int .i64 T, .int .i64 R, .int .i64 H, .int .i64 Re, .int .i64 Ca, .int .i64 S, .int .i64 B])] w fun e w' => e = .returned (.tuple #[.int .i64 (soloF T R H Ca S (listedF R H Re)), .int .i64 0]) ∧ Ext w w' := fun w => solo_any T R H Re Ca S B hok w
    have h4 : ∀ w : World, Calls Try.prog 33 #[(.agg #[.int .i64 T, .int .i64 R, .int .i64 H, .int .i64 Re, .int .i64 Ca, .int .i64 S, .int .i64 B])] w fun e w' => e = .returned (.tuple #[.int .i64 (windowF T R H Ca S (listedF R H Re) (listedF R H Re * R)), .int .i64 0]) ∧ Ext w w' := fun w => window_any T R H Re Ca S B hok w
    have h5 : ∀ w : World, Calls Try.prog 34 #[(.agg #[.int .i64 T, .int .i64 R, .int .i64 H, .int .i64 Re, .int .i64 Ca, .int .i64 S, .int .i64 B])] w fun e w' => e = .returned (.bool true) ∧ Ext w w' := fun w => by have := config_any T R H Re Ca S B w; rwa [decide_eq_true hok] at this
    have h6 : ∀ w : World, Calls Try.prog 35 #[(.agg #[.int .i64 T, .int .i64 R, .int .i64 H, .int .i64 Re, .int .i64 Ca, .int .i64 S, .int .i64 B])] w fun e w' => e = .returned (.int .i64 (listedF R H Re)) ∧ Ext w w' := fun w => ref13Listed_any T R H Re Ca S B hok w
    have h7 : ∀ w : World, Calls Try.prog 36 #[(.agg #[.int .i64 T, .int .i64 R, .int .i64 H, .int .i64 Re, .int .i64 Ca, .int .i64 S, .int .i64 B])] w fun e w' => e = .returned (.int .i64 (listedF R H Re * R)) ∧ Ext w w' := fun w => by have := ref13Retired_any T R H Re Ca S B hok w; rwa [Int.mul_comm] at this
    have h8 : ∀ w : World, Calls Try.prog 37 #[(.agg #[.int .i64 T, .int .i64 R, .int .i64 H, .int .i64 Re, .int .i64 Ca, .int .i64 S, .int .i64 B])] w fun e w' => e = .returned (.int .i64 (soloF T R H Ca S (listedF R H Re))) ∧ Ext w w' := fun w => ref13Solo_any T R H Re Ca S B hok w
    have h9 : ∀ w : World, Calls Try.prog 38 #[(.agg #[.int .i64 T, .int .i64 R, .int .i64 H, .int .i64 Re, .int .i64 Ca, .int .i64 S, .int .i64 B])] w fun e w' => e = .returned (.int .i64 (windowF T R H Ca S (listedF R H Re) (listedF R H Re * R))) ∧ Ext w w' := fun w => by have := ref13Window_any T R H Re Ca S B hok w; rwa [Int.mul_comm R] at this
    generalize windowF T R H Ca S (listedF R H Re) (listedF R H Re * R) = v4 at *
    generalize soloF T R H Ca S (listedF R H Re) = v3 at *
    generalize listedF R H Re * R = v2 at *
    generalize listedF R H Re = v1 at *
    clear hok
    go_enter Try.func7, Try.ntmps7
    go_upto_region 1 with fail
    obtain ⟨w0, hw0, hC, hE, hlt0⟩ := enter1 w (.cells (cfgV T R H Re Ca S B) 23)
    rw [hw0]
    have HE := Lib.hid hE
    obtain ⟨d0, d1, d2, d3, d4, d5, d6⟩ := Lat.cfg hC
    obtain ⟨k0, hk0⟩ := lat_self w0
    rw [hk0]
    clear hw0 hC hE hk0 hlt0
    go_wp2_with fail
    refine (h1 _).mono ?_
    rintro e w1 ⟨rfl, e1⟩
    obtain ⟨k1, rfl⟩ := lat_next k0 e1
    clear e1
    go_wp2_with fail
    refine (h2 _).mono ?_
    rintro e w1 ⟨rfl, e1⟩
    obtain ⟨k2, rfl⟩ := lat_next k1 e1
    clear e1
    go_wp2_with fail
    refine (h3 _).mono ?_
    rintro e w1 ⟨rfl, e1⟩
    obtain ⟨k3, rfl⟩ := lat_next k2 e1
    clear e1
    go_wp2_with fail
    refine (h4 _).mono ?_
    rintro e w1 ⟨rfl, e1⟩
    obtain ⟨k4, rfl⟩ := lat_next k3 e1
    clear e1
    go_wp2_with fail
    refine (hA _).mono ?_
    rintro e w1 ⟨rfl, e1⟩
    obtain ⟨k5, rfl⟩ := lat_next k4 e1
    clear e1
    go_wp2_with fail
    refine (h5 _).mono ?_
    rintro e w1 ⟨rfl, e1⟩
    obtain ⟨k6, rfl⟩ := lat_next k5 e1
    clear e1
    go_wp2_with fail
    refine (h6 _).mono ?_
    rintro e w1 ⟨rfl, e1⟩
    obtain ⟨k7, rfl⟩ := lat_next k6 e1
    clear e1
    go_wp2_with fail
    refine (h7 _).mono ?_
    rintro e w1 ⟨rfl, e1⟩
    obtain ⟨k8, rfl⟩ := lat_next k7 e1
    clear e1
    go_wp2_with fail
    refine (h8 _).mono ?_
    rintro e w1 ⟨rfl, e1⟩
    obtain ⟨k9, rfl⟩ := lat_next k8 e1
    clear e1
    go_wp2_with fail
    refine (h9 _).mono ?_
    rintro e w1 ⟨rfl, e1⟩
    obtain ⟨k10, rfl⟩ := lat_next k9 e1
    clear e1
    go_wp2_with fail
    go_ret
    exact ⟨rfl, Ext.next HE.out k10.ok⟩
  · have h1 : ∀ w : World, Calls Try.prog 30 #[(.agg #[.int .i64 T, .int .i64 R, .int .i64 H, .int .i64 Re, .int .i64 Ca, .int .i64 S, .int .i64 B])] w fun e w' => e = .returned (.tuple #[.int .i64 0, .int .i64 1]) ∧ Ext w w' := fun w => listed_no T R H Re Ca S B hok w
    have h2 : ∀ w : World, Calls Try.prog 31 #[(.agg #[.int .i64 T, .int .i64 R, .int .i64 H, .int .i64 Re, .int .i64 Ca, .int .i64 S, .int .i64 B])] w fun e w' => e = .returned (.tuple #[.int .i64 0, .int .i64 1]) ∧ Ext w w' := fun w => retired_no T R H Re Ca S B hok w
    have h3 : ∀ w : World, Calls Try.prog 32 #[(.agg #[.int .i64 T, .int .i64 R, .int .i64 H, .int .i64 Re, .int .i64 Ca, .int .i64 S, .int .i64 B])] w fun e w' => e = .returned (.tuple #[.int .i64 0, .int .i64 1]) ∧ Ext w w' := fun w => solo_no T R H Re Ca S B hok w
    have h4 : ∀ w : World, Calls Try.prog 33 #[(.agg #[.int .i64 T, .int .i64 R, .int .i64 H, .int .i64 Re, .int .i64 Ca, .int .i64 S, .int .i64 B])] w fun e w' => e = .returned (.tuple #[.int .i64 0, .int .i64 1]) ∧ Ext w w' := fun w => window_no T R H Re Ca S B hok w
    have h5 : ∀ w : World, Calls Try.prog 34 #[(.agg #[.int .i64 T, .int .i64 R, .int .i64 H, .int .i64 Re, .int .i64 Ca, .int .i64 S, .int .i64 B])] w fun e w' => e = .returned (.bool false) ∧ Ext w w' := fun w => by have := config_any T R H Re Ca S B w; rwa [decide_eq_false hok] at this
    clear hok
    go_enter Try.func7, Try.ntmps7
    go_upto_region 1 with fail
    obtain ⟨w0, hw0, hC, hE, hlt0⟩ := enter1 w (.cells (cfgV T R H Re Ca S B) 23)
    rw [hw0]
    have HE := Lib.hid hE
    obtain ⟨d0, d1, d2, d3, d4, d5, d6⟩ := Lat.cfg hC
    obtain ⟨k0, hk0⟩ := lat_self w0
    rw [hk0]
    clear hw0 hC hE hk0 hlt0
    go_wp2_with fail
    refine (h1 _).mono ?_
    rintro e w1 ⟨rfl, e1⟩
    obtain ⟨k1, rfl⟩ := lat_next k0 e1
    clear e1
    go_wp2_with fail
    refine (h2 _).mono ?_
    rintro e w1 ⟨rfl, e1⟩
    obtain ⟨k2, rfl⟩ := lat_next k1 e1
    clear e1
    go_wp2_with fail
    refine (h3 _).mono ?_
    rintro e w1 ⟨rfl, e1⟩
    obtain ⟨k3, rfl⟩ := lat_next k2 e1
    clear e1
    go_wp2_with fail
    refine (h4 _).mono ?_
    rintro e w1 ⟨rfl, e1⟩
    obtain ⟨k4, rfl⟩ := lat_next k3 e1
    clear e1
    go_wp2_with fail
    refine (hA _).mono ?_
    rintro e w1 ⟨rfl, e1⟩
    obtain ⟨k5, rfl⟩ := lat_next k4 e1
    clear e1
    go_wp2_with fail
    refine (h5 _).mono ?_
    rintro e w1 ⟨rfl, e1⟩
    obtain ⟨k6, rfl⟩ := lat_next k5 e1
    clear e1
    go_wp2_with fail
    go_ret
    exact ⟨rfl, Ext.next HE.out k6.ok⟩

set_option maxRecDepth 100000 in
theorem censusBounds_lifted (hA : AwakeSays) (os : Os) (started : os.Started) (H : Type) (enc : TypeId × Value → H) :
    ReturnsInHanded {} Try.checked os 7 .any (Rows.censusBoundsSpec.pre6 enc Try.prog Try.f7 [] false) (Rows.censusBoundsSpec.post enc Try.prog Try.f7 false true false false) := by
  refine lawWrap (C := Try.checked) (tb := 4) own_ started (by kernel_rfl) Try.func7
    (ChangeSpec.witness6 (enc := enc) (C := Try.checked) false ⟨#[], #[.agg #[.int .i64 0, .int .i64 0, .int .i64 0, .int .i64 0, .int .i64 0, .int .i64 0, .int .i64 0]], []⟩ 8 (by kernel_rfl) (by kernel_rfl) (by kernel_rfl) (by kernel_rfl))
    rfl Try.underlying4 rfl ?_ laidOut_ (by kernel_rfl) ?_
  · intro ds hds
    match ds, hds with
    | [d1], _ => exact ⟨rfl, rfl, rfl⟩
  · intro W base args ds ps hval0 hA0 hlt hsz
    have hval : ∀ (j : Nat) t v, Try.f7.params[j]? = some t → args[j]? = some v → Value.okWide Try.prog W .any base t v := hval0
    have hArgs : DataW.TrodAll enc Try.prog W 0 (fun _ => true) true Try.f7.params.toList args.toList ds ps := hA0
    rw [Try.params7] at hArgs hval
    obtain ⟨v0, d0, rfl, rfl, h0⟩ := trodAll_one hArgs
    obtain ⟨T, R, H', Re, Ca, S, B, rfl, _⟩ := openCfg (hval 0 23 v0 rfl rfl) h0
    exact boundsLaw_any hA T R H' Re Ca S B W

theorem censusBounds_of (hA : AwakeSays) : Rows.CensusBoundsSaid :=
  OpenClaim.holds_of_wide 7 Try.f7 rfl rfl rfl rfl rfl rfl rfl ⟨rfl, rfl, rfl, rfl, rfl⟩ rfl rfl rfl rfl rfl (by kernel_rfl) Try.func7 (by kernel_rfl)
    (of_decide_eq_true (by kernel_rfl)) (by unfold Func.isWrapper; first | (rw [if_pos (by decide +kernel)]; kernel_rfl) | (rw [if_neg (by decide +kernel)]; exact ⟨rfl, rfl⟩))
    (fun os started H enc _ => censusBounds_lifted hA os started H enc)

end Go.Proofs.Ytfbacopjookplaa
