/- CensusGrows: no bound falls when a number of the configuration is raised. -/
import Derived.Test.YtfbacopjookplaaAwake
import Derived.Test.YtfbacopjookplaaFacts
import Derived.Test.YtfbacopjookplaaOpen
import Derived.Test.YtfbacopjookplaaRows
namespace Go.Proofs.Ytfbacopjookplaa
open Go.ChangeShapes Go.WideShapes Go.ChangeAt Go.RowKit

theorem listed_mono {R R' H H' Re Re' : Int} (h1 : 1 ≤ R) (h2 : R ≤ R') (h3 : 3 ≤ H) (h4 : H ≤ H') (h5 : Re ≤ Re') : listedF R H Re ≤ listedF R' H' Re' ∧ Re ≤ listedF R H Re ∧ R * H < listedF R H Re := by
  have a1 : R * H ≤ R' * H' := Int.mul_le_mul h2 h4 (by omega) (by omega)
  have a0 : 0 ≤ R * H := Int.mul_nonneg (by omega) (by omega)
  have a2 : (R - 1) * (R * H) ≤ (R' - 1) * (R' * H') := Int.mul_le_mul (by omega) a1 a0 (by omega)
  have a3 : 0 ≤ (R - 1) * (R * H) := Int.mul_nonneg (by omega) a0
  unfold listedF
  split <;> split <;> omega
theorem solo_mono {T T' R R' H H' Ca Ca' S S' n n' : Int} (t0 : 1 ≤ T) (t1 : T ≤ T') (r0 : 1 ≤ R) (r1 : R ≤ R') (h0 : 3 ≤ H) (h1 : H ≤ H') (c1 : Ca ≤ Ca') (s1 : S ≤ S') (n0 : 0 ≤ n) (n1 : n ≤ n') : soloF T R H Ca S n ≤ soloF T' R' H' Ca' S' n' := by
  have a1 : R * H ≤ R' * H' := Int.mul_le_mul r1 h1 (by omega) (by omega)
  have a0 : 0 ≤ R * H := Int.mul_nonneg (by omega) (by omega)
  have a2 : (T + 2) * (3 * R + R * H + 3 * n + 3) ≤ (T' + 2) * (3 * R' + R' * H' + 3 * n' + 3) := Int.mul_le_mul (by omega) (by omega) (by omega) (by omega)
  unfold soloF
  omega
theorem window_mono {T T' R R' H H' Ca Ca' S S' n n' m m' : Int} (t0 : 1 ≤ T) (t1 : T ≤ T') (r0 : 1 ≤ R) (r1 : R ≤ R') (h0 : 3 ≤ H) (h1 : H ≤ H') (c0 : 0 ≤ Ca) (c1 : Ca ≤ Ca') (s0 : 1 ≤ S) (s1 : S ≤ S') (n0 : 0 ≤ n) (n1 : n ≤ n') (m0 : 0 ≤ m) (m1 : m ≤ m') : windowF T R H Ca S n m ≤ windowF T' R' H' Ca' S' n' m' := by
  have a1 : R * H ≤ R' * H' := Int.mul_le_mul r1 h1 (by omega) (by omega)
  have a0 : 0 ≤ R * H := Int.mul_nonneg (by omega) (by omega)
  have b0 : 0 ≤ T * Ca := Int.mul_nonneg (by omega) c0
  have b1 : T * Ca ≤ T' * Ca' := Int.mul_le_mul t1 c1 c0 (by omega)
  have v0 : 0 ≤ vF T Ca m := by unfold vF; omega
  have v1 : vF T Ca m ≤ vF T' Ca' m' := by unfold vF; omega
  have a2 : (T + 2) * (3 * R + R * H + 3 * n) ≤ (T' + 2) * (3 * R' + R' * H' + 3 * n') := Int.mul_le_mul (by omega) (by omega) (by omega) (by omega)
  have a3 : 0 ≤ (T + 2) * (3 * R + R * H + 3 * n) := Int.mul_nonneg (by omega) (by omega)
  have a4 : (vF T Ca m + 6) * (7 * (S + T) + 12) ≤ (vF T' Ca' m' + 6) * (7 * (S' + T') + 12) := Int.mul_le_mul (by omega) (by omega) (by omega) (by omega)
  have a5 : 0 ≤ (vF T Ca m + 6) * (7 * (S + T) + 12) := Int.mul_nonneg (by omega) (by omega)
  unfold windowF
  have a6 := Int.mul_le_mul (a := T) (b := (vF T Ca m + 6) * (7 * (S + T) + 12) + (T + 2) * (3 * R + R * H + 3 * n) + 3 * vF T Ca m + 3 * Ca + 2 * R + H + 43) (c := T') (d := (vF T' Ca' m' + 6) * (7 * (S' + T') + 12) + (T' + 2) * (3 * R' + R' * H' + 3 * n') + 3 * vF T' Ca' m' + 3 * Ca' + 2 * R' + H' + 43) t1 (by omega) (by omega) (by omega)
  omega

set_option maxRecDepth 100000 in
set_option maxHeartbeats 4000000 in
theorem grow0_no (hA : AwakeSays) (T R H Re Ca S B : Int) (hok : ¬ Okay T R H Re Ca S B) (w : World) : Calls Try.prog 8 #[(.agg #[.int .i64 T, .int .i64 R, .int .i64 H, .int .i64 Re, .int .i64 Ca, .int .i64 S, .int .i64 B]), .int .i64 0] w fun e w' => e = .returned (.bool true) ∧ Ext w w' := by
  have h5 : ∀ w : World, Calls Try.prog 34 #[.agg #[.int .i64 T, .int .i64 R, .int .i64 H, .int .i64 Re, .int .i64 Ca, .int .i64 S, .int .i64 B]] w fun e w' => e = .returned (.bool false) ∧ Ext w w' := fun w => by have := config_any T R H Re Ca S B w; rwa [decide_eq_false hok] at this
  clear hok
  go_enter Try.func8, Try.ntmps8
  go_upto_region 1 with fail
  obtain ⟨w0, hw0, hC, hE, hlt0⟩ := enter1 w (.cells (cfgV T R H Re Ca S B) 23)
  rw [hw0]
  have HE := Lib.hid hE
  have HC := Lib.hid hC
  obtain ⟨d0, d1, d2, d3, d4, d5, d6⟩ := Lat.cfg hC
  obtain ⟨k0, hk0⟩ := lat_self w0
  rw [hk0]
  clear hw0 hC hE hk0 hlt0
  go_wp2_with fail
  refine (hA _).mono ?_
  rintro e w1 ⟨rfl, e1⟩
  obtain ⟨k1, rfl⟩ := lat_next k0 e1
  clear e1
  go_upto_region 18 with fail
  obtain ⟨w2, hw2, hD, hE2, hlt2⟩ := enter1 k1.world (.cells #[.int .i64 (wrap64 (T + 1)), .int .i64 R, .int .i64 H, .int .i64 Re, .int .i64 Ca, .int .i64 S, .int .i64 B] 23)
  rw [hw2]
  have HE2 := Lib.hid (Ext.next k1.ok hE2)
  obtain ⟨k2, hk2⟩ := lat_of HE2.out
  rw [hk2]
  clear hw2 hD hE2 hlt2 hk2
  go_wp2_with fail
  refine (h5 _).mono ?_
  rintro e w1 ⟨rfl, e1⟩
  obtain ⟨k3, rfl⟩ := lat_next k2 e1
  clear e1
  go_wp2_with fail
  go_ret
  exact ⟨rfl, Ext.next HE.out k3.ok⟩
set_option maxRecDepth 100000 in
set_option maxHeartbeats 4000000 in
theorem grow0_any (hA : AwakeSays) (T R H Re Ca S B : Int) (hok : Okay T R H Re Ca S B) (w : World) : Calls Try.prog 8 #[(.agg #[.int .i64 T, .int .i64 R, .int .i64 H, .int .i64 Re, .int .i64 Ca, .int .i64 S, .int .i64 B]), .int .i64 0] w fun e w' => e = .returned (.bool true) ∧ Ext w w' := by
  have hok' := hok
  unfold Okay at hok'
  obtain ⟨a1, a2, a3, a4, a5, a6, a7, a8, a9, a10, a11, a12, a13, a14⟩ := hok'
  have hl0 := (listed_bd hok).1
  obtain ⟨m1, m2, m3⟩ := listed_mono (R := R) (R' := R) (H := H) (H' := H) (Re := Re) (Re' := Re) a3 (by omega) a5 (by omega) (by omega)
  have hr0 : 0 ≤ listedF R H Re * R := Int.mul_nonneg hl0 (by omega)
  have m4 : listedF R H Re * R ≤ listedF R H Re * R := Int.mul_le_mul m1 (by omega) (by omega) (by omega)
  have m5 : soloF T R H Ca S (listedF R H Re) ≤ soloF (T + 1) R H Ca S (listedF R H Re) := solo_mono a1 (by omega) a3 (by omega) a5 (by omega) (by omega) (by omega) hl0 m1
  have m6 : windowF T R H Ca S (listedF R H Re) (listedF R H Re * R) ≤ windowF (T + 1) R H Ca S (listedF R H Re) (listedF R H Re * R) := window_mono a1 (by omega) a3 (by omega) a5 (by omega) a9 (by omega) a11 (by omega) hl0 m1 hr0 m4
  have h5 : ∀ w : World, Calls Try.prog 34 #[.agg #[.int .i64 T, .int .i64 R, .int .i64 H, .int .i64 Re, .int .i64 Ca, .int .i64 S, .int .i64 B]] w fun e w' => e = .returned (.bool true) ∧ Ext w w' := fun w => by have := config_any T R H Re Ca S B w; rwa [decide_eq_true hok] at this
  have p1 : ∀ w : World, Calls Try.prog 30 #[.agg #[.int .i64 T, .int .i64 R, .int .i64 H, .int .i64 Re, .int .i64 Ca, .int .i64 S, .int .i64 B]] w fun e w' => e = .returned (.tuple #[.int .i64 (listedF R H Re), .int .i64 0]) ∧ Ext w w' := fun w => listed_any T R H Re Ca S B hok w
  have p2 : ∀ w : World, Calls Try.prog 31 #[.agg #[.int .i64 T, .int .i64 R, .int .i64 H, .int .i64 Re, .int .i64 Ca, .int .i64 S, .int .i64 B]] w fun e w' => e = .returned (.tuple #[.int .i64 (listedF R H Re * R), .int .i64 0]) ∧ Ext w w' := fun w => retired_any T R H Re Ca S B hok w
  have p3 : ∀ w : World, Calls Try.prog 32 #[.agg #[.int .i64 T, .int .i64 R, .int .i64 H, .int .i64 Re, .int .i64 Ca, .int .i64 S, .int .i64 B]] w fun e w' => e = .returned (.tuple #[.int .i64 (soloF T R H Ca S (listedF R H Re)), .int .i64 0]) ∧ Ext w w' := fun w => solo_any T R H Re Ca S B hok w
  have p4 : ∀ w : World, Calls Try.prog 33 #[.agg #[.int .i64 T, .int .i64 R, .int .i64 H, .int .i64 Re, .int .i64 Ca, .int .i64 S, .int .i64 B]] w fun e w' => e = .returned (.tuple #[.int .i64 (windowF T R H Ca S (listedF R H Re) (listedF R H Re * R)), .int .i64 0]) ∧ Ext w w' := fun w => window_any T R H Re Ca S B hok w
  have hRH := mul_bd (a := R) (b := H) (A := 16) (B := 8) (by omega) a4 (by omega) a6
  obtain ⟨hRH1, hRH2⟩ := hRH
  by_cases hod : Okay (T + 1) R H Re Ca S B
  · have h6 : ∀ w : World, Calls Try.prog 34 #[.agg #[.int .i64 (T + 1), .int .i64 R, .int .i64 H, .int .i64 Re, .int .i64 Ca, .int .i64 S, .int .i64 B]] w fun e w' => e = .returned (.bool true) ∧ Ext w w' := fun w => by have := config_any (T + 1) R H Re Ca S B w; rwa [decide_eq_true hod] at this
    have q1 : ∀ w : World, Calls Try.prog 30 #[.agg #[.int .i64 (T + 1), .int .i64 R, .int .i64 H, .int .i64 Re, .int .i64 Ca, .int .i64 S, .int .i64 B]] w fun e w' => e = .returned (.tuple #[.int .i64 (listedF R H Re), .int .i64 0]) ∧ Ext w w' := fun w => listed_any (T + 1) R H Re Ca S B hod w
    have q2 : ∀ w : World, Calls Try.prog 31 #[.agg #[.int .i64 (T + 1), .int .i64 R, .int .i64 H, .int .i64 Re, .int .i64 Ca, .int .i64 S, .int .i64 B]] w fun e w' => e = .returned (.tuple #[.int .i64 (listedF R H Re * R), .int .i64 0]) ∧ Ext w w' := fun w => retired_any (T + 1) R H Re Ca S B hod w
    have q3 : ∀ w : World, Calls Try.prog 32 #[.agg #[.int .i64 (T + 1), .int .i64 R, .int .i64 H, .int .i64 Re, .int .i64 Ca, .int .i64 S, .int .i64 B]] w fun e w' => e = .returned (.tuple #[.int .i64 (soloF (T + 1) R H Ca S (listedF R H Re)), .int .i64 0]) ∧ Ext w w' := fun w => solo_any (T + 1) R H Re Ca S B hod w
    have q4 : ∀ w : World, Calls Try.prog 33 #[.agg #[.int .i64 (T + 1), .int .i64 R, .int .i64 H, .int .i64 Re, .int .i64 Ca, .int .i64 S, .int .i64 B]] w fun e w' => e = .returned (.tuple #[.int .i64 (windowF (T + 1) R H Ca S (listedF R H Re) (listedF R H Re * R)), .int .i64 0]) ∧ Ext w w' := fun w => window_any (T + 1) R H Re Ca S B hod w
    clear hok hod
    have z1 : decide (listedF R H Re < listedF R H Re) = false := decide_eq_false (by omega)
    have z2 : decide (listedF R H Re < Re) = false := decide_eq_false (by omega)
    have z3 : decide (listedF R H Re ≤ R * H) = false := decide_eq_false (by omega)
    have z4 : decide (listedF R H Re * R < listedF R H Re * R) = false := decide_eq_false (by omega)
    have z5 : decide (soloF (T + 1) R H Ca S (listedF R H Re) < soloF T R H Ca S (listedF R H Re)) = false := decide_eq_false (by omega)
    have z6 : decide (windowF T R H Ca S (listedF R H Re) (listedF R H Re * R) ≤ windowF (T + 1) R H Ca S (listedF R H Re) (listedF R H Re * R)) = true := decide_eq_true m6
    clear m1 m2 m3 m4 m5 m6
    go_enter Try.func8, Try.ntmps8
    go_upto_region 1 with fail
    obtain ⟨w0, hw0, hC, hE, hlt0⟩ := enter1 w (.cells (cfgV T R H Re Ca S B) 23)
    rw [hw0]
    have HE := Lib.hid hE
    have HC := Lib.hid hC
    obtain ⟨d0, d1, d2, d3, d4, d5, d6⟩ := Lat.cfg hC
    obtain ⟨k0, hk0⟩ := lat_self w0
    rw [hk0]
    clear hw0 hC hE hk0 hlt0
    go_wp2_with fail
    refine (hA _).mono ?_
    rintro e w1 ⟨rfl, e1⟩
    obtain ⟨k1, rfl⟩ := lat_next k0 e1
    clear e1
    go_upto_region 18 with fail
    obtain ⟨w2, hw2, hD, hE2, hlt2⟩ := enter1 k1.world (.cells #[.int .i64 (T + 1), .int .i64 R, .int .i64 H, .int .i64 Re, .int .i64 Ca, .int .i64 S, .int .i64 B] 23)
    rw [hw2]
    have HE2 := Lib.hid (Ext.next k1.ok hE2)
    clear d0 d1 d2 d3 d4 d5 d6
    obtain ⟨d0, d1, d2, d3, d4, d5, d6⟩ := Lat.cfg (ext_blk HE2.out HC.out)
    obtain ⟨e0, e1, e2, e3, e4, e5, e6⟩ := Lat.cfg hD
    obtain ⟨k2, hk2⟩ := lat_self w2
    rw [hk2]
    generalize k1.world.heap.size = pd at *
    clear hw2 hD hE2 hlt2 hk2
    go_wp2_with fail
    refine (h5 _).mono ?_
    rintro e w1 ⟨rfl, e1⟩
    obtain ⟨k3, rfl⟩ := lat_next k2 e1
    clear e1
    go_wp2_with fail
    refine (h6 _).mono ?_
    rintro e w1 ⟨rfl, e1⟩
    obtain ⟨k4, rfl⟩ := lat_next k3 e1
    clear e1
    go_wp2_with fail
    refine (p1 _).mono ?_
    rintro e w1 ⟨rfl, e1⟩
    obtain ⟨k5, rfl⟩ := lat_next k4 e1
    clear e1
    go_wp2_with fail
    refine (q1 _).mono ?_
    rintro e w1 ⟨rfl, e1⟩
    obtain ⟨k6, rfl⟩ := lat_next k5 e1
    clear e1
    go_wp2_with fail
    refine (p2 _).mono ?_
    rintro e w1 ⟨rfl, e1⟩
    obtain ⟨k7, rfl⟩ := lat_next k6 e1
    clear e1
    go_wp2_with fail
    refine (q2 _).mono ?_
    rintro e w1 ⟨rfl, e1⟩
    obtain ⟨k8, rfl⟩ := lat_next k7 e1
    clear e1
    go_wp2_with fail
    refine (p3 _).mono ?_
    rintro e w1 ⟨rfl, e1⟩
    obtain ⟨k9, rfl⟩ := lat_next k8 e1
    clear e1
    go_wp2_with fail
    refine (q3 _).mono ?_
    rintro e w1 ⟨rfl, e1⟩
    obtain ⟨k10, rfl⟩ := lat_next k9 e1
    clear e1
    go_wp2_with fail
    refine (p4 _).mono ?_
    rintro e w1 ⟨rfl, e1⟩
    obtain ⟨k11, rfl⟩ := lat_next k10 e1
    clear e1
    go_wp2_with fail
    refine (q4 _).mono ?_
    rintro e w1 ⟨rfl, e1⟩
    obtain ⟨k12, rfl⟩ := lat_next k11 e1
    clear e1
    go_wp2_with fail
    go_ret
    exact ⟨rfl, Ext.next HE.out (Ext.next HE2.out k12.ok)⟩
  · have h6 : ∀ w : World, Calls Try.prog 34 #[.agg #[.int .i64 (T + 1), .int .i64 R, .int .i64 H, .int .i64 Re, .int .i64 Ca, .int .i64 S, .int .i64 B]] w fun e w' => e = .returned (.bool false) ∧ Ext w w' := fun w => by have := config_any (T + 1) R H Re Ca S B w; rwa [decide_eq_false hod] at this
    clear hok hod m1 m2 m3 m4 m5 m6 p1 p2 p3 p4 hr0 hl0
    go_enter Try.func8, Try.ntmps8
    go_upto_region 1 with fail
    obtain ⟨w0, hw0, hC, hE, hlt0⟩ := enter1 w (.cells (cfgV T R H Re Ca S B) 23)
    rw [hw0]
    have HE := Lib.hid hE
    have HC := Lib.hid hC
    obtain ⟨d0, d1, d2, d3, d4, d5, d6⟩ := Lat.cfg hC
    obtain ⟨k0, hk0⟩ := lat_self w0
    rw [hk0]
    clear hw0 hC hE hk0 hlt0
    go_wp2_with fail
    refine (hA _).mono ?_
    rintro e w1 ⟨rfl, e1⟩
    obtain ⟨k1, rfl⟩ := lat_next k0 e1
    clear e1
    go_upto_region 18 with fail
    obtain ⟨w2, hw2, hD, hE2, hlt2⟩ := enter1 k1.world (.cells #[.int .i64 (T + 1), .int .i64 R, .int .i64 H, .int .i64 Re, .int .i64 Ca, .int .i64 S, .int .i64 B] 23)
    rw [hw2]
    have HE2 := Lib.hid (Ext.next k1.ok hE2)
    clear d0 d1 d2 d3 d4 d5 d6
    obtain ⟨d0, d1, d2, d3, d4, d5, d6⟩ := Lat.cfg (ext_blk HE2.out HC.out)
    obtain ⟨e0, e1, e2, e3, e4, e5, e6⟩ := Lat.cfg hD
    obtain ⟨k2, hk2⟩ := lat_self w2
    rw [hk2]
    generalize k1.world.heap.size = pd at *
    clear hw2 hD hE2 hlt2 hk2
    go_wp2_with fail
    refine (h5 _).mono ?_
    rintro e w1 ⟨rfl, e1⟩
    obtain ⟨k3, rfl⟩ := lat_next k2 e1
    clear e1
    go_wp2_with fail
    refine (h6 _).mono ?_
    rintro e w1 ⟨rfl, e1⟩
    obtain ⟨k4, rfl⟩ := lat_next k3 e1
    clear e1
    go_wp2_with fail
    go_ret
    exact ⟨rfl, Ext.next HE.out (Ext.next HE2.out k4.ok)⟩
set_option maxRecDepth 100000 in
set_option maxHeartbeats 4000000 in
theorem grow1_no (hA : AwakeSays) (T R H Re Ca S B : Int) (hok : ¬ Okay T R H Re Ca S B) (w : World) : Calls Try.prog 8 #[(.agg #[.int .i64 T, .int .i64 R, .int .i64 H, .int .i64 Re, .int .i64 Ca, .int .i64 S, .int .i64 B]), .int .i64 1] w fun e w' => e = .returned (.bool true) ∧ Ext w w' := by
  have h5 : ∀ w : World, Calls Try.prog 34 #[.agg #[.int .i64 T, .int .i64 R, .int .i64 H, .int .i64 Re, .int .i64 Ca, .int .i64 S, .int .i64 B]] w fun e w' => e = .returned (.bool false) ∧ Ext w w' := fun w => by have := config_any T R H Re Ca S B w; rwa [decide_eq_false hok] at this
  clear hok
  go_enter Try.func8, Try.ntmps8
  go_upto_region 1 with fail
  obtain ⟨w0, hw0, hC, hE, hlt0⟩ := enter1 w (.cells (cfgV T R H Re Ca S B) 23)
  rw [hw0]
  have HE := Lib.hid hE
  have HC := Lib.hid hC
  obtain ⟨d0, d1, d2, d3, d4, d5, d6⟩ := Lat.cfg hC
  obtain ⟨k0, hk0⟩ := lat_self w0
  rw [hk0]
  clear hw0 hC hE hk0 hlt0
  go_wp2_with fail
  refine (hA _).mono ?_
  rintro e w1 ⟨rfl, e1⟩
  obtain ⟨k1, rfl⟩ := lat_next k0 e1
  clear e1
  go_upto_region 18 with fail
  obtain ⟨w2, hw2, hD, hE2, hlt2⟩ := enter1 k1.world (.cells #[.int .i64 T, .int .i64 (wrap64 (R + 1)), .int .i64 H, .int .i64 Re, .int .i64 Ca, .int .i64 S, .int .i64 B] 23)
  rw [hw2]
  have HE2 := Lib.hid (Ext.next k1.ok hE2)
  obtain ⟨k2, hk2⟩ := lat_of HE2.out
  rw [hk2]
  clear hw2 hD hE2 hlt2 hk2
  go_wp2_with fail
  refine (h5 _).mono ?_
  rintro e w1 ⟨rfl, e1⟩
  obtain ⟨k3, rfl⟩ := lat_next k2 e1
  clear e1
  go_wp2_with fail
  go_ret
  exact ⟨rfl, Ext.next HE.out k3.ok⟩
set_option maxRecDepth 100000 in
set_option maxHeartbeats 4000000 in
theorem grow1_any (hA : AwakeSays) (T R H Re Ca S B : Int) (hok : Okay T R H Re Ca S B) (w : World) : Calls Try.prog 8 #[(.agg #[.int .i64 T, .int .i64 R, .int .i64 H, .int .i64 Re, .int .i64 Ca, .int .i64 S, .int .i64 B]), .int .i64 1] w fun e w' => e = .returned (.bool true) ∧ Ext w w' := by
  have hok' := hok
  unfold Okay at hok'
  obtain ⟨a1, a2, a3, a4, a5, a6, a7, a8, a9, a10, a11, a12, a13, a14⟩ := hok'
  have hl0 := (listed_bd hok).1
  obtain ⟨m1, m2, m3⟩ := listed_mono (R := R) (R' := (R + 1)) (H := H) (H' := H) (Re := Re) (Re' := Re) a3 (by omega) a5 (by omega) (by omega)
  have hr0 : 0 ≤ listedF R H Re * R := Int.mul_nonneg hl0 (by omega)
  have m4 : listedF R H Re * R ≤ listedF (R + 1) H Re * (R + 1) := Int.mul_le_mul m1 (by omega) (by omega) (by omega)
  have m5 : soloF T R H Ca S (listedF R H Re) ≤ soloF T (R + 1) H Ca S (listedF (R + 1) H Re) := solo_mono a1 (by omega) a3 (by omega) a5 (by omega) (by omega) (by omega) hl0 m1
  have m6 : windowF T R H Ca S (listedF R H Re) (listedF R H Re * R) ≤ windowF T (R + 1) H Ca S (listedF (R + 1) H Re) (listedF (R + 1) H Re * (R + 1)) := window_mono a1 (by omega) a3 (by omega) a5 (by omega) a9 (by omega) a11 (by omega) hl0 m1 hr0 m4
  have h5 : ∀ w : World, Calls Try.prog 34 #[.agg #[.int .i64 T, .int .i64 R, .int .i64 H, .int .i64 Re, .int .i64 Ca, .int .i64 S, .int .i64 B]] w fun e w' => e = .returned (.bool true) ∧ Ext w w' := fun w => by have := config_any T R H Re Ca S B w; rwa [decide_eq_true hok] at this
  have p1 : ∀ w : World, Calls Try.prog 30 #[.agg #[.int .i64 T, .int .i64 R, .int .i64 H, .int .i64 Re, .int .i64 Ca, .int .i64 S, .int .i64 B]] w fun e w' => e = .returned (.tuple #[.int .i64 (listedF R H Re), .int .i64 0]) ∧ Ext w w' := fun w => listed_any T R H Re Ca S B hok w
  have p2 : ∀ w : World, Calls Try.prog 31 #[.agg #[.int .i64 T, .int .i64 R, .int .i64 H, .int .i64 Re, .int .i64 Ca, .int .i64 S, .int .i64 B]] w fun e w' => e = .returned (.tuple #[.int .i64 (listedF R H Re * R), .int .i64 0]) ∧ Ext w w' := fun w => retired_any T R H Re Ca S B hok w
  have p3 : ∀ w : World, Calls Try.prog 32 #[.agg #[.int .i64 T, .int .i64 R, .int .i64 H, .int .i64 Re, .int .i64 Ca, .int .i64 S, .int .i64 B]] w fun e w' => e = .returned (.tuple #[.int .i64 (soloF T R H Ca S (listedF R H Re)), .int .i64 0]) ∧ Ext w w' := fun w => solo_any T R H Re Ca S B hok w
  have p4 : ∀ w : World, Calls Try.prog 33 #[.agg #[.int .i64 T, .int .i64 R, .int .i64 H, .int .i64 Re, .int .i64 Ca, .int .i64 S, .int .i64 B]] w fun e w' => e = .returned (.tuple #[.int .i64 (windowF T R H Ca S (listedF R H Re) (listedF R H Re * R)), .int .i64 0]) ∧ Ext w w' := fun w => window_any T R H Re Ca S B hok w
  have hRH := mul_bd (a := R) (b := H) (A := 16) (B := 8) (by omega) a4 (by omega) a6
  obtain ⟨hRH1, hRH2⟩ := hRH
  by_cases hod : Okay T (R + 1) H Re Ca S B
  · have h6 : ∀ w : World, Calls Try.prog 34 #[.agg #[.int .i64 T, .int .i64 (R + 1), .int .i64 H, .int .i64 Re, .int .i64 Ca, .int .i64 S, .int .i64 B]] w fun e w' => e = .returned (.bool true) ∧ Ext w w' := fun w => by have := config_any T (R + 1) H Re Ca S B w; rwa [decide_eq_true hod] at this
    have q1 : ∀ w : World, Calls Try.prog 30 #[.agg #[.int .i64 T, .int .i64 (R + 1), .int .i64 H, .int .i64 Re, .int .i64 Ca, .int .i64 S, .int .i64 B]] w fun e w' => e = .returned (.tuple #[.int .i64 (listedF (R + 1) H Re), .int .i64 0]) ∧ Ext w w' := fun w => listed_any T (R + 1) H Re Ca S B hod w
    have q2 : ∀ w : World, Calls Try.prog 31 #[.agg #[.int .i64 T, .int .i64 (R + 1), .int .i64 H, .int .i64 Re, .int .i64 Ca, .int .i64 S, .int .i64 B]] w fun e w' => e = .returned (.tuple #[.int .i64 (listedF (R + 1) H Re * (R + 1)), .int .i64 0]) ∧ Ext w w' := fun w => retired_any T (R + 1) H Re Ca S B hod w
    have q3 : ∀ w : World, Calls Try.prog 32 #[.agg #[.int .i64 T, .int .i64 (R + 1), .int .i64 H, .int .i64 Re, .int .i64 Ca, .int .i64 S, .int .i64 B]] w fun e w' => e = .returned (.tuple #[.int .i64 (soloF T (R + 1) H Ca S (listedF (R + 1) H Re)), .int .i64 0]) ∧ Ext w w' := fun w => solo_any T (R + 1) H Re Ca S B hod w
    have q4 : ∀ w : World, Calls Try.prog 33 #[.agg #[.int .i64 T, .int .i64 (R + 1), .int .i64 H, .int .i64 Re, .int .i64 Ca, .int .i64 S, .int .i64 B]] w fun e w' => e = .returned (.tuple #[.int .i64 (windowF T (R + 1) H Ca S (listedF (R + 1) H Re) (listedF (R + 1) H Re * (R + 1))), .int .i64 0]) ∧ Ext w w' := fun w => window_any T (R + 1) H Re Ca S B hod w
    clear hok hod
    have z1 : decide (listedF (R + 1) H Re < listedF R H Re) = false := decide_eq_false (by omega)
    have z2 : decide (listedF R H Re < Re) = false := decide_eq_false (by omega)
    have z3 : decide (listedF R H Re ≤ R * H) = false := decide_eq_false (by omega)
    have z4 : decide (listedF (R + 1) H Re * (R + 1) < listedF R H Re * R) = false := decide_eq_false (by omega)
    have z5 : decide (soloF T (R + 1) H Ca S (listedF (R + 1) H Re) < soloF T R H Ca S (listedF R H Re)) = false := decide_eq_false (by omega)
    have z6 : decide (windowF T R H Ca S (listedF R H Re) (listedF R H Re * R) ≤ windowF T (R + 1) H Ca S (listedF (R + 1) H Re) (listedF (R + 1) H Re * (R + 1))) = true := decide_eq_true m6
    clear m1 m2 m3 m4 m5 m6
    go_enter Try.func8, Try.ntmps8
    go_upto_region 1 with fail
    obtain ⟨w0, hw0, hC, hE, hlt0⟩ := enter1 w (.cells (cfgV T R H Re Ca S B) 23)
    rw [hw0]
    have HE := Lib.hid hE
    have HC := Lib.hid hC
    obtain ⟨d0, d1, d2, d3, d4, d5, d6⟩ := Lat.cfg hC
    obtain ⟨k0, hk0⟩ := lat_self w0
    rw [hk0]
    clear hw0 hC hE hk0 hlt0
    go_wp2_with fail
    refine (hA _).mono ?_
    rintro e w1 ⟨rfl, e1⟩
    obtain ⟨k1, rfl⟩ := lat_next k0 e1
    clear e1
    go_upto_region 18 with fail
    obtain ⟨w2, hw2, hD, hE2, hlt2⟩ := enter1 k1.world (.cells #[.int .i64 T, .int .i64 (R + 1), .int .i64 H, .int .i64 Re, .int .i64 Ca, .int .i64 S, .int .i64 B] 23)
    rw [hw2]
    have HE2 := Lib.hid (Ext.next k1.ok hE2)
    clear d0 d1 d2 d3 d4 d5 d6
    obtain ⟨d0, d1, d2, d3, d4, d5, d6⟩ := Lat.cfg (ext_blk HE2.out HC.out)
    obtain ⟨e0, e1, e2, e3, e4, e5, e6⟩ := Lat.cfg hD
    obtain ⟨k2, hk2⟩ := lat_self w2
    rw [hk2]
    generalize k1.world.heap.size = pd at *
    clear hw2 hD hE2 hlt2 hk2
    go_wp2_with fail
    refine (h5 _).mono ?_
    rintro e w1 ⟨rfl, e1⟩
    obtain ⟨k3, rfl⟩ := lat_next k2 e1
    clear e1
    go_wp2_with fail
    refine (h6 _).mono ?_
    rintro e w1 ⟨rfl, e1⟩
    obtain ⟨k4, rfl⟩ := lat_next k3 e1
    clear e1
    go_wp2_with fail
    refine (p1 _).mono ?_
    rintro e w1 ⟨rfl, e1⟩
    obtain ⟨k5, rfl⟩ := lat_next k4 e1
    clear e1
    go_wp2_with fail
    refine (q1 _).mono ?_
    rintro e w1 ⟨rfl, e1⟩
    obtain ⟨k6, rfl⟩ := lat_next k5 e1
    clear e1
    go_wp2_with fail
    refine (p2 _).mono ?_
    rintro e w1 ⟨rfl, e1⟩
    obtain ⟨k7, rfl⟩ := lat_next k6 e1
    clear e1
    go_wp2_with fail
    refine (q2 _).mono ?_
    rintro e w1 ⟨rfl, e1⟩
    obtain ⟨k8, rfl⟩ := lat_next k7 e1
    clear e1
    go_wp2_with fail
    refine (p3 _).mono ?_
    rintro e w1 ⟨rfl, e1⟩
    obtain ⟨k9, rfl⟩ := lat_next k8 e1
    clear e1
    go_wp2_with fail
    refine (q3 _).mono ?_
    rintro e w1 ⟨rfl, e1⟩
    obtain ⟨k10, rfl⟩ := lat_next k9 e1
    clear e1
    go_wp2_with fail
    refine (p4 _).mono ?_
    rintro e w1 ⟨rfl, e1⟩
    obtain ⟨k11, rfl⟩ := lat_next k10 e1
    clear e1
    go_wp2_with fail
    refine (q4 _).mono ?_
    rintro e w1 ⟨rfl, e1⟩
    obtain ⟨k12, rfl⟩ := lat_next k11 e1
    clear e1
    go_wp2_with fail
    go_ret
    exact ⟨rfl, Ext.next HE.out (Ext.next HE2.out k12.ok)⟩
  · have h6 : ∀ w : World, Calls Try.prog 34 #[.agg #[.int .i64 T, .int .i64 (R + 1), .int .i64 H, .int .i64 Re, .int .i64 Ca, .int .i64 S, .int .i64 B]] w fun e w' => e = .returned (.bool false) ∧ Ext w w' := fun w => by have := config_any T (R + 1) H Re Ca S B w; rwa [decide_eq_false hod] at this
    clear hok hod m1 m2 m3 m4 m5 m6 p1 p2 p3 p4 hr0 hl0
    go_enter Try.func8, Try.ntmps8
    go_upto_region 1 with fail
    obtain ⟨w0, hw0, hC, hE, hlt0⟩ := enter1 w (.cells (cfgV T R H Re Ca S B) 23)
    rw [hw0]
    have HE := Lib.hid hE
    have HC := Lib.hid hC
    obtain ⟨d0, d1, d2, d3, d4, d5, d6⟩ := Lat.cfg hC
    obtain ⟨k0, hk0⟩ := lat_self w0
    rw [hk0]
    clear hw0 hC hE hk0 hlt0
    go_wp2_with fail
    refine (hA _).mono ?_
    rintro e w1 ⟨rfl, e1⟩
    obtain ⟨k1, rfl⟩ := lat_next k0 e1
    clear e1
    go_upto_region 18 with fail
    obtain ⟨w2, hw2, hD, hE2, hlt2⟩ := enter1 k1.world (.cells #[.int .i64 T, .int .i64 (R + 1), .int .i64 H, .int .i64 Re, .int .i64 Ca, .int .i64 S, .int .i64 B] 23)
    rw [hw2]
    have HE2 := Lib.hid (Ext.next k1.ok hE2)
    clear d0 d1 d2 d3 d4 d5 d6
    obtain ⟨d0, d1, d2, d3, d4, d5, d6⟩ := Lat.cfg (ext_blk HE2.out HC.out)
    obtain ⟨e0, e1, e2, e3, e4, e5, e6⟩ := Lat.cfg hD
    obtain ⟨k2, hk2⟩ := lat_self w2
    rw [hk2]
    generalize k1.world.heap.size = pd at *
    clear hw2 hD hE2 hlt2 hk2
    go_wp2_with fail
    refine (h5 _).mono ?_
    rintro e w1 ⟨rfl, e1⟩
    obtain ⟨k3, rfl⟩ := lat_next k2 e1
    clear e1
    go_wp2_with fail
    refine (h6 _).mono ?_
    rintro e w1 ⟨rfl, e1⟩
    obtain ⟨k4, rfl⟩ := lat_next k3 e1
    clear e1
    go_wp2_with fail
    go_ret
    exact ⟨rfl, Ext.next HE.out (Ext.next HE2.out k4.ok)⟩
set_option maxRecDepth 100000 in
set_option maxHeartbeats 4000000 in
theorem grow2_no (hA : AwakeSays) (T R H Re Ca S B : Int) (hok : ¬ Okay T R H Re Ca S B) (w : World) : Calls Try.prog 8 #[(.agg #[.int .i64 T, .int .i64 R, .int .i64 H, .int .i64 Re, .int .i64 Ca, .int .i64 S, .int .i64 B]), .int .i64 2] w fun e w' => e = .returned (.bool true) ∧ Ext w w' := by
  have h5 : ∀ w : World, Calls Try.prog 34 #[.agg #[.int .i64 T, .int .i64 R, .int .i64 H, .int .i64 Re, .int .i64 Ca, .int .i64 S, .int .i64 B]] w fun e w' => e = .returned (.bool false) ∧ Ext w w' := fun w => by have := config_any T R H Re Ca S B w; rwa [decide_eq_false hok] at this
  clear hok
  go_enter Try.func8, Try.ntmps8
  go_upto_region 1 with fail
  obtain ⟨w0, hw0, hC, hE, hlt0⟩ := enter1 w (.cells (cfgV T R H Re Ca S B) 23)
  rw [hw0]
  have HE := Lib.hid hE
  have HC := Lib.hid hC
  obtain ⟨d0, d1, d2, d3, d4, d5, d6⟩ := Lat.cfg hC
  obtain ⟨k0, hk0⟩ := lat_self w0
  rw [hk0]
  clear hw0 hC hE hk0 hlt0
  go_wp2_with fail
  refine (hA _).mono ?_
  rintro e w1 ⟨rfl, e1⟩
  obtain ⟨k1, rfl⟩ := lat_next k0 e1
  clear e1
  go_upto_region 18 with fail
  obtain ⟨w2, hw2, hD, hE2, hlt2⟩ := enter1 k1.world (.cells #[.int .i64 T, .int .i64 R, .int .i64 (wrap64 (H + 1)), .int .i64 Re, .int .i64 Ca, .int .i64 S, .int .i64 B] 23)
  rw [hw2]
  have HE2 := Lib.hid (Ext.next k1.ok hE2)
  obtain ⟨k2, hk2⟩ := lat_of HE2.out
  rw [hk2]
  clear hw2 hD hE2 hlt2 hk2
  go_wp2_with fail
  refine (h5 _).mono ?_
  rintro e w1 ⟨rfl, e1⟩
  obtain ⟨k3, rfl⟩ := lat_next k2 e1
  clear e1
  go_wp2_with fail
  go_ret
  exact ⟨rfl, Ext.next HE.out k3.ok⟩
set_option maxRecDepth 100000 in
set_option maxHeartbeats 4000000 in
theorem grow2_any (hA : AwakeSays) (T R H Re Ca S B : Int) (hok : Okay T R H Re Ca S B) (w : World) : Calls Try.prog 8 #[(.agg #[.int .i64 T, .int .i64 R, .int .i64 H, .int .i64 Re, .int .i64 Ca, .int .i64 S, .int .i64 B]), .int .i64 2] w fun e w' => e = .returned (.bool true) ∧ Ext w w' := by
  have hok' := hok
  unfold Okay at hok'
  obtain ⟨a1, a2, a3, a4, a5, a6, a7, a8, a9, a10, a11, a12, a13, a14⟩ := hok'
  have hl0 := (listed_bd hok).1
  obtain ⟨m1, m2, m3⟩ := listed_mono (R := R) (R' := R) (H := H) (H' := (H + 1)) (Re := Re) (Re' := Re) a3 (by omega) a5 (by omega) (by omega)
  have hr0 : 0 ≤ listedF R H Re * R := Int.mul_nonneg hl0 (by omega)
  have m4 : listedF R H Re * R ≤ listedF R (H + 1) Re * R := Int.mul_le_mul m1 (by omega) (by omega) (by omega)
  have m5 : soloF T R H Ca S (listedF R H Re) ≤ soloF T R (H + 1) Ca S (listedF R (H + 1) Re) := solo_mono a1 (by omega) a3 (by omega) a5 (by omega) (by omega) (by omega) hl0 m1
  have m6 : windowF T R H Ca S (listedF R H Re) (listedF R H Re * R) ≤ windowF T R (H + 1) Ca S (listedF R (H + 1) Re) (listedF R (H + 1) Re * R) := window_mono a1 (by omega) a3 (by omega) a5 (by omega) a9 (by omega) a11 (by omega) hl0 m1 hr0 m4
  have h5 : ∀ w : World, Calls Try.prog 34 #[.agg #[.int .i64 T, .int .i64 R, .int .i64 H, .int .i64 Re, .int .i64 Ca, .int .i64 S, .int .i64 B]] w fun e w' => e = .returned (.bool true) ∧ Ext w w' := fun w => by have := config_any T R H Re Ca S B w; rwa [decide_eq_true hok] at this
  have p1 : ∀ w : World, Calls Try.prog 30 #[.agg #[.int .i64 T, .int .i64 R, .int .i64 H, .int .i64 Re, .int .i64 Ca, .int .i64 S, .int .i64 B]] w fun e w' => e = .returned (.tuple #[.int .i64 (listedF R H Re), .int .i64 0]) ∧ Ext w w' := fun w => listed_any T R H Re Ca S B hok w
  have p2 : ∀ w : World, Calls Try.prog 31 #[.agg #[.int .i64 T, .int .i64 R, .int .i64 H, .int .i64 Re, .int .i64 Ca, .int .i64 S, .int .i64 B]] w fun e w' => e = .returned (.tuple #[.int .i64 (listedF R H Re * R), .int .i64 0]) ∧ Ext w w' := fun w => retired_any T R H Re Ca S B hok w
  have p3 : ∀ w : World, Calls Try.prog 32 #[.agg #[.int .i64 T, .int .i64 R, .int .i64 H, .int .i64 Re, .int .i64 Ca, .int .i64 S, .int .i64 B]] w fun e w' => e = .returned (.tuple #[.int .i64 (soloF T R H Ca S (listedF R H Re)), .int .i64 0]) ∧ Ext w w' := fun w => solo_any T R H Re Ca S B hok w
  have p4 : ∀ w : World, Calls Try.prog 33 #[.agg #[.int .i64 T, .int .i64 R, .int .i64 H, .int .i64 Re, .int .i64 Ca, .int .i64 S, .int .i64 B]] w fun e w' => e = .returned (.tuple #[.int .i64 (windowF T R H Ca S (listedF R H Re) (listedF R H Re * R)), .int .i64 0]) ∧ Ext w w' := fun w => window_any T R H Re Ca S B hok w
  have hRH := mul_bd (a := R) (b := H) (A := 16) (B := 8) (by omega) a4 (by omega) a6
  obtain ⟨hRH1, hRH2⟩ := hRH
  by_cases hod : Okay T R (H + 1) Re Ca S B
  · have h6 : ∀ w : World, Calls Try.prog 34 #[.agg #[.int .i64 T, .int .i64 R, .int .i64 (H + 1), .int .i64 Re, .int .i64 Ca, .int .i64 S, .int .i64 B]] w fun e w' => e = .returned (.bool true) ∧ Ext w w' := fun w => by have := config_any T R (H + 1) Re Ca S B w; rwa [decide_eq_true hod] at this
    have q1 : ∀ w : World, Calls Try.prog 30 #[.agg #[.int .i64 T, .int .i64 R, .int .i64 (H + 1), .int .i64 Re, .int .i64 Ca, .int .i64 S, .int .i64 B]] w fun e w' => e = .returned (.tuple #[.int .i64 (listedF R (H + 1) Re), .int .i64 0]) ∧ Ext w w' := fun w => listed_any T R (H + 1) Re Ca S B hod w
    have q2 : ∀ w : World, Calls Try.prog 31 #[.agg #[.int .i64 T, .int .i64 R, .int .i64 (H + 1), .int .i64 Re, .int .i64 Ca, .int .i64 S, .int .i64 B]] w fun e w' => e = .returned (.tuple #[.int .i64 (listedF R (H + 1) Re * R), .int .i64 0]) ∧ Ext w w' := fun w => retired_any T R (H + 1) Re Ca S B hod w
    have q3 : ∀ w : World, Calls Try.prog 32 #[.agg #[.int .i64 T, .int .i64 R, .int .i64 (H + 1), .int .i64 Re, .int .i64 Ca, .int .i64 S, .int .i64 B]] w fun e w' => e = .returned (.tuple #[.int .i64 (soloF T R (H + 1) Ca S (listedF R (H + 1) Re)), .int .i64 0]) ∧ Ext w w' := fun w => solo_any T R (H + 1) Re Ca S B hod w
    have q4 : ∀ w : World, Calls Try.prog 33 #[.agg #[.int .i64 T, .int .i64 R, .int .i64 (H + 1), .int .i64 Re, .int .i64 Ca, .int .i64 S, .int .i64 B]] w fun e w' => e = .returned (.tuple #[.int .i64 (windowF T R (H + 1) Ca S (listedF R (H + 1) Re) (listedF R (H + 1) Re * R)), .int .i64 0]) ∧ Ext w w' := fun w => window_any T R (H + 1) Re Ca S B hod w
    clear hok hod
    have z1 : decide (listedF R (H + 1) Re < listedF R H Re) = false := decide_eq_false (by omega)
    have z2 : decide (listedF R H Re < Re) = false := decide_eq_false (by omega)
    have z3 : decide (listedF R H Re ≤ R * H) = false := decide_eq_false (by omega)
    have z4 : decide (listedF R (H + 1) Re * R < listedF R H Re * R) = false := decide_eq_false (by omega)
    have z5 : decide (soloF T R (H + 1) Ca S (listedF R (H + 1) Re) < soloF T R H Ca S (listedF R H Re)) = false := decide_eq_false (by omega)
    have z6 : decide (windowF T R H Ca S (listedF R H Re) (listedF R H Re * R) ≤ windowF T R (H + 1) Ca S (listedF R (H + 1) Re) (listedF R (H + 1) Re * R)) = true := decide_eq_true m6
    clear m1 m2 m3 m4 m5 m6
    go_enter Try.func8, Try.ntmps8
    go_upto_region 1 with fail
    obtain ⟨w0, hw0, hC, hE, hlt0⟩ := enter1 w (.cells (cfgV T R H Re Ca S B) 23)
    rw [hw0]
    have HE := Lib.hid hE
    have HC := Lib.hid hC
    obtain ⟨d0, d1, d2, d3, d4, d5, d6⟩ := Lat.cfg hC
    obtain ⟨k0, hk0⟩ := lat_self w0
    rw [hk0]
    clear hw0 hC hE hk0 hlt0
    go_wp2_with fail
    refine (hA _).mono ?_
    rintro e w1 ⟨rfl, e1⟩
    obtain ⟨k1, rfl⟩ := lat_next k0 e1
    clear e1
    go_upto_region 18 with fail
    obtain ⟨w2, hw2, hD, hE2, hlt2⟩ := enter1 k1.world (.cells #[.int .i64 T, .int .i64 R, .int .i64 (H + 1), .int .i64 Re, .int .i64 Ca, .int .i64 S, .int .i64 B] 23)
    rw [hw2]
    have HE2 := Lib.hid (Ext.next k1.ok hE2)
    clear d0 d1 d2 d3 d4 d5 d6
    obtain ⟨d0, d1, d2, d3, d4, d5, d6⟩ := Lat.cfg (ext_blk HE2.out HC.out)
    obtain ⟨e0, e1, e2, e3, e4, e5, e6⟩ := Lat.cfg hD
    obtain ⟨k2, hk2⟩ := lat_self w2
    rw [hk2]
    generalize k1.world.heap.size = pd at *
    clear hw2 hD hE2 hlt2 hk2
    go_wp2_with fail
    refine (h5 _).mono ?_
    rintro e w1 ⟨rfl, e1⟩
    obtain ⟨k3, rfl⟩ := lat_next k2 e1
    clear e1
    go_wp2_with fail
    refine (h6 _).mono ?_
    rintro e w1 ⟨rfl, e1⟩
    obtain ⟨k4, rfl⟩ := lat_next k3 e1
    clear e1
    go_wp2_with fail
    refine (p1 _).mono ?_
    rintro e w1 ⟨rfl, e1⟩
    obtain ⟨k5, rfl⟩ := lat_next k4 e1
    clear e1
    go_wp2_with fail
    refine (q1 _).mono ?_
    rintro e w1 ⟨rfl, e1⟩
    obtain ⟨k6, rfl⟩ := lat_next k5 e1
    clear e1
    go_wp2_with fail
    refine (p2 _).mono ?_
    rintro e w1 ⟨rfl, e1⟩
    obtain ⟨k7, rfl⟩ := lat_next k6 e1
    clear e1
    go_wp2_with fail
    refine (q2 _).mono ?_
    rintro e w1 ⟨rfl, e1⟩
    obtain ⟨k8, rfl⟩ := lat_next k7 e1
    clear e1
    go_wp2_with fail
    refine (p3 _).mono ?_
    rintro e w1 ⟨rfl, e1⟩
    obtain ⟨k9, rfl⟩ := lat_next k8 e1
    clear e1
    go_wp2_with fail
    refine (q3 _).mono ?_
    rintro e w1 ⟨rfl, e1⟩
    obtain ⟨k10, rfl⟩ := lat_next k9 e1
    clear e1
    go_wp2_with fail
    refine (p4 _).mono ?_
    rintro e w1 ⟨rfl, e1⟩
    obtain ⟨k11, rfl⟩ := lat_next k10 e1
    clear e1
    go_wp2_with fail
    refine (q4 _).mono ?_
    rintro e w1 ⟨rfl, e1⟩
    obtain ⟨k12, rfl⟩ := lat_next k11 e1
    clear e1
    go_wp2_with fail
    go_ret
    exact ⟨rfl, Ext.next HE.out (Ext.next HE2.out k12.ok)⟩
  · have h6 : ∀ w : World, Calls Try.prog 34 #[.agg #[.int .i64 T, .int .i64 R, .int .i64 (H + 1), .int .i64 Re, .int .i64 Ca, .int .i64 S, .int .i64 B]] w fun e w' => e = .returned (.bool false) ∧ Ext w w' := fun w => by have := config_any T R (H + 1) Re Ca S B w; rwa [decide_eq_false hod] at this
    clear hok hod m1 m2 m3 m4 m5 m6 p1 p2 p3 p4 hr0 hl0
    go_enter Try.func8, Try.ntmps8
    go_upto_region 1 with fail
    obtain ⟨w0, hw0, hC, hE, hlt0⟩ := enter1 w (.cells (cfgV T R H Re Ca S B) 23)
    rw [hw0]
    have HE := Lib.hid hE
    have HC := Lib.hid hC
    obtain ⟨d0, d1, d2, d3, d4, d5, d6⟩ := Lat.cfg hC
    obtain ⟨k0, hk0⟩ := lat_self w0
    rw [hk0]
    clear hw0 hC hE hk0 hlt0
    go_wp2_with fail
    refine (hA _).mono ?_
    rintro e w1 ⟨rfl, e1⟩
    obtain ⟨k1, rfl⟩ := lat_next k0 e1
    clear e1
    go_upto_region 18 with fail
    obtain ⟨w2, hw2, hD, hE2, hlt2⟩ := enter1 k1.world (.cells #[.int .i64 T, .int .i64 R, .int .i64 (H + 1), .int .i64 Re, .int .i64 Ca, .int .i64 S, .int .i64 B] 23)
    rw [hw2]
    have HE2 := Lib.hid (Ext.next k1.ok hE2)
    clear d0 d1 d2 d3 d4 d5 d6
    obtain ⟨d0, d1, d2, d3, d4, d5, d6⟩ := Lat.cfg (ext_blk HE2.out HC.out)
    obtain ⟨e0, e1, e2, e3, e4, e5, e6⟩ := Lat.cfg hD
    obtain ⟨k2, hk2⟩ := lat_self w2
    rw [hk2]
    generalize k1.world.heap.size = pd at *
    clear hw2 hD hE2 hlt2 hk2
    go_wp2_with fail
    refine (h5 _).mono ?_
    rintro e w1 ⟨rfl, e1⟩
    obtain ⟨k3, rfl⟩ := lat_next k2 e1
    clear e1
    go_wp2_with fail
    refine (h6 _).mono ?_
    rintro e w1 ⟨rfl, e1⟩
    obtain ⟨k4, rfl⟩ := lat_next k3 e1
    clear e1
    go_wp2_with fail
    go_ret
    exact ⟨rfl, Ext.next HE.out (Ext.next HE2.out k4.ok)⟩
set_option maxRecDepth 100000 in
set_option maxHeartbeats 4000000 in
theorem grow3_no (hA : AwakeSays) (T R H Re Ca S B : Int) (hok : ¬ Okay T R H Re Ca S B) (w : World) : Calls Try.prog 8 #[(.agg #[.int .i64 T, .int .i64 R, .int .i64 H, .int .i64 Re, .int .i64 Ca, .int .i64 S, .int .i64 B]), .int .i64 3] w fun e w' => e = .returned (.bool true) ∧ Ext w w' := by
  have h5 : ∀ w : World, Calls Try.prog 34 #[.agg #[.int .i64 T, .int .i64 R, .int .i64 H, .int .i64 Re, .int .i64 Ca, .int .i64 S, .int .i64 B]] w fun e w' => e = .returned (.bool false) ∧ Ext w w' := fun w => by have := config_any T R H Re Ca S B w; rwa [decide_eq_false hok] at this
  clear hok
  go_enter Try.func8, Try.ntmps8
  go_upto_region 1 with fail
  obtain ⟨w0, hw0, hC, hE, hlt0⟩ := enter1 w (.cells (cfgV T R H Re Ca S B) 23)
  rw [hw0]
  have HE := Lib.hid hE
  have HC := Lib.hid hC
  obtain ⟨d0, d1, d2, d3, d4, d5, d6⟩ := Lat.cfg hC
  obtain ⟨k0, hk0⟩ := lat_self w0
  rw [hk0]
  clear hw0 hC hE hk0 hlt0
  go_wp2_with fail
  refine (hA _).mono ?_
  rintro e w1 ⟨rfl, e1⟩
  obtain ⟨k1, rfl⟩ := lat_next k0 e1
  clear e1
  go_upto_region 18 with fail
  obtain ⟨w2, hw2, hD, hE2, hlt2⟩ := enter1 k1.world (.cells #[.int .i64 T, .int .i64 R, .int .i64 H, .int .i64 (wrap64 (Re + 1)), .int .i64 Ca, .int .i64 S, .int .i64 B] 23)
  rw [hw2]
  have HE2 := Lib.hid (Ext.next k1.ok hE2)
  obtain ⟨k2, hk2⟩ := lat_of HE2.out
  rw [hk2]
  clear hw2 hD hE2 hlt2 hk2
  go_wp2_with fail
  refine (h5 _).mono ?_
  rintro e w1 ⟨rfl, e1⟩
  obtain ⟨k3, rfl⟩ := lat_next k2 e1
  clear e1
  go_wp2_with fail
  go_ret
  exact ⟨rfl, Ext.next HE.out k3.ok⟩
set_option maxRecDepth 100000 in
set_option maxHeartbeats 4000000 in
theorem grow3_any (hA : AwakeSays) (T R H Re Ca S B : Int) (hok : Okay T R H Re Ca S B) (w : World) : Calls Try.prog 8 #[(.agg #[.int .i64 T, .int .i64 R, .int .i64 H, .int .i64 Re, .int .i64 Ca, .int .i64 S, .int .i64 B]), .int .i64 3] w fun e w' => e = .returned (.bool true) ∧ Ext w w' := by
  have hok' := hok
  unfold Okay at hok'
  obtain ⟨a1, a2, a3, a4, a5, a6, a7, a8, a9, a10, a11, a12, a13, a14⟩ := hok'
  have hl0 := (listed_bd hok).1
  obtain ⟨m1, m2, m3⟩ := listed_mono (R := R) (R' := R) (H := H) (H' := H) (Re := Re) (Re' := (Re + 1)) a3 (by omega) a5 (by omega) (by omega)
  have hr0 : 0 ≤ listedF R H Re * R := Int.mul_nonneg hl0 (by omega)
  have m4 : listedF R H Re * R ≤ listedF R H (Re + 1) * R := Int.mul_le_mul m1 (by omega) (by omega) (by omega)
  have m5 : soloF T R H Ca S (listedF R H Re) ≤ soloF T R H Ca S (listedF R H (Re + 1)) := solo_mono a1 (by omega) a3 (by omega) a5 (by omega) (by omega) (by omega) hl0 m1
  have m6 : windowF T R H Ca S (listedF R H Re) (listedF R H Re * R) ≤ windowF T R H Ca S (listedF R H (Re + 1)) (listedF R H (Re + 1) * R) := window_mono a1 (by omega) a3 (by omega) a5 (by omega) a9 (by omega) a11 (by omega) hl0 m1 hr0 m4
  have h5 : ∀ w : World, Calls Try.prog 34 #[.agg #[.int .i64 T, .int .i64 R, .int .i64 H, .int .i64 Re, .int .i64 Ca, .int .i64 S, .int .i64 B]] w fun e w' => e = .returned (.bool true) ∧ Ext w w' := fun w => by have := config_any T R H Re Ca S B w; rwa [decide_eq_true hok] at this
  have p1 : ∀ w : World, Calls Try.prog 30 #[.agg #[.int .i64 T, .int .i64 R, .int .i64 H, .int .i64 Re, .int .i64 Ca, .int .i64 S, .int .i64 B]] w fun e w' => e = .returned (.tuple #[.int .i64 (listedF R H Re), .int .i64 0]) ∧ Ext w w' := fun w => listed_any T R H Re Ca S B hok w
  have p2 : ∀ w : World, Calls Try.prog 31 #[.agg #[.int .i64 T, .int .i64 R, .int .i64 H, .int .i64 Re, .int .i64 Ca, .int .i64 S, .int .i64 B]] w fun e w' => e = .returned (.tuple #[.int .i64 (listedF R H Re * R), .int .i64 0]) ∧ Ext w w' := fun w => retired_any T R H Re Ca S B hok w
  have p3 : ∀ w : World, Calls Try.prog 32 #[.agg #[.int .i64 T, .int .i64 R, .int .i64 H, .int .i64 Re, .int .i64 Ca, .int .i64 S, .int .i64 B]] w fun e w' => e = .returned (.tuple #[.int .i64 (soloF T R H Ca S (listedF R H Re)), .int .i64 0]) ∧ Ext w w' := fun w => solo_any T R H Re Ca S B hok w
  have p4 : ∀ w : World, Calls Try.prog 33 #[.agg #[.int .i64 T, .int .i64 R, .int .i64 H, .int .i64 Re, .int .i64 Ca, .int .i64 S, .int .i64 B]] w fun e w' => e = .returned (.tuple #[.int .i64 (windowF T R H Ca S (listedF R H Re) (listedF R H Re * R)), .int .i64 0]) ∧ Ext w w' := fun w => window_any T R H Re Ca S B hok w
  have hRH := mul_bd (a := R) (b := H) (A := 16) (B := 8) (by omega) a4 (by omega) a6
  obtain ⟨hRH1, hRH2⟩ := hRH
  by_cases hod : Okay T R H (Re + 1) Ca S B
  · have h6 : ∀ w : World, Calls Try.prog 34 #[.agg #[.int .i64 T, .int .i64 R, .int .i64 H, .int .i64 (Re + 1), .int .i64 Ca, .int .i64 S, .int .i64 B]] w fun e w' => e = .returned (.bool true) ∧ Ext w w' := fun w => by have := config_any T R H (Re + 1) Ca S B w; rwa [decide_eq_true hod] at this
    have q1 : ∀ w : World, Calls Try.prog 30 #[.agg #[.int .i64 T, .int .i64 R, .int .i64 H, .int .i64 (Re + 1), .int .i64 Ca, .int .i64 S, .int .i64 B]] w fun e w' => e = .returned (.tuple #[.int .i64 (listedF R H (Re + 1)), .int .i64 0]) ∧ Ext w w' := fun w => listed_any T R H (Re + 1) Ca S B hod w
    have q2 : ∀ w : World, Calls Try.prog 31 #[.agg #[.int .i64 T, .int .i64 R, .int .i64 H, .int .i64 (Re + 1), .int .i64 Ca, .int .i64 S, .int .i64 B]] w fun e w' => e = .returned (.tuple #[.int .i64 (listedF R H (Re + 1) * R), .int .i64 0]) ∧ Ext w w' := fun w => retired_any T R H (Re + 1) Ca S B hod w
    have q3 : ∀ w : World, Calls Try.prog 32 #[.agg #[.int .i64 T, .int .i64 R, .int .i64 H, .int .i64 (Re + 1), .int .i64 Ca, .int .i64 S, .int .i64 B]] w fun e w' => e = .returned (.tuple #[.int .i64 (soloF T R H Ca S (listedF R H (Re + 1))), .int .i64 0]) ∧ Ext w w' := fun w => solo_any T R H (Re + 1) Ca S B hod w
    have q4 : ∀ w : World, Calls Try.prog 33 #[.agg #[.int .i64 T, .int .i64 R, .int .i64 H, .int .i64 (Re + 1), .int .i64 Ca, .int .i64 S, .int .i64 B]] w fun e w' => e = .returned (.tuple #[.int .i64 (windowF T R H Ca S (listedF R H (Re + 1)) (listedF R H (Re + 1) * R)), .int .i64 0]) ∧ Ext w w' := fun w => window_any T R H (Re + 1) Ca S B hod w
    clear hok hod
    have z1 : decide (listedF R H (Re + 1) < listedF R H Re) = false := decide_eq_false (by omega)
    have z2 : decide (listedF R H Re < Re) = false := decide_eq_false (by omega)
    have z3 : decide (listedF R H Re ≤ R * H) = false := decide_eq_false (by omega)
    have z4 : decide (listedF R H (Re + 1) * R < listedF R H Re * R) = false := decide_eq_false (by omega)
    have z5 : decide (soloF T R H Ca S (listedF R H (Re + 1)) < soloF T R H Ca S (listedF R H Re)) = false := decide_eq_false (by omega)
    have z6 : decide (windowF T R H Ca S (listedF R H Re) (listedF R H Re * R) ≤ windowF T R H Ca S (listedF R H (Re + 1)) (listedF R H (Re + 1) * R)) = true := decide_eq_true m6
    clear m1 m2 m3 m4 m5 m6
    go_enter Try.func8, Try.ntmps8
    go_upto_region 1 with fail
    obtain ⟨w0, hw0, hC, hE, hlt0⟩ := enter1 w (.cells (cfgV T R H Re Ca S B) 23)
    rw [hw0]
    have HE := Lib.hid hE
    have HC := Lib.hid hC
    obtain ⟨d0, d1, d2, d3, d4, d5, d6⟩ := Lat.cfg hC
    obtain ⟨k0, hk0⟩ := lat_self w0
    rw [hk0]
    clear hw0 hC hE hk0 hlt0
    go_wp2_with fail
    refine (hA _).mono ?_
    rintro e w1 ⟨rfl, e1⟩
    obtain ⟨k1, rfl⟩ := lat_next k0 e1
    clear e1
    go_upto_region 18 with fail
    obtain ⟨w2, hw2, hD, hE2, hlt2⟩ := enter1 k1.world (.cells #[.int .i64 T, .int .i64 R, .int .i64 H, .int .i64 (Re + 1), .int .i64 Ca, .int .i64 S, .int .i64 B] 23)
    rw [hw2]
    have HE2 := Lib.hid (Ext.next k1.ok hE2)
    clear d0 d1 d2 d3 d4 d5 d6
    obtain ⟨d0, d1, d2, d3, d4, d5, d6⟩ := Lat.cfg (ext_blk HE2.out HC.out)
    obtain ⟨e0, e1, e2, e3, e4, e5, e6⟩ := Lat.cfg hD
    obtain ⟨k2, hk2⟩ := lat_self w2
    rw [hk2]
    generalize k1.world.heap.size = pd at *
    clear hw2 hD hE2 hlt2 hk2
    go_wp2_with fail
    refine (h5 _).mono ?_
    rintro e w1 ⟨rfl, e1⟩
    obtain ⟨k3, rfl⟩ := lat_next k2 e1
    clear e1
    go_wp2_with fail
    refine (h6 _).mono ?_
    rintro e w1 ⟨rfl, e1⟩
    obtain ⟨k4, rfl⟩ := lat_next k3 e1
    clear e1
    go_wp2_with fail
    refine (p1 _).mono ?_
    rintro e w1 ⟨rfl, e1⟩
    obtain ⟨k5, rfl⟩ := lat_next k4 e1
    clear e1
    go_wp2_with fail
    refine (q1 _).mono ?_
    rintro e w1 ⟨rfl, e1⟩
    obtain ⟨k6, rfl⟩ := lat_next k5 e1
    clear e1
    go_wp2_with fail
    refine (p2 _).mono ?_
    rintro e w1 ⟨rfl, e1⟩
    obtain ⟨k7, rfl⟩ := lat_next k6 e1
    clear e1
    go_wp2_with fail
    refine (q2 _).mono ?_
    rintro e w1 ⟨rfl, e1⟩
    obtain ⟨k8, rfl⟩ := lat_next k7 e1
    clear e1
    go_wp2_with fail
    refine (p3 _).mono ?_
    rintro e w1 ⟨rfl, e1⟩
    obtain ⟨k9, rfl⟩ := lat_next k8 e1
    clear e1
    go_wp2_with fail
    refine (q3 _).mono ?_
    rintro e w1 ⟨rfl, e1⟩
    obtain ⟨k10, rfl⟩ := lat_next k9 e1
    clear e1
    go_wp2_with fail
    refine (p4 _).mono ?_
    rintro e w1 ⟨rfl, e1⟩
    obtain ⟨k11, rfl⟩ := lat_next k10 e1
    clear e1
    go_wp2_with fail
    refine (q4 _).mono ?_
    rintro e w1 ⟨rfl, e1⟩
    obtain ⟨k12, rfl⟩ := lat_next k11 e1
    clear e1
    go_wp2_with fail
    go_ret
    exact ⟨rfl, Ext.next HE.out (Ext.next HE2.out k12.ok)⟩
  · have h6 : ∀ w : World, Calls Try.prog 34 #[.agg #[.int .i64 T, .int .i64 R, .int .i64 H, .int .i64 (Re + 1), .int .i64 Ca, .int .i64 S, .int .i64 B]] w fun e w' => e = .returned (.bool false) ∧ Ext w w' := fun w => by have := config_any T R H (Re + 1) Ca S B w; rwa [decide_eq_false hod] at this
    clear hok hod m1 m2 m3 m4 m5 m6 p1 p2 p3 p4 hr0 hl0
    go_enter Try.func8, Try.ntmps8
    go_upto_region 1 with fail
    obtain ⟨w0, hw0, hC, hE, hlt0⟩ := enter1 w (.cells (cfgV T R H Re Ca S B) 23)
    rw [hw0]
    have HE := Lib.hid hE
    have HC := Lib.hid hC
    obtain ⟨d0, d1, d2, d3, d4, d5, d6⟩ := Lat.cfg hC
    obtain ⟨k0, hk0⟩ := lat_self w0
    rw [hk0]
    clear hw0 hC hE hk0 hlt0
    go_wp2_with fail
    refine (hA _).mono ?_
    rintro e w1 ⟨rfl, e1⟩
    obtain ⟨k1, rfl⟩ := lat_next k0 e1
    clear e1
    go_upto_region 18 with fail
    obtain ⟨w2, hw2, hD, hE2, hlt2⟩ := enter1 k1.world (.cells #[.int .i64 T, .int .i64 R, .int .i64 H, .int .i64 (Re + 1), .int .i64 Ca, .int .i64 S, .int .i64 B] 23)
    rw [hw2]
    have HE2 := Lib.hid (Ext.next k1.ok hE2)
    clear d0 d1 d2 d3 d4 d5 d6
    obtain ⟨d0, d1, d2, d3, d4, d5, d6⟩ := Lat.cfg (ext_blk HE2.out HC.out)
    obtain ⟨e0, e1, e2, e3, e4, e5, e6⟩ := Lat.cfg hD
    obtain ⟨k2, hk2⟩ := lat_self w2
    rw [hk2]
    generalize k1.world.heap.size = pd at *
    clear hw2 hD hE2 hlt2 hk2
    go_wp2_with fail
    refine (h5 _).mono ?_
    rintro e w1 ⟨rfl, e1⟩
    obtain ⟨k3, rfl⟩ := lat_next k2 e1
    clear e1
    go_wp2_with fail
    refine (h6 _).mono ?_
    rintro e w1 ⟨rfl, e1⟩
    obtain ⟨k4, rfl⟩ := lat_next k3 e1
    clear e1
    go_wp2_with fail
    go_ret
    exact ⟨rfl, Ext.next HE.out (Ext.next HE2.out k4.ok)⟩
set_option maxRecDepth 100000 in
set_option maxHeartbeats 4000000 in
theorem grow4_no (hA : AwakeSays) (T R H Re Ca S B : Int) (hok : ¬ Okay T R H Re Ca S B) (w : World) : Calls Try.prog 8 #[(.agg #[.int .i64 T, .int .i64 R, .int .i64 H, .int .i64 Re, .int .i64 Ca, .int .i64 S, .int .i64 B]), .int .i64 4] w fun e w' => e = .returned (.bool true) ∧ Ext w w' := by
  have h5 : ∀ w : World, Calls Try.prog 34 #[.agg #[.int .i64 T, .int .i64 R, .int .i64 H, .int .i64 Re, .int .i64 Ca, .int .i64 S, .int .i64 B]] w fun e w' => e = .returned (.bool false) ∧ Ext w w' := fun w => by have := config_any T R H Re Ca S B w; rwa [decide_eq_false hok] at this
  clear hok
  go_enter Try.func8, Try.ntmps8
  go_upto_region 1 with fail
  obtain ⟨w0, hw0, hC, hE, hlt0⟩ := enter1 w (.cells (cfgV T R H Re Ca S B) 23)
  rw [hw0]
  have HE := Lib.hid hE
  have HC := Lib.hid hC
  obtain ⟨d0, d1, d2, d3, d4, d5, d6⟩ := Lat.cfg hC
  obtain ⟨k0, hk0⟩ := lat_self w0
  rw [hk0]
  clear hw0 hC hE hk0 hlt0
  go_wp2_with fail
  refine (hA _).mono ?_
  rintro e w1 ⟨rfl, e1⟩
  obtain ⟨k1, rfl⟩ := lat_next k0 e1
  clear e1
  go_upto_region 18 with fail
  obtain ⟨w2, hw2, hD, hE2, hlt2⟩ := enter1 k1.world (.cells #[.int .i64 T, .int .i64 R, .int .i64 H, .int .i64 Re, .int .i64 (wrap64 (Ca + 1)), .int .i64 S, .int .i64 B] 23)
  rw [hw2]
  have HE2 := Lib.hid (Ext.next k1.ok hE2)
  obtain ⟨k2, hk2⟩ := lat_of HE2.out
  rw [hk2]
  clear hw2 hD hE2 hlt2 hk2
  go_wp2_with fail
  refine (h5 _).mono ?_
  rintro e w1 ⟨rfl, e1⟩
  obtain ⟨k3, rfl⟩ := lat_next k2 e1
  clear e1
  go_wp2_with fail
  go_ret
  exact ⟨rfl, Ext.next HE.out k3.ok⟩
set_option maxRecDepth 100000 in
set_option maxHeartbeats 4000000 in
theorem grow4_any (hA : AwakeSays) (T R H Re Ca S B : Int) (hok : Okay T R H Re Ca S B) (w : World) : Calls Try.prog 8 #[(.agg #[.int .i64 T, .int .i64 R, .int .i64 H, .int .i64 Re, .int .i64 Ca, .int .i64 S, .int .i64 B]), .int .i64 4] w fun e w' => e = .returned (.bool true) ∧ Ext w w' := by
  have hok' := hok
  unfold Okay at hok'
  obtain ⟨a1, a2, a3, a4, a5, a6, a7, a8, a9, a10, a11, a12, a13, a14⟩ := hok'
  have hl0 := (listed_bd hok).1
  obtain ⟨m1, m2, m3⟩ := listed_mono (R := R) (R' := R) (H := H) (H' := H) (Re := Re) (Re' := Re) a3 (by omega) a5 (by omega) (by omega)
  have hr0 : 0 ≤ listedF R H Re * R := Int.mul_nonneg hl0 (by omega)
  have m4 : listedF R H Re * R ≤ listedF R H Re * R := Int.mul_le_mul m1 (by omega) (by omega) (by omega)
  have m5 : soloF T R H Ca S (listedF R H Re) ≤ soloF T R H (Ca + 1) S (listedF R H Re) := solo_mono a1 (by omega) a3 (by omega) a5 (by omega) (by omega) (by omega) hl0 m1
  have m6 : windowF T R H Ca S (listedF R H Re) (listedF R H Re * R) ≤ windowF T R H (Ca + 1) S (listedF R H Re) (listedF R H Re * R) := window_mono a1 (by omega) a3 (by omega) a5 (by omega) a9 (by omega) a11 (by omega) hl0 m1 hr0 m4
  have h5 : ∀ w : World, Calls Try.prog 34 #[.agg #[.int .i64 T, .int .i64 R, .int .i64 H, .int .i64 Re, .int .i64 Ca, .int .i64 S, .int .i64 B]] w fun e w' => e = .returned (.bool true) ∧ Ext w w' := fun w => by have := config_any T R H Re Ca S B w; rwa [decide_eq_true hok] at this
  have p1 : ∀ w : World, Calls Try.prog 30 #[.agg #[.int .i64 T, .int .i64 R, .int .i64 H, .int .i64 Re, .int .i64 Ca, .int .i64 S, .int .i64 B]] w fun e w' => e = .returned (.tuple #[.int .i64 (listedF R H Re), .int .i64 0]) ∧ Ext w w' := fun w => listed_any T R H Re Ca S B hok w
  have p2 : ∀ w : World, Calls Try.prog 31 #[.agg #[.int .i64 T, .int .i64 R, .int .i64 H, .int .i64 Re, .int .i64 Ca, .int .i64 S, .int .i64 B]] w fun e w' => e = .returned (.tuple #[.int .i64 (listedF R H Re * R), .int .i64 0]) ∧ Ext w w' := fun w => retired_any T R H Re Ca S B hok w
  have p3 : ∀ w : World, Calls Try.prog 32 #[.agg #[.int .i64 T, .int .i64 R, .int .i64 H, .int .i64 Re, .int .i64 Ca, .int .i64 S, .int .i64 B]] w fun e w' => e = .returned (.tuple #[.int .i64 (soloF T R H Ca S (listedF R H Re)), .int .i64 0]) ∧ Ext w w' := fun w => solo_any T R H Re Ca S B hok w
  have p4 : ∀ w : World, Calls Try.prog 33 #[.agg #[.int .i64 T, .int .i64 R, .int .i64 H, .int .i64 Re, .int .i64 Ca, .int .i64 S, .int .i64 B]] w fun e w' => e = .returned (.tuple #[.int .i64 (windowF T R H Ca S (listedF R H Re) (listedF R H Re * R)), .int .i64 0]) ∧ Ext w w' := fun w => window_any T R H Re Ca S B hok w
  have hRH := mul_bd (a := R) (b := H) (A := 16) (B := 8) (by omega) a4 (by omega) a6
  obtain ⟨hRH1, hRH2⟩ := hRH
  by_cases hod : Okay T R H Re (Ca + 1) S B
  · have h6 : ∀ w : World, Calls Try.prog 34 #[.agg #[.int .i64 T, .int .i64 R, .int .i64 H, .int .i64 Re, .int .i64 (Ca + 1), .int .i64 S, .int .i64 B]] w fun e w' => e = .returned (.bool true) ∧ Ext w w' := fun w => by have := config_any T R H Re (Ca + 1) S B w; rwa [decide_eq_true hod] at this
    have q1 : ∀ w : World, Calls Try.prog 30 #[.agg #[.int .i64 T, .int .i64 R, .int .i64 H, .int .i64 Re, .int .i64 (Ca + 1), .int .i64 S, .int .i64 B]] w fun e w' => e = .returned (.tuple #[.int .i64 (listedF R H Re), .int .i64 0]) ∧ Ext w w' := fun w => listed_any T R H Re (Ca + 1) S B hod w
    have q2 : ∀ w : World, Calls Try.prog 31 #[.agg #[.int .i64 T, .int .i64 R, .int .i64 H, .int .i64 Re, .int .i64 (Ca + 1), .int .i64 S, .int .i64 B]] w fun e w' => e = .returned (.tuple #[.int .i64 (listedF R H Re * R), .int .i64 0]) ∧ Ext w w' := fun w => retired_any T R H Re (Ca + 1) S B hod w
    have q3 : ∀ w : World, Calls Try.prog 32 #[.agg #[.int .i64 T, .int .i64 R, .int .i64 H, .int .i64 Re, .int .i64 (Ca + 1), .int .i64 S, .int .i64 B]] w fun e w' => e = .returned (.tuple #[.int .i64 (soloF T R H (Ca + 1) S (listedF R H Re)), .int .i64 0]) ∧ Ext w w' := fun w => solo_any T R H Re (Ca + 1) S B hod w
    have q4 : ∀ w : World, Calls Try.prog 33 #[.agg #[.int .i64 T, .int .i64 R, .int .i64 H, .int .i64 Re, .int .i64 (Ca + 1), .int .i64 S, .int .i64 B]] w fun e w' => e = .returned (.tuple #[.int .i64 (windowF T R H (Ca + 1) S (listedF R H Re) (listedF R H Re * R)), .int .i64 0]) ∧ Ext w w' := fun w => window_any T R H Re (Ca + 1) S B hod w
    clear hok hod
    have z1 : decide (listedF R H Re < listedF R H Re) = false := decide_eq_false (by omega)
    have z2 : decide (listedF R H Re < Re) = false := decide_eq_false (by omega)
    have z3 : decide (listedF R H Re ≤ R * H) = false := decide_eq_false (by omega)
    have z4 : decide (listedF R H Re * R < listedF R H Re * R) = false := decide_eq_false (by omega)
    have z5 : decide (soloF T R H (Ca + 1) S (listedF R H Re) < soloF T R H Ca S (listedF R H Re)) = false := decide_eq_false (by omega)
    have z6 : decide (windowF T R H Ca S (listedF R H Re) (listedF R H Re * R) ≤ windowF T R H (Ca + 1) S (listedF R H Re) (listedF R H Re * R)) = true := decide_eq_true m6
    clear m1 m2 m3 m4 m5 m6
    go_enter Try.func8, Try.ntmps8
    go_upto_region 1 with fail
    obtain ⟨w0, hw0, hC, hE, hlt0⟩ := enter1 w (.cells (cfgV T R H Re Ca S B) 23)
    rw [hw0]
    have HE := Lib.hid hE
    have HC := Lib.hid hC
    obtain ⟨d0, d1, d2, d3, d4, d5, d6⟩ := Lat.cfg hC
    obtain ⟨k0, hk0⟩ := lat_self w0
    rw [hk0]
    clear hw0 hC hE hk0 hlt0
    go_wp2_with fail
    refine (hA _).mono ?_
    rintro e w1 ⟨rfl, e1⟩
    obtain ⟨k1, rfl⟩ := lat_next k0 e1
    clear e1
    go_upto_region 18 with fail
    obtain ⟨w2, hw2, hD, hE2, hlt2⟩ := enter1 k1.world (.cells #[.int .i64 T, .int .i64 R, .int .i64 H, .int .i64 Re, .int .i64 (Ca + 1), .int .i64 S, .int .i64 B] 23)
    rw [hw2]
    have HE2 := Lib.hid (Ext.next k1.ok hE2)
    clear d0 d1 d2 d3 d4 d5 d6
    obtain ⟨d0, d1, d2, d3, d4, d5, d6⟩ := Lat.cfg (ext_blk HE2.out HC.out)
    obtain ⟨e0, e1, e2, e3, e4, e5, e6⟩ := Lat.cfg hD
    obtain ⟨k2, hk2⟩ := lat_self w2
    rw [hk2]
    generalize k1.world.heap.size = pd at *
    clear hw2 hD hE2 hlt2 hk2
    go_wp2_with fail
    refine (h5 _).mono ?_
    rintro e w1 ⟨rfl, e1⟩
    obtain ⟨k3, rfl⟩ := lat_next k2 e1
    clear e1
    go_wp2_with fail
    refine (h6 _).mono ?_
    rintro e w1 ⟨rfl, e1⟩
    obtain ⟨k4, rfl⟩ := lat_next k3 e1
    clear e1
    go_wp2_with fail
    refine (p1 _).mono ?_
    rintro e w1 ⟨rfl, e1⟩
    obtain ⟨k5, rfl⟩ := lat_next k4 e1
    clear e1
    go_wp2_with fail
    refine (q1 _).mono ?_
    rintro e w1 ⟨rfl, e1⟩
    obtain ⟨k6, rfl⟩ := lat_next k5 e1
    clear e1
    go_wp2_with fail
    refine (p2 _).mono ?_
    rintro e w1 ⟨rfl, e1⟩
    obtain ⟨k7, rfl⟩ := lat_next k6 e1
    clear e1
    go_wp2_with fail
    refine (q2 _).mono ?_
    rintro e w1 ⟨rfl, e1⟩
    obtain ⟨k8, rfl⟩ := lat_next k7 e1
    clear e1
    go_wp2_with fail
    refine (p3 _).mono ?_
    rintro e w1 ⟨rfl, e1⟩
    obtain ⟨k9, rfl⟩ := lat_next k8 e1
    clear e1
    go_wp2_with fail
    refine (q3 _).mono ?_
    rintro e w1 ⟨rfl, e1⟩
    obtain ⟨k10, rfl⟩ := lat_next k9 e1
    clear e1
    go_wp2_with fail
    refine (p4 _).mono ?_
    rintro e w1 ⟨rfl, e1⟩
    obtain ⟨k11, rfl⟩ := lat_next k10 e1
    clear e1
    go_wp2_with fail
    refine (q4 _).mono ?_
    rintro e w1 ⟨rfl, e1⟩
    obtain ⟨k12, rfl⟩ := lat_next k11 e1
    clear e1
    go_wp2_with fail
    go_ret
    exact ⟨rfl, Ext.next HE.out (Ext.next HE2.out k12.ok)⟩
  · have h6 : ∀ w : World, Calls Try.prog 34 #[.agg #[.int .i64 T, .int .i64 R, .int .i64 H, .int .i64 Re, .int .i64 (Ca + 1), .int .i64 S, .int .i64 B]] w fun e w' => e = .returned (.bool false) ∧ Ext w w' := fun w => by have := config_any T R H Re (Ca + 1) S B w; rwa [decide_eq_false hod] at this
    clear hok hod m1 m2 m3 m4 m5 m6 p1 p2 p3 p4 hr0 hl0
    go_enter Try.func8, Try.ntmps8
    go_upto_region 1 with fail
    obtain ⟨w0, hw0, hC, hE, hlt0⟩ := enter1 w (.cells (cfgV T R H Re Ca S B) 23)
    rw [hw0]
    have HE := Lib.hid hE
    have HC := Lib.hid hC
    obtain ⟨d0, d1, d2, d3, d4, d5, d6⟩ := Lat.cfg hC
    obtain ⟨k0, hk0⟩ := lat_self w0
    rw [hk0]
    clear hw0 hC hE hk0 hlt0
    go_wp2_with fail
    refine (hA _).mono ?_
    rintro e w1 ⟨rfl, e1⟩
    obtain ⟨k1, rfl⟩ := lat_next k0 e1
    clear e1
    go_upto_region 18 with fail
    obtain ⟨w2, hw2, hD, hE2, hlt2⟩ := enter1 k1.world (.cells #[.int .i64 T, .int .i64 R, .int .i64 H, .int .i64 Re, .int .i64 (Ca + 1), .int .i64 S, .int .i64 B] 23)
    rw [hw2]
    have HE2 := Lib.hid (Ext.next k1.ok hE2)
    clear d0 d1 d2 d3 d4 d5 d6
    obtain ⟨d0, d1, d2, d3, d4, d5, d6⟩ := Lat.cfg (ext_blk HE2.out HC.out)
    obtain ⟨e0, e1, e2, e3, e4, e5, e6⟩ := Lat.cfg hD
    obtain ⟨k2, hk2⟩ := lat_self w2
    rw [hk2]
    generalize k1.world.heap.size = pd at *
    clear hw2 hD hE2 hlt2 hk2
    go_wp2_with fail
    refine (h5 _).mono ?_
    rintro e w1 ⟨rfl, e1⟩
    obtain ⟨k3, rfl⟩ := lat_next k2 e1
    clear e1
    go_wp2_with fail
    refine (h6 _).mono ?_
    rintro e w1 ⟨rfl, e1⟩
    obtain ⟨k4, rfl⟩ := lat_next k3 e1
    clear e1
    go_wp2_with fail
    go_ret
    exact ⟨rfl, Ext.next HE.out (Ext.next HE2.out k4.ok)⟩
set_option maxRecDepth 100000 in
set_option maxHeartbeats 4000000 in
theorem grow5_no (hA : AwakeSays) (T R H Re Ca S B : Int) (hok : ¬ Okay T R H Re Ca S B) (w : World) : Calls Try.prog 8 #[(.agg #[.int .i64 T, .int .i64 R, .int .i64 H, .int .i64 Re, .int .i64 Ca, .int .i64 S, .int .i64 B]), .int .i64 5] w fun e w' => e = .returned (.bool true) ∧ Ext w w' := by
  have h5 : ∀ w : World, Calls Try.prog 34 #[.agg #[.int .i64 T, .int .i64 R, .int .i64 H, .int .i64 Re, .int .i64 Ca, .int .i64 S, .int .i64 B]] w fun e w' => e = .returned (.bool false) ∧ Ext w w' := fun w => by have := config_any T R H Re Ca S B w; rwa [decide_eq_false hok] at this
  clear hok
  go_enter Try.func8, Try.ntmps8
  go_upto_region 1 with fail
  obtain ⟨w0, hw0, hC, hE, hlt0⟩ := enter1 w (.cells (cfgV T R H Re Ca S B) 23)
  rw [hw0]
  have HE := Lib.hid hE
  have HC := Lib.hid hC
  obtain ⟨d0, d1, d2, d3, d4, d5, d6⟩ := Lat.cfg hC
  obtain ⟨k0, hk0⟩ := lat_self w0
  rw [hk0]
  clear hw0 hC hE hk0 hlt0
  go_wp2_with fail
  refine (hA _).mono ?_
  rintro e w1 ⟨rfl, e1⟩
  obtain ⟨k1, rfl⟩ := lat_next k0 e1
  clear e1
  go_upto_region 18 with fail
  obtain ⟨w2, hw2, hD, hE2, hlt2⟩ := enter1 k1.world (.cells #[.int .i64 T, .int .i64 R, .int .i64 H, .int .i64 Re, .int .i64 Ca, .int .i64 (wrap64 (S + 1)), .int .i64 B] 23)
  rw [hw2]
  have HE2 := Lib.hid (Ext.next k1.ok hE2)
  obtain ⟨k2, hk2⟩ := lat_of HE2.out
  rw [hk2]
  clear hw2 hD hE2 hlt2 hk2
  go_wp2_with fail
  refine (h5 _).mono ?_
  rintro e w1 ⟨rfl, e1⟩
  obtain ⟨k3, rfl⟩ := lat_next k2 e1
  clear e1
  go_wp2_with fail
  go_ret
  exact ⟨rfl, Ext.next HE.out k3.ok⟩
set_option maxRecDepth 100000 in
set_option maxHeartbeats 4000000 in
theorem grow5_any (hA : AwakeSays) (T R H Re Ca S B : Int) (hok : Okay T R H Re Ca S B) (w : World) : Calls Try.prog 8 #[(.agg #[.int .i64 T, .int .i64 R, .int .i64 H, .int .i64 Re, .int .i64 Ca, .int .i64 S, .int .i64 B]), .int .i64 5] w fun e w' => e = .returned (.bool true) ∧ Ext w w' := by
  have hok' := hok
  unfold Okay at hok'
  obtain ⟨a1, a2, a3, a4, a5, a6, a7, a8, a9, a10, a11, a12, a13, a14⟩ := hok'
  have hl0 := (listed_bd hok).1
  obtain ⟨m1, m2, m3⟩ := listed_mono (R := R) (R' := R) (H := H) (H' := H) (Re := Re) (Re' := Re) a3 (by omega) a5 (by omega) (by omega)
  have hr0 : 0 ≤ listedF R H Re * R := Int.mul_nonneg hl0 (by omega)
  have m4 : listedF R H Re * R ≤ listedF R H Re * R := Int.mul_le_mul m1 (by omega) (by omega) (by omega)
  have m5 : soloF T R H Ca S (listedF R H Re) ≤ soloF T R H Ca (S + 1) (listedF R H Re) := solo_mono a1 (by omega) a3 (by omega) a5 (by omega) (by omega) (by omega) hl0 m1
  have m6 : windowF T R H Ca S (listedF R H Re) (listedF R H Re * R) ≤ windowF T R H Ca (S + 1) (listedF R H Re) (listedF R H Re * R) := window_mono a1 (by omega) a3 (by omega) a5 (by omega) a9 (by omega) a11 (by omega) hl0 m1 hr0 m4
  have h5 : ∀ w : World, Calls Try.prog 34 #[.agg #[.int .i64 T, .int .i64 R, .int .i64 H, .int .i64 Re, .int .i64 Ca, .int .i64 S, .int .i64 B]] w fun e w' => e = .returned (.bool true) ∧ Ext w w' := fun w => by have := config_any T R H Re Ca S B w; rwa [decide_eq_true hok] at this
  have p1 : ∀ w : World, Calls Try.prog 30 #[.agg #[.int .i64 T, .int .i64 R, .int .i64 H, .int .i64 Re, .int .i64 Ca, .int .i64 S, .int .i64 B]] w fun e w' => e = .returned (.tuple #[.int .i64 (listedF R H Re), .int .i64 0]) ∧ Ext w w' := fun w => listed_any T R H Re Ca S B hok w
  have p2 : ∀ w : World, Calls Try.prog 31 #[.agg #[.int .i64 T, .int .i64 R, .int .i64 H, .int .i64 Re, .int .i64 Ca, .int .i64 S, .int .i64 B]] w fun e w' => e = .returned (.tuple #[.int .i64 (listedF R H Re * R), .int .i64 0]) ∧ Ext w w' := fun w => retired_any T R H Re Ca S B hok w
  have p3 : ∀ w : World, Calls Try.prog 32 #[.agg #[.int .i64 T, .int .i64 R, .int .i64 H, .int .i64 Re, .int .i64 Ca, .int .i64 S, .int .i64 B]] w fun e w' => e = .returned (.tuple #[.int .i64 (soloF T R H Ca S (listedF R H Re)), .int .i64 0]) ∧ Ext w w' := fun w => solo_any T R H Re Ca S B hok w
  have p4 : ∀ w : World, Calls Try.prog 33 #[.agg #[.int .i64 T, .int .i64 R, .int .i64 H, .int .i64 Re, .int .i64 Ca, .int .i64 S, .int .i64 B]] w fun e w' => e = .returned (.tuple #[.int .i64 (windowF T R H Ca S (listedF R H Re) (listedF R H Re * R)), .int .i64 0]) ∧ Ext w w' := fun w => window_any T R H Re Ca S B hok w
  have hRH := mul_bd (a := R) (b := H) (A := 16) (B := 8) (by omega) a4 (by omega) a6
  obtain ⟨hRH1, hRH2⟩ := hRH
  by_cases hod : Okay T R H Re Ca (S + 1) B
  · have h6 : ∀ w : World, Calls Try.prog 34 #[.agg #[.int .i64 T, .int .i64 R, .int .i64 H, .int .i64 Re, .int .i64 Ca, .int .i64 (S + 1), .int .i64 B]] w fun e w' => e = .returned (.bool true) ∧ Ext w w' := fun w => by have := config_any T R H Re Ca (S + 1) B w; rwa [decide_eq_true hod] at this
    have q1 : ∀ w : World, Calls Try.prog 30 #[.agg #[.int .i64 T, .int .i64 R, .int .i64 H, .int .i64 Re, .int .i64 Ca, .int .i64 (S + 1), .int .i64 B]] w fun e w' => e = .returned (.tuple #[.int .i64 (listedF R H Re), .int .i64 0]) ∧ Ext w w' := fun w => listed_any T R H Re Ca (S + 1) B hod w
    have q2 : ∀ w : World, Calls Try.prog 31 #[.agg #[.int .i64 T, .int .i64 R, .int .i64 H, .int .i64 Re, .int .i64 Ca, .int .i64 (S + 1), .int .i64 B]] w fun e w' => e = .returned (.tuple #[.int .i64 (listedF R H Re * R), .int .i64 0]) ∧ Ext w w' := fun w => retired_any T R H Re Ca (S + 1) B hod w
    have q3 : ∀ w : World, Calls Try.prog 32 #[.agg #[.int .i64 T, .int .i64 R, .int .i64 H, .int .i64 Re, .int .i64 Ca, .int .i64 (S + 1), .int .i64 B]] w fun e w' => e = .returned (.tuple #[.int .i64 (soloF T R H Ca (S + 1) (listedF R H Re)), .int .i64 0]) ∧ Ext w w' := fun w => solo_any T R H Re Ca (S + 1) B hod w
    have q4 : ∀ w : World, Calls Try.prog 33 #[.agg #[.int .i64 T, .int .i64 R, .int .i64 H, .int .i64 Re, .int .i64 Ca, .int .i64 (S + 1), .int .i64 B]] w fun e w' => e = .returned (.tuple #[.int .i64 (windowF T R H Ca (S + 1) (listedF R H Re) (listedF R H Re * R)), .int .i64 0]) ∧ Ext w w' := fun w => window_any T R H Re Ca (S + 1) B hod w
    clear hok hod
    have z1 : decide (listedF R H Re < listedF R H Re) = false := decide_eq_false (by omega)
    have z2 : decide (listedF R H Re < Re) = false := decide_eq_false (by omega)
    have z3 : decide (listedF R H Re ≤ R * H) = false := decide_eq_false (by omega)
    have z4 : decide (listedF R H Re * R < listedF R H Re * R) = false := decide_eq_false (by omega)
    have z5 : decide (soloF T R H Ca (S + 1) (listedF R H Re) < soloF T R H Ca S (listedF R H Re)) = false := decide_eq_false (by omega)
    have z6 : decide (windowF T R H Ca S (listedF R H Re) (listedF R H Re * R) ≤ windowF T R H Ca (S + 1) (listedF R H Re) (listedF R H Re * R)) = true := decide_eq_true m6
    clear m1 m2 m3 m4 m5 m6
    go_enter Try.func8, Try.ntmps8
    go_upto_region 1 with fail
    obtain ⟨w0, hw0, hC, hE, hlt0⟩ := enter1 w (.cells (cfgV T R H Re Ca S B) 23)
    rw [hw0]
    have HE := Lib.hid hE
    have HC := Lib.hid hC
    obtain ⟨d0, d1, d2, d3, d4, d5, d6⟩ := Lat.cfg hC
    obtain ⟨k0, hk0⟩ := lat_self w0
    rw [hk0]
    clear hw0 hC hE hk0 hlt0
    go_wp2_with fail
    refine (hA _).mono ?_
    rintro e w1 ⟨rfl, e1⟩
    obtain ⟨k1, rfl⟩ := lat_next k0 e1
    clear e1
    go_upto_region 18 with fail
    obtain ⟨w2, hw2, hD, hE2, hlt2⟩ := enter1 k1.world (.cells #[.int .i64 T, .int .i64 R, .int .i64 H, .int .i64 Re, .int .i64 Ca, .int .i64 (S + 1), .int .i64 B] 23)
    rw [hw2]
    have HE2 := Lib.hid (Ext.next k1.ok hE2)
    clear d0 d1 d2 d3 d4 d5 d6
    obtain ⟨d0, d1, d2, d3, d4, d5, d6⟩ := Lat.cfg (ext_blk HE2.out HC.out)
    obtain ⟨e0, e1, e2, e3, e4, e5, e6⟩ := Lat.cfg hD
    obtain ⟨k2, hk2⟩ := lat_self w2
    rw [hk2]
    generalize k1.world.heap.size = pd at *
    clear hw2 hD hE2 hlt2 hk2
    go_wp2_with fail
    refine (h5 _).mono ?_
    rintro e w1 ⟨rfl, e1⟩
    obtain ⟨k3, rfl⟩ := lat_next k2 e1
    clear e1
    go_wp2_with fail
    refine (h6 _).mono ?_
    rintro e w1 ⟨rfl, e1⟩
    obtain ⟨k4, rfl⟩ := lat_next k3 e1
    clear e1
    go_wp2_with fail
    refine (p1 _).mono ?_
    rintro e w1 ⟨rfl, e1⟩
    obtain ⟨k5, rfl⟩ := lat_next k4 e1
    clear e1
    go_wp2_with fail
    refine (q1 _).mono ?_
    rintro e w1 ⟨rfl, e1⟩
    obtain ⟨k6, rfl⟩ := lat_next k5 e1
    clear e1
    go_wp2_with fail
    refine (p2 _).mono ?_
    rintro e w1 ⟨rfl, e1⟩
    obtain ⟨k7, rfl⟩ := lat_next k6 e1
    clear e1
    go_wp2_with fail
    refine (q2 _).mono ?_
    rintro e w1 ⟨rfl, e1⟩
    obtain ⟨k8, rfl⟩ := lat_next k7 e1
    clear e1
    go_wp2_with fail
    refine (p3 _).mono ?_
    rintro e w1 ⟨rfl, e1⟩
    obtain ⟨k9, rfl⟩ := lat_next k8 e1
    clear e1
    go_wp2_with fail
    refine (q3 _).mono ?_
    rintro e w1 ⟨rfl, e1⟩
    obtain ⟨k10, rfl⟩ := lat_next k9 e1
    clear e1
    go_wp2_with fail
    refine (p4 _).mono ?_
    rintro e w1 ⟨rfl, e1⟩
    obtain ⟨k11, rfl⟩ := lat_next k10 e1
    clear e1
    go_wp2_with fail
    refine (q4 _).mono ?_
    rintro e w1 ⟨rfl, e1⟩
    obtain ⟨k12, rfl⟩ := lat_next k11 e1
    clear e1
    go_wp2_with fail
    go_ret
    exact ⟨rfl, Ext.next HE.out (Ext.next HE2.out k12.ok)⟩
  · have h6 : ∀ w : World, Calls Try.prog 34 #[.agg #[.int .i64 T, .int .i64 R, .int .i64 H, .int .i64 Re, .int .i64 Ca, .int .i64 (S + 1), .int .i64 B]] w fun e w' => e = .returned (.bool false) ∧ Ext w w' := fun w => by have := config_any T R H Re Ca (S + 1) B w; rwa [decide_eq_false hod] at this
    clear hok hod m1 m2 m3 m4 m5 m6 p1 p2 p3 p4 hr0 hl0
    go_enter Try.func8, Try.ntmps8
    go_upto_region 1 with fail
    obtain ⟨w0, hw0, hC, hE, hlt0⟩ := enter1 w (.cells (cfgV T R H Re Ca S B) 23)
    rw [hw0]
    have HE := Lib.hid hE
    have HC := Lib.hid hC
    obtain ⟨d0, d1, d2, d3, d4, d5, d6⟩ := Lat.cfg hC
    obtain ⟨k0, hk0⟩ := lat_self w0
    rw [hk0]
    clear hw0 hC hE hk0 hlt0
    go_wp2_with fail
    refine (hA _).mono ?_
    rintro e w1 ⟨rfl, e1⟩
    obtain ⟨k1, rfl⟩ := lat_next k0 e1
    clear e1
    go_upto_region 18 with fail
    obtain ⟨w2, hw2, hD, hE2, hlt2⟩ := enter1 k1.world (.cells #[.int .i64 T, .int .i64 R, .int .i64 H, .int .i64 Re, .int .i64 Ca, .int .i64 (S + 1), .int .i64 B] 23)
    rw [hw2]
    have HE2 := Lib.hid (Ext.next k1.ok hE2)
    clear d0 d1 d2 d3 d4 d5 d6
    obtain ⟨d0, d1, d2, d3, d4, d5, d6⟩ := Lat.cfg (ext_blk HE2.out HC.out)
    obtain ⟨e0, e1, e2, e3, e4, e5, e6⟩ := Lat.cfg hD
    obtain ⟨k2, hk2⟩ := lat_self w2
    rw [hk2]
    generalize k1.world.heap.size = pd at *
    clear hw2 hD hE2 hlt2 hk2
    go_wp2_with fail
    refine (h5 _).mono ?_
    rintro e w1 ⟨rfl, e1⟩
    obtain ⟨k3, rfl⟩ := lat_next k2 e1
    clear e1
    go_wp2_with fail
    refine (h6 _).mono ?_
    rintro e w1 ⟨rfl, e1⟩
    obtain ⟨k4, rfl⟩ := lat_next k3 e1
    clear e1
    go_wp2_with fail
    go_ret
    exact ⟨rfl, Ext.next HE.out (Ext.next HE2.out k4.ok)⟩
set_option maxRecDepth 100000 in
set_option maxHeartbeats 4000000 in
theorem grow6_no (hA : AwakeSays) (T R H Re Ca S B : Int) (hok : ¬ Okay T R H Re Ca S B) (which : Int) (n0 : which ≠ 0) (n1 : which ≠ 1) (n2 : which ≠ 2) (n3 : which ≠ 3) (n4 : which ≠ 4) (n5 : which ≠ 5) (w : World) : Calls Try.prog 8 #[(.agg #[.int .i64 T, .int .i64 R, .int .i64 H, .int .i64 Re, .int .i64 Ca, .int .i64 S, .int .i64 B]), .int .i64 which] w fun e w' => e = .returned (.bool true) ∧ Ext w w' := by
  have h5 : ∀ w : World, Calls Try.prog 34 #[.agg #[.int .i64 T, .int .i64 R, .int .i64 H, .int .i64 Re, .int .i64 Ca, .int .i64 S, .int .i64 B]] w fun e w' => e = .returned (.bool false) ∧ Ext w w' := fun w => by have := config_any T R H Re Ca S B w; rwa [decide_eq_false hok] at this
  clear hok
  have g0 : (which == 0) = false := beq_eq_false_iff_ne.2 n0
  have g1 : (which == 1) = false := beq_eq_false_iff_ne.2 n1
  have g2 : (which == 2) = false := beq_eq_false_iff_ne.2 n2
  have g3 : (which == 3) = false := beq_eq_false_iff_ne.2 n3
  have g4 : (which == 4) = false := beq_eq_false_iff_ne.2 n4
  have g5 : (which == 5) = false := beq_eq_false_iff_ne.2 n5
  clear n0 n1 n2 n3 n4 n5
  go_enter Try.func8, Try.ntmps8
  go_upto_region 1 with fail
  obtain ⟨w0, hw0, hC, hE, hlt0⟩ := enter1 w (.cells (cfgV T R H Re Ca S B) 23)
  rw [hw0]
  have HE := Lib.hid hE
  have HC := Lib.hid hC
  obtain ⟨d0, d1, d2, d3, d4, d5, d6⟩ := Lat.cfg hC
  obtain ⟨k0, hk0⟩ := lat_self w0
  rw [hk0]
  clear hw0 hC hE hk0 hlt0
  go_wp2_with fail
  refine (hA _).mono ?_
  rintro e w1 ⟨rfl, e1⟩
  obtain ⟨k1, rfl⟩ := lat_next k0 e1
  clear e1
  go_upto_region 18 with fail
  obtain ⟨w2, hw2, hD, hE2, hlt2⟩ := enter1 k1.world (.cells #[.int .i64 T, .int .i64 R, .int .i64 H, .int .i64 Re, .int .i64 Ca, .int .i64 S, .int .i64 (wrap64 (B + 1))] 23)
  rw [hw2]
  have HE2 := Lib.hid (Ext.next k1.ok hE2)
  obtain ⟨k2, hk2⟩ := lat_of HE2.out
  rw [hk2]
  clear hw2 hD hE2 hlt2 hk2
  go_wp2_with fail
  refine (h5 _).mono ?_
  rintro e w1 ⟨rfl, e1⟩
  obtain ⟨k3, rfl⟩ := lat_next k2 e1
  clear e1
  go_wp2_with fail
  go_ret
  exact ⟨rfl, Ext.next HE.out k3.ok⟩
set_option maxRecDepth 100000 in
set_option maxHeartbeats 4000000 in
theorem grow6_any (hA : AwakeSays) (T R H Re Ca S B : Int) (hok : Okay T R H Re Ca S B) (which : Int) (n0 : which ≠ 0) (n1 : which ≠ 1) (n2 : which ≠ 2) (n3 : which ≠ 3) (n4 : which ≠ 4) (n5 : which ≠ 5) (w : World) : Calls Try.prog 8 #[(.agg #[.int .i64 T, .int .i64 R, .int .i64 H, .int .i64 Re, .int .i64 Ca, .int .i64 S, .int .i64 B]), .int .i64 which] w fun e w' => e = .returned (.bool true) ∧ Ext w w' := by
  have hok' := hok
  unfold Okay at hok'
  obtain ⟨a1, a2, a3, a4, a5, a6, a7, a8, a9, a10, a11, a12, a13, a14⟩ := hok'
  have hl0 := (listed_bd hok).1
  obtain ⟨m1, m2, m3⟩ := listed_mono (R := R) (R' := R) (H := H) (H' := H) (Re := Re) (Re' := Re) a3 (by omega) a5 (by omega) (by omega)
  have hr0 : 0 ≤ listedF R H Re * R := Int.mul_nonneg hl0 (by omega)
  have m4 : listedF R H Re * R ≤ listedF R H Re * R := Int.mul_le_mul m1 (by omega) (by omega) (by omega)
  have m5 : soloF T R H Ca S (listedF R H Re) ≤ soloF T R H Ca S (listedF R H Re) := solo_mono a1 (by omega) a3 (by omega) a5 (by omega) (by omega) (by omega) hl0 m1
  have m6 : windowF T R H Ca S (listedF R H Re) (listedF R H Re * R) ≤ windowF T R H Ca S (listedF R H Re) (listedF R H Re * R) := window_mono a1 (by omega) a3 (by omega) a5 (by omega) a9 (by omega) a11 (by omega) hl0 m1 hr0 m4
  have h5 : ∀ w : World, Calls Try.prog 34 #[.agg #[.int .i64 T, .int .i64 R, .int .i64 H, .int .i64 Re, .int .i64 Ca, .int .i64 S, .int .i64 B]] w fun e w' => e = .returned (.bool true) ∧ Ext w w' := fun w => by have := config_any T R H Re Ca S B w; rwa [decide_eq_true hok] at this
  have p1 : ∀ w : World, Calls Try.prog 30 #[.agg #[.int .i64 T, .int .i64 R, .int .i64 H, .int .i64 Re, .int .i64 Ca, .int .i64 S, .int .i64 B]] w fun e w' => e = .returned (.tuple #[.int .i64 (listedF R H Re), .int .i64 0]) ∧ Ext w w' := fun w => listed_any T R H Re Ca S B hok w
  have p2 : ∀ w : World, Calls Try.prog 31 #[.agg #[.int .i64 T, .int .i64 R, .int .i64 H, .int .i64 Re, .int .i64 Ca, .int .i64 S, .int .i64 B]] w fun e w' => e = .returned (.tuple #[.int .i64 (listedF R H Re * R), .int .i64 0]) ∧ Ext w w' := fun w => retired_any T R H Re Ca S B hok w
  have p3 : ∀ w : World, Calls Try.prog 32 #[.agg #[.int .i64 T, .int .i64 R, .int .i64 H, .int .i64 Re, .int .i64 Ca, .int .i64 S, .int .i64 B]] w fun e w' => e = .returned (.tuple #[.int .i64 (soloF T R H Ca S (listedF R H Re)), .int .i64 0]) ∧ Ext w w' := fun w => solo_any T R H Re Ca S B hok w
  have p4 : ∀ w : World, Calls Try.prog 33 #[.agg #[.int .i64 T, .int .i64 R, .int .i64 H, .int .i64 Re, .int .i64 Ca, .int .i64 S, .int .i64 B]] w fun e w' => e = .returned (.tuple #[.int .i64 (windowF T R H Ca S (listedF R H Re) (listedF R H Re * R)), .int .i64 0]) ∧ Ext w w' := fun w => window_any T R H Re Ca S B hok w
  have hRH := mul_bd (a := R) (b := H) (A := 16) (B := 8) (by omega) a4 (by omega) a6
  obtain ⟨hRH1, hRH2⟩ := hRH
  by_cases hod : Okay T R H Re Ca S (B + 1)
  · have h6 : ∀ w : World, Calls Try.prog 34 #[.agg #[.int .i64 T, .int .i64 R, .int .i64 H, .int .i64 Re, .int .i64 Ca, .int .i64 S, .int .i64 (B + 1)]] w fun e w' => e = .returned (.bool true) ∧ Ext w w' := fun w => by have := config_any T R H Re Ca S (B + 1) w; rwa [decide_eq_true hod] at this
    have q1 : ∀ w : World, Calls Try.prog 30 #[.agg #[.int .i64 T, .int .i64 R, .int .i64 H, .int .i64 Re, .int .i64 Ca, .int .i64 S, .int .i64 (B + 1)]] w fun e w' => e = .returned (.tuple #[.int .i64 (listedF R H Re), .int .i64 0]) ∧ Ext w w' := fun w => listed_any T R H Re Ca S (B + 1) hod w
    have q2 : ∀ w : World, Calls Try.prog 31 #[.agg #[.int .i64 T, .int .i64 R, .int .i64 H, .int .i64 Re, .int .i64 Ca, .int .i64 S, .int .i64 (B + 1)]] w fun e w' => e = .returned (.tuple #[.int .i64 (listedF R H Re * R), .int .i64 0]) ∧ Ext w w' := fun w => retired_any T R H Re Ca S (B + 1) hod w
    have q3 : ∀ w : World, Calls Try.prog 32 #[.agg #[.int .i64 T, .int .i64 R, .int .i64 H, .int .i64 Re, .int .i64 Ca, .int .i64 S, .int .i64 (B + 1)]] w fun e w' => e = .returned (.tuple #[.int .i64 (soloF T R H Ca S (listedF R H Re)), .int .i64 0]) ∧ Ext w w' := fun w => solo_any T R H Re Ca S (B + 1) hod w
    have q4 : ∀ w : World, Calls Try.prog 33 #[.agg #[.int .i64 T, .int .i64 R, .int .i64 H, .int .i64 Re, .int .i64 Ca, .int .i64 S, .int .i64 (B + 1)]] w fun e w' => e = .returned (.tuple #[.int .i64 (windowF T R H Ca S (listedF R H Re) (listedF R H Re * R)), .int .i64 0]) ∧ Ext w w' := fun w => window_any T R H Re Ca S (B + 1) hod w
    clear hok hod
    have z1 : decide (listedF R H Re < listedF R H Re) = false := decide_eq_false (by omega)
    have z2 : decide (listedF R H Re < Re) = false := decide_eq_false (by omega)
    have z3 : decide (listedF R H Re ≤ R * H) = false := decide_eq_false (by omega)
    have z4 : decide (listedF R H Re * R < listedF R H Re * R) = false := decide_eq_false (by omega)
    have z5 : decide (soloF T R H Ca S (listedF R H Re) < soloF T R H Ca S (listedF R H Re)) = false := decide_eq_false (by omega)
    have z6 : decide (windowF T R H Ca S (listedF R H Re) (listedF R H Re * R) ≤ windowF T R H Ca S (listedF R H Re) (listedF R H Re * R)) = true := decide_eq_true m6
    clear m1 m2 m3 m4 m5 m6
    have g0 : (which == 0) = false := beq_eq_false_iff_ne.2 n0
    have g1 : (which == 1) = false := beq_eq_false_iff_ne.2 n1
    have g2 : (which == 2) = false := beq_eq_false_iff_ne.2 n2
    have g3 : (which == 3) = false := beq_eq_false_iff_ne.2 n3
    have g4 : (which == 4) = false := beq_eq_false_iff_ne.2 n4
    have g5 : (which == 5) = false := beq_eq_false_iff_ne.2 n5
    clear n0 n1 n2 n3 n4 n5
    go_enter Try.func8, Try.ntmps8
    go_upto_region 1 with fail
    obtain ⟨w0, hw0, hC, hE, hlt0⟩ := enter1 w (.cells (cfgV T R H Re Ca S B) 23)
    rw [hw0]
    have HE := Lib.hid hE
    have HC := Lib.hid hC
    obtain ⟨d0, d1, d2, d3, d4, d5, d6⟩ := Lat.cfg hC
    obtain ⟨k0, hk0⟩ := lat_self w0
    rw [hk0]
    clear hw0 hC hE hk0 hlt0
    go_wp2_with fail
    refine (hA _).mono ?_
    rintro e w1 ⟨rfl, e1⟩
    obtain ⟨k1, rfl⟩ := lat_next k0 e1
    clear e1
    go_upto_region 18 with fail
    obtain ⟨w2, hw2, hD, hE2, hlt2⟩ := enter1 k1.world (.cells #[.int .i64 T, .int .i64 R, .int .i64 H, .int .i64 Re, .int .i64 Ca, .int .i64 S, .int .i64 (B + 1)] 23)
    rw [hw2]
    have HE2 := Lib.hid (Ext.next k1.ok hE2)
    clear d0 d1 d2 d3 d4 d5 d6
    obtain ⟨d0, d1, d2, d3, d4, d5, d6⟩ := Lat.cfg (ext_blk HE2.out HC.out)
    obtain ⟨e0, e1, e2, e3, e4, e5, e6⟩ := Lat.cfg hD
    obtain ⟨k2, hk2⟩ := lat_self w2
    rw [hk2]
    generalize k1.world.heap.size = pd at *
    clear hw2 hD hE2 hlt2 hk2
    go_wp2_with fail
    refine (h5 _).mono ?_
    rintro e w1 ⟨rfl, e1⟩
    obtain ⟨k3, rfl⟩ := lat_next k2 e1
    clear e1
    go_wp2_with fail
    refine (h6 _).mono ?_
    rintro e w1 ⟨rfl, e1⟩
    obtain ⟨k4, rfl⟩ := lat_next k3 e1
    clear e1
    go_wp2_with fail
    refine (p1 _).mono ?_
    rintro e w1 ⟨rfl, e1⟩
    obtain ⟨k5, rfl⟩ := lat_next k4 e1
    clear e1
    go_wp2_with fail
    refine (q1 _).mono ?_
    rintro e w1 ⟨rfl, e1⟩
    obtain ⟨k6, rfl⟩ := lat_next k5 e1
    clear e1
    go_wp2_with fail
    refine (p2 _).mono ?_
    rintro e w1 ⟨rfl, e1⟩
    obtain ⟨k7, rfl⟩ := lat_next k6 e1
    clear e1
    go_wp2_with fail
    refine (q2 _).mono ?_
    rintro e w1 ⟨rfl, e1⟩
    obtain ⟨k8, rfl⟩ := lat_next k7 e1
    clear e1
    go_wp2_with fail
    refine (p3 _).mono ?_
    rintro e w1 ⟨rfl, e1⟩
    obtain ⟨k9, rfl⟩ := lat_next k8 e1
    clear e1
    go_wp2_with fail
    refine (q3 _).mono ?_
    rintro e w1 ⟨rfl, e1⟩
    obtain ⟨k10, rfl⟩ := lat_next k9 e1
    clear e1
    go_wp2_with fail
    refine (p4 _).mono ?_
    rintro e w1 ⟨rfl, e1⟩
    obtain ⟨k11, rfl⟩ := lat_next k10 e1
    clear e1
    go_wp2_with fail
    refine (q4 _).mono ?_
    rintro e w1 ⟨rfl, e1⟩
    obtain ⟨k12, rfl⟩ := lat_next k11 e1
    clear e1
    go_wp2_with fail
    go_ret
    exact ⟨rfl, Ext.next HE.out (Ext.next HE2.out k12.ok)⟩
  · have h6 : ∀ w : World, Calls Try.prog 34 #[.agg #[.int .i64 T, .int .i64 R, .int .i64 H, .int .i64 Re, .int .i64 Ca, .int .i64 S, .int .i64 (B + 1)]] w fun e w' => e = .returned (.bool false) ∧ Ext w w' := fun w => by have := config_any T R H Re Ca S (B + 1) w; rwa [decide_eq_false hod] at this
    clear hok hod m1 m2 m3 m4 m5 m6 p1 p2 p3 p4 hr0 hl0
    have g0 : (which == 0) = false := beq_eq_false_iff_ne.2 n0
    have g1 : (which == 1) = false := beq_eq_false_iff_ne.2 n1
    have g2 : (which == 2) = false := beq_eq_false_iff_ne.2 n2
    have g3 : (which == 3) = false := beq_eq_false_iff_ne.2 n3
    have g4 : (which == 4) = false := beq_eq_false_iff_ne.2 n4
    have g5 : (which == 5) = false := beq_eq_false_iff_ne.2 n5
    clear n0 n1 n2 n3 n4 n5
    go_enter Try.func8, Try.ntmps8
    go_upto_region 1 with fail
    obtain ⟨w0, hw0, hC, hE, hlt0⟩ := enter1 w (.cells (cfgV T R H Re Ca S B) 23)
    rw [hw0]
    have HE := Lib.hid hE
    have HC := Lib.hid hC
    obtain ⟨d0, d1, d2, d3, d4, d5, d6⟩ := Lat.cfg hC
    obtain ⟨k0, hk0⟩ := lat_self w0
    rw [hk0]
    clear hw0 hC hE hk0 hlt0
    go_wp2_with fail
    refine (hA _).mono ?_
    rintro e w1 ⟨rfl, e1⟩
    obtain ⟨k1, rfl⟩ := lat_next k0 e1
    clear e1
    go_upto_region 18 with fail
    obtain ⟨w2, hw2, hD, hE2, hlt2⟩ := enter1 k1.world (.cells #[.int .i64 T, .int .i64 R, .int .i64 H, .int .i64 Re, .int .i64 Ca, .int .i64 S, .int .i64 (B + 1)] 23)
    rw [hw2]
    have HE2 := Lib.hid (Ext.next k1.ok hE2)
    clear d0 d1 d2 d3 d4 d5 d6
    obtain ⟨d0, d1, d2, d3, d4, d5, d6⟩ := Lat.cfg (ext_blk HE2.out HC.out)
    obtain ⟨e0, e1, e2, e3, e4, e5, e6⟩ := Lat.cfg hD
    obtain ⟨k2, hk2⟩ := lat_self w2
    rw [hk2]
    generalize k1.world.heap.size = pd at *
    clear hw2 hD hE2 hlt2 hk2
    go_wp2_with fail
    refine (h5 _).mono ?_
    rintro e w1 ⟨rfl, e1⟩
    obtain ⟨k3, rfl⟩ := lat_next k2 e1
    clear e1
    go_wp2_with fail
    refine (h6 _).mono ?_
    rintro e w1 ⟨rfl, e1⟩
    obtain ⟨k4, rfl⟩ := lat_next k3 e1
    clear e1
    go_wp2_with fail
    go_ret
    exact ⟨rfl, Ext.next HE.out (Ext.next HE2.out k4.ok)⟩
theorem grows_any (hA : AwakeSays) (T R H Re Ca S B which : Int) (w : World) : Calls Try.prog 8 #[(.agg #[.int .i64 T, .int .i64 R, .int .i64 H, .int .i64 Re, .int .i64 Ca, .int .i64 S, .int .i64 B]), .int .i64 which] w fun e w' => e = .returned (.bool true) ∧ Ext w w' := by
  by_cases n0 : which = 0
  · subst n0
    by_cases hok : Okay T R H Re Ca S B
    · exact grow0_any hA T R H Re Ca S B hok w
    · exact grow0_no hA T R H Re Ca S B hok w
  by_cases n1 : which = 1
  · subst n1
    by_cases hok : Okay T R H Re Ca S B
    · exact grow1_any hA T R H Re Ca S B hok w
    · exact grow1_no hA T R H Re Ca S B hok w
  by_cases n2 : which = 2
  · subst n2
    by_cases hok : Okay T R H Re Ca S B
    · exact grow2_any hA T R H Re Ca S B hok w
    · exact grow2_no hA T R H Re Ca S B hok w
  by_cases n3 : which = 3
  · subst n3
    by_cases hok : Okay T R H Re Ca S B
    · exact grow3_any hA T R H Re Ca S B hok w
    · exact grow3_no hA T R H Re Ca S B hok w
  by_cases n4 : which = 4
  · subst n4
    by_cases hok : Okay T R H Re Ca S B
    · exact grow4_any hA T R H Re Ca S B hok w
    · exact grow4_no hA T R H Re Ca S B hok w
  by_cases n5 : which = 5
  · subst n5
    by_cases hok : Okay T R H Re Ca S B
    · exact grow5_any hA T R H Re Ca S B hok w
    · exact grow5_no hA T R H Re Ca S B hok w
  by_cases hok : Okay T R H Re Ca S B
  · exact grow6_any hA T R H Re Ca S B hok which n0 n1 n2 n3 n4 n5 w
  · exact grow6_no hA T R H Re Ca S B hok which n0 n1 n2 n3 n4 n5 w

set_option maxRecDepth 100000 in
theorem censusGrows_lifted (hA : AwakeSays) (os : Os) (started : os.Started) (H : Type) (enc : TypeId × Value → H) :
    ReturnsInHanded {} Try.checked os 8 .any (Rows.censusGrowsSpec.pre6 enc Try.prog Try.f8 [] false) (Rows.censusGrowsSpec.post enc Try.prog Try.f8 false true false false) := by
  refine lawWrap (C := Try.checked) (tb := 4) own_ started (by kernel_rfl) Try.func8
    (ChangeSpec.witness6 (enc := enc) (C := Try.checked) false ⟨#[], #[.agg #[.int .i64 0, .int .i64 0, .int .i64 0, .int .i64 0, .int .i64 0, .int .i64 0, .int .i64 0], .int .i64 0], []⟩ 8 (by kernel_rfl) (by kernel_rfl) (by kernel_rfl) (by kernel_rfl))
    rfl Try.underlying4 rfl ?_ laidOut_ (by kernel_rfl) ?_
  · intro ds hds
    match ds, hds with
    | [d1, d2], _ => exact ⟨rfl, rfl, rfl⟩
  · intro W base args ds ps hval0 hA0 hlt hsz
    have hval : ∀ (j : Nat) t v, Try.f8.params[j]? = some t → args[j]? = some v → Value.okWide Try.prog W .any base t v := hval0
    have hArgs : DataW.TrodAll enc Try.prog W 0 (fun _ => true) true Try.f8.params.toList args.toList ds ps := hA0
    rw [Try.params8] at hArgs hval
    obtain ⟨v0, v1, d0, d1, p0, p1, rfl, rfl, rfl, h0, h1⟩ := trodAll_two hArgs
    obtain ⟨T, R, H', Re, Ca, S, B, rfl, _⟩ := openCfg (hval 0 23 v0 rfl rfl) h0
    obtain ⟨x, rfl, rfl, rfl, _⟩ := open_int Try.underlying3 (hval 1 3 v1 rfl rfl) h1
    exact grows_any hA T R H' Re Ca S B x W

theorem censusGrows_of (hA : AwakeSays) : Rows.CensusGrowsSaid :=
  OpenClaim.holds_of_wide 8 Try.f8 rfl rfl rfl rfl rfl rfl rfl ⟨rfl, rfl, rfl, rfl, rfl⟩ rfl rfl rfl rfl rfl (by kernel_rfl) Try.func8 (by kernel_rfl)
    (of_decide_eq_true (by kernel_rfl)) (by unfold Func.isWrapper; first | (rw [if_pos (by decide +kernel)]; kernel_rfl) | (rw [if_neg (by decide +kernel)]; exact ⟨rfl, rfl⟩))
    (fun os started H enc _ => censusGrows_lifted hA os started H enc)

end Go.Proofs.Ytfbacopjookplaa
