/- The walks of the four bounds of a configuration, the program's and the document's. -/
import Derived.Test.YtfbacopjookplaaConfig
import Derived.Test.YtfbacopjookplaaCheck
import Derived.Test.YtfbacopjookplaaCls
import Derived.Deep.DeepCutAuto
namespace Go.Proofs.Ytfbacopjookplaa
open Go.RowKit

def listedF (R H Re : Int) : Int := (if Re < R * H + 1 then R * H + 1 else Re) + (R - 1) * (R * H)
def soloF (T R H Ca S n : Int) : Int := 56 * S + (T + 2) * (3 * R + R * H + 3 * n + 3) + 3 * Ca + 2 * R + H + 100
def vF (T Ca m : Int) : Int := 8 * T + 1 + T * Ca + m
def windowF (T R H Ca S n m : Int) : Int := T * ((vF T Ca m + 6) * (7 * (S + T) + 12) + (T + 2) * (3 * R + R * H + 3 * n) + 3 * vF T Ca m + 3 * Ca + 2 * R + H + 43) + 1

theorem mul_bd {a b A B : Int} (h0 : 0 ≤ a) (h1 : a ≤ A) (h2 : 0 ≤ b) (h3 : b ≤ B) : 0 ≤ a * b ∧ a * b ≤ A * B := ⟨Int.mul_nonneg h0 h2, Int.mul_le_mul h1 h3 h2 (by omega)⟩
theorem listed_bd {T R H Re Ca S B : Int} (h : Okay T R H Re Ca S B) : 0 ≤ listedF R H Re ∧ listedF R H Re ≤ 3000 := by
  unfold Okay at h
  have h1 := mul_bd (a := R) (b := H) (A := 16) (B := 8) (by omega) (by omega) (by omega) (by omega)
  have h2 := mul_bd (a := R - 1) (b := R * H) (A := 15) (B := 128) (by omega) (by omega) (by omega) (by omega)
  unfold listedF
  split <;> omega

abbrev cfgA (T R H Re Ca S B : Int) : Value := .agg #[.int .i64 T, .int .i64 R, .int .i64 H, .int .i64 Re, .int .i64 Ca, .int .i64 S, .int .i64 B]

set_option maxHeartbeats 2000000 in
theorem listed_no (T R H Re Ca S B : Int) (hok : ¬ Okay T R H Re Ca S B) (w : World) :
    Calls Try.prog 30 #[(.agg #[.int .i64 T, .int .i64 R, .int .i64 H, .int .i64 Re, .int .i64 Ca, .int .i64 S, .int .i64 B])] w fun e w' => e = .returned (.tuple #[.int .i64 0, .int .i64 1]) ∧ Ext w w' := by
  go_enter Try.func30, Try.ntmps30
  go_upto_region 1 with fail
  obtain ⟨w0, hw0, hC, hE, hlt0⟩ := enter1 w (.cells (cfgV T R H Re Ca S B) 23)
  rw [hw0]
  have HE := Lib.hid hE
  obtain ⟨d0, d1, d2, d3, d4, d5, d6⟩ := Lat.cfg hC
  obtain ⟨k0, hk0⟩ := lat_self w0
  rw [hk0]
  clear hw0 hC hE hk0 hlt0
  go_wp2_with fail
  refine (check_any T R H Re Ca S B _).mono ?_
  rintro e w1 ⟨rfl, e1⟩
  obtain ⟨k1, rfl⟩ := lat_next k0 e1
  rw [if_neg hok]
  clear e1
  go_wp2_with fail
  go_ret2
  exact ⟨rfl, Ext.next HE.out k1.ok⟩

set_option maxHeartbeats 4000000 in
theorem listed_any (T R H Re Ca S B : Int) (hok : Okay T R H Re Ca S B) (w : World) :
    Calls Try.prog 30 #[(.agg #[.int .i64 T, .int .i64 R, .int .i64 H, .int .i64 Re, .int .i64 Ca, .int .i64 S, .int .i64 B])] w fun e w' => e = .returned (.tuple #[.int .i64 (listedF R H Re), .int .i64 0]) ∧ Ext w w' := by
  have hok' := hok
  unfold Okay at hok'
  obtain ⟨a1, a2, a3, a4, a5, a6, a7, a8, a9, a10, a11, a12, a13, a14⟩ := hok'
  obtain ⟨b1, b2⟩ := mul_bd (a := R) (b := H) (A := 16) (B := 8) (by omega) (by omega) (by omega) (by omega)
  obtain ⟨b3, b4⟩ := mul_bd (a := R - 1) (b := R * H) (A := 15) (B := 128) (by omega) (by omega) (by omega) (by omega)
  by_cases hm : Re < R * H + 1
  case' pos => have HL : Hid (listedF R H Re = R * H + 1 + (R - 1) * (R * H)) := by show _ = _; rw [listedF, if_pos hm]
  case' neg => have HL : Hid (listedF R H Re = Re + (R - 1) * (R * H)) := by show _ = _; rw [listedF, if_neg hm]
  all_goals
    go_enter Try.func30, Try.ntmps30
    go_upto_region 1 with fail
    obtain ⟨w0, hw0, hC, hE, hlt0⟩ := enter1 w (.cells (cfgV T R H Re Ca S B) 23)
    rw [hw0]
    have HE := Lib.hid hE
    obtain ⟨d0, d1, d2, d3, d4, d5, d6⟩ := Lat.cfg hC
    obtain ⟨k0, hk0⟩ := lat_self w0
    rw [hk0]
    clear hw0 hC hE hk0 hlt0
    go_wp2_with fail
    refine (check_any T R H Re Ca S B _).mono ?_
    rintro e w1 ⟨rfl, e1⟩
    obtain ⟨k1, rfl⟩ := lat_next k0 e1
    rw [if_pos hok]
    clear e1 hok
    go_wp2_with fail
    go_ret2
    exact ⟨by rw [HL.out]; rfl, Ext.next HE.out k1.ok⟩

set_option maxHeartbeats 4000000 in
theorem refListed_any (T R H Re Ca S B : Int) (hok : Okay T R H Re Ca S B) (w : World) :
    Calls Try.prog 85 #[(.agg #[.int .i64 T, .int .i64 R, .int .i64 H, .int .i64 Re, .int .i64 Ca, .int .i64 S, .int .i64 B])] w fun e w' => e = .returned (.int .i64 (listedF R H Re)) ∧ Ext w w' := by
  have hok' := hok
  unfold Okay at hok'
  obtain ⟨a1, a2, a3, a4, a5, a6, a7, a8, a9, a10, a11, a12, a13, a14⟩ := hok'
  obtain ⟨b1, b2⟩ := mul_bd (a := R) (b := H) (A := 16) (B := 8) (by omega) (by omega) (by omega) (by omega)
  obtain ⟨b3, b4⟩ := mul_bd (a := R - 1) (b := R * H) (A := 15) (B := 128) (by omega) (by omega) (by omega) (by omega)
  by_cases hm : Re < R * H + 1
  case' pos => have HL : Hid (listedF R H Re = R * H + 1 + (R - 1) * (R * H)) := by show _ = _; rw [listedF, if_pos hm]
  case' neg => have HL : Hid (listedF R H Re = Re + (R - 1) * (R * H)) := by show _ = _; rw [listedF, if_neg hm]
  all_goals
    clear hok
    go_enter Try.func85, Try.ntmps85
    go_upto_region 1 with fail
    obtain ⟨w0, hw0, hC, hE, hlt0⟩ := enter1 w (.cells (cfgV T R H Re Ca S B) 23)
    rw [hw0]
    have HE := Lib.hid hE
    obtain ⟨d0, d1, d2, d3, d4, d5, d6⟩ := Lat.cfg hC
    obtain ⟨k0, hk0⟩ := lat_self w0
    rw [hk0]
    clear hw0 hC hE hk0 hlt0
    go_wp2_with fail
    go_ret
    exact ⟨ret_int HL.out.symm, Ext.next HE.out k0.ok⟩

set_option maxHeartbeats 4000000 in
theorem retired_no (T R H Re Ca S B : Int) (hok : ¬ Okay T R H Re Ca S B) (w : World) :
    Calls Try.prog 31 #[(.agg #[.int .i64 T, .int .i64 R, .int .i64 H, .int .i64 Re, .int .i64 Ca, .int .i64 S, .int .i64 B])] w fun e w' => e = .returned (.tuple #[.int .i64 0, .int .i64 1]) ∧ Ext w w' := by
  go_enter Try.func31, Try.ntmps31
  go_upto_region 1 with fail
  obtain ⟨w0, hw0, hC, hE, hlt0⟩ := enter1 w (.cells (cfgV T R H Re Ca S B) 23)
  rw [hw0]
  have HE := Lib.hid hE
  obtain ⟨d0, d1, d2, d3, d4, d5, d6⟩ := Lat.cfg hC
  obtain ⟨k0, hk0⟩ := lat_self w0
  rw [hk0]
  clear hw0 hC hE hk0 hlt0
  go_wp2_with fail
  refine (listed_no T R H Re Ca S B hok _).mono ?_
  rintro e w1 ⟨rfl, e1⟩
  obtain ⟨k1, rfl⟩ := lat_next k0 e1
  clear e1
  go_wp2_with fail
  go_ret2
  exact ⟨by simp, Ext.next HE.out k1.ok⟩

set_option maxHeartbeats 4000000 in
theorem solo_no (T R H Re Ca S B : Int) (hok : ¬ Okay T R H Re Ca S B) (w : World) :
    Calls Try.prog 32 #[(.agg #[.int .i64 T, .int .i64 R, .int .i64 H, .int .i64 Re, .int .i64 Ca, .int .i64 S, .int .i64 B])] w fun e w' => e = .returned (.tuple #[.int .i64 0, .int .i64 1]) ∧ Ext w w' := by
  go_enter Try.func32, Try.ntmps32
  go_upto_region 1 with fail
  obtain ⟨w0, hw0, hC, hE, hlt0⟩ := enter1 w (.cells (cfgV T R H Re Ca S B) 23)
  rw [hw0]
  have HE := Lib.hid hE
  obtain ⟨d0, d1, d2, d3, d4, d5, d6⟩ := Lat.cfg hC
  obtain ⟨k0, hk0⟩ := lat_self w0
  rw [hk0]
  clear hw0 hC hE hk0 hlt0
  go_wp2_with fail
  refine (listed_no T R H Re Ca S B hok _).mono ?_
  rintro e w1 ⟨rfl, e1⟩
  obtain ⟨k1, rfl⟩ := lat_next k0 e1
  clear e1
  go_wp2_with fail
  go_ret2
  exact ⟨by simp, Ext.next HE.out k1.ok⟩

set_option maxHeartbeats 4000000 in
theorem window_no (T R H Re Ca S B : Int) (hok : ¬ Okay T R H Re Ca S B) (w : World) :
    Calls Try.prog 33 #[(.agg #[.int .i64 T, .int .i64 R, .int .i64 H, .int .i64 Re, .int .i64 Ca, .int .i64 S, .int .i64 B])] w fun e w' => e = .returned (.tuple #[.int .i64 0, .int .i64 1]) ∧ Ext w w' := by
  go_enter Try.func33, Try.ntmps33
  go_upto_region 1 with fail
  obtain ⟨w0, hw0, hC, hE, hlt0⟩ := enter1 w (.cells (cfgV T R H Re Ca S B) 23)
  rw [hw0]
  have HE := Lib.hid hE
  obtain ⟨d0, d1, d2, d3, d4, d5, d6⟩ := Lat.cfg hC
  obtain ⟨k0, hk0⟩ := lat_self w0
  rw [hk0]
  clear hw0 hC hE hk0 hlt0
  go_wp2_with fail
  refine (listed_no T R H Re Ca S B hok _).mono ?_
  rintro e w1 ⟨rfl, e1⟩
  obtain ⟨k1, rfl⟩ := lat_next k0 e1
  clear e1
  go_wp2_with fail
  go_ret2
  exact ⟨by simp, Ext.next HE.out k1.ok⟩

set_option maxHeartbeats 4000000 in
theorem retired_any (T R H Re Ca S B : Int) (hok : Okay T R H Re Ca S B) (w : World) :
    Calls Try.prog 31 #[(.agg #[.int .i64 T, .int .i64 R, .int .i64 H, .int .i64 Re, .int .i64 Ca, .int .i64 S, .int .i64 B])] w fun e w' => e = .returned (.tuple #[.int .i64 (listedF R H Re * R), .int .i64 0]) ∧ Ext w w' := by
  have hok' := hok
  unfold Okay at hok'
  obtain ⟨a1, a2, a3, a4, a5, a6, a7, a8, a9, a10, a11, a12, a13, a14⟩ := hok'
  obtain ⟨b1, b2⟩ := mul_bd (a := R) (b := H) (A := 16) (B := 8) (by omega) (by omega) (by omega) (by omega)
  have hb := listed_bd hok
  have hL := fun w => listed_any T R H Re Ca S B hok w
  clear hok
  generalize listedF R H Re = n at *
  obtain ⟨hb1, hb2⟩ := hb
  go_enter Try.func31, Try.ntmps31
  go_upto_region 1 with fail
  obtain ⟨w0, hw0, hC, hE, hlt0⟩ := enter1 w (.cells (cfgV T R H Re Ca S B) 23)
  rw [hw0]
  have HE := Lib.hid hE
  obtain ⟨d0, d1, d2, d3, d4, d5, d6⟩ := Lat.cfg hC
  obtain ⟨k0, hk0⟩ := lat_self w0
  rw [hk0]
  clear hw0 hC hE hk0 hlt0
  go_wp2_with fail
  refine (hL _).mono ?_
  rintro e w1 ⟨rfl, e1⟩
  obtain ⟨k1, rfl⟩ := lat_next k0 e1
  clear e1
  obtain ⟨b3, b4⟩ := mul_bd (a := n) (b := R) (A := 3000) (B := 16) (by omega) (by omega) (by omega) (by omega)
  go_wp2_with fail
  go_ret2
  refine ⟨?_, Ext.next HE.out k1.ok⟩
  try rfl
  try simp [soloF]

set_option maxHeartbeats 4000000 in
theorem solo_any (T R H Re Ca S B : Int) (hok : Okay T R H Re Ca S B) (w : World) :
    Calls Try.prog 32 #[(.agg #[.int .i64 T, .int .i64 R, .int .i64 H, .int .i64 Re, .int .i64 Ca, .int .i64 S, .int .i64 B])] w fun e w' => e = .returned (.tuple #[.int .i64 (soloF T R H Ca S (listedF R H Re)), .int .i64 0]) ∧ Ext w w' := by
  have hok' := hok
  unfold Okay at hok'
  obtain ⟨a1, a2, a3, a4, a5, a6, a7, a8, a9, a10, a11, a12, a13, a14⟩ := hok'
  obtain ⟨b1, b2⟩ := mul_bd (a := R) (b := H) (A := 16) (B := 8) (by omega) (by omega) (by omega) (by omega)
  have hb := listed_bd hok
  have hL := fun w => listed_any T R H Re Ca S B hok w
  clear hok
  generalize listedF R H Re = n at *
  obtain ⟨hb1, hb2⟩ := hb
  go_enter Try.func32, Try.ntmps32
  go_upto_region 1 with fail
  obtain ⟨w0, hw0, hC, hE, hlt0⟩ := enter1 w (.cells (cfgV T R H Re Ca S B) 23)
  rw [hw0]
  have HE := Lib.hid hE
  obtain ⟨d0, d1, d2, d3, d4, d5, d6⟩ := Lat.cfg hC
  obtain ⟨k0, hk0⟩ := lat_self w0
  rw [hk0]
  clear hw0 hC hE hk0 hlt0
  go_wp2_with fail
  refine (hL _).mono ?_
  rintro e w1 ⟨rfl, e1⟩
  obtain ⟨k1, rfl⟩ := lat_next k0 e1
  clear e1
  obtain ⟨b3, b4⟩ := mul_bd (a := T + 2) (b := 3 * R + R * H + 3 * n + 3) (A := 18) (B := 9300) (by omega) (by omega) (by omega) (by omega)
  go_wp2_with fail
  go_ret2
  refine ⟨?_, Ext.next HE.out k1.ok⟩
  try rfl
  try simp [soloF]

set_option maxHeartbeats 4000000 in
theorem window_any (T R H Re Ca S B : Int) (hok : Okay T R H Re Ca S B) (w : World) :
    Calls Try.prog 33 #[(.agg #[.int .i64 T, .int .i64 R, .int .i64 H, .int .i64 Re, .int .i64 Ca, .int .i64 S, .int .i64 B])] w fun e w' => e = .returned (.tuple #[.int .i64 (windowF T R H Ca S (listedF R H Re) (listedF R H Re * R)), .int .i64 0]) ∧ Ext w w' := by
  have hok' := hok
  unfold Okay at hok'
  obtain ⟨a1, a2, a3, a4, a5, a6, a7, a8, a9, a10, a11, a12, a13, a14⟩ := hok'
  obtain ⟨b1, b2⟩ := mul_bd (a := R) (b := H) (A := 16) (B := 8) (by omega) (by omega) (by omega) (by omega)
  have hb := listed_bd hok
  have hL := fun w => listed_any T R H Re Ca S B hok w
  clear hok
  generalize listedF R H Re = n at *
  obtain ⟨hb1, hb2⟩ := hb
  go_enter Try.func33, Try.ntmps33
  go_upto_region 1 with fail
  obtain ⟨w0, hw0, hC, hE, hlt0⟩ := enter1 w (.cells (cfgV T R H Re Ca S B) 23)
  rw [hw0]
  have HE := Lib.hid hE
  obtain ⟨d0, d1, d2, d3, d4, d5, d6⟩ := Lat.cfg hC
  obtain ⟨k0, hk0⟩ := lat_self w0
  rw [hk0]
  clear hw0 hC hE hk0 hlt0
  go_wp2_with fail
  refine (hL _).mono ?_
  rintro e w1 ⟨rfl, e1⟩
  obtain ⟨k1, rfl⟩ := lat_next k0 e1
  clear e1
  obtain ⟨b7, b8⟩ := mul_bd (a := n) (b := R) (A := 3000) (B := 16) (by omega) (by omega) (by omega) (by omega)
  obtain ⟨b5, b6⟩ := mul_bd (a := T) (b := Ca) (A := 16) (B := 64) (by omega) (by omega) (by omega) (by omega)
  obtain ⟨b9, b10⟩ := mul_bd (a := T + 2) (b := 3 * R + R * H + 3 * n) (A := 18) (B := 9300) (by omega) (by omega) (by omega) (by omega)
  obtain ⟨v, hv⟩ : ∃ v, 8 * T + 1 + T * Ca + n * R = v := ⟨_, rfl⟩
  have Hv := Lib.hid hv
  have hv1 : 0 ≤ v ∧ v ≤ 60000 := by omega
  obtain ⟨hv1, hv2⟩ := hv1
  obtain ⟨b11, b12⟩ := mul_bd (a := v + 6) (b := 7 * (S + T) + 12) (A := 60006) (B := 7300) (by omega) (by omega) (by omega) (by omega)
  obtain ⟨b13, b14⟩ := mul_bd (a := T) (b := (v + 6) * (7 * (S + T) + 12) + (T + 2) * (3 * R + R * H + 3 * n) + 3 * v + 3 * Ca + 2 * R + H + 43) (A := 16) (B := 500000000) (by omega) (by omega) (by omega) (by omega)
  go_upto_region 5 with fail
  clear hv
  go_wp2_with fail
  go_ret2
  exact ⟨by rw [windowF, vF, Hv.out]; try rfl, Ext.next HE.out k1.ok⟩

set_option maxHeartbeats 4000000 in
theorem refRetired_any (T R H Re Ca S B : Int) (hok : Okay T R H Re Ca S B) (w : World) :
    Calls Try.prog 86 #[(.agg #[.int .i64 T, .int .i64 R, .int .i64 H, .int .i64 Re, .int .i64 Ca, .int .i64 S, .int .i64 B])] w fun e w' => e = .returned (.int .i64 (R * listedF R H Re)) ∧ Ext w w' := by
  have hok' := hok
  unfold Okay at hok'
  obtain ⟨a1, a2, a3, a4, a5, a6, a7, a8, a9, a10, a11, a12, a13, a14⟩ := hok'
  obtain ⟨b1, b2⟩ := mul_bd (a := R) (b := H) (A := 16) (B := 8) (by omega) (by omega) (by omega) (by omega)
  have hb := listed_bd hok
  have hL := fun w => refListed_any T R H Re Ca S B hok w
  clear hok
  generalize listedF R H Re = n at *
  obtain ⟨hb1, hb2⟩ := hb
  obtain ⟨b3, b4⟩ := mul_bd (a := R) (b := n) (A := 16) (B := 3000) (by omega) (by omega) (by omega) (by omega)
  go_enter Try.func86, Try.ntmps86
  go_upto_region 1 with fail
  obtain ⟨w0, hw0, hC, hE, hlt0⟩ := enter1 w (.cells (cfgV T R H Re Ca S B) 23)
  rw [hw0]
  have HE := Lib.hid hE
  obtain ⟨d0, d1, d2, d3, d4, d5, d6⟩ := Lat.cfg hC
  obtain ⟨k0, hk0⟩ := lat_self w0
  rw [hk0]
  clear hw0 hC hE hk0 hlt0
  refine wp_region_cls (Ext w0) (Ext.drew1 k0.ok) (by kernel_rfl) (by kernel_rfl) ?_
  repeat (go_big_quiet_step (exact calls_cls (keeps_ext _) (hL _)))
  refine wpQuiet_nil ?_
  rintro _ ⟨k1, rfl⟩
  go_wp2_with fail
  go_ret
  exact ⟨rfl, Ext.next HE.out k1.ok⟩

set_option maxHeartbeats 4000000 in
theorem refSolo_any (T R H Re Ca S B : Int) (hok : Okay T R H Re Ca S B) (w : World) :
    Calls Try.prog 87 #[(.agg #[.int .i64 T, .int .i64 R, .int .i64 H, .int .i64 Re, .int .i64 Ca, .int .i64 S, .int .i64 B])] w fun e w' => e = .returned (.int .i64 (soloF T R H Ca S (listedF R H Re))) ∧ Ext w w' := by
  have hok' := hok
  unfold Okay at hok'
  obtain ⟨a1, a2, a3, a4, a5, a6, a7, a8, a9, a10, a11, a12, a13, a14⟩ := hok'
  obtain ⟨b1, b2⟩ := mul_bd (a := R) (b := H) (A := 16) (B := 8) (by omega) (by omega) (by omega) (by omega)
  have hb := listed_bd hok
  have hL := fun w => refListed_any T R H Re Ca S B hok w
  clear hok
  generalize listedF R H Re = n at *
  obtain ⟨hb1, hb2⟩ := hb
  obtain ⟨b3, b4⟩ := mul_bd (a := T + 2) (b := 3 * R + R * H + 3 * n + 3) (A := 18) (B := 9300) (by omega) (by omega) (by omega) (by omega)
  go_enter Try.func87, Try.ntmps87
  go_upto_region 1 with fail
  obtain ⟨w0, hw0, hC, hE, hlt0⟩ := enter1 w (.cells (cfgV T R H Re Ca S B) 23)
  rw [hw0]
  have HE := Lib.hid hE
  obtain ⟨d0, d1, d2, d3, d4, d5, d6⟩ := Lat.cfg hC
  obtain ⟨k0, hk0⟩ := lat_self w0
  rw [hk0]
  clear hw0 hC hE hk0 hlt0
  go_upto_region 2 with fail
  refine wp_region_cls (Ext w0) (Ext.drew1 k0.ok) (by kernel_rfl) (by kernel_rfl) ?_
  repeat (go_big_quiet_step (exact calls_cls (keeps_ext _) (hL _)))
  refine wpQuiet_nil ?_
  rintro _ ⟨k1, rfl⟩
  go_wp2_with fail
  go_ret
  exact ⟨rfl, Ext.next HE.out k1.ok⟩

set_option maxHeartbeats 4000000 in
theorem refWindow_any (T R H Re Ca S B : Int) (hok : Okay T R H Re Ca S B) (w : World) :
    Calls Try.prog 88 #[(.agg #[.int .i64 T, .int .i64 R, .int .i64 H, .int .i64 Re, .int .i64 Ca, .int .i64 S, .int .i64 B])] w fun e w' => e = .returned (.int .i64 (windowF T R H Ca S (listedF R H Re) (R * listedF R H Re))) ∧ Ext w w' := by
  have hok' := hok
  unfold Okay at hok'
  obtain ⟨a1, a2, a3, a4, a5, a6, a7, a8, a9, a10, a11, a12, a13, a14⟩ := hok'
  obtain ⟨b1, b2⟩ := mul_bd (a := R) (b := H) (A := 16) (B := 8) (by omega) (by omega) (by omega) (by omega)
  have hb := listed_bd hok
  have hL := fun w => refListed_any T R H Re Ca S B hok w
  have hRt := fun w => refRetired_any T R H Re Ca S B hok w
  clear hok
  generalize listedF R H Re = n at *
  obtain ⟨hb1, hb2⟩ := hb
  obtain ⟨b7, b8⟩ := mul_bd (a := R) (b := n) (A := 16) (B := 3000) (by omega) (by omega) (by omega) (by omega)
  obtain ⟨b5, b6⟩ := mul_bd (a := T) (b := Ca) (A := 16) (B := 64) (by omega) (by omega) (by omega) (by omega)
  obtain ⟨b9, b10⟩ := mul_bd (a := T + 2) (b := 3 * R + R * H + 3 * n) (A := 18) (B := 9300) (by omega) (by omega) (by omega) (by omega)
  obtain ⟨v, hv⟩ : ∃ v, 8 * T + 1 + T * Ca + R * n = v := ⟨_, rfl⟩
  have Hv := Lib.hid hv
  have hv1 : 0 ≤ v ∧ v ≤ 60000 := by omega
  obtain ⟨hv1, hv2⟩ := hv1
  obtain ⟨b11, b12⟩ := mul_bd (a := v + 6) (b := 7 * (S + T) + 12) (A := 60006) (B := 7300) (by omega) (by omega) (by omega) (by omega)
  obtain ⟨b13, b14⟩ := mul_bd (a := T) (b := (v + 6) * (7 * (S + T) + 12) + (T + 2) * (3 * R + R * H + 3 * n) + 3 * v + 3 * Ca + 2 * R + H + 43) (A := 16) (B := 500000000) (by omega) (by omega) (by omega) (by omega)
  go_enter Try.func88, Try.ntmps88
  go_upto_region 1 with fail
  obtain ⟨w0, hw0, hC, hE, hlt0⟩ := enter1 w (.cells (cfgV T R H Re Ca S B) 23)
  rw [hw0]
  have HE := Lib.hid hE
  obtain ⟨d0, d1, d2, d3, d4, d5, d6⟩ := Lat.cfg hC
  obtain ⟨k0, hk0⟩ := lat_self w0
  rw [hk0]
  clear hw0 hC hE hk0 hlt0
  go_upto_region 2 with fail
  refine wp_region_cls (Ext w0) (Ext.drew1 k0.ok) (by kernel_rfl) (by kernel_rfl) ?_
  repeat (go_big_quiet_step (exact calls_cls (keeps_ext _) (hRt _)))
  refine wpQuiet_nil ?_
  rintro _ ⟨k1, rfl⟩
  clear hv
  go_upto_region 3 with fail
  refine wp_region_cls (Ext w0) (Ext.drew1 k1.ok) (by kernel_rfl) (by kernel_rfl) ?_
  repeat (go_big_quiet_step (exact calls_cls (keeps_ext _) (hL _)))
  refine wpQuiet_nil ?_
  rintro _ ⟨k2, rfl⟩
  go_wp2_with fail
  go_ret
  exact ⟨by rw [windowF, vF, Hv.out]; try rfl, Ext.next HE.out k2.ok⟩

set_option maxHeartbeats 4000000 in
theorem ref13Listed_any (T R H Re Ca S B : Int) (hok : Okay T R H Re Ca S B) (w : World) :
    Calls Try.prog 35 #[(.agg #[.int .i64 T, .int .i64 R, .int .i64 H, .int .i64 Re, .int .i64 Ca, .int .i64 S, .int .i64 B])] w fun e w' => e = .returned (.int .i64 (listedF R H Re)) ∧ Ext w w' := by
  go_enter Try.func35, Try.ntmps35
  go_upto_region 1 with fail
  obtain ⟨w0, hw0, hC, hE, hlt0⟩ := enter1 w (.cells (cfgV T R H Re Ca S B) 23)
  rw [hw0]
  have HE := Lib.hid hE
  obtain ⟨d0, d1, d2, d3, d4, d5, d6⟩ := Lat.cfg hC
  obtain ⟨k0, hk0⟩ := lat_self w0
  rw [hk0]
  clear hw0 hC hE hk0 hlt0
  go_wp2_with fail
  refine (refListed_any T R H Re Ca S B hok _).mono ?_
  rintro e w1 ⟨rfl, e1⟩
  obtain ⟨k1, rfl⟩ := lat_next k0 e1
  clear e1 hok
  go_wp2_with fail
  go_ret
  exact ⟨rfl, Ext.next HE.out k1.ok⟩

set_option maxHeartbeats 4000000 in
theorem ref13Retired_any (T R H Re Ca S B : Int) (hok : Okay T R H Re Ca S B) (w : World) :
    Calls Try.prog 36 #[(.agg #[.int .i64 T, .int .i64 R, .int .i64 H, .int .i64 Re, .int .i64 Ca, .int .i64 S, .int .i64 B])] w fun e w' => e = .returned (.int .i64 (R * listedF R H Re)) ∧ Ext w w' := by
  go_enter Try.func36, Try.ntmps36
  go_upto_region 1 with fail
  obtain ⟨w0, hw0, hC, hE, hlt0⟩ := enter1 w (.cells (cfgV T R H Re Ca S B) 23)
  rw [hw0]
  have HE := Lib.hid hE
  obtain ⟨d0, d1, d2, d3, d4, d5, d6⟩ := Lat.cfg hC
  obtain ⟨k0, hk0⟩ := lat_self w0
  rw [hk0]
  clear hw0 hC hE hk0 hlt0
  go_wp2_with fail
  refine (refRetired_any T R H Re Ca S B hok _).mono ?_
  rintro e w1 ⟨rfl, e1⟩
  obtain ⟨k1, rfl⟩ := lat_next k0 e1
  clear e1 hok
  go_wp2_with fail
  go_ret
  exact ⟨rfl, Ext.next HE.out k1.ok⟩

set_option maxHeartbeats 4000000 in
theorem ref13Solo_any (T R H Re Ca S B : Int) (hok : Okay T R H Re Ca S B) (w : World) :
    Calls Try.prog 37 #[(.agg #[.int .i64 T, .int .i64 R, .int .i64 H, .int .i64 Re, .int .i64 Ca, .int .i64 S, .int .i64 B])] w fun e w' => e = .returned (.int .i64 (soloF T R H Ca S (listedF R H Re))) ∧ Ext w w' := by
  go_enter Try.func37, Try.ntmps37
  go_upto_region 1 with fail
  obtain ⟨w0, hw0, hC, hE, hlt0⟩ := enter1 w (.cells (cfgV T R H Re Ca S B) 23)
  rw [hw0]
  have HE := Lib.hid hE
  obtain ⟨d0, d1, d2, d3, d4, d5, d6⟩ := Lat.cfg hC
  obtain ⟨k0, hk0⟩ := lat_self w0
  rw [hk0]
  clear hw0 hC hE hk0 hlt0
  go_wp2_with fail
  refine (refSolo_any T R H Re Ca S B hok _).mono ?_
  rintro e w1 ⟨rfl, e1⟩
  obtain ⟨k1, rfl⟩ := lat_next k0 e1
  clear e1 hok
  go_wp2_with fail
  go_ret
  exact ⟨rfl, Ext.next HE.out k1.ok⟩

set_option maxHeartbeats 4000000 in
theorem ref13Window_any (T R H Re Ca S B : Int) (hok : Okay T R H Re Ca S B) (w : World) :
    Calls Try.prog 38 #[(.agg #[.int .i64 T, .int .i64 R, .int .i64 H, .int .i64 Re, .int .i64 Ca, .int .i64 S, .int .i64 B])] w fun e w' => e = .returned (.int .i64 (windowF T R H Ca S (listedF R H Re) (R * listedF R H Re))) ∧ Ext w w' := by
  go_enter Try.func38, Try.ntmps38
  go_upto_region 1 with fail
  obtain ⟨w0, hw0, hC, hE, hlt0⟩ := enter1 w (.cells (cfgV T R H Re Ca S B) 23)
  rw [hw0]
  have HE := Lib.hid hE
  obtain ⟨d0, d1, d2, d3, d4, d5, d6⟩ := Lat.cfg hC
  obtain ⟨k0, hk0⟩ := lat_self w0
  rw [hk0]
  clear hw0 hC hE hk0 hlt0
  go_wp2_with fail
  refine (refWindow_any T R H Re Ca S B hok _).mono ?_
  rintro e w1 ⟨rfl, e1⟩
  obtain ⟨k1, rfl⟩ := lat_next k0 e1
  clear e1 hok
  go_wp2_with fail
  go_ret
  exact ⟨rfl, Ext.next HE.out k1.ok⟩

end Go.Proofs.Ytfbacopjookplaa
