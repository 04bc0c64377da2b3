/- The walk of the fixed run that every statement of chapter 13 asks ahead. -/
import Derived.Test.YtfbacopjookplaaConfig
import Derived.Test.YtfbacopjookplaaCheck
import Derived.Test.YtfbacopjookplaaCls
import Derived.Deep.DeepCutAuto
import Derived.Test.YtfbacopjookplaaRefMay
import Derived.Test.YtfbacopjookplaaLook1
namespace Go.Proofs.Ytfbacopjookplaa
open Go.RowKit

def listedF (R H Re : Int) : Int := (if Re < R * H + 1 then R * H + 1 else Re) + (R - 1) * (R * H)
def soloF (T R H Ca S n : Int) : Int := 56 * S + (T + 2) * (3 * R + R * H + 3 * n + 3) + 3 * Ca + 2 * R + H + 100
def vF (T Ca m : Int) : Int := 8 * T + 1 + T * Ca + m
def windowF (T R H Ca S n m : Int) : Int := T * ((vF T Ca m + 6) * (7 * (S + T) + 12) + (T + 2) * (3 * R + R * H + 3 * n) + 3 * vF T Ca m + 3 * Ca + 2 * R + H + 43) + 1

theorem mul_bd {a b A B : Int} (h0 : 0 ≤ a) (h1 : a ≤ A) (h2 : 0 ≤ b) (h3 : b ≤ B) : 0 ≤ a * b ∧ a * b ≤ A * B := ⟨Int.mul_nonneg h0 h2, Int.mul_le_mul h1 h3 h2 (by omega)⟩
theorem listed_bd {T R H Re Ca S B : Int} (h : Okay T R H Re Ca S B) : 0 ≤ listedF R H Re ∧ listedF R H Re ≤ 3000 := by
  unfold Okay at h
  have h1 := mul_bd (a := R) (b := H) (A := 16) (B := 8) (by omega) (by omega) (by omega) (by omega)
  have h2 := mul_bd (a := R - 1) (b := R * H) (A := 15) (B := 128) (by omega) (by omega) (by omega) (by omega)
  unfold listedF
  split <;> omega

abbrev cfgA (T R H Re Ca S B : Int) : Value := .agg #[.int .i64 T, .int .i64 R, .int .i64 H, .int .i64 Re, .int .i64 Ca, .int .i64 S, .int .i64 B]

set_option maxHeartbeats 2000000 in
theorem listed_no (T R H Re Ca S B : Int) (hok : ¬ Okay T R H Re Ca S B) (w : World) :
    Calls Try.prog 30 #[(.agg #[.int .i64 T, .int .i64 R, .int .i64 H, .int .i64 Re, .int .i64 Ca, .int .i64 S, .int .i64 B])] w fun e w' => e = .returned (.tuple #[.int .i64 0, .int .i64 1]) ∧ Ext w w' := by
  go_enter Try.func30, Try.ntmps30
  go_upto_region 1 with fail
  obtain ⟨w0, hw0, hC, hE, hlt0⟩ := enter1 w (.cells (cfgV T R H Re Ca S B) 23)
  rw [hw0]
  have HE := Lib.hid hE
  obtain ⟨d0, d1, d2, d3, d4, d5, d6⟩ := Lat.cfg hC
  obtain ⟨k0, hk0⟩ := lat_self w0
  rw [hk0]
  clear hw0 hC hE hk0 hlt0
  go_wp2_with fail
  refine (check_any T R H Re Ca S B _).mono ?_
  rintro e w1 ⟨rfl, e1⟩
  obtain ⟨k1, rfl⟩ := lat_next k0 e1
  rw [if_neg hok]
  clear e1
  go_wp2_with fail
  go_ret2
  exact ⟨rfl, Ext.next HE.out k1.ok⟩

set_option maxHeartbeats 4000000 in
theorem listed_any (T R H Re Ca S B : Int) (hok : Okay T R H Re Ca S B) (w : World) :
    Calls Try.prog 30 #[(.agg #[.int .i64 T, .int .i64 R, .int .i64 H, .int .i64 Re, .int .i64 Ca, .int .i64 S, .int .i64 B])] w fun e w' => e = .returned (.tuple #[.int .i64 (listedF R H Re), .int .i64 0]) ∧ Ext w w' := by
  have hok' := hok
  unfold Okay at hok'
  obtain ⟨a1, a2, a3, a4, a5, a6, a7, a8, a9, a10, a11, a12, a13, a14⟩ := hok'
  obtain ⟨b1, b2⟩ := mul_bd (a := R) (b := H) (A := 16) (B := 8) (by omega) (by omega) (by omega) (by omega)
  obtain ⟨b3, b4⟩ := mul_bd (a := R - 1) (b := R * H) (A := 15) (B := 128) (by omega) (by omega) (by omega) (by omega)
  by_cases hm : Re < R * H + 1
  case' pos => have HL : Hid (listedF R H Re = R * H + 1 + (R - 1) * (R * H)) := by show _ = _; rw [listedF, if_pos hm]
  case' neg => have HL : Hid (listedF R H Re = Re + (R - 1) * (R * H)) := by show _ = _; rw [listedF, if_neg hm]
  all_goals
    go_enter Try.func30, Try.ntmps30
    go_upto_region 1 with fail
    obtain ⟨w0, hw0, hC, hE, hlt0⟩ := enter1 w (.cells (cfgV T R H Re Ca S B) 23)
    rw [hw0]
    have HE := Lib.hid hE
    obtain ⟨d0, d1, d2, d3, d4, d5, d6⟩ := Lat.cfg hC
    obtain ⟨k0, hk0⟩ := lat_self w0
    rw [hk0]
    clear hw0 hC hE hk0 hlt0
    go_wp2_with fail
    refine (check_any T R H Re Ca S B _).mono ?_
    rintro e w1 ⟨rfl, e1⟩
    obtain ⟨k1, rfl⟩ := lat_next k0 e1
    rw [if_pos hok]
    clear e1 hok
    go_wp2_with fail
    go_ret2
    exact ⟨by rw [HL.out]; rfl, Ext.next HE.out k1.ok⟩

set_option maxHeartbeats 4000000 in
theorem refListed_any (T R H Re Ca S B : Int) (hok : Okay T R H Re Ca S B) (w : World) :
    Calls Try.prog 85 #[(.agg #[.int .i64 T, .int .i64 R, .int .i64 H, .int .i64 Re, .int .i64 Ca, .int .i64 S, .int .i64 B])] w fun e w' => e = .returned (.int .i64 (listedF R H Re)) ∧ Ext w w' := by
  have hok' := hok
  unfold Okay at hok'
  obtain ⟨a1, a2, a3, a4, a5, a6, a7, a8, a9, a10, a11, a12, a13, a14⟩ := hok'
  obtain ⟨b1, b2⟩ := mul_bd (a := R) (b := H) (A := 16) (B := 8) (by omega) (by omega) (by omega) (by omega)
  obtain ⟨b3, b4⟩ := mul_bd (a := R - 1) (b := R * H) (A := 15) (B := 128) (by omega) (by omega) (by omega) (by omega)
  by_cases hm : Re < R * H + 1
  case' pos => have HL : Hid (listedF R H Re = R * H + 1 + (R - 1) * (R * H)) := by show _ = _; rw [listedF, if_pos hm]
  case' neg => have HL : Hid (listedF R H Re = Re + (R - 1) * (R * H)) := by show _ = _; rw [listedF, if_neg hm]
  all_goals
    clear hok
    go_enter Try.func85, Try.ntmps85
    go_upto_region 1 with fail
    obtain ⟨w0, hw0, hC, hE, hlt0⟩ := enter1 w (.cells (cfgV T R H Re Ca S B) 23)
    rw [hw0]
    have HE := Lib.hid hE
    obtain ⟨d0, d1, d2, d3, d4, d5, d6⟩ := Lat.cfg hC
    obtain ⟨k0, hk0⟩ := lat_self w0
    rw [hk0]
    clear hw0 hC hE hk0 hlt0
    go_wp2_with fail
    go_ret
    exact ⟨ret_int HL.out.symm, Ext.next HE.out k0.ok⟩

set_option maxHeartbeats 4000000 in
theorem retired_no (T R H Re Ca S B : Int) (hok : ¬ Okay T R H Re Ca S B) (w : World) :
    Calls Try.prog 31 #[(.agg #[.int .i64 T, .int .i64 R, .int .i64 H, .int .i64 Re, .int .i64 Ca, .int .i64 S, .int .i64 B])] w fun e w' => e = .returned (.tuple #[.int .i64 0, .int .i64 1]) ∧ Ext w w' := by
  go_enter Try.func31, Try.ntmps31
  go_upto_region 1 with fail
  obtain ⟨w0, hw0, hC, hE, hlt0⟩ := enter1 w (.cells (cfgV T R H Re Ca S B) 23)
  rw [hw0]
  have HE := Lib.hid hE
  obtain ⟨d0, d1, d2, d3, d4, d5, d6⟩ := Lat.cfg hC
  obtain ⟨k0, hk0⟩ := lat_self w0
  rw [hk0]
  clear hw0 hC hE hk0 hlt0
  go_wp2_with fail
  refine (listed_no T R H Re Ca S B hok _).mono ?_
  rintro e w1 ⟨rfl, e1⟩
  obtain ⟨k1, rfl⟩ := lat_next k0 e1
  clear e1
  go_wp2_with fail
  go_ret2
  exact ⟨by simp, Ext.next HE.out k1.ok⟩

set_option maxHeartbeats 4000000 in
theorem solo_no (T R H Re Ca S B : Int) (hok : ¬ Okay T R H Re Ca S B) (w : World) :
    Calls Try.prog 32 #[(.agg #[.int .i64 T, .int .i64 R, .int .i64 H, .int .i64 Re, .int .i64 Ca, .int .i64 S, .int .i64 B])] w fun e w' => e = .returned (.tuple #[.int .i64 0, .int .i64 1]) ∧ Ext w w' := by
  go_enter Try.func32, Try.ntmps32
  go_upto_region 1 with fail
  obtain ⟨w0, hw0, hC, hE, hlt0⟩ := enter1 w (.cells (cfgV T R H Re Ca S B) 23)
  rw [hw0]
  have HE := Lib.hid hE
  obtain ⟨d0, d1, d2, d3, d4, d5, d6⟩ := Lat.cfg hC
  obtain ⟨k0, hk0⟩ := lat_self w0
  rw [hk0]
  clear hw0 hC hE hk0 hlt0
  go_wp2_with fail
  refine (listed_no T R H Re Ca S B hok _).mono ?_
  rintro e w1 ⟨rfl, e1⟩
  obtain ⟨k1, rfl⟩ := lat_next k0 e1
  clear e1
  go_wp2_with fail
  go_ret2
  exact ⟨by simp, Ext.next HE.out k1.ok⟩

set_option maxHeartbeats 4000000 in
theorem window_no (T R H Re Ca S B : Int) (hok : ¬ Okay T R H Re Ca S B) (w : World) :
    Calls Try.prog 33 #[(.agg #[.int .i64 T, .int .i64 R, .int .i64 H, .int .i64 Re, .int .i64 Ca, .int .i64 S, .int .i64 B])] w fun e w' => e = .returned (.tuple #[.int .i64 0, .int .i64 1]) ∧ Ext w w' := by
  go_enter Try.func33, Try.ntmps33
  go_upto_region 1 with fail
  obtain ⟨w0, hw0, hC, hE, hlt0⟩ := enter1 w (.cells (cfgV T R H Re Ca S B) 23)
  rw [hw0]
  have HE := Lib.hid hE
  obtain ⟨d0, d1, d2, d3, d4, d5, d6⟩ := Lat.cfg hC
  obtain ⟨k0, hk0⟩ := lat_self w0
  rw [hk0]
  clear hw0 hC hE hk0 hlt0
  go_wp2_with fail
  refine (listed_no T R H Re Ca S B hok _).mono ?_
  rintro e w1 ⟨rfl, e1⟩
  obtain ⟨k1, rfl⟩ := lat_next k0 e1
  clear e1
  go_wp2_with fail
  go_ret2
  exact ⟨by simp, Ext.next HE.out k1.ok⟩

set_option maxHeartbeats 4000000 in
theorem retired_any (T R H Re Ca S B : Int) (hok : Okay T R H Re Ca S B) (w : World) :
    Calls Try.prog 31 #[(.agg #[.int .i64 T, .int .i64 R, .int .i64 H, .int .i64 Re, .int .i64 Ca, .int .i64 S, .int .i64 B])] w fun e w' => e = .returned (.tuple #[.int .i64 (listedF R H Re * R), .int .i64 0]) ∧ Ext w w' := by
  have hok' := hok
  unfold Okay at hok'
  obtain ⟨a1, a2, a3, a4, a5, a6, a7, a8, a9, a10, a11, a12, a13, a14⟩ := hok'
  obtain ⟨b1, b2⟩ := mul_bd (a := R) (b := H) (A := 16) (B := 8) (by omega) (by omega) (by omega) (by omega)
  have hb := listed_bd hok
  have hL := fun w => listed_any T R H Re Ca S B hok w
  clear hok
  generalize listedF R H Re = n at *
  obtain ⟨hb1, hb2⟩ := hb
  go_enter Try.func31, Try.ntmps31
  go_upto_region 1 with fail
  obtain ⟨w0, hw0, hC, hE, hlt0⟩ := enter1 w (.cells (cfgV T R H Re Ca S B) 23)
  rw [hw0]
  have HE := Lib.hid hE
  obtain ⟨d0, d1, d2, d3, d4, d5, d6⟩ := Lat.cfg hC
  obtain ⟨k0, hk0⟩ := lat_self w0
  rw [hk0]
  clear hw0 hC hE hk0 hlt0
  go_wp2_with fail
  refine (hL _).mono ?_
  rintro e w1 ⟨rfl, e1⟩
  obtain ⟨k1, rfl⟩ := lat_next k0 e1
  clear e1
  obtain ⟨b3, b4⟩ := mul_bd (a := n) (b := R) (A := 3000) (B := 16) (by omega) (by omega) (by omega) (by omega)
  go_wp2_with fail
  go_ret2
  refine ⟨?_, Ext.next HE.out k1.ok⟩
  try rfl
  try simp [soloF]

set_option maxHeartbeats 4000000 in
theorem solo_any (T R H Re Ca S B : Int) (hok : Okay T R H Re Ca S B) (w : World) :
    Calls Try.prog 32 #[(.agg #[.int .i64 T, .int .i64 R, .int .i64 H, .int .i64 Re, .int .i64 Ca, .int .i64 S, .int .i64 B])] w fun e w' => e = .returned (.tuple #[.int .i64 (soloF T R H Ca S (listedF R H Re)), .int .i64 0]) ∧ Ext w w' := by
  have hok' := hok
  unfold Okay at hok'
  obtain ⟨a1, a2, a3, a4, a5, a6, a7, a8, a9, a10, a11, a12, a13, a14⟩ := hok'
  obtain ⟨b1, b2⟩ := mul_bd (a := R) (b := H) (A := 16) (B := 8) (by omega) (by omega) (by omega) (by omega)
  have hb := listed_bd hok
  have hL := fun w => listed_any T R H Re Ca S B hok w
  clear hok
  generalize listedF R H Re = n at *
  obtain ⟨hb1, hb2⟩ := hb
  go_enter Try.func32, Try.ntmps32
  go_upto_region 1 with fail
  obtain ⟨w0, hw0, hC, hE, hlt0⟩ := enter1 w (.cells (cfgV T R H Re Ca S B) 23)
  rw [hw0]
  have HE := Lib.hid hE
  obtain ⟨d0, d1, d2, d3, d4, d5, d6⟩ := Lat.cfg hC
  obtain ⟨k0, hk0⟩ := lat_self w0
  rw [hk0]
  clear hw0 hC hE hk0 hlt0
  go_wp2_with fail
  refine (hL _).mono ?_
  rintro e w1 ⟨rfl, e1⟩
  obtain ⟨k1, rfl⟩ := lat_next k0 e1
  clear e1
  obtain ⟨b3, b4⟩ := mul_bd (a := T + 2) (b := 3 * R + R * H + 3 * n + 3) (A := 18) (B := 9300) (by omega) (by omega) (by omega) (by omega)
  go_wp2_with fail
  go_ret2
  refine ⟨?_, Ext.next HE.out k1.ok⟩
  try rfl
  try simp [soloF]

set_option maxHeartbeats 4000000 in
theorem window_any (T R H Re Ca S B : Int) (hok : Okay T R H Re Ca S B) (w : World) :
    Calls Try.prog 33 #[(.agg #[.int .i64 T, .int .i64 R, .int .i64 H, .int .i64 Re, .int .i64 Ca, .int .i64 S, .int .i64 B])] w fun e w' => e = .returned (.tuple #[.int .i64 (windowF T R H Ca S (listedF R H Re) (listedF R H Re * R)), .int .i64 0]) ∧ Ext w w' := by
  have hok' := hok
  unfold Okay at hok'
  obtain ⟨a1, a2, a3, a4, a5, a6, a7, a8, a9, a10, a11, a12, a13, a14⟩ := hok'
  obtain ⟨b1, b2⟩ := mul_bd (a := R) (b := H) (A := 16) (B := 8) (by omega) (by omega) (by omega) (by omega)
  have hb := listed_bd hok
  have hL := fun w => listed_any T R H Re Ca S B hok w
  clear hok
  generalize listedF R H Re = n at *
  obtain ⟨hb1, hb2⟩ := hb
  go_enter Try.func33, Try.ntmps33
  go_upto_region 1 with fail
  obtain ⟨w0, hw0, hC, hE, hlt0⟩ := enter1 w (.cells (cfgV T R H Re Ca S B) 23)
  rw [hw0]
  have HE := Lib.hid hE
  obtain ⟨d0, d1, d2, d3, d4, d5, d6⟩ := Lat.cfg hC
  obtain ⟨k0, hk0⟩ := lat_self w0
  rw [hk0]
  clear hw0 hC hE hk0 hlt0
  go_wp2_with fail
  refine (hL _).mono ?_
  rintro e w1 ⟨rfl, e1⟩
  obtain ⟨k1, rfl⟩ := lat_next k0 e1
  clear e1
  obtain ⟨b7, b8⟩ := mul_bd (a := n) (b := R) (A := 3000) (B := 16) (by omega) (by omega) (by omega) (by omega)
  obtain ⟨b5, b6⟩ := mul_bd (a := T) (b := Ca) (A := 16) (B := 64) (by omega) (by omega) (by omega) (by omega)
  obtain ⟨b9, b10⟩ := mul_bd (a := T + 2) (b := 3 * R + R * H + 3 * n) (A := 18) (B := 9300) (by omega) (by omega) (by omega) (by omega)
  obtain ⟨v, hv⟩ : ∃ v, 8 * T + 1 + T * Ca + n * R = v := ⟨_, rfl⟩
  have Hv := Lib.hid hv
  have hv1 : 0 ≤ v ∧ v ≤ 60000 := by omega
  obtain ⟨hv1, hv2⟩ := hv1
  obtain ⟨b11, b12⟩ := mul_bd (a := v + 6) (b := 7 * (S + T) + 12) (A := 60006) (B := 7300) (by omega) (by omega) (by omega) (by omega)
  obtain ⟨b13, b14⟩ := mul_bd (a := T) (b := (v + 6) * (7 * (S + T) + 12) + (T + 2) * (3 * R + R * H + 3 * n) + 3 * v + 3 * Ca + 2 * R + H + 43) (A := 16) (B := 500000000) (by omega) (by omega) (by omega) (by omega)
  go_upto_region 5 with fail
  clear hv
  go_wp2_with fail
  go_ret2
  exact ⟨by rw [windowF, vF, Hv.out]; try rfl, Ext.next HE.out k1.ok⟩

set_option maxHeartbeats 4000000 in
theorem refRetired_any (T R H Re Ca S B : Int) (hok : Okay T R H Re Ca S B) (w : World) :
    Calls Try.prog 86 #[(.agg #[.int .i64 T, .int .i64 R, .int .i64 H, .int .i64 Re, .int .i64 Ca, .int .i64 S, .int .i64 B])] w fun e w' => e = .returned (.int .i64 (R * listedF R H Re)) ∧ Ext w w' := by
  have hok' := hok
  unfold Okay at hok'
  obtain ⟨a1, a2, a3, a4, a5, a6, a7, a8, a9, a10, a11, a12, a13, a14⟩ := hok'
  obtain ⟨b1, b2⟩ := mul_bd (a := R) (b := H) (A := 16) (B := 8) (by omega) (by omega) (by omega) (by omega)
  have hb := listed_bd hok
  have hL := fun w => refListed_any T R H Re Ca S B hok w
  clear hok
  generalize listedF R H Re = n at *
  obtain ⟨hb1, hb2⟩ := hb
  obtain ⟨b3, b4⟩ := mul_bd (a := R) (b := n) (A := 16) (B := 3000) (by omega) (by omega) (by omega) (by omega)
  go_enter Try.func86, Try.ntmps86
  go_upto_region 1 with fail
  obtain ⟨w0, hw0, hC, hE, hlt0⟩ := enter1 w (.cells (cfgV T R H Re Ca S B) 23)
  rw [hw0]
  have HE := Lib.hid hE
  obtain ⟨d0, d1, d2, d3, d4, d5, d6⟩ := Lat.cfg hC
  obtain ⟨k0, hk0⟩ := lat_self w0
  rw [hk0]
  clear hw0 hC hE hk0 hlt0
  refine wp_region_cls (Ext w0) (Ext.drew1 k0.ok) (by kernel_rfl) (by kernel_rfl) ?_
  repeat (go_big_quiet_step (exact calls_cls (keeps_ext _) (hL _)))
  refine wpQuiet_nil ?_
  rintro _ ⟨k1, rfl⟩
  go_wp2_with fail
  go_ret
  exact ⟨rfl, Ext.next HE.out k1.ok⟩

set_option maxHeartbeats 4000000 in
theorem refSolo_any (T R H Re Ca S B : Int) (hok : Okay T R H Re Ca S B) (w : World) :
    Calls Try.prog 87 #[(.agg #[.int .i64 T, .int .i64 R, .int .i64 H, .int .i64 Re, .int .i64 Ca, .int .i64 S, .int .i64 B])] w fun e w' => e = .returned (.int .i64 (soloF T R H Ca S (listedF R H Re))) ∧ Ext w w' := by
  have hok' := hok
  unfold Okay at hok'
  obtain ⟨a1, a2, a3, a4, a5, a6, a7, a8, a9, a10, a11, a12, a13, a14⟩ := hok'
  obtain ⟨b1, b2⟩ := mul_bd (a := R) (b := H) (A := 16) (B := 8) (by omega) (by omega) (by omega) (by omega)
  have hb := listed_bd hok
  have hL := fun w => refListed_any T R H Re Ca S B hok w
  clear hok
  generalize listedF R H Re = n at *
  obtain ⟨hb1, hb2⟩ := hb
  obtain ⟨b3, b4⟩ := mul_bd (a := T + 2) (b := 3 * R + R * H + 3 * n + 3) (A := 18) (B := 9300) (by omega) (by omega) (by omega) (by omega)
  go_enter Try.func87, Try.ntmps87
  go_upto_region 1 with fail
  obtain ⟨w0, hw0, hC, hE, hlt0⟩ := enter1 w (.cells (cfgV T R H Re Ca S B) 23)
  rw [hw0]
  have HE := Lib.hid hE
  obtain ⟨d0, d1, d2, d3, d4, d5, d6⟩ := Lat.cfg hC
  obtain ⟨k0, hk0⟩ := lat_self w0
  rw [hk0]
  clear hw0 hC hE hk0 hlt0
  go_upto_region 2 with fail
  refine wp_region_cls (Ext w0) (Ext.drew1 k0.ok) (by kernel_rfl) (by kernel_rfl) ?_
  repeat (go_big_quiet_step (exact calls_cls (keeps_ext _) (hL _)))
  refine wpQuiet_nil ?_
  rintro _ ⟨k1, rfl⟩
  go_wp2_with fail
  go_ret
  exact ⟨rfl, Ext.next HE.out k1.ok⟩

set_option maxHeartbeats 4000000 in
theorem refWindow_any (T R H Re Ca S B : Int) (hok : Okay T R H Re Ca S B) (w : World) :
    Calls Try.prog 88 #[(.agg #[.int .i64 T, .int .i64 R, .int .i64 H, .int .i64 Re, .int .i64 Ca, .int .i64 S, .int .i64 B])] w fun e w' => e = .returned (.int .i64 (windowF T R H Ca S (listedF R H Re) (R * listedF R H Re))) ∧ Ext w w' := by
  have hok' := hok
  unfold Okay at hok'
  obtain ⟨a1, a2, a3, a4, a5, a6, a7, a8, a9, a10, a11, a12, a13, a14⟩ := hok'
  obtain ⟨b1, b2⟩ := mul_bd (a := R) (b := H) (A := 16) (B := 8) (by omega) (by omega) (by omega) (by omega)
  have hb := listed_bd hok
  have hL := fun w => refListed_any T R H Re Ca S B hok w
  have hRt := fun w => refRetired_any T R H Re Ca S B hok w
  clear hok
  generalize listedF R H Re = n at *
  obtain ⟨hb1, hb2⟩ := hb
  obtain ⟨b7, b8⟩ := mul_bd (a := R) (b := n) (A := 16) (B := 3000) (by omega) (by omega) (by omega) (by omega)
  obtain ⟨b5, b6⟩ := mul_bd (a := T) (b := Ca) (A := 16) (B := 64) (by omega) (by omega) (by omega) (by omega)
  obtain ⟨b9, b10⟩ := mul_bd (a := T + 2) (b := 3 * R + R * H + 3 * n) (A := 18) (B := 9300) (by omega) (by omega) (by omega) (by omega)
  obtain ⟨v, hv⟩ : ∃ v, 8 * T + 1 + T * Ca + R * n = v := ⟨_, rfl⟩
  have Hv := Lib.hid hv
  have hv1 : 0 ≤ v ∧ v ≤ 60000 := by omega
  obtain ⟨hv1, hv2⟩ := hv1
  obtain ⟨b11, b12⟩ := mul_bd (a := v + 6) (b := 7 * (S + T) + 12) (A := 60006) (B := 7300) (by omega) (by omega) (by omega) (by omega)
  obtain ⟨b13, b14⟩ := mul_bd (a := T) (b := (v + 6) * (7 * (S + T) + 12) + (T + 2) * (3 * R + R * H + 3 * n) + 3 * v + 3 * Ca + 2 * R + H + 43) (A := 16) (B := 500000000) (by omega) (by omega) (by omega) (by omega)
  go_enter Try.func88, Try.ntmps88
  go_upto_region 1 with fail
  obtain ⟨w0, hw0, hC, hE, hlt0⟩ := enter1 w (.cells (cfgV T R H Re Ca S B) 23)
  rw [hw0]
  have HE := Lib.hid hE
  obtain ⟨d0, d1, d2, d3, d4, d5, d6⟩ := Lat.cfg hC
  obtain ⟨k0, hk0⟩ := lat_self w0
  rw [hk0]
  clear hw0 hC hE hk0 hlt0
  go_upto_region 2 with fail
  refine wp_region_cls (Ext w0) (Ext.drew1 k0.ok) (by kernel_rfl) (by kernel_rfl) ?_
  repeat (go_big_quiet_step (exact calls_cls (keeps_ext _) (hRt _)))
  refine wpQuiet_nil ?_
  rintro _ ⟨k1, rfl⟩
  clear hv
  go_upto_region 3 with fail
  refine wp_region_cls (Ext w0) (Ext.drew1 k1.ok) (by kernel_rfl) (by kernel_rfl) ?_
  repeat (go_big_quiet_step (exact calls_cls (keeps_ext _) (hL _)))
  refine wpQuiet_nil ?_
  rintro _ ⟨k2, rfl⟩
  go_wp2_with fail
  go_ret
  exact ⟨by rw [windowF, vF, Hv.out]; try rfl, Ext.next HE.out k2.ok⟩

set_option maxHeartbeats 4000000 in
theorem ref13Listed_any (T R H Re Ca S B : Int) (hok : Okay T R H Re Ca S B) (w : World) :
    Calls Try.prog 35 #[(.agg #[.int .i64 T, .int .i64 R, .int .i64 H, .int .i64 Re, .int .i64 Ca, .int .i64 S, .int .i64 B])] w fun e w' => e = .returned (.int .i64 (listedF R H Re)) ∧ Ext w w' := by
  go_enter Try.func35, Try.ntmps35
  go_upto_region 1 with fail
  obtain ⟨w0, hw0, hC, hE, hlt0⟩ := enter1 w (.cells (cfgV T R H Re Ca S B) 23)
  rw [hw0]
  have HE := Lib.hid hE
  obtain ⟨d0, d1, d2, d3, d4, d5, d6⟩ := Lat.cfg hC
  obtain ⟨k0, hk0⟩ := lat_self w0
  rw [hk0]
  clear hw0 hC hE hk0 hlt0
  go_wp2_with fail
  refine (refListed_any T R H Re Ca S B hok _).mono ?_
  rintro e w1 ⟨rfl, e1⟩
  obtain ⟨k1, rfl⟩ := lat_next k0 e1
  clear e1 hok
  go_wp2_with fail
  go_ret
  exact ⟨rfl, Ext.next HE.out k1.ok⟩

set_option maxHeartbeats 4000000 in
theorem ref13Retired_any (T R H Re Ca S B : Int) (hok : Okay T R H Re Ca S B) (w : World) :
    Calls Try.prog 36 #[(.agg #[.int .i64 T, .int .i64 R, .int .i64 H, .int .i64 Re, .int .i64 Ca, .int .i64 S, .int .i64 B])] w fun e w' => e = .returned (.int .i64 (R * listedF R H Re)) ∧ Ext w w' := by
  go_enter Try.func36, Try.ntmps36
  go_upto_region 1 with fail
  obtain ⟨w0, hw0, hC, hE, hlt0⟩ := enter1 w (.cells (cfgV T R H Re Ca S B) 23)
  rw [hw0]
  have HE := Lib.hid hE
  obtain ⟨d0, d1, d2, d3, d4, d5, d6⟩ := Lat.cfg hC
  obtain ⟨k0, hk0⟩ := lat_self w0
  rw [hk0]
  clear hw0 hC hE hk0 hlt0
  go_wp2_with fail
  refine (refRetired_any T R H Re Ca S B hok _).mono ?_
  rintro e w1 ⟨rfl, e1⟩
  obtain ⟨k1, rfl⟩ := lat_next k0 e1
  clear e1 hok
  go_wp2_with fail
  go_ret
  exact ⟨rfl, Ext.next HE.out k1.ok⟩

set_option maxHeartbeats 4000000 in
theorem ref13Solo_any (T R H Re Ca S B : Int) (hok : Okay T R H Re Ca S B) (w : World) :
    Calls Try.prog 37 #[(.agg #[.int .i64 T, .int .i64 R, .int .i64 H, .int .i64 Re, .int .i64 Ca, .int .i64 S, .int .i64 B])] w fun e w' => e = .returned (.int .i64 (soloF T R H Ca S (listedF R H Re))) ∧ Ext w w' := by
  go_enter Try.func37, Try.ntmps37
  go_upto_region 1 with fail
  obtain ⟨w0, hw0, hC, hE, hlt0⟩ := enter1 w (.cells (cfgV T R H Re Ca S B) 23)
  rw [hw0]
  have HE := Lib.hid hE
  obtain ⟨d0, d1, d2, d3, d4, d5, d6⟩ := Lat.cfg hC
  obtain ⟨k0, hk0⟩ := lat_self w0
  rw [hk0]
  clear hw0 hC hE hk0 hlt0
  go_wp2_with fail
  refine (refSolo_any T R H Re Ca S B hok _).mono ?_
  rintro e w1 ⟨rfl, e1⟩
  obtain ⟨k1, rfl⟩ := lat_next k0 e1
  clear e1 hok
  go_wp2_with fail
  go_ret
  exact ⟨rfl, Ext.next HE.out k1.ok⟩

set_option maxHeartbeats 4000000 in
theorem ref13Window_any (T R H Re Ca S B : Int) (hok : Okay T R H Re Ca S B) (w : World) :
    Calls Try.prog 38 #[(.agg #[.int .i64 T, .int .i64 R, .int .i64 H, .int .i64 Re, .int .i64 Ca, .int .i64 S, .int .i64 B])] w fun e w' => e = .returned (.int .i64 (windowF T R H Ca S (listedF R H Re) (R * listedF R H Re))) ∧ Ext w w' := by
  go_enter Try.func38, Try.ntmps38
  go_upto_region 1 with fail
  obtain ⟨w0, hw0, hC, hE, hlt0⟩ := enter1 w (.cells (cfgV T R H Re Ca S B) 23)
  rw [hw0]
  have HE := Lib.hid hE
  obtain ⟨d0, d1, d2, d3, d4, d5, d6⟩ := Lat.cfg hC
  obtain ⟨k0, hk0⟩ := lat_self w0
  rw [hk0]
  clear hw0 hC hE hk0 hlt0
  go_wp2_with fail
  refine (refWindow_any T R H Re Ca S B hok _).mono ?_
  rintro e w1 ⟨rfl, e1⟩
  obtain ⟨k1, rfl⟩ := lat_next k0 e1
  clear e1 hok
  go_wp2_with fail
  go_ret
  exact ⟨rfl, Ext.next HE.out k1.ok⟩

open Classical in
/-- The error's number of the calls that take a run. -/
noncomputable def lookF (T R H Re Ca S B used : Int) (cs : List Cl) (tr : List Ac) (sh : List Sh) (rw_ : List Int) : Int :=
  if Okay T R H Re Ca S B then (if 0 ≤ used ∧ used ≤ S then (if MayOK T R H Re Ca S B used cs tr sh rw_ then 0 else 130) else 2) else 1
/-- What census.May says. -/
def MaySays : Prop := ∀ (T R H Re Ca S B used : Int) (A1 : Option Addr) (n1 c1 : Nat) (A2 : Option Addr) (n2 c2 : Nat) (A3 : Option Addr) (n3 c3 : Nat) (A4 : Option Addr) (n4 c4 : Nat) (cs : List Cl) (tr : List Ac) (sh : List Sh) (rw_ : List Int) (w : World)
    (_ : RunMem w A1 n1 A2 n2 A3 n3 A4 n4 cs tr sh rw_) (_ : n1 * 72 ≤ 140737488355328),
    Calls Try.prog 21 #[(.agg #[.int .i64 T, .int .i64 R, .int .i64 H, .int .i64 Re, .int .i64 Ca, .int .i64 S, .int .i64 B]), .int .i64 used, .agg #[.slice A1 n1 c1, .slice A2 n2 c2, .slice A3 n3 c3, .slice A4 n4 c4]] w (Says (MayOK T R H Re Ca S B used cs tr sh rw_) w)

set_option maxHeartbeats 2000000 in
theorem cRefused_any (hM : MaySays) (T R H Re Ca S B used : Int) (A1 : Option Addr) (n1 c1 : Nat) (A2 : Option Addr) (n2 c2 : Nat) (A3 : Option Addr) (n3 c3 : Nat) (A4 : Option Addr) (n4 c4 : Nat) (cs : List Cl) (tr : List Ac) (sh : List Sh) (rw_ : List Int) (w : World)
    (hm : RunMem w A1 n1 A2 n2 A3 n3 A4 n4 cs tr sh rw_) (hbig : n1 * 72 ≤ 140737488355328) :
    Calls Try.prog 81 #[(.agg #[.int .i64 T, .int .i64 R, .int .i64 H, .int .i64 Re, .int .i64 Ca, .int .i64 S, .int .i64 B]), .int .i64 used, .agg #[.slice A1 n1 c1, .slice A2 n2 c2, .slice A3 n3 c3, .slice A4 n4 c4]] w fun e w' => e = .returned (.int .i64 (lookF T R H Re Ca S B used cs tr sh rw_)) ∧ Ext w w' := by
  have Hm := Lib.hid hm
  clear hm
  generalize hans : lookF T R H Re Ca S B used cs tr sh rw_ = ans
  have HA := Lib.hid hans
  clear hans
  unfold lookF at HA
  go_enter Try.func81, Try.ntmps81
  go_upto_region 1 with fail
  obtain ⟨w0, hw0, hC, hR, hE, hlt0⟩ := enter2 w (.cells (cfgV T R H Re Ca S B) 23) (.cells #[.slice A1 n1 c1, .slice A2 n2 c2, .slice A3 n3 c3, .slice A4 n4 c4] 48)
  rw [hw0]
  have HE := Lib.hid hE
  have Hm0 := Lib.hid (Hm.out.ext hE)
  obtain ⟨d0, d1, d2, d3, d4, d5, d6⟩ := Lat.cfg hC
  obtain ⟨r0, r1, r2, r3⟩ := Lat.run hR
  obtain ⟨k0, hk0⟩ := lat_self w0
  rw [hk0]
  clear hw0 hC hR hE hk0 hlt0
  go_wp2_with fail
  refine (check_any T R H Re Ca S B _).mono ?_
  rintro e w1 ⟨rfl, e1⟩
  obtain ⟨k1, rfl⟩ := lat_next k0 e1
  clear e1
  by_cases hok : Okay T R H Re Ca S B
  · rw [if_pos hok]
    rw [if_pos hok] at HA
    by_cases hu : 0 ≤ used ∧ used ≤ S
    · rw [if_pos hu] at HA
      obtain ⟨hu0, hu1⟩ := hu
      have hf1 : decide (used < 0) = false := by simpa using hu0
      have hf2 : decide (S < used) = false := by simpa using hu1
      clear hok
      go_wp2_with fail
      refine (hM T R H Re Ca S B used A1 n1 c1 A2 n2 c2 A3 n3 c3 A4 n4 c4 cs tr sh rw_ _ (Hm0.out.ext k1.ok) hbig).mono ?_
      rintro e w2 ⟨q, rfl, hq, e2⟩
      obtain ⟨k2, rfl⟩ := lat_next k1 e2
      have HQ := Lib.hid hq
      clear e2 hq
      cases q with
      | false =>
        rw [if_neg (fun h => by have := HQ.out.2 h; cases this)] at HA
        go_wp2_with fail
        go_ret
        exact ⟨ret_int HA.out, Ext.next HE.out k2.ok⟩
      | true =>
        rw [if_pos (HQ.out.1 rfl)] at HA
        go_wp2_with fail
        go_ret
        exact ⟨ret_int HA.out, Ext.next HE.out k2.ok⟩
    · rw [if_neg hu] at HA
      rcases (by omega : used < 0 ∨ (0 ≤ used ∧ S < used)) with h2 | ⟨h2, h3⟩
      case' inl => have hf1 : decide (used < 0) = true := by simpa using h2
      case' inr =>
        have hf1 : decide (used < 0) = false := by simpa using h2
        have hf2 : decide (S < used) = true := by simpa using h3
      all_goals
        clear hu hok
        go_wp2_with fail
        go_ret
        exact ⟨ret_int HA.out, Ext.next HE.out k1.ok⟩
  · rw [if_neg hok]
    rw [if_neg hok] at HA
    clear hok
    go_wp2_with fail
    go_ret
    exact ⟨ret_int HA.out, Ext.next HE.out k1.ok⟩

set_option maxHeartbeats 2000000 in
theorem refLook_any (T R H Re Ca S B used : Int) (A1 : Option Addr) (n1 c1 : Nat) (A2 : Option Addr) (n2 c2 : Nat) (A3 : Option Addr) (n3 c3 : Nat) (A4 : Option Addr) (n4 c4 : Nat) (cs : List Cl) (tr : List Ac) (sh : List Sh) (rw_ : List Int) (w : World)
    (hm : RunMem w A1 n1 A2 n2 A3 n3 A4 n4 cs tr sh rw_) :
    Calls Try.prog 83 #[(.agg #[.int .i64 T, .int .i64 R, .int .i64 H, .int .i64 Re, .int .i64 Ca, .int .i64 S, .int .i64 B]), .int .i64 used, .agg #[.slice A1 n1 c1, .slice A2 n2 c2, .slice A3 n3 c3, .slice A4 n4 c4]] w fun e w' => e = .returned (.int .i64 (lookF T R H Re Ca S B used cs tr sh rw_)) ∧ Ext w w' := by
  have Hm := Lib.hid hm
  clear hm
  generalize hans : lookF T R H Re Ca S B used cs tr sh rw_ = ans
  have HA := Lib.hid hans
  clear hans
  unfold lookF at HA
  go_enter Try.func83, Try.ntmps83
  go_upto_region 1 with fail
  obtain ⟨w0, hw0, hC, hR, hE, hlt0⟩ := enter2 w (.cells (cfgV T R H Re Ca S B) 23) (.cells #[.slice A1 n1 c1, .slice A2 n2 c2, .slice A3 n3 c3, .slice A4 n4 c4] 48)
  rw [hw0]
  have HE := Lib.hid hE
  have Hm0 := Lib.hid (Hm.out.ext hE)
  obtain ⟨d0, d1, d2, d3, d4, d5, d6⟩ := Lat.cfg hC
  obtain ⟨r0, r1, r2, r3⟩ := Lat.run hR
  obtain ⟨k0, hk0⟩ := lat_self w0
  rw [hk0]
  clear hw0 hC hR hE hk0 hlt0
  go_wp2_with fail
  refine (config_any T R H Re Ca S B _).mono ?_
  rintro e w1 ⟨rfl, e1⟩
  obtain ⟨k1, rfl⟩ := lat_next k0 e1
  clear e1
  by_cases hok : Okay T R H Re Ca S B
  · rw [decide_eq_true hok]
    rw [if_pos hok] at HA
    by_cases hu : 0 ≤ used ∧ used ≤ S
    · rw [if_pos hu] at HA
      obtain ⟨hu0, hu1⟩ := hu
      have hf1 : decide (used < 0) = false := by simpa using hu0
      have hf2 : decide (S < used) = false := by simpa using hu1
      clear hok
      go_wp2_with fail
      refine (refMay_any T R H Re Ca S B used A1 n1 c1 A2 n2 c2 A3 n3 c3 A4 n4 c4 cs tr sh rw_ _ (Hm0.out.ext k1.ok)).mono ?_
      rintro e w2 ⟨q, rfl, hq, e2⟩
      obtain ⟨k2, rfl⟩ := lat_next k1 e2
      have HQ := Lib.hid hq
      clear e2 hq
      cases q with
      | false =>
        rw [if_neg (fun h => by have := HQ.out.2 h; cases this)] at HA
        go_wp2_with fail
        go_ret
        exact ⟨ret_int HA.out, Ext.next HE.out k2.ok⟩
      | true =>
        rw [if_pos (HQ.out.1 rfl)] at HA
        go_wp2_with fail
        go_ret
        exact ⟨ret_int HA.out, Ext.next HE.out k2.ok⟩
    · rw [if_neg hu] at HA
      rcases (by omega : used < 0 ∨ (0 ≤ used ∧ S < used)) with h2 | ⟨h2, h3⟩
      case' inl => have hf1 : decide (used < 0) = true := by simpa using h2
      case' inr =>
        have hf1 : decide (used < 0) = false := by simpa using h2
        have hf2 : decide (S < used) = true := by simpa using h3
      all_goals
        clear hu hok
        go_wp2_with fail
        go_ret
        exact ⟨ret_int HA.out, Ext.next HE.out k1.ok⟩
  · rw [decide_eq_false hok]
    rw [if_neg hok] at HA
    clear hok
    go_wp2_with fail
    go_ret
    exact ⟨ret_int HA.out, Ext.next HE.out k1.ok⟩

set_option maxHeartbeats 2000000 in
theorem ref13Look_any (T R H Re Ca S B used : Int) (A1 : Option Addr) (n1 c1 : Nat) (A2 : Option Addr) (n2 c2 : Nat) (A3 : Option Addr) (n3 c3 : Nat) (A4 : Option Addr) (n4 c4 : Nat) (cs : List Cl) (tr : List Ac) (sh : List Sh) (rw_ : List Int) (w : World)
    (hm : RunMem w A1 n1 A2 n2 A3 n3 A4 n4 cs tr sh rw_) :
    Calls Try.prog 28 #[(.agg #[.int .i64 T, .int .i64 R, .int .i64 H, .int .i64 Re, .int .i64 Ca, .int .i64 S, .int .i64 B]), .int .i64 used, .agg #[.slice A1 n1 c1, .slice A2 n2 c2, .slice A3 n3 c3, .slice A4 n4 c4]] w fun e w' => e = .returned (.int .i64 (lookF T R H Re Ca S B used cs tr sh rw_)) ∧ Ext w w' := by
  have Hm := Lib.hid hm
  clear hm
  go_enter Try.func28, Try.ntmps28
  go_upto_region 1 with fail
  obtain ⟨w0, hw0, hC, hR, hE, hlt0⟩ := enter2 w (.cells (cfgV T R H Re Ca S B) 23) (.cells #[.slice A1 n1 c1, .slice A2 n2 c2, .slice A3 n3 c3, .slice A4 n4 c4] 48)
  rw [hw0]
  have HE := Lib.hid hE
  have Hm0 := Lib.hid (Hm.out.ext hE)
  obtain ⟨d0, d1, d2, d3, d4, d5, d6⟩ := Lat.cfg hC
  obtain ⟨r0, r1, r2, r3⟩ := Lat.run hR
  obtain ⟨k0, hk0⟩ := lat_self w0
  rw [hk0]
  clear hw0 hC hR hE hk0 hlt0
  go_wp2_with fail
  refine (refLook_any T R H Re Ca S B used A1 n1 c1 A2 n2 c2 A3 n3 c3 A4 n4 c4 cs tr sh rw_ _ (Hm0.out.ext k0.ok)).mono ?_
  rintro e w1 ⟨rfl, e1⟩
  obtain ⟨k1, rfl⟩ := lat_next k0 e1
  clear e1
  go_wp2_with fail
  go_ret
  exact ⟨rfl, Ext.next HE.out k1.ok⟩

set_option maxHeartbeats 2000000 in
theorem ref13May_any (T R H Re Ca S B used : Int) (A1 : Option Addr) (n1 c1 : Nat) (A2 : Option Addr) (n2 c2 : Nat) (A3 : Option Addr) (n3 c3 : Nat) (A4 : Option Addr) (n4 c4 : Nat) (cs : List Cl) (tr : List Ac) (sh : List Sh) (rw_ : List Int) (w : World)
    (hm : RunMem w A1 n1 A2 n2 A3 n3 A4 n4 cs tr sh rw_) :
    Calls Try.prog 22 #[(.agg #[.int .i64 T, .int .i64 R, .int .i64 H, .int .i64 Re, .int .i64 Ca, .int .i64 S, .int .i64 B]), .int .i64 used, .agg #[.slice A1 n1 c1, .slice A2 n2 c2, .slice A3 n3 c3, .slice A4 n4 c4]] w (Says (MayOK T R H Re Ca S B used cs tr sh rw_) w) := by
  have Hm := Lib.hid hm
  clear hm
  generalize hmay : MayOK T R H Re Ca S B used cs tr sh rw_ = may
  have HM := Lib.hid hmay
  clear hmay
  go_enter Try.func22, Try.ntmps22
  go_upto_region 1 with fail
  obtain ⟨w0, hw0, hC, hR, hE, hlt0⟩ := enter2 w (.cells (cfgV T R H Re Ca S B) 23) (.cells #[.slice A1 n1 c1, .slice A2 n2 c2, .slice A3 n3 c3, .slice A4 n4 c4] 48)
  rw [hw0]
  have HE := Lib.hid hE
  have Hm0 := Lib.hid (Hm.out.ext hE)
  obtain ⟨d0, d1, d2, d3, d4, d5, d6⟩ := Lat.cfg hC
  obtain ⟨r0, r1, r2, r3⟩ := Lat.run hR
  obtain ⟨k0, hk0⟩ := lat_self w0
  rw [hk0]
  clear hw0 hC hR hE hk0 hlt0
  go_wp2_with fail
  refine (refMay_any T R H Re Ca S B used A1 n1 c1 A2 n2 c2 A3 n3 c3 A4 n4 c4 cs tr sh rw_ _ (Hm0.out.ext k0.ok)).mono ?_
  rintro e w1 ⟨q, rfl, hq, e1⟩
  obtain ⟨k1, rfl⟩ := lat_next k0 e1
  rw [HM.out] at hq
  have HQ := Lib.hid hq
  clear e1 hq
  go_wp2_with fail
  go_ret
  exact ⟨q, rfl, HQ.out, Ext.next HE.out k1.ok⟩

theorem results_cell1 {P : Program} {fn : Func} {p : Tmp} {ty : TypeId} (h : fn.results = #[.cell p ty]) (tmps : Array Value) (w : World) (g : Nat) (hp : tmps.getD p undef = .pointer (some ⟨g, 0, none⟩)) (v : Value)
    (hl : (loadVar ty ⟨g, 0, none⟩).run P w = .ok v w) : (results fn tmps).run P w = .ok v w := by
  have hp' : tmps[p]?.getD undef = .pointer (some ⟨g, 0, none⟩) := by simpa using hp
  simp [results, h, hp', asAddr, hl]

def smallV : Array Value := #[.int .i64 1, .int .i64 1, .int .i64 3, .int .i64 1, .int .i64 0, .int .i64 2, .int .i64 1]
set_option maxHeartbeats 2000000 in
theorem small_any (w : World) : Calls Try.prog 24 #[] w fun e w' => e = .returned (.agg #[.int .i64 1, .int .i64 1, .int .i64 3, .int .i64 1, .int .i64 0, .int .i64 2, .int .i64 1]) ∧ Ext w w' := by
  go_enter Try.func24, Try.ntmps24
  go_wp2_with fail
  refine bodyPost_ret (results_cell1 rfl _ _ w.heap.size rfl _ (run_loadVar_row _ _ _ _ _ _ _ (heap_alloc_new w _) Try.underlying23 rfl (by kernel_rfl))) rfl ?_
  exact ⟨rfl, (Ext.rfl' w).alloc1 _⟩

/-- The words of the small configuration's beginning. -/
def wordsS : List Int := firstL (sumOf 1 3 2 1 13).toNat (sumOf 1 3 2 1 9).toNat 2 0
def lenS : Nat := (sumOf 1 3 2 1 13).toNat
theorem okS : Okay 1 1 3 1 0 2 1 := by unfold Okay; omega
theorem sizesS : Sizes 1 3 2 1 lenS (sumOf 1 3 2 1 9).toNat 2 := by
  obtain ⟨n, b, s, h, _⟩ := sizes_of okS
  have h1 := h.may
  have hs := h.slots
  obtain rfl : s = 2 := by omega
  have e1 : lenS = n := h1.1
  rw [e1, h1.2.1]
  exact h
def BlankOut (w : World) (e : Ending) (w' : World) : Prop := ∃ g, e = .returned (.agg #[.slice none 0 0, .slice none 0 0, .slice none 0 0, .slice (some ⟨g, 0, none⟩) lenS lenS]) ∧ w'.ownsRow w.heap.size 25 1 (.slice (some ⟨g, 0, none⟩) lenS lenS) lenS (wordsS.map (Value.int .u64)) ∧ Ext w w'
set_option maxHeartbeats 2000000 in
theorem blank_any (w : World) : Calls Try.prog 25 #[] w (BlankOut w) := by
  have hf : ∀ w : World, Calls Try.prog 80 #[(.agg #[.int .i64 1, .int .i64 1, .int .i64 3, .int .i64 1, .int .i64 0, .int .i64 2, .int .i64 1]), .int .i64 0] w (FirstOut w lenS (sumOf 1 3 2 1 9).toNat 2 0 fun v => v) := fun w => refFirst_any 1 1 3 1 0 2 1 okS lenS _ 2 sizesS 0 (by omega) w
  go_enter Try.func25, Try.ntmps25
  go_upto_region 1 with fail
  obtain ⟨w0, hw0, hB, hE, _⟩ := enter1 w (.cells #[.slice none 0 0, .slice none 0 0, .slice none 0 0, .slice none 0 0] 48)
  rw [hw0]
  have HE := Lib.hid hE
  have HB := Lib.hid hB
  obtain ⟨k0, hk0⟩ := lat_self w0
  rw [hk0]
  clear hw0 hB hE hk0
  go_wp2_with fail
  refine (small_any _).mono ?_
  rintro e w1 ⟨rfl, e1⟩
  obtain ⟨k1, rfl⟩ := lat_next k0 e1
  clear e1
  go_wp2_with fail
  refine (hf _).mono ?_
  rintro e w2 ⟨g, rfl, hown, e2⟩
  have HO := Lib.hid (own_base hown (Nat.le_trans HE.out.size k1.ok.size))
  obtain ⟨k2, rfl⟩ := lat_next k1 e2
  clear hown e2 hf
  obtain ⟨c0, c1, c2, c3⟩ := Lat.run HB.out
  have fr := Lat.free HB.out
  go_wp2_with fail
  have hb0 := ext_blk k2.ok HB.out
  have hb1 := heap_setCell_same _ _ 0 _ _ (.slice none 0 0) hb0
  have hb2 := heap_setCell_same _ _ 1 _ _ (.slice none 0 0) hb1
  have hb3 := heap_setCell_same _ _ 2 _ _ (.slice none 0 0) hb2
  have hb4 := heap_setCell_same _ _ 3 _ _ (.slice (some ⟨g, 0, none⟩) lenS lenS) hb3
  have hb5 : _ = some (Obj.cells #[.slice none 0 0, .slice none 0 0, .slice none 0 0, .slice (some ⟨g, 0, none⟩) lenS lenS] 48 (0, 0)) := hb4
  have o : Only (fun q => q = w.heap.size) k2.world _ := ((((Only.refl (fun q => q = w.heap.size) k2.world).setCell ⟨w.heap.size, 0, none⟩ (.slice none 0 0) fun _ => rfl).setCell ⟨w.heap.size, 1, none⟩ (.slice none 0 0) fun _ => rfl).setCell ⟨w.heap.size, 2, none⟩ (.slice none 0 0) fun _ => rfl).setCell ⟨w.heap.size, 3, none⟩ (.slice (some ⟨g, 0, none⟩) lenS lenS) fun _ => rfl
  refine bodyPost_ret (results_cell1 rfl _ _ w.heap.size rfl _ (run_loadVar_row _ _ _ _ _ _ _ hb5 Try.underlying48 rfl (by kernel_rfl))) rfl ?_
  exact ⟨g, rfl, own_only HO.out o fun q hq e => own_apart HO.out hb0 (by decide) (by rw [hq, e]), (Ext.next HE.out k2.ok).only o fun q hq => by rw [hq]; exact Nat.le_refl _⟩

def clS : Cl := ⟨0, 22, 0, 0, 0, -1, -1, 0, 0⟩
def shS : Sh := ⟨1, 0, 0, 0, 3⟩
theorem mayS : MayOK 1 1 3 1 0 2 1 0 [clS] [] [shS] wordsS := by
  refine ⟨okS, ⟨by omega, by omega⟩, ⟨⟨?_, by decide, trivial⟩, ⟨fun y hy => by simp [lastBy] at hy, trivial⟩, ?_⟩, rfl, ?_⟩
  · unfold OkCall clS
    simp
  · refine ⟨fun i j x y hx _ h0 => ?_, fun i j x y hx _ _ h0 => ?_⟩
    all_goals
      have hm := List.mem_of_getElem? hx
      simp only [List.mem_singleton] at hm
      subst hm
      exact absurd h0 (by decide)
  · refine ⟨⟨by decide, by decide⟩, fun h => absurd h (by decide), ?_, fun a ha => by simp at ha, trivial⟩
    unfold OkShift
    decide
theorem lookS : lookF 1 1 3 1 0 2 1 0 [clS] [] [shS] wordsS = 0 := by
  unfold lookF
  rw [if_pos okS, if_pos ⟨by omega, by omega⟩, if_pos mayS]

/-- What Faults leaves of the fixed run. -/
def FaultsS (w : World) (e : Ending) (w' : World) : Prop := ∃ gf cf, e = .returned (.tuple #[.slice (some ⟨gf, 0, none⟩) 1 cf, .int .i64 0]) ∧ w'.ownsRow w.heap.size 65 3 (.slice (some ⟨gf, 0, none⟩) 1 cf) 1 [.int .i64 3, .int .i64 1, .int .i64 0] ∧ Ext w w'
set_option maxHeartbeats 2000000 in
theorem faults_one (hM : MaySays) (A1 : Option Addr) (c1 : Nat) (A2 : Option Addr) (c2 bs os c3 : Nat) (A4 : Option Addr) (c4 : Nat) (w : World) (hm : RunMem w A1 1 A2 0 (some ⟨bs, os, none⟩) 1 A4 lenS [clS] [] [shS] wordsS) :
    Calls Try.prog 27 #[.agg #[.int .i64 1, .int .i64 1, .int .i64 3, .int .i64 1, .int .i64 0, .int .i64 2, .int .i64 1], .int .i64 0, .agg #[.slice A1 1 c1, .slice A2 0 c2, .slice (some ⟨bs, os, none⟩) 1 c3, .slice A4 lenS c4]] w (FaultsS w) := by
  have Hm := Lib.hid hm
  clear hm
  go_enter Try.func27, Try.ntmps27
  go_upto_region 1 with fail
  obtain ⟨w0, hw0, hC, hR, hE, hlt0⟩ := enter2 w (.cells (cfgV 1 1 3 1 0 2 1) 23) (.cells #[.slice A1 1 c1, .slice A2 0 c2, .slice (some ⟨bs, os, none⟩) 1 c3, .slice A4 lenS c4] 48)
  rw [hw0]
  have HE := Lib.hid hE
  have Hm0 := Lib.hid (Hm.out.ext hE)
  obtain ⟨d0, d1, d2, d3, d4, d5, d6⟩ := Lat.cfg hC
  obtain ⟨r0, r1, r2, r3⟩ := Lat.run hR
  obtain ⟨k0, hk0⟩ := lat_self w0
  rw [hk0]
  clear hw0 hC hR hE hk0 hlt0
  go_wp2_with fail
  refine (cRefused_any hM 1 1 3 1 0 2 1 0 A1 1 c1 A2 0 c2 _ 1 c3 A4 lenS c4 _ _ _ _ _ (Hm0.out.ext k0.ok) (by omega)).mono ?_
  rintro e w1 ⟨rfl, e1⟩
  obtain ⟨k1, rfl⟩ := lat_next k0 e1
  rw [lookS]
  clear e1
  go_wp2_with fail
  refine (look_one A1 1 c1 A2 c2 bs os c3 A4 lenS c4 _ (Hm0.out.ext k1.ok).shifts).mono ?_
  rintro e w2 ⟨b, fr, pk, gf, cf, rfl, hW, hT, e2⟩
  have q11 := hW.cell hT.1 ⟨w2, Ext.rfl' _⟩
  simp only at q11
  have HT := Lib.hid (own_base hT.2 (Nat.le_trans HE.out.size k1.ok.size))
  have HX := Lib.hid (Ext.next HE.out (Ext.next k1.ok e2))
  clear hW hT e2
  go_wp2_with fail
  go_ret2
  exact ⟨gf, cf, rfl, HT.out, HX.out⟩

/-- A store into an elder block, and what was made for it. -/
theorem store_made (w6 : World) (r i : Nat) (cs : Array Value) (v : Value) (X : Obj) {t : TypeId} (hR : w6.heap[r]? = some (.cells cs t (0, 0))) :
    ∃ w8, (w6.setCell ⟨r, i, none⟩ v).alloc X = w8 ∧ w8.heap[r]? = some (.cells (cs.setIfInBounds i v) t (0, 0)) ∧ w8.heap[w6.heap.size]? = some X ∧ Only (fun q => q = r) w6 w8 ∧ w6.heap.size < w8.heap.size := by
  have h1 := heap_setCell_same w6 r i cs _ v hR
  have hsz : (w6.setCell ⟨r, i, none⟩ v).heap.size = w6.heap.size := by simp
  have h2 := heap_alloc_new (w6.setCell ⟨r, i, none⟩ v) X
  rw [hsz] at h2
  exact ⟨_, rfl, (heap_alloc_old _ _ (blk_lt h1)).trans h1, h2, ((Only.refl (fun q => q = r) w6).setCell ⟨r, i, none⟩ v fun _ => rfl).alloc X, by simp⟩
/-- The fixed run answers yes. -/
def AwakeSays : Prop := ∀ w : World, Calls Try.prog 26 #[] w fun e w' => e = .returned (.bool true) ∧ Ext w w'
set_option maxRecDepth 100000 in
set_option maxHeartbeats 4000000 in
theorem awake_any (hM : MaySays) : AwakeSays := by
  intro w
  have hl : ∀ w : World, Calls Try.prog 30 #[.agg #[.int .i64 1, .int .i64 1, .int .i64 3, .int .i64 1, .int .i64 0, .int .i64 2, .int .i64 1]] w fun e w' => e = .returned (.tuple #[.int .i64 4, .int .i64 0]) ∧ Ext w w' := fun w => listed_any 1 1 3 1 0 2 1 okS w
  have hw : ∀ w : World, Calls Try.prog 33 #[.agg #[.int .i64 1, .int .i64 1, .int .i64 3, .int .i64 1, .int .i64 0, .int .i64 2, .int .i64 1]] w fun e w' => e = .returned (.tuple #[.int .i64 769, .int .i64 0]) ∧ Ext w w' := fun w => window_any 1 1 3 1 0 2 1 okS w
  go_enter Try.func26, Try.ntmps26
  go_wp2_with fail
  refine (small_any _).mono ?_
  rintro e w1 ⟨rfl, e1⟩
  obtain ⟨k1, rfl⟩ := lat_of e1
  clear e1
  go_wp2_with fail
  refine (hl _).mono ?_
  rintro e w1 ⟨rfl, e1⟩
  obtain ⟨k2, rfl⟩ := lat_next k1 e1
  clear e1
  go_wp2_with fail
  refine (small_any _).mono ?_
  rintro e w1 ⟨rfl, e1⟩
  obtain ⟨k3, rfl⟩ := lat_next k2 e1
  clear e1
  go_wp2_with fail
  refine (hw _).mono ?_
  rintro e w1 ⟨rfl, e1⟩
  obtain ⟨k4, rfl⟩ := lat_next k3 e1
  clear e1
  go_wp2_with fail
  refine (blank_any _).mono ?_
  rintro e w1 ⟨gw, rfl, hown, e1⟩
  have HO := Lib.hid (own_base hown k4.ok.size)
  obtain ⟨k5, rfl⟩ := lat_next k4 e1
  clear hown e1 hl hw
  go_upto_region 6 with fail
  obtain ⟨w6, hw6, hR, hE6, hlt6⟩ := enter1 k5.world (.cells #[.slice none 0 0, .slice none 0 0, .slice none 0 0, .slice (some ⟨gw, 0, none⟩) lenS lenS] 48)
  rw [hw6]
  have HX6 := Lib.hid (Ext.next k5.ok hE6)
  have HO6 := Lib.hid (own_ext HO.out hE6)
  have hr : w.heap.size ≤ k5.world.heap.size := k5.size
  have Hr := Lib.hid hr
  generalize k5.world.heap.size = r at *
  have HR6 := Lib.hid hR
  have y0 := (Lat.run hR).1 ⟨w6, Ext.rfl' _⟩
  have yf := freeOf hR 0
  simp only at y0
  have hr6 : r < w6.heap.size := hlt6
  have hr7 : r ≠ w6.heap.size := by omega
  clear hw6 hE6 hR hr
  go_upto_region 7 with fail
  obtain ⟨w8, hw8, hR8, hK8, o8, hlt8⟩ := store_made w6 r 0 _ (.slice (some ⟨w6.heap.size, 0, none⟩) 1 1) (.cells #[.int .i64 0, .int .i64 22, .int .i64 0, .int .i64 0, .int .i64 0, .int .i64 (-1), .int .i64 (-1), .int .i64 0, .int .i64 0] 150) HR6.out
  rw [hw8]
  have hR8 : w8.heap[r]? = some (.cells #[.slice (some ⟨w6.heap.size, 0, none⟩) 1 1, .slice none 0 0, .slice none 0 0, .slice (some ⟨gw, 0, none⟩) lenS lenS] 48 (0, 0)) := hR8
  have HO8 := Lib.hid (own_only HO6.out o8 fun q hq e => own_apart HO6.out HR6.out (by decide) (by rw [hq, e]))
  have HX8 := Lib.hid (HX6.out.only o8 fun q hq => by rw [hq]; exact Hr.out)
  have HK8 := Lib.hid hK8
  have HR8 := Lib.hid hR8
  generalize w6.heap.size = gc at *
  clear hw8 hR8 hK8 o8 hlt8 y0 yf hr6 HO6 HX6 HR6
  have y2 := (Lat.run HR8.out).2.2.1 ⟨w8, Ext.rfl' _⟩
  have yf := freeOf HR8.out 2
  simp only at y2
  have hr8 : r < w8.heap.size := blk_lt HR8.out
  have hr9 : r ≠ w8.heap.size := by omega
  go_upto_region 8 with fail
  obtain ⟨w10, hw10, hR10, hS10, o10, hlt10⟩ := store_made w8 r 2 _ (.slice (some ⟨w8.heap.size, 0, none⟩) 1 1) (.cells #[.int .i64 1, .int .i64 0, .int .i64 0, .int .i64 0, .int .i64 3] 136) HR8.out
  rw [hw10]
  have hR10 : w10.heap[r]? = some (.cells #[.slice (some ⟨gc, 0, none⟩) 1 1, .slice none 0 0, .slice (some ⟨w8.heap.size, 0, none⟩) 1 1, .slice (some ⟨gw, 0, none⟩) lenS lenS] 48 (0, 0)) := hR10
  have HO10 := Lib.hid (own_only HO8.out o10 fun q hq e => own_apart HO8.out HR8.out (by decide) (by rw [hq, e]))
  have HX10 := Lib.hid (HX8.out.only o10 fun q hq => by rw [hq]; exact Hr.out)
  have HK10 := Lib.hid ((o10.block gc (blk_lt HK8.out) (fun e => hr7 e.symm)).trans HK8.out)
  have HS10 := Lib.hid hS10
  have HR10 := Lib.hid hR10
  generalize w8.heap.size = gs at *
  clear hw10 hR10 hS10 o10 hlt10 y2 yf hr8 hr9 hr7 HO8 HX8 HR8 HK8
  have hrm : Hid (RunMem w10 (some ⟨gc, 0, none⟩) 1 none 0 (some ⟨gs, 0, none⟩) 1 (some ⟨gw, 0, none⟩) lenS [clS] [] [shS] wordsS) := by
    have hl : wordsS.length = lenS := by have := HO10.out.1; simpa using this
    have hb := sizesS.big
    refine ⟨⟨rfl, fun _ => ⟨gc, 0, rfl, blk_lt HK10.out, fun j u hu => ?_⟩⟩, ⟨rfl, Rd.nil _ _⟩, ⟨rfl, fun _ => ⟨gs, 0, rfl, blk_lt HS10.out, fun j u hu => ?_⟩⟩, Rd.of_own HO10.out, hl, by omega, by omega, by omega, by omega, fun a ha => by simp at ha⟩
    · rw [Nat.zero_add]
      refine cellOf HK10.out ?_
      rw [← hu, ← Array.getElem?_toList]
      rfl
    · rw [Nat.zero_add]
      refine cellOf HS10.out ?_
      rw [← hu, ← Array.getElem?_toList]
      rfl
  obtain ⟨r0, r1, r2, r3⟩ := Lat.run HR10.out
  have hk : ∀ w', Ext w10 w' → w'.cell? ⟨r, 0, none⟩ = some (.slice (some ⟨gc, 0, none⟩) 1 1) ∧ w'.cell? ⟨r, 1, none⟩ = some (.slice none 0 0) ∧ w'.cell? ⟨r, 2, none⟩ = some (.slice (some ⟨gs, 0, none⟩) 1 1) ∧ w'.cell? ⟨r, 3, none⟩ = some (.slice (some ⟨gw, 0, none⟩) lenS lenS) := fun w' e => ⟨r0 ⟨w', e⟩, r1 ⟨w', e⟩, r2 ⟨w', e⟩, r3 ⟨w', e⟩⟩
  have hf := fun w' (e : Ext w10 w') => faults_one hM (some ⟨gc, 0, none⟩) 1 none 0 gs 0 1 (some ⟨gw, 0, none⟩) lenS w' (hrm.out.ext e)
  clear r0 r1 r2 r3
  go_cut [2, 6] (fun s2 s6 wx => ∃ gf cf B, s2 = .int .i64 0 ∧ s6 = .slice (some ⟨gf, 0, none⟩) 1 cf ∧ Hid (wx.ownsRow B 65 3 (.slice (some ⟨gf, 0, none⟩) 1 cf) 1 [.int .i64 3, .int .i64 1, .int .i64 0]) ∧ Hid (Ext w wx))
  case first =>
    go_region_held3 (fun w' => w'.cell? ⟨r, 0, none⟩ = some (.slice (some ⟨gc, 0, none⟩) 1 1) ∧ w'.cell? ⟨r, 1, none⟩ = some (.slice none 0 0) ∧ w'.cell? ⟨r, 2, none⟩ = some (.slice (some ⟨gs, 0, none⟩) 1 1) ∧ w'.cell? ⟨r, 3, none⟩ = some (.slice (some ⟨gw, 0, none⟩) lenS lenS))
      (first | exact hk _ ((Ext.rfl' w10).drew1) | exact hk _ EA | exact hk _ EB)
      (first | (refine (small_any _).mono ?_; rintro e wA ⟨rfl, eA⟩; have EA : Ext w10 wA := Ext.next ((Ext.rfl' w10).drew1) eA) | (refine (hf _ EA).mono ?_; rintro e wB ⟨gf, cf, rfl, hoB, eB⟩; have EB : Ext w10 wB := Ext.next EA eB))
    all_goals
      go_wp2_with fail
      go_meet
      case rel => exact ⟨gf, cf, _, rfl, rfl, hoB, Ext.next HX10.out EB⟩
  obtain ⟨gf, cf, B, rfl, rfl, hF, hX⟩ := hcut
  have z0 : wc.cell? ⟨gf, 0, none⟩ = some (.int .i64 3) := hF.out.cellAt 0 (by omega)
  have z1 : wc.cell? ⟨gf, 1, none⟩ = some (.int .i64 1) := hF.out.cellAt 1 (by omega)
  have z2 : wc.cell? ⟨gf, 2, none⟩ = some (.int .i64 0) := hF.out.cellAt 2 (by omega)
  go_wp2_with fail
  go_ret
  exact ⟨rfl, hX.out⟩

end Go.Proofs.Ytfbacopjookplaa
