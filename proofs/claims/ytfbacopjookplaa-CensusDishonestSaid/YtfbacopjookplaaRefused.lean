/- The walks of the refusals of a run: the program's and the document's. -/
import Derived.Test.YtfbacopjookplaaRefMay
namespace Go.Proofs.Ytfbacopjookplaa
open Go.RowKit

open Classical in
/-- The error's number of the calls that take a run. -/
noncomputable def lookF (T R H Re Ca S B used : Int) (cs : List Cl) (tr : List Ac) (sh : List Sh) (rw_ : List Int) : Int :=
  if Okay T R H Re Ca S B then (if 0 ≤ used ∧ used ≤ S then (if MayOK T R H Re Ca S B used cs tr sh rw_ then 0 else 130) else 2) else 1
/-- What census.May says. -/
def MaySays : Prop := ∀ (T R H Re Ca S B used : Int) (A1 : Option Addr) (n1 c1 : Nat) (A2 : Option Addr) (n2 c2 : Nat) (A3 : Option Addr) (n3 c3 : Nat) (A4 : Option Addr) (n4 c4 : Nat) (cs : List Cl) (tr : List Ac) (sh : List Sh) (rw_ : List Int) (w : World)
    (_ : RunMem w A1 n1 A2 n2 A3 n3 A4 n4 cs tr sh rw_) (_ : n1 * 72 ≤ 140737488355328),
    Calls Try.prog 21 #[(.agg #[.int .i64 T, .int .i64 R, .int .i64 H, .int .i64 Re, .int .i64 Ca, .int .i64 S, .int .i64 B]), .int .i64 used, .agg #[.slice A1 n1 c1, .slice A2 n2 c2, .slice A3 n3 c3, .slice A4 n4 c4]] w (Says (MayOK T R H Re Ca S B used cs tr sh rw_) w)

set_option maxHeartbeats 2000000 in
theorem cRefused_any (hM : MaySays) (T R H Re Ca S B used : Int) (A1 : Option Addr) (n1 c1 : Nat) (A2 : Option Addr) (n2 c2 : Nat) (A3 : Option Addr) (n3 c3 : Nat) (A4 : Option Addr) (n4 c4 : Nat) (cs : List Cl) (tr : List Ac) (sh : List Sh) (rw_ : List Int) (w : World)
    (hm : RunMem w A1 n1 A2 n2 A3 n3 A4 n4 cs tr sh rw_) (hbig : n1 * 72 ≤ 140737488355328) :
    Calls Try.prog 81 #[(.agg #[.int .i64 T, .int .i64 R, .int .i64 H, .int .i64 Re, .int .i64 Ca, .int .i64 S, .int .i64 B]), .int .i64 used, .agg #[.slice A1 n1 c1, .slice A2 n2 c2, .slice A3 n3 c3, .slice A4 n4 c4]] w fun e w' => e = .returned (.int .i64 (lookF T R H Re Ca S B used cs tr sh rw_)) ∧ Ext w w' := by
  have Hm := Lib.hid hm
  clear hm
  generalize hans : lookF T R H Re Ca S B used cs tr sh rw_ = ans
  have HA := Lib.hid hans
  clear hans
  unfold lookF at HA
  go_enter Try.func81, Try.ntmps81
  go_upto_region 1 with fail
  obtain ⟨w0, hw0, hC, hR, hE, hlt0⟩ := enter2 w (.cells (cfgV T R H Re Ca S B) 23) (.cells #[.slice A1 n1 c1, .slice A2 n2 c2, .slice A3 n3 c3, .slice A4 n4 c4] 48)
  rw [hw0]
  have HE := Lib.hid hE
  have Hm0 := Lib.hid (Hm.out.ext hE)
  obtain ⟨d0, d1, d2, d3, d4, d5, d6⟩ := Lat.cfg hC
  obtain ⟨r0, r1, r2, r3⟩ := Lat.run hR
  obtain ⟨k0, hk0⟩ := lat_self w0
  rw [hk0]
  clear hw0 hC hR hE hk0 hlt0
  go_wp2_with fail
  refine (check_any T R H Re Ca S B _).mono ?_
  rintro e w1 ⟨rfl, e1⟩
  obtain ⟨k1, rfl⟩ := lat_next k0 e1
  clear e1
  by_cases hok : Okay T R H Re Ca S B
  · rw [if_pos hok]
    rw [if_pos hok] at HA
    by_cases hu : 0 ≤ used ∧ used ≤ S
    · rw [if_pos hu] at HA
      obtain ⟨hu0, hu1⟩ := hu
      have hf1 : decide (used < 0) = false := by simpa using hu0
      have hf2 : decide (S < used) = false := by simpa using hu1
      clear hok
      go_wp2_with fail
      refine (hM T R H Re Ca S B used A1 n1 c1 A2 n2 c2 A3 n3 c3 A4 n4 c4 cs tr sh rw_ _ (Hm0.out.ext k1.ok) hbig).mono ?_
      rintro e w2 ⟨q, rfl, hq, e2⟩
      obtain ⟨k2, rfl⟩ := lat_next k1 e2
      have HQ := Lib.hid hq
      clear e2 hq
      cases q with
      | false =>
        rw [if_neg (fun h => by have := HQ.out.2 h; cases this)] at HA
        go_wp2_with fail
        go_ret
        exact ⟨ret_int HA.out, Ext.next HE.out k2.ok⟩
      | true =>
        rw [if_pos (HQ.out.1 rfl)] at HA
        go_wp2_with fail
        go_ret
        exact ⟨ret_int HA.out, Ext.next HE.out k2.ok⟩
    · rw [if_neg hu] at HA
      rcases (by omega : used < 0 ∨ (0 ≤ used ∧ S < used)) with h2 | ⟨h2, h3⟩
      case' inl => have hf1 : decide (used < 0) = true := by simpa using h2
      case' inr =>
        have hf1 : decide (used < 0) = false := by simpa using h2
        have hf2 : decide (S < used) = true := by simpa using h3
      all_goals
        clear hu hok
        go_wp2_with fail
        go_ret
        exact ⟨ret_int HA.out, Ext.next HE.out k1.ok⟩
  · rw [if_neg hok]
    rw [if_neg hok] at HA
    clear hok
    go_wp2_with fail
    go_ret
    exact ⟨ret_int HA.out, Ext.next HE.out k1.ok⟩

set_option maxHeartbeats 2000000 in
theorem refLook_any (T R H Re Ca S B used : Int) (A1 : Option Addr) (n1 c1 : Nat) (A2 : Option Addr) (n2 c2 : Nat) (A3 : Option Addr) (n3 c3 : Nat) (A4 : Option Addr) (n4 c4 : Nat) (cs : List Cl) (tr : List Ac) (sh : List Sh) (rw_ : List Int) (w : World)
    (hm : RunMem w A1 n1 A2 n2 A3 n3 A4 n4 cs tr sh rw_) :
    Calls Try.prog 83 #[(.agg #[.int .i64 T, .int .i64 R, .int .i64 H, .int .i64 Re, .int .i64 Ca, .int .i64 S, .int .i64 B]), .int .i64 used, .agg #[.slice A1 n1 c1, .slice A2 n2 c2, .slice A3 n3 c3, .slice A4 n4 c4]] w fun e w' => e = .returned (.int .i64 (lookF T R H Re Ca S B used cs tr sh rw_)) ∧ Ext w w' := by
  have Hm := Lib.hid hm
  clear hm
  generalize hans : lookF T R H Re Ca S B used cs tr sh rw_ = ans
  have HA := Lib.hid hans
  clear hans
  unfold lookF at HA
  go_enter Try.func83, Try.ntmps83
  go_upto_region 1 with fail
  obtain ⟨w0, hw0, hC, hR, hE, hlt0⟩ := enter2 w (.cells (cfgV T R H Re Ca S B) 23) (.cells #[.slice A1 n1 c1, .slice A2 n2 c2, .slice A3 n3 c3, .slice A4 n4 c4] 48)
  rw [hw0]
  have HE := Lib.hid hE
  have Hm0 := Lib.hid (Hm.out.ext hE)
  obtain ⟨d0, d1, d2, d3, d4, d5, d6⟩ := Lat.cfg hC
  obtain ⟨r0, r1, r2, r3⟩ := Lat.run hR
  obtain ⟨k0, hk0⟩ := lat_self w0
  rw [hk0]
  clear hw0 hC hR hE hk0 hlt0
  go_wp2_with fail
  refine (config_any T R H Re Ca S B _).mono ?_
  rintro e w1 ⟨rfl, e1⟩
  obtain ⟨k1, rfl⟩ := lat_next k0 e1
  clear e1
  by_cases hok : Okay T R H Re Ca S B
  · rw [decide_eq_true hok]
    rw [if_pos hok] at HA
    by_cases hu : 0 ≤ used ∧ used ≤ S
    · rw [if_pos hu] at HA
      obtain ⟨hu0, hu1⟩ := hu
      have hf1 : decide (used < 0) = false := by simpa using hu0
      have hf2 : decide (S < used) = false := by simpa using hu1
      clear hok
      go_wp2_with fail
      refine (refMay_any T R H Re Ca S B used A1 n1 c1 A2 n2 c2 A3 n3 c3 A4 n4 c4 cs tr sh rw_ _ (Hm0.out.ext k1.ok)).mono ?_
      rintro e w2 ⟨q, rfl, hq, e2⟩
      obtain ⟨k2, rfl⟩ := lat_next k1 e2
      have HQ := Lib.hid hq
      clear e2 hq
      cases q with
      | false =>
        rw [if_neg (fun h => by have := HQ.out.2 h; cases this)] at HA
        go_wp2_with fail
        go_ret
        exact ⟨ret_int HA.out, Ext.next HE.out k2.ok⟩
      | true =>
        rw [if_pos (HQ.out.1 rfl)] at HA
        go_wp2_with fail
        go_ret
        exact ⟨ret_int HA.out, Ext.next HE.out k2.ok⟩
    · rw [if_neg hu] at HA
      rcases (by omega : used < 0 ∨ (0 ≤ used ∧ S < used)) with h2 | ⟨h2, h3⟩
      case' inl => have hf1 : decide (used < 0) = true := by simpa using h2
      case' inr =>
        have hf1 : decide (used < 0) = false := by simpa using h2
        have hf2 : decide (S < used) = true := by simpa using h3
      all_goals
        clear hu hok
        go_wp2_with fail
        go_ret
        exact ⟨ret_int HA.out, Ext.next HE.out k1.ok⟩
  · rw [decide_eq_false hok]
    rw [if_neg hok] at HA
    clear hok
    go_wp2_with fail
    go_ret
    exact ⟨ret_int HA.out, Ext.next HE.out k1.ok⟩

set_option maxHeartbeats 2000000 in
theorem ref13Look_any (T R H Re Ca S B used : Int) (A1 : Option Addr) (n1 c1 : Nat) (A2 : Option Addr) (n2 c2 : Nat) (A3 : Option Addr) (n3 c3 : Nat) (A4 : Option Addr) (n4 c4 : Nat) (cs : List Cl) (tr : List Ac) (sh : List Sh) (rw_ : List Int) (w : World)
    (hm : RunMem w A1 n1 A2 n2 A3 n3 A4 n4 cs tr sh rw_) :
    Calls Try.prog 28 #[(.agg #[.int .i64 T, .int .i64 R, .int .i64 H, .int .i64 Re, .int .i64 Ca, .int .i64 S, .int .i64 B]), .int .i64 used, .agg #[.slice A1 n1 c1, .slice A2 n2 c2, .slice A3 n3 c3, .slice A4 n4 c4]] w fun e w' => e = .returned (.int .i64 (lookF T R H Re Ca S B used cs tr sh rw_)) ∧ Ext w w' := by
  have Hm := Lib.hid hm
  clear hm
  go_enter Try.func28, Try.ntmps28
  go_upto_region 1 with fail
  obtain ⟨w0, hw0, hC, hR, hE, hlt0⟩ := enter2 w (.cells (cfgV T R H Re Ca S B) 23) (.cells #[.slice A1 n1 c1, .slice A2 n2 c2, .slice A3 n3 c3, .slice A4 n4 c4] 48)
  rw [hw0]
  have HE := Lib.hid hE
  have Hm0 := Lib.hid (Hm.out.ext hE)
  obtain ⟨d0, d1, d2, d3, d4, d5, d6⟩ := Lat.cfg hC
  obtain ⟨r0, r1, r2, r3⟩ := Lat.run hR
  obtain ⟨k0, hk0⟩ := lat_self w0
  rw [hk0]
  clear hw0 hC hR hE hk0 hlt0
  go_wp2_with fail
  refine (refLook_any T R H Re Ca S B used A1 n1 c1 A2 n2 c2 A3 n3 c3 A4 n4 c4 cs tr sh rw_ _ (Hm0.out.ext k0.ok)).mono ?_
  rintro e w1 ⟨rfl, e1⟩
  obtain ⟨k1, rfl⟩ := lat_next k0 e1
  clear e1
  go_wp2_with fail
  go_ret
  exact ⟨rfl, Ext.next HE.out k1.ok⟩

set_option maxHeartbeats 2000000 in
theorem ref13May_any (T R H Re Ca S B used : Int) (A1 : Option Addr) (n1 c1 : Nat) (A2 : Option Addr) (n2 c2 : Nat) (A3 : Option Addr) (n3 c3 : Nat) (A4 : Option Addr) (n4 c4 : Nat) (cs : List Cl) (tr : List Ac) (sh : List Sh) (rw_ : List Int) (w : World)
    (hm : RunMem w A1 n1 A2 n2 A3 n3 A4 n4 cs tr sh rw_) :
    Calls Try.prog 22 #[(.agg #[.int .i64 T, .int .i64 R, .int .i64 H, .int .i64 Re, .int .i64 Ca, .int .i64 S, .int .i64 B]), .int .i64 used, .agg #[.slice A1 n1 c1, .slice A2 n2 c2, .slice A3 n3 c3, .slice A4 n4 c4]] w (Says (MayOK T R H Re Ca S B used cs tr sh rw_) w) := by
  have Hm := Lib.hid hm
  clear hm
  generalize hmay : MayOK T R H Re Ca S B used cs tr sh rw_ = may
  have HM := Lib.hid hmay
  clear hmay
  go_enter Try.func22, Try.ntmps22
  go_upto_region 1 with fail
  obtain ⟨w0, hw0, hC, hR, hE, hlt0⟩ := enter2 w (.cells (cfgV T R H Re Ca S B) 23) (.cells #[.slice A1 n1 c1, .slice A2 n2 c2, .slice A3 n3 c3, .slice A4 n4 c4] 48)
  rw [hw0]
  have HE := Lib.hid hE
  have Hm0 := Lib.hid (Hm.out.ext hE)
  obtain ⟨d0, d1, d2, d3, d4, d5, d6⟩ := Lat.cfg hC
  obtain ⟨r0, r1, r2, r3⟩ := Lat.run hR
  obtain ⟨k0, hk0⟩ := lat_self w0
  rw [hk0]
  clear hw0 hC hR hE hk0 hlt0
  go_wp2_with fail
  refine (refMay_any T R H Re Ca S B used A1 n1 c1 A2 n2 c2 A3 n3 c3 A4 n4 c4 cs tr sh rw_ _ (Hm0.out.ext k0.ok)).mono ?_
  rintro e w1 ⟨q, rfl, hq, e1⟩
  obtain ⟨k1, rfl⟩ := lat_next k0 e1
  rw [HM.out] at hq
  have HQ := Lib.hid hq
  clear e1 hq
  go_wp2_with fail
  go_ret
  exact ⟨q, rfl, HQ.out, Ext.next HE.out k1.ok⟩

end Go.Proofs.Ytfbacopjookplaa
