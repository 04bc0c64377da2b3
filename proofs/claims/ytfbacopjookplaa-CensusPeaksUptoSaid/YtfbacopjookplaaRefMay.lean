/- The walk of the document's May: whether a run's parts go together. -/
import Derived.Test.YtfbacopjookplaaCalls
import Derived.Test.YtfbacopjookplaaTrace
import Derived.Test.YtfbacopjookplaaShifts
namespace Go.Proofs.Ytfbacopjookplaa
open Go.RowKit

/-- A run's parts go together. -/
def MayOK (T R H Re Ca S B used : Int) (cs : List Cl) (tr : List Ac) (sh : List Sh) (rw_ : List Int) : Prop :=
  Okay T R H Re Ca S B ∧ (0 ≤ used ∧ used ≤ S) ∧ CallsOK T cs ∧ traceF cs (-1) (firstL (sumOf R H S B 13).toNat (sumOf R H S B 9).toNat S.toNat used.toNat) tr = some rw_ ∧ ShiftsF cs tr S.toNat (-1) (-1) (beginS S.toNat used.toNat) sh

theorem Sizes.may {R H S B : Int} {n b s : Nat} (h : Sizes R H S B n b s) : (sumOf R H S B 13).toNat = n ∧ (sumOf R H S B 9).toNat = b ∧ S.toNat = s := by
  have h1 := h.size
  have h2 := h.base
  have h3 := h.slots
  omega

set_option maxHeartbeats 2000000 in
theorem refMay_any (T R H Re Ca S B used : Int)
    (A1 : Option Addr) (n1 c1 : Nat) (A2 : Option Addr) (n2 c2 : Nat) (A3 : Option Addr) (n3 c3 : Nat) (A4 : Option Addr) (n4 c4 : Nat) (cs : List Cl) (tr : List Ac) (sh : List Sh) (rw_ : List Int) (w : World)
    (hm : RunMem w A1 n1 A2 n2 A3 n3 A4 n4 cs tr sh rw_) :
    Calls Try.prog 75 #[(.agg #[.int .i64 T, .int .i64 R, .int .i64 H, .int .i64 Re, .int .i64 Ca, .int .i64 S, .int .i64 B]), .int .i64 used, .agg #[.slice A1 n1 c1, .slice A2 n2 c2, .slice A3 n3 c3, .slice A4 n4 c4]] w
      (Says (MayOK T R H Re Ca S B used cs tr sh rw_) w) := by
  have Hm := Lib.hid hm
  clear hm
  generalize hmay : MayOK T R H Re Ca S B used cs tr sh rw_ = may
  have HM := Lib.hid hmay
  clear hmay
  go_enter Try.func75, Try.ntmps75
  go_wp2_with fail
  obtain ⟨w0, hw0, hC, hR, hE, hlt0⟩ := enter2 w (.cells (cfgV T R H Re Ca S B) 23) (.cells #[.slice A1 n1 c1, .slice A2 n2 c2, .slice A3 n3 c3, .slice A4 n4 c4] 48)
  rw [hw0]
  have HE := Lib.hid hE
  have Hm0 := Lib.hid (Hm.out.ext hE)
  obtain ⟨d0, d1, d2, d3, d4, d5, d6⟩ := Lat.cfg hC
  obtain ⟨r0, r1, r2, r3⟩ := Lat.run hR
  obtain ⟨k0, hk0⟩ := lat_self w0
  rw [hk0]
  clear hw0 hC hR hE hk0
  refine (config_any T R H Re Ca S B _).mono ?_
  rintro e w1 ⟨rfl, e1⟩
  obtain ⟨k1, rfl⟩ := lat_next k0 e1
  clear e1
  by_cases hok : Okay T R H Re Ca S B
  · have hd : decide (Okay T R H Re Ca S B) = true := by simpa using hok
    rw [hd]
    have Hok := Lib.hid hok
    obtain ⟨n, b, s, hsz, hs1, hs2⟩ := sizes_of hok
    have hT : 1 ≤ T ∧ T ≤ 16 := by unfold Okay at hok; omega
    obtain ⟨hT1, hT2⟩ := hT
    have Hsz := Lib.hid hsz
    have hS : S = s := hsz.slots
    subst hS
    clear hok hd hsz
    by_cases hu : 0 ≤ used ∧ used ≤ s
    · obtain ⟨hu0, hu1⟩ := hu
      obtain ⟨u, rfl⟩ : ∃ u : Nat, used = u := ⟨used.toNat, by omega⟩
      have hus : u ≤ s := by omega
      have HMM : Hid (may ↔ CallsOK T cs ∧ traceF cs (-1) (firstL n b s u) tr = some rw_ ∧ ShiftsF cs tr s (-1) (-1) (beginS s u) sh) := by
        show _ ↔ _
        rw [← HM.out, MayOK, Hsz.out.may.1, Hsz.out.may.2.1, Hsz.out.may.2.2, Int.toNat_natCast]
        exact ⟨fun h => h.2.2, fun h => ⟨Hok.out, ⟨by omega, by omega⟩, h⟩⟩
      have hf1 : decide ((0 : Int) ≤ (u : Int)) = true := by simp
      have hf2 : decide (u ≤ s) = true := by simpa using hus
      go_wp2_with fail
      refine (calls_any T R H Re Ca s B hT1 hT2 A1 n1 c1 cs _ (Hm0.out.calls.ext k1.ok) Hm.out.big1).mono ?_
      rintro e w2 ⟨q, rfl, hq, e2⟩
      obtain ⟨k2, rfl⟩ := lat_next k1 e2
      have HQ := Lib.hid hq
      clear e2 hq
      cases q with
      | false =>
        have HB : Hid (¬ may) := fun h => by have := HQ.out.2 (HMM.out.1 h).1; cases this
        go_wp2_with fail
        go_ret
        exact says_no HB.out (Ext.next HE.out k2.ok)
      | true =>
        have HC := Lib.hid (HQ.out.1 rfl)
        clear HQ
        go_wp2_with fail
        refine (trace_any T R H Re Ca s B Hok.out n b s Hsz.out u hus A1 n1 c1 A2 n2 c2 A3 n3 c3 A4 n4 c4 cs tr sh rw_ _ (Hm0.out.ext k2.ok) HC.out.1).mono ?_
        rintro e w3 ⟨q, rfl, hq, e3⟩
        obtain ⟨k3, rfl⟩ := lat_next k2 e3
        have HQ := Lib.hid hq
        clear e3 hq
        cases q with
        | false =>
          have HB : Hid (¬ may) := fun h => by have := HQ.out.2 (HMM.out.1 h).2.1; cases this
          go_wp2_with fail
          go_ret
          exact says_no HB.out (Ext.next HE.out k3.ok)
        | true =>
          have HT := Lib.hid (HQ.out.1 rfl)
          clear HQ
          go_wp2_with fail
          refine (shifts_any T R H Re Ca s B s rfl hs1 hs2 u A1 n1 c1 A2 n2 c2 A3 n3 c3 A4 n4 c4 cs tr sh rw_ _ (Hm0.out.ext k3.ok) HC.out.1).mono ?_
          rintro e w4 ⟨q, rfl, hq, e4⟩
          obtain ⟨k4, rfl⟩ := lat_next k3 e4
          have HQ : Hid (q = true ↔ may) := hq.trans ⟨fun h => HMM.out.2 ⟨HC.out, HT.out, h⟩, fun h => (HMM.out.1 h).2.2⟩
          clear e4 hq
          go_wp2_with fail
          go_ret
          exact ⟨q, rfl, HQ.out, Ext.next HE.out k4.ok⟩
    · have HB : Hid (¬ may) := fun h => by
        have h2 : MayOK T R H Re Ca s B used cs tr sh rw_ := by rw [HM.out]; exact h
        exact hu h2.2.1
      rcases (by omega : used < 0 ∨ (0 ≤ used ∧ (s : Int) < used)) with h2 | ⟨h2, h3⟩
      case' inl => have hf1 : decide (0 ≤ used) = false := by simp; omega
      case' inr =>
        have hf1 : decide (0 ≤ used) = true := by simp; omega
        have hf2 : decide (used ≤ (s : Int)) = false := by simp; omega
      all_goals
        clear hu
        go_wp2_with fail
        go_ret
        exact says_no HB.out (Ext.next HE.out k1.ok)
  · have hd : decide (Okay T R H Re Ca S B) = false := by simpa using hok
    rw [hd]
    have HB : Hid (¬ may) := fun h => by
      have h2 : MayOK T R H Re Ca S B used cs tr sh rw_ := by rw [HM.out]; exact h
      exact hok h2.1
    clear hok hd
    go_wp2_with fail
    go_ret
    exact says_no HB.out (Ext.next HE.out k1.ok)

end Go.Proofs.Ytfbacopjookplaa
