/- What the small heaps of ScheduleNil come to: three texts, and four floats with NaN. No program's text stands here. -/
import Derived.Test.YtjemlenjencbkaaHeapCmp
namespace Go.Proofs.Ytjemlenjencbkaa
open Go.RowKit

theorem less_irrefl : ∀ l : List UInt8, Op.bytesLess l l = false
  | [] => rfl
  | a :: l => by simp [Op.bytesLess, less_irrefl l]
theorem less_asymm : ∀ {x y : List UInt8}, Op.bytesLess x y = true → Op.bytesLess y x = false
  | [], [], h => by simp [Op.bytesLess] at h
  | [], b :: y, _ => rfl
  | a :: x, [], h => by simp [Op.bytesLess] at h
  | a :: x, b :: y, h => by
    simp only [Op.bytesLess, Bool.or_eq_true, decide_eq_true_eq, Bool.and_eq_true, beq_iff_eq] at h
    simp only [Op.bytesLess, Bool.or_eq_false_iff, decide_eq_false_iff_not, Bool.and_eq_false_iff, beq_eq_false_iff_ne]
    rcases h with h | ⟨rfl, h⟩
    · refine ⟨?_, .inl ?_⟩
      · rw [UInt8.lt_iff_toNat_lt] at *; omega
      · rintro rfl; rw [UInt8.lt_iff_toNat_lt] at h; omega
    · exact ⟨by rw [UInt8.lt_iff_toNat_lt]; omega, .inr (less_asymm h)⟩

theorem cmpStr_self (a : ByteArray) : cmpStr a a = 0 := by simp [cmpStr, less_irrefl]
theorem cmpStr_less {a b : ByteArray} (h : Op.bytesLess a.toList b.toList = true) : cmpStr a b = -1 := by simp only [cmpStr, h]; rfl
theorem cmpStr_more {a b : ByteArray} (h : Op.bytesLess b.toList a.toList = true) : cmpStr a b = 1 := by
  have h1 := less_asymm h
  have h2 : (a.toList == b.toList) = false := by
    cases hh : (a.toList == b.toList) with
    | false => rfl
    | true => rw [beq_iff_eq] at hh; rw [hh, less_irrefl] at h; cases h
  simp only [cmpStr, h1, h2]; rfl
theorem cmpStr_ge {a b : ByteArray} (h : Op.bytesLess a.toList b.toList = false) : 0 ≤ cmpStr a b := by
  simp only [cmpStr, h]
  split
  · contradiction
  · split <;> decide

/-- Three texts: which stands first. -/
theorem str_first (a b : ByteArray) :
    (nPut cmpStr (nPut cmpStr (nPut cmpStr ([] : List (Nd ByteArray Int)) (a, 1, 0)) (b, 2, 1)) (a, 3, 2))[0]? = some (if Op.bytesLess b.toList a.toList = true then (b, 2, 1) else (a, 1, 0)) := by
  have e1 : nPut cmpStr ([] : List (Nd ByteArray Int)) (a, 1, 0) = [(a, 1, 0)] := rfl
  rw [e1]
  cases h : Op.bytesLess b.toList a.toList with
  | true =>
    have h1 := cmpStr_less h
    have h2 := cmpStr_more h
    have e2 : nPut cmpStr [(a, (1 : Int), (0 : Int))] (b, 2, 1) = [(b, 2, 1), (a, 1, 0)] := by
      simp [nPut, nUp, nAhead, h1, nSwap]
    rw [e2]
    simp [nPut, nUp, nAhead, h2]
  | false =>
    have h1 := cmpStr_ge h
    have h2 := cmpStr_self a
    have e2 : nPut cmpStr [(a, (1 : Int), (0 : Int))] (b, 2, 1) = [(a, 1, 0), (b, 2, 1)] := by
      have : ¬ cmpStr b a < 0 := by omega
      simp [nPut, nUp, nAhead, this]
    rw [e2]
    simp [nPut, nUp, nAhead, h2]

/-! Floats. -/
theorem dbl_sw : Ieee.double.signWeight = 9223372036854775808 := rfl
theorem dbl_bin : Ieee.double.binade = 4503599627370496 := rfl
theorem dbl_inf : Ieee.double.infRung = 9218868437227405312 := rfl
theorem dbl_lp : Ieee.double.leastPlace = -1074 := rfl

theorem nan_read (t : Nat) : nanF ((Question.nanBits .f64 0 0).cut t) = true := by
  have e : FloatKind.f64.format.order ((Question.nanBits .f64 0 0).cut t) ((Question.nanBits .f64 0 0).cut t) = none := by
    have hr : Ieee.double.read ((Question.nanBits .f64 0 0).cut t) = .nan (((Question.nanBits .f64 0 0).cut t) / 2 ^ 63 % 2 == 1) (1 + t / 2 % (2 ^ 52 - 1)) := by
      have h1 : ((Question.nanBits .f64 0 0).cut t) % 9223372036854775808 = 9218868437227405312 + 1 + t / 2 % (2 ^ 52 - 1) := by
        simp only [Question.cut]; omega
      unfold Ieee.Format.read
      simp only [dbl_sw, dbl_bin, dbl_inf, h1]
      rw [if_neg (by omega), if_neg (by omega), if_neg (by omega)]
      exact congrArg (Ieee.Datum.nan _) (by omega)
    show (Ieee.double.read _).order (Ieee.double.read _) = none
    rw [hr]
    rfl
  unfold nanF
  rw [e]
  rfl

theorem log2_bd {n : Nat} (h0 : n ≠ 0) (h : n ≤ 2 ^ 63) : n.log2 ≤ 63 := by
  have := (Nat.log2_lt h0 (k := 64)).2 (by omega)
  omega
theorem shl_bd {n d : Nat} (h : n.log2 + d = 52) : n <<< d < 2 ^ 53 := by
  rw [Nat.shiftLeft_eq]
  have h1 : n < 2 ^ (n.log2 + 1) := Nat.lt_log2_self
  have h2 : 2 ^ 53 = 2 ^ (n.log2 + 1) * 2 ^ d := by rw [← Nat.pow_add]; congr 1; omega
  rw [h2]
  exact Nat.mul_lt_mul_of_pos_right h1 (Nat.two_pow_pos d)
theorem div_bd {n d : Nat} (h : n.log2 = 52 + d) : n / 2 ^ d < 2 ^ 53 := by
  have h1 : n < 2 ^ (n.log2 + 1) := Nat.lt_log2_self
  refine Nat.div_lt_of_lt_mul ?_
  rw [← Nat.pow_add]
  refine Nat.lt_of_lt_of_le h1 (Nat.pow_le_pow_right (by omega) (by omega))

theorem cut_bd (neg : Bool) (n d : Nat) : Ieee.Toward.even.cut neg n d ≤ n / (1 <<< min d (n.log2 + 2)) + 1 := by
  unfold Ieee.Toward.cut
  simp only
  refine Nat.add_le_add_left ?_ _
  exact Bool.toNat_le _

theorem kept_bd (neg : Bool) (mag : Nat) (h0 : mag ≠ 0) (h : mag ≤ 2 ^ 63) : ∃ rung, Ieee.double.nearest neg mag 0 = Ieee.double.word neg rung ∧ rung ≤ 1087 * 2 ^ 52 := by
  unfold Ieee.Format.nearest
  rw [if_neg h0]
  have hl := log2_bd h0 h
  have hfb : Ieee.double.fractionBits = 52 := rfl
  simp only [dbl_lp, dbl_bin, dbl_inf, hfb]
  refine ⟨_, rfl, Nat.le_trans (Nat.min_le_left _ _) ?_⟩
  have hlast : max ((0 : Int) + (mag.log2 : Int) - ((52 : Nat) : Int)) (-1074) = (mag.log2 : Int) - 52 := by omega
  rw [hlast]
  rcases Nat.lt_or_ge mag.log2 53 with hlt | hge
  · have e1 : ((0 : Int) - ((mag.log2 : Int) - 52)).toNat = 52 - mag.log2 := by omega
    have e2 : ((mag.log2 : Int) - 52 - 0).toNat = 0 := by omega
    rw [e1, e2]
    have hc := cut_bd neg (mag <<< (52 - mag.log2)) 0
    have hs := shl_bd (n := mag) (d := 52 - mag.log2) (by omega)
    rw [Nat.zero_min, Nat.shiftLeft_zero, Nat.div_one] at hc
    have : ((mag.log2 : Int) - 52 - -1074).toNat ≤ 1074 := by omega
    omega
  · have e1 : ((0 : Int) - ((mag.log2 : Int) - 52)).toNat = 0 := by omega
    have e2 : ((mag.log2 : Int) - 52 - 0).toNat = mag.log2 - 52 := by omega
    rw [e1, e2, Nat.shiftLeft_zero]
    have hc := cut_bd neg mag (mag.log2 - 52)
    have hs := div_bd (n := mag) (d := mag.log2 - 52) (by omega)
    rw [Nat.min_eq_left (by omega), Nat.shiftLeft_eq, Nat.one_mul] at hc
    have : ((mag.log2 : Int) - 52 - -1074).toNat ≤ 1085 := by omega
    omega

/-- A float that is an int's is a number of few digits. -/
theorem float_read (n : Int) (h0 : -9223372036854775808 ≤ n) (h1 : n ≤ 9223372036854775807) : ∃ s m j, Ieee.double.read (FloatKind.f64.nearest n) = .number s m j ∧ m < 2 ^ 53 ∧ j ≤ 12 := by
  have hr : ∃ rung, FloatKind.f64.nearest n = Ieee.double.word (decide (n < 0)) rung ∧ rung ≤ 1087 * 2 ^ 52 := by
    show ∃ rung, Ieee.double.nearest (decide (n < 0)) n.natAbs 0 = _ ∧ _
    by_cases hz : n.natAbs = 0
    · refine ⟨0, ?_, by omega⟩
      unfold Ieee.Format.nearest
      rw [if_pos hz]
    · exact kept_bd _ _ hz (by omega)
  obtain ⟨rung, hw, hb⟩ := hr
  rw [hw]
  have hmod : (Ieee.double.word (decide (n < 0)) rung) % 9223372036854775808 = rung := by
    unfold Ieee.Format.word
    rw [dbl_sw]
    split <;> omega
  unfold Ieee.Format.read
  simp only [dbl_sw, dbl_bin, dbl_inf, dbl_lp, hmod]
  by_cases hc : rung < 4503599627370496
  · rw [if_pos hc]
    exact ⟨_, _, _, rfl, by omega, by omega⟩
  · rw [if_neg hc, if_pos (by omega)]
    exact ⟨_, _, _, rfl, by omega, by omega⟩

theorem big_read : Ieee.double.read 18318360957983683996 = .number true 6724873095247260 944 := by decide +kernel

theorem big_less {s : Bool} {m : Nat} {j : Int} (hm : m < 2 ^ 53) (hj : j ≤ 12) :
    (Ieee.Datum.number true 6724873095247260 944).order (.number s m j) = some .lt ∧ (Ieee.Datum.number s m j).order (.number true 6724873095247260 944) = some .gt := by
  have hb : min (944 : Int) j = j := by omega
  have hb' : min j (944 : Int) = j := by omega
  have hk : 2 ^ 53 ≤ 6724873095247260 <<< (944 - j).toNat := by
    rw [Nat.shiftLeft_eq]
    obtain ⟨k, hk⟩ : ∃ k, (944 - j).toNat = k + 1 := ⟨(944 - j).toNat - 1, by omega⟩
    rw [hk, Nat.pow_succ]
    have : 1 ≤ 2 ^ k := Nat.two_pow_pos k
    have h2 : 6724873095247260 * 1 ≤ 6724873095247260 * (2 ^ k * 2) := Nat.mul_le_mul_left _ (by omega)
    have h3 : 6724873095247260 * (1 * 2) ≤ 6724873095247260 * (2 ^ k * 2) := Nat.mul_le_mul_left _ (by omega)
    omega
  have hs1 : ∀ s, Ieee.signed s m (j - j).toNat = if s then -(m : Int) else (m : Int) := fun s => by
    have : (j - j).toNat = 0 := by omega
    unfold Ieee.signed
    rw [this, Nat.shiftLeft_zero]
  have hlt : Ieee.signed true 6724873095247260 (944 - j).toNat < Ieee.signed s m (j - j).toNat := by
    rw [hs1]
    have h1 : Ieee.signed true 6724873095247260 (944 - j).toNat = -((6724873095247260 <<< (944 - j).toNat : Nat) : Int) := rfl
    rw [h1]
    generalize 6724873095247260 <<< (944 - j).toNat = q at hk
    split <;> omega
  constructor
  · unfold Ieee.Datum.order
    simp only [hb]
    rw [show compare (Ieee.signed true 6724873095247260 (944 - j).toNat) (Ieee.signed s m (j - j).toNat) = .lt from by
      show compareOfLessAndEq _ _ = _
      unfold compareOfLessAndEq
      rw [if_pos hlt]]
  · unfold Ieee.Datum.order
    simp only [hb']
    rw [show compare (Ieee.signed s m (j - j).toNat) (Ieee.signed true 6724873095247260 (944 - j).toNat) = .gt from by
      show compareOfLessAndEq _ _ = _
      unfold compareOfLessAndEq
      rw [if_neg (by omega), if_neg (by omega)]]

/-- How the four keys compare. -/
theorem cmp_big_int (n : Int) (h0 : -9223372036854775808 ≤ n) (h1 : n ≤ 9223372036854775807) :
    nanF (FloatKind.f64.nearest n) = false ∧ nanF 18318360957983683996 = false ∧ cmpF (FloatKind.f64.nearest n) 18318360957983683996 = 1 := by
  obtain ⟨s, m, j, hr, hm, hj⟩ := float_read n h0 h1
  have o2 := (big_less (s := s) hm hj).2
  have p2 : FloatKind.f64.format.order (FloatKind.f64.nearest n) 18318360957983683996 = some .gt := by
    show (Ieee.double.read _).order (Ieee.double.read _) = _
    rw [hr, big_read]; exact o2
  have q1 : nanF (FloatKind.f64.nearest n) = false := by
    have : FloatKind.f64.format.order (FloatKind.f64.nearest n) (FloatKind.f64.nearest n) = some .eq := by
      show (Ieee.double.read _).order (Ieee.double.read _) = _
      rw [hr]
      unfold Ieee.Datum.order
      simp only [Int.min_self]
      rw [show compare (Ieee.signed s m (j - j).toNat) (Ieee.signed s m (j - j).toNat) = .eq from by
        show compareOfLessAndEq _ _ = _
        unfold compareOfLessAndEq
        rw [if_neg (by omega), if_pos rfl]]
    unfold nanF
    rw [this]; rfl
  have q2 : nanF 18318360957983683996 = false := by
    have : FloatKind.f64.format.order 18318360957983683996 18318360957983683996 = some .eq := by
      show (Ieee.double.read _).order (Ieee.double.read _) = _
      rw [big_read]; decide +kernel
    unfold nanF
    rw [this]; rfl
  refine ⟨q1, q2, ?_⟩
  unfold cmpF
  rw [q1, q2, p2]; rfl

/-- Four floats come out: the one NaN, the other, the great negative one, the int. -/
theorem float_heap {F N1 M N2 : Nat} (hF : nanF F = false) (hM : nanF M = false) (h1 : nanF N1 = true) (h2 : nanF N2 = true) (c2 : cmpF F M = 1) :
    let l4 := nPut cmpF (nPut cmpF (nPut cmpF (nPut cmpF ([] : List (Nd Nat Int)) (F, 1, 0)) (N1, 2, 1)) (M, 3, 2)) (N2, 4, 3)
    l4[0]? = some (N1, 2, 1) ∧ (nRest cmpF l4)[0]? = some (N2, 4, 3) ∧ (nRest cmpF (nRest cmpF l4))[0]? = some (M, 3, 2) ∧ (nRest cmpF (nRest cmpF (nRest cmpF l4)))[0]? = some (F, 1, 0) ∧ nRest cmpF (nRest cmpF (nRest cmpF (nRest cmpF l4))) = [] ∧
      (nPut cmpF ([] : List (Nd Nat Int)) (F, 1, 0)).length = 1 ∧ (nPut cmpF (nPut cmpF ([] : List (Nd Nat Int)) (F, 1, 0)) (N1, 2, 1)).length = 2 ∧ (nPut cmpF (nPut cmpF (nPut cmpF ([] : List (Nd Nat Int)) (F, 1, 0)) (N1, 2, 1)) (M, 3, 2)).length = 3 := by
  have k1 : cmpF N1 F = -1 := by unfold cmpF; rw [h1, hF]; rfl
  have k2 : cmpF F N1 = 1 := by unfold cmpF; rw [h1, hF]; rfl
  have k3 : cmpF N1 M = -1 := by unfold cmpF; rw [h1, hM]; rfl
  have k4 : cmpF M N1 = 1 := by unfold cmpF; rw [h1, hM]; rfl
  have k5 : cmpF N2 F = -1 := by unfold cmpF; rw [h2, hF]; rfl
  have k6 : cmpF F N2 = 1 := by unfold cmpF; rw [h2, hF]; rfl
  have k7 : cmpF N2 M = -1 := by unfold cmpF; rw [h2, hM]; rfl
  have k8 : cmpF M N2 = 1 := by unfold cmpF; rw [h2, hM]; rfl
  have k9 : cmpF N1 N2 = 0 := by unfold cmpF; rw [h1, h2]; rfl
  have k10 : cmpF N2 N1 = 0 := by unfold cmpF; rw [h1, h2]; rfl
  have e1 : nPut cmpF ([] : List (Nd Nat Int)) (F, 1, 0) = [(F, 1, 0)] := rfl
  have e2 : nPut cmpF [(F, (1 : Int), (0 : Int))] (N1, 2, 1) = [(N1, 2, 1), (F, 1, 0)] := by simp [nPut, nUp, nAhead, k1, nSwap]
  have e3 : nPut cmpF [(N1, (2 : Int), (1 : Int)), (F, 1, 0)] (M, 3, 2) = [(N1, 2, 1), (F, 1, 0), (M, 3, 2)] := by simp [nPut, nUp, nAhead, k4]
  have e4 : nPut cmpF [(N1, (2 : Int), (1 : Int)), (F, 1, 0), (M, 3, 2)] (N2, 4, 3) = [(N1, 2, 1), (N2, 4, 3), (M, 3, 2), (F, 1, 0)] := by simp [nPut, nUp, nAhead, k5, k10, nSwap]
  have e5 : nRest cmpF [(N1, (2 : Int), (1 : Int)), (N2, 4, 3), (M, 3, 2), (F, 1, 0)] = [(N2, 4, 3), (F, 1, 0), (M, 3, 2)] := by simp [nRest, nDown, nBest, nAhead, nSwap, k5, k8]
  have e6 : nRest cmpF [(N2, (4 : Int), (3 : Int)), (F, 1, 0), (M, 3, 2)] = [(M, 3, 2), (F, 1, 0)] := by simp [nRest, nDown, nBest, nAhead, c2]
  have e7 : nRest cmpF [(M, (3 : Int), (2 : Int)), (F, 1, 0)] = [(F, 1, 0)] := by simp [nRest, nDown, nBest]
  have e8 : nRest cmpF [(F, (1 : Int), (0 : Int))] = [] := by simp [nRest, nDown]
  simp only [e1, e2, e3, e4, e5, e6, e7, e8]
  simp

end Go.Proofs.Ytjemlenjencbkaa
