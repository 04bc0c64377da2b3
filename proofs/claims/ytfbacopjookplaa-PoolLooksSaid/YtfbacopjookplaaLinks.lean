/- The walks of word.Unlink and Unhead and of the document's IsLink, LinkIndex, LinkMark, IsHead, Fits: the halves of a word. -/
import Derived.Test.YtfbacopjookplaaProg
import Derived.Test.YtfbacopjookplaaBase
import Derived.Laws.BitsAllLaws
namespace Go.Proofs.Ytfbacopjookplaa
open Go.RowKit

theorem and_low (x : Int) (h0 : 0 ≤ x) (h1 : x ≤ 18446744073709551615) : bits .and .u64 x 4294967295 = x % 4294967296 := by
  rw [u64_and x 4294967295 h0 (by omega) (by omega) (by omega)]
  rw [show (4294967295 : Int).toNat = 2 ^ 32 - 1 from rfl, Nat.and_two_pow_sub_one_eq_mod]
  rw [show (2 : Nat) ^ 32 = 4294967296 from rfl]
  omega
theorem and_mark (x : Int) (h0 : 0 ≤ x) (h1 : x < 8589934592) : (bits .and .u64 x 4294967296 != 0) = decide (4294967296 ≤ x) := by
  rw [u64_and x 4294967296 h0 (by omega) (by omega) (by omega)]
  rw [show (4294967296 : Int).toNat = 2 ^ 32 from rfl]
  have hd := Nat.and_div_two_pow (a := x.toNat) (b := 2 ^ 32) (n := 32)
  have hm := Nat.and_mod_two_pow (a := x.toNat) (b := 2 ^ 32) (n := 32)
  rw [show (2 : Nat) ^ 32 / 2 ^ 32 = 1 from rfl, Nat.and_one_is_mod] at hd
  rw [show (2 : Nat) ^ 32 % 2 ^ 32 = 0 from rfl, Nat.and_zero] at hm
  generalize x.toNat &&& 2 ^ 32 = y at hd hm
  rw [show (2 : Nat) ^ 32 = 4294967296 from rfl] at hd hm
  by_cases h : 4294967296 ≤ x
  · have : y ≠ 0 := by omega
    simp [this, h]
  · have : y = 0 := by omega
    simp [this, h]

/-- What a word taken apart answers: its slot, its mark, no error; or the error. -/
def unlinked (x : Int) : Value := if x < 8589934592 ∧ x % 4294967296 ≤ 2147483647 then .tuple #[.int .i64 (x % 4294967296 - 1), .bool (decide (4294967296 ≤ x)), .int .i64 0] else .tuple #[.int .i64 0, .bool false, .int .i64 10]

theorem unlink_any (x : Int) (w : World) (h0 : 0 ≤ x) (h1 : x ≤ 18446744073709551615) :
    Calls Try.prog 95 #[.int .u64 x] w fun e w' => e = .returned (unlinked x) ∧ w' = w := by
  have hl := and_low x h0 h1
  by_cases hx : x < 8589934592
  · have hm := and_mark x h0 hx
    go_enter Try.func95, Try.ntmps95
    go_wp2_with fail
    · go_ret3
      exact ⟨ret_val (if_neg (by omega)).symm, rfl⟩
    · go_ret3
      exact ⟨ret_val (if_pos ⟨hx, by assumption⟩).symm, rfl⟩
  · go_enter Try.func95, Try.ntmps95
    go_wp2_with fail
    go_ret3
    exact ⟨ret_val (if_neg (by omega)).symm, rfl⟩

theorem isLink_any (x : Int) (w : World) (h0 : 0 ≤ x) (h1 : x ≤ 18446744073709551615) :
    Calls Try.prog 61 #[.int .u64 x] w fun e w' => e = .returned (.bool (decide (x < 8589934592 ∧ x % 4294967296 ≤ 2147483647))) ∧ w' = w := by
  go_enter Try.func61, Try.ntmps61
  go_wp2_with fail
  all_goals
    go_ret
    simp_all
    try omega

theorem linkIndex_any (x : Int) (w : World) (h0 : 0 ≤ x) (h1 : x ≤ 18446744073709551615) :
    Calls Try.prog 63 #[.int .u64 x] w fun e w' => e = .returned (.int .i64 (x % 4294967296 - 1)) ∧ w' = w := by
  go_enter Try.func63, Try.ntmps63
  go_wp2_with fail
  go_ret
  exact ⟨rfl, rfl⟩

theorem linkMark_any (x : Int) (w : World) (h0 : 0 ≤ x) (h1 : x ≤ 18446744073709551615) :
    Calls Try.prog 62 #[.int .u64 x] w fun e w' => e = .returned (.bool (x / 4294967296 % 2 == 1)) ∧ w' = w := by
  go_enter Try.func62, Try.ntmps62
  go_wp2_with fail
  go_ret
  exact ⟨rfl, rfl⟩

theorem isHead_any (x : Int) (w : World) (h0 : 0 ≤ x) (h1 : x ≤ 18446744073709551615) :
    Calls Try.prog 98 #[.int .u64 x] w fun e w' => e = .returned (.bool (decide (x % 4294967296 ≤ 2147483647))) ∧ w' = w := by
  go_enter Try.func98, Try.ntmps98
  go_wp2_with fail
  go_ret
  exact ⟨rfl, rfl⟩

/-- What the free list's head taken apart answers. -/
def unheaded (x : Int) : Value := if x % 4294967296 ≤ 2147483647 then .tuple #[.int .u32 (x / 4294967296), .int .i64 (x % 4294967296 - 1), .int .i64 0] else .tuple #[.int .u32 0, .int .i64 0, .int .i64 10]

theorem unhead_any (x : Int) (w : World) (h0 : 0 ≤ x) (h1 : x ≤ 18446744073709551615) :
    Calls Try.prog 46 #[.int .u64 x] w fun e w' => e = .returned (unheaded x) ∧ w' = w := by
  have hl := and_low x h0 h1
  have hx : x / 4294967296 ≤ 4294967295 := by omega
  have hx0 : 0 ≤ x / 4294967296 := by omega
  go_enter Try.func46, Try.ntmps46
  go_wp2_with fail
  refine (unlink_any (x % 4294967296) _ (by omega) (by omega)).mono ?_
  rintro e w1 ⟨rfl, rfl⟩
  by_cases hlt : x % 4294967296 ≤ 2147483647
  · rw [show unlinked (x % 4294967296) = _ from if_pos ⟨by omega, by omega⟩, show x % 4294967296 % 4294967296 = x % 4294967296 from by omega]
    go_wp2_with fail
    go_ret3
    exact ⟨ret_val (if_pos hlt).symm, rfl⟩
  · rw [show unlinked (x % 4294967296) = _ from if_neg (by omega)]
    go_wp2_with fail
    go_ret3
    exact ⟨ret_val (if_neg (by omega)).symm, rfl⟩

theorem kind_spare (w : World) : Calls Try.prog 137 #[.int .i64 10] w fun e w' => e = .returned (.int .i64 2) ∧ w' = w := by
  go_enter Try.func137, Try.ntmps137
  go_wp2_with fail
  go_ret
  exact ⟨rfl, rfl⟩

theorem fits_spare (x : Int) (w : World) (h0 : 0 ≤ x) (h1 : x ≤ 18446744073709551615) :
    Calls Try.prog 99 #[.int .i64 10, .int .u64 x] w fun e w' => e = .returned (.bool (decide (x ≤ 2147483647))) ∧ w' = w := by
  go_enter Try.func99, Try.ntmps99
  go_wp2_with fail
  refine (kind_spare _).mono ?_
  rintro e w1 ⟨rfl, rfl⟩
  go_wp2_with fail
  refine (isLink_any x _ h0 h1).mono ?_
  rintro e w1 ⟨rfl, rfl⟩
  go_wp2_with fail
  · refine (linkMark_any x _ h0 h1).mono ?_
    rintro e w2 ⟨rfl, rfl⟩
    go_wp2_with fail
    all_goals
      go_ret
      refine ⟨ret_bool ?_, rfl⟩
      rw [Bool.eq_iff_iff]
      simp
      omega
  · go_ret
    refine ⟨ret_bool ?_, rfl⟩
    rw [Bool.eq_iff_iff]
    simp
    omega

end Go.Proofs.Ytfbacopjookplaa
