/- cmp.Compare of ints, walked. -/
import Derived.Test.YtjemlenjencbkaaBase
import Derived.Test.YtjemlenjencbkaaProg
import Derived.Test.YtjemlenjencbkaaHeapPure
namespace Go.Proofs.Ytjemlenjencbkaa
open Go.RowKit

theorem compareII_any (a b : Int) (w : World) : Calls Try.prog 32 #[.int .i64 a, .int .i64 b] w fun e w' => e = .returned (.int .i64 (cmpInt a b)) ∧ w' = w := by
  have ha : (a != a) = false := by simp
  have hb : (b != b) = false := by simp
  by_cases h1 : a < b
  · have e := Lib.hid (show cmpInt a b = -1 by simp [cmpInt, h1])
    go_enter Try.func32, Try.ntmps32
    go_wp2
    go_ret
    exact ⟨ret_int e.out.symm, rfl⟩
  · have h1' : b ≤ a := by omega
    by_cases h2 : b < a
    · have e := Lib.hid (show cmpInt a b = 1 by simp [cmpInt, h1, h2])
      clear h1
      go_enter Try.func32, Try.ntmps32
      go_wp2
      go_ret
      exact ⟨ret_int e.out.symm, rfl⟩
    · have e := Lib.hid (show cmpInt a b = 0 by simp [cmpInt, h1, h2])
      have h2' : a ≤ b := by omega
      clear h1 h2
      go_enter Try.func32, Try.ntmps32
      go_wp2
      go_ret
      exact ⟨ret_int e.out.symm, rfl⟩

end Go.Proofs.Ytjemlenjencbkaa
