/- cmp.Compare of ints, of texts and of floats, walked. -/
import Derived.Test.YtjemlenjencbkaaBase
import Derived.Test.YtjemlenjencbkaaProg
import Derived.Test.YtjemlenjencbkaaHeapPure
namespace Go.Proofs.Ytjemlenjencbkaa
open Go.RowKit

/-- A float is stored into a cell. -/
@[go_sem] theorem run_store_float {P : Program} (w : World) (a : Addr) (m : Mode) (k : FloatKind) (b : Nat) : (store a (.float k b) m).run P w = stored P w a (.float k b) m := run_store P w a _ m rfl

theorem compareII_any (a b : Int) (w : World) : Calls Try.prog 32 #[.int .i64 a, .int .i64 b] w fun e w' => e = .returned (.int .i64 (cmpInt a b)) ∧ w' = w := by
  have ha : (a != a) = false := by simp
  have hb : (b != b) = false := by simp
  by_cases h1 : a < b
  · have e := Lib.hid (show cmpInt a b = -1 by simp [cmpInt, h1])
    go_enter Try.func32, Try.ntmps32
    go_wp2
    go_ret
    exact ⟨ret_int e.out.symm, rfl⟩
  · have h1' : b ≤ a := by omega
    by_cases h2 : b < a
    · have e := Lib.hid (show cmpInt a b = 1 by simp [cmpInt, h1, h2])
      clear h1
      go_enter Try.func32, Try.ntmps32
      go_wp2
      go_ret
      exact ⟨ret_int e.out.symm, rfl⟩
    · have e := Lib.hid (show cmpInt a b = 0 by simp [cmpInt, h1, h2])
      have h2' : a ≤ b := by omega
      clear h1 h2
      go_enter Try.func32, Try.ntmps32
      go_wp2
      go_ret
      exact ⟨ret_int e.out.symm, rfl⟩

def cmpStr (a b : ByteArray) : Int := if Op.bytesLess a.toList b.toList = true then -1 else if (a.toList == b.toList) = true then 0 else 1

theorem compareSI_any (a b : ByteArray) (w : World) : Calls Try.prog 33 #[.string a, .string b] w fun e w' => e = .returned (.int .i64 (cmpStr a b)) ∧ w' = w := by
  cases h1 : Op.bytesLess a.toList b.toList with
  | true =>
    have e := Lib.hid (show cmpStr a b = -1 by simp [cmpStr, h1])
    go_enter Try.func33, Try.ntmps33
    go_wp2
    go_ret
    exact ⟨ret_int e.out.symm, rfl⟩
  | false =>
    cases h2 : (a.toList == b.toList) with
    | false =>
      have e := Lib.hid (show cmpStr a b = 1 by simp only [cmpStr, h1, h2]; rfl)
      go_enter Try.func33, Try.ntmps33
      go_wp2
      go_ret
      exact ⟨ret_int e.out.symm, rfl⟩
    | true =>
      have e := Lib.hid (show cmpStr a b = 0 by simp only [cmpStr, h1, h2]; rfl)
      go_enter Try.func33, Try.ntmps33
      go_wp2
      go_ret
      exact ⟨ret_int e.out.symm, rfl⟩

/-- Is a float none? -/
def nanF (a : Nat) : Bool := FloatKind.f64.format.order a a != some .eq
def cmpF (a b : Nat) : Int :=
  if nanF a = true then (if nanF b = true then 0 else -1) else if nanF b = true then 1 else if (FloatKind.f64.format.order a b == some .lt) = true then -1 else if (FloatKind.f64.format.order a b == some .gt) = true then 1 else 0

theorem compareFI_any (a b : Nat) (w : World) : Calls Try.prog 34 #[.float .f64 a, .float .f64 b] w fun e w' => e = .returned (.int .i64 (cmpF a b)) ∧ w' = w := by
  cases h1 : nanF a with
  | true =>
    cases h2 : nanF b with
    | true =>
      have e := Lib.hid (show cmpF a b = 0 by simp [cmpF, h1, h2])
      unfold nanF at h1 h2
      go_enter Try.func34, Try.ntmps34
      go_wp2
      go_ret
      exact ⟨ret_int e.out.symm, rfl⟩
    | false =>
      have e := Lib.hid (show cmpF a b = -1 by simp [cmpF, h1, h2])
      unfold nanF at h1 h2
      go_enter Try.func34, Try.ntmps34
      go_wp2
      go_ret
      exact ⟨ret_int e.out.symm, rfl⟩
  | false =>
    cases h2 : nanF b with
    | true =>
      have e := Lib.hid (show cmpF a b = 1 by simp [cmpF, h1, h2])
      unfold nanF at h1 h2
      go_enter Try.func34, Try.ntmps34
      go_wp2
      go_ret
      exact ⟨ret_int e.out.symm, rfl⟩
    | false =>
      cases h3 : (FloatKind.f64.format.order a b == some .lt) with
      | true =>
        have e := Lib.hid (show cmpF a b = -1 by simp only [cmpF, h1, h2, h3]; rfl)
        unfold nanF at h1 h2
        go_enter Try.func34, Try.ntmps34
        go_wp2
        go_ret
        exact ⟨ret_int e.out.symm, rfl⟩
      | false =>
        cases h4 : (FloatKind.f64.format.order a b == some .gt) with
        | true =>
          have e := Lib.hid (show cmpF a b = 1 by simp only [cmpF, h1, h2, h3, h4]; rfl)
          unfold nanF at h1 h2
          go_enter Try.func34, Try.ntmps34
          go_wp2
          go_ret
          exact ⟨ret_int e.out.symm, rfl⟩
        | false =>
          have e := Lib.hid (show cmpF a b = 0 by simp only [cmpF, h1, h2, h3, h4]; rfl)
          unfold nanF at h1 h2
          go_enter Try.func34, Try.ntmps34
          go_wp2
          go_ret
          exact ⟨ret_int e.out.symm, rfl⟩

end Go.Proofs.Ytjemlenjencbkaa
