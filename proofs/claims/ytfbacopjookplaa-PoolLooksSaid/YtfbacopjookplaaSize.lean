/- The walks of the document's Base, Size and refused, and of word.Size: the sums of the regions' words. -/
import Derived.Test.YtfbacopjookplaaMany
namespace Go.Proofs.Ytfbacopjookplaa
open Go.RowKit

/-- How many words the first n regions have. -/
def sumOf (R H S B : Int) : Nat → Int
  | 0 => 0
  | n + 1 => sumOf R H S B n + manyOf R H S B ((n : Int) + 1)

theorem sumOf_bd (R H S B : Int) (hR : 1 ≤ R) (hR' : R ≤ 16) (hH : 3 ≤ H) (hH' : H ≤ 8) (hS : 1 ≤ S) (hS' : S ≤ 1024) (hB : 1 ≤ B) (hB' : B ≤ 64) : ∀ n : Nat, (n : Int) ≤ sumOf R H S B n ∧ sumOf R H S B n ≤ 1024 * n
  | 0 => by simp [sumOf]
  | n + 1 => by
    have h1 := sumOf_bd R H S B hR hR' hH hH' hS hS' hB hB' n
    have h2 := manyOf_bd R H S B ((n : Int) + 1) hR hR' hH hH' hS hS' hB hB'
    simp only [sumOf]
    omega

theorem base_any (T R H Re Ca S B : Int) (n : Nat) (w : World) (hR : 1 ≤ R) (hR' : R ≤ 16) (hH : 3 ≤ H) (hH' : H ≤ 8) (hS : 1 ≤ S) (hS' : S ≤ 1024) (hB : 1 ≤ B) (hB' : B ≤ 64) (r : Int) (hr : r = n + 1) (hn : n ≤ 20) :
    Calls Try.prog 60 #[(.agg #[.int .i64 T, .int .i64 R, .int .i64 H, .int .i64 Re, .int .i64 Ca, .int .i64 S, .int .i64 B]), .int .i64 r] w fun e w' => e = .returned (.int .i64 (sumOf R H S B n)) ∧ Ext w w' := by
  have hr1 : r ≤ n + 1 := by omega
  have hr2 : (n : Int) + 1 ≤ r := by omega
  clear hr
  go_enter Try.func60, Try.ntmps60
  go_wp2_with fail
  go_loopw [5, 6] (fun s5 s6 wr => ∃ k : Nat, k ≤ n ∧ s5 = .int .i64 (sumOf R H S B k) ∧ s6 = .int .i64 ((k : Int) + 1) ∧ Ext (w.alloc (.cells #[.int .i64 T, .int .i64 R, .int .i64 H, .int .i64 Re, .int .i64 Ca, .int .i64 S, .int .i64 B] 23)) wr) (fun _ s _ => n + 1 - (intOf s).toNat)
  case atStart => exact ⟨0, by omega, rfl, rfl, Ext.rfl' _⟩
  case round =>
    obtain ⟨k, hk, rfl, rfl, he⟩ := hrel
    have hblk := (he.block w.heap.size (by simp)).trans (heap_alloc_new w _)
    have hb := sumOf_bd R H S B hR hR' hH hH' hS hS' hB hB' k
    have hm := manyOf_bd R H S B ((k : Int) + 1) hR hR' hH hH' hS hS' hB hB'
    have hsm : Hid (sumOf R H S B k + manyOf R H S B ((k : Int) + 1) = sumOf R H S B (k + 1)) := rfl
    obtain ⟨c0, c1, c2, c3, c4, c5, c6⟩ := cfgCells hblk
    have He := Lib.hid he
    clear he hblk
    generalize hX : sumOf R H S B k = X at hb hsm
    generalize hY : manyOf R H S B ((k : Int) + 1) = Y at hm hsm
    by_cases hlt : k < n
    · go_wp2_with fail
      refine (refMany_any T R H Re Ca S B _ _ hR hR' hH hH').mono ?_
      rintro e w1 ⟨rfl, e1⟩
      rw [hY]
      have E1 := Lib.hid (Ext.next He.out e1)
      clear e1
      go_wp2_with fail
      go_roundw
      case rel => exact ⟨k + 1, by omega, by rw [← hsm.out], by go_num, E1.out⟩
      case measure => simp [intOf]; omega
    · obtain rfl : n = k := by omega
      go_wp2_with fail
      go_ret
      exact ⟨ret_int hX.symm, Ext.next ((Ext.rfl' w).alloc (Nat.le_refl _) _) He.out⟩

end Go.Proofs.Ytfbacopjookplaa
