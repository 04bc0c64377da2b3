/- The walks of word.Size, word.look and word.Addr for the places whose second number is 0. -/
import Derived.Test.YtfbacopjookplaaCheck
import Derived.Test.YtfbacopjookplaaSize
namespace Go.Proofs.Ytfbacopjookplaa
open Go.RowKit

theorem size_any (T R H Re Ca S B : Int) (w : World) :
    Calls Try.prog 94 #[(.agg #[.int .i64 T, .int .i64 R, .int .i64 H, .int .i64 Re, .int .i64 Ca, .int .i64 S, .int .i64 B])] w fun e w' => e = .returned (if Okay T R H Re Ca S B then .tuple #[.int .i64 (sumOf R H S B 13), .int .i64 0] else .tuple #[.int .i64 0, .int .i64 1]) ∧ Ext w w' := by
  by_cases hok : Okay T R H Re Ca S B
  · have hok' := hok
    unfold Okay at hok'
    obtain ⟨_, _, hR, hR', hH, hH', _, _, _, _, hS, hS', hB, hB'⟩ := hok'
    rw [if_pos hok]
    go_enter Try.func94, Try.ntmps94
    go_wp2_with fail
    refine (check_any T R H Re Ca S B _).mono ?_
    rintro e w1 ⟨rfl, e1⟩
    rw [if_pos hok]
    have e1' := Ext.next ((Ext.rfl' w).alloc (Nat.le_refl _) _) e1
    have hblk := (e1.block w.heap.size (by simp)).trans (heap_alloc_new w _)
    have hsz := e1.size
    simp only [World.size_alloc] at hsz
    have E1 := Lib.hid e1'
    clear e1 e1'
    have Hblk := Lib.hid hblk
    clear hblk
    have Hok := Lib.hid hok
    clear hok
    go_wp2_with fail
    go_loopw [5, 6] (fun s5 s6 wr => ∃ k : Nat, k ≤ 13 ∧ s5 = .int .i64 (sumOf R H S B k) ∧ s6 = .int .i64 ((k : Int) + 1) ∧ Ext w1 wr) (fun _ s _ => 14 - (intOf s).toNat)
    case atStart => exact ⟨0, by omega, rfl, rfl, Ext.rfl' _⟩
    case round =>
      obtain ⟨k, hk, rfl, rfl, he⟩ := hrel
      have hb := sumOf_bd R H S B hR hR' hH hH' hS hS' hB hB' k
      have hm := manyOf_bd R H S B ((k : Int) + 1) hR hR' hH hH' hS hS' hB hB'
      have hsm : Hid (sumOf R H S B k + manyOf R H S B ((k : Int) + 1) = sumOf R H S B (k + 1)) := rfl
      obtain ⟨c0, c1, c2, c3, c4, c5, c6⟩ := cfgCells ((he.block w.heap.size (by omega)).trans Hblk.out)
      have He := Lib.hid he
      clear he
      generalize hX : sumOf R H S B k = X at hb hsm
      generalize hY : manyOf R H S B ((k : Int) + 1) = Y at hm hsm
      by_cases hlt : k < 13
      · go_wp2_with fail
        refine (many_any T R H Re Ca S B _ _ hR hR' hH hH').mono ?_
        rintro e w2 ⟨rfl, e2⟩
        rw [hY]
        have E2 := Lib.hid (Ext.next He.out e2)
        clear e2
        go_wp2_with fail
        go_roundw
        case rel => exact ⟨k + 1, by omega, by rw [← hsm.out], by go_num, E2.out⟩
        case measure => simp [intOf]; omega
      · obtain rfl : k = 13 := by omega
        go_wp2_with fail
        go_ret2
        rw [hX]
        exact ⟨rfl, Ext.next E1.out He.out⟩
  · rw [if_neg hok]
    go_enter Try.func94, Try.ntmps94
    go_wp2_with fail
    refine (check_any T R H Re Ca S B _).mono ?_
    rintro e w1 ⟨rfl, e1⟩
    rw [if_neg hok]
    have E1 := Lib.hid (Ext.next ((Ext.rfl' w).alloc (Nat.le_refl _) _) e1)
    clear e1
    go_wp2_with fail
    go_ret2
    exact ⟨rfl, E1.out⟩

end Go.Proofs.Ytfbacopjookplaa
