/- The walk of word.Addr at a place whose second number is 0. -/
import Derived.Test.YtfbacopjookplaaAddr
import Derived.Test.YtfbacopjookplaaLook
import Derived.Test.YtfbacopjookplaaCls
namespace Go.Proofs.Ytfbacopjookplaa
open Go.RowKit

theorem orderOf_cases (r : Int) : orderOf r = 0 ∨ orderOf r = 1 ∨ orderOf r = 2 ∧ r = 9 := by
  unfold orderOf
  split
  · exact .inl rfl
  · split
    · exact .inr (.inr ⟨rfl, by assumption⟩)
    · exact .inr (.inl rfl)

set_option maxHeartbeats 1000000 in
theorem addr_any (T R H Re Ca S B : Int) (hok : Okay T R H Re Ca S B) (n : Nat) (r i : Int) (hr : r = n + 1) (hn : n ≤ 12) (h0 : 0 ≤ i) (h1 : i < manyOf R H S B r) (h9 : r = 9 → i = 0) (w : World) :
    Calls Try.prog 96 #[(.agg #[.int .i64 T, .int .i64 R, .int .i64 H, .int .i64 Re, .int .i64 Ca, .int .i64 S, .int .i64 B]), .agg #[.int .i64 r, .int .i64 i, .int .i64 0]] w fun e w' => e = .returned (.tuple #[.int .i64 (sumOf R H S B n + i), .int .i64 0]) ∧ Ext w w' := by
  have hok' := hok
  unfold Okay at hok'
  obtain ⟨_, _, hR, hR', hH, hH', _, _, _, _, hS, hS', hB, hB'⟩ := hok'
  have hmr := manyOf_bd R H S B r hR hR' hH hH' hS hS' hB hB'
  have hr1 : r ≤ n + 1 := by omega
  have hr2 : (n : Int) + 1 ≤ r := by omega
  clear hr
  have Hok := Lib.hid hok
  have H9 := Lib.hid h9
  clear hok h9
  generalize hM : manyOf R H S B r = M at h1 hmr
  have HM := Lib.hid hM
  clear hM
  have hMi : decide (M ≤ i) = false := by simp; omega
  have hH0 : decide (H ≤ 0) = false := by simp; omega
  have hR0 : decide (R ≤ 0) = false := by simp; omega
  have hneg : decide (i < 0) = false := by simp; omega
  go_enter Try.func96, Try.ntmps96
  go_wp2_with fail
  obtain ⟨w0, hw0, hX, hY, hE, hlt⟩ := enter2 w (.cells (cfgV T R H Re Ca S B) 23) (.cells #[.int .i64 r, .int .i64 i, .int .i64 0] 166)
  rw [hw0]
  have HX := Lib.hid hX
  have HY := Lib.hid hY
  obtain ⟨c0, c1, c2, c3, c4, c5, c6⟩ := Lat.cfg hX
  obtain ⟨p0, p1, p2⟩ := Lat.cells3 hY
  have n0 := Lat.lt (b := w.heap.size) (by omega) (w0 := w0)
  have n1 := Lat.lt (b := w.heap.size + 1) (by omega) (w0 := w0)
  clear hw0 hX hY
  have HE := Lib.hid hE
  clear hE
  refine (check_any T R H Re Ca S B _).mono ?_
  rintro e w1 ⟨rfl, e1⟩
  rw [if_pos Hok.out]
  obtain ⟨k1, rfl⟩ := lat_of e1
  clear e1
  go_wp2_with fail
  refine (look_any r _ (by omega) (by omega)).mono ?_
  rintro e w2 ⟨s, kd, rfl, e2⟩
  obtain ⟨k2, rfl⟩ := lat_next k1 e2
  clear e2
  generalize hO : orderOf r = o
  have HO := Lib.hid hO
  clear hO
  go_upto_region 7 with fail
  obtain ⟨w3, hw3, hZ, hE3, hlt3⟩ := enter1 k2.world (.cells #[.string s, .int .i64 kd, .int .i64 o] 204)
  rw [hw3]
  clear hw3
  have E3 := Lib.hid (Ext.next k2.ok hE3)
  clear hE3 c0 c1 c2 c3 c4 c5 c6 p0 p1 p2 n0 n1
  have hsz := E3.out.size
  have hsw := HE.out.size
  generalize hg : k2.world.heap.size = g at *
  obtain ⟨c0, c1, c2, c3, c4, c5, c6⟩ := Lat.cfg (ext_blk E3.out HX.out)
  obtain ⟨p0, p1, p2⟩ := Lat.cells3 (ext_blk E3.out HY.out)
  obtain ⟨g0, g1, g2⟩ := Lat.cells3 hZ
  have n0 := Lat.lt (b := w.heap.size) (by omega) (w0 := w3)
  have n1 := Lat.lt (b := w.heap.size + 1) (by omega) (w0 := w3)
  have n2 := Lat.lt (b := g) (by omega) (w0 := w3)
  clear hZ hlt3 hsz hsw hlt
  obtain ⟨k3, hk3⟩ := lat_self w3
  rw [hk3]
  clear hk3
  have hmany : ∀ w, Calls Try.prog 135 #[(.agg #[.int .i64 T, .int .i64 R, .int .i64 H, .int .i64 Re, .int .i64 Ca, .int .i64 S, .int .i64 B]), .int .i64 r] w fun e w' => e = .returned (.int .i64 M) ∧ Ext w w' := fun w => HM.out ▸ many_any T R H Re Ca S B r w hR hR' hH hH'
  have Hmany := Lib.hid hmany
  clear hmany
  have hcase : o = 0 ∨ o = 1 ∨ o = 2 ∧ i = 0 := by
    rcases orderOf_cases r with ho | ho | ⟨ho, hr9⟩
    · exact .inl (HO.out.symm.trans ho)
    · exact .inr (.inl (HO.out.symm.trans ho))
    · exact .inr (.inr ⟨HO.out.symm.trans ho, H9.out hr9⟩)
  obtain ⟨I, hI⟩ : ∃ I : Int, I = i := ⟨i, rfl⟩
  have hI0 : 0 ≤ I := by omega
  have hI1 : I ≤ 1024 := by omega
  have HI := Lib.hid hI
  clear hI
  rcases hcase with rfl | rfl | ⟨rfl, rfl⟩
  all_goals
    refine wp_region_cls (Ext w3) (Ext.drew1 k3.ok) (by kernel_rfl) (by kernel_rfl) ?_
    repeat (go_big_quiet_step (exact calls_cls (keeps_ext _) (Hmany.out _)))
    refine wpQuiet_nil ?_
    rintro _ ⟨k4, rfl⟩
    go_wp2_with fail
    go_loopw [9, 10] (fun s9 s10 wr => ∃ (k : Nat) (c : Lat w3), k ≤ n ∧ s9 = .int .i64 (sumOf R H S B k + I) ∧ s10 = .int .i64 ((k : Int) + 1) ∧ wr = c.world) (fun _ s _ => n + 1 - (intOf s).toNat)
    case atStart => exact ⟨0, k4, by omega, by rw [HI.out]; simp [sumOf], rfl, rfl⟩
    case round =>
      obtain ⟨k, c, hk, rfl, rfl, rfl⟩ := hrel
      have hb := sumOf_bd R H S B hR hR' hH hH' hS hS' hB hB' k
      have hm := manyOf_bd R H S B ((k : Int) + 1) hR hR' hH hH' hS hS' hB hB'
      have hsm : Hid (sumOf R H S B k + manyOf R H S B ((k : Int) + 1) = sumOf R H S B (k + 1)) := rfl
      generalize hX : sumOf R H S B k = X at hb hsm
      generalize hY : manyOf R H S B ((k : Int) + 1) = Y at hm hsm
      by_cases hlt : k < n
      · go_wp2_with fail
        refine (many_any T R H Re Ca S B _ _ hR hR' hH hH').mono ?_
        rintro e w5 ⟨rfl, e5⟩
        obtain ⟨c5', rfl⟩ := lat_next c e5
        rw [hY]
        clear e5
        go_wp2_with fail
        go_roundw
        case rel => exact ⟨k + 1, c5', by omega, by rw [← hsm.out]; go_num, by go_num, rfl⟩
        case measure => simp [intOf]; omega
      · obtain rfl : n = k := by omega
        go_wp2_with fail
        go_ret2
        rw [hX, HI.out]
        exact ⟨rfl, Ext.next (Ext.next HE.out E3.out) c.ok⟩

end Go.Proofs.Ytfbacopjookplaa
