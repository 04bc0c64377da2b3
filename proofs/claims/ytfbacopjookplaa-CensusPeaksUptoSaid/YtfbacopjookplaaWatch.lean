/- The watch's object in memory, and the walk of its count. -/
import Derived.Test.YtfbacopjookplaaSlots
import Derived.Test.YtfbacopjookplaaTrace
import Derived.Lib.SliceRun
namespace Go.Proofs.Ytfbacopjookplaa
open Go.RowKit

/-- The watch: twelve values and thirteen numbers. -/
structure WObj (w : World) (b : Nat) (fr : List Value) (pk : List Int) : Prop where
  len1 : fr.length = 12
  len2 : pk.length = 13
  blk : w.heap[b]? = some (.cells (fr ++ pk.map (Value.int .i64)).toArray 155 (0, 0))
theorem WObj.ext {w w' : World} {b : Nat} {fr : List Value} {pk : List Int} (h : WObj w b fr pk) (e : Ext w w') : WObj w' b fr pk := ⟨h.len1, h.len2, ext_blk e h.blk⟩
theorem WObj.only {w w' : World} {b : Nat} {fr : List Value} {pk : List Int} {S : Nat → Prop} (h : WObj w b fr pk) (o : Only S w w') (hs : ¬ S b) : WObj w' b fr pk := ⟨h.len1, h.len2, (o.block b (blk_lt h.blk) hs).trans h.blk⟩
theorem WObj.cell {w : World} {b : Nat} {fr : List Value} {pk : List Int} (h : WObj w b fr pk) {i : Nat} {v : Value} (hv : fr[i]? = some v) : ∀ c : Lat w, c.world.cell? ⟨b, i, none⟩ = some v := by
  have hi := (List.getElem?_eq_some_iff.1 hv).1
  exact Lat.cells h.blk (by simp [List.getElem?_append_left hi, hv])
theorem WObj.num {w : World} {b : Nat} {fr : List Value} {pk : List Int} (h : WObj w b fr pk) {j : Nat} (hj : j < 13) : ∃ x, pk[j]? = some x ∧ ∀ c : Lat w, c.world.cell? ⟨b, 12 + j, none⟩ = some (.int .i64 x) := by
  have hl := h.len2
  refine ⟨pk[j], List.getElem?_eq_getElem _, Lat.cells h.blk ?_⟩
  have h1 := h.len1
  rw [List.getElem?_toArray, List.getElem?_append_right (by omega), h1, Nat.add_sub_cancel_left, List.getElem?_map, List.getElem?_eq_getElem (by omega)]
  rfl
theorem WObj.free {w : World} {b : Nat} {fr : List Value} {pk : List Int} (h : WObj w b fr pk) (i : Nat) : ∀ c : Lat w, c.world.frozen? ⟨b, i, none⟩ = false := Lat.free h.blk i
theorem WObj.set_num {w : World} {b : Nat} {fr : List Value} {pk : List Int} (h : WObj w b fr pk) (j : Nat) (x : Int) : WObj (w.setCell ⟨b, 12 + j, none⟩ (.int .i64 x)) b fr (pk.set j x) ∧ Only (fun q => q = b) w (w.setCell ⟨b, 12 + j, none⟩ (.int .i64 x)) := by
  refine ⟨⟨h.len1, by rw [List.length_set]; exact h.len2, ?_⟩, (Only.refl _ _).setCell _ _ fun _ => rfl⟩
  rw [heap_setCell_same _ _ _ _ _ _ h.blk, List.setIfInBounds_toArray, List.set_append_right _ _ (by have := h.len1; omega), h.len1, Nat.add_sub_cancel_left, List.map_set]
theorem WObj.set_front {w : World} {b : Nat} {fr : List Value} {pk : List Int} (h : WObj w b fr pk) (i : Nat) (hi : i < 12) (v : Value) : WObj (w.setCell ⟨b, i, none⟩ v) b (fr.set i v) pk ∧ Only (fun q => q = b) w (w.setCell ⟨b, i, none⟩ v) := by
  refine ⟨⟨by rw [List.length_set]; exact h.len1, h.len2, ?_⟩, (Only.refl _ _).setCell _ _ fun _ => rfl⟩
  rw [heap_setCell_same _ _ _ _ _ _ h.blk, List.setIfInBounds_toArray, List.set_append_left _ _ (by have := h.len1; omega)]
theorem WObj.zero {b : Nat} {fr : List Value} : ∀ (k j : Nat) (w : World) (pk : List Int), WObj w b fr pk → ∃ pk', WObj (w.setCells b (12 + j) (List.replicate k (.int .i64 0))) b fr pk' ∧ Only (fun q => q = b) w (w.setCells b (12 + j) (List.replicate k (.int .i64 0)))
  | 0, _, w, pk, h => ⟨pk, h, Only.refl _ _⟩
  | k + 1, j, w, pk, h => by
    obtain ⟨h1, o1⟩ := h.set_num j 0
    obtain ⟨pk', h2, o2⟩ := WObj.zero k (j + 1) _ _ h1
    exact ⟨pk', h2, o1.trans o2 fun _ _ hq => hq⟩
theorem zint (w : World) : (zeroValue 3).run Try.prog w = .ok (.int .i64 0) w := by kernel_rfl

/-- What count leaves. -/
def CountOut (w : World) (b : Nat) (fr : List Value) (e : Ending) (w' : World) : Prop := e = .returned (.tuple #[]) ∧ ∃ pk', WObj w' b fr pk' ∧ Only (fun q => q = b) w w'

set_option maxRecDepth 100000 in
set_option maxHeartbeats 4000000 in
theorem count_any (B b p g1 c1 g2 c2 n : Nat) (fr : List Value) (pk st ho : List Int) (w : World) (hW : WObj w b fr pk) (hf : fr[7]? = some (.pointer (some ⟨p, 0, none⟩))) (hS : SlotsObj w B p g1 c1 g2 c2 n st ho) (hst : ∀ x ∈ st, 0 ≤ x ∧ x ≤ 5) (hn : n ≤ 1024) (hb : b ≠ p ∧ b ≠ g1 ∧ b ≠ g2) :
    Calls Try.prog 115 #[.pointer (some ⟨b, 0, none⟩)] w (CountOut w b fr) := by
  have HW := Lib.hid hW
  have HF := Lib.hid hf
  have HS := Lib.hid hS
  have HST := Lib.hid hst
  have HB := Lib.hid hb
  have hcl : ∀ ty, (Builtin.clear_ #[26] ty #[.slice (some ⟨b, 19, none⟩) 6 6]).run Try.prog w = .ok (.tuple #[]) (w.setCells b 19 (List.replicate 6 (.int .i64 0))) := fun ty =>
    Lib.run_clear_slice w 26 3 ty (.int .i64 0) Try.underlying26 zint rfl rfl b 19 6 6 (by omega) (fun j hj => by
      obtain ⟨x, _, hx⟩ := hW.num (j := 7 + j) (by omega)
      have := hx ⟨w, Ext.rfl' w⟩
      rw [show 19 + j = 12 + (7 + j) from by omega, this]
      rfl) (fun j _ => hW.free (19 + j) ⟨w, Ext.rfl' w⟩)
  clear hW hf hS hst hb
  go_enter Try.func115, Try.ntmps115
  go_upto_region 1 with (simp only [hcl])
  obtain ⟨pk1, hW1, o1⟩ : ∃ pk', WObj (w.setCells b 19 [Value.int .i64 0, .int .i64 0, .int .i64 0, .int .i64 0, .int .i64 0, .int .i64 0]) b fr pk' ∧ Only (fun q => q = b) w (w.setCells b 19 [Value.int .i64 0, .int .i64 0, .int .i64 0, .int .i64 0, .int .i64 0, .int .i64 0]) := HW.out.zero 6 7
  clear hcl
  generalize w.setCells b 19 [Value.int .i64 0, .int .i64 0, .int .i64 0, .int .i64 0, .int .i64 0, .int .i64 0] = w1 at *
  have HW1 := Lib.hid hW1
  have HO1 := Lib.hid o1
  have HS1 := Lib.hid (HS.out.only o1 (fun h => HB.out.1 h.symm) (fun h => HB.out.2.1 h.symm) (fun h => HB.out.2.2 h.symm))
  have q7 := hW1.cell HF.out
  obtain ⟨s0, s1⟩ := HS1.out.lat
  obtain ⟨k1, hk1⟩ := lat_self w1
  rw [hk1]
  clear hW1 o1
  go_upto_region 2 with fail
  rw [← hk1]
  clear hk1 q7 s0 s1
  go_loopw [17] (fun s17 wr => ∃ (i : Nat) (pk' : List Int), i ≤ n ∧ s17 = .int .i64 i ∧ Hid (WObj wr b fr pk') ∧ Hid (Only (fun q => q = b) w wr)) (fun s_ _ => n - (intOf s_).toNat)
  case atStart => exact ⟨0, pk1, by omega, rfl, HW1, HO1⟩
  case round =>
    clear HW1 HO1 HS1 k1
    obtain ⟨i, pk', hi, rfl, HWr, hon⟩ := hrel
    have HSr := Lib.hid (HS.out.only hon.out (fun h => HB.out.1 h.symm) (fun h => HB.out.2.1 h.symm) (fun h => HB.out.2.2 h.symm))
    by_cases hlt : i < n
    · have h1 : (i : Int) < (n : Int) := by omega
      have hi0 : (0 : Int) ≤ (i : Int) := by omega
      obtain ⟨x, hx, hcx⟩ := HSr.out.lat1 hlt
      obtain ⟨hx0, hx1⟩ := HST.out x (List.mem_of_getElem? hx)
      obtain ⟨j, rfl⟩ : ∃ j : Nat, x = j := ⟨x.toNat, by omega⟩
      have hj : j < 6 := by omega
      have hj0 : (0 : Int) ≤ (j : Int) := by omega
      have hj1 : (j : Int) < 6 := by omega
      obtain ⟨y, hy, hcy0⟩ := HWr.out.num (j := 7 + j) (by omega)
      have hcy : ∀ c : Lat wr, c.world.cell? ⟨b, 19 + j, none⟩ = some (.int .i64 y) := fun c => by
        have := hcy0 c
        rwa [show 12 + (7 + j) = 19 + j from by omega] at this
      have hfr : ∀ c : Lat wr, c.world.frozen? ⟨b, 19 + j, none⟩ = false := HWr.out.free (19 + j)
      clear hx hx0 hx1 hy hcy0
      obtain ⟨k, hk⟩ := lat_self wr
      rw [hk]
      clear hk
      go_upto_region 4 with fail
      refine wp_region_cls_tail (Ext wr) 10 (Ext.drew1 k.ok) (by kernel_rfl) (by kernel_rfl) ?_
      simp only [List.take_succ_cons, List.take_zero, List.drop_succ_cons, List.drop_zero]
      repeat (go_big_quiet_step (fail))
      refine wpQuiet_nil ?_
      rintro _ ⟨k2, rfl⟩
      go_wp2_with fail
      have hset := (HWr.out.ext k2.ok).set_num (7 + j) (wrap64 (y + 1))
      rw [show 12 + (7 + j) = 19 + j from by omega] at hset
      go_roundw
      case rel => exact ⟨i + 1, _, by omega, by go_num, hset.1, (hon.out.trans (Only.of_ext (S := fun q => q = b) k2.ok) fun _ _ h => h).trans hset.2 fun _ _ h => h⟩
      case measure => simp [intOf]; omega
    · obtain rfl : n = i := by omega
      go_upto_region 7 with fail
      obtain ⟨y, _, hy⟩ := HWr.out.num (j := 0) (by omega)
      obtain ⟨z, _, hz⟩ := HWr.out.num (j := 8) (by omega)
      have hy : ∀ c : Lat wr, c.world.cell? ⟨b, 12, none⟩ = some (.int .i64 y) := hy
      have hz : ∀ c : Lat wr, c.world.cell? ⟨b, 20, none⟩ = some (.int .i64 z) := hz
      have hfr : ∀ c : Lat wr, c.world.frozen? ⟨b, 12, none⟩ = false := HWr.out.free 12
      obtain ⟨k, hk⟩ := lat_self wr
      rw [hk]
      clear hk
      go_cut [] (fun wx => ∃ pk', Hid (WObj wx b fr pk') ∧ Hid (Only (fun q => q = b) w wx))
      case first =>
        by_cases hyz : y < z
        all_goals
          refine wp_region_cls_tail (Ext wr) 13 (Ext.drew1 k.ok) (by kernel_rfl) (by kernel_rfl) ?_
          simp only [List.take_succ_cons, List.take_zero, List.drop_succ_cons, List.drop_zero]
          repeat (go_big_quiet_step (fail))
          refine wpQuiet_nil ?_
          rintro _ ⟨k2, rfl⟩
          go_wp2_with fail
          go_meet
          case rel => exact ⟨_, ((HWr.out.ext k2.ok).set_num 0 _).1, (hon.out.trans (Only.of_ext (S := fun q => q = b) k2.ok) fun _ _ h => h).trans ((HWr.out.ext k2.ok).set_num 0 _).2 fun _ _ h => h⟩
      clear HWr hon hy hz hfr
      obtain ⟨pk', HWr, hon⟩ := hcut
      go_upto_region 8 with fail
      obtain ⟨y, _, hy⟩ := HWr.out.num (j := 1) (by omega)
      obtain ⟨z, _, hz⟩ := HWr.out.num (j := 9) (by omega)
      have hy : ∀ c : Lat wc, c.world.cell? ⟨b, 13, none⟩ = some (.int .i64 y) := hy
      have hz : ∀ c : Lat wc, c.world.cell? ⟨b, 21, none⟩ = some (.int .i64 z) := hz
      have hfr : ∀ c : Lat wc, c.world.frozen? ⟨b, 13, none⟩ = false := HWr.out.free 13
      obtain ⟨k, hk⟩ := lat_self wc
      rw [hk]
      clear hk
      go_cut [] (fun wx => ∃ pk', Hid (WObj wx b fr pk') ∧ Hid (Only (fun q => q = b) w wx))
      case first =>
        by_cases hyz : y < z
        all_goals
          refine wp_region_cls_tail (Ext wc) 13 (Ext.drew1 k.ok) (by kernel_rfl) (by kernel_rfl) ?_
          simp only [List.take_succ_cons, List.take_zero, List.drop_succ_cons, List.drop_zero]
          repeat (go_big_quiet_step (fail))
          refine wpQuiet_nil ?_
          rintro _ ⟨k2, rfl⟩
          go_wp2_with fail
          go_meet
          case rel => exact ⟨_, ((HWr.out.ext k2.ok).set_num 1 _).1, (hon.out.trans (Only.of_ext (S := fun q => q = b) k2.ok) fun _ _ h => h).trans ((HWr.out.ext k2.ok).set_num 1 _).2 fun _ _ h => h⟩
      clear HWr hon hy hz hfr
      obtain ⟨pk', HWr, hon⟩ := hcut
      go_upto_region 9 with fail
      obtain ⟨y, _, hy⟩ := HWr.out.num (j := 2) (by omega)
      obtain ⟨z, _, hz⟩ := HWr.out.num (j := 10) (by omega)
      have hy : ∀ c : Lat wc, c.world.cell? ⟨b, 14, none⟩ = some (.int .i64 y) := hy
      have hz : ∀ c : Lat wc, c.world.cell? ⟨b, 22, none⟩ = some (.int .i64 z) := hz
      have hfr : ∀ c : Lat wc, c.world.frozen? ⟨b, 14, none⟩ = false := HWr.out.free 14
      obtain ⟨k, hk⟩ := lat_self wc
      rw [hk]
      clear hk
      go_cut [] (fun wx => ∃ pk', Hid (WObj wx b fr pk') ∧ Hid (Only (fun q => q = b) w wx))
      case first =>
        by_cases hyz : y < z
        all_goals
          refine wp_region_cls_tail (Ext wc) 13 (Ext.drew1 k.ok) (by kernel_rfl) (by kernel_rfl) ?_
          simp only [List.take_succ_cons, List.take_zero, List.drop_succ_cons, List.drop_zero]
          repeat (go_big_quiet_step (fail))
          refine wpQuiet_nil ?_
          rintro _ ⟨k2, rfl⟩
          go_wp2_with fail
          go_meet
          case rel => exact ⟨_, ((HWr.out.ext k2.ok).set_num 2 _).1, (hon.out.trans (Only.of_ext (S := fun q => q = b) k2.ok) fun _ _ h => h).trans ((HWr.out.ext k2.ok).set_num 2 _).2 fun _ _ h => h⟩
      clear HWr hon hy hz hfr
      obtain ⟨pk', HWr, hon⟩ := hcut
      go_upto_region 10 with fail
      obtain ⟨y, _, hy⟩ := HWr.out.num (j := 3) (by omega)
      obtain ⟨z, _, hz⟩ := HWr.out.num (j := 11) (by omega)
      have hy : ∀ c : Lat wc, c.world.cell? ⟨b, 15, none⟩ = some (.int .i64 y) := hy
      have hz : ∀ c : Lat wc, c.world.cell? ⟨b, 23, none⟩ = some (.int .i64 z) := hz
      have hfr : ∀ c : Lat wc, c.world.frozen? ⟨b, 15, none⟩ = false := HWr.out.free 15
      obtain ⟨k, hk⟩ := lat_self wc
      rw [hk]
      clear hk
      go_cut [] (fun wx => ∃ pk', Hid (WObj wx b fr pk') ∧ Hid (Only (fun q => q = b) w wx))
      case first =>
        by_cases hyz : y < z
        all_goals
          refine wp_region_cls_tail (Ext wc) 13 (Ext.drew1 k.ok) (by kernel_rfl) (by kernel_rfl) ?_
          simp only [List.take_succ_cons, List.take_zero, List.drop_succ_cons, List.drop_zero]
          repeat (go_big_quiet_step (fail))
          refine wpQuiet_nil ?_
          rintro _ ⟨k2, rfl⟩
          go_wp2_with fail
          go_meet
          case rel => exact ⟨_, ((HWr.out.ext k2.ok).set_num 3 _).1, (hon.out.trans (Only.of_ext (S := fun q => q = b) k2.ok) fun _ _ h => h).trans ((HWr.out.ext k2.ok).set_num 3 _).2 fun _ _ h => h⟩
      clear HWr hon hy hz hfr
      obtain ⟨pk', HWr, hon⟩ := hcut
      go_upto_region 11 with fail
      obtain ⟨y, _, hy⟩ := HWr.out.num (j := 4) (by omega)
      obtain ⟨z, _, hz⟩ := HWr.out.num (j := 12) (by omega)
      have hy : ∀ c : Lat wc, c.world.cell? ⟨b, 16, none⟩ = some (.int .i64 y) := hy
      have hz : ∀ c : Lat wc, c.world.cell? ⟨b, 24, none⟩ = some (.int .i64 z) := hz
      have hfr : ∀ c : Lat wc, c.world.frozen? ⟨b, 16, none⟩ = false := HWr.out.free 16
      obtain ⟨k, hk⟩ := lat_self wc
      rw [hk]
      clear hk
      by_cases hyz : y < z
      all_goals
        refine wp_region_cls_tail (Ext wc) 13 (Ext.drew1 k.ok) (by kernel_rfl) (by kernel_rfl) ?_
        simp only [List.take_succ_cons, List.take_zero, List.drop_succ_cons, List.drop_zero]
        repeat (go_big_quiet_step (fail))
        refine wpQuiet_nil ?_
        rintro _ ⟨k2, rfl⟩
        go_wp2_with fail
        go_end0
        exact ⟨rfl, _, ((HWr.out.ext k2.ok).set_num 4 _).1, (hon.out.trans (Only.of_ext (S := fun q => q = b) k2.ok) fun _ _ h => h).trans ((HWr.out.ext k2.ok).set_num 4 _).2 fun _ _ h => h⟩

end Go.Proofs.Ytfbacopjookplaa
