/- The walks of slices.ContainsFunc over the holds, with the closure of changes: whether some hold is of a slot and Linked. -/
import Derived.Test.YtfbacopjookplaaWatch
import Derived.Test.YtfbacopjookplaaRight
import Derived.Test.YtfbacopjookplaaAwkA
import Derived.Deep.RegionHeld3
import Derived.Test.YtfbacopjookplaaLinks
namespace Go.Proofs.Ytfbacopjookplaa
open Go.RowKit

/-- How many slots are in a state. -/
def cntF (st : List Int) (s : Int) : Int := (st.filter (fun x => decide (x = s))).length
def mxF (a b : Int) : Int := if a < b then b else a
theorem mxF_lt {a b : Int} (h : a < b) : mxF a b = b := if_pos h
theorem mxF_ge {a b : Int} (h : ¬ a < b) : mxF a b = a := if_neg h
def cntsF (st : List Int) : List Int := [cntF st 0, cntF st 1, cntF st 2, cntF st 3, cntF st 4, cntF st 5]
/-- The peaks behind a count. -/
def pkF (P st : List Int) : List Int := match P with
  | [a0, a1, a2, a3, a4, a5, a6] => [mxF a0 (cntF st 1), mxF a1 (cntF st 2), mxF a2 (cntF st 3), mxF a3 (cntF st 4), mxF a4 (cntF st 5), a5, a6]
  | P => P
theorem cntF_le (st : List Int) (s : Int) : 0 ≤ cntF st s ∧ cntF st s ≤ st.length := by
  have := List.length_filter_le (fun x => decide (x = s)) st
  unfold cntF
  omega
theorem cntF_snoc (st : List Int) (x s : Int) : cntF (st ++ [x]) s = if x = s then cntF st s + 1 else cntF st s := by
  unfold cntF
  rw [List.filter_append]
  by_cases h : x = s
  · simp [h]
  · simp [h]
theorem cnts_step {st : List Int} {i j n : Nat} (hl : st.length = n) (hn : n ≤ 1024) (hx : st[i]? = some (j : Int)) (hj : j < 6) {y : Int} (P : List Int) (hP : P.length = 7) (hy : (P ++ cntsF (st.take i))[7 + j]? = some y) :
    (P ++ cntsF (st.take i)).set (7 + j) (wrap64 (y + 1)) = P ++ cntsF (st.take (i + 1)) := by
  have hs : st.take (i + 1) = st.take i ++ [(j : Int)] := by rw [List.take_add_one, hx]; rfl
  have hb : ∀ s, 0 ≤ cntF (st.take i) s ∧ cntF (st.take i) s ≤ 1024 := fun s => by
    have := cntF_le (st.take i) s
    have h2 : (st.take i).length ≤ 1024 := by simp; omega
    omega
  rw [List.getElem?_append_right (by omega), hP, Nat.add_sub_cancel_left] at hy
  rw [List.set_append_right _ _ (by omega), hP, Nat.add_sub_cancel_left, hs]
  congr 1
  rcases (by omega : j = 0 ∨ j = 1 ∨ j = 2 ∨ j = 3 ∨ j = 4 ∨ j = 5) with rfl | rfl | rfl | rfl | rfl | rfl
  · obtain rfl : cntF (st.take i) 0 = y := Option.some.inj hy
    have := hb 0
    have e : wrap64 (cntF (st.take i) 0 + 1) = cntF (st.take i) 0 + 1 := IntWalk.wrap64_in _ (by omega)
    simp only [cntsF, cntF_snoc, e]
    rfl
  · obtain rfl : cntF (st.take i) 1 = y := Option.some.inj hy
    have := hb 1
    have e : wrap64 (cntF (st.take i) 1 + 1) = cntF (st.take i) 1 + 1 := IntWalk.wrap64_in _ (by omega)
    simp only [cntsF, cntF_snoc, e]
    rfl
  · obtain rfl : cntF (st.take i) 2 = y := Option.some.inj hy
    have := hb 2
    have e : wrap64 (cntF (st.take i) 2 + 1) = cntF (st.take i) 2 + 1 := IntWalk.wrap64_in _ (by omega)
    simp only [cntsF, cntF_snoc, e]
    rfl
  · obtain rfl : cntF (st.take i) 3 = y := Option.some.inj hy
    have := hb 3
    have e : wrap64 (cntF (st.take i) 3 + 1) = cntF (st.take i) 3 + 1 := IntWalk.wrap64_in _ (by omega)
    simp only [cntsF, cntF_snoc, e]
    rfl
  · obtain rfl : cntF (st.take i) 4 = y := Option.some.inj hy
    have := hb 4
    have e : wrap64 (cntF (st.take i) 4 + 1) = cntF (st.take i) 4 + 1 := IntWalk.wrap64_in _ (by omega)
    simp only [cntsF, cntF_snoc, e]
    rfl
  · obtain rfl : cntF (st.take i) 5 = y := Option.some.inj hy
    have := hb 5
    have e : wrap64 (cntF (st.take i) 5 + 1) = cntF (st.take i) 5 + 1 := IntWalk.wrap64_in _ (by omega)
    simp only [cntsF, cntF_snoc, e]
    rfl
theorem WObj.zeros {b : Nat} {fr : List Value} {w : World} {P C : List Int} (hP : P.length = 7) (hC : C.length = 6) (h : WObj w b fr (P ++ C)) : WObj (w.setCells b 19 (List.replicate 6 (.int .i64 0))) b fr (P ++ cntsF []) ∧ Only (fun q => q = b) w (w.setCells b 19 (List.replicate 6 (.int .i64 0))) := by
  obtain ⟨p0, p1, p2, p3, p4, p5, p6, rfl⟩ : ∃ p0 p1 p2 p3 p4 p5 p6, P = [p0, p1, p2, p3, p4, p5, p6] := by
    match P, hP with
    | [a0, a1, a2, a3, a4, a5, a6], _ => exact ⟨_, _, _, _, _, _, _, rfl⟩
  obtain ⟨c0, c1, c2, c3, c4, c5, rfl⟩ : ∃ c0 c1 c2 c3 c4 c5, C = [c0, c1, c2, c3, c4, c5] := by
    match C, hC with
    | [a0, a1, a2, a3, a4, a5], _ => exact ⟨_, _, _, _, _, _, rfl⟩
  obtain ⟨h1, o1⟩ := h.set_num 7 0
  obtain ⟨h2, o2⟩ := h1.set_num 8 0
  obtain ⟨h3, o3⟩ := h2.set_num 9 0
  obtain ⟨h4, o4⟩ := h3.set_num 10 0
  obtain ⟨h5, o5⟩ := h4.set_num 11 0
  obtain ⟨h6, o6⟩ := h5.set_num 12 0
  exact ⟨h6, ((((o1.trans o2 fun _ _ h => h).trans o3 fun _ _ h => h).trans o4 fun _ _ h => h).trans o5 fun _ _ h => h).trans o6 fun _ _ h => h⟩

/-- What count leaves, to the number. -/
def CountsOut (w : World) (b : Nat) (fr : List Value) (P st : List Int) (e : Ending) (w' : World) : Prop := e = .returned (.tuple #[]) ∧ WObj w' b fr (pkF P st ++ cntsF st) ∧ Only (fun q => q = b) w w'

set_option maxRecDepth 100000 in
set_option maxHeartbeats 4000000 in
theorem count_all (B b p g1 c1 g2 c2 n : Nat) (fr : List Value) (P C st ho : List Int) (w : World) (hP : P.length = 7) (hC : C.length = 6) (hW : WObj w b fr (P ++ C)) (hf : fr[7]? = some (.pointer (some ⟨p, 0, none⟩))) (hS : SlotsObj w B p g1 c1 g2 c2 n st ho) (hst : ∀ x ∈ st, 0 ≤ x ∧ x ≤ 5) (hn : n ≤ 1024) (hb : b ≠ p ∧ b ≠ g1 ∧ b ≠ g2) :
    Calls Try.prog 115 #[.pointer (some ⟨b, 0, none⟩)] w (CountsOut w b fr P st) := by
  have HW := Lib.hid hW
  have HF := Lib.hid hf
  have HS := Lib.hid hS
  have HST := Lib.hid hst
  have HB := Lib.hid hb
  have HP := Lib.hid hP
  have HC := Lib.hid hC
  have hcl : ∀ ty, (Builtin.clear_ #[26] ty #[.slice (some ⟨b, 19, none⟩) 6 6]).run Try.prog w = .ok (.tuple #[]) (w.setCells b 19 (List.replicate 6 (.int .i64 0))) := fun ty =>
    Lib.run_clear_slice w 26 3 ty (.int .i64 0) Try.underlying26 zint rfl rfl b 19 6 6 (by omega) (fun j hj => by
      obtain ⟨x, _, hx⟩ := hW.num (j := 7 + j) (by omega)
      have := hx ⟨w, Ext.rfl' w⟩
      rw [show 19 + j = 12 + (7 + j) from by omega, this]
      rfl) (fun j _ => hW.free (19 + j) ⟨w, Ext.rfl' w⟩)
  clear hW hf hS hst hb hP hC
  go_enter Try.func115, Try.ntmps115
  go_upto_region 1 with (simp only [hcl])
  obtain ⟨hW1, o1⟩ : WObj (w.setCells b 19 [Value.int .i64 0, .int .i64 0, .int .i64 0, .int .i64 0, .int .i64 0, .int .i64 0]) b fr (P ++ cntsF []) ∧ Only (fun q => q = b) w (w.setCells b 19 [Value.int .i64 0, .int .i64 0, .int .i64 0, .int .i64 0, .int .i64 0, .int .i64 0]) := HW.out.zeros HP.out HC.out
  clear hcl
  generalize w.setCells b 19 [Value.int .i64 0, .int .i64 0, .int .i64 0, .int .i64 0, .int .i64 0, .int .i64 0] = w1 at *
  have HW1 := Lib.hid hW1
  have HO1 := Lib.hid o1
  have HS1 := Lib.hid (HS.out.only o1 (fun h => HB.out.1 h.symm) (fun h => HB.out.2.1 h.symm) (fun h => HB.out.2.2 h.symm))
  have q7 := hW1.cell HF.out
  obtain ⟨s0, s1⟩ := HS1.out.lat
  obtain ⟨k1, hk1⟩ := lat_self w1
  rw [hk1]
  clear hW1 o1
  go_upto_region 2 with fail
  rw [← hk1]
  clear hk1 q7 s0 s1
  go_loopw [17] (fun s17 wr => ∃ i : Nat, i ≤ n ∧ s17 = .int .i64 i ∧ Hid (WObj wr b fr (P ++ cntsF (st.take i))) ∧ Hid (Only (fun q => q = b) w wr)) (fun s_ _ => n - (intOf s_).toNat)
  case atStart => exact ⟨0, by omega, rfl, HW1, HO1⟩
  case round =>
    clear HW1 HO1 HS1 k1
    obtain ⟨i, hi, rfl, HWr, hon⟩ := hrel
    have HSr := Lib.hid (HS.out.only hon.out (fun h => HB.out.1 h.symm) (fun h => HB.out.2.1 h.symm) (fun h => HB.out.2.2 h.symm))
    by_cases hlt : i < n
    · have h1 : (i : Int) < (n : Int) := by omega
      have hi0 : (0 : Int) ≤ (i : Int) := by omega
      obtain ⟨x, hx, hcx⟩ := HSr.out.lat1 hlt
      obtain ⟨hx0, hx1⟩ := HST.out x (List.mem_of_getElem? hx)
      obtain ⟨j, rfl⟩ : ∃ j : Nat, x = j := ⟨x.toNat, by omega⟩
      have hj : j < 6 := by omega
      have hj0 : (0 : Int) ≤ (j : Int) := by omega
      have hj1 : (j : Int) < 6 := by omega
      obtain ⟨y, hy, hcy0⟩ := HWr.out.num (j := 7 + j) (by omega)
      have hcy : ∀ c : Lat wr, c.world.cell? ⟨b, 19 + j, none⟩ = some (.int .i64 y) := fun c => by
        have := hcy0 c
        rwa [show 12 + (7 + j) = 19 + j from by omega] at this
      have hfr : ∀ c : Lat wr, c.world.frozen? ⟨b, 19 + j, none⟩ = false := HWr.out.free (19 + j)
      have Hstep := Lib.hid (cnts_step HS.out.lens.1 hn hx hj P HP.out hy)
      clear hx hx0 hx1 hy hcy0
      obtain ⟨k, hk⟩ := lat_self wr
      rw [hk]
      clear hk
      go_upto_region 4 with fail
      refine wp_region_cls_tail (Ext wr) 10 (Ext.drew1 k.ok) (by kernel_rfl) (by kernel_rfl) ?_
      simp only [List.take_succ_cons, List.take_zero, List.drop_succ_cons, List.drop_zero]
      repeat (go_big_quiet_step (fail))
      refine wpQuiet_nil ?_
      rintro _ ⟨k2, rfl⟩
      go_wp2_with fail
      have hset := (HWr.out.ext k2.ok).set_num (7 + j) (wrap64 (y + 1))
      rw [show 12 + (7 + j) = 19 + j from by omega, Hstep.out] at hset
      go_roundw
      case rel => exact ⟨i + 1, by omega, by go_num, hset.1, (hon.out.trans (Only.of_ext (S := fun q => q = b) k2.ok) fun _ _ h => h).trans hset.2 fun _ _ h => h⟩
      case measure => simp [intOf]; omega
    · obtain rfl : n = i := by omega
      have hall : st.take n = st := List.take_of_length_le (by rw [HS.out.lens.1]; exact Nat.le_refl _)
      rw [hall] at HWr
      obtain ⟨a0, a1, a2, a3, a4, a5, a6, rfl⟩ : ∃ p0 p1 p2 p3 p4 p5 p6, P = [p0, p1, p2, p3, p4, p5, p6] := by
        match P, HP.out with
        | [a0, a1, a2, a3, a4, a5, a6], _ => exact ⟨_, _, _, _, _, _, _, rfl⟩
      have Hfin : Hid (pkF [a0, a1, a2, a3, a4, a5, a6] st ++ cntsF st = [mxF a0 (cntF st 1), mxF a1 (cntF st 2), mxF a2 (cntF st 3), mxF a3 (cntF st 4), mxF a4 (cntF st 5), a5, a6, cntF st 0, cntF st 1, cntF st 2, cntF st 3, cntF st 4, cntF st 5]) := rfl
      unfold cntsF at HWr
      generalize cntF st 0 = z0 at HWr Hfin
      generalize cntF st 1 = z1 at HWr Hfin
      generalize cntF st 2 = z2 at HWr Hfin
      generalize cntF st 3 = z3 at HWr Hfin
      generalize cntF st 4 = z4 at HWr Hfin
      generalize cntF st 5 = z5 at HWr Hfin
      clear hall HP HC HS HST HSr
      go_upto_region 7 with fail
      have hy : ∀ c : Lat wr, c.world.cell? ⟨b, 12, none⟩ = some (.int .i64 a0) := (HWr.out.num (j := 0) (by omega)).elim fun _ h => (Option.some.inj h.1) ▸ h.2
      have hz : ∀ c : Lat wr, c.world.cell? ⟨b, 20, none⟩ = some (.int .i64 z1) := (HWr.out.num (j := 8) (by omega)).elim fun _ h => (Option.some.inj h.1) ▸ h.2
      have hfr : ∀ c : Lat wr, c.world.frozen? ⟨b, 12, none⟩ = false := HWr.out.free 12
      obtain ⟨k, hk⟩ := lat_self wr
      rw [hk]
      clear hk
      go_cut [] (fun wx => Hid (WObj wx b fr [mxF a0 z1, a1, a2, a3, a4, a5, a6, z0, z1, z2, z3, z4, z5]) ∧ Hid (Only (fun q => q = b) w wx))
      case first =>
        by_cases hyz : a0 < z1
        · have he := Lib.hid (mxF_lt hyz)
          refine wp_region_cls_tail (Ext wr) 13 (Ext.drew1 k.ok) (by kernel_rfl) (by kernel_rfl) ?_
          simp only [List.take_succ_cons, List.take_zero, List.drop_succ_cons, List.drop_zero]
          repeat (go_big_quiet_step (fail))
          refine wpQuiet_nil ?_
          rintro _ ⟨k2, rfl⟩
          go_wp2_with fail
          go_meet
          case rel => exact ⟨by show WObj _ _ _ _; rw [he.out]; exact ((HWr.out.ext k2.ok).set_num 0 z1).1, (hon.out.trans (Only.of_ext (S := fun q => q = b) k2.ok) fun _ _ h => h).trans ((HWr.out.ext k2.ok).set_num 0 _).2 fun _ _ h => h⟩
        · have he := Lib.hid (mxF_ge hyz)
          refine wp_region_cls_tail (Ext wr) 13 (Ext.drew1 k.ok) (by kernel_rfl) (by kernel_rfl) ?_
          simp only [List.take_succ_cons, List.take_zero, List.drop_succ_cons, List.drop_zero]
          repeat (go_big_quiet_step (fail))
          refine wpQuiet_nil ?_
          rintro _ ⟨k2, rfl⟩
          go_wp2_with fail
          go_meet
          case rel => exact ⟨by show WObj _ _ _ _; rw [he.out]; exact ((HWr.out.ext k2.ok).set_num 0 a0).1, (hon.out.trans (Only.of_ext (S := fun q => q = b) k2.ok) fun _ _ h => h).trans ((HWr.out.ext k2.ok).set_num 0 _).2 fun _ _ h => h⟩
      clear HWr hon hy hz hfr
      obtain ⟨HWr, hon⟩ := hcut
      generalize hb0 : mxF a0 z1 = b0 at HWr
      have HB0 := Lib.hid hb0
      clear hb0
      go_upto_region 8 with fail
      have hy : ∀ c : Lat wc, c.world.cell? ⟨b, 13, none⟩ = some (.int .i64 a1) := (HWr.out.num (j := 1) (by omega)).elim fun _ h => (Option.some.inj h.1) ▸ h.2
      have hz : ∀ c : Lat wc, c.world.cell? ⟨b, 21, none⟩ = some (.int .i64 z2) := (HWr.out.num (j := 9) (by omega)).elim fun _ h => (Option.some.inj h.1) ▸ h.2
      have hfr : ∀ c : Lat wc, c.world.frozen? ⟨b, 13, none⟩ = false := HWr.out.free 13
      obtain ⟨k, hk⟩ := lat_self wc
      rw [hk]
      clear hk
      go_cut [] (fun wx => Hid (WObj wx b fr [b0, mxF a1 z2, a2, a3, a4, a5, a6, z0, z1, z2, z3, z4, z5]) ∧ Hid (Only (fun q => q = b) w wx))
      case first =>
        by_cases hyz : a1 < z2
        · have he := Lib.hid (mxF_lt hyz)
          refine wp_region_cls_tail (Ext wc) 13 (Ext.drew1 k.ok) (by kernel_rfl) (by kernel_rfl) ?_
          simp only [List.take_succ_cons, List.take_zero, List.drop_succ_cons, List.drop_zero]
          repeat (go_big_quiet_step (fail))
          refine wpQuiet_nil ?_
          rintro _ ⟨k2, rfl⟩
          go_wp2_with fail
          go_meet
          case rel => exact ⟨by show WObj _ _ _ _; rw [he.out]; exact ((HWr.out.ext k2.ok).set_num 1 z2).1, (hon.out.trans (Only.of_ext (S := fun q => q = b) k2.ok) fun _ _ h => h).trans ((HWr.out.ext k2.ok).set_num 1 _).2 fun _ _ h => h⟩
        · have he := Lib.hid (mxF_ge hyz)
          refine wp_region_cls_tail (Ext wc) 13 (Ext.drew1 k.ok) (by kernel_rfl) (by kernel_rfl) ?_
          simp only [List.take_succ_cons, List.take_zero, List.drop_succ_cons, List.drop_zero]
          repeat (go_big_quiet_step (fail))
          refine wpQuiet_nil ?_
          rintro _ ⟨k2, rfl⟩
          go_wp2_with fail
          go_meet
          case rel => exact ⟨by show WObj _ _ _ _; rw [he.out]; exact ((HWr.out.ext k2.ok).set_num 1 a1).1, (hon.out.trans (Only.of_ext (S := fun q => q = b) k2.ok) fun _ _ h => h).trans ((HWr.out.ext k2.ok).set_num 1 _).2 fun _ _ h => h⟩
      clear HWr hon hy hz hfr
      obtain ⟨HWr, hon⟩ := hcut
      generalize hb1 : mxF a1 z2 = b1 at HWr
      have HB1 := Lib.hid hb1
      clear hb1
      go_upto_region 9 with fail
      have hy : ∀ c : Lat wc, c.world.cell? ⟨b, 14, none⟩ = some (.int .i64 a2) := (HWr.out.num (j := 2) (by omega)).elim fun _ h => (Option.some.inj h.1) ▸ h.2
      have hz : ∀ c : Lat wc, c.world.cell? ⟨b, 22, none⟩ = some (.int .i64 z3) := (HWr.out.num (j := 10) (by omega)).elim fun _ h => (Option.some.inj h.1) ▸ h.2
      have hfr : ∀ c : Lat wc, c.world.frozen? ⟨b, 14, none⟩ = false := HWr.out.free 14
      obtain ⟨k, hk⟩ := lat_self wc
      rw [hk]
      clear hk
      go_cut [] (fun wx => Hid (WObj wx b fr [b0, b1, mxF a2 z3, a3, a4, a5, a6, z0, z1, z2, z3, z4, z5]) ∧ Hid (Only (fun q => q = b) w wx))
      case first =>
        by_cases hyz : a2 < z3
        · have he := Lib.hid (mxF_lt hyz)
          refine wp_region_cls_tail (Ext wc) 13 (Ext.drew1 k.ok) (by kernel_rfl) (by kernel_rfl) ?_
          simp only [List.take_succ_cons, List.take_zero, List.drop_succ_cons, List.drop_zero]
          repeat (go_big_quiet_step (fail))
          refine wpQuiet_nil ?_
          rintro _ ⟨k2, rfl⟩
          go_wp2_with fail
          go_meet
          case rel => exact ⟨by show WObj _ _ _ _; rw [he.out]; exact ((HWr.out.ext k2.ok).set_num 2 z3).1, (hon.out.trans (Only.of_ext (S := fun q => q = b) k2.ok) fun _ _ h => h).trans ((HWr.out.ext k2.ok).set_num 2 _).2 fun _ _ h => h⟩
        · have he := Lib.hid (mxF_ge hyz)
          refine wp_region_cls_tail (Ext wc) 13 (Ext.drew1 k.ok) (by kernel_rfl) (by kernel_rfl) ?_
          simp only [List.take_succ_cons, List.take_zero, List.drop_succ_cons, List.drop_zero]
          repeat (go_big_quiet_step (fail))
          refine wpQuiet_nil ?_
          rintro _ ⟨k2, rfl⟩
          go_wp2_with fail
          go_meet
          case rel => exact ⟨by show WObj _ _ _ _; rw [he.out]; exact ((HWr.out.ext k2.ok).set_num 2 a2).1, (hon.out.trans (Only.of_ext (S := fun q => q = b) k2.ok) fun _ _ h => h).trans ((HWr.out.ext k2.ok).set_num 2 _).2 fun _ _ h => h⟩
      clear HWr hon hy hz hfr
      obtain ⟨HWr, hon⟩ := hcut
      generalize hb2 : mxF a2 z3 = b2 at HWr
      have HB2 := Lib.hid hb2
      clear hb2
      go_upto_region 10 with fail
      have hy : ∀ c : Lat wc, c.world.cell? ⟨b, 15, none⟩ = some (.int .i64 a3) := (HWr.out.num (j := 3) (by omega)).elim fun _ h => (Option.some.inj h.1) ▸ h.2
      have hz : ∀ c : Lat wc, c.world.cell? ⟨b, 23, none⟩ = some (.int .i64 z4) := (HWr.out.num (j := 11) (by omega)).elim fun _ h => (Option.some.inj h.1) ▸ h.2
      have hfr : ∀ c : Lat wc, c.world.frozen? ⟨b, 15, none⟩ = false := HWr.out.free 15
      obtain ⟨k, hk⟩ := lat_self wc
      rw [hk]
      clear hk
      go_cut [] (fun wx => Hid (WObj wx b fr [b0, b1, b2, mxF a3 z4, a4, a5, a6, z0, z1, z2, z3, z4, z5]) ∧ Hid (Only (fun q => q = b) w wx))
      case first =>
        by_cases hyz : a3 < z4
        · have he := Lib.hid (mxF_lt hyz)
          refine wp_region_cls_tail (Ext wc) 13 (Ext.drew1 k.ok) (by kernel_rfl) (by kernel_rfl) ?_
          simp only [List.take_succ_cons, List.take_zero, List.drop_succ_cons, List.drop_zero]
          repeat (go_big_quiet_step (fail))
          refine wpQuiet_nil ?_
          rintro _ ⟨k2, rfl⟩
          go_wp2_with fail
          go_meet
          case rel => exact ⟨by show WObj _ _ _ _; rw [he.out]; exact ((HWr.out.ext k2.ok).set_num 3 z4).1, (hon.out.trans (Only.of_ext (S := fun q => q = b) k2.ok) fun _ _ h => h).trans ((HWr.out.ext k2.ok).set_num 3 _).2 fun _ _ h => h⟩
        · have he := Lib.hid (mxF_ge hyz)
          refine wp_region_cls_tail (Ext wc) 13 (Ext.drew1 k.ok) (by kernel_rfl) (by kernel_rfl) ?_
          simp only [List.take_succ_cons, List.take_zero, List.drop_succ_cons, List.drop_zero]
          repeat (go_big_quiet_step (fail))
          refine wpQuiet_nil ?_
          rintro _ ⟨k2, rfl⟩
          go_wp2_with fail
          go_meet
          case rel => exact ⟨by show WObj _ _ _ _; rw [he.out]; exact ((HWr.out.ext k2.ok).set_num 3 a3).1, (hon.out.trans (Only.of_ext (S := fun q => q = b) k2.ok) fun _ _ h => h).trans ((HWr.out.ext k2.ok).set_num 3 _).2 fun _ _ h => h⟩
      clear HWr hon hy hz hfr
      obtain ⟨HWr, hon⟩ := hcut
      generalize hb3 : mxF a3 z4 = b3 at HWr
      have HB3 := Lib.hid hb3
      clear hb3
      go_upto_region 11 with fail
      have hy : ∀ c : Lat wc, c.world.cell? ⟨b, 16, none⟩ = some (.int .i64 a4) := (HWr.out.num (j := 4) (by omega)).elim fun _ h => (Option.some.inj h.1) ▸ h.2
      have hz : ∀ c : Lat wc, c.world.cell? ⟨b, 24, none⟩ = some (.int .i64 z5) := (HWr.out.num (j := 12) (by omega)).elim fun _ h => (Option.some.inj h.1) ▸ h.2
      have hfr : ∀ c : Lat wc, c.world.frozen? ⟨b, 16, none⟩ = false := HWr.out.free 16
      obtain ⟨k, hk⟩ := lat_self wc
      rw [hk]
      clear hk
      by_cases hyz : a4 < z5
      · have he := Lib.hid (mxF_lt hyz)
        refine wp_region_cls_tail (Ext wc) 13 (Ext.drew1 k.ok) (by kernel_rfl) (by kernel_rfl) ?_
        simp only [List.take_succ_cons, List.take_zero, List.drop_succ_cons, List.drop_zero]
        repeat (go_big_quiet_step (fail))
        refine wpQuiet_nil ?_
        rintro _ ⟨k2, rfl⟩
        go_wp2_with fail
        go_end0
        exact ⟨rfl, by rw [Hfin.out, HB0.out, HB1.out, HB2.out, HB3.out, he.out]; exact ((HWr.out.ext k2.ok).set_num 4 z5).1, (hon.out.trans (Only.of_ext (S := fun q => q = b) k2.ok) fun _ _ h => h).trans ((HWr.out.ext k2.ok).set_num 4 _).2 fun _ _ h => h⟩
      · have he := Lib.hid (mxF_ge hyz)
        refine wp_region_cls_tail (Ext wc) 13 (Ext.drew1 k.ok) (by kernel_rfl) (by kernel_rfl) ?_
        simp only [List.take_succ_cons, List.take_zero, List.drop_succ_cons, List.drop_zero]
        repeat (go_big_quiet_step (fail))
        refine wpQuiet_nil ?_
        rintro _ ⟨k2, rfl⟩
        go_wp2_with fail
        go_end0
        exact ⟨rfl, by rw [Hfin.out, HB0.out, HB1.out, HB2.out, HB3.out, he.out]; exact ((HWr.out.ext k2.ok).set_num 4 a4).1, (hon.out.trans (Only.of_ext (S := fun q => q = b) k2.ok) fun _ _ h => h).trans ((HWr.out.ext k2.ok).set_num 4 _).2 fun _ _ h => h⟩

structure Fl where
  kd : Int
  mv : Int
  sl : Int
def Fl.enc (x : Fl) : List Value := [.int .i64 x.kd, .int .i64 x.mv, .int .i64 x.sl]
def encH (x : Int × Bool) : List Value := [.int .i64 x.1, .bool x.2]
/-- The first twelve cells of the watch. -/
def frW (cf : List Value) (p : Nat) (v8 vh : Value) (fi : Int) (vf : Value) : List Value := cf ++ [.pointer (some ⟨p, 0, none⟩), v8, vh, .int .i64 fi, vf]
theorem frW_at {cf : List Value} (h : cf.length = 7) (p : Nat) (v8 vh : Value) (fi : Int) (vf : Value) : (frW cf p v8 vh fi vf)[7]? = some (.pointer (some ⟨p, 0, none⟩)) ∧ (frW cf p v8 vh fi vf)[8]? = some v8 ∧ (frW cf p v8 vh fi vf)[9]? = some vh ∧ (frW cf p v8 vh fi vf)[10]? = some (.int .i64 fi) ∧ (frW cf p v8 vh fi vf)[11]? = some vf := by
  match cf, h with
  | [a0, a1, a2, a3, a4, a5, a6], _ => exact ⟨rfl, rfl, rfl, rfl, rfl⟩
theorem frW_set {cf : List Value} (h : cf.length = 7) (p : Nat) (v8 vh : Value) (fi : Int) (vf v : Value) : (frW cf p v8 vh fi vf).set 11 v = frW cf p v8 vh fi v := by
  match cf, h with
  | [a0, a1, a2, a3, a4, a5, a6], _ => rfl

structure Wch (w : World) (B b p g1 c1 g2 c2 n : Nat) (cf : List Value) (v8 vh : Value) (fi : Int) (vf : Value) (st ho : List Int) (hd : List (Int × Bool)) (fl : List Fl) (P C : List Int) : Prop where
  wat : WObj w b (frW cf p v8 vh fi vf) (P ++ C)
  slo : SlotsObj w B p g1 c1 g2 c2 n st ho
  hol : w.ownsRow B 182 2 vh hd.length (hd.flatMap encH)
  fau : w.ownsRow B 65 3 vf fl.length (fl.flatMap Fl.enc)
  lcf : cf.length = 7
  lp : P.length = 7
  lc : C.length = 6
  low : B ≤ b
/-- The watch's own blocks. -/
def WMine (b p g1 g2 : Nat) (vh vf : Value) (q : Nat) : Prop := q = b ∨ q = p ∨ q = g1 ∨ q = g2 ∨ vh.ownBlock = some q ∨ vf.ownBlock = some q

section
variable {w w' : World} {B b p g1 c1 g2 c2 n : Nat} {cf : List Value} {v8 vh : Value} {fi : Int} {vf : Value} {st ho : List Int} {hd : List (Int × Bool)} {fl : List Fl} {P C : List Int}
theorem Wch.only (h : Wch w B b p g1 c1 g2 c2 n cf v8 vh fi vf st ho hd fl P C) {X : Nat → Prop} (o : Only X w w') (hx : ∀ q, WMine b p g1 g2 vh vf q → ¬ X q) : Wch w' B b p g1 c1 g2 c2 n cf v8 vh fi vf st ho hd fl P C :=
  ⟨h.wat.only o (hx _ (.inl rfl)), h.slo.only o (hx _ (.inr (.inl rfl))) (hx _ (.inr (.inr (.inl rfl)))) (hx _ (.inr (.inr (.inr (.inl rfl))))),
    own_only h.hol o fun q hq => hx q (.inr (.inr (.inr (.inr (.inl hq))))), own_only h.fau o fun q hq => hx q (.inr (.inr (.inr (.inr (.inr hq))))), h.lcf, h.lp, h.lc, h.low⟩
theorem Wch.ext (h : Wch w B b p g1 c1 g2 c2 n cf v8 vh fi vf st ho hd fl P C) (e : Ext w w') : Wch w' B b p g1 c1 g2 c2 n cf v8 vh fi vf st ho hd fl P C :=
  h.only (X := fun _ => False) (Only.of_ext e) fun _ _ f => f
theorem Wch.lt (h : Wch w B b p g1 c1 g2 c2 n cf v8 vh fi vf st ho hd fl P C) {q : Nat} (hq : WMine b p g1 g2 vh vf q) : B ≤ q ∧ q < w.heap.size := by
  rcases hq with rfl | rfl | rfl | rfl | hq | hq
  · exact ⟨h.low, blk_lt h.wat.blk⟩
  · exact ⟨h.slo.low, blk_lt h.slo.blk⟩
  · exact h.slo.own1.lt _ rfl
  · exact h.slo.own2.lt _ rfl
  · exact h.hol.lt _ hq
  · exact h.fau.lt _ hq
theorem Wch.nes (h : Wch w B b p g1 c1 g2 c2 n cf v8 vh fi vf st ho hd fl P C) : b ≠ p ∧ b ≠ g1 ∧ b ≠ g2 ∧ (∀ q, vh.ownBlock = some q → q ≠ b ∧ q ≠ p ∧ q ≠ g1 ∧ q ≠ g2 ∧ vf.ownBlock ≠ some q) ∧ (∀ q, vf.ownBlock = some q → q ≠ b ∧ q ≠ p ∧ q ≠ g1 ∧ q ≠ g2 ∧ vh.ownBlock ≠ some q) := by
  refine ⟨blk_two h.wat.blk h.slo.blk (by decide), fun e => own_apart h.slo.own1 h.wat.blk (by decide) (by rw [e]; rfl), fun e => own_apart h.slo.own2 h.wat.blk (by decide) (by rw [e]; rfl), fun q hq => ?_, fun q hq => ?_⟩
  · exact ⟨fun e => own_apart h.hol h.wat.blk (by decide) (e ▸ hq), fun e => own_apart h.hol h.slo.blk (by decide) (e ▸ hq), fun e => own_two h.hol h.slo.own1 (by decide) q hq (by rw [e]; rfl), fun e => own_two h.hol h.slo.own2 (by decide) q hq (by rw [e]; rfl), own_two h.hol h.fau (by decide) q hq⟩
  · exact ⟨fun e => own_apart h.fau h.wat.blk (by decide) (e ▸ hq), fun e => own_apart h.fau h.slo.blk (by decide) (e ▸ hq), fun e => own_two h.fau h.slo.own1 (by decide) q hq (by rw [e]; rfl), fun e => own_two h.fau h.slo.own2 (by decide) q hq (by rw [e]; rfl), own_two h.fau h.hol (by decide) q hq⟩
/-- A fault is told. -/
theorem Wch.told (h : Wch w B b p g1 c1 g2 c2 n cf v8 vh fi vf st ho hd fl P C) {w1 : World} {v5 : Value} {x : Fl} (hown : w1.ownsRow B 65 3 v5 (fl.length + 1) (fl.flatMap Fl.enc ++ x.enc)) (hg : w.grownBy w1 vf.ownBlock)
    (hat : v5.ownBlock = vf.ownBlock ∨ ∃ q, v5.ownBlock = some q ∧ w.heap.size ≤ q) :
    Wch (w1.setCell ⟨b, 11, none⟩ v5) B b p g1 c1 g2 c2 n cf v8 vh fi v5 st ho hd (fl ++ [x]) P C ∧ Only (fun q => q = b ∨ vf.ownBlock = some q) w (w1.setCell ⟨b, 11, none⟩ v5) ∧ (∀ q, v5.ownBlock = some q → vf.ownBlock = some q ∨ w.heap.size ≤ q) := by
  obtain ⟨n1, n2, n3, nh, nf⟩ := h.nes
  have o1 := Only.of_grown hg
  have hW1 : WObj w1 b (frW cf p v8 vh fi vf) (P ++ C) := h.wat.only o1 fun e => (nf b e.symm).1 rfl
  obtain ⟨hW2, o2⟩ := hW1.set_front 11 (by omega) v5
  rw [frW_set h.lcf] at hW2
  have hb1 := blk_lt h.wat.blk
  have hS1 := h.slo.only o1 (fun e => (nf p e.symm).2.1 rfl) (fun e => (nf g1 e.symm).2.2.1 rfl) (fun e => (nf g2 e.symm).2.2.2.1 rfl)
  have hH1 := own_only h.hol o1 fun q hq e => (nf q e.symm).2.2.2.2 hq
  have hne : ∀ q, v5.ownBlock = some q → q ≠ b := fun q hq e => own_apart hown hW1.blk (by decide) (e ▸ hq)
  refine ⟨⟨hW2, hS1.only o2 (fun e => n1 e.symm) (fun e => n2 e.symm) (fun e => n3 e.symm), own_only hH1 o2 fun q hq e => (nh q hq).1 e, ?_, h.lcf, h.lp, h.lc, h.low⟩, ?_, fun q hq => ?_⟩
  · have := own_only hown o2 fun q hq e => hne q hq e
    rw [List.length_append, List.flatMap_append]
    simpa using this
  · refine (o1.mono (S' := fun q => q = b ∨ vf.ownBlock = some q) fun q _ e => .inr e.symm).setCell _ _ fun _ => .inl rfl
  · rcases hat with e | ⟨q', e, hl⟩
    · exact .inl (e ▸ hq)
    · rw [e] at hq
      injection hq with hq
      exact .inr (hq ▸ hl)
end

/-- An access that stands somewhere. -/
def AcAt (w : World) (ba oa : Nat) (x : Ac) : Prop := ba < w.heap.size ∧ ∀ (k : Nat) (u : Value), x.enc[k]? = some u → w.cell? ⟨ba, oa + k, none⟩ = some u
theorem AcAt.ext {w w' : World} {ba oa : Nat} {x : Ac} (h : AcAt w ba oa x) (e : Ext w w') : AcAt w' ba oa x := ⟨Nat.lt_of_lt_of_le h.1 e.size, fun k u hu => (e.cell (p := ⟨ba, oa + k, none⟩) h.1).trans (h.2 k u hu)⟩
theorem AcAt.only {w w' : World} {ba oa : Nat} {x : Ac} {S : Nat → Prop} (h : AcAt w ba oa x) (o : Only S w w') (hs : ¬ S ba) : AcAt w' ba oa x :=
  ⟨Nat.lt_of_lt_of_le h.1 o.size, fun k u hu => by
    rw [← h.2 k u hu]
    unfold World.cell?
    simp only [o.block ba h.1 hs]⟩
theorem AcAt.lat {w : World} {ba oa : Nat} {x : Ac} (h : AcAt w ba oa x) :
    (∀ c : Lat w, c.world.cell? ⟨ba, oa, none⟩ = some (.int .i64 x.mv)) ∧ (∀ c : Lat w, c.world.cell? ⟨ba, oa + 1, none⟩ = some (.int .i64 x.th)) ∧ (∀ c : Lat w, c.world.cell? ⟨ba, oa + 2, none⟩ = some (.int .i64 x.kd)) ∧ (∀ c : Lat w, c.world.cell? ⟨ba, oa + 3, none⟩ = some (.int .i64 x.ad)) ∧
    (∀ c : Lat w, c.world.cell? ⟨ba, oa + 4, none⟩ = some (.int .u64 x.od)) ∧ (∀ c : Lat w, c.world.cell? ⟨ba, oa + 5, none⟩ = some (.int .u64 x.nw)) ∧ (∀ c : Lat w, c.world.cell? ⟨ba, oa + 6, none⟩ = some (.int .u64 x.sw)) :=
  ⟨fun c => (h.ext c.ok).2 0 _ rfl, fun c => (h.ext c.ok).2 1 _ rfl, fun c => (h.ext c.ok).2 2 _ rfl, fun c => (h.ext c.ok).2 3 _ rfl, fun c => (h.ext c.ok).2 4 _ rfl, fun c => (h.ext c.ok).2 5 _ rfl, fun c => (h.ext c.ok).2 6 _ rfl⟩

theorem slotF_bd {R H S B a : Int} (hS : 1 ≤ S) : -1 ≤ slotF R H S B a ∧ slotF R H S B a < S := by
  unfold slotF
  split
  · have h1 := Int.emod_nonneg (a - sumOf R H S B 10) (b := S) (by omega)
    have h2 := Int.emod_lt_of_pos (a - sumOf R H S B 10) (b := S) (by omega)
    omega
  · omega

theorem grown_drewn {w w' : World} {row : Option Nat} (h : w.drew.grownBy w' row) : w.grownBy w' row := ⟨h.os, h.tape, h.output, h.size, h.block⟩
/-- The faults of an access of a slot's word: the slot's state and holder, and behind the move's shifts. -/
def touchG (sl : Int) (st ho st2 ho2 : List Int) (mv th : Int) : List Fl :=
  if sl < 0 then [] else
  if openF (st.getD sl.toNat 0) (ho.getD sl.toNat 0) th then [] else
  if openF (st2.getD sl.toNat 0) (ho2.getD sl.toNat 0) th then [] else
  [⟨if st.getD sl.toNat 0 = 2 then 2 else 1, mv, sl⟩]
def touchF (R H S Bk : Int) (st ho st2 ho2 : List Int) (mv : Int) (a : Ac) : List Fl := touchG (slotF R H S Bk a.ad) st ho st2 ho2 mv a.th
theorem touchG_at {j : Nat} {st ho st2 ho2 : List Int} {mv th s h s2 h2 : Int} (hs : st[j]? = some s) (hh : ho[j]? = some h) (hs2 : st2[j]? = some s2) (hh2 : ho2[j]? = some h2) :
    touchG (j : Int) st ho st2 ho2 mv th = if openF s h th = true then [] else if openF s2 h2 th = true then [] else [⟨if s = 2 then 2 else 1, mv, (j : Int)⟩] := by
  unfold touchG
  rw [if_neg (by omega), Int.toNat_natCast, List.getD_eq_getElem?_getD, List.getD_eq_getElem?_getD, List.getD_eq_getElem?_getD, List.getD_eq_getElem?_getD, hs, hh, hs2, hh2]
  rfl

/-- What a monitor leaves that tells faults alone. -/
def TouchOut (w : World) (B b p g1 c1 g2 c2 n : Nat) (cf : List Value) (v8 vh : Value) (fi : Int) (vf : Value) (st ho : List Int) (hd : List (Int × Bool)) (fl' : List Fl) (P C : List Int) (e : Ending) (w' : World) : Prop :=
  e = .returned (.tuple #[]) ∧ ∃ vf', Wch w' B b p g1 c1 g2 c2 n cf v8 vh fi vf' st ho hd fl' P C ∧ Only (WMine b p g1 g2 vh vf) w w' ∧ (∀ q, vf'.ownBlock = some q → vf.ownBlock = some q ∨ w.heap.size ≤ q)

set_option maxRecDepth 100000 in
set_option maxHeartbeats 4000000 in
theorem touches_any (T R H Re Ca S Bk : Int) (hok : Okay T R H Re Ca S Bk) (B b p g1 c1 g2 c2 n q h1 d1 h2 d2 : Nat) (hn : (n : Int) = S) (vh : Value) (fi : Int) (vf : Value) (st ho st2 ho2 : List Int) (hd : List (Int × Bool)) (fl : List Fl) (P C : List Int) (mv : Int) (A : Option Addr) (ns cs ba oa : Nat) (x : Ac)
    (w : World) (hW : Wch w B b p g1 c1 g2 c2 n [.int .i64 T, .int .i64 R, .int .i64 H, .int .i64 Re, .int .i64 Ca, .int .i64 S, .int .i64 Bk] (.pointer (some ⟨q, 0, none⟩)) vh fi vf st ho hd fl P C) (hT : SlotsObj w B q h1 d1 h2 d2 n st2 ho2) (hx : AcAt w ba oa x)
    (hst : ∀ x ∈ st, 0 ≤ x ∧ x ≤ 5) (hst2 : ∀ x ∈ st2, 0 ≤ x ∧ x ≤ 5) (ha0 : 0 ≤ x.ad) (ha1 : x.ad < sumOf R H S Bk 13) (hf : fl.length ≤ 4000000) (hB : B ≤ w.heap.size) :
    Calls Try.prog 116 #[.pointer (some ⟨b, 0, none⟩), .agg #[.int .i64 mv, .pointer (some ⟨ba, oa, none⟩), .slice A ns cs]] w (TouchOut w B b p g1 c1 g2 c2 n [.int .i64 T, .int .i64 R, .int .i64 H, .int .i64 Re, .int .i64 Ca, .int .i64 S, .int .i64 Bk] (.pointer (some ⟨q, 0, none⟩)) vh fi vf st ho hd (fl ++ touchF R H S Bk st ho st2 ho2 mv x) P C) := by
  have HW := Lib.hid hW
  have HT := Lib.hid hT
  have HX := Lib.hid hx
  have Hst := Lib.hid hst
  have Hst2 := Lib.hid hst2
  have Hok := Lib.hid hok
  have hsl := slotF_bd (R := R) (H := H) (S := S) (B := Bk) (a := x.ad) (by unfold Okay at hok; omega)
  have Hcall : Hid (∀ w, Calls Try.prog 150 #[(.agg #[.int .i64 T, .int .i64 R, .int .i64 H, .int .i64 Re, .int .i64 Ca, .int .i64 S, .int .i64 Bk]), .int .i64 x.ad] w fun e w' => e = .returned (.int .i64 (slotF R H S Bk x.ad)) ∧ Ext w w') := fun w => slotAt_any T R H Re Ca S Bk x.ad hok ha0 ha1 w
  clear hW hT hx hst hst2 hok ha0 ha1
  have HF : Hid (touchF R H S Bk st ho st2 ho2 mv x = touchG (slotF R H S Bk x.ad) st ho st2 ho2 mv x.th) := rfl
  generalize slotF R H S Bk x.ad = sl at *
  go_enter Try.func116, Try.ntmps116
  go_upto_region 1 with fail
  obtain ⟨w0, hw0, hM, hE, hlt0⟩ := enter1 w (.cells #[.int .i64 mv, .pointer (some ⟨ba, oa, none⟩), .slice A ns cs] 189)
  rw [hw0]
  have HE := Lib.hid hE
  have HM := Lib.hid hM
  obtain ⟨m0, m1, m2⟩ := Lat.cells3 hM
  have hW0 := HW.out.ext hE
  have e0 := hW0.wat.cell (i := 0) rfl
  have e1 := hW0.wat.cell (i := 1) rfl
  have e2 := hW0.wat.cell (i := 2) rfl
  have e3 := hW0.wat.cell (i := 3) rfl
  have e4 := hW0.wat.cell (i := 4) rfl
  have e5 := hW0.wat.cell (i := 5) rfl
  have e6 := hW0.wat.cell (i := 6) rfl
  obtain ⟨y0, y1, y2, y3, y4, y5, y6⟩ := (HX.out.ext hE).lat
  obtain ⟨k0, hk0⟩ := lat_self w0
  rw [hk0]
  have f7 := hW0.wat.cell (frW_at hW0.lcf _ _ _ _ _).1
  have f8 := hW0.wat.cell (frW_at hW0.lcf _ _ _ _ _).2.1
  clear hw0 hM hE hk0
  go_upto_region 2 with fail
  refine wp_region_cls (Ext w0) (Ext.drew1 k0.ok) (by kernel_rfl) (by kernel_rfl) ?_
  repeat (go_big_quiet_step (exact calls_cls (keeps_ext _) (Hcall.out _)))
  refine wpQuiet_nil ?_
  rintro _ ⟨k1, rfl⟩
  go_upto_region 3 with fail
  by_cases hneg : sl < 0
  · have hd0 : decide (sl < 0) = true := by simpa using hneg
    have HR : Hid (touchF R H S Bk st ho st2 ho2 mv x = []) := by
      show _ = _
      rw [HF.out]
      exact if_pos hneg
    refine wp_region_cls (Ext w0) (Ext.drew1 k1.ok) (by kernel_rfl) (by kernel_rfl) ?_
    repeat (go_big_quiet_step (fail))
    refine wpQuiet_nil ?_
    rintro _ ⟨k2, rfl⟩
    go_wp2_with fail
    go_end0
    rw [HR.out, List.append_nil]
    exact ⟨rfl, vf, HW.out.ext (Ext.next HE.out k2.ok), Only.of_ext (Ext.next HE.out k2.ok), fun q hq => .inl hq⟩
  · have hd0 : decide (sl < 0) = false := by simpa using hneg
    obtain ⟨j, rfl⟩ : ∃ j : Nat, sl = j := ⟨sl.toNat, by omega⟩
    have hj : j < n := by omega
    have hj0 : (0 : Int) ≤ (j : Int) := by omega
    have hj1 : (j : Int) < (n : Int) := by omega
    have hS0 := hW0.slo
    have hT0 := HT.out.ext HE.out
    obtain ⟨s, hs, hcs⟩ := hS0.lat1 hj
    obtain ⟨h, hh, hch⟩ := hS0.lat2 hj
    obtain ⟨s2, hs2, _⟩ := hT0.lat1 hj
    obtain ⟨h2', hh2, _⟩ := hT0.lat2 hj
    have hsb := Hst.out s (List.mem_of_getElem? hs)
    have hsb2 := Hst2.out s2 (List.mem_of_getElem? hs2)
    have Hop1 : Hid (∀ c : Lat w0, Calls Try.prog 151 #[.pointer (some ⟨p, 0, none⟩), .int .i64 j, .int .i64 x.th] c.world fun e w' => e = .returned (.bool (openF s h x.th)) ∧ w' = c.world) := fun c => open_any B p g1 c1 g2 c2 n j st ho s h x.th c.world (hS0.ext c.ok) hs hh hsb.1 hsb.2
    have Hop2 : Hid (∀ c : Lat w0, Calls Try.prog 151 #[.pointer (some ⟨q, 0, none⟩), .int .i64 j, .int .i64 x.th] c.world fun e w' => e = .returned (.bool (openF s2 h2' x.th)) ∧ w' = c.world) := fun c => open_any B q h1 d1 h2 d2 n j st2 ho2 s2 h2' x.th c.world (hT0.ext c.ok) hs2 hh2 hsb2.1 hsb2.2
    have HR : Hid (touchF R H S Bk st ho st2 ho2 mv x = if openF s h x.th = true then [] else if openF s2 h2' x.th = true then [] else [⟨if s = 2 then 2 else 1, mv, (j : Int)⟩]) := by
      show _ = _
      rw [HF.out, touchG_at hs hh hs2 hh2]
    obtain ⟨q0, q1⟩ := hS0.lat
    have HW0 := Lib.hid hW0
    clear hs hh hs2 hh2 HF hS0 hT0 hW0 Hst Hst2
    generalize openF s h x.th = o1 at *
    generalize openF s2 h2' x.th = o2 at *
    cases o1 with
    | true =>
      refine wp_region_cls (Ext w0) (Ext.drew1 k1.ok) (by kernel_rfl) (by kernel_rfl) ?_
      repeat (go_big_quiet_step (exact calls_cls_same (Hop1.out _)))
      refine wpQuiet_nil ?_
      rintro _ ⟨k2, rfl⟩
      go_wp2_with fail
      go_end0
      rw [HR.out]
      simp only [if_true, List.append_nil]
      exact ⟨rfl, vf, HW.out.ext (Ext.next HE.out k2.ok), Only.of_ext (Ext.next HE.out k2.ok), fun q hq => .inl hq⟩
    | false =>
      cases o2 with
      | true =>
        refine wp_region_cls (Ext w0) (Ext.drew1 k1.ok) (by kernel_rfl) (by kernel_rfl) ?_
        iterate 14 (go_big_quiet_step (exact calls_cls_same (Hop1.out _)))
        repeat (go_big_quiet_step (exact calls_cls_same (Hop2.out _)))
        refine wpQuiet_nil ?_
        rintro _ ⟨k2, rfl⟩
        go_wp2_with fail
        go_end0
        rw [HR.out]
        simp only [Bool.false_eq_true, if_false, if_true, List.append_nil]
        exact ⟨rfl, vf, HW.out.ext (Ext.next HE.out k2.ok), Only.of_ext (Ext.next HE.out k2.ok), fun q hq => .inl hq⟩
      | false =>
        refine wp_region_cls (Ext w0) (Ext.drew1 k1.ok) (by kernel_rfl) (by kernel_rfl) ?_
        iterate 14 (go_big_quiet_step (exact calls_cls_same (Hop1.out _)))
        repeat (go_big_quiet_step (exact calls_cls_same (Hop2.out _)))
        refine wpQuiet_nil ?_
        rintro _ ⟨k2, rfl⟩
        by_cases hk : s = 2
        · have hd5 : (s == 2) = true := by simpa using hk
          have HK : Hid ((if s = 2 then (2 : Int) else 1) = 2) := if_pos hk
          clear hk
          go_upto_region 7 with fail
          obtain ⟨wq, hwq⟩ : ∃ wq, k2.world = wq := ⟨_, rfl⟩
          have HEq : Hid (Ext w0 wq) := hwq ▸ k2.ok
          rw [hwq]
          have Hq := Lib.hid (HW0.out.ext HEq.out)
          have hBq : B ≤ wq.heap.size := Nat.le_trans hB (Nat.le_trans HE.out.size HEq.out.size)
          have z0 := m0 ⟨wq, HEq.out⟩
          have zb : wq.cell? ⟨b, 11, none⟩ = some vf := Hq.out.wat.cell (frW_at Hq.out.lcf _ _ _ _ _).2.2.2.2 ⟨wq, Ext.rfl' _⟩
          have zf : wq.frozen? ⟨b, 11, none⟩ = false := Hq.out.wat.free 11 ⟨wq, Ext.rfl' _⟩
          simp only at z0
          have hbq : b < wq.heap.size := blk_lt Hq.out.wat.blk
          have hpq : w.heap.size < wq.heap.size := Nat.lt_of_lt_of_le hlt0 HEq.out.size
          have hb5 : b ≠ wq.heap.size := by omega
          have hp5 : w.heap.size ≠ wq.heap.size := by omega
          have hcl : ([.int .i64 2, .int .i64 mv, .int .i64 j] : List Value).length = 1 * 3 := rfl
          have hrdE : ∀ w', Ext (wq.alloc (.cells #[.int .i64 2, .int .i64 mv, .int .i64 j] 65)) w' → Rd w' (some ⟨wq.heap.size, 0, none⟩) [.int .i64 2, .int .i64 mv, .int .i64 j] := fun w' e => (Rd.made wq [.int .i64 2, .int .i64 mv, .int .i64 j] 65).ext e
          have hone : ∀ u ∈ ([.int .i64 2, .int .i64 mv, .int .i64 j] : List Value), u.oneCell' = true := by intro u hu; simp at hu; rcases hu with rfl | rfl | rfl <;> rfl
          have hownE : ∀ w', Ext wq w' → w'.ownsRow B 65 3 vf fl.length (fl.flatMap Fl.enc) := fun w' e => own_ext Hq.out.fau e
          have hcell : ∀ w1, wq.grownBy w1 vf.ownBlock → w1.cell? ⟨b, 11, none⟩ = some vf ∧ w1.frozen? ⟨b, 11, none⟩ = false := fun w1 hg => by
            have h1 := Hq.out.wat.only (Only.of_grown hg) fun e => (Hq.out.nes.2.2.2.2 b e.symm).1 rfl
            exact ⟨h1.cell (frW_at Hq.out.lcf _ _ _ _ _).2.2.2.2 ⟨w1, Ext.rfl' _⟩, h1.free 11 ⟨w1, Ext.rfl' _⟩⟩
          clear hwq m0 m1 m2 y0 y1 y2 y3 y4 y5 y6 e0 e1 e2 e3 e4 e5 e6 f7 f8 q0 q1 hcs hch Hop1 Hop2 Hcall
          go_region_law ((refine step_appendR _ rfl (.tmp 62) (.tmp 68) 58 rfl B 65 3 24 elemFault Try.underlying58 vf fl.length _ (by simp [Act.eval]) (by first | exact hownE _ ((Ext.rfl' wq).alloc1 _) | exact hownE _ (((Ext.rfl' wq).drew1).alloc1 _) | exact hownE _ (((Ext.rfl' wq).alloc1 _).drew1)) (some ⟨wq.heap.size, 0, none⟩) 1 1 [.int .i64 2, .int .i64 mv, .int .i64 j] (by simp [Act.eval]) hcl (by first | exact hrdE _ (Ext.rfl' _) | exact hrdE _ (Ext.drawn _ 1)) hone (by omega) (by simp; omega) ?_; intro v' w1 hown1 hgrow1 hat1; have hgr : wq.grownBy w1 vf.ownBlock := (by first | exact grownBy_of_alloc hgrow1 | exact grownBy_of_alloc (grown_drewn hgrow1) | exact grown_drewn (grownBy_of_alloc hgrow1)); have hc1 := (hcell w1 hgr).1; have hf1 := (hcell w1 hgr).2; obtain ⟨g5, c5, rfl, _, _, _⟩ := own_form1 hown1 (by omega)))
          all_goals
            have hm := Hq.out.told (x := ⟨2, mv, j⟩) hown1 hgr (hat1.imp id fun e => ⟨_, e, by simp⟩)
            go_wp2_with fail
            go_end0
            rw [HR.out]
            simp only [Bool.false_eq_true, if_false]
            rw [HK.out]
            exact ⟨rfl, _, hm.1, (Only.of_ext (S := WMine b p g1 g2 vh vf) (Ext.next HE.out HEq.out)).trans (hm.2.1.mono (S' := WMine b p g1 g2 vh vf) fun q _ hq => hq.elim .inl fun e => .inr (.inr (.inr (.inr (.inr e))))) fun _ _ h => h, fun q hq => (hm.2.2 q hq).imp id fun e => Nat.le_trans (Ext.next HE.out HEq.out).size e⟩
        · have hd5 : (s == 2) = false := by simpa using hk
          have HK : Hid ((if s = 2 then (2 : Int) else 1) = 1) := if_neg hk
          clear hk
          go_upto_region 7 with fail
          obtain ⟨wq, hwq⟩ : ∃ wq, k2.world = wq := ⟨_, rfl⟩
          have HEq : Hid (Ext w0 wq) := hwq ▸ k2.ok
          rw [hwq]
          have Hq := Lib.hid (HW0.out.ext HEq.out)
          have hBq : B ≤ wq.heap.size := Nat.le_trans hB (Nat.le_trans HE.out.size HEq.out.size)
          have z0 := m0 ⟨wq, HEq.out⟩
          have zb : wq.cell? ⟨b, 11, none⟩ = some vf := Hq.out.wat.cell (frW_at Hq.out.lcf _ _ _ _ _).2.2.2.2 ⟨wq, Ext.rfl' _⟩
          have zf : wq.frozen? ⟨b, 11, none⟩ = false := Hq.out.wat.free 11 ⟨wq, Ext.rfl' _⟩
          simp only at z0
          have hbq : b < wq.heap.size := blk_lt Hq.out.wat.blk
          have hpq : w.heap.size < wq.heap.size := Nat.lt_of_lt_of_le hlt0 HEq.out.size
          have hb5 : b ≠ wq.heap.size := by omega
          have hp5 : w.heap.size ≠ wq.heap.size := by omega
          have hcl : ([.int .i64 1, .int .i64 mv, .int .i64 j] : List Value).length = 1 * 3 := rfl
          have hrdE : ∀ w', Ext (wq.alloc (.cells #[.int .i64 1, .int .i64 mv, .int .i64 j] 65)) w' → Rd w' (some ⟨wq.heap.size, 0, none⟩) [.int .i64 1, .int .i64 mv, .int .i64 j] := fun w' e => (Rd.made wq [.int .i64 1, .int .i64 mv, .int .i64 j] 65).ext e
          have hone : ∀ u ∈ ([.int .i64 1, .int .i64 mv, .int .i64 j] : List Value), u.oneCell' = true := by intro u hu; simp at hu; rcases hu with rfl | rfl | rfl <;> rfl
          have hownE : ∀ w', Ext wq w' → w'.ownsRow B 65 3 vf fl.length (fl.flatMap Fl.enc) := fun w' e => own_ext Hq.out.fau e
          have hcell : ∀ w1, wq.grownBy w1 vf.ownBlock → w1.cell? ⟨b, 11, none⟩ = some vf ∧ w1.frozen? ⟨b, 11, none⟩ = false := fun w1 hg => by
            have h1 := Hq.out.wat.only (Only.of_grown hg) fun e => (Hq.out.nes.2.2.2.2 b e.symm).1 rfl
            exact ⟨h1.cell (frW_at Hq.out.lcf _ _ _ _ _).2.2.2.2 ⟨w1, Ext.rfl' _⟩, h1.free 11 ⟨w1, Ext.rfl' _⟩⟩
          clear hwq m0 m1 m2 y0 y1 y2 y3 y4 y5 y6 e0 e1 e2 e3 e4 e5 e6 f7 f8 q0 q1 hcs hch Hop1 Hop2 Hcall
          go_region_law ((refine step_appendR _ rfl (.tmp 62) (.tmp 68) 58 rfl B 65 3 24 elemFault Try.underlying58 vf fl.length _ (by simp [Act.eval]) (by first | exact hownE _ ((Ext.rfl' wq).alloc1 _) | exact hownE _ (((Ext.rfl' wq).drew1).alloc1 _) | exact hownE _ (((Ext.rfl' wq).alloc1 _).drew1)) (some ⟨wq.heap.size, 0, none⟩) 1 1 [.int .i64 1, .int .i64 mv, .int .i64 j] (by simp [Act.eval]) hcl (by first | exact hrdE _ (Ext.rfl' _) | exact hrdE _ (Ext.drawn _ 1)) hone (by omega) (by simp; omega) ?_; intro v' w1 hown1 hgrow1 hat1; have hgr : wq.grownBy w1 vf.ownBlock := (by first | exact grownBy_of_alloc hgrow1 | exact grownBy_of_alloc (grown_drewn hgrow1) | exact grown_drewn (grownBy_of_alloc hgrow1)); have hc1 := (hcell w1 hgr).1; have hf1 := (hcell w1 hgr).2; obtain ⟨g5, c5, rfl, _, _, _⟩ := own_form1 hown1 (by omega)))
          all_goals
            have hm := Hq.out.told (x := ⟨1, mv, j⟩) hown1 hgr (hat1.imp id fun e => ⟨_, e, by simp⟩)
            go_wp2_with fail
            go_end0
            rw [HR.out]
            simp only [Bool.false_eq_true, if_false]
            rw [HK.out]
            exact ⟨rfl, _, hm.1, (Only.of_ext (S := WMine b p g1 g2 vh vf) (Ext.next HE.out HEq.out)).trans (hm.2.1.mono (S' := WMine b p g1 g2 vh vf) fun q _ hq => hq.elim .inl fun e => .inr (.inr (.inr (.inr (.inr e))))) fun _ _ h => h, fun q hq => (hm.2.2 q hq).imp id fun e => Nat.le_trans (Ext.next HE.out HEq.out).size e⟩

/-- What a hazard word that reads x holds: a slot, and whether it is Linked. -/
def holdOf (S : Int) (st : List Int) (x : Int) : Int × Bool := if 1 ≤ x ∧ x ≤ S then (x - 1, decide (st.getD (x - 1).toNat 0 = 3)) else (-1, false)
/-- Whether an access writes a hazard word. -/
def writesH (fi : Int) (m : Nat) (a : Ac) : Prop := fi ≤ a.ad ∧ a.ad < fi + m ∧ a.kd ≠ 1 ∧ ¬ (a.kd = 3 ∧ a.sw ≠ a.od)
instance (fi : Int) (m : Nat) (a : Ac) : Decidable (writesH fi m a) := by unfold writesH; infer_instance
def namesF (fi S : Int) (st : List Int) (hd : List (Int × Bool)) (a : Ac) : List (Int × Bool) := if writesH fi hd.length a then hd.set (a.ad - fi).toNat (holdOf S st a.nw) else hd

theorem flat_set2 : ∀ (hd : List (Int × Bool)) (i : Nat) (a : Int) (c : Bool), ((hd.flatMap encH).set (i * 2) (.int .i64 a)).set (i * 2 + 1) (.bool c) = (hd.set i (a, c)).flatMap encH
  | [], i, a, c => by simp
  | x :: hd, 0, a, c => by simp [encH]
  | x :: hd, i + 1, a, c => by
    have := flat_set2 hd i a c
    rw [show (i + 1) * 2 = i * 2 + 1 + 1 from by omega, show i * 2 + 1 + 1 + 1 = (i * 2 + 1) + 1 + 1 from rfl]
    simp only [List.flatMap_cons, encH, List.cons_append, List.nil_append, List.set_cons_succ]
    rw [← this]
theorem flat_len2 (hd : List (Int × Bool)) : (hd.flatMap encH).length = hd.length * 2 := by
  induction hd with
  | nil => rfl
  | cons x hd ih => simp [encH, ih]; omega
theorem flat_get2 {hd : List (Int × Bool)} {i : Nat} {x : Int × Bool} (h : hd[i]? = some x) : (hd.flatMap encH)[i * 2]? = some (.int .i64 x.1) ∧ (hd.flatMap encH)[i * 2 + 1]? = some (.bool x.2) := by
  induction hd generalizing i with
  | nil => simp at h
  | cons y hd ih =>
    cases i with
    | zero =>
      injection h with h
      subst h
      exact ⟨rfl, rfl⟩
    | succ i =>
      rw [show (i + 1) * 2 = i * 2 + 1 + 1 from by omega, show i * 2 + 1 + 1 + 1 = (i * 2 + 1) + 1 + 1 from rfl]
      simp only [List.flatMap_cons, encH, List.cons_append, List.nil_append, List.getElem?_cons_succ]
      exact ih (by simpa using h)

/-- A hold is laid. -/
theorem Wch.held {w : World} {B b p g1 c1 g2 c2 n : Nat} {cf : List Value} {v8 : Value} {fi : Int} {vf : Value} {st ho : List Int} {hd : List (Int × Bool)} {fl : List Fl} {P C : List Int} {gh ch m : Nat}
    (h : Wch w B b p g1 c1 g2 c2 n cf v8 (.slice (some ⟨gh, 0, none⟩) m ch) fi vf st ho hd fl P C) (i : Nat) (a : Int) (c : Bool) :
    Wch ((w.setCell ⟨gh, i * 2, none⟩ (.int .i64 a)).setCell ⟨gh, i * 2 + 1, none⟩ (.bool c)) B b p g1 c1 g2 c2 n cf v8 (.slice (some ⟨gh, 0, none⟩) m ch) fi vf st ho (hd.set i (a, c)) fl P C ∧
      Only (fun q => q = gh) w ((w.setCell ⟨gh, i * 2, none⟩ (.int .i64 a)).setCell ⟨gh, i * 2 + 1, none⟩ (.bool c)) := by
  obtain ⟨n1, n2, n3, nh, nf⟩ := h.nes
  obtain ⟨k1, k2, k3, k4, k5⟩ := nh gh rfl
  have o : Only (fun q => q = gh) w ((w.setCell ⟨gh, i * 2, none⟩ (.int .i64 a)).setCell ⟨gh, i * 2 + 1, none⟩ (.bool c)) := ((Only.refl (fun q => q = gh) w).setCell ⟨gh, i * 2, none⟩ (.int .i64 a) fun _ => rfl).setCell ⟨gh, i * 2 + 1, none⟩ (.bool c) fun _ => rfl
  have hm : m = hd.length := by
    rcases h.hol.2 with ⟨h1, _⟩ | ⟨_, _, _, hv, _⟩
    · cases h1
    · injection hv
  subst hm
  have hr := ((h.hol.stored (i * 2) (.int .i64 a)).1.stored (i * 2 + 1) (.bool c)).1
  rw [flat_set2] at hr
  refine ⟨⟨h.wat.only o fun e => k1 e.symm, h.slo.only o (fun e => k2 e.symm) (fun e => k3 e.symm) (fun e => k4 e.symm), by rw [List.length_set]; exact hr, own_only h.fau o fun q hq (e : q = gh) => k5 (by rw [← e]; exact hq), h.lcf, h.lp, h.lc, h.low⟩, o⟩

/-- What names leaves. -/
def NamesOut (w : World) (B b p g1 c1 g2 c2 n gh : Nat) (cf : List Value) (v8 vh : Value) (fi : Int) (vf : Value) (st ho : List Int) (hd' : List (Int × Bool)) (fl : List Fl) (P C : List Int) (e : Ending) (w' : World) : Prop :=
  e = .returned (.tuple #[]) ∧ Wch w' B b p g1 c1 g2 c2 n cf v8 vh fi vf st ho hd' fl P C ∧ Only (fun q => q = gh) w w'

set_option maxRecDepth 100000 in
set_option maxHeartbeats 4000000 in
theorem names_any (T R H Re Ca S Bk : Int) (B b p g1 c1 g2 c2 n gh ch : Nat) (hn : (n : Int) = S) (hS1 : S ≤ 1024) (v8 : Value) (fi : Int) (vf : Value) (st ho : List Int) (hd : List (Int × Bool)) (fl : List Fl) (P C : List Int) (mv : Int) (A : Option Addr) (ns cs ba oa m : Nat) (hm : hd.length = m) (hm1 : m ≤ 128) (x : Ac)
    (w : World) (hW : Wch w B b p g1 c1 g2 c2 n [.int .i64 T, .int .i64 R, .int .i64 H, .int .i64 Re, .int .i64 Ca, .int .i64 S, .int .i64 Bk] v8 (.slice (some ⟨gh, 0, none⟩) m ch) fi vf st ho hd fl P C) (hx : AcAt w ba oa x)
    (hba : ba < B) (ha0 : 0 ≤ x.ad) (ha1 : x.ad ≤ 100000) (hf0 : 0 ≤ fi) (hf1 : fi ≤ 100000) (hx0 : 0 ≤ x.nw) (hx1 : x.nw ≤ 18446744073709551615) :
    Calls Try.prog 117 #[.pointer (some ⟨b, 0, none⟩), .agg #[.int .i64 mv, .pointer (some ⟨ba, oa, none⟩), .slice A ns cs]] w
      (NamesOut w B b p g1 c1 g2 c2 n gh [.int .i64 T, .int .i64 R, .int .i64 H, .int .i64 Re, .int .i64 Ca, .int .i64 S, .int .i64 Bk] v8 (.slice (some ⟨gh, 0, none⟩) m ch) fi vf st ho (namesF fi S st hd x) fl P C) := by
  have HW := Lib.hid hW
  have HX := Lib.hid hx
  have HF : Hid (namesF fi S st hd x = if writesH fi m x then hd.set (x.ad - fi).toNat (holdOf S st x.nw) else hd) := by rw [← hm]; rfl
  have Hm := Lib.hid hm
  have Hcall : Hid (∀ w, Calls Try.prog 95 #[.int .u64 x.nw] w fun e w' => e = .returned (unlinked x.nw) ∧ w' = w) := fun w => unlink_any x.nw w hx0 hx1
  clear hW hx hm
  go_enter Try.func117, Try.ntmps117
  go_upto_region 1 with fail
  obtain ⟨w0, hw0, hM, hE, hlt0⟩ := enter1 w (.cells #[.int .i64 mv, .pointer (some ⟨ba, oa, none⟩), .slice A ns cs] 189)
  rw [hw0]
  have HE := Lib.hid hE
  obtain ⟨m0, m1, m2⟩ := Lat.cells3 hM
  have hW0 := HW.out.ext hE
  obtain ⟨y0, y1, y2, y3, y4, y5, y6⟩ := (HX.out.ext hE).lat
  obtain ⟨k0, hk0⟩ := lat_self w0
  rw [hk0]
  have f7 := hW0.wat.cell (frW_at hW0.lcf _ _ _ _ _).1
  have f9 := hW0.wat.cell (frW_at hW0.lcf _ _ _ _ _).2.2.1
  have f10 := hW0.wat.cell (frW_at hW0.lcf _ _ _ _ _).2.2.2.1
  have f5 := hW0.wat.cell (i := 5) rfl
  clear hw0 hM hE hk0
  go_upto_region 2 with fail
  by_cases hlo : x.ad < fi
  · have hd0 : decide (x.ad < fi) = true := by simpa using hlo
    have HR : Hid (namesF fi S st hd x = hd) := by
      show _ = _
      rw [HF.out]
      exact if_neg fun h => by unfold writesH at h; omega
    refine wp_region_cls (Ext w0) (Ext.drew1 k0.ok) (by kernel_rfl) (by kernel_rfl) ?_
    repeat (go_big_quiet_step (fail))
    refine wpQuiet_nil ?_
    rintro _ ⟨k2, rfl⟩
    go_wp2_with fail
    go_end0
    rw [HR.out]
    exact ⟨rfl, HW.out.ext (Ext.next HE.out k2.ok), Only.of_ext (Ext.next HE.out k2.ok)⟩
  · have hd0 : decide (x.ad < fi) = false := by simpa using hlo
    by_cases hhi : fi + m ≤ x.ad
    · have hd1 : decide (fi + (m : Int) ≤ x.ad) = true := by simpa using hhi
      have HR : Hid (namesF fi S st hd x = hd) := by
        show _ = _
        rw [HF.out]
        exact if_neg fun h => by unfold writesH at h; omega
      refine wp_region_cls (Ext w0) (Ext.drew1 k0.ok) (by kernel_rfl) (by kernel_rfl) ?_
      repeat (go_big_quiet_step (fail))
      refine wpQuiet_nil ?_
      rintro _ ⟨k2, rfl⟩
      go_wp2_with fail
      go_end0
      rw [HR.out]
      exact ⟨rfl, HW.out.ext (Ext.next HE.out k2.ok), Only.of_ext (Ext.next HE.out k2.ok)⟩
    · have hd1 : decide (fi + (m : Int) ≤ x.ad) = false := by simp; omega
      refine wp_region_cls (Ext w0) (Ext.drew1 k0.ok) (by kernel_rfl) (by kernel_rfl) ?_
      repeat (go_big_quiet_step (fail))
      refine wpQuiet_nil ?_
      rintro _ ⟨k2, rfl⟩
      go_upto_region 3 with fail
      go_cut [63] (fun s_ wr => ∃ (q : Bool) (k : Lat w0), s_ = .bool q ∧ Hid (q = true ↔ (x.kd = 1 ∨ (x.kd = 3 ∧ x.sw ≠ x.od))) ∧ wr = k.world)
      case first =>
        rcases (by omega : x.kd = 1 ∨ (x.kd ≠ 1 ∧ x.kd ≠ 3) ∨ (x.kd ≠ 1 ∧ x.kd = 3 ∧ x.sw ≠ x.od) ∨ (x.kd ≠ 1 ∧ x.kd = 3 ∧ x.sw = x.od)) with h | ⟨h, h2⟩ | ⟨h, h2, h3⟩ | ⟨h, h2, h3⟩
        case' inl =>
          have d1 : (x.kd == 1) = true := by simpa using h
          have HQ : Hid (x.kd = 1 ∨ (x.kd = 3 ∧ x.sw ≠ x.od)) := .inl h
          clear h
        case' inr.inl =>
          have d1 : (x.kd == 1) = false := by simpa using h
          have d2 : (x.kd == 3) = false := by simpa using h2
          have HQ : Hid (¬ (x.kd = 1 ∨ (x.kd = 3 ∧ x.sw ≠ x.od))) := fun e => e.elim h fun e => h2 e.1
          clear h h2
        case' inr.inr.inl =>
          have d1 : (x.kd == 1) = false := by simpa using h
          have d2 : (x.kd == 3) = true := by simpa using h2
          have d3 : (x.sw != x.od) = true := by simpa using h3
          have HQ : Hid (x.kd = 1 ∨ (x.kd = 3 ∧ x.sw ≠ x.od)) := .inr ⟨h2, h3⟩
          clear h h2 h3
        case' inr.inr.inr =>
          have d1 : (x.kd == 1) = false := by simpa using h
          have d2 : (x.kd == 3) = true := by simpa using h2
          have d3 : (x.sw != x.od) = false := by simpa using h3
          have HQ : Hid (¬ (x.kd = 1 ∨ (x.kd = 3 ∧ x.sw ≠ x.od))) := fun e => e.elim h fun e => e.2 h3
          clear h h2 h3
        all_goals
          refine wp_region_cls (Ext w0) (Ext.drew1 k2.ok) (by kernel_rfl) (by kernel_rfl) ?_
          repeat (go_big_quiet_step (fail))
          refine wpQuiet_nil ?_
          rintro _ ⟨k3, rfl⟩
          go_wp2_with fail
          go_meet
          case rel => exact ⟨_, k3, rfl, (by first | exact ⟨fun _ => HQ.out, fun _ => rfl⟩ | exact ⟨(fun h => absurd h (by decide)), fun h => absurd h HQ.out⟩), rfl⟩
      obtain ⟨q, k3, rfl, hq, rfl⟩ := hcut
      cases q with
      | true =>
        have HR : Hid (namesF fi S st hd x = hd) := by
          show _ = _
          rw [HF.out]
          exact if_neg fun h => by
            have := hq.out.1 rfl
            unfold writesH at h
            omega
        clear hq
        go_wp2_with fail
        go_end0
        rw [HR.out]
        exact ⟨rfl, HW.out.ext (Ext.next HE.out k3.ok), Only.of_ext (Ext.next HE.out k3.ok)⟩
      | false =>
        have HR : Hid (namesF fi S st hd x = hd.set (x.ad - fi).toNat (holdOf S st x.nw)) := by
          show _ = _
          rw [HF.out]
          refine if_pos ⟨by omega, by omega, fun h => ?_, fun h => ?_⟩
          · have := hq.out.2 (.inl h)
            cases this
          · have := hq.out.2 (.inr h)
            cases this
        obtain ⟨i, hi⟩ : ∃ i : Nat, x.ad - fi = (i : Int) := ⟨(x.ad - fi).toNat, by omega⟩
        have him : i < m := by omega
        have hi0 : (0 : Int) ≤ (i : Int) := by omega
        have hi1 : (i : Int) < (m : Int) := by omega
        rw [hi, Int.toNat_natCast] at HR
        clear hq
        go_upto_region 4 with fail
        refine wp_region_cls (Ext w0) (Ext.drew1 k3.ok) (by kernel_rfl) (by kernel_rfl) ?_
        repeat (go_big_quiet_step (fail))
        refine wpQuiet_nil ?_
        rintro _ ⟨k4, rfl⟩
        go_upto_region 5 with fail
        obtain ⟨wq, hwq⟩ : ∃ wq, k4.world = wq := ⟨_, rfl⟩
        have HEq : Hid (Ext w wq) := hwq ▸ Ext.next HE.out k4.ok
        have HXq := Lib.hid (HX.out.ext HEq.out)
        rw [hwq]
        have Hq := Lib.hid (HW.out.ext HEq.out)
        obtain ⟨⟨oa1, oa2⟩, hold⟩ : ∃ o, hd[i]? = some o := ⟨_, List.getElem?_eq_getElem (by rw [Hm.out]; exact him)⟩
        obtain ⟨hg1, hg2⟩ := flat_get2 hold
        have hhol : wq.ownsRow B 182 2 (.slice (some ⟨gh, 0, none⟩) m ch) m (hd.flatMap encH) := by
          have := Hq.out.hol
          rwa [Hm.out] at this
        have z1 : wq.cell? ⟨gh, i * 2, none⟩ = some (.int .i64 oa1) := (hhol.cellAt (i * 2) (by omega)).trans hg1
        have z2 : wq.cell? ⟨gh, i * 2 + 1, none⟩ = some (.bool oa2) := (hhol.cellAt (i * 2 + 1) (by omega)).trans hg2
        have zf1 := hhol.frozenAt (i * 2)
        have zf2 := hhol.frozenAt (i * 2 + 1)
        clear hhol hwq hold hg1 hg2 hW0 m0 m1 m2 y0 y1 y2 y3 y4 y5 y6 f5 f7 f9 f10
        go_upto_region 6 with fail
        obtain ⟨hL, oL⟩ := Hq.out.held i (-1) false
        have hgB := (Hq.out.lt (q := gh) (.inr (.inr (.inr (.inr (.inl rfl)))))).1
        generalize (wq.setCell ⟨gh, i * 2, none⟩ (.int .i64 (-1))).setCell ⟨gh, i * 2 + 1, none⟩ (.bool false) = w5 at *
        have H5 := Lib.hid hL
        have O5 := Lib.hid oL
        obtain ⟨y0, y1, y2, y3, y4, y5, y6⟩ := (HXq.out.only oL (by omega)).lat
        obtain ⟨k6, hk6⟩ := lat_self w5
        rw [hk6]
        have f7 := hL.wat.cell (frW_at hL.lcf _ _ _ _ _).1
        have f5 := hL.wat.cell (i := 5) rfl
        clear hL oL hk6 z1 z2 zf1 zf2
        go_wp2_with fail
        by_cases hok1 : x.nw < 8589934592 ∧ x.nw % 4294967296 ≤ 2147483647
        · by_cases hmk : 4294967296 ≤ x.nw
          · have hd5 : decide (4294967296 ≤ x.nw) = true := by simpa using hmk
            have hu : unlinked x.nw = .tuple #[.int .i64 (x.nw % 4294967296 - 1), .bool true, .int .i64 0] := by unfold unlinked; rw [if_pos hok1, hd5]
            have HV : Hid (holdOf S st x.nw = (-1, false)) := if_neg (by omega)
            refine (Hcall.out _).mono ?_
            rintro e w6 ⟨rfl, rfl⟩
            rw [hu]
            clear hu
            go_wp2_with fail
            go_end0
            rw [HR.out, HV.out]
            exact ⟨rfl, H5.out.ext (Ext.next (Ext.rfl' _) k6.ok), (Only.of_ext (S := fun q => q = gh) HEq.out).trans (O5.out.trans (Only.of_ext (S := fun q => q = gh) k6.ok) fun _ _ h => h) fun _ _ h => h⟩
          · have hd5 : decide (4294967296 ≤ x.nw) = false := by simpa using hmk
            have hmod : x.nw % 4294967296 = x.nw := by omega
            by_cases hz : x.nw = 0
            · have hu : unlinked x.nw = .tuple #[.int .i64 (-1), .bool false, .int .i64 0] := by unfold unlinked; rw [if_pos hok1, hd5, hmod, hz]; rfl
              have HV : Hid (holdOf S st x.nw = (-1, false)) := if_neg (by omega)
              refine (Hcall.out _).mono ?_
              rintro e w6 ⟨rfl, rfl⟩
              rw [hu]
              clear hu
              go_wp2_with fail
              go_end0
              rw [HR.out, HV.out]
              exact ⟨rfl, H5.out.ext (Ext.next (Ext.rfl' _) k6.ok), (Only.of_ext (S := fun q => q = gh) HEq.out).trans (O5.out.trans (Only.of_ext (S := fun q => q = gh) k6.ok) fun _ _ h => h) fun _ _ h => h⟩
            · obtain ⟨j, hj⟩ : ∃ j : Nat, x.nw = (j : Int) + 1 := ⟨(x.nw - 1).toNat, by omega⟩
              have hj0 : (0 : Int) ≤ (j : Int) := by omega
              have hneg : decide ((j : Int) < 0) = false := by simp
              have hu : unlinked x.nw = .tuple #[.int .i64 j, .bool false, .int .i64 0] := by unfold unlinked; rw [if_pos hok1, hd5, hmod, hj, Int.add_sub_cancel]
              by_cases hbig : S ≤ (j : Int)
              · have hd6 : decide (S ≤ (j : Int)) = true := by simpa using hbig
                have HV : Hid (holdOf S st x.nw = (-1, false)) := if_neg (by omega)
                refine (Hcall.out _).mono ?_
                rintro e w6 ⟨rfl, rfl⟩
                rw [hu]
                clear hu
                go_wp2_with fail
                go_end0
                rw [HR.out, HV.out]
                exact ⟨rfl, H5.out.ext (Ext.next (Ext.rfl' _) k6.ok), (Only.of_ext (S := fun q => q = gh) HEq.out).trans (O5.out.trans (Only.of_ext (S := fun q => q = gh) k6.ok) fun _ _ h => h) fun _ _ h => h⟩
              · have hd6 : decide (S ≤ (j : Int)) = false := by simp; omega
                have hjn : j < n := by omega
                have hj1 : (j : Int) < (n : Int) := by omega
                obtain ⟨s1, hs1, hcs⟩ := H5.out.slo.lat1 hjn
                obtain ⟨q0, q1⟩ := H5.out.slo.lat
                have HV : Hid (holdOf S st x.nw = ((j : Int), decide (s1 = 3))) := by
                  show _ = _
                  unfold holdOf
                  rw [if_pos (by omega), hj, Int.add_sub_cancel, Int.toNat_natCast, List.getD_eq_getElem?_getD, hs1]
                  rfl
                refine (Hcall.out _).mono ?_
                rintro e w6 ⟨rfl, rfl⟩
                rw [hu]
                clear hu hs1
                by_cases h3 : s1 = 3
                case' pos =>
                  have hd3 : (s1 == 3) = true := by simpa using h3
                  have HV2 : Hid (decide (s1 = 3) = true) := by show _ = _; simpa using h3
                  clear h3
                case' neg =>
                  have hd3 : (s1 == 3) = false := by simpa using h3
                  have HV2 : Hid (decide (s1 = 3) = false) := by show _ = _; simpa using h3
                  clear h3
                all_goals
                  go_upto_region 8 with fail
                  have H6 := Lib.hid (H5.out.ext k6.ok)
                  have hhol : k6.world.ownsRow B 182 2 (.slice (some ⟨gh, 0, none⟩) m ch) m ((hd.set i (-1, false)).flatMap encH) := by
                    have := H6.out.hol
                    rwa [List.length_set, Hm.out] at this
                  obtain ⟨hg1, hg2⟩ := flat_get2 (hd := hd.set i (-1, false)) (i := i) (x := (-1, false)) (List.getElem?_set_self (by rw [Hm.out]; exact him))
                  have z1 : k6.world.cell? ⟨gh, i * 2, none⟩ = some (.int .i64 (-1)) := (hhol.cellAt (i * 2) (by omega)).trans hg1
                  have z2 : k6.world.cell? ⟨gh, i * 2 + 1, none⟩ = some (.bool false) := (hhol.cellAt (i * 2 + 1) (by omega)).trans hg2
                  have zf1 := hhol.frozenAt (i * 2)
                  have zf2 := hhol.frozenAt (i * 2 + 1)
                  clear hhol hg1 hg2
                  go_wp2_with fail
                  go_end0
                  rw [HR.out, HV.out, HV2.out]
                  have hL := H6.out.held i j
                  simp only [List.set_set] at hL
                  exact ⟨rfl, (hL _).1, (Only.of_ext (S := fun q => q = gh) HEq.out).trans ((O5.out.trans (Only.of_ext (S := fun q => q = gh) k6.ok) fun _ _ h => h).trans (hL _).2 fun _ _ h => h) fun _ _ h => h⟩
        · have hu : unlinked x.nw = .tuple #[.int .i64 0, .bool false, .int .i64 10] := if_neg hok1
          have HV : Hid (holdOf S st x.nw = (-1, false)) := if_neg (by omega)
          refine (Hcall.out _).mono ?_
          rintro e w6 ⟨rfl, rfl⟩
          rw [hu]
          clear hu
          go_wp2_with fail
          go_end0
          rw [HR.out, HV.out]
          exact ⟨rfl, H5.out.ext (Ext.next (Ext.rfl' _) k6.ok), (Only.of_ext (S := fun q => q = gh) HEq.out).trans (O5.out.trans (Only.of_ext (S := fun q => q = gh) k6.ok) fun _ _ h => h) fun _ _ h => h⟩

/-- Whether some hazard word holds a slot that has been Linked since. -/
def heldF (hd : List (Int × Bool)) (sl : Int) : Bool := hd.any fun x => decide (x.1 = sl) && x.2
/-- The closure's value. -/
def cloV (px : Nat) : Value := .func (.func 154) #[] #[.pointer (some ⟨px, 0, none⟩)]

theorem closure_any (px : Nat) (a sl : Int) (c : Bool) (w : World) (hx : w.cell? ⟨px, 2, none⟩ = some (.int .i64 sl)) (hlt : px < w.heap.size) :
    Calls Try.prog 154 #[.agg #[.int .i64 a, .bool c], .pointer (some ⟨px, 0, none⟩)] w fun e w' => e = .returned (.bool (decide (a = sl) && c)) ∧ Ext w w' := by
  have hne : px ≠ w.heap.size := by omega
  go_enter Try.func154, Try.ntmps154
  by_cases h : a = sl
  · have hd : (a == sl) = true := by simpa using h
    have hd2 : decide (a = sl) = true := by simpa using h
    clear h
    go_wp2_with fail
    go_ret
    exact ⟨by rw [hd2]; rfl, (Ext.rfl' w).alloc1 _⟩
  · have hd : (a == sl) = false := by simpa using h
    have hd2 : decide (a = sl) = false := by simpa using h
    clear h
    go_wp2_with fail
    go_ret
    exact ⟨by rw [hd2]; rfl, (Ext.rfl' w).alloc1 _⟩

theorem heldF_at {hd : List (Int × Bool)} {i : Nat} {x : Int × Bool} {sl : Int} (h : heldF (hd.take i) sl = false) (hx : hd[i]? = some x) : heldF (hd.take (i + 1)) sl = (decide (x.1 = sl) && x.2) := by
  unfold heldF at h ⊢
  rw [List.take_add_one, hx, List.any_append, h]
  simp
theorem heldF_more {hd : List (Int × Bool)} {i : Nat} {sl : Int} (h : heldF (hd.take i) sl = true) : heldF hd sl = true := by
  unfold heldF at h ⊢
  rw [List.any_eq_true] at h ⊢
  obtain ⟨x, hx, h2⟩ := h
  exact ⟨x, List.mem_of_mem_take hx, h2⟩

set_option maxHeartbeats 1000000 in
theorem index_any (px gh m ch : Nat) (hd : List (Int × Bool)) (hm : hd.length = m) (hm1 : m ≤ 128) (sl : Int) (w : World) (hh : Rd w (some ⟨gh, 0, none⟩) (hd.flatMap encH)) (hx : w.cell? ⟨px, 2, none⟩ = some (.int .i64 sl)) (hlt : px < w.heap.size) :
    Calls Try.prog 168 #[.slice (some ⟨gh, 0, none⟩) m ch, cloV px] w fun e w' => (∃ i : Int, e = .returned (.int .i64 i) ∧ (decide (0 ≤ i) = heldF hd sl)) ∧ Ext w w' := by
  have HH := Lib.hid hh
  have Hm := Lib.hid hm
  have HXc : Hid (∀ c : Lat w, c.world.cell? ⟨px, 2, none⟩ = some (.int .i64 sl)) := fun c => (c.ok.cell (p := ⟨px, 2, none⟩) hlt).trans hx
  have Hlt := Lib.hid hlt
  clear hh hx hm hlt
  obtain ⟨k0, hk0⟩ := lat_self w
  unfold cloV
  go_enter Try.func168, Try.ntmps168
  go_upto_region 2 with fail
  go_loopw [8] (fun s8 wr => ∃ (i : Nat) (k : Lat w), i ≤ m ∧ s8 = .int .i64 i ∧ Hid (heldF (hd.take i) sl = false) ∧ wr = k.world) (fun s _ => m - (intOf s).toNat)
  case atStart => exact ⟨0, k0, by omega, rfl, rfl, rfl⟩
  case round =>
    clear hk0 k0
    obtain ⟨i, k, hi, rfl, hno, rfl⟩ := hrel
    by_cases hlt : i < m
    · have h1 : (i : Int) < (m : Int) := by omega
      have hi0 : (0 : Int) ≤ (i : Int) := by omega
      obtain ⟨x, hx⟩ : ∃ x, hd[i]? = some x := ⟨_, List.getElem?_eq_getElem (by rw [Hm.out]; exact hlt)⟩
      obtain ⟨g1, g2⟩ := flat_get2 hx
      have hrd : ∀ (j : Nat) (u : Value), (hd.flatMap encH)[j]? = some u → k.world.cell? ⟨gh, j, none⟩ = some u := fun j u hu => by
        obtain ⟨b, off, hA, _, hc⟩ := (HH.out.ext k.ok) (by intro e; rw [e] at hu; simp at hu)
        injection hA with hA
        injection hA with hA1 hA2 _
        subst hA1 hA2
        have := hc j u hu
        rwa [Nat.zero_add] at this
      have z1 := hrd _ _ g1
      have z2 := hrd _ _ g2
      have Hn := Lib.hid (heldF_at hno.out hx)
      clear hrd g1 g2 hx
      go_wp2_with fail
      refine (closure_any px x.1 sl x.2 k.world (HXc.out k) (Nat.lt_of_lt_of_le Hlt.out k.size)).mono ?_
      rintro e w1 ⟨rfl, e1⟩
      obtain ⟨k1, rfl⟩ := lat_next k e1
      clear e1
      generalize (decide (x.1 = sl) && x.2) = q at *
      cases q with
      | true =>
        have HT := Lib.hid (heldF_more Hn.out)
        go_wp2_with fail
        go_ret
        exact ⟨⟨_, rfl, by rw [HT.out]; simp⟩, k1.ok⟩
      | false =>
        go_wp2_with fail
        go_roundw
        case rel => exact ⟨i + 1, k1, by omega, by go_num, Hn.out, rfl⟩
        case measure => simp [intOf]; omega
    · obtain rfl : m = i := by omega
      have HN : Hid (heldF hd sl = false) := by
        have := hno.out
        rwa [List.take_of_length_le (by rw [Hm.out]; exact Nat.le_refl _)] at this
      go_wp2_with fail
      go_ret
      exact ⟨⟨_, rfl, by rw [HN.out]; rfl⟩, k.ok⟩

theorem contains_any (px gh m ch : Nat) (hd : List (Int × Bool)) (hm : hd.length = m) (hm1 : m ≤ 128) (sl : Int) (w : World) (hh : Rd w (some ⟨gh, 0, none⟩) (hd.flatMap encH)) (hx : w.cell? ⟨px, 2, none⟩ = some (.int .i64 sl)) (hlt : px < w.heap.size) :
    Calls Try.prog 153 #[.slice (some ⟨gh, 0, none⟩) m ch, cloV px] w fun e w' => e = .returned (.bool (heldF hd sl)) ∧ Ext w w' := by
  have Hc := Lib.hid (index_any px gh m ch hd hm hm1 sl w hh hx hlt)
  unfold cloV at *
  clear hm hh hx hlt
  go_enter Try.func153, Try.ntmps153
  go_wp2_with fail
  refine Hc.out.mono ?_
  rintro e w1 ⟨⟨i, rfl, hi⟩, e1⟩
  have Hi := Lib.hid hi
  have He := Lib.hid e1
  clear hi e1
  go_wp2_with fail
  go_ret
  exact ⟨by rw [Hi.out]; rfl, He.out⟩

end Go.Proofs.Ytfbacopjookplaa
