/- every fault of every run, in their order: the given statement CensusFaultsUpto, with no further condition. -/
import Derived.Test.YtfbacopjookplaaWatchW
import Derived.Test.YtfbacopjookplaaRefFaults
import Derived.Test.YtfbacopjookplaaStatesW
import Derived.Test.YtfbacopjookplaaOpenRun
import Derived.Test.YtfbacopjookplaaRows
import Derived.Deep.CondSized
import Derived.Test.YtfbacopjookplaaCensusMay
import Derived.Test.YtfbacopjookplaaAwake
namespace Go.Proofs.Ytfbacopjookplaa
open Go.RowKit
open Go.ChangeShapes Go.WideShapes Go.ChangeAt Go.RowKit

open Go.ChangeShapes Go.WideShapes Go.ChangeAt Go.RowKit

theorem firstL_len (n b S u : Nat) : (firstL n b S u).length = n := by
  unfold firstL
  split <;> simp only [List.length_set, spareFill_len] <;> split <;> simp
theorem stepW_some {ws ws' : List Int} {a : Ac} (h : stepW ws a = some ws') : (0 ≤ a.ad ∧ a.ad < ws.length) ∧ (a.kd = 1 ∨ a.kd = 2 ∨ a.kd = 3) := by
  unfold stepW at h
  by_cases h1 : 0 ≤ a.ad ∧ a.ad < ws.length
  · refine ⟨h1, ?_⟩
    rw [if_pos h1] at h
    by_cases k1 : a.kd = 1
    · exact .inl k1
    · rw [if_neg k1] at h
      by_cases k2 : a.kd = 2
      · exact .inr (.inl k2)
      · rw [if_neg k2] at h
        by_cases k3 : a.kd = 3
        · exact .inr (.inr k3)
        · rw [if_neg k3] at h
          cases h
  · rw [if_neg h1] at h
    cases h
theorem trace_all {l : List Cl} {n : Nat} {ws' : List Int} : ∀ (tr : List Ac) (p : Int) (ws : List Int), ws.length = n → traceF l p ws tr = some ws' → (∀ a ∈ tr, p < a.mv ∧ (0 ≤ a.ad ∧ a.ad < n) ∧ (a.kd = 1 ∨ a.kd = 2 ∨ a.kd = 3)) ∧ RiseA tr
  | [], _, _, _, _ => ⟨fun a h => by simp at h, fun i k a b _ h => by simp at h⟩
  | a :: tr, p, ws, hl, h => by
    rw [traceF] at h
    by_cases hc : p < a.mv ∧ placeB l a.th a.mv = true
    · rw [if_pos hc] at h
      cases hs : stepW ws a with
      | none => rw [hs] at h; cases h
      | some ws1 =>
        rw [hs] at h
        obtain ⟨ih1, ih2⟩ := trace_all tr a.mv ws1 ((stepW_len hs).trans hl) h
        have hst := stepW_some hs
        rw [hl] at hst
        refine ⟨fun y hy => ?_, fun i k y z hik hy hz => ?_⟩
        · rcases List.mem_cons.1 hy with rfl | hy
          · exact ⟨hc.1, hst⟩
          · have := ih1 y hy
            exact ⟨by have := hc.1; omega, this.2⟩
        · cases k with
          | zero => omega
          | succ k =>
            have hz' : tr[k]? = some z := by simpa using hz
            cases i with
            | zero =>
              simp at hy
              subst hy
              exact (ih1 z (List.mem_of_getElem? hz')).1
            | succ i => exact ih2 i k y z (by omega) (by simpa using hy) hz'
    · rw [if_neg hc] at h
      cases h
theorem shifts_more {l : List Cl} {tr : List Ac} {s : Nat} : ∀ (sh : List Sh) (p q : Int) (st : List Int), (∀ y ∈ st, 0 ≤ y ∧ y ≤ 5) → ShiftsF l tr s p q st sh → ∀ x ∈ sh, placeB l x.th x.mv = true ∧ 0 ≤ x.fr ∧ x.fr ≤ 5 ∧ 0 ≤ x.to ∧ x.to ≤ 5
  | [], _, _, _, _, _ => fun x hx => by simp at hx
  | x :: sh, p, q, st, hb, h => by
    obtain ⟨h1, _, h3, _, h5⟩ := h
    have hfr : 0 ≤ x.fr ∧ x.fr ≤ 5 := by
      rw [h3.2.2.2.2, List.getD_eq_getElem?_getD]
      cases hg : st[x.sl.toNat]? with
      | none => exact ⟨Int.le_refl _, by decide⟩
      | some y => exact hb y (List.mem_of_getElem? hg)
    intro y hy
    rcases List.mem_cons.1 hy with rfl | hy
    · exact ⟨h1.2, hfr.1, hfr.2, h3.2.2.1, h3.2.2.2.1⟩
    · exact shifts_more sh _ _ _ (bd_putS hb h3.2.2.1 h3.2.2.2.1) h5 y hy
/-- What a run whose parts go together says. -/
structure Whole (T R H Re Ca S B : Int) (s u m : Nat) (tr : List Ac) (sh : List Sh) : Prop where
  ok : Okay T R H Re Ca S B
  mul : R * H = (m : Int)
  sl : S = (s : Int)
  ra : RiseA tr
  rs : RiseS sh
  tr_ : ∀ a ∈ tr, (0 ≤ a.ad ∧ a.ad < sumOf R H S B 13) ∧ (a.kd = 1 ∨ a.kd = 2 ∨ a.kd = 3) ∧ 0 ≤ a.mv
  sh_ : ∀ x ∈ sh, (0 ≤ x.sl ∧ x.sl < s ∧ 0 ≤ x.fr ∧ x.fr ≤ 5 ∧ 0 ≤ x.to ∧ x.to ≤ 5) ∧ 0 ≤ x.mv
theorem whole_of {T R H Re Ca S B used : Int} {cs : List Cl} {tr : List Ac} {sh : List Sh} {rw_ : List Int} {s u : Nat} (hS : S = s) (_hu : used = u) (h : MayOK T R H Re Ca S B used cs tr sh rw_) : ∃ m : Nat, Whole T R H Re Ca S B s u m tr sh := by
  obtain ⟨h1, h2, h3, h4, h5⟩ := h
  have hok := h1
  unfold Okay at hok
  have hmul : 1 * 3 ≤ R * H := Int.mul_le_mul (by omega) (by omega) (by omega) (by omega)
  have hsz := sumOf_bd R H S B (by omega) (by omega) (by omega) (by omega) (by omega) (by omega) (by omega) (by omega) 13
  obtain ⟨t1, t2⟩ := trace_all tr _ _ (firstL_len _ _ _ _) h4
  have hs1 := shifts_all sh _ _ _ h5
  have hs2 := shifts_more sh _ _ _ (bd_beginS _ _) h5
  have hsn : S.toNat = s := by omega
  refine ⟨(R * H).toNat, h1, by omega, hS, t2, ?_, ?_, ?_⟩
  · intro i k a b hik ha hb
    by_cases he : i = k
    · subst he
      rw [ha] at hb
      injection hb with hb
      rw [hb]
      exact Int.le_refl _
    · exact hs1.2 i k a b (by omega) ha hb
  · intro a ha
    have := t1 a ha
    exact ⟨⟨this.2.1.1, by have := this.2.1.2; omega⟩, this.2.2, by have := this.1; omega⟩
  · intro x hx
    have a1 := hs1.1 x hx
    have a2 := hs2 x hx
    have a3 := place_pos h3.1 a2.1
    rw [hsn] at a1
    exact ⟨⟨a1.2.1, a1.2.2, a2.2⟩, by omega⟩
/-- What Faults leaves. -/
def FauOut (w : World) (er R H S B : Int) (tr : List Ac) (sh : List Sh) (u : Int) (e : Ending) (w' : World) : Prop :=
  Ext w w' ∧ ((er ≠ 0 ∧ e = .returned (.tuple #[.slice none 0 0, .int .i64 er])) ∨
    (er = 0 ∧ ∃ (l : List Mo) (v : Value) (fl : List Fl), MInv tr sh tr.length sh.length l ∧ fl = (watchF R H S B (sumOf R H S B 8) S.toNat u.toNat (R * H).toNat tr l).fl ∧ e = .returned (.tuple #[v, .int .i64 0]) ∧ w'.ownsRow w.heap.size 65 3 v fl.length (fl.flatMap Fl.enc)))

set_option maxRecDepth 100000 in
set_option maxHeartbeats 4000000 in
theorem faults_any (hM : MaySays) (T R H Re Ca S B used : Int) (A1 : Option Addr) (n1 c1 : Nat) (A2 : Option Addr) (n2 c2 : Nat) (A3 : Option Addr) (n3 c3 : Nat) (A4 : Option Addr) (n4 c4 : Nat) (cs : List Cl) (tr : List Ac) (sh : List Sh) (rw_ : List Int) (w : World)
    (hm : RunMem w A1 n1 A2 n2 A3 n3 A4 n4 cs tr sh rw_) (b1 : n1 * 72 ≤ 140737488355328) (b23 : n2 + n3 ≤ 1048576) :
    Calls Try.prog 27 #[(.agg #[.int .i64 T, .int .i64 R, .int .i64 H, .int .i64 Re, .int .i64 Ca, .int .i64 S, .int .i64 B]), .int .i64 used, .agg #[.slice A1 n1 c1, .slice A2 n2 c2, .slice A3 n3 c3, .slice A4 n4 c4]] w (FauOut w (lookF T R H Re Ca S B used cs tr sh rw_) R H S B tr sh used) := by
  have Hm := Lib.hid hm
  have B23 := Lib.hid b23
  clear hm b23
  generalize her : lookF T R H Re Ca S B used cs tr sh rw_ = er
  have HER := Lib.hid her
  clear her
  go_enter Try.func27, Try.ntmps27
  go_upto_region 1 with fail
  obtain ⟨w0, hw0, hC, hR, hE, hlt0⟩ := enter2 w (.cells (cfgV T R H Re Ca S B) 23) (.cells #[.slice A1 n1 c1, .slice A2 n2 c2, .slice A3 n3 c3, .slice A4 n4 c4] 48)
  rw [hw0]
  have HE := Lib.hid hE
  have Hm0 := Lib.hid (Hm.out.ext hE)
  obtain ⟨d0, d1, d2, d3, d4, d5, d6⟩ := Lat.cfg hC
  obtain ⟨r0, r1, r2, r3⟩ := Lat.run hR
  obtain ⟨k0, hk0⟩ := lat_self w0
  rw [hk0]
  clear hw0 hC hR hE hk0 hlt0
  go_wp2_with fail
  refine (cRefused_any hM T R H Re Ca S B used A1 n1 c1 A2 n2 c2 A3 n3 c3 A4 n4 c4 cs tr sh rw_ _ (Hm0.out.ext k0.ok) b1).mono ?_
  rintro e w1 ⟨rfl, e1⟩
  obtain ⟨k1, rfl⟩ := lat_next k0 e1
  rw [HER.out]
  clear e1
  by_cases he : er = 0
  · subst he
    obtain ⟨s, u, hS, hs1, hs2, hu, hmay, _, _⟩ := look_zero HER.out
    obtain ⟨m, hW⟩ := whole_of hS hu hmay
    have HW := Lib.hid hW
    have HN : Hid (S.toNat = s ∧ used.toNat = u ∧ (R * H).toNat = m) := ⟨by omega, by omega, by have := hW.mul; omega⟩
    have Hu := Lib.hid hu
    clear hmay hW hS
    subst hu
    go_wp2_with fail
    refine (watch_any T R H Re Ca S B HW.out.ok s u m HW.out.sl HW.out.mul A1 n1 c1 A2 n2 c2 A3 n3 c3 A4 n4 c4 tr sh _ (Hm0.out.ext k1.ok).trace (Hm0.out.ext k1.ok).shifts HW.out.ra HW.out.rs B23.out (fun a ha => ⟨(HW.out.tr_ a ha).1.1, (HW.out.tr_ a ha).1.2, (Hm.out.wide a ha).2.1.1, (Hm.out.wide a ha).2.1.2⟩) (fun x hx => by
      have h := (HW.out.sh_ x hx).1
      have h2 := HW.out.sl
      exact ⟨h.1, by omega, h.2.2⟩)).mono ?_
    rintro e w2 ⟨b, p, g1, q1, g2, q2, cf, v8, vh, vf, c, l, rfl, hI, hc, hA, e2⟩
    have HX2 := Lib.hid (Ext.next (Ext.next HE.out k1.ok) e2)
    have HA2 := Lib.hid hA
    have HI := Lib.hid hI
    have Hc := Lib.hid hc
    have hbase : Hid (w.heap.size ≤ k1.world.heap.size) := Nat.le_trans HE.out.size k1.ok.size
    have y0 := hA.wat.cell (frW_at hA.lcf p v8 vh _ vf).2.2.2.2
    clear hA e2 hI hc
    obtain ⟨k2, hk2⟩ := lat_self w2
    rw [hk2]
    clear hk2
    go_wp2_with fail
    go_ret2
    refine ⟨Ext.next HX2.out k2.ok, .inr ⟨rfl, l, vf, c.fl, HI.out, ?_, rfl, own_base (own_ext HA2.out.fau k2.ok) hbase.out⟩⟩
    obtain ⟨z1, z2, z3⟩ := HN.out
    rw [Hc.out, z1, z2, z3]
  · have hb : (er != 0) = true := by simpa using he
    have Hne := Lib.hid he
    clear he
    go_wp2_with fail
    go_ret2
    exact ⟨Ext.next HE.out k1.ok, .inl ⟨Hne.out, rfl⟩⟩

set_option maxHeartbeats 4000000 in
theorem ref13Faults_any (T R H Re Ca S B : Int) (s u m : Nat) (A1 : Option Addr) (n1 c1 : Nat) (A2 : Option Addr) (n2 c2 : Nat) (A3 : Option Addr) (n3 c3 : Nat) (A4 : Option Addr) (n4 c4 : Nat) (cs : List Cl) (tr : List Ac) (sh : List Sh) (rw_ : List Int) (l : List Mo) (w : World)
    (hm : RunMem w A1 n1 A2 n2 A3 n3 A4 n4 cs tr sh rw_) (hw : Whole T R H Re Ca S B s u m tr sh) (b23 : n2 + n3 ≤ 1048576) (hi : MInv tr sh tr.length sh.length l) :
    Calls Try.prog 29 #[(.agg #[.int .i64 T, .int .i64 R, .int .i64 H, .int .i64 Re, .int .i64 Ca, .int .i64 S, .int .i64 B]), .int .i64 u, .agg #[.slice A1 n1 c1, .slice A2 n2 c2, .slice A3 n3 c3, .slice A4 n4 c4]] w (RFlOut w (refFl R H S B (sumOf R H S B 8) s u m tr sh l)) := by
  have Hm := Lib.hid hm
  have HW := Lib.hid hw
  have HI := Lib.hid hi
  have B23 := Lib.hid b23
  have hc := Cov.of hi
  have Hc := Lib.hid hc
  have Hl0 : Hid (∀ mo ∈ l, 0 ≤ mo.mv) := fun mo hmo => by
    rcases hc.full mo hmo with h | h
    · cases ho : acO tr mo with
      | none => exact absurd ho h
      | some a =>
        rw [← hc.at_ mo hmo a ho]
        refine (hw.tr_ a ?_).2.2
        rw [hc.tr_]
        exact List.mem_filterMap.2 ⟨mo, hmo, ho⟩
    · obtain ⟨x, hx⟩ := List.exists_mem_of_ne_nil _ h
      rw [← hc.st_ mo hmo x hx]
      refine (hw.sh_ x ?_).2
      rw [hc.sh_]
      exact List.mem_flatMap.2 ⟨mo, hmo, hx⟩
  have Hll : Hid (l.length ≤ 1048576) := by
    have h1 := hi.len
    have h2 := hm.trace.1
    have h3 := hm.shifts.1
    show _ ≤ _
    omega
  clear hm hw hi b23 hc
  go_enter Try.func29, Try.ntmps29
  go_upto_region 1 with fail
  obtain ⟨w0, hw0, hC, hR, hE, hlt0⟩ := enter2 w (.cells (cfgV T R H Re Ca S B) 23) (.cells #[.slice A1 n1 c1, .slice A2 n2 c2, .slice A3 n3 c3, .slice A4 n4 c4] 48)
  rw [hw0]
  have HE := Lib.hid hE
  have Hm0 := Lib.hid (Hm.out.ext hE)
  obtain ⟨d0, d1, d2, d3, d4, d5, d6⟩ := Lat.cfg hC
  obtain ⟨r0, r1, r2, r3⟩ := Lat.run hR
  obtain ⟨k0, hk0⟩ := lat_self w0
  rw [hk0]
  clear hw0 hC hR hE hk0 hlt0
  go_wp2_with fail
  refine (refFaults_any T R H Re Ca S B HW.out.ok s HW.out.sl u m HW.out.mul A1 n1 c1 A2 n2 c2 A3 n3 c3 A4 n4 c4 tr sh l _ (Hm0.out.ext k0.ok).trace (Hm0.out.ext k0.ok).shifts B23.out Hc.out Hl0.out Hll.out (fun a ha => (HW.out.tr_ a ha).1) (fun x hx => (HW.out.sh_ x hx).1)).mono ?_
  rintro e w1 ⟨v, rfl, hO, e1⟩
  have HX := Lib.hid (Ext.next (Ext.next HE.out k0.ok) e1)
  have HO := Lib.hid (own_base hO (Nat.le_trans HE.out.size k0.ok.size))
  clear hO e1
  go_wp2_with fail
  go_ret
  exact ⟨v, rfl, HO.out, HX.out⟩

/-- A row of faults at every later world. -/
theorem fl_row {w : World} {base : Nat} {A : Option Addr} {n c : Nat} {l : List Fl} (h : w.ownsRow base 65 3 (.slice A n c) n (l.flatMap Fl.enc)) {i : Nat} {x : Fl} (hx : l[i]? = some x) :
    ∃ b o, A = some ⟨b, o, none⟩ ∧ (∀ k : Lat w, k.world.cell? ⟨b, o + i * 3, none⟩ = some (.int .i64 x.kd)) ∧ (∀ k : Lat w, k.world.cell? ⟨b, o + i * 3 + 1, none⟩ = some (.int .i64 x.mv)) ∧ (∀ k : Lat w, k.world.cell? ⟨b, o + i * 3 + 2, none⟩ = some (.int .i64 x.sl)) := by
  have hr := Rd.of_own h
  have hg : ∀ (k : Nat) (u : Value), x.enc[k]? = some u → (l.flatMap Fl.enc)[i * 3 + k]? = some u := fun k u hu => flat_get (enc := Fl.enc) (size := 3) (fun _ => rfl) hx hu
  obtain ⟨b, o, rfl, _, p0⟩ := hr.lat (hg 0 _ rfl)
  obtain ⟨b', o', e1, _, p1⟩ := hr.lat (hg 1 _ rfl)
  injection e1 with e1
  injection e1 with e1 e2
  subst e1 e2
  obtain ⟨b', o', e1, _, p2⟩ := hr.lat (hg 2 _ rfl)
  injection e1 with e1
  injection e1 with e1 e2
  subst e1 e2
  exact ⟨b, o, rfl, p0, p1, p2⟩

set_option maxRecDepth 100000 in
set_option maxHeartbeats 8000000 in
theorem faultsLaw_any (hM : MaySays) (hA : AwakeSays) (T R H Re Ca S B used mv : Int) (A1 : Option Addr) (n1 c1 : Nat) (A2 : Option Addr) (n2 c2 : Nat) (A3 : Option Addr) (n3 c3 : Nat) (A4 : Option Addr) (n4 c4 : Nat) (cs : List Cl) (tr : List Ac) (sh : List Sh) (rw_ : List Int) (w : World)
    (hm : RunMem w A1 n1 A2 n2 A3 n3 A4 n4 cs tr sh rw_) (b1 : n1 * 72 ≤ 140737488355328) (b23 : n2 + n3 ≤ 1048576) :
    Calls Try.prog 6 #[.agg #[.int .i64 T, .int .i64 R, .int .i64 H, .int .i64 Re, .int .i64 Ca, .int .i64 S, .int .i64 B, .int .i64 used, .slice A1 n1 c1, .slice A2 n2 c2, .slice A3 n3 c3, .slice A4 n4 c4, .int .i64 mv]] w fun e w' => e = .returned (.bool true) ∧ Ext w w' := by
  have Hm := Lib.hid hm
  have B23 := Lib.hid b23
  clear hm b23
  generalize her : lookF T R H Re Ca S B used cs tr sh rw_ = er
  have HER := Lib.hid her
  have Hst := Lib.hid (fun w hm => faults_any hM T R H Re Ca S B used A1 n1 c1 A2 n2 c2 A3 n3 c3 A4 n4 c4 cs tr sh rw_ w hm b1 B23.out)
  have Hlk := Lib.hid (fun w hm => ref13Look_any T R H Re Ca S B used A1 n1 c1 A2 n2 c2 A3 n3 c3 A4 n4 c4 cs tr sh rw_ w hm)
  rw [her] at Hst Hlk
  clear her
  go_enter Try.func6, Try.ntmps6
  go_upto_region 1 with fail
  obtain ⟨w0, hw0, hC, hE, hlt0⟩ := enter1 w (.cells #[.int .i64 T, .int .i64 R, .int .i64 H, .int .i64 Re, .int .i64 Ca, .int .i64 S, .int .i64 B, .int .i64 used, .slice A1 n1 c1, .slice A2 n2 c2, .slice A3 n3 c3, .slice A4 n4 c4, .int .i64 mv] 50)
  rw [hw0]
  have HE := Lib.hid hE
  have Hm0 := Lib.hid (Hm.out.ext hE)
  obtain ⟨d0, d1, d2, d3, d4, d5, d6, d7, d8, d9, d10, d11, d12⟩ := Lat.case_ hC
  obtain ⟨k0, hk0⟩ := lat_self w0
  rw [hk0]
  clear hw0 hC hE hk0 hlt0
  go_wp2_with fail
  refine (Hst.out _ (Hm0.out.ext k0.ok)).mono ?_
  rintro e w1 ⟨e1, ⟨hne, rfl⟩ | ⟨rfl, l, v, fl, hI, hfl, rfl, hO⟩⟩
  · have hb0 : (er == 0) = false := beq_eq_false_iff_ne.2 hne
    have hb1 : (er != 0) = true := by simpa using hne
    have hbb : (er == er) = true := by simp
    clear hne
    obtain ⟨k1, rfl⟩ := lat_next k0 e1
    clear e1
    go_wp2_with fail
    refine (hA _).mono ?_
    rintro e w2 ⟨rfl, e2⟩
    obtain ⟨k2, rfl⟩ := lat_next k1 e2
    clear e2
    go_wp2_with fail
    refine (Hlk.out _ (Hm0.out.ext k2.ok)).mono ?_
    rintro e w3 ⟨rfl, e3⟩
    obtain ⟨k3, rfl⟩ := lat_next k2 e3
    clear e3
    go_wp2_with fail
    go_ret
    exact ⟨rfl, Ext.next HE.out k3.ok⟩
  · obtain ⟨s, u, hS, hs1, hs2, rfl, hmay, _, _⟩ := look_zero HER.out
    obtain ⟨m, hW⟩ := whole_of hS rfl hmay
    have HW := Lib.hid hW
    have hlaw : fl = refFl R H S B (sumOf R H S B 8) s u m tr sh l := by
      have hsn : S.toNat = s := by omega
      have hun : ((u : Int)).toNat = u := by omega
      have hmn : (R * H).toNat = m := by have := hW.mul; omega
      rw [hfl, hsn, hun, hmn]
      exact fault_law hS (fun x hx => ⟨(hW.sh_ x hx).1.1, (hW.sh_ x hx).1.2.1⟩) (fun a ha => (hW.tr_ a ha).2.1) hI
    have Hlaw := Lib.hid hlaw
    have HI := Lib.hid hI
    obtain ⟨k1, rfl⟩ := lat_next k0 e1
    have HO := Lib.hid hO
    obtain ⟨n, hn⟩ : ∃ n, fl.length = n := ⟨_, rfl⟩
    rw [hn] at HO
    have Hn := Lib.hid hn
    obtain ⟨A5, c5, rfl⟩ := own_form HO.out
    have hbig : n ≤ 9223372036854775807 := by
      have := HO.out.1
      rcases HO.out.2 with ⟨_, h0⟩ | ⟨g, cap, cur, hv, _, _, h5, h6, _⟩
      · omega
      · unfold maxLen at h6
        omega
    clear e1 hO hmay hW hlaw hfl hI hn hS
    go_wp2_with fail
    refine (hA _).mono ?_
    rintro e w2 ⟨rfl, e2⟩
    have HO2 := Lib.hid (own_ext HO.out e2)
    obtain ⟨k2, rfl⟩ := lat_next k1 e2
    clear e2
    go_wp2_with fail
    refine (Hlk.out _ (Hm0.out.ext k2.ok)).mono ?_
    rintro e w3 ⟨rfl, e3⟩
    have HO3 := Lib.hid (own_ext HO2.out e3)
    obtain ⟨k3, rfl⟩ := lat_next k2 e3
    clear e3
    go_wp2_with fail
    refine (ref13Faults_any T R H Re Ca S B s u m A1 n1 c1 A2 n2 c2 A3 n3 c3 A4 n4 c4 cs tr sh rw_ l _ (Hm0.out.ext k3.ok) HW.out B23.out HI.out).mono ?_
    rintro e w4 ⟨v4, rfl, hR4, e4⟩
    rw [← Hlaw.out, Hn.out] at hR4
    have HO4 := Lib.hid (own_ext HO3.out e4)
    have HR4 := Lib.hid hR4
    have HX4 := Lib.hid (Ext.next k3.ok e4)
    obtain ⟨A6, c6, rfl⟩ := own_form hR4
    clear e4 hR4 d0 d1 d2 d3 d4 d5 d6 d7 d8 d9 d10 d11 d12 HO HO2 HO3
    obtain ⟨k4, hk4⟩ := lat_self w4
    rw [hk4]
    go_upto_region 11 with fail
    go_loopw [7] (fun s9 wr => ∃ (k : Lat w4) (i : Nat), wr = k.world ∧ i ≤ n ∧ s9 = .int .i64 i) (fun s_ _ => n - (intOf s_).toNat)
    case atStart => exact ⟨k4, 0, rfl, by omega, rfl⟩
    case round =>
      obtain ⟨k, i, rfl, hi, rfl⟩ := hrel
      by_cases hlt : i < n
      · have z1 : (i : Int) < (n : Int) := by omega
        have z0 : (0 : Int) ≤ (i : Int) := by omega
        obtain ⟨⟨x1, x2, x3⟩, hx⟩ : ∃ x, fl[i]? = some x := ⟨_, List.getElem?_eq_getElem (by rw [Hn.out]; exact hlt)⟩
        obtain ⟨b5, o5, rfl, x10, x11, x12⟩ := fl_row HO4.out hx
        obtain ⟨b6, o6, rfl, x20, x21, x22⟩ := fl_row HR4.out hx
        have nn1 : (x1 != x1) = false := by simp
        have nn2 : (x2 != x2) = false := by simp
        have nn3 : (x3 != x3) = false := by simp
        have mm1 : (x1 == x1) = true := by simp
        have mm2 : (x2 == x2) = true := by simp
        have mm3 : (x3 == x3) = true := by simp
        clear hx
        go_upto_region 13 with fail
        refine wp_region_cls (Ext w4) (Ext.drew1 k.ok) (by kernel_rfl) (by kernel_rfl) ?_
        repeat (go_big_quiet_step (fail))
        refine wpQuiet_nil ?_
        rintro _ ⟨k6, rfl⟩
        go_wp2_with fail
        go_roundw
        case rel => exact ⟨k6, i + 1, rfl, by omega, by go_num⟩
        case measure => simp [intOf]; omega
      · obtain rfl : n = i := by omega
        go_wp2_with fail
        go_ret
        exact ⟨rfl, Ext.next HE.out (Ext.next HX4.out k.ok)⟩

section
variable {H : Type}
theorem one_le (d : DataW H) : 1 ≤ Rows.uptoBulk d := by
  cases d with
  | lit l => cases l <;> simp [Rows.uptoBulk]
  | nil => simp [Rows.uptoBulk]
  | ptr d => simp [Rows.uptoBulk]
  | slice elems spare => simp [Rows.uptoBulk]
  | agg parts => simp [Rows.uptoBulk]
  | iface t d => simp [Rows.uptoBulk]
  | map entries => simp [Rows.uptoBulk]
  | held h => simp [Rows.uptoBulk]
theorem part_le {d : DataW H} {l : List (DataW H)} (h : d ∈ l) : Rows.uptoBulk d ≤ Rows.uptoBulkAll l := by
  induction l with
  | nil => cases h
  | cons x r ih =>
    simp only [Rows.uptoBulkAll]
    cases List.mem_cons.1 h with
    | inl e => subst e; omega
    | inr e => have := ih e; omega
theorem length_bulk (l : List (DataW H)) : l.length ≤ Rows.uptoBulkAll l := by
  induction l with
  | nil => simp [Rows.uptoBulkAll]
  | cons x r ih => have := one_le x; simp only [Rows.uptoBulkAll, List.length_cons]; omega
theorem bulk_two {l : List (DataW H)} {i j : Nat} {x y : DataW H} (hij : i < j) (hx : l[i]? = some x) (hy : l[j]? = some y) : Rows.uptoBulk x + Rows.uptoBulk y ≤ Rows.uptoBulkAll l := by
  induction l generalizing i j with
  | nil => simp at hx
  | cons z r ih =>
    simp only [Rows.uptoBulkAll]
    cases j with
    | zero => omega
    | succ j =>
      have hy' : r[j]? = some y := by simpa using hy
      cases i with
      | zero =>
        simp at hx
        subst hx
        have := part_le (List.mem_of_getElem? hy')
        omega
      | succ i =>
        have := ih (i := i) (j := j) (by omega) (by simpa using hx) hy'
        omega
theorem len_bulk {z : DataW H} {n c : Nat} (hn : n ≤ c) (h : (z = .nil ∧ c = 0) ∨ ∃ el sp, z = .slice el sp ∧ el.length = n ∧ el.length + sp.length = c) : n ≤ Rows.uptoBulk z := by
  rcases h with ⟨_, h0⟩ | ⟨el, sp, rfl, h1, _⟩
  · omega
  · have := length_bulk el
    simp only [Rows.uptoBulk]
    omega
end

section
variable {H : Type} {enc : TypeId × Value → H} {W : World}

set_option maxRecDepth 100000 in
/-- A configuration, a number, a run, a number of moves. -/
theorem openCaseUp {base : Nat} {v : Value} {d : DataW H} {ps : List MemPlace} (hok : Value.okWide Try.prog W .any base 50 v)
    (h : DataW.Trod enc Try.prog W 0 (fun _ => true) true 50 v d ps) (hsz : (DataW.weightsEach Try.prog [50] [d]).all (· ≤ reachBytes) = true) (hup : Rows.uptoBulkAll [d] ≤ 1048576) :
    ∃ (T R H' Re Ca S B used mv : Int) (A1 : Option Addr) (n1 c1 : Nat) (A2 : Option Addr) (n2 c2 : Nat) (A3 : Option Addr) (n3 c3 : Nat) (A4 : Option Addr) (n4 c4 : Nat) (cs : List Cl) (tr : List Ac) (sh : List Sh) (rw_ : List Int),
      v = .agg #[.int .i64 T, .int .i64 R, .int .i64 H', .int .i64 Re, .int .i64 Ca, .int .i64 S, .int .i64 B, .int .i64 used, .slice A1 n1 c1, .slice A2 n2 c2, .slice A3 n3 c3, .slice A4 n4 c4, .int .i64 mv] ∧
      RunMem W A1 n1 A2 n2 A3 n3 A4 n4 cs tr sh rw_ ∧ n1 * 72 ≤ 140737488351232 ∧ n2 * 56 ≤ 140737488351232 ∧ n3 * 40 ≤ 140737488351232 ∧ n4 * 8 ≤ 140737488351232 ∧ n2 + n3 ≤ 1048576 ∧ n1 ≤ 1048576 ∧ n4 ≤ 1048576 := by
  obtain ⟨vs, rfl, _⟩ := okWide_struct Try.underlying50 hok
  obtain ⟨fuel, h⟩ := h
  obtain ⟨hl, xs, n, hx, hf⟩ := dec_parts Try.underlying50 h
  have hx : d = .agg (xs.map (·.1)) := hx
  subst hx
  have hsz1 := all_parts (j := 0) hsz rfl rfl Try.underlying50
  rw [show Try.prog.cellsOf 50 = 13 by kernel_rfl] at hl
  obtain ⟨cl, rfl⟩ : ∃ cl : List Value, vs = cl.toArray := ⟨vs.toList, by simp⟩
  have hl : cl.length = 13 := hl
  match cl, hl with
  | [c0, c1, c2, c3, c4, c5, c6, c7, c8, c9, c10, c11, c12], _ =>
    obtain ⟨y0, h0, _⟩ := hf 0 _ rfl
    obtain ⟨y1, h1, _⟩ := hf 1 _ rfl
    obtain ⟨y2, h2, g2⟩ := hf 2 _ rfl
    obtain ⟨y3, h3, _⟩ := hf 3 _ rfl
    simp only [Value.cells] at h0 h1 h2 h3
    simp only [List.getElem_toArray, List.getElem_cons_zero, List.getElem_cons_succ, cells_i, cells_cf, cells_ru, List.drop_zero, List.take_succ_cons, List.take_zero, List.drop_succ_cons] at h0 h1 h2 h3
    obtain ⟨T, R, H', Re, Ca, S, B, e0, _⟩ := dec_cfg _ _ _ h0
    obtain ⟨used, e1, _⟩ := dec_int Try.underlying3 _ _ _ h1
    obtain ⟨mv, e3, _⟩ := dec_int Try.underlying3 _ _ _ h3
    injection e0 with e00 e0
    injection e0 with e01 e0
    injection e0 with e02 e0
    injection e0 with e03 e0
    injection e0 with e04 e0
    injection e0 with e05 e0
    injection e0 with e06 e0
    injection e1 with e1 _
    injection e3 with e3 _
    subst e00 e01 e02 e03 e04 e05 e06 e1 e3
    obtain ⟨_, zs, n', hz, hg⟩ := dec_parts Try.underlying48 h2
    have hd2 : (xs.map (·.1))[2]? = some (.agg (zs.map (·.1))) := by rw [List.getElem?_map, g2, ← hz]; rfl
    have hsz2 := all_parts (j := 2) hsz1 rfl hd2 Try.underlying48
    obtain ⟨⟨z0, p0⟩, k0, q0⟩ := hg 0 _ rfl
    obtain ⟨⟨z1, p1⟩, k1, q1⟩ := hg 1 _ rfl
    obtain ⟨⟨z2, p2⟩, k2, q2⟩ := hg 2 _ rfl
    obtain ⟨⟨z3, p3⟩, k3, q3⟩ := hg 3 _ rfl
    simp only [List.getElem_toArray, List.getElem_cons_zero, List.getElem_cons_succ, cells_s1, cells_s2, cells_s3, cells_s4, List.drop_zero, List.take_succ_cons, List.take_zero, List.drop_succ_cons] at k0 k1 k2 k3
    obtain ⟨A1, n1, c1, cs, rfl, hn1, ha1, _, hd1⟩ := openArr Cl.enc (fun _ => True) Try.underlying44 dec_call k0
    obtain ⟨A2, n2, c2, tr, rfl, hn2, ha2, hw2, hd2'⟩ := openArr Ac.enc _ Try.underlying45 dec_access k1
    obtain ⟨A3, n3, c3, sh, rfl, hn3, ha3, _, hd3⟩ := openArr Sh.enc (fun _ => True) Try.underlying46 dec_shift k2
    obtain ⟨A4, n4, c4, ws, rfl, hn4, ha4, _, hd4⟩ := openArr (fun x => [Value.int .u64 x]) (fun _ => True) Try.underlying24 (fun fuel cs x h => by obtain ⟨a, e, _⟩ := dec_int Try.underlying25 fuel cs x h; exact ⟨a, e, trivial⟩) k3
    have r1 := reach_slice (j := 0) hsz2 rfl (by rw [List.getElem?_map, q0]; rfl) Try.underlying44 hd1
    have r2 := reach_slice (j := 1) hsz2 rfl (by rw [List.getElem?_map, q1]; rfl) Try.underlying45 hd2'
    have r3 := reach_slice (j := 2) hsz2 rfl (by rw [List.getElem?_map, q2]; rfl) Try.underlying46 hd3
    have r4 := reach_slice (j := 3) hsz2 rfl (by rw [List.getElem?_map, q3]; rfl) Try.underlying24 hd4
    rw [show Try.prog.bytesOf 150 = 72 by kernel_rfl] at r1
    rw [show Try.prog.bytesOf 129 = 56 by kernel_rfl] at r2
    rw [show Try.prog.bytesOf 136 = 40 by kernel_rfl] at r3
    rw [show Try.prog.bytesOf 25 = 8 by kernel_rfl] at r4
    have hup1 : Rows.uptoBulkAll (xs.map (·.1)) ≤ 1048576 := by
      simp only [Rows.uptoBulkAll, Rows.uptoBulk] at hup
      omega
    have hup2 : Rows.uptoBulkAll (zs.map (·.1)) ≤ 1048576 := by
      have h5 := part_le (List.mem_of_getElem? hd2)
      simp only [Rows.uptoBulk] at h5
      omega
    have u1 := len_bulk hn2 hd2'
    have u2 := len_bulk hn3 hd3
    have u0 := len_bulk hn1 hd1
    have u3 := len_bulk hn4 hd4
    have hu12 : Rows.uptoBulk z1 + Rows.uptoBulk z2 ≤ Rows.uptoBulkAll (zs.map (·.1)) := bulk_two (i := 1) (j := 2) (by decide) (by rw [List.getElem?_map, q1]; rfl) (by rw [List.getElem?_map, q2]; rfl)
    have hu03 : Rows.uptoBulk z0 + Rows.uptoBulk z3 ≤ Rows.uptoBulkAll (zs.map (·.1)) := bulk_two (i := 0) (j := 3) (by decide) (by rw [List.getElem?_map, q0]; rfl) (by rw [List.getElem?_map, q3]; rfl)
    have hw : Rd W A4 (ws.map (Value.int .u64)) := by
      have := ha4.2
      rwa [List.flatMap_def, flatten_one] at this
    exact ⟨T, R, H', Re, Ca, S, B, used, mv, A1, n1, c1, A2, n2, c2, A3, n3, c3, A4, n4, c4, cs, tr, sh, ws, rfl, ⟨ha1, ha2, ha3, hw, ha4.1, by omega, by omega, by omega, by omega, hw2⟩, by omega, by omega, by omega, by omega, by omega, by omega, by omega⟩
end

/-- From a law's walk to its row, for an input of bounded bulk. -/
theorem lawWrapUp {H : Type} {enc : TypeId × Value → H} {C : Checked} {os : Os} {f : FuncId} {fn : Func} {s : OpenSpec} {tb : TypeId} {F : Stop.Interp} (hk : s.cond = some Rows.uptoSmall)
    (own : ownKnob C.prog.godebug = none) (started : os.Started) (noInit : C.prog.inits.idxOf? f = none) (hfn : C.prog.funcs[f]? = some fn)
    (witness : ∃ (w : World) (tape : Tape) (i : Input), w.os = os ∧ (w.forCall tape i).Shaped C.prog ∧ i.vars = [] ∧ Input.okWide C.prog (w.forCall tape i) .any w.heap.size f i ∧
      s.pre6 enc C.prog fn [] false (w.forCall tape i).memory i.args ∧ ({} : Assume).holds C.prog (lone (Frame.enter C.prog f i.args .normal) [] (w.forCall tape i)))
    (hres : fn.resultTypes = #[tb]) (htb : C.prog.underlying tb = some .bool) (hvars : s.vars = []) (hvars' : (s.at F).vars = []) (hvt : s.bare.plain.varTypes C.prog = [])
    (hspec : ∀ ds : List (DataW H), ds.length = fn.params.size → ((s.at F).fn H ds).results = [.lit (.bool true)] ∧ ((s.at F).fn H ds).args = ds ∧ ((s.at F).fn H ds).vars = [])
    (hl : laidOutB C.prog = true) (hr : fn.params.toList.all (fun t => C.prog.readableRec t && decide (t < C.prog.types.size)) = true)
    (walk : ∀ (W : World) (base : Nat) (args : Array Value) (ds : List (DataW H)) (ps : List MemPlace),
      (∀ (j : Nat) t v, fn.params[j]? = some t → args[j]? = some v → Value.okWide C.prog W .any base t v) →
      DataW.TrodAll enc C.prog W 0 (fun _ => true) true fn.params.toList args.toList ds ps → (∀ x ∈ ps, x.block < W.heap.size) →
      (DataW.weightsEach C.prog fn.params.toList ds).all (· ≤ reachBytes) = true → Rows.uptoBulkAll ds ≤ 1048576 →
      Calls C.prog f args W fun e W' => e = .returned (.bool true) ∧ Below W.heap.size W W') :
    ReturnsInHanded {} C os f .any (s.pre6 enc C.prog fn [] false) ((s.at F).post enc C.prog fn false true false false) := by
  refine returnsInHanded_of_cond_sized hk own started noInit hfn witness ?_
  intro W base args ds gs before hval hW _ hkk hsz _
  have hW' := hW
  obtain ⟨p, q, hA, hV, rfl, _, _⟩ := hW
  rw [hvars] at hV
  obtain ⟨rfl, rfl⟩ := trodVars_none hV
  rw [hvt] at hsz
  simp only [List.append_nil] at hsz hW' hkk
  have hup : Rows.uptoBulkAll ds ≤ 1048576 := of_decide_eq_true hkk
  have hlt : ∀ x ∈ p, x.block < W.heap.size := fun x hx => by simpa using hW'.lt x hx
  refine (walk W base args ds p hval hA hlt hsz hup).mono fun e W' ⟨he, hb⟩ => ?_
  subst he
  have hlen : ds.length = fn.params.size := by rw [trodAll_len hA]; simp
  obtain ⟨s1, s2, s3⟩ := hspec ds hlen
  have hr' : ∀ t ∈ fn.params.toList, C.prog.readableRec t = true ∧ t < C.prog.types.size := fun t ht => by
    have := (List.all_eq_true.1 hr) t ht
    simpa using this
  rw [hvars] at hW'
  refine ⟨_, rfl, ds, [], p, [], p, [], (by rw [hvars']; exact hW'), ?_, ?_, ?_, hb.frame _, fun h => by cases h⟩
  · simp only [List.append_nil, s1, hres]
    exact ⟨[], [], shut_bool htb true, rfl, rfl⟩
  · simp only [List.append_nil, s2]
    exact trodAll_below hl hb hr' hA hlt
  · simp only [List.append_nil, s3, hvars']
    rfl

set_option maxRecDepth 100000 in
theorem censusFaults_lifted (hM : MaySays) (hA : AwakeSays) (os : Os) (started : os.Started) (H : Type) (enc : TypeId × Value → H) (F : Stop.Interp) :
    ReturnsInHanded {} Try.checked os 6 .any ((Rows.OpenSpec.upto Rows.censusFaultsSpec).pre6 enc Try.prog Try.f6 [] false) (((Rows.OpenSpec.upto Rows.censusFaultsSpec).at F).post enc Try.prog Try.f6 false true false false) := by
  refine lawWrapUp (C := Try.checked) (s := Rows.OpenSpec.upto Rows.censusFaultsSpec) (tb := 4) rfl own_ started (by kernel_rfl) Try.func6
    (OpenSpec.witness (enc := enc) (C := Try.checked) (s := Rows.OpenSpec.upto Rows.censusFaultsSpec) (k := Rows.uptoSmall) rfl false ⟨#[], #[.agg #[.int .i64 0, .int .i64 0, .int .i64 0, .int .i64 0, .int .i64 0, .int .i64 0, .int .i64 0, .int .i64 0, .slice none 0 0, .slice none 0 0, .slice none 0 0, .slice none 0 0, .int .i64 0]], []⟩ 8 (by kernel_rfl) (by kernel_rfl) (by kernel_rfl)
      (x := ([.agg [.agg [.lit (.int .i64 0), .lit (.int .i64 0), .lit (.int .i64 0), .lit (.int .i64 0), .lit (.int .i64 0), .lit (.int .i64 0), .lit (.int .i64 0)], .lit (.int .i64 0), .agg [.nil, .nil, .nil, .nil], .lit (.int .i64 0)]], [], [])) (by kernel_rfl) rfl (by kernel_rfl))
    rfl Try.underlying4 rfl rfl rfl ?_ laidOut_ (by kernel_rfl) ?_
  · intro ds hds
    match ds, hds with
    | [d1], _ => exact ⟨rfl, rfl, rfl⟩
  · intro W base args ds ps hval0 hA0 hlt hsz hup
    have hval : ∀ (j : Nat) t v, Try.f6.params[j]? = some t → args[j]? = some v → Value.okWide Try.prog W .any base t v := hval0
    have hArgs : DataW.TrodAll enc Try.prog W 0 (fun _ => true) true Try.f6.params.toList args.toList ds ps := hA0
    rw [Try.params6] at hArgs hval
    obtain ⟨v0, d0, rfl, rfl, h0⟩ := trodAll_one hArgs
    obtain ⟨T, R, H', Re, Ca, S, B, used, mv, A1, n1, c1, A2, n2, c2, A3, n3, c3, A4, n4, c4, cs, tr, sh, rw_, rfl, hm, b1, b2, b3, b4, b5, _, _⟩ := openCaseUp (hval 0 50 v0 rfl rfl) h0 (by rw [Try.params6] at hsz; exact hsz) hup
    exact faultsLaw_any hM hA T R H' Re Ca S B used mv A1 n1 c1 A2 n2 c2 A3 n3 c3 A4 n4 c4 cs tr sh rw_ W hm (by omega) b5

theorem censusFaults_of (hM : MaySays) (hA : AwakeSays) : Rows.CensusFaultsUptoSaid :=
  OpenClaim.holds_of_cond 6 Try.f6 rfl rfl rfl rfl rfl rfl rfl ⟨rfl, rfl, rfl, rfl, rfl⟩ rfl rfl rfl rfl rfl (by kernel_rfl) Try.func6 (by kernel_rfl)
    (of_decide_eq_true (by kernel_rfl)) (by unfold Func.isWrapper; first | (rw [if_pos (by decide +kernel)]; kernel_rfl) | (rw [if_neg (by decide +kernel)]; exact ⟨rfl, rfl⟩))
    (fun os started H enc _ F => censusFaults_lifted hM hA os started H enc F)

theorem maySays : MaySays := fun T R H Re Ca S B used A1 n1 c1 A2 n2 c2 A3 n3 c3 A4 n4 c4 cs tr sh rw_ w hm hbig =>
  censusMay_any T R H Re Ca S B used A1 n1 c1 A2 n2 c2 A3 n3 c3 A4 n4 c4 cs tr sh rw_ w hm hbig

theorem awakeSays : AwakeSays := awake_any maySays

theorem censusFaults_holds : Rows.CensusFaultsUptoSaid := censusFaults_of maySays awakeSays

end Go.Proofs.Ytfbacopjookplaa
