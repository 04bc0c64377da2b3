/- The greatest numbers of every run of bounded bulk are the document's: the given statement CensusPeaksUpto, with no further condition. -/
import Derived.Test.YtfbacopjookplaaWatchW
import Derived.Test.YtfbacopjookplaaRuns
import Derived.Test.YtfbacopjookplaaPkLaw
import Derived.Test.YtfbacopjookplaaUpto
import Derived.Test.YtfbacopjookplaaAwake
import Derived.Test.YtfbacopjookplaaCensusMay
namespace Go.Proofs.Ytfbacopjookplaa
open Go.RowKit

open Go.ChangeShapes Go.WideShapes Go.ChangeAt Go.RowKit

/-- What holds of the calls and accesses of a run whose parts go together. -/
structure Calm (T : Int) (cs : List Cl) (tr : List Ac) : Prop where
  calls : CallsOK T cs
  place : ∀ a ∈ tr, placeB cs a.th a.mv = true
theorem calm_of {T R H Re Ca S B used : Int} {cs : List Cl} {tr : List Ac} {sh : List Sh} {rw_ : List Int} (h : MayOK T R H Re Ca S B used cs tr sh rw_) : Calm T cs tr := ⟨h.2.2.1, trace_place tr _ _ h.2.2.2.1⟩
theorem calm_pos {T : Int} {cs : List Cl} {tr : List Ac} (h : Calm T cs tr) (hp : 0 < tr.length) : 0 < cs.length := by
  obtain ⟨a, ha⟩ := List.exists_mem_of_length_pos hp
  obtain ⟨i, x, hx, _⟩ := hold_of (h.place a ha)
  have := (List.getElem?_eq_some_iff.1 hx).1
  omega
/-- The steps in their order. -/
def stepL (cs : List Cl) (tr : List Ac) : List Int := sortL (runR cs tr).M
/-- What Peaks leaves. -/
def PkOut (w : World) (er S : Int) (cs : List Cl) (tr : List Ac) (sh : List Sh) (u : Int) (e : Ending) (w' : World) : Prop :=
  Ext w w' ∧ ((er ≠ 0 ∧ e = .returned (.tuple #[pkV [0, 0, 0, 0, 0, 0, 0], .int .i64 er])) ∨ (er = 0 ∧ e = .returned (.tuple #[pkV (peaksD S.toNat u.toNat cs tr sh (stepL cs tr)), .int .i64 0])))

set_option maxRecDepth 100000 in
set_option maxHeartbeats 4000000 in
theorem peaks_any (hM : MaySays) (T R H Re Ca S B used : Int) (A1 : Option Addr) (n1 c1 : Nat) (A2 : Option Addr) (n2 c2 : Nat) (A3 : Option Addr) (n3 c3 : Nat) (A4 : Option Addr) (n4 c4 : Nat) (cs : List Cl) (tr : List Ac) (sh : List Sh) (rw_ : List Int) (w : World)
    (hm : RunMem w A1 n1 A2 n2 A3 n3 A4 n4 cs tr sh rw_) (b1 : n1 ≤ 1048576) (b23 : n2 + n3 ≤ 1048576) :
    Calls Try.prog 43 #[(.agg #[.int .i64 T, .int .i64 R, .int .i64 H, .int .i64 Re, .int .i64 Ca, .int .i64 S, .int .i64 B]), .int .i64 used, .agg #[.slice A1 n1 c1, .slice A2 n2 c2, .slice A3 n3 c3, .slice A4 n4 c4]] w (PkOut w (lookF T R H Re Ca S B used cs tr sh rw_) S cs tr sh used) := by
  have Hm := Lib.hid hm
  have B23 := Lib.hid b23
  clear hm b23
  generalize her : lookF T R H Re Ca S B used cs tr sh rw_ = er
  have HER := Lib.hid her
  clear her
  go_enter Try.func43, Try.ntmps43
  go_upto_region 1 with fail
  obtain ⟨w0, hw0, hC, hR, hE, hlt0⟩ := enter2 w (.cells (cfgV T R H Re Ca S B) 23) (.cells #[.slice A1 n1 c1, .slice A2 n2 c2, .slice A3 n3 c3, .slice A4 n4 c4] 48)
  obtain ⟨wa, hwa, ha, hEa, hlta⟩ := enter1 w0 (.cells #[.int .i64 0, .int .i64 0, .int .i64 0, .int .i64 0, .int .i64 0, .int .i64 0, .int .i64 0] 80)
  rw [hw0, hwa]
  have hs0 : w0.heap.size = w.heap.size + 1 + 1 := by rw [← hw0]; simp
  rw [hs0] at ha
  have HE := Lib.hid hE
  have HEa := Lib.hid hEa
  have HZ := Lib.hid ha
  have Hpr : Hid (w0.heap.size ≤ w.heap.size + 1 + 1) := Nat.le_of_eq hs0
  generalize w.heap.size + 1 + 1 = pr at *
  have Hm0 := Lib.hid (Hm.out.ext hE)
  have HR := Lib.hid hR
  obtain ⟨d0, d1, d2, d3, d4, d5, d6⟩ := Lat.cfg hC
  obtain ⟨r0, r1, r2, r3⟩ := Lat.run hR
  obtain ⟨k0, hk0⟩ := lat_of HEa.out
  rw [hk0] at HZ ⊢
  clear hw0 hwa hC hR hE hEa hk0 hlt0 hlta ha hs0 HEa
  go_wp2_with fail
  refine (cRefused_any hM T R H Re Ca S B used A1 n1 c1 A2 n2 c2 A3 n3 c3 A4 n4 c4 cs tr sh rw_ _ (Hm0.out.ext k0.ok) (by omega)).mono ?_
  rintro e w1 ⟨rfl, e1⟩
  have HZ1 := Lib.hid (ext_blk e1 HZ.out)
  obtain ⟨k1, rfl⟩ := lat_next k0 e1
  rw [HER.out]
  clear e1 HZ
  by_cases he : er = 0
  · subst he
    obtain ⟨s, u, hS, hs1, hs2, hu, hmay, hsl, _⟩ := look_zero HER.out
    obtain ⟨m, hW⟩ := whole_of hS hu hmay
    have HC := Lib.hid (calm_of hmay)
    have HW := Lib.hid hW
    have HN : Hid (S.toNat = s ∧ used.toNat = u) := ⟨by omega, by omega⟩
    clear hmay hW hS hsl
    subst hu
    go_wp2_with fail
    refine (watch_any T R H Re Ca S B HW.out.ok s u m HW.out.sl HW.out.mul A1 n1 c1 A2 n2 c2 A3 n3 c3 A4 n4 c4 tr sh _ (Hm0.out.ext k1.ok).trace (Hm0.out.ext k1.ok).shifts HW.out.ra HW.out.rs B23.out (fun a ha => ⟨(HW.out.tr_ a ha).1.1, (HW.out.tr_ a ha).1.2, (Hm.out.wide a ha).2.1.1, (Hm.out.wide a ha).2.1.2⟩) (fun x hx => by
      have h := (HW.out.sh_ x hx).1
      have h2 := HW.out.sl
      exact ⟨h.1, by omega, h.2.2⟩)).mono ?_
    rintro e w2 ⟨b, p, g1, q1, g2, q2, cf, v8, vh, vf, c, l, rfl, hI, hc, hA, e2⟩
    have HX2 := Lib.hid (Ext.next k1.ok e2)
    have HZ2 := Lib.hid (ext_blk e2 HZ1.out)
    have hP : c.P = pkTo s u sh (sh.length + 1) := by rw [hc]; exact watch_peaks hI
    obtain ⟨a0, a1, a2, a3, a4, hform⟩ := pkTo_form s u sh (sh.length + 1)
    have hP2 : c.P = [a0, a1, a2, a3, a4, 0, 0] := hP.trans hform
    have y0 : ∀ z : Lat w2, z.world.cell? ⟨b, 12, none⟩ = some (.int .i64 a0) := (hA.wat.num (j := 0) (by omega)).elim fun _ h => (Option.some.inj ((show (c.P ++ c.C)[0]? = some a0 by rw [hP2]; rfl).symm.trans h.1)) ▸ h.2
    have y1 : ∀ z : Lat w2, z.world.cell? ⟨b, 13, none⟩ = some (.int .i64 a1) := (hA.wat.num (j := 1) (by omega)).elim fun _ h => (Option.some.inj ((show (c.P ++ c.C)[1]? = some a1 by rw [hP2]; rfl).symm.trans h.1)) ▸ h.2
    have y2 : ∀ z : Lat w2, z.world.cell? ⟨b, 14, none⟩ = some (.int .i64 a2) := (hA.wat.num (j := 2) (by omega)).elim fun _ h => (Option.some.inj ((show (c.P ++ c.C)[2]? = some a2 by rw [hP2]; rfl).symm.trans h.1)) ▸ h.2
    have y3 : ∀ z : Lat w2, z.world.cell? ⟨b, 15, none⟩ = some (.int .i64 a3) := (hA.wat.num (j := 3) (by omega)).elim fun _ h => (Option.some.inj ((show (c.P ++ c.C)[3]? = some a3 by rw [hP2]; rfl).symm.trans h.1)) ▸ h.2
    have y4 : ∀ z : Lat w2, z.world.cell? ⟨b, 16, none⟩ = some (.int .i64 a4) := (hA.wat.num (j := 4) (by omega)).elim fun _ h => (Option.some.inj ((show (c.P ++ c.C)[4]? = some a4 by rw [hP2]; rfl).symm.trans h.1)) ▸ h.2
    have y5 : ∀ z : Lat w2, z.world.cell? ⟨b, 17, none⟩ = some (.int .i64 0) := (hA.wat.num (j := 5) (by omega)).elim fun _ h => (Option.some.inj ((show (c.P ++ c.C)[5]? = some 0 by rw [hP2]; rfl).symm.trans h.1)) ▸ h.2
    have y6 : ∀ z : Lat w2, z.world.cell? ⟨b, 18, none⟩ = some (.int .i64 0) := (hA.wat.num (j := 6) (by omega)).elim fun _ h => (Option.some.inj ((show (c.P ++ c.C)[6]? = some 0 by rw [hP2]; rfl).symm.trans h.1)) ▸ h.2
    have Hform := Lib.hid hform
    clear hA e2 hI hc hP hP2 hform HZ1 d0 d1 d2 d3 d4 d5 d6
    obtain ⟨k2, hk2⟩ := lat_self w2
    rw [hk2]
    go_upto_region 5 with fail
    rw [← hk2]
    clear hk2 k2
    obtain ⟨wq, hwq, hq, hEq, hltq⟩ := enter1 w2 (.cells #[.int .i64 a0, .int .i64 a1, .int .i64 a2, .int .i64 a3, .int .i64 a4, .int .i64 0, .int .i64 0] 80)
    rw [hwq]
    have Hnq : Hid (pr ≠ w2.heap.size) := by have := blk_lt HZ2.out; show _ ≠ _; omega
    have HQ : Hid (PObj wq w2.heap.size [a0, a1, a2, a3, a4, 0, 0]) := ⟨rfl, hq⟩
    have HZq := Lib.hid (ext_blk hEq HZ2.out)
    have HXq := Lib.hid (Ext.next HX2.out hEq)
    have Hqb : Hid (w0.heap.size ≤ w2.heap.size) := HX2.out.size
    generalize w2.heap.size = pb at *
    have f5 : ∀ z : Lat wq, z.world.frozen? ⟨pb, 5, none⟩ = false := HQ.out.free 5
    have f6 : ∀ z : Lat wq, z.world.frozen? ⟨pb, 6, none⟩ = false := HQ.out.free 6
    have c5 : ∀ z : Lat wq, z.world.cell? ⟨pb, 5, none⟩ = some (.int .i64 0) := HQ.out.num rfl
    have c6 : ∀ z : Lat wq, z.world.cell? ⟨pb, 6, none⟩ = some (.int .i64 0) := HQ.out.num rfl
    obtain ⟨q0, q1', q2', q3⟩ := Lat.run (ext_blk HXq.out HR.out)
    have Hsteps : Hid (maxL (withE (runR cs tr).E (fun _ => False) (runR cs tr).S) = maxL (cs.map (stepsD tr))) := by
      show _ = _
      rw [steps_law HC.out.calls HW.out.ra HC.out.place]
    have Hruns := Lib.hid (fun k : Lat wq => runs_any A1 n1 c1 A2 n2 c2 A3 n3 c3 A4 n4 c4 cs tr k.world (Hm0.out.ext (Ext.next HXq.out k.ok)).calls (Hm0.out.ext (Ext.next HXq.out k.ok)).trace b1 (by have := B23.out; omega) (by
      have h1 := Hm.out.calls.1
      have h2 := Hm.out.trace.1
      intro h
      have := calm_pos HC.out (by omega)
      omega))
    rw [Hsteps.out] at Hruns
    have Hres : Hid (pkV (peaksD S.toNat (u : Int).toNat cs tr sh (stepL cs tr)) = .agg #[.int .i64 a0, .int .i64 a1, .int .i64 a2, .int .i64 a3, .int .i64 a4, .int .i64 (gapF cs (sortL (runR cs tr).M)).1, .int .i64 (maxL (cs.map (stepsD tr)))]) := by
      show _ = _
      unfold peaksD stepL
      rw [HN.out.1, HN.out.2, Hform.out]
      rfl
    generalize (gapF cs (sortL (runR cs tr).M)).1 = gp at *
    generalize maxL (cs.map (stepsD tr)) = sp at *
    clear r0 r1 r2 r3 hwq hq hEq hltq y0 y1 y2 y3 y4 y5 y6 Hsteps HX2 HZ2 Hform
    obtain ⟨kq, hkq⟩ := lat_self wq
    rw [hkq]
    clear hkq
    go_wp2_with fail
    refine (Hruns.out kq).mono ?_
    rintro e w3 ⟨rfl, e3⟩
    obtain ⟨k3, rfl⟩ := lat_next kq e3
    clear e3 Hruns
    go_upto_region 6 with fail
    obtain ⟨hP, hO⟩ := (HQ.out.ext k3.ok).set 5 gp
    have hZ := (hO.block pr (blk_lt (ext_blk k3.ok HZq.out)) Hnq.out).trans (ext_blk k3.ok HZq.out)
    have hE := (Ext.next HXq.out k3.ok).only hO fun z hz => by rw [hz]; exact Hqb.out
    generalize k3.world.setCell ⟨pb, 5, none⟩ (.int .i64 gp) = w4 at hP hO hE hZ ⊢
    obtain ⟨hP2, hO2⟩ := hP.set 6 sp
    have hZ2 := (hO2.block pr (blk_lt hZ) Hnq.out).trans hZ
    have hE2 := hE.only hO2 fun z hz => by rw [hz]; exact Hqb.out
    generalize w4.setCell ⟨pb, 6, none⟩ (.int .i64 sp) = w5 at hP2 hO2 hE2 hZ2 ⊢
    have HP5 : Hid (PObj w5 pb [a0, a1, a2, a3, a4, gp, sp]) := hP2
    have HE5 := Lib.hid hE2
    have HZ5 := Lib.hid hZ2
    clear hP hO hE hZ hP2 hO2 hE2 hZ2 f5 f6 c5 c6 q0 q1' q2' q3 HQ HZq HXq kq k3
    have v0 : ∀ c : Lat w5, c.world.cell? ⟨pb, 0, none⟩ = some (.int .i64 a0) := HP5.out.num rfl
    have v1 : ∀ c : Lat w5, c.world.cell? ⟨pb, 1, none⟩ = some (.int .i64 a1) := HP5.out.num rfl
    have v2 : ∀ c : Lat w5, c.world.cell? ⟨pb, 2, none⟩ = some (.int .i64 a2) := HP5.out.num rfl
    have v3 : ∀ c : Lat w5, c.world.cell? ⟨pb, 3, none⟩ = some (.int .i64 a3) := HP5.out.num rfl
    have v4 : ∀ c : Lat w5, c.world.cell? ⟨pb, 4, none⟩ = some (.int .i64 a4) := HP5.out.num rfl
    have v5 : ∀ c : Lat w5, c.world.cell? ⟨pb, 5, none⟩ = some (.int .i64 gp) := HP5.out.num rfl
    have v6 : ∀ c : Lat w5, c.world.cell? ⟨pb, 6, none⟩ = some (.int .i64 sp) := HP5.out.num rfl
    obtain ⟨k5, hk5⟩ := lat_self w5
    rw [hk5]
    clear hk5
    have hPk := ext_blk k5.ok HZ5.out
    go_wp2_with (show wpList _ _ _ ({ dst := _, op := Op.store 80 (Operand.tmp 6) (Operand.tmp 32), type := _, pos := _, after := _, guard := _ } :: _) _ _; refine wpList_store_row rfl _ _ _ rfl pr #[.int .i64 a0, .int .i64 a1, .int .i64 a2, .int .i64 a3, .int .i64 a4, .int .i64 gp, .int .i64 sp] (by kernel_rfl) (by kernel_rfl) _ _ hPk (by kernel_rfl) (by kernel_rfl) (by kernel_rfl) ?_)
    refine bodyPost_ret (results_cell_tmp rfl _ _ pr rfl _ (run_loadVar_row _ _ _ _ _ _ _ (setRow_heap _ _ _ _ _ _ hPk) Try.underlying80 rfl (by kernel_rfl))) rfl ?_
    exact ⟨Ext.next HE.out (Ext.row (Ext.next HE5.out k5.ok) Hpr.out _), .inr ⟨rfl, by rw [Hres.out]; rfl⟩⟩
  · have hb : (er != 0) = true := by simpa using he
    have Hne := Lib.hid he
    clear he
    have hPk := HZ1.out
    go_wp2_with (show wpList _ _ _ ({ dst := _, op := Op.store 80 (Operand.tmp 6) (Operand.tmp 16), type := _, pos := _, after := _, guard := _ } :: _) _ _; refine wpList_store_row rfl _ _ _ rfl pr #[.int .i64 0, .int .i64 0, .int .i64 0, .int .i64 0, .int .i64 0, .int .i64 0, .int .i64 0] (by kernel_rfl) (by kernel_rfl) _ _ hPk (by kernel_rfl) (by kernel_rfl) (by kernel_rfl) ?_)
    refine bodyPost_ret (results_cell_tmp rfl _ _ pr rfl _ (run_loadVar_row _ _ _ _ _ _ _ (setRow_heap _ _ _ _ _ _ hPk) Try.underlying80 rfl (by kernel_rfl))) rfl ?_
    exact ⟨Ext.next HE.out (Ext.row k1.ok Hpr.out _), .inl ⟨Hne.out, rfl⟩⟩

open Go.ChangeShapes Go.WideShapes Go.ChangeAt Go.RowKit

set_option maxRecDepth 100000 in
set_option maxHeartbeats 4000000 in
theorem ref13Peaks_any (T R H Re Ca S B : Int) (s u m : Nat) (A1 : Option Addr) (n1 c1 : Nat) (A2 : Option Addr) (n2 c2 : Nat) (A3 : Option Addr) (n3 c3 : Nat) (A4 : Option Addr) (n4 c4 : Nat) (cs : List Cl) (tr : List Ac) (sh : List Sh) (rw_ : List Int) (w : World)
    (hm : RunMem w A1 n1 A2 n2 A3 n3 A4 n4 cs tr sh rw_) (hw : Whole T R H Re Ca S B s u m tr sh) (hC : Calm T cs tr) (hs1 : 1 ≤ s) (hs2 : s ≤ 1024) (b1 : n1 ≤ 1048576) (b23 : n2 + n3 ≤ 1048576) :
    Calls Try.prog 44 #[(.agg #[.int .i64 T, .int .i64 R, .int .i64 H, .int .i64 Re, .int .i64 Ca, .int .i64 S, .int .i64 B]), .int .i64 u, .agg #[.slice A1 n1 c1, .slice A2 n2 c2, .slice A3 n3 c3, .slice A4 n4 c4]] w fun e w' => e = .returned (pkV (peaksD s u cs tr sh (stepL cs tr))) ∧ Ext w w' := by
  obtain ⟨m1, m2, m3, m4⟩ := moves_law hC.calls hw.ra hC.place
  have Hm := Lib.hid hm
  have HW := Lib.hid hw
  have HC := Lib.hid hC
  have B1 := Lib.hid b1
  have B23 := Lib.hid b23
  obtain ⟨a0, a1, a2, a3, a4, hform⟩ := pkTo_form s u sh (sh.length + 1)
  have Hres : Hid (pkV (peaksD s u cs tr sh (stepL cs tr)) = .agg #[.int .i64 a0, .int .i64 a1, .int .i64 a2, .int .i64 a3, .int .i64 a4, .int .i64 (gapF cs (stepL cs tr)).1, .int .i64 (maxL (cs.map (stepsD tr)))]) := by
    show _ = _
    unfold peaksD
    rw [hform]
    rfl
  have Hcall := Lib.hid (fun (w : World) (hm : RunMem w A1 n1 A2 n2 A3 n3 A4 n4 cs tr sh rw_) => refPeaks_any T R H Re Ca S B s hw.sl hs1 hs2 u A1 n1 c1 A2 n2 c2 A3 n3 c3 A4 n4 c4 cs tr sh (stepL cs tr) w hm.calls hm.trace hm.shifts B1.out (by have := B23.out; omega) (by have := B23.out; omega) (fun x hx => by
    have h := (hw.sh_ x hx).1
    have h2 := hw.sl
    exact ⟨h.1, by omega⟩) m1 m2 m3 hw.ra (by
      have h1 := hm.calls.1
      have h2 := hm.trace.1
      have h3 := B23.out
      have h4 : (stepL cs tr).length ≤ cs.length + tr.length := m4
      omega))
  rw [Hres.out] at Hcall
  have Hr2 := Hres
  generalize (gapF cs (stepL cs tr)).1 = gp at *
  generalize maxL (cs.map (stepsD tr)) = sp at *
  clear hm hw hC b1 b23 hform m1 m2 m3 m4 Hr2
  go_enter Try.func44, Try.ntmps44
  go_upto_region 1 with fail
  obtain ⟨w0, hw0, hC, hR, hE, hlt0⟩ := enter2 w (.cells (cfgV T R H Re Ca S B) 23) (.cells #[.slice A1 n1 c1, .slice A2 n2 c2, .slice A3 n3 c3, .slice A4 n4 c4] 48)
  obtain ⟨wa, hwa, ha, hEa, hlta⟩ := enter1 w0 (.cells #[.int .i64 0, .int .i64 0, .int .i64 0, .int .i64 0, .int .i64 0, .int .i64 0, .int .i64 0] 80)
  rw [hw0, hwa]
  have hs0 : w0.heap.size = w.heap.size + 1 + 1 := by rw [← hw0]; simp
  rw [hs0] at ha
  have HE := Lib.hid hE
  have HEa := Lib.hid hEa
  have HZ := Lib.hid ha
  have Hpr : Hid (w0.heap.size ≤ w.heap.size + 1 + 1) := Nat.le_of_eq hs0
  generalize w.heap.size + 1 + 1 = pr at *
  have Hm0 := Lib.hid (Hm.out.ext hE)
  obtain ⟨d0, d1, d2, d3, d4, d5, d6⟩ := Lat.cfg hC
  obtain ⟨r0, r1, r2, r3⟩ := Lat.run hR
  obtain ⟨k0, hk0⟩ := lat_of HEa.out
  rw [hk0] at HZ ⊢
  clear hw0 hwa hC hR hE hEa hk0 hlt0 hlta ha hs0 HEa
  go_wp2_with fail
  refine (Hcall.out _ (Hm0.out.ext k0.ok)).mono ?_
  rintro e w1 ⟨rfl, e1⟩
  have hPk := ext_blk e1 HZ.out
  have HX := Lib.hid (Ext.next k0.ok e1)
  clear e1
  go_wp2_with (show wpList _ _ _ ({ dst := _, op := Op.store 80 (Operand.tmp 6) (Operand.tmp 10), type := _, pos := _, after := _, guard := _ } :: _) _ _; refine wpList_store_row rfl _ _ _ rfl pr #[.int .i64 a0, .int .i64 a1, .int .i64 a2, .int .i64 a3, .int .i64 a4, .int .i64 gp, .int .i64 sp] (by kernel_rfl) (by kernel_rfl) _ _ hPk (by kernel_rfl) (by kernel_rfl) (by kernel_rfl) ?_)
  refine bodyPost_ret (results_cell_one rfl _ _ pr rfl _ (run_loadVar_row _ _ _ _ _ _ _ (setRow_heap _ _ _ _ _ _ hPk) Try.underlying80 rfl (by kernel_rfl))) rfl ?_
  exact ⟨by rw [Hres.out], Ext.next HE.out (Ext.row HX.out Hpr.out _)⟩

set_option maxRecDepth 100000 in
set_option maxHeartbeats 8000000 in
theorem peaksLaw_any (hM : MaySays) (hA : AwakeSays) (T R H Re Ca S B used mv : Int) (A1 : Option Addr) (n1 c1 : Nat) (A2 : Option Addr) (n2 c2 : Nat) (A3 : Option Addr) (n3 c3 : Nat) (A4 : Option Addr) (n4 c4 : Nat) (cs : List Cl) (tr : List Ac) (sh : List Sh) (rw_ : List Int) (w : World)
    (hm : RunMem w A1 n1 A2 n2 A3 n3 A4 n4 cs tr sh rw_) (b1 : n1 ≤ 1048576) (b23 : n2 + n3 ≤ 1048576) :
    Calls Try.prog 11 #[.agg #[.int .i64 T, .int .i64 R, .int .i64 H, .int .i64 Re, .int .i64 Ca, .int .i64 S, .int .i64 B, .int .i64 used, .slice A1 n1 c1, .slice A2 n2 c2, .slice A3 n3 c3, .slice A4 n4 c4, .int .i64 mv]] w fun e w' => e = .returned (.bool true) ∧ Ext w w' := by
  have Hm := Lib.hid hm
  have B1 := Lib.hid b1
  have B23 := Lib.hid b23
  clear hm b23 b1
  generalize her : lookF T R H Re Ca S B used cs tr sh rw_ = er
  have HER := Lib.hid her
  have Hst := Lib.hid (fun w hm => peaks_any hM T R H Re Ca S B used A1 n1 c1 A2 n2 c2 A3 n3 c3 A4 n4 c4 cs tr sh rw_ w hm B1.out B23.out)
  have Hlk := Lib.hid (fun w hm => ref13Look_any T R H Re Ca S B used A1 n1 c1 A2 n2 c2 A3 n3 c3 A4 n4 c4 cs tr sh rw_ w hm)
  rw [her] at Hst Hlk
  clear her
  go_enter Try.func11, Try.ntmps11
  go_upto_region 1 with fail
  obtain ⟨w0, hw0, hC, hE, hlt0⟩ := enter1 w (.cells #[.int .i64 T, .int .i64 R, .int .i64 H, .int .i64 Re, .int .i64 Ca, .int .i64 S, .int .i64 B, .int .i64 used, .slice A1 n1 c1, .slice A2 n2 c2, .slice A3 n3 c3, .slice A4 n4 c4, .int .i64 mv] 50)
  rw [hw0]
  have HE := Lib.hid hE
  have HC0 := Lib.hid hC
  have Hm0 := Lib.hid (Hm.out.ext hE)
  obtain ⟨d0, d1, d2, d3, d4, d5, d6, d7, d8, d9, d10, d11, d12⟩ := Lat.case_ hC
  obtain ⟨k0, hk0⟩ := lat_self w0
  rw [hk0]
  clear hw0 hC hE hk0 hlt0
  go_wp2_with fail
  refine (Hst.out _ (Hm0.out.ext k0.ok)).mono ?_
  rintro e w1 ⟨e1, ⟨hne, he⟩ | ⟨hz, he⟩⟩
  · have he' : e = .returned (.tuple #[.agg #[.int .i64 0, .int .i64 0, .int .i64 0, .int .i64 0, .int .i64 0, .int .i64 0, .int .i64 0], .int .i64 er]) := he
    subst he'
    have hb0 : (er == 0) = false := beq_eq_false_iff_ne.2 hne
    have hb1 : (er != 0) = true := by simpa using hne
    have hbb : (er == er) = true := by simp
    clear hne he
    obtain ⟨k1, rfl⟩ := lat_next k0 e1
    clear e1
    go_upto_region 2 with fail
    obtain ⟨wp, hwp, hp, hEp, hltp⟩ := enter1 k1.world (.cells #[.int .i64 0, .int .i64 0, .int .i64 0, .int .i64 0, .int .i64 0, .int .i64 0, .int .i64 0] 80)
    rw [hwp]
    have HXp := Lib.hid (Ext.next k1.ok hEp)
    have hCp := ext_blk HXp.out HC0.out
    generalize k1.world.heap.size = pb at *
    have v0 : ∀ c : Lat wp, c.world.cell? ⟨pb, 0, none⟩ = some (.int .i64 0) := Lat.cells hp rfl
    have v1 : ∀ c : Lat wp, c.world.cell? ⟨pb, 1, none⟩ = some (.int .i64 0) := Lat.cells hp rfl
    have v2 : ∀ c : Lat wp, c.world.cell? ⟨pb, 2, none⟩ = some (.int .i64 0) := Lat.cells hp rfl
    have v3 : ∀ c : Lat wp, c.world.cell? ⟨pb, 3, none⟩ = some (.int .i64 0) := Lat.cells hp rfl
    have v4 : ∀ c : Lat wp, c.world.cell? ⟨pb, 4, none⟩ = some (.int .i64 0) := Lat.cells hp rfl
    have v5 : ∀ c : Lat wp, c.world.cell? ⟨pb, 5, none⟩ = some (.int .i64 0) := Lat.cells hp rfl
    have v6 : ∀ c : Lat wp, c.world.cell? ⟨pb, 6, none⟩ = some (.int .i64 0) := Lat.cells hp rfl
    have Hmp := Lib.hid (Hm0.out.ext HXp.out)
    clear d0 d1 d2 d3 d4 d5 d6 d7 d8 d9 d10 d11 d12
    obtain ⟨d0, d1, d2, d3, d4, d5, d6, d7, d8, d9, d10, d11, d12⟩ := Lat.case_ hCp
    obtain ⟨k1', hk1⟩ := lat_self wp
    rw [hk1]
    clear hk1 hwp hp hEp hltp hCp k1
    go_wp2_with fail
    refine (hA _).mono ?_
    rintro e w2 ⟨rfl, e2⟩
    obtain ⟨k2, rfl⟩ := lat_next k1' e2
    clear e2
    go_wp2_with fail
    refine (Hlk.out _ (Hmp.out.ext k2.ok)).mono ?_
    rintro e w3 ⟨rfl, e3⟩
    obtain ⟨k3, rfl⟩ := lat_next k2 e3
    clear e3
    go_wp2_with fail
    go_ret
    exact ⟨rfl, Ext.next HE.out (Ext.next HXp.out k3.ok)⟩
  · subst hz
    obtain ⟨s, u, hS, hs1, hs2, rfl, hmay, _, _⟩ := look_zero HER.out
    obtain ⟨m, hW⟩ := whole_of hS rfl hmay
    have hsn : S.toNat = s := by omega
    have hun : ((u : Int)).toNat = u := by omega
    rw [hsn, hun] at he
    obtain ⟨a0, a1, a2, a3, a4, hform⟩ := pkTo_form s u sh (sh.length + 1)
    have hres : pkV (peaksD s u cs tr sh (stepL cs tr)) = .agg #[.int .i64 a0, .int .i64 a1, .int .i64 a2, .int .i64 a3, .int .i64 a4, .int .i64 (gapF cs (stepL cs tr)).1, .int .i64 (maxL (cs.map (stepsD tr)))] := by
      unfold peaksD
      rw [hform]
      rfl
    have hrf := fun w hm => ref13Peaks_any T R H Re Ca S B s u m A1 n1 c1 A2 n2 c2 A3 n3 c3 A4 n4 c4 cs tr sh rw_ w hm hW (calm_of hmay) hs1 hs2 B1.out B23.out
    rw [hres] at he
    simp only [hres] at hrf
    generalize (gapF cs (stepL cs tr)).1 = gp at *
    generalize maxL (cs.map (stepsD tr)) = sp at *
    have Hrf := Lib.hid hrf
    subst he
    clear hform hres hrf hmay hW hS hsn hun
    have ma0 : (a0 == a0) = true := by simp
    have ma1 : (a1 == a1) = true := by simp
    have ma2 : (a2 == a2) = true := by simp
    have ma3 : (a3 == a3) = true := by simp
    have ma4 : (a4 == a4) = true := by simp
    have mgp : (gp == gp) = true := by simp
    have msp : (sp == sp) = true := by simp
    obtain ⟨k1, rfl⟩ := lat_next k0 e1
    clear e1
    go_upto_region 2 with fail
    obtain ⟨wp, hwp, hp, hEp, hltp⟩ := enter1 k1.world (.cells #[.int .i64 a0, .int .i64 a1, .int .i64 a2, .int .i64 a3, .int .i64 a4, .int .i64 gp, .int .i64 sp] 80)
    rw [hwp]
    have HXp := Lib.hid (Ext.next k1.ok hEp)
    have hCp := ext_blk HXp.out HC0.out
    generalize k1.world.heap.size = pb at *
    have v0 : ∀ c : Lat wp, c.world.cell? ⟨pb, 0, none⟩ = some (.int .i64 a0) := Lat.cells hp rfl
    have v1 : ∀ c : Lat wp, c.world.cell? ⟨pb, 1, none⟩ = some (.int .i64 a1) := Lat.cells hp rfl
    have v2 : ∀ c : Lat wp, c.world.cell? ⟨pb, 2, none⟩ = some (.int .i64 a2) := Lat.cells hp rfl
    have v3 : ∀ c : Lat wp, c.world.cell? ⟨pb, 3, none⟩ = some (.int .i64 a3) := Lat.cells hp rfl
    have v4 : ∀ c : Lat wp, c.world.cell? ⟨pb, 4, none⟩ = some (.int .i64 a4) := Lat.cells hp rfl
    have v5 : ∀ c : Lat wp, c.world.cell? ⟨pb, 5, none⟩ = some (.int .i64 gp) := Lat.cells hp rfl
    have v6 : ∀ c : Lat wp, c.world.cell? ⟨pb, 6, none⟩ = some (.int .i64 sp) := Lat.cells hp rfl
    have Hmp := Lib.hid (Hm0.out.ext HXp.out)
    clear d0 d1 d2 d3 d4 d5 d6 d7 d8 d9 d10 d11 d12
    obtain ⟨d0, d1, d2, d3, d4, d5, d6, d7, d8, d9, d10, d11, d12⟩ := Lat.case_ hCp
    obtain ⟨k1', hk1⟩ := lat_self wp
    rw [hk1]
    clear hk1 hwp hp hEp hltp hCp k1
    go_wp2_with fail
    refine (hA _).mono ?_
    rintro e w2 ⟨rfl, e2⟩
    obtain ⟨k2, rfl⟩ := lat_next k1' e2
    clear e2
    go_wp2_with fail
    refine (Hlk.out _ (Hmp.out.ext k2.ok)).mono ?_
    rintro e w3 ⟨rfl, e3⟩
    obtain ⟨k3, rfl⟩ := lat_next k2 e3
    clear e3
    have Hrf3 : Hid (∀ c : Lat wp, Calls Try.prog 44 #[(.agg #[.int .i64 T, .int .i64 R, .int .i64 H, .int .i64 Re, .int .i64 Ca, .int .i64 S, .int .i64 B]), .int .i64 u, .agg #[.slice A1 n1 c1, .slice A2 n2 c2, .slice A3 n3 c3, .slice A4 n4 c4]] c.world fun e w' => e = .returned (.agg #[.int .i64 a0, .int .i64 a1, .int .i64 a2, .int .i64 a3, .int .i64 a4, .int .i64 gp, .int .i64 sp]) ∧ Ext c.world w') := fun c => Hrf.out c.world (Hmp.out.ext c.ok)
    clear Hrf
    go_upto_region 7 with fail
    refine wp_region_cls (Ext wp) (Ext.drew1 k3.ok) (by kernel_rfl) (by kernel_rfl) ?_
    repeat (go_big_quiet_step (with_reducible exact calls_cls (keeps_ext _) (Hrf3.out _)))
    refine wpQuiet_nil ?_
    rintro _ ⟨k6, rfl⟩
    go_wp2_with fail
    go_ret
    exact ⟨rfl, Ext.next HE.out (Ext.next HXp.out k6.ok)⟩

set_option maxRecDepth 100000 in
theorem censusPeaks_lifted (hM : MaySays) (hA : AwakeSays) (os : Os) (started : os.Started) (H : Type) (enc : TypeId × Value → H) (F : Stop.Interp) :
    ReturnsInHanded {} Try.checked os 11 .any ((Rows.OpenSpec.upto Rows.censusPeaksSpec).pre6 enc Try.prog Try.f11 [] false) (((Rows.OpenSpec.upto Rows.censusPeaksSpec).at F).post enc Try.prog Try.f11 false true false false) := by
  refine lawWrapUp (C := Try.checked) (s := Rows.OpenSpec.upto Rows.censusPeaksSpec) (tb := 4) rfl own_ started (by kernel_rfl) Try.func11
    (OpenSpec.witness (enc := enc) (C := Try.checked) (s := Rows.OpenSpec.upto Rows.censusPeaksSpec) (k := Rows.uptoSmall) rfl false ⟨#[], #[.agg #[.int .i64 0, .int .i64 0, .int .i64 0, .int .i64 0, .int .i64 0, .int .i64 0, .int .i64 0, .int .i64 0, .slice none 0 0, .slice none 0 0, .slice none 0 0, .slice none 0 0, .int .i64 0]], []⟩ 8 (by kernel_rfl) (by kernel_rfl) (by kernel_rfl)
      (x := ([.agg [.agg [.lit (.int .i64 0), .lit (.int .i64 0), .lit (.int .i64 0), .lit (.int .i64 0), .lit (.int .i64 0), .lit (.int .i64 0), .lit (.int .i64 0)], .lit (.int .i64 0), .agg [.nil, .nil, .nil, .nil], .lit (.int .i64 0)]], [], [])) (by kernel_rfl) rfl (by kernel_rfl))
    rfl Try.underlying4 rfl rfl rfl ?_ laidOut_ (by kernel_rfl) ?_
  · intro ds hds
    match ds, hds with
    | [d1], _ => exact ⟨rfl, rfl, rfl⟩
  · intro W base args ds ps hval0 hA0 hlt hsz hup
    have hval : ∀ (j : Nat) t v, Try.f11.params[j]? = some t → args[j]? = some v → Value.okWide Try.prog W .any base t v := hval0
    have hArgs : DataW.TrodAll enc Try.prog W 0 (fun _ => true) true Try.f11.params.toList args.toList ds ps := hA0
    rw [Try.params11] at hArgs hval
    obtain ⟨v0, d0, rfl, rfl, h0⟩ := trodAll_one hArgs
    obtain ⟨T, R, H', Re, Ca, S, B, used, mv, A1, n1, c1, A2, n2, c2, A3, n3, c3, A4, n4, c4, cs, tr, sh, rw_, rfl, hm, b1, b2, b3, b4, b5, b6, _⟩ := openCaseUp (hval 0 50 v0 rfl rfl) h0 (by rw [Try.params11] at hsz; exact hsz) hup
    exact peaksLaw_any hM hA T R H' Re Ca S B used mv A1 n1 c1 A2 n2 c2 A3 n3 c3 A4 n4 c4 cs tr sh rw_ W hm b6 b5

theorem censusPeaks_of (hM : MaySays) (hA : AwakeSays) : Rows.CensusPeaksUptoSaid :=
  OpenClaim.holds_of_cond 11 Try.f11 rfl rfl rfl rfl rfl rfl rfl ⟨rfl, rfl, rfl, rfl, rfl⟩ rfl rfl rfl rfl rfl (by kernel_rfl) Try.func11 (by kernel_rfl)
    (of_decide_eq_true (by kernel_rfl)) (by unfold Func.isWrapper; first | (rw [if_pos (by decide +kernel)]; kernel_rfl) | (rw [if_neg (by decide +kernel)]; exact ⟨rfl, rfl⟩))
    (fun os started H enc _ F => censusPeaks_lifted hM hA os started H enc F)

theorem maySays : MaySays := fun T R H Re Ca S B used A1 n1 c1 A2 n2 c2 A3 n3 c3 A4 n4 c4 cs tr sh rw_ w hm hbig =>
  censusMay_any T R H Re Ca S B used A1 n1 c1 A2 n2 c2 A3 n3 c3 A4 n4 c4 cs tr sh rw_ w hm hbig

theorem awakeSays : AwakeSays := awake_any maySays

theorem censusPeaks_holds : Rows.CensusPeaksUptoSaid := censusPeaks_of maySays awakeSays

end Go.Proofs.Ytfbacopjookplaa
