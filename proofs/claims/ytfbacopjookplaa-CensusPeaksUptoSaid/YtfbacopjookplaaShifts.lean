/- The walk of the document's shifts: whether the changes of state go together. -/
import Derived.Test.YtfbacopjookplaaShiftsPure
import Derived.Test.YtfbacopjookplaaEnds
import Derived.Deep.DeepCutAuto
namespace Go.Proofs.Ytfbacopjookplaa
open Go.RowKit

set_option maxRecDepth 100000 in
set_option maxHeartbeats 4000000 in
theorem shifts_any (T R H Re Ca S B : Int) (s : Nat) (hS : S = s) (hs1 : 1 ≤ s) (hs2 : s ≤ 1024) (u : Nat)
    (A1 : Option Addr) (n1 c1 : Nat) (A2 : Option Addr) (n2 c2 : Nat) (A3 : Option Addr) (n3 c3 : Nat) (A4 : Option Addr) (n4 c4 : Nat) (cs : List Cl) (tr : List Ac) (sh : List Sh) (rw_ : List Int) (w : World)
    (hm : RunMem w A1 n1 A2 n2 A3 n3 A4 n4 cs tr sh rw_) (hA : CallsA T (-1) cs) :
    Calls Try.prog 113 #[(.agg #[.int .i64 T, .int .i64 R, .int .i64 H, .int .i64 Re, .int .i64 Ca, .int .i64 S, .int .i64 B]), .int .i64 u, .agg #[.slice A1 n1 c1, .slice A2 n2 c2, .slice A3 n3 c3, .slice A4 n4 c4]] w
      (Says (ShiftsF cs tr s (-1) (-1) (beginS s u) sh) w) := by
  subst hS
  have Hm := Lib.hid hm
  have HA := Lib.hid hA
  have Hbegin := Lib.hid (fun w => refBegin_any T R H Re Ca (s : Int) B s rfl hs1 hs2 u w)
  have hb2 := hm.big2
  have hb3 := hm.big3
  clear hm hA
  go_enter Try.func113, Try.ntmps113
  go_upto_region 1 with fail
  obtain ⟨w0, hw0, hC, hR, hE, hlt0⟩ := enter2 w (.cells (cfgV T R H Re Ca s B) 23) (.cells #[.slice A1 n1 c1, .slice A2 n2 c2, .slice A3 n3 c3, .slice A4 n4 c4] 48)
  rw [hw0]
  have HE := Lib.hid hE
  have HC := Lib.hid hC
  have HR := Lib.hid hR
  have Hm0 := Lib.hid (Hm.out.ext hE)
  obtain ⟨d0, d1, d2, d3, d4, d5, d6⟩ := Lat.cfg hC
  obtain ⟨r0, r1, r2, r3⟩ := Lat.run hR
  obtain ⟨k0, hk0⟩ := lat_self w0
  rw [hk0]
  clear hw0 hC hR hE hk0
  go_wp2_with fail
  refine (Hbegin.out _).mono ?_
  rintro e w1 ⟨g1, e1c, g2, e2c, rfl, htwo, e1⟩
  have HTW : Hid (Two w1 w0.heap.size g1 e1c g2 e2c s (beginS s u) (List.replicate s (-1))) := ⟨own_base htwo.own1 k0.ok.size, own_base htwo.own2 k0.ok.size⟩
  obtain ⟨k1, rfl⟩ := lat_next k0 e1
  clear htwo e1
  go_wp2_with fail
  go_loopw [9] (fun s9 wr => ∃ (k : Lat w0) (i : Nat) (st ho : List Int), wr = k.world ∧ i ≤ n3 ∧ s9 = .int .i64 i ∧ Hid (Two k.world w0.heap.size g1 e1c g2 e2c s st ho) ∧
      Hid (ShiftsF cs tr s (-1) (-1) (beginS s u) sh ↔ ShiftsF cs tr s (prevSh sh i).1 (prevSh sh i).2 st (sh.drop i))) (fun s _ => n3 - (intOf s).toNat)
  case atStart => exact ⟨k1, 0, _, _, rfl, by omega, rfl, HTW.out, Iff.rfl⟩
  case round =>
    clear HTW
    obtain ⟨k, i, st, ho, rfl, hi, rfl, htw, hrest⟩ := hrel
    by_cases hlt : i < n3
    · obtain ⟨ba, off, x, hAx, hb, hx, x0, x1, x2, x3, x4⟩ := Sh.at_ Hm0.out.shifts hlt
      have h1 : (i : Int) < (n3 : Int) := by omega
      have hi0 : (0 : Int) ≤ (i : Int) := by omega
      subst hAx
      have Hstep := Lib.hid (hrest.out.trans (shiftsF_step hx.out))
      go_upto_region 6 with fail
      obtain ⟨w3, hw3, hX, hE3, hlt3⟩ := enter1 k.world (.cells #[.int .i64 x.mv, .int .i64 x.th, .int .i64 x.sl, .int .i64 x.fr, .int .i64 x.to] 136)
      rw [hw3]
      clear x0 x1 x2 x3 x4
      have HE3 := Lib.hid (Ext.next k.ok hE3)
      have HT3 := Lib.hid (htw.out.ext hE3)
      obtain ⟨x0, x1, x2, x3, x4⟩ := Sh.boxed hX
      clear d0 d1 d2 d3 d4 d5 d6 r0 r1 r2 r3
      obtain ⟨d0, d1, d2, d3, d4, d5, d6⟩ := Lat.cfg (ext_blk HE3.out HC.out)
      obtain ⟨r0, r1, r2, r3⟩ := Lat.run (ext_blk HE3.out HR.out)
      obtain ⟨k3, hk3⟩ := lat_self w3
      rw [hk3]
      generalize k.world.heap.size = p at *
      have Hm3 := Lib.hid (Hm0.out.ext HE3.out)
      have Hpl : Hid (∀ c : Lat w3, Calls Try.prog 149 #[.slice A1 n1 c1, .int .i64 x.th, .int .i64 x.mv] c.world fun e w' => e = .returned (.bool (placeB cs x.th x.mv)) ∧ Ext c.world w') :=
        fun c => place_any A1 n1 c1 cs x.th x.mv c.world (Hm3.out.calls.ext c.ok) Hm3.out.big1
      clear hw3 hX hE3 hk3 hlt3
      generalize hpl : placeB cs x.th x.mv = pb at Hpl Hstep
      have HPL := Lib.hid hpl
      clear hpl
      have hprev : i = 0 ∨ ∃ (m : Nat) (y : Sh), (i : Int) - 1 = (m : Int) ∧ m < n3 ∧ 1 ≤ i ∧ Hid (sh[m]? = some y) ∧ Hid (prevSh sh i = (y.mv, y.th)) ∧ (∀ c : Lat w3, c.world.cell? ⟨ba, off + m * 5, none⟩ = some (.int .i64 y.mv)) ∧ (∀ c : Lat w3, c.world.cell? ⟨ba, off + m * 5 + 1, none⟩ = some (.int .i64 y.th)) := by
        by_cases hi1 : i = 0
        · exact .inl hi1
        · obtain ⟨b', off', y, hAy, _, hy, y0, y1, _⟩ := Sh.at_ Hm3.out.shifts (i := i - 1) (by omega)
          injection hAy with hAy
          injection hAy with hb1 hb2
          subst hb1 hb2
          refine .inr ⟨i - 1, y, by omega, by omega, by omega, hy, ?_, y0, y1⟩
          have := prevSh_succ hy.out
          rwa [show i - 1 + 1 = i from by omega] at this
      have Hprev := Lib.hid hprev
      clear hprev
      go_cut [53] (fun s wr => ∃ (q : Bool) (k : Lat w3), s = .bool q ∧ Hid (q = false ↔ (prevSh sh i).1 ≤ x.mv ∧ pb = true) ∧ wr = k.world)
      case first =>
        rcases Hprev.out with hi1 | ⟨m, y, hm, hmn, hii, hy, hpv, y0, y1⟩
        · have hd7 : decide ((0 : Int) < (i : Int)) = false := by simp; omega
          have hd8 : decide (0 < i) = false := by simp; omega
          have HP : Hid (pb = true → (prevSh sh i).1 ≤ x.mv) := fun h => by
            rw [hi1]
            have := (place_pos HA.out (HPL.out.trans h)).1
            show -1 ≤ _
            omega
          have hii : i ≤ 0 := by omega
          clear hi1
          refine wp_region_cls (Ext w3) (Ext.drew1 k3.ok) (by kernel_rfl) (by kernel_rfl) ?_
          repeat (go_big_quiet_step (exact calls_cls (keeps_ext _) (Hpl.out _)))
          refine wpQuiet_nil ?_
          rintro _ ⟨k6, rfl⟩
          go_wp2_with fail
          go_meet
          case rel => exact ⟨_, k6, rfl, by show _ ↔ _; have := HP.out; simp; exact this, rfl⟩
        · have hmi : (m : Int) < (n3 : Int) := by omega
          have hm0 : (0 : Int) ≤ (m : Int) := by omega
          have hd7 : decide ((0 : Int) < (i : Int)) = true := by simp; omega
          have hd8 : decide (0 < i) = true := by simp; omega
          by_cases hle : x.mv < y.mv
          case' pos => have hdl : decide (x.mv < y.mv) = true := by simpa using hle
          case' neg => have hdl : decide (x.mv < y.mv) = false := by simpa using hle
          all_goals
            have HLE := Lib.hid hle
            clear hle
            refine wp_region_cls (Ext w3) (Ext.drew1 k3.ok) (by kernel_rfl) (by kernel_rfl) ?_
            repeat (go_big_quiet_step (exact calls_cls (keeps_ext _) (Hpl.out _)))
            refine wpQuiet_nil ?_
            rintro _ ⟨k6, rfl⟩
            go_wp2_with fail
            go_meet
            case rel => exact ⟨_, k6, rfl, by show _ ↔ _; rw [hpv.out]; have := HLE.out; simp; omega, rfl⟩
      obtain ⟨q, k4, rfl, hq, rfl⟩ := hcut
      cases q with
      | true =>
        have HB : Hid (¬ ShiftsF cs tr s (-1) (-1) (beginS s u) sh) := fun h => by have := hq.out.2 (Hstep.out.1 h).1; cases this
        clear hq
        go_wp2_with fail
        go_ret
        exact says_no HB.out (Ext.next (Ext.next HE.out HE3.out) k4.ok)
      | false =>
        have H6 := Lib.hid (hq.out.1 rfl)
        clear hq
        go_upto_region 8 with fail
        go_cut [79] (fun s wr => ∃ (q : Bool) (k : Lat w3), s = .bool q ∧ Hid (q = false ↔ (x.mv = (prevSh sh i).1 → x.th = (prevSh sh i).2)) ∧ wr = k.world)
        case first =>
          rcases Hprev.out with hi1 | ⟨m, y, hm, hmn, hii, hy, hpv, y0, y1⟩
          · have hd7 : decide ((0 : Int) < (i : Int)) = false := by simp; omega
            have hd8 : decide (0 < i) = false := by simp; omega
            have HP : Hid (x.mv = (prevSh sh i).1 → x.th = (prevSh sh i).2) := fun h => by
              rw [hi1] at h
              have h2 : x.mv = -1 := h
              have := (place_pos HA.out (HPL.out.trans H6.out.2)).1
              omega
            have hii : i ≤ 0 := by omega
            clear hi1
            refine wp_region_cls (Ext w3) (Ext.drew1 k4.ok) (by kernel_rfl) (by kernel_rfl) ?_
            repeat (go_big_quiet_step (fail))
            refine wpQuiet_nil ?_
            rintro _ ⟨k6, rfl⟩
            go_wp2_with fail
            go_meet
            case rel => exact ⟨_, k6, rfl, by show _ ↔ _; have := HP.out; simp; exact this, rfl⟩
          · have hmi : (m : Int) < (n3 : Int) := by omega
            have hm0 : (0 : Int) ≤ (m : Int) := by omega
            have hd7 : decide ((0 : Int) < (i : Int)) = true := by simp; omega
            have hd8 : decide (0 < i) = true := by simp; omega
            by_cases hle : x.mv = y.mv
            case' pos => have hdl : (x.mv == y.mv) = true := beq_iff_eq.2 hle
            case' neg => have hdl : (x.mv == y.mv) = false := beq_eq_false_iff_ne.2 hle
            all_goals
              have HLE := Lib.hid hle
              clear hle
              refine wp_region_cls (Ext w3) (Ext.drew1 k4.ok) (by kernel_rfl) (by kernel_rfl) ?_
              repeat (go_big_quiet_step (fail))
              refine wpQuiet_nil ?_
              rintro _ ⟨k6, rfl⟩
              go_wp2_with fail
              go_meet
              case rel => exact ⟨_, k6, rfl, by show _ ↔ _; rw [hpv.out]; have := HLE.out; simp; try omega, rfl⟩
        obtain ⟨q, k5, rfl, hq, rfl⟩ := hcut
        cases q with
        | true =>
          have HB : Hid (¬ ShiftsF cs tr s (-1) (-1) (beginS s u) sh) := fun h => by have := hq.out.2 (Hstep.out.1 h).2.1; cases this
          clear hq
          go_wp2_with fail
          go_ret
          exact says_no HB.out (Ext.next (Ext.next HE.out HE3.out) k5.ok)
        | false =>
          have H8 := Lib.hid (hq.out.1 rfl)
          clear hq
          go_upto_region 10 with fail
          go_cut [109] (fun s_ wr => ∃ (q : Bool) (k : Lat w3), s_ = .bool q ∧ Hid (q = false ↔ OkShift s st x) ∧ wr = k.world)
          case first =>
            by_cases hr : 0 ≤ x.sl ∧ x.sl < s
            · obtain ⟨hr0, hr1⟩ := hr
              obtain ⟨j, hj⟩ : ∃ j : Nat, x.sl = j := ⟨x.sl.toNat, by omega⟩
              have hjs : j < s := by omega
              have hji : (j : Int) < (s : Int) := by omega
              have hj0 : (0 : Int) ≤ (j : Int) := by omega
              obtain ⟨y, hy, hcy⟩ := row_lat HT3.out.own1 hjs
              have HOK : Hid (OkShift s st x ↔ 0 ≤ x.to ∧ x.to ≤ 5 ∧ x.fr = y) := by
                show _ ↔ _
                unfold OkShift
                rw [hj, Int.toNat_natCast, List.getD_eq_getElem?_getD, hy]
                simp only [Option.getD_some]
                omega
              rw [hj] at x2
              have f1 : decide ((j : Int) < 0) = false := by simp
              have f2 : decide ((s : Int) ≤ (j : Int)) = false := by simp; omega
              have f3 : decide (s ≤ j) = false := by simp; omega
              clear hj hr0 hr1 hy
              rcases (by omega : x.to < 0 ∨ (0 ≤ x.to ∧ 5 < x.to) ∨ (0 ≤ x.to ∧ x.to ≤ 5)) with h2 | ⟨h2, h3⟩ | ⟨h2, h3⟩
              case' inl => have f4 : decide (x.to < 0) = true := by simp; omega
              case' inr.inl =>
                have f4 : decide (x.to < 0) = false := by simp; omega
                have f5 : decide (5 < x.to) = true := by simp; omega
              case' inr.inr =>
                have f4 : decide (x.to < 0) = false := by simp; omega
                have f5 : decide (5 < x.to) = false := by simp; omega
              all_goals
                refine wp_region_cls (Ext w3) (Ext.drew1 k5.ok) (by kernel_rfl) (by kernel_rfl) ?_
                repeat (go_big_quiet_step (fail))
                refine wpQuiet_nil ?_
                rintro _ ⟨k6, rfl⟩
                go_wp2_with fail
                go_meet
                case rel => exact ⟨_, k6, rfl, by show _ ↔ _; rw [HOK.out]; simp; try omega, rfl⟩
            · have HOK : Hid (¬ OkShift s st x) := fun h => hr ⟨h.1, h.2.1⟩
              rcases (by omega : x.sl < 0 ∨ (0 ≤ x.sl ∧ (s : Int) ≤ x.sl)) with h2 | ⟨h2, h3⟩
              case' inl => have f1 : decide (x.sl < 0) = true := by simp; omega
              case' inr =>
                have f1 : decide (x.sl < 0) = false := by simp; omega
                have f2 : decide ((s : Int) ≤ x.sl) = true := by simp; omega
              all_goals
                clear hr
                refine wp_region_cls (Ext w3) (Ext.drew1 k5.ok) (by kernel_rfl) (by kernel_rfl) ?_
                repeat (go_big_quiet_step (fail))
                refine wpQuiet_nil ?_
                rintro _ ⟨k6, rfl⟩
                go_wp2_with fail
                go_meet
                case rel => exact ⟨_, k6, rfl, by show _ ↔ _; simp [HOK.out], rfl⟩
          obtain ⟨q, k6, rfl, hq, rfl⟩ := hcut
          cases q with
          | true =>
            have HB : Hid (¬ ShiftsF cs tr s (-1) (-1) (beginS s u) sh) := fun h => by have := hq.out.2 (Hstep.out.1 h).2.2.1; cases this
            clear hq
            go_wp2_with fail
            go_ret
            exact says_no HB.out (Ext.next (Ext.next HE.out HE3.out) k6.ok)
          | false =>
            have H10 := Lib.hid (hq.out.1 rfl)
            clear hq
            go_wp2_with fail
            go_loopw [11] (fun s11 wr => ∃ (k : Lat w3) (j : Nat), wr = k.world ∧ j ≤ n2 ∧ s11 = .int .i64 j ∧ Hid (∀ a ∈ tr.take j, a.mv = x.mv → a.th = x.th)) (fun s _ => n2 - (intOf s).toNat)
            case atStart => exact ⟨k6, 0, rfl, by omega, rfl, fun a ha => by simp at ha⟩
            case round =>
              obtain ⟨k7, j, rfl, hj, rfl, hall⟩ := hrel
              by_cases hjn : j < n2
              · obtain ⟨b2, off2, a, rfl, _, ha, a0, a1, a2, a3, a4, a5, a6⟩ := Ac.at_ Hm3.out.trace hjn
                have h2 : (j : Int) < (n2 : Int) := by omega
                have hj0 : (0 : Int) ≤ (j : Int) := by omega
                have Hin : Hid (a ∈ tr) := List.mem_of_getElem? ha.out
                have Hnx : Hid ((a.mv = x.mv → a.th = x.th) → ∀ a ∈ tr.take (j + 1), a.mv = x.mv → a.th = x.th) := fun hh z hz => by
                  rw [List.take_add_one, ha.out] at hz
                  rcases List.mem_append.1 hz with hz | hz
                  · exact hall.out z hz
                  · simp at hz; subst hz; exact hh
                rcases (by omega : (a.mv ≠ x.mv ∨ (a.mv = x.mv ∧ a.th = x.th)) ∨ (a.mv = x.mv ∧ a.th ≠ x.th)) with hgo | ⟨e1, e2⟩
                · have HN := Lib.hid (Hnx.out (by omega))
                  rcases hgo with e1 | ⟨e1, e2⟩
                  case' inl => have hd1 : (a.mv == x.mv) = false := beq_eq_false_iff_ne.2 e1
                  case' inr =>
                    have hd1 : (a.mv == x.mv) = true := beq_iff_eq.2 e1
                    have hd2 : (a.th != x.th) = false := by simpa using e2
                    clear e2
                  all_goals
                    clear e1
                    go_upto_region 15 with fail
                    refine wp_region_cls (Ext w3) (Ext.drew1 k7.ok) (by kernel_rfl) (by kernel_rfl) ?_
                    repeat (go_big_quiet_step (fail))
                    refine wpQuiet_nil ?_
                    rintro _ ⟨k8, rfl⟩
                    go_wp2_with fail
                    go_roundw
                    case rel => exact ⟨k8, j + 1, rfl, by omega, by go_num, HN.out⟩
                    case measure => simp [intOf]; omega
                · have HB : Hid (¬ ShiftsF cs tr s (-1) (-1) (beginS s u) sh) := fun h => e2 ((Hstep.out.1 h).2.2.2.1 a Hin.out e1)
                  have hd1 : (a.mv == x.mv) = true := beq_iff_eq.2 e1
                  have hd2 : (a.th != x.th) = true := by simpa using e2
                  clear e1 e2
                  go_upto_region 15 with fail
                  refine wp_region_cls (Ext w3) (Ext.drew1 k7.ok) (by kernel_rfl) (by kernel_rfl) ?_
                  repeat (go_big_quiet_step (fail))
                  refine wpQuiet_nil ?_
                  rintro _ ⟨k8, rfl⟩
                  go_wp2_with fail
                  go_ret
                  exact says_no HB.out (Ext.next (Ext.next HE.out HE3.out) k8.ok)
              · obtain rfl : n2 = j := by omega
                have HTR : Hid (∀ a ∈ tr, a.mv = x.mv → a.th = x.th) := by
                  have h := hall.out
                  rwa [List.take_of_length_le (by rw [Hm.out.trace.1]; exact Nat.le_refl _)] at h
                have HS : Hid (ShiftsF cs tr s (-1) (-1) (beginS s u) sh ↔ ShiftsF cs tr s (prevSh sh (i + 1)).1 (prevSh sh (i + 1)).2 (putS x st) (sh.drop (i + 1))) := by
                  show _ ↔ _
                  rw [Hstep.out, prevSh_succ hx.out]
                  exact ⟨fun h => h.2.2.2.2, fun h => ⟨H6.out, H8.out, H10.out, HTR.out, h⟩⟩
                obtain ⟨jj, hjj, hjs⟩ : ∃ jj : Nat, x.sl = jj ∧ jj < s := ⟨x.sl.toNat, by have := H10.out.1; have := H10.out.2.1; omega, by have := H10.out.1; have := H10.out.2.1; omega⟩
                have Hjj := Lib.hid hjj
                clear hjj
                go_wp2_with fail
                refine (refPut_any w0.heap.size g1 e1c g2 e2c s st ho x jj Hjj.out hjs _ (HT3.out.ext k7.ok)).mono ?_
                rintro e w8 ⟨rfl, hT8, o8⟩
                have hx8 : Ext w0 w8 := (Ext.next HE3.out k7.ok).only o8 fun q hq => by
                  rcases hq with rfl | rfl
                  · exact (HT3.out.own1.lt _ rfl).1
                  · exact (HT3.out.own2.lt _ rfl).1
                obtain ⟨k9, rfl⟩ := lat_of hx8
                have HT9 := Lib.hid hT8
                clear hT8 o8 hx8
                go_wp2_with fail
                go_roundw
                case rel => exact ⟨k9, i + 1, putS x st, putH x ho, rfl, by omega, by go_num, HT9.out, HS⟩
                case measure => simp [intOf]; omega
    · obtain rfl : n3 = i := by omega
      have HS : Hid (ShiftsF cs tr s (-1) (-1) (beginS s u) sh) := hrest.out.2 (by rw [List.drop_of_length_le (by rw [Hm.out.shifts.1]; exact Nat.le_refl _)]; trivial)
      go_wp2_with fail
      go_ret
      exact says_yes HS.out (Ext.next HE.out k.ok)

end Go.Proofs.Ytfbacopjookplaa
