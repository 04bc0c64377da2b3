/- The walk of the document's trace: whether the accesses go together with the words. -/
import Derived.Test.YtfbacopjookplaaTracePure
import Derived.Test.YtfbacopjookplaaRefFirst
import Derived.Test.YtfbacopjookplaaEnds
import Derived.Test.YtfbacopjookplaaTail
import Derived.Deep.DeepCutAuto
namespace Go.Proofs.Ytfbacopjookplaa
open Go.RowKit

theorem own_word_at {w : World} {B g n c : Nat} {l : List Int} (h : w.ownsRow B 25 1 (.slice (some ⟨g, 0, none⟩) n c) n (l.map (Value.int .u64))) {j : Nat} (hj : j < n) : l.length = n ∧ (∀ k : Lat w, k.world.cell? ⟨g, j, none⟩ = some (.int .u64 (l.getD j 0))) ∧ (∀ k : Lat w, k.world.frozen? ⟨g, j, none⟩ = false) := by
  have hl : l.length = n := by have := h.1; simpa using this
  refine ⟨hl, fun k => ?_, fun k => (own_ext h k.ok).frozenAt j⟩
  rw [(own_ext h k.ok).cellAt j (by omega), List.getElem?_map, List.getElem?_eq_getElem (by omega)]
  simp [List.getD, List.getElem?_eq_getElem (show j < l.length by omega)]

set_option maxRecDepth 100000 in
set_option maxHeartbeats 4000000 in
theorem trace_any (T R H Re Ca S B : Int) (hok : Okay T R H Re Ca S B) (n b s : Nat) (hsz : Sizes R H S B n b s) (u : Nat) (hu : u ≤ s)
    (A1 : Option Addr) (n1 c1 : Nat) (A2 : Option Addr) (n2 c2 : Nat) (A3 : Option Addr) (n3 c3 : Nat) (A4 : Option Addr) (n4 c4 : Nat) (cs : List Cl) (tr : List Ac) (sh : List Sh) (rw_ : List Int) (w : World)
    (hm : RunMem w A1 n1 A2 n2 A3 n3 A4 n4 cs tr sh rw_) (hA : CallsA T (-1) cs) :
    Calls Try.prog 112 #[(.agg #[.int .i64 T, .int .i64 R, .int .i64 H, .int .i64 Re, .int .i64 Ca, .int .i64 S, .int .i64 B]), .int .i64 u, .agg #[.slice A1 n1 c1, .slice A2 n2 c2, .slice A3 n3 c3, .slice A4 n4 c4]] w
      (Says (traceF cs (-1) (firstL n b s u) tr = some rw_) w) := by
  have Hm := Lib.hid hm
  have HA := Lib.hid hA
  have hsz5 := hsz.big
  have Hfirst := Lib.hid (fun w => refFirst_any T R H Re Ca S B hok n b s hsz u hu w)
  have hb2 := hm.big2
  have hb4 := hm.big4
  clear hm hA hsz hok
  go_enter Try.func112, Try.ntmps112
  go_upto_region 1 with fail
  obtain ⟨w0, hw0, hC, hR, hE, hlt0⟩ := enter2 w (.cells (cfgV T R H Re Ca S B) 23) (.cells #[.slice A1 n1 c1, .slice A2 n2 c2, .slice A3 n3 c3, .slice A4 n4 c4] 48)
  rw [hw0]
  have HE := Lib.hid hE
  have HC := Lib.hid hC
  have HR := Lib.hid hR
  have Hm0 := Lib.hid (Hm.out.ext hE)
  obtain ⟨d0, d1, d2, d3, d4, d5, d6⟩ := Lat.cfg hC
  obtain ⟨r0, r1, r2, r3⟩ := Lat.run hR
  obtain ⟨k0, hk0⟩ := lat_self w0
  rw [hk0]
  clear hw0 hC hR hE hk0
  go_wp2_with fail
  refine (Hfirst.out _).mono ?_
  rintro e w1 ⟨g, rfl, hown, e1⟩
  have HO := Lib.hid (own_base hown k0.ok.size)
  obtain ⟨k1, rfl⟩ := lat_next k0 e1
  clear hown e1
  go_wp2_with fail
  go_loopw [8] (fun s8 wr => ∃ (k : Lat w0) (i : Nat) (ws : List Int), wr = k.world ∧ i ≤ n2 ∧ s8 = .int .i64 i ∧ Hid (k.world.ownsRow w0.heap.size 25 1 (.slice (some ⟨g, 0, none⟩) n n) n (ws.map (Value.int .u64))) ∧
      Hid (traceF cs (-1) (firstL n b s u) tr = some rw_ ↔ traceF cs (prevMv tr i) ws (tr.drop i) = some rw_)) (fun s _ => n2 - (intOf s).toNat)
  case atStart => exact ⟨k1, 0, _, rfl, by omega, rfl, HO.out, Iff.rfl⟩
  case round =>
    clear HO
    obtain ⟨k, i, ws, rfl, hi, rfl, hown, hrest⟩ := hrel
    by_cases hlt : i < n2
    · obtain ⟨ba, off, x, hAx, hb, hx, x0, x1, x2, x3, x4, x5, x6⟩ := Ac.at_ Hm0.out.trace hlt
      have h1 : (i : Int) < (n2 : Int) := by omega
      have hi0 : (0 : Int) ≤ (i : Int) := by omega
      subst hAx
      have Hstep : Hid (traceF cs (-1) (firstL n b s u) tr = some rw_ ↔ (if prevMv tr i < x.mv ∧ placeB cs x.th x.mv = true then (stepW ws x).bind (fun ws' => traceF cs x.mv ws' (tr.drop (i + 1))) else none) = some rw_) := hrest.out.trans (by rw [traceF_step hx.out])
      go_upto_region 6 with fail
      obtain ⟨w3, hw3, hX, hE3, hlt3⟩ := enter1 k.world (.cells #[.int .i64 x.mv, .int .i64 x.th, .int .i64 x.kd, .int .i64 x.ad, .int .u64 x.od, .int .u64 x.nw, .int .u64 x.sw] 129)
      rw [hw3]
      clear x0 x1 x2 x3 x4 x5 x6
      have HE3 := Lib.hid (Ext.next k.ok hE3)
      have HO3 := Lib.hid (own_ext hown.out hE3)
      have hgne : k.world.heap.size ≠ g := by have := (hown.out.lt g rfl).2; omega
      obtain ⟨x0, x1, x2, x3, x4, x5, x6⟩ := Ac.boxed hX
      clear d0 d1 d2 d3 d4 d5 d6 r0 r1 r2 r3
      obtain ⟨d0, d1, d2, d3, d4, d5, d6⟩ := Lat.cfg (ext_blk HE3.out HC.out)
      obtain ⟨r0, r1, r2, r3⟩ := Lat.run (ext_blk HE3.out HR.out)
      have HX := Lib.hid hX
      obtain ⟨k3, hk3⟩ := lat_self w3
      rw [hk3]
      generalize k.world.heap.size = p at *
      have Hm3 := Lib.hid (Hm0.out.ext HE3.out)
      have Hpl : Hid (∀ c : Lat w3, Calls Try.prog 149 #[.slice A1 n1 c1, .int .i64 x.th, .int .i64 x.mv] c.world fun e w' => e = .returned (.bool (placeB cs x.th x.mv)) ∧ Ext c.world w') :=
        fun c => place_any A1 n1 c1 cs x.th x.mv c.world (Hm3.out.calls.ext c.ok) Hm3.out.big1
      clear hw3 hX hE3 hk3 hlt3
      generalize hpl : placeB cs x.th x.mv = pb at Hpl Hstep
      have HPL := Lib.hid hpl
      clear hpl
      go_cut [49] (fun s wr => ∃ (q : Bool) (k : Lat w3), s = .bool q ∧ Hid (q = false ↔ prevMv tr i < x.mv ∧ pb = true) ∧ wr = k.world)
      case first =>
        by_cases hi1 : i = 0
        · have hd7 : decide ((0 : Int) < (i : Int)) = false := by simp; omega
          have hd8 : decide (0 < i) = false := by simp; omega
          have HP : Hid (pb = true → prevMv tr i < x.mv) := fun h => by
            rw [hi1]
            have := (place_pos HA.out (HPL.out.trans h)).1
            show -1 < _
            omega
          have hii : i ≤ 0 := by omega
          clear hi1
          refine wp_region_cls (Ext w3) (Ext.drew1 k3.ok) (by kernel_rfl) (by kernel_rfl) ?_
          repeat (go_big_quiet_step (exact calls_cls (keeps_ext _) (Hpl.out _)))
          refine wpQuiet_nil ?_
          rintro _ ⟨k6, rfl⟩
          go_wp2_with fail
          go_meet
          case rel => exact ⟨_, k6, rfl, by show _ ↔ _; have := HP.out; simp; exact this, rfl⟩
        · obtain ⟨m, hm⟩ : ∃ m : Nat, (i : Int) - 1 = (m : Int) := ⟨i - 1, by omega⟩
          have hmi : (m : Int) < (n2 : Int) := by omega
          have hm0 : (0 : Int) ≤ (m : Int) := by omega
          obtain ⟨b', off', y, hAy, _, hy, y0, y1, y2, y3, y4, y5, y6⟩ := Ac.at_ Hm3.out.trace (i := m) (by omega)
          injection hAy with hAy
          injection hAy with hb1 hb2
          subst hb1 hb2
          have hd7 : decide ((0 : Int) < (i : Int)) = true := by simp; omega
          have hd8 : decide (0 < i) = true := by simp; omega
          have hpv : Hid (prevMv tr i = y.mv) := by
            show _ = _
            obtain rfl : i = m + 1 := by omega
            exact prevMv_succ hy.out
          have hii : 1 ≤ i := by omega
          clear hi1
          by_cases hle : x.mv ≤ y.mv
          · have hdl : decide (x.mv ≤ y.mv) = true := by simpa using hle
            have HLE := Lib.hid hle
            clear hle
            refine wp_region_cls (Ext w3) (Ext.drew1 k3.ok) (by kernel_rfl) (by kernel_rfl) ?_
            repeat (go_big_quiet_step (exact calls_cls (keeps_ext _) (Hpl.out _)))
            refine wpQuiet_nil ?_
            rintro _ ⟨k6, rfl⟩
            go_wp2_with fail
            go_meet
            case rel => exact ⟨_, k6, rfl, by show _ ↔ _; rw [hpv.out]; have := HLE.out; simp; omega, rfl⟩
          · have hdl : decide (x.mv ≤ y.mv) = false := by simpa using hle
            have HLE := Lib.hid hle
            clear hle
            refine wp_region_cls (Ext w3) (Ext.drew1 k3.ok) (by kernel_rfl) (by kernel_rfl) ?_
            repeat (go_big_quiet_step (exact calls_cls (keeps_ext _) (Hpl.out _)))
            refine wpQuiet_nil ?_
            rintro _ ⟨k6, rfl⟩
            go_wp2_with fail
            go_meet
            case rel => exact ⟨_, k6, rfl, by show _ ↔ _; rw [hpv.out]; have := HLE.out; simp; omega, rfl⟩
      obtain ⟨q, k4, rfl, hq, rfl⟩ := hcut
      cases q with
      | true =>
        have HB : Hid (¬ traceF cs (-1) (firstL n b s u) tr = some rw_) := by
          intro h
          have h2 := Hstep.out.1 h
          by_cases hg : prevMv tr i < x.mv ∧ pb = true
          · have := hq.out.2 hg; cases this
          · rw [if_neg hg] at h2; cases h2
        clear hq
        go_wp2_with fail
        go_ret
        exact says_no HB.out (Ext.next (Ext.next HE.out HE3.out) k4.ok)
      | false =>
        have HS2 : Hid (traceF cs (-1) (firstL n b s u) tr = some rw_ ↔ (stepW ws x).bind (fun ws' => traceF cs x.mv ws' (tr.drop (i + 1))) = some rw_) := by
          show _ ↔ _
          have h := Hstep.out
          rwa [if_pos (hq.out.1 rfl)] at h
        clear hq
        have hlw : ws.length = n := by have := hown.out.1; simpa using this
        have HLW := Lib.hid hlw
        clear hlw
        by_cases hin : 0 ≤ x.ad ∧ x.ad < n
        · obtain ⟨hin0, hin1⟩ := hin
          obtain ⟨j, hj⟩ : ∃ j : Nat, x.ad = j := ⟨x.ad.toNat, by omega⟩
          have hjn : j < n := by omega
          have hji : (j : Int) < (n : Int) := by omega
          have HST : Hid (stepW ws x = if x.kd = 1 then (if x.od = 0 ∧ x.nw = 0 ∧ x.sw = ws.getD j 0 then some ws else none)
              else if x.kd = 2 then (if x.od = 0 ∧ x.sw = 0 then some (ws.set j x.nw) else none)
              else if x.kd = 3 then (if x.sw = ws.getD j 0 then some (if x.sw = x.od then ws.set j x.nw else ws) else none) else none) := by
            show _ = _
            unfold stepW
            rw [if_pos (by rw [HLW.out]; omega), hj, Int.toNat_natCast]
          rw [hj] at x3
          clear hj hin0 hin1
          obtain ⟨_, hcw, hfw⟩ := own_word_at HO3.out hjn
          generalize ws.getD j 0 = wj at HST hcw
          rcases (by omega : x.kd = 1 ∨ x.kd = 2 ∨ x.kd = 3 ∨ (x.kd ≠ 1 ∧ x.kd ≠ 2 ∧ x.kd ≠ 3)) with hk | hk | hk | hk
          · have b1 : (x.kd == 1) = true := beq_iff_eq.2 hk
            have HK := Lib.hid hk
            clear hk
            rcases (by omega : (x.od ≠ 0 ∨ (x.od = 0 ∧ x.nw ≠ 0) ∨ (x.od = 0 ∧ x.nw = 0 ∧ x.sw ≠ wj)) ∨ (x.od = 0 ∧ x.nw = 0 ∧ x.sw = wj)) with hbad | hgood
            · have HB : Hid (¬ traceF cs (-1) (firstL n b s u) tr = some rw_) := by
                intro h
                have h2 := HS2.out.1 h
                rw [HST.out, if_pos HK.out, if_neg (by omega)] at h2
                cases h2
              rcases hbad with h2 | ⟨h2, h3⟩ | ⟨h2, h3, h4⟩
              case' inl => have e1 : (x.od != 0) = true := by simpa using h2
              case' inr.inl =>
                have e1 : (x.od != 0) = false := by simpa using h2
                have e2 : (x.nw != 0) = true := by simpa using h3
                clear h3
              case' inr.inr =>
                have e1 : (x.od != 0) = false := by simpa using h2
                have e2 : (x.nw != 0) = false := by simpa using h3
                have e3 : (x.sw != wj) = true := by simpa using h4
                clear h3 h4
              all_goals
                clear h2
                go_upto_region 13 with fail
                refine wp_region_cls (Ext w3) (Ext.drew1 k4.ok) (by kernel_rfl) (by kernel_rfl) ?_
                repeat (go_big_quiet_step (fail))
                refine wpQuiet_nil ?_
                rintro _ ⟨k6, rfl⟩
                go_wp2_with fail
                go_ret
                exact says_no HB.out (Ext.next (Ext.next HE.out HE3.out) k6.ok)
            · obtain ⟨h2, h3, h4⟩ := hgood
              have HS : Hid (traceF cs (-1) (firstL n b s u) tr = some rw_ ↔ traceF cs (prevMv tr (i + 1)) ws (tr.drop (i + 1)) = some rw_) := by
                show _ ↔ _
                rw [HS2.out, HST.out, if_pos HK.out, if_pos ⟨h2, h3, h4⟩, prevMv_succ hx.out]
                rfl
              have e1 : (x.od != 0) = false := by simpa using h2
              have e2 : (x.nw != 0) = false := by simpa using h3
              have e3 : (x.sw != wj) = false := by simpa using h4
              clear h2 h3 h4
              go_upto_region 13 with fail
              refine wp_region_cls (Ext w3) (Ext.drew1 k4.ok) (by kernel_rfl) (by kernel_rfl) ?_
              repeat (go_big_quiet_step (fail))
              refine wpQuiet_nil ?_
              rintro _ ⟨k6, rfl⟩
              have HO6 := Lib.hid (own_ext HO3.out k6.ok)
              obtain ⟨k7, hk7⟩ := lat_of (Ext.next HE3.out k6.ok)
              rw [hk7] at HO6 ⊢
              clear hk7
              go_wp2_with fail
              go_roundw
              case rel => exact ⟨k7, i + 1, ws, rfl, by omega, by go_num, HO6.out, HS⟩
              case measure => simp [intOf]; omega
          · have b1 : (x.kd == 1) = false := beq_eq_false_iff_ne.2 (by omega)
            have b2 : (x.kd == 2) = true := beq_iff_eq.2 hk
            have HK := Lib.hid hk
            clear hk
            rcases (by omega : (x.od ≠ 0 ∨ (x.od = 0 ∧ x.sw ≠ 0)) ∨ (x.od = 0 ∧ x.sw = 0)) with hbad | hgood
            · have HB : Hid (¬ traceF cs (-1) (firstL n b s u) tr = some rw_) := by
                intro h
                have h2 := HS2.out.1 h
                rw [HST.out, if_neg (by rw [HK.out]; omega), if_pos HK.out, if_neg (by omega)] at h2
                cases h2
              rcases hbad with h2 | ⟨h2, h3⟩
              case' inl => have e1 : (x.od != 0) = true := by simpa using h2
              case' inr =>
                have e1 : (x.od != 0) = false := by simpa using h2
                have e2 : (x.sw != 0) = true := by simpa using h3
                clear h3
              all_goals
                clear h2
                go_wp2_with fail
                go_ret
                exact says_no HB.out (Ext.next (Ext.next HE.out HE3.out) k4.ok)
            · obtain ⟨h2, h3⟩ := hgood
              have HS : Hid (traceF cs (-1) (firstL n b s u) tr = some rw_ ↔ traceF cs (prevMv tr (i + 1)) (ws.set j x.nw) (tr.drop (i + 1)) = some rw_) := by
                show _ ↔ _
                rw [HS2.out, HST.out, if_neg (by rw [HK.out]; omega), if_pos HK.out, if_pos ⟨h2, h3⟩, prevMv_succ hx.out]
                rfl
              have e1 : (x.od != 0) = false := by simpa using h2
              have e2 : (x.sw != 0) = false := by simpa using h3
              clear h2 h3
              have HO4 := Lib.hid (own_ext HO3.out k4.ok)
              have e5 := own_store (j := j) HO4.out (Ext.next HE3.out k4.ok) (Nat.le_refl _) (.int .u64 x.nw)
              have ho5 := own_words (j := j) x.nw HO4.out
              go_wp2_with fail
              obtain ⟨k7, hk7⟩ := lat_of e5
              rw [hk7] at ho5 ⊢
              have HO7 := Lib.hid ho5
              clear hk7 e5 ho5
              go_roundw
              case rel => exact ⟨k7, i + 1, ws.set j x.nw, rfl, by omega, by go_num, HO7.out, HS⟩
              case measure => simp [intOf]; omega
          · have b1 : (x.kd == 1) = false := beq_eq_false_iff_ne.2 (by omega)
            have b2 : (x.kd == 2) = false := beq_eq_false_iff_ne.2 (by omega)
            have b3 : (x.kd == 3) = true := beq_iff_eq.2 hk
            have HK := Lib.hid hk
            clear hk
            go_upto_region 20 with fail
            go_cut [107] (fun s wr => ∃ (k : Lat w3), s = .bool (x.sw != wj) ∧ wr = k.world)
            case first =>
              refine wp_region_cls (Ext w3) (Ext.drew1 k4.ok) (by kernel_rfl) (by kernel_rfl) ?_
              repeat (go_big_quiet_step (fail))
              refine wpQuiet_nil ?_
              rintro _ ⟨k6, rfl⟩
              go_wp2_with fail
              go_meet
              case rel => exact ⟨k6, rfl, rfl⟩
            clear k4
            obtain ⟨k4, rfl, rfl⟩ := hcut
            by_cases h4 : x.sw = wj
            · have e3 : (x.sw != wj) = false := by simpa using h4
              have HS3 : Hid (traceF cs (-1) (firstL n b s u) tr = some rw_ ↔ traceF cs (prevMv tr (i + 1)) (if x.sw = x.od then ws.set j x.nw else ws) (tr.drop (i + 1)) = some rw_) := by
                show _ ↔ _
                rw [HS2.out, HST.out, if_neg (by rw [HK.out]; omega), if_neg (by rw [HK.out]; omega), if_pos HK.out, if_pos h4, prevMv_succ hx.out]
                rfl
              clear h4
              by_cases h5 : x.sw = x.od
              · have e4 : (x.sw == x.od) = true := beq_iff_eq.2 h5
                have HS : Hid (traceF cs (-1) (firstL n b s u) tr = some rw_ ↔ traceF cs (prevMv tr (i + 1)) (ws.set j x.nw) (tr.drop (i + 1)) = some rw_) := by
                  have h := HS3.out
                  rwa [if_pos h5] at h
                clear h5
                have HO4 := Lib.hid (own_ext HO3.out k4.ok)
                have e5 := own_store (j := j) HO4.out (Ext.next HE3.out k4.ok) (Nat.le_refl _) (.int .u64 x.nw)
                have ho5 := own_words (j := j) x.nw HO4.out
                go_wp2_with fail
                obtain ⟨k7, hk7⟩ := lat_of e5
                rw [hk7] at ho5 ⊢
                have HO7 := Lib.hid ho5
                clear hk7 e5 ho5
                go_roundw
                case rel => exact ⟨k7, i + 1, ws.set j x.nw, rfl, by omega, by go_num, HO7.out, HS⟩
                case measure => simp [intOf]; omega
              · have e4 : (x.sw == x.od) = false := beq_eq_false_iff_ne.2 h5
                have HS : Hid (traceF cs (-1) (firstL n b s u) tr = some rw_ ↔ traceF cs (prevMv tr (i + 1)) ws (tr.drop (i + 1)) = some rw_) := by
                  have h := HS3.out
                  rwa [if_neg h5] at h
                clear h5
                go_wp2_with fail
                have HO6 := Lib.hid (own_ext HO3.out k4.ok)
                obtain ⟨k7, hk7⟩ := lat_of (Ext.next HE3.out k4.ok)
                rw [hk7] at HO6 ⊢
                clear hk7
                go_roundw
                case rel => exact ⟨k7, i + 1, ws, rfl, by omega, by go_num, HO6.out, HS⟩
                case measure => simp [intOf]; omega
            · have e3 : (x.sw != wj) = true := by simpa using h4
              have HB : Hid (¬ traceF cs (-1) (firstL n b s u) tr = some rw_) := by
                intro h
                have h2 := HS2.out.1 h
                rw [HST.out, if_neg (by rw [HK.out]; omega), if_neg (by rw [HK.out]; omega), if_pos HK.out, if_neg h4] at h2
                cases h2
              clear h4
              go_wp2_with fail
              go_ret
              exact says_no HB.out (Ext.next (Ext.next HE.out HE3.out) k4.ok)
          · have b1 : (x.kd == 1) = false := beq_eq_false_iff_ne.2 (by omega)
            have b2 : (x.kd == 2) = false := beq_eq_false_iff_ne.2 (by omega)
            have b3 : (x.kd == 3) = false := beq_eq_false_iff_ne.2 (by omega)
            have HB : Hid (¬ traceF cs (-1) (firstL n b s u) tr = some rw_) := by
              intro h
              have h2 := HS2.out.1 h
              rw [HST.out, if_neg hk.1, if_neg hk.2.1, if_neg hk.2.2] at h2
              cases h2
            clear hk
            go_wp2_with fail
            go_ret
            exact says_no HB.out (Ext.next (Ext.next HE.out HE3.out) k4.ok)
        · have HB : Hid (¬ traceF cs (-1) (firstL n b s u) tr = some rw_) := by
            intro h
            have h2 := HS2.out.1 h
            unfold stepW at h2
            rw [if_neg (by rw [HLW.out]; exact hin)] at h2
            cases h2
          rcases (by omega : x.ad < 0 ∨ (0 ≤ x.ad ∧ (n : Int) ≤ x.ad)) with h2 | ⟨h2, h3⟩
          all_goals
            clear hin
            go_wp2_with fail
            go_ret
            exact says_no HB.out (Ext.next (Ext.next HE.out HE3.out) k4.ok)
    · obtain rfl : n2 = i := by omega
      have HW : Hid (traceF cs (-1) (firstL n b s u) tr = some rw_ ↔ ws = rw_) := by
        show _ ↔ _
        rw [hrest.out, List.drop_of_length_le (by rw [Hm.out.trace.1]; exact Nat.le_refl _)]
        simp [traceF]
      have hlw : ws.length = n := by have := hown.out.1; simpa using this
      have HLW := Lib.hid hlw
      clear hlw
      by_cases h4 : n4 = n
      · subst h4
        have hne : ((n4 : Int) != (n4 : Int)) = false := by simp
        go_wp2_with fail
        go_loopw [10] (fun s10 wr => ∃ (k : Lat w0) (i : Nat), wr = k.world ∧ i ≤ n4 ∧ s10 = .int .i64 i ∧ Hid (k.world.ownsRow w0.heap.size 25 1 (.slice (some ⟨g, 0, none⟩) n4 n4) n4 (ws.map (Value.int .u64))) ∧ Hid (ws.take i = rw_.take i)) (fun s _ => n4 - (intOf s).toNat)
        case atStart => exact ⟨k, 0, rfl, by omega, rfl, hown.out, rfl⟩
        case round =>
          clear hown
          obtain ⟨k, i, rfl, hi4, rfl, hown, hsame⟩ := hrel
          by_cases hlt4 : i < n4
          · obtain ⟨_, hcw, _⟩ := own_word_at hown.out hlt4
            have hws : Hid (ws[i]? = some (ws.getD i 0)) := by
              show _ = _
              rw [List.getElem?_eq_getElem (by rw [HLW.out]; exact hlt4)]
              simp [List.getD, List.getElem?_eq_getElem (show i < ws.length by rw [HLW.out]; exact hlt4)]
            obtain ⟨y, hy⟩ : ∃ y, rw_[i]? = some y := ⟨_, List.getElem?_eq_getElem (by rw [Hm.out.wlen]; exact hlt4)⟩
            obtain ⟨b4, off4, rfl, hb4', hc4⟩ := (Hm0.out.words.ext k.ok).lat (j := i) (u := .int .u64 y) (by simp [hy])
            have HY := Lib.hid hy
            clear hy
            obtain ⟨r0, r1, r2, r3⟩ := Lat.run (ext_blk k.ok HR.out)
            have h1 : (i : Int) < (n4 : Int) := by omega
            have hi0 : (0 : Int) ≤ (i : Int) := by omega
            generalize ws.getD i 0 = wi at hcw hws
            go_upto_region 29 with fail
            go_cut [140] (fun s wr => ∃ (k' : Lat k.world), s = .bool (wi != y) ∧ wr = k'.world)
            case first =>
              refine wp_region_cls (Ext k.world) (Ext.rfl' k.world).drew1 (by kernel_rfl) (by kernel_rfl) ?_
              repeat (go_big_quiet_step (fail))
              refine wpQuiet_nil ?_
              rintro _ ⟨k6, rfl⟩
              go_wp2_with fail
              go_meet
              case rel => exact ⟨k6, rfl, rfl⟩
            obtain ⟨k6, rfl, rfl⟩ := hcut
            by_cases hee : wi = y
            · have hd : (wi != y) = false := by simpa using hee
              have HSM : Hid (ws.take (i + 1) = rw_.take (i + 1)) := take_eq_step hsame hws (by show _ = _; rw [HY.out, hee])
              clear hee
              have HO6 := Lib.hid (own_ext hown.out k6.ok)
              obtain ⟨k7, hk7⟩ := lat_of (Ext.next k.ok k6.ok)
              rw [hk7] at HO6 ⊢
              clear hk7
              go_wp2_with fail
              go_roundw
              case rel => exact ⟨k7, i + 1, rfl, by omega, by go_num, HO6.out, HSM⟩
              case measure => simp [intOf]; omega
            · have hd : (wi != y) = true := by simpa using hee
              have HB : Hid (¬ traceF cs (-1) (firstL n4 b s u) tr = some rw_) := by
                intro h
                exact ne_of_at hws HY hee (HW.out.1 h)
              clear hee
              go_wp2_with fail
              go_ret
              exact says_no HB.out (Ext.next (Ext.next HE.out k.ok) k6.ok)
          · obtain rfl : n4 = i := by omega
            go_wp2_with fail
            go_ret
            exact says_yes (HW.out.2 (take_all_eq hsame HLW.out Hm.out.wlen)) (Ext.next HE.out k.ok)
      · have hne : ((n4 : Int) != (n : Int)) = true := by simp; omega
        have hne2 : (n4 != n) = true := by simpa using h4
        have HB : Hid (¬ traceF cs (-1) (firstL n b s u) tr = some rw_) := by
          intro h
          have h2 := congrArg List.length (HW.out.1 h)
          rw [HLW.out, Hm.out.wlen] at h2
          omega
        clear h4
        go_wp2_with fail
        go_ret
        exact says_no HB.out (Ext.next HE.out k.ok)

end Go.Proofs.Ytfbacopjookplaa
