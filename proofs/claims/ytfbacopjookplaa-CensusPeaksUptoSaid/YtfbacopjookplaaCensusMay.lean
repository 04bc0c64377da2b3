/- The walk of census.May: whether a run's parts go together. -/
import Derived.Test.YtfbacopjookplaaMay
import Derived.Test.YtfbacopjookplaaEqual
import Derived.Test.YtfbacopjookplaaSlots
import Derived.Test.YtfbacopjookplaaShiftsPure
import Derived.Lib.SliceRun
import Derived.Test.YtfbacopjookplaaSound
import Derived.Test.YtfbacopjookplaaRefMay
namespace Go.Proofs.Ytfbacopjookplaa
open Go.RowKit

theorem Only.later {S : Nat → Prop} {a b c : World} (h : Only S a b) (e : Ext b c) : Only S a c := h.trans (Only.of_ext (S := S) e) fun _ _ hs => hs
/-- What census.played leaves. -/
def PlayedOut (w : World) (B g gb ge gc ga T : Nat) (l : List Cl) (vs : List Value) (Phi : Prop) (e : Ending) (w' : World) : Prop :=
  ∃ (q : Bool) (cur' : List Int), e = .returned (.bool q) ∧ (q = true ↔ Phi) ∧ Owners w' B g gb ge gc ga T l l l vs cur' ∧ Only (fun q => q = ga) w w'
theorem played_no {w w' : World} {B g gb ge gc ga T : Nat} {l : List Cl} {vs : List Value} {Phi : Prop} {cur' : List Int} (h : ¬ Phi) (hO : Owners w' B g gb ge gc ga T l l l vs cur') (ho : Only (fun q => q = ga) w w') : PlayedOut w B g gb ge gc ga T l vs Phi (.returned (.bool false)) w' :=
  ⟨false, cur', rfl, by simp [h], hO, ho⟩

/-- A word is stored: what stays. -/
theorem word_put {w w4 : World} {B g gb ge gc ga T B0 gw n : Nat} {l : List Cl} {vs : List Value} {cur : List Int} {ws : List Int} {cs : Array Value} {x : Int} {j : Nat} (hW : w4.ownsRow B0 25 1 (.slice (some ⟨gw, 0, none⟩) n n) n (ws.map (Value.int .u64)))
    (hO : Owners w4 B g gb ge gc ga T l l l vs cur) (hn : Only (fun q => q = ga) w w4) (hR : w4.heap[w.heap.size + 1]? = some (.cells cs 48 (0, 0))) (h1 : w.heap.size + 1 < B0) (hm : ∀ q, Mine g gb ge gc ga vs q → q < w.heap.size) :
    Hid (Owners (w4.setCell ⟨gw, j, none⟩ (.int .u64 x)) B g gb ge gc ga T l l l vs cur) ∧ Hid (Only (fun q => q = ga) w (w4.setCell ⟨gw, j, none⟩ (.int .u64 x))) ∧ Hid ((w4.setCell ⟨gw, j, none⟩ (.int .u64 x)).heap[w.heap.size + 1]? = some (.cells cs 48 (0, 0))) ∧
      Hid ((w4.setCell ⟨gw, j, none⟩ (.int .u64 x)).ownsRow B0 25 1 (.slice (some ⟨gw, 0, none⟩) n n) n ((ws.set j x).map (Value.int .u64))) := by
  have hgw := (hW.lt gw rfl).1
  have o : Only (fun q => q = gw) w4 (w4.setCell ⟨gw, j, none⟩ (.int .u64 x)) := (Only.refl _ _).setCell _ _ fun _ => rfl
  refine ⟨hO.only o fun q hq h => ?_, hn.setCell _ _ fun h => ?_, (o.block _ (blk_lt hR) ?_).trans hR, own_words x hW⟩
  · have := hm q hq
    omega
  · exact absurd h (by show ¬ gw < _; omega)
  · omega

set_option maxRecDepth 100000 in
set_option maxHeartbeats 4000000 in
theorem played_any (tn : Nat) (R H Re Ca S B : Int) (hok : Okay tn R H Re Ca S B) (n b s : Nat) (hsz : Sizes R H S B n b s) (u : Nat) (hu : u ≤ s)
    (A1 : Option Addr) (n1 c1 : Nat) (A2 : Option Addr) (n2 c2 : Nat) (A3 : Option Addr) (n3 c3 : Nat) (A4 : Option Addr) (n4 c4 : Nat) (cs : List Cl) (tr : List Ac) (sh : List Sh) (rw_ : List Int) (wb w : World)
    (hm : RunMem wb A1 n1 A2 n2 A3 n3 A4 n4 cs tr sh rw_) (hxb : Ext wb w) (Bo g gb ge gc ga : Nat) (hB : wb.heap.size ≤ Bo) (vs : List Value) (cur : List Int) (hO : Owners w Bo g gb ge gc ga tn cs cs cs vs cur) (hAt : AtOK cs tn cur (-1)) (hC : CallsOK tn cs) :
    Calls Try.prog 71 #[(.agg #[.int .i64 tn, .int .i64 R, .int .i64 H, .int .i64 Re, .int .i64 Ca, .int .i64 S, .int .i64 B]), .int .i64 u, .agg #[.slice A1 n1 c1, .slice A2 n2 c2, .slice A3 n3 c3, .slice A4 n4 c4], .pointer (some ⟨g, 0, none⟩)] w
      (PlayedOut w Bo g gb ge gc ga tn cs vs (traceF cs (-1) (firstL n b s u) tr = some rw_)) := by
  have Hm := Lib.hid hm
  have HX := Lib.hid hxb
  have HC := Lib.hid hC
  have HO := Lib.hid hO
  have HAt := Lib.hid hAt
  have hga := hO.lt (.inr (.inr (.inr (.inr (.inl rfl)))))
  have Hga := Lib.hid hga
  have Hmine : Hid (∀ q, Mine g gb ge gc ga vs q → q < w.heap.size) := fun q hq => (hO.lt hq).2
  have hgaB : wb.heap.size ≤ ga := by omega
  have hsz5 := hsz.big
  have Hfirst := Lib.hid (fun w => first_any tn R H Re Ca S B hok n b s hsz u hu w)
  have hb2 := hm.big2
  have hb4 := hm.big4
  have hbc : cs.length ≤ 140737488355328 := by rw [hm.calls.1]; exact hm.big1
  have Hbc := Lib.hid hbc
  have HgaB := Lib.hid hgaB
  clear hm hsz hok hxb hO hAt hC hB hbc hga hgaB
  go_enter Try.func71, Try.ntmps71
  go_upto_region 1 with fail
  obtain ⟨w0, hw0, hC, hR, hE, hlt0⟩ := enter2 w (.cells (cfgV tn R H Re Ca S B) 23) (.cells #[.slice A1 n1 c1, .slice A2 n2 c2, .slice A3 n3 c3, .slice A4 n4 c4] 48)
  rw [hw0]
  have HE := Lib.hid hE
  have HR := Lib.hid hR
  obtain ⟨d0, d1, d2, d3, d4, d5, d6⟩ := Lat.cfg hC
  obtain ⟨r0, r1, r2, r3⟩ := Lat.run hR
  obtain ⟨k0, hk0⟩ := lat_self w0
  rw [hk0]
  clear hw0 hC hR hE hk0
  have Hlt0 := Lib.hid hlt0
  clear hlt0
  go_wp2_with fail
  refine (Hfirst.out _).mono ?_
  rintro e w1 ⟨gw, rfl, hown, e1⟩
  have HW := Lib.hid (own_base hown k0.ok.size)
  obtain ⟨k1, rfl⟩ := lat_next k0 e1
  clear hown e1
  go_wp2_with fail
  have HO1 := Lib.hid (HO.out.ext (Ext.next HE.out k1.ok))
  have hn1 : Hid (Only (fun q => q = ga) w k1.world) := Only.of_ext (Ext.next HE.out k1.ok)
  have HR1 := Lib.hid (ext_blk k1.ok HR.out)
  go_loopw [11, 24] (fun s11 s24 wr => ∃ (i : Nat) (ws cur' : List Int), i ≤ n2 ∧ s24 = .int .i64 i ∧ s11 = .int .i64 (prevMv tr i) ∧ Hid (Owners wr Bo g gb ge gc ga tn cs cs cs vs cur') ∧ Hid (AtOK cs tn cur' (prevMv tr i)) ∧ Hid (Only (fun q => q = ga) w wr) ∧
      Hid (wr.heap[w.heap.size + 1]? = some (.cells #[.slice A1 n1 c1, .slice A2 n2 c2, .slice A3 n3 c3, .slice A4 n4 c4] 48 (0, 0))) ∧ Hid (wr.ownsRow w0.heap.size 25 1 (.slice (some ⟨gw, 0, none⟩) n n) n (ws.map (Value.int .u64))) ∧
      Hid (traceF cs (-1) (firstL n b s u) tr = some rw_ ↔ traceF cs (prevMv tr i) ws (tr.drop i) = some rw_)) (fun _ s _ => n2 - (intOf s).toNat)
  case atStart => exact ⟨0, _, cur, by omega, rfl, rfl, HO1, HAt, hn1, HR1, HW.out, Iff.rfl⟩
  case round =>
    clear HW HO1 hn1 HR1 d0 d1 d2 d3 d4 d5 d6 r0 r1 r2 r3
    obtain ⟨i, ws, cur', hi, rfl, rfl, HOr, HAr, hon, HRr, hown, hrest⟩ := hrel
    have HXr : Hid (Ext wb wr) := HX.out.only hon.out fun q hq => by rw [hq]; exact HgaB.out
    have hgw : gw ≠ ga := by
      have h1 := (hown.out.lt gw rfl).1
      have h2 := Hga.out.2
      have h3 := HE.out.size
      omega
    by_cases hlt : i < n2
    · obtain ⟨ba, off, x, hAx, hb, hx, x0, x1, x2, x3, x4, x5, x6⟩ := Ac.at_ (Hm.out.trace.ext HXr.out) hlt
      have h1 : (i : Int) < (n2 : Int) := by omega
      have hi0 : (0 : Int) ≤ (i : Int) := by omega
      subst hAx
      have Hstep : Hid (traceF cs (-1) (firstL n b s u) tr = some rw_ ↔ (if prevMv tr i < x.mv ∧ placeB cs x.th x.mv = true then (stepW ws x).bind (fun ws' => traceF cs x.mv ws' (tr.drop (i + 1))) else none) = some rw_) := hrest.out.trans (by rw [traceF_step hx.out])
      have Hgw := Lib.hid hgw
      clear hgw hb
      obtain ⟨k, hk⟩ := lat_self wr
      rw [hk]
      clear hk
      go_upto_region 6 with fail
      obtain ⟨w3, hw3, hX, hE3, hlt3⟩ := enter1 k.world (.cells #[.int .i64 x.mv, .int .i64 x.th, .int .i64 x.kd, .int .i64 x.ad, .int .u64 x.od, .int .u64 x.nw, .int .u64 x.sw] 129)
      rw [hw3]
      clear x0 x1 x2 x3 x4 x5 x6
      have HE3 := Lib.hid (Ext.next k.ok hE3)
      have HX3 := Lib.hid hX
      have hpk : wr.heap.size ≤ k.world.heap.size := k.size
      have Hpga : Hid (k.world.heap.size ≠ ga) := fun e => by
        have := (HOr.out.lt (.inr (.inr (.inr (.inr (.inl rfl))))) : Bo ≤ ga ∧ ga < wr.heap.size).2
        omega
      obtain ⟨x0, x1, x2, x3, x4, x5, x6⟩ := Ac.boxed hX
      obtain ⟨k3, hk3⟩ := lat_self w3
      rw [hk3]
      have Hp3 := Lib.hid hlt3
      generalize k.world.heap.size = p at *
      have HO3 := Lib.hid (HOr.out.ext (Ext.next HE3.out k3.ok))
      have Hn3 := Lib.hid (hon.out.later (Ext.next HE3.out k3.ok))
      have HW3 := Lib.hid (own_ext hown.out (Ext.next HE3.out k3.ok))
      have HR3 := Lib.hid (ext_blk (Ext.next HE3.out k3.ok) HRr.out)
      have HXX3 := Lib.hid (ext_blk k3.ok HX3.out)
      have hrunlt : w.heap.size + 1 ≠ ga := by
        have := Hga.out.2
        omega
      have Hrunlt := Lib.hid hrunlt
      clear hw3 hX hE3 hk3 hlt3 hpk hrunlt
      by_cases hmv : x.mv ≤ prevMv tr i
      · have hd : decide (x.mv ≤ prevMv tr i) = true := by simpa using hmv
        have HB : Hid (¬ traceF cs (-1) (firstL n b s u) tr = some rw_) := by
          intro h
          have h2 := Hstep.out.1 h
          rw [if_neg (by omega)] at h2
          cases h2
        clear hmv
        go_wp2_with fail
        go_ret
        exact played_no HB.out HO3.out Hn3.out
      · have hd : decide (x.mv ≤ prevMv tr i) = false := by simpa using hmv
        have Hmv := Lib.hid (show prevMv tr i < x.mv by omega)
        clear hmv
        go_wp2_with fail
        refine (may_any tn Bo g gb ge gc ga cs vs cur' x.th x.mv (prevMv tr i) _ HO3.out HAr.out (Int.le_of_lt Hmv.out) HC.out Hbc.out).mono ?_
        rintro e w4 ⟨rfl, cur4, hO4, hA4, hon4⟩
        have HO4 := Lib.hid hO4
        have HA4 := Lib.hid hA4
        have HX4 : Hid (w4.heap[p]? = _) := (hon4.block p (blk_lt HXX3.out) Hpga.out).trans HXX3.out
        have HR4 : Hid (w4.heap[w.heap.size + 1]? = _) := (hon4.block _ (blk_lt HR3.out) Hrunlt.out).trans HR3.out
        have HW4 := Lib.hid (own_only HW3.out hon4 fun q hq h => by
          injection hq with hq
          exact Hgw.out (hq.trans h))
        have Hn4 : Hid (Only (fun q => q = ga) w w4) := Hn3.out.trans hon4 fun _ _ h => h
        clear hO4 hA4 hon4 x0 x1 x2 x3 x4 x5 x6
        obtain ⟨x0, x1, x2, x3, x4, x5, x6⟩ := Ac.boxed HX4.out
        obtain ⟨k4, hk4⟩ := lat_self w4
        rw [hk4]
        have HO4' := Lib.hid (HO4.out.ext k4.ok)
        have Hn4' := Lib.hid (Hn4.out.later k4.ok)
        have HW4' := Lib.hid (own_ext HW4.out k4.ok)
        have HR4' := Lib.hid (ext_blk k4.ok HR4.out)
        clear hk4
        generalize hpl : placeB cs x.th x.mv = pb at Hstep ⊢
        clear hpl
        cases pb with
        | false =>
          have HB : Hid (¬ traceF cs (-1) (firstL n b s u) tr = some rw_) := by
            intro h
            have h2 := Hstep.out.1 h
            rw [if_neg (fun h => by have := h.2; cases this)] at h2
            cases h2
          go_wp2_with fail
          go_ret
          exact played_no HB.out HO4'.out Hn4'.out
        | true =>
          have HS2 : Hid (traceF cs (-1) (firstL n b s u) tr = some rw_ ↔ (stepW ws x).bind (fun ws' => traceF cs x.mv ws' (tr.drop (i + 1))) = some rw_) := by
            show _ ↔ _
            have h := Hstep.out
            rwa [if_pos ⟨Hmv.out, rfl⟩] at h
          have hlw : ws.length = n := by have := hown.out.1; simpa using this
          have HLW := Lib.hid hlw
          clear hlw
          by_cases hin : 0 ≤ x.ad ∧ x.ad < n
          · obtain ⟨hin0, hin1⟩ := hin
            obtain ⟨j, hj⟩ : ∃ j : Nat, x.ad = j := ⟨x.ad.toNat, by omega⟩
            have hjn : j < n := by omega
            have hji : (j : Int) < (n : Int) := by omega
            have HST : Hid (stepW ws x = if x.kd = 1 then (if x.od = 0 ∧ x.nw = 0 ∧ x.sw = ws.getD j 0 then some ws else none)
                else if x.kd = 2 then (if x.od = 0 ∧ x.sw = 0 then some (ws.set j x.nw) else none)
                else if x.kd = 3 then (if x.sw = ws.getD j 0 then some (if x.sw = x.od then ws.set j x.nw else ws) else none) else none) := by
              show _ = _
              unfold stepW
              rw [if_pos (by rw [HLW.out]; omega), hj, Int.toNat_natCast]
            rw [hj] at x3
            clear hj hin0 hin1
            obtain ⟨_, hcw, hfw⟩ := own_word_at HW4.out hjn
            generalize ws.getD j 0 = wj at HST hcw
            have HNo : ∀ (k7 : Lat w4), ¬ traceF cs (-1) (firstL n b s u) tr = some rw_ → PlayedOut w Bo g gb ge gc ga tn cs vs (traceF cs (-1) (firstL n b s u) tr = some rw_) (.returned (.bool false)) k7.world := fun k7 h => played_no h (HO4.out.ext k7.ok) (Hn4.out.later k7.ok)
            have HNo := Lib.hid HNo
            rcases (by omega : x.kd = 1 ∨ x.kd = 2 ∨ x.kd = 3 ∨ (x.kd ≠ 1 ∧ x.kd ≠ 2 ∧ x.kd ≠ 3)) with hk | hk | hk | hk
            · have b1 : (x.kd == 1) = true := beq_iff_eq.2 hk
              have HK := Lib.hid hk
              clear hk
              rcases (by omega : (x.sw ≠ wj ∨ (x.sw = wj ∧ x.od ≠ 0) ∨ (x.sw = wj ∧ x.od = 0 ∧ x.nw ≠ 0)) ∨ (x.od = 0 ∧ x.nw = 0 ∧ x.sw = wj)) with hbad | hgood
              · have HB : Hid (¬ traceF cs (-1) (firstL n b s u) tr = some rw_) := by
                  intro h
                  have h2 := HS2.out.1 h
                  rw [HST.out, if_pos HK.out, if_neg (by omega)] at h2
                  cases h2
                rcases hbad with h2 | ⟨h2, h3⟩ | ⟨h2, h3, h4⟩
                case' inl => have e1 : (x.sw != wj) = true := by simpa using h2
                case' inr.inl =>
                  have e1 : (x.sw != wj) = false := by simpa using h2
                  have e2 : (x.od != 0) = true := by simpa using h3
                  clear h3
                case' inr.inr =>
                  have e1 : (x.sw != wj) = false := by simpa using h2
                  have e2 : (x.od != 0) = false := by simpa using h3
                  have e3 : (x.nw != 0) = true := by simpa using h4
                  clear h3 h4
                all_goals
                  clear h2
                  go_wp2_with fail
                  go_ret
                  exact HNo.out k4 HB.out
              · obtain ⟨h2, h3, h4⟩ := hgood
                have HS : Hid (traceF cs (-1) (firstL n b s u) tr = some rw_ ↔ traceF cs (prevMv tr (i + 1)) ws (tr.drop (i + 1)) = some rw_) := by
                  show _ ↔ _
                  rw [HS2.out, HST.out, if_pos HK.out, if_pos ⟨h2, h3, h4⟩, prevMv_succ hx.out]
                  rfl
                have e1 : (x.od != 0) = false := by simpa using h2
                have e2 : (x.nw != 0) = false := by simpa using h3
                have e3 : (x.sw != wj) = false := by simpa using h4
                clear h2 h3 h4
                go_wp2_with fail
                go_roundw
                case rel => exact ⟨i + 1, ws, cur4, by omega, by go_num, by rw [prevMv_succ hx.out], HO4', by rw [prevMv_succ hx.out]; exact HA4, Hn4', HR4', HW4', HS⟩
                case measure => simp [intOf]; omega
            · have b1 : (x.kd == 1) = false := beq_eq_false_iff_ne.2 (by omega)
              have b2 : (x.kd == 2) = true := beq_iff_eq.2 hk
              have HK := Lib.hid hk
              clear hk
              rcases (by omega : (x.od ≠ 0 ∨ (x.od = 0 ∧ x.sw ≠ 0)) ∨ (x.od = 0 ∧ x.sw = 0)) with hbad | hgood
              · have HB : Hid (¬ traceF cs (-1) (firstL n b s u) tr = some rw_) := by
                  intro h
                  have h2 := HS2.out.1 h
                  rw [HST.out, if_neg (by rw [HK.out]; omega), if_pos HK.out, if_neg (by omega)] at h2
                  cases h2
                rcases hbad with h2 | ⟨h2, h3⟩
                case' inl => have e1 : (x.od != 0) = true := by simpa using h2
                case' inr =>
                  have e1 : (x.od != 0) = false := by simpa using h2
                  have e2 : (x.sw != 0) = true := by simpa using h3
                  clear h3
                all_goals
                  clear h2
                  go_wp2_with fail
                  go_ret
                  exact HNo.out k4 HB.out
              · obtain ⟨h2, h3⟩ := hgood
                have HS : Hid (traceF cs (-1) (firstL n b s u) tr = some rw_ ↔ traceF cs (prevMv tr (i + 1)) (ws.set j x.nw) (tr.drop (i + 1)) = some rw_) := by
                  show _ ↔ _
                  rw [HS2.out, HST.out, if_neg (by rw [HK.out]; omega), if_pos HK.out, if_pos ⟨h2, h3⟩, prevMv_succ hx.out]
                  rfl
                have e1 : (x.od != 0) = false := by simpa using h2
                have e2 : (x.sw != 0) = false := by simpa using h3
                clear h2 h3
                have HP := Lib.hid (prevMv_succ hx.out)
                go_wp2_with fail
                have HS5 := Lib.hid (word_put (x := x.nw) (j := j) HW4'.out HO4'.out Hn4'.out HR4'.out Hlt0.out Hmine.out)
                go_roundw
                case rel => exact ⟨i + 1, ws.set j x.nw, cur4, by omega, by go_num, by rw [HP.out], HS5.out.1, by rw [HP.out]; exact HA4, HS5.out.2.1, HS5.out.2.2.1, HS5.out.2.2.2, HS⟩
                case measure => simp [intOf]; omega
            · have b1 : (x.kd == 1) = false := beq_eq_false_iff_ne.2 (by omega)
              have b2 : (x.kd == 2) = false := beq_eq_false_iff_ne.2 (by omega)
              have b3 : (x.kd == 3) = true := beq_iff_eq.2 hk
              have HK := Lib.hid hk
              clear hk
              have HP := Lib.hid (prevMv_succ hx.out)
              by_cases h4 : x.sw = wj
              · have e3 : (x.sw != wj) = false := by simpa using h4
                have HS3 : Hid (traceF cs (-1) (firstL n b s u) tr = some rw_ ↔ traceF cs (prevMv tr (i + 1)) (if x.sw = x.od then ws.set j x.nw else ws) (tr.drop (i + 1)) = some rw_) := by
                  show _ ↔ _
                  rw [HS2.out, HST.out, if_neg (by rw [HK.out]; omega), if_neg (by rw [HK.out]; omega), if_pos HK.out, if_pos h4, prevMv_succ hx.out]
                  rfl
                by_cases h5 : x.od = wj
                · have e4 : (x.od == wj) = true := beq_iff_eq.2 h5
                  have HS : Hid (traceF cs (-1) (firstL n b s u) tr = some rw_ ↔ traceF cs (prevMv tr (i + 1)) (ws.set j x.nw) (tr.drop (i + 1)) = some rw_) := by
                    have h := HS3.out
                    rwa [if_pos (by omega)] at h
                  clear h4 h5
                  go_wp2_with fail
                  have HS5 := Lib.hid (word_put (x := x.nw) (j := j) HW4'.out HO4'.out Hn4'.out HR4'.out Hlt0.out Hmine.out)
                  go_roundw
                  case rel => exact ⟨i + 1, ws.set j x.nw, cur4, by omega, by go_num, by rw [HP.out], HS5.out.1, by rw [HP.out]; exact HA4, HS5.out.2.1, HS5.out.2.2.1, HS5.out.2.2.2, HS⟩
                  case measure => simp [intOf]; omega
                · have e4 : (x.od == wj) = false := beq_eq_false_iff_ne.2 h5
                  have HS : Hid (traceF cs (-1) (firstL n b s u) tr = some rw_ ↔ traceF cs (prevMv tr (i + 1)) ws (tr.drop (i + 1)) = some rw_) := by
                    have h := HS3.out
                    rwa [if_neg (by omega)] at h
                  clear h4 h5
                  go_wp2_with fail
                  go_roundw
                  case rel => exact ⟨i + 1, ws, cur4, by omega, by go_num, by rw [HP.out], HO4', by rw [HP.out]; exact HA4, Hn4', HR4', HW4', HS⟩
                  case measure => simp [intOf]; omega
              · have e3 : (x.sw != wj) = true := by simpa using h4
                have HB : Hid (¬ traceF cs (-1) (firstL n b s u) tr = some rw_) := by
                  intro h
                  have h2 := HS2.out.1 h
                  rw [HST.out, if_neg (by rw [HK.out]; omega), if_neg (by rw [HK.out]; omega), if_pos HK.out, if_neg h4] at h2
                  cases h2
                clear h4
                go_wp2_with fail
                go_ret
                exact HNo.out k4 HB.out
            · have b1 : (x.kd == 1) = false := beq_eq_false_iff_ne.2 (by omega)
              have b2 : (x.kd == 2) = false := beq_eq_false_iff_ne.2 (by omega)
              have b3 : (x.kd == 3) = false := beq_eq_false_iff_ne.2 (by omega)
              have HB : Hid (¬ traceF cs (-1) (firstL n b s u) tr = some rw_) := by
                intro h
                have h2 := HS2.out.1 h
                rw [HST.out, if_neg hk.1, if_neg hk.2.1, if_neg hk.2.2] at h2
                cases h2
              clear hk
              go_wp2_with fail
              go_ret
              exact HNo.out k4 HB.out
          · have HB : Hid (¬ traceF cs (-1) (firstL n b s u) tr = some rw_) := by
              intro h
              have h2 := HS2.out.1 h
              unfold stepW at h2
              rw [if_neg (by rw [HLW.out]; exact hin)] at h2
              cases h2
            rcases (by omega : x.ad < 0 ∨ (0 ≤ x.ad ∧ (n : Int) ≤ x.ad)) with h2 | ⟨h2, h3⟩
            all_goals
              clear hin
              go_wp2_with fail
              go_ret
              exact played_no HB.out HO4'.out Hn4'.out
    · obtain rfl : n2 = i := by omega
      have HW : Hid (traceF cs (-1) (firstL n b s u) tr = some rw_ ↔ ws = rw_) := by
        show _ ↔ _
        rw [hrest.out, List.drop_of_length_le (by rw [Hm.out.trace.1]; exact Nat.le_refl _)]
        simp [traceF]
      have HLW : Hid (ws.length = n) := by show _ = _; have := hown.out.1; simpa using this
      obtain ⟨r0, r1, r2, r3⟩ := Lat.run HRr.out
      have q3 := r3 ⟨wr, Ext.rfl' wr⟩
      simp only at q3
      clear r0 r1 r2 r3 hgw
      go_wp2_with fail
      refine (equal_any _ n n A4 n4 c4 ws rw_ wr (Rd.of_own hown.out) HLW.out (Hm.out.words.ext HXr.out) Hm.out.wlen (by omega) hb4).mono ?_
      rintro e w5 ⟨q, rfl, hq, e5⟩
      have HQ := Lib.hid (hq.trans HW.out.symm)
      have HO5 := Lib.hid (HOr.out.ext e5)
      have Hn5 := Lib.hid (hon.out.later e5)
      clear hq e5
      go_wp2_with fail
      go_ret
      exact ⟨q, cur', rfl, HQ.out, HO5.out, Hn5.out⟩

/-- The last one's thread of those at a move. -/
def byF (l : List (Int × Int)) (m : Int) : Option Int := ((l.filter (fun x => decide (x.1 = m))).getLast?).map Prod.snd
def pairA (a : Ac) : Int × Int := (a.mv, a.th)
def pairS (x : Sh) : Int × Int := (x.mv, x.th)
theorem byF_snoc (l : List (Int × Int)) (m t j : Int) : (if j = m then some t else byF l j) = byF (l ++ [(m, t)]) j := by
  unfold byF
  rw [List.filter_append]
  by_cases h : j = m
  · simp [h]
  · have : ¬ m = j := fun q => h q.symm
    simp [h, this]
theorem byF_some {l : List (Int × Int)} {m t : Int} (h : byF l m = some t) : (m, t) ∈ l := by
  unfold byF at h
  obtain ⟨x, hx, rfl⟩ := Option.map_eq_some_iff.1 h
  have hm := List.mem_of_getLast? hx
  rw [List.mem_filter] at hm
  have h2 : x.1 = m := by simpa using hm.2
  subst h2
  exact hm.1
theorem byF_none {l : List (Int × Int)} {m : Int} (h : byF l m = none) : ∀ x ∈ l, x.1 ≠ m := by
  unfold byF at h
  rw [Option.map_eq_none_iff, List.getLast?_eq_none_iff, List.filter_eq_nil_iff] at h
  intro x hx
  simpa using h x hx

/-- The trace's moves rise. -/
theorem trace_rise {l : List Cl} {r : List Int} : ∀ (tr : List Ac) (p : Int) (ws : List Int), traceF l p ws tr = some r → (∀ a ∈ tr, p < a.mv) ∧ tr.Pairwise (fun a b => a.mv < b.mv)
  | [], _, _, _ => ⟨fun a ha => absurd ha (by simp), List.Pairwise.nil⟩
  | a :: tr, p, ws, h => by
    rw [traceF] at h
    split at h
    · rename_i hp
      cases hs : stepW ws a with
      | none => rw [hs] at h; cases h
      | some ws' =>
        rw [hs] at h
        obtain ⟨h1, h2⟩ := trace_rise tr a.mv ws' h
        refine ⟨fun b hb => ?_, List.Pairwise.cons h1 h2⟩
        rcases List.mem_cons.1 hb with rfl | hb
        · exact hp.1
        · have := h1 b hb
          omega
    · cases h
theorem rise_same {tr : List Ac} (h : tr.Pairwise (fun a b => a.mv < b.mv)) {a b : Ac} (ha : a ∈ tr) (hb : b ∈ tr) (he : a.mv = b.mv) : a.th = b.th := by
  obtain ⟨i, hi⟩ := List.getElem?_of_mem ha
  obtain ⟨j, hj⟩ := List.getElem?_of_mem hb
  obtain ⟨hi1, hi2⟩ := List.getElem?_eq_some_iff.1 hi
  obtain ⟨hj1, hj2⟩ := List.getElem?_eq_some_iff.1 hj
  rcases Nat.lt_trichotomy i j with h1 | h1 | h1
  · have := List.pairwise_iff_getElem.1 h i j hi1 hj1 h1
    rw [hi2, hj2] at this
    omega
  · subst h1
    rw [hi] at hj
    injection hj with hj
    rw [hj]
  · have := List.pairwise_iff_getElem.1 h j i hj1 hi1 h1
    rw [hi2, hj2] at this
    omega

/-- What stands of the shifts ahead of place i. -/
def ShInv (tr : List Ac) (sh : List Sh) (i : Nat) : Prop :=
  -1 ≤ (prevSh sh i).1 ∧ (∀ (j : Nat) (y : Sh), j < i → sh[j]? = some y → y.mv ≤ (prevSh sh i).1) ∧ (0 < i → (∃ y, sh[i - 1]? = some y ∧ prevSh sh i = (y.mv, y.th)) ∧ ∀ a ∈ tr, a.mv = (prevSh sh i).1 → a.th = (prevSh sh i).2)
theorem ShInv.zero (tr : List Ac) (sh : List Sh) : ShInv tr sh 0 := ⟨Int.le_refl _, fun _ _ hj => absurd hj (Nat.not_lt_zero _), fun h => absurd h (Nat.not_lt_zero _)⟩
theorem ShInv.step {tr : List Ac} {sh : List Sh} {i : Nat} {x : Sh} (h : ShInv tr sh i) (hx : sh[i]? = some x) (hp : (prevSh sh i).1 ≤ x.mv) (ht : ∀ a ∈ tr, a.mv = x.mv → a.th = x.th) : ShInv tr sh (i + 1) := by
  unfold ShInv
  rw [prevSh_succ hx]
  have h1 := h.1
  refine ⟨by show -1 ≤ x.mv; omega, fun j y hj hy => ?_, fun _ => ⟨⟨x, hx, rfl⟩, ht⟩⟩
  show y.mv ≤ x.mv
  by_cases hji : j = i
  · subst hji
    rw [hx] at hy
    injection hy with hy
    rw [hy]
    exact Int.le_refl _
  · have := h.2.1 j y (by omega) hy
    omega
/-- The map of moves as it stands ahead of the shift at place i. -/
def byAt (tr : List Ac) (sh : List Sh) (i : Nat) : List (Int × Int) := tr.map pairA ++ (sh.take i).map pairS
theorem byAt_snoc {tr : List Ac} {sh : List Sh} {i : Nat} {x : Sh} (hx : sh[i]? = some x) : byAt tr sh i ++ [(x.mv, x.th)] = byAt tr sh (i + 1) := by
  unfold byAt
  rw [List.take_add_one, hx]
  simp [pairS]
theorem by_step {tr : List Ac} {sh : List Sh} {i : Nat} {x : Sh} (hT : tr.Pairwise (fun a b => a.mv < b.mv)) (hI : ShInv tr sh i) (hp : (prevSh sh i).1 ≤ x.mv) (h0 : 0 < x.mv) :
    (∀ t, byF (byAt tr sh i) x.mv = some t → t = x.th) ↔ ((x.mv = (prevSh sh i).1 → x.th = (prevSh sh i).2) ∧ ∀ a ∈ tr, a.mv = x.mv → a.th = x.th) := by
  by_cases hm : 0 < i ∧ x.mv = (prevSh sh i).1
  · obtain ⟨hi, hm⟩ := hm
    obtain ⟨⟨y, hy, hpy⟩, hall⟩ := hI.2.2 hi
    rw [hpy] at hm hall ⊢
    have hby : byF (byAt tr sh i) x.mv = some y.th := by
      have hs : byAt tr sh i = byAt tr sh (i - 1) ++ [(y.mv, y.th)] := by
        rw [byAt_snoc hy, show i - 1 + 1 = i from by omega]
      rw [hs, ← byF_snoc, if_pos hm]
    rw [hby]
    constructor
    · intro h
      have := h _ rfl
      refine ⟨fun _ => this.symm, fun a ha he => ?_⟩
      have := hall a ha (he.trans hm)
      simp only at this
      omega
    · rintro ⟨h, _⟩ t ht
      injection ht with ht
      have := h hm
      simp only at this
      omega
  · have hno : x.mv ≠ (prevSh sh i).1 := by
      intro e
      by_cases hi : 0 < i
      · exact hm ⟨hi, e⟩
      · obtain rfl : i = 0 := by omega
        have : x.mv = -1 := e
        omega
    have hsh : ∀ z ∈ (sh.take i).map pairS, z.1 ≠ x.mv := by
      intro z hz
      obtain ⟨y, hy, rfl⟩ := List.mem_map.1 hz
      obtain ⟨j, hj⟩ := List.getElem?_of_mem hy
      have hji : j < i := by
        have := (List.getElem?_eq_some_iff.1 hj).1
        rw [List.length_take] at this
        omega
      rw [List.getElem?_take_of_lt hji] at hj
      have := hI.2.1 j y hji hj
      show y.mv ≠ x.mv
      omega
    constructor
    · intro h
      refine ⟨fun e => absurd e hno, fun a ha he => ?_⟩
      cases hb : byF (byAt tr sh i) x.mv with
      | none => exact absurd he (byF_none hb (pairA a) (List.mem_append_left _ (List.mem_map.2 ⟨a, ha, rfl⟩)))
      | some t =>
        have h2 := h t hb
        have h3 := byF_some hb
        rcases List.mem_append.1 h3 with h3 | h3
        · obtain ⟨c, hc, hce⟩ := List.mem_map.1 h3
          injection hce with h4 h5
          have := rise_same hT ha hc (by omega)
          omega
        · exact absurd rfl (hsh _ h3)
    · rintro ⟨_, h⟩ t ht
      have h3 := byF_some ht
      rcases List.mem_append.1 h3 with h3 | h3
      · obtain ⟨c, hc, hce⟩ := List.mem_map.1 h3
        injection hce with h4 h5
        have := h c hc h4
        omega
      · exact absurd rfl (hsh _ h3)

/-- All threads' places are set to 0. -/
theorem Owners.cleared {B g gb ge gc ga T : Nat} {l : List Cl} {vs : List Value} : ∀ (k o : Nat) (w : World) (cur : List Int), Owners w B g gb ge gc ga T l l l vs cur → o + k = T → (∀ j, j < o → cur[j]? = some 0) →
    ∃ cur', Owners (w.setCells ga o (List.replicate k (.int .i64 0))) B g gb ge gc ga T l l l vs cur' ∧ Only (fun q => q = ga) w (w.setCells ga o (List.replicate k (.int .i64 0))) ∧ ∀ p, AtOK l T cur' p
  | 0, o, w, cur, h, hk, hz => ⟨cur, h, Only.refl _ _, fun p t ht => ⟨0, hz t (by omega), Nat.zero_le _, fun _ _ hj => absurd hj (Nat.not_lt_zero _)⟩⟩
  | k + 1, o, w, cur, h, hk, hz => by
    have hl := h.len.2
    obtain ⟨cur', h1, h2, h3⟩ := Owners.cleared k (o + 1) _ _ (h.set_at o 0) (by omega) (fun j hj => by
      by_cases hjo : j = o
      · subst hjo
        rw [List.getElem?_set_self (by omega)]
      · rw [List.getElem?_set_ne (Ne.symm hjo)]
        exact hz j (by omega))
    refine ⟨cur', h1, ?_, h3⟩
    exact ((Only.refl (fun q => q = ga) w).setCell ⟨ga, o, none⟩ (.int .i64 0) fun _ => rfl).trans h2 fun _ _ hq => hq

/-- What census.May holds while it goes through the shifts. -/
structure MaySt (w wr : World) (M0 M1 gm M2 : Nat) (cv rv : Array Value) (g gb ge gc ga T : Nat) (cs : List Cl) (vs : List Value) (cur : List Int) (f : Int → Option Int) (p g1 c1 g2 c2 s : Nat) (st ho : List Int) : Prop where
  ext : Ext w wr
  cfg : wr.heap[w.heap.size]? = some (.cells cv 23 (0, 0))
  run : wr.heap[w.heap.size + 1]? = some (.cells rv 48 (0, 0))
  own : Owners wr M0 g gb ge gc ga T cs cs cs vs cur
  map : IMap wr gm f
  slo : SlotsObj wr M2 p g1 c1 g2 c2 s st ho
  mine : ∀ q, Mine g gb ge gc ga vs q → q < M1
  lay : w.heap.size + 1 < M0 ∧ M1 ≤ gm ∧ gm < M2
section
variable {w wr w' : World} {M0 M1 gm M2 : Nat} {cv rv : Array Value} {g gb ge gc ga T : Nat} {cs : List Cl} {vs : List Value} {cur : List Int} {f : Int → Option Int} {p g1 c1 g2 c2 s : Nat} {st ho : List Int}
theorem MaySt.next (h : MaySt w wr M0 M1 gm M2 cv rv g gb ge gc ga T cs vs cur f p g1 c1 g2 c2 s st ho) (e : Ext wr w') : MaySt w w' M0 M1 gm M2 cv rv g gb ge gc ga T cs vs cur f p g1 c1 g2 c2 s st ho :=
  ⟨Ext.next h.ext e, ext_blk e h.cfg, ext_blk e h.run, h.own.ext e, h.map.ext e, h.slo.ext e, h.mine, h.lay⟩
theorem MaySt.ga_in (h : MaySt w wr M0 M1 gm M2 cv rv g gb ge gc ga T cs vs cur f p g1 c1 g2 c2 s st ho) : M0 ≤ ga ∧ ga < M1 :=
  ⟨(h.own.lt (.inr (.inr (.inr (.inr (.inl rfl)))))).1, h.mine _ (.inr (.inr (.inr (.inr (.inl rfl)))))⟩
theorem MaySt.slots_in (h : MaySt w wr M0 M1 gm M2 cv rv g gb ge gc ga T cs vs cur f p g1 c1 g2 c2 s st ho) : M2 ≤ p ∧ M2 ≤ g1 ∧ M2 ≤ g2 := ⟨h.slo.low, (h.slo.own1.lt _ rfl).1, (h.slo.own2.lt _ rfl).1⟩
theorem MaySt.may (h : MaySt w wr M0 M1 gm M2 cv rv g gb ge gc ga T cs vs cur f p g1 c1 g2 c2 s st ho) {cur' : List Int} (hO : Owners w' M0 g gb ge gc ga T cs cs cs vs cur') (o : Only (fun q => q = ga) wr w') : MaySt w w' M0 M1 gm M2 cv rv g gb ge gc ga T cs vs cur' f p g1 c1 g2 c2 s st ho := by
  have h1 := h.ga_in
  have h2 := h.lay
  have h3 := h.slots_in
  refine ⟨h.ext.only o fun q hq => by omega, (o.block _ (blk_lt h.cfg) (by omega)).trans h.cfg, (o.block _ (blk_lt h.run) (by omega)).trans h.run, hO, h.map.only o (by omega), h.slo.only o (by omega) (by omega) (by omega), h.mine, h.lay⟩
theorem MaySt.put_by (h : MaySt w wr M0 M1 gm M2 cv rv g gb ge gc ga T cs vs cur f p g1 c1 g2 c2 s st ho) {f' : Int → Option Int} (hm : IMap w' gm f') (o : Only (fun q => q = gm) wr w') : MaySt w w' M0 M1 gm M2 cv rv g gb ge gc ga T cs vs cur f' p g1 c1 g2 c2 s st ho := by
  have h1 := h.ga_in
  have h2 := h.lay
  have h3 := h.slots_in
  refine ⟨h.ext.only o fun q hq => by omega, (o.block _ (blk_lt h.cfg) (by omega)).trans h.cfg, (o.block _ (blk_lt h.run) (by omega)).trans h.run, h.own.only o (fun q hq e => by have := h.mine q hq; omega), hm, h.slo.only o (by omega) (by omega) (by omega), h.mine, h.lay⟩
theorem MaySt.put (h : MaySt w wr M0 M1 gm M2 cv rv g gb ge gc ga T cs vs cur f p g1 c1 g2 c2 s st ho) {st' ho' : List Int} (hs : SlotsObj w' M2 p g1 c1 g2 c2 s st' ho') (o : Only (fun q => q = g1 ∨ q = g2) wr w') : MaySt w w' M0 M1 gm M2 cv rv g gb ge gc ga T cs vs cur f p g1 c1 g2 c2 s st' ho' := by
  have h1 := h.ga_in
  have h2 := h.lay
  have h3 := h.slots_in
  refine ⟨h.ext.only o fun q hq => by omega, (o.block _ (blk_lt h.cfg) (by omega)).trans h.cfg, (o.block _ (blk_lt h.run) (by omega)).trans h.run, h.own.only o (fun q hq e => by have := h.mine q hq; omega), h.map.only o (by omega), hs, h.mine, h.lay⟩
end

set_option maxRecDepth 100000 in
set_option maxHeartbeats 40000000 in
theorem censusMay_any (T R H Re Ca S B used : Int)
    (A1 : Option Addr) (n1 c1 : Nat) (A2 : Option Addr) (n2 c2 : Nat) (A3 : Option Addr) (n3 c3 : Nat) (A4 : Option Addr) (n4 c4 : Nat) (cs : List Cl) (tr : List Ac) (sh : List Sh) (rw_ : List Int) (w : World)
    (hm : RunMem w A1 n1 A2 n2 A3 n3 A4 n4 cs tr sh rw_) (hbig : n1 * 72 ≤ 140737488355328) :
    Calls Try.prog 21 #[(.agg #[.int .i64 T, .int .i64 R, .int .i64 H, .int .i64 Re, .int .i64 Ca, .int .i64 S, .int .i64 B]), .int .i64 used, .agg #[.slice A1 n1 c1, .slice A2 n2 c2, .slice A3 n3 c3, .slice A4 n4 c4]] w
      (Says (MayOK T R H Re Ca S B used cs tr sh rw_) w) := by
  have Hm := Lib.hid hm
  have Hbig := Lib.hid hbig
  have hb2 := hm.big2
  have hb3 := hm.big3
  clear hm hbig
  generalize hmay : MayOK T R H Re Ca S B used cs tr sh rw_ = may
  have HM := Lib.hid hmay
  clear hmay
  go_enter Try.func21, Try.ntmps21
  go_upto_region 1 with fail
  obtain ⟨w0, hw0, hC, hR, hE, hlt0⟩ := enter2 w (.cells (cfgV T R H Re Ca S B) 23) (.cells #[.slice A1 n1 c1, .slice A2 n2 c2, .slice A3 n3 c3, .slice A4 n4 c4] 48)
  rw [hw0]
  have HE := Lib.hid hE
  have HC0 := Lib.hid hC
  have HR0 := Lib.hid hR
  have Hlt0 := Lib.hid hlt0
  have Hm0 := Lib.hid (Hm.out.ext hE)
  obtain ⟨d0, d1, d2, d3, d4, d5, d6⟩ := Lat.cfg hC
  obtain ⟨r0, r1, r2, r3⟩ := Lat.run hR
  obtain ⟨k0, hk0⟩ := lat_self w0
  rw [hk0]
  clear hw0 hC hR hE hk0 hlt0
  go_wp2_with fail
  refine (check_any T R H Re Ca S B _).mono ?_
  rintro e w1 ⟨rfl, e1⟩
  obtain ⟨k1, rfl⟩ := lat_next k0 e1
  clear e1
  by_cases hok : Okay T R H Re Ca S B
  · rw [if_pos hok]
    have Hok := Lib.hid hok
    obtain ⟨n, b, s, hsz, hs1, hs2⟩ := sizes_of hok
    have hT : 1 ≤ T ∧ T ≤ 16 := by unfold Okay at hok; omega
    obtain ⟨tn, rfl⟩ : ∃ tn : Nat, T = tn := ⟨T.toNat, by omega⟩
    have hT1 : 1 ≤ tn := by omega
    have hT2 : tn ≤ 16 := by omega
    have Hsz := Lib.hid hsz
    have hS : S = s := hsz.slots
    subst hS
    clear hok hsz hT
    by_cases hu : 0 ≤ used ∧ used ≤ s
    · obtain ⟨hu0, hu1⟩ := hu
      obtain ⟨u, rfl⟩ : ∃ u : Nat, used = u := ⟨used.toNat, by omega⟩
      have hus : u ≤ s := by omega
      have HMM : Hid (may ↔ CallsOK tn cs ∧ traceF cs (-1) (firstL n b s u) tr = some rw_ ∧ ShiftsF cs tr s (-1) (-1) (beginS s u) sh) := by
        show _ ↔ _
        rw [← HM.out, MayOK, Hsz.out.may.1, Hsz.out.may.2.1, Hsz.out.may.2.2, Int.toNat_natCast]
        exact ⟨fun h => h.2.2, fun h => ⟨Hok.out, ⟨by omega, by omega⟩, h⟩⟩
      have hf1 : decide ((u : Int) < 0) = false := by simp
      have hf2 : decide ((s : Int) < (u : Int)) = false := by simp; omega
      have hf3 : decide (s < u) = false := by simp; omega
      go_wp2_with fail
      refine (sound_any tn R H Re Ca s B hT1 hT2 A1 n1 c1 cs _ (Hm0.out.calls.ext k1.ok) Hbig.out).mono ?_
      rintro e w2 ⟨e2, ⟨hno, rfl⟩ | ⟨hC, g, gb, ge, gc, ga, vs, rfl, hO⟩⟩
      · have HB : Hid (¬ may) := fun h => hno (HMM.out.1 h).1
        obtain ⟨k2, rfl⟩ := lat_next k1 e2
        clear e2 hno
        go_wp2_with fail
        go_ret
        exact says_no HB.out (Ext.next HE.out k2.ok)
      · obtain ⟨k2, rfl⟩ := lat_next k1 e2
        have HCC := Lib.hid hC
        have HO2 := Lib.hid hO
        clear e2 hC hO
        go_wp2_with fail
        refine (played_any tn R H Re Ca s B Hok.out n b s Hsz.out u hus A1 n1 c1 A2 n2 c2 A3 n3 c3 A4 n4 c4 cs tr sh rw_ w0 _ Hm0.out k2.ok k1.world.heap.size g gb ge gc ga k1.ok.size vs _ HO2.out (AtOK.zero _ _ _) HCC.out).mono ?_
        rintro e w3 ⟨q, cur3, rfl, hq, hO3, hn3⟩
        have hga := HO2.out.lt (.inr (.inr (.inr (.inr (.inl rfl)))))
        have hM0 : w.heap.size + 1 < k1.world.heap.size := Nat.lt_of_lt_of_le Hlt0.out k1.ok.size
        have hsz1 := k1.ok.size
        have HE3 : Hid (Ext w0 w3) := k2.ok.only hn3 fun q hq => by rw [hq]; omega
        have HC3 : Hid (w3.heap[w.heap.size]? = _) := (hn3.block _ (blk_lt (ext_blk k2.ok HC0.out)) (by omega)).trans (ext_blk k2.ok HC0.out)
        have HR3 : Hid (w3.heap[w.heap.size + 1]? = _) := (hn3.block _ (blk_lt (ext_blk k2.ok HR0.out)) (by omega)).trans (ext_blk k2.ok HR0.out)
        have HO3 := Lib.hid hO3
        have HMine : Hid (∀ q, Mine g gb ge gc ga vs q → q < k2.world.heap.size) := fun q hq => (HO2.out.lt hq).2
        have Hlay : Hid (k2.world.heap.size ≤ w3.heap.size ∧ w.heap.size + 1 < k1.world.heap.size ∧ w0.heap.size ≤ k1.world.heap.size) := ⟨hn3.size, hM0, hsz1⟩
        have HQ := Lib.hid hq
        clear hq hO3 hn3 hga hM0 hsz1 HO2 d0 d1 d2 d3 d4 d5 d6 r0 r1 r2 r3
        generalize k1.world.heap.size = M0 at *
        generalize k2.world.heap.size = M1 at *
        obtain ⟨d0, d1, d2, d3, d4, d5, d6⟩ := Lat.cfg HC3.out
        obtain ⟨r0, r1, r2, r3⟩ := Lat.run HR3.out
        obtain ⟨k3, hk3⟩ := lat_self w3
        rw [hk3]
        clear hk3
        cases q with
        | false =>
          have HB : Hid (¬ may) := fun h => by have := HQ.out.2 (HMM.out.1 h).2.1; cases this
          go_wp2_with fail
          go_ret
          exact says_no HB.out (Ext.next HE.out (Ext.next HE3.out k3.ok))
        | true =>
          have HTr := Lib.hid (HQ.out.1 rfl)
          clear HQ
          have HMS : Hid (may ↔ ShiftsF cs tr s (-1) (-1) (beginS s u) sh) := HMM.out.trans ⟨fun h => h.2.2, fun h => ⟨HCC.out, HTr.out, h⟩⟩
          have hmm := @run_makeMap Try.prog
          go_upto_region 7 with fail
          obtain ⟨w4, hw4, _, hE4, _⟩ := enter1 k3.world (.map #[] 0)
          have hM4 := IMap.new k3.world
          rw [hw4] at hM4 ⊢
          have HM4 := Lib.hid hM4
          have HX4 := Lib.hid (Ext.next k3.ok hE4)
          have Hgm : Hid (M1 ≤ k3.world.heap.size) := by have h1 := Hlay.out.1; have h2 := k3.size; show _ ≤ _; omega
          clear hw4 hE4 hM4 hmm d0 d1 d2 d3 d4 d5 d6 r0 r1 r2 r3
          generalize k3.world.heap.size = gm at *
          have HC4 := Lib.hid (ext_blk HX4.out HC3.out)
          have HR4 := Lib.hid (ext_blk HX4.out HR3.out)
          have HO4 := Lib.hid (HO3.out.ext HX4.out)
          have HE4 := Lib.hid (Ext.next HE3.out HX4.out)
          obtain ⟨r0, r1, r2, r3⟩ := Lat.run HR4.out
          obtain ⟨k4, hk4⟩ := lat_self w4
          rw [hk4]
          go_upto_region 8 with fail
          rw [← hk4]
          clear hk4 r0 r1 r2 r3
          go_loopw [48] (fun s48 wr => ∃ i : Nat, s48 = .int .i64 i ∧ i ≤ n2 ∧ Hid (Ext w0 wr) ∧ Hid (wr.heap[w.heap.size]? = some (.cells (cfgV tn R H Re Ca s B) 23 (0, 0))) ∧
            Hid (wr.heap[w.heap.size + 1]? = some (.cells #[.slice A1 n1 c1, .slice A2 n2 c2, .slice A3 n3 c3, .slice A4 n4 c4] 48 (0, 0))) ∧ Hid (Owners wr M0 g gb ge gc ga tn cs cs cs vs cur3) ∧ Hid (IMap wr gm (byF ((tr.take i).map pairA)))) (fun s _ => n2 - (intOf s).toNat)
          case atStart => exact ⟨0, rfl, by omega, HE4, HC4, HR4, HO4, HM4⟩
          case round =>
            clear HM4 HC4 HR4 HO4 HE4 HX4 k4 HC3 HR3 HO3 HE3
            obtain ⟨i, rfl, hi, HEr, HCr, HRr, HOr, HMr⟩ := hrel
            by_cases hlt : i < n2
            · obtain ⟨ba, off, x, hAx, hb, hx, x0, x1, x2, x3, x4, x5, x6⟩ := Ac.at_ (Hm0.out.trace.ext HEr.out) hlt
              have h1 : (i : Int) < (n2 : Int) := by omega
              have hi0 : (0 : Int) ≤ (i : Int) := by omega
              subst hAx
              obtain ⟨k, hk⟩ := lat_self wr
              rw [hk]
              clear hk hb
              go_upto_region 10 with fail
              obtain ⟨w5, hw5, hX, hE5, hlt5⟩ := enter1 k.world (.cells #[.int .i64 x.mv, .int .i64 x.th, .int .i64 x.kd, .int .i64 x.ad, .int .u64 x.od, .int .u64 x.nw, .int .u64 x.sw] 129)
              rw [hw5]
              clear x0 x1 x2 x3 x4 x5 x6
              obtain ⟨x0, x1, x2, x3, x4, x5, x6⟩ := Ac.boxed hX
              have HX5 := Lib.hid (Ext.next k.ok hE5)
              generalize k.world.heap.size = p5 at *
              obtain ⟨k5, hk5⟩ := lat_self w5
              rw [hk5]
              have hput : ∀ c : Lat w5, (Instr.mapUpdate 126 (.map (some gm)) (.int .i64 x.mv) (.int .i64 x.th)).run Try.prog c.world = .ok () (putM Try.prog 126 c.world gm x.mv x.th) := fun c => ((HMr.out.ext (Ext.next HX5.out c.ok)).put Try.underlying126 Try.underlying3 x.mv x.th).1
              clear hw5 hX hE5 hk5 hlt5
              go_upto_region 11 with fail
              have hEk := Ext.next HX5.out k5.ok
              obtain ⟨_, hm71, hm72⟩ := (HMr.out.ext hEk).put (P := Try.prog) Try.underlying126 Try.underlying3 x.mv x.th
              have hga := HOr.out.lt (.inr (.inr (.inr (.inr (.inl rfl)))))
              have hga2 := HMine.out ga (.inr (.inr (.inr (.inr (.inl rfl)))))
              have hlay := Hlay.out
              have hgm := Hgm.out
              have HE7 := Lib.hid ((Ext.next HEr.out hEk).only hm72 fun q hq => by omega)
              have HC7 := Lib.hid ((hm72.block _ (blk_lt (ext_blk hEk HCr.out)) (by omega)).trans (ext_blk hEk HCr.out))
              have HR7 := Lib.hid ((hm72.block _ (blk_lt (ext_blk hEk HRr.out)) (by omega)).trans (ext_blk hEk HRr.out))
              have HO7 := Lib.hid ((HOr.out.ext hEk).only hm72 fun q hq e => by have := HMine.out q hq; omega)
              have HM7 : Hid (IMap (putM Try.prog 126 k5.world gm x.mv x.th) gm (byF ((tr.take (i + 1)).map pairA))) := by
                have h := hm71.same (byF_snoc ((tr.take i).map pairA) x.mv x.th)
                have e : (tr.take (i + 1)).map pairA = (tr.take i).map pairA ++ [(x.mv, x.th)] := by rw [List.take_add_one, hx.out]; simp [pairA]
                rw [e]
                exact h
              clear hm71 hm72 hga hga2 hlay hgm hput hEk x0 x1 x2 x3 x4 x5 x6
              generalize putM Try.prog 126 k5.world gm x.mv x.th = w7 at *
              go_wp2_with fail
              go_roundw
              case rel => exact ⟨i + 1, by go_num, by omega, HE7, HC7, HR7, HO7, HM7⟩
              case measure => simp [intOf]; omega
            · obtain rfl : n2 = i := by omega
              have HM5 : Hid (IMap wr gm (byF (tr.map pairA))) := by
                have h := HMr.out
                rwa [List.take_of_length_le (by rw [Hm.out.trace.1]; exact Nat.le_refl _)] at h
              have q3 := HOr.out.lat.2.2.2 ⟨wr, Ext.rfl' wr⟩
              simp only at q3
              have hcl : ∀ ty, (Builtin.clear_ #[26] ty #[.slice (some ⟨ga, 0, none⟩) tn tn]).run Try.prog wr = .ok (.tuple #[]) (wr.setCells ga 0 (List.replicate tn (.int .i64 0))) := fun ty =>
                Lib.run_clear_slice wr 26 3 ty (.int .i64 0) Try.underlying26 zrun rfl rfl ga 0 tn tn hT1 (fun j hj => by
                  have hl := HOr.out.len.2
                  rw [Nat.zero_add, HOr.out.cur_cell hj (List.getElem?_eq_getElem (by omega))]
                  rfl) (fun j _ => HOr.out.curs.frozenAt (0 + j))
              obtain ⟨cur6, hO6, hn6, hA6⟩ := Owners.cleared tn 0 wr cur3 HOr.out (by omega) (fun j hj => absurd hj (Nat.not_lt_zero _))
              have hga := HOr.out.lt (.inr (.inr (.inr (.inr (.inl rfl)))))
              have hga2 := HMine.out ga (.inr (.inr (.inr (.inr (.inl rfl)))))
              have hlay := Hlay.out
              have hgm := Hgm.out
              have HE6 := Lib.hid (HEr.out.only hn6 fun q hq => by omega)
              have HC6 := Lib.hid ((hn6.block _ (blk_lt HCr.out) (by omega)).trans HCr.out)
              have HR6 := Lib.hid ((hn6.block _ (blk_lt HRr.out) (by omega)).trans HRr.out)
              have HM6 := Lib.hid (HM5.out.only hn6 (by omega))
              have HO6 := Lib.hid hO6
              have HA6 := Lib.hid hA6
              clear hO6 hA6 hn6 hga hga2 hlay hgm
              go_upto_region 13 with (simp only [hcl])
              clear hcl q3
              generalize wr.setCells ga 0 (List.replicate tn (.int .i64 0)) = w6 at *
              obtain ⟨d0, d1, d2, d3, d4, d5, d6⟩ := Lat.cfg HC6.out
              obtain ⟨k6, hk6⟩ := lat_self w6
              rw [hk6]
              clear hk6 HCr HRr HOr HMr HM5 HEr
              go_wp2_with fail
              refine (begin_any tn R H Re Ca s B s rfl hs1 hs2 u _).mono ?_
              rintro e w8 ⟨p, g1, c1', g2, c2', rfl, hSl, e8⟩
              have hgm6 : gm < k6.world.heap.size := Nat.lt_of_lt_of_le HM6.out.lt k6.size
              have HS8 : Hid (MaySt w w8 M0 M1 gm k6.world.heap.size (cfgV tn R H Re Ca s B) #[.slice A1 n1 c1, .slice A2 n2 c2, .slice A3 n3 c3, .slice A4 n4 c4] g gb ge gc ga tn cs vs cur6 (byF (byAt tr sh 0)) p g1 c1' g2 c2' s (beginS s u) (List.replicate s (-1))) := by
                have e6 := Ext.next k6.ok e8
                refine ⟨Ext.next HE.out (Ext.next HE6.out e6), ext_blk e6 HC6.out, ext_blk e6 HR6.out, HO6.out.ext e6, ?_, hSl, HMine.out, Hlay.out.2.1, Hgm.out, hgm6⟩
                have : byAt tr sh 0 = tr.map pairA := by simp [byAt]
                rw [this]
                exact HM6.out.ext e6
              clear hSl e8 hgm6 d0 d1 d2 d3 d4 d5 d6
              generalize k6.world.heap.size = M2 at *
              obtain ⟨r0, r1, r2, r3⟩ := Lat.run HS8.out.run
              obtain ⟨k8, hk8⟩ := lat_self w8
              rw [hk8]
              go_upto_region 16 with fail
              rw [← hk8]
              clear hk8 r0 r1 r2 r3
              go_loopw [12, 68] (fun s12 s68 wr => ∃ (i : Nat) (st ho cur' : List Int), i ≤ n3 ∧ s68 = .int .i64 i ∧ s12 = .int .i64 (prevSh sh i).1 ∧ Hid (MaySt w wr M0 M1 gm M2 (cfgV tn R H Re Ca s B) #[.slice A1 n1 c1, .slice A2 n2 c2, .slice A3 n3 c3, .slice A4 n4 c4] g gb ge gc ga tn cs vs cur' (byF (byAt tr sh i)) p g1 c1' g2 c2' s st ho) ∧ Hid (AtOK cs tn cur' (prevSh sh i).1) ∧ Hid (ShInv tr sh i) ∧
                Hid (may ↔ ShiftsF cs tr s (prevSh sh i).1 (prevSh sh i).2 st (sh.drop i))) (fun _ s_ _ => n3 - (intOf s_).toNat)
              case atStart => exact ⟨0, _, _, cur6, by omega, rfl, rfl, HS8, HA6.out _, ShInv.zero _ _, HMS⟩
              case round =>
                clear HS8 HA6 HO6 HM6 HR6 HC6 HE6 k8 k6
                obtain ⟨i, st, ho, cur', hi, rfl, rfl, HS, HA, HI, hrest⟩ := hrel
                by_cases hlt : i < n3
                · obtain ⟨ba, off, x, hAx, hb, hx, x0, x1, x2, x3, x4⟩ := Sh.at_ (Hm.out.shifts.ext HS.out.ext) hlt
                  have h1 : (i : Int) < (n3 : Int) := by omega
                  have hi0 : (0 : Int) ≤ (i : Int) := by omega
                  subst hAx
                  have Hstep := Lib.hid (hrest.out.trans (shiftsF_step hx.out))
                  obtain ⟨k, hk⟩ := lat_self wr
                  rw [hk]
                  clear hk hb
                  go_upto_region 18 with fail
                  obtain ⟨w3x, hw3, hX, hE3x, hlt3⟩ := enter1 k.world (.cells #[.int .i64 x.mv, .int .i64 x.th, .int .i64 x.sl, .int .i64 x.fr, .int .i64 x.to] 136)
                  rw [hw3]
                  clear x0 x1 x2 x3 x4
                  have HS3 := Lib.hid (HS.out.next (Ext.next k.ok hE3x))
                  have HX3 := Lib.hid hX
                  have Hpx : Hid (wr.heap.size ≤ k.world.heap.size) := k.size
                  obtain ⟨x0, x1, x2, x3, x4⟩ := Sh.boxed hX
                  generalize k.world.heap.size = px at *
                  have Hne : Hid (px ≠ ga ∧ px ≠ gm ∧ px ≠ g1 ∧ px ≠ g2) := by
                    have a1 := (HS.out.own.lt (.inr (.inr (.inr (.inr (.inl rfl)))))).2
                    have a2 := HS.out.map.lt
                    have a3 := (HS.out.slo.own1.lt g1 rfl).2
                    have a4 := (HS.out.slo.own2.lt g2 rfl).2
                    have a5 := Hpx.out
                    exact ⟨by omega, by omega, by omega, by omega⟩
                  obtain ⟨k3, hk3⟩ := lat_self w3x
                  rw [hk3]
                  clear hw3 hX hE3x hlt3 hk3
                  have hlkx : ∃ (tv : Int) (tb : Bool), (∀ c : Lat w3x, (Instr.lookup 126 (.map (some gm)) (.int .i64 x.mv) true).run Try.prog c.world = .ok (.tuple #[.int .i64 tv, .bool tb]) c.world) ∧
                      ((tb = false ∧ byF (byAt tr sh i) x.mv = none) ∨ (tb = true ∧ byF (byAt tr sh i) x.mv = some tv)) := by
                    have h := fun c : Lat w3x => (HS3.out.map.ext c.ok).lookup (P := Try.prog) Try.underlying126 Try.underlying3 zrun x.mv true
                    cases hby : byF (byAt tr sh i) x.mv with
                    | none =>
                      rw [hby] at h
                      exact ⟨_, _, h, .inl ⟨rfl, rfl⟩⟩
                    | some t =>
                      rw [hby] at h
                      exact ⟨_, _, h, .inr ⟨rfl, rfl⟩⟩
                  obtain ⟨tv, tb, hlk, hby⟩ := hlkx
                  generalize hphi : (∀ t, byF (byAt tr sh i) x.mv = some t → t = x.th) = phi
                  have Hphi := Lib.hid hphi
                  generalize hpl : placeB cs x.th x.mv = pb at Hstep
                  have Hpl := Lib.hid hpl
                  clear hphi hpl
                  go_upto_region 19 with fail
                  go_cut [100] (fun s_ wx => ∃ (q : Bool) (cur4 : List Int), s_ = .bool q ∧ Hid (q = false ↔ (prevSh sh i).1 ≤ x.mv ∧ pb = true ∧ phi) ∧ Hid (MaySt w wx M0 M1 gm M2 (cfgV tn R H Re Ca s B) #[.slice A1 n1 c1, .slice A2 n2 c2, .slice (some ⟨ba, off, none⟩) n3 c3, .slice A4 n4 c4] g gb ge gc ga tn cs vs cur4 (byF (byAt tr sh i)) p g1 c1' g2 c2' s st ho) ∧ Hid (q = false → AtOK cs tn cur4 x.mv) ∧
                    Hid (wx.heap[px]? = some (.cells #[.int .i64 x.mv, .int .i64 x.th, .int .i64 x.sl, .int .i64 x.fr, .int .i64 x.to] 136 (0, 0))))
                  case first =>
                    have hcase : (tb = false ∧ Hid phi) ∨ (tb = true ∧ tv = x.th ∧ Hid phi) ∨ (tb = true ∧ tv ≠ x.th ∧ Hid (¬ phi)) := by
                      rcases hby with ⟨h1, h2⟩ | ⟨h1, h2⟩
                      · refine .inl ⟨h1, ?_⟩
                        show phi
                        rw [← Hphi.out, h2]
                        intro t ht
                        cases ht
                      · by_cases h3 : tv = x.th
                        · refine .inr (.inl ⟨h1, h3, ?_⟩)
                          show phi
                          rw [← Hphi.out, h2]
                          intro t ht
                          injection ht with ht
                          omega
                        · refine .inr (.inr ⟨h1, h3, ?_⟩)
                          show ¬ phi
                          rw [← Hphi.out, h2]
                          intro h
                          exact h3 (h tv rfl)
                    clear hby
                    rcases hcase with ⟨rfl, HPH⟩ | ⟨rfl, h3, HPH⟩ | ⟨rfl, h3, HPH⟩
                    case' inr.inl =>
                      have hd2 : (tv != x.th) = false := by simpa using h3
                      clear h3
                    case' inr.inr => have hd2 : (tv != x.th) = true := by simpa using h3
                    all_goals
                      by_cases hmv : x.mv < (prevSh sh i).1
                      · have hd : decide (x.mv < (prevSh sh i).1) = true := by simpa using hmv
                        have Hmv : Hid (x.mv < (prevSh sh i).1) := by show _ < _; omega
                        clear hmv
                        go_wp2_with fail
                        go_meet
                        case rel => exact ⟨_, cur', rfl, by show _ ↔ _; exact ⟨(fun h => by cases h), (fun h => absurd h.1 (Int.not_le.2 Hmv.out))⟩, HS3.out.next k3.ok, (fun h => by cases h), ext_blk k3.ok HX3.out⟩
                      · have hd : decide (x.mv < (prevSh sh i).1) = false := by simpa using hmv
                        have Hmv : Hid ((prevSh sh i).1 ≤ x.mv) := by show _ ≤ _; omega
                        clear hmv
                        go_wp2_with fail
                        refine (may_any tn M0 g gb ge gc ga cs vs cur' x.th x.mv (prevSh sh i).1 _ (HS3.out.own.ext k3.ok) HA.out Hmv.out HCC.out (by rw [Hm.out.calls.1]; exact Hm.out.big1)).mono ?_
                        rintro e w4 ⟨rfl, cur4, hO4, hA4, hon4⟩
                        have HS4 := Lib.hid ((HS3.out.next k3.ok).may hO4 hon4)
                        have HX4 := Lib.hid ((hon4.block px (blk_lt (ext_blk k3.ok HX3.out)) Hne.out.1).trans (ext_blk k3.ok HX3.out))
                        have HA4 := Lib.hid hA4
                        clear hO4 hA4 hon4 x0 x1 x2 x3 x4 hlk
                        obtain ⟨x0, x1, x2, x3, x4⟩ := Sh.boxed HX4.out
                        obtain ⟨k4, hk4⟩ := lat_self w4
                        rw [hk4, Hpl.out]
                        have HS4' := Lib.hid (HS4.out.next k4.ok)
                        have HX4' := Lib.hid (ext_blk k4.ok HX4.out)
                        clear hk4
                        cases pb
                        all_goals
                          go_wp2_with fail
                          go_meet
                          case rel => exact ⟨_, cur4, rfl, by show _ ↔ _; simp [Hmv.out, HPH.out], HS4', fun _ => HA4.out, HX4'⟩
                  obtain ⟨q, cur4, rfl, hq, HS4, HA4, HX4⟩ := hcut
                  clear x0 x1 x2 x3 x4 hlk hby
                  obtain ⟨x0, x1, x2, x3, x4⟩ := Sh.boxed HX4.out
                  obtain ⟨k4, hk4⟩ := lat_self wc
                  rw [hk4]
                  clear hk4
                  cases q with
                  | true =>
                    have HB : Hid (¬ may) := fun h => by
                      have h2 := Hstep.out.1 h
                      by_cases hph : phi
                      · have := hq.out.2 ⟨h2.1.1, h2.1.2, hph⟩
                        cases this
                      · refine hph ?_
                        rw [← Hphi.out]
                        have h3 := (place_pos HCC.out.1 (Hpl.out.trans h2.1.2)).1
                        exact (by_step (trace_rise tr _ _ HTr.out).2 HI.out h2.1.1 h3).2 ⟨h2.2.1, h2.2.2.2.1⟩
                    clear hq
                    go_wp2_with fail
                    go_ret
                    exact says_no HB.out (HS4.out.next k4.ok).ext
                  | false =>
                    obtain ⟨hp1, hp2, hp3⟩ := hq.out.1 rfl
                    have hp4 := HA4.out rfl
                    rw [← Hphi.out] at hp3
                    have h3 := (place_pos HCC.out.1 (Hpl.out.trans hp2)).1
                    have Hby := Lib.hid ((by_step (trace_rise tr _ _ HTr.out).2 HI.out hp1 h3).1 hp3)
                    have Hp1 := Lib.hid hp1
                    have Hp2 := Lib.hid hp2
                    have HA5 := Lib.hid hp4
                    clear hq hp1 hp2 hp3 hp4 h3
                    have hput : ∀ c : Lat wc, (Instr.mapUpdate 126 (.map (some gm)) (.int .i64 x.mv) (.int .i64 x.th)).run Try.prog c.world = .ok () (putM Try.prog 126 c.world gm x.mv x.th) := fun c => ((HS4.out.map.ext c.ok).put Try.underlying126 Try.underlying3 x.mv x.th).1
                    go_upto_region 23 with fail
                    obtain ⟨_, hm71, hm72⟩ := (HS4.out.map.ext k4.ok).put (P := Try.prog) Try.underlying126 Try.underlying3 x.mv x.th
                    have hm73 := hm71.same (byF_snoc (byAt tr sh i) x.mv x.th)
                    rw [byAt_snoc hx.out] at hm73
                    have HS5 := Lib.hid ((HS4.out.next k4.ok).put_by hm73 hm72)
                    have HX5 := Lib.hid ((hm72.block px (blk_lt (ext_blk k4.ok HX4.out)) Hne.out.2.1).trans (ext_blk k4.ok HX4.out))
                    clear hm71 hm72 hm73 hput x0 x1 x2 x3 x4
                    generalize putM Try.prog 126 k4.world gm x.mv x.th = w5 at *
                    obtain ⟨x0, x1, x2, x3, x4⟩ := Sh.boxed HX5.out
                    obtain ⟨d0, d1, d2, d3, d4, d5, d6⟩ := Lat.cfg HS5.out.cfg
                    obtain ⟨y0, y1⟩ := HS5.out.slo.lat
                    obtain ⟨k5, hk5⟩ := lat_self w5
                    rw [hk5]
                    clear hk5
                    go_cut [140] (fun s_ wx => ∃ (q : Bool) (k : Lat w5), s_ = .bool q ∧ Hid (q = false ↔ OkShift s st x) ∧ wx = k.world)
                    case first =>
                      by_cases hr : 0 ≤ x.sl ∧ x.sl < s
                      · obtain ⟨hr0, hr1⟩ := hr
                        obtain ⟨j, hj⟩ : ∃ j : Nat, x.sl = j := ⟨x.sl.toNat, by omega⟩
                        have hjs : j < s := by omega
                        have hji : (j : Int) < (s : Int) := by omega
                        have hj0 : (0 : Int) ≤ (j : Int) := by omega
                        obtain ⟨y, hy, hcy⟩ := HS5.out.slo.lat1 hjs
                        have HOK : Hid (OkShift s st x ↔ 0 ≤ x.to ∧ x.to ≤ 5 ∧ x.fr = y) := by
                          show _ ↔ _
                          unfold OkShift
                          rw [hj, Int.toNat_natCast, List.getD_eq_getElem?_getD, hy]
                          simp only [Option.getD_some]
                          omega
                        rw [hj] at x2
                        have f1 : decide ((j : Int) < 0) = false := by simp
                        have f2 : decide ((s : Int) ≤ (j : Int)) = false := by simp; omega
                        have f3 : decide (s ≤ j) = false := by simp; omega
                        clear hj hr0 hr1 hy
                        rcases (by omega : x.to < 0 ∨ (0 ≤ x.to ∧ 5 < x.to) ∨ (0 ≤ x.to ∧ x.to ≤ 5)) with h2 | ⟨h2, h3⟩ | ⟨h2, h3⟩
                        case' inl => have f4 : decide (x.to < 0) = true := by simp; omega
                        case' inr.inl =>
                          have f4 : decide (x.to < 0) = false := by simp; omega
                          have f5 : decide (5 < x.to) = true := by simp; omega
                        case' inr.inr =>
                          have f4 : decide (x.to < 0) = false := by simp; omega
                          have f5 : decide (5 < x.to) = false := by simp; omega
                        all_goals
                          refine wp_region_cls (Ext w5) (Ext.drew1 k5.ok) (by kernel_rfl) (by kernel_rfl) ?_
                          repeat (go_big_quiet_step (fail))
                          refine wpQuiet_nil ?_
                          rintro _ ⟨k6, rfl⟩
                          go_wp2_with fail
                          go_meet
                          case rel => exact ⟨_, k6, rfl, by show _ ↔ _; rw [HOK.out]; simp; try omega, rfl⟩
                      · have HOK : Hid (¬ OkShift s st x) := fun h => hr ⟨h.1, h.2.1⟩
                        rcases (by omega : x.sl < 0 ∨ (0 ≤ x.sl ∧ (s : Int) ≤ x.sl)) with h2 | ⟨h2, h3⟩
                        case' inl => have f1 : decide (x.sl < 0) = true := by simp; omega
                        case' inr =>
                          have f1 : decide (x.sl < 0) = false := by simp; omega
                          have f2 : decide ((s : Int) ≤ x.sl) = true := by simp; omega
                        all_goals
                          clear hr
                          refine wp_region_cls (Ext w5) (Ext.drew1 k5.ok) (by kernel_rfl) (by kernel_rfl) ?_
                          repeat (go_big_quiet_step (fail))
                          refine wpQuiet_nil ?_
                          rintro _ ⟨k6, rfl⟩
                          go_wp2_with fail
                          go_meet
                          case rel => exact ⟨_, k6, rfl, by show _ ↔ _; simp [HOK.out], rfl⟩
                    obtain ⟨q, k6, rfl, hq, rfl⟩ := hcut
                    cases q with
                    | true =>
                      have HB : Hid (¬ may) := fun h => by have := hq.out.2 (Hstep.out.1 h).2.2.1; cases this
                      clear hq
                      go_wp2_with fail
                      go_ret
                      exact says_no HB.out (HS5.out.next k6.ok).ext
                    | false =>
                      have H10 := Lib.hid (hq.out.1 rfl)
                      clear hq
                      have HSH : Hid (may ↔ ShiftsF cs tr s (prevSh sh (i + 1)).1 (prevSh sh (i + 1)).2 (putS x st) (sh.drop (i + 1))) := by
                        show _ ↔ _
                        rw [Hstep.out, prevSh_succ hx.out]
                        exact ⟨fun h => h.2.2.2.2, fun h => ⟨⟨Hp1.out, Hp2.out⟩, Hby.out.1, H10.out, Hby.out.2, h⟩⟩
                      obtain ⟨jj, hjj, hjs⟩ : ∃ jj : Nat, x.sl = jj ∧ jj < s := ⟨x.sl.toNat, by have := H10.out.1; have := H10.out.2.1; omega, by have := H10.out.1; have := H10.out.2.1; omega⟩
                      have Hjj := Lib.hid hjj
                      have HI6 := Lib.hid (HI.out.step hx.out Hp1.out Hby.out.2)
                      have HPV := Lib.hid (prevSh_succ hx.out)
                      clear hjj
                      go_wp2_with fail
                      refine (put_any M2 p g1 c1' g2 c2' s st ho x jj Hjj.out hjs _ (HS5.out.slo.ext k6.ok)).mono ?_
                      rintro e w8 ⟨rfl, hT8, o8⟩
                      have HS8 := Lib.hid ((HS5.out.next k6.ok).put hT8 o8)
                      clear hT8 o8
                      go_wp2_with fail
                      go_roundw
                      case rel => exact ⟨i + 1, putS x st, putH x ho, cur4, by omega, by go_num, by rw [HPV.out], HS8, by rw [HPV.out]; exact HA5, HI6, HSH⟩
                      case measure => simp [intOf]; omega
                · obtain rfl : n3 = i := by omega
                  have HY : Hid may := hrest.out.2 (by rw [List.drop_of_length_le (by rw [Hm.out.shifts.1]; exact Nat.le_refl _)]; trivial)
                  go_wp2_with fail
                  go_ret
                  exact says_yes HY.out HS.out.ext
    · have HB : Hid (¬ may) := fun h => by
        have h2 : MayOK tn R H Re Ca s B used cs tr sh rw_ := by rw [HM.out]; exact h
        exact hu h2.2.1
      rcases (by omega : used < 0 ∨ (0 ≤ used ∧ (s : Int) < used)) with h2 | ⟨h2, h3⟩
      case' inl => have hf1 : decide (used < 0) = true := by simp; omega
      case' inr =>
        have hf1 : decide (used < 0) = false := by simp; omega
        have hf2 : decide ((s : Int) < used) = true := by simp; omega
      all_goals
        clear hu
        go_wp2_with fail
        go_ret
        exact says_no HB.out (Ext.next HE.out k1.ok)
  · rw [if_neg hok]
    have HB : Hid (¬ may) := fun h => by
      have h2 : MayOK T R H Re Ca S B used cs tr sh rw_ := by rw [HM.out]; exact h
      exact hok h2.1
    clear hok
    go_wp2_with fail
    go_ret
    exact says_no HB.out (Ext.next HE.out k1.ok)

end Go.Proofs.Ytfbacopjookplaa
