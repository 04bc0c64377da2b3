/- The walk of census.played: whether the accesses go together with the words. -/
import Derived.Test.YtfbacopjookplaaMay
import Derived.Test.YtfbacopjookplaaEqual
namespace Go.Proofs.Ytfbacopjookplaa
open Go.RowKit

theorem Only.later {S : Nat → Prop} {a b c : World} (h : Only S a b) (e : Ext b c) : Only S a c := h.trans (Only.of_ext (S := S) e) fun _ _ hs => hs
/-- What census.played leaves. -/
def PlayedOut (w : World) (B g gb ge gc ga T : Nat) (l : List Cl) (vs : List Value) (Phi : Prop) (e : Ending) (w' : World) : Prop :=
  ∃ (q : Bool) (cur' : List Int), e = .returned (.bool q) ∧ (q = true ↔ Phi) ∧ Owners w' B g gb ge gc ga T l l l vs cur' ∧ Only (fun q => q = ga) w w'
theorem played_no {w w' : World} {B g gb ge gc ga T : Nat} {l : List Cl} {vs : List Value} {Phi : Prop} {cur' : List Int} (h : ¬ Phi) (hO : Owners w' B g gb ge gc ga T l l l vs cur') (ho : Only (fun q => q = ga) w w') : PlayedOut w B g gb ge gc ga T l vs Phi (.returned (.bool false)) w' :=
  ⟨false, cur', rfl, by simp [h], hO, ho⟩

/-- A word is stored: what stays. -/
theorem word_put {w w4 : World} {B g gb ge gc ga T B0 gw n : Nat} {l : List Cl} {vs : List Value} {cur : List Int} {ws : List Int} {cs : Array Value} {x : Int} {j : Nat} (hW : w4.ownsRow B0 25 1 (.slice (some ⟨gw, 0, none⟩) n n) n (ws.map (Value.int .u64)))
    (hO : Owners w4 B g gb ge gc ga T l l l vs cur) (hn : Only (fun q => q = ga) w w4) (hR : w4.heap[w.heap.size + 1]? = some (.cells cs 48 (0, 0))) (h1 : w.heap.size + 1 < B0) (hm : ∀ q, Mine g gb ge gc ga vs q → q < w.heap.size) :
    Hid (Owners (w4.setCell ⟨gw, j, none⟩ (.int .u64 x)) B g gb ge gc ga T l l l vs cur) ∧ Hid (Only (fun q => q = ga) w (w4.setCell ⟨gw, j, none⟩ (.int .u64 x))) ∧ Hid ((w4.setCell ⟨gw, j, none⟩ (.int .u64 x)).heap[w.heap.size + 1]? = some (.cells cs 48 (0, 0))) ∧
      Hid ((w4.setCell ⟨gw, j, none⟩ (.int .u64 x)).ownsRow B0 25 1 (.slice (some ⟨gw, 0, none⟩) n n) n ((ws.set j x).map (Value.int .u64))) := by
  have hgw := (hW.lt gw rfl).1
  have o : Only (fun q => q = gw) w4 (w4.setCell ⟨gw, j, none⟩ (.int .u64 x)) := (Only.refl _ _).setCell _ _ fun _ => rfl
  refine ⟨hO.only o fun q hq h => ?_, hn.setCell _ _ fun h => ?_, (o.block _ (blk_lt hR) ?_).trans hR, own_words x hW⟩
  · have := hm q hq
    omega
  · exact absurd h (by show ¬ gw < _; omega)
  · omega

set_option maxRecDepth 100000 in
set_option maxHeartbeats 4000000 in
theorem played_any (tn : Nat) (R H Re Ca S B : Int) (hok : Okay tn R H Re Ca S B) (n b s : Nat) (hsz : Sizes R H S B n b s) (u : Nat) (hu : u ≤ s)
    (A1 : Option Addr) (n1 c1 : Nat) (A2 : Option Addr) (n2 c2 : Nat) (A3 : Option Addr) (n3 c3 : Nat) (A4 : Option Addr) (n4 c4 : Nat) (cs : List Cl) (tr : List Ac) (sh : List Sh) (rw_ : List Int) (wb w : World)
    (hm : RunMem wb A1 n1 A2 n2 A3 n3 A4 n4 cs tr sh rw_) (hxb : Ext wb w) (Bo g gb ge gc ga : Nat) (hB : wb.heap.size ≤ Bo) (vs : List Value) (cur : List Int) (hO : Owners w Bo g gb ge gc ga tn cs cs cs vs cur) (hAt : AtOK cs tn cur (-1)) (hC : CallsOK tn cs) :
    Calls Try.prog 71 #[(.agg #[.int .i64 tn, .int .i64 R, .int .i64 H, .int .i64 Re, .int .i64 Ca, .int .i64 S, .int .i64 B]), .int .i64 u, .agg #[.slice A1 n1 c1, .slice A2 n2 c2, .slice A3 n3 c3, .slice A4 n4 c4], .pointer (some ⟨g, 0, none⟩)] w
      (PlayedOut w Bo g gb ge gc ga tn cs vs (traceF cs (-1) (firstL n b s u) tr = some rw_)) := by
  have Hm := Lib.hid hm
  have HX := Lib.hid hxb
  have HC := Lib.hid hC
  have HO := Lib.hid hO
  have HAt := Lib.hid hAt
  have hga := hO.lt (.inr (.inr (.inr (.inr (.inl rfl)))))
  have Hga := Lib.hid hga
  have Hmine : Hid (∀ q, Mine g gb ge gc ga vs q → q < w.heap.size) := fun q hq => (hO.lt hq).2
  have hgaB : wb.heap.size ≤ ga := by omega
  have hsz5 := hsz.big
  have Hfirst := Lib.hid (fun w => first_any tn R H Re Ca S B hok n b s hsz u hu w)
  have hb2 := hm.big2
  have hb4 := hm.big4
  have hbc : cs.length ≤ 140737488355328 := by rw [hm.calls.1]; exact hm.big1
  have Hbc := Lib.hid hbc
  have HgaB := Lib.hid hgaB
  clear hm hsz hok hxb hO hAt hC hB hbc hga hgaB
  go_enter Try.func71, Try.ntmps71
  go_upto_region 1 with fail
  obtain ⟨w0, hw0, hC, hR, hE, hlt0⟩ := enter2 w (.cells (cfgV tn R H Re Ca S B) 23) (.cells #[.slice A1 n1 c1, .slice A2 n2 c2, .slice A3 n3 c3, .slice A4 n4 c4] 48)
  rw [hw0]
  have HE := Lib.hid hE
  have HR := Lib.hid hR
  obtain ⟨d0, d1, d2, d3, d4, d5, d6⟩ := Lat.cfg hC
  obtain ⟨r0, r1, r2, r3⟩ := Lat.run hR
  obtain ⟨k0, hk0⟩ := lat_self w0
  rw [hk0]
  clear hw0 hC hR hE hk0
  have Hlt0 := Lib.hid hlt0
  clear hlt0
  go_wp2_with fail
  refine (Hfirst.out _).mono ?_
  rintro e w1 ⟨gw, rfl, hown, e1⟩
  have HW := Lib.hid (own_base hown k0.ok.size)
  obtain ⟨k1, rfl⟩ := lat_next k0 e1
  clear hown e1
  go_wp2_with fail
  have HO1 := Lib.hid (HO.out.ext (Ext.next HE.out k1.ok))
  have hn1 : Hid (Only (fun q => q = ga) w k1.world) := Only.of_ext (Ext.next HE.out k1.ok)
  have HR1 := Lib.hid (ext_blk k1.ok HR.out)
  go_loopw [11, 24] (fun s11 s24 wr => ∃ (i : Nat) (ws cur' : List Int), i ≤ n2 ∧ s24 = .int .i64 i ∧ s11 = .int .i64 (prevMv tr i) ∧ Hid (Owners wr Bo g gb ge gc ga tn cs cs cs vs cur') ∧ Hid (AtOK cs tn cur' (prevMv tr i)) ∧ Hid (Only (fun q => q = ga) w wr) ∧
      Hid (wr.heap[w.heap.size + 1]? = some (.cells #[.slice A1 n1 c1, .slice A2 n2 c2, .slice A3 n3 c3, .slice A4 n4 c4] 48 (0, 0))) ∧ Hid (wr.ownsRow w0.heap.size 25 1 (.slice (some ⟨gw, 0, none⟩) n n) n (ws.map (Value.int .u64))) ∧
      Hid (traceF cs (-1) (firstL n b s u) tr = some rw_ ↔ traceF cs (prevMv tr i) ws (tr.drop i) = some rw_)) (fun _ s _ => n2 - (intOf s).toNat)
  case atStart => exact ⟨0, _, cur, by omega, rfl, rfl, HO1, HAt, hn1, HR1, HW.out, Iff.rfl⟩
  case round =>
    clear HW HO1 hn1 HR1 d0 d1 d2 d3 d4 d5 d6 r0 r1 r2 r3
    obtain ⟨i, ws, cur', hi, rfl, rfl, HOr, HAr, hon, HRr, hown, hrest⟩ := hrel
    have HXr : Hid (Ext wb wr) := HX.out.only hon.out fun q hq => by rw [hq]; exact HgaB.out
    have hgw : gw ≠ ga := by
      have h1 := (hown.out.lt gw rfl).1
      have h2 := Hga.out.2
      have h3 := HE.out.size
      omega
    by_cases hlt : i < n2
    · obtain ⟨ba, off, x, hAx, hb, hx, x0, x1, x2, x3, x4, x5, x6⟩ := Ac.at_ (Hm.out.trace.ext HXr.out) hlt
      have h1 : (i : Int) < (n2 : Int) := by omega
      have hi0 : (0 : Int) ≤ (i : Int) := by omega
      subst hAx
      have Hstep : Hid (traceF cs (-1) (firstL n b s u) tr = some rw_ ↔ (if prevMv tr i < x.mv ∧ placeB cs x.th x.mv = true then (stepW ws x).bind (fun ws' => traceF cs x.mv ws' (tr.drop (i + 1))) else none) = some rw_) := hrest.out.trans (by rw [traceF_step hx.out])
      have Hgw := Lib.hid hgw
      clear hgw hb
      obtain ⟨k, hk⟩ := lat_self wr
      rw [hk]
      clear hk
      go_upto_region 6 with fail
      obtain ⟨w3, hw3, hX, hE3, hlt3⟩ := enter1 k.world (.cells #[.int .i64 x.mv, .int .i64 x.th, .int .i64 x.kd, .int .i64 x.ad, .int .u64 x.od, .int .u64 x.nw, .int .u64 x.sw] 129)
      rw [hw3]
      clear x0 x1 x2 x3 x4 x5 x6
      have HE3 := Lib.hid (Ext.next k.ok hE3)
      have HX3 := Lib.hid hX
      have hpk : wr.heap.size ≤ k.world.heap.size := k.size
      have Hpga : Hid (k.world.heap.size ≠ ga) := fun e => by
        have := (HOr.out.lt (.inr (.inr (.inr (.inr (.inl rfl))))) : Bo ≤ ga ∧ ga < wr.heap.size).2
        omega
      obtain ⟨x0, x1, x2, x3, x4, x5, x6⟩ := Ac.boxed hX
      obtain ⟨k3, hk3⟩ := lat_self w3
      rw [hk3]
      have Hp3 := Lib.hid hlt3
      generalize k.world.heap.size = p at *
      have HO3 := Lib.hid (HOr.out.ext (Ext.next HE3.out k3.ok))
      have Hn3 := Lib.hid (hon.out.later (Ext.next HE3.out k3.ok))
      have HW3 := Lib.hid (own_ext hown.out (Ext.next HE3.out k3.ok))
      have HR3 := Lib.hid (ext_blk (Ext.next HE3.out k3.ok) HRr.out)
      have HXX3 := Lib.hid (ext_blk k3.ok HX3.out)
      have hrunlt : w.heap.size + 1 ≠ ga := by
        have := Hga.out.2
        omega
      have Hrunlt := Lib.hid hrunlt
      clear hw3 hX hE3 hk3 hlt3 hpk hrunlt
      by_cases hmv : x.mv ≤ prevMv tr i
      · have hd : decide (x.mv ≤ prevMv tr i) = true := by simpa using hmv
        have HB : Hid (¬ traceF cs (-1) (firstL n b s u) tr = some rw_) := by
          intro h
          have h2 := Hstep.out.1 h
          rw [if_neg (by omega)] at h2
          cases h2
        clear hmv
        go_wp2_with fail
        go_ret
        exact played_no HB.out HO3.out Hn3.out
      · have hd : decide (x.mv ≤ prevMv tr i) = false := by simpa using hmv
        have Hmv := Lib.hid (show prevMv tr i < x.mv by omega)
        clear hmv
        go_wp2_with fail
        refine (may_any tn Bo g gb ge gc ga cs vs cur' x.th x.mv (prevMv tr i) _ HO3.out HAr.out (Int.le_of_lt Hmv.out) HC.out Hbc.out).mono ?_
        rintro e w4 ⟨rfl, cur4, hO4, hA4, hon4⟩
        have HO4 := Lib.hid hO4
        have HA4 := Lib.hid hA4
        have HX4 : Hid (w4.heap[p]? = _) := (hon4.block p (blk_lt HXX3.out) Hpga.out).trans HXX3.out
        have HR4 : Hid (w4.heap[w.heap.size + 1]? = _) := (hon4.block _ (blk_lt HR3.out) Hrunlt.out).trans HR3.out
        have HW4 := Lib.hid (own_only HW3.out hon4 fun q hq h => by
          injection hq with hq
          exact Hgw.out (hq.trans h))
        have Hn4 : Hid (Only (fun q => q = ga) w w4) := Hn3.out.trans hon4 fun _ _ h => h
        clear hO4 hA4 hon4 x0 x1 x2 x3 x4 x5 x6
        obtain ⟨x0, x1, x2, x3, x4, x5, x6⟩ := Ac.boxed HX4.out
        obtain ⟨k4, hk4⟩ := lat_self w4
        rw [hk4]
        have HO4' := Lib.hid (HO4.out.ext k4.ok)
        have Hn4' := Lib.hid (Hn4.out.later k4.ok)
        have HW4' := Lib.hid (own_ext HW4.out k4.ok)
        have HR4' := Lib.hid (ext_blk k4.ok HR4.out)
        clear hk4
        generalize hpl : placeB cs x.th x.mv = pb at Hstep ⊢
        clear hpl
        cases pb with
        | false =>
          have HB : Hid (¬ traceF cs (-1) (firstL n b s u) tr = some rw_) := by
            intro h
            have h2 := Hstep.out.1 h
            rw [if_neg (fun h => by have := h.2; cases this)] at h2
            cases h2
          go_wp2_with fail
          go_ret
          exact played_no HB.out HO4'.out Hn4'.out
        | true =>
          have HS2 : Hid (traceF cs (-1) (firstL n b s u) tr = some rw_ ↔ (stepW ws x).bind (fun ws' => traceF cs x.mv ws' (tr.drop (i + 1))) = some rw_) := by
            show _ ↔ _
            have h := Hstep.out
            rwa [if_pos ⟨Hmv.out, rfl⟩] at h
          have hlw : ws.length = n := by have := hown.out.1; simpa using this
          have HLW := Lib.hid hlw
          clear hlw
          by_cases hin : 0 ≤ x.ad ∧ x.ad < n
          · obtain ⟨hin0, hin1⟩ := hin
            obtain ⟨j, hj⟩ : ∃ j : Nat, x.ad = j := ⟨x.ad.toNat, by omega⟩
            have hjn : j < n := by omega
            have hji : (j : Int) < (n : Int) := by omega
            have HST : Hid (stepW ws x = if x.kd = 1 then (if x.od = 0 ∧ x.nw = 0 ∧ x.sw = ws.getD j 0 then some ws else none)
                else if x.kd = 2 then (if x.od = 0 ∧ x.sw = 0 then some (ws.set j x.nw) else none)
                else if x.kd = 3 then (if x.sw = ws.getD j 0 then some (if x.sw = x.od then ws.set j x.nw else ws) else none) else none) := by
              show _ = _
              unfold stepW
              rw [if_pos (by rw [HLW.out]; omega), hj, Int.toNat_natCast]
            rw [hj] at x3
            clear hj hin0 hin1
            obtain ⟨_, hcw, hfw⟩ := own_word_at HW4.out hjn
            generalize ws.getD j 0 = wj at HST hcw
            have HNo : ∀ (k7 : Lat w4), ¬ traceF cs (-1) (firstL n b s u) tr = some rw_ → PlayedOut w Bo g gb ge gc ga tn cs vs (traceF cs (-1) (firstL n b s u) tr = some rw_) (.returned (.bool false)) k7.world := fun k7 h => played_no h (HO4.out.ext k7.ok) (Hn4.out.later k7.ok)
            have HNo := Lib.hid HNo
            rcases (by omega : x.kd = 1 ∨ x.kd = 2 ∨ x.kd = 3 ∨ (x.kd ≠ 1 ∧ x.kd ≠ 2 ∧ x.kd ≠ 3)) with hk | hk | hk | hk
            · have b1 : (x.kd == 1) = true := beq_iff_eq.2 hk
              have HK := Lib.hid hk
              clear hk
              rcases (by omega : (x.sw ≠ wj ∨ (x.sw = wj ∧ x.od ≠ 0) ∨ (x.sw = wj ∧ x.od = 0 ∧ x.nw ≠ 0)) ∨ (x.od = 0 ∧ x.nw = 0 ∧ x.sw = wj)) with hbad | hgood
              · have HB : Hid (¬ traceF cs (-1) (firstL n b s u) tr = some rw_) := by
                  intro h
                  have h2 := HS2.out.1 h
                  rw [HST.out, if_pos HK.out, if_neg (by omega)] at h2
                  cases h2
                rcases hbad with h2 | ⟨h2, h3⟩ | ⟨h2, h3, h4⟩
                case' inl => have e1 : (x.sw != wj) = true := by simpa using h2
                case' inr.inl =>
                  have e1 : (x.sw != wj) = false := by simpa using h2
                  have e2 : (x.od != 0) = true := by simpa using h3
                  clear h3
                case' inr.inr =>
                  have e1 : (x.sw != wj) = false := by simpa using h2
                  have e2 : (x.od != 0) = false := by simpa using h3
                  have e3 : (x.nw != 0) = true := by simpa using h4
                  clear h3 h4
                all_goals
                  clear h2
                  go_wp2_with fail
                  go_ret
                  exact HNo.out k4 HB.out
              · obtain ⟨h2, h3, h4⟩ := hgood
                have HS : Hid (traceF cs (-1) (firstL n b s u) tr = some rw_ ↔ traceF cs (prevMv tr (i + 1)) ws (tr.drop (i + 1)) = some rw_) := by
                  show _ ↔ _
                  rw [HS2.out, HST.out, if_pos HK.out, if_pos ⟨h2, h3, h4⟩, prevMv_succ hx.out]
                  rfl
                have e1 : (x.od != 0) = false := by simpa using h2
                have e2 : (x.nw != 0) = false := by simpa using h3
                have e3 : (x.sw != wj) = false := by simpa using h4
                clear h2 h3 h4
                go_wp2_with fail
                go_roundw
                case rel => exact ⟨i + 1, ws, cur4, by omega, by go_num, by rw [prevMv_succ hx.out], HO4', by rw [prevMv_succ hx.out]; exact HA4, Hn4', HR4', HW4', HS⟩
                case measure => simp [intOf]; omega
            · have b1 : (x.kd == 1) = false := beq_eq_false_iff_ne.2 (by omega)
              have b2 : (x.kd == 2) = true := beq_iff_eq.2 hk
              have HK := Lib.hid hk
              clear hk
              rcases (by omega : (x.od ≠ 0 ∨ (x.od = 0 ∧ x.sw ≠ 0)) ∨ (x.od = 0 ∧ x.sw = 0)) with hbad | hgood
              · have HB : Hid (¬ traceF cs (-1) (firstL n b s u) tr = some rw_) := by
                  intro h
                  have h2 := HS2.out.1 h
                  rw [HST.out, if_neg (by rw [HK.out]; omega), if_pos HK.out, if_neg (by omega)] at h2
                  cases h2
                rcases hbad with h2 | ⟨h2, h3⟩
                case' inl => have e1 : (x.od != 0) = true := by simpa using h2
                case' inr =>
                  have e1 : (x.od != 0) = false := by simpa using h2
                  have e2 : (x.sw != 0) = true := by simpa using h3
                  clear h3
                all_goals
                  clear h2
                  go_wp2_with fail
                  go_ret
                  exact HNo.out k4 HB.out
              · obtain ⟨h2, h3⟩ := hgood
                have HS : Hid (traceF cs (-1) (firstL n b s u) tr = some rw_ ↔ traceF cs (prevMv tr (i + 1)) (ws.set j x.nw) (tr.drop (i + 1)) = some rw_) := by
                  show _ ↔ _
                  rw [HS2.out, HST.out, if_neg (by rw [HK.out]; omega), if_pos HK.out, if_pos ⟨h2, h3⟩, prevMv_succ hx.out]
                  rfl
                have e1 : (x.od != 0) = false := by simpa using h2
                have e2 : (x.sw != 0) = false := by simpa using h3
                clear h2 h3
                have HP := Lib.hid (prevMv_succ hx.out)
                go_wp2_with fail
                have HS5 := Lib.hid (word_put (x := x.nw) (j := j) HW4'.out HO4'.out Hn4'.out HR4'.out Hlt0.out Hmine.out)
                go_roundw
                case rel => exact ⟨i + 1, ws.set j x.nw, cur4, by omega, by go_num, by rw [HP.out], HS5.out.1, by rw [HP.out]; exact HA4, HS5.out.2.1, HS5.out.2.2.1, HS5.out.2.2.2, HS⟩
                case measure => simp [intOf]; omega
            · have b1 : (x.kd == 1) = false := beq_eq_false_iff_ne.2 (by omega)
              have b2 : (x.kd == 2) = false := beq_eq_false_iff_ne.2 (by omega)
              have b3 : (x.kd == 3) = true := beq_iff_eq.2 hk
              have HK := Lib.hid hk
              clear hk
              have HP := Lib.hid (prevMv_succ hx.out)
              by_cases h4 : x.sw = wj
              · have e3 : (x.sw != wj) = false := by simpa using h4
                have HS3 : Hid (traceF cs (-1) (firstL n b s u) tr = some rw_ ↔ traceF cs (prevMv tr (i + 1)) (if x.sw = x.od then ws.set j x.nw else ws) (tr.drop (i + 1)) = some rw_) := by
                  show _ ↔ _
                  rw [HS2.out, HST.out, if_neg (by rw [HK.out]; omega), if_neg (by rw [HK.out]; omega), if_pos HK.out, if_pos h4, prevMv_succ hx.out]
                  rfl
                by_cases h5 : x.od = wj
                · have e4 : (x.od == wj) = true := beq_iff_eq.2 h5
                  have HS : Hid (traceF cs (-1) (firstL n b s u) tr = some rw_ ↔ traceF cs (prevMv tr (i + 1)) (ws.set j x.nw) (tr.drop (i + 1)) = some rw_) := by
                    have h := HS3.out
                    rwa [if_pos (by omega)] at h
                  clear h4 h5
                  go_wp2_with fail
                  have HS5 := Lib.hid (word_put (x := x.nw) (j := j) HW4'.out HO4'.out Hn4'.out HR4'.out Hlt0.out Hmine.out)
                  go_roundw
                  case rel => exact ⟨i + 1, ws.set j x.nw, cur4, by omega, by go_num, by rw [HP.out], HS5.out.1, by rw [HP.out]; exact HA4, HS5.out.2.1, HS5.out.2.2.1, HS5.out.2.2.2, HS⟩
                  case measure => simp [intOf]; omega
                · have e4 : (x.od == wj) = false := beq_eq_false_iff_ne.2 h5
                  have HS : Hid (traceF cs (-1) (firstL n b s u) tr = some rw_ ↔ traceF cs (prevMv tr (i + 1)) ws (tr.drop (i + 1)) = some rw_) := by
                    have h := HS3.out
                    rwa [if_neg (by omega)] at h
                  clear h4 h5
                  go_wp2_with fail
                  go_roundw
                  case rel => exact ⟨i + 1, ws, cur4, by omega, by go_num, by rw [HP.out], HO4', by rw [HP.out]; exact HA4, Hn4', HR4', HW4', HS⟩
                  case measure => simp [intOf]; omega
              · have e3 : (x.sw != wj) = true := by simpa using h4
                have HB : Hid (¬ traceF cs (-1) (firstL n b s u) tr = some rw_) := by
                  intro h
                  have h2 := HS2.out.1 h
                  rw [HST.out, if_neg (by rw [HK.out]; omega), if_neg (by rw [HK.out]; omega), if_pos HK.out, if_neg h4] at h2
                  cases h2
                clear h4
                go_wp2_with fail
                go_ret
                exact HNo.out k4 HB.out
            · have b1 : (x.kd == 1) = false := beq_eq_false_iff_ne.2 (by omega)
              have b2 : (x.kd == 2) = false := beq_eq_false_iff_ne.2 (by omega)
              have b3 : (x.kd == 3) = false := beq_eq_false_iff_ne.2 (by omega)
              have HB : Hid (¬ traceF cs (-1) (firstL n b s u) tr = some rw_) := by
                intro h
                have h2 := HS2.out.1 h
                rw [HST.out, if_neg hk.1, if_neg hk.2.1, if_neg hk.2.2] at h2
                cases h2
              clear hk
              go_wp2_with fail
              go_ret
              exact HNo.out k4 HB.out
          · have HB : Hid (¬ traceF cs (-1) (firstL n b s u) tr = some rw_) := by
              intro h
              have h2 := HS2.out.1 h
              unfold stepW at h2
              rw [if_neg (by rw [HLW.out]; exact hin)] at h2
              cases h2
            rcases (by omega : x.ad < 0 ∨ (0 ≤ x.ad ∧ (n : Int) ≤ x.ad)) with h2 | ⟨h2, h3⟩
            all_goals
              clear hin
              go_wp2_with fail
              go_ret
              exact played_no HB.out HO4'.out Hn4'.out
    · obtain rfl : n2 = i := by omega
      have HW : Hid (traceF cs (-1) (firstL n b s u) tr = some rw_ ↔ ws = rw_) := by
        show _ ↔ _
        rw [hrest.out, List.drop_of_length_le (by rw [Hm.out.trace.1]; exact Nat.le_refl _)]
        simp [traceF]
      have HLW : Hid (ws.length = n) := by show _ = _; have := hown.out.1; simpa using this
      obtain ⟨r0, r1, r2, r3⟩ := Lat.run HRr.out
      have q3 := r3 ⟨wr, Ext.rfl' wr⟩
      simp only at q3
      clear r0 r1 r2 r3 hgw
      go_wp2_with fail
      refine (equal_any _ n n A4 n4 c4 ws rw_ wr (Rd.of_own hown.out) HLW.out (Hm.out.words.ext HXr.out) Hm.out.wlen (by omega) hb4).mono ?_
      rintro e w5 ⟨q, rfl, hq, e5⟩
      have HQ := Lib.hid (hq.trans HW.out.symm)
      have HO5 := Lib.hid (HOr.out.ext e5)
      have Hn5 := Lib.hid (hon.out.later e5)
      clear hq e5
      go_wp2_with fail
      go_ret
      exact ⟨q, cur', rfl, HQ.out, HO5.out, Hn5.out⟩

end Go.Proofs.Ytfbacopjookplaa
