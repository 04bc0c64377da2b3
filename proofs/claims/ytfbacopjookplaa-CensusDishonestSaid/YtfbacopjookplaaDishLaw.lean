/- The walks of the document's Dishonest and of the statement on it. -/
import Derived.Test.YtfbacopjookplaaDish
import Derived.Test.YtfbacopjookplaaMayPure
namespace Go.Proofs.Ytfbacopjookplaa
open Go.ChangeShapes Go.WideShapes Go.ChangeAt Go.RowKit

def RDisOut (w : World) (l : List Int) (e : Ending) (w' : World) : Prop := Ext w w' ∧ ∃ v, e = .returned v ∧ w'.ownsRow w.heap.size 3 1 v l.length (l.map (Value.int .i64))

set_option maxRecDepth 100000 in
set_option maxHeartbeats 8000000 in
theorem refDis_any (T R H Re Ca S B : Int) (s : Nat) (hS : S = s) (hs1 : 1 ≤ s) (hs2 : s ≤ 1024) (u : Nat) (A1 : Option Addr) (n1 c1 : Nat) (A2 : Option Addr) (n2 c2 : Nat) (A3 : Option Addr) (n3 c3 : Nat) (A4 : Option Addr) (n4 c4 : Nat) (cs : List Cl) (tr : List Ac) (sh : List Sh) (rw_ : List Int) (w : World)
    (hm : RunMem w A1 n1 A2 n2 A3 n3 A4 n4 cs tr sh rw_) (b1 : n1 * 72 ≤ 140737488355328) (hsl : ∀ x ∈ sh, 0 ≤ x.sl ∧ x.sl < s) (hok : ∀ x ∈ cs, OkCall T x) :
    Calls Try.prog 91 #[(.agg #[.int .i64 T, .int .i64 R, .int .i64 H, .int .i64 Re, .int .i64 Ca, .int .i64 S, .int .i64 B]), .int .i64 u, .agg #[.slice A1 n1 c1, .slice A2 n2 c2, .slice A3 n3 c3, .slice A4 n4 c4]] w
      (RDisOut w (disTo s u sh cs n1)) := by
  subst hS
  have Hm := Lib.hid hm
  have Hsl := Lib.hid hsl
  have Hok := Lib.hid hok
  have hn1 := hm.big1
  clear hm hsl hok
  go_enter Try.func91, Try.ntmps91
  go_upto_region 1 with fail
  obtain ⟨w0, hw0, hC, hR, hE, hlt0⟩ := enter2 w (.cells (cfgV T R H Re Ca s B) 23) (.cells #[.slice A1 n1 c1, .slice A2 n2 c2, .slice A3 n3 c3, .slice A4 n4 c4] 48)
  rw [hw0]
  have HE := Lib.hid hE
  have HC := Lib.hid hC
  have HR := Lib.hid hR
  have Hm0 := Lib.hid (Hm.out.ext hE)
  obtain ⟨d0, d1, d2, d3, d4, d5, d6⟩ := Lat.cfg hC
  obtain ⟨r0, r1, r2, r3⟩ := Lat.run hR
  obtain ⟨k1, hk1⟩ := lat_self w0
  rw [hk1]
  clear hw0 hC hR hE hk1 hlt0
  have hl0 := World.ownsRow_nil k1.world w0.heap.size 3 1
  go_upto_region 3 with fail
  go_loopw [7, 8] (fun s9 s26 wr => ∃ (k : Lat w0) (i : Nat), wr = k.world ∧ i ≤ n1 ∧ s26 = .int .i64 i ∧ Hid (k.world.ownsRow w0.heap.size 3 1 s9 (disTo s u sh cs i).length ((disTo s u sh cs i).map (Value.int .i64)))) (fun _ s_ _ => n1 - (intOf s_).toNat)
  case atStart => exact ⟨k1, 0, rfl, by omega, rfl, hl0⟩
  case round =>
    clear hl0 k1
    obtain ⟨k, i, rfl, hi, rfl, hown⟩ := hrel
    obtain ⟨A9, c9, rfl⟩ := own_form hown.out
    by_cases hlt : i < n1
    · obtain ⟨ba, off, x, hAx, hb, hx, x0, x1, x2, x3, x4, x5, x6, x7, x8⟩ := Cl.at_ Hm0.out.calls hlt
      have z1 : (i : Int) < (n1 : Int) := by omega
      have z0 : (0 : Int) ≤ (i : Int) := by omega
      have hokx := Hok.out x (List.mem_of_getElem? hx.out)
      unfold OkCall at hokx
      obtain ⟨_, hbg, _, hpt, _, _, hak0, _⟩ := hokx
      subst hAx
      go_upto_region 6 with fail
      obtain ⟨w3, hw3, hX, hE3, hlt3⟩ := enter1 k.world (.cells #[.int .i64 x.th, .int .i64 x.op, .int .i64 x.arg, .int .i64 x.dat, .int .i64 x.bg, .int .i64 x.en, .int .i64 x.pt, .int .i64 x.ak, .int .i64 x.av] 150)
      rw [hw3]
      clear x0 x1 x2 x3 x4 x5 x6 x7 x8
      obtain ⟨x0, x1, x2, x3, x4, x5, x6, x7, x8⟩ := Cl.boxed hX
      have HE3 := Lib.hid (Ext.next k.ok hE3)
      have HX3 := Lib.hid hX
      have Hown3 := Lib.hid (own_ext hown.out hE3)
      clear d0 d1 d2 d3 d4 d5 d6 r0 r1 r2 r3
      obtain ⟨d0, d1, d2, d3, d4, d5, d6⟩ := Lat.cfg (ext_blk HE3.out HC.out)
      obtain ⟨r0, r1, r2, r3⟩ := Lat.run (ext_blk HE3.out HR.out)
      obtain ⟨k3, hk3⟩ := lat_self w3
      rw [hk3]
      generalize k.world.heap.size = px at *
      have Hm3 := Lib.hid (Hm0.out.ext HE3.out)
      clear hw3 hX hE3 hk3 hlt3 hown
      have hmo : moveOf x = if x.op = 10 then x.en else x.pt := rfl
      by_cases hgo : x.ak = 4 ∧ (x.op = 10 ∨ ¬ x.pt < 0)
      · obtain ⟨hak, hgo⟩ := hgo
        have Hak := Lib.hid hak
        have Hmn : Hid (moveOf x ≠ -1) := by
          show moveOf x ≠ -1
          rw [hmo]
          split
          · omega
          · omega
        have g2 : (x.ak != 4) = false := by simpa using hak
        rcases (by omega : (x.op = 10 ∧ x.pt < 0) ∨ (x.op = 10 ∧ ¬ x.pt < 0) ∨ (x.op ≠ 10 ∧ ¬ x.pt < 0)) with ⟨hop, hneg⟩ | ⟨hop, hneg⟩ | ⟨hop, hneg⟩
        case' inl =>
          have hd1 : (x.op == 10) = true := beq_iff_eq.2 hop
          have hd2 : (x.op != 10) = false := by simpa using hop
          have hd3 : decide (x.pt < 0) = true := decide_eq_true hneg
          rw [if_pos hop] at hmo
          obtain ⟨mo, hme⟩ : ∃ mo, x.en = mo := ⟨_, rfl⟩
          rw [hme] at x5 hmo
        case' inr.inl =>
          have hd1 : (x.op == 10) = true := beq_iff_eq.2 hop
          have hd2 : (x.op != 10) = false := by simpa using hop
          have hd3 : decide (x.pt < 0) = false := decide_eq_false hneg
          rw [if_pos hop] at hmo
          obtain ⟨mo, hme⟩ : ∃ mo, x.en = mo := ⟨_, rfl⟩
          rw [hme] at x5 hmo
        case' inr.inr =>
          have hd1 : (x.op == 10) = false := beq_eq_false_iff_ne.2 hop
          have hd2 : (x.op != 10) = true := by simpa using hop
          have hd3 : decide (x.pt < 0) = false := decide_eq_false hneg
          rw [if_neg hop] at hmo
          obtain ⟨mo, hme⟩ : ∃ mo, x.pt = mo := ⟨_, rfl⟩
          rw [hme] at x6 hmo hd3
        all_goals
          have Hmo := Lib.hid hmo
          clear hop hmo hme hneg hgo hak hak0 hpt hbg
          go_wp2_with fail
          refine (refStates_any T R H Re Ca s B s rfl hs1 hs2 u _ n1 c1 A2 n2 c2 A3 n3 c3 A4 n4 c4 sh mo _ (Hm3.out.ext k3.ok).shifts Hm.out.big3 Hsl.out).mono ?_
          rintro e w5 ⟨g1', q1, g2', q2, rfl, hS, e5⟩
          have HS5 := Lib.hid hS
          have HE5 := Lib.hid (Ext.next k3.ok e5)
          have Hown5 := Lib.hid (own_ext Hown3.out HE5.out)
          clear x0 x1 x2 x3 x4 x5 x6 x7 x8 e5 d0 d1 d2 d3 d4 d5 d6 r0 r1 r2 r3
          obtain ⟨x0, x1, x2, x3, x4, x5, x6, x7, x8⟩ := Cl.boxed (ext_blk HE5.out HX3.out)
          obtain ⟨d0, d1, d2, d3, d4, d5, d6⟩ := Lat.cfg (ext_blk HE5.out (ext_blk HE3.out HC.out))
          obtain ⟨k5, hk5⟩ := lat_self w5
          rw [hk5]
          go_upto_region 12 with fail
          rw [← hk5]
          clear hk5 k5 hS
          generalize hst : afterS (beginS s u) (belowM sh mo) = st at HS5
          generalize hho : afterH (List.replicate s (-1)) (belowM sh mo) = ho at HS5
          have HD : Hid (Dis s u sh x ↔ Spare st ho x.th s) := by
            show _ ↔ _
            unfold Dis
            have hmn := Hmn.out
            rw [Hmo.out] at hmn ⊢
            rw [hst, hho]
            exact ⟨fun h => h.2.2, fun h => ⟨Hak.out, hmn, h⟩⟩
          clear hst hho
          go_loopw [7, 13] (fun s9 s56 wr => ∃ (k : Lat w5) (j : Nat), s9 = .slice A9 (disTo s u sh cs i).length c9 ∧ wr = k.world ∧ j ≤ s ∧ s56 = .int .i64 j ∧ Hid (∀ t, t < j → ¬ (st[t]? = some 0 ∨ (st[t]? = some 1 ∧ ho[t]? = some x.th)))) (fun _ s_ _ => s - (intOf s_).toNat)
          case atStart => exact ⟨⟨w5, Ext.rfl' _⟩, 0, rfl, rfl, by omega, rfl, fun t ht => absurd ht (Nat.not_lt_zero _)⟩
          case round =>
            obtain ⟨k, j, rfl, rfl, hj, rfl, hnone⟩ := hrel
            by_cases hjs : j < s
            · have z3 : (j : Int) < (s : Int) := by omega
              have z4 : (0 : Int) ≤ (j : Int) := by omega
              obtain ⟨v, hv, v1⟩ := row_lat HS5.out.own1 hjs
              obtain ⟨t, ht, t1⟩ := row_lat HS5.out.own2 hjs
              have Hv := Lib.hid hv
              have Ht := Lib.hid ht
              clear hv ht
              by_cases hsp : v = 0 ∨ (v = 1 ∧ t = x.th)
              · have HDY : Hid (Dis s u sh x) := HD.out.2 ⟨j, hjs, by
                  rcases hsp with h | ⟨h1, h2⟩
                  · exact .inl (by rw [Hv.out, h])
                  · exact .inr ⟨by rw [Hv.out, h1], by rw [Ht.out, h2]⟩⟩
                have Hdy := Lib.hid (disTo_yes hx.out HDY.out)
                rcases (by omega : v = 0 ∨ (v ≠ 0 ∧ v = 1 ∧ t = x.th)) with h1 | ⟨h1, h2, h3⟩
                case' inl => have f1 : (v == 0) = true := beq_iff_eq.2 h1
                case' inr =>
                  have f1 : (v == 0) = false := beq_eq_false_iff_ne.2 h1
                  have f2 : (v == 1) = true := beq_iff_eq.2 h2
                  have f3 : (t == x.th) = true := beq_iff_eq.2 h3
                  clear h2 h3
                all_goals
                  clear h1 hsp
                  have hlen := disTo_len s u sh cs i
                  go_upto_region 14 with fail
                  refine wp_region_cls (Ext w5) (Ext.drew1 k.ok) (by kernel_rfl) (by kernel_rfl) ?_
                  repeat (go_big_quiet_step (fail))
                  refine wpQuiet_nil ?_
                  rintro _ ⟨k6, rfl⟩
                  have hoK := own_ext Hown5.out k6.ok
                  have hE6 := Ext.next HE3.out (Ext.next HE5.out k6.ok)
                  have hsz := hE6.size
                  go_wp2_with (at_builtin; refine wpList_push _ rfl _ _ 26 rfl w0.heap.size 3 1 8 elemInt' Try.underlying26 _ _ _ rfl hoK _ rfl rfl (by simp [Value.oneCell']) (by omega) hsz ?_; intro v7 w7 hown7 hgrow7 hat7)
                  have hE9 : Ext w0 w7 := hE6.only (Only.of_grown hgrow7) fun q hq => (hoK.lt q hq.symm).1
                  have hO7 : Hid (w7.ownsRow w0.heap.size 3 1 v7 (disTo s u sh cs (i + 1)).length ((disTo s u sh cs (i + 1)).map (Value.int .i64))) := by
                    show World.ownsRow _ _ _ _ _ _ _
                    rw [Hdy.out]
                    simpa using hown7
                  obtain ⟨k9, hk9⟩ := lat_of hE9
                  rw [hk9] at hO7 ⊢
                  clear hk9 hown7 hgrow7 hat7 hoK hE6 hsz hE9 hlen
                  go_wp2_with fail
                  go_roundw
                  case rel => exact ⟨k9, i + 1, rfl, by omega, by go_num, hO7.out⟩
                  case measure => simp [intOf]; omega
              · have hn' : Hid (∀ t, t < j + 1 → ¬ (st[t]? = some 0 ∨ (st[t]? = some 1 ∧ ho[t]? = some x.th))) := fun t' ht' => by
                  by_cases h : t' = j
                  · subst h
                    rw [Hv.out, Ht.out]
                    intro hh
                    refine hsp ?_
                    rcases hh with hh | ⟨hh, hh2⟩
                    · injection hh with hh; exact .inl hh
                    · injection hh with hh; injection hh2 with hh2; exact .inr ⟨hh, hh2⟩
                  · exact hnone.out t' (by omega)
                rcases (by omega : (v ≠ 0 ∧ v ≠ 1) ∨ (v = 1 ∧ t ≠ x.th)) with ⟨h1, h2⟩ | ⟨h1, h2⟩
                case' inl =>
                  have f1 : (v == 0) = false := beq_eq_false_iff_ne.2 h1
                  have f2 : (v == 1) = false := beq_eq_false_iff_ne.2 h2
                case' inr =>
                  have f1 : (v == 0) = false := beq_eq_false_iff_ne.2 (by omega)
                  have f2 : (v == 1) = true := beq_iff_eq.2 h1
                  have f3 : (t == x.th) = false := beq_eq_false_iff_ne.2 h2
                all_goals
                  clear h1 h2 hsp
                  go_upto_region 14 with fail
                  refine wp_region_cls (Ext w5) (Ext.drew1 k.ok) (by kernel_rfl) (by kernel_rfl) ?_
                  repeat (go_big_quiet_step (fail))
                  refine wpQuiet_nil ?_
                  rintro _ ⟨k6, rfl⟩
                  go_wp2_with fail
                  go_roundw
                  case rel => exact ⟨k6, j + 1, rfl, rfl, by omega, by go_num, hn'⟩
                  case measure => simp [intOf]; omega
            · obtain rfl : s = j := by omega
              have HDN := Lib.hid (disTo_no hx.out (fun h => by
                obtain ⟨j, hj, hh⟩ := HD.out.1 h
                exact hnone.out j hj hh))
              have HE9 := Lib.hid (Ext.next HE3.out (Ext.next HE5.out k.ok))
              have hoK := Lib.hid (own_ext Hown5.out k.ok)
              go_wp2_with fail
              obtain ⟨k9, hk9⟩ := lat_of HE9.out
              rw [hk9] at hoK ⊢
              clear hk9
              go_roundw
              case rel => exact ⟨k9, i + 1, rfl, by omega, by go_num, by rw [HDN.out]; exact hoK.out⟩
              case measure => simp [intOf]; omega
      · have HDN := Lib.hid (disTo_no (s := s) (u := u) (sh := sh) hx.out (fun h => by
          have h1 := h.1
          have h2 := h.2.1
          rw [hmo] at h2
          by_cases hop : x.op = 10
          · exact hgo ⟨h1, .inl hop⟩
          · rw [if_neg hop] at h2
            exact hgo ⟨h1, .inr (by omega)⟩))
        have HE9 := Lib.hid (Ext.next HE3.out k3.ok)
        have hoK := Lib.hid (own_ext Hown3.out k3.ok)
        rcases (by omega : x.ak ≠ 4 ∨ (x.ak = 4 ∧ x.op ≠ 10 ∧ x.pt < 0)) with h1 | ⟨h1, h2, h3⟩
        case' inl => have g2 : (x.ak != 4) = true := by simpa using h1
        case' inr =>
          have g2 : (x.ak != 4) = false := by simpa using h1
          have g3 : (x.op != 10) = true := by simpa using h2
          have g4 : decide (x.pt < 0) = true := decide_eq_true h3
          clear h2 h3
        all_goals
          clear h1 hgo hmo hak0 hpt hbg
          go_wp2_with fail
          obtain ⟨k9, hk9⟩ := lat_of HE9.out
          rw [hk9] at hoK ⊢
          clear hk9
          go_roundw
          case rel => exact ⟨k9, i + 1, rfl, by omega, by go_num, by rw [HDN.out]; exact hoK.out⟩
          case measure => simp [intOf]; omega
    · obtain rfl : n1 = i := by omega
      go_wp2_with fail
      go_ret
      exact ⟨Ext.next HE.out k.ok, _, rfl, own_base hown.out HE.out.size⟩

set_option maxHeartbeats 4000000 in
theorem ref13Dis_any (T R H Re Ca S B : Int) (s : Nat) (hS : S = s) (hs1 : 1 ≤ s) (hs2 : s ≤ 1024) (u : Nat) (A1 : Option Addr) (n1 c1 : Nat) (A2 : Option Addr) (n2 c2 : Nat) (A3 : Option Addr) (n3 c3 : Nat) (A4 : Option Addr) (n4 c4 : Nat) (cs : List Cl) (tr : List Ac) (sh : List Sh) (rw_ : List Int) (w : World)
    (hm : RunMem w A1 n1 A2 n2 A3 n3 A4 n4 cs tr sh rw_) (b1 : n1 * 72 ≤ 140737488355328) (hsl : ∀ x ∈ sh, 0 ≤ x.sl ∧ x.sl < s) (hok : ∀ x ∈ cs, OkCall T x) :
    Calls Try.prog 42 #[(.agg #[.int .i64 T, .int .i64 R, .int .i64 H, .int .i64 Re, .int .i64 Ca, .int .i64 S, .int .i64 B]), .int .i64 u, .agg #[.slice A1 n1 c1, .slice A2 n2 c2, .slice A3 n3 c3, .slice A4 n4 c4]] w (RDisOut w (disTo s u sh cs n1)) := by
  subst hS
  have Hm := Lib.hid hm
  have Hsl := Lib.hid hsl
  have Hok := Lib.hid hok
  clear hm hsl hok
  go_enter Try.func42, Try.ntmps42
  go_upto_region 1 with fail
  obtain ⟨w0, hw0, hC, hR, hE, hlt0⟩ := enter2 w (.cells (cfgV T R H Re Ca s B) 23) (.cells #[.slice A1 n1 c1, .slice A2 n2 c2, .slice A3 n3 c3, .slice A4 n4 c4] 48)
  rw [hw0]
  have HE := Lib.hid hE
  obtain ⟨d0, d1, d2, d3, d4, d5, d6⟩ := Lat.cfg hC
  obtain ⟨r0, r1, r2, r3⟩ := Lat.run hR
  obtain ⟨k0, hk0⟩ := lat_self w0
  rw [hk0]
  clear hw0 hC hR hE hk0 hlt0
  go_wp2_with fail
  refine (refDis_any T R H Re Ca s B s rfl hs1 hs2 u A1 n1 c1 A2 n2 c2 A3 n3 c3 A4 n4 c4 cs tr sh rw_ _ (Hm.out.ext (Ext.next HE.out k0.ok)) b1 Hsl.out Hok.out).mono ?_
  rintro e w1 ⟨e1, v, rfl, hO⟩
  have HX := Lib.hid (Ext.next (Ext.next HE.out k0.ok) e1)
  have HO := Lib.hid (own_base hO (Nat.le_trans HE.out.size k0.ok.size))
  clear hO e1
  go_wp2_with fail
  go_ret
  exact ⟨HX.out, v, rfl, HO.out⟩

set_option maxRecDepth 100000 in
set_option maxHeartbeats 8000000 in
theorem dishLaw_any (hM : MaySays) (hA : AwakeSays) (T R H Re Ca S B used mv : Int) (A1 : Option Addr) (n1 c1 : Nat) (A2 : Option Addr) (n2 c2 : Nat) (A3 : Option Addr) (n3 c3 : Nat) (A4 : Option Addr) (n4 c4 : Nat) (cs : List Cl) (tr : List Ac) (sh : List Sh) (rw_ : List Int) (w : World)
    (hm : RunMem w A1 n1 A2 n2 A3 n3 A4 n4 cs tr sh rw_) (b1 : n1 * 72 ≤ 140737488355328) :
    Calls Try.prog 10 #[.agg #[.int .i64 T, .int .i64 R, .int .i64 H, .int .i64 Re, .int .i64 Ca, .int .i64 S, .int .i64 B, .int .i64 used, .slice A1 n1 c1, .slice A2 n2 c2, .slice A3 n3 c3, .slice A4 n4 c4, .int .i64 mv]] w fun e w' => e = .returned (.bool true) ∧ Ext w w' := by
  have Hm := Lib.hid hm
  clear hm
  generalize her : lookF T R H Re Ca S B used cs tr sh rw_ = er
  have HER := Lib.hid her
  have Hst := Lib.hid (fun w hm => dis_any hM T R H Re Ca S B used A1 n1 c1 A2 n2 c2 A3 n3 c3 A4 n4 c4 cs tr sh rw_ w hm b1)
  have Hlk := Lib.hid (fun w hm => ref13Look_any T R H Re Ca S B used A1 n1 c1 A2 n2 c2 A3 n3 c3 A4 n4 c4 cs tr sh rw_ w hm)
  rw [her] at Hst Hlk
  clear her
  go_enter Try.func10, Try.ntmps10
  go_upto_region 1 with fail
  obtain ⟨w0, hw0, hC, hE, hlt0⟩ := enter1 w (.cells #[.int .i64 T, .int .i64 R, .int .i64 H, .int .i64 Re, .int .i64 Ca, .int .i64 S, .int .i64 B, .int .i64 used, .slice A1 n1 c1, .slice A2 n2 c2, .slice A3 n3 c3, .slice A4 n4 c4, .int .i64 mv] 50)
  rw [hw0]
  have HE := Lib.hid hE
  have Hm0 := Lib.hid (Hm.out.ext hE)
  obtain ⟨d0, d1, d2, d3, d4, d5, d6, d7, d8, d9, d10, d11, d12⟩ := Lat.case_ hC
  obtain ⟨k0, hk0⟩ := lat_self w0
  rw [hk0]
  clear hw0 hC hE hk0 hlt0
  go_wp2_with fail
  refine (Hst.out _ (Hm0.out.ext k0.ok)).mono ?_
  rintro e w1 ⟨e1, ⟨hne, rfl⟩ | ⟨rfl, v, rfl, hO⟩⟩
  · have hb0 : (er == 0) = false := beq_eq_false_iff_ne.2 hne
    have hb1 : (er != 0) = true := by simpa using hne
    have hbb : (er == er) = true := by simp
    clear hne
    obtain ⟨k1, rfl⟩ := lat_next k0 e1
    clear e1
    go_wp2_with fail
    refine (hA _).mono ?_
    rintro e w2 ⟨rfl, e2⟩
    obtain ⟨k2, rfl⟩ := lat_next k1 e2
    clear e2
    go_wp2_with fail
    refine (Hlk.out _ (Hm0.out.ext k2.ok)).mono ?_
    rintro e w3 ⟨rfl, e3⟩
    obtain ⟨k3, rfl⟩ := lat_next k2 e3
    clear e3
    go_wp2_with fail
    go_ret
    exact ⟨rfl, Ext.next HE.out k3.ok⟩
  · obtain ⟨s, u, rfl, hs1, hs2, rfl, hmay, hsl, hri⟩ := look_zero HER.out
    simp only [Int.toNat_natCast] at hO
    have Hok : Hid (∀ x ∈ cs, OkCall T x) := fun x hx => callsOK_mem hmay.2.2.1 hx
    obtain ⟨k1, rfl⟩ := lat_next k0 e1
    have HO := Lib.hid hO
    have hlen := disTo_len s u sh cs n1
    have hn1 := Hm.out.big1
    obtain ⟨A5, c5, rfl⟩ := own_form hO
    clear e1 hO hmay hri
    go_wp2_with fail
    refine (hA _).mono ?_
    rintro e w2 ⟨rfl, e2⟩
    have HO2 := Lib.hid (own_ext HO.out e2)
    obtain ⟨k2, rfl⟩ := lat_next k1 e2
    clear e2
    go_wp2_with fail
    refine (Hlk.out _ (Hm0.out.ext k2.ok)).mono ?_
    rintro e w3 ⟨rfl, e3⟩
    have HO3 := Lib.hid (own_ext HO2.out e3)
    obtain ⟨k3, rfl⟩ := lat_next k2 e3
    clear e3
    go_wp2_with fail
    refine (ref13Dis_any T R H Re Ca s B s rfl hs1 hs2 u A1 n1 c1 A2 n2 c2 A3 n3 c3 A4 n4 c4 cs tr sh rw_ _ (Hm0.out.ext k3.ok) b1 hsl Hok.out).mono ?_
    rintro e w4 ⟨e4, v4, rfl, hR4⟩
    have HO4 := Lib.hid (own_ext HO3.out e4)
    have HR4 := Lib.hid hR4
    have HX4 := Lib.hid (Ext.next k3.ok e4)
    obtain ⟨A6, c6, rfl⟩ := own_form hR4
    clear e4 hR4 d0 d1 d2 d3 d4 d5 d6 d7 d8 d9 d10 d11 d12 hsl
    generalize disTo s u sh cs n1 = l at *
    obtain ⟨n, hn⟩ : ∃ n, l.length = n := ⟨_, rfl⟩
    rw [hn] at HO4 HR4 hlen ⊢
    have Hn := Lib.hid hn
    clear hn HO HO2 HO3
    have Ha : Hid (Ints w4 A5 n l) := ⟨Hn.out, Rd.of_own HO4.out⟩
    have Hb : Hid (Ints w4 A6 n l) := ⟨Hn.out, Rd.of_own HR4.out⟩
    obtain ⟨k4, hk4⟩ := lat_self w4
    rw [hk4]
    go_upto_region 11 with fail
    go_loopw [7] (fun s9 wr => ∃ (k : Lat w4) (i : Nat), wr = k.world ∧ i ≤ n ∧ s9 = .int .i64 i) (fun s_ _ => n - (intOf s_).toNat)
    case atStart => exact ⟨k4, 0, rfl, by omega, rfl⟩
    case round =>
      obtain ⟨k, i, rfl, hi, rfl⟩ := hrel
      by_cases hlt : i < n
      · have z1 : (i : Int) < (n : Int) := by omega
        have z0 : (0 : Int) ≤ (i : Int) := by omega
        obtain ⟨x, hx⟩ : ∃ x, l[i]? = some x := ⟨_, List.getElem?_eq_getElem (by rw [Hn.out]; exact hlt)⟩
        obtain ⟨b5, o5, rfl, _, x1⟩ := Ha.out.2.lat (j := i) (u := .int .i64 x) (by simp [hx])
        obtain ⟨b6, o6, rfl, _, x2⟩ := Hb.out.2.lat (j := i) (u := .int .i64 x) (by simp [hx])
        have nn : (x != x) = false := by simp
        clear hx
        go_upto_region 13 with fail
        refine wp_region_cls (Ext w4) (Ext.drew1 k.ok) (by kernel_rfl) (by kernel_rfl) ?_
        repeat (go_big_quiet_step (fail))
        refine wpQuiet_nil ?_
        rintro _ ⟨k6, rfl⟩
        go_wp2_with fail
        go_roundw
        case rel => exact ⟨k6, i + 1, rfl, by omega, by go_num⟩
        case measure => simp [intOf]; omega
      · obtain rfl : n = i := by omega
        go_wp2_with fail
        go_ret
        exact ⟨rfl, Ext.next HE.out (Ext.next HX4.out k.ok)⟩

set_option maxRecDepth 100000 in
theorem censusDishonest_lifted (hM : MaySays) (hA : AwakeSays) (os : Os) (started : os.Started) (H : Type) (enc : TypeId × Value → H) :
    ReturnsInHanded {} Try.checked os 10 .any (Rows.censusDishonestSpec.pre6 enc Try.prog Try.f10 [] false) (Rows.censusDishonestSpec.post enc Try.prog Try.f10 false true false false) := by
  refine lawWrap (C := Try.checked) (tb := 4) own_ started (by kernel_rfl) Try.func10
    (ChangeSpec.witness6 (enc := enc) (C := Try.checked) false ⟨#[], #[.agg #[.int .i64 0, .int .i64 0, .int .i64 0, .int .i64 0, .int .i64 0, .int .i64 0, .int .i64 0, .int .i64 0, .slice none 0 0, .slice none 0 0, .slice none 0 0, .slice none 0 0, .int .i64 0]], []⟩ 8 (by kernel_rfl) (by kernel_rfl) (by kernel_rfl) (by kernel_rfl))
    rfl Try.underlying4 rfl ?_ laidOut_ (by kernel_rfl) ?_
  · intro ds hds
    match ds, hds with
    | [d1], _ => exact ⟨rfl, rfl, rfl⟩
  · intro W base args ds ps hval0 hA0 hlt hsz
    have hval : ∀ (j : Nat) t v, Try.f10.params[j]? = some t → args[j]? = some v → Value.okWide Try.prog W .any base t v := hval0
    have hArgs : DataW.TrodAll enc Try.prog W 0 (fun _ => true) true Try.f10.params.toList args.toList ds ps := hA0
    rw [Try.params10] at hArgs hval
    obtain ⟨v0, d0, rfl, rfl, h0⟩ := trodAll_one hArgs
    obtain ⟨T, R, H', Re, Ca, S, B, used, mv, A1, n1, c1, A2, n2, c2, A3, n3, c3, A4, n4, c4, cs, tr, sh, rw_, rfl, hm, b1, b2, b3, b4⟩ := openCase (hval 0 50 v0 rfl rfl) h0 (by rw [Try.params10] at hsz; exact hsz)
    exact dishLaw_any hM hA T R H' Re Ca S B used mv A1 n1 c1 A2 n2 c2 A3 n3 c3 A4 n4 c4 cs tr sh rw_ W hm (by omega)

theorem censusDishonest_of (hM : MaySays) (hA : AwakeSays) : Rows.CensusDishonestSaid :=
  OpenClaim.holds_of_wide 10 Try.f10 rfl rfl rfl rfl rfl rfl rfl ⟨rfl, rfl, rfl, rfl, rfl⟩ rfl rfl rfl rfl rfl (by kernel_rfl) Try.func10 (by kernel_rfl)
    (of_decide_eq_true (by kernel_rfl)) (by unfold Func.isWrapper; first | (rw [if_pos (by decide +kernel)]; kernel_rfl) | (rw [if_neg (by decide +kernel)]; exact ⟨rfl, rfl⟩))
    (fun os started H enc _ => censusDishonest_lifted hM hA os started H enc)

end Go.Proofs.Ytfbacopjookplaa
