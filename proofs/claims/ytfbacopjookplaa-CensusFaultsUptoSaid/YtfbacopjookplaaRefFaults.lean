/- The walk of the document's Faults. -/
import Derived.Test.YtfbacopjookplaaFaultLaw
import Derived.Test.YtfbacopjookplaaTracePure
import Derived.Test.YtfbacopjookplaaRefFirst
namespace Go.Proofs.Ytfbacopjookplaa
open Go.RowKit

open Go.ChangeShapes Go.WideShapes Go.ChangeAt Go.RowKit

theorem least_four (move lv v : Int) : (¬ move < v ∧ leastF move lv v = lv) ∨ (move < v ∧ lv < 0 ∧ leastF move lv v = v) ∨ (move < v ∧ ¬ lv < 0 ∧ v < lv ∧ leastF move lv v = v) ∨ (move < v ∧ ¬ lv < 0 ∧ ¬ v < lv ∧ leastF move lv v = lv) := by
  unfold leastF
  by_cases h1 : move < v <;> by_cases h2 : lv < 0 <;> by_cases h3 : v < lv <;> simp [h1, h2, h3]

set_option maxRecDepth 100000 in
set_option maxHeartbeats 4000000 in
theorem refNext_any (A1 : Option Addr) (n1 c1 : Nat) (A2 : Option Addr) (n2 c2 : Nat) (A3 : Option Addr) (n3 c3 : Nat) (A4 : Option Addr) (n4 c4 : Nat) (tr : List Ac) (sh : List Sh) (move : Int) (w : World) (h2 : Arr Ac.enc w A2 n2 tr) (h3 : Arr Sh.enc w A3 n3 sh) (b2 : n2 ≤ 140737488355328) (b3 : n3 ≤ 140737488355328) :
    Calls Try.prog 122 #[.agg #[.slice A1 n1 c1, .slice A2 n2 c2, .slice A3 n3 c3, .slice A4 n4 c4], .int .i64 move] w fun e w' => e = .returned (.int .i64 (nextF tr sh move)) ∧ Ext w w' := by
  have H2 := Lib.hid h2
  have H3 := Lib.hid h3
  clear h2 h3
  generalize hres : nextF tr sh move = res
  have Hres := Lib.hid hres
  clear hres
  go_enter Try.func122, Try.ntmps122
  go_upto_region 1 with fail
  obtain ⟨w0, hw0, hR, hE, hlt0⟩ := enter1 w (.cells #[.slice A1 n1 c1, .slice A2 n2 c2, .slice A3 n3 c3, .slice A4 n4 c4] 48)
  rw [hw0]
  have HE := Lib.hid hE
  have H20 := Lib.hid (H2.out.ext hE)
  have H30 := Lib.hid (H3.out.ext hE)
  obtain ⟨r0, r1, r2, r3⟩ := Lat.run hR
  obtain ⟨k0, hk0⟩ := lat_self w0
  rw [hk0]
  clear hw0 hR hE hk0 hlt0
  go_wp2_with fail
  go_loopw [5, 6] (fun s5 s6 wr => ∃ (k : Lat w0) (i : Nat) (lv : Int), wr = k.world ∧ i ≤ n2 ∧ s6 = .int .i64 i ∧ s5 = .int .i64 lv ∧ Hid (lv = (tr.take i).foldl (fun l a => leastF move l a.mv) (-1))) (fun _ s_ _ => n2 - (intOf s_).toNat)
  case atStart => exact ⟨k0, 0, -1, rfl, by omega, rfl, rfl, rfl⟩
  case round =>
    clear k0
    obtain ⟨k, i, lv, rfl, hi, rfl, rfl, Hlv⟩ := hrel
    by_cases hlt : i < n2
    · obtain ⟨ba, off, x, hAx, hb, hx, x0, x1, x2, x3, x4, x5, x6⟩ := Ac.at_ H20.out hlt
      have g1 : (i : Int) < (n2 : Int) := by omega
      have hi0 : (0 : Int) ≤ (i : Int) := by omega
      subst hAx
      have Hnx : Hid (leastF move lv x.mv = (tr.take (i + 1)).foldl (fun l a => leastF move l a.mv) (-1)) := by
        show _ = _
        rw [List.take_add_one, hx.out, List.foldl_append, ← Hlv.out]
        rfl
      clear x1 x2 x3 x4 x5 x6
      rcases least_four move lv x.mv with ⟨h1, h⟩ | ⟨h1, h2, h⟩ | ⟨h1, h2, h3, h⟩ | ⟨h1, h2, h3, h⟩
      all_goals
        rw [h] at Hnx
        clear h
        go_wp2_with fail
        go_roundw
        case rel => exact ⟨k, i + 1, _, rfl, by omega, by go_num, rfl, Hnx⟩
        case measure => simp [intOf]; omega
    · obtain rfl : n2 = i := by omega
      have HL : Hid (lv = tr.foldl (fun l a => leastF move l a.mv) (-1)) := by
        have h := Hlv.out
        rw [List.take_of_length_le (by rw [H20.out.1]; exact Nat.le_refl _)] at h
        exact h
      clear Hlv
      go_wp2_with fail
      go_loopw [5, 8] (fun s5 s6 wr => ∃ (k : Lat w0) (j : Nat) (lq : Int), wr = k.world ∧ j ≤ n3 ∧ s6 = .int .i64 j ∧ s5 = .int .i64 lq ∧ Hid (lq = (sh.take j).foldl (fun l a => leastF move l a.mv) lv)) (fun _ s_ _ => n3 - (intOf s_).toNat)
      case atStart => exact ⟨k, 0, lv, rfl, by omega, rfl, rfl, rfl⟩
      case round =>
        clear k
        obtain ⟨k, j, lq, rfl, hj, rfl, rfl, Hlq⟩ := hrel
        by_cases hlt : j < n3
        · obtain ⟨ba, off, x, hAx, hb, hx, x0, x1, x2, x3, x4⟩ := Sh.at_ H30.out hlt
          have g1 : (j : Int) < (n3 : Int) := by omega
          have hi0 : (0 : Int) ≤ (j : Int) := by omega
          subst hAx
          have Hnx : Hid (leastF move lq x.mv = (sh.take (j + 1)).foldl (fun l a => leastF move l a.mv) lv) := by
            show _ = _
            rw [List.take_add_one, hx.out, List.foldl_append, ← Hlq.out]
            rfl
          clear x1 x2 x3 x4
          rcases least_four move lq x.mv with ⟨h1, h⟩ | ⟨h1, h2, h⟩ | ⟨h1, h2, h3, h⟩ | ⟨h1, h2, h3, h⟩
          all_goals
            rw [h] at Hnx
            clear h
            go_wp2_with fail
            go_roundw
            case rel => exact ⟨k, j + 1, _, rfl, by omega, by go_num, rfl, Hnx⟩
            case measure => simp [intOf]; omega
        · obtain rfl : n3 = j := by omega
          have HQ : Hid (lq = res) := by
            have h := Hlq.out
            rw [List.take_of_length_le (by rw [H30.out.1]; exact Nat.le_refl _)] at h
            rw [← Hres.out]
            unfold nextF
            rw [← HL.out]
            exact h
          clear Hlq
          go_wp2_with fail
          go_ret
          exact ⟨by rw [HQ.out]; rfl, Ext.next HE.out k.ok⟩

set_option maxRecDepth 100000 in
set_option maxHeartbeats 4000000 in
theorem refLinked_any (T R H Re Ca S B : Int) (s : Nat) (hS : S = s) (hs1 : 1 ≤ s) (hs2 : s ≤ 1024) (u : Nat) (A1 : Option Addr) (n1 c1 : Nat) (A2 : Option Addr) (n2 c2 : Nat) (A3 : Option Addr) (n3 c3 : Nat) (A4 : Option Addr) (n4 c4 : Nat) (sh : List Sh) (t j : Nat) (fr : Int) (w : World)
    (hm : Arr Sh.enc w A3 n3 sh) (ht : t ≤ n3) (hj : j < s) (b3 : n3 ≤ 140737488355328) :
    Calls Try.prog 156 #[(.agg #[.int .i64 T, .int .i64 R, .int .i64 H, .int .i64 Re, .int .i64 Ca, .int .i64 S, .int .i64 B]), .int .i64 u, .agg #[.slice A1 n1 c1, .slice A2 n2 c2, .slice A3 n3 c3, .slice A4 n4 c4], .int .i64 t, .int .i64 j, .int .i64 fr] w fun e w' => e = .returned (.bool (linkedF ((beginS s u).getD j 0) j fr (sh.take t))) ∧ Ext w w' := by
  subst hS
  have Hm := Lib.hid hm
  have Hbegin := Lib.hid (fun w => refBegin_any T R H Re Ca (s : Int) B s rfl hs1 hs2 u w)
  clear hm
  generalize hres : linkedF ((beginS s u).getD j 0) j fr (sh.take t) = res
  have Hres := Lib.hid hres
  clear hres
  go_enter Try.func156, Try.ntmps156
  go_upto_region 1 with fail
  obtain ⟨w0, hw0, hC, hR, hE, hlt0⟩ := enter2 w (.cells (cfgV T R H Re Ca s B) 23) (.cells #[.slice A1 n1 c1, .slice A2 n2 c2, .slice A3 n3 c3, .slice A4 n4 c4] 48)
  rw [hw0]
  have HE := Lib.hid hE
  have Hm0 := Lib.hid (Hm.out.ext hE)
  obtain ⟨d0, d1, d2, d3, d4, d5, d6⟩ := Lat.cfg hC
  obtain ⟨r0, r1, r2, r3⟩ := Lat.run hR
  obtain ⟨k0, hk0⟩ := lat_self w0
  rw [hk0]
  clear hw0 hC hR hE hk0 hlt0
  go_wp2_with fail
  refine (Hbegin.out _).mono ?_
  rintro e w1 ⟨g1, q1, g2, q2, rfl, htw, e1⟩
  obtain ⟨v0, hv0, hv1⟩ := row_lat htw.own1 hj
  have hv : w1.cell? ⟨g1, j, none⟩ = some (.int .i64 v0) := hv1 ⟨w1, Ext.rfl' _⟩
  have hg1 := (htw.own1.lt g1 rfl).2
  obtain ⟨k1, rfl⟩ := lat_next k0 e1
  have hjs : (j : Int) < (s : Int) := by omega
  have hj0 : (0 : Int) ≤ (j : Int) := by omega
  have Hv0 : Hid ((beginS s u).getD j 0 = v0) := by
    show _ = _
    rw [List.getD_eq_getElem?_getD, hv0]
    rfl
  clear htw e1 hv0 hv1 d0 d1 d2 d3 d4 d5 d6
  go_upto_region 5 with fail
  clear hv hg1
  go_loopw [15, 16, 17] (fun s15 s16 s17 wr => ∃ (k : Lat w0) (i : Nat) (v : Int) (sn : Bool), wr = k.world ∧ i ≤ t ∧ s17 = .int .i64 i ∧ s15 = .int .i64 v ∧ s16 = .bool sn ∧ Hid ((sh.take i).foldl (linkStep j fr) (v0, false) = (v, sn))) (fun _ _ s_ _ => t - (intOf s_).toNat)
  case atStart => exact ⟨k1, 0, v0, false, rfl, by omega, rfl, rfl, rfl, rfl⟩
  case round =>
    clear k1 k0
    obtain ⟨k, i, v, sn, rfl, hi, rfl, rfl, rfl, Hq⟩ := hrel
    by_cases hlt : i < t
    · obtain ⟨ba, off, x, hAx, hb, hx, x0, x1, x2, x3, x4⟩ := Sh.at_ Hm0.out (show i < n3 by omega)
      have g1 : (i : Int) < (t : Int) := by omega
      have g2 : (i : Int) < (n3 : Int) := by omega
      have hi0 : (0 : Int) ≤ (i : Int) := by omega
      subst hAx
      have Hnx : Hid ((sh.take (i + 1)).foldl (linkStep j fr) (v0, false) = linkStep j fr (v, sn) x) := by
        show _ = _
        rw [List.take_add_one, hx.out, List.foldl_append, Hq.out]
        rfl
      clear Hq
      go_upto_region 8 with fail
      obtain ⟨w3, hw3, hX, hE3, hlt3⟩ := enter1 k.world (.cells #[.int .i64 x.mv, .int .i64 x.th, .int .i64 x.sl, .int .i64 x.fr, .int .i64 x.to] 136)
      rw [hw3]
      clear x0 x1 x2 x3 x4
      have HX3 := Lib.hid (Ext.next k.ok hE3)
      obtain ⟨x0, x1, x2, x3, x4⟩ := Sh.boxed hX
      obtain ⟨k3, hk3⟩ := lat_self w3
      rw [hk3]
      generalize k.world.heap.size = px at *
      clear hw3 hX hE3 hk3 hlt3 g2
      have hcase : (∃ q, q = sn ∧ (¬ fr ≤ x.mv ∨ (fr ≤ x.mv ∧ v ≠ 3))) ∨ (fr ≤ x.mv ∧ v = 3) := by
        by_cases h1 : fr ≤ x.mv <;> by_cases h2 : v = 3 <;> simp [h1, h2]
      have hsl : x.sl = j ∨ x.sl ≠ j := by omega
      rcases hcase with ⟨q, hq, h1 | ⟨h1, h2⟩⟩ | ⟨h1, h2⟩
      case' inl.inl =>
        have d1 : decide (fr ≤ x.mv) = false := decide_eq_false h1
        have e1 : Hid (linkStep j fr (v, sn) x = (if x.sl = j then x.to else v, sn)) := by
          show _ = _
          unfold linkStep
          rw [d1]
          simp
      case' inl.inr =>
        have d1 : decide (fr ≤ x.mv) = true := decide_eq_true h1
        have d2 : (v == 3) = false := beq_eq_false_iff_ne.2 h2
        have e1 : Hid (linkStep j fr (v, sn) x = (if x.sl = j then x.to else v, sn)) := by
          show _ = _
          unfold linkStep
          simp [h2]
      case' inr =>
        have d1 : decide (fr ≤ x.mv) = true := decide_eq_true h1
        have d2 : (v == 3) = true := by simp [h2]
        have e1 : Hid (linkStep j fr (v, sn) x = (if x.sl = j then x.to else v, true)) := by
          show _ = _
          unfold linkStep
          simp [h1, h2]
      all_goals
        rw [e1.out] at Hnx
        clear e1 h1
        rcases hsl with h3 | h3
        case' inl =>
          have d3 : (x.sl == (j : Int)) = true := by simp [h3]
          rw [if_pos h3] at Hnx
        case' inr =>
          have d3 : (x.sl == (j : Int)) = false := beq_eq_false_iff_ne.2 h3
          rw [if_neg h3] at Hnx
        all_goals
          clear h3
          go_wp2_with fail
          obtain ⟨k9, hk9⟩ := lat_of (Ext.next HX3.out k3.ok)
          rw [hk9]
          clear hk9
          go_roundw
          case rel => exact ⟨k9, i + 1, _, _, rfl, by omega, by go_num, rfl, rfl, Hnx⟩
          case measure => simp [intOf]; omega
    · obtain rfl : t = i := by omega
      have HR : Hid ((sn || decide (v = 3)) = res) := by
        show _ = _
        rw [← Hres.out]
        unfold linkedF
        rw [Hv0.out, Hq.out]
      by_cases h3 : v = 3
      case' pos => have d3 : (v == 3) = true := by simp [h3]
      case' neg => have d3 : (v == 3) = false := beq_eq_false_iff_ne.2 h3
      all_goals
        cases sn with
        | true =>
          go_wp2_with fail
          go_ret
          exact ⟨by rw [← HR.out]; simp, Ext.next HE.out k.ok⟩
        | false =>
          go_wp2_with fail
          go_ret
          exact ⟨by rw [← HR.out]; simp [h3], Ext.next HE.out k.ok⟩

set_option maxRecDepth 100000 in
set_option maxHeartbeats 4000000 in
theorem refBehind_any (T R H Re Ca S B : Int) (s : Nat) (hS : S = s) (hs1 : 1 ≤ s) (hs2 : s ≤ 1024) (u : Nat)
    (A1 : Option Addr) (n1 c1 : Nat) (A2 : Option Addr) (n2 c2 : Nat) (A3 : Option Addr) (n3 c3 : Nat) (A4 : Option Addr) (n4 c4 : Nat) (sh : List Sh) (m : Int) (w : World)
    (hm : Arr Sh.enc w A3 n3 sh) (hn3 : n3 ≤ 140737488355328) (hsl : ∀ x ∈ sh, 0 ≤ x.sl ∧ x.sl < s) :
    Calls Try.prog 123 #[(.agg #[.int .i64 T, .int .i64 R, .int .i64 H, .int .i64 Re, .int .i64 Ca, .int .i64 S, .int .i64 B]), .int .i64 u, .agg #[.slice A1 n1 c1, .slice A2 n2 c2, .slice A3 n3 c3, .slice A4 n4 c4], .int .i64 m] w
      (RStatesOut w s (afterS (beginS s u) (uptoM sh m)) (afterH (List.replicate s (-1)) (uptoM sh m))) := by
  subst hS
  have Hm := Lib.hid hm
  have Hsl := Lib.hid hsl
  have Hbegin := Lib.hid (fun w => refBegin_any T R H Re Ca (s : Int) B s rfl hs1 hs2 u w)
  generalize hst : afterS (beginS s u) (uptoM sh m) = st'
  generalize hho : afterH (List.replicate s (-1)) (uptoM sh m) = ho'
  have Hst := Lib.hid hst
  have Hho := Lib.hid hho
  clear hm hsl hst hho
  go_enter Try.func123, Try.ntmps123
  go_upto_region 1 with fail
  obtain ⟨w0, hw0, hC, hR, hE, hlt0⟩ := enter2 w (.cells (cfgV T R H Re Ca s B) 23) (.cells #[.slice A1 n1 c1, .slice A2 n2 c2, .slice A3 n3 c3, .slice A4 n4 c4] 48)
  rw [hw0]
  have HE := Lib.hid hE
  have HR := Lib.hid hR
  have Hm0 := Lib.hid (Hm.out.ext hE)
  obtain ⟨d0, d1, d2, d3, d4, d5, d6⟩ := Lat.cfg hC
  obtain ⟨r0, r1, r2, r3⟩ := Lat.run hR
  obtain ⟨k0, hk0⟩ := lat_self w0
  rw [hk0]
  clear hw0 hC hR hE hk0 hlt0
  go_wp2_with fail
  refine (Hbegin.out _).mono ?_
  rintro e w1 ⟨g1, q1, g2, q2, rfl, htw, e1⟩
  have HT1 : Hid (Two w1 w0.heap.size g1 q1 g2 q2 s (beginS s u) (List.replicate s (-1))) := ⟨own_base htw.own1 k0.ok.size, own_base htw.own2 k0.ok.size⟩
  obtain ⟨k1, rfl⟩ := lat_next k0 e1
  clear htw e1
  go_wp2_with fail
  go_loopw [12] (fun s12 wr => ∃ (k : Lat w0) (i : Nat), wr = k.world ∧ i ≤ n3 ∧ s12 = .int .i64 i ∧ Hid (Two k.world w0.heap.size g1 q1 g2 q2 s (afterS (beginS s u) (uptoM (sh.take i) m)) (afterH (List.replicate s (-1)) (uptoM (sh.take i) m)))) (fun s_ _ => n3 - (intOf s_).toNat)
  case atStart => exact ⟨k1, 0, rfl, by omega, rfl, HT1⟩
  case round =>
    clear HT1 k1 k0
    obtain ⟨k, i, rfl, hi, rfl, HTw⟩ := hrel
    by_cases hlt : i < n3
    · obtain ⟨ba, off, x, hAx, hb, hx, x0, x1, x2, x3, x4⟩ := Sh.at_ Hm0.out hlt
      have g1' : (i : Int) < (n3 : Int) := by omega
      have hi0 : (0 : Int) ≤ (i : Int) := by omega
      subst hAx
      have hbs := upto_snoc (m := m) hx.out
      by_cases hmv : x.mv ≤ m
      · have hd : decide (x.mv ≤ m) = true := decide_eq_true hmv
        rw [if_pos hmv] at hbs
        have Hbs := Lib.hid hbs
        clear hmv hbs
        obtain ⟨hs0, hs1'⟩ := Hsl.out x (List.mem_of_getElem? hx.out)
        obtain ⟨jj, hjj⟩ : ∃ jj : Nat, x.sl = jj := ⟨x.sl.toNat, by omega⟩
        have hjs : jj < s := by omega
        have Hjj := Lib.hid hjj
        clear hjj hs0 hs1'
        go_wp2_with fail
        refine (refPut_any w0.heap.size g1 q1 g2 q2 s _ _ x jj Hjj.out hjs _ HTw.out).mono ?_
        rintro e w8 ⟨rfl, hT, o8⟩
        have hx8 : Ext w0 w8 := k.ok.only o8 fun q hq => by
          rcases hq with rfl | rfl
          · exact (HTw.out.own1.lt q rfl).1
          · exact (HTw.out.own2.lt q rfl).1
        obtain ⟨k9, rfl⟩ := lat_of hx8
        have HT9 : Hid (Two k9.world w0.heap.size g1 q1 g2 q2 s (afterS (beginS s u) (uptoM (sh.take (i + 1)) m)) (afterH (List.replicate s (-1)) (uptoM (sh.take (i + 1)) m))) := by
          rw [Hbs.out, afterS_snoc, afterH_snoc]
          exact hT
        clear hT o8 hx8
        go_wp2_with fail
        go_roundw
        case rel => exact ⟨k9, i + 1, rfl, by omega, by go_num, HT9⟩
        case measure => simp [intOf]; omega
      · have hd : decide (x.mv ≤ m) = false := decide_eq_false hmv
        rw [if_neg hmv] at hbs
        have HT9 : Hid (Two k.world w0.heap.size g1 q1 g2 q2 s (afterS (beginS s u) (uptoM (sh.take (i + 1)) m)) (afterH (List.replicate s (-1)) (uptoM (sh.take (i + 1)) m))) := by
          rw [hbs]
          exact HTw.out
        clear hmv hbs
        go_wp2_with fail
        go_roundw
        case rel => exact ⟨k, i + 1, rfl, by omega, by go_num, HT9⟩
        case measure => simp [intOf]; omega
    · obtain rfl : n3 = i := by omega
      have HTf : Hid (Two k.world w0.heap.size g1 q1 g2 q2 s st' ho') := by
        have h := HTw.out
        rw [List.take_of_length_le (by rw [Hm.out.1]; exact Nat.le_refl _)] at h
        rw [← Hst.out, ← Hho.out]
        exact h
      go_wp2_with fail
      go_ret2
      exact ⟨g1, q1, g2, q2, rfl, ⟨own_base HTf.out.own1 HE.out.size, own_base HTf.out.own2 HE.out.size⟩, Ext.next HE.out k.ok⟩

open Go.ChangeShapes Go.WideShapes Go.ChangeAt Go.RowKit

theorem wrote_six (ad mv sl : Int) (q : Int × Bool) (x : Ac) :
    (mv < x.mv ∧ wroteStep ad mv sl q x = q) ∨ (¬ mv < x.mv ∧ x.ad ≠ ad ∧ wroteStep ad mv sl q x = q) ∨ (¬ mv < x.mv ∧ x.ad = ad ∧ x.kd ≠ 2 ∧ x.kd = 3 ∧ x.sw ≠ x.od ∧ wroteStep ad mv sl q x = q) ∨ (¬ mv < x.mv ∧ x.ad = ad ∧ x.kd ≠ 2 ∧ x.kd ≠ 3 ∧ wroteStep ad mv sl q x = q) ∨
      (¬ mv < x.mv ∧ x.ad = ad ∧ x.kd = 2 ∧ wroteStep ad mv sl q x = (x.mv, decide (x.nw = sl + 1))) ∨ (¬ mv < x.mv ∧ x.ad = ad ∧ x.kd ≠ 2 ∧ x.kd = 3 ∧ x.sw = x.od ∧ wroteStep ad mv sl q x = (x.mv, decide (x.nw = sl + 1))) := by
  unfold wroteStep
  by_cases h1 : mv < x.mv
  · exact .inl ⟨h1, if_neg (by omega)⟩
  · by_cases h2 : x.ad = ad
    · by_cases h3 : x.kd = 2
      · exact .inr (.inr (.inr (.inr (.inl ⟨h1, h2, h3, if_pos (by omega)⟩))))
      · by_cases h4 : x.kd = 3
        · by_cases h5 : x.sw = x.od
          · exact .inr (.inr (.inr (.inr (.inr ⟨h1, h2, h3, h4, h5, if_pos (by omega)⟩))))
          · exact .inr (.inr (.inl ⟨h1, h2, h3, h4, h5, if_neg (by omega)⟩))
        · exact .inr (.inr (.inr (.inl ⟨h1, h2, h3, h4, if_neg (by omega)⟩)))
    · exact .inr (.inl ⟨h1, h2, if_neg (by omega)⟩)

set_option maxRecDepth 100000 in
set_option maxHeartbeats 8000000 in
theorem refHeld_any (T R H Re Ca S B : Int) (hok : Okay T R H Re Ca S B) (s : Nat) (hS : S = s) (u m : Nat) (hmul : R * H = (m : Int)) (A1 : Option Addr) (n1 c1 : Nat) (A2 : Option Addr) (n2 c2 : Nat) (A3 : Option Addr) (n3 c3 : Nat) (A4 : Option Addr) (n4 c4 : Nat) (tr : List Ac) (sh : List Sh) (t j : Nat) (y : Sh) (w : World)
    (h2 : Arr Ac.enc w A2 n2 tr) (h3 : Arr Sh.enc w A3 n3 sh) (ht : t < n3) (hy : sh[t]? = some y) (hj : j < s) (b2 : n2 ≤ 140737488355328) (b3 : n3 ≤ 140737488355328) :
    Calls Try.prog 127 #[(.agg #[.int .i64 T, .int .i64 R, .int .i64 H, .int .i64 Re, .int .i64 Ca, .int .i64 S, .int .i64 B]), .int .i64 u, .agg #[.slice A1 n1 c1, .slice A2 n2 c2, .slice A3 n3 c3, .slice A4 n4 c4], .int .i64 t, .int .i64 j] w fun e w' => e = .returned (.bool (heldR (sumOf R H S B 8) m s u tr (sh.take t) y.mv j)) ∧ Ext w w' := by
  have H2 := Lib.hid h2
  have H3 := Lib.hid h3
  have Hmul := Lib.hid hmul
  have hok' := hok
  unfold Okay at hok'
  obtain ⟨_, _, hR, hR', hH, hH', _, _, _, _, hS1, hS1', hB1, hB1'⟩ := hok'
  have hsb := sumOf_bd R H S B hR hR' hH hH' hS1 hS1' hB1 hB1' 8
  have Hbase := Lib.hid fun w => base_any T R H Re Ca S B 8 w hR hR' hH hH' hS1 hS1' hB1 hB1' 9 rfl (by omega)
  have hm4 : R * H ≤ 16 * 8 := Int.mul_le_mul hR' hH' (by omega) (by omega)
  have hmm : m ≤ 128 := by omega
  have hs1 : 1 ≤ s := by omega
  have hs2 : s ≤ 1024 := by omega
  have Hlink := Lib.hid fun (fr : Int) (w : World) (hm : Arr Sh.enc w A3 n3 sh) => refLinked_any T R H Re Ca S B s hS hs1 hs2 u A1 n1 c1 A2 n2 c2 A3 n3 c3 A4 n4 c4 sh t j fr w hm (Nat.le_of_lt ht) hj b3
  have Hpl := Lib.hid fun w => packLink_bare (j : Int) w (by omega) (by omega)
  have HSs := Lib.hid hS
  clear hS h2 h3 hok hm4 hmul hR hR' hH hH' hS1 hS1' hB1 hB1'
  generalize sumOf R H S B 8 = fi at *
  generalize hres : heldR fi m s u tr (sh.take t) y.mv j = res
  have Hres := Lib.hid hres
  clear hres
  go_enter Try.func127, Try.ntmps127
  go_upto_region 1 with fail
  obtain ⟨w0, hw0, hC, hR, hE, hlt0⟩ := enter2 w (.cells (cfgV T R H Re Ca S B) 23) (.cells #[.slice A1 n1 c1, .slice A2 n2 c2, .slice A3 n3 c3, .slice A4 n4 c4] 48)
  rw [hw0]
  have HE := Lib.hid hE
  have H20 := Lib.hid (H2.out.ext hE)
  have H30 := Lib.hid (H3.out.ext hE)
  obtain ⟨d0, d1, d2, d3, d4, d5, d6⟩ := Lat.cfg hC
  obtain ⟨r0, r1, r2, r3⟩ := Lat.run hR
  obtain ⟨k0, hk0⟩ := lat_self w0
  rw [hk0]
  clear hw0 hC hR hE hk0 hlt0
  obtain ⟨ba, off, y', hAx, hb, hy', x0, x1, x2, x3, x4⟩ := Sh.at_ H30.out ht
  obtain rfl : y = y' := by
    have := hy'.out
    rw [hy] at this
    exact Option.some.inj this
  have ht1 : (t : Int) < (n3 : Int) := by omega
  have ht0 : (0 : Int) ≤ (t : Int) := by omega
  have HA3 := Lib.hid hAx
  subst hAx
  clear x1 x2 x3 x4 hy hy'
  generalize y.mv = mv at *
  go_wp2_with fail
  refine (Hbase.out _).mono ?_
  rintro e w1 ⟨rfl, e1⟩
  obtain ⟨k1, rfl⟩ := lat_next k0 e1
  clear e1 k0 x0
  go_wp2_with fail
  go_loopw [13] (fun s13 wr => ∃ (k : Lat w0) (h : Nat), wr = k.world ∧ h ≤ m ∧ s13 = .int .i64 h ∧ Hid ((List.range h).any (holdsR fi s u tr (sh.take t) mv j) = false)) (fun s_ _ => m - (intOf s_).toNat)
  case atStart => exact ⟨k1, 0, rfl, by omega, rfl, rfl⟩
  case round =>
    clear k1
    obtain ⟨k, h, rfl, hh, rfl, Hno⟩ := hrel
    have hmul := Hmul.out
    by_cases hlt : h < m
    · have h1 : (h : Int) < (m : Int) := by omega
      have hh0 : (0 : Int) ≤ (h : Int) := by omega
      go_upto_region 8 with fail
      clear hmul
      obtain ⟨wo, hwo⟩ : ∃ wo : World, wo = k.world := ⟨_, rfl⟩
      go_loopw [14, 15, 16] (fun s14 s15 s16 wr => ∃ (k : Lat w0) (i : Nat) (v : Int) (nm : Bool), wr = k.world ∧ i ≤ n2 ∧ s16 = .int .i64 i ∧ s14 = .int .i64 v ∧ s15 = .bool nm ∧ Hid ((tr.take i).foldl (wroteStep (fi + h) mv j) (-1, false) = (v, nm))) (fun _ _ s_ _ => n2 - (intOf s_).toNat)
      case atStart => exact ⟨k, 0, -1, false, rfl, by omega, rfl, rfl, rfl, rfl⟩
      case round =>
        clear hwo wo k
        obtain ⟨k, i, v, nm, rfl, hi, rfl, rfl, rfl, Hq⟩ := hrel
        by_cases hlt2 : i < n2
        · obtain ⟨ba', off', x, hAx, hb', hx, x0, x1, x2, x3, x4, x5, x6⟩ := Ac.at_ H20.out hlt2
          have g1 : (i : Int) < (n2 : Int) := by omega
          have hi0 : (0 : Int) ≤ (i : Int) := by omega
          subst hAx
          have Hnx : Hid ((tr.take (i + 1)).foldl (wroteStep (fi + h) mv j) (-1, false) = wroteStep (fi + h) mv j (v, nm) x) := by
            show _ = _
            rw [List.take_add_one, hx.out, List.foldl_append, Hq.out]
            rfl
          clear Hq
          go_upto_region 11 with fail
          obtain ⟨w3, hw3, hX, hE3, hlt3⟩ := enter1 k.world (.cells #[.int .i64 x.mv, .int .i64 x.th, .int .i64 x.kd, .int .i64 x.ad, .int .u64 x.od, .int .u64 x.nw, .int .u64 x.sw] 129)
          rw [hw3]
          clear x0 x1 x2 x3 x4 x5 x6
          have HX3 := Lib.hid (Ext.next k.ok hE3)
          obtain ⟨x0, x1, x2, x3, x4, x5, x6⟩ := Ac.boxed hX
          obtain ⟨k3, hk3⟩ := lat_self w3
          rw [hk3]
          generalize k.world.heap.size = px at *
          clear hw3 hX hE3 hk3 hlt3
          rcases wrote_six (fi + h) mv j (v, nm) x with ⟨a1, e⟩ | ⟨a1, a2, e⟩ | ⟨a1, a2, a3, a4, a5, e⟩ | ⟨a1, a2, a3, a4, e⟩ | ⟨a1, a2, a3, e⟩ | ⟨a1, a2, a3, a4, a5, e⟩
          all_goals
            rw [e] at Hnx
            clear e
          case' inr.inl => have f2 : (x.ad != fi + (h : Int)) = true := by simpa using a2
          case' inr.inr.inl =>
            have f2 : (x.ad != fi + (h : Int)) = false := by simpa using a2
            have f3 : (x.kd == 2) = false := by simpa using a3
            have f4 : (x.kd == 3) = true := by simpa using a4
            have f5 : (x.sw == x.od) = false := by simpa using a5
          case' inr.inr.inr.inl =>
            have f2 : (x.ad != fi + (h : Int)) = false := by simpa using a2
            have f3 : (x.kd == 2) = false := by simpa using a3
            have f4 : (x.kd == 3) = false := by simpa using a4
          case' inr.inr.inr.inr.inl =>
            have f2 : (x.ad != fi + (h : Int)) = false := by simpa using a2
            have f3 : (x.kd == 2) = true := by simpa using a3
          case' inr.inr.inr.inr.inr =>
            have f2 : (x.ad != fi + (h : Int)) = false := by simpa using a2
            have f3 : (x.kd == 2) = false := by simpa using a3
            have f4 : (x.kd == 3) = true := by simpa using a4
            have f5 : (x.sw == x.od) = true := by simpa using a5
          case inr.inr.inr.inr.inl | inr.inr.inr.inr.inr =>
            (try clear a4 a5)
            clear a2 a3
            obtain ⟨bn, hbn⟩ : ∃ bn : Bool, (x.nw == (j : Int) + 1) = bn := ⟨_, rfl⟩
            have Hbn : Hid (decide (x.nw = (j : Int) + 1) = bn) := by
              show _ = _
              rw [← hbn]
              rfl
            rw [Hbn.out] at Hnx
            go_upto_region 14 with fail
            refine wp_region_cls (Ext w3) (Ext.drew1 k3.ok) (by kernel_rfl) (by kernel_rfl) ?_
            repeat (go_big_quiet_step (exact calls_cls_same (Hpl.out _)))
            refine wpQuiet_nil ?_
            rintro _ ⟨k4, rfl⟩
            go_wp2_with fail
            obtain ⟨k9, hk9⟩ := lat_of (Ext.next HX3.out k4.ok)
            rw [hk9]
            clear hk9
            go_roundw
            case rel => exact ⟨k9, i + 1, _, _, rfl, by omega, by go_num, rfl, rfl, Hnx⟩
            case measure => simp [intOf]; omega
          all_goals
            (try clear a4)
            (try clear a5)
            (try clear a3)
            (try clear a2)
            go_wp2_with fail
            obtain ⟨k9, hk9⟩ := lat_of (Ext.next HX3.out k3.ok)
            rw [hk9]
            clear hk9
            go_roundw
            case rel => exact ⟨k9, i + 1, _, _, rfl, by omega, by go_num, rfl, rfl, Hnx⟩
            case measure => simp [intOf]; omega
        · obtain rfl : n2 = i := by omega
          have HW : Hid (wroteF (fi + h) mv j tr = (v, nm)) := by
            have h := Hq.out
            rw [List.take_of_length_le (by rw [H20.out.1]; exact Nat.le_refl _)] at h
            exact h
          clear Hq
          cases nm with
          | false =>
            have Hno' : Hid ((List.range (h + 1)).any (holdsR fi s u tr (sh.take t) mv j) = false) := by
              show _ = _
              rw [List.range_succ, List.any_append, Hno.out]
              simp [holdsR, HW.out]
            go_wp2_with fail
            go_roundw
            case rel => exact ⟨k, h + 1, rfl, by omega, by go_num, Hno'⟩
            case measure => simp [intOf]; omega
          | true =>
            go_wp2_with fail
            refine (Hlink.out v _ (H30.out.ext k.ok)).mono ?_
            rintro e w5 ⟨rfl, e5⟩
            obtain ⟨k5, rfl⟩ := lat_next k e5
            clear e5
            have HB : Hid (holdsR fi s u tr (sh.take t) mv j h = linkedF ((beginS s u).getD j 0) j v (sh.take t)) := by
              show _ = _
              unfold holdsR
              rw [HW.out]
              simp
            generalize linkedF ((beginS s u).getD j 0) j v (sh.take t) = bl at *
            cases bl with
            | true =>
              have HR : Hid (res = true) := by
                show _ = _
                rw [← Hres.out]
                exact List.any_eq_true.2 ⟨h, List.mem_range.2 hlt, HB.out⟩
              go_wp2_with fail
              go_ret
              exact ⟨by rw [HR.out]; rfl, Ext.next HE.out k5.ok⟩
            | false =>
              have Hno' : Hid ((List.range (h + 1)).any (holdsR fi s u tr (sh.take t) mv j) = false) := by
                show _ = _
                rw [List.range_succ, List.any_append, Hno.out]
                simp [HB.out]
              go_wp2_with fail
              go_roundw
              case rel => exact ⟨k5, h + 1, rfl, by omega, by go_num, Hno'⟩
              case measure => simp [intOf]; omega
    · obtain rfl : m = h := by omega
      have HR : Hid (res = false) := by
        show _ = _
        rw [← Hres.out]
        exact Hno.out
      go_wp2_with fail
      go_ret
      exact ⟨by rw [HR.out]; rfl, Ext.next HE.out k.ok⟩

open Go.ChangeShapes Go.WideShapes Go.ChangeAt Go.RowKit

theorem Two.only {w w' : World} {B g1 c1 g2 c2 n : Nat} {st ho : List Int} (h : Two w B g1 c1 g2 c2 n st ho) {S : Nat → Prop} (o : Only S w w') (h1 : ¬ S g1) (h2 : ¬ S g2) : Two w' B g1 c1 g2 c2 n st ho :=
  ⟨own_only h.own1 o fun q hq e => h1 (by have e2 : g1 = q := Option.some.inj hq; rw [e2]; exact e), own_only h.own2 o fun q hq e => h2 (by have e2 : g2 = q := Option.some.inj hq; rw [e2]; exact e)⟩
theorem Two.grown {w w' : World} {B g1 c1 g2 c2 n : Nat} {st ho : List Int} (h : Two w B g1 c1 g2 c2 n st ho) {v : Value} {nn : Nat} {us : List Value} (hv : w.ownsRow B 65 3 v nn us) (hg : w.grownBy w' v.ownBlock) : Two w' B g1 c1 g2 c2 n st ho :=
  h.only (Only.of_grown hg) (fun e => own_two hv h.own1 (by decide) g1 e.symm rfl) (fun e => own_two hv h.own2 (by decide) g2 e.symm rfl)
theorem fl_push (fl : List Fl) (x : Fl) : (fl ++ [x]).flatMap Fl.enc = fl.flatMap Fl.enc ++ x.enc := by simp
theorem bd_after2 : ∀ (xs : List Sh) (st : List Int), (∀ y ∈ st, 0 ≤ y ∧ y ≤ 5) → (∀ x ∈ xs, 0 ≤ x.to ∧ x.to ≤ 5) → ∀ y ∈ afterS st xs, 0 ≤ y ∧ y ≤ 5
  | [], _, h, _ => h
  | x :: xs, st, h, hx => bd_after2 xs (putS x st) (bd_putS h (hx x List.mem_cons_self).1 (hx x List.mem_cons_self).2) fun y hy => hx y (List.mem_cons_of_mem _ hy)
/-- What the document's Faults leaves. -/
def RFlOut (w : World) (fl : List Fl) (e : Ending) (w' : World) : Prop := ∃ v, e = .returned v ∧ w'.ownsRow w.heap.size 65 3 v fl.length (fl.flatMap Fl.enc) ∧ Ext w w'
/-- The move ahead of a moment. -/
theorem last_move {l : List Mo} {k : Nat} (hk : k < l.length) : (l.take (k + 1)).getLast?.elim (-1) Mo.mv = moveAt l k := by
  rw [List.getLast?_take, if_neg (by omega), Nat.add_sub_cancel]
  unfold moveAt
  rw [List.getElem?_eq_getElem hk]
  rfl
theorem two_sep {w : World} {B g1 e1 g2 e2 h1 f1 h2 f2 n : Nat} {st ho st2 ho2 : List Int} {w5 : World} (h : Two w B g1 e1 g2 e2 n st ho) (k : Two w5 w.heap.size h1 f1 h2 f2 n st2 ho2) : ¬ (h1 = g1 ∨ h1 = g2) ∧ ¬ (h2 = g1 ∨ h2 = g2) := by
  have a1 := (h.own1.lt g1 rfl).2
  have a2 := (h.own2.lt g2 rfl).2
  have a3 := (k.own1.lt h1 rfl).1
  have a4 := (k.own2.lt h2 rfl).1
  omega

set_option maxRecDepth 100000 in
set_option maxHeartbeats 16000000 in
theorem refFaults_any (T R H Re Ca S B : Int) (hok : Okay T R H Re Ca S B) (s : Nat) (hS : S = s) (u m : Nat) (hmul : R * H = (m : Int)) (A1 : Option Addr) (n1 c1 : Nat) (A2 : Option Addr) (n2 c2 : Nat) (A3 : Option Addr) (n3 c3 : Nat) (A4 : Option Addr) (n4 c4 : Nat) (tr : List Ac) (sh : List Sh) (l : List Mo) (w : World)
    (h2 : Arr Ac.enc w A2 n2 tr) (h3 : Arr Sh.enc w A3 n3 sh) (b23 : n2 + n3 ≤ 1048576) (hc : Cov tr sh l) (hl0 : ∀ mo ∈ l, 0 ≤ mo.mv) (hll : l.length ≤ 1048576)
    (htr : ∀ a ∈ tr, 0 ≤ a.ad ∧ a.ad < sumOf R H S B 13) (hsh : ∀ x ∈ sh, 0 ≤ x.sl ∧ x.sl < s ∧ 0 ≤ x.fr ∧ x.fr ≤ 5 ∧ 0 ≤ x.to ∧ x.to ≤ 5) :
    Calls Try.prog 84 #[(.agg #[.int .i64 T, .int .i64 R, .int .i64 H, .int .i64 Re, .int .i64 Ca, .int .i64 S, .int .i64 B]), .int .i64 u, .agg #[.slice A1 n1 c1, .slice A2 n2 c2, .slice A3 n3 c3, .slice A4 n4 c4]] w (RFlOut w (refFl R H S B (sumOf R H S B 8) s u m tr sh l)) := by
  have H2 := Lib.hid h2
  have H3 := Lib.hid h3
  have Hc := Lib.hid hc
  have Hl0 := Lib.hid hl0
  have Htr := Lib.hid htr
  have Hsh := Lib.hid hsh
  have Hok := Lib.hid hok
  have HS := Lib.hid hS
  have hs1 : 1 ≤ s := by unfold Okay at hok; omega
  have hs2 : s ≤ 1024 := by unfold Okay at hok; omega
  have Hsl : Hid (∀ x ∈ sh, 0 ≤ x.sl ∧ x.sl < s) := fun x hx => ⟨(hsh x hx).1, (hsh x hx).2.1⟩
  have Hnx := Lib.hid fun (mv : Int) (w : World) (h2 : Arr Ac.enc w A2 n2 tr) (h3 : Arr Sh.enc w A3 n3 sh) => refNext_any A1 n1 c1 A2 n2 c2 A3 n3 c3 A4 n4 c4 tr sh mv w h2 h3 (by omega) (by omega)
  have Hlaw := Lib.hid (next_law hc hl0)
  have Hhe := Lib.hid fun (t j : Nat) (y : Sh) (w : World) (h2 : Arr Ac.enc w A2 n2 tr) (h3 : Arr Sh.enc w A3 n3 sh) (ht : t < n3) (hy : sh[t]? = some y) (hj : j < s) => refHeld_any T R H Re Ca S B hok s hS u m hmul A1 n1 c1 A2 n2 c2 A3 n3 c3 A4 n4 c4 tr sh t j y w h2 h3 ht hy hj (by omega) (by omega)
  have Hst := Lib.hid fun (mv : Int) (w : World) (hm : Arr Sh.enc w A3 n3 sh) => refStates_any T R H Re Ca S B s hS hs1 hs2 u A1 n1 c1 A2 n2 c2 A3 n3 c3 A4 n4 c4 sh mv w hm (by omega) (fun x hx => ⟨(hsh x hx).1, (hsh x hx).2.1⟩)
  have Hbe := Lib.hid fun (mv : Int) (w : World) (hm : Arr Sh.enc w A3 n3 sh) => refBehind_any T R H Re Ca S B s hS hs1 hs2 u A1 n1 c1 A2 n2 c2 A3 n3 c3 A4 n4 c4 sh mv w hm (by omega) (fun x hx => ⟨(hsh x hx).1, (hsh x hx).2.1⟩)
  have Hso := Lib.hid fun (a : Int) (w : World) (h0 : 0 ≤ a) (h1 : a < sumOf R H S B 13) => slotOf_any T R H Re Ca S B a hok h0 h1 w
  have Htop : Hid (∃ top : Int, ∀ k : Nat, moveAt l k ≤ top) := by
    refine ⟨l.foldl (fun a m => max a m.mv) (-1), fun k => ?_⟩
    have key : ∀ (l : List Mo) (a : Int), a ≤ l.foldl (fun a m => max a m.mv) a ∧ ∀ m ∈ l, m.mv ≤ l.foldl (fun a m => max a m.mv) a := by
      intro l
      induction l with
      | nil => intro a; exact ⟨Int.le_refl _, fun m hm => by simp at hm⟩
      | cons x l ih =>
        intro a
        obtain ⟨i1, i2⟩ := ih (max a x.mv)
        refine ⟨Int.le_trans (Int.le_max_left _ _) i1, fun m hm => ?_⟩
        rcases List.mem_cons.1 hm with rfl | hm
        · exact Int.le_trans (Int.le_max_right _ _) i1
        · exact i2 m hm
    unfold moveAt
    cases hk : l[k]? with
    | none => exact (key l (-1)).1
    | some mo => exact (key l (-1)).2 mo (List.mem_of_getElem? hk)
  clear h2 h3 hc hl0 htr hsh hok hS hmul
  obtain ⟨top, Htop⟩ := Htop.out
  have Htop := Lib.hid Htop
  generalize hres : refFl R H S B (sumOf R H S B 8) s u m tr sh l = res
  have Hres := Lib.hid hres
  clear hres
  go_enter Try.func84, Try.ntmps84
  go_upto_region 1 with fail
  obtain ⟨w0, hw0, hC, hR, hE, hlt0⟩ := enter2 w (.cells (cfgV T R H Re Ca S B) 23) (.cells #[.slice A1 n1 c1, .slice A2 n2 c2, .slice A3 n3 c3, .slice A4 n4 c4] 48)
  rw [hw0]
  have HE := Lib.hid hE
  have H20 := Lib.hid (H2.out.ext hE)
  have H30 := Lib.hid (H3.out.ext hE)
  have HC := Lib.hid hC
  have HR := Lib.hid hR
  obtain ⟨d0, d1, d2, d3, d4, d5, d6⟩ := Lat.cfg hC
  obtain ⟨r0, r1, r2, r3⟩ := Lat.run hR
  obtain ⟨k0, hk0⟩ := lat_self w0
  rw [hk0]
  clear hw0 hC hR hE hk0 hlt0
  go_wp2_with fail
  refine (Hnx.out (-1) _ (H20.out.ext k0.ok) (H30.out.ext k0.ok)).mono ?_
  rintro e w1 ⟨rfl, e1⟩
  obtain ⟨k1, rfl⟩ := lat_next k0 e1
  have hn0 : nextF tr sh (-1) = moveAt l 0 := Hlaw.out 0 (Nat.zero_le _)
  rw [hn0]
  clear e1 k0 hn0
  go_wp2_with fail
  go_loopw [7, 8] (fun s7 s8 wr => ∃ (k : Lat w0) (i : Nat) (fl : List Fl), wr = k.world ∧ i ≤ l.length ∧ s8 = .int .i64 (moveAt l i) ∧ Hid (fl = refFl R H S B (sumOf R H S B 8) s u m tr sh (l.take i)) ∧ Hid (k.world.ownsRow w0.heap.size 65 3 s7 fl.length (fl.flatMap Fl.enc)) ∧ Hid (fl.length ≤ i * 2097152)) (fun _ s_ _ => if intOf s_ < 0 then 0 else (top + 1 - intOf s_).toNat)
  case atStart => exact ⟨k1, 0, [], rfl, by omega, rfl, rfl, World.ownsRow_nil _ _ _ _, Nat.zero_le _⟩
  case round =>
    clear k1
    obtain ⟨k, i, fl, rfl, hi, rfl, Hfl, HO, Hlen⟩ := hrel
    by_cases hlt : i < l.length
    · obtain ⟨mo, hmo⟩ : ∃ mo, l[i]? = some mo := ⟨_, List.getElem?_eq_getElem hlt⟩
      have hmv : moveAt l i = mo.mv := by unfold moveAt; rw [hmo]; rfl
      have hmv0 : 0 ≤ mo.mv := Hl0.out mo (List.mem_of_getElem? hmo)
      have Hmo : Hid (refFl R H S B (sumOf R H S B 8) s u m tr sh (l.take (i + 1)) = rMoment R H S B (sumOf R H S B 8) s u m tr sh fl mo.mv) := by
        show _ = _
        unfold refFl
        rw [List.take_add_one, hmo, List.foldl_append, Hfl.out]
        rfl
      have hlast : (l.take (i + 1)).getLast?.elim (-1) Mo.mv = mo.mv := (last_move hlt).trans hmv
      have Hnext : Hid (nextF tr sh mo.mv = moveAt l (i + 1)) := by
        have h := Hlaw.out (i + 1) hlt
        rw [hlast] at h
        exact h
      have hup : moveAt l (i + 1) < 0 ∨ mo.mv < moveAt l (i + 1) := by
        by_cases h : i + 1 < l.length
        · right
          have h1 := List.pairwise_iff_getElem.1 Hc.out.up i (i + 1) hlt h (by omega)
          have h2 : l[i] = mo := by
            rw [List.getElem?_eq_getElem hlt] at hmo
            exact Option.some.inj hmo
          unfold moveAt
          rw [List.getElem?_eq_getElem h]
          rw [h2] at h1
          exact h1
        · left
          unfold moveAt
          rw [List.getElem?_eq_none (by omega)]
          decide
      have htp1 := Htop.out i
      have htp2 := Htop.out (i + 1)
      rw [hmv] at htp1 ⊢
      have Hm3 : Hid (mo.mv ≤ top ∧ (moveAt l (i + 1) < 0 ∨ (mo.mv < moveAt l (i + 1) ∧ moveAt l (i + 1) ≤ top))) := by
        show _ ∧ _
        omega
      clear hmo hmv hlast hup htp1 htp2
      obtain ⟨mv', hmv'⟩ : ∃ z, moveAt l (i + 1) = z := ⟨_, rfl⟩
      rw [hmv'] at Hnext Hm3
      have Hmv' := Lib.hid hmv'
      clear hmv'
      generalize mo.mv = mv at *
      clear mo
      go_wp2_with fail
      refine (Hst.out mv _ (H30.out.ext k.ok)).mono ?_
      rintro e w1 ⟨g1, e1, g2, e2, rfl, hT, x1⟩
      obtain ⟨k1, hk1⟩ := lat_next k x1
      have HT1 := Lib.hid (⟨own_base hT.own1 k.size, own_base hT.own2 k.size⟩ : Two w1 w0.heap.size g1 e1 g2 e2 s _ _)
      have HO1 := Lib.hid (own_ext HO.out x1)
      subst hk1
      clear hT x1 HO
      go_wp2_with fail
      refine (Hbe.out mv _ (H30.out.ext k1.ok)).mono ?_
      rintro e w2 ⟨h1, f1, h2, f2, rfl, hT, x2⟩
      obtain ⟨k2, hk2⟩ := lat_next k1 x2
      have Hsep := Lib.hid (two_sep HT1.out hT)
      have HT2 := Lib.hid (⟨own_base hT.own1 k1.size, own_base hT.own2 k1.size⟩ : Two w2 w0.heap.size h1 f1 h2 f2 s _ _)
      have HT12 := Lib.hid (HT1.out.ext x2)
      have HO2 := Lib.hid (own_ext HO1.out x2)
      subst hk2
      clear hT x2 HT1 HO1 k1 k
      have hb1 : Hid (∀ y ∈ afterS (beginS s u) (belowM sh mv), 0 ≤ y ∧ y ≤ 5) := bd_after2 _ _ (bd_beginS s u) fun x hx => (Hsh.out x (List.mem_filter.1 hx).1).2.2.2.2
      have hb2 : Hid (∀ y ∈ afterS (beginS s u) (uptoM sh mv), 0 ≤ y ∧ y ≤ 5) := bd_after2 _ _ (bd_beginS s u) fun x hx => (Hsh.out x (List.mem_filter.1 hx).1).2.2.2.2
      unfold rMoment at Hmo
      generalize afterS (beginS s u) (belowM sh mv) = st at *
      generalize afterH (List.replicate s (-1)) (belowM sh mv) = ho at *
      generalize afterS (beginS s u) (uptoM sh mv) = st2 at *
      generalize afterH (List.replicate s (-1)) (uptoM sh mv) = ho2 at *
      go_wp2_with fail
      obtain ⟨wo, hwo⟩ : ∃ wo : World, wo = k2.world := ⟨_, rfl⟩
      go_loopw [7, 13] (fun s7 s13 wr => ∃ (k : Lat w0) (i2 : Nat) (fl2 : List Fl), wr = k.world ∧ i2 ≤ n2 ∧ s13 = .int .i64 i2 ∧ Hid (fl2 = fl ++ rTouch R H S B st ho st2 ho2 mv (tr.take i2)) ∧ Hid (k.world.ownsRow w0.heap.size 65 3 s7 fl2.length (fl2.flatMap Fl.enc)) ∧ Hid (Two k.world w0.heap.size g1 e1 g2 e2 s st ho) ∧ Hid (Two k.world w0.heap.size h1 f1 h2 f2 s st2 ho2) ∧ Hid (fl2.length ≤ i * 2097152 + i2)) (fun _ s_ _ => n2 - (intOf s_).toNat)
      case atStart => exact ⟨k2, 0, fl, rfl, by omega, rfl, (List.append_nil fl).symm, HO2, HT12, HT2, Nat.le_trans Hlen.out (by omega)⟩
      case round =>
        clear HO2 HT12 HT2 hwo wo k2
        obtain ⟨k, i2, fl2, rfl, hi2, rfl, Hf2, HO, HTa, HTb, Hl2⟩ := hrel
        by_cases hlt2 : i2 < n2
        · obtain ⟨ba, off, x, hAx, hb, hx, x0, x1, x2, x3, x4, x5, x6⟩ := Ac.at_ H20.out hlt2
          have z1 : (i2 : Int) < (n2 : Int) := by omega
          have z0 : (0 : Int) ≤ (i2 : Int) := by omega
          have Hax := Lib.hid (Htr.out x (List.mem_of_getElem? hx.out))
          have Hstep : Hid (fl ++ rTouch R H S B st ho st2 ho2 mv (tr.take (i2 + 1)) = fl2 ++ oneT R H S B st ho st2 ho2 mv x) := by
            show _ = _
            unfold rTouch
            rw [List.take_add_one, hx.out, List.flatMap_append, ← List.append_assoc, Hf2.out]
            simp [rTouch]
          subst hAx
          go_upto_region 11 with fail
          obtain ⟨w3, hw3, hX, hE3, hlt3⟩ := enter1 k.world (.cells #[.int .i64 x.mv, .int .i64 x.th, .int .i64 x.kd, .int .i64 x.ad, .int .u64 x.od, .int .u64 x.nw, .int .u64 x.sw] 129)
          rw [hw3]
          clear x0 x1 x2 x3 x4 x5 x6
          have HX3 := Lib.hid (Ext.next k.ok hE3)
          have HO3 := Lib.hid (own_ext HO.out hE3)
          have HTa3 := Lib.hid (HTa.out.ext hE3)
          have HTb3 := Lib.hid (HTb.out.ext hE3)
          obtain ⟨x0, x1, x2, x3, x4, x5, x6⟩ := Ac.boxed hX
          obtain ⟨d0, d1, d2, d3, d4, d5, d6⟩ := Lat.cfg (ext_blk HX3.out HC.out)
          obtain ⟨k3, hk3⟩ := lat_self w3
          rw [hk3]
          generalize k.world.heap.size = px at *
          clear hw3 hX hE3 hk3 hlt3 HO HTa HTb hx
          go_wp2_with fail
          refine (Hso.out x.ad _ Hax.out.1 Hax.out.2).mono ?_
          rintro e w4 ⟨rfl, e4⟩
          obtain ⟨k4, rfl⟩ := lat_next k3 e4
          clear e4 k3 d0 d1 d2 d3 d4 d5 d6
          have hslb := slotF_bd (R := R) (H := H) (S := S) (B := B) (a := x.ad) (by have := HS.out; omega)
          have Hone : Hid (oneT R H S B st ho st2 ho2 mv x = if x.mv = mv then touchG (slotF R H S B x.ad) st ho st2 ho2 mv x.th else []) := rfl
          generalize slotF R H S B x.ad = sl at *
          have hskip : (oneT R H S B st ho st2 ho2 mv x = [] ∧ (x.mv ≠ mv ∨ (x.mv = mv ∧ sl < 0))) ∨ (x.mv = mv ∧ 0 ≤ sl) := by
            by_cases h : x.mv = mv
            · by_cases h' : sl < 0
              · refine .inl ⟨?_, .inr ⟨h, h'⟩⟩
                rw [Hone.out, if_pos h]
                exact if_pos h'
              · exact .inr ⟨h, by omega⟩
            · exact .inl ⟨by rw [Hone.out]; exact if_neg h, .inl h⟩
          rcases hskip with ⟨hnil, h1 | ⟨h1, h2⟩⟩ | ⟨h1, h2⟩
          case' inl.inl => have f1 : (x.mv != mv) = true := by simpa using h1
          case' inl.inr =>
            have f1 : (x.mv != mv) = false := by simpa using h1
            have f2 : decide (sl < 0) = true := decide_eq_true h2
          case inl.inl | inl.inr =>
            (try clear h2)
            clear h1
            rw [hnil, List.append_nil] at Hstep
            have HO9 := Lib.hid (own_ext HO3.out k4.ok)
            have HTa9 := Lib.hid (HTa3.out.ext k4.ok)
            have HTb9 := Lib.hid (HTb3.out.ext k4.ok)
            have Hl9 : Hid (fl2.length ≤ i * 2097152 + (i2 + 1)) := Nat.le_trans Hl2.out (by omega)
            clear hnil Hone
            go_wp2_with fail
            obtain ⟨k9, hk9⟩ := lat_of (Ext.next HX3.out k4.ok)
            rw [hk9] at HO9 HTa9 HTb9 ⊢
            clear hk9
            go_roundw
            case rel => exact ⟨k9, i2 + 1, fl2, rfl, by omega, by go_num, Hstep.out.symm, HO9, HTa9, HTb9, Hl9⟩
            case measure => simp [intOf]; omega
          case inr =>
            have f1 : (x.mv != mv) = false := by simpa using h1
            have f2 : decide (sl < 0) = false := decide_eq_false (by omega)
            obtain ⟨j, hj⟩ : ∃ j : Nat, sl = (j : Int) := ⟨sl.toNat, by omega⟩
            subst hj
            have hjs : j < s := by have := HS.out; omega
            have hj1 : (j : Int) < (s : Int) := by omega
            have hj0 : (0 : Int) ≤ (j : Int) := by omega
            obtain ⟨a1, ha1, p1⟩ := row_lat (HTa3.out).own1 hjs
            obtain ⟨a2, ha2, p2⟩ := row_lat (HTa3.out).own2 hjs
            obtain ⟨a3, ha3, p3⟩ := row_lat (HTb3.out).own1 hjs
            obtain ⟨a4, ha4, p4⟩ := row_lat (HTb3.out).own2 hjs
            have Hto : Hid (oneT R H S B st ho st2 ho2 mv x = if openF a1 a2 x.th = true then [] else if openF a3 a4 x.th = true then [] else [⟨if a1 = 2 then 2 else 1, mv, (j : Int)⟩]) := by
              show _ = _
              rw [Hone.out, if_pos h1]
              exact touchG_at ha1 ha2 ha3 ha4
            have hq1 := hb1.out a1 (List.mem_of_getElem? ha1)
            have hq3 := hb2.out a3 (List.mem_of_getElem? ha3)
            have Ho1 := Lib.hid fun w => refOpen_any a1 a2 x.th hq1.1 hq1.2 w
            have Ho2 := Lib.hid fun w => refOpen_any a3 a4 x.th hq3.1 hq3.2 w
            clear ha1 ha2 ha3 ha4 h1 h2 Hone hq1 hq3 hslb
            generalize openF a1 a2 x.th = o1 at *
            generalize openF a3 a4 x.th = o2 at *
            go_upto_region 13 with fail
            have hoo : (o1 = true ∧ oneT R H S B st ho st2 ho2 mv x = []) ∨ (o1 = false ∧ o2 = true ∧ oneT R H S B st ho st2 ho2 mv x = []) ∨ (o1 = false ∧ o2 = false ∧ oneT R H S B st ho st2 ho2 mv x = [⟨if a1 = 2 then 2 else 1, mv, (j : Int)⟩]) := by
              have h := Hto.out
              cases o1 <;> cases o2 <;> simp at h <;> simp [h]
            rcases hoo with ⟨rfl, hnil⟩ | ⟨rfl, rfl, hnil⟩ | ⟨rfl, rfl, hnil⟩
            all_goals
              refine wp_region_cls (Ext w3) (Ext.drew1 k4.ok) (by kernel_rfl) (by kernel_rfl) ?_
              repeat (go_big_quiet_step (first | with_reducible exact calls_cls_same (Ho1.out _) | with_reducible exact calls_cls_same (Ho2.out _)))
              refine wpQuiet_nil ?_
              rintro _ ⟨k5, rfl⟩
              rw [hnil] at Hstep
              clear Hto hnil
            case inl | inr.inl =>
              rw [List.append_nil] at Hstep
              have HO9 := Lib.hid (own_ext HO3.out k5.ok)
              have HTa9 := Lib.hid (HTa3.out.ext k5.ok)
              have HTb9 := Lib.hid (HTb3.out.ext k5.ok)
              have Hl9 : Hid (fl2.length ≤ i * 2097152 + (i2 + 1)) := Nat.le_trans Hl2.out (by omega)
              go_wp2_with fail
              obtain ⟨k9, hk9⟩ := lat_of (Ext.next HX3.out k5.ok)
              rw [hk9] at HO9 HTa9 HTb9 ⊢
              clear hk9
              go_roundw
              case rel => exact ⟨k9, i2 + 1, fl2, rfl, by omega, by go_num, Hstep.out.symm, HO9, HTa9, HTb9, Hl9⟩
              case measure => simp [intOf]; omega
            case inr.inr =>
              have hoK := own_ext HO3.out k5.ok
              have hsz := (Ext.next HX3.out k5.ok).size
              have hlen := Hl2.out
              have hip : i * 2097152 ≤ 1048576 * 2097152 := Nat.mul_le_mul_right _ (by omega)
              rcases Decidable.em (a1 = 2) with h2 | h2
              case' inl => have f3 : (a1 == 2) = true := by simpa using h2
              case' inr => have f3 : (a1 == 2) = false := by simpa using h2
              all_goals
                first | rw [if_pos h2] at Hstep | rw [if_neg h2] at Hstep
                clear h2
                go_wp2_with (at_builtin; refine wpList_push _ rfl _ _ 58 rfl w0.heap.size 65 3 24 elemFault Try.underlying58 _ _ _ rfl hoK _ rfl rfl (by simp [Value.oneCell']) (by omega) hsz ?_; intro v7 w7 hown7 hgrow7 hat7)
                have hE9 : Ext w0 w7 := (Ext.next HX3.out k5.ok).only (Only.of_grown hgrow7) fun q hq => (hoK.lt q hq.symm).1
                have HTa9 := Lib.hid ((HTa3.out.ext k5.ok).grown hoK hgrow7)
                have HTb9 := Lib.hid ((HTb3.out.ext k5.ok).grown hoK hgrow7)
                have HO9 := Lib.hid hown7
                have Hl9 : Hid (fl2.length + 1 ≤ i * 2097152 + (i2 + 1)) := by show _ ≤ _; omega
                obtain ⟨k9, hk9⟩ := lat_of hE9
                rw [hk9] at HO9 HTa9 HTb9 ⊢
                clear hk9 hown7 hgrow7 hat7 hoK hsz hE9 hlen hip
                go_wp2_with fail
                go_roundw
                case rel => exact ⟨k9, i2 + 1, _, rfl, by omega, by go_num, Hstep.out.symm, by rw [List.length_append, fl_push]; exact HO9.out, HTa9, HTb9, by rw [List.length_append]; exact Hl9.out⟩
                case measure => simp [intOf]; omega
        · obtain rfl : n2 = i2 := by omega
          have Hf3 : Hid (fl2 = fl ++ rTouch R H S B st ho st2 ho2 mv tr) := by
            have h := Hf2.out
            rw [List.take_of_length_le (by rw [H20.out.1]; exact Nat.le_refl _)] at h
            exact h
          rw [← Hf3.out] at Hmo
          have Hl3 : Hid (fl2.length ≤ i * 2097152 + n2) := Nat.le_trans Hl2.out (by omega)
          clear Hf2 Hf3 Hl2 hb1 hb2
          go_wp2_with fail
          obtain ⟨wi, hwi⟩ : ∃ wi : World, wi = k.world := ⟨_, rfl⟩
          go_loopw [7, 17] (fun s7 s17 wr => ∃ (k : Lat w0) (i3 : Nat) (q : RS), wr = k.world ∧ i3 ≤ n3 ∧ s17 = .int .i64 i3 ∧ Hid (q = (sh.take i3).foldl (shiftR (heldR (sumOf R H S B 8) m s u tr) mv) ⟨st, ho, fl2, []⟩) ∧ Hid (k.world.ownsRow w0.heap.size 65 3 s7 q.fl.length (q.fl.flatMap Fl.enc)) ∧ Hid (Two k.world w0.heap.size g1 e1 g2 e2 s q.st q.ho) ∧ Hid (q.fl.length ≤ fl2.length + 2 * i3)) (fun _ s_ _ => n3 - (intOf s_).toNat)
          case atStart => exact ⟨k, 0, ⟨st, ho, fl2, []⟩, rfl, by omega, rfl, rfl, HO, HTa, Nat.le_refl _⟩
          case round =>
            clear HO HTa HTb hwi wi k
            obtain ⟨k, i3, q, rfl, hi3, rfl, Hq, HO, HTa, Hlq⟩ := hrel
            by_cases hlt3 : i3 < n3
            · obtain ⟨ba, off, x, hAx, hb, hx, x0, x1, x2, x3, x4⟩ := Sh.at_ H30.out hlt3
              have z1 : (i3 : Int) < (n3 : Int) := by omega
              have z0 : (0 : Int) ≤ (i3 : Int) := by omega
              obtain ⟨y0, y1, y2, y3, y4, y5⟩ := Hsh.out x (List.mem_of_getElem? hx.out)
              have Hpre : Hid (q.pre = sh.take i3) := by
                show _ = _
                rw [Hq.out, shiftR_pre]
                rfl
              have Hstep : Hid ((sh.take (i3 + 1)).foldl (shiftR (heldR (sumOf R H S B 8) m s u tr) mv) ⟨st, ho, fl2, []⟩ = shiftR (heldR (sumOf R H S B 8) m s u tr) mv q x) := by
                show _ = _
                rw [List.take_add_one, hx.out, List.foldl_append, ← Hq.out]
                rfl
              obtain ⟨xmv, xth, xsl, xfr, xto⟩ := x
              dsimp only at x0 x1 x2 x3 x4 y0 y1 y2 y3 y4 y5
              obtain ⟨j, hj⟩ : ∃ j : Nat, xsl = (j : Int) := ⟨xsl.toNat, by omega⟩
              subst hj
              have hjs : j < s := by have := HS.out; omega
              have hj1 : (j : Int) < (s : Int) := by omega
              have hj0 : (0 : Int) ≤ (j : Int) := by omega
              subst hAx
              go_upto_region 22 with fail
              obtain ⟨w3, hw3, hX, hE3, hlt4⟩ := enter1 k.world (.cells #[.int .i64 xmv, .int .i64 xth, .int .i64 j, .int .i64 xfr, .int .i64 xto] 136)
              rw [hw3]
              clear x0 x1 x2 x3 x4
              have HX3 := Lib.hid (Ext.next k.ok hE3)
              have HO3 := Lib.hid (own_ext HO.out hE3)
              have HTa3 := Lib.hid (HTa.out.ext hE3)
              have HXb := Lib.hid hX
              obtain ⟨x0, x1, x2, x3, x4⟩ := Sh.boxed hX
              obtain ⟨k3, hk3⟩ := lat_self w3
              rw [hk3]
              generalize k.world.heap.size = px at *
              clear hw3 hX hE3 hk3 hlt4 HO HTa y0 y1
              by_cases hmv : xmv = mv
              · have f1 : (xmv != mv) = false := by simpa using hmv
                obtain ⟨h, hh, ph⟩ := row_lat (HTa3.out).own2 hjs
                have Hcf : Hid (chF1 mv q.ho ⟨xmv, xth, j, xfr, xto⟩ q.fl = if allowF xfr xto (decide (h = xth)) = true then q.fl else q.fl ++ [⟨3, mv, j⟩]) := by
                  show _ = _
                  unfold chF1
                  show (if allowF xfr xto (decide (q.ho.getD (j : Int).toNat 0 = xth)) = true then _ else _) = _
                  rw [Int.toNat_natCast, List.getD_eq_getElem?_getD, hh]
                  rfl
                have Hst1 : Hid (shiftR (heldR (sumOf R H S B 8) m s u tr) mv q ⟨xmv, xth, j, xfr, xto⟩ = ⟨putS ⟨xmv, xth, j, xfr, xto⟩ q.st, putH ⟨xmv, xth, j, xfr, xto⟩ q.ho, chR2 mv (heldR (sumOf R H S B 8) m s u tr (sh.take i3) xmv j) ⟨xmv, xth, j, xfr, xto⟩ (chF1 mv q.ho ⟨xmv, xth, j, xfr, xto⟩ q.fl), q.pre ++ [⟨xmv, xth, j, xfr, xto⟩]⟩) := by
                  show _ = _
                  unfold shiftR
                  rw [if_pos hmv, Hpre.out]
                rw [Hst1.out] at Hstep
                have Hmay := Lib.hid fun w => refMay_right xmv xth j xfr xto h y2 y3 y4 y5 w
                have hl5 : (chF1 mv q.ho ⟨xmv, xth, j, xfr, xto⟩ q.fl).length ≤ q.fl.length + 1 := by
                  unfold chF1
                  split
                  · omega
                  · simp
                generalize allowF xfr xto (decide (h = xth)) = al at *
                generalize hfl3 : chF1 mv q.ho ⟨xmv, xth, j, xfr, xto⟩ q.fl = fl3 at *
                clear hh Hst1 hmv hfl3
                obtain ⟨A7, c7, rfl⟩ := own_form HO3.out
                go_upto_region 23 with fail
                refine wp_region_cls (Ext w3) (Ext.drew1 k3.ok) (by kernel_rfl) (by kernel_rfl) ?_
                repeat (go_big_quiet_step (exact calls_cls (keeps_ext _) (Hmay.out _)))
                refine wpQuiet_nil ?_
                rintro _ ⟨k4, rfl⟩
                clear ph Hmay
                have hlen := Hlq.out
                have hlen3 := Hl3.out
                have hip : i * 2097152 ≤ 1048576 * 2097152 := Nat.mul_le_mul_right _ (by omega)
                have hq9 : q.fl.length ≤ 2300000000000 := by omega
                have hq10 : fl3.length ≤ 2300000000001 := by omega
                clear hip hlen hlen3
                go_upto_if 125 with fail
                go_cut [7] (fun s7 wx => Hid (wx.ownsRow w0.heap.size 65 3 s7 fl3.length (fl3.flatMap Fl.enc)) ∧ Hid (Only (fun b => (Value.slice A7 q.fl.length c7).ownBlock = some b) w3 wx))
                case first =>
                  cases al with
                  | true =>
                    have HE0 : Hid (fl3 = q.fl) := Hcf.out
                    go_wp2_with fail
                    go_meet
                    case rel => exact ⟨by rw [HE0.out]; exact own_ext HO3.out k4.ok, Only.of_ext k4.ok⟩
                  | false =>
                    have HE0 : Hid (fl3 = q.fl ++ [⟨3, mv, j⟩]) := Hcf.out
                    have hoK := own_ext HO3.out k4.ok
                    have hsz := (Ext.next HX3.out k4.ok).size
                    go_wp2_with (at_builtin; refine wpList_push _ rfl _ _ 58 rfl w0.heap.size 65 3 24 elemFault Try.underlying58 _ _ _ rfl hoK _ rfl rfl (by simp [Value.oneCell']) (by omega) hsz ?_; intro v7 w7 hown7 hgrow7 hat7)
                    go_meet
                    case rel => exact ⟨by rw [HE0.out, List.length_append, fl_push]; exact hown7, (Only.of_ext (S := fun b => (Value.slice A7 q.fl.length c7).ownBlock = some b) k4.ok).trans ((Only.of_grown hgrow7).mono fun q _ h => h.symm) fun _ _ h => h⟩
                obtain ⟨HO5, HN5⟩ := hcut
                obtain ⟨w5, rfl⟩ : ∃ w5 : World, w5 = wc := ⟨_, rfl⟩
                have HX5 : Hid (Ext w0 w5) := HX3.out.only HN5.out fun b hb => (HO3.out.lt b hb).1
                have hXb5 : w5.heap[px]? = _ := (HN5.out.block px (blk_lt HXb.out) fun e => own_apart HO3.out HXb.out (by decide) e).trans HXb.out
                have HTa5 := Lib.hid (HTa3.out.only HN5.out (fun e => own_two HO3.out HTa3.out.own1 (by decide) g1 e rfl) (fun e => own_two HO3.out HTa3.out.own2 (by decide) g2 e rfl))
                obtain ⟨x0, x1, x2, x3, x4⟩ := Sh.boxed hXb5
                obtain ⟨d0, d1, d2, d3, d4, d5, d6⟩ := Lat.cfg (ext_blk HX5.out HC.out)
                obtain ⟨r0, r1, r2, r3⟩ := Lat.run (ext_blk HX5.out HR.out)
                have HXb5 := Lib.hid hXb5
                have Hhx := Lib.hid fun w h2 h3 => Hhe.out i3 j ⟨xmv, xth, j, xfr, xto⟩ w h2 h3 hlt3 hx.out hjs
                dsimp only at Hhx
                have Hr2 : Hid (chR2 mv (heldR (sumOf R H S B 8) m s u tr (sh.take i3) xmv j) ⟨xmv, xth, j, xfr, xto⟩ fl3 = if (xfr = 5 ∧ xto ≤ 1) ∧ heldR (sumOf R H S B 8) m s u tr (sh.take i3) xmv j = true then fl3 ++ [⟨4, mv, j⟩] else fl3) := rfl
                generalize heldR (sumOf R H S B 8) m s u tr (sh.take i3) xmv j = hb at *
                generalize hfl4 : chR2 mv hb ⟨xmv, xth, j, xfr, xto⟩ fl3 = fl4 at *
                clear hfl4 hXb5
                obtain ⟨k5, hk5⟩ := lat_self w5
                rw [hk5]
                clear hk5 k4 k3
                go_upto_region 25 with fail
                go_cut [149] (fun s_ wr => ∃ (qb : Bool) (k : Lat w5), s_ = .bool qb ∧ Hid (fl4 = if qb = true then fl3 ++ [⟨4, mv, j⟩] else fl3) ∧ wr = k.world)
                case first =>
                  rcases (by omega : xfr ≠ 5 ∨ (xfr = 5 ∧ ¬ xto ≤ 1) ∨ (xfr = 5 ∧ xto ≤ 1)) with h | ⟨h, h2⟩ | ⟨h, h2⟩
                  case' inl =>
                    have f2 : (xfr == 5) = false := by simpa using h
                    have HQ : Hid (fl4 = if false = true then fl3 ++ [⟨4, mv, j⟩] else fl3) := by
                      show _ = _
                      rw [Hr2.out, if_neg fun e => h e.1.1, if_neg (by decide)]
                    clear h
                  case' inr.inl =>
                    have f2 : (xfr == 5) = true := by simpa using h
                    have f3 : decide (xto ≤ 1) = false := by simpa using h2
                    have HQ : Hid (fl4 = if false = true then fl3 ++ [⟨4, mv, j⟩] else fl3) := by
                      show _ = _
                      rw [Hr2.out, if_neg fun e => h2 e.1.2, if_neg (by decide)]
                    clear h h2
                  case' inr.inr =>
                    have f2 : (xfr == 5) = true := by simpa using h
                    have f3 : decide (xto ≤ 1) = true := by simpa using h2
                    have HQ : Hid (fl4 = if hb = true then fl3 ++ [⟨4, mv, j⟩] else fl3) := by
                      show _ = _
                      rw [Hr2.out]
                      cases hb <;> simp [h, h2]
                    clear h h2
                  case inl | inr.inl =>
                    go_wp2_with fail
                    go_meet
                    case rel => exact ⟨_, k5, rfl, HQ, rfl⟩
                  case inr.inr =>
                    go_wp2_with fail
                    refine (Hhx.out _ (H20.out.ext (Ext.next HX5.out k5.ok)) (H30.out.ext (Ext.next HX5.out k5.ok))).mono ?_
                    rintro e w6 ⟨rfl, e6⟩
                    obtain ⟨k6, rfl⟩ := lat_next k5 e6
                    clear e6
                    go_wp2_with fail
                    go_meet
                    case rel => exact ⟨_, k6, rfl, HQ, rfl⟩
                obtain ⟨qb, k6, rfl, hqb, rfl⟩ := hcut
                clear k5 Hr2 Hhx d0 d1 d2 d3 d4 d5 d6 r0 r1 r2 r3
                obtain ⟨A8, c8, rfl⟩ := own_form HO5.out
                go_upto_if 149 with fail
                go_cut [7] (fun s7 wx => Hid (wx.ownsRow w0.heap.size 65 3 s7 fl4.length (fl4.flatMap Fl.enc)) ∧ Hid (Only (fun b => (Value.slice A8 fl3.length c8).ownBlock = some b) w5 wx))
                case first =>
                  cases qb with
                  | false =>
                    have HE0 : Hid (fl4 = fl3) := hqb.out
                    go_wp2_with fail
                    go_meet
                    case rel => exact ⟨by rw [HE0.out]; exact own_ext HO5.out k6.ok, Only.of_ext k6.ok⟩
                  | true =>
                    have HE0 : Hid (fl4 = fl3 ++ [⟨4, mv, j⟩]) := hqb.out
                    have hoK := own_ext HO5.out k6.ok
                    have hsz := (Ext.next HX5.out k6.ok).size
                    go_wp2_with (at_builtin; refine wpList_push _ rfl _ _ 58 rfl w0.heap.size 65 3 24 elemFault Try.underlying58 _ _ _ rfl hoK _ rfl rfl (by simp [Value.oneCell']) (by omega) hsz ?_; intro v7 w7 hown7 hgrow7 hat7)
                    go_meet
                    case rel => exact ⟨by rw [HE0.out, List.length_append, fl_push]; exact hown7, (Only.of_ext (S := fun b => (Value.slice A8 fl3.length c8).ownBlock = some b) k6.ok).trans ((Only.of_grown hgrow7).mono fun q _ h => h.symm) fun _ _ h => h⟩
                obtain ⟨HO7, HN7⟩ := hcut
                obtain ⟨w7, rfl⟩ : ∃ w7 : World, w7 = wc := ⟨_, rfl⟩
                have HX7 : Hid (Ext w0 w7) := HX5.out.only HN7.out fun b hb => (HO5.out.lt b hb).1
                have hXb7 : w7.heap[px]? = _ := (HN7.out.block px (blk_lt HXb5.out) fun e => own_apart HO5.out HXb5.out (by decide) e).trans HXb5.out
                have HTa7 := Lib.hid (HTa5.out.only HN7.out (fun e => own_two HO5.out HTa5.out.own1 (by decide) g1 e rfl) (fun e => own_two HO5.out HTa5.out.own2 (by decide) g2 e rfl))
                have hl7 : fl4.length ≤ fl3.length + 1 := by
                  have h := hqb.out
                  cases qb <;> simp at h <;> rw [h]
                  · omega
                  · simp
                clear x0 x1 x2 x3 x4
                obtain ⟨x0, x1, x2, x3, x4⟩ := Sh.boxed hXb7
                obtain ⟨k7, hk7⟩ := lat_self w7
                rw [hk7]
                clear hk7 hXb7 k6
                go_wp2_with fail
                refine (refPut_any w0.heap.size g1 e1 g2 e2 s q.st q.ho ⟨xmv, xth, j, xfr, xto⟩ j rfl hjs _ (HTa7.out.ext k7.ok)).mono ?_
                rintro e w8 ⟨rfl, hT8, o8⟩
                have HX8 : Ext w0 w8 := (Ext.next HX7.out k7.ok).only o8 fun q hq => by
                  rcases hq with rfl | rfl
                  · exact (HTa7.out.own1.lt q rfl).1
                  · exact (HTa7.out.own2.lt q rfl).1
                have HO8 := Lib.hid (own_only (own_ext HO7.out k7.ok) o8 fun b hb e => by
                  rcases e with rfl | rfl
                  · exact own_two HO7.out HTa7.out.own1 (by decide) b hb rfl
                  · exact own_two HO7.out HTa7.out.own2 (by decide) b hb rfl)
                have HT8 := Lib.hid hT8
                have Hl8 : Hid (fl4.length ≤ fl2.length + 2 * (i3 + 1)) := by have h1 := Hlq.out; show _ ≤ _; omega
                obtain ⟨k9, hk9⟩ := lat_of HX8
                rw [hk9] at HO8 HT8 ⊢
                clear hk9 hT8 o8 HX8 hq9 hq10 hl5 hl7
                go_wp2_with fail
                go_roundw
                case rel => exact ⟨k9, i3 + 1, ⟨_, _, fl4, _⟩, rfl, by omega, by go_num, Hstep.out.symm, HO8, HT8, Hl8⟩
                case measure => simp [intOf]; omega
              · have f1 : (xmv != mv) = true := by simpa using hmv
                have Hst1 : Hid (shiftR (heldR (sumOf R H S B 8) m s u tr) mv q ⟨xmv, xth, j, xfr, xto⟩ = ⟨q.st, q.ho, q.fl, q.pre ++ [⟨xmv, xth, j, xfr, xto⟩]⟩) := if_neg hmv
                rw [Hst1.out] at Hstep
                have HO9 := Lib.hid (own_ext HO3.out k3.ok)
                have HTa9 := Lib.hid (HTa3.out.ext k3.ok)
                have Hl9 : Hid (q.fl.length ≤ fl2.length + 2 * (i3 + 1)) := Nat.le_trans Hlq.out (by omega)
                clear hmv Hst1
                go_wp2_with fail
                obtain ⟨k9, hk9⟩ := lat_of (Ext.next HX3.out k3.ok)
                rw [hk9] at HO9 HTa9 ⊢
                clear hk9
                go_roundw
                case rel => exact ⟨k9, i3 + 1, ⟨_, _, q.fl, _⟩, rfl, by omega, by go_num, Hstep.out.symm, HO9, HTa9, Hl9⟩
                case measure => simp [intOf]; omega
            · obtain rfl : n3 = i3 := by omega
              have Hend : Hid (q.fl = refFl R H S B (sumOf R H S B 8) s u m tr sh (l.take (i + 1))) := by
                have h := Hq.out
                rw [List.take_of_length_le (by rw [H30.out.1]; exact Nat.le_refl _)] at h
                show _ = _
                rw [Hmo.out, ← h]
              have Hl9 : Hid (q.fl.length ≤ (i + 1) * 2097152) := by
                have h1 := Hlq.out
                have h2 := Hl3.out
                show _ ≤ _
                omega
              clear Hq
              go_wp2_with fail
              refine (Hnx.out mv _ (H20.out.ext k.ok) (H30.out.ext k.ok)).mono ?_
              rintro e w9 ⟨rfl, e9⟩
              obtain ⟨k9, hk9⟩ := lat_next k e9
              have HO9 := Lib.hid (own_ext HO.out e9)
              rw [hk9] at HO9 ⊢
              rw [Hnext.out]
              clear hk9 e9
              go_wp2_with fail
              go_roundw
              case rel => exact ⟨k9, i + 1, q.fl, rfl, by omega, by rw [Hmv'.out], Hend, HO9, Hl9⟩
              case measure =>
                have h := Hm3.out
                show (if mv' < 0 then 0 else (top + 1 - mv').toNat) < (if mv < 0 then 0 else (top + 1 - mv).toNat)
                rw [if_neg (show ¬ mv < 0 by omega)]
                split <;> omega
    · have hm1 : moveAt l i = -1 := by
        unfold moveAt
        rw [List.getElem?_eq_none (by omega)]
        rfl
      have HR : Hid (fl = res) := by
        have h := Hfl.out
        rw [List.take_of_length_le (by omega)] at h
        exact h.trans Hres.out
      rw [hm1]
      clear hm1
      rw [HR.out] at HO
      go_wp2_with fail
      go_ret
      exact ⟨_, rfl, own_base HO.out HE.out.size, Ext.next HE.out k.ok⟩

end Go.Proofs.Ytfbacopjookplaa
