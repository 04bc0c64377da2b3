/- The walks of the document's SameRun over a run and its copy. -/
import Derived.Test.YtfbacopjookplaaTrace
import Derived.Test.YtfbacopjookplaaEqual
namespace Go.Proofs.Ytfbacopjookplaa
open Go.RowKit

set_option maxHeartbeats 4000000 in
theorem sameCalls_any (A : Option Addr) (n c : Nat) (A' : Option Addr) (c' : Nat) (xs : List Cl) (w : World) (h1 : Arr Cl.enc w A n xs) (h2 : Arr Cl.enc w A' n xs) (hb1 : n ≤ 140737488355328) :
    Calls Try.prog 76 #[.slice A n c, .slice A' n c'] w fun e w' => e = .returned (.bool true) ∧ Ext w w' := by
  have H1 := Lib.hid h1
  have H2 := Lib.hid h2
  clear h1 h2
  refine start_lat fun k0 => ?_
  go_enter Try.func76, Try.ntmps76
  go_wp2_with fail
  go_loopw [5] (fun s5 wr => ∃ (k : Lat w) (i : Nat), wr = k.world ∧ i ≤ n ∧ s5 = .int .i64 i) (fun s _ => n - (intOf s).toNat)
  case atStart => exact ⟨k0, 0, rfl, by omega, rfl⟩
  case round =>
    obtain ⟨k, i, rfl, hi, rfl⟩ := hrel
    by_cases hlt : i < n
    · have g1 : (i : Int) < (n : Int) := by omega
      have hi0 : (0 : Int) ≤ (i : Int) := by omega
      obtain ⟨b, off, x, hA, hb, hx, x0, x1, x2, x3, x4, x5, x6, x7, x8⟩ := Cl.at_ H1.out hlt
      obtain ⟨b', off', x', hA', hb', hx', y0, y1, y2, y3, y4, y5, y6, y7, y8⟩ := Cl.at_ H2.out hlt
      have he := hx.out.symm.trans hx'.out
      injection he with he
      subst he
      subst hA hA'
      clear hx hx'
      go_upto_region 6 with fail
      refine wp_region_cls (Ext w) (Ext.drew1 k.ok) (by kernel_rfl) (by kernel_rfl) ?_
      repeat (go_big_quiet_step (fail))
      refine wpQuiet_nil ?_
      rintro _ ⟨k6, rfl⟩
      go_wp2_with fail
      go_roundw
      case rel => exact ⟨k6, i + 1, rfl, by omega, by go_num⟩
      case measure => simp [intOf]; omega
    · obtain rfl : n = i := by omega
      go_wp2_with fail
      go_ret
      exact ⟨rfl, k.ok⟩

set_option maxHeartbeats 4000000 in
theorem sameTrace_any (A : Option Addr) (n c : Nat) (A' : Option Addr) (c' : Nat) (xs : List Ac) (w : World) (h1 : Arr Ac.enc w A n xs) (h2 : Arr Ac.enc w A' n xs) (hb1 : n ≤ 140737488355328) :
    Calls Try.prog 77 #[.slice A n c, .slice A' n c'] w fun e w' => e = .returned (.bool true) ∧ Ext w w' := by
  have H1 := Lib.hid h1
  have H2 := Lib.hid h2
  clear h1 h2
  refine start_lat fun k0 => ?_
  go_enter Try.func77, Try.ntmps77
  go_wp2_with fail
  go_loopw [5] (fun s5 wr => ∃ (k : Lat w) (i : Nat), wr = k.world ∧ i ≤ n ∧ s5 = .int .i64 i) (fun s _ => n - (intOf s).toNat)
  case atStart => exact ⟨k0, 0, rfl, by omega, rfl⟩
  case round =>
    obtain ⟨k, i, rfl, hi, rfl⟩ := hrel
    by_cases hlt : i < n
    · have g1 : (i : Int) < (n : Int) := by omega
      have hi0 : (0 : Int) ≤ (i : Int) := by omega
      obtain ⟨b, off, x, hA, hb, hx, x0, x1, x2, x3, x4, x5, x6⟩ := Ac.at_ H1.out hlt
      obtain ⟨b', off', x', hA', hb', hx', y0, y1, y2, y3, y4, y5, y6⟩ := Ac.at_ H2.out hlt
      have he := hx.out.symm.trans hx'.out
      injection he with he
      subst he
      subst hA hA'
      clear hx hx'
      go_upto_region 6 with fail
      refine wp_region_cls (Ext w) (Ext.drew1 k.ok) (by kernel_rfl) (by kernel_rfl) ?_
      repeat (go_big_quiet_step (fail))
      refine wpQuiet_nil ?_
      rintro _ ⟨k6, rfl⟩
      go_wp2_with fail
      go_roundw
      case rel => exact ⟨k6, i + 1, rfl, by omega, by go_num⟩
      case measure => simp [intOf]; omega
    · obtain rfl : n = i := by omega
      go_wp2_with fail
      go_ret
      exact ⟨rfl, k.ok⟩

set_option maxHeartbeats 4000000 in
theorem sameShifts_any (A : Option Addr) (n c : Nat) (A' : Option Addr) (c' : Nat) (xs : List Sh) (w : World) (h1 : Arr Sh.enc w A n xs) (h2 : Arr Sh.enc w A' n xs) (hb1 : n ≤ 140737488355328) :
    Calls Try.prog 78 #[.slice A n c, .slice A' n c'] w fun e w' => e = .returned (.bool true) ∧ Ext w w' := by
  have H1 := Lib.hid h1
  have H2 := Lib.hid h2
  clear h1 h2
  refine start_lat fun k0 => ?_
  go_enter Try.func78, Try.ntmps78
  go_wp2_with fail
  go_loopw [5] (fun s5 wr => ∃ (k : Lat w) (i : Nat), wr = k.world ∧ i ≤ n ∧ s5 = .int .i64 i) (fun s _ => n - (intOf s).toNat)
  case atStart => exact ⟨k0, 0, rfl, by omega, rfl⟩
  case round =>
    obtain ⟨k, i, rfl, hi, rfl⟩ := hrel
    by_cases hlt : i < n
    · have g1 : (i : Int) < (n : Int) := by omega
      have hi0 : (0 : Int) ≤ (i : Int) := by omega
      obtain ⟨b, off, x, hA, hb, hx, x0, x1, x2, x3, x4⟩ := Sh.at_ H1.out hlt
      obtain ⟨b', off', x', hA', hb', hx', y0, y1, y2, y3, y4⟩ := Sh.at_ H2.out hlt
      have he := hx.out.symm.trans hx'.out
      injection he with he
      subst he
      subst hA hA'
      clear hx hx'
      go_upto_region 6 with fail
      refine wp_region_cls (Ext w) (Ext.drew1 k.ok) (by kernel_rfl) (by kernel_rfl) ?_
      repeat (go_big_quiet_step (fail))
      refine wpQuiet_nil ?_
      rintro _ ⟨k6, rfl⟩
      go_wp2_with fail
      go_roundw
      case rel => exact ⟨k6, i + 1, rfl, by omega, by go_num⟩
      case measure => simp [intOf]; omega
    · obtain rfl : n = i := by omega
      go_wp2_with fail
      go_ret
      exact ⟨rfl, k.ok⟩

set_option maxHeartbeats 4000000 in
theorem sameWords_any (A : Option Addr) (n c : Nat) (A' : Option Addr) (c' : Nat) (xs : List Int) (w : World) (h1 : Rd w A (xs.map (Value.int .u64))) (h2 : Rd w A' (xs.map (Value.int .u64))) (hl : xs.length = n) (hb1 : n ≤ 140737488355328) :
    Calls Try.prog 79 #[.slice A n c, .slice A' n c'] w fun e w' => e = .returned (.bool true) ∧ Ext w w' := by
  have H1 := Lib.hid h1
  have H2 := Lib.hid h2
  have HL := Lib.hid hl
  clear h1 h2 hl
  refine start_lat fun k0 => ?_
  go_enter Try.func79, Try.ntmps79
  go_wp2_with fail
  go_loopw [5] (fun s5 wr => ∃ (k : Lat w) (i : Nat), wr = k.world ∧ i ≤ n ∧ s5 = .int .i64 i) (fun s _ => n - (intOf s).toNat)
  case atStart => exact ⟨k0, 0, rfl, by omega, rfl⟩
  case round =>
    obtain ⟨k, i, rfl, hi, rfl⟩ := hrel
    by_cases hlt : i < n
    · have g1 : (i : Int) < (n : Int) := by omega
      have hi0 : (0 : Int) ≤ (i : Int) := by omega
      obtain ⟨x, hx⟩ : ∃ x, xs[i]? = some x := ⟨_, List.getElem?_eq_getElem (by rw [HL.out]; exact hlt)⟩
      obtain ⟨b, off, rfl, hb, x0⟩ := H1.out.lat (j := i) (u := .int .u64 x) (by simp [hx])
      obtain ⟨b', off', rfl, hb', y0⟩ := H2.out.lat (j := i) (u := .int .u64 x) (by simp [hx])
      clear hx
      go_upto_region 6 with fail
      refine wp_region_cls (Ext w) (Ext.drew1 k.ok) (by kernel_rfl) (by kernel_rfl) ?_
      repeat (go_big_quiet_step (fail))
      refine wpQuiet_nil ?_
      rintro _ ⟨k6, rfl⟩
      go_wp2_with fail
      go_roundw
      case rel => exact ⟨k6, i + 1, rfl, by omega, by go_num⟩
      case measure => simp [intOf]; omega
    · obtain rfl : n = i := by omega
      go_wp2_with fail
      go_ret
      exact ⟨rfl, k.ok⟩

set_option maxHeartbeats 4000000 in
theorem sameRun_any (A1 : Option Addr) (n1 c1 : Nat) (A2 : Option Addr) (n2 c2 : Nat) (A3 : Option Addr) (n3 c3 : Nat) (A4 : Option Addr) (n4 c4 : Nat) (B1 : Option Addr) (k1 : Nat) (B2 : Option Addr) (k2 : Nat) (B3 : Option Addr) (k3 : Nat) (B4 : Option Addr) (k4 : Nat) (cs : List Cl) (tr : List Ac) (sh : List Sh) (rw_ : List Int) (w : World)
    (hm : RunMem w A1 n1 A2 n2 A3 n3 A4 n4 cs tr sh rw_) (hm2 : RunMem w B1 n1 B2 n2 B3 n3 B4 n4 cs tr sh rw_) :
    Calls Try.prog 23 #[.agg #[.slice A1 n1 c1, .slice A2 n2 c2, .slice A3 n3 c3, .slice A4 n4 c4], .agg #[.slice B1 n1 k1, .slice B2 n2 k2, .slice B3 n3 k3, .slice B4 n4 k4]] w fun e w' => e = .returned (.bool true) ∧ Ext w w' := by
  have Hm := Lib.hid hm
  have Hm2 := Lib.hid hm2
  clear hm hm2
  go_enter Try.func23, Try.ntmps23
  go_upto_region 1 with fail
  obtain ⟨w0, hw0, hC, hR, hE, hlt0⟩ := enter2 w (.cells #[.slice A1 n1 c1, .slice A2 n2 c2, .slice A3 n3 c3, .slice A4 n4 c4] 48) (.cells #[.slice B1 n1 k1, .slice B2 n2 k2, .slice B3 n3 k3, .slice B4 n4 k4] 48)
  rw [hw0]
  have HE := Lib.hid hE
  obtain ⟨r0, r1, r2, r3⟩ := Lat.run hC
  obtain ⟨s0, s1, s2, s3⟩ := Lat.run hR
  obtain ⟨q0, hq0⟩ := lat_self w0
  rw [hq0]
  clear hw0 hC hR hE hq0 hlt0
  go_wp2_with fail
  refine (sameCalls_any A1 n1 c1 B1 k1 cs _ (Hm.out.calls.ext (Ext.next HE.out q0.ok)) (Hm2.out.calls.ext (Ext.next HE.out q0.ok)) Hm.out.big1).mono ?_
  rintro e w1 ⟨rfl, e1⟩
  obtain ⟨q1, rfl⟩ := lat_next q0 e1
  clear e1
  go_wp2_with fail
  refine (sameTrace_any A2 n2 c2 B2 k2 tr _ (Hm.out.trace.ext (Ext.next HE.out q1.ok)) (Hm2.out.trace.ext (Ext.next HE.out q1.ok)) Hm.out.big2).mono ?_
  rintro e w1 ⟨rfl, e1⟩
  obtain ⟨q2, rfl⟩ := lat_next q1 e1
  clear e1
  go_wp2_with fail
  refine (sameShifts_any A3 n3 c3 B3 k3 sh _ (Hm.out.shifts.ext (Ext.next HE.out q2.ok)) (Hm2.out.shifts.ext (Ext.next HE.out q2.ok)) Hm.out.big3).mono ?_
  rintro e w1 ⟨rfl, e1⟩
  obtain ⟨q3, rfl⟩ := lat_next q2 e1
  clear e1
  go_wp2_with fail
  refine (sameWords_any A4 n4 c4 B4 k4 rw_ _ (Hm.out.words.ext (Ext.next HE.out q3.ok)) (Hm2.out.words.ext (Ext.next HE.out q3.ok)) Hm.out.wlen Hm.out.big4).mono ?_
  rintro e w1 ⟨rfl, e1⟩
  obtain ⟨q4, rfl⟩ := lat_next q3 e1
  clear e1
  go_wp2_with fail
  go_ret
  exact ⟨rfl, Ext.next HE.out q4.ok⟩

end Go.Proofs.Ytfbacopjookplaa
