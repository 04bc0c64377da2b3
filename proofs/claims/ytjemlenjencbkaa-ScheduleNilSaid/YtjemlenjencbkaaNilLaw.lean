/- ScheduleNil: a heap that is not there stays empty; keys that are texts, and floats with NaN, come out in the order of cmp.Compare; no condition. -/
import Derived.Test.YtjemlenjencbkaaRows
import Derived.Test.YtjemlenjencbkaaHeapNSI
import Derived.Test.YtjemlenjencbkaaHeapNFI
import Derived.Test.YtjemlenjencbkaaNilPure
import Derived.Test.YtjemlenjencbkaaLaw
import Derived.Test.YtjemlenjencbkaaFacts
namespace Go.Proofs.Ytjemlenjencbkaa
open Go.ChangeShapes Go.WideShapes Go.ChangeAt Go.RowKit

theorem nilPut_any (n : Int) (a : ByteArray) (w : World) : Calls Try.prog 15 #[.pointer none, .int .i64 n, .string a] w fun e w' => e = .returned (.tuple #[]) ∧ w' = w := by
  go_enter Try.func15, Try.ntmps15
  go_wp2_with fail
  exact bodyPost_ret (v := .tuple #[]) (results_none rfl _ _ _) rfl ⟨rfl, rfl⟩
theorem nilLen_any (w : World) : Calls Try.prog 17 #[.pointer none] w fun e w' => e = .returned (.int .i64 0) ∧ w' = w := by
  go_enter Try.func17, Try.ntmps17
  go_wp2_with fail
  go_ret
  exact ⟨rfl, rfl⟩
theorem nilNext_any (w : World) : Calls Try.prog 16 #[.pointer none] w fun e w' => e = .returned (.tuple #[.int .i64 0, .string ByteArray.empty, .bool false]) ∧ Ext w w' := by
  go_enter Try.func16, Try.ntmps16
  go_wp2_with fail
  refine (nilLen_any _).mono ?_
  rintro e w1 ⟨rfl, rfl⟩
  go_wp2_with fail
  go_quiet (fail)
  go_wp2_with fail
  go_ret3
  exact ⟨rfl, Ext.next ((Ext.rfl' _).alloc (Nat.le_refl _) _) (Ext.drawn _ _)⟩

/-- 0/0 of floats is some NaN. -/
theorem run_quo_zero {P : Program} (w : World) (t : TypeId) : (binOp .quo t (.float .f64 0) (.float .f64 0)).run P w = .ok (.float .f64 ((Question.nanBits .f64 0 0).cut (w.tape w.drawn (.nanBits .f64 0 0)))) w.drew := by
  have h : FloatKind.f64.format.div 0 0 = none := by decide +kernel
  simp [binOp, Op.floatArith, h, choose, Sem.run, Question.forced]

set_option maxHeartbeats 1000000 in
theorem scheduleNil_walk (a b : ByteArray) (n : Int) (w : World) (h0 : -9223372036854775808 ≤ n) (h1 : n ≤ 9223372036854775807) :
    Calls Try.prog 6 #[.string a, .string b, .int .i64 n] w fun e w' => e = .returned (.bool true) ∧ Ext w w' := by
  go_enter Try.func6, Try.ntmps6
  go_wp2_with fail
  refine (nilPut_any _ _ _).mono ?_
  rintro e w1 ⟨rfl, rfl⟩
  go_wp2_with fail
  refine (nilNext_any _).mono ?_
  rintro e w2 ⟨rfl, e2⟩
  go_wp2_with fail
  refine (nilLen_any _).mono ?_
  rintro e w3 ⟨rfl, rfl⟩
  have E2 := Lib.hid e2
  clear e2
  go_wp2_with fail
  have ho0 : HSI (w3.alloc (.cells #[.slice none 0 0, .int .i64 0] 55)) w3.heap.size w3.heap.size (.slice none 0 0) [] 0 := HObj.new w3
  have e3 : Ext w1 (w3.alloc (.cells #[.slice none 0 0, .int .i64 0] 55)) := E2.out.alloc E2.out.size _
  obtain ⟨H, hH⟩ : ∃ H, H = w3.heap.size := ⟨_, rfl⟩
  have hHw : w1.heap.size ≤ H := by rw [hH]; exact E2.out.size
  have hHs : H ≤ (w3.alloc (.cells #[.slice none 0 0, .int .i64 0] 55)).heap.size := by rw [hH]; simp
  rw [← hH] at ho0 ⊢
  clear hH
  refine (putSI_any H H _ [] 0 _ ho0 hHs a 1 (by simp) (by omega) (by omega)).mono ?_
  rintro e w4 ⟨rfl, v1, ho1, on1, _⟩
  have e4 := ho0.ext_of (Nat.le_refl _) hHw e3 on1
  have hs4 := Nat.le_trans hHs on1.size
  rw [show (0 : Int) + 1 = 1 from rfl] at ho1
  have Ho1 := Lib.hid ho1
  have E4 := Lib.hid e4
  clear ho0 e3 on1 ho1 e4
  go_wp2_with fail
  refine (putSI_any H H v1 _ _ _ Ho1.out hs4 b 2 (by simp [nPut_length]) (by omega) (by omega)).mono ?_
  rintro e w5 ⟨rfl, v2, ho2, on2, _⟩
  have e5 := Ho1.out.ext_of (Nat.le_refl _) hHw E4.out on2
  have hs5 := Nat.le_trans hs4 on2.size
  rw [show (1 : Int) + 1 = 2 from rfl] at ho2
  have Ho2 := Lib.hid ho2
  have E5 := Lib.hid e5
  clear Ho1 E4 on2 ho2 e5
  go_wp2_with fail
  refine (putSI_any H H v2 _ _ _ Ho2.out hs5 a 3 (by simp [nPut_length]) (by omega) (by omega)).mono ?_
  rintro e w6 ⟨rfl, v3, ho3, on3, _⟩
  have e6 := Ho2.out.ext_of (Nat.le_refl _) hHw E5.out on3
  have hs6 := Nat.le_trans hs5 on3.size
  rw [show (2 : Int) + 1 = 3 from rfl] at ho3
  have Ho3 := Lib.hid ho3
  have E6 := Lib.hid e6
  clear Ho2 E5 on3 ho3 e6
  have hfirst := str_first a b
  have hlen3 : Hid ((nPut cmpStr (nPut cmpStr (nPut cmpStr ([] : List (Nd ByteArray Int)) (a, 1, 0)) (b, 2, 1)) (a, 3, 2)).length = 3) := by show _ = _; simp [nPut_length]
  have hlenr : Hid ((nRest cmpStr (nPut cmpStr (nPut cmpStr (nPut cmpStr ([] : List (Nd ByteArray Int)) (a, 1, 0)) (b, 2, 1)) (a, 3, 2))).length = 2) := by show _ = _; simp [nPut_length, nRest_length]
  have hnan := fun (w : World) (t : TypeId) => run_quo_zero (P := Try.prog) w t
  obtain ⟨x, v, u, hx⟩ : ∃ x v u, (if Op.bytesLess b.toList a.toList = true then (b, (2 : Int), (1 : Int)) else (a, 1, 0)) = (x, v, u) := ⟨_, _, _, rfl⟩
  rw [hx] at hfirst
  have Hfirst := Lib.hid hfirst
  have Hx := Lib.hid hx
  clear hfirst hx
  go_wp2_with fail
  refine (nextSI_some H H v3 _ _ _ Ho3.out x v u Hfirst.out (by rw [hlen3.out]; omega)).mono ?_
  rintro e w7 ⟨rfl, v4, ho4, on4, _⟩
  have e7 := Ho3.out.ext_of (Nat.le_refl _) hHw E6.out on4
  have Ho4 := Lib.hid ho4
  have E7 := Lib.hid e7
  clear Ho3 E6 on4 ho4 e7
  have hF := cmp_big_int n h0 h1
  rw [show FloatKind.f64.nearest n = floatOfInt .f64 n from rfl] at hF
  obtain ⟨hF1, hF2, hF3⟩ := hF
  generalize hFn : floatOfInt .f64 n = F at hF1 hF3
  have HFn := Lib.hid hFn
  have HF1 := Lib.hid hF1
  have HF2 := Lib.hid hF2
  have HF3 := Lib.hid hF3
  clear hF1 hF2 hF3 hFn h0 h1
  cases hlt : Op.bytesLess b.toList a.toList
  all_goals
    have hxx := Hx.out
    rw [hlt] at hxx
    simp only [if_true, Bool.false_eq_true, if_false, Prod.mk.injEq] at hxx
    obtain ⟨rfl, rfl, rfl⟩ := hxx
    go_wp2_with fail
    refine (lenSI_any H H v4 _ _ _ Ho4.out).mono ?_
    rintro e w8 ⟨rfl, rfl⟩
    rw [hlenr.out]
    clear Ho4 Hfirst Hx hlen3 hlenr
    go_wp2_with fail
    rw [HFn.out]
    have ho0 : HFI (w8.alloc (.cells #[.slice none 0 0, .int .i64 0] 62)) w8.heap.size w8.heap.size (.slice none 0 0) [] 0 := HObj.new w8
    have e3 : Ext w1 (w8.alloc (.cells #[.slice none 0 0, .int .i64 0] 62)) := E7.out.alloc E7.out.size _
    obtain ⟨G, hG⟩ : ∃ G, G = w8.heap.size := ⟨_, rfl⟩
    have hGw : w1.heap.size ≤ G := by rw [hG]; exact E7.out.size
    have hGs : G ≤ (w8.alloc (.cells #[.slice none 0 0, .int .i64 0] 62)).heap.size := by rw [hG]; simp
    rw [← hG] at ho0 ⊢
    clear hG E7
    refine (putFI_any G G _ [] 0 _ ho0 hGs F 1 (by simp) (by omega) (by omega)).mono ?_
    rintro e w9 ⟨rfl, v5, ho5, on5, _⟩
    have e5 := ho0.ext_of (Nat.le_refl _) hGw e3 on5
    have hs5 := Nat.le_trans hGs on5.size
    rw [show (0 : Int) + 1 = 1 from rfl] at ho5
    have Ho5 := Lib.hid ho5
    have E5 := Lib.hid e5
    clear ho0 e3 on5 ho5 e5
    go_wp2_with fail
    have hn1 := nan_read (w9.tape w9.drawn (.nanBits .f64 0 0))
    generalize (Question.nanBits .f64 0 0).cut (w9.tape w9.drawn (.nanBits .f64 0 0)) = N1 at hn1 ⊢
    have Hn1 := Lib.hid hn1
    clear hn1
    refine (putFI_any G G v5 _ 1 _ (Ho5.out.ext (Ext.rfl' w9).drew) hs5 N1 2 (by simp [nPut_length]) (by omega) (by omega)).mono ?_
    rintro e w10 ⟨rfl, v6, ho6, on6, _⟩
    have e6 := (Ho5.out.ext (Ext.rfl' w9).drew).ext_of (Nat.le_refl _) hGw (Ext.next E5.out (Ext.rfl' w9).drew) on6
    have hs6 := Nat.le_trans hs5 on6.size
    rw [show (1 : Int) + 1 = 2 from rfl] at ho6
    have Ho6 := Lib.hid ho6
    have E6 := Lib.hid e6
    clear Ho5 E5 on6 ho6 e6
    go_wp2_with fail
    refine (putFI_any G G v6 _ 2 _ Ho6.out hs6 18318360957983683996 3 (by simp [nPut_length]) (by omega) (by omega)).mono ?_
    rintro e w11 ⟨rfl, v7, ho7, on7, _⟩
    have e7 := Ho6.out.ext_of (Nat.le_refl _) hGw E6.out on7
    have hs7 := Nat.le_trans hs6 on7.size
    rw [show (2 : Int) + 1 = 3 from rfl] at ho7
    have Ho7 := Lib.hid ho7
    have E7 := Lib.hid e7
    clear Ho6 E6 on7 ho7 e7
    go_wp2_with fail
    have hn2 := nan_read (w11.tape w11.drawn (.nanBits .f64 0 0))
    generalize (Question.nanBits .f64 0 0).cut (w11.tape w11.drawn (.nanBits .f64 0 0)) = N2 at hn2 ⊢
    have Hn2 := Lib.hid hn2
    clear hn2
    refine (putFI_any G G v7 _ 3 _ (Ho7.out.ext (Ext.rfl' w11).drew) hs7 N2 4 (by simp [nPut_length]) (by omega) (by omega)).mono ?_
    rintro e w12 ⟨rfl, v8, ho8, on8, _⟩
    have e8 := (Ho7.out.ext (Ext.rfl' w11).drew).ext_of (Nat.le_refl _) hGw (Ext.next E7.out (Ext.rfl' w11).drew) on8
    have hs8 := Nat.le_trans hs7 on8.size
    have Ho8 := Lib.hid ho8
    have E8 := Lib.hid e8
    clear Ho7 E7 on8 ho8 e8
    have hall := float_heap HF1.out HF2.out Hn1.out Hn2.out HF3.out
    simp only at hall
    obtain ⟨q1, q2, q3, q4, q5, _⟩ := hall
    have l4 : (nPut cmpF (nPut cmpF (nPut cmpF (nPut cmpF ([] : List (Nd Nat Int)) (F, 1, 0)) (N1, 2, 1)) (18318360957983683996, 3, 2)) (N2, 4, 3)).length = 4 := by simp [nPut_length]
    generalize nPut cmpF (nPut cmpF (nPut cmpF (nPut cmpF ([] : List (Nd Nat Int)) (F, 1, 0)) (N1, 2, 1)) (18318360957983683996, 3, 2)) (N2, 4, 3) = L at q1 q2 q3 q4 q5 l4 Ho8
    have Q1 := Lib.hid q1
    have Q2 := Lib.hid q2
    have Q3 := Lib.hid q3
    have Q4 := Lib.hid q4
    have Q5 := Lib.hid q5
    have L4 := Lib.hid l4
    clear q1 q2 q3 q4 q5 l4
    go_wp2_with fail
    refine (nextFI_some G G v8 L _ _ Ho8.out N1 2 1 Q1.out (by rw [L4.out]; omega)).mono ?_
    rintro e w13 ⟨rfl, v9, ho9, on9, _⟩
    have e9 := Ho8.out.ext_of (Nat.le_refl _) hGw E8.out on9
    have Ho9 := Lib.hid ho9
    have E9 := Lib.hid e9
    clear Ho8 E8 on9 ho9 e9
    go_wp2_with fail
    refine (nextFI_some G G v9 _ _ _ Ho9.out N2 4 3 Q2.out (by rw [nRest_length, L4.out]; omega)).mono ?_
    rintro e w14 ⟨rfl, v10, ho10, on10, _⟩
    have e10 := Ho9.out.ext_of (Nat.le_refl _) hGw E9.out on10
    have Ho10 := Lib.hid ho10
    have E10 := Lib.hid e10
    clear Ho9 E9 on10 ho10 e10
    go_wp2_with fail
    refine (nextFI_some G G v10 _ _ _ Ho10.out 18318360957983683996 3 2 Q3.out (by rw [nRest_length, nRest_length, L4.out]; omega)).mono ?_
    rintro e w15 ⟨rfl, v11, ho11, on11, _⟩
    have e11 := Ho10.out.ext_of (Nat.le_refl _) hGw E10.out on11
    have Ho11 := Lib.hid ho11
    have E11 := Lib.hid e11
    clear Ho10 E10 on11 ho11 e11
    go_wp2_with fail
    refine (nextFI_some G G v11 _ _ _ Ho11.out F 1 0 Q4.out (by rw [nRest_length, nRest_length, nRest_length, L4.out]; omega)).mono ?_
    rintro e w16 ⟨rfl, v12, ho12, on12, _⟩
    have e12 := Ho11.out.ext_of (Nat.le_refl _) hGw E11.out on12
    rw [Q5.out] at ho12
    have Ho12 := Lib.hid ho12
    have E12 := Lib.hid e12
    clear Ho11 E11 on12 ho12 e12
    go_wp2_with fail
    refine (nextFI_none G G v12 _ _ Ho12.out).mono ?_
    rintro e w17 ⟨rfl, e17⟩
    have E17 := Lib.hid (Ext.next E12.out e17)
    clear e17
    go_wp2_with fail
    go_ret
    exact ⟨rfl, E17.out⟩

set_option maxRecDepth 100000 in
theorem scheduleNil_lifted (os : Os) (started : os.Started) (H : Type) (enc : TypeId × Value → H) :
    ReturnsInHanded {} Try.checked os 6 .any (Rows.scheduleNilSpec.pre6 enc Try.prog Try.f6 [] false) (Rows.scheduleNilSpec.post enc Try.prog Try.f6 false true false false) := by
  refine lawWrap (C := Try.checked) (tb := 4) own_ started (by kernel_rfl) Try.func6
    (ChangeSpec.witness6 (enc := enc) (C := Try.checked) false ⟨#[], #[.string ByteArray.empty, .string ByteArray.empty, .int .i64 0], []⟩ 8 (by kernel_rfl) (by kernel_rfl) (by kernel_rfl) (by kernel_rfl))
    rfl Try.underlying4 rfl ?_ laidOut_ (by kernel_rfl) ?_
  · intro ds hds
    match ds, hds with
    | [d1, d2, d3], _ => exact ⟨rfl, rfl, rfl⟩
  · intro W base args ds ps hval0 hA0 hlt hsz0
    have hval : ∀ (j : Nat) t v, Try.f6.params[j]? = some t → args[j]? = some v → Value.okWide Try.prog W .any base t v := hval0
    have hA : DataW.TrodAll enc Try.prog W 0 (fun _ => true) true Try.f6.params.toList args.toList ds ps := hA0
    rw [Try.params6] at hA hval
    obtain ⟨v0, v1, v2, d0, d1, d2, p0, p1, p2, rfl, rfl, rfl, h0, h1, h2⟩ := trodAll_three hA
    obtain ⟨a, rfl, rfl, rfl, _⟩ := Go.ChangeMaps.open_string Try.underlying9 (hval 0 9 v0 rfl rfl) h0
    obtain ⟨b, rfl, rfl, rfl, _⟩ := Go.ChangeMaps.open_string Try.underlying9 (hval 1 9 v1 rfl rfl) h1
    obtain ⟨n, rfl, rfl, rfl, wn⟩ := open_int Try.underlying3 (hval 2 3 v2 rfl rfl) h2
    have hb := bounds_i64' wn
    exact scheduleNil_walk a b n W hb.1 hb.2

theorem scheduleNil_holds : Rows.ScheduleNilSaid :=
  OpenClaim.holds_of_wide 6 Try.f6 rfl rfl rfl rfl rfl rfl rfl ⟨rfl, rfl, rfl, rfl, rfl⟩ rfl rfl rfl rfl rfl (by kernel_rfl) Try.func6 (by kernel_rfl)
    (of_decide_eq_true (by kernel_rfl)) (by unfold Func.isWrapper; first | (rw [if_pos (by decide +kernel)]; kernel_rfl) | (rw [if_neg (by decide +kernel)]; exact ⟨rfl, rfl⟩))
    (fun os started H enc _ => scheduleNil_lifted os started H enc)

end Go.Proofs.Ytjemlenjencbkaa
