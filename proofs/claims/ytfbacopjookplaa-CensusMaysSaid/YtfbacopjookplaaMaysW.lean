/- The walk of the statement on which runs' parts go together. -/
import Derived.Test.YtfbacopjookplaaAwake
import Derived.Test.YtfbacopjookplaaCopy
import Derived.Test.YtfbacopjookplaaSame
import Derived.Test.YtfbacopjookplaaOpenRun
import Derived.Test.YtfbacopjookplaaFacts
import Derived.Test.YtfbacopjookplaaRows
namespace Go.Proofs.Ytfbacopjookplaa
open Go.ChangeShapes Go.WideShapes Go.ChangeAt Go.RowKit

theorem Lat.case_ {w0 : World} {b : Nat} {t : TypeId} {T R H Re Ca S B used mv : Int} {v1 v2 v3 v4 : Value} (h : w0.heap[b]? = some (.cells #[.int .i64 T, .int .i64 R, .int .i64 H, .int .i64 Re, .int .i64 Ca, .int .i64 S, .int .i64 B, .int .i64 used, v1, v2, v3, v4, .int .i64 mv] t (0, 0))) :
    (∀ c : Lat w0, c.world.cell? ⟨b, 0, none⟩ = some (.int .i64 T)) ∧ (∀ c : Lat w0, c.world.cell? ⟨b, 1, none⟩ = some (.int .i64 R)) ∧ (∀ c : Lat w0, c.world.cell? ⟨b, 2, none⟩ = some (.int .i64 H)) ∧ (∀ c : Lat w0, c.world.cell? ⟨b, 3, none⟩ = some (.int .i64 Re)) ∧ (∀ c : Lat w0, c.world.cell? ⟨b, 4, none⟩ = some (.int .i64 Ca)) ∧ (∀ c : Lat w0, c.world.cell? ⟨b, 5, none⟩ = some (.int .i64 S)) ∧ (∀ c : Lat w0, c.world.cell? ⟨b, 6, none⟩ = some (.int .i64 B)) ∧ (∀ c : Lat w0, c.world.cell? ⟨b, 7, none⟩ = some (.int .i64 used)) ∧ (∀ c : Lat w0, c.world.cell? ⟨b, 8, none⟩ = some (v1)) ∧ (∀ c : Lat w0, c.world.cell? ⟨b, 9, none⟩ = some (v2)) ∧ (∀ c : Lat w0, c.world.cell? ⟨b, 10, none⟩ = some (v3)) ∧ (∀ c : Lat w0, c.world.cell? ⟨b, 11, none⟩ = some (v4)) ∧ (∀ c : Lat w0, c.world.cell? ⟨b, 12, none⟩ = some (.int .i64 mv)) :=
  ⟨Lat.cells h rfl, Lat.cells h rfl, Lat.cells h rfl, Lat.cells h rfl, Lat.cells h rfl, Lat.cells h rfl, Lat.cells h rfl, Lat.cells h rfl, Lat.cells h rfl, Lat.cells h rfl, Lat.cells h rfl, Lat.cells h rfl, Lat.cells h rfl⟩
theorem mayB : MayOK 1 1 3 1 0 2 1 0 [] [] [] wordsS := by
  refine ⟨okS, ⟨by omega, by omega⟩, ⟨trivial, trivial, fun i j x y hx => by simp at hx, fun i j x y hx => by simp at hx⟩, rfl, trivial⟩
set_option maxRecDepth 100000 in
set_option maxHeartbeats 8000000 in
theorem maysLaw_any (hM : MaySays) (hA : AwakeSays) (T R H Re Ca S B used mv : Int) (A1 : Option Addr) (n1 c1 : Nat) (A2 : Option Addr) (n2 c2 : Nat) (A3 : Option Addr) (n3 c3 : Nat) (A4 : Option Addr) (n4 c4 : Nat) (cs : List Cl) (tr : List Ac) (sh : List Sh) (rw_ : List Int) (w : World)
    (hm : RunMem w A1 n1 A2 n2 A3 n3 A4 n4 cs tr sh rw_) (b1 : n1 * 72 ≤ 140737488355328) (b2 : n2 * 56 ≤ 140737488355328) (b3 : n3 * 40 ≤ 140737488355328) (b4 : n4 * 8 ≤ 140737488355328) :
    Calls Try.prog 5 #[.agg #[.int .i64 T, .int .i64 R, .int .i64 H, .int .i64 Re, .int .i64 Ca, .int .i64 S, .int .i64 B, .int .i64 used, .slice A1 n1 c1, .slice A2 n2 c2, .slice A3 n3 c3, .slice A4 n4 c4, .int .i64 mv]] w fun e w' => e = .returned (.bool true) ∧ Ext w w' := by
  have Hm := Lib.hid hm
  clear hm
  go_enter Try.func5, Try.ntmps5
  go_upto_region 1 with fail
  obtain ⟨w0, hw0, hC, hE, hlt0⟩ := enter1 w (.cells #[.int .i64 T, .int .i64 R, .int .i64 H, .int .i64 Re, .int .i64 Ca, .int .i64 S, .int .i64 B, .int .i64 used, .slice A1 n1 c1, .slice A2 n2 c2, .slice A3 n3 c3, .slice A4 n4 c4, .int .i64 mv] 50)
  rw [hw0]
  have HE := Lib.hid hE
  have HC := Lib.hid hC
  have Hm0 := Lib.hid (Hm.out.ext hE)
  obtain ⟨d0, d1, d2, d3, d4, d5, d6, d7, d8, d9, d10, d11, d12⟩ := Lat.case_ hC
  obtain ⟨k0, hk0⟩ := lat_self w0
  rw [hk0]
  clear hw0 hC hE hk0 hlt0
  go_wp2_with fail
  refine (copy_any A1 n1 c1 A2 n2 c2 A3 n3 c3 A4 n4 c4 cs tr sh rw_ _ (Hm0.out.ext k0.ok) b1 b2 b3 b4).mono ?_
  rintro e w1 ⟨B1, l1, B2, l2, B3, l3, B4, l4, rfl, hm2, e1⟩
  obtain ⟨k1, rfl⟩ := lat_next k0 e1
  have Hm2 := Lib.hid hm2
  clear e1 hm2
  go_upto_region 2 with fail
  obtain ⟨w2, hw2, hK, hE2, hlt2⟩ := enter1 k1.world (.cells #[.slice B1 n1 l1, .slice B2 n2 l2, .slice B3 n3 l3, .slice B4 n4 l4] 48)
  rw [hw2]
  have HE2 := Lib.hid (Ext.next k1.ok hE2)
  have Hm3 := Lib.hid (Hm2.out.ext hE2)
  obtain ⟨s0, s1, s2, s3⟩ := Lat.run hK
  clear d0 d1 d2 d3 d4 d5 d6 d7 d8 d9 d10 d11 d12
  obtain ⟨d0, d1, d2, d3, d4, d5, d6, d7, d8, d9, d10, d11, d12⟩ := Lat.case_ (ext_blk HE2.out HC.out)
  have Hm4 := Lib.hid (Hm0.out.ext HE2.out)
  obtain ⟨k2, hk2⟩ := lat_self w2
  rw [hk2]
  generalize k1.world.heap.size = pk at *
  clear hw2 hK hE2 hk2 hlt2
  go_wp2_with fail
  refine (hM T R H Re Ca S B used A1 n1 c1 A2 n2 c2 A3 n3 c3 A4 n4 c4 cs tr sh rw_ _ (Hm4.out.ext k2.ok) b1).mono ?_
  rintro e w3 ⟨q, rfl, hq, e3⟩
  obtain ⟨k3, rfl⟩ := lat_next k2 e3
  have HQ := Lib.hid hq
  clear e3 hq
  go_wp2_with fail
  refine (ref13May_any T R H Re Ca S B used A1 n1 c1 A2 n2 c2 A3 n3 c3 A4 n4 c4 cs tr sh rw_ _ (Hm4.out.ext k3.ok)).mono ?_
  rintro e w4 ⟨q', rfl, hq, e4⟩
  obtain ⟨k4, rfl⟩ := lat_next k3 e4
  obtain rfl : q = q' := by
    have := HQ.out.trans hq.symm
    cases q <;> cases q' <;> simp at this ⊢
  clear e4 hq HQ
  have hbq : (q == q) = true := by simp
  go_wp2_with fail
  refine (sameRun_any A1 n1 c1 A2 n2 c2 A3 n3 c3 A4 n4 c4 B1 l1 B2 l2 B3 l3 B4 l4 cs tr sh rw_ _ (Hm4.out.ext k4.ok) (Hm3.out.ext k4.ok)).mono ?_
  rintro e w5 ⟨rfl, e5⟩
  obtain ⟨k5, rfl⟩ := lat_next k4 e5
  clear e5
  go_wp2_with fail
  refine (small_any _).mono ?_
  rintro e w1 ⟨rfl, e1⟩
  obtain ⟨k6, rfl⟩ := lat_next k5 e1
  clear e1
  go_wp2_with fail
  refine (blank_any _).mono ?_
  rintro e w7 ⟨gw, rfl, hown, e7⟩
  have hl : wordsS.length = lenS := by have := hown.1; simpa using this
  have hb := sizesS.big
  have hrm : Hid (RunMem w7 none 0 none 0 none 0 (some ⟨gw, 0, none⟩) lenS [] [] [] wordsS) := ⟨⟨rfl, Rd.nil _ _⟩, ⟨rfl, Rd.nil _ _⟩, ⟨rfl, Rd.nil _ _⟩, Rd.of_own hown, hl, by omega, by omega, by omega, by omega, fun a ha => by simp at ha⟩
  obtain ⟨k7, rfl⟩ := lat_next k6 e7
  clear hown e7 hl hb
  go_wp2_with fail
  refine (hM 1 1 3 1 0 2 1 0 none 0 0 none 0 0 none 0 0 (some ⟨gw, 0, none⟩) lenS lenS [] [] [] wordsS _ hrm.out (by omega)).mono ?_
  rintro e w8 ⟨q8, rfl, hq8, e8⟩
  obtain ⟨k8, rfl⟩ := lat_next k7 e8
  obtain rfl : true = q8 := (hq8.2 mayB).symm
  clear hq8 e8
  go_wp2_with fail
  refine (hA _).mono ?_
  rintro e w1 ⟨rfl, e1⟩
  obtain ⟨k9, rfl⟩ := lat_next k8 e1
  clear e1
  go_wp2_with fail
  go_ret
  exact ⟨rfl, Ext.next HE.out (Ext.next HE2.out k9.ok)⟩

set_option maxRecDepth 100000 in
theorem censusMays_lifted (hM : MaySays) (hA : AwakeSays) (os : Os) (started : os.Started) (H : Type) (enc : TypeId × Value → H) :
    ReturnsInHanded {} Try.checked os 5 .any (Rows.censusMaysSpec.pre6 enc Try.prog Try.f5 [] false) (Rows.censusMaysSpec.post enc Try.prog Try.f5 false true false false) := by
  refine lawWrap (C := Try.checked) (tb := 4) own_ started (by kernel_rfl) Try.func5
    (ChangeSpec.witness6 (enc := enc) (C := Try.checked) false ⟨#[], #[.agg #[.int .i64 0, .int .i64 0, .int .i64 0, .int .i64 0, .int .i64 0, .int .i64 0, .int .i64 0, .int .i64 0, .slice none 0 0, .slice none 0 0, .slice none 0 0, .slice none 0 0, .int .i64 0]], []⟩ 8 (by kernel_rfl) (by kernel_rfl) (by kernel_rfl) (by kernel_rfl))
    rfl Try.underlying4 rfl ?_ laidOut_ (by kernel_rfl) ?_
  · intro ds hds
    match ds, hds with
    | [d1], _ => exact ⟨rfl, rfl, rfl⟩
  · intro W base args ds ps hval0 hA0 hlt hsz
    have hval : ∀ (j : Nat) t v, Try.f5.params[j]? = some t → args[j]? = some v → Value.okWide Try.prog W .any base t v := hval0
    have hArgs : DataW.TrodAll enc Try.prog W 0 (fun _ => true) true Try.f5.params.toList args.toList ds ps := hA0
    rw [Try.params5] at hArgs hval
    obtain ⟨v0, d0, rfl, rfl, h0⟩ := trodAll_one hArgs
    obtain ⟨T, R, H', Re, Ca, S, B, used, mv, A1, n1, c1, A2, n2, c2, A3, n3, c3, A4, n4, c4, cs, tr, sh, rw_, rfl, hm, b1, b2, b3, b4⟩ := openCase (hval 0 50 v0 rfl rfl) h0 (by rw [Try.params5] at hsz; exact hsz)
    exact maysLaw_any hM hA T R H' Re Ca S B used mv A1 n1 c1 A2 n2 c2 A3 n3 c3 A4 n4 c4 cs tr sh rw_ W hm (by omega) (by omega) (by omega) (by omega)

theorem censusMays_of (hM : MaySays) (hA : AwakeSays) : Rows.CensusMaysSaid :=
  OpenClaim.holds_of_wide 5 Try.f5 rfl rfl rfl rfl rfl rfl rfl ⟨rfl, rfl, rfl, rfl, rfl⟩ rfl rfl rfl rfl rfl (by kernel_rfl) Try.func5 (by kernel_rfl)
    (of_decide_eq_true (by kernel_rfl)) (by unfold Func.isWrapper; first | (rw [if_pos (by decide +kernel)]; kernel_rfl) | (rw [if_neg (by decide +kernel)]; exact ⟨rfl, rfl⟩))
    (fun os started H enc _ => censusMays_lifted hM hA os started H enc)

end Go.Proofs.Ytfbacopjookplaa
