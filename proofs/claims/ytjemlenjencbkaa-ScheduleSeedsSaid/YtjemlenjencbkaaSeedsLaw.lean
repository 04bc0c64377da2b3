/- ScheduleSeeds: for every seed, all weights and every number of steps the program's picks by chance are the document's, and the weights stay; no condition. -/
import Derived.Test.YtjemlenjencbkaaRows
import Derived.Test.YtjemlenjencbkaaSeedsRef
import Derived.Test.YtjemlenjencbkaaLaw
import Derived.Test.YtjemlenjencbkaaFacts
namespace Go.Proofs.Ytjemlenjencbkaa
open Go.ChangeShapes Go.WideShapes Go.ChangeAt Go.RowKit

theorem seedErr_none {ws : List Int} {steps : Int} (h : seedErr ws steps = none) : ws.length ≤ 16 ∧ (∀ x ∈ ws, 0 ≤ x ∧ x ≤ 65536) ∧ ws.sum ≠ 0 ∧ 0 ≤ steps ∧ steps ≤ 65536 := by
  unfold seedErr at h
  split at h
  · cases h
  · rename_i h1
    split at h
    · cases h
    · rename_i h2
      split at h
      · cases h
      · rename_i h3
        refine ⟨by omega, fun x hx => ?_, fun e => h3 (.inl e), by omega, by omega⟩
        have : ¬ ((decide (x < 0) || decide (65536 < x)) = true) := fun hh => h2 (List.any_eq_true.2 ⟨x, hx, hh⟩)
        simp at this
        omega

set_option maxHeartbeats 800000 in
theorem scheduleSeeds_walk (A : Option Addr) (n c : Nat) (ws : List Int) (seed steps : Int) (w : World) (hx : Ints w A n ws) (hbig : n ≤ 17592186044000) (hs0 : 0 ≤ seed) (hs1 : seed ≤ 18446744073709551615) :
    Calls Try.prog 4 #[.int .u64 seed, .slice A n c, .int .i64 steps] w fun e w' => e = .returned (.bool true) ∧ Ext w w' := by
  have Hx := Lib.hid hx; clear hx
  have hown0 : (w.alloc (.cells #[] 3)).ownsRow w.heap.size 3 1 (.slice (some ⟨w.heap.size, 0, none⟩) 0 0) 0 [] := World.ownsRow_lit w #[] 0 (Nat.le_refl _) (by unfold maxLen; omega) rfl
  have e0 : Ext w (w.alloc (.cells #[] 3)) := (Ext.rfl' w).alloc (Nat.le_refl _) _
  go_enter Try.func4, Try.ntmps4
  go_wp2_with (first
    | (at_builtin; refine wpList_appendR _ rfl (.tmp 12) (.tmp 13) 22 rfl w.heap.size 3 1 8 elemInt Try.underlying22 _ 0 [] rfl hown0 A n c (ws.map (Value.int .i64)) rfl (by rw [List.length_map, Hx.out.1]; omega) (Hx.out.2.ext e0) (one_ints ws) (by omega) e0.size ?_; intro v1 w1 hown1 hgrow1 hat1; rw [Nat.zero_add, List.nil_append] at hown1)
    | (at_builtin; refine wpList_push w1 rfl (.tmp 14) (.tmp 15) 22 rfl w.heap.size 3 1 8 elemInt Try.underlying22 v1 n _ rfl hown1 #[.int .i64 (-77)] rfl rfl (by simp [Value.oneCell']) (by omega) (Nat.le_trans e0.size hgrow1.size) ?_; intro v2 w2 hown2 hgrow2 hat2; obtain ⟨g, c2, rfl, hc2, hg1, hg2⟩ := own_form1 hown2 (by omega)))
  have e1 : Ext w w1 := e0.trans (own_below hown0 hgrow1 e0.size)
  have e2 : Ext w w2 := e1.trans (own_below hown1 hgrow2 e1.size)
  have I2 : Ints w2 (some ⟨g, 0, none⟩) n ws := ⟨Hx.out.1, (Rd.of_own hown2).prefix_⟩
  have L2 : Hid (w2.cell? ⟨g, n, none⟩ = some (.int .i64 (-77))) := by
    show _ = _
    rw [hown2.cellAt n (by omega), List.getElem?_append_right (by simp [Hx.out.1])]
    simp [Hx.out.1]
  have HI2 := Lib.hid I2
  clear hown0 hown1 hown2 hgrow1 hgrow2 hat1 hat2 I2
  cases hse : seedErr ws steps with
  | some er =>
    have Hse := Lib.hid hse
    clear hse
    have hq : (er == er) = true := by simp
    refine (seeded_bad (some ⟨g, 0, none⟩) n c2 ws seed steps er _ HI2.out (by omega) Hse.out).mono ?_
    rintro e w3 ⟨rfl, rfl⟩
    go_wp2_with fail
    refine (refSeeded_bad A n c ws seed steps er _ (Hx.out.ext e2) (by omega) Hse.out).mono ?_
    rintro e w4 ⟨rfl, rfl⟩
    go_wp2_with fail
    refine (sameInts_any none none 0 0 0 0 [] [] _ ⟨rfl, Rd.nil _ _⟩ ⟨rfl, Rd.nil _ _⟩ (by omega)).mono ?_
    rintro e w5 ⟨rfl, k, rfl⟩
    go_wp2_with fail
    refine (num_any _ _).mono ?_
    rintro e w5 ⟨rfl, rfl⟩
    go_wp2_with fail
    have e5 := Ext.drawn w4 k
    refine (sameInts_any (some ⟨g, 0, none⟩) A n c2 n c ws ws _ (HI2.out.ext e5) ((Hx.out.ext e2).ext e5) (by omega)).mono ?_
    rintro e w5 ⟨rfl, k2, rfl⟩
    have L5 : w4.cell? ⟨g, n, none⟩ = some (.int .i64 (-77)) := L2.out
    go_wp2
    go_ret
    exact ⟨rfl, e2.next (Ext.drawn w4 (k + k2))⟩
  | none =>
    obtain ⟨q1, q2, q3, q4, q5⟩ := seedErr_none hse
    obtain ⟨m, rfl⟩ := Int.eq_ofNat_of_zero_le q4
    have qn : n ≤ 16 := by have := Hx.out.1; omega
    have H2 := Lib.hid q2
    have H3 := Lib.hid q3
    clear hse q1 q2 q3
    have hlen := Lib.hid (seedPicks_length ws m seed)
    refine (seeded_ok (some ⟨g, 0, none⟩) n c2 ws seed m _ HI2.out qn (by omega) H2.out H3.out hs0 hs1).mono ?_
    rintro e w3 ⟨v3, rfl, hown3, e3⟩
    obtain ⟨A3, c3, rfl⟩ := own_form hown3
    go_wp2_with fail
    refine (refSeeded_ok A n c ws seed m _ ((Hx.out.ext e2).ext e3) qn (by omega) H2.out H3.out hs0 hs1).mono ?_
    rintro e w4 ⟨v4, rfl, hown4, e4⟩
    obtain ⟨A4, c4, rfl⟩ := own_form hown4
    go_wp2_with fail
    refine (sameInts_any A3 A4 m c3 m c4 (seedPicks ws seed m) (seedPicks ws seed m) _ ⟨hlen.out, (Rd.of_own hown3).ext e4⟩ ⟨hlen.out, Rd.of_own hown4⟩ (by omega)).mono ?_
    rintro e w5 ⟨rfl, k, rfl⟩
    go_wp2_with fail
    refine (num_any _ _).mono ?_
    rintro e w5 ⟨rfl, rfl⟩
    go_wp2_with fail
    have e5 := Ext.drawn w4 k
    have e45 := (e3.next e4).next e5
    refine (sameInts_any (some ⟨g, 0, none⟩) A n c2 n c ws ws _ (HI2.out.ext e45) ((Hx.out.ext e2).ext e45) (by omega)).mono ?_
    rintro e w5 ⟨rfl, k2, rfl⟩
    have L5 : w4.cell? ⟨g, n, none⟩ = some (.int .i64 (-77)) := ((e3.next e4).cell (p := ⟨g, n, none⟩) hg2).trans L2.out
    go_wp2
    go_ret
    exact ⟨rfl, (e2.next (e3.next e4)).next (Ext.drawn w4 (k + k2))⟩

set_option maxRecDepth 100000 in
theorem scheduleSeeds_lifted (os : Os) (started : os.Started) (H : Type) (enc : TypeId × Value → H) :
    ReturnsInHanded {} Try.checked os 4 .any (Rows.scheduleSeedsSpec.pre6 enc Try.prog Try.f4 [] false) (Rows.scheduleSeedsSpec.post enc Try.prog Try.f4 false true false false) := by
  refine lawWrap (C := Try.checked) (tb := 4) own_ started (by kernel_rfl) Try.func4
    (ChangeSpec.witness6 (enc := enc) (C := Try.checked) false ⟨#[], #[.int .u64 0, .slice none 0 0, .int .i64 0], []⟩ 8 (by kernel_rfl) (by kernel_rfl) (by kernel_rfl) (by kernel_rfl))
    rfl Try.underlying4 rfl ?_ laidOut_ (by kernel_rfl) ?_
  · intro ds hds
    match ds, hds with
    | [d1, d2, d3], _ => exact ⟨rfl, rfl, rfl⟩
  · intro W base args ds ps hval0 hA0 hlt hsz0
    have hval : ∀ (j : Nat) t v, Try.f4.params[j]? = some t → args[j]? = some v → Value.okWide Try.prog W .any base t v := hval0
    have hA : DataW.TrodAll enc Try.prog W 0 (fun _ => true) true Try.f4.params.toList args.toList ds ps := hA0
    have hsz : (DataW.weightsEach Try.prog Try.f4.params.toList ds).all (· ≤ reachBytes) = true := hsz0
    rw [Try.params4] at hA hval hsz
    obtain ⟨v0, v1, v2, d0, d1, d2, p0, p1, p2, rfl, rfl, rfl, h0, h1, h2⟩ := trodAll_three hA
    obtain ⟨a, rfl, rfl, rfl, wa⟩ := open_int Try.underlying31 (hval 0 31 v0 rfl rfl) h0
    obtain ⟨b, rfl, rfl, rfl, _⟩ := open_int Try.underlying3 (hval 2 3 v2 rfl rfl) h2
    obtain ⟨A, n, c, xs, rfl, hnc, hx, _, hd⟩ := openInts Try.underlying22 Try.underlying3 (hval 1 22 v1 rfl rfl) h1
    have hr := reach_slice (j := 1) hsz rfl rfl Try.underlying22 hd
    rw [show Try.prog.bytesOf 3 = 8 by kernel_rfl] at hr
    have hab := bounds_u64' wa
    exact scheduleSeeds_walk A n c xs a b W hx (by omega) hab.1 hab.2

theorem scheduleSeeds_holds : Rows.ScheduleSeedsSaid :=
  OpenClaim.holds_of_wide 4 Try.f4 rfl rfl rfl rfl rfl rfl rfl ⟨rfl, rfl, rfl, rfl, rfl⟩ rfl rfl rfl rfl rfl (by kernel_rfl) Try.func4 (by kernel_rfl)
    (of_decide_eq_true (by kernel_rfl)) (by unfold Func.isWrapper; first | (rw [if_pos (by decide +kernel)]; kernel_rfl) | (rw [if_neg (by decide +kernel)]; exact ⟨rfl, rfl⟩))
    (fun os started H enc _ => scheduleSeeds_lifted os started H enc)

end Go.Proofs.Ytjemlenjencbkaa
