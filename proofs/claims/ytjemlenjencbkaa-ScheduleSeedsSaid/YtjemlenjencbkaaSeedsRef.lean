/- The walk of the document's Seeded: the same picks, the same errors. -/
import Derived.Test.YtjemlenjencbkaaSeeds
namespace Go.Proofs.Ytjemlenjencbkaa
open Go.RowKit

set_option maxHeartbeats 400000 in
theorem refSeeded_ok (A : Option Addr) (n c : Nat) (ws : List Int) (seed : Int) (m : Nat) (w : World) (hx : Ints w A n ws) (hn : n ≤ 16) (hm : m ≤ 65536)
    (hgood : ∀ x ∈ ws, 0 ≤ x ∧ x ≤ 65536) (hsum : ws.sum ≠ 0) (hs0 : 0 ≤ seed) (hs1 : seed ≤ 18446744073709551615) :
    Calls Try.prog 12 #[.int .u64 seed, .slice A n c, .int .i64 m] w fun e w' => ∃ v, e = .returned (.tuple #[v, .int .i64 0]) ∧ w'.ownsRow w.heap.size 3 1 v m ((seedPicks ws seed m).map (Value.int .i64)) ∧ Ext w w' := by
  have Hx := Lib.hid hx; clear hx
  have Hg := Lib.hid hgood; clear hgood
  have Hs := Lib.hid hsum; clear hsum
  go_enter Try.func12, Try.ntmps12
  go_wp2
  go_loop [8, 9] (fun s i => ∃ (k : Nat) (S : Int), k ≤ n ∧ 0 ≤ S ∧ S ≤ k * 65536 ∧ i = .int .i64 k ∧ s = .int .i64 S ∧ Hid (S = (ws.take k).sum)) (fun _ i => n - (intOf i).toNat)
  case atStart => exact ⟨0, 0, Nat.zero_le _, by omega, by omega, rfl, rfl, rfl⟩
  case round =>
    obtain ⟨k, S, hk, hS0, hS1, rfl, rfl, hS⟩ := hrel
    by_cases hlt : k < n
    · obtain ⟨b, off, x, rfl, _, hxk, hca⟩ := Hx.out.at_ hlt
      obtain ⟨hx0, hx1⟩ := Hg.out x (List.mem_of_getElem? hxk.out)
      go_wp2
      go_round
      case rel => exact ⟨k + 1, S + x, by omega, by omega, by omega, by go_num, rfl, take_sum hxk hS⟩
      case measure => simp [intOf]; omega
    · obtain rfl : n = k := by omega
      have hS2 : S ≠ 0 := by rw [hS.out, List.take_of_length_le (Nat.le_of_eq Hx.out.1)]; exact Hs.out
      have hS3 : 1 ≤ S := by omega
      have hSq : (S == 0) = false := by simpa using hS2
      clear hS2
      have HS : Hid (S = ws.sum) := by show _ = _; rw [hS.out, List.take_of_length_le (Nat.le_of_eq Hx.out.1)]
      go_wp2
      go_loopw [10, 11, 12] (fun v sd i wr => ∃ (k : Nat) (ps : List Int) (s : Int), k ≤ m ∧ i = .int .i64 k ∧ sd = .int .u64 s ∧ 0 ≤ s ∧ s ≤ 18446744073709551615 ∧ Ext w wr ∧ Hid (ps.length = k) ∧
          Hid (seedPicks ws seed m = ps ++ seedPicks ws s (m - k)) ∧ wr.ownsRow w.heap.size 3 1 v k (ps.map (Value.int .i64))) (fun _ _ i _ => m - (intOf i).toNat)
      case atStart => exact ⟨0, [], _, Nat.zero_le _, rfl, rfl, hs0, hs1, Ext.rfl' w, rfl, rfl, World.ownsRow_nil _ _ _ _⟩
      case round =>
        obtain ⟨k, ps, s, hk, rfl, rfl, hs0, hs1, hext, hpl, hps, hown⟩ := hrel
        by_cases hlt : k < m
        · go_wp2
          generalize hT : IntKind.u64.wrap (IntKind.u64.wrap (s * 6364136223846793005) + 1442695040888963407) = t
          have hTs : t = nextSeed s := hT.symm
          have hTb := nextSeed_bd s
          rw [← hTs] at hTb
          obtain ⟨ht0, ht1⟩ := hTb
          obtain ⟨hq, hq0, hq1⟩ := lot_bd hTs HS hS3 (by omega) ht0 ht1
          have HT := Lib.hid hTs
          clear hT hTs
          rw [quo_same ht0 ht1, hq]
          clear hq
          generalize hZ : lot ws s = z at hq0 hq1 ⊢
          have HZ := Lib.hid hZ
          clear hZ
          obtain ⟨wo, rfl⟩ : ∃ wo : World, wo = wr := ⟨_, rfl⟩
          go_loop [13, 14] (fun l t => ∃ (j : Nat) (L : Int), j < n ∧ l = .int .i64 L ∧ t = .int .i64 j ∧ 0 ≤ L ∧ L ≤ S ∧ Hid (L < (ws.drop j).sum) ∧ Hid (pickOf ws z = j + pickOf (ws.drop j) L)) (fun _ t => n - (intOf t).toNat)
          case atStart =>
            have h1 : Hid (z < (ws.drop 0).sum) := by show _ < _; rw [List.drop_zero, ← HS.out]; exact hq1
            exact ⟨0, z, lt_of_sum h1 hq0 Hx.out.1, rfl, rfl, hq0, by omega, h1, by show _ = _; simp⟩
          case round =>
            obtain ⟨j, L, hj, rfl, rfl, hL0, hL1, hsm, hpk⟩ := hrel
            obtain ⟨b, off, x, rfl, hb, hxk, hca0⟩ := Hx.out.at_ hj
            obtain ⟨hx0, hx1⟩ := Hg.out x (List.mem_of_getElem? hxk.out)
            have hca : wo.cell? ⟨b, off + j, none⟩ = some (.int .i64 x) := (hext.cell (p := ⟨b, off + j, none⟩) hb).trans hca0
            by_cases hge : x ≤ L
            · have hon := sum_on hsm hxk
              have hj1 : j + 1 < n := lt_of_sum hon (by omega) Hx.out.1
              go_wp2
              go_round
              case rel => exact ⟨j + 1, L - x, hj1, rfl, by go_num, by omega, by omega, hon, pick_on hpk hxk hge⟩
              case measure => simp [intOf]; omega
            · have hlt' : L < x := by omega
              clear hge
              go_wp2_with (at_builtin; refine wpList_push _ rfl _ _ 22 rfl w.heap.size 3 1 8 elemInt Try.underlying22 _ _ _ rfl hown _ rfl rfl (by simp [Value.oneCell']) (by omega) hext.size ?_; intro v' w1 hown' hgrow hat)
              have hpz := pick_stop hpk hxk hlt'
              go_roundw
              case rel =>
                refine ⟨k + 1, ps ++ [(j : Int)], _, by omega, by go_num, rfl, ht0, ht1, hext.trans (own_below hown hgrow hext.size), by show _ = _; rw [List.length_append, hpl.out]; rfl, ?_, ?_⟩
                · show _ = _
                  have e : m - k = (m - (k + 1)) + 1 := by omega
                  rw [hps.out, e, seedPicks, HZ.out, hpz, ← HT.out]
                  simp
                · simpa using hown'
              case measure => simp [intOf]; omega
        · obtain rfl : m = k := by omega
          go_wp2
          go_ret2
          refine ⟨_, rfl, ?_, hext⟩
          have e := hps.out
          rw [Nat.sub_self] at e
          simp only [seedPicks, List.append_nil] at e
          rw [e]
          exact hown

set_option maxHeartbeats 400000 in
theorem refSeeded_bad (A : Option Addr) (n c : Nat) (ws : List Int) (seed steps er : Int) (w : World) (hx : Ints w A n ws) (hbig : n ≤ 140737488355328) (he : seedErr ws steps = some er) :
    Calls Try.prog 12 #[.int .u64 seed, .slice A n c, .int .i64 steps] w fun e w' => e = .returned (.tuple #[.slice none 0 0, .int .i64 er]) ∧ w' = w := by
  have Hx := Lib.hid hx; clear hx
  have He := Lib.hid he; clear he
  by_cases h1 : 16 < n
  · have e3 : er = 3 := by have := He.out; rw [seedErr_long (.inl (by rw [Hx.out.1]; exact h1))] at this; injection this with this; exact this.symm
    subst e3
    go_enter Try.func12, Try.ntmps12
    go_wp2
    go_ret2
    exact ⟨rfl, rfl⟩
  · have h1' : n ≤ 16 := by omega
    clear h1
    by_cases h2 : 65536 < steps
    · have e3 : er = 3 := by have := He.out; rw [seedErr_long (.inr h2)] at this; injection this with this; exact this.symm
      subst e3
      go_enter Try.func12, Try.ntmps12
      go_wp2
      go_ret2
      exact ⟨rfl, rfl⟩
    · have h2' : steps ≤ 65536 := by omega
      clear h2
      have hnl : ¬ (16 < ws.length ∨ 65536 < steps) := by rw [Hx.out.1]; omega
      have Hnl := Lib.hid hnl; clear hnl
      go_enter Try.func12, Try.ntmps12
      go_wp2
      go_loop [8, 9] (fun s i => ∃ (k : Nat) (S : Int), k ≤ n ∧ 0 ≤ S ∧ S ≤ k * 65536 ∧ i = .int .i64 k ∧ s = .int .i64 S ∧ Hid (S = (ws.take k).sum) ∧ GoodTo ws k) (fun _ i => n - (intOf i).toNat)
      case atStart => exact ⟨0, 0, Nat.zero_le _, by omega, by omega, rfl, rfl, rfl, fun x hx => by simp at hx⟩
      case round =>
        obtain ⟨k, S, hk, hS0, hS1, rfl, rfl, hS, hg⟩ := hrel
        by_cases hlt : k < n
        · obtain ⟨b, off, x, rfl, _, hxk, hca⟩ := Hx.out.at_ hlt
          by_cases hx0 : 0 ≤ x
          · by_cases hx1 : x ≤ 65536
            · go_wp2
              go_round
              case rel => exact ⟨k + 1, S + x, by omega, by omega, by omega, by go_num, rfl, take_sum hxk hS, goodTo_step hg hxk hx0 hx1⟩
              case measure => simp [intOf]; omega
            · have hx1' : 65536 < x := by omega
              have e2 : er = 2 := by have := He.out; rw [seedErr_weight Hnl.out hxk (.inr hx1')] at this; injection this with this; exact this.symm
              clear hx1
              subst e2
              go_wp2
              go_ret2
              exact ⟨rfl, rfl⟩
          · have hx0' : x < 0 := by omega
            have e2 : er = 2 := by have := He.out; rw [seedErr_weight Hnl.out hxk (.inl hx0')] at this; injection this with this; exact this.symm
            clear hx0
            subst e2
            go_wp2
            go_ret2
            exact ⟨rfl, rfl⟩
        · obtain rfl : n = k := by omega
          have hsum : S = ws.sum := by rw [hS.out, List.take_of_length_le (Nat.le_of_eq Hx.out.1)]
          have hc := seedErr_cases Hnl.out (goodTo_all hg Hx.out.1)
          rw [He.out, ← hsum] at hc
          by_cases hz : S = 0
          · rw [if_pos (.inl hz)] at hc
            injection hc with hc
            subst hc
            have Hz := Lib.hid hz
            have hz2 : (S == 0) = true := by simpa using hz
            clear hz hsum
            go_wp2
            go_ret2
            exact ⟨rfl, rfl⟩
          · have hz2 : (S == 0) = false := by simpa using hz
            by_cases hs : steps < 0
            · rw [if_pos (.inr hs)] at hc
              injection hc with hc
              subst hc
              clear hz hsum
              go_wp2
              go_ret2
              exact ⟨rfl, rfl⟩
            · rw [if_neg (by omega)] at hc
              cases hc

end Go.Proofs.Ytjemlenjencbkaa
