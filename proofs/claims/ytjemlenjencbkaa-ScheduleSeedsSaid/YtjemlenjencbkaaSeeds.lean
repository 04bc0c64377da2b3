/- The walks of picks by chance: what schedule.Seeded and the document's Seeded answer, and that the law ScheduleSeeds answers true. -/
import Derived.Test.YtjemlenjencbkaaRounds
namespace Go.Proofs.Ytjemlenjencbkaa
open Go.RowKit

/-- Which weight a number falls to. -/
def pickOf : List Int → Int → Nat
  | [], _ => 0
  | w :: ws, r => if r < w then 0 else pickOf ws (r - w) + 1

theorem drop_at {ws : List Int} {j : Nat} {x : Int} (h : Hid (ws[j]? = some x)) : ws.drop j = x :: ws.drop (j + 1) := by
  have h := h.out
  obtain ⟨hj, rfl⟩ := List.getElem?_eq_some_iff.1 h
  exact List.drop_eq_getElem_cons hj

/-- The next seed. -/
def nextSeed (s : Int) : Int := IntKind.u64.wrap (IntKind.u64.wrap (s * 6364136223846793005) + 1442695040888963407)
/-- The number that falls to a weight. -/
def lot (ws : List Int) (s : Int) : Int := nextSeed s / 8589934592 % ws.sum
def seedPicks (ws : List Int) : Int → Nat → List Int
  | _, 0 => []
  | s, k + 1 => (pickOf ws (lot ws s) : Int) :: seedPicks ws (nextSeed s) k

theorem nextSeed_bd (s : Int) : 0 ≤ nextSeed s ∧ nextSeed s ≤ 18446744073709551615 := by
  have h : ∀ x : Int, 0 ≤ IntKind.u64.wrap x ∧ IntKind.u64.wrap x ≤ 18446744073709551615 := fun x => by
    simp only [IntKind.wrap, IntKind.signed, IntKind.bits]
    simp
    omega
  exact h _

theorem seedPicks_length (ws : List Int) (k : Nat) : ∀ s, (seedPicks ws s k).length = k := by
  induction k with
  | zero => intro s; rfl
  | succ k ih => intro s; simp [seedPicks, ih]

/-- The picks made so far, the one that is being made, and what is not written yet. -/
def pickRow (ps : List Int) (j : Nat) (r : Nat) : List Value := ps.map (Value.int .i64) ++ .int .i64 j :: List.replicate r (.int .i64 0)
theorem pickRow_set (ps : List Int) (j r : Nat) : (pickRow ps j r).set ps.length (.int .i64 (j + 1 : Int)) = pickRow ps (j + 1) r := by
  unfold pickRow
  rw [List.set_append_right _ _ (by simp)]
  simp
theorem pickRow_at (ps : List Int) (j r : Nat) : (pickRow ps j r)[ps.length]? = some (.int .i64 j) := by
  unfold pickRow
  rw [List.getElem?_append_right (by simp)]
  simp
theorem pickRow_next (ps : List Int) (j r : Nat) : pickRow ps j (r + 1) = pickRow (ps ++ [(j : Int)]) 0 r := by
  simp [pickRow, List.replicate_succ]
theorem pickRow_last (ps : List Int) (j : Nat) : pickRow ps j 0 = (ps ++ [(j : Int)]).map (Value.int .i64) := by
  simp [pickRow]

/-- The number that stands in a cell. -/
def cellInt (w : World) (g k : Nat) : Int := match w.cell? ⟨g, k, none⟩ with | some v => intOf v | none => 0
theorem cellInt_of {w : World} {g k : Nat} {x : Int} (h : w.cell? ⟨g, k, none⟩ = some (.int .i64 x)) : cellInt w g k = x := by simp [cellInt, h, intOf]

theorem lot_bd {ws : List Int} {s S t : Int} (ht : t = nextSeed s) (hS : Hid (S = ws.sum)) (h1 : 1 ≤ S) (h3 : S ≤ 1048576) (h0 : 0 ≤ t) (h2 : t ≤ 18446744073709551615) :
    wrap64 ((t / 8589934592).tmod S) = lot ws s ∧ 0 ≤ lot ws s ∧ lot ws s < S := by
  have e : lot ws s = t / 8589934592 % S := by rw [hS.out, ht]; rfl
  have a : 0 ≤ t / 8589934592 := by omega
  have a2 : t / 8589934592 ≤ 2147483647 := by omega
  have b : 0 ≤ t / 8589934592 % S := Int.emod_nonneg _ (by omega)
  have c : t / 8589934592 % S < S := Int.emod_lt_of_pos _ (by omega)
  rw [e, Int.tmod_eq_emod_of_nonneg a]
  exact ⟨IntWalk.wrap64_in _ (by omega), b, c⟩

theorem quo_same {t : Int} (h0 : 0 ≤ t) (h2 : t ≤ 18446744073709551615) : IntKind.u64.wrap (t.tdiv 8589934592) = t / 8589934592 := by
  rw [Int.tdiv_eq_ediv_of_nonneg h0]
  simp only [IntKind.wrap, IntKind.signed, IntKind.bits]
  simp
  omega

theorem pick_stop {ws : List Int} {z L x : Int} {j : Nat} (h : Hid (pickOf ws z = j + pickOf (ws.drop j) L)) (hx : Hid (ws[j]? = some x)) (hlt : L < x) : pickOf ws z = j := by
  rw [h.out, drop_at hx, pickOf, if_pos hlt]
  rfl
theorem pick_on {ws : List Int} {z L x : Int} {j : Nat} (h : Hid (pickOf ws z = j + pickOf (ws.drop j) L)) (hx : Hid (ws[j]? = some x)) (hge : x ≤ L) : Hid (pickOf ws z = (j + 1) + pickOf (ws.drop (j + 1)) (L - x)) := by
  show _ = _
  rw [h.out, drop_at hx, pickOf, if_neg (by omega)]
  omega
theorem sum_on {ws : List Int} {L x : Int} {j : Nat} (h : Hid (L < (ws.drop j).sum)) (hx : Hid (ws[j]? = some x)) : Hid (L - x < (ws.drop (j + 1)).sum) := by
  show _ < _
  have := h.out
  rw [drop_at hx, List.sum_cons] at this
  omega
theorem lt_of_sum {ws : List Int} {L : Int} {j n : Nat} (h : Hid (L < (ws.drop j).sum)) (h0 : 0 ≤ L) (hn : ws.length = n) : j < n := by
  rcases Nat.lt_or_ge j n with h' | h'
  · exact h'
  · have := h.out
    rw [List.drop_eq_nil_of_le (by omega)] at this
    simp at this
    omega

/-- The error's number, if there is one. -/
def seedErr (ws : List Int) (steps : Int) : Option Int :=
  if 16 < ws.length ∨ 65536 < steps then some 3 else if ws.any (fun x => decide (x < 0) || decide (65536 < x)) then some 2 else if ws.sum = 0 ∨ steps < 0 then some 2 else none

theorem take_sum {ws : List Int} {j : Nat} {x S : Int} (h : Hid (ws[j]? = some x)) (hS : Hid (S = (ws.take j).sum)) : Hid (S + x = (ws.take (j + 1)).sum) := by
  show _ = _
  rw [List.take_add_one, h.out, hS.out]
  simp

set_option maxHeartbeats 400000 in
theorem seeded_ok (A : Option Addr) (n c : Nat) (ws : List Int) (seed : Int) (m : Nat) (w : World) (hx : Ints w A n ws) (hn : n ≤ 16) (hm : m ≤ 65536)
    (hgood : ∀ x ∈ ws, 0 ≤ x ∧ x ≤ 65536) (hsum : ws.sum ≠ 0) (hs0 : 0 ≤ seed) (hs1 : seed ≤ 18446744073709551615) :
    Calls Try.prog 11 #[.int .u64 seed, .slice A n c, .int .i64 m] w fun e w' => ∃ v, e = .returned (.tuple #[v, .int .i64 0]) ∧ w'.ownsRow w.heap.size 3 1 v m ((seedPicks ws seed m).map (Value.int .i64)) ∧ Ext w w' := by
  have Hx := Lib.hid hx; clear hx
  have Hg := Lib.hid hgood; clear hgood
  have Hs := Lib.hid hsum; clear hsum
  go_enter Try.func11, Try.ntmps11
  go_wp2
  go_loop [8, 23] (fun s i => ∃ (k : Nat) (S : Int), k ≤ n ∧ 0 ≤ S ∧ S ≤ k * 65536 ∧ i = .int .i64 k ∧ s = .int .i64 S ∧ Hid (S = (ws.take k).sum)) (fun _ i => n - (intOf i).toNat)
  case atStart => exact ⟨0, 0, Nat.zero_le _, by omega, by omega, rfl, rfl, rfl⟩
  case round =>
    obtain ⟨k, S, hk, hS0, hS1, rfl, rfl, hS⟩ := hrel
    by_cases hlt : k < n
    · obtain ⟨b, off, x, rfl, _, hxk, hca⟩ := Hx.out.at_ hlt
      obtain ⟨hx0, hx1⟩ := Hg.out x (List.mem_of_getElem? hxk.out)
      go_wp2
      go_round
      case rel => exact ⟨k + 1, S + x, by omega, by omega, by omega, by go_num, rfl, take_sum hxk hS⟩
      case measure => simp [intOf]; omega
    · obtain rfl : n = k := by omega
      have hS2 : S ≠ 0 := by rw [hS.out, List.take_of_length_le (Nat.le_of_eq Hx.out.1)]; exact Hs.out
      have hS3 : 1 ≤ S := by omega
      have hSq : (S == 0) = false := by simpa using hS2
      clear hS2
      have HS : Hid (S = ws.sum) := by show _ = _; rw [hS.out, List.take_of_length_le (Nat.le_of_eq Hx.out.1)]
      go_wp2_with (at_make; refine wpList_make1 _ rfl _ _ 22 rfl 3 (.int .i64 0) 8 infoInt rfl Try.underlying22 m rfl rfl (by omega) (by omega) ?_; intro w1 hown hgrow)
      have h0 : Ext w w1 := (Ext.rfl' w).grown hgrow (Nat.le_refl _) (fun k h => by cases h)
      clear hgrow
      go_loopw [0, 47] (fun sd i wr => ∃ (k : Nat) (ps : List Int) (s : Int), k ≤ m ∧ i = .int .i64 k ∧ sd = .int .u64 s ∧ 0 ≤ s ∧ s ≤ 18446744073709551615 ∧ Ext w wr ∧ Hid (ps.length = k) ∧
          Hid (seedPicks ws seed m = ps ++ seedPicks ws s (m - k)) ∧ wr.ownsRow w.heap.size 3 1 (.slice (some ⟨w.heap.size, 0, none⟩) m m) m (ps.map (Value.int .i64) ++ List.replicate (m - k) (.int .i64 0))) (fun _ i _ => m - (intOf i).toNat)
      case atStart => exact ⟨0, [], _, Nat.zero_le _, rfl, rfl, hs0, hs1, h0, rfl, rfl, hown⟩
      case round =>
        obtain ⟨k, ps, s, hk, rfl, rfl, hs0, hs1, hext, hpl, hps, hown⟩ := hrel
        by_cases hlt : k < m
        · obtain ⟨r, hr⟩ : ∃ r, r = m - k - 1 := ⟨_, rfl⟩
          have hown1 : wr.ownsRow w.heap.size 3 1 (.slice (some ⟨w.heap.size, 0, none⟩) m m) m (pickRow ps 0 r) := by
            have e : m - k = r + 1 := by omega
            rw [e] at hown
            exact hown
          have Hr := Lib.hid hr
          clear hown hr
          go_wp2
          generalize hT : IntKind.u64.wrap (IntKind.u64.wrap (s * 6364136223846793005) + 1442695040888963407) = t
          have hTs : t = nextSeed s := hT.symm
          have hTb := nextSeed_bd s
          rw [← hTs] at hTb
          obtain ⟨ht0, ht1⟩ := hTb
          obtain ⟨hq, hq0, hq1⟩ := lot_bd hTs HS hS3 (by omega) ht0 ht1
          have HT := Lib.hid hTs
          clear hT hTs
          rw [hq]
          clear hq
          generalize hZ : lot ws s = z at hq0 hq1 ⊢
          have HZ := Lib.hid hZ
          clear hZ
          obtain ⟨wo, rfl⟩ : ∃ wo : World, wo = wr := ⟨_, rfl⟩
          go_loopw [13] (fun l wi => ∃ (j : Nat) (L : Int), j < n ∧ l = .int .i64 L ∧ 0 ≤ L ∧ L ≤ S ∧ Ext w wi ∧ Hid (L < (ws.drop j).sum) ∧ Hid (pickOf ws z = j + pickOf (ws.drop j) L) ∧
            wi.ownsRow w.heap.size 3 1 (.slice (some ⟨w.heap.size, 0, none⟩) m m) m (pickRow ps j r)) (fun l wi => n - (cellInt wi w.heap.size k).toNat)
          case atStart =>
            have h1 : Hid (z < (ws.drop 0).sum) := by show _ < _; rw [List.drop_zero, ← HS.out]; exact hq1
            exact ⟨0, z, lt_of_sum h1 hq0 Hx.out.1, rfl, hq0, by omega, hext, h1, by show _ = _; simp, hown1⟩
          case round =>
            obtain ⟨j, L, hj, rfl, hL0, hL1, hext', hsm, hpk, hown'⟩ := hrel
            obtain ⟨b, off, x, rfl, hb, hxk, hca0⟩ := Hx.out.at_ hj
            obtain ⟨hx0, hx1⟩ := Hg.out x (List.mem_of_getElem? hxk.out)
            have hca : wr.cell? ⟨b, off + j, none⟩ = some (.int .i64 x) := (hext'.cell (p := ⟨b, off + j, none⟩) hb).trans hca0
            have hfree := hown'.frozenAt k
            have hcell := hown'.cellAt k (by omega)
            rw [← hpl.out, pickRow_at, hpl.out] at hcell
            by_cases hge : x ≤ L
            · have hon := sum_on hsm hxk
              have hj1 : j + 1 < n := lt_of_sum hon (by omega) Hx.out.1
              go_wp2
              have hown2 := (hown'.stored k (.int .i64 (j + 1 : Int))).1
              rw [← hpl.out, pickRow_set, hpl.out] at hown2
              have hc2 := hown2.cellAt k (by omega)
              rw [← hpl.out, pickRow_at, hpl.out] at hc2
              have hm1 := cellInt_of hcell
              have hm2 := cellInt_of hc2
              go_roundw
              case rel => exact ⟨j + 1, L - x, hj1, rfl, by omega, by omega, hext'.setCell (Nat.le_refl _) _, hon, pick_on hpk hxk hge, hown2⟩
              case measure =>
                rw [hm1, hm2]
                omega
            · have hlt' : L < x := by omega
              go_wp2
              have hpz := pick_stop hpk hxk hlt'
              go_roundw
              case rel =>
                refine ⟨k + 1, ps ++ [(j : Int)], _, by omega, by go_num, rfl, ht0, ht1, hext', by show _ = _; rw [List.length_append, hpl.out]; rfl, ?_, ?_⟩
                · show _ = _
                  have e : m - k = (m - (k + 1)) + 1 := by omega
                  rw [hps.out, e, seedPicks, HZ.out, hpz, ← HT.out]
                  simp
                · have e : r = m - (k + 1) := by have := Hr.out; omega
                  rw [← e]
                  have h := hown'
                  have e2 : pickRow ps j r = (ps ++ [(j : Int)]).map (Value.int .i64) ++ List.replicate r (.int .i64 0) := by simp [pickRow]
                  rwa [e2] at h
              case measure => simp [intOf]; omega
        · obtain rfl : m = k := by omega
          go_wp2
          go_ret2
          refine ⟨_, rfl, ?_, hext⟩
          have e := hps.out
          rw [Nat.sub_self] at e hown
          simp only [seedPicks, List.append_nil] at e
          rw [e]
          simpa using hown

theorem seedErr_long {ws : List Int} {steps : Int} (h : 16 < ws.length ∨ 65536 < steps) : seedErr ws steps = some 3 := if_pos h
theorem seedErr_weight {ws : List Int} {steps x : Int} {j : Nat} (h : ¬ (16 < ws.length ∨ 65536 < steps)) (hx : Hid (ws[j]? = some x)) (hb : x < 0 ∨ 65536 < x) : seedErr ws steps = some 2 := by
  unfold seedErr
  rw [if_neg h, if_pos]
  exact List.any_eq_true.2 ⟨x, List.mem_of_getElem? hx.out, by simpa using hb⟩
theorem seedErr_cases {ws : List Int} {steps : Int} (h : ¬ (16 < ws.length ∨ 65536 < steps)) (hg : ∀ x ∈ ws, 0 ≤ x ∧ x ≤ 65536) : seedErr ws steps = if ws.sum = 0 ∨ steps < 0 then some 2 else none := by
  unfold seedErr
  rw [if_neg h, if_neg]
  intro hc
  obtain ⟨x, hx, hb⟩ := List.any_eq_true.1 hc
  have := hg x hx
  simp at hb
  omega
/-- Of the weights looked at none is out of its range. -/
def GoodTo (ws : List Int) (k : Nat) : Prop := ∀ x ∈ ws.take k, 0 ≤ x ∧ x ≤ 65536
theorem goodTo_step {ws : List Int} {k : Nat} {x : Int} (h : GoodTo ws k) (hx : Hid (ws[k]? = some x)) (h0 : 0 ≤ x) (h1 : x ≤ 65536) : GoodTo ws (k + 1) := by
  intro y hy
  rw [List.take_add_one, hx.out] at hy
  rcases List.mem_append.1 hy with hy | hy
  · exact h y hy
  · simp at hy; subst hy; exact ⟨h0, h1⟩
theorem goodTo_all {ws : List Int} {k : Nat} (h : GoodTo ws k) (hk : ws.length = k) : ∀ x ∈ ws, 0 ≤ x ∧ x ≤ 65536 := by
  have := h
  unfold GoodTo at this
  rwa [List.take_of_length_le (Nat.le_of_eq hk)] at this

set_option maxHeartbeats 400000 in
theorem seeded_bad (A : Option Addr) (n c : Nat) (ws : List Int) (seed steps er : Int) (w : World) (hx : Ints w A n ws) (hbig : n ≤ 140737488355328) (he : seedErr ws steps = some er) :
    Calls Try.prog 11 #[.int .u64 seed, .slice A n c, .int .i64 steps] w fun e w' => e = .returned (.tuple #[.slice none 0 0, .int .i64 er]) ∧ w' = w := by
  have Hx := Lib.hid hx; clear hx
  have He := Lib.hid he; clear he
  by_cases h1 : 16 < n
  · have e3 : er = 3 := by have := He.out; rw [seedErr_long (.inl (by rw [Hx.out.1]; exact h1))] at this; injection this with this; exact this.symm
    subst e3
    go_enter Try.func11, Try.ntmps11
    go_wp2
    go_ret2
    exact ⟨rfl, rfl⟩
  · have h1' : n ≤ 16 := by omega
    clear h1
    by_cases h2 : 65536 < steps
    · have e3 : er = 3 := by have := He.out; rw [seedErr_long (.inr h2)] at this; injection this with this; exact this.symm
      subst e3
      go_enter Try.func11, Try.ntmps11
      go_wp2
      go_ret2
      exact ⟨rfl, rfl⟩
    · have h2' : steps ≤ 65536 := by omega
      clear h2
      have hnl : ¬ (16 < ws.length ∨ 65536 < steps) := by rw [Hx.out.1]; omega
      have Hnl := Lib.hid hnl; clear hnl
      go_enter Try.func11, Try.ntmps11
      go_wp2
      go_loop [8, 23] (fun s i => ∃ (k : Nat) (S : Int), k ≤ n ∧ 0 ≤ S ∧ S ≤ k * 65536 ∧ i = .int .i64 k ∧ s = .int .i64 S ∧ Hid (S = (ws.take k).sum) ∧ GoodTo ws k) (fun _ i => n - (intOf i).toNat)
      case atStart => exact ⟨0, 0, Nat.zero_le _, by omega, by omega, rfl, rfl, rfl, fun x hx => by simp at hx⟩
      case round =>
        obtain ⟨k, S, hk, hS0, hS1, rfl, rfl, hS, hg⟩ := hrel
        by_cases hlt : k < n
        · obtain ⟨b, off, x, rfl, _, hxk, hca⟩ := Hx.out.at_ hlt
          by_cases hx0 : 0 ≤ x
          · by_cases hx1 : x ≤ 65536
            · go_wp2
              go_round
              case rel => exact ⟨k + 1, S + x, by omega, by omega, by omega, by go_num, rfl, take_sum hxk hS, goodTo_step hg hxk hx0 hx1⟩
              case measure => simp [intOf]; omega
            · have hx1' : 65536 < x := by omega
              have e2 : er = 2 := by have := He.out; rw [seedErr_weight Hnl.out hxk (.inr hx1')] at this; injection this with this; exact this.symm
              clear hx1
              subst e2
              go_wp2
              go_ret2
              exact ⟨rfl, rfl⟩
          · have hx0' : x < 0 := by omega
            have e2 : er = 2 := by have := He.out; rw [seedErr_weight Hnl.out hxk (.inl hx0')] at this; injection this with this; exact this.symm
            clear hx0
            subst e2
            go_wp2
            go_ret2
            exact ⟨rfl, rfl⟩
        · obtain rfl : n = k := by omega
          have hsum : S = ws.sum := by rw [hS.out, List.take_of_length_le (Nat.le_of_eq Hx.out.1)]
          have hc := seedErr_cases Hnl.out (goodTo_all hg Hx.out.1)
          rw [He.out, ← hsum] at hc
          by_cases hz : S = 0
          · rw [if_pos (.inl hz)] at hc
            injection hc with hc
            subst hc
            have Hz := Lib.hid hz
            have hz2 : (S == 0) = true := by simpa using hz
            clear hz hsum
            go_wp2
            go_ret2
            exact ⟨rfl, rfl⟩
          · have hz2 : (S == 0) = false := by simpa using hz
            by_cases hs : steps < 0
            · rw [if_pos (.inr hs)] at hc
              injection hc with hc
              subst hc
              clear hz hsum
              go_wp2
              go_ret2
              exact ⟨rfl, rfl⟩
            · rw [if_neg (by omega)] at hc
              cases hc

end Go.Proofs.Ytjemlenjencbkaa
