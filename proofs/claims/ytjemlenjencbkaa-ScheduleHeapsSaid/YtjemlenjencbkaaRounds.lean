/- The walks of picks in turn: what schedule.Round and the document's Round answer, and that the law ScheduleRounds answers true. -/
import Derived.Test.YtjemlenjencbkaaProg
import Derived.Test.YtjemlenjencbkaaBase
import Derived.Laws.MakeOwn
namespace Go.Proofs.Ytjemlenjencbkaa
open Go.RowKit

theorem infoInt : (Try.prog.info? 3).map (fun i => (i.zero, i.size, i.bytes)) = some (some (.int .i64 0), 1, 8) := by kernel_rfl

set_option maxHeartbeats 400000 in
theorem sameInts_any (A B : Option Addr) (n c m d : Nat) (xs ys : List Int) (w : World) (hx : Ints w A n xs) (hy : Ints w B m ys) (ln : n ≤ 140737488355328) :
    Calls Try.prog 9 #[.slice A n c, .slice B m d] w fun e w' => e = .returned (.bool (decide (xs = ys))) ∧ ∃ k, w' = w.drewN k := by
  have Hx := Lib.hid hx; clear hx
  have Hy := Lib.hid hy; clear hy
  by_cases hnm : n = m
  · subst hnm
    have hb : ((n : Int) != (n : Int)) = false := by simp
    go_enter Try.func9, Try.ntmps9
    go_wp2
    go_loopw [5] (fun i wr => ∃ k q : Nat, k ≤ n ∧ i = .int .i64 k ∧ wr = w.drewN q ∧ Hid (xs.take k = ys.take k)) (fun i _ => n - (intOf i).toNat)
    case atStart => exact ⟨0, 0, Nat.zero_le _, rfl, rfl, rfl⟩
    case round =>
      obtain ⟨k, q, hk, rfl, rfl, he⟩ := hrel
      by_cases hlt : k < n
      · obtain ⟨b, off, x, hA, _, hxk, hca⟩ := Hx.out.at_ hlt
        obtain ⟨b', off', y, hB, _, hyk, hcb⟩ := Hy.out.at_ hlt
        subst hA hB
        go_wp2
        go_quiet (fail)
        go_wp2
        · have hne : (x != y) = true := by assumption
          go_ret
          exact ⟨ret_bool (Eq.symm (decide_eq_false (ne_of_at hxk hyk (by simpa using hne)))), q + nq, by simp⟩
        · have heq : (x != y) = false := by assumption
          obtain rfl : x = y := by simpa using heq
          go_roundw
          case rel => exact ⟨k + 1, _, by omega, by go_num, rfl, take_eq_step he hxk hyk⟩
          case measure => simp [intOf]; omega
      · obtain rfl : n = k := by omega
        go_wp2
        go_ret
        exact ⟨ret_bool (Eq.symm (decide_eq_true (take_all_eq he Hx.out.1 Hy.out.1))), q, rfl⟩
  · have hb : ((n : Int) != (m : Int)) = true := by simp; omega
    go_enter Try.func9, Try.ntmps9
    go_wp2
    go_ret
    refine ⟨ret_bool (Eq.symm (decide_eq_false (fun e => ?_))), 0, rfl⟩
    subst e
    exact hnm (Hx.out.1.symm.trans Hy.out.1)

/-- The first n picks of threads in turn. -/
def turns (threads : Int) (n : Nat) : List Int := (List.range n).map fun i : Nat => (i : Int) % threads

theorem turns_length (t : Int) (n : Nat) : (turns t n).length = n := by simp [turns]
theorem turns_succ (t : Int) (n : Nat) : turns t (n + 1) = turns t n ++ [(n : Int) % t] := by simp [turns, List.range_succ]

/-- The error's number of picks in turn that may not be. -/
def roundErr (s : Int) : Int := if 65536 < s then 3 else 2
theorem tuple2_int {v : Value} {a b : Int} (h : a = b) : Ending.returned (.tuple #[v, .int .i64 a]) = .returned (.tuple #[v, .int .i64 b]) := by rw [h]

theorem elemInt : Elem Try.prog 3 1 8 := Elem.of infoInt rfl (by decide) (by decide)

set_option maxHeartbeats 400000 in
theorem refRound_ok (t s : Int) (w : World) (h1 : 1 ≤ t) (h2 : t ≤ 16) (h3 : 0 ≤ s) (h4 : s ≤ 65536) :
    Calls Try.prog 8 #[.int .i64 t, .int .i64 s] w fun e w' => ∃ v, e = .returned (.tuple #[v, .int .i64 0]) ∧ w'.ownsRow w.heap.size 3 1 v s.toNat ((turns t s.toNat).map (Value.int .i64)) ∧ Ext w w' := by
  obtain ⟨n, rfl⟩ := Int.eq_ofNat_of_zero_le h3
  have Hlen := Lib.hid (turns_length t)
  go_enter Try.func8, Try.ntmps8
  go_wp2
  go_loopw [6, 7] (fun v i wr => ∃ k : Nat, k ≤ n ∧ i = .int .i64 k ∧ wr.ownsRow w.heap.size 3 1 v k ((turns t k).map (Value.int .i64)) ∧ Ext w wr) (fun _ i _ => n - (intOf i).toNat)
  case atStart => exact ⟨0, Nat.zero_le _, rfl, World.ownsRow_nil _ _ _ _, Ext.rfl' w⟩
  case round =>
    obtain ⟨k, hk, rfl, hown, hext⟩ := hrel
    go_wp2_with (at_builtin; refine wpList_push _ rfl _ _ 22 rfl w.heap.size 3 1 8 elemInt Try.underlying22 _ _ _ rfl hown _ rfl rfl (by simp [Value.oneCell']) (by omega) hext.size ?_; intro v' w1 hown' hgrow hat)
    · go_roundw
      case rel => exact ⟨k + 1, by omega, by go_num, by rw [turns_succ]; simpa using hown', hext.trans (own_below hown hgrow hext.size)⟩
      case measure => simp [intOf]; omega
    · obtain rfl : n = k := by omega
      go_ret2
      exact ⟨_, rfl, by simpa using hown, hext⟩

set_option maxHeartbeats 400000 in
theorem refRound_bad (t s : Int) (w : World) (h : 65536 < s ∨ t < 1 ∨ 16 < t ∨ s < 0) :
    Calls Try.prog 8 #[.int .i64 t, .int .i64 s] w fun e w' => e = .returned (.tuple #[.slice none 0 0, .int .i64 (roundErr s)]) ∧ w' = w := by
  by_cases h1 : 65536 < s
  · go_enter Try.func8, Try.ntmps8
    go_wp2
    go_ret2
    exact ⟨tuple2_int (by unfold roundErr; rw [if_pos h1]), rfl⟩
  · have h0 : s ≤ 65536 := by omega
    clear h1
    by_cases h2 : t < 1
    · go_enter Try.func8, Try.ntmps8
      go_wp2
      go_ret2
      exact ⟨tuple2_int (by unfold roundErr; rw [if_neg (by omega)]), rfl⟩
    · have h2' : 1 ≤ t := by omega
      by_cases h3 : 16 < t
      · go_enter Try.func8, Try.ntmps8
        go_wp2
        go_ret2
        exact ⟨tuple2_int (by unfold roundErr; rw [if_neg (by omega)]), rfl⟩
      · have h3' : t ≤ 16 := by omega
        have h4' : s < 0 := by omega
        go_enter Try.func8, Try.ntmps8
        go_wp2
        go_ret2
        exact ⟨tuple2_int (by unfold roundErr; rw [if_neg (by omega)]), rfl⟩

set_option maxHeartbeats 400000 in
theorem round_bad (t s : Int) (w : World) (h : 65536 < s ∨ t < 1 ∨ 16 < t ∨ s < 0) :
    Calls Try.prog 7 #[.int .i64 t, .int .i64 s] w fun e w' => e = .returned (.tuple #[.slice none 0 0, .int .i64 (roundErr s)]) ∧ w' = w := by
  by_cases h1 : 65536 < s
  · go_enter Try.func7, Try.ntmps7
    go_wp2
    go_ret2
    exact ⟨tuple2_int (by unfold roundErr; rw [if_pos h1]), rfl⟩
  · have h0 : s ≤ 65536 := by omega
    clear h1
    by_cases h2 : t < 1
    · go_enter Try.func7, Try.ntmps7
      go_wp2
      go_ret2
      exact ⟨tuple2_int (by unfold roundErr; rw [if_neg (by omega)]), rfl⟩
    · have h2' : 1 ≤ t := by omega
      by_cases h3 : 16 < t
      · go_enter Try.func7, Try.ntmps7
        go_wp2
        go_ret2
        exact ⟨tuple2_int (by unfold roundErr; rw [if_neg (by omega)]), rfl⟩
      · have h3' : t ≤ 16 := by omega
        have h4' : s < 0 := by omega
        go_enter Try.func7, Try.ntmps7
        go_wp2
        go_ret2
        exact ⟨tuple2_int (by unfold roundErr; rw [if_neg (by omega)]), rfl⟩

theorem info_parts' : ∃ i, Try.prog.info? 3 = some i ∧ i.zero = some (.int .i64 0) ∧ i.size = 1 ∧ i.bytes = 8 := info_parts infoInt

/-- The picks made so far, and what is not written yet. -/
def filled (t : Int) (k n : Nat) : List Value := (turns t k).map (Value.int .i64) ++ List.replicate (n - k) (.int .i64 0)

theorem filled_set (t : Int) (k n : Nat) (h : k < n) : (filled t k n).set k (.int .i64 ((k : Int) % t)) = filled t (k + 1) n := by
  unfold filled
  rw [turns_succ, List.set_append_right _ _ (by simp [turns_length])]
  simp only [List.length_map, turns_length, Nat.sub_self]
  obtain ⟨m, hm⟩ : ∃ m, n - k = m + 1 := ⟨n - k - 1, by omega⟩
  rw [hm, show n - (k + 1) = m from by omega, List.replicate_succ]
  simp

set_option maxHeartbeats 400000 in
theorem round_ok (t s : Int) (w : World) (h1 : 1 ≤ t) (h2 : t ≤ 16) (h3 : 0 ≤ s) (h4 : s ≤ 65536) :
    Calls Try.prog 7 #[.int .i64 t, .int .i64 s] w fun e w' => ∃ v, e = .returned (.tuple #[v, .int .i64 0]) ∧ w'.ownsRow w.heap.size 3 1 v s.toNat ((turns t s.toNat).map (Value.int .i64)) ∧ Ext w w' := by
  obtain ⟨n, rfl⟩ := Int.eq_ofNat_of_zero_le h3
  go_enter Try.func7, Try.ntmps7
  go_wp2_with (at_make; refine wpList_make1 _ rfl _ _ 22 rfl 3 (.int .i64 0) 8 infoInt rfl Try.underlying22 n rfl rfl (by omega) (by omega) ?_; intro w1 hown hgrow)
  have h0 : Ext w w1 := (Ext.rfl' w).grown hgrow (Nat.le_refl _) (fun k h => by cases h)
  have hs1 := hgrow.size
  clear hgrow
  go_loopw [7, 24] (fun _ i wr => ∃ k : Nat, k ≤ n ∧ i = .int .i64 k ∧ wr.ownsRow w.heap.size 3 1 (.slice (some ⟨w.heap.size, 0, none⟩) n n) n (filled t k n) ∧ Ext w wr) (fun _ i _ => n - (intOf i).toNat)
  case atStart => exact ⟨0, Nat.zero_le _, rfl, by simpa [filled, turns] using hown, h0⟩
  case round =>
    obtain ⟨k, hk, rfl, hown, hext⟩ := hrel
    by_cases hlt : k < n
    · have hfree := hown.frozenAt k
      have hcell := hown.cellAt k (by omega)
      obtain ⟨u, hu⟩ : ∃ u, (filled t k n)[k]? = some u := ⟨_, List.getElem?_eq_getElem (by have := hown.1; omega)⟩
      rw [hu] at hcell
      clear hu
      go_wp2
      go_roundw
      case rel => exact ⟨k + 1, by omega, by go_num, by rw [← filled_set t k n hlt]; exact (hown.stored k _).1, hext.setCell (Nat.le_refl _) _⟩
      case measure => simp [intOf]; omega
    · obtain rfl : n = k := by omega
      go_wp2
      go_ret2
      exact ⟨_, rfl, by simpa [filled] using hown, hext⟩

theorem num_any (e : Int) (w : World) : Calls Try.prog 10 #[.int .i64 e] w fun r w' => r = .returned (.int .i64 e) ∧ w' = w := by
  go_enter Try.func10, Try.ntmps10
  go_wp2
  go_ret
  exact ⟨rfl, rfl⟩

set_option maxHeartbeats 400000 in
theorem scheduleRounds_walk (t s : Int) (w : World) : Calls Try.prog 3 #[.int .i64 t, .int .i64 s] w fun e w' => e = .returned (.bool true) ∧ Ext w w' := by
  by_cases h : 65536 < s ∨ t < 1 ∨ 16 < t ∨ s < 0
  · have H := Lib.hid h
    clear h
    have hq : (roundErr s == roundErr s) = true := by simp
    go_enter Try.func3, Try.ntmps3
    go_wp2_with fail
    refine (round_bad t s _ H.out).mono ?_
    rintro e w1 ⟨rfl, rfl⟩
    go_wp2_with fail
    refine (refRound_bad t s _ H.out).mono ?_
    rintro e w1 ⟨rfl, rfl⟩
    go_wp2_with fail
    refine (sameInts_any none none 0 0 0 0 [] [] _ ⟨rfl, Rd.nil _ _⟩ ⟨rfl, Rd.nil _ _⟩ (by omega)).mono ?_
    rintro e w2 ⟨rfl, k, rfl⟩
    go_wp2_with fail
    refine (num_any _ _).mono ?_
    rintro e w2 ⟨rfl, rfl⟩
    go_wp2
    go_ret
    exact ⟨rfl, Ext.drawn _ _⟩
  · have h1 : 1 ≤ t := by omega
    have h2 : t ≤ 16 := by omega
    have h3 : 0 ≤ s := by omega
    have h4 : s ≤ 65536 := by omega
    clear h
    go_enter Try.func3, Try.ntmps3
    go_wp2_with fail
    refine (round_ok t s _ h1 h2 h3 h4).mono ?_
    rintro e w1 ⟨v, rfl, hown, hext⟩
    obtain ⟨A, c, rfl⟩ := own_form hown
    go_wp2_with fail
    refine (refRound_ok t s _ h1 h2 h3 h4).mono ?_
    rintro e w2 ⟨v, rfl, hown2, hext2⟩
    obtain ⟨B, d, rfl⟩ := own_form hown2
    go_wp2_with fail
    refine (sameInts_any A B _ c _ d (turns t s.toNat) (turns t s.toNat) _ ⟨turns_length _ _, (Rd.of_own hown).ext hext2⟩ ⟨turns_length _ _, Rd.of_own hown2⟩ (by omega)).mono ?_
    rintro e w3 ⟨rfl, k, rfl⟩
    go_wp2_with fail
    refine (num_any _ _).mono ?_
    rintro e w3 ⟨rfl, rfl⟩
    go_wp2
    go_ret
    exact ⟨rfl, (hext.next hext2).next (Ext.drawn _ _)⟩

end Go.Proofs.Ytjemlenjencbkaa
