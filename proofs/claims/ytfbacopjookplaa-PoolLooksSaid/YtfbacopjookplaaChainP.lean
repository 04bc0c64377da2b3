/- A chain of slots by plain lists: what the pool's walker hands out, and how it ends. No program stands here. -/
import Derived.Test.YtfbacopjookplaaFreePure
namespace Go.Proofs.Ytfbacopjookplaa
open Go.RowKit

/-- A slot's link may stand in a chain. -/
def linkOK (mk : Bool) (x : Int) : Bool := decide (x < 8589934592 ∧ x % 4294967296 ≤ 2147483647) && (mk || decide (x < 4294967296))
/-- The slots from one on that has come, each with its link's mark; whether the chain ends as it should; the marks behind it. -/
def chainF (S : Int) (wd : Int → Int) (mk : Bool) : Nat → List Bool → Int → Bool → List (Int × Bool) × Bool × List Bool
  | 0, seen, _, fine => ([], fine, seen)
  | f + 1, seen, s, fine => if fine = true ∧ 0 ≤ s then
      if linkOK mk (wd s) = true then
        ((s, decide (4294967296 ≤ wd s)) :: (chainF S wd mk f (newF S seen (wd s % 4294967296 - 1)).2.2 (newF S seen (wd s % 4294967296 - 1)).1 (newF S seen (wd s % 4294967296 - 1)).2.1).1,
          (chainF S wd mk f (newF S seen (wd s % 4294967296 - 1)).2.2 (newF S seen (wd s % 4294967296 - 1)).1 (newF S seen (wd s % 4294967296 - 1)).2.1).2)
      else ([], false, seen)
    else ([], fine, seen)
/-- The chain from a word on. -/
def chainOf (S : Int) (wd : Int → Int) (mk : Bool) (seen : List Bool) (x : Int) : List (Int × Bool) × Bool × List Bool :=
  chainF S wd mk (falses (plainF S seen x).2.2 + 1) (plainF S seen x).2.2 (plainF S seen x).1 (plainF S seen x).2.1

theorem chainF_end {S : Int} {wd : Int → Int} {mk : Bool} {seen : List Bool} {s : Int} {fine : Bool} (h : ¬ (fine = true ∧ 0 ≤ s)) : ∀ f, chainF S wd mk f seen s fine = ([], fine, seen)
  | 0 => rfl
  | f + 1 => by unfold chainF; rw [if_neg h]
/-- What newF answers: nothing, or a slot that is marked from now on. -/
theorem newF_all (S : Int) (seen : List Bool) (s : Int) : (newF S seen s = (s, true, seen) ∧ s < 0) ∨ (newF S seen s = (0, false, seen) ∧ 0 ≤ s) ∨
    (newF S seen s = (s, true, seen.set s.toNat true) ∧ 0 ≤ s ∧ s < S ∧ s.toNat < seen.length ∧ falses seen = falses (seen.set s.toNat true) + 1) := by
  by_cases h : s < 0
  · exact .inl ⟨newF_neg h, h⟩
  · rcases newF_cases S seen s (by omega) with h1 | h1
    · exact .inr (.inl ⟨h1, by omega⟩)
    · exact .inr (.inr ⟨h1.1, by omega, h1.2⟩)
theorem newF_len (S : Int) (seen : List Bool) (s : Int) : (newF S seen s).2.2.length = seen.length := by
  rcases newF_all S seen s with ⟨h, _⟩ | ⟨h, _⟩ | ⟨h, _⟩ <;> simp [h]
/-- One for a slot that has come. -/
def one (s : Int) (fine : Bool) : Nat := if fine = true ∧ 0 ≤ s then 1 else 0
theorem newF_one (S : Int) (seen : List Bool) (s : Int) : falses (newF S seen s).2.2 + one (newF S seen s).1 (newF S seen s).2.1 = falses seen := by
  unfold one
  rcases newF_all S seen s with ⟨h, h0⟩ | ⟨h, _⟩ | ⟨h, h0, _, _, h1⟩
  · rw [h, if_neg (by simp; omega)]
    rfl
  · rw [h, if_neg (by simp)]
    rfl
  · rw [h, if_pos ⟨rfl, h0⟩]
    exact h1.symm
theorem plainF_one (S : Int) (seen : List Bool) (x : Int) : falses (plainF S seen x).2.2 + one (plainF S seen x).1 (plainF S seen x).2.1 = falses seen := by
  unfold plainF
  split
  · exact newF_one S seen _
  · rfl
theorem plainF_len (S : Int) (seen : List Bool) (x : Int) : (plainF S seen x).2.2.length = seen.length := by
  unfold plainF
  split
  · exact newF_len S seen _
  · rfl
theorem newF_lt {S : Int} (hS : 1 ≤ S) (seen : List Bool) (s : Int) : (newF S seen s).1 < S := by
  rcases newF_all S seen s with ⟨h, h0⟩ | ⟨h, _⟩ | ⟨h, _, h1, _⟩ <;> rw [h]
  · show s < S; omega
  · show (0 : Int) < S; omega
  · exact h1
theorem plainF_lt {S : Int} (hS : 1 ≤ S) (seen : List Bool) (x : Int) : (plainF S seen x).1 < S := by
  unfold plainF
  split
  · exact newF_lt hS seen _
  · show (0 : Int) < S; omega
theorem falses_le (seen : List Bool) : falses seen ≤ seen.length := List.count_le_length

/-- Slots are marked. -/
def marksOf (seen0 : List Bool) (l : List Int) : List Bool := l.foldl (fun q s => q.set s.toNat true) seen0
/-- Where a walk of a chain stands: what has been handed out, the marks, the slot that came last, whether it may. -/
structure ChAt (S : Int) (wd : Int → Int) (mk : Bool) (seen0 : List Bool) (tot : List (Int × Bool) × Bool × List Bool) (acc : List (Int × Bool)) (seen : List Bool) (s : Int) (fine : Bool) : Prop where
  eq : tot = (acc ++ (chainF S wd mk (falses seen + 1) seen s fine).1, (chainF S wd mk (falses seen + 1) seen s fine).2)
  len : acc.length + falses seen + one s fine ≤ S.toNat
  lt : s < S
  sl : seen.length = S.toNat
  det : fine = true → 0 ≤ s → seen = marksOf seen0 (acc.map Prod.fst ++ [s])
section
variable {S : Int} {wd : Int → Int} {mk : Bool} {seen0 : List Bool} {tot : List (Int × Bool) × Bool × List Bool} {acc : List (Int × Bool)} {seen : List Bool} {s : Int} {fine : Bool}
theorem chAt_start (hS : 1 ≤ S) (hl : seen.length = S.toNat) (x : Int) : ChAt S wd mk seen (chainOf S wd mk seen x) [] (plainF S seen x).2.2 (plainF S seen x).1 (plainF S seen x).2.1 := by
  refine ⟨rfl, ?_, plainF_lt hS seen x, (plainF_len S seen x).trans hl, ?_⟩
  · have h1 := plainF_one S seen x
    have h2 := falses_le seen
    simp
    omega
  · unfold plainF
    split
    · rcases newF_all S seen (x - 1) with ⟨h, h1⟩ | ⟨h, _⟩ | ⟨h, _⟩ <;> rw [h]
      · intro _ h2
        have h2 : 0 ≤ x - 1 := h2
        omega
      · intro h1
        cases h1
      · intro _ _
        rfl
    · intro h1
      cases h1
theorem ChAt.end_ (h : ChAt S wd mk seen0 tot acc seen s fine) (hn : ¬ (fine = true ∧ 0 ≤ s)) : tot = (acc, fine, seen) := by
  rw [h.eq, chainF_end hn]
  simp
theorem ChAt.stop (h : ChAt S wd mk seen0 tot acc seen s true) (h0 : 0 ≤ s) (hk : linkOK mk (wd s) = false) : tot = (acc, false, seen) := by
  rw [h.eq]
  unfold chainF
  rw [if_pos ⟨rfl, h0⟩, if_neg (by rw [hk]; simp)]
  simp
theorem ChAt.step (hS : 1 ≤ S) (h : ChAt S wd mk seen0 tot acc seen s true) (h0 : 0 ≤ s) (hk : linkOK mk (wd s) = true) :
    ChAt S wd mk seen0 tot (acc ++ [(s, decide (4294967296 ≤ wd s))]) (newF S seen (wd s % 4294967296 - 1)).2.2 (newF S seen (wd s % 4294967296 - 1)).1 (newF S seen (wd s % 4294967296 - 1)).2.1 := by
  have h1 := newF_one S seen (wd s % 4294967296 - 1)
  refine ⟨?_, ?_, newF_lt hS seen _, (newF_len S seen _).trans h.sl, ?_⟩
  · rw [h.eq]
    conv => lhs; unfold chainF
    rw [if_pos ⟨rfl, h0⟩, if_pos hk]
    generalize hq : newF S seen (wd s % 4294967296 - 1) = q at h1 ⊢
    by_cases hc : q.2.1 = true ∧ 0 ≤ q.1
    · have : falses seen = falses q.2.2 + 1 := by unfold one at h1; rw [if_pos hc] at h1; omega
      rw [this]
      simp
    · rw [chainF_end hc, chainF_end hc]
      simp
  · have h2 := h.len
    rw [show one s true = 1 from if_pos ⟨rfl, h0⟩] at h2
    rw [List.length_append, List.length_singleton]
    omega
  · have hd := h.det rfl h0
    rcases newF_all S seen (wd s % 4294967296 - 1) with ⟨h, h1⟩ | ⟨h, _⟩ | ⟨h, _⟩ <;> rw [h]
    · intro _ h2
      have h2 : 0 ≤ wd s % 4294967296 - 1 := h2
      omega
    · intro h1
      cases h1
    · intro _ _
      show seen.set (wd s % 4294967296 - 1).toNat true = _
      rw [hd]
      simp [marksOf]
theorem ChAt.more (h : ChAt S wd mk seen0 tot acc seen s true) (h0 : 0 ≤ s) : acc.length < S.toNat := by
  have h2 := h.len
  rw [show one s true = 1 from if_pos ⟨rfl, h0⟩] at h2
  omega
end

end Go.Proofs.Ytfbacopjookplaa
