/- The free list by plain lists: what both sides' loops compute. No program stands here. -/
import Derived.Test.YtfbacopjookplaaWalker
namespace Go.Proofs.Ytfbacopjookplaa

/-- The slots from a slot on, each marked when it comes; none: one comes that may not, or a word is no plain link. -/
def spF (S : Int) (wd : Int → Int) : Nat → List Bool → Int → Option (List Int)
  | 0, _, s => if s < 0 then some [] else none
  | f + 1, seen, s => if s < 0 then some [] else if (newF S seen s).2.1 = false then none else if wd s ≤ 2147483647 then (spF S wd f (newF S seen s).2.2 (wd s - 1)).map (s :: ·) else none

def falses (seen : List Bool) : Nat := seen.count false

theorem newF_neg {S : Int} {seen : List Bool} {s : Int} (h : s < 0) : newF S seen s = (s, true, seen) := if_pos h
theorem newF_cases (S : Int) (seen : List Bool) (s : Int) (h0 : 0 ≤ s) :
    newF S seen s = (0, false, seen) ∨ (newF S seen s = (s, true, seen.set s.toNat true) ∧ s < S ∧ s.toNat < seen.length ∧ falses seen = falses (seen.set s.toNat true) + 1) := by
  unfold newF
  rw [if_neg (by omega)]
  split
  · rename_i h
    obtain ⟨h1, h2⟩ := h
    obtain ⟨hl, hg⟩ := List.getElem?_eq_some_iff.1 h2
    refine .inr ⟨rfl, h1, hl, ?_⟩
    unfold falses
    rw [List.count_set hl, hg]
    have : 0 < seen.count false := List.count_pos_iff.2 (hg ▸ List.getElem_mem hl)
    simp
    omega
  · exact .inl rfl

theorem spF_neg {S : Int} {wd : Int → Int} {f : Nat} {seen : List Bool} {s : Int} (h : s < 0) : spF S wd f seen s = some [] := by
  cases f <;> simp [spF, h]
theorem spF_bad {S : Int} {wd : Int → Int} {f : Nat} {seen : List Bool} {s : Int} (h0 : 0 ≤ s) (h : newF S seen s = (0, false, seen)) : spF S wd f seen s = none := by
  cases f <;> simp [spF, show ¬ s < 0 from by omega, h]
theorem spF_go {S : Int} {wd : Int → Int} {seen : List Bool} {s : Int} (h0 : 0 ≤ s) (h : newF S seen s = (s, true, seen.set s.toNat true)) (hf : falses seen = falses (seen.set s.toNat true) + 1) :
    spF S wd (falses seen) seen s = if wd s ≤ 2147483647 then (spF S wd (falses (seen.set s.toNat true)) (seen.set s.toNat true) (wd s - 1)).map (s :: ·) else none := by
  rw [hf]
  simp [spF, show ¬ s < 0 from by omega, h]

/-- Where the program's loop stands: the slot that came last, whether it may, what has been told, the marks. -/
inductive FreeAt (S : Int) (wd : Int → Int) (total : Option (List Int)) : Int → Bool → List Int → List Bool → Prop
  | bad (s acc seen) : total = none → acc.length + falses seen ≤ S.toNat → FreeAt S wd total s false acc seen
  | done (s acc seen) : s < 0 → total = some acc → acc.length + falses seen ≤ S.toNat → FreeAt S wd total s true acc seen
  | at_ (s acc seen) : 0 ≤ s → s < S → total = (if wd s ≤ 2147483647 then (spF S wd (falses seen) seen (wd s - 1)).map (acc ++ s :: ·) else none) → acc.length + falses seen + 1 ≤ S.toNat → FreeAt S wd total s true acc seen

/-- A slot comes. -/
theorem freeAt_new {S : Int} {wd : Int → Int} {total : Option (List Int)} {acc : List Int} {seen : List Bool} {s : Int} (h : total = (spF S wd (falses seen) seen s).map (acc ++ ·)) (hl : acc.length + falses seen ≤ S.toNat) :
    FreeAt S wd total (newF S seen s).1 (newF S seen s).2.1 acc (newF S seen s).2.2 := by
  by_cases h0 : s < 0
  · rw [newF_neg h0]
    rw [spF_neg h0] at h
    exact .done _ _ _ h0 (by simpa using h) hl
  · rcases newF_cases S seen s (by omega) with hn | ⟨hn, h1, _, hf⟩
    · rw [hn]
      rw [spF_bad (by omega) hn] at h
      exact .bad _ _ _ h hl
    · rw [hn]
      rw [spF_go (by omega) hn hf] at h
      refine .at_ _ _ _ (by omega) h1 ?_ (by show _ + falses (seen.set s.toNat true) + 1 ≤ _; omega)
      rw [h]
      split
      · rw [Option.map_map]; rfl
      · rfl

/-- A round. -/
theorem freeAt_round {S : Int} {wd : Int → Int} {total : Option (List Int)} {acc : List Int} {seen : List Bool} {s : Int} (h : FreeAt S wd total s true acc seen) (h0 : 0 ≤ s) :
    FreeAt S wd total (plainF S seen (wd s)).1 (plainF S seen (wd s)).2.1 (acc ++ [s]) (plainF S seen (wd s)).2.2 := by
  cases h with
  | done _ _ _ h1 => omega
  | at_ _ _ _ hlt ht hl =>
    unfold plainF
    by_cases hx : wd s ≤ 2147483647
    · rw [if_pos hx] at ht ⊢
      refine freeAt_new ?_ (by simp; omega)
      rw [ht]
      simp
    · rw [if_neg hx] at ht ⊢
      exact .bad _ _ _ ht (by simp; omega)

end Go.Proofs.Ytfbacopjookplaa
