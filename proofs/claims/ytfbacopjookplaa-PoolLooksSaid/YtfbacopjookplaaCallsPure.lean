/- When a run's calls go together, by plain lists. No program stands here. -/
import Derived.Test.YtfbacopjookplaaRun
namespace Go.Proofs.Ytfbacopjookplaa

/-- A call by itself. -/
def OkCall (T : Int) (x : Cl) : Prop :=
  (0 ≤ x.th ∧ x.th < T) ∧ 0 ≤ x.bg ∧ (x.en = -1 ∨ x.bg < x.en) ∧ (x.pt = -1 ∨ (x.bg < x.pt ∧ (x.en = -1 ∨ x.pt ≤ x.en))) ∧ 0 ≤ x.ak ∧ x.ak ≤ 6 ∧ (x.ak = 0 ↔ x.en = -1) ∧ (x.ak = 2 ∨ x.av = 0)
/-- Calls one behind the other, behind a beginning p. -/
def CallsA (T : Int) : Int → List Cl → Prop
  | _, [] => True
  | p, x :: l => OkCall T x ∧ p < x.bg ∧ CallsA T x.bg l
/-- The last call of a thread. -/
def lastBy (pre : List Cl) (t : Int) : Option Cl := (pre.filter (fun x => decide (x.th = t))).getLast?
/-- A thread's calls one behind the other. -/
def ThreadsOK : List Cl → List Cl → Prop
  | _, [] => True
  | pre, x :: l => (∀ y, lastBy pre x.th = some y → y.en ≠ -1 ∧ y.en < x.bg) ∧ ThreadsOK (pre ++ [x]) l
/-- No move is two calls' end, or one's end and one's beginning. -/
def EndsOK (l : List Cl) : Prop :=
  (∀ (i j : Nat) (x y : Cl), l[i]? = some x → l[j]? = some y → 0 ≤ x.en → x.en ≠ y.bg) ∧ (∀ (i j : Nat) (x y : Cl), l[i]? = some x → l[j]? = some y → i ≠ j → 0 ≤ x.en → x.en ≠ y.en)
def CallsOK (T : Int) (l : List Cl) : Prop := CallsA T (-1) l ∧ ThreadsOK [] l ∧ EndsOK l

/-- The beginning ahead of a place. -/
def prevBg (l : List Cl) : Nat → Int
  | 0 => -1
  | i + 1 => match l[i]? with
    | some x => x.bg
    | none => -1

theorem drop_cons {α : Type} {l : List α} {i : Nat} {x : α} (h : l[i]? = some x) : l.drop i = x :: l.drop (i + 1) := by
  obtain ⟨hl, hg⟩ := List.getElem?_eq_some_iff.1 h
  rw [List.drop_eq_getElem_cons hl, hg]
theorem callsA_step {T : Int} {l : List Cl} {i : Nat} {x : Cl} (hx : l[i]? = some x) : CallsA T (prevBg l i) (l.drop i) ↔ OkCall T x ∧ prevBg l i < x.bg ∧ CallsA T (prevBg l (i + 1)) (l.drop (i + 1)) := by
  rw [drop_cons hx, CallsA]
  simp only [prevBg, hx]
/-- Behind the whole first look: each call by itself, the beginnings rise. -/
theorem callsA_all {T p : Int} {l : List Cl} (h : CallsA T p l) : ∀ (i : Nat) (x : Cl), l[i]? = some x → OkCall T x ∧ p < x.bg := by
  induction l generalizing p with
  | nil => intro i x hx; simp at hx
  | cons y l ih =>
    intro i x hx
    obtain ⟨h1, h2, h3⟩ := h
    cases i with
    | zero => simp at hx; subst hx; exact ⟨h1, h2⟩
    | succ i =>
      obtain ⟨a, b⟩ := ih h3 i x (by simpa using hx)
      exact ⟨a, by omega⟩
theorem callsA_rise {T p : Int} {l : List Cl} (h : CallsA T p l) : ∀ (i j : Nat) (x y : Cl), l[i]? = some x → l[j]? = some y → i < j → x.bg < y.bg := by
  induction l generalizing p with
  | nil => intro i j x y hx; simp at hx
  | cons z l ih =>
    intro i j x y hx hy hij
    obtain ⟨h1, h2, h3⟩ := h
    cases j with
    | zero => omega
    | succ j =>
      cases i with
      | zero => simp at hx; subst hx; exact (callsA_all h3 j y (by simpa using hy)).2
      | succ i => exact ih h3 i j x y (by simpa using hx) (by simpa using hy) (by omega)
theorem threads_step {l : List Cl} {i : Nat} {x : Cl} (hx : l[i]? = some x) : ThreadsOK (l.take i) (l.drop i) ↔ (∀ y, lastBy (l.take i) x.th = some y → y.en ≠ -1 ∧ y.en < x.bg) ∧ ThreadsOK (l.take (i + 1)) (l.drop (i + 1)) := by
  rw [drop_cons hx, ThreadsOK, List.take_add_one, hx]
  rfl
theorem lastBy_snoc (pre : List Cl) (x : Cl) (t : Int) : lastBy (pre ++ [x]) t = if x.th = t then some x else lastBy pre t := by
  unfold lastBy
  rw [List.filter_append]
  by_cases h : x.th = t
  · simp [h]
  · simp [h]

/-- Where a thread's last call stands, or -1. -/
def LastAt (l : List Cl) (i : Nat) (t : Int) (j : Int) : Prop := (j = -1 ∧ lastBy (l.take i) t = none) ∨ ∃ (k : Nat) (y : Cl), j = k ∧ k < i ∧ l[k]? = some y ∧ lastBy (l.take i) t = some y
theorem lastAt_zero (l : List Cl) (t : Int) : LastAt l 0 t (-1) := .inl ⟨rfl, by simp [lastBy]⟩
theorem lastAt_same {l : List Cl} {i : Nat} {x : Cl} (hx : l[i]? = some x) : LastAt l (i + 1) x.th i := by
  refine .inr ⟨i, x, rfl, by omega, hx, ?_⟩
  rw [List.take_add_one, hx]
  simp [lastBy_snoc]
theorem lastAt_other {l : List Cl} {i : Nat} {x : Cl} {t j : Int} (hx : l[i]? = some x) (ht : x.th ≠ t) (h : LastAt l i t j) : LastAt l (i + 1) t j := by
  have e : lastBy (l.take (i + 1)) t = lastBy (l.take i) t := by
    rw [List.take_add_one, hx]
    simp [lastBy_snoc, ht]
  rcases h with ⟨h1, h2⟩ | ⟨k, y, h1, h2, h3, h4⟩
  · exact .inl ⟨h1, by rw [e]; exact h2⟩
  · exact .inr ⟨k, y, h1, by omega, h3, by rw [e]; exact h4⟩

/-- Two calls that may not both be. -/
def BadEnds (l : List Cl) (i j : Nat) : Prop := ∃ x y, l[i]? = some x ∧ l[j]? = some y ∧ 0 ≤ x.en ∧ (x.en = y.bg ∨ i ≠ j ∧ x.en = y.en)
theorem endsOK_iff (l : List Cl) : EndsOK l ↔ ∀ i j, ¬ BadEnds l i j := by
  constructor
  · rintro ⟨h1, h2⟩ i j ⟨x, y, hx, hy, h0, h | ⟨hne, h⟩⟩
    · exact h1 i j x y hx hy h0 h
    · exact h2 i j x y hx hy hne h0 h
  · intro h
    exact ⟨fun i j x y hx hy h0 he => h i j ⟨x, y, hx, hy, h0, .inl he⟩, fun i j x y hx hy hne h0 he => h i j ⟨x, y, hx, hy, h0, .inr ⟨hne, he⟩⟩⟩

/-- A move that is some call's beginning or end. -/
def mark (m : Int) (x : Cl) : Bool := decide (x.bg = m) || (decide (0 ≤ x.en) && decide (x.en = m))
theorem mark_snoc {l : List Cl} {i : Nat} {x : Cl} (hx : l[i]? = some x) (m : Int) : (l.take (i + 1)).any (mark m) = ((l.take i).any (mark m) || mark m x) := by
  rw [List.take_add_one, hx]
  simp
theorem mark_any {l : List Cl} {i : Nat} {m : Int} (h : (l.take i).any (mark m) = true) : ∃ j x, j < i ∧ l[j]? = some x ∧ (x.bg = m ∨ 0 ≤ x.en ∧ x.en = m) := by
  obtain ⟨x, hx, hm⟩ := List.any_eq_true.1 h
  obtain ⟨j, hj⟩ := List.getElem?_of_mem hx
  obtain ⟨hl, _⟩ := List.getElem?_eq_some_iff.1 hj
  rw [List.length_take] at hl
  refine ⟨j, x, by omega, by rwa [List.getElem?_take_of_lt (by omega)] at hj, ?_⟩
  simpa [mark] using hm
theorem mark_of {l : List Cl} {i j : Nat} {x : Cl} {m : Int} (hj : j < i) (hx : l[j]? = some x) (hm : x.bg = m ∨ 0 ≤ x.en ∧ x.en = m) : (l.take i).any (mark m) = true :=
  List.any_eq_true.2 ⟨x, List.mem_of_getElem? (i := j) (by rw [List.getElem?_take_of_lt hj]; exact hx), by simpa [mark] using hm⟩

/-- No bad pair among the first i calls. -/
def GoodTo (l : List Cl) (i : Nat) : Prop := ∀ a b, a < i → b < i → ¬ BadEnds l a b
/-- The beginning has come: no good. -/
theorem good_bg {T : Int} {l : List Cl} {i : Nat} {x : Cl} (hA : CallsA T (-1) l) (hx : l[i]? = some x) (h : (l.take i).any (mark x.bg) = true) : ¬ EndsOK l := by
  rw [endsOK_iff]
  obtain ⟨j, y, hj, hy, h1 | ⟨h0, h1⟩⟩ := mark_any h
  · have := callsA_rise hA j i y x hy hx hj
    omega
  · exact fun hh => hh j i ⟨y, x, hy, hx, h0, .inl h1⟩
theorem good_en {l : List Cl} {i : Nat} {x : Cl} (hx : l[i]? = some x) (h0 : 0 ≤ x.en) (h : (l.take i).any (mark x.en) = true) : ¬ EndsOK l := by
  rw [endsOK_iff]
  obtain ⟨j, y, hj, hy, h1 | ⟨_, h1⟩⟩ := mark_any h
  · exact fun hh => hh i j ⟨x, y, hx, hy, h0, .inl h1.symm⟩
  · exact fun hh => hh i j ⟨x, y, hx, hy, h0, .inr ⟨by omega, h1.symm⟩⟩
theorem good_step {T : Int} {l : List Cl} {i : Nat} {x : Cl} (hA : CallsA T (-1) l) (hx : l[i]? = some x) (hg : GoodTo l i) (h1 : (l.take i).any (mark x.bg) = false) (h2 : 0 ≤ x.en → (l.take i).any (mark x.en) = false) : GoodTo l (i + 1) := by
  intro a b ha hb hbad
  obtain ⟨y, z, hy, hz, h0, hh⟩ := hbad
  by_cases hai : a = i
  · subst hai
    rw [hx] at hy
    injection hy with hy
    subst hy
    by_cases hbi : b = a
    · subst hbi
      rw [hx] at hz
      injection hz with hz
      subst hz
      rcases hh with h | ⟨hne, _⟩
      · have := (callsA_all hA b x hx).1.2.2.1
        omega
      · exact hne rfl
    · have := mark_of (l := l) (i := a) (j := b) (m := x.en) (by omega) hz (by
        rcases hh with h | ⟨_, h⟩
        · exact .inl h.symm
        · exact .inr ⟨by omega, h.symm⟩)
      rw [h2 h0] at this
      cases this
  · by_cases hbi : b = i
    · subst hbi
      rw [hx] at hz
      injection hz with hz
      subst hz
      rcases hh with h | ⟨_, h⟩
      · have := mark_of (l := l) (i := b) (j := a) (m := x.bg) (by omega) hy (.inr ⟨h0, h⟩)
        rw [h1] at this
        cases this
      · have := mark_of (l := l) (i := b) (j := a) (m := x.en) (by omega) hy (.inr ⟨h0, h⟩)
        rw [h2 (by omega)] at this
        cases this
    · exact hg a b (by omega) (by omega) ⟨y, z, hy, hz, h0, hh⟩
theorem good_all {l : List Cl} {n : Nat} (hl : l.length = n) (h : GoodTo l n) : EndsOK l := by
  rw [endsOK_iff]
  intro a b hbad
  obtain ⟨y, z, hy, hz, hq⟩ := hbad
  have h1 := (List.getElem?_eq_some_iff.1 hy).1
  have h2 := (List.getElem?_eq_some_iff.1 hz).1
  exact h a b (by omega) (by omega) ⟨y, z, hy, hz, hq⟩

/-- What the marks read as once a call has been marked. -/
theorem seen_step {l : List Cl} {i N : Nat} {x : Cl} {seen : List Bool} {mb : Nat} (hx : l[i]? = some x) (hmb : x.bg = mb) (hlen : seen.length = N) (hlt : mb < N) (h : ∀ m : Nat, m < N → seen[m]? = some ((l.take i).any (mark m))) :
    (x.en < 0 → ∀ m : Nat, m < N → (seen.set mb true)[m]? = some ((l.take (i + 1)).any (mark m))) ∧
    (∀ me : Nat, x.en = me → me < N → ∀ m : Nat, m < N → ((seen.set mb true).set me true)[m]? = some ((l.take (i + 1)).any (mark m))) := by
  refine ⟨fun hen m hm => ?_, fun me hme hlt' m hm => ?_⟩
  · rw [mark_snoc hx, List.getElem?_set]
    by_cases hmm : mb = m
    · subst hmm
      simp [mark, hmb, hlen, hlt]
    · rw [if_neg hmm, h m hm]
      have : mark m x = false := by simp [mark]; omega
      rw [this, Bool.or_false]
  · rw [mark_snoc hx, List.getElem?_set, List.getElem?_set]
    by_cases hee : me = m
    · subst hee
      simp [mark, hme, hlen, hlt']
    · rw [if_neg hee]
      by_cases hmm : mb = m
      · subst hmm
        simp [mark, hmb, hlen, hlt]
      · rw [if_neg hmm, h m hm]
        have : mark m x = false := by simp [mark]; omega
        rw [this, Bool.or_false]

end Go.Proofs.Ytfbacopjookplaa
