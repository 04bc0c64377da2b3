/- A heap as a list of nodes that is sifted: its moves, and that it hands out the first of the least keys. No program stands here. -/
namespace Go.Proofs.Ytjemlenjencbkaa

section
variable {K V : Type}

/-- A node: a key, a value, and when it was put in. -/
abbrev Nd (K V : Type) : Type := K × V × Int

/-- Does a node come out ahead of another? -/
def nAhead (cmp : K → K → Int) (a b : Nd K V) : Bool := if cmp a.1 b.1 = 0 then decide (a.2.2 < b.2.2) else decide (cmp a.1 b.1 < 0)

/-- Two nodes change places. -/
def nSwap (l : List (Nd K V)) (i j : Nat) : List (Nd K V) :=
  match l[i]?, l[j]? with
  | some a, some b => (l.set i b).set j a
  | _, _ => l

theorem nSwap_eq {l : List (Nd K V)} {i j : Nat} {a b : Nd K V} (hi : l[i]? = some a) (hj : l[j]? = some b) : nSwap l i j = (l.set i b).set j a := by
  simp [nSwap, hi, hj]

theorem nSwap_length (l : List (Nd K V)) (i j : Nat) : (nSwap l i j).length = l.length := by
  unfold nSwap
  split <;> simp

/-- A node is sifted up. -/
def nUp (cmp : K → K → Int) : Nat → List (Nd K V) → Nat → List (Nd K V)
  | 0, l, _ => l
  | f + 1, l, i => if i = 0 then l else
    match l[i]?, l[(i - 1) / 2]? with
    | some a, some b => if nAhead cmp a b then nUp cmp f (nSwap l i ((i - 1) / 2)) ((i - 1) / 2) else l
    | _, _ => l

theorem nUp_length (cmp : K → K → Int) (f : Nat) : ∀ (l : List (Nd K V)) (i : Nat), (nUp cmp f l i).length = l.length := by
  induction f with
  | zero => intro l i; rfl
  | succ f ih =>
    intro l i
    unfold nUp
    split
    · rfl
    · split
      · split
        · rw [ih, nSwap_length]
        · rfl
      · rfl

def nPut (cmp : K → K → Int) (l : List (Nd K V)) (x : Nd K V) : List (Nd K V) := nUp cmp l.length (l ++ [x]) l.length

theorem nPut_length (cmp : K → K → Int) (l : List (Nd K V)) (x : Nd K V) : (nPut cmp l x).length = l.length + 1 := by
  simp [nPut, nUp_length]

/-- The better one of a place and another, if that is there. -/
def nBest (cmp : K → K → Int) (l : List (Nd K V)) (i k : Nat) : Nat :=
  match l[k]?, l[i]? with
  | some a, some b => if nAhead cmp a b then k else i
  | _, _ => i

/-- A node is sifted down. -/
def nDown (cmp : K → K → Int) : Nat → List (Nd K V) → Nat → List (Nd K V)
  | 0, l, _ => l
  | f + 1, l, i =>
    let k := nBest cmp l (nBest cmp l i (2 * i + 1)) (2 * i + 2)
    if k = i then l else nDown cmp f (nSwap l i k) k

theorem nDown_length (cmp : K → K → Int) (f : Nat) : ∀ (l : List (Nd K V)) (i : Nat), (nDown cmp f l i).length = l.length := by
  induction f with
  | zero => intro l i; rfl
  | succ f ih =>
    intro l i
    simp only [nDown]
    split
    · rfl
    · rw [ih, nSwap_length]

/-- The last node goes to the first place, and is sifted down. -/
def nRest (cmp : K → K → Int) (l : List (Nd K V)) : List (Nd K V) :=
  match l.getLast? with
  | some z => nDown cmp (l.length - 1) ((l.set 0 z).take (l.length - 1)) 0
  | none => []

theorem nRest_length (cmp : K → K → Int) (l : List (Nd K V)) : (nRest cmp l).length = l.length - 1 := by
  unfold nRest
  split
  · rw [nDown_length]; simp
  · rename_i h
    rw [List.getLast?_eq_none_iff] at h
    subst h
    rfl

theorem nBest_cases (cmp : K → K → Int) (l : List (Nd K V)) (i k : Nat) : nBest cmp l i k = k ∨ nBest cmp l i k = i := by
  unfold nBest
  split
  · split
    · exact .inl rfl
    · exact .inr rfl
  · exact .inr rfl

end

/-! What a heap keeps: no node is ahead of its parent; the turns differ. -/
section
variable {V : Type}

def cmpInt (a b : Int) : Int := if a < b then -1 else if b < a then 1 else 0

def nLt (a b : Nd Int V) : Prop := a.1 < b.1 ∨ (a.1 = b.1 ∧ a.2.2 < b.2.2)

theorem nAhead_iff (a b : Nd Int V) : nAhead cmpInt a b = true ↔ nLt a b := by
  unfold nAhead cmpInt nLt
  by_cases h1 : a.1 < b.1
  · simp [h1]
  · by_cases h2 : b.1 < a.1
    · rw [if_neg h1, if_pos h2]
      simp
      omega
    · have h3 : a.1 = b.1 := by omega
      rw [if_neg h1, if_neg h2]
      simp [h3]

def OrdAt (l : List (Nd Int V)) (k : Nat) : Prop := ∀ a b, l[k]? = some a → l[(k - 1) / 2]? = some b → ¬ nLt a b
def HOrd (l : List (Nd Int V)) : Prop := ∀ k, 0 < k → OrdAt l k

theorem swap_get {l : List (Nd Int V)} {i j : Nat} {a b : Nd Int V} (hi : l[i]? = some a) (hj : l[j]? = some b) (k : Nat) :
    (nSwap l i j)[k]? = if k = j then some a else if k = i then some b else l[k]? := by
  have hil := (List.getElem?_eq_some_iff.1 hi).1
  have hjl := (List.getElem?_eq_some_iff.1 hj).1
  rw [nSwap_eq hi hj, List.getElem?_set, List.length_set, List.getElem?_set]
  by_cases h1 : k = j
  · subst h1; simp [hjl]
  · rw [if_neg (fun e => h1 e.symm), if_neg h1]
    by_cases h2 : k = i
    · subst h2; simp [hil]
    · rw [if_neg (fun e => h2 e.symm), if_neg h2]

def UpInv (l : List (Nd Int V)) (i : Nat) : Prop :=
  (∀ k, 0 < k → k ≠ i → OrdAt l k) ∧ (0 < i → ∀ k a b, (k - 1) / 2 = i → 0 < k → l[k]? = some a → l[(i - 1) / 2]? = some b → ¬ nLt a b)

theorem nUp_ord (f : Nat) : ∀ (l : List (Nd Int V)) (i : Nat), i ≤ f → i < l.length → UpInv l i → HOrd (nUp cmpInt f l i) := by
  induction f with
  | zero =>
    intro l i hi _ hu
    obtain rfl : i = 0 := by omega
    exact fun k hk => hu.1 k hk (by omega)
  | succ f ih =>
    intro l i hi hil hu
    unfold nUp
    by_cases h0 : i = 0
    · rw [if_pos h0]
      subst h0
      exact fun k hk => hu.1 k hk (by omega)
    · rw [if_neg h0]
      have hpl : (i - 1) / 2 < l.length := by omega
      obtain ⟨a, ha⟩ : ∃ a, l[i]? = some a := ⟨_, List.getElem?_eq_getElem hil⟩
      obtain ⟨b, hb⟩ : ∃ b, l[(i - 1) / 2]? = some b := ⟨_, List.getElem?_eq_getElem hpl⟩
      rw [ha, hb]
      by_cases hlt : nLt a b
      · have e : nAhead cmpInt a b = true := (nAhead_iff a b).2 hlt
        simp only [e, if_true]
        have hne : (i - 1) / 2 ≠ i := by omega
        refine ih _ _ (by omega) (by rw [nSwap_length]; exact hpl) ⟨fun k hk hkp x y hx hy => ?_, fun hp k x y hkp hk hx hy => ?_⟩
        · rw [swap_get ha hb, if_neg hkp] at hx
          rw [swap_get ha hb] at hy
          by_cases hki : k = i
          · subst hki
            rw [if_pos rfl] at hx hy
            injection hx with hx
            injection hy with hy
            subst hx hy
            unfold nLt at hlt ⊢
            omega
          · rw [if_neg hki] at hx
            by_cases hq : (k - 1) / 2 = (i - 1) / 2
            · rw [if_pos hq] at hy
              injection hy with hy
              subst hy
              have := hu.1 k hk hki x b hx (by rw [hq]; exact hb)
              unfold nLt at *
              omega
            · rw [if_neg hq] at hy
              by_cases hqi : (k - 1) / 2 = i
              · rw [if_pos hqi] at hy
                injection hy with hy
                subst hy
                exact hu.2 (by omega) k x b hqi hk hx hb
              · rw [if_neg hqi] at hy
                exact hu.1 k hk hki x y hx hy
        · have hkp' : k ≠ (i - 1) / 2 := by omega
          rw [swap_get ha hb, if_neg hkp'] at hx
          rw [swap_get ha hb, if_neg (by omega), if_neg (by omega)] at hy
          have hbg := hu.1 ((i - 1) / 2) hp hne b y hb hy
          by_cases hki : k = i
          · rw [if_pos hki] at hx
            injection hx with hx
            subst hx
            exact hbg
          · rw [if_neg hki] at hx
            have := hu.1 k hk hki x b hx (by rw [hkp]; exact hb)
            unfold nLt at *
            omega
      · have e : nAhead cmpInt a b = false := by
          cases h : nAhead cmpInt a b with
          | false => rfl
          | true => exact absurd ((nAhead_iff a b).1 h) hlt
        simp only [e, Bool.false_eq_true, if_false]
        intro k hk
        by_cases hki : k = i
        · subst hki
          intro x y hx hy
          rw [ha] at hx
          rw [hb] at hy
          injection hx with hx
          injection hy with hy
          subst hx hy
          exact hlt
        · exact hu.1 k hk hki

theorem nPut_ord {l : List (Nd Int V)} (h : HOrd l) (x : Nd Int V) : HOrd (nPut cmpInt l x) := by
  refine nUp_ord _ _ _ (Nat.le_refl _) (by simp) ⟨fun k hk hkl a b ha hb => ?_, fun h0 k a b hkl hk ha hb => ?_⟩
  · have hkl' : k < l.length := by
      have := (List.getElem?_eq_some_iff.1 ha).1
      simp at this
      omega
    rw [List.getElem?_append_left hkl'] at ha
    rw [List.getElem?_append_left (by omega)] at hb
    exact h k hk a b ha hb
  · have := (List.getElem?_eq_some_iff.1 ha).1
    simp at this
    omega

theorem best_spec {l : List (Nd Int V)} {i k : Nat} {b : Nd Int V} (hb : l[i]? = some b) :
    ∃ m, l[nBest cmpInt l i k]? = some m ∧ ¬ nLt b m ∧ (∀ a, l[k]? = some a → ¬ nLt a m) ∧ (nBest cmpInt l i k = i ∨ (nBest cmpInt l i k = k ∧ nLt m b)) := by
  unfold nBest
  rw [hb]
  cases hk : l[k]? with
  | none => exact ⟨b, hb, (by unfold nLt; omega), fun a h => (by cases h), .inl rfl⟩
  | some a =>
    by_cases hlt : nLt a b
    · have e : nAhead cmpInt a b = true := (nAhead_iff a b).2 hlt
      simp only [e, if_true]
      refine ⟨a, hk, by unfold nLt at *; omega, fun a' h => ?_, by first | exact .inr ⟨rfl, hlt⟩ | exact .inr ⟨trivial, hlt⟩⟩
      injection h with h
      subst h
      unfold nLt
      omega
    · have e : nAhead cmpInt a b = false := by
        cases h : nAhead cmpInt a b with
        | false => rfl
        | true => exact absurd ((nAhead_iff a b).1 h) hlt
      simp only [e, Bool.false_eq_true, if_false]
      refine ⟨b, hb, by unfold nLt; omega, fun a' h => ?_, by first | exact .inl rfl | exact .inl trivial⟩
      injection h with h
      subst h
      exact hlt

def DnInv (l : List (Nd Int V)) (i : Nat) : Prop :=
  (∀ k, 0 < k → (k - 1) / 2 ≠ i → OrdAt l k) ∧ (0 < i → ∀ k a b, 0 < k → (k - 1) / 2 = i → l[k]? = some a → l[(i - 1) / 2]? = some b → ¬ nLt a b)

theorem nDown_ord (f : Nat) : ∀ (l : List (Nd Int V)) (i : Nat), l.length ≤ i + f → DnInv l i → HOrd (nDown cmpInt f l i) := by
  induction f with
  | zero =>
    intro l i hi hd
    show HOrd l
    intro k hk x y hx hy
    have h1 := (List.getElem?_eq_some_iff.1 hx).1
    exact hd.1 k hk (by omega) x y hx hy
  | succ f ih =>
    intro l i hi hd
    simp only [nDown]
    rcases Nat.lt_or_ge i l.length with hil | hge
    case inr =>
      have e : ∀ k, nBest cmpInt l i k = i := fun k => by
        unfold nBest
        rw [List.getElem?_eq_none hge]
        split <;> simp_all
      rw [e, e, if_pos rfl]
      intro k hk x y hx hy
      have h1 := (List.getElem?_eq_some_iff.1 hx).1
      exact hd.1 k hk (by omega) x y hx hy
    obtain ⟨b, hb⟩ : ∃ b, l[i]? = some b := ⟨_, List.getElem?_eq_getElem hil⟩
    obtain ⟨m1, hm1, hbm1, hk1, hc1⟩ := best_spec (k := 2 * i + 1) hb
    obtain ⟨m2, hm2, hbm2, hk2, hc2⟩ := best_spec (k := 2 * i + 2) hm1
    generalize nBest cmpInt l i (2 * i + 1) = j1 at *
    generalize nBest cmpInt l j1 (2 * i + 2) = j2 at *
    have best : ∀ k a, 0 < k → (k - 1) / 2 = i → l[k]? = some a → ¬ nLt a m2 := by
      intro k a hk hki ha
      have : k = 2 * i + 1 ∨ k = 2 * i + 2 := by omega
      rcases this with rfl | rfl
      · have := hk1 a ha
        unfold nLt at *
        omega
      · exact hk2 a ha
    by_cases hji : j2 = i
    · rw [if_pos hji]
      subst hji
      rw [hb] at hm2
      injection hm2 with hm2
      subst hm2
      intro k hk x y hx hy
      by_cases hq : (k - 1) / 2 = j2
      · rw [hq, hb] at hy
        injection hy with hy
        subst hy
        exact best k x hk hq hx
      · exact hd.1 k hk hq x y hx hy
    · rw [if_neg hji]
      have hj2 : j2 = 2 * i + 1 ∨ j2 = 2 * i + 2 := by
        rcases hc2 with h | ⟨h, _⟩
        · rcases hc1 with h' | ⟨h', _⟩
          · omega
          · exact .inl (h.trans h')
        · exact .inr h
      have hlt : nLt m2 b := by
        rcases hc2 with h | ⟨h, hl⟩
        · rcases hc1 with h' | ⟨h', hl'⟩
          · omega
          · subst h
            rw [hm1] at hm2
            injection hm2 with hm2
            subst hm2
            exact hl'
        · rcases hc1 with h' | ⟨h', hl'⟩
          · subst h'
            rw [hb] at hm1
            injection hm1 with hm1
            subst hm1
            exact hl
          · unfold nLt at *
            omega
      have hpar : (j2 - 1) / 2 = i := by omega
      refine ih _ _ (by rw [nSwap_length]; omega) ⟨fun k hk hkq x y hx hy => ?_, fun h0 k x y hk hkq hx hy => ?_⟩
      · rw [swap_get hb hm2] at hx hy
        rw [if_neg (c := (k - 1) / 2 = j2) hkq] at hy
        by_cases h1 : k = j2
        · rw [if_pos h1] at hx
          rw [if_pos (by omega)] at hy
          injection hx with hx
          injection hy with hy
          subst hx hy
          unfold nLt at *
          omega
        · rw [if_neg h1] at hx
          by_cases h2 : k = i
          · rw [if_pos h2] at hx
            injection hx with hx
            subst hx
            rw [if_neg (by omega)] at hy
            exact hd.2 (by omega) j2 m2 y (by omega) hpar hm2 (by rw [← h2]; exact hy)
          · rw [if_neg h2] at hx
            by_cases h3 : (k - 1) / 2 = i
            · rw [if_pos h3] at hy
              injection hy with hy
              subst hy
              exact best k x hk h3 hx
            · rw [if_neg h3] at hy
              exact hd.1 k hk h3 x y hx hy
      · rw [swap_get hb hm2, if_neg (by omega), if_neg (by omega)] at hx
        rw [swap_get hb hm2, if_neg (by omega), if_pos hpar] at hy
        injection hy with hy
        subst hy
        exact hd.1 k hk (by omega) x m2 hx (by rw [hkq]; exact hm2)

theorem nRest_ord {l : List (Nd Int V)} (h : HOrd l) : HOrd (nRest cmpInt l) := by
  unfold nRest
  cases hz : l.getLast? with
  | none => intro k _ a b ha; simp at ha
  | some z =>
    refine nDown_ord _ _ _ (by simp) ⟨fun k hk hq a b ha hb => ?_, fun h0 => by omega⟩
    rw [List.getElem?_take] at ha hb
    split at ha
    · split at hb
      · rw [List.getElem?_set_ne (by omega)] at ha hb
        exact h k hk a b ha hb
      · cases hb
    · cases ha

theorem ord_min {l : List (Nd Int V)} (h : HOrd l) {m : Nd Int V} (hm : l[0]? = some m) : ∀ (k : Nat) (a : Nd Int V), l[k]? = some a → ¬ nLt a m := by
  intro k
  induction k using Nat.strongRecOn with
  | ind k ih =>
    intro a ha
    by_cases h0 : k = 0
    · subst h0
      rw [hm] at ha
      injection ha with ha
      subst ha
      unfold nLt
      omega
    · have hl := (List.getElem?_eq_some_iff.1 ha).1
      obtain ⟨b, hb⟩ : ∃ b, l[(k - 1) / 2]? = some b := ⟨_, List.getElem?_eq_getElem (by omega)⟩
      have h1 := h k (by omega) a b ha hb
      have h2 := ih _ (by omega) b hb
      unfold nLt at *
      omega
end

end Go.Proofs.Ytjemlenjencbkaa
