/- What a thread's place among its calls tells of a move. No program stands here. -/
import Derived.Test.YtfbacopjookplaaOwners
import Derived.Test.YtfbacopjookplaaTracePure
namespace Go.Proofs.Ytfbacopjookplaa
open Go.RowKit

/-- One call of a thread is over before the next one begins. -/
def Follows (x y : Cl) : Prop := x.en ≠ -1 ∧ x.en < y.bg
theorem rows_pair {t : Nat} : ∀ (l pre : List Cl), (∀ x ∈ pre ++ l, x.en = -1 ∨ x.bg < x.en) → ThreadsOK pre l → (rowF pre t).Pairwise Follows → (rowF (pre ++ l) t).Pairwise Follows
  | [], pre, _, _, h => by simpa using h
  | x :: l, pre, ho, ht, h => by
    have e : pre ++ x :: l = (pre ++ [x]) ++ l := by simp
    rw [e] at ho ⊢
    refine rows_pair l (pre ++ [x]) ho ht.2 ?_
    by_cases hx : x.th = (t : Int)
    · rw [rowF_same pre x t hx]
      refine List.pairwise_append.2 ⟨h, List.pairwise_singleton _ _, fun y hy z hz => ?_⟩
      obtain rfl : z = x := by simpa using hz
      have hlast := ht.1
      rw [hx, ← rowF_last] at hlast
      cases hl : (rowF pre t).getLast? with
      | none =>
        rw [List.getLast?_eq_none_iff] at hl
        rw [hl] at hy
        cases hy
      | some u =>
        have hu := hlast u hl
        obtain ⟨ys, hys⟩ := List.getLast?_eq_some_iff.1 hl
        rw [hys, List.mem_append] at hy
        rcases hy with hy | hy
        · rw [hys] at h
          have h3 := (List.pairwise_append.1 h).2.2 y hy u (by simp)
          have h4 : u ∈ rowF pre t := by rw [hys]; simp
          have h5 := ho u (List.mem_append_left _ (List.mem_append_left _ (List.mem_filter.1 h4).1))
          unfold Follows at h3 ⊢
          omega
        · obtain rfl : y = u := by simpa using hy
          exact hu
    · rw [rowF_other pre x t hx]
      exact h
theorem callsOK_mem {T : Int} {l : List Cl} (h : CallsOK T l) {x : Cl} (hx : x ∈ l) : OkCall T x := by
  obtain ⟨i, hi⟩ := List.getElem?_of_mem hx
  exact (callsA_all h.1 i x hi).1
theorem rows_follow {T : Int} {l : List Cl} (h : CallsOK T l) (t : Nat) : (rowF l t).Pairwise Follows := by
  have := rows_pair (t := t) l [] (fun x hx => (callsOK_mem h (by simpa using hx)).2.2.1) h.2.1 (by simp [rowF])
  simpa using this
theorem begins_iff (l : List Cl) (m : Int) : l.any (Cl.begins m) = (begF l m).isSome := by
  cases hb : begF l m with
  | none =>
    refine List.any_eq_false.2 fun x hx => ?_
    obtain ⟨i, hi⟩ := List.getElem?_of_mem hx
    have := begF_none hb hi
    simpa [Cl.begins] using this
  | some t =>
    obtain ⟨i, x, hx, h1, _⟩ := begF_some hb
    exact List.any_eq_true.2 ⟨x, List.mem_of_getElem? hx, by simp [Cl.begins, h1]⟩
theorem ender_none {l : List Cl} {m : Int} (hm : 0 < m) (h : endF l m = none) : enderF l m = -1 := by
  have : l.find? (Cl.ends m) = none := List.find?_eq_none.2 fun x hx => by
    obtain ⟨i, hi⟩ := List.getElem?_of_mem hx
    have := endF_none h hi
    simp [Cl.ends]
    omega
  rw [enderF, this]
theorem ender_some {T : Int} {l : List Cl} {m t : Int} (hC : CallsOK T l) (hm : 0 < m) (h : endF l m = some t) : enderF l m = t ∧ 0 ≤ t := by
  obtain ⟨i, x, hx, h1, h2, h3⟩ := endF_some h
  cases hf : l.find? (Cl.ends m) with
  | none =>
    have := List.find?_eq_none.1 hf x (List.mem_of_getElem? hx)
    simp [Cl.ends, h1] at this
  | some y =>
    have hy1 := List.find?_some hf
    have hy2 := List.mem_of_find?_eq_some hf
    simp only [Cl.ends, decide_eq_true_eq] at hy1
    obtain ⟨j, hj⟩ := List.getElem?_of_mem hy2
    have hok := (callsA_all hC.1 i x hx).1.1
    rw [enderF, hf]
    by_cases hij : i = j
    · subst hij
      rw [hx] at hj
      injection hj with hj
      subst hj
      exact ⟨h3, by omega⟩
    · exact absurd (h1.trans hy1.symm) (hC.2.2.2 i j x y hx hj hij (by omega))
/-- A call that is over. -/
def Over (m : Int) (x : Cl) : Prop := x.en ≠ -1 ∧ x.en < m
theorem row_any (l : List Cl) (t : Nat) (m : Int) : l.any (fun x => decide (x.th = (t : Int)) && Cl.holds m x) = (rowF l t).any (Cl.holds m) := by
  rw [rowF, List.any_filter]
theorem place_form {T : Int} {l : List Cl} {t : Nat} {m : Int} (hC : CallsOK T l) (hb : begF l m = none) (he : endF l m = none ∨ endF l m = some (t : Int)) (hm : 0 < m) : placeB l t m = (rowF l t).any (Cl.holds m) := by
  rw [placeB, begins_iff, hb, row_any]
  have : (decide (enderF l m < 0) || decide (enderF l m = (t : Int))) = true := by
    rcases he with he | he
    · rw [ender_none hm he]; simp
    · rw [(ender_some hC hm he).1]; simp
  rw [this]
  simp
theorem place_low {T : Int} {l : List Cl} {t m : Int} (hC : CallsOK T l) (hm : ¬ 0 < m) : placeB l t m = false := by
  cases h : placeB l t m with
  | false => rfl
  | true => exact absurd (place_pos hC.1 h).1 hm
theorem place_row_none {T : Int} {l : List Cl} {t : Nat} {m : Int} (hC : CallsOK T l) (hb : begF l m = none) (he : endF l m = none ∨ endF l m = some (t : Int)) (hd : ∀ (j : Nat) (x : Cl), (rowF l t)[j]? = some x → Over m x) : placeB l t m = false := by
  by_cases hm : 0 < m
  · rw [place_form hC hb he hm, List.any_eq_false]
    intro x hx
    obtain ⟨j, hj⟩ := List.getElem?_of_mem hx
    have h1 := hd j x hj
    have h2 := callsOK_mem hC (List.mem_filter.1 hx).1
    unfold Over at h1
    unfold OkCall at h2
    simp [Cl.holds]
    omega
  · exact place_low hC hm
theorem place_row_some {T : Int} {l : List Cl} {t i : Nat} {m : Int} {x : Cl} (hC : CallsOK T l) (hb : begF l m = none) (he : endF l m = none ∨ endF l m = some (t : Int)) (hd : ∀ (j : Nat) (x : Cl), j < i → (rowF l t)[j]? = some x → Over m x)
    (hx : (rowF l t)[i]? = some x) (hno : ¬ Over m x) : placeB l t m = decide (x.bg < m) := by
  have hok := callsOK_mem hC (List.mem_filter.1 (List.mem_of_getElem? hx)).1
  by_cases hm : 0 < m
  · rw [place_form hC hb he hm]
    unfold Over at hno
    unfold OkCall at hok
    by_cases hbg : x.bg < m
    · rw [decide_eq_true hbg]
      refine List.any_eq_true.2 ⟨x, List.mem_of_getElem? hx, ?_⟩
      simp [Cl.holds]
      omega
    · rw [decide_eq_false hbg, List.any_eq_false]
      intro y hy
      obtain ⟨j, hj⟩ := List.getElem?_of_mem hy
      have h2 := callsOK_mem hC (List.mem_filter.1 hy).1
      unfold OkCall at h2
      rcases Nat.lt_trichotomy j i with h | h | h
      · have h1 := hd j y h hj
        unfold Over at h1
        simp [Cl.holds]
        omega
      · subst h
        rw [hx] at hj
        injection hj with hj
        subst hj
        simp [Cl.holds]
        omega
      · have h1 := List.pairwise_iff_getElem.1 (rows_follow hC t) i j (List.getElem?_eq_some_iff.1 hx).1 (List.getElem?_eq_some_iff.1 hj).1 h
        rw [(List.getElem?_eq_some_iff.1 hx).2, (List.getElem?_eq_some_iff.1 hj).2] at h1
        unfold Follows at h1
        simp [Cl.holds]
        omega
  · rw [place_low hC hm]
    unfold OkCall at hok
    symm
    rw [decide_eq_false_iff_not]
    omega
theorem place_begun {l : List Cl} {t m b : Int} (h : begF l m = some b) : placeB l t m = false := by
  rw [placeB, begins_iff, h]
  rfl
theorem place_thread {T : Int} {l : List Cl} {t m : Int} (hC : CallsOK T l) (h : t < 0 ∨ T ≤ t) : placeB l t m = false := by
  cases hp : placeB l t m with
  | false => rfl
  | true =>
    have := place_pos hC.1 hp
    omega
theorem place_ended {T : Int} {l : List Cl} {t m e : Int} (hC : CallsOK T l) (h : endF l m = some e) (hne : e ≠ t) : placeB l t m = false := by
  by_cases hm : 0 < m
  · obtain ⟨h1, h2⟩ := ender_some hC hm h
    rw [placeB, h1]
    have : (decide (e < 0) || decide (e = t)) = false := by simp; omega
    rw [this, Bool.and_false]
  · exact place_low hC hm

/-- Where the threads stand among their calls: whatever is ahead is over before move p. -/
def AtOK (l : List Cl) (T : Nat) (cur : List Int) (p : Int) : Prop :=
  ∀ t, t < T → ∃ k : Nat, cur[t]? = some (k : Int) ∧ k ≤ (rowF l t).length ∧ ∀ (j : Nat) (x : Cl), j < k → (rowF l t)[j]? = some x → Over p x
theorem AtOK.mono {l : List Cl} {T : Nat} {cur : List Int} {p q : Int} (h : AtOK l T cur p) (hpq : p ≤ q) : AtOK l T cur q := fun t ht => by
  obtain ⟨k, h1, h2, h3⟩ := h t ht
  refine ⟨k, h1, h2, fun j x hj hx => ?_⟩
  have := h3 j x hj hx
  unfold Over at *
  omega
theorem AtOK.zero (l : List Cl) (T : Nat) (p : Int) : AtOK l T (List.replicate T 0) p := fun t ht =>
  ⟨0, by rw [List.getElem?_replicate, if_pos ht]; rfl, Nat.zero_le _, fun j _ hj => absurd hj (Nat.not_lt_zero _)⟩
theorem AtOK.set {l : List Cl} {T : Nat} {cur : List Int} {p : Int} (h : AtOK l T cur p) {t k : Nat} (ht : t < cur.length) (h2 : k ≤ (rowF l t).length) (h3 : ∀ (j : Nat) (x : Cl), j < k → (rowF l t)[j]? = some x → Over p x) : AtOK l T (cur.set t (k : Int)) p := fun s hs => by
  by_cases hst : s = t
  · subst hst
    exact ⟨k, by rw [List.getElem?_set_self ht], h2, h3⟩
  · rw [List.getElem?_set_ne (Ne.symm hst)]
    exact h s hs

end Go.Proofs.Ytfbacopjookplaa
