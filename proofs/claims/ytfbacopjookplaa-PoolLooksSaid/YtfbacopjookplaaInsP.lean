/- A pair put into a rising list of pairs from its end: plain lists, no program. -/
import Derived.Test.YtfbacopjookplaaPairSort
namespace Go.Proofs.Ytfbacopjookplaa
open Go.RowKit

/-- The list while the pair stands at place k. -/
def insAt (k : Nat) (L : List (Int × Int)) (p : Int × Int) : List (Int × Int) := L.take k ++ p :: L.drop k
theorem insAt_end (L : List (Int × Int)) (p : Int × Int) : insAt L.length L p = L ++ [p] := by simp [insAt]
theorem insAt_len (k : Nat) (L : List (Int × Int)) (p : Int × Int) : (insAt k L p).length = L.length + 1 := by
  unfold insAt
  rw [List.length_append, List.length_cons, List.length_take, List.length_drop]
  omega
theorem insAt_at {k : Nat} {L : List (Int × Int)} (p : Int × Int) (hk : k ≤ L.length) : (insAt k L p)[k]? = some p := by
  unfold insAt
  rw [List.getElem?_append_right (by rw [List.length_take]; omega), List.length_take, Nat.min_eq_left hk, Nat.sub_self]
  rfl
theorem insAt_before {k : Nat} {L : List (Int × Int)} (p : Int × Int) (hk : k + 1 ≤ L.length) : (insAt (k + 1) L p)[k]? = L[k]? := by
  unfold insAt
  rw [List.getElem?_append_left (by rw [List.length_take]; omega), List.getElem?_take_of_lt (by omega)]
/-- One step down. -/
theorem insAt_step {k : Nat} {L : List (Int × Int)} (p y : Int × Int) (hk : k + 1 ≤ L.length) (hy : L[k]? = some y) : ((insAt (k + 1) L p).set k p).set (k + 1) y = insAt k L p := by
  have hyd : L.drop k = y :: L.drop (k + 1) := by
    rw [List.drop_eq_getElem_cons (by omega)]
    congr 1
    exact (List.getElem?_eq_some_iff.1 hy).2
  have hyt : L.take (k + 1) = L.take k ++ [y] := by rw [List.take_add_one, hy]; rfl
  have hl : (L.take k).length = k := by rw [List.length_take]; omega
  have h1 : insAt (k + 1) L p = L.take k ++ y :: p :: L.drop (k + 1) := by
    unfold insAt
    rw [hyt, List.append_assoc]
    rfl
  have h2 : insAt k L p = L.take k ++ p :: y :: L.drop (k + 1) := by
    unfold insAt
    rw [hyd]
  rw [h1, h2, List.set_append_right k p (by omega), hl, Nat.sub_self, List.set_append_right (k + 1) y (by omega), hl, show k + 1 - k = 1 by omega]
  rfl
theorem insAt_perm (k : Nat) (L : List (Int × Int)) (p : Int × Int) : (insAt k L p).Perm (L ++ [p]) := by
  unfold insAt
  refine (List.perm_middle).trans ?_
  rw [List.take_append_drop]
  exact (List.perm_append_comm (l₁ := [p]) (l₂ := L))
/-- Where it stops all is in order. -/
theorem insAt_rise {k : Nat} {L : List (Int × Int)} {p : Int × Int} (hs : L.Pairwise fun x y => x.1 ≤ y.1) (hd : ∀ x ∈ L.drop k, p.1 ≤ x.1) (hk : ∀ y, k ≠ 0 → L[k - 1]? = some y → y.1 ≤ p.1) (hl : k ≤ L.length) : (insAt k L p).Pairwise fun x y => x.1 ≤ y.1 := by
  have ht : ∀ x ∈ L.take k, x.1 ≤ p.1 := fun x hx => by
    obtain ⟨i, hi⟩ := List.getElem?_of_mem hx
    have hik : i < k := by
      have := (List.getElem?_eq_some_iff.1 hi).1
      rw [List.length_take] at this
      omega
    rw [List.getElem?_take_of_lt hik] at hi
    have hy := List.getElem?_eq_getElem (l := L) (i := k - 1) (by omega)
    have h1 := hk _ (by omega) hy
    by_cases he : i = k - 1
    · subst he
      rw [hy] at hi
      injection hi with hi
      rw [← hi]
      exact h1
    · have h2 := (List.pairwise_iff_getElem.1 hs) i (k - 1) (List.getElem?_eq_some_iff.1 hi).1 (by omega) (by omega)
      rw [(List.getElem?_eq_some_iff.1 hi).2] at h2
      omega
  unfold insAt
  rw [List.pairwise_append, List.pairwise_cons]
  refine ⟨hs.sublist (List.take_sublist _ _), ⟨fun x hx => hd x hx, hs.sublist (List.drop_sublist _ _)⟩, fun x hx y hy => ?_⟩
  have h1 := ht x hx
  rcases List.mem_cons.1 hy with rfl | hy
  · exact h1
  · have h2 := hd y hy
    omega
end Go.Proofs.Ytfbacopjookplaa
