/- What a memory's objects hold, by plain lists: the program's and the document's answer. No program stands here. -/
import Derived.Test.YtfbacopjookplaaQueue
namespace Go.Proofs.Ytfbacopjookplaa
open Go.RowKit

/-- What the objects hold. -/
structure Cont where
  cell : List Int
  stack : List Int
  queue : List Int
  set : List Int
  table : List (Int × Int)
def noCont : Cont := ⟨[], [], [], [], []⟩
/-- The pairs of the first buckets, and the marks behind them. -/
def tabF (S B : Int) (val data lk : Int → Int) (bw : Int → Int) : Nat → List Bool → Option (List (Int × Int) × List Bool)
  | 0, seen => some ([], seen)
  | b + 1, seen => match tabF S B val data lk bw b seen with
    | none => none
    | some q => match keysOf val B b (chainOf S lk true q.2 (bw b)) with
      | none => none
      | some l => some (q.1 ++ l.map fun s => (val s, data s), (chainOf S lk true q.2 (bw b)).2.2)
/-- The pieces of a memory's look. -/
structure Looks where
  c : Int × Bool × List Bool
  t1 : List (Int × Bool) × Bool × List Bool
  t2 : List (Int × Bool) × Bool × List Bool
  t3 : List (Int × Bool) × Bool × List Bool
def looks (S : Int) (lk : Int → Int) (x1 x2 x3 x5 : Int) : Looks :=
  ⟨plainF S (List.replicate S.toNat false) x1, chainOf S lk false (plainF S (List.replicate S.toNat false) x1).2.2 x2,
    chainOf S lk false (chainOf S lk false (plainF S (List.replicate S.toNat false) x1).2.2 x2).2.2 x3,
    chainOf S lk true (chainOf S lk false (chainOf S lk false (plainF S (List.replicate S.toNat false) x1).2.2 x2).2.2 x3).2.2 x5⟩
/-- What the objects hold, the table's pairs bucket by bucket; none: it is no memory that a run leaves. -/
def lookS (S B : Int) (val data lk : Int → Int) (bw : Int → Int) (x1 x2 x3 x4 x5 : Int) : Option Cont :=
  if (looks S lk x1 x2 x3 x5).c.2.1 = true ∧ (looks S lk x1 x2 x3 x5).t1.2.1 = true ∧ (looks S lk x1 x2 x3 x5).t2.2.1 = true ∧ namesOne x4 (looks S lk x1 x2 x3 x5).t2.1 = true then
    match keysOf val B (-1) (looks S lk x1 x2 x3 x5).t3 with
    | none => none
    | some l => match tabF S B val data lk bw B.toNat (looks S lk x1 x2 x3 x5).t3.2.2 with
      | none => none
      | some q => some ⟨if (looks S lk x1 x2 x3 x5).c.1 < 0 then [] else [val (looks S lk x1 x2 x3 x5).c.1], (looks S lk x1 x2 x3 x5).t1.1.map fun x => val x.1, behind val (looks S lk x1 x2 x3 x5).t2.1, l.map val, q.1⟩
  else none

section
variable {S B : Int} {val data lk : Int → Int} {bw : Int → Int}
theorem tabF_none {seen : List Bool} {b : Nat} (h : tabF S B val data lk bw b seen = none) : ∀ m, b ≤ m → tabF S B val data lk bw m seen = none
  | 0, hm => by
    have : b = 0 := by omega
    subst this
    exact h
  | m + 1, hm => by
    by_cases he : b = m + 1
    · subst he
      exact h
    · unfold tabF
      rw [tabF_none h m (by omega)]
theorem tabF_succ {seen : List Bool} {b : Nat} {q : List (Int × Int) × List Bool} (h : tabF S B val data lk bw b seen = some q) : tabF S B val data lk bw (b + 1) seen =
    match keysOf val B b (chainOf S lk true q.2 (bw b)) with
    | none => none
    | some l => some (q.1 ++ l.map fun s => (val s, data s), (chainOf S lk true q.2 (bw b)).2.2) := by
  conv => lhs; unfold tabF
  rw [h]

/-! ## The table's keys -/
theorem tabF_keys {seen : List Bool} : ∀ (b : Nat) (q : List (Int × Int) × List Bool), tabF S B val data lk bw b seen = some q → (q.1.map Prod.fst).Nodup ∧ ∀ x ∈ q.1, ∃ j : Nat, j < b ∧ bkt B x.1 = j
  | 0, q, h => by
    injection h with h
    subst h
    exact ⟨List.nodup_nil, fun x hx => by cases hx⟩
  | b + 1, q, h => by
    cases hb : tabF S B val data lk bw b seen with
    | none =>
      rw [tabF_none hb (b + 1) (by omega)] at h
      cases h
    | some p =>
      rw [tabF_succ hb] at h
      cases hk : keysOf val B b (chainOf S lk true p.2 (bw b)) with
      | none => rw [hk] at h; cases h
      | some l =>
        rw [hk] at h
        injection h with h
        subst h
        obtain ⟨i1, i2⟩ := tabF_keys b p hb
        unfold keysOf at hk
        split at hk
        · rename_i hc
          injection hk with hk
          subst hk
          obtain ⟨_, k1, k2⟩ := hc
          have hu : ∀ s ∈ unm (chainOf S lk true p.2 (bw b)).1, bkt B (val s) = b := fun s hs => by
            obtain ⟨x, hx, rfl⟩ := List.mem_map.1 hs
            rcases k2 x (List.mem_filter.1 hx).1 with h | h
            · omega
            · exact h
          refine ⟨?_, fun x hx => ?_⟩
          · show (List.map Prod.fst (p.1 ++ _)).Nodup
            rw [List.map_append]
            refine List.nodup_append.2 ⟨i1, ?_, fun y hy z hz e => ?_⟩
            · rw [List.map_map]
              have h1 : ((unm (chainOf S lk true p.2 (bw b)).1).map val).Pairwise (· < ·) := by
                unfold unm
                rw [List.map_map]
                exact List.Pairwise.sublist (List.Sublist.map _ List.filter_sublist) k1
              exact h1.imp fun hab => by omega
            · obtain ⟨y', hy', rfl⟩ := List.mem_map.1 hy
              obtain ⟨z', hz', rfl⟩ := List.mem_map.1 hz
              obtain ⟨s, hs, rfl⟩ := List.mem_map.1 hz'
              obtain ⟨j, hj, hjb⟩ := i2 y' hy'
              have := hu s hs
              have e' : y'.1 = val s := e
              rw [e'] at hjb
              omega
          · rcases List.mem_append.1 hx with hx | hx
            · obtain ⟨j, hj, hjb⟩ := i2 x hx
              exact ⟨j, by omega, hjb⟩
            · obtain ⟨s, hs, rfl⟩ := List.mem_map.1 hx
              exact ⟨b, by omega, hu s hs⟩
        · cases hk
end
/-- The pairs by their keys. -/
def byKey (l : List (Int × Int)) : List (Int × Int) := l.mergeSort fun x y => decide (x.1 ≤ y.1)
/-- Two rising orders of pairs with keys of their own are one. -/
theorem byKey_eq {l m : List (Int × Int)} (hn : (l.map Prod.fst).Nodup) (hp : m.Perm l) (hs : m.Pairwise fun x y => x.1 ≤ y.1) : m = byKey l := by
  have h1 : (byKey l).Pairwise (fun x y => decide (x.1 ≤ y.1) = true) := List.pairwise_mergeSort (fun a b c h1 h2 => by
    have := of_decide_eq_true h1
    have := of_decide_eq_true h2
    exact decide_eq_true (by omega)) (fun a b => by
    by_cases h : a.1 ≤ b.1
    · simp [h]
    · have : b.1 ≤ a.1 := by omega
      simp [this]) l
  have hp2 : m.Perm (byKey l) := hp.trans (List.mergeSort_perm l _).symm
  refine List.Perm.eq_of_pairwise (le := fun x y => x.1 ≤ y.1) (fun a b ha hb h1 h2 => ?_) hs (h1.imp fun h => of_decide_eq_true h) hp2
  have he : a.1 = b.1 := by omega
  have ha' : a ∈ l := hp.mem_iff.1 ha
  have hb' : b ∈ l := (List.mergeSort_perm l _).mem_iff.1 hb
  exact inj_of_nodup hn ha' hb' he
where
  inj_of_nodup {l : List (Int × Int)} (h : (l.map Prod.fst).Nodup) {a b : Int × Int} (ha : a ∈ l) (hb : b ∈ l) (e : a.1 = b.1) : a = b := by
    obtain ⟨i, hi⟩ := List.getElem?_of_mem ha
    obtain ⟨j, hj⟩ := List.getElem?_of_mem hb
    have h1 : (l.map Prod.fst)[i]? = some a.1 := by rw [List.getElem?_map, hi]; rfl
    have h2 : (l.map Prod.fst)[j]? = some a.1 := by rw [List.getElem?_map, hj, e]; rfl
    have hij := (List.getElem?_inj (List.getElem?_eq_some_iff.1 h1).1 h).1 (h1.trans h2.symm)
    subst hij
    rw [hi] at hj
    exact Option.some.inj hj

/-- The answer: the error's number, the contents with the table by its keys. -/
def specOf : Option Cont → Int × Cont
  | none => (100, noCont)
  | some q => (0, ⟨q.cell, q.stack, q.queue, q.set, byKey q.table⟩)
section
variable {S B : Int} {val data lk : Int → Int} {bw : Int → Int} {x1 x2 x3 x4 x5 : Int}
theorem lookS_c (h : (looks S lk x1 x2 x3 x5).c.2.1 = false) : lookS S B val data lk bw x1 x2 x3 x4 x5 = none := if_neg fun h2 => by rw [h] at h2; cases h2.1
theorem lookS_2 (h : ((!(looks S lk x1 x2 x3 x5).t1.2.1 || !(looks S lk x1 x2 x3 x5).t2.2.1) || !namesOne x4 (looks S lk x1 x2 x3 x5).t2.1) = true) : lookS S B val data lk bw x1 x2 x3 x4 x5 = none := if_neg fun h2 => by
  rw [h2.2.1, h2.2.2.1, h2.2.2.2] at h
  cases h
theorem lookS_3 (h : keysOf val B (-1) (looks S lk x1 x2 x3 x5).t3 = none) : lookS S B val data lk bw x1 x2 x3 x4 x5 = none := by
  unfold lookS
  rw [h]
  split <;> rfl
theorem lookS_4 {l : List Int} {b : Nat} (hk : keysOf val B (-1) (looks S lk x1 x2 x3 x5).t3 = some l) (hb : b ≤ B.toNat) (h : tabF S B val data lk bw b (looks S lk x1 x2 x3 x5).t3.2.2 = none) : lookS S B val data lk bw x1 x2 x3 x4 x5 = none := by
  unfold lookS
  rw [hk, tabF_none h _ hb]
  split <;> rfl
theorem lookS_ok {l : List Int} {q : List (Int × Int) × List Bool} (hc : (looks S lk x1 x2 x3 x5).c.2.1 = true) (h : ((!(looks S lk x1 x2 x3 x5).t1.2.1 || !(looks S lk x1 x2 x3 x5).t2.2.1) || !namesOne x4 (looks S lk x1 x2 x3 x5).t2.1) = false) (hk : keysOf val B (-1) (looks S lk x1 x2 x3 x5).t3 = some l)
    (ht : tabF S B val data lk bw B.toNat (looks S lk x1 x2 x3 x5).t3.2.2 = some q) :
    lookS S B val data lk bw x1 x2 x3 x4 x5 = some ⟨if (looks S lk x1 x2 x3 x5).c.1 < 0 then [] else [val (looks S lk x1 x2 x3 x5).c.1], (looks S lk x1 x2 x3 x5).t1.1.map fun x => val x.1, behind val (looks S lk x1 x2 x3 x5).t2.1, l.map val, q.1⟩ := by
  have h3 : (looks S lk x1 x2 x3 x5).t1.2.1 = true ∧ (looks S lk x1 x2 x3 x5).t2.2.1 = true ∧ namesOne x4 (looks S lk x1 x2 x3 x5).t2.1 = true := by
    revert h
    cases (looks S lk x1 x2 x3 x5).t1.2.1 <;> cases (looks S lk x1 x2 x3 x5).t2.2.1 <;> cases namesOne x4 (looks S lk x1 x2 x3 x5).t2.1 <;> simp
  unfold lookS
  rw [if_pos ⟨hc, h3⟩, hk, ht]
end

end Go.Proofs.Ytfbacopjookplaa
