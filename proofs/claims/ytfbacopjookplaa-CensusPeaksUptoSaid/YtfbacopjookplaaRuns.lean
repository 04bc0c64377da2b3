/- The walk of census.runs. -/
import Derived.Test.YtfbacopjookplaaTracePure
import Derived.Test.YtfbacopjookplaaHeld
import Derived.Test.YtfbacopjookplaaMaps
import Derived.Test.YtfbacopjookplaaSortLay
import Derived.Test.YtfbacopjookplaaCalls
import Derived.Test.YtfbacopjookplaaRefSlots
import Derived.Maps.OwnSet
import Derived.Maps.OwnOps
namespace Go.Proofs.Ytfbacopjookplaa
open Go.RowKit
open Go.RowKit Go.MapKept

/-- The ends of the first calls, with their calls' places. -/
def endsTo (cs : List Cl) : Nat → Int → Option Int
  | 0, _ => none
  | i + 1, k => match cs[i]? with
    | some x => if x.en ≠ -1 ∧ k = x.en then some (i : Int) else endsTo cs i k
    | none => endsTo cs i k
def movesTo (cs : List Cl) (i : Nat) : List Int := ((cs.take i).filter fun x => decide (x.en ≠ -1)).map Cl.en
/-- The last of the first calls of a thread. -/
def lastTo (cs : List Cl) : Nat → Int → Option Int
  | 0, _ => none
  | k + 1, t => match cs[k]? with
    | some x => if t = x.th then some (k : Int) else lastTo cs k t
    | none => lastTo cs k t
/-- How many calls have begun, at least so many. -/
def advTo (cs : List Cl) (at_ : Nat) (mv : Int) : Nat := at_ + ((cs.drop at_).takeWhile fun x => decide (x.bg < mv)).length
def bump (S : List Int) (j : Nat) : List Int := S.set j (S.getD j 0 + 1)
structure RN where
  at_ : Nat
  E : Int → Option Int
  S : List Int
  M : List Int
def stepR (cs : List Cl) (q : RN) (a : Ac) : RN :=
  ⟨advTo cs q.at_ a.mv, if (q.E a.mv).isSome then (fun k => if k = a.mv then none else q.E k) else q.E,
    bump q.S ((lastTo cs (advTo cs q.at_ a.mv) a.th).getD 0).toNat, if (q.E a.mv).isSome then q.M else q.M ++ [a.mv]⟩
def startR (cs : List Cl) : RN := ⟨0, endsTo cs cs.length, List.replicate cs.length 0, movesTo cs cs.length⟩
def runR (cs : List Cl) (tr : List Ac) : RN := tr.foldl (stepR cs) (startR cs)

theorem endsTo_succ {cs : List Cl} {i : Nat} {x : Cl} (hx : cs[i]? = some x) : endsTo cs (i + 1) = fun k => if x.en ≠ -1 ∧ k = x.en then some (i : Int) else endsTo cs i k := by
  funext k
  simp only [endsTo, hx]
theorem endsTo_lt {cs : List Cl} : ∀ (i : Nat) (k v : Int), endsTo cs i k = some v → ∃ (j : Nat) (x : Cl), v = (j : Int) ∧ j < i ∧ cs[j]? = some x ∧ x.en = k ∧ k ≠ -1
  | 0, _, _, h => by cases h
  | i + 1, k, v, h => by
    unfold endsTo at h
    cases hx : cs[i]? with
    | none =>
      rw [hx] at h
      obtain ⟨j, x, h1, h2, h3⟩ := endsTo_lt i k v h
      exact ⟨j, x, h1, by omega, h3⟩
    | some x =>
      rw [hx] at h
      simp only at h
      split at h
      · rename_i hc
        injection h with h
        exact ⟨i, x, h.symm, by omega, hx, hc.2.symm, by rw [hc.2]; exact hc.1⟩
      · obtain ⟨j, x, h1, h2, h3⟩ := endsTo_lt i k v h
        exact ⟨j, x, h1, by omega, h3⟩
theorem movesTo_succ {cs : List Cl} {i : Nat} {x : Cl} (hx : cs[i]? = some x) : movesTo cs (i + 1) = if x.en ≠ -1 then movesTo cs i ++ [x.en] else movesTo cs i := by
  unfold movesTo
  rw [List.take_add_one, hx, List.filter_append, List.map_append]
  by_cases h : x.en = -1 <;> simp [h]
theorem movesTo_len (cs : List Cl) (i : Nat) : (movesTo cs i).length ≤ i := by
  unfold movesTo
  rw [List.length_map]
  exact Nat.le_trans (List.length_filter_le _ _) (by rw [List.length_take]; omega)
theorem lastTo_succ {cs : List Cl} {i : Nat} {x : Cl} (hx : cs[i]? = some x) : lastTo cs (i + 1) = fun t => if t = x.th then some (i : Int) else lastTo cs i t := by
  funext k
  simp only [lastTo, hx]
theorem lastTo_lt {cs : List Cl} : ∀ (i : Nat) (k v : Int), lastTo cs i k = some v → ∃ (j : Nat) (x : Cl), v = (j : Int) ∧ j < i ∧ cs[j]? = some x ∧ x.th = k
  | 0, _, _, h => by cases h
  | i + 1, k, v, h => by
    unfold lastTo at h
    cases hx : cs[i]? with
    | none =>
      rw [hx] at h
      obtain ⟨j, x, h1, h2, h3⟩ := lastTo_lt i k v h
      exact ⟨j, x, h1, by omega, h3⟩
    | some x =>
      rw [hx] at h
      simp only at h
      split at h
      · rename_i hc
        injection h with h
        exact ⟨i, x, h.symm, by omega, hx, hc.symm⟩
      · obtain ⟨j, x, h1, h2, h3⟩ := lastTo_lt i k v h
        exact ⟨j, x, h1, by omega, h3⟩
theorem lastTo_ix {cs : List Cl} {n k : Nat} {t : Int} (hl : cs.length = n) (hn : 0 < n) : ∃ j : Nat, (lastTo cs k t).getD 0 = (j : Int) ∧ j < n := by
  cases h : lastTo cs k t with
  | none => exact ⟨0, rfl, hn⟩
  | some v =>
    obtain ⟨j, x, rfl, _, hx, _⟩ := lastTo_lt k t v h
    exact ⟨j, rfl, by rw [← hl]; exact (List.getElem?_eq_some_iff.1 hx).1⟩
theorem advTo_more {cs : List Cl} {a : Nat} {mv : Int} {x : Cl} (hx : cs[a]? = some x) (h : x.bg < mv) : advTo cs a mv = advTo cs (a + 1) mv := by
  unfold advTo
  rw [drop_cons hx, List.takeWhile_cons, if_pos (decide_eq_true h), List.length_cons]
  omega
theorem advTo_stop {cs : List Cl} {a : Nat} {mv : Int} {x : Cl} (hx : cs[a]? = some x) (h : ¬ x.bg < mv) : advTo cs a mv = a := by
  unfold advTo
  rw [drop_cons hx, List.takeWhile_cons, if_neg (by simpa using h)]
  rfl
theorem advTo_end {cs : List Cl} {a : Nat} {mv : Int} (h : cs.length ≤ a) : advTo cs a mv = a := by
  unfold advTo
  rw [List.drop_of_length_le h]
  rfl
theorem advTo_le {cs : List Cl} {a : Nat} {mv : Int} (h : a ≤ cs.length) : advTo cs a mv ≤ cs.length := by
  unfold advTo
  have h1 := (List.takeWhile_sublist (fun x : Cl => decide (x.bg < mv)) (l := cs.drop a)).length_le
  rw [List.length_drop] at h1
  omega
theorem bump_len (S : List Int) (j : Nat) : (bump S j).length = S.length := by simp [bump]
theorem bump_bd {S : List Int} {m : Int} (h : ∀ y ∈ S, 0 ≤ y ∧ y ≤ m) (hm : 0 ≤ m) (j : Nat) : ∀ y ∈ bump S j, 0 ≤ y ∧ y ≤ m + 1 := by
  intro y hy
  unfold bump at hy
  rcases List.mem_or_eq_of_mem_set hy with hy | rfl
  · have := h y hy
    omega
  · rw [List.getD_eq_getElem?_getD]
    cases hg : S[j]? with
    | none => exact ⟨by decide, by show (0 : Int) + 1 ≤ _; omega⟩
    | some z =>
      have := h z (List.mem_of_getElem? hg)
      exact ⟨by show 0 ≤ z + 1; omega, by show z + 1 ≤ _; omega⟩
/-- What holds of the record behind so many accesses. -/
theorem run_facts (cs : List Cl) : ∀ (tr : List Ac) (q : RN) (m : Nat), q.at_ ≤ cs.length → q.S.length = cs.length → (∀ y ∈ q.S, 0 ≤ y ∧ y ≤ (m : Int)) → (∀ k v, q.E k = some v → ∃ (j : Nat) (x : Cl), v = (j : Int) ∧ cs[j]? = some x ∧ x.en = k ∧ k ≠ -1) →
    (tr.foldl (stepR cs) q).at_ ≤ cs.length ∧ (tr.foldl (stepR cs) q).S.length = cs.length ∧ (∀ y ∈ (tr.foldl (stepR cs) q).S, 0 ≤ y ∧ y ≤ ((m + tr.length : Nat) : Int)) ∧
      (∀ k v, (tr.foldl (stepR cs) q).E k = some v → ∃ (j : Nat) (x : Cl), v = (j : Int) ∧ cs[j]? = some x ∧ x.en = k ∧ k ≠ -1) ∧ (tr.foldl (stepR cs) q).M.length ≤ q.M.length + tr.length
  | [], q, m, h1, h2, h3, h4 => ⟨h1, h2, h3, h4, Nat.le_refl _⟩
  | a :: tr, q, m, h1, h2, h3, h4 => by
    have ih := run_facts cs tr (stepR cs q a) (m + 1) (advTo_le h1) ((bump_len _ _).trans h2) (fun y hy => by
      have := bump_bd h3 (by omega) _ y hy
      omega) (fun k v hk => by
      have hk' : (if (q.E a.mv).isSome then (fun k => if k = a.mv then none else q.E k) else q.E) k = some v := hk
      split at hk'
      · simp only at hk'
        split at hk'
        · cases hk'
        · exact h4 k v hk'
      · exact h4 k v hk')
    obtain ⟨i1, i2, i3, i4, i5⟩ := ih
    refine ⟨i1, i2, fun y hy => ?_, i4, Nat.le_trans i5 ?_⟩
    · have := i3 y hy
      rw [List.length_cons]
      omega
    · rw [List.length_cons]
      have : (stepR cs q a).M.length ≤ q.M.length + 1 := by
        show (if (q.E a.mv).isSome then q.M else q.M ++ [a.mv]).length ≤ _
        split <;> simp
      omega
theorem startR_facts (cs : List Cl) : (startR cs).at_ ≤ cs.length ∧ (startR cs).S.length = cs.length ∧ (∀ y ∈ (startR cs).S, 0 ≤ y ∧ y ≤ ((0 : Nat) : Int)) ∧ (∀ k v, (startR cs).E k = some v → ∃ (j : Nat) (x : Cl), v = (j : Int) ∧ cs[j]? = some x ∧ x.en = k ∧ k ≠ -1) := by
  refine ⟨Nat.zero_le _, List.length_replicate, fun y hy => ?_, fun k v h => ?_⟩
  · have : y = 0 := (List.mem_replicate.1 hy).2
    subst this
    exact ⟨Int.le_refl _, Int.le_refl _⟩
  · obtain ⟨j, x, h1, _, h3⟩ := endsTo_lt _ _ _ h
    exact ⟨j, x, h1, h3⟩
theorem runR_take {cs : List Cl} {tr : List Ac} {i : Nat} {a : Ac} (ha : tr[i]? = some a) : runR cs (tr.take (i + 1)) = stepR cs (runR cs (tr.take i)) a := by
  unfold runR
  rw [List.take_add_one, ha, List.foldl_append]
  rfl

/-- Whether some call ends in a move. -/
def endsAt (cs : List Cl) (m : Int) : Bool := cs.any fun x => decide (x.en = m)
def gapStep (cs : List Cl) (q : Int × Int) (m : Int) : Int × Int := (mxF q.1 (if endsAt cs m then 0 else q.2 + 1), if endsAt cs m then 0 else q.2 + 1)
def gapF (cs : List Cl) (L : List Int) : Int × Int := L.foldl (gapStep cs) (0, 0)
theorem gapF_take {cs : List Cl} {L : List Int} {i : Nat} {m : Int} (h : L[i]? = some m) : gapF cs (L.take (i + 1)) = gapStep cs (gapF cs (L.take i)) m := by
  unfold gapF
  rw [List.take_add_one, h, List.foldl_append]
  rfl
theorem gapF_bd (cs : List Cl) (L : List Int) : 0 ≤ (gapF cs L).1 ∧ (gapF cs L).1 ≤ L.length ∧ 0 ≤ (gapF cs L).2 ∧ (gapF cs L).2 ≤ L.length := by
  have key : ∀ (L : List Int) (q : Int × Int) (n : Int), 0 ≤ q.1 ∧ q.1 ≤ n ∧ 0 ≤ q.2 ∧ q.2 ≤ n → 0 ≤ (L.foldl (gapStep cs) q).1 ∧ (L.foldl (gapStep cs) q).1 ≤ n + L.length ∧ 0 ≤ (L.foldl (gapStep cs) q).2 ∧ (L.foldl (gapStep cs) q).2 ≤ n + L.length := by
    intro L
    induction L with
    | nil => intro q n h; simpa using h
    | cons m L ih =>
      intro q n h
      have h2 := ih (gapStep cs q m) (n + 1) (by
        unfold gapStep mxF
        split <;> split <;> simp <;> omega)
      rw [List.length_cons]
      rw [List.foldl_cons]
      refine ⟨h2.1, ?_, h2.2.2.1, ?_⟩
      · have := h2.2.1; omega
      · have := h2.2.2.2; omega
  have := key L (0, 0) 0 ⟨Int.le_refl _, Int.le_refl _, Int.le_refl _, Int.le_refl _⟩
  unfold gapF
  omega
/-- How many of the first calls end in a move. -/
def overTo (cs : List Cl) (i : Nat) (k : Int) : Nat := ((cs.take i).filter fun x => decide (x.en = k)).length
def overM (cs : List Cl) (i : Nat) (k : Int) : Option Int := if overTo cs i k = 0 then none else some (overTo cs i k : Int)
theorem overM_get (cs : List Cl) (i : Nat) (k : Int) : (overM cs i k).getD 0 = (overTo cs i k : Int) := by
  unfold overM
  split
  · rename_i h; rw [h]; rfl
  · rfl
theorem overM_succ {cs : List Cl} {i : Nat} {x : Cl} (hx : cs[i]? = some x) : (fun k => if k = x.en then some ((overTo cs i x.en : Int) + 1) else overM cs i k) = overM cs (i + 1) := by
  funext k
  have e : overTo cs (i + 1) k = if x.en = k then overTo cs i k + 1 else overTo cs i k := by
    unfold overTo
    rw [List.take_add_one, hx, List.filter_append]
    by_cases h : x.en = k <;> simp [h]
  unfold overM
  rw [e]
  by_cases h : k = x.en
  · subst h
    simp
  · have h' : ¬ x.en = k := fun e => h e.symm
    simp only [if_neg h, if_neg h']
theorem overTo_le (cs : List Cl) (i : Nat) (k : Int) : overTo cs i k ≤ i := Nat.le_trans (List.length_filter_le _ _) (by rw [List.length_take]; omega)
theorem overTo_pos {cs : List Cl} {n : Nat} (hl : cs.length = n) (k : Int) : (0 : Int) < (overTo cs n k : Int) ↔ endsAt cs k = true := by
  unfold overTo endsAt
  rw [List.take_of_length_le (by omega), List.any_eq_true]
  constructor
  · intro h
    obtain ⟨x, hx⟩ := List.exists_mem_of_length_pos (show 0 < (cs.filter fun x => decide (x.en = k)).length by omega)
    exact ⟨x, (List.mem_filter.1 hx).1, (List.mem_filter.1 hx).2⟩
  · rintro ⟨x, hx, he⟩
    have := List.length_pos_of_mem (List.mem_filter (p := fun x : Cl => decide (x.en = k)).2 ⟨hx, he⟩)
    omega

open Classical in
/-- One for the calls whose ends are left behind. -/
noncomputable def cntE (E : Int → Option Int) (left : Int → Prop) (i : Nat) : Int := if ∃ k, E k = some (i : Int) ∧ ¬ left k then 1 else 0
theorem cntE_start (E : Int → Option Int) (i : Nat) : cntE E (fun k => E k ≠ none) i = 0 := if_neg fun ⟨k, h1, h2⟩ => h2 (show E k ≠ none by rw [h1]; exact fun h => by cases h)
theorem cntE_end (E : Int → Option Int) {left : Int → Prop} (h : ∀ k, ¬ left k) (i : Nat) : cntE E left i = cntE E (fun _ => False) i := by
  unfold cntE
  congr 1
  exact propext ⟨fun ⟨k, h1, _⟩ => ⟨k, h1, id⟩, fun ⟨k, h1, _⟩ => ⟨k, h1, h k⟩⟩
theorem cntE_hit {E : Int → Option Int} {left : Int → Prop} {k : Int} {i : Nat} (hE : E k = some (i : Int)) (hl : left k) (hj : ∀ k', E k' = some (i : Int) → k' = k) : cntE E left i = 0 ∧ cntE E (fun z => left z ∧ z ≠ k) i = 1 :=
  ⟨if_neg fun ⟨k', h1, h2⟩ => h2 (by rw [hj k' h1]; exact hl), if_pos ⟨k, hE, fun h => h.2 rfl⟩⟩
theorem cntE_miss {E : Int → Option Int} {left : Int → Prop} {k : Int} {i : Nat} (hE : E k ≠ some (i : Int)) : cntE E (fun z => left z ∧ z ≠ k) i = cntE E left i := by
  unfold cntE
  congr 1
  refine propext ⟨fun ⟨k', h1, h2⟩ => ⟨k', h1, fun h => h2 ⟨h, fun e => hE (by rw [← e]; exact h1)⟩⟩, fun ⟨k', h1, h2⟩ => ⟨k', h1, fun h => h2 h.1⟩⟩
theorem cntE_bd (E : Int → Option Int) (left : Int → Prop) (i : Nat) : 0 ≤ cntE E left i ∧ cntE E left i ≤ 1 := by
  unfold cntE
  split <;> omega
/-- The steps of every call, with the ends that are left. -/
noncomputable def withE (E : Int → Option Int) (left : Int → Prop) (S : List Int) : List Int := (List.range S.length).map fun i => S.getD i 0 + cntE E left i
theorem withE_len (E : Int → Option Int) (left : Int → Prop) (S : List Int) : (withE E left S).length = S.length := by simp [withE]
theorem withE_at {E : Int → Option Int} {left : Int → Prop} {S : List Int} {i : Nat} (h : i < S.length) : (withE E left S)[i]? = some (S.getD i 0 + cntE E left i) := by
  unfold withE
  rw [List.getElem?_map, List.getElem?_range h]
  rfl
theorem withE_start (E : Int → Option Int) (S : List Int) : withE E (fun k => E k ≠ none) S = S := by
  apply List.ext_getElem?
  intro i
  by_cases h : i < S.length
  · rw [withE_at h, cntE_start, List.getElem?_eq_getElem h, List.getD_eq_getElem?_getD, List.getElem?_eq_getElem h]
    simp
  · rw [List.getElem?_eq_none (by rw [withE_len]; omega), List.getElem?_eq_none (by omega)]
theorem withE_end (E : Int → Option Int) {left : Int → Prop} (h : ∀ k, ¬ left k) (S : List Int) : withE E left S = withE E (fun _ => False) S := by
  unfold withE
  exact List.map_congr_left fun i _ => by rw [cntE_end E h i]
theorem withE_step {E : Int → Option Int} {left : Int → Prop} {S : List Int} {k : Int} {i : Nat} (hE : E k = some (i : Int)) (hl : left k) (hj : ∀ k', E k' = some (i : Int) → k' = k) (hi : i < S.length) :
    bump (withE E left S) i = withE E (fun z => left z ∧ z ≠ k) S := by
  obtain ⟨c1, c2⟩ := cntE_hit hE hl hj
  apply List.ext_getElem?
  intro j
  unfold bump
  by_cases hj : j < S.length
  · rw [withE_at hj, List.getElem?_set]
    by_cases hij : i = j
    · subst hij
      rw [if_pos rfl, if_pos (by rw [withE_len]; exact hi), List.getD_eq_getElem?_getD, withE_at hi, c1, c2]
      simp
    · rw [if_neg hij, withE_at hj, cntE_miss]
      rw [hE]
      intro e
      injection e with e
      exact hij (by omega)
  · rw [List.getElem?_eq_none (by simp [withE_len]; omega), List.getElem?_eq_none (by rw [withE_len]; omega)]
theorem withE_bd {E : Int → Option Int} {left : Int → Prop} {S : List Int} {m : Int} (h : ∀ y ∈ S, 0 ≤ y ∧ y ≤ m) : ∀ y ∈ withE E left S, 0 ≤ y ∧ y ≤ m + 1 := by
  intro y hy
  unfold withE at hy
  obtain ⟨i, hi, rfl⟩ := List.mem_map.1 hy
  have hi := List.mem_range.1 hi
  have h1 := cntE_bd E left i
  have h2 := h _ (List.getElem_mem hi)
  have h3 : S.getD i 0 = S[i] := by rw [List.getD_eq_getElem?_getD, List.getElem?_eq_getElem hi]; rfl
  rw [h3]
  omega

open Go.ChangeMaps (setBlock)

section
variable {P : Program} {t kt et : TypeId} {w : World} {b : Nat} {f : Int → Option Int}
theorem mem_erase {es : Array MapEntry} {j : Nat} {x : MapEntry} (hx : x ∈ (es.eraseIdxIfInBounds j).toList) : x ∈ es.toList := by
  have hs' : (es.eraseIdxIfInBounds j).toList.Sublist es.toList := by
    unfold Array.eraseIdxIfInBounds
    split
    · simp only [Array.toList_eraseIdx]; exact List.eraseIdx_sublist _ _
    · exact List.Sublist.refl _
  exact hs'.subset hx
theorem IMap.del (ht : P.underlying t = some (.map kt et)) (hk : P.underlying kt = some (.int .i64)) (h : IMap w b f) (k : Int) (ty : TypeId) :
    ∃ w', (Builtin.delete_ #[t, kt] ty #[.map (some b), .int .i64 k]).run P w = .ok (.tuple #[]) w' ∧ IMap w' b (fun j => if j = k then none else f j) ∧ Only (fun q => q = b) w w' := by
  obtain ⟨es, cl, hb, hs, h1, h2⟩ := h
  have hks : ∀ x ∈ es.toList, IsKey (.int .i64) x.key := fun x hx => by
    obtain ⟨k', v', e, _⟩ := h1 x hx
    rw [e]
    exact isKey_int k'
  have hset : ∀ o', Only (fun q => q = b) w { w with heap := w.heap.setIfInBounds b o' } := fun o' =>
    ⟨rfl, rfl, rfl, by simp, fun q _ hq => (heap_set (o' := o') hb).2 q hq⟩
  rcases findNow_spec (isKey_int k) es.toList 0 hks with ⟨g1, g2⟩ | ⟨j, e, g1, g2, g3⟩
  · refine ⟨_, by simp [Builtin.delete_, run_underlying ht, MapKept.run_getObj_map hb, run_checkKey hk (isKey_int k), run_findKey hk g1, run_setObj_map _ hb, Result.andThen], ⟨es, cl, (heap_set hb).1, hs, fun x hx => ?_, fun k' v' hf => ?_⟩, hset _⟩
    · obtain ⟨k', v', e1, e2, e3⟩ := h1 x hx
      have hne : k' ≠ k := fun q => g2 x hx (by rw [e1, q])
      exact ⟨k', v', e1, e2, by simp only [hne, if_false]; exact e3⟩
    · by_cases hkk : k' = k
      · simp only [hkk, if_true] at hf
        cases hf
      · simp only [hkk, if_false] at hf
        exact h2 k' v' hf
  · have hnd := hs.2.2
    have hj : j < es.size := by
      have := (List.getElem?_eq_some_iff.1 g2).1
      simpa using this
    have hlist : (es.eraseIdxIfInBounds j).toList = es.toList.eraseIdx j := by
      unfold Array.eraseIdxIfInBounds
      rw [dif_pos hj, Array.toList_eraseIdx]
    have hnot : ∀ x ∈ es.toList.eraseIdx j, x.key ≠ e.key := fun x hx q => by
      obtain ⟨i, hi1, hi2⟩ := List.mem_eraseIdx_iff_getElem?.1 hx
      have hjj : (es.toList.map (·.key))[j]? = some e.key := by rw [List.getElem?_map, g2]; rfl
      have hii : (es.toList.map (·.key))[i]? = some x.key := by rw [List.getElem?_map, hi2]; rfl
      rw [q, ← hjj] at hii
      exact hi1 ((List.getElem?_inj (by rw [List.length_map]; exact (List.getElem?_eq_some_iff.1 hi2).1) hnd).1 hii)
    refine ⟨_, by simp [Builtin.delete_, run_underlying ht, MapKept.run_getObj_map hb, run_checkKey hk (isKey_int k), run_findKey hk g1, run_setObj_map _ hb, Result.andThen]; rfl, ⟨_, cl, (heap_set hb).1, stamped_erase hs _, fun x hx => ?_, fun k' v' hf => ?_⟩, hset _⟩
    · obtain ⟨k', v', e1, e2, e3⟩ := h1 x (mem_erase hx)
      have hne : k' ≠ k := fun q => by
        rw [hlist] at hx
        exact hnot x hx (by rw [e1, g3, q])
      exact ⟨k', v', e1, e2, by simp only [hne, if_false]; exact e3⟩
    · by_cases hkk : k' = k
      · simp only [hkk, if_true] at hf
        cases hf
      · simp only [hkk, if_false] at hf
        obtain ⟨x, hx, e1, e2⟩ := h2 k' v' hf
        obtain ⟨i, hi⟩ := List.getElem?_of_mem hx
        refine ⟨x, ?_, e1, e2⟩
        rw [hlist]
        refine List.mem_eraseIdx_iff_getElem?.2 ⟨i, fun q => ?_, hi⟩
        subst q
        rw [g2] at hi
        injection hi with hi
        subst hi
        rw [e1] at g3
        injection g3 with _ g3
        exact hkk g3
end

/-- Block r walks over the map in block b, which reads as f; the keys still to come. -/
def EIter (w : World) (b r : Nat) (f : Int → Option Int) (left : Int → Prop) : Prop :=
  ∃ es clock since seen c0, w.heap[b]? = some (.map es clock) ∧ Stamped es clock ∧ (∀ x ∈ es.toList, ∃ k v, x.key = .int .i64 k ∧ x.val = .int .i64 v ∧ f k = some v) ∧
    w.heap[r]? = some (.mapIter (some b) since seen c0) ∧ (∀ x ∈ es.toList, x.born < since) ∧ since ≤ c0 ∧ since ≤ clock ∧ (∀ k, left k → ∃ x ∈ (leftOf es seen).toList, x.key = .int .i64 k) ∧ (∀ x ∈ (leftOf es seen).toList, ∀ k, x.key = .int .i64 k → left k)
theorem EIter.ext {w w' : World} {b r : Nat} {f : Int → Option Int} {left : Int → Prop} (h : EIter w b r f left) (e : Ext w w') : EIter w' b r f left := by
  obtain ⟨es, cl, si, sn, c0, h1, h2, h3, h4, h5⟩ := h
  exact ⟨es, cl, si, sn, c0, ext_blk e h1, h2, h3, ext_blk e h4, h5⟩
theorem EIter.lt {w : World} {b r : Nat} {f : Int → Option Int} {left : Int → Prop} (h : EIter w b r f left) : r < w.heap.size ∧ b < w.heap.size := by
  obtain ⟨es, cl, si, sn, c0, h1, h2, h3, h4, h5⟩ := h
  exact ⟨blk_lt h4, blk_lt h1⟩
section
variable {P : Program} {w : World} {ops : Array Oper} {rest : List Oper} {o : Oper} {a : Act} {Q : Exit → Act → World → Prop}
theorem wpList_range_emap (hg : o.guard = none) (m : Operand) (t : TypeId) (hop : o.op = Op.range t m) {k e : TypeId} (ht : P.underlying t = some (.map k e)) (b : Nat) (f : Int → Option Int) (hm : a.eval m = .map (some b)) (h : IMap w b f)
    (hK : ∀ w', EIter w' b w.heap.size f (fun k => f k ≠ none) → Ext w w' → wpList P ops Q rest (a.put o.dst (.pointer (some ⟨w.heap.size, 0, none⟩))) w') : wpList P ops Q (o :: rest) a w := by
  refine wpList_plain hg fun K' hK' => ?_
  obtain ⟨es, cl, hb, hs, h1, h2⟩ := h
  have hrun := run_range_map (P := P) w t k e b es cl ht hb
  unfold Oper.wp
  simp [execOp, hop, hm, hrun, Result.andThen]
  have he : Ext w (w.alloc (.mapIter (some b) cl #[] cl)) := (Ext.rfl' w).alloc1 _
  refine hK' _ _ (hK _ ⟨es, cl, cl, #[], cl, ext_blk he hb, hs, h1, heap_alloc_new w _, hs.1, Nat.le_refl _, Nat.le_refl _, fun k hk => ?_, fun x hx k hk => ?_⟩ he)
  rotate_left
  · obtain ⟨k', v', e1, _, e3⟩ := h1 x (mem_left hx).1
    rw [hk] at e1
    injection e1 with _ e1
    rw [e1, e3]
    simp
  cases hf : f k with
  | none => exact absurd hf hk
  | some v =>
    obtain ⟨x, hx, e1, _⟩ := h2 k v hf
    exact ⟨x, by simpa [leftOf] using hx, e1⟩
theorem wpList_delete_imap (hg : o.guard = none) (m x : Operand) (t k : TypeId) (hop : o.op = Op.call { callee := Callee.builtin Builtin.delete, args := #[m, x], argTypes := #[t, k] })
    (e : TypeId) (ht : P.underlying t = some (.map k e)) (hk : P.underlying k = some (.int .i64)) (b : Nat) (f : Int → Option Int) (hm : a.eval m = .map (some b)) (h : IMap w b f) (kk : Int) (hx : a.eval x = .int .i64 kk)
    (hK : ∀ w', IMap w' b (fun j => if j = kk then none else f j) → Only (fun q => q = b) w w' → wpList P ops Q rest (a.put o.dst (.tuple #[])) w') :
    wpList P ops Q (o :: rest) a w := by
  refine wpList_plain hg fun K' hK' => ?_
  obtain ⟨w', hrun, r1, r2⟩ := h.del ht hk kk o.type
  unfold Oper.wp
  simp [execOp, hop, resolve, invoke, builtin, hm, hx, hrun, Result.andThen]
  exact hK' _ _ (hK w' r1 r2)
theorem wpList_lookup_imap (hg : o.guard = none) (m x : Operand) (t : TypeId) (ok : Bool) (hop : o.op = Op.lookup t m x ok)
    (k e : TypeId) (ht : P.underlying t = some (.map k e)) (hk : P.underlying k = some (.int .i64)) (hz : ∀ w, (zeroValue e).run P w = .ok (.int .i64 0) w) (b : Nat) (f : Int → Option Int) (hm : a.eval m = .map (some b)) (h : IMap w b f) (kk : Int) (hx : a.eval x = .int .i64 kk)
    (hK : wpList P ops Q rest (a.put o.dst (if ok then .tuple #[.int .i64 ((f kk).getD 0), .bool (f kk).isSome] else .int .i64 ((f kk).getD 0))) w) :
    wpList P ops Q (o :: rest) a w := by
  refine wpList_plain hg fun K' hK' => ?_
  have hrun := h.lookup (P := P) (t := t) ht hk hz kk ok
  unfold Oper.wp
  simp [execOp, hop, hm, hx, hrun, Result.andThen]
  exact hK' _ _ hK
theorem wpList_update_imap (hg : o.guard = none) (m x v : Operand) (t : TypeId) (hop : o.op = Op.mapUpdate t m x v)
    (k e : TypeId) (ht : P.underlying t = some (.map k e)) (hk : P.underlying k = some (.int .i64)) (b : Nat) (f : Int → Option Int) (hm : a.eval m = .map (some b)) (h : IMap w b f) (kk vv : Int) (hx : a.eval x = .int .i64 kk) (hv : a.eval v = .int .i64 vv)
    (hK : ∀ w', IMap w' b (fun j => if j = kk then some vv else f j) → Only (fun q => q = b) w w' → wpList P ops Q rest (a.put o.dst undef) w') :
    wpList P ops Q (o :: rest) a w := by
  refine wpList_plain hg fun K' hK' => ?_
  obtain ⟨r0, r1, r2⟩ := h.put (P := P) (t := t) ht hk kk vv
  unfold Oper.wp
  simp only [execOp, hop, hm, hx, hv, Sem.run_bind, r0, Result.andThen]
  exact hK' _ _ (hK _ r1 r2)
theorem wpList_next_emap (hg : o.guard = none) (it : Operand) (hop : o.op = Op.next it false) (b r : Nat) (f : Int → Option Int) (left : Int → Prop) (hit : a.eval it = .pointer (some ⟨r, 0, none⟩)) (h : EIter w b r f left)
    (hDone : (∀ k, ¬ left k) → wpList P ops Q rest (a.put o.dst (.tuple #[.bool false])) w)
    (hMore : ∀ k v w', f k = some v → left k → EIter w' b r f (fun z => left z ∧ z ≠ k) → iterLeft w' b r < iterLeft w b r → Only (fun q => q = r) w w' → (Instr.entry (.pointer (some ⟨r, 0, none⟩))).run P w' = .ok (.tuple #[.int .i64 k, .int .i64 v]) w' →
      wpList P ops Q rest (a.put o.dst (.tuple #[.bool true, .int .i64 k, .int .i64 v])) w') : wpList P ops Q (o :: rest) a w := by
  refine wpList_plain hg fun K' hK' => ?_
  obtain ⟨es, cl, si, sn, c0, hb, hs, h1, hr, hold, hsc, hcl, hl, hl2⟩ := h
  have hrb : r ≠ b := fun e => by rw [e, hb] at hr; cases hr
  unfold Oper.wp
  rcases run_next_at (P := P) w o.type r b si c0 sn es cl hr hb hold hsc with ⟨h0, hrun⟩ | ⟨e, he, w1, hw1, hrun⟩
  · simp [execOp, hop, hit, hrun, Result.andThen]
    refine hK' _ _ (hDone fun k hk => ?_)
    obtain ⟨x, hx, _⟩ := hl k hk
    have : (leftOf es sn) = #[] := Array.eq_empty_of_size_eq_zero h0
    rw [this] at hx
    simp at hx
  · obtain ⟨hes, _⟩ := mem_left he
    obtain ⟨k, v, ek, ev, hf⟩ := h1 e hes
    have hheap : w1.heap = w.heap := by rcases hw1 with rfl | rfl <;> rfl
    have hr1 : w1.heap[r]? = some (.mapIter (some b) si sn c0) := by rw [hheap]; exact hr
    have hset := heap_set (o' := .mapIter (some b) si (sn.push e.born) cl) hr1
    have hb2 : (setBlock w1 r (.mapIter (some b) si (sn.push e.born) cl)).heap[b]? = some (.map es cl) := (hset.2 b (Ne.symm hrb)).trans (by rw [hheap]; exact hb)
    have hr2 : (setBlock w1 r (.mapIter (some b) si (sn.push e.born) cl)).heap[r]? = some (.mapIter (some b) si (sn.push e.born) cl) := hset.1
    have honly : Only (fun q => q = r) w (setBlock w1 r (.mapIter (some b) si (sn.push e.born) cl)) := by
      have h1 : Only (fun q => q = r) w w1 := by
        rcases hw1 with rfl | rfl
        · exact Only.refl _ _
        · exact (Only.refl _ _).drew
      refine ⟨h1.os, h1.tape, h1.output, by simp [setBlock, hheap], fun q hq hne => ?_⟩
      exact (hset.2 q hne).trans (by rw [hheap])
    have hen := run_entry_at (P := P) _ r b si sn es cl e hr2 hb2 hes hs.2.1
    rw [ek, ev] at hrun
    rw [ek, ev] at hen
    simp [execOp, hop, hit, hrun, Result.andThen]
    refine hK' _ _ (hMore k v _ hf (hl2 e he k ek) ⟨es, cl, si, sn.push e.born, cl, hb2, hs, h1, hr2, hold, hcl, hcl, fun z hz => ?_, fun x hx z hz => ?_⟩ ?_ honly hen)
    · obtain ⟨x, hx, ex⟩ := hl z hz.1
      refine ⟨x, ?_, ex⟩
      obtain ⟨hxe, hxs⟩ := mem_left hx
      simp only [leftOf, Array.toList_filter, List.mem_filter] at hx ⊢
      refine ⟨hx.1, ?_⟩
      rw [contains_push, hxs]
      have : x.born ≠ e.born := fun q => by
        have := born_inj hs.2.1 hxe hes q
        rw [this, ek] at ex
        injection ex with _ ex
        exact hz.2 ex.symm
      simpa using this
    · have hx0 : x ∈ (leftOf es sn).toList ∧ x.born ≠ e.born := by
        simp only [leftOf, Array.toList_filter, List.mem_filter] at hx ⊢
        have h2 := hx.2
        rw [contains_push] at h2
        simp at h2
        refine ⟨⟨hx.1, by simpa using h2.1⟩, h2.2⟩
      refine ⟨hl2 x hx0.1 z hz, fun q => hx0.2 ?_⟩
      subst q
      have hxe := (mem_left hx0.1).1
      have hkk : x.key = e.key := by rw [hz, ek]
      obtain ⟨i1, hi1⟩ := List.getElem?_of_mem hxe
      obtain ⟨i2, hi2⟩ := List.getElem?_of_mem hes
      have hjj : (es.toList.map (·.key))[i1]? = some x.key := by rw [List.getElem?_map, hi1]; rfl
      have hii : (es.toList.map (·.key))[i2]? = some e.key := by rw [List.getElem?_map, hi2]; rfl
      rw [← hkk, ← hjj] at hii
      have hq := (List.getElem?_inj (by rw [List.length_map]; exact (List.getElem?_eq_some_iff.1 hi2).1) hs.2.2).1 hii
      rw [hq, hi1] at hi2
      injection hi2 with hi2
      rw [hi2]
    · unfold iterLeft
      rw [hr2, hb2, hr, hb]
      exact left_shrinks es sn e he
end

open Go.ChangeShapes Go.WideShapes Go.ChangeAt Go.RowKit

theorem own_imap {w : World} {B size n pe : Nat} {e : TypeId} {v : Value} {us : List Value} {f : Int → Option Int} (h : w.ownsRow B e size v n us) (m : IMap w pe f) : ∀ q, v.ownBlock = some q → q ≠ pe := by
  intro q hq e1
  subst e1
  obtain ⟨es, cl, hm, _⟩ := m
  rcases h.2 with ⟨h1, _⟩ | ⟨g, cap, cur, hv, _, hg, _⟩
  · rw [h1] at hq
    cases hq
  · rw [hv] at hq
    have e2 : g = q := Option.some.inj hq
    rw [e2, hm] at hg
    cases hg
/-- The memory of runs: two maps, the steps, the moves. -/
structure RMem (w : World) (B pe pl ps n : Nat) (v5 : Value) (E F : Int → Option Int) (S M : List Int) : Prop where
  ends : IMap w pe E
  last : IMap w pl F
  step : w.ownsRow B 3 1 (.slice (some ⟨ps, 0, none⟩) n n) n (S.map (Value.int .i64))
  mov : w.ownsRow B 3 1 v5 M.length (M.map (Value.int .i64))
  lo1 : B ≤ pe
  lo2 : B ≤ pl
  ne : pe ≠ pl
  apart : ∀ q, v5.ownBlock = some q → q ≠ ps
section
variable {w w' : World} {B pe pl ps n : Nat} {v5 : Value} {E F E' F' : Int → Option Int} {S M : List Int}
theorem RMem.ext (h : RMem w B pe pl ps n v5 E F S M) (e : Ext w w') : RMem w' B pe pl ps n v5 E F S M := ⟨h.ends.ext e, h.last.ext e, own_ext h.step e, own_ext h.mov e, h.lo1, h.lo2, h.ne, h.apart⟩
theorem RMem.putl (h : RMem w B pe pl ps n v5 E F S M) (hI : IMap w' pl F') (o : Only (fun q => q = pl) w w') : RMem w' B pe pl ps n v5 E F' S M :=
  ⟨h.ends.only o fun e => h.ne e, hI, own_only h.step o fun q hq e => own_imap h.step h.last q hq e, own_only h.mov o fun q hq e => own_imap h.mov h.last q hq e, h.lo1, h.lo2, h.ne, h.apart⟩
theorem RMem.del (h : RMem w B pe pl ps n v5 E F S M) (hI : IMap w' pe E') (o : Only (fun q => q = pe) w w') : RMem w' B pe pl ps n v5 E' F S M :=
  ⟨hI, h.last.only o fun e => h.ne e.symm, own_only h.step o fun q hq e => own_imap h.step h.ends q hq e, own_only h.mov o fun q hq e => own_imap h.mov h.ends q hq e, h.lo1, h.lo2, h.ne, h.apart⟩
theorem RMem.set (h : RMem w B pe pl ps n v5 E F S M) (j : Nat) (x : Int) : RMem (w.setCell ⟨ps, j, none⟩ (.int .i64 x)) B pe pl ps n v5 E F (S.set j x) M := by
  have o : Only (fun q => q = ps) w (w.setCell ⟨ps, j, none⟩ (.int .i64 x)) := (Only.refl _ _).setCell _ _ fun _ => rfl
  exact ⟨h.ends.only o fun e => own_imap h.step h.ends ps rfl e.symm, h.last.only o fun e => own_imap h.step h.last ps rfl e.symm, own_ints_set x h.step,
    own_only h.mov o fun q hq e => h.apart q hq e, h.lo1, h.lo2, h.ne, h.apart⟩
theorem RMem.push (h : RMem w B pe pl ps n v5 E F S M) {v8 : Value} {x : Int} (hown : w'.ownsRow B 3 1 v8 (M.length + 1) (M.map (Value.int .i64) ++ [.int .i64 x])) (hg : w.grownBy w' v5.ownBlock) (hat : v8.ownBlock = v5.ownBlock ∨ v8.ownBlock = some (w.heap.size + 1)) :
    RMem w' B pe pl ps n v8 E F S (M ++ [x]) := by
  have o := Only.of_grown hg
  refine ⟨h.ends.only o fun e => own_imap h.mov h.ends pe e.symm rfl, h.last.only o fun e => own_imap h.mov h.last pl e.symm rfl, own_only h.step o fun q hq e => ?_, ?_, h.lo1, h.lo2, h.ne, fun q hq => ?_⟩
  · have e2 : ps = q := Option.some.inj hq
    exact h.apart q e.symm e2.symm
  · rw [List.length_append, List.map_append]
    exact hown
  · rcases hat with h1 | h1
    · exact h.apart q (by rw [← h1]; exact hq)
    · rw [h1] at hq
      have e2 : w.heap.size + 1 = q := Option.some.inj hq
      have := (h.step.lt ps rfl).2
      omega
theorem RMem.keep (h : RMem w B pe pl ps n v5 E F S M) {X : Nat → Prop} (o : Only X w w') (h1 : ¬ X pe) (h2 : ¬ X pl) (h3 : ¬ X ps) (h4 : ∀ q, v5.ownBlock = some q → ¬ X q) : RMem w' B pe pl ps n v5 E F S M :=
  ⟨h.ends.only o h1, h.last.only o h2, own_only h.step o fun q hq e => by
    have e2 : ps = q := Option.some.inj hq
    exact h3 (by rw [e2]; exact e), own_only h.mov o fun q hq e => h4 q hq e, h.lo1, h.lo2, h.ne, h.apart⟩
theorem RMem.ext_of (h : RMem w B pe pl ps n v5 E F S M) {w0 : World} (e : Ext w0 w) (hB : w0.heap.size ≤ B) {X : Nat → Prop} (o : Only X w w') (hx : ∀ q, X q → q = pe ∨ q = pl ∨ q = ps ∨ v5.ownBlock = some q) : Ext w0 w' :=
  e.only o fun q hq => by
    rcases hx q hq with rfl | rfl | rfl | h1
    · exact Nat.le_trans hB h.lo1
    · exact Nat.le_trans hB h.lo2
    · exact Nat.le_trans hB (h.step.lt _ rfl).1
    · exact Nat.le_trans hB (h.mov.lt q h1).1
end
theorem zeroRunI (w : World) : (zeroValue 3).run Try.prog w = .ok (.int .i64 0) w := by kernel_rfl
theorem EIter.only {w w' : World} {b r : Nat} {f : Int → Option Int} {left : Int → Prop} {X : Nat → Prop} (h : EIter w b r f left) (o : Only X w w') (hb : ¬ X b) (hr : ¬ X r) : EIter w' b r f left := by
  obtain ⟨es, cl, si, sn, c0, h1, h2, h3, h4, h5⟩ := h
  exact ⟨es, cl, si, sn, c0, (o.block b (blk_lt h1) hb).trans h1, h2, h3, (o.block r (blk_lt h4) hr).trans h4, h5⟩
theorem iterLeft_only {w w' : World} {b r : Nat} {X : Nat → Prop} (o : Only X w w') (hb : ¬ X b) (hr : ¬ X r) (hb1 : b < w.heap.size) (hr1 : r < w.heap.size) : iterLeft w' b r = iterLeft w b r := by
  unfold iterLeft
  rw [o.block r hr1 hr, o.block b hb1 hb]
theorem overM_zero (cs : List Cl) : overM cs 0 = fun _ => none := by
  funext k
  simp [overM, overTo]
theorem wrap_small {x : Int} (h0 : 0 ≤ x) (h1 : x ≤ 4611686018427387904) : wrap64 (x + 1) = x + 1 := IntWalk.wrap64_in _ (by omega)



set_option maxRecDepth 100000 in
set_option maxHeartbeats 16000000 in
theorem runs_any (A1 : Option Addr) (n1 c1 : Nat) (A2 : Option Addr) (n2 c2 : Nat) (A3 : Option Addr) (n3 c3 : Nat) (A4 : Option Addr) (n4 c4 : Nat) (cs : List Cl) (tr : List Ac) (w : World)
    (h1 : Arr Cl.enc w A1 n1 cs) (h2 : Arr Ac.enc w A2 n2 tr) (b1 : n1 ≤ 1048576) (b2 : n2 ≤ 1048576) (hpos : 0 < n2 → 0 < n1) :
    Calls Try.prog 92 #[.agg #[.slice A1 n1 c1, .slice A2 n2 c2, .slice A3 n3 c3, .slice A4 n4 c4]] w fun e w' => e = .returned (.tuple #[.int .i64 (gapF cs (sortL (runR cs tr).M)).1, .int .i64 (maxL (withE (runR cs tr).E (fun _ => False) (runR cs tr).S))]) ∧ Ext w w' := by
  have H1 := Lib.hid h1
  have H2 := Lib.hid h2
  have hlen1 := h1.1
  have hlen2 := h2.1
  have Hl1 := Lib.hid hlen1
  have Hl2 := Lib.hid hlen2
  have hcpos := hpos
  have Hpos := Lib.hid hpos
  clear h1 h2 hlen1 hlen2 hpos hcpos
  go_enter Try.func92, Try.ntmps92
  go_upto_region 1 with fail
  obtain ⟨w0, hw0, hR, hE, hlt0⟩ := enter1 w (.cells #[.slice A1 n1 c1, .slice A2 n2 c2, .slice A3 n3 c3, .slice A4 n4 c4] 48)
  rw [hw0]
  have HE := Lib.hid hE
  have HR := Lib.hid hR
  have H10 := Lib.hid (H1.out.ext hE)
  have H20 := Lib.hid (H2.out.ext hE)
  obtain ⟨r0, r1, r2, r3⟩ := Lat.run hR
  clear hw0 hE hlt0 hR
  have hmm := @run_makeMap Try.prog
  go_upto_region 3 with fail
  obtain ⟨ka, hka⟩ := lat_of ((Ext.rfl' w0).alloc1 (.map #[] 0))
  have HIa : Hid (IMap (w0.alloc (.map #[] 0)) w0.heap.size (endsTo cs 0)) := (IMap.new w0).same fun k => rfl
  rw [hka] at HIa ⊢
  obtain ⟨pe, hpe⟩ : ∃ pe, w0.heap.size = pe := ⟨_, rfl⟩
  have Hpe : Hid (w0.heap.size ≤ pe) := Nat.le_of_eq hpe
  rw [hpe] at HIa
  simp only [hpe]
  clear hpe hmm hka
  go_wp2_with fail
  go_loopw [5, 28] (fun s5 s28 wr => ∃ (k : Lat w0) (i : Nat), wr = k.world ∧ i ≤ n1 ∧ s28 = .int .i64 i ∧ Hid (IMap k.world pe (endsTo cs i)) ∧ Hid (k.world.ownsRow w0.heap.size 3 1 s5 (movesTo cs i).length ((movesTo cs i).map (Value.int .i64)))) (fun _ s_ _ => n1 - (intOf s_).toNat)
  case atStart => exact ⟨ka, 0, rfl, by omega, rfl, HIa, World.ownsRow_nil _ _ _ _⟩
  case round =>
    clear HIa ka
    obtain ⟨k, i, rfl, hi, rfl, HI, HO⟩ := hrel
    obtain ⟨A5, q5, rfl⟩ := own_form HO.out
    by_cases hlt : i < n1
    · obtain ⟨ba, off, x, hAx, hb, hx, x0, x1, x2, x3, x4, x5, x6, x7, x8⟩ := Cl.at_ H10.out hlt
      have z1 : (i : Int) < (n1 : Int) := by omega
      have z0 : (0 : Int) ≤ (i : Int) := by omega
      subst hAx
      go_upto_region 6 with fail
      obtain ⟨w3, hw3, hX, hE3, hlt3⟩ := enter1 k.world (.cells #[.int .i64 x.th, .int .i64 x.op, .int .i64 x.arg, .int .i64 x.dat, .int .i64 x.bg, .int .i64 x.en, .int .i64 x.pt, .int .i64 x.ak, .int .i64 x.av] 150)
      rw [hw3]
      clear x0 x1 x2 x3 x4 x5 x6 x7 x8
      obtain ⟨x0, x1, x2, x3, x4, x5, x6, x7, x8⟩ := Cl.boxed hX
      have HE3 := Lib.hid (Ext.next k.ok hE3)
      have HX3 := Lib.hid hX
      have HI3 := Lib.hid (HI.out.ext hE3)
      have HO3 := Lib.hid (own_ext HO.out hE3)
      have hne : Hid (k.world.heap.size ≠ pe) := fun e => by have := HI.out.lt; omega
      obtain ⟨k3, hk3⟩ := lat_self w3
      rw [hk3]
      generalize k.world.heap.size = px at *
      clear hw3 hX hE3 hk3 hlt3 HI HO
      have hml := movesTo_len cs i
      by_cases he : x.en = -1
      · have f1 : (x.en != -1) = false := by simpa using he
        have He1 : Hid (movesTo cs (i + 1) = movesTo cs i) := by show _ = _; rw [movesTo_succ hx.out, if_neg (fun h => h he)]
        have He2 : Hid (endsTo cs (i + 1) = endsTo cs i) := by
          show _ = _
          rw [endsTo_succ hx.out]
          funext z
          exact if_neg fun h => h.1 he
        clear he
        go_wp2_with fail
        obtain ⟨k9, hk9⟩ := lat_of (Ext.next HE3.out k3.ok)
        have HI9 := Lib.hid (HI3.out.ext k3.ok)
        have HO9 := Lib.hid (own_ext HO3.out k3.ok)
        rw [hk9] at HI9 HO9 ⊢
        clear hk9
        go_roundw
        case rel => exact ⟨k9, i + 1, rfl, by omega, by go_num, by rw [He2.out]; exact HI9, by rw [He1.out]; exact HO9⟩
        case measure => simp [intOf]; omega
      · have f1 : (x.en != -1) = true := by simpa using he
        have Hen := Lib.hid he
        clear he
        go_upto_region 8 with (at_mapUpdate; refine wpList_update_imap rfl _ _ _ 126 rfl _ _ Try.underlying126 Try.underlying3 pe (endsTo cs i) rfl (HI3.out.ext k3.ok) x.en i rfl rfl ?_; intro w7 hI7 hO7)
        have HI7 : Hid (IMap w7 pe (endsTo cs (i + 1))) := hI7.same fun z => by
          rw [endsTo_succ hx.out]
          have := Hen.out
          by_cases hz : z = x.en <;> simp [hz, this]
        have hX7 : w7.heap[px]? = _ := (hO7.block px (blk_lt (ext_blk k3.ok HX3.out)) hne.out).trans (ext_blk k3.ok HX3.out)
        have HE7 : Hid (Ext w0 w7) := (Ext.next HE3.out k3.ok).only hO7 fun q hq => by rw [hq]; exact Hpe.out
        have HO7 := Lib.hid (own_only (own_ext HO3.out k3.ok) hO7 fun q hq e => own_imap (own_ext HO3.out k3.ok) (HI3.out.ext k3.ok) q hq e)
        clear x0 x1 x2 x3 x4 x5 x6 x7 x8
        obtain ⟨x0, x1, x2, x3, x4, x5, x6, x7, x8⟩ := Cl.boxed hX7
        clear hI7 hO7 hX7 k3
        obtain ⟨k7, hk7⟩ := lat_self w7
        rw [hk7]
        clear hk7
        have hoK := own_ext HO7.out k7.ok
        have hsz := (Ext.next HE7.out k7.ok).size
        go_upto_region 9 with (at_builtin; refine wpList_push _ rfl _ _ 26 rfl w0.heap.size 3 1 8 elemInt' Try.underlying26 _ _ _ rfl hoK _ rfl rfl (by simp [Value.oneCell']) (by omega) hsz ?_; intro v8 w8 hown8 hgrow8 hat8)
        have HE8 : Hid (Ext w0 w8) := (Ext.next HE7.out k7.ok).only (Only.of_grown hgrow8) fun q hq => (hoK.lt q hq.symm).1
        have HI8 := Lib.hid ((HI7.out.ext k7.ok).only (Only.of_grown hgrow8) fun e => own_imap hoK (HI7.out.ext k7.ok) pe e.symm rfl)
        have HO8 : Hid (w8.ownsRow w0.heap.size 3 1 v8 (movesTo cs (i + 1)).length ((movesTo cs (i + 1)).map (Value.int .i64))) := by
          rw [movesTo_succ hx.out, if_pos Hen.out, List.length_append, List.map_append]
          exact hown8
        obtain ⟨k9, hk9⟩ := lat_of HE8.out
        rw [hk9] at HI8 HO8 ⊢
        clear hk9 hown8 hgrow8 hat8 hoK hsz
        go_wp2_with fail
        go_roundw
        case rel => exact ⟨k9, i + 1, rfl, by omega, by go_num, HI8, HO8⟩
        case measure => simp [intOf]; omega
    · obtain rfl : n1 = i := by omega
      have hmm := @run_makeMap Try.prog
      have hmk := fun W => run_make1 zeroInt rfl Try.underlying26 (n1 : Int) (by omega) (by omega) (by omega) W
      simp only [Int.toNat_natCast] at hmk
      go_upto_region 13 with fail
      have hEs : Ext k.world ((k.world.alloc (.cells (repl n1 (.int .i64 0)) 3)).alloc (.map #[] 0)) := ((Ext.rfl' k.world).alloc1 _).alloc1 _
      have hbase : Hid (w0.heap.size ≤ k.world.heap.size) := k.size
      have hR0 : RMem ((k.world.alloc (.cells (repl n1 (.int .i64 0)) 3)).alloc (.map #[] 0)) w0.heap.size pe (k.world.heap.size + 1) k.world.heap.size n1 (.slice A5 (movesTo cs n1).length q5) (startR cs).E (lastTo cs 0) (startR cs).S (startR cs).M := by
        have h1 := own_repl k.world w0.heap.size n1 hbase.out (by omega) 3 (.int .i64 0)
        refine ⟨?_, ?_, ?_, ?_, Hpe.out, by have := hbase.out; omega, by have := HI.out.lt; omega, fun q hq => by have := (HO.out.lt q hq).2; omega⟩
        · have h4 := HI.out.ext hEs
          show IMap _ pe (endsTo cs cs.length)
          rw [Hl1.out]
          exact h4
        · have := (IMap.new (k.world.alloc (.cells (repl n1 (.int .i64 0)) 3)))
          have e : (k.world.alloc (.cells (repl n1 (.int .i64 0)) 3)).heap.size = k.world.heap.size + 1 := by simp
          rw [e] at this
          exact this.same fun z => rfl
        · have h3 := own_ext h1 ((Ext.rfl' (k.world.alloc (.cells (repl n1 (.int .i64 0)) 3))).alloc1 (.map #[] 0))
          show World.ownsRow _ _ _ _ _ _ ((List.replicate cs.length 0).map (Value.int .i64))
          rw [Hl1.out, List.map_replicate]
          exact h3
        · have h3 := own_ext HO.out hEs
          show World.ownsRow _ _ _ _ _ (movesTo cs cs.length).length _
          rw [show (startR cs).M = movesTo cs n1 by show movesTo cs cs.length = _; rw [Hl1.out], Hl1.out]
          exact h3
      obtain ⟨k1, hk1⟩ := lat_of (Ext.next k.ok hEs)
      rw [hk1] at hR0 ⊢
      obtain ⟨ps, hps⟩ : ∃ ps, k.world.heap.size = ps := ⟨_, rfl⟩
      obtain ⟨pl, hpl⟩ : ∃ pl, ps + 1 = pl := ⟨_, rfl⟩
      simp only [hps, hpl] at hR0 ⊢
      have HR0 := Lib.hid hR0
      clear hR0 hps hpl hk1 hEs hbase hmm hmk HI HO
      go_wp2_with fail
      go_loopw [5, 10, 54] (fun s5 s10 s54 wr => ∃ (k : Lat w0) (i2 : Nat) (q : RN), wr = k.world ∧ i2 ≤ n2 ∧ Hid (q = runR cs (tr.take i2)) ∧ s54 = .int .i64 i2 ∧ s10 = .int .i64 (q.at_ : Nat) ∧ Hid (RMem k.world w0.heap.size pe pl ps n1 s5 q.E (lastTo cs q.at_) q.S q.M)) (fun _ _ s_ _ => n2 - (intOf s_).toNat)
      case atStart => exact ⟨k1, 0, startR cs, rfl, by omega, rfl, rfl, rfl, HR0⟩
      case round =>
        clear HR0 k1 k
        obtain ⟨k, i2, q, rfl, hi2, Hq, rfl, rfl, HM⟩ := hrel
        have hqf := run_facts cs (tr.take i2) (startR cs) 0 (startR_facts cs).1 (startR_facts cs).2.1 (startR_facts cs).2.2.1 (startR_facts cs).2.2.2
        have e0 : (tr.take i2).foldl (stepR cs) (startR cs) = q := Hq.out.symm
        rw [e0, Hl1.out] at hqf
        have Hat : Hid (q.at_ ≤ n1) := hqf.1
        have HSl : Hid (q.S.length = n1) := hqf.2.1
        have HSb : Hid (∀ y ∈ q.S, 0 ≤ y ∧ y ≤ 1048576) := fun y hy => by
          have h5 := hqf.2.2.1 y hy
          have h6 : (tr.take i2).length ≤ i2 := by rw [List.length_take]; omega
          omega
        have HMl : Hid (q.M.length ≤ 2097152) := by
          have h5 := hqf.2.2.2.2
          have h6 : (tr.take i2).length ≤ i2 := by rw [List.length_take]; omega
          have h7 : (startR cs).M.length ≤ n1 := by
            have := movesTo_len cs cs.length
            rw [Hl1.out] at this
            show (movesTo cs cs.length).length ≤ _
            rw [Hl1.out]
            exact this
          show _ ≤ _
          omega
        have HEb := Lib.hid hqf.2.2.2.1
        clear hqf e0
        obtain ⟨A9, q9, rfl⟩ := own_form HM.out.mov
        by_cases hlt2 : i2 < n2
        · obtain ⟨ba, off, x, hAx, hb, hx, x0, x1, x2, x3, x4, x5, x6⟩ := Ac.at_ (H20.out.ext k.ok) hlt2
          have z1 : (i2 : Int) < (n2 : Int) := by omega
          have z0 : (0 : Int) ≤ (i2 : Int) := by omega
          have hn1 : 0 < n1 := Hpos.out (by omega)
          obtain ⟨kk, hkk⟩ := lat_self k.world
          clear r0 r1 r2 r3
          obtain ⟨r0, r1, r2, r3⟩ := Lat.run (ext_blk k.ok HR.out)
          subst hAx
          rw [hkk]
          go_upto_region 16 with fail
          rw [← hkk]
          clear hkk kk
          obtain ⟨w3, hw3, hX, hE3, hlt3⟩ := enter1 k.world (.cells #[.int .i64 x.mv, .int .i64 x.th, .int .i64 x.kd, .int .i64 x.ad, .int .u64 x.od, .int .u64 x.nw, .int .u64 x.sw] 129)
          rw [hw3]
          have HE3 := Lib.hid (Ext.next k.ok hE3)
          have HX3 := Lib.hid hX
          have HM3 := Lib.hid (HM.out.ext hE3)
          have hne1 : Hid (k.world.heap.size ≠ pl) := fun e => by have := HM.out.last.lt; omega
          have hne2 : Hid (k.world.heap.size ≠ ps) := fun e => by have := (HM.out.step.lt ps rfl).2; omega
          have hne3 : Hid (k.world.heap.size ≠ pe) := fun e => by have := HM.out.ends.lt; omega
          have hne4 : Hid (∀ z, (Value.slice A9 q.M.length q9).ownBlock = some z → z ≠ k.world.heap.size) := fun z hz e => by have := (HM.out.mov.lt z hz).2; omega
          generalize k.world.heap.size = px at *
          clear hw3 hX hE3 hlt3 HM x0 x1 x2 x3 x4 x5 x6 r0 r1 r2 r3 hb k
          go_loopw [10] (fun s10 wr => ∃ (a : Nat), a ≤ n1 ∧ s10 = .int .i64 a ∧ Hid (advTo cs a x.mv = advTo cs q.at_ x.mv) ∧ Hid (IMap wr pl (lastTo cs a)) ∧ Hid (Only (fun z => z = pl) w3 wr)) (fun s_ _ => n1 - (intOf s_).toNat)
          case atStart => exact ⟨q.at_, Hat.out, rfl, rfl, HM3.out.last, Only.refl _ _⟩
          case round =>
            obtain ⟨a, ha, rfl, Hadv, HL, HOi⟩ := hrel
            have HMr : Hid (RMem wr w0.heap.size pe pl ps n1 (.slice A9 q.M.length q9) q.E (lastTo cs a) q.S q.M) := HM3.out.putl HL.out HOi.out
            have HEr : Hid (Ext w0 wr) := HM3.out.ext_of HE3.out (Nat.le_refl _) HOi.out fun z hz => .inr (.inl hz)
            have HXr : Hid (wr.heap[px]? = some (.cells #[.int .i64 x.mv, .int .i64 x.th, .int .i64 x.kd, .int .i64 x.ad, .int .u64 x.od, .int .u64 x.nw, .int .u64 x.sw] 129 (0, 0))) := (HOi.out.block px (blk_lt HX3.out) hne1.out).trans HX3.out
            obtain ⟨x0, x1, x2, x3, x4, x5, x6⟩ := Ac.boxed HXr.out
            obtain ⟨r0, r1, r2, r3⟩ := Lat.run (ext_blk HEr.out HR.out)
            obtain ⟨kr, hkr⟩ := lat_self wr
            rw [hkr]
            clear hkr
            by_cases hgo : ∃ y, cs[a]? = some y ∧ y.bg < x.mv
            · obtain ⟨y', hy', hbg⟩ := hgo
              have hal : a < n1 := by rw [← Hl1.out]; exact (List.getElem?_eq_some_iff.1 hy').1
              obtain ⟨bc, oc, y, hAy, hbc, hy, y0, y1, y2, y3, y4, y5, y6, y7, y8⟩ := Cl.at_ (H10.out.ext HEr.out) hal
              obtain rfl : y' = y := by
                have h9 := hy.out
                rw [hy'] at h9
                exact Option.some.inj h9
              have Hadv' : Hid (advTo cs (a + 1) x.mv = advTo cs q.at_ x.mv) := (advTo_more hy' hbg).symm.trans Hadv.out
              have z2 : (a : Int) < (n1 : Int) := by omega
              have z3 : (0 : Int) ≤ (a : Int) := by omega
              have d1 : decide ((a : Int) < (n1 : Int)) = true := decide_eq_true z2
              have d2 : decide (y'.bg < x.mv) = true := decide_eq_true hbg
              subst hAy
              clear hy' hbg
              go_upto_region 16 with fail
              refine wp_region_cls (Ext wr) (Ext.drew1 kr.ok) (by kernel_rfl) (by kernel_rfl) ?_
              repeat (go_big_quiet_step (fail))
              refine wpQuiet_nil ?_
              rintro _ ⟨k5, rfl⟩
              go_upto_region 18 with (at_mapUpdate; refine wpList_update_imap rfl _ _ _ 126 rfl _ _ Try.underlying126 Try.underlying3 pl (lastTo cs a) rfl (HL.out.ext k5.ok) y'.th a rfl rfl ?_; intro w7 hI7 hO7)
              have HI7 : Hid (IMap w7 pl (lastTo cs (a + 1))) := hI7.same fun z => by rw [lastTo_succ hy.out]
              have HO7 : Hid (Only (fun z => z = pl) w3 w7) := (HOi.out.trans (Only.of_ext (S := fun z => z = pl) k5.ok) fun _ _ h => h).trans hO7 fun _ _ h => h
              clear hI7 hO7
              go_wp2_with fail
              go_roundw
              case rel => exact ⟨a + 1, by omega, by go_num, Hadv', HI7, HO7⟩
              case measure => simp [intOf]; omega
            · have Hst : Hid (advTo cs a x.mv = a) := by
                show _ = _
                by_cases hal : a < n1
                · obtain ⟨y, hy⟩ : ∃ y, cs[a]? = some y := ⟨_, List.getElem?_eq_getElem (by rw [Hl1.out]; exact hal)⟩
                  exact advTo_stop hy fun h => hgo ⟨y, hy, h⟩
                · exact advTo_end (by rw [Hl1.out]; omega)
              by_cases hal : a < n1
              case' pos =>
                obtain ⟨bc, oc, y, hAy, hbc, hy, y0, y1, y2, y3, y4, y5, y6, y7, y8⟩ := Cl.at_ (H10.out.ext HEr.out) hal
                have z2 : (a : Int) < (n1 : Int) := by omega
                have z3 : (0 : Int) ≤ (a : Int) := by omega
                have d1 : decide ((a : Int) < (n1 : Int)) = true := decide_eq_true z2
                have d2 : decide (y.bg < x.mv) = false := decide_eq_false fun h => hgo ⟨y, hy.out, h⟩
                subst hAy
              case' neg =>
                have d1 : decide ((a : Int) < (n1 : Int)) = false := decide_eq_false (by omega)
              all_goals
                clear hgo
                go_upto_region 16 with fail
                refine wp_region_cls (Ext wr) (Ext.drew1 kr.ok) (by kernel_rfl) (by kernel_rfl) ?_
                repeat (go_big_quiet_step (fail))
                refine wpQuiet_nil ?_
                rintro _ ⟨k5, rfl⟩
                obtain ⟨j, hj, hjn⟩ := lastTo_ix (k := a) (t := x.th) Hl1.out hn1
                have Hj := Lib.hid hj
                have hlk : ∀ c : Lat wr, (Instr.lookup 126 (.map (some pl)) (.int .i64 x.th) false).run Try.prog c.world = .ok (.int .i64 j) c.world := fun c => by
                  have := (HL.out.ext c.ok).lookup (P := Try.prog) Try.underlying126 Try.underlying3 zeroRunI x.th false
                  rw [hj] at this
                  exact this
                obtain ⟨s0, hs0, p0⟩ := row_lat HMr.out.step hjn
                have hf0 : ∀ c : Lat wr, c.world.frozen? ⟨ps, j, none⟩ = false := fun c => (HMr.out.ext c.ok).step.frozenAt j
                have hsb := HSb.out s0 (List.mem_of_getElem? hs0)
                have hwr : wrap64 (s0 + 1) = s0 + 1 := wrap_small hsb.1 (by omega)
                have z4 : (j : Int) < (n1 : Int) := by omega
                have z5 : (0 : Int) ≤ (j : Int) := by omega
                have Hb : Hid (q.S.set j (s0 + 1) = bump q.S ((lastTo cs a x.th).getD 0).toNat) := by
                  show _ = _
                  rw [Hj.out, Int.toNat_natCast]
                  unfold bump
                  rw [List.getD_eq_getElem?_getD, hs0]
                  rfl
                clear hj hs0 hsb
                go_upto_region 20 with fail
                have hM8 := (HMr.out.ext k5.ok).set j (s0 + 1)
                rw [Hb.out] at hM8
                have hX8 := (Below.heap_setCell k5.world ⟨ps, j, none⟩ (.int .i64 (s0 + 1)) (k := px) hne2.out).trans (ext_blk k5.ok HXr.out)
                have hE8 : Ext w0 (k5.world.setCell ⟨ps, j, none⟩ (.int .i64 (s0 + 1))) := (HMr.out.ext k5.ok).ext_of (Ext.next HEr.out k5.ok) (Nat.le_refl _) ((Only.refl (S := fun z => z = ps) _).setCell ⟨ps, j, none⟩ (.int .i64 (s0 + 1)) fun _ => rfl) fun z hz => .inr (.inr (.inl hz))
                generalize k5.world.setCell ⟨ps, j, none⟩ (.int .i64 (s0 + 1)) = w8 at hM8 hX8 hE8 ⊢
                clear x0 x1 x2 x3 x4 x5 x6 r0 r1 r2 r3 hlk p0 hf0 hwr z4 z5
                obtain ⟨x0, x1, x2, x3, x4, x5, x6⟩ := Ac.boxed hX8
                have HM8 := Lib.hid hM8
                have HE8 := Lib.hid hE8
                have Ha : Hid (advTo cs q.at_ x.mv = a) := Hadv.out.symm.trans Hst.out
                clear hM8 hE8 hX8
                obtain ⟨k8, hk8⟩ := lat_self w8
                rw [hk8]
                clear hk8
                obtain ⟨bo, hbo⟩ : ∃ bo, (q.E x.mv).isSome = bo := ⟨_, rfl⟩
                have hlk2 : ∀ c : Lat w8, (Instr.lookup 126 (.map (some pe)) (.int .i64 x.mv) true).run Try.prog c.world = .ok (.tuple #[.int .i64 ((q.E x.mv).getD 0), .bool bo]) c.world := fun c => by
                  have := (HM8.out.ends.ext c.ok).lookup (P := Try.prog) Try.underlying126 Try.underlying3 zeroRunI x.mv true
                  rw [hbo] at this
                  exact this
                have Hbo := Lib.hid hbo
                clear hbo
                cases bo with
                | true =>
                  have HQ : Hid (stepR cs q x = ⟨a, fun k => if k = x.mv then none else q.E k, bump q.S ((lastTo cs a x.th).getD 0).toNat, q.M⟩) := by
                    show _ = _
                    unfold stepR
                    rw [Ha.out, if_pos Hbo.out, if_pos Hbo.out]
                  go_upto_region 24 with (at_delete; refine wpList_delete_imap rfl _ _ 126 3 rfl _ Try.underlying126 Try.underlying3 pe q.E rfl (HM8.out.ends.ext k8.ok) x.mv rfl ?_; intro w9 hI9 hO9)
                  have HM9 := Lib.hid ((HM8.out.ext k8.ok).del hI9 hO9)
                  have hE9 : Ext w0 w9 := (HM8.out.ext k8.ok).ext_of (Ext.next HE8.out k8.ok) (Nat.le_refl _) hO9 fun z hz => .inl hz
                  obtain ⟨k9, hk9⟩ := lat_of hE9
                  rw [hk9] at HM9 ⊢
                  clear hk9 hE9 hI9 hO9
                  go_wp2_with fail
                  go_roundw
                  case rel => exact ⟨k9, i2 + 1, ⟨a, fun k => if k = x.mv then none else q.E k, bump q.S ((lastTo cs a x.th).getD 0).toNat, q.M⟩, rfl, by omega, by show _ = _; rw [runR_take hx.out, ← Hq.out]; exact HQ.out.symm, by go_num, rfl, HM9⟩
                  case measure => simp [intOf]; omega
                | false =>
                  have hb0 : ¬ (q.E x.mv).isSome = true := by rw [Hbo.out]; decide
                  have HQ : Hid (stepR cs q x = ⟨a, q.E, bump q.S ((lastTo cs a x.th).getD 0).toNat, q.M ++ [x.mv]⟩) := by
                    show _ = _
                    unfold stepR
                    rw [Ha.out, if_neg hb0, if_neg hb0]
                  clear hb0
                  have hoK := (HM8.out.ext k8.ok).mov
                  have hsz := (Ext.next HE8.out k8.ok).size
                  have hml := HMl.out
                  go_upto_region 24 with (at_builtin; refine wpList_push _ rfl _ _ 26 rfl w0.heap.size 3 1 8 elemInt' Try.underlying26 _ _ _ rfl hoK _ rfl rfl (by simp [Value.oneCell']) (by omega) hsz ?_; intro v10 w10 hown8 hgrow8 hat8)
                  have HM9 := Lib.hid ((HM8.out.ext k8.ok).push hown8 hgrow8 hat8)
                  have hE9 : Ext w0 w10 := (HM8.out.ext k8.ok).ext_of (Ext.next HE8.out k8.ok) (Nat.le_refl _) (Only.of_grown hgrow8) fun z hz => .inr (.inr (.inr hz.symm))
                  obtain ⟨k9, hk9⟩ := lat_of hE9
                  rw [hk9] at HM9 ⊢
                  clear hk9 hE9 hown8 hgrow8 hat8 hoK hsz hml
                  go_wp2_with fail
                  go_roundw
                  case rel => exact ⟨k9, i2 + 1, ⟨a, q.E, bump q.S ((lastTo cs a x.th).getD 0).toNat, q.M ++ [x.mv]⟩, rfl, by omega, by show _ = _; rw [runR_take hx.out, ← Hq.out]; exact HQ.out.symm, by go_num, rfl, HM9⟩
                  case measure => simp [intOf]; omega
        · obtain rfl : n2 = i2 := by omega
          have HQ0 : Hid (q = runR cs tr) := by
            show _ = _
            rw [Hq.out, List.take_of_length_le (by rw [Hl2.out]; exact Nat.le_refl _)]
          have HR0 := Lib.hid (ext_blk k.ok HR.out)
          clear Hq
          go_upto_region 26 with (at_range; refine wpList_range_emap rfl _ 126 rfl Try.underlying126 pe q.E rfl HM.out.ends ?_; intro w9 hit9 he9)
          have HM9 := Lib.hid (HM.out.ext he9)
          have HE9 := Lib.hid (Ext.next k.ok he9)
          have hr1 : Hid (k.world.heap.size ≠ pe) := fun e => by have := HM.out.ends.lt; omega
          have hr2 : Hid (k.world.heap.size ≠ pl) := fun e => by have := HM.out.last.lt; omega
          have hr3 : Hid (k.world.heap.size ≠ ps) := fun e => by have := (HM.out.step.lt ps rfl).2; omega
          have hr4 : Hid (∀ z, (Value.slice A9 q.M.length q9).ownBlock = some z → z ≠ k.world.heap.size) := fun z hz e => by have := (HM.out.mov.lt z hz).2; omega
          have hr5 : Hid (w0.heap.size ≤ k.world.heap.size) := k.size
          have Hit9 := Lib.hid hit9
          generalize k.world.heap.size = pr at *
          clear he9 hit9 HM
          go_frame
          go_loopw [] (fun wr => ∃ (left : Int → Prop), Hid (EIter wr pe pr q.E left) ∧ Hid (RMem wr w0.heap.size pe pl ps n1 (.slice A9 q.M.length q9) q.E (lastTo cs q.at_) (withE q.E left q.S) q.M) ∧ Hid (Ext w0 wr)) (fun wr => iterLeft wr pe pr)
          case atStart => exact ⟨_, Hit9, by rw [withE_start]; exact HM9, HE9⟩
          case round =>
            clear Hit9 HM9 HE9
            obtain ⟨left, hit, HMr, HEr⟩ := hrel
            go_wp2_with (at_next; refine wpList_next_emap rfl _ rfl pe pr q.E left rfl hit.out ?_ ?_)
            · intro hno
              obtain ⟨S', hS'⟩ : ∃ S', withE q.E (fun _ => False) q.S = S' := ⟨_, rfl⟩
              have HSs := Lib.hid hS'
              have HM1 : Hid (RMem wr w0.heap.size pe pl ps n1 (.slice A9 q.M.length q9) q.E (lastTo cs q.at_) S' q.M) := by
                have h5 := HMr.out
                rw [withE_end q.E hno, hS'] at h5
                exact h5
              have HSl' : Hid (S'.length = n1) := by show _ = _; rw [← hS', withE_len]; exact HSl.out
              have HS0 : Hid (∀ z ∈ S', 0 ≤ z) := fun z hz => by rw [← hS'] at hz; exact (withE_bd HSb.out z hz).1
              clear hno hit HMr hS' hr1 hr2 hr3 hr4 hr5
              have hmm := @run_makeMap Try.prog
              obtain ⟨k2, hk2⟩ := lat_of HEr.out
              rw [hk2] at HM1 ⊢
              clear hk2 HEr
              go_upto_region 30 with fail
              have hE2 : Ext k2.world (k2.world.alloc (.map #[] 0)) := (Ext.rfl' _).alloc1 _
              have HI2 : Hid (IMap (k2.world.alloc (.map #[] 0)) k2.world.heap.size (overM cs 0)) := by
                rw [overM_zero]
                exact IMap.new _
              have HM2 := Lib.hid (HM1.out.ext hE2)
              have hv1 : Hid (k2.world.heap.size ≠ pe) := fun e => by have := HM1.out.ends.lt; omega
              have hv2 : Hid (k2.world.heap.size ≠ pl) := fun e => by have := HM1.out.last.lt; omega
              have hv3 : Hid (k2.world.heap.size ≠ ps) := fun e => by have := (HM1.out.step.lt ps rfl).2; omega
              have hv4 : Hid (∀ z, (Value.slice A9 q.M.length q9).ownBlock = some z → z ≠ k2.world.heap.size) := fun z hz e => by have := (HM1.out.mov.lt z hz).2; omega
              have hv5 : Hid (w0.heap.size ≤ k2.world.heap.size) := k2.size
              obtain ⟨k3, hk3⟩ := lat_of (Ext.next k2.ok hE2)
              rw [hk3] at HI2 HM2 ⊢
              generalize k2.world.heap.size = pv at *
              clear hk3 hE2 HM1 hmm k2
              go_wp2_with fail
              go_loopw [126] (fun s126 wr => ∃ (k : Lat w0) (i : Nat), wr = k.world ∧ i ≤ n1 ∧ s126 = .int .i64 i ∧ Hid (IMap k.world pv (overM cs i)) ∧ Hid (RMem k.world w0.heap.size pe pl ps n1 (.slice A9 q.M.length q9) q.E (lastTo cs q.at_) S' q.M)) (fun s_ _ => n1 - (intOf s_).toNat)
              case atStart => exact ⟨k3, 0, rfl, by omega, rfl, HI2, HM2⟩
              case round =>
                clear HI2 HM2 k3
                obtain ⟨k, i, rfl, hi, rfl, HI, HM⟩ := hrel
                by_cases hlt : i < n1
                · obtain ⟨ba, off, x, hAx, hb, hx, x0, x1, x2, x3, x4, x5, x6, x7, x8⟩ := Cl.at_ H10.out hlt
                  have z1 : (i : Int) < (n1 : Int) := by omega
                  have z0 : (0 : Int) ≤ (i : Int) := by omega
                  subst hAx
                  go_upto_region 33 with fail
                  obtain ⟨w3, hw3, hX, hE3, hlt3⟩ := enter1 k.world (.cells #[.int .i64 x.th, .int .i64 x.op, .int .i64 x.arg, .int .i64 x.dat, .int .i64 x.bg, .int .i64 x.en, .int .i64 x.pt, .int .i64 x.ak, .int .i64 x.av] 150)
                  rw [hw3]
                  clear x0 x1 x2 x3 x4 x5 x6 x7 x8
                  obtain ⟨x0, x1, x2, x3, x4, x5, x6, x7, x8⟩ := Cl.boxed hX
                  have HE3 := Lib.hid (Ext.next k.ok hE3)
                  have HI3 := Lib.hid (HI.out.ext hE3)
                  have HM3 := Lib.hid (HM.out.ext hE3)
                  obtain ⟨k3, hk3⟩ := lat_self w3
                  rw [hk3]
                  generalize k.world.heap.size = px at *
                  clear hw3 hX hE3 hk3 hlt3 HI HM
                  have hov := overTo_le cs i x.en
                  have Hov := Lib.hid (overM_succ hx.out)
                  obtain ⟨ov, hov2⟩ : ∃ ov : Int, ((overTo cs i x.en : Nat) : Int) = ov := ⟨_, rfl⟩
                  have hov3 : 0 ≤ ov ∧ ov ≤ 1048576 := by omega
                  rw [hov2] at Hov
                  have hlk : ∀ c : Lat w3, (Instr.lookup 126 (.map (some pv)) (.int .i64 x.en) false).run Try.prog c.world = .ok (.int .i64 ov) c.world := fun c => by
                    have := (HI3.out.ext c.ok).lookup (P := Try.prog) Try.underlying126 Try.underlying3 zeroRunI x.en false
                    rw [overM_get, hov2] at this
                    exact this
                  have hwr : wrap64 (ov + 1) = ov + 1 := wrap_small hov3.1 (by omega)
                  clear hov2 hov hov3
                  go_upto_region 34 with (at_mapUpdate; refine wpList_update_imap rfl _ _ _ 126 rfl _ _ Try.underlying126 Try.underlying3 pv (overM cs i) rfl (HI3.out.ext k3.ok) x.en (wrap64 (ov + 1)) rfl rfl ?_; intro w7 hI7 hO7)
                  have HI7 : Hid (IMap w7 pv (overM cs (i + 1))) := by rw [← Hov.out]; rw [hwr] at hI7; exact hI7
                  have HM7 := Lib.hid ((HM3.out.ext k3.ok).keep hO7 (fun e => hv1.out e.symm) (fun e => hv2.out e.symm) (fun e => hv3.out e.symm) fun z hz e => hv4.out z hz e)
                  have hE7 : Ext w0 w7 := (Ext.next HE3.out k3.ok).only hO7 fun z hz => by rw [hz]; exact hv5.out
                  obtain ⟨k9, hk9⟩ := lat_of hE7
                  rw [hk9] at HI7 HM7 ⊢
                  clear hk9 hE7 hI7 hO7 hlk hwr
                  go_wp2_with fail
                  go_roundw
                  case rel => exact ⟨k9, i + 1, rfl, by omega, by go_num, HI7, HM7⟩
                  case measure => simp [intOf]; omega
                · obtain rfl : n1 = i := by omega
                  have hml := HMl.out
                  go_wp2_with fail
                  refine (sort_own w0.heap.size _ q.M _ HM.out.mov (by omega)).mono ?_
                  rintro e w5 ⟨rfl, hown, hon⟩
                  have HE5 : Hid (Ext w0 w5) := HM.out.ext_of k.ok (Nat.le_refl _) hon fun z hz => .inr (.inr (.inr hz))
                  have HI5 := Lib.hid (HI.out.only hon fun e => hv4.out pv e rfl)
                  have HS5 := Lib.hid (own_only HM.out.step hon fun z hz e => by
                    have e2 : ps = z := Option.some.inj hz
                    exact HM.out.apart z e e2.symm)
                  have hLl := sortL_len q.M
                  obtain ⟨L, hL⟩ : ∃ L, sortL q.M = L := ⟨_, rfl⟩
                  rw [hL] at hown hLl
                  rw [hLl] at hown
                  have HL := Lib.hid hL
                  have HRd := Lib.hid (Rd.of_own hown)
                  have HLl : Hid (L.length = q.M.length) := hLl
                  generalize q.M.length = nm at *
                  have Hn0 : Hid (S' = [] → n1 = 0) := fun e => by have := HSl'.out; rw [e] at this; exact this.symm
                  clear hL hown hon HI HM hLl
                  obtain ⟨k5, hk5⟩ := lat_self w5
                  rw [hk5]
                  clear hk5
                  go_wp2_with fail
                  go_loopw [20, 21, 140] (fun s20 s21 s140 wr => ∃ (k : Lat w5) (i : Nat), wr = k.world ∧ i ≤ nm ∧ s140 = .int .i64 i ∧ s20 = .int .i64 (gapF cs (L.take i)).1 ∧ s21 = .int .i64 (gapF cs (L.take i)).2) (fun _ _ s_ _ => nm - (intOf s_).toNat)
                  case atStart => exact ⟨k5, 0, rfl, by omega, rfl, rfl, rfl⟩
                  case round =>
                    clear k5
                    obtain ⟨k, i, rfl, hi, rfl, rfl, rfl⟩ := hrel
                    have hgb := gapF_bd cs (L.take i)
                    have hti : (L.take i).length ≤ i := by rw [List.length_take]; omega
                    by_cases hlt : i < nm
                    · obtain ⟨m, hm⟩ : ∃ m, L[i]? = some m := ⟨_, List.getElem?_eq_getElem (by rw [HLl.out]; exact hlt)⟩
                      obtain ⟨b5, o5, hA9, _, p5⟩ := HRd.out.lat (j := i) (u := .int .i64 m) (by rw [List.getElem?_map, hm]; rfl)
                      have z1 : (i : Int) < (nm : Int) := by omega
                      have z0 : (0 : Int) ≤ (i : Int) := by omega
                      have Hg : Hid (gapF cs (L.take (i + 1)) = gapStep cs (gapF cs (L.take i)) m) := gapF_take hm
                      generalize gapF cs (L.take i) = g at *
                      obtain ⟨g1, g2⟩ := g
                      have hwr : wrap64 (g2 + 1) = g2 + 1 := wrap_small hgb.2.2.1 (by have := hgb.2.2.2; simp only at this; omega)
                      obtain ⟨ov, hov⟩ : ∃ ov, overTo cs n1 m = ov := ⟨_, rfl⟩
                      have hpos := overTo_pos Hl1.out m
                      rw [hov] at hpos
                      have hlk : ∀ c : Lat w5, (Instr.lookup 126 (.map (some pv)) (.int .i64 m) false).run Try.prog c.world = .ok (.int .i64 ov) c.world := fun c => by
                        have := (HI5.out.ext c.ok).lookup (P := Try.prog) Try.underlying126 Try.underlying3 zeroRunI m false
                        rw [overM_get, hov] at this
                        exact this
                      subst hA9
                      clear hm hov hgb hti
                      by_cases he : endsAt cs m = true
                      · have z6 : (0 : Int) < (ov : Int) := hpos.2 he
                        have Hg2 : Hid (gapF cs (L.take (i + 1)) = (max g1 0, 0)) := by
                          show _ = _
                          rw [Hg.out]
                          unfold gapStep
                          rw [if_pos he, mxF_max]
                        clear he hpos
                        go_wp2_with fail
                        go_roundw
                        case rel => exact ⟨k, i + 1, rfl, by omega, by go_num, by rw [Hg2.out], by rw [Hg2.out]⟩
                        case measure => simp [intOf]; omega
                      · have z6 : ¬ (0 : Int) < (ov : Int) := fun h => he (hpos.1 h)
                        have Hg2 : Hid (gapF cs (L.take (i + 1)) = (max g1 (g2 + 1), g2 + 1)) := by
                          show _ = _
                          rw [Hg.out]
                          unfold gapStep
                          rw [if_neg he, mxF_max]
                        clear he hpos
                        go_wp2_with fail
                        go_roundw
                        case rel => exact ⟨k, i + 1, rfl, by omega, by go_num, by rw [Hg2.out], by simp only [Hg2.out, hwr]⟩
                        case measure => simp [intOf]; omega
                    · obtain rfl : nm = i := by omega
                      have eL : L.take nm = L := List.take_of_length_le (by rw [HLl.out]; exact Nat.le_refl _)
                      rw [eL]
                      clear eL hgb hti
                      have HG : Hid (gapF cs L = gapF cs (sortL (runR cs tr).M)) := by
                        show _ = _
                        rw [← HL.out, HQ0.out]
                      have HW : Hid (S' = withE (runR cs tr).E (fun _ => False) (runR cs tr).S) := by
                        show _ = _
                        rw [← HSs.out, HQ0.out]
                      by_cases hz : n1 = 0
                      · subst hz
                        have HS1 : Hid (S' = []) := List.eq_nil_of_length_eq_zero HSl'.out
                        go_wp2_with fail
                        go_ret2
                        exact ⟨by rw [← HG.out, ← HW.out, HS1.out]; rfl, Ext.next HE.out (Ext.next HE5.out k.ok)⟩
                      · have hz2 : ((n1 : Int) == 0) = false := beq_eq_false_iff_ne.2 (by omega)
                        have hz3 : 0 < n1 := by omega
                        clear hz
                        go_wp2_with fail
                        refine (max_own w0.heap.size ps n1 n1 S' _ (own_ext HS5.out k.ok) hz3 (by omega) HS0.out).mono ?_
                        rintro e w6 ⟨rfl, e6⟩
                        obtain ⟨k6, rfl⟩ := lat_next k e6
                        clear e6
                        go_wp2_with fail
                        go_ret2
                        exact ⟨by rw [← HG.out, ← HW.out]; rfl, Ext.next HE.out (Ext.next HE5.out k6.ok)⟩
            · intro kk v w' hf hl hit' hlt' hon' hen
              obtain ⟨j, y, rfl, hy, hye, _⟩ := HEb.out kk v hf
              have hjn : j < n1 := by rw [← Hl1.out]; exact (List.getElem?_eq_some_iff.1 hy).1
              have hM' := HMr.out.keep hon' (fun e => hr1.out e.symm) (fun e => hr2.out e.symm) (fun e => hr3.out e.symm) fun z hz e => hr4.out z hz e
              have hE' : Ext w0 w' := HEr.out.only hon' fun z hz => by rw [hz]; exact hr5.out
              obtain ⟨s0, hs0, p0⟩ := row_lat hM'.step hjn
              have hf0 : ∀ c : Lat w', c.world.frozen? ⟨ps, j, none⟩ = false := fun c => (hM'.ext c.ok).step.frozenAt j
              have hsb := withE_bd HSb.out s0 (List.mem_of_getElem? hs0)
              have hwr : wrap64 (s0 + 1) = s0 + 1 := wrap_small hsb.1 (by omega)
              have z4 : (j : Int) < (n1 : Int) := by omega
              have z5 : (0 : Int) ≤ (j : Int) := by omega
              have Hb : Hid ((withE q.E left q.S).set j (s0 + 1) = withE q.E (fun z => left z ∧ z ≠ kk) q.S) := by
                show _ = _
                rw [← withE_step hf hl (fun k' hk' => by
                  obtain ⟨j', y', e1, e2, e3, _⟩ := HEb.out k' _ hk'
                  have e4 : j = j' := by omega
                  rw [← e4, hy] at e2
                  rw [← e3, ← hye, Option.some.inj e2]) (by rw [HSl.out]; exact hjn)]
                unfold bump
                rw [List.getD_eq_getElem?_getD, hs0]
                rfl
              have HM' := Lib.hid hM'
              have HE' := Lib.hid hE'
              have Hit' := Lib.hid hit'
              have Hlt' := Lib.hid hlt'
              clear hf hl hit' hlt' hon' hy hye hM' hE' hs0 hsb
              obtain ⟨k5, hk5⟩ := lat_self w'
              rw [hk5] at hen
              have hk6 := hk5
              have Hk6 := Lib.hid hk6
              rw [hk5]
              clear hk5 hk6
              go_wp2_with fail
              have o5 : Only (fun z => z = ps) k5.world (k5.world.setCell ⟨ps, j, none⟩ (.int .i64 (s0 + 1))) := (Only.refl (S := fun z => z = ps) _).setCell ⟨ps, j, none⟩ (.int .i64 (s0 + 1)) fun _ => rfl
              have O5 := Lib.hid o5
              clear o5
              go_roundw
              case rel => exact ⟨_, (Hit'.out.ext k5.ok).only O5.out (fun e => own_imap HM'.out.step HM'.out.ends ps rfl e.symm) (fun e => hr3.out e), by rw [← Hb.out]; exact (HM'.out.ext k5.ok).set j (s0 + 1), (HM'.out.ext k5.ok).ext_of (Ext.next HE'.out k5.ok) (Nat.le_refl _) O5.out fun z hz => .inr (.inr (.inl hz))⟩
              case measure =>
                have h5 := (Hit'.out.ext k5.ok).lt
                rw [iterLeft_only O5.out (fun e => own_imap HM'.out.step HM'.out.ends ps rfl e.symm) (fun e => hr3.out e) h5.2 h5.1, iterLeft_ext k5.ok Hit'.out.lt.1 Hit'.out.lt.2]
                exact Hlt'.out

end Go.Proofs.Ytfbacopjookplaa
