/- A sifted heap of pairs of ints beside a list in the order of putting in: both hand out the same. No program stands here. -/
import Derived.Test.YtjemlenjencbkaaHeapPure
namespace Go.Proofs.Ytjemlenjencbkaa

theorem swap_perm {l : List (Nd Int Int)} {i j : Nat} : (nSwap l i j).Perm l := by
  unfold nSwap
  split
  · rename_i a b hi hj
    obtain ⟨hil, ha⟩ := List.getElem?_eq_some_iff.1 hi
    obtain ⟨hjl, hb⟩ := List.getElem?_eq_some_iff.1 hj
    rw [List.perm_iff_count]
    intro x
    have hp : ∀ y : Nd Int Int, l[i] = y → 0 < l.count y := fun y h => List.count_pos_iff.2 (h ▸ List.getElem_mem hil)
    have hq : ∀ y : Nd Int Int, l[j] = y → 0 < l.count y := fun y h => List.count_pos_iff.2 (h ▸ List.getElem_mem hjl)
    rw [List.count_set (by simpa using hjl), List.count_set hil, List.getElem_set]
    subst ha hb
    by_cases hij : i = j
    · subst hij
      simp
      by_cases h1 : l[i] = x
      · have := hp x h1
        simp [h1]
        omega
      · simp [h1]
    · rw [if_neg hij]
      have h1 := hp x
      have h2 := hq x
      simp only [beq_iff_eq]
      by_cases e1 : l[i] = x
      · have := h1 e1
        by_cases e2 : l[j] = x
        · simp [e1, e2]; omega
        · simp [e1, e2]; omega
      · by_cases e2 : l[j] = x
        · have := h2 e2
          simp [e1, e2]
        · simp [e1, e2]
  · exact List.Perm.refl _

theorem nUp_perm (cmp : Int → Int → Int) (f : Nat) : ∀ (l : List (Nd Int Int)) (i : Nat), (nUp cmp f l i).Perm l := by
  induction f with
  | zero => intro l i; exact List.Perm.refl _
  | succ f ih =>
    intro l i
    unfold nUp
    split
    · exact List.Perm.refl _
    · split
      · split
        · exact (ih _ _).trans swap_perm
        · exact List.Perm.refl _
      · exact List.Perm.refl _

theorem nDown_perm (cmp : Int → Int → Int) (f : Nat) : ∀ (l : List (Nd Int Int)) (i : Nat), (nDown cmp f l i).Perm l := by
  induction f with
  | zero => intro l i; exact List.Perm.refl _
  | succ f ih =>
    intro l i
    simp only [nDown]
    split
    · exact List.Perm.refl _
    · exact (ih _ _).trans swap_perm

theorem nPut_perm (cmp : Int → Int → Int) (l : List (Nd Int Int)) (x : Nd Int Int) : (nPut cmp l x).Perm (l ++ [x]) := nUp_perm _ _ _ _

theorem nRest_perm (cmp : Int → Int → Int) {l : List (Nd Int Int)} {m : Nd Int Int} (h : l[0]? = some m) : l.Perm (m :: nRest cmp l) := by
  match l, h with
  | a :: r, h =>
    injection h with h
    subst h
    unfold nRest
    refine List.Perm.cons _ ?_
    rcases List.eq_nil_or_concat r with rfl | ⟨r', z, rfl⟩
    · show ([] : List (Nd Int Int)).Perm (nDown cmp 0 [] 0)
      exact List.Perm.refl _
    · have e : (a :: r' ++ [z]).getLast? = some z := by rw [List.getLast?_append]; simp
      rw [List.concat_eq_append, ← List.cons_append, e]
      refine List.Perm.trans ?_ (nDown_perm _ _ _ _).symm
      simp only [List.cons_append, List.set_cons_zero, List.length_cons, List.length_append, List.length_nil]
      have e2 : List.take (r'.length + (0 + 1) + 1 - 1) (z :: (r' ++ [z])) = z :: r' := by
        rw [show r'.length + (0 + 1) + 1 - 1 = r'.length + 1 from by omega, List.take_succ_cons, List.take_left]
      rw [e2]
      exact List.perm_append_comm

/-- A heap, and the same in the order of putting in. -/
structure HIs (l ys : List (Nd Int Int)) (T : Int) : Prop where
  perm : l.Perm ys
  ord : HOrd l
  rising : ys.Pairwise fun a b => a.2.2 < b.2.2
  below : ∀ y ∈ ys, y.2.2 < T

theorem HIs.nil : HIs [] [] 0 := ⟨List.Perm.refl _, fun _ _ _ _ h => by simp at h, List.Pairwise.nil, fun _ h => by simp at h⟩

theorem HIs.put {l ys : List (Nd Int Int)} {T : Int} (h : HIs l ys T) (k v : Int) : HIs (nPut cmpInt l (k, v, T)) (ys ++ [(k, v, T)]) (T + 1) := by
  refine ⟨(nPut_perm _ _ _).trans (h.perm.append_right _), nPut_ord h.ord _, ?_, ?_⟩
  · rw [List.pairwise_append]
    exact ⟨h.rising, List.pairwise_singleton _ _, fun a ha b hb => by simp at hb; subst hb; exact h.below a ha⟩
  · intro y hy
    rcases List.mem_append.1 hy with hy | hy
    · have := h.below y hy; omega
    · simp at hy; subst hy; simp; omega

/-- At this place stands the first one of the least key. -/
def MinAt (ks : List Int) (i : Nat) : Prop := ∃ x, ks[i]? = some x ∧ (∀ (j : Nat) (y : Int), ks[j]? = some y → x ≤ y) ∧ (∀ (j : Nat) (y : Int), j < i → ks[j]? = some y → x < y)

theorem HIs.first {l ys : List (Nd Int Int)} {T : Int} (h : HIs l ys T) {m : Nd Int Int} (hm : l[0]? = some m) {i : Nat} (hi : MinAt (ys.map (·.1)) i) : ys[i]? = some m := by
  obtain ⟨k, hk, h1, h2⟩ := hi
  rw [List.getElem?_map] at hk
  obtain ⟨x, hx, rfl⟩ := Option.map_eq_some_iff.1 hk
  have hmy : m ∈ ys := h.perm.mem_iff.1 (List.mem_of_getElem? hm)
  obtain ⟨j, hj⟩ := List.getElem?_of_mem hmy
  have hxl : x ∈ l := h.perm.mem_iff.2 (List.mem_of_getElem? hx)
  obtain ⟨q, hq⟩ := List.getElem?_of_mem hxl
  have hn := ord_min h.ord hm q x hq
  have hle := h1 j m.1 (by rw [List.getElem?_map, hj]; rfl)
  have hil := (List.getElem?_eq_some_iff.1 hx).1
  have hjl := (List.getElem?_eq_some_iff.1 hj).1
  have hxe := (List.getElem?_eq_some_iff.1 hx).2
  have hje := (List.getElem?_eq_some_iff.1 hj).2
  have rise : ∀ a b (ha : a < ys.length) (hb : b < ys.length), a < b → ys[a].2.2 < ys[b].2.2 := fun a b ha hb hab => List.pairwise_iff_getElem.1 h.rising a b ha hb hab
  by_cases hij : i = j
  · subst hij; exact hj
  · exfalso
    rcases Nat.lt_or_ge i j with hlt | hge
    · have := rise i j hil hjl hlt
      rw [hxe, hje] at this
      unfold nLt at hn
      omega
    · have := h2 j m.1 (by omega) (by rw [List.getElem?_map, hj]; rfl)
      unfold nLt at hn
      omega

theorem perm_erase {ys : List (Nd Int Int)} {i : Nat} {m : Nd Int Int} (h : ys[i]? = some m) : ys.Perm (m :: ys.eraseIdx i) := by
  induction ys generalizing i with
  | nil => simp at h
  | cons a r ih =>
    cases i with
    | zero =>
      injection h with h
      subst h
      exact List.Perm.refl _
    | succ i =>
      have := ih (i := i) (by simpa using h)
      rw [List.eraseIdx_cons_succ]
      exact (List.Perm.cons a this).trans (List.Perm.swap _ _ _)

theorem HIs.rest {l ys : List (Nd Int Int)} {T : Int} (h : HIs l ys T) {m : Nd Int Int} (hm : l[0]? = some m) {i : Nat} (hi : ys[i]? = some m) : HIs (nRest cmpInt l) (ys.eraseIdx i) T := by
  refine ⟨?_, nRest_ord h.ord, h.rising.sublist (List.eraseIdx_sublist _ _), fun y hy => h.below y ((List.eraseIdx_sublist _ _).subset hy)⟩
  exact ((nRest_perm cmpInt hm).symm.trans (h.perm.trans (perm_erase hi))).cons_inv

theorem HIs.length {l ys : List (Nd Int Int)} {T : Int} (h : HIs l ys T) : l.length = ys.length := h.perm.length_eq

end Go.Proofs.Ytjemlenjencbkaa
