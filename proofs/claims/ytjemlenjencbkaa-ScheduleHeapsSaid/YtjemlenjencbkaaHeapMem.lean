/- How a heap's nodes lie in memory: three cells each, one behind the other. No program stands here. -/
import Derived.Test.YtjemlenjencbkaaBase
import Derived.Test.YtjemlenjencbkaaHeapPure
namespace Go.Proofs.Ytjemlenjencbkaa
open Go.RowKit

section
variable {K V : Type} (eK : K → Value) (eV : V → Value)

def nCells (x : Nd K V) : List Value := [eK x.1, eV x.2.1, .int .i64 x.2.2]
def nFlat (l : List (Nd K V)) : List Value := l.flatMap (nCells eK eV)

theorem nFlat_length (l : List (Nd K V)) : (nFlat eK eV l).length = l.length * 3 := by
  induction l with
  | nil => rfl
  | cons x l ih =>
    show (nCells eK eV x ++ nFlat eK eV l).length = _
    rw [List.length_append, ih]
    simp [nCells]
    omega

theorem nFlat_get {l : List (Nd K V)} {i : Nat} {x : Nd K V} (h : l[i]? = some x) :
    (nFlat eK eV l)[i * 3]? = some (eK x.1) ∧ (nFlat eK eV l)[i * 3 + 1]? = some (eV x.2.1) ∧ (nFlat eK eV l)[i * 3 + 2]? = some (.int .i64 x.2.2) := by
  induction l generalizing i with
  | nil => simp at h
  | cons y l ih =>
    have e : nFlat eK eV (y :: l) = eK y.1 :: eV y.2.1 :: .int .i64 y.2.2 :: nFlat eK eV l := rfl
    rw [e]
    cases i with
    | zero =>
      injection h with h
      subst h
      exact ⟨rfl, rfl, rfl⟩
    | succ i =>
      have := ih (i := i) (by simpa using h)
      rw [Nat.succ_mul]
      exact this

theorem nFlat_set {l : List (Nd K V)} {i : Nat} (x : Nd K V) (hi : i < l.length) :
    (((nFlat eK eV l).set (i * 3) (eK x.1)).set (i * 3 + 1) (eV x.2.1)).set (i * 3 + 2) (.int .i64 x.2.2) = nFlat eK eV (l.set i x) := by
  induction l generalizing i with
  | nil => simp at hi
  | cons y l ih =>
    have e : ∀ z l', nFlat eK eV (z :: l') = eK z.1 :: eV z.2.1 :: .int .i64 z.2.2 :: nFlat eK eV l' := fun _ _ => rfl
    cases i with
    | zero => rw [List.set_cons_zero, e, e]; rfl
    | succ i =>
      rw [List.set_cons_succ, e, e, ← ih (by simpa using hi), Nat.succ_mul]
      rfl

theorem nFlat_append (l m : List (Nd K V)) : nFlat eK eV (l ++ m) = nFlat eK eV l ++ nFlat eK eV m := List.flatMap_append
theorem nFlat_take (l : List (Nd K V)) (n : Nat) : (nFlat eK eV l).take (n * 3) = nFlat eK eV (l.take n) := by
  induction l generalizing n with
  | nil => simp [nFlat]
  | cons y l ih =>
    have e : ∀ z l', nFlat eK eV (z :: l') = eK z.1 :: eV z.2.1 :: .int .i64 z.2.2 :: nFlat eK eV l' := fun _ _ => rfl
    cases n with
    | zero => rw [Nat.zero_mul, List.take_zero, List.take_zero]; rfl
    | succ n =>
      rw [List.take_succ_cons, e, e, ← ih, Nat.succ_mul]
      rfl

/-- A heap in memory: its struct at H, its nodes a row of its own. -/
structure HObj (tH tN : TypeId) (w : World) (B H : Nat) (v : Value) (l : List (Nd K V)) (T : Int) : Prop where
  blk : w.heap[H]? = some (.cells #[v, .int .i64 T] tH (0, 0))
  own : w.ownsRow B tN 3 v l.length (nFlat eK eV l)

variable {eK eV}
variable {tH tN : TypeId} {w w' : World} {B H : Nat} {v : Value} {l : List (Nd K V)} {T : Int}

theorem HObj.lt (h : HObj eK eV tH tN w B H v l T) : H < w.heap.size := (Array.getElem?_eq_some_iff.1 h.blk).1
theorem HObj.cell0 (h : HObj eK eV tH tN w B H v l T) : w.cell? ⟨H, 0, none⟩ = some v := by rw [cell_of_row w H 0 _ _ _ h.blk]; rfl
theorem HObj.cell1 (h : HObj eK eV tH tN w B H v l T) : w.cell? ⟨H, 1, none⟩ = some (.int .i64 T) := by rw [cell_of_row w H 1 _ _ _ h.blk]; rfl
theorem HObj.free (h : HObj eK eV tH tN w B H v l T) (i : Nat) : w.frozen? ⟨H, i, none⟩ = false := by simp [World.frozen?, h.blk]
theorem HObj.only {S : Nat → Prop} (h : HObj eK eV tH tN w B H v l T) (o : Only S w w') (h1 : ¬ S H) (h2 : ∀ k, v.ownBlock = some k → ¬ S k) : HObj eK eV tH tN w' B H v l T :=
  ⟨(o.block H h.lt h1).trans h.blk, own_only h.own o h2⟩
theorem HObj.ext (h : HObj eK eV tH tN w B H v l T) (e : Ext w w') : HObj eK eV tH tN w' B H v l T := h.only (Only.of_ext (S := fun _ => False) e) (fun x => x) (fun _ _ x => x)
theorem HObj.drew (h : HObj eK eV tH tN w B H v l T) : HObj eK eV tH tN w.drew B H v l T := ⟨h.blk, h.own⟩
theorem HObj.apart (h : HObj eK eV tH tN w B H v l T) (hne : tN ≠ tH) : v.ownBlock ≠ some H := by
  intro e
  rcases h.own.2 with ⟨rfl, _⟩ | ⟨g, cap, cur, rfl, _, hg, _⟩
  · cases e
  · injection e with e
    subst e
    rw [h.blk] at hg
    injection hg with hg
    injection hg with _ hg
    exact hne hg.symm

theorem own_apart {e t : TypeId} {size n : Nat} {us : List Value} {cs : Array Value} (h : w.ownsRow B e size v n us) (hb : w.heap[H]? = some (.cells cs t (0, 0))) (hne : e ≠ t) : v.ownBlock ≠ some H := by
  intro e'
  rcases h.2 with ⟨rfl, _⟩ | ⟨g, cap, cur, rfl, _, hg, _⟩
  · cases e'
  · injection e' with e'
    subst e'
    rw [hb] at hg
    injection hg with hg
    injection hg with _ hg
    exact hne hg.symm

/-- Behind the append and the store of Put's first statement. -/
theorem put_cut {w1 : World} {v1 : Value} {x : Nd K V} {o : Obj} (hne : tN ≠ tH) (hb1 : w1.heap[H]? = some (.cells #[v, .int .i64 T] tH (0, 0)))
    (hown1 : w1.ownsRow B tN 3 v1 (l.length + 1) (nFlat eK eV l ++ nCells eK eV x)) (hgrow1 : ((w.alloc o).drew).grownBy w1 v.ownBlock)
    (hat1 : v1.ownBlock = v.ownBlock ∨ v1.ownBlock = some (w.alloc o).drew.heap.size) :
    ∃ v', HObj eK eV tH tN (w1.setCell ⟨H, 0, none⟩ v1) B H v' (l ++ [x]) T ∧ Only (fun q => q = H ∨ v.ownBlock = some q) w (w1.setCell ⟨H, 0, none⟩ v1) ∧ (v'.ownBlock = v.ownBlock ∨ ∃ g, v'.ownBlock = some g ∧ w.heap.size ≤ g) := by
  have hap := own_apart hown1 hb1 hne
  refine ⟨v1, ⟨?_, ?_⟩, ?_, ?_⟩
  · rw [heap_setCell_same _ _ _ _ _ _ hb1]; rfl
  · have := ownsRow_setCell_other hown1 (a := ⟨H, 0, none⟩) hap v1
    rw [nFlat_append, List.length_append]
    simpa [nFlat] using this
  · refine Only.setCell ?_ _ _ (fun _ => .inl rfl)
    have h1 : Only (fun q => q = H ∨ v.ownBlock = some q) w ((w.alloc o).drew) := ((Only.refl _ w).alloc o).drew
    refine h1.trans (Only.of_grown hgrow1) fun i _ hi => .inr hi.symm
  · rcases hat1 with h | h
    · exact .inl h
    · exact .inr ⟨_, h, by show _ ≤ (w.alloc o).heap.size; simp⟩

/-- A node's three cells, as the walk asks for them. -/
theorem own_nd {G c n i : Nat} {x : Nd K V} (h : w.ownsRow B tN 3 (.slice (some ⟨G, 0, none⟩) n c) n (nFlat eK eV l)) (hi : l[i]? = some x) :
    w.cell? ⟨G, i * 3, none⟩ = some (eK x.1) ∧ w.cell? ⟨G, i * 3 + 1, none⟩ = some (eV x.2.1) ∧ w.cell? ⟨G, i * 3 + 2, none⟩ = some (.int .i64 x.2.2) := by
  have hl := h.1
  rw [nFlat_length] at hl
  have hil := (List.getElem?_eq_some_iff.1 hi).1
  obtain ⟨a, b, c⟩ := nFlat_get eK eV hi
  exact ⟨(h.cellAt _ (by omega)).trans a, (h.cellAt _ (by omega)).trans b, (h.cellAt _ (by omega)).trans c⟩

/-- A node is written. -/
theorem own_put {G c n i : Nat} (x : Nd K V) (h : w.ownsRow B tN 3 (.slice (some ⟨G, 0, none⟩) n c) n (nFlat eK eV l)) (hi : i < l.length) :
    (((w.setCell ⟨G, i * 3, none⟩ (eK x.1)).setCell ⟨G, i * 3 + 1, none⟩ (eV x.2.1)).setCell ⟨G, i * 3 + 2, none⟩ (.int .i64 x.2.2)).ownsRow B tN 3 (.slice (some ⟨G, 0, none⟩) n c) n (nFlat eK eV (l.set i x)) := by
  have h3 := (((h.stored (i * 3) (eK x.1)).1.stored (i * 3 + 1) (eV x.2.1)).1.stored (i * 3 + 2) (.int .i64 x.2.2)).1
  rw [nFlat_set eK eV x hi] at h3
  exact h3
/-- Two nodes have changed places. -/
theorem HObj.swap {G c n i j : Nat} {a b : Nd K V} (h : HObj eK eV tH tN w B H (.slice (some ⟨G, 0, none⟩) n c) l T) (hne : tN ≠ tH) (hl : l.length = n) (hi : l[i]? = some a) (hj : l[j]? = some b) :
    HObj eK eV tH tN ((((((w.setCell ⟨G, i * 3, none⟩ (eK b.1)).setCell ⟨G, i * 3 + 1, none⟩ (eV b.2.1)).setCell ⟨G, i * 3 + 2, none⟩ (.int .i64 b.2.2)).setCell ⟨G, j * 3, none⟩ (eK a.1)).setCell ⟨G, j * 3 + 1, none⟩ (eV a.2.1)).setCell ⟨G, j * 3 + 2, none⟩ (.int .i64 a.2.2)) B H (.slice (some ⟨G, 0, none⟩) n c) (nSwap l i j) T := by
  have hil := (List.getElem?_eq_some_iff.1 hi).1
  have hjl := (List.getElem?_eq_some_iff.1 hj).1
  have hHG : H ≠ G := fun e => h.apart hne (by rw [e]; rfl)
  have hown := h.own
  rw [hl] at hown
  have h2 := own_put a (own_put b hown hil) (by simpa using hjl)
  rw [nSwap_eq hi hj]
  refine ⟨?_, by simpa [hl] using h2⟩
  iterate 6 rw [Below.heap_setCell _ _ _ _ (by exact hHG)]
  exact h.blk

/-- Behind Next's first statements: the last node stands first, the list is shorter by one, the first node lies in a block of its own. -/
theorem next_start {G c n : Nat} (h : HObj eK eV tH tN w B H (.slice (some ⟨G, 0, none⟩) l.length c) l T) (hne : tN ≠ tH) (hl : l.length = n + 1) (z : Nd K V) (cs : Array Value) :
    HObj eK eV tH tN ((((((w.setCell ⟨G, 0, none⟩ (eK z.1)).setCell ⟨G, 1, none⟩ (eV z.2.1)).setCell ⟨G, 2, none⟩ (.int .i64 z.2.2)).setCell ⟨H, 0, none⟩ (.slice (some ⟨G, 0, none⟩) n c)).alloc (.cells cs tN)).drew) B H (.slice (some ⟨G, 0, none⟩) n c) ((l.set 0 z).take n) T ∧
    ((((((w.setCell ⟨G, 0, none⟩ (eK z.1)).setCell ⟨G, 1, none⟩ (eV z.2.1)).setCell ⟨G, 2, none⟩ (.int .i64 z.2.2)).setCell ⟨H, 0, none⟩ (.slice (some ⟨G, 0, none⟩) n c)).alloc (.cells cs tN)).drew).heap[w.heap.size]? = some (.cells cs tN (0, 0)) ∧
    Only (fun q => q = H ∨ q = G) w ((((((w.setCell ⟨G, 0, none⟩ (eK z.1)).setCell ⟨G, 1, none⟩ (eV z.2.1)).setCell ⟨G, 2, none⟩ (.int .i64 z.2.2)).setCell ⟨H, 0, none⟩ (.slice (some ⟨G, 0, none⟩) n c)).alloc (.cells cs tN)).drew) := by
  have hHG : H ≠ G := fun e => h.apart hne (by rw [e]; rfl)
  have hown := h.own
  have hown1 := own_put (i := 0) z hown (by omega)
  simp only [Nat.zero_mul, Nat.zero_add] at hown1
  generalize hw1 : ((w.setCell ⟨G, 0, none⟩ (eK z.1)).setCell ⟨G, 1, none⟩ (eV z.2.1)).setCell ⟨G, 2, none⟩ (.int .i64 z.2.2) = w1 at *
  have hb1 : w1.heap[H]? = some (.cells #[.slice (some ⟨G, 0, none⟩) l.length c, .int .i64 T] tH (0, 0)) := by
    rw [← hw1]
    iterate 3 rw [Below.heap_setCell _ _ _ _ (by exact hHG)]
    exact h.blk
  have hsz : w1.heap.size = w.heap.size := by rw [← hw1]; simp
  have ho1 : Only (fun q => q = H ∨ q = G) w w1 := by
    rw [← hw1]
    have hS : ∀ (u : World) (q : Nat) (y : Value), Only (fun q => q = H ∨ q = G) w u → Only (fun q => q = H ∨ q = G) w (u.setCell ⟨G, q, none⟩ y) := fun u q y h => h.setCell _ _ fun _ => .inr rfl
    exact hS _ _ _ (hS _ _ _ (hS _ _ _ (Only.refl _ w)))
  have hown2 := own_cut (m := n) (ownsRow_setCell_other hown1 (a := ⟨H, 0, none⟩) (own_apart hown1 hb1 hne) (.slice (some ⟨G, 0, none⟩) n c)) (by omega)
  rw [nFlat_take] at hown2
  refine ⟨⟨?_, ?_⟩, ?_, ?_⟩
  · have := heap_setCell_same _ H 0 _ _ (.slice (some ⟨G, 0, none⟩) n c) hb1
    have hlt : H < (w1.setCell ⟨H, 0, none⟩ (.slice (some ⟨G, 0, none⟩) n c)).heap.size := (Array.getElem?_eq_some_iff.1 this).1
    show (World.alloc _ _).heap[H]? = _
    rw [heap_alloc_old _ _ hlt, this]
    rfl
  · have hlen : ((l.set 0 z).take n).length = n := by simp [hl]
    rw [hlen]
    exact (hown2.alloc _)
  · have : w.heap.size = (w1.setCell ⟨H, 0, none⟩ (.slice (some ⟨G, 0, none⟩) n c)).heap.size := by simp [hsz]
    show (World.alloc _ _).heap[w.heap.size]? = _
    rw [this]
    exact heap_alloc_new _ _
  · exact ((ho1.setCell _ _ fun _ => .inl rfl).alloc _).drew

/-- A heap of the call's own is turned: nothing older changes. -/
theorem HObj.ext_of {w0 : World} (h : HObj eK eV tH tN w B H v l T) (hH : B ≤ H) (hB : w0.heap.size ≤ B) (e : Ext w0 w) (on : Only (fun q => q = H ∨ v.ownBlock = some q) w w') : Ext w0 w' :=
  e.trans (on.below e.size fun k hk => by
    rcases hk with rfl | hk
    · omega
    · have := (h.own.lt k hk).1; omega)

/-- A heap that has just been made. -/
theorem HObj.new (w : World) : HObj eK eV tH tN (w.alloc (.cells #[.slice none 0 0, .int .i64 0] tH)) w.heap.size w.heap.size (.slice none 0 0) [] 0 :=
  ⟨heap_alloc_new _ _, World.ownsRow_nil _ _ _ _⟩

end

end Go.Proofs.Ytjemlenjencbkaa
