/- A row of boxes, one behind the other. No program stands here. -/
import Derived.Test.YtfbacopjookplaaRange
import Derived.Test.YtfbacopjookplaaCls
namespace Go.Proofs.Ytfbacopjookplaa
open Go.RowKit

/-- From block g on lie boxes of one cell each. -/
def Bx (w : World) (g : Nat) (l : List (Value × TypeId)) : Prop := ∀ i v t, l[i]? = some (v, t) → w.heap[g + i]? = some (.cells #[v] t (0, 0))
section
variable {w w' : World} {g i : Nat} {l : List (Value × TypeId)} {v : Value} {t : TypeId}
theorem Bx.blk (h : Bx w g l) (hi : l[i]? = some (v, t)) : w.heap[g + i]? = some (.cells #[v] t (0, 0)) := h i v t hi
theorem Bx.lat (h : Bx w g l) (hi : l[i]? = some (v, t)) : ∀ z : Lat w, z.world.cell? ⟨g + i, 0, none⟩ = some v := Lat.cells (h.blk hi) rfl
theorem Bx.free (h : Bx w g l) (hi : l[i]? = some (v, t)) : ∀ z : Lat w, z.world.frozen? ⟨g + i, 0, none⟩ = false := Lat.free (h.blk hi) 0
theorem Bx.ext (h : Bx w g l) (e : Ext w w') : Bx w' g l := fun _ _ _ hi => ext_blk e (h.blk hi)
theorem Bx.byRec {B0 : Nat} (h : Bx w g l) (r : Rec B0 w w') : Bx w' g l := fun _ _ _ hi => r.cells (h.blk hi)
theorem Bx.only (h : Bx w g l) {X : Nat → Prop} (o : Only X w w') (hx : ∀ q, X q → q < g ∨ g + l.length ≤ q) : Bx w' g l := fun i v t hi => by
  have hl := (List.getElem?_eq_some_iff.1 hi).1
  exact (o.block _ (blk_lt (h.blk hi)) fun e => by have := hx _ e; omega).trans (h.blk hi)
theorem Bx.set (h : Bx w g l) (hi : l[i]? = some (v, t)) (x : Value) : Bx (w.setCell ⟨g + i, 0, none⟩ x) g (l.set i (x, t)) ∧ Only (fun q => q = g + i) w (w.setCell ⟨g + i, 0, none⟩ x) := by
  have o := (Only.refl (fun q => q = g + i) w).setCell ⟨g + i, 0, none⟩ x fun _ => rfl
  refine ⟨fun j u s hj => ?_, o⟩
  rw [List.getElem?_set] at hj
  by_cases hij : i = j
  · subst hij
    rw [if_pos rfl, if_pos (List.getElem?_eq_some_iff.1 hi).1] at hj
    injection hj with hj
    injection hj with h1 h2
    subst h1 h2
    exact heap_setCell_same _ _ _ _ _ _ (h.blk hi)
  · rw [if_neg hij] at hj
    exact (o.block _ (blk_lt (h.blk hj)) (by omega)).trans (h.blk hj)
theorem Bx.nil : Bx w g [] := fun i v t hi => by cases hi
theorem Bx.cons (h : w.heap[g]? = some (.cells #[v] t (0, 0))) (k : Bx w (g + 1) l) : Bx w g ((v, t) :: l) := fun i u s hi => by
  cases i with
  | zero =>
    injection hi with hi
    injection hi with h1 h2
    subst h1 h2
    exact h
  | succ i =>
    have := k i u s hi
    rwa [show g + (i + 1) = g + 1 + i by omega]
/-- A box more. -/
theorem Bx.push (h : Bx w g l) (hl : w.heap.size = g + l.length) (v : Value) (t : TypeId) : Bx (w.alloc (.cells #[v] t)) g (l ++ [(v, t)]) := fun i u s hi => by
  by_cases h1 : i < l.length
  · rw [List.getElem?_append_left h1] at hi
    rw [heap_alloc_old _ _ (blk_lt (h.blk hi))]
    exact h.blk hi
  · rw [List.getElem?_append_right (by omega)] at hi
    have h2 : i - l.length = 0 := by
      have := (List.getElem?_eq_some_iff.1 hi).1
      simp at this
      omega
    rw [h2] at hi
    injection hi with hi
    injection hi with h3 h4
    subst h3 h4
    rw [show g + i = w.heap.size by omega]
    exact heap_alloc_new _ _
theorem Bx.lt (h : Bx w g l) (hl : 0 < l.length) : g + l.length ≤ w.heap.size := by
  have h1 : l.length - 1 < l.length := by omega
  have h2 := blk_lt (h.blk (i := l.length - 1) (v := l[l.length - 1].1) (t := l[l.length - 1].2) (by rw [List.getElem?_eq_getElem h1]))
  omega
end

end Go.Proofs.Ytfbacopjookplaa
