/- Memory that a walk owns, as a list: blocks and rows that lie apart, all of them made since a world w0; what stands outside is as it was at w0, or stands in the list. No program stands here. -/
import Derived.Test.YtfbacopjookplaaMaps
namespace Go.Proofs.Ytfbacopjookplaa
open Go.RowKit

/-- A row (its slice value, its elements' type and number of cells, how many elements, the cells), a map of integers, an object that is known whole. -/
inductive En where
  | row (v : Value) (e : TypeId) (k n : Nat) (us : List Value)
  | imap (b : Nat) (f : Int → Option Int)
  | obj (b : Nat) (o : Obj)
/-- A struct's block. -/
@[reducible] def ob (b : Nat) (t : TypeId) (cs : List Value) : En := .row (.slice (some ⟨b, 0, none⟩) 1 1) t cs.length 1 cs
@[reducible] def row1 (g c : Nat) (e : TypeId) (k n : Nat) (us : List Value) : En := .row (.slice (some ⟨g, 0, none⟩) n c) e k n us
def En.b : En → Option Nat
  | .row v .. => v.ownBlock
  | .imap b _ => some b
  | .obj b _ => some b
def En.own (w : World) (base : Nat) : En → Prop
  | .row v e k n us => w.ownsRow base e k v n us
  | .imap b f => base ≤ b ∧ IMap w b f
  | .obj b o => base ≤ b ∧ w.heap[b]? = some o
theorem En.own_lt {w : World} {base : Nat} : ∀ {x : En}, x.own w base → ∀ q, x.b = some q → base ≤ q ∧ q < w.heap.size
  | .row .., h => World.ownsRow.lt h
  | .imap .., h => fun q hq => by injection hq with hq; subst hq; exact ⟨h.1, h.2.lt⟩
  | .obj .., h => fun q hq => by injection hq with hq; subst hq; exact ⟨h.1, blk_lt h.2⟩
theorem En.own_kept {w w' : World} {base : Nat} {row : Option Nat} (hg : w.grownBy w' row) : ∀ {x : En}, x.own w base → (x.b = none ∨ x.b ≠ row) → x.own w' base
  | .row .., h, hne => World.ownsRow.kept h hg hne
  | .imap .., h, hne => ⟨h.1, h.2.block (hg.block _ h.2.lt (hne.resolve_left (by simp [En.b])))⟩
  | .obj .., h, hne => ⟨h.1, (hg.block _ (blk_lt h.2) (hne.resolve_left (by simp [En.b]))).trans h.2⟩
theorem En.own_only {w w' : World} {base : Nat} {S : Nat → Prop} (o : Only S w w') : ∀ {x : En}, x.own w base → (∀ q, x.b = some q → ¬ S q) → x.own w' base
  | .row .., h, hs => Go.Proofs.Ytfbacopjookplaa.own_only h o hs
  | .imap .., h, hs => ⟨h.1, h.2.only o (hs _ rfl)⟩
  | .obj .., h, hs => ⟨h.1, (o.block _ (blk_lt h.2) (hs _ rfl)).trans h.2⟩
theorem grownBy_ext {w w' : World} (e : Ext w w') : w.grownBy w' none := ⟨e.os, e.tape, e.output, e.size, fun k hk _ => e.block k hk⟩
theorem En.own.own_kept' {w w' : World} {base : Nat} {x : En} (h : x.own w base) (e : Ext w w') : x.own w' base := En.own_kept (grownBy_ext e) h (by cases x.b <;> simp)

section
variable {x y z u v x5 x6 x7 : En} {H : List En}
theorem me0 : x ∈ x :: H := List.mem_cons_self ..
theorem me1 : y ∈ x :: y :: H := List.mem_cons_of_mem _ me0
theorem me2 : z ∈ x :: y :: z :: H := List.mem_cons_of_mem _ me1
theorem me3 : u ∈ x :: y :: z :: u :: H := List.mem_cons_of_mem _ me2
theorem me4 : v ∈ x :: y :: z :: u :: v :: H := List.mem_cons_of_mem _ me3
theorem me5 : x5 ∈ x :: y :: z :: u :: v :: x5 :: H := List.mem_cons_of_mem _ me4
theorem me6 : x6 ∈ x :: y :: z :: u :: v :: x5 :: x6 :: H := List.mem_cons_of_mem _ me5
theorem me7 : x7 ∈ x :: y :: z :: u :: v :: x5 :: x6 :: x7 :: H := List.mem_cons_of_mem _ me6
end
structure Has (w0 w : World) (H : List En) : Prop where
  ext : Ext w0 w
  own : ∀ x ∈ H, x.own w w0.heap.size
  apart : (H.filterMap En.b).Nodup

section
variable {w0 w w' : World} {H G : List En} {x y z : En} {b g n c k i : Nat} {t e : TypeId} {cs us : List Value} {u : Value}

theorem Has.start (w : World) : Has w w [] := ⟨Ext.rfl' w, fun x hx => (by cases hx), List.nodup_nil⟩
theorem Has.next (h : Has w0 w H) (e : Ext w w') : Has w0 w' H := ⟨Ext.next h.ext e, fun x hx => (h.own x hx).own_kept' e, h.apart⟩
theorem Has.lat (h : Has w0 w H) (z : Lat w) : Has w0 z.world H := h.next z.ok
theorem Has.drew (h : Has w0 w H) : Has w0 w.drew H := h.next (Ext.rfl' w).drew1
theorem Has.perm (h : Has w0 w H) (p : H.Perm G) : Has w0 w G := ⟨h.ext, fun x hx => h.own x (p.mem_iff.2 hx), (p.filterMap En.b).nodup_iff.1 h.apart⟩
theorem Has.swap (h : Has w0 w (x :: y :: H)) : Has w0 w (y :: x :: H) := h.perm (List.Perm.swap _ _ _)
theorem Has.rot3 (h : Has w0 w (x :: y :: z :: H)) : Has w0 w (z :: x :: y :: H) := h.perm ((List.Perm.cons _ (List.Perm.swap _ _ _)).trans (List.Perm.swap _ _ _))
theorem Has.mid {A : List En} (h : Has w0 w (A ++ x :: H)) : Has w0 w (x :: A ++ H) := h.perm List.perm_middle
theorem Has.back {A : List En} (h : Has w0 w (x :: A ++ H)) : Has w0 w (A ++ x :: H) := h.perm List.perm_middle.symm
theorem Has.drop (h : Has w0 w (x :: H)) : Has w0 w H := ⟨h.ext, fun y hy => h.own y (List.mem_cons_of_mem _ hy), by
  have := h.apart
  cases hx : x.b with
  | none => rwa [List.filterMap_cons_none hx] at this
  | some q => rw [List.filterMap_cons_some hx] at this; exact (List.nodup_cons.1 this).2⟩
theorem Has.dropL {A : List En} (h : Has w0 w (A ++ H)) : Has w0 w H := by
  induction A with
  | nil => exact h
  | cons x A ih => exact ih h.drop
theorem Has.ltb (h : Has w0 w H) (hx : x ∈ H) : ∀ q, x.b = some q → w0.heap.size ≤ q ∧ q < w.heap.size := En.own_lt (h.own x hx)
theorem Has.new (h : Has w0 w H) (hb : x.b = none) (ho : x.own w w0.heap.size) : Has w0 w (x :: H) :=
  ⟨h.ext, fun y hy => by
    rcases List.mem_cons.1 hy with rfl | hy
    · exact ho
    · exact h.own y hy, by rw [List.filterMap_cons_none hb]; exact h.apart⟩
theorem Has.nil (h : Has w0 w H) (e : TypeId) (k : Nat) : Has w0 w (.row (.slice none 0 0) e k 0 [] :: H) := h.new rfl (World.ownsRow_nil _ _ _ _)
/-- No other entry lies in an entry's block. -/
theorem Has.other (h : Has w0 w (x :: H)) (hb : x.b = some b) (hy : y ∈ H) : y.b ≠ some b := fun e => by
  have := h.apart
  rw [List.filterMap_cons_some hb, List.nodup_cons] at this
  exact this.1 (List.mem_filterMap.2 ⟨y, hy, e⟩)
theorem Has.ne (h : Has w0 w (ob b t cs :: H)) {b' : Nat} (hy : y ∈ H) (he : y.b = some b') : b ≠ b' := fun e => h.other rfl hy (by rw [he, e])
/-- The head entry's row grows, shrinks, is written; nothing else changes. -/
theorem Has.upd (h : Has w0 w (x :: H)) {x' : En} (ho : x'.own w' w0.heap.size) (hg : w.grownBy w' x.b) (hb : x'.b = x.b ∨ x'.b = none ∨ ∃ q, x'.b = some q ∧ w.heap.size ≤ q) : Has w0 w' (x' :: H) := by
  have hkeep : ∀ y ∈ H, y.own w' w0.heap.size := fun y hy => En.own_kept hg (h.own y (List.mem_cons_of_mem _ hy)) (by
    cases hx : x.b with
    | none => cases y.b <;> simp
    | some q => exact .inr (h.other hx hy))
  refine ⟨h.ext.only (Only.of_grown hg) fun q hq => (h.ltb (List.mem_cons_self ..) q hq.symm).1, fun y hy => ?_, ?_⟩
  · rcases List.mem_cons.1 hy with rfl | hy
    · exact ho
    · exact hkeep y hy
  · have hd := h.drop.apart
    cases hx : x'.b with
    | none => rwa [List.filterMap_cons_none hx]
    | some q =>
      rw [List.filterMap_cons_some hx]
      refine List.nodup_cons.2 ⟨fun hm => ?_, hd⟩
      obtain ⟨y, hy, hyq⟩ := List.mem_filterMap.1 hm
      rcases hb with e | e | ⟨q', e, hq⟩
      · exact h.other (e.symm.trans hx) hy hyq
      · rw [hx] at e; cases e
      · rw [hx] at e
        injection e with e
        subst e
        have := (h.drop.ltb hy _ hyq).2
        omega
/-- A row's cell is written. -/
theorem Has.putR (h : Has w0 w (row1 g c e k n us :: H)) (i : Nat) (u : Value) : Has w0 (w.setCell ⟨g, i, none⟩ u) (row1 g c e k n (us.set i u) :: H) := by
  have h1 := World.ownsRow.stored (h.own _ (List.mem_cons_self ..)) i u
  exact h.upd h1.1 h1.2 (.inl rfl)
theorem Has.put (h : Has w0 w (ob b t cs :: H)) (i : Nat) (u : Value) : Has w0 (w.setCell ⟨b, i, none⟩ u) (ob b t (cs.set i u) :: H) := by
  have := h.putR i u
  unfold ob
  rwa [List.length_set]
/-- A block more. -/
theorem Has.alloc (h : Has w0 w H) (cs : Array Value) (t : TypeId) : Has w0 (w.alloc (.cells cs t)) (ob w.heap.size t cs.toList :: H) := by
  have h1 := (h.nil t cs.size).upd (x' := ob w.heap.size t cs.toList) (w' := w.alloc (.cells cs t)) ?_ (World.grownBy_alloc _ _ _) (.inr (.inr ⟨_, rfl, Nat.le_refl _⟩))
  · exact h1
  · exact World.ownsRow_lit w cs 1 h.ext.size (by unfold maxLen; omega) (by simp)
/-- A row is cut. -/
theorem Has.cut {m : Nat} (h : Has w0 w (row1 g c e k n us :: H)) (hm : m ≤ n) : Has w0 w (row1 g c e k m (us.take (m * k)) :: H) :=
  ⟨h.ext, fun y hy => by
    rcases List.mem_cons.1 hy with rfl | hy
    · exact own_cut (h.own _ (List.mem_cons_self ..)) hm
    · exact h.own y (List.mem_cons_of_mem _ hy), h.apart⟩
/-- The cells of an entry, in every later world. -/
theorem Has.rcell (h : Has w0 w H) (hm : row1 g c e k n us ∈ H) (hu : us[i]? = some u) : ∀ z : Lat w, z.world.cell? ⟨g, i, none⟩ = some u := fun z => by
  have h1 : World.ownsRow _ _ _ _ _ _ _ := (h.lat z).own _ hm
  have hl := h1.1
  have hi := (List.getElem?_eq_some_iff.1 hu).1
  exact (h1.cellAt i (by rw [← hl]; exact hi)).trans hu
theorem Has.cell (h : Has w0 w H) (hm : ob b t cs ∈ H) (hu : cs[i]? = some u) : ∀ z : Lat w, z.world.cell? ⟨b, i, none⟩ = some u := h.rcell hm hu
theorem Has.rfree (h : Has w0 w H) (hm : row1 g c e k n us ∈ H) (i : Nat) : ∀ z : Lat w, z.world.frozen? ⟨g, i, none⟩ = false := fun z => World.ownsRow.frozenAt ((h.lat z).own _ hm) i
theorem Has.free (h : Has w0 w H) (hm : ob b t cs ∈ H) (i : Nat) : ∀ z : Lat w, z.world.frozen? ⟨b, i, none⟩ = false := h.rfree hm i
theorem Has.lt (h : Has w0 w H) (hm : x ∈ H) (hb : x.b = some b) : ∀ z : Lat w, b < z.world.heap.size := fun z => ((h.lat z).ltb hm b hb).2
theorem Has.blk (h : Has w0 w H) (hm : ob b t cs ∈ H) : w.heap[b]? = some (.cells cs.toArray t (0, 0)) := by
  have h1 : World.ownsRow _ _ _ _ _ _ _ := h.own _ hm
  rcases h1.2 with ⟨h', _⟩ | ⟨g', cap', cur, h', _, hg, _, _, hs, ht⟩
  · cases h'
  · injection h' with h1 h2 h3
    injection h1 with h1
    injection h1 with h1
    subst h1 h3
    rw [Nat.one_mul] at hs ht
    rw [List.take_of_length_le (by rw [Array.length_toList, hs]; exact Nat.le_refl _)] at ht
    show w.heap[b]? = _
    have ht' : cs = cur.toList := ht.symm
    subst ht'
    simpa using hg
/-- Two entries' blocks have changed, no other. -/
theorem Has.only2 {x' y' : En} (h : Has w0 w (x :: y :: H)) (o : Only (fun q => x.b = some q ∨ y.b = some q) w w') (hx : x'.own w' w0.heap.size) (hy : y'.own w' w0.heap.size) (ex : x'.b = x.b) (ey : y'.b = y.b) : Has w0 w' (x' :: y' :: H) := by
  refine ⟨h.ext.only o fun q hq => ?_, fun z hz => ?_, ?_⟩
  · rcases hq with hq | hq
    · exact (h.ltb (by simp) q hq).1
    · exact (h.ltb (by simp) q hq).1
  · rcases List.mem_cons.1 hz with rfl | hz
    · exact hx
    rcases List.mem_cons.1 hz with rfl | hz
    · exact hy
    refine En.own_only o (h.own z (List.mem_cons_of_mem _ (List.mem_cons_of_mem _ hz))) fun q hq hs => ?_
    rcases hs with hs | hs
    · exact h.other hs (List.mem_cons_of_mem _ hz) hq
    · exact h.drop.other hs hz hq
  · have := h.apart
    rw [show List.filterMap En.b (x' :: y' :: H) = List.filterMap En.b (x :: y :: H) by rw [List.filterMap_cons, List.filterMap_cons, List.filterMap_cons, List.filterMap_cons, ex, ey]]
    exact this
/-- A row that a call has made. -/
theorem Has.add {H' : List En} {B : Nat} {v : Value} (h : Has w0 w H) (h' : Has w0 w' H') (hb : H'.filterMap En.b = H.filterMap En.b) (ho : w'.ownsRow B e k v n us) (hB : w.heap.size ≤ B) : Has w0 w' (.row v e k n us :: H') := by
  have hs := h.ext.size
  refine ⟨h'.ext, fun z hz => ?_, ?_⟩
  · rcases List.mem_cons.1 hz with rfl | hz
    · exact own_base ho (by omega)
    · exact h'.own z hz
  · cases hv : v.ownBlock with
    | none => rw [List.filterMap_cons_none (by exact hv)]; exact h'.apart
    | some q =>
      rw [List.filterMap_cons_some (by exact hv), List.nodup_cons]
      refine ⟨fun hm => ?_, h'.apart⟩
      rw [hb] at hm
      obtain ⟨y, hy, hq⟩ := List.mem_filterMap.1 hm
      have h1 := (h.ltb hy q hq).2
      have h2 := (ho.lt q hv).1
      omega
end
end Go.Proofs.Ytfbacopjookplaa
