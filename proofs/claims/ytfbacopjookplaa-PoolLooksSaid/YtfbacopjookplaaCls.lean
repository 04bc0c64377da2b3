/- Worlds that meet a condition, as a type: facts on all of them serve a walk as they stand, and a region that draws its order is walked once where every operation and every callee keeps the condition. No program stands here. -/
import Derived.Test.YtfbacopjookplaaBase
import Derived.Deep.RegionHeld3
import Derived.IntWalk
namespace Go.Proofs.Ytfbacopjookplaa
open Go.RowKit

/-- A world in which S holds. -/
structure Cls (S : World → Prop) where
  world : World
  ok : S world

theorem cls_of {S : World → Prop} {w : World} (h : S w) : ∃ c : Cls S, w = c.world := ⟨⟨w, h⟩, rfl⟩

/-- What stays true as long as only new memory is made. -/
def Keeps (S : World → Prop) : Prop := ∀ w w', S w → Ext w w' → S w'
instance (w0 : World) : Nonempty (Cls (Ext w0)) := ⟨⟨w0, Ext.rfl' w0⟩⟩
theorem keeps_ext (w0 : World) : Keeps (Ext w0) := fun _ _ h e => Ext.next h e

theorem Ext.drew1 {a b : World} (h : Ext a b) : Ext a b.drew := Ext.next h (Ext.drawn b 1)
theorem Ext.alloc1 {a b : World} (h : Ext a b) (o : Obj) : Ext a (b.alloc o) := h.alloc h.size o

/-- A region that draws its order, all of whose operations and callees keep S. -/
theorem wp_region_cls {P : Program} {id : Nat} {Q : Exit → Act → World → Prop} {a : Act} {w : World} {l : List Oper} (S : World → Prop) (hS : S w.drew) (hm : P.follows .mixedOrders = true) (hB : Region.lexB .any l.toArray = true)
    (h : wpQuiet P l.toArray (fun w' => ∃ c : Cls S, w' = c.world) (fun a' => ∀ w', (∃ c : Cls S, w' = c.world) → Q .normal a' w') l a) : (Code.region id l.toArray true).wp P Q a w :=
  wp_region_quiet (C := fun w' => ∃ c : Cls S, w' = c.world) hm hB ⟨⟨w.drew, hS⟩, rfl⟩ (by simpa using h)

theorem calls_cls {P : Program} {f : FuncId} {args : Array Value} {S : World → Prop} {c : Cls S} {v : Value} (hS : Keeps S)
    (h : Calls P f args c.world fun e w' => e = .returned v ∧ Ext c.world w') : Calls P f args c.world fun e w'' => e = .returned v ∧ ∃ c' : Cls S, w'' = c'.world :=
  h.mono fun _ _ ⟨he, hx⟩ => ⟨he, ⟨_, hS _ _ c.ok hx⟩, rfl⟩
theorem calls_cls_same {P : Program} {f : FuncId} {args : Array Value} {S : World → Prop} {c : Cls S} {v : Value}
    (h : Calls P f args c.world fun e w' => e = .returned v ∧ w' = c.world) : Calls P f args c.world fun e w'' => e = .returned v ∧ ∃ c' : Cls S, w'' = c'.world :=
  h.mono fun _ _ ⟨he, hx⟩ => ⟨he, c, hx⟩

/-- The worlds later than w0. -/
abbrev Lat (w0 : World) := Cls (Ext w0)
theorem Lat.size {w0 : World} (c : Lat w0) : w0.heap.size ≤ c.world.heap.size := c.ok.size
theorem Lat.block {w0 : World} (c : Lat w0) {b : Nat} {o : Obj} (h : w0.heap[b]? = some o) : c.world.heap[b]? = some o := (c.ok.block b (Array.getElem?_eq_some_iff.1 h).1).trans h
theorem blk_lt {w : World} {b : Nat} {o : Obj} (h : w.heap[b]? = some o) : b < w.heap.size := (Array.getElem?_eq_some_iff.1 h).1
/-- The cells of a block that is known whole, in every later world. -/
theorem Lat.cells {w0 : World} {b i : Nat} {cs : Array Value} {t : TypeId} {u : Value} (h : w0.heap[b]? = some (.cells cs t (0, 0))) (hu : cs[i]? = some u) : ∀ c : Lat w0, c.world.cell? ⟨b, i, none⟩ = some u := fun c => cellOf (c.block h) hu
theorem Lat.free {w0 : World} {b : Nat} {cs : Array Value} {t : TypeId} (h : w0.heap[b]? = some (.cells cs t (0, 0))) (i : Nat) : ∀ c : Lat w0, c.world.frozen? ⟨b, i, none⟩ = false := fun c => freeOf (c.block h) i
theorem Lat.ne {w0 : World} {b : Nat} (h : b < w0.heap.size) : ∀ c : Lat w0, b ≠ c.world.heap.size := fun c e => by have := c.size; omega
theorem Lat.lt {w0 : World} {b : Nat} (h : b < w0.heap.size) : ∀ c : Lat w0, b < c.world.heap.size := fun c => by have := c.size; omega
theorem lat_next {w0 : World} (c : Lat w0) {w : World} (e : Ext c.world w) : ∃ c' : Lat w0, w = c'.world := cls_of (Ext.next c.ok e)
theorem lat_self (w0 : World) : ∃ c : Lat w0, w0 = c.world := cls_of (Ext.rfl' w0)
theorem lat_of {w0 w : World} (e : Ext w0 w) : ∃ c : Lat w0, w = c.world := cls_of e

/-- A call from a world is a call from each later one. -/
theorem start_lat {P : Program} {f : FuncId} {args : Array Value} {w : World} {Q : Ending → World → Prop} (h : ∀ k : Lat w, Calls P f args k.world Q) : Calls P f args w Q := h ⟨w, Ext.rfl' w⟩

/-- 'make([]T, n)', the elements of one cell each, at whatever world. -/
def repl (n : Nat) (z : Value) : Array Value := Array.replicate n z
theorem run_make1 {P : Program} {t e : TypeId} {z : Value} {bytes : Nat} (T : Zero1 P e z bytes) (hz1 : z.cells = #[z]) (ht : P.underlying t = some (.slice e)) (n : Int) (h0 : 0 ≤ n) (hb : (bytes : Int) * n ≤ 281474976710656) (h63 : n ≤ 9223372036854775807) (w : World) :
    (Instr.makeSlice t (.int .i64 n) (.int .i64 n)).run P w = .ok (.slice (some ⟨w.heap.size, 0, none⟩) n.toNat n.toNat) (w.alloc (.cells (repl n.toNat z) e)) := by
  obtain ⟨i, hi, hz, hs, hby⟩ := info_parts T
  rw [run_make w t e i z ht hi hz .i64 .i64 n n h0 (Int.le_refl _) (by rw [hby]; exact hb) h63, hs, hz1, Nat.mul_one]
  congr 3
  apply Array.toList_inj.1
  rw [toList_madeCells_one]
  simp [repl]

/-- A row of the call's own does not lie in a block of another kind. -/
theorem own_apart {w : World} {B H : Nat} {v : Value} {e t : TypeId} {size n : Nat} {us : List Value} {cs : Array Value} (h : w.ownsRow B e size v n us) (hb : w.heap[H]? = some (.cells cs t (0, 0))) (hne : e ≠ t) : v.ownBlock ≠ some H := by
  intro e'
  rcases h.2 with ⟨rfl, _⟩ | ⟨g, cap, cur, rfl, _, hg, _⟩
  · cases e'
  · injection e' with e'
    subst e'
    rw [hb] at hg
    injection hg with hg
    injection hg with _ hg
    exact hne hg.symm
theorem own_ext {w w' : World} {B : Nat} {v : Value} {e : TypeId} {size n : Nat} {us : List Value} (h : w.ownsRow B e size v n us) (x : Ext w w') : w'.ownsRow B e size v n us := own_only h (Only.of_ext (S := fun _ => False) x) fun _ _ f => f
theorem Ext.only {w a b : World} {S : Nat → Prop} (h : Ext w a) (o : Only S a b) (hs : ∀ q, S q → w.heap.size ≤ q) : Ext w b := Below.trans h (o.below h.size hs)
theorem own_base {w : World} {B B' : Nat} {v : Value} {e : TypeId} {size n : Nat} {us : List Value} (h : w.ownsRow B e size v n us) (hb : B' ≤ B) : w.ownsRow B' e size v n us := by
  refine ⟨h.1, ?_⟩
  rcases h.2 with hn | ⟨g, cap, cur, rfl, hg, rest⟩
  · exact .inl hn
  · exact .inr ⟨g, cap, cur, rfl, Nat.le_trans hb hg, rest⟩
/-- Rows of two kinds lie apart. -/
theorem own_two {w : World} {B B' : Nat} {v v' : Value} {e e' : TypeId} {size size' n n' : Nat} {us us' : List Value} (h : w.ownsRow B e size v n us) (k : w.ownsRow B' e' size' v' n' us') (hne : e ≠ e') : ∀ q, v.ownBlock = some q → v'.ownBlock ≠ some q := by
  intro q hq e'
  rcases h.2 with ⟨rfl, _⟩ | ⟨g1, c1, r1, rfl, _, hg1, _⟩
  · cases hq
  · rcases k.2 with ⟨rfl, _⟩ | ⟨g2, c2, r2, rfl, _, hg2, _⟩
    · cases e'
    · injection hq with hq
      injection e' with e'
      subst hq e'
      rw [hg1] at hg2
      injection hg2 with hg2
      injection hg2 with _ hg2
      exact hne hg2
/-- A row of another kind stays where a row grows. -/
theorem own_kept {w w' : World} {B B' : Nat} {v v' : Value} {e e' : TypeId} {size size' n n' : Nat} {us us' : List Value} (h : w.ownsRow B e size v n us) (k : w.ownsRow B' e' size' v' n' us') (hne : e ≠ e') (hg : w.grownBy w' v.ownBlock) : w'.ownsRow B' e' size' v' n' us' := by
  refine own_only k (Only.of_grown hg) fun q hq hs => own_two h k hne q hs.symm hq
/-- A block of another kind stays where a row grows. -/
theorem blk_kept {w w' : World} {B : Nat} {v : Value} {e t : TypeId} {size n H : Nat} {us : List Value} {cs : Array Value} (h : w.ownsRow B e size v n us) (hb : w.heap[H]? = some (.cells cs t (0, 0))) (hne : e ≠ t) (hg : w.grownBy w' v.ownBlock) : w'.heap[H]? = some (.cells cs t (0, 0)) :=
  (hg.block H (blk_lt hb) (fun hs => own_apart h hb hne hs.symm)).trans hb
theorem ext_grown {w0 w w' : World} {B : Nat} {v : Value} {e : TypeId} {size n : Nat} {us : List Value} (hx : Ext w0 w) (h : w.ownsRow B e size v n us) (hB : w0.heap.size ≤ B) (hg : w.grownBy w' v.ownBlock) : Ext w0 w' :=
  hx.only (Only.of_grown hg) fun q hq => by have := (h.lt q hq.symm).1; omega
theorem ext_set {w0 w : World} {g : Nat} (hx : Ext w0 w) (hB : w0.heap.size ≤ g) (i : Nat) (u : Value) : Ext w0 (w.setCell ⟨g, i, none⟩ u) :=
  hx.only (S := fun q => q = g) ((Only.refl _ _).setCell _ _ fun _ => rfl) fun q hq => by omega
/-- A slice value's length. -/
def lenOf : Value → Nat
  | .slice _ n _ => n
  | _ => 0

/-- The world behind the boxes of a call's arguments, by a name. -/
theorem enter1 (w : World) (X : Obj) : ∃ w0, w.alloc X = w0 ∧ w0.heap[w.heap.size]? = some X ∧ Ext w w0 ∧ w.heap.size < w0.heap.size :=
  ⟨_, rfl, heap_alloc_new w X, (Ext.rfl' w).alloc1 X, by simp⟩
theorem enter2 (w : World) (X Y : Obj) : ∃ w0, (w.alloc X).alloc Y = w0 ∧ w0.heap[w.heap.size]? = some X ∧ w0.heap[w.heap.size + 1]? = some Y ∧ Ext w w0 ∧ w.heap.size + 1 < w0.heap.size :=
  ⟨_, rfl, by rw [heap_alloc_old _ _ (by simp)]; exact heap_alloc_new w X, by have := heap_alloc_new (w.alloc X) Y; simpa using this, ((Ext.rfl' w).alloc1 X).alloc1 Y, by simp⟩

/-- A block of a world stands in each later one. -/
theorem ext_blk {a b : World} (h : Ext a b) {k : Nat} {o : Obj} (hk : a.heap[k]? = some o) : b.heap[k]? = some o := (h.block k (Array.getElem?_eq_some_iff.1 hk).1).trans hk
theorem Lat.cells3 {w0 : World} {b : Nat} {t : TypeId} {x y z : Value} (h : w0.heap[b]? = some (.cells #[x, y, z] t (0, 0))) :
    (∀ c : Lat w0, c.world.cell? ⟨b, 0, none⟩ = some x) ∧ (∀ c : Lat w0, c.world.cell? ⟨b, 1, none⟩ = some y) ∧ (∀ c : Lat w0, c.world.cell? ⟨b, 2, none⟩ = some z) := ⟨Lat.cells h rfl, Lat.cells h rfl, Lat.cells h rfl⟩
theorem Lat.cells2 {w0 : World} {b : Nat} {t : TypeId} {x y : Value} (h : w0.heap[b]? = some (.cells #[x, y] t (0, 0))) :
    (∀ c : Lat w0, c.world.cell? ⟨b, 0, none⟩ = some x) ∧ (∀ c : Lat w0, c.world.cell? ⟨b, 1, none⟩ = some y) := ⟨Lat.cells h rfl, Lat.cells h rfl⟩
theorem Lat.cells1 {w0 : World} {b : Nat} {t : TypeId} {x : Value} (h : w0.heap[b]? = some (.cells #[x] t (0, 0))) : ∀ c : Lat w0, c.world.cell? ⟨b, 0, none⟩ = some x := Lat.cells h rfl

/-- A configuration's seven cells, in every later world. -/
abbrev cfgV (T R H Re Ca S B : Int) : Array Value := #[.int .i64 T, .int .i64 R, .int .i64 H, .int .i64 Re, .int .i64 Ca, .int .i64 S, .int .i64 B]
theorem Lat.cfg {w0 : World} {b : Nat} {t : TypeId} {T R H Re Ca S B : Int} (h : w0.heap[b]? = some (.cells #[.int .i64 T, .int .i64 R, .int .i64 H, .int .i64 Re, .int .i64 Ca, .int .i64 S, .int .i64 B] t (0, 0))) :
    (∀ c : Lat w0, c.world.cell? ⟨b, 0, none⟩ = some (.int .i64 T)) ∧ (∀ c : Lat w0, c.world.cell? ⟨b, 1, none⟩ = some (.int .i64 R)) ∧ (∀ c : Lat w0, c.world.cell? ⟨b, 2, none⟩ = some (.int .i64 H)) ∧
    (∀ c : Lat w0, c.world.cell? ⟨b, 3, none⟩ = some (.int .i64 Re)) ∧ (∀ c : Lat w0, c.world.cell? ⟨b, 4, none⟩ = some (.int .i64 Ca)) ∧ (∀ c : Lat w0, c.world.cell? ⟨b, 5, none⟩ = some (.int .i64 S)) ∧ (∀ c : Lat w0, c.world.cell? ⟨b, 6, none⟩ = some (.int .i64 B)) :=
  ⟨Lat.cells h rfl, Lat.cells h rfl, Lat.cells h rfl, Lat.cells h rfl, Lat.cells h rfl, Lat.cells h rfl, Lat.cells h rfl⟩

end Go.Proofs.Ytfbacopjookplaa
