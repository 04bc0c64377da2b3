/- Small words on memory that the walks of this seat share: what a slice reads as, that nothing older has changed, hidden facts. No program stands here. -/
import Derived.WalkKit
import Derived.WalkSpells
import Derived.WalkLawsBesides
import Derived.Deep.QuietTactic
import Derived.BigQuiet
import Derived.Deep.Draws
import Derived.Maps.AppendAt
import Derived.Lib.Hide
namespace Go.Proofs.Ytfbacopjookplaa
open Go.RowKit

theorem ret_bool {a b : Bool} (h : a = b) : Ending.returned (.bool a) = .returned (.bool b) := by rw [h]
theorem ret_int {k : IntKind} {a b : Int} (h : a = b) : Ending.returned (.int k a) = .returned (.int k b) := by rw [h]
theorem ret_val {a b : Value} (h : a = b) : Ending.returned a = .returned b := by rw [h]

/-- Behind a call nothing has changed that was there. -/
abbrev Ext (w w' : World) : Prop := Below w.heap.size w w'

theorem Ext.rfl' (w : World) : Ext w w := Below.refl _ _
theorem Ext.drawn (w : World) (k : Nat) : Ext w (w.drewN k) := by
  refine ⟨rfl, rfl, rfl, ?_, fun _ _ => rfl⟩
  exact Nat.le_refl _
theorem Ext.next {a b c : World} (h : Ext a b) (k : Ext b c) : Ext a c := Below.trans h (k.mono h.size)

/-- Of what was there no block has changed but those of S. -/
structure Only (S : Nat → Prop) (w w' : World) : Prop where
  os : w'.os = w.os
  tape : w'.tape = w.tape
  output : w'.output = w.output
  size : w.heap.size ≤ w'.heap.size
  block : ∀ k, k < w.heap.size → ¬ S k → w'.heap[k]? = w.heap[k]?

theorem Only.refl (S : Nat → Prop) (w : World) : Only S w w := ⟨rfl, rfl, rfl, Nat.le_refl _, fun _ _ _ => rfl⟩
theorem Only.mono {S S' : Nat → Prop} {a b : World} (h : Only S a b) (hs : ∀ k, k < a.heap.size → S k → S' k) : Only S' a b :=
  ⟨h.os, h.tape, h.output, h.size, fun k hk hn => h.block k hk fun hh => hn (hs k hk hh)⟩
theorem Only.trans {S S' : Nat → Prop} {a b c : World} (h : Only S a b) (k : Only S' b c) (hs : ∀ i, i < a.heap.size → S' i → S i) : Only S a c :=
  ⟨k.os.trans h.os, k.tape.trans h.tape, k.output.trans h.output, Nat.le_trans h.size k.size, fun i hi hn => (k.block i (Nat.lt_of_lt_of_le hi h.size) fun hh => hn (hs i hi hh)).trans (h.block i hi hn)⟩
theorem Only.of_ext {S : Nat → Prop} {a b : World} (h : Ext a b) : Only S a b := ⟨h.os, h.tape, h.output, h.size, fun k hk _ => h.block k hk⟩
theorem Only.ext {S : Nat → Prop} {a b : World} (h : Only S a b) (hs : ∀ k, k < a.heap.size → ¬ S k) : Ext a b := ⟨h.os, h.tape, h.output, h.size, fun k hk => h.block k hk (hs k hk)⟩
theorem Only.of_grown {a b : World} {row : Option Nat} (h : a.grownBy b row) : Only (fun k => some k = row) a b := ⟨h.os, h.tape, h.output, h.size, fun k hk hn => h.block k hk hn⟩
theorem Only.setCell {S : Nat → Prop} {a b : World} (h : Only S a b) (p : Addr) (u : Value) (hp : p.block < a.heap.size → S p.block) : Only S a (b.setCell p u) :=
  ⟨h.os, h.tape, h.output, by simpa using h.size, fun k hk hn => by
    have hne : k ≠ p.block := fun e => hn (e ▸ hp (e ▸ hk))
    exact (Below.heap_setCell b p u k hne).trans (h.block k hk hn)⟩
theorem Only.alloc {S : Nat → Prop} {a b : World} (h : Only S a b) (o : Obj) : Only S a (b.alloc o) :=
  ⟨h.os, h.tape, h.output, Nat.le_trans h.size (by simp), fun k hk hn => (heap_alloc_old b o (Nat.lt_of_lt_of_le hk h.size)).trans (h.block k hk hn)⟩
theorem Only.drew {S : Nat → Prop} {a b : World} (h : Only S a b) : Only S a b.drew := ⟨h.os, h.tape, h.output, h.size, h.block⟩
theorem Only.drewN {S : Nat → Prop} {a b : World} (h : Only S a b) (n : Nat) : Only S a (b.drewN n) := h.trans (Only.of_ext (S := S) (Ext.drawn b n)) fun _ _ hs => hs
theorem Only.below {S : Nat → Prop} {B : Nat} {a b : World} (h : Only S a b) (hB : B ≤ a.heap.size) (hs : ∀ k, S k → B ≤ k) : Below B a b :=
  ⟨h.os, h.tape, h.output, h.size, fun k hk => h.block k (by omega) fun hh => by have := hs k hh; omega⟩

/-- An owned row that lies in none of the changed blocks stays. -/
theorem own_only {S : Nat → Prop} {a b : World} {base : Nat} {e : TypeId} {size n : Nat} {v : Value} {us : List Value} (h : a.ownsRow base e size v n us) (o : Only S a b) (hs : ∀ k, v.ownBlock = some k → ¬ S k) : b.ownsRow base e size v n us := by
  refine ⟨h.1, ?_⟩
  rcases h.2 with hn | ⟨g, cap, cur, rfl, hb, hg, rest⟩
  · exact .inl hn
  · exact .inr ⟨g, cap, cur, rfl, hb, (o.block g (Array.getElem?_eq_some_iff.1 hg).1 (hs g rfl)).trans hg, rest⟩

/-- A cell of a block that is known whole. -/
theorem cellOf {w : World} {b i : Nat} {cs : Array Value} {t : TypeId} {u : Value} (h : w.heap[b]? = some (.cells cs t (0, 0))) (hu : cs[i]? = some u) : w.cell? ⟨b, i, none⟩ = some u := (cell_of_row w b i cs t (0, 0) h).trans hu
theorem freeOf {w : World} {b : Nat} {cs : Array Value} {t : TypeId} (h : w.heap[b]? = some (.cells cs t (0, 0))) (i : Nat) : w.frozen? ⟨b, i, none⟩ = false := by simp [World.frozen?, h]

/-- The slice with pointer A reads as the cells us. -/
def Rd (w : World) (A : Option Addr) (us : List Value) : Prop :=
  us ≠ [] → ∃ b off, A = some ⟨b, off, none⟩ ∧ b < w.heap.size ∧ ∀ j u, us[j]? = some u → w.cell? ⟨b, off + j, none⟩ = some u

theorem Rd.nil (w : World) (A : Option Addr) : Rd w A [] := fun h => absurd rfl h
theorem Rd.ext {w w' : World} {A : Option Addr} {us : List Value} (h : Rd w A us) (e : Ext w w') : Rd w' A us := fun hne => by
  obtain ⟨b, off, hA, hb, hc⟩ := h hne
  exact ⟨b, off, hA, Nat.lt_of_lt_of_le hb e.size, fun j u hu => (e.cell (p := ⟨b, off + j, none⟩) hb).trans (hc j u hu)⟩
theorem Rd.at_ {w : World} {A : Option Addr} {us : List Value} (h : Rd w A us) {j : Nat} (hj : j < us.length) :
    ∃ b off u, A = some ⟨b, off, none⟩ ∧ b < w.heap.size ∧ Hid (us[j]? = some u) ∧ w.cell? ⟨b, off + j, none⟩ = some u := by
  obtain ⟨b, off, hA, hb, hc⟩ := h (by intro e; subst e; simp at hj)
  exact ⟨b, off, us[j], hA, hb, List.getElem?_eq_getElem hj, hc j _ (List.getElem?_eq_getElem hj)⟩
theorem Rd.prefix_ {w : World} {A : Option Addr} {us vs : List Value} (h : Rd w A (us ++ vs)) : Rd w A us := fun hne => by
  obtain ⟨b, off, hA, hb, hc⟩ := h (by simp [hne])
  refine ⟨b, off, hA, hb, fun j u hu => hc j u ?_⟩
  obtain ⟨hj, _⟩ := List.getElem?_eq_some_iff.1 hu
  rw [List.getElem?_append_left hj]
  exact hu
theorem Rd.of_own {w : World} {base : Nat} {e : TypeId} {size n c : Nat} {A : Option Addr} {us : List Value} (h : w.ownsRow base e size (.slice A n c) n us) : Rd w A us := by
  intro hne
  rcases h.2 with ⟨_, h0⟩ | ⟨g, cap, cur, hv, _, hg, _⟩
  · have := h.1; rw [h0, Nat.zero_mul] at this; exact absurd (List.eq_nil_of_length_eq_zero this) hne
  · injection hv with hA _ _
    subst hA
    refine ⟨g, 0, rfl, (Array.getElem?_eq_some_iff.1 hg).1, fun j u hu => ?_⟩
    have := h.cells (g := g) rfl j u hu
    simpa [Addr.add_lit] using this

theorem own_form {w : World} {base : Nat} {e : TypeId} {size n : Nat} {v : Value} {us : List Value} (h : w.ownsRow base e size v n us) : ∃ A c, v = .slice A n c := by
  rcases h.2 with ⟨h1, h0⟩ | ⟨g, cap, cur, hv, _⟩
  · subst h0; exact ⟨_, _, h1⟩
  · exact ⟨_, _, hv⟩

theorem own_form1 {w : World} {base : Nat} {e : TypeId} {size n : Nat} {v : Value} {us : List Value} (h : w.ownsRow base e size v n us) (hn : 0 < n) : ∃ g c, v = .slice (some ⟨g, 0, none⟩) n c ∧ n ≤ c ∧ base ≤ g ∧ g < w.heap.size := by
  rcases h.2 with ⟨h1, h0⟩ | ⟨g, cap, cur, hv, hb, hg, hc, _⟩
  · omega
  · exact ⟨g, cap, hv, hc, hb, (Array.getElem?_eq_some_iff.1 hg).1⟩

/-- A row of the call's own, cut. -/
theorem own_cut {w : World} {base : Nat} {e : TypeId} {size n m g c : Nat} {us : List Value} (h : w.ownsRow base e size (.slice (some ⟨g, 0, none⟩) n c) n us) (hm : m ≤ n) : w.ownsRow base e size (.slice (some ⟨g, 0, none⟩) m c) m (us.take (m * size)) := by
  have hle : m * size ≤ n * size := Nat.mul_le_mul_right _ hm
  refine ⟨by rw [List.length_take, h.1]; omega, ?_⟩
  rcases h.2 with ⟨h1, h0⟩ | ⟨g', cap, cur, hv, hb, hg, hc, hmx, hsz, htk⟩
  · cases h1
  · injection hv with h1 h2 h3
    injection h1 with h1
    injection h1 with h1
    subst h1 h3
    refine .inr ⟨g, c, cur, rfl, hb, hg, by omega, hmx, hsz, ?_⟩
    rw [← htk, List.take_take, Nat.min_eq_left hle]

theorem one_ints (ws : List Int) : ∀ u ∈ ws.map (Value.int .i64), u.oneCell' = true := by
  intro u hu
  obtain ⟨x, _, rfl⟩ := List.mem_map.1 hu
  rfl

/-- The slice with pointer A reads as the integers xs. -/
def Ints (w : World) (A : Option Addr) (n : Nat) (xs : List Int) : Prop := xs.length = n ∧ Rd w A (xs.map (Value.int .i64))

theorem Ints.ext {w w' : World} {A : Option Addr} {n : Nat} {xs : List Int} (h : Ints w A n xs) (e : Ext w w') : Ints w' A n xs := ⟨h.1, h.2.ext e⟩
theorem Ints.at_ {w : World} {A : Option Addr} {n : Nat} {xs : List Int} (h : Ints w A n xs) {j : Nat} (hj : j < n) :
    ∃ b off x, A = some ⟨b, off, none⟩ ∧ b < w.heap.size ∧ Hid (xs[j]? = some x) ∧ w.cell? ⟨b, off + j, none⟩ = some (.int .i64 x) := by
  have hj' : j < xs.length := by rw [h.1]; exact hj
  obtain ⟨b, off, u, hA, hb, hu, hc⟩ := h.2.at_ (j := j) (by rw [List.length_map]; exact hj')
  have hu := hu.out
  rw [List.getElem?_map, List.getElem?_eq_getElem hj'] at hu
  injection hu with hu
  subst hu
  exact ⟨b, off, xs[j], hA, hb, List.getElem?_eq_getElem hj', hc⟩

/-- Two lists agree as far as they have been looked at. -/
theorem take_eq_step {α : Type} {xs ys : List α} {k : Nat} {x : α} (h : Hid (xs.take k = ys.take k)) (hx : Hid (xs[k]? = some x)) (hy : Hid (ys[k]? = some x)) : Hid (xs.take (k + 1) = ys.take (k + 1)) := by
  show xs.take (k + 1) = ys.take (k + 1)
  rw [List.take_add_one, List.take_add_one, h.out, hx.out, hy.out]
theorem ne_of_at {α : Type} {xs ys : List α} {k : Nat} {x y : α} (hx : Hid (xs[k]? = some x)) (hy : Hid (ys[k]? = some y)) (hne : x ≠ y) : xs ≠ ys := by
  intro e
  subst e
  have := hx.out.symm.trans hy.out
  injection this with this
  exact hne this
theorem take_all_eq {α : Type} {xs ys : List α} {k : Nat} (h : Hid (xs.take k = ys.take k)) (hx : xs.length = k) (hy : ys.length = k) : xs = ys := by
  have := h.out
  rwa [List.take_of_length_le (Nat.le_of_eq hx), List.take_of_length_le (Nat.le_of_eq hy)] at this

/-- What a slice's element type is like: how many cells, how many bytes. -/
def Elem (P : Program) (e : TypeId) (size bytes : Nat) : Prop :=
  ∃ i z, P.info? e = some i ∧ i.zero = some z ∧ i.size = size ∧ i.bytes = bytes ∧ z.cells.size = size ∧ 0 < size ∧ 0 < bytes

theorem Elem.of {P : Program} {e : TypeId} {z : Value} {size bytes : Nat} (h : (P.info? e).map (fun i => (i.zero, i.size, i.bytes)) = some (some z, size, bytes)) (hz : z.cells.size = size) (h0 : 0 < size) (h1 : 0 < bytes) : Elem P e size bytes := by
  obtain ⟨i, a, b, c, d⟩ := info_parts h
  exact ⟨i, z, a, b, c, d, hz, h0, h1⟩

theorem grownBy_of_alloc {w w' : World} {o : Obj} {row : Option Nat} (h : (w.alloc o).grownBy w' row) : w.grownBy w' row :=
  ⟨h.os, h.tape, h.output, Nat.le_trans (by simp) h.size, fun k hk hr => (h.block k (by simp; omega) hr).trans (heap_alloc_old w o hk)⟩

theorem own_below {w w' : World} {base : Nat} {e : TypeId} {size n : Nat} {v : Value} {xs : List Value} (h : w.ownsRow base e size v n xs) (g : w.grownBy w' v.ownBlock) (hb : base ≤ w.heap.size) : Below base w w' :=
  (Below.refl base w).grown g hb fun k hk => (h.lt k hk).1

/-- 'append(s, x)' of one element onto a row of the call's own. -/
theorem wpList_push {P : Program} {ops : Array Oper} {rest : List Oper} {o : Oper} {a : Act} {Q : Exit → Act → World → Prop} (w : World) (hgd : o.guard = none) (s x : Operand) (t : TypeId)
    (ho : o.op = .call { callee := .builtin .append, args := #[s, x], argTypes := #[t, t] })
    (base : Nat) (e : TypeId) (size bytes : Nat) (T : Elem P e size bytes) (ht : P.underlying t = some (.slice e))
    (v : Value) (n : Nat) (xs : List Value) (hs : a.eval s = v) (hown : w.ownsRow base e size v n xs)
    (cs : Array Value) (hx : a.eval x = .slice (some ⟨w.heap.size, 0, none⟩) 1 1) (hc : cs.size = size) (h1 : ∀ u ∈ cs.toList, u.oneCell' = true)
    (hbytes : (n + 1) * bytes ≤ 140737488355328) (hbase : base ≤ w.heap.size)
    (h : ∀ v' w', w'.ownsRow base e size v' (n + 1) (xs ++ cs.toList) → w.grownBy w' v.ownBlock → (v'.ownBlock = v.ownBlock ∨ v'.ownBlock = some (w.heap.size + 1)) → wpList P ops Q rest (a.put o.dst v') w') :
    wpList P ops Q (o :: rest) a (w.alloc (.cells cs e)) := by
  obtain ⟨i, z, hi, hz, hsz, hby, hzs, h0, hb0⟩ := T
  have h63 : n + 1 ≤ maxLen := by
    have : (n + 1) * 1 ≤ (n + 1) * bytes := Nat.mul_le_mul_left _ hb0
    unfold maxLen; omega
  refine wpList_append_own_at _ hgd s x t ho base e i z size bytes ht hi hz hsz hby hzs h0 v n xs hs (hown.alloc _) ⟨w.heap.size, 0, none⟩ 1 1 cs.toList hx (by simp [hc]) ?_ h1 h63 hbytes (by simp; omega) ?_
  · intro j u hu
    rw [Addr.add_lit, World.cell?_alloc_at _ _ _ _ (by simp)]
    simpa using hu
  · intro v' w' h2 h3 _ h5
    refine h v' w' h2 (grownBy_of_alloc h3) ?_
    simpa using h5

theorem run_appendR {P : Program} (w : World) (base : Nat) (t ty e : TypeId) (size bytes : Nat) (T : Elem P e size bytes) (ht : P.underlying t = some (.slice e))
    (v : Value) (n : Nat) (xs : List Value) (hown : w.ownsRow base e size v n xs) (A : Option Addr) (m c : Nat) (us : List Value) (hl : us.length = m * size) (hr : Rd w A us) (h1 : ∀ u ∈ us, u.oneCell' = true)
    (hbytes : (n + m) * bytes ≤ 140737488355328) (hbase : base ≤ w.heap.size) :
    ∃ v' w', (Builtin.append_ #[t, t] ty #[v, .slice A m c]).run P w = .ok v' w' ∧ w'.ownsRow base e size v' (n + m) (xs ++ us) ∧ w.grownBy w' v.ownBlock ∧ (v'.ownBlock = v.ownBlock ∨ v'.ownBlock = some w.heap.size) := by
  obtain ⟨i, z, hi, hz, hsz, hby, hzs, h0, hb0⟩ := T
  have h63 : n + m ≤ maxLen := by
    have : (n + m) * 1 ≤ (n + m) * bytes := Nat.mul_le_mul_left _ hb0
    unfold maxLen; omega
  cases A with
  | none =>
    have hu : us = [] := Classical.byContradiction fun hne => by obtain ⟨b, off, hA, _⟩ := hr hne; cases hA
    subst hu
    have hm : m = 0 := by
      rcases Nat.eq_zero_or_pos m with h | h
      · exact h
      · have := Nat.mul_pos h h0; rw [← hl] at this; simp at this
    subst hm
    refine ⟨v, w, ?_, by simpa using hown, ⟨rfl, rfl, rfl, Nat.le_refl _, fun _ _ _ => rfl⟩, .inl rfl⟩
    rcases hown.2 with ⟨rfl, rfl⟩ | ⟨g, cap, cur, rfl, _, _, hnc, _⟩
    · simp [Builtin.append_, run_underlying ht, sizeOf, typeInfo, hi, Builtin.lenOf, Builtin.firstCells]
    · simp [Builtin.append_, run_underlying ht, sizeOf, typeInfo, hi, Builtin.lenOf, Builtin.firstCells, hnc, storeCells]
  | some a =>
    have hcells : ∀ j u, us[j]? = some u → w.cell? (a.add j) = some u := fun j u hu => by
      obtain ⟨b, off, hA, _, hc⟩ := hr (by intro e; subst e; simp at hu)
      injection hA with hA
      subst hA
      rw [Addr.add_lit]
      exact hc j u hu
    obtain ⟨v', w', hrun, h2, h3, _, h5⟩ := run_append_own_at (P := P) w base t ty e i z size bytes ht hi hz hsz hby hzs h0 v n xs hown a m c us hl hcells h1 h63 hbytes hbase
    exact ⟨v', w', hrun, h2, h3, h5⟩

/-- 'append(s, x...)' onto a row of the call's own, of whatever slice reads as us. -/
theorem wpList_appendR {P : Program} {ops : Array Oper} {rest : List Oper} {o : Oper} {a : Act} {Q : Exit → Act → World → Prop} (w : World) (hgd : o.guard = none) (s x : Operand) (t : TypeId)
    (ho : o.op = .call { callee := .builtin .append, args := #[s, x], argTypes := #[t, t] })
    (base : Nat) (e : TypeId) (size bytes : Nat) (T : Elem P e size bytes) (ht : P.underlying t = some (.slice e))
    (v : Value) (n : Nat) (xs : List Value) (hs : a.eval s = v) (hown : w.ownsRow base e size v n xs)
    (A : Option Addr) (m c : Nat) (us : List Value) (hx : a.eval x = .slice A m c) (hl : us.length = m * size) (hr : Rd w A us) (h1 : ∀ u ∈ us, u.oneCell' = true)
    (hbytes : (n + m) * bytes ≤ 140737488355328) (hbase : base ≤ w.heap.size)
    (h : ∀ v' w', w'.ownsRow base e size v' (n + m) (xs ++ us) → w.grownBy w' v.ownBlock → (v'.ownBlock = v.ownBlock ∨ v'.ownBlock = some w.heap.size) → wpList P ops Q rest (a.put o.dst v') w') :
    wpList P ops Q (o :: rest) a w := by
  refine wpList_plain hgd fun K hK => ?_
  obtain ⟨v', w', hrun, h2, h3, h5⟩ := run_appendR (P := P) w base t o.type e size bytes T ht v n xs hown A m c us hl hr h1 hbytes hbase
  unfold Oper.wp execOp
  simp only [ho, resolve, invoke, builtin, Sem.run_bind, Sem.run_pure, Result.andThen_ok, List.map_toArray, List.map_cons, List.map_nil, hs, hx, hrun]
  exact hK _ _ (h v' w' h2 h3 h5)

/-- The same as a step of a region that draws its order. -/
theorem step_appendR {P : Program} {ops : Array Oper} {o : Oper} {a : Act} {K : Act → World → Prop} {Q : Exit → Act → World → Prop} {E : Prop} (w : World) (hgd : o.guard = none) (s x : Operand) (t : TypeId)
    (ho : o.op = .call { callee := .builtin .append, args := #[s, x], argTypes := #[t, t] })
    (base : Nat) (e : TypeId) (size bytes : Nat) (T : Elem P e size bytes) (ht : P.underlying t = some (.slice e))
    (v : Value) (n : Nat) (xs : List Value) (hs : a.eval s = v) (hown : w.ownsRow base e size v n xs)
    (A : Option Addr) (m c : Nat) (us : List Value) (hx : a.eval x = .slice A m c) (hl : us.length = m * size) (hr : Rd w A us) (h1 : ∀ u ∈ us, u.oneCell' = true)
    (hbytes : (n + m) * bytes ≤ 140737488355328) (hbase : base ≤ w.heap.size)
    (h : ∀ v' w', w'.ownsRow base e size v' (n + m) (xs ++ us) → w.grownBy w' v.ownBlock → (v'.ownBlock = v.ownBlock ∨ v'.ownBlock = some w.heap.size) → K (a.put o.dst v') w') :
    if Region.wanted o (yielded ops a.tmps) = true then Oper.wp P o a w K Q else E := by
  have hw : Region.wanted o (yielded ops a.tmps) = true := by simp [Region.wanted, hgd]
  rw [if_pos hw]
  obtain ⟨v', w', hrun, h2, h3, h5⟩ := run_appendR (P := P) w base t o.type e size bytes T ht v n xs hown A m c us hl hr h1 hbytes hbase
  unfold Oper.wp execOp
  simp only [ho, resolve, invoke, builtin, Sem.run_bind, Sem.run_pure, Result.andThen_ok, List.map_toArray, List.map_cons, List.map_nil, hs, hx, hrun]
  exact h v' w' h2 h3 h5

/-- What lies in a block that has just been made. -/
theorem Rd.made (w : World) (cs : List Value) (e : TypeId) : Rd (w.alloc (.cells cs.toArray e)) (some ⟨w.heap.size, 0, none⟩) cs := fun _ =>
  ⟨w.heap.size, 0, rfl, by simp, fun j u hu => by rw [World.cell?_alloc_at _ _ _ _ rfl]; simpa using hu⟩

/-- The zero value of an element type of one cell. -/
def Zero1 (P : Program) (e : TypeId) (z : Value) (bytes : Nat) : Prop := (P.info? e).map (fun i => (i.zero, i.size, i.bytes)) = some (some z, 1, bytes)

/-- 'make([]T, n)', the elements of one cell each. -/
theorem wpList_make1 {P : Program} {ops : Array Oper} {rest : List Oper} {o : Oper} {a : Act} {Q : Exit → Act → World → Prop} (w : World)
    (hg : o.guard = none) (l c : Operand) (t : TypeId) (hop : o.op = Op.makeSlice t l c) (e : TypeId) (z : Value) (bytes : Nat) (T : Zero1 P e z bytes) (hz1 : z.cells = #[z]) (ht : P.underlying t = some (.slice e))
    (n : Nat) (hl : a.eval l = .int .i64 n) (hc : a.eval c = .int .i64 n) (b2 : bytes * n ≤ 281474976710656) (b3 : n ≤ 9223372036854775807)
    (hK : ∀ w', w'.ownsRow w.heap.size e 1 (.slice (some ⟨w.heap.size, 0, none⟩) n n) n (List.replicate n z) → w.grownBy w' none → wpList P ops Q rest (a.put o.dst (.slice (some ⟨w.heap.size, 0, none⟩) n n)) w') :
    wpList P ops Q (o :: rest) a w := by
  obtain ⟨i, hi, hz, hs, hb⟩ := info_parts T
  refine wpList_make_full w hg l c t hop w.heap.size e i z 1 ht hi hz hs _ _ _ _ n hl hc rfl rfl (by rw [hb]; exact b2) (by unfold maxLen; omega) (Nat.le_refl _) ?_
  rw [hz1, Nat.mul_one, toList_madeCells_one]
  exact hK

end Go.Proofs.Ytfbacopjookplaa
