/- A run's parts as plain lists, and how slices of structs lie in memory. No program stands here. -/
import Derived.Test.YtfbacopjookplaaCls
namespace Go.Proofs.Ytfbacopjookplaa
open Go.RowKit

/-- A call of a run. -/
structure Cl where
  th : Int
  op : Int
  arg : Int
  dat : Int
  bg : Int
  en : Int
  pt : Int
  ak : Int
  av : Int
/-- An access. -/
structure Ac where
  mv : Int
  th : Int
  kd : Int
  ad : Int
  od : Int
  nw : Int
  sw : Int
/-- A change of state. -/
structure Sh where
  mv : Int
  th : Int
  sl : Int
  fr : Int
  to : Int

def Cl.enc (x : Cl) : List Value := [.int .i64 x.th, .int .i64 x.op, .int .i64 x.arg, .int .i64 x.dat, .int .i64 x.bg, .int .i64 x.en, .int .i64 x.pt, .int .i64 x.ak, .int .i64 x.av]
def Ac.enc (x : Ac) : List Value := [.int .i64 x.mv, .int .i64 x.th, .int .i64 x.kd, .int .i64 x.ad, .int .u64 x.od, .int .u64 x.nw, .int .u64 x.sw]
def Sh.enc (x : Sh) : List Value := [.int .i64 x.mv, .int .i64 x.th, .int .i64 x.sl, .int .i64 x.fr, .int .i64 x.to]

section
variable {α : Type} (enc : α → List Value) (size : Nat)
/-- The slice with pointer A reads as the elements xs, each of so many cells. -/
def Arr (w : World) (A : Option Addr) (n : Nat) (xs : List α) : Prop := xs.length = n ∧ Rd w A (xs.flatMap enc)

theorem flat_get (hs : ∀ x, (enc x).length = size) {xs : List α} {i k : Nat} {x : α} {u : Value} (hx : xs[i]? = some x) (hu : (enc x)[k]? = some u) : (xs.flatMap enc)[i * size + k]? = some u := by
  induction xs generalizing i with
  | nil => simp at hx
  | cons y ys ih =>
    have hk : k < size := by rw [← hs x]; exact (List.getElem?_eq_some_iff.1 hu).1
    rw [List.flatMap_cons]
    cases i with
    | zero =>
      simp only [List.getElem?_cons_zero, Option.some.injEq] at hx
      subst hx
      rw [Nat.zero_mul, Nat.zero_add, List.getElem?_append_left (by rw [hs]; exact hk)]
      exact hu
    | succ i =>
      rw [List.getElem?_append_right (by rw [hs, Nat.succ_mul]; omega), hs, Nat.succ_mul]
      have := ih (i := i) (by simpa using hx)
      rwa [show i * size + size + k - size = i * size + k from by omega]
theorem flat_len (hs : ∀ x, (enc x).length = size) (xs : List α) : (xs.flatMap enc).length = xs.length * size := by
  induction xs with
  | nil => simp
  | cons y ys ih => rw [List.flatMap_cons, List.length_append, ih, hs, List.length_cons, Nat.succ_mul]; omega
variable {enc size}
theorem Arr.ext {w w' : World} {A : Option Addr} {n : Nat} {xs : List α} (h : Arr enc w A n xs) (e : Ext w w') : Arr enc w' A n xs := ⟨h.1, h.2.ext e⟩
/-- An element's cells, in every later world. -/
theorem Arr.lat (hs : ∀ x, (enc x).length = size) {w : World} {A : Option Addr} {n : Nat} {xs : List α} (h : Arr enc w A n xs) {i : Nat} (hi : i < n) (h0 : 0 < size) :
    ∃ b off x, A = some ⟨b, off, none⟩ ∧ b < w.heap.size ∧ Hid (xs[i]? = some x) ∧ Hid (∀ (k : Nat) (u : Value), (enc x)[k]? = some u → ∀ c : Lat w, c.world.cell? ⟨b, off + i * size + k, none⟩ = some u) := by
  have hl : i < xs.length := by rw [h.1]; exact hi
  obtain ⟨x, hx⟩ : ∃ x, xs[i]? = some x := ⟨_, List.getElem?_eq_getElem hl⟩
  have hne : xs.flatMap enc ≠ [] := by
    intro e
    have := flat_len enc size hs xs
    rw [e] at this
    have h2 := Nat.mul_pos (show 0 < xs.length by omega) h0
    rw [← this] at h2
    simp at h2
  obtain ⟨b, off, hA, hb, _⟩ := h.2 hne
  refine ⟨b, off, x, hA, hb, hx, fun k u hu c => ?_⟩
  obtain ⟨b', off', hA', _, hc⟩ := (h.2.ext c.ok) hne
  rw [hA] at hA'
  injection hA' with hA'
  injection hA' with h1 h2
  subst h1 h2
  have := hc _ u (flat_get enc size hs hx hu)
  rwa [← Nat.add_assoc] at this
end

theorem Cl.size (x : Cl) : x.enc.length = 9 := rfl
theorem Ac.size (x : Ac) : x.enc.length = 7 := rfl
theorem Sh.size (x : Sh) : x.enc.length = 5 := rfl

/-- The cells of a call, an access, a shift in a slice. -/
theorem Cl.at_ {w : World} {A : Option Addr} {n : Nat} {xs : List Cl} (h : Arr Cl.enc w A n xs) {i : Nat} (hi : i < n) :
    ∃ b off x, A = some ⟨b, off, none⟩ ∧ b < w.heap.size ∧ Hid (xs[i]? = some x) ∧
      (∀ c : Lat w, c.world.cell? ⟨b, off + i * 9, none⟩ = some (.int .i64 x.th)) ∧ (∀ c : Lat w, c.world.cell? ⟨b, off + i * 9 + 1, none⟩ = some (.int .i64 x.op)) ∧ (∀ c : Lat w, c.world.cell? ⟨b, off + i * 9 + 2, none⟩ = some (.int .i64 x.arg)) ∧
      (∀ c : Lat w, c.world.cell? ⟨b, off + i * 9 + 3, none⟩ = some (.int .i64 x.dat)) ∧ (∀ c : Lat w, c.world.cell? ⟨b, off + i * 9 + 4, none⟩ = some (.int .i64 x.bg)) ∧ (∀ c : Lat w, c.world.cell? ⟨b, off + i * 9 + 5, none⟩ = some (.int .i64 x.en)) ∧
      (∀ c : Lat w, c.world.cell? ⟨b, off + i * 9 + 6, none⟩ = some (.int .i64 x.pt)) ∧ (∀ c : Lat w, c.world.cell? ⟨b, off + i * 9 + 7, none⟩ = some (.int .i64 x.ak)) ∧ (∀ c : Lat w, c.world.cell? ⟨b, off + i * 9 + 8, none⟩ = some (.int .i64 x.av)) := by
  obtain ⟨b, off, x, hA, hb, hx, hc⟩ := h.lat Cl.size hi (by omega)
  exact ⟨b, off, x, hA, hb, hx, hc.out 0 _ rfl, hc.out 1 _ rfl, hc.out 2 _ rfl, hc.out 3 _ rfl, hc.out 4 _ rfl, hc.out 5 _ rfl, hc.out 6 _ rfl, hc.out 7 _ rfl, hc.out 8 _ rfl⟩
theorem Ac.at_ {w : World} {A : Option Addr} {n : Nat} {xs : List Ac} (h : Arr Ac.enc w A n xs) {i : Nat} (hi : i < n) :
    ∃ b off x, A = some ⟨b, off, none⟩ ∧ b < w.heap.size ∧ Hid (xs[i]? = some x) ∧
      (∀ c : Lat w, c.world.cell? ⟨b, off + i * 7, none⟩ = some (.int .i64 x.mv)) ∧ (∀ c : Lat w, c.world.cell? ⟨b, off + i * 7 + 1, none⟩ = some (.int .i64 x.th)) ∧ (∀ c : Lat w, c.world.cell? ⟨b, off + i * 7 + 2, none⟩ = some (.int .i64 x.kd)) ∧
      (∀ c : Lat w, c.world.cell? ⟨b, off + i * 7 + 3, none⟩ = some (.int .i64 x.ad)) ∧ (∀ c : Lat w, c.world.cell? ⟨b, off + i * 7 + 4, none⟩ = some (.int .u64 x.od)) ∧ (∀ c : Lat w, c.world.cell? ⟨b, off + i * 7 + 5, none⟩ = some (.int .u64 x.nw)) ∧
      (∀ c : Lat w, c.world.cell? ⟨b, off + i * 7 + 6, none⟩ = some (.int .u64 x.sw)) := by
  obtain ⟨b, off, x, hA, hb, hx, hc⟩ := h.lat Ac.size hi (by omega)
  exact ⟨b, off, x, hA, hb, hx, hc.out 0 _ rfl, hc.out 1 _ rfl, hc.out 2 _ rfl, hc.out 3 _ rfl, hc.out 4 _ rfl, hc.out 5 _ rfl, hc.out 6 _ rfl⟩
theorem Sh.at_ {w : World} {A : Option Addr} {n : Nat} {xs : List Sh} (h : Arr Sh.enc w A n xs) {i : Nat} (hi : i < n) :
    ∃ b off x, A = some ⟨b, off, none⟩ ∧ b < w.heap.size ∧ Hid (xs[i]? = some x) ∧
      (∀ c : Lat w, c.world.cell? ⟨b, off + i * 5, none⟩ = some (.int .i64 x.mv)) ∧ (∀ c : Lat w, c.world.cell? ⟨b, off + i * 5 + 1, none⟩ = some (.int .i64 x.th)) ∧ (∀ c : Lat w, c.world.cell? ⟨b, off + i * 5 + 2, none⟩ = some (.int .i64 x.sl)) ∧
      (∀ c : Lat w, c.world.cell? ⟨b, off + i * 5 + 3, none⟩ = some (.int .i64 x.fr)) ∧ (∀ c : Lat w, c.world.cell? ⟨b, off + i * 5 + 4, none⟩ = some (.int .i64 x.to)) := by
  obtain ⟨b, off, x, hA, hb, hx, hc⟩ := h.lat Sh.size hi (by omega)
  exact ⟨b, off, x, hA, hb, hx, hc.out 0 _ rfl, hc.out 1 _ rfl, hc.out 2 _ rfl, hc.out 3 _ rfl, hc.out 4 _ rfl⟩

/-- Looking along a list: nothing found so far. -/
theorem any_take {α : Type} {p : α → Bool} {xs : List α} {k : Nat} {x : α} (h : (xs.take k).any p = false) (hx : xs[k]? = some x) (hp : p x = false) : (xs.take (k + 1)).any p = false := by
  rw [List.take_add_one, List.any_append, h, hx]
  simp [hp]
theorem any_found {α : Type} {p : α → Bool} {xs : List α} {k : Nat} {x : α} (hx : xs[k]? = some x) (hp : p x = true) : xs.any p = true :=
  List.any_eq_true.2 ⟨x, List.mem_of_getElem? hx, hp⟩
theorem any_all {α : Type} {p : α → Bool} {xs : List α} {n : Nat} (h : (xs.take n).any p = false) (hl : xs.length = n) : xs.any p = false := by
  rwa [List.take_of_length_le (Nat.le_of_eq hl)] at h
/-- The first one found. -/
theorem find_take {α : Type} {p : α → Bool} {xs : List α} {k : Nat} {x : α} (h : (xs.take k).any p = false) (hx : xs[k]? = some x) (hp : p x = true) : xs.find? p = some x := by
  rw [← List.take_append_drop k xs, List.find?_append]
  have h1 : (xs.take k).find? p = none := List.find?_eq_none.2 fun y hy => by
    have := List.any_eq_false.1 h y hy
    simpa using this
  rw [h1]
  obtain ⟨hl, hg⟩ := List.getElem?_eq_some_iff.1 hx
  rw [List.drop_eq_getElem_cons hl, hg]
  simp [hp]
theorem find_none {α : Type} {p : α → Bool} {xs : List α} {n : Nat} (h : (xs.take n).any p = false) (hl : xs.length = n) : xs.find? p = none := by
  have := any_all h hl
  exact List.find?_eq_none.2 fun y hy => by
    have := List.any_eq_false.1 this y hy
    simpa using this

end Go.Proofs.Ytfbacopjookplaa
