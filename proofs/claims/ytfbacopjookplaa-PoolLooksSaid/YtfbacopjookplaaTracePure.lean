/- When a run's accesses go together with the words, by plain lists. No program stands here. -/
import Derived.Test.YtfbacopjookplaaCallsPure
import Derived.Test.YtfbacopjookplaaPlaces
namespace Go.Proofs.Ytfbacopjookplaa
open Go.RowKit

/-- What an access does to the words; none: it doesn't go together with them. -/
def stepW (ws : List Int) (a : Ac) : Option (List Int) :=
  if 0 ≤ a.ad ∧ a.ad < ws.length then
    if a.kd = 1 then (if a.od = 0 ∧ a.nw = 0 ∧ a.sw = ws.getD a.ad.toNat 0 then some ws else none)
    else if a.kd = 2 then (if a.od = 0 ∧ a.sw = 0 then some (ws.set a.ad.toNat a.nw) else none)
    else if a.kd = 3 then (if a.sw = ws.getD a.ad.toNat 0 then some (if a.sw = a.od then ws.set a.ad.toNat a.nw else ws) else none)
    else none
  else none
/-- The words behind accesses, one behind the other, behind a move p; none: they don't go together. -/
def traceF (l : List Cl) : Int → List Int → List Ac → Option (List Int)
  | _, ws, [] => some ws
  | p, ws, a :: r => if p < a.mv ∧ placeB l a.th a.mv = true then (stepW ws a).bind (fun ws' => traceF l a.mv ws' r) else none

theorem stepW_len {ws ws' : List Int} {a : Ac} (h : stepW ws a = some ws') : ws'.length = ws.length := by
  unfold stepW at h
  repeat' split at h
  all_goals
    first
      | cases h; done
      | (injection h with h; subst h; first | rfl | (split <;> simp) | simp)
theorem traceF_step {l : List Cl} {p : Int} {ws : List Int} {tr : List Ac} {i : Nat} {a : Ac} (ha : tr[i]? = some a) :
    traceF l p ws (tr.drop i) = if p < a.mv ∧ placeB l a.th a.mv = true then (stepW ws a).bind (fun ws' => traceF l a.mv ws' (tr.drop (i + 1))) else none := by
  rw [drop_cons ha, traceF]
theorem place_pos {T : Int} {l : List Cl} {t m : Int} (hA : CallsA T (-1) l) (h : placeB l t m = true) : 0 < m ∧ 0 ≤ t ∧ t < T := by
  unfold placeB at h
  simp only [Bool.and_eq_true] at h
  obtain ⟨x, hx, hh⟩ := List.any_eq_true.1 h.1.2
  obtain ⟨i, hi⟩ := List.getElem?_of_mem hx
  have := callsA_all hA i x hi
  unfold OkCall at this
  simp [Cl.holds] at hh
  omega
/-- The move ahead of a place in the trace. -/
def prevMv (tr : List Ac) : Nat → Int
  | 0 => -1
  | i + 1 => match tr[i]? with
    | some x => x.mv
    | none => -1
theorem prevMv_succ {tr : List Ac} {i : Nat} {a : Ac} (h : tr[i]? = some a) : prevMv tr (i + 1) = a.mv := by simp only [prevMv, h]

/-- A run in memory: four slices. -/
structure RunMem (w : World) (A1 : Option Addr) (n1 : Nat) (A2 : Option Addr) (n2 : Nat) (A3 : Option Addr) (n3 : Nat) (A4 : Option Addr) (n4 : Nat) (cs : List Cl) (tr : List Ac) (sh : List Sh) (rw : List Int) : Prop where
  calls : Arr Cl.enc w A1 n1 cs
  trace : Arr Ac.enc w A2 n2 tr
  shifts : Arr Sh.enc w A3 n3 sh
  words : Rd w A4 (rw.map (Value.int .u64))
  wlen : rw.length = n4
  big1 : n1 ≤ 140737488355328
  big2 : n2 ≤ 140737488355328
  big3 : n3 ≤ 140737488355328
  big4 : n4 ≤ 140737488355328
  wide : ∀ a ∈ tr, (0 ≤ a.od ∧ a.od ≤ 18446744073709551615) ∧ (0 ≤ a.nw ∧ a.nw ≤ 18446744073709551615) ∧ (0 ≤ a.sw ∧ a.sw ≤ 18446744073709551615)
theorem RunMem.ext {w w' : World} {A1 A2 A3 A4 : Option Addr} {n1 n2 n3 n4 : Nat} {cs : List Cl} {tr : List Ac} {sh : List Sh} {rw : List Int} (h : RunMem w A1 n1 A2 n2 A3 n3 A4 n4 cs tr sh rw) (e : Ext w w') : RunMem w' A1 n1 A2 n2 A3 n3 A4 n4 cs tr sh rw :=
  ⟨h.calls.ext e, h.trace.ext e, h.shifts.ext e, h.words.ext e, h.wlen, h.big1, h.big2, h.big3, h.big4, h.wide⟩
theorem Lat.run {w0 : World} {b : Nat} {t : TypeId} {v1 v2 v3 v4 : Value} (h : w0.heap[b]? = some (.cells #[v1, v2, v3, v4] t (0, 0))) :
    (∀ c : Lat w0, c.world.cell? ⟨b, 0, none⟩ = some v1) ∧ (∀ c : Lat w0, c.world.cell? ⟨b, 1, none⟩ = some v2) ∧ (∀ c : Lat w0, c.world.cell? ⟨b, 2, none⟩ = some v3) ∧ (∀ c : Lat w0, c.world.cell? ⟨b, 3, none⟩ = some v4) :=
  ⟨Lat.cells h rfl, Lat.cells h rfl, Lat.cells h rfl, Lat.cells h rfl⟩
theorem Ac.boxed {w0 : World} {b : Nat} {t : TypeId} {x : Ac} (h : w0.heap[b]? = some (.cells #[.int .i64 x.mv, .int .i64 x.th, .int .i64 x.kd, .int .i64 x.ad, .int .u64 x.od, .int .u64 x.nw, .int .u64 x.sw] t (0, 0))) :
    (∀ c : Lat w0, c.world.cell? ⟨b, 0, none⟩ = some (.int .i64 x.mv)) ∧ (∀ c : Lat w0, c.world.cell? ⟨b, 1, none⟩ = some (.int .i64 x.th)) ∧ (∀ c : Lat w0, c.world.cell? ⟨b, 2, none⟩ = some (.int .i64 x.kd)) ∧ (∀ c : Lat w0, c.world.cell? ⟨b, 3, none⟩ = some (.int .i64 x.ad)) ∧
    (∀ c : Lat w0, c.world.cell? ⟨b, 4, none⟩ = some (.int .u64 x.od)) ∧ (∀ c : Lat w0, c.world.cell? ⟨b, 5, none⟩ = some (.int .u64 x.nw)) ∧ (∀ c : Lat w0, c.world.cell? ⟨b, 6, none⟩ = some (.int .u64 x.sw)) :=
  ⟨Lat.cells h rfl, Lat.cells h rfl, Lat.cells h rfl, Lat.cells h rfl, Lat.cells h rfl, Lat.cells h rfl, Lat.cells h rfl⟩

end Go.Proofs.Ytfbacopjookplaa
