/- The owners' object in memory: which moves are whose. No walk stands here. -/
import Derived.Test.YtfbacopjookplaaCallsPure
import Derived.Test.YtfbacopjookplaaMaps
import Derived.Test.YtfbacopjookplaaProg
import Derived.Test.YtfbacopjookplaaFirst
namespace Go.Proofs.Ytfbacopjookplaa
open Go.RowKit

def begF (l : List Cl) (m : Int) : Option Int := ((l.filter (fun x => decide (x.bg = m))).getLast?).map Cl.th
def endF (l : List Cl) (m : Int) : Option Int := ((l.filter (fun x => decide (x.en = m ∧ x.en ≠ -1))).getLast?).map Cl.th
def rowF (l : List Cl) (t : Nat) : List Cl := l.filter (fun x => decide (x.th = (t : Int)))

theorem begF_snoc (l : List Cl) (x : Cl) (j : Int) : (if j = x.bg then some x.th else begF l j) = begF (l ++ [x]) j := by
  unfold begF
  rw [List.filter_append]
  by_cases h : j = x.bg
  · simp [h]
  · have : ¬ x.bg = j := fun q => h q.symm
    simp [h, this]
theorem endF_snoc (l : List Cl) (x : Cl) (hx : x.en ≠ -1) (j : Int) : (if j = x.en then some x.th else endF l j) = endF (l ++ [x]) j := by
  unfold endF
  rw [List.filter_append]
  by_cases h : j = x.en
  · simp [h, hx]
  · have : ¬ x.en = j := fun q => h q.symm
    simp [h, this]
theorem endF_skip (l : List Cl) (x : Cl) (hx : x.en = -1) (j : Int) : endF l j = endF (l ++ [x]) j := by
  unfold endF
  rw [List.filter_append]
  simp [hx]
theorem rowF_same (l : List Cl) (x : Cl) (t : Nat) (h : x.th = t) : rowF (l ++ [x]) t = rowF l t ++ [x] := by
  unfold rowF
  rw [List.filter_append]
  simp [h]
theorem rowF_other (l : List Cl) (x : Cl) (t : Nat) (h : x.th ≠ t) : rowF (l ++ [x]) t = rowF l t := by
  unfold rowF
  rw [List.filter_append]
  simp [h]
theorem rowF_len (l : List Cl) (t : Nat) : (rowF l t).length ≤ l.length := List.length_filter_le _ _
theorem rowF_last (l : List Cl) (t : Nat) : (rowF l t).getLast? = lastBy l t := rfl
theorem begF_some {l : List Cl} {m t : Int} (h : begF l m = some t) : ∃ (i : Nat) (x : Cl), l[i]? = some x ∧ x.bg = m ∧ x.th = t := by
  unfold begF at h
  obtain ⟨x, hx, rfl⟩ := Option.map_eq_some_iff.1 h
  have hm := List.mem_of_getLast? hx
  rw [List.mem_filter] at hm
  obtain ⟨i, hi⟩ := List.getElem?_of_mem hm.1
  exact ⟨i, x, hi, by simpa using hm.2, rfl⟩
theorem begF_none {l : List Cl} {m : Int} (h : begF l m = none) {i : Nat} {x : Cl} (hx : l[i]? = some x) : x.bg ≠ m := by
  unfold begF at h
  rw [Option.map_eq_none_iff, List.getLast?_eq_none_iff, List.filter_eq_nil_iff] at h
  simpa using h x (List.mem_of_getElem? hx)
theorem endF_some {l : List Cl} {m t : Int} (h : endF l m = some t) : ∃ (i : Nat) (x : Cl), l[i]? = some x ∧ x.en = m ∧ x.en ≠ -1 ∧ x.th = t := by
  unfold endF at h
  obtain ⟨x, hx, rfl⟩ := Option.map_eq_some_iff.1 h
  have hm := List.mem_of_getLast? hx
  rw [List.mem_filter] at hm
  obtain ⟨i, hi⟩ := List.getElem?_of_mem hm.1
  have h2 : x.en = m ∧ x.en ≠ -1 := by simpa using hm.2
  exact ⟨i, x, hi, h2.1, h2.2, rfl⟩
theorem endF_none {l : List Cl} {m : Int} (h : endF l m = none) {i : Nat} {x : Cl} (hx : l[i]? = some x) (he : x.en ≠ -1) : x.en ≠ m := by
  unfold endF at h
  rw [Option.map_eq_none_iff, List.getLast?_eq_none_iff, List.filter_eq_nil_iff] at h
  have := h x (List.mem_of_getElem? hx)
  intro e
  exact this (by simp only [decide_eq_true_eq]; exact ⟨e, he⟩)

theorem own_map {w : World} {B b : Nat} {v : Value} {e : TypeId} {size n : Nat} {us : List Value} {f : Int → Option Int} (h : w.ownsRow B e size v n us) (m : IMap w b f) : v.ownBlock ≠ some b := by
  intro e'
  obtain ⟨es, cl, hb, _⟩ := m
  rcases h.2 with ⟨rfl, _⟩ | ⟨g, cap, cur, rfl, _, hg, _⟩
  · cases e'
  · injection e' with e'
    subst e'
    rw [hb] at hg
    cases hg
theorem map_blk {w : World} {b H : Nat} {f : Int → Option Int} {cs : Array Value} {t : TypeId} (m : IMap w b f) (h : w.heap[H]? = some (.cells cs t (0, 0))) : H ≠ b := by
  intro e
  obtain ⟨es, cl, hb, _⟩ := m
  rw [e, hb] at h
  cases h

/-- The owners' object: its struct at g, the maps at gb and ge, the threads' calls at gc, the threads' places at ga. -/
structure Owners (w : World) (B g gb ge gc ga T : Nat) (pb pe pr : List Cl) (vs : List Value) (cur : List Int) : Prop where
  blk : w.heap[g]? = some (.cells #[.map (some gb), .map (some ge), .slice (some ⟨gc, 0, none⟩) T T, .slice (some ⟨ga, 0, none⟩) T T] 132 (0, 0))
  begs : IMap w gb (begF pb)
  ends : IMap w ge (endF pe)
  tab : w.ownsRow B 44 1 (.slice (some ⟨gc, 0, none⟩) T T) T vs
  rows : ∀ t, t < T → ∃ v, vs[t]? = some v ∧ w.ownsRow B 150 9 v (rowF pr t).length ((rowF pr t).flatMap Cl.enc)
  apart : ∀ (t t' : Nat) (v v' : Value) (q : Nat), t ≠ t' → vs[t]? = some v → vs[t']? = some v' → v.ownBlock = some q → v'.ownBlock ≠ some q
  curs : w.ownsRow B 3 1 (.slice (some ⟨ga, 0, none⟩) T T) T (cur.map (Value.int .i64))
  ne : gb ≠ ge
  low : B ≤ g ∧ B ≤ gb ∧ B ≤ ge
/-- The object's blocks. -/
def Mine (g gb ge gc ga : Nat) (vs : List Value) (q : Nat) : Prop := q = g ∨ q = gb ∨ q = ge ∨ q = gc ∨ q = ga ∨ ∃ (t : Nat) (v : Value), vs[t]? = some v ∧ v.ownBlock = some q

section
variable {w : World} {B g gb ge gc ga T : Nat} {pb pe pr : List Cl} {vs : List Value} {cur : List Int}
theorem Owners.len (h : Owners w B g gb ge gc ga T pb pe pr vs cur) : vs.length = T ∧ cur.length = T := by
  have h1 := h.tab.1
  have h2 := h.curs.1
  simp at h1 h2
  exact ⟨h1, h2⟩
theorem Owners.only (h : Owners w B g gb ge gc ga T pb pe pr vs cur) {w' : World} {X : Nat → Prop} (o : Only X w w') (hx : ∀ q, Mine g gb ge gc ga vs q → ¬ X q) : Owners w' B g gb ge gc ga T pb pe pr vs cur := by
  refine ⟨(o.block g (blk_lt h.blk) (hx g (.inl rfl))).trans h.blk, h.begs.only o (hx gb (.inr (.inl rfl))), h.ends.only o (hx ge (.inr (.inr (.inl rfl)))), own_only h.tab o ?_, fun t ht => ?_, h.apart, own_only h.curs o ?_, h.ne, h.low⟩
  · intro q hq
    injection hq with hq
    exact hx q (.inr (.inr (.inr (.inl hq.symm))))
  · obtain ⟨v, hv, ho⟩ := h.rows t ht
    exact ⟨v, hv, own_only ho o fun q hq => hx q (.inr (.inr (.inr (.inr (.inr ⟨t, v, hv, hq⟩)))))⟩
  · intro q hq
    injection hq with hq
    exact hx q (.inr (.inr (.inr (.inr (.inl hq.symm)))))
theorem Owners.ext (h : Owners w B g gb ge gc ga T pb pe pr vs cur) {w' : World} (e : Ext w w') : Owners w' B g gb ge gc ga T pb pe pr vs cur :=
  h.only (X := fun _ => False) (Only.of_ext e) fun _ _ f => f
theorem Owners.lt (h : Owners w B g gb ge gc ga T pb pe pr vs cur) {q : Nat} (hq : Mine g gb ge gc ga vs q) : B ≤ q ∧ q < w.heap.size := by
  rcases hq with rfl | rfl | rfl | rfl | rfl | ⟨t, v, hv, hq⟩
  · exact ⟨h.low.1, blk_lt h.blk⟩
  · exact ⟨h.low.2.1, h.begs.lt⟩
  · exact ⟨h.low.2.2, h.ends.lt⟩
  · exact h.tab.lt _ rfl
  · exact h.curs.lt _ rfl
  · have ht : t < T := by rw [← h.len.1]; exact (List.getElem?_eq_some_iff.1 hv).1
    obtain ⟨v', hv', ho⟩ := h.rows t ht
    rw [hv] at hv'
    injection hv' with hv'
    subst hv'
    exact ho.lt q hq
theorem Owners.base (h : Owners w B g gb ge gc ga T pb pe pr vs cur) {B' : Nat} (hb : B' ≤ B) : Owners w B' g gb ge gc ga T pb pe pr vs cur := by
  have hl := h.low
  refine ⟨h.blk, h.begs, h.ends, own_base h.tab hb, fun t ht => ?_, h.apart, own_base h.curs hb, h.ne, by omega⟩
  obtain ⟨v, hv, ho⟩ := h.rows t ht
  exact ⟨v, hv, own_base ho hb⟩
/-- What lies apart. -/
theorem Owners.nes (h : Owners w B g gb ge gc ga T pb pe pr vs cur) : g ≠ gb ∧ g ≠ ge ∧ g ≠ gc ∧ g ≠ ga ∧ gb ≠ gc ∧ gb ≠ ga ∧ ge ≠ gc ∧ ge ≠ ga ∧ gc ≠ ga :=
  ⟨map_blk h.begs h.blk, map_blk h.ends h.blk, fun e => own_apart h.tab h.blk (by decide) (by rw [e]; rfl), fun e => own_apart h.curs h.blk (by decide) (by rw [e]; rfl),
    fun e => own_map h.tab h.begs (by rw [e]; rfl), fun e => own_map h.curs h.begs (by rw [e]; rfl), fun e => own_map h.tab h.ends (by rw [e]; rfl), fun e => own_map h.curs h.ends (by rw [e]; rfl),
    fun e => own_two h.tab h.curs (by decide) gc rfl (by rw [e]; rfl)⟩
theorem Owners.row_ne (h : Owners w B g gb ge gc ga T pb pe pr vs cur) {t q : Nat} {v : Value} (hv : vs[t]? = some v) (hq : v.ownBlock = some q) : q ≠ g ∧ q ≠ gb ∧ q ≠ ge ∧ q ≠ gc ∧ q ≠ ga := by
  have ht : t < T := by rw [← h.len.1]; exact (List.getElem?_eq_some_iff.1 hv).1
  obtain ⟨v', hv', ho⟩ := h.rows t ht
  rw [hv] at hv'
  injection hv' with hv'
  subst hv'
  exact ⟨fun e => own_apart ho h.blk (by decide) (by rw [hq, e]), fun e => own_map ho h.begs (by rw [hq, e]), fun e => own_map ho h.ends (by rw [hq, e]), fun e => own_two ho h.tab (by decide) q hq (by rw [e]; rfl), fun e => own_two ho h.curs (by decide) q hq (by rw [e]; rfl)⟩
/-- A thread's place is set. -/
theorem Owners.set_at (h : Owners w B g gb ge gc ga T pb pe pr vs cur) (j : Nat) (x : Int) : Owners (w.setCell ⟨ga, j, none⟩ (.int .i64 x)) B g gb ge gc ga T pb pe pr vs (cur.set j x) := by
  obtain ⟨n1, n2, n3, n4, n5, n6, n7, n8, n9⟩ := h.nes
  have o : Only (fun q => q = ga) w (w.setCell ⟨ga, j, none⟩ (.int .i64 x)) := (Only.refl _ _).setCell _ _ fun _ => rfl
  have hc := (h.curs.stored j (.int .i64 x)).1
  rw [← List.map_set] at hc
  refine ⟨(o.block g (blk_lt h.blk) n4).trans h.blk, h.begs.only o n6, h.ends.only o n8, own_only h.tab o ?_, fun t ht => ?_, h.apart, hc, h.ne, h.low⟩
  · intro q hq
    injection hq with hq
    subst hq
    exact n9
  · obtain ⟨v, hv, ho⟩ := h.rows t ht
    exact ⟨v, hv, own_only ho o fun q hq => (h.row_ne hv hq).2.2.2.2⟩
/-- A beginning is entered. -/
theorem Owners.put_begin (h : Owners w B g gb ge gc ga T pb pe pr vs cur) (x : Cl) {w' : World} (hm : IMap w' gb (fun j => if j = x.bg then some x.th else begF pb j)) (o : Only (fun q => q = gb) w w') : Owners w' B g gb ge gc ga T (pb ++ [x]) pe pr vs cur := by
  obtain ⟨n1, n2, n3, n4, n5, n6, n7, n8, n9⟩ := h.nes
  refine ⟨(o.block g (blk_lt h.blk) n1).trans h.blk, hm.same (begF_snoc pb x), h.ends.only o h.ne.symm, own_only h.tab o ?_, fun t ht => ?_, h.apart, own_only h.curs o ?_, h.ne, h.low⟩
  · intro q hq
    injection hq with hq
    subst hq
    exact n5.symm
  · obtain ⟨v, hv, ho⟩ := h.rows t ht
    exact ⟨v, hv, own_only ho o fun q hq => (h.row_ne hv hq).2.1⟩
  · intro q hq
    injection hq with hq
    subst hq
    exact n6.symm
/-- An end is entered. -/
theorem Owners.put_end (h : Owners w B g gb ge gc ga T pb pe pr vs cur) (x : Cl) (hx : x.en ≠ -1) {w' : World} (hm : IMap w' ge (fun j => if j = x.en then some x.th else endF pe j)) (o : Only (fun q => q = ge) w w') : Owners w' B g gb ge gc ga T pb (pe ++ [x]) pr vs cur := by
  obtain ⟨n1, n2, n3, n4, n5, n6, n7, n8, n9⟩ := h.nes
  refine ⟨(o.block g (blk_lt h.blk) n2).trans h.blk, h.begs.only o h.ne, hm.same (endF_snoc pe x hx), own_only h.tab o ?_, fun t ht => ?_, h.apart, own_only h.curs o ?_, h.ne, h.low⟩
  · intro q hq
    injection hq with hq
    subst hq
    exact n7.symm
  · obtain ⟨v, hv, ho⟩ := h.rows t ht
    exact ⟨v, hv, own_only ho o fun q hq => (h.row_ne hv hq).2.2.1⟩
  · intro q hq
    injection hq with hq
    subst hq
    exact n8.symm
theorem Owners.skip_end (h : Owners w B g gb ge gc ga T pb pe pr vs cur) (x : Cl) (hx : x.en = -1) : Owners w B g gb ge gc ga T pb (pe ++ [x]) pr vs cur :=
  ⟨h.blk, h.begs, h.ends.same (endF_skip pe x hx), h.tab, h.rows, h.apart, h.curs, h.ne, h.low⟩
/-- A call is appended to its thread's. -/
theorem Owners.push (h : Owners w B g gb ge gc ga T pb pe pr vs cur) {x : Cl} {t : Nat} {v : Value} (hx : x.th = t) (ht : t < T) (hv : vs[t]? = some v) {w5 : World} {v5 : Value}
    (hown5 : w5.ownsRow B 150 9 v5 ((rowF pr t).length + 1) ((rowF pr t).flatMap Cl.enc ++ x.enc)) (hgrow5 : w.grownBy w5 v.ownBlock) (hat5 : v5.ownBlock = v.ownBlock ∨ v5.ownBlock = some (w.heap.size + 1)) :
    Owners (w5.setCell ⟨gc, t, none⟩ v5) B g gb ge gc ga T pb pe (pr ++ [x]) (vs.set t v5) cur ∧ Only (fun q => q = gc ∨ v.ownBlock = some q) w (w5.setCell ⟨gc, t, none⟩ v5) := by
  obtain ⟨n1, n2, n3, n4, n5, n6, n7, n8, n9⟩ := h.nes
  have o1 : Only (fun q => v.ownBlock = some q) w w5 := (Only.of_grown hgrow5).mono fun q _ hq => hq.symm
  have hlen := h.len.1
  have hne := fun q hq => h.row_ne (q := q) hv hq
  have k1 : w5.heap[g]? = _ := (o1.block g (blk_lt h.blk) fun hq => (hne g hq).1 rfl).trans h.blk
  have k2 := h.begs.only o1 fun hq => (hne gb hq).2.1 rfl
  have k3 := h.ends.only o1 fun hq => (hne ge hq).2.2.1 rfl
  have k4 : w5.ownsRow B 44 1 (.slice (some ⟨gc, 0, none⟩) T T) T vs := own_only h.tab o1 fun q hq hs => by
    injection hq with hq
    exact (hne q hs).2.2.2.1 hq.symm
  have k5 : w5.ownsRow B 3 1 (.slice (some ⟨ga, 0, none⟩) T T) T (cur.map (Value.int .i64)) := own_only h.curs o1 fun q hq hs => by
    injection hq with hq
    exact (hne q hs).2.2.2.2 hq.symm
  have o2 : Only (fun q => q = gc) w5 (w5.setCell ⟨gc, t, none⟩ v5) := (Only.refl _ _).setCell _ _ fun _ => rfl
  refine ⟨⟨(o2.block g (blk_lt k1) n3).trans k1, k2.only o2 n5, k3.only o2 n7, (k4.stored t v5).1, fun s hs => ?_, fun s s' u u' q hss hu hu' hq => ?_, own_only k5 o2 ?_, h.ne, h.low⟩, o1.mono (fun q _ hq => .inr hq) |>.trans o2 fun q _ hq => .inl hq⟩
  · by_cases hst : s = t
    · subst hst
      refine ⟨v5, by rw [List.getElem?_set_self (by omega)], ?_⟩
      rw [rowF_same pr x s hx]
      refine own_only (v := v5) ?_ o2 fun q hq hs => own_two hown5 k4 (by decide) q hq (by rw [hs]; rfl)
      rw [List.length_append, List.flatMap_append]
      simpa using hown5
    · obtain ⟨u, hu, ho⟩ := h.rows s hs
      refine ⟨u, by rw [List.getElem?_set_ne (Ne.symm hst)]; exact hu, ?_⟩
      rw [rowF_other pr x s (by omega)]
      have ho1 := own_only ho o1 fun q hq hs => h.apart s t u v q hst hu hv hq hs
      exact own_only ho1 o2 fun q hq hs => own_two ho1 k4 (by decide) q hq (by rw [hs]; rfl)
  · have hold : ∀ (s : Nat) (u : Value), s ≠ t → vs[s]? = some u → ∀ q, u.ownBlock = some q → v5.ownBlock ≠ some q := by
      intro s u hst hu q hq hq5
      rcases hat5 with e | e
      · exact h.apart s t u v q hst hu hv hq (e.symm.trans hq5)
      · have := (h.lt (.inr (.inr (.inr (.inr (.inr ⟨s, u, hu, hq⟩)))))).2
        rw [e] at hq5
        injection hq5 with hq5
        omega
    by_cases hst : s = t
    · subst hst
      rw [List.getElem?_set_self (by omega)] at hu
      injection hu with hu
      subst hu
      rw [List.getElem?_set_ne hss] at hu'
      intro hq'
      exact hold s' u' (Ne.symm hss) hu' q hq' hq
    · rw [List.getElem?_set_ne (Ne.symm hst)] at hu
      by_cases hst' : s' = t
      · subst hst'
        rw [List.getElem?_set_self (by omega)] at hu'
        injection hu' with hu'
        subst hu'
        exact hold s u hst hu q hq
      · rw [List.getElem?_set_ne (Ne.symm hst')] at hu'
        exact h.apart s s' u u' q hss hu hu' hq
  · intro q hq
    injection hq with hq
    subst hq
    exact n9.symm
/-- The object's cells in every later world. -/
theorem Owners.lat (h : Owners w B g gb ge gc ga T pb pe pr vs cur) :
    (∀ c : Lat w, c.world.cell? ⟨g, 0, none⟩ = some (.map (some gb))) ∧ (∀ c : Lat w, c.world.cell? ⟨g, 1, none⟩ = some (.map (some ge))) ∧ (∀ c : Lat w, c.world.cell? ⟨g, 2, none⟩ = some (.slice (some ⟨gc, 0, none⟩) T T)) ∧
    (∀ c : Lat w, c.world.cell? ⟨g, 3, none⟩ = some (.slice (some ⟨ga, 0, none⟩) T T)) := ⟨Lat.cells h.blk rfl, Lat.cells h.blk rfl, Lat.cells h.blk rfl, Lat.cells h.blk rfl⟩
/-- A thread's calls in every later world. -/
theorem Owners.row_lat (h : Owners w B g gb ge gc ga T pb pe pr vs cur) {t : Nat} (ht : t < T) :
    ∃ A c, vs[t]? = some (.slice A (rowF pr t).length c) ∧ Arr Cl.enc w A (rowF pr t).length (rowF pr t) ∧ w.ownsRow B 150 9 (.slice A (rowF pr t).length c) (rowF pr t).length ((rowF pr t).flatMap Cl.enc) ∧
      ∀ k : Lat w, k.world.cell? ⟨gc, t, none⟩ = some (.slice A (rowF pr t).length c) := by
  obtain ⟨v, hv, ho⟩ := h.rows t ht
  obtain ⟨A, c, rfl⟩ := own_form ho
  exact ⟨A, c, hv, ⟨rfl, Rd.of_own ho⟩, ho, fun k => ((own_ext h.tab k.ok).cellAt t (by omega)).trans hv⟩
end

theorem own_made {w : World} {B g n : Nat} {e : TypeId} {z : Value} (h : w.heap[g]? = some (.cells (repl n z) e (0, 0))) (hB : B ≤ g) (hn : n ≤ 9223372036854775807) : w.ownsRow B e 1 (.slice (some ⟨g, 0, none⟩) n n) n (List.replicate n z) :=
  ⟨by simp, .inr ⟨g, n, repl n z, rfl, hB, h, Nat.le_refl _, hn, by simp [repl], by simp [repl]⟩⟩
/-- The object as it is made. -/
theorem Owners.made {w : World} {B g gb ge gc ga T : Nat} (hT : T ≤ 1024) (h0 : w.heap[g]? = some (.cells #[.map (some gb), .map (some ge), .slice (some ⟨gc, 0, none⟩) T T, .slice (some ⟨ga, 0, none⟩) T T] 132 (0, 0)))
    (h1 : w.heap[gb]? = some (.map #[] 0)) (h2 : w.heap[ge]? = some (.map #[] 0)) (h3 : w.heap[gc]? = some (.cells (repl T (.slice none 0 0)) 44 (0, 0))) (h4 : w.heap[ga]? = some (.cells (repl T (.int .i64 0)) 3 (0, 0)))
    (hne : gb ≠ ge) (hl : B ≤ g ∧ B ≤ gb ∧ B ≤ ge ∧ B ≤ gc ∧ B ≤ ga) : Owners w B g gb ge gc ga T [] [] [] (List.replicate T (.slice none 0 0)) (List.replicate T 0) := by
  have hm : ∀ b, w.heap[b]? = some (.map #[] 0) → IMap w b (fun _ => none) := fun b hb => ⟨#[], 0, hb, MapKept.stamped_empty 0, fun x hx => by simp at hx, fun k v h => by cases h⟩
  refine ⟨h0, hm gb h1, hm ge h2, own_made h3 hl.2.2.2.1 (by omega), fun t ht => ⟨.slice none 0 0, by simp [ht], World.ownsRow_nil _ _ _ _⟩, fun t t' v v' q _ hv _ hq => ?_, ?_, hne, ⟨hl.1, hl.2.1, hl.2.2.1⟩⟩
  · rw [List.getElem?_replicate] at hv
    split at hv
    · injection hv with hv
      subst hv
      cases hq
    · cases hv
  · have := own_made h4 hl.2.2.2.2 (by omega)
    simpa using this

end Go.Proofs.Ytfbacopjookplaa
