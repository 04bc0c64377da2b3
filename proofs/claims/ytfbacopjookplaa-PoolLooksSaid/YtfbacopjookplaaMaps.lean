/- Maps from ints to ints in memory, as functions: look-ups, stores, what is left alone. No program stands here. -/
import Derived.Test.YtfbacopjookplaaTail
import Derived.MapKept
import Derived.Maps.RangeRun
import Derived.Maps.RangeWalk
namespace Go.Proofs.Ytfbacopjookplaa
open Go.RowKit Go.MapKept
open Go.ChangeMaps (setBlock)

/-- Block b is a map that reads as f. -/
def IMap (w : World) (b : Nat) (f : Int → Option Int) : Prop :=
  ∃ es clock, w.heap[b]? = some (.map es clock) ∧ Stamped es clock ∧ (∀ x ∈ es.toList, ∃ k v, x.key = .int .i64 k ∧ x.val = .int .i64 v ∧ f k = some v) ∧
    (∀ k v, f k = some v → ∃ x ∈ es.toList, x.key = .int .i64 k ∧ x.val = .int .i64 v)

theorem IMap.lt {w : World} {b : Nat} {f : Int → Option Int} (h : IMap w b f) : b < w.heap.size := by
  obtain ⟨es, cl, hb, _⟩ := h
  exact blk_lt hb
theorem IMap.block {w w' : World} {b : Nat} {f : Int → Option Int} (h : IMap w b f) (hb : w'.heap[b]? = w.heap[b]?) : IMap w' b f := by
  obtain ⟨es, cl, h1, h2⟩ := h
  exact ⟨es, cl, hb.trans h1, h2⟩
theorem IMap.ext {w w' : World} {b : Nat} {f : Int → Option Int} (h : IMap w b f) (e : Ext w w') : IMap w' b f := h.block (e.block b h.lt)
theorem IMap.only {w w' : World} {b : Nat} {f : Int → Option Int} {S : Nat → Prop} (h : IMap w b f) (o : Only S w w') (hs : ¬ S b) : IMap w' b f := h.block (o.block b h.lt hs)
theorem IMap.new (w : World) : IMap (w.alloc (.map #[] 0)) w.heap.size (fun _ => none) :=
  ⟨#[], 0, heap_alloc_new w _, stamped_empty 0, fun x hx => by simp at hx, fun k v h => by cases h⟩
theorem IMap.same {w : World} {b : Nat} {f g : Int → Option Int} (h : IMap w b f) (e : ∀ k, f k = g k) : IMap w b g := by
  have : f = g := funext e
  rwa [← this]

theorem isKey_int (k : Int) : IsKey (.int .i64) (.int .i64 k) := by simp [IsKey]

section
variable {P : Program} {t kt et : TypeId} {w : World} {b : Nat} {f : Int → Option Int}
theorem IMap.lookup (ht : P.underlying t = some (.map kt et)) (hk : P.underlying kt = some (.int .i64)) (hz : ∀ w, (zeroValue et).run P w = .ok (.int .i64 0) w) (h : IMap w b f) (k : Int) (ok : Bool) :
    (Instr.lookup t (.map (some b)) (.int .i64 k) ok).run P w = .ok (if ok then .tuple #[.int .i64 ((f k).getD 0), .bool (f k).isSome] else .int .i64 ((f k).getD 0)) w := by
  obtain ⟨es, cl, hb, hs, h1, h2⟩ := h
  have hks : ∀ x ∈ es.toList, IsKey (.int .i64) x.key := fun x hx => by
    obtain ⟨k', v', e, _⟩ := h1 x hx
    rw [e]
    exact isKey_int k'
  rcases findNow_spec (isKey_int k) es.toList 0 hks with ⟨g1, g2⟩ | ⟨j, e, g1, g2, g3⟩
  · have hf : f k = none := by
      cases hf : f k with
      | none => rfl
      | some v =>
        obtain ⟨x, hx, e1, _⟩ := h2 k v hf
        exact absurd e1 (g2 x hx)
    have e1 := run_findKey (w := w) hk g1
    simp only [Instr.lookup, Sem.run_bind, run_underlying ht, MapKept.run_getObj_map hb, run_checkKey hk (isKey_int k), Result.andThen, hf]
    cases ok
    · simp [e1, hz]
    · simp [e1, hz]
  · have he : e ∈ es.toList := List.mem_of_getElem? g2
    obtain ⟨k', v', e1, e2, e3⟩ := h1 e he
    have : k' = k := by rw [e1] at g3; injection g3
    subst this
    have e4 := run_findKey (w := w) hk g1
    simp only [Instr.lookup, Sem.run_bind, run_underlying ht, MapKept.run_getObj_map hb, run_checkKey hk (isKey_int k'), Result.andThen]
    cases ok
    · simp [e4, e2, e3]
    · simp [e4, e2, e3]

/-- The world behind a store into a map. -/
noncomputable def putM (P : Program) (t : TypeId) (w : World) (b : Nat) (k v : Int) : World := match (Instr.mapUpdate t (.map (some b)) (.int .i64 k) (.int .i64 v)).run P w with
  | .ok _ w' => w'
  | .halt _ w' => w'
theorem IMap.put (ht : P.underlying t = some (.map kt et)) (hk : P.underlying kt = some (.int .i64)) (h : IMap w b f) (k v : Int) :
    (Instr.mapUpdate t (.map (some b)) (.int .i64 k) (.int .i64 v)).run P w = .ok () (putM P t w b k v) ∧ IMap (putM P t w b k v) b (fun j => if j = k then some v else f j) ∧ Only (fun q => q = b) w (putM P t w b k v) := by
  obtain ⟨es, cl, hb, hs, h1, h2⟩ := h
  have hks : ∀ x ∈ es.toList, IsKey (.int .i64) x.key := fun x hx => by
    obtain ⟨k', v', e, _⟩ := h1 x hx
    rw [e]
    exact isKey_int k'
  have hset : ∀ o', Only (fun q => q = b) w { w with heap := w.heap.setIfInBounds b o' } := fun o' =>
    ⟨rfl, rfl, rfl, by simp, fun q _ hq => (heap_set (o' := o') hb).2 q hq⟩
  rcases findNow_spec (isKey_int k) es.toList 0 hks with ⟨g1, g2⟩ | ⟨j, e, g1, g2, g3⟩
  · have hrun : (Instr.mapUpdate t (.map (some b)) (.int .i64 k) (.int .i64 v)).run P w = .ok () { w with heap := w.heap.setIfInBounds b (.map (es.push ⟨.int .i64 k, .int .i64 v, cl⟩) (cl + 1)) } := by
      simp [Instr.mapUpdate, run_underlying ht, MapKept.run_getObj_map hb, run_checkKey hk (isKey_int k), run_findKey hk g1, run_setObj_map _ hb, Result.andThen]
    have hput : putM P t w b k v = { w with heap := w.heap.setIfInBounds b (.map (es.push ⟨.int .i64 k, .int .i64 v, cl⟩) (cl + 1)) } := by rw [putM, hrun]
    rw [hput]
    refine ⟨hrun, ⟨_, _, (heap_set hb).1, stamped_push hs g2, fun x hx => ?_, fun k' v' hf => ?_⟩, hset _⟩
    · simp only [Array.toList_push, List.mem_append, List.mem_singleton] at hx
      rcases hx with hx | rfl
      · obtain ⟨k', v', e1, e2, e3⟩ := h1 x hx
        have hne : k' ≠ k := fun q => g2 x hx (by rw [e1, q])
        exact ⟨k', v', e1, e2, by simp only [hne, if_false]; exact e3⟩
      · exact ⟨k, v, rfl, rfl, by simp⟩
    · by_cases hkk : k' = k
      · simp only [hkk, if_true] at hf
        injection hf with hf
        exact ⟨⟨.int .i64 k, .int .i64 v, cl⟩, by simp, by rw [hkk], by rw [hf]⟩
      · simp only [hkk, if_false] at hf
        obtain ⟨x, hx, e1, e2⟩ := h2 k' v' hf
        exact ⟨x, by simp [hx], e1, e2⟩
  · have hj : es[j]? = some e := by simpa using g2
    have hrun : (Instr.mapUpdate t (.map (some b)) (.int .i64 k) (.int .i64 v)).run P w = .ok () { w with heap := w.heap.setIfInBounds b (.map (es.modify j fun e' => { e' with key := .int .i64 k, val := .int .i64 v }) cl) } := by
      simp [Instr.mapUpdate, run_underlying ht, MapKept.run_getObj_map hb, run_checkKey hk (isKey_int k), run_findKey hk g1, hj, g3, run_keyThatStays (isKey_int k), run_setObj_map _ hb, Result.andThen]
    have hput : putM P t w b k v = { w with heap := w.heap.setIfInBounds b (.map (es.modify j fun e' => { e' with key := .int .i64 k, val := .int .i64 v }) cl) } := by rw [putM, hrun]
    rw [hput]
    have hkey : ∀ e', es[j]? = some e' → ({ e' with key := .int .i64 k, val := .int .i64 v } : MapEntry).key = e'.key := fun e' he' => by rw [hj] at he'; cases he'; exact g3.symm
    have hget : ∀ i, (es.modify j fun e' => { e' with key := .int .i64 k, val := .int .i64 v })[i]? = if j = i then some { e with key := .int .i64 k, val := .int .i64 v } else es[i]? := fun i => by
      rw [Array.getElem?_modify]
      by_cases hji : j = i
      · subst hji
        simp [hj]
      · simp [hji]
    refine ⟨hrun, ⟨_, _, (heap_set hb).1, stamped_modify hs _ _ (fun _ _ => rfl) (fun e' _ he' => hkey e' he'), fun x hx => ?_, fun k' v' hf => ?_⟩, hset _⟩
    · obtain ⟨i, hi⟩ := List.getElem?_of_mem hx
      rw [Array.getElem?_toList, hget] at hi
      by_cases hji : j = i
      · rw [if_pos hji] at hi
        injection hi with hi
        subst hi
        exact ⟨k, v, rfl, rfl, by simp⟩
      · rw [if_neg hji] at hi
        have hxm : x ∈ es.toList := List.mem_of_getElem? (i := i) (by rw [Array.getElem?_toList]; exact hi)
        obtain ⟨k', v', e1, e2, e3⟩ := h1 x hxm
        have hne : k' ≠ k := by
          intro q
          have hkk : x.key = e.key := by rw [e1, g3, q]
          have hnd := hs.2.2
          have hjj : (es.toList.map (·.key))[j]? = some e.key := by rw [List.getElem?_map, g2]; rfl
          have hii : (es.toList.map (·.key))[i]? = some x.key := by rw [List.getElem?_map, Array.getElem?_toList, hi]; rfl
          rw [hkk, ← hjj] at hii
          exact hji ((List.getElem?_inj (by rw [List.length_map]; exact (List.getElem?_eq_some_iff.1 g2).1) hnd).1 hii.symm)
        exact ⟨k', v', e1, e2, by simp only [hne, if_false]; exact e3⟩
    · by_cases hkk : k' = k
      · simp only [hkk, if_true] at hf
        injection hf with hf
        refine ⟨{ e with key := .int .i64 k, val := .int .i64 v }, List.mem_of_getElem? (i := j) (by rw [Array.getElem?_toList, hget, if_pos rfl]), by rw [hkk], by rw [hf]⟩
      · simp only [hkk, if_false] at hf
        obtain ⟨x, hx, e1, e2⟩ := h2 k' v' hf
        obtain ⟨i, hi⟩ := List.getElem?_of_mem hx
        have hji : j ≠ i := by
          intro q
          subst q
          rw [g2] at hi
          injection hi with hi
          subst hi
          rw [e1] at g3
          injection g3 with _ g3
          exact hkk g3
        exact ⟨x, List.mem_of_getElem? (i := i) (by rw [Array.getElem?_toList, hget, if_neg hji, ← Array.getElem?_toList]; exact hi), e1, e2⟩
end

/-- How many entries a walk over a map has still to come. -/
def iterLeft (w : World) (b r : Nat) : Nat := match w.heap[r]?, w.heap[b]? with
  | some (.mapIter _ _ seen _), some (.map es _) => (leftOf es seen).size
  | _, _ => 0
/-- Block r walks over the map in block b, which reads as f; the keys still to come. -/
def IIter (w : World) (b r : Nat) (f : Int → Option Int) (left : Int → Prop) : Prop :=
  ∃ es clock since seen c0, w.heap[b]? = some (.map es clock) ∧ Stamped es clock ∧ (∀ x ∈ es.toList, ∃ k v, x.key = .int .i64 k ∧ x.val = .int .i64 v ∧ f k = some v) ∧
    w.heap[r]? = some (.mapIter (some b) since seen c0) ∧ (∀ x ∈ es.toList, x.born < since) ∧ since ≤ c0 ∧ since ≤ clock ∧ (∀ k, left k → ∃ x ∈ (leftOf es seen).toList, x.key = .int .i64 k)
theorem IIter.ext {w w' : World} {b r : Nat} {f : Int → Option Int} {left : Int → Prop} (h : IIter w b r f left) (e : Ext w w') : IIter w' b r f left := by
  obtain ⟨es, cl, si, sn, c0, h1, h2, h3, h4, h5⟩ := h
  exact ⟨es, cl, si, sn, c0, ext_blk e h1, h2, h3, ext_blk e h4, h5⟩
theorem IIter.lt {w : World} {b r : Nat} {f : Int → Option Int} {left : Int → Prop} (h : IIter w b r f left) : r < w.heap.size ∧ b < w.heap.size := by
  obtain ⟨es, cl, si, sn, c0, h1, h2, h3, h4, h5⟩ := h
  exact ⟨blk_lt h4, blk_lt h1⟩
theorem iterLeft_ext {w w' : World} {b r : Nat} (e : Ext w w') (hr : r < w.heap.size) (hb : b < w.heap.size) : iterLeft w' b r = iterLeft w b r := by
  unfold iterLeft
  rw [e.block r hr, e.block b hb]

section
variable {P : Program} {w : World} {ops : Array Oper} {rest : List Oper} {o : Oper} {a : Act} {Q : Exit → Act → World → Prop}
theorem wpList_range_imap (hg : o.guard = none) (m : Operand) (t : TypeId) (hop : o.op = Op.range t m) {k e : TypeId} (ht : P.underlying t = some (.map k e)) (b : Nat) (f : Int → Option Int) (hm : a.eval m = .map (some b)) (h : IMap w b f)
    (hK : ∀ w', IIter w' b w.heap.size f (fun k => f k ≠ none) → Ext w w' → wpList P ops Q rest (a.put o.dst (.pointer (some ⟨w.heap.size, 0, none⟩))) w') : wpList P ops Q (o :: rest) a w := by
  refine wpList_plain hg fun K' hK' => ?_
  obtain ⟨es, cl, hb, hs, h1, h2⟩ := h
  have hrun := run_range_map (P := P) w t k e b es cl ht hb
  unfold Oper.wp
  simp [execOp, hop, hm, hrun, Result.andThen]
  have he : Ext w (w.alloc (.mapIter (some b) cl #[] cl)) := (Ext.rfl' w).alloc1 _
  refine hK' _ _ (hK _ ⟨es, cl, cl, #[], cl, ext_blk he hb, hs, h1, heap_alloc_new w _, hs.1, Nat.le_refl _, Nat.le_refl _, fun k hk => ?_⟩ he)
  cases hf : f k with
  | none => exact absurd hf hk
  | some v =>
    obtain ⟨x, hx, e1, _⟩ := h2 k v hf
    exact ⟨x, by simpa [leftOf] using hx, e1⟩
theorem wpList_next_imap (hg : o.guard = none) (it : Operand) (hop : o.op = Op.next it false) (b r : Nat) (f : Int → Option Int) (left : Int → Prop) (hit : a.eval it = .pointer (some ⟨r, 0, none⟩)) (h : IIter w b r f left)
    (hDone : (∀ k, ¬ left k) → wpList P ops Q rest (a.put o.dst (.tuple #[.bool false])) w)
    (hMore : ∀ k v w', f k = some v → IIter w' b r f (fun z => left z ∧ z ≠ k) → iterLeft w' b r < iterLeft w b r → Only (fun q => q = r) w w' → (Instr.entry (.pointer (some ⟨r, 0, none⟩))).run P w' = .ok (.tuple #[.int .i64 k, .int .i64 v]) w' →
      wpList P ops Q rest (a.put o.dst (.tuple #[.bool true, .int .i64 k, .int .i64 v])) w') : wpList P ops Q (o :: rest) a w := by
  refine wpList_plain hg fun K' hK' => ?_
  obtain ⟨es, cl, si, sn, c0, hb, hs, h1, hr, hold, hsc, hcl, hl⟩ := h
  have hrb : r ≠ b := fun e => by rw [e, hb] at hr; cases hr
  unfold Oper.wp
  rcases run_next_at (P := P) w o.type r b si c0 sn es cl hr hb hold hsc with ⟨h0, hrun⟩ | ⟨e, he, w1, hw1, hrun⟩
  · simp [execOp, hop, hit, hrun, Result.andThen]
    refine hK' _ _ (hDone fun k hk => ?_)
    obtain ⟨x, hx, _⟩ := hl k hk
    have : (leftOf es sn) = #[] := Array.eq_empty_of_size_eq_zero h0
    rw [this] at hx
    simp at hx
  · obtain ⟨hes, _⟩ := mem_left he
    obtain ⟨k, v, ek, ev, hf⟩ := h1 e hes
    have hheap : w1.heap = w.heap := by rcases hw1 with rfl | rfl <;> rfl
    have hr1 : w1.heap[r]? = some (.mapIter (some b) si sn c0) := by rw [hheap]; exact hr
    have hset := heap_set (o' := .mapIter (some b) si (sn.push e.born) cl) hr1
    have hb2 : (setBlock w1 r (.mapIter (some b) si (sn.push e.born) cl)).heap[b]? = some (.map es cl) := (hset.2 b (Ne.symm hrb)).trans (by rw [hheap]; exact hb)
    have hr2 : (setBlock w1 r (.mapIter (some b) si (sn.push e.born) cl)).heap[r]? = some (.mapIter (some b) si (sn.push e.born) cl) := hset.1
    have honly : Only (fun q => q = r) w (setBlock w1 r (.mapIter (some b) si (sn.push e.born) cl)) := by
      have h1 : Only (fun q => q = r) w w1 := by
        rcases hw1 with rfl | rfl
        · exact Only.refl _ _
        · exact (Only.refl _ _).drew
      refine ⟨h1.os, h1.tape, h1.output, by simp [setBlock, hheap], fun q hq hne => ?_⟩
      exact (hset.2 q hne).trans (by rw [hheap])
    have hen := run_entry_at (P := P) _ r b si sn es cl e hr2 hb2 hes hs.2.1
    rw [ek, ev] at hrun
    rw [ek, ev] at hen
    simp [execOp, hop, hit, hrun, Result.andThen]
    refine hK' _ _ (hMore k v _ hf ⟨es, cl, si, sn.push e.born, cl, hb2, hs, h1, hr2, hold, hcl, hcl, fun z hz => ?_⟩ ?_ honly hen)
    · obtain ⟨x, hx, ex⟩ := hl z hz.1
      refine ⟨x, ?_, ex⟩
      obtain ⟨hxe, hxs⟩ := mem_left hx
      simp only [leftOf, Array.toList_filter, List.mem_filter] at hx ⊢
      refine ⟨hx.1, ?_⟩
      rw [contains_push, hxs]
      have : x.born ≠ e.born := fun q => by
        have := born_inj hs.2.1 hxe hes q
        rw [this, ek] at ex
        injection ex with _ ex
        exact hz.2 ex.symm
      simpa using this
    · unfold iterLeft
      rw [hr2, hb2, hr, hb]
      exact left_shrinks es sn e he
end

end Go.Proofs.Ytfbacopjookplaa
