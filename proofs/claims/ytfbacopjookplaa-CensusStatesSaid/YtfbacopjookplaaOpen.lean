/- A configuration and a slice of words among a law's arguments. -/
import Derived.Test.YtfbacopjookplaaProg
import Derived.Test.YtfbacopjookplaaLaw
namespace Go.Proofs.Ytfbacopjookplaa
open Go.ChangeShapes Go.WideShapes Go.ChangeAt Go.RowKit

section
variable {H : Type} {enc : TypeId × Value → H} {W : World}

/-- A number that an int holds. -/
def I64 (x : Int) : Prop := -9223372036854775808 ≤ x ∧ x ≤ 9223372036854775807
theorem cellsInt : Try.prog.cellsOf 3 = 1 := by kernel_rfl
set_option maxRecDepth 100000 in
theorem dec_cfg (fuel : Nat) (cs : List Value) (x : DataW H × List MemPlace) (h : DataW.trod enc Try.prog W 0 (fun _ => true) true fuel 23 cs = some x) :
    ∃ T R H' Re Ca S B : Int, cs = [.int .i64 T, .int .i64 R, .int .i64 H', .int .i64 Re, .int .i64 Ca, .int .i64 S, .int .i64 B] ∧ I64 T ∧ I64 R ∧ I64 H' ∧ I64 Re ∧ I64 Ca ∧ I64 S ∧ I64 B := by
  obtain ⟨hl, n, hf⟩ := dec_fields Try.underlying23 h
  rw [show Try.prog.cellsOf 23 = 7 by kernel_rfl] at hl
  match cs, hl with
  | [c0, c1, c2, c3, c4, c5, c6], _ =>
    obtain ⟨y0, h0⟩ := hf 0 _ rfl
    obtain ⟨y1, h1⟩ := hf 1 _ rfl
    obtain ⟨y2, h2⟩ := hf 2 _ rfl
    obtain ⟨y3, h3⟩ := hf 3 _ rfl
    obtain ⟨y4, h4⟩ := hf 4 _ rfl
    obtain ⟨y5, h5⟩ := hf 5 _ rfl
    obtain ⟨y6, h6⟩ := hf 6 _ rfl
    simp only [List.getElem_toArray, List.getElem_cons_zero, List.getElem_cons_succ, cellsInt, List.drop_zero, List.take_succ_cons, List.take_zero, List.drop_succ_cons] at h0 h1 h2 h3 h4 h5 h6
    obtain ⟨a0, e0, w0⟩ := dec_int Try.underlying3 _ _ _ h0
    obtain ⟨a1, e1, w1⟩ := dec_int Try.underlying3 _ _ _ h1
    obtain ⟨a2, e2, w2⟩ := dec_int Try.underlying3 _ _ _ h2
    obtain ⟨a3, e3, w3⟩ := dec_int Try.underlying3 _ _ _ h3
    obtain ⟨a4, e4, w4⟩ := dec_int Try.underlying3 _ _ _ h4
    obtain ⟨a5, e5, w5⟩ := dec_int Try.underlying3 _ _ _ h5
    obtain ⟨a6, e6, w6⟩ := dec_int Try.underlying3 _ _ _ h6
    injection e0 with e0
    injection e1 with e1
    injection e2 with e2
    injection e3 with e3
    injection e4 with e4
    injection e5 with e5
    injection e6 with e6
    subst e0 e1 e2 e3 e4 e5 e6
    exact ⟨a0, a1, a2, a3, a4, a5, a6, rfl, bounds_i64' w0, bounds_i64' w1, bounds_i64' w2, bounds_i64' w3, bounds_i64' w4, bounds_i64' w5, bounds_i64' w6⟩

set_option maxRecDepth 100000 in
theorem openCfg {base : Nat} {v : Value} {d : DataW H} {ps : List MemPlace} (hok : Value.okWide Try.prog W .any base 23 v)
    (h : DataW.Trod enc Try.prog W 0 (fun _ => true) true 23 v d ps) :
    ∃ T R H' Re Ca S B : Int, v = .agg #[.int .i64 T, .int .i64 R, .int .i64 H', .int .i64 Re, .int .i64 Ca, .int .i64 S, .int .i64 B] ∧ I64 T ∧ I64 R ∧ I64 H' ∧ I64 Re ∧ I64 Ca ∧ I64 S ∧ I64 B := by
  obtain ⟨cs, rfl, _⟩ := okWide_struct Try.underlying23 hok
  obtain ⟨fuel, h⟩ := h
  obtain ⟨T, R, H', Re, Ca, S, B, e, hb⟩ := dec_cfg _ _ _ h
  refine ⟨T, R, H', Re, Ca, S, B, ?_, hb⟩
  have : cs.toList = _ := e
  rw [← Array.toArray_toList (xs := cs), this]

set_option maxRecDepth 100000 in
/-- A slice of words among the arguments. -/
theorem openWords {t e : TypeId} {base : Nat} {v : Value} {d : DataW H} {ps : List MemPlace} (ht : Try.prog.underlying t = some (.slice e)) (he : Try.prog.underlying e = some (.int .u64)) (hok : Value.okWide Try.prog W .any base t v)
    (h : DataW.Trod enc Try.prog W 0 (fun _ => true) true t v d ps) :
    ∃ (A : Option Addr) (n c : Nat) (ws : List Int), v = .slice A n c ∧ n ≤ c ∧ ws.length = n ∧ Rd W A (ws.map (Value.int .u64)) ∧ (∀ x ∈ ws, 0 ≤ x ∧ x ≤ 18446744073709551615) ∧
      ((d = .nil ∧ c = 0) ∨ ∃ el sp, d = .slice el sp ∧ el.length = n ∧ el.length + sp.length = c) := by
  obtain ⟨fuel, h⟩ := h
  rw [cells_slice ht hok] at h
  obtain ⟨A, n, c, xs, css, rfl, hnc, hx, hc, hR, _, hrd, hd⟩ := openSlice (fun (x : Int) cs => cs = [.int .u64 x] ∧ (Lit.int .u64 x).wf = true) ht (fun fuel cs x h => dec_int he fuel cs x h) h
  have e1 := css_eq (enc' := fun x => [Value.int .u64 x]) (hx.trans hc.symm) (fun i a cs h1 h2 => (hR i a cs h1 h2).1)
  rw [e1, flatten_one] at hrd
  refine ⟨A, n, c, xs, rfl, hnc, hx, hrd, fun x hx' => ?_, hd⟩
  obtain ⟨i, hi⟩ := List.getElem?_of_mem hx'
  obtain ⟨hlt, _⟩ := List.getElem?_eq_some_iff.1 hi
  exact bounds_u64' (hR i x css[i] hi (List.getElem?_eq_getElem (by omega))).2
end

end Go.Proofs.Ytfbacopjookplaa
