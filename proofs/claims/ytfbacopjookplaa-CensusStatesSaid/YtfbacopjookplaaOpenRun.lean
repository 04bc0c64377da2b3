/- A configuration, a number, a run and a number of moves among a law's arguments. -/
import Derived.Test.YtfbacopjookplaaOpen
import Derived.Test.YtfbacopjookplaaTracePure
namespace Go.Proofs.Ytfbacopjookplaa
open Go.ChangeShapes Go.WideShapes Go.ChangeAt Go.RowKit

section
variable {H : Type} {enc : TypeId × Value → H} {W : World}

theorem dec_parts {P : Program} {t : TypeId} {fs : Array Field} (ht : P.underlying t = some (.struct fs)) {fuel : Nat} {cs : List Value} {x : DataW H × List MemPlace} (h : DataW.trod enc P W 0 (fun _ => true) true fuel t cs = some x) :
    cs.length = P.cellsOf t ∧ ∃ (xs : List (DataW H × List MemPlace)) (n : Nat), x.1 = .agg (xs.map (·.1)) ∧ ∀ (i : Nat) (f : Field), fs[i]? = some f → ∃ y, DataW.trod enc P W 0 (fun _ => true) true n f.type ((cs.drop f.offset).take (P.cellsOf f.type)) = some y ∧ xs[i]? = some y := by
  obtain ⟨xs, n, _, hx, hl, hlen, hf⟩ := DataW.trod_struct ht h
  refine ⟨hl, xs, n, by rw [hx], fun i f hi => ?_⟩
  have hlt := (Array.getElem?_eq_some_iff.1 hi).1
  exact ⟨xs[i], (hf i f hi).trans (List.getElem?_eq_getElem (by omega)), List.getElem?_eq_getElem (by omega)⟩
/-- What bounds a struct bounds its parts. -/
theorem all_parts {P : Program} {ts : List TypeId} {ds : List (DataW H)} {j : Nat} {t : TypeId} {parts : List (DataW H)} {fs : Array Field} (h : (DataW.weightsEach P ts ds).all (· ≤ reachBytes) = true) (ht : ts[j]? = some t) (hd : ds[j]? = some (.agg parts)) (hu : P.underlying t = some (.struct fs)) :
    (DataW.weightsEach P (fs.toList.map (·.type)) parts).all (· ≤ reachBytes) = true := by
  refine List.all_eq_true.2 fun n hn => List.all_eq_true.1 h n (DataW.weights_mem_each ht hd n ?_)
  simp only [DataW.weights, hu]
  exact hn
/-- A slice of structs among the arguments. -/
theorem openArr {α : Type} {P : Program} (en : α → List Value) (R : α → Prop) {t e : TypeId} {v : Value} {d : DataW H} {ps : List MemPlace} (ht : P.underlying t = some (.slice e))
    (hdec : ∀ (fuel : Nat) (cs : List Value) (x : DataW H × List MemPlace), DataW.trod enc P W 0 (fun _ => true) true fuel e cs = some x → ∃ a, cs = en a ∧ R a) {fuel : Nat} (h : DataW.trod enc P W 0 (fun _ => true) true fuel t [v] = some (d, ps)) :
    ∃ (A : Option Addr) (n c : Nat) (xs : List α), v = .slice A n c ∧ n ≤ c ∧ Arr en W A n xs ∧ (∀ x ∈ xs, R x) ∧ ((d = .nil ∧ c = 0) ∨ ∃ el sp, d = .slice el sp ∧ el.length = n ∧ el.length + sp.length = c) := by
  obtain ⟨A, n, c, xs, css, rfl, hnc, hx, hc, hR, _, hrd, hd⟩ := openSlice (fun (x : α) cs => cs = en x ∧ R x) ht hdec h
  have e1 := css_eq (enc' := en) (hx.trans hc.symm) (fun i a cs h1 h2 => (hR i a cs h1 h2).1)
  rw [e1] at hrd
  refine ⟨A, n, c, xs, rfl, hnc, ⟨hx, by rw [List.flatMap_def]; exact hrd⟩, fun x hx' => ?_, hd⟩
  obtain ⟨i, hi⟩ := List.getElem?_of_mem hx'
  obtain ⟨hlt, _⟩ := List.getElem?_eq_some_iff.1 hi
  exact (hR i x css[i] hi (List.getElem?_eq_getElem (by omega))).2

theorem cells_i : Try.prog.cellsOf 3 = 1 := by kernel_rfl
theorem cells_op : Try.prog.cellsOf 145 = 1 := by kernel_rfl
theorem cells_ak : Try.prog.cellsOf 146 = 1 := by kernel_rfl
theorem cells_ac : Try.prog.cellsOf 127 = 1 := by kernel_rfl
theorem cells_st : Try.prog.cellsOf 76 = 1 := by kernel_rfl
theorem cells_u : Try.prog.cellsOf 25 = 1 := by kernel_rfl
theorem cells_an : Try.prog.cellsOf 148 = 2 := by kernel_rfl
theorem cells_cf : Try.prog.cellsOf 23 = 7 := by kernel_rfl
theorem cells_ru : Try.prog.cellsOf 48 = 4 := by kernel_rfl
theorem cells_s1 : Try.prog.cellsOf 44 = 1 := by kernel_rfl
theorem cells_s2 : Try.prog.cellsOf 45 = 1 := by kernel_rfl
theorem cells_s3 : Try.prog.cellsOf 46 = 1 := by kernel_rfl
theorem cells_s4 : Try.prog.cellsOf 24 = 1 := by kernel_rfl
set_option maxRecDepth 100000 in
theorem dec_answer (fuel : Nat) (cs : List Value) (x : DataW H × List MemPlace) (h : DataW.trod enc Try.prog W 0 (fun _ => true) true fuel 148 cs = some x) : ∃ a b : Int, cs = [.int .i64 a, .int .i64 b] := by
  obtain ⟨hl, n, hf⟩ := dec_fields Try.underlying148 h
  rw [show Try.prog.cellsOf 148 = 2 by kernel_rfl] at hl
  match cs, hl with
  | [c0, c1], _ =>
    obtain ⟨y0, h0⟩ := hf 0 _ rfl
    obtain ⟨y1, h1⟩ := hf 1 _ rfl
    simp only [List.getElem_toArray, List.getElem_cons_zero, List.getElem_cons_succ, cells_i, cells_ak, List.drop_zero, List.take_succ_cons, List.take_zero, List.drop_succ_cons] at h0 h1
    obtain ⟨a0, e0, _⟩ := dec_int Try.underlying146 _ _ _ h0
    obtain ⟨a1, e1, _⟩ := dec_int Try.underlying3 _ _ _ h1
    injection e0 with e0
    injection e1 with e1
    subst e0 e1
    exact ⟨a0, a1, rfl⟩
set_option maxRecDepth 100000 in
theorem dec_call (fuel : Nat) (cs : List Value) (x : DataW H × List MemPlace) (h : DataW.trod enc Try.prog W 0 (fun _ => true) true fuel 150 cs = some x) : ∃ a : Cl, cs = a.enc ∧ True := by
  obtain ⟨hl, n, hf⟩ := dec_fields Try.underlying150 h
  rw [show Try.prog.cellsOf 150 = 9 by kernel_rfl] at hl
  match cs, hl with
  | [c0, c1, c2, c3, c4, c5, c6, c7, c8], _ =>
    obtain ⟨y0, h0⟩ := hf 0 _ rfl
    obtain ⟨y1, h1⟩ := hf 1 _ rfl
    obtain ⟨y2, h2⟩ := hf 2 _ rfl
    obtain ⟨y3, h3⟩ := hf 3 _ rfl
    obtain ⟨y4, h4⟩ := hf 4 _ rfl
    obtain ⟨y5, h5⟩ := hf 5 _ rfl
    obtain ⟨y6, h6⟩ := hf 6 _ rfl
    obtain ⟨y7, h7⟩ := hf 7 _ rfl
    simp only [List.getElem_toArray, List.getElem_cons_zero, List.getElem_cons_succ, cells_i, cells_op, cells_an, List.drop_zero, List.take_succ_cons, List.take_zero, List.drop_succ_cons] at h0 h1 h2 h3 h4 h5 h6 h7
    obtain ⟨a0, e0, w0⟩ := dec_int Try.underlying3 _ _ _ h0
    obtain ⟨a1, e1, w1⟩ := dec_int Try.underlying145 _ _ _ h1
    obtain ⟨a2, e2, w2⟩ := dec_int Try.underlying3 _ _ _ h2
    obtain ⟨a3, e3, w3⟩ := dec_int Try.underlying3 _ _ _ h3
    obtain ⟨a4, e4, w4⟩ := dec_int Try.underlying3 _ _ _ h4
    obtain ⟨a5, e5, w5⟩ := dec_int Try.underlying3 _ _ _ h5
    obtain ⟨a6, e6, w6⟩ := dec_int Try.underlying3 _ _ _ h6
    injection e0 with e0
    injection e1 with e1
    injection e2 with e2
    injection e3 with e3
    injection e4 with e4
    injection e5 with e5
    injection e6 with e6
    subst e0 e1 e2 e3 e4 e5 e6
    obtain ⟨a7, a8, e7⟩ := dec_answer _ _ _ h7
    injection e7 with e7 e8
    injection e8 with e8
    subst e7 e8
    exact ⟨⟨a0, a1, a2, a3, a4, a5, a6, a7, a8⟩, rfl, trivial⟩
set_option maxRecDepth 100000 in
theorem dec_access (fuel : Nat) (cs : List Value) (x : DataW H × List MemPlace) (h : DataW.trod enc Try.prog W 0 (fun _ => true) true fuel 129 cs = some x) : ∃ a : Ac, cs = a.enc ∧ (0 ≤ a.od ∧ a.od ≤ 18446744073709551615) ∧ (0 ≤ a.nw ∧ a.nw ≤ 18446744073709551615) ∧ (0 ≤ a.sw ∧ a.sw ≤ 18446744073709551615) := by
  obtain ⟨hl, n, hf⟩ := dec_fields Try.underlying129 h
  rw [show Try.prog.cellsOf 129 = 7 by kernel_rfl] at hl
  match cs, hl with
  | [c0, c1, c2, c3, c4, c5, c6], _ =>
    obtain ⟨y0, h0⟩ := hf 0 _ rfl
    obtain ⟨y1, h1⟩ := hf 1 _ rfl
    obtain ⟨y2, h2⟩ := hf 2 _ rfl
    obtain ⟨y3, h3⟩ := hf 3 _ rfl
    obtain ⟨y4, h4⟩ := hf 4 _ rfl
    obtain ⟨y5, h5⟩ := hf 5 _ rfl
    obtain ⟨y6, h6⟩ := hf 6 _ rfl
    simp only [List.getElem_toArray, List.getElem_cons_zero, List.getElem_cons_succ, cells_i, cells_ac, cells_u, List.drop_zero, List.take_succ_cons, List.take_zero, List.drop_succ_cons] at h0 h1 h2 h3 h4 h5 h6
    obtain ⟨a0, e0, w0⟩ := dec_int Try.underlying3 _ _ _ h0
    obtain ⟨a1, e1, w1⟩ := dec_int Try.underlying3 _ _ _ h1
    obtain ⟨a2, e2, w2⟩ := dec_int Try.underlying127 _ _ _ h2
    obtain ⟨a3, e3, w3⟩ := dec_int Try.underlying3 _ _ _ h3
    obtain ⟨a4, e4, w4⟩ := dec_int Try.underlying25 _ _ _ h4
    obtain ⟨a5, e5, w5⟩ := dec_int Try.underlying25 _ _ _ h5
    obtain ⟨a6, e6, w6⟩ := dec_int Try.underlying25 _ _ _ h6
    injection e0 with e0
    injection e1 with e1
    injection e2 with e2
    injection e3 with e3
    injection e4 with e4
    injection e5 with e5
    injection e6 with e6
    subst e0 e1 e2 e3 e4 e5 e6
    exact ⟨⟨a0, a1, a2, a3, a4, a5, a6⟩, rfl, bounds_u64' w4, bounds_u64' w5, bounds_u64' w6⟩
set_option maxRecDepth 100000 in
theorem dec_shift (fuel : Nat) (cs : List Value) (x : DataW H × List MemPlace) (h : DataW.trod enc Try.prog W 0 (fun _ => true) true fuel 136 cs = some x) : ∃ a : Sh, cs = a.enc ∧ True := by
  obtain ⟨hl, n, hf⟩ := dec_fields Try.underlying136 h
  rw [show Try.prog.cellsOf 136 = 5 by kernel_rfl] at hl
  match cs, hl with
  | [c0, c1, c2, c3, c4], _ =>
    obtain ⟨y0, h0⟩ := hf 0 _ rfl
    obtain ⟨y1, h1⟩ := hf 1 _ rfl
    obtain ⟨y2, h2⟩ := hf 2 _ rfl
    obtain ⟨y3, h3⟩ := hf 3 _ rfl
    obtain ⟨y4, h4⟩ := hf 4 _ rfl
    simp only [List.getElem_toArray, List.getElem_cons_zero, List.getElem_cons_succ, cells_i, cells_st, List.drop_zero, List.take_succ_cons, List.take_zero, List.drop_succ_cons] at h0 h1 h2 h3 h4
    obtain ⟨a0, e0, w0⟩ := dec_int Try.underlying3 _ _ _ h0
    obtain ⟨a1, e1, w1⟩ := dec_int Try.underlying3 _ _ _ h1
    obtain ⟨a2, e2, w2⟩ := dec_int Try.underlying3 _ _ _ h2
    obtain ⟨a3, e3, w3⟩ := dec_int Try.underlying76 _ _ _ h3
    obtain ⟨a4, e4, w4⟩ := dec_int Try.underlying76 _ _ _ h4
    injection e0 with e0
    injection e1 with e1
    injection e2 with e2
    injection e3 with e3
    injection e4 with e4
    subst e0 e1 e2 e3 e4
    exact ⟨⟨a0, a1, a2, a3, a4⟩, rfl, trivial⟩

set_option maxRecDepth 100000 in
/-- A configuration, a number, a run, a number of moves. -/
theorem openCase {base : Nat} {v : Value} {d : DataW H} {ps : List MemPlace} (hok : Value.okWide Try.prog W .any base 50 v)
    (h : DataW.Trod enc Try.prog W 0 (fun _ => true) true 50 v d ps) (hsz : (DataW.weightsEach Try.prog [50] [d]).all (· ≤ reachBytes) = true) :
    ∃ (T R H' Re Ca S B used mv : Int) (A1 : Option Addr) (n1 c1 : Nat) (A2 : Option Addr) (n2 c2 : Nat) (A3 : Option Addr) (n3 c3 : Nat) (A4 : Option Addr) (n4 c4 : Nat) (cs : List Cl) (tr : List Ac) (sh : List Sh) (rw_ : List Int),
      v = .agg #[.int .i64 T, .int .i64 R, .int .i64 H', .int .i64 Re, .int .i64 Ca, .int .i64 S, .int .i64 B, .int .i64 used, .slice A1 n1 c1, .slice A2 n2 c2, .slice A3 n3 c3, .slice A4 n4 c4, .int .i64 mv] ∧
      RunMem W A1 n1 A2 n2 A3 n3 A4 n4 cs tr sh rw_ ∧ n1 * 72 ≤ 140737488351232 ∧ n2 * 56 ≤ 140737488351232 ∧ n3 * 40 ≤ 140737488351232 ∧ n4 * 8 ≤ 140737488351232 := by
  obtain ⟨vs, rfl, _⟩ := okWide_struct Try.underlying50 hok
  obtain ⟨fuel, h⟩ := h
  obtain ⟨hl, xs, n, hx, hf⟩ := dec_parts Try.underlying50 h
  have hx : d = .agg (xs.map (·.1)) := hx
  subst hx
  have hsz1 := all_parts (j := 0) hsz rfl rfl Try.underlying50
  rw [show Try.prog.cellsOf 50 = 13 by kernel_rfl] at hl
  obtain ⟨cl, rfl⟩ : ∃ cl : List Value, vs = cl.toArray := ⟨vs.toList, by simp⟩
  have hl : cl.length = 13 := hl
  match cl, hl with
  | [c0, c1, c2, c3, c4, c5, c6, c7, c8, c9, c10, c11, c12], _ =>
    obtain ⟨y0, h0, _⟩ := hf 0 _ rfl
    obtain ⟨y1, h1, _⟩ := hf 1 _ rfl
    obtain ⟨y2, h2, g2⟩ := hf 2 _ rfl
    obtain ⟨y3, h3, _⟩ := hf 3 _ rfl
    simp only [Value.cells] at h0 h1 h2 h3
    simp only [List.getElem_toArray, List.getElem_cons_zero, List.getElem_cons_succ, cells_i, cells_cf, cells_ru, List.drop_zero, List.take_succ_cons, List.take_zero, List.drop_succ_cons] at h0 h1 h2 h3
    obtain ⟨T, R, H', Re, Ca, S, B, e0, _⟩ := dec_cfg _ _ _ h0
    obtain ⟨used, e1, _⟩ := dec_int Try.underlying3 _ _ _ h1
    obtain ⟨mv, e3, _⟩ := dec_int Try.underlying3 _ _ _ h3
    injection e0 with e00 e0
    injection e0 with e01 e0
    injection e0 with e02 e0
    injection e0 with e03 e0
    injection e0 with e04 e0
    injection e0 with e05 e0
    injection e0 with e06 e0
    injection e1 with e1 _
    injection e3 with e3 _
    subst e00 e01 e02 e03 e04 e05 e06 e1 e3
    obtain ⟨_, zs, n', hz, hg⟩ := dec_parts Try.underlying48 h2
    have hd2 : (xs.map (·.1))[2]? = some (.agg (zs.map (·.1))) := by rw [List.getElem?_map, g2, ← hz]; rfl
    have hsz2 := all_parts (j := 2) hsz1 rfl hd2 Try.underlying48
    obtain ⟨⟨z0, p0⟩, k0, q0⟩ := hg 0 _ rfl
    obtain ⟨⟨z1, p1⟩, k1, q1⟩ := hg 1 _ rfl
    obtain ⟨⟨z2, p2⟩, k2, q2⟩ := hg 2 _ rfl
    obtain ⟨⟨z3, p3⟩, k3, q3⟩ := hg 3 _ rfl
    simp only [List.getElem_toArray, List.getElem_cons_zero, List.getElem_cons_succ, cells_s1, cells_s2, cells_s3, cells_s4, List.drop_zero, List.take_succ_cons, List.take_zero, List.drop_succ_cons] at k0 k1 k2 k3
    obtain ⟨A1, n1, c1, cs, rfl, hn1, ha1, _, hd1⟩ := openArr Cl.enc (fun _ => True) Try.underlying44 dec_call k0
    obtain ⟨A2, n2, c2, tr, rfl, hn2, ha2, hw2, hd2'⟩ := openArr Ac.enc _ Try.underlying45 dec_access k1
    obtain ⟨A3, n3, c3, sh, rfl, hn3, ha3, _, hd3⟩ := openArr Sh.enc (fun _ => True) Try.underlying46 dec_shift k2
    obtain ⟨A4, n4, c4, ws, rfl, hn4, ha4, _, hd4⟩ := openArr (fun x => [Value.int .u64 x]) (fun _ => True) Try.underlying24 (fun fuel cs x h => by obtain ⟨a, e, _⟩ := dec_int Try.underlying25 fuel cs x h; exact ⟨a, e, trivial⟩) k3
    have r1 := reach_slice (j := 0) hsz2 rfl (by rw [List.getElem?_map, q0]; rfl) Try.underlying44 hd1
    have r2 := reach_slice (j := 1) hsz2 rfl (by rw [List.getElem?_map, q1]; rfl) Try.underlying45 hd2'
    have r3 := reach_slice (j := 2) hsz2 rfl (by rw [List.getElem?_map, q2]; rfl) Try.underlying46 hd3
    have r4 := reach_slice (j := 3) hsz2 rfl (by rw [List.getElem?_map, q3]; rfl) Try.underlying24 hd4
    rw [show Try.prog.bytesOf 150 = 72 by kernel_rfl] at r1
    rw [show Try.prog.bytesOf 129 = 56 by kernel_rfl] at r2
    rw [show Try.prog.bytesOf 136 = 40 by kernel_rfl] at r3
    rw [show Try.prog.bytesOf 25 = 8 by kernel_rfl] at r4
    have hw : Rd W A4 (ws.map (Value.int .u64)) := by
      have := ha4.2
      rwa [List.flatMap_def, flatten_one] at this
    exact ⟨T, R, H', Re, Ca, S, B, used, mv, A1, n1, c1, A2, n2, c2, A3, n3, c3, A4, n4, c4, cs, tr, sh, ws, rfl, ⟨ha1, ha2, ha3, hw, ha4.1, by omega, by omega, by omega, by omega, hw2⟩, by omega, by omega, by omega, by omega⟩
end

end Go.Proofs.Ytfbacopjookplaa
