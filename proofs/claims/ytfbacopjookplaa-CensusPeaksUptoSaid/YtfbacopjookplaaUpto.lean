/- What holds of a run whose parts go together; opening a case of bounded bulk; from a law's walk to its row for an input of bounded bulk. -/
import Derived.Test.YtfbacopjookplaaFaultLaw
import Derived.Test.YtfbacopjookplaaStatesW
import Derived.Test.YtfbacopjookplaaOpenRun
import Derived.Test.YtfbacopjookplaaRows
import Derived.Deep.CondSized
namespace Go.Proofs.Ytfbacopjookplaa
open Go.RowKit
open Go.ChangeShapes Go.WideShapes Go.ChangeAt Go.RowKit

theorem firstL_len (n b S u : Nat) : (firstL n b S u).length = n := by
  unfold firstL
  split <;> simp only [List.length_set, spareFill_len] <;> split <;> simp
theorem stepW_some {ws ws' : List Int} {a : Ac} (h : stepW ws a = some ws') : (0 ≤ a.ad ∧ a.ad < ws.length) ∧ (a.kd = 1 ∨ a.kd = 2 ∨ a.kd = 3) := by
  unfold stepW at h
  by_cases h1 : 0 ≤ a.ad ∧ a.ad < ws.length
  · refine ⟨h1, ?_⟩
    rw [if_pos h1] at h
    by_cases k1 : a.kd = 1
    · exact .inl k1
    · rw [if_neg k1] at h
      by_cases k2 : a.kd = 2
      · exact .inr (.inl k2)
      · rw [if_neg k2] at h
        by_cases k3 : a.kd = 3
        · exact .inr (.inr k3)
        · rw [if_neg k3] at h
          cases h
  · rw [if_neg h1] at h
    cases h
theorem trace_all {l : List Cl} {n : Nat} {ws' : List Int} : ∀ (tr : List Ac) (p : Int) (ws : List Int), ws.length = n → traceF l p ws tr = some ws' → (∀ a ∈ tr, p < a.mv ∧ (0 ≤ a.ad ∧ a.ad < n) ∧ (a.kd = 1 ∨ a.kd = 2 ∨ a.kd = 3)) ∧ RiseA tr
  | [], _, _, _, _ => ⟨fun a h => by simp at h, fun i k a b _ h => by simp at h⟩
  | a :: tr, p, ws, hl, h => by
    rw [traceF] at h
    by_cases hc : p < a.mv ∧ placeB l a.th a.mv = true
    · rw [if_pos hc] at h
      cases hs : stepW ws a with
      | none => rw [hs] at h; cases h
      | some ws1 =>
        rw [hs] at h
        obtain ⟨ih1, ih2⟩ := trace_all tr a.mv ws1 ((stepW_len hs).trans hl) h
        have hst := stepW_some hs
        rw [hl] at hst
        refine ⟨fun y hy => ?_, fun i k y z hik hy hz => ?_⟩
        · rcases List.mem_cons.1 hy with rfl | hy
          · exact ⟨hc.1, hst⟩
          · have := ih1 y hy
            exact ⟨by have := hc.1; omega, this.2⟩
        · cases k with
          | zero => omega
          | succ k =>
            have hz' : tr[k]? = some z := by simpa using hz
            cases i with
            | zero =>
              simp at hy
              subst hy
              exact (ih1 z (List.mem_of_getElem? hz')).1
            | succ i => exact ih2 i k y z (by omega) (by simpa using hy) hz'
    · rw [if_neg hc] at h
      cases h
theorem shifts_more {l : List Cl} {tr : List Ac} {s : Nat} : ∀ (sh : List Sh) (p q : Int) (st : List Int), (∀ y ∈ st, 0 ≤ y ∧ y ≤ 5) → ShiftsF l tr s p q st sh → ∀ x ∈ sh, placeB l x.th x.mv = true ∧ 0 ≤ x.fr ∧ x.fr ≤ 5 ∧ 0 ≤ x.to ∧ x.to ≤ 5
  | [], _, _, _, _, _ => fun x hx => by simp at hx
  | x :: sh, p, q, st, hb, h => by
    obtain ⟨h1, _, h3, _, h5⟩ := h
    have hfr : 0 ≤ x.fr ∧ x.fr ≤ 5 := by
      rw [h3.2.2.2.2, List.getD_eq_getElem?_getD]
      cases hg : st[x.sl.toNat]? with
      | none => exact ⟨Int.le_refl _, by decide⟩
      | some y => exact hb y (List.mem_of_getElem? hg)
    intro y hy
    rcases List.mem_cons.1 hy with rfl | hy
    · exact ⟨h1.2, hfr.1, hfr.2, h3.2.2.1, h3.2.2.2.1⟩
    · exact shifts_more sh _ _ _ (bd_putS hb h3.2.2.1 h3.2.2.2.1) h5 y hy
/-- What a run whose parts go together says. -/
structure Whole (T R H Re Ca S B : Int) (s u m : Nat) (tr : List Ac) (sh : List Sh) : Prop where
  ok : Okay T R H Re Ca S B
  mul : R * H = (m : Int)
  sl : S = (s : Int)
  ra : RiseA tr
  rs : RiseS sh
  tr_ : ∀ a ∈ tr, (0 ≤ a.ad ∧ a.ad < sumOf R H S B 13) ∧ (a.kd = 1 ∨ a.kd = 2 ∨ a.kd = 3) ∧ 0 ≤ a.mv
  sh_ : ∀ x ∈ sh, (0 ≤ x.sl ∧ x.sl < s ∧ 0 ≤ x.fr ∧ x.fr ≤ 5 ∧ 0 ≤ x.to ∧ x.to ≤ 5) ∧ 0 ≤ x.mv
theorem whole_of {T R H Re Ca S B used : Int} {cs : List Cl} {tr : List Ac} {sh : List Sh} {rw_ : List Int} {s u : Nat} (hS : S = s) (_hu : used = u) (h : MayOK T R H Re Ca S B used cs tr sh rw_) : ∃ m : Nat, Whole T R H Re Ca S B s u m tr sh := by
  obtain ⟨h1, h2, h3, h4, h5⟩ := h
  have hok := h1
  unfold Okay at hok
  have hmul : 1 * 3 ≤ R * H := Int.mul_le_mul (by omega) (by omega) (by omega) (by omega)
  have hsz := sumOf_bd R H S B (by omega) (by omega) (by omega) (by omega) (by omega) (by omega) (by omega) (by omega) 13
  obtain ⟨t1, t2⟩ := trace_all tr _ _ (firstL_len _ _ _ _) h4
  have hs1 := shifts_all sh _ _ _ h5
  have hs2 := shifts_more sh _ _ _ (bd_beginS _ _) h5
  have hsn : S.toNat = s := by omega
  refine ⟨(R * H).toNat, h1, by omega, hS, t2, ?_, ?_, ?_⟩
  · intro i k a b hik ha hb
    by_cases he : i = k
    · subst he
      rw [ha] at hb
      injection hb with hb
      rw [hb]
      exact Int.le_refl _
    · exact hs1.2 i k a b (by omega) ha hb
  · intro a ha
    have := t1 a ha
    exact ⟨⟨this.2.1.1, by have := this.2.1.2; omega⟩, this.2.2, by have := this.1; omega⟩
  · intro x hx
    have a1 := hs1.1 x hx
    have a2 := hs2 x hx
    have a3 := place_pos h3.1 a2.1
    rw [hsn] at a1
    exact ⟨⟨a1.2.1, a1.2.2, a2.2⟩, by omega⟩
theorem trace_place {l : List Cl} {ws' : List Int} : ∀ (tr : List Ac) (p : Int) (ws : List Int), traceF l p ws tr = some ws' → ∀ a ∈ tr, placeB l a.th a.mv = true
  | [], _, _, _ => fun a h => by simp at h
  | a :: tr, p, ws, h => by
    rw [traceF] at h
    by_cases hc : p < a.mv ∧ placeB l a.th a.mv = true
    · rw [if_pos hc] at h
      cases hs : stepW ws a with
      | none => rw [hs] at h; cases h
      | some ws1 =>
        rw [hs] at h
        intro y hy
        rcases List.mem_cons.1 hy with rfl | hy
        · exact hc.2
        · exact trace_place tr a.mv ws1 h y hy
    · rw [if_neg hc] at h
      cases h

section
variable {H : Type}
theorem one_le (d : DataW H) : 1 ≤ Rows.uptoBulk d := by
  cases d with
  | lit l => cases l <;> simp [Rows.uptoBulk]
  | nil => simp [Rows.uptoBulk]
  | ptr d => simp [Rows.uptoBulk]
  | slice elems spare => simp [Rows.uptoBulk]
  | agg parts => simp [Rows.uptoBulk]
  | iface t d => simp [Rows.uptoBulk]
  | map entries => simp [Rows.uptoBulk]
  | held h => simp [Rows.uptoBulk]
theorem part_le {d : DataW H} {l : List (DataW H)} (h : d ∈ l) : Rows.uptoBulk d ≤ Rows.uptoBulkAll l := by
  induction l with
  | nil => cases h
  | cons x r ih =>
    simp only [Rows.uptoBulkAll]
    cases List.mem_cons.1 h with
    | inl e => subst e; omega
    | inr e => have := ih e; omega
theorem length_bulk (l : List (DataW H)) : l.length ≤ Rows.uptoBulkAll l := by
  induction l with
  | nil => simp [Rows.uptoBulkAll]
  | cons x r ih => have := one_le x; simp only [Rows.uptoBulkAll, List.length_cons]; omega
theorem bulk_two {l : List (DataW H)} {i j : Nat} {x y : DataW H} (hij : i < j) (hx : l[i]? = some x) (hy : l[j]? = some y) : Rows.uptoBulk x + Rows.uptoBulk y ≤ Rows.uptoBulkAll l := by
  induction l generalizing i j with
  | nil => simp at hx
  | cons z r ih =>
    simp only [Rows.uptoBulkAll]
    cases j with
    | zero => omega
    | succ j =>
      have hy' : r[j]? = some y := by simpa using hy
      cases i with
      | zero =>
        simp at hx
        subst hx
        have := part_le (List.mem_of_getElem? hy')
        omega
      | succ i =>
        have := ih (i := i) (j := j) (by omega) (by simpa using hx) hy'
        omega
theorem len_bulk {z : DataW H} {n c : Nat} (hn : n ≤ c) (h : (z = .nil ∧ c = 0) ∨ ∃ el sp, z = .slice el sp ∧ el.length = n ∧ el.length + sp.length = c) : n ≤ Rows.uptoBulk z := by
  rcases h with ⟨_, h0⟩ | ⟨el, sp, rfl, h1, _⟩
  · omega
  · have := length_bulk el
    simp only [Rows.uptoBulk]
    omega
end

section
variable {H : Type} {enc : TypeId × Value → H} {W : World}

set_option maxRecDepth 100000 in
/-- A configuration, a number, a run, a number of moves. -/
theorem openCaseUp {base : Nat} {v : Value} {d : DataW H} {ps : List MemPlace} (hok : Value.okWide Try.prog W .any base 50 v)
    (h : DataW.Trod enc Try.prog W 0 (fun _ => true) true 50 v d ps) (hsz : (DataW.weightsEach Try.prog [50] [d]).all (· ≤ reachBytes) = true) (hup : Rows.uptoBulkAll [d] ≤ 1048576) :
    ∃ (T R H' Re Ca S B used mv : Int) (A1 : Option Addr) (n1 c1 : Nat) (A2 : Option Addr) (n2 c2 : Nat) (A3 : Option Addr) (n3 c3 : Nat) (A4 : Option Addr) (n4 c4 : Nat) (cs : List Cl) (tr : List Ac) (sh : List Sh) (rw_ : List Int),
      v = .agg #[.int .i64 T, .int .i64 R, .int .i64 H', .int .i64 Re, .int .i64 Ca, .int .i64 S, .int .i64 B, .int .i64 used, .slice A1 n1 c1, .slice A2 n2 c2, .slice A3 n3 c3, .slice A4 n4 c4, .int .i64 mv] ∧
      RunMem W A1 n1 A2 n2 A3 n3 A4 n4 cs tr sh rw_ ∧ n1 * 72 ≤ 140737488351232 ∧ n2 * 56 ≤ 140737488351232 ∧ n3 * 40 ≤ 140737488351232 ∧ n4 * 8 ≤ 140737488351232 ∧ n2 + n3 ≤ 1048576 ∧ n1 ≤ 1048576 ∧ n4 ≤ 1048576 := by
  obtain ⟨vs, rfl, _⟩ := okWide_struct Try.underlying50 hok
  obtain ⟨fuel, h⟩ := h
  obtain ⟨hl, xs, n, hx, hf⟩ := dec_parts Try.underlying50 h
  have hx : d = .agg (xs.map (·.1)) := hx
  subst hx
  have hsz1 := all_parts (j := 0) hsz rfl rfl Try.underlying50
  rw [show Try.prog.cellsOf 50 = 13 by kernel_rfl] at hl
  obtain ⟨cl, rfl⟩ : ∃ cl : List Value, vs = cl.toArray := ⟨vs.toList, by simp⟩
  have hl : cl.length = 13 := hl
  match cl, hl with
  | [c0, c1, c2, c3, c4, c5, c6, c7, c8, c9, c10, c11, c12], _ =>
    obtain ⟨y0, h0, _⟩ := hf 0 _ rfl
    obtain ⟨y1, h1, _⟩ := hf 1 _ rfl
    obtain ⟨y2, h2, g2⟩ := hf 2 _ rfl
    obtain ⟨y3, h3, _⟩ := hf 3 _ rfl
    simp only [Value.cells] at h0 h1 h2 h3
    simp only [List.getElem_toArray, List.getElem_cons_zero, List.getElem_cons_succ, cells_i, cells_cf, cells_ru, List.drop_zero, List.take_succ_cons, List.take_zero, List.drop_succ_cons] at h0 h1 h2 h3
    obtain ⟨T, R, H', Re, Ca, S, B, e0, _⟩ := dec_cfg _ _ _ h0
    obtain ⟨used, e1, _⟩ := dec_int Try.underlying3 _ _ _ h1
    obtain ⟨mv, e3, _⟩ := dec_int Try.underlying3 _ _ _ h3
    injection e0 with e00 e0
    injection e0 with e01 e0
    injection e0 with e02 e0
    injection e0 with e03 e0
    injection e0 with e04 e0
    injection e0 with e05 e0
    injection e0 with e06 e0
    injection e1 with e1 _
    injection e3 with e3 _
    subst e00 e01 e02 e03 e04 e05 e06 e1 e3
    obtain ⟨_, zs, n', hz, hg⟩ := dec_parts Try.underlying48 h2
    have hd2 : (xs.map (·.1))[2]? = some (.agg (zs.map (·.1))) := by rw [List.getElem?_map, g2, ← hz]; rfl
    have hsz2 := all_parts (j := 2) hsz1 rfl hd2 Try.underlying48
    obtain ⟨⟨z0, p0⟩, k0, q0⟩ := hg 0 _ rfl
    obtain ⟨⟨z1, p1⟩, k1, q1⟩ := hg 1 _ rfl
    obtain ⟨⟨z2, p2⟩, k2, q2⟩ := hg 2 _ rfl
    obtain ⟨⟨z3, p3⟩, k3, q3⟩ := hg 3 _ rfl
    simp only [List.getElem_toArray, List.getElem_cons_zero, List.getElem_cons_succ, cells_s1, cells_s2, cells_s3, cells_s4, List.drop_zero, List.take_succ_cons, List.take_zero, List.drop_succ_cons] at k0 k1 k2 k3
    obtain ⟨A1, n1, c1, cs, rfl, hn1, ha1, _, hd1⟩ := openArr Cl.enc (fun _ => True) Try.underlying44 dec_call k0
    obtain ⟨A2, n2, c2, tr, rfl, hn2, ha2, hw2, hd2'⟩ := openArr Ac.enc _ Try.underlying45 dec_access k1
    obtain ⟨A3, n3, c3, sh, rfl, hn3, ha3, _, hd3⟩ := openArr Sh.enc (fun _ => True) Try.underlying46 dec_shift k2
    obtain ⟨A4, n4, c4, ws, rfl, hn4, ha4, _, hd4⟩ := openArr (fun x => [Value.int .u64 x]) (fun _ => True) Try.underlying24 (fun fuel cs x h => by obtain ⟨a, e, _⟩ := dec_int Try.underlying25 fuel cs x h; exact ⟨a, e, trivial⟩) k3
    have r1 := reach_slice (j := 0) hsz2 rfl (by rw [List.getElem?_map, q0]; rfl) Try.underlying44 hd1
    have r2 := reach_slice (j := 1) hsz2 rfl (by rw [List.getElem?_map, q1]; rfl) Try.underlying45 hd2'
    have r3 := reach_slice (j := 2) hsz2 rfl (by rw [List.getElem?_map, q2]; rfl) Try.underlying46 hd3
    have r4 := reach_slice (j := 3) hsz2 rfl (by rw [List.getElem?_map, q3]; rfl) Try.underlying24 hd4
    rw [show Try.prog.bytesOf 150 = 72 by kernel_rfl] at r1
    rw [show Try.prog.bytesOf 129 = 56 by kernel_rfl] at r2
    rw [show Try.prog.bytesOf 136 = 40 by kernel_rfl] at r3
    rw [show Try.prog.bytesOf 25 = 8 by kernel_rfl] at r4
    have hup1 : Rows.uptoBulkAll (xs.map (·.1)) ≤ 1048576 := by
      simp only [Rows.uptoBulkAll, Rows.uptoBulk] at hup
      omega
    have hup2 : Rows.uptoBulkAll (zs.map (·.1)) ≤ 1048576 := by
      have h5 := part_le (List.mem_of_getElem? hd2)
      simp only [Rows.uptoBulk] at h5
      omega
    have u1 := len_bulk hn2 hd2'
    have u2 := len_bulk hn3 hd3
    have u0 := len_bulk hn1 hd1
    have u3 := len_bulk hn4 hd4
    have hu12 : Rows.uptoBulk z1 + Rows.uptoBulk z2 ≤ Rows.uptoBulkAll (zs.map (·.1)) := bulk_two (i := 1) (j := 2) (by decide) (by rw [List.getElem?_map, q1]; rfl) (by rw [List.getElem?_map, q2]; rfl)
    have hu03 : Rows.uptoBulk z0 + Rows.uptoBulk z3 ≤ Rows.uptoBulkAll (zs.map (·.1)) := bulk_two (i := 0) (j := 3) (by decide) (by rw [List.getElem?_map, q0]; rfl) (by rw [List.getElem?_map, q3]; rfl)
    have hw : Rd W A4 (ws.map (Value.int .u64)) := by
      have := ha4.2
      rwa [List.flatMap_def, flatten_one] at this
    exact ⟨T, R, H', Re, Ca, S, B, used, mv, A1, n1, c1, A2, n2, c2, A3, n3, c3, A4, n4, c4, cs, tr, sh, ws, rfl, ⟨ha1, ha2, ha3, hw, ha4.1, by omega, by omega, by omega, by omega, hw2⟩, by omega, by omega, by omega, by omega, by omega, by omega, by omega⟩
end

/-- From a law's walk to its row, for an input of bounded bulk. -/
theorem lawWrapUp {H : Type} {enc : TypeId × Value → H} {C : Checked} {os : Os} {f : FuncId} {fn : Func} {s : OpenSpec} {tb : TypeId} {F : Stop.Interp} (hk : s.cond = some Rows.uptoSmall)
    (own : ownKnob C.prog.godebug = none) (started : os.Started) (noInit : C.prog.inits.idxOf? f = none) (hfn : C.prog.funcs[f]? = some fn)
    (witness : ∃ (w : World) (tape : Tape) (i : Input), w.os = os ∧ (w.forCall tape i).Shaped C.prog ∧ i.vars = [] ∧ Input.okWide C.prog (w.forCall tape i) .any w.heap.size f i ∧
      s.pre6 enc C.prog fn [] false (w.forCall tape i).memory i.args ∧ ({} : Assume).holds C.prog (lone (Frame.enter C.prog f i.args .normal) [] (w.forCall tape i)))
    (hres : fn.resultTypes = #[tb]) (htb : C.prog.underlying tb = some .bool) (hvars : s.vars = []) (hvars' : (s.at F).vars = []) (hvt : s.bare.plain.varTypes C.prog = [])
    (hspec : ∀ ds : List (DataW H), ds.length = fn.params.size → ((s.at F).fn H ds).results = [.lit (.bool true)] ∧ ((s.at F).fn H ds).args = ds ∧ ((s.at F).fn H ds).vars = [])
    (hl : laidOutB C.prog = true) (hr : fn.params.toList.all (fun t => C.prog.readableRec t && decide (t < C.prog.types.size)) = true)
    (walk : ∀ (W : World) (base : Nat) (args : Array Value) (ds : List (DataW H)) (ps : List MemPlace),
      (∀ (j : Nat) t v, fn.params[j]? = some t → args[j]? = some v → Value.okWide C.prog W .any base t v) →
      DataW.TrodAll enc C.prog W 0 (fun _ => true) true fn.params.toList args.toList ds ps → (∀ x ∈ ps, x.block < W.heap.size) →
      (DataW.weightsEach C.prog fn.params.toList ds).all (· ≤ reachBytes) = true → Rows.uptoBulkAll ds ≤ 1048576 →
      Calls C.prog f args W fun e W' => e = .returned (.bool true) ∧ Below W.heap.size W W') :
    ReturnsInHanded {} C os f .any (s.pre6 enc C.prog fn [] false) ((s.at F).post enc C.prog fn false true false false) := by
  refine returnsInHanded_of_cond_sized hk own started noInit hfn witness ?_
  intro W base args ds gs before hval hW _ hkk hsz _
  have hW' := hW
  obtain ⟨p, q, hA, hV, rfl, _, _⟩ := hW
  rw [hvars] at hV
  obtain ⟨rfl, rfl⟩ := trodVars_none hV
  rw [hvt] at hsz
  simp only [List.append_nil] at hsz hW' hkk
  have hup : Rows.uptoBulkAll ds ≤ 1048576 := of_decide_eq_true hkk
  have hlt : ∀ x ∈ p, x.block < W.heap.size := fun x hx => by simpa using hW'.lt x hx
  refine (walk W base args ds p hval hA hlt hsz hup).mono fun e W' ⟨he, hb⟩ => ?_
  subst he
  have hlen : ds.length = fn.params.size := by rw [trodAll_len hA]; simp
  obtain ⟨s1, s2, s3⟩ := hspec ds hlen
  have hr' : ∀ t ∈ fn.params.toList, C.prog.readableRec t = true ∧ t < C.prog.types.size := fun t ht => by
    have := (List.all_eq_true.1 hr) t ht
    simpa using this
  rw [hvars] at hW'
  refine ⟨_, rfl, ds, [], p, [], p, [], (by rw [hvars']; exact hW'), ?_, ?_, ?_, hb.frame _, fun h => by cases h⟩
  · simp only [List.append_nil, s1, hres]
    exact ⟨[], [], shut_bool htb true, rfl, rfl⟩
  · simp only [List.append_nil, s2]
    exact trodAll_below hl hb hr' hA hlt
  · simp only [List.append_nil, s3, hvars']
    rfl

end Go.Proofs.Ytfbacopjookplaa
