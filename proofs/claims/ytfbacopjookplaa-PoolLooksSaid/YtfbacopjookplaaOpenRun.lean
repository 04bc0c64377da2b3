/- A configuration, a number, a run and a number of moves among a law's arguments. -/
import Derived.ProofKit
import Derived.SizedLaws
import Derived.Below
import Derived.Test.YtfbacopjookplaaBase
import Derived.Test.YtfbacopjookplaaProg
import Derived.Test.YtfbacopjookplaaTracePure
namespace Go.Proofs.Ytfbacopjookplaa
open Go.ChangeShapes Go.WideShapes Go.ChangeAt Go.RowKit

theorem bounds_u64' {n : Int} (h : (Lit.int .u64 n).wf = true) : 0 ≤ n ∧ n ≤ 18446744073709551615 := by
  simp [Lit.wf, IntKind.min, IntKind.max, IntKind.signed, IntKind.bits] at h
  omega
theorem bounds_i64' {n : Int} (h : (Lit.int .i64 n).wf = true) : -9223372036854775808 ≤ n ∧ n ≤ 9223372036854775807 := by
  simp [Lit.wf, IntKind.min, IntKind.max, IntKind.signed, IntKind.bits] at h
  omega

section
variable {H : Type} {enc : TypeId × Value → H} {P : Program}

theorem trodAll_below {W W' : World} (hl : laidOutB P = true) (hb : Below W.heap.size W W') : ∀ {ts : List TypeId} {vs : List Value} {ds : List (DataW H)} {ps : List MemPlace},
    (∀ t ∈ ts, P.readableRec t = true ∧ t < P.types.size) → DataW.TrodAll enc P W 0 (fun _ => true) true ts vs ds ps → (∀ x ∈ ps, x.block < W.heap.size) →
    DataW.TrodAll enc P W' 0 (fun b => decide (b < W.heap.size)) true ts vs ds ps
  | [], [], [], _, _, h, _ => h
  | t :: ts, v :: vs, d :: ds, ps, hr, h, hlt => by
    obtain ⟨p, q, h1, h2, rfl⟩ := h
    exact ⟨p, q, Below.trod hl (hr t (by simp)).1 (hr t (by simp)).2 h1 hb (fun x hx => hlt x (by simp [hx])), trodAll_below hl hb (fun t' ht' => hr t' (by simp [ht'])) h2 (fun x hx => hlt x (by simp [hx])), rfl⟩
  | [], _ :: _, _, _, _, h, _ => h.elim
  | [], [], _ :: _, _, _, h, _ => h.elim
  | _ :: _, [], _, _, _, h, _ => h.elim
  | _ :: _, _ :: _, [], _, _, h, _ => h.elim

theorem trodAll_len {W : World} {base : Nat} {sp : Nat → Bool} {held : Bool} : ∀ {ts : List TypeId} {vs : List Value} {ds : List (DataW H)} {ps : List MemPlace}, DataW.TrodAll enc P W base sp held ts vs ds ps → ds.length = ts.length
  | [], [], [], _, _ => rfl
  | t :: ts, v :: vs, d :: ds, _, h => by
    obtain ⟨p, q, _, h2, _⟩ := h
    simp [trodAll_len h2]
  | [], _ :: _, _, _, h => h.elim
  | [], [], _ :: _, _, h => h.elim
  | _ :: _, [], _, _, h => h.elim
  | _ :: _, _ :: _, [], _, h => h.elim
end

section
variable {H : Type} {enc : TypeId × Value → H} {P : Program} {W : World}

theorem cell_lt {w : World} {a : Addr} {u : Value} (h : w.cell? a = some u) : a.block < w.heap.size := by
  rcases Nat.lt_or_ge a.block w.heap.size with hlt | hge
  · exact hlt
  · simp [World.cell?, Array.getElem?_eq_none hge] at h

theorem add_add' (a : Addr) (i j : Nat) : (a.add i).add j = a.add (i + j) := by
  unfold Addr.add
  by_cases hi : i = 0 <;> by_cases hj : j = 0 <;> simp [hi, hj, Nat.add_assoc]

/-- A slice among the arguments: its elements, each read by R, lie one behind the other. -/
theorem openSlice {α : Type} (R : α → List Value → Prop) {t e : TypeId} {v : Value} {d : DataW H} {ps : List MemPlace} (ht : P.underlying t = some (.slice e))
    (hdec : ∀ (fuel : Nat) (cs : List Value) (x : DataW H × List MemPlace), DataW.trod enc P W 0 (fun _ => true) true fuel e cs = some x → ∃ a, R a cs) {fuel : Nat}
    (h : DataW.trod enc P W 0 (fun _ => true) true fuel t [v] = some (d, ps)) :
    ∃ (A : Option Addr) (n c : Nat) (xs : List α) (css : List (List Value)), v = .slice A n c ∧ n ≤ c ∧ xs.length = n ∧ css.length = n ∧
      (∀ (i : Nat) (a : α) (cs : List Value), xs[i]? = some a → css[i]? = some cs → R a cs) ∧ (∀ cs ∈ css, cs.length = P.cellsOf e) ∧ Rd W A css.flatten ∧
      ((d = .nil ∧ c = 0) ∨ ∃ el sp, d = .slice el sp ∧ el.length = n ∧ el.length + sp.length = c) := by
  rcases DataW.trod_slice ht h with ⟨h0, hx⟩ | ⟨a, len, cap, elems, rest, n, _, h0, hx, _, hle, _, hlen, hel, hsp, _⟩
  · injection h0 with h0
    subst h0
    injection hx with hd hp
    exact ⟨none, 0, 0, [], [], rfl, Nat.le_refl _, rfl, rfl, fun i a cs h => (by simp at h), fun cs h => (by simp at h), Rd.nil _ _, .inl ⟨hd, rfl⟩⟩
  · injection h0 with h0
    subst h0
    injection hx with hd hp
    have hrest := (hsp rfl).1
    have each : ∀ i, i < len → ∃ y : α × List Value, W.cells? 0 (a.add (i * P.cellsOf e)) (P.cellsOf e) = some y.2 ∧ R y.1 y.2 := by
      intro i hi
      have := hel i hi
      obtain ⟨y, hy⟩ : ∃ y, elems[i]? = some y := ⟨_, List.getElem?_eq_getElem (by omega)⟩
      rw [hy] at this
      obtain ⟨cs, h1, h2⟩ := Option.bind_eq_some_iff.1 this
      obtain ⟨b, hb⟩ := hdec _ _ _ h2
      exact ⟨(b, cs), h1, hb⟩
    obtain ⟨l, hl1, hl2⟩ : ∃ l : List (α × List Value), l.length = len ∧ ∀ i y, l[i]? = some y → W.cells? 0 (a.add (i * P.cellsOf e)) (P.cellsOf e) = some y.2 ∧ R y.1 y.2 := by
      clear hel hsp hlen hrest hd hp h hle
      induction len with
      | zero => exact ⟨[], rfl, fun i y h => by simp at h⟩
      | succ k ih =>
        obtain ⟨l, h1, h2⟩ := ih (fun i hi => each i (by omega))
        obtain ⟨y, hy⟩ := each k (by omega)
        refine ⟨l ++ [y], by simp [h1], fun i z hz => ?_⟩
        by_cases hi : i < l.length
        · rw [List.getElem?_append_left hi] at hz
          exact h2 i z hz
        · rw [List.getElem?_append_right (by omega)] at hz
          obtain ⟨hlt, _⟩ := List.getElem?_eq_some_iff.1 hz
          have hik : i = k := by simp at hlt; omega
          subst hik
          rw [h1, Nat.sub_self] at hz
          simp at hz
          subst hz
          exact hy
    have hszs : ∀ cs ∈ l.map (·.2), cs.length = P.cellsOf e := by
      intro cs hcs
      obtain ⟨y, hy, rfl⟩ := List.mem_map.1 hcs
      obtain ⟨i, hi⟩ := List.getElem?_of_mem hy
      exact (World.cells?_some (hl2 i y hi).1).2.1
    refine ⟨some a, len, cap, l.map (·.1), l.map (·.2), rfl, hle, by simpa using hl1, by simpa using hl1, ?_, hszs, ?_, .inr ⟨_, _, hd, by simpa using hlen, by simp [hlen, hrest]; omega⟩⟩
    · intro i b cs hb hc
      rw [List.getElem?_map] at hb hc
      cases hy : l[i]? with
      | none => rw [hy] at hb; cases hb
      | some y =>
        rw [hy] at hb hc
        injection hb with hb
        injection hc with hc
        subst hb hc
        exact (hl2 i y hy).2
    · have key : ∀ j u, (l.map (·.2)).flatten[j]? = some u → W.cell? (a.add j) = some u := by
        have gen : ∀ (m : List (α × List Value)) (k : Nat), (∀ i y, m[i]? = some y → W.cells? 0 (a.add ((k + i) * P.cellsOf e)) (P.cellsOf e) = some y.2) → ∀ j u, (m.map (·.2)).flatten[j]? = some u → W.cell? (a.add (k * P.cellsOf e + j)) = some u := by
          intro m
          induction m with
          | nil => intro k _ j u hu; simp at hu
          | cons y m ih =>
            intro k hm j u hu
            have h0 := hm 0 y rfl
            rw [Nat.add_zero] at h0
            obtain ⟨_, hlen0, hc0⟩ := World.cells?_some h0
            simp only [List.map_cons, List.flatten_cons] at hu
            by_cases hj : j < y.2.length
            · rw [List.getElem?_append_left hj] at hu
              have := hc0 j (by omega)
              rw [hu, add_add'] at this
              exact this
            · rw [List.getElem?_append_right (by omega)] at hu
              have := ih (k + 1) (fun i z hz => by
                have := hm (i + 1) z (by simpa using hz)
                rwa [show k + (i + 1) = k + 1 + i from by omega] at this) _ u hu
              rw [Nat.succ_mul] at this
              rwa [show k * P.cellsOf e + P.cellsOf e + (j - y.2.length) = k * P.cellsOf e + j from by omega] at this
        intro j u hu
        have := gen l 0 (fun i y hy => by rw [Nat.zero_add]; exact (hl2 i y hy).1) j u hu
        rwa [Nat.zero_mul, Nat.zero_add] at this
      intro hne
      obtain ⟨u, us, hus⟩ := List.exists_cons_of_ne_nil hne
      have h0 := key 0 u (by rw [hus]; rfl)
      obtain ⟨b, off, spot⟩ := a
      have hspot : spot = none := World.cell?_spot (by simpa [Addr.add] using h0)
      subst hspot
      refine ⟨b, off, rfl, ?_, fun j u hu => ?_⟩
      · have := cell_lt h0
        simpa [Addr.add] using this
      · have := key j u hu
        rwa [Addr.add_lit] at this
theorem dec_int {e : TypeId} {k : IntKind} (he : P.underlying e = some (.int k)) (fuel : Nat) (cs : List Value) (x : DataW H × List MemPlace) (h : DataW.trod enc P W 0 (fun _ => true) true fuel e cs = some x) :
    ∃ a : Int, cs = [.int k a] ∧ (Lit.int k a).wf = true := by
  cases fuel with
  | zero => simp [DataW.trod] at h
  | succ n =>
    unfold DataW.trod at h
    rw [he] at h
    split at h <;> simp_all

theorem dec_bool {e : TypeId} (he : P.underlying e = some .bool) (fuel : Nat) (cs : List Value) (x : DataW H × List MemPlace) (h : DataW.trod enc P W 0 (fun _ => true) true fuel e cs = some x) :
    ∃ a : Bool, cs = [.bool a] := by
  cases fuel with
  | zero => simp [DataW.trod] at h
  | succ n =>
    unfold DataW.trod at h
    rw [he] at h
    split at h <;> simp_all

/-- A struct's fields, each read by itself. -/
theorem dec_fields {t : TypeId} {fs : Array Field} (ht : P.underlying t = some (.struct fs)) {fuel : Nat} {cs : List Value} {x : DataW H × List MemPlace} (h : DataW.trod enc P W 0 (fun _ => true) true fuel t cs = some x) :
    cs.length = P.cellsOf t ∧ ∃ n, ∀ (i : Nat) (f : Field), fs[i]? = some f → ∃ y, DataW.trod enc P W 0 (fun _ => true) true n f.type ((cs.drop f.offset).take (P.cellsOf f.type)) = some y := by
  obtain ⟨xs, n, _, _, hl, hlen, hf⟩ := DataW.trod_struct ht h
  refine ⟨hl, n, fun i f hi => ?_⟩
  have hlt := (Array.getElem?_eq_some_iff.1 hi).1
  exact ⟨xs[i], (hf i f hi).trans (List.getElem?_eq_getElem (by omega))⟩

theorem css_eq {α : Type} {enc' : α → List Value} : ∀ {xs : List α} {css : List (List Value)}, xs.length = css.length → (∀ (i : Nat) (a : α) (cs : List Value), xs[i]? = some a → css[i]? = some cs → cs = enc' a) → css = xs.map enc'
  | [], [], _, _ => rfl
  | x :: xs, cs :: css, hl, h => by
    rw [List.map_cons, h 0 x cs rfl rfl, css_eq (xs := xs) (css := css) (by simpa using hl) fun i a cs ha hc => h (i + 1) a cs (by simpa using ha) (by simpa using hc)]
  | [], _ :: _, hl, _ => by simp at hl
  | _ :: _, [], hl, _ => by simp at hl

theorem flatten_one (f : Int → Value) (xs : List Int) : (xs.map fun x => [f x]).flatten = xs.map f := by
  induction xs with
  | nil => rfl
  | cons x xs ih => simp [ih]

theorem cells_slice {t e : TypeId} {base : Nat} {v : Value} (ht : P.underlying t = some (.slice e)) (h : Value.okWide P W .any base t v) : v.cells.toList = [v] := by
  obtain ⟨a0, len, cap, rfl⟩ := okWide_slice ht h
  rfl

/-- A slice of ints among the arguments. -/
theorem openInts {t e : TypeId} {base : Nat} {v : Value} {d : DataW H} {ps : List MemPlace} (ht : P.underlying t = some (.slice e)) (he : P.underlying e = some (.int .i64)) (hok : Value.okWide P W .any base t v)
    (h : DataW.Trod enc P W 0 (fun _ => true) true t v d ps) :
    ∃ (A : Option Addr) (n c : Nat) (xs : List Int), v = .slice A n c ∧ n ≤ c ∧ Ints W A n xs ∧ (∀ x ∈ xs, (Lit.int .i64 x).wf = true) ∧
      ((d = .nil ∧ c = 0) ∨ ∃ el sp, d = .slice el sp ∧ el.length = n ∧ el.length + sp.length = c) := by
  obtain ⟨fuel, h⟩ := h
  rw [cells_slice ht hok] at h
  obtain ⟨A, n, c, xs, css, rfl, hnc, hx, hc, hR, _, hrd, hd⟩ := openSlice (fun (x : Int) cs => cs = [.int .i64 x] ∧ (Lit.int .i64 x).wf = true) ht (fun fuel cs x h => dec_int he fuel cs x h) h
  have e1 := css_eq (enc' := fun x => [Value.int .i64 x]) (hx.trans hc.symm) (fun i a cs h1 h2 => (hR i a cs h1 h2).1)
  rw [e1, flatten_one] at hrd
  refine ⟨A, n, c, xs, rfl, hnc, ⟨hx, hrd⟩, fun x hx' => ?_, hd⟩
  obtain ⟨i, hi⟩ := List.getElem?_of_mem hx'
  obtain ⟨hlt, _⟩ := List.getElem?_eq_some_iff.1 hi
  exact (hR i x css[i] hi (List.getElem?_eq_getElem (by omega))).2

/-- The form's own reach: how long a slice that was read may be. -/
theorem reach_slice {ts : List TypeId} {ds : List (DataW H)} {t e : TypeId} {j n c : Nat} {d : DataW H} (hsz : (DataW.weightsEach P ts ds).all (· ≤ reachBytes) = true) (ht : ts[j]? = some t) (hd : ds[j]? = some d) (hu : P.underlying t = some (.slice e))
    (h : (d = .nil ∧ c = 0) ∨ ∃ el sp, d = .slice el sp ∧ el.length = n ∧ el.length + sp.length = c) : c * P.bytesOf e ≤ 140737488351232 := by
  rcases h with ⟨_, rfl⟩ | ⟨el, sp, rfl, _, hc⟩
  · simp
  · have := sized_slice hsz ht hd hu
    rw [hc] at this
    exact this
end

/-- A law's row out of its walk. -/
theorem lawWrap {H : Type} {enc : TypeId × Value → H} {C : Checked} {os : Os} {f : FuncId} {fn : Func} {s : ChangeSpec} {tb : TypeId}
    (own : ownKnob C.prog.godebug = none) (started : os.Started) (noInit : C.prog.inits.idxOf? f = none) (hfn : C.prog.funcs[f]? = some fn)
    (witness : ∃ (w : World) (tape : Tape) (i : Input), w.os = os ∧ (w.forCall tape i).Shaped C.prog ∧ i.vars = [] ∧ Input.okWide C.prog (w.forCall tape i) .any w.heap.size f i ∧
      s.pre6 enc C.prog fn [] false (w.forCall tape i).memory i.args ∧ ({} : Assume).holds C.prog (lone (Frame.enter C.prog f i.args .normal) [] (w.forCall tape i)))
    (hres : fn.resultTypes = #[tb]) (htb : C.prog.underlying tb = some .bool) (hvars : s.vars = [])
    (hspec : ∀ ds : List (DataW H), ds.length = fn.params.size → (s.fn H ds).results = [.lit (.bool true)] ∧ (s.fn H ds).args = ds ∧ (s.fn H ds).vars = [])
    (hl : laidOutB C.prog = true) (hr : fn.params.toList.all (fun t => C.prog.readableRec t && decide (t < C.prog.types.size)) = true)
    (walk : ∀ (W : World) (base : Nat) (args : Array Value) (ds : List (DataW H)) (ps : List MemPlace),
      (∀ (j : Nat) t v, fn.params[j]? = some t → args[j]? = some v → Value.okWide C.prog W .any base t v) →
      DataW.TrodAll enc C.prog W 0 (fun _ => true) true fn.params.toList args.toList ds ps → (∀ x ∈ ps, x.block < W.heap.size) →
      (DataW.weightsEach C.prog fn.params.toList ds).all (· ≤ reachBytes) = true →
      Calls C.prog f args W fun e W' => e = .returned (.bool true) ∧ Below W.heap.size W W') :
    ReturnsInHanded {} C os f .any (s.pre6 enc C.prog fn [] false) (s.post enc C.prog fn false true false false) := by
  refine returnsInHanded_of_change_sized own started noInit hfn witness ?_
  intro W base args ds gs before hval hW _ hsz _
  have hW' := hW
  obtain ⟨p, q, hA, hV, rfl, _, _⟩ := hW
  rw [hvars] at hV
  obtain ⟨rfl, rfl⟩ := trodVars_none hV
  have hvt : s.plain.varTypes C.prog = [] := by
    unfold DataSpec.varTypes ChangeSpec.plain
    simp [hvars]
  rw [hvt] at hsz
  simp only [List.append_nil] at hsz hW'
  have hlt : ∀ x ∈ p, x.block < W.heap.size := fun x hx => by simpa using hW'.lt x hx
  refine (walk W base args ds p hval hA hlt hsz).mono fun e W' ⟨he, hb⟩ => ?_
  subst he
  have hlen : ds.length = fn.params.size := by rw [trodAll_len hA]; simp
  obtain ⟨s1, s2, s3⟩ := hspec ds hlen
  have hr' : ∀ t ∈ fn.params.toList, C.prog.readableRec t = true ∧ t < C.prog.types.size := fun t ht => by
    have := (List.all_eq_true.1 hr) t ht
    simpa using this
  refine ⟨_, rfl, ds, [], p, [], p, [], hW', ?_, ?_, ?_, hb.frame _, fun h => by cases h⟩
  · simp only [List.append_nil, s1, hres]
    exact ⟨[], [], shut_bool htb true, rfl, rfl⟩
  · simp only [List.append_nil, s2]
    exact trodAll_below hl hb hr' hA hlt
  · simp only [List.append_nil, s3, hvars]
    rfl

section
variable {H : Type} {enc : TypeId × Value → H} {W : World}

/-- A number that an int holds. -/
def I64 (x : Int) : Prop := -9223372036854775808 ≤ x ∧ x ≤ 9223372036854775807
theorem cellsInt : Try.prog.cellsOf 3 = 1 := by kernel_rfl
set_option maxRecDepth 100000 in
theorem dec_cfg (fuel : Nat) (cs : List Value) (x : DataW H × List MemPlace) (h : DataW.trod enc Try.prog W 0 (fun _ => true) true fuel 23 cs = some x) :
    ∃ T R H' Re Ca S B : Int, cs = [.int .i64 T, .int .i64 R, .int .i64 H', .int .i64 Re, .int .i64 Ca, .int .i64 S, .int .i64 B] ∧ I64 T ∧ I64 R ∧ I64 H' ∧ I64 Re ∧ I64 Ca ∧ I64 S ∧ I64 B := by
  obtain ⟨hl, n, hf⟩ := dec_fields Try.underlying23 h
  rw [show Try.prog.cellsOf 23 = 7 by kernel_rfl] at hl
  match cs, hl with
  | [c0, c1, c2, c3, c4, c5, c6], _ =>
    obtain ⟨y0, h0⟩ := hf 0 _ rfl
    obtain ⟨y1, h1⟩ := hf 1 _ rfl
    obtain ⟨y2, h2⟩ := hf 2 _ rfl
    obtain ⟨y3, h3⟩ := hf 3 _ rfl
    obtain ⟨y4, h4⟩ := hf 4 _ rfl
    obtain ⟨y5, h5⟩ := hf 5 _ rfl
    obtain ⟨y6, h6⟩ := hf 6 _ rfl
    simp only [List.getElem_toArray, List.getElem_cons_zero, List.getElem_cons_succ, cellsInt, List.drop_zero, List.take_succ_cons, List.take_zero, List.drop_succ_cons] at h0 h1 h2 h3 h4 h5 h6
    obtain ⟨a0, e0, w0⟩ := dec_int Try.underlying3 _ _ _ h0
    obtain ⟨a1, e1, w1⟩ := dec_int Try.underlying3 _ _ _ h1
    obtain ⟨a2, e2, w2⟩ := dec_int Try.underlying3 _ _ _ h2
    obtain ⟨a3, e3, w3⟩ := dec_int Try.underlying3 _ _ _ h3
    obtain ⟨a4, e4, w4⟩ := dec_int Try.underlying3 _ _ _ h4
    obtain ⟨a5, e5, w5⟩ := dec_int Try.underlying3 _ _ _ h5
    obtain ⟨a6, e6, w6⟩ := dec_int Try.underlying3 _ _ _ h6
    injection e0 with e0
    injection e1 with e1
    injection e2 with e2
    injection e3 with e3
    injection e4 with e4
    injection e5 with e5
    injection e6 with e6
    subst e0 e1 e2 e3 e4 e5 e6
    exact ⟨a0, a1, a2, a3, a4, a5, a6, rfl, bounds_i64' w0, bounds_i64' w1, bounds_i64' w2, bounds_i64' w3, bounds_i64' w4, bounds_i64' w5, bounds_i64' w6⟩

set_option maxRecDepth 100000 in
theorem openCfg {base : Nat} {v : Value} {d : DataW H} {ps : List MemPlace} (hok : Value.okWide Try.prog W .any base 23 v)
    (h : DataW.Trod enc Try.prog W 0 (fun _ => true) true 23 v d ps) :
    ∃ T R H' Re Ca S B : Int, v = .agg #[.int .i64 T, .int .i64 R, .int .i64 H', .int .i64 Re, .int .i64 Ca, .int .i64 S, .int .i64 B] ∧ I64 T ∧ I64 R ∧ I64 H' ∧ I64 Re ∧ I64 Ca ∧ I64 S ∧ I64 B := by
  obtain ⟨cs, rfl, _⟩ := okWide_struct Try.underlying23 hok
  obtain ⟨fuel, h⟩ := h
  obtain ⟨T, R, H', Re, Ca, S, B, e, hb⟩ := dec_cfg _ _ _ h
  refine ⟨T, R, H', Re, Ca, S, B, ?_, hb⟩
  have : cs.toList = _ := e
  rw [← Array.toArray_toList (xs := cs), this]

set_option maxRecDepth 100000 in
/-- A slice of words among the arguments. -/
theorem openWords {t e : TypeId} {base : Nat} {v : Value} {d : DataW H} {ps : List MemPlace} (ht : Try.prog.underlying t = some (.slice e)) (he : Try.prog.underlying e = some (.int .u64)) (hok : Value.okWide Try.prog W .any base t v)
    (h : DataW.Trod enc Try.prog W 0 (fun _ => true) true t v d ps) :
    ∃ (A : Option Addr) (n c : Nat) (ws : List Int), v = .slice A n c ∧ n ≤ c ∧ ws.length = n ∧ Rd W A (ws.map (Value.int .u64)) ∧ (∀ x ∈ ws, 0 ≤ x ∧ x ≤ 18446744073709551615) ∧
      ((d = .nil ∧ c = 0) ∨ ∃ el sp, d = .slice el sp ∧ el.length = n ∧ el.length + sp.length = c) := by
  obtain ⟨fuel, h⟩ := h
  rw [cells_slice ht hok] at h
  obtain ⟨A, n, c, xs, css, rfl, hnc, hx, hc, hR, _, hrd, hd⟩ := openSlice (fun (x : Int) cs => cs = [.int .u64 x] ∧ (Lit.int .u64 x).wf = true) ht (fun fuel cs x h => dec_int he fuel cs x h) h
  have e1 := css_eq (enc' := fun x => [Value.int .u64 x]) (hx.trans hc.symm) (fun i a cs h1 h2 => (hR i a cs h1 h2).1)
  rw [e1, flatten_one] at hrd
  refine ⟨A, n, c, xs, rfl, hnc, hx, hrd, fun x hx' => ?_, hd⟩
  obtain ⟨i, hi⟩ := List.getElem?_of_mem hx'
  obtain ⟨hlt, _⟩ := List.getElem?_eq_some_iff.1 hi
  exact bounds_u64' (hR i x css[i] hi (List.getElem?_eq_getElem (by omega))).2
end

section
variable {H : Type} {enc : TypeId × Value → H} {W : World}

theorem dec_parts {P : Program} {t : TypeId} {fs : Array Field} (ht : P.underlying t = some (.struct fs)) {fuel : Nat} {cs : List Value} {x : DataW H × List MemPlace} (h : DataW.trod enc P W 0 (fun _ => true) true fuel t cs = some x) :
    cs.length = P.cellsOf t ∧ ∃ (xs : List (DataW H × List MemPlace)) (n : Nat), x.1 = .agg (xs.map (·.1)) ∧ ∀ (i : Nat) (f : Field), fs[i]? = some f → ∃ y, DataW.trod enc P W 0 (fun _ => true) true n f.type ((cs.drop f.offset).take (P.cellsOf f.type)) = some y ∧ xs[i]? = some y := by
  obtain ⟨xs, n, _, hx, hl, hlen, hf⟩ := DataW.trod_struct ht h
  refine ⟨hl, xs, n, by rw [hx], fun i f hi => ?_⟩
  have hlt := (Array.getElem?_eq_some_iff.1 hi).1
  exact ⟨xs[i], (hf i f hi).trans (List.getElem?_eq_getElem (by omega)), List.getElem?_eq_getElem (by omega)⟩
/-- What bounds a struct bounds its parts. -/
theorem all_parts {P : Program} {ts : List TypeId} {ds : List (DataW H)} {j : Nat} {t : TypeId} {parts : List (DataW H)} {fs : Array Field} (h : (DataW.weightsEach P ts ds).all (· ≤ reachBytes) = true) (ht : ts[j]? = some t) (hd : ds[j]? = some (.agg parts)) (hu : P.underlying t = some (.struct fs)) :
    (DataW.weightsEach P (fs.toList.map (·.type)) parts).all (· ≤ reachBytes) = true := by
  refine List.all_eq_true.2 fun n hn => List.all_eq_true.1 h n (DataW.weights_mem_each ht hd n ?_)
  simp only [DataW.weights, hu]
  exact hn
/-- A slice of structs among the arguments. -/
theorem openArr {α : Type} {P : Program} (en : α → List Value) (R : α → Prop) {t e : TypeId} {v : Value} {d : DataW H} {ps : List MemPlace} (ht : P.underlying t = some (.slice e))
    (hdec : ∀ (fuel : Nat) (cs : List Value) (x : DataW H × List MemPlace), DataW.trod enc P W 0 (fun _ => true) true fuel e cs = some x → ∃ a, cs = en a ∧ R a) {fuel : Nat} (h : DataW.trod enc P W 0 (fun _ => true) true fuel t [v] = some (d, ps)) :
    ∃ (A : Option Addr) (n c : Nat) (xs : List α), v = .slice A n c ∧ n ≤ c ∧ Arr en W A n xs ∧ (∀ x ∈ xs, R x) ∧ ((d = .nil ∧ c = 0) ∨ ∃ el sp, d = .slice el sp ∧ el.length = n ∧ el.length + sp.length = c) := by
  obtain ⟨A, n, c, xs, css, rfl, hnc, hx, hc, hR, _, hrd, hd⟩ := openSlice (fun (x : α) cs => cs = en x ∧ R x) ht hdec h
  have e1 := css_eq (enc' := en) (hx.trans hc.symm) (fun i a cs h1 h2 => (hR i a cs h1 h2).1)
  rw [e1] at hrd
  refine ⟨A, n, c, xs, rfl, hnc, ⟨hx, by rw [List.flatMap_def]; exact hrd⟩, fun x hx' => ?_, hd⟩
  obtain ⟨i, hi⟩ := List.getElem?_of_mem hx'
  obtain ⟨hlt, _⟩ := List.getElem?_eq_some_iff.1 hi
  exact (hR i x css[i] hi (List.getElem?_eq_getElem (by omega))).2

theorem cells_i : Try.prog.cellsOf 3 = 1 := by kernel_rfl
theorem cells_op : Try.prog.cellsOf 145 = 1 := by kernel_rfl
theorem cells_ak : Try.prog.cellsOf 146 = 1 := by kernel_rfl
theorem cells_ac : Try.prog.cellsOf 127 = 1 := by kernel_rfl
theorem cells_st : Try.prog.cellsOf 76 = 1 := by kernel_rfl
theorem cells_u : Try.prog.cellsOf 25 = 1 := by kernel_rfl
theorem cells_an : Try.prog.cellsOf 148 = 2 := by kernel_rfl
theorem cells_cf : Try.prog.cellsOf 23 = 7 := by kernel_rfl
theorem cells_ru : Try.prog.cellsOf 48 = 4 := by kernel_rfl
theorem cells_s1 : Try.prog.cellsOf 44 = 1 := by kernel_rfl
theorem cells_s2 : Try.prog.cellsOf 45 = 1 := by kernel_rfl
theorem cells_s3 : Try.prog.cellsOf 46 = 1 := by kernel_rfl
theorem cells_s4 : Try.prog.cellsOf 24 = 1 := by kernel_rfl
set_option maxRecDepth 100000 in
theorem dec_answer (fuel : Nat) (cs : List Value) (x : DataW H × List MemPlace) (h : DataW.trod enc Try.prog W 0 (fun _ => true) true fuel 148 cs = some x) : ∃ a b : Int, cs = [.int .i64 a, .int .i64 b] := by
  obtain ⟨hl, n, hf⟩ := dec_fields Try.underlying148 h
  rw [show Try.prog.cellsOf 148 = 2 by kernel_rfl] at hl
  match cs, hl with
  | [c0, c1], _ =>
    obtain ⟨y0, h0⟩ := hf 0 _ rfl
    obtain ⟨y1, h1⟩ := hf 1 _ rfl
    simp only [List.getElem_toArray, List.getElem_cons_zero, List.getElem_cons_succ, cells_i, cells_ak, List.drop_zero, List.take_succ_cons, List.take_zero, List.drop_succ_cons] at h0 h1
    obtain ⟨a0, e0, _⟩ := dec_int Try.underlying146 _ _ _ h0
    obtain ⟨a1, e1, _⟩ := dec_int Try.underlying3 _ _ _ h1
    injection e0 with e0
    injection e1 with e1
    subst e0 e1
    exact ⟨a0, a1, rfl⟩
set_option maxRecDepth 100000 in
theorem dec_call (fuel : Nat) (cs : List Value) (x : DataW H × List MemPlace) (h : DataW.trod enc Try.prog W 0 (fun _ => true) true fuel 150 cs = some x) : ∃ a : Cl, cs = a.enc ∧ True := by
  obtain ⟨hl, n, hf⟩ := dec_fields Try.underlying150 h
  rw [show Try.prog.cellsOf 150 = 9 by kernel_rfl] at hl
  match cs, hl with
  | [c0, c1, c2, c3, c4, c5, c6, c7, c8], _ =>
    obtain ⟨y0, h0⟩ := hf 0 _ rfl
    obtain ⟨y1, h1⟩ := hf 1 _ rfl
    obtain ⟨y2, h2⟩ := hf 2 _ rfl
    obtain ⟨y3, h3⟩ := hf 3 _ rfl
    obtain ⟨y4, h4⟩ := hf 4 _ rfl
    obtain ⟨y5, h5⟩ := hf 5 _ rfl
    obtain ⟨y6, h6⟩ := hf 6 _ rfl
    obtain ⟨y7, h7⟩ := hf 7 _ rfl
    simp only [List.getElem_toArray, List.getElem_cons_zero, List.getElem_cons_succ, cells_i, cells_op, cells_an, List.drop_zero, List.take_succ_cons, List.take_zero, List.drop_succ_cons] at h0 h1 h2 h3 h4 h5 h6 h7
    obtain ⟨a0, e0, w0⟩ := dec_int Try.underlying3 _ _ _ h0
    obtain ⟨a1, e1, w1⟩ := dec_int Try.underlying145 _ _ _ h1
    obtain ⟨a2, e2, w2⟩ := dec_int Try.underlying3 _ _ _ h2
    obtain ⟨a3, e3, w3⟩ := dec_int Try.underlying3 _ _ _ h3
    obtain ⟨a4, e4, w4⟩ := dec_int Try.underlying3 _ _ _ h4
    obtain ⟨a5, e5, w5⟩ := dec_int Try.underlying3 _ _ _ h5
    obtain ⟨a6, e6, w6⟩ := dec_int Try.underlying3 _ _ _ h6
    injection e0 with e0
    injection e1 with e1
    injection e2 with e2
    injection e3 with e3
    injection e4 with e4
    injection e5 with e5
    injection e6 with e6
    subst e0 e1 e2 e3 e4 e5 e6
    obtain ⟨a7, a8, e7⟩ := dec_answer _ _ _ h7
    injection e7 with e7 e8
    injection e8 with e8
    subst e7 e8
    exact ⟨⟨a0, a1, a2, a3, a4, a5, a6, a7, a8⟩, rfl, trivial⟩
set_option maxRecDepth 100000 in
theorem dec_access (fuel : Nat) (cs : List Value) (x : DataW H × List MemPlace) (h : DataW.trod enc Try.prog W 0 (fun _ => true) true fuel 129 cs = some x) : ∃ a : Ac, cs = a.enc ∧ (0 ≤ a.od ∧ a.od ≤ 18446744073709551615) ∧ (0 ≤ a.nw ∧ a.nw ≤ 18446744073709551615) ∧ (0 ≤ a.sw ∧ a.sw ≤ 18446744073709551615) := by
  obtain ⟨hl, n, hf⟩ := dec_fields Try.underlying129 h
  rw [show Try.prog.cellsOf 129 = 7 by kernel_rfl] at hl
  match cs, hl with
  | [c0, c1, c2, c3, c4, c5, c6], _ =>
    obtain ⟨y0, h0⟩ := hf 0 _ rfl
    obtain ⟨y1, h1⟩ := hf 1 _ rfl
    obtain ⟨y2, h2⟩ := hf 2 _ rfl
    obtain ⟨y3, h3⟩ := hf 3 _ rfl
    obtain ⟨y4, h4⟩ := hf 4 _ rfl
    obtain ⟨y5, h5⟩ := hf 5 _ rfl
    obtain ⟨y6, h6⟩ := hf 6 _ rfl
    simp only [List.getElem_toArray, List.getElem_cons_zero, List.getElem_cons_succ, cells_i, cells_ac, cells_u, List.drop_zero, List.take_succ_cons, List.take_zero, List.drop_succ_cons] at h0 h1 h2 h3 h4 h5 h6
    obtain ⟨a0, e0, w0⟩ := dec_int Try.underlying3 _ _ _ h0
    obtain ⟨a1, e1, w1⟩ := dec_int Try.underlying3 _ _ _ h1
    obtain ⟨a2, e2, w2⟩ := dec_int Try.underlying127 _ _ _ h2
    obtain ⟨a3, e3, w3⟩ := dec_int Try.underlying3 _ _ _ h3
    obtain ⟨a4, e4, w4⟩ := dec_int Try.underlying25 _ _ _ h4
    obtain ⟨a5, e5, w5⟩ := dec_int Try.underlying25 _ _ _ h5
    obtain ⟨a6, e6, w6⟩ := dec_int Try.underlying25 _ _ _ h6
    injection e0 with e0
    injection e1 with e1
    injection e2 with e2
    injection e3 with e3
    injection e4 with e4
    injection e5 with e5
    injection e6 with e6
    subst e0 e1 e2 e3 e4 e5 e6
    exact ⟨⟨a0, a1, a2, a3, a4, a5, a6⟩, rfl, bounds_u64' w4, bounds_u64' w5, bounds_u64' w6⟩
set_option maxRecDepth 100000 in
theorem dec_shift (fuel : Nat) (cs : List Value) (x : DataW H × List MemPlace) (h : DataW.trod enc Try.prog W 0 (fun _ => true) true fuel 136 cs = some x) : ∃ a : Sh, cs = a.enc ∧ True := by
  obtain ⟨hl, n, hf⟩ := dec_fields Try.underlying136 h
  rw [show Try.prog.cellsOf 136 = 5 by kernel_rfl] at hl
  match cs, hl with
  | [c0, c1, c2, c3, c4], _ =>
    obtain ⟨y0, h0⟩ := hf 0 _ rfl
    obtain ⟨y1, h1⟩ := hf 1 _ rfl
    obtain ⟨y2, h2⟩ := hf 2 _ rfl
    obtain ⟨y3, h3⟩ := hf 3 _ rfl
    obtain ⟨y4, h4⟩ := hf 4 _ rfl
    simp only [List.getElem_toArray, List.getElem_cons_zero, List.getElem_cons_succ, cells_i, cells_st, List.drop_zero, List.take_succ_cons, List.take_zero, List.drop_succ_cons] at h0 h1 h2 h3 h4
    obtain ⟨a0, e0, w0⟩ := dec_int Try.underlying3 _ _ _ h0
    obtain ⟨a1, e1, w1⟩ := dec_int Try.underlying3 _ _ _ h1
    obtain ⟨a2, e2, w2⟩ := dec_int Try.underlying3 _ _ _ h2
    obtain ⟨a3, e3, w3⟩ := dec_int Try.underlying76 _ _ _ h3
    obtain ⟨a4, e4, w4⟩ := dec_int Try.underlying76 _ _ _ h4
    injection e0 with e0
    injection e1 with e1
    injection e2 with e2
    injection e3 with e3
    injection e4 with e4
    subst e0 e1 e2 e3 e4
    exact ⟨⟨a0, a1, a2, a3, a4⟩, rfl, trivial⟩

set_option maxRecDepth 100000 in
/-- A configuration, a number, a run, a number of moves. -/
theorem openCase {base : Nat} {v : Value} {d : DataW H} {ps : List MemPlace} (hok : Value.okWide Try.prog W .any base 50 v)
    (h : DataW.Trod enc Try.prog W 0 (fun _ => true) true 50 v d ps) (hsz : (DataW.weightsEach Try.prog [50] [d]).all (· ≤ reachBytes) = true) :
    ∃ (T R H' Re Ca S B used mv : Int) (A1 : Option Addr) (n1 c1 : Nat) (A2 : Option Addr) (n2 c2 : Nat) (A3 : Option Addr) (n3 c3 : Nat) (A4 : Option Addr) (n4 c4 : Nat) (cs : List Cl) (tr : List Ac) (sh : List Sh) (rw_ : List Int),
      v = .agg #[.int .i64 T, .int .i64 R, .int .i64 H', .int .i64 Re, .int .i64 Ca, .int .i64 S, .int .i64 B, .int .i64 used, .slice A1 n1 c1, .slice A2 n2 c2, .slice A3 n3 c3, .slice A4 n4 c4, .int .i64 mv] ∧
      RunMem W A1 n1 A2 n2 A3 n3 A4 n4 cs tr sh rw_ ∧ n1 * 72 ≤ 140737488351232 ∧ n2 * 56 ≤ 140737488351232 ∧ n3 * 40 ≤ 140737488351232 ∧ n4 * 8 ≤ 140737488351232 := by
  obtain ⟨vs, rfl, _⟩ := okWide_struct Try.underlying50 hok
  obtain ⟨fuel, h⟩ := h
  obtain ⟨hl, xs, n, hx, hf⟩ := dec_parts Try.underlying50 h
  have hx : d = .agg (xs.map (·.1)) := hx
  subst hx
  have hsz1 := all_parts (j := 0) hsz rfl rfl Try.underlying50
  rw [show Try.prog.cellsOf 50 = 13 by kernel_rfl] at hl
  obtain ⟨cl, rfl⟩ : ∃ cl : List Value, vs = cl.toArray := ⟨vs.toList, by simp⟩
  have hl : cl.length = 13 := hl
  match cl, hl with
  | [c0, c1, c2, c3, c4, c5, c6, c7, c8, c9, c10, c11, c12], _ =>
    obtain ⟨y0, h0, _⟩ := hf 0 _ rfl
    obtain ⟨y1, h1, _⟩ := hf 1 _ rfl
    obtain ⟨y2, h2, g2⟩ := hf 2 _ rfl
    obtain ⟨y3, h3, _⟩ := hf 3 _ rfl
    simp only [Value.cells] at h0 h1 h2 h3
    simp only [List.getElem_toArray, List.getElem_cons_zero, List.getElem_cons_succ, cells_i, cells_cf, cells_ru, List.drop_zero, List.take_succ_cons, List.take_zero, List.drop_succ_cons] at h0 h1 h2 h3
    obtain ⟨T, R, H', Re, Ca, S, B, e0, _⟩ := dec_cfg _ _ _ h0
    obtain ⟨used, e1, _⟩ := dec_int Try.underlying3 _ _ _ h1
    obtain ⟨mv, e3, _⟩ := dec_int Try.underlying3 _ _ _ h3
    injection e0 with e00 e0
    injection e0 with e01 e0
    injection e0 with e02 e0
    injection e0 with e03 e0
    injection e0 with e04 e0
    injection e0 with e05 e0
    injection e0 with e06 e0
    injection e1 with e1 _
    injection e3 with e3 _
    subst e00 e01 e02 e03 e04 e05 e06 e1 e3
    obtain ⟨_, zs, n', hz, hg⟩ := dec_parts Try.underlying48 h2
    have hd2 : (xs.map (·.1))[2]? = some (.agg (zs.map (·.1))) := by rw [List.getElem?_map, g2, ← hz]; rfl
    have hsz2 := all_parts (j := 2) hsz1 rfl hd2 Try.underlying48
    obtain ⟨⟨z0, p0⟩, k0, q0⟩ := hg 0 _ rfl
    obtain ⟨⟨z1, p1⟩, k1, q1⟩ := hg 1 _ rfl
    obtain ⟨⟨z2, p2⟩, k2, q2⟩ := hg 2 _ rfl
    obtain ⟨⟨z3, p3⟩, k3, q3⟩ := hg 3 _ rfl
    simp only [List.getElem_toArray, List.getElem_cons_zero, List.getElem_cons_succ, cells_s1, cells_s2, cells_s3, cells_s4, List.drop_zero, List.take_succ_cons, List.take_zero, List.drop_succ_cons] at k0 k1 k2 k3
    obtain ⟨A1, n1, c1, cs, rfl, hn1, ha1, _, hd1⟩ := openArr Cl.enc (fun _ => True) Try.underlying44 dec_call k0
    obtain ⟨A2, n2, c2, tr, rfl, hn2, ha2, hw2, hd2'⟩ := openArr Ac.enc _ Try.underlying45 dec_access k1
    obtain ⟨A3, n3, c3, sh, rfl, hn3, ha3, _, hd3⟩ := openArr Sh.enc (fun _ => True) Try.underlying46 dec_shift k2
    obtain ⟨A4, n4, c4, ws, rfl, hn4, ha4, _, hd4⟩ := openArr (fun x => [Value.int .u64 x]) (fun _ => True) Try.underlying24 (fun fuel cs x h => by obtain ⟨a, e, _⟩ := dec_int Try.underlying25 fuel cs x h; exact ⟨a, e, trivial⟩) k3
    have r1 := reach_slice (j := 0) hsz2 rfl (by rw [List.getElem?_map, q0]; rfl) Try.underlying44 hd1
    have r2 := reach_slice (j := 1) hsz2 rfl (by rw [List.getElem?_map, q1]; rfl) Try.underlying45 hd2'
    have r3 := reach_slice (j := 2) hsz2 rfl (by rw [List.getElem?_map, q2]; rfl) Try.underlying46 hd3
    have r4 := reach_slice (j := 3) hsz2 rfl (by rw [List.getElem?_map, q3]; rfl) Try.underlying24 hd4
    rw [show Try.prog.bytesOf 150 = 72 by kernel_rfl] at r1
    rw [show Try.prog.bytesOf 129 = 56 by kernel_rfl] at r2
    rw [show Try.prog.bytesOf 136 = 40 by kernel_rfl] at r3
    rw [show Try.prog.bytesOf 25 = 8 by kernel_rfl] at r4
    have hw : Rd W A4 (ws.map (Value.int .u64)) := by
      have := ha4.2
      rwa [List.flatMap_def, flatten_one] at this
    exact ⟨T, R, H', Re, Ca, S, B, used, mv, A1, n1, c1, A2, n2, c2, A3, n3, c3, A4, n4, c4, cs, tr, sh, ws, rfl, ⟨ha1, ha2, ha3, hw, ha4.1, by omega, by omega, by omega, by omega, hw2⟩, by omega, by omega, by omega, by omega⟩
end

end Go.Proofs.Ytfbacopjookplaa
