/- From the walk of a law that answers true and changes nothing older to the statement's row: for whatever program, whatever number of arguments. -/
import Derived.ProofKit
import Derived.SizedLaws
import Derived.Below
import Derived.Test.YtfbacopjookplaaBase
namespace Go.Proofs.Ytfbacopjookplaa
open Go.ChangeShapes Go.WideShapes Go.ChangeAt Go.RowKit

theorem bounds_u64' {n : Int} (h : (Lit.int .u64 n).wf = true) : 0 ≤ n ∧ n ≤ 18446744073709551615 := by
  simp [Lit.wf, IntKind.min, IntKind.max, IntKind.signed, IntKind.bits] at h
  omega
theorem bounds_i64' {n : Int} (h : (Lit.int .i64 n).wf = true) : -9223372036854775808 ≤ n ∧ n ≤ 9223372036854775807 := by
  simp [Lit.wf, IntKind.min, IntKind.max, IntKind.signed, IntKind.bits] at h
  omega

section
variable {H : Type} {enc : TypeId × Value → H} {P : Program}

theorem trodAll_below {W W' : World} (hl : laidOutB P = true) (hb : Below W.heap.size W W') : ∀ {ts : List TypeId} {vs : List Value} {ds : List (DataW H)} {ps : List MemPlace},
    (∀ t ∈ ts, P.readableRec t = true ∧ t < P.types.size) → DataW.TrodAll enc P W 0 (fun _ => true) true ts vs ds ps → (∀ x ∈ ps, x.block < W.heap.size) →
    DataW.TrodAll enc P W' 0 (fun b => decide (b < W.heap.size)) true ts vs ds ps
  | [], [], [], _, _, h, _ => h
  | t :: ts, v :: vs, d :: ds, ps, hr, h, hlt => by
    obtain ⟨p, q, h1, h2, rfl⟩ := h
    exact ⟨p, q, Below.trod hl (hr t (by simp)).1 (hr t (by simp)).2 h1 hb (fun x hx => hlt x (by simp [hx])), trodAll_below hl hb (fun t' ht' => hr t' (by simp [ht'])) h2 (fun x hx => hlt x (by simp [hx])), rfl⟩
  | [], _ :: _, _, _, _, h, _ => h.elim
  | [], [], _ :: _, _, _, h, _ => h.elim
  | _ :: _, [], _, _, _, h, _ => h.elim
  | _ :: _, _ :: _, [], _, _, h, _ => h.elim

theorem trodAll_len {W : World} {base : Nat} {sp : Nat → Bool} {held : Bool} : ∀ {ts : List TypeId} {vs : List Value} {ds : List (DataW H)} {ps : List MemPlace}, DataW.TrodAll enc P W base sp held ts vs ds ps → ds.length = ts.length
  | [], [], [], _, _ => rfl
  | t :: ts, v :: vs, d :: ds, _, h => by
    obtain ⟨p, q, _, h2, _⟩ := h
    simp [trodAll_len h2]
  | [], _ :: _, _, _, h => h.elim
  | [], [], _ :: _, _, h => h.elim
  | _ :: _, [], _, _, h => h.elim
  | _ :: _, _ :: _, [], _, h => h.elim
end

section
variable {H : Type} {enc : TypeId × Value → H} {P : Program} {W : World}

theorem cell_lt {w : World} {a : Addr} {u : Value} (h : w.cell? a = some u) : a.block < w.heap.size := by
  rcases Nat.lt_or_ge a.block w.heap.size with hlt | hge
  · exact hlt
  · simp [World.cell?, Array.getElem?_eq_none hge] at h

theorem add_add' (a : Addr) (i j : Nat) : (a.add i).add j = a.add (i + j) := by
  unfold Addr.add
  by_cases hi : i = 0 <;> by_cases hj : j = 0 <;> simp [hi, hj, Nat.add_assoc]

/-- A slice among the arguments: its elements, each read by R, lie one behind the other. -/
theorem openSlice {α : Type} (R : α → List Value → Prop) {t e : TypeId} {v : Value} {d : DataW H} {ps : List MemPlace} (ht : P.underlying t = some (.slice e))
    (hdec : ∀ (fuel : Nat) (cs : List Value) (x : DataW H × List MemPlace), DataW.trod enc P W 0 (fun _ => true) true fuel e cs = some x → ∃ a, R a cs) {fuel : Nat}
    (h : DataW.trod enc P W 0 (fun _ => true) true fuel t [v] = some (d, ps)) :
    ∃ (A : Option Addr) (n c : Nat) (xs : List α) (css : List (List Value)), v = .slice A n c ∧ n ≤ c ∧ xs.length = n ∧ css.length = n ∧
      (∀ (i : Nat) (a : α) (cs : List Value), xs[i]? = some a → css[i]? = some cs → R a cs) ∧ (∀ cs ∈ css, cs.length = P.cellsOf e) ∧ Rd W A css.flatten ∧
      ((d = .nil ∧ c = 0) ∨ ∃ el sp, d = .slice el sp ∧ el.length = n ∧ el.length + sp.length = c) := by
  rcases DataW.trod_slice ht h with ⟨h0, hx⟩ | ⟨a, len, cap, elems, rest, n, _, h0, hx, _, hle, _, hlen, hel, hsp, _⟩
  · injection h0 with h0
    subst h0
    injection hx with hd hp
    exact ⟨none, 0, 0, [], [], rfl, Nat.le_refl _, rfl, rfl, fun i a cs h => (by simp at h), fun cs h => (by simp at h), Rd.nil _ _, .inl ⟨hd, rfl⟩⟩
  · injection h0 with h0
    subst h0
    injection hx with hd hp
    have hrest := (hsp rfl).1
    have each : ∀ i, i < len → ∃ y : α × List Value, W.cells? 0 (a.add (i * P.cellsOf e)) (P.cellsOf e) = some y.2 ∧ R y.1 y.2 := by
      intro i hi
      have := hel i hi
      obtain ⟨y, hy⟩ : ∃ y, elems[i]? = some y := ⟨_, List.getElem?_eq_getElem (by omega)⟩
      rw [hy] at this
      obtain ⟨cs, h1, h2⟩ := Option.bind_eq_some_iff.1 this
      obtain ⟨b, hb⟩ := hdec _ _ _ h2
      exact ⟨(b, cs), h1, hb⟩
    obtain ⟨l, hl1, hl2⟩ : ∃ l : List (α × List Value), l.length = len ∧ ∀ i y, l[i]? = some y → W.cells? 0 (a.add (i * P.cellsOf e)) (P.cellsOf e) = some y.2 ∧ R y.1 y.2 := by
      clear hel hsp hlen hrest hd hp h hle
      induction len with
      | zero => exact ⟨[], rfl, fun i y h => by simp at h⟩
      | succ k ih =>
        obtain ⟨l, h1, h2⟩ := ih (fun i hi => each i (by omega))
        obtain ⟨y, hy⟩ := each k (by omega)
        refine ⟨l ++ [y], by simp [h1], fun i z hz => ?_⟩
        by_cases hi : i < l.length
        · rw [List.getElem?_append_left hi] at hz
          exact h2 i z hz
        · rw [List.getElem?_append_right (by omega)] at hz
          obtain ⟨hlt, _⟩ := List.getElem?_eq_some_iff.1 hz
          have hik : i = k := by simp at hlt; omega
          subst hik
          rw [h1, Nat.sub_self] at hz
          simp at hz
          subst hz
          exact hy
    have hszs : ∀ cs ∈ l.map (·.2), cs.length = P.cellsOf e := by
      intro cs hcs
      obtain ⟨y, hy, rfl⟩ := List.mem_map.1 hcs
      obtain ⟨i, hi⟩ := List.getElem?_of_mem hy
      exact (World.cells?_some (hl2 i y hi).1).2.1
    refine ⟨some a, len, cap, l.map (·.1), l.map (·.2), rfl, hle, by simpa using hl1, by simpa using hl1, ?_, hszs, ?_, .inr ⟨_, _, hd, by simpa using hlen, by simp [hlen, hrest]; omega⟩⟩
    · intro i b cs hb hc
      rw [List.getElem?_map] at hb hc
      cases hy : l[i]? with
      | none => rw [hy] at hb; cases hb
      | some y =>
        rw [hy] at hb hc
        injection hb with hb
        injection hc with hc
        subst hb hc
        exact (hl2 i y hy).2
    · have key : ∀ j u, (l.map (·.2)).flatten[j]? = some u → W.cell? (a.add j) = some u := by
        have gen : ∀ (m : List (α × List Value)) (k : Nat), (∀ i y, m[i]? = some y → W.cells? 0 (a.add ((k + i) * P.cellsOf e)) (P.cellsOf e) = some y.2) → ∀ j u, (m.map (·.2)).flatten[j]? = some u → W.cell? (a.add (k * P.cellsOf e + j)) = some u := by
          intro m
          induction m with
          | nil => intro k _ j u hu; simp at hu
          | cons y m ih =>
            intro k hm j u hu
            have h0 := hm 0 y rfl
            rw [Nat.add_zero] at h0
            obtain ⟨_, hlen0, hc0⟩ := World.cells?_some h0
            simp only [List.map_cons, List.flatten_cons] at hu
            by_cases hj : j < y.2.length
            · rw [List.getElem?_append_left hj] at hu
              have := hc0 j (by omega)
              rw [hu, add_add'] at this
              exact this
            · rw [List.getElem?_append_right (by omega)] at hu
              have := ih (k + 1) (fun i z hz => by
                have := hm (i + 1) z (by simpa using hz)
                rwa [show k + (i + 1) = k + 1 + i from by omega] at this) _ u hu
              rw [Nat.succ_mul] at this
              rwa [show k * P.cellsOf e + P.cellsOf e + (j - y.2.length) = k * P.cellsOf e + j from by omega] at this
        intro j u hu
        have := gen l 0 (fun i y hy => by rw [Nat.zero_add]; exact (hl2 i y hy).1) j u hu
        rwa [Nat.zero_mul, Nat.zero_add] at this
      intro hne
      obtain ⟨u, us, hus⟩ := List.exists_cons_of_ne_nil hne
      have h0 := key 0 u (by rw [hus]; rfl)
      obtain ⟨b, off, spot⟩ := a
      have hspot : spot = none := World.cell?_spot (by simpa [Addr.add] using h0)
      subst hspot
      refine ⟨b, off, rfl, ?_, fun j u hu => ?_⟩
      · have := cell_lt h0
        simpa [Addr.add] using this
      · have := key j u hu
        rwa [Addr.add_lit] at this
theorem dec_int {e : TypeId} {k : IntKind} (he : P.underlying e = some (.int k)) (fuel : Nat) (cs : List Value) (x : DataW H × List MemPlace) (h : DataW.trod enc P W 0 (fun _ => true) true fuel e cs = some x) :
    ∃ a : Int, cs = [.int k a] ∧ (Lit.int k a).wf = true := by
  cases fuel with
  | zero => simp [DataW.trod] at h
  | succ n =>
    unfold DataW.trod at h
    rw [he] at h
    split at h <;> simp_all

theorem dec_bool {e : TypeId} (he : P.underlying e = some .bool) (fuel : Nat) (cs : List Value) (x : DataW H × List MemPlace) (h : DataW.trod enc P W 0 (fun _ => true) true fuel e cs = some x) :
    ∃ a : Bool, cs = [.bool a] := by
  cases fuel with
  | zero => simp [DataW.trod] at h
  | succ n =>
    unfold DataW.trod at h
    rw [he] at h
    split at h <;> simp_all

/-- A struct's fields, each read by itself. -/
theorem dec_fields {t : TypeId} {fs : Array Field} (ht : P.underlying t = some (.struct fs)) {fuel : Nat} {cs : List Value} {x : DataW H × List MemPlace} (h : DataW.trod enc P W 0 (fun _ => true) true fuel t cs = some x) :
    cs.length = P.cellsOf t ∧ ∃ n, ∀ (i : Nat) (f : Field), fs[i]? = some f → ∃ y, DataW.trod enc P W 0 (fun _ => true) true n f.type ((cs.drop f.offset).take (P.cellsOf f.type)) = some y := by
  obtain ⟨xs, n, _, _, hl, hlen, hf⟩ := DataW.trod_struct ht h
  refine ⟨hl, n, fun i f hi => ?_⟩
  have hlt := (Array.getElem?_eq_some_iff.1 hi).1
  exact ⟨xs[i], (hf i f hi).trans (List.getElem?_eq_getElem (by omega))⟩

theorem css_eq {α : Type} {enc' : α → List Value} : ∀ {xs : List α} {css : List (List Value)}, xs.length = css.length → (∀ (i : Nat) (a : α) (cs : List Value), xs[i]? = some a → css[i]? = some cs → cs = enc' a) → css = xs.map enc'
  | [], [], _, _ => rfl
  | x :: xs, cs :: css, hl, h => by
    rw [List.map_cons, h 0 x cs rfl rfl, css_eq (xs := xs) (css := css) (by simpa using hl) fun i a cs ha hc => h (i + 1) a cs (by simpa using ha) (by simpa using hc)]
  | [], _ :: _, hl, _ => by simp at hl
  | _ :: _, [], hl, _ => by simp at hl

theorem flatten_one (f : Int → Value) (xs : List Int) : (xs.map fun x => [f x]).flatten = xs.map f := by
  induction xs with
  | nil => rfl
  | cons x xs ih => simp [ih]

theorem cells_slice {t e : TypeId} {base : Nat} {v : Value} (ht : P.underlying t = some (.slice e)) (h : Value.okWide P W .any base t v) : v.cells.toList = [v] := by
  obtain ⟨a0, len, cap, rfl⟩ := okWide_slice ht h
  rfl

/-- A slice of ints among the arguments. -/
theorem openInts {t e : TypeId} {base : Nat} {v : Value} {d : DataW H} {ps : List MemPlace} (ht : P.underlying t = some (.slice e)) (he : P.underlying e = some (.int .i64)) (hok : Value.okWide P W .any base t v)
    (h : DataW.Trod enc P W 0 (fun _ => true) true t v d ps) :
    ∃ (A : Option Addr) (n c : Nat) (xs : List Int), v = .slice A n c ∧ n ≤ c ∧ Ints W A n xs ∧ (∀ x ∈ xs, (Lit.int .i64 x).wf = true) ∧
      ((d = .nil ∧ c = 0) ∨ ∃ el sp, d = .slice el sp ∧ el.length = n ∧ el.length + sp.length = c) := by
  obtain ⟨fuel, h⟩ := h
  rw [cells_slice ht hok] at h
  obtain ⟨A, n, c, xs, css, rfl, hnc, hx, hc, hR, _, hrd, hd⟩ := openSlice (fun (x : Int) cs => cs = [.int .i64 x] ∧ (Lit.int .i64 x).wf = true) ht (fun fuel cs x h => dec_int he fuel cs x h) h
  have e1 := css_eq (enc' := fun x => [Value.int .i64 x]) (hx.trans hc.symm) (fun i a cs h1 h2 => (hR i a cs h1 h2).1)
  rw [e1, flatten_one] at hrd
  refine ⟨A, n, c, xs, rfl, hnc, ⟨hx, hrd⟩, fun x hx' => ?_, hd⟩
  obtain ⟨i, hi⟩ := List.getElem?_of_mem hx'
  obtain ⟨hlt, _⟩ := List.getElem?_eq_some_iff.1 hi
  exact (hR i x css[i] hi (List.getElem?_eq_getElem (by omega))).2

/-- The form's own reach: how long a slice that was read may be. -/
theorem reach_slice {ts : List TypeId} {ds : List (DataW H)} {t e : TypeId} {j n c : Nat} {d : DataW H} (hsz : (DataW.weightsEach P ts ds).all (· ≤ reachBytes) = true) (ht : ts[j]? = some t) (hd : ds[j]? = some d) (hu : P.underlying t = some (.slice e))
    (h : (d = .nil ∧ c = 0) ∨ ∃ el sp, d = .slice el sp ∧ el.length = n ∧ el.length + sp.length = c) : c * P.bytesOf e ≤ 140737488351232 := by
  rcases h with ⟨_, rfl⟩ | ⟨el, sp, rfl, _, hc⟩
  · simp
  · have := sized_slice hsz ht hd hu
    rw [hc] at this
    exact this
end

/-- A law's row out of its walk. -/
theorem lawWrap {H : Type} {enc : TypeId × Value → H} {C : Checked} {os : Os} {f : FuncId} {fn : Func} {s : ChangeSpec} {tb : TypeId}
    (own : ownKnob C.prog.godebug = none) (started : os.Started) (noInit : C.prog.inits.idxOf? f = none) (hfn : C.prog.funcs[f]? = some fn)
    (witness : ∃ (w : World) (tape : Tape) (i : Input), w.os = os ∧ (w.forCall tape i).Shaped C.prog ∧ i.vars = [] ∧ Input.okWide C.prog (w.forCall tape i) .any w.heap.size f i ∧
      s.pre6 enc C.prog fn [] false (w.forCall tape i).memory i.args ∧ ({} : Assume).holds C.prog (lone (Frame.enter C.prog f i.args .normal) [] (w.forCall tape i)))
    (hres : fn.resultTypes = #[tb]) (htb : C.prog.underlying tb = some .bool) (hvars : s.vars = [])
    (hspec : ∀ ds : List (DataW H), ds.length = fn.params.size → (s.fn H ds).results = [.lit (.bool true)] ∧ (s.fn H ds).args = ds ∧ (s.fn H ds).vars = [])
    (hl : laidOutB C.prog = true) (hr : fn.params.toList.all (fun t => C.prog.readableRec t && decide (t < C.prog.types.size)) = true)
    (walk : ∀ (W : World) (base : Nat) (args : Array Value) (ds : List (DataW H)) (ps : List MemPlace),
      (∀ (j : Nat) t v, fn.params[j]? = some t → args[j]? = some v → Value.okWide C.prog W .any base t v) →
      DataW.TrodAll enc C.prog W 0 (fun _ => true) true fn.params.toList args.toList ds ps → (∀ x ∈ ps, x.block < W.heap.size) →
      (DataW.weightsEach C.prog fn.params.toList ds).all (· ≤ reachBytes) = true →
      Calls C.prog f args W fun e W' => e = .returned (.bool true) ∧ Below W.heap.size W W') :
    ReturnsInHanded {} C os f .any (s.pre6 enc C.prog fn [] false) (s.post enc C.prog fn false true false false) := by
  refine returnsInHanded_of_change_sized own started noInit hfn witness ?_
  intro W base args ds gs before hval hW _ hsz _
  have hW' := hW
  obtain ⟨p, q, hA, hV, rfl, _, _⟩ := hW
  rw [hvars] at hV
  obtain ⟨rfl, rfl⟩ := trodVars_none hV
  have hvt : s.plain.varTypes C.prog = [] := by
    unfold DataSpec.varTypes ChangeSpec.plain
    simp [hvars]
  rw [hvt] at hsz
  simp only [List.append_nil] at hsz hW'
  have hlt : ∀ x ∈ p, x.block < W.heap.size := fun x hx => by simpa using hW'.lt x hx
  refine (walk W base args ds p hval hA hlt hsz).mono fun e W' ⟨he, hb⟩ => ?_
  subst he
  have hlen : ds.length = fn.params.size := by rw [trodAll_len hA]; simp
  obtain ⟨s1, s2, s3⟩ := hspec ds hlen
  have hr' : ∀ t ∈ fn.params.toList, C.prog.readableRec t = true ∧ t < C.prog.types.size := fun t ht => by
    have := (List.all_eq_true.1 hr) t ht
    simpa using this
  refine ⟨_, rfl, ds, [], p, [], p, [], hW', ?_, ?_, ?_, hb.frame _, fun h => by cases h⟩
  · simp only [List.append_nil, s1, hres]
    exact ⟨[], [], shut_bool htb true, rfl, rfl⟩
  · simp only [List.append_nil, s2]
    exact trodAll_below hl hb hr' hA hlt
  · simp only [List.append_nil, s3, hvars]
    rfl

end Go.Proofs.Ytfbacopjookplaa
