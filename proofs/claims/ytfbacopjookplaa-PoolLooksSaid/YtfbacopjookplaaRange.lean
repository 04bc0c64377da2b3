/- A loop over an iterator that keeps a state of its own in memory: the law of the statement, where iterator and body change blocks of their own. No program stands here. -/
import Derived.Test.YtfbacopjookplaaBase
import Derived.RangeFuncNested
import Derived.RangeFuncBound
import Derived.RangeFuncCalls
import Derived.RangeFuncLeaves
namespace Go.Proofs.Ytfbacopjookplaa
open Go.RowKit

/-- A record beyond B is changed. -/
def Rec (B : Nat) (w w' : World) : Prop := ∃ l o o', B ≤ l ∧ w.heap[l]? = some o ∧ o.isCells = false ∧ w' = w.putObj l o'
theorem Rec.mk {B l : Nat} {w : World} {o : Obj} (hl : B ≤ l) (h : w.heap[l]? = some o) (ho : o.isCells = false) (o' : Obj) : Rec B w (w.putObj l o') := ⟨l, o, o', hl, h, ho, rfl⟩
theorem Rec.only {B : Nat} {w w' : World} (h : Rec B w w') : Only (fun q => B ≤ q) w w' := by
  obtain ⟨l, o, o', hl, _, _, rfl⟩ := h
  exact ⟨rfl, rfl, rfl, Nat.le_of_eq (World.putObj_size).symm, fun k _ hn => World.putObj_heap_other fun e => hn (e ▸ hl)⟩
/-- A block of cells is not changed. -/
theorem Rec.cells {B b : Nat} {w w' : World} {cs : Array Value} {t : TypeId} {r : Nat × Nat} (h : Rec B w w') (hb : w.heap[b]? = some (.cells cs t r)) : w'.heap[b]? = some (.cells cs t r) := by
  obtain ⟨l, o, o', hl, ho, hc, rfl⟩ := h
  refine (World.putObj_heap_other fun e => ?_).trans hb
  rw [← e, hb] at ho
  injection ho with ho
  rw [← ho] at hc
  cases hc
theorem Rec.own {B base size n : Nat} {w w' : World} {e : TypeId} {v : Value} {us : List Value} (h : Rec B w w') (ho : w.ownsRow base e size v n us) : w'.ownsRow base e size v n us := by
  refine ⟨ho.1, ?_⟩
  rcases ho.2 with hn | ⟨g, cap, cur, rfl, hb, hg, rest⟩
  · exact .inl hn
  · exact .inr ⟨g, cap, cur, rfl, hb, h.cells hg, rest⟩

/-- What lies below B may change, and new memory be made. -/
theorem keeps_lt {B : Nat} {X : Nat → Prop} {W W' : World} (o : Only X W W') (h : ∀ q, X q → q < B) : KeepsFrom B W W' :=
  ⟨o.size, fun k _ hB hk _ => (o.block k (Array.getElem?_eq_some_iff.1 hk).1 fun hx => by have := h k hx; omega).trans hk⟩
/-- .. and so may a row that is owned. -/
theorem keeps_grown {B base size n : Nat} {W W' : World} {e : TypeId} {v : Value} {us : List Value} (ho : W.ownsRow base e size v n us) (hg : W.grownBy W' v.ownBlock) : KeepsFrom B W W' := by
  refine ⟨hg.size, fun k o _ hk hc => (hg.block k (Array.getElem?_eq_some_iff.1 hk).1 fun hx => ?_).trans hk⟩
  rcases ho.2 with ⟨rfl, _⟩ | ⟨g, cap, cur, rfl, _, hgb, _⟩
  · cases hx
  · have e2 : k = g := Option.some.inj hx
    rw [e2, hgb] at hk
    injection hk with hk
    rw [← hk] at hc
    cases hc

/-- How the body of a round may be left: its invariant stands, and what the iterator holds is as it was. -/
def rngPost {α : Type} (B : Nat) (I : List α → World → Prop) (Ix : Code → List α → World → Prop) (It : List α → α → World → Prop) (pre : List α) (x : α) (W : World) : Exit → Act → World → Prop
  | .normal, _, W' => KeepsFrom B W W' ∧ I (pre ++ [x]) W' ∧ It pre x W'
  | .ret, _, W' => KeepsFrom B W W' ∧ Ix .ret (pre ++ [x]) W'
  | .exit id, _, W' => KeepsFrom B W W' ∧ Ix (.exit id) (pre ++ [x]) W'
  | .goto t, _, W' => KeepsFrom B W W' ∧ Ix (.goto t) (pre ++ [x]) W'
  | .panic _, _, _ => False
  | .outgrown, _, _ => False

/-- What an iterator's function does with whatever rounds: J is the rounds' own, Tr the iterator's steps, It what it holds when it hands x out, S what is so when all have come. -/
def Iterates {α : Type} (P : Program) (gf : Nat) (lb : Array Value) (encs : α → Array Value) (Tr : World → World → Prop) (It : List α → α → World → Prop) (S : List α → World → Prop) (W : World) : Prop :=
  ∀ (l : Nat) (J Jx : List α → World → Prop), (∀ pre A B, J pre A → Tr A B → J pre B) →
    (∀ pre x W1, J pre W1 → It pre x W1 → YieldAt Fence.wide 0 P l (encs x) W1 fun e W' => (e = .returned (.bool true) ∧ J (pre ++ [x]) W' ∧ It pre x W') ∨ (e = .returned (.bool false) ∧ Jx (pre ++ [x]) W')) →
    J [] W → CallsIn Fence.wide 0 P gf (#[.func (.yield l) #[] #[]] ++ lb) W fun e W' => (∃ v, e = .returned v) ∧ ((∃ xs, S xs W' ∧ J xs W') ∨ (∃ pre, Jx pre W'))

theorem wp_rangeFunc_any {α : Type} {P : Program} {g : Operand} {ps : Array Tmp} {assign body : Code} {Q : Exit → Act → World → Prop} {a : Act} {w : World}
    {gf : Nat} {lb : Array Value} (hg : a.eval g = .func (.func gf) #[] lb) (eg : ∀ args w, (callFunc gf args).run P w = .ok (.enter gf args) w)
    {encs : α → Array Value} (hps : ∀ x, (encs x).size = ps.size) {Tr : World → World → Prop} {It : List α → α → World → Prop} {S : List α → World → Prop}
    (hseq : ∀ W, Ext w W → Iterates P gf lb encs Tr It S W)
    (hTr : ∀ A B, Tr A B → ∀ k o, w.heap.size ≤ k → A.heap[k]? = some o → o.isCells = false → B.heap[k]? = some o)
    (hIt : ∀ pre x A B, It pre x A → Rec w.heap.size A B → It pre x B) (hS : ∀ xs A B, S xs A → Rec w.heap.size A B → S xs B)
    (I : List α → World → Prop) (Ix : Code → List α → World → Prop) (hIe : ∀ pre A B, I pre A → Ext A B → I pre B)
    (hIT : ∀ pre A B, I pre A → Tr A B → I pre B) (hIR : ∀ pre A B, I pre A → Rec w.heap.size A B → I pre B)
    (hXR : ∀ c pre A B, Ix c pre A → Rec w.heap.size A B → Ix c pre B) (h0 : I [] w) (a₁ : α → Act)
    (hassign : ∀ (l : Nat) (x : α) (W : World) (K : Act → World → Prop), K (a₁ x) W →
      assign.wpIn (Fence.wide.inRound l) 0 P (Exit.then K (fun _ _ _ => False)) { tmps := (ps.zip (encs x)).foldl (fun t (p, v) => t.setIfInBounds p v) a.tmps, defers := [] } W)
    (hbody : ∀ (l : Nat) (pre : List α) (x : α) (W : World), I pre W → It pre x W → w.heap.size + 1 < W.heap.size → body.wpIn (Fence.wide.inRound l) 0 P (rngPost w.heap.size I Ix It pre x W) (a₁ x) W)
    (hdone : ∀ (D : Nat) (xs : List α) (W : World), w.heap.size ≤ D → S xs W → I xs W → W.heap[D]? = some (.deferred (some [])) → Q .normal { a with defers := { target := .collected D, args := #[] } :: a.defers } W)
    (hstop : ∀ (D : Nat) (c : Code) (pre : List α) (W : World), w.heap.size ≤ D → Ix c pre W → W.heap[D]? = some (.deferred (some [])) → c.wp P Q { a with defers := { target := .collected D, args := #[] } :: a.defers } W) :
    (Code.rangeFunc g ps assign body).wp P Q a w := by
  refine wpIn_wide.1 (wpIn_rangeFunc (n := 0) ?_)
  intro fn _
  show ∃ _ _ _ _ _ _ _ _, (Instr.enterLoop fn a.tmps ps assign body none).run P w = _ ∧ _
  obtain ⟨rec, hrec⟩ : ∃ rec : LoopState → Option Code → Loop, rec = fun st pe => { state := st, pending := pe, fn, tmps := a.tmps, params := ps, assign, body, defers := w.heap.size } := ⟨_, rfl⟩
  obtain ⟨W1, hW1⟩ : ∃ W1, (w.alloc (.deferred (some []))).alloc (.loop (rec .ready none)) = W1 := ⟨_, rfl⟩
  have hL1 : W1.heap[w.heap.size + 1]? = some (.loop (rec .ready none)) := by
    rw [← hW1]; have := World.alloc_heap_new (w.alloc (.deferred (some []))) (.loop (rec .ready none)); rwa [World.size_alloc] at this
  have hK1 : W1.heap[w.heap.size]? = some (.deferred (some [])) := by
    rw [← hW1]; exact (Below.heap_alloc _ _ _ (by simp)).trans (World.alloc_heap_new w _)
  have hb1 : Ext w W1 := by
    rw [← hW1]; exact ((Below.refl _ w).alloc (Nat.le_refl _) _).alloc (by simp) _
  have hI1 : I [] W1 := hIe _ _ _ h0 hb1
  refine ⟨w.heap.size + 1, [{ target := .collected w.heap.size, args := #[] }], W1, { target := .fn (.func gf) lb, args := #[.func (.yield (w.heap.size + 1)) #[] #[]] }, W1, gf,
    #[.func (.yield (w.heap.size + 1)) #[] #[]] ++ lb, W1, ?_, ?_, ?_, ?_, fun h => (by cases h), ?_⟩
  · rw [← hW1, hrec]; exact run_enterLoop_outer _ _ _ _ _
  · simp only [resolve, hg]
    simp [go_sem]
  · intro f' _; trivial
  · simp [invoke, go_sem, eg]
  · refine (hseq W1 hb1 (w.heap.size + 1)
      (fun pre W => I pre W ∧ W.heap[w.heap.size + 1]? = some (.loop (rec .ready none)) ∧ W.heap[w.heap.size]? = some (.deferred (some [])))
      (fun pre W => ∃ c, Ix c pre W ∧ W.heap[w.heap.size + 1]? = some (.loop (rec .done (some c))) ∧ W.heap[w.heap.size]? = some (.deferred (some [])))
      (fun s A B hs ht => ⟨hIT s A B hs.1 ht, hTr A B ht _ _ (by omega) hs.2.1 rfl, hTr A B ht _ _ (Nat.le_refl _) hs.2.2 rfl⟩)
      ?_ ⟨hI1, hL1, hK1⟩).mono ?_
    · rintro pre x W ⟨hi, hl, hk⟩ hit
      have hlt : w.heap.size + 1 < W.heap.size := (Array.getElem?_eq_some_iff.1 hl).1
      have hy := run_yield (P := P) (args := encs x) hl (by rw [hrec]; exact hps x)
      rw [hrec] at hy
      refine ⟨fn, _, assign, body, hy, roundIn_of_wpIn trivial (hassign _ x W _ ⟨_, run_beginRound hl (by rw [hrec]), ?_⟩)⟩
      have hl2 : (W.putObj (w.heap.size + 1) (.loop { rec .ready none with state := .busy })).heap[w.heap.size + 1]? = some (.loop { rec .ready none with state := .busy }) := World.putObj_heap_same hlt
      have hk2 : (W.putObj (w.heap.size + 1) (.loop { rec .ready none with state := .busy })).heap[w.heap.size]? = some (.deferred (some [])) := (World.putObj_heap_other (by omega)).trans hk
      have hr2 : Rec w.heap.size W (W.putObj (w.heap.size + 1) (.loop { rec .ready none with state := .busy })) := Rec.mk (by omega) hl rfl _
      refine wpIn_mono (hbody _ pre x _ (hIR _ _ _ hi hr2) (hIt _ _ _ _ hit hr2) (by simpa using hlt)) ?_
      have fin : ∀ (jump : Option Code) (W3 : World), KeepsFrom w.heap.size (W.putObj (w.heap.size + 1) (.loop { rec .ready none with state := .busy })) W3 →
          (Instr.endRound (w.heap.size + 1) jump).run P W3 = .ok (.bool jump.isNone) (W3.putObj (w.heap.size + 1) (.loop (rec (if jump.isNone then .ready else .done) jump))) ∧
          Rec w.heap.size W3 (W3.putObj (w.heap.size + 1) (.loop (rec (if jump.isNone then .ready else .done) jump))) ∧
          (W3.putObj (w.heap.size + 1) (.loop (rec (if jump.isNone then .ready else .done) jump))).heap[w.heap.size + 1]? = some (.loop (rec (if jump.isNone then .ready else .done) jump)) ∧
          (W3.putObj (w.heap.size + 1) (.loop (rec (if jump.isNone then .ready else .done) jump))).heap[w.heap.size]? = some (.deferred (some [])) := fun jump W3 hk3 => by
        have hl3 := hk3.same _ _ (by omega) hl2 rfl
        have := run_endRound (P := P) jump hl3
        rw [hrec] at this ⊢
        exact ⟨this, Rec.mk (by omega) hl3 rfl _, World.putObj_heap_same (Array.getElem?_eq_some_iff.1 hl3).1, (World.putObj_heap_other (by omega)).trans (hk3.same _ _ (Nat.le_refl _) hk2 rfl)⟩
      rintro e a3 W3 hp
      cases e with
      | normal =>
        obtain ⟨hk3, hi3, hit3⟩ := hp
        obtain ⟨hr, hl3, hl4, hk4⟩ := fin none W3 hk3
        exact ⟨_, _, hr, .inl ⟨rfl, ⟨hIR _ _ _ hi3 hl3, hl4, hk4⟩, hIt _ _ _ _ hit3 hl3⟩⟩
      | ret =>
        obtain ⟨hk3, hi3⟩ := hp
        obtain ⟨hr, hl3, hl4, hk4⟩ := fin (some .ret) W3 hk3
        exact ⟨_, _, hr, .inr ⟨rfl, .ret, hXR _ _ _ _ hi3 hl3, hl4, hk4⟩⟩
      | exit id =>
        obtain ⟨hk3, hi3⟩ := hp
        obtain ⟨hr, hl3, hl4, hk4⟩ := fin (some (.exit id)) W3 hk3
        exact ⟨_, _, hr, .inr ⟨rfl, .exit id, hXR _ _ _ _ hi3 hl3, hl4, hk4⟩⟩
      | goto t =>
        obtain ⟨hk3, hi3⟩ := hp
        obtain ⟨hr, hl3, hl4, hk4⟩ := fin (some (.goto t)) W3 hk3
        exact ⟨_, _, hr, .inr ⟨rfl, .goto t, hXR _ _ _ _ hi3 hl3, hl4, hk4⟩⟩
      | panic ch => exact hp.elim
      | outgrown => exact hp.elim
    · rintro e W2 ⟨⟨v, rfl⟩, (⟨xs, hs, hi, hl, hk⟩ | ⟨pre, c, hi, hl, hk⟩)⟩
      · refine ⟨none, _, by have := run_endLoop (P := P) hl (by rw [hrec]; simp); rw [hrec] at this; exact this, ?_⟩
        have hr := Rec.mk (B := w.heap.size) (l := w.heap.size + 1) (by omega) hl rfl (.loop { rec .ready none with state := .exhausted })
        rw [hrec] at hr
        exact hdone _ xs _ (Nat.le_refl _) (hS _ _ _ hs hr) (hIR _ _ _ hi hr) ((World.putObj_heap_other (by omega)).trans hk)
      · refine ⟨some c, _, by have := run_endLoop (P := P) hl (by rw [hrec]; simp); rw [hrec] at this; exact this, ?_⟩
        have hr := Rec.mk (B := w.heap.size) (l := w.heap.size + 1) (by omega) hl rfl (.loop { rec .done (some c) with state := .exhausted })
        rw [hrec] at hr
        exact wpIn_wide.2 (hstop _ c pre _ (Nat.le_refl _) (hXR _ _ _ _ hi hr) ((World.putObj_heap_other (by omega)).trans hk))

/-- A function's contract out of its body's walk, where the body holds a loop over an iterator. -/
theorem calls_of_marks {P : Program} {f : FuncId} {fn : Func} {c : Code} {args : Array Value} {w : World} {R : Ending → World → Prop} (hf : P.funcs[f]? = some fn) (hb : fn.body = some c)
    (h : c.wp P (bodyPostM Fence.wide 0 P fn R) { tmps := args ++ Array.replicate (fn.ntmps - args.size) undef, defers := [] } w) : Calls P f args w R :=
  callsIn_wide.1 (callsIn_of_wp_marks (n := 0) hf hb trivial (wpIn_wide.2 h))

end Go.Proofs.Ytfbacopjookplaa
