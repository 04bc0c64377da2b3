/- What stands of a region outside a round stands in one: the walks of regions that hold no defer statement. No program stands here. -/
import Derived.Test.YtfbacopjookplaaTail
import Derived.Test.YtfbacopjookplaaRange
import Derived.OrdersIn
namespace Go.Proofs.Ytfbacopjookplaa
open Go.RowKit

def Op.isDefer : Op → Bool
  | .defer _ => true
  | _ => false
/-- No operation of a region is a defer statement. -/
def noDefer (l : List Oper) : Bool := l.all fun o => !Op.isDefer o.op

section
variable {P : Program} {r : Nat} {n : Nat}
theorem rowsIn_round {row : String} {args : Array Value} {w : World} {R : Value → World → Prop} (h : Rows P row args w R) : RowsIn (Fence.wide.inRound r) n P row args w R := fun c cs _ => by
  obtain ⟨v, w', hr, hs⟩ := h c cs
  exact ⟨v, w', hr, stepsIn_wide.2 hs⟩
theorem callsIn_round {f : FuncId} {args : Array Value} {w : World} {R : Ending → World → Prop} (h : Calls P f args w R) : CallsIn (Fence.wide.inRound r) n P f args w R := CallsIn.inRound r (callsIn_wide.2 h)

theorem wpIn_round_op {o : Oper} {a : Act} {w : World} {K K' : Act → World → Prop} {Q : Exit → Act → World → Prop} (hq : ∀ a w, ¬ Q .outgrown a w) (hd : Op.isDefer o.op = false) (hK : ∀ a w, K a w → K' a w)
    (h : o.wp P a w K Q ∨ (o.asks P a w ∧ LetsOut Q)) : o.wpIn (Fence.wide.inRound r) n P a w K' Q := by
  rcases h with h | ⟨_, a', w', h⟩
  · refine ⟨fun _ _ => trivial, ?_⟩
    rw [Oper.semAt_eq _ _ _ (fun c hc => by rw [hc] at hd; cases hd)]
    unfold Oper.wp at h
    generalize (execOp a.eval o).run P w = res at h
    cases res with
    | ok x w' =>
      cases x <;> simp only [Oper.upon] at h <;> simp only [Oper.uponIn]
      case value v => exact hK _ _ h
      case skip => exact hK _ _ h
      case defer d => exact hK _ _ h
      case enter f args =>
        refine ⟨fun h0 => (by cases h0), callsIn_round (h.mono fun e w'' he => ?_)⟩
        cases e with
        | returned v => exact hK _ _ he
        | panicked c => exact he
        | outgrown => exact he
      case row => exact ⟨fun h0 => (by cases h0), rowsIn_round (h.mono fun v w'' he => hK _ _ he)⟩
    | halt x w' =>
      cases x <;> simp only [Oper.upon] at h <;> simp only [Oper.uponIn]
      exact h
  · exact absurd h (hq _ _)

theorem wpListIn_round {ops : Array Oper} {Q : Exit → Act → World → Prop} (hq : ∀ a w, ¬ Q .outgrown a w) : ∀ (l : List Oper) (a : Act) (w : World), noDefer l = true → wpList P ops Q l a w → wpListIn (Fence.wide.inRound r) n P ops Q l a w
  | [], _, _, _, h => h
  | o :: rest, a, w, hd, h => by
    simp only [noDefer, List.all_cons, Bool.and_eq_true, Bool.not_eq_true'] at hd
    unfold wpList at h
    unfold wpListIn
    split at h
    · rename_i hw
      rw [if_pos hw]
      exact wpIn_round_op hq hd.1 (fun a w h => wpListIn_round hq rest a w (by simpa [noDefer] using hd.2) h) h
    · rename_i hw
      rw [if_neg hw]
      exact ⟨fun _ _ => trivial, wpListIn_round hq rest _ _ (by simpa [noDefer] using hd.2) h⟩

theorem wpAnyIn_round {ops : Array Oper} {md : Region.Mode} {Q : Exit → Act → World → Prop} (hq : ∀ a w, ¬ Q .outgrown a w) (hd : noDefer ops.toList = true) : ∀ (f : Nat) (listed : Array Bool) (a : Act) (w : World), wpAny P md ops Q f listed a w → wpAnyIn (Fence.wide.inRound r) n P md ops Q f listed a w
  | 0, _, _, _, h => h
  | f + 1, listed, a, w, h => by
    refine ⟨h.1, fun i hi => ?_⟩
    have h2 := h.2 i hi
    unfold wpOp at h2
    unfold wpOpIn
    cases ho : ops[i]? with
    | none =>
      rw [ho] at h2
      exact wpAnyIn_round hq hd f _ a w h2
    | some o =>
      rw [ho] at h2
      simp only at h2 ⊢
      have hdo : Op.isDefer o.op = false := by
        have := List.all_eq_true.1 hd o (List.mem_of_getElem? (by rw [← Array.getElem?_toList] at ho; exact ho))
        simpa using this
      split at h2
      · rename_i hw
        rw [if_pos hw]
        exact wpIn_round_op hq hdo (fun a w h => wpAnyIn_round hq hd f _ a w h) h2
      · rename_i hw
        rw [if_neg hw]
        exact ⟨fun _ _ => trivial, wpAnyIn_round hq hd f _ _ w h2⟩

/-- A region in the order of its text, in a round. -/
theorem wpIn_round_list {id : Nat} {l : List Oper} {Q : Exit → Act → World → Prop} {a : Act} {w : World} (hq : ∀ a w, ¬ Q .outgrown a w) (hd : noDefer l = true) (h : wpList P l.toArray Q l a w) : (Code.region id l.toArray false).wpIn (Fence.wide.inRound r) n P Q a w :=
  wpIn_region_lit (wpListIn_round hq l a w hd h)
/-- A region that draws its order, in a round. -/
theorem wpIn_round_any {id : Nat} {l : List Oper} {Q : Exit → Act → World → Prop} {a : Act} {w : World} (hm : P.follows .mixedOrders = true) (hq : ∀ a w, ¬ Q .outgrown a w) (hd : noDefer l = true)
    (h : wpAny P .any l.toArray Q l.toArray.size (Array.replicate l.toArray.size false) a w.drew) : (Code.region id l.toArray true).wpIn (Fence.wide.inRound r) n P Q a w :=
  wpIn_region_any hm (wpAnyIn_round hq hd _ _ _ _ h)
/-- .. all of whose operations and callees keep S. -/
theorem wpIn_round_cls {id : Nat} {Q : Exit → Act → World → Prop} {a : Act} {w : World} {l : List Oper} (S : World → Prop) (hS : S w.drew) (hm : P.follows .mixedOrders = true) (hB : Region.lexB .any l.toArray = true)
    (hq : ∀ a w, ¬ Q .outgrown a w) (hd : noDefer l = true)
    (h : wpQuiet P l.toArray (fun w' => ∃ c : Cls S, w' = c.world) (fun a' => ∀ w', (∃ c : Cls S, w' = c.world) → Q .normal a' w') l a) : (Code.region id l.toArray true).wpIn (Fence.wide.inRound r) n P Q a w := by
  refine wpIn_round_any hm hq hd ?_
  simp only [Region.lexB, Bool.and_eq_true] at hB
  refine wpAny_of_quiet (C := fun w' => ∃ c : Cls S, w' = c.world) (Q := fun a' => ∀ w', (∃ c : Cls S, w' = c.world) → Q .normal a' w') (fun _ w' hw' h => h w' hw') _ _ _ _ ⟨⟨w.drew, hS⟩, rfl⟩ ?_
  have := wpAnyQ_lex (C := fun w' => ∃ c : Cls S, w' = c.world) (md := .any) hB.1 l 0 (Array.replicate l.toArray.size false) a (by simp) (by simpa using hB.2) h
  simpa using this
end

end Go.Proofs.Ytfbacopjookplaa
