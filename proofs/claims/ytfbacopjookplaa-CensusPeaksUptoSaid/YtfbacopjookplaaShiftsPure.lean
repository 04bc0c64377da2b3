/- When a run's changes of state go together, by plain lists. No program stands here. -/
import Derived.Test.YtfbacopjookplaaTracePure
import Derived.Test.YtfbacopjookplaaRefSlots
namespace Go.Proofs.Ytfbacopjookplaa

/-- A shift by what stands: the slot and states are such, From is the slot's state. -/
def OkShift (s : Nat) (st : List Int) (x : Sh) : Prop := 0 ≤ x.sl ∧ x.sl < s ∧ 0 ≤ x.to ∧ x.to ≤ 5 ∧ x.fr = st.getD x.sl.toNat 0
/-- Shifts one behind the other, behind a shift of move p and thread q. -/
def ShiftsF (l : List Cl) (tr : List Ac) (s : Nat) : Int → Int → List Int → List Sh → Prop
  | _, _, _, [] => True
  | p, q, st, x :: r => (p ≤ x.mv ∧ placeB l x.th x.mv = true) ∧ (x.mv = p → x.th = q) ∧ OkShift s st x ∧ (∀ a ∈ tr, a.mv = x.mv → a.th = x.th) ∧ ShiftsF l tr s x.mv x.th (putS x st) r

/-- Move and thread of the shift ahead of a place. -/
def prevSh (sh : List Sh) : Nat → Int × Int
  | 0 => (-1, -1)
  | i + 1 => match sh[i]? with
    | some x => (x.mv, x.th)
    | none => (-1, -1)
theorem prevSh_succ {sh : List Sh} {i : Nat} {x : Sh} (h : sh[i]? = some x) : prevSh sh (i + 1) = (x.mv, x.th) := by simp only [prevSh, h]
theorem shiftsF_step {l : List Cl} {tr : List Ac} {s : Nat} {p q : Int} {st : List Int} {sh : List Sh} {i : Nat} {x : Sh} (hx : sh[i]? = some x) :
    ShiftsF l tr s p q st (sh.drop i) ↔ (p ≤ x.mv ∧ placeB l x.th x.mv = true) ∧ (x.mv = p → x.th = q) ∧ OkShift s st x ∧ (∀ a ∈ tr, a.mv = x.mv → a.th = x.th) ∧ ShiftsF l tr s x.mv x.th (putS x st) (sh.drop (i + 1)) := by
  rw [drop_cons hx, ShiftsF]
theorem putS_len (x : Sh) (st : List Int) : (putS x st).length = st.length := by simp [putS]

end Go.Proofs.Ytfbacopjookplaa
