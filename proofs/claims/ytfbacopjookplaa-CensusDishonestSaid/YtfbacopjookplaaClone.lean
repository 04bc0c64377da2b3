/- The walks of slices.Clone over states and over ints. -/
import Derived.Test.YtfbacopjookplaaSlots
import Derived.Test.YtfbacopjookplaaTrace
namespace Go.Proofs.Ytfbacopjookplaa
open Go.RowKit

/-- What Clone leaves: a row of its own. -/
def CloneOut (w : World) (e : TypeId) (n : Nat) (us : List Value) (en : Ending) (w' : World) : Prop := ∃ v, en = .returned v ∧ w'.ownsRow w.heap.size e 1 v n us ∧ Ext w w'

set_option maxRecDepth 100000 in
set_option maxHeartbeats 2000000 in
theorem cloneStates_any (g n c : Nat) (st : List Int) (w : World) (hl : st.length = n) (hr : Rd w (some ⟨g, 0, none⟩) (st.map (Value.int .i64))) (hn : n ≤ 1024) :
    Calls Try.prog 120 #[.slice (some ⟨g, 0, none⟩) n c] w (CloneOut w 76 n (st.map (Value.int .i64))) := by
  obtain ⟨w0, hw0, hB, hE, _⟩ := enter1 w (.cells #[] 76)
  have HE := Lib.hid hE
  have hR0 := Lib.hid (hr.ext hE)
  have hown0 : Hid (w0.ownsRow w.heap.size 76 1 (.slice (some ⟨w.heap.size, 0, none⟩) 0 0) 0 []) :=
    ⟨rfl, .inr ⟨w.heap.size, 0, #[], rfl, Nat.le_refl _, hB, Nat.le_refl _, by unfold maxLen; omega, rfl, rfl⟩⟩
  have HL := Lib.hid hl
  have hnil : ∀ W : World, (binOp BinOp.eql 71 (.slice (some ⟨g, 0, none⟩) n c) (.slice none 0 0)).run Try.prog W = .ok (.bool false) W := fun W => by kernel_rfl
  clear hl hr hE hB
  go_enter Try.func120, Try.ntmps120
  go_wp2_with (at_builtin; refine wpList_appendR w0 rfl (.tmp 5) (.tmp 6) 71 rfl w.heap.size 76 1 8 elemState Try.underlying71 (.slice (some ⟨w.heap.size, 0, none⟩) 0 0) 0 [] (by simp [Act.eval]) hown0.out (some ⟨g, 0, none⟩) n c (st.map (Value.int .i64)) (by simp [Act.eval]) (by rw [List.length_map, HL.out, Nat.mul_one]) hR0.out (one_ints st) (by omega) HE.out.size ?_; intro v' w' hown hgrow hat; rw [Nat.zero_add, List.nil_append] at hown)
  have HEE := HE.out.only (Only.of_grown hgrow) fun q hq => by
    have h2 : some q = some w.heap.size := hq
    injection h2 with h2
    omega
  go_ret
  exact ⟨v', rfl, hown, HEE⟩

set_option maxRecDepth 100000 in
set_option maxHeartbeats 2000000 in
theorem cloneInts_any (g n c : Nat) (st : List Int) (w : World) (hl : st.length = n) (hr : Rd w (some ⟨g, 0, none⟩) (st.map (Value.int .i64))) (hn : n ≤ 1024) :
    Calls Try.prog 121 #[.slice (some ⟨g, 0, none⟩) n c] w (CloneOut w 3 n (st.map (Value.int .i64))) := by
  obtain ⟨w0, hw0, hB, hE, _⟩ := enter1 w (.cells #[] 3)
  have HE := Lib.hid hE
  have hR0 := Lib.hid (hr.ext hE)
  have hown0 : Hid (w0.ownsRow w.heap.size 3 1 (.slice (some ⟨w.heap.size, 0, none⟩) 0 0) 0 []) :=
    ⟨rfl, .inr ⟨w.heap.size, 0, #[], rfl, Nat.le_refl _, hB, Nat.le_refl _, by unfold maxLen; omega, rfl, rfl⟩⟩
  have HL := Lib.hid hl
  have hnil : ∀ W : World, (binOp BinOp.eql 26 (.slice (some ⟨g, 0, none⟩) n c) (.slice none 0 0)).run Try.prog W = .ok (.bool false) W := fun W => by kernel_rfl
  clear hl hr hE hB
  go_enter Try.func121, Try.ntmps121
  go_wp2_with (at_builtin; refine wpList_appendR w0 rfl (.tmp 5) (.tmp 6) 26 rfl w.heap.size 3 1 8 elemInt' Try.underlying26 (.slice (some ⟨w.heap.size, 0, none⟩) 0 0) 0 [] (by simp [Act.eval]) hown0.out (some ⟨g, 0, none⟩) n c (st.map (Value.int .i64)) (by simp [Act.eval]) (by rw [List.length_map, HL.out, Nat.mul_one]) hR0.out (one_ints st) (by omega) HE.out.size ?_; intro v' w' hown hgrow hat; rw [Nat.zero_add, List.nil_append] at hown)
  have HEE := HE.out.only (Only.of_grown hgrow) fun q hq => by
    have h2 : some q = some w.heap.size := hq
    injection h2 with h2
    omega
  go_ret
  exact ⟨v', rfl, hown, HEE⟩

end Go.Proofs.Ytfbacopjookplaa
