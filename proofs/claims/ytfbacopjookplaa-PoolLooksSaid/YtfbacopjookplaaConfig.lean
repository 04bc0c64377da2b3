/- The walk of the document's Config: whether seven numbers may be. -/
import Derived.Test.YtfbacopjookplaaMany
namespace Go.Proofs.Ytfbacopjookplaa
open Go.RowKit

theorem eq_decide {p : Prop} [Decidable p] {b : Bool} (h : b = true ↔ p) : b = decide p := by
  rw [Bool.eq_iff_iff, decide_eq_true_iff]
  exact h
set_option maxHeartbeats 2000000 in
theorem config_any (T R H Re Ca S B : Int) (w : World) :
    Calls Try.prog 34 #[(.agg #[.int .i64 T, .int .i64 R, .int .i64 H, .int .i64 Re, .int .i64 Ca, .int .i64 S, .int .i64 B])] w fun e w' => e = .returned (.bool (decide (Okay T R H Re Ca S B))) ∧ Ext w w' := by
  go_enter Try.func34, Try.ntmps34
  go_wp2_with fail
  all_goals
    go_ret
    refine ⟨ret_bool (eq_decide ⟨fun h => ?_, fun h => ?_⟩), (Ext.rfl' w).alloc (Nat.le_refl _) _⟩
    · first
        | exact absurd h (by decide)
        | (have h' := of_decide_eq_true h; unfold Okay; omega)
    · unfold Okay at h
      first
        | exact decide_eq_true (by omega)
        | (exfalso; omega)

end Go.Proofs.Ytfbacopjookplaa
