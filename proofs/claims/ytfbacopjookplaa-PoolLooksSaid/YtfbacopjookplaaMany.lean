/- The walks of word.many and the document's Many and Config, and of Size and Base behind them: what they answer for seven numbers. -/
import Derived.Test.YtfbacopjookplaaProg
import Derived.Test.YtfbacopjookplaaBase
namespace Go.Proofs.Ytfbacopjookplaa
open Go.RowKit

/-- A configuration's numbers may be. -/
def Okay (T R H Re Ca S B : Int) : Prop := 1 ≤ T ∧ T ≤ 16 ∧ 1 ≤ R ∧ R ≤ 16 ∧ 3 ≤ H ∧ H ≤ 8 ∧ 1 ≤ Re ∧ Re ≤ 1024 ∧ 0 ≤ Ca ∧ Ca ≤ 64 ∧ 1 ≤ S ∧ S ≤ 1024 ∧ 1 ≤ B ∧ B ≤ 64
instance (T R H Re Ca S B : Int) : Decidable (Okay T R H Re Ca S B) := by unfold Okay; infer_instance

/-- How many words a region has. -/
def manyOf (R H S B r : Int) : Int := if r = 7 then B else if r = 8 then R else if r = 9 then R * H else if 10 ≤ r ∧ r ≤ 13 then S else 1

theorem many_any (T R H Re Ca S B r : Int) (w : World) (hR : 1 ≤ R) (hR' : R ≤ 16) (hH : 3 ≤ H) (hH' : H ≤ 8) :
    Calls Try.prog 135 #[(.agg #[.int .i64 T, .int .i64 R, .int .i64 H, .int .i64 Re, .int .i64 Ca, .int .i64 S, .int .i64 B]), .int .i64 r] w fun e w' => e = .returned (.int .i64 (manyOf R H S B r)) ∧ Ext w w' := by
  have hm : 0 ≤ R * H := Int.mul_nonneg (by omega) (by omega)
  have hm' : R * H ≤ 128 := by
    have := Int.mul_le_mul hR' hH' (by omega) (by omega)
    simpa using this
  go_enter Try.func135, Try.ntmps135
  go_wp2_with fail
  all_goals
    go_ret
    refine ⟨ret_int ?_, (Ext.rfl' w).alloc (Nat.le_refl _) _⟩
    simp_all [manyOf]
    try omega

theorem refMany_any (T R H Re Ca S B r : Int) (w : World) (hR : 1 ≤ R) (hR' : R ≤ 16) (hH : 3 ≤ H) (hH' : H ≤ 8) :
    Calls Try.prog 105 #[(.agg #[.int .i64 T, .int .i64 R, .int .i64 H, .int .i64 Re, .int .i64 Ca, .int .i64 S, .int .i64 B]), .int .i64 r] w fun e w' => e = .returned (.int .i64 (manyOf R H S B r)) ∧ Ext w w' := by
  have hm : 0 ≤ R * H := Int.mul_nonneg (by omega) (by omega)
  have hm' : R * H ≤ 128 := by
    have := Int.mul_le_mul hR' hH' (by omega) (by omega)
    simpa using this
  go_enter Try.func105, Try.ntmps105
  go_wp2_with fail
  all_goals
    go_ret
    refine ⟨ret_int ?_, (Ext.rfl' w).alloc (Nat.le_refl _) _⟩
    simp_all [manyOf]
    try omega

theorem manyOf_bd (R H S B r : Int) (hR : 1 ≤ R) (hR' : R ≤ 16) (hH : 3 ≤ H) (hH' : H ≤ 8) (hS : 1 ≤ S) (hS' : S ≤ 1024) (hB : 1 ≤ B) (hB' : B ≤ 64) : 1 ≤ manyOf R H S B r ∧ manyOf R H S B r ≤ 1024 := by
  have hm : 1 * 3 ≤ R * H := Int.mul_le_mul (by omega) (by omega) (by omega) (by omega)
  have hm' : R * H ≤ 16 * 8 := Int.mul_le_mul hR' hH' (by omega) (by omega)
  unfold manyOf
  split
  · omega
  · split
    · omega
    · split
      · omega
      · split <;> omega

/-- The seven cells of a boxed configuration. -/
theorem cfgCells {w : World} {b : Nat} {t : TypeId} {T R H Re Ca S B : Int} (h : w.heap[b]? = some (.cells #[.int .i64 T, .int .i64 R, .int .i64 H, .int .i64 Re, .int .i64 Ca, .int .i64 S, .int .i64 B] t (0, 0))) :
    w.cell? ⟨b, 0, none⟩ = some (.int .i64 T) ∧ w.cell? ⟨b, 1, none⟩ = some (.int .i64 R) ∧ w.cell? ⟨b, 2, none⟩ = some (.int .i64 H) ∧ w.cell? ⟨b, 3, none⟩ = some (.int .i64 Re) ∧ w.cell? ⟨b, 4, none⟩ = some (.int .i64 Ca) ∧ w.cell? ⟨b, 5, none⟩ = some (.int .i64 S) ∧ w.cell? ⟨b, 6, none⟩ = some (.int .i64 B) :=
  ⟨cellOf h rfl, cellOf h rfl, cellOf h rfl, cellOf h rfl, cellOf h rfl, cellOf h rfl, cellOf h rfl⟩

end Go.Proofs.Ytfbacopjookplaa
