/- The walk of pool.Look of any configuration and words. -/
import Derived.Test.YtfbacopjookplaaPoolLook
namespace Go.Proofs.Ytfbacopjookplaa
open Go.RowKit
attribute [local go_sem] Oper.semAt_some

/-- What pool.Look answers of whatever configuration and words. -/
def lookAns (T R H Re Ca S B : Int) (ws : List Int) : Int × Cont :=
  if ¬ Okay T R H Re Ca S B then (1, noCont) else if (ws.length : Int) ≠ sumOf R H S B 13 then (2, noCont) else lookSpec R H S B ws
theorem cont_err (w W : World) (er : Int) (h : Ext w W) : ContOut w (er, noCont) (.returned (.tuple #[.agg #[.slice none 0 0, .slice none 0 0, .slice none 0 0, .slice none 0 0, .slice none 0 0], .int .i64 er])) W :=
  ⟨_, _, _, _, _, rfl, World.ownsRow_nil _ _ _ _, World.ownsRow_nil _ _ _ _, World.ownsRow_nil _ _ _ _, World.ownsRow_nil _ _ _ _, World.ownsRow_nil _ _ _ _, h⟩

set_option maxRecDepth 100000 in
set_option maxHeartbeats 4000000 in
theorem look_err (T R H Re Ca S B : Int) (A : Option Addr) (n c : Nat) (w : World) (er : Int) (her : (er != 0) = true)
    (hc : ∀ w : World, Calls Try.prog 45 #[(.agg #[.int .i64 T, .int .i64 R, .int .i64 H, .int .i64 Re, .int .i64 Ca, .int .i64 S, .int .i64 B]), .slice A n c] w fun e w' => e = .returned (.tuple #[.pointer none, .int .i64 er]) ∧ Ext w w') :
    Calls Try.prog 17 #[(.agg #[.int .i64 T, .int .i64 R, .int .i64 H, .int .i64 Re, .int .i64 Ca, .int .i64 S, .int .i64 B]), .slice A n c] w (ContOut w (er, noCont)) := by
  have Hc := Lib.hid hc
  clear hc
  refine calls_of_marks Try.func17 rfl ?_
  simp only [Try.ntmps17, List.size_toArray, List.length_cons, List.length_nil, Nat.reduceAdd, Nat.reduceSub, Array.replicate_succ, Array.replicate_zero, List.push_toArray, List.append_toArray, List.nil_append, List.cons_append]
  go_upto_region 1 with fail
  obtain ⟨wa, ha, h0, h1, eA, ltA⟩ := enter2 w (.cells (cfgV T R H Re Ca S B) 23) (.cells #[.slice none 0 0, .slice none 0 0, .slice none 0 0, .slice none 0 0, .slice none 0 0] 38)
  rw [ha]
  have H1 := Lib.hid h1
  have HEa := Lib.hid eA
  obtain ⟨d0, d1, d2, d3, d4, d5, d6⟩ := Lat.cfg h0
  obtain ⟨ka, hka⟩ := lat_self wa
  rw [hka]
  clear ha h0 h1 eA ltA hka
  go_wp2_with fail
  refine (Hc.out _).mono ?_
  rintro e w1 ⟨rfl, e1⟩
  have HE1 := Lib.hid (Ext.next ka.ok e1)
  clear e1
  go_upto_region 3 with fail
  obtain ⟨w2, hw2, h6, e2, lt2⟩ := enter1 w1 (.cells #[.pointer none] 84)
  rw [hw2]
  have hRes := ext_blk (Ext.next HE1.out e2) H1.out
  have hon := Ext.next HEa.out (Ext.next HE1.out e2)
  have Hon := Lib.hid hon
  clear hw2 h6 e2 lt2 hon
  go_wp2_with (show wpList _ _ _ ({ dst := _, op := Op.store 38 (Operand.tmp 4) (Operand.tmp 26), type := _, pos := _, after := _, guard := _ } :: _) _ _; refine wpList_store_row rfl _ _ _ rfl (w.heap.size + 1) #[.slice none 0 0, .slice none 0 0, .slice none 0 0, .slice none 0 0, .slice none 0 0] (by kernel_rfl) (by kernel_rfl) _ _ hRes (by kernel_rfl) (by kernel_rfl) (by kernel_rfl) ?_)
  refine ⟨_, results_cell_tmp rfl _ _ (w.heap.size + 1) rfl _ (run_loadVar_row _ _ _ _ _ _ _ (setRow_heap _ _ _ _ _ _ hRes) Try.underlying38 rfl (by kernel_rfl)), ?_⟩
  exact cont_err _ _ er (below_setRow Hon.out (by omega) _)

theorem poolLook_any (T R H Re Ca S B : Int) (A : Option Addr) (n c : Nat) (ws : List Int) (w : World) (hr : Rd w A (ws.map (Value.int .u64))) (hl : ws.length = n) (hws : ∀ x ∈ ws, 0 ≤ x ∧ x ≤ 18446744073709551615) :
    Calls Try.prog 17 #[(.agg #[.int .i64 T, .int .i64 R, .int .i64 H, .int .i64 Re, .int .i64 Ca, .int .i64 S, .int .i64 B]), .slice A n c] w (ContOut w (lookAns T R H Re Ca S B ws)) := by
  by_cases hok : Okay T R H Re Ca S B
  · by_cases hn : (n : Int) = sumOf R H S B 13
    · have hs : lookAns T R H Re Ca S B ws = lookSpec R H S B ws := by
        unfold lookAns
        rw [if_neg (by simpa using hok), if_neg (by rw [hl]; simpa using hn)]
      rw [hs]
      exact look_ok T R H Re Ca S B hok A n c ws w hr hl hn hws
    · have hs : lookAns T R H Re Ca S B ws = (2, noCont) := by
        unfold lookAns
        rw [if_neg (by simpa using hok), if_pos (by rw [hl]; exact hn)]
      rw [hs]
      exact look_err T R H Re Ca S B A n c w 2 rfl (fun w => newWalker_range T R H Re Ca S B hok A n c hn w)
  · have hs : lookAns T R H Re Ca S B ws = (1, noCont) := by
      unfold lookAns
      rw [if_pos hok]
    rw [hs]
    exact look_err T R H Re Ca S B A n c w 1 rfl (fun w => newWalker_config T R H Re Ca S B hok A n c w)
end Go.Proofs.Ytfbacopjookplaa
