/- The walk of word.Check: the limits' table is laid and read by laws, its seven rows one by one. -/
import Derived.Test.YtfbacopjookplaaMany
import Derived.Laws.Tables
namespace Go.Proofs.Ytfbacopjookplaa
open Go.RowKit

theorem alloc_setRow (w : World) (old cs : Array Value) (t : TypeId) : (w.alloc (.cells old t)).setRow w.heap.size cs = w.alloc (.cells cs t) := by
  show ({ w with heap := (w.heap.push (.cells old t)).modify w.heap.size _ } : World) = { w with heap := w.heap.push (.cells cs t) }
  congr 1
  apply Array.ext_getElem?
  intro i
  rw [Array.getElem?_modify]
  by_cases hi : w.heap.size = i
  · subst hi
    simp
  · simp only [hi, if_false]
    simp only [Array.getElem?_push]
    split
    · omega
    · rfl
theorem alloc2_at (w : World) (X Y : Obj) : ((w.alloc X).alloc Y).heap[w.heap.size + 1]? = some Y := by
  have := heap_alloc_new (w.alloc X) Y
  simpa using this
theorem alloc2_setRow (w : World) (X : Obj) (old cs : Array Value) (t : TypeId) : ((w.alloc X).alloc (.cells old t)).setRow (w.heap.size + 1) cs = (w.alloc X).alloc (.cells cs t) := by
  have := alloc_setRow (w.alloc X) old cs t
  simpa using this
theorem wpList_built {P : Program} {ops : Array Oper} {rest : List Oper} {o : Oper} {a : Act} {w : World} {Q : Exit → Act → World → Prop} (hg : o.guard = none) (t : TypeId) (parts : Array (Nat × Operand)) (ho : o.op = .build t parts)
    (cells : Array Value) (hf : P.built t (parts.map fun (i, x) => (i, a.eval x)).toList = some cells)
    (h : wpList P ops Q rest (a.put o.dst (.agg cells)) w) : wpList P ops Q (o :: rest) a w :=
  wpList_build hg t parts ho (by rw [hf]; rfl) (by rw [hf]; exact h)
theorem built_three (a b c : Int) : Try.prog.built 175 [(0, .int .i64 a), (1, .int .i64 b), (2, .int .i64 c)] = some #[.int .i64 a, .int .i64 b, .int .i64 c] := by kernel_rfl
theorem built_limits (a b c d e f g h i j k l m n o p q r s t u : Value) : Try.prog.built 176 [(0, .agg #[a, b, c]), (1, .agg #[d, e, f]), (2, .agg #[g, h, i]), (3, .agg #[j, k, l]), (4, .agg #[m, n, o]), (5, .agg #[p, q, r]), (6, .agg #[s, t, u])] = some #[a, b, c, d, e, f, g, h, i, j, k, l, m, n, o, p, q, r, s, t, u] := by kernel_rfl

def Upto (k : Nat) (T R H Re Ca S B : Int) : Prop := (0 < k → 1 ≤ T ∧ T ≤ 16) ∧ (1 < k → 1 ≤ R ∧ R ≤ 16) ∧ (2 < k → 3 ≤ H ∧ H ≤ 8) ∧ (3 < k → 1 ≤ Re ∧ Re ≤ 1024) ∧ (4 < k → 0 ≤ Ca ∧ Ca ≤ 64) ∧ (5 < k → 1 ≤ S ∧ S ≤ 1024) ∧ (6 < k → 1 ≤ B ∧ B ≤ 64)

theorem limits_row (T R H Re Ca S B : Int) {k : Nat} (hk : k < 7) : ∃ x lo hi : Int,
    (#[.int .i64 T, .int .i64 1, .int .i64 16, .int .i64 R, .int .i64 1, .int .i64 16, .int .i64 H, .int .i64 3, .int .i64 8, .int .i64 Re, .int .i64 1, .int .i64 1024, .int .i64 Ca, .int .i64 0, .int .i64 64, .int .i64 S, .int .i64 1, .int .i64 1024, .int .i64 B, .int .i64 1, .int .i64 64] : Array Value).extract (k * 3) (k * 3 + 3) = #[.int .i64 x, .int .i64 lo, .int .i64 hi] ∧ (Okay T R H Re Ca S B → lo ≤ x ∧ x ≤ hi) ∧ (Upto k T R H Re Ca S B → lo ≤ x → x ≤ hi → Hid (Upto (k + 1) T R H Re Ca S B)) := by
  unfold Okay
  show ∃ x lo hi : Int, _ ∧ _ ∧ (Upto k T R H Re Ca S B → lo ≤ x → x ≤ hi → Upto (k + 1) T R H Re Ca S B)
  unfold Upto
  rcases (by omega : k = 0 ∨ k = 1 ∨ k = 2 ∨ k = 3 ∨ k = 4 ∨ k = 5 ∨ k = 6) with rfl | rfl | rfl | rfl | rfl | rfl | rfl
  · exact ⟨T, 1, 16, rfl, by omega, by omega⟩
  · exact ⟨R, 1, 16, rfl, by omega, by omega⟩
  · exact ⟨H, 3, 8, rfl, by omega, by omega⟩
  · exact ⟨Re, 1, 1024, rfl, by omega, by omega⟩
  · exact ⟨Ca, 0, 64, rfl, by omega, by omega⟩
  · exact ⟨S, 1, 1024, rfl, by omega, by omega⟩
  · exact ⟨B, 1, 64, rfl, by omega, by omega⟩
theorem wp_index {P : Program} {o : Oper} {a : Act} {w : World} {K : Act → World → Prop} {Q : Exit → Act → World → Prop} (t : TypeId) (x i : Operand) (ho : o.op = .index t x i)
    (v : Value) (hv : (Instr.index t (a.eval x) (a.eval i)).run P w = .ok v w) (h : K (a.put o.dst v) w) : o.wp P a w K Q := by
  unfold Oper.wp execOp
  simp only [ho, Sem.run_bind, hv, Result.andThen_ok]
  exact h
theorem wpList_index {P : Program} {ops : Array Oper} {rest : List Oper} {o : Oper} {a : Act} {w : World} {Q : Exit → Act → World → Prop} (hg : o.guard = none) (t : TypeId) (x i : Operand) (ho : o.op = .index t x i)
    (v : Value) (hv : (Instr.index t (a.eval x) (a.eval i)).run P w = .ok v w) (h : wpList P ops Q rest (a.put o.dst v) w) : wpList P ops Q (o :: rest) a w :=
  wpList_plain hg fun _ hK => wp_index t x i ho v hv (hK _ _ h)
theorem run_index_row (w : World) (cs : Array Value) (k : Nat) (hk : k < 7) (u : Array Value) (he : cs.extract (k * 3) (k * 3 + 3) = u) : (Instr.index 176 (.agg cs) (.int .i64 (k : Int))).run Try.prog w = .ok (.agg u) w := by
  have hinfo : (Try.prog.info? 175).map (·.size) = some 3 := by kernel_rfl
  obtain ⟨inf, h1, h2⟩ := Option.map_eq_some_iff.1 hinfo
  have hs : (sizeOf 175).run Try.prog w = .ok 3 w := by simp [sizeOf, typeInfo, h1, h2]
  subst he
  simp [Instr.index, asIntOf, run_underlying Try.underlying176, hs, part, Sem.run_bind]
  intro h
  omega

set_option maxHeartbeats 2000000 in
theorem check_any (T R H Re Ca S B : Int) (w : World) :
    Calls Try.prog 69 #[(.agg #[.int .i64 T, .int .i64 R, .int .i64 H, .int .i64 Re, .int .i64 Ca, .int .i64 S, .int .i64 B])] w fun e w' => e = .returned (.int .i64 (if Okay T R H Re Ca S B then 0 else 1)) ∧ Ext w w' := by
  generalize hans : (if Okay T R H Re Ca S B then (0 : Int) else 1) = ans
  have Hans := Lib.hid hans
  clear hans
  go_enter Try.func69, Try.ntmps69
  go_wp2_with (first
    | (show wpList _ _ _ ({ dst := some 8, op := Op.build 175 _, type := _, pos := _, after := _, guard := _ } :: _) _ _; refine wpList_built rfl _ _ rfl #[.int .i64 T, .int .i64 1, .int .i64 16] (by kernel_rfl) ?_)
    | (show wpList _ _ _ ({ dst := some 11, op := Op.build 175 _, type := _, pos := _, after := _, guard := _ } :: _) _ _; refine wpList_built rfl _ _ rfl #[.int .i64 R, .int .i64 1, .int .i64 16] (by kernel_rfl) ?_)
    | (show wpList _ _ _ ({ dst := some 14, op := Op.build 175 _, type := _, pos := _, after := _, guard := _ } :: _) _ _; refine wpList_built rfl _ _ rfl #[.int .i64 H, .int .i64 3, .int .i64 8] (by kernel_rfl) ?_)
    | (show wpList _ _ _ ({ dst := some 17, op := Op.build 175 _, type := _, pos := _, after := _, guard := _ } :: _) _ _; refine wpList_built rfl _ _ rfl #[.int .i64 Re, .int .i64 1, .int .i64 1024] (by kernel_rfl) ?_)
    | (show wpList _ _ _ ({ dst := some 20, op := Op.build 175 _, type := _, pos := _, after := _, guard := _ } :: _) _ _; refine wpList_built rfl _ _ rfl #[.int .i64 Ca, .int .i64 0, .int .i64 64] (by kernel_rfl) ?_)
    | (show wpList _ _ _ ({ dst := some 23, op := Op.build 175 _, type := _, pos := _, after := _, guard := _ } :: _) _ _; refine wpList_built rfl _ _ rfl #[.int .i64 S, .int .i64 1, .int .i64 1024] (by kernel_rfl) ?_)
    | (show wpList _ _ _ ({ dst := some 26, op := Op.build 175 _, type := _, pos := _, after := _, guard := _ } :: _) _ _; refine wpList_built rfl _ _ rfl #[.int .i64 B, .int .i64 1, .int .i64 64] (by kernel_rfl) ?_)
    | (show wpList _ _ _ ({ dst := _, op := Op.build 176 _, type := _, pos := _, after := _, guard := _ } :: _) _ _; refine wpList_built rfl _ _ rfl #[.int .i64 T, .int .i64 1, .int .i64 16, .int .i64 R, .int .i64 1, .int .i64 16, .int .i64 H, .int .i64 3, .int .i64 8, .int .i64 Re, .int .i64 1, .int .i64 1024, .int .i64 Ca, .int .i64 0, .int .i64 64, .int .i64 S, .int .i64 1, .int .i64 1024, .int .i64 B, .int .i64 1, .int .i64 64] (by kernel_rfl) ?_)
    | (show wpList _ _ _ ({ dst := _, op := Op.store 176 _ _, type := _, pos := _, after := _, guard := _ } :: _) _ _; refine wpList_store_row rfl _ _ _ rfl (w.heap.size + 1) #[.int .i64 T, .int .i64 1, .int .i64 16, .int .i64 R, .int .i64 1, .int .i64 16, .int .i64 H, .int .i64 3, .int .i64 8, .int .i64 Re, .int .i64 1, .int .i64 1024, .int .i64 Ca, .int .i64 0, .int .i64 64, .int .i64 S, .int .i64 1, .int .i64 1024, .int .i64 B, .int .i64 1, .int .i64 64] (by kernel_rfl) (by kernel_rfl) _ _ (alloc2_at _ _ _) (by kernel_rfl) (by kernel_rfl) (by kernel_rfl) ?_; rw [alloc2_setRow])
    | (show wpList _ _ _ ({ dst := _, op := Op.load 176 _, type := _, pos := _, after := _, guard := _ } :: _) _ _; refine wpList_load_row rfl _ _ rfl (w.heap.size + 1) (by kernel_rfl) _ _ _ _ (alloc2_at _ _ _) Try.underlying176 rfl (by kernel_rfl) ?_))
  go_loopw [29] (fun s wr => ∃ k : Nat, k ≤ 7 ∧ s = .int .i64 k ∧ Hid (Upto k T R H Re Ca S B) ∧ Ext w wr) (fun s _ => 7 - (intOf s).toNat)
  case atStart => exact ⟨0, by omega, rfl, by show Upto _ _ _ _ _ _ _ _; simp [Upto], ((Ext.rfl' w).alloc (Nat.le_refl _) _).alloc (by simp) _⟩
  case round =>
    obtain ⟨k, hk, rfl, hu, he⟩ := hrel
    by_cases hlt : k < 7
    · obtain ⟨x, lo, hi, hrow, hok, hup⟩ := limits_row T R H Re Ca S B hlt
      have Hok := Lib.hid hok
      have Hup := Lib.hid hup
      clear hok hup
      go_wp2_with (show wpList _ _ _ ({ dst := _, op := Op.index 176 _ _, type := _, pos := _, after := _, guard := _ } :: _) _ _; refine wpList_index rfl _ _ _ rfl (.agg #[.int .i64 x, .int .i64 lo, .int .i64 hi]) (run_index_row _ _ k hlt _ hrow) ?_)
      all_goals first
        | (go_ret; exact ⟨ret_int ((if_neg (fun h => by have := Hok.out h; omega)).symm.trans Hans.out), he.alloc he.size _⟩)
        | (go_roundw
           case rel => exact ⟨k + 1, by omega, by go_num, Hup.out hu.out (by omega) (by omega), he.alloc he.size _⟩
           case measure => simp [intOf]; try omega)
    · obtain rfl : k = 7 := by omega
      go_wp2_with fail
      go_ret
      exact ⟨ret_int ((if_pos (by have := hu.out; unfold Upto at this; unfold Okay; omega)).symm.trans Hans.out), he⟩

end Go.Proofs.Ytfbacopjookplaa
