/- The walk of word.look: what a region is, read from the table of fourteen. -/
import Derived.Test.YtfbacopjookplaaCheck
import Derived.Deep.DeepCutAuto
namespace Go.Proofs.Ytfbacopjookplaa
open Go.RowKit

theorem alloc2_old (w : World) (X Y : Obj) : ((w.alloc X).alloc Y).heap[w.heap.size]? = some X := by
  rw [heap_alloc_old _ _ (by simp)]
  exact heap_alloc_new w X
theorem results_cell_tmp {P : Program} {fn : Func} {p t : Tmp} {ty : TypeId} (h : fn.results = #[.cell p ty, .tmp t]) (tmps : Array Value) (w : World) (g : Nat) (hp : tmps.getD p undef = .pointer (some ⟨g, 0, none⟩)) (cs : Array Value)
    (hl : (loadVar ty ⟨g, 0, none⟩).run P w = .ok (.agg cs) w) : (results fn tmps).run P w = .ok (.tuple #[.agg cs, tmps.getD t undef]) w := by
  have hp' : tmps[p]?.getD undef = .pointer (some ⟨g, 0, none⟩) := by simpa using hp
  simp [results, h, hp', asAddr, hl]

/-- How a region's words are numbered. -/
def orderOf (r : Int) : Int := if r ≤ 6 then 0 else if r = 9 then 2 else 1
def Looked (r : Int) (w : World) (e : Ending) (w' : World) : Prop := ∃ (s : ByteArray) (kd : Int), e = .returned (.tuple #[.agg #[.string s, .int .i64 kd, .int .i64 (orderOf r)], .bool true]) ∧ Ext w w'

set_option maxRecDepth 100000 in
set_option maxHeartbeats 4000000 in
theorem look_any (r : Int) (w : World) (h1 : 1 ≤ r) (h2 : r ≤ 13) : Calls Try.prog 136 #[.int .i64 r] w (Looked r w) := by
  go_enter Try.func136, Try.ntmps136
  go_upto_region 2 with (first
    | (show wpList _ _ _ ({ dst := some 5, op := Op.build 204 _, type := _, pos := _, after := _, guard := _ } :: _) _ _; refine wpList_built rfl _ _ rfl #[.string ⟨#[]⟩, .int .i64 0, .int .i64 0] (by kernel_rfl) ?_)
    | (show wpList _ _ _ ({ dst := some 6, op := Op.build 204 _, type := _, pos := _, after := _, guard := _ } :: _) _ _; refine wpList_built rfl _ _ rfl #[.string ⟨#[102, 114, 101, 101]⟩, .int .i64 1, .int .i64 0] (by kernel_rfl) ?_)
    | (show wpList _ _ _ ({ dst := some 7, op := Op.build 204 _, type := _, pos := _, after := _, guard := _ } :: _) _ _; refine wpList_built rfl _ _ rfl #[.string ⟨#[99, 101, 108, 108]⟩, .int .i64 2, .int .i64 0] (by kernel_rfl) ?_)
    | (show wpList _ _ _ ({ dst := some 8, op := Op.build 204 _, type := _, pos := _, after := _, guard := _ } :: _) _ _; refine wpList_built rfl _ _ rfl #[.string ⟨#[116, 111, 112]⟩, .int .i64 2, .int .i64 0] (by kernel_rfl) ?_)
    | (show wpList _ _ _ ({ dst := some 9, op := Op.build 204 _, type := _, pos := _, after := _, guard := _ } :: _) _ _; refine wpList_built rfl _ _ rfl #[.string ⟨#[104, 101, 97, 100]⟩, .int .i64 2, .int .i64 0] (by kernel_rfl) ?_)
    | (show wpList _ _ _ ({ dst := some 10, op := Op.build 204 _, type := _, pos := _, after := _, guard := _ } :: _) _ _; refine wpList_built rfl _ _ rfl #[.string ⟨#[116, 97, 105, 108]⟩, .int .i64 2, .int .i64 0] (by kernel_rfl) ?_)
    | (show wpList _ _ _ ({ dst := some 11, op := Op.build 204 _, type := _, pos := _, after := _, guard := _ } :: _) _ _; refine wpList_built rfl _ _ rfl #[.string ⟨#[114, 111, 111, 116]⟩, .int .i64 2, .int .i64 0] (by kernel_rfl) ?_)
    | (show wpList _ _ _ ({ dst := some 12, op := Op.build 204 _, type := _, pos := _, after := _, guard := _ } :: _) _ _; refine wpList_built rfl _ _ rfl #[.string ⟨#[98, 117, 99, 107, 101, 116]⟩, .int .i64 2, .int .i64 1] (by kernel_rfl) ?_)
    | (show wpList _ _ _ ({ dst := some 13, op := Op.build 204 _, type := _, pos := _, after := _, guard := _ } :: _) _ _; refine wpList_built rfl _ _ rfl #[.string ⟨#[97, 99, 116, 105, 118, 101]⟩, .int .i64 4, .int .i64 1] (by kernel_rfl) ?_)
    | (show wpList _ _ _ ({ dst := some 14, op := Op.build 204 _, type := _, pos := _, after := _, guard := _ } :: _) _ _; refine wpList_built rfl _ _ rfl #[.string ⟨#[104, 97, 122, 97, 114, 100]⟩, .int .i64 2, .int .i64 2] (by kernel_rfl) ?_)
    | (show wpList _ _ _ ({ dst := some 15, op := Op.build 204 _, type := _, pos := _, after := _, guard := _ } :: _) _ _; refine wpList_built rfl _ _ rfl #[.string ⟨#[115, 112, 97, 114, 101]⟩, .int .i64 2, .int .i64 1] (by kernel_rfl) ?_)
    | (show wpList _ _ _ ({ dst := some 16, op := Op.build 204 _, type := _, pos := _, after := _, guard := _ } :: _) _ _; refine wpList_built rfl _ _ rfl #[.string ⟨#[118, 97, 108, 117, 101]⟩, .int .i64 5, .int .i64 1] (by kernel_rfl) ?_)
    | (show wpList _ _ _ ({ dst := some 17, op := Op.build 204 _, type := _, pos := _, after := _, guard := _ } :: _) _ _; refine wpList_built rfl _ _ rfl #[.string ⟨#[100, 97, 116, 97]⟩, .int .i64 5, .int .i64 1] (by kernel_rfl) ?_)
    | (show wpList _ _ _ ({ dst := some 18, op := Op.build 204 _, type := _, pos := _, after := _, guard := _ } :: _) _ _; refine wpList_built rfl _ _ rfl #[.string ⟨#[108, 105, 110, 107]⟩, .int .i64 3, .int .i64 1] (by kernel_rfl) ?_)
    | (show wpList _ _ _ ({ dst := _, op := Op.build 227 _, type := _, pos := _, after := _, guard := _ } :: _) _ _; refine wpList_built rfl _ _ rfl #[.string ⟨#[]⟩, .int .i64 0, .int .i64 0, .string ⟨#[102, 114, 101, 101]⟩, .int .i64 1, .int .i64 0, .string ⟨#[99, 101, 108, 108]⟩, .int .i64 2, .int .i64 0, .string ⟨#[116, 111, 112]⟩, .int .i64 2, .int .i64 0, .string ⟨#[104, 101, 97, 100]⟩, .int .i64 2, .int .i64 0, .string ⟨#[116, 97, 105, 108]⟩, .int .i64 2, .int .i64 0, .string ⟨#[114, 111, 111, 116]⟩, .int .i64 2, .int .i64 0, .string ⟨#[98, 117, 99, 107, 101, 116]⟩, .int .i64 2, .int .i64 1, .string ⟨#[97, 99, 116, 105, 118, 101]⟩, .int .i64 4, .int .i64 1, .string ⟨#[104, 97, 122, 97, 114, 100]⟩, .int .i64 2, .int .i64 2, .string ⟨#[115, 112, 97, 114, 101]⟩, .int .i64 2, .int .i64 1, .string ⟨#[118, 97, 108, 117, 101]⟩, .int .i64 5, .int .i64 1, .string ⟨#[100, 97, 116, 97]⟩, .int .i64 5, .int .i64 1, .string ⟨#[108, 105, 110, 107]⟩, .int .i64 3, .int .i64 1] (by kernel_rfl) ?_)
    | (show wpList _ _ _ ({ dst := _, op := Op.store 227 _ _, type := _, pos := _, after := _, guard := _ } :: _) _ _; refine wpList_store_row rfl _ _ _ rfl (w.heap.size + 1) #[.string ⟨#[]⟩, .int .i64 0, .int .i64 0, .string ⟨#[102, 114, 101, 101]⟩, .int .i64 1, .int .i64 0, .string ⟨#[99, 101, 108, 108]⟩, .int .i64 2, .int .i64 0, .string ⟨#[116, 111, 112]⟩, .int .i64 2, .int .i64 0, .string ⟨#[104, 101, 97, 100]⟩, .int .i64 2, .int .i64 0, .string ⟨#[116, 97, 105, 108]⟩, .int .i64 2, .int .i64 0, .string ⟨#[114, 111, 111, 116]⟩, .int .i64 2, .int .i64 0, .string ⟨#[98, 117, 99, 107, 101, 116]⟩, .int .i64 2, .int .i64 1, .string ⟨#[97, 99, 116, 105, 118, 101]⟩, .int .i64 4, .int .i64 1, .string ⟨#[104, 97, 122, 97, 114, 100]⟩, .int .i64 2, .int .i64 2, .string ⟨#[115, 112, 97, 114, 101]⟩, .int .i64 2, .int .i64 1, .string ⟨#[118, 97, 108, 117, 101]⟩, .int .i64 5, .int .i64 1, .string ⟨#[100, 97, 116, 97]⟩, .int .i64 5, .int .i64 1, .string ⟨#[108, 105, 110, 107]⟩, .int .i64 3, .int .i64 1] (by kernel_rfl) (by kernel_rfl) _ _ (alloc2_at _ _ _) (by kernel_rfl) (by kernel_rfl) (by kernel_rfl) ?_; rw [alloc2_setRow]))
  rcases (by omega : r = 1 ∨ r = 2 ∨ r = 3 ∨ r = 4 ∨ r = 5 ∨ r = 6 ∨ r = 7 ∨ r = 8 ∨ r = 9 ∨ r = 10 ∨ r = 11 ∨ r = 12 ∨ r = 13) with rfl | rfl | rfl | rfl | rfl | rfl | rfl | rfl | rfl | rfl | rfl | rfl | rfl
  all_goals
    go_wp2
    refine bodyPost_ret (results_cell_tmp rfl _ _ w.heap.size rfl _ (run_loadVar_row _ _ _ _ _ _ _ (alloc2_old _ _ _) Try.underlying204 rfl (by kernel_rfl))) rfl ?_
    exact ⟨_, _, rfl, ((Ext.rfl' w).alloc (Nat.le_refl _) _).alloc (by simp) _⟩

end Go.Proofs.Ytfbacopjookplaa
