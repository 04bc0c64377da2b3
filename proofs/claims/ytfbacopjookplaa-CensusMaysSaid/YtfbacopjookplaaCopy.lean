/- The walk of the document's CopyRun. -/
import Derived.Test.YtfbacopjookplaaTrace
import Derived.Test.YtfbacopjookplaaMoments1
namespace Go.Proofs.Ytfbacopjookplaa
open Go.RowKit

theorem elemClC : Elem Try.prog 150 9 72 := Elem.of (z := .agg #[.int .i64 0, .int .i64 0, .int .i64 0, .int .i64 0, .int .i64 0, .int .i64 0, .int .i64 0, .int .i64 0, .int .i64 0]) (by kernel_rfl) (by simp [Value.cells]) (by omega) (by omega)
theorem elemAc : Elem Try.prog 129 7 56 := Elem.of (z := .agg #[.int .i64 0, .int .i64 0, .int .i64 0, .int .i64 0, .int .u64 0, .int .u64 0, .int .u64 0]) (by kernel_rfl) (by simp [Value.cells]) (by omega) (by omega)
theorem elemWd : Elem Try.prog 25 1 8 := Elem.of (z := .int .u64 0) (by kernel_rfl) rfl (by omega) (by omega)
theorem one_cl (xs : List Cl) : ∀ u ∈ xs.flatMap Cl.enc, u.oneCell' = true := by
  intro u hu
  obtain ⟨x, _, hx⟩ := List.mem_flatMap.1 hu
  simp only [Cl.enc, List.mem_cons, List.not_mem_nil, or_false] at hx
  rcases hx with rfl | rfl | rfl | rfl | rfl | rfl | rfl | rfl | rfl <;> rfl
theorem one_ac (xs : List Ac) : ∀ u ∈ xs.flatMap Ac.enc, u.oneCell' = true := by
  intro u hu
  obtain ⟨x, _, hx⟩ := List.mem_flatMap.1 hu
  simp only [Ac.enc, List.mem_cons, List.not_mem_nil, or_false] at hx
  rcases hx with rfl | rfl | rfl | rfl | rfl | rfl | rfl <;> rfl
theorem one_sh (xs : List Sh) : ∀ u ∈ xs.flatMap Sh.enc, u.oneCell' = true := by
  intro u hu
  obtain ⟨x, _, hx⟩ := List.mem_flatMap.1 hu
  simp only [Sh.enc, List.mem_cons, List.not_mem_nil, or_false] at hx
  rcases hx with rfl | rfl | rfl | rfl | rfl <;> rfl
theorem one_wd (xs : List Int) : ∀ u ∈ xs.map (Value.int .u64), u.oneCell' = true := by
  intro u hu
  obtain ⟨x, _, rfl⟩ := List.mem_map.1 hu
  rfl
theorem results_cell1' {P : Program} {fn : Func} {p : Tmp} {ty : TypeId} (h : fn.results = #[.cell p ty]) (tmps : Array Value) (w : World) (g : Nat) (hp : tmps.getD p undef = .pointer (some ⟨g, 0, none⟩)) (v : Value)
    (hl : (loadVar ty ⟨g, 0, none⟩).run P w = .ok v w) : (results fn tmps).run P w = .ok v w := by
  have hp' : tmps[p]?.getD undef = .pointer (some ⟨g, 0, none⟩) := by simpa using hp
  simp [results, h, hp', asAddr, hl]

def CopyOut (w : World) (n1 n2 n3 n4 : Nat) (cs : List Cl) (tr : List Ac) (sh : List Sh) (rw_ : List Int) (e : Ending) (w' : World) : Prop :=
  ∃ B1 k1 B2 k2 B3 k3 B4 k4, e = .returned (.agg #[.slice B1 n1 k1, .slice B2 n2 k2, .slice B3 n3 k3, .slice B4 n4 k4]) ∧ RunMem w' B1 n1 B2 n2 B3 n3 B4 n4 cs tr sh rw_ ∧ Ext w w'

set_option maxRecDepth 100000 in
set_option maxHeartbeats 4000000 in
theorem copy_any (A1 : Option Addr) (n1 c1 : Nat) (A2 : Option Addr) (n2 c2 : Nat) (A3 : Option Addr) (n3 c3 : Nat) (A4 : Option Addr) (n4 c4 : Nat) (cs : List Cl) (tr : List Ac) (sh : List Sh) (rw_ : List Int) (w : World)
    (hm : RunMem w A1 n1 A2 n2 A3 n3 A4 n4 cs tr sh rw_) (b1 : n1 * 72 ≤ 140737488355328) (b2 : n2 * 56 ≤ 140737488355328) (b3 : n3 * 40 ≤ 140737488355328) (b4 : n4 * 8 ≤ 140737488355328) :
    Calls Try.prog 20 #[.agg #[.slice A1 n1 c1, .slice A2 n2 c2, .slice A3 n3 c3, .slice A4 n4 c4]] w (CopyOut w n1 n2 n3 n4 cs tr sh rw_) := by
  have Hm := Lib.hid hm
  clear hm
  go_enter Try.func20, Try.ntmps20
  go_upto_region 1 with fail
  obtain ⟨w0, hw0, hR, hT, hE, hlt0⟩ := enter2 w (.cells #[.slice A1 n1 c1, .slice A2 n2 c2, .slice A3 n3 c3, .slice A4 n4 c4] 48) (.cells #[.slice none 0 0, .slice none 0 0, .slice none 0 0, .slice none 0 0] 48)
  rw [hw0]
  have HE := Lib.hid hE
  have HT := Lib.hid hT
  have HR := Lib.hid hR
  have Hm0 := Lib.hid (Hm.out.ext hE)
  have hb0 : w.heap.size ≤ w0.heap.size := hE.size
  have hk : ∀ w', Ext w0 w' → w'.cell? ⟨w.heap.size, 0, none⟩ = some (.slice A1 n1 c1) ∧ w'.cell? ⟨w.heap.size, 1, none⟩ = some (.slice A2 n2 c2) ∧ w'.cell? ⟨w.heap.size, 2, none⟩ = some (.slice A3 n3 c3) ∧ w'.cell? ⟨w.heap.size, 3, none⟩ = some (.slice A4 n4 c4) := fun w' e =>
    ⟨(Lat.run HR.out).1 ⟨w', e⟩, (Lat.run HR.out).2.1 ⟨w', e⟩, (Lat.run HR.out).2.2.1 ⟨w', e⟩, (Lat.run HR.out).2.2.2 ⟨w', e⟩⟩
  have hk2 : ∀ wx w', Ext w0 wx → Only (fun q => q = w.heap.size + 1) wx w' → w'.cell? ⟨w.heap.size, 0, none⟩ = some (.slice A1 n1 c1) ∧ w'.cell? ⟨w.heap.size, 1, none⟩ = some (.slice A2 n2 c2) ∧ w'.cell? ⟨w.heap.size, 2, none⟩ = some (.slice A3 n3 c3) ∧ w'.cell? ⟨w.heap.size, 3, none⟩ = some (.slice A4 n4 c4) := fun wx w' e o => by
    have h := (o.block w.heap.size (blk_lt (ext_blk e HR.out)) (by omega)).trans (ext_blk e HR.out)
    exact ⟨cellOf h rfl, cellOf h rfl, cellOf h rfl, cellOf h rfl⟩
  have hk4 : ∀ (wx : World) (a b c d : Value), Ext w0 wx → ((((wx.setCell ⟨w.heap.size + 1, 0, none⟩ a).setCell ⟨w.heap.size + 1, 1, none⟩ b).setCell ⟨w.heap.size + 1, 2, none⟩ c).setCell ⟨w.heap.size + 1, 3, none⟩ d).cell? ⟨w.heap.size, 0, none⟩ = some (.slice A1 n1 c1) ∧ ((((wx.setCell ⟨w.heap.size + 1, 0, none⟩ a).setCell ⟨w.heap.size + 1, 1, none⟩ b).setCell ⟨w.heap.size + 1, 2, none⟩ c).setCell ⟨w.heap.size + 1, 3, none⟩ d).cell? ⟨w.heap.size, 1, none⟩ = some (.slice A2 n2 c2) ∧ ((((wx.setCell ⟨w.heap.size + 1, 0, none⟩ a).setCell ⟨w.heap.size + 1, 1, none⟩ b).setCell ⟨w.heap.size + 1, 2, none⟩ c).setCell ⟨w.heap.size + 1, 3, none⟩ d).cell? ⟨w.heap.size, 2, none⟩ = some (.slice A3 n3 c3) ∧ ((((wx.setCell ⟨w.heap.size + 1, 0, none⟩ a).setCell ⟨w.heap.size + 1, 1, none⟩ b).setCell ⟨w.heap.size + 1, 2, none⟩ c).setCell ⟨w.heap.size + 1, 3, none⟩ d).cell? ⟨w.heap.size, 3, none⟩ = some (.slice A4 n4 c4) := fun wx a b c d e =>
    hk2 wx _ e (((((Only.refl (fun q => q = w.heap.size + 1) wx).setCell ⟨w.heap.size + 1, 0, none⟩ a fun _ => rfl).setCell ⟨w.heap.size + 1, 1, none⟩ b fun _ => rfl).setCell ⟨w.heap.size + 1, 2, none⟩ c fun _ => rfl).setCell ⟨w.heap.size + 1, 3, none⟩ d fun _ => rfl)
  have h4 : ∀ w', Ext w0 w' → (w'.cell? ⟨w.heap.size + 1, 0, none⟩ = some (.slice none 0 0) ∧ w'.cell? ⟨w.heap.size + 1, 1, none⟩ = some (.slice none 0 0) ∧ w'.cell? ⟨w.heap.size + 1, 2, none⟩ = some (.slice none 0 0) ∧ w'.cell? ⟨w.heap.size + 1, 3, none⟩ = some (.slice none 0 0)) ∧
      w'.frozen? ⟨w.heap.size + 1, 0, none⟩ = false ∧ w'.frozen? ⟨w.heap.size + 1, 1, none⟩ = false ∧ w'.frozen? ⟨w.heap.size + 1, 2, none⟩ = false ∧ w'.frozen? ⟨w.heap.size + 1, 3, none⟩ = false := fun w' e => by
    have h := ext_blk e HT.out
    exact ⟨⟨cellOf h rfl, cellOf h rfl, cellOf h rfl, cellOf h rfl⟩, freeOf h 0, freeOf h 1, freeOf h 2, freeOf h 3⟩
  have l1 : (cs.flatMap Cl.enc).length = n1 * 9 := by rw [flat_len Cl.enc 9 Cl.size, Hm.out.calls.1]
  have l2 : (tr.flatMap Ac.enc).length = n2 * 7 := by rw [flat_len Ac.enc 7 Ac.size, Hm.out.trace.1]
  have l3 : (sh.flatMap Sh.enc).length = n3 * 5 := by rw [flat_len Sh.enc 5 Sh.size, Hm.out.shifts.1]
  have l4 : (rw_.map (Value.int .u64)).length = n4 * 1 := by rw [List.length_map, Hm.out.wlen, Nat.mul_one]
  have E0 := (Ext.rfl' w0).drew1
  clear hw0 hR hT hlt0 hE
  go_region_held3 (fun w' => w'.cell? ⟨w.heap.size, 0, none⟩ = some (.slice A1 n1 c1) ∧ w'.cell? ⟨w.heap.size, 1, none⟩ = some (.slice A2 n2 c2) ∧ w'.cell? ⟨w.heap.size, 2, none⟩ = some (.slice A3 n3 c3) ∧ w'.cell? ⟨w.heap.size, 3, none⟩ = some (.slice A4 n4 c4))
    (first | exact hk _ E0 | exact hk _ EA | exact hk _ EB | exact hk _ EC | exact hk _ ED | exact hk4 _ _ _ _ _ ED)
    (first
      | (refine step_appendR _ rfl (.const (.slice none 0 0)) (.tmp 4) 44 rfl w.heap.size 150 9 72 elemClC Try.underlying44 (.slice none 0 0) 0 [] rfl (World.ownsRow_nil _ _ _ _) A1 n1 c1 (cs.flatMap Cl.enc) (by simp [Act.eval]) l1 (Hm0.out.calls.2.ext E0) (one_cl cs) (by omega) (Nat.le_trans hb0 E0.size) ?_; intro v1 wA hA gA tA; have EA : Ext w0 wA := Ext.next E0 ((Only.of_grown gA).ext fun q _ hq => by cases hq); rw [Nat.zero_add, List.nil_append] at hA; obtain ⟨B1, k1, rfl⟩ := own_form hA)
      | (refine step_appendR _ rfl (.const (.slice none 0 0)) (.tmp 7) 45 rfl w.heap.size 129 7 56 elemAc Try.underlying45 (.slice none 0 0) 0 [] rfl (World.ownsRow_nil _ _ _ _) A2 n2 c2 (tr.flatMap Ac.enc) (by simp [Act.eval]) l2 (Hm0.out.trace.2.ext EA) (one_ac tr) (by omega) (Nat.le_trans hb0 EA.size) ?_; intro v2 wB hB gB tB; have EAB : Ext wA wB := (Only.of_grown gB).ext fun q _ hq => (by cases hq); have EB : Ext w0 wB := Ext.next EA EAB; rw [Nat.zero_add, List.nil_append] at hB; obtain ⟨B2, k2, rfl⟩ := own_form hB)
      | (refine step_appendR _ rfl (.const (.slice none 0 0)) (.tmp 10) 46 rfl w.heap.size 136 5 40 elemSh Try.underlying46 (.slice none 0 0) 0 [] rfl (World.ownsRow_nil _ _ _ _) A3 n3 c3 (sh.flatMap Sh.enc) (by simp [Act.eval]) l3 (Hm0.out.shifts.2.ext EB) (one_sh sh) (by omega) (Nat.le_trans hb0 EB.size) ?_; intro v3 wC hC gC tC; have EBC : Ext wB wC := (Only.of_grown gC).ext fun q _ hq => (by cases hq); have EC : Ext w0 wC := Ext.next EB EBC; rw [Nat.zero_add, List.nil_append] at hC; obtain ⟨B3, k3, rfl⟩ := own_form hC)
      | (refine step_appendR _ rfl (.const (.slice none 0 0)) (.tmp 13) 24 rfl w.heap.size 25 1 8 elemWd Try.underlying24 (.slice none 0 0) 0 [] rfl (World.ownsRow_nil _ _ _ _) A4 n4 c4 (rw_.map (Value.int .u64)) (by simp [Act.eval]) l4 (Hm0.out.words.ext EC) (one_wd rw_) (by omega) (Nat.le_trans hb0 EC.size) ?_; intro v4 wD hD gD tD; have ECD : Ext wC wD := (Only.of_grown gD).ext fun q _ hq => (by cases hq); have ED : Ext w0 wD := Ext.next EC ECD; rw [Nat.zero_add, List.nil_append] at hD; obtain ⟨B4, k4, rfl⟩ := own_form hD; obtain ⟨⟨i0, i1, i2, i3⟩, f0, f1, f2, f3⟩ := h4 wD ED))
  all_goals
    go_wp2_with fail
    have hb0 := ext_blk ED HT.out
    have hb1 := heap_setCell_same _ _ 0 _ _ (.slice B1 n1 k1) hb0
    have hb2 := heap_setCell_same _ _ 1 _ _ (.slice B2 n2 k2) hb1
    have hb3 := heap_setCell_same _ _ 2 _ _ (.slice B3 n3 k3) hb2
    have hb4 := heap_setCell_same _ _ 3 _ _ (.slice B4 n4 k4) hb3
    have hb5 : _ = some (Obj.cells #[.slice B1 n1 k1, .slice B2 n2 k2, .slice B3 n3 k3, .slice B4 n4 k4] 48 (0, 0)) := hb4
    have o : Only (fun q => q = w.heap.size + 1) wD _ := ((((Only.refl (fun q => q = w.heap.size + 1) wD).setCell ⟨w.heap.size + 1, 0, none⟩ (.slice B1 n1 k1) fun _ => rfl).setCell ⟨w.heap.size + 1, 1, none⟩ (.slice B2 n2 k2) fun _ => rfl).setCell ⟨w.heap.size + 1, 2, none⟩ (.slice B3 n3 k3) fun _ => rfl).setCell ⟨w.heap.size + 1, 3, none⟩ (.slice B4 n4 k4) fun _ => rfl
    have hA' := own_only (own_ext hA (Ext.next EAB (Ext.next EBC ECD))) o fun q hq e => own_apart (own_ext hA (Ext.next EAB (Ext.next EBC ECD))) hb0 (by decide) (by rw [hq, e])
    have hB' := own_only (own_ext hB (Ext.next EBC ECD)) o fun q hq e => own_apart (own_ext hB (Ext.next EBC ECD)) hb0 (by decide) (by rw [hq, e])
    have hC' := own_only (own_ext hC ECD) o fun q hq e => own_apart (own_ext hC ECD) hb0 (by decide) (by rw [hq, e])
    have hD' := own_only hD o fun q hq e => own_apart hD hb0 (by decide) (by rw [hq, e])
    refine bodyPost_ret (results_cell1' rfl _ _ (w.heap.size + 1) rfl _ (run_loadVar_row _ _ _ _ _ _ _ hb5 Try.underlying48 rfl (by kernel_rfl))) rfl ?_
    exact ⟨B1, k1, B2, k2, B3, k3, B4, k4, rfl, ⟨⟨Hm.out.calls.1, Rd.of_own hA'⟩, ⟨Hm.out.trace.1, Rd.of_own hB'⟩, ⟨Hm.out.shifts.1, Rd.of_own hC'⟩, Rd.of_own hD', Hm.out.wlen, Hm.out.big1, Hm.out.big2, Hm.out.big3, Hm.out.big4, Hm.out.wide⟩,
      (Ext.next HE.out ED).only o fun q hq => by rw [hq]; omega⟩
end Go.Proofs.Ytfbacopjookplaa
