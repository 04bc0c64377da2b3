/- The walk of the statement on which runs' parts go together. -/
import Derived.Test.YtfbacopjookplaaTrace
import Derived.Test.YtfbacopjookplaaMoments1
import Derived.Test.YtfbacopjookplaaEqual
import Derived.Test.YtfbacopjookplaaAwake
import Derived.Test.YtfbacopjookplaaOpenRun
import Derived.Test.YtfbacopjookplaaFacts
import Derived.Test.YtfbacopjookplaaRows
namespace Go.Proofs.Ytfbacopjookplaa
open Go.RowKit
open Go.ChangeShapes Go.WideShapes Go.ChangeAt Go.RowKit

theorem elemClC : Elem Try.prog 150 9 72 := Elem.of (z := .agg #[.int .i64 0, .int .i64 0, .int .i64 0, .int .i64 0, .int .i64 0, .int .i64 0, .int .i64 0, .int .i64 0, .int .i64 0]) (by kernel_rfl) (by simp [Value.cells]) (by omega) (by omega)
theorem elemAc : Elem Try.prog 129 7 56 := Elem.of (z := .agg #[.int .i64 0, .int .i64 0, .int .i64 0, .int .i64 0, .int .u64 0, .int .u64 0, .int .u64 0]) (by kernel_rfl) (by simp [Value.cells]) (by omega) (by omega)
theorem elemWd : Elem Try.prog 25 1 8 := Elem.of (z := .int .u64 0) (by kernel_rfl) rfl (by omega) (by omega)
theorem one_cl (xs : List Cl) : ∀ u ∈ xs.flatMap Cl.enc, u.oneCell' = true := by
  intro u hu
  obtain ⟨x, _, hx⟩ := List.mem_flatMap.1 hu
  simp only [Cl.enc, List.mem_cons, List.not_mem_nil, or_false] at hx
  rcases hx with rfl | rfl | rfl | rfl | rfl | rfl | rfl | rfl | rfl <;> rfl
theorem one_ac (xs : List Ac) : ∀ u ∈ xs.flatMap Ac.enc, u.oneCell' = true := by
  intro u hu
  obtain ⟨x, _, hx⟩ := List.mem_flatMap.1 hu
  simp only [Ac.enc, List.mem_cons, List.not_mem_nil, or_false] at hx
  rcases hx with rfl | rfl | rfl | rfl | rfl | rfl | rfl <;> rfl
theorem one_sh (xs : List Sh) : ∀ u ∈ xs.flatMap Sh.enc, u.oneCell' = true := by
  intro u hu
  obtain ⟨x, _, hx⟩ := List.mem_flatMap.1 hu
  simp only [Sh.enc, List.mem_cons, List.not_mem_nil, or_false] at hx
  rcases hx with rfl | rfl | rfl | rfl | rfl <;> rfl
theorem one_wd (xs : List Int) : ∀ u ∈ xs.map (Value.int .u64), u.oneCell' = true := by
  intro u hu
  obtain ⟨x, _, rfl⟩ := List.mem_map.1 hu
  rfl
theorem results_cell1' {P : Program} {fn : Func} {p : Tmp} {ty : TypeId} (h : fn.results = #[.cell p ty]) (tmps : Array Value) (w : World) (g : Nat) (hp : tmps.getD p undef = .pointer (some ⟨g, 0, none⟩)) (v : Value)
    (hl : (loadVar ty ⟨g, 0, none⟩).run P w = .ok v w) : (results fn tmps).run P w = .ok v w := by
  have hp' : tmps[p]?.getD undef = .pointer (some ⟨g, 0, none⟩) := by simpa using hp
  simp [results, h, hp', asAddr, hl]

def CopyOut (w : World) (n1 n2 n3 n4 : Nat) (cs : List Cl) (tr : List Ac) (sh : List Sh) (rw_ : List Int) (e : Ending) (w' : World) : Prop :=
  ∃ B1 k1 B2 k2 B3 k3 B4 k4, e = .returned (.agg #[.slice B1 n1 k1, .slice B2 n2 k2, .slice B3 n3 k3, .slice B4 n4 k4]) ∧ RunMem w' B1 n1 B2 n2 B3 n3 B4 n4 cs tr sh rw_ ∧ Ext w w'

set_option maxRecDepth 100000 in
set_option maxHeartbeats 4000000 in
theorem copy_any (A1 : Option Addr) (n1 c1 : Nat) (A2 : Option Addr) (n2 c2 : Nat) (A3 : Option Addr) (n3 c3 : Nat) (A4 : Option Addr) (n4 c4 : Nat) (cs : List Cl) (tr : List Ac) (sh : List Sh) (rw_ : List Int) (w : World)
    (hm : RunMem w A1 n1 A2 n2 A3 n3 A4 n4 cs tr sh rw_) (b1 : n1 * 72 ≤ 140737488355328) (b2 : n2 * 56 ≤ 140737488355328) (b3 : n3 * 40 ≤ 140737488355328) (b4 : n4 * 8 ≤ 140737488355328) :
    Calls Try.prog 20 #[.agg #[.slice A1 n1 c1, .slice A2 n2 c2, .slice A3 n3 c3, .slice A4 n4 c4]] w (CopyOut w n1 n2 n3 n4 cs tr sh rw_) := by
  have Hm := Lib.hid hm
  clear hm
  go_enter Try.func20, Try.ntmps20
  go_upto_region 1 with fail
  obtain ⟨w0, hw0, hR, hT, hE, hlt0⟩ := enter2 w (.cells #[.slice A1 n1 c1, .slice A2 n2 c2, .slice A3 n3 c3, .slice A4 n4 c4] 48) (.cells #[.slice none 0 0, .slice none 0 0, .slice none 0 0, .slice none 0 0] 48)
  rw [hw0]
  have HE := Lib.hid hE
  have HT := Lib.hid hT
  have HR := Lib.hid hR
  have Hm0 := Lib.hid (Hm.out.ext hE)
  have hb0 : w.heap.size ≤ w0.heap.size := hE.size
  have hk : ∀ w', Ext w0 w' → w'.cell? ⟨w.heap.size, 0, none⟩ = some (.slice A1 n1 c1) ∧ w'.cell? ⟨w.heap.size, 1, none⟩ = some (.slice A2 n2 c2) ∧ w'.cell? ⟨w.heap.size, 2, none⟩ = some (.slice A3 n3 c3) ∧ w'.cell? ⟨w.heap.size, 3, none⟩ = some (.slice A4 n4 c4) := fun w' e =>
    ⟨(Lat.run HR.out).1 ⟨w', e⟩, (Lat.run HR.out).2.1 ⟨w', e⟩, (Lat.run HR.out).2.2.1 ⟨w', e⟩, (Lat.run HR.out).2.2.2 ⟨w', e⟩⟩
  have hk2 : ∀ wx w', Ext w0 wx → Only (fun q => q = w.heap.size + 1) wx w' → w'.cell? ⟨w.heap.size, 0, none⟩ = some (.slice A1 n1 c1) ∧ w'.cell? ⟨w.heap.size, 1, none⟩ = some (.slice A2 n2 c2) ∧ w'.cell? ⟨w.heap.size, 2, none⟩ = some (.slice A3 n3 c3) ∧ w'.cell? ⟨w.heap.size, 3, none⟩ = some (.slice A4 n4 c4) := fun wx w' e o => by
    have h := (o.block w.heap.size (blk_lt (ext_blk e HR.out)) (by omega)).trans (ext_blk e HR.out)
    exact ⟨cellOf h rfl, cellOf h rfl, cellOf h rfl, cellOf h rfl⟩
  have hk4 : ∀ (wx : World) (a b c d : Value), Ext w0 wx → ((((wx.setCell ⟨w.heap.size + 1, 0, none⟩ a).setCell ⟨w.heap.size + 1, 1, none⟩ b).setCell ⟨w.heap.size + 1, 2, none⟩ c).setCell ⟨w.heap.size + 1, 3, none⟩ d).cell? ⟨w.heap.size, 0, none⟩ = some (.slice A1 n1 c1) ∧ ((((wx.setCell ⟨w.heap.size + 1, 0, none⟩ a).setCell ⟨w.heap.size + 1, 1, none⟩ b).setCell ⟨w.heap.size + 1, 2, none⟩ c).setCell ⟨w.heap.size + 1, 3, none⟩ d).cell? ⟨w.heap.size, 1, none⟩ = some (.slice A2 n2 c2) ∧ ((((wx.setCell ⟨w.heap.size + 1, 0, none⟩ a).setCell ⟨w.heap.size + 1, 1, none⟩ b).setCell ⟨w.heap.size + 1, 2, none⟩ c).setCell ⟨w.heap.size + 1, 3, none⟩ d).cell? ⟨w.heap.size, 2, none⟩ = some (.slice A3 n3 c3) ∧ ((((wx.setCell ⟨w.heap.size + 1, 0, none⟩ a).setCell ⟨w.heap.size + 1, 1, none⟩ b).setCell ⟨w.heap.size + 1, 2, none⟩ c).setCell ⟨w.heap.size + 1, 3, none⟩ d).cell? ⟨w.heap.size, 3, none⟩ = some (.slice A4 n4 c4) := fun wx a b c d e =>
    hk2 wx _ e (((((Only.refl (fun q => q = w.heap.size + 1) wx).setCell ⟨w.heap.size + 1, 0, none⟩ a fun _ => rfl).setCell ⟨w.heap.size + 1, 1, none⟩ b fun _ => rfl).setCell ⟨w.heap.size + 1, 2, none⟩ c fun _ => rfl).setCell ⟨w.heap.size + 1, 3, none⟩ d fun _ => rfl)
  have h4 : ∀ w', Ext w0 w' → (w'.cell? ⟨w.heap.size + 1, 0, none⟩ = some (.slice none 0 0) ∧ w'.cell? ⟨w.heap.size + 1, 1, none⟩ = some (.slice none 0 0) ∧ w'.cell? ⟨w.heap.size + 1, 2, none⟩ = some (.slice none 0 0) ∧ w'.cell? ⟨w.heap.size + 1, 3, none⟩ = some (.slice none 0 0)) ∧
      w'.frozen? ⟨w.heap.size + 1, 0, none⟩ = false ∧ w'.frozen? ⟨w.heap.size + 1, 1, none⟩ = false ∧ w'.frozen? ⟨w.heap.size + 1, 2, none⟩ = false ∧ w'.frozen? ⟨w.heap.size + 1, 3, none⟩ = false := fun w' e => by
    have h := ext_blk e HT.out
    exact ⟨⟨cellOf h rfl, cellOf h rfl, cellOf h rfl, cellOf h rfl⟩, freeOf h 0, freeOf h 1, freeOf h 2, freeOf h 3⟩
  have l1 : (cs.flatMap Cl.enc).length = n1 * 9 := by rw [flat_len Cl.enc 9 Cl.size, Hm.out.calls.1]
  have l2 : (tr.flatMap Ac.enc).length = n2 * 7 := by rw [flat_len Ac.enc 7 Ac.size, Hm.out.trace.1]
  have l3 : (sh.flatMap Sh.enc).length = n3 * 5 := by rw [flat_len Sh.enc 5 Sh.size, Hm.out.shifts.1]
  have l4 : (rw_.map (Value.int .u64)).length = n4 * 1 := by rw [List.length_map, Hm.out.wlen, Nat.mul_one]
  have E0 := (Ext.rfl' w0).drew1
  clear hw0 hR hT hlt0 hE
  go_region_held3 (fun w' => w'.cell? ⟨w.heap.size, 0, none⟩ = some (.slice A1 n1 c1) ∧ w'.cell? ⟨w.heap.size, 1, none⟩ = some (.slice A2 n2 c2) ∧ w'.cell? ⟨w.heap.size, 2, none⟩ = some (.slice A3 n3 c3) ∧ w'.cell? ⟨w.heap.size, 3, none⟩ = some (.slice A4 n4 c4))
    (first | exact hk _ E0 | exact hk _ EA | exact hk _ EB | exact hk _ EC | exact hk _ ED | exact hk4 _ _ _ _ _ ED)
    (first
      | (refine step_appendR _ rfl (.const (.slice none 0 0)) (.tmp 4) 44 rfl w.heap.size 150 9 72 elemClC Try.underlying44 (.slice none 0 0) 0 [] rfl (World.ownsRow_nil _ _ _ _) A1 n1 c1 (cs.flatMap Cl.enc) (by simp [Act.eval]) l1 (Hm0.out.calls.2.ext E0) (one_cl cs) (by omega) (Nat.le_trans hb0 E0.size) ?_; intro v1 wA hA gA tA; have EA : Ext w0 wA := Ext.next E0 ((Only.of_grown gA).ext fun q _ hq => by cases hq); rw [Nat.zero_add, List.nil_append] at hA; obtain ⟨B1, k1, rfl⟩ := own_form hA)
      | (refine step_appendR _ rfl (.const (.slice none 0 0)) (.tmp 7) 45 rfl w.heap.size 129 7 56 elemAc Try.underlying45 (.slice none 0 0) 0 [] rfl (World.ownsRow_nil _ _ _ _) A2 n2 c2 (tr.flatMap Ac.enc) (by simp [Act.eval]) l2 (Hm0.out.trace.2.ext EA) (one_ac tr) (by omega) (Nat.le_trans hb0 EA.size) ?_; intro v2 wB hB gB tB; have EAB : Ext wA wB := (Only.of_grown gB).ext fun q _ hq => (by cases hq); have EB : Ext w0 wB := Ext.next EA EAB; rw [Nat.zero_add, List.nil_append] at hB; obtain ⟨B2, k2, rfl⟩ := own_form hB)
      | (refine step_appendR _ rfl (.const (.slice none 0 0)) (.tmp 10) 46 rfl w.heap.size 136 5 40 elemSh Try.underlying46 (.slice none 0 0) 0 [] rfl (World.ownsRow_nil _ _ _ _) A3 n3 c3 (sh.flatMap Sh.enc) (by simp [Act.eval]) l3 (Hm0.out.shifts.2.ext EB) (one_sh sh) (by omega) (Nat.le_trans hb0 EB.size) ?_; intro v3 wC hC gC tC; have EBC : Ext wB wC := (Only.of_grown gC).ext fun q _ hq => (by cases hq); have EC : Ext w0 wC := Ext.next EB EBC; rw [Nat.zero_add, List.nil_append] at hC; obtain ⟨B3, k3, rfl⟩ := own_form hC)
      | (refine step_appendR _ rfl (.const (.slice none 0 0)) (.tmp 13) 24 rfl w.heap.size 25 1 8 elemWd Try.underlying24 (.slice none 0 0) 0 [] rfl (World.ownsRow_nil _ _ _ _) A4 n4 c4 (rw_.map (Value.int .u64)) (by simp [Act.eval]) l4 (Hm0.out.words.ext EC) (one_wd rw_) (by omega) (Nat.le_trans hb0 EC.size) ?_; intro v4 wD hD gD tD; have ECD : Ext wC wD := (Only.of_grown gD).ext fun q _ hq => (by cases hq); have ED : Ext w0 wD := Ext.next EC ECD; rw [Nat.zero_add, List.nil_append] at hD; obtain ⟨B4, k4, rfl⟩ := own_form hD; obtain ⟨⟨i0, i1, i2, i3⟩, f0, f1, f2, f3⟩ := h4 wD ED))
  all_goals
    go_wp2_with fail
    have hb0 := ext_blk ED HT.out
    have hb1 := heap_setCell_same _ _ 0 _ _ (.slice B1 n1 k1) hb0
    have hb2 := heap_setCell_same _ _ 1 _ _ (.slice B2 n2 k2) hb1
    have hb3 := heap_setCell_same _ _ 2 _ _ (.slice B3 n3 k3) hb2
    have hb4 := heap_setCell_same _ _ 3 _ _ (.slice B4 n4 k4) hb3
    have hb5 : _ = some (Obj.cells #[.slice B1 n1 k1, .slice B2 n2 k2, .slice B3 n3 k3, .slice B4 n4 k4] 48 (0, 0)) := hb4
    have o : Only (fun q => q = w.heap.size + 1) wD _ := ((((Only.refl (fun q => q = w.heap.size + 1) wD).setCell ⟨w.heap.size + 1, 0, none⟩ (.slice B1 n1 k1) fun _ => rfl).setCell ⟨w.heap.size + 1, 1, none⟩ (.slice B2 n2 k2) fun _ => rfl).setCell ⟨w.heap.size + 1, 2, none⟩ (.slice B3 n3 k3) fun _ => rfl).setCell ⟨w.heap.size + 1, 3, none⟩ (.slice B4 n4 k4) fun _ => rfl
    have hA' := own_only (own_ext hA (Ext.next EAB (Ext.next EBC ECD))) o fun q hq e => own_apart (own_ext hA (Ext.next EAB (Ext.next EBC ECD))) hb0 (by decide) (by rw [hq, e])
    have hB' := own_only (own_ext hB (Ext.next EBC ECD)) o fun q hq e => own_apart (own_ext hB (Ext.next EBC ECD)) hb0 (by decide) (by rw [hq, e])
    have hC' := own_only (own_ext hC ECD) o fun q hq e => own_apart (own_ext hC ECD) hb0 (by decide) (by rw [hq, e])
    have hD' := own_only hD o fun q hq e => own_apart hD hb0 (by decide) (by rw [hq, e])
    refine bodyPost_ret (results_cell1' rfl _ _ (w.heap.size + 1) rfl _ (run_loadVar_row _ _ _ _ _ _ _ hb5 Try.underlying48 rfl (by kernel_rfl))) rfl ?_
    exact ⟨B1, k1, B2, k2, B3, k3, B4, k4, rfl, ⟨⟨Hm.out.calls.1, Rd.of_own hA'⟩, ⟨Hm.out.trace.1, Rd.of_own hB'⟩, ⟨Hm.out.shifts.1, Rd.of_own hC'⟩, Rd.of_own hD', Hm.out.wlen, Hm.out.big1, Hm.out.big2, Hm.out.big3, Hm.out.big4, Hm.out.wide⟩,
      (Ext.next HE.out ED).only o fun q hq => by rw [hq]; omega⟩

set_option maxHeartbeats 4000000 in
theorem sameCalls_any (A : Option Addr) (n c : Nat) (A' : Option Addr) (c' : Nat) (xs : List Cl) (w : World) (h1 : Arr Cl.enc w A n xs) (h2 : Arr Cl.enc w A' n xs) (hb1 : n ≤ 140737488355328) :
    Calls Try.prog 76 #[.slice A n c, .slice A' n c'] w fun e w' => e = .returned (.bool true) ∧ Ext w w' := by
  have H1 := Lib.hid h1
  have H2 := Lib.hid h2
  clear h1 h2
  refine start_lat fun k0 => ?_
  go_enter Try.func76, Try.ntmps76
  go_wp2_with fail
  go_loopw [5] (fun s5 wr => ∃ (k : Lat w) (i : Nat), wr = k.world ∧ i ≤ n ∧ s5 = .int .i64 i) (fun s _ => n - (intOf s).toNat)
  case atStart => exact ⟨k0, 0, rfl, by omega, rfl⟩
  case round =>
    obtain ⟨k, i, rfl, hi, rfl⟩ := hrel
    by_cases hlt : i < n
    · have g1 : (i : Int) < (n : Int) := by omega
      have hi0 : (0 : Int) ≤ (i : Int) := by omega
      obtain ⟨b, off, x, hA, hb, hx, x0, x1, x2, x3, x4, x5, x6, x7, x8⟩ := Cl.at_ H1.out hlt
      obtain ⟨b', off', x', hA', hb', hx', y0, y1, y2, y3, y4, y5, y6, y7, y8⟩ := Cl.at_ H2.out hlt
      have he := hx.out.symm.trans hx'.out
      injection he with he
      subst he
      subst hA hA'
      clear hx hx'
      go_upto_region 6 with fail
      refine wp_region_cls (Ext w) (Ext.drew1 k.ok) (by kernel_rfl) (by kernel_rfl) ?_
      repeat (go_big_quiet_step (fail))
      refine wpQuiet_nil ?_
      rintro _ ⟨k6, rfl⟩
      go_wp2_with fail
      go_roundw
      case rel => exact ⟨k6, i + 1, rfl, by omega, by go_num⟩
      case measure => simp [intOf]; omega
    · obtain rfl : n = i := by omega
      go_wp2_with fail
      go_ret
      exact ⟨rfl, k.ok⟩

set_option maxHeartbeats 4000000 in
theorem sameTrace_any (A : Option Addr) (n c : Nat) (A' : Option Addr) (c' : Nat) (xs : List Ac) (w : World) (h1 : Arr Ac.enc w A n xs) (h2 : Arr Ac.enc w A' n xs) (hb1 : n ≤ 140737488355328) :
    Calls Try.prog 77 #[.slice A n c, .slice A' n c'] w fun e w' => e = .returned (.bool true) ∧ Ext w w' := by
  have H1 := Lib.hid h1
  have H2 := Lib.hid h2
  clear h1 h2
  refine start_lat fun k0 => ?_
  go_enter Try.func77, Try.ntmps77
  go_wp2_with fail
  go_loopw [5] (fun s5 wr => ∃ (k : Lat w) (i : Nat), wr = k.world ∧ i ≤ n ∧ s5 = .int .i64 i) (fun s _ => n - (intOf s).toNat)
  case atStart => exact ⟨k0, 0, rfl, by omega, rfl⟩
  case round =>
    obtain ⟨k, i, rfl, hi, rfl⟩ := hrel
    by_cases hlt : i < n
    · have g1 : (i : Int) < (n : Int) := by omega
      have hi0 : (0 : Int) ≤ (i : Int) := by omega
      obtain ⟨b, off, x, hA, hb, hx, x0, x1, x2, x3, x4, x5, x6⟩ := Ac.at_ H1.out hlt
      obtain ⟨b', off', x', hA', hb', hx', y0, y1, y2, y3, y4, y5, y6⟩ := Ac.at_ H2.out hlt
      have he := hx.out.symm.trans hx'.out
      injection he with he
      subst he
      subst hA hA'
      clear hx hx'
      go_upto_region 6 with fail
      refine wp_region_cls (Ext w) (Ext.drew1 k.ok) (by kernel_rfl) (by kernel_rfl) ?_
      repeat (go_big_quiet_step (fail))
      refine wpQuiet_nil ?_
      rintro _ ⟨k6, rfl⟩
      go_wp2_with fail
      go_roundw
      case rel => exact ⟨k6, i + 1, rfl, by omega, by go_num⟩
      case measure => simp [intOf]; omega
    · obtain rfl : n = i := by omega
      go_wp2_with fail
      go_ret
      exact ⟨rfl, k.ok⟩

set_option maxHeartbeats 4000000 in
theorem sameShifts_any (A : Option Addr) (n c : Nat) (A' : Option Addr) (c' : Nat) (xs : List Sh) (w : World) (h1 : Arr Sh.enc w A n xs) (h2 : Arr Sh.enc w A' n xs) (hb1 : n ≤ 140737488355328) :
    Calls Try.prog 78 #[.slice A n c, .slice A' n c'] w fun e w' => e = .returned (.bool true) ∧ Ext w w' := by
  have H1 := Lib.hid h1
  have H2 := Lib.hid h2
  clear h1 h2
  refine start_lat fun k0 => ?_
  go_enter Try.func78, Try.ntmps78
  go_wp2_with fail
  go_loopw [5] (fun s5 wr => ∃ (k : Lat w) (i : Nat), wr = k.world ∧ i ≤ n ∧ s5 = .int .i64 i) (fun s _ => n - (intOf s).toNat)
  case atStart => exact ⟨k0, 0, rfl, by omega, rfl⟩
  case round =>
    obtain ⟨k, i, rfl, hi, rfl⟩ := hrel
    by_cases hlt : i < n
    · have g1 : (i : Int) < (n : Int) := by omega
      have hi0 : (0 : Int) ≤ (i : Int) := by omega
      obtain ⟨b, off, x, hA, hb, hx, x0, x1, x2, x3, x4⟩ := Sh.at_ H1.out hlt
      obtain ⟨b', off', x', hA', hb', hx', y0, y1, y2, y3, y4⟩ := Sh.at_ H2.out hlt
      have he := hx.out.symm.trans hx'.out
      injection he with he
      subst he
      subst hA hA'
      clear hx hx'
      go_upto_region 6 with fail
      refine wp_region_cls (Ext w) (Ext.drew1 k.ok) (by kernel_rfl) (by kernel_rfl) ?_
      repeat (go_big_quiet_step (fail))
      refine wpQuiet_nil ?_
      rintro _ ⟨k6, rfl⟩
      go_wp2_with fail
      go_roundw
      case rel => exact ⟨k6, i + 1, rfl, by omega, by go_num⟩
      case measure => simp [intOf]; omega
    · obtain rfl : n = i := by omega
      go_wp2_with fail
      go_ret
      exact ⟨rfl, k.ok⟩

set_option maxHeartbeats 4000000 in
theorem sameWords_any (A : Option Addr) (n c : Nat) (A' : Option Addr) (c' : Nat) (xs : List Int) (w : World) (h1 : Rd w A (xs.map (Value.int .u64))) (h2 : Rd w A' (xs.map (Value.int .u64))) (hl : xs.length = n) (hb1 : n ≤ 140737488355328) :
    Calls Try.prog 79 #[.slice A n c, .slice A' n c'] w fun e w' => e = .returned (.bool true) ∧ Ext w w' := by
  have H1 := Lib.hid h1
  have H2 := Lib.hid h2
  have HL := Lib.hid hl
  clear h1 h2 hl
  refine start_lat fun k0 => ?_
  go_enter Try.func79, Try.ntmps79
  go_wp2_with fail
  go_loopw [5] (fun s5 wr => ∃ (k : Lat w) (i : Nat), wr = k.world ∧ i ≤ n ∧ s5 = .int .i64 i) (fun s _ => n - (intOf s).toNat)
  case atStart => exact ⟨k0, 0, rfl, by omega, rfl⟩
  case round =>
    obtain ⟨k, i, rfl, hi, rfl⟩ := hrel
    by_cases hlt : i < n
    · have g1 : (i : Int) < (n : Int) := by omega
      have hi0 : (0 : Int) ≤ (i : Int) := by omega
      obtain ⟨x, hx⟩ : ∃ x, xs[i]? = some x := ⟨_, List.getElem?_eq_getElem (by rw [HL.out]; exact hlt)⟩
      obtain ⟨b, off, rfl, hb, x0⟩ := H1.out.lat (j := i) (u := .int .u64 x) (by simp [hx])
      obtain ⟨b', off', rfl, hb', y0⟩ := H2.out.lat (j := i) (u := .int .u64 x) (by simp [hx])
      clear hx
      go_upto_region 6 with fail
      refine wp_region_cls (Ext w) (Ext.drew1 k.ok) (by kernel_rfl) (by kernel_rfl) ?_
      repeat (go_big_quiet_step (fail))
      refine wpQuiet_nil ?_
      rintro _ ⟨k6, rfl⟩
      go_wp2_with fail
      go_roundw
      case rel => exact ⟨k6, i + 1, rfl, by omega, by go_num⟩
      case measure => simp [intOf]; omega
    · obtain rfl : n = i := by omega
      go_wp2_with fail
      go_ret
      exact ⟨rfl, k.ok⟩

set_option maxHeartbeats 4000000 in
theorem sameRun_any (A1 : Option Addr) (n1 c1 : Nat) (A2 : Option Addr) (n2 c2 : Nat) (A3 : Option Addr) (n3 c3 : Nat) (A4 : Option Addr) (n4 c4 : Nat) (B1 : Option Addr) (k1 : Nat) (B2 : Option Addr) (k2 : Nat) (B3 : Option Addr) (k3 : Nat) (B4 : Option Addr) (k4 : Nat) (cs : List Cl) (tr : List Ac) (sh : List Sh) (rw_ : List Int) (w : World)
    (hm : RunMem w A1 n1 A2 n2 A3 n3 A4 n4 cs tr sh rw_) (hm2 : RunMem w B1 n1 B2 n2 B3 n3 B4 n4 cs tr sh rw_) :
    Calls Try.prog 23 #[.agg #[.slice A1 n1 c1, .slice A2 n2 c2, .slice A3 n3 c3, .slice A4 n4 c4], .agg #[.slice B1 n1 k1, .slice B2 n2 k2, .slice B3 n3 k3, .slice B4 n4 k4]] w fun e w' => e = .returned (.bool true) ∧ Ext w w' := by
  have Hm := Lib.hid hm
  have Hm2 := Lib.hid hm2
  clear hm hm2
  go_enter Try.func23, Try.ntmps23
  go_upto_region 1 with fail
  obtain ⟨w0, hw0, hC, hR, hE, hlt0⟩ := enter2 w (.cells #[.slice A1 n1 c1, .slice A2 n2 c2, .slice A3 n3 c3, .slice A4 n4 c4] 48) (.cells #[.slice B1 n1 k1, .slice B2 n2 k2, .slice B3 n3 k3, .slice B4 n4 k4] 48)
  rw [hw0]
  have HE := Lib.hid hE
  obtain ⟨r0, r1, r2, r3⟩ := Lat.run hC
  obtain ⟨s0, s1, s2, s3⟩ := Lat.run hR
  obtain ⟨q0, hq0⟩ := lat_self w0
  rw [hq0]
  clear hw0 hC hR hE hq0 hlt0
  go_wp2_with fail
  refine (sameCalls_any A1 n1 c1 B1 k1 cs _ (Hm.out.calls.ext (Ext.next HE.out q0.ok)) (Hm2.out.calls.ext (Ext.next HE.out q0.ok)) Hm.out.big1).mono ?_
  rintro e w1 ⟨rfl, e1⟩
  obtain ⟨q1, rfl⟩ := lat_next q0 e1
  clear e1
  go_wp2_with fail
  refine (sameTrace_any A2 n2 c2 B2 k2 tr _ (Hm.out.trace.ext (Ext.next HE.out q1.ok)) (Hm2.out.trace.ext (Ext.next HE.out q1.ok)) Hm.out.big2).mono ?_
  rintro e w1 ⟨rfl, e1⟩
  obtain ⟨q2, rfl⟩ := lat_next q1 e1
  clear e1
  go_wp2_with fail
  refine (sameShifts_any A3 n3 c3 B3 k3 sh _ (Hm.out.shifts.ext (Ext.next HE.out q2.ok)) (Hm2.out.shifts.ext (Ext.next HE.out q2.ok)) Hm.out.big3).mono ?_
  rintro e w1 ⟨rfl, e1⟩
  obtain ⟨q3, rfl⟩ := lat_next q2 e1
  clear e1
  go_wp2_with fail
  refine (sameWords_any A4 n4 c4 B4 k4 rw_ _ (Hm.out.words.ext (Ext.next HE.out q3.ok)) (Hm2.out.words.ext (Ext.next HE.out q3.ok)) Hm.out.wlen Hm.out.big4).mono ?_
  rintro e w1 ⟨rfl, e1⟩
  obtain ⟨q4, rfl⟩ := lat_next q3 e1
  clear e1
  go_wp2_with fail
  go_ret
  exact ⟨rfl, Ext.next HE.out q4.ok⟩

theorem Lat.case_ {w0 : World} {b : Nat} {t : TypeId} {T R H Re Ca S B used mv : Int} {v1 v2 v3 v4 : Value} (h : w0.heap[b]? = some (.cells #[.int .i64 T, .int .i64 R, .int .i64 H, .int .i64 Re, .int .i64 Ca, .int .i64 S, .int .i64 B, .int .i64 used, v1, v2, v3, v4, .int .i64 mv] t (0, 0))) :
    (∀ c : Lat w0, c.world.cell? ⟨b, 0, none⟩ = some (.int .i64 T)) ∧ (∀ c : Lat w0, c.world.cell? ⟨b, 1, none⟩ = some (.int .i64 R)) ∧ (∀ c : Lat w0, c.world.cell? ⟨b, 2, none⟩ = some (.int .i64 H)) ∧ (∀ c : Lat w0, c.world.cell? ⟨b, 3, none⟩ = some (.int .i64 Re)) ∧ (∀ c : Lat w0, c.world.cell? ⟨b, 4, none⟩ = some (.int .i64 Ca)) ∧ (∀ c : Lat w0, c.world.cell? ⟨b, 5, none⟩ = some (.int .i64 S)) ∧ (∀ c : Lat w0, c.world.cell? ⟨b, 6, none⟩ = some (.int .i64 B)) ∧ (∀ c : Lat w0, c.world.cell? ⟨b, 7, none⟩ = some (.int .i64 used)) ∧ (∀ c : Lat w0, c.world.cell? ⟨b, 8, none⟩ = some (v1)) ∧ (∀ c : Lat w0, c.world.cell? ⟨b, 9, none⟩ = some (v2)) ∧ (∀ c : Lat w0, c.world.cell? ⟨b, 10, none⟩ = some (v3)) ∧ (∀ c : Lat w0, c.world.cell? ⟨b, 11, none⟩ = some (v4)) ∧ (∀ c : Lat w0, c.world.cell? ⟨b, 12, none⟩ = some (.int .i64 mv)) :=
  ⟨Lat.cells h rfl, Lat.cells h rfl, Lat.cells h rfl, Lat.cells h rfl, Lat.cells h rfl, Lat.cells h rfl, Lat.cells h rfl, Lat.cells h rfl, Lat.cells h rfl, Lat.cells h rfl, Lat.cells h rfl, Lat.cells h rfl, Lat.cells h rfl⟩
theorem mayB : MayOK 1 1 3 1 0 2 1 0 [] [] [] wordsS := by
  refine ⟨okS, ⟨by omega, by omega⟩, ⟨trivial, trivial, fun i j x y hx => by simp at hx, fun i j x y hx => by simp at hx⟩, rfl, trivial⟩
set_option maxRecDepth 100000 in
set_option maxHeartbeats 8000000 in
theorem maysLaw_any (hM : MaySays) (hA : AwakeSays) (T R H Re Ca S B used mv : Int) (A1 : Option Addr) (n1 c1 : Nat) (A2 : Option Addr) (n2 c2 : Nat) (A3 : Option Addr) (n3 c3 : Nat) (A4 : Option Addr) (n4 c4 : Nat) (cs : List Cl) (tr : List Ac) (sh : List Sh) (rw_ : List Int) (w : World)
    (hm : RunMem w A1 n1 A2 n2 A3 n3 A4 n4 cs tr sh rw_) (b1 : n1 * 72 ≤ 140737488355328) (b2 : n2 * 56 ≤ 140737488355328) (b3 : n3 * 40 ≤ 140737488355328) (b4 : n4 * 8 ≤ 140737488355328) :
    Calls Try.prog 5 #[.agg #[.int .i64 T, .int .i64 R, .int .i64 H, .int .i64 Re, .int .i64 Ca, .int .i64 S, .int .i64 B, .int .i64 used, .slice A1 n1 c1, .slice A2 n2 c2, .slice A3 n3 c3, .slice A4 n4 c4, .int .i64 mv]] w fun e w' => e = .returned (.bool true) ∧ Ext w w' := by
  have Hm := Lib.hid hm
  clear hm
  go_enter Try.func5, Try.ntmps5
  go_upto_region 1 with fail
  obtain ⟨w0, hw0, hC, hE, hlt0⟩ := enter1 w (.cells #[.int .i64 T, .int .i64 R, .int .i64 H, .int .i64 Re, .int .i64 Ca, .int .i64 S, .int .i64 B, .int .i64 used, .slice A1 n1 c1, .slice A2 n2 c2, .slice A3 n3 c3, .slice A4 n4 c4, .int .i64 mv] 50)
  rw [hw0]
  have HE := Lib.hid hE
  have HC := Lib.hid hC
  have Hm0 := Lib.hid (Hm.out.ext hE)
  obtain ⟨d0, d1, d2, d3, d4, d5, d6, d7, d8, d9, d10, d11, d12⟩ := Lat.case_ hC
  obtain ⟨k0, hk0⟩ := lat_self w0
  rw [hk0]
  clear hw0 hC hE hk0 hlt0
  go_wp2_with fail
  refine (copy_any A1 n1 c1 A2 n2 c2 A3 n3 c3 A4 n4 c4 cs tr sh rw_ _ (Hm0.out.ext k0.ok) b1 b2 b3 b4).mono ?_
  rintro e w1 ⟨B1, l1, B2, l2, B3, l3, B4, l4, rfl, hm2, e1⟩
  obtain ⟨k1, rfl⟩ := lat_next k0 e1
  have Hm2 := Lib.hid hm2
  clear e1 hm2
  go_upto_region 2 with fail
  obtain ⟨w2, hw2, hK, hE2, hlt2⟩ := enter1 k1.world (.cells #[.slice B1 n1 l1, .slice B2 n2 l2, .slice B3 n3 l3, .slice B4 n4 l4] 48)
  rw [hw2]
  have HE2 := Lib.hid (Ext.next k1.ok hE2)
  have Hm3 := Lib.hid (Hm2.out.ext hE2)
  obtain ⟨s0, s1, s2, s3⟩ := Lat.run hK
  clear d0 d1 d2 d3 d4 d5 d6 d7 d8 d9 d10 d11 d12
  obtain ⟨d0, d1, d2, d3, d4, d5, d6, d7, d8, d9, d10, d11, d12⟩ := Lat.case_ (ext_blk HE2.out HC.out)
  have Hm4 := Lib.hid (Hm0.out.ext HE2.out)
  obtain ⟨k2, hk2⟩ := lat_self w2
  rw [hk2]
  generalize k1.world.heap.size = pk at *
  clear hw2 hK hE2 hk2 hlt2
  go_wp2_with fail
  refine (hM T R H Re Ca S B used A1 n1 c1 A2 n2 c2 A3 n3 c3 A4 n4 c4 cs tr sh rw_ _ (Hm4.out.ext k2.ok) b1).mono ?_
  rintro e w3 ⟨q, rfl, hq, e3⟩
  obtain ⟨k3, rfl⟩ := lat_next k2 e3
  have HQ := Lib.hid hq
  clear e3 hq
  go_wp2_with fail
  refine (ref13May_any T R H Re Ca S B used A1 n1 c1 A2 n2 c2 A3 n3 c3 A4 n4 c4 cs tr sh rw_ _ (Hm4.out.ext k3.ok)).mono ?_
  rintro e w4 ⟨q', rfl, hq, e4⟩
  obtain ⟨k4, rfl⟩ := lat_next k3 e4
  obtain rfl : q = q' := by
    have := HQ.out.trans hq.symm
    cases q <;> cases q' <;> simp at this ⊢
  clear e4 hq HQ
  have hbq : (q == q) = true := by simp
  go_wp2_with fail
  refine (sameRun_any A1 n1 c1 A2 n2 c2 A3 n3 c3 A4 n4 c4 B1 l1 B2 l2 B3 l3 B4 l4 cs tr sh rw_ _ (Hm4.out.ext k4.ok) (Hm3.out.ext k4.ok)).mono ?_
  rintro e w5 ⟨rfl, e5⟩
  obtain ⟨k5, rfl⟩ := lat_next k4 e5
  clear e5
  go_wp2_with fail
  refine (small_any _).mono ?_
  rintro e w1 ⟨rfl, e1⟩
  obtain ⟨k6, rfl⟩ := lat_next k5 e1
  clear e1
  go_wp2_with fail
  refine (blank_any _).mono ?_
  rintro e w7 ⟨gw, rfl, hown, e7⟩
  have hl : wordsS.length = lenS := by have := hown.1; simpa using this
  have hb := sizesS.big
  have hrm : Hid (RunMem w7 none 0 none 0 none 0 (some ⟨gw, 0, none⟩) lenS [] [] [] wordsS) := ⟨⟨rfl, Rd.nil _ _⟩, ⟨rfl, Rd.nil _ _⟩, ⟨rfl, Rd.nil _ _⟩, Rd.of_own hown, hl, by omega, by omega, by omega, by omega, fun a ha => by simp at ha⟩
  obtain ⟨k7, rfl⟩ := lat_next k6 e7
  clear hown e7 hl hb
  go_wp2_with fail
  refine (hM 1 1 3 1 0 2 1 0 none 0 0 none 0 0 none 0 0 (some ⟨gw, 0, none⟩) lenS lenS [] [] [] wordsS _ hrm.out (by omega)).mono ?_
  rintro e w8 ⟨q8, rfl, hq8, e8⟩
  obtain ⟨k8, rfl⟩ := lat_next k7 e8
  obtain rfl : true = q8 := (hq8.2 mayB).symm
  clear hq8 e8
  go_wp2_with fail
  refine (hA _).mono ?_
  rintro e w1 ⟨rfl, e1⟩
  obtain ⟨k9, rfl⟩ := lat_next k8 e1
  clear e1
  go_wp2_with fail
  go_ret
  exact ⟨rfl, Ext.next HE.out (Ext.next HE2.out k9.ok)⟩

set_option maxRecDepth 100000 in
theorem censusMays_lifted (hM : MaySays) (hA : AwakeSays) (os : Os) (started : os.Started) (H : Type) (enc : TypeId × Value → H) :
    ReturnsInHanded {} Try.checked os 5 .any (Rows.censusMaysSpec.pre6 enc Try.prog Try.f5 [] false) (Rows.censusMaysSpec.post enc Try.prog Try.f5 false true false false) := by
  refine lawWrap (C := Try.checked) (tb := 4) own_ started (by kernel_rfl) Try.func5
    (ChangeSpec.witness6 (enc := enc) (C := Try.checked) false ⟨#[], #[.agg #[.int .i64 0, .int .i64 0, .int .i64 0, .int .i64 0, .int .i64 0, .int .i64 0, .int .i64 0, .int .i64 0, .slice none 0 0, .slice none 0 0, .slice none 0 0, .slice none 0 0, .int .i64 0]], []⟩ 8 (by kernel_rfl) (by kernel_rfl) (by kernel_rfl) (by kernel_rfl))
    rfl Try.underlying4 rfl ?_ laidOut_ (by kernel_rfl) ?_
  · intro ds hds
    match ds, hds with
    | [d1], _ => exact ⟨rfl, rfl, rfl⟩
  · intro W base args ds ps hval0 hA0 hlt hsz
    have hval : ∀ (j : Nat) t v, Try.f5.params[j]? = some t → args[j]? = some v → Value.okWide Try.prog W .any base t v := hval0
    have hArgs : DataW.TrodAll enc Try.prog W 0 (fun _ => true) true Try.f5.params.toList args.toList ds ps := hA0
    rw [Try.params5] at hArgs hval
    obtain ⟨v0, d0, rfl, rfl, h0⟩ := trodAll_one hArgs
    obtain ⟨T, R, H', Re, Ca, S, B, used, mv, A1, n1, c1, A2, n2, c2, A3, n3, c3, A4, n4, c4, cs, tr, sh, rw_, rfl, hm, b1, b2, b3, b4⟩ := openCase (hval 0 50 v0 rfl rfl) h0 (by rw [Try.params5] at hsz; exact hsz)
    exact maysLaw_any hM hA T R H' Re Ca S B used mv A1 n1 c1 A2 n2 c2 A3 n3 c3 A4 n4 c4 cs tr sh rw_ W hm (by omega) (by omega) (by omega) (by omega)

theorem censusMays_of (hM : MaySays) (hA : AwakeSays) : Rows.CensusMaysSaid :=
  OpenClaim.holds_of_wide 5 Try.f5 rfl rfl rfl rfl rfl rfl rfl ⟨rfl, rfl, rfl, rfl, rfl⟩ rfl rfl rfl rfl rfl (by kernel_rfl) Try.func5 (by kernel_rfl)
    (of_decide_eq_true (by kernel_rfl)) (by unfold Func.isWrapper; first | (rw [if_pos (by decide +kernel)]; kernel_rfl) | (rw [if_neg (by decide +kernel)]; exact ⟨rfl, rfl⟩))
    (fun os started H enc _ => censusMays_lifted hM hA os started H enc)

end Go.Proofs.Ytfbacopjookplaa
