/- The walk of the statement on the states and holders ahead of every move. -/
import Derived.Test.YtfbacopjookplaaTrace
import Derived.Test.YtfbacopjookplaaMoments1
import Derived.Test.YtfbacopjookplaaEqual
import Derived.Test.YtfbacopjookplaaAwake
import Derived.Test.YtfbacopjookplaaOpenRun
import Derived.Test.YtfbacopjookplaaFacts
import Derived.Test.YtfbacopjookplaaRows
import Derived.Test.YtfbacopjookplaaRefSlots
import Derived.Test.YtfbacopjookplaaShiftsPure
import Derived.Deep.DeepCutAuto
namespace Go.Proofs.Ytfbacopjookplaa
open Go.RowKit

open Go.ChangeShapes Go.WideShapes Go.ChangeAt Go.RowKit

theorem elemClC : Elem Try.prog 150 9 72 := Elem.of (z := .agg #[.int .i64 0, .int .i64 0, .int .i64 0, .int .i64 0, .int .i64 0, .int .i64 0, .int .i64 0, .int .i64 0, .int .i64 0]) (by kernel_rfl) (by simp [Value.cells]) (by omega) (by omega)
theorem elemAc : Elem Try.prog 129 7 56 := Elem.of (z := .agg #[.int .i64 0, .int .i64 0, .int .i64 0, .int .i64 0, .int .u64 0, .int .u64 0, .int .u64 0]) (by kernel_rfl) (by simp [Value.cells]) (by omega) (by omega)
theorem elemWd : Elem Try.prog 25 1 8 := Elem.of (z := .int .u64 0) (by kernel_rfl) rfl (by omega) (by omega)
theorem one_cl (xs : List Cl) : ∀ u ∈ xs.flatMap Cl.enc, u.oneCell' = true := by
  intro u hu
  obtain ⟨x, _, hx⟩ := List.mem_flatMap.1 hu
  simp only [Cl.enc, List.mem_cons, List.not_mem_nil, or_false] at hx
  rcases hx with rfl | rfl | rfl | rfl | rfl | rfl | rfl | rfl | rfl <;> rfl
theorem one_ac (xs : List Ac) : ∀ u ∈ xs.flatMap Ac.enc, u.oneCell' = true := by
  intro u hu
  obtain ⟨x, _, hx⟩ := List.mem_flatMap.1 hu
  simp only [Ac.enc, List.mem_cons, List.not_mem_nil, or_false] at hx
  rcases hx with rfl | rfl | rfl | rfl | rfl | rfl | rfl <;> rfl
theorem one_sh (xs : List Sh) : ∀ u ∈ xs.flatMap Sh.enc, u.oneCell' = true := by
  intro u hu
  obtain ⟨x, _, hx⟩ := List.mem_flatMap.1 hu
  simp only [Sh.enc, List.mem_cons, List.not_mem_nil, or_false] at hx
  rcases hx with rfl | rfl | rfl | rfl | rfl <;> rfl
theorem one_wd (xs : List Int) : ∀ u ∈ xs.map (Value.int .u64), u.oneCell' = true := by
  intro u hu
  obtain ⟨x, _, rfl⟩ := List.mem_map.1 hu
  rfl
theorem results_cell1' {P : Program} {fn : Func} {p : Tmp} {ty : TypeId} (h : fn.results = #[.cell p ty]) (tmps : Array Value) (w : World) (g : Nat) (hp : tmps.getD p undef = .pointer (some ⟨g, 0, none⟩)) (v : Value)
    (hl : (loadVar ty ⟨g, 0, none⟩).run P w = .ok v w) : (results fn tmps).run P w = .ok v w := by
  have hp' : tmps[p]?.getD undef = .pointer (some ⟨g, 0, none⟩) := by simpa using hp
  simp [results, h, hp', asAddr, hl]

def CopyOut (w : World) (n1 n2 n3 n4 : Nat) (cs : List Cl) (tr : List Ac) (sh : List Sh) (rw_ : List Int) (e : Ending) (w' : World) : Prop :=
  ∃ B1 k1 B2 k2 B3 k3 B4 k4, e = .returned (.agg #[.slice B1 n1 k1, .slice B2 n2 k2, .slice B3 n3 k3, .slice B4 n4 k4]) ∧ RunMem w' B1 n1 B2 n2 B3 n3 B4 n4 cs tr sh rw_ ∧ Ext w w'

set_option maxRecDepth 100000 in
set_option maxHeartbeats 4000000 in
theorem copy_any (A1 : Option Addr) (n1 c1 : Nat) (A2 : Option Addr) (n2 c2 : Nat) (A3 : Option Addr) (n3 c3 : Nat) (A4 : Option Addr) (n4 c4 : Nat) (cs : List Cl) (tr : List Ac) (sh : List Sh) (rw_ : List Int) (w : World)
    (hm : RunMem w A1 n1 A2 n2 A3 n3 A4 n4 cs tr sh rw_) (b1 : n1 * 72 ≤ 140737488355328) (b2 : n2 * 56 ≤ 140737488355328) (b3 : n3 * 40 ≤ 140737488355328) (b4 : n4 * 8 ≤ 140737488355328) :
    Calls Try.prog 20 #[.agg #[.slice A1 n1 c1, .slice A2 n2 c2, .slice A3 n3 c3, .slice A4 n4 c4]] w (CopyOut w n1 n2 n3 n4 cs tr sh rw_) := by
  have Hm := Lib.hid hm
  clear hm
  go_enter Try.func20, Try.ntmps20
  go_upto_region 1 with fail
  obtain ⟨w0, hw0, hR, hT, hE, hlt0⟩ := enter2 w (.cells #[.slice A1 n1 c1, .slice A2 n2 c2, .slice A3 n3 c3, .slice A4 n4 c4] 48) (.cells #[.slice none 0 0, .slice none 0 0, .slice none 0 0, .slice none 0 0] 48)
  rw [hw0]
  have HE := Lib.hid hE
  have HT := Lib.hid hT
  have HR := Lib.hid hR
  have Hm0 := Lib.hid (Hm.out.ext hE)
  have hb0 : w.heap.size ≤ w0.heap.size := hE.size
  have hk : ∀ w', Ext w0 w' → w'.cell? ⟨w.heap.size, 0, none⟩ = some (.slice A1 n1 c1) ∧ w'.cell? ⟨w.heap.size, 1, none⟩ = some (.slice A2 n2 c2) ∧ w'.cell? ⟨w.heap.size, 2, none⟩ = some (.slice A3 n3 c3) ∧ w'.cell? ⟨w.heap.size, 3, none⟩ = some (.slice A4 n4 c4) := fun w' e =>
    ⟨(Lat.run HR.out).1 ⟨w', e⟩, (Lat.run HR.out).2.1 ⟨w', e⟩, (Lat.run HR.out).2.2.1 ⟨w', e⟩, (Lat.run HR.out).2.2.2 ⟨w', e⟩⟩
  have hk2 : ∀ wx w', Ext w0 wx → Only (fun q => q = w.heap.size + 1) wx w' → w'.cell? ⟨w.heap.size, 0, none⟩ = some (.slice A1 n1 c1) ∧ w'.cell? ⟨w.heap.size, 1, none⟩ = some (.slice A2 n2 c2) ∧ w'.cell? ⟨w.heap.size, 2, none⟩ = some (.slice A3 n3 c3) ∧ w'.cell? ⟨w.heap.size, 3, none⟩ = some (.slice A4 n4 c4) := fun wx w' e o => by
    have h := (o.block w.heap.size (blk_lt (ext_blk e HR.out)) (by omega)).trans (ext_blk e HR.out)
    exact ⟨cellOf h rfl, cellOf h rfl, cellOf h rfl, cellOf h rfl⟩
  have hk4 : ∀ (wx : World) (a b c d : Value), Ext w0 wx → ((((wx.setCell ⟨w.heap.size + 1, 0, none⟩ a).setCell ⟨w.heap.size + 1, 1, none⟩ b).setCell ⟨w.heap.size + 1, 2, none⟩ c).setCell ⟨w.heap.size + 1, 3, none⟩ d).cell? ⟨w.heap.size, 0, none⟩ = some (.slice A1 n1 c1) ∧ ((((wx.setCell ⟨w.heap.size + 1, 0, none⟩ a).setCell ⟨w.heap.size + 1, 1, none⟩ b).setCell ⟨w.heap.size + 1, 2, none⟩ c).setCell ⟨w.heap.size + 1, 3, none⟩ d).cell? ⟨w.heap.size, 1, none⟩ = some (.slice A2 n2 c2) ∧ ((((wx.setCell ⟨w.heap.size + 1, 0, none⟩ a).setCell ⟨w.heap.size + 1, 1, none⟩ b).setCell ⟨w.heap.size + 1, 2, none⟩ c).setCell ⟨w.heap.size + 1, 3, none⟩ d).cell? ⟨w.heap.size, 2, none⟩ = some (.slice A3 n3 c3) ∧ ((((wx.setCell ⟨w.heap.size + 1, 0, none⟩ a).setCell ⟨w.heap.size + 1, 1, none⟩ b).setCell ⟨w.heap.size + 1, 2, none⟩ c).setCell ⟨w.heap.size + 1, 3, none⟩ d).cell? ⟨w.heap.size, 3, none⟩ = some (.slice A4 n4 c4) := fun wx a b c d e =>
    hk2 wx _ e (((((Only.refl (fun q => q = w.heap.size + 1) wx).setCell ⟨w.heap.size + 1, 0, none⟩ a fun _ => rfl).setCell ⟨w.heap.size + 1, 1, none⟩ b fun _ => rfl).setCell ⟨w.heap.size + 1, 2, none⟩ c fun _ => rfl).setCell ⟨w.heap.size + 1, 3, none⟩ d fun _ => rfl)
  have h4 : ∀ w', Ext w0 w' → (w'.cell? ⟨w.heap.size + 1, 0, none⟩ = some (.slice none 0 0) ∧ w'.cell? ⟨w.heap.size + 1, 1, none⟩ = some (.slice none 0 0) ∧ w'.cell? ⟨w.heap.size + 1, 2, none⟩ = some (.slice none 0 0) ∧ w'.cell? ⟨w.heap.size + 1, 3, none⟩ = some (.slice none 0 0)) ∧
      w'.frozen? ⟨w.heap.size + 1, 0, none⟩ = false ∧ w'.frozen? ⟨w.heap.size + 1, 1, none⟩ = false ∧ w'.frozen? ⟨w.heap.size + 1, 2, none⟩ = false ∧ w'.frozen? ⟨w.heap.size + 1, 3, none⟩ = false := fun w' e => by
    have h := ext_blk e HT.out
    exact ⟨⟨cellOf h rfl, cellOf h rfl, cellOf h rfl, cellOf h rfl⟩, freeOf h 0, freeOf h 1, freeOf h 2, freeOf h 3⟩
  have l1 : (cs.flatMap Cl.enc).length = n1 * 9 := by rw [flat_len Cl.enc 9 Cl.size, Hm.out.calls.1]
  have l2 : (tr.flatMap Ac.enc).length = n2 * 7 := by rw [flat_len Ac.enc 7 Ac.size, Hm.out.trace.1]
  have l3 : (sh.flatMap Sh.enc).length = n3 * 5 := by rw [flat_len Sh.enc 5 Sh.size, Hm.out.shifts.1]
  have l4 : (rw_.map (Value.int .u64)).length = n4 * 1 := by rw [List.length_map, Hm.out.wlen, Nat.mul_one]
  have E0 := (Ext.rfl' w0).drew1
  clear hw0 hR hT hlt0 hE
  go_region_held3 (fun w' => w'.cell? ⟨w.heap.size, 0, none⟩ = some (.slice A1 n1 c1) ∧ w'.cell? ⟨w.heap.size, 1, none⟩ = some (.slice A2 n2 c2) ∧ w'.cell? ⟨w.heap.size, 2, none⟩ = some (.slice A3 n3 c3) ∧ w'.cell? ⟨w.heap.size, 3, none⟩ = some (.slice A4 n4 c4))
    (first | exact hk _ E0 | exact hk _ EA | exact hk _ EB | exact hk _ EC | exact hk _ ED | exact hk4 _ _ _ _ _ ED)
    (first
      | (refine step_appendR _ rfl (.const (.slice none 0 0)) (.tmp 4) 44 rfl w.heap.size 150 9 72 elemClC Try.underlying44 (.slice none 0 0) 0 [] rfl (World.ownsRow_nil _ _ _ _) A1 n1 c1 (cs.flatMap Cl.enc) (by simp [Act.eval]) l1 (Hm0.out.calls.2.ext E0) (one_cl cs) (by omega) (Nat.le_trans hb0 E0.size) ?_; intro v1 wA hA gA tA; have EA : Ext w0 wA := Ext.next E0 ((Only.of_grown gA).ext fun q _ hq => by cases hq); rw [Nat.zero_add, List.nil_append] at hA; obtain ⟨B1, k1, rfl⟩ := own_form hA)
      | (refine step_appendR _ rfl (.const (.slice none 0 0)) (.tmp 7) 45 rfl w.heap.size 129 7 56 elemAc Try.underlying45 (.slice none 0 0) 0 [] rfl (World.ownsRow_nil _ _ _ _) A2 n2 c2 (tr.flatMap Ac.enc) (by simp [Act.eval]) l2 (Hm0.out.trace.2.ext EA) (one_ac tr) (by omega) (Nat.le_trans hb0 EA.size) ?_; intro v2 wB hB gB tB; have EAB : Ext wA wB := (Only.of_grown gB).ext fun q _ hq => (by cases hq); have EB : Ext w0 wB := Ext.next EA EAB; rw [Nat.zero_add, List.nil_append] at hB; obtain ⟨B2, k2, rfl⟩ := own_form hB)
      | (refine step_appendR _ rfl (.const (.slice none 0 0)) (.tmp 10) 46 rfl w.heap.size 136 5 40 elemSh Try.underlying46 (.slice none 0 0) 0 [] rfl (World.ownsRow_nil _ _ _ _) A3 n3 c3 (sh.flatMap Sh.enc) (by simp [Act.eval]) l3 (Hm0.out.shifts.2.ext EB) (one_sh sh) (by omega) (Nat.le_trans hb0 EB.size) ?_; intro v3 wC hC gC tC; have EBC : Ext wB wC := (Only.of_grown gC).ext fun q _ hq => (by cases hq); have EC : Ext w0 wC := Ext.next EB EBC; rw [Nat.zero_add, List.nil_append] at hC; obtain ⟨B3, k3, rfl⟩ := own_form hC)
      | (refine step_appendR _ rfl (.const (.slice none 0 0)) (.tmp 13) 24 rfl w.heap.size 25 1 8 elemWd Try.underlying24 (.slice none 0 0) 0 [] rfl (World.ownsRow_nil _ _ _ _) A4 n4 c4 (rw_.map (Value.int .u64)) (by simp [Act.eval]) l4 (Hm0.out.words.ext EC) (one_wd rw_) (by omega) (Nat.le_trans hb0 EC.size) ?_; intro v4 wD hD gD tD; have ECD : Ext wC wD := (Only.of_grown gD).ext fun q _ hq => (by cases hq); have ED : Ext w0 wD := Ext.next EC ECD; rw [Nat.zero_add, List.nil_append] at hD; obtain ⟨B4, k4, rfl⟩ := own_form hD; obtain ⟨⟨i0, i1, i2, i3⟩, f0, f1, f2, f3⟩ := h4 wD ED))
  all_goals
    go_wp2_with fail
    have hb0 := ext_blk ED HT.out
    have hb1 := heap_setCell_same _ _ 0 _ _ (.slice B1 n1 k1) hb0
    have hb2 := heap_setCell_same _ _ 1 _ _ (.slice B2 n2 k2) hb1
    have hb3 := heap_setCell_same _ _ 2 _ _ (.slice B3 n3 k3) hb2
    have hb4 := heap_setCell_same _ _ 3 _ _ (.slice B4 n4 k4) hb3
    have hb5 : _ = some (Obj.cells #[.slice B1 n1 k1, .slice B2 n2 k2, .slice B3 n3 k3, .slice B4 n4 k4] 48 (0, 0)) := hb4
    have o : Only (fun q => q = w.heap.size + 1) wD _ := ((((Only.refl (fun q => q = w.heap.size + 1) wD).setCell ⟨w.heap.size + 1, 0, none⟩ (.slice B1 n1 k1) fun _ => rfl).setCell ⟨w.heap.size + 1, 1, none⟩ (.slice B2 n2 k2) fun _ => rfl).setCell ⟨w.heap.size + 1, 2, none⟩ (.slice B3 n3 k3) fun _ => rfl).setCell ⟨w.heap.size + 1, 3, none⟩ (.slice B4 n4 k4) fun _ => rfl
    have hA' := own_only (own_ext hA (Ext.next EAB (Ext.next EBC ECD))) o fun q hq e => own_apart (own_ext hA (Ext.next EAB (Ext.next EBC ECD))) hb0 (by decide) (by rw [hq, e])
    have hB' := own_only (own_ext hB (Ext.next EBC ECD)) o fun q hq e => own_apart (own_ext hB (Ext.next EBC ECD)) hb0 (by decide) (by rw [hq, e])
    have hC' := own_only (own_ext hC ECD) o fun q hq e => own_apart (own_ext hC ECD) hb0 (by decide) (by rw [hq, e])
    have hD' := own_only hD o fun q hq e => own_apart hD hb0 (by decide) (by rw [hq, e])
    refine bodyPost_ret (results_cell1' rfl _ _ (w.heap.size + 1) rfl _ (run_loadVar_row _ _ _ _ _ _ _ hb5 Try.underlying48 rfl (by kernel_rfl))) rfl ?_
    exact ⟨B1, k1, B2, k2, B3, k3, B4, k4, rfl, ⟨⟨Hm.out.calls.1, Rd.of_own hA'⟩, ⟨Hm.out.trace.1, Rd.of_own hB'⟩, ⟨Hm.out.shifts.1, Rd.of_own hC'⟩, Rd.of_own hD', Hm.out.wlen, Hm.out.big1, Hm.out.big2, Hm.out.big3, Hm.out.big4, Hm.out.wide⟩,
      (Ext.next HE.out ED).only o fun q hq => by rw [hq]; omega⟩

set_option maxHeartbeats 4000000 in
theorem sameCalls_any (A : Option Addr) (n c : Nat) (A' : Option Addr) (c' : Nat) (xs : List Cl) (w : World) (h1 : Arr Cl.enc w A n xs) (h2 : Arr Cl.enc w A' n xs) (hb1 : n ≤ 140737488355328) :
    Calls Try.prog 76 #[.slice A n c, .slice A' n c'] w fun e w' => e = .returned (.bool true) ∧ Ext w w' := by
  have H1 := Lib.hid h1
  have H2 := Lib.hid h2
  clear h1 h2
  refine start_lat fun k0 => ?_
  go_enter Try.func76, Try.ntmps76
  go_wp2_with fail
  go_loopw [5] (fun s5 wr => ∃ (k : Lat w) (i : Nat), wr = k.world ∧ i ≤ n ∧ s5 = .int .i64 i) (fun s _ => n - (intOf s).toNat)
  case atStart => exact ⟨k0, 0, rfl, by omega, rfl⟩
  case round =>
    obtain ⟨k, i, rfl, hi, rfl⟩ := hrel
    by_cases hlt : i < n
    · have g1 : (i : Int) < (n : Int) := by omega
      have hi0 : (0 : Int) ≤ (i : Int) := by omega
      obtain ⟨b, off, x, hA, hb, hx, x0, x1, x2, x3, x4, x5, x6, x7, x8⟩ := Cl.at_ H1.out hlt
      obtain ⟨b', off', x', hA', hb', hx', y0, y1, y2, y3, y4, y5, y6, y7, y8⟩ := Cl.at_ H2.out hlt
      have he := hx.out.symm.trans hx'.out
      injection he with he
      subst he
      subst hA hA'
      clear hx hx'
      go_upto_region 6 with fail
      refine wp_region_cls (Ext w) (Ext.drew1 k.ok) (by kernel_rfl) (by kernel_rfl) ?_
      repeat (go_big_quiet_step (fail))
      refine wpQuiet_nil ?_
      rintro _ ⟨k6, rfl⟩
      go_wp2_with fail
      go_roundw
      case rel => exact ⟨k6, i + 1, rfl, by omega, by go_num⟩
      case measure => simp [intOf]; omega
    · obtain rfl : n = i := by omega
      go_wp2_with fail
      go_ret
      exact ⟨rfl, k.ok⟩

set_option maxHeartbeats 4000000 in
theorem sameTrace_any (A : Option Addr) (n c : Nat) (A' : Option Addr) (c' : Nat) (xs : List Ac) (w : World) (h1 : Arr Ac.enc w A n xs) (h2 : Arr Ac.enc w A' n xs) (hb1 : n ≤ 140737488355328) :
    Calls Try.prog 77 #[.slice A n c, .slice A' n c'] w fun e w' => e = .returned (.bool true) ∧ Ext w w' := by
  have H1 := Lib.hid h1
  have H2 := Lib.hid h2
  clear h1 h2
  refine start_lat fun k0 => ?_
  go_enter Try.func77, Try.ntmps77
  go_wp2_with fail
  go_loopw [5] (fun s5 wr => ∃ (k : Lat w) (i : Nat), wr = k.world ∧ i ≤ n ∧ s5 = .int .i64 i) (fun s _ => n - (intOf s).toNat)
  case atStart => exact ⟨k0, 0, rfl, by omega, rfl⟩
  case round =>
    obtain ⟨k, i, rfl, hi, rfl⟩ := hrel
    by_cases hlt : i < n
    · have g1 : (i : Int) < (n : Int) := by omega
      have hi0 : (0 : Int) ≤ (i : Int) := by omega
      obtain ⟨b, off, x, hA, hb, hx, x0, x1, x2, x3, x4, x5, x6⟩ := Ac.at_ H1.out hlt
      obtain ⟨b', off', x', hA', hb', hx', y0, y1, y2, y3, y4, y5, y6⟩ := Ac.at_ H2.out hlt
      have he := hx.out.symm.trans hx'.out
      injection he with he
      subst he
      subst hA hA'
      clear hx hx'
      go_upto_region 6 with fail
      refine wp_region_cls (Ext w) (Ext.drew1 k.ok) (by kernel_rfl) (by kernel_rfl) ?_
      repeat (go_big_quiet_step (fail))
      refine wpQuiet_nil ?_
      rintro _ ⟨k6, rfl⟩
      go_wp2_with fail
      go_roundw
      case rel => exact ⟨k6, i + 1, rfl, by omega, by go_num⟩
      case measure => simp [intOf]; omega
    · obtain rfl : n = i := by omega
      go_wp2_with fail
      go_ret
      exact ⟨rfl, k.ok⟩

set_option maxHeartbeats 4000000 in
theorem sameShifts_any (A : Option Addr) (n c : Nat) (A' : Option Addr) (c' : Nat) (xs : List Sh) (w : World) (h1 : Arr Sh.enc w A n xs) (h2 : Arr Sh.enc w A' n xs) (hb1 : n ≤ 140737488355328) :
    Calls Try.prog 78 #[.slice A n c, .slice A' n c'] w fun e w' => e = .returned (.bool true) ∧ Ext w w' := by
  have H1 := Lib.hid h1
  have H2 := Lib.hid h2
  clear h1 h2
  refine start_lat fun k0 => ?_
  go_enter Try.func78, Try.ntmps78
  go_wp2_with fail
  go_loopw [5] (fun s5 wr => ∃ (k : Lat w) (i : Nat), wr = k.world ∧ i ≤ n ∧ s5 = .int .i64 i) (fun s _ => n - (intOf s).toNat)
  case atStart => exact ⟨k0, 0, rfl, by omega, rfl⟩
  case round =>
    obtain ⟨k, i, rfl, hi, rfl⟩ := hrel
    by_cases hlt : i < n
    · have g1 : (i : Int) < (n : Int) := by omega
      have hi0 : (0 : Int) ≤ (i : Int) := by omega
      obtain ⟨b, off, x, hA, hb, hx, x0, x1, x2, x3, x4⟩ := Sh.at_ H1.out hlt
      obtain ⟨b', off', x', hA', hb', hx', y0, y1, y2, y3, y4⟩ := Sh.at_ H2.out hlt
      have he := hx.out.symm.trans hx'.out
      injection he with he
      subst he
      subst hA hA'
      clear hx hx'
      go_upto_region 6 with fail
      refine wp_region_cls (Ext w) (Ext.drew1 k.ok) (by kernel_rfl) (by kernel_rfl) ?_
      repeat (go_big_quiet_step (fail))
      refine wpQuiet_nil ?_
      rintro _ ⟨k6, rfl⟩
      go_wp2_with fail
      go_roundw
      case rel => exact ⟨k6, i + 1, rfl, by omega, by go_num⟩
      case measure => simp [intOf]; omega
    · obtain rfl : n = i := by omega
      go_wp2_with fail
      go_ret
      exact ⟨rfl, k.ok⟩

set_option maxHeartbeats 4000000 in
theorem sameWords_any (A : Option Addr) (n c : Nat) (A' : Option Addr) (c' : Nat) (xs : List Int) (w : World) (h1 : Rd w A (xs.map (Value.int .u64))) (h2 : Rd w A' (xs.map (Value.int .u64))) (hl : xs.length = n) (hb1 : n ≤ 140737488355328) :
    Calls Try.prog 79 #[.slice A n c, .slice A' n c'] w fun e w' => e = .returned (.bool true) ∧ Ext w w' := by
  have H1 := Lib.hid h1
  have H2 := Lib.hid h2
  have HL := Lib.hid hl
  clear h1 h2 hl
  refine start_lat fun k0 => ?_
  go_enter Try.func79, Try.ntmps79
  go_wp2_with fail
  go_loopw [5] (fun s5 wr => ∃ (k : Lat w) (i : Nat), wr = k.world ∧ i ≤ n ∧ s5 = .int .i64 i) (fun s _ => n - (intOf s).toNat)
  case atStart => exact ⟨k0, 0, rfl, by omega, rfl⟩
  case round =>
    obtain ⟨k, i, rfl, hi, rfl⟩ := hrel
    by_cases hlt : i < n
    · have g1 : (i : Int) < (n : Int) := by omega
      have hi0 : (0 : Int) ≤ (i : Int) := by omega
      obtain ⟨x, hx⟩ : ∃ x, xs[i]? = some x := ⟨_, List.getElem?_eq_getElem (by rw [HL.out]; exact hlt)⟩
      obtain ⟨b, off, rfl, hb, x0⟩ := H1.out.lat (j := i) (u := .int .u64 x) (by simp [hx])
      obtain ⟨b', off', rfl, hb', y0⟩ := H2.out.lat (j := i) (u := .int .u64 x) (by simp [hx])
      clear hx
      go_upto_region 6 with fail
      refine wp_region_cls (Ext w) (Ext.drew1 k.ok) (by kernel_rfl) (by kernel_rfl) ?_
      repeat (go_big_quiet_step (fail))
      refine wpQuiet_nil ?_
      rintro _ ⟨k6, rfl⟩
      go_wp2_with fail
      go_roundw
      case rel => exact ⟨k6, i + 1, rfl, by omega, by go_num⟩
      case measure => simp [intOf]; omega
    · obtain rfl : n = i := by omega
      go_wp2_with fail
      go_ret
      exact ⟨rfl, k.ok⟩

set_option maxHeartbeats 4000000 in
theorem sameRun_any (A1 : Option Addr) (n1 c1 : Nat) (A2 : Option Addr) (n2 c2 : Nat) (A3 : Option Addr) (n3 c3 : Nat) (A4 : Option Addr) (n4 c4 : Nat) (B1 : Option Addr) (k1 : Nat) (B2 : Option Addr) (k2 : Nat) (B3 : Option Addr) (k3 : Nat) (B4 : Option Addr) (k4 : Nat) (cs : List Cl) (tr : List Ac) (sh : List Sh) (rw_ : List Int) (w : World)
    (hm : RunMem w A1 n1 A2 n2 A3 n3 A4 n4 cs tr sh rw_) (hm2 : RunMem w B1 n1 B2 n2 B3 n3 B4 n4 cs tr sh rw_) :
    Calls Try.prog 23 #[.agg #[.slice A1 n1 c1, .slice A2 n2 c2, .slice A3 n3 c3, .slice A4 n4 c4], .agg #[.slice B1 n1 k1, .slice B2 n2 k2, .slice B3 n3 k3, .slice B4 n4 k4]] w fun e w' => e = .returned (.bool true) ∧ Ext w w' := by
  have Hm := Lib.hid hm
  have Hm2 := Lib.hid hm2
  clear hm hm2
  go_enter Try.func23, Try.ntmps23
  go_upto_region 1 with fail
  obtain ⟨w0, hw0, hC, hR, hE, hlt0⟩ := enter2 w (.cells #[.slice A1 n1 c1, .slice A2 n2 c2, .slice A3 n3 c3, .slice A4 n4 c4] 48) (.cells #[.slice B1 n1 k1, .slice B2 n2 k2, .slice B3 n3 k3, .slice B4 n4 k4] 48)
  rw [hw0]
  have HE := Lib.hid hE
  obtain ⟨r0, r1, r2, r3⟩ := Lat.run hC
  obtain ⟨s0, s1, s2, s3⟩ := Lat.run hR
  obtain ⟨q0, hq0⟩ := lat_self w0
  rw [hq0]
  clear hw0 hC hR hE hq0 hlt0
  go_wp2_with fail
  refine (sameCalls_any A1 n1 c1 B1 k1 cs _ (Hm.out.calls.ext (Ext.next HE.out q0.ok)) (Hm2.out.calls.ext (Ext.next HE.out q0.ok)) Hm.out.big1).mono ?_
  rintro e w1 ⟨rfl, e1⟩
  obtain ⟨q1, rfl⟩ := lat_next q0 e1
  clear e1
  go_wp2_with fail
  refine (sameTrace_any A2 n2 c2 B2 k2 tr _ (Hm.out.trace.ext (Ext.next HE.out q1.ok)) (Hm2.out.trace.ext (Ext.next HE.out q1.ok)) Hm.out.big2).mono ?_
  rintro e w1 ⟨rfl, e1⟩
  obtain ⟨q2, rfl⟩ := lat_next q1 e1
  clear e1
  go_wp2_with fail
  refine (sameShifts_any A3 n3 c3 B3 k3 sh _ (Hm.out.shifts.ext (Ext.next HE.out q2.ok)) (Hm2.out.shifts.ext (Ext.next HE.out q2.ok)) Hm.out.big3).mono ?_
  rintro e w1 ⟨rfl, e1⟩
  obtain ⟨q3, rfl⟩ := lat_next q2 e1
  clear e1
  go_wp2_with fail
  refine (sameWords_any A4 n4 c4 B4 k4 rw_ _ (Hm.out.words.ext (Ext.next HE.out q3.ok)) (Hm2.out.words.ext (Ext.next HE.out q3.ok)) Hm.out.wlen Hm.out.big4).mono ?_
  rintro e w1 ⟨rfl, e1⟩
  obtain ⟨q4, rfl⟩ := lat_next q3 e1
  clear e1
  go_wp2_with fail
  go_ret
  exact ⟨rfl, Ext.next HE.out q4.ok⟩

theorem Lat.case_ {w0 : World} {b : Nat} {t : TypeId} {T R H Re Ca S B used mv : Int} {v1 v2 v3 v4 : Value} (h : w0.heap[b]? = some (.cells #[.int .i64 T, .int .i64 R, .int .i64 H, .int .i64 Re, .int .i64 Ca, .int .i64 S, .int .i64 B, .int .i64 used, v1, v2, v3, v4, .int .i64 mv] t (0, 0))) :
    (∀ c : Lat w0, c.world.cell? ⟨b, 0, none⟩ = some (.int .i64 T)) ∧ (∀ c : Lat w0, c.world.cell? ⟨b, 1, none⟩ = some (.int .i64 R)) ∧ (∀ c : Lat w0, c.world.cell? ⟨b, 2, none⟩ = some (.int .i64 H)) ∧ (∀ c : Lat w0, c.world.cell? ⟨b, 3, none⟩ = some (.int .i64 Re)) ∧ (∀ c : Lat w0, c.world.cell? ⟨b, 4, none⟩ = some (.int .i64 Ca)) ∧ (∀ c : Lat w0, c.world.cell? ⟨b, 5, none⟩ = some (.int .i64 S)) ∧ (∀ c : Lat w0, c.world.cell? ⟨b, 6, none⟩ = some (.int .i64 B)) ∧ (∀ c : Lat w0, c.world.cell? ⟨b, 7, none⟩ = some (.int .i64 used)) ∧ (∀ c : Lat w0, c.world.cell? ⟨b, 8, none⟩ = some (v1)) ∧ (∀ c : Lat w0, c.world.cell? ⟨b, 9, none⟩ = some (v2)) ∧ (∀ c : Lat w0, c.world.cell? ⟨b, 10, none⟩ = some (v3)) ∧ (∀ c : Lat w0, c.world.cell? ⟨b, 11, none⟩ = some (v4)) ∧ (∀ c : Lat w0, c.world.cell? ⟨b, 12, none⟩ = some (.int .i64 mv)) :=
  ⟨Lat.cells h rfl, Lat.cells h rfl, Lat.cells h rfl, Lat.cells h rfl, Lat.cells h rfl, Lat.cells h rfl, Lat.cells h rfl, Lat.cells h rfl, Lat.cells h rfl, Lat.cells h rfl, Lat.cells h rfl, Lat.cells h rfl, Lat.cells h rfl⟩
theorem mayB : MayOK 1 1 3 1 0 2 1 0 [] [] [] wordsS := by
  refine ⟨okS, ⟨by omega, by omega⟩, ⟨trivial, trivial, fun i j x y hx => by simp at hx, fun i j x y hx => by simp at hx⟩, rfl, trivial⟩
set_option maxRecDepth 100000 in
set_option maxHeartbeats 8000000 in
theorem maysLaw_any (hM : MaySays) (hA : AwakeSays) (T R H Re Ca S B used mv : Int) (A1 : Option Addr) (n1 c1 : Nat) (A2 : Option Addr) (n2 c2 : Nat) (A3 : Option Addr) (n3 c3 : Nat) (A4 : Option Addr) (n4 c4 : Nat) (cs : List Cl) (tr : List Ac) (sh : List Sh) (rw_ : List Int) (w : World)
    (hm : RunMem w A1 n1 A2 n2 A3 n3 A4 n4 cs tr sh rw_) (b1 : n1 * 72 ≤ 140737488355328) (b2 : n2 * 56 ≤ 140737488355328) (b3 : n3 * 40 ≤ 140737488355328) (b4 : n4 * 8 ≤ 140737488355328) :
    Calls Try.prog 5 #[.agg #[.int .i64 T, .int .i64 R, .int .i64 H, .int .i64 Re, .int .i64 Ca, .int .i64 S, .int .i64 B, .int .i64 used, .slice A1 n1 c1, .slice A2 n2 c2, .slice A3 n3 c3, .slice A4 n4 c4, .int .i64 mv]] w fun e w' => e = .returned (.bool true) ∧ Ext w w' := by
  have Hm := Lib.hid hm
  clear hm
  go_enter Try.func5, Try.ntmps5
  go_upto_region 1 with fail
  obtain ⟨w0, hw0, hC, hE, hlt0⟩ := enter1 w (.cells #[.int .i64 T, .int .i64 R, .int .i64 H, .int .i64 Re, .int .i64 Ca, .int .i64 S, .int .i64 B, .int .i64 used, .slice A1 n1 c1, .slice A2 n2 c2, .slice A3 n3 c3, .slice A4 n4 c4, .int .i64 mv] 50)
  rw [hw0]
  have HE := Lib.hid hE
  have HC := Lib.hid hC
  have Hm0 := Lib.hid (Hm.out.ext hE)
  obtain ⟨d0, d1, d2, d3, d4, d5, d6, d7, d8, d9, d10, d11, d12⟩ := Lat.case_ hC
  obtain ⟨k0, hk0⟩ := lat_self w0
  rw [hk0]
  clear hw0 hC hE hk0 hlt0
  go_wp2_with fail
  refine (copy_any A1 n1 c1 A2 n2 c2 A3 n3 c3 A4 n4 c4 cs tr sh rw_ _ (Hm0.out.ext k0.ok) b1 b2 b3 b4).mono ?_
  rintro e w1 ⟨B1, l1, B2, l2, B3, l3, B4, l4, rfl, hm2, e1⟩
  obtain ⟨k1, rfl⟩ := lat_next k0 e1
  have Hm2 := Lib.hid hm2
  clear e1 hm2
  go_upto_region 2 with fail
  obtain ⟨w2, hw2, hK, hE2, hlt2⟩ := enter1 k1.world (.cells #[.slice B1 n1 l1, .slice B2 n2 l2, .slice B3 n3 l3, .slice B4 n4 l4] 48)
  rw [hw2]
  have HE2 := Lib.hid (Ext.next k1.ok hE2)
  have Hm3 := Lib.hid (Hm2.out.ext hE2)
  obtain ⟨s0, s1, s2, s3⟩ := Lat.run hK
  clear d0 d1 d2 d3 d4 d5 d6 d7 d8 d9 d10 d11 d12
  obtain ⟨d0, d1, d2, d3, d4, d5, d6, d7, d8, d9, d10, d11, d12⟩ := Lat.case_ (ext_blk HE2.out HC.out)
  have Hm4 := Lib.hid (Hm0.out.ext HE2.out)
  obtain ⟨k2, hk2⟩ := lat_self w2
  rw [hk2]
  generalize k1.world.heap.size = pk at *
  clear hw2 hK hE2 hk2 hlt2
  go_wp2_with fail
  refine (hM T R H Re Ca S B used A1 n1 c1 A2 n2 c2 A3 n3 c3 A4 n4 c4 cs tr sh rw_ _ (Hm4.out.ext k2.ok) b1).mono ?_
  rintro e w3 ⟨q, rfl, hq, e3⟩
  obtain ⟨k3, rfl⟩ := lat_next k2 e3
  have HQ := Lib.hid hq
  clear e3 hq
  go_wp2_with fail
  refine (ref13May_any T R H Re Ca S B used A1 n1 c1 A2 n2 c2 A3 n3 c3 A4 n4 c4 cs tr sh rw_ _ (Hm4.out.ext k3.ok)).mono ?_
  rintro e w4 ⟨q', rfl, hq, e4⟩
  obtain ⟨k4, rfl⟩ := lat_next k3 e4
  obtain rfl : q = q' := by
    have := HQ.out.trans hq.symm
    cases q <;> cases q' <;> simp at this ⊢
  clear e4 hq HQ
  have hbq : (q == q) = true := by simp
  go_wp2_with fail
  refine (sameRun_any A1 n1 c1 A2 n2 c2 A3 n3 c3 A4 n4 c4 B1 l1 B2 l2 B3 l3 B4 l4 cs tr sh rw_ _ (Hm4.out.ext k4.ok) (Hm3.out.ext k4.ok)).mono ?_
  rintro e w5 ⟨rfl, e5⟩
  obtain ⟨k5, rfl⟩ := lat_next k4 e5
  clear e5
  go_wp2_with fail
  refine (small_any _).mono ?_
  rintro e w1 ⟨rfl, e1⟩
  obtain ⟨k6, rfl⟩ := lat_next k5 e1
  clear e1
  go_wp2_with fail
  refine (blank_any _).mono ?_
  rintro e w7 ⟨gw, rfl, hown, e7⟩
  have hl : wordsS.length = lenS := by have := hown.1; simpa using this
  have hb := sizesS.big
  have hrm : Hid (RunMem w7 none 0 none 0 none 0 (some ⟨gw, 0, none⟩) lenS [] [] [] wordsS) := ⟨⟨rfl, Rd.nil _ _⟩, ⟨rfl, Rd.nil _ _⟩, ⟨rfl, Rd.nil _ _⟩, Rd.of_own hown, hl, by omega, by omega, by omega, by omega, fun a ha => by simp at ha⟩
  obtain ⟨k7, rfl⟩ := lat_next k6 e7
  clear hown e7 hl hb
  go_wp2_with fail
  refine (hM 1 1 3 1 0 2 1 0 none 0 0 none 0 0 none 0 0 (some ⟨gw, 0, none⟩) lenS lenS [] [] [] wordsS _ hrm.out (by omega)).mono ?_
  rintro e w8 ⟨q8, rfl, hq8, e8⟩
  obtain ⟨k8, rfl⟩ := lat_next k7 e8
  obtain rfl : true = q8 := (hq8.2 mayB).symm
  clear hq8 e8
  go_wp2_with fail
  refine (hA _).mono ?_
  rintro e w1 ⟨rfl, e1⟩
  obtain ⟨k9, rfl⟩ := lat_next k8 e1
  clear e1
  go_wp2_with fail
  go_ret
  exact ⟨rfl, Ext.next HE.out (Ext.next HE2.out k9.ok)⟩

set_option maxRecDepth 100000 in
theorem censusMays_lifted (hM : MaySays) (hA : AwakeSays) (os : Os) (started : os.Started) (H : Type) (enc : TypeId × Value → H) :
    ReturnsInHanded {} Try.checked os 5 .any (Rows.censusMaysSpec.pre6 enc Try.prog Try.f5 [] false) (Rows.censusMaysSpec.post enc Try.prog Try.f5 false true false false) := by
  refine lawWrap (C := Try.checked) (tb := 4) own_ started (by kernel_rfl) Try.func5
    (ChangeSpec.witness6 (enc := enc) (C := Try.checked) false ⟨#[], #[.agg #[.int .i64 0, .int .i64 0, .int .i64 0, .int .i64 0, .int .i64 0, .int .i64 0, .int .i64 0, .int .i64 0, .slice none 0 0, .slice none 0 0, .slice none 0 0, .slice none 0 0, .int .i64 0]], []⟩ 8 (by kernel_rfl) (by kernel_rfl) (by kernel_rfl) (by kernel_rfl))
    rfl Try.underlying4 rfl ?_ laidOut_ (by kernel_rfl) ?_
  · intro ds hds
    match ds, hds with
    | [d1], _ => exact ⟨rfl, rfl, rfl⟩
  · intro W base args ds ps hval0 hA0 hlt hsz
    have hval : ∀ (j : Nat) t v, Try.f5.params[j]? = some t → args[j]? = some v → Value.okWide Try.prog W .any base t v := hval0
    have hArgs : DataW.TrodAll enc Try.prog W 0 (fun _ => true) true Try.f5.params.toList args.toList ds ps := hA0
    rw [Try.params5] at hArgs hval
    obtain ⟨v0, d0, rfl, rfl, h0⟩ := trodAll_one hArgs
    obtain ⟨T, R, H', Re, Ca, S, B, used, mv, A1, n1, c1, A2, n2, c2, A3, n3, c3, A4, n4, c4, cs, tr, sh, rw_, rfl, hm, b1, b2, b3, b4⟩ := openCase (hval 0 50 v0 rfl rfl) h0 (by rw [Try.params5] at hsz; exact hsz)
    exact maysLaw_any hM hA T R H' Re Ca S B used mv A1 n1 c1 A2 n2 c2 A3 n3 c3 A4 n4 c4 cs tr sh rw_ W hm (by omega) (by omega) (by omega) (by omega)

theorem censusMays_of (hM : MaySays) (hA : AwakeSays) : Rows.CensusMaysSaid :=
  OpenClaim.holds_of_wide 5 Try.f5 rfl rfl rfl rfl rfl rfl rfl ⟨rfl, rfl, rfl, rfl, rfl⟩ rfl rfl rfl rfl rfl (by kernel_rfl) Try.func5 (by kernel_rfl)
    (of_decide_eq_true (by kernel_rfl)) (by unfold Func.isWrapper; first | (rw [if_pos (by decide +kernel)]; kernel_rfl) | (rw [if_neg (by decide +kernel)]; exact ⟨rfl, rfl⟩))
    (fun os started H enc _ => censusMays_lifted hM hA os started H enc)

open Go.ChangeShapes Go.WideShapes Go.ChangeAt Go.RowKit

def afterS (st : List Int) (l : List Sh) : List Int := l.foldl (fun st x => putS x st) st
def afterH (ho : List Int) (l : List Sh) : List Int := l.foldl (fun ho x => putH x ho) ho
theorem afterS_snoc (st : List Int) (l : List Sh) (x : Sh) : afterS st (l ++ [x]) = putS x (afterS st l) := by simp [afterS]
theorem afterH_snoc (ho : List Int) (l : List Sh) (x : Sh) : afterH ho (l ++ [x]) = putH x (afterH ho l) := by simp [afterH]
/-- The shifts below a move. -/
def belowM (sh : List Sh) (m : Int) : List Sh := sh.filter (fun x => decide (x.mv < m))
/-- The shifts' moves do not fall. -/
def Rising (sh : List Sh) : Prop := ∀ (i j : Nat) (x y : Sh), i < j → sh[i]? = some x → sh[j]? = some y → x.mv ≤ y.mv
theorem below_take {sh : List Sh} {m : Int} {i : Nat} (h : ∀ x ∈ sh.take i, x.mv < m) : belowM (sh.take i) m = sh.take i := List.filter_eq_self.2 fun x hx => by simpa using h x hx
theorem below_stop {sh : List Sh} {m : Int} {i : Nat} {y : Sh} (hr : Rising sh) (h : ∀ x ∈ sh.take i, x.mv < m) (hy : sh[i]? = some y) (hn : ¬ y.mv < m) : belowM sh m = sh.take i := by
  have e : sh = sh.take i ++ sh.drop i := (List.take_append_drop i sh).symm
  conv => lhs; rw [e]
  unfold belowM
  rw [List.filter_append, List.filter_eq_self.2 fun x hx => by simpa using h x hx]
  have : (sh.drop i).filter (fun x => decide (x.mv < m)) = [] := List.filter_eq_nil_iff.2 fun x hx => by
    obtain ⟨j, hj⟩ := List.getElem?_of_mem hx
    rw [List.getElem?_drop] at hj
    by_cases h0 : j = 0
    · subst h0
      rw [Nat.add_zero, hy] at hj
      injection hj with hj
      subst hj
      simpa using hn
    · have := hr i (i + j) y x (by omega) hy hj
      simp
      omega
  rw [this, List.append_nil]
theorem below_all {sh : List Sh} {m : Int} {n : Nat} (hl : sh.length = n) (h : ∀ x ∈ sh.take n, x.mv < m) : belowM sh m = sh.take n := by
  have e : sh.take n = sh := List.take_of_length_le (by omega)
  rw [e] at h ⊢
  exact List.filter_eq_self.2 fun x hx => by simpa using h x hx
theorem below_snoc {sh : List Sh} {m : Int} {i : Nat} {x : Sh} (hx : sh[i]? = some x) : belowM (sh.take (i + 1)) m = if x.mv < m then belowM (sh.take i) m ++ [x] else belowM (sh.take i) m := by
  unfold belowM
  rw [List.take_add_one, hx, List.filter_append]
  by_cases h : x.mv < m <;> simp [h]

/-- What ahead leaves. -/
def AheadOut (w : World) (s : Nat) (st ho : List Int) (e : Ending) (w' : World) : Prop :=
  ∃ p g1 c1 g2 c2, e = .returned (.pointer (some ⟨p, 0, none⟩)) ∧ SlotsObj w' w.heap.size p g1 c1 g2 c2 s st ho ∧ Ext w w'

set_option maxRecDepth 100000 in
set_option maxHeartbeats 4000000 in
theorem ahead_any (T R H Re Ca S B : Int) (s : Nat) (hS : S = s) (hs1 : 1 ≤ s) (hs2 : s ≤ 1024) (u : Nat)
    (A1 : Option Addr) (n1 c1 : Nat) (A2 : Option Addr) (n2 c2 : Nat) (A3 : Option Addr) (n3 c3 : Nat) (A4 : Option Addr) (n4 c4 : Nat) (sh : List Sh) (m : Int) (w : World)
    (hm : Arr Sh.enc w A3 n3 sh) (hn3 : n3 ≤ 140737488355328) (hsl : ∀ x ∈ sh, 0 ≤ x.sl ∧ x.sl < s) (hri : Rising sh) :
    Calls Try.prog 89 #[(.agg #[.int .i64 T, .int .i64 R, .int .i64 H, .int .i64 Re, .int .i64 Ca, .int .i64 S, .int .i64 B]), .int .i64 u, .agg #[.slice A1 n1 c1, .slice A2 n2 c2, .slice A3 n3 c3, .slice A4 n4 c4], .int .i64 m] w
      (AheadOut w s (afterS (beginS s u) (belowM sh m)) (afterH (List.replicate s (-1)) (belowM sh m))) := by
  subst hS
  have Hm := Lib.hid hm
  have Hsl := Lib.hid hsl
  have Hri := Lib.hid hri
  have Hbegin := Lib.hid (fun w => begin_any T R H Re Ca (s : Int) B s rfl hs1 hs2 u w)
  generalize hst : afterS (beginS s u) (belowM sh m) = st'
  generalize hho : afterH (List.replicate s (-1)) (belowM sh m) = ho'
  have Hst := Lib.hid hst
  have Hho := Lib.hid hho
  clear hm hsl hri hst hho
  go_enter Try.func89, Try.ntmps89
  go_upto_region 1 with fail
  obtain ⟨w0, hw0, hC, hR, hE, hlt0⟩ := enter2 w (.cells (cfgV T R H Re Ca s B) 23) (.cells #[.slice A1 n1 c1, .slice A2 n2 c2, .slice A3 n3 c3, .slice A4 n4 c4] 48)
  rw [hw0]
  have HE := Lib.hid hE
  have Hm0 := Lib.hid (Hm.out.ext hE)
  obtain ⟨d0, d1, d2, d3, d4, d5, d6⟩ := Lat.cfg hC
  obtain ⟨r0, r1, r2, r3⟩ := Lat.run hR
  obtain ⟨k0, hk0⟩ := lat_self w0
  rw [hk0]
  clear hw0 hC hR hE hk0 hlt0
  go_wp2_with fail
  refine (Hbegin.out _).mono ?_
  rintro e w1 ⟨p, g1, q1, g2, q2, rfl, hsl, e1⟩
  have HS1 : Hid (SlotsObj w1 w0.heap.size p g1 q1 g2 q2 s (beginS s u) (List.replicate s (-1))) := ⟨hsl.blk, own_base hsl.own1 k0.ok.size, own_base hsl.own2 k0.ok.size, Nat.le_trans k0.ok.size hsl.low⟩
  obtain ⟨k1, rfl⟩ := lat_next k0 e1
  clear hsl e1
  go_wp2_with fail
  go_loopw [18] (fun s18 wr => ∃ (k : Lat w0) (i : Nat), wr = k.world ∧ i ≤ n3 ∧ s18 = .int .i64 i ∧ Hid (SlotsObj k.world w0.heap.size p g1 q1 g2 q2 s (afterS (beginS s u) (sh.take i)) (afterH (List.replicate s (-1)) (sh.take i))) ∧ Hid (∀ x ∈ sh.take i, x.mv < m)) (fun s_ _ => n3 - (intOf s_).toNat)
  case atStart => exact ⟨k1, 0, rfl, by omega, rfl, HS1, fun x hx => by simp at hx⟩
  case round =>
    clear HS1 k1 k0
    obtain ⟨k, i, rfl, hi, rfl, HS, hall⟩ := hrel
    by_cases hlt : i < n3
    · obtain ⟨ba, off, x, hAx, hb, hx, x0, x1, x2, x3, x4⟩ := Sh.at_ Hm0.out hlt
      have g1' : (i : Int) < (n3 : Int) := by omega
      have hi0 : (0 : Int) ≤ (i : Int) := by omega
      subst hAx
      go_upto_region 5 with fail
      obtain ⟨w3, hw3, hX, hE3, hlt3⟩ := enter1 k.world (.cells #[.int .i64 x.mv, .int .i64 x.th, .int .i64 x.sl, .int .i64 x.fr, .int .i64 x.to] 136)
      rw [hw3]
      clear x0 x1 x2 x3 x4
      have HX3 := Lib.hid (Ext.next k.ok hE3)
      have HS3 := Lib.hid (HS.out.ext hE3)
      obtain ⟨x0, x1, x2, x3, x4⟩ := Sh.boxed hX
      obtain ⟨k3, hk3⟩ := lat_self w3
      rw [hk3]
      generalize k.world.heap.size = px at *
      clear hw3 hX hE3 hk3 hlt3
      by_cases hmv : x.mv < m
      · have hd : decide (m ≤ x.mv) = false := decide_eq_false (by omega)
        have Hmv := Lib.hid hmv
        clear hmv
        obtain ⟨hs0, hs1'⟩ := Hsl.out x (List.mem_of_getElem? hx.out)
        obtain ⟨jj, hjj⟩ : ∃ jj : Nat, x.sl = jj := ⟨x.sl.toNat, by omega⟩
        have hjs : jj < s := by omega
        have Hjj := Lib.hid hjj
        clear hjj hs0 hs1'
        go_wp2_with fail
        refine (put_any w0.heap.size p g1 q1 g2 q2 s _ _ x jj Hjj.out hjs _ (HS3.out.ext k3.ok)).mono ?_
        rintro e w8 ⟨rfl, hT, o8⟩
        have hx8 : Ext w0 w8 := (Ext.next HX3.out k3.ok).only o8 fun q hq => by
          rcases hq with rfl | rfl
          · exact (HS3.out.own1.lt q rfl).1
          · exact (HS3.out.own2.lt q rfl).1
        obtain ⟨k9, rfl⟩ := lat_of hx8
        have HS9 : Hid (SlotsObj k9.world w0.heap.size p g1 q1 g2 q2 s (afterS (beginS s u) (sh.take (i + 1))) (afterH (List.replicate s (-1)) (sh.take (i + 1)))) := by
          have e : sh.take (i + 1) = sh.take i ++ [x] := by rw [List.take_add_one, hx.out]; rfl
          rw [e, afterS_snoc, afterH_snoc]
          exact hT
        have hall' : Hid (∀ y ∈ sh.take (i + 1), y.mv < m) := fun y hy => by
          rw [List.take_add_one, hx.out] at hy
          rcases List.mem_append.1 hy with hy | hy
          · exact hall.out y hy
          · simp at hy; subst hy; exact Hmv.out
        clear hT o8 hx8
        go_wp2_with fail
        go_roundw
        case rel => exact ⟨k9, i + 1, rfl, by omega, by go_num, HS9, hall'⟩
        case measure => simp [intOf]; omega
      · have hd : decide (m ≤ x.mv) = true := decide_eq_true (by omega)
        have hbl := below_stop Hri.out hall.out hx.out hmv
        have HSf : Hid (SlotsObj k3.world w0.heap.size p g1 q1 g2 q2 s st' ho') := by
          rw [← Hst.out, ← Hho.out, hbl]
          exact HS3.out.ext k3.ok
        clear hbl hmv
        go_wp2_with fail
        go_ret
        exact ⟨p, g1, q1, g2, q2, rfl, ⟨HSf.out.blk, own_base HSf.out.own1 HE.out.size, own_base HSf.out.own2 HE.out.size, Nat.le_trans HE.out.size HSf.out.low⟩, Ext.next HE.out (Ext.next HX3.out k3.ok)⟩
    · obtain rfl : n3 = i := by omega
      have hbl := below_all Hm.out.1 hall.out
      have HSf : Hid (SlotsObj k.world w0.heap.size p g1 q1 g2 q2 s st' ho') := by
        rw [← Hst.out, ← Hho.out, hbl]
        exact HS.out
      clear hbl
      go_wp2_with fail
      go_ret
      exact ⟨p, g1, q1, g2, q2, rfl, ⟨HSf.out.blk, own_base HSf.out.own1 HE.out.size, own_base HSf.out.own2 HE.out.size, Nat.le_trans HE.out.size HSf.out.low⟩, Ext.next HE.out k.ok⟩

/-- What the document's States leaves. -/
def RStatesOut (w : World) (s : Nat) (st ho : List Int) (e : Ending) (w' : World) : Prop :=
  ∃ g1 c1 g2 c2, e = .returned (.tuple #[.slice (some ⟨g1, 0, none⟩) s c1, .slice (some ⟨g2, 0, none⟩) s c2]) ∧ Two w' w.heap.size g1 c1 g2 c2 s st ho ∧ Ext w w'

set_option maxRecDepth 100000 in
set_option maxHeartbeats 4000000 in
theorem refStates_any (T R H Re Ca S B : Int) (s : Nat) (hS : S = s) (hs1 : 1 ≤ s) (hs2 : s ≤ 1024) (u : Nat)
    (A1 : Option Addr) (n1 c1 : Nat) (A2 : Option Addr) (n2 c2 : Nat) (A3 : Option Addr) (n3 c3 : Nat) (A4 : Option Addr) (n4 c4 : Nat) (sh : List Sh) (m : Int) (w : World)
    (hm : Arr Sh.enc w A3 n3 sh) (hn3 : n3 ≤ 140737488355328) (hsl : ∀ x ∈ sh, 0 ≤ x.sl ∧ x.sl < s) :
    Calls Try.prog 90 #[(.agg #[.int .i64 T, .int .i64 R, .int .i64 H, .int .i64 Re, .int .i64 Ca, .int .i64 S, .int .i64 B]), .int .i64 u, .agg #[.slice A1 n1 c1, .slice A2 n2 c2, .slice A3 n3 c3, .slice A4 n4 c4], .int .i64 m] w
      (RStatesOut w s (afterS (beginS s u) (belowM sh m)) (afterH (List.replicate s (-1)) (belowM sh m))) := by
  subst hS
  have Hm := Lib.hid hm
  have Hsl := Lib.hid hsl
  have Hbegin := Lib.hid (fun w => refBegin_any T R H Re Ca (s : Int) B s rfl hs1 hs2 u w)
  generalize hst : afterS (beginS s u) (belowM sh m) = st'
  generalize hho : afterH (List.replicate s (-1)) (belowM sh m) = ho'
  have Hst := Lib.hid hst
  have Hho := Lib.hid hho
  clear hm hsl hst hho
  go_enter Try.func90, Try.ntmps90
  go_upto_region 1 with fail
  obtain ⟨w0, hw0, hC, hR, hE, hlt0⟩ := enter2 w (.cells (cfgV T R H Re Ca s B) 23) (.cells #[.slice A1 n1 c1, .slice A2 n2 c2, .slice A3 n3 c3, .slice A4 n4 c4] 48)
  rw [hw0]
  have HE := Lib.hid hE
  have HR := Lib.hid hR
  have Hm0 := Lib.hid (Hm.out.ext hE)
  obtain ⟨d0, d1, d2, d3, d4, d5, d6⟩ := Lat.cfg hC
  obtain ⟨r0, r1, r2, r3⟩ := Lat.run hR
  obtain ⟨k0, hk0⟩ := lat_self w0
  rw [hk0]
  clear hw0 hC hR hE hk0 hlt0
  go_wp2_with fail
  refine (Hbegin.out _).mono ?_
  rintro e w1 ⟨g1, q1, g2, q2, rfl, htw, e1⟩
  have HT1 : Hid (Two w1 w0.heap.size g1 q1 g2 q2 s (beginS s u) (List.replicate s (-1))) := ⟨own_base htw.own1 k0.ok.size, own_base htw.own2 k0.ok.size⟩
  obtain ⟨k1, rfl⟩ := lat_next k0 e1
  clear htw e1
  go_wp2_with fail
  go_loopw [12] (fun s12 wr => ∃ (k : Lat w0) (i : Nat), wr = k.world ∧ i ≤ n3 ∧ s12 = .int .i64 i ∧ Hid (Two k.world w0.heap.size g1 q1 g2 q2 s (afterS (beginS s u) (belowM (sh.take i) m)) (afterH (List.replicate s (-1)) (belowM (sh.take i) m)))) (fun s_ _ => n3 - (intOf s_).toNat)
  case atStart => exact ⟨k1, 0, rfl, by omega, rfl, HT1⟩
  case round =>
    clear HT1 k1 k0
    obtain ⟨k, i, rfl, hi, rfl, HTw⟩ := hrel
    by_cases hlt : i < n3
    · obtain ⟨ba, off, x, hAx, hb, hx, x0, x1, x2, x3, x4⟩ := Sh.at_ Hm0.out hlt
      have g1' : (i : Int) < (n3 : Int) := by omega
      have hi0 : (0 : Int) ≤ (i : Int) := by omega
      subst hAx
      have hbs := below_snoc (m := m) hx.out
      by_cases hmv : x.mv < m
      · have hd : decide (x.mv < m) = true := decide_eq_true hmv
        rw [if_pos hmv] at hbs
        have Hbs := Lib.hid hbs
        clear hmv hbs
        obtain ⟨hs0, hs1'⟩ := Hsl.out x (List.mem_of_getElem? hx.out)
        obtain ⟨jj, hjj⟩ : ∃ jj : Nat, x.sl = jj := ⟨x.sl.toNat, by omega⟩
        have hjs : jj < s := by omega
        have Hjj := Lib.hid hjj
        clear hjj hs0 hs1'
        go_wp2_with fail
        refine (refPut_any w0.heap.size g1 q1 g2 q2 s _ _ x jj Hjj.out hjs _ HTw.out).mono ?_
        rintro e w8 ⟨rfl, hT, o8⟩
        have hx8 : Ext w0 w8 := k.ok.only o8 fun q hq => by
          rcases hq with rfl | rfl
          · exact (HTw.out.own1.lt q rfl).1
          · exact (HTw.out.own2.lt q rfl).1
        obtain ⟨k9, rfl⟩ := lat_of hx8
        have HT9 : Hid (Two k9.world w0.heap.size g1 q1 g2 q2 s (afterS (beginS s u) (belowM (sh.take (i + 1)) m)) (afterH (List.replicate s (-1)) (belowM (sh.take (i + 1)) m))) := by
          rw [Hbs.out, afterS_snoc, afterH_snoc]
          exact hT
        clear hT o8 hx8
        go_wp2_with fail
        go_roundw
        case rel => exact ⟨k9, i + 1, rfl, by omega, by go_num, HT9⟩
        case measure => simp [intOf]; omega
      · have hd : decide (x.mv < m) = false := decide_eq_false hmv
        rw [if_neg hmv] at hbs
        have HT9 : Hid (Two k.world w0.heap.size g1 q1 g2 q2 s (afterS (beginS s u) (belowM (sh.take (i + 1)) m)) (afterH (List.replicate s (-1)) (belowM (sh.take (i + 1)) m))) := by
          rw [hbs]
          exact HTw.out
        clear hmv hbs
        go_wp2_with fail
        go_roundw
        case rel => exact ⟨k, i + 1, rfl, by omega, by go_num, HT9⟩
        case measure => simp [intOf]; omega
    · obtain rfl : n3 = i := by omega
      have HTf : Hid (Two k.world w0.heap.size g1 q1 g2 q2 s st' ho') := by
        have h := HTw.out
        rw [List.take_of_length_le (by rw [Hm.out.1]; exact Nat.le_refl _)] at h
        rw [← Hst.out, ← Hho.out]
        exact h
      go_wp2_with fail
      go_ret2
      exact ⟨g1, q1, g2, q2, rfl, ⟨own_base HTf.out.own1 HE.out.size, own_base HTf.out.own2 HE.out.size⟩, Ext.next HE.out k.ok⟩

theorem shifts_all {l : List Cl} {tr : List Ac} {s : Nat} : ∀ (sh : List Sh) (p q : Int) (st : List Int), ShiftsF l tr s p q st sh → (∀ x ∈ sh, p ≤ x.mv ∧ 0 ≤ x.sl ∧ x.sl < s) ∧ Rising sh
  | [], _, _, _, _ => ⟨fun x hx => by simp at hx, fun i j x y _ hx => by simp at hx⟩
  | x :: sh, p, q, st, h => by
    obtain ⟨h1, _, h3, _, h5⟩ := h
    obtain ⟨a1, a2⟩ := shifts_all sh _ _ _ h5
    refine ⟨fun y hy => ?_, fun i j y z hij hy hz => ?_⟩
    · rcases List.mem_cons.1 hy with rfl | hy
      · exact ⟨h1.1, h3.1, h3.2.1⟩
      · have := a1 y hy
        have := h1.1
        exact ⟨by omega, by omega, by omega⟩
    · cases j with
      | zero => omega
      | succ j =>
        have hz' : sh[j]? = some z := by simpa using hz
        cases i with
        | zero =>
          simp at hy
          subst hy
          exact (a1 z (List.mem_of_getElem? hz')).1
        | succ i => exact a2 i j y z (by omega) (by simpa using hy) hz'
theorem look_zero {T R H Re Ca S B used : Int} {cs : List Cl} {tr : List Ac} {sh : List Sh} {rw_ : List Int} (h : lookF T R H Re Ca S B used cs tr sh rw_ = 0) : ∃ s u : Nat, S = s ∧ 1 ≤ s ∧ s ≤ 1024 ∧ used = u ∧ MayOK T R H Re Ca S B used cs tr sh rw_ ∧ (∀ x ∈ sh, 0 ≤ x.sl ∧ x.sl < s) ∧ Rising sh := by
  unfold lookF at h
  split at h
  · rename_i hok
    split at h
    · rename_i hu
      split at h
      · rename_i hm
        have hb : 1 ≤ S ∧ S ≤ 1024 := by unfold Okay at hok; omega
        have hsh := shifts_all sh _ _ _ hm.2.2.2.2
        refine ⟨S.toNat, used.toNat, by omega, by omega, by omega, by omega, hm, fun x hx => ?_, hsh.2⟩
        have := hsh.1 x hx
        exact ⟨this.2.1, this.2.2⟩
      · cases h
    · cases h
  · cases h

def StOut (w : World) (er S used mv : Int) (sh : List Sh) (e : Ending) (w' : World) : Prop :=
  Ext w w' ∧ ((er ≠ 0 ∧ e = .returned (.tuple #[.slice none 0 0, .slice none 0 0, .int .i64 er])) ∨ (er = 0 ∧ mv < 0 ∧ e = .returned (.tuple #[.slice none 0 0, .slice none 0 0, .int .i64 2])) ∨
    (er = 0 ∧ 0 ≤ mv ∧ ∃ g1 c1 g2 c2, e = .returned (.tuple #[.slice (some ⟨g1, 0, none⟩) S.toNat c1, .slice (some ⟨g2, 0, none⟩) S.toNat c2, .int .i64 0]) ∧ Two w' w.heap.size g1 c1 g2 c2 S.toNat (afterS (beginS S.toNat used.toNat) (belowM sh mv)) (afterH (List.replicate S.toNat (-1)) (belowM sh mv))))

set_option maxRecDepth 100000 in
set_option maxHeartbeats 4000000 in
theorem states_any (hM : MaySays) (T R H Re Ca S B used mv : Int) (A1 : Option Addr) (n1 c1 : Nat) (A2 : Option Addr) (n2 c2 : Nat) (A3 : Option Addr) (n3 c3 : Nat) (A4 : Option Addr) (n4 c4 : Nat) (cs : List Cl) (tr : List Ac) (sh : List Sh) (rw_ : List Int) (w : World)
    (hm : RunMem w A1 n1 A2 n2 A3 n3 A4 n4 cs tr sh rw_) (b1 : n1 * 72 ≤ 140737488355328) :
    Calls Try.prog 39 #[(.agg #[.int .i64 T, .int .i64 R, .int .i64 H, .int .i64 Re, .int .i64 Ca, .int .i64 S, .int .i64 B]), .int .i64 used, .agg #[.slice A1 n1 c1, .slice A2 n2 c2, .slice A3 n3 c3, .slice A4 n4 c4], .int .i64 mv] w (StOut w (lookF T R H Re Ca S B used cs tr sh rw_) S used mv sh) := by
  have Hm := Lib.hid hm
  clear hm
  generalize her : lookF T R H Re Ca S B used cs tr sh rw_ = er
  have HER := Lib.hid her
  clear her
  go_enter Try.func39, Try.ntmps39
  go_upto_region 1 with fail
  obtain ⟨w0, hw0, hC, hR, hE, hlt0⟩ := enter2 w (.cells (cfgV T R H Re Ca S B) 23) (.cells #[.slice A1 n1 c1, .slice A2 n2 c2, .slice A3 n3 c3, .slice A4 n4 c4] 48)
  rw [hw0]
  have HE := Lib.hid hE
  have Hm0 := Lib.hid (Hm.out.ext hE)
  obtain ⟨d0, d1, d2, d3, d4, d5, d6⟩ := Lat.cfg hC
  obtain ⟨r0, r1, r2, r3⟩ := Lat.run hR
  obtain ⟨k0, hk0⟩ := lat_self w0
  rw [hk0]
  clear hw0 hC hR hE hk0 hlt0
  go_wp2_with fail
  refine (cRefused_any hM T R H Re Ca S B used A1 n1 c1 A2 n2 c2 A3 n3 c3 A4 n4 c4 cs tr sh rw_ _ (Hm0.out.ext k0.ok) b1).mono ?_
  rintro e w1 ⟨rfl, e1⟩
  obtain ⟨k1, rfl⟩ := lat_next k0 e1
  rw [HER.out]
  clear e1
  by_cases he : er = 0
  · subst he
    obtain ⟨s, u, rfl, hs1, hs2, rfl, _, hsl, hri⟩ := look_zero HER.out
    by_cases hmv : mv < 0
    · have Hmv := Lib.hid hmv
      have hd : decide (mv < 0) = true := decide_eq_true hmv
      clear hmv
      go_wp2_with fail
      go_ret3
      exact ⟨Ext.next HE.out k1.ok, .inr (.inl ⟨rfl, Hmv.out, rfl⟩)⟩
    · have Hmv := Lib.hid (Int.not_lt.1 hmv)
      have hd : decide (mv < 0) = false := decide_eq_false hmv
      clear hmv
      go_wp2_with fail
      refine (ahead_any T R H Re Ca s B s rfl hs1 hs2 u A1 n1 c1 A2 n2 c2 A3 n3 c3 A4 n4 c4 sh mv _ (Hm0.out.ext k1.ok).shifts Hm.out.big3 hsl hri).mono ?_
      rintro e w2 ⟨p, g1, q1, g2, q2, rfl, hS, e2⟩
      have HX2 := Lib.hid (Ext.next (Ext.next HE.out k1.ok) e2)
      have HS2 := Lib.hid hS
      obtain ⟨y0, y1⟩ := hS.lat
      have hbase : Hid (w.heap.size ≤ k1.world.heap.size) := Nat.le_trans HE.out.size k1.ok.size
      clear hS e2
      obtain ⟨k2, hk2⟩ := lat_self w2
      rw [hk2]
      clear hk2
      go_upto_region 7 with fail
      refine wp_region_cls (Ext w2) (Ext.drew1 k2.ok) (by kernel_rfl) (by kernel_rfl) ?_
      repeat (go_big_quiet_step (fail))
      refine wpQuiet_nil ?_
      rintro _ ⟨k3, rfl⟩
      go_wp2_with fail
      go_ret3
      refine ⟨Ext.next HX2.out k3.ok, .inr (.inr ⟨rfl, Hmv.out, g1, q1, g2, q2, by simp, ?_⟩)⟩
      have h := HS2.out.ext k3.ok
      simp only [Int.toNat_natCast]
      exact ⟨own_base h.own1 hbase.out, own_base h.own2 hbase.out⟩
  · have hb : (er != 0) = true := by simpa using he
    have Hne := Lib.hid he
    clear he
    go_wp2_with fail
    go_ret3
    exact ⟨Ext.next HE.out k1.ok, .inl ⟨Hne.out, rfl⟩⟩

set_option maxHeartbeats 4000000 in
theorem ref13States_any (T R H Re Ca S B : Int) (s : Nat) (hS : S = s) (hs1 : 1 ≤ s) (hs2 : s ≤ 1024) (u : Nat)
    (A1 : Option Addr) (n1 c1 : Nat) (A2 : Option Addr) (n2 c2 : Nat) (A3 : Option Addr) (n3 c3 : Nat) (A4 : Option Addr) (n4 c4 : Nat) (sh : List Sh) (m : Int) (w : World)
    (hm : Arr Sh.enc w A3 n3 sh) (hn3 : n3 ≤ 140737488355328) (hsl : ∀ x ∈ sh, 0 ≤ x.sl ∧ x.sl < s) :
    Calls Try.prog 40 #[(.agg #[.int .i64 T, .int .i64 R, .int .i64 H, .int .i64 Re, .int .i64 Ca, .int .i64 S, .int .i64 B]), .int .i64 u, .agg #[.slice A1 n1 c1, .slice A2 n2 c2, .slice A3 n3 c3, .slice A4 n4 c4], .int .i64 m] w
      (RStatesOut w s (afterS (beginS s u) (belowM sh m)) (afterH (List.replicate s (-1)) (belowM sh m))) := by
  have Hm := Lib.hid hm
  have Hsl := Lib.hid hsl
  clear hm hsl
  subst hS
  go_enter Try.func40, Try.ntmps40
  go_upto_region 1 with fail
  obtain ⟨w0, hw0, hC, hR, hE, hlt0⟩ := enter2 w (.cells (cfgV T R H Re Ca s B) 23) (.cells #[.slice A1 n1 c1, .slice A2 n2 c2, .slice A3 n3 c3, .slice A4 n4 c4] 48)
  rw [hw0]
  have HE := Lib.hid hE
  obtain ⟨d0, d1, d2, d3, d4, d5, d6⟩ := Lat.cfg hC
  obtain ⟨r0, r1, r2, r3⟩ := Lat.run hR
  obtain ⟨k0, hk0⟩ := lat_self w0
  rw [hk0]
  clear hw0 hC hR hE hk0 hlt0
  go_wp2_with fail
  refine (refStates_any T R H Re Ca s B s rfl hs1 hs2 u A1 n1 c1 A2 n2 c2 A3 n3 c3 A4 n4 c4 sh m _ (Hm.out.ext (Ext.next HE.out k0.ok)) hn3 Hsl.out).mono ?_
  rintro e w1 ⟨g1, q1, g2, q2, rfl, hT, e1⟩
  have HX := Lib.hid (Ext.next (Ext.next HE.out k0.ok) e1)
  have HT : Hid (Two w1 w.heap.size g1 q1 g2 q2 s _ _) := ⟨own_base hT.own1 (Nat.le_trans HE.out.size k0.ok.size), own_base hT.own2 (Nat.le_trans HE.out.size k0.ok.size)⟩
  clear hT e1
  go_wp2_with fail
  go_ret2
  exact ⟨g1, q1, g2, q2, rfl, HT.out, HX.out⟩

set_option maxRecDepth 100000 in
set_option maxHeartbeats 8000000 in
theorem statesLaw_any (hM : MaySays) (hA : AwakeSays) (T R H Re Ca S B used mv : Int) (A1 : Option Addr) (n1 c1 : Nat) (A2 : Option Addr) (n2 c2 : Nat) (A3 : Option Addr) (n3 c3 : Nat) (A4 : Option Addr) (n4 c4 : Nat) (cs : List Cl) (tr : List Ac) (sh : List Sh) (rw_ : List Int) (w : World)
    (hm : RunMem w A1 n1 A2 n2 A3 n3 A4 n4 cs tr sh rw_) (b1 : n1 * 72 ≤ 140737488355328) :
    Calls Try.prog 9 #[.agg #[.int .i64 T, .int .i64 R, .int .i64 H, .int .i64 Re, .int .i64 Ca, .int .i64 S, .int .i64 B, .int .i64 used, .slice A1 n1 c1, .slice A2 n2 c2, .slice A3 n3 c3, .slice A4 n4 c4, .int .i64 mv]] w fun e w' => e = .returned (.bool true) ∧ Ext w w' := by
  have Hm := Lib.hid hm
  clear hm
  generalize her : lookF T R H Re Ca S B used cs tr sh rw_ = er
  have HER := Lib.hid her
  have Hst := Lib.hid (fun w hm => states_any hM T R H Re Ca S B used mv A1 n1 c1 A2 n2 c2 A3 n3 c3 A4 n4 c4 cs tr sh rw_ w hm b1)
  have Hlk := Lib.hid (fun w hm => ref13Look_any T R H Re Ca S B used A1 n1 c1 A2 n2 c2 A3 n3 c3 A4 n4 c4 cs tr sh rw_ w hm)
  rw [her] at Hst Hlk
  clear her
  go_enter Try.func9, Try.ntmps9
  go_upto_region 1 with fail
  obtain ⟨w0, hw0, hC, hE, hlt0⟩ := enter1 w (.cells #[.int .i64 T, .int .i64 R, .int .i64 H, .int .i64 Re, .int .i64 Ca, .int .i64 S, .int .i64 B, .int .i64 used, .slice A1 n1 c1, .slice A2 n2 c2, .slice A3 n3 c3, .slice A4 n4 c4, .int .i64 mv] 50)
  rw [hw0]
  have HE := Lib.hid hE
  have Hm0 := Lib.hid (Hm.out.ext hE)
  obtain ⟨d0, d1, d2, d3, d4, d5, d6, d7, d8, d9, d10, d11, d12⟩ := Lat.case_ hC
  obtain ⟨k0, hk0⟩ := lat_self w0
  rw [hk0]
  clear hw0 hC hE hk0 hlt0
  go_wp2_with fail
  refine (Hst.out _ (Hm0.out.ext k0.ok)).mono ?_
  rintro e w1 ⟨e1, ⟨hne, rfl⟩ | ⟨rfl, hmv, rfl⟩ | ⟨rfl, hmv, g1, q1, g2, q2, rfl, hT⟩⟩
  case' inl =>
    have hb0 : (er == 0) = false := beq_eq_false_iff_ne.2 hne
    have hb1 : (er != 0) = true := by simpa using hne
    have hbb : (er == er) = true := by simp
    clear hne
  case' inr.inl =>
    have hd : decide (mv < 0) = true := decide_eq_true hmv
    clear hmv
  case inr.inr =>
    obtain ⟨s, u, rfl, hs1, hs2, rfl, _, hsl, hri⟩ := look_zero HER.out
    simp only [Int.toNat_natCast] at hT
    simp only [Int.toNat_natCast]
    obtain ⟨k1, rfl⟩ := lat_next k0 e1
    have HT := Lib.hid hT
    have hd : decide (mv < 0) = false := decide_eq_false (by omega)
    clear e1 hT hmv
    go_wp2_with fail
    refine (hA _).mono ?_
    rintro e w2 ⟨rfl, e2⟩
    have HT2 := Lib.hid (HT.out.ext e2)
    obtain ⟨k2, rfl⟩ := lat_next k1 e2
    clear e2
    go_wp2_with fail
    refine (Hlk.out _ (Hm0.out.ext k2.ok)).mono ?_
    rintro e w3 ⟨rfl, e3⟩
    have HT3 := Lib.hid (HT2.out.ext e3)
    obtain ⟨k3, rfl⟩ := lat_next k2 e3
    clear e3
    go_wp2_with fail
    refine (ref13States_any T R H Re Ca s B s rfl hs1 hs2 u A1 n1 c1 A2 n2 c2 A3 n3 c3 A4 n4 c4 sh mv _ (Hm0.out.ext k3.ok).shifts Hm.out.big3 hsl).mono ?_
    rintro e w4 ⟨g3, q3, g4, q4, rfl, hT4, e4⟩
    have HT4 := Lib.hid (HT3.out.ext e4)
    have HR4 := Lib.hid hT4
    have HX4 := Lib.hid (Ext.next k3.ok e4)
    clear e4 hT4 d0 d1 d2 d3 d4 d5 d6 d7 d8 d9 d10 d11 d12 hsl hri
    generalize afterS (beginS s u) (belowM sh mv) = st at HT4 HR4
    generalize afterH (List.replicate s (-1)) (belowM sh mv) = ho at HT4 HR4
    obtain ⟨k4, hk4⟩ := lat_self w4
    rw [hk4]
    go_upto_region 13 with fail
    go_loopw [9] (fun s9 wr => ∃ (k : Lat w4) (i : Nat), wr = k.world ∧ i ≤ s ∧ s9 = .int .i64 i) (fun s_ _ => s - (intOf s_).toNat)
    case atStart => exact ⟨k4, 0, rfl, by omega, rfl⟩
    case round =>
      obtain ⟨k, i, rfl, hi, rfl⟩ := hrel
      by_cases hlt : i < s
      · have z1 : (i : Int) < (s : Int) := by omega
        have z0 : (0 : Int) ≤ (i : Int) := by omega
        obtain ⟨x, hx, x1⟩ := row_lat HT4.out.own1 hlt
        obtain ⟨x', hx', x2⟩ := row_lat HR4.out.own1 hlt
        obtain ⟨y, hy, y1⟩ := row_lat HT4.out.own2 hlt
        obtain ⟨y', hy', y2⟩ := row_lat HR4.out.own2 hlt
        obtain rfl : x = x' := by rw [hx] at hx'; injection hx'
        obtain rfl : y = y' := by rw [hy] at hy'; injection hy'
        have n1 : (x != x) = false := by simp
        have n2 : (y != y) = false := by simp
        clear hx hx' hy hy'
        go_upto_region 15 with fail
        refine wp_region_cls (Ext w4) (Ext.drew1 k.ok) (by kernel_rfl) (by kernel_rfl) ?_
        repeat (go_big_quiet_step (fail))
        refine wpQuiet_nil ?_
        rintro _ ⟨k6, rfl⟩
        go_wp2_with fail
        go_roundw
        case rel => exact ⟨k6, i + 1, rfl, by omega, by go_num⟩
        case measure => simp [intOf]; omega
      · obtain rfl : s = i := by omega
        go_wp2_with fail
        go_ret
        exact ⟨rfl, Ext.next HE.out (Ext.next HX4.out k.ok)⟩
  all_goals
    obtain ⟨k1, rfl⟩ := lat_next k0 e1
    clear e1
    go_wp2_with fail
    refine (hA _).mono ?_
    rintro e w2 ⟨rfl, e2⟩
    obtain ⟨k2, rfl⟩ := lat_next k1 e2
    clear e2
    go_wp2_with fail
    refine (Hlk.out _ (Hm0.out.ext k2.ok)).mono ?_
    rintro e w3 ⟨rfl, e3⟩
    obtain ⟨k3, rfl⟩ := lat_next k2 e3
    clear e3
    go_wp2_with fail
    go_ret
    exact ⟨rfl, Ext.next HE.out k3.ok⟩

set_option maxRecDepth 100000 in
theorem censusStates_lifted (hM : MaySays) (hA : AwakeSays) (os : Os) (started : os.Started) (H : Type) (enc : TypeId × Value → H) :
    ReturnsInHanded {} Try.checked os 9 .any (Rows.censusStatesSpec.pre6 enc Try.prog Try.f9 [] false) (Rows.censusStatesSpec.post enc Try.prog Try.f9 false true false false) := by
  refine lawWrap (C := Try.checked) (tb := 4) own_ started (by kernel_rfl) Try.func9
    (ChangeSpec.witness6 (enc := enc) (C := Try.checked) false ⟨#[], #[.agg #[.int .i64 0, .int .i64 0, .int .i64 0, .int .i64 0, .int .i64 0, .int .i64 0, .int .i64 0, .int .i64 0, .slice none 0 0, .slice none 0 0, .slice none 0 0, .slice none 0 0, .int .i64 0]], []⟩ 8 (by kernel_rfl) (by kernel_rfl) (by kernel_rfl) (by kernel_rfl))
    rfl Try.underlying4 rfl ?_ laidOut_ (by kernel_rfl) ?_
  · intro ds hds
    match ds, hds with
    | [d1], _ => exact ⟨rfl, rfl, rfl⟩
  · intro W base args ds ps hval0 hA0 hlt hsz
    have hval : ∀ (j : Nat) t v, Try.f9.params[j]? = some t → args[j]? = some v → Value.okWide Try.prog W .any base t v := hval0
    have hArgs : DataW.TrodAll enc Try.prog W 0 (fun _ => true) true Try.f9.params.toList args.toList ds ps := hA0
    rw [Try.params9] at hArgs hval
    obtain ⟨v0, d0, rfl, rfl, h0⟩ := trodAll_one hArgs
    obtain ⟨T, R, H', Re, Ca, S, B, used, mv, A1, n1, c1, A2, n2, c2, A3, n3, c3, A4, n4, c4, cs, tr, sh, rw_, rfl, hm, b1, b2, b3, b4⟩ := openCase (hval 0 50 v0 rfl rfl) h0 (by rw [Try.params9] at hsz; exact hsz)
    exact statesLaw_any hM hA T R H' Re Ca S B used mv A1 n1 c1 A2 n2 c2 A3 n3 c3 A4 n4 c4 cs tr sh rw_ W hm (by omega)

theorem censusStates_of (hM : MaySays) (hA : AwakeSays) : Rows.CensusStatesSaid :=
  OpenClaim.holds_of_wide 9 Try.f9 rfl rfl rfl rfl rfl rfl rfl ⟨rfl, rfl, rfl, rfl, rfl⟩ rfl rfl rfl rfl rfl (by kernel_rfl) Try.func9 (by kernel_rfl)
    (of_decide_eq_true (by kernel_rfl)) (by unfold Func.isWrapper; first | (rw [if_pos (by decide +kernel)]; kernel_rfl) | (rw [if_neg (by decide +kernel)]; exact ⟨rfl, rfl⟩))
    (fun os started H enc _ => censusStates_lifted hM hA os started H enc)

end Go.Proofs.Ytfbacopjookplaa
