/- The walk of the monitors over a run of no access and one change of state, from Free to Linked. -/
import Derived.Test.YtfbacopjookplaaSlots
import Derived.Test.YtfbacopjookplaaTrace
import Derived.Test.YtfbacopjookplaaAwkA
import Derived.Test.YtfbacopjookplaaPlace
import Derived.Deep.RegionWith
namespace Go.Proofs.Ytfbacopjookplaa
open Go.RowKit

/-- What Clone leaves: a row of its own. -/
def CloneOut (w : World) (e : TypeId) (n : Nat) (us : List Value) (en : Ending) (w' : World) : Prop := ∃ v, en = .returned v ∧ w'.ownsRow w.heap.size e 1 v n us ∧ Ext w w'

set_option maxRecDepth 100000 in
set_option maxHeartbeats 2000000 in
theorem cloneStates_any (g n c : Nat) (st : List Int) (w : World) (hl : st.length = n) (hr : Rd w (some ⟨g, 0, none⟩) (st.map (Value.int .i64))) (hn : n ≤ 1024) :
    Calls Try.prog 120 #[.slice (some ⟨g, 0, none⟩) n c] w (CloneOut w 76 n (st.map (Value.int .i64))) := by
  obtain ⟨w0, hw0, hB, hE, _⟩ := enter1 w (.cells #[] 76)
  have HE := Lib.hid hE
  have hR0 := Lib.hid (hr.ext hE)
  have hown0 : Hid (w0.ownsRow w.heap.size 76 1 (.slice (some ⟨w.heap.size, 0, none⟩) 0 0) 0 []) :=
    ⟨rfl, .inr ⟨w.heap.size, 0, #[], rfl, Nat.le_refl _, hB, Nat.le_refl _, by unfold maxLen; omega, rfl, rfl⟩⟩
  have HL := Lib.hid hl
  have hnil : ∀ W : World, (binOp BinOp.eql 71 (.slice (some ⟨g, 0, none⟩) n c) (.slice none 0 0)).run Try.prog W = .ok (.bool false) W := fun W => by kernel_rfl
  clear hl hr hE hB
  go_enter Try.func120, Try.ntmps120
  go_wp2_with (at_builtin; refine wpList_appendR w0 rfl (.tmp 5) (.tmp 6) 71 rfl w.heap.size 76 1 8 elemState Try.underlying71 (.slice (some ⟨w.heap.size, 0, none⟩) 0 0) 0 [] (by simp [Act.eval]) hown0.out (some ⟨g, 0, none⟩) n c (st.map (Value.int .i64)) (by simp [Act.eval]) (by rw [List.length_map, HL.out, Nat.mul_one]) hR0.out (one_ints st) (by omega) HE.out.size ?_; intro v' w' hown hgrow hat; rw [Nat.zero_add, List.nil_append] at hown)
  have HEE := HE.out.only (Only.of_grown hgrow) fun q hq => by
    have h2 : some q = some w.heap.size := hq
    injection h2 with h2
    omega
  go_ret
  exact ⟨v', rfl, hown, HEE⟩

set_option maxRecDepth 100000 in
set_option maxHeartbeats 2000000 in
theorem cloneInts_any (g n c : Nat) (st : List Int) (w : World) (hl : st.length = n) (hr : Rd w (some ⟨g, 0, none⟩) (st.map (Value.int .i64))) (hn : n ≤ 1024) :
    Calls Try.prog 121 #[.slice (some ⟨g, 0, none⟩) n c] w (CloneOut w 3 n (st.map (Value.int .i64))) := by
  obtain ⟨w0, hw0, hB, hE, _⟩ := enter1 w (.cells #[] 3)
  have HE := Lib.hid hE
  have hR0 := Lib.hid (hr.ext hE)
  have hown0 : Hid (w0.ownsRow w.heap.size 3 1 (.slice (some ⟨w.heap.size, 0, none⟩) 0 0) 0 []) :=
    ⟨rfl, .inr ⟨w.heap.size, 0, #[], rfl, Nat.le_refl _, hB, Nat.le_refl _, by unfold maxLen; omega, rfl, rfl⟩⟩
  have HL := Lib.hid hl
  have hnil : ∀ W : World, (binOp BinOp.eql 26 (.slice (some ⟨g, 0, none⟩) n c) (.slice none 0 0)).run Try.prog W = .ok (.bool false) W := fun W => by kernel_rfl
  clear hl hr hE hB
  go_enter Try.func121, Try.ntmps121
  go_wp2_with (at_builtin; refine wpList_appendR w0 rfl (.tmp 5) (.tmp 6) 26 rfl w.heap.size 3 1 8 elemInt' Try.underlying26 (.slice (some ⟨w.heap.size, 0, none⟩) 0 0) 0 [] (by simp [Act.eval]) hown0.out (some ⟨g, 0, none⟩) n c (st.map (Value.int .i64)) (by simp [Act.eval]) (by rw [List.length_map, HL.out, Nat.mul_one]) hR0.out (one_ints st) (by omega) HE.out.size ?_; intro v' w' hown hgrow hat; rw [Nat.zero_add, List.nil_append] at hown)
  have HEE := HE.out.only (Only.of_grown hgrow) fun q hq => by
    have h2 : some q = some w.heap.size := hq
    injection h2 with h2
    omega
  go_ret
  exact ⟨v', rfl, hown, HEE⟩

@[go_sem] theorem run_store_funcv {P : Program} (w : World) (a : Addr) (m : Mode) (f : Fn) (x y : Array Value) : (store a (.func f x y) m).run P w = stored P w a (.func f x y) m := run_store P w a _ m rfl
/-- What look leaves. -/
def LookOut (w : World) (e : Ending) (w' : World) : Prop :=
  ∃ b fr pk gf cf, e = .returned (.pointer (some ⟨b, 0, none⟩)) ∧ WObj w' b fr pk ∧ Told w' w.heap.size gf cf fr ∧ Ext w w'
def frA (p : Nat) (a : Int) (v : Value) : List Value := [.int .i64 1, .int .i64 1, .int .i64 3, .int .i64 1, .int .i64 0, .int .i64 2, .int .i64 1, .pointer (some ⟨p, 0, none⟩), .pointer none, v, .int .i64 a, .slice none 0 0]
def pk0 : List Int := [0, 0, 0, 0, 0, 0, 0, 0, 0, 0, 0, 0, 0]
theorem elemHold : Elem Try.prog 182 2 16 := Elem.of (z := .agg #[.int .i64 0, .bool false]) (by kernel_rfl) (by simp [Value.cells]) (by omega) (by omega)

/-- Behind the copies of the slots. -/
theorem then_meet {w12 wB : World} {B b p g1 c1 g2 c2 gh ch h1 e1 h2 e2 : Nat} {fr : List Value} {pk st ho : List Int} (h : Awk w12 B b p g1 c1 g2 c2 gh ch fr pk st ho) (e : Ext w12 wB) (o1 : wB.ownsRow w12.heap.size 76 1 (.slice (some ⟨h1, 0, none⟩) 2 e1) 2 [.int .i64 0, .int .i64 0])
    (o2 : wB.ownsRow w12.heap.size 3 1 (.slice (some ⟨h2, 0, none⟩) 2 e2) 2 [.int .i64 (-1), .int .i64 (-1)]) :
    Awk ((wB.alloc (.cells #[.slice (some ⟨h1, 0, none⟩) 2 e1, .slice (some ⟨h2, 0, none⟩) 2 e2] 139)).setCell ⟨b, 8, none⟩ (.pointer (some ⟨wB.heap.size, 0, none⟩))) B b p g1 c1 g2 c2 gh ch (fr.set 8 (.pointer (some ⟨wB.heap.size, 0, none⟩))) pk st ho ∧
      SlotsObj ((wB.alloc (.cells #[.slice (some ⟨h1, 0, none⟩) 2 e1, .slice (some ⟨h2, 0, none⟩) 2 e2] 139)).setCell ⟨b, 8, none⟩ (.pointer (some ⟨wB.heap.size, 0, none⟩))) w12.heap.size wB.heap.size h1 e1 h2 e2 2 [0, 0] [-1, -1] ∧
      Only (fun q => q = b) w12 ((wB.alloc (.cells #[.slice (some ⟨h1, 0, none⟩) 2 e1, .slice (some ⟨h2, 0, none⟩) 2 e2] 139)).setCell ⟨b, 8, none⟩ (.pointer (some ⟨wB.heap.size, 0, none⟩))) := by
  have ea := (Ext.rfl' wB).alloc1 (.cells #[.slice (some ⟨h1, 0, none⟩) 2 e1, .slice (some ⟨h2, 0, none⟩) 2 e2] 139)
  have hA := h.ext (Ext.next e ea)
  obtain ⟨hw, o⟩ := hA.wat.set_front 8 (by omega) (.pointer (some ⟨wB.heap.size, 0, none⟩))
  have hl := h.wat.len1
  have hb := blk_lt h.wat.blk
  have hsz := e.size
  have hS : SlotsObj (wB.alloc (.cells #[.slice (some ⟨h1, 0, none⟩) 2 e1, .slice (some ⟨h2, 0, none⟩) 2 e2] 139)) w12.heap.size wB.heap.size h1 e1 h2 e2 2 [0, 0] [-1, -1] := ⟨heap_alloc_new wB _, own_ext o1 ea, own_ext o2 ea, hsz⟩
  have l1 := (o1.lt h1 rfl).1
  have l2 := (o2.lt h2 rfl).1
  exact ⟨hA.watch hw o (by rw [List.getElem?_set_ne (by omega)]) (by rw [List.getElem?_set_ne (by omega)]), hS.only o (by omega) (by omega) (by omega), (Only.of_ext (S := fun q => q = b) (Ext.next e ea)).trans o fun _ _ hq => hq⟩
theorem Awk.lts {w : World} {B b p g1 c1 g2 c2 gh ch : Nat} {fr : List Value} {pk st ho : List Int} (h : Awk w B b p g1 c1 g2 c2 gh ch fr pk st ho) : b < w.heap.size ∧ p < w.heap.size ∧ g1 < w.heap.size ∧ g2 < w.heap.size ∧ gh < w.heap.size :=
  ⟨blk_lt h.wat.blk, blk_lt h.slo.blk, (h.slo.own1.lt g1 rfl).2, (h.slo.own2.lt g2 rfl).2, (h.hol.lt gh rfl).2⟩
theorem Awk.only {w w' : World} {B b p g1 c1 g2 c2 gh ch : Nat} {fr : List Value} {pk st ho : List Int} {S : Nat → Prop} (h : Awk w B b p g1 c1 g2 c2 gh ch fr pk st ho) (o : Only S w w') (n1 : ¬ S b) (n2 : ¬ S p) (n3 : ¬ S g1) (n4 : ¬ S g2) (n5 : ¬ S gh) : Awk w' B b p g1 c1 g2 c2 gh ch fr pk st ho :=
  ⟨h.wat.only o n1, h.slo.only o n2 n3 n4, own_only h.hol o (fun q hq e => by
    have hq' : some gh = some q := hq
    injection hq' with hq'
    exact n5 (hq' ▸ e)), h.f7, h.f9, h.low⟩

set_option maxRecDepth 100000 in
set_option maxHeartbeats 4000000 in
theorem look_one (A1 : Option Addr) (n1 c1 : Nat) (A2 : Option Addr) (c2 bs os c3 : Nat) (A4 : Option Addr) (n4 c4 : Nat) (w : World) (hs : Arr Sh.enc w (some ⟨bs, os, none⟩) 1 [⟨1, 0, 0, 0, 3⟩]) :
    Calls Try.prog 82 #[.agg #[.int .i64 1, .int .i64 1, .int .i64 3, .int .i64 1, .int .i64 0, .int .i64 2, .int .i64 1], .int .i64 0, .agg #[.slice A1 n1 c1, .slice A2 0 c2, .slice (some ⟨bs, os, none⟩) 1 c3, .slice A4 n4 c4]] w (LookOut w) := by
  have Hs := Lib.hid hs
  clear hs
  go_enter Try.func82, Try.ntmps82
  go_upto_region 1 with fail
  obtain ⟨w0, hw0, hC, hR, hE, hlt0⟩ := enter2 w (.cells (cfgV 1 1 3 1 0 2 1) 23) (.cells #[.slice A1 n1 c1, .slice A2 0 c2, .slice (some ⟨bs, os, none⟩) 1 c3, .slice A4 n4 c4] 48)
  rw [hw0]
  have HE := Lib.hid hE
  have HC := Lib.hid hC
  have HR := Lib.hid hR
  have Hs0 := Lib.hid (Hs.out.ext hE)
  obtain ⟨d0, d1, d2, d3, d4, d5, d6⟩ := Lat.cfg hC
  obtain ⟨r0, r1, r2, r3⟩ := Lat.run hR
  have hbg := fun c : Lat w0 => begin_any 1 1 3 1 0 2 1 2 rfl (by omega) (by omega) 0 c.world
  obtain ⟨k0, hk0⟩ := lat_self w0
  rw [hk0]
  clear hw0 hC hR hE hk0 hlt0
  go_cut [7] (fun s7 wx => ∃ b p g1 ca g2 cb, s7 = .pointer (some ⟨b, 0, none⟩) ∧ Hid (WObj wx b (frA p 0 (.slice none 0 0)) pk0) ∧ Hid (SlotsObj wx w0.heap.size p g1 ca g2 cb 2 [0, 0] [-1, -1]) ∧ w0.heap.size ≤ b ∧ Hid (Ext w0 wx))
  case first =>
    go_region_held3 (fun w' => w'.cell? ⟨w.heap.size, 0, none⟩ = some (.int .i64 1) ∧ w'.cell? ⟨w.heap.size, 1, none⟩ = some (.int .i64 1) ∧ w'.cell? ⟨w.heap.size, 2, none⟩ = some (.int .i64 3) ∧ w'.cell? ⟨w.heap.size, 3, none⟩ = some (.int .i64 1) ∧ w'.cell? ⟨w.heap.size, 4, none⟩ = some (.int .i64 0) ∧ w'.cell? ⟨w.heap.size, 5, none⟩ = some (.int .i64 2) ∧ w'.cell? ⟨w.heap.size, 6, none⟩ = some (.int .i64 1))
      (first | exact ⟨d0 ⟨_, k0.ok.drew1⟩, d1 ⟨_, k0.ok.drew1⟩, d2 ⟨_, k0.ok.drew1⟩, d3 ⟨_, k0.ok.drew1⟩, d4 ⟨_, k0.ok.drew1⟩, d5 ⟨_, k0.ok.drew1⟩, d6 ⟨_, k0.ok.drew1⟩⟩ | exact hk2 _ (Ext.rfl' _) | exact hk2 _ ((Ext.rfl' _).alloc1 _))
      (first | (refine (hbg ⟨_, k0.ok.drew1⟩).mono ?_; rintro e w2 ⟨p, g1, c1, g2, c2, rfl, hS, e2⟩; have hk2 : ∀ w', Ext w2 w' → w'.cell? ⟨w.heap.size, 0, none⟩ = some (.int .i64 1) ∧ w'.cell? ⟨w.heap.size, 1, none⟩ = some (.int .i64 1) ∧ w'.cell? ⟨w.heap.size, 2, none⟩ = some (.int .i64 3) ∧ w'.cell? ⟨w.heap.size, 3, none⟩ = some (.int .i64 1) ∧ w'.cell? ⟨w.heap.size, 4, none⟩ = some (.int .i64 0) ∧ w'.cell? ⟨w.heap.size, 5, none⟩ = some (.int .i64 2) ∧ w'.cell? ⟨w.heap.size, 6, none⟩ = some (.int .i64 1) := fun w' ee => ⟨d0 ⟨_, Ext.next (Ext.next k0.ok.drew1 e2) ee⟩, d1 ⟨_, Ext.next (Ext.next k0.ok.drew1 e2) ee⟩, d2 ⟨_, Ext.next (Ext.next k0.ok.drew1 e2) ee⟩, d3 ⟨_, Ext.next (Ext.next k0.ok.drew1 e2) ee⟩, d4 ⟨_, Ext.next (Ext.next k0.ok.drew1 e2) ee⟩, d5 ⟨_, Ext.next (Ext.next k0.ok.drew1 e2) ee⟩, d6 ⟨_, Ext.next (Ext.next k0.ok.drew1 e2) ee⟩⟩))
    all_goals
      go_wp2_with fail
      go_meet
      case rel =>
        have hE3 := (Ext.rfl' w2).alloc1 (.cells ((frA p 0 (.slice none 0 0)) ++ pk0.map (Value.int .i64)).toArray 155)
        exact ⟨_, p, g1, c1, g2, c2, rfl, ⟨rfl, rfl, heap_alloc_new w2 _⟩, ⟨ext_blk hE3 hS.blk, own_base (own_ext hS.own1 hE3) k0.ok.size, own_base (own_ext hS.own2 hE3) k0.ok.size, Nat.le_trans k0.ok.size hS.low⟩, Nat.le_trans k0.ok.size e2.size, Ext.next (Ext.next k0.ok.drew1 e2) hE3⟩
  obtain ⟨b, p, g1, ca, g2, cb, rfl, HW, HS, hb, HX⟩ := hcut
  clear k0 hbg d0 d1 d2 d3 d4 d5 d6
  obtain ⟨d0, d1, d2, d3, d4, d5, d6⟩ := Lat.cfg (ext_blk HX.out HC.out)
  obtain ⟨k1, hk1⟩ := lat_self wc
  rw [hk1]
  clear hk1
  go_wp2_with fail
  refine (addr_any 1 1 3 1 0 2 1 (by unfold Okay; omega) 8 9 0 rfl (by omega) (by omega) (by decide) (fun _ => rfl) _).mono ?_
  rintro e w2 ⟨rfl, e2⟩
  obtain ⟨k2, rfl⟩ := lat_next k1 e2
  clear e2
  generalize sumOf 1 3 2 1 8 + 0 = a
  have q10 : ∀ c : Lat wc, c.world.cell? ⟨b, 10, none⟩ = some (.int .i64 0) := HW.out.cell rfl
  have f10 := HW.out.free 10
  go_upto_region 3 with fail
  obtain ⟨hw3, o3⟩ := (HW.out.ext k2.ok).set_front 10 (by omega) (.int .i64 a)
  have HW3 : Hid (WObj (k2.world.setCell ⟨b, 10, none⟩ (.int .i64 a)) b (frA p a (.slice none 0 0)) pk0) := hw3
  have HS3 := Lib.hid ((HS.out.ext k2.ok).only o3 (fun e => blk_two HW.out.blk HS.out.blk (by decide) e.symm) (fun e => own_apart HS.out.own1 HW.out.blk (by decide) (by rw [← e]; rfl)) (fun e => own_apart HS.out.own2 HW.out.blk (by decide) (by rw [← e]; rfl)))
  have HX3 := Lib.hid ((Ext.next HX.out k2.ok).only o3 fun q hq => by rw [hq]; exact hb)
  have HC3 : Hid (_ = _) := ext_blk HX3.out HC.out
  have HR3 : Hid (_ = _) := ext_blk HX3.out HR.out
  clear hw3 o3 q10 f10 d0 d1 d2 d3 d4 d5 d6 HW HS
  generalize k2.world.setCell ⟨b, 10, none⟩ (.int .i64 a) = w3 at *
  obtain ⟨d0, d1, d2, d3, d4, d5, d6⟩ := Lat.cfg HC3.out
  obtain ⟨k3, hk3⟩ := lat_self w3
  rw [hk3]
  go_upto_region 4 with fail
  rw [← hk3]
  clear hk3 k3 d0 d1 d2 d3 d4 d5 d6 k2 k1 HX
  go_loopw [35] (fun s35 wr => ∃ (i : Nat) (v : Value), i ≤ 3 ∧ s35 = .int .i64 i ∧ Hid (WObj wr b (frA p a v) pk0) ∧ Hid (SlotsObj wr w0.heap.size p g1 ca g2 cb 2 [0, 0] [-1, -1]) ∧ Hid (wr.ownsRow w0.heap.size 182 2 v i (holdsU.take (i * 2))) ∧ Hid (Ext w0 wr)) (fun s _ => 3 - (intOf s).toNat)
  case atStart => exact ⟨0, .slice none 0 0, by omega, rfl, HW3, HS3, World.ownsRow_nil _ _ _ _, HX3⟩
  case round =>
    clear HW3 HS3 HX3 HC3 HR3
    obtain ⟨i, v, hi, rfl, HW, HS, HH, HX⟩ := hrel
    have q9 : ∀ c : Lat wr, c.world.cell? ⟨b, 9, none⟩ = some v := HW.out.cell rfl
    by_cases hlt : i < 3
    · have h1 : (i : Int) < (3 : Int) := by omega
      obtain ⟨k, hk⟩ := lat_self wr
      rw [hk]
      have hWk := HW.out.ext k.ok
      have hHk := own_ext HH.out k.ok
      have hsz := Nat.le_trans HX.out.size k.size
      clear hk
      go_upto_region 6 with (at_builtin; refine wpList_push _ rfl _ _ 152 rfl w0.heap.size 182 2 16 elemHold Try.underlying152 _ _ _ rfl hHk _ rfl rfl (by simp [Value.oneCell']) (by omega) hsz ?_; intro v5 w5 hown5 hgrow5 hat5; have o5 := Only.of_grown hgrow5; have hw5 := hWk.only o5 (fun e => own_apart hHk hWk.blk (by decide) e.symm); have hc5 : w5.cell? ⟨b, 9, none⟩ = some v := hw5.cell rfl ⟨w5, Ext.rfl' _⟩; have hf5 := hw5.free 9 ⟨w5, Ext.rfl' _⟩; simp only at hf5; obtain ⟨g5, cc5, rfl, _, hg5, _⟩ := own_form1 hown5 (by omega))
      obtain ⟨hw6, o6⟩ := hw5.set_front 9 (by omega) (.slice (some ⟨g5, 0, none⟩) (i + 1) cc5)
      have hh6 := own_only hown5 o6 fun q hq e => own_apart hown5 hw5.blk (by decide) (by rw [hq, e])
      have hs5 := (HS.out.ext k.ok).only o5 (fun e => own_apart hHk (HS.out.ext k.ok).blk (by decide) e.symm) (fun e => own_two (HS.out.ext k.ok).own1 hHk (by decide) g1 rfl e.symm) (fun e => own_two (HS.out.ext k.ok).own2 hHk (by decide) g2 rfl e.symm)
      have hs6 := hs5.only o6 (fun e => blk_two hw5.blk hs5.blk (by decide) e.symm) (fun e => own_apart hs5.own1 hw5.blk (by decide) (by rw [← e]; rfl)) (fun e => own_apart hs5.own2 hw5.blk (by decide) (by rw [← e]; rfl))
      have hx6 := ((Ext.next HX.out k.ok).only o5 fun q hq => (hHk.lt q hq.symm).1).only o6 fun q hq => by rw [hq]; exact hb
      have hw6' : Hid (WObj (w5.setCell ⟨b, 9, none⟩ (.slice (some ⟨g5, 0, none⟩) (i + 1) cc5)) b (frA p a (.slice (some ⟨g5, 0, none⟩) (i + 1) cc5)) pk0) := hw6
      have hh7 : Hid ((w5.setCell ⟨b, 9, none⟩ (.slice (some ⟨g5, 0, none⟩) (i + 1) cc5)).ownsRow w0.heap.size 182 2 (.slice (some ⟨g5, 0, none⟩) (i + 1) cc5) (i + 1) (holdsU.take ((i + 1) * 2))) := by
        have e : holdsU.take (i * 2) ++ (#[Value.int .i64 (-1), Value.bool false]).toList = holdsU.take ((i + 1) * 2) := by
          rcases (by omega : i = 0 ∨ i = 1 ∨ i = 2) with rfl | rfl | rfl <;> rfl
        rw [← e]
        exact hh6
      have hs7 := Lib.hid hs6
      have hx7 := Lib.hid hx6
      clear hw6 o6 hh6 hs5 hs6 hx6 hown5 hgrow5 hat5 o5 hw5 hc5 hf5 hWk hHk hsz q9
      go_wp2_with fail
      go_roundw
      case rel => exact ⟨i + 1, _, by omega, by go_num, hw6', hs7, hh7, hx7⟩
      case measure => simp [intOf]; omega
    · obtain rfl : 3 = i := by omega
      obtain ⟨gh, ch, rfl, _, hgh, _⟩ := own_form1 HH.out (by omega)
      obtain ⟨k, hk⟩ := lat_self wr
      rw [hk]
      have HA : Hid (Awk k.world w0.heap.size b p g1 ca g2 cb gh ch (frA p a (.slice (some ⟨gh, 0, none⟩) 3 ch)) pk0 [0, 0] [-1, -1]) := ⟨HW.out.ext k.ok, HS.out.ext k.ok, own_ext HH.out k.ok, rfl, rfl, hb⟩
      have HXk := Lib.hid (Ext.next HX.out k.ok)
      clear hk q9
      go_wp2_with fail
      refine (count_any w0.heap.size b p g1 ca g2 cb 2 _ pk0 [0, 0] [-1, -1] _ HA.out.wat HA.out.f7 HA.out.slo (by simp) (by omega) ⟨HA.out.ne.1, HA.out.ne.2.1, HA.out.ne.2.2.1⟩).mono ?_
      rintro e w9 ⟨rfl, pk1, hW9, o9⟩
      have HA9 := Lib.hid (HA.out.watch hW9 o9 rfl rfl)
      have HX9 := Lib.hid (HXk.out.only o9 fun q hq => by rw [hq]; exact hb)
      have HR9 := Lib.hid (ext_blk HX9.out HR.out)
      clear hW9 o9 hgh
      obtain ⟨r0, r1, r2, r3⟩ := Lat.run HR9.out
      obtain ⟨k9, hk9⟩ := lat_self w9
      rw [hk9]
      clear hk9
      go_upto_region 9 with fail
      obtain ⟨w10, hw10, hF, hE10, _⟩ := enter1 k9.world (.cells #[.func (.func 116) #[] #[], .func (.func 117) #[] #[], .func (.func 118) #[] #[]] 184)
      rw [hw10]
      clear r0 r1 r2 r3
      have HX10 := Lib.hid (Ext.next k9.ok hE10)
      have HA10 := Lib.hid (HA9.out.ext HX10.out)
      have HF10 := Lib.hid hF
      generalize k9.world.heap.size = pf at *
      obtain ⟨r0, r1, r2, r3⟩ := Lat.run (ext_blk HX10.out HR9.out)
      obtain ⟨k10, hk10⟩ := lat_self w10
      rw [hk10]
      clear hw10 hF hE10 hk10
      go_wp2_with fail
      refine (moments_one ⟨1, 0, 0, 0, 3⟩ A1 n1 c1 A2 c2 bs os c3 A4 n4 c4 _ (Hs0.out.ext (Ext.next HX9.out (Ext.next HX10.out k10.ok)))).mono ?_
      rintro e w11 ⟨go, co, gs, cs, rfl, hm1, hm2, e11⟩
      have e11' := Ext.next k10.ok e11
      have HA11 := Lib.hid (HA10.out.ext e11')
      have HF11 := Lib.hid (ext_blk e11' HF10.out)
      have HX11 := Lib.hid (Ext.next HX9.out (Ext.next HX10.out e11'))
      have hM : w0.heap.size ≤ k10.world.heap.size := Nat.le_trans HX9.out.size (Nat.le_trans HX10.out.size k10.size)
      have HM1 := Lib.hid (own_base hm1 hM)
      have HM2 := Lib.hid (own_base hm2 hM)
      clear hm1 hm2 e11 e11' hM r0 r1 r2 r3 HA10 HF10 HX10 HA9 HX9 HR9
      go_wp2_with fail
      go_loopw [54] (fun s54 wr => (s54 = .int .i64 0 ∧ wr = w11) ∨ (s54 = .int .i64 1 ∧ ∃ fr pk gf cf, Hid (WObj wr b fr pk) ∧ Hid (Told wr w0.heap.size gf cf fr) ∧ Hid (Ext w0 wr))) (fun s _ => 1 - (intOf s).toNat)
      case atStart => exact .inl ⟨rfl, rfl⟩
      case round =>
        rcases hrel with ⟨rfl, rfl⟩ | ⟨rfl, fr, pk, gf, cf, hw, ht, hx⟩
        · have m0 : ∀ c : Lat wr, c.world.cell? ⟨go, 0, none⟩ = some (.int .i64 1) := fun c => (own_ext HM1.out c.ok).cellAt 0 (by omega)
          have m1 : ∀ c : Lat wr, c.world.cell? ⟨go, 1, none⟩ = some (.pointer none) := fun c => (own_ext HM1.out c.ok).cellAt 1 (by omega)
          have m2 : ∀ c : Lat wr, c.world.cell? ⟨go, 2, none⟩ = some (.slice (some ⟨gs, 0, none⟩) 1 cs) := fun c => (own_ext HM1.out c.ok).cellAt 2 (by omega)
          obtain ⟨k, hk⟩ := lat_self wr
          rw [hk]
          clear hk
          go_upto_region 12 with fail
          obtain ⟨w12, hw12, hB, hE12, _⟩ := enter1 k.world (.cells #[.int .i64 1, .pointer none, .slice (some ⟨gs, 0, none⟩) 1 cs] 189)
          rw [hw12]
          clear m0 m1 m2
          have HX12 := Lib.hid (Ext.next k.ok hE12)
          have HB12 := Lib.hid hB
          have HA12 := Lib.hid (HA11.out.ext HX12.out)
          have HF12 := Lib.hid (ext_blk HX12.out HF11.out)
          have HS12 := Lib.hid (own_ext HM2.out HX12.out)
          have HXX := Lib.hid (Ext.next HX11.out HX12.out)
          generalize k.world.heap.size = pb at *
          clear hw12 hB hE12
          obtain ⟨k12, hk12⟩ := lat_self w12
          have hk : ∀ w', Ext w12 w' → w'.cell? ⟨b, 7, none⟩ = some (.pointer (some ⟨p, 0, none⟩)) ∧ w'.cell? ⟨p, 0, none⟩ = some (.slice (some ⟨g1, 0, none⟩) 2 ca) ∧ w'.cell? ⟨p, 1, none⟩ = some (.slice (some ⟨g2, 0, none⟩) 2 cb) := fun w' e => ⟨HA12.out.wat.cell rfl ⟨w', e⟩, HA12.out.slo.lat.1 ⟨w', e⟩, HA12.out.slo.lat.2 ⟨w', e⟩⟩
          have hk8 : ∀ w0 v, Ext w12 w0 → (fun w' : World => w'.cell? ⟨b, 7, none⟩ = some (.pointer (some ⟨p, 0, none⟩)) ∧ w'.cell? ⟨p, 0, none⟩ = some (.slice (some ⟨g1, 0, none⟩) 2 ca) ∧ w'.cell? ⟨p, 1, none⟩ = some (.slice (some ⟨g2, 0, none⟩) 2 cb)) (w0.setCell ⟨b, 8, none⟩ v) := fun w0 v e => by
            obtain ⟨hw, o⟩ := (HA12.out.wat.ext e).set_front 8 (by omega) v
            have hs := (HA12.out.slo.ext e).only o (fun e => HA12.out.ne.1 e.symm) (fun e => HA12.out.ne.2.1 e.symm) (fun e => HA12.out.ne.2.2.1 e.symm)
            exact ⟨hw.cell rfl ⟨_, Ext.rfl' _⟩, hs.lat.1 ⟨_, Ext.rfl' _⟩, hs.lat.2 ⟨_, Ext.rfl' _⟩⟩
          have hcs : ∀ w', Ext w12 w' → Calls Try.prog 120 #[.slice (some ⟨g1, 0, none⟩) 2 ca] w' (CloneOut w' 76 2 [.int .i64 0, .int .i64 0]) := fun w' e => cloneStates_any g1 2 ca [0, 0] w' rfl (Rd.of_own (own_ext HA12.out.slo.own1 e)) (by omega)
          have hci : ∀ w', Ext w12 w' → Calls Try.prog 121 #[.slice (some ⟨g2, 0, none⟩) 2 cb] w' (CloneOut w' 3 2 [.int .i64 (-1), .int .i64 (-1)]) := fun w' e => cloneInts_any g2 2 cb [-1, -1] w' rfl (Rd.of_own (own_ext HA12.out.slo.own2 e)) (by omega)
          have hb8 : ∀ w', Ext w12 w' → w'.frozen? ⟨b, 8, none⟩ = false := fun w' e => HA12.out.wat.free 8 ⟨w', e⟩
          have hc8 : ∀ w', Ext w12 w' → w'.cell? ⟨b, 8, none⟩ = some (.pointer none) := fun w' e => HA12.out.wat.cell rfl ⟨w', e⟩
          clear hk12 k12
          go_cut [] (fun wx => ∃ pt h1 e1 h2 e2, Hid (Awk wx w0.heap.size b p g1 ca g2 cb gh ch ((frA p a (.slice (some ⟨gh, 0, none⟩) 3 ch)).set 8 (.pointer (some ⟨pt, 0, none⟩))) pk1 [0, 0] [-1, -1]) ∧ Hid (SlotsObj wx w12.heap.size pt h1 e1 h2 e2 2 [0, 0] [-1, -1]) ∧ Hid (Only (fun q => q = b) w12 wx))
          case first =>
            go_region_held3 (fun w' => w'.cell? ⟨b, 7, none⟩ = some (.pointer (some ⟨p, 0, none⟩)) ∧ w'.cell? ⟨p, 0, none⟩ = some (.slice (some ⟨g1, 0, none⟩) 2 ca) ∧ w'.cell? ⟨p, 1, none⟩ = some (.slice (some ⟨g2, 0, none⟩) 2 cb)) (first | exact hk _ ((Ext.rfl' w12).drew1) | exact hk _ EA | exact hk _ EB | exact hk _ (EB.alloc1 _) | exact hk8 _ _ (EB.alloc1 _))
              (first | (refine (hcs _ ((Ext.rfl' w12).drew1)).mono ?_; rintro e wA ⟨vA, rfl, hoA, eA⟩; have EA : Ext w12 wA := Ext.next ((Ext.rfl' w12).drew1) eA; obtain ⟨h1, e1, rfl, _, _, _⟩ := own_form1 hoA (by omega)) | (refine (hci _ EA).mono ?_; rintro e wB ⟨vB, rfl, hoB, eB⟩; have EB : Ext w12 wB := Ext.next EA eB; have HB8 := hb8 _ (EB.alloc1 (.cells #[.slice (some ⟨h1, 0, none⟩) 2 e1, vB] 139)); have HC8 := hc8 _ (EB.alloc1 (.cells #[.slice (some ⟨h1, 0, none⟩) 2 e1, vB] 139)); obtain ⟨h2, e2, rfl, _, _, _⟩ := own_form1 hoB (by omega)))
            all_goals
              have hm := then_meet HA12.out EB (own_base (own_ext hoA eB) (Nat.le_refl _)) (own_base hoB EA.size)
              go_wp2_with fail
              go_meet
              case rel => exact ⟨_, h1, e1, h2, e2, hm.1, hm.2.1, hm.2.2⟩
          obtain ⟨pt, h1, e1, h2, e2, HAc, HSt, HOn⟩ := hcut
          have hlts := HA12.out.lts
          have hh1 := (HSt.out.own1.lt h1 rfl).1
          have hh2 := (HSt.out.own2.lt h2 rfl).1
          have Hlts := Lib.hid hlts
          have Hh := Lib.hid (And.intro hh1 hh2)
          have hbb := Lib.hid (blk_two HB12.out HA12.out.wat.blk (by decide))
          have hfb := Lib.hid (blk_two HF12.out HA12.out.wat.blk (by decide))
          have hsb : Hid (gs ≠ b) := fun e => own_apart HS12.out HA12.out.wat.blk (by decide) (by rw [← e]; rfl)
          clear hlts hh1 hh2 hk hk8 hcs hci hb8 hc8
          have q12 := Lat.cells3 ((HOn.out.block pb (blk_lt HB12.out) hbb.out).trans HB12.out)
          obtain ⟨q0, q1, q2⟩ := q12
          obtain ⟨kc, hkc⟩ := lat_self wc
          rw [hkc]
          go_upto_region 14 with fail
          rw [← hkc]
          clear hkc kc q0 q1 q2
          go_loopw [82] (fun s82 wr => (s82 = .int .i64 0 ∧ wr = wc) ∨ (s82 = .int .i64 1 ∧ Hid (Awk wr w0.heap.size b p g1 ca g2 cb gh ch ((frA p a (.slice (some ⟨gh, 0, none⟩) 3 ch)).set 8 (.pointer (some ⟨pt, 0, none⟩))) pk1 [0, 0] [-1, -1]) ∧ Hid (Only (fun q => q = b) w12 wr))) (fun s _ => 1 - (intOf s).toNat)
          case atStart => exact .inl ⟨rfl, rfl⟩
          case round =>
            rcases hrel with ⟨rfl, rfl⟩ | ⟨rfl, HAd, HOd⟩
            · have hsr := own_only HS12.out HOn.out fun q hq e => by
                have hq' : some gs = some q := hq
                injection hq' with hq'
                exact hsb.out (hq'.trans e)
              have x0 : ∀ c : Lat wr, c.world.cell? ⟨gs, 0, none⟩ = some (.int .i64 1) := fun c => (own_ext hsr c.ok).cellAt 0 (by omega)
              have x1 : ∀ c : Lat wr, c.world.cell? ⟨gs, 1, none⟩ = some (.int .i64 0) := fun c => (own_ext hsr c.ok).cellAt 1 (by omega)
              have x2 : ∀ c : Lat wr, c.world.cell? ⟨gs, 2, none⟩ = some (.int .i64 0) := fun c => (own_ext hsr c.ok).cellAt 2 (by omega)
              have x3 : ∀ c : Lat wr, c.world.cell? ⟨gs, 3, none⟩ = some (.int .i64 0) := fun c => (own_ext hsr c.ok).cellAt 3 (by omega)
              have x4 : ∀ c : Lat wr, c.world.cell? ⟨gs, 4, none⟩ = some (.int .i64 3) := fun c => (own_ext hsr c.ok).cellAt 4 (by omega)
              obtain ⟨k, hk⟩ := lat_self wr
              rw [hk]
              clear hk
              go_upto_region 16 with fail
              obtain ⟨w14, hw14, hX, hE14, _⟩ := enter1 k.world (.cells #[.int .i64 1, .int .i64 0, .int .i64 0, .int .i64 0, .int .i64 3] 136)
              rw [hw14]
              clear x0 x1 x2 x3 x4 hsr
              have HE14 := Lib.hid (Ext.next k.ok hE14)
              obtain ⟨x0, x1, x2, x3, x4⟩ := Sh.boxed (mv := 1) (th := 0) (sl := 0) (fr := 0) (t5 := 3) hX
              have q8 : ∀ c : Lat w14, c.world.cell? ⟨b, 8, none⟩ = some (.pointer (some ⟨pt, 0, none⟩)) := (HAc.out.wat.ext HE14.out).cell rfl
              obtain ⟨k14, hk14⟩ := lat_self w14
              rw [hk14]
              generalize k.world.heap.size = px at *
              clear hw14 hX hE14 hk14
              refine wp_region_cls_tail (Ext w14) 5 (Ext.drew1 k14.ok) (by kernel_rfl) (by kernel_rfl) ?_
              simp only [List.take_succ_cons, List.take_zero, List.drop_succ_cons, List.drop_zero]
              repeat (go_big_quiet_step (fail))
              refine wpQuiet_nil ?_
              rintro _ ⟨k15, rfl⟩
              have hEc := Ext.next HE14.out k15.ok
              go_wp2_with fail
              refine (put_any w12.heap.size pt h1 e1 h2 e2 2 [0, 0] [-1, -1] ⟨1, 0, 0, 0, 3⟩ 0 rfl (by omega) _ (HSt.out.ext hEc)).mono ?_
              rintro e w16 ⟨rfl, hT, o16⟩
              have l1 := Hlts.out
              have l2 := Hh.out
              have HA16 := Lib.hid ((HAc.out.ext hEc).only o16 (by omega) (by omega) (by omega) (by omega) (by omega))
              have HO16 : Hid (Only (fun q => q = b) w12 w16) := (only_later HOn.out hEc).trans o16 fun q hq h => by omega
              clear hT o16 l1 l2 hEc x0 x1 x2 x3 x4 q8
              go_wp2_with fail
              go_roundw
              case rel => exact .inr ⟨by go_num, HA16, HO16⟩
              case measure => simp [intOf]
            · have hfr := (HOd.out.block pf (blk_lt HF12.out) hfb.out).trans HF12.out
              obtain ⟨f0, f1, f2⟩ := Lat.cells3 hfr
              have hbr := (HOd.out.block pb (blk_lt HB12.out) hbb.out).trans HB12.out
              obtain ⟨q0, q1, q2⟩ := Lat.cells3 hbr
              have hsr := Lib.hid (own_only HS12.out HOd.out fun q hq e => by
                have hq' : some gs = some q := hq
                injection hq' with hq'
                exact hsb.out (hq'.trans e))
              have hXr := Lib.hid (HXX.out.only HOd.out fun q hq => by rw [hq]; exact hb)
              obtain ⟨kd, hkd⟩ := lat_self wr
              rw [hkd]
              go_upto_region 19 with fail
              rw [← hkd]
              clear hkd kd f0 f1 f2
              go_loopw [94] (fun s94 wq => ((s94 = .int .i64 0 ∨ s94 = .int .i64 1 ∨ s94 = .int .i64 2) ∧ ∃ k : Lat wr, wq = k.world) ∨ (s94 = .int .i64 3 ∧ ∃ fr pk gf cf, Hid (WObj wq b fr pk) ∧ Hid (Told wq w0.heap.size gf cf fr) ∧ Hid (Ext w0 wq))) (fun s _ => 3 - (intOf s).toNat)
              case atStart => exact .inl ⟨.inl rfl, ⟨wr, Ext.rfl' _⟩, rfl⟩
              case round =>
                rcases hrel with ⟨rfl | rfl | rfl, k, rfl⟩ | ⟨rfl, fr, pk, gf, cf, hw, ht, hx⟩
                · have hidx : ∀ W : World, (Instr.index 184 (.agg #[.func (.func 116) #[] #[], .func (.func 117) #[] #[], .func (.func 118) #[] #[]]) (.int .i64 0)).run Try.prog W = .ok (.func (.func 116) #[] #[]) W := fun W => by kernel_rfl
                  go_wp2_with fail
                  refine (touches_idle b gs cs 1 _).mono ?_
                  rintro e w20 ⟨rfl, e20⟩
                  obtain ⟨k20, rfl⟩ := lat_next k e20
                  clear e20
                  go_wp2_with fail
                  go_roundw
                  case rel => exact .inl ⟨.inr (.inl (by go_num)), k20, rfl⟩
                  case measure => simp [intOf]
                · have hidx : ∀ W : World, (Instr.index 184 (.agg #[.func (.func 116) #[] #[], .func (.func 117) #[] #[], .func (.func 118) #[] #[]]) (.int .i64 1)).run Try.prog W = .ok (.func (.func 117) #[] #[]) W := fun W => by kernel_rfl
                  go_wp2_with fail
                  refine (names_idle b gs cs 1 _).mono ?_
                  rintro e w20 ⟨rfl, e20⟩
                  obtain ⟨k20, rfl⟩ := lat_next k e20
                  clear e20
                  go_wp2_with fail
                  go_roundw
                  case rel => exact .inl ⟨.inr (.inr (by go_num)), k20, rfl⟩
                  case measure => simp [intOf]
                · have hidx : ∀ W : World, (Instr.index 184 (.agg #[.func (.func 116) #[] #[], .func (.func 117) #[] #[], .func (.func 118) #[] #[]]) (.int .i64 2)).run Try.prog W = .ok (.func (.func 118) #[] #[]) W := fun W => by kernel_rfl
                  go_wp2_with fail
                  refine (changes_one w0.heap.size b p g1 ca g2 cb gh ch gs cs _ pk1 _ (HAd.out.ext k.ok) rfl (Nat.le_trans hXr.out.size k.size) (own_ext hsr.out k.ok)).mono ?_
                  rintro e w20 ⟨rfl, fr', pk', gf, cf, hW, hT, o20⟩
                  have hW20 := Lib.hid hW
                  have hT20 := Lib.hid hT
                  have hX20 := Lib.hid ((Ext.next hXr.out k.ok).only o20 fun q hq => hq)
                  clear hW hT o20
                  go_wp2_with fail
                  go_roundw
                  case rel => exact .inr ⟨by go_num, fr', pk', gf, cf, hW20, hT20, hX20⟩
                  case measure => simp [intOf]
                · go_wp2_with fail
                  go_roundw
                  case rel => exact .inr ⟨by go_num, fr, pk, gf, cf, hw, ht, hx⟩
                  case measure => simp [intOf]
        · go_wp2_with fail
          go_ret
          exact ⟨b, fr, pk, gf, cf, rfl, hw.out, ⟨ht.out.1, own_base ht.out.2 HE.out.size⟩, Ext.next HE.out hx.out⟩

end Go.Proofs.Ytfbacopjookplaa
