/- The walk of census.moments over a run of no access and one change of state. -/
import Derived.Test.YtfbacopjookplaaSlots
import Derived.Test.YtfbacopjookplaaTrace
import Derived.Deep.RegionLaw
import Derived.Deep.RegionHeld3
namespace Go.Proofs.Ytfbacopjookplaa
open Go.RowKit

/-- What moments leaves. -/
def MomOut (w : World) (x : Sh) (e : Ending) (w' : World) : Prop :=
  ∃ go co gs cs, e = .returned (.slice (some ⟨go, 0, none⟩) 1 co) ∧ w'.ownsRow w.heap.size 189 3 (.slice (some ⟨go, 0, none⟩) 1 co) 1 [.int .i64 x.mv, .pointer none, .slice (some ⟨gs, 0, none⟩) 1 cs] ∧
    w'.ownsRow w.heap.size 136 5 (.slice (some ⟨gs, 0, none⟩) 1 cs) 1 x.enc ∧ Ext w w'
theorem elemMom : Elem Try.prog 189 3 40 := Elem.of (z := .agg #[.int .i64 0, .pointer none, .slice none 0 0]) (by kernel_rfl) (by simp [Value.cells]) (by omega) (by omega)
theorem elemSh : Elem Try.prog 136 5 40 := Elem.of (z := .agg #[.int .i64 0, .int .i64 0, .int .i64 0, .int .i64 0, .int .i64 0]) (by kernel_rfl) (by simp [Value.cells]) (by omega) (by omega)

theorem mom_meet {w w0 w6 w1 : World} {go co gs cs : Nat} {x : Sh} (hm : w6.ownsRow w.heap.size 189 3 (.slice (some ⟨go, 0, none⟩) 1 co) 1 [.int .i64 x.mv, .pointer none, .slice none 0 0]) (hE : Ext w0 w6) (h0 : w0.heap.size ≤ go) (e : Ext w6 w1)
    (ho : w1.ownsRow w.heap.size 136 5 (.slice (some ⟨gs, 0, none⟩) 1 cs) 1 x.enc) :
    Hid ((w1.setCell ⟨go, 2, none⟩ (.slice (some ⟨gs, 0, none⟩) 1 cs)).ownsRow w.heap.size 189 3 (.slice (some ⟨go, 0, none⟩) 1 co) 1 [.int .i64 x.mv, .pointer none, .slice (some ⟨gs, 0, none⟩) 1 cs]) ∧
      Hid ((w1.setCell ⟨go, 2, none⟩ (.slice (some ⟨gs, 0, none⟩) 1 cs)).ownsRow w.heap.size 136 5 (.slice (some ⟨gs, 0, none⟩) 1 cs) 1 x.enc) ∧ Hid (Ext w0 (w1.setCell ⟨go, 2, none⟩ (.slice (some ⟨gs, 0, none⟩) 1 cs))) := by
  have h1 := own_ext hm e
  have o : Only (fun q => q = go) w1 (w1.setCell ⟨go, 2, none⟩ (.slice (some ⟨gs, 0, none⟩) 1 cs)) := (Only.refl _ _).setCell _ _ fun _ => rfl
  refine ⟨(h1.stored 2 _).1, own_only ho o fun q hq hs => own_two ho h1 (by decide) q hq (by rw [hs]; rfl), (Ext.next hE e).only o fun q hq => by rw [hq]; exact h0⟩

set_option maxRecDepth 100000 in
set_option maxHeartbeats 4000000 in
theorem moments_one (x : Sh) (A1 : Option Addr) (n1 c1 : Nat) (A2 : Option Addr) (c2 bs os c3 : Nat) (A4 : Option Addr) (n4 c4 : Nat) (w : World) (hs : Arr Sh.enc w (some ⟨bs, os, none⟩) 1 [x]) :
    Calls Try.prog 119 #[.agg #[.slice A1 n1 c1, .slice A2 0 c2, .slice (some ⟨bs, os, none⟩) 1 c3, .slice A4 n4 c4]] w (MomOut w x) := by
  have Hs := Lib.hid hs
  clear hs
  go_enter Try.func119, Try.ntmps119
  go_upto_region 1 with fail
  obtain ⟨w0, hw0, hR, hE, hlt0⟩ := enter1 w (.cells #[.slice A1 n1 c1, .slice A2 0 c2, .slice (some ⟨bs, os, none⟩) 1 c3, .slice A4 n4 c4] 48)
  rw [hw0]
  have HE := Lib.hid hE
  have HR := Lib.hid hR
  have Hs0 := Lib.hid (Hs.out.ext hE)
  obtain ⟨r0, r1, r2, r3⟩ := Lat.run hR
  obtain ⟨k0, hk0⟩ := lat_self w0
  rw [hk0]
  clear hw0 hR hE hk0 hlt0
  go_upto_region 4 with fail
  go_loopw [3, 4, 12] (fun s3 s4 s12 wr => s4 = .int .i64 0 ∧ ((s12 = .int .i64 0 ∧ s3 = .slice none 0 0 ∧ ∃ k : Lat w0, wr = k.world) ∨
    (s12 = .int .i64 1 ∧ ∃ go co gs cs, s3 = .slice (some ⟨go, 0, none⟩) 1 co ∧ Hid (wr.ownsRow w.heap.size 189 3 (.slice (some ⟨go, 0, none⟩) 1 co) 1 [.int .i64 x.mv, .pointer none, .slice (some ⟨gs, 0, none⟩) 1 cs]) ∧
      Hid (wr.ownsRow w.heap.size 136 5 (.slice (some ⟨gs, 0, none⟩) 1 cs) 1 x.enc) ∧ Hid (Ext w0 wr)))) (fun _ _ s _ => 1 - (intOf s).toNat)
  case atStart => exact ⟨rfl, .inl ⟨rfl, rfl, k0, rfl⟩⟩
  case round =>
    clear k0
    obtain ⟨rfl, hrel⟩ := hrel
    rcases hrel with ⟨rfl, rfl, k, rfl⟩ | ⟨rfl, go, co, gs, cs, rfl, ho1, ho2, hX⟩
    · obtain ⟨b, off, y, hAy, hb, hy, x0, x1, x2, x3, x4⟩ := Sh.at_ Hs0.out (i := 0) (by omega)
      injection hAy with hAy
      injection hAy with hb1 hb2
      subst hb1 hb2
      have hy := hy.out
      injection hy with hy
      subst hy
      simp only [Nat.zero_mul, Nat.add_zero] at x0 x1 x2 x3 x4
      go_upto_region 6 with fail
      obtain ⟨w3, hw3, hX, hE3, hlt3⟩ := enter1 k.world (.cells #[.int .i64 x.mv, .int .i64 x.th, .int .i64 x.sl, .int .i64 x.fr, .int .i64 x.to] 136)
      rw [hw3]
      clear x0 x1 x2 x3 x4 r0 r1 r2 r3
      have HE3 := Lib.hid (Ext.next k.ok hE3)
      obtain ⟨x0, x1, x2, x3, x4⟩ := Sh.boxed hX
      obtain ⟨r0, r1, r2, r3⟩ := Lat.run (ext_blk HE3.out HR.out)
      obtain ⟨k3, hk3⟩ := lat_self w3
      rw [hk3]
      generalize k.world.heap.size = p at *
      clear hw3 hE3 hk3
      go_loopw [3, 4] (fun s3 s4 wr => s4 = .int .i64 0 ∧ s3 = .slice none 0 0 ∧ ∃ k : Lat w3, wr = k.world) (fun _ _ _ => 0)
      case atStart => exact ⟨rfl, rfl, k3, rfl⟩
      case round =>
        clear k3
        obtain ⟨rfl, rfl, k3, rfl⟩ := hrel
        go_upto_region 6 with fail
        refine wp_region_cls (Ext w3) (Ext.drew1 k3.ok) (by kernel_rfl) (by kernel_rfl) ?_
        repeat (go_big_quiet_step (fail))
        refine wpQuiet_nil ?_
        rintro _ ⟨k4, rfl⟩
        go_upto_region 10 with fail
        refine wp_region_cls (Ext w3) (Ext.drew1 k4.ok) (by kernel_rfl) (by kernel_rfl) ?_
        repeat (go_big_quiet_step (fail))
        refine wpQuiet_nil ?_
        rintro _ ⟨k5, rfl⟩
        have hnil := World.ownsRow_nil k5.world w.heap.size 189 3
        have hsz5 : w.heap.size ≤ k5.world.heap.size := Nat.le_trans HE.out.size (Nat.le_trans HE3.out.size (Lat.size k5))
        go_upto_region 12 with (at_builtin; refine wpList_push _ rfl _ _ 185 rfl w.heap.size 189 3 40 elemMom Try.underlying185 _ _ _ rfl hnil _ rfl rfl (by simp [Value.oneCell']) (by omega) hsz5 ?_; intro v6 w6 hown6 hgrow6 hat6; obtain ⟨go, co, rfl, hco, hgo, hgo2⟩ := own_form1 hown6 (by omega))
        have HE6 : Hid (Ext k5.world w6) := (Only.of_grown hgrow6).ext fun q _ hq => by cases hq
        have HEw3 := Lib.hid (Ext.next k5.ok HE6.out)
        have hgo0 : w0.heap.size ≤ go := by
          rcases hat6 with h | h
          · cases h
          · have h : some go = some (k5.world.heap.size + 1) := h
            injection h with h
            have h1 := HE3.out.size
            have h2 := Lat.size k5
            omega
        have Hgo0 := Lib.hid hgo0
        have Hown6 := Lib.hid hown6
        have hp6 : p < w6.heap.size := Nat.lt_of_lt_of_le (blk_lt hX) HEw3.out.size
        have y0 := x0 ⟨w6, HEw3.out⟩
        have y1 := x1 ⟨w6, HEw3.out⟩
        have y2 := x2 ⟨w6, HEw3.out⟩
        have y3 := x3 ⟨w6, HEw3.out⟩
        have y4 := x4 ⟨w6, HEw3.out⟩
        have yg : w6.cell? ⟨go, 2, none⟩ = some (.slice none 0 0) := hown6.cellAt 2 (by omega)
        have yf := hown6.frozenAt 2
        simp only at y0 y1 y2 y3 y4
        have hne1 : p ≠ w6.heap.size := by omega
        have hne2 : go ≠ w6.heap.size := by omega
        clear hown6 hgrow6 hat6 hnil hsz5 hgo0 x0 x1 x2 x3 x4 r0 r1 r2 r3 hgo hco hX
        go_upto_region 13 with fail
        have hcl : ([.int .i64 x.mv, .int .i64 x.th, .int .i64 x.sl, .int .i64 x.fr, .int .i64 x.to] : List Value).length = 1 * 5 := rfl
        have hrd := Rd.made w6 [.int .i64 x.mv, .int .i64 x.th, .int .i64 x.sl, .int .i64 x.fr, .int .i64 x.to] 136
        have hone : ∀ u ∈ ([.int .i64 x.mv, .int .i64 x.th, .int .i64 x.sl, .int .i64 x.fr, .int .i64 x.to] : List Value), u.oneCell' = true := by intro u hu; simp at hu; rcases hu with rfl | rfl | rfl | rfl | rfl <;> rfl
        have hbs : w.heap.size ≤ w6.heap.size := Nat.le_trans HE.out.size (Nat.le_trans HE3.out.size HEw3.out.size)
        go_region_law? ((refine step_appendR _ rfl (.tmp 78) (.tmp 80) 46 rfl w.heap.size 136 5 40 elemSh Try.underlying46 (.slice none 0 0) 0 [] (by simp [Act.eval]) (World.ownsRow_nil _ _ _ _) (some ⟨w6.heap.size, 0, none⟩) 1 1 [.int .i64 x.mv, .int .i64 x.th, .int .i64 x.sl, .int .i64 x.fr, .int .i64 x.to] (by simp [Act.eval]) hcl (by first | exact hrd | exact hrd.ext (Ext.rfl' _).drew1) hone (by omega) (by simp; omega) ?_; intro v' w1 hown1 hgrow1 hat1; have hE1 := Ext.next (by first | exact (Ext.rfl' w6).alloc1 _ | exact ((Ext.rfl' w6).alloc1 _).drew1) ((Only.of_grown hgrow1).ext fun q _ hq => by cases hq); have hm1 := own_ext Hown6.out hE1; have hc1 : w1.cell? ⟨go, 2, none⟩ = some (.slice none 0 0) := hm1.cellAt 2 (by omega); have hf1 := hm1.frozenAt 2; obtain ⟨gs, cs, rfl, _, hgs, _⟩ := own_form1 hown1 (by omega)))
        all_goals
          go_wp2_with fail
          obtain ⟨H1, H2, H3⟩ := mom_meet Hown6.out (Ext.next HE3.out HEw3.out) Hgo0.out hE1 hown1
          go_roundw
          case rel => exact ⟨rfl, .inr ⟨by go_num, go, co, gs, cs, rfl, H1, H2, H3⟩⟩
          case measure => simp [intOf]
    · obtain ⟨k, hk⟩ := lat_of hX.out
      have HO1 := Lib.hid (hk ▸ ho1.out)
      have HO2 := Lib.hid (hk ▸ ho2.out)
      subst hk
      go_wp2_with fail
      obtain ⟨r0, r1, r2, r3⟩ := Lat.run (ext_blk k.ok HR.out)
      go_loopw [3, 4] (fun s3 s4 wr => s4 = .int .i64 0 ∧ s3 = .slice (some ⟨go, 0, none⟩) 1 co ∧ wr = k.world) (fun _ _ _ => 0)
      case atStart => exact ⟨rfl, rfl, rfl⟩
      case round =>
        obtain ⟨rfl, rfl, rfl⟩ := hrel
        have q1 := r1 ⟨k.world, Ext.rfl' _⟩
        simp only at q1
        clear r0 r1 r2 r3
        go_wp2_with fail
        go_ret
        exact ⟨go, co, gs, cs, rfl, HO1.out, HO2.out, Ext.next HE.out k.ok⟩

end Go.Proofs.Ytfbacopjookplaa
