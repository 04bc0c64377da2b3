/- The walks of the watch's monitors over a moment of no access and one change of state, from Free to Linked. -/
import Derived.Test.YtfbacopjookplaaWatch
import Derived.Test.YtfbacopjookplaaMoments1
namespace Go.Proofs.Ytfbacopjookplaa
open Go.RowKit

set_option maxHeartbeats 2000000 in
theorem allowed_one (B p g1 c1 g2 c2 : Nat) (st ho : List Int) (w : World) (h : SlotsObj w B p g1 c1 g2 c2 2 st ho) :
    Calls Try.prog 152 #[.pointer (some ⟨p, 0, none⟩), .agg #[.int .i64 1, .int .i64 0, .int .i64 0, .int .i64 0, .int .i64 3]] w fun e w' => e = .returned (.bool false) ∧ Ext w w' := by
  go_enter Try.func152, Try.ntmps152
  go_upto_region 1 with fail
  obtain ⟨w0, hw0, hX, hE, _⟩ := enter1 w (.cells #[.int .i64 1, .int .i64 0, .int .i64 0, .int .i64 0, .int .i64 3] 136)
  rw [hw0]
  have HE := Lib.hid hE
  obtain ⟨x0, x1, x2, x3, x4⟩ := Sh.boxed (mv := 1) (th := 0) (sl := 0) (fr := 0) (t5 := 3) hX
  obtain ⟨y0, y1⟩ := (h.ext hE).lat
  obtain ⟨y, _, hy⟩ := (h.ext hE).lat2 (j := 0) (by omega)
  obtain ⟨k0, hk0⟩ := lat_self w0
  rw [hk0]
  clear hw0 hX hE hk0 h
  refine wp_region_cls (Ext w0) (Ext.drew1 k0.ok) (by kernel_rfl) (by kernel_rfl) ?_
  repeat (go_big_quiet_step (fail))
  refine wpQuiet_nil ?_
  rintro _ ⟨k1, rfl⟩
  go_wp2_with fail
  go_ret
  exact ⟨rfl, Ext.next HE.out k1.ok⟩

/-- A moment of no access asks nothing of touches and names. -/
theorem touches_idle (b gs cs : Nat) (m : Int) (w : World) :
    Calls Try.prog 116 #[.pointer (some ⟨b, 0, none⟩), .agg #[.int .i64 m, .pointer none, .slice (some ⟨gs, 0, none⟩) 1 cs]] w fun e w' => e = .returned (.tuple #[]) ∧ Ext w w' := by
  go_enter Try.func116, Try.ntmps116
  go_wp2_with fail
  exact bodyPost_ret (v := .tuple #[]) (results_none rfl _ _ _) rfl ⟨rfl, (Ext.rfl' w).alloc1 _⟩
theorem names_idle (b gs cs : Nat) (m : Int) (w : World) :
    Calls Try.prog 117 #[.pointer (some ⟨b, 0, none⟩), .agg #[.int .i64 m, .pointer none, .slice (some ⟨gs, 0, none⟩) 1 cs]] w fun e w' => e = .returned (.tuple #[]) ∧ Ext w w' := by
  go_enter Try.func117, Try.ntmps117
  go_upto_region 2 with fail
  obtain ⟨w0, hw0, hX, hE, _⟩ := enter1 w (.cells #[.int .i64 m, .pointer none, .slice (some ⟨gs, 0, none⟩) 1 cs] 189)
  rw [hw0]
  have HE := Lib.hid hE
  obtain ⟨k0, hk0⟩ := lat_self w0
  rw [hk0]
  clear hw0 hX hE hk0
  refine wp_region_cls (Ext w0) (Ext.drew1 k0.ok) (by kernel_rfl) (by kernel_rfl) ?_
  repeat (go_big_quiet_step (fail))
  refine wpQuiet_nil ?_
  rintro _ ⟨k1, rfl⟩
  go_wp2_with fail
  exact bodyPost_ret (v := .tuple #[]) (results_none rfl _ _ _) rfl ⟨rfl, Ext.next HE.out k1.ok⟩

theorem only_later {S : Nat → Prop} {a b c : World} (h : Only S a b) (e : Ext b c) : Only S a c := h.trans (Only.of_ext (S := S) e) fun _ _ hs => hs
def holdsU : List Value := [.int .i64 (-1), .bool false, .int .i64 (-1), .bool false, .int .i64 (-1), .bool false]
theorem elemFault : Elem Try.prog 65 3 24 := Elem.of (z := .agg #[.int .i64 0, .int .i64 0, .int .i64 0]) (by kernel_rfl) (by simp [Value.cells]) (by omega) (by omega)
theorem blk_two {w : World} {a b : Nat} {cs ds : Array Value} {t u : TypeId} (h : w.heap[a]? = some (.cells cs t (0, 0))) (k : w.heap[b]? = some (.cells ds u (0, 0))) (hne : t ≠ u) : a ≠ b := by
  intro e
  rw [e, k] at h
  injection h with h
  injection h with _ h
  exact hne h.symm

/-- What the watch holds ahead of the shift. -/
structure Awk (w : World) (B b p g1 c1 g2 c2 gh ch : Nat) (fr : List Value) (pk st ho : List Int) : Prop where
  wat : WObj w b fr pk
  slo : SlotsObj w B p g1 c1 g2 c2 2 st ho
  hol : w.ownsRow B 182 2 (.slice (some ⟨gh, 0, none⟩) 3 ch) 3 holdsU
  f7 : fr[7]? = some (.pointer (some ⟨p, 0, none⟩))
  f9 : fr[9]? = some (.slice (some ⟨gh, 0, none⟩) 3 ch)
  low : B ≤ b
theorem Awk.ext {w w' : World} {B b p g1 c1 g2 c2 gh ch : Nat} {fr : List Value} {pk st ho : List Int} (h : Awk w B b p g1 c1 g2 c2 gh ch fr pk st ho) (e : Ext w w') : Awk w' B b p g1 c1 g2 c2 gh ch fr pk st ho :=
  ⟨h.wat.ext e, h.slo.ext e, own_ext h.hol e, h.f7, h.f9, h.low⟩
theorem Awk.ne {w : World} {B b p g1 c1 g2 c2 gh ch : Nat} {fr : List Value} {pk st ho : List Int} (h : Awk w B b p g1 c1 g2 c2 gh ch fr pk st ho) : b ≠ p ∧ b ≠ g1 ∧ b ≠ g2 ∧ b ≠ gh ∧ gh ≠ p ∧ gh ≠ g1 ∧ gh ≠ g2 :=
  ⟨blk_two h.wat.blk h.slo.blk (by decide), fun e => own_apart h.slo.own1 h.wat.blk (by decide) (by rw [e]; rfl), fun e => own_apart h.slo.own2 h.wat.blk (by decide) (by rw [e]; rfl), fun e => own_apart h.hol h.wat.blk (by decide) (by rw [e]; rfl),
    fun e => own_apart h.hol h.slo.blk (by decide) (by rw [e]; rfl), fun e => own_two h.hol h.slo.own1 (by decide) gh rfl (by rw [e]; rfl), fun e => own_two h.hol h.slo.own2 (by decide) gh rfl (by rw [e]; rfl)⟩
/-- A fault is told: row gf holds it, the watch names it. -/
def Told (w : World) (B gf cf : Nat) (fr : List Value) : Prop := fr[11]? = some (.slice (some ⟨gf, 0, none⟩) 1 cf) ∧ w.ownsRow B 65 3 (.slice (some ⟨gf, 0, none⟩) 1 cf) 1 [.int .i64 3, .int .i64 1, .int .i64 0]
theorem Told.ext {w w' : World} {B gf cf : Nat} {fr : List Value} (h : Told w B gf cf fr) (e : Ext w w') : Told w' B gf cf fr := ⟨h.1, own_ext h.2 e⟩
theorem Awk.watch {w w' : World} {B b p g1 c1 g2 c2 gh ch : Nat} {fr fr' : List Value} {pk pk' st ho : List Int} (h : Awk w B b p g1 c1 g2 c2 gh ch fr pk st ho) (hw : WObj w' b fr' pk') (o : Only (fun q => q = b) w w') (h7 : fr'[7]? = fr[7]?) (h9 : fr'[9]? = fr[9]?) : Awk w' B b p g1 c1 g2 c2 gh ch fr' pk' st ho := by
  obtain ⟨n1, n2, n3, n4, _⟩ := h.ne
  refine ⟨hw, h.slo.only o (fun e => n1 e.symm) (fun e => n2 e.symm) (fun e => n3 e.symm), own_only h.hol o (fun q hq e => n4 ?_), h7.trans h.f7, h9.trans h.f9, h.low⟩
  have hq' : some gh = some q := hq
  injection hq' with hq'
  rw [hq', e]
theorem Awk.put {w w' : World} {B b p g1 c1 g2 c2 gh ch : Nat} {fr : List Value} {pk st ho st' ho' : List Int} (h : Awk w B b p g1 c1 g2 c2 gh ch fr pk st ho) (hs : SlotsObj w' B p g1 c1 g2 c2 2 st' ho') (o : Only (fun q => q = g1 ∨ q = g2) w w') : Awk w' B b p g1 c1 g2 c2 gh ch fr pk st' ho' := by
  obtain ⟨n1, n2, n3, n4, n5, n6, n7⟩ := h.ne
  refine ⟨h.wat.only o (fun e => e.elim n2 n3), hs, own_only h.hol o (fun q hq e => ?_), h.f7, h.f9, h.low⟩
  have hq' : some gh = some q := hq
  injection hq' with hq'
  subst hq'
  exact e.elim n6 n7
theorem Told.only {w w' : World} {B gf cf : Nat} {fr : List Value} {S : Nat → Prop} (h : Told w B gf cf fr) (o : Only S w w') (hs : ¬ S gf) : Told w' B gf cf fr := ⟨h.1, own_only h.2 o fun q hq e => by
  have hq' : some gf = some q := hq
  injection hq' with hq'
  exact hs (hq' ▸ e)⟩

/-- Behind the fault's append and store. -/
theorem told_meet {w4 w1 : World} {B b p g1 c1 g2 c2 gh ch gf cf : Nat} {fr : List Value} {pk st ho : List Int} (h : Awk w4 B b p g1 c1 g2 c2 gh ch fr pk st ho) (e : Ext w4 w1) (ho1 : w1.ownsRow B 65 3 (.slice (some ⟨gf, 0, none⟩) 1 cf) 1 [.int .i64 3, .int .i64 1, .int .i64 0]) :
    Awk (w1.setCell ⟨b, 11, none⟩ (.slice (some ⟨gf, 0, none⟩) 1 cf)) B b p g1 c1 g2 c2 gh ch (fr.set 11 (.slice (some ⟨gf, 0, none⟩) 1 cf)) pk st ho ∧ Told (w1.setCell ⟨b, 11, none⟩ (.slice (some ⟨gf, 0, none⟩) 1 cf)) B gf cf (fr.set 11 (.slice (some ⟨gf, 0, none⟩) 1 cf)) ∧
      Only (fun q => q = b) w4 (w1.setCell ⟨b, 11, none⟩ (.slice (some ⟨gf, 0, none⟩) 1 cf)) := by
  have h1 := h.ext e
  obtain ⟨hw, o⟩ := h1.wat.set_front 11 (by omega) (.slice (some ⟨gf, 0, none⟩) 1 cf)
  have hl := h.wat.len1
  refine ⟨h1.watch hw o (by rw [List.getElem?_set_ne (by omega)]) (by rw [List.getElem?_set_ne (by omega)]), ⟨by rw [List.getElem?_set_self (by omega)], own_only ho1 o fun q hq hs => own_apart ho1 h1.wat.blk (by decide) (by rw [hq, hs])⟩, ?_⟩
  exact (Only.of_ext (S := fun q => q = b) e).trans o fun _ _ hq => hq

theorem hold_at {i : Nat} (h : i < 3) : holdsU[i * 2]? = some (.int .i64 (-1)) ∧ holdsU[i * 2 + 1]? = some (.bool false) ∧ holdsU.set (i * 2 + 1) (.bool false) = holdsU := by
  rcases (by omega : i = 0 ∨ i = 1 ∨ i = 2) with rfl | rfl | rfl <;> exact ⟨rfl, rfl, rfl⟩
theorem hold_put {w : World} {B b p g1 c1 g2 c2 gh ch i : Nat} {fr : List Value} {pk st ho : List Int} (h : Awk w B b p g1 c1 g2 c2 gh ch fr pk st ho) (hu : holdsU.set (i * 2 + 1) (.bool false) = holdsU) :
    Awk (w.setCell ⟨gh, i * 2 + 1, none⟩ (.bool false)) B b p g1 c1 g2 c2 gh ch fr pk st ho ∧ Only (fun q => q = gh) w (w.setCell ⟨gh, i * 2 + 1, none⟩ (.bool false)) := by
  obtain ⟨n1, n2, n3, n4, n5, n6, n7⟩ := h.ne
  have o : Only (fun q => q = gh) w (w.setCell ⟨gh, i * 2 + 1, none⟩ (.bool false)) := (Only.refl _ _).setCell _ _ fun _ => rfl
  have hr := (h.hol.stored (i * 2 + 1) (.bool false)).1
  rw [hu] at hr
  exact ⟨⟨h.wat.only o n4, h.slo.only o (fun e => n5 e.symm) (fun e => n6 e.symm) (fun e => n7 e.symm), hr, h.f7, h.f9, h.low⟩, o⟩

/-- What changes leaves. -/
def ChangeOut (w : World) (B b : Nat) (e : Ending) (w' : World) : Prop :=
  e = .returned (.tuple #[]) ∧ ∃ fr' pk' gf cf, WObj w' b fr' pk' ∧ Told w' B gf cf fr' ∧ Only (fun q => B ≤ q) w w'

set_option maxRecDepth 100000 in
set_option maxHeartbeats 4000000 in
theorem changes_one (B b p g1 c1 g2 c2 gh ch gs cs : Nat) (fr : List Value) (pk : List Int) (w : World) (h : Awk w B b p g1 c1 g2 c2 gh ch fr pk [0, 0] [-1, -1]) (h11 : fr[11]? = some (.slice none 0 0)) (hB : B ≤ w.heap.size)
    (hs : w.ownsRow B 136 5 (.slice (some ⟨gs, 0, none⟩) 1 cs) 1 [.int .i64 1, .int .i64 0, .int .i64 0, .int .i64 0, .int .i64 3]) :
    Calls Try.prog 118 #[.pointer (some ⟨b, 0, none⟩), .agg #[.int .i64 1, .pointer none, .slice (some ⟨gs, 0, none⟩) 1 cs]] w (ChangeOut w B b) := by
  have H := Lib.hid h
  have HF := Lib.hid h11
  have HS := Lib.hid hs
  have HB := Lib.hid hB
  clear h h11 hs hB
  go_enter Try.func118, Try.ntmps118
  go_upto_region 1 with fail
  obtain ⟨w0, hw0, hM, hE, hlt0⟩ := enter1 w (.cells #[.int .i64 1, .pointer none, .slice (some ⟨gs, 0, none⟩) 1 cs] 189)
  rw [hw0]
  have HE := Lib.hid hE
  have HM := Lib.hid hM
  obtain ⟨m0, m1, m2⟩ := Lat.cells3 hM
  obtain ⟨k0, hk0⟩ := lat_self w0
  rw [hk0]
  clear hw0 hM hE hk0
  have HB0 : Hid (B ≤ w0.heap.size) := Nat.le_trans HB.out HE.out.size
  generalize w.heap.size = pm at *
  go_upto_region 2 with fail
  go_loopw [11] (fun s11 wr => (s11 = .int .i64 0 ∧ ∃ k : Lat w0, wr = k.world) ∨ (s11 = .int .i64 1 ∧ ∃ fr' pk' gf cf, Hid (WObj wr b fr' pk') ∧ Hid (Told wr B gf cf fr') ∧ Hid (Only (fun q => B ≤ q) w wr))) (fun s _ => 1 - (intOf s).toNat)
  case atStart => exact .inl ⟨rfl, k0, rfl⟩
  case round =>
    clear k0
    rcases hrel with ⟨rfl, k, rfl⟩ | ⟨rfl, fr', pk', gf, cf, hw, ht, ho⟩
    · have hs0 := own_ext HS.out HE.out
      have x0 : ∀ c : Lat w0, c.world.cell? ⟨gs, 0, none⟩ = some (.int .i64 1) := fun c => (own_ext hs0 c.ok).cellAt 0 (by omega)
      have x1 : ∀ c : Lat w0, c.world.cell? ⟨gs, 1, none⟩ = some (.int .i64 0) := fun c => (own_ext hs0 c.ok).cellAt 1 (by omega)
      have x2 : ∀ c : Lat w0, c.world.cell? ⟨gs, 2, none⟩ = some (.int .i64 0) := fun c => (own_ext hs0 c.ok).cellAt 2 (by omega)
      have x3 : ∀ c : Lat w0, c.world.cell? ⟨gs, 3, none⟩ = some (.int .i64 0) := fun c => (own_ext hs0 c.ok).cellAt 3 (by omega)
      have x4 : ∀ c : Lat w0, c.world.cell? ⟨gs, 4, none⟩ = some (.int .i64 3) := fun c => (own_ext hs0 c.ok).cellAt 4 (by omega)
      go_upto_region 4 with fail
      obtain ⟨w3, hw3, hX, hE3, hlt3⟩ := enter1 k.world (.cells #[.int .i64 1, .int .i64 0, .int .i64 0, .int .i64 0, .int .i64 3] 136)
      rw [hw3]
      clear x0 x1 x2 x3 x4 hs0 m0 m1 m2
      have HE3 := Lib.hid (Ext.next k.ok hE3)
      have H3 := Lib.hid (H.out.ext (Ext.next HE.out HE3.out))
      obtain ⟨m0, m1, m2⟩ := Lat.cells3 (ext_blk HE3.out HM.out)
      obtain ⟨x0, x1, x2, x3, x4⟩ := Sh.boxed (mv := 1) (th := 0) (sl := 0) (fr := 0) (t5 := 3) hX
      have q7 := H3.out.wat.cell H3.out.f7
      have hal := fun c : Lat w3 => allowed_one B p g1 c1 g2 c2 [0, 0] [-1, -1] c.world (H3.out.slo.ext c.ok)
      have HX := Lib.hid hX
      have hpx : k.world.heap.size < w3.heap.size := hlt3
      obtain ⟨k3, hk3⟩ := lat_self w3
      rw [hk3]
      generalize k.world.heap.size = px at *
      clear hw3 hX hE3 hk3 hlt3
      refine wp_region_cls (Ext w3) (Ext.drew1 k3.ok) (by kernel_rfl) (by kernel_rfl) ?_
      repeat (go_big_quiet_step (exact calls_cls (keeps_ext _) (hal _)))
      refine wpQuiet_nil ?_
      rintro _ ⟨k4, rfl⟩
      clear hal
      go_upto_region 5 with fail
      obtain ⟨w4, hw4⟩ : ∃ w4, k4.world = w4 := ⟨_, rfl⟩
      have HE4 : Hid (Ext w3 w4) := hw4 ▸ k4.ok
      rw [hw4]
      have H4 := Lib.hid (H3.out.ext HE4.out)
      have hB4 : B ≤ w4.heap.size := Nat.le_trans HB0.out (Nat.le_trans HE3.out.size HE4.out.size)
      have y0 := m0 ⟨w4, HE4.out⟩
      have y2 := x2 ⟨w4, HE4.out⟩
      have yb : w4.cell? ⟨b, 11, none⟩ = some (.slice none 0 0) := H4.out.wat.cell HF.out ⟨w4, Ext.rfl' _⟩
      have yf : w4.frozen? ⟨b, 11, none⟩ = false := H4.out.wat.free 11 ⟨w4, Ext.rfl' _⟩
      simp only at y0 y2
      have hb4 : b < w4.heap.size := blk_lt H4.out.wat.blk
      have hp4 : px < w4.heap.size := Nat.lt_of_lt_of_le hpx HE4.out.size
      have hm4 : pm < w4.heap.size := blk_lt (ext_blk (Ext.next HE3.out HE4.out) HM.out)
      have hb5 : b ≠ w4.heap.size := by omega
      have hp5 : px ≠ w4.heap.size := by omega
      have hm5 : pm ≠ w4.heap.size := by omega
      have hcl : ([.int .i64 3, .int .i64 1, .int .i64 0] : List Value).length = 1 * 3 := rfl
      have hrd := Rd.made w4 [.int .i64 3, .int .i64 1, .int .i64 0] 65
      have hone : ∀ u ∈ ([.int .i64 3, .int .i64 1, .int .i64 0] : List Value), u.oneCell' = true := by intro u hu; simp at hu; rcases hu with rfl | rfl | rfl <;> rfl
      clear hw4 m0 m1 m2 x0 x1 x2 x3 x4 q7 hpx
      go_cut [] (fun w' => ∃ gf cf, Hid (Awk w' B b p g1 c1 g2 c2 gh ch (fr.set 11 (.slice (some ⟨gf, 0, none⟩) 1 cf)) pk [0, 0] [-1, -1]) ∧ Hid (Told w' B gf cf (fr.set 11 (.slice (some ⟨gf, 0, none⟩) 1 cf))) ∧ Hid (Only (fun q => q = b) w4 w'))
      case first =>
        go_region_law ((refine step_appendR _ rfl (.tmp 26) (.tmp 32) 58 rfl B 65 3 24 elemFault Try.underlying58 (.slice none 0 0) 0 [] (by simp [Act.eval]) (World.ownsRow_nil _ _ _ _) (some ⟨w4.heap.size, 0, none⟩) 1 1 [.int .i64 3, .int .i64 1, .int .i64 0] (by simp [Act.eval]) hcl (by first | exact hrd | exact hrd.ext (Ext.rfl' _).drew1) hone (by omega) (by simp; omega) ?_; intro v' w1 hown1 hgrow1 hat1; have hE1 : Ext w4 w1 := Ext.next (by first | exact (Ext.rfl' w4).alloc1 _ | exact ((Ext.rfl' w4).alloc1 _).drew1) ((Only.of_grown hgrow1).ext fun q _ hq => by cases hq); have hc1 : w1.cell? ⟨b, 11, none⟩ = some (.slice none 0 0) := H4.out.wat.cell HF.out ⟨w1, hE1⟩; have hf1 : w1.frozen? ⟨b, 11, none⟩ = false := H4.out.wat.free 11 ⟨w1, hE1⟩; obtain ⟨gf, cf, rfl, _, hgf, _⟩ := own_form1 hown1 (by omega)))
        all_goals
          have hm := told_meet H4.out hE1 hown1
          go_wp2_with fail
          go_meet
          case rel => exact ⟨gf, cf, hm.1, hm.2.1, hm.2.2⟩
      obtain ⟨gf, cf, h5, h6, h7⟩ := hcut
      have hpb : px ≠ b := blk_two HX.out H3.out.wat.blk (by decide)
      have HX5 : Hid (wc.heap[px]? = some (.cells #[.int .i64 1, .int .i64 0, .int .i64 0, .int .i64 0, .int .i64 3] 136 (0, 0))) := (h7.out.block px hp4 hpb).trans (ext_blk HE4.out HX.out)
      have HN5 : Hid (Only (fun q => B ≤ q) w wc) := (Only.of_ext (S := fun q => B ≤ q) (Ext.next HE.out (Ext.next HE3.out HE4.out))).trans (h7.out.mono (S' := fun q => B ≤ q) fun q _ hq => by rw [hq]; exact h5.out.low) fun _ _ hq => hq
      clear y0 y2 yb yf hb4 hp4 hm4 hb5 hp5 hm5 hcl hrd hone hB4 hpb
      obtain ⟨x0, x1, x2, x3, x4⟩ := Sh.boxed (mv := 1) (th := 0) (sl := 0) (fr := 0) (t5 := 3) HX5.out
      have q7 := h5.out.wat.cell h5.out.f7
      obtain ⟨k5, hk5⟩ := lat_self wc
      rw [hk5]
      clear hk5
      go_upto_region 10 with fail
      refine wp_region_cls_tail (Ext wc) 5 (Ext.drew1 k5.ok) (by kernel_rfl) (by kernel_rfl) ?_
      simp only [List.take_succ_cons, List.take_zero, List.drop_succ_cons, List.drop_zero]
      repeat (go_big_quiet_step (fail))
      refine wpQuiet_nil ?_
      rintro _ ⟨k6, rfl⟩
      go_wp2_with fail
      refine (put_any B p g1 c1 g2 c2 2 [0, 0] [-1, -1] ⟨1, 0, 0, 0, 3⟩ 0 rfl (by omega) _ (h5.out.slo.ext k6.ok)).mono ?_
      rintro e w7 ⟨rfl, hT, o7⟩
      have H7 := Lib.hid ((h5.out.ext k6.ok).put hT o7)
      have T7 := Lib.hid ((h6.out.ext k6.ok).only o7 fun e => e.elim (fun e => own_two h6.out.2 h5.out.slo.own1 (by decide) gf rfl (by rw [e]; rfl)) fun e => own_two h6.out.2 h5.out.slo.own2 (by decide) gf rfl (by rw [e]; rfl))
      have HX7 : Hid (w7.heap[px]? = some (.cells #[.int .i64 1, .int .i64 0, .int .i64 0, .int .i64 0, .int .i64 3] 136 (0, 0))) := (o7.block px (blk_lt (ext_blk k6.ok HX5.out)) fun e => e.elim (fun e => own_apart h5.out.slo.own1 HX5.out (by decide) (by rw [e]; rfl)) fun e => own_apart h5.out.slo.own2 HX5.out (by decide) (by rw [e]; rfl)).trans (ext_blk k6.ok HX5.out)
      have hg := (h5.out.slo.own1.lt g1 rfl).1
      have hg' := (h5.out.slo.own2.lt g2 rfl).1
      have HN7 : Hid (Only (fun q => B ≤ q) w w7) := (only_later HN5.out k6.ok).trans (o7.mono (S' := fun q => B ≤ q) fun q _ hq => by rcases hq with rfl | rfl <;> assumption) fun _ _ hq => hq
      clear hT o7 hg hg' x0 x1 x2 x3 x4 q7
      obtain ⟨x0, x1, x2, x3, x4⟩ := Sh.boxed (mv := 1) (th := 0) (sl := 0) (fr := 0) (t5 := 3) HX7.out
      have q9 := H7.out.wat.cell H7.out.f9
      obtain ⟨k7, hk7⟩ := lat_self w7
      rw [hk7]
      go_upto_region 13 with fail
      rw [← hk7]
      clear hk7 x0 x1 x2 x3 x4 q9
      go_loopw [79] (fun s79 wr => ∃ i : Nat, i ≤ 3 ∧ s79 = .int .i64 i ∧ Hid (Awk wr B b p g1 c1 g2 c2 gh ch (fr.set 11 (.slice (some ⟨gf, 0, none⟩) 1 cf)) pk (putS ⟨1, 0, 0, 0, 3⟩ [0, 0]) (putH ⟨1, 0, 0, 0, 3⟩ [-1, -1])) ∧ Hid (Told wr B gf cf (fr.set 11 (.slice (some ⟨gf, 0, none⟩) 1 cf))) ∧ Hid (Only (fun q => B ≤ q) w wr) ∧ Hid (wr.heap[px]? = some (.cells #[.int .i64 1, .int .i64 0, .int .i64 0, .int .i64 0, .int .i64 3] 136 (0, 0)))) (fun s _ => 3 - (intOf s).toNat)
      case atStart => exact ⟨0, by omega, rfl, H7, T7, HN7, HX7⟩
      case round =>
        clear H7 T7 HN7 HX7 HX5 HN5 k7
        obtain ⟨i, hi, rfl, H8, T8, HN8, HX8⟩ := hrel
        obtain ⟨x0, x1, x2, x3, x4⟩ := Sh.boxed (mv := 1) (th := 0) (sl := 0) (fr := 0) (t5 := 3) HX8.out
        have q9 := H8.out.wat.cell H8.out.f9
        by_cases hlt : i < 3
        · have h1 : (i : Int) < (3 : Int) := by omega
          have hi0 : (0 : Int) ≤ (i : Int) := by omega
          obtain ⟨u1, u2, u3⟩ := hold_at hlt
          have z0 : ∀ c : Lat wr, c.world.cell? ⟨gh, i * 2, none⟩ = some (.int .i64 (-1)) := fun c => ((own_ext H8.out.hol c.ok).cellAt (i * 2) (by omega)).trans u1
          have z1 : ∀ c : Lat wr, c.world.cell? ⟨gh, i * 2 + 1, none⟩ = some (.bool false) := fun c => ((own_ext H8.out.hol c.ok).cellAt (i * 2 + 1) (by omega)).trans u2
          have zf : ∀ c : Lat wr, c.world.frozen? ⟨gh, i * 2 + 1, none⟩ = false := fun c => (own_ext H8.out.hol c.ok).frozenAt (i * 2 + 1)
          have U3 := Lib.hid u3
          clear u1 u2 u3
          obtain ⟨k8, hk8⟩ := lat_self wr
          rw [hk8]
          clear hk8
          go_upto_region 15 with fail
          refine wp_region_cls_tail (Ext wr) 28 (Ext.drew1 k8.ok) (by kernel_rfl) (by kernel_rfl) ?_
          simp only [List.take_succ_cons, List.take_zero, List.drop_succ_cons, List.drop_zero]
          repeat (go_big_quiet_step (fail))
          refine wpQuiet_nil ?_
          rintro _ ⟨k9, rfl⟩
          go_wp2_with fail
          have hst := hold_put (H8.out.ext k9.ok) (i := i) U3.out
          go_roundw
          case rel =>
            refine ⟨i + 1, by omega, by go_num, hst.1, (T8.out.ext k9.ok).only hst.2 (fun e => own_two T8.out.2 H8.out.hol (by decide) gf rfl (by rw [e]; rfl)), (only_later HN8.out k9.ok).trans (hst.2.mono (S' := fun q => B ≤ q) fun q _ hq => by rw [hq]; exact (H8.out.hol.lt gh rfl).1) fun _ _ hq => hq, ?_⟩
            exact (hst.2.block px (blk_lt (ext_blk k9.ok HX8.out)) fun e => own_apart H8.out.hol HX8.out (by decide) (by rw [e]; rfl)).trans (ext_blk k9.ok HX8.out)
          case measure => simp [intOf]; omega
        · obtain rfl : 3 = i := by omega
          obtain ⟨k8, hk8⟩ := lat_self wr
          rw [hk8]
          have H9 := Lib.hid (H8.out.ext k8.ok)
          have T9 := Lib.hid (T8.out.ext k8.ok)
          have HN9 := Lib.hid (only_later HN8.out k8.ok)
          clear hk8
          go_wp2_with fail
          refine (count_any B b p g1 c1 g2 c2 2 _ pk _ _ _ H9.out.wat H9.out.f7 H9.out.slo (by intro x hx; simp [putS] at hx; omega) (by omega) ⟨H9.out.ne.1, H9.out.ne.2.1, H9.out.ne.2.2.1⟩).mono ?_
          rintro e w9 ⟨rfl, pk', hW, o9⟩
          have hT9 := Lib.hid (T9.out.only o9 fun e => own_apart T9.out.2 H9.out.wat.blk (by decide) (by rw [e]; rfl))
          have hN9 := Lib.hid (HN9.out.trans (o9.mono (S' := fun q => B ≤ q) fun q _ hq => by rw [hq]; exact H9.out.low) fun _ _ hq => hq)
          have hW9 := Lib.hid hW
          clear hW o9
          go_wp2_with fail
          go_roundw
          case rel => exact .inr ⟨by go_num, _, pk', gf, cf, hW9, hT9, hN9⟩
          case measure => simp [intOf]
    · go_wp2_with fail
      go_end0
      exact ⟨rfl, fr', pk', gf, cf, hw.out, ht.out, ho.out⟩

end Go.Proofs.Ytfbacopjookplaa
