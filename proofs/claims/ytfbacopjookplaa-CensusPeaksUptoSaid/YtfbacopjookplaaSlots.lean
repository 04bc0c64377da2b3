/- The walks of census.begin and put: the slots' states and holders in memory. -/
import Derived.Test.YtfbacopjookplaaFirst
import Derived.Test.YtfbacopjookplaaTail
namespace Go.Proofs.Ytfbacopjookplaa
open Go.RowKit

def beginS (s u : Nat) : List Int := (List.range s).map fun i => if i < u then 3 else 0
theorem beginS_len (s u : Nat) : (beginS s u).length = s := by simp [beginS]
theorem beginS_step (s u : Nat) : beginS (s + 1) u = beginS s u ++ [if s < u then 3 else 0] := by simp [beginS, List.range_succ]
def putS (x : Sh) (st : List Int) : List Int := st.set x.sl.toNat x.to
def putH (x : Sh) (ho : List Int) : List Int := ho.set x.sl.toNat (if x.to = 0 ∨ x.to = 3 then -1 else x.th)

/-- The slots' object: its struct at p, the states at g1, the holders at g2. -/
structure SlotsObj (w : World) (B p g1 c1 g2 c2 : Nat) (n : Nat) (st ho : List Int) : Prop where
  blk : w.heap[p]? = some (.cells #[.slice (some ⟨g1, 0, none⟩) n c1, .slice (some ⟨g2, 0, none⟩) n c2] 139 (0, 0))
  own1 : w.ownsRow B 76 1 (.slice (some ⟨g1, 0, none⟩) n c1) n (st.map (Value.int .i64))
  own2 : w.ownsRow B 3 1 (.slice (some ⟨g2, 0, none⟩) n c2) n (ho.map (Value.int .i64))
  low : B ≤ p
theorem SlotsObj.ext {w w' : World} {B p g1 c1 g2 c2 n : Nat} {st ho : List Int} (h : SlotsObj w B p g1 c1 g2 c2 n st ho) (e : Ext w w') : SlotsObj w' B p g1 c1 g2 c2 n st ho := ⟨ext_blk e h.blk, own_ext h.own1 e, own_ext h.own2 e, h.low⟩
theorem SlotsObj.only {w w' : World} {B p g1 c1 g2 c2 n : Nat} {st ho : List Int} {X : Nat → Prop} (h : SlotsObj w B p g1 c1 g2 c2 n st ho) (o : Only X w w') (h0 : ¬ X p) (h1 : ¬ X g1) (h2 : ¬ X g2) : SlotsObj w' B p g1 c1 g2 c2 n st ho :=
  ⟨(o.block p (blk_lt h.blk) h0).trans h.blk, own_only h.own1 o (fun k hk => by injection hk with hk; subst hk; exact h1), own_only h.own2 o (fun k hk => by injection hk with hk; subst hk; exact h2), h.low⟩
theorem SlotsObj.lens {w : World} {B p g1 c1 g2 c2 n : Nat} {st ho : List Int} (h : SlotsObj w B p g1 c1 g2 c2 n st ho) : st.length = n ∧ ho.length = n := by
  have h1 := h.own1.1
  have h2 := h.own2.1
  simp at h1 h2
  exact ⟨h1, h2⟩
theorem SlotsObj.ne {w : World} {B p g1 c1 g2 c2 n : Nat} {st ho : List Int} (h : SlotsObj w B p g1 c1 g2 c2 n st ho) : p ≠ g1 ∧ p ≠ g2 ∧ g1 ≠ g2 := by
  refine ⟨fun e => own_apart h.own1 h.blk (by decide) (by rw [e]; rfl), fun e => own_apart h.own2 h.blk (by decide) (by rw [e]; rfl), fun e => ?_⟩
  obtain ⟨_, h2 | ⟨g, cap, cur, hv, _, hg, _⟩⟩ := h.own2
  · cases h2.1
  · injection hv with hv _ _
    injection hv with hv
    injection hv with hv
    subst hv
    exact own_apart h.own1 hg (by decide) (by rw [e]; rfl)

theorem elemState : Elem Try.prog 76 1 8 := Elem.of (z := .int .i64 0) (by kernel_rfl) rfl (by omega) (by omega)
theorem elemInt' : Elem Try.prog 3 1 8 := Elem.of (z := .int .i64 0) (by kernel_rfl) rfl (by omega) (by omega)

def BeginOut (w : World) (s u : Nat) (e : Ending) (w' : World) : Prop :=
  ∃ p g1 c1 g2 c2, e = .returned (.pointer (some ⟨p, 0, none⟩)) ∧ SlotsObj w' w.heap.size p g1 c1 g2 c2 s (beginS s u) (List.replicate s (-1)) ∧ Ext w w'

set_option maxHeartbeats 2000000 in
theorem begin_any (T R H Re Ca S B : Int) (s : Nat) (hS : S = s) (hs1 : 1 ≤ s) (hs2 : s ≤ 1024) (u : Nat) (w : World) :
    Calls Try.prog 72 #[(.agg #[.int .i64 T, .int .i64 R, .int .i64 H, .int .i64 Re, .int .i64 Ca, .int .i64 S, .int .i64 B]), .int .i64 u] w (BeginOut w s u) := by
  subst hS
  go_enter Try.func72, Try.ntmps72
  go_upto_region 2 with fail
  obtain ⟨w1, hw1, hC, hP, hE, hlt⟩ := enter2 w (.cells (cfgV T R H Re Ca s B) 23) (.cells #[.slice none 0 0, .slice none 0 0] 139)
  rw [hw1]
  have HE := Lib.hid hE
  have HP := Lib.hid hP
  have HC := Lib.hid hC
  clear hw1 hC hP hE
  obtain ⟨d0, d1, d2, d3, d4, d5, d6⟩ := cfgCells HC.out
  go_wp2_with fail
  go_loopw [12] (fun s12 wr => ∃ (i : Nat) (v1 v2 : Value), s12 = .int .i64 i ∧ i ≤ s ∧ Hid (wr.heap[w.heap.size + 1]? = some (.cells #[v1, v2] 139 (0, 0))) ∧ Hid (wr.ownsRow w.heap.size 76 1 v1 i ((beginS i u).map (Value.int .i64))) ∧ Hid (wr.ownsRow w.heap.size 3 1 v2 i ((List.replicate i (-1)).map (Value.int .i64))) ∧ Ext w wr) (fun v _ => s - (intOf v).toNat)
  case atStart => exact ⟨0, _, _, rfl, by omega, HP.out, World.ownsRow_nil _ _ _ _, World.ownsRow_nil _ _ _ _, HE.out⟩
  case round =>
    obtain ⟨i, v1, v2, rfl, hi, hblk, ho1, ho2, hext⟩ := hrel
    by_cases hlt : i < s
    · have hsz := hext.size
      have HX := Lib.hid hext
      have hlt1 : (i : Int) < (s : Int) := by omega
      have hc0 := cellOf (i := 0) (u := v1) hblk.out rfl
      have hf0 := freeOf hblk.out 0
      have hown1 := ho1.out
      clear hext
      by_cases hiu : i < u
      case' pos =>
        have hiu1 : (i : Int) < (u : Int) := by omega
        have hb : Hid (beginS (i + 1) u = beginS i u ++ [3]) := by show _ = _; rw [beginS_step, if_pos hiu]
      case' neg =>
        have hiu1 : (u : Int) ≤ (i : Int) := by omega
        have hb : Hid (beginS (i + 1) u = beginS i u ++ [0]) := by show _ = _; rw [beginS_step, if_neg hiu]
      all_goals
        go_upto_region 9 with (at_builtin; refine wpList_push _ rfl _ _ 71 rfl w.heap.size 76 1 8 elemState Try.underlying71 _ _ _ rfl hown1 _ rfl rfl (by simp [Value.oneCell']) (by omega) hsz ?_; intro v5 w5 hown5 hgrow5 hat5; have hb5 := blk_kept hown1 hblk.out (by decide) hgrow5; have hc5 := cellOf (i := 0) (u := v1) hb5 rfl; have hf5 := freeOf hb5 0; have Hb5 := Lib.hid hb5; clear hb5; obtain ⟨g5, k5, rfl, _, hg5, _⟩ := own_form1 hown5 (by omega))
        have h6b := heap_setCell_same _ (w.heap.size + 1) 0 _ _ (.slice (some ⟨g5, 0, none⟩) (i + 1) k5) Hb5.out
        have h6a := ownsRow_setCell_other hown5 (a := ⟨w.heap.size + 1, 0, none⟩) (own_apart hown5 Hb5.out (by decide)) (.slice (some ⟨g5, 0, none⟩) (i + 1) k5)
        have h5c := own_kept hown1 ho2.out (by decide) hgrow5
        have h6c := ownsRow_setCell_other h5c (a := ⟨w.heap.size + 1, 0, none⟩) (own_apart h5c Hb5.out (by decide)) (.slice (some ⟨g5, 0, none⟩) (i + 1) k5)
        have h6x := ext_set (ext_grown HX.out hown1 (Nat.le_refl _) hgrow5) (g := w.heap.size + 1) (by omega) 0 (.slice (some ⟨g5, 0, none⟩) (i + 1) k5)
        clear hc5 hf5 hown5 hgrow5 hat5 h5c hc0 hf0 hsz
        generalize w5.setCell ⟨w.heap.size + 1, 0, none⟩ (.slice (some ⟨g5, 0, none⟩) (i + 1) k5) = w6 at *
        have hsz6 := h6x.size
        have H6a := Lib.hid h6a
        have H6b : Hid (w6.heap[w.heap.size + 1]? = some (.cells #[.slice (some ⟨g5, 0, none⟩) (i + 1) k5, v2] 139 (0, 0))) := h6b
        have hc1 := cellOf (i := 1) (u := v2) H6b.out rfl
        have hf1 := freeOf H6b.out 1
        have H6x := Lib.hid h6x
        clear h6a h6b h6x
        go_upto_region 10 with (at_builtin; refine wpList_push _ rfl _ _ 26 rfl w.heap.size 3 1 8 elemInt' Try.underlying26 _ _ _ rfl h6c _ rfl rfl (by simp [Value.oneCell']) (by omega) hsz6 ?_; intro v7 w7 hown7 hgrow7 hat7; have hb7 := blk_kept h6c H6b.out (by decide) hgrow7; have hc7 := cellOf (i := 1) (u := v2) hb7 rfl; have hf7 := freeOf hb7 1; have Hb7 := Lib.hid hb7; clear hb7; obtain ⟨g7, k7, rfl, _, hg7, _⟩ := own_form1 hown7 (by omega))
        have h8b := heap_setCell_same _ (w.heap.size + 1) 1 _ _ (.slice (some ⟨g7, 0, none⟩) (i + 1) k7) Hb7.out
        have h8a := ownsRow_setCell_other hown7 (a := ⟨w.heap.size + 1, 1, none⟩) (own_apart hown7 Hb7.out (by decide)) (.slice (some ⟨g7, 0, none⟩) (i + 1) k7)
        have h7c := own_kept h6c H6a.out (by decide) hgrow7
        have h8c := ownsRow_setCell_other h7c (a := ⟨w.heap.size + 1, 1, none⟩) (own_apart h7c Hb7.out (by decide)) (.slice (some ⟨g7, 0, none⟩) (i + 1) k7)
        have h8x := ext_set (ext_grown H6x.out h6c (Nat.le_refl _) hgrow7) (g := w.heap.size + 1) (by omega) 1 (.slice (some ⟨g7, 0, none⟩) (i + 1) k7)
        have H8b := Lib.hid h8b
        have H8a := Lib.hid h8a
        have H8c := Lib.hid h8c
        have H8x := Lib.hid h8x
        clear hc7 hf7 hown7 hgrow7 hat7 h7c h8a h8b h8c h8x hc1 hf1 h6c hsz6
        go_wp2_with fail
        go_roundw
        case rel => exact ⟨i + 1, _, _, by go_num, by omega, H8b.out, by rw [hb.out, List.map_append]; exact H8c.out, by rw [List.replicate_succ', List.map_append]; exact H8a.out, H8x.out⟩
        case measure => simp [intOf]; omega
    · obtain rfl : s = i := by omega
      obtain ⟨g1, c1, rfl, _, _, _⟩ := own_form1 ho1.out (by omega)
      obtain ⟨g2, c2, rfl, _, _, _⟩ := own_form1 ho2.out (by omega)
      have HX := Lib.hid hext
      clear hext
      go_wp2_with fail
      go_ret
      exact ⟨_, g1, c1, g2, c2, rfl, ⟨hblk.out, ho1.out, ho2.out, by omega⟩, HX.out⟩

theorem SlotsObj.cells {w : World} {B p g1 c1 g2 c2 n : Nat} {st ho : List Int} (h : SlotsObj w B p g1 c1 g2 c2 n st ho) :
    w.cell? ⟨p, 0, none⟩ = some (.slice (some ⟨g1, 0, none⟩) n c1) ∧ w.cell? ⟨p, 1, none⟩ = some (.slice (some ⟨g2, 0, none⟩) n c2) := ⟨cellOf h.blk rfl, cellOf h.blk rfl⟩
theorem SlotsObj.lat {w : World} {B p g1 c1 g2 c2 n : Nat} {st ho : List Int} (h : SlotsObj w B p g1 c1 g2 c2 n st ho) :
    (∀ k : Lat w, k.world.cell? ⟨p, 0, none⟩ = some (.slice (some ⟨g1, 0, none⟩) n c1)) ∧ (∀ k : Lat w, k.world.cell? ⟨p, 1, none⟩ = some (.slice (some ⟨g2, 0, none⟩) n c2)) := ⟨fun k => (h.ext k.ok).cells.1, fun k => (h.ext k.ok).cells.2⟩
theorem own_ints_set {w : World} {B g n c j : Nat} {e : TypeId} {l : List Int} (x : Int) (h : w.ownsRow B e 1 (.slice (some ⟨g, 0, none⟩) n c) n (l.map (Value.int .i64))) : (w.setCell ⟨g, j, none⟩ (.int .i64 x)).ownsRow B e 1 (.slice (some ⟨g, 0, none⟩) n c) n ((l.set j x).map (Value.int .i64)) := by
  have := (h.stored j (.int .i64 x)).1
  rwa [List.map_set]
/-- A state is written. -/
theorem SlotsObj.set1 {w : World} {B p g1 c1 g2 c2 n : Nat} {st ho : List Int} (h : SlotsObj w B p g1 c1 g2 c2 n st ho) (j : Nat) (x : Int) : SlotsObj (w.setCell ⟨g1, j, none⟩ (.int .i64 x)) B p g1 c1 g2 c2 n (st.set j x) ho :=
  ⟨by rw [Below.heap_setCell _ _ _ _ (by exact h.ne.1)]; exact h.blk, own_ints_set x h.own1, ownsRow_setCell_other h.own2 (a := ⟨g1, j, none⟩) (fun e => h.ne.2.2 (by injection e with e; exact e.symm)) _, h.low⟩
theorem SlotsObj.set2 {w : World} {B p g1 c1 g2 c2 n : Nat} {st ho : List Int} (h : SlotsObj w B p g1 c1 g2 c2 n st ho) (j : Nat) (x : Int) : SlotsObj (w.setCell ⟨g2, j, none⟩ (.int .i64 x)) B p g1 c1 g2 c2 n st (ho.set j x) :=
  ⟨by rw [Below.heap_setCell _ _ _ _ (by exact h.ne.2.1)]; exact h.blk, ownsRow_setCell_other h.own1 (a := ⟨g2, j, none⟩) (fun e => h.ne.2.2 (by injection e with e)) _, own_ints_set x h.own2, h.low⟩
theorem SlotsObj.drew {w : World} {B p g1 c1 g2 c2 n : Nat} {st ho : List Int} (h : SlotsObj w B p g1 c1 g2 c2 n st ho) : SlotsObj w.drew B p g1 c1 g2 c2 n st ho := h.ext (Ext.rfl' w).drew1
theorem SlotsObj.elem1 {w : World} {B p g1 c1 g2 c2 n : Nat} {st ho : List Int} (h : SlotsObj w B p g1 c1 g2 c2 n st ho) {j : Nat} (hj : j < n) : ∃ x, st[j]? = some x ∧ w.cell? ⟨g1, j, none⟩ = some (.int .i64 x) := by
  have hl := h.lens.1
  refine ⟨st[j], List.getElem?_eq_getElem _, ?_⟩
  rw [h.own1.cellAt j (by omega), List.getElem?_map, List.getElem?_eq_getElem (by omega)]
  rfl
theorem SlotsObj.elem2 {w : World} {B p g1 c1 g2 c2 n : Nat} {st ho : List Int} (h : SlotsObj w B p g1 c1 g2 c2 n st ho) {j : Nat} (hj : j < n) : ∃ x, ho[j]? = some x ∧ w.cell? ⟨g2, j, none⟩ = some (.int .i64 x) := by
  have hl := h.lens.2
  refine ⟨ho[j], List.getElem?_eq_getElem _, ?_⟩
  rw [h.own2.cellAt j (by omega), List.getElem?_map, List.getElem?_eq_getElem (by omega)]
  rfl

theorem SlotsObj.lat1 {w : World} {B p g1 c1 g2 c2 n : Nat} {st ho : List Int} (h : SlotsObj w B p g1 c1 g2 c2 n st ho) {j : Nat} (hj : j < n) : ∃ x, st[j]? = some x ∧ ∀ k : Lat w, k.world.cell? ⟨g1, j, none⟩ = some (.int .i64 x) := by
  obtain ⟨x, hx, _⟩ := h.elem1 hj
  refine ⟨x, hx, fun k => ?_⟩
  obtain ⟨y, hy, hc⟩ := (h.ext k.ok).elem1 hj
  rw [hx] at hy
  injection hy with hy
  rw [hc, hy]
theorem SlotsObj.lat2 {w : World} {B p g1 c1 g2 c2 n : Nat} {st ho : List Int} (h : SlotsObj w B p g1 c1 g2 c2 n st ho) {j : Nat} (hj : j < n) : ∃ x, ho[j]? = some x ∧ ∀ k : Lat w, k.world.cell? ⟨g2, j, none⟩ = some (.int .i64 x) := by
  obtain ⟨x, hx, _⟩ := h.elem2 hj
  refine ⟨x, hx, fun k => ?_⟩
  obtain ⟨y, hy, hc⟩ := (h.ext k.ok).elem2 hj
  rw [hx] at hy
  injection hy with hy
  rw [hc, hy]
theorem Sh.boxed {w0 : World} {b : Nat} {t : TypeId} {mv th sl fr t5 : Int} (h : w0.heap[b]? = some (.cells #[.int .i64 mv, .int .i64 th, .int .i64 sl, .int .i64 fr, .int .i64 t5] t (0, 0))) :
    (∀ c : Lat w0, c.world.cell? ⟨b, 0, none⟩ = some (.int .i64 mv)) ∧ (∀ c : Lat w0, c.world.cell? ⟨b, 1, none⟩ = some (.int .i64 th)) ∧ (∀ c : Lat w0, c.world.cell? ⟨b, 2, none⟩ = some (.int .i64 sl)) ∧
    (∀ c : Lat w0, c.world.cell? ⟨b, 3, none⟩ = some (.int .i64 fr)) ∧ (∀ c : Lat w0, c.world.cell? ⟨b, 4, none⟩ = some (.int .i64 t5)) :=
  ⟨Lat.cells h rfl, Lat.cells h rfl, Lat.cells h rfl, Lat.cells h rfl, Lat.cells h rfl⟩

def PutOut (w : World) (B p g1 c1 g2 c2 n : Nat) (st ho : List Int) (x : Sh) (e : Ending) (w' : World) : Prop :=
  e = .returned (.tuple #[]) ∧ SlotsObj w' B p g1 c1 g2 c2 n (putS x st) (putH x ho) ∧ Only (fun q => q = g1 ∨ q = g2) w w'

set_option maxHeartbeats 2000000 in
theorem put_any (B p g1 c1 g2 c2 n : Nat) (st ho : List Int) (x : Sh) (i : Nat) (hi : x.sl = i) (hin : i < n) (w : World) (h : SlotsObj w B p g1 c1 g2 c2 n st ho) :
    Calls Try.prog 74 #[.pointer (some ⟨p, 0, none⟩), .agg #[.int .i64 x.mv, .int .i64 x.th, .int .i64 x.sl, .int .i64 x.fr, .int .i64 x.to]] w (PutOut w B p g1 c1 g2 c2 n st ho x) := by
  have hi1 : (i : Int) < (n : Int) := by omega
  have hps : Hid (putS x st = st.set i x.to) := by show _ = _; rw [putS, hi, Int.toNat_natCast]
  have hph : Hid (putH x ho = ho.set i (if x.to = 0 ∨ x.to = 3 then -1 else x.th)) := by show _ = _; rw [putH, hi, Int.toNat_natCast]
  rw [hi]
  have Hh := Lib.hid h
  clear hi h
  go_enter Try.func74, Try.ntmps74
  go_upto_region 1 with fail
  obtain ⟨w0, hw0, hX, hE, hlt⟩ := enter1 w (.cells #[.int .i64 x.mv, .int .i64 x.th, .int .i64 i, .int .i64 x.fr, .int .i64 x.to] 136)
  rw [hw0]
  have HE := Lib.hid hE
  have hO := Hh.out.ext hE
  obtain ⟨s0, s1⟩ := hO.lat
  obtain ⟨y1, hy1, hcy1⟩ := hO.lat1 hin
  have hf1 : ∀ k : Lat w0, k.world.frozen? ⟨g1, i, none⟩ = false := fun k => (hO.ext k.ok).own1.frozenAt i
  obtain ⟨x0, x1, x2, x3, x4⟩ := Sh.boxed hX
  have HO := Lib.hid hO
  have HXb := Lib.hid hX
  clear hw0 hE hX hO hy1
  refine wp_region_cls_tail (Ext w0) 9 (Ext.rfl' w0).drew1 (by kernel_rfl) (by kernel_rfl) ?_
  simp only [List.take_succ_cons, List.take_zero, List.drop_succ_cons, List.drop_zero]
  repeat (go_big_quiet_step (fail))
  refine wpQuiet_nil ?_
  rintro _ ⟨k1, rfl⟩
  go_upto_region 2 with fail
  have hg12 : g1 < w.heap.size ∧ g2 < w.heap.size := ⟨(Hh.out.own1.lt g1 rfl).2, (Hh.out.own2.lt g2 rfl).2⟩
  have hO3 := (HO.out.ext k1.ok).set1 i x.to
  have hX3 := (Below.heap_setCell k1.world ⟨g1, i, none⟩ (.int .i64 x.to) (k := w.heap.size) (by show _ ≠ g1; omega)).trans (ext_blk k1.ok HXb.out)
  have hon3 := (Only.of_ext (S := fun q => q = g1 ∨ q = g2) (Ext.next HE.out k1.ok)).setCell ⟨g1, i, none⟩ (.int .i64 x.to) fun _ => .inl rfl
  generalize k1.world.setCell ⟨g1, i, none⟩ (.int .i64 x.to) = w3 at hO3 hX3 hon3 ⊢
  clear s0 s1 hcy1 hf1 x0 x1 x2 x3 x4
  obtain ⟨s0, s1⟩ := hO3.lat
  obtain ⟨y2, hy2, hcy2⟩ := hO3.lat2 hin
  have hf2 : ∀ k : Lat w3, k.world.frozen? ⟨g2, i, none⟩ = false := fun k => (hO3.ext k.ok).own2.frozenAt i
  obtain ⟨x0, x1, x2, x3, x4⟩ := Sh.boxed hX3
  have HO3 := Lib.hid hO3
  have HX3 := Lib.hid hX3
  have HN3 := Lib.hid hon3
  clear hO3 hX3 hon3 hy2
  refine wp_region_cls_tail (Ext w3) 9 (Ext.rfl' w3).drew1 (by kernel_rfl) (by kernel_rfl) ?_
  simp only [List.take_succ_cons, List.take_zero, List.drop_succ_cons, List.drop_zero]
  repeat (go_big_quiet_step (fail))
  refine wpQuiet_nil ?_
  rintro _ ⟨k4, rfl⟩
  go_upto_region 3 with fail
  have hO5 := (HO3.out.ext k4.ok).set2 i x.th
  have hX5 := (Below.heap_setCell k4.world ⟨g2, i, none⟩ (.int .i64 x.th) (k := w.heap.size) (by show _ ≠ g2; omega)).trans (ext_blk k4.ok HX3.out)
  have hon5 := (HN3.out.trans (Only.of_ext (S := fun q => q = g1 ∨ q = g2) k4.ok) (fun _ _ h => h)).setCell ⟨g2, i, none⟩ (.int .i64 x.th) fun _ => .inr rfl
  generalize k4.world.setCell ⟨g2, i, none⟩ (.int .i64 x.th) = w5 at hO5 hX5 hon5 ⊢
  clear s0 s1 hcy2 hf2 x0 x1 x2 x3 x4
  obtain ⟨s0, s1⟩ := hO5.lat
  obtain ⟨y2, hy2, hcy2⟩ := hO5.lat2 hin
  have hf2 : ∀ k : Lat w5, k.world.frozen? ⟨g2, i, none⟩ = false := fun k => (hO5.ext k.ok).own2.frozenAt i
  obtain ⟨x0, x1, x2, x3, x4⟩ := Sh.boxed hX5
  have HO5 := Lib.hid hO5
  have HN5 := Lib.hid hon5
  clear hO5 hX5 hon5 hy2
  obtain ⟨k5, hk5⟩ := lat_self w5
  rw [hk5]
  clear hk5
  have h3 : (x.to = 0 ∨ x.to ≠ 0 ∧ x.to = 3) ∨ (x.to ≠ 0 ∧ x.to ≠ 3) := by omega
  rcases h3 with h3 | h3
  · have HPH : Hid (putH x ho = (ho.set i x.th).set i (-1)) := by show _ = _; rw [hph.out, if_pos (by omega), List.set_set]
    rcases h3 with ha | ⟨ha, hb⟩
    case' inl => have hb0 : (x.to == 0) = true := beq_iff_eq.2 ha
    case' inr =>
      have hb0 : (x.to == 0) = false := beq_eq_false_iff_ne.2 ha
      have hb3 : (x.to == 3) = true := beq_iff_eq.2 hb
      clear hb
    all_goals
      clear ha
      go_upto_region 4 with fail
      refine wp_region_cls_tail (Ext w5) 7 k5.ok.drew1 (by kernel_rfl) (by kernel_rfl) ?_
      simp only [List.take_succ_cons, List.take_zero, List.drop_succ_cons, List.drop_zero]
      repeat (go_big_quiet_step (fail))
      refine wpQuiet_nil ?_
      rintro _ ⟨k6, rfl⟩
      go_wp2_with fail
      go_end0
      refine ⟨rfl, ?_, ?_⟩
      · rw [hps.out, HPH.out]
        exact (HO5.out.ext k6.ok).set2 i (-1)
      · exact (HN5.out.trans (Only.of_ext (S := fun q => q = g1 ∨ q = g2) k6.ok) (fun _ _ h => h)).setCell _ _ fun _ => .inr rfl
  · have HPH : Hid (putH x ho = ho.set i x.th) := by show _ = _; rw [hph.out, if_neg (by omega)]
    have hb0 : (x.to == 0) = false := beq_eq_false_iff_ne.2 h3.1
    have hb3 : (x.to == 3) = false := beq_eq_false_iff_ne.2 h3.2
    clear h3
    go_wp2_with fail
    go_end0
    refine ⟨rfl, ?_, ?_⟩
    · rw [hps.out, HPH.out]
      exact HO5.out.ext k5.ok
    · exact HN5.out.trans (Only.of_ext (S := fun q => q = g1 ∨ q = g2) k5.ok) (fun _ _ h => h)

end Go.Proofs.Ytfbacopjookplaa
