/- PoolLooks: of every configuration and words pool.Look answers what the document's Look answers, and the words stay as they were. -/
import Derived.Test.YtfbacopjookplaaRefLook
import Derived.Test.YtfbacopjookplaaSame2
import Derived.Test.YtfbacopjookplaaOpenRun
import Derived.Test.YtfbacopjookplaaRows
import Derived.Test.YtfbacopjookplaaChecked
namespace Go.Proofs.Ytfbacopjookplaa
open Go.RowKit Go.ChangeShapes Go.WideShapes Go.ChangeAt

/-- Contents in a box, each of their lists in a row of its own. -/
def InBox (w W : World) (b : Nat) (q : Cont) : Prop :=
  ∃ v0 v1 v2 v3 v4, W.heap[b]? = some (.cells (contV v0 v1 v2 v3 v4) 38 (0, 0)) ∧ W.ownsRow w.heap.size 3 1 v0 q.cell.length (q.cell.map (Value.int .i64)) ∧ W.ownsRow w.heap.size 3 1 v1 q.stack.length (q.stack.map (Value.int .i64)) ∧
    W.ownsRow w.heap.size 3 1 v2 q.queue.length (q.queue.map (Value.int .i64)) ∧ W.ownsRow w.heap.size 3 1 v3 q.set.length (q.set.map (Value.int .i64)) ∧ W.ownsRow w.heap.size 106 2 v4 q.table.length (q.table.flatMap encPair)
theorem InBox.ext {w W W' : World} {b : Nat} {q : Cont} (h : InBox w W b q) (e : Ext W W') : InBox w W' b q := by
  obtain ⟨v0, v1, v2, v3, v4, h0, h1, h2, h3, h4, h5⟩ := h
  exact ⟨v0, v1, v2, v3, v4, ext_blk e h0, own_ext h1 e, own_ext h2 e, own_ext h3 e, own_ext h4 e, own_ext h5 e⟩

theorem box5 {w : World} {b : Nat} {t : TypeId} {u0 u1 u2 u3 u4 : Value} (h : w.heap[b]? = some (.cells #[u0, u1, u2, u3, u4] t (0, 0))) (v0 v1 v2 v3 v4 : Value) :
    (((((w.setCell ⟨b, 0, none⟩ v0).setCell ⟨b, 1, none⟩ v1).setCell ⟨b, 2, none⟩ v2).setCell ⟨b, 3, none⟩ v3).setCell ⟨b, 4, none⟩ v4).heap[b]? = some (.cells #[v0, v1, v2, v3, v4] t (0, 0)) ∧
    Only (fun q => q = b) w (((((w.setCell ⟨b, 0, none⟩ v0).setCell ⟨b, 1, none⟩ v1).setCell ⟨b, 2, none⟩ v2).setCell ⟨b, 3, none⟩ v3).setCell ⟨b, 4, none⟩ v4) :=
  ⟨heap_setCell_same _ _ _ _ _ _ (heap_setCell_same _ _ _ _ _ _ (heap_setCell_same _ _ _ _ _ _ (heap_setCell_same _ _ _ _ _ _ (heap_setCell_same _ _ _ _ _ _ h)))),
    (((((Only.refl (fun q => q = b) w).setCell _ _ fun _ => rfl).setCell _ _ fun _ => rfl).setCell _ _ fun _ => rfl).setCell _ _ fun _ => rfl).setCell _ _ fun _ => rfl⟩

set_option maxRecDepth 100000 in
set_option maxHeartbeats 4000000 in
theorem poolLooks_walk (T R H Re Ca S B : Int) (A : Option Addr) (n c : Nat) (ws : List Int) (w : World) (hr : Rd w A (ws.map (Value.int .u64))) (hl : ws.length = n) (hws : ∀ x ∈ ws, 0 ≤ x ∧ x ≤ 18446744073709551615) (hreach : n * 8 ≤ 140737488351232) :
    Calls Try.prog 4 #[(.agg #[.int .i64 T, .int .i64 R, .int .i64 H, .int .i64 Re, .int .i64 Ca, .int .i64 S, .int .i64 B]), .slice A n c] w fun e w' => e = .returned (.bool true) ∧ Ext w w' := by
  have Hr := Lib.hid hr
  have Hl := Lib.hid hl
  have Hws := Lib.hid hws
  clear hr hl hws
  go_enter Try.func4, Try.ntmps4
  go_upto_region 1 with fail
  obtain ⟨w0, hw0, hC, hE, hlt⟩ := enter1 w (.cells (cfgV T R H Re Ca S B) 23)
  rw [hw0]
  have HE := Lib.hid hE
  have HC := Lib.hid hC
  clear hw0 hC hE
  have hown0 := own_empty w0 w0.heap.size (Nat.le_refl _) 25 1
  have hE0 := Lib.hid (Hr.out.ext ((HE.out).alloc1 (.cells #[] 25)))
  go_upto_region 2 with (first
    | (at_builtin; refine wpList_appendR _ rfl (.tmp 10) (.tmp 11) 24 rfl w0.heap.size 25 1 8 elemWord Try.underlying24 _ 0 [] rfl hown0 A n c (ws.map (Value.int .u64)) rfl (by rw [List.length_map, Hl.out]; omega) hE0.out (one_words ws) (by omega) (by simp) ?_; intro v1 w1 hown1 hgrow1 hat1; rw [Nat.zero_add, List.nil_append] at hown1)
    | (at_builtin; refine wpList_push _ rfl (.tmp 12) (.tmp 13) 24 rfl w0.heap.size 25 1 8 elemWord Try.underlying24 _ _ _ rfl hown1 _ rfl rfl (by simp [Value.oneCell']) (by omega) (by have := hgrow1.size; simp at this; omega) ?_; intro v2 w2 hown2 hgrow2 hat2))
  obtain ⟨g, c2, rfl, hnc, hg0, hg1⟩ := own_form1 hown2 (by omega)
  have hx2 : Ext w0 w2 := by
    have h1 : Ext w0 w1 := ((Ext.rfl' w0).alloc1 (.cells #[] 25)).only (Only.of_grown hgrow1) fun q hq => by have hq' : some q = some w0.heap.size := hq; injection hq' with hq'; omega
    refine h1.only (Only.of_grown hgrow2) fun q hq => (hown1.lt q hq.symm).1
  have hr2 : Rd w2 (some ⟨g, 0, none⟩) ((ws ++ [77]).map (Value.int .u64)) := by
    have := Rd.of_own hown2
    simpa using this
  have Hr2 := Lib.hid hr2
  have Hr2w : Hid (Rd w2 (some ⟨g, 0, none⟩) (ws.map (Value.int .u64))) := by
    have h := hr2
    rw [List.map_append] at h
    exact h.prefix_
  obtain ⟨d0, d1, d2, d3, d4, d5, d6⟩ := Lat.cfg (ext_blk hx2 HC.out)
  have Hx2 := Lib.hid (Ext.next HE.out hx2)
  have HC2 := Lib.hid (ext_blk hx2 HC.out)
  clear hr2 hx2 hown1 hgrow1 hat1 hown2 hgrow2 hat2 hown0 HC
  have hnc1 : (n : Int) ≤ (c2 : Int) := by omega
  have hnc0 : (0 : Int) ≤ (n : Int) := by omega
  have hnc2 : n ≤ c2 := by omega
  have Hlook := Lib.hid (fun (W : World) (e : Ext w2 W) => poolLook_any T R H Re Ca S B (some ⟨g, 0, none⟩) n c2 ws W (Hr2w.out.ext e) Hl.out Hws.out)
  have Href := Lib.hid (fun (W : World) (e : Ext w W) => rlook_any T R H Re Ca S B A n c ws W (Hr.out.ext e) Hl.out Hws.out)
  generalize lookAns T R H Re Ca S B ws = q at Hlook Href
  obtain ⟨er, qc⟩ := q
  have E0 : Ext w2 w2.drew := (Ext.rfl' w2).drew1
  have n1 : w.heap.size < w2.heap.size := blk_lt HC2.out
  have n2 : w.heap.size ≠ w2.heap.size := by omega
  have X0 := d0 ⟨w2, Ext.rfl' w2⟩
  have X1 := d1 ⟨w2, Ext.rfl' w2⟩
  have X2 := d2 ⟨w2, Ext.rfl' w2⟩
  have X3 := d3 ⟨w2, Ext.rfl' w2⟩
  have X4 := d4 ⟨w2, Ext.rfl' w2⟩
  have X5 := d5 ⟨w2, Ext.rfl' w2⟩
  have X6 := d6 ⟨w2, Ext.rfl' w2⟩
  clear d0 d1 d2 d3 d4 d5 d6
  go_cut [6, 7] (fun s6 s7 wx => ∃ b6, s6 = .pointer (some ⟨b6, 0, none⟩) ∧ s7 = .int .i64 er ∧ Hid (InBox w2 wx b6 qc) ∧ Hid (Ext w2 wx) ∧ b6 < wx.heap.size)
  case first =>
    go_region_with ((with_reducible refine (Hlook.out _ (by first | with_reducible exact E0 | with_reducible exact E0.alloc1 _ | with_reducible exact ((Ext.rfl' w2).alloc1 _).drew1)).mono ?_); rintro e w3 ⟨v0, v1, v2, v3, v4, rfl, p0, p1, p2, p3, p4, e3⟩; obtain ⟨a0, k0, rfl⟩ := own_form p0; obtain ⟨a1, k1, rfl⟩ := own_form p1; obtain ⟨a2, k2, rfl⟩ := own_form p2; obtain ⟨a3, k3, rfl⟩ := own_form p3; obtain ⟨a4, k4, rfl⟩ := own_form p4; (try (have HB := Lib.hid (ext_blk e3 (heap_alloc_new _ _)); have y0 := cellOf (i := 0) HB.out rfl; have y1 := cellOf (i := 1) HB.out rfl; have y2 := cellOf (i := 2) HB.out rfl; have y3 := cellOf (i := 3) HB.out rfl; have y4 := cellOf (i := 4) HB.out rfl; have f0 := freeOf HB.out 0; have f1 := freeOf HB.out 1; have f2 := freeOf HB.out 2; have f3 := freeOf HB.out 3; have f4 := freeOf HB.out 4)); dsimp only [contV])
    all_goals
      dsimp only [Exit.then, Exit.inBlock]
      (try go_wp2_with fail)
      go_meet
      case rel =>
        first
          | (have hsz : (w2.alloc (.cells #[.slice none 0 0, .slice none 0 0, .slice none 0 0, .slice none 0 0, .slice none 0 0] 38)).drew.heap.size = w2.heap.size + 1 := by simp [World.drew]
             have hb := box5 HB.out
             have e4 := Ext.next ((Ext.rfl' w2).alloc1 _).drew1 e3
             exact ⟨_, rfl, rfl, Lib.hid ⟨_, _, _, _, _, (hb _ _ _ _ _).1, own_base (own_only p0 (hb _ _ _ _ _).2 fun q hq h => by have := (p0.lt q hq).1; omega) (by omega), own_base (own_only p1 (hb _ _ _ _ _).2 fun q hq h => by have := (p1.lt q hq).1; omega) (by omega), own_base (own_only p2 (hb _ _ _ _ _).2 fun q hq h => by have := (p2.lt q hq).1; omega) (by omega), own_base (own_only p3 (hb _ _ _ _ _).2 fun q hq h => by have := (p3.lt q hq).1; omega) (by omega), own_base (own_only p4 (hb _ _ _ _ _).2 fun q hq h => by have := (p4.lt q hq).1; omega) (by omega)⟩, Lib.hid (e4.only (hb _ _ _ _ _).2 fun q hq => by omega), blk_lt (hb _ _ _ _ _).1⟩)
          | exact ⟨_, rfl, rfl, Lib.hid ⟨_, _, _, _, _, heap_alloc_new _ _, own_ext p0 ((Ext.rfl' _).alloc1 _), own_ext p1 ((Ext.rfl' _).alloc1 _), own_ext p2 ((Ext.rfl' _).alloc1 _), own_ext p3 ((Ext.rfl' _).alloc1 _), own_ext p4 ((Ext.rfl' _).alloc1 _)⟩, Lib.hid ((Ext.next E0 e3).alloc1 _), by simp⟩
  obtain ⟨b6, rfl, rfl, HI6, HE6, hb6⟩ := hcut
  obtain ⟨W6, hW6⟩ : ∃ W6 : World, W6 = wc := ⟨_, rfl⟩
  subst hW6
  obtain ⟨d0, d1, d2, d3, d4, d5, d6⟩ := Lat.cfg (ext_blk HE6.out HC2.out)
  have Hr6 := Lib.hid (Hr2.out.ext HE6.out)
  have Hx6 := Lib.hid (Ext.next Hx2.out HE6.out)
  obtain ⟨k6, hk6⟩ := lat_self W6
  rw [hk6]
  clear X0 X1 X2 X3 X4 X5 X6 n1 n2 E0 hk6 hnc0 hnc1 hnc2 Hlook Hr2w HC2
  go_wp2_with fail
  refine (Href.out _ (Ext.next Hx6.out k6.ok)).mono ?_
  rintro e w4 ⟨u0, u1, u2, u3, u4, rfl, p0, p1, p2, p3, p4, e4⟩
  obtain ⟨a0, k0, rfl⟩ := own_form p0
  obtain ⟨a1, k1, rfl⟩ := own_form p1
  obtain ⟨a2, k2, rfl⟩ := own_form p2
  obtain ⟨a3, k3, rfl⟩ := own_form p3
  obtain ⟨a4, k4, rfl⟩ := own_form p4
  have HB4 : Hid (InBox k6.world (w4.alloc (.cells #[.slice a0 qc.cell.length k0, .slice a1 qc.stack.length k1, .slice a2 qc.queue.length k2, .slice a3 qc.set.length k3, .slice a4 qc.table.length k4] 38)) w4.heap.size qc) :=
    ⟨_, _, _, _, _, heap_alloc_new _ _, own_ext p0 ((Ext.rfl' _).alloc1 _), own_ext p1 ((Ext.rfl' _).alloc1 _), own_ext p2 ((Ext.rfl' _).alloc1 _), own_ext p3 ((Ext.rfl' _).alloc1 _), own_ext p4 ((Ext.rfl' _).alloc1 _)⟩
  have E8 : Hid (Ext W6 (w4.alloc (.cells #[.slice a0 qc.cell.length k0, .slice a1 qc.stack.length k1, .slice a2 qc.queue.length k2, .slice a3 qc.set.length k3, .slice a4 qc.table.length k4] 38))) := (Ext.next k6.ok e4).alloc1 _
  dsimp only [contV]
  clear p0 p1 p2 p3 p4 d0 d1 d2 d3 d4 d5 d6
  go_upto_region 4 with fail
  generalize hb8 : w4.heap.size = b8 at HB4 ⊢
  obtain ⟨W8, hW8⟩ : ∃ W8, w4.alloc (.cells #[.slice a0 qc.cell.length k0, .slice a1 qc.stack.length k1, .slice a2 qc.queue.length k2, .slice a3 qc.set.length k3, .slice a4 qc.table.length k4] 38) = W8 := ⟨_, rfl⟩
  rw [hW8] at HB4 E8 ⊢
  obtain ⟨x0, x1, x2, x3, x4, hx, o0, o1, o2, o3, o4⟩ := HI6.out.ext E8.out
  obtain ⟨y0, y1, y2, y3, y4, hy, r0, r1, r2, r3, r4⟩ := HB4.out
  have Hsame := Lib.hid (fun (z : Lat W8) => same_any qc _ _ x0 x1 x2 x3 x4 y0 y1 y2 y3 y4 z.world (own_ext o0 z.ok) (own_ext o1 z.ok) (own_ext o2 z.ok) (own_ext o3 z.ok) (own_ext o4 z.ok) (own_ext r0 z.ok) (own_ext r1 z.ok) (own_ext r2 z.ok) (own_ext r3 z.ok) (own_ext r4 z.ok))
  have Hkept := Lib.hid (fun (z : Lat W8) => kept_any _ A n c2 c ws z.world ((Hr6.out.ext E8.out).ext z.ok) (Hr.out.ext (Ext.next (Ext.next Hx6.out E8.out) z.ok)) Hl.out (by omega))
  have X0 := Lat.cells hx (i := 0) rfl
  have X1 := Lat.cells hx (i := 1) rfl
  have X2 := Lat.cells hx (i := 2) rfl
  have X3 := Lat.cells hx (i := 3) rfl
  have X4 := Lat.cells hx (i := 4) rfl
  have Y0 := Lat.cells hy (i := 0) rfl
  have Y1 := Lat.cells hy (i := 1) rfl
  have Y2 := Lat.cells hy (i := 2) rfl
  have Y3 := Lat.cells hy (i := 3) rfl
  have Y4 := Lat.cells hy (i := 4) rfl
  have Hfin := Lib.hid (Ext.next Hx6.out E8.out)
  have hee : (er == er) = true := by simp
  unfold contV at Hsame
  obtain ⟨k8, hk8⟩ := lat_self W8
  rw [hk8]
  clear hx hy o0 o1 o2 o3 o4 r0 r1 r2 r3 r4 HI6 HB4 hW8 hk8 e4 hb8
  go_wp2_with fail
  refine (num_any er _).mono ?_
  rintro e w5 ⟨rfl, rfl⟩
  go_wp2_with fail
  refine (Hsame.out k8).mono ?_
  rintro e w5 ⟨rfl, e5⟩
  obtain ⟨k7, rfl⟩ := lat_next k8 e5
  clear e5
  go_wp2_with fail
  refine (Hkept.out k7).mono ?_
  rintro e w5 ⟨rfl, e5⟩
  obtain ⟨k9, rfl⟩ := lat_next k7 e5
  clear e5
  go_wp2_with fail
  go_ret
  exact ⟨rfl, Ext.next Hfin.out k9.ok⟩

set_option maxRecDepth 100000 in
theorem poolLooks_lifted (os : Os) (started : os.Started) (H : Type) (enc : TypeId × Value → H) :
    ReturnsInHanded {} Try.checked os 4 .any (Rows.poolLooksSpec.pre6 enc Try.prog Try.f4 [] false) (Rows.poolLooksSpec.post enc Try.prog Try.f4 false true false false) := by
  refine lawWrap (C := Try.checked) (tb := 4) own_ started (by kernel_rfl) Try.func4
    (ChangeSpec.witness6 (enc := enc) (C := Try.checked) false ⟨#[], #[.agg #[.int .i64 0, .int .i64 0, .int .i64 0, .int .i64 0, .int .i64 0, .int .i64 0, .int .i64 0], .slice none 0 0], []⟩ 8 (by kernel_rfl) (by kernel_rfl) (by kernel_rfl) (by kernel_rfl))
    rfl Try.underlying4 rfl ?_ laidOut_ (by kernel_rfl) ?_
  · intro ds hds
    match ds, hds with
    | [d1, d2], _ => exact ⟨rfl, rfl, rfl⟩
  · intro W base args ds ps hval0 hA0 hlt hsz
    have hval : ∀ (j : Nat) t v, Try.f4.params[j]? = some t → args[j]? = some v → Value.okWide Try.prog W .any base t v := hval0
    have hA : DataW.TrodAll enc Try.prog W 0 (fun _ => true) true Try.f4.params.toList args.toList ds ps := hA0
    rw [Try.params4] at hA hval
    obtain ⟨v0, v1, d0, d1, p0, p1, rfl, rfl, rfl, h0, h1⟩ := trodAll_two hA
    obtain ⟨T, R, H', Re, Ca, S, B, rfl, _⟩ := openCfg (hval 0 23 v0 rfl rfl) h0
    obtain ⟨A, n, c, ws, rfl, hnc, hl, hr, hws, hd⟩ := openWords Try.underlying24 Try.underlying25 (hval 1 24 v1 rfl rfl) h1
    have hreach := reach_slice (j := 1) (t := 24) (d := d1) hsz rfl rfl Try.underlying24 hd
    rw [show Try.checked.prog.bytesOf 25 = 8 by kernel_rfl] at hreach
    exact poolLooks_walk T R H' Re Ca S B A n c ws W hr hl hws (by omega)

theorem poolLooks_holds : Rows.PoolLooksSaid :=
  OpenClaim.holds_of_wide 4 Try.f4 rfl rfl rfl rfl rfl rfl rfl ⟨rfl, rfl, rfl, rfl, rfl⟩ rfl rfl rfl rfl rfl (by kernel_rfl) Try.func4 (by kernel_rfl)
    (of_decide_eq_true (by kernel_rfl)) (by unfold Func.isWrapper; first | (rw [if_pos (by decide +kernel)]; kernel_rfl) | (rw [if_neg (by decide +kernel)]; exact ⟨rfl, rfl⟩))
    (fun os started H enc _ => poolLooks_lifted os started H enc)

end Go.Proofs.Ytfbacopjookplaa
