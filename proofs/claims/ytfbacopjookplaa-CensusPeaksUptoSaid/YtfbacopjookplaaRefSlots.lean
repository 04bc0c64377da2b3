/- The walks of the document's Begin and Put: the slots' states and holders as two lists in memory. -/
import Derived.Test.YtfbacopjookplaaSlots
namespace Go.Proofs.Ytfbacopjookplaa
open Go.RowKit

/-- States and holders, two rows of the call's own. -/
structure Two (w : World) (B g1 c1 g2 c2 : Nat) (n : Nat) (st ho : List Int) : Prop where
  own1 : w.ownsRow B 76 1 (.slice (some ⟨g1, 0, none⟩) n c1) n (st.map (Value.int .i64))
  own2 : w.ownsRow B 3 1 (.slice (some ⟨g2, 0, none⟩) n c2) n (ho.map (Value.int .i64))
theorem Two.ext {w w' : World} {B g1 c1 g2 c2 n : Nat} {st ho : List Int} (h : Two w B g1 c1 g2 c2 n st ho) (e : Ext w w') : Two w' B g1 c1 g2 c2 n st ho := ⟨own_ext h.own1 e, own_ext h.own2 e⟩
theorem Two.lens {w : World} {B g1 c1 g2 c2 n : Nat} {st ho : List Int} (h : Two w B g1 c1 g2 c2 n st ho) : st.length = n ∧ ho.length = n := by
  have h1 := h.own1.1
  have h2 := h.own2.1
  simp at h1 h2
  exact ⟨h1, h2⟩
theorem Two.ne {w : World} {B g1 c1 g2 c2 n : Nat} {st ho : List Int} (h : Two w B g1 c1 g2 c2 n st ho) : g1 ≠ g2 := fun e => own_two h.own1 h.own2 (by decide) g1 rfl (by rw [e]; rfl)
theorem Two.set1 {w : World} {B g1 c1 g2 c2 n : Nat} {st ho : List Int} (h : Two w B g1 c1 g2 c2 n st ho) (j : Nat) (x : Int) : Two (w.setCell ⟨g1, j, none⟩ (.int .i64 x)) B g1 c1 g2 c2 n (st.set j x) ho :=
  ⟨own_ints_set x h.own1, ownsRow_setCell_other h.own2 (a := ⟨g1, j, none⟩) (fun e => h.ne (by injection e with e; exact e.symm)) _⟩
theorem Two.set2 {w : World} {B g1 c1 g2 c2 n : Nat} {st ho : List Int} (h : Two w B g1 c1 g2 c2 n st ho) (j : Nat) (x : Int) : Two (w.setCell ⟨g2, j, none⟩ (.int .i64 x)) B g1 c1 g2 c2 n st (ho.set j x) :=
  ⟨ownsRow_setCell_other h.own1 (a := ⟨g2, j, none⟩) (fun e => h.ne (by injection e with e)) _, own_ints_set x h.own2⟩
theorem row_lat {w : World} {B g c n : Nat} {e : TypeId} {l : List Int} (h : w.ownsRow B e 1 (.slice (some ⟨g, 0, none⟩) n c) n (l.map (Value.int .i64))) {j : Nat} (hj : j < n) : ∃ x, l[j]? = some x ∧ ∀ k : Lat w, k.world.cell? ⟨g, j, none⟩ = some (.int .i64 x) := by
  have hl := h.1
  simp at hl
  refine ⟨l[j], List.getElem?_eq_getElem _, fun k => ?_⟩
  rw [(own_ext h k.ok).cellAt j (by omega), List.getElem?_map, List.getElem?_eq_getElem (by omega)]
  rfl

def RBeginOut (w : World) (s u : Nat) (e : Ending) (w' : World) : Prop :=
  ∃ g1 c1 g2 c2, e = .returned (.tuple #[.slice (some ⟨g1, 0, none⟩) s c1, .slice (some ⟨g2, 0, none⟩) s c2]) ∧ Two w' w.heap.size g1 c1 g2 c2 s (beginS s u) (List.replicate s (-1)) ∧ Ext w w'

set_option maxHeartbeats 2000000 in
theorem refBegin_any (T R H Re Ca S B : Int) (s : Nat) (hS : S = s) (hs1 : 1 ≤ s) (hs2 : s ≤ 1024) (u : Nat) (w : World) :
    Calls Try.prog 129 #[(.agg #[.int .i64 T, .int .i64 R, .int .i64 H, .int .i64 Re, .int .i64 Ca, .int .i64 S, .int .i64 B]), .int .i64 u] w (RBeginOut w s u) := by
  subst hS
  go_enter Try.func129, Try.ntmps129
  go_upto_region 1 with fail
  obtain ⟨w0, hw0, hC, hE, hlt⟩ := enter1 w (.cells (cfgV T R H Re Ca s B) 23)
  rw [hw0]
  have HE := Lib.hid hE
  obtain ⟨c0, c1, c2, c3, c4, c5, c6⟩ := Lat.cfg hC
  have hlow := hE.size
  clear hw0 hC hE
  obtain ⟨k0, hk0⟩ := lat_self w0
  rw [hk0]
  clear hk0
  go_wp2_with fail
  go_loopw [6, 7, 8] (fun s6 s7 s8 wr => ∃ (k : Lat w0) (i : Nat), wr = k.world ∧ s8 = .int .i64 i ∧ i ≤ s ∧ Hid (wr.ownsRow w0.heap.size 76 1 s6 i ((beginS i u).map (Value.int .i64))) ∧ Hid (wr.ownsRow w0.heap.size 3 1 s7 i ((List.replicate i (-1)).map (Value.int .i64)))) (fun _ _ v _ => s - (intOf v).toNat)
  case atStart => exact ⟨k0, 0, rfl, rfl, by omega, World.ownsRow_nil _ _ _ _, World.ownsRow_nil _ _ _ _⟩
  case round =>
    obtain ⟨k, i, rfl, rfl, hi, ho1, ho2⟩ := hrel
    by_cases hlt : i < s
    · have hsz := k.ok.size
      have hlt1 : (i : Int) < (s : Int) := by omega
      have hown1 := ho1.out
      by_cases hiu : i < u
      case' pos =>
        have hiu1 : (i : Int) < (u : Int) := by omega
        have hb : Hid (beginS (i + 1) u = beginS i u ++ [3]) := by show _ = _; rw [beginS_step, if_pos hiu]
      case' neg =>
        have hiu1 : (u : Int) ≤ (i : Int) := by omega
        have hb : Hid (beginS (i + 1) u = beginS i u ++ [0]) := by show _ = _; rw [beginS_step, if_neg hiu]
      all_goals
        go_upto_region 10 with (at_builtin; refine wpList_push _ rfl _ _ 71 rfl w0.heap.size 76 1 8 elemState Try.underlying71 _ _ _ rfl hown1 _ rfl rfl (by simp [Value.oneCell']) (by omega) hsz ?_; intro v5 w5 hown5 hgrow5 hat5; obtain ⟨g5, k5, rfl, _, hg5, _⟩ := own_form1 hown5 (by omega))
        have h5c := own_kept hown1 ho2.out (by decide) hgrow5
        obtain ⟨kk, rfl⟩ := lat_of (ext_grown k.ok hown1 (Nat.le_refl _) hgrow5)
        have H5 := Lib.hid hown5
        have hsz5 := kk.ok.size
        clear hown5 hgrow5 hat5 hown1 hsz
        go_upto_region 5 with (at_builtin; refine wpList_push _ rfl _ _ 26 rfl w0.heap.size 3 1 8 elemInt' Try.underlying26 _ _ _ rfl h5c _ rfl rfl (by simp [Value.oneCell']) (by omega) hsz5 ?_; intro v7 w7 hown7 hgrow7 hat7; obtain ⟨g7, k7, rfl, _, hg7, _⟩ := own_form1 hown7 (by omega))
        have H7c := Lib.hid (own_kept h5c H5.out (by decide) hgrow7)
        obtain ⟨kl, rfl⟩ := lat_of (ext_grown kk.ok h5c (Nat.le_refl _) hgrow7)
        have H7 := Lib.hid hown7
        clear hown7 hgrow7 hat7 h5c
        go_wp2_with fail
        go_roundw
        case rel => exact ⟨kl, i + 1, rfl, by go_num, by omega, by rw [hb.out, List.map_append]; exact H7c.out, by rw [List.replicate_succ', List.map_append]; exact H7.out⟩
        case measure => simp [intOf]; omega
    · obtain rfl : s = i := by omega
      obtain ⟨g1, d1, rfl, _, _, _⟩ := own_form1 ho1.out (by omega)
      obtain ⟨g2, d2, rfl, _, _, _⟩ := own_form1 ho2.out (by omega)
      go_wp2_with fail
      go_ret2
      exact ⟨g1, d1, g2, d2, rfl, ⟨own_base ho1.out hlow, own_base ho2.out hlow⟩, Ext.next HE.out k.ok⟩

def RPutOut (w : World) (B g1 c1 g2 c2 n : Nat) (st ho : List Int) (x : Sh) (e : Ending) (w' : World) : Prop :=
  e = .returned (.tuple #[]) ∧ Two w' B g1 c1 g2 c2 n (putS x st) (putH x ho) ∧ Only (fun q => q = g1 ∨ q = g2) w w'

set_option maxHeartbeats 2000000 in
theorem refPut_any (B g1 c1 g2 c2 n : Nat) (st ho : List Int) (x : Sh) (i : Nat) (hi : x.sl = i) (hin : i < n) (w : World) (h : Two w B g1 c1 g2 c2 n st ho) :
    Calls Try.prog 128 #[.slice (some ⟨g1, 0, none⟩) n c1, .slice (some ⟨g2, 0, none⟩) n c2, .agg #[.int .i64 x.mv, .int .i64 x.th, .int .i64 x.sl, .int .i64 x.fr, .int .i64 x.to]] w (RPutOut w B g1 c1 g2 c2 n st ho x) := by
  have hi1 : (i : Int) < (n : Int) := by omega
  have hps : Hid (putS x st = st.set i x.to) := by show _ = _; rw [putS, hi, Int.toNat_natCast]
  have hph : Hid (putH x ho = ho.set i (if x.to = 0 ∨ x.to = 3 then -1 else x.th)) := by show _ = _; rw [putH, hi, Int.toNat_natCast]
  rw [hi]
  have Hh := Lib.hid h
  clear hi h
  go_enter Try.func128, Try.ntmps128
  go_upto_region 1 with fail
  obtain ⟨w0, hw0, hX, hE, hlt⟩ := enter1 w (.cells #[.int .i64 x.mv, .int .i64 x.th, .int .i64 i, .int .i64 x.fr, .int .i64 x.to] 136)
  rw [hw0]
  have HE := Lib.hid hE
  have hO := Hh.out.ext hE
  obtain ⟨y1, hy1, hcy1⟩ := row_lat hO.own1 hin
  have hf1 : ∀ k : Lat w0, k.world.frozen? ⟨g1, i, none⟩ = false := fun k => (hO.ext k.ok).own1.frozenAt i
  obtain ⟨x0, x1, x2, x3, x4⟩ := Sh.boxed hX
  have HO := Lib.hid hO
  have HXb := Lib.hid hX
  obtain ⟨k1, hk1⟩ := lat_self w0
  rw [hk1]
  clear hw0 hE hX hO hy1 hk1
  go_upto_region 2 with fail
  have hg12 : g1 < w.heap.size ∧ g2 < w.heap.size := ⟨(Hh.out.own1.lt g1 rfl).2, (Hh.out.own2.lt g2 rfl).2⟩
  have hO3 := (HO.out.ext k1.ok).set1 i x.to
  have hX3 := (Below.heap_setCell k1.world ⟨g1, i, none⟩ (.int .i64 x.to) (k := w.heap.size) (by show _ ≠ g1; omega)).trans (ext_blk k1.ok HXb.out)
  have hon3 := (Only.of_ext (S := fun q => q = g1 ∨ q = g2) (Ext.next HE.out k1.ok)).setCell ⟨g1, i, none⟩ (.int .i64 x.to) fun _ => .inl rfl
  generalize k1.world.setCell ⟨g1, i, none⟩ (.int .i64 x.to) = w3 at hO3 hX3 hon3 ⊢
  clear hcy1 hf1 x0 x1 x2 x3 x4
  obtain ⟨y2, hy2, hcy2⟩ := row_lat hO3.own2 hin
  have hf2 : ∀ k : Lat w3, k.world.frozen? ⟨g2, i, none⟩ = false := fun k => (hO3.ext k.ok).own2.frozenAt i
  obtain ⟨x0, x1, x2, x3, x4⟩ := Sh.boxed hX3
  have HO3 := Lib.hid hO3
  have HX3 := Lib.hid hX3
  have HN3 := Lib.hid hon3
  obtain ⟨k4, hk4⟩ := lat_self w3
  rw [hk4]
  clear hO3 hX3 hon3 hy2 hk4
  go_upto_region 3 with fail
  have hO5 := (HO3.out.ext k4.ok).set2 i x.th
  have hX5 := (Below.heap_setCell k4.world ⟨g2, i, none⟩ (.int .i64 x.th) (k := w.heap.size) (by show _ ≠ g2; omega)).trans (ext_blk k4.ok HX3.out)
  have hon5 := (HN3.out.trans (Only.of_ext (S := fun q => q = g1 ∨ q = g2) k4.ok) (fun _ _ h => h)).setCell ⟨g2, i, none⟩ (.int .i64 x.th) fun _ => .inr rfl
  generalize k4.world.setCell ⟨g2, i, none⟩ (.int .i64 x.th) = w5 at hO5 hX5 hon5 ⊢
  clear hcy2 hf2 x0 x1 x2 x3 x4
  obtain ⟨y2, hy2, hcy2⟩ := row_lat hO5.own2 hin
  have hf2 : ∀ k : Lat w5, k.world.frozen? ⟨g2, i, none⟩ = false := fun k => (hO5.ext k.ok).own2.frozenAt i
  obtain ⟨x0, x1, x2, x3, x4⟩ := Sh.boxed hX5
  have HO5 := Lib.hid hO5
  have HN5 := Lib.hid hon5
  clear hO5 hX5 hon5 hy2
  obtain ⟨k5, hk5⟩ := lat_self w5
  rw [hk5]
  clear hk5
  have h3 : (x.to = 0 ∨ x.to ≠ 0 ∧ x.to = 3) ∨ (x.to ≠ 0 ∧ x.to ≠ 3) := by omega
  rcases h3 with h3 | h3
  · have HPH : Hid (putH x ho = (ho.set i x.th).set i (-1)) := by show _ = _; rw [hph.out, if_pos (by omega), List.set_set]
    rcases h3 with ha | ⟨ha, hb⟩
    case' inl => have hb0 : (x.to == 0) = true := beq_iff_eq.2 ha
    case' inr =>
      have hb0 : (x.to == 0) = false := beq_eq_false_iff_ne.2 ha
      have hb3 : (x.to == 3) = true := beq_iff_eq.2 hb
      clear hb
    all_goals
      clear ha
      go_wp2_with fail
      go_end0
      refine ⟨rfl, ?_, ?_⟩
      · rw [hps.out, HPH.out]
        exact (HO5.out.ext k5.ok).set2 i (-1)
      · exact (HN5.out.trans (Only.of_ext (S := fun q => q = g1 ∨ q = g2) k5.ok) (fun _ _ h => h)).setCell _ _ fun _ => .inr rfl
  · have HPH : Hid (putH x ho = ho.set i x.th) := by show _ = _; rw [hph.out, if_neg (by omega)]
    have hb0 : (x.to == 0) = false := beq_eq_false_iff_ne.2 h3.1
    have hb3 : (x.to == 3) = false := beq_eq_false_iff_ne.2 h3.2
    clear h3
    go_wp2_with fail
    go_end0
    refine ⟨rfl, ?_, ?_⟩
    · rw [hps.out, HPH.out]
      exact HO5.out.ext k5.ok
    · exact HN5.out.trans (Only.of_ext (S := fun q => q = g1 ∨ q = g2) k5.ok) (fun _ _ h => h)

end Go.Proofs.Ytfbacopjookplaa
