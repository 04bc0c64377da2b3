/- The walk of the document's walker's table. -/
import Derived.Test.YtfbacopjookplaaRefQueue
import Derived.Test.YtfbacopjookplaaInsP
import Derived.BigRegion
namespace Go.Proofs.Ytfbacopjookplaa
open Go.RowKit

theorem elemPairR : Elem Try.prog 106 2 16 := Elem.of (z := .agg #[.int .i64 0, .int .i64 0]) (by kernel_rfl) rfl (by omega) (by omega)
theorem flatP_set : ∀ (l : List (Int × Int)) (i : Nat) (x : Int × Int), i < l.length → ((l.flatMap encPair).set (i * 2) (.int .i64 x.1)).set (i * 2 + 1) (.int .i64 x.2) = (l.set i x).flatMap encPair
  | [], i, x, h => by simp at h
  | y :: l, 0, x, _ => rfl
  | y :: l, i + 1, x, h => by
    have ih := flatP_set l i x (by simpa using h)
    rw [show (i + 1) * 2 = i * 2 + 1 + 1 by omega]
    exact congrArg (fun r => Value.int .i64 y.1 :: Value.int .i64 y.2 :: r) ih
theorem ownP_put {w : World} {B G n c i : Nat} {e : TypeId} {l : List (Int × Int)} (x : Int × Int) (h : w.ownsRow B e 2 (.slice (some ⟨G, 0, none⟩) n c) n (l.flatMap encPair)) (hi : i < l.length) :
    ((w.setCell ⟨G, i * 2, none⟩ (.int .i64 x.1)).setCell ⟨G, i * 2 + 1, none⟩ (.int .i64 x.2)).ownsRow B e 2 (.slice (some ⟨G, 0, none⟩) n c) n ((l.set i x).flatMap encPair) := by
  have h2 := (((h.stored (i * 2) (.int .i64 x.1)).1).stored (i * 2 + 1) (.int .i64 x.2)).1
  rwa [flatP_set l i x hi] at h2
theorem ownP_at {w : World} {B G n c i : Nat} {e : TypeId} {l : List (Int × Int)} {x : Int × Int} (h : w.ownsRow B e 2 (.slice (some ⟨G, 0, none⟩) n c) n (l.flatMap encPair)) (hi : l[i]? = some x) :
    (∀ z : Lat w, z.world.cell? ⟨G, i * 2, none⟩ = some (.int .i64 x.1)) ∧ (∀ z : Lat w, z.world.cell? ⟨G, i * 2 + 1, none⟩ = some (.int .i64 x.2)) := by
  have hl := h.1
  rw [flatP_len] at hl
  have hil := (List.getElem?_eq_some_iff.1 hi).1
  have hx : l.toArray[i]! = x := by
    have := (List.getElem?_eq_some_iff.1 hi).2
    simp [getElem!_pos, hil, this]
  refine ⟨fun z => ((own_ext h z.ok).cellAt _ (by omega)).trans ?_, fun z => ((own_ext h z.ok).cellAt _ (by omega)).trans ?_⟩
  · rw [flatP_get l (i * 2) (by omega), show i * 2 / 2 = i by omega, show i * 2 % 2 = 0 by omega, hx]
    rfl
  · rw [flatP_get l (i * 2 + 1) (by omega), show (i * 2 + 1) / 2 = i by omega, show (i * 2 + 1) % 2 = 1 by omega, hx]
    rfl

/-- What the document's table answers. -/
def RTab (w : World) (T R H Re Ca S B : Int) (A : Option Addr) (n c : Nat) (ws : List Int) (b sb : Nat) (bad : Bool) (tf : Option (List (Int × Int) × List Bool)) (e : Ending) (w' : World) : Prop :=
  ∃ v out seen bad2, e = .returned v ∧ w'.ownsRow w.heap.size 106 2 v out.length (out.flatMap encPair) ∧ Only (fun q => q = sb ∨ q = b) w w' ∧ RWalker w' T R H Re Ca S B A n c ws b sb seen bad2 ∧
    ((∃ q, tf = some q ∧ out = byKey q.1 ∧ bad2 = bad) ∨ (tf = none ∧ bad2 = true))

set_option maxRecDepth 100000 in
set_option maxHeartbeats 16000000 in
theorem rtable_any (T R H Re Ca S B : Int) (hok : Okay T R H Re Ca S B) (A : Option Addr) (n c : Nat) (ws : List Int) (hn : (n : Int) = sumOf R H S B 13) (hws : ∀ x ∈ ws, 0 ≤ x ∧ x ≤ 18446744073709551615)
    (b sb : Nat) (seen0 : List Bool) (bad : Bool) (w : World)
    (hA : ∀ bw off, A = some ⟨bw, off, none⟩ → bw ≠ sb ∧ bw ≠ b ∧ bw < w.heap.size) (hw : RWalker w T R H Re Ca S B A n c ws b sb seen0 bad) :
    Calls Try.prog 68 #[.pointer (some ⟨b, 0, none⟩)] w (RTab w T R H Re Ca S B A n c ws b sb bad (tabF S B (fun s => wrap64 (regOf R H S B ws 10 s)) (fun s => wrap64 (regOf R H S B ws 11 s)) (regOf R H S B ws 12) (regOf R H S B ws 6) B.toNat seen0)) := by
  have hok' := hok
  unfold Okay at hok'
  obtain ⟨_, _, hR, hR', hH, hH', _, _, _, _, hS, hS', hB, hB'⟩ := hok'
  have Hv : Hid (∀ (w : World) (seen : List Bool) (bad : Bool) (s : Int), RWalker w T R H Re Ca S B A n c ws b sb seen bad → 0 ≤ s → s < S → Calls Try.prog 106 #[.pointer (some ⟨b, 0, none⟩), .int .i64 11, .int .i64 s] w fun e w' => e = .returned (.int .u64 (regOf R H S B ws 10 s)) ∧ Ext w w') :=
    fun w seen bad s hw h0 h1 => rreg_any T R H Re Ca S B hok A n c ws hn hws 10 11 rfl (by omega) s h0 (by simp [manyOf]; exact h1) b sb seen bad w hw
  have Hd : Hid (∀ (w : World) (seen : List Bool) (bad : Bool) (s : Int), RWalker w T R H Re Ca S B A n c ws b sb seen bad → 0 ≤ s → s < S → Calls Try.prog 106 #[.pointer (some ⟨b, 0, none⟩), .int .i64 12, .int .i64 s] w fun e w' => e = .returned (.int .u64 (regOf R H S B ws 11 s)) ∧ Ext w w') :=
    fun w seen bad s hw h0 h1 => rreg_any T R H Re Ca S B hok A n c ws hn hws 11 12 rfl (by omega) s h0 (by simp [manyOf]; exact h1) b sb seen bad w hw
  have Hvt : Hid (∀ s : Int, wrap64 (regOf R H S B ws 10 s) = (fun s => wrap64 (regOf R H S B ws 10 s)) s) := fun s => rfl
  have Hdt : Hid (∀ s : Int, wrap64 (regOf R H S B ws 11 s) = (fun s => wrap64 (regOf R H S B ws 11 s)) s) := fun s => rfl
  have Hbw : Hid (∀ j : Int, 0 ≤ j → j < B → ∃ i : Nat, sumOf R H S B 6 + j = i ∧ i < n ∧ ws[i]? = some (regOf R H S B ws 6 j) ∧ 0 ≤ regOf R H S B ws 6 j ∧ regOf R H S B ws 6 j ≤ 18446744073709551615) := fun j h0 h1 => by
    obtain ⟨i, hi, hx, ha, hb⟩ := reg_at hR hR' hH hH' hS hS' hB hB' hw.wlen hn hws 6 (by omega) j h0 (by simp [manyOf]; exact h1)
    exact ⟨i, hi, by rw [← hw.wlen]; exact (List.getElem?_eq_some_iff.1 hx).1, hx, ha, hb⟩
  have Hba : Hid (∀ w : World, Calls Try.prog 60 #[(.agg #[.int .i64 T, .int .i64 R, .int .i64 H, .int .i64 Re, .int .i64 Ca, .int .i64 S, .int .i64 B]), .int .i64 7] w fun e w' => e = .returned (.int .i64 (sumOf R H S B 6)) ∧ Ext w w') := fun w => base_any T R H Re Ca S B 6 w hR hR' hH hH' hS hS' hB hB' 7 rfl (by omega)
  have hbd := sumOf_bd R H S B hR hR' hH hH' hS hS' hB hB' 6
  have Hkeys := Lib.hid (fun seen bad x0 h0 h1 bk w hA hw => rkeys_any T R H Re Ca S B hok A n c ws hn hws b sb seen bad x0 h0 h1 bk w hA hw)
  generalize (fun s => wrap64 (regOf R H S B ws 10 s)) = val at *
  generalize (fun s => wrap64 (regOf R H S B ws 11 s)) = data at *
  generalize regOf R H S B ws 10 = rv at *
  generalize regOf R H S B ws 11 = rd at *
  generalize regOf R H S B ws 12 = lk at *
  generalize regOf R H S B ws 6 = bwd at *
  generalize sumOf R H S B 6 = X at *
  obtain ⟨i0, _, _, hi0, _, _⟩ := Hbw.out 0 (by omega) (by omega)
  obtain ⟨bw, off, rfl, hbw, _⟩ := hw.words.lat (j := i0) (u := .int .u64 (bwd 0)) (by simp [hi0])
  have HA := Lib.hid hA
  have HW := Lib.hid hw
  have Hlt := Lib.hid hw.lt
  have HS := Lib.hid (⟨hS, hS'⟩ : 1 ≤ S ∧ S ≤ 1024)
  have HB := Lib.hid (⟨hB, hB'⟩ : 1 ≤ B ∧ B ≤ 64)
  clear hok hn hws hA hw hR hR' hH hH' hS hS' hi0
  obtain ⟨c0, c1, c2, c3, c4, c5, c6, c7, c8, c9⟩ := HW.out.cells
  refine start_lat fun k0 => ?_
  go_enter Try.func68, Try.ntmps68
  go_wp2_with fail
  clear c0 c1 c2 c3 c4 c5 c6 c7 c8 c9
  go_loopw [3, 4, 5, 6, 7, 8] (fun s3 s4 _ _ _ _ wr => ∃ (j : Nat) (out : List (Int × Int)) (seen : List Bool) (bad2 : Bool), s4 = .int .i64 j ∧ (j : Int) ≤ B ∧ out.length ≤ 1024 * j ∧ Hid (RWalker wr T R H Re Ca S B (some ⟨bw, off, none⟩) n c ws b sb seen bad2) ∧ Hid (Only (fun q => q = sb ∨ q = b) w wr) ∧
    Hid (wr.ownsRow w.heap.size 106 2 s3 out.length (out.flatMap encPair)) ∧ Hid (out.Pairwise fun x y => x.1 ≤ y.1) ∧
    Hid ((∃ tb, tabF S B val data lk bwd j seen0 = some (tb, seen) ∧ out.Perm tb ∧ bad2 = bad) ∨ (tabF S B val data lk bwd B.toNat seen0 = none ∧ bad2 = true))) (fun _ s4 _ _ _ _ _ => (B - intOf s4).toNat)
  case atStart => exact ⟨0, [], seen0, bad, rfl, by omega, Nat.zero_le _, HW.out.ext k0.ok, Only.of_ext k0.ok, World.ownsRow_nil _ _ _ _, Lib.hid List.Pairwise.nil, Lib.hid (.inl ⟨[], rfl, List.Perm.refl _, rfl⟩)⟩
  case round =>
    obtain ⟨j, out, seen, bad2, rfl, hj, hol, HWr, HOn, HO, HPw, HR⟩ := hrel
    obtain ⟨A3, d3, rfl⟩ := own_form HO.out
    obtain ⟨W1, hW1⟩ : ∃ W1 : World, W1 = wr := ⟨_, rfl⟩
    subst hW1
    obtain ⟨c0, c1, c2, c3, c4, c5, c6, c7, c8, c9⟩ := HWr.out.cells
    by_cases hlt : (j : Int) < B
    · obtain ⟨kr, hkr⟩ := lat_self W1
      rw [hkr]
      go_upto_region 5 with fail
      rw [← hkr]
      clear hkr kr c0 c1 c2 c3 c4 c5 c6 c7 c8 c9
      obtain ⟨i, hi, hin, hxi, hxa, hxb⟩ := Hbw.out j (by omega) hlt
      have Hcx : Hid (∀ w5 : World, Ext W1 w5 → w5.cell? ⟨bw, off + (X + j).toNat, none⟩ = some (.int .u64 (bwd j))) := fun w5 e => by
        obtain ⟨b', o', hA', _, hc⟩ := HWr.out.words.lat (j := i) (u := .int .u64 (bwd j)) (by simp [hxi])
        injection hA' with hA'
        injection hA' with e1 e2
        subst e1 e2
        rw [show (X + j).toNat = i by omega]
        exact hc ⟨w5, e⟩
      have hwr : IntKind.i64.wrap (X + j) = X + j := IntWalk.i64_in _ (by omega)
      have hz0 : 0 ≤ X + j := by omega
      have hz1 : X + j < n := by omega
      have hs1 := HOn.out.size
      have Hkj := Lib.hid (fun (w5 : World) (h : RWalker w5 T R H Re Ca S B (some ⟨bw, off, none⟩) n c ws b sb seen bad2) (hs : W1.heap.size ≤ w5.heap.size) => Hkeys.out seen bad2 (bwd j) hxa hxb j w5 (fun bw off e => ⟨(HA.out bw off e).1, (HA.out bw off e).2.1, by have := (HA.out bw off e).2.2; omega⟩) h)
      generalize hbwj : bwd j = xj at Hcx Hkj
      clear hxi hi hin hxa hxb
      have hr0 : W1.drew.cell? ⟨b, 7, none⟩ = some (.slice (some ⟨bw, off, none⟩) n c) := cellOf (HWr.out.ext (Ext.rfl' W1).drew1).blk rfl
      have q0 : W1.drew.cell? ⟨b, 0, none⟩ = some (.int .i64 T) := cellOf (HWr.out.ext (Ext.rfl' W1).drew1).blk rfl
      have q1 : W1.drew.cell? ⟨b, 1, none⟩ = some (.int .i64 R) := cellOf (HWr.out.ext (Ext.rfl' W1).drew1).blk rfl
      have q2 : W1.drew.cell? ⟨b, 2, none⟩ = some (.int .i64 H) := cellOf (HWr.out.ext (Ext.rfl' W1).drew1).blk rfl
      have q3 : W1.drew.cell? ⟨b, 3, none⟩ = some (.int .i64 Re) := cellOf (HWr.out.ext (Ext.rfl' W1).drew1).blk rfl
      have q4 : W1.drew.cell? ⟨b, 4, none⟩ = some (.int .i64 Ca) := cellOf (HWr.out.ext (Ext.rfl' W1).drew1).blk rfl
      have q5 : W1.drew.cell? ⟨b, 5, none⟩ = some (.int .i64 S) := cellOf (HWr.out.ext (Ext.rfl' W1).drew1).blk rfl
      have q6 : W1.drew.cell? ⟨b, 6, none⟩ = some (.int .i64 B) := cellOf (HWr.out.ext (Ext.rfl' W1).drew1).blk rfl
      go_cut [5] (fun s5 wx => ∃ (l : List Int) (seen1 : List Bool) (bad1 : Bool), Hid (wx.ownsRow W1.heap.size 3 1 s5 l.length (l.map (Value.int .i64))) ∧ Hid (Only (fun q => q = sb ∨ q = b) W1 wx) ∧ Hid (RWalker wx T R H Re Ca S B (some ⟨bw, off, none⟩) n c ws b sb seen1 bad1) ∧ Hid (∀ s ∈ l, 0 ≤ s ∧ s < S) ∧ Hid (l.length ≤ S.toNat) ∧
        Hid ((keysOf val B j (chainOf S lk true seen xj) = some l ∧ seen1 = (chainOf S lk true seen xj).2.2 ∧ bad1 = bad2) ∨ (keysOf val B j (chainOf S lk true seen xj) = none ∧ bad1 = true)))
      case first =>
        refine wp_region_noPanic (wp_region_held_drew (S := fun w' : World => w'.cell? ⟨b, 7, none⟩ = some (.slice (some ⟨bw, off, none⟩) n c)) (by kernel_rfl) hr0 (fun hHeld => ?_))
        refine wpAnyH_take (i := 0) (v := ?_) rfl (by kernel_rfl) (by kernel_rfl) (by kernel_rfl) (fun _ _ _ h => h) (Or.inl ⟨by rfl, ?hy1⟩) (by assumption) ?rest1
        case hy1 => (intro w hSw; (try dsimp only at hSw); go_simp; try with_reducible rfl)
        refine wpAnyH_take (i := 1) (v := ?_) rfl (by kernel_rfl) (by kernel_rfl) (by kernel_rfl) (fun _ _ _ h => h) (Or.inl ⟨by rfl, ?hy2⟩) (by assumption) ?rest2
        case hy2 => (intro w hSw; (try dsimp only at hSw); go_simp; try with_reducible rfl)
        refine wpAnyH_take (i := 2) (v := ?_) rfl (by kernel_rfl) (by kernel_rfl) (by kernel_rfl) (fun _ _ _ h => h) (Or.inl ⟨by rfl, ?hy3⟩) (by assumption) ?rest3
        case hy3 => (intro w hSw; (try dsimp only at hSw); go_simp; try with_reducible rfl)
        refine wpAnyH_take (i := 3) (v := ?_) rfl (by kernel_rfl) (by kernel_rfl) (by kernel_rfl) (fun _ _ _ h => h) (Or.inl ⟨by rfl, ?hy4⟩) (by assumption) ?rest4
        case hy4 => (intro w hSw; (try dsimp only at hSw); go_simp; try with_reducible rfl)
        refine wpAnyH_take (i := 5) (v := ?_) rfl (by kernel_rfl) (by kernel_rfl) (by kernel_rfl) (fun _ _ _ h => h) (Or.inl ⟨by rfl, ?hy5⟩) (by assumption) ?rest5
        case hy5 => (intro w hSw; (try dsimp only at hSw); go_simp; try with_reducible rfl)
        refine wpAnyH_take (i := 6) (v := ?_) rfl (by kernel_rfl) (by kernel_rfl) (by kernel_rfl) (fun _ _ _ h => h) (Or.inl ⟨by rfl, ?hy6⟩) (by assumption) ?rest6
        case hy6 => (intro w hSw; (try dsimp only at hSw); go_simp; try with_reducible rfl)
        refine wpAnyH_take (i := 7) (v := ?_) rfl (by kernel_rfl) (by kernel_rfl) (by kernel_rfl) (fun _ _ _ h => h) (Or.inl ⟨by rfl, ?hy7⟩) (by assumption) ?rest7
        case hy7 => (intro w hSw; (try dsimp only at hSw); go_simp; try with_reducible rfl)
        refine wpAnyH_take (i := 10) (v := ?_) rfl (by kernel_rfl) (by kernel_rfl) (by kernel_rfl) (fun _ _ _ h => h) (Or.inl ⟨by rfl, ?hy8⟩) (by assumption) ?rest8
        case hy8 => (intro w hSw; (try dsimp only at hSw); go_simp; try with_reducible rfl)
        refine wpAnyH_take (i := 14) (v := ?_) rfl (by kernel_rfl) (by kernel_rfl) (by kernel_rfl) (fun _ _ _ h => h) (Or.inl ⟨by rfl, ?hy9⟩) (by assumption) ?rest9
        case hy9 => (intro w hSw; (try dsimp only at hSw); go_simp; try with_reducible rfl)
        refine wpAnyH_ready (rs := [4, 8]) (by kernel_rfl) (by simp) ?_
        refine AllReadyH.cons rfl (fun K hK => ?_) ?_
        · go_simp
          refine hK.out _ _ hr0 (fun hHeld => ?_)
          clear hK K
          refine wpAnyH_ready (rs := [8]) (by kernel_rfl) (by simp) ?_
          refine AllReadyH.cons rfl (fun K hK => ?_) ?_
          · go_simp
            refine hK.out _ _ hr0 (fun hHeld => ?_)
            clear hK K
            refine wpAnyH_ready (rs := [9]) (by kernel_rfl) (by simp) ?_
            refine AllReadyH.cons rfl (fun K hK => ?_) ?_
            · go_simp
              (with_reducible refine (Hba.out _).mono ?_)
              rintro e w5 ⟨rfl, e5⟩
              have E5 := Lib.hid (HWr.out.ext (Ext.next (Ext.rfl' W1).drew1 e5))
              have X5 := Lib.hid (Ext.next (Ext.rfl' W1).drew1 e5)
              have h57 : w5.cell? ⟨b, 7, none⟩ = some (.slice (some ⟨bw, off, none⟩) n c) := cellOf E5.out.blk rfl
              have h5x := Hcx.out w5 X5.out
              refine hK.out _ _ h57 (fun hHeld => ?_)
              clear hK K
              refine wpAnyH_take (i := 11) (v := ?_) rfl (by kernel_rfl) (by kernel_rfl) (by kernel_rfl) (fun _ _ _ h => h) (Or.inl ⟨by rfl, ?hy10⟩) (by assumption) ?rest10
              case hy10 => (intro w hSw; (try dsimp only at hSw); go_simp; try with_reducible rfl)
              refine wpAnyH_take (i := 12) (v := ?_) rfl (by kernel_rfl) (by kernel_rfl) (by kernel_rfl) (fun _ _ _ h => h) (Or.inl ⟨by rfl, ?hy11⟩) (by assumption) ?rest11
              case hy11 => (intro w hSw; (try dsimp only at hSw); go_simp; try with_reducible rfl)
              refine wpAnyH_ready (rs := [13]) (by kernel_rfl) (by simp) ?_
              refine AllReadyH.cons rfl (fun K hK => ?_) ?_
              · go_simp
                refine hK.out _ _ h57 (fun hHeld => ?_)
                clear hK K
                refine wpAnyH_ready (rs := [15]) (by kernel_rfl) (by simp) ?_
                refine AllReadyH.cons rfl (fun K hK => ?_) ?_
                · go_simp
                  (with_reducible refine (Hkj.out w5 E5.out X5.out.size).mono ?_)
                  rintro e w6 ⟨v1, l, seen1, bad1, rfl, hown1, hon1, hw1, hrg, hln, hcase⟩
                  have h67 : w6.cell? ⟨b, 7, none⟩ = some (.slice (some ⟨bw, off, none⟩) n c) := cellOf hw1.blk rfl
                  refine hK.out _ _ h67 (fun hHeld => ?_)
                  clear hK K
                  refine wpAnyH_take (i := 16) (v := ?_) rfl (by kernel_rfl) (by kernel_rfl) (by kernel_rfl) (fun _ _ _ h => h) (Or.inl ⟨by rfl, ?hy12⟩) (by assumption) ?rest12
                  case hy12 => (intro w hSw; (try dsimp only at hSw); go_simp; try with_reducible rfl)
                  refine wpAnyH_done (by kernel_rfl) (NoPanic.normal ?_) _
                  have hsz5 := X5.out.size
                  have Hon1 : Hid (Only (fun q => q = sb ∨ q = b) W1 w6) := (Only.of_ext (S := fun q => q = sb ∨ q = b) X5.out).trans hon1 fun _ _ h => h
                  have Hown1 : Hid (w6.ownsRow W1.heap.size 3 1 v1 l.length (l.map (Value.int .i64))) := own_base hown1 hsz5
                  dsimp only [Exit.then, Exit.inBlock]
                  (try go_wp2_with fail)
                  go_meet
                  case rel => exact ⟨l, seen1, bad1, Hown1, Hon1, Lib.hid hw1, Lib.hid hrg, Lib.hid hln, Lib.hid hcase⟩
                · exact AllReadyH.nil
              · exact AllReadyH.nil
            · exact AllReadyH.nil
          · exact AllReadyH.nil
        refine AllReadyH.cons rfl (fun K hK => ?_) ?_
        · go_simp
          refine hK.out _ _ hr0 (fun hHeld => ?_)
          clear hK K
          refine wpAnyH_ready (rs := [4, 9]) (by kernel_rfl) (by simp) ?_
          refine AllReadyH.cons rfl (fun K hK => ?_) ?_
          · go_simp
            refine hK.out _ _ hr0 (fun hHeld => ?_)
            clear hK K
            refine wpAnyH_ready (rs := [9]) (by kernel_rfl) (by simp) ?_
            refine AllReadyH.cons rfl (fun K hK => ?_) ?_
            · go_simp
              (with_reducible refine (Hba.out _).mono ?_)
              rintro e w5 ⟨rfl, e5⟩
              have E5 := Lib.hid (HWr.out.ext (Ext.next (Ext.rfl' W1).drew1 e5))
              have X5 := Lib.hid (Ext.next (Ext.rfl' W1).drew1 e5)
              have h57 : w5.cell? ⟨b, 7, none⟩ = some (.slice (some ⟨bw, off, none⟩) n c) := cellOf E5.out.blk rfl
              have h5x := Hcx.out w5 X5.out
              refine hK.out _ _ h57 (fun hHeld => ?_)
              clear hK K
              refine wpAnyH_take (i := 11) (v := ?_) rfl (by kernel_rfl) (by kernel_rfl) (by kernel_rfl) (fun _ _ _ h => h) (Or.inl ⟨by rfl, ?hy13⟩) (by assumption) ?rest13
              case hy13 => (intro w hSw; (try dsimp only at hSw); go_simp; try with_reducible rfl)
              refine wpAnyH_take (i := 12) (v := ?_) rfl (by kernel_rfl) (by kernel_rfl) (by kernel_rfl) (fun _ _ _ h => h) (Or.inl ⟨by rfl, ?hy14⟩) (by assumption) ?rest14
              case hy14 => (intro w hSw; (try dsimp only at hSw); go_simp; try with_reducible rfl)
              refine wpAnyH_ready (rs := [13]) (by kernel_rfl) (by simp) ?_
              refine AllReadyH.cons rfl (fun K hK => ?_) ?_
              · go_simp
                refine hK.out _ _ h57 (fun hHeld => ?_)
                clear hK K
                refine wpAnyH_ready (rs := [15]) (by kernel_rfl) (by simp) ?_
                refine AllReadyH.cons rfl (fun K hK => ?_) ?_
                · go_simp
                  (with_reducible refine (Hkj.out w5 E5.out X5.out.size).mono ?_)
                  rintro e w6 ⟨v1, l, seen1, bad1, rfl, hown1, hon1, hw1, hrg, hln, hcase⟩
                  have h67 : w6.cell? ⟨b, 7, none⟩ = some (.slice (some ⟨bw, off, none⟩) n c) := cellOf hw1.blk rfl
                  refine hK.out _ _ h67 (fun hHeld => ?_)
                  clear hK K
                  refine wpAnyH_take (i := 16) (v := ?_) rfl (by kernel_rfl) (by kernel_rfl) (by kernel_rfl) (fun _ _ _ h => h) (Or.inl ⟨by rfl, ?hy15⟩) (by assumption) ?rest15
                  case hy15 => (intro w hSw; (try dsimp only at hSw); go_simp; try with_reducible rfl)
                  refine wpAnyH_done (by kernel_rfl) (NoPanic.normal ?_) _
                  have hsz5 := X5.out.size
                  have Hon1 : Hid (Only (fun q => q = sb ∨ q = b) W1 w6) := (Only.of_ext (S := fun q => q = sb ∨ q = b) X5.out).trans hon1 fun _ _ h => h
                  have Hown1 : Hid (w6.ownsRow W1.heap.size 3 1 v1 l.length (l.map (Value.int .i64))) := own_base hown1 hsz5
                  dsimp only [Exit.then, Exit.inBlock]
                  (try go_wp2_with fail)
                  go_meet
                  case rel => exact ⟨l, seen1, bad1, Hown1, Hon1, Lib.hid hw1, Lib.hid hrg, Lib.hid hln, Lib.hid hcase⟩
                · exact AllReadyH.nil
              · exact AllReadyH.nil
            · exact AllReadyH.nil
          refine AllReadyH.cons rfl (fun K hK => ?_) ?_
          · go_simp
            (with_reducible refine (Hba.out _).mono ?_)
            rintro e w5 ⟨rfl, e5⟩
            have E5 := Lib.hid (HWr.out.ext (Ext.next (Ext.rfl' W1).drew1 e5))
            have X5 := Lib.hid (Ext.next (Ext.rfl' W1).drew1 e5)
            have h57 : w5.cell? ⟨b, 7, none⟩ = some (.slice (some ⟨bw, off, none⟩) n c) := cellOf E5.out.blk rfl
            have h5x := Hcx.out w5 X5.out
            refine hK.out _ _ h57 (fun hHeld => ?_)
            clear hK K
            refine wpAnyH_take (i := 11) (v := ?_) rfl (by kernel_rfl) (by kernel_rfl) (by kernel_rfl) (fun _ _ _ h => h) (Or.inl ⟨by rfl, ?hy16⟩) (by assumption) ?rest16
            case hy16 => (intro w hSw; (try dsimp only at hSw); go_simp; try with_reducible rfl)
            refine wpAnyH_ready (rs := [4]) (by kernel_rfl) (by simp) ?_
            refine AllReadyH.cons rfl (fun K hK => ?_) ?_
            · go_simp
              refine hK.out _ _ h57 (fun hHeld => ?_)
              clear hK K
              refine wpAnyH_take (i := 12) (v := ?_) rfl (by kernel_rfl) (by kernel_rfl) (by kernel_rfl) (fun _ _ _ h => h) (Or.inl ⟨by rfl, ?hy17⟩) (by assumption) ?rest17
              case hy17 => (intro w hSw; (try dsimp only at hSw); go_simp; try with_reducible rfl)
              refine wpAnyH_ready (rs := [13]) (by kernel_rfl) (by simp) ?_
              refine AllReadyH.cons rfl (fun K hK => ?_) ?_
              · go_simp
                refine hK.out _ _ h57 (fun hHeld => ?_)
                clear hK K
                refine wpAnyH_ready (rs := [15]) (by kernel_rfl) (by simp) ?_
                refine AllReadyH.cons rfl (fun K hK => ?_) ?_
                · go_simp
                  (with_reducible refine (Hkj.out w5 E5.out X5.out.size).mono ?_)
                  rintro e w6 ⟨v1, l, seen1, bad1, rfl, hown1, hon1, hw1, hrg, hln, hcase⟩
                  have h67 : w6.cell? ⟨b, 7, none⟩ = some (.slice (some ⟨bw, off, none⟩) n c) := cellOf hw1.blk rfl
                  refine hK.out _ _ h67 (fun hHeld => ?_)
                  clear hK K
                  refine wpAnyH_take (i := 16) (v := ?_) rfl (by kernel_rfl) (by kernel_rfl) (by kernel_rfl) (fun _ _ _ h => h) (Or.inl ⟨by rfl, ?hy18⟩) (by assumption) ?rest18
                  case hy18 => (intro w hSw; (try dsimp only at hSw); go_simp; try with_reducible rfl)
                  refine wpAnyH_done (by kernel_rfl) (NoPanic.normal ?_) _
                  have hsz5 := X5.out.size
                  have Hon1 : Hid (Only (fun q => q = sb ∨ q = b) W1 w6) := (Only.of_ext (S := fun q => q = sb ∨ q = b) X5.out).trans hon1 fun _ _ h => h
                  have Hown1 : Hid (w6.ownsRow W1.heap.size 3 1 v1 l.length (l.map (Value.int .i64))) := own_base hown1 hsz5
                  dsimp only [Exit.then, Exit.inBlock]
                  (try go_wp2_with fail)
                  go_meet
                  case rel => exact ⟨l, seen1, bad1, Hown1, Hon1, Lib.hid hw1, Lib.hid hrg, Lib.hid hln, Lib.hid hcase⟩
                · exact AllReadyH.nil
              · exact AllReadyH.nil
            · exact AllReadyH.nil
          · exact AllReadyH.nil
        · exact AllReadyH.nil
      obtain ⟨l, seen1, bad1, HOl, HOn1, HW1, Hrg, Hln, Hcase⟩ := hcut
      obtain ⟨W2, hW2⟩ : ∃ W2 : World, W2 = wc := ⟨_, rfl⟩
      subst hW2
      obtain ⟨A5, d5, rfl⟩ := own_form HOl.out
      have hs2 := HOn1.out.size
      have HOn2 := Lib.hid (HOn.out.trans HOn1.out fun _ _ h => h)
      have HO2 := Lib.hid (own_only HO.out HOn1.out fun q hq e => by have := HO.out.lt q hq; have := Hlt.out; omega)
      have HOB : Hid (∀ q, (Value.slice A3 out.length d3).ownBlock = some q → q < W1.heap.size) := fun q hq => (HO.out.lt q hq).2
      clear hr0 q0 q1 q2 q3 q4 q5 q6 HO HOn HWr HOn1 Hkj Hcx
      obtain ⟨m, hm⟩ : ∃ m, l.length = m := ⟨_, rfl⟩
      rw [hm] at HOl
      simp only [hm]
      have Hm := Lib.hid hm
      have hmb : m ≤ 1024 := by
        have h1 := HS.out
        have h2 := Hln.out
        omega
      clear hm
      obtain ⟨k2, hk2⟩ := lat_self W2
      rw [hk2]
      clear hk2
      go_wp2_with fail
      go_loopw [3, 6, 7, 8] (fun s3 s6 _ _ wr => ∃ (i : Nat) (out2 : List (Int × Int)), s6 = .int .i64 i ∧ i ≤ m ∧ Hid (out2.length = out.length + i) ∧ Hid (RWalker wr T R H Re Ca S B (some ⟨bw, off, none⟩) n c ws b sb seen1 bad1) ∧ Hid (Only (fun q => q = sb ∨ q = b) w wr) ∧
        Hid (wr.ownsRow w.heap.size 106 2 s3 out2.length (out2.flatMap encPair)) ∧ Hid (wr.ownsRow W1.heap.size 3 1 (.slice A5 m d5) m (l.map (Value.int .i64))) ∧ Hid (∀ q, (Value.slice A5 m d5).ownBlock = some q → s3.ownBlock ≠ some q) ∧
        Hid (out2.Pairwise fun x y => x.1 ≤ y.1) ∧ Hid (out2.Perm (out ++ (l.take i).map fun s => (val s, data s)))) (fun _ s6 _ _ _ => m - (intOf s6).toNat)
      case atStart => exact ⟨0, out, rfl, Nat.zero_le _, Lib.hid rfl, HW1.out.ext k2.ok, HOn2.out.trans (Only.of_ext (S := fun _ => False) k2.ok) fun _ _ h => h.elim, own_ext HO2.out k2.ok, own_ext HOl.out k2.ok, Lib.hid (fun q hq h => by
        have h1 := (HOl.out.lt q hq).1
        have h2 := HOB.out q h
        omega), HPw, Lib.hid (by simp)⟩
      case round =>
        obtain ⟨i, out2, rfl, hi, Hol2, HWi, HOni, HOi, HLi, HNi, HPi, HPm⟩ := hrel
        obtain ⟨A6, d6, rfl⟩ := own_form HOi.out
        by_cases hlt2 : i < m
        · obtain ⟨s, hs⟩ : ∃ s, l[i]? = some s := ⟨_, List.getElem?_eq_getElem (by rw [Hm.out]; exact hlt2)⟩
          have hsr := Hrg.out s (List.mem_of_getElem? hs)
          have hs0 := hsr.1
          have hs1' := hsr.2
          have Hs := Lib.hid hs
          obtain ⟨bl, ol, hA5, hbl, hcl⟩ := (Rd.of_own HLi.out).lat (j := i) (u := .int .i64 s) (by simp [hs])
          subst hA5
          have z0 : (0 : Int) ≤ (i : Int) := by omega
          have z1 : (i : Int) < (m : Int) := by omega
          have Hv1 := Lib.hid (fun (w' : World) (e : Ext wr w') => Hv.out w' seen1 bad1 s (HWi.out.ext e) hs0 hs1')
          have Hd1 := Lib.hid (fun (w' : World) (e : Ext wr w') => Hd.out w' seen1 bad1 s (HWi.out.ext e) hs0 hs1')
          have Hvs := Lib.hid (Hvt.out s)
          have Hds := Lib.hid (Hdt.out s)
          have hkp : ∀ w' : World, Ext wr w' → w'.cell? ⟨bl, ol + i, none⟩ = some (.int .i64 s) := fun w' e => hcl ⟨w', e⟩
          have E0 : Ext wr wr.drew := (Ext.rfl' wr).drew1
          have hd0 := hkp _ E0
          clear hs hsr hcl
          generalize rv s = xv at *
          generalize rd s = xd at *
          go_upto_region 9 with fail
          go_cut [7] (fun s7 wx => ∃ bp, s7 = .pointer (some ⟨bp, 0, none⟩) ∧ Hid (wr.heap.size ≤ bp) ∧ Hid (wx.heap[bp]? = some (.cells #[.int .i64 (IntKind.i64.wrap xv), .int .i64 (IntKind.i64.wrap xd)] 106 (0, 0))) ∧ Hid (Ext wr wx))
          case first =>
            go_region_held3 (fun w' => w'.cell? ⟨bl, ol + i, none⟩ = some (.int .i64 s)) (first | with_reducible exact hd0 | with_reducible exact hkp _ EA | with_reducible exact hkp _ EB | with_reducible exact hkp _ (E0.alloc1 _) | with_reducible exact hkp _ (((Ext.rfl' wr).alloc1 _).drew1) | with_reducible exact hkp _ (EA.alloc1 _) | with_reducible exact hkp _ (EB.alloc1 _) | exact hkp _ (ext_set (ext_set EB (by first | exact Nat.le_refl _ | exact EA.size) 0 _) (by first | exact Nat.le_refl _ | exact EA.size) 1 _)) (first | ((with_reducible refine (Hv1.out _ (by first | with_reducible exact E0 | with_reducible exact E0.alloc1 _ | with_reducible exact ((Ext.rfl' wr).alloc1 _).drew1)).mono ?_); rintro e w5 ⟨rfl, e5⟩; have EA := Ext.next (by first | with_reducible exact E0 | with_reducible exact E0.alloc1 _ | with_reducible exact ((Ext.rfl' wr).alloc1 _).drew1) e5; (try have HB1 := Lib.hid (ext_blk e5 (heap_alloc_new _ _)))) | ((with_reducible refine (Hd1.out _ (by first | with_reducible exact EA | with_reducible exact EA.alloc1 _)).mono ?_); rintro e w6 ⟨rfl, e6⟩; have EB := Ext.next (by first | with_reducible exact EA | with_reducible exact EA.alloc1 _) e6; (try (have HB2 := Lib.hid (ext_blk e6 (by first | exact HB1.out | exact heap_alloc_new _ _)); have hq0 := cellOf (i := 0) HB2.out rfl; have hq1 := cellOf (i := 1) HB2.out rfl; have hq2 := freeOf HB2.out 0; have hq3 := freeOf HB2.out 1))))
            all_goals
              dsimp only [Exit.then, Exit.inBlock]
              (try go_wp2_with fail)
              go_meet
              case rel =>
                first
                  | exact ⟨_, rfl, Lib.hid EB.size, Lib.hid (heap_alloc_new _ _), Lib.hid (EB.alloc1 _)⟩
                  | exact ⟨_, rfl, Lib.hid EA.size, Lib.hid (heap_setCell_same _ _ _ _ _ _ (heap_setCell_same _ _ _ _ _ _ HB2.out)), Lib.hid (ext_set (ext_set EB EA.size 0 _) EA.size 1 _)⟩
                  | exact ⟨_, rfl, Lib.hid (Nat.le_refl _), Lib.hid (heap_setCell_same _ _ _ _ _ _ (heap_setCell_same _ _ _ _ _ _ HB2.out)), Lib.hid (ext_set (ext_set EB (Nat.le_refl _) 0 _) (Nat.le_refl _) 1 _)⟩
          obtain ⟨bp, rfl, HBg, HBp, HEx⟩ := hcut
          rw [IntWalk.i64_left, IntWalk.i64_left, Hvs.out, Hds.out] at HBp
          obtain ⟨W3, hW3⟩ : ∃ W3 : World, W3 = wc := ⟨_, rfl⟩
          subst hW3
          have HW3 := Lib.hid (HWi.out.ext HEx.out)
          have HO3 := Lib.hid (own_ext HOi.out HEx.out)
          have HL3 := Lib.hid (own_ext HLi.out HEx.out)
          have HOn3 := Lib.hid (HOni.out.trans (Only.of_ext (S := fun _ => False) HEx.out) fun _ _ h => h.elim)
          have hp0 := cellOf (i := 0) HBp.out rfl
          have hp1 := cellOf (i := 1) HBp.out rfl
          clear hkp E0 hd0 hbl
          generalize hpv : val s = pv at *
          generalize hpd : data s = pd at *
          have Hpp : Hid ((val s, data s) = (pv, pd)) := by
            show _ = _
            rw [hpv, hpd]
          clear hpv hpd
          have hsz3 := HOn3.out.size
          have hbytes : (out2.length + 1) * 16 ≤ 140737488355328 := by
            have h1 := Hol2.out
            have h2 := HB.out
            omega
          have hO3 : W3.ownsRow w.heap.size 106 2 (.slice A6 out2.length d6) out2.length (out2.flatMap encPair) := HO3.out
          clear HOi HLi HWi HOni
          go_upto_region 11 with (at_builtin; refine wpList_push _ rfl (.tmp 55) (.tmp 57) 36 rfl w.heap.size 106 2 16 elemPairR Try.underlying36 _ _ _ rfl hO3 _ rfl rfl (by simp [Value.oneCell']) hbytes hsz3 ?_; intro v7 w7 hown7 hgrow7 hat7)
          have hP7 : w7.ownsRow w.heap.size 106 2 v7 (out2.length + 1) ((insAt out2.length out2 (pv, pd)).flatMap encPair) := by
            rw [insAt_end, List.flatMap_append]
            simpa [encPair] using hown7
          obtain ⟨G, c7, rfl, hnc7, hG7, hG7'⟩ := own_form1 hP7 (by omega)
          have o7 : Only (fun q => w.heap.size ≤ q) W3 w7 := (Only.of_grown hgrow7).mono fun q _ hq => (hO3.lt q hq.symm).1
          have HW7 := Lib.hid (HW3.out.only o7 (by have := Hlt.out; omega) (by have := Hlt.out; omega) fun bw off e h => by have := (HA.out bw off e).2.2; omega)
          have HOn7 := Lib.hid (HOn3.out.trans o7 fun q hq h => by omega)
          have HL7 := Lib.hid (own_only HL3.out (Only.of_grown hgrow7) fun q hq h => HNi.out q hq h.symm)
          have HN7 : Hid (∀ q, (Value.slice (some ⟨bl, ol, none⟩) m d5).ownBlock = some q → q ≠ G) := fun q hq e => by
            have h1 := (HL3.out.lt q hq).2
            rcases hat7 with h2 | h2
            · exact HNi.out q hq (h2.symm.trans (by rw [e]; rfl))
            · injection h2 with h2
              have h2' : G = W3.heap.size + 1 := h2
              omega
          have HP7 := Lib.hid hP7
          have HGb := Lib.hid hG7
          obtain ⟨N, hN⟩ : ∃ N, out2.length = N := ⟨_, rfl⟩
          rw [hN] at HP7 hnc7
          simp only [hN]
          have HNn := Lib.hid hN
          have hNb : N ≤ 140737488355328 := by omega
          clear hown7 hgrow7 hat7 hP7 hO3 o7 hN HO3 HL3 HW3 HOn3 hG7 hG7' HBp hp0 hp1 hsz3 hbytes HNi
          go_wp2_with fail
          go_loopw [8] (fun s8 wr => ∃ (k : Nat), s8 = .int .i64 k ∧ k ≤ N ∧ Hid (wr.ownsRow w.heap.size 106 2 (.slice (some ⟨G, 0, none⟩) (N + 1) c7) (N + 1) ((insAt k out2 (pv, pd)).flatMap encPair)) ∧ Hid (Only (fun q => q = G) w7 wr) ∧ Hid (∀ x ∈ out2.drop k, pv ≤ x.1)) (fun s8 _ => (intOf s8).toNat)
          case atStart => exact ⟨N, by go_num, Nat.le_refl _, HP7, Only.refl _ _, Lib.hid (by rw [← HNn.out]; simp)⟩
          case round =>
            obtain ⟨k, rfl, hk, HKP, HKO, HKD⟩ := hrel
            obtain ⟨W8, hW8⟩ : ∃ W8 : World, W8 = wr := ⟨_, rfl⟩
            subst hW8
            have Hend : Hid ((∀ y, k ≠ 0 → out2[k - 1]? = some y → y.1 ≤ pv) → (insAt k out2 (pv, pd)).Pairwise (fun x y => x.1 ≤ y.1) ∧ (insAt k out2 (pv, pd)).Perm (out ++ (l.take (i + 1)).map fun s => (val s, data s)) ∧ (insAt k out2 (pv, pd)).length = out.length + (i + 1)) := fun h => by
              refine ⟨insAt_rise HPi.out HKD.out h (by rw [HNn.out]; exact hk), ?_, ?_⟩
              · refine (insAt_perm k out2 (pv, pd)).trans ?_
                rw [List.take_add_one, Hs.out]
                simp only [Option.toList_some, List.map_append, List.map_cons, List.map_nil, Hpp.out, ← List.append_assoc]
                exact HPm.out.append_right _
              · rw [insAt_len, Hol2.out]
                omega
            have HG8 : Hid (Only (fun q => w.heap.size ≤ q) w7 W8) := HKO.out.mono fun q _ h => by have := HGb.out; omega
            have HF1 : Hid (RWalker W8 T R H Re Ca S B (some ⟨bw, off, none⟩) n c ws b sb seen1 bad1) := HW7.out.only HG8.out (by have := Hlt.out; omega) (by have := Hlt.out; omega) fun bw off e h => by have := (HA.out bw off e).2.2; omega
            have HF2 := Lib.hid (HOn7.out.trans HG8.out fun q hq h => by omega)
            have HF3 := Lib.hid (own_only HL7.out HKO.out fun q hq h => HN7.out q hq h)
            have hil : (insAt k out2 (pv, pd)).length = N + 1 := by rw [insAt_len, HNn.out]
            have Hil := Lib.hid hil
            clear hil
            by_cases hk0 : k = 0
            · subst hk0
              obtain ⟨kr, hkr⟩ := lat_self W8
              rw [hkr]
              go_upto_region 12 with fail
              refine wp_region_cls (Ext W8) (Ext.drew1 kr.ok) (by kernel_rfl) (by kernel_rfl) ?_
              repeat (go_big_quiet_step (fail))
              refine wpQuiet_nil ?_
              rintro _ ⟨k4, rfl⟩
              have he := Hend.out (fun y h => absurd rfl h)
              have He1 := Lib.hid he.1
              have He2 := Lib.hid he.2.1
              have He3 := Lib.hid he.2.2
              clear he hkr
              go_wp2_with fail
              go_roundw
              case rel => exact ⟨i + 1, insAt 0 out2 (pv, pd), by go_num, by omega, He3, Lib.hid (HF1.out.ext k4.ok), Lib.hid (HF2.out.trans (Only.of_ext (S := fun _ => False) k4.ok) fun _ _ h => h.elim), Lib.hid (by rw [Hil.out]; exact own_ext HKP.out k4.ok), Lib.hid (own_ext HF3.out k4.ok), Lib.hid (fun q hq h => HN7.out q hq (Option.some.inj h).symm), He1, He2⟩
              case measure => simp [intOf]; omega
            · obtain ⟨k', rfl⟩ : ∃ k', k = k' + 1 := ⟨k - 1, by omega⟩
              obtain ⟨⟨y1, y2⟩, hy⟩ : ∃ y, out2[k']? = some y := ⟨_, List.getElem?_eq_getElem (by rw [HNn.out]; omega)⟩
              have Hy := Lib.hid hy
              have hb1 := insAt_before (pv, pd) (k := k') (L := out2) (by rw [HNn.out]; exact hk)
              rw [hy] at hb1
              have hb2 := insAt_at (pv, pd) (k := k' + 1) (L := out2) (by rw [HNn.out]; exact hk)
              obtain ⟨ya, yb⟩ := ownP_at HKP.out hb1
              obtain ⟨pa, pb⟩ := ownP_at HKP.out hb2
              simp only at ya yb pa pb
              have hq0 : (0 : Int) < ((k' + 1 : Nat) : Int) := by omega
              have hwk : IntKind.i64.wrap (((k' + 1 : Nat) : Int) - 1) = (k' : Int) := by rw [IntWalk.i64_in _ (by omega)]; omega
              have hq1 : (0 : Int) ≤ (k' : Int) := by omega
              have hq2 : (k' : Int) < ((N + 1 : Nat) : Int) := by omega
              have hq3 : ((k' + 1 : Nat) : Int) < ((N + 1 : Nat) : Int) := by omega
              have hq4 : (0 : Int) ≤ ((k' + 1 : Nat) : Int) := by omega
              obtain ⟨kr, hkr⟩ := lat_self W8
              rw [hkr]
              have Hb1 := Lib.hid hb1
              have Hb2 := Lib.hid hb2
              clear hy hb1 hb2 hkr
              by_cases hgt : pv < y1
              · have hdt : decide (pv < y1) = true := by simpa using hgt
                go_upto_region 12 with fail
                refine wp_region_cls (Ext W8) (Ext.drew1 kr.ok) (by kernel_rfl) (by kernel_rfl) ?_
                repeat (go_big_quiet_step (fail))
                refine wpQuiet_nil ?_
                rintro _ ⟨k4, rfl⟩
                have HKP4 := Lib.hid (own_ext HKP.out k4.ok)
                have HKO4 := Lib.hid (HKO.out.trans (Only.of_ext (S := fun _ => False) k4.ok) fun _ _ h => h.elim)
                have HKD4 : Hid (∀ x ∈ out2.drop k', pv ≤ x.1) := fun x hx => by
                  rw [List.drop_eq_getElem_cons (by rw [HNn.out]; omega)] at hx
                  rcases List.mem_cons.1 hx with h | h
                  · have := (List.getElem?_eq_some_iff.1 Hy.out).2
                    rw [h, this]
                    show pv ≤ y1
                    omega
                  · exact HKD.out x h
                clear ya yb pa pb
                generalize k4.world = W9 at HKP4 HKO4 ⊢
                have a0 := (ownP_at HKP4.out Hb1.out).1 ⟨W9, Ext.rfl' W9⟩
                have a1 := (ownP_at HKP4.out Hb1.out).2 ⟨W9, Ext.rfl' W9⟩
                have b0 := (ownP_at HKP4.out Hb2.out).1 ⟨W9, Ext.rfl' W9⟩
                have b1 := (ownP_at HKP4.out Hb2.out).2 ⟨W9, Ext.rfl' W9⟩
                simp only at a0 a1 b0 b1
                have fa0 := HKP4.out.frozenAt (k' * 2)
                have fa1 := HKP4.out.frozenAt (k' * 2 + 1)
                have fb0 := HKP4.out.frozenAt ((k' + 1) * 2)
                have fb1 := HKP4.out.frozenAt ((k' + 1) * 2 + 1)
                clear HKP HKO HKD HF1 HF2 HF3 HG8 Hend k4 kr
                go_wp2_with fail
                go_region
                go_wp2_with fail
                go_roundw
                case rel =>
                  have h9 := ownP_put (i := k' + 1) (y1, y2) (ownP_put (i := k') (pv, pd) HKP4.out (by rw [Hil.out]; omega)) (by rw [List.length_set, Hil.out]; omega)
                  rw [insAt_step (pv, pd) (y1, y2) (by rw [HNn.out]; exact hk) Hy.out] at h9
                  exact ⟨k', by go_num, by omega, Lib.hid h9.drew, Lib.hid (((((HKO4.out.setCell _ _ fun _ => rfl).setCell _ _ fun _ => rfl).setCell _ _ fun _ => rfl).setCell _ _ fun _ => rfl).drew), HKD4⟩
                case measure => simp [intOf]
              · have hdt : decide (pv < y1) = false := by simpa using hgt
                go_upto_region 12 with fail
                refine wp_region_cls (Ext W8) (Ext.drew1 kr.ok) (by kernel_rfl) (by kernel_rfl) ?_
                repeat (go_big_quiet_step (fail))
                refine wpQuiet_nil ?_
                rintro _ ⟨k4, rfl⟩
                have he := Hend.out (fun y _ h => by
                  rw [show k' + 1 - 1 = k' by omega, Hy.out] at h
                  injection h with h
                  subst h
                  show y1 ≤ pv
                  omega)
                have He1 := Lib.hid he.1
                have He2 := Lib.hid he.2.1
                have He3 := Lib.hid he.2.2
                clear he ya yb pa pb hq0 hwk
                go_wp2_with fail
                go_roundw
                case rel => exact ⟨i + 1, insAt (k' + 1) out2 (pv, pd), by go_num, by omega, He3, Lib.hid (HF1.out.ext k4.ok), Lib.hid (HF2.out.trans (Only.of_ext (S := fun _ => False) k4.ok) fun _ _ h => h.elim), Lib.hid (by rw [Hil.out]; exact own_ext HKP.out k4.ok), Lib.hid (own_ext HF3.out k4.ok), Lib.hid (fun q hq h => HN7.out q hq (Option.some.inj h).symm), He1, He2⟩
                case measure => simp [intOf]; omega
        · obtain rfl : m = i := by omega
          have HRn : Hid ((∃ tb, tabF S B val data lk bwd (j + 1) seen0 = some (tb, seen1) ∧ out2.Perm tb ∧ bad1 = bad) ∨ (tabF S B val data lk bwd B.toNat seen0 = none ∧ bad1 = true)) := by
            show _ ∨ _
            have hp := HPm.out
            rw [List.take_of_length_le (by rw [Hm.out]; exact Nat.le_refl _)] at hp
            rcases HR.out with ⟨tb, h1, h2, h3⟩ | ⟨h1, h2⟩
            · have h4 := tabF_succ h1
              simp only [hbwj] at h4
              rcases Hcase.out with ⟨g1, g2, g3⟩ | ⟨g1, g2⟩
              · rw [g1] at h4
                exact .inl ⟨_, by rw [h4, g2], hp.trans (h2.append (List.Perm.refl _)), g3.trans h3⟩
              · rw [g1] at h4
                exact .inr ⟨tabF_none h4 _ (by omega), g2⟩
            · rcases Hcase.out with ⟨g1, g2, g3⟩ | ⟨g1, g2⟩
              · exact .inr ⟨h1, g3.trans h2⟩
              · exact .inr ⟨h1, g2⟩
          have hol3 : out2.length ≤ 1024 * (j + 1) := by
            have := Hol2.out
            omega
          go_wp2_with fail
          go_roundw
          case rel => exact ⟨j + 1, out2, seen1, bad1, by go_num, by omega, hol3, HWi, HOni, HOi, HPi, HRn⟩
          case measure => simp [intOf]; omega
    · obtain ⟨kr, hkr⟩ := lat_self W1
      rw [hkr]
      go_wp2_with fail
      go_ret
      rw [← hkr]
      have hjB : B.toNat = j := by omega
      refine ⟨_, out, seen, bad2, rfl, HO.out, HOn.out, HWr.out, ?_⟩
      rcases HR.out with ⟨tb, h1, h2, h3⟩ | h
      · rw [hjB]
        exact .inl ⟨(tb, seen), h1, byKey_eq (tabF_keys _ _ h1).1 h2 HPw.out, h3⟩
      · exact .inr h
end Go.Proofs.Ytfbacopjookplaa
