/- The walks of the document's walker of a memory: a place's word, slots' values, a bucket, a plain link's word. -/
import Derived.Test.YtfbacopjookplaaLookS
import Derived.Test.YtfbacopjookplaaConfig
namespace Go.Proofs.Ytfbacopjookplaa
open Go.RowKit

/-- The document's walker in memory: its struct at b, its marks at sb; the words that it looks at. -/
structure RWalker (w : World) (T R H Re Ca S B : Int) (A : Option Addr) (n c : Nat) (ws : List Int) (b sb : Nat) (seen : List Bool) (bad : Bool) : Prop where
  blk : w.heap[b]? = some (.cells #[.int .i64 T, .int .i64 R, .int .i64 H, .int .i64 Re, .int .i64 Ca, .int .i64 S, .int .i64 B, .slice A n c, .slice (some ⟨sb, 0, none⟩) S.toNat S.toNat, .bool bad] 115 (0, 0))
  marks : w.heap[sb]? = some (.cells (seen.map Value.bool).toArray 4 (0, 0))
  len : seen.length = S.toNat
  words : Rd w A (ws.map (Value.int .u64))
  wlen : ws.length = n
  ne : b ≠ sb

section
variable {w w' : World} {T R H Re Ca S B : Int} {A : Option Addr} {n c : Nat} {ws : List Int} {b sb : Nat} {seen : List Bool} {bad : Bool}
theorem RWalker.ext (h : RWalker w T R H Re Ca S B A n c ws b sb seen bad) (e : Ext w w') : RWalker w' T R H Re Ca S B A n c ws b sb seen bad :=
  ⟨ext_blk e h.blk, ext_blk e h.marks, h.len, h.words.ext e, h.wlen, h.ne⟩
theorem RWalker.cells (h : RWalker w T R H Re Ca S B A n c ws b sb seen bad) :
    (∀ k : Lat w, k.world.cell? ⟨b, 0, none⟩ = some (.int .i64 T)) ∧ (∀ k : Lat w, k.world.cell? ⟨b, 1, none⟩ = some (.int .i64 R)) ∧ (∀ k : Lat w, k.world.cell? ⟨b, 2, none⟩ = some (.int .i64 H)) ∧
    (∀ k : Lat w, k.world.cell? ⟨b, 3, none⟩ = some (.int .i64 Re)) ∧ (∀ k : Lat w, k.world.cell? ⟨b, 4, none⟩ = some (.int .i64 Ca)) ∧ (∀ k : Lat w, k.world.cell? ⟨b, 5, none⟩ = some (.int .i64 S)) ∧ (∀ k : Lat w, k.world.cell? ⟨b, 6, none⟩ = some (.int .i64 B)) ∧
    (∀ k : Lat w, k.world.cell? ⟨b, 7, none⟩ = some (.slice A n c)) ∧ (∀ k : Lat w, k.world.cell? ⟨b, 8, none⟩ = some (.slice (some ⟨sb, 0, none⟩) S.toNat S.toNat)) ∧ (∀ k : Lat w, k.world.cell? ⟨b, 9, none⟩ = some (.bool bad)) :=
  ⟨Lat.cells h.blk rfl, Lat.cells h.blk rfl, Lat.cells h.blk rfl, Lat.cells h.blk rfl, Lat.cells h.blk rfl, Lat.cells h.blk rfl, Lat.cells h.blk rfl, Lat.cells h.blk rfl, Lat.cells h.blk rfl, Lat.cells h.blk rfl⟩
theorem RWalker.seen_at (h : RWalker w T R H Re Ca S B A n c ws b sb seen bad) {s : Nat} {x : Bool} (hs : seen[s]? = some x) : ∀ k : Lat w, k.world.cell? ⟨sb, s, none⟩ = some (.bool x) :=
  Lat.cells h.marks (by simp [hs])
theorem RWalker.lt (h : RWalker w T R H Re Ca S B A n c ws b sb seen bad) : b < w.heap.size ∧ sb < w.heap.size := ⟨blk_lt h.blk, blk_lt h.marks⟩
end

theorem RWalker.mark {w : World} {T R H Re Ca S B : Int} {A : Option Addr} {n c : Nat} {ws : List Int} {b sb : Nat} {seen : List Bool} {bad : Bool} (h : RWalker w T R H Re Ca S B A n c ws b sb seen bad) (k : Nat)
    (hA : ∀ bw off, A = some ⟨bw, off, none⟩ → bw ≠ sb) : RWalker (w.setCell ⟨sb, k, none⟩ (.bool true)) T R H Re Ca S B A n c ws b sb (seen.set k true) bad := by
  refine ⟨?_, ?_, by rw [List.length_set]; exact h.len, ?_, h.wlen, h.ne⟩
  · rw [Below.heap_setCell _ _ _ _ (by exact h.ne)]; exact h.blk
  · rw [heap_setCell_same _ _ _ _ _ _ h.marks, List.map_set]
    simp
  · intro hne
    obtain ⟨bw, off, hA', hb, hc⟩ := h.words hne
    refine ⟨bw, off, hA', by simpa using hb, fun j u hu => ?_⟩
    rw [World.cell?_of_block (Below.heap_setCell _ _ _ _ (by exact hA _ _ hA'))]
    exact hc j u hu

theorem RWalker.only {w w' : World} {T R H Re Ca S B : Int} {A : Option Addr} {n c : Nat} {ws : List Int} {b sb : Nat} {seen : List Bool} {bad : Bool} {X : Nat → Prop} (h : RWalker w T R H Re Ca S B A n c ws b sb seen bad) (o : Only X w w')
    (h1 : ¬ X b) (h2 : ¬ X sb) (h3 : ∀ bw off, A = some ⟨bw, off, none⟩ → ¬ X bw) : RWalker w' T R H Re Ca S B A n c ws b sb seen bad := by
  refine ⟨(o.block b h.lt.1 h1).trans h.blk, (o.block sb h.lt.2 h2).trans h.marks, h.len, ?_, h.wlen, h.ne⟩
  intro hne
  obtain ⟨bw, off, hA', hb, hc⟩ := h.words hne
  refine ⟨bw, off, hA', Nat.lt_of_lt_of_le hb o.size, fun j u hu => ?_⟩
  rw [World.cell?_of_block (o.block bw hb (h3 _ _ hA'))]
  exact hc j u hu

/-- The walker's flag is set. -/
theorem RWalker.flag {w : World} {T R H Re Ca S B : Int} {A : Option Addr} {n c : Nat} {ws : List Int} {b sb : Nat} {seen : List Bool} {bad : Bool} (h : RWalker w T R H Re Ca S B A n c ws b sb seen bad) (q : Bool)
    (hA : ∀ bw off, A = some ⟨bw, off, none⟩ → bw ≠ b) : RWalker (w.setCell ⟨b, 9, none⟩ (.bool q)) T R H Re Ca S B A n c ws b sb seen q := by
  refine ⟨?_, ?_, h.len, ?_, h.wlen, h.ne⟩
  · rw [heap_setCell_same _ _ _ _ _ _ h.blk]
    rfl
  · rw [Below.heap_setCell _ _ _ _ (by exact fun e => h.ne e.symm)]; exact h.marks
  · intro hne
    obtain ⟨bw, off, hA', hb, hc⟩ := h.words hne
    refine ⟨bw, off, hA', by simpa using hb, fun j u hu => ?_⟩
    rw [World.cell?_of_block (Below.heap_setCell _ _ _ _ (by exact hA _ _ hA'))]
    exact hc j u hu
theorem rbucket_any (T R H Re Ca S B : Int) (hB : 1 ≤ B) (hB' : B ≤ 64) (k : Int) (w : World) :
    Calls Try.prog 108 #[(.agg #[.int .i64 T, .int .i64 R, .int .i64 H, .int .i64 Re, .int .i64 Ca, .int .i64 S, .int .i64 B]), .int .i64 k] w fun e w' => e = .returned (.int .i64 (bkt B k)) ∧ Ext w w' := by
  go_enter Try.func108, Try.ntmps108
  go_wp2_with fail
  obtain ⟨w0, hw0, hC, hE, hlt⟩ := enter1 w (.cells (cfgV T R H Re Ca S B) 23)
  rw [hw0]
  have HE := Lib.hid hE
  obtain ⟨c0, c1, c2, c3, c4, c5, c6⟩ := Lat.cfg hC
  obtain ⟨k1, hk1⟩ := lat_self w0
  rw [hk1]
  clear hw0 hC hE hk1
  go_wp2_with fail
  go_ret
  exact ⟨by rw [← bkt_walk hB hB' k]; rfl, Ext.next HE.out k1.ok⟩
theorem packLink_any (s : Int) (h0 : 0 ≤ s) (h1 : s < 1024) (w : World) :
    Calls Try.prog 107 #[.int .i64 s, .bool false] w fun e w' => e = .returned (.int .u64 (s + 1)) ∧ w' = w := by
  go_enter Try.func107, Try.ntmps107
  go_wp2_with fail
  go_ret
  exact ⟨rfl, rfl⟩

set_option maxRecDepth 100000 in
set_option maxHeartbeats 8000000 in
theorem rat_any (T R H Re Ca S B : Int) (hok : Okay T R H Re Ca S B) (A : Option Addr) (n c : Nat) (ws : List Int) (b sb : Nat) (seen : List Bool) (bad : Bool) (w : World) (hw : RWalker w T R H Re Ca S B A n c ws b sb seen bad)
    (m : Nat) (r i : Int) (hr : r = m + 1) (hm : m ≤ 12) (h0 : 0 ≤ i) (h1 : i < manyOf R H S B r) (j : Nat) (x : Int) (hj : sumOf R H S B m + i = j) (hx : ws[j]? = some x) :
    Calls Try.prog 106 #[.pointer (some ⟨b, 0, none⟩), .int .i64 r, .int .i64 i] w fun e w' => e = .returned (.int .u64 x) ∧ Ext w w' := by
  have hok' := hok
  unfold Okay at hok'
  obtain ⟨_, _, hR, hR', hH, hH', _, _, _, _, hS, hS', hB, hB'⟩ := hok'
  obtain ⟨c0, c1, c2, c3, c4, c5, c6, c7, c8, c9⟩ := hw.cells
  obtain ⟨bw, off, rfl, hbw, hcw⟩ := hw.words.lat (j := j) (u := .int .u64 x) (by simp [hx])
  have hjn : j < n := by rw [← hw.wlen]; exact (List.getElem?_eq_some_iff.1 hx).1
  have hba := fun w => base_any T R H Re Ca S B m w hR hR' hH hH' hS hS' hB hB' r hr (by omega)
  have hbd := sumOf_bd R H S B hR hR' hH hH' hS hS' hB hB' m
  have hbd1 := sumOf_bd R H S B hR hR' hH hH' hS hS' hB hB' (m + 1)
  rw [show sumOf R H S B (m + 1) = sumOf R H S B m + manyOf R H S B ((m : Int) + 1) from rfl, ← hr] at hbd1
  generalize sumOf R H S B m = X at *
  have hwr : IntKind.i64.wrap (X + i) = X + i := IntWalk.i64_in _ (by omega)
  have Hba := Lib.hid hba
  have hz0 : 0 ≤ X + i := by omega
  have hz1 : X + i < n := by omega
  have hzj : (X + i).toNat = j := by omega
  have hlt := Lat.lt (w0 := w) hw.lt.1
  rw [← hzj] at hcw
  clear hw hok hx hba hzj hjn hj
  refine start_lat fun k0 => ?_
  go_enter Try.func106, Try.ntmps106
  go_wp2_with fail
  clear hr hbd1
  go_upto_region 1 with fail
  have hr0 : k0.world.drew.cell? ⟨b, 7, none⟩ = some (.slice (some ⟨bw, off, none⟩) n c) := c7 ⟨_, Ext.drew1 k0.ok⟩
  have q0 : k0.world.drew.cell? ⟨b, 0, none⟩ = some (.int .i64 T) := c0 ⟨_, Ext.drew1 k0.ok⟩
  have q1 : k0.world.drew.cell? ⟨b, 1, none⟩ = some (.int .i64 R) := c1 ⟨_, Ext.drew1 k0.ok⟩
  have q2 : k0.world.drew.cell? ⟨b, 2, none⟩ = some (.int .i64 H) := c2 ⟨_, Ext.drew1 k0.ok⟩
  have q3 : k0.world.drew.cell? ⟨b, 3, none⟩ = some (.int .i64 Re) := c3 ⟨_, Ext.drew1 k0.ok⟩
  have q4 : k0.world.drew.cell? ⟨b, 4, none⟩ = some (.int .i64 Ca) := c4 ⟨_, Ext.drew1 k0.ok⟩
  have q5 : k0.world.drew.cell? ⟨b, 5, none⟩ = some (.int .i64 S) := c5 ⟨_, Ext.drew1 k0.ok⟩
  have q6 : k0.world.drew.cell? ⟨b, 6, none⟩ = some (.int .i64 B) := c6 ⟨_, Ext.drew1 k0.ok⟩
  refine wp_region_noPanic (wp_region_held_drew (S := fun w' : World => w'.cell? ⟨b, 7, none⟩ = some (.slice (some ⟨bw, off, none⟩) n c)) (by kernel_rfl) hr0 (fun hHeld => ?_))
  refine wpAnyH_take (i := 0) (v := ?_) rfl (by kernel_rfl) (by kernel_rfl) (by kernel_rfl) (fun _ _ _ h => h) (Or.inl ⟨by rfl, ?hy1⟩) (by assumption) ?rest1
  case hy1 => (intro w hSw; (try dsimp only at hSw); go_simp; try with_reducible rfl)
  refine wpAnyH_take (i := 1) (v := ?_) rfl (by kernel_rfl) (by kernel_rfl) (by kernel_rfl) (fun _ _ _ h => h) (Or.inl ⟨by rfl, ?hy2⟩) (by assumption) ?rest2
  case hy2 => (intro w hSw; (try dsimp only at hSw); go_simp; try with_reducible rfl)
  refine wpAnyH_take (i := 2) (v := ?_) rfl (by kernel_rfl) (by kernel_rfl) (by kernel_rfl) (fun _ _ _ h => h) (Or.inl ⟨by rfl, ?hy3⟩) (by assumption) ?rest3
  case hy3 => (intro w hSw; (try dsimp only at hSw); go_simp; try with_reducible rfl)
  refine wpAnyH_take (i := 4) (v := ?_) rfl (by kernel_rfl) (by kernel_rfl) (by kernel_rfl) (fun _ _ _ h => h) (Or.inl ⟨by rfl, ?hy4⟩) (by assumption) ?rest4
  case hy4 => (intro w hSw; (try dsimp only at hSw); go_simp; try with_reducible rfl)
  refine wpAnyH_take (i := 5) (v := ?_) rfl (by kernel_rfl) (by kernel_rfl) (by kernel_rfl) (fun _ _ _ h => h) (Or.inl ⟨by rfl, ?hy5⟩) (by assumption) ?rest5
  case hy5 => (intro w hSw; (try dsimp only at hSw); go_simp; try with_reducible rfl)
  refine wpAnyH_take (i := 6) (v := ?_) rfl (by kernel_rfl) (by kernel_rfl) (by kernel_rfl) (fun _ _ _ h => h) (Or.inl ⟨by rfl, ?hy6⟩) (by assumption) ?rest6
  case hy6 => (intro w hSw; (try dsimp only at hSw); go_simp; try with_reducible rfl)
  refine wpAnyH_take (i := 8) (v := ?_) rfl (by kernel_rfl) (by kernel_rfl) (by kernel_rfl) (fun _ _ _ h => h) (Or.inl ⟨by rfl, ?hy7⟩) (by assumption) ?rest7
  case hy7 => (intro w hSw; (try dsimp only at hSw); go_simp; try with_reducible rfl)
  refine wpAnyH_take (i := 10) (v := ?_) rfl (by kernel_rfl) (by kernel_rfl) (by kernel_rfl) (fun _ _ _ h => h) (Or.inl ⟨by rfl, ?hy8⟩) (by assumption) ?rest8
  case hy8 => (intro w hSw; (try dsimp only at hSw); go_simp; try with_reducible rfl)
  refine wpAnyH_ready (rs := [3, 7]) (by kernel_rfl) (by simp) ?_
  refine AllReadyH.cons rfl (fun K hK => ?_) ?_
  · go_simp
    refine hK.out _ _ hr0 (fun hHeld => ?_)
    clear hK K
    refine wpAnyH_ready (rs := [7]) (by kernel_rfl) (by simp) ?_
    refine AllReadyH.cons rfl (fun K hK => ?_) ?_
    · go_simp
      refine hK.out _ _ hr0 (fun hHeld => ?_)
      clear hK K
      refine wpAnyH_ready (rs := [9]) (by kernel_rfl) (by simp) ?_
      refine AllReadyH.cons rfl (fun K hK => ?_) ?_
      · go_simp
        (with_reducible refine (Hba.out _).mono ?_)
        rintro e w5 ⟨rfl, e5⟩
        have E5 := Lib.hid (Ext.next (Ext.drew1 k0.ok) e5)
        have h57 : w5.cell? ⟨b, 7, none⟩ = some (.slice (some ⟨bw, off, none⟩) n c) := c7 ⟨w5, E5.out⟩
        have h5x : w5.cell? ⟨bw, off + (X + i).toNat, none⟩ = some (.int .u64 x) := hcw ⟨w5, E5.out⟩
        refine hK.out _ _ h57 (fun hHeld => ?_)
        clear hK K
        refine wpAnyH_take (i := 11) (v := ?_) rfl (by kernel_rfl) (by kernel_rfl) (by kernel_rfl) (fun _ _ _ h => h) (Or.inl ⟨by rfl, ?hy9⟩) (by assumption) ?rest9
        case hy9 => (intro w hSw; (try dsimp only at hSw); go_simp; try with_reducible rfl)
        refine wpAnyH_take (i := 12) (v := ?_) rfl (by kernel_rfl) (by kernel_rfl) (by kernel_rfl) (fun _ _ _ h => h) (Or.inl ⟨by rfl, ?hy10⟩) (by assumption) ?rest10
        case hy10 => (intro w hSw; (try dsimp only at hSw); go_simp; try with_reducible rfl)
        refine wpAnyH_ready (rs := [13]) (by kernel_rfl) (by simp) ?_
        refine AllReadyH.cons rfl (fun K hK => ?_) ?_
        · go_simp
          refine hK.out _ _ h57 (fun hHeld => ?_)
          clear hK K
          refine wpAnyH_take (i := 14) (v := ?_) rfl (by kernel_rfl) (by kernel_rfl) (by kernel_rfl) (fun _ _ _ h => h) (Or.inl ⟨by rfl, ?hy11⟩) (by assumption) ?rest11
          case hy11 => (intro w hSw; (try dsimp only at hSw); go_simp; try with_reducible rfl)
          refine wpAnyH_done (by kernel_rfl) (NoPanic.normal ?_) _
          dsimp only [Exit.inBlock, Exit.then]
          go_wp2_with fail
          go_ret
          exact ⟨rfl, E5.out⟩
        · exact AllReadyH.nil
      · exact AllReadyH.nil
    · exact AllReadyH.nil
  refine AllReadyH.cons rfl (fun K hK => ?_) ?_
  · go_simp
    refine hK.out _ _ hr0 (fun hHeld => ?_)
    clear hK K
    refine wpAnyH_ready (rs := [3, 9]) (by kernel_rfl) (by simp) ?_
    refine AllReadyH.cons rfl (fun K hK => ?_) ?_
    · go_simp
      refine hK.out _ _ hr0 (fun hHeld => ?_)
      clear hK K
      refine wpAnyH_ready (rs := [9]) (by kernel_rfl) (by simp) ?_
      refine AllReadyH.cons rfl (fun K hK => ?_) ?_
      · go_simp
        (with_reducible refine (Hba.out _).mono ?_)
        rintro e w5 ⟨rfl, e5⟩
        have E5 := Lib.hid (Ext.next (Ext.drew1 k0.ok) e5)
        have h57 : w5.cell? ⟨b, 7, none⟩ = some (.slice (some ⟨bw, off, none⟩) n c) := c7 ⟨w5, E5.out⟩
        have h5x : w5.cell? ⟨bw, off + (X + i).toNat, none⟩ = some (.int .u64 x) := hcw ⟨w5, E5.out⟩
        refine hK.out _ _ h57 (fun hHeld => ?_)
        clear hK K
        refine wpAnyH_take (i := 11) (v := ?_) rfl (by kernel_rfl) (by kernel_rfl) (by kernel_rfl) (fun _ _ _ h => h) (Or.inl ⟨by rfl, ?hy12⟩) (by assumption) ?rest12
        case hy12 => (intro w hSw; (try dsimp only at hSw); go_simp; try with_reducible rfl)
        refine wpAnyH_take (i := 12) (v := ?_) rfl (by kernel_rfl) (by kernel_rfl) (by kernel_rfl) (fun _ _ _ h => h) (Or.inl ⟨by rfl, ?hy13⟩) (by assumption) ?rest13
        case hy13 => (intro w hSw; (try dsimp only at hSw); go_simp; try with_reducible rfl)
        refine wpAnyH_ready (rs := [13]) (by kernel_rfl) (by simp) ?_
        refine AllReadyH.cons rfl (fun K hK => ?_) ?_
        · go_simp
          refine hK.out _ _ h57 (fun hHeld => ?_)
          clear hK K
          refine wpAnyH_take (i := 14) (v := ?_) rfl (by kernel_rfl) (by kernel_rfl) (by kernel_rfl) (fun _ _ _ h => h) (Or.inl ⟨by rfl, ?hy14⟩) (by assumption) ?rest14
          case hy14 => (intro w hSw; (try dsimp only at hSw); go_simp; try with_reducible rfl)
          refine wpAnyH_done (by kernel_rfl) (NoPanic.normal ?_) _
          dsimp only [Exit.inBlock, Exit.then]
          go_wp2_with fail
          go_ret
          exact ⟨rfl, E5.out⟩
        · exact AllReadyH.nil
      · exact AllReadyH.nil
    refine AllReadyH.cons rfl (fun K hK => ?_) ?_
    · go_simp
      (with_reducible refine (Hba.out _).mono ?_)
      rintro e w5 ⟨rfl, e5⟩
      have E5 := Lib.hid (Ext.next (Ext.drew1 k0.ok) e5)
      have h57 : w5.cell? ⟨b, 7, none⟩ = some (.slice (some ⟨bw, off, none⟩) n c) := c7 ⟨w5, E5.out⟩
      have h5x : w5.cell? ⟨bw, off + (X + i).toNat, none⟩ = some (.int .u64 x) := hcw ⟨w5, E5.out⟩
      refine hK.out _ _ h57 (fun hHeld => ?_)
      clear hK K
      refine wpAnyH_take (i := 11) (v := ?_) rfl (by kernel_rfl) (by kernel_rfl) (by kernel_rfl) (fun _ _ _ h => h) (Or.inl ⟨by rfl, ?hy15⟩) (by assumption) ?rest15
      case hy15 => (intro w hSw; (try dsimp only at hSw); go_simp; try with_reducible rfl)
      refine wpAnyH_ready (rs := [3]) (by kernel_rfl) (by simp) ?_
      refine AllReadyH.cons rfl (fun K hK => ?_) ?_
      · go_simp
        refine hK.out _ _ h57 (fun hHeld => ?_)
        clear hK K
        refine wpAnyH_take (i := 12) (v := ?_) rfl (by kernel_rfl) (by kernel_rfl) (by kernel_rfl) (fun _ _ _ h => h) (Or.inl ⟨by rfl, ?hy16⟩) (by assumption) ?rest16
        case hy16 => (intro w hSw; (try dsimp only at hSw); go_simp; try with_reducible rfl)
        refine wpAnyH_ready (rs := [13]) (by kernel_rfl) (by simp) ?_
        refine AllReadyH.cons rfl (fun K hK => ?_) ?_
        · go_simp
          refine hK.out _ _ h57 (fun hHeld => ?_)
          clear hK K
          refine wpAnyH_take (i := 14) (v := ?_) rfl (by kernel_rfl) (by kernel_rfl) (by kernel_rfl) (fun _ _ _ h => h) (Or.inl ⟨by rfl, ?hy17⟩) (by assumption) ?rest17
          case hy17 => (intro w hSw; (try dsimp only at hSw); go_simp; try with_reducible rfl)
          refine wpAnyH_done (by kernel_rfl) (NoPanic.normal ?_) _
          dsimp only [Exit.inBlock, Exit.then]
          go_wp2_with fail
          go_ret
          exact ⟨rfl, E5.out⟩
        · exact AllReadyH.nil
      · exact AllReadyH.nil
    · exact AllReadyH.nil
  · exact AllReadyH.nil
end Go.Proofs.Ytfbacopjookplaa
