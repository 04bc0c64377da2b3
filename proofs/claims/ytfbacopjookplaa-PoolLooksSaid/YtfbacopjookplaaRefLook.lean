/- The walk of the document's Look: of any configuration and words it answers what pool.Look answers. -/
import Derived.Test.YtfbacopjookplaaRefTable
import Derived.Test.YtfbacopjookplaaLookAny
import Derived.Test.YtfbacopjookplaaRefFree
import Derived.Test.YtfbacopjookplaaOwn
namespace Go.Proofs.Ytfbacopjookplaa
open Go.RowKit

theorem ob_own {w : World} {base b : Nat} {t : TypeId} {cs : List Value} (hb : base ≤ b) (h : w.heap[b]? = some (.cells cs.toArray t (0, 0))) : (ob b t cs).own w base :=
  ⟨by simp, .inr ⟨b, 1, cs.toArray, rfl, hb, h, Nat.le_refl _, by unfold maxLen; omega, by simp, by simp⟩⟩
def nil5 : List Value := [.slice none 0 0, .slice none 0 0, .slice none 0 0, .slice none 0 0, .slice none 0 0]
def cfgL (T R H Re Ca S B : Int) : List Value := [.int .i64 T, .int .i64 R, .int .i64 H, .int .i64 Re, .int .i64 Ca, .int .i64 S, .int .i64 B]
def wkL (T R H Re Ca S B : Int) (A : Option Addr) (n c sb : Nat) (bad : Bool) : List Value := [.int .i64 T, .int .i64 R, .int .i64 H, .int .i64 Re, .int .i64 Ca, .int .i64 S, .int .i64 B, .slice A n c, .slice (some ⟨sb, 0, none⟩) S.toNat S.toNat, .bool bad]

/-- What the document's Look keeps. -/
structure HL (w W : World) (T R H Re Ca S B : Int) (A : Option Addr) (n c : Nat) (ws : List Int) (b sb xb : Nat) (seen : List Bool) (bad : Bool) (x : List Value) (G : List En) : Prop where
  has : Has w W (ob b 115 (wkL T R H Re Ca S B A n c sb bad) :: ob sb 4 (seen.map Value.bool) :: ob xb 38 x :: ob w.heap.size 23 (cfgL T R H Re Ca S B) :: ob (w.heap.size + 1) 38 nil5 :: G)
  len : seen.length = S.toNat
  words : Rd w A (ws.map (Value.int .u64))
  wlen : ws.length = n
section
variable {w W W' : World} {T R H Re Ca S B : Int} {A : Option Addr} {n c : Nat} {ws : List Int} {b sb xb : Nat} {seen seen' : List Bool} {bad bad' : Bool} {x : List Value} {G : List En}
theorem HL.wal (h : HL w W T R H Re Ca S B A n c ws b sb xb seen bad x G) : RWalker W T R H Re Ca S B A n c ws b sb seen bad :=
  ⟨h.has.blk (cs := wkL T R H Re Ca S B A n c sb bad) me0, h.has.blk me1, h.len, h.words.ext h.has.ext, h.wlen, h.has.ne (y := ob sb 4 (seen.map Value.bool)) me0 rfl⟩
theorem HL.cfg (h : HL w W T R H Re Ca S B A n c ws b sb xb seen bad x G) :
    (∀ c : Lat W, c.world.cell? ⟨w.heap.size, 0, none⟩ = some (.int .i64 T)) ∧ (∀ c : Lat W, c.world.cell? ⟨w.heap.size, 1, none⟩ = some (.int .i64 R)) ∧ (∀ c : Lat W, c.world.cell? ⟨w.heap.size, 2, none⟩ = some (.int .i64 H)) ∧
    (∀ c : Lat W, c.world.cell? ⟨w.heap.size, 3, none⟩ = some (.int .i64 Re)) ∧ (∀ c : Lat W, c.world.cell? ⟨w.heap.size, 4, none⟩ = some (.int .i64 Ca)) ∧ (∀ c : Lat W, c.world.cell? ⟨w.heap.size, 5, none⟩ = some (.int .i64 S)) ∧ (∀ c : Lat W, c.world.cell? ⟨w.heap.size, 6, none⟩ = some (.int .i64 B)) :=
  Lat.cfg (h.has.blk (b := w.heap.size) (t := 23) (cs := cfgL T R H Re Ca S B) me3)
theorem HL.ext (h : HL w W T R H Re Ca S B A n c ws b sb xb seen bad x G) (e : Ext W W') : HL w W' T R H Re Ca S B A n c ws b sb xb seen bad x G := ⟨h.has.next e, h.len, h.words, h.wlen⟩
/-- A call that goes along the chains has made a row. -/
theorem HL.call (h : HL w W T R H Re Ca S B A n c ws b sb xb seen bad x G) (o : Only (fun q => q = sb ∨ q = b) W W') (hw : RWalker W' T R H Re Ca S B A n c ws b sb seen' bad') {e : TypeId} {k m : Nat} {v : Value} {us : List Value} (ho : W'.ownsRow W.heap.size e k v m us) :
    HL w W' T R H Re Ca S B A n c ws b sb xb seen' bad' x (.row v e k m us :: G) := by
  have hb := h.has.ltb (x := ob b 115 (wkL T R H Re Ca S B A n c sb bad)) me0 b rfl
  have hs := h.has.ltb (x := ob sb 4 (seen.map Value.bool)) me1 sb rfl
  have h2 := h.has.only2 (x' := ob b 115 (wkL T R H Re Ca S B A n c sb bad')) (y' := ob sb 4 (seen'.map Value.bool)) (o.mono fun q _ hq => by
    rcases hq with rfl | rfl
    · exact .inr rfl
    · exact .inl rfl) (ob_own hb.1 hw.blk) (ob_own hs.1 hw.marks) rfl rfl
  have h3 := h.has.add h2 rfl ho (Nat.le_refl _)
  refine ⟨h3.perm ?_, hw.len, h.words, h.wlen⟩
  exact List.perm_middle (l₁ := [_, _, _, _, _]) |>.symm
theorem HL.val (h : HL w W T R H Re Ca S B A n c ws b sb xb seen bad x G) (o : Ext W W') {e : TypeId} {k m : Nat} {v : Value} {us : List Value} (ho : W'.ownsRow W.heap.size e k v m us) : HL w W' T R H Re Ca S B A n c ws b sb xb seen bad x (.row v e k m us :: G) :=
  h.call (Only.of_ext o) (h.wal.ext o) ho
theorem HL.put (h : HL w W T R H Re Ca S B A n c ws b sb xb seen bad x G) (i : Nat) (u : Value) : HL w (W.setCell ⟨xb, i, none⟩ u) T R H Re Ca S B A n c ws b sb xb seen bad (x.set i u) G := by
  have h1 := (h.has.rot3).put i u
  refine ⟨h1.perm ?_, h.len, h.words, h.wlen⟩
  exact List.perm_middle (l₁ := [_, _]) |>.symm
theorem HL.mark (h : HL w W T R H Re Ca S B A n c ws b sb xb seen bad x G) (i : Nat) : HL w (W.setCell ⟨sb, i, none⟩ (.bool true)) T R H Re Ca S B A n c ws b sb xb (seen.set i true) bad x G := by
  have h1 := (h.has.swap).put i (.bool true)
  refine ⟨?_, by rw [List.length_set]; exact h.len, h.words, h.wlen⟩
  rw [List.map_set]
  exact h1.swap
end
/-- The six rows of contents that have none. -/
theorem regs_all {T R H Re Ca S B : Int} (hok : Okay T R H Re Ca S B) {ws : List Int} {n : Nat} (hl : ws.length = n) (hn : (n : Int) = sumOf R H S B 13) (hws : ∀ x ∈ ws, 0 ≤ x ∧ x ≤ 18446744073709551615) (r : Nat) (hr : r = 1 ∨ r = 2 ∨ r = 5) :
    ∃ i : Nat, sumOf R H S B r = i ∧ i < n ∧ ws[i]? = some (regOf R H S B ws r 0) ∧ 0 ≤ regOf R H S B ws r 0 ∧ regOf R H S B ws r 0 ≤ 18446744073709551615 := by
  unfold Okay at hok
  obtain ⟨_, _, hR, hR', hH, hH', _, _, _, _, hS, hS', hB, hB'⟩ := hok
  obtain ⟨i, hi, hx, ha, hb⟩ := reg_at hR hR' hH hH' hS hS' hB hB' hl hn hws r (by omega) 0 (Int.le_refl _) (by rcases hr with rfl | rfl | rfl <;> simp [manyOf])
  exact ⟨i, by omega, by rw [← hl]; exact (List.getElem?_eq_some_iff.1 hx).1, hx, ha, hb⟩

set_option maxRecDepth 100000 in
set_option maxHeartbeats 16000000 in
theorem rlook_ok (T R H Re Ca S B : Int) (hok : Okay T R H Re Ca S B) (A : Option Addr) (n c : Nat) (ws : List Int) (w : World) (hr : Rd w A (ws.map (Value.int .u64))) (hl : ws.length = n) (hn : (n : Int) = sumOf R H S B 13) (hws : ∀ x ∈ ws, 0 ≤ x ∧ x ≤ 18446744073709551615) :
    Calls Try.prog 18 #[(.agg #[.int .i64 T, .int .i64 R, .int .i64 H, .int .i64 Re, .int .i64 Ca, .int .i64 S, .int .i64 B]), .slice A n c] w (ContOut w (lookSpec R H S B ws)) := by
  have hok' := hok
  unfold Okay at hok'
  obtain ⟨_, _, hR, hR', hH, hH', _, _, _, _, hS, hS', hB, hB'⟩ := hok'
  obtain ⟨i1, hi1, hn1, hx1, ha1, hb1⟩ := regs_all hok hl hn hws 1 (.inl rfl)
  obtain ⟨i2, hi2, hn2, hx2, ha2, hb2⟩ := regs_all hok hl hn hws 2 (.inr (.inl rfl))
  obtain ⟨i5, hi5, hn5, hx5, ha5, hb5⟩ := regs_all hok hl hn hws 5 (.inr (.inr rfl))
  have hq0 : Hid (∀ w : World, Calls Try.prog 50 #[(.agg #[.int .i64 T, .int .i64 R, .int .i64 H, .int .i64 Re, .int .i64 Ca, .int .i64 S, .int .i64 B]), .slice A n c] w fun e w' => e = .returned (.int .i64 0) ∧ Ext w w') := fun w => by
    have h := refused_any T R H Re Ca S B A n c w
    rwa [if_neg (by simpa using hok), if_neg (by simpa using hn)] at h
  have Hb1 : Hid (∀ w : World, Calls Try.prog 60 #[(.agg #[.int .i64 T, .int .i64 R, .int .i64 H, .int .i64 Re, .int .i64 Ca, .int .i64 S, .int .i64 B]), .int .i64 2] w fun e w' => e = .returned (.int .i64 (i1 : Int)) ∧ Ext w w') := fun w => by
    have h := base_any T R H Re Ca S B 1 w hR hR' hH hH' hS hS' hB hB' 2 rfl (by omega)
    rwa [hi1] at h
  have Hb2 : Hid (∀ w : World, Calls Try.prog 60 #[(.agg #[.int .i64 T, .int .i64 R, .int .i64 H, .int .i64 Re, .int .i64 Ca, .int .i64 S, .int .i64 B]), .int .i64 3] w fun e w' => e = .returned (.int .i64 (i2 : Int)) ∧ Ext w w') := fun w => by
    have h := base_any T R H Re Ca S B 2 w hR hR' hH hH' hS hS' hB hB' 3 rfl (by omega)
    rwa [hi2] at h
  have Hb5 : Hid (∀ w : World, Calls Try.prog 60 #[(.agg #[.int .i64 T, .int .i64 R, .int .i64 H, .int .i64 Re, .int .i64 Ca, .int .i64 S, .int .i64 B]), .int .i64 6] w fun e w' => e = .returned (.int .i64 (i5 : Int)) ∧ Ext w w') := fun w => by
    have h := base_any T R H Re Ca S B 5 w hR hR' hH hH' hS hS' hB hB' 6 rfl (by omega)
    rwa [hi5] at h
  obtain ⟨bw, off, rfl, hbw, hc1⟩ := hr.lat (j := i1) (u := .int .u64 (regOf R H S B ws 1 0)) (by simp [hx1])
  have Hc1 : Hid (∀ W : World, Ext w W → W.cell? ⟨bw, off + i1, none⟩ = some (.int .u64 (regOf R H S B ws 1 0))) := fun W e => hc1 ⟨W, e⟩
  have Hc2 : Hid (∀ W : World, Ext w W → W.cell? ⟨bw, off + i2, none⟩ = some (.int .u64 (regOf R H S B ws 2 0))) := fun W e => by
    obtain ⟨b', o', hA', _, hc⟩ := hr.lat (j := i2) (u := .int .u64 (regOf R H S B ws 2 0)) (by simp [hx2])
    injection hA' with hA'
    injection hA' with e1 e2
    subst e1 e2
    exact hc ⟨W, e⟩
  have Hc5 : Hid (∀ W : World, Ext w W → W.cell? ⟨bw, off + i5, none⟩ = some (.int .u64 (regOf R H S B ws 5 0))) := fun W e => by
    obtain ⟨b', o', hA', _, hc⟩ := hr.lat (j := i5) (u := .int .u64 (regOf R H S B ws 5 0)) (by simp [hx5])
    injection hA' with hA'
    injection hA' with e1 e2
    subst e1 e2
    exact hc ⟨W, e⟩
  have Hch := Lib.hid (fun W b sb seen bad hA hw => rchain_any T R H Re Ca S B hok (some ⟨bw, off, none⟩) n c ws hn hws b sb seen bad (regOf R H S B ws 2 0) ha2 hb2 false W hA hw)
  have Hqu := Lib.hid (fun W b sb seen bad hA hw => rqueue_any T R H Re Ca S B hok (some ⟨bw, off, none⟩) n c ws hn hws b sb seen bad W hA hw _ _ rfl rfl)
  have Hke := Lib.hid (fun W b sb seen bad hA hw => rkeys_any T R H Re Ca S B hok (some ⟨bw, off, none⟩) n c ws hn hws b sb seen bad (regOf R H S B ws 5 0) ha5 hb5 (-1) W hA hw)
  have Hta := Lib.hid (fun W b sb seen bad hA hw => rtable_any T R H Re Ca S B hok (some ⟨bw, off, none⟩) n c ws hn hws b sb seen bad W hA hw)
  have Hvl := Lib.hid (fun W b sb seen bad hw A' m c' ls h1 h2 h3 h4 => rvalues_any T R H Re Ca S B hok (some ⟨bw, off, none⟩) n c ws hn hws b sb seen bad W hw A' m c' ls h1 h2 h3 h4)
  unfold lookSpec
  generalize (fun s => wrap64 (regOf R H S B ws 10 s)) = val at *
  generalize (fun s => wrap64 (regOf R H S B ws 11 s)) = data at *
  generalize regOf R H S B ws 12 = lkw at *
  generalize regOf R H S B ws 6 = bwd at *
  generalize regOf R H S B ws 1 0 = x1 at *
  generalize regOf R H S B ws 2 0 = x2 at *
  generalize regOf R H S B ws 3 0 = x3 at *
  generalize regOf R H S B ws 4 0 = x4 at *
  generalize regOf R H S B ws 5 0 = x5 at *
  obtain ⟨sp, hsp⟩ : ∃ sp, lookS S B val data lkw bwd x1 x2 x3 x4 x5 = sp := ⟨_, rfl⟩
  rw [hsp]
  have Hsp := Lib.hid hsp
  have Hr := Lib.hid hr
  have Hl := Lib.hid hl
  have Hbw := Lib.hid hbw
  have HS := Lib.hid (⟨hS, hS'⟩ : 1 ≤ S ∧ S ≤ 1024)
  have Hx1 := Lib.hid (⟨ha1, hb1⟩ : 0 ≤ x1 ∧ x1 ≤ 18446744073709551615)
  have hmk := fun W => run_make1 zeroBool rfl Try.underlying107 S (by omega) (by omega) (by omega) W
  have hz1 : (i1 : Int) < (n : Int) := by omega
  have hz2 : (i2 : Int) < (n : Int) := by omega
  have hz5 : (i5 : Int) < (n : Int) := by omega
  have hy1 : (0 : Int) ≤ (i1 : Int) := by omega
  have hy2 : (0 : Int) ≤ (i2 : Int) := by omega
  have hy5 : (0 : Int) ≤ (i5 : Int) := by omega
  clear hok hn hws hx1 hx2 hx5 hi1 hi2 hi5 hc1 hsp hr hl hbw ha1 hb1 ha2 hb2 ha5 hb5 hR hR' hH hH' hB hB' hn1 hn2 hn5
  go_enter Try.func18, Try.ntmps18
  go_upto_region 1 with fail
  have hs0 : Has w w [] := Has.start w
  have hs1 := (hs0.alloc (cfgV T R H Re Ca S B) 23).alloc #[.slice none 0 0, .slice none 0 0, .slice none 0 0, .slice none 0 0, .slice none 0 0] 38
  have hsz : (w.alloc (.cells (cfgV T R H Re Ca S B) 23)).heap.size = w.heap.size + 1 := by simp
  rw [hsz] at hs1
  obtain ⟨wa, ha⟩ : ∃ wa, (w.alloc (.cells (cfgV T R H Re Ca S B) 23)).alloc (.cells #[.slice none 0 0, .slice none 0 0, .slice none 0 0, .slice none 0 0, .slice none 0 0] 38) = wa := ⟨_, rfl⟩
  rw [ha] at hs1 ⊢
  have Ha := Lib.hid hs1
  obtain ⟨d0, d1, d2, d3, d4, d5, d6⟩ := Lat.cfg (Ha.out.blk (b := w.heap.size) (t := 23) (cs := cfgL T R H Re Ca S B) me1)
  have n0 := Ha.out.lt (b := w.heap.size) (x := ob w.heap.size 23 (cfgL T R H Re Ca S B)) me1 rfl
  obtain ⟨ka, hka⟩ := lat_self wa
  rw [hka]
  clear ha hs0 hs1 hsz hka
  go_wp2_with fail
  refine (hq0.out _).mono ?_
  rintro e w1 ⟨rfl, e1⟩
  obtain ⟨k1, rfl⟩ := lat_next ka e1
  clear e1
  go_upto_region 4 with fail
  go_region
  go_upto_region 6 with fail
  have h2 := ((((Ha.out.next k1.ok).alloc (repl S.toNat (.bool false)) 4).alloc (wkL T R H Re Ca S B (some ⟨bw, off, none⟩) n c k1.world.heap.size false).toArray 115).alloc #[.slice none 0 0, .slice none 0 0, .slice none 0 0, .slice none 0 0, .slice none 0 0] 38).drew
  have z1 : (k1.world.alloc (.cells (repl S.toNat (.bool false)) 4)).heap.size = k1.world.heap.size + 1 := by simp
  have z2 : ((k1.world.alloc (.cells (repl S.toNat (.bool false)) 4)).alloc (.cells (wkL T R H Re Ca S B (some ⟨bw, off, none⟩) n c k1.world.heap.size false).toArray 115)).heap.size = k1.world.heap.size + 1 + 1 := by simp
  rw [z2, z1] at h2
  obtain ⟨sb, hsb⟩ : ∃ sb, k1.world.heap.size = sb := ⟨_, rfl⟩
  rw [hsb] at h2
  simp only [hsb]
  obtain ⟨W0, hW0⟩ : ∃ W0, (((k1.world.alloc (.cells (repl S.toNat (.bool false)) 4)).alloc (.cells (wkL T R H Re Ca S B (some ⟨bw, off, none⟩) n c sb false).toArray 115)).alloc (.cells #[.slice none 0 0, .slice none 0 0, .slice none 0 0, .slice none 0 0, .slice none 0 0] 38)).drew = W0 := ⟨_, rfl⟩
  rw [hW0] at h2
  have hW0' := hW0
  unfold wkL at hW0'
  rw [hW0']
  have HL0 : Hid (HL w W0 T R H Re Ca S B (some ⟨bw, off, none⟩) n c ws (sb + 1) sb (sb + 1 + 1) (List.replicate S.toNat false) false nil5 []) := by
    refine ⟨Has.perm (H := [ob (sb + 1 + 1) 38 nil5, ob (sb + 1) 115 (wkL T R H Re Ca S B (some ⟨bw, off, none⟩) n c sb false), ob sb 4 ((List.replicate S.toNat false).map Value.bool), ob (w.heap.size + 1) 38 nil5, ob w.heap.size 23 (cfgL T R H Re Ca S B)]) ?_ ?_, by simp, Hr.out, Hl.out⟩
    · have e : (repl S.toNat (Value.bool false)).toList = (List.replicate S.toNat false).map Value.bool := by simp [repl]
      rw [e] at h2
      exact h2
    · exact (List.perm_middle (l₁ := [_, _])).symm.trans ((((List.Perm.swap _ _ _).cons _).cons _).cons _)
  clear h2 z1 z2 hsb hW0 hW0' d0 d1 d2 d3 d4 d5 d6 n0 hmk k1 ka
  generalize sb + 1 = b at *
  generalize b + 1 = xb at *
  obtain ⟨d0, d1, d2, d3, d4, d5, d6⟩ := HL0.out.cfg
  have q1 : ∀ z : Lat W0, z.world.cell? ⟨bw, off + i1, none⟩ = some (.int .u64 x1) := fun z => Hc1.out _ (Ext.next HL0.out.has.ext z.ok)
  obtain ⟨k0, hk0⟩ := lat_self W0
  rw [hk0]
  clear hk0
  go_wp2_with fail
  refine (Hb1.out _).mono ?_
  rintro e w1 ⟨rfl, e1⟩
  obtain ⟨k1, rfl⟩ := lat_next k0 e1
  clear e1
  go_upto_region 7 with fail
  have HA : Hid (∀ W : World, Ext w W → ∀ bw' off', (some (⟨bw, off, none⟩ : Addr)) = some ⟨bw', off', none⟩ → w.heap.size ≤ sb → w.heap.size ≤ b → bw' ≠ sb ∧ bw' ≠ b ∧ bw' < W.heap.size) := fun W e bw' off' h h1 h2 => by
    injection h with h
    injection h with h _
    subst h
    have := Hbw.out
    have := e.size
    refine ⟨by omega, by omega, by omega⟩
  have hsb1 := (HL0.out.has.ltb (x := ob sb 4 ((List.replicate S.toNat false).map Value.bool)) me1 sb rfl).1
  have hbb1 := (HL0.out.has.ltb (x := ob b 115 (wkL T R H Re Ca S B (some ⟨bw, off, none⟩) n c sb false)) me0 b rfl).1
  have HA' : Hid (∀ W : World, Ext w W → ∀ bw' off', (some (⟨bw, off, none⟩ : Addr)) = some ⟨bw', off', none⟩ → bw' ≠ sb ∧ bw' ≠ b ∧ bw' < W.heap.size) := fun W e bw' off' h => HA.out W e bw' off' h hsb1 hbb1
  clear HA hsb1 hbb1
  by_cases hg : x1 ≤ 2147483647 ∧ x1 - 1 < S
  · obtain ⟨hg1, hg2⟩ := hg
    have h2 := (plain_dec x1 Hx1.out.1).2 hg1
    have hlm := isLink_any x1
    have hmm := linkMark_any x1
    have hxx := linkIndex_any x1
    rw [h2.1] at hlm
    rw [h2.2] at hmm
    rw [show x1 % 4294967296 - 1 = x1 - 1 by have := Hx1.out.1; omega] at hxx
    have HI := Lib.hid (fun w => hlm w Hx1.out.1 Hx1.out.2)
    have HM := Lib.hid (fun w => hmm w Hx1.out.1 Hx1.out.2)
    have HX := Lib.hid (fun w => hxx w Hx1.out.1 Hx1.out.2)
    have hds : decide (S ≤ x1 - 1) = false := by simp; omega
    have Hpl : Hid (plainF S (List.replicate S.toNat false) x1 = newF S (List.replicate S.toNat false) (x1 - 1)) := if_pos hg1
    obtain ⟨s1, hs1⟩ : ∃ s1, x1 - 1 = s1 := ⟨_, rfl⟩
    rw [hs1] at HX hds hg2 Hpl
    clear h2 hlm hmm hxx hg1 hs1
    refine wp_region_cls (Ext W0) (Ext.drew1 k1.ok) (by kernel_rfl) (by kernel_rfl) ?_
    repeat (go_big_quiet_step (first | exact calls_cls_same (HI.out _) | exact calls_cls_same (HM.out _) | exact calls_cls_same (HX.out _)))
    refine wpQuiet_nil ?_
    rintro _ ⟨k4, rfl⟩
    obtain ⟨tc, htc⟩ : ∃ tc, plainF S (List.replicate S.toNat false) x1 = tc := ⟨_, rfl⟩
    have hLc : (looks S lkw x1 x2 x3 x5).c = tc := htc
    rw [htc] at Hpl
    have HLc := Lib.hid hLc
    obtain ⟨cl, hcl⟩ : ∃ cl, (if tc.1 < 0 then [] else [val tc.1]) = cl := ⟨_, rfl⟩
    have Hcl := Lib.hid hcl
    clear htc hLc hcl HI HM
    go_upto_if 46 with (refine (HX.out _).mono ?_; rintro e w5 ⟨rfl, rfl⟩)
    go_cut [] (fun wx => ∃ (v0 : Value) (seen1 : List Bool), Hid (seen1 = tc.2.2) ∧ Hid (tc.2.1 = true) ∧ Hid (HL w wx T R H Re Ca S B (some ⟨bw, off, none⟩) n c ws b sb xb seen1 false [v0, .slice none 0 0, .slice none 0 0, .slice none 0 0, .slice none 0 0] [.row v0 3 1 cl.length (cl.map (Value.int .i64))]))
    case first =>
      have HL4 := Lib.hid (HL0.out.ext k4.ok)
      obtain ⟨W4, hW4⟩ : ∃ W4, k4.world = W4 := ⟨_, rfl⟩
      rw [hW4] at HL4 ⊢
      clear hW4 d0 d1 d2 d3 d4 d5 d6 q1
      rcases newF_all S (List.replicate S.toNat false) s1 with ⟨hf, hs0⟩ | ⟨hf, hs0⟩ | ⟨hf, hs0, hs1, _⟩
      · have Hf := Lib.hid hf
        have Hneg := Lib.hid hs0
        clear hf
        go_wp2_with fail
        go_meet
        case rel =>
          have h := Hpl.out
          rw [Hf.out] at h
          subst h
          have hc := Hcl.out
          rw [if_pos Hneg.out] at hc
          subst hc
          exact ⟨_, _, Lib.hid rfl, Lib.hid rfl, Lib.hid (HL4.out.val (Ext.rfl' _) (World.ownsRow_nil _ _ _ 1))⟩
      · exfalso
        obtain ⟨j, rfl⟩ : ∃ j : Nat, s1 = j := ⟨s1.toNat, by omega⟩
        unfold newF at hf
        rw [if_neg (by omega), if_pos ⟨hg2, by rw [List.getElem?_replicate, if_pos (by omega)]⟩] at hf
        have h2 := congrArg (fun q => q.2.1) hf
        cases h2
      · obtain ⟨j, rfl⟩ : ∃ j : Nat, s1 = j := ⟨s1.toNat, by omega⟩
        have hjS : (j : Int) < ((S.toNat : Nat) : Int) := by omega
        have hj0 : (0 : Int) ≤ (j : Int) := by omega
        have Hf := Lib.hid hf
        have Hj := Lib.hid hs1
        have c8 := HL4.out.has.cell (b := b) (t := 115) (cs := wkL T R H Re Ca S B (some ⟨bw, off, none⟩) n c sb false) me0 (i := 8) rfl
        have m0 := HL4.out.has.cell (b := sb) (t := 4) (cs := (List.replicate S.toNat false).map Value.bool) me1 (i := j) (u := .bool false) (by rw [List.getElem?_map, List.getElem?_replicate, if_pos (by omega)]; rfl)
        have f0 := HL4.out.has.free (b := sb) (t := 4) (cs := (List.replicate S.toNat false).map Value.bool) me1 j
        obtain ⟨k5, hk5⟩ := lat_self W4
        rw [hk5]
        clear hf hs0 hs1 hk5
        go_upto_region 10 with (refine (HX.out _).mono ?_; rintro e w5 ⟨rfl, rfl⟩)
        refine wp_region_cls_tail (Ext W4) 7 (Ext.drew1 k5.ok) (by kernel_rfl) (by kernel_rfl) ?_
        simp only [List.take_succ_cons, List.take_zero, List.drop_succ_cons, List.drop_zero]
        repeat (go_big_quiet_step (exact calls_cls_same (HX.out _)))
        refine wpQuiet_nil ?_
        rintro _ ⟨k6, rfl⟩
        have HL6 := Lib.hid ((HL4.out.ext k6.ok).mark j)
        go_upto_region 11 with fail
        obtain ⟨W6, hW6⟩ : ∃ W6, k6.world.setCell ⟨sb, j, none⟩ (.bool true) = W6 := ⟨_, rfl⟩
        rw [hW6] at HL6 ⊢
        clear hW6 c8 m0 f0
        go_wp2_with (refine (HX.out _).mono ?_; rintro e w5 ⟨rfl, rfl⟩)
        have hq := HL6.out.ext ((Ext.rfl' w5).alloc1 (.cells #[.int .i64 (j : Int)] 3))
        have hrd := Rd.made w5 [.int .i64 (j : Int)] 3
        refine (Hvl.out _ b sb _ false hq.wal (some ⟨w5.heap.size, 0, none⟩) 1 1 [(j : Int)] hrd rfl (by omega) (by
          intro s hs
          rw [List.mem_singleton] at hs
          subst hs
          exact ⟨by omega, hg2⟩)).mono ?_
        rintro e w7 ⟨v0, rfl, hown7, e7⟩
        obtain ⟨A0, c0, rfl⟩ := own_form hown7
        have HL7 := Lib.hid (hq.val e7 hown7)
        have fr := HL7.out.has.free (b := xb) (t := 38) (cs := nil5) me2 0
        have cx := HL7.out.has.cell (b := xb) (t := 38) (cs := nil5) me2 (i := 0) rfl
        have lx := HL7.out.has.lt (b := xb) (x := ob xb 38 nil5) me2 rfl
        obtain ⟨k7, hk7⟩ := lat_self w7
        rw [hk7]
        have Hk7 := Lib.hid hk7
        clear hk7
        clear hq hrd hown7 e7
        go_wp2_with fail
        go_meet
        case rel =>
          rw [← Hk7.out]
          have h := Hpl.out
          rw [Hf.out] at h
          subst h
          have hc := Hcl.out
          rw [if_neg (by show ¬ ((j : Int) < 0); omega)] at hc
          subst hc
          exact ⟨_, _, Lib.hid rfl, Lib.hid rfl, Lib.hid (HL7.out.put 0 _)⟩
    obtain ⟨v0, seen1, Hs1, Hok1, HL1⟩ := hcut
    obtain ⟨W1, hW1⟩ : ∃ W1 : World, W1 = wc := ⟨_, rfl⟩
    subst hW1
    clear HL0 HX Hpl hg2 hds k4 d0 d1 d2 d3 d4 d5 d6 q1 k0 k1
    obtain ⟨d0, d1, d2, d3, d4, d5, d6⟩ := HL1.out.cfg
    have qx : ∀ z : Lat W1, z.world.cell? ⟨bw, off + i2, none⟩ = some (.int .u64 x2) := fun z => Hc2.out _ (Ext.next HL1.out.has.ext z.ok)
    obtain ⟨kz, hkz⟩ := lat_self W1
    rw [hkz]
    have Hkz := Lib.hid hkz
    clear hkz
    go_wp2_with fail
    refine (Hb2.out _).mono ?_
    rintro e wa ⟨rfl, ea⟩
    obtain ⟨ka, rfl⟩ := lat_next kz ea
    clear ea
    go_wp2_with fail
    refine (Hch.out _ b sb seen1 false (HA'.out _ (HL1.out.ext ka.ok).has.ext) (HL1.out.ext ka.ok).wal).mono ?_
    rintro e wb ⟨vl, l1, seen2, bad2, rfl, hown, hon, hw, hrg, hln, hcase⟩
    have HLb := Lib.hid ((HL1.out.ext ka.ok).call hon hw hown)
    obtain ⟨Al, dl, rfl⟩ := own_form hown
    have hrd := Rd.of_own hown
    have Hcase := Lib.hid hcase
    have HmS : l1.length ≤ 1024 := by have := HS.out; omega
    obtain ⟨kz, hkz⟩ := lat_self wb
    have Hrg := Lib.hid hrg
    clear hown hon hw hcase hln d0 d1 d2 d3 d4 d5 d6 qx ka hrg
    rw [hkz]
    have Hkz := Lib.hid hkz
    clear hkz
    go_wp2_with fail
    rw [← Hkz.out]
    refine (Hvl.out _ b sb _ _ HLb.out.wal Al l1.length dl l1 hrd rfl HmS Hrg.out).mono ?_
    rintro e wd ⟨v1, rfl, hown, ed⟩
    obtain ⟨Z, C, hz⟩ := own_form hown
    obtain ⟨N, hN⟩ : ∃ N, (l1.map val).length = N := ⟨_, rfl⟩
    rw [hN] at hz
    rw [hz]
    have Hz := Lib.hid hz
    clear hz hN
    have HLd := Lib.hid (HLb.out.val ed hown)
    clear hrd hown ed Hkz kz HLb HL1
    have fr := HLd.out.has.free (b := xb) (t := 38) (cs := [v0, .slice none 0 0, .slice none 0 0, .slice none 0 0, .slice none 0 0]) me2 1
    have cx := HLd.out.has.cell (b := xb) (t := 38) (cs := [v0, .slice none 0 0, .slice none 0 0, .slice none 0 0, .slice none 0 0]) me2 (i := 1) rfl
    have lx := HLd.out.has.lt (b := xb) (x := ob xb 38 [v0, .slice none 0 0, .slice none 0 0, .slice none 0 0, .slice none 0 0]) me2 rfl
    obtain ⟨kp, hkp⟩ := lat_self wd
    rw [hkp]
    have Hkp := Lib.hid hkp
    clear hkp
    go_upto_region 13 with fail
    rw [← Hkp.out, ← Hz.out]
    clear Hz
    have HL2 := Lib.hid (HLd.out.put 1 v1)
    obtain ⟨W2, hW2⟩ : ∃ W2, wd.setCell ⟨xb, 1, none⟩ v1 = W2 := ⟨_, rfl⟩
    rw [hW2] at HL2 ⊢
    clear hW2 Hkp kp fr cx lx HLd
    have HG2 : Hid ((tc.2.1 = true ∧ (looks S lkw x1 x2 x3 x5).t1.2.1 = true ∧ l1 = (looks S lkw x1 x2 x3 x5).t1.1.map Prod.fst ∧ seen2 = (looks S lkw x1 x2 x3 x5).t1.2.2 ∧ bad2 = false) ∨ (bad2 = true ∧ sp = none)) := by
      have ht1 : (looks S lkw x1 x2 x3 x5).t1 = chainOf S lkw false seen1 x2 := by
        rw [Hs1.out, ← HLc.out]
        rfl
      rcases Hcase.out with ⟨h1, h2, h3, h4⟩ | ⟨h1, h2, h3⟩
      · exact .inl ⟨Hok1.out, by rw [ht1]; exact h1, by rw [ht1]; exact h2, by rw [ht1]; exact h3, h4⟩
      · exact .inr ⟨h3, Hsp.out.symm.trans (lookS_2 (by rw [ht1, h1]; rfl))⟩
    clear Hcase Hs1
    obtain ⟨d0, d1, d2, d3, d4, d5, d6⟩ := HL2.out.cfg
    obtain ⟨kz, hkz⟩ := lat_self W2
    rw [hkz]
    have Hkz := Lib.hid hkz
    clear hkz
    go_wp2_with fail
    rw [← Hkz.out]
    refine (Hqu.out _ b sb seen2 bad2 (HA'.out _ HL2.out.has.ext) HL2.out.wal).mono ?_
    rintro e wb ⟨v2, l2, seen3, bad3, rfl, hown, hon, hw, hln, hcase⟩
    obtain ⟨Z, C, hz⟩ := own_form hown
    obtain ⟨N, hN⟩ : ∃ N, l2.length = N := ⟨_, rfl⟩
    rw [hN] at hz
    rw [hz]
    have Hz := Lib.hid hz
    clear hz hN
    have HLb := Lib.hid (HL2.out.call hon hw hown)
    have Hcase := Lib.hid hcase
    clear hown hon hw hcase hln d0 d1 d2 d3 d4 d5 d6 kz Hkz HL2
    have fr := HLb.out.has.free (b := xb) (t := 38) (cs := [v0, v1, .slice none 0 0, .slice none 0 0, .slice none 0 0]) me2 2
    have cx := HLb.out.has.cell (b := xb) (t := 38) (cs := [v0, v1, .slice none 0 0, .slice none 0 0, .slice none 0 0]) me2 (i := 2) rfl
    have lx := HLb.out.has.lt (b := xb) (x := ob xb 38 [v0, v1, .slice none 0 0, .slice none 0 0, .slice none 0 0]) me2 rfl
    obtain ⟨kp, hkp⟩ := lat_self wb
    rw [hkp]
    have Hkp := Lib.hid hkp
    clear hkp
    go_upto_region 14 with fail
    rw [← Hkp.out, ← Hz.out]
    clear Hz
    have HL3 := Lib.hid (HLb.out.put 2 v2)
    obtain ⟨W3, hW3⟩ : ∃ W3, wb.setCell ⟨xb, 2, none⟩ v2 = W3 := ⟨_, rfl⟩
    rw [hW3] at HL3 ⊢
    clear hW3 Hkp kp fr cx lx HLb
    have HG3 : Hid ((tc.2.1 = true ∧ ((!(looks S lkw x1 x2 x3 x5).t1.2.1 || !(looks S lkw x1 x2 x3 x5).t2.2.1) || !namesOne x4 (looks S lkw x1 x2 x3 x5).t2.1) = false ∧ l1 = (looks S lkw x1 x2 x3 x5).t1.1.map Prod.fst ∧ l2 = behind val (looks S lkw x1 x2 x3 x5).t2.1 ∧ seen3 = (looks S lkw x1 x2 x3 x5).t2.2.2 ∧ bad3 = false) ∨ (bad3 = true ∧ sp = none)) := by
      rcases HG2.out with ⟨g0, g1, g2, g3, g4⟩ | ⟨g1, g2⟩
      · have ht2 : (looks S lkw x1 x2 x3 x5).t2 = chainOf S lkw false seen2 x3 := by
          rw [g3]
          rfl
        rcases Hcase.out with ⟨h1, h2, h3, h4, h5⟩ | ⟨h1, h2⟩
        · exact .inl ⟨g0, by rw [g1, ht2, h1, h2]; rfl, g2, by rw [ht2]; exact h3, by rw [ht2]; exact h4, h5.trans g4⟩
        · refine .inr ⟨h2, Hsp.out.symm.trans (lookS_2 ?_)⟩
          rw [ht2]
          rcases h1 with h1 | h1 <;> simp [h1]
      · rcases Hcase.out with ⟨h1, h2, h3, h4, h5⟩ | ⟨h1, h2⟩
        · exact .inr ⟨h5.trans g1, g2⟩
        · exact .inr ⟨h2, g2⟩
    clear Hcase HG2
    obtain ⟨d0, d1, d2, d3, d4, d5, d6⟩ := HL3.out.cfg
    have qx : ∀ z : Lat W3, z.world.cell? ⟨bw, off + i5, none⟩ = some (.int .u64 x5) := fun z => Hc5.out _ (Ext.next HL3.out.has.ext z.ok)
    obtain ⟨kz, hkz⟩ := lat_self W3
    rw [hkz]
    have Hkz := Lib.hid hkz
    clear hkz
    go_wp2_with fail
    refine (Hb5.out _).mono ?_
    rintro e wa ⟨rfl, ea⟩
    obtain ⟨ka, rfl⟩ := lat_next kz ea
    clear ea
    go_wp2_with fail
    refine (Hke.out _ b sb seen3 bad3 (HA'.out _ (HL3.out.ext ka.ok).has.ext) (HL3.out.ext ka.ok).wal).mono ?_
    rintro e wb ⟨vl, l3, seen4, bad4, rfl, hown, hon, hw, hrg, hln, hcase⟩
    have HLb := Lib.hid ((HL3.out.ext ka.ok).call hon hw hown)
    obtain ⟨Al, dl, rfl⟩ := own_form hown
    have hrd := Rd.of_own hown
    have Hcase := Lib.hid hcase
    have HmS3 : l3.length ≤ 1024 := by have := HS.out; omega
    obtain ⟨kz, hkz⟩ := lat_self wb
    have Hrg3 := Lib.hid hrg
    clear hown hon hw hcase hln d0 d1 d2 d3 d4 d5 d6 qx ka hrg
    rw [hkz]
    have Hkz := Lib.hid hkz
    clear hkz
    go_wp2_with fail
    rw [← Hkz.out]
    refine (Hvl.out _ b sb _ _ HLb.out.wal Al l3.length dl l3 hrd rfl HmS3 Hrg3.out).mono ?_
    rintro e wd ⟨v3, rfl, hown, ed⟩
    obtain ⟨Z, C, hz⟩ := own_form hown
    obtain ⟨N, hN⟩ : ∃ N, (l3.map val).length = N := ⟨_, rfl⟩
    rw [hN] at hz
    rw [hz]
    have Hz := Lib.hid hz
    clear hz hN
    have HLd := Lib.hid (HLb.out.val ed hown)
    clear hrd hown ed Hkz kz HLb HL3
    have fr := HLd.out.has.free (b := xb) (t := 38) (cs := [v0, v1, v2, .slice none 0 0, .slice none 0 0]) me2 3
    have cx := HLd.out.has.cell (b := xb) (t := 38) (cs := [v0, v1, v2, .slice none 0 0, .slice none 0 0]) me2 (i := 3) rfl
    have lx := HLd.out.has.lt (b := xb) (x := ob xb 38 [v0, v1, v2, .slice none 0 0, .slice none 0 0]) me2 rfl
    obtain ⟨kp, hkp⟩ := lat_self wd
    rw [hkp]
    have Hkp := Lib.hid hkp
    clear hkp
    go_upto_region 15 with fail
    rw [← Hkp.out, ← Hz.out]
    clear Hz
    have HL4 := Lib.hid (HLd.out.put 3 v3)
    obtain ⟨W4, hW4⟩ : ∃ W4, wd.setCell ⟨xb, 3, none⟩ v3 = W4 := ⟨_, rfl⟩
    rw [hW4] at HL4 ⊢
    clear hW4 Hkp kp fr cx lx HLd
    have HG4 : Hid ((tc.2.1 = true ∧ ((!(looks S lkw x1 x2 x3 x5).t1.2.1 || !(looks S lkw x1 x2 x3 x5).t2.2.1) || !namesOne x4 (looks S lkw x1 x2 x3 x5).t2.1) = false ∧ l1 = (looks S lkw x1 x2 x3 x5).t1.1.map Prod.fst ∧ l2 = behind val (looks S lkw x1 x2 x3 x5).t2.1 ∧ keysOf val B (-1) (looks S lkw x1 x2 x3 x5).t3 = some l3 ∧ seen4 = (looks S lkw x1 x2 x3 x5).t3.2.2 ∧ bad4 = false) ∨ (bad4 = true ∧ sp = none)) := by
      rcases HG3.out with ⟨g0, g1, g2, g3, g4, g5⟩ | ⟨g1, g2⟩
      · have ht3 : (looks S lkw x1 x2 x3 x5).t3 = chainOf S lkw true seen3 x5 := by
          rw [g4]
          rfl
        rcases Hcase.out with ⟨h1, h2, h3⟩ | ⟨h1, h2⟩
        · exact .inl ⟨g0, g1, g2, g3, by rw [ht3]; exact h1, by rw [ht3]; exact h2, h3.trans g5⟩
        · exact .inr ⟨h2, Hsp.out.symm.trans (lookS_3 (by rw [ht3]; exact h1))⟩
      · rcases Hcase.out with ⟨h1, h2, h3⟩ | ⟨h1, h2⟩
        · exact .inr ⟨h3.trans g1, g2⟩
        · exact .inr ⟨h2, g2⟩
    clear Hcase HG3
    obtain ⟨d0, d1, d2, d3, d4, d5, d6⟩ := HL4.out.cfg
    obtain ⟨kz, hkz⟩ := lat_self W4
    rw [hkz]
    have Hkz := Lib.hid hkz
    clear hkz
    go_wp2_with fail
    rw [← Hkz.out]
    refine (Hta.out _ b sb seen4 bad4 (HA'.out _ HL4.out.has.ext) HL4.out.wal).mono ?_
    rintro e wb ⟨v4, l4, seen5, bad5, rfl, hown, hon, hw, hcase⟩
    obtain ⟨Z, C, hz⟩ := own_form hown
    obtain ⟨N, hN⟩ : ∃ N, l4.length = N := ⟨_, rfl⟩
    rw [hN] at hz
    rw [hz]
    have Hz := Lib.hid hz
    clear hz hN
    have HLb := Lib.hid (HL4.out.call hon hw hown)
    have Hcase := Lib.hid hcase
    clear hown hon hw hcase d0 d1 d2 d3 d4 d5 d6 kz Hkz HL4
    have fr := HLb.out.has.free (b := xb) (t := 38) (cs := [v0, v1, v2, v3, .slice none 0 0]) me2 4
    have cx := HLb.out.has.cell (b := xb) (t := 38) (cs := [v0, v1, v2, v3, .slice none 0 0]) me2 (i := 4) rfl
    have lx := HLb.out.has.lt (b := xb) (x := ob xb 38 [v0, v1, v2, v3, .slice none 0 0]) me2 rfl
    obtain ⟨kp, hkp⟩ := lat_self wb
    rw [hkp]
    have Hkp := Lib.hid hkp
    clear hkp
    go_upto_region 16 with fail
    rw [← Hkp.out, ← Hz.out]
    clear Hz
    have HL5 := Lib.hid (HLb.out.put 4 v4)
    obtain ⟨W5, hW5⟩ : ∃ W5, wb.setCell ⟨xb, 4, none⟩ v4 = W5 := ⟨_, rfl⟩
    rw [hW5] at HL5 ⊢
    clear hW5 Hkp kp fr cx lx HLb
    have HG5 : Hid ((bad5 = false ∧ specOf sp = (0, ⟨cl, l1.map val, l2, l3.map val, l4⟩)) ∨ (bad5 = true ∧ sp = none)) := by
      rcases HG4.out with ⟨g0, g1, g2, g3, g4, g5, g6⟩ | ⟨g1, g2⟩
      · rcases Hcase.out with ⟨q, h1, h2, h3⟩ | ⟨h1, h2⟩
        · refine .inl ⟨h3.trans g6, ?_⟩
          rw [g5] at h1
          have hk := lookS_ok (x4 := x4) (by rw [HLc.out]; exact g0) g1 g4 h1
          rw [Hsp.out] at hk
          rw [hk]
          have e1 : (looks S lkw x1 x2 x3 x5).t1.1.map (fun x => val x.1) = l1.map val := by
            rw [g2, List.map_map]
            rfl
          have e2 : (if (looks S lkw x1 x2 x3 x5).c.1 < 0 then [] else [val (looks S lkw x1 x2 x3 x5).c.1]) = cl := by
            rw [HLc.out]
            exact Hcl.out
          rw [e1, e2, ← g3]
          show ((0 : Int), (⟨cl, l1.map val, l2, l3.map val, byKey q.1⟩ : Cont)) = _
          rw [← h2]
        · rw [g5] at h1
          exact .inr ⟨h2, Hsp.out.symm.trans (lookS_4 g4 (Nat.le_refl _) h1)⟩
      · rcases Hcase.out with ⟨q, h1, h2, h3⟩ | ⟨h1, h2⟩
        · exact .inr ⟨h3.trans g1, g2⟩
        · exact .inr ⟨h2, g2⟩
    clear Hcase HG4
    have O4 : Hid (W5.ownsRow w.heap.size 106 2 v4 l4.length (l4.flatMap encPair)) := HL5.out.has.own _ me5
    have O3 : Hid (W5.ownsRow w.heap.size 3 1 v3 (l3.map val).length ((l3.map val).map (Value.int .i64))) := HL5.out.has.own _ me6
    have O2 : Hid (W5.ownsRow w.heap.size 3 1 v2 l2.length (l2.map (Value.int .i64))) := HL5.out.has.own _ (List.mem_cons_of_mem _ me7)
    have O1 : Hid (W5.ownsRow w.heap.size 3 1 v1 (l1.map val).length ((l1.map val).map (Value.int .i64))) := HL5.out.has.own _ (List.mem_cons_of_mem _ (List.mem_cons_of_mem _ me7))
    have O0 : Hid (W5.ownsRow w.heap.size 3 1 v0 cl.length (cl.map (Value.int .i64))) := HL5.out.has.own _ (List.mem_cons_of_mem _ (List.mem_cons_of_mem _ (List.mem_cons_of_mem _ (List.mem_cons_of_mem _ me7))))
    have c9 := HL5.out.has.cell (b := b) (t := 115) (cs := wkL T R H Re Ca S B (some ⟨bw, off, none⟩) n c sb bad5) me0 (i := 9) rfl
    have hRes : ∀ z : Lat W5, z.world.heap[w.heap.size + 1]? = some (.cells nil5.toArray 38 (0, 0)) := fun z => (HL5.out.ext z.ok).has.blk me4
    have Hon : Hid (∀ z : Lat W5, Ext w z.world) := fun z => (HL5.out.ext z.ok).has.ext
    obtain ⟨kz, hkz⟩ := lat_self W5
    rw [hkz]
    have Hkz := Lib.hid hkz
    clear hkz
    rcases HG5.out with ⟨hb5, hsp5⟩ | ⟨hb5, hsp5⟩
    · subst hb5
      have Hsp5 := Lib.hid hsp5
      have X0 := HL5.out.has.cell (b := xb) (t := 38) (cs := [v0, v1, v2, v3, v4]) me2 (i := 0) rfl
      have X1 := HL5.out.has.cell (b := xb) (t := 38) (cs := [v0, v1, v2, v3, v4]) me2 (i := 1) rfl
      have X2 := HL5.out.has.cell (b := xb) (t := 38) (cs := [v0, v1, v2, v3, v4]) me2 (i := 2) rfl
      have X3 := HL5.out.has.cell (b := xb) (t := 38) (cs := [v0, v1, v2, v3, v4]) me2 (i := 3) rfl
      have X4 := HL5.out.has.cell (b := xb) (t := 38) (cs := [v0, v1, v2, v3, v4]) me2 (i := 4) rfl
      have hall : ((contV v0 v1 v2 v3 v4).all fun x => x.oneCell') = true := by
        simp [contV, own_one O0.out, own_one O1.out, own_one O2.out, own_one O3.out, own_one O4.out]
      clear hsp5 HG5
      go_wp2_with (show wpList _ _ _ ({ dst := _, op := Op.store 38 (Operand.tmp 4) (Operand.tmp 91), type := _, pos := _, after := _, guard := _ } :: _) _ _; refine wpList_store_row rfl _ _ _ rfl (w.heap.size + 1) (contV v0 v1 v2 v3 v4) (by kernel_rfl) (by kernel_rfl) _ _ (hRes _) (by kernel_rfl) (by kernel_rfl) hall ?_)
      refine bodyPost_ret (results_cell_tmp rfl _ _ (w.heap.size + 1) rfl _ (run_loadVar_row _ _ _ _ _ _ _ (setRow_heap _ _ _ _ _ _ (hRes _)) Try.underlying38 rfl (by kernel_rfl))) rfl ?_
      rw [Hsp5.out]
      have ho : Only (fun q => q = w.heap.size + 1) kz.world (kz.world.setRow (w.heap.size + 1) (contV v0 v1 v2 v3 v4)) := ⟨rfl, rfl, rfl, by simp [World.setRow], fun k _ hn => setRow_other _ _ _ _ hn⟩
      have fin : ∀ {e : TypeId} {size n : Nat} {v : Value} {us : List Value}, W5.ownsRow w.heap.size e size v n us → e ≠ 38 → (kz.world.setRow (w.heap.size + 1) (contV v0 v1 v2 v3 v4)).ownsRow w.heap.size e size v n us := fun h hne =>
        own_only (own_ext h kz.ok) ho fun q hq hs => own_apart (own_ext h kz.ok) (hRes kz) hne (by rw [hq, hs])
      exact ⟨v0, v1, v2, v3, v4, rfl, fin O0.out (by decide), fin O1.out (by decide), fin O2.out (by decide), fin O3.out (by decide), fin O4.out (by decide), below_setRow (Hon.out _) (by omega) _⟩
    · subst hb5 hsp5
      clear HG5
      go_wp2_with (show wpList _ _ _ ({ dst := _, op := Op.store 38 (Operand.tmp 4) (Operand.tmp 90), type := _, pos := _, after := _, guard := _ } :: _) _ _; refine wpList_store_row rfl _ _ _ rfl (w.heap.size + 1) #[.slice none 0 0, .slice none 0 0, .slice none 0 0, .slice none 0 0, .slice none 0 0] (by kernel_rfl) (by kernel_rfl) _ _ (hRes _) (by kernel_rfl) (by kernel_rfl) (by kernel_rfl) ?_)
      refine bodyPost_ret (results_cell_tmp rfl _ _ (w.heap.size + 1) rfl _ (run_loadVar_row _ _ _ _ _ _ _ (setRow_heap _ _ _ _ _ _ (hRes _)) Try.underlying38 rfl (by kernel_rfl))) rfl ?_
      exact cont_none _ _ (below_setRow (Hon.out _) (by omega) _)
  · have hno : sp = none := by
      rw [← Hsp.out]
      refine lookS_c ?_
      show (plainF S (List.replicate S.toNat false) x1).2.1 = false
      unfold plainF
      by_cases h1 : x1 ≤ 2147483647
      · rw [if_pos h1]
        rcases newF_all S (List.replicate S.toNat false) (x1 - 1) with ⟨h, h2⟩ | ⟨h, h2⟩ | ⟨h, h2, h3, _⟩
        · have := HS.out
          exact absurd ⟨h1, by omega⟩ hg
        · rw [h]
        · exact absurd ⟨h1, h3⟩ hg
      · rw [if_neg h1]
    subst hno
    have hlm := isLink_any x1
    have hmm := linkMark_any x1
    have hxx := linkIndex_any x1
    have hcs : (decide (x1 < 8589934592 ∧ x1 % 4294967296 ≤ 2147483647) = false) ∨ (decide (x1 < 8589934592 ∧ x1 % 4294967296 ≤ 2147483647) = true ∧ (x1 / 4294967296 % 2 == 1) = true) ∨ (decide (x1 < 8589934592 ∧ x1 % 4294967296 ≤ 2147483647) = true ∧ (x1 / 4294967296 % 2 == 1) = false ∧ decide (S ≤ x1 % 4294967296 - 1) = true) := by
      by_cases h1 : x1 ≤ 2147483647
      · have h2 := (plain_dec x1 Hx1.out.1).2 h1
        refine .inr (.inr ⟨h2.1, h2.2, ?_⟩)
        have := HS.out
        simp
        omega
      · have h2 := fun h => h1 ((plain_dec x1 Hx1.out.1).1 h)
        cases h3 : decide (x1 < 8589934592 ∧ x1 % 4294967296 ≤ 2147483647) with
        | false => exact .inl rfl
        | true =>
          cases h4 : (x1 / 4294967296 % 2 == 1) with
          | true => exact .inr (.inl ⟨rfl, rfl⟩)
          | false => exact absurd ⟨h3, h4⟩ h2
    clear hg
    go_cut [42] (fun s wx => s = .bool true ∧ ∃ k : Lat W0, wx = k.world)
    case first =>
      rcases hcs with h | ⟨h, h'⟩ | ⟨h, h', h''⟩
      · rw [h] at hlm
        have HI := Lib.hid (fun w => hlm w Hx1.out.1 Hx1.out.2)
        clear h hlm hmm hxx
        refine wp_region_cls (Ext W0) (Ext.drew1 k1.ok) (by kernel_rfl) (by kernel_rfl) ?_
        repeat (go_big_quiet_step (exact calls_cls_same (HI.out _)))
        refine wpQuiet_nil ?_
        rintro _ ⟨k4, rfl⟩
        (try go_wp2_with fail)
        go_meet
        case rel => exact ⟨rfl, k4, rfl⟩
      · rw [h] at hlm
        rw [h'] at hmm
        have HI := Lib.hid (fun w => hlm w Hx1.out.1 Hx1.out.2)
        have HM := Lib.hid (fun w => hmm w Hx1.out.1 Hx1.out.2)
        clear h h' hlm hmm hxx
        refine wp_region_cls (Ext W0) (Ext.drew1 k1.ok) (by kernel_rfl) (by kernel_rfl) ?_
        repeat (go_big_quiet_step (first | exact calls_cls_same (HI.out _) | exact calls_cls_same (HM.out _)))
        refine wpQuiet_nil ?_
        rintro _ ⟨k4, rfl⟩
        (try go_wp2_with fail)
        go_meet
        case rel => exact ⟨rfl, k4, rfl⟩
      · rw [h] at hlm
        rw [h'] at hmm
        have HI := Lib.hid (fun w => hlm w Hx1.out.1 Hx1.out.2)
        have HM := Lib.hid (fun w => hmm w Hx1.out.1 Hx1.out.2)
        have HX := Lib.hid (fun w => hxx w Hx1.out.1 Hx1.out.2)
        clear h h' hlm hmm hxx
        generalize x1 % 4294967296 - 1 = s1 at HX h''
        refine wp_region_cls (Ext W0) (Ext.drew1 k1.ok) (by kernel_rfl) (by kernel_rfl) ?_
        repeat (go_big_quiet_step (first | exact calls_cls_same (HI.out _) | exact calls_cls_same (HM.out _) | exact calls_cls_same (HX.out _)))
        refine wpQuiet_nil ?_
        rintro _ ⟨k4, rfl⟩
        (try go_wp2_with fail)
        go_meet
        case rel => exact ⟨rfl, k4, rfl⟩
    obtain ⟨rfl, k4, rfl⟩ := hcut
    have hRes := (HL0.out.ext k4.ok).has.blk (b := w.heap.size + 1) (t := 38) (cs := nil5) me4
    have hon := (HL0.out.ext k4.ok).has.ext
    have Hon := Lib.hid hon
    clear hlm hmm hxx hcs hon d0 d1 d2 d3 d4 d5 d6 q1
    go_wp2_with (show wpList _ _ _ ({ dst := _, op := Op.store 38 (Operand.tmp 4) (Operand.tmp 43), type := _, pos := _, after := _, guard := _ } :: _) _ _; refine wpList_store_row rfl _ _ _ rfl (w.heap.size + 1) #[.slice none 0 0, .slice none 0 0, .slice none 0 0, .slice none 0 0, .slice none 0 0] (by kernel_rfl) (by kernel_rfl) _ _ hRes (by kernel_rfl) (by kernel_rfl) (by kernel_rfl) ?_)
    refine bodyPost_ret (results_cell_tmp rfl _ _ (w.heap.size + 1) rfl _ (run_loadVar_row _ _ _ _ _ _ _ (setRow_heap _ _ _ _ _ _ hRes) Try.underlying38 rfl (by kernel_rfl))) rfl ?_
    exact cont_none _ _ (below_setRow Hon.out (by omega) _)

set_option maxRecDepth 100000 in
set_option maxHeartbeats 4000000 in
theorem rlook_err (T R H Re Ca S B : Int) (A : Option Addr) (n c : Nat) (w : World) (er : Int) (her : (er != 0) = true)
    (hc : ∀ w : World, Calls Try.prog 50 #[(.agg #[.int .i64 T, .int .i64 R, .int .i64 H, .int .i64 Re, .int .i64 Ca, .int .i64 S, .int .i64 B]), .slice A n c] w fun e w' => e = .returned (.int .i64 er) ∧ Ext w w') :
    Calls Try.prog 18 #[(.agg #[.int .i64 T, .int .i64 R, .int .i64 H, .int .i64 Re, .int .i64 Ca, .int .i64 S, .int .i64 B]), .slice A n c] w (ContOut w (er, noCont)) := by
  have Hc := Lib.hid hc
  clear hc
  go_enter Try.func18, Try.ntmps18
  go_upto_region 1 with fail
  obtain ⟨wa, ha, h0, h1, eA, ltA⟩ := enter2 w (.cells (cfgV T R H Re Ca S B) 23) (.cells #[.slice none 0 0, .slice none 0 0, .slice none 0 0, .slice none 0 0, .slice none 0 0] 38)
  rw [ha]
  have H1 := Lib.hid h1
  have HEa := Lib.hid eA
  obtain ⟨d0, d1, d2, d3, d4, d5, d6⟩ := Lat.cfg h0
  obtain ⟨ka, hka⟩ := lat_self wa
  rw [hka]
  clear ha h0 h1 eA ltA hka
  go_wp2_with fail
  refine (Hc.out _).mono ?_
  rintro e w1 ⟨rfl, e1⟩
  obtain ⟨k1, rfl⟩ := lat_next ka e1
  have hRes := ext_blk k1.ok H1.out
  have Hon := Lib.hid (Ext.next HEa.out k1.ok)
  clear e1 d0 d1 d2 d3 d4 d5 d6
  go_wp2_with (show wpList _ _ _ ({ dst := _, op := Op.store 38 (Operand.tmp 4) (Operand.tmp 15), type := _, pos := _, after := _, guard := _ } :: _) _ _; refine wpList_store_row rfl _ _ _ rfl (w.heap.size + 1) #[.slice none 0 0, .slice none 0 0, .slice none 0 0, .slice none 0 0, .slice none 0 0] (by kernel_rfl) (by kernel_rfl) _ _ hRes (by kernel_rfl) (by kernel_rfl) (by kernel_rfl) ?_)
  refine bodyPost_ret (results_cell_tmp rfl _ _ (w.heap.size + 1) rfl _ (run_loadVar_row _ _ _ _ _ _ _ (setRow_heap _ _ _ _ _ _ hRes) Try.underlying38 rfl (by kernel_rfl))) rfl ?_
  exact cont_err _ _ er (below_setRow Hon.out (by omega) _)

theorem rlook_any (T R H Re Ca S B : Int) (A : Option Addr) (n c : Nat) (ws : List Int) (w : World) (hr : Rd w A (ws.map (Value.int .u64))) (hl : ws.length = n) (hws : ∀ x ∈ ws, 0 ≤ x ∧ x ≤ 18446744073709551615) :
    Calls Try.prog 18 #[(.agg #[.int .i64 T, .int .i64 R, .int .i64 H, .int .i64 Re, .int .i64 Ca, .int .i64 S, .int .i64 B]), .slice A n c] w (ContOut w (lookAns T R H Re Ca S B ws)) := by
  by_cases hok : Okay T R H Re Ca S B
  · by_cases hn : (n : Int) = sumOf R H S B 13
    · have hs : lookAns T R H Re Ca S B ws = lookSpec R H S B ws := by
        unfold lookAns
        rw [if_neg (by simpa using hok), if_neg (by rw [hl]; simpa using hn)]
      rw [hs]
      exact rlook_ok T R H Re Ca S B hok A n c ws w hr hl hn hws
    · have hs : lookAns T R H Re Ca S B ws = (2, noCont) := by
        unfold lookAns
        rw [if_neg (by simpa using hok), if_pos (by rw [hl]; exact hn)]
      rw [hs]
      exact rlook_err T R H Re Ca S B A n c w 2 rfl (fun w => by
        have h := refused_any T R H Re Ca S B A n c w
        rwa [if_neg (by simpa using hok), if_pos hn] at h)
  · have hs : lookAns T R H Re Ca S B ws = (1, noCont) := by
      unfold lookAns
      rw [if_pos hok]
    rw [hs]
    exact rlook_err T R H Re Ca S B A n c w 1 rfl (fun w => by
      have h := refused_any T R H Re Ca S B A n c w
      rwa [if_pos hok] at h)
end Go.Proofs.Ytfbacopjookplaa
