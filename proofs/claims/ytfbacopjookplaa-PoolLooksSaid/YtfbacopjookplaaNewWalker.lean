/- The walk of newWalker: a walker is made where the configuration may be and the words are as many as it says. -/
import Derived.Test.YtfbacopjookplaaWalker
namespace Go.Proofs.Ytfbacopjookplaa
open Go.RowKit

theorem zeroBool : (Try.prog.info? 4).map (fun i => (i.zero, i.size, i.bytes)) = some (some (.bool false), 1, 1) := by kernel_rfl
set_option maxHeartbeats 1000000 in
theorem newWalker_any (T R H Re Ca S B : Int) (hok : Okay T R H Re Ca S B) (A : Option Addr) (n c : Nat) (ws : List Int) (w : World) (hr : Rd w A (ws.map (Value.int .u64))) (hl : ws.length = n) (hn : (n : Int) = sumOf R H S B 13) :
    Calls Try.prog 45 #[(.agg #[.int .i64 T, .int .i64 R, .int .i64 H, .int .i64 Re, .int .i64 Ca, .int .i64 S, .int .i64 B]), .slice A n c] w fun e w' => ∃ b sb, e = .returned (.tuple #[.pointer (some ⟨b, 0, none⟩), .int .i64 0]) ∧ Walker w' T R H Re Ca S B A n c ws b sb (List.replicate S.toNat false) false ∧ w.heap.size ≤ b ∧ w.heap.size ≤ sb ∧ Ext w w' := by
  have hok' := hok
  unfold Okay at hok'
  obtain ⟨_, _, hR, hR', hH, hH', _, _, _, _, hS, hS', hB, hB'⟩ := hok'
  have Hok := Lib.hid hok
  have Hn := Lib.hid hn
  have Hr := Lib.hid hr
  have Hl := Lib.hid hl
  have hmk := fun W => run_make1 zeroBool rfl Try.underlying107 S (by omega) (by omega) (by omega) W
  clear hok hn hr hl
  go_enter Try.func45, Try.ntmps45
  go_wp2_with fail
  obtain ⟨w0, hw0, hX, hE, hlt⟩ := enter1 w (.cells (cfgV T R H Re Ca S B) 23)
  rw [hw0]
  have HX := Lib.hid hX
  obtain ⟨c0, c1, c2, c3, c4, c5, c6⟩ := Lat.cfg hX
  have n0 := Lat.lt (b := w.heap.size) hlt
  clear hw0 hX
  have HE := Lib.hid hE
  clear hE
  refine (size_any T R H Re Ca S B _).mono ?_
  rintro e w1 ⟨rfl, e1⟩
  rw [if_pos Hok.out, ← Hn.out]
  obtain ⟨k1, rfl⟩ := lat_of e1
  clear e1
  go_wp2_with fail
  go_region
  go_wp2_with fail
  go_ret2
  obtain ⟨w2, h2, hM, hO, hE2, hlt2⟩ := enter2 k1.world (.cells (repl S.toNat (.bool false)) 4) (.cells #[.int .i64 T, .int .i64 R, .int .i64 H, .int .i64 Re, .int .i64 Ca, .int .i64 S, .int .i64 B, .slice A n c, .slice (some ⟨k1.world.heap.size, 0, none⟩) S.toNat S.toNat, .bool false] 109)
  rw [h2]
  have hx : Ext w w2 := Ext.next (Ext.next HE.out k1.ok) hE2
  have hsz := (Ext.next HE.out k1.ok).size
  refine ⟨_, _, rfl, (Walker.mk hO ?_ (by simp) (Hr.out.ext hx) Hl.out (by omega) : Walker w2 _ _ _ _ _ _ _ _ _ _ _ _ _ _ _).ext (Ext.drawn w2 1), by omega, by omega, hx.drew1⟩
  rw [hM]
  simp [repl]

theorem newWalker_config (T R H Re Ca S B : Int) (hok : ¬ Okay T R H Re Ca S B) (A : Option Addr) (n c : Nat) (w : World) :
    Calls Try.prog 45 #[(.agg #[.int .i64 T, .int .i64 R, .int .i64 H, .int .i64 Re, .int .i64 Ca, .int .i64 S, .int .i64 B]), .slice A n c] w fun e w' => e = .returned (.tuple #[.pointer none, .int .i64 1]) ∧ Ext w w' := by
  have Hok := Lib.hid hok
  clear hok
  go_enter Try.func45, Try.ntmps45
  go_wp2_with fail
  refine (size_any T R H Re Ca S B _).mono ?_
  rintro e w1 ⟨rfl, e1⟩
  rw [if_neg Hok.out]
  have E1 := Lib.hid (Ext.next ((Ext.rfl' w).alloc1 _) e1)
  clear e1
  go_wp2_with fail
  go_ret2
  exact ⟨rfl, E1.out⟩

theorem newWalker_range (T R H Re Ca S B : Int) (hok : Okay T R H Re Ca S B) (A : Option Addr) (n c : Nat) (hn : (n : Int) ≠ sumOf R H S B 13) (w : World) :
    Calls Try.prog 45 #[(.agg #[.int .i64 T, .int .i64 R, .int .i64 H, .int .i64 Re, .int .i64 Ca, .int .i64 S, .int .i64 B]), .slice A n c] w fun e w' => e = .returned (.tuple #[.pointer none, .int .i64 2]) ∧ Ext w w' := by
  have Hok := Lib.hid hok
  have hb : ((n : Int) != sumOf R H S B 13) = true := by simpa using hn
  generalize hX : sumOf R H S B 13 = X at hb
  have HX := Lib.hid hX
  clear hok hn hX
  go_enter Try.func45, Try.ntmps45
  go_wp2_with fail
  refine (size_any T R H Re Ca S B _).mono ?_
  rintro e w1 ⟨rfl, e1⟩
  rw [if_pos Hok.out, HX.out]
  have E1 := Lib.hid (Ext.next ((Ext.rfl' w).alloc1 _) e1)
  clear e1
  go_wp2_with fail
  go_ret2
  exact ⟨rfl, E1.out⟩

end Go.Proofs.Ytfbacopjookplaa
