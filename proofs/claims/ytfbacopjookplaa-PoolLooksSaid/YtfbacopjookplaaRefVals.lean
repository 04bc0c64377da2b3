/- The walk of the document's walker's values. -/
import Derived.Test.YtfbacopjookplaaRefWalk
namespace Go.Proofs.Ytfbacopjookplaa
open Go.RowKit

/-- A slot's word of a region, by the document. -/
theorem rreg_any (T R H Re Ca S B : Int) (hok : Okay T R H Re Ca S B) (A : Option Addr) (n c : Nat) (ws : List Int) (hn : (n : Int) = sumOf R H S B 13) (hws : ∀ x ∈ ws, 0 ≤ x ∧ x ≤ 18446744073709551615)
    (m : Nat) (r : Int) (hr : r = m + 1) (hm : m ≤ 12) (s : Int) (h0 : 0 ≤ s) (h1 : s < manyOf R H S B ((m : Int) + 1)) (b sb : Nat) (seen : List Bool) (bad : Bool) (w : World) (hw : RWalker w T R H Re Ca S B A n c ws b sb seen bad) :
    Calls Try.prog 106 #[.pointer (some ⟨b, 0, none⟩), .int .i64 r, .int .i64 s] w fun e w' => e = .returned (.int .u64 (regOf R H S B ws m s)) ∧ Ext w w' := by
  have hok' := hok
  unfold Okay at hok'
  obtain ⟨_, _, hR, hR', hH, hH', _, _, _, _, hS, hS', hB, hB'⟩ := hok'
  obtain ⟨j, hj, hx, _, _⟩ := reg_at hR hR' hH hH' hS hS' hB hB' hw.wlen hn hws m hm s h0 h1
  exact rat_any T R H Re Ca S B hok A n c ws b sb seen bad w hw m r s hr hm h0 (by rw [hr]; exact h1) j _ hj hx

set_option maxRecDepth 100000 in
set_option maxHeartbeats 4000000 in
theorem rvalues_any (T R H Re Ca S B : Int) (hok : Okay T R H Re Ca S B) (A : Option Addr) (n c : Nat) (ws : List Int) (hn : (n : Int) = sumOf R H S B 13) (hws : ∀ x ∈ ws, 0 ≤ x ∧ x ≤ 18446744073709551615)
    (b sb : Nat) (seen : List Bool) (bad : Bool) (w : World) (hw : RWalker w T R H Re Ca S B A n c ws b sb seen bad)
    (A' : Option Addr) (m c' : Nat) (ls : List Int) (hl : Rd w A' (ls.map (Value.int .i64))) (hm : ls.length = m) (hmb : m ≤ 1024) (hrg : ∀ s ∈ ls, 0 ≤ s ∧ s < S) :
    Calls Try.prog 64 #[.pointer (some ⟨b, 0, none⟩), .slice A' m c'] w fun e w' => ∃ v, e = .returned v ∧
      w'.ownsRow w.heap.size 3 1 v (ls.map fun s => wrap64 (regOf R H S B ws 10 s)).length ((ls.map fun s => wrap64 (regOf R H S B ws 10 s)).map (Value.int .i64)) ∧ Ext w w' := by
  have Hv : Hid (∀ (k : Lat w) (s : Int), 0 ≤ s → s < S → Calls Try.prog 106 #[.pointer (some ⟨b, 0, none⟩), .int .i64 11, .int .i64 s] k.world fun e w' => e = .returned (.int .u64 (regOf R H S B ws 10 s)) ∧ Ext k.world w') :=
    fun k s h0 h1 => rreg_any T R H Re Ca S B hok A n c ws hn hws 10 11 rfl (by omega) s h0 (by simp [manyOf]; exact h1) b sb seen bad k.world (hw.ext k.ok)
  generalize regOf R H S B ws 10 = rv at *
  have Hl := Lib.hid hl
  have Hm := Lib.hid hm
  have Hrg := Lib.hid hrg
  clear hok hn hws hw hl hm hrg
  refine start_lat fun k0 => ?_
  go_enter Try.func64, Try.ntmps64
  go_wp2_with fail
  go_loopw [5, 6] (fun s5 s6 wr => ∃ (k : Lat w) (i : Nat), wr = k.world ∧ i ≤ m ∧ s6 = .int .i64 i ∧ Hid (k.world.ownsRow w.heap.size 3 1 s5 ((ls.take i).map fun s => wrap64 (rv s)).length (((ls.take i).map fun s => wrap64 (rv s)).map (Value.int .i64)))) (fun _ s _ => m - (intOf s).toNat)
  case atStart => exact ⟨k0, 0, rfl, by omega, rfl, World.ownsRow_nil _ _ _ _⟩
  case round =>
    obtain ⟨k, i, rfl, hi, rfl, HO⟩ := hrel
    obtain ⟨L, hL⟩ : ∃ L, ((ls.take i).map fun s => wrap64 (rv s)) = L := ⟨_, rfl⟩
    rw [hL] at HO
    have HL := Lib.hid hL
    have hLl : L.length ≤ 1024 := by
      rw [← hL, List.length_map, List.length_take]
      omega
    clear hL
    obtain ⟨A2, c2, rfl⟩ := own_form HO.out
    by_cases hlt : i < m
    · obtain ⟨xs, hx⟩ : ∃ x, ls[i]? = some x := ⟨_, List.getElem?_eq_getElem (by rw [Hm.out]; exact hlt)⟩
      have hxr := Hrg.out xs (List.mem_of_getElem? hx)
      obtain ⟨bk, ok, rfl, hbk, hck⟩ := Hl.out.lat (j := i) (u := .int .i64 xs) (by simp [hx])
      have Hx := Lib.hid hx
      have Hc := Lib.hid (Hv.out k xs hxr.1 hxr.2)
      have z0 : (0 : Int) ≤ (i : Int) := by omega
      have z1 : (i : Int) < (m : Int) := by omega
      have HOB : Hid (∀ q, some q = (Value.slice A2 L.length c2).ownBlock → w.heap.size ≤ q) := fun q hq => (HO.out.lt q hq.symm).1
      clear hx hxr
      go_wp2_with fail
      refine Hc.out.mono ?_
      rintro e w1 ⟨rfl, e1⟩
      have ho1 := own_ext HO.out e1
      have hbs1 : w.heap.size ≤ w1.heap.size := by
        have h1 := e1.size
        have h2 := k.size
        omega
      obtain ⟨k1, rfl⟩ := lat_next k e1
      clear e1
      go_upto_region 4 with (at_builtin; refine wpList_push _ rfl _ _ 26 rfl w.heap.size 3 1 8 elemInt Try.underlying26 _ _ _ rfl ho1 _ rfl rfl (by simp [Value.oneCell']) (by omega) hbs1 ?_; intro v5 w5 hown5 hgrow5 hat5)
      obtain ⟨k5, rfl⟩ := lat_of (k1.ok.only (Only.of_grown hgrow5) fun q hq => HOB.out q hq)
      have htk : ((ls.take (i + 1)).map fun s => wrap64 (rv s)) = L ++ [wrap64 (rv xs)] := by
        rw [List.take_add_one, Hx.out, ← HL.out]
        simp
      have HO5 : Hid (k5.world.ownsRow w.heap.size 3 1 v5 ((ls.take (i + 1)).map fun s => wrap64 (rv s)).length (((ls.take (i + 1)).map fun s => wrap64 (rv s)).map (Value.int .i64))) := by
        rw [htk]
        refine Lib.hid ?_
        simpa using hown5
      clear hown5 hgrow5 hat5 ho1 htk
      go_wp2_with fail
      go_roundw
      case rel => exact ⟨k5, i + 1, rfl, by omega, by go_num, HO5⟩
      case measure => simp [intOf]; omega
    · obtain rfl : m = i := by omega
      have hLs : L = ls.map fun s => wrap64 (rv s) := by rw [← HL.out, List.take_of_length_le (by rw [Hm.out]; exact Nat.le_refl _)]
      go_wp2_with fail
      go_ret
      exact ⟨_, rfl, by rw [← hLs]; exact HO.out, k.ok⟩
end Go.Proofs.Ytfbacopjookplaa
