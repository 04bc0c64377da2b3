/- The walk of the document's Same: two contents with the same lists are the same. -/
import Derived.Test.YtfbacopjookplaaPairSort
import Derived.Test.YtfbacopjookplaaFreesLaw
namespace Go.Proofs.Ytfbacopjookplaa
open Go.RowKit

theorem ownP_len {w : World} {B n size : Nat} {e : TypeId} {v : Value} {us : List Value} (h : w.ownsRow B e size v n us) : n ≤ 9223372036854775807 := by
  rcases h.2 with ⟨_, h0⟩ | ⟨g, cap, cur, _, _, _, hc, hmx, _, _⟩
  · omega
  · unfold maxLen at hmx
    omega
theorem pair_at (l : List (Int × Int)) (i : Nat) (x : Int × Int) (h : l[i]? = some x) : ((l.flatMap encPair)[i * 2]? = some (.int .i64 x.1)) ∧ ((l.flatMap encPair)[i * 2 + 1]? = some (.int .i64 x.2)) := by
  have hl := (List.getElem?_eq_some_iff.1 h).1
  have hx : l.toArray[i]! = x := by
    have := (List.getElem?_eq_some_iff.1 h).2
    simp [getElem!_pos, hl, this]
  refine ⟨?_, ?_⟩
  · rw [flatP_get l (i * 2) (by omega), show i * 2 / 2 = i by omega, show i * 2 % 2 = 0 by omega, hx]
    rfl
  · rw [flatP_get l (i * 2 + 1) (by omega), show (i * 2 + 1) / 2 = i by omega, show (i * 2 + 1) % 2 = 1 by omega, hx]
    rfl

set_option maxRecDepth 100000 in
set_option maxHeartbeats 16000000 in
theorem same_any (Q : Cont) (B1 B2 : Nat) (v0 v1 v2 v3 v4 u0 u1 u2 u3 u4 : Value) (w : World)
    (hv0 : w.ownsRow B1 3 1 v0 Q.cell.length (Q.cell.map (Value.int .i64))) (hv1 : w.ownsRow B1 3 1 v1 Q.stack.length (Q.stack.map (Value.int .i64))) (hv2 : w.ownsRow B1 3 1 v2 Q.queue.length (Q.queue.map (Value.int .i64)))
    (hv3 : w.ownsRow B1 3 1 v3 Q.set.length (Q.set.map (Value.int .i64))) (hv4 : w.ownsRow B1 106 2 v4 Q.table.length (Q.table.flatMap encPair))
    (hu0 : w.ownsRow B2 3 1 u0 Q.cell.length (Q.cell.map (Value.int .i64))) (hu1 : w.ownsRow B2 3 1 u1 Q.stack.length (Q.stack.map (Value.int .i64))) (hu2 : w.ownsRow B2 3 1 u2 Q.queue.length (Q.queue.map (Value.int .i64)))
    (hu3 : w.ownsRow B2 3 1 u3 Q.set.length (Q.set.map (Value.int .i64))) (hu4 : w.ownsRow B2 106 2 u4 Q.table.length (Q.table.flatMap encPair)) :
    Calls Try.prog 19 #[.agg (contV v0 v1 v2 v3 v4), .agg (contV u0 u1 u2 u3 u4)] w fun e w' => e = .returned (.bool true) ∧ Ext w w' := by
  obtain ⟨a0, k0, rfl⟩ := own_form hv0
  obtain ⟨a1, k1, rfl⟩ := own_form hv1
  obtain ⟨a2, k2, rfl⟩ := own_form hv2
  obtain ⟨a3, k3, rfl⟩ := own_form hv3
  obtain ⟨a4, k4, rfl⟩ := own_form hv4
  obtain ⟨b0, l0, rfl⟩ := own_form hu0
  obtain ⟨b1, l1, rfl⟩ := own_form hu1
  obtain ⟨b2, l2, rfl⟩ := own_form hu2
  obtain ⟨b3, l3, rfl⟩ := own_form hu3
  obtain ⟨b4, l4, rfl⟩ := own_form hu4
  have S0 := Lib.hid (fun (w' : World) (e : Ext w w') => sameInts_any a0 b0 Q.cell.length k0 l0 Q.cell w' ((Rd.of_own hv0).ext e) ((Rd.of_own hu0).ext e) rfl (ownP_len hv0))
  have S1 := Lib.hid (fun (w' : World) (e : Ext w w') => sameInts_any a1 b1 Q.stack.length k1 l1 Q.stack w' ((Rd.of_own hv1).ext e) ((Rd.of_own hu1).ext e) rfl (ownP_len hv1))
  have S2 := Lib.hid (fun (w' : World) (e : Ext w w') => sameInts_any a2 b2 Q.queue.length k2 l2 Q.queue w' ((Rd.of_own hv2).ext e) ((Rd.of_own hu2).ext e) rfl (ownP_len hv2))
  have S3 := Lib.hid (fun (w' : World) (e : Ext w w') => sameInts_any a3 b3 Q.set.length k3 l3 Q.set w' ((Rd.of_own hv3).ext e) ((Rd.of_own hu3).ext e) rfl (ownP_len hv3))
  have R4 := Lib.hid (Rd.of_own hv4)
  have P4 := Lib.hid (Rd.of_own hu4)
  have hL := ownP_len hv4
  have Hpa := Lib.hid (pair_at Q.table)
  have Hql : Hid (∀ i, i < Q.table.length → ∃ x, Q.table[i]? = some x) := fun i h => ⟨_, List.getElem?_eq_getElem h⟩
  clear hv0 hv1 hv2 hv3 hv4 hu0 hu1 hu2 hu3 hu4
  obtain ⟨n, hn⟩ : ∃ n, Q.table.length = n := ⟨_, rfl⟩
  simp only [hn] at hL Hql
  simp only [hn]
  generalize Q.cell.length = n0 at *
  generalize Q.stack.length = n1 at *
  generalize Q.queue.length = n2 at *
  generalize Q.set.length = n3 at *
  clear hn
  go_enter Try.func19, Try.ntmps19
  go_upto_region 1 with fail
  obtain ⟨w2, hw2, h6, h7, e2, lt2⟩ := enter2 w (.cells (contV (.slice a0 n0 k0) (.slice a1 n1 k1) (.slice a2 n2 k2) (.slice a3 n3 k3) (.slice a4 n k4)) 38) (.cells (contV (.slice b0 n0 l0) (.slice b1 n1 l1) (.slice b2 n2 l2) (.slice b3 n3 l3) (.slice b4 n l4)) 38)
  have hwx := hw2
  unfold contV at hwx
  first | rw [hwx] | rw [hw2]
  have HE := Lib.hid e2
  have x0 : ∀ z : Lat w2, z.world.cell? ⟨w.heap.size, 0, none⟩ = some (.slice a0 n0 k0) := Lat.cells h6 rfl
  have x1 : ∀ z : Lat w2, z.world.cell? ⟨w.heap.size, 1, none⟩ = some (.slice a1 n1 k1) := Lat.cells h6 rfl
  have x2 : ∀ z : Lat w2, z.world.cell? ⟨w.heap.size, 2, none⟩ = some (.slice a2 n2 k2) := Lat.cells h6 rfl
  have x3 : ∀ z : Lat w2, z.world.cell? ⟨w.heap.size, 3, none⟩ = some (.slice a3 n3 k3) := Lat.cells h6 rfl
  have x4 : ∀ z : Lat w2, z.world.cell? ⟨w.heap.size, 4, none⟩ = some (.slice a4 n k4) := Lat.cells h6 rfl
  have y0 : ∀ z : Lat w2, z.world.cell? ⟨w.heap.size + 1, 0, none⟩ = some (.slice b0 n0 l0) := Lat.cells h7 rfl
  have y1 : ∀ z : Lat w2, z.world.cell? ⟨w.heap.size + 1, 1, none⟩ = some (.slice b1 n1 l1) := Lat.cells h7 rfl
  have y2 : ∀ z : Lat w2, z.world.cell? ⟨w.heap.size + 1, 2, none⟩ = some (.slice b2 n2 l2) := Lat.cells h7 rfl
  have y3 : ∀ z : Lat w2, z.world.cell? ⟨w.heap.size + 1, 3, none⟩ = some (.slice b3 n3 l3) := Lat.cells h7 rfl
  have y4 : ∀ z : Lat w2, z.world.cell? ⟨w.heap.size + 1, 4, none⟩ = some (.slice b4 n l4) := Lat.cells h7 rfl
  have T4 := Lib.hid (R4.out.ext e2)
  have V4 := Lib.hid (P4.out.ext e2)
  have hz : ((n : Int) != (n : Int)) = false := by simp
  obtain ⟨kw, hkw⟩ := lat_self w2
  rw [hkw]
  clear hw2 hwx h6 h7 e2 lt2 hkw
  go_wp2_with fail
  refine (S0.out _ (Ext.next HE.out kw.ok)).mono ?_
  rintro e wa ⟨rfl, ea⟩
  obtain ⟨ka, rfl⟩ := lat_next kw ea
  clear ea
  go_wp2_with fail
  refine (S1.out _ (Ext.next HE.out ka.ok)).mono ?_
  rintro e wa ⟨rfl, ea⟩
  obtain ⟨kb, rfl⟩ := lat_next ka ea
  clear ea
  go_wp2_with fail
  refine (S2.out _ (Ext.next HE.out kb.ok)).mono ?_
  rintro e wa ⟨rfl, ea⟩
  obtain ⟨kc, rfl⟩ := lat_next kb ea
  clear ea
  go_wp2_with fail
  refine (S3.out _ (Ext.next HE.out kc.ok)).mono ?_
  rintro e wa ⟨rfl, ea⟩
  obtain ⟨kd, rfl⟩ := lat_next kc ea
  clear ea
  go_wp2_with fail
  go_loopw [5] (fun s5 wr => ∃ (k : Lat w2) (i : Nat), wr = k.world ∧ i ≤ n ∧ s5 = .int .i64 i) (fun s _ => n - (intOf s).toNat)
  case atStart => exact ⟨kd, 0, rfl, by omega, rfl⟩
  case round =>
    obtain ⟨k, i, rfl, hi, rfl⟩ := hrel
    by_cases hlt : i < n
    · obtain ⟨x, hx⟩ := Hql.out i hlt
      obtain ⟨p1, p2⟩ := Hpa.out i x hx
      obtain ⟨b, off, rfl, hb, hc1⟩ := T4.out.lat (j := i * 2) (u := _) p1
      obtain ⟨b', off', hA', _, hc2⟩ := T4.out.lat (j := i * 2 + 1) (u := _) p2
      injection hA' with hA'
      injection hA' with e1 e2
      subst e1 e2
      obtain ⟨d, of, rfl, hd, hd1⟩ := V4.out.lat (j := i * 2) (u := _) p1
      obtain ⟨d', of', hA', _, hd2⟩ := V4.out.lat (j := i * 2 + 1) (u := _) p2
      injection hA' with hA'
      injection hA' with e1 e2
      subst e1 e2
      simp only [← Nat.add_assoc] at hc2 hd2
      have z0 : (0 : Int) ≤ (i : Int) := by omega
      have z1 : (i : Int) < (n : Int) := by omega
      have q1 : (x.1 != x.1) = false := by simp
      have q2 : (x.2 != x.2) = false := by simp
      clear hx p1 p2
      go_wp2_with fail
      refine wp_region_cls (Ext w2) (Ext.drew1 k.ok) (by kernel_rfl) (by kernel_rfl) ?_
      repeat (go_big_quiet_step (fail))
      refine wpQuiet_nil ?_
      rintro _ ⟨k4, rfl⟩
      go_wp2_with fail
      go_roundw
      case rel => exact ⟨k4, i + 1, rfl, by omega, by go_num⟩
      case measure => simp [intOf]; omega
    · obtain rfl : n = i := by omega
      go_wp2_with fail
      go_ret
      exact ⟨rfl, Ext.next HE.out k.ok⟩
end Go.Proofs.Ytfbacopjookplaa
