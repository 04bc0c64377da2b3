/- The walks of word.Value, a slot's value, table.Bucket, the maker of a chain. -/
import Derived.Test.YtfbacopjookplaaChain
namespace Go.Proofs.Ytfbacopjookplaa
open Go.RowKit

theorem wordValue_any (x : Int) (w : World) : Calls Try.prog 56 #[.int .u64 x] w fun e w' => e = .returned (.int .i64 (wrap64 x)) ∧ w' = w := by
  go_enter Try.func56, Try.ntmps56
  go_wp2_with fail
  go_ret
  exact ⟨rfl, rfl⟩
/-- The bucket of a key. -/
def bkt (B k : Int) : Int := k % 18446744073709551616 % B
theorem bkt_walk {B : Int} (hB : 1 ≤ B) (hB' : B ≤ 64) (k : Int) : wrap64 ((IntKind.u64.wrap k).tmod B) = bkt B k := by
  have e : IntKind.u64.wrap k = k % 18446744073709551616 := by
    unfold IntKind.wrap
    simp [IntKind.signed, IntKind.bits]
  have h0 : 0 ≤ k % 18446744073709551616 := Int.emod_nonneg _ (by omega)
  have h1 := Int.emod_nonneg (k % 18446744073709551616) (show B ≠ 0 by omega)
  have h2 := Int.emod_lt_of_pos (k % 18446744073709551616) (show 0 < B by omega)
  unfold bkt
  rw [e, Int.tmod_eq_emod_of_nonneg h0, IntWalk.wrap64_in _ (by omega)]
theorem bucket_any (T R H Re Ca S B : Int) (hok : Okay T R H Re Ca S B) (k : Int) (w : World) :
    Calls Try.prog 101 #[(.agg #[.int .i64 T, .int .i64 R, .int .i64 H, .int .i64 Re, .int .i64 Ca, .int .i64 S, .int .i64 B]), .int .i64 k] w fun e w' => e = .returned (.tuple #[.int .i64 (bkt B k), .int .i64 0]) ∧ Ext w w' := by
  have hok' := hok
  unfold Okay at hok'
  obtain ⟨_, _, hR, hR', hH, hH', _, _, _, _, hS, hS', hB, hB'⟩ := hok'
  go_enter Try.func101, Try.ntmps101
  go_wp2_with fail
  obtain ⟨w0, hw0, hC, hE, hlt⟩ := enter1 w (.cells (cfgV T R H Re Ca S B) 23)
  rw [hw0]
  have HE := Lib.hid hE
  have HOk := Lib.hid hok
  obtain ⟨c0, c1, c2, c3, c4, c5, c6⟩ := Lat.cfg hC
  clear hw0 hC hE hok
  refine (check_any T R H Re Ca S B _).mono ?_
  rintro e w1 ⟨rfl, e1⟩
  rw [if_pos HOk.out]
  obtain ⟨k1, rfl⟩ := lat_of e1
  clear e1
  go_wp2_with fail
  go_ret2
  exact ⟨by rw [← bkt_walk hB hB' k]; rfl, Ext.next HE.out k1.ok⟩

theorem value_any (T R H Re Ca S B : Int) (hok : Okay T R H Re Ca S B) (A : Option Addr) (n c : Nat) (ws : List Int) (hn : (n : Int) = sumOf R H S B 13) (hws : ∀ x ∈ ws, 0 ≤ x ∧ x ≤ 18446744073709551615)
    (b sb : Nat) (seen : List Bool) (bad : Bool) (w : World) (hw : Walker w T R H Re Ca S B A n c ws b sb seen bad) (s : Int) (h0 : 0 ≤ s) (h1 : s < S) :
    Calls Try.prog 52 #[.pointer (some ⟨b, 0, none⟩), .int .i64 s] w fun e w' => e = .returned (.int .i64 (wrap64 (regOf R H S B ws 10 s))) ∧ Ext w w' := by
  have hok' := hok
  unfold Okay at hok'
  obtain ⟨_, _, hR, hR', hH, hH', _, _, _, _, hS, hS', hB, hB'⟩ := hok'
  obtain ⟨j, hj, hjx, hxa, hxb⟩ := reg_at hR hR' hH hH' hS hS' hB hB' hw.wlen hn hws 10 (by omega) s h0 (by simp [manyOf]; exact h1)
  have Hat := Lib.hid (at_any T R H Re Ca S B hok A n c ws b sb seen bad w hw 10 11 s rfl (by omega) h0 (by simp [manyOf]; exact h1) (by omega) j _ hj hjx)
  generalize regOf R H S B ws 10 s = x at *
  clear hok hn hws hw hj hjx
  go_enter Try.func52, Try.ntmps52
  go_wp2_with fail
  refine Hat.out.mono ?_
  rintro e w1 ⟨rfl, e1⟩
  have E1 := Lib.hid e1
  clear e1
  go_wp2_with fail
  refine (wordValue_any x _).mono ?_
  rintro e w2 ⟨rfl, rfl⟩
  go_wp2_with fail
  go_ret
  exact ⟨rfl, E1.out⟩

theorem chain_any (b : Nat) (x : Int) (mk : Bool) (w : World) :
    Calls Try.prog 53 #[.pointer (some ⟨b, 0, none⟩), .int .u64 x, .bool mk] w fun e w' => ∃ p1 p2 p3, e = .returned (.func (.func 100) #[] #[.pointer (some ⟨p1, 0, none⟩), .pointer (some ⟨p2, 0, none⟩), .pointer (some ⟨p3, 0, none⟩)]) ∧
      Boxes w' b x mk p1 p2 p3 ∧ w.heap.size ≤ p1 ∧ w.heap.size ≤ p2 ∧ w.heap.size ≤ p3 ∧ Ext w w' := by
  go_enter Try.func53, Try.ntmps53
  go_wp2_with fail
  go_ret
  obtain ⟨w2, h2, hp1, hp2, hE, hlt⟩ := enter2 w (.cells #[.pointer (some ⟨b, 0, none⟩)] 84) (.cells #[.int .u64 x] 25)
  have hs : w2.heap.size = w.heap.size + 1 + 1 := by rw [← h2]; simp
  rw [h2]
  obtain ⟨w3, h3, hp3, hE3, hlt3⟩ := enter1 w2 (.cells #[.bool mk] 4)
  rw [h3]
  rw [hs] at hp3
  exact ⟨_, _, _, rfl, ⟨ext_blk hE3 hp1, ext_blk hE3 hp2, hp3⟩, by omega, by omega, by omega, Ext.next hE hE3⟩

end Go.Proofs.Ytfbacopjookplaa
