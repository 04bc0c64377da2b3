/- The walks of the pool's walker: a place's word, a slot that comes, a plain link. -/
import Derived.Test.YtfbacopjookplaaPlace
import Derived.Test.YtfbacopjookplaaLinks
namespace Go.Proofs.Ytfbacopjookplaa
open Go.RowKit

/-- The pool's walker in memory: its struct at b, its marks at sb; the words that it looks at. -/
structure Walker (w : World) (T R H Re Ca S B : Int) (A : Option Addr) (n c : Nat) (ws : List Int) (b sb : Nat) (seen : List Bool) (bad : Bool) : Prop where
  blk : w.heap[b]? = some (.cells #[.int .i64 T, .int .i64 R, .int .i64 H, .int .i64 Re, .int .i64 Ca, .int .i64 S, .int .i64 B, .slice A n c, .slice (some ⟨sb, 0, none⟩) S.toNat S.toNat, .bool bad] 109 (0, 0))
  marks : w.heap[sb]? = some (.cells (seen.map Value.bool).toArray 4 (0, 0))
  len : seen.length = S.toNat
  words : Rd w A (ws.map (Value.int .u64))
  wlen : ws.length = n
  ne : b ≠ sb

section
variable {w w' : World} {T R H Re Ca S B : Int} {A : Option Addr} {n c : Nat} {ws : List Int} {b sb : Nat} {seen : List Bool} {bad : Bool}
theorem Walker.ext (h : Walker w T R H Re Ca S B A n c ws b sb seen bad) (e : Ext w w') : Walker w' T R H Re Ca S B A n c ws b sb seen bad :=
  ⟨ext_blk e h.blk, ext_blk e h.marks, h.len, h.words.ext e, h.wlen, h.ne⟩
theorem Walker.cells (h : Walker w T R H Re Ca S B A n c ws b sb seen bad) :
    (∀ k : Lat w, k.world.cell? ⟨b, 0, none⟩ = some (.int .i64 T)) ∧ (∀ k : Lat w, k.world.cell? ⟨b, 1, none⟩ = some (.int .i64 R)) ∧ (∀ k : Lat w, k.world.cell? ⟨b, 2, none⟩ = some (.int .i64 H)) ∧
    (∀ k : Lat w, k.world.cell? ⟨b, 3, none⟩ = some (.int .i64 Re)) ∧ (∀ k : Lat w, k.world.cell? ⟨b, 4, none⟩ = some (.int .i64 Ca)) ∧ (∀ k : Lat w, k.world.cell? ⟨b, 5, none⟩ = some (.int .i64 S)) ∧ (∀ k : Lat w, k.world.cell? ⟨b, 6, none⟩ = some (.int .i64 B)) ∧
    (∀ k : Lat w, k.world.cell? ⟨b, 7, none⟩ = some (.slice A n c)) ∧ (∀ k : Lat w, k.world.cell? ⟨b, 8, none⟩ = some (.slice (some ⟨sb, 0, none⟩) S.toNat S.toNat)) ∧ (∀ k : Lat w, k.world.cell? ⟨b, 9, none⟩ = some (.bool bad)) :=
  ⟨Lat.cells h.blk rfl, Lat.cells h.blk rfl, Lat.cells h.blk rfl, Lat.cells h.blk rfl, Lat.cells h.blk rfl, Lat.cells h.blk rfl, Lat.cells h.blk rfl, Lat.cells h.blk rfl, Lat.cells h.blk rfl, Lat.cells h.blk rfl⟩
theorem Walker.seen_at (h : Walker w T R H Re Ca S B A n c ws b sb seen bad) {s : Nat} {x : Bool} (hs : seen[s]? = some x) : ∀ k : Lat w, k.world.cell? ⟨sb, s, none⟩ = some (.bool x) :=
  Lat.cells h.marks (by simp [hs])
theorem Walker.lt (h : Walker w T R H Re Ca S B A n c ws b sb seen bad) : b < w.heap.size ∧ sb < w.heap.size := ⟨blk_lt h.blk, blk_lt h.marks⟩
end

/-- A cell that a slice reads, in every later world. -/
theorem Rd.lat {w : World} {A : Option Addr} {us : List Value} (h : Rd w A us) {j : Nat} {u : Value} (hj : us[j]? = some u) :
    ∃ b off, A = some ⟨b, off, none⟩ ∧ b < w.heap.size ∧ ∀ k : Lat w, k.world.cell? ⟨b, off + j, none⟩ = some u := by
  obtain ⟨b, off, hA, hb, hc⟩ := h (by intro e; subst e; simp at hj)
  exact ⟨b, off, hA, hb, fun k => ((h.ext k.ok) (by intro e; subst e; simp at hj)).elim fun b' h' => by
    obtain ⟨off', hA', _, hc'⟩ := h'
    rw [hA] at hA'
    injection hA' with hA'
    injection hA' with h1 h2
    subst h1 h2
    exact hc' j u hj⟩

set_option maxHeartbeats 1000000 in
theorem at_any (T R H Re Ca S B : Int) (hok : Okay T R H Re Ca S B) (A : Option Addr) (n c : Nat) (ws : List Int) (b sb : Nat) (seen : List Bool) (bad : Bool) (w : World) (hw : Walker w T R H Re Ca S B A n c ws b sb seen bad)
    (m : Nat) (r i : Int) (hr : r = m + 1) (hm : m ≤ 12) (h0 : 0 ≤ i) (h1 : i < manyOf R H S B r) (h9 : r = 9 → i = 0) (j : Nat) (x : Int) (hj : sumOf R H S B m + i = j) (hx : ws[j]? = some x) :
    Calls Try.prog 47 #[.pointer (some ⟨b, 0, none⟩), .int .i64 r, .int .i64 i] w fun e w' => e = .returned (.int .u64 x) ∧ Ext w w' := by
  obtain ⟨c0, c1, c2, c3, c4, c5, c6, c7, c8, c9⟩ := hw.cells
  obtain ⟨bw, off, rfl, hbw, hcw⟩ := hw.words.lat (j := j) (u := .int .u64 x) (by simp [hx])
  have hjn : j < n := by rw [← hw.wlen]; exact (List.getElem?_eq_some_iff.1 hx).1
  have Hw := Lib.hid hw
  have Hj := Lib.hid hj
  have Hx := Lib.hid hx
  have hca := addr_any T R H Re Ca S B hok m r i hr hm h0 h1 h9
  rw [hj] at hca
  have Ha := Lib.hid hca
  have hlt := Lat.lt (w0 := w) hw.lt.1
  clear hw hj hx hca h9 hr
  refine start_lat fun k0 => ?_
  go_enter Try.func47, Try.ntmps47
  go_wp2_with fail

  refine (Ha.out _).mono ?_
  rintro e w1 ⟨rfl, e1⟩
  obtain ⟨k1, rfl⟩ := lat_next k0 e1
  clear e1

  go_wp2_with fail
  go_ret
  exact ⟨rfl, k1.ok⟩

/-- A slot that comes: its number, whether it may, the marks behind it. -/
def newF (S : Int) (seen : List Bool) (s : Int) : Int × Bool × List Bool := if s < 0 then (s, true, seen) else if s < S ∧ seen[s.toNat]? = some false then (s, true, seen.set s.toNat true) else (0, false, seen)

theorem Walker.mark {w : World} {T R H Re Ca S B : Int} {A : Option Addr} {n c : Nat} {ws : List Int} {b sb : Nat} {seen : List Bool} {bad : Bool} (h : Walker w T R H Re Ca S B A n c ws b sb seen bad) (k : Nat)
    (hA : ∀ bw off, A = some ⟨bw, off, none⟩ → bw ≠ sb) : Walker (w.setCell ⟨sb, k, none⟩ (.bool true)) T R H Re Ca S B A n c ws b sb (seen.set k true) bad := by
  refine ⟨?_, ?_, by rw [List.length_set]; exact h.len, ?_, h.wlen, h.ne⟩
  · rw [Below.heap_setCell _ _ _ _ (by exact h.ne)]; exact h.blk
  · rw [heap_setCell_same _ _ _ _ _ _ h.marks, List.map_set]
    simp
  · intro hne
    obtain ⟨bw, off, hA', hb, hc⟩ := h.words hne
    refine ⟨bw, off, hA', by simpa using hb, fun j u hu => ?_⟩
    rw [World.cell?_of_block (Below.heap_setCell _ _ _ _ (by exact hA _ _ hA'))]
    exact hc j u hu

set_option maxHeartbeats 1000000 in
theorem new_any (T R H Re Ca S B : Int) (hS : 1 ≤ S) (hS' : S ≤ 1024) (A : Option Addr) (n c : Nat) (ws : List Int) (b sb : Nat) (seen : List Bool) (bad : Bool) (w : World) (hw : Walker w T R H Re Ca S B A n c ws b sb seen bad)
    (hA : ∀ bw off, A = some ⟨bw, off, none⟩ → bw ≠ sb) (s : Int) :
    Calls Try.prog 48 #[.pointer (some ⟨b, 0, none⟩), .int .i64 s] w fun e w' => e = .returned (.tuple #[.int .i64 (newF S seen s).1, .bool (newF S seen s).2.1]) ∧ Walker w' T R H Re Ca S B A n c ws b sb (newF S seen s).2.2 bad ∧ Only (fun q => q = sb) w w' := by
  obtain ⟨c0, c1, c2, c3, c4, c5, c6, c7, c8, c9⟩ := hw.cells
  have Hw := Lib.hid hw
  have HA := Lib.hid hA
  have hlen := hw.len
  by_cases h0 : s < 0
  · have HF : Hid (newF S seen s = (s, true, seen)) := if_pos h0
    clear hw hA hlen
    refine start_lat fun k0 => ?_
    go_enter Try.func48, Try.ntmps48
    go_wp2_with fail
    go_ret2
    rw [HF.out]
    exact ⟨rfl, Hw.out.ext k0.ok, Only.of_ext k0.ok⟩
  · obtain ⟨k, rfl⟩ : ∃ k : Nat, s = k := ⟨s.toNat, by omega⟩
    by_cases h1 : (k : Int) < S
    · have hkl : k < seen.length := by omega
      obtain ⟨x, hx⟩ : ∃ x, seen[k]? = some x := ⟨_, List.getElem?_eq_getElem hkl⟩
      have hs := hw.seen_at hx
      have hfr := Lat.free hw.marks k
      have hb1 : (0 : Int) ≤ (k : Int) := by omega
      have hb2 : (k : Int) < (S.toNat : Int) := by omega
      have hb3 : k < S.toNat := by omega
      cases x with
      | true =>
        have HF : Hid (newF S seen k = (0, false, seen)) := by
          show _ = _
          unfold newF
          rw [if_neg h0, if_neg (by rw [Int.toNat_natCast, hx]; simp)]
        clear hw hA hlen hx h0
        refine start_lat fun k0 => ?_
        go_enter Try.func48, Try.ntmps48
        go_wp2_with fail
        go_ret2
        rw [HF.out]
        exact ⟨rfl, Hw.out.ext k0.ok, Only.of_ext k0.ok⟩
      | false =>
        have HF : Hid (newF S seen k = ((k : Int), true, seen.set k true)) := by
          show _ = _
          unfold newF
          rw [if_neg h0, if_pos ⟨h1, by rw [Int.toNat_natCast, hx]⟩, Int.toNat_natCast]
        clear hw hA hlen hx h0
        refine start_lat fun k0 => ?_
        go_enter Try.func48, Try.ntmps48
        go_wp2_with fail
        go_ret2
        rw [HF.out]
        exact ⟨rfl, (Hw.out.ext k0.ok).mark k HA.out, (Only.of_ext k0.ok).setCell _ _ fun _ => rfl⟩
    · have HF : Hid (newF S seen k = (0, false, seen)) := by
        show _ = _
        unfold newF
        rw [if_neg h0, if_neg (fun h => h1 h.1)]
      clear hw hA hlen h0
      refine start_lat fun k0 => ?_
      go_enter Try.func48, Try.ntmps48
      go_wp2_with fail
      go_ret2
      rw [HF.out]
      exact ⟨rfl, Hw.out.ext k0.ok, Only.of_ext k0.ok⟩

/-- A word that comes as a plain link. -/
def plainF (S : Int) (seen : List Bool) (x : Int) : Int × Bool × List Bool := if x ≤ 2147483647 then newF S seen (x - 1) else (0, false, seen)

set_option maxHeartbeats 1000000 in
theorem plain_any (T R H Re Ca S B : Int) (hS : 1 ≤ S) (hS' : S ≤ 1024) (A : Option Addr) (n c : Nat) (ws : List Int) (b sb : Nat) (seen : List Bool) (bad : Bool) (w : World) (hw : Walker w T R H Re Ca S B A n c ws b sb seen bad)
    (hA : ∀ bw off, A = some ⟨bw, off, none⟩ → bw ≠ sb) (x : Int) (hx0 : 0 ≤ x) (hx1 : x ≤ 18446744073709551615) :
    Calls Try.prog 49 #[.pointer (some ⟨b, 0, none⟩), .int .u64 x] w fun e w' => e = .returned (.tuple #[.int .i64 (plainF S seen x).1, .bool (plainF S seen x).2.1]) ∧ Walker w' T R H Re Ca S B A n c ws b sb (plainF S seen x).2.2 bad ∧ Only (fun q => q = sb) w w' := by
  have Hw := Lib.hid hw
  have HA := Lib.hid hA
  clear hw hA
  have Hn := Lib.hid (fun s => new_any T R H Re Ca S B hS hS' A n c ws b sb seen bad w Hw.out HA.out s)
  have Hu := Lib.hid (unlink_any x w hx0 hx1)
  by_cases h0 : x ≤ 2147483647
  · have HF : Hid (plainF S seen x = newF S seen (x - 1)) := if_pos h0
    have HU : Hid (unlinked x = .tuple #[.int .i64 (x - 1), .bool false, .int .i64 0]) := by
      show _ = _
      unfold unlinked
      rw [if_pos (by omega), show x % 4294967296 = x from by omega, show decide (4294967296 ≤ x) = false from by simp; omega]
    go_enter Try.func49, Try.ntmps49
    go_wp2_with fail
    refine Hu.out.mono ?_
    rintro e w1 ⟨rfl, rfl⟩
    rw [HU.out]
    go_wp2_with fail
    refine (Hn.out _).mono ?_
    rintro e w2 ⟨rfl, e2⟩
    have E2 := Lib.hid e2
    clear e2
    go_wp2_with fail
    go_ret2
    rw [HF.out]
    exact ⟨rfl, E2.out⟩
  · have HF : Hid (plainF S seen x = (0, false, seen)) := if_neg h0
    have HU : Hid ((∃ s, unlinked x = .tuple #[.int .i64 s, .bool true, .int .i64 0]) ∨ unlinked x = .tuple #[.int .i64 0, .bool false, .int .i64 10]) := by
      show _ ∨ _
      unfold unlinked
      by_cases h1 : x < 8589934592 ∧ x % 4294967296 ≤ 2147483647
      · rw [if_pos h1]
        exact .inl ⟨_, by rw [show decide (4294967296 ≤ x) = true from by simp; omega]⟩
      · rw [if_neg h1]
        exact .inr rfl
    rcases HU.out with ⟨s, hu⟩ | hu
    all_goals
      have HU2 := Lib.hid hu
      clear hu
      go_enter Try.func49, Try.ntmps49
      go_wp2_with fail
      refine Hu.out.mono ?_
      rintro e w1 ⟨rfl, rfl⟩
      rw [HU2.out]
      go_wp2_with fail
      go_ret2
      rw [HF.out]
      exact ⟨rfl, Hw.out, Only.refl _ _⟩

end Go.Proofs.Ytfbacopjookplaa
