/- The library's sort and greatest of integers, laid at this program. -/
import Derived.Test.YtfbacopjookplaaBase
import Derived.Test.YtfbacopjookplaaFacts
import Derived.Test.YtfbacopjookplaaHeld
import Derived.Test.YtfbacopjookplaaSlots
import Derived.Ground.NamesProg
import Derived.Shelf.Lay
import Derived.Shelf.Slices.In.SortAlone
import Derived.Shelf.Slices.In.SortNone
import Derived.Sort.OwnSortedInts
import Derived.Sort.EveryDepth
namespace Go.Proofs
open Go.RowKit Go.Shelf Go.Sort

shelf_lay Lays.n189 Nm 189 at Try as Try.laysSort

end Go.Proofs
namespace Go.Proofs.Ytfbacopjookplaa
open Go.RowKit Go.Shelf Go.Sort
theorem sort_c (blk off cap : Nat) (zs : List Int) (w : World) (hH : Holds (Value.int .i64) w blk off zs.toArray) (hblk : blk < w.heap.size) (hsz : zs.length < 4611686018427387904) :
    Calls Try.prog 130 #[.slice (some ⟨blk, off, none⟩) zs.length cap] w fun e w' =>
      e = .returned (.tuple #[]) ∧ ∃ n os, w' = grow (putRow (Value.int .i64) (Sort.ahead w n) blk off (zs.mergeSort fun x y => decide (x ≤ y)).toArray) os :=
  calls_of_every_depth fun D => AnyS.slices_Sort_int_alone Try.laysSort D blk off cap zs w hH hblk hsz
theorem sort_n (p : Option Addr) (cap : Nat) (w : World) : Calls Try.prog 130 #[.slice p 0 cap] w fun e w' => e = .returned (.tuple #[]) ∧ w' = w :=
  Any.slices_Sort_int_none Try.laysSort p cap w
/-- The sorted list. -/
def sortL (M : List Int) : List Int := M.mergeSort fun x y => decide (x ≤ y)
theorem sortL_len (M : List Int) : (sortL M).length = M.length := List.length_mergeSort _
/-- The call's own slice of integers, sorted. -/
theorem sort_own (B : Nat) (v : Value) (M : List Int) (w : World) (h : w.ownsRow B 3 1 v M.length (M.map (Value.int .i64))) (hM : M.length < 4611686018427387904) :
    Calls Try.prog 130 #[v] w fun e w' => e = .returned (.tuple #[]) ∧ w'.ownsRow B 3 1 v (sortL M).length ((sortL M).map (Value.int .i64)) ∧ Only (fun q => v.ownBlock = some q) w w' := by
  rcases h.2 with ⟨hv, h0⟩ | ⟨g, cap, cur, hv, hb, hg, hc, hmx, hsz, htk⟩
  · have hnil : M = [] := List.eq_nil_of_length_eq_zero h0
    subst hnil
    rw [hv]
    refine (sort_n none 0 w).mono ?_
    rintro e w' ⟨rfl, rfl⟩
    have hs : sortL [] = [] := by simp [sortL]
    rw [hs]
    exact ⟨rfl, World.ownsRow_nil _ _ _ _, Only.refl _ _⟩
  · subst hv
    have hH := holds_of_blockI hg (ss := M) (by rw [Nat.mul_one] at htk; exact htk)
    refine (sort_c g 0 cap M w hH (blk_lt hg) hM).mono ?_
    rintro e w' ⟨rfl, n, os, rfl⟩
    refine ⟨rfl, ?_, ?_⟩
    · rw [sortL_len]
      exact ownsRow_sortedI (sortL_len M) hb hg hc hmx hsz
    · exact (Only.of_grown (grownBy_sortedI (sortL M).toArray)).mono fun q _ hq => hq.symm

/-- The greatest of a list. -/
def maxL (zs : List Int) : Int := zs.foldl mxF 0
theorem mxF_max (a b : Int) : mxF a b = max a b := by
  unfold mxF
  split <;> omega
theorem maxL_snoc (zs : List Int) (x : Int) : maxL (zs ++ [x]) = mxF (maxL zs) x := by simp [maxL]
set_option maxHeartbeats 2000000 in
theorem max_own (B g n c : Nat) (zs : List Int) (w : World) (h : w.ownsRow B 3 1 (.slice (some ⟨g, 0, none⟩) n c) n (zs.map (Value.int .i64))) (hn : 0 < n) (hb : n ≤ 140737488355328) (h0 : ∀ z ∈ zs, 0 ≤ z) :
    Calls Try.prog 131 #[.slice (some ⟨g, 0, none⟩) n c] w fun e w' => e = .returned (.int .i64 (maxL zs)) ∧ Ext w w' := by
  have Hh := Lib.hid h
  have hl := h.1
  rw [List.length_map, Nat.mul_one] at hl
  have Hl := Lib.hid hl
  have H0 := Lib.hid h0
  refine start_lat fun k0 => ?_
  obtain ⟨z0, hz0⟩ : ∃ z, zs[0]? = some z := ⟨_, List.getElem?_eq_getElem (by omega)⟩
  have hp0 : ∀ k : Lat w, k.world.cell? ⟨g, 0, none⟩ = some (.int .i64 z0) := fun k => (((own_ext h k.ok).cellAt 0 (by omega)).trans (by rw [List.getElem?_map, hz0]; rfl))
  have hM1 : Hid (maxL (zs.take 1) = z0) := by
    show _ = _
    have e : zs.take 1 = [z0] := by
      rw [List.take_add_one, hz0]
      rfl
    rw [e]
    show mxF 0 z0 = z0
    have := h0 z0 (List.mem_of_getElem? hz0)
    unfold mxF
    split <;> omega
  have hn0 : (0 : Int) < (n : Int) := by omega
  have hn1 : ¬ (n : Int) < 1 := by omega
  clear h hl h0 hz0
  go_enter Try.func131, Try.ntmps131
  go_wp2_with fail
  go_loopw [3, 4] (fun s3 s4 wr => ∃ (k : Lat w) (i : Nat), wr = k.world ∧ 1 ≤ i ∧ i ≤ n ∧ s4 = .int .i64 i ∧ s3 = .int .i64 (maxL (zs.take i))) (fun _ s_ _ => n - (intOf s_).toNat)
  case atStart => exact ⟨k0, 1, rfl, by omega, by omega, rfl, by rw [hM1.out]⟩
  case round =>
    clear hp0
    obtain ⟨k, i, rfl, hi1, hi, rfl, rfl⟩ := hrel
    by_cases hlt : i < n
    · obtain ⟨x, hx⟩ : ∃ z, zs[i]? = some z := ⟨_, List.getElem?_eq_getElem (by rw [Hl.out]; exact hlt)⟩
      have z1 : (i : Int) < (n : Int) := by omega
      have zz : (0 : Int) ≤ (i : Int) := by omega
      have p : ∀ k : Lat w, k.world.cell? ⟨g, i, none⟩ = some (.int .i64 x) := fun k => (((own_ext Hh.out k.ok).cellAt i (by have := Hl.out; omega)).trans (by rw [List.getElem?_map, hx]; rfl))
      have Hs : Hid (maxL (zs.take (i + 1)) = mxF (maxL (zs.take i)) x) := by
        show _ = _
        rw [List.take_add_one, hx]
        exact maxL_snoc _ _
      generalize maxL (zs.take i) = m at *
      clear hx
      go_wp2_with fail
      go_roundw
      case rel => exact ⟨k, i + 1, rfl, by omega, by omega, by go_num, by rw [Hs.out, mxF_max]⟩
      case measure => simp [intOf]; omega
    · obtain rfl : n = i := by omega
      have e1 : maxL (zs.take n) = maxL zs := by rw [List.take_of_length_le (by rw [Hl.out]; exact Nat.le_refl _)]
      rw [e1]
      go_wp2_with fail
      go_ret
      exact ⟨rfl, k.ok⟩
end Go.Proofs.Ytfbacopjookplaa
