/- The library's sort of pairs by a closure, laid at this program. -/
import Derived.Test.YtfbacopjookplaaLookS
import Derived.Shelf.Lay
import Derived.Shelf.SlSortCmp.WholeK
import Derived.Shelf.SlSortCmp.NoneTotal
import Derived.Ground.SlsfProg
import Derived.Sort.OwnSortedInts
namespace Go.Proofs
open Go.RowKit Go.Shelf Go.Lib Go.Sort
shelf_lay_g SlLaysF0.n6 Slsf 6 at Try 57 as Try.sortPairs
end Go.Proofs
namespace Go.Proofs.Ytfbacopjookplaa
open Go.RowKit Go.Shelf Go.Lib Go.Sort

/-- A pair's cells. -/
def encPair (x : Int × Int) : List Value := [.int .i64 x.1, .int .i64 x.2]
theorem flatP_get : ∀ (l : List (Int × Int)) (t : Nat), t < l.length * 2 → (l.flatMap encPair)[t]? = some ((encPair (l.toArray[t / 2]!))[t % 2]!)
  | [], t, h => by simp at h
  | x :: l, 0, _ => rfl
  | x :: l, 1, _ => rfl
  | x :: l, t + 2, h => by
    have h1 : (t + 2) / 2 = t / 2 + 1 := by omega
    have h2 : (t + 2) % 2 = t % 2 := by omega
    have hl : t / 2 < l.length := by simp at h; omega
    have ih := flatP_get l t (by simp at h; omega)
    rw [h1, h2]
    show (encPair x ++ l.flatMap encPair)[t + 2]? = _
    rw [List.getElem?_append_right (by simp [encPair])]
    show (l.flatMap encPair)[t + 2 - 2]? = _
    rw [Nat.add_sub_cancel, ih]
    simp [getElem!_pos, hl]
theorem flatP_len (l : List (Int × Int)) : (l.flatMap encPair).length = l.length * 2 := by
  induction l with
  | nil => rfl
  | cons x l ih => simp [encPair] at ih ⊢; omega
theorem flatK_list (l : List (Int × Int)) : (flatK encPair 2 l.toArray).toList = l.flatMap encPair := by
  apply List.ext_getElem?
  intro t
  by_cases h : t < l.length * 2
  · rw [flatP_get l t h]
    simp [flatK, h]
  · rw [List.getElem?_eq_none (by simp; omega), List.getElem?_eq_none (by rw [flatP_len]; omega)]
theorem heap_sortedV {w : World} {g n : Nat} {os : Array Obj} {cur : Array Value} {e : TypeId} {fr : Nat × Nat} (d : Array Value) (hb : w.heap[g]? = some (.cells cur e fr)) :
    (grow (putRow id (Sort.ahead w n) g 0 d) os).heap[g]? = some (.cells (putCells id 0 d cur) e fr) := by
  have hg : g < w.heap.size := (Array.getElem?_eq_some_iff.1 hb).1
  rw [heap_grow_old _ _ (by simpa using hg)]
  simp [putRow, mapBlock, Sort.ahead, Array.getElem?_modify, hb, onCells]
theorem grownBy_sortedV {w : World} {g n : Nat} {os : Array Obj} (d : Array Value) : w.grownBy (grow (putRow id (Sort.ahead w n) g 0 d) os) (some g) := by
  refine ⟨rfl, rfl, rfl, by simp, fun k hk hne => ?_⟩
  rw [heap_grow_old _ _ (by simpa using hk)]
  have : g ≠ k := fun e => hne (by rw [e])
  simp [putRow, mapBlock, Sort.ahead, Array.getElem?_modify, this]
theorem take_putCellsV (cur : Array Value) (ts : List Value) (h : ts.length ≤ cur.size) : (putCells id 0 ts.toArray cur).toList.take ts.length = ts := by
  apply List.ext_getElem?
  intro j
  by_cases hj : j < ts.length
  · rw [List.getElem?_take_of_lt hj, Array.getElem?_toList]
    simp [putCells, hj, show j < cur.size by omega]
  · rw [List.getElem?_take_eq_none (by omega), List.getElem?_eq_none (by omega)]
theorem holdsK_own {w : World} {g : Nat} {cur : Array Value} {e : TypeId} {l : List (Int × Int)} (hb : w.heap[g]? = some (.cells cur e (0, 0))) (ht : cur.toList.take (l.length * 2) = l.flatMap encPair) : HoldsK encPair 2 w g 0 l.toArray := by
  intro j hj
  have hj' : j < l.length * 2 := by simpa using hj
  refine ⟨?_, by simp [World.frozen?, hb]⟩
  have h1 : (cur.toList.take (l.length * 2))[j]? = (l.flatMap encPair)[j]? := by rw [ht]
  rw [List.getElem?_take_of_lt hj', ← flatK_list] at h1
  simp only [World.cell?, hb, Nat.zero_add]
  simp only [Option.isSome_none, Bool.false_eq_true, if_false]
  rw [← Array.getElem?_toList, h1, Array.getElem?_toList]
  have : (flatK encPair 2 l.toArray).size = l.length * 2 := by simp
  simp [getElem!_pos, hj']

/-- The closure's order. -/
def cfP (x y : Int × Int) : Int := Lib.compareInt x.1 y.1
theorem ltP (x y : Int × Int) : ltOf cfP x y = decide (x.1 < y.1) := by
  unfold ltOf cfP Lib.compareInt
  by_cases h1 : x.1 < y.1
  · simp [h1]
  · by_cases h2 : y.1 < x.1 <;> simp [h1, h2]
theorem swoP : SWO (ltOf cfP) where
  irrefl x := by rw [ltP]; simp
  trans x y z h1 h2 := by rw [ltP] at *; simp at *; omega
  ntrans x y z h1 h2 := by rw [ltP] at *; simp at *; omega
theorem isNaN_c (x : Int) (W : World) : Calls Try.prog 104 #[.int .i64 x] W fun e w' => e = .returned (.bool false) ∧ w' = W := by
  go_enter Try.func104, Try.ntmps104
  go_wp2_with fail
  go_ret
  simp
set_option maxHeartbeats 1000000 in
theorem compare_c (x y : Int) (W : World) : Calls Try.prog 59 #[.int .i64 x, .int .i64 y] W fun e w' => e = .returned (.int .i64 (Lib.compareInt x y)) ∧ w' = W := by
  have h := fun x => isNaN_c x W
  unfold Lib.compareInt
  go_enter Try.func59, Try.ntmps59
  by_cases h1 : x < y
  · go_wp2_with (go_at_call 104; refine (h _).mono ?_; rintro e w' ⟨rfl, rfl⟩)
    go_ret
    simp
  · by_cases h2 : y < x
    · go_wp2_with (go_at_call 104; refine (h _).mono ?_; rintro e w' ⟨rfl, rfl⟩)
      go_ret
      simp
    · go_wp2_with (go_at_call 104; refine (h _).mono ?_; rintro e w' ⟨rfl, rfl⟩)
      go_ret
      simp
set_option maxHeartbeats 1000000 in
theorem closureP (x y : Int × Int) (W : World) : Calls Try.prog 58 #[.agg #[.int .i64 x.1, .int .i64 x.2], .agg #[.int .i64 y.1, .int .i64 y.2]] W fun e w' => e = .returned (.int .i64 (cfP x y)) ∧ ∃ q os', w' = grow (W.drewN q) os' := by
  have hcon := fun W' => compare_c x.1 y.1 W'
  unfold cfP
  generalize Lib.compareInt x.1 y.1 = r at hcon ⊢
  go_enter Try.func58, Try.ntmps58
  go_wp2_with (go_at_call 59; refine (hcon _).mono ?_; rintro e w' ⟨rfl, rfl⟩)
  go_ret
  exact ⟨rfl, 0, _, by rw [alloc_eq_grow, alloc_eq_grow, grow_grow]; rfl⟩
theorem lays_P (blk off size : Nat) (w : World) : CmpLays Try.prog 58 #[] encPair 2 cfP blk off size w :=
  fun _ _ _ _ x y => closureP x y _
theorem sorted_pairs {l : List (Int × Int)} {d : Array (Int × Int)} (hn : (l.map Prod.fst).Nodup) (hp : PermIn 0 l.toArray.size l.toArray d) (hs : SortedIn (ltOf cfP) 0 l.toArray.size d) : d.toList = byKey l := by
  obtain ⟨h1, _, h3⟩ := hp
  refine byKey_eq hn ?_ ?_
  · rw [← h1] at h3
    have e1 : l.toArray.extract 0 d.size = l.toArray := by rw [h1]; simp
    have e2 : d.extract 0 d.size = d := by simp
    rw [e1, e2] at h3
    exact h3
  · rw [List.pairwise_iff_getElem]
    intro i j hi hj hij
    have h := hs i j (Nat.zero_le _) hij (by rw [← h1]; simpa using hj)
    rw [ltP] at h
    simp at hi hj
    simp [getElem!_pos, hi, hj] at h
    simpa using h
/-- The call's own slice of pairs, sorted by their keys. -/
theorem sortP_own (B : Nat) (v : Value) (l : List (Int × Int)) (w : World) (h : w.ownsRow B 106 2 v l.length (l.flatMap encPair)) (hM : l.length < 4611686018427387904) (hn : (l.map Prod.fst).Nodup) :
    Calls Try.prog 57 #[v, .func (.func 58) #[] #[]] w fun e w' => e = .returned (.tuple #[]) ∧ w'.ownsRow B 106 2 v (byKey l).length ((byKey l).flatMap encPair) ∧ Only (fun q => v.ownBlock = some q) w w' := by
  rcases h.2 with ⟨hv, h0⟩ | ⟨g, cap, cur, hv, hb, hg, hc, hmx, hsz, htk⟩
  · have hnil : l = [] := List.eq_nil_of_length_eq_zero h0
    subst hnil
    rw [hv]
    have hs : byKey [] = [] := by simp [byKey]
    refine Calls.mono (AnyF.slices_SortFunc_none (P := Try.prog) (ρ := Try.sortPairs_ren) { Try.sortPairs with } none 0 _ w) ?_
    rintro e w' ⟨rfl, rfl⟩
    rw [hs]
    exact ⟨rfl, World.ownsRow_nil _ _ _ _, Only.refl _ _⟩
  · subst hv
    have eg : ∀ args w, (callFunc 58 args).run Try.prog w = .ok (.enter 58 args) w := enters_of Try.func58 (by kernel_rfl) rfl
    have hH := holdsK_own hg htk
    have hcon := AnyQ.slices_SortFunc Try.sortPairs 2 Try.isAgg106 Try.sizeOf106 encPair (fun _ => rfl) (fun x v hv => by simp [encPair] at hv; rcases hv with rfl | rfl <;> rfl) cfP swoP 58 #[] g 0 cap l.toArray w eg (lays_P g 0 l.toArray.size w) hH (blk_lt hg) (by simpa using hM)
    refine Calls.mono hcon ?_
    rintro e w' ⟨rfl, d', n, os, hp, hs, rfl⟩
    have hd := sorted_pairs hn hp hs
    have hsz' : d'.size = l.length := by simpa using hp.1
    have hl2 : (byKey l).length = l.length := by rw [← hd]; simpa using hsz'
    have hfl : flatK encPair 2 d' = ((byKey l).flatMap encPair).toArray := by
      apply Array.toList_inj.1
      rw [← hd]
      have := flatK_list d'.toList
      simpa using this
    unfold sortWorldK putRowK
    rw [hfl]
    have hfn : ((byKey l).flatMap encPair).length = l.length * 2 := by rw [flatP_len, hl2]
    refine ⟨rfl, ⟨by rw [flatP_len], .inr ⟨g, cap, _, by rw [hl2], hb, heap_sortedV _ hg, by rw [hl2]; exact hc, hmx, by simp [putCells, hsz], ?_⟩⟩, ?_⟩
    · rw [← flatP_len]
      exact take_putCellsV cur _ (by rw [hfn]; omega)
    · exact (Only.of_grown (grownBy_sortedV _)).mono fun q _ hq => hq.symm
end Go.Proofs.Ytfbacopjookplaa
