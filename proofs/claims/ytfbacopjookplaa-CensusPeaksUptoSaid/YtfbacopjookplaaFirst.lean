/- The walks of word.First and of the document's First: the memory at the beginning. -/
import Derived.Test.YtfbacopjookplaaPlace
import Derived.Test.YtfbacopjookplaaRun
namespace Go.Proofs.Ytfbacopjookplaa
open Go.RowKit

/-- The free slots' links, one behind the other. -/
def spareFill (b u : Nat) : Nat → List Int → List Int
  | 0, l => l
  | k + 1, l => (spareFill b u k l).set (b + (u + k)) (((u + k : Nat) : Int) + 2)
/-- The memory at the beginning. -/
def firstL (n b S u : Nat) : List Int :=
  if 0 < u then ((spareFill b u (S - 1 - u) (if u < S then (List.replicate n 0).set 0 ((u : Int) + 1) else List.replicate n 0)).set 3 1).set 4 1
  else spareFill b u (S - 1 - u) (if u < S then (List.replicate n 0).set 0 ((u : Int) + 1) else List.replicate n 0)

theorem spareFill_len (b u k : Nat) (l : List Int) : (spareFill b u k l).length = l.length := by
  induction k with
  | zero => rfl
  | succ k ih => rw [spareFill, List.length_set, ih]

theorem zeroWord : (Try.prog.info? 25).map (fun i => (i.zero, i.size, i.bytes)) = some (some (.int .u64 0), 1, 8) := by kernel_rfl
theorem own_words {w : World} {B g n c j : Nat} {l : List Int} (x : Int) (h : w.ownsRow B 25 1 (.slice (some ⟨g, 0, none⟩) n c) n (l.map (Value.int .u64))) : (w.setCell ⟨g, j, none⟩ (.int .u64 x)).ownsRow B 25 1 (.slice (some ⟨g, 0, none⟩) n c) n ((l.set j x).map (Value.int .u64)) := by
  have := (h.stored j (.int .u64 x)).1
  rwa [List.map_set]
theorem own_repl (w : World) (B n : Nat) (hB : B ≤ w.heap.size) (hn : n ≤ 9223372036854775807) (e : TypeId) (z : Value) : (w.alloc (.cells (repl n z) e)).ownsRow B e 1 (.slice (some ⟨w.heap.size, 0, none⟩) n n) n (List.replicate n z) := by
  have h := World.ownsRow_made (base := B) (e := e) (size := 1) w (repl n z) n hB (by unfold maxLen; omega) (by simp [repl])
  refine ⟨by simp, .inr ⟨w.heap.size, n, repl n z, rfl, hB, heap_alloc_new _ _, Nat.le_refl _, by unfold maxLen; omega, by simp [repl], by simp [repl]⟩⟩
/-- A store into a row of the call's own is a store into new memory. -/
theorem own_store {w0 w : World} {B g n c j : Nat} {e : TypeId} {size : Nat} {us : List Value} (h : w.ownsRow B e size (.slice (some ⟨g, 0, none⟩) n c) n us) (hx : Ext w0 w) (hB : w0.heap.size ≤ B) (u : Value) : Ext w0 (w.setCell ⟨g, j, none⟩ u) :=
  hx.only (S := fun q => q = g) ((Only.refl _ _).setCell _ _ fun _ => rfl) fun q hq => by have := (h.lt g rfl).1; omega
/-- The world behind a make, by a name. -/
theorem made1 (w : World) (B n : Nat) (hB : B ≤ w.heap.size) (hn : n ≤ 9223372036854775807) (e : TypeId) (z : Value) :
    ∃ w1, w.alloc (.cells (repl n z) e) = w1 ∧ w1.ownsRow B e 1 (.slice (some ⟨w.heap.size, 0, none⟩) n n) n (List.replicate n z) ∧ Ext w w1 ∧ w.heap.size < w1.heap.size :=
  ⟨_, rfl, own_repl w B n hB hn e z, (Ext.rfl' w).alloc1 _, by simp⟩

/-- What First answers. -/
def FirstOut (w : World) (n b S u : Nat) (tup : Value → Value) (e : Ending) (w' : World) : Prop :=
  ∃ g, e = .returned (tup (.slice (some ⟨g, 0, none⟩) n n)) ∧ w'.ownsRow w.heap.size 25 1 (.slice (some ⟨g, 0, none⟩) n n) n ((firstL n b S u).map (Value.int .u64)) ∧ Ext w w'

/-- The sizes that a configuration gives. -/
structure Sizes (R H S B : Int) (n b s : Nat) : Prop where
  size : sumOf R H S B 13 = n
  base : sumOf R H S B 9 = b
  slots : S = s
  room : n = b + 4 * s
  big : n ≤ 20000
  low : 9 ≤ b
theorem sizes_of {T R H Re Ca S B : Int} (hok : Okay T R H Re Ca S B) : ∃ n b s, Sizes R H S B n b s ∧ 1 ≤ s ∧ s ≤ 1024 := by
  unfold Okay at hok
  obtain ⟨_, _, hR, hR', hH, hH', _, _, _, _, hS, hS', hB, hB'⟩ := hok
  have h9 := sumOf_bd R H S B hR hR' hH hH' hS hS' hB hB' 9
  have h13 := sumOf_bd R H S B hR hR' hH hH' hS hS' hB hB' 13
  have h : sumOf R H S B 13 = sumOf R H S B 9 + 4 * S := by simp [sumOf, manyOf]; omega
  exact ⟨(sumOf R H S B 13).toNat, (sumOf R H S B 9).toNat, S.toNat, ⟨by omega, by omega, by omega, by omega, by omega, by omega⟩, by omega, by omega⟩

set_option maxHeartbeats 2000000 in
theorem first_any (T R H Re Ca S B : Int) (hok : Okay T R H Re Ca S B) (n b s : Nat) (hsz : Sizes R H S B n b s) (u : Nat) (hu : u ≤ s) (w : World) :
    Calls Try.prog 109 #[(.agg #[.int .i64 T, .int .i64 R, .int .i64 H, .int .i64 Re, .int .i64 Ca, .int .i64 S, .int .i64 B]), .int .i64 u] w (FirstOut w n b s u (fun v => .tuple #[v, .int .i64 0])) := by
  obtain ⟨h1, h2, h3, h4, h5, h6⟩ := hsz
  subst h3
  have hS' : 1 ≤ s ∧ s ≤ 1024 := by unfold Okay at hok; omega
  have Hsize := Lib.hid (fun w => size_any T R H Re Ca s B w)
  have Haddr := Lib.hid (fun w => addr_any T R H Re Ca s B hok 9 10 0 rfl (by omega) (by omega) (by simp [manyOf]; omega) (by omega) w)
  have Hok := Lib.hid hok
  have hmk := fun W => run_make1 zeroWord rfl Try.underlying24 (n : Int) (by omega) (by omega) (by omega) W
  simp only [Int.toNat_natCast] at hmk
  have H1 := Lib.hid h1
  have H2 := Lib.hid h2
  have hd1 : decide ((u : Int) < 0) = false := by simp
  have hd2 : decide (s < u) = false := by simp; omega
  have hd3 : decide ((s : Int) < (u : Int)) = false := by simp; omega
  have hroom : b + 4 * s ≤ n := by omega
  have H4 := Lib.hid h4
  clear hok h1 h2 h4
  go_enter Try.func109, Try.ntmps109
  go_wp2_with fail
  obtain ⟨w0, hw0, hC, hE, hlt⟩ := enter1 w (.cells (cfgV T R H Re Ca s B) 23)
  rw [hw0]
  have HE := Lib.hid hE
  obtain ⟨c0, c1, c2, c3, c4, c5, c6⟩ := Lat.cfg hC
  have ltC := Lat.lt hlt
  clear hw0 hC hE
  refine (Hsize.out _).mono ?_
  rintro e w1 ⟨rfl, e1⟩
  rw [if_pos Hok.out, H1.out]
  obtain ⟨k1, rfl⟩ := lat_of e1
  clear e1
  go_upto_region 7 with fail
  obtain ⟨w2, hw2, ho2, e2, hlt2⟩ := made1 k1.world w0.heap.size n k1.ok.size (by omega) 25 (.int .u64 0)
  rw [hw2]
  obtain ⟨k2, rfl⟩ := lat_next k1 e2
  have hgW := k1.ok.size
  generalize k1.world.heap.size = g at *
  rw [show List.replicate n (Value.int .u64 0) = (List.replicate n (0 : Int)).map (Value.int .u64) by simp] at ho2
  have HO2 := Lib.hid ho2
  clear hw2 e2 ho2 hlt2
  go_wp2_with fail
  refine (Haddr.out _).mono ?_
  rintro e w3 ⟨rfl, e3⟩
  rw [H2.out, Int.add_zero]
  have HO3 := Lib.hid (own_ext HO2.out e3)
  obtain ⟨k3, rfl⟩ := lat_next k2 e3
  clear e3
  have hn0 : (0 : Int) < (n : Int) := by omega
  obtain ⟨l1, hl1⟩ : ∃ l1 : List Int, l1 = if u < s then (List.replicate n 0).set 0 ((u : Int) + 1) else List.replicate n 0 := ⟨_, rfl⟩
  have HL1 := Lib.hid hl1
  have hll : l1.length = n := by rw [hl1]; split <;> simp
  have HLL := Lib.hid hll
  clear hl1 hll
  have hc0 : k3.world.cell? ⟨g, 0, none⟩ = some (.int .u64 0) := (HO3.out.cellAt 0 (by omega)).trans (by rw [List.getElem?_map, List.getElem?_replicate, if_pos (by omega)]; rfl)
  have hf0 := HO3.out.frozenAt 0
  by_cases hus : u < s
  case' pos =>
    have hus1 : (u : Int) < (s : Int) := by omega
    go_upto_region 10 with fail
    have e4 := own_store (j := 0) HO3.out k3.ok (Nat.le_refl _) (.int .u64 ((u : Int) + 1))
    have ho4 := own_words (j := 0) ((u : Int) + 1) HO3.out
    rw [show (List.replicate n (0 : Int)).set 0 ((u : Int) + 1) = l1 by rw [HL1.out, if_pos hus]] at ho4
  case' neg =>
    have hus1 : (s : Int) ≤ (u : Int) := by omega
    go_upto_region 10 with fail
    have e4 := k3.ok
    have ho4 := HO3.out
    rw [show List.replicate n (0 : Int) = l1 by rw [HL1.out, if_neg hus]] at ho4
  all_goals
    obtain ⟨k4, hk4⟩ := lat_of e4
    rw [hk4] at ho4 ⊢
    have HO4 := Lib.hid ho4
    clear hk4 e4 ho4 hc0 hf0
    go_wp2_with fail
    go_loopw [11] (fun s11 wr => ∃ (k : Lat w0) (q i : Nat), wr = k.world ∧ s11 = .int .i64 q ∧ q = u + i ∧ i ≤ s - 1 - u ∧ k.world.ownsRow w0.heap.size 25 1 (.slice (some ⟨g, 0, none⟩) n n) n ((spareFill b u i l1).map (Value.int .u64))) (fun v _ => s - (intOf v).toNat)
    case atStart => exact ⟨k4, u, 0, rfl, rfl, by omega, by omega, HO4.out⟩
    case round =>
      obtain ⟨k, q, i, rfl, rfl, hq, hi, hown⟩ := hrel
      have HO := Lib.hid hown
      have HQ := Lib.hid hq
      by_cases hlt : i < s - 1 - u
      · first
          | (exfalso; omega)
          | (obtain ⟨j, hj⟩ : ∃ j : Nat, (b : Int) + (q : Int) = (j : Int) := ⟨b + q, by omega⟩
             have hjn : (j : Int) < (n : Int) := by omega
             have hj0 : j < n := by omega
             have hq1 : (q : Int) < (s : Int) - 1 := by omega
             have HJ : Hid (j = b + (u + i)) := by show _ = _; omega
             obtain ⟨x, hx⟩ : ∃ x, (spareFill b u i l1)[j]? = some x := ⟨_, List.getElem?_eq_getElem (by rw [spareFill_len, HLL.out]; exact hj0)⟩
             have hcj : k.world.cell? ⟨g, j, none⟩ = some (.int .u64 x) := (HO.out.cellAt j (by omega)).trans (by simp [hx])
             have hfj := HO.out.frozenAt j
             clear hq hown hx
             go_wp2_with fail
             have e5 := own_store (j := j) HO.out k.ok (Nat.le_refl _) (.int .u64 ((q : Int) + 2))
             have ho5 := own_words (j := j) ((q : Int) + 2) HO.out
             obtain ⟨k5, hk5⟩ := lat_of e5
             rw [hk5] at ho5 ⊢
             have HO5 := Lib.hid ho5
             clear hk5 e5 ho5 hcj hfj
             go_roundw
             case rel => exact ⟨k5, q + 1, i + 1, rfl, by go_num, by have := HQ.out; omega, by omega, by rw [spareFill, ← HJ.out, ← HQ.out]; exact HO5.out⟩
             case measure => simp [intOf]; omega)
      · have hie : Hid (i = s - 1 - u) := by show _ = _; omega
        have hq1 : (s : Int) - 1 ≤ (q : Int) := by omega
        obtain ⟨l2, hl2⟩ : ∃ l2, l2 = spareFill b u i l1 := ⟨_, rfl⟩
        have hll2 : l2.length = n := by rw [hl2, spareFill_len, HLL.out]
        obtain ⟨x3, hx3⟩ : ∃ x, l2[3]? = some x := ⟨_, List.getElem?_eq_getElem (by omega)⟩
        obtain ⟨x4, hx4⟩ : ∃ x, l2[4]? = some x := ⟨_, List.getElem?_eq_getElem (by omega)⟩
        rw [← hl2] at hown
        have HO2 := Lib.hid hown
        have HL2 : Hid (l2 = spareFill b u (s - 1 - u) (if u < s then (List.replicate n 0).set 0 ((u : Int) + 1) else List.replicate n 0)) := by show _ = _; rw [hl2, hie.out, ← HL1.out]
        have hc3 : k.world.cell? ⟨g, 3, none⟩ = some (.int .u64 x3) := (HO2.out.cellAt 3 (by omega)).trans (by simp [hx3])
        have hc4 : k.world.cell? ⟨g, 4, none⟩ = some (.int .u64 x4) := (HO2.out.cellAt 4 (by omega)).trans (by simp [hx4])
        have hf3 := HO2.out.frozenAt 3
        have hf4 := HO2.out.frozenAt 4
        have hn3 : (3 : Int) < (n : Int) := by omega
        have hn4 : (4 : Int) < (n : Int) := by omega
        clear hq hown hl2 hll2 hx3 hx4
        by_cases hu0 : 0 < u
        · have hu1 : (0 : Int) < (u : Int) := by omega
          have HF : Hid (firstL n b s u = (l2.set 3 1).set 4 1) := by show _ = _; rw [firstL, if_pos hu0, HL2.out]
          go_wp2_with fail
          go_ret2
          refine ⟨g, rfl, ?_, ?_⟩
          · rw [HF.out]
            exact own_base (own_words 1 (own_words 1 HO2.out)) HE.out.size
          · exact Ext.next HE.out (own_store (own_words 1 HO2.out) (own_store HO2.out k.ok (Nat.le_refl _) _) (Nat.le_refl _) _)
        · first
            | (exfalso; omega)
            | (have hu1 : (u : Int) ≤ 0 := by omega
               have HF : Hid (firstL n b s u = l2) := by show _ = _; rw [firstL, if_neg hu0, HL2.out]
               go_wp2_with fail
               go_ret2
               refine ⟨g, rfl, ?_, Ext.next HE.out k.ok⟩
               rw [HF.out]
               exact own_base HO2.out HE.out.size)

end Go.Proofs.Ytfbacopjookplaa
