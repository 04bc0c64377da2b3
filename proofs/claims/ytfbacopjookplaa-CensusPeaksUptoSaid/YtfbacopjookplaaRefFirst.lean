/- The walk of the document's First, of PackHead and PackLink: the memory at the beginning. -/
import Derived.Test.YtfbacopjookplaaFirst
import Derived.Test.YtfbacopjookplaaRefFree
namespace Go.Proofs.Ytfbacopjookplaa
open Go.RowKit

theorem packHead_zero (u : Nat) (w : World) (hu : u ≤ 100000) : Calls Try.prog 114 #[.int .u64 0, .int .i64 u] w fun e w' => e = .returned (.int .u64 ((u : Int) + 1)) ∧ w' = w := by
  go_enter Try.func114, Try.ntmps114
  go_wp2_with fail
  go_ret
  exact ⟨ret_int (by omega), rfl⟩

theorem packLink_bare (x : Int) (w : World) (h0 : -1 ≤ x) (h1 : x ≤ 9223372036854775806) : Calls Try.prog 107 #[.int .i64 x, .bool false] w fun e w' => e = .returned (.int .u64 (x + 1)) ∧ w' = w := by
  go_enter Try.func107, Try.ntmps107
  go_wp2_with fail
  go_ret
  exact ⟨rfl, rfl⟩

set_option maxHeartbeats 2000000 in
theorem refFirst_any (T R H Re Ca S B : Int) (hok : Okay T R H Re Ca S B) (n b s : Nat) (hsz : Sizes R H S B n b s) (u : Nat) (hu : u ≤ s) (w : World) :
    Calls Try.prog 80 #[(.agg #[.int .i64 T, .int .i64 R, .int .i64 H, .int .i64 Re, .int .i64 Ca, .int .i64 S, .int .i64 B]), .int .i64 u] w (FirstOut w n b s u fun v => v) := by
  obtain ⟨h1, h2, h3, h4, h5, h6⟩ := hsz
  subst h3
  have hS' : 1 ≤ s ∧ s ≤ 1024 := by unfold Okay at hok; omega
  have Hsize := Lib.hid (fun w => refSize_any T R H Re Ca s B hok w)
  have hok' := hok
  unfold Okay at hok'
  have Hb9 := Lib.hid (fun w => base_any T R H Re Ca s B 9 w (by omega) (by omega) (by omega) (by omega) (by omega) (by omega) (by omega) (by omega) 10 rfl (by omega))
  have Hb3 := Lib.hid (fun w => base_any T R H Re Ca s B 3 w (by omega) (by omega) (by omega) (by omega) (by omega) (by omega) (by omega) (by omega) 4 rfl (by omega))
  have Hb4 := Lib.hid (fun w => base_any T R H Re Ca s B 4 w (by omega) (by omega) (by omega) (by omega) (by omega) (by omega) (by omega) (by omega) 5 rfl (by omega))
  have Hs3 : Hid (sumOf R H s B 3 = 3) := by show _ = _; simp [sumOf, manyOf]
  have Hs4 : Hid (sumOf R H s B 4 = 4) := by show _ = _; simp [sumOf, manyOf]
  clear hok'
  have Hok := Lib.hid hok
  have hmk := fun W => run_make1 zeroWord rfl Try.underlying24 (n : Int) (by omega) (by omega) (by omega) W
  simp only [Int.toNat_natCast] at hmk
  have H1 := Lib.hid h1
  have H2 := Lib.hid h2
  have hd1 : decide ((u : Int) < 0) = false := by simp
  have hd2 : decide (s < u) = false := by simp; omega
  have hd3 : decide ((s : Int) < (u : Int)) = false := by simp; omega
  have hroom : b + 4 * s ≤ n := by omega
  have H4 := Lib.hid h4
  clear hok h1 h2 h4
  go_enter Try.func80, Try.ntmps80
  go_wp2_with fail
  obtain ⟨w0, hw0, hC, hE, hlt⟩ := enter1 w (.cells (cfgV T R H Re Ca s B) 23)
  rw [hw0]
  have HE := Lib.hid hE
  obtain ⟨c0, c1, c2, c3, c4, c5, c6⟩ := Lat.cfg hC
  have ltC := Lat.lt hlt
  clear hw0 hC hE
  refine (Hsize.out _).mono ?_
  rintro e w1 ⟨rfl, e1⟩
  rw [H1.out]
  obtain ⟨k1, rfl⟩ := lat_of e1
  clear e1
  go_upto_region 2 with fail
  obtain ⟨w2, hw2, ho2, e2, hlt2⟩ := made1 k1.world w0.heap.size n k1.ok.size (by omega) 25 (.int .u64 0)
  rw [hw2]
  obtain ⟨k3, rfl⟩ := lat_next k1 e2
  have hgW := k1.ok.size
  generalize k1.world.heap.size = g at *
  rw [show List.replicate n (Value.int .u64 0) = (List.replicate n (0 : Int)).map (Value.int .u64) by simp] at ho2
  have HO3 := Lib.hid ho2
  clear hw2 e2 ho2 hlt2
  have hn0 : (0 : Int) < (n : Int) := by omega
  obtain ⟨l1, hl1⟩ : ∃ l1 : List Int, l1 = if u < s then (List.replicate n 0).set 0 ((u : Int) + 1) else List.replicate n 0 := ⟨_, rfl⟩
  have HL1 := Lib.hid hl1
  have hll : l1.length = n := by rw [hl1]; split <;> simp
  have HLL := Lib.hid hll
  clear hl1 hll
  have hc0 : k3.world.cell? ⟨g, 0, none⟩ = some (.int .u64 0) := (HO3.out.cellAt 0 (by omega)).trans (by rw [List.getElem?_map, List.getElem?_replicate, if_pos (by omega)]; rfl)
  have hf0 := HO3.out.frozenAt 0
  by_cases hus : u < s
  case' pos =>
    have hus1 : (u : Int) < (s : Int) := by omega
    go_wp2_with fail
    refine (packHead_zero u _ (by omega)).mono ?_
    rintro e wq ⟨rfl, rfl⟩
    go_upto_region 4 with fail
    have e4 := own_store (j := 0) HO3.out k3.ok (Nat.le_refl _) (.int .u64 ((u : Int) + 1))
    have ho4 := own_words (j := 0) ((u : Int) + 1) HO3.out
    rw [show (List.replicate n (0 : Int)).set 0 ((u : Int) + 1) = l1 by rw [HL1.out, if_pos hus]] at ho4
  case' neg =>
    have hus1 : (s : Int) ≤ (u : Int) := by omega
    go_upto_region 4 with fail
    have e4 := k3.ok
    have ho4 := HO3.out
    rw [show List.replicate n (0 : Int) = l1 by rw [HL1.out, if_neg hus]] at ho4
  all_goals
    obtain ⟨k4, hk4⟩ := lat_of e4
    rw [hk4] at ho4 ⊢
    have HO4 := Lib.hid ho4
    clear hk4 e4 ho4 hc0 hf0
    go_wp2_with fail
    go_loopw [6] (fun s6 wr => ∃ (k : Lat w0) (q i : Nat), wr = k.world ∧ s6 = .int .i64 q ∧ q = u + i ∧ i ≤ s - 1 - u ∧ k.world.ownsRow w0.heap.size 25 1 (.slice (some ⟨g, 0, none⟩) n n) n ((spareFill b u i l1).map (Value.int .u64))) (fun v _ => s - (intOf v).toNat)
    case atStart => exact ⟨k4, u, 0, rfl, rfl, by omega, by omega, HO4.out⟩
    case round =>
      obtain ⟨k, q, i, rfl, rfl, hq, hi, hown⟩ := hrel
      have HO := Lib.hid hown
      have HQ := Lib.hid hq
      by_cases hlt : i < s - 1 - u
      · first
          | (exfalso; omega)
          | (obtain ⟨j, hj⟩ : ∃ j : Nat, (b : Int) + (q : Int) = (j : Int) := ⟨b + q, by omega⟩
             have hjn : (j : Int) < (n : Int) := by omega
             have hj0 : j < n := by omega
             have hq1 : (q : Int) + 1 < (s : Int) := by omega
             have hq2 : q + 1 < s := by omega
             have HJ : Hid (j = b + (u + i)) := by show _ = _; omega
             obtain ⟨x, hx⟩ : ∃ x, (spareFill b u i l1)[j]? = some x := ⟨_, List.getElem?_eq_getElem (by rw [spareFill_len, HLL.out]; exact hj0)⟩
             clear hq hown
             go_wp2_with fail
             refine (Hb9.out _).mono ?_
             rintro e wa ⟨rfl, ea⟩
             rw [H2.out]
             have HOa := Lib.hid (own_ext HO.out ea)
             obtain ⟨ka, rfl⟩ := lat_next k ea
             clear ea
             have hcj : ka.world.cell? ⟨g, j, none⟩ = some (.int .u64 x) := (HOa.out.cellAt j (by omega)).trans (by simp [hx])
             have hfj := HOa.out.frozenAt j
             clear hx
             go_wp2_with fail
             refine (packLink_bare _ _ (by omega) (by omega)).mono ?_
             rintro e wb ⟨rfl, rfl⟩
             rw [show (q : Int) + 1 + 1 = (q : Int) + 2 by omega]
             go_wp2_with fail
             have e5 := own_store (j := j) HOa.out ka.ok (Nat.le_refl _) (.int .u64 ((q : Int) + 2))
             have ho5 := own_words (j := j) ((q : Int) + 2) HOa.out
             obtain ⟨k5, hk5⟩ := lat_of e5
             rw [hk5] at ho5 ⊢
             have HO5 := Lib.hid ho5
             clear hk5 e5 ho5 hcj hfj
             go_roundw
             case rel => exact ⟨k5, q + 1, i + 1, rfl, by go_num, by have := HQ.out; omega, by omega, by rw [spareFill, ← HJ.out, ← HQ.out]; exact HO5.out⟩
             case measure => simp [intOf]; omega)
      · have hie : Hid (i = s - 1 - u) := by show _ = _; omega
        have hq1 : (s : Int) ≤ (q : Int) + 1 := by omega
        have hq2 : s ≤ q + 1 := by omega
        have hqb : (q : Int) ≤ 100000 := by omega
        have hq3 : decide (q + 1 < s) = false := by simp; omega
        obtain ⟨l2, hl2⟩ : ∃ l2, l2 = spareFill b u i l1 := ⟨_, rfl⟩
        have hll2 : l2.length = n := by rw [hl2, spareFill_len, HLL.out]
        obtain ⟨x3, hx3⟩ : ∃ x, l2[3]? = some x := ⟨_, List.getElem?_eq_getElem (by omega)⟩
        obtain ⟨x4, hx4⟩ : ∃ x, l2[4]? = some x := ⟨_, List.getElem?_eq_getElem (by omega)⟩
        rw [← hl2] at hown
        have HO2 := Lib.hid hown
        have HL2 : Hid (l2 = spareFill b u (s - 1 - u) (if u < s then (List.replicate n 0).set 0 ((u : Int) + 1) else List.replicate n 0)) := by show _ = _; rw [hl2, hie.out, ← HL1.out]
        have hn3 : (3 : Int) < (n : Int) := by omega
        have hn4 : (4 : Int) < (n : Int) := by omega
        clear hq hown hl2 hll2
        by_cases hu0 : 0 < u
        · have hu1 : (0 : Int) < (u : Int) := by omega
          have HF : Hid (firstL n b s u = (l2.set 3 1).set 4 1) := by show _ = _; rw [firstL, if_pos hu0, HL2.out]
          go_wp2_with fail
          refine (Hb3.out _).mono ?_
          rintro e wa ⟨rfl, ea⟩
          rw [Hs3.out]
          have HOa := Lib.hid (own_ext HO2.out ea)
          obtain ⟨ka, rfl⟩ := lat_next k ea
          clear ea
          have hc3 : ka.world.cell? ⟨g, 3, none⟩ = some (.int .u64 x3) := (HOa.out.cellAt 3 (by omega)).trans (by simp [hx3])
          have hf3 := HOa.out.frozenAt 3
          go_wp2_with fail
          refine (packLink_bare 0 _ (by omega) (by omega)).mono ?_
          rintro e wb ⟨rfl, rfl⟩
          rw [show (0 : Int) + 1 = 1 from rfl]
          go_upto_region 10 with fail
          have e5 := own_store (j := 3) HOa.out ka.ok (Nat.le_refl _) (.int .u64 1)
          have ho5 := own_words (j := 3) 1 HOa.out
          obtain ⟨k5, hk5⟩ := lat_of e5
          rw [hk5] at ho5 ⊢
          have HO5 := Lib.hid ho5
          clear hk5 e5 ho5 hc3 hf3 hx3
          go_wp2_with fail
          refine (Hb4.out _).mono ?_
          rintro e wc ⟨rfl, ec⟩
          rw [Hs4.out]
          have HOc := Lib.hid (own_ext HO5.out ec)
          obtain ⟨kc, rfl⟩ := lat_next k5 ec
          clear ec
          have hc4 : kc.world.cell? ⟨g, 4, none⟩ = some (.int .u64 x4) := (HOc.out.cellAt 4 (by omega)).trans (by rw [List.getElem?_map, List.getElem?_set_ne (by omega), hx4]; rfl)
          have hf4 := HOc.out.frozenAt 4
          clear hx4
          go_wp2_with fail
          refine (packLink_bare 0 _ (by omega) (by omega)).mono ?_
          rintro e wb ⟨rfl, rfl⟩
          rw [show (0 : Int) + 1 = 1 from rfl]
          go_wp2_with fail
          go_ret
          refine ⟨g, rfl, ?_, ?_⟩
          · rw [HF.out]
            exact own_base (own_words 1 HOc.out) HE.out.size
          · exact Ext.next HE.out (own_store HOc.out kc.ok (Nat.le_refl _) _)
        · first
            | (exfalso; omega)
            | (have hu1 : (u : Int) ≤ 0 := by omega
               clear hx3 hx4
               have HF : Hid (firstL n b s u = l2) := by show _ = _; rw [firstL, if_neg hu0, HL2.out]
               go_wp2_with fail
               go_ret
               refine ⟨g, rfl, ?_, Ext.next HE.out k.ok⟩
               rw [HF.out]
               exact own_base HO2.out HE.out.size)

end Go.Proofs.Ytfbacopjookplaa
