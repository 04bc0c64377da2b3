/- The walks of slotOf, and of what a thread may do with a slot and a slot's state: the program's and the document's. -/
import Derived.Test.YtfbacopjookplaaPlace
import Derived.Test.YtfbacopjookplaaMay
import Derived.Test.YtfbacopjookplaaTail
import Derived.Laws.CopyOwn
import Derived.Test.YtfbacopjookplaaSlots
namespace Go.Proofs.Ytfbacopjookplaa
open Go.RowKit

theorem sumOf_mono {R H S B : Int} (hm : ∀ r, 1 ≤ manyOf R H S B r) {a b : Nat} (h : a ≤ b) : sumOf R H S B a ≤ sumOf R H S B b := by
  induction b with
  | zero => obtain rfl : a = 0 := by omega
            exact Int.le_refl _
  | succ b ih =>
    rcases Nat.lt_or_ge a (b + 1) with h1 | h1
    · have := ih (by omega)
      have := hm ((b : Int) + 1)
      simp only [sumOf]
      omega
    · obtain rfl : a = b + 1 := by omega
      exact Int.le_refl _
/-- The slot whose value, data or link stands at an address; -1: none. -/
def slotF (R H S B a : Int) : Int := if sumOf R H S B 10 ≤ a then (a - sumOf R H S B 10) % S else -1
theorem slotF_at {R H S B a i : Int} {n : Nat} (hm : ∀ r, 1 ≤ manyOf R H S B r) (hn : n ≤ 12) (h0 : 0 ≤ i) (h1 : i < manyOf R H S B ((n : Int) + 1)) (ha : a = sumOf R H S B n + i) : (n < 10 → slotF R H S B a = -1) ∧ (10 ≤ n → slotF R H S B a = i ∧ i < S) := by
  constructor
  · intro h
    have h2 := sumOf_mono hm (a := n + 1) (b := 10) (by omega)
    simp only [sumOf] at h2
    have h3 : ¬ sumOf R H S B 10 ≤ a := by simp only [sumOf]; omega
    exact if_neg h3
  · intro h
    have e11 : manyOf R H S B 11 = S := by simp [manyOf]
    have e12 : manyOf R H S B 12 = S := by simp [manyOf]
    have e13 : manyOf R H S B 13 = S := by simp [manyOf]
    have s11 : sumOf R H S B 11 = sumOf R H S B 10 + S := by rw [← e11]; rfl
    have s12 : sumOf R H S B 12 = sumOf R H S B 10 + S + S := by
      have : sumOf R H S B 12 = sumOf R H S B 11 + manyOf R H S B 12 := rfl
      rw [this, e12, s11]
    have hmod : ∀ k : Int, i < S → (k * S + i) % S = i := fun k hk => by
      rw [Int.add_comm, Int.add_mul_emod_self_right]
      exact Int.emod_eq_of_lt h0 hk
    rcases (by omega : n = 10 ∨ n = 11 ∨ n = 12) with rfl | rfl | rfl
    · have h1' : i < S := by rw [show ((10 : Nat) : Int) + 1 = 11 from rfl, e11] at h1; exact h1
      refine ⟨?_, h1'⟩
      have := hmod 0 h1'
      unfold slotF
      rw [if_pos (by omega)]
      rw [show a - sumOf R H S B 10 = 0 * S + i from by omega]
      exact this
    · have h1' : i < S := by rw [show ((11 : Nat) : Int) + 1 = 12 from rfl, e12] at h1; exact h1
      refine ⟨?_, h1'⟩
      have := hmod 1 h1'
      unfold slotF
      rw [if_pos (by omega)]
      rw [show a - sumOf R H S B 10 = 1 * S + i from by omega]
      exact this
    · have h1' : i < S := by rw [show ((12 : Nat) : Int) + 1 = 13 from rfl, e13] at h1; exact h1
      refine ⟨?_, h1'⟩
      have := hmod 2 h1'
      unfold slotF
      rw [if_pos (by omega)]
      rw [show a - sumOf R H S B 10 = 2 * S + i from by omega]
      exact this

theorem Ext.row {a b : World} (h : Ext a b) {g : Nat} (hg : a.heap.size ≤ g) (cs : Array Value) : Ext a (b.setRow g cs) := below_setRow h hg cs
/-- What At answers, as far as a slot's number goes. -/
def PlaceOf (f : Value → Value) (R H S B a : Int) (w : World) (e : Ending) (w' : World) : Prop :=
  ∃ r i k : Int, e = .returned (f (.agg #[.int .i64 r, .int .i64 i, .int .i64 k])) ∧ 1 ≤ r ∧ r ≤ 13 ∧ (r < 11 → slotF R H S B a = -1) ∧ (11 ≤ r → slotF R H S B a = i) ∧ Ext w w'

set_option maxHeartbeats 2000000 in
theorem wordAt_any (T R H Re Ca S B a : Int) (hok : Okay T R H Re Ca S B) (h0 : 0 ≤ a) (h1 : a < sumOf R H S B 13) (w : World) :
    Calls Try.prog 167 #[(.agg #[.int .i64 T, .int .i64 R, .int .i64 H, .int .i64 Re, .int .i64 Ca, .int .i64 S, .int .i64 B]), .int .i64 a] w (PlaceOf (fun v => .tuple #[v, .int .i64 0]) R H S B a w) := by
  have hok' := hok
  unfold Okay at hok'
  obtain ⟨_, _, hR, hR', hH, hH', _, _, _, _, hS, hS', hB, hB'⟩ := hok'
  have Hok := Lib.hid hok
  clear hok
  have hmany := fun r => manyOf_bd R H S B r hR hR' hH hH' hS hS' hB hB'
  have Hm1 : Hid (∀ r, 1 ≤ manyOf R H S B r) := fun r => (hmany r).1
  have hsb := (sumOf_bd R H S B hR hR' hH hH' hS hS' hB hB' 13).2
  generalize hX : sumOf R H S B 13 = X at h1 hsb
  have HX := Lib.hid hX
  clear hX
  have hd0 : decide (a < 0) = false := by simp; omega
  have hd1 : decide (X ≤ a) = false := by simp; omega
  go_enter Try.func167, Try.ntmps167
  go_upto_region 1 with fail
  obtain ⟨w0, hw0, hC, hP, hE, hlt0⟩ := enter2 w (.cells (cfgV T R H Re Ca S B) 23) (.cells #[.int .i64 0, .int .i64 0, .int .i64 0] 166)
  rw [hw0]
  have HC := Lib.hid hC
  have HP := Lib.hid hP
  have HE := Lib.hid hE
  obtain ⟨c0, c1, c2, c3, c4, c5, c6⟩ := Lat.cfg hC
  obtain ⟨k0, hk0⟩ := lat_self w0
  rw [hk0]
  clear hw0 hC hP hE hk0
  go_wp2_with fail
  refine (size_any T R H Re Ca S B _).mono ?_
  rintro e w1 ⟨rfl, e1⟩
  rw [if_pos Hok.out, HX.out]
  obtain ⟨k1, rfl⟩ := lat_next k0 e1
  clear e1 k0
  have hCk := k1.block HC.out
  have hPk := k1.block HP.out
  go_upto_region 7 with fail
  obtain ⟨w2, hw2, hQ, hE2, hlt2⟩ := enter1 k1.world (.cells #[.int .i64 1, .int .i64 a, .int .i64 0] 166)
  rw [hw2]
  have HE2 := Lib.hid (Ext.next k1.ok hE2)
  have hpb : w.heap.size + 1 < k1.world.heap.size := Nat.lt_of_lt_of_le hlt0 k1.size
  have hpb0 : w0.heap.size ≤ k1.world.heap.size := k1.size
  generalize k1.world.heap.size = pb at *
  have HQ := Lib.hid hQ
  clear hw2 hE2 c0 c1 c2 c3 c4 c5 c6
  go_loopw [] (fun wr => ∃ (n : Nat) (i : Int), n ≤ 12 ∧ 0 ≤ i ∧ Hid (a = sumOf R H S B n + i) ∧ Hid (wr.heap[pb]? = some (.cells #[.int .i64 ((n : Int) + 1), .int .i64 i, .int .i64 0] 166 (0, 0))) ∧ Hid (Only (fun q => q = pb) w2 wr)) (fun wr => 14 - (cellInt wr pb 0).toNat)
  case atStart => exact ⟨0, a, by omega, h0, by show a = _; simp [sumOf], HQ.out, Only.refl _ _⟩
  case round =>
    obtain ⟨n, i, hn, hi, hai, hq, ho⟩ := hrel
    have hCr : Hid (wr.heap[w.heap.size]? = _) := (ho.out.block _ (by omega) (by omega)).trans (ext_blk HE2.out HC.out)
    have hPr : Hid (wr.heap[w.heap.size + 1]? = _) := (ho.out.block _ (by omega) (by omega)).trans (ext_blk HE2.out HP.out)
    have hEr := Lib.hid ((HE2.out.only ho.out fun q hq => by rw [hq]; omega))
    have hm := hmany ((n : Int) + 1)
    have hib : i ≤ 13312 := by
      have := hai.out
      have := (sumOf_bd R H S B hR hR' hH hH' hS hS' hB hB' n).1
      omega
    have ha13 : i < manyOf R H S B ((n : Int) + 1) ∨ n < 12 := by
      rcases Nat.lt_or_ge n 12 with h | h
      · exact .inr h
      · left
        obtain rfl : n = 12 := by omega
        have e1 := hai.out
        have e2 := HX.out
        have e3 : sumOf R H S B 13 = sumOf R H S B 12 + manyOf R H S B 13 := rfl
        show i < manyOf R H S B 13
        omega
    obtain ⟨c0, c1, c2, c3, c4, c5, c6⟩ := Lat.cfg hCr.out
    obtain ⟨p0, p1, p2⟩ := Lat.cells3 hq.out
    have pf := Lat.free hq.out
    have hsum : Hid (sumOf R H S B n + manyOf R H S B ((n : Int) + 1) = sumOf R H S B (n + 1)) := rfl
    have hslot := fun h => slotF_at (R := R) (H := H) (S := S) (B := B) Hm1.out hn hi h hai.out
    have Hslot := Lib.hid hslot
    generalize hM : manyOf R H S B ((n : Int) + 1) = M at *
    have HM := Lib.hid hM
    have Hmany : Hid (∀ w, Calls Try.prog 135 #[(.agg #[.int .i64 T, .int .i64 R, .int .i64 H, .int .i64 Re, .int .i64 Ca, .int .i64 S, .int .i64 B]), .int .i64 ((n : Int) + 1)] w fun e w' => e = .returned (.int .i64 M) ∧ Ext w w') := fun w => HM.out ▸ many_any T R H Re Ca S B ((n : Int) + 1) w hR hR' hH hH'
    clear hM hslot
    obtain ⟨k, hk⟩ := lat_self wr
    rw [hk]
    clear hk
    by_cases hlt : i < M
    · have hd : decide (M ≤ i) = false := by simp; omega
      go_upto_region 7 with fail
      refine wp_region_cls (Ext wr) (Ext.drew1 k.ok) (by kernel_rfl) (by kernel_rfl) ?_
      repeat (go_big_quiet_step (exact calls_cls (keeps_ext _) (Hmany.out _)))
      refine wpQuiet_nil ?_
      rintro _ ⟨k4, rfl⟩
      by_cases h8 : n = 8
      · subst h8
        have hH0 : (H == 0) = false := by simp; omega
        have hH1 : decide (H = 0) = false := by simp; omega
        go_upto_region 11 with fail
        have hq4 := Lib.hid (Lat.block k4 hq.out)
        have hPk := Lib.hid (Lat.block k4 hPr.out)
        have hE4 := Lib.hid (Ext.next hEr.out k4.ok)
        have q1 := p1 k4
        have q2 := c2 k4
        have qf1 := pf 1 k4
        have qf2 := pf 2 k4
        have q3 := p2 k4
        clear p0 p1 p2 pf c0 c1 c2 c3 c4 c5 c6
        generalize k4.world = w4 at *
        go_cut [] (fun wx => ∃ i' k' : Int, Hid (wx.heap[pb]? = some (.cells #[.int .i64 ((8 : Nat) + 1), .int .i64 i', .int .i64 k'] 166 (0, 0))) ∧ Hid (Only (fun q => q = pb) w4 wx))
        case first =>
          go_region
          all_goals
            go_wp2_with fail
            go_meet
            case rel => exact ⟨_, _, heap_setCell_same _ pb 2 _ _ _ (heap_setCell_same w4 pb 1 _ _ _ hq4.out), (((Only.refl (fun q => q = pb) w4).setCell _ _ fun _ => rfl).setCell _ _ fun _ => rfl).trans (Only.of_ext (S := fun q => q = pb) (Ext.rfl' _).drew1) fun _ _ h => h⟩
        obtain ⟨i', k', hq6, ho6⟩ := hcut
        have hPs : wc.heap[w.heap.size + 1]? = _ := (ho6.out.block _ (blk_lt hPk.out) (by omega)).trans hPk.out
        have hEs := Ext.next HE.out (hE4.out.only ho6.out fun q hq => by rw [hq]; omega)
        have hqs := hq6.out
        obtain ⟨g0, g1, g2⟩ := Lat.cells3 hqs
        obtain ⟨k6, hk6⟩ := lat_self wc
        rw [hk6] at hPs hEs ⊢
        clear hk6 hqs
        go_wp2_with (show wpList _ _ _ ({ dst := _, op := Op.store 166 (Operand.tmp 4) (Operand.tmp 62), type := _, pos := _, after := _, guard := _ } :: _) _ _; refine wpList_store_row rfl _ _ _ rfl (w.heap.size + 1) #[.int .i64 ((8 : Nat) + 1), .int .i64 i', .int .i64 k'] (by kernel_rfl) (by kernel_rfl) _ _ hPs (by kernel_rfl) (by kernel_rfl) (by kernel_rfl) ?_)
        refine bodyPost_ret (results_cell_tmp rfl _ _ (w.heap.size + 1) rfl _ (run_loadVar_row _ _ _ _ _ _ _ (setRow_heap _ _ _ _ _ _ hPs) Try.underlying166 rfl (by kernel_rfl))) rfl ?_
        have hs := Hslot.out hlt
        exact ⟨(8 : Nat) + 1, i', k', rfl, by omega, by omega, fun h => hs.1 (by omega), fun h => by omega, Ext.row hEs (by omega) _⟩
      · have hd9 : ((n : Int) + 1 == 9) = false := by simp; omega
        have hPk := Lat.block k4 hPr.out
        go_wp2_with (show wpList _ _ _ ({ dst := _, op := Op.store 166 (Operand.tmp 4) (Operand.tmp 62), type := _, pos := _, after := _, guard := _ } :: _) _ _; refine wpList_store_row rfl _ _ _ rfl (w.heap.size + 1) #[.int .i64 ((n : Int) + 1), .int .i64 i, .int .i64 0] (by kernel_rfl) (by kernel_rfl) _ _ hPk (by kernel_rfl) (by kernel_rfl) (by kernel_rfl) ?_)
        refine bodyPost_ret (results_cell_tmp rfl _ _ (w.heap.size + 1) rfl _ (run_loadVar_row _ _ _ _ _ _ _ (setRow_heap _ _ _ _ _ _ hPk) Try.underlying166 rfl (by kernel_rfl))) rfl ?_
        have hs := Hslot.out hlt
        exact ⟨(n : Int) + 1, i, 0, rfl, by omega, by omega, fun h => hs.1 (by omega), fun h => (hs.2 (by omega)).1, Ext.row (Ext.next HE.out (Ext.next hEr.out k4.ok)) (by omega) _⟩
    · have hd : decide (M ≤ i) = true := by simp; omega
      go_upto_region 7 with fail
      refine wp_region_cls (Ext wr) (Ext.drew1 k.ok) (by kernel_rfl) (by kernel_rfl) ?_
      repeat (go_big_quiet_step (exact calls_cls (keeps_ext _) (Hmany.out _)))
      refine wpQuiet_nil ?_
      rintro _ ⟨k4, rfl⟩
      go_upto_region 8 with fail
      refine wp_region_cls_tail (Ext wr) 8 (Ext.drew1 k4.ok) (by kernel_rfl) (by kernel_rfl) ?_
      simp only [List.take_succ_cons, List.take_zero, List.drop_succ_cons, List.drop_zero]
      repeat (go_big_quiet_step (exact calls_cls (keeps_ext _) (Hmany.out _)))
      refine wpQuiet_nil ?_
      rintro _ ⟨k5, rfl⟩
      go_wp2_with fail
      have hq5 := Lat.block k5 hq.out
      have hqs := heap_setCell_same (k5.world.setCell ⟨pb, 1, none⟩ (.int .i64 (i - M))) pb 0 _ _ (.int .i64 ((n : Int) + 1 + 1)) (heap_setCell_same k5.world pb 1 _ _ (.int .i64 (i - M)) hq5)
      have ho6 : Only (fun q => q = pb) w2 ((k5.world.setCell ⟨pb, 1, none⟩ (.int .i64 (i - M))).setCell ⟨pb, 0, none⟩ (.int .i64 ((n : Int) + 1 + 1))) := ((ho.out.trans (Only.of_ext (S := fun q => q = pb) k5.ok) fun _ _ h => h).setCell _ _ fun _ => rfl).setCell _ _ fun _ => rfl
      generalize (k5.world.setCell ⟨pb, 1, none⟩ (.int .i64 (i - M))).setCell ⟨pb, 0, none⟩ (.int .i64 ((n : Int) + 1 + 1)) = w6 at *
      have hcell := cellInt_of (x := (n : Int) + 1 + 1) ((Lat.cells3 hqs).1 ⟨w6, Ext.rfl' w6⟩)
      have hcell0 := cellInt_of (p0 k)
      go_roundw
      case rel =>
        refine ⟨n + 1, i - M, by omega, by omega, ?_, hqs, ho6⟩
        show a = _
        rw [← hsum.out]
        have := hai.out
        omega
      case measure =>
        rw [hcell, hcell0]
        omega

theorem slotAt_any (T R H Re Ca S B a : Int) (hok : Okay T R H Re Ca S B) (h0 : 0 ≤ a) (h1 : a < sumOf R H S B 13) (w : World) :
    Calls Try.prog 150 #[(.agg #[.int .i64 T, .int .i64 R, .int .i64 H, .int .i64 Re, .int .i64 Ca, .int .i64 S, .int .i64 B]), .int .i64 a] w fun e w' => e = .returned (.int .i64 (slotF R H S B a)) ∧ Ext w w' := by
  go_enter Try.func150, Try.ntmps150
  go_upto_region 1 with fail
  obtain ⟨w0, hw0, hC, hE, hlt0⟩ := enter1 w (.cells (cfgV T R H Re Ca S B) 23)
  rw [hw0]
  have HE := Lib.hid hE
  obtain ⟨c0, c1, c2, c3, c4, c5, c6⟩ := Lat.cfg hC
  obtain ⟨k0, hk0⟩ := lat_self w0
  rw [hk0]
  clear hw0 hC hE hk0
  go_wp2_with fail
  refine (wordAt_any T R H Re Ca S B a hok h0 h1 _).mono ?_
  rintro e w1 ⟨r, i, k, rfl, hr1, hr2, hs1, hs2, e1⟩
  obtain ⟨k1, rfl⟩ := lat_next k0 e1
  have Hs1 := Lib.hid hs1
  have Hs2 := Lib.hid hs2
  clear e1 k0 hs1 hs2
  by_cases hr : r < 11
  · have hd : decide (11 ≤ r) = false := by simp; omega
    have HS : Hid (slotF R H S B a = -1) := Hs1.out hr
    go_wp2_with fail
    go_ret
    rw [HS.out]
    exact ⟨rfl, (Ext.next HE.out k1.ok).alloc1 _⟩
  · have hd : decide (11 ≤ r) = true := by simp; omega
    have HS : Hid (slotF R H S B a = i) := Hs2.out (by omega)
    go_wp2_with fail
    go_ret
    rw [HS.out]
    exact ⟨rfl, (Ext.next HE.out k1.ok).alloc1 _⟩

theorem results_cell_one {P : Program} {fn : Func} {p : Tmp} {ty : TypeId} (h : fn.results = #[.cell p ty]) (tmps : Array Value) (w : World) (g : Nat) (hp : tmps.getD p undef = .pointer (some ⟨g, 0, none⟩)) (cs : Array Value)
    (hl : (loadVar ty ⟨g, 0, none⟩).run P w = .ok (.agg cs) w) : (results fn tmps).run P w = .ok (.agg cs) w := by
  have hp' : tmps[p]?.getD undef = .pointer (some ⟨g, 0, none⟩) := by simpa using hp
  simp [results, h, hp', asAddr, hl]

set_option maxHeartbeats 2000000 in
theorem refAt_any (T R H Re Ca S B a : Int) (hok : Okay T R H Re Ca S B) (h0 : 0 ≤ a) (h1 : a < sumOf R H S B 13) (w : World) :
    Calls Try.prog 155 #[(.agg #[.int .i64 T, .int .i64 R, .int .i64 H, .int .i64 Re, .int .i64 Ca, .int .i64 S, .int .i64 B]), .int .i64 a] w (PlaceOf (fun v => v) R H S B a w) := by
  have hok' := hok
  unfold Okay at hok'
  obtain ⟨_, _, hR, hR', hH, hH', _, _, _, _, hS, hS', hB, hB'⟩ := hok'
  have Hok := Lib.hid hok
  clear hok
  have hmany := fun r => manyOf_bd R H S B r hR hR' hH hH' hS hS' hB hB'
  have Hm1 : Hid (∀ r, 1 ≤ manyOf R H S B r) := fun r => (hmany r).1
  have hsb := (sumOf_bd R H S B hR hR' hH hH' hS hS' hB hB' 13).2
  generalize hX : sumOf R H S B 13 = X at h1 hsb
  have HX := Lib.hid hX
  clear hX
  go_enter Try.func155, Try.ntmps155
  go_upto_region 1 with fail
  obtain ⟨w0, hw0, hC, hP, hE, hlt0⟩ := enter2 w (.cells (cfgV T R H Re Ca S B) 23) (.cells #[.int .i64 0, .int .i64 0, .int .i64 0] 166)
  rw [hw0]
  have HE := Lib.hid hE
  have HP := Lib.hid hP
  obtain ⟨c0, c1, c2, c3, c4, c5, c6⟩ := Lat.cfg hC
  have hP0 : ∀ c : Lat w0, c.world.heap[w.heap.size + 1]? = _ := fun c => Lat.block c hP
  have HP0 := Lib.hid hP0
  obtain ⟨k0, hk0⟩ := lat_self w0
  rw [hk0]
  clear hw0 hC hE hk0 hP hP0
  go_wp2_with fail
  go_loopw [1, 5] (fun s1 s5 wr => ∃ (n : Nat) (i : Int) (k : Lat w0), n ≤ 12 ∧ 0 ≤ i ∧ s1 = .int .i64 i ∧ s5 = .int .i64 ((n : Int) + 1) ∧ Hid (a = sumOf R H S B n + i) ∧ wr = k.world) (fun _ s _ => 14 - (intOf s).toNat)
  case atStart => exact ⟨0, a, k0, by omega, h0, rfl, rfl, by show a = _; simp [sumOf], rfl⟩
  case round =>
    obtain ⟨n, i, k, hn, hi, rfl, rfl, hai, rfl⟩ := hrel
    have hm := hmany ((n : Int) + 1)
    have hib : i ≤ 13312 := by
      have := hai.out
      have := (sumOf_bd R H S B hR hR' hH hH' hS hS' hB hB' n).1
      omega
    have ha13 : i < manyOf R H S B ((n : Int) + 1) ∨ n < 12 := by
      rcases Nat.lt_or_ge n 12 with h | h
      · exact .inr h
      · left
        obtain rfl : n = 12 := by omega
        have e1 := hai.out
        have e2 := HX.out
        have e3 : sumOf R H S B 13 = sumOf R H S B 12 + manyOf R H S B 13 := rfl
        show i < manyOf R H S B 13
        omega
    have hsum : Hid (sumOf R H S B n + manyOf R H S B ((n : Int) + 1) = sumOf R H S B (n + 1)) := rfl
    have Hslot := Lib.hid (fun h => slotF_at (R := R) (H := H) (S := S) (B := B) Hm1.out hn hi h hai.out)
    generalize hM : manyOf R H S B ((n : Int) + 1) = M at *
    have HM := Lib.hid hM
    clear hM
    by_cases hlt : i < M
    · by_cases h8 : n = 8
      · subst h8
        have hH0 : (H == 0) = false := by simp; omega
        have hH1 : decide (H = 0) = false := by simp; omega
        have hd9 : (((8 : Nat) : Int) + 1 == 9) = true := rfl
        go_wp2_with fail
        refine (refMany_any T R H Re Ca S B _ _ hR hR' hH hH').mono ?_
        rintro e w1 ⟨rfl, e1⟩
        have hM9 : manyOf R H S B 9 = M := HM.out
        rw [hM9]
        clear hM9
        obtain ⟨k1, rfl⟩ := lat_next k e1
        clear e1 k
        go_upto_region 7 with fail
        refine wp_region_cls_tail (Ext w0) 10 (Ext.drew1 k1.ok) (by kernel_rfl) (by kernel_rfl) ?_
        simp only [List.take_succ_cons, List.take_zero, List.drop_succ_cons, List.drop_zero]
        repeat (go_big_quiet_step (fail))
        refine wpQuiet_nil ?_
        rintro _ ⟨k2, rfl⟩
        have hPk := HP0.out k2
        go_wp2_with (show wpList _ _ _ ({ dst := _, op := Op.store 166 (Operand.tmp 4) _, type := _, pos := _, after := _, guard := _ } :: _) _ _; refine wpList_store_row rfl _ _ _ rfl (w.heap.size + 1) #[.int .i64 ((8 : Nat) + 1), .int .i64 (i / H), .int .i64 (i % H)] (by kernel_rfl) (by kernel_rfl) _ _ hPk (by kernel_rfl) (by kernel_rfl) (by kernel_rfl) ?_)
        refine bodyPost_ret (results_cell_one rfl _ _ (w.heap.size + 1) rfl _ (run_loadVar_row _ _ _ _ _ _ _ (setRow_heap _ _ _ _ _ _ hPk) Try.underlying166 rfl (by kernel_rfl))) rfl ?_
        have hs := Hslot.out hlt
        exact ⟨(8 : Nat) + 1, i / H, i % H, rfl, by omega, by omega, fun h => hs.1 (by omega), fun h => by omega, Ext.row (Ext.next HE.out k2.ok) (by omega) _⟩
      · have hd9 : ((n : Int) + 1 == 9) = false := by simp; omega
        go_wp2_with fail
        refine (refMany_any T R H Re Ca S B _ _ hR hR' hH hH').mono ?_
        rintro e w1 ⟨rfl, e1⟩
        rw [HM.out]
        obtain ⟨k1, rfl⟩ := lat_next k e1
        clear e1 k
        have hPk := HP0.out k1
        go_wp2_with (show wpList _ _ _ ({ dst := _, op := Op.store 166 (Operand.tmp 4) _, type := _, pos := _, after := _, guard := _ } :: _) _ _; refine wpList_store_row rfl _ _ _ rfl (w.heap.size + 1) #[.int .i64 ((n : Int) + 1), .int .i64 (i), .int .i64 (0)] (by kernel_rfl) (by kernel_rfl) _ _ hPk (by kernel_rfl) (by kernel_rfl) (by kernel_rfl) ?_)
        refine bodyPost_ret (results_cell_one rfl _ _ (w.heap.size + 1) rfl _ (run_loadVar_row _ _ _ _ _ _ _ (setRow_heap _ _ _ _ _ _ hPk) Try.underlying166 rfl (by kernel_rfl))) rfl ?_
        have hs := Hslot.out hlt
        exact ⟨(n : Int) + 1, i, 0, rfl, by omega, by omega, fun h => hs.1 (by omega), fun h => (hs.2 (by omega)).1, Ext.row (Ext.next HE.out k1.ok) (by omega) _⟩
    · go_wp2_with fail
      refine (refMany_any T R H Re Ca S B _ _ hR hR' hH hH').mono ?_
      rintro e w1 ⟨rfl, e1⟩
      rw [HM.out]
      obtain ⟨k1, rfl⟩ := lat_next k e1
      clear e1 k
      go_wp2_with fail
      go_roundw
      case rel =>
        refine ⟨n + 1, i - M, k1, by omega, by omega, by go_num, by go_num, ?_, rfl⟩
        show a = _
        rw [← hsum.out]
        have := hai.out
        omega
      case measure => simp [intOf]; omega

/-- Whether a thread may access a slot's words: its state, its holder, the thread. -/
def openF (s h t : Int) : Bool := if s = 3 ∨ s = 4 ∨ s = 5 then true else if s = 2 then decide (h = t) else false
/-- Whether a change of state may be made: from, to, and whether the thread holds the slot. -/
def allowF (fr tt : Int) (own : Bool) : Bool :=
  if fr = 0 then decide (tt = 2) else if fr = 1 then own && decide (tt = 2 ∨ tt = 0) else if fr = 2 then own && decide (tt = 3 ∨ tt = 1 ∨ tt = 0) else if fr = 3 then decide (tt = 4)
  else if fr = 4 then own && decide (tt = 5) else decide (tt = 1 ∨ tt = 0)

set_option maxHeartbeats 1000000 in
theorem slotOf_any (T R H Re Ca S B a : Int) (hok : Okay T R H Re Ca S B) (h0 : 0 ≤ a) (h1 : a < sumOf R H S B 13) (w : World) :
    Calls Try.prog 124 #[(.agg #[.int .i64 T, .int .i64 R, .int .i64 H, .int .i64 Re, .int .i64 Ca, .int .i64 S, .int .i64 B]), .int .i64 a] w fun e w' => e = .returned (.int .i64 (slotF R H S B a)) ∧ Ext w w' := by
  go_enter Try.func124, Try.ntmps124
  go_upto_region 1 with fail
  obtain ⟨w0, hw0, hC, hE, hlt0⟩ := enter1 w (.cells (cfgV T R H Re Ca S B) 23)
  rw [hw0]
  have HE := Lib.hid hE
  obtain ⟨c0, c1, c2, c3, c4, c5, c6⟩ := Lat.cfg hC
  obtain ⟨k0, hk0⟩ := lat_self w0
  rw [hk0]
  clear hw0 hC hE hk0
  go_wp2_with fail
  refine (refAt_any T R H Re Ca S B a hok h0 h1 _).mono ?_
  rintro e w1 ⟨r, i, k, rfl, hr1, hr2, hs1, hs2, e1⟩
  obtain ⟨k1, rfl⟩ := lat_next k0 e1
  have Hs1 := Lib.hid hs1
  have Hs2 := Lib.hid hs2
  clear e1 k0 hs1 hs2
  by_cases hr : r < 11
  · have hd1 : (r == 11) = false := by simp; omega
    have hd2 : (r == 12) = false := by simp; omega
    have hd3 : (r == 13) = false := by simp; omega
    have HS : Hid (slotF R H S B a = -1) := Hs1.out hr
    go_wp2_with fail
    go_ret
    rw [HS.out]
    exact ⟨rfl, (Ext.next HE.out k1.ok).alloc1 _⟩
  · have HS : Hid (slotF R H S B a = i) := Hs2.out (by omega)
    rcases (by omega : r = 11 ∨ r = 12 ∨ r = 13) with rfl | rfl | rfl
    all_goals
      go_wp2_with fail
      go_ret
      rw [HS.out]
      exact ⟨rfl, (Ext.next HE.out k1.ok).alloc1 _⟩

theorem refOpen_any (s h t : Int) (hs0 : 0 ≤ s) (hs1 : s ≤ 5) (w : World) :
    Calls Try.prog 125 #[.int .i64 s, .int .i64 h, .int .i64 t] w fun e w' => e = .returned (.bool (openF s h t)) ∧ w' = w := by
  go_enter Try.func125, Try.ntmps125
  rcases (by omega : s = 0 ∨ s = 1 ∨ s = 2 ∨ s = 3 ∨ s = 4 ∨ s = 5) with rfl | rfl | rfl | rfl | rfl | rfl
  all_goals
    go_wp2_with fail
    go_ret
    exact ⟨(by first | rfl | (simp [openF]; done)), rfl⟩

set_option maxHeartbeats 1000000 in
theorem open_any (B p g1 c1 g2 c2 n j : Nat) (st ho : List Int) (s h t : Int) (w : World) (hS : SlotsObj w B p g1 c1 g2 c2 n st ho) (hs : st[j]? = some s) (hh : ho[j]? = some h) (hs0 : 0 ≤ s) (hs1 : s ≤ 5) :
    Calls Try.prog 151 #[.pointer (some ⟨p, 0, none⟩), .int .i64 j, .int .i64 t] w fun e w' => e = .returned (.bool (openF s h t)) ∧ w' = w := by
  have hj : j < n := by rw [← hS.lens.1]; exact (List.getElem?_eq_some_iff.1 hs).1
  obtain ⟨q0, q1⟩ := hS.cells
  obtain ⟨x, hx, hcx⟩ := hS.elem1 hj
  obtain ⟨y, hy, hcy⟩ := hS.elem2 hj
  obtain rfl : s = x := by rw [hs] at hx; exact Option.some.inj hx
  obtain rfl : h = y := by rw [hh] at hy; exact Option.some.inj hy
  have hj0 : (0 : Int) ≤ (j : Int) := by omega
  have hj1 : (j : Int) < (n : Int) := by omega
  clear hx hy hS hs hh
  go_enter Try.func151, Try.ntmps151
  rcases (by omega : s = 0 ∨ s = 1 ∨ s = 2 ∨ s = 3 ∨ s = 4 ∨ s = 5) with rfl | rfl | rfl | rfl | rfl | rfl
  all_goals
    go_wp2_with fail
    go_ret
    exact ⟨(by first | rfl | (simp [openF]; done)), rfl⟩

set_option maxRecDepth 100000 in
set_option maxHeartbeats 4000000 in
theorem refMay_right (mv th sl fr tt h : Int) (hf0 : 0 ≤ fr) (hf1 : fr ≤ 5) (ht0 : 0 ≤ tt) (ht1 : tt ≤ 5) (w : World) :
    Calls Try.prog 126 #[.agg #[.int .i64 mv, .int .i64 th, .int .i64 sl, .int .i64 fr, .int .i64 tt], .int .i64 h] w fun e w' => e = .returned (.bool (allowF fr tt (decide (h = th)))) ∧ Ext w w' := by
  go_enter Try.func126, Try.ntmps126
  go_upto_region 1 with fail
  obtain ⟨w0, hw0, hX, hE, _⟩ := enter1 w (.cells #[.int .i64 mv, .int .i64 th, .int .i64 sl, .int .i64 fr, .int .i64 tt] 136)
  rw [hw0]
  have HE := Lib.hid hE
  have x1 := Lat.cells (i := 1) hX rfl
  have x3 := Lat.cells (i := 3) hX rfl
  have x4 := Lat.cells (i := 4) hX rfl
  obtain ⟨k, hk⟩ := lat_self w0
  rw [hk]
  clear hw0 hX hE hk
  refine wp_region_cls (Ext w0) (Ext.drew1 k.ok) (by kernel_rfl) (by kernel_rfl) ?_
  repeat (go_big_quiet_step (fail))
  refine wpQuiet_nil ?_
  rintro _ ⟨k1, rfl⟩
  have HE1 := Lib.hid (Ext.next HE.out k1.ok)
  by_cases ho : h = th
  case' pos =>
    have hd : (h == th) = true := by simp; exact ho
    have Ho : Hid (decide (h = th) = true) := by show _ = _; simp; exact ho
    clear ho
  case' neg =>
    have hd : (h == th) = false := by simp; exact ho
    have Ho : Hid (decide (h = th) = false) := by show _ = _; simp; exact ho
    clear ho
  all_goals
    rcases (by omega : fr = 0 ∨ fr = 1 ∨ fr = 2 ∨ fr = 3 ∨ fr = 4 ∨ fr = 5) with rfl | rfl | rfl | rfl | rfl | rfl
    all_goals
      rcases (by omega : tt = 0 ∨ tt = 1 ∨ tt = 2 ∨ tt = 3 ∨ tt = 4 ∨ tt = 5) with rfl | rfl | rfl | rfl | rfl | rfl
      all_goals as_aux_lemma =>
        clear hf0 hf1 ht0 ht1
        go_wp2_with fail
        go_ret
        exact ⟨by rw [Ho.out]; rfl, HE1.out⟩

set_option maxRecDepth 100000 in
set_option maxHeartbeats 4000000 in
theorem allowed_any (B p g1 c1 g2 c2 n j : Nat) (st ho : List Int) (mv th fr tt h : Int) (w : World) (hS : SlotsObj w B p g1 c1 g2 c2 n st ho) (hh : ho[j]? = some h) (hf0 : 0 ≤ fr) (hf1 : fr ≤ 5) (ht0 : 0 ≤ tt) (ht1 : tt ≤ 5) :
    Calls Try.prog 152 #[.pointer (some ⟨p, 0, none⟩), .agg #[.int .i64 mv, .int .i64 th, .int .i64 j, .int .i64 fr, .int .i64 tt]] w fun e w' => e = .returned (.bool (allowF fr tt (decide (h = th)))) ∧ Ext w w' := by
  have hj : j < n := by rw [← hS.lens.2]; exact (List.getElem?_eq_some_iff.1 hh).1
  have hj0 : (0 : Int) ≤ (j : Int) := by omega
  have hj1 : (j : Int) < (n : Int) := by omega
  have HS := Lib.hid hS
  have Hh := Lib.hid hh
  clear hS hh
  go_enter Try.func152, Try.ntmps152
  go_upto_region 1 with fail
  obtain ⟨w0, hw0, hX, hE, _⟩ := enter1 w (.cells #[.int .i64 mv, .int .i64 th, .int .i64 j, .int .i64 fr, .int .i64 tt] 136)
  rw [hw0]
  have HE := Lib.hid hE
  have hS0 := HS.out.ext hE
  obtain ⟨q0, q1⟩ := hS0.lat
  obtain ⟨y, hy, hcy⟩ := hS0.lat2 hj
  obtain rfl : h = y := by rw [Hh.out] at hy; exact Option.some.inj hy
  have x1 := Lat.cells (i := 1) hX rfl
  have x2 := Lat.cells (i := 2) hX rfl
  have x3 := Lat.cells (i := 3) hX rfl
  have x4 := Lat.cells (i := 4) hX rfl
  obtain ⟨k, hk⟩ := lat_self w0
  rw [hk]
  clear hw0 hX hE hk hy hS0
  refine wp_region_cls (Ext w0) (Ext.drew1 k.ok) (by kernel_rfl) (by kernel_rfl) ?_
  repeat (go_big_quiet_step (fail))
  refine wpQuiet_nil ?_
  rintro _ ⟨k1, rfl⟩
  have HE1 := Lib.hid (Ext.next HE.out k1.ok)
  by_cases ho' : h = th
  case' pos =>
    have hd : (h == th) = true := by simp; exact ho'
    have Ho : Hid (decide (h = th) = true) := by show _ = _; simp; exact ho'
    clear ho'
  case' neg =>
    have hd : (h == th) = false := by simp; exact ho'
    have Ho : Hid (decide (h = th) = false) := by show _ = _; simp; exact ho'
    clear ho'
  all_goals
    rcases (by omega : fr = 0 ∨ fr = 1 ∨ fr = 2 ∨ fr = 3 ∨ fr = 4 ∨ fr = 5) with rfl | rfl | rfl | rfl | rfl | rfl
    all_goals
      rcases (by omega : tt = 0 ∨ tt = 1 ∨ tt = 2 ∨ tt = 3 ∨ tt = 4 ∨ tt = 5) with rfl | rfl | rfl | rfl | rfl | rfl
      all_goals as_aux_lemma =>
        clear hf0 hf1 ht0 ht1
        go_wp2_with fail
        go_ret
        exact ⟨by rw [Ho.out]; rfl, HE1.out⟩

end Go.Proofs.Ytfbacopjookplaa
