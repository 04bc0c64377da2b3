/- The walks of schedule.Heap[float64, int]: what its methods do to a heap in memory. -/
import Derived.Test.YtjemlenjencbkaaHeapMem
import Derived.Test.YtjemlenjencbkaaHeapCmp
import Derived.BigRegion
import Derived.Deep.RegionLaw
import Derived.Deep.DeepCutAuto
namespace Go.Proofs.Ytjemlenjencbkaa
open Go.RowKit

theorem elemNdFI : Elem Try.prog 82 3 24 := Elem.of (z := .agg #[.float .f64 0, .int .i64 0, .int .i64 0]) (by kernel_rfl) rfl (by decide) (by decide)

/-- Such a heap in memory. -/
abbrev HFI (w : World) (B H : Nat) (v : Value) (l : List (Nd Nat Int)) (T : Int) : Prop := HObj (Value.float .f64) (Value.int .i64) 62 82 w B H v l T

theorem lenFI_any (B H : Nat) (v : Value) (l : List (Nd Nat Int)) (T : Int) (w : World) (ho : HFI w B H v l T) :
    Calls Try.prog 30 #[.pointer (some ⟨H, 0, none⟩)] w fun e w' => e = .returned (.int .i64 l.length) ∧ w' = w := by
  have Ho := Lib.hid ho
  have h0 := ho.cell0
  obtain ⟨A, c, rfl⟩ := own_form ho.own
  clear ho
  go_enter Try.func30, Try.ntmps30
  go_wp2
  go_ret
  exact ⟨rfl, rfl⟩

set_option maxHeartbeats 1000000 in
theorem aheadFI_any (B H : Nat) (v : Value) (l : List (Nd Nat Int)) (T : Int) (w : World) (ho : HFI w B H v l T) (I J : Int) (i j : Nat) (hI : I = i) (hJ : J = j) (a b : Nd Nat Int) (hi : Hid (l[i]? = some a)) (hj : Hid (l[j]? = some b)) (hn : l.length ≤ 140737488355328) :
    Calls Try.prog 29 #[.pointer (some ⟨H, 0, none⟩), .int .i64 I, .int .i64 J] w fun e w' => e = .returned (.bool (nAhead cmpF a b)) ∧ Ext w w' := by
  subst hI hJ
  have hil := (List.getElem?_eq_some_iff.1 hi.out).1
  have hjl := (List.getElem?_eq_some_iff.1 hj.out).1
  have h0 := ho.cell0
  have hH := ho.lt
  have hown := ho.own
  obtain ⟨G, c, rfl, hnc, _, hG⟩ := own_form1 hown (by omega)
  obtain ⟨k1, v1, t1⟩ := a
  obtain ⟨k2, v2, t2⟩ := b
  obtain ⟨a0, a1, a2⟩ := own_nd hown hi.out
  obtain ⟨b0, b1, b2⟩ := own_nd hown hj.out
  generalize hn' : l.length = n at *
  clear hn' hown ho hi hj
  simp only at a0 a1 a2 b0 b1 b2
  have fin : ∀ c0 : Int, c0 = cmpF k1 k2 → (c0 = 0 → decide (t1 < t2) = nAhead cmpF (k1, v1, t1) (k2, v2, t2)) ∧ (c0 ≠ 0 → decide (c0 < 0) = nAhead cmpF (k1, v1, t1) (k2, v2, t2)) := by
    intro c0 hc0
    subst hc0
    exact ⟨fun e => by simp only [nAhead, if_pos e], fun e => by simp only [nAhead, if_neg e]⟩
  have Fin := Lib.hid fin
  clear fin
  generalize hr : nAhead cmpF (k1, v1, t1) (k2, v2, t2) = r at Fin ⊢
  clear hr
  go_enter Try.func29, Try.ntmps29
  go_wp2_with fail
  go_region
  all_goals
    go_wp2_with fail
    refine (compareFI_any k1 k2 _).mono ?_
    rintro e w1 ⟨rfl, rfl⟩
    have FinC := Lib.hid (Fin.out _ rfl)
    generalize cmpF k1 k2 = c0 at FinC ⊢
    by_cases hz : c0 = 0
    · have hf := Lib.hid (FinC.out.1 hz)
      subst hz
      go_wp2
      go_ret
      exact ⟨ret_bool hf.out, (((Ext.rfl' w).alloc (Nat.le_refl _) _).alloc (by simp) _).drew⟩
    · have hf := Lib.hid (FinC.out.2 hz)
      have hzb : (c0 != 0) = true := by simpa using hz
      clear hz
      go_wp2
      go_ret
      exact ⟨ret_bool hf.out, (((Ext.rfl' w).alloc (Nat.le_refl _) _).alloc (by simp) _).drew⟩

set_option maxHeartbeats 1000000 in
theorem putFI_any (B H : Nat) (v : Value) (l : List (Nd Nat Int)) (T : Int) (w : World) (ho : HFI w B H v l T) (hB : B ≤ w.heap.size) (k : Nat) (x : Int) (hl : (l.length + 1) * 24 ≤ 140737488355328) (hT0 : 0 ≤ T) (hT1 : T ≤ 140737488355328) :
    Calls Try.prog 21 #[.pointer (some ⟨H, 0, none⟩), ((Value.float .f64) k), ((Value.int .i64) x)] w fun e w' => e = .returned (.tuple #[]) ∧
      ∃ v', HFI w' B H v' (nPut cmpF l (k, x, T)) (T + 1) ∧ Only (fun q => q = H ∨ v.ownBlock = some q) w w' ∧ (v'.ownBlock = v.ownBlock ∨ ∃ g, v'.ownBlock = some g ∧ w.heap.size ≤ g) := by
  have h0 := ho.cell0
  have h1 := ho.cell1
  have hH := ho.lt
  have hf0 := ho.free 0
  have hf1 := ho.free 1
  have hown := ho.own
  have hap := Lib.hid (ho.apart (by decide))
  have hblk := Lib.hid ho.blk
  obtain ⟨A, c, rfl⟩ := own_form hown
  clear ho
  go_enter Try.func21, Try.ntmps21
  go_upto_region 1 with fail
  go_cut [] (fun wx => ∃ v', HFI wx B H v' (l ++ [(k, x, T)]) T ∧ Only (fun q => q = H ∨ (Value.slice A l.length c).ownBlock = some q) w wx ∧ (v'.ownBlock = (Value.slice A l.length c).ownBlock ∨ ∃ g, v'.ownBlock = some g ∧ w.heap.size ≤ g))
  case first =>
    have hnew : (nCells (Value.float .f64) (Value.int .i64) (k, x, T)).length = 1 * 3 := rfl
    have hrd := Rd.made w (nCells (Value.float .f64) (Value.int .i64) (k, x, T)) 82
    have hone : ∀ u ∈ nCells (Value.float .f64) (Value.int .i64) (k, x, T), u.oneCell' = true := by intro u hu; simp [nCells] at hu; rcases hu with rfl | rfl | rfl <;> rfl
    go_region_law ((refine step_appendR _ rfl (.tmp 14) (.tmp 22) 60 rfl B 82 3 24 elemNdFI Try.underlying60 (.slice A l.length c) l.length _ (by simp [Act.eval]) (hown.alloc _) (some ⟨w.heap.size, 0, none⟩) 1 1 (nCells (Value.float .f64) (Value.int .i64) (k, x, T)) (by simp [Act.eval]) hnew hrd hone hl (by simp; omega) ?_; intro v' w1 hown1 hgrow1 hat1; have hb1 := (hgrow1.block H (by simp; omega) (fun e => hap.out e.symm)).trans ((heap_alloc_old w _ hH).trans hblk.out); have hc1 := cellOf (i := 0) hb1 rfl; have hc2 := cellOf (i := 1) hb1 rfl; have hf1 := freeOf hb1 0; have hf2 := freeOf hb1 1; obtain ⟨G', c', rfl, hcc', hG', hG2'⟩ := own_form1 hown1 (by omega)))
    all_goals
      go_wp2_with fail
      go_meet
      exact put_cut (by decide) hb1 hown1 hgrow1 hat1
  case rest =>
    obtain ⟨v', ho1, hon1, hat1⟩ := hcut
    have Hat := Lib.hid hat1
    have Hon := Lib.hid hon1
    have hc0 := ho1.cell0
    have hc1 := ho1.cell1
    have hfr := ho1.free 1
    have hown1 := ho1.own
    have hap1 := Lib.hid (ho1.apart (by decide))
    have hblk1 := Lib.hid ho1.blk
    obtain ⟨G, c', rfl, hcc, hBG, hGl⟩ := own_form1 hown1 (by simp)
    have hlen : (l ++ [(k, x, T)]).length = l.length + 1 := by simp
    rw [hlen] at hc0 hown1 hcc
    clear hat1 hon1 ho1 hown h0 h1 hf0 hf1 hH
    obtain ⟨n, hn⟩ : ∃ n, n = l.length + 1 := ⟨_, rfl⟩
    have hstart : HFI (wc.setCell ⟨H, 1, none⟩ (.int .i64 (T + 1))) B H (.slice (some ⟨G, 0, none⟩) n c') (l ++ [(k, x, T)]) (T + 1) := by
      refine ⟨?_, ?_⟩
      · rw [heap_setCell_same _ _ _ _ _ _ hblk1.out, hlen, ← hn]; rfl
      · have := ownsRow_setCell_other hown1 (a := ⟨H, 1, none⟩) (by rw [← hlen]; exact hap1.out) (.int .i64 (T + 1))
        rw [hn, hlen]
        exact this
    have hon2 : Only (fun q => q = H ∨ q = G) wc (wc.setCell ⟨H, 1, none⟩ (.int .i64 (T + 1))) := (Only.refl _ wc).setCell _ _ fun _ => .inl rfl
    rw [← hn] at hc0 hown1 hcc
    have Hn := Lib.hid hn
    have Hlen := Lib.hid hlen
    have hn24 : n * 24 ≤ 140737488355328 := by rw [hn]; exact hl
    have hgoal : ∀ wz m, HFI wz B H (.slice (some ⟨G, 0, none⟩) n c') m (T + 1) → Only (fun q => q = H ∨ q = G) wc wz → Hid (m = nPut cmpF l (k, x, T)) →
        ∃ v', HFI wz B H v' (nPut cmpF l (k, x, T)) (T + 1) ∧ Only (fun q => q = H ∨ (Value.slice A l.length c).ownBlock = some q) w wz ∧ (v'.ownBlock = (Value.slice A l.length c).ownBlock ∨ ∃ g, v'.ownBlock = some g ∧ w.heap.size ≤ g) := by
      intro wz m h1 h2 h3
      refine ⟨.slice (some ⟨G, 0, none⟩) n c', h3.out ▸ h1, Hon.out.trans h2 fun q hq hs => ?_, Hat.out⟩
      rcases hs with rfl | rfl
      · exact .inl rfl
      · rcases Hat.out with h | ⟨g, h, hg⟩
        · exact .inr (h.symm.trans rfl)
        · have h' : q = g := by injection h
          omega
    have Hgoal := Lib.hid hgoal
    have hst := Lib.hid hstart
    have hl1 : (1 : Int) ≤ n := by omega
    have hl2 : ((l.length : Nat) : Int) = (n : Int) - 1 := by omega
    have Hl2 := Lib.hid hl2
    clear hn hlen hgoal hstart hl hl2 hblk hap
    go_wp2_with fail
    go_loopw [6, 7] (fun s6 s7 wr => ∃ (i f : Nat) (m : List (Nd Nat Int)), s6 = .int .i64 i ∧ i ≤ f ∧ i < n ∧ Hid (m.length = n) ∧ Hid (nUp cmpF f m i = nPut cmpF l (k, x, T)) ∧ HFI wr B H (.slice (some ⟨G, 0, none⟩) n c') m (T + 1) ∧ Only (fun q => q = H ∨ q = G) wc wr)
      (fun s6 _ _ => (intOf s6).toNat)
    case atStart => exact ⟨l.length, l.length, l ++ [(k, x, T)], by rw [Hl2.out], Nat.le_refl _, by have := Hn.out; omega, by rw [Hn.out]; exact Hlen, rfl, hst.out, hon2⟩
    case round =>
      obtain ⟨i, f, m, rfl, hif, hin, hml, hup, hobj, hon⟩ := hrel
      have Hobj := Lib.hid hobj
      have Hon' := Lib.hid hon
      clear hobj hon
      rcases Nat.eq_zero_or_pos i with hi0 | hi0
      · subst hi0
        go_wp2_with fail
        go_end0
        exact ⟨rfl, Hgoal.out _ m Hobj.out Hon'.out (by have := hup.out; cases f <;> exact this)⟩
      · obtain ⟨j, rfl⟩ : ∃ j, i = j + 1 := ⟨i - 1, by omega⟩
        obtain ⟨f, rfl⟩ : ∃ f', f = f' + 1 := ⟨f - 1, by omega⟩
        obtain ⟨a, ha⟩ : ∃ a, m[j + 1]? = some a := ⟨_, List.getElem?_eq_getElem (by rw [hml.out]; exact hin)⟩
        obtain ⟨b, hb⟩ : ∃ b, m[j / 2]? = some b := ⟨_, List.getElem?_eq_getElem (by rw [hml.out]; omega)⟩
        have Ha := Lib.hid ha
        have Hb := Lib.hid hb
        have hstep : nUp cmpF (f + 1) m (j + 1) = if nAhead cmpF a b then nUp cmpF f (nSwap m (j + 1) (j / 2)) (j / 2) else m := by
          rw [nUp, if_neg (by omega), show j + 1 - 1 = j from rfl, ha, hb]
        rw [hstep] at hup
        clear ha hb hstep
        go_wp2_with fail
        refine (aheadFI_any B H _ m (T + 1) _ Hobj.out _ _ (j + 1) (j / 2) (by omega) (by omega) a b Ha Hb (by rw [hml.out]; omega)).mono ?_
        rintro e w1 ⟨rfl, hext⟩
        have Hobj1 := Lib.hid (Hobj.out.ext hext)
        have Hon1 := Lib.hid (Hon'.out.trans (Only.of_ext (S := fun q => q = H ∨ q = G) hext) fun _ _ h => h)
        clear hext
        cases hd : nAhead cmpF a b with
        | false =>
          rw [hd] at hup
          clear hd
          go_wp2_with fail
          exact bodyPost_ret (v := .tuple #[]) (results_none rfl _ _ _) rfl ⟨rfl, Hgoal.out _ m Hobj1.out Hon1.out hup⟩
        | true =>
          rw [hd] at hup
          clear hd
          have q0 := Hobj1.out.cell0
          have hownA := Hobj1.out.own
          obtain ⟨a0, a1, a2⟩ := own_nd (n := n) (G := G) (c := c') (by rw [hml.out] at hownA; exact hownA) Ha.out
          obtain ⟨b0, b1, b2⟩ := own_nd (n := n) (G := G) (c := c') (by rw [hml.out] at hownA; exact hownA) Hb.out
          have hfr : ∀ q, w1.frozen? ⟨G, q, none⟩ = false := fun q => by rw [hml.out] at hownA; exact hownA.frozenAt q
          have fa0 := hfr ((j + 1) * 3)
          have fa1 := hfr ((j + 1) * 3 + 1)
          have fa2 := hfr ((j + 1) * 3 + 2)
          have fb0 := hfr (j / 2 * 3)
          have fb1 := hfr (j / 2 * 3 + 1)
          have fb2 := hfr (j / 2 * 3 + 2)
          clear hownA hfr hown1 hc0 hc1
          obtain ⟨ka, va, ta⟩ := a
          obtain ⟨kb, vb, tb⟩ := b
          simp only at a0 a1 a2 b0 b1 b2
          go_wp2_with fail
          go_region
          go_wp2_with fail
          go_roundw
          case rel =>
            have hs := HObj.swap (a := (ka, va, ta)) (b := (kb, vb, tb)) Hobj1.out (by decide) hml.out Ha.out Hb.out
            simp only at hs
            refine ⟨j / 2, f, nSwap m (j + 1) (j / 2), by go_num, by omega, by omega, (nSwap_length _ _ _).trans hml.out, (by show _ = _; simpa using hup.out), hs.drew, ?_⟩
            have hS : ∀ (u : World) (q : Nat) (y : Value), Only (fun q => q = H ∨ q = G) wc u → Only (fun q => q = H ∨ q = G) wc (u.setCell ⟨G, q, none⟩ y) := fun u q y h => h.setCell _ _ fun _ => .inr rfl
            exact (hS _ _ _ (hS _ _ _ (hS _ _ _ (hS _ _ _ (hS _ _ _ (hS _ _ _ Hon1.out)))))).drew
          case measure => simp [intOf]; omega

end Go.Proofs.Ytjemlenjencbkaa
