/- The walk of schedule.Heap[string, int].Next. -/
import Derived.Test.YtjemlenjencbkaaHeapSI
namespace Go.Proofs.Ytjemlenjencbkaa
open Go.RowKit

set_option maxHeartbeats 400000 in
theorem nextSI_none (B H : Nat) (v : Value) (T : Int) (w : World) (ho : HSI w B H v [] T) :
    Calls Try.prog 19 #[.pointer (some ⟨H, 0, none⟩)] w fun e w' => e = .returned (.tuple #[.string ByteArray.empty, .int .i64 0, .bool false]) ∧ Ext w w' := by
  have Ho := Lib.hid ho
  clear ho
  go_enter Try.func19, Try.ntmps19
  go_wp2_with fail
  refine (lenSI_any B H v [] T _ Ho.out).mono ?_
  rintro e w1 ⟨rfl, rfl⟩
  go_wp2_with fail
  go_quiet (fail)
  go_wp2_with fail
  go_ret3
  exact ⟨rfl, Ext.next ((Ext.rfl' _).alloc (Nat.le_refl _) _) (Ext.drawn _ _)⟩

theorem nBestSI_in (m : List (Nd ByteArray Int)) {i k n : Nat} (hm : m.length = n) (hi : i < n) : nBest cmpStr m i k < n := by
  unfold nBest
  split
  · rename_i a b ha hb
    have := (List.getElem?_eq_some_iff.1 ha).1
    split <;> omega
  · exact hi
theorem nBestSI_out (m : List (Nd ByteArray Int)) {i k n : Nat} (hm : m.length = n) (hk : n ≤ k) : nBest cmpStr m i k = i := by
  unfold nBest
  rw [List.getElem?_eq_none (by omega)]
theorem nBestSI_of {m : List (Nd ByteArray Int)} {i k : Nat} {a b : Nd ByteArray Int} (ha : m[k]? = some a) (hb : m[i]? = some b) : nBest cmpStr m i k = if nAhead cmpStr a b then k else i := by
  unfold nBest
  rw [ha, hb]

set_option maxHeartbeats 2000000 in
theorem nextSI_some (B H : Nat) (v : Value) (l : List (Nd ByteArray Int)) (T : Int) (w : World) (ho : HSI w B H v l T) (k : ByteArray) (x : Int) (t : Int) (hl0 : l[0]? = some (k, x, t)) (hl : l.length * 32 ≤ 140737488355328) :
    Calls Try.prog 19 #[.pointer (some ⟨H, 0, none⟩)] w fun e w' => e = .returned (.tuple #[(Value.string) k, (Value.int .i64) x, .bool true]) ∧
      ∃ v', HSI w' B H v' (nRest cmpStr l) T ∧ Only (fun q => q = H ∨ v.ownBlock = some q) w w' ∧ v'.ownBlock = v.ownBlock := by
  have Ho := Lib.hid ho
  have hpos : 0 < l.length := (List.getElem?_eq_some_iff.1 hl0).1
  obtain ⟨z, hz⟩ : ∃ z, l[l.length - 1]? = some z := ⟨_, List.getElem?_eq_getElem (by omega)⟩
  obtain ⟨kz, xz, tz⟩ := z
  have hlast : l.getLast? = some (kz, xz, tz) := by rw [List.getLast?_eq_getElem?]; exact hz
  have hrest : nRest cmpStr l = nDown cmpStr (l.length - 1) ((l.set 0 (kz, xz, tz)).take (l.length - 1)) 0 := by unfold nRest; rw [hlast]
  have hown := ho.own
  obtain ⟨G, c, rfl, hcc, hBG, hGl⟩ := own_form1 hown hpos
  obtain ⟨n, hn⟩ : ∃ n, n = l.length - 1 := ⟨_, rfl⟩
  have hnl : l.length = n + 1 := by omega
  rw [hnl] at hown hcc
  have h0 := ho.cell0
  rw [hnl] at h0
  have hH := ho.lt
  have hHf := ho.free 0
  obtain ⟨a0, a1, a2⟩ := own_nd hown hl0
  rw [Nat.zero_mul] at a0 a1 a2
  rw [Nat.zero_add] at a1 a2
  rw [← hn] at hz hrest
  obtain ⟨b0, b1, b2⟩ := own_nd hown hz
  have f0 := hown.frozenAt 0
  have f1 := hown.frozenAt 1
  have f2 := hown.frozenAt 2
  simp only at a0 a1 a2 b0 b1 b2
  have hHG : H ≠ G := fun e => ho.apart (by decide) (by rw [e]; rfl)
  have Hrest := Lib.hid hrest
  have Hnl := Lib.hid hnl
  have hn24 : (n + 1) * 32 ≤ 140737488355328 := by rw [← hnl]; exact hl
  have hne : ((n : Int) + 1 == 0) = false := by simp; omega
  have Hz := Lib.hid hz
  have Hl0 := Lib.hid hl0
  clear ho hlast hrest hn hnl hl hz hpos hl0 hown
  go_enter Try.func19, Try.ntmps19
  go_wp2_with fail
  refine (lenSI_any B H _ l T _ Ho.out).mono ?_
  rintro e w1 ⟨rfl, rfl⟩
  rw [Hnl.out]
  go_wp2_with fail
  go_region
  go_wp2_with fail
  obtain ⟨hs1, hs2, hs3⟩ := next_start (n := n) (G := G) (c := c) (z := (kz, xz, tz)) (cs := #[(Value.string) k, (Value.int .i64) x, .int .i64 t]) Ho.out (by decide) Hnl.out
  simp only at hs1 hs2 hs3
  have Hs1 := Lib.hid hs1
  have Hs2 := Lib.hid hs2
  have Hs3 := Lib.hid hs3
  obtain ⟨F, hF⟩ : ∃ F, F = w1.heap.size := ⟨_, rfl⟩
  rw [← hF] at Hs2 ⊢
  have HF := Lib.hid hF
  have Hm : Hid (((l.set 0 (kz, xz, tz)).take n).length = n) := by show _ = _; simp [Hnl.out]
  clear hs1 hs2 hs3 hF a0 a1 a2 b0 b1 b2 f0 f1 f2 h0 hHf
  have hgoal : ∀ wz m, HSI wz B H (.slice (some ⟨G, 0, none⟩) n c) m T → Only (fun q => q = H ∨ q = G) w1 wz → Hid (m = nRest cmpStr l) →
      ∃ v', HSI wz B H v' (nRest cmpStr l) T ∧ Only (fun q => q = H ∨ (Value.slice (some ⟨G, 0, none⟩) l.length c).ownBlock = some q) w1 wz ∧ v'.ownBlock = (Value.slice (some ⟨G, 0, none⟩) l.length c).ownBlock := by
    intro wz m h1 h2 h3
    exact ⟨.slice (some ⟨G, 0, none⟩) n c, h3.out ▸ h1, h2.mono fun q _ hq => hq.elim .inl (fun e => .inr (by rw [e]; rfl)), rfl⟩
  have Hgoal := Lib.hid hgoal
  clear hgoal
  go_loopw [8, 9, 11] (fun s8 _ _ wr => ∃ (i f : Nat) (m : List (Nd ByteArray Int)), s8 = .int .i64 i ∧ n ≤ i + f ∧ i ≤ n ∧ Hid (0 < n → i < n) ∧ Hid (m.length = n) ∧ Hid (nDown cmpStr f m i = nRest cmpStr l) ∧ HSI wr B H (.slice (some ⟨G, 0, none⟩) n c) m T ∧ Only (fun q => q = H ∨ q = G) w1 wr ∧
      wr.heap[F]? = some (.cells #[(Value.string) k, (Value.int .i64) x, .int .i64 t] 79 (0, 0)))
    (fun s8 _ _ _ => n - (intOf s8).toNat)
  case atStart => exact ⟨0, n, _, rfl, by omega, by omega, fun h => h, Hm.out, by show _ = _; rw [Hrest.out], Hs1.out, Hs3.out, Hs2.out⟩
  case round =>
    obtain ⟨i, f, m, rfl, hnf, hin, hin0, hml, hdn, hobj, hon, hfst⟩ := hrel
    have Hobj := Lib.hid hobj
    have Hon := Lib.hid hon
    have Hfst := Lib.hid hfst
    clear hobj hon hfst
    obtain ⟨k1, hk1⟩ : ∃ k1, k1 = nBest cmpStr m i (2 * i + 1) := ⟨_, rfl⟩
    obtain ⟨k2, hk2⟩ : ∃ k2, k2 = nBest cmpStr m k1 (2 * i + 2) := ⟨_, rfl⟩
    have Hk1 := Lib.hid hk1
    have Hk2 := Lib.hid hk2
    clear hk1 hk2
    go_wp2_with fail
    obtain ⟨wo, rfl⟩ : ∃ wo : World, wo = wr := ⟨_, rfl⟩
    go_loopw [9, 11, 60] (fun s9 _ s60 wi => ∃ (q : Nat), q ≤ 2 ∧ s60 = .int .i64 q ∧ s9 = .int .i64 ((if q = 0 then i else if q = 1 then k1 else k2 : Nat) : Int) ∧ Ext wo wi) (fun _ _ s60 _ => 2 - (intOf s60).toNat)
    case atStart => exact ⟨0, by omega, rfl, rfl, Ext.rfl' _⟩
    case round =>
      obtain ⟨q, hq, rfl, rfl, hex⟩ := hrel
      obtain rfl | rfl | rfl : q = 0 ∨ q = 1 ∨ q = 2 := by omega
      · have ix : ∀ (w : World) (x y : Value), (Instr.index 76 (.agg #[x, y]) (.int .i64 0)).run Try.prog w = .ok x w := fun _ _ _ => by kernel_rfl
        by_cases hk : 2 * i + 1 < n
        · obtain ⟨a, ha⟩ : ∃ a, m[2 * i + 1]? = some a := ⟨_, List.getElem?_eq_getElem (by rw [hml.out]; exact hk)⟩
          obtain ⟨b, hb⟩ : ∃ b, m[i]? = some b := ⟨_, List.getElem?_eq_getElem (by rw [hml.out]; omega)⟩
          have hstep := Hk1.out.trans (nBestSI_of ha hb)
          have Ha := Lib.hid ha
          have Hb := Lib.hid hb
          have Hex := Lib.hid hex
          clear ha hb hex
          go_wp2_with fail
          refine (aheadSI_any B H _ m T _ (Hobj.out.ext Hex.out) _ _ (2 * i + 1) i (by omega) (by omega) a b Ha Hb (by rw [hml.out]; omega)).mono ?_
          rintro e w2 ⟨rfl, hext⟩
          have hex2 := Hex.out.next hext
          clear hext
          cases hd : nAhead cmpStr a b with
          | false =>
            rw [hd] at hstep
            have hs := Lib.hid hstep
            clear hd hstep
            go_wp2_with fail
            go_roundw
            case rel => exact ⟨1, by omega, rfl, by rw [if_neg (by omega), if_pos rfl, hs.out]; rfl, hex2⟩
            case measure => simp [intOf]
          | true =>
            rw [hd] at hstep
            have hs := Lib.hid hstep
            clear hd hstep
            go_wp2_with fail
            go_roundw
            case rel => exact ⟨1, by omega, rfl, by rw [if_neg (by omega), if_pos rfl, hs.out]; go_num, hex2⟩
            case measure => simp [intOf]
        · have hs := Lib.hid (Hk1.out.trans (nBestSI_out m hml.out (by omega)))
          go_wp2_with fail
          go_roundw
          case rel => exact ⟨1, by omega, rfl, by rw [if_neg (by omega), if_pos rfl, hs.out], hex⟩
          case measure => simp [intOf]
      · have ix : ∀ (w : World) (x y : Value), (Instr.index 76 (.agg #[x, y]) (.int .i64 1)).run Try.prog w = .ok y w := fun _ _ _ => by kernel_rfl
        by_cases hk : 2 * i + 2 < n
        · have hk1n : k1 < n := by rw [Hk1.out]; exact nBestSI_in m hml.out (by omega)
          obtain ⟨a, ha⟩ : ∃ a, m[2 * i + 2]? = some a := ⟨_, List.getElem?_eq_getElem (by rw [hml.out]; exact hk)⟩
          obtain ⟨b, hb⟩ : ∃ b, m[k1]? = some b := ⟨_, List.getElem?_eq_getElem (by rw [hml.out]; omega)⟩
          have hstep := Hk2.out.trans (nBestSI_of ha hb)
          have Ha := Lib.hid ha
          have Hb := Lib.hid hb
          have Hex := Lib.hid hex
          clear ha hb hex
          go_wp2_with fail
          refine (aheadSI_any B H _ m T _ (Hobj.out.ext Hex.out) _ _ (2 * i + 2) k1 (by omega) (by omega) a b Ha Hb (by rw [hml.out]; omega)).mono ?_
          rintro e w2 ⟨rfl, hext⟩
          have hex2 := Hex.out.next hext
          clear hext
          cases hd : nAhead cmpStr a b with
          | false =>
            rw [hd] at hstep
            have hs := Lib.hid hstep
            clear hd hstep
            go_wp2_with fail
            go_roundw
            case rel => exact ⟨2, by omega, rfl, by rw [if_neg (by omega), if_neg (by omega), hs.out]; rfl, hex2⟩
            case measure => simp [intOf]
          | true =>
            rw [hd] at hstep
            have hs := Lib.hid hstep
            clear hd hstep
            go_wp2_with fail
            go_roundw
            case rel => exact ⟨2, by omega, rfl, by rw [if_neg (by omega), if_neg (by omega), hs.out]; go_num, hex2⟩
            case measure => simp [intOf]
        · have hs := Lib.hid (Hk2.out.trans (nBestSI_out m hml.out (by omega)))
          go_wp2_with fail
          go_roundw
          case rel => exact ⟨2, by omega, rfl, by rw [if_neg (by omega), if_neg (by omega), hs.out], hex⟩
          case measure => simp [intOf]
      · have Hobj1 := Lib.hid (Hobj.out.ext hex)
        have Hon1 := Lib.hid (Hon.out.trans (Only.of_ext (S := fun q => q = H ∨ q = G) hex) fun _ _ h => h)
        have Hfst1 := Lib.hid ((hex.block F (Array.getElem?_eq_some_iff.1 Hfst.out).1).trans Hfst.out)
        clear hex Hobj Hon Hfst
        by_cases hki : k2 = i
        · have hend : Hid (m = nRest cmpStr l) := by
            have hd := hdn.out
            show _ = _
            rw [← hd]
            cases f with
            | zero => rfl
            | succ f =>
              simp only [nDown]
              rw [← Hk1.out, ← Hk2.out, if_pos hki]
          have hq : ((k2 : Int) == (i : Int)) = true := by rw [hki]; simp
          have c0 := cellOf (i := 0) Hfst1.out rfl
          have c1 := cellOf (i := 1) Hfst1.out rfl
          simp only [List.getElem_toArray, List.getElem_cons_zero, List.getElem_cons_succ] at c0 c1
          clear hki
          go_wp2_with fail
          go_quiet (fail)
          go_wp2_with fail
          go_ret3
          exact ⟨rfl, Hgoal.out _ m (Hobj1.out.ext (Ext.drawn _ _)) (Hon1.out.drewN _) hend⟩
        · have hq : ((k2 : Int) == (i : Int)) = false := by simp; omega
          have hin1 : i < n := by
            rcases Nat.eq_zero_or_pos n with h0 | h0
            · exfalso
              apply hki
              rw [Hk2.out, nBestSI_out m hml.out (by omega), Hk1.out, nBestSI_out m hml.out (by omega)]
            · exact hin0.out h0
          have hk2n : k2 < n := by rw [Hk2.out]; exact nBestSI_in m hml.out (by rw [Hk1.out]; exact nBestSI_in m hml.out hin1)
          have hk2i : i < k2 := by
            have h1 := nBest_cases cmpStr m i (2 * i + 1)
            have h2 := nBest_cases cmpStr m k1 (2 * i + 2)
            rw [← Hk1.out] at h1
            rw [← Hk2.out] at h2
            omega
          obtain ⟨f, rfl⟩ : ∃ f', f = f' + 1 := ⟨f - 1, by omega⟩
          have hup : Hid (nDown cmpStr f (nSwap m i k2) k2 = nRest cmpStr l) := by
            have hd := hdn.out
            show _ = _
            rw [← hd]
            simp only [nDown]
            rw [← Hk1.out, ← Hk2.out, if_neg hki]
          obtain ⟨⟨ka, va, ta⟩, ha⟩ : ∃ a, m[i]? = some a := ⟨_, List.getElem?_eq_getElem (by rw [hml.out]; omega)⟩
          obtain ⟨⟨kb, vb, tb⟩, hb⟩ : ∃ b, m[k2]? = some b := ⟨_, List.getElem?_eq_getElem (by rw [hml.out]; omega)⟩
          have Ha := Lib.hid ha
          have Hb := Lib.hid hb
          clear ha hb hki
          have q0 := Hobj1.out.cell0
          have hownA := Hobj1.out.own
          obtain ⟨a0, a1, a2⟩ := own_nd (n := n) (G := G) (c := c) (by rw [hml.out] at hownA; exact hownA) Ha.out
          obtain ⟨b0, b1, b2⟩ := own_nd (n := n) (G := G) (c := c) (by rw [hml.out] at hownA; exact hownA) Hb.out
          have hfr : ∀ q, wr.frozen? ⟨G, q, none⟩ = false := fun q => by rw [hml.out] at hownA; exact hownA.frozenAt q
          have fa0 := hfr (i * 3)
          have fa1 := hfr (i * 3 + 1)
          have fa2 := hfr (i * 3 + 2)
          have fb0 := hfr (k2 * 3)
          have fb1 := hfr (k2 * 3 + 1)
          have fb2 := hfr (k2 * 3 + 2)
          clear hownA hfr
          simp only at a0 a1 a2 b0 b1 b2
          have hFH : F ≠ H := by have := HF.out; omega
          have hFG : F ≠ G := by have := HF.out; omega
          go_wp2_with fail
          go_region
          go_wp2_with fail
          go_roundw
          case rel =>
            have hs := HObj.swap (a := (ka, va, ta)) (b := (kb, vb, tb)) Hobj1.out (by decide) hml.out Ha.out Hb.out
            simp only at hs
            have hS : ∀ (u : World) (q : Nat) (y : Value), Only (fun q => q = H ∨ q = G) w1 u → Only (fun q => q = H ∨ q = G) w1 (u.setCell ⟨G, q, none⟩ y) := fun u q y h => h.setCell _ _ fun _ => .inr rfl
            refine ⟨k2, f, nSwap m i k2, rfl, by omega, by omega, fun _ => hk2n, (nSwap_length _ _ _).trans hml.out, hup, hs.drew, (hS _ _ _ (hS _ _ _ (hS _ _ _ (hS _ _ _ (hS _ _ _ (hS _ _ _ Hon1.out)))))).drew, ?_⟩
            have hK : ∀ (u : World) (q : Nat) (y : Value), u.heap[F]? = some (.cells #[(Value.string) k, (Value.int .i64) x, .int .i64 t] 79 (0, 0)) → (u.setCell ⟨G, q, none⟩ y).heap[F]? = some (.cells #[(Value.string) k, (Value.int .i64) x, .int .i64 t] 79 (0, 0)) := fun u q y h => (Below.heap_setCell _ _ _ _ hFG).trans h
            have hD : ∀ (u : World), u.heap[F]? = some (.cells #[(Value.string) k, (Value.int .i64) x, .int .i64 t] 79 (0, 0)) → u.drew.heap[F]? = some (.cells #[(Value.string) k, (Value.int .i64) x, .int .i64 t] 79 (0, 0)) := fun u h => h
            exact hD _ (hK _ _ _ (hK _ _ _ (hK _ _ _ (hK _ _ _ (hK _ _ _ (hK _ _ _ Hfst1.out))))))
          case measure => simp [intOf]; omega

end Go.Proofs.Ytjemlenjencbkaa
