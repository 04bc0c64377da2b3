/- The walk of the document's walker's queue. -/
import Derived.Test.YtfbacopjookplaaRefKeys
namespace Go.Proofs.Ytfbacopjookplaa
open Go.RowKit

set_option maxRecDepth 100000 in
set_option maxHeartbeats 16000000 in
theorem rqueue_any (T R H Re Ca S B : Int) (hok : Okay T R H Re Ca S B) (A : Option Addr) (n c : Nat) (ws : List Int) (hn : (n : Int) = sumOf R H S B 13) (hws : ∀ x ∈ ws, 0 ≤ x ∧ x ≤ 18446744073709551615)
    (b sb : Nat) (seen0 : List Bool) (bad : Bool) (w : World)
    (hA : ∀ bw off, A = some ⟨bw, off, none⟩ → bw ≠ sb ∧ bw ≠ b ∧ bw < w.heap.size) (hw : RWalker w T R H Re Ca S B A n c ws b sb seen0 bad) (x3 x4 : Int) (hx3 : regOf R H S B ws 3 0 = x3) (hx4 : regOf R H S B ws 4 0 = x4) :
    Calls Try.prog 66 #[.pointer (some ⟨b, 0, none⟩)] w fun e w' => ∃ v l seen bad2, e = .returned v ∧ w'.ownsRow w.heap.size 3 1 v l.length (l.map (Value.int .i64)) ∧ Only (fun q => q = sb ∨ q = b) w w' ∧
      RWalker w' T R H Re Ca S B A n c ws b sb seen bad2 ∧ l.length ≤ S.toNat ∧
      (((chainOf S (regOf R H S B ws 12) false seen0 x3).2.1 = true ∧ namesOne x4 (chainOf S (regOf R H S B ws 12) false seen0 x3).1 = true ∧ l = behind (fun s => wrap64 (regOf R H S B ws 10 s)) (chainOf S (regOf R H S B ws 12) false seen0 x3).1 ∧ seen = (chainOf S (regOf R H S B ws 12) false seen0 x3).2.2 ∧ bad2 = bad) ∨
       (((chainOf S (regOf R H S B ws 12) false seen0 x3).2.1 = false ∨ namesOne x4 (chainOf S (regOf R H S B ws 12) false seen0 x3).1 = false) ∧ bad2 = true)) := by
  have hok' := hok
  unfold Okay at hok'
  obtain ⟨_, _, hR, hR', hH, hH', _, _, _, _, hS, hS', hB, hB'⟩ := hok'
  obtain ⟨j3, hj3, hjx3, hx3a, hx3b⟩ := reg_at hR hR' hH hH' hS hS' hB hB' hw.wlen hn hws 3 (by omega) 0 (by omega) (by simp [manyOf])
  obtain ⟨j4, hj4, hjx4, hx4a, hx4b⟩ := reg_at hR hR' hH hH' hS hS' hB hB' hw.wlen hn hws 4 (by omega) 0 (by omega) (by simp [manyOf])
  rw [hx3] at hjx3 hx3a hx3b
  rw [hx4] at hjx4 hx4a hx4b
  have hj3n : j3 < n := by rw [← hw.wlen]; exact (List.getElem?_eq_some_iff.1 hjx3).1
  have hj4n : j4 < n := by rw [← hw.wlen]; exact (List.getElem?_eq_some_iff.1 hjx4).1
  rw [Int.add_zero] at hj3 hj4
  have Hba3 : Hid (∀ w : World, Calls Try.prog 60 #[(.agg #[.int .i64 T, .int .i64 R, .int .i64 H, .int .i64 Re, .int .i64 Ca, .int .i64 S, .int .i64 B]), .int .i64 4] w fun e w' => e = .returned (.int .i64 j3) ∧ Ext w w') := fun w => by
    have h := base_any T R H Re Ca S B 3 w hR hR' hH hH' hS hS' hB hB' 4 rfl (by omega)
    rw [hj3] at h
    exact h
  have Hba4 : Hid (∀ w : World, Calls Try.prog 60 #[(.agg #[.int .i64 T, .int .i64 R, .int .i64 H, .int .i64 Re, .int .i64 Ca, .int .i64 S, .int .i64 B]), .int .i64 5] w fun e w' => e = .returned (.int .i64 j4) ∧ Ext w w') := fun w => by
    have h := base_any T R H Re Ca S B 4 w hR hR' hH hH' hS hS' hB hB' 5 rfl (by omega)
    rw [hj4] at h
    exact h
  have Hch : Hid (∀ w5 : World, RWalker w5 T R H Re Ca S B A n c ws b sb seen0 bad → w.heap.size ≤ w5.heap.size → Calls Try.prog 65 #[.pointer (some ⟨b, 0, none⟩), .int .u64 x3, .bool false] w5 (RChain w5 T R H Re Ca S B A n c ws b sb bad (chainOf S (regOf R H S B ws 12) false seen0 x3))) :=
    fun w5 h hs => rchain_any T R H Re Ca S B hok A n c ws hn hws b sb seen0 bad x3 hx3a hx3b false w5 (fun bw off e => ⟨(hA bw off e).1, (hA bw off e).2.1, by have := (hA bw off e).2.2; omega⟩) h
  have Hvals := Lib.hid (fun seen bad w hw A' m c' ls hl hm hmb hrg => rvalues_any T R H Re Ca S B hok A n c ws hn hws b sb seen bad w hw A' m c' ls hl hm hmb hrg)
  generalize (fun s => wrap64 (regOf R H S B ws 10 s)) = val at *
  generalize regOf R H S B ws 12 = lk at *
  obtain ⟨bw, off, rfl, hbw, hcw⟩ := hw.words.lat (j := j3) (u := .int .u64 x3) (by simp [hjx3])
  obtain ⟨bw', off', hA', hbw', hcw'⟩ := hw.words.lat (j := j4) (u := .int .u64 x4) (by simp [hjx4])
  injection hA' with hA'
  injection hA' with e1 e2
  subst e1 e2
  have Hcx3 : Hid (∀ w5 : World, Ext w w5 → w5.cell? ⟨bw, off + j3, none⟩ = some (.int .u64 x3)) := fun w5 e => hcw ⟨w5, e⟩
  have HA := Lib.hid hA
  have HW := Lib.hid hw
  have Hlt := Lib.hid hw.lt
  have HS := Lib.hid (⟨hS, hS'⟩ : 1 ≤ S ∧ S ≤ 1024)
  have Hx4 := Lib.hid (⟨hx4a, hx4b⟩ : 0 ≤ x4 ∧ x4 ≤ 18446744073709551615)
  have hj30 : (0 : Int) ≤ (j3 : Int) := by omega
  have hj31 : (j3 : Int) < (n : Int) := by omega
  have hj40 : (0 : Int) ≤ (j4 : Int) := by omega
  have hj41 : (j4 : Int) < (n : Int) := by omega
  have Hw4 : Hid (ws[j4]? = some x4) := hjx4
  obtain ⟨tot, htot⟩ : ∃ tot, chainOf S lk false seen0 x3 = tot := ⟨_, rfl⟩
  rw [htot] at Hch ⊢
  clear htot hok hn hws hA hw hR hR' hH hH' hS hS' hB hB' hx3 hx4 hx3a hx3b hx4a hx4b hj3 hj4 hjx3 hjx4 hcw hcw' hj3n hj4n hbw'
  go_enter Try.func66, Try.ntmps66
  go_upto_region 1 with fail
  have hr0 : w.drew.cell? ⟨b, 7, none⟩ = some (.slice (some ⟨bw, off, none⟩) n c) := cellOf (HW.out.ext (Ext.rfl' w).drew1).blk rfl
  have q0 : w.drew.cell? ⟨b, 0, none⟩ = some (.int .i64 T) := cellOf (HW.out.ext (Ext.rfl' w).drew1).blk rfl
  have q1 : w.drew.cell? ⟨b, 1, none⟩ = some (.int .i64 R) := cellOf (HW.out.ext (Ext.rfl' w).drew1).blk rfl
  have q2 : w.drew.cell? ⟨b, 2, none⟩ = some (.int .i64 H) := cellOf (HW.out.ext (Ext.rfl' w).drew1).blk rfl
  have q3 : w.drew.cell? ⟨b, 3, none⟩ = some (.int .i64 Re) := cellOf (HW.out.ext (Ext.rfl' w).drew1).blk rfl
  have q4 : w.drew.cell? ⟨b, 4, none⟩ = some (.int .i64 Ca) := cellOf (HW.out.ext (Ext.rfl' w).drew1).blk rfl
  have q5 : w.drew.cell? ⟨b, 5, none⟩ = some (.int .i64 S) := cellOf (HW.out.ext (Ext.rfl' w).drew1).blk rfl
  have q6 : w.drew.cell? ⟨b, 6, none⟩ = some (.int .i64 B) := cellOf (HW.out.ext (Ext.rfl' w).drew1).blk rfl
  go_cut [3] (fun s3 wx => ∃ (l : List Int) (seen1 : List Bool) (bad1 : Bool), Hid (wx.ownsRow w.heap.size 3 1 s3 l.length (l.map (Value.int .i64))) ∧ Hid (Only (fun q => q = sb ∨ q = b) w wx) ∧ Hid (RWalker wx T R H Re Ca S B (some ⟨bw, off, none⟩) n c ws b sb seen1 bad1) ∧ Hid (∀ s ∈ l, 0 ≤ s ∧ s < S) ∧ Hid (l.length ≤ S.toNat) ∧
    Hid ((tot.2.1 = true ∧ l = tot.1.map Prod.fst ∧ seen1 = tot.2.2 ∧ bad1 = bad) ∨ (tot.2.1 = false ∧ l = [] ∧ bad1 = true)))
  case first =>
    refine wp_region_noPanic (wp_region_held_drew (S := fun w' : World => w'.cell? ⟨b, 7, none⟩ = some (.slice (some ⟨bw, off, none⟩) n c)) (by kernel_rfl) hr0 (fun hHeld => ?_))
    refine wpAnyH_take (i := 0) (v := ?_) rfl (by kernel_rfl) (by kernel_rfl) (by kernel_rfl) (fun _ _ _ h => h) (Or.inl ⟨by rfl, ?hy1⟩) (by assumption) ?rest1
    case hy1 => (intro w hSw; (try dsimp only at hSw); go_simp; try with_reducible rfl)
    refine wpAnyH_take (i := 1) (v := ?_) rfl (by kernel_rfl) (by kernel_rfl) (by kernel_rfl) (fun _ _ _ h => h) (Or.inl ⟨by rfl, ?hy2⟩) (by assumption) ?rest2
    case hy2 => (intro w hSw; (try dsimp only at hSw); go_simp; try with_reducible rfl)
    refine wpAnyH_take (i := 2) (v := ?_) rfl (by kernel_rfl) (by kernel_rfl) (by kernel_rfl) (fun _ _ _ h => h) (Or.inl ⟨by rfl, ?hy3⟩) (by assumption) ?rest3
    case hy3 => (intro w hSw; (try dsimp only at hSw); go_simp; try with_reducible rfl)
    refine wpAnyH_take (i := 3) (v := ?_) rfl (by kernel_rfl) (by kernel_rfl) (by kernel_rfl) (fun _ _ _ h => h) (Or.inl ⟨by rfl, ?hy4⟩) (by assumption) ?rest4
    case hy4 => (intro w hSw; (try dsimp only at hSw); go_simp; try with_reducible rfl)
    refine wpAnyH_take (i := 5) (v := ?_) rfl (by kernel_rfl) (by kernel_rfl) (by kernel_rfl) (fun _ _ _ h => h) (Or.inl ⟨by rfl, ?hy5⟩) (by assumption) ?rest5
    case hy5 => (intro w hSw; (try dsimp only at hSw); go_simp; try with_reducible rfl)
    refine wpAnyH_take (i := 6) (v := ?_) rfl (by kernel_rfl) (by kernel_rfl) (by kernel_rfl) (fun _ _ _ h => h) (Or.inl ⟨by rfl, ?hy6⟩) (by assumption) ?rest6
    case hy6 => (intro w hSw; (try dsimp only at hSw); go_simp; try with_reducible rfl)
    refine wpAnyH_take (i := 7) (v := ?_) rfl (by kernel_rfl) (by kernel_rfl) (by kernel_rfl) (fun _ _ _ h => h) (Or.inl ⟨by rfl, ?hy7⟩) (by assumption) ?rest7
    case hy7 => (intro w hSw; (try dsimp only at hSw); go_simp; try with_reducible rfl)
    refine wpAnyH_ready (rs := [4, 8]) (by kernel_rfl) (by simp) ?_
    refine AllReadyH.cons rfl (fun K hK => ?_) ?_
    · go_simp
      refine hK.out _ _ hr0 (fun hHeld => ?_)
      clear hK K
      refine wpAnyH_ready (rs := [8]) (by kernel_rfl) (by simp) ?_
      refine AllReadyH.cons rfl (fun K hK => ?_) ?_
      · go_simp
        refine hK.out _ _ hr0 (fun hHeld => ?_)
        clear hK K
        refine wpAnyH_ready (rs := [9]) (by kernel_rfl) (by simp) ?_
        refine AllReadyH.cons rfl (fun K hK => ?_) ?_
        · go_simp
          (with_reducible refine (Hba3.out _).mono ?_)
          rintro e w5 ⟨rfl, e5⟩
          have E5 := Lib.hid (HW.out.ext (Ext.next (Ext.rfl' w).drew1 e5))
          have X5 := Lib.hid (Ext.next (Ext.rfl' w).drew1 e5)
          have h57 : w5.cell? ⟨b, 7, none⟩ = some (.slice (some ⟨bw, off, none⟩) n c) := cellOf E5.out.blk rfl
          have h5x := Hcx3.out w5 X5.out
          refine hK.out _ _ h57 (fun hHeld => ?_)
          clear hK K
          refine wpAnyH_take (i := 10) (v := ?_) rfl (by kernel_rfl) (by kernel_rfl) (by kernel_rfl) (fun _ _ _ h => h) (Or.inl ⟨by rfl, ?hy8⟩) (by assumption) ?rest8
          case hy8 => (intro w hSw; (try dsimp only at hSw); go_simp; try with_reducible rfl)
          refine wpAnyH_ready (rs := [11]) (by kernel_rfl) (by simp) ?_
          refine AllReadyH.cons rfl (fun K hK => ?_) ?_
          · go_simp
            refine hK.out _ _ h57 (fun hHeld => ?_)
            clear hK K
            refine wpAnyH_ready (rs := [12]) (by kernel_rfl) (by simp) ?_
            refine AllReadyH.cons rfl (fun K hK => ?_) ?_
            · go_simp
              (with_reducible refine (Hch.out w5 E5.out X5.out.size).mono ?_)
              rintro e w6 ⟨v1, l, seen1, bad1, rfl, hown1, hon1, hw1, hrg, hln, hcase⟩
              have h67 : w6.cell? ⟨b, 7, none⟩ = some (.slice (some ⟨bw, off, none⟩) n c) := cellOf hw1.blk rfl
              refine hK.out _ _ h67 (fun hHeld => ?_)
              clear hK K
              refine wpAnyH_take (i := 13) (v := ?_) rfl (by kernel_rfl) (by kernel_rfl) (by kernel_rfl) (fun _ _ _ h => h) (Or.inl ⟨by rfl, ?hy9⟩) (by assumption) ?rest9
              case hy9 => (intro w hSw; (try dsimp only at hSw); go_simp; try with_reducible rfl)
              refine wpAnyH_done (by kernel_rfl) (NoPanic.normal ?_) _
              have hsz5 := X5.out.size
              have Hon1 : Hid (Only (fun q => q = sb ∨ q = b) w w6) := (Only.of_ext (S := fun q => q = sb ∨ q = b) X5.out).trans hon1 fun _ _ h => h
              have Hown1 : Hid (w6.ownsRow w.heap.size 3 1 v1 l.length (l.map (Value.int .i64))) := own_base hown1 hsz5
              dsimp only [Exit.then, Exit.inBlock]
              (try go_wp2_with fail)
              go_meet
              case rel => exact ⟨l, seen1, bad1, Hown1, Hon1, Lib.hid hw1, Lib.hid hrg, Lib.hid hln, Lib.hid hcase⟩
            · exact AllReadyH.nil
          · exact AllReadyH.nil
        · exact AllReadyH.nil
      · exact AllReadyH.nil
    refine AllReadyH.cons rfl (fun K hK => ?_) ?_
    · go_simp
      refine hK.out _ _ hr0 (fun hHeld => ?_)
      clear hK K
      refine wpAnyH_ready (rs := [4, 9]) (by kernel_rfl) (by simp) ?_
      refine AllReadyH.cons rfl (fun K hK => ?_) ?_
      · go_simp
        refine hK.out _ _ hr0 (fun hHeld => ?_)
        clear hK K
        refine wpAnyH_ready (rs := [9]) (by kernel_rfl) (by simp) ?_
        refine AllReadyH.cons rfl (fun K hK => ?_) ?_
        · go_simp
          (with_reducible refine (Hba3.out _).mono ?_)
          rintro e w5 ⟨rfl, e5⟩
          have E5 := Lib.hid (HW.out.ext (Ext.next (Ext.rfl' w).drew1 e5))
          have X5 := Lib.hid (Ext.next (Ext.rfl' w).drew1 e5)
          have h57 : w5.cell? ⟨b, 7, none⟩ = some (.slice (some ⟨bw, off, none⟩) n c) := cellOf E5.out.blk rfl
          have h5x := Hcx3.out w5 X5.out
          refine hK.out _ _ h57 (fun hHeld => ?_)
          clear hK K
          refine wpAnyH_take (i := 10) (v := ?_) rfl (by kernel_rfl) (by kernel_rfl) (by kernel_rfl) (fun _ _ _ h => h) (Or.inl ⟨by rfl, ?hy10⟩) (by assumption) ?rest10
          case hy10 => (intro w hSw; (try dsimp only at hSw); go_simp; try with_reducible rfl)
          refine wpAnyH_ready (rs := [11]) (by kernel_rfl) (by simp) ?_
          refine AllReadyH.cons rfl (fun K hK => ?_) ?_
          · go_simp
            refine hK.out _ _ h57 (fun hHeld => ?_)
            clear hK K
            refine wpAnyH_ready (rs := [12]) (by kernel_rfl) (by simp) ?_
            refine AllReadyH.cons rfl (fun K hK => ?_) ?_
            · go_simp
              (with_reducible refine (Hch.out w5 E5.out X5.out.size).mono ?_)
              rintro e w6 ⟨v1, l, seen1, bad1, rfl, hown1, hon1, hw1, hrg, hln, hcase⟩
              have h67 : w6.cell? ⟨b, 7, none⟩ = some (.slice (some ⟨bw, off, none⟩) n c) := cellOf hw1.blk rfl
              refine hK.out _ _ h67 (fun hHeld => ?_)
              clear hK K
              refine wpAnyH_take (i := 13) (v := ?_) rfl (by kernel_rfl) (by kernel_rfl) (by kernel_rfl) (fun _ _ _ h => h) (Or.inl ⟨by rfl, ?hy11⟩) (by assumption) ?rest11
              case hy11 => (intro w hSw; (try dsimp only at hSw); go_simp; try with_reducible rfl)
              refine wpAnyH_done (by kernel_rfl) (NoPanic.normal ?_) _
              have hsz5 := X5.out.size
              have Hon1 : Hid (Only (fun q => q = sb ∨ q = b) w w6) := (Only.of_ext (S := fun q => q = sb ∨ q = b) X5.out).trans hon1 fun _ _ h => h
              have Hown1 : Hid (w6.ownsRow w.heap.size 3 1 v1 l.length (l.map (Value.int .i64))) := own_base hown1 hsz5
              dsimp only [Exit.then, Exit.inBlock]
              (try go_wp2_with fail)
              go_meet
              case rel => exact ⟨l, seen1, bad1, Hown1, Hon1, Lib.hid hw1, Lib.hid hrg, Lib.hid hln, Lib.hid hcase⟩
            · exact AllReadyH.nil
          · exact AllReadyH.nil
        · exact AllReadyH.nil
      refine AllReadyH.cons rfl (fun K hK => ?_) ?_
      · go_simp
        (with_reducible refine (Hba3.out _).mono ?_)
        rintro e w5 ⟨rfl, e5⟩
        have E5 := Lib.hid (HW.out.ext (Ext.next (Ext.rfl' w).drew1 e5))
        have X5 := Lib.hid (Ext.next (Ext.rfl' w).drew1 e5)
        have h57 : w5.cell? ⟨b, 7, none⟩ = some (.slice (some ⟨bw, off, none⟩) n c) := cellOf E5.out.blk rfl
        have h5x := Hcx3.out w5 X5.out
        refine hK.out _ _ h57 (fun hHeld => ?_)
        clear hK K
        refine wpAnyH_ready (rs := [4]) (by kernel_rfl) (by simp) ?_
        refine AllReadyH.cons rfl (fun K hK => ?_) ?_
        · go_simp
          refine hK.out _ _ h57 (fun hHeld => ?_)
          clear hK K
          refine wpAnyH_take (i := 10) (v := ?_) rfl (by kernel_rfl) (by kernel_rfl) (by kernel_rfl) (fun _ _ _ h => h) (Or.inl ⟨by rfl, ?hy12⟩) (by assumption) ?rest12
          case hy12 => (intro w hSw; (try dsimp only at hSw); go_simp; try with_reducible rfl)
          refine wpAnyH_ready (rs := [11]) (by kernel_rfl) (by simp) ?_
          refine AllReadyH.cons rfl (fun K hK => ?_) ?_
          · go_simp
            refine hK.out _ _ h57 (fun hHeld => ?_)
            clear hK K
            refine wpAnyH_ready (rs := [12]) (by kernel_rfl) (by simp) ?_
            refine AllReadyH.cons rfl (fun K hK => ?_) ?_
            · go_simp
              (with_reducible refine (Hch.out w5 E5.out X5.out.size).mono ?_)
              rintro e w6 ⟨v1, l, seen1, bad1, rfl, hown1, hon1, hw1, hrg, hln, hcase⟩
              have h67 : w6.cell? ⟨b, 7, none⟩ = some (.slice (some ⟨bw, off, none⟩) n c) := cellOf hw1.blk rfl
              refine hK.out _ _ h67 (fun hHeld => ?_)
              clear hK K
              refine wpAnyH_take (i := 13) (v := ?_) rfl (by kernel_rfl) (by kernel_rfl) (by kernel_rfl) (fun _ _ _ h => h) (Or.inl ⟨by rfl, ?hy13⟩) (by assumption) ?rest13
              case hy13 => (intro w hSw; (try dsimp only at hSw); go_simp; try with_reducible rfl)
              refine wpAnyH_done (by kernel_rfl) (NoPanic.normal ?_) _
              have hsz5 := X5.out.size
              have Hon1 : Hid (Only (fun q => q = sb ∨ q = b) w w6) := (Only.of_ext (S := fun q => q = sb ∨ q = b) X5.out).trans hon1 fun _ _ h => h
              have Hown1 : Hid (w6.ownsRow w.heap.size 3 1 v1 l.length (l.map (Value.int .i64))) := own_base hown1 hsz5
              dsimp only [Exit.then, Exit.inBlock]
              (try go_wp2_with fail)
              go_meet
              case rel => exact ⟨l, seen1, bad1, Hown1, Hon1, Lib.hid hw1, Lib.hid hrg, Lib.hid hln, Lib.hid hcase⟩
            · exact AllReadyH.nil
          · exact AllReadyH.nil
        · exact AllReadyH.nil
      · exact AllReadyH.nil
    · exact AllReadyH.nil
  obtain ⟨l, seen1, bad1, HO1, HOn1, HW6, Hrg, Hln, Hcase⟩ := hcut
  obtain ⟨W1, hW1⟩ : ∃ W1 : World, W1 = wc := ⟨_, rfl⟩
  subst hW1
  obtain ⟨A1, d1, rfl⟩ := own_form HO1.out
  have Hcx4 : Hid (∀ w5 : World, Ext W1 w5 → w5.cell? ⟨bw, off + j4, none⟩ = some (.int .u64 x4)) := fun w5 e => by
    obtain ⟨b', o', hA', _, hc⟩ := HW6.out.words.lat (j := j4) (u := .int .u64 x4) (by simp [Hw4.out])
    injection hA' with hA'
    injection hA' with e1 e2
    subst e1 e2
    exact hc ⟨w5, e⟩
  clear hr0 q0 q1 q2 q3 q4 q5 q6
  go_upto_region 2 with fail
  have hr0 : W1.drew.cell? ⟨b, 7, none⟩ = some (.slice (some ⟨bw, off, none⟩) n c) := cellOf (HW6.out.ext (Ext.rfl' W1).drew1).blk rfl
  have q0 : W1.drew.cell? ⟨b, 0, none⟩ = some (.int .i64 T) := cellOf (HW6.out.ext (Ext.rfl' W1).drew1).blk rfl
  have q1 : W1.drew.cell? ⟨b, 1, none⟩ = some (.int .i64 R) := cellOf (HW6.out.ext (Ext.rfl' W1).drew1).blk rfl
  have q2 : W1.drew.cell? ⟨b, 2, none⟩ = some (.int .i64 H) := cellOf (HW6.out.ext (Ext.rfl' W1).drew1).blk rfl
  have q3 : W1.drew.cell? ⟨b, 3, none⟩ = some (.int .i64 Re) := cellOf (HW6.out.ext (Ext.rfl' W1).drew1).blk rfl
  have q4 : W1.drew.cell? ⟨b, 4, none⟩ = some (.int .i64 Ca) := cellOf (HW6.out.ext (Ext.rfl' W1).drew1).blk rfl
  have q5 : W1.drew.cell? ⟨b, 5, none⟩ = some (.int .i64 S) := cellOf (HW6.out.ext (Ext.rfl' W1).drew1).blk rfl
  have q6 : W1.drew.cell? ⟨b, 6, none⟩ = some (.int .i64 B) := cellOf (HW6.out.ext (Ext.rfl' W1).drew1).blk rfl
  go_cut [4] (fun s4 wx => s4 = .int .u64 x4 ∧ Ext W1 wx)
  case first =>
    refine wp_region_noPanic (wp_region_held_drew (S := fun w' : World => w'.cell? ⟨b, 7, none⟩ = some (.slice (some ⟨bw, off, none⟩) n c)) (by kernel_rfl) hr0 (fun hHeld => ?_))
    refine wpAnyH_take (i := 0) (v := ?_) rfl (by kernel_rfl) (by kernel_rfl) (by kernel_rfl) (fun _ _ _ h => h) (Or.inl ⟨by rfl, ?hy14⟩) (by assumption) ?rest14
    case hy14 => (intro w hSw; (try dsimp only at hSw); go_simp; try with_reducible rfl)
    refine wpAnyH_take (i := 1) (v := ?_) rfl (by kernel_rfl) (by kernel_rfl) (by kernel_rfl) (fun _ _ _ h => h) (Or.inl ⟨by rfl, ?hy15⟩) (by assumption) ?rest15
    case hy15 => (intro w hSw; (try dsimp only at hSw); go_simp; try with_reducible rfl)
    refine wpAnyH_take (i := 2) (v := ?_) rfl (by kernel_rfl) (by kernel_rfl) (by kernel_rfl) (fun _ _ _ h => h) (Or.inl ⟨by rfl, ?hy16⟩) (by assumption) ?rest16
    case hy16 => (intro w hSw; (try dsimp only at hSw); go_simp; try with_reducible rfl)
    refine wpAnyH_take (i := 4) (v := ?_) rfl (by kernel_rfl) (by kernel_rfl) (by kernel_rfl) (fun _ _ _ h => h) (Or.inl ⟨by rfl, ?hy17⟩) (by assumption) ?rest17
    case hy17 => (intro w hSw; (try dsimp only at hSw); go_simp; try with_reducible rfl)
    refine wpAnyH_take (i := 5) (v := ?_) rfl (by kernel_rfl) (by kernel_rfl) (by kernel_rfl) (fun _ _ _ h => h) (Or.inl ⟨by rfl, ?hy18⟩) (by assumption) ?rest18
    case hy18 => (intro w hSw; (try dsimp only at hSw); go_simp; try with_reducible rfl)
    refine wpAnyH_take (i := 6) (v := ?_) rfl (by kernel_rfl) (by kernel_rfl) (by kernel_rfl) (fun _ _ _ h => h) (Or.inl ⟨by rfl, ?hy19⟩) (by assumption) ?rest19
    case hy19 => (intro w hSw; (try dsimp only at hSw); go_simp; try with_reducible rfl)
    refine wpAnyH_ready (rs := [3, 7]) (by kernel_rfl) (by simp) ?_
    refine AllReadyH.cons rfl (fun K hK => ?_) ?_
    · go_simp
      refine hK.out _ _ hr0 (fun hHeld => ?_)
      clear hK K
      refine wpAnyH_ready (rs := [7]) (by kernel_rfl) (by simp) ?_
      refine AllReadyH.cons rfl (fun K hK => ?_) ?_
      · go_simp
        refine hK.out _ _ hr0 (fun hHeld => ?_)
        clear hK K
        refine wpAnyH_ready (rs := [8]) (by kernel_rfl) (by simp) ?_
        refine AllReadyH.cons rfl (fun K hK => ?_) ?_
        · go_simp
          (with_reducible refine (Hba4.out _).mono ?_)
          rintro e w5 ⟨rfl, e5⟩
          have E5 := Lib.hid (HW6.out.ext (Ext.next (Ext.rfl' W1).drew1 e5))
          have X5 := Lib.hid (Ext.next (Ext.rfl' W1).drew1 e5)
          have h57 : w5.cell? ⟨b, 7, none⟩ = some (.slice (some ⟨bw, off, none⟩) n c) := cellOf E5.out.blk rfl
          have h5x := Hcx4.out w5 X5.out
          refine hK.out _ _ h57 (fun hHeld => ?_)
          clear hK K
          refine wpAnyH_take (i := 9) (v := ?_) rfl (by kernel_rfl) (by kernel_rfl) (by kernel_rfl) (fun _ _ _ h => h) (Or.inl ⟨by rfl, ?hy20⟩) (by assumption) ?rest20
          case hy20 => (intro w hSw; (try dsimp only at hSw); go_simp; try with_reducible rfl)
          refine wpAnyH_ready (rs := [10]) (by kernel_rfl) (by simp) ?_
          refine AllReadyH.cons rfl (fun K hK => ?_) ?_
          · go_simp
            refine hK.out _ _ h57 (fun hHeld => ?_)
            clear hK K
            refine wpAnyH_take (i := 11) (v := ?_) rfl (by kernel_rfl) (by kernel_rfl) (by kernel_rfl) (fun _ _ _ h => h) (Or.inl ⟨by rfl, ?hy21⟩) (by assumption) ?rest21
            case hy21 => (intro w hSw; (try dsimp only at hSw); go_simp; try with_reducible rfl)
            refine wpAnyH_done (by kernel_rfl) (NoPanic.normal ?_) _
            dsimp only [Exit.then, Exit.inBlock]
            (try go_wp2_with fail)
            go_meet
            case rel => exact ⟨rfl, X5.out⟩
          · exact AllReadyH.nil
        · exact AllReadyH.nil
      · exact AllReadyH.nil
    refine AllReadyH.cons rfl (fun K hK => ?_) ?_
    · go_simp
      refine hK.out _ _ hr0 (fun hHeld => ?_)
      clear hK K
      refine wpAnyH_ready (rs := [3, 8]) (by kernel_rfl) (by simp) ?_
      refine AllReadyH.cons rfl (fun K hK => ?_) ?_
      · go_simp
        refine hK.out _ _ hr0 (fun hHeld => ?_)
        clear hK K
        refine wpAnyH_ready (rs := [8]) (by kernel_rfl) (by simp) ?_
        refine AllReadyH.cons rfl (fun K hK => ?_) ?_
        · go_simp
          (with_reducible refine (Hba4.out _).mono ?_)
          rintro e w5 ⟨rfl, e5⟩
          have E5 := Lib.hid (HW6.out.ext (Ext.next (Ext.rfl' W1).drew1 e5))
          have X5 := Lib.hid (Ext.next (Ext.rfl' W1).drew1 e5)
          have h57 : w5.cell? ⟨b, 7, none⟩ = some (.slice (some ⟨bw, off, none⟩) n c) := cellOf E5.out.blk rfl
          have h5x := Hcx4.out w5 X5.out
          refine hK.out _ _ h57 (fun hHeld => ?_)
          clear hK K
          refine wpAnyH_take (i := 9) (v := ?_) rfl (by kernel_rfl) (by kernel_rfl) (by kernel_rfl) (fun _ _ _ h => h) (Or.inl ⟨by rfl, ?hy22⟩) (by assumption) ?rest22
          case hy22 => (intro w hSw; (try dsimp only at hSw); go_simp; try with_reducible rfl)
          refine wpAnyH_ready (rs := [10]) (by kernel_rfl) (by simp) ?_
          refine AllReadyH.cons rfl (fun K hK => ?_) ?_
          · go_simp
            refine hK.out _ _ h57 (fun hHeld => ?_)
            clear hK K
            refine wpAnyH_take (i := 11) (v := ?_) rfl (by kernel_rfl) (by kernel_rfl) (by kernel_rfl) (fun _ _ _ h => h) (Or.inl ⟨by rfl, ?hy23⟩) (by assumption) ?rest23
            case hy23 => (intro w hSw; (try dsimp only at hSw); go_simp; try with_reducible rfl)
            refine wpAnyH_done (by kernel_rfl) (NoPanic.normal ?_) _
            dsimp only [Exit.then, Exit.inBlock]
            (try go_wp2_with fail)
            go_meet
            case rel => exact ⟨rfl, X5.out⟩
          · exact AllReadyH.nil
        · exact AllReadyH.nil
      refine AllReadyH.cons rfl (fun K hK => ?_) ?_
      · go_simp
        (with_reducible refine (Hba4.out _).mono ?_)
        rintro e w5 ⟨rfl, e5⟩
        have E5 := Lib.hid (HW6.out.ext (Ext.next (Ext.rfl' W1).drew1 e5))
        have X5 := Lib.hid (Ext.next (Ext.rfl' W1).drew1 e5)
        have h57 : w5.cell? ⟨b, 7, none⟩ = some (.slice (some ⟨bw, off, none⟩) n c) := cellOf E5.out.blk rfl
        have h5x := Hcx4.out w5 X5.out
        refine hK.out _ _ h57 (fun hHeld => ?_)
        clear hK K
        refine wpAnyH_ready (rs := [3]) (by kernel_rfl) (by simp) ?_
        refine AllReadyH.cons rfl (fun K hK => ?_) ?_
        · go_simp
          refine hK.out _ _ h57 (fun hHeld => ?_)
          clear hK K
          refine wpAnyH_take (i := 9) (v := ?_) rfl (by kernel_rfl) (by kernel_rfl) (by kernel_rfl) (fun _ _ _ h => h) (Or.inl ⟨by rfl, ?hy24⟩) (by assumption) ?rest24
          case hy24 => (intro w hSw; (try dsimp only at hSw); go_simp; try with_reducible rfl)
          refine wpAnyH_ready (rs := [10]) (by kernel_rfl) (by simp) ?_
          refine AllReadyH.cons rfl (fun K hK => ?_) ?_
          · go_simp
            refine hK.out _ _ h57 (fun hHeld => ?_)
            clear hK K
            refine wpAnyH_take (i := 11) (v := ?_) rfl (by kernel_rfl) (by kernel_rfl) (by kernel_rfl) (fun _ _ _ h => h) (Or.inl ⟨by rfl, ?hy25⟩) (by assumption) ?rest25
            case hy25 => (intro w hSw; (try dsimp only at hSw); go_simp; try with_reducible rfl)
            refine wpAnyH_done (by kernel_rfl) (NoPanic.normal ?_) _
            dsimp only [Exit.then, Exit.inBlock]
            (try go_wp2_with fail)
            go_meet
            case rel => exact ⟨rfl, X5.out⟩
          · exact AllReadyH.nil
        · exact AllReadyH.nil
      · exact AllReadyH.nil
    · exact AllReadyH.nil
  obtain ⟨rfl, eX⟩ := hcut
  obtain ⟨kx, rfl⟩ := lat_of eX
  clear hr0 q0 q1 q2 q3 q4 q5 q6 eX
  go_wp2_with fail
  obtain ⟨m, hm⟩ : ∃ m, l.length = m := ⟨_, rfl⟩
  rw [hm] at HO1
  simp only [hm]
  have Hm := Lib.hid hm
  have hmb : m ≤ 1024 := by
    have h1 := HS.out
    have h2 := Hln.out
    omega
  clear hm
  go_loopw [5, 6] (fun s5 s6 wr => ∃ (k : Lat W1) (i : Nat) (f : Bool), wr = k.world ∧ i ≤ m ∧ s6 = .int .i64 i ∧ s5 = .bool f ∧ Hid (((l.take i).any fun s => decide (s + 1 = x4)) = f)) (fun _ s _ => m - (intOf s).toNat)
  case atStart => exact ⟨kx, 0, false, rfl, Nat.zero_le _, rfl, rfl, Lib.hid (by simp)⟩
  case round =>
    obtain ⟨k, i, f, rfl, hi, rfl, rfl, Hf⟩ := hrel
    by_cases hlt : i < m
    · obtain ⟨xs, hx⟩ : ∃ x, l[i]? = some x := ⟨_, List.getElem?_eq_getElem (by rw [Hm.out]; exact hlt)⟩
      have hxr := Hrg.out xs (List.mem_of_getElem? hx)
      have hx0 := hxr.1
      have hx1 : xs < 1024 := by
        have := HS.out
        omega
      have Hnx : Hid (((l.take (i + 1)).any fun s => decide (s + 1 = x4)) = (f || decide (xs + 1 = x4))) := by
        show _ = _
        rw [List.take_add_one, hx, List.any_append, Hf.out]
        simp
      obtain ⟨bq, oq, rfl, hbq, hcq⟩ := (Rd.of_own HO1.out).lat (j := i) (u := .int .i64 xs) (by simp [hx])
      have z0 : (0 : Int) ≤ (i : Int) := by omega
      have z1 : (i : Int) < (m : Int) := by omega
      clear hx hxr Hf
      cases f with
      | true =>
        go_wp2_with fail
        go_roundw
        case rel => exact ⟨k, i + 1, true, rfl, by omega, by go_num, rfl, Hnx⟩
        case measure => simp [intOf]; omega
      | false =>
        go_wp2_with fail
        refine (packLink_any xs hx0 hx1 _).mono ?_
        rintro e w5 ⟨rfl, rfl⟩
        go_wp2_with fail
        go_roundw
        case rel => exact ⟨k, i + 1, _, rfl, by omega, by go_num, rfl, Lib.hid (Hnx.out.trans (by rfl))⟩
        case measure => simp [intOf]; omega
    · obtain rfl : m = i := by omega
      have htk : l.take m = l := List.take_of_length_le (by rw [Hm.out]; exact Nat.le_refl _)
      rw [htk] at Hf
      have hnm : tot.2.1 = true → l = tot.1.map Prod.fst → namesOne x4 tot.1 = f := fun _ h2 => by
        rw [← Hf.out]
        unfold namesOne
        have h3 := Hrg.out
        have h4 := HS.out
        rw [h2] at h3 ⊢
        rw [List.any_map]
        by_cases hx : x4 ≤ 2147483647
        · simp only [hx, decide_true, Bool.true_and]
          congr 1
          funext y
          by_cases hy : y.1 = x4 - 1
          · have : y.1 + 1 = x4 := by omega
            simp [hy]
          · have : ¬ (y.1 + 1 = x4) := by omega
            simp [hy, this]
        · simp only [hx, decide_false, Bool.false_and]
          symm
          rw [List.any_eq_false]
          intro y hy
          have := h3 y.1 (List.mem_map.2 ⟨y, hy, rfl⟩)
          simp [Function.comp]
          omega
      have Hnm := Lib.hid hnm
      obtain ⟨c0, c1, c2, c3, c4, c5, c6, c7, c8, c9⟩ := HW6.out.cells
      have fr9 : ∀ z : Lat W1, z.world.frozen? ⟨b, 9, none⟩ = false := Lat.free HW6.out.blk 9
      have hltb := Lat.lt (w0 := W1) HW6.out.lt.1
      clear hnm htk
      cases f with
      | false =>
        have hfl := (HW6.out.ext k.ok).flag true fun bw off e => (HA.out bw off e).2.1
        have Hfl := Lib.hid hfl
        clear hfl
        go_wp2_with fail
        go_ret
        have o : Only (fun q => q = b) k.world (k.world.setCell ⟨b, 9, none⟩ (.bool true)) := (Only.refl _ _).setCell _ _ fun _ => rfl
        exact ⟨_, [], seen1, true, rfl, World.ownsRow_nil _ _ _ _, (HOn1.out.trans (Only.of_ext (S := fun _ => False) k.ok) fun _ _ h => h.elim).trans o fun _ _ h => .inr h, Hfl.out, Nat.zero_le _, .inr ⟨by
          rcases Hcase.out with ⟨g1, g2, _⟩ | ⟨g1, _⟩
          · exact .inr (Hnm.out g1 g2)
          · exact .inl g1, rfl⟩⟩
      | true =>
        have hm0 : 0 < m := by
          rcases Nat.eq_zero_or_pos m with h | h
          · have h1 : l = [] := List.eq_nil_of_length_eq_zero (Hm.out.trans h)
            have h2 := Hf.out
            rw [h1] at h2
            simp at h2
          · exact h
        have hmz : ((m : Int) == 0) = false := by simp; omega
        have hmz1 : (1 : Int) ≤ (m : Int) := by omega
        obtain ⟨g, d, hv1, hmd, hgb, hgl⟩ := own_form1 HO1.out hm0
        injection hv1 with e1 _ e2
        subst e1 e2
        have hsz1 := HOn1.out.size
        have hfin : Hid (∀ (v : Value) (w' : World), w'.ownsRow k.world.heap.size 3 1 v ((l.drop 1).map val).length (((l.drop 1).map val).map (Value.int .i64)) → Ext k.world w' → ∃ v' l' seen bad2, Ending.returned v = .returned v' ∧ w'.ownsRow w.heap.size 3 1 v' l'.length (l'.map (Value.int .i64)) ∧ Only (fun q => q = sb ∨ q = b) w w' ∧
            RWalker w' T R H Re Ca S B (some ⟨bw, off, none⟩) n c ws b sb seen bad2 ∧ l'.length ≤ S.toNat ∧ ((tot.2.1 = true ∧ namesOne x4 tot.1 = true ∧ l' = behind val tot.1 ∧ seen = tot.2.2 ∧ bad2 = bad) ∨ ((tot.2.1 = false ∨ namesOne x4 tot.1 = false) ∧ bad2 = true))) := fun v w' ho he => by
          have hks := k.ok.size
          refine ⟨v, (l.drop 1).map val, seen1, bad1, rfl, own_base ho (by omega), (HOn1.out.trans (Only.of_ext (S := fun _ => False) k.ok) fun _ _ h => h.elim).trans (Only.of_ext (S := fun _ => False) he) fun _ _ h => h.elim, (HW6.out.ext k.ok).ext he, ?_, ?_⟩
          · rw [List.length_map, List.length_drop]
            have := Hln.out
            omega
          · rcases Hcase.out with ⟨g1, g2, g3, g4⟩ | ⟨_, g2, _⟩
            · exact .inl ⟨g1, Hnm.out g1 g2, by rw [g2]; simp [behind, Function.comp_def], g3, g4⟩
            · have := Hm.out
              rw [g2] at this
              simp at this
              omega
        have hdl : (l.drop 1).length = m - 1 := by rw [List.length_drop, Hm.out]
        have hdr : ∀ s ∈ l.drop 1, 0 ≤ s ∧ s < S := fun s hs => Hrg.out s (List.mem_of_mem_drop hs)
        have hW7 := Lib.hid (HW6.out.ext k.ok)
        have hdd : Rd k.world (some ⟨g, 0 + 1, none⟩) ((l.drop 1).map (Value.int .i64)) := fun _ => by
          refine ⟨g, 0 + 1, rfl, Nat.lt_of_lt_of_le hgl k.ok.size, fun j u hu => ?_⟩
          rw [List.getElem?_map, List.getElem?_drop] at hu
          obtain ⟨b', o', hA', _, hc⟩ := (Rd.of_own HO1.out).lat (j := 1 + j) (u := u) (by rw [List.getElem?_map]; exact hu)
          injection hA' with hA'
          injection hA' with e1 e2
          subst e1 e2
          have := hc k
          rw [show 0 + 1 + j = 0 + (1 + j) by omega]
          exact this
        have Hdl := Lib.hid hdl
        have Hdr := Lib.hid hdr
        have Hdd := Lib.hid hdd
        clear hdl hdr hdd
        go_wp2_with fail
        all_goals
          refine Calls.mono (Hvals.out seen1 bad1 k.world hW7.out _ (m - 1) _ (l.drop 1) (by
            first
            | exact Hdd.out
            | (have hl0 : l.drop 1 = [] := List.eq_nil_of_length_eq_zero (by rw [Hdl.out]; omega)
               intro hne
               exact absurd (by rw [hl0]; rfl) hne)) Hdl.out (by omega) Hdr.out) ?_
          rintro e w7 ⟨v7, rfl, ho7, he7⟩
          have HF := Lib.hid (hfin.out v7 w7 ho7 he7)
          clear ho7
          obtain ⟨k7, rfl⟩ := lat_next k he7
          go_wp2_with fail
          go_ret
          exact HF.out
end Go.Proofs.Ytfbacopjookplaa
