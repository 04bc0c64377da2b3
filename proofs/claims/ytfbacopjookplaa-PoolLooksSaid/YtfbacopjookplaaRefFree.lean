/- The walks of the document's refused, Spares and Free: the free list by the document. -/
import Derived.Test.YtfbacopjookplaaFree
import Derived.Test.YtfbacopjookplaaConfig
namespace Go.Proofs.Ytfbacopjookplaa
open Go.RowKit

theorem refSize_any (T R H Re Ca S B : Int) (hok : Okay T R H Re Ca S B) (w : World) :
    Calls Try.prog 97 #[(.agg #[.int .i64 T, .int .i64 R, .int .i64 H, .int .i64 Re, .int .i64 Ca, .int .i64 S, .int .i64 B])] w fun e w' => e = .returned (.int .i64 (sumOf R H S B 13)) ∧ Ext w w' := by
  have hok' := hok
  unfold Okay at hok'
  obtain ⟨_, _, hR, hR', hH, hH', _, _, _, _, hS, hS', hB, hB'⟩ := hok'
  have hb := sumOf_bd R H S B hR hR' hH hH' hS hS' hB hB' 12
  have hsm : Hid (sumOf R H S B 12 + S = sumOf R H S B 13) := by
    show _ = _
    rw [show sumOf R H S B 13 = sumOf R H S B 12 + manyOf R H S B ((12 : Nat) + 1) from rfl]
    simp [manyOf]
  have hba := fun w => base_any T R H Re Ca S B 12 w hR hR' hH hH' hS hS' hB hB' 13 rfl (by omega)
  generalize hX : sumOf R H S B 12 = X at hb hsm hba
  have Hba := Lib.hid hba
  clear hok hX hba
  go_enter Try.func97, Try.ntmps97
  go_wp2_with fail
  obtain ⟨w0, hw0, hC, hE, hlt⟩ := enter1 w (.cells (cfgV T R H Re Ca S B) 23)
  rw [hw0]
  have HE := Lib.hid hE
  obtain ⟨c0, c1, c2, c3, c4, c5, c6⟩ := Lat.cfg hC
  clear hw0 hC hE
  refine wp_region_cls (Ext w0) (Ext.drawn w0 1) (by kernel_rfl) (by kernel_rfl) ?_
  repeat (go_big_quiet_step (exact calls_cls (keeps_ext _) (Hba.out _)))
  refine wpQuiet_nil ?_
  rintro _ ⟨k4, rfl⟩
  go_wp2_with fail
  go_ret
  exact ⟨ret_int hsm.out, Ext.next HE.out k4.ok⟩

theorem refused_any (T R H Re Ca S B : Int) (A : Option Addr) (n c : Nat) (w : World) :
    Calls Try.prog 50 #[(.agg #[.int .i64 T, .int .i64 R, .int .i64 H, .int .i64 Re, .int .i64 Ca, .int .i64 S, .int .i64 B]), .slice A n c] w fun e w' => e = .returned (.int .i64 (if ¬ Okay T R H Re Ca S B then 1 else if (n : Int) ≠ sumOf R H S B 13 then 2 else 0)) ∧ Ext w w' := by
  by_cases hok : Okay T R H Re Ca S B
  · rw [if_neg (by simpa using hok)]
    have hdec : decide (Okay T R H Re Ca S B) = true := by simpa using hok
    have Hd := Lib.hid hdec
    have hsz := refSize_any T R H Re Ca S B hok
    generalize hX : sumOf R H S B 13 = X at hsz
    have Hsz := Lib.hid hsz
    clear hok hdec hsz hX
    by_cases hn : (n : Int) = X
    · rw [if_neg (by simpa using hn)]
      have hb : ((n : Int) != X) = false := by simpa using hn
      clear hn
      go_enter Try.func50, Try.ntmps50
      go_wp2_with fail
      refine (config_any T R H Re Ca S B _).mono ?_
      rintro e w1 ⟨rfl, e1⟩
      rw [Hd.out]
      obtain ⟨w0, hw0, hC, hE, hlt⟩ := enter1 w (.cells (cfgV T R H Re Ca S B) 23)
      rw [hw0] at e1
      have HE := Lib.hid hE
      obtain ⟨c0, c1, c2, c3, c4, c5, c6⟩ := Lat.cfg hC
      obtain ⟨k1, rfl⟩ := lat_of e1
      clear hw0 hC hE e1
      go_wp2_with fail
      refine (Hsz.out _).mono ?_
      rintro e w2 ⟨rfl, e2⟩
      obtain ⟨k2, rfl⟩ := lat_next k1 e2
      clear e2
      go_wp2_with fail
      go_ret
      exact ⟨rfl, Ext.next HE.out k2.ok⟩
    · rw [if_pos hn]
      have hb : ((n : Int) != X) = true := by simpa using hn
      clear hn
      go_enter Try.func50, Try.ntmps50
      go_wp2_with fail
      refine (config_any T R H Re Ca S B _).mono ?_
      rintro e w1 ⟨rfl, e1⟩
      rw [Hd.out]
      obtain ⟨w0, hw0, hC, hE, hlt⟩ := enter1 w (.cells (cfgV T R H Re Ca S B) 23)
      rw [hw0] at e1
      have HE := Lib.hid hE
      obtain ⟨c0, c1, c2, c3, c4, c5, c6⟩ := Lat.cfg hC
      obtain ⟨k1, rfl⟩ := lat_of e1
      clear hw0 hC hE e1
      go_wp2_with fail
      refine (Hsz.out _).mono ?_
      rintro e w2 ⟨rfl, e2⟩
      obtain ⟨k2, rfl⟩ := lat_next k1 e2
      clear e2
      go_wp2_with fail
      go_ret
      exact ⟨rfl, Ext.next HE.out k2.ok⟩
  · rw [if_pos hok]
    have hdec : decide (Okay T R H Re Ca S B) = false := by simpa using hok
    have Hd := Lib.hid hdec
    clear hok hdec
    go_enter Try.func50, Try.ntmps50
    go_wp2_with fail
    refine (config_any T R H Re Ca S B _).mono ?_
    rintro e w1 ⟨rfl, e1⟩
    rw [Hd.out]
    have E1 := Lib.hid (Ext.next ((Ext.rfl' w).alloc1 _) e1)
    clear e1
    go_wp2_with fail
    go_ret
    exact ⟨rfl, E1.out⟩

/-- What Spares answers: the list with true, or nil with false. -/
def SparesOut (w : World) (r : Int × List Int) (e : Ending) (w' : World) : Prop :=
  ∃ v, e = .returned (.tuple #[v, .bool (r.1 == 0)]) ∧ w'.ownsRow w.heap.size 3 1 v r.2.length (r.2.map (Value.int .i64)) ∧ Ext w w'

theorem seenSet (seen : List Bool) (i : Nat) : ((seen.map Value.bool).toArray.setIfInBounds i (.bool true)) = ((seen.set i true).map Value.bool).toArray := by
  rw [List.map_set]; simp

set_option maxHeartbeats 2000000 in
theorem spares_ok (T R H Re Ca S B : Int) (hok : Okay T R H Re Ca S B) (A : Option Addr) (n c : Nat) (ws : List Int) (w : World) (hr : Rd w A (ws.map (Value.int .u64))) (hl : ws.length = n) (hn : (n : Int) = sumOf R H S B 13)
    (hws : ∀ x ∈ ws, 0 ≤ x ∧ x ≤ 18446744073709551615) :
    Calls Try.prog 51 #[(.agg #[.int .i64 T, .int .i64 R, .int .i64 H, .int .i64 Re, .int .i64 Ca, .int .i64 S, .int .i64 B]), .slice A n c] w (SparesOut w (tailSpec S (wdOf R H S B ws) (ws.getD 0 0))) := by
  have hok' := hok
  unfold Okay at hok'
  obtain ⟨_, _, hR, hR', hH, hH', _, _, _, _, hS, hS', hB, hB'⟩ := hok'
  have h13 := sum_9_13 R H S B
  have h9 := sumOf_bd R H S B hR hR' hH hH' hS hS' hB hB' 9
  have hbase := fun w => base_any T R H Re Ca S B 9 w hR hR' hH hH' hS hS' hB hB' 10 rfl (by omega)
  have hword : ∀ j : Nat, j < n → ∃ x, ws[j]? = some x ∧ ws.getD j 0 = x ∧ 0 ≤ x ∧ x ≤ 18446744073709551615 := fun j hj =>
    ⟨ws[j], List.getElem?_eq_getElem (by omega), by simp [List.getD, List.getElem?_eq_getElem (show j < ws.length by omega)], hws _ (List.getElem_mem _)⟩
  obtain ⟨x0, hx0, hg0, hx0a, hx0b⟩ := hword 0 (by omega)
  rw [hg0]
  have Hw9 : Hid (∀ s : Nat, (s : Int) < S → ∃ j : Nat, sumOf R H S B 9 + s = j ∧ j < n ∧ ws[j]? = some (wdOf R H S B ws s) ∧ 0 ≤ wdOf R H S B ws s ∧ wdOf R H S B ws s ≤ 18446744073709551615) := by
    intro s h1
    obtain ⟨x, hx, hg, ha, hb⟩ := hword (sumOf R H S B 9 + s).toNat (by omega)
    exact ⟨(sumOf R H S B 9 + s).toNat, by omega, by omega, by unfold wdOf; rw [hg]; exact hx, by unfold wdOf; rw [hg]; exact ⟨ha, hb⟩⟩
  have hmk := fun W => run_make1 zeroBool rfl Try.underlying107 S (by omega) (by omega) (by omega) W
  have hn0 : 0 < n := by omega
  obtain ⟨bw, off, rfl, hbw, hc0⟩ := hr.lat (j := 0) (u := .int .u64 x0) (by simp [hx0])
  have Hr := Lib.hid hr
  have Hbase := Lib.hid hbase
  have HS := Lib.hid (show 1 ≤ S ∧ S ≤ 1024 from ⟨hS, hS'⟩)
  have hx0c := hc0 ⟨w, Ext.rfl' w⟩
  have Hx0c : Hid (w.cell? ⟨bw, off + 0, none⟩ = some (.int .u64 x0)) := hx0c
  obtain ⟨tot, htot⟩ : ∃ tot, tot = spF S (wdOf R H S B ws) S.toNat (List.replicate S.toNat false) (x0 % 4294967296 - 1) := ⟨_, rfl⟩
  have HT := Lib.hid htot
  clear hok hr hn hws hword hx0 hg0 hbase hc0 hx0c htot hl h13
  go_enter Try.func51, Try.ntmps51
  obtain ⟨w0, hw0, hC, hE, hlt⟩ := enter1 w (.cells (cfgV T R H Re Ca S B) 23)
  have HE := Lib.hid hE
  obtain ⟨c0, c1, c2, c3, c4, c5, c6⟩ := Lat.cfg hC
  have Hw0 := Lib.hid hw0
  have hx0c : ∀ k : Lat w0, k.world.cell? ⟨bw, off, none⟩ = some (.int .u64 x0) := fun k => by
    have := (Ext.next HE.out k.ok).cell (p := ⟨bw, off + 0, none⟩) hbw
    exact this.trans Hx0c.out
  have Hwc : Hid (∀ (k : Lat w0) (j : Nat) (x : Int), ws[j]? = some x → k.world.cell? ⟨bw, off + j, none⟩ = some (.int .u64 x)) := fun k j x hj => by
    obtain ⟨b', off', hA', _, hc⟩ := (Hr.out.ext (Ext.next HE.out k.ok)) (by intro h; have := congrArg List.length h; simp at this; subst this; simp at hj)
    injection hA' with hA'
    injection hA' with h1 h2
    subst h1 h2
    exact hc j _ (by simp [hj])
  have ltC := Lat.lt (b := w.heap.size) hlt
  have ltW := Lat.lt (w0 := w0) (b := bw) (by omega)
  clear hw0 hC hE
  go_upto_region 1 with fail
  rw [Hw0.out]
  obtain ⟨k0, hk0⟩ := lat_self w0
  rw [hk0]
  clear hk0
  go_wp2_with fail
  refine (isHead_any x0 _ hx0a hx0b).mono ?_
  rintro e w1 ⟨rfl, rfl⟩
  by_cases hx : x0 % 4294967296 ≤ 2147483647
  · have hxd : decide (x0 % 4294967296 ≤ 2147483647) = true := by simpa using hx
    rw [hxd]
    have HX := Lib.hid hx
    clear hx hxd
    go_wp2_with fail
    refine (linkIndex_any x0 _ hx0a hx0b).mono ?_
    rintro e w2 ⟨rfl, rfl⟩
    obtain ⟨w3, hw3, hM, hE3, hlt3⟩ := enter1 k0.world (.cells (repl S.toNat (.bool false)) 4)
    rw [hw3]
    have hgW := k0.ok.size
    obtain ⟨k3, rfl⟩ := lat_next k0 hE3
    generalize hg : k0.world.heap.size = g at *
    have HM := Lib.hid hM
    clear hw3 hM hE3 hg
    go_wp2_with fail
    go_loopw [7, 8] (fun s7 s8 wr => ∃ (k : Lat w0) (s : Int) (acc : List Int) (seen : List Bool), wr = k.world ∧ s8 = .int .i64 s ∧ Hid (tot = (spF S (wdOf R H S B ws) (falses seen) seen s).map (acc ++ ·)) ∧ acc.length + falses seen ≤ S.toNat ∧
      Hid (seen.length = S.toNat) ∧ Hid (k.world.heap[g]? = some (.cells (seen.map Value.bool).toArray 4 (0, 0))) ∧ k.world.ownsRow w0.heap.size 3 1 s7 acc.length (acc.map (Value.int .i64))) (fun v _ _ => S.toNat + 1 - lenOf v)
    case atStart =>
      refine ⟨k3, _, [], List.replicate S.toNat false, rfl, rfl, ?_, ?_, ?_, ?_, World.ownsRow_nil _ _ _ _⟩
      · show _ = _; rw [HT.out, falses_replicate]; simp
      · simp [falses_replicate]
      · show _ = _; simp
      · show _ = _; rw [HM.out]; simp [repl]
    case round =>
      obtain ⟨k, s, acc, seen, rfl, rfl, hF, hln, hsl, hgb, hown⟩ := hrel
      obtain ⟨A10, c10, rfl⟩ := own_form hown
      have HO := Lib.hid hown
      have HEx := Lib.hid (Ext.next HE.out k.ok)
      have hbs := HEx.out.size
      by_cases hs0 : s < 0
      · have ht : tot = some acc := by rw [hF.out, spF_neg hs0]; simp
        have HSS : Hid (tailSpec S (wdOf R H S B ws) x0 = (0, acc)) := by show _ = _; rw [tailSpec, if_pos HX.out, ← HT.out, ht]
        have hs1 : decide (0 ≤ s) = false := by simp; omega
        clear hown ht
        go_wp2_with fail
        go_ret2
        rw [HSS.out]
        exact ⟨_, rfl, own_base HO.out HE.out.size, HEx.out⟩
      · obtain ⟨i, rfl⟩ : ∃ i : Nat, s = i := ⟨s.toNat, by omega⟩
        by_cases hi : (i : Int) < S
        · have hil : i < seen.length := by rw [hsl.out]; omega
          obtain ⟨x, hx⟩ : ∃ x, seen[i]? = some x := ⟨_, List.getElem?_eq_getElem hil⟩
          have hcell : k.world.cell? ⟨g, i, none⟩ = some (.bool x) := cellOf hgb.out (by simp [hx])
          have hfree := freeOf hgb.out i
          have hi0 : (0 : Int) ≤ (i : Int) := by omega
          have hi2 : (i : Int) < (S.toNat : Int) := by omega
          have hi3 : i < S.toNat := by omega
          cases x with
          | true =>
            have HN : Hid (newF S seen i = (0, false, seen)) := by
              show _ = _
              unfold newF
              rw [if_neg hs0, if_neg (by rw [Int.toNat_natCast, hx]; simp)]
            have HSS : Hid (tailSpec S (wdOf R H S B ws) x0 = (100, [])) := by show _ = _; rw [tailSpec, if_pos HX.out, ← HT.out, hF.out, spF_bad hi0 HN.out]; rfl
            clear hown hx
            go_wp2_with fail
            go_ret2
            rw [HSS.out]
            exact ⟨_, rfl, World.ownsRow_nil _ _ _ _, HEx.out⟩
          | false =>
            have HN : Hid (newF S seen i = ((i : Int), true, seen.set i true)) := by
              show _ = _
              unfold newF
              rw [if_neg hs0, if_pos ⟨hi, by rw [Int.toNat_natCast, hx]⟩, Int.toNat_natCast]
            have hfl : falses seen = falses (seen.set i true) + 1 := by
              rcases newF_cases S seen i hi0 with h | ⟨_, _, _, h⟩
              · rw [HN.out] at h; simp at h
              · simpa using h
            obtain ⟨j, hj, hjn, hjx, hxa, hxb⟩ := Hw9.out i hi
            have hwc := fun k => Hwc.out k j _ hjx
            have HJx := Lib.hid hjx
            have HG : Hid (tot = if wdOf R H S B ws i ≤ 2147483647 then (spF S (wdOf R H S B ws) (falses (seen.set i true)) (seen.set i true) (wdOf R H S B ws i - 1)).map ((acc ++ [(i : Int)]) ++ ·) else none) := by
              show _ = _
              have h := hF.out
              rw [spF_go hi0 (by rw [HN.out, Int.toNat_natCast]) (by rw [Int.toNat_natCast]; exact hfl), Int.toNat_natCast] at h
              rw [h]
              split
              · rw [Option.map_map]; congr 1; funext x; simp
              · rfl
            generalize wdOf R H S B ws i = x1 at hwc HJx HG hxa hxb
            have HFL := Lib.hid hfl
            clear hjx hown hx hfl
            go_upto_region 10 with fail
            have e4 : Ext w0 (k.world.setCell ⟨g, i, none⟩ (.bool true)) := k.ok.only (S := fun q => q = g) ((Only.refl _ _).setCell _ _ fun _ => rfl) fun q h => by omega
            have hg4 := heap_setCell_same _ g i _ _ (.bool true) hgb.out
            rw [seenSet] at hg4
            have ho4 := ownsRow_setCell_other HO.out (a := ⟨g, i, none⟩) (own_apart HO.out hgb.out (by decide)) (.bool true)
            obtain ⟨k4, hk4⟩ := lat_of e4
            rw [hk4] at hg4 ho4 ⊢
            have HG4 := Lib.hid hg4
            have hap := own_apart ho4 hg4 (by decide)
            have HOB : Hid (∀ q, some q = (Value.slice A10 acc.length c10).ownBlock → w0.heap.size ≤ q ∧ q ≠ g) := fun q hq => ⟨(ho4.lt q hq.symm).1, fun e => hap (by rw [← hq, e])⟩
            have hbs4 := k4.ok.size
            clear hk4 e4 hg4 hap hcell hfree
            go_upto_region 11 with (at_builtin; refine wpList_push _ rfl _ _ 26 rfl w0.heap.size 3 1 8 elemInt Try.underlying26 _ _ _ rfl ho4 _ rfl rfl (by simp [Value.oneCell']) (by omega) hbs4 ?_; intro v5 w5 hown5 hgrow5 hat5)
            have HG5 := Lib.hid ((hgrow5.block g (blk_lt HG4.out) (fun h => (HOB.out _ h).2 rfl)).trans HG4.out)
            obtain ⟨k5, rfl⟩ := lat_of (k4.ok.only (Only.of_grown hgrow5) fun q hq => (HOB.out q hq).1)
            have HO5 := Lib.hid hown5
            clear hown5 hgrow5 hat5 ho4
            go_wp2_with fail
            refine (Hbase.out _).mono ?_
            rintro e w6 ⟨rfl, e6⟩
            have HO6 := Lib.hid (own_ext HO5.out e6)
            have HG6 := Lib.hid (ext_blk e6 HG5.out)
            obtain ⟨k6, rfl⟩ := lat_next k5 e6
            clear e6
            go_wp2_with fail
            refine (fits_spare x1 _ hxa hxb).mono ?_
            rintro e w7 ⟨rfl, rfl⟩
            by_cases hx1 : x1 ≤ 2147483647
            · have hx1d : decide (x1 ≤ 2147483647) = true := by simpa using hx1
              rw [hx1d]
              clear hx1d
              go_wp2_with fail
              refine (linkIndex_any x1 _ hxa hxb).mono ?_
              rintro e w8 ⟨rfl, rfl⟩
              have hm : x1 % 4294967296 - 1 = x1 - 1 := by omega
              rw [hm]
              have HG' := HG.out
              rw [if_pos hx1] at HG'
              have HGG := Lib.hid HG'
              obtain ⟨A5, c5, rfl⟩ := own_form HO6.out
              clear hm HG' hj
              go_wp2_with fail
              go_roundw
              case rel => exact ⟨k6, _, acc ++ [(i : Int)], seen.set i true, rfl, rfl, HGG, by rw [HFL.out] at hln; simp; omega, by show _ = _; rw [List.length_set, hsl.out], HG6, by simpa using HO6.out⟩
              case measure => rw [HFL.out] at hln; simp [lenOf]; omega
            · have hx1d : decide (x1 ≤ 2147483647) = false := by simpa using hx1
              rw [hx1d]
              have HSS : Hid (tailSpec S (wdOf R H S B ws) x0 = (100, [])) := by show _ = _; rw [tailSpec, if_pos HX.out, ← HT.out, HG.out, if_neg hx1]
              clear hx1d hj
              go_wp2_with fail
              go_ret2
              rw [HSS.out]
              exact ⟨_, rfl, World.ownsRow_nil _ _ _ _, Ext.next HE.out k6.ok⟩
        · have HN : Hid (newF S seen i = (0, false, seen)) := by
            show _ = _
            unfold newF
            rw [if_neg hs0, if_neg (fun h => hi h.1)]
          have HSS : Hid (tailSpec S (wdOf R H S B ws) x0 = (100, [])) := by show _ = _; rw [tailSpec, if_pos HX.out, ← HT.out, hF.out, spF_bad (by omega) HN.out]; rfl
          have hi1 : decide (S ≤ (i : Int)) = true := by simp; omega
          clear hown
          go_wp2_with fail
          go_ret2
          rw [HSS.out]
          exact ⟨_, rfl, World.ownsRow_nil _ _ _ _, HEx.out⟩
  · have hxd : decide (x0 % 4294967296 ≤ 2147483647) = false := by simpa using hx
    rw [hxd]
    have hs : Hid (tailSpec S (wdOf R H S B ws) x0 = (100, [])) := by show _ = _; rw [tailSpec, if_neg (by omega)]
    clear hx hxd
    go_wp2_with fail
    go_ret2
    rw [hs.out]
    exact ⟨_, rfl, World.ownsRow_nil _ _ _ _, Ext.next HE.out k0.ok⟩

end Go.Proofs.Ytfbacopjookplaa
