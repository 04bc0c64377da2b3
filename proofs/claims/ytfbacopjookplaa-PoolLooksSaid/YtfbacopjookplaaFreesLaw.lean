/- PoolFrees: of any configuration and words the program's free list, or its error, is the document's; the words stay as they were. No condition. -/
import Derived.Test.YtfbacopjookplaaRows
import Derived.Test.YtfbacopjookplaaRefFree
import Derived.Test.YtfbacopjookplaaOpenRun
import Derived.Test.YtfbacopjookplaaFacts
namespace Go.Proofs.Ytfbacopjookplaa
open Go.ChangeShapes Go.WideShapes Go.ChangeAt Go.RowKit

set_option maxHeartbeats 1000000 in
theorem refFree_any (T R H Re Ca S B : Int) (A : Option Addr) (n c : Nat) (ws : List Int) (w : World) (hr : Rd w A (ws.map (Value.int .u64))) (hl : ws.length = n) (hws : ∀ x ∈ ws, 0 ≤ x ∧ x ≤ 18446744073709551615) :
    Calls Try.prog 13 #[(.agg #[.int .i64 T, .int .i64 R, .int .i64 H, .int .i64 Re, .int .i64 Ca, .int .i64 S, .int .i64 B]), .slice A n c] w (IntsOut w .i64 (freeSpec T R H Re Ca S B ws)) := by
  by_cases hok : Okay T R H Re Ca S B ∧ (n : Int) = sumOf R H S B 13
  · have hs : Hid (freeSpec T R H Re Ca S B ws = tailSpec S (wdOf R H S B ws) (ws.getD 0 0)) := by
      show _ = _
      unfold freeSpec tailSpec
      rw [if_neg (by simpa using hok.1), if_neg (by rw [hl]; simpa using hok.2)]
    have hz : Hid ((if ¬ Okay T R H Re Ca S B then (1 : Int) else if (n : Int) ≠ sumOf R H S B 13 then 2 else 0) = 0) := by
      show _ = _
      rw [if_neg (by simpa using hok.1), if_neg (by simpa using hok.2)]
    have Hsp := Lib.hid (fun w (hr : Rd w A (ws.map (Value.int .u64))) => spares_ok T R H Re Ca S B hok.1 A n c ws w hr hl hok.2 hws)
    have Hr := Lib.hid hr
    clear hok hr hl hws
    go_enter Try.func13, Try.ntmps13
    go_wp2_with fail
    refine (refused_any T R H Re Ca S B A n c _).mono ?_
    rintro e w1 ⟨rfl, e1⟩
    rw [hz.out]
    obtain ⟨w0, hw0, hC, hE, hlt⟩ := enter1 w (.cells (cfgV T R H Re Ca S B) 23)
    rw [hw0] at e1
    have HE := Lib.hid hE
    obtain ⟨c0, c1, c2, c3, c4, c5, c6⟩ := Lat.cfg hC
    obtain ⟨k1, rfl⟩ := lat_of e1
    clear hw0 hC hE e1
    go_wp2_with fail
    refine (Hsp.out _ (Hr.out.ext (Ext.next HE.out k1.ok))).mono ?_
    rintro e w2 ⟨v, rfl, hown, e2⟩
    have HO := Lib.hid hown
    have E2 := Lib.hid (Ext.next (Ext.next HE.out k1.ok) e2)
    have hsz := (Ext.next HE.out k1.ok).size
    clear hown e2
    have hcase : (tailSpec S (wdOf R H S B ws) (ws.getD 0 0)).1 = 0 ∨ (tailSpec S (wdOf R H S B ws) (ws.getD 0 0) = (100, [])) := by
      unfold tailSpec
      split
      · split
        · exact .inr rfl
        · exact .inl rfl
      · exact .inr rfl
    generalize tailSpec S (wdOf R H S B ws) (ws.getD 0 0) = q at hs HO hcase
    obtain ⟨er, l⟩ := q
    rcases hcase with h | h
    · simp only at h
      subst h
      go_wp2_with fail
      go_ret2
      rw [hs.out]
      exact ⟨_, rfl, own_base HO.out hsz, E2.out⟩
    · injection h with h1 h2
      subst h1 h2
      go_wp2_with fail
      go_ret2
      rw [hs.out]
      exact ⟨_, rfl, World.ownsRow_nil _ _ _ _, E2.out⟩
  · have hz : Hid (∃ er : Int, er ≠ 0 ∧ freeSpec T R H Re Ca S B ws = (er, []) ∧ (if ¬ Okay T R H Re Ca S B then (1 : Int) else if (n : Int) ≠ sumOf R H S B 13 then 2 else 0) = er) := by
      show ∃ _, _
      unfold freeSpec
      by_cases h1 : Okay T R H Re Ca S B
      · have h2 : (n : Int) ≠ sumOf R H S B 13 := fun h => hok ⟨h1, h⟩
        refine ⟨2, by omega, ?_, ?_⟩
        · rw [if_neg (by simpa using h1), if_pos (by rw [hl]; exact h2)]
        · rw [if_neg (by simpa using h1), if_pos h2]
      · exact ⟨1, by omega, by rw [if_pos h1], by rw [if_pos h1]⟩
    clear hok hr hl hws
    obtain ⟨er, her, hs, hq⟩ := hz.out
    have hb : (er != 0) = true := by simpa using her
    have Hs := Lib.hid hs
    have Hq := Lib.hid hq
    clear hs hq hz her
    go_enter Try.func13, Try.ntmps13
    go_wp2_with fail
    refine (refused_any T R H Re Ca S B A n c _).mono ?_
    rintro e w1 ⟨rfl, e1⟩
    rw [Hq.out]
    have E1 := Lib.hid (Ext.next ((Ext.rfl' w).alloc1 _) e1)
    clear e1
    go_wp2_with fail
    go_ret2
    rw [Hs.out]
    exact ⟨_, rfl, World.ownsRow_nil _ _ _ _, E1.out⟩

theorem num_any (x : Int) (w : World) : Calls Try.prog 14 #[.int .i64 x] w fun e w' => e = .returned (.int .i64 x) ∧ w' = w := by
  go_enter Try.func14, Try.ntmps14
  go_wp2_with fail
  go_ret
  exact ⟨rfl, rfl⟩

set_option maxHeartbeats 1000000 in
theorem sameInts_any (A A' : Option Addr) (n c c' : Nat) (xs : List Int) (w : World) (h : Rd w A (xs.map (Value.int .i64))) (h' : Rd w A' (xs.map (Value.int .i64))) (hl : xs.length = n) (hbig : n ≤ 9223372036854775807) :
    Calls Try.prog 15 #[.slice A n c, .slice A' n c'] w fun e w' => e = .returned (.bool true) ∧ Ext w w' := by
  have Hh := Lib.hid h
  have Hh' := Lib.hid h'
  have Hl := Lib.hid hl
  clear h h' hl
  refine start_lat fun k0 => ?_
  go_enter Try.func15, Try.ntmps15
  go_wp2_with fail
  go_loopw [5] (fun s5 wr => ∃ (k : Lat w) (i : Nat), wr = k.world ∧ i ≤ n ∧ s5 = .int .i64 i) (fun s _ => n - (intOf s).toNat)
  case atStart => exact ⟨k0, 0, rfl, by omega, rfl⟩
  case round =>
    obtain ⟨k, i, rfl, hi, rfl⟩ := hrel
    by_cases hlt : i < n
    · obtain ⟨x, hx⟩ : ∃ x, xs[i]? = some x := ⟨_, List.getElem?_eq_getElem (by rw [Hl.out]; exact hlt)⟩
      obtain ⟨b, off, rfl, hb, hc⟩ := Hh.out.lat (j := i) (u := .int .i64 x) (by simp [hx])
      obtain ⟨b', off', rfl, hb', hc'⟩ := Hh'.out.lat (j := i) (u := .int .i64 x) (by simp [hx])
      have h0 : (0 : Int) ≤ (i : Int) := by omega
      have h1 : (i : Int) < (n : Int) := by omega
      clear hx
      go_wp2_with fail
      refine wp_region_cls (Ext w) (Ext.drew1 k.ok) (by kernel_rfl) (by kernel_rfl) ?_
      repeat (go_big_quiet_step (fail))
      refine wpQuiet_nil ?_
      rintro _ ⟨k4, rfl⟩
      go_wp2_with fail
      go_roundw
      case rel => exact ⟨k4, i + 1, rfl, by omega, by go_num⟩
      case measure => simp [intOf]; omega
    · obtain rfl : n = i := by omega
      go_wp2_with fail
      go_ret
      exact ⟨rfl, k.ok⟩

set_option maxHeartbeats 1000000 in
theorem kept_any (A A' : Option Addr) (n c c' : Nat) (ws : List Int) (w : World) (h : Rd w A ((ws ++ [77]).map (Value.int .u64))) (h' : Rd w A' (ws.map (Value.int .u64))) (hl : ws.length = n) (hbig : n ≤ 140737488355328) :
    Calls Try.prog 16 #[.slice A (n + 1) c, .slice A' n c'] w fun e w' => e = .returned (.bool true) ∧ Ext w w' := by
  have Hh := Lib.hid h
  have Hh' := Lib.hid h'
  have Hl := Lib.hid hl
  obtain ⟨b0, off0, rfl, hb0, hc0⟩ := h.lat (j := n) (u := .int .u64 77) (by rw [List.map_append, List.getElem?_append_right (by simp [hl])]; simp [hl])
  clear h h' hl
  refine start_lat fun k0 => ?_
  go_enter Try.func16, Try.ntmps16
  go_wp2_with fail
  go_loopw [5] (fun s5 wr => ∃ (k : Lat w) (i : Nat), wr = k.world ∧ i ≤ n ∧ s5 = .int .i64 i) (fun s _ => n - (intOf s).toNat)
  case atStart => exact ⟨k0, 0, rfl, by omega, rfl⟩
  case round =>
    obtain ⟨k, i, rfl, hi, rfl⟩ := hrel
    by_cases hlt : i < n
    · obtain ⟨x, hx⟩ : ∃ x, ws[i]? = some x := ⟨_, List.getElem?_eq_getElem (by rw [Hl.out]; exact hlt)⟩
      obtain ⟨b, off, hA, hb, hc⟩ := Hh.out.lat (j := i) (u := .int .u64 x) (by rw [List.map_append, List.getElem?_append_left (by simp [Hl.out]; exact hlt)]; simp [hx])
      injection hA with hA
      injection hA with h1 h2
      subst h1 h2
      obtain ⟨b', off', rfl, hb', hc'⟩ := Hh'.out.lat (j := i) (u := .int .u64 x) (by simp [hx])
      have h0 : (0 : Int) ≤ (i : Int) := by omega
      have h1 : (i : Int) < (n : Int) := by omega
      have h2 : (i : Int) < ((n + 1 : Nat) : Int) := by omega
      have h3 : (i : Int) < (n : Int) + 1 := by omega
      clear hx
      go_wp2_with fail
      refine wp_region_cls (Ext w) (Ext.drew1 k.ok) (by kernel_rfl) (by kernel_rfl) ?_
      repeat (go_big_quiet_step (fail))
      refine wpQuiet_nil ?_
      rintro _ ⟨k4, rfl⟩
      go_wp2_with fail
      go_roundw
      case rel => exact ⟨k4, i + 1, rfl, by omega, by go_num⟩
      case measure => simp [intOf]; omega
    · obtain rfl : n = i := by omega
      go_wp2_with fail
      go_ret
      exact ⟨rfl, k.ok⟩

theorem elemWord : Elem Try.prog 25 1 8 := Elem.of (z := .int .u64 0) (by kernel_rfl) rfl (by omega) (by omega)
theorem one_words (ws : List Int) : ∀ u ∈ ws.map (Value.int .u64), u.oneCell' = true := by
  intro u hu
  obtain ⟨x, _, rfl⟩ := List.mem_map.1 hu
  rfl
theorem own_len {w : World} {B : Nat} {v : Value} {e : TypeId} {size n : Nat} {us : List Value} (h : w.ownsRow B e size v n us) : n ≤ 9223372036854775807 := by
  rcases h.2 with ⟨_, rfl⟩ | ⟨g, cap, cur, rfl, _, _, h1, h2, _⟩
  · omega
  · unfold maxLen at h2; omega
/-- A made slice of no elements. -/
theorem own_empty (w : World) (B : Nat) (hB : B ≤ w.heap.size) (e : TypeId) (size : Nat) : (w.alloc (.cells #[] e)).ownsRow B e size (.slice (some ⟨w.heap.size, 0, none⟩) 0 0) 0 [] := by
  refine ⟨by simp, .inr ⟨w.heap.size, 0, #[], rfl, hB, heap_alloc_new _ _, Nat.le_refl _, ?_, by simp, by simp⟩⟩
  unfold maxLen; omega

set_option maxHeartbeats 2000000 in
theorem poolFrees_walk (T R H Re Ca S B : Int) (A : Option Addr) (n c : Nat) (ws : List Int) (w : World) (hr : Rd w A (ws.map (Value.int .u64))) (hl : ws.length = n) (hws : ∀ x ∈ ws, 0 ≤ x ∧ x ≤ 18446744073709551615) (hreach : n * 8 ≤ 140737488351232) :
    Calls Try.prog 3 #[(.agg #[.int .i64 T, .int .i64 R, .int .i64 H, .int .i64 Re, .int .i64 Ca, .int .i64 S, .int .i64 B]), .slice A n c] w fun e w' => e = .returned (.bool true) ∧ Ext w w' := by
  have Hr := Lib.hid hr
  have Hl := Lib.hid hl
  have Hws := Lib.hid hws
  clear hr hl hws
  go_enter Try.func3, Try.ntmps3
  go_upto_region 1 with fail
  obtain ⟨w0, hw0, hC, hE, hlt⟩ := enter1 w (.cells (cfgV T R H Re Ca S B) 23)
  rw [hw0]
  have HE := Lib.hid hE
  have HC := Lib.hid hC
  clear hw0 hC hE
  have hown0 := own_empty w0 w0.heap.size (Nat.le_refl _) 25 1
  have hE0 := Lib.hid (Hr.out.ext ((HE.out).alloc1 (.cells #[] 25)))
  go_upto_region 2 with (first
    | (at_builtin; refine wpList_appendR _ rfl (.tmp 10) (.tmp 11) 24 rfl w0.heap.size 25 1 8 elemWord Try.underlying24 _ 0 [] rfl hown0 A n c (ws.map (Value.int .u64)) rfl (by rw [List.length_map, Hl.out]; omega) hE0.out (one_words ws) (by omega) (by simp) ?_; intro v1 w1 hown1 hgrow1 hat1; rw [Nat.zero_add, List.nil_append] at hown1)
    | (at_builtin; refine wpList_push _ rfl (.tmp 12) (.tmp 13) 24 rfl w0.heap.size 25 1 8 elemWord Try.underlying24 _ _ _ rfl hown1 _ rfl rfl (by simp [Value.oneCell']) (by omega) (by have := hgrow1.size; simp at this; omega) ?_; intro v2 w2 hown2 hgrow2 hat2))
  obtain ⟨g, c2, rfl, hnc, hg0, hg1⟩ := own_form1 hown2 (by omega)
  have hx2 : Ext w0 w2 := by
    have h1 : Ext w0 w1 := ((Ext.rfl' w0).alloc1 (.cells #[] 25)).only (Only.of_grown hgrow1) fun q hq => by have hq' : some q = some w0.heap.size := hq; injection hq' with hq'; omega
    refine h1.only (Only.of_grown hgrow2) fun q hq => (hown1.lt q hq.symm).1
  have hr2 : Rd w2 (some ⟨g, 0, none⟩) ((ws ++ [77]).map (Value.int .u64)) := by
    have := Rd.of_own hown2
    simpa using this
  have Hr2 := Lib.hid hr2
  have Hr2w : Hid (Rd w2 (some ⟨g, 0, none⟩) (ws.map (Value.int .u64))) := by
    have h := hr2
    rw [List.map_append] at h
    exact h.prefix_
  obtain ⟨c0, c1, c2', c3, c4, c5, c6⟩ := cfgCells (ext_blk hx2 HC.out)
  have Hx2 := Lib.hid (Ext.next HE.out hx2)
  have HC2 := Lib.hid (ext_blk hx2 HC.out)
  clear hr2 hx2 hown1 hgrow1 hat1 hown2 hgrow2 hat2 hown0
  have hnc1 : (n : Int) ≤ (c2 : Int) := by omega
  have hnc0 : (0 : Int) ≤ (n : Int) := by omega
  have hnc2 : n ≤ c2 := by omega
  go_region_with ((with_reducible refine (free_any T R H Re Ca S B _ n c2 ws _ (by exact Hr2w.out.ext (Ext.rfl' w2).drew1) Hl.out Hws.out).mono ?_); rintro e w3 ⟨v3, rfl, hown3, e3⟩)
  have Hc3 := Lib.hid (ext_blk (Ext.next (Ext.rfl' w2).drew1 e3) HC2.out)
  have Hx3 := Lib.hid (Ext.next (Ext.next Hx2.out (Ext.rfl' w2).drew1) e3)
  have HO3 := Lib.hid hown3
  have Hr3 := Lib.hid (Hr2.out.ext (Ext.next (Ext.rfl' w2).drew1 e3))
  obtain ⟨d0, d1, d2, d3, d4, d5, d6⟩ := cfgCells Hc3.out
  have Href := Lib.hid (fun w hr => refFree_any T R H Re Ca S B A n c ws w hr Hl.out Hws.out)
  clear hown3 e3 c0 c1 c2' c3 c4 c5 c6
  generalize freeSpec T R H Re Ca S B ws = q at HO3 Href
  obtain ⟨er, l⟩ := q
  simp only at HO3
  obtain ⟨A3, k3, rfl⟩ := own_form HO3.out
  have hl3 := own_len HO3.out
  go_wp2_with fail
  refine (Href.out _ (Hr.out.ext Hx3.out)).mono ?_
  rintro e w4 ⟨v4, rfl, hown4, e4⟩
  have Hx4 := Lib.hid (Ext.next Hx3.out e4)
  have HO4 := Lib.hid hown4
  have HR3 := Lib.hid ((Rd.of_own HO3.out).ext e4)
  have HR4 := Lib.hid (Hr3.out.ext e4)
  clear hown4 e4 d0 d1 d2 d3 d4 d5 d6
  simp only at HO4
  obtain ⟨A4, k4, rfl⟩ := own_form HO4.out
  go_wp2_with fail
  refine (num_any er _).mono ?_
  rintro e w5 ⟨rfl, rfl⟩
  go_wp2_with fail
  refine (sameInts_any A3 A4 l.length k3 k4 l _ HR3.out (Rd.of_own HO4.out) rfl hl3).mono ?_
  rintro e w6 ⟨rfl, e6⟩
  have Hx6 := Lib.hid (Ext.next Hx4.out e6)
  have HR6 := Lib.hid (HR4.out.ext e6)
  clear e6
  go_wp2_with fail
  refine (kept_any _ A n c2 c ws _ HR6.out (Hr.out.ext Hx6.out) Hl.out (by omega)).mono ?_
  rintro e w7 ⟨rfl, e7⟩
  have Hx7 := Lib.hid (Ext.next Hx6.out e7)
  clear e7
  go_wp2_with fail
  go_ret
  exact ⟨rfl, Hx7.out⟩

set_option maxRecDepth 100000 in
theorem poolFrees_lifted (os : Os) (started : os.Started) (H : Type) (enc : TypeId × Value → H) :
    ReturnsInHanded {} Try.checked os 3 .any (Rows.poolFreesSpec.pre6 enc Try.prog Try.f3 [] false) (Rows.poolFreesSpec.post enc Try.prog Try.f3 false true false false) := by
  refine lawWrap (C := Try.checked) (tb := 4) own_ started (by kernel_rfl) Try.func3
    (ChangeSpec.witness6 (enc := enc) (C := Try.checked) false ⟨#[], #[.agg #[.int .i64 0, .int .i64 0, .int .i64 0, .int .i64 0, .int .i64 0, .int .i64 0, .int .i64 0], .slice none 0 0], []⟩ 8 (by kernel_rfl) (by kernel_rfl) (by kernel_rfl) (by kernel_rfl))
    rfl Try.underlying4 rfl ?_ laidOut_ (by kernel_rfl) ?_
  · intro ds hds
    match ds, hds with
    | [d1, d2], _ => exact ⟨rfl, rfl, rfl⟩
  · intro W base args ds ps hval0 hA0 hlt hsz
    have hval : ∀ (j : Nat) t v, Try.f3.params[j]? = some t → args[j]? = some v → Value.okWide Try.prog W .any base t v := hval0
    have hA : DataW.TrodAll enc Try.prog W 0 (fun _ => true) true Try.f3.params.toList args.toList ds ps := hA0
    rw [Try.params3] at hA hval
    obtain ⟨v0, v1, d0, d1, p0, p1, rfl, rfl, rfl, h0, h1⟩ := trodAll_two hA
    obtain ⟨T, R, H', Re, Ca, S, B, rfl, _⟩ := openCfg (hval 0 23 v0 rfl rfl) h0
    obtain ⟨A, n, c, ws, rfl, hnc, hl, hr, hws, hd⟩ := openWords Try.underlying24 Try.underlying25 (hval 1 24 v1 rfl rfl) h1
    have hreach := reach_slice (j := 1) (t := 24) (d := d1) hsz rfl rfl Try.underlying24 hd
    rw [show Try.checked.prog.bytesOf 25 = 8 by kernel_rfl] at hreach
    exact poolFrees_walk T R H' Re Ca S B A n c ws W hr hl hws (by omega)

theorem poolFrees_holds : Rows.PoolFreesSaid :=
  OpenClaim.holds_of_wide 3 Try.f3 rfl rfl rfl rfl rfl rfl rfl ⟨rfl, rfl, rfl, rfl, rfl⟩ rfl rfl rfl rfl rfl (by kernel_rfl) Try.func3 (by kernel_rfl)
    (of_decide_eq_true (by kernel_rfl)) (by unfold Func.isWrapper; first | (rw [if_pos (by decide +kernel)]; kernel_rfl) | (rw [if_neg (by decide +kernel)]; exact ⟨rfl, rfl⟩))
    (fun os started H enc _ => poolFrees_lifted os started H enc)

end Go.Proofs.Ytfbacopjookplaa
