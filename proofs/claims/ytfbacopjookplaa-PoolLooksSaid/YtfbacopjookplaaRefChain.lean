/- The walk of the document's walker's chain. -/
import Derived.Test.YtfbacopjookplaaRefVals
namespace Go.Proofs.Ytfbacopjookplaa
open Go.RowKit

/-- A plain link, by the document's words. -/
theorem plain_dec (x : Int) (h0 : 0 ≤ x) : (decide (x < 8589934592 ∧ x % 4294967296 ≤ 2147483647) = true ∧ (x / 4294967296 % 2 == 1) = false) ↔ x ≤ 2147483647 := by
  constructor
  · rintro ⟨h1, h2⟩
    have h1 := of_decide_eq_true h1
    have h2 : ¬ (x / 4294967296 % 2 = 1) := by simpa using h2
    omega
  · intro h
    refine ⟨decide_eq_true (by omega), ?_⟩
    have : ¬ (x / 4294967296 % 2 = 1) := by omega
    simpa using this
theorem link_dec (mk : Bool) (x : Int) (h0 : 0 ≤ x) : linkOK mk x = (decide (x < 8589934592 ∧ x % 4294967296 ≤ 2147483647) && (mk || !(x / 4294967296 % 2 == 1))) := by
  unfold linkOK
  by_cases h : x < 8589934592 ∧ x % 4294967296 ≤ 2147483647
  · have : decide (x < 4294967296) = !(x / 4294967296 % 2 == 1) := by
      by_cases h2 : x < 4294967296
      · have h3 : ¬ (x / 4294967296 % 2 = 1) := by omega
        simp [h2, h3]
      · have h3 : x / 4294967296 % 2 = 1 := by omega
        simp [h2, h3]
    rw [this]
  · simp [h]

/-- What the document's chain answers. -/
def RChain (w : World) (T R H Re Ca S B : Int) (A : Option Addr) (n c : Nat) (ws : List Int) (b sb : Nat) (bad : Bool) (tot : List (Int × Bool) × Bool × List Bool) (e : Ending) (w' : World) : Prop :=
  ∃ v l seen2 bad2, e = .returned v ∧ w'.ownsRow w.heap.size 3 1 v l.length (l.map (Value.int .i64)) ∧ Only (fun q => q = sb ∨ q = b) w w' ∧ RWalker w' T R H Re Ca S B A n c ws b sb seen2 bad2 ∧ (∀ s ∈ l, 0 ≤ s ∧ s < S) ∧ l.length ≤ S.toNat ∧
    ((tot.2.1 = true ∧ l = tot.1.map Prod.fst ∧ seen2 = tot.2.2 ∧ bad2 = bad) ∨ (tot.2.1 = false ∧ l = [] ∧ bad2 = true))

set_option maxRecDepth 100000 in
set_option maxHeartbeats 8000000 in
theorem rchain_any (T R H Re Ca S B : Int) (hok : Okay T R H Re Ca S B) (A : Option Addr) (n c : Nat) (ws : List Int) (hn : (n : Int) = sumOf R H S B 13) (hws : ∀ x ∈ ws, 0 ≤ x ∧ x ≤ 18446744073709551615)
    (b sb : Nat) (seen0 : List Bool) (bad : Bool) (x0 : Int) (hx0 : 0 ≤ x0) (hx1 : x0 ≤ 18446744073709551615) (mk : Bool) (w : World)
    (hA : ∀ bw off, A = some ⟨bw, off, none⟩ → bw ≠ sb ∧ bw ≠ b ∧ bw < w.heap.size) (hw : RWalker w T R H Re Ca S B A n c ws b sb seen0 bad) :
    Calls Try.prog 65 #[.pointer (some ⟨b, 0, none⟩), .int .u64 x0, .bool mk] w (RChain w T R H Re Ca S B A n c ws b sb bad (chainOf S (regOf R H S B ws 12) mk seen0 x0)) := by
  have hok' := hok
  unfold Okay at hok'
  obtain ⟨_, _, hR, hR', hH, hH', _, _, _, _, hS, hS', hB, hB'⟩ := hok'
  have Hat : Hid (∀ (w : World) (seen : List Bool) (s : Int), RWalker w T R H Re Ca S B A n c ws b sb seen bad → 0 ≤ s → s < S → Calls Try.prog 106 #[.pointer (some ⟨b, 0, none⟩), .int .i64 13, .int .i64 s] w fun e w' => e = .returned (.int .u64 (regOf R H S B ws 12 s)) ∧ Ext w w') :=
    fun w seen s hw h0 h1 => rreg_any T R H Re Ca S B hok A n c ws hn hws 12 13 rfl (by omega) s h0 (by simp [manyOf]; exact h1) b sb seen bad w hw
  have Hbd : Hid (∀ s : Int, 0 ≤ s → s < S → 0 ≤ regOf R H S B ws 12 s ∧ regOf R H S B ws 12 s ≤ 18446744073709551615) := fun s h0 h1 => by
    obtain ⟨j, hj, hx, h⟩ := reg_at hR hR' hH hH' hS hS' hB hB' hw.wlen hn hws 12 (by omega) s h0 (by simp [manyOf]; exact h1)
    exact h
  generalize regOf R H S B ws 12 = lk at *
  have HA := Lib.hid hA
  have HW := Lib.hid hw
  have HS := Lib.hid (⟨hS, hS'⟩ : 1 ≤ S ∧ S ≤ 1024)
  have Hx := Lib.hid (⟨hx0, hx1⟩ : 0 ≤ x0 ∧ x0 ≤ 18446744073709551615)
  have Hst : Hid (ChAt S lk mk seen0 (chainOf S lk mk seen0 x0) [] (plainF S seen0 x0).2.2 (plainF S seen0 x0).1 (plainF S seen0 x0).2.1) := chAt_start hS hw.len x0
  obtain ⟨tot, htot⟩ : ∃ tot, chainOf S lk mk seen0 x0 = tot := ⟨_, rfl⟩
  rw [htot] at Hst ⊢
  have Hfail : Hid (∀ (w' : World) (seen : List Bool), tot.2.1 = false → Only (fun q => q = sb ∨ q = b) w w' → RWalker w' T R H Re Ca S B A n c ws b sb seen true → RChain w T R H Re Ca S B A n c ws b sb bad tot (.returned (.slice none 0 0)) w') :=
    fun w' seen h1 h2 h3 => ⟨_, [], seen, true, rfl, World.ownsRow_nil _ _ _ _, h2, h3, by simp, Nat.zero_le _, .inr ⟨h1, rfl, rfl⟩⟩
  clear htot hok hn hws hA hw hR hR' hH hH' hB hB'
  obtain ⟨c0, c1, c2, c3, c4, c5, c6, c7, c8, c9⟩ := HW.out.cells
  have fr9 : ∀ z : Lat w, z.world.frozen? ⟨b, 9, none⟩ = false := Lat.free HW.out.blk 9
  have hltb := Lat.lt (w0 := w) HW.out.lt.1
  refine start_lat fun k0 => ?_
  go_enter Try.func65, Try.ntmps65
  by_cases hp : x0 ≤ 2147483647
  · have hpl : Hid (plainF S seen0 x0 = newF S seen0 (x0 - 1)) := if_pos hp
    have hq := (plain_dec x0 hx0).2 hp
    have Hq1 := Lib.hid hq.1
    have Hq2 := Lib.hid hq.2
    have hm : x0 % 4294967296 - 1 = x0 - 1 := by omega
    have Hm := Lib.hid hm
    rw [hpl.out] at Hst
    clear hq hp hm hpl
    go_wp2_with (first | (refine (isLink_any x0 _ Hx.out.1 Hx.out.2).mono ?_; rintro e w1 ⟨rfl, rfl⟩; rw [Hq1.out]) | (refine (linkMark_any x0 _ Hx.out.1 Hx.out.2).mono ?_; rintro e w1 ⟨rfl, rfl⟩; rw [Hq2.out]) | (refine (linkIndex_any x0 _ Hx.out.1 Hx.out.2).mono ?_; rintro e w1 ⟨rfl, rfl⟩; rw [Hm.out]))
    go_loopw [7, 8, 9] (fun s7 s8 _ wr => ∃ (s : Int) (acc : List (Int × Bool)) (seen : List Bool), s8 = .int .i64 s ∧ Hid (ChAt S lk mk seen0 tot acc (newF S seen s).2.2 (newF S seen s).1 (newF S seen s).2.1) ∧ Hid (RWalker wr T R H Re Ca S B A n c ws b sb seen bad) ∧ Hid (Only (fun q => q = sb ∨ q = b) w wr) ∧
      Hid (wr.ownsRow w.heap.size 3 1 s7 acc.length ((acc.map Prod.fst).map (Value.int .i64))) ∧ Hid (∀ x ∈ acc, 0 ≤ x.1 ∧ x.1 < S) ∧ acc.length ≤ S.toNat) (fun s7 _ _ _ => S.toNat + 1 - lenOf s7)
    case atStart => exact ⟨_, [], seen0, rfl, Hst, HW.out.ext k0.ok, Only.of_ext k0.ok, World.ownsRow_nil _ _ _ _, Lib.hid (by simp), Nat.zero_le _⟩
    case round =>
      clear c0 c1 c2 c3 c4 c5 c6 c7 c8 c9 fr9 hltb
      obtain ⟨s, acc, seen, rfl, HC, HWr, HOn, HO, HRg, hal⟩ := hrel
      obtain ⟨A7, d7, rfl⟩ := own_form HO.out
      obtain ⟨c0, c1, c2, c3, c4, c5, c6, c7, c8, c9⟩ := HWr.out.cells
      have fr9 : ∀ z : Lat wr, z.world.frozen? ⟨b, 9, none⟩ = false := Lat.free HWr.out.blk 9
      have hltb := Lat.lt (w0 := wr) HWr.out.lt.1
      obtain ⟨kr, hkr⟩ := lat_self wr
      rw [hkr]
      rcases newF_all S seen s with ⟨hf, hs0⟩ | ⟨hf, hs0⟩ | ⟨hf, hs0, hs1, hsl, hfl⟩
      · have HT : Hid (tot = (acc, true, seen)) := by
          have h := HC.out
          rw [hf] at h
          exact h.end_ (by simp; omega)
        clear hf
        go_wp2_with fail
        go_ret
        rw [← hkr]
        exact ⟨_, acc.map Prod.fst, seen, bad, rfl, by simpa using HO.out, HOn.out, HWr.out, fun y hy => by
          obtain ⟨x, hx, rfl⟩ := List.mem_map.1 hy
          exact HRg.out x hx, by rw [List.length_map]; exact hal, .inl ⟨by rw [HT.out], by rw [HT.out], by rw [HT.out], rfl⟩⟩
      · have HT : Hid (tot.2.1 = false) := by
          have h := HC.out
          rw [hf] at h
          rw [h.end_ (by simp)]
          exact Lib.hid rfl
        have HF2 : Hid (RChain w T R H Re Ca S B A n c ws b sb bad tot (.returned (.slice none 0 0)) (kr.world.setCell ⟨b, 9, none⟩ (.bool true))) :=
          Hfail.out _ seen HT.out ((HOn.out.trans (Only.of_ext (S := fun _ => False) kr.ok) fun _ _ h => h.elim).trans (S' := fun q => q = sb ∨ q = b) ((Only.refl (fun q => q = sb ∨ q = b) _).setCell _ _ fun _ => .inr rfl) fun _ _ h => h) ((HWr.out.ext kr.ok).flag true fun bw off e => (HA.out bw off e).2.1)
        by_cases hsS : s < S
        · obtain ⟨i, rfl⟩ : ∃ i : Nat, s = i := ⟨s.toNat, by omega⟩
          have hil : i < seen.length := by rw [HWr.out.len]; omega
          obtain ⟨q, hq⟩ : ∃ x, seen[i]? = some x := ⟨_, List.getElem?_eq_getElem hil⟩
          have hqt : q = true := by
            cases q with
            | true => rfl
            | false =>
              unfold newF at hf
              rw [if_neg (by omega), if_pos ⟨hsS, by rw [Int.toNat_natCast, hq]⟩] at hf
              simp at hf
          subst hqt
          have hs := HWr.out.seen_at hq
          have hi2 : (i : Int) < (S.toNat : Int) := by omega
          clear hf hq hil
          go_wp2_with fail
          go_ret
          exact HF2.out
        · clear hf
          have hd : decide (S ≤ s) = true := by simp; omega
          go_wp2_with fail
          go_ret
          exact HF2.out
      · rw [hf] at HC
        obtain ⟨i, rfl⟩ : ∃ i : Nat, s = i := ⟨s.toNat, by omega⟩
        rw [Int.toNat_natCast] at HC hf hsl hfl
        have hq : seen[i]? = some false := by
          unfold newF at hf
          rw [if_neg (by omega)] at hf
          by_cases hc : (i : Int) < S ∧ seen[(i : Int).toNat]? = some false
          · simpa using hc.2
          · rw [if_neg hc] at hf
            simp at hf
        have hs := HWr.out.seen_at hq
        have hfr := Lat.free HWr.out.marks i
        have hi2 : (i : Int) < (S.toNat : Int) := by omega
        have hbd := Hbd.out i hs0 hs1
        have Hbi := Lib.hid hbd
        have Hfl := Lib.hid hfl
        have hmore := HC.out.more hs0
        clear hf hq hsl hbd hfl
        go_upto_region 11 with fail
        have hlt2 := HW.out.lt
        have HW1 := Lib.hid ((HWr.out.ext kr.ok).mark i fun bw off e => (HA.out bw off e).1)
        have hset : Only (fun q => q = sb) kr.world (kr.world.setCell ⟨sb, i, none⟩ (.bool true)) := (Only.refl _ _).setCell _ _ fun _ => rfl
        have HOn1 := Lib.hid ((HOn.out.trans (Only.of_ext (S := fun _ => False) kr.ok) fun _ _ h => h.elim).trans (S' := fun q => q = sb) hset fun _ _ h => .inl h)
        have ho1 := own_only (own_ext HO.out kr.ok) hset fun q hq e => by have := HO.out.lt q hq; omega
        have hbs1 : w.heap.size ≤ (kr.world.setCell ⟨sb, i, none⟩ (.bool true)).heap.size := by
          have h1 := HOn.out.size
          have h2 := kr.size
          simp
          omega
        have HOB : Hid (∀ q, some q = (Value.slice A7 acc.length d7).ownBlock → w.heap.size ≤ q) := fun q hq => (HO.out.lt q hq.symm).1
        clear hs hfr c0 c1 c2 c3 c4 c5 c6 c7 c8 c9 fr9 hltb hset hkr
        generalize kr.world.setCell ⟨sb, i, none⟩ (.bool true) = W1 at *
        go_upto_region 12 with (at_builtin; refine wpList_push _ rfl _ _ 26 rfl w.heap.size 3 1 8 elemInt Try.underlying26 _ _ _ rfl ho1 _ rfl rfl (by simp [Value.oneCell']) (by omega) hbs1 ?_; intro v5 w5 hown5 hgrow5 hat5)
        have ho5 := (Only.of_grown hgrow5).mono (S' := fun q => w.heap.size ≤ q) fun q _ hq => HOB.out q hq
        have HW5 := Lib.hid (HW1.out.only ho5 (by omega) (by omega) fun bw off e h => by
          have := (HA.out bw off e).2.2
          omega)
        have HOn5 := Lib.hid (HOn1.out.trans ho5 fun q hq h => by omega)
        have HO5 := Lib.hid hown5
        clear hown5 hgrow5 hat5 ho1 HW1 HOn1 ho5 hbs1
        go_wp2_with fail
        refine (Hat.out w5 (seen.set i true) i HW5.out hs0 hs1).mono ?_
        rintro e w6 ⟨rfl, e6⟩
        obtain ⟨x1, hx1⟩ : ∃ x, lk (i : Int) = x := ⟨_, rfl⟩
        rw [hx1] at Hbi
        rw [hx1]
        have Hx1 := Lib.hid hx1
        have HO6 := Lib.hid (own_ext HO5.out e6)
        have HW6 := Lib.hid (HW5.out.ext e6)
        have HOn6 := Lib.hid (HOn5.out.trans (Only.of_ext (S := fun _ => False) e6) fun _ _ h => h.elim)
        clear e6 hx1 HO5 HW5 HOn5
        obtain ⟨c0, c1, c2, c3, c4, c5, c6, c7, c8, c9⟩ := HW6.out.cells
        have fr9 : ∀ z : Lat w6, z.world.frozen? ⟨b, 9, none⟩ = false := Lat.free HW6.out.blk 9
        have hltb := Lat.lt (w0 := w6) HW6.out.lt.1
        obtain ⟨k6, hk6⟩ := lat_self w6
        rw [hk6]
        have hld := link_dec mk x1 Hbi.out.1
        obtain ⟨d1, hd1⟩ : ∃ d, decide (x1 < 8589934592 ∧ x1 % 4294967296 ≤ 2147483647) = d := ⟨_, rfl⟩
        obtain ⟨d2, hd2⟩ : ∃ d, (x1 / 4294967296 % 2 == 1) = d := ⟨_, rfl⟩
        rw [hd1, hd2] at hld
        have Hq1 := Lib.hid hd1
        have Hq2 := Lib.hid hd2
        have Hld := Lib.hid hld
        clear hd1 hd2 hld
        cases hok2 : (d1 && (mk || !d2)) with
        | false =>
          have HT : Hid (tot.2.1 = false) := by
            have h := HC.out.stop hs0 (by rw [Hx1.out, Hld.out, hok2])
            rw [h]
            exact Lib.hid rfl
          have HF2 : Hid (RChain w T R H Re Ca S B A n c ws b sb bad tot (.returned (.slice none 0 0)) (k6.world.setCell ⟨b, 9, none⟩ (.bool true))) :=
            Hfail.out _ (seen.set i true) HT.out ((HOn6.out.trans (Only.of_ext (S := fun _ => False) k6.ok) fun _ _ h => h.elim).trans (S' := fun q => q = sb ∨ q = b) ((Only.refl (fun q => q = sb ∨ q = b) _).setCell _ _ fun _ => .inr rfl) fun _ _ h => h) ((HW6.out.ext k6.ok).flag true fun bw off e => (HA.out bw off e).2.1)
          clear Hld
          cases d1 <;> cases d2 <;> cases mk <;> first | (exact absurd hok2 (by decide)) | (
            clear hok2
            go_wp2_with (first | (refine (isLink_any x1 _ Hbi.out.1 Hbi.out.2).mono ?_; rintro e w1 ⟨rfl, rfl⟩; rw [Hq1.out]) | (refine (linkMark_any x1 _ Hbi.out.1 Hbi.out.2).mono ?_; rintro e w1 ⟨rfl, rfl⟩; rw [Hq2.out]))
            go_ret
            exact HF2.out)
        | true =>
          have HC2 := Lib.hid (HC.out.step HS.out.1 hs0 (by rw [Hx1.out, Hld.out, hok2]))
          rw [Hx1.out] at HC2
          obtain ⟨A8, d8, rfl⟩ := own_form HO6.out
          clear Hld
          cases d1 <;> cases d2 <;> cases mk <;> first | (exact absurd hok2 (by decide)) | (
            clear hok2
            go_wp2_with (first | (refine (isLink_any x1 _ Hbi.out.1 Hbi.out.2).mono ?_; rintro e w1 ⟨rfl, rfl⟩; rw [Hq1.out]) | (refine (linkMark_any x1 _ Hbi.out.1 Hbi.out.2).mono ?_; rintro e w1 ⟨rfl, rfl⟩; rw [Hq2.out]) | (refine (linkIndex_any x1 _ Hbi.out.1 Hbi.out.2).mono ?_; rintro e w1 ⟨rfl, rfl⟩))
            go_roundw
            case rel => exact ⟨_, acc ++ [((i : Int), decide (4294967296 ≤ x1))], seen.set i true, rfl, HC2, HW6.out.ext k6.ok, (HOn6.out.trans (Only.of_ext (S := fun _ => False) k6.ok) fun _ _ h => h.elim), by
              rw [List.length_append, List.map_append, List.map_append]
              exact own_ext HO6.out k6.ok, Lib.hid (by
              intro y hy
              rcases List.mem_append.1 hy with hy | hy
              · exact HRg.out y hy
              · simp at hy
                subst hy
                exact ⟨hs0, hs1⟩), by rw [List.length_append, List.length_singleton]; omega⟩
            case measure => simp [lenOf]; omega)
  · have hpl : Hid (plainF S seen0 x0 = (0, false, seen0)) := if_neg hp
    have ht : Hid (tot.2.1 = false) := by
      have h := Hst.out
      rw [hpl.out] at h
      rw [h.end_ (by simp)]
      exact Lib.hid rfl
    clear hpl Hst
    cases hd1 : decide (x0 < 8589934592 ∧ x0 % 4294967296 ≤ 2147483647) with
    | false =>
      have Hq1 := Lib.hid hd1
      clear hd1 hp
      go_wp2_with (first | (refine (isLink_any x0 _ Hx.out.1 Hx.out.2).mono ?_; rintro e w1 ⟨rfl, rfl⟩; rw [Hq1.out]))
      go_ret
      exact Hfail.out _ seen0 ht.out ((Only.of_ext k0.ok).setCell _ _ fun _ => .inr rfl) ((HW.out.ext k0.ok).flag true fun bw off e => (HA.out bw off e).2.1)
    | true =>
      have Hq1 := Lib.hid hd1
      have Hq2 : Hid ((x0 / 4294967296 % 2 == 1) = true) := by
        cases h : (x0 / 4294967296 % 2 == 1) with
        | true => exact rfl
        | false => exact absurd ((plain_dec x0 hx0).1 ⟨hd1, h⟩) hp
      clear hd1 hp
      go_wp2_with (first | (refine (isLink_any x0 _ Hx.out.1 Hx.out.2).mono ?_; rintro e w1 ⟨rfl, rfl⟩; rw [Hq1.out]) | (refine (linkMark_any x0 _ Hx.out.1 Hx.out.2).mono ?_; rintro e w1 ⟨rfl, rfl⟩; rw [Hq2.out]))
      go_ret
      exact Hfail.out _ seen0 ht.out ((Only.of_ext k0.ok).setCell _ _ fun _ => .inr rfl) ((HW.out.ext k0.ok).flag true fun bw off e => (HA.out bw off e).2.1)
end Go.Proofs.Ytfbacopjookplaa
