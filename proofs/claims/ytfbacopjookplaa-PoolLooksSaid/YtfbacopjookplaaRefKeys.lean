/- The walk of the document's walker's keys. -/
import Derived.Test.YtfbacopjookplaaRefChain
namespace Go.Proofs.Ytfbacopjookplaa
open Go.RowKit

theorem chainF_marks {S : Int} {wd : Int → Int} {mk : Bool} : ∀ (f : Nat) (seen : List Bool) (s : Int) (fine : Bool), ∀ x ∈ (chainF S wd mk f seen s fine).1, linkOK mk (wd x.1) = true ∧ x.2 = decide (4294967296 ≤ wd x.1)
  | 0, _, _, _ => fun x hx => by cases hx
  | f + 1, seen, s, fine => fun x hx => by
    unfold chainF at hx
    by_cases h1 : fine = true ∧ 0 ≤ s
    · rw [if_pos h1] at hx
      by_cases h2 : linkOK mk (wd s) = true
      · rw [if_pos h2] at hx
        rcases List.mem_cons.1 hx with rfl | hx
        · exact ⟨h2, rfl⟩
        · exact chainF_marks f _ _ _ x hx
      · rw [if_neg h2] at hx
        cases hx
    · rw [if_neg h1] at hx
      cases hx
theorem link_bit {mk : Bool} {x : Int} (h0 : 0 ≤ x) (h : linkOK mk x = true) : (x / 4294967296 % 2 == 1) = decide (4294967296 ≤ x) := by
  unfold linkOK at h
  have h1 : x < 8589934592 ∧ x % 4294967296 ≤ 2147483647 := by
    by_cases hc : x < 8589934592 ∧ x % 4294967296 ≤ 2147483647
    · exact hc
    · simp [hc] at h
  by_cases h2 : 4294967296 ≤ x
  · have : x / 4294967296 % 2 = 1 := by omega
    simp [h2, this]
  · have : ¬ (x / 4294967296 % 2 = 1) := by omega
    simp [h2, this]

/-- What keys' loop of the document keeps, from the chain's world on. -/
structure RK (w w1 : World) (T R H Re Ca S B : Int) (A : Option Addr) (n c : Nat) (ws : List Int) (b sb : Nat) (seen : List Bool) (bad : Bool) (A1 : Option Addr) (m d1 : Nat) (l : List Int) (v : Value) (out : List Int) (W : World) : Prop where
  wal : RWalker W T R H Re Ca S B A n c ws b sb seen bad
  on : Only (fun q => q = sb ∨ q = b) w W
  row : W.ownsRow w.heap.size 3 1 (.slice A1 m d1) m (l.map (Value.int .i64))
  out : W.ownsRow w1.heap.size 3 1 v out.length (out.map (Value.int .i64))
  le : w1.heap.size ≤ W.heap.size
  lt : ∀ q, (Value.slice A1 m d1).ownBlock = some q → q < w1.heap.size
section
variable {w w1 W W' : World} {T R H Re Ca S B : Int} {A : Option Addr} {n c : Nat} {ws : List Int} {b sb : Nat} {seen : List Bool} {bad : Bool} {A1 : Option Addr} {m d1 : Nat} {l : List Int} {v : Value} {out : List Int}
theorem RK.ext (h : RK w w1 T R H Re Ca S B A n c ws b sb seen bad A1 m d1 l v out W) (e : Ext W W') : RK w w1 T R H Re Ca S B A n c ws b sb seen bad A1 m d1 l v out W' :=
  ⟨h.wal.ext e, h.on.trans (Only.of_ext (S := fun _ => False) e) fun _ _ h => h.elim, own_ext h.row e, own_ext h.out e, Nat.le_trans h.le e.size, h.lt⟩
theorem RK.flag (h : RK w w1 T R H Re Ca S B A n c ws b sb seen bad A1 m d1 l v out W) (hb : b < w.heap.size) (h1 : w.heap.size ≤ w1.heap.size) (hA : ∀ bw off, A = some ⟨bw, off, none⟩ → bw ≠ b) : RK w w1 T R H Re Ca S B A n c ws b sb seen true A1 m d1 l v out (W.setCell ⟨b, 9, none⟩ (.bool true)) := by
  have o : Only (fun q => q = b) W (W.setCell ⟨b, 9, none⟩ (.bool true)) := (Only.refl _ _).setCell _ _ fun _ => rfl
  exact ⟨h.wal.flag true hA, h.on.trans o fun _ _ h => .inr h, own_only h.row o fun q hq e => by have := h.row.lt q hq; omega, own_only h.out o fun q hq e => by have := h.out.lt q hq; omega, Nat.le_trans h.le o.size, h.lt⟩
end

set_option maxRecDepth 100000 in
set_option maxHeartbeats 16000000 in
theorem rkeys_any (T R H Re Ca S B : Int) (hok : Okay T R H Re Ca S B) (A : Option Addr) (n c : Nat) (ws : List Int) (hn : (n : Int) = sumOf R H S B 13) (hws : ∀ x ∈ ws, 0 ≤ x ∧ x ≤ 18446744073709551615)
    (b sb : Nat) (seen0 : List Bool) (bad : Bool) (x0 : Int) (hx0 : 0 ≤ x0) (hx1 : x0 ≤ 18446744073709551615) (bk : Int) (w : World)
    (hA : ∀ bw off, A = some ⟨bw, off, none⟩ → bw ≠ sb ∧ bw ≠ b ∧ bw < w.heap.size) (hw : RWalker w T R H Re Ca S B A n c ws b sb seen0 bad) :
    Calls Try.prog 67 #[.pointer (some ⟨b, 0, none⟩), .int .u64 x0, .int .i64 bk] w fun e w' => ∃ v l seen bad2, e = .returned v ∧ w'.ownsRow w.heap.size 3 1 v l.length (l.map (Value.int .i64)) ∧ Only (fun q => q = sb ∨ q = b) w w' ∧
      RWalker w' T R H Re Ca S B A n c ws b sb seen bad2 ∧ (∀ s ∈ l, 0 ≤ s ∧ s < S) ∧ l.length ≤ S.toNat ∧
      ((keysOf (fun s => wrap64 (regOf R H S B ws 10 s)) B bk (chainOf S (regOf R H S B ws 12) true seen0 x0) = some l ∧ seen = (chainOf S (regOf R H S B ws 12) true seen0 x0).2.2 ∧ bad2 = bad) ∨
       (keysOf (fun s => wrap64 (regOf R H S B ws 10 s)) B bk (chainOf S (regOf R H S B ws 12) true seen0 x0) = none ∧ bad2 = true)) := by
  have hok' := hok
  unfold Okay at hok'
  obtain ⟨_, _, hR, hR', hH, hH', _, _, _, _, hS, hS', hB, hB'⟩ := hok'
  have Hch := Lib.hid (rchain_any T R H Re Ca S B hok A n c ws hn hws b sb seen0 bad x0 hx0 hx1 true w hA hw)
  have Hv : Hid (∀ (w : World) (seen : List Bool) (bad : Bool) (s : Int), RWalker w T R H Re Ca S B A n c ws b sb seen bad → 0 ≤ s → s < S → Calls Try.prog 106 #[.pointer (some ⟨b, 0, none⟩), .int .i64 11, .int .i64 s] w fun e w' => e = .returned (.int .u64 (regOf R H S B ws 10 s)) ∧ Ext w w') :=
    fun w seen bad s hw h0 h1 => rreg_any T R H Re Ca S B hok A n c ws hn hws 10 11 rfl (by omega) s h0 (by simp [manyOf]; exact h1) b sb seen bad w hw
  have Hlk : Hid (∀ (w : World) (seen : List Bool) (bad : Bool) (s : Int), RWalker w T R H Re Ca S B A n c ws b sb seen bad → 0 ≤ s → s < S → Calls Try.prog 106 #[.pointer (some ⟨b, 0, none⟩), .int .i64 13, .int .i64 s] w fun e w' => e = .returned (.int .u64 (regOf R H S B ws 12 s)) ∧ Ext w w') :=
    fun w seen bad s hw h0 h1 => rreg_any T R H Re Ca S B hok A n c ws hn hws 12 13 rfl (by omega) s h0 (by simp [manyOf]; exact h1) b sb seen bad w hw
  have Hbd : Hid (∀ s : Int, 0 ≤ s → s < S → 0 ≤ regOf R H S B ws 12 s ∧ regOf R H S B ws 12 s ≤ 18446744073709551615) := fun s h0 h1 => by
    obtain ⟨j, hj, hx, h⟩ := reg_at hR hR' hH hH' hS hS' hB hB' hw.wlen hn hws 12 (by omega) s h0 (by simp [manyOf]; exact h1)
    exact h
  have Hvt : Hid (∀ s : Int, wrap64 (regOf R H S B ws 10 s) = (fun s => wrap64 (regOf R H S B ws 10 s)) s) := fun s => rfl
  generalize (fun s => wrap64 (regOf R H S B ws 10 s)) = val at *
  generalize regOf R H S B ws 10 = rv at *
  generalize regOf R H S B ws 12 = lk at *
  have HA := Lib.hid hA
  have Hlt := Lib.hid hw.lt
  have HS := Lib.hid (⟨hS, hS'⟩ : 1 ≤ S ∧ S ≤ 1024)
  have HB := Lib.hid (⟨hB, hB'⟩ : 1 ≤ B ∧ B ≤ 64)
  have Hbk := Lib.hid (fun (k : Int) (w : World) => rbucket_any T R H Re Ca S B hB hB' k w)
  have Hmk : Hid (∀ x ∈ (chainOf S lk true seen0 x0).1, linkOK true (lk x.1) = true ∧ x.2 = decide (4294967296 ≤ lk x.1)) := chainF_marks _ _ _ _
  obtain ⟨tot, htot⟩ : ∃ tot, chainOf S lk true seen0 x0 = tot := ⟨_, rfl⟩
  rw [htot] at Hmk Hch ⊢
  clear htot hok hn hws hA hw hR hR' hH hH' hS hS' hB hB' hx0 hx1
  go_enter Try.func67, Try.ntmps67
  go_wp2_with fail
  refine Hch.out.mono ?_
  rintro e w1 ⟨v1, l, seen, bad1, rfl, hown1, hon1, hw1, hrg, hln, hcase⟩
  obtain ⟨pr, hpr, hmk, hfin⟩ : ∃ pr : List (Int × Bool), l = pr.map Prod.fst ∧ (∀ x ∈ pr, linkOK true (lk x.1) = true ∧ x.2 = decide (4294967296 ≤ lk x.1)) ∧ ∀ bad2, bad2 = (bad1 || !decide (KeysOK val B bk pr)) →
      ((keysOf val B bk tot = some (unm pr) ∧ seen = tot.2.2 ∧ bad2 = bad) ∨ (keysOf val B bk tot = none ∧ bad2 = true)) := by
    rcases hcase with ⟨h1, h2, h3, h4⟩ | ⟨h1, h2, h3⟩
    · refine ⟨tot.1, h2, Hmk.out, fun bad2 hb => ?_⟩
      subst hb h4
      unfold keysOf
      by_cases hk : KeysOK val B bk tot.1
      · rw [if_pos ⟨h1, hk⟩]
        exact .inl ⟨rfl, h3, by simp [hk]⟩
      · rw [if_neg fun h => hk h.2]
        exact .inr ⟨rfl, by simp [hk]⟩
    · refine ⟨[], by simpa using h2, by simp, fun bad2 hb => .inr ⟨?_, by rw [hb, h3]; rfl⟩⟩
      unfold keysOf
      rw [if_neg fun h => (by rw [h1] at h; cases h.1)]
  obtain ⟨A1, d1, rfl⟩ := own_form hown1
  have hsz1 := hon1.size
  have HK1 : Hid (RK w w1 T R H Re Ca S B A n c ws b sb seen bad1 A1 l.length d1 l (.slice none 0 0) [] w1) := ⟨hw1, hon1, hown1, World.ownsRow_nil _ _ _ _, Nat.le_refl _, fun q hq => (hown1.lt q hq).2⟩
  have Hpr := Lib.hid hpr
  have Hmp := Lib.hid hmk
  have Hfin := Lib.hid hfin
  have Hrg := Lib.hid hrg
  have Hln := Lib.hid hln
  obtain ⟨m, hm⟩ : ∃ m, l.length = m := ⟨_, rfl⟩
  rw [hm] at HK1
  simp only [hm]
  have Hm := Lib.hid hm
  have hmb : m ≤ 1024 := by have := HS.out; omega
  clear hown1 hon1 hw1 hrg hln hcase hpr hmk hfin hm Hch Hmk
  obtain ⟨k1, hk1⟩ := lat_self w1
  rw [hk1]
  clear hk1
  go_wp2_with fail
  go_loopw [8, 9, 10] (fun s8 s9 _ wr => ∃ (i : Nat) (bad2 : Bool), s9 = .int .i64 i ∧ i ≤ m ∧ bad2 = (bad1 || !decide (KeysOK val B bk (pr.take i))) ∧ Hid (RK w w1 T R H Re Ca S B A n c ws b sb seen bad2 A1 m d1 l s8 (unm (pr.take i)) wr)) (fun _ s9 _ _ => m - (intOf s9).toNat)
  case atStart => exact ⟨0, bad1, rfl, Nat.zero_le _, by simp [KeysOK], HK1.out.ext k1.ok⟩
  case round =>
    clear HK1
    obtain ⟨i, bad2, rfl, hi, hbad2, HK⟩ := hrel
    have Hbad2 := Lib.hid hbad2
    clear hbad2
    obtain ⟨out, hout⟩ : ∃ q, unm (pr.take i) = q := ⟨_, rfl⟩
    rw [hout] at HK
    have Hout := Lib.hid hout
    have hol : out.length ≤ 1024 := by
      rw [← hout]
      unfold unm
      rw [List.length_map]
      have h1 := List.length_filter_le (fun x : Int × Bool => !x.2) (pr.take i)
      rw [List.length_take] at h1
      omega
    clear hout
    obtain ⟨A2, c2, rfl⟩ := own_form HK.out.out
    by_cases hlt : i < m
    · obtain ⟨⟨xs, xm⟩, hx⟩ : ∃ x, pr[i]? = some x := ⟨_, List.getElem?_eq_getElem (by have := Hm.out; rw [Hpr.out, List.length_map] at this; omega)⟩
      have hlx : l[i]? = some xs := by rw [Hpr.out]; simp [hx]
      have hxr := Hrg.out xs (List.mem_of_getElem? hlx)
      have hx0 := hxr.1
      have hx1 := hxr.2
      have hmk := Hmp.out _ (List.mem_of_getElem? hx)
      have Hx := Lib.hid hx
      have Hlx := Lib.hid hlx
      obtain ⟨bq, oq, rfl, hbq, hcq⟩ := (Rd.of_own HK.out.row).lat (j := i) (u := .int .i64 xs) (by simp [hlx])
      have z0 : (0 : Int) ≤ (i : Int) := by omega
      have z1 : (i : Int) < (m : Int) := by omega
      obtain ⟨kr, hkr⟩ := lat_self wr
      rw [hkr]
      clear hx hlx hxr hkr
      go_wp2_with fail
      refine (Hv.out _ seen bad2 xs (HK.out.wal.ext kr.ok) hx0 hx1).mono ?_
      rintro e w3 ⟨rfl, e3⟩
      obtain ⟨k3, rfl⟩ := lat_next kr e3
      clear e3
      go_upto_region 7 with fail
      rw [Hvt.out]
      have HK3 := Lib.hid (HK.out.ext k3.ok)
      generalize k3.world = W3 at *
      clear HK k3 kr hcq
      have hP1 : i = 0 ∨ ∃ (i' : Nat) (ys : Int), i = i' + 1 ∧ l[i']? = some ys ∧ 0 ≤ ys ∧ ys < S ∧ lastKey val (pr.take i) = some (val ys) := by
        cases i with
        | zero => exact .inl rfl
        | succ i' =>
          obtain ⟨⟨ys, ym⟩, hy⟩ : ∃ x, pr[i']? = some x := ⟨_, List.getElem?_eq_getElem (by have := Hm.out; rw [Hpr.out, List.length_map] at this; omega)⟩
          have hly : l[i']? = some ys := by rw [Hpr.out]; simp [hy]
          have hyr := Hrg.out ys (List.mem_of_getElem? hly)
          refine .inr ⟨i', ys, rfl, hly, hyr.1, hyr.2, ?_⟩
          rw [List.take_add_one, hy]
          simp [lastKey]
      obtain ⟨p1, hp1⟩ : ∃ p, decide (∀ k, lastKey val (pr.take i) = some k → k < val xs) = p := ⟨_, rfl⟩
      have Hp1 := Lib.hid hp1
      clear hp1
      obtain ⟨c0, c1, c2', c3, c4, c5, c6, c7, c8, c9⟩ := HK3.out.wal.cells
      have fr9 : ∀ z : Lat W3, z.world.frozen? ⟨b, 9, none⟩ = false := Lat.free HK3.out.wal.blk 9
      have hltb := Lat.lt (w0 := W3) HK3.out.wal.lt.1
      go_cut [40] (fun s40 wx => s40 = .bool (!p1) ∧ ∃ k : Lat W3, wx = k.world)
      case first =>
        obtain ⟨kq, hkq⟩ := lat_self W3
        rw [hkq]
        clear hkq
        rcases hP1 with hi0 | ⟨i', ys, hi', hly, hy0, hy1, hlk⟩
        · subst hi0
          have hp : p1 = true := by
            rw [← Hp1.out]
            simp [lastKey]
          subst hp
          go_wp2_with fail
          go_meet
          case rel => exact ⟨rfl, kq, rfl⟩
        · have hlk' : (∀ k, lastKey val (pr.take i) = some k → k < val xs) ↔ val ys < val xs := by
            rw [hlk]
            simp
          have Hpd : Hid ((!p1) = decide (val xs ≤ wrap64 (rv ys))) := by
            show _ = _
            rw [← Hp1.out, Hvt.out]
            by_cases hv : val ys < val xs
            · have hv2 : ¬ (val xs ≤ val ys) := by omega
              simp only [hlk', hv, hv2, decide_true, decide_false, Bool.not_true]
            · have hv2 : val xs ≤ val ys := by omega
              simp only [hlk', hv, hv2, decide_true, decide_false, Bool.not_false]
          subst hi'
          obtain ⟨bq', oq', hA', hbq', hcq'⟩ := (Rd.of_own HK3.out.row).lat (j := i') (u := .int .i64 ys) (by simp [hly])
          injection hA' with hA'
          injection hA' with e1 e2
          subst e1 e2
          have Hy := Lib.hid (fun (z : Lat W3) => Hv.out z.world seen bad2 ys (HK3.out.wal.ext z.ok) hy0 hy1)
          have z2 : (0 : Int) < ((i' + 1 : Nat) : Int) := by omega
          have z3 : (0 : Int) ≤ (i' : Int) := by omega
          have z4 : (i' : Int) < (m : Int) := by omega
          clear hly hlk hlk'
          go_wp2_with fail
          refine (Hy.out _).mono ?_
          rintro e w4 ⟨rfl, e4⟩
          obtain ⟨k4, rfl⟩ := lat_next kq e4
          clear e4
          go_wp2_with fail
          go_meet
          case rel => exact ⟨by rw [Hpd.out], k4, rfl⟩
      obtain ⟨rfl, k4, rfl⟩ := hcut
      clear hP1
      go_upto_if 40 with fail
      go_cut [] (fun wx => Hid (RK w w1 T R H Re Ca S B A n c ws b sb seen (bad2 || !p1) (some ⟨bq, oq, none⟩) m d1 l (.slice A2 out.length c2) out wx))
      case first =>
        cases p1 with
        | true =>
          go_wp2_with fail
          go_meet
          case rel => exact (by simpa using Lib.hid (HK3.out.ext k4.ok))
        | false =>
          go_wp2_with fail
          go_meet
          case rel => exact (by simpa using Lib.hid ((HK3.out.ext k4.ok).flag Hlt.out.1 hsz1 fun bw off e => (HA.out bw off e).2.1))
      have HK4 := hcut
      obtain ⟨bad3, hbad3⟩ : ∃ q, (bad2 || !p1) = q := ⟨_, rfl⟩
      rw [hbad3] at HK4
      have Hbad3 := Lib.hid hbad3
      clear hbad3 hcut HK3 c0 c1 c2' c3 c4 c5 c6 c7 c8 c9 fr9 hltb k4
      obtain ⟨W4, hW4⟩ : ∃ W4 : World, W4 = wc := ⟨_, rfl⟩
      subst hW4
      obtain ⟨p2, hp2⟩ : ∃ p, decide (bk < 0 ∨ bkt B (val xs) = bk) = p := ⟨_, rfl⟩
      have Hp2 := Lib.hid hp2
      clear hp2
      obtain ⟨c0, c1, c2', c3, c4, c5, c6, c7, c8, c9⟩ := HK4.out.wal.cells
      have fr9 : ∀ z : Lat W4, z.world.frozen? ⟨b, 9, none⟩ = false := Lat.free HK4.out.wal.blk 9
      have hltb := Lat.lt (w0 := W4) HK4.out.wal.lt.1
      go_upto_region 9 with fail
      go_cut [55] (fun s55 wx => s55 = .bool (!p2) ∧ ∃ k : Lat W4, wx = k.world)
      case first =>
        obtain ⟨kq, hkq⟩ := lat_self W4
        rw [hkq]
        clear hkq
        by_cases hb0 : bk < 0
        · have hbd : decide (0 ≤ bk) = false := by simp; omega
          have hp : p2 = true := by
            rw [← Hp2.out]
            simp [hb0]
          subst hp
          clear hb0
          go_wp2_with fail
          go_meet
          case rel => exact ⟨rfl, kq, rfl⟩
        · have hbd : decide (0 ≤ bk) = true := by simp; omega
          have hpq : Hid ((bkt B (val xs) != bk) = (!p2)) := by
            show _ = _
            rw [← Hp2.out]
            by_cases he : bkt B (val xs) = bk
            · simp [he]
            · simp [he, hb0]
          clear hb0
          go_wp2_with fail
          refine (Hbk.out _ _).mono ?_
          rintro e w5 ⟨rfl, e5⟩
          obtain ⟨k5, rfl⟩ := lat_next kq e5
          clear e5
          go_wp2_with fail
          go_meet
          case rel => exact ⟨by rw [← hpq.out], k5, rfl⟩
      obtain ⟨rfl, k4, rfl⟩ := hcut
      go_upto_if 55 with fail
      go_cut [] (fun wx => Hid (RK w w1 T R H Re Ca S B A n c ws b sb seen (bad3 || !p2) (some ⟨bq, oq, none⟩) m d1 l (.slice A2 out.length c2) out wx))
      case first =>
        cases p2 with
        | true =>
          go_wp2_with fail
          go_meet
          case rel => exact (by simpa using Lib.hid (HK4.out.ext k4.ok))
        | false =>
          go_wp2_with fail
          go_meet
          case rel => exact (by simpa using Lib.hid ((HK4.out.ext k4.ok).flag Hlt.out.1 hsz1 fun bw off e => (HA.out bw off e).2.1))
      have HK5 := hcut
      have hkk : (bad3 || !p2) = (bad1 || !decide (KeysOK val B bk (pr.take (i + 1)))) := by
        have h1 : decide (KeysOK val B bk (pr.take (i + 1))) = (decide (KeysOK val B bk (pr.take i)) && (p1 && p2)) := by
          rw [← Hp1.out, ← Hp2.out, List.take_add_one, Hx.out]
          simp only [Option.toList_some, keysOK_snoc, Bool.decide_and]
        rw [← Hbad3.out, Hbad2.out, h1]
        cases bad1 <;> cases decide (KeysOK val B bk (pr.take i)) <;> cases p1 <;> cases p2 <;> rfl
      obtain ⟨bad4, hbad4⟩ : ∃ q, (bad3 || !p2) = q := ⟨_, rfl⟩
      rw [hbad4] at HK5 hkk
      have Hkk := Lib.hid hkk
      clear hkk hbad4 hcut HK4 c0 c1 c2' c3 c4 c5 c6 c7 c8 c9 fr9 hltb k4
      obtain ⟨W5, hW5⟩ : ∃ W5 : World, W5 = wc := ⟨_, rfl⟩
      subst hW5
      have hbx := Hbd.out xs hx0 hx1
      have Hbx := Lib.hid hbx
      have Hbit : Hid ((lk xs / 4294967296 % 2 == 1) = xm) := (link_bit hbx.1 hmk.1).trans hmk.2.symm
      have HOB : Hid (∀ q, some q = (Value.slice A2 out.length c2).ownBlock → w1.heap.size ≤ q) := fun q hq => (HK5.out.out.lt q hq.symm).1
      obtain ⟨bq', oq', hA', hbq', hcq'⟩ := (Rd.of_own HK5.out.row).lat (j := i) (u := .int .i64 xs) (by simp [Hlx.out])
      injection hA' with hA'
      injection hA' with e1 e2
      subst e1 e2
      obtain ⟨kq, hkq⟩ := lat_self W5
      rw [hkq]
      clear hkq hbx hmk
      go_upto_region 11 with fail
      go_wp2_with fail
      refine (Hlk.out _ seen bad4 xs (HK5.out.wal.ext kq.ok) hx0 hx1).mono ?_
      rintro e w6 ⟨rfl, e6⟩
      obtain ⟨k6, rfl⟩ := lat_next kq e6
      clear e6
      go_wp2_with fail
      refine (linkMark_any (lk xs) _ Hbx.out.1 Hbx.out.2).mono ?_
      rintro e w6 ⟨rfl, rfl⟩
      rw [Hbit.out]
      cases xm with
      | true =>
        have hu : unm (pr.take (i + 1)) = out := by
          rw [List.take_add_one, Hx.out, ← Hout.out]
          simp [unm]
        go_wp2_with fail
        go_roundw
        case rel => exact ⟨i + 1, bad4, by go_num, by omega, Hkk.out, by rw [hu]; exact Lib.hid (HK5.out.ext k6.ok)⟩
        case measure => simp [intOf]; omega
      | false =>
        have hu : unm (pr.take (i + 1)) = out ++ [xs] := by
          rw [List.take_add_one, Hx.out, ← Hout.out]
          simp [unm]
        have HK6 := Lib.hid (HK5.out.ext k6.ok)
        have ho6 := HK6.out.out
        have hle6 := HK6.out.le
        go_upto_region 5 with (at_builtin; refine wpList_push _ rfl _ _ 26 rfl w1.heap.size 3 1 8 elemInt Try.underlying26 _ _ _ rfl ho6 _ rfl rfl (by simp [Value.oneCell']) (by omega) hle6 ?_; intro v7 w7 hown7 hgrow7 hat7)
        have o7 := (Only.of_grown hgrow7).mono (S' := fun q => w1.heap.size ≤ q) fun q _ hq => HOB.out q hq
        have hlt0 := Hlt.out
        have HK7 : Hid (RK w w1 T R H Re Ca S B A n c ws b sb seen bad4 (some ⟨bq, oq, none⟩) m d1 l v7 (unm (pr.take (i + 1))) w7) := by
          rw [hu]
          exact ⟨HK6.out.wal.only o7 (by omega) (by omega) fun bw off e h => by have := (HA.out bw off e).2.2; omega, HK6.out.on.trans o7 fun q hq h => by omega, own_only HK6.out.row o7 fun q hq e => by have := HK6.out.lt q hq; omega,
            by simpa using hown7, Nat.le_trans HK6.out.le o7.size, HK6.out.lt⟩
        clear hown7 hgrow7 hat7 ho6 hle6 o7 hlt0
        go_wp2_with fail
        go_roundw
        case rel => exact ⟨i + 1, bad4, by go_num, by omega, Hkk.out, HK7⟩
        case measure => simp [intOf]; omega
    · obtain rfl : m = i := by omega
      have hpl : pr.take m = pr := List.take_of_length_le (by have := Hm.out; rw [Hpr.out, List.length_map] at this; omega)
      go_wp2_with fail
      go_ret
      have hO := Hout.out
      rw [hpl] at hO
      have hB2 := Hbad2.out
      rw [hpl] at hB2
      subst hO
      exact ⟨_, unm pr, seen, bad2, rfl, own_base HK.out.out hsz1, HK.out.on, HK.out.wal, fun s hs => by
        obtain ⟨x, hx, rfl⟩ := List.mem_map.1 hs
        exact Hrg.out _ (by rw [Hpr.out]; exact List.mem_map.2 ⟨x, (List.mem_filter.1 hx).1, rfl⟩), by
        unfold unm
        rw [List.length_map]
        have h1 := List.length_filter_le (fun x : Int × Bool => !x.2) pr
        have h2 := Hm.out
        have h3 := Hln.out
        rw [Hpr.out, List.length_map] at h2 h3
        omega, Hfin.out _ hB2⟩
end Go.Proofs.Ytfbacopjookplaa
