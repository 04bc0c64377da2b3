/- The walk of the pool walker's queue. -/
import Derived.Test.YtfbacopjookplaaKeys
import Derived.Test.YtfbacopjookplaaBx
namespace Go.Proofs.Ytfbacopjookplaa
open Go.RowKit
attribute [local go_sem] Oper.semAt_some

/-- Whether a word names one of the slots, without a mark. -/
def namesOne (t : Int) (l : List (Int × Bool)) : Bool := decide (t ≤ 2147483647) && l.any fun x => decide (x.1 = t - 1)
/-- The values behind the first. -/
def behind (val : Int → Int) (l : List (Int × Bool)) : List Int := (l.drop 1).map fun x => val x.1
theorem namesOne_snoc (t : Int) (l : List (Int × Bool)) (x : Int × Bool) : namesOne t (l ++ [x]) = (namesOne t l || (decide (t ≤ 2147483647) && decide (x.1 = t - 1))) := by
  unfold namesOne
  rw [List.any_append]
  cases decide (t ≤ 2147483647) <;> simp
theorem behind_snoc (val : Int → Int) (l : List (Int × Bool)) (x : Int × Bool) : behind val (l ++ [x]) = if l.isEmpty then [] else behind val l ++ [val x.1] := by
  unfold behind
  cases l <;> simp

/-- A Contents in memory: five slices. -/
def contV (v0 v1 v2 v3 v4 : Value) : Array Value := #[v0, v1, v2, v3, v4]
/-- What the queue's loop keeps. -/
structure QInv (w : World) (g2 B0 b sb ps : Nat) (ts : Int) (tm : Bool) (te : Int) (t : Int) (v0 v1 v3 v4 : Value) (S : Int) (val : Int → Int) (pre : List (Int × Bool)) (W : World) : Prop where
  ba : Bx W w.heap.size [(.pointer (some ⟨b, 0, none⟩), 84), (.pointer (some ⟨ps, 0, none⟩), 102)]
  bx : Bx W g2 [(.int .i64 ts, 3), (.bool tm, 4), (.int .i64 te, 27), (.bool pre.isEmpty, 4), (.bool (namesOne t pre), 4)]
  ex : ∃ v2, W.heap[ps]? = some (.cells (contV v0 v1 v2 v3 v4) 38 (0, 0)) ∧ W.ownsRow B0 3 1 v2 (behind val pre).length ((behind val pre).map (Value.int .i64))
  len : pre.length ≤ S.toNat
  on : Only (fun q => q = sb ∨ q = b ∨ q = ps) w W

set_option maxRecDepth 100000 in
set_option maxHeartbeats 8000000 in
theorem queue_any (T R H Re Ca S B : Int) (hok : Okay T R H Re Ca S B) (A : Option Addr) (n c : Nat) (ws : List Int) (hn : (n : Int) = sumOf R H S B 13) (hws : ∀ x ∈ ws, 0 ≤ x ∧ x ≤ 18446744073709551615)
    (b sb ps : Nat) (seen0 : List Bool) (bad : Bool) (v0 v1 v3 v4 : Value) (w : World)
    (hA : ∀ bw off, A = some ⟨bw, off, none⟩ → bw ≠ sb ∧ bw ≠ b ∧ bw ≠ ps) (hp : ps ≠ sb ∧ ps ≠ b) (hw : Walker w T R H Re Ca S B A n c ws b sb seen0 bad) (hc : w.heap[ps]? = some (.cells (contV v0 v1 (.slice none 0 0) v3 v4) 38 (0, 0))) :
    Calls Try.prog 54 #[.pointer (some ⟨b, 0, none⟩), .pointer (some ⟨ps, 0, none⟩)] w fun e w' => e = .returned (.tuple #[]) ∧ ∃ tot v2, tot = chainOf S (regOf R H S B ws 12) false seen0 (regOf R H S B ws 3 0) ∧
      w'.heap[ps]? = some (.cells (contV v0 v1 v2 v3 v4) 38 (0, 0)) ∧ w'.ownsRow w.heap.size 3 1 v2 (behind (fun s => wrap64 (regOf R H S B ws 10 s)) tot.1).length ((behind (fun s => wrap64 (regOf R H S B ws 10 s)) tot.1).map (Value.int .i64)) ∧
      Only (fun q => q = sb ∨ q = b ∨ q = ps) w w' ∧ Walker w' T R H Re Ca S B A n c ws b sb tot.2.2 ((bad || !tot.2.1) || !namesOne (regOf R H S B ws 4 0) tot.1) := by
  have Hok := Lib.hid hok
  have Hn := Lib.hid hn
  have Hws := Lib.hid hws
  have HA := Lib.hid hA
  have HW := Lib.hid hw
  have Hc := Lib.hid hc
  have Hp := Lib.hid hp
  have hok' := hok
  unfold Okay at hok'
  obtain ⟨_, _, hR, hR', hH, hH', _, _, _, _, hS, hS', hB, hB'⟩ := hok'
  have Hv : Hid (∀ (seen : List Bool) (bad : Bool) (w : World), Walker w T R H Re Ca S B A n c ws b sb seen bad → ∀ s : Int, 0 ≤ s → s < S → Calls Try.prog 52 #[.pointer (some ⟨b, 0, none⟩), .int .i64 s] w fun e w' => e = .returned (.int .i64 ((fun s => wrap64 (regOf R H S B ws 10 s)) s)) ∧ Ext w w') := fun seen bad w hw s h0 h1 => value_any T R H Re Ca S B Hok.out A n c ws Hn.out Hws.out b sb seen bad w hw s h0 h1
  obtain ⟨j3, hj3, hx3, hx3a, hx3b⟩ := reg_at hR hR' hH hH' hS hS' hB hB' hw.wlen hn hws 3 (by omega) 0 (by omega) (by simp [manyOf])
  obtain ⟨j4, hj4, hx4, hx4a, hx4b⟩ := reg_at hR hR' hH hH' hS hS' hB hB' hw.wlen hn hws 4 (by omega) 0 (by omega) (by simp [manyOf])
  have Ha3 : Hid (∀ (seen : List Bool) (bad : Bool) (w : World), Walker w T R H Re Ca S B A n c ws b sb seen bad → Calls Try.prog 47 #[.pointer (some ⟨b, 0, none⟩), .int .i64 4, .int .i64 0] w fun e w' => e = .returned (.int .u64 (regOf R H S B ws 3 0)) ∧ Ext w w') := fun seen bad w hw => at_any T R H Re Ca S B Hok.out A n c ws b sb seen bad w hw 3 4 0 rfl (by omega) (by omega) (by simp [manyOf]) (by omega) j3 _ hj3 hx3
  have Ha4 : Hid (∀ (seen : List Bool) (bad : Bool) (w : World), Walker w T R H Re Ca S B A n c ws b sb seen bad → Calls Try.prog 47 #[.pointer (some ⟨b, 0, none⟩), .int .i64 5, .int .i64 0] w fun e w' => e = .returned (.int .u64 (regOf R H S B ws 4 0)) ∧ Ext w w') := fun seen bad w hw => at_any T R H Re Ca S B Hok.out A n c ws b sb seen bad w hw 4 5 0 rfl (by omega) (by omega) (by simp [manyOf]) (by omega) j4 _ hj4 hx4
  have Hseq : Hid (∀ (p1 p2 p3 : Nat) (W : World), p3 ≠ sb → Walker W T R H Re Ca S B A n c ws b sb seen0 bad → Boxes W b (regOf R H S B ws 3 0) false p1 p2 p3 → Iterates Try.prog 100 #[.pointer (some ⟨p1, 0, none⟩), .pointer (some ⟨p2, 0, none⟩), .pointer (some ⟨p3, 0, none⟩)] encSlot (Only fun q => q = sb ∨ q = b)
      (ChIt S (regOf R H S B ws 12) false seen0 (chainOf S (regOf R H S B ws 12) false seen0 (regOf R H S B ws 3 0)) T R H Re Ca B A n c ws b sb bad (regOf R H S B ws 3 0) p1 p2 p3)
      (ChS (chainOf S (regOf R H S B ws 12) false seen0 (regOf R H S B ws 3 0)) T R H Re Ca S B A n c ws b sb bad) W) := fun p1 p2 p3 W h3 hw hb => chain1_iter T R H Re Ca S B Hok.out A n c ws Hn.out Hws.out b sb bad false _ hx3a hx3b p1 p2 p3 seen0 W (fun bw off e => ⟨(HA.out bw off e).1, (HA.out bw off e).2.1⟩) h3 hw hb
  generalize (fun s => wrap64 (regOf R H S B ws 10 s)) = val at *
  generalize regOf R H S B ws 12 = wd_ at *
  generalize regOf R H S B ws 3 0 = x0 at *
  generalize regOf R H S B ws 4 0 = t at *
  have Hlt := Lib.hid hw.lt
  have HbA : Hid (∀ bw off, A = some ⟨bw, off, none⟩ → bw < w.heap.size) := fun bw off e => by
    obtain ⟨b', off', e', hb, _⟩ := hw.words (by
      intro h
      have h1 := congrArg List.length h
      rw [List.length_map, List.length_nil, hw.wlen] at h1
      have h2 := (sumOf_bd R H S B hR hR' hH hH' hS hS' hB hB' 13).1
      omega)
    rw [e] at e'
    injection e' with e'
    injection e' with e' _
    omega
  have HS := Lib.hid (⟨hS, hS'⟩ : 1 ≤ S ∧ S ≤ 1024)
  have Hpl := Lib.hid (blk_lt hc)
  have Htot : Hid (∃ tot, tot = chainOf S wd_ false seen0 x0) := ⟨_, rfl⟩
  obtain ⟨tot, htt⟩ := Htot.out
  rw [← htt] at Hseq
  have Htt := Lib.hid htt
  have HU := Lib.hid (fun w => unlink_any t w hx4a hx4b)
  obtain ⟨ts, tm, te, hun, hte, hts⟩ : ∃ (ts : Int) (tm : Bool) (te : Int), unlinked t = .tuple #[.int .i64 ts, .bool tm, .int .i64 te] ∧ (te = 0 ∨ te = 10) ∧ (∀ s : Int, (decide (t ≤ 2147483647) && decide (s = t - 1)) = ((te == 0) && !tm && (s == ts))) := by
    unfold unlinked
    by_cases h1 : t < 8589934592 ∧ t % 4294967296 ≤ 2147483647
    · rw [if_pos h1]
      refine ⟨_, _, _, rfl, .inl rfl, fun s => ?_⟩
      by_cases h2 : t ≤ 2147483647
      · rw [show t % 4294967296 = t by omega, decide_eq_true h2, decide_eq_false (show ¬ 4294967296 ≤ t by omega)]
        by_cases h3 : s = t - 1 <;> simp [h3]
      · rw [decide_eq_false h2, decide_eq_true (show 4294967296 ≤ t by omega)]
        simp
    · rw [if_neg h1]
      refine ⟨_, _, _, rfl, .inr rfl, fun s => ?_⟩
      rw [decide_eq_false (show ¬ t ≤ 2147483647 by omega)]
      simp
  have Hts := Lib.hid hts
  have Hte := Lib.hid hte
  rw [hun] at HU
  clear hok hn hws hA hw hc hp htt hR hR' hH hH' hB hB' hj3 hx3 hj4 hx4 hx3a hx3b hx4a hx4b Htot hun hts hte
  refine calls_of_marks Try.func54 rfl ?_
  simp only [Try.ntmps54, List.size_toArray, List.length_cons, List.length_nil, Nat.reduceAdd, Nat.reduceSub, Array.replicate_succ, Array.replicate_zero, List.push_toArray, List.append_toArray, List.nil_append, List.cons_append]
  go_upto_region 1 with fail
  obtain ⟨wa, ha, h0, h1, eA, ltA⟩ := enter2 w (.cells #[.pointer (some ⟨b, 0, none⟩)] 84) (.cells #[.pointer (some ⟨ps, 0, none⟩)] 102)
  have sa : wa.heap.size = w.heap.size + 1 + 1 := by rw [← ha]; simp
  rw [ha]
  have HBa : Hid (Bx wa w.heap.size [(.pointer (some ⟨b, 0, none⟩), 84), (.pointer (some ⟨ps, 0, none⟩), 102)]) := Bx.cons h0 (Bx.cons h1 Bx.nil)
  have HEa := Lib.hid eA
  have Hsa := Lib.hid sa
  clear ha h0 h1 eA ltA sa
  obtain ⟨ka, hka⟩ := lat_self wa
  have b0 : ∀ z : Lat wa, z.world.cell? ⟨w.heap.size, 0, none⟩ = some (.pointer (some ⟨b, 0, none⟩)) := HBa.out.lat (i := 0) rfl
  rw [hka]
  go_wp2_with fail
  refine (Ha4.out seen0 bad _ (HW.out.ext (Ext.next HEa.out ka.ok))).mono ?_
  rintro e w1 ⟨rfl, e1⟩
  obtain ⟨k1, rfl⟩ := lat_next ka e1
  clear e1
  go_wp2_with fail
  refine (HU.out _).mono ?_
  rintro e w2 ⟨rfl, rfl⟩
  go_upto_region 3 with fail
  have sz : w.heap.size + 1 + 1 ≤ k1.world.heap.size := by have := Hsa.out; have := k1.size; omega
  have Hsz := Lib.hid sz
  have Hx1 := Lib.hid (Ext.next HEa.out k1.ok)
  have hq0 := (Bx.nil (w := k1.world) (g := k1.world.heap.size)).push rfl (.int .i64 ts) 3
  have hq1 := hq0.push (by simp) (.bool tm) 4
  have hq2 := hq1.push (by simp) (.int .i64 te) 27
  have hq3 := hq2.push (by simp) (.bool true) 4
  have hq4 := hq3.push (by simp) (.bool false) 4
  have hqe := ((((((Ext.rfl' k1.world).alloc1 (.cells #[.int .i64 ts] 3)).alloc1 (.cells #[.bool tm] 4)).alloc1 (.cells #[.int .i64 te] 27)).alloc1 (.cells #[.bool true] 4)).alloc1 (.cells #[.bool false] 4))
  generalize (((((k1.world.alloc (.cells #[.int .i64 ts] 3)).alloc (.cells #[.bool tm] 4)).alloc (.cells #[.int .i64 te] 27)).alloc (.cells #[.bool true] 4)).alloc (.cells #[.bool false] 4)) = wq at hq4 hqe ⊢
  have HXq := Lib.hid (Ext.next Hx1.out hqe)
  have HBq := Lib.hid (HBa.out.ext (Ext.next k1.ok hqe))
  have HQq := Lib.hid hq4
  have Hszq : Hid (w.heap.size + 1 + 1 ≤ k1.world.heap.size) := sz
  generalize k1.world.heap.size = g2 at *
  clear hq0 hq1 hq2 hq3 hq4 hqe b0 Hsz sz Hx1 HBa hka
  have hb0 : ∀ z : Lat wq, z.world.cell? ⟨w.heap.size, 0, none⟩ = some (.pointer (some ⟨b, 0, none⟩)) := HBq.out.lat (i := 0) rfl
  have hd0 : (wq.drew).cell? ⟨w.heap.size, 0, none⟩ = some (.pointer (some ⟨b, 0, none⟩)) := hb0 ⟨_, (Ext.rfl' wq).drew1⟩
  go_region_held3 (fun w' => w'.cell? ⟨w.heap.size, 0, none⟩ = some (.pointer (some ⟨b, 0, none⟩))) (first | exact hd0 | exact hd5 | exact hd6)
    (first | ((with_reducible refine (Ha3.out seen0 bad _ (by exact (HW.out.ext (Ext.next HXq.out (Ext.rfl' wq).drew1)))).mono ?_); rintro e w5 ⟨rfl, e5⟩; have hd5 := hb0 ⟨w5, Ext.next (Ext.rfl' wq).drew1 e5⟩) | ((with_reducible refine (chain_any b x0 false _).mono ?_); rintro e w6 ⟨p1, p2, p3, rfl, hbx, l1, l2, l3, e6⟩; have hd6 := hb0 ⟨w6, Ext.next (Ext.next (Ext.rfl' wq).drew1 e5) e6⟩))
  have HBx := Lib.hid hbx
  have HE6 := Lib.hid (Ext.next (Ext.next (Ext.rfl' wq).drew1 e5) e6)
  have HX6 := Lib.hid (Ext.next HXq.out HE6.out)
  have HB6 := Lib.hid (HBq.out.ext HE6.out)
  have HQ6 := Lib.hid (HQq.out.ext HE6.out)
  have HW6 := Lib.hid (HW.out.ext HX6.out)
  have Hc6 := Lib.hid (ext_blk HX6.out Hc.out)
  have Hgq : Hid (g2 + 5 ≤ wq.heap.size) := HQq.out.lt (by simp)
  have Hl : Hid (wq.heap.size ≤ p1 ∧ wq.heap.size ≤ p2 ∧ wq.heap.size ≤ p3) := by
    have h1 := e5.size
    simp at h1
    show _ ∧ _
    omega
  clear hbx l1 l2 l3 e5 e6 hd0 hd5 hd6 hb0 HQq HBq HXq HE6
  go_wp2_with fail
  refine wp_rangeFunc_any (α := Int × Bool) (gf := 100) (lb := #[.pointer (some ⟨p1, 0, none⟩), .pointer (some ⟨p2, 0, none⟩), .pointer (some ⟨p3, 0, none⟩)]) rfl (enters_of Try.func100 (by kernel_rfl) rfl) (encs := encSlot) (fun _ => rfl)
    (hseq := fun W e => Hseq.out p1 p2 p3 W (by have := Hl.out; have := Hlt.out; have := Hgq.out; have := Hszq.out; omega) (HW6.out.ext e) (HBx.out.ext e)) ?tr ?it ?s
    (QInv w g2 w6.heap.size b sb ps ts tm te t v0 v1 v3 v4 S val) (fun _ _ _ => False)
    ?ie ?iT ?iR ?xR ?h0
    (fun x => { tmps := #[.pointer (some ⟨b, 0, none⟩), .pointer (some ⟨ps, 0, none⟩), .pointer (some ⟨w.heap.size, 0, none⟩), .pointer (some ⟨w.heap.size + 1, 0, none⟩), .pointer (some ⟨g2, 0, none⟩), .pointer (some ⟨g2 + 1, 0, none⟩), .pointer (some ⟨g2 + 1 + 1, 0, none⟩), .pointer (some ⟨g2 + 1 + 1 + 1, 0, none⟩), .pointer (some ⟨g2 + 1 + 1 + 1 + 1, 0, none⟩), .int .i64 x.1, .tuple #[.int .i64 ts, .bool tm, .int .i64 te], .pointer (some ⟨b, 0, none⟩), .int .u64 t, .tuple #[.int .i64 ts, .bool tm, .int .i64 te], .int .i64 ts, .bool tm, .int .i64 te, .pointer (some ⟨b, 0, none⟩), .pointer (some ⟨b, 0, none⟩), .int .u64 x0, .func (.func 100) #[] #[.pointer (some ⟨p1, 0, none⟩), .pointer (some ⟨p2, 0, none⟩), .pointer (some ⟨p3, 0, none⟩)], .int .i64 x.1, .bool x.2, undef, undef, undef, undef, undef, undef, undef, undef, undef, undef, undef, undef, undef, undef, undef, undef, undef, undef, undef, undef, undef, undef, undef, undef, undef, undef, undef, undef, undef, undef, undef, undef, undef, undef, undef, undef, undef, undef, undef], defers := [] })
    ?assign ?body ?done ?stop
  case tr =>
    intro X Y ho k o hk hX _
    have := Hlt.out
    have := HX6.out.size
    exact (ho.block k (Array.getElem?_eq_some_iff.1 hX).1 (by omega)).trans hX
  case it =>
    intro pre x X Y h hr
    have := Hlt.out
    have := HX6.out.size
    obtain ⟨seen, hw, hc⟩ := h.ex
    exact ⟨⟨seen, hw.byRec hr (by omega) (by omega) (fun bw off e => by have := HbA.out bw off e; omega), hc⟩, h.pos, h.lk, h.mark, h.box.byRec hr⟩
  case s =>
    intro xs X Y h hr
    have := Hlt.out
    have := HX6.out.size
    exact ⟨h.1, h.2.byRec hr (by omega) (by omega) (fun bw off e => by have := HbA.out bw off e; omega)⟩
  case ie =>
    rintro pre X Y ⟨ba, bx, ⟨v2, h1, h2⟩, h3, h4⟩ e
    exact ⟨ba.ext e, bx.ext e, ⟨v2, ext_blk e h1, own_ext h2 e⟩, h3, h4.trans (Only.of_ext (S := fun _ => False) e) fun _ _ h => h.elim⟩
  case iT =>
    rintro pre X Y ⟨ba, bx, ⟨v2, h1, h2⟩, h3, h4⟩ ho
    have := Hlt.out
    have := Hszq.out
    have := Hp.out
    have := Hgq.out
    have := HX6.out.size
    exact ⟨ba.only ho (fun q hq => by omega), bx.only ho (fun q hq => by omega), ⟨v2, (ho.block _ (blk_lt h1) (by omega)).trans h1, own_only h2 ho (fun k hk hq => by have := h2.lt k hk; omega)⟩, h3, h4.trans ho fun _ _ h => by rcases h with h | h <;> simp [h]⟩
  case iR =>
    rintro pre X Y ⟨ba, bx, ⟨v2, h1, h2⟩, h3, h4⟩ hr
    exact ⟨ba.byRec hr, bx.byRec hr, ⟨v2, hr.cells h1, hr.own h2⟩, h3, h4.trans hr.only fun i hi h => by have := HX6.out.size; omega⟩
  case xR => exact fun _ _ _ _ h _ => h
  case h0 => exact ⟨HB6.out, by rw [show namesOne t [] = false by simp [namesOne]]; exact HQ6.out, ⟨_, Hc6.out, World.ownsRow_nil _ _ _ _⟩, Nat.zero_le _, Only.of_ext HX6.out⟩
  case assign =>
    intro l x W K hK
    simp only [encSlot]
    gi_wp2
    exact hK
  case body =>
    rintro l pre x W ⟨hba, hbx, ⟨v2, hcs, hown⟩, hlen, hon⟩ hit hlt
    obtain ⟨seen, hWk, hCh⟩ := hit.ex
    obtain ⟨xs, xm⟩ := x
    have hx0 : 0 ≤ xs := hit.pos
    have hx1 : xs < S := hCh.lt
    have hmore := hCh.more hx0
    have HWk := Lib.hid hWk
    have HBA := Lib.hid hba
    have Hcs := Lib.hid hcs
    have Hown := Lib.hid hown
    have Hon := Lib.hid hon
    have Hit := Lib.hid hit
    have Hch := Lib.hid hCh
    obtain ⟨en, hen⟩ : ∃ en, namesOne t pre = en := ⟨_, rfl⟩
    obtain ⟨du, hdu⟩ : ∃ du, pre.isEmpty = du := ⟨_, rfl⟩
    rw [hen, hdu] at hbx
    have HBX := Lib.hid hbx
    have Hen := Lib.hid hen
    have Hdu := Lib.hid hdu
    obtain ⟨k, hk⟩ := lat_self W
    have Hk := Lib.hid hk
    have q3 : ∀ z : Lat W, z.world.cell? ⟨g2 + 1 + 1 + 1, 0, none⟩ = some (.bool du) := HBX.out.lat (i := 3) rfl
    clear hit hWk hCh hba hcs hown hon hbx hen hdu
    cases du with
    | true =>
      rw [hk]
      clear hk
      gi_upto_region 7 with fail
      rw [← Hk.out]
      clear q3
      have hpre : pre = [] := by
        have := Hdu.out
        cases pre with
        | nil => rfl
        | cons => cases this
      have Hbe : Hid (behind val (pre ++ [(xs, xm)]) = behind val pre) := by
        show _ = _
        rw [hpre]
        rfl
      have hov := Hown.out
      rw [← Hbe.out] at hov
      clear hpre
      obtain ⟨du, hdu⟩ : ∃ du : Bool, du = true := ⟨_, rfl⟩
      obtain ⟨wv, hwv⟩ : ∃ wv, wv = W := ⟨_, rfl⟩
      obtain ⟨v2n, hv2⟩ : ∃ v, v = v2 := ⟨_, rfl⟩
      have hBAv : Bx wv _ _ := hwv ▸ HBA.out
      have hBXv : Bx wv g2 [(.int .i64 ts, 3), (.bool tm, 4), (.int .i64 te, 27), (.bool du, 4), (.bool en, 4)] := by rw [hwv, hdu]; exact HBX.out
      have hcv : wv.heap[ps]? = some (.cells (contV v0 v1 v2n v3 v4) 38 (0, 0)) := by rw [hwv, hv2]; exact Hcs.out
      have hov : wv.ownsRow w6.heap.size 3 1 v2n (behind val (pre ++ [(xs, xm)])).length ((behind val (pre ++ [(xs, xm)])).map (Value.int .i64)) := by rw [hwv, hv2]; exact hov
      have honv : Only (fun q => q = sb ∨ q = b ∨ q = ps) w wv := by rw [hwv]; exact Hon.out
      have hWv : Walker wv T R H Re Ca S B A n c ws b sb seen bad := by rw [hwv]; exact HWk.out
      have hbv : Boxes wv b x0 false p1 p2 p3 := by rw [hwv]; exact Hit.out.box
      have hkv : KeepsFrom w6.heap.size W wv := by rw [hwv]; exact KeepsFrom.refl _ _
      rw [← hwv]
      clear hwv hdu hv2
      have HBAv := Lib.hid hBAv
      have HBXv := Lib.hid hBXv
      have Hcv := Lib.hid hcv
      have Hov := Lib.hid hov
      have Honv := Lib.hid honv
      have HWv := Lib.hid hWv
      have Hbv := Lib.hid hbv
      have Hkv := Lib.hid hkv
      clear hBAv hBXv hcv hov honv hWv hbv hkv
      obtain ⟨kv, hkw⟩ := lat_self wv
      have q3 : ∀ z : Lat wv, z.world.cell? ⟨g2 + 1 + 1 + 1, 0, none⟩ = some (.bool du) := HBXv.out.lat (i := 3) rfl
      have r3 : ∀ z : Lat wv, z.world.frozen? ⟨g2 + 1 + 1 + 1, 0, none⟩ = false := HBXv.out.free (i := 3) rfl
      rw [hkw]
      clear hkw
      gi_upto_region 8 with fail
      obtain ⟨hB7, hO7⟩ := (HBXv.out.ext kv.ok).set (i := 3) rfl (.bool false)
      have hB7 : Bx (kv.world.setCell ⟨g2 + 1 + 1 + 1, 0, none⟩ (.bool false)) g2 [(.int .i64 ts, 3), (.bool tm, 4), (.int .i64 te, 27), (.bool false, 4), (.bool en, 4)] := hB7
      have hO7 : Only (fun q => q = g2 + 3) kv.world (kv.world.setCell ⟨g2 + 1 + 1 + 1, 0, none⟩ (.bool false)) := hO7
      generalize kv.world.setCell ⟨g2 + 1 + 1 + 1, 0, none⟩ (.bool false) = wu at hB7 hO7 ⊢
      have HB7 := Lib.hid hB7
      have HO7 : Hid (Only (fun q => q = g2 + 3) wv wu) := (Only.of_ext kv.ok).trans hO7 fun _ _ h => h
      clear hB7 hO7 q3 r3
      have q0 : ∀ z : Lat wu, z.world.cell? ⟨g2, 0, none⟩ = some (.int .i64 ts) := HB7.out.lat (i := 0) rfl
      have q1 : ∀ z : Lat wu, z.world.cell? ⟨g2 + 1, 0, none⟩ = some (.bool tm) := HB7.out.lat (i := 1) rfl
      have q2 : ∀ z : Lat wu, z.world.cell? ⟨g2 + 1 + 1, 0, none⟩ = some (.int .i64 te) := HB7.out.lat (i := 2) rfl
      have q4 : ∀ z : Lat wu, z.world.cell? ⟨g2 + 1 + 1 + 1 + 1, 0, none⟩ = some (.bool en) := HB7.out.lat (i := 4) rfl
      have r4 : ∀ z : Lat wu, z.world.frozen? ⟨g2 + 1 + 1 + 1 + 1, 0, none⟩ = false := HB7.out.free (i := 4) rfl
      have Hfin : Hid (∀ (z : Lat wu) (q : Bool), q = namesOne t (pre ++ [(xs, xm)]) → rngPost w6.heap.size (QInv w g2 w6.heap.size b sb ps ts tm te t v0 v1 v3 v4 S val) (fun _ _ _ => False) (ChIt S wd_ false seen0 tot T R H Re Ca B A n c ws b sb bad x0 p1 p2 p3) pre (xs, xm) W .normal { tmps := #[], defers := [] } (z.world.setCell ⟨g2 + 1 + 1 + 1 + 1, 0, none⟩ (.bool q))) := fun z q hq => by
        have hlt0 := Hlt.out
        have hp0 := Hp.out
        have hpl := Hpl.out
        have hs1 := Hszq.out
        have hs2 := HX6.out.size
        have hg := Hgq.out
        have hs3 := Honv.out.size
        have hl0 := Hl.out
        have hw6 := HB6.out.lt (by simp)
        have hw7 := HQ6.out.lt (by simp)
        simp at hw7
        have hO : Only (fun q => q = g2 + 3) wv z.world := HO7.out.trans (Only.of_ext (S := fun _ => False) z.ok) fun _ _ h => h.elim
        obtain ⟨hB8, hO8⟩ := (HB7.out.ext z.ok).set (i := 4) rfl (.bool q)
        have hO8 : Only (fun q => q = g2 + 4) z.world (z.world.setCell ⟨g2 + 1 + 1 + 1 + 1, 0, none⟩ (.bool q)) := hO8
        have hOa : Only (fun q => q = g2 + 3 ∨ q = g2 + 4) wv (z.world.setCell ⟨g2 + 1 + 1 + 1 + 1, 0, none⟩ (.bool q)) := (hO.mono fun _ _ h => Or.inl h).trans hO8 fun _ _ h => Or.inr h
        refine ⟨Hkv.out.trans (keeps_lt hOa fun i hi => by omega), ⟨HBAv.out.only hOa fun i hi => by simp; omega, ?_, ⟨v2n, (hOa.block _ (blk_lt Hcv.out) (by omega)).trans Hcv.out, own_only Hov.out hOa fun i hi h => by have := Hov.out.lt i hi; omega⟩, ?_, ?_⟩, ⟨seen, HWv.out.only hOa (by omega) (by omega) (fun bw off e => by have := HbA.out bw off e; omega), Hch.out⟩, Hit.out.pos, Hit.out.lk, Hit.out.mark, Hbv.out.only hOa (by omega) (by omega) (by omega)⟩
        · rw [show (pre ++ [(xs, xm)]).isEmpty = false by simp, ← hq]
          exact hB8
        · rw [List.length_append, List.length_singleton]; omega
        · exact Honv.out.trans hOa fun i hi h => by omega
      rw [namesOne_snoc, Hen.out, Hts.out xs] at Hfin
      obtain ⟨ku, hku⟩ := lat_self wu
      rw [hku]
      clear hku
      cases en with
      | true =>
        gi_wp2
        rw [← Hk.out]
        exact Hfin.out ku true (by simp)
      | false =>
        rcases Hte.out with rfl | rfl
        · cases tm with
          | true =>
            gi_wp2
            rw [← Hk.out]
            exact Hfin.out ku false (by simp)
          | false =>
            by_cases hxs : xs = ts
            · have hxb : (xs == ts) = true := by simpa using hxs
              have Hxs := Lib.hid hxs
              clear hxs
              gi_wp2
              rw [← Hk.out]
              exact Hfin.out ku true (by simp [Hxs.out])
            · have hxb : (xs == ts) = false := by simpa using hxs
              gi_wp2
              rw [← Hk.out]
              exact Hfin.out ku false (by simp [hxs])
        · gi_wp2
          rw [← Hk.out]
          exact Hfin.out ku false (by simp)
    | false =>
      rw [hk]
      clear hk
      gi_upto_region 6 with fail
      rw [← Hk.out]
      obtain ⟨A2, c2, rfl⟩ := own_form Hown.out
      have hlt0 := Hlt.out
      have hp0 := Hp.out
      have hpl := Hpl.out
      have hs1 := Hszq.out
      have hs2 := HX6.out.size
      have hg := Hgq.out
      have hs3 := Hon.out.size
      have hne1 : w.heap.size ≠ ps := by omega
      have hne2 : w.heap.size + 1 ≠ ps := by omega
      have hbl : (behind val pre).length ≤ pre.length := by unfold behind; simp
      have hbytes : ((behind val pre).length + 1) * 8 ≤ 140737488355328 := by
        have h2 := HS.out
        omega
      have hps : ps < W.heap.size := by omega
      have hW0 : W.cell? ⟨w.heap.size, 0, none⟩ = some (.pointer (some ⟨b, 0, none⟩)) := HBA.out.lat (i := 0) rfl ⟨W, Ext.rfl' W⟩
      have hW1 : W.cell? ⟨w.heap.size + 1, 0, none⟩ = some (.pointer (some ⟨ps, 0, none⟩)) := HBA.out.lat (i := 1) rfl ⟨W, Ext.rfl' W⟩
      have hW2 : W.cell? ⟨ps, 2, none⟩ = some (.slice A2 (behind val pre).length c2) := cellOf Hcs.out rfl
      clear q3
      refine wpIn_round_any (by kernel_rfl) (fun _ _ h => h) (by kernel_rfl) (wpAny_of_held (S := fun w' : World => w'.cell? ⟨w.heap.size + 1, 0, none⟩ = some (.pointer (some ⟨ps, 0, none⟩)) ∧ w'.cell? ⟨w.heap.size, 0, none⟩ = some (.pointer (some ⟨b, 0, none⟩))) _ _ _ _ ?_)
      have hHeld : (fun w' : World => w'.cell? ⟨w.heap.size + 1, 0, none⟩ = some (.pointer (some ⟨ps, 0, none⟩)) ∧ w'.cell? ⟨w.heap.size, 0, none⟩ = some (.pointer (some ⟨b, 0, none⟩))) (W.drew) := ⟨hW1, hW0⟩
      refine wpAnyH_take (i := 0) (v := ?_) rfl (by kernel_rfl) (by kernel_rfl) (by kernel_rfl) (fun _ _ _ h => h) (Or.inl ⟨by rfl, ?hy1⟩) (by assumption) ?rest1
      case hy1 => (intro w hSw; (try dsimp only at hSw); go_simp; try with_reducible rfl)
      refine wpAnyH_take (i := 1) (v := ?_) rfl (by kernel_rfl) (by kernel_rfl) (by kernel_rfl) (fun _ _ _ h => h) (Or.inl ⟨by rfl, ?hy2⟩) (by assumption) ?rest2
      case hy2 => (intro w hSw; (try dsimp only at hSw); go_simp; try with_reducible rfl)
      refine wpAnyH_take (i := 2) (v := ?_) rfl (by kernel_rfl) (by kernel_rfl) (by kernel_rfl) (fun _ _ _ h => h) (Or.inl ⟨by rfl, ?hy3⟩) (by assumption) ?rest3
      case hy3 => (intro w hSw; (try dsimp only at hSw); go_simp; try with_reducible rfl)
      refine wpAnyH_take (i := 3) (v := ?_) rfl (by kernel_rfl) (by kernel_rfl) (by kernel_rfl) (fun _ _ _ h => h) (Or.inl ⟨by rfl, ?hy4⟩) (by assumption) ?rest4
      case hy4 => (intro w hSw; (try dsimp only at hSw); go_simp; try with_reducible rfl)
      refine wpAnyH_take (i := 5) (v := ?_) rfl (by kernel_rfl) (by kernel_rfl) (by kernel_rfl) (fun _ _ _ h => h) (Or.inl ⟨by rfl, ?hy5⟩) (by assumption) ?rest5
      case hy5 => (intro w hSw; (try dsimp only at hSw); go_simp; try with_reducible rfl)
      refine wpAnyH_take (i := 6) (v := ?_) rfl (by kernel_rfl) (by kernel_rfl) (by kernel_rfl) (fun _ _ _ h => h) (Or.inl ⟨by rfl, ?hy6⟩) (by assumption) ?rest6
      case hy6 => (intro w hSw; (try dsimp only at hSw); go_simp; try with_reducible rfl)
      refine wpAnyH_ready (rs := [4, 7]) (by kernel_rfl) (by simp) ?_
      refine AllReadyH.cons rfl (fun K hK => ?_) ?_
      · go_simp
        refine hK.out _ _ ⟨hW1, hW0⟩ (fun hHeld => ?_)
        clear hK K
        refine wpAnyH_ready (rs := [7]) (by kernel_rfl) (by simp) ?_
        refine AllReadyH.cons rfl (fun K hK => ?_) ?_
        · go_simp
          (refine (Hv.out seen bad _ (HWk.out.ext (Ext.rfl' W).drew1) xs hx0 hx1).mono ?_; rintro e w5 ⟨rfl, e5⟩)
          have hE5 := Ext.next (Ext.rfl' W).drew1 e5
          have h50 : w5.cell? ⟨w.heap.size, 0, none⟩ = some (.pointer (some ⟨b, 0, none⟩)) := HBA.out.lat (i := 0) rfl ⟨w5, hE5⟩
          have h51 : w5.cell? ⟨w.heap.size + 1, 0, none⟩ = some (.pointer (some ⟨ps, 0, none⟩)) := HBA.out.lat (i := 1) rfl ⟨w5, hE5⟩
          have h52 : w5.cell? ⟨ps, 2, none⟩ = some (.slice A2 (behind val pre).length c2) := cellOf (ext_blk hE5 Hcs.out) rfl
          have hA5 := (Ext.rfl' w5).alloc1 (.cells #[.int .i64 (val xs)] 3)
          have h60 := (hE5.next hA5)
          have hps5 : ps < w5.heap.size := by have := hE5.size; omega
          refine hK.out _ _ ⟨h51, h50⟩ (fun hHeld => ?_)
          clear hK K
          refine wpAnyH_ready (rs := [8]) (by kernel_rfl) (by simp) ?_
          refine AllReadyH.cons rfl (fun K hK => ?_) ?_
          · go_simp
            refine hK.out _ _ ⟨(by simpa using (World.cell?_alloc_some _ _ _ (by rw [h51]; rfl)).trans h51), (World.cell?_alloc_some _ _ _ (by rw [h50]; rfl)).trans h50⟩ (fun hHeld => ?_)
            clear hK K
            refine wpAnyH_ready (rs := [9]) (by kernel_rfl) (by simp) ?_
            refine AllReadyH.cons rfl (fun K hK => ?_) ?_
            · have hown5 := own_ext Hown.out hE5
              have hbase5 : w6.heap.size ≤ w5.heap.size := by have := hE5.size; omega
              refine step_appendR _ rfl (.tmp 29) (.tmp 33) 26 rfl w6.heap.size 3 1 8 elemInt Try.underlying26 (.slice A2 (behind val pre).length c2) (behind val pre).length _ (by simp [Act.eval]) (hown5.alloc _) (some ⟨w5.heap.size, 0, none⟩) 1 1 [.int .i64 (val xs)] (by simp [Act.eval]) rfl (Rd.made w5 [.int .i64 (val xs)] 3) (by simp [Value.oneCell']) hbytes (by simp; omega) ?_
              intro v7 w7 hown7 hgrow7 hat7
              have hg7 := (Only.of_grown hgrow7).mono (S' := fun q => w6.heap.size ≤ q) fun q _ hq => (hown5.lt q hq.symm).1
              have h7w : Only (fun q => w6.heap.size ≤ q) W w7 := ((Only.of_ext (S := fun q => w6.heap.size ≤ q) hE5).trans (Only.of_ext (S := fun q => w6.heap.size ≤ q) hA5) fun _ _ h => h).trans hg7 fun _ _ h => h
              have hB7 := HBA.out.only h7w (fun q hq => by have := HB6.out.lt (by simp); simp; simp at this; omega)
              have hC7 := (h7w.block ps hps (by omega)).trans Hcs.out
              have h70 := hB7.lat (i := 0) rfl ⟨w7, Ext.rfl' w7⟩
              have h71 := hB7.lat (i := 1) rfl ⟨w7, Ext.rfl' w7⟩
              have h72 := cellOf (i := 2) hC7 rfl
              have h73 := freeOf hC7 2
              obtain ⟨A7, c7, rfl⟩ := own_form hown7
              refine hK.out _ _ ⟨h71, h70⟩ (fun hHeld => ?_)
              clear hK K
              refine wpAnyH_take (i := 10) (v := ?_) rfl (by kernel_rfl) (by kernel_rfl) (by kernel_rfl) (fun _ _ _ h => h) (Or.inl ⟨by rfl, ?hy7⟩) (by assumption) ?rest7
              case hy7 => (intro w hSw; (try dsimp only at hSw); go_simp; try with_reducible rfl)
              refine wpAnyH_take (i := 11) (v := ?_) rfl (by kernel_rfl) (by kernel_rfl) (by kernel_rfl) (fun _ _ _ h => h) (Or.inl ⟨by rfl, ?hy8⟩) (by assumption) ?rest8
              case hy8 => (intro w hSw; (try dsimp only at hSw); go_simp; try with_reducible rfl)
              refine wpAnyH_ready (rs := [12]) (by kernel_rfl) (by simp) ?_
              refine AllReadyH.cons rfl (fun K hK => ?_) ?_
              · go_simp
                refine hK.out _ _ ⟨(World.cell?_setCell_far _ _ _ _ (fun e => hne2 e.symm)).trans h71, (World.cell?_setCell_far _ _ _ _ (fun e => hne1 e.symm)).trans h70⟩ (fun hHeld => ?_)
                clear hK K
                refine wpAnyH_done (by kernel_rfl) ?_ _
                have hOs : Only (fun q => q = ps) w7 (w7.setCell ⟨ps, 2, none⟩ (.slice A7 ((behind val pre).length + 1) c7)) := (Only.refl _ _).setCell _ _ fun _ => rfl
                have hcv : (w7.setCell ⟨ps, 2, none⟩ (.slice A7 ((behind val pre).length + 1) c7)).heap[ps]? = some (.cells (contV v0 v1 (.slice A7 ((behind val pre).length + 1) c7) v3 v4) 38 (0, 0)) := heap_setCell_same _ _ _ _ _ _ hC7
                have hkv : KeepsFrom w6.heap.size W (w7.setCell ⟨ps, 2, none⟩ (.slice A7 ((behind val pre).length + 1) c7)) := (((keeps_lt (Only.of_ext (S := fun _ => False) hE5) fun _ h => h.elim).trans (keeps_lt (Only.of_ext (S := fun _ => False) hA5) fun _ h => h.elim)).trans (keeps_grown (hown5.alloc _) hgrow7)).trans (keeps_lt hOs fun q hq => by omega)
                have Hbe : Hid (behind val (pre ++ [(xs, xm)]) = behind val pre ++ [val xs]) := by
                  show _ = _
                  rw [behind_snoc, Hdu.out]
                  rfl
                have hov : (w7.setCell ⟨ps, 2, none⟩ (.slice A7 ((behind val pre).length + 1) c7)).ownsRow w6.heap.size 3 1 (.slice A7 ((behind val pre).length + 1) c7) (behind val (pre ++ [(xs, xm)])).length ((behind val (pre ++ [(xs, xm)])).map (Value.int .i64)) := by
                  rw [Hbe.out]
                  have := own_only hown7 hOs fun q hq h => by have := hown7.lt q hq; omega
                  simpa using this
                dsimp only [Exit.then]
                generalize w7.setCell ⟨ps, 2, none⟩ (.slice A7 ((behind val pre).length + 1) c7) = wv at hOs hcv hkv hov ⊢
                have h8 : Only (fun q => w6.heap.size ≤ q ∨ q = ps) W wv := (h7w.mono fun _ _ h => Or.inl h).trans hOs fun _ _ h => Or.inr h
                have hw7 := HQ6.out.lt (by simp)
                simp at hw7
                obtain ⟨du, hdu⟩ : ∃ du : Bool, du = false := ⟨_, rfl⟩
                obtain ⟨v2n, hv2⟩ : ∃ v, v = Value.slice A7 ((behind val pre).length + 1) c7 := ⟨_, rfl⟩
                rw [← hv2] at hcv hov
                have hBAv := HBA.out.only h8 (fun q hq => by simp; omega)
                have hBXv : Bx wv g2 [(.int .i64 ts, 3), (.bool tm, 4), (.int .i64 te, 27), (.bool du, 4), (.bool en, 4)] := by rw [hdu]; exact HBX.out.only h8 (fun q hq => by simp; omega)
                have honv := Hon.out.trans h8 (fun i hi h => by omega)
                have hWv := HWk.out.only h8 (by omega) (by omega) (fun bw off e => by have := HbA.out bw off e; have := HA.out bw off e; omega)
                have hbv := Hit.out.box.only h8 (by have := blk_lt HBx.out.b1; have := Hl.out; omega) (by have := blk_lt HBx.out.b2; have := Hl.out; omega) (by have := blk_lt HBx.out.b3; have := Hl.out; omega)
                clear hOs h8 hdu hv2 hown7 hgrow7 hat7 hg7 h7w hB7 hC7 h70 h71 h72 h73 hown5 hE5 hA5 h60 e5 h50 h51 h52 hHeld hW0 hW1 hW2 hbytes hbl hw7
                have HBAv := Lib.hid hBAv
                have HBXv := Lib.hid hBXv
                have Hcv := Lib.hid hcv
                have Hov := Lib.hid hov
                have Honv := Lib.hid honv
                have HWv := Lib.hid hWv
                have Hbv := Lib.hid hbv
                have Hkv := Lib.hid hkv
                clear hBAv hBXv hcv hov honv hWv hbv hkv
                obtain ⟨kv, hkw⟩ := lat_self wv
                have q3 : ∀ z : Lat wv, z.world.cell? ⟨g2 + 1 + 1 + 1, 0, none⟩ = some (.bool du) := HBXv.out.lat (i := 3) rfl
                have r3 : ∀ z : Lat wv, z.world.frozen? ⟨g2 + 1 + 1 + 1, 0, none⟩ = false := HBXv.out.free (i := 3) rfl
                rw [hkw]
                clear hkw
                gi_upto_region 8 with fail
                obtain ⟨hB7, hO7⟩ := (HBXv.out.ext kv.ok).set (i := 3) rfl (.bool false)
                have hB7 : Bx (kv.world.setCell ⟨g2 + 1 + 1 + 1, 0, none⟩ (.bool false)) g2 [(.int .i64 ts, 3), (.bool tm, 4), (.int .i64 te, 27), (.bool false, 4), (.bool en, 4)] := hB7
                have hO7 : Only (fun q => q = g2 + 3) kv.world (kv.world.setCell ⟨g2 + 1 + 1 + 1, 0, none⟩ (.bool false)) := hO7
                generalize kv.world.setCell ⟨g2 + 1 + 1 + 1, 0, none⟩ (.bool false) = wu at hB7 hO7 ⊢
                have HB7 := Lib.hid hB7
                have HO7 : Hid (Only (fun q => q = g2 + 3) wv wu) := (Only.of_ext kv.ok).trans hO7 fun _ _ h => h
                clear hB7 hO7 q3 r3
                have q0 : ∀ z : Lat wu, z.world.cell? ⟨g2, 0, none⟩ = some (.int .i64 ts) := HB7.out.lat (i := 0) rfl
                have q1 : ∀ z : Lat wu, z.world.cell? ⟨g2 + 1, 0, none⟩ = some (.bool tm) := HB7.out.lat (i := 1) rfl
                have q2 : ∀ z : Lat wu, z.world.cell? ⟨g2 + 1 + 1, 0, none⟩ = some (.int .i64 te) := HB7.out.lat (i := 2) rfl
                have q4 : ∀ z : Lat wu, z.world.cell? ⟨g2 + 1 + 1 + 1 + 1, 0, none⟩ = some (.bool en) := HB7.out.lat (i := 4) rfl
                have r4 : ∀ z : Lat wu, z.world.frozen? ⟨g2 + 1 + 1 + 1 + 1, 0, none⟩ = false := HB7.out.free (i := 4) rfl
                have Hfin : Hid (∀ (z : Lat wu) (q : Bool), q = namesOne t (pre ++ [(xs, xm)]) → rngPost w6.heap.size (QInv w g2 w6.heap.size b sb ps ts tm te t v0 v1 v3 v4 S val) (fun _ _ _ => False) (ChIt S wd_ false seen0 tot T R H Re Ca B A n c ws b sb bad x0 p1 p2 p3) pre (xs, xm) W .normal { tmps := #[], defers := [] } (z.world.setCell ⟨g2 + 1 + 1 + 1 + 1, 0, none⟩ (.bool q))) := fun z q hq => by
                  have hlt0 := Hlt.out
                  have hp0 := Hp.out
                  have hpl := Hpl.out
                  have hs1 := Hszq.out
                  have hs2 := HX6.out.size
                  have hg := Hgq.out
                  have hs3 := Honv.out.size
                  have hl0 := Hl.out
                  have hw6 := HB6.out.lt (by simp)
                  have hw7 := HQ6.out.lt (by simp)
                  simp at hw7
                  have hO : Only (fun q => q = g2 + 3) wv z.world := HO7.out.trans (Only.of_ext (S := fun _ => False) z.ok) fun _ _ h => h.elim
                  obtain ⟨hB8, hO8⟩ := (HB7.out.ext z.ok).set (i := 4) rfl (.bool q)
                  have hO8 : Only (fun q => q = g2 + 4) z.world (z.world.setCell ⟨g2 + 1 + 1 + 1 + 1, 0, none⟩ (.bool q)) := hO8
                  have hOa : Only (fun q => q = g2 + 3 ∨ q = g2 + 4) wv (z.world.setCell ⟨g2 + 1 + 1 + 1 + 1, 0, none⟩ (.bool q)) := (hO.mono fun _ _ h => Or.inl h).trans hO8 fun _ _ h => Or.inr h
                  refine ⟨Hkv.out.trans (keeps_lt hOa fun i hi => by omega), ⟨HBAv.out.only hOa fun i hi => by simp; omega, ?_, ⟨v2n, (hOa.block _ (blk_lt Hcv.out) (by omega)).trans Hcv.out, own_only Hov.out hOa fun i hi h => by have := Hov.out.lt i hi; omega⟩, ?_, ?_⟩, ⟨seen, HWv.out.only hOa (by omega) (by omega) (fun bw off e => by have := HbA.out bw off e; omega), Hch.out⟩, Hit.out.pos, Hit.out.lk, Hit.out.mark, Hbv.out.only hOa (by omega) (by omega) (by omega)⟩
                  · rw [show (pre ++ [(xs, xm)]).isEmpty = false by simp, ← hq]
                    exact hB8
                  · rw [List.length_append, List.length_singleton]; omega
                  · exact Honv.out.trans hOa fun i hi h => by omega
                rw [namesOne_snoc, Hen.out, Hts.out xs] at Hfin
                obtain ⟨ku, hku⟩ := lat_self wu
                rw [hku]
                clear hku
                cases en with
                | true =>
                  gi_wp2
                  rw [← Hk.out]
                  exact Hfin.out ku true (by simp)
                | false =>
                  rcases Hte.out with rfl | rfl
                  · cases tm with
                    | true =>
                      gi_wp2
                      rw [← Hk.out]
                      exact Hfin.out ku false (by simp)
                    | false =>
                      by_cases hxs : xs = ts
                      · have hxb : (xs == ts) = true := by simpa using hxs
                        have Hxs := Lib.hid hxs
                        clear hxs
                        gi_wp2
                        rw [← Hk.out]
                        exact Hfin.out ku true (by simp [Hxs.out])
                      · have hxb : (xs == ts) = false := by simpa using hxs
                        gi_wp2
                        rw [← Hk.out]
                        exact Hfin.out ku false (by simp [hxs])
                  · gi_wp2
                    rw [← Hk.out]
                    exact Hfin.out ku false (by simp)
              · exact AllReadyH.nil
            · exact AllReadyH.nil
          · exact AllReadyH.nil
        · exact AllReadyH.nil
      refine AllReadyH.cons rfl (fun K hK => ?_) ?_
      · go_simp
        (refine (Hv.out seen bad _ (HWk.out.ext (Ext.rfl' W).drew1) xs hx0 hx1).mono ?_; rintro e w5 ⟨rfl, e5⟩)
        have hE5 := Ext.next (Ext.rfl' W).drew1 e5
        have h50 : w5.cell? ⟨w.heap.size, 0, none⟩ = some (.pointer (some ⟨b, 0, none⟩)) := HBA.out.lat (i := 0) rfl ⟨w5, hE5⟩
        have h51 : w5.cell? ⟨w.heap.size + 1, 0, none⟩ = some (.pointer (some ⟨ps, 0, none⟩)) := HBA.out.lat (i := 1) rfl ⟨w5, hE5⟩
        have h52 : w5.cell? ⟨ps, 2, none⟩ = some (.slice A2 (behind val pre).length c2) := cellOf (ext_blk hE5 Hcs.out) rfl
        have hA5 := (Ext.rfl' w5).alloc1 (.cells #[.int .i64 (val xs)] 3)
        have h60 := (hE5.next hA5)
        have hps5 : ps < w5.heap.size := by have := hE5.size; omega
        refine hK.out _ _ ⟨h51, h50⟩ (fun hHeld => ?_)
        clear hK K
        refine wpAnyH_ready (rs := [4, 8]) (by kernel_rfl) (by simp) ?_
        refine AllReadyH.cons rfl (fun K hK => ?_) ?_
        · go_simp
          refine hK.out _ _ ⟨h51, h50⟩ (fun hHeld => ?_)
          clear hK K
          refine wpAnyH_ready (rs := [8]) (by kernel_rfl) (by simp) ?_
          refine AllReadyH.cons rfl (fun K hK => ?_) ?_
          · go_simp
            refine hK.out _ _ ⟨(by simpa using (World.cell?_alloc_some _ _ _ (by rw [h51]; rfl)).trans h51), (World.cell?_alloc_some _ _ _ (by rw [h50]; rfl)).trans h50⟩ (fun hHeld => ?_)
            clear hK K
            refine wpAnyH_ready (rs := [9]) (by kernel_rfl) (by simp) ?_
            refine AllReadyH.cons rfl (fun K hK => ?_) ?_
            · have hown5 := own_ext Hown.out hE5
              have hbase5 : w6.heap.size ≤ w5.heap.size := by have := hE5.size; omega
              refine step_appendR _ rfl (.tmp 29) (.tmp 33) 26 rfl w6.heap.size 3 1 8 elemInt Try.underlying26 (.slice A2 (behind val pre).length c2) (behind val pre).length _ (by simp [Act.eval]) (hown5.alloc _) (some ⟨w5.heap.size, 0, none⟩) 1 1 [.int .i64 (val xs)] (by simp [Act.eval]) rfl (Rd.made w5 [.int .i64 (val xs)] 3) (by simp [Value.oneCell']) hbytes (by simp; omega) ?_
              intro v7 w7 hown7 hgrow7 hat7
              have hg7 := (Only.of_grown hgrow7).mono (S' := fun q => w6.heap.size ≤ q) fun q _ hq => (hown5.lt q hq.symm).1
              have h7w : Only (fun q => w6.heap.size ≤ q) W w7 := ((Only.of_ext (S := fun q => w6.heap.size ≤ q) hE5).trans (Only.of_ext (S := fun q => w6.heap.size ≤ q) hA5) fun _ _ h => h).trans hg7 fun _ _ h => h
              have hB7 := HBA.out.only h7w (fun q hq => by have := HB6.out.lt (by simp); simp; simp at this; omega)
              have hC7 := (h7w.block ps hps (by omega)).trans Hcs.out
              have h70 := hB7.lat (i := 0) rfl ⟨w7, Ext.rfl' w7⟩
              have h71 := hB7.lat (i := 1) rfl ⟨w7, Ext.rfl' w7⟩
              have h72 := cellOf (i := 2) hC7 rfl
              have h73 := freeOf hC7 2
              obtain ⟨A7, c7, rfl⟩ := own_form hown7
              refine hK.out _ _ ⟨h71, h70⟩ (fun hHeld => ?_)
              clear hK K
              refine wpAnyH_take (i := 10) (v := ?_) rfl (by kernel_rfl) (by kernel_rfl) (by kernel_rfl) (fun _ _ _ h => h) (Or.inl ⟨by rfl, ?hy9⟩) (by assumption) ?rest9
              case hy9 => (intro w hSw; (try dsimp only at hSw); go_simp; try with_reducible rfl)
              refine wpAnyH_take (i := 11) (v := ?_) rfl (by kernel_rfl) (by kernel_rfl) (by kernel_rfl) (fun _ _ _ h => h) (Or.inl ⟨by rfl, ?hy10⟩) (by assumption) ?rest10
              case hy10 => (intro w hSw; (try dsimp only at hSw); go_simp; try with_reducible rfl)
              refine wpAnyH_ready (rs := [12]) (by kernel_rfl) (by simp) ?_
              refine AllReadyH.cons rfl (fun K hK => ?_) ?_
              · go_simp
                refine hK.out _ _ ⟨(World.cell?_setCell_far _ _ _ _ (fun e => hne2 e.symm)).trans h71, (World.cell?_setCell_far _ _ _ _ (fun e => hne1 e.symm)).trans h70⟩ (fun hHeld => ?_)
                clear hK K
                refine wpAnyH_done (by kernel_rfl) ?_ _
                have hOs : Only (fun q => q = ps) w7 (w7.setCell ⟨ps, 2, none⟩ (.slice A7 ((behind val pre).length + 1) c7)) := (Only.refl _ _).setCell _ _ fun _ => rfl
                have hcv : (w7.setCell ⟨ps, 2, none⟩ (.slice A7 ((behind val pre).length + 1) c7)).heap[ps]? = some (.cells (contV v0 v1 (.slice A7 ((behind val pre).length + 1) c7) v3 v4) 38 (0, 0)) := heap_setCell_same _ _ _ _ _ _ hC7
                have hkv : KeepsFrom w6.heap.size W (w7.setCell ⟨ps, 2, none⟩ (.slice A7 ((behind val pre).length + 1) c7)) := (((keeps_lt (Only.of_ext (S := fun _ => False) hE5) fun _ h => h.elim).trans (keeps_lt (Only.of_ext (S := fun _ => False) hA5) fun _ h => h.elim)).trans (keeps_grown (hown5.alloc _) hgrow7)).trans (keeps_lt hOs fun q hq => by omega)
                have Hbe : Hid (behind val (pre ++ [(xs, xm)]) = behind val pre ++ [val xs]) := by
                  show _ = _
                  rw [behind_snoc, Hdu.out]
                  rfl
                have hov : (w7.setCell ⟨ps, 2, none⟩ (.slice A7 ((behind val pre).length + 1) c7)).ownsRow w6.heap.size 3 1 (.slice A7 ((behind val pre).length + 1) c7) (behind val (pre ++ [(xs, xm)])).length ((behind val (pre ++ [(xs, xm)])).map (Value.int .i64)) := by
                  rw [Hbe.out]
                  have := own_only hown7 hOs fun q hq h => by have := hown7.lt q hq; omega
                  simpa using this
                dsimp only [Exit.then]
                generalize w7.setCell ⟨ps, 2, none⟩ (.slice A7 ((behind val pre).length + 1) c7) = wv at hOs hcv hkv hov ⊢
                have h8 : Only (fun q => w6.heap.size ≤ q ∨ q = ps) W wv := (h7w.mono fun _ _ h => Or.inl h).trans hOs fun _ _ h => Or.inr h
                have hw7 := HQ6.out.lt (by simp)
                simp at hw7
                obtain ⟨du, hdu⟩ : ∃ du : Bool, du = false := ⟨_, rfl⟩
                obtain ⟨v2n, hv2⟩ : ∃ v, v = Value.slice A7 ((behind val pre).length + 1) c7 := ⟨_, rfl⟩
                rw [← hv2] at hcv hov
                have hBAv := HBA.out.only h8 (fun q hq => by simp; omega)
                have hBXv : Bx wv g2 [(.int .i64 ts, 3), (.bool tm, 4), (.int .i64 te, 27), (.bool du, 4), (.bool en, 4)] := by rw [hdu]; exact HBX.out.only h8 (fun q hq => by simp; omega)
                have honv := Hon.out.trans h8 (fun i hi h => by omega)
                have hWv := HWk.out.only h8 (by omega) (by omega) (fun bw off e => by have := HbA.out bw off e; have := HA.out bw off e; omega)
                have hbv := Hit.out.box.only h8 (by have := blk_lt HBx.out.b1; have := Hl.out; omega) (by have := blk_lt HBx.out.b2; have := Hl.out; omega) (by have := blk_lt HBx.out.b3; have := Hl.out; omega)
                clear hOs h8 hdu hv2 hown7 hgrow7 hat7 hg7 h7w hB7 hC7 h70 h71 h72 h73 hown5 hE5 hA5 h60 e5 h50 h51 h52 hHeld hW0 hW1 hW2 hbytes hbl hw7
                have HBAv := Lib.hid hBAv
                have HBXv := Lib.hid hBXv
                have Hcv := Lib.hid hcv
                have Hov := Lib.hid hov
                have Honv := Lib.hid honv
                have HWv := Lib.hid hWv
                have Hbv := Lib.hid hbv
                have Hkv := Lib.hid hkv
                clear hBAv hBXv hcv hov honv hWv hbv hkv
                obtain ⟨kv, hkw⟩ := lat_self wv
                have q3 : ∀ z : Lat wv, z.world.cell? ⟨g2 + 1 + 1 + 1, 0, none⟩ = some (.bool du) := HBXv.out.lat (i := 3) rfl
                have r3 : ∀ z : Lat wv, z.world.frozen? ⟨g2 + 1 + 1 + 1, 0, none⟩ = false := HBXv.out.free (i := 3) rfl
                rw [hkw]
                clear hkw
                gi_upto_region 8 with fail
                obtain ⟨hB7, hO7⟩ := (HBXv.out.ext kv.ok).set (i := 3) rfl (.bool false)
                have hB7 : Bx (kv.world.setCell ⟨g2 + 1 + 1 + 1, 0, none⟩ (.bool false)) g2 [(.int .i64 ts, 3), (.bool tm, 4), (.int .i64 te, 27), (.bool false, 4), (.bool en, 4)] := hB7
                have hO7 : Only (fun q => q = g2 + 3) kv.world (kv.world.setCell ⟨g2 + 1 + 1 + 1, 0, none⟩ (.bool false)) := hO7
                generalize kv.world.setCell ⟨g2 + 1 + 1 + 1, 0, none⟩ (.bool false) = wu at hB7 hO7 ⊢
                have HB7 := Lib.hid hB7
                have HO7 : Hid (Only (fun q => q = g2 + 3) wv wu) := (Only.of_ext kv.ok).trans hO7 fun _ _ h => h
                clear hB7 hO7 q3 r3
                have q0 : ∀ z : Lat wu, z.world.cell? ⟨g2, 0, none⟩ = some (.int .i64 ts) := HB7.out.lat (i := 0) rfl
                have q1 : ∀ z : Lat wu, z.world.cell? ⟨g2 + 1, 0, none⟩ = some (.bool tm) := HB7.out.lat (i := 1) rfl
                have q2 : ∀ z : Lat wu, z.world.cell? ⟨g2 + 1 + 1, 0, none⟩ = some (.int .i64 te) := HB7.out.lat (i := 2) rfl
                have q4 : ∀ z : Lat wu, z.world.cell? ⟨g2 + 1 + 1 + 1 + 1, 0, none⟩ = some (.bool en) := HB7.out.lat (i := 4) rfl
                have r4 : ∀ z : Lat wu, z.world.frozen? ⟨g2 + 1 + 1 + 1 + 1, 0, none⟩ = false := HB7.out.free (i := 4) rfl
                have Hfin : Hid (∀ (z : Lat wu) (q : Bool), q = namesOne t (pre ++ [(xs, xm)]) → rngPost w6.heap.size (QInv w g2 w6.heap.size b sb ps ts tm te t v0 v1 v3 v4 S val) (fun _ _ _ => False) (ChIt S wd_ false seen0 tot T R H Re Ca B A n c ws b sb bad x0 p1 p2 p3) pre (xs, xm) W .normal { tmps := #[], defers := [] } (z.world.setCell ⟨g2 + 1 + 1 + 1 + 1, 0, none⟩ (.bool q))) := fun z q hq => by
                  have hlt0 := Hlt.out
                  have hp0 := Hp.out
                  have hpl := Hpl.out
                  have hs1 := Hszq.out
                  have hs2 := HX6.out.size
                  have hg := Hgq.out
                  have hs3 := Honv.out.size
                  have hl0 := Hl.out
                  have hw6 := HB6.out.lt (by simp)
                  have hw7 := HQ6.out.lt (by simp)
                  simp at hw7
                  have hO : Only (fun q => q = g2 + 3) wv z.world := HO7.out.trans (Only.of_ext (S := fun _ => False) z.ok) fun _ _ h => h.elim
                  obtain ⟨hB8, hO8⟩ := (HB7.out.ext z.ok).set (i := 4) rfl (.bool q)
                  have hO8 : Only (fun q => q = g2 + 4) z.world (z.world.setCell ⟨g2 + 1 + 1 + 1 + 1, 0, none⟩ (.bool q)) := hO8
                  have hOa : Only (fun q => q = g2 + 3 ∨ q = g2 + 4) wv (z.world.setCell ⟨g2 + 1 + 1 + 1 + 1, 0, none⟩ (.bool q)) := (hO.mono fun _ _ h => Or.inl h).trans hO8 fun _ _ h => Or.inr h
                  refine ⟨Hkv.out.trans (keeps_lt hOa fun i hi => by omega), ⟨HBAv.out.only hOa fun i hi => by simp; omega, ?_, ⟨v2n, (hOa.block _ (blk_lt Hcv.out) (by omega)).trans Hcv.out, own_only Hov.out hOa fun i hi h => by have := Hov.out.lt i hi; omega⟩, ?_, ?_⟩, ⟨seen, HWv.out.only hOa (by omega) (by omega) (fun bw off e => by have := HbA.out bw off e; omega), Hch.out⟩, Hit.out.pos, Hit.out.lk, Hit.out.mark, Hbv.out.only hOa (by omega) (by omega) (by omega)⟩
                  · rw [show (pre ++ [(xs, xm)]).isEmpty = false by simp, ← hq]
                    exact hB8
                  · rw [List.length_append, List.length_singleton]; omega
                  · exact Honv.out.trans hOa fun i hi h => by omega
                rw [namesOne_snoc, Hen.out, Hts.out xs] at Hfin
                obtain ⟨ku, hku⟩ := lat_self wu
                rw [hku]
                clear hku
                cases en with
                | true =>
                  gi_wp2
                  rw [← Hk.out]
                  exact Hfin.out ku true (by simp)
                | false =>
                  rcases Hte.out with rfl | rfl
                  · cases tm with
                    | true =>
                      gi_wp2
                      rw [← Hk.out]
                      exact Hfin.out ku false (by simp)
                    | false =>
                      by_cases hxs : xs = ts
                      · have hxb : (xs == ts) = true := by simpa using hxs
                        have Hxs := Lib.hid hxs
                        clear hxs
                        gi_wp2
                        rw [← Hk.out]
                        exact Hfin.out ku true (by simp [Hxs.out])
                      · have hxb : (xs == ts) = false := by simpa using hxs
                        gi_wp2
                        rw [← Hk.out]
                        exact Hfin.out ku false (by simp [hxs])
                  · gi_wp2
                    rw [← Hk.out]
                    exact Hfin.out ku false (by simp)
              · exact AllReadyH.nil
            · exact AllReadyH.nil
          · exact AllReadyH.nil
        refine AllReadyH.cons rfl (fun K hK => ?_) ?_
        · go_simp
          refine hK.out _ _ ⟨(by simpa using (World.cell?_alloc_some _ _ _ (by rw [h51]; rfl)).trans h51), (World.cell?_alloc_some _ _ _ (by rw [h50]; rfl)).trans h50⟩ (fun hHeld => ?_)
          clear hK K
          refine wpAnyH_ready (rs := [4]) (by kernel_rfl) (by simp) ?_
          refine AllReadyH.cons rfl (fun K hK => ?_) ?_
          · have h62 := (World.cell?_alloc_some w5 ⟨ps, 2, none⟩ (.cells #[.int .i64 (val xs)] 3) (by rw [h52]; rfl)).trans h52
            go_simp
            refine hK.out _ _ hHeld (fun hHeld => ?_)
            clear hK K
            refine wpAnyH_ready (rs := [9]) (by kernel_rfl) (by simp) ?_
            refine AllReadyH.cons rfl (fun K hK => ?_) ?_
            · have hown5 := own_ext Hown.out hE5
              have hbase5 : w6.heap.size ≤ w5.heap.size := by have := hE5.size; omega
              refine step_appendR _ rfl (.tmp 29) (.tmp 33) 26 rfl w6.heap.size 3 1 8 elemInt Try.underlying26 (.slice A2 (behind val pre).length c2) (behind val pre).length _ (by simp [Act.eval]) (hown5.alloc _) (some ⟨w5.heap.size, 0, none⟩) 1 1 [.int .i64 (val xs)] (by simp [Act.eval]) rfl (Rd.made w5 [.int .i64 (val xs)] 3) (by simp [Value.oneCell']) hbytes (by simp; omega) ?_
              intro v7 w7 hown7 hgrow7 hat7
              have hg7 := (Only.of_grown hgrow7).mono (S' := fun q => w6.heap.size ≤ q) fun q _ hq => (hown5.lt q hq.symm).1
              have h7w : Only (fun q => w6.heap.size ≤ q) W w7 := ((Only.of_ext (S := fun q => w6.heap.size ≤ q) hE5).trans (Only.of_ext (S := fun q => w6.heap.size ≤ q) hA5) fun _ _ h => h).trans hg7 fun _ _ h => h
              have hB7 := HBA.out.only h7w (fun q hq => by have := HB6.out.lt (by simp); simp; simp at this; omega)
              have hC7 := (h7w.block ps hps (by omega)).trans Hcs.out
              have h70 := hB7.lat (i := 0) rfl ⟨w7, Ext.rfl' w7⟩
              have h71 := hB7.lat (i := 1) rfl ⟨w7, Ext.rfl' w7⟩
              have h72 := cellOf (i := 2) hC7 rfl
              have h73 := freeOf hC7 2
              obtain ⟨A7, c7, rfl⟩ := own_form hown7
              refine hK.out _ _ ⟨h71, h70⟩ (fun hHeld => ?_)
              clear hK K
              refine wpAnyH_take (i := 10) (v := ?_) rfl (by kernel_rfl) (by kernel_rfl) (by kernel_rfl) (fun _ _ _ h => h) (Or.inl ⟨by rfl, ?hy11⟩) (by assumption) ?rest11
              case hy11 => (intro w hSw; (try dsimp only at hSw); go_simp; try with_reducible rfl)
              refine wpAnyH_take (i := 11) (v := ?_) rfl (by kernel_rfl) (by kernel_rfl) (by kernel_rfl) (fun _ _ _ h => h) (Or.inl ⟨by rfl, ?hy12⟩) (by assumption) ?rest12
              case hy12 => (intro w hSw; (try dsimp only at hSw); go_simp; try with_reducible rfl)
              refine wpAnyH_ready (rs := [12]) (by kernel_rfl) (by simp) ?_
              refine AllReadyH.cons rfl (fun K hK => ?_) ?_
              · go_simp
                refine hK.out _ _ ⟨(World.cell?_setCell_far _ _ _ _ (fun e => hne2 e.symm)).trans h71, (World.cell?_setCell_far _ _ _ _ (fun e => hne1 e.symm)).trans h70⟩ (fun hHeld => ?_)
                clear hK K
                refine wpAnyH_done (by kernel_rfl) ?_ _
                have hOs : Only (fun q => q = ps) w7 (w7.setCell ⟨ps, 2, none⟩ (.slice A7 ((behind val pre).length + 1) c7)) := (Only.refl _ _).setCell _ _ fun _ => rfl
                have hcv : (w7.setCell ⟨ps, 2, none⟩ (.slice A7 ((behind val pre).length + 1) c7)).heap[ps]? = some (.cells (contV v0 v1 (.slice A7 ((behind val pre).length + 1) c7) v3 v4) 38 (0, 0)) := heap_setCell_same _ _ _ _ _ _ hC7
                have hkv : KeepsFrom w6.heap.size W (w7.setCell ⟨ps, 2, none⟩ (.slice A7 ((behind val pre).length + 1) c7)) := (((keeps_lt (Only.of_ext (S := fun _ => False) hE5) fun _ h => h.elim).trans (keeps_lt (Only.of_ext (S := fun _ => False) hA5) fun _ h => h.elim)).trans (keeps_grown (hown5.alloc _) hgrow7)).trans (keeps_lt hOs fun q hq => by omega)
                have Hbe : Hid (behind val (pre ++ [(xs, xm)]) = behind val pre ++ [val xs]) := by
                  show _ = _
                  rw [behind_snoc, Hdu.out]
                  rfl
                have hov : (w7.setCell ⟨ps, 2, none⟩ (.slice A7 ((behind val pre).length + 1) c7)).ownsRow w6.heap.size 3 1 (.slice A7 ((behind val pre).length + 1) c7) (behind val (pre ++ [(xs, xm)])).length ((behind val (pre ++ [(xs, xm)])).map (Value.int .i64)) := by
                  rw [Hbe.out]
                  have := own_only hown7 hOs fun q hq h => by have := hown7.lt q hq; omega
                  simpa using this
                dsimp only [Exit.then]
                generalize w7.setCell ⟨ps, 2, none⟩ (.slice A7 ((behind val pre).length + 1) c7) = wv at hOs hcv hkv hov ⊢
                have h8 : Only (fun q => w6.heap.size ≤ q ∨ q = ps) W wv := (h7w.mono fun _ _ h => Or.inl h).trans hOs fun _ _ h => Or.inr h
                have hw7 := HQ6.out.lt (by simp)
                simp at hw7
                obtain ⟨du, hdu⟩ : ∃ du : Bool, du = false := ⟨_, rfl⟩
                obtain ⟨v2n, hv2⟩ : ∃ v, v = Value.slice A7 ((behind val pre).length + 1) c7 := ⟨_, rfl⟩
                rw [← hv2] at hcv hov
                have hBAv := HBA.out.only h8 (fun q hq => by simp; omega)
                have hBXv : Bx wv g2 [(.int .i64 ts, 3), (.bool tm, 4), (.int .i64 te, 27), (.bool du, 4), (.bool en, 4)] := by rw [hdu]; exact HBX.out.only h8 (fun q hq => by simp; omega)
                have honv := Hon.out.trans h8 (fun i hi h => by omega)
                have hWv := HWk.out.only h8 (by omega) (by omega) (fun bw off e => by have := HbA.out bw off e; have := HA.out bw off e; omega)
                have hbv := Hit.out.box.only h8 (by have := blk_lt HBx.out.b1; have := Hl.out; omega) (by have := blk_lt HBx.out.b2; have := Hl.out; omega) (by have := blk_lt HBx.out.b3; have := Hl.out; omega)
                clear hOs h8 hdu hv2 hown7 hgrow7 hat7 hg7 h7w hB7 hC7 h70 h71 h72 h73 hown5 hE5 hA5 h60 e5 h50 h51 h52 hHeld hW0 hW1 hW2 hbytes hbl hw7
                have HBAv := Lib.hid hBAv
                have HBXv := Lib.hid hBXv
                have Hcv := Lib.hid hcv
                have Hov := Lib.hid hov
                have Honv := Lib.hid honv
                have HWv := Lib.hid hWv
                have Hbv := Lib.hid hbv
                have Hkv := Lib.hid hkv
                clear hBAv hBXv hcv hov honv hWv hbv hkv
                obtain ⟨kv, hkw⟩ := lat_self wv
                have q3 : ∀ z : Lat wv, z.world.cell? ⟨g2 + 1 + 1 + 1, 0, none⟩ = some (.bool du) := HBXv.out.lat (i := 3) rfl
                have r3 : ∀ z : Lat wv, z.world.frozen? ⟨g2 + 1 + 1 + 1, 0, none⟩ = false := HBXv.out.free (i := 3) rfl
                rw [hkw]
                clear hkw
                gi_upto_region 8 with fail
                obtain ⟨hB7, hO7⟩ := (HBXv.out.ext kv.ok).set (i := 3) rfl (.bool false)
                have hB7 : Bx (kv.world.setCell ⟨g2 + 1 + 1 + 1, 0, none⟩ (.bool false)) g2 [(.int .i64 ts, 3), (.bool tm, 4), (.int .i64 te, 27), (.bool false, 4), (.bool en, 4)] := hB7
                have hO7 : Only (fun q => q = g2 + 3) kv.world (kv.world.setCell ⟨g2 + 1 + 1 + 1, 0, none⟩ (.bool false)) := hO7
                generalize kv.world.setCell ⟨g2 + 1 + 1 + 1, 0, none⟩ (.bool false) = wu at hB7 hO7 ⊢
                have HB7 := Lib.hid hB7
                have HO7 : Hid (Only (fun q => q = g2 + 3) wv wu) := (Only.of_ext kv.ok).trans hO7 fun _ _ h => h
                clear hB7 hO7 q3 r3
                have q0 : ∀ z : Lat wu, z.world.cell? ⟨g2, 0, none⟩ = some (.int .i64 ts) := HB7.out.lat (i := 0) rfl
                have q1 : ∀ z : Lat wu, z.world.cell? ⟨g2 + 1, 0, none⟩ = some (.bool tm) := HB7.out.lat (i := 1) rfl
                have q2 : ∀ z : Lat wu, z.world.cell? ⟨g2 + 1 + 1, 0, none⟩ = some (.int .i64 te) := HB7.out.lat (i := 2) rfl
                have q4 : ∀ z : Lat wu, z.world.cell? ⟨g2 + 1 + 1 + 1 + 1, 0, none⟩ = some (.bool en) := HB7.out.lat (i := 4) rfl
                have r4 : ∀ z : Lat wu, z.world.frozen? ⟨g2 + 1 + 1 + 1 + 1, 0, none⟩ = false := HB7.out.free (i := 4) rfl
                have Hfin : Hid (∀ (z : Lat wu) (q : Bool), q = namesOne t (pre ++ [(xs, xm)]) → rngPost w6.heap.size (QInv w g2 w6.heap.size b sb ps ts tm te t v0 v1 v3 v4 S val) (fun _ _ _ => False) (ChIt S wd_ false seen0 tot T R H Re Ca B A n c ws b sb bad x0 p1 p2 p3) pre (xs, xm) W .normal { tmps := #[], defers := [] } (z.world.setCell ⟨g2 + 1 + 1 + 1 + 1, 0, none⟩ (.bool q))) := fun z q hq => by
                  have hlt0 := Hlt.out
                  have hp0 := Hp.out
                  have hpl := Hpl.out
                  have hs1 := Hszq.out
                  have hs2 := HX6.out.size
                  have hg := Hgq.out
                  have hs3 := Honv.out.size
                  have hl0 := Hl.out
                  have hw6 := HB6.out.lt (by simp)
                  have hw7 := HQ6.out.lt (by simp)
                  simp at hw7
                  have hO : Only (fun q => q = g2 + 3) wv z.world := HO7.out.trans (Only.of_ext (S := fun _ => False) z.ok) fun _ _ h => h.elim
                  obtain ⟨hB8, hO8⟩ := (HB7.out.ext z.ok).set (i := 4) rfl (.bool q)
                  have hO8 : Only (fun q => q = g2 + 4) z.world (z.world.setCell ⟨g2 + 1 + 1 + 1 + 1, 0, none⟩ (.bool q)) := hO8
                  have hOa : Only (fun q => q = g2 + 3 ∨ q = g2 + 4) wv (z.world.setCell ⟨g2 + 1 + 1 + 1 + 1, 0, none⟩ (.bool q)) := (hO.mono fun _ _ h => Or.inl h).trans hO8 fun _ _ h => Or.inr h
                  refine ⟨Hkv.out.trans (keeps_lt hOa fun i hi => by omega), ⟨HBAv.out.only hOa fun i hi => by simp; omega, ?_, ⟨v2n, (hOa.block _ (blk_lt Hcv.out) (by omega)).trans Hcv.out, own_only Hov.out hOa fun i hi h => by have := Hov.out.lt i hi; omega⟩, ?_, ?_⟩, ⟨seen, HWv.out.only hOa (by omega) (by omega) (fun bw off e => by have := HbA.out bw off e; omega), Hch.out⟩, Hit.out.pos, Hit.out.lk, Hit.out.mark, Hbv.out.only hOa (by omega) (by omega) (by omega)⟩
                  · rw [show (pre ++ [(xs, xm)]).isEmpty = false by simp, ← hq]
                    exact hB8
                  · rw [List.length_append, List.length_singleton]; omega
                  · exact Honv.out.trans hOa fun i hi h => by omega
                rw [namesOne_snoc, Hen.out, Hts.out xs] at Hfin
                obtain ⟨ku, hku⟩ := lat_self wu
                rw [hku]
                clear hku
                cases en with
                | true =>
                  gi_wp2
                  rw [← Hk.out]
                  exact Hfin.out ku true (by simp)
                | false =>
                  rcases Hte.out with rfl | rfl
                  · cases tm with
                    | true =>
                      gi_wp2
                      rw [← Hk.out]
                      exact Hfin.out ku false (by simp)
                    | false =>
                      by_cases hxs : xs = ts
                      · have hxb : (xs == ts) = true := by simpa using hxs
                        have Hxs := Lib.hid hxs
                        clear hxs
                        gi_wp2
                        rw [← Hk.out]
                        exact Hfin.out ku true (by simp [Hxs.out])
                      · have hxb : (xs == ts) = false := by simpa using hxs
                        gi_wp2
                        rw [← Hk.out]
                        exact Hfin.out ku false (by simp [hxs])
                  · gi_wp2
                    rw [← Hk.out]
                    exact Hfin.out ku false (by simp)
              · exact AllReadyH.nil
            · exact AllReadyH.nil
          · exact AllReadyH.nil
        · exact AllReadyH.nil
      · exact AllReadyH.nil
  case done =>
    rintro D xs W hD hs ⟨hba, hbx, ⟨v2, hcs, hown⟩, hlen, hon⟩ hdf
    obtain ⟨hxs, hW⟩ := hs
    have Hbd : Hid (bad || !tot.2.1) = Hid (bad || !tot.2.1) := rfl
    clear Hbd
    have HWd := Lib.hid hW
    have HBA := Lib.hid hba
    have HBX := Lib.hid hbx
    have Hcs := Lib.hid hcs
    have Hown := Lib.hid hown
    have Hon := Lib.hid hon
    clear hW hba hbx hcs hown hon
    have q0 : ∀ z : Lat W, z.world.cell? ⟨w.heap.size, 0, none⟩ = some (.pointer (some ⟨b, 0, none⟩)) := HBA.out.lat (i := 0) rfl
    have q4 : ∀ z : Lat W, z.world.cell? ⟨g2 + 1 + 1 + 1 + 1, 0, none⟩ = some (.bool (namesOne t xs)) := HBX.out.lat (i := 4) rfl
    have c9 : ∀ z : Lat W, z.world.cell? ⟨b, 9, none⟩ = some (.bool (bad || !tot.2.1)) := HWd.out.cells.2.2.2.2.2.2.2.2.2
    have f9 : ∀ z : Lat W, z.world.frozen? ⟨b, 9, none⟩ = false := Lat.free HWd.out.blk 9
    have Hpost : Hid (∀ (z : Lat W) (q : Bool) (wz : World), q = ((bad || !tot.2.1) || !namesOne t xs) → Rec w6.heap.size (z.world.setCell ⟨b, 9, none⟩ (.bool q)) wz → ∃ tot v2, tot = chainOf S wd_ false seen0 x0 ∧
      wz.heap[ps]? = some (.cells (contV v0 v1 v2 v3 v4) 38 (0, 0)) ∧ wz.ownsRow w.heap.size 3 1 v2 (behind val tot.1).length ((behind val tot.1).map (Value.int .i64)) ∧
      Only (fun q => q = sb ∨ q = b ∨ q = ps) w wz ∧ Walker wz T R H Re Ca S B A n c ws b sb tot.2.2 ((bad || !tot.2.1) || !namesOne t tot.1)) := fun z q wz hq hr => by
      have hlt0 := Hlt.out
      have hp0 := Hp.out
      have hpl := Hpl.out
      have hs2 := HX6.out.size
      have hO : Only (fun q => q = b) W (z.world.setCell ⟨b, 9, none⟩ (.bool q)) := (Only.of_ext z.ok).setCell _ _ fun _ => rfl
      have hW := (HWd.out.ext z.ok).flag q fun bw off e => (HA.out bw off e).2.1
      refine ⟨tot, v2, Htt.out, hr.cells ((hO.block _ (blk_lt Hcs.out) hp0.2).trans Hcs.out), ?_, ?_, ?_⟩
      · have := hr.own (own_only Hown.out hO fun i hi h => by have := Hown.out.lt i hi; omega)
        rw [hxs] at this
        exact own_base this hs2
      · exact (Hon.out.trans hO fun i hi h => by simp [h]).trans hr.only fun i hi h => by omega
      · rw [← hxs, ← hq]
        exact hW.byRec hr (by omega) (by omega) fun bw off e => by have := HbA.out bw off e; omega
    generalize (bad || !tot.2.1) = bd at c9 Hpost
    generalize namesOne t xs = en at q4 Hpost
    have Hxs := Lib.hid hxs
    obtain ⟨k, hk⟩ := lat_self W
    have hdk : k.world.heap[D]? = some (.deferred (some [])) := hk ▸ hdf
    have Hdk := Lib.hid hdk
    have hDb : D ≠ b := by have := Hlt.out; have := HX6.out.size; omega
    have HDb := Lib.hid hDb
    have HdW := Lib.hid hdf
    rw [hk]
    clear hk hdf hdk hDb hxs
    dsimp only [Exit.inBlock, Exit.then]
    cases bd
    all_goals
      cases en
      all_goals
        go_upto_region 9 with fail
        refine wp_region_cls_tail (Ext W) 11 (Ext.drew1 k.ok) (by kernel_rfl) (by kernel_rfl) ?_
        simp only [List.take_succ_cons, List.take_zero, List.drop_succ_cons, List.drop_zero]
        repeat (go_big_quiet_step (fail))
        refine wpQuiet_nil ?_
        rintro _ ⟨kz, rfl⟩
        go_wp2_with fail
        have hdf2 : ∀ q : Value, (kz.world.setCell ⟨b, 9, none⟩ q).heap[D]? = some (.deferred (some [])) := fun q => by
          rw [Below.heap_setCell _ _ _ _ HDb.out]
          exact ext_blk kz.ok HdW.out
        refine ⟨by simp, .inl ⟨_, _, rfl, run_takeDeferred (hdf2 _), ?_⟩⟩
        exact ⟨_, results_none rfl _ _ _, rfl, Hpost.out kz _ _ (by rfl) (Rec.mk (B := w6.heap.size) hD (hdf2 _) rfl (.deferred none))⟩
  case stop => exact fun _ _ _ _ _ h => h.elim
end Go.Proofs.Ytfbacopjookplaa
