/- The walk of look: all monitors over all moments of a run. -/
import Derived.Test.YtfbacopjookplaaFaultLaw
import Derived.Test.YtfbacopjookplaaMomW
namespace Go.Proofs.Ytfbacopjookplaa
open Go.RowKit

theorem WMine.back {b p g1 g2 N : Nat} {vh vf vf1 : Value} {q : Nat} (h : WMine b p g1 g2 vh vf1 q) (hv : ∀ q, vf1.ownBlock = some q → vf.ownBlock = some q ∨ N ≤ q) (hlt : q < N) : WMine b p g1 g2 vh vf q := by
  rcases h with h | h | h | h | h | h
  · exact .inl h
  · exact .inr (.inl h)
  · exact .inr (.inr (.inl h))
  · exact .inr (.inr (.inr (.inl h)))
  · exact .inr (.inr (.inr (.inr (.inl h))))
  · rcases hv q h with h1 | h1
    · exact .inr (.inr (.inr (.inr (.inr h1))))
    · omega
theorem WMine.fore {b p g1 g2 N : Nat} {vh vf vf1 : Value} {q : Nat} (h : WMine b p g1 g2 vh vf1 q) (hv : ∀ q, vf1.ownBlock = some q → vf.ownBlock = some q ∨ N ≤ q) : WMine b p g1 g2 vh vf q ∨ N ≤ q := by
  by_cases hq : q < N
  · exact .inl (h.back hv hq)
  · exact .inr (by omega)
theorem bd_afterS : ∀ (xs : List Sh) (st : List Int), (∀ y ∈ st, 0 ≤ y ∧ y ≤ 5) → (∀ x ∈ xs, 0 ≤ x.to ∧ x.to ≤ 5) → ∀ y ∈ afterS st xs, 0 ≤ y ∧ y ≤ 5
  | [], _, h, _ => h
  | x :: xs, st, h, hx => bd_afterS xs (putS x st) (bd_putS h (hx x List.mem_cons_self).1 (hx x List.mem_cons_self).2) fun y hy => hx y (List.mem_cons_of_mem _ hy)
theorem stage_none (R H S Bk fi : Int) (s : CS) (mv : Int) (sh : List Sh) : stageF R H S Bk fi s mv sh none 1 = s ∧ stageF R H S Bk fi s mv sh none 2 = s := by
  cases s
  constructor <;> simp [stageF]
theorem Wch.base {w : World} {B B' b p g1 c1 g2 c2 n : Nat} {cf : List Value} {v8 vh : Value} {fi : Int} {vf : Value} {st ho : List Int} {hd : List (Int × Bool)} {fl : List Fl} {P C : List Int} (h : Wch w B b p g1 c1 g2 c2 n cf v8 vh fi vf st ho hd fl P C) (hB : B' ≤ B) : Wch w B' b p g1 c1 g2 c2 n cf v8 vh fi vf st ho hd fl P C :=
  ⟨h.wat, ⟨h.slo.blk, own_base h.slo.own1 hB, own_base h.slo.own2 hB, Nat.le_trans hB h.slo.low⟩, own_base h.hol hB, own_base h.fau hB, h.lcf, h.lp, h.lc, Nat.le_trans hB h.low⟩
theorem Wch.then_ {w12 wB : World} {B b p g1 c1 g2 c2 n h1 e1 h2 e2 : Nat} {cf : List Value} {v8 vh : Value} {fi : Int} {vf : Value} {st ho : List Int} {hd : List (Int × Bool)} {fl : List Fl} {P C : List Int} (h : Wch w12 B b p g1 c1 g2 c2 n cf v8 vh fi vf st ho hd fl P C) (e : Ext w12 wB)
    (o1 : wB.ownsRow w12.heap.size 76 1 (.slice (some ⟨h1, 0, none⟩) n e1) n (st.map (Value.int .i64))) (o2 : wB.ownsRow w12.heap.size 3 1 (.slice (some ⟨h2, 0, none⟩) n e2) n (ho.map (Value.int .i64))) :
    Wch ((wB.alloc (.cells #[.slice (some ⟨h1, 0, none⟩) n e1, .slice (some ⟨h2, 0, none⟩) n e2] 139)).setCell ⟨b, 8, none⟩ (.pointer (some ⟨wB.heap.size, 0, none⟩))) B b p g1 c1 g2 c2 n cf (.pointer (some ⟨wB.heap.size, 0, none⟩)) vh fi vf st ho hd fl P C ∧
      SlotsObj ((wB.alloc (.cells #[.slice (some ⟨h1, 0, none⟩) n e1, .slice (some ⟨h2, 0, none⟩) n e2] 139)).setCell ⟨b, 8, none⟩ (.pointer (some ⟨wB.heap.size, 0, none⟩))) w12.heap.size wB.heap.size h1 e1 h2 e2 n st ho ∧
      Only (fun q => q = b) w12 ((wB.alloc (.cells #[.slice (some ⟨h1, 0, none⟩) n e1, .slice (some ⟨h2, 0, none⟩) n e2] 139)).setCell ⟨b, 8, none⟩ (.pointer (some ⟨wB.heap.size, 0, none⟩))) := by
  have ea := (Ext.rfl' wB).alloc1 (.cells #[.slice (some ⟨h1, 0, none⟩) n e1, .slice (some ⟨h2, 0, none⟩) n e2] 139)
  have hA := h.ext (Ext.next e ea)
  obtain ⟨hw, o⟩ := hA.wat.set_front 8 (by omega) (.pointer (some ⟨wB.heap.size, 0, none⟩))
  have hb := blk_lt h.wat.blk
  have hsz := e.size
  have hS : SlotsObj (wB.alloc (.cells #[.slice (some ⟨h1, 0, none⟩) n e1, .slice (some ⟨h2, 0, none⟩) n e2] 139)) w12.heap.size wB.heap.size h1 e1 h2 e2 n st ho := ⟨heap_alloc_new wB _, own_ext o1 ea, own_ext o2 ea, hsz⟩
  have l1 := (o1.lt h1 rfl).1
  have l2 := (o2.lt h2 rfl).1
  obtain ⟨n1, n2, n3, nh, nf⟩ := hA.nes
  refine ⟨⟨?_, hA.slo.only o (fun e => n1 e.symm) (fun e => n2 e.symm) (fun e => n3 e.symm), own_only hA.hol o fun q hq e => (nh q hq).1 e, own_only hA.fau o fun q hq e => (nf q hq).1 e, h.lcf, h.lp, h.lc, h.low⟩, hS.only o (by omega) (by omega) (by omega), (Only.of_ext (S := fun q => q = b) (Ext.next e ea)).trans o fun _ _ hq => hq⟩
  have hfw : (frW cf p v8 vh fi vf).set 8 (.pointer (some ⟨wB.heap.size, 0, none⟩)) = frW cf p (.pointer (some ⟨wB.heap.size, 0, none⟩)) vh fi vf := by
    have hl := h.lcf
    match cf, hl with
    | [a0, a1, a2, a3, a4, a5, a6], _ => rfl
  rw [← hfw]
  exact hw
/-- What look leaves. -/
def WatchOut (w : World) (R H S Bk : Int) (n u m : Nat) (tr : List Ac) (sh : List Sh) (e : Ending) (w' : World) : Prop :=
  ∃ (b p g1 c1 g2 c2 : Nat) (cf : List Value) (v8 vh vf : Value) (s : CS) (l : List Mo), e = .returned (.pointer (some ⟨b, 0, none⟩)) ∧ MInv tr sh tr.length sh.length l ∧ s = watchF R H S Bk (sumOf R H S Bk 8) n u m tr l ∧
    Wch w' w.heap.size b p g1 c1 g2 c2 n cf v8 vh (sumOf R H S Bk 8) vf s.st s.ho s.hd s.fl s.P s.C ∧ Ext w w'

set_option maxRecDepth 100000 in
set_option maxHeartbeats 8000000 in
theorem watch_any (T R H Re Ca S Bk : Int) (hok : Okay T R H Re Ca S Bk) (n u m : Nat) (hn : S = (n : Int)) (hmul : R * H = (m : Int)) (A1 : Option Addr) (n1 c1 : Nat) (A2 : Option Addr) (n2 c2 : Nat) (A3 : Option Addr) (n3 c3 : Nat) (A4 : Option Addr) (n4 c4 : Nat) (tr : List Ac) (sh : List Sh) (w : World)
    (h2 : Arr Ac.enc w A2 n2 tr) (h3 : Arr Sh.enc w A3 n3 sh) (hT : RiseA tr) (hS : RiseS sh) (b23 : n2 + n3 ≤ 1048576)
    (htr : ∀ a ∈ tr, 0 ≤ a.ad ∧ a.ad < sumOf R H S Bk 13 ∧ 0 ≤ a.nw ∧ a.nw ≤ 18446744073709551615) (hsh : ∀ x ∈ sh, 0 ≤ x.sl ∧ x.sl < S ∧ 0 ≤ x.fr ∧ x.fr ≤ 5 ∧ 0 ≤ x.to ∧ x.to ≤ 5) :
    Calls Try.prog 82 #[.agg #[.int .i64 T, .int .i64 R, .int .i64 H, .int .i64 Re, .int .i64 Ca, .int .i64 S, .int .i64 Bk], .int .i64 u, .agg #[.slice A1 n1 c1, .slice A2 n2 c2, .slice A3 n3 c3, .slice A4 n4 c4]] w (WatchOut w R H S Bk n u m tr sh) := by
  have H2 := Lib.hid h2
  have H3 := Lib.hid h3
  have HT := Lib.hid hT
  have HS := Lib.hid hS
  have Htr := Lib.hid htr
  have Hsh := Lib.hid hsh
  have Hok := Lib.hid hok
  have Hn := Lib.hid hn
  have Hmul := Lib.hid hmul
  have hok' := hok
  unfold Okay at hok'
  obtain ⟨_, _, hR, hR', hH, hH', _, _, _, _, hS1, hS1', hB1, hB1'⟩ := hok'
  have hm3 : 1 * 3 ≤ R * H := Int.mul_le_mul (by omega) (by omega) (by omega) (by omega)
  have hm4 : R * H ≤ 16 * 8 := Int.mul_le_mul hR' hH' (by omega) (by omega)
  have hmm : 3 ≤ m ∧ m ≤ 128 := by omega
  obtain ⟨hmm1, hmm2⟩ := hmm
  have hmany := (manyOf_bd R H S Bk 9 hR hR' hH hH' hS1 hS1' hB1 hB1').1
  have Hmany := Lib.hid hmany
  have hsb := sumOf_bd R H S Bk hR hR' hH hH' hS1 hS1' hB1 hB1' 8
  have hs13 := sumOf_bd R H S Bk hR hR' hH hH' hS1 hS1' hB1 hB1' 13
  have Hsb8 : Hid (0 ≤ sumOf R H S Bk 8 ∧ sumOf R H S Bk 8 ≤ 100000) := ⟨by have := hsb.1; omega, by have := hsb.2; omega⟩
  have Hs13 : Hid (sumOf R H S Bk 13 ≤ 100000) := by have := hs13.2; show _ ≤ _; omega
  clear hs13
  have hn1 : 1 ≤ n := by omega
  have hn2 : n ≤ 1024 := by omega
  clear h2 h3 hT hS htr hsh hok hm3 hm4 hmany hn hmul
  go_enter Try.func82, Try.ntmps82
  go_upto_region 1 with fail
  obtain ⟨w0, hw0, hC, hR0, hE, hlt0⟩ := enter2 w (.cells (cfgV T R H Re Ca S Bk) 23) (.cells #[.slice A1 n1 c1, .slice A2 n2 c2, .slice A3 n3 c3, .slice A4 n4 c4] 48)
  rw [hw0]
  have HE := Lib.hid hE
  have HC := Lib.hid hC
  have HR := Lib.hid hR0
  obtain ⟨d0, d1, d2, d3, d4, d5, d6⟩ := Lat.cfg hC
  have hbg := fun c : Lat w0 => begin_any T R H Re Ca S Bk n Hn.out hn1 hn2 u c.world
  obtain ⟨k0, hk0⟩ := lat_self w0
  rw [hk0]
  clear hw0 hC hR0 hE hk0 hlt0
  generalize hpc : w.heap.size = pc at *
  go_cut [7] (fun s7 wx => ∃ b p g1 ca g2 cb, s7 = .pointer (some ⟨b, 0, none⟩) ∧ Hid (WObj wx b (frW [.int .i64 T, .int .i64 R, .int .i64 H, .int .i64 Re, .int .i64 Ca, .int .i64 S, .int .i64 Bk] p (.pointer none) (.slice none 0 0) 0 (.slice none 0 0)) (P0 ++ C0)) ∧ Hid (SlotsObj wx w0.heap.size p g1 ca g2 cb n (beginS n u) (List.replicate n (-1))) ∧ w0.heap.size ≤ b ∧ Hid (Ext w0 wx))
  case first =>
    have hkE : ∀ w', Ext w0 w' → w'.cell? ⟨pc, 0, none⟩ = some (.int .i64 T) ∧ w'.cell? ⟨pc, 1, none⟩ = some (.int .i64 R) ∧ w'.cell? ⟨pc, 2, none⟩ = some (.int .i64 H) ∧ w'.cell? ⟨pc, 3, none⟩ = some (.int .i64 Re) ∧ w'.cell? ⟨pc, 4, none⟩ = some (.int .i64 Ca) ∧ w'.cell? ⟨pc, 5, none⟩ = some (.int .i64 S) ∧ w'.cell? ⟨pc, 6, none⟩ = some (.int .i64 Bk) := fun w' ee => ⟨d0 ⟨_, ee⟩, d1 ⟨_, ee⟩, d2 ⟨_, ee⟩, d3 ⟨_, ee⟩, d4 ⟨_, ee⟩, d5 ⟨_, ee⟩, d6 ⟨_, ee⟩⟩
    have hE0 := k0.ok.drew1
    have hb0 : ∀ w', Ext w0 w' → Calls Try.prog 72 #[(.agg #[.int .i64 T, .int .i64 R, .int .i64 H, .int .i64 Re, .int .i64 Ca, .int .i64 S, .int .i64 Bk]), .int .i64 u] w' (BeginOut w' n u) := fun w' ee => hbg ⟨w', ee⟩
    clear d0 d1 d2 d3 d4 d5 d6
    go_region_held3 (fun w' => w'.cell? ⟨pc, 0, none⟩ = some (.int .i64 T) ∧ w'.cell? ⟨pc, 1, none⟩ = some (.int .i64 R) ∧ w'.cell? ⟨pc, 2, none⟩ = some (.int .i64 H) ∧ w'.cell? ⟨pc, 3, none⟩ = some (.int .i64 Re) ∧ w'.cell? ⟨pc, 4, none⟩ = some (.int .i64 Ca) ∧ w'.cell? ⟨pc, 5, none⟩ = some (.int .i64 S) ∧ w'.cell? ⟨pc, 6, none⟩ = some (.int .i64 Bk))
      (first | with_reducible exact hkE _ hE0 | with_reducible exact hkE _ hE2 | with_reducible exact hkE _ (hE2.alloc1 _))
      (first | ((with_reducible refine (hb0 _ hE0).mono ?_); rintro e w2 ⟨p, g1, c1, g2, c2, rfl, hS, e2⟩; have hE2 := Ext.next hE0 e2))
    all_goals
      go_wp2_with fail
      go_meet
      case rel =>
        have hE3 := (Ext.rfl' w2).alloc1 (.cells ((frW [.int .i64 T, .int .i64 R, .int .i64 H, .int .i64 Re, .int .i64 Ca, .int .i64 S, .int .i64 Bk] p (.pointer none) (.slice none 0 0) 0 (.slice none 0 0)) ++ (P0 ++ C0).map (Value.int .i64)).toArray 155)
        exact ⟨_, p, g1, c1, g2, c2, rfl, ⟨rfl, rfl, heap_alloc_new w2 _⟩, ⟨ext_blk hE3 hS.blk, own_base (own_ext hS.own1 hE3) k0.ok.size, own_base (own_ext hS.own2 hE3) k0.ok.size, Nat.le_trans k0.ok.size hS.low⟩, Nat.le_trans k0.ok.size e2.size, Ext.next (Ext.next hE0 e2) hE3⟩
  obtain ⟨b, p, g1, ca, g2, cb, rfl, HW, HSl, hb, HX⟩ := hcut
  clear k0 hbg d0 d1 d2 d3 d4 d5 d6
  obtain ⟨d0, d1, d2, d3, d4, d5, d6⟩ := Lat.cfg (ext_blk HX.out HC.out)
  obtain ⟨k1, hk1⟩ := lat_self wc
  rw [hk1]
  clear hk1
  go_wp2_with fail
  refine (addr_any T R H Re Ca S Bk Hok.out 8 9 0 rfl (by omega) (by omega) (by have := Hmany.out; omega) (fun _ => rfl) _).mono ?_
  rintro e w2 ⟨rfl, e2⟩
  obtain ⟨k2, rfl⟩ := lat_next k1 e2
  clear e2
  rw [Int.add_zero]
  generalize hfi : sumOf R H S Bk 8 = a at *
  have q10 : ∀ c : Lat wc, c.world.cell? ⟨b, 10, none⟩ = some (.int .i64 0) := HW.out.cell rfl
  have f10 := HW.out.free 10
  go_upto_region 3 with fail
  obtain ⟨hw3, o3⟩ := (HW.out.ext k2.ok).set_front 10 (by omega) (.int .i64 a)
  have HW3 : Hid (WObj (k2.world.setCell ⟨b, 10, none⟩ (.int .i64 a)) b (frW [.int .i64 T, .int .i64 R, .int .i64 H, .int .i64 Re, .int .i64 Ca, .int .i64 S, .int .i64 Bk] p (.pointer none) (.slice none 0 0) a (.slice none 0 0)) (P0 ++ C0)) := hw3
  have HS3 := Lib.hid ((HSl.out.ext k2.ok).only o3 (fun e => blk_two HW.out.blk HSl.out.blk (by decide) e.symm) (fun e => own_apart HSl.out.own1 HW.out.blk (by decide) (by rw [← e]; rfl)) (fun e => own_apart HSl.out.own2 HW.out.blk (by decide) (by rw [← e]; rfl)))
  have HX3 := Lib.hid ((Ext.next HX.out k2.ok).only o3 fun q hq => by rw [hq]; exact hb)
  have HC3 : Hid (_ = _) := ext_blk HX3.out HC.out
  clear hw3 o3 q10 f10 d0 d1 d2 d3 d4 d5 d6 HW HSl
  generalize k2.world.setCell ⟨b, 10, none⟩ (.int .i64 a) = w3 at *
  obtain ⟨d0, d1, d2, d3, d4, d5, d6⟩ := Lat.cfg HC3.out
  obtain ⟨k3, hk3⟩ := lat_self w3
  rw [hk3]
  have hmul := Hmul.out
  go_upto_region 4 with fail
  rw [← hk3]
  clear hmul
  clear hk3 k3 d0 d1 d2 d3 d4 d5 d6 k2 k1 HX
  go_loopw [35] (fun s35 wr => ∃ (i : Nat) (v : Value), i ≤ m ∧ s35 = .int .i64 i ∧ Hid (WObj wr b (frW [.int .i64 T, .int .i64 R, .int .i64 H, .int .i64 Re, .int .i64 Ca, .int .i64 S, .int .i64 Bk] p (.pointer none) v a (.slice none 0 0)) (P0 ++ C0)) ∧ Hid (SlotsObj wr w0.heap.size p g1 ca g2 cb n (beginS n u) (List.replicate n (-1))) ∧ Hid (wr.ownsRow w0.heap.size 182 2 v i ((List.replicate i ((-1 : Int), false)).flatMap encH)) ∧ Hid (Ext w0 wr)) (fun s _ => m - (intOf s).toNat)
  case atStart => exact ⟨0, .slice none 0 0, by omega, rfl, HW3, HS3, World.ownsRow_nil _ _ _ _, HX3⟩
  case round =>
    clear HW3 HS3 HX3 HC3
    obtain ⟨i, v, hi, rfl, HW, HSl, HH, HX⟩ := hrel
    have q9 : ∀ c : Lat wr, c.world.cell? ⟨b, 9, none⟩ = some v := HW.out.cell rfl
    by_cases hlt : i < m
    · have h1 : (i : Int) < (m : Int) := by omega
      obtain ⟨k, hk⟩ := lat_self wr
      rw [hk]
      have hWk := HW.out.ext k.ok
      have hHk := own_ext HH.out k.ok
      have hsz := Nat.le_trans HX.out.size k.size
      clear hk
      go_upto_region 6 with (at_builtin; refine wpList_push _ rfl _ _ 152 rfl w0.heap.size 182 2 16 elemHold Try.underlying152 _ _ _ rfl hHk _ rfl rfl (by simp [Value.oneCell']) (by omega) hsz ?_; intro v5 w5 hown5 hgrow5 hat5; have o5 := Only.of_grown hgrow5; have hw5 := hWk.only o5 (fun e => own_apart hHk hWk.blk (by decide) e.symm); have hc5 : w5.cell? ⟨b, 9, none⟩ = some v := hw5.cell rfl ⟨w5, Ext.rfl' _⟩; have hf5 := hw5.free 9 ⟨w5, Ext.rfl' _⟩; simp only at hf5; obtain ⟨g5, cc5, rfl, _, hg5, _⟩ := own_form1 hown5 (by omega))
      obtain ⟨hw6, o6⟩ := hw5.set_front 9 (by omega) (.slice (some ⟨g5, 0, none⟩) (i + 1) cc5)
      have hh6 := own_only hown5 o6 fun q hq e => own_apart hown5 hw5.blk (by decide) (by rw [hq, e])
      have hs5 := (HSl.out.ext k.ok).only o5 (fun e => own_apart hHk (HSl.out.ext k.ok).blk (by decide) e.symm) (fun e => own_two (HSl.out.ext k.ok).own1 hHk (by decide) g1 rfl e.symm) (fun e => own_two (HSl.out.ext k.ok).own2 hHk (by decide) g2 rfl e.symm)
      have hs6 := hs5.only o6 (fun e => blk_two hw5.blk hs5.blk (by decide) e.symm) (fun e => own_apart hs5.own1 hw5.blk (by decide) (by rw [← e]; rfl)) (fun e => own_apart hs5.own2 hw5.blk (by decide) (by rw [← e]; rfl))
      have hx6 := ((Ext.next HX.out k.ok).only o5 fun q hq => (hHk.lt q hq.symm).1).only o6 fun q hq => by rw [hq]; exact hb
      have hw6' : Hid (WObj (w5.setCell ⟨b, 9, none⟩ (.slice (some ⟨g5, 0, none⟩) (i + 1) cc5)) b (frW [.int .i64 T, .int .i64 R, .int .i64 H, .int .i64 Re, .int .i64 Ca, .int .i64 S, .int .i64 Bk] p (.pointer none) (.slice (some ⟨g5, 0, none⟩) (i + 1) cc5) a (.slice none 0 0)) (P0 ++ C0)) := hw6
      have hh7 : Hid ((w5.setCell ⟨b, 9, none⟩ (.slice (some ⟨g5, 0, none⟩) (i + 1) cc5)).ownsRow w0.heap.size 182 2 (.slice (some ⟨g5, 0, none⟩) (i + 1) cc5) (i + 1) ((List.replicate (i + 1) ((-1 : Int), false)).flatMap encH)) := by
        rw [← replicate_flat]
        exact hh6
      have hs7 := Lib.hid hs6
      have hx7 := Lib.hid hx6
      clear hw6 o6 hh6 hs5 hs6 hx6 hown5 hgrow5 hat5 o5 hw5 hc5 hf5 hWk hHk hsz q9
      go_wp2_with fail
      go_roundw
      case rel => exact ⟨i + 1, _, by omega, by go_num, hw6', hs7, hh7, hx7⟩
      case measure => simp [intOf]; omega
    · obtain rfl : m = i := by omega
      obtain ⟨gh, ch, rfl, _, hgh, _⟩ := own_form1 HH.out (by omega)
      obtain ⟨k, hk⟩ := lat_self wr
      rw [hk]
      have HA : Hid (Wch k.world w0.heap.size b p g1 ca g2 cb n [.int .i64 T, .int .i64 R, .int .i64 H, .int .i64 Re, .int .i64 Ca, .int .i64 S, .int .i64 Bk] (.pointer none) (.slice (some ⟨gh, 0, none⟩) m ch) a (.slice none 0 0) (beginS n u) (List.replicate n (-1)) (List.replicate m (-1, false)) [] P0 C0) := ⟨HW.out.ext k.ok, HSl.out.ext k.ok, by rw [List.length_replicate]; exact own_ext HH.out k.ok, World.ownsRow_nil _ _ _ _, rfl, rfl, rfl, hb⟩
      have HXk := Lib.hid (Ext.next HX.out k.ok)
      clear hk q9
      go_wp2_with fail
      refine (count_all w0.heap.size b p g1 ca g2 cb n _ P0 C0 (beginS n u) _ _ rfl rfl HA.out.wat rfl HA.out.slo (bd_beginS n u) hn2 ⟨HA.out.nes.1, HA.out.nes.2.1, HA.out.nes.2.2.1⟩).mono ?_
      rintro e w9 ⟨rfl, hW9, o9⟩
      have HA9 := Lib.hid (HA.out.counted hW9 o9)
      have HX9 := Lib.hid (HXk.out.only o9 fun q hq => by rw [hq]; exact hb)
      have HR9 := Lib.hid (ext_blk HX9.out HR.out)
      clear hW9 o9 hgh
      obtain ⟨r0, r1, r2, r3⟩ := Lat.run HR9.out
      obtain ⟨k9, hk9⟩ := lat_self w9
      rw [hk9]
      clear hk9
      go_upto_region 9 with fail
      obtain ⟨w10, hw10, hF, hE10, _⟩ := enter1 k9.world (.cells #[.func (.func 116) #[] #[], .func (.func 117) #[] #[], .func (.func 118) #[] #[]] 184)
      rw [hw10]
      clear r0 r1 r2 r3
      have HX10 := Lib.hid (Ext.next k9.ok hE10)
      have HA10 := Lib.hid (HA9.out.ext HX10.out)
      have HF10 := Lib.hid hF
      have hpf9 : w9.heap.size ≤ k9.world.heap.size := Lat.size k9
      generalize k9.world.heap.size = pf at *
      obtain ⟨r0, r1, r2, r3⟩ := Lat.run (ext_blk HX10.out HR9.out)
      obtain ⟨k10, hk10⟩ := lat_self w10
      rw [hk10]
      clear hw10 hF hE10 hk10
      go_wp2_with fail
      have hx10 := Ext.next HE.out (Ext.next HX9.out (Ext.next HX10.out k10.ok))
      refine (moments_any A1 n1 c1 A2 n2 c2 A3 n3 c3 A4 n4 c4 tr sh _ (H2.out.ext hx10) (H3.out.ext hx10) HT.out HS.out (by omega) (by omega)).mono ?_
      rintro e w11 ⟨v11, ms, rfl, hm1, hm2, e11⟩
      have HI := Lib.hid hm2
      obtain ⟨M0, hM0⟩ : ∃ M0, k10.world.heap.size = M0 := ⟨_, rfl⟩
      rw [hM0] at hm1
      have hp10 : pf < M0 := by
        have h1 := blk_lt HF10.out
        have h2 := Lat.size k10
        omega
      have HA11 := Lib.hid (HA10.out.ext (Ext.next k10.ok e11))
      have HF11 := Lib.hid (ext_blk (Ext.next k10.ok e11) HF10.out)
      have HX11 := Lib.hid (Ext.next HX9.out (Ext.next HX10.out (Ext.next k10.ok e11)))
      have HMs := Lib.hid hm1
      have HZ : Hid (∀ q, WMine b p g1 g2 (.slice (some ⟨gh, 0, none⟩) m ch) (.slice none 0 0) q → q < pf ∨ w11.heap.size ≤ q) := fun q hq => .inl (Nat.lt_of_lt_of_le (HA9.out.lt hq).2 hpf9)
      obtain ⟨Am, cm, hv11⟩ : ∃ Am cm, v11 = .slice Am ms.length cm := by
        rcases hm1.row.2 with ⟨h1, h0⟩ | ⟨g, cap, cur, hv, _⟩
        · exact ⟨none, 0, by rw [h1, h0]⟩
        · exact ⟨_, _, hv⟩
      subst hv11
      have Hx10 := Lib.hid (Ext.next hx10 e11)
      have H21 := Lib.hid (H2.out.ext Hx10.out)
      have H31 := Lib.hid (H3.out.ext Hx10.out)
      have hlen : ms.length ≤ 1048576 := by
        have h1 := hm2.len
        have h2 := H21.out.1
        have h3 := H31.out.1
        rw [List.length_map] at h1
        omega
      clear hm1 hm2 e11 r0 r1 r2 r3 HA10 HF10 HX10 HA9 HX9 HR9 hM0 hx10 hpf9 k10
      go_wp2_with fail
      go_loopw [54] (fun s54 wr => ∃ (i : Nat) (s : CS) (v8 vf : Value), i ≤ ms.length ∧ s54 = .int .i64 i ∧ Hid (s = ((ms.map Prod.fst).take i).foldl (momentF R H S Bk a tr) (startF n u m)) ∧ Hid (Wch wr w0.heap.size b p g1 ca g2 cb n [.int .i64 T, .int .i64 R, .int .i64 H, .int .i64 Re, .int .i64 Ca, .int .i64 S, .int .i64 Bk] v8 (.slice (some ⟨gh, 0, none⟩) m ch) a vf s.st s.ho s.hd s.fl s.P s.C) ∧ Hid (Ext w0 wr) ∧ Hid (Only (fun q => q < pf ∨ w11.heap.size ≤ q) w11 wr) ∧
        Hid (∀ q, WMine b p g1 g2 (.slice (some ⟨gh, 0, none⟩) m ch) vf q → q < pf ∨ w11.heap.size ≤ q) ∧ Hid (s.hd.length = m) ∧ Hid (∀ y ∈ s.st, 0 ≤ y ∧ y ≤ 5) ∧ Hid (s.fl.length ≤ i + 2 * (((ms.map Prod.fst).take i).flatMap Mo.sh).length)) (fun s _ => ms.length - (intOf s).toNat)
      case atStart => exact ⟨0, startF n u m, .pointer none, .slice none 0 0, by omega, rfl, rfl, HA11, HX11, Only.refl _ _, HZ, by show (List.replicate m _).length = m; rw [List.length_replicate], bd_beginS n u, Nat.zero_le _⟩
      case round =>
        clear HA11 HX11 HZ
        obtain ⟨i, s, v8, vf, hi, rfl, Hs, HA, HX, HO, HZ, Hl, Hb, Hfl⟩ := hrel
        have HMr : Hid (Moms wr M0 A2 (.slice Am ms.length cm) ms) := HMs.out.only HO.out fun q hq h => by
          have := HMs.out.lt hq
          omega
        have HFr : Hid (wr.heap[pf]? = some (.cells #[.func (.func 116) #[] #[], .func (.func 117) #[] #[], .func (.func 118) #[] #[]] 184 (0, 0))) := (HO.out.block pf (blk_lt HF11.out) (by have := blk_lt HF11.out; omega)).trans HF11.out
        by_cases hlt : i < ms.length
        · obtain ⟨⟨mo, us⟩, hmo⟩ : ∃ x, ms[i]? = some x := ⟨_, List.getElem?_eq_getElem hlt⟩
          have h1 : (i : Int) < (ms.length : Int) := by omega
          have hi0 : (0 : Int) ≤ (i : Int) := by omega
          obtain ⟨go, cgo, hgo, _, hgo1, hgo2⟩ := own_form1 HMr.out.row (by omega)
          injection hgo with hgo hgo3 hgo4
          subst hgo hgo4
          have hus := HMr.out.sub i mo us hmo
          obtain ⟨Au, cu, hu⟩ : ∃ Au cu, us = .slice Au mo.sh.length cu := by
            rcases hus.2 with ⟨h1, h0⟩ | ⟨g, cap, cur, hv, _⟩
            · exact ⟨none, 0, by rw [h1, h0]⟩
            · exact ⟨_, _, hv⟩
          subst hu
          have hrowc : ∀ (j : Nat) (v : Value), (encM A2 (mo, .slice Au mo.sh.length cu))[j]? = some v → j < 3 → ∀ c : Lat wr, c.world.cell? ⟨go, i * 3 + j, none⟩ = some v := fun j v hj hj3 c => by
            refine ((own_ext HMr.out.row c.ok).cellAt (i * 3 + j) (by omega)).trans ?_
            exact flat_get (encM A2) 3 (fun _ => rfl) hmo hj
          have g0 := hrowc 0 _ rfl (by omega)
          have g1' := hrowc 1 _ rfl (by omega)
          have g2' := hrowc 2 _ rfl (by omega)
          simp only [Nat.add_zero] at g0 g1' g2'
          clear hrowc
          have hmol : mo ∈ ms.map Prod.fst := List.mem_map.2 ⟨_, List.mem_of_getElem? hmo, rfl⟩
          have hac : mo.ac = none ∨ ∃ (k : Nat) (x : Ac) (ba oa : Nat), mo.ac = some k ∧ tr[k]? = some x ∧ A2 = some ⟨ba, oa, none⟩ ∧ AcAt w0 ba (oa + k * 7) x ∧ ba < w.heap.size := by
            cases hak : mo.ac with
            | none => exact .inl rfl
            | some k =>
              obtain ⟨x, hx, _⟩ := HI.out.acat mo hmol k hak
              have hk : k < n2 := by rw [← H2.out.1]; exact (List.getElem?_eq_some_iff.1 hx).1
              obtain ⟨ba, oa, x', hA2, hba, hx', hc⟩ := H2.out.lat Ac.size hk (by omega)
              obtain rfl : x = x' := by
                have := hx'.out
                rw [hx] at this
                exact Option.some.inj this
              have hcc : AcAt w ba (oa + k * 7) x := ⟨hba, fun j u hu => hc.out j u hu ⟨w, Ext.rfl' _⟩⟩
              exact .inr ⟨k, x, ba, oa, rfl, hx, hA2, hcc.ext HE.out, hba⟩
          obtain ⟨pp, hpp, hac2⟩ : ∃ pp : Option Addr, accV A2 mo.ac = .pointer pp ∧ ((mo.ac = none ∧ pp = none) ∨ ∃ (k : Nat) (x : Ac) (ba oa : Nat), mo.ac = some k ∧ tr[k]? = some x ∧ pp = some ⟨ba, oa, none⟩ ∧ AcAt w0 ba oa x ∧ ba < w.heap.size) := by
            rcases hac with h | ⟨k, x, ba, oa, h1, h2, h3, h4, h5⟩
            · exact ⟨none, by rw [h]; rfl, .inl ⟨h, rfl⟩⟩
            · exact ⟨some ⟨ba, oa + k * 7, none⟩, by rw [h1, h3]; rfl, .inr ⟨k, x, ba, oa + k * 7, h1, h2, rfl, h4, h5⟩⟩
          have g1'' : ∀ c : Lat wr, c.world.cell? ⟨go, i * 3 + 1, none⟩ = some (.pointer pp) := fun c => by rw [← hpp]; exact g1' c
          have Hac := Lib.hid hac2
          have Hmo := Lib.hid hmo
          have Hus := Lib.hid hus
          clear g1' hac hac2 hpp hmo hus hmol
          obtain ⟨k, hk⟩ := lat_self wr
          rw [hk]
          clear hk
          go_upto_region 12 with fail
          obtain ⟨w12, hw12, hB, hE12, _⟩ := enter1 k.world (.cells #[.int .i64 mo.mv, .pointer pp, .slice Au mo.sh.length cu] 189)
          rw [hw12]
          clear g0 g1'' g2'
          have HX12 := Lib.hid (Ext.next k.ok hE12)
          have HB12 := Lib.hid hB
          have HA12 := Lib.hid (HA.out.ext HX12.out)
          have HF12 := Lib.hid (ext_blk HX12.out HFr.out)
          have HS12 := Lib.hid (own_ext Hus.out HX12.out)
          have HXX := Lib.hid (Ext.next HX.out HX12.out)
          have hpbl : wr.heap.size ≤ k.world.heap.size := k.size
          generalize k.world.heap.size = pb at *
          clear hw12 hB hE12
          have hk : ∀ w', Ext w12 w' → w'.cell? ⟨b, 7, none⟩ = some (.pointer (some ⟨p, 0, none⟩)) ∧ w'.cell? ⟨p, 0, none⟩ = some (.slice (some ⟨g1, 0, none⟩) n ca) ∧ w'.cell? ⟨p, 1, none⟩ = some (.slice (some ⟨g2, 0, none⟩) n cb) := fun w' e => ⟨HA12.out.wat.cell rfl ⟨w', e⟩, HA12.out.slo.lat.1 ⟨w', e⟩, HA12.out.slo.lat.2 ⟨w', e⟩⟩
          have hk8 : ∀ w0 v, Ext w12 w0 → (w0.setCell ⟨b, 8, none⟩ v).cell? ⟨b, 7, none⟩ = some (.pointer (some ⟨p, 0, none⟩)) ∧ (w0.setCell ⟨b, 8, none⟩ v).cell? ⟨p, 0, none⟩ = some (.slice (some ⟨g1, 0, none⟩) n ca) ∧ (w0.setCell ⟨b, 8, none⟩ v).cell? ⟨p, 1, none⟩ = some (.slice (some ⟨g2, 0, none⟩) n cb) := fun w0 v e => by
            obtain ⟨hw, o⟩ := (HA12.out.wat.ext e).set_front 8 (by omega) v
            have hs := (HA12.out.slo.ext e).only o (fun e => HA12.out.nes.1 e.symm) (fun e => HA12.out.nes.2.1 e.symm) (fun e => HA12.out.nes.2.2.1 e.symm)
            exact ⟨hw.cell rfl ⟨_, Ext.rfl' _⟩, hs.lat.1 ⟨_, Ext.rfl' _⟩, hs.lat.2 ⟨_, Ext.rfl' _⟩⟩
          have hcs : ∀ w', Ext w12 w' → Calls Try.prog 120 #[.slice (some ⟨g1, 0, none⟩) n ca] w' (CloneOut w' 76 n (s.st.map (Value.int .i64))) := fun w' e => cloneStates_any g1 n ca s.st w' HA12.out.slo.lens.1 (Rd.of_own (own_ext HA12.out.slo.own1 e)) (by omega)
          have hci : ∀ w', Ext w12 w' → Calls Try.prog 121 #[.slice (some ⟨g2, 0, none⟩) n cb] w' (CloneOut w' 3 n (s.ho.map (Value.int .i64))) := fun w' e => cloneInts_any g2 n cb s.ho w' HA12.out.slo.lens.2 (Rd.of_own (own_ext HA12.out.slo.own2 e)) (by omega)
          have hb8 : ∀ w', Ext w12 w' → w'.frozen? ⟨b, 8, none⟩ = false := fun w' e => HA12.out.wat.free 8 ⟨w', e⟩
          have hc8 : ∀ w', Ext w12 w' → w'.cell? ⟨b, 8, none⟩ = some v8 := fun w' e => HA12.out.wat.cell rfl ⟨w', e⟩
          have hE0 := (Ext.rfl' w12).drew1
          go_cut [] (fun wx => ∃ pt h1 e1 h2 e2, Hid (Wch wx w0.heap.size b p g1 ca g2 cb n [.int .i64 T, .int .i64 R, .int .i64 H, .int .i64 Re, .int .i64 Ca, .int .i64 S, .int .i64 Bk] (.pointer (some ⟨pt, 0, none⟩)) (.slice (some ⟨gh, 0, none⟩) m ch) a vf s.st s.ho s.hd s.fl s.P s.C) ∧ Hid (SlotsObj wx w12.heap.size pt h1 e1 h2 e2 n s.st s.ho) ∧ Hid (Only (fun q => q = b) w12 wx))
          case first =>
            go_region_held3 (fun w' => w'.cell? ⟨b, 7, none⟩ = some (.pointer (some ⟨p, 0, none⟩)) ∧ w'.cell? ⟨p, 0, none⟩ = some (.slice (some ⟨g1, 0, none⟩) n ca) ∧ w'.cell? ⟨p, 1, none⟩ = some (.slice (some ⟨g2, 0, none⟩) n cb)) (first | with_reducible exact hk _ hE0 | with_reducible exact hk _ EA | with_reducible exact hk _ EB | with_reducible exact hk _ (EB.alloc1 _) | with_reducible exact hk8 _ _ (EB.alloc1 _))
              (first | ((with_reducible refine (hcs _ hE0).mono ?_); rintro e wA ⟨vA, rfl, hoA, eA⟩; have EA : Ext w12 wA := Ext.next hE0 eA; obtain ⟨h1, e1, rfl, _, _, _⟩ := own_form1 hoA (by omega)) | ((with_reducible refine (hci _ EA).mono ?_); rintro e wB ⟨vB, rfl, hoB, eB⟩; have EB : Ext w12 wB := Ext.next EA eB; have HB8 := hb8 _ (EB.alloc1 (.cells #[.slice (some ⟨h1, 0, none⟩) n e1, vB] 139)); have HC8 := hc8 _ (EB.alloc1 (.cells #[.slice (some ⟨h1, 0, none⟩) n e1, vB] 139)); obtain ⟨h2, e2, rfl, _, _, _⟩ := own_form1 hoB (by omega)))
            all_goals
              have hm := HA12.out.then_ EB (own_base (own_ext hoA eB) (Nat.le_refl _)) (own_base hoB EA.size)
              go_wp2_with fail
              go_meet
              case rel => exact ⟨_, h1, e1, h2, e2, hm.1, hm.2.1, hm.2.2⟩
          obtain ⟨pt, h1, e1, h2, e2, HAc, HSt, HOn⟩ := hcut
          obtain ⟨wo, rfl⟩ : ∃ wo : World, wo = wr := ⟨_, rfl⟩
          obtain ⟨w13, rfl⟩ : ∃ w13 : World, w13 = wc := ⟨_, rfl⟩
          have Hlts : Hid (∀ q, WMine b p g1 g2 (.slice (some ⟨gh, 0, none⟩) m ch) vf q → q < wo.heap.size) := fun q hq => (HA.out.lt hq).2
          have hw12 : wo.heap.size < w12.heap.size := Nat.lt_of_le_of_lt hpbl (blk_lt HB12.out)
          have Hh1 := Lib.hid (HSt.out.own1.lt h1 rfl).1
          have Hh2 := Lib.hid (HSt.out.own2.lt h2 rfl).1
          have Hpt := Lib.hid HSt.out.low
          have hbw := Hlts.out b (.inl rfl)
          have hpbb : pb ≠ b := by omega
          have HB13 : Hid (w13.heap[pb]? = some (.cells #[.int .i64 mo.mv, .pointer pp, .slice Au mo.sh.length cu] 189 (0, 0))) := (HOn.out.block pb (blk_lt HB12.out) hpbb).trans HB12.out
          have Hsb : Hid (∀ q, (Value.slice Au mo.sh.length cu).ownBlock = some q → M0 ≤ q ∧ q < w11.heap.size) := fun q hq => HMs.out.lt (.inr ⟨i, mo, _, Hmo.out, hq⟩)
          have hM1 : w11.heap.size ≤ wo.heap.size := HO.out.size
          have HS13 := Lib.hid (own_only HS12.out HOn.out fun q hq e => own_apart HS12.out HA12.out.wat.blk (by decide) (by rw [hq, e]))
          have hmml : mo ∈ ms.map Prod.fst := List.mem_map.2 ⟨_, List.mem_of_getElem? Hmo.out, rfl⟩
          have HXsh : Hid (∀ x ∈ mo.sh, 0 ≤ x.sl ∧ x.sl < S ∧ 0 ≤ x.fr ∧ x.fr ≤ 5 ∧ 0 ≤ x.to ∧ x.to ≤ 5) := fun x hx => by
            refine Hsh.out x ?_
            have h1 := HI.out.shs
            have h2 : x ∈ (ms.map Prod.fst).flatMap Mo.sh := List.mem_flatMap.2 ⟨mo, hmml, hx⟩
            rw [h1] at h2
            exact List.mem_of_mem_take h2
          have hlsh : mo.sh.length ≤ 1048576 := by
            have h1 := congrArg List.length HI.out.shs
            have h2 := H31.out.1
            rw [List.length_take, Nat.min_self] at h1
            obtain ⟨l1, l2, hl⟩ := List.append_of_mem hmml
            rw [hl] at h1
            simp at h1
            omega
          clear hk hk8 hcs hci hb8 hc8 hE0 hmml
          obtain ⟨q0, q1, q2⟩ := Lat.cells3 HB13.out
          obtain ⟨kc, hkc⟩ := lat_self w13
          rw [hkc]
          go_upto_region 14 with fail
          rw [← hkc]
          clear hkc kc q0 q1 q2
          go_loopw [82] (fun s82 wx => ∃ j : Nat, j ≤ mo.sh.length ∧ s82 = .int .i64 j ∧ Hid (SlotsObj wx w12.heap.size pt h1 e1 h2 e2 n (afterS s.st (mo.sh.take j)) (afterH s.ho (mo.sh.take j))) ∧ Hid (Only (fun q => q = h1 ∨ q = h2) w13 wx)) (fun s_ _ => mo.sh.length - (intOf s_).toNat)
          case atStart => exact ⟨0, by omega, rfl, HSt, Only.refl _ _⟩
          case round =>
            obtain ⟨j, hj, rfl, HT, HOj⟩ := hrel
            have Hne : Hid (∀ q, WMine b p g1 g2 (.slice (some ⟨gh, 0, none⟩) m ch) vf q → ¬ (q = h1 ∨ q = h2)) := fun q hq e => by
              have h1 := Hlts.out q hq
              have h2 := Hh1.out
              have h3 := Hh2.out
              omega
            have HAj := Lib.hid (HAc.out.only HOj.out Hne.out)
            have HBj : Hid (wr.heap[pb]? = some (.cells #[.int .i64 mo.mv, .pointer pp, .slice Au mo.sh.length cu] 189 (0, 0))) := (HOj.out.block pb (blk_lt HB13.out) (by
              have h1 := Hh1.out
              have h2 := Hh2.out
              have h3 := blk_lt HB12.out
              omega)).trans HB13.out
            have HSj := Lib.hid (own_only HS13.out HOj.out fun q hq e => by
              have h0 := (Hsb.out q hq).2
              have h1 := Hh1.out
              have h2 := Hh2.out
              omega)
            obtain ⟨q0, q1, q2⟩ := Lat.cells3 HBj.out
            by_cases hlj : j < mo.sh.length
            · obtain ⟨bs, os, x, hAx, hbs, hx, x0, x1, x2, x3, x4⟩ := Sh.at_ (A := Au) (n := mo.sh.length) (xs := mo.sh) ⟨rfl, Rd.of_own HSj.out⟩ hlj
              have h1' : (j : Int) < (mo.sh.length : Int) := by omega
              have hj0 : (0 : Int) ≤ (j : Int) := by omega
              subst hAx
              obtain ⟨hsl0, hsl1, _, _, hto0, hto1⟩ := HXsh.out x (List.mem_of_getElem? hx.out)
              obtain ⟨t, ht⟩ : ∃ t : Nat, x.sl = (t : Int) := ⟨x.sl.toNat, by omega⟩
              have htn : t < n := by
                have := Hn.out
                omega
              have Ht := Lib.hid ht
              clear ht
              obtain ⟨k, hk⟩ := lat_self wr
              rw [hk]
              clear hk
              go_upto_region 16 with fail
              obtain ⟨w14, hw14, hX, hE14, _⟩ := enter1 k.world (.cells #[.int .i64 x.mv, .int .i64 x.th, .int .i64 x.sl, .int .i64 x.fr, .int .i64 x.to] 136)
              rw [hw14]
              clear x0 x1 x2 x3 x4 q0 q1 q2
              have HE14 := Lib.hid (Ext.next k.ok hE14)
              obtain ⟨x0, x1, x2, x3, x4⟩ := Sh.boxed hX
              have q8 : ∀ c : Lat w14, c.world.cell? ⟨b, 8, none⟩ = some (.pointer (some ⟨pt, 0, none⟩)) := (HAj.out.wat.ext HE14.out).cell rfl
              obtain ⟨k14, hk14⟩ := lat_self w14
              rw [hk14]
              generalize k.world.heap.size = px at *
              clear hw14 hX hE14 hk14
              refine wp_region_cls_tail (Ext w14) 5 (Ext.drew1 k14.ok) (by kernel_rfl) (by kernel_rfl) ?_
              simp only [List.take_succ_cons, List.take_zero, List.drop_succ_cons, List.drop_zero]
              repeat (go_big_quiet_step (fail))
              refine wpQuiet_nil ?_
              rintro _ ⟨k15, rfl⟩
              have hEc := Ext.next HE14.out k15.ok
              go_wp2_with fail
              refine (put_any w12.heap.size pt h1 e1 h2 e2 n _ _ x t Ht.out htn _ (HT.out.ext hEc)).mono ?_
              rintro e w16 ⟨rfl, hT, o16⟩
              have HT16 : Hid (SlotsObj w16 w12.heap.size pt h1 e1 h2 e2 n (afterS s.st (mo.sh.take (j + 1))) (afterH s.ho (mo.sh.take (j + 1)))) := by
                rw [List.take_add_one, hx.out, Option.toList_some, afterS_snoc, afterH_snoc]
                exact hT
              have HO16 : Hid (Only (fun q => q = h1 ∨ q = h2) w13 w16) := (HOj.out.trans (Only.of_ext (S := fun q => q = h1 ∨ q = h2) hEc) fun _ _ h => h).trans o16 fun _ _ h => h
              clear hT o16 hEc x0 x1 x2 x3 x4 q8
              go_wp2_with fail
              go_roundw
              case rel => exact ⟨j + 1, by omega, by go_num, HT16, HO16⟩
              case measure => simp [intOf]; omega
            · obtain rfl : mo.sh.length = j := by omega
              rw [List.take_of_length_le (Nat.le_refl _)] at HT
              clear q0 q1 q2
              have hpfb : pf ≠ b := fun e => by
                have h1 := HZ.out b (.inl rfl)
                have h2 := blk_lt HF11.out
                omega
              have hfr := (HOj.out.block pf (Nat.lt_of_lt_of_le (blk_lt HF12.out) HOn.out.size) (by have h1 := Hh1.out; have h2 := Hh2.out; have h3 := blk_lt HF12.out; omega)).trans ((HOn.out.block pf (blk_lt HF12.out) hpfb).trans HF12.out)
              obtain ⟨f0, f1, f2⟩ := Lat.cells3 hfr
              obtain ⟨kd, hkd⟩ := lat_self wr
              rw [hkd]
              go_upto_region 19 with fail
              rw [← hkd]
              clear hkd kd f0 f1 f2 hfr
              have HXr : Hid (Ext w0 wr) := (HXX.out.only HOn.out fun q hq => by rw [hq]; exact hb).only HOj.out fun q hq => by
                have h1 := Hh1.out
                have h2 := Hh2.out
                have h3 := HXX.out.size
                rcases hq with rfl | rfl <;> omega
              obtain ⟨oa, hoa⟩ : ∃ oa : Option Ac, (mo.ac.bind fun k => tr[k]?) = oa := ⟨_, rfl⟩
              have Hoa := Lib.hid hoa
              have hac : (oa = none ∧ pp = none) ∨ ∃ (x : Ac) (ba oo : Nat), oa = some x ∧ pp = some ⟨ba, oo, none⟩ ∧ Hid (AcAt w0 ba oo x) ∧ ba < w0.heap.size ∧ Hid (x ∈ tr) := by
                rcases Hac.out with ⟨h1, h2⟩ | ⟨k, x, ba, oo, h1, h2, h3, h4, h5⟩
                · exact .inl ⟨by rw [← hoa, h1]; rfl, h2⟩
                · exact .inr ⟨x, ba, oo, by rw [← hoa, h1]; exact h2, h3, h4, by have := HE.out.size; omega, List.mem_of_getElem? h2⟩
              have Hflen : Hid (s.fl.length + 1 ≤ 4000000) := by
                have h1 := Hfl.out
                have h2 := congrArg List.length HI.out.shs
                have h3 := H31.out.1
                rw [List.length_take, Nat.min_self] at h2
                have h4 : (((ms.map Prod.fst).take i).flatMap Mo.sh).length ≤ ((ms.map Prod.fst).flatMap Mo.sh).length := by
                  conv => rhs; rw [← List.take_append_drop i (ms.map Prod.fst)]
                  rw [List.flatMap_append, List.length_append]
                  omega
                show _ ≤ _
                omega
              clear hoa
              obtain ⟨wi, rfl⟩ : ∃ wi : World, wi = wr := ⟨_, rfl⟩
              go_loopw [94] (fun s94 wq => ∃ (jj : Nat) (s1 : CS) (vf1 : Value), jj ≤ 3 ∧ s94 = .int .i64 jj ∧ Hid (s1 = stageF R H S Bk a s mo.mv mo.sh oa jj) ∧ Hid (Wch wq w0.heap.size b p g1 ca g2 cb n [.int .i64 T, .int .i64 R, .int .i64 H, .int .i64 Re, .int .i64 Ca, .int .i64 S, .int .i64 Bk] (.pointer (some ⟨pt, 0, none⟩)) (.slice (some ⟨gh, 0, none⟩) m ch) a vf1 s1.st s1.ho s1.hd s1.fl s1.P s1.C) ∧ Hid (Only (WMine b p g1 g2 (.slice (some ⟨gh, 0, none⟩) m ch) vf) wi wq) ∧ Hid (∀ q, vf1.ownBlock = some q → vf.ownBlock = some q ∨ wi.heap.size ≤ q)) (fun s_ _ => 3 - (intOf s_).toNat)
              case atStart => exact ⟨0, s, vf, by omega, rfl, rfl, HAj, Only.refl _ _, fun q hq => .inl hq⟩
              case round =>
                obtain ⟨jj, s1, vf1, hjj, rfl, Hs1, HA1, HO1, HV1⟩ := hrel
                have hw1 : wi.heap.size ≤ wr.heap.size := HO1.out.size
                have hb1 : Hid (wr.heap[pb]? = some (.cells #[.int .i64 mo.mv, .pointer pp, .slice Au mo.sh.length cu] 189 (0, 0))) := (HO1.out.block pb (blk_lt HBj.out) (fun h => by have := Hlts.out pb h; omega)).trans HBj.out
                have HXq : Hid (Ext w0 wr) := HXr.out.only HO1.out fun q hq => (HA.out.lt hq).1
                have HTq : Hid (SlotsObj wr w0.heap.size pt h1 e1 h2 e2 n (afterS s.st mo.sh) (afterH s.ho mo.sh)) := by
                  have h1' := Hh1.out
                  have h2' := Hh2.out
                  have h3' := Hpt.out
                  have h4' := HXX.out.size
                  have h := HT.out.only HO1.out (fun e => by have := Hlts.out _ e; omega) (fun e => by have := Hlts.out _ e; omega) (fun e => by have := Hlts.out _ e; omega)
                  exact ⟨h.blk, own_base h.own1 h4', own_base h.own2 h4', Nat.le_trans h4' h.low⟩
                have HSq := Lib.hid (own_only HSj.out HO1.out fun q hq e => by
                  have h0 := Hsb.out q hq
                  have h1 := HZ.out q e
                  omega)
                obtain ⟨q0, q1, q2⟩ := Lat.cells3 hb1.out
                obtain ⟨k, hk⟩ := lat_self wr
                rw [hk]
                have hkz := k.size
                clear hk
                rcases (by omega : jj = 0 ∨ jj = 1 ∨ jj = 2 ∨ jj = 3) with rfl | rfl | rfl | rfl
                · have hidx : ∀ W : World, (Instr.index 184 (.agg #[.func (.func 116) #[] #[], .func (.func 117) #[] #[], .func (.func 118) #[] #[]]) (.int .i64 0)).run Try.prog W = .ok (.func (.func 116) #[] #[]) W := fun W => by kernel_rfl
                  obtain rfl : s1 = s := Hs1.out
                  rcases hac with ⟨rfl, rfl⟩ | ⟨x, ba, oo, rfl, rfl, Hx, hba, Hxt⟩
                  · go_wp2_with fail
                    refine (touches_none b mo.mv Au mo.sh.length cu _).mono ?_
                    rintro e w20 ⟨rfl, e20⟩
                    have HA20 := Lib.hid (HA1.out.ext (Ext.next k.ok e20))
                    have HO20 : Hid (Only (WMine b p g1 g2 (.slice (some ⟨gh, 0, none⟩) m ch) vf) wi w20) := HO1.out.trans (Only.of_ext (S := WMine b p g1 g2 (.slice (some ⟨gh, 0, none⟩) m ch) vf) (Ext.next k.ok e20)) fun _ _ h => h
                    clear e20 q0 q1 q2 hidx
                    go_wp2_with fail
                    go_roundw
                    case rel => exact ⟨1, s1, vf1, by omega, by go_num, (stage_none R H S Bk a s1 mo.mv mo.sh).1.symm, HA20, HO20, HV1⟩
                    case measure => simp [intOf]
                  · go_wp2_with fail
                    refine (touches_any T R H Re Ca S Bk Hok.out w0.heap.size b p g1 ca g2 cb n pt h1 e1 h2 e2 Hn.out.symm _ a vf1 s1.st s1.ho (afterS s1.st mo.sh) (afterH s1.ho mo.sh) s1.hd s1.fl s1.P s1.C mo.mv Au mo.sh.length cu ba oo x _ (HA1.out.ext k.ok) (HTq.out.ext k.ok) (Hx.out.ext (Ext.next HXq.out k.ok)) Hb.out (bd_afterS _ _ Hb.out fun y hy => (HXsh.out y hy).2.2.2.2) (Htr.out x Hxt.out).1 (Htr.out x Hxt.out).2.1 (by have := Hflen.out; omega) (Nat.le_trans HXq.out.size hkz)).mono ?_
                    rintro e w20 ⟨rfl, vf2, hW2, o2, v2⟩
                    have HA20 : Hid (Wch w20 w0.heap.size b p g1 ca g2 cb n [.int .i64 T, .int .i64 R, .int .i64 H, .int .i64 Re, .int .i64 Ca, .int .i64 S, .int .i64 Bk] (.pointer (some ⟨pt, 0, none⟩)) (.slice (some ⟨gh, 0, none⟩) m ch) a vf2 s1.st s1.ho s1.hd (s1.fl ++ touchF R H S Bk s1.st s1.ho (afterS s1.st mo.sh) (afterH s1.ho mo.sh) mo.mv x) s1.P s1.C) := hW2
                    have HO20 : Hid (Only (WMine b p g1 g2 (.slice (some ⟨gh, 0, none⟩) m ch) vf) wi w20) := (HO1.out.trans (Only.of_ext (S := WMine b p g1 g2 (.slice (some ⟨gh, 0, none⟩) m ch) vf) k.ok) fun _ _ h => h).trans o2 fun q hq h => h.back HV1.out hq
                    have HV20 : Hid (∀ q, vf2.ownBlock = some q → vf.ownBlock = some q ∨ wi.heap.size ≤ q) := fun q hq => by
                      rcases v2 q hq with h | h
                      · exact HV1.out q h
                      · exact .inr (by omega)
                    clear hW2 o2 v2 q0 q1 q2 hidx
                    go_wp2_with fail
                    go_roundw
                    case rel => exact ⟨1, stageF R H S Bk a s1 mo.mv mo.sh (some x) 1, vf2, by omega, by go_num, rfl, HA20, HO20, HV20⟩
                    case measure => simp [intOf]
                · have hidx : ∀ W : World, (Instr.index 184 (.agg #[.func (.func 116) #[] #[], .func (.func 117) #[] #[], .func (.func 118) #[] #[]]) (.int .i64 1)).run Try.prog W = .ok (.func (.func 117) #[] #[]) W := fun W => by kernel_rfl
                  rcases hac with ⟨rfl, rfl⟩ | ⟨x, ba, oo, rfl, rfl, Hx, hba, Hxt⟩
                  · obtain rfl : s1 = s := Hs1.out.trans (stage_none R H S Bk a s mo.mv mo.sh).1
                    go_wp2_with fail
                    refine (names_none b mo.mv Au mo.sh.length cu _).mono ?_
                    rintro e w20 ⟨rfl, e20⟩
                    have HA20 := Lib.hid (HA1.out.ext (Ext.next k.ok e20))
                    have HO20 : Hid (Only (WMine b p g1 g2 (.slice (some ⟨gh, 0, none⟩) m ch) vf) wi w20) := HO1.out.trans (Only.of_ext (S := WMine b p g1 g2 (.slice (some ⟨gh, 0, none⟩) m ch) vf) (Ext.next k.ok e20)) fun _ _ h => h
                    clear e20 q0 q1 q2 hidx
                    go_wp2_with fail
                    go_roundw
                    case rel => exact ⟨2, s1, vf1, by omega, by go_num, (stage_none R H S Bk a s1 mo.mv mo.sh).2.symm, HA20, HO20, HV1⟩
                    case measure => simp [intOf]
                  · have HA1' : Hid (Wch wr w0.heap.size b p g1 ca g2 cb n [.int .i64 T, .int .i64 R, .int .i64 H, .int .i64 Re, .int .i64 Ca, .int .i64 S, .int .i64 Bk] (.pointer (some ⟨pt, 0, none⟩)) (.slice (some ⟨gh, 0, none⟩) m ch) a vf1 s.st s.ho s.hd (s.fl ++ touchF R H S Bk s.st s.ho (afterS s.st mo.sh) (afterH s.ho mo.sh) mo.mv x) s.P s.C) := by
                      have h := HA1.out
                      rw [Hs1.out] at h
                      exact h
                    go_wp2_with fail
                    refine (names_any T R H Re Ca S Bk w0.heap.size b p g1 ca g2 cb n gh ch Hn.out.symm hS1' _ a vf1 s.st s.ho s.hd _ s.P s.C mo.mv Au mo.sh.length cu ba oo m Hl.out hmm2 x _ (HA1'.out.ext k.ok) (Hx.out.ext (Ext.next HXq.out k.ok)) hba (Htr.out x Hxt.out).1 (by have := (Htr.out x Hxt.out).2.1; have := Hs13.out; omega) (by have := Hsb8.out; omega) (by have := Hsb8.out; omega) (Htr.out x Hxt.out).2.2.1 (Htr.out x Hxt.out).2.2.2).mono ?_
                    rintro e w20 ⟨rfl, hW2, o2⟩
                    have HA20 : Hid (Wch w20 w0.heap.size b p g1 ca g2 cb n [.int .i64 T, .int .i64 R, .int .i64 H, .int .i64 Re, .int .i64 Ca, .int .i64 S, .int .i64 Bk] (.pointer (some ⟨pt, 0, none⟩)) (.slice (some ⟨gh, 0, none⟩) m ch) a vf1 s.st s.ho (namesF a S s.st s.hd x) (s.fl ++ touchF R H S Bk s.st s.ho (afterS s.st mo.sh) (afterH s.ho mo.sh) mo.mv x) s.P s.C) := hW2
                    have HO20 : Hid (Only (WMine b p g1 g2 (.slice (some ⟨gh, 0, none⟩) m ch) vf) wi w20) := (HO1.out.trans (Only.of_ext (S := WMine b p g1 g2 (.slice (some ⟨gh, 0, none⟩) m ch) vf) k.ok) fun _ _ h => h).trans o2 fun q _ h => .inr (.inr (.inr (.inr (.inl (by rw [h]; rfl)))))
                    clear hW2 o2 q0 q1 q2 hidx HA1'
                    go_wp2_with fail
                    go_roundw
                    case rel => exact ⟨2, stageF R H S Bk a s mo.mv mo.sh (some x) 2, vf1, by omega, by go_num, rfl, HA20, HO20, HV1⟩
                    case measure => simp [intOf]
                · have hidx : ∀ W : World, (Instr.index 184 (.agg #[.func (.func 116) #[] #[], .func (.func 117) #[] #[], .func (.func 118) #[] #[]]) (.int .i64 2)).run Try.prog W = .ok (.func (.func 118) #[] #[]) W := fun W => by kernel_rfl
                  have hst1 : s1.st = s.st := by rw [Hs1.out]; rfl
                  have hsl := stage_len R H S Bk a s mo.mv mo.sh oa
                  have hhd1 : s1.hd.length = m := by rw [Hs1.out]; exact hsl.2.trans Hl.out
                  have hfl1 : s1.fl.length ≤ 4000000 := by
                    rw [Hs1.out]
                    exact Nat.le_trans hsl.1 Hflen.out
                  have hbd1 : ∀ y ∈ s1.st, 0 ≤ y ∧ y ≤ 5 := by rw [hst1]; exact Hb.out
                  have HK := Lib.hid (⟨hhd1, hfl1, hbd1⟩ : s1.hd.length = m ∧ s1.fl.length ≤ 4000000 ∧ ∀ y ∈ s1.st, 0 ≤ y ∧ y ≤ 5)
                  clear hst1 hsl hhd1 hfl1 hbd1
                  go_wp2_with fail
                  refine (changes_any T R H Re Ca S Bk w0.heap.size b p g1 ca g2 cb n gh ch m Hn.out.symm hn2 hmm2 _ a vf1 s1 HK.out.1 mo.mv (.pointer pp) Au mo.sh.length cu mo.sh _ (HA1.out.ext k.ok) HK.out.2.2 ⟨rfl, Rd.of_own (own_ext HSq.out k.ok)⟩ (fun bs os hA hm => by
                    have h0 := Hsb.out bs (by rw [hA]; rfl)
                    have h2 := HO.out.size
                    have h3 := HXr.out.size
                    have h5 := HOn.out.size
                    have h6 := HOj.out.size
                    rcases hm.fore HV1.out with h | h
                    · have h1 := HZ.out bs h
                      omega
                    · omega) (by omega) HXsh.out HK.out.2.1).mono ?_
                  rintro e w20 ⟨rfl, vf2, hW2, o2, v2⟩
                  have HA20 : Hid (Wch w20 w0.heap.size b p g1 ca g2 cb n [.int .i64 T, .int .i64 R, .int .i64 H, .int .i64 Re, .int .i64 Ca, .int .i64 S, .int .i64 Bk] (.pointer (some ⟨pt, 0, none⟩)) (.slice (some ⟨gh, 0, none⟩) m ch) a vf2 (changesF mo.mv s1 mo.sh).st (changesF mo.mv s1 mo.sh).ho (changesF mo.mv s1 mo.sh).hd (changesF mo.mv s1 mo.sh).fl (changesF mo.mv s1 mo.sh).P (changesF mo.mv s1 mo.sh).C) := hW2
                  have HO20 : Hid (Only (WMine b p g1 g2 (.slice (some ⟨gh, 0, none⟩) m ch) vf) wi w20) := (HO1.out.trans (Only.of_ext (S := WMine b p g1 g2 (.slice (some ⟨gh, 0, none⟩) m ch) vf) k.ok) fun _ _ h => h).trans o2 fun q hq h => h.back HV1.out hq
                  have HV20 : Hid (∀ q, vf2.ownBlock = some q → vf.ownBlock = some q ∨ wi.heap.size ≤ q) := fun q hq => by
                    rcases v2 q hq with h | h
                    · exact HV1.out q h
                    · exact .inr (by omega)
                  clear hW2 o2 v2 q0 q1 q2 hidx
                  go_wp2_with fail
                  go_roundw
                  case rel => exact ⟨3, changesF mo.mv s1 mo.sh, vf2, by omega, by go_num, by rw [Hs1.out]; rfl, HA20, HO20, HV20⟩
                  case measure => simp [intOf]
                · have HX20 := Lib.hid (Ext.next HXq.out k.ok)
                  have HA20 := Lib.hid (HA1.out.ext k.ok)
                  have hsm : s1 = momentF R H S Bk a tr s mo := by
                    rw [Hs1.out, ← Hoa.out]
                    rfl
                  have Hfold : Hid (s1 = ((ms.map Prod.fst).take (i + 1)).foldl (momentF R H S Bk a tr) (startF n u m)) := by
                    show s1 = _
                    rw [List.take_add_one, List.getElem?_map, Hmo.out, List.foldl_append, ← Hs.out]
                    exact hsm
                  have hfx := moment_facts (R := R) (H := H) (S := S) (Bk := Bk) (fi := a) (tr := tr) (m := mo) Hb.out fun x hx => (HXsh.out x hx).2.2.2.2
                  rw [← hsm] at hfx
                  have Hl' : Hid (s1.hd.length = m) := hfx.1.trans Hl.out
                  have Hb' : Hid (∀ y ∈ s1.st, 0 ≤ y ∧ y ≤ 5) := hfx.2.1
                  have Hfl' : Hid (s1.fl.length ≤ i + 1 + 2 * (((ms.map Prod.fst).take (i + 1)).flatMap Mo.sh).length) := by
                    have h1 := hfx.2.2
                    have h2 := Hfl.out
                    show _ ≤ _
                    rw [List.take_add_one, List.getElem?_map, Hmo.out, List.flatMap_append, List.length_append]
                    simp only [Option.map_some, Option.toList_some, List.flatMap_cons, List.flatMap_nil, List.append_nil]
                    omega
                  have hz1 := HO.out.size
                  have hz2 := HXr.out.size
                  have hz5 := HOn.out.size
                  have hz6 := HOj.out.size
                  have HOz : Hid (Only (fun q => q < pf ∨ w11.heap.size ≤ q) w11 k.world) := by
                    have o1 := HO.out.trans (Only.of_ext (S := fun q => q < pf ∨ w11.heap.size ≤ q) HX12.out) fun _ _ h => h
                    have o2 := o1.trans HOn.out fun q _ h => by
                      rw [h]
                      exact HZ.out b (.inl rfl)
                    have o3 := o2.trans HOj.out fun q _ h => by
                      have h1' := Hh1.out
                      have h2' := Hh2.out
                      rcases h with rfl | rfl
                      · exact .inr (by omega)
                      · exact .inr (by omega)
                    have o4 := o3.trans HO1.out fun q _ h => HZ.out q h
                    exact o4.trans (Only.of_ext (S := fun q => q < pf ∨ w11.heap.size ≤ q) k.ok) fun _ _ h => h
                  have HZ' : Hid (∀ q, WMine b p g1 g2 (.slice (some ⟨gh, 0, none⟩) m ch) vf1 q → q < pf ∨ w11.heap.size ≤ q) := fun q hq => by
                    rcases hq.fore HV1.out with h | h
                    · exact HZ.out q h
                    · exact .inr (by omega)
                  clear hsm hfx q0 q1 q2
                  go_wp2_with fail
                  go_roundw
                  case rel => exact ⟨i + 1, s1, _, vf1, by omega, by go_num, Hfold, HA20, HX20, HOz, HZ', Hl', Hb', Hfl'⟩
                  case measure => simp [intOf]; omega
        · obtain rfl : ms.length = i := by omega
          rw [List.take_of_length_le (by rw [List.length_map]; exact Nat.le_refl _)] at Hs
          go_wp2_with fail
          go_ret
          exact ⟨b, p, g1, ca, g2, cb, _, v8, _, vf, s, ms.map Prod.fst, rfl, HI.out, by rw [hfi]; exact Hs.out, by rw [hfi, hpc]; exact HA.out.base (by have := HE.out.size; omega), Ext.next HE.out HX.out⟩

end Go.Proofs.Ytfbacopjookplaa
