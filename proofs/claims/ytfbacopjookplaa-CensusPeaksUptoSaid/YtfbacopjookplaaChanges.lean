/- The walk of changes: the shifts of a moment. -/
import Derived.Test.YtfbacopjookplaaHeld
namespace Go.Proofs.Ytfbacopjookplaa
open Go.RowKit

/-- What the watch has been told. -/
structure CS where
  st : List Int
  ho : List Int
  hd : List (Int × Bool)
  fl : List Fl
  P : List Int
  C : List Int
def chF1 (mv : Int) (ho : List Int) (x : Sh) (fl : List Fl) : List Fl := if allowF x.fr x.to (decide (ho.getD x.sl.toNat 0 = x.th)) then fl else fl ++ [⟨3, mv, x.sl⟩]
def chF2 (mv : Int) (hd : List (Int × Bool)) (x : Sh) (fl : List Fl) : List Fl := if (x.fr = 5 ∧ x.to ≤ 1) ∧ heldF hd x.sl = true then fl ++ [⟨4, mv, x.sl⟩] else fl
def linkH (sl : Int) (h : Int × Bool) : Int × Bool := (h.1, h.2 || decide (h.1 = sl))
def chH (hd : List (Int × Bool)) (x : Sh) : List (Int × Bool) := if x.to = 3 then hd.map (linkH x.sl) else hd
def stepC (mv : Int) (s : CS) (x : Sh) : CS := ⟨putS x s.st, putH x s.ho, chH s.hd x, chF2 mv s.hd x (chF1 mv s.ho x s.fl), pkF s.P (putS x s.st), cntsF (putS x s.st)⟩
def changesF (mv : Int) (s : CS) (xs : List Sh) : CS := xs.foldl (stepC mv) s
theorem changesF_snoc (mv : Int) (s : CS) (xs : List Sh) (x : Sh) : changesF mv s (xs ++ [x]) = stepC mv (changesF mv s xs) x := by simp [changesF]

/-- The holds behind so many rounds. -/
def linkN (sl : Int) (i : Nat) (hd : List (Int × Bool)) : List (Int × Bool) := (hd.take i).map (linkH sl) ++ hd.drop i
theorem linkN_all (sl : Int) {hd : List (Int × Bool)} {m : Nat} (h : hd.length = m) : linkN sl m hd = hd.map (linkH sl) := by
  unfold linkN
  rw [List.take_of_length_le (by omega), List.drop_of_length_le (by omega), List.append_nil]
theorem linkN_at (sl : Int) {hd : List (Int × Bool)} {i : Nat} {x : Int × Bool} (h : hd[i]? = some x) : (linkN sl i hd)[i]? = some x ∧ (linkN sl i hd).set i (linkH sl x) = linkN sl (i + 1) hd := by
  have hi := (List.getElem?_eq_some_iff.1 h).1
  have hl : ((hd.take i).map (linkH sl)).length = i := by simp; omega
  have hd' : hd.drop i = x :: hd.drop (i + 1) := by
    rw [← List.getElem_cons_drop hi]
    congr 1
    exact (List.getElem?_eq_some_iff.1 h).2
  unfold linkN
  refine ⟨by rw [List.getElem?_append_right (by omega), hl, Nat.sub_self, hd']; rfl, ?_⟩
  rw [List.set_append_right _ _ (by omega), hl, Nat.sub_self, hd', List.set_cons_zero, List.take_add_one, h, List.map_append, List.append_assoc]
  rfl
theorem set_same {α : Type} {l : List α} {i : Nat} {a : α} (h : l[i]? = some a) : l.set i a = l := by
  apply List.ext_getElem?
  intro k
  by_cases hk : i = k
  · subst hk
    rw [List.getElem?_set_self (List.getElem?_eq_some_iff.1 h).1, h]
  · rw [List.getElem?_set_ne hk]
theorem Wch.put {w w' : World} {B b p g1 c1 g2 c2 n : Nat} {cf : List Value} {v8 vh : Value} {fi : Int} {vf : Value} {st ho st' ho' : List Int} {hd : List (Int × Bool)} {fl : List Fl} {P C : List Int} (h : Wch w B b p g1 c1 g2 c2 n cf v8 vh fi vf st ho hd fl P C)
    (hs : SlotsObj w' B p g1 c1 g2 c2 n st' ho') (o : Only (fun q => q = g1 ∨ q = g2) w w') : Wch w' B b p g1 c1 g2 c2 n cf v8 vh fi vf st' ho' hd fl P C := by
  obtain ⟨n1, n2, n3, nh, nf⟩ := h.nes
  exact ⟨h.wat.only o fun e => e.elim n2 n3, hs, own_only h.hol o fun q hq e => e.elim (nh q hq).2.2.1 (nh q hq).2.2.2.1, own_only h.fau o fun q hq e => e.elim (nf q hq).2.2.1 (nf q hq).2.2.2.1, h.lcf, h.lp, h.lc, h.low⟩
theorem Wch.held1 {w : World} {B b p g1 c1 g2 c2 n : Nat} {cf : List Value} {v8 : Value} {fi : Int} {vf : Value} {st ho : List Int} {hd : List (Int × Bool)} {fl : List Fl} {P C : List Int} {gh ch m : Nat}
    (h : Wch w B b p g1 c1 g2 c2 n cf v8 (.slice (some ⟨gh, 0, none⟩) m ch) fi vf st ho hd fl P C) {i : Nat} {x : Int × Bool} (hx : hd[i]? = some x) (c : Bool) :
    Wch (w.setCell ⟨gh, i * 2 + 1, none⟩ (.bool c)) B b p g1 c1 g2 c2 n cf v8 (.slice (some ⟨gh, 0, none⟩) m ch) fi vf st ho (hd.set i (x.1, c)) fl P C ∧ Only (fun q => q = gh) w (w.setCell ⟨gh, i * 2 + 1, none⟩ (.bool c)) := by
  obtain ⟨n1, n2, n3, nh, nf⟩ := h.nes
  obtain ⟨k1, k2, k3, k4, k5⟩ := nh gh rfl
  have o : Only (fun q => q = gh) w (w.setCell ⟨gh, i * 2 + 1, none⟩ (.bool c)) := (Only.refl (fun q => q = gh) w).setCell ⟨gh, i * 2 + 1, none⟩ (.bool c) fun _ => rfl
  have hm : m = hd.length := by
    rcases h.hol.2 with ⟨h1, _⟩ | ⟨_, _, _, hv, _⟩
    · cases h1
    · injection hv
  subst hm
  have hr := (h.hol.stored (i * 2 + 1) (.bool c)).1
  have hs := flat_set2 hd i x.1 c
  rw [set_same (flat_get2 hx).1] at hs
  rw [hs] at hr
  refine ⟨⟨h.wat.only o fun e => k1 e.symm, h.slo.only o (fun e => k2 e.symm) (fun e => k3 e.symm) (fun e => k4 e.symm), by rw [List.length_set]; exact hr, own_only h.fau o fun q hq (e : q = gh) => k5 (by rw [← e]; exact hq), h.lcf, h.lp, h.lc, h.low⟩, o⟩
theorem pkF_len {P : List Int} (h : P.length = 7) (st : List Int) : (pkF P st).length = 7 := by
  match P, h with
  | [a0, a1, a2, a3, a4, a5, a6], _ => rfl
theorem Wch.counted {w w' : World} {B b p g1 c1 g2 c2 n : Nat} {cf : List Value} {v8 vh : Value} {fi : Int} {vf : Value} {st ho : List Int} {hd : List (Int × Bool)} {fl : List Fl} {P C : List Int} (h : Wch w B b p g1 c1 g2 c2 n cf v8 vh fi vf st ho hd fl P C)
    (hW : WObj w' b (frW cf p v8 vh fi vf) (pkF P st ++ cntsF st)) (o : Only (fun q => q = b) w w') : Wch w' B b p g1 c1 g2 c2 n cf v8 vh fi vf st ho hd fl (pkF P st) (cntsF st) := by
  obtain ⟨n1, n2, n3, nh, nf⟩ := h.nes
  exact ⟨hW, h.slo.only o (fun e => n1 e.symm) (fun e => n2 e.symm) (fun e => n3 e.symm), own_only h.hol o fun q hq e => (nh q hq).1 e, own_only h.fau o fun q hq e => (nf q hq).1 e, h.lcf, pkF_len h.lp st, rfl, h.low⟩
theorem Rd.only {w w' : World} {A : Option Addr} {us : List Value} {S : Nat → Prop} (h : Rd w A us) (o : Only S w w') (hs : ∀ b off, A = some ⟨b, off, none⟩ → ¬ S b) : Rd w' A us := fun hne => by
  obtain ⟨b, off, hA, hb, hc⟩ := h hne
  refine ⟨b, off, hA, Nat.lt_of_lt_of_le hb o.size, fun j u hu => ?_⟩
  rw [← hc j u hu]
  unfold World.cell?
  simp only [o.block b hb (hs b off hA)]

/-- What a monitor leaves. -/
def ChangesOut (w : World) (B b p g1 c1 g2 c2 n : Nat) (cf : List Value) (v8 vh : Value) (fi : Int) (vf : Value) (s : CS) (e : Ending) (w' : World) : Prop :=
  e = .returned (.tuple #[]) ∧ ∃ vf', Wch w' B b p g1 c1 g2 c2 n cf v8 vh fi vf' s.st s.ho s.hd s.fl s.P s.C ∧ Only (WMine b p g1 g2 vh vf) w w' ∧ (∀ q, vf'.ownBlock = some q → vf.ownBlock = some q ∨ w.heap.size ≤ q)

theorem lens_putS (x : Sh) (st : List Int) : (putS x st).length = st.length := by simp [putS]
theorem bd_putS {x : Sh} {st : List Int} (h : ∀ y ∈ st, 0 ≤ y ∧ y ≤ 5) (h0 : 0 ≤ x.to) (h1 : x.to ≤ 5) : ∀ y ∈ putS x st, 0 ≤ y ∧ y ≤ 5 := by
  intro y hy
  rcases List.mem_or_eq_of_mem_set hy with h2 | rfl
  · exact h y h2
  · exact ⟨h0, h1⟩

set_option maxRecDepth 100000 in
set_option maxHeartbeats 8000000 in
theorem changes_any (T R H Re Ca S Bk : Int) (B b p g1 c1 g2 c2 n gh ch m : Nat) (hn : (n : Int) = S) (hn1 : n ≤ 1024) (hm1 : m ≤ 128) (v8 : Value) (fi : Int) (vf : Value) (s0 : CS) (hm : s0.hd.length = m) (mv : Int) (accv : Value) (A : Option Addr) (ns cs : Nat) (xs : List Sh)
    (w : World) (hW : Wch w B b p g1 c1 g2 c2 n [.int .i64 T, .int .i64 R, .int .i64 H, .int .i64 Re, .int .i64 Ca, .int .i64 S, .int .i64 Bk] v8 (.slice (some ⟨gh, 0, none⟩) m ch) fi vf s0.st s0.ho s0.hd s0.fl s0.P s0.C)
    (hst : ∀ y ∈ s0.st, 0 ≤ y ∧ y ≤ 5) (hx : Arr Sh.enc w A ns xs) (hA : ∀ bs os, A = some ⟨bs, os, none⟩ → ¬ WMine b p g1 g2 (.slice (some ⟨gh, 0, none⟩) m ch) vf bs) (hns : ns ≤ 2000000)
    (hxs : ∀ x ∈ xs, 0 ≤ x.sl ∧ x.sl < S ∧ 0 ≤ x.fr ∧ x.fr ≤ 5 ∧ 0 ≤ x.to ∧ x.to ≤ 5) (hf : s0.fl.length ≤ 4000000) :
    Calls Try.prog 118 #[.pointer (some ⟨b, 0, none⟩), .agg #[.int .i64 mv, accv, .slice A ns cs]] w
      (ChangesOut w B b p g1 c1 g2 c2 n [.int .i64 T, .int .i64 R, .int .i64 H, .int .i64 Re, .int .i64 Ca, .int .i64 S, .int .i64 Bk] v8 (.slice (some ⟨gh, 0, none⟩) m ch) fi vf (changesF mv s0 xs)) := by
  have HW := Lib.hid hW
  have HX := Lib.hid hx
  have HA := Lib.hid hA
  have Hst := Lib.hid hst
  have Hxs := Lib.hid hxs
  have Hm := Lib.hid hm
  clear hW hx hA hst hxs hm
  go_enter Try.func118, Try.ntmps118
  go_upto_region 1 with fail
  obtain ⟨w0, hw0, hM, hE, hlt0⟩ := enter1 w (.cells #[.int .i64 mv, accv, .slice A ns cs] 189)
  rw [hw0]
  have HE := Lib.hid hE
  have HM := Lib.hid hM
  obtain ⟨m0, m1, m2⟩ := Lat.cells3 hM
  obtain ⟨k0, hk0⟩ := lat_self w0
  rw [hk0]
  clear hw0 hM hE
  generalize hpm : w.heap.size = pm at *
  have Hpm := Lib.hid hpm
  clear hpm
  go_upto_region 2 with fail
  rw [← hk0]
  clear hk0 k0
  go_loopw [11] (fun s11 wr => ∃ (i : Nat) (s : CS) (vf' : Value), i ≤ ns ∧ s11 = .int .i64 i ∧ Hid (s = changesF mv s0 (xs.take i)) ∧ Hid (Wch wr B b p g1 c1 g2 c2 n [.int .i64 T, .int .i64 R, .int .i64 H, .int .i64 Re, .int .i64 Ca, .int .i64 S, .int .i64 Bk] v8 (.slice (some ⟨gh, 0, none⟩) m ch) fi vf' s.st s.ho s.hd s.fl s.P s.C) ∧
    Hid (Only (WMine b p g1 g2 (.slice (some ⟨gh, 0, none⟩) m ch) vf) w0 wr) ∧ Hid (∀ q, vf'.ownBlock = some q → vf.ownBlock = some q ∨ w0.heap.size ≤ q) ∧ Hid (∀ y ∈ s.st, 0 ≤ y ∧ y ≤ 5) ∧ Hid (s.hd.length = m) ∧ s.fl.length ≤ s0.fl.length + 2 * i) (fun s _ => ns - (intOf s).toNat)
  case atStart => exact ⟨0, s0, vf, by omega, rfl, rfl, HW.out.ext HE.out, Only.refl _ _, fun q hq => .inl hq, Hst.out, Hm.out, by omega⟩
  case round =>
    obtain ⟨i, s, vf', hi, rfl, Hs, Hr, Ho, Hv, Hb, Hl, hlen⟩ := hrel
    have hnm : ¬ WMine b p g1 g2 (.slice (some ⟨gh, 0, none⟩) m ch) vf pm := fun h => by
      have := (HW.out.lt h).2
      rw [Hpm.out] at this
      omega
    have HMr : Hid (wr.heap[pm]? = _) := (Ho.out.block pm hlt0 hnm).trans HM.out
    by_cases hlt : i < ns
    · have HXr : Hid (Arr Sh.enc wr A ns xs) := ⟨HX.out.1, (HX.out.2.ext HE.out).only Ho.out HA.out⟩
      obtain ⟨bs, os, x, hAx, hbs, hx, x0, x1, x2, x3, x4⟩ := Sh.at_ HXr.out hlt
      have h1 : (i : Int) < (ns : Int) := by omega
      have hi0 : (0 : Int) ≤ (i : Int) := by omega
      subst hAx
      obtain ⟨hsl0, hsl1, hfr0, hfr1, hto0, hto1⟩ := Hxs.out x (List.mem_of_getElem? hx.out)
      obtain ⟨xmv, xth, xsl, xfr, xto⟩ := x
      simp only at hsl0 hsl1 hfr0 hfr1 hto0 hto1 x0 x1 x2 x3 x4
      obtain ⟨j, rfl⟩ : ∃ j : Nat, xsl = (j : Int) := ⟨xsl.toNat, by omega⟩
      have hjn : j < n := by omega
      obtain ⟨m0, m1, m2⟩ := Lat.cells3 HMr.out
      obtain ⟨k, hk⟩ := lat_self wr
      rw [hk]
      clear hk
      go_upto_region 4 with fail
      obtain ⟨w3, hw3, hX, hE3, hlt3⟩ := enter1 k.world (.cells #[.int .i64 xmv, .int .i64 xth, .int .i64 j, .int .i64 xfr, .int .i64 xto] 136)
      rw [hw3]
      have HE3 := Lib.hid (Ext.next k.ok hE3)
      have H3 := Lib.hid (Hr.out.ext HE3.out)
      clear x0 x1 x2 x3 x4 m0 m1 m2
      obtain ⟨x0, x1, x2, x3, x4⟩ := Sh.boxed (mv := xmv) (th := xth) (sl := j) (fr := xfr) (t5 := xto) hX
      obtain ⟨m0, m1, m2⟩ := Lat.cells3 (ext_blk HE3.out HMr.out)
      have q7 := H3.out.wat.cell (frW_at H3.out.lcf _ _ _ _ _).1
      have HX4 := Lib.hid hX
      have HM4 := Lib.hid (ext_blk HE3.out HMr.out)
      obtain ⟨hj0, hhj, _⟩ := H3.out.slo.lat2 hjn
      have hal : ∀ c : Lat w3, _ := fun c => allowed_any B p g1 c1 g2 c2 n j s.st s.ho xmv xth xfr xto hj0 c.world (H3.out.slo.ext c.ok) hhj hfr0 hfr1 hto0 hto1
      have hfl1 : Hid (chF1 mv s.ho ⟨xmv, xth, j, xfr, xto⟩ s.fl = if allowF xfr xto (decide (hj0 = xth)) then s.fl else s.fl ++ [⟨3, mv, j⟩]) := by
        show _ = _
        unfold chF1
        rw [Int.toNat_natCast, List.getD_eq_getElem?_getD, hhj]
        rfl
      obtain ⟨k3, hk3⟩ := lat_self w3
      rw [hk3]
      generalize hpx : k.world.heap.size = px at *
      clear hw3 hX hE3 hk3 hhj
      generalize allowF xfr xto (decide (hj0 = xth)) = al at *
      refine wp_region_cls (Ext w3) (Ext.drew1 k3.ok) (by kernel_rfl) (by kernel_rfl) ?_
      repeat (go_big_quiet_step (exact calls_cls (keeps_ext _) (hal _)))
      refine wpQuiet_nil ?_
      rintro _ ⟨k4, rfl⟩
      clear hal
      go_upto_if 21 with fail
      go_cut [] (fun wx => ∃ vf1, Hid (Wch wx B b p g1 c1 g2 c2 n [.int .i64 T, .int .i64 R, .int .i64 H, .int .i64 Re, .int .i64 Ca, .int .i64 S, .int .i64 Bk] v8 (.slice (some ⟨gh, 0, none⟩) m ch) fi vf1 s.st s.ho s.hd (chF1 mv s.ho ⟨xmv, xth, j, xfr, xto⟩ s.fl) s.P s.C) ∧ Hid (Only (fun q => q = b ∨ vf'.ownBlock = some q) w3 wx) ∧ Hid (∀ q, vf1.ownBlock = some q → vf'.ownBlock = some q ∨ w3.heap.size ≤ q))
      case first =>
        cases al with
        | true =>
          go_wp2_with fail
          go_meet
          case rel => exact ⟨vf', by rw [hfl1.out]; exact H3.out.ext k4.ok, Only.of_ext k4.ok, fun q hq => .inl hq⟩
        | false =>
          go_upto_region 5 with fail
          obtain ⟨wq, hwq⟩ : ∃ wq, k4.world = wq := ⟨_, rfl⟩
          have HEq : Hid (Ext w3 wq) := hwq ▸ k4.ok
          rw [hwq]
          have Hq := Lib.hid (H3.out.ext HEq.out)
          have hBq : B ≤ wq.heap.size := Nat.le_trans (Hq.out.low) (Nat.le_of_lt (blk_lt Hq.out.wat.blk))
          have z0 : wq.cell? ⟨pm, 0, none⟩ = some (.int .i64 mv) := m0 ⟨wq, HEq.out⟩
          have z1 : wq.cell? ⟨px, 2, none⟩ = some (.int .i64 j) := x2 ⟨wq, HEq.out⟩
          have zb : wq.cell? ⟨b, 11, none⟩ = some vf' := Hq.out.wat.cell (frW_at Hq.out.lcf _ _ _ _ _).2.2.2.2 ⟨wq, Ext.rfl' _⟩
          have zf : wq.frozen? ⟨b, 11, none⟩ = false := Hq.out.wat.free 11 ⟨wq, Ext.rfl' _⟩
          have hbq : b < wq.heap.size := blk_lt Hq.out.wat.blk
          have hpq : pm < wq.heap.size := blk_lt (ext_blk HEq.out HM4.out)
          have hxq : px < wq.heap.size := blk_lt (ext_blk HEq.out HX4.out)
          have hb5 : b ≠ wq.heap.size := by have := blk_lt Hq.out.wat.blk; omega
          have hp5 : pm ≠ wq.heap.size := by have := blk_lt (ext_blk HEq.out HM4.out); omega
          have hx5 : px ≠ wq.heap.size := by have := blk_lt (ext_blk HEq.out HX4.out); omega
          have hcl : ([.int .i64 3, .int .i64 mv, .int .i64 j] : List Value).length = 1 * 3 := rfl
          have hrdE : ∀ w', Ext (wq.alloc (.cells #[.int .i64 3, .int .i64 mv, .int .i64 j] 65)) w' → Rd w' (some ⟨wq.heap.size, 0, none⟩) [.int .i64 3, .int .i64 mv, .int .i64 j] := fun w' e => (Rd.made wq [.int .i64 3, .int .i64 mv, .int .i64 j] 65).ext e
          have hone : ∀ u ∈ ([.int .i64 3, .int .i64 mv, .int .i64 j] : List Value), u.oneCell' = true := by intro u hu; simp at hu; rcases hu with rfl | rfl | rfl <;> rfl
          have hownE : ∀ w', Ext wq w' → w'.ownsRow B 65 3 vf' s.fl.length (s.fl.flatMap Fl.enc) := fun w' e => own_ext Hq.out.fau e
          have hcell : ∀ w1, wq.grownBy w1 vf'.ownBlock → w1.cell? ⟨b, 11, none⟩ = some vf' ∧ w1.frozen? ⟨b, 11, none⟩ = false := fun w1 hg => by
            have h1 := Hq.out.wat.only (Only.of_grown hg) fun e => (Hq.out.nes.2.2.2.2 b e.symm).1 rfl
            exact ⟨h1.cell (frW_at Hq.out.lcf _ _ _ _ _).2.2.2.2 ⟨w1, Ext.rfl' _⟩, h1.free 11 ⟨w1, Ext.rfl' _⟩⟩
          clear hwq m0 m1 m2 x0 x1 x2 x3 x4 q7
          go_region_law ((refine step_appendR _ rfl (.tmp 26) (.tmp 32) 58 rfl B 65 3 24 elemFault Try.underlying58 vf' s.fl.length _ (by simp [Act.eval]) (by first | exact hownE _ ((Ext.rfl' wq).alloc1 _) | exact hownE _ (((Ext.rfl' wq).drew1).alloc1 _) | exact hownE _ (((Ext.rfl' wq).alloc1 _).drew1)) (some ⟨wq.heap.size, 0, none⟩) 1 1 [.int .i64 3, .int .i64 mv, .int .i64 j] (by simp [Act.eval]) hcl (by first | exact hrdE _ (Ext.rfl' _) | exact hrdE _ (Ext.drawn _ 1)) hone (by omega) (by simp; omega) ?_; intro v' w1 hown1 hgrow1 hat1; have hgr : wq.grownBy w1 vf'.ownBlock := (by first | exact grownBy_of_alloc hgrow1 | exact grownBy_of_alloc (grown_drewn hgrow1) | exact grown_drewn (grownBy_of_alloc hgrow1)); have hc1 := (hcell w1 hgr).1; have hf1 := (hcell w1 hgr).2; obtain ⟨g5, c5, rfl, _, _, _⟩ := own_form1 hown1 (by omega)))
          all_goals
            have hm := Hq.out.told (x := ⟨3, mv, j⟩) hown1 hgr (hat1.imp id fun e => ⟨_, e, by simp⟩)
            clear hownE hrdE hcell
            go_wp2_with fail
            go_meet
            case rel => exact ⟨_, by rw [hfl1.out]; exact hm.1, (Only.of_ext (S := fun q => q = b ∨ vf'.ownBlock = some q) HEq.out).trans hm.2.1 fun _ _ h => h, fun q hq => (hm.2.2 q hq).imp id fun e => Nat.le_trans HEq.out.size e⟩

      obtain ⟨vf1, H5, O5, V5⟩ := hcut
      obtain ⟨w5, rfl⟩ : ∃ w5 : World, w5 = wc := ⟨_, rfl⟩
      have hpxb : px ≠ b := blk_two HX4.out H3.out.wat.blk (by decide)
      have hpmb : pm ≠ b := blk_two HM4.out H3.out.wat.blk (by decide)
      have HX5 : Hid (w5.heap[px]? = some (.cells #[.int .i64 xmv, .int .i64 xth, .int .i64 j, .int .i64 xfr, .int .i64 xto] 136 (0, 0))) := (O5.out.block px (blk_lt HX4.out) fun e => e.elim hpxb fun e => own_apart H3.out.fau HX4.out (by decide) e).trans HX4.out
      have HM5 : Hid (w5.heap[pm]? = some (.cells #[.int .i64 mv, accv, .slice (some ⟨bs, os, none⟩) ns cs] 189 (0, 0))) := (O5.out.block pm (blk_lt HM4.out) fun e => e.elim hpmb fun e => own_apart H3.out.fau HM4.out (by decide) e).trans HM4.out
      clear x0 x1 x2 x3 x4 m0 m1 m2 q7
      obtain ⟨x0, x1, x2, x3, x4⟩ := Sh.boxed (mv := xmv) (th := xth) (sl := j) (fr := xfr) (t5 := xto) HX5.out
      obtain ⟨m0, m1, m2⟩ := Lat.cells3 HM5.out
      have f9 := H5.out.wat.cell (frW_at H5.out.lcf _ _ _ _ _).2.2.1
      have f7 := H5.out.wat.cell (frW_at H5.out.lcf _ _ _ _ _).1
      have hl5 : (chF1 mv s.ho ⟨xmv, xth, j, xfr, xto⟩ s.fl).length ≤ s.fl.length + 1 := by
        unfold chF1
        split
        · omega
        · simp
      have hfl2 : Hid (chF2 mv s.hd ⟨xmv, xth, j, xfr, xto⟩ (chF1 mv s.ho ⟨xmv, xth, j, xfr, xto⟩ s.fl) = if (xfr = 5 ∧ xto ≤ 1) ∧ heldF s.hd j = true then chF1 mv s.ho ⟨xmv, xth, j, xfr, xto⟩ s.fl ++ [⟨4, mv, j⟩] else chF1 mv s.ho ⟨xmv, xth, j, xfr, xto⟩ s.fl) := rfl
      generalize hF1 : chF1 mv s.ho ⟨xmv, xth, j, xfr, xto⟩ s.fl = fl1 at *
      have HF1 := Lib.hid hF1
      clear hF1
      generalize hF2 : chF2 mv s.hd ⟨xmv, xth, j, xfr, xto⟩ fl1 = fl2 at *
      have HF2 := Lib.hid hF2
      clear hF2 hfl1
      obtain ⟨k5, hk5⟩ := lat_self w5
      rw [hk5]
      clear hk5
      go_upto_region 6 with fail
      go_cut [43] (fun s_ wr => ∃ (q : Bool) (k : Lat w5), s_ = .bool q ∧ Hid (q = true ↔ (xfr = 5 ∧ xto ≤ 1)) ∧ wr = k.world)
      case first =>
        rcases (by omega : xfr ≠ 5 ∨ (xfr = 5 ∧ xto ≤ 1) ∨ (xfr = 5 ∧ ¬ xto ≤ 1)) with h | ⟨h, h2⟩ | ⟨h, h2⟩
        case' inl =>
          have d1 : (xfr == 5) = false := by simpa using h
          have HQ : Hid (¬ (xfr = 5 ∧ xto ≤ 1)) := fun e => h e.1
          clear h
        case' inr.inl =>
          have d1 : (xfr == 5) = true := by simpa using h
          have d2 : decide (xto ≤ 1) = true := by simpa using h2
          have HQ : Hid (xfr = 5 ∧ xto ≤ 1) := ⟨h, h2⟩
          clear h h2
        case' inr.inr =>
          have d1 : (xfr == 5) = true := by simpa using h
          have d2 : decide (xto ≤ 1) = false := by simpa using h2
          have HQ : Hid (¬ (xfr = 5 ∧ xto ≤ 1)) := fun e => h2 e.2
          clear h h2
        all_goals
          go_wp2_with fail
          go_meet
          case rel => exact ⟨_, k5, rfl, (by first | exact ⟨fun _ => HQ.out, fun _ => rfl⟩ | exact ⟨(fun h => absurd h (by decide)), fun h => absurd h HQ.out⟩), rfl⟩
      obtain ⟨q, k6, rfl, hq, rfl⟩ := hcut
      go_upto_if 43 with fail
      go_cut [] (fun wx => ∃ vf2, Hid (Wch wx B b p g1 c1 g2 c2 n [.int .i64 T, .int .i64 R, .int .i64 H, .int .i64 Re, .int .i64 Ca, .int .i64 S, .int .i64 Bk] v8 (.slice (some ⟨gh, 0, none⟩) m ch) fi vf2 s.st s.ho s.hd fl2 s.P s.C) ∧ Hid (Only (fun q => q = b ∨ vf1.ownBlock = some q) w5 wx) ∧ Hid (∀ q, vf2.ownBlock = some q → vf1.ownBlock = some q ∨ w5.heap.size ≤ q))
      case first =>
        cases q with
        | false =>
          have HE0 : Hid (fl2 = fl1) := by
            show _ = _
            rw [hfl2.out]
            exact if_neg fun h => by
              have := hq.out.2 h.1
              cases this
          go_wp2_with fail
          go_meet
          case rel => exact ⟨vf1, by rw [HE0.out]; exact H5.out.ext k6.ok, Only.of_ext k6.ok, fun q hq => .inl hq⟩
        | true =>
          have hq1 := hq.out.1 rfl
          have HE0 : Hid (fl2 = if heldF s.hd j = true then fl1 ++ [⟨4, mv, j⟩] else fl1) := by
            show _ = _
            rw [hfl2.out]
            by_cases hh : heldF s.hd j = true
            · rw [if_pos ⟨hq1, hh⟩, if_pos hh]
            · rw [if_neg fun e => hh e.2, if_neg hh]
          have hmf : ∀ (fn : Fn) (first cap : Array Value) (w : World), (Instr.makeFunc fn first cap).run Try.prog w = .ok (.func fn first cap) w := fun _ _ _ _ => rfl
          have hhol : k6.world.ownsRow B 182 2 (.slice (some ⟨gh, 0, none⟩) m ch) m (s.hd.flatMap encH) := by
            have := (H5.out.ext k6.ok).hol
            rwa [Hl.out] at this
          have Hcon := Lib.hid (contains_any px gh m ch s.hd Hl.out hm1 j k6.world (Rd.of_own hhol) (x2 k6) (Nat.lt_of_lt_of_le (blk_lt HX5.out) k6.size))
          unfold cloV at Hcon
          clear hq hq1 hhol
          go_wp2_with fail
          refine Hcon.out.mono ?_
          rintro e w7 ⟨rfl, e7⟩
          obtain ⟨k7, rfl⟩ := lat_next k6 e7
          clear e7 Hcon hmf
          generalize heldF s.hd j = hb at *
          cases hb with
          | false =>
            go_wp2_with fail
            go_meet
            case rel => exact ⟨vf1, by rw [HE0.out]; exact H5.out.ext k7.ok, Only.of_ext k7.ok, fun q hq => .inl hq⟩
          | true =>
            go_upto_region 9 with fail
            obtain ⟨wq, hwq⟩ : ∃ wq, k7.world = wq := ⟨_, rfl⟩
            have HEq : Hid (Ext w5 wq) := hwq ▸ k7.ok
            rw [hwq]
            have Hq := Lib.hid (H5.out.ext HEq.out)
            have hBq : B ≤ wq.heap.size := Nat.le_trans (Hq.out.low) (Nat.le_of_lt (blk_lt Hq.out.wat.blk))
            have z0 : wq.cell? ⟨pm, 0, none⟩ = some (.int .i64 mv) := m0 ⟨wq, HEq.out⟩
            have z1 : wq.cell? ⟨px, 2, none⟩ = some (.int .i64 j) := x2 ⟨wq, HEq.out⟩
            have zb : wq.cell? ⟨b, 11, none⟩ = some vf1 := Hq.out.wat.cell (frW_at Hq.out.lcf _ _ _ _ _).2.2.2.2 ⟨wq, Ext.rfl' _⟩
            have zf : wq.frozen? ⟨b, 11, none⟩ = false := Hq.out.wat.free 11 ⟨wq, Ext.rfl' _⟩
            have hbq : b < wq.heap.size := blk_lt Hq.out.wat.blk
            have hpq : pm < wq.heap.size := blk_lt (ext_blk HEq.out HM5.out)
            have hxq : px < wq.heap.size := blk_lt (ext_blk HEq.out HX5.out)
            have hb5 : b ≠ wq.heap.size := by have := blk_lt Hq.out.wat.blk; omega
            have hp5 : pm ≠ wq.heap.size := by have := blk_lt (ext_blk HEq.out HM5.out); omega
            have hx5 : px ≠ wq.heap.size := by have := blk_lt (ext_blk HEq.out HX5.out); omega
            have hcl : ([.int .i64 4, .int .i64 mv, .int .i64 j] : List Value).length = 1 * 3 := rfl
            have hrdE : ∀ w', Ext (wq.alloc (.cells #[.int .i64 4, .int .i64 mv, .int .i64 j] 65)) w' → Rd w' (some ⟨wq.heap.size, 0, none⟩) [.int .i64 4, .int .i64 mv, .int .i64 j] := fun w' e => (Rd.made wq [.int .i64 4, .int .i64 mv, .int .i64 j] 65).ext e
            have hone : ∀ u ∈ ([.int .i64 4, .int .i64 mv, .int .i64 j] : List Value), u.oneCell' = true := by intro u hu; simp at hu; rcases hu with rfl | rfl | rfl <;> rfl
            have hownE : ∀ w', Ext wq w' → w'.ownsRow B 65 3 vf1 fl1.length (fl1.flatMap Fl.enc) := fun w' e => own_ext Hq.out.fau e
            have hcell : ∀ w1, wq.grownBy w1 vf1.ownBlock → w1.cell? ⟨b, 11, none⟩ = some vf1 ∧ w1.frozen? ⟨b, 11, none⟩ = false := fun w1 hg => by
              have h1 := Hq.out.wat.only (Only.of_grown hg) fun e => (Hq.out.nes.2.2.2.2 b e.symm).1 rfl
              exact ⟨h1.cell (frW_at Hq.out.lcf _ _ _ _ _).2.2.2.2 ⟨w1, Ext.rfl' _⟩, h1.free 11 ⟨w1, Ext.rfl' _⟩⟩
            clear hwq m0 m1 m2 x0 x1 x2 x3 x4 f7 f9
            go_region_law ((refine step_appendR _ rfl (.tmp 55) (.tmp 61) 58 rfl B 65 3 24 elemFault Try.underlying58 vf1 fl1.length _ (by simp [Act.eval]) (by first | exact hownE _ ((Ext.rfl' wq).alloc1 _) | exact hownE _ (((Ext.rfl' wq).drew1).alloc1 _) | exact hownE _ (((Ext.rfl' wq).alloc1 _).drew1)) (some ⟨wq.heap.size, 0, none⟩) 1 1 [.int .i64 4, .int .i64 mv, .int .i64 j] (by simp [Act.eval]) hcl (by first | exact hrdE _ (Ext.rfl' _) | exact hrdE _ (Ext.drawn _ 1)) hone (by omega) (by simp; omega) ?_; intro v' w1 hown1 hgrow1 hat1; have hgr : wq.grownBy w1 vf1.ownBlock := (by first | exact grownBy_of_alloc hgrow1 | exact grownBy_of_alloc (grown_drewn hgrow1) | exact grown_drewn (grownBy_of_alloc hgrow1)); have hc1 := (hcell w1 hgr).1; have hf1 := (hcell w1 hgr).2; obtain ⟨g5, c5, rfl, _, _, _⟩ := own_form1 hown1 (by omega)))
            all_goals
              have hm := Hq.out.told (x := ⟨4, mv, j⟩) hown1 hgr (hat1.imp id fun e => ⟨_, e, by simp⟩)
              clear hownE hrdE hcell
              go_wp2_with fail
              go_meet
              case rel => exact ⟨_, by rw [HE0.out]; exact hm.1, (Only.of_ext (S := fun q => q = b ∨ vf1.ownBlock = some q) HEq.out).trans hm.2.1 fun _ _ h => h, fun q hq => (hm.2.2 q hq).imp id fun e => Nat.le_trans HEq.out.size e⟩

      obtain ⟨vf2, H6, O6, V6⟩ := hcut
      obtain ⟨w6, rfl⟩ : ∃ w6 : World, w6 = wc := ⟨_, rfl⟩
      have hpxb : px ≠ b := blk_two HX5.out H5.out.wat.blk (by decide)
      have hpmb : pm ≠ b := blk_two HM5.out H5.out.wat.blk (by decide)
      have HX6 : Hid (w6.heap[px]? = some (.cells #[.int .i64 xmv, .int .i64 xth, .int .i64 j, .int .i64 xfr, .int .i64 xto] 136 (0, 0))) := (O6.out.block px (blk_lt HX5.out) fun e => e.elim hpxb fun e => own_apart H5.out.fau HX5.out (by decide) e).trans HX5.out
      have HN6 : Hid (Only (WMine b p g1 g2 (.slice (some ⟨gh, 0, none⟩) m ch) vf') wr w6) := ((Only.of_ext (S := WMine b p g1 g2 (.slice (some ⟨gh, 0, none⟩) m ch) vf') HE3.out).trans (O5.out.mono (S' := WMine b p g1 g2 (.slice (some ⟨gh, 0, none⟩) m ch) vf') fun q _ h => h.elim .inl fun h => .inr (.inr (.inr (.inr (.inr h))))) fun _ _ h => h).trans (O6.out.mono (S' := fun q => WMine b p g1 g2 (.slice (some ⟨gh, 0, none⟩) m ch) vf' q ∨ wr.heap.size ≤ q) fun q _ h => h.elim (fun h => .inl (.inl h)) fun h => (V5.out q h).elim (fun h => .inl (.inr (.inr (.inr (.inr (.inr h)))))) fun h => .inr (Nat.le_trans HE3.out.size h)) fun q hq h => h.elim id fun h => absurd h (Nat.not_le_of_lt hq)
      have HV6 : Hid (∀ q, vf2.ownBlock = some q → vf'.ownBlock = some q ∨ wr.heap.size ≤ q) := fun q h => (V6.out q h).elim (fun h => (V5.out q h).imp id fun h => Nat.le_trans HE3.out.size h) fun h => .inr (Nat.le_trans (Nat.le_trans HE3.out.size O5.out.size) h)
      have hl6 : fl2.length ≤ fl1.length + 1 := by
        rw [hfl2.out]
        split
        · simp
        · omega
      clear x0 x1 x2 x3 x4 m0 m1 m2 f7 f9 hpxb hpmb hfl2 V5 V6 O5 O6
      obtain ⟨x0, x1, x2, x3, x4⟩ := Sh.boxed (mv := xmv) (th := xth) (sl := j) (fr := xfr) (t5 := xto) HX6.out
      have f7 := H6.out.wat.cell (frW_at H6.out.lcf _ _ _ _ _).1
      obtain ⟨k8, hk8⟩ := lat_self w6
      rw [hk8]
      clear hk8
      go_upto_region 10 with fail
      refine wp_region_cls_tail (Ext w6) 5 (Ext.drew1 k8.ok) (by kernel_rfl) (by kernel_rfl) ?_
      simp only [List.take_succ_cons, List.take_zero, List.drop_succ_cons, List.drop_zero]
      repeat (go_big_quiet_step (fail))
      refine wpQuiet_nil ?_
      rintro _ ⟨k9, rfl⟩
      go_wp2_with fail
      refine (put_any B p g1 c1 g2 c2 n s.st s.ho ⟨xmv, xth, j, xfr, xto⟩ j rfl hjn _ (H6.out.slo.ext k9.ok)).mono ?_
      rintro e w7 ⟨rfl, hT, o7⟩
      have H7 := Lib.hid ((H6.out.ext k9.ok).put hT o7)
      have hg1 := (H6.out.lt (q := g1) (.inr (.inr (.inl rfl)))).1
      have HX7 : Hid (w7.heap[px]? = some (.cells #[.int .i64 xmv, .int .i64 xth, .int .i64 j, .int .i64 xfr, .int .i64 xto] 136 (0, 0))) := (o7.block px (blk_lt (ext_blk k9.ok HX6.out)) fun e => e.elim (fun e => own_apart H6.out.slo.own1 HX6.out (by decide) (by rw [e]; rfl)) fun e => own_apart H6.out.slo.own2 HX6.out (by decide) (by rw [e]; rfl)).trans (ext_blk k9.ok HX6.out)
      have HN7 : Hid (Only (WMine b p g1 g2 (.slice (some ⟨gh, 0, none⟩) m ch) vf') wr w7) := (HN6.out.trans (Only.of_ext (S := WMine b p g1 g2 (.slice (some ⟨gh, 0, none⟩) m ch) vf') k9.ok) fun _ _ h => h).trans (o7.mono (S' := WMine b p g1 g2 (.slice (some ⟨gh, 0, none⟩) m ch) vf') fun q _ h => h.elim (fun h => .inr (.inr (.inl h))) fun h => .inr (.inr (.inr (.inl h)))) fun _ _ h => h
      clear hT o7 x0 x1 x2 x3 x4 f7 HN6 hg1
      generalize hS7 : putS ⟨xmv, xth, j, xfr, xto⟩ s.st = st7 at *
      generalize hH7 : putH ⟨xmv, xth, j, xfr, xto⟩ s.ho = ho7 at *
      have HS7 := Lib.hid hS7
      have HH7 := Lib.hid hH7
      clear hS7 hH7
      obtain ⟨x0, x1, x2, x3, x4⟩ := Sh.boxed (mv := xmv) (th := xth) (sl := j) (fr := xfr) (t5 := xto) HX7.out
      have f9 := H7.out.wat.cell (frW_at H7.out.lcf _ _ _ _ _).2.2.1
      have HC7 : Hid (chH s.hd ⟨xmv, xth, j, xfr, xto⟩ = if xto = 3 then s.hd.map (linkH j) else s.hd) := rfl
      generalize hhd7 : chH s.hd ⟨xmv, xth, j, xfr, xto⟩ = hd7 at *
      have HD7 := Lib.hid hhd7
      clear hhd7
      obtain ⟨k10, hk10⟩ := lat_self w7
      rw [hk10]
      clear hk10
      go_upto_if 73 with fail
      go_cut [] (fun wx => Hid (Wch wx B b p g1 c1 g2 c2 n [.int .i64 T, .int .i64 R, .int .i64 H, .int .i64 Re, .int .i64 Ca, .int .i64 S, .int .i64 Bk] v8 (.slice (some ⟨gh, 0, none⟩) m ch) fi vf2 st7 ho7 hd7 fl2 s.P s.C) ∧ Hid (Only (fun q => q = gh) w7 wx))
      case first =>
        by_cases h3 : xto = 3
        · have hd3 : (xto == 3) = true := by simpa using h3
          have HE7 : Hid (hd7 = s.hd.map (linkH j)) := by
            show _ = _
            rw [HC7.out, if_pos h3]
          clear h3
          go_upto_region 13 with fail
          go_loopw [79] (fun s79 wx => ∃ i : Nat, i ≤ m ∧ s79 = .int .i64 i ∧ Hid (Wch wx B b p g1 c1 g2 c2 n [.int .i64 T, .int .i64 R, .int .i64 H, .int .i64 Re, .int .i64 Ca, .int .i64 S, .int .i64 Bk] v8 (.slice (some ⟨gh, 0, none⟩) m ch) fi vf2 st7 ho7 (linkN j i s.hd) fl2 s.P s.C) ∧ Hid (Only (fun q => q = gh) w7 wx)) (fun s_ _ => m - (intOf s_).toNat)
          case atStart => exact ⟨0, by omega, rfl, H7.out.ext k10.ok, Only.of_ext k10.ok⟩
          case round =>
            clear x0 x1 x2 x3 x4 f9
            obtain ⟨i', hi', rfl, H8, O8⟩ := hrel
            have HX8 : Hid (wr.heap[px]? = some (.cells #[.int .i64 xmv, .int .i64 xth, .int .i64 j, .int .i64 xfr, .int .i64 xto] 136 (0, 0))) := (O8.out.block px (blk_lt HX7.out) fun e => own_apart H7.out.hol HX7.out (by decide) (by rw [e]; rfl)).trans HX7.out
            obtain ⟨x0, x1, x2, x3, x4⟩ := Sh.boxed (mv := xmv) (th := xth) (sl := j) (fr := xfr) (t5 := xto) HX8.out
            have f9 := H8.out.wat.cell (frW_at H8.out.lcf _ _ _ _ _).2.2.1
            by_cases hlt' : i' < m
            · have h1' : (i' : Int) < (m : Int) := by omega
              have hi0' : (0 : Int) ≤ (i' : Int) := by omega
              obtain ⟨⟨ha, hlk⟩, hxa⟩ : ∃ o, s.hd[i']? = some o := ⟨_, List.getElem?_eq_getElem (by rw [Hl.out]; exact hlt')⟩
              obtain ⟨hxb, hxc⟩ := linkN_at j hxa
              have hhol : wr.ownsRow B 182 2 (.slice (some ⟨gh, 0, none⟩) m ch) m ((linkN j i' s.hd).flatMap encH) := by
                have := H8.out.hol
                have hln : (linkN j i' s.hd).length = m := by
                  have hl0 := Hl.out
                  unfold linkN
                  simp
                  omega
                rwa [hln] at this
              obtain ⟨hga, hgb⟩ := flat_get2 hxb
              have z0 : ∀ c : Lat wr, c.world.cell? ⟨gh, i' * 2, none⟩ = some (.int .i64 ha) := fun c => ((own_ext hhol c.ok).cellAt (i' * 2) (by omega)).trans hga
              have z1 : ∀ c : Lat wr, c.world.cell? ⟨gh, i' * 2 + 1, none⟩ = some (.bool hlk) := fun c => ((own_ext hhol c.ok).cellAt (i' * 2 + 1) (by omega)).trans hgb
              have zf : ∀ c : Lat wr, c.world.frozen? ⟨gh, i' * 2 + 1, none⟩ = false := fun c => (own_ext hhol c.ok).frozenAt (i' * 2 + 1)
              have HXB := Lib.hid hxb
              have HXC := Lib.hid hxc
              clear hhol hga hgb hxa hxb hxc
              have hval : ∃ c : Bool, Hid (linkH j (ha, hlk) = (ha, c)) ∧ (hlk = true ∧ c = true ∨ hlk = false ∧ (ha == (j : Int)) = c) := by
                cases hlk with
                | true => exact ⟨true, rfl, .inl ⟨rfl, rfl⟩⟩
                | false => exact ⟨(ha == (j : Int)), by show _ = _; simp only [linkH, Bool.false_or]; rfl, .inr ⟨rfl, rfl⟩⟩
              obtain ⟨cv, HCV, hcv⟩ := hval
              obtain ⟨k11, hk11⟩ := lat_self wr
              rw [hk11]
              clear hk11
              go_upto_region 15 with fail
              rcases hcv with ⟨rfl, rfl⟩ | ⟨rfl, hcv⟩
              · refine wp_region_cls_tail (Ext wr) 28 (Ext.drew1 k11.ok) (by kernel_rfl) (by kernel_rfl) ?_
                simp only [List.take_succ_cons, List.take_zero, List.drop_succ_cons, List.drop_zero]
                repeat (go_big_quiet_step (fail))
                refine wpQuiet_nil ?_
                rintro _ ⟨k12, rfl⟩
                go_wp2_with fail
                have hst := (H8.out.ext k12.ok).held1 HXB.out true
                rw [show ((ha, true) : Int × Bool) = linkH j (ha, true) from HCV.out.symm, HXC.out] at hst
                go_roundw
                case rel => exact ⟨i' + 1, by omega, by go_num, hst.1, (O8.out.trans (Only.of_ext (S := fun q => q = gh) k12.ok) fun _ _ h => h).trans hst.2 fun _ _ h => h⟩
                case measure => simp [intOf]; omega
              · refine wp_region_cls_tail (Ext wr) 28 (Ext.drew1 k11.ok) (by kernel_rfl) (by kernel_rfl) ?_
                simp only [List.take_succ_cons, List.take_zero, List.drop_succ_cons, List.drop_zero]
                repeat (go_big_quiet_step (fail))
                refine wpQuiet_nil ?_
                rintro _ ⟨k12, rfl⟩
                go_wp2_with fail
                have hst := (H8.out.ext k12.ok).held1 HXB.out cv
                rw [show ((ha, cv) : Int × Bool) = linkH j (ha, false) from HCV.out.symm, HXC.out] at hst
                go_roundw
                case rel => exact ⟨i' + 1, by omega, by go_num, hst.1, (O8.out.trans (Only.of_ext (S := fun q => q = gh) k12.ok) fun _ _ h => h).trans hst.2 fun _ _ h => h⟩
                case measure => simp [intOf]; omega
            · obtain rfl : m = i' := by omega
              have HEE : Hid (linkN j m s.hd = hd7) := by
                show _ = _
                rw [HE7.out]
                exact linkN_all j Hl.out
              obtain ⟨k11, hk11⟩ := lat_self wr
              rw [hk11]
              clear hk11
              go_wp2_with fail
              go_meet
              case rel => exact ⟨by rw [← HEE.out]; exact H8.out.ext k11.ok, O8.out.trans (Only.of_ext (S := fun q => q = gh) k11.ok) fun _ _ h => h⟩
        · have hd3 : (xto == 3) = false := by simpa using h3
          have HE7 : Hid (hd7 = s.hd) := by
            show _ = _
            rw [HC7.out, if_neg h3]
          clear h3
          go_wp2_with fail
          go_meet
          case rel => exact ⟨by rw [HE7.out]; exact H7.out.ext k10.ok, Only.of_ext k10.ok⟩
      obtain ⟨H9, O9⟩ := hcut
      have f7 := H9.out.wat.cell (frW_at H9.out.lcf _ _ _ _ _).1
      have HB7 := Lib.hid (bd_putS (x := ⟨xmv, xth, j, xfr, xto⟩) Hb.out hto0 hto1)
      rw [HS7.out] at HB7
      have HLD : Hid (hd7.length = m) := by
        show _ = _
        rw [HC7.out]
        split
        · rw [List.length_map, Hl.out]
        · exact Hl.out
      have HN9 : Hid (Only (WMine b p g1 g2 (.slice (some ⟨gh, 0, none⟩) m ch) vf') wr wc) := HN7.out.trans (O9.out.mono (S' := WMine b p g1 g2 (.slice (some ⟨gh, 0, none⟩) m ch) vf') fun q _ h => .inr (.inr (.inr (.inr (.inl (by rw [h]; rfl)))))) fun _ _ h => h
      clear x0 x1 x2 x3 x4 f9
      go_wp2_with fail
      refine (count_all B b p g1 c1 g2 c2 n _ s.P s.C st7 ho7 wc H9.out.lp H9.out.lc H9.out.wat (frW_at H9.out.lcf _ _ _ _ _).1 H9.out.slo HB7.out hn1 ⟨H9.out.nes.1, H9.out.nes.2.1, H9.out.nes.2.2.1⟩).mono ?_
      rintro e w9 ⟨rfl, hW9, o9⟩
      have H10 := Lib.hid (H9.out.counted hW9 o9)
      have O10 := Lib.hid o9
      have HST : Hid ((⟨st7, ho7, hd7, fl2, pkF s.P st7, cntsF st7⟩ : CS) = changesF mv s0 (xs.take (i + 1))) := by
        show _ = _
        rw [List.take_add_one, hx.out, Option.toList_some, changesF_snoc, ← Hs.out]
        unfold stepC
        rw [HS7.out, HH7.out, HD7.out, HF1.out, HF2.out]
      have HV9 : Hid (∀ q, vf2.ownBlock = some q → vf.ownBlock = some q ∨ w0.heap.size ≤ q) := fun q h => (HV6.out q h).elim (Hv.out q) fun h => .inr (Nat.le_trans Ho.out.size h)
      have HO9 : Hid (Only (WMine b p g1 g2 (.slice (some ⟨gh, 0, none⟩) m ch) vf) w0 w9) := Ho.out.trans ((HN9.out.trans (o9.mono (S' := WMine b p g1 g2 (.slice (some ⟨gh, 0, none⟩) m ch) vf') fun q _ h => .inl h) fun _ _ h => h).mono (S' := fun q => WMine b p g1 g2 (.slice (some ⟨gh, 0, none⟩) m ch) vf q ∨ w0.heap.size ≤ q) fun q _ h => by
        rcases h with h | h | h | h | h | h
        · exact .inl (.inl h)
        · exact .inl (.inr (.inl h))
        · exact .inl (.inr (.inr (.inl h)))
        · exact .inl (.inr (.inr (.inr (.inl h))))
        · exact .inl (.inr (.inr (.inr (.inr (.inl h)))))
        · exact (Hv.out q h).imp (fun h => .inr (.inr (.inr (.inr (.inr h))))) id) fun q hq h => h.elim id fun h => absurd h (Nat.not_le_of_lt hq)
      clear hW9 o9
      go_wp2_with fail
      go_roundw
      case rel => exact ⟨i + 1, _, vf2, by omega, by go_num, HST.out, H10.out, HO9.out, HV9.out, HB7.out, HLD.out, by show fl2.length ≤ _; omega⟩
      case measure => simp [intOf]; omega
    · obtain rfl : ns = i := by omega
      rw [List.take_of_length_le (by rw [HX.out.1]; exact Nat.le_refl _)] at Hs
      go_wp2_with fail
      go_end0
      rw [← Hs.out]
      refine ⟨rfl, vf', Hr.out, ((Only.of_ext (S := WMine b p g1 g2 (.slice (some ⟨gh, 0, none⟩) m ch) vf) HE.out).trans Ho.out fun _ _ h => h), fun q hq => (Hv.out q hq).imp id fun h => Nat.le_trans HE.out.size h⟩

end Go.Proofs.Ytfbacopjookplaa
