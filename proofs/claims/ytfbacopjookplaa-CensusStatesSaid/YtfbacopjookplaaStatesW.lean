/- The walk of the statement on the states and holders ahead of every move. -/
import Derived.Test.YtfbacopjookplaaRefSlots
import Derived.Test.YtfbacopjookplaaShiftsPure
import Derived.Deep.DeepCutAuto
import Derived.Test.YtfbacopjookplaaMaysW
namespace Go.Proofs.Ytfbacopjookplaa
open Go.RowKit
open Go.ChangeShapes Go.WideShapes Go.ChangeAt Go.RowKit

def afterS (st : List Int) (l : List Sh) : List Int := l.foldl (fun st x => putS x st) st
def afterH (ho : List Int) (l : List Sh) : List Int := l.foldl (fun ho x => putH x ho) ho
theorem afterS_snoc (st : List Int) (l : List Sh) (x : Sh) : afterS st (l ++ [x]) = putS x (afterS st l) := by simp [afterS]
theorem afterH_snoc (ho : List Int) (l : List Sh) (x : Sh) : afterH ho (l ++ [x]) = putH x (afterH ho l) := by simp [afterH]
/-- The shifts below a move. -/
def belowM (sh : List Sh) (m : Int) : List Sh := sh.filter (fun x => decide (x.mv < m))
/-- The shifts' moves do not fall. -/
def Rising (sh : List Sh) : Prop := ∀ (i j : Nat) (x y : Sh), i < j → sh[i]? = some x → sh[j]? = some y → x.mv ≤ y.mv
theorem below_take {sh : List Sh} {m : Int} {i : Nat} (h : ∀ x ∈ sh.take i, x.mv < m) : belowM (sh.take i) m = sh.take i := List.filter_eq_self.2 fun x hx => by simpa using h x hx
theorem below_stop {sh : List Sh} {m : Int} {i : Nat} {y : Sh} (hr : Rising sh) (h : ∀ x ∈ sh.take i, x.mv < m) (hy : sh[i]? = some y) (hn : ¬ y.mv < m) : belowM sh m = sh.take i := by
  have e : sh = sh.take i ++ sh.drop i := (List.take_append_drop i sh).symm
  conv => lhs; rw [e]
  unfold belowM
  rw [List.filter_append, List.filter_eq_self.2 fun x hx => by simpa using h x hx]
  have : (sh.drop i).filter (fun x => decide (x.mv < m)) = [] := List.filter_eq_nil_iff.2 fun x hx => by
    obtain ⟨j, hj⟩ := List.getElem?_of_mem hx
    rw [List.getElem?_drop] at hj
    by_cases h0 : j = 0
    · subst h0
      rw [Nat.add_zero, hy] at hj
      injection hj with hj
      subst hj
      simpa using hn
    · have := hr i (i + j) y x (by omega) hy hj
      simp
      omega
  rw [this, List.append_nil]
theorem below_all {sh : List Sh} {m : Int} {n : Nat} (hl : sh.length = n) (h : ∀ x ∈ sh.take n, x.mv < m) : belowM sh m = sh.take n := by
  have e : sh.take n = sh := List.take_of_length_le (by omega)
  rw [e] at h ⊢
  exact List.filter_eq_self.2 fun x hx => by simpa using h x hx
theorem below_snoc {sh : List Sh} {m : Int} {i : Nat} {x : Sh} (hx : sh[i]? = some x) : belowM (sh.take (i + 1)) m = if x.mv < m then belowM (sh.take i) m ++ [x] else belowM (sh.take i) m := by
  unfold belowM
  rw [List.take_add_one, hx, List.filter_append]
  by_cases h : x.mv < m <;> simp [h]

/-- What ahead leaves. -/
def AheadOut (w : World) (s : Nat) (st ho : List Int) (e : Ending) (w' : World) : Prop :=
  ∃ p g1 c1 g2 c2, e = .returned (.pointer (some ⟨p, 0, none⟩)) ∧ SlotsObj w' w.heap.size p g1 c1 g2 c2 s st ho ∧ Ext w w'

set_option maxRecDepth 100000 in
set_option maxHeartbeats 4000000 in
theorem ahead_any (T R H Re Ca S B : Int) (s : Nat) (hS : S = s) (hs1 : 1 ≤ s) (hs2 : s ≤ 1024) (u : Nat)
    (A1 : Option Addr) (n1 c1 : Nat) (A2 : Option Addr) (n2 c2 : Nat) (A3 : Option Addr) (n3 c3 : Nat) (A4 : Option Addr) (n4 c4 : Nat) (sh : List Sh) (m : Int) (w : World)
    (hm : Arr Sh.enc w A3 n3 sh) (hn3 : n3 ≤ 140737488355328) (hsl : ∀ x ∈ sh, 0 ≤ x.sl ∧ x.sl < s) (hri : Rising sh) :
    Calls Try.prog 89 #[(.agg #[.int .i64 T, .int .i64 R, .int .i64 H, .int .i64 Re, .int .i64 Ca, .int .i64 S, .int .i64 B]), .int .i64 u, .agg #[.slice A1 n1 c1, .slice A2 n2 c2, .slice A3 n3 c3, .slice A4 n4 c4], .int .i64 m] w
      (AheadOut w s (afterS (beginS s u) (belowM sh m)) (afterH (List.replicate s (-1)) (belowM sh m))) := by
  subst hS
  have Hm := Lib.hid hm
  have Hsl := Lib.hid hsl
  have Hri := Lib.hid hri
  have Hbegin := Lib.hid (fun w => begin_any T R H Re Ca (s : Int) B s rfl hs1 hs2 u w)
  generalize hst : afterS (beginS s u) (belowM sh m) = st'
  generalize hho : afterH (List.replicate s (-1)) (belowM sh m) = ho'
  have Hst := Lib.hid hst
  have Hho := Lib.hid hho
  clear hm hsl hri hst hho
  go_enter Try.func89, Try.ntmps89
  go_upto_region 1 with fail
  obtain ⟨w0, hw0, hC, hR, hE, hlt0⟩ := enter2 w (.cells (cfgV T R H Re Ca s B) 23) (.cells #[.slice A1 n1 c1, .slice A2 n2 c2, .slice A3 n3 c3, .slice A4 n4 c4] 48)
  rw [hw0]
  have HE := Lib.hid hE
  have Hm0 := Lib.hid (Hm.out.ext hE)
  obtain ⟨d0, d1, d2, d3, d4, d5, d6⟩ := Lat.cfg hC
  obtain ⟨r0, r1, r2, r3⟩ := Lat.run hR
  obtain ⟨k0, hk0⟩ := lat_self w0
  rw [hk0]
  clear hw0 hC hR hE hk0 hlt0
  go_wp2_with fail
  refine (Hbegin.out _).mono ?_
  rintro e w1 ⟨p, g1, q1, g2, q2, rfl, hsl, e1⟩
  have HS1 : Hid (SlotsObj w1 w0.heap.size p g1 q1 g2 q2 s (beginS s u) (List.replicate s (-1))) := ⟨hsl.blk, own_base hsl.own1 k0.ok.size, own_base hsl.own2 k0.ok.size, Nat.le_trans k0.ok.size hsl.low⟩
  obtain ⟨k1, rfl⟩ := lat_next k0 e1
  clear hsl e1
  go_wp2_with fail
  go_loopw [18] (fun s18 wr => ∃ (k : Lat w0) (i : Nat), wr = k.world ∧ i ≤ n3 ∧ s18 = .int .i64 i ∧ Hid (SlotsObj k.world w0.heap.size p g1 q1 g2 q2 s (afterS (beginS s u) (sh.take i)) (afterH (List.replicate s (-1)) (sh.take i))) ∧ Hid (∀ x ∈ sh.take i, x.mv < m)) (fun s_ _ => n3 - (intOf s_).toNat)
  case atStart => exact ⟨k1, 0, rfl, by omega, rfl, HS1, fun x hx => by simp at hx⟩
  case round =>
    clear HS1 k1 k0
    obtain ⟨k, i, rfl, hi, rfl, HS, hall⟩ := hrel
    by_cases hlt : i < n3
    · obtain ⟨ba, off, x, hAx, hb, hx, x0, x1, x2, x3, x4⟩ := Sh.at_ Hm0.out hlt
      have g1' : (i : Int) < (n3 : Int) := by omega
      have hi0 : (0 : Int) ≤ (i : Int) := by omega
      subst hAx
      go_upto_region 5 with fail
      obtain ⟨w3, hw3, hX, hE3, hlt3⟩ := enter1 k.world (.cells #[.int .i64 x.mv, .int .i64 x.th, .int .i64 x.sl, .int .i64 x.fr, .int .i64 x.to] 136)
      rw [hw3]
      clear x0 x1 x2 x3 x4
      have HX3 := Lib.hid (Ext.next k.ok hE3)
      have HS3 := Lib.hid (HS.out.ext hE3)
      obtain ⟨x0, x1, x2, x3, x4⟩ := Sh.boxed hX
      obtain ⟨k3, hk3⟩ := lat_self w3
      rw [hk3]
      generalize k.world.heap.size = px at *
      clear hw3 hX hE3 hk3 hlt3
      by_cases hmv : x.mv < m
      · have hd : decide (m ≤ x.mv) = false := decide_eq_false (by omega)
        have Hmv := Lib.hid hmv
        clear hmv
        obtain ⟨hs0, hs1'⟩ := Hsl.out x (List.mem_of_getElem? hx.out)
        obtain ⟨jj, hjj⟩ : ∃ jj : Nat, x.sl = jj := ⟨x.sl.toNat, by omega⟩
        have hjs : jj < s := by omega
        have Hjj := Lib.hid hjj
        clear hjj hs0 hs1'
        go_wp2_with fail
        refine (put_any w0.heap.size p g1 q1 g2 q2 s _ _ x jj Hjj.out hjs _ (HS3.out.ext k3.ok)).mono ?_
        rintro e w8 ⟨rfl, hT, o8⟩
        have hx8 : Ext w0 w8 := (Ext.next HX3.out k3.ok).only o8 fun q hq => by
          rcases hq with rfl | rfl
          · exact (HS3.out.own1.lt q rfl).1
          · exact (HS3.out.own2.lt q rfl).1
        obtain ⟨k9, rfl⟩ := lat_of hx8
        have HS9 : Hid (SlotsObj k9.world w0.heap.size p g1 q1 g2 q2 s (afterS (beginS s u) (sh.take (i + 1))) (afterH (List.replicate s (-1)) (sh.take (i + 1)))) := by
          have e : sh.take (i + 1) = sh.take i ++ [x] := by rw [List.take_add_one, hx.out]; rfl
          rw [e, afterS_snoc, afterH_snoc]
          exact hT
        have hall' : Hid (∀ y ∈ sh.take (i + 1), y.mv < m) := fun y hy => by
          rw [List.take_add_one, hx.out] at hy
          rcases List.mem_append.1 hy with hy | hy
          · exact hall.out y hy
          · simp at hy; subst hy; exact Hmv.out
        clear hT o8 hx8
        go_wp2_with fail
        go_roundw
        case rel => exact ⟨k9, i + 1, rfl, by omega, by go_num, HS9, hall'⟩
        case measure => simp [intOf]; omega
      · have hd : decide (m ≤ x.mv) = true := decide_eq_true (by omega)
        have hbl := below_stop Hri.out hall.out hx.out hmv
        have HSf : Hid (SlotsObj k3.world w0.heap.size p g1 q1 g2 q2 s st' ho') := by
          rw [← Hst.out, ← Hho.out, hbl]
          exact HS3.out.ext k3.ok
        clear hbl hmv
        go_wp2_with fail
        go_ret
        exact ⟨p, g1, q1, g2, q2, rfl, ⟨HSf.out.blk, own_base HSf.out.own1 HE.out.size, own_base HSf.out.own2 HE.out.size, Nat.le_trans HE.out.size HSf.out.low⟩, Ext.next HE.out (Ext.next HX3.out k3.ok)⟩
    · obtain rfl : n3 = i := by omega
      have hbl := below_all Hm.out.1 hall.out
      have HSf : Hid (SlotsObj k.world w0.heap.size p g1 q1 g2 q2 s st' ho') := by
        rw [← Hst.out, ← Hho.out, hbl]
        exact HS.out
      clear hbl
      go_wp2_with fail
      go_ret
      exact ⟨p, g1, q1, g2, q2, rfl, ⟨HSf.out.blk, own_base HSf.out.own1 HE.out.size, own_base HSf.out.own2 HE.out.size, Nat.le_trans HE.out.size HSf.out.low⟩, Ext.next HE.out k.ok⟩

/-- What the document's States leaves. -/
def RStatesOut (w : World) (s : Nat) (st ho : List Int) (e : Ending) (w' : World) : Prop :=
  ∃ g1 c1 g2 c2, e = .returned (.tuple #[.slice (some ⟨g1, 0, none⟩) s c1, .slice (some ⟨g2, 0, none⟩) s c2]) ∧ Two w' w.heap.size g1 c1 g2 c2 s st ho ∧ Ext w w'

set_option maxRecDepth 100000 in
set_option maxHeartbeats 4000000 in
theorem refStates_any (T R H Re Ca S B : Int) (s : Nat) (hS : S = s) (hs1 : 1 ≤ s) (hs2 : s ≤ 1024) (u : Nat)
    (A1 : Option Addr) (n1 c1 : Nat) (A2 : Option Addr) (n2 c2 : Nat) (A3 : Option Addr) (n3 c3 : Nat) (A4 : Option Addr) (n4 c4 : Nat) (sh : List Sh) (m : Int) (w : World)
    (hm : Arr Sh.enc w A3 n3 sh) (hn3 : n3 ≤ 140737488355328) (hsl : ∀ x ∈ sh, 0 ≤ x.sl ∧ x.sl < s) :
    Calls Try.prog 90 #[(.agg #[.int .i64 T, .int .i64 R, .int .i64 H, .int .i64 Re, .int .i64 Ca, .int .i64 S, .int .i64 B]), .int .i64 u, .agg #[.slice A1 n1 c1, .slice A2 n2 c2, .slice A3 n3 c3, .slice A4 n4 c4], .int .i64 m] w
      (RStatesOut w s (afterS (beginS s u) (belowM sh m)) (afterH (List.replicate s (-1)) (belowM sh m))) := by
  subst hS
  have Hm := Lib.hid hm
  have Hsl := Lib.hid hsl
  have Hbegin := Lib.hid (fun w => refBegin_any T R H Re Ca (s : Int) B s rfl hs1 hs2 u w)
  generalize hst : afterS (beginS s u) (belowM sh m) = st'
  generalize hho : afterH (List.replicate s (-1)) (belowM sh m) = ho'
  have Hst := Lib.hid hst
  have Hho := Lib.hid hho
  clear hm hsl hst hho
  go_enter Try.func90, Try.ntmps90
  go_upto_region 1 with fail
  obtain ⟨w0, hw0, hC, hR, hE, hlt0⟩ := enter2 w (.cells (cfgV T R H Re Ca s B) 23) (.cells #[.slice A1 n1 c1, .slice A2 n2 c2, .slice A3 n3 c3, .slice A4 n4 c4] 48)
  rw [hw0]
  have HE := Lib.hid hE
  have HR := Lib.hid hR
  have Hm0 := Lib.hid (Hm.out.ext hE)
  obtain ⟨d0, d1, d2, d3, d4, d5, d6⟩ := Lat.cfg hC
  obtain ⟨r0, r1, r2, r3⟩ := Lat.run hR
  obtain ⟨k0, hk0⟩ := lat_self w0
  rw [hk0]
  clear hw0 hC hR hE hk0 hlt0
  go_wp2_with fail
  refine (Hbegin.out _).mono ?_
  rintro e w1 ⟨g1, q1, g2, q2, rfl, htw, e1⟩
  have HT1 : Hid (Two w1 w0.heap.size g1 q1 g2 q2 s (beginS s u) (List.replicate s (-1))) := ⟨own_base htw.own1 k0.ok.size, own_base htw.own2 k0.ok.size⟩
  obtain ⟨k1, rfl⟩ := lat_next k0 e1
  clear htw e1
  go_wp2_with fail
  go_loopw [12] (fun s12 wr => ∃ (k : Lat w0) (i : Nat), wr = k.world ∧ i ≤ n3 ∧ s12 = .int .i64 i ∧ Hid (Two k.world w0.heap.size g1 q1 g2 q2 s (afterS (beginS s u) (belowM (sh.take i) m)) (afterH (List.replicate s (-1)) (belowM (sh.take i) m)))) (fun s_ _ => n3 - (intOf s_).toNat)
  case atStart => exact ⟨k1, 0, rfl, by omega, rfl, HT1⟩
  case round =>
    clear HT1 k1 k0
    obtain ⟨k, i, rfl, hi, rfl, HTw⟩ := hrel
    by_cases hlt : i < n3
    · obtain ⟨ba, off, x, hAx, hb, hx, x0, x1, x2, x3, x4⟩ := Sh.at_ Hm0.out hlt
      have g1' : (i : Int) < (n3 : Int) := by omega
      have hi0 : (0 : Int) ≤ (i : Int) := by omega
      subst hAx
      have hbs := below_snoc (m := m) hx.out
      by_cases hmv : x.mv < m
      · have hd : decide (x.mv < m) = true := decide_eq_true hmv
        rw [if_pos hmv] at hbs
        have Hbs := Lib.hid hbs
        clear hmv hbs
        obtain ⟨hs0, hs1'⟩ := Hsl.out x (List.mem_of_getElem? hx.out)
        obtain ⟨jj, hjj⟩ : ∃ jj : Nat, x.sl = jj := ⟨x.sl.toNat, by omega⟩
        have hjs : jj < s := by omega
        have Hjj := Lib.hid hjj
        clear hjj hs0 hs1'
        go_wp2_with fail
        refine (refPut_any w0.heap.size g1 q1 g2 q2 s _ _ x jj Hjj.out hjs _ HTw.out).mono ?_
        rintro e w8 ⟨rfl, hT, o8⟩
        have hx8 : Ext w0 w8 := k.ok.only o8 fun q hq => by
          rcases hq with rfl | rfl
          · exact (HTw.out.own1.lt q rfl).1
          · exact (HTw.out.own2.lt q rfl).1
        obtain ⟨k9, rfl⟩ := lat_of hx8
        have HT9 : Hid (Two k9.world w0.heap.size g1 q1 g2 q2 s (afterS (beginS s u) (belowM (sh.take (i + 1)) m)) (afterH (List.replicate s (-1)) (belowM (sh.take (i + 1)) m))) := by
          rw [Hbs.out, afterS_snoc, afterH_snoc]
          exact hT
        clear hT o8 hx8
        go_wp2_with fail
        go_roundw
        case rel => exact ⟨k9, i + 1, rfl, by omega, by go_num, HT9⟩
        case measure => simp [intOf]; omega
      · have hd : decide (x.mv < m) = false := decide_eq_false hmv
        rw [if_neg hmv] at hbs
        have HT9 : Hid (Two k.world w0.heap.size g1 q1 g2 q2 s (afterS (beginS s u) (belowM (sh.take (i + 1)) m)) (afterH (List.replicate s (-1)) (belowM (sh.take (i + 1)) m))) := by
          rw [hbs]
          exact HTw.out
        clear hmv hbs
        go_wp2_with fail
        go_roundw
        case rel => exact ⟨k, i + 1, rfl, by omega, by go_num, HT9⟩
        case measure => simp [intOf]; omega
    · obtain rfl : n3 = i := by omega
      have HTf : Hid (Two k.world w0.heap.size g1 q1 g2 q2 s st' ho') := by
        have h := HTw.out
        rw [List.take_of_length_le (by rw [Hm.out.1]; exact Nat.le_refl _)] at h
        rw [← Hst.out, ← Hho.out]
        exact h
      go_wp2_with fail
      go_ret2
      exact ⟨g1, q1, g2, q2, rfl, ⟨own_base HTf.out.own1 HE.out.size, own_base HTf.out.own2 HE.out.size⟩, Ext.next HE.out k.ok⟩

theorem shifts_all {l : List Cl} {tr : List Ac} {s : Nat} : ∀ (sh : List Sh) (p q : Int) (st : List Int), ShiftsF l tr s p q st sh → (∀ x ∈ sh, p ≤ x.mv ∧ 0 ≤ x.sl ∧ x.sl < s) ∧ Rising sh
  | [], _, _, _, _ => ⟨fun x hx => by simp at hx, fun i j x y _ hx => by simp at hx⟩
  | x :: sh, p, q, st, h => by
    obtain ⟨h1, _, h3, _, h5⟩ := h
    obtain ⟨a1, a2⟩ := shifts_all sh _ _ _ h5
    refine ⟨fun y hy => ?_, fun i j y z hij hy hz => ?_⟩
    · rcases List.mem_cons.1 hy with rfl | hy
      · exact ⟨h1.1, h3.1, h3.2.1⟩
      · have := a1 y hy
        have := h1.1
        exact ⟨by omega, by omega, by omega⟩
    · cases j with
      | zero => omega
      | succ j =>
        have hz' : sh[j]? = some z := by simpa using hz
        cases i with
        | zero =>
          simp at hy
          subst hy
          exact (a1 z (List.mem_of_getElem? hz')).1
        | succ i => exact a2 i j y z (by omega) (by simpa using hy) hz'
theorem look_zero {T R H Re Ca S B used : Int} {cs : List Cl} {tr : List Ac} {sh : List Sh} {rw_ : List Int} (h : lookF T R H Re Ca S B used cs tr sh rw_ = 0) : ∃ s u : Nat, S = s ∧ 1 ≤ s ∧ s ≤ 1024 ∧ used = u ∧ MayOK T R H Re Ca S B used cs tr sh rw_ ∧ (∀ x ∈ sh, 0 ≤ x.sl ∧ x.sl < s) ∧ Rising sh := by
  unfold lookF at h
  split at h
  · rename_i hok
    split at h
    · rename_i hu
      split at h
      · rename_i hm
        have hb : 1 ≤ S ∧ S ≤ 1024 := by unfold Okay at hok; omega
        have hsh := shifts_all sh _ _ _ hm.2.2.2.2
        refine ⟨S.toNat, used.toNat, by omega, by omega, by omega, by omega, hm, fun x hx => ?_, hsh.2⟩
        have := hsh.1 x hx
        exact ⟨this.2.1, this.2.2⟩
      · cases h
    · cases h
  · cases h

def StOut (w : World) (er S used mv : Int) (sh : List Sh) (e : Ending) (w' : World) : Prop :=
  Ext w w' ∧ ((er ≠ 0 ∧ e = .returned (.tuple #[.slice none 0 0, .slice none 0 0, .int .i64 er])) ∨ (er = 0 ∧ mv < 0 ∧ e = .returned (.tuple #[.slice none 0 0, .slice none 0 0, .int .i64 2])) ∨
    (er = 0 ∧ 0 ≤ mv ∧ ∃ g1 c1 g2 c2, e = .returned (.tuple #[.slice (some ⟨g1, 0, none⟩) S.toNat c1, .slice (some ⟨g2, 0, none⟩) S.toNat c2, .int .i64 0]) ∧ Two w' w.heap.size g1 c1 g2 c2 S.toNat (afterS (beginS S.toNat used.toNat) (belowM sh mv)) (afterH (List.replicate S.toNat (-1)) (belowM sh mv))))

set_option maxRecDepth 100000 in
set_option maxHeartbeats 4000000 in
theorem states_any (hM : MaySays) (T R H Re Ca S B used mv : Int) (A1 : Option Addr) (n1 c1 : Nat) (A2 : Option Addr) (n2 c2 : Nat) (A3 : Option Addr) (n3 c3 : Nat) (A4 : Option Addr) (n4 c4 : Nat) (cs : List Cl) (tr : List Ac) (sh : List Sh) (rw_ : List Int) (w : World)
    (hm : RunMem w A1 n1 A2 n2 A3 n3 A4 n4 cs tr sh rw_) (b1 : n1 * 72 ≤ 140737488355328) :
    Calls Try.prog 39 #[(.agg #[.int .i64 T, .int .i64 R, .int .i64 H, .int .i64 Re, .int .i64 Ca, .int .i64 S, .int .i64 B]), .int .i64 used, .agg #[.slice A1 n1 c1, .slice A2 n2 c2, .slice A3 n3 c3, .slice A4 n4 c4], .int .i64 mv] w (StOut w (lookF T R H Re Ca S B used cs tr sh rw_) S used mv sh) := by
  have Hm := Lib.hid hm
  clear hm
  generalize her : lookF T R H Re Ca S B used cs tr sh rw_ = er
  have HER := Lib.hid her
  clear her
  go_enter Try.func39, Try.ntmps39
  go_upto_region 1 with fail
  obtain ⟨w0, hw0, hC, hR, hE, hlt0⟩ := enter2 w (.cells (cfgV T R H Re Ca S B) 23) (.cells #[.slice A1 n1 c1, .slice A2 n2 c2, .slice A3 n3 c3, .slice A4 n4 c4] 48)
  rw [hw0]
  have HE := Lib.hid hE
  have Hm0 := Lib.hid (Hm.out.ext hE)
  obtain ⟨d0, d1, d2, d3, d4, d5, d6⟩ := Lat.cfg hC
  obtain ⟨r0, r1, r2, r3⟩ := Lat.run hR
  obtain ⟨k0, hk0⟩ := lat_self w0
  rw [hk0]
  clear hw0 hC hR hE hk0 hlt0
  go_wp2_with fail
  refine (cRefused_any hM T R H Re Ca S B used A1 n1 c1 A2 n2 c2 A3 n3 c3 A4 n4 c4 cs tr sh rw_ _ (Hm0.out.ext k0.ok) b1).mono ?_
  rintro e w1 ⟨rfl, e1⟩
  obtain ⟨k1, rfl⟩ := lat_next k0 e1
  rw [HER.out]
  clear e1
  by_cases he : er = 0
  · subst he
    obtain ⟨s, u, rfl, hs1, hs2, rfl, _, hsl, hri⟩ := look_zero HER.out
    by_cases hmv : mv < 0
    · have Hmv := Lib.hid hmv
      have hd : decide (mv < 0) = true := decide_eq_true hmv
      clear hmv
      go_wp2_with fail
      go_ret3
      exact ⟨Ext.next HE.out k1.ok, .inr (.inl ⟨rfl, Hmv.out, rfl⟩)⟩
    · have Hmv := Lib.hid (Int.not_lt.1 hmv)
      have hd : decide (mv < 0) = false := decide_eq_false hmv
      clear hmv
      go_wp2_with fail
      refine (ahead_any T R H Re Ca s B s rfl hs1 hs2 u A1 n1 c1 A2 n2 c2 A3 n3 c3 A4 n4 c4 sh mv _ (Hm0.out.ext k1.ok).shifts Hm.out.big3 hsl hri).mono ?_
      rintro e w2 ⟨p, g1, q1, g2, q2, rfl, hS, e2⟩
      have HX2 := Lib.hid (Ext.next (Ext.next HE.out k1.ok) e2)
      have HS2 := Lib.hid hS
      obtain ⟨y0, y1⟩ := hS.lat
      have hbase : Hid (w.heap.size ≤ k1.world.heap.size) := Nat.le_trans HE.out.size k1.ok.size
      clear hS e2
      obtain ⟨k2, hk2⟩ := lat_self w2
      rw [hk2]
      clear hk2
      go_upto_region 7 with fail
      refine wp_region_cls (Ext w2) (Ext.drew1 k2.ok) (by kernel_rfl) (by kernel_rfl) ?_
      repeat (go_big_quiet_step (fail))
      refine wpQuiet_nil ?_
      rintro _ ⟨k3, rfl⟩
      go_wp2_with fail
      go_ret3
      refine ⟨Ext.next HX2.out k3.ok, .inr (.inr ⟨rfl, Hmv.out, g1, q1, g2, q2, by simp, ?_⟩)⟩
      have h := HS2.out.ext k3.ok
      simp only [Int.toNat_natCast]
      exact ⟨own_base h.own1 hbase.out, own_base h.own2 hbase.out⟩
  · have hb : (er != 0) = true := by simpa using he
    have Hne := Lib.hid he
    clear he
    go_wp2_with fail
    go_ret3
    exact ⟨Ext.next HE.out k1.ok, .inl ⟨Hne.out, rfl⟩⟩

set_option maxHeartbeats 4000000 in
theorem ref13States_any (T R H Re Ca S B : Int) (s : Nat) (hS : S = s) (hs1 : 1 ≤ s) (hs2 : s ≤ 1024) (u : Nat)
    (A1 : Option Addr) (n1 c1 : Nat) (A2 : Option Addr) (n2 c2 : Nat) (A3 : Option Addr) (n3 c3 : Nat) (A4 : Option Addr) (n4 c4 : Nat) (sh : List Sh) (m : Int) (w : World)
    (hm : Arr Sh.enc w A3 n3 sh) (hn3 : n3 ≤ 140737488355328) (hsl : ∀ x ∈ sh, 0 ≤ x.sl ∧ x.sl < s) :
    Calls Try.prog 40 #[(.agg #[.int .i64 T, .int .i64 R, .int .i64 H, .int .i64 Re, .int .i64 Ca, .int .i64 S, .int .i64 B]), .int .i64 u, .agg #[.slice A1 n1 c1, .slice A2 n2 c2, .slice A3 n3 c3, .slice A4 n4 c4], .int .i64 m] w
      (RStatesOut w s (afterS (beginS s u) (belowM sh m)) (afterH (List.replicate s (-1)) (belowM sh m))) := by
  have Hm := Lib.hid hm
  have Hsl := Lib.hid hsl
  clear hm hsl
  subst hS
  go_enter Try.func40, Try.ntmps40
  go_upto_region 1 with fail
  obtain ⟨w0, hw0, hC, hR, hE, hlt0⟩ := enter2 w (.cells (cfgV T R H Re Ca s B) 23) (.cells #[.slice A1 n1 c1, .slice A2 n2 c2, .slice A3 n3 c3, .slice A4 n4 c4] 48)
  rw [hw0]
  have HE := Lib.hid hE
  obtain ⟨d0, d1, d2, d3, d4, d5, d6⟩ := Lat.cfg hC
  obtain ⟨r0, r1, r2, r3⟩ := Lat.run hR
  obtain ⟨k0, hk0⟩ := lat_self w0
  rw [hk0]
  clear hw0 hC hR hE hk0 hlt0
  go_wp2_with fail
  refine (refStates_any T R H Re Ca s B s rfl hs1 hs2 u A1 n1 c1 A2 n2 c2 A3 n3 c3 A4 n4 c4 sh m _ (Hm.out.ext (Ext.next HE.out k0.ok)) hn3 Hsl.out).mono ?_
  rintro e w1 ⟨g1, q1, g2, q2, rfl, hT, e1⟩
  have HX := Lib.hid (Ext.next (Ext.next HE.out k0.ok) e1)
  have HT : Hid (Two w1 w.heap.size g1 q1 g2 q2 s _ _) := ⟨own_base hT.own1 (Nat.le_trans HE.out.size k0.ok.size), own_base hT.own2 (Nat.le_trans HE.out.size k0.ok.size)⟩
  clear hT e1
  go_wp2_with fail
  go_ret2
  exact ⟨g1, q1, g2, q2, rfl, HT.out, HX.out⟩

set_option maxRecDepth 100000 in
set_option maxHeartbeats 8000000 in
theorem statesLaw_any (hM : MaySays) (hA : AwakeSays) (T R H Re Ca S B used mv : Int) (A1 : Option Addr) (n1 c1 : Nat) (A2 : Option Addr) (n2 c2 : Nat) (A3 : Option Addr) (n3 c3 : Nat) (A4 : Option Addr) (n4 c4 : Nat) (cs : List Cl) (tr : List Ac) (sh : List Sh) (rw_ : List Int) (w : World)
    (hm : RunMem w A1 n1 A2 n2 A3 n3 A4 n4 cs tr sh rw_) (b1 : n1 * 72 ≤ 140737488355328) :
    Calls Try.prog 9 #[.agg #[.int .i64 T, .int .i64 R, .int .i64 H, .int .i64 Re, .int .i64 Ca, .int .i64 S, .int .i64 B, .int .i64 used, .slice A1 n1 c1, .slice A2 n2 c2, .slice A3 n3 c3, .slice A4 n4 c4, .int .i64 mv]] w fun e w' => e = .returned (.bool true) ∧ Ext w w' := by
  have Hm := Lib.hid hm
  clear hm
  generalize her : lookF T R H Re Ca S B used cs tr sh rw_ = er
  have HER := Lib.hid her
  have Hst := Lib.hid (fun w hm => states_any hM T R H Re Ca S B used mv A1 n1 c1 A2 n2 c2 A3 n3 c3 A4 n4 c4 cs tr sh rw_ w hm b1)
  have Hlk := Lib.hid (fun w hm => ref13Look_any T R H Re Ca S B used A1 n1 c1 A2 n2 c2 A3 n3 c3 A4 n4 c4 cs tr sh rw_ w hm)
  rw [her] at Hst Hlk
  clear her
  go_enter Try.func9, Try.ntmps9
  go_upto_region 1 with fail
  obtain ⟨w0, hw0, hC, hE, hlt0⟩ := enter1 w (.cells #[.int .i64 T, .int .i64 R, .int .i64 H, .int .i64 Re, .int .i64 Ca, .int .i64 S, .int .i64 B, .int .i64 used, .slice A1 n1 c1, .slice A2 n2 c2, .slice A3 n3 c3, .slice A4 n4 c4, .int .i64 mv] 50)
  rw [hw0]
  have HE := Lib.hid hE
  have Hm0 := Lib.hid (Hm.out.ext hE)
  obtain ⟨d0, d1, d2, d3, d4, d5, d6, d7, d8, d9, d10, d11, d12⟩ := Lat.case_ hC
  obtain ⟨k0, hk0⟩ := lat_self w0
  rw [hk0]
  clear hw0 hC hE hk0 hlt0
  go_wp2_with fail
  refine (Hst.out _ (Hm0.out.ext k0.ok)).mono ?_
  rintro e w1 ⟨e1, ⟨hne, rfl⟩ | ⟨rfl, hmv, rfl⟩ | ⟨rfl, hmv, g1, q1, g2, q2, rfl, hT⟩⟩
  case' inl =>
    have hb0 : (er == 0) = false := beq_eq_false_iff_ne.2 hne
    have hb1 : (er != 0) = true := by simpa using hne
    have hbb : (er == er) = true := by simp
    clear hne
  case' inr.inl =>
    have hd : decide (mv < 0) = true := decide_eq_true hmv
    clear hmv
  case inr.inr =>
    obtain ⟨s, u, rfl, hs1, hs2, rfl, _, hsl, hri⟩ := look_zero HER.out
    simp only [Int.toNat_natCast] at hT
    simp only [Int.toNat_natCast]
    obtain ⟨k1, rfl⟩ := lat_next k0 e1
    have HT := Lib.hid hT
    have hd : decide (mv < 0) = false := decide_eq_false (by omega)
    clear e1 hT hmv
    go_wp2_with fail
    refine (hA _).mono ?_
    rintro e w2 ⟨rfl, e2⟩
    have HT2 := Lib.hid (HT.out.ext e2)
    obtain ⟨k2, rfl⟩ := lat_next k1 e2
    clear e2
    go_wp2_with fail
    refine (Hlk.out _ (Hm0.out.ext k2.ok)).mono ?_
    rintro e w3 ⟨rfl, e3⟩
    have HT3 := Lib.hid (HT2.out.ext e3)
    obtain ⟨k3, rfl⟩ := lat_next k2 e3
    clear e3
    go_wp2_with fail
    refine (ref13States_any T R H Re Ca s B s rfl hs1 hs2 u A1 n1 c1 A2 n2 c2 A3 n3 c3 A4 n4 c4 sh mv _ (Hm0.out.ext k3.ok).shifts Hm.out.big3 hsl).mono ?_
    rintro e w4 ⟨g3, q3, g4, q4, rfl, hT4, e4⟩
    have HT4 := Lib.hid (HT3.out.ext e4)
    have HR4 := Lib.hid hT4
    have HX4 := Lib.hid (Ext.next k3.ok e4)
    clear e4 hT4 d0 d1 d2 d3 d4 d5 d6 d7 d8 d9 d10 d11 d12 hsl hri
    generalize afterS (beginS s u) (belowM sh mv) = st at HT4 HR4
    generalize afterH (List.replicate s (-1)) (belowM sh mv) = ho at HT4 HR4
    obtain ⟨k4, hk4⟩ := lat_self w4
    rw [hk4]
    go_upto_region 13 with fail
    go_loopw [9] (fun s9 wr => ∃ (k : Lat w4) (i : Nat), wr = k.world ∧ i ≤ s ∧ s9 = .int .i64 i) (fun s_ _ => s - (intOf s_).toNat)
    case atStart => exact ⟨k4, 0, rfl, by omega, rfl⟩
    case round =>
      obtain ⟨k, i, rfl, hi, rfl⟩ := hrel
      by_cases hlt : i < s
      · have z1 : (i : Int) < (s : Int) := by omega
        have z0 : (0 : Int) ≤ (i : Int) := by omega
        obtain ⟨x, hx, x1⟩ := row_lat HT4.out.own1 hlt
        obtain ⟨x', hx', x2⟩ := row_lat HR4.out.own1 hlt
        obtain ⟨y, hy, y1⟩ := row_lat HT4.out.own2 hlt
        obtain ⟨y', hy', y2⟩ := row_lat HR4.out.own2 hlt
        obtain rfl : x = x' := by rw [hx] at hx'; injection hx'
        obtain rfl : y = y' := by rw [hy] at hy'; injection hy'
        have n1 : (x != x) = false := by simp
        have n2 : (y != y) = false := by simp
        clear hx hx' hy hy'
        go_upto_region 15 with fail
        refine wp_region_cls (Ext w4) (Ext.drew1 k.ok) (by kernel_rfl) (by kernel_rfl) ?_
        repeat (go_big_quiet_step (fail))
        refine wpQuiet_nil ?_
        rintro _ ⟨k6, rfl⟩
        go_wp2_with fail
        go_roundw
        case rel => exact ⟨k6, i + 1, rfl, by omega, by go_num⟩
        case measure => simp [intOf]; omega
      · obtain rfl : s = i := by omega
        go_wp2_with fail
        go_ret
        exact ⟨rfl, Ext.next HE.out (Ext.next HX4.out k.ok)⟩
  all_goals
    obtain ⟨k1, rfl⟩ := lat_next k0 e1
    clear e1
    go_wp2_with fail
    refine (hA _).mono ?_
    rintro e w2 ⟨rfl, e2⟩
    obtain ⟨k2, rfl⟩ := lat_next k1 e2
    clear e2
    go_wp2_with fail
    refine (Hlk.out _ (Hm0.out.ext k2.ok)).mono ?_
    rintro e w3 ⟨rfl, e3⟩
    obtain ⟨k3, rfl⟩ := lat_next k2 e3
    clear e3
    go_wp2_with fail
    go_ret
    exact ⟨rfl, Ext.next HE.out k3.ok⟩

set_option maxRecDepth 100000 in
theorem censusStates_lifted (hM : MaySays) (hA : AwakeSays) (os : Os) (started : os.Started) (H : Type) (enc : TypeId × Value → H) :
    ReturnsInHanded {} Try.checked os 9 .any (Rows.censusStatesSpec.pre6 enc Try.prog Try.f9 [] false) (Rows.censusStatesSpec.post enc Try.prog Try.f9 false true false false) := by
  refine lawWrap (C := Try.checked) (tb := 4) own_ started (by kernel_rfl) Try.func9
    (ChangeSpec.witness6 (enc := enc) (C := Try.checked) false ⟨#[], #[.agg #[.int .i64 0, .int .i64 0, .int .i64 0, .int .i64 0, .int .i64 0, .int .i64 0, .int .i64 0, .int .i64 0, .slice none 0 0, .slice none 0 0, .slice none 0 0, .slice none 0 0, .int .i64 0]], []⟩ 8 (by kernel_rfl) (by kernel_rfl) (by kernel_rfl) (by kernel_rfl))
    rfl Try.underlying4 rfl ?_ laidOut_ (by kernel_rfl) ?_
  · intro ds hds
    match ds, hds with
    | [d1], _ => exact ⟨rfl, rfl, rfl⟩
  · intro W base args ds ps hval0 hA0 hlt hsz
    have hval : ∀ (j : Nat) t v, Try.f9.params[j]? = some t → args[j]? = some v → Value.okWide Try.prog W .any base t v := hval0
    have hArgs : DataW.TrodAll enc Try.prog W 0 (fun _ => true) true Try.f9.params.toList args.toList ds ps := hA0
    rw [Try.params9] at hArgs hval
    obtain ⟨v0, d0, rfl, rfl, h0⟩ := trodAll_one hArgs
    obtain ⟨T, R, H', Re, Ca, S, B, used, mv, A1, n1, c1, A2, n2, c2, A3, n3, c3, A4, n4, c4, cs, tr, sh, rw_, rfl, hm, b1, b2, b3, b4⟩ := openCase (hval 0 50 v0 rfl rfl) h0 (by rw [Try.params9] at hsz; exact hsz)
    exact statesLaw_any hM hA T R H' Re Ca S B used mv A1 n1 c1 A2 n2 c2 A3 n3 c3 A4 n4 c4 cs tr sh rw_ W hm (by omega)

theorem censusStates_of (hM : MaySays) (hA : AwakeSays) : Rows.CensusStatesSaid :=
  OpenClaim.holds_of_wide 9 Try.f9 rfl rfl rfl rfl rfl rfl rfl ⟨rfl, rfl, rfl, rfl, rfl⟩ rfl rfl rfl rfl rfl (by kernel_rfl) Try.func9 (by kernel_rfl)
    (of_decide_eq_true (by kernel_rfl)) (by unfold Func.isWrapper; first | (rw [if_pos (by decide +kernel)]; kernel_rfl) | (rw [if_neg (by decide +kernel)]; exact ⟨rfl, rfl⟩))
    (fun os started H enc _ => censusStates_lifted hM hA os started H enc)

end Go.Proofs.Ytfbacopjookplaa
