/- The walk of census.sound: whether the calls go together, and whose is which move. -/
import Derived.Test.YtfbacopjookplaaOwners
import Derived.Test.YtfbacopjookplaaCalls
import Derived.Deep.RegionLaw
import Derived.Deep.RegionHeld3
namespace Go.Proofs.Ytfbacopjookplaa
open Go.RowKit

theorem zeroRow : (Try.prog.info? 44).map (fun i => (i.zero, i.size, i.bytes)) = some (some (.slice none 0 0), 1, 24) := by kernel_rfl
theorem five (w0 : World) (a b c d e : Obj) : ((((((w0.alloc a).alloc b).alloc c).alloc d).alloc e).drew).heap[w0.heap.size]? = some a ∧ ((((((w0.alloc a).alloc b).alloc c).alloc d).alloc e).drew).heap[w0.heap.size + 1]? = some b ∧
    ((((((w0.alloc a).alloc b).alloc c).alloc d).alloc e).drew).heap[w0.heap.size + 1 + 1]? = some c ∧ ((((((w0.alloc a).alloc b).alloc c).alloc d).alloc e).drew).heap[w0.heap.size + 1 + 1 + 1]? = some d ∧
    ((((((w0.alloc a).alloc b).alloc c).alloc d).alloc e).drew).heap[w0.heap.size + 1 + 1 + 1 + 1]? = some e ∧ Ext w0 ((((((w0.alloc a).alloc b).alloc c).alloc d).alloc e).drew) := by
  have e1 : Ext w0 (w0.alloc a) := (Ext.rfl' w0).alloc1 _
  have e2 : Ext (w0.alloc a) ((w0.alloc a).alloc b) := (Ext.rfl' _).alloc1 _
  have e3 : Ext ((w0.alloc a).alloc b) (((w0.alloc a).alloc b).alloc c) := (Ext.rfl' _).alloc1 _
  have e4 : Ext (((w0.alloc a).alloc b).alloc c) ((((w0.alloc a).alloc b).alloc c).alloc d) := (Ext.rfl' _).alloc1 _
  have e5 : Ext ((((w0.alloc a).alloc b).alloc c).alloc d) ((((((w0.alloc a).alloc b).alloc c).alloc d).alloc e).drew) := ((Ext.rfl' _).alloc1 _).drew1
  have s1 : (w0.alloc a).heap.size = w0.heap.size + 1 := by simp
  have s2 : ((w0.alloc a).alloc b).heap.size = w0.heap.size + 1 + 1 := by simp
  have s3 : (((w0.alloc a).alloc b).alloc c).heap.size = w0.heap.size + 1 + 1 + 1 := by simp
  have s4 : ((((w0.alloc a).alloc b).alloc c).alloc d).heap.size = w0.heap.size + 1 + 1 + 1 + 1 := by simp
  refine ⟨ext_blk (Ext.next e2 (Ext.next e3 (Ext.next e4 e5))) (heap_alloc_new _ _), ext_blk (Ext.next e3 (Ext.next e4 e5)) ?_, ext_blk (Ext.next e4 e5) ?_, ext_blk e5 ?_, ?_, Ext.next e1 (Ext.next e2 (Ext.next e3 (Ext.next e4 e5)))⟩
  · rw [← s1]; exact heap_alloc_new _ _
  · rw [← s2]; exact heap_alloc_new _ _
  · rw [← s3]; exact heap_alloc_new _ _
  · rw [← s4]; exact heap_alloc_new _ _
/-- No two ends alike among the first i calls. -/
def EndsTo (l : List Cl) (i : Nat) : Prop := ∀ (a b : Nat) (x y : Cl), a < b → b < i → l[a]? = some x → l[b]? = some y → x.en ≠ -1 → x.en ≠ y.en
theorem zeroRun (w : World) : (zeroValue 3).run Try.prog w = .ok (.int .i64 0) w := by kernel_rfl
theorem ends_step {l : List Cl} {i : Nat} {x : Cl} (hx : l[i]? = some x) (h : EndsTo l i) (hn : x.en = -1 ∨ endF (l.take i) x.en = none) : EndsTo l (i + 1) := by
  intro a b y z hab hbi hy hz hye
  by_cases hb : b = i
  · subst hb
    rw [hx] at hz
    injection hz with hz
    subst hz
    rcases hn with hn | hn
    · omega
    · exact endF_none hn (i := a) (by rw [List.getElem?_take_of_lt hab]; exact hy) hye
  · exact h a b y z hab (by omega) hy hz hye
theorem ends_bad {T : Int} {l : List Cl} {i : Nat} {x : Cl} {t : Int} (hx : l[i]? = some x) (hok : -1 ≤ x.en) (h : endF (l.take i) x.en = some t) : ¬ CallsOK T l := by
  obtain ⟨j, y, hj, he, hne, _⟩ := endF_some h
  have hji : j < i := by
    have := (List.getElem?_eq_some_iff.1 hj).1
    rw [List.length_take] at this
    omega
  rw [List.getElem?_take_of_lt hji] at hj
  intro hc
  exact hc.2.2.2 j i y x hj hx (by omega) (by omega) he
theorem ends_all {l : List Cl} {n : Nat} (hl : l.length = n) (h1 : EndsTo l n) (h2 : ∀ m, endF l m ≠ none → begF l m = none) : EndsOK l := by
  refine ⟨fun i j x y hx hy h0 he => ?_, fun i j x y hx hy hij h0 he => ?_⟩
  · have h3 : endF l x.en ≠ none := fun h => endF_none h hx (by omega) rfl
    exact begF_none (h2 _ h3) hy he.symm
  · have a1 := (List.getElem?_eq_some_iff.1 hx).1
    have a2 := (List.getElem?_eq_some_iff.1 hy).1
    rcases Nat.lt_or_ge i j with h | h
    · exact h1 i j x y h (by omega) hx hy (by omega) he
    · exact h1 j i y x (by omega) (by omega) hy hx (by omega) he.symm
theorem ends_meet {T : Int} {l : List Cl} {m v t : Int} (he : endF l m = some v) (hb : begF l m = some t) : ¬ CallsOK T l := by
  intro hc
  obtain ⟨i, x, hx, h1, h2, _⟩ := endF_some he
  obtain ⟨j, y, hy, h3, _⟩ := begF_some hb
  have := (callsA_all hc.1 i x hx).1
  unfold OkCall at this
  exact hc.2.2.1 i j x y hx hy (by omega) (by omega)
theorem prevBg_succ {l : List Cl} {i : Nat} {x : Cl} (hx : l[i]? = some x) : prevBg l (i + 1) = x.bg := by simp only [prevBg, hx]
theorem grown_drew {w w' : World} {row : Option Nat} (h : w.drew.grownBy w' row) : w.grownBy w' row := ⟨h.os, h.tape, h.output, h.size, h.block⟩
theorem push_meet {wq w1 : World} {B g gb ge gc ga T : Nat} {pb pe : List Cl} {l : List Cl} {i : Nat} {vs : List Value} {cur : List Int} {x : Cl} {tx : Nat} {v v5 : Value} {m : Nat} {o : Obj} (h : Owners wq B g gb ge gc ga T pb pe (l.take i) vs cur) (hx : x.th = tx) (ht : tx < T) (hv : vs[tx]? = some v)
    (hm : (rowF (l.take i) tx).length = m) (hxi : l[i]? = some x) (hown : w1.ownsRow B 150 9 v5 (m + 1) ((rowF (l.take i) tx).flatMap Cl.enc ++ [.int .i64 tx, .int .i64 x.op, .int .i64 x.arg, .int .i64 x.dat, .int .i64 x.bg, .int .i64 x.en, .int .i64 x.pt, .int .i64 x.ak, .int .i64 x.av]))
    (hgr : wq.grownBy w1 v.ownBlock) (hat : v5.ownBlock = v.ownBlock ∨ v5.ownBlock = some (wq.drew.alloc o).heap.size) :
    ∃ vs', Hid (Owners (w1.setCell ⟨gc, tx, none⟩ v5) B g gb ge gc ga T pb pe (l.take (i + 1)) vs' cur) ∧ Hid (Only (fun q => Mine g gb ge gc ga vs q) wq (w1.setCell ⟨gc, tx, none⟩ v5)) := by
  have hxe : x.enc = [.int .i64 tx, .int .i64 x.op, .int .i64 x.arg, .int .i64 x.dat, .int .i64 x.bg, .int .i64 x.en, .int .i64 x.pt, .int .i64 x.ak, .int .i64 x.av] := by simp [Cl.enc, hx]
  have hsz : (wq.drew.alloc o).heap.size = wq.heap.size + 1 := by simp
  rw [hsz] at hat
  have hP := h.push hx ht hv (w5 := w1) (v5 := v5) (x := x) (by rw [hm, hxe]; exact hown) hgr hat
  refine ⟨vs.set tx v5, ?_, ?_⟩
  · have e : l.take (i + 1) = l.take i ++ [x] := by rw [List.take_add_one, hxi]; rfl
    rw [e]
    exact hP.1
  · refine hP.2.mono fun q _ hq => ?_
    rcases hq with rfl | hq
    · exact .inr (.inr (.inr (.inl rfl)))
    · exact .inr (.inr (.inr (.inr (.inr ⟨tx, _, hv, hq⟩))))
theorem elemCall : Elem Try.prog 150 9 72 := Elem.of (z := .agg #[.int .i64 0, .int .i64 0, .int .i64 0, .int .i64 0, .int .i64 0, .int .i64 0, .int .i64 0, .int .i64 0, .int .i64 0]) (by kernel_rfl) (by simp [Value.cells]) (by omega) (by omega)
def Phi7 (T p : Int) (x : Cl) : Prop := x.th < 0 ∨ T ≤ x.th ∨ x.bg ≤ p ∨ (x.en ≠ -1 ∧ x.en ≤ x.bg)
def Phi11 (x : Cl) : Prop := x.ak < 0 ∨ 6 < x.ak ∨ (x.en ≠ -1 ↔ x.ak = 0)
def Phi13 (x : Cl) : Prop := x.ak ≠ 2 ∧ x.av ≠ 0
theorem prev_ge (l : List Cl) (i : Nat) (T : Int) (h : CallsA T (-1) l ↔ CallsA T (prevBg l i) (l.drop i)) : -1 ≤ prevBg l i ∨ ¬ CallsOK T l := by
  by_cases hA : CallsA T (-1) l
  · left
    cases i with
    | zero => simp [prevBg]
    | succ i =>
      cases hx : l[i]? with
      | none => simp [prevBg, hx]
      | some x =>
        have := (callsA_all hA i x hx).2
        simp only [prevBg, hx]
        omega
  · exact .inr fun hc => hA hc.1
theorem case_Phi7_t (T p : Int) (x : Cl) (he : x.en ≠ -1) : (decide (x.th < 0) = true ∧ Phi7 T p x) ∨ (decide (x.th < 0) = false ∧ decide (T ≤ x.th) = true ∧ Phi7 T p x) ∨ (decide (x.th < 0) = false ∧ decide (T ≤ x.th) = false ∧ decide (x.bg ≤ p) = true ∧ Phi7 T p x) ∨ (decide (x.th < 0) = false ∧ decide (T ≤ x.th) = false ∧ decide (x.bg ≤ p) = false ∧ decide (x.en ≤ x.bg) = true ∧ Phi7 T p x) ∨ (decide (x.th < 0) = false ∧ decide (T ≤ x.th) = false ∧ decide (x.bg ≤ p) = false ∧ decide (x.en ≤ x.bg) = false ∧ ¬ Phi7 T p x) := by
  unfold Phi7
  simp only [decide_eq_true_eq, decide_eq_false_iff_not]
  omega
theorem case_Phi7_f (T p : Int) (x : Cl) (he : x.en = -1) : (decide (x.th < 0) = true ∧ Phi7 T p x) ∨ (decide (x.th < 0) = false ∧ decide (T ≤ x.th) = true ∧ Phi7 T p x) ∨ (decide (x.th < 0) = false ∧ decide (T ≤ x.th) = false ∧ decide (x.bg ≤ p) = true ∧ Phi7 T p x) ∨ (decide (x.th < 0) = false ∧ decide (T ≤ x.th) = false ∧ decide (x.bg ≤ p) = false ∧ ¬ Phi7 T p x) := by
  unfold Phi7
  simp only [decide_eq_true_eq, decide_eq_false_iff_not]
  omega
theorem case_Phi9_t (x : Cl) (he : x.en ≠ -1) : ((x.pt == -1) = true ∧ (x.pt != -1) = false ∧ ¬ Phi9 x) ∨ ((x.pt == -1) = false ∧ (x.pt != -1) = true ∧ decide (x.pt ≤ x.bg) = true ∧ Phi9 x) ∨ ((x.pt == -1) = false ∧ (x.pt != -1) = true ∧ decide (x.pt ≤ x.bg) = false ∧ decide (x.en < x.pt) = true ∧ Phi9 x) ∨ ((x.pt == -1) = false ∧ (x.pt != -1) = true ∧ decide (x.pt ≤ x.bg) = false ∧ decide (x.en < x.pt) = false ∧ ¬ Phi9 x) := by
  unfold Phi9
  simp only [decide_eq_true_eq, decide_eq_false_iff_not, beq_iff_eq, beq_eq_false_iff_ne, bne_iff_ne, bne_eq_false_iff_eq, ne_eq]
  omega
theorem case_Phi9_f (x : Cl) (he : x.en = -1) : ((x.pt == -1) = true ∧ (x.pt != -1) = false ∧ ¬ Phi9 x) ∨ ((x.pt == -1) = false ∧ (x.pt != -1) = true ∧ decide (x.pt ≤ x.bg) = true ∧ Phi9 x) ∨ ((x.pt == -1) = false ∧ (x.pt != -1) = true ∧ decide (x.pt ≤ x.bg) = false ∧ ¬ Phi9 x) := by
  unfold Phi9
  simp only [decide_eq_true_eq, decide_eq_false_iff_not, beq_iff_eq, beq_eq_false_iff_ne, bne_iff_ne, bne_eq_false_iff_eq, ne_eq]
  omega
theorem case_Phi11_t (x : Cl) (he : x.en ≠ -1) : (decide (x.ak < 0) = true ∧ Phi11 x) ∨ (decide (x.ak < 0) = false ∧ decide (6 < x.ak) = true ∧ Phi11 x) ∨ (decide (x.ak < 0) = false ∧ decide (6 < x.ak) = false ∧ (x.ak == 0) = true ∧ (x.ak != 0) = false ∧ Phi11 x) ∨ (decide (x.ak < 0) = false ∧ decide (6 < x.ak) = false ∧ (x.ak == 0) = false ∧ (x.ak != 0) = true ∧ ¬ Phi11 x) := by
  unfold Phi11
  simp only [decide_eq_true_eq, decide_eq_false_iff_not, beq_iff_eq, beq_eq_false_iff_ne, bne_iff_ne, bne_eq_false_iff_eq, ne_eq]
  omega
theorem case_Phi11_f (x : Cl) (he : x.en = -1) : (decide (x.ak < 0) = true ∧ Phi11 x) ∨ (decide (x.ak < 0) = false ∧ decide (6 < x.ak) = true ∧ Phi11 x) ∨ (decide (x.ak < 0) = false ∧ decide (6 < x.ak) = false ∧ (x.ak == 0) = true ∧ (x.ak != 0) = false ∧ ¬ Phi11 x) ∨ (decide (x.ak < 0) = false ∧ decide (6 < x.ak) = false ∧ (x.ak == 0) = false ∧ (x.ak != 0) = true ∧ Phi11 x) := by
  unfold Phi11
  simp only [decide_eq_true_eq, decide_eq_false_iff_not, beq_iff_eq, beq_eq_false_iff_ne, bne_iff_ne, bne_eq_false_iff_eq, ne_eq]
  omega
theorem case_Phi13 (x : Cl) : ((x.ak == 2) = true ∧ (x.ak != 2) = false ∧ ¬ Phi13 x) ∨ ((x.ak == 2) = false ∧ (x.ak != 2) = true ∧ (x.av == 0) = true ∧ (x.av != 0) = false ∧ ¬ Phi13 x) ∨ ((x.ak == 2) = false ∧ (x.ak != 2) = true ∧ (x.av == 0) = false ∧ (x.av != 0) = true ∧ Phi13 x) := by
  unfold Phi13
  simp only [beq_iff_eq, beq_eq_false_iff_ne, bne_iff_ne, bne_eq_false_iff_eq, ne_eq]
  omega
def SoundOut (w : World) (T : Nat) (l : List Cl) (e : Ending) (w' : World) : Prop :=
  Ext w w' ∧ ((¬ CallsOK T l ∧ e = .returned (.pointer none)) ∨
    (CallsOK T l ∧ ∃ g gb ge gc ga vs, e = .returned (.pointer (some ⟨g, 0, none⟩)) ∧ Owners w' w.heap.size g gb ge gc ga T l l l vs (List.replicate T 0)))

set_option maxRecDepth 100000 in
set_option maxHeartbeats 40000000 in
theorem sound_any (tn : Nat) (R H Re Ca S B : Int) (hT1 : 1 ≤ tn) (hT2 : tn ≤ 16) (A : Option Addr) (n c : Nat) (l : List Cl) (w : World) (h : Arr Cl.enc w A n l) (hbig : n * 72 ≤ 140737488355328) :
    Calls Try.prog 70 #[(.agg #[.int .i64 tn, .int .i64 R, .int .i64 H, .int .i64 Re, .int .i64 Ca, .int .i64 S, .int .i64 B]), .slice A n c] w (SoundOut w tn l) := by
  have Hh := Lib.hid h
  clear h
  go_enter Try.func70, Try.ntmps70
  go_upto_region 1 with fail
  obtain ⟨w0, hw0, hC, hE, hlt0⟩ := enter1 w (.cells (cfgV tn R H Re Ca S B) 23)
  rw [hw0]
  have HE := Lib.hid hE
  have HC := Lib.hid hC
  obtain ⟨c0, c1, c2, c3, c4, c5, c6⟩ := Lat.cfg HC.out
  have d0 := c0 ⟨w0, Ext.rfl' _⟩
  simp only at d0
  have hmk := fun W => run_make1 zeroRow rfl Try.underlying130 (tn : Int) (by omega) (by omega) (by omega) W
  have hmk2 := fun W => run_make1 zeroInt rfl Try.underlying26 (tn : Int) (by omega) (by omega) (by omega) W
  simp only [Int.toNat_natCast] at hmk hmk2
  clear hw0 hC hE
  have hmm := @run_makeMap Try.prog
  have f1 : ∀ X, (w0.alloc X).cell? ⟨w.heap.size, 0, none⟩ = some (.int .i64 tn) := fun X => c0 ⟨_, (Ext.rfl' w0).alloc1 X⟩
  have f2 : ∀ X Y, ((w0.alloc X).alloc Y).cell? ⟨w.heap.size, 0, none⟩ = some (.int .i64 tn) := fun X Y => c0 ⟨_, ((Ext.rfl' w0).alloc1 X).alloc1 Y⟩
  have f3 : ∀ X Y Z, (((w0.alloc X).alloc Y).alloc Z).cell? ⟨w.heap.size, 0, none⟩ = some (.int .i64 tn) := fun X Y Z => c0 ⟨_, (((Ext.rfl' w0).alloc1 X).alloc1 Y).alloc1 Z⟩
  go_cut [5, 17, 18, 21, 24, 25, 26] (fun s5 _ _ _ _ _ _ wr => ∃ (g gb ge gc ga : Nat) (k : Lat w0), s5 = .pointer (some ⟨g, 0, none⟩) ∧ wr = k.world ∧ Hid (Owners k.world w0.heap.size g gb ge gc ga tn [] [] [] (List.replicate tn (.slice none 0 0)) (List.replicate tn 0)))
  case first =>
    go_region
    all_goals as_aux_lemma =>
      go_wp2_with fail
      go_meet
      case rel =>
        refine ⟨_, _, _, _, _, ⟨_, (five w0 _ _ _ _ _).2.2.2.2.2⟩, rfl, rfl, Owners.made (by omega) (five w0 _ _ _ _ _).2.2.2.2.1 ?_ ?_ ?_ ?_ (by omega) (by omega)⟩
        all_goals first | exact (five w0 _ _ _ _ _).1 | exact (five w0 _ _ _ _ _).2.1 | exact (five w0 _ _ _ _ _).2.2.1 | exact (five w0 _ _ _ _ _).2.2.2.1
  obtain ⟨g, gb, ge, gc, ga, k0, rfl, rfl, how⟩ := hcut
  have Hh0 := Lib.hid (Hh.out.ext HE.out)
  clear f1 f2 f3 d0 hmk hmk2 hmm c0 c1 c2 c3 c4 c5 c6
  have Hlow : Hid (w.heap.size < w0.heap.size) := hlt0
  clear hlt0
  go_upto_region 4 with fail
  go_loopw [6, 29] (fun s6 s29 wr => ∃ (k : Lat w0) (i : Nat) (vs : List Value), wr = k.world ∧ i ≤ n ∧ s29 = .int .i64 i ∧ s6 = .int .i64 (prevBg l i) ∧ -1 ≤ prevBg l i ∧ Hid (CallsA tn (-1) l ↔ CallsA tn (prevBg l i) (l.drop i)) ∧ Hid (ThreadsOK [] l ↔ ThreadsOK (l.take i) (l.drop i)) ∧ Hid (EndsTo l i) ∧ Hid (Owners k.world w0.heap.size g gb ge gc ga tn (l.take i) (l.take i) (l.take i) vs (List.replicate tn 0))) (fun _ s _ => n - (intOf s).toNat)
  case atStart => exact ⟨k0, 0, _, rfl, by omega, rfl, rfl, Int.le_refl _, Iff.rfl, Iff.rfl, fun a b x y _ h => absurd h (Nat.not_lt_zero _), how.out⟩
  case round =>
    clear how
    obtain ⟨k, i, vs, rfl, hi, rfl, rfl, hp, hcA, hcT, hcE, how⟩ := hrel
    by_cases hlt : i < n
    · obtain ⟨b, off, x, hAx, hb, hx, x0, x1, x2, x3, x4, x5, x6, x7, x8⟩ := Cl.at_ Hh0.out hlt
      have h1 : (i : Int) < (n : Int) := by omega
      have hi0 : (0 : Int) ≤ (i : Int) := by omega
      subst hAx
      have Hst : Hid (CallsA tn (-1) l ↔ OkCall tn x ∧ prevBg l i < x.bg ∧ CallsA tn (prevBg l (i + 1)) (l.drop (i + 1))) := hcA.out.trans (callsA_step hx.out)
      have Hbad : Hid (¬ (OkCall tn x ∧ prevBg l i < x.bg) → ¬ CallsOK tn l) := fun hb hc => hb (by
        have := Hst.out.1 hc.1
        exact ⟨this.1, this.2.1⟩)
      have Hp := Lib.hid hp
      clear hp
      go_upto_region 6 with fail
      obtain ⟨w3, hw3, hX, hE3, hlt3⟩ := enter1 k.world (.cells #[.int .i64 x.th, .int .i64 x.op, .int .i64 x.arg, .int .i64 x.dat, .int .i64 x.bg, .int .i64 x.en, .int .i64 x.pt, .int .i64 x.ak, .int .i64 x.av] 150)
      rw [hw3]
      clear x0 x1 x2 x3 x4 x5 x6 x7 x8
      have HE3 := Lib.hid (Ext.next k.ok hE3)
      obtain ⟨x0, x1, x2, x3, x4, x5, x6, x7, x8⟩ := Cl.boxed hX
      have HX3 := Lib.hid hX
      have HO3 := Lib.hid (how.out.ext hE3)
      have HM3 : Hid (∀ q, Mine g gb ge gc ga vs q → q < k.world.heap.size) := fun q hq => (how.out.lt hq).2
      obtain ⟨c0, c1, c2, c3, c4, c5, c6⟩ := Lat.cfg (ext_blk HE3.out HC.out)
      obtain ⟨o0, o1, o2, o3⟩ := HO3.out.lat
      obtain ⟨k3, hk3⟩ := lat_self w3
      rw [hk3]
      generalize k.world.heap.size = p at *
      have Hh3 := Lib.hid (Hh0.out.ext HE3.out)
      have hplt := Lib.hid hlt3
      clear hw3 hX hE3 hk3 hlt3 how
      have Hgood : Hid (¬ Phi7 tn (prevBg l i) x → ¬ Phi9 x → ¬ Phi11 x → ¬ Phi13 x → -1 ≤ prevBg l i → OkCall tn x ∧ prevBg l i < x.bg) := fun h7 h9 h11 h13 hp => by
        unfold Phi7 at h7
        unfold Phi9 at h9
        unfold Phi11 at h11
        unfold Phi13 at h13
        unfold OkCall
        omega
      have Hbad7 : Hid (Phi7 tn (prevBg l i) x → ¬ CallsOK tn l) := fun h => Hbad.out (by unfold Phi7 at h; unfold OkCall; omega)
      have Hbad9 : Hid (Phi9 x → ¬ CallsOK tn l) := fun h => Hbad.out (by unfold Phi9 at h; unfold OkCall; omega)
      have Hbad11 : Hid (Phi11 x → ¬ CallsOK tn l) := fun h => Hbad.out (by unfold Phi11 at h; unfold OkCall; omega)
      have Hbad13 : Hid (Phi13 x → ¬ CallsOK tn l) := fun h => Hbad.out (by unfold Phi13 at h; unfold OkCall; omega)
      go_upto_region 6 with fail
      go_cut [9, 33, 34, 35] (fun s9 _ _ _ wr => ∃ o : Bool, s9 = .bool o ∧ Hid (o = true ↔ x.en ≠ -1) ∧ wr = k3.world)
      case first => as_aux_lemma =>
        go_wp2_with fail
        all_goals
          go_meet
          case rel => exact ⟨_, rfl, by show _ ↔ _; simp; try omega, rfl⟩
      obtain ⟨o, rfl, hov, rfl⟩ := hcut
      go_upto_region 7 with fail
      go_cut [9, 36, 62] (fun s9 s _ wr => ∃ (q : Bool) (k : Lat w3), s9 = .bool o ∧ s = .bool q ∧ Hid (q = true ↔ Phi7 tn (prevBg l i) x) ∧ wr = k.world)
      case first =>
        cases o with
        | true =>
          have he : Hid (x.en ≠ -1) := hov.out.1 rfl
          rcases case_Phi7_t tn (prevBg l i) x he.out with ⟨f1, hphi⟩ | ⟨f1, f2, hphi⟩ | ⟨f1, f2, f3, hphi⟩ | ⟨f1, f2, f3, f4, hphi⟩ | ⟨f1, f2, f3, f4, hphi⟩
          · as_aux_lemma =>
            have HP := Lib.hid hphi
            clear hphi
            go_wp2_with fail
            go_meet
            case rel => exact ⟨_, k3, rfl, rfl, ⟨fun _ => HP.out, fun _ => rfl⟩, rfl⟩
          · as_aux_lemma =>
            have HP := Lib.hid hphi
            clear hphi
            go_wp2_with fail
            go_meet
            case rel => exact ⟨_, k3, rfl, rfl, ⟨fun _ => HP.out, fun _ => rfl⟩, rfl⟩
          · as_aux_lemma =>
            have HP := Lib.hid hphi
            clear hphi
            go_wp2_with fail
            go_meet
            case rel => exact ⟨_, k3, rfl, rfl, ⟨fun _ => HP.out, fun _ => rfl⟩, rfl⟩
          · as_aux_lemma =>
            have HP := Lib.hid hphi
            clear hphi
            go_wp2_with fail
            go_meet
            case rel => exact ⟨_, k3, rfl, rfl, ⟨fun _ => HP.out, fun _ => rfl⟩, rfl⟩
          · as_aux_lemma =>
            have HP := Lib.hid hphi
            clear hphi
            go_wp2_with fail
            go_meet
            case rel => exact ⟨_, k3, rfl, rfl, ⟨(fun h => absurd h (by decide)), fun h => absurd h HP.out⟩, rfl⟩
        | false =>
          have he : Hid (x.en = -1) := Classical.byContradiction fun h => by have := hov.out.2 h; cases this
          rcases case_Phi7_f tn (prevBg l i) x he.out with ⟨f1, hphi⟩ | ⟨f1, f2, hphi⟩ | ⟨f1, f2, f3, hphi⟩ | ⟨f1, f2, f3, hphi⟩
          · as_aux_lemma =>
            have HP := Lib.hid hphi
            clear hphi
            go_wp2_with fail
            go_meet
            case rel => exact ⟨_, k3, rfl, rfl, ⟨fun _ => HP.out, fun _ => rfl⟩, rfl⟩
          · as_aux_lemma =>
            have HP := Lib.hid hphi
            clear hphi
            go_wp2_with fail
            go_meet
            case rel => exact ⟨_, k3, rfl, rfl, ⟨fun _ => HP.out, fun _ => rfl⟩, rfl⟩
          · as_aux_lemma =>
            have HP := Lib.hid hphi
            clear hphi
            go_wp2_with fail
            go_meet
            case rel => exact ⟨_, k3, rfl, rfl, ⟨fun _ => HP.out, fun _ => rfl⟩, rfl⟩
          · as_aux_lemma =>
            have HP := Lib.hid hphi
            clear hphi
            go_wp2_with fail
            go_meet
            case rel => exact ⟨_, k3, rfl, rfl, ⟨(fun h => absurd h (by decide)), fun h => absurd h HP.out⟩, rfl⟩
      obtain ⟨q, k4, rfl, rfl, hq7, rfl⟩ := hcut
      cases q with
      | true => as_aux_lemma =>
        have HB := Lib.hid (Hbad7.out (hq7.out.1 rfl))
        go_wp2_with fail
        go_ret
        exact ⟨Ext.next (Ext.next HE.out HE3.out) k4.ok, .inl ⟨HB.out, rfl⟩⟩
      | false =>
        have H7 : Hid (¬ Phi7 tn (prevBg l i) x) := fun h => by have := hq7.out.2 h; cases this
        go_upto_region 9 with fail
        go_cut [9, 63, 83] (fun s9 s _ wr => ∃ (q : Bool) (k : Lat w3), s9 = .bool o ∧ s = .bool q ∧ Hid (q = true ↔ Phi9 x) ∧ wr = k.world)
        case first =>
          cases o with
          | true =>
            have he : Hid (x.en ≠ -1) := hov.out.1 rfl
            rcases case_Phi9_t x he.out with ⟨f1, f2, hphi⟩ | ⟨f1, f2, f3, hphi⟩ | ⟨f1, f2, f3, f4, hphi⟩ | ⟨f1, f2, f3, f4, hphi⟩
            · as_aux_lemma =>
              have HP := Lib.hid hphi
              clear hphi
              go_wp2_with fail
              go_meet
              case rel => exact ⟨_, k4, rfl, rfl, ⟨(fun h => absurd h (by decide)), fun h => absurd h HP.out⟩, rfl⟩
            · as_aux_lemma =>
              have HP := Lib.hid hphi
              clear hphi
              go_wp2_with fail
              go_meet
              case rel => exact ⟨_, k4, rfl, rfl, ⟨fun _ => HP.out, fun _ => rfl⟩, rfl⟩
            · as_aux_lemma =>
              have HP := Lib.hid hphi
              clear hphi
              go_wp2_with fail
              go_meet
              case rel => exact ⟨_, k4, rfl, rfl, ⟨fun _ => HP.out, fun _ => rfl⟩, rfl⟩
            · as_aux_lemma =>
              have HP := Lib.hid hphi
              clear hphi
              go_wp2_with fail
              go_meet
              case rel => exact ⟨_, k4, rfl, rfl, ⟨(fun h => absurd h (by decide)), fun h => absurd h HP.out⟩, rfl⟩
          | false =>
            have he : Hid (x.en = -1) := Classical.byContradiction fun h => by have := hov.out.2 h; cases this
            rcases case_Phi9_f x he.out with ⟨f1, f2, hphi⟩ | ⟨f1, f2, f3, hphi⟩ | ⟨f1, f2, f3, hphi⟩
            · as_aux_lemma =>
              have HP := Lib.hid hphi
              clear hphi
              go_wp2_with fail
              go_meet
              case rel => exact ⟨_, k4, rfl, rfl, ⟨(fun h => absurd h (by decide)), fun h => absurd h HP.out⟩, rfl⟩
            · as_aux_lemma =>
              have HP := Lib.hid hphi
              clear hphi
              go_wp2_with fail
              go_meet
              case rel => exact ⟨_, k4, rfl, rfl, ⟨fun _ => HP.out, fun _ => rfl⟩, rfl⟩
            · as_aux_lemma =>
              have HP := Lib.hid hphi
              clear hphi
              go_wp2_with fail
              go_meet
              case rel => exact ⟨_, k4, rfl, rfl, ⟨(fun h => absurd h (by decide)), fun h => absurd h HP.out⟩, rfl⟩
        obtain ⟨q, k5, rfl, rfl, hq9, rfl⟩ := hcut
        cases q with
        | true => as_aux_lemma =>
          have HB := Lib.hid (Hbad9.out (hq9.out.1 rfl))
          go_wp2_with fail
          go_ret
          exact ⟨Ext.next (Ext.next HE.out HE3.out) k5.ok, .inl ⟨HB.out, rfl⟩⟩
        | false =>
          have H9 : Hid (¬ Phi9 x) := fun h => by have := hq9.out.2 h; cases this
          go_upto_region 11 with fail
          go_cut [9, 84, 102] (fun s9 s _ wr => ∃ (q : Bool) (k : Lat w3), s9 = .bool o ∧ s = .bool q ∧ Hid (q = true ↔ Phi11 x) ∧ wr = k.world)
          case first =>
            cases o with
            | true =>
              have he : Hid (x.en ≠ -1) := hov.out.1 rfl
              rcases case_Phi11_t x he.out with ⟨f1, hphi⟩ | ⟨f1, f2, hphi⟩ | ⟨f1, f2, f3, f4, hphi⟩ | ⟨f1, f2, f3, f4, hphi⟩
              · as_aux_lemma =>
                have HP := Lib.hid hphi
                clear hphi
                go_wp2_with fail
                go_meet
                case rel => exact ⟨_, k5, rfl, rfl, ⟨fun _ => HP.out, fun _ => rfl⟩, rfl⟩
              · as_aux_lemma =>
                have HP := Lib.hid hphi
                clear hphi
                go_wp2_with fail
                go_meet
                case rel => exact ⟨_, k5, rfl, rfl, ⟨fun _ => HP.out, fun _ => rfl⟩, rfl⟩
              · as_aux_lemma =>
                have HP := Lib.hid hphi
                clear hphi
                go_wp2_with fail
                go_meet
                case rel => exact ⟨_, k5, rfl, rfl, ⟨fun _ => HP.out, fun _ => rfl⟩, rfl⟩
              · as_aux_lemma =>
                have HP := Lib.hid hphi
                clear hphi
                go_wp2_with fail
                go_meet
                case rel => exact ⟨_, k5, rfl, rfl, ⟨(fun h => absurd h (by decide)), fun h => absurd h HP.out⟩, rfl⟩
            | false =>
              have he : Hid (x.en = -1) := Classical.byContradiction fun h => by have := hov.out.2 h; cases this
              rcases case_Phi11_f x he.out with ⟨f1, hphi⟩ | ⟨f1, f2, hphi⟩ | ⟨f1, f2, f3, f4, hphi⟩ | ⟨f1, f2, f3, f4, hphi⟩
              · as_aux_lemma =>
                have HP := Lib.hid hphi
                clear hphi
                go_wp2_with fail
                go_meet
                case rel => exact ⟨_, k5, rfl, rfl, ⟨fun _ => HP.out, fun _ => rfl⟩, rfl⟩
              · as_aux_lemma =>
                have HP := Lib.hid hphi
                clear hphi
                go_wp2_with fail
                go_meet
                case rel => exact ⟨_, k5, rfl, rfl, ⟨fun _ => HP.out, fun _ => rfl⟩, rfl⟩
              · as_aux_lemma =>
                have HP := Lib.hid hphi
                clear hphi
                go_wp2_with fail
                go_meet
                case rel => exact ⟨_, k5, rfl, rfl, ⟨(fun h => absurd h (by decide)), fun h => absurd h HP.out⟩, rfl⟩
              · as_aux_lemma =>
                have HP := Lib.hid hphi
                clear hphi
                go_wp2_with fail
                go_meet
                case rel => exact ⟨_, k5, rfl, rfl, ⟨fun _ => HP.out, fun _ => rfl⟩, rfl⟩
          obtain ⟨q, k6, rfl, rfl, hq11, rfl⟩ := hcut
          cases q with
          | true => as_aux_lemma =>
            have HB := Lib.hid (Hbad11.out (hq11.out.1 rfl))
            go_wp2_with fail
            go_ret
            exact ⟨Ext.next (Ext.next HE.out HE3.out) k6.ok, .inl ⟨HB.out, rfl⟩⟩
          | false =>
            have H11 : Hid (¬ Phi11 x) := fun h => by have := hq11.out.2 h; cases this
            go_upto_region 13 with fail
            go_cut [103, 113] (fun s _ wr => ∃ (q : Bool) (k : Lat w3), s = .bool q ∧ Hid (q = true ↔ Phi13 x) ∧ wr = k.world)
            case first =>
              rcases case_Phi13 x with ⟨f1, f2, hphi⟩ | ⟨f1, f2, f3, f4, hphi⟩ | ⟨f1, f2, f3, f4, hphi⟩
              · as_aux_lemma =>
                have HP := Lib.hid hphi
                clear hphi
                go_wp2_with fail
                go_meet
                case rel => exact ⟨_, k6, rfl, ⟨(fun h => absurd h (by decide)), fun h => absurd h HP.out⟩, rfl⟩
              · as_aux_lemma =>
                have HP := Lib.hid hphi
                clear hphi
                go_wp2_with fail
                go_meet
                case rel => exact ⟨_, k6, rfl, ⟨(fun h => absurd h (by decide)), fun h => absurd h HP.out⟩, rfl⟩
              · as_aux_lemma =>
                have HP := Lib.hid hphi
                clear hphi
                go_wp2_with fail
                go_meet
                case rel => exact ⟨_, k6, rfl, ⟨fun _ => HP.out, fun _ => rfl⟩, rfl⟩
            obtain ⟨q, k7, rfl, hq13, rfl⟩ := hcut
            cases q with
            | true => as_aux_lemma =>
              have HB := Lib.hid (Hbad13.out (hq13.out.1 rfl))
              go_wp2_with fail
              go_ret
              exact ⟨Ext.next (Ext.next HE.out HE3.out) k7.ok, .inl ⟨HB.out, rfl⟩⟩
            | false =>
              have H13 : Hid (¬ Phi13 x) := fun h => by have := hq13.out.2 h; cases this
              clear hq7 hq9 hq11 hq13
              go_upto_region 16 with fail
              obtain ⟨hOK, hpx⟩ := Hgood.out H7.out H9.out H11.out H13.out Hp.out
              have HS : Hid (CallsA tn (-1) l ↔ CallsA tn (prevBg l (i + 1)) (l.drop (i + 1))) := by
                show _ ↔ _
                rw [Hst.out]
                exact ⟨fun h => h.2.2, fun h => ⟨hOK, hpx, h⟩⟩
              obtain ⟨hth0, hth1⟩ := hOK.1
              obtain ⟨tx, htx⟩ : ∃ tx : Nat, x.th = tx := ⟨x.th.toNat, by omega⟩
              have htx1 : tx < tn := by omega
              have htx2 : (tx : Int) < (tn : Int) := by omega
              have hen1 : -1 ≤ x.en := by unfold OkCall at hOK; omega
              rw [htx] at x0
              have Htx := Lib.hid htx
              have Hstep := Lib.hid (threads_step hx.out)
              obtain ⟨AR, cR, hvR, harrR, hownR, hcR⟩ := HO3.out.row_lat htx1
              have HvR := Lib.hid hvR
              have HarrR := Lib.hid harrR
              have HownR := Lib.hid hownR
              generalize hm : (rowF (l.take i) tx).length = m at *
              have hmi : m ≤ i := by
                have := rowF_len (l.take i) tx
                rw [hm] at this
                simp at this
                omega
              have Hm := Lib.hid hm
              have Hen := Lib.hid hen1
              have HOK := Lib.hid hOK
              clear hvR harrR hownR hm hpx hOK hth0 hth1 htx hen1
              refine wp_region_cls (Ext w3) (Ext.drew1 k7.ok) (by kernel_rfl) (by kernel_rfl) ?_
              repeat (go_big_quiet_step (fail))
              refine wpQuiet_nil ?_
              rintro _ ⟨k8, rfl⟩
              go_upto_region 18 with fail
              go_cut [147] (fun s wr => ∃ (q : Bool) (k : Lat w3), s = .bool q ∧ Hid (q = true ↔ ∃ y, lastBy (l.take i) x.th = some y ∧ (y.en = -1 ∨ x.bg ≤ y.en)) ∧ wr = k.world)
              case first => as_aux_lemma =>
                have hlast : Hid (lastBy (l.take i) x.th = (rowF (l.take i) tx).getLast?) := by rw [Htx.out]; rfl
                by_cases hm0 : m = 0
                · have hno : Hid (lastBy (l.take i) x.th = none) := by
                    show _ = _
                    rw [hlast.out, List.getLast?_eq_none_iff]
                    exact List.eq_nil_of_length_eq_zero (Hm.out.trans hm0)
                  subst hm0
                  refine wp_region_cls (Ext w3) (Ext.drew1 k8.ok) (by kernel_rfl) (by kernel_rfl) ?_
                  repeat (go_big_quiet_step (fail))
                  refine wpQuiet_nil ?_
                  rintro _ ⟨k9, rfl⟩
                  go_wp2_with fail
                  go_meet
                  case rel => exact ⟨_, k9, rfl, by show _ ↔ _; rw [hno.out]; simp, rfl⟩
                · obtain ⟨m1, hm1⟩ : ∃ m1 : Nat, (m : Int) - 1 = (m1 : Int) := ⟨m - 1, by omega⟩
                  have hmlt : m1 < m := by omega
                  obtain ⟨b', off', y, hAy, _, hy, y0, y1, y2, y3, y4, y5, y6, y7, y8⟩ := Cl.at_ HarrR.out (i := m1) hmlt
                  have hsome : Hid (lastBy (l.take i) x.th = some y) := by
                    show _ = _
                    rw [hlast.out, List.getLast?_eq_getElem?, Hm.out]
                    have : m - 1 = m1 := by omega
                    rw [this]
                    exact hy.out
                  subst hAy
                  have hd7 : decide ((0 : Int) < (m : Int)) = true := by simp; omega
                  have hd8 : decide (0 < m) = true := by simp; omega
                  have hmi0 : (0 : Int) ≤ (m1 : Int) := by omega
                  have hmi1 : (m1 : Int) < (m : Int) := by omega
                  clear hm0
                  by_cases hye : y.en = -1
                  case' pos =>
                    have hd : (y.en == -1) = true := beq_iff_eq.2 hye
                    have HYE := Lib.hid hye
                    clear hye
                  case' neg =>
                    have hd : (y.en == -1) = false := beq_eq_false_iff_ne.2 hye
                    have HYE := Lib.hid hye
                    clear hye
                  all_goals
                    refine wp_region_cls (Ext w3) (Ext.drew1 k8.ok) (by kernel_rfl) (by kernel_rfl) ?_
                    repeat (go_big_quiet_step (fail))
                    refine wpQuiet_nil ?_
                    rintro _ ⟨k9, rfl⟩
                    go_wp2_with fail
                    go_meet
                    case rel => exact ⟨_, k9, rfl, by show _ ↔ _; rw [hsome.out]; simp [HYE.out], rfl⟩
              obtain ⟨q, k9, rfl, hq, rfl⟩ := hcut
              cases q with
              | true => as_aux_lemma =>
                have HB : Hid (¬ CallsOK tn l) := by
                  intro hc
                  obtain ⟨y, hy, hh⟩ := hq.out.1 rfl
                  have h2 := (hcT.out.1 hc.2.1)
                  rw [Hstep.out] at h2
                  have := h2.1 y hy
                  omega
                clear hq
                go_wp2_with fail
                go_ret
                exact ⟨Ext.next (Ext.next HE.out HE3.out) k9.ok, .inl ⟨HB.out, rfl⟩⟩
              | false =>
                have HT : Hid (ThreadsOK [] l ↔ ThreadsOK (l.take (i + 1)) (l.drop (i + 1))) := by
                  show _ ↔ _
                  rw [hcT.out, Hstep.out]
                  refine ⟨fun h => h.2, fun h => ⟨fun y hy => ?_, h⟩⟩
                  have hnot : ¬ (y.en = -1 ∨ x.bg ≤ y.en) := fun hh => by
                    have := hq.out.2 ⟨y, hy, hh⟩
                    cases this
                  omega
                clear hq
                go_upto_region 20 with fail
                clear o3
                have hown1 := own_ext HownR.out k9.ok
                have hszk := k9.size
                have HOk := Lib.hid (HO3.out.ext k9.ok)
                have hfr := HOk.out.tab.frozenAt tx
                have p2 := o2 k9
                have pR := hcR k9
                have q0 := x0 k9
                have q1 := x1 k9
                have q2 := x2 k9
                have q3 := x3 k9
                have q4 := x4 k9
                have q5 := x5 k9
                have q6 := x6 k9
                have q7 := x7 k9
                have q8 := x8 k9
                clear o0 o1 o2 hcR x0 x1 x2 x3 x4 x5 x6 x7 x8 c0 c1 c2 c3 c4 c5 c6
                have hEq := Ext.next HE3.out k9.ok
                have hEk : Ext w3 k9.world := k9.ok
                generalize hwq : k9.world = wq at hEk hown1 hszk HOk hfr p2 pR q0 q1 q2 q3 q4 q5 q6 q7 q8 hEq ⊢
                have Hwq := Lib.hid hwq
                have HEq := Lib.hid hEq
                have HEk := Lib.hid hEk
                clear hwq hEq hEk
                have hbq : w0.heap.size ≤ wq.heap.size := HEq.out.size
                have hpq : p < wq.heap.size := Nat.lt_of_lt_of_le hplt.out hszk
                have keepO : ∀ w', Only (fun q => q = gc ∨ (Value.slice AR m cR).ownBlock = some q) wq w' → w'.cell? ⟨g, 2, none⟩ = some (.slice (some ⟨gc, 0, none⟩) tn tn) ∧ w'.cell? ⟨p, 0, none⟩ = some (.int .i64 tx) ∧ w'.cell? ⟨p, 1, none⟩ = some (.int .i64 x.op) ∧ w'.cell? ⟨p, 2, none⟩ = some (.int .i64 x.arg) ∧ w'.cell? ⟨p, 3, none⟩ = some (.int .i64 x.dat) ∧ w'.cell? ⟨p, 4, none⟩ = some (.int .i64 x.bg) ∧ w'.cell? ⟨p, 5, none⟩ = some (.int .i64 x.en) ∧ w'.cell? ⟨p, 6, none⟩ = some (.int .i64 x.pt) ∧ w'.cell? ⟨p, 7, none⟩ = some (.int .i64 x.ak) ∧ w'.cell? ⟨p, 8, none⟩ = some (.int .i64 x.av) := by
                  intro w' o
                  have hg := o.block g (blk_lt HOk.out.blk) (fun hq => by
                    rcases hq with hq | hq
                    · exact HOk.out.nes.2.2.1 hq
                    · exact (HOk.out.row_ne HvR.out hq).1 rfl)
                  have hp := o.block p hpq (fun hq => by
                    rcases hq with hq | hq
                    · have := HM3.out gc (.inr (.inr (.inr (.inl rfl))))
                      omega
                    · have := HM3.out p (.inr (.inr (.inr (.inr (.inr ⟨tx, _, HvR.out, hq⟩)))))
                      omega)
                  have hg' := hg.trans HOk.out.blk
                  have hp' := hp.trans (ext_blk HEk.out HX3.out)
                  rw [Htx.out] at hp'
                  exact ⟨cellOf hg' rfl, cellOf hp' rfl, cellOf hp' rfl, cellOf hp' rfl, cellOf hp' rfl, cellOf hp' rfl, cellOf hp' rfl, cellOf hp' rfl, cellOf hp' rfl, cellOf hp' rfl⟩
                have hcl : ([.int .i64 tx, .int .i64 x.op, .int .i64 x.arg, .int .i64 x.dat, .int .i64 x.bg, .int .i64 x.en, .int .i64 x.pt, .int .i64 x.ak, .int .i64 x.av] : List Value).length = 1 * 9 := rfl
                have hrdE : ∀ w', Ext (wq.alloc (.cells #[.int .i64 tx, .int .i64 x.op, .int .i64 x.arg, .int .i64 x.dat, .int .i64 x.bg, .int .i64 x.en, .int .i64 x.pt, .int .i64 x.ak, .int .i64 x.av] 150)) w' → Rd w' (some ⟨wq.heap.size, 0, none⟩) [.int .i64 tx, .int .i64 x.op, .int .i64 x.arg, .int .i64 x.dat, .int .i64 x.bg, .int .i64 x.en, .int .i64 x.pt, .int .i64 x.ak, .int .i64 x.av] := fun w' e => (Rd.made wq [.int .i64 tx, .int .i64 x.op, .int .i64 x.arg, .int .i64 x.dat, .int .i64 x.bg, .int .i64 x.en, .int .i64 x.pt, .int .i64 x.ak, .int .i64 x.av] 150).ext e
                have hone : ∀ u ∈ ([.int .i64 tx, .int .i64 x.op, .int .i64 x.arg, .int .i64 x.dat, .int .i64 x.bg, .int .i64 x.en, .int .i64 x.pt, .int .i64 x.ak, .int .i64 x.av] : List Value), u.oneCell' = true := by intro u hu; simp at hu; rcases hu with rfl | rfl | rfl | rfl | rfl | rfl | rfl | rfl | rfl <;> rfl
                have hownE : ∀ w', Ext wq w' → w'.ownsRow w0.heap.size 150 9 (.slice AR m cR) m ((rowF (l.take i) tx).flatMap Cl.enc) := fun w' e => own_ext hown1 e
                have htabE : ∀ w', Ext wq w' → w'.ownsRow w0.heap.size 44 1 (.slice (some ⟨gc, 0, none⟩) tn tn) tn vs := fun w' e => own_ext HOk.out.tab e
                go_cut [] (fun wx => ∃ vs', Hid (Owners wx w0.heap.size g gb ge gc ga tn (l.take i) (l.take i) (l.take (i + 1)) vs' (List.replicate tn 0)) ∧ Hid (Only (fun q => Mine g gb ge gc ga vs q) wq wx))
                case first =>
                  clear p2 pR q0 q1 q2 q3 q4 q5 q6 q7 q8 hown1
                  go_region_held3 (fun w' => w'.cell? ⟨g, 2, none⟩ = some (.slice (some ⟨gc, 0, none⟩) tn tn) ∧ w'.cell? ⟨p, 0, none⟩ = some (.int .i64 tx) ∧ w'.cell? ⟨p, 1, none⟩ = some (.int .i64 x.op) ∧ w'.cell? ⟨p, 2, none⟩ = some (.int .i64 x.arg) ∧ w'.cell? ⟨p, 3, none⟩ = some (.int .i64 x.dat) ∧ w'.cell? ⟨p, 4, none⟩ = some (.int .i64 x.bg) ∧ w'.cell? ⟨p, 5, none⟩ = some (.int .i64 x.en) ∧ w'.cell? ⟨p, 6, none⟩ = some (.int .i64 x.pt) ∧ w'.cell? ⟨p, 7, none⟩ = some (.int .i64 x.ak) ∧ w'.cell? ⟨p, 8, none⟩ = some (.int .i64 x.av)) (first | exact keepO _ (Only.of_ext (Ext.rfl' wq).drew1) | exact keepO _ (Only.of_ext (((Ext.rfl' wq).drew1).alloc1 _)) | exact hS1 | exact hS2 _)
                    (first | (refine step_appendR _ rfl (.tmp 154) (.tmp 156) 44 rfl w0.heap.size 150 9 72 elemCall Try.underlying44 (.slice AR m cR) m _ (by simp [Act.eval]) (hownE _ (((Ext.rfl' wq).drew1).alloc1 _)) (some ⟨wq.heap.size, 0, none⟩) 1 1 [.int .i64 tx, .int .i64 x.op, .int .i64 x.arg, .int .i64 x.dat, .int .i64 x.bg, .int .i64 x.en, .int .i64 x.pt, .int .i64 x.ak, .int .i64 x.av] (by simp [Act.eval]) hcl (hrdE _ (Ext.drawn _ 1)) hone (by omega) (by simp; omega) ?_; intro v' w1 hown2 hgrow2 hat2; have hgr := grown_drew (grownBy_of_alloc hgrow2); have hon := (Only.of_grown hgr).mono (S' := fun q => q = gc ∨ (Value.slice AR m cR).ownBlock = some q) (fun q _ h => .inr h.symm); have hS1 := keepO w1 hon; have hS2 : ∀ v, _ := fun v => keepO (w1.setCell ⟨gc, tx, none⟩ v) (hon.setCell _ _ fun _ => .inl rfl); have htab2 := own_kept (hownE _ (((Ext.rfl' wq).drew1).alloc1 _)) (htabE _ (((Ext.rfl' wq).drew1).alloc1 _)) (by decide) hgrow2; have hc1 := (htab2.cellAt tx (by omega)).trans HvR.out; have hf1 := htab2.frozenAt tx; obtain ⟨g5, c5, rfl, _, _, _⟩ := own_form1 hown2 (by omega)))
                  all_goals
                    go_wp2_with fail
                    go_meet
                    case rel =>
                      clear hc1 hf1 htab2 hS1 hS2 hownE htabE hrdE hone keepO
                      exact push_meet HOk.out Htx.out htx1 HvR.out Hm.out hx.out hown2 hgr hat2
                obtain ⟨vs6, HO6, HN6⟩ := hcut
                have hE6 : Ext w0 wc := HEq.out.only HN6.out fun q hq => (HOk.out.lt hq).1
                have hX6 : wc.heap[p]? = _ := (HN6.out.block p hpq fun hq => Nat.lt_irrefl _ (HM3.out p hq)).trans (ext_blk HEk.out HX3.out)
                have hp6 : p < wc.heap.size := Nat.lt_of_lt_of_le hpq HN6.out.size
                have HE6 := Lib.hid hE6
                have HX6 := Lib.hid hX6
                obtain ⟨x0, x1, x2, x3, x4, x5, x6, x7, x8⟩ := Cl.boxed hX6
                obtain ⟨o0, o1, o2, o3⟩ := HO6.out.lat
                have hput : ∀ c : Lat wc, (Instr.mapUpdate 126 (.map (some gb)) (.int .i64 x.bg) (.int .i64 x.th)).run Try.prog c.world = .ok () (putM Try.prog 126 c.world gb x.bg x.th) := fun c => ((HO6.out.begs.ext c.ok).put Try.underlying126 Try.underlying3 x.bg x.th).1
                clear hE6 hX6 htabE hownE hone hrdE hcl keepO hown1 hfr p2 pR q0 q1 q2 q3 q4 q5 q6 q7 q8
                go_upto_region 21 with fail
                refine wp_region_cls_tail (Ext wc) 8 (Ext.rfl' wc).drew1 (by kernel_rfl) (by kernel_rfl) ?_
                simp only [List.take_succ_cons, List.take_zero, List.drop_succ_cons, List.drop_zero]
                repeat (go_big_quiet_step (fail))
                refine wpQuiet_nil ?_
                rintro _ ⟨k10, rfl⟩
                go_upto_region 22 with fail
                have hm7 := (HO6.out.begs.ext k10.ok).put (P := Try.prog) Try.underlying126 Try.underlying3 x.bg x.th
                have hO7 := (HO6.out.ext k10.ok).put_begin x hm7.2.1 hm7.2.2
                have hX7 : _ = _ := (hm7.2.2.block p (Nat.lt_of_lt_of_le hp6 (Lat.size k10)) (fun hq => by
                  have := HM3.out gb (.inr (.inl rfl))
                  omega)).trans (ext_blk k10.ok HX6.out)
                have hE7 := (Ext.next HE6.out k10.ok).only hm7.2.2 (fun q hq => by rw [hq]; exact HO6.out.low.2.1)
                have hp7 : p < (putM Try.prog 126 k10.world gb x.bg x.th).heap.size := Nat.lt_of_lt_of_le (Nat.lt_of_lt_of_le hp6 (Lat.size k10)) hm7.2.2.size
                generalize putM Try.prog 126 k10.world gb x.bg x.th = w7 at hO7 hX7 hE7 hp7 ⊢
                rw [show l.take i ++ [x] = l.take (i + 1) from by rw [List.take_add_one, hx.out]; rfl] at hO7
                have HO7 := Lib.hid hO7
                have HX7 := Lib.hid hX7
                have HE7 := Lib.hid hE7
                clear hm7 hO7 hX7 hput x0 x1 x2 x3 x4 x5 x6 x7 x8 o0 o1 o2 o3
                obtain ⟨x0, x1, x2, x3, x4, x5, x6, x7, x8⟩ := Cl.boxed HX7.out
                obtain ⟨o0, o1, o2, o3⟩ := HO7.out.lat
                have Hpb := Lib.hid (prevBg_succ hx.out)
                have Hbg : Hid (-1 ≤ prevBg l (i + 1)) := by
                  show -1 ≤ _
                  rw [Hpb.out]
                  have := HOK.out
                  unfold OkCall at this
                  omega
                have htk : Hid (l.take i ++ [x] = l.take (i + 1)) := by
                  show _ = _
                  rw [List.take_add_one, hx.out]
                  rfl
                cases o with
                | false => as_aux_lemma =>
                  have he : x.en = -1 := Classical.byContradiction fun h => by have := hov.out.2 h; cases this
                  have HO8 : Hid (Owners w7 w0.heap.size g gb ge gc ga tn (l.take (i + 1)) (l.take (i + 1)) (l.take (i + 1)) vs6 (List.replicate tn 0)) := by
                    have := HO7.out.skip_end x he
                    rw [htk.out] at this
                    exact this
                  have HE8 : Hid (EndsTo l (i + 1)) := ends_step hx.out hcE.out (.inl he)
                  obtain ⟨k11, hk11⟩ := lat_of hE7
                  rw [hk11] at HO8 ⊢
                  clear hk11 hE7 he x0 x1 x2 x3 x4 x5 x6 x7 x8 o0 o1 o2 o3
                  go_wp2_with fail
                  go_roundw
                  case rel => exact ⟨k11, i + 1, vs6, rfl, by omega, by go_num, by rw [Hpb.out], Hbg.out, HS, HT, HE8, HO8.out⟩
                  case measure => simp [intOf]; omega
                | true =>
                  have he : x.en ≠ -1 := hov.out.1 rfl
                  cases hend : endF (l.take i) x.en with
                  | some t => as_aux_lemma =>
                    have HB := Lib.hid (ends_bad (T := tn) hx.out Hen.out hend)
                    have hlk : ∀ c : Lat w7, (Instr.lookup 126 (.map (some ge)) (.int .i64 x.en) true).run Try.prog c.world = .ok (.tuple #[.int .i64 t, .bool true]) c.world := fun c => by
                      have := (HO7.out.ends.ext c.ok).lookup (P := Try.prog) Try.underlying126 Try.underlying3 zeroRun x.en true
                      rw [hend] at this
                      exact this
                    clear hend he
                    go_upto_region 23 with fail
                    refine wp_region_cls (Ext w7) (Ext.rfl' w7).drew1 (by kernel_rfl) (by kernel_rfl) ?_
                    repeat (go_big_quiet_step (fail))
                    refine wpQuiet_nil ?_
                    rintro _ ⟨k11, rfl⟩
                    go_wp2_with fail
                    go_ret
                    exact ⟨Ext.next HE.out (Ext.next hE7 k11.ok), .inl ⟨HB.out, rfl⟩⟩
                  | none => as_aux_lemma =>
                    have hlk : ∀ c : Lat w7, (Instr.lookup 126 (.map (some ge)) (.int .i64 x.en) true).run Try.prog c.world = .ok (.tuple #[.int .i64 0, .bool false]) c.world := fun c => by
                      have := (HO7.out.ends.ext c.ok).lookup (P := Try.prog) Try.underlying126 Try.underlying3 zeroRun x.en true
                      rw [hend] at this
                      exact this
                    have HE8 : Hid (EndsTo l (i + 1)) := ends_step hx.out hcE.out (.inr hend)
                    have Hne := Lib.hid he
                    have hput : ∀ c : Lat w7, (Instr.mapUpdate 126 (.map (some ge)) (.int .i64 x.en) (.int .i64 x.th)).run Try.prog c.world = .ok () (putM Try.prog 126 c.world ge x.en x.th) := fun c => ((HO7.out.ends.ext c.ok).put Try.underlying126 Try.underlying3 x.en x.th).1
                    clear hend he
                    go_upto_region 23 with fail
                    refine wp_region_cls (Ext w7) (Ext.rfl' w7).drew1 (by kernel_rfl) (by kernel_rfl) ?_
                    repeat (go_big_quiet_step (fail))
                    refine wpQuiet_nil ?_
                    rintro _ ⟨k11, rfl⟩
                    go_upto_region 26 with fail
                    refine wp_region_cls_tail (Ext w7) 8 (Ext.drew1 k11.ok) (by kernel_rfl) (by kernel_rfl) ?_
                    simp only [List.take_succ_cons, List.take_zero, List.drop_succ_cons, List.drop_zero]
                    repeat (go_big_quiet_step (fail))
                    refine wpQuiet_nil ?_
                    rintro _ ⟨k12, rfl⟩
                    go_upto_region 27 with fail
                    have hm8 := (HO7.out.ends.ext k12.ok).put (P := Try.prog) Try.underlying126 Try.underlying3 x.en x.th
                    have hO8 := (HO7.out.ext k12.ok).put_end x Hne.out hm8.2.1 hm8.2.2
                    rw [htk.out] at hO8
                    have hE8 := (Ext.next hE7 k12.ok).only hm8.2.2 (fun q hq => by rw [hq]; exact HO7.out.low.2.2)
                    generalize putM Try.prog 126 k12.world ge x.en x.th = w8 at hO8 hE8 ⊢
                    have HO8 := Lib.hid hO8
                    obtain ⟨k13, hk13⟩ := lat_of hE8
                    rw [hk13] at HO8 ⊢
                    clear hm8 hO8 hE8 hk13 hlk hput x0 x1 x2 x3 x4 x5 x6 x7 x8 o0 o1 o2 o3 hE7
                    go_wp2_with fail
                    go_roundw
                    case rel => exact ⟨k13, i + 1, vs6, rfl, by omega, by go_num, by rw [Hpb.out], Hbg.out, HS, HT, HE8, HO8.out⟩
                    case measure => simp [intOf]; omega
    · obtain rfl : n = i := by omega
      have HA : Hid (CallsA tn (-1) l) := hcA.out.2 (by rw [List.drop_of_length_le (by rw [Hh0.out.1]; exact Nat.le_refl _)]; trivial)
      have HTh : Hid (ThreadsOK [] l) := hcT.out.2 (by rw [List.drop_of_length_le (by rw [Hh0.out.1]; exact Nat.le_refl _)]; trivial)
      rw [show l.take n = l from List.take_of_length_le (by rw [Hh0.out.1]; exact Nat.le_refl _)] at how
      obtain ⟨o0, o1, o2, o3⟩ := how.out.lat
      have q1 := o1 ⟨k.world, Ext.rfl' _⟩
      simp only at q1
      have hends := how.out.ends
      have hbegs := how.out.begs
      clear o1 o2 o3
      go_upto_region 29 with (at_range; refine wpList_range_imap rfl _ 126 rfl Try.underlying126 ge (endF l) rfl hends ?_; intro w9 hit9 he9)
      go_frame
      obtain ⟨c9, rfl⟩ := lat_of he9
      clear q1 he9 hends
      go_loopw [] (fun wr => ∃ (c : Lat k.world) (left : Int → Prop), wr = c.world ∧ Hid (IIter c.world ge k.world.heap.size (endF l) left) ∧ Hid (∀ m, endF l m ≠ none → ¬ left m → begF l m = none)) (fun wr => iterLeft wr ge k.world.heap.size)
      case atStart => exact ⟨c9, _, rfl, hit9, fun m h h2 => absurd h h2⟩
      case round => as_aux_lemma =>
        clear hit9
        obtain ⟨c, left, rfl, hit, hleft⟩ := hrel
        go_wp2_with (at_next; refine wpList_next_imap rfl _ rfl ge k.world.heap.size (endF l) left rfl hit.out ?_ ?_)
        · intro hno
          have HD : Hid (CallsOK tn l) := ⟨HA.out, HTh.out, ends_all Hh0.out.1 hcE.out fun m hm => hleft.out m hm (hno m)⟩
          have HO9 := Lib.hid ((how.out.ext c.ok).base (Nat.le_of_lt Hlow.out))
          clear hno
          go_wp2_with fail
          go_ret
          exact ⟨Ext.next HE.out (Ext.next k.ok c.ok), .inr ⟨HD.out, g, gb, ge, gc, ga, vs, rfl, HO9.out⟩⟩
        · intro m v w' hf hit' hlt' hon' hen
          have hE9 : Ext k.world w' := c.ok.only hon' fun q hq => by rw [hq]; exact Nat.le_refl _
          obtain ⟨c', rfl⟩ := lat_of hE9
          have Hf := Lib.hid hf
          have Hit := Lib.hid hit'
          have Hlt := Lib.hid hlt'
          clear hf hit' hlt' hon' hE9
          cases hb : begF l m with
          | some t =>
            have HB := Lib.hid (ends_meet (T := tn) Hf.out hb)
            have hlk : ∀ c : Lat k.world, (Instr.lookup 126 (.map (some gb)) (.int .i64 m) true).run Try.prog c.world = .ok (.tuple #[.int .i64 t, .bool true]) c.world := fun c => by
              have := (hbegs.ext c.ok).lookup (P := Try.prog) Try.underlying126 Try.underlying3 zeroRun m true
              rw [hb] at this
              exact this
            clear hb
            go_wp2_with fail
            go_ret
            exact ⟨Ext.next HE.out (Ext.next k.ok c'.ok), .inl ⟨HB.out, rfl⟩⟩
          | none =>
            have hlk : ∀ c : Lat k.world, (Instr.lookup 126 (.map (some gb)) (.int .i64 m) true).run Try.prog c.world = .ok (.tuple #[.int .i64 0, .bool false]) c.world := fun c => by
              have := (hbegs.ext c.ok).lookup (P := Try.prog) Try.underlying126 Try.underlying3 zeroRun m true
              rw [hb] at this
              exact this
            have Hb := Lib.hid hb
            clear hb
            go_wp2_with fail
            go_roundw
            case rel =>
              refine ⟨c', _, rfl, Hit, fun m' hm' hl' => ?_⟩
              by_cases hmm : m' = m
              · rw [hmm]; exact Hb.out
              · exact hleft.out m' hm' fun h => hl' ⟨h, hmm⟩
            case measure => exact Hlt.out

end Go.Proofs.Ytfbacopjookplaa
