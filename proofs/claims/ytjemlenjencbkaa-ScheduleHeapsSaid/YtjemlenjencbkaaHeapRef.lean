/- The walks of the document's heap: a list in the order of putting in, looked through for the first of the least keys. -/
import Derived.Test.YtjemlenjencbkaaRounds
import Derived.Test.YtjemlenjencbkaaHeapMem
import Derived.Test.YtjemlenjencbkaaHeapRel
namespace Go.Proofs.Ytjemlenjencbkaa
open Go.RowKit

abbrev iFlat (l : List (Int × Int)) : List Value := l.flatMap fun p => [.int .i64 p.1, .int .i64 p.2]

theorem iFlat_length (l : List (Int × Int)) : (iFlat l).length = l.length * 2 := by
  induction l with
  | nil => rfl
  | cons x l ih => simp only [iFlat, List.flatMap_cons, List.length_append, List.length_cons, List.length_nil] at *; omega
theorem iFlat_get {l : List (Int × Int)} {i : Nat} {p : Int × Int} (h : l[i]? = some p) : (iFlat l)[i * 2]? = some (.int .i64 p.1) ∧ (iFlat l)[i * 2 + 1]? = some (.int .i64 p.2) := by
  induction l generalizing i with
  | nil => simp at h
  | cons y l ih =>
    have e : iFlat (y :: l) = .int .i64 y.1 :: .int .i64 y.2 :: iFlat l := rfl
    rw [e]
    cases i with
    | zero => injection h with h; subst h; exact ⟨rfl, rfl⟩
    | succ i =>
      have := ih (i := i) (by simpa using h)
      rw [Nat.succ_mul]
      exact this
theorem iFlat_take (l : List (Int × Int)) (n : Nat) : (iFlat l).take (n * 2) = iFlat (l.take n) := by
  induction l generalizing n with
  | nil => simp [iFlat]
  | cons y l ih =>
    have e : ∀ z l', iFlat (z :: l') = .int .i64 z.1 :: .int .i64 z.2 :: iFlat l' := fun _ _ => rfl
    cases n with
    | zero => rw [Nat.zero_mul, List.take_zero, List.take_zero]; rfl
    | succ n => rw [List.take_succ_cons, e, e, ← ih, Nat.succ_mul]; rfl
theorem iFlat_drop (l : List (Int × Int)) (n : Nat) : (iFlat l).drop (n * 2) = iFlat (l.drop n) := by
  induction l generalizing n with
  | nil => simp [iFlat]
  | cons y l ih =>
    have e : ∀ z l', iFlat (z :: l') = .int .i64 z.1 :: .int .i64 z.2 :: iFlat l' := fun _ _ => rfl
    cases n with
    | zero => rw [Nat.zero_mul, List.drop_zero, List.drop_zero]
    | succ n => rw [List.drop_succ_cons, e, ← ih, Nat.succ_mul]; rfl
theorem iFlat_append (l m : List (Int × Int)) : iFlat (l ++ m) = iFlat l ++ iFlat m := List.flatMap_append
theorem iFlat_one (l : List (Int × Int)) : ∀ u ∈ iFlat l, u.oneCell' = true := by
  intro u hu
  obtain ⟨p, _, hp⟩ := List.mem_flatMap.1 hu
  simp at hp
  rcases hp with rfl | rfl <;> rfl

theorem elemItem : Elem Try.prog 86 2 16 := Elem.of (z := .agg #[.int .i64 0, .int .i64 0]) (by kernel_rfl) rfl (by decide) (by decide)

/-- The document's heap in memory. -/
structure RObj (w : World) (B D : Nat) (v : Value) (l : List (Int × Int)) : Prop where
  blk : w.heap[D]? = some (.cells #[v] 42 (0, 0))
  own : w.ownsRow B 86 2 v l.length (iFlat l)

theorem RObj.lt {w : World} {B D : Nat} {v : Value} {l : List (Int × Int)} (h : RObj w B D v l) : D < w.heap.size := (Array.getElem?_eq_some_iff.1 h.blk).1
theorem RObj.only {w w' : World} {S : Nat → Prop} {B D : Nat} {v : Value} {l : List (Int × Int)} (h : RObj w B D v l) (o : Only S w w') (h1 : ¬ S D) (h2 : ∀ k, v.ownBlock = some k → ¬ S k) : RObj w' B D v l :=
  ⟨(o.block D h.lt h1).trans h.blk, own_only h.own o h2⟩
theorem RObj.ext {w w' : World} {B D : Nat} {v : Value} {l : List (Int × Int)} (h : RObj w B D v l) (e : Ext w w') : RObj w' B D v l := h.only (Only.of_ext (S := fun _ => False) e) (fun x => x) (fun _ _ x => x)
theorem RObj.apart {w : World} {B D : Nat} {v : Value} {l : List (Int × Int)} (h : RObj w B D v l) : v.ownBlock ≠ some D := own_apart h.own h.blk (by decide)

set_option maxHeartbeats 400000 in
theorem refPut_any (B D : Nat) (v : Value) (l : List (Int × Int)) (w : World) (ho : RObj w B D v l) (hB : B ≤ w.heap.size) (k x : Int) (hl : (l.length + 1) * 16 ≤ 140737488355328) :
    Calls Try.prog 24 #[.pointer (some ⟨D, 0, none⟩), .int .i64 k, .int .i64 x] w fun e w' => e = .returned (.tuple #[]) ∧
      ∃ v', RObj w' B D v' (l ++ [(k, x)]) ∧ Only (fun q => q = D ∨ v.ownBlock = some q) w w' ∧ (v'.ownBlock = v.ownBlock ∨ ∃ g, v'.ownBlock = some g ∧ w.heap.size ≤ g) := by
  have h0 := cellOf (i := 0) ho.blk rfl
  have hD := ho.lt
  have hown := ho.own
  have hap := Lib.hid ho.apart
  have hblk := Lib.hid ho.blk
  obtain ⟨A, c, rfl⟩ := own_form hown
  simp only [List.getElem_toArray, List.getElem_cons_zero] at h0
  clear ho
  go_enter Try.func24, Try.ntmps24
  go_wp2_with (at_builtin; refine wpList_push w rfl (.tmp 10) (.tmp 14) 40 rfl B 86 2 16 elemItem Try.underlying40 (.slice A l.length c) l.length _ rfl hown #[.int .i64 k, .int .i64 x] rfl rfl (by simp [Value.oneCell']) hl hB ?_; intro v' w1 hown1 hgrow1 hat1; have hb1 := (hgrow1.block D hD (fun e => hap.out e.symm)).trans hblk.out; have hc1 := cellOf (i := 0) hb1 rfl; have hf1 := freeOf hb1 0; obtain ⟨G', c', rfl, hcc', hG', hG2'⟩ := own_form1 hown1 (by omega))
  go_end0
  refine ⟨rfl, .slice (some ⟨G', 0, none⟩) (l.length + 1) c', ⟨?_, ?_⟩, ?_, ?_⟩
  · rw [heap_setCell_same _ _ _ _ _ _ hb1]; rfl
  · have := ownsRow_setCell_other hown1 (a := ⟨D, 0, none⟩) (own_apart hown1 hb1 (by decide)) (.slice (some ⟨G', 0, none⟩) (l.length + 1) c')
    rw [iFlat_append, List.length_append]
    exact this
  · exact ((Only.of_grown hgrow1).mono fun q _ hq => .inr hq.symm).setCell _ _ fun _ => .inl rfl
  · rcases hat1 with h | h
    · exact .inl h
    · exact .inr ⟨_, h, by omega⟩

set_option maxHeartbeats 400000 in
theorem refNext_none (B D : Nat) (v : Value) (w : World) (ho : RObj w B D v []) :
    Calls Try.prog 26 #[.pointer (some ⟨D, 0, none⟩)] w fun e w' => e = .returned (.tuple #[.int .i64 0, .int .i64 0, .bool false]) ∧ w' = w := by
  have h0 := cellOf (i := 0) ho.blk rfl
  obtain ⟨A, c, rfl⟩ := own_form ho.own
  simp only [List.getElem_toArray, List.getElem_cons_zero, List.length_nil] at h0
  clear ho
  go_enter Try.func26, Try.ntmps26
  go_wp2
  go_ret3
  exact ⟨rfl, rfl⟩

/-- The place of the first least key among the first i. -/
def MinTo (ks : List Int) (i at_ : Nat) : Prop := at_ < i ∧ ∃ x, ks[at_]? = some x ∧ (∀ (j : Nat) (y : Int), j < i → ks[j]? = some y → x ≤ y) ∧ (∀ (j : Nat) (y : Int), j < at_ → ks[j]? = some y → x < y)

theorem minTo_one {ks : List Int} (h : 0 < ks.length) : MinTo ks 1 0 :=
  ⟨by omega, ks[0], List.getElem?_eq_getElem h, fun j y hj hy => by
    obtain rfl : j = 0 := by omega
    rw [List.getElem?_eq_getElem h] at hy
    injection hy with hy
    omega, fun j y hj => by omega⟩
theorem minTo_new {ks : List Int} {i a : Nat} {x y : Int} (h : MinTo ks i a) (ha : ks[a]? = some x) (hi : ks[i]? = some y) (hlt : y < x) : MinTo ks (i + 1) i := by
  obtain ⟨h0, x', hx, h1, h2⟩ := h
  rw [ha] at hx
  injection hx with hx
  subst hx
  refine ⟨by omega, y, hi, fun j z hj hz => ?_, fun j z hj hz => ?_⟩
  · by_cases e : j = i
    · subst e; rw [hi] at hz; injection hz with hz; omega
    · have := h1 j z (by omega) hz; omega
  · have := h1 j z hj hz; omega
theorem minTo_old {ks : List Int} {i a : Nat} {x y : Int} (h : MinTo ks i a) (ha : ks[a]? = some x) (hi : ks[i]? = some y) (hge : x ≤ y) : MinTo ks (i + 1) a := by
  obtain ⟨h0, x', hx, h1, h2⟩ := h
  rw [ha] at hx
  injection hx with hx
  subst hx
  refine ⟨by omega, x, ha, fun j z hj hz => ?_, h2⟩
  by_cases e : j = i
  · subst e; rw [hi] at hz; injection hz with hz; omega
  · exact h1 j z (by omega) hz
theorem minTo_at {ks : List Int} {a : Nat} (h : MinTo ks ks.length a) : MinAt ks a := by
  obtain ⟨h0, x, hx, h1, h2⟩ := h
  exact ⟨x, hx, fun j y hy => h1 j y (List.getElem?_eq_some_iff.1 hy).1 hy, h2⟩

theorem own_item {w : World} {B G c n i : Nat} {l : List (Int × Int)} {p : Int × Int} (h : w.ownsRow B 86 2 (.slice (some ⟨G, 0, none⟩) n c) n (iFlat l)) (hi : l[i]? = some p) :
    w.cell? ⟨G, i * 2, none⟩ = some (.int .i64 p.1) ∧ w.cell? ⟨G, i * 2 + 1, none⟩ = some (.int .i64 p.2) := by
  have hl := h.1
  rw [iFlat_length] at hl
  have hil := (List.getElem?_eq_some_iff.1 hi).1
  obtain ⟨a, b⟩ := iFlat_get hi
  exact ⟨(h.cellAt _ (by omega)).trans a, (h.cellAt _ (by omega)).trans b⟩

theorem Rd.drop_ {w : World} {b off : Nat} {us : List Value} (h : Rd w (some ⟨b, off, none⟩) us) (k : Nat) : Rd w (some ⟨b, off + k, none⟩) (us.drop k) := fun hne => by
  obtain ⟨b', off', hA, hb, hc⟩ := h (fun e => hne (by rw [e, List.drop_nil]))
  injection hA with hA
  injection hA with h1 h2
  subst h1 h2
  refine ⟨b, off + k, rfl, hb, fun j u hu => ?_⟩
  rw [List.getElem?_drop] at hu
  have := hc (k + j) u hu
  rwa [← Nat.add_assoc] at this

section
variable {wr w2 w3 : World} {B D n2 n3 : Nat} {v v2 v3 : Value} {cs : Array Value} {us2 us3 : List Value}

theorem fin_hd (hb : wr.heap[D]? = some (.cells #[v] 42 (0, 0))) (hgrow2 : (wr.alloc (.cells cs 86)).grownBy w2 none) (hown2 : w2.ownsRow B 86 2 v2 n2 us2)
    (hgrow3 : w2.grownBy w3 v2.ownBlock) : w3.heap[D]? = some (.cells #[v] 42 (0, 0)) := by
  have hD : D < wr.heap.size := (Array.getElem?_eq_some_iff.1 hb).1
  have h2 : w2.heap[D]? = some (.cells #[v] 42 (0, 0)) := (hgrow2.block D (by simp; omega) (by simp)).trans ((heap_alloc_old wr _ hD).trans hb)
  exact (hgrow3.block D (Array.getElem?_eq_some_iff.1 h2).1 (fun e => own_apart hown2 h2 (by decide) e.symm)).trans h2

theorem fin_x (hgrow2 : (wr.alloc (.cells cs 86)).grownBy w2 none) (hat2 : v2.ownBlock = none ∨ v2.ownBlock = some (wr.alloc (.cells cs 86)).heap.size)
    (hgrow3 : w2.grownBy w3 v2.ownBlock) : w3.heap[wr.heap.size]? = some (.cells cs 86 (0, 0)) := by
  have h1 : (wr.alloc (.cells cs 86)).heap[wr.heap.size]? = some (.cells cs 86 (0, 0)) := heap_alloc_new wr _
  have h2 := (hgrow2.block wr.heap.size (by simp) (by simp)).trans h1
  refine (hgrow3.block wr.heap.size (Array.getElem?_eq_some_iff.1 h2).1 (fun e => ?_)).trans h2
  rcases hat2 with h | h
  · rw [h] at e; cases e
  · rw [h] at e; simp at e

theorem fin_all (l : List (Int × Int)) (hb : wr.heap[D]? = some (.cells #[v] 42 (0, 0))) (hgrow2 : (wr.alloc (.cells cs 86)).grownBy w2 none) (hat2 : v2.ownBlock = none ∨ v2.ownBlock = some (wr.alloc (.cells cs 86)).heap.size)
    (hown2 : w2.ownsRow B 86 2 v2 n2 us2) (hgrow3 : w2.grownBy w3 v2.ownBlock) (hat3 : v3.ownBlock = v2.ownBlock ∨ v3.ownBlock = some w2.heap.size)
    (hown3 : w3.ownsRow B 86 2 v3 n3 us3) (hn3 : n3 = l.length) (hus : us3 = iFlat l) (nq : Nat) :
    RObj ((w3.setCell ⟨D, 0, none⟩ v3).drewN nq) B D v3 l ∧ Only (fun q => q = D) wr ((w3.setCell ⟨D, 0, none⟩ v3).drewN nq) ∧ (v3.ownBlock = none ∨ ∃ g, v3.ownBlock = some g ∧ wr.heap.size ≤ g) := by
  have hd3 := fin_hd hb hgrow2 hown2 hgrow3
  have hs2 : wr.heap.size ≤ w2.heap.size := Nat.le_trans (by simp) hgrow2.size
  subst hn3 hus
  refine ⟨⟨?_, ?_⟩, ?_, ?_⟩
  · show (w3.setCell ⟨D, 0, none⟩ v3).heap[D]? = _
    rw [heap_setCell_same _ _ _ _ _ _ hd3]; rfl
  · exact ownsRow_setCell_other hown3 (a := ⟨D, 0, none⟩) (own_apart hown3 hd3 (by decide)) v3
  · refine Only.drewN (Only.setCell (S := fun q => q = D) ?_ ⟨D, 0, none⟩ v3 (fun _ => rfl)) nq
    have o1 : Only (fun _ => False) wr w2 := ((Only.refl _ wr).alloc (.cells cs 86)).trans ((Only.of_grown hgrow2).mono fun k _ h => by cases h) fun _ _ h => h
    refine (o1.mono fun _ _ h => h.elim).trans (Only.of_grown hgrow3) fun k hk h => ?_
    rcases hat2 with h2 | h2
    · rw [h2] at h; cases h
    · rw [h2] at h; injection h with h; simp at h; omega
  · rcases hat3 with h | h
    · rcases hat2 with h2 | h2
      · exact .inl (h.trans h2)
      · exact .inr ⟨_, h.trans h2, by simp⟩
    · exact .inr ⟨_, h, hs2⟩
end

set_option maxHeartbeats 1000000 in
theorem refNext_some (B D : Nat) (v : Value) (l : List (Int × Int)) (w : World) (ho : RObj w B D v l) (hB : B ≤ w.heap.size) (hne : 0 < l.length) (hl : l.length * 16 ≤ 140737488355328) :
    Calls Try.prog 26 #[.pointer (some ⟨D, 0, none⟩)] w fun e w' => ∃ (i : Nat) (p : Int × Int) (v' : Value), e = .returned (.tuple #[.int .i64 p.1, .int .i64 p.2, .bool true]) ∧
      MinAt (l.map (·.1)) i ∧ l[i]? = some p ∧ RObj w' B D v' (l.eraseIdx i) ∧ Only (fun q => q = D) w w' ∧ (v'.ownBlock = none ∨ ∃ g, v'.ownBlock = some g ∧ w.heap.size ≤ g) := by
  have h0 := cellOf (i := 0) ho.blk rfl
  have hf0 := freeOf ho.blk 0
  have hD := ho.lt
  have hown := ho.own
  have hblk := Lib.hid ho.blk
  obtain ⟨n, hn⟩ : ∃ n, n = l.length := ⟨_, rfl⟩
  rw [← hn] at hl hne hown
  obtain ⟨G, c, rfl, hcc, hBG, hGl⟩ := own_form1 hown hne
  simp only [List.getElem_toArray, List.getElem_cons_zero] at h0
  have Hn := Lib.hid hn
  have Ho := Lib.hid ho
  have Hown := Lib.hid hown
  clear ho hn hown
  have hz : ((n : Int) == 0) = false := by simp; omega
  go_enter Try.func26, Try.ntmps26
  go_wp2_with fail
  go_loopw [5, 6] (fun s5 s6 wr => ∃ i a : Nat, 1 ≤ i ∧ i ≤ n ∧ s6 = .int .i64 i ∧ s5 = .int .i64 a ∧ Ext w wr ∧ a < i ∧ Hid (MinTo (l.map (·.1)) i a)) (fun _ s6 _ => n - (intOf s6).toNat)
  case atStart => exact ⟨1, 0, by omega, by omega, rfl, rfl, Ext.rfl' w, by omega, minTo_one (by rw [List.length_map, ← Hn.out]; exact hne)⟩
  case round =>
    obtain ⟨i, a, hi1, hin, rfl, rfl, hex, hai, hmin⟩ := hrel
    have Hor := Lib.hid (Ho.out.ext hex)
    have Hownr := Lib.hid (own_only Hown.out (Only.of_ext (S := fun _ => False) hex) (fun _ _ x => x))
    have h0r : wr.cell? ⟨D, 0, none⟩ = some (.slice (some ⟨G, 0, none⟩) n c) := cellOf (i := 0) Hor.out.blk rfl
    have hf0r := freeOf Hor.out.blk 0
    obtain ⟨pa, hpa⟩ : ∃ p, l[a]? = some p := ⟨_, List.getElem?_eq_getElem (by rw [← Hn.out]; omega)⟩
    obtain ⟨a0, a1⟩ := own_item Hownr.out hpa
    have Hpa := Lib.hid hpa
    clear hpa
    obtain ⟨ka, xa⟩ := pa
    simp only at a0 a1
    by_cases hlt : i < n
    · obtain ⟨pi, hpi⟩ : ∃ p, l[i]? = some p := ⟨_, List.getElem?_eq_getElem (by rw [← Hn.out]; omega)⟩
      obtain ⟨b0, b1⟩ := own_item Hownr.out hpi
      have Hpi := Lib.hid hpi
      clear hpi
      obtain ⟨ki, xi⟩ := pi
      simp only at b0 b1
      have ea : (l.map (·.1))[a]? = some ka := by rw [List.getElem?_map, Hpa.out]; rfl
      have ei : (l.map (·.1))[i]? = some ki := by rw [List.getElem?_map, Hpi.out]; rfl
      by_cases hk : ki < ka
      · have hm := Lib.hid (minTo_new hmin.out ea ei hk)
        clear ea ei
        go_wp2_with fail
        go_quiet (fail)
        go_wp2_with fail
        go_roundw
        case rel => exact ⟨i + 1, i, by omega, by omega, by go_num, rfl, Ext.next hex (Ext.drawn _ _), by omega, hm⟩
        case measure => simp [intOf]; omega
      · have hm := Lib.hid (minTo_old hmin.out ea ei (by omega))
        clear ea ei
        have hk' : ka ≤ ki := by omega
        go_wp2_with fail
        go_quiet (fail)
        go_wp2_with fail
        go_roundw
        case rel => exact ⟨i + 1, a, by omega, by omega, by go_num, rfl, Ext.next hex (Ext.drawn _ _), by omega, hm⟩
        case measure => simp [intOf]; omega
    · obtain rfl : i = n := by omega
      have hmin' : MinAt (l.map (·.1)) a := minTo_at (by rw [List.length_map, ← Hn.out]; exact hmin.out)
      have Hmin := Lib.hid hmin'
      clear hmin'
      have hDr : D < wr.heap.size := Hor.out.lt
      have hGr : G < wr.heap.size := Nat.lt_of_lt_of_le hGl hex.size
      have hBr : B ≤ wr.heap.size := Nat.le_trans hB hex.size
      have Hrd := Lib.hid (Rd.of_own Hownr.out)
      have Hex := Lib.hid hex
      have Hhd : ∀ w1 : World, Only (fun _ => False) wr w1 → w1.heap[D]? = some (.cells #[.slice (some ⟨G, 0, none⟩) i c] 42 (0, 0)) := fun w1 h => by
        rw [h.block D hDr (fun x => x), Hor.out.blk, Hn.out]
      have HHd := Lib.hid Hhd
      clear Hhd hex
      have e1 : Ext wr (wr.alloc (.cells #[.int .i64 ka, .int .i64 xa] 86)) := (Ext.rfl' _).alloc (Nat.le_refl _) _
      have E1 := Lib.hid e1
      clear e1
      by_cases hca : c = a + 1
      · obtain rfl : c = a + 1 := hca
        obtain rfl : i = a + 1 := by omega
        have hdr : Hid (l.drop (a + 1) = []) := by show _ = _; rw [List.drop_eq_nil_iff, ← Hn.out]; exact Nat.le_refl _
        go_wp2_with (first
          | (at_builtin; refine wpList_appendR (wr.alloc (.cells #[.int .i64 ka, .int .i64 xa] 86)) rfl (.tmp 49) (.tmp 55) 40 rfl B 86 2 16 elemItem Try.underlying40 (.slice none 0 0) 0 [] rfl (World.ownsRow_nil _ _ _ _) (some ⟨G, 0, none⟩) a (a + 1) (iFlat (l.take a)) rfl (by rw [iFlat_length, List.length_take]; have := Hn.out; omega) ((Rd.prefix_ (vs := iFlat (l.drop a)) (by rw [← iFlat_append, List.take_append_drop]; exact Hrd.out)).ext E1.out) (iFlat_one _) (by omega) (by simp; omega) ?_; intro v2 w2 hown2 hgrow2 hat2; rw [Nat.zero_add, List.nil_append] at hown2; obtain ⟨A2, c2, rfl⟩ := own_form hown2; have x2 : Ext _ w2 := Only.ext (Only.of_grown hgrow2) (fun k _ h => (by cases h)); have E2 := Lib.hid (Ext.next E1.out x2); have hd2 := HHd.out w2 (Only.of_ext E2.out); have hd2c := cellOf (i := 0) hd2 rfl; clear x2 hd2)
          | (at_builtin; (refine wpList_appendR w2 rfl (.tmp 58) (.tmp 65) 40 rfl B 86 2 16 elemItem Try.underlying40 (.slice A2 a c2) a _ rfl hown2 _ _ _ (iFlat (l.drop (a + 1))) rfl (by rw [hdr.out]; rfl) (by rw [hdr.out]; exact Rd.nil _ _) (iFlat_one _) (by omega) (Nat.le_trans hBr E2.out.size) ?_; intro v3 w3 hown3 hgrow3 hat3; obtain ⟨A3, c3, rfl⟩ := own_form hown3; have hb3 := fin_hd (HHd.out wr (Only.refl _ wr)) hgrow2 hown2 hgrow3; have hc3 := cellOf (i := 0) hb3 rfl; have hf3 := freeOf hb3 0; have hx3 := fin_x hgrow2 hat2 hgrow3; have hx0 := cellOf (i := 0) hx3 rfl; have hx1 := cellOf (i := 1) hx3 rfl)))
        go_quiet (fail)
        go_wp2_with fail
        go_ret3
        obtain ⟨q1, q2, q3⟩ := fin_all (l.eraseIdx a) (HHd.out wr (Only.refl _ wr)) hgrow2 hat2 hown2 hgrow3 hat3 hown3 (by rw [List.length_eraseIdx, if_pos (by rw [← Hn.out]; omega), ← Hn.out]; rfl) (by rw [List.eraseIdx_eq_take_drop_succ, iFlat_append]) nq
        refine ⟨a, (ka, xa), .slice A3 a c3, rfl, Hmin.out, Hpa.out, q1, ?_, ?_⟩
        · exact ((Only.of_ext (S := fun q => q = D) Hex.out).trans q2 fun _ _ h => h)
        · rcases q3 with h | ⟨g, h, hg⟩
          · exact .inl h
          · exact .inr ⟨g, h, Nat.le_trans Hex.out.size hg⟩
      · go_wp2_with (first
          | (at_builtin; refine wpList_appendR (wr.alloc (.cells #[.int .i64 ka, .int .i64 xa] 86)) rfl (.tmp 49) (.tmp 55) 40 rfl B 86 2 16 elemItem Try.underlying40 (.slice none 0 0) 0 [] rfl (World.ownsRow_nil _ _ _ _) (some ⟨G, 0, none⟩) a c (iFlat (l.take a)) rfl (by rw [iFlat_length, List.length_take]; have := Hn.out; omega) ((Rd.prefix_ (vs := iFlat (l.drop a)) (by rw [← iFlat_append, List.take_append_drop]; exact Hrd.out)).ext E1.out) (iFlat_one _) (by omega) (by simp; omega) ?_; intro v2 w2 hown2 hgrow2 hat2; rw [Nat.zero_add, List.nil_append] at hown2; obtain ⟨A2, c2, rfl⟩ := own_form hown2; have x2 : Ext _ w2 := Only.ext (Only.of_grown hgrow2) (fun k _ h => (by cases h)); have E2 := Lib.hid (Ext.next E1.out x2); have hd2 := HHd.out w2 (Only.of_ext E2.out); have hd2c := cellOf (i := 0) hd2 rfl; clear x2 hd2)
          | (at_builtin; (refine wpList_appendR w2 rfl (.tmp 58) (.tmp 65) 40 rfl B 86 2 16 elemItem Try.underlying40 (.slice A2 a c2) a _ rfl hown2 _ _ _ (iFlat (l.drop (a + 1))) rfl (by rw [iFlat_length, List.length_drop, ← Hn.out]) (by have := Rd.drop_ (Hrd.out.ext E2.out) ((a + 1) * 2); rw [iFlat_drop, Nat.zero_add] at this; exact this) (iFlat_one _) (by omega) (Nat.le_trans hBr E2.out.size) ?_; intro v3 w3 hown3 hgrow3 hat3; obtain ⟨A3, c3, rfl⟩ := own_form hown3; have hb3 := fin_hd (HHd.out wr (Only.refl _ wr)) hgrow2 hown2 hgrow3; have hc3 := cellOf (i := 0) hb3 rfl; have hf3 := freeOf hb3 0; have hx3 := fin_x hgrow2 hat2 hgrow3; have hx0 := cellOf (i := 0) hx3 rfl; have hx1 := cellOf (i := 1) hx3 rfl)))
        go_quiet (fail)
        go_wp2_with fail
        go_ret3
        obtain ⟨q1, q2, q3⟩ := fin_all (l.eraseIdx a) (HHd.out wr (Only.refl _ wr)) hgrow2 hat2 hown2 hgrow3 hat3 hown3 (by rw [List.length_eraseIdx, if_pos (by rw [← Hn.out]; omega), ← Hn.out]; omega) (by rw [List.eraseIdx_eq_take_drop_succ, iFlat_append]) nq
        refine ⟨a, (ka, xa), .slice A3 (a + (i - (a + 1))) c3, rfl, Hmin.out, Hpa.out, q1, ?_, ?_⟩
        · exact ((Only.of_ext (S := fun q => q = D) Hex.out).trans q2 fun _ _ h => h)
        · rcases q3 with h | ⟨g, h, hg⟩
          · exact .inl h
          · exact .inr ⟨g, h, Nat.le_trans Hex.out.size hg⟩

end Go.Proofs.Ytjemlenjencbkaa
