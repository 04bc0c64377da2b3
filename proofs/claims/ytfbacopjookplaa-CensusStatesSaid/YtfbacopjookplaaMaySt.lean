/- What census.May holds in memory, and when a shift's move is the access's and the shift's ahead. No program stands here. -/
import Derived.Test.YtfbacopjookplaaPlayed
import Derived.Test.YtfbacopjookplaaSlots
import Derived.Test.YtfbacopjookplaaShiftsPure
import Derived.Lib.SliceRun
namespace Go.Proofs.Ytfbacopjookplaa
open Go.RowKit

/-- The last one's thread of those at a move. -/
def byF (l : List (Int × Int)) (m : Int) : Option Int := ((l.filter (fun x => decide (x.1 = m))).getLast?).map Prod.snd
def pairA (a : Ac) : Int × Int := (a.mv, a.th)
def pairS (x : Sh) : Int × Int := (x.mv, x.th)
theorem byF_snoc (l : List (Int × Int)) (m t j : Int) : (if j = m then some t else byF l j) = byF (l ++ [(m, t)]) j := by
  unfold byF
  rw [List.filter_append]
  by_cases h : j = m
  · simp [h]
  · have : ¬ m = j := fun q => h q.symm
    simp [h, this]
theorem byF_some {l : List (Int × Int)} {m t : Int} (h : byF l m = some t) : (m, t) ∈ l := by
  unfold byF at h
  obtain ⟨x, hx, rfl⟩ := Option.map_eq_some_iff.1 h
  have hm := List.mem_of_getLast? hx
  rw [List.mem_filter] at hm
  have h2 : x.1 = m := by simpa using hm.2
  subst h2
  exact hm.1
theorem byF_none {l : List (Int × Int)} {m : Int} (h : byF l m = none) : ∀ x ∈ l, x.1 ≠ m := by
  unfold byF at h
  rw [Option.map_eq_none_iff, List.getLast?_eq_none_iff, List.filter_eq_nil_iff] at h
  intro x hx
  simpa using h x hx

/-- The trace's moves rise. -/
theorem trace_rise {l : List Cl} {r : List Int} : ∀ (tr : List Ac) (p : Int) (ws : List Int), traceF l p ws tr = some r → (∀ a ∈ tr, p < a.mv) ∧ tr.Pairwise (fun a b => a.mv < b.mv)
  | [], _, _, _ => ⟨fun a ha => absurd ha (by simp), List.Pairwise.nil⟩
  | a :: tr, p, ws, h => by
    rw [traceF] at h
    split at h
    · rename_i hp
      cases hs : stepW ws a with
      | none => rw [hs] at h; cases h
      | some ws' =>
        rw [hs] at h
        obtain ⟨h1, h2⟩ := trace_rise tr a.mv ws' h
        refine ⟨fun b hb => ?_, List.Pairwise.cons h1 h2⟩
        rcases List.mem_cons.1 hb with rfl | hb
        · exact hp.1
        · have := h1 b hb
          omega
    · cases h
theorem rise_same {tr : List Ac} (h : tr.Pairwise (fun a b => a.mv < b.mv)) {a b : Ac} (ha : a ∈ tr) (hb : b ∈ tr) (he : a.mv = b.mv) : a.th = b.th := by
  obtain ⟨i, hi⟩ := List.getElem?_of_mem ha
  obtain ⟨j, hj⟩ := List.getElem?_of_mem hb
  obtain ⟨hi1, hi2⟩ := List.getElem?_eq_some_iff.1 hi
  obtain ⟨hj1, hj2⟩ := List.getElem?_eq_some_iff.1 hj
  rcases Nat.lt_trichotomy i j with h1 | h1 | h1
  · have := List.pairwise_iff_getElem.1 h i j hi1 hj1 h1
    rw [hi2, hj2] at this
    omega
  · subst h1
    rw [hi] at hj
    injection hj with hj
    rw [hj]
  · have := List.pairwise_iff_getElem.1 h j i hj1 hi1 h1
    rw [hi2, hj2] at this
    omega

/-- What stands of the shifts ahead of place i. -/
def ShInv (tr : List Ac) (sh : List Sh) (i : Nat) : Prop :=
  -1 ≤ (prevSh sh i).1 ∧ (∀ (j : Nat) (y : Sh), j < i → sh[j]? = some y → y.mv ≤ (prevSh sh i).1) ∧ (0 < i → (∃ y, sh[i - 1]? = some y ∧ prevSh sh i = (y.mv, y.th)) ∧ ∀ a ∈ tr, a.mv = (prevSh sh i).1 → a.th = (prevSh sh i).2)
theorem ShInv.zero (tr : List Ac) (sh : List Sh) : ShInv tr sh 0 := ⟨Int.le_refl _, fun _ _ hj => absurd hj (Nat.not_lt_zero _), fun h => absurd h (Nat.not_lt_zero _)⟩
theorem ShInv.step {tr : List Ac} {sh : List Sh} {i : Nat} {x : Sh} (h : ShInv tr sh i) (hx : sh[i]? = some x) (hp : (prevSh sh i).1 ≤ x.mv) (ht : ∀ a ∈ tr, a.mv = x.mv → a.th = x.th) : ShInv tr sh (i + 1) := by
  unfold ShInv
  rw [prevSh_succ hx]
  have h1 := h.1
  refine ⟨by show -1 ≤ x.mv; omega, fun j y hj hy => ?_, fun _ => ⟨⟨x, hx, rfl⟩, ht⟩⟩
  show y.mv ≤ x.mv
  by_cases hji : j = i
  · subst hji
    rw [hx] at hy
    injection hy with hy
    rw [hy]
    exact Int.le_refl _
  · have := h.2.1 j y (by omega) hy
    omega
/-- The map of moves as it stands ahead of the shift at place i. -/
def byAt (tr : List Ac) (sh : List Sh) (i : Nat) : List (Int × Int) := tr.map pairA ++ (sh.take i).map pairS
theorem byAt_snoc {tr : List Ac} {sh : List Sh} {i : Nat} {x : Sh} (hx : sh[i]? = some x) : byAt tr sh i ++ [(x.mv, x.th)] = byAt tr sh (i + 1) := by
  unfold byAt
  rw [List.take_add_one, hx]
  simp [pairS]
theorem by_step {tr : List Ac} {sh : List Sh} {i : Nat} {x : Sh} (hT : tr.Pairwise (fun a b => a.mv < b.mv)) (hI : ShInv tr sh i) (hp : (prevSh sh i).1 ≤ x.mv) (h0 : 0 < x.mv) :
    (∀ t, byF (byAt tr sh i) x.mv = some t → t = x.th) ↔ ((x.mv = (prevSh sh i).1 → x.th = (prevSh sh i).2) ∧ ∀ a ∈ tr, a.mv = x.mv → a.th = x.th) := by
  by_cases hm : 0 < i ∧ x.mv = (prevSh sh i).1
  · obtain ⟨hi, hm⟩ := hm
    obtain ⟨⟨y, hy, hpy⟩, hall⟩ := hI.2.2 hi
    rw [hpy] at hm hall ⊢
    have hby : byF (byAt tr sh i) x.mv = some y.th := by
      have hs : byAt tr sh i = byAt tr sh (i - 1) ++ [(y.mv, y.th)] := by
        rw [byAt_snoc hy, show i - 1 + 1 = i from by omega]
      rw [hs, ← byF_snoc, if_pos hm]
    rw [hby]
    constructor
    · intro h
      have := h _ rfl
      refine ⟨fun _ => this.symm, fun a ha he => ?_⟩
      have := hall a ha (he.trans hm)
      simp only at this
      omega
    · rintro ⟨h, _⟩ t ht
      injection ht with ht
      have := h hm
      simp only at this
      omega
  · have hno : x.mv ≠ (prevSh sh i).1 := by
      intro e
      by_cases hi : 0 < i
      · exact hm ⟨hi, e⟩
      · obtain rfl : i = 0 := by omega
        have : x.mv = -1 := e
        omega
    have hsh : ∀ z ∈ (sh.take i).map pairS, z.1 ≠ x.mv := by
      intro z hz
      obtain ⟨y, hy, rfl⟩ := List.mem_map.1 hz
      obtain ⟨j, hj⟩ := List.getElem?_of_mem hy
      have hji : j < i := by
        have := (List.getElem?_eq_some_iff.1 hj).1
        rw [List.length_take] at this
        omega
      rw [List.getElem?_take_of_lt hji] at hj
      have := hI.2.1 j y hji hj
      show y.mv ≠ x.mv
      omega
    constructor
    · intro h
      refine ⟨fun e => absurd e hno, fun a ha he => ?_⟩
      cases hb : byF (byAt tr sh i) x.mv with
      | none => exact absurd he (byF_none hb (pairA a) (List.mem_append_left _ (List.mem_map.2 ⟨a, ha, rfl⟩)))
      | some t =>
        have h2 := h t hb
        have h3 := byF_some hb
        rcases List.mem_append.1 h3 with h3 | h3
        · obtain ⟨c, hc, hce⟩ := List.mem_map.1 h3
          injection hce with h4 h5
          have := rise_same hT ha hc (by omega)
          omega
        · exact absurd rfl (hsh _ h3)
    · rintro ⟨_, h⟩ t ht
      have h3 := byF_some ht
      rcases List.mem_append.1 h3 with h3 | h3
      · obtain ⟨c, hc, hce⟩ := List.mem_map.1 h3
        injection hce with h4 h5
        have := h c hc h4
        omega
      · exact absurd rfl (hsh _ h3)

/-- All threads' places are set to 0. -/
theorem Owners.cleared {B g gb ge gc ga T : Nat} {l : List Cl} {vs : List Value} : ∀ (k o : Nat) (w : World) (cur : List Int), Owners w B g gb ge gc ga T l l l vs cur → o + k = T → (∀ j, j < o → cur[j]? = some 0) →
    ∃ cur', Owners (w.setCells ga o (List.replicate k (.int .i64 0))) B g gb ge gc ga T l l l vs cur' ∧ Only (fun q => q = ga) w (w.setCells ga o (List.replicate k (.int .i64 0))) ∧ ∀ p, AtOK l T cur' p
  | 0, o, w, cur, h, hk, hz => ⟨cur, h, Only.refl _ _, fun p t ht => ⟨0, hz t (by omega), Nat.zero_le _, fun _ _ hj => absurd hj (Nat.not_lt_zero _)⟩⟩
  | k + 1, o, w, cur, h, hk, hz => by
    have hl := h.len.2
    obtain ⟨cur', h1, h2, h3⟩ := Owners.cleared k (o + 1) _ _ (h.set_at o 0) (by omega) (fun j hj => by
      by_cases hjo : j = o
      · subst hjo
        rw [List.getElem?_set_self (by omega)]
      · rw [List.getElem?_set_ne (Ne.symm hjo)]
        exact hz j (by omega))
    refine ⟨cur', h1, ?_, h3⟩
    exact ((Only.refl (fun q => q = ga) w).setCell ⟨ga, o, none⟩ (.int .i64 0) fun _ => rfl).trans h2 fun _ _ hq => hq

/-- What census.May holds while it goes through the shifts. -/
structure MaySt (w wr : World) (M0 M1 gm M2 : Nat) (cv rv : Array Value) (g gb ge gc ga T : Nat) (cs : List Cl) (vs : List Value) (cur : List Int) (f : Int → Option Int) (p g1 c1 g2 c2 s : Nat) (st ho : List Int) : Prop where
  ext : Ext w wr
  cfg : wr.heap[w.heap.size]? = some (.cells cv 23 (0, 0))
  run : wr.heap[w.heap.size + 1]? = some (.cells rv 48 (0, 0))
  own : Owners wr M0 g gb ge gc ga T cs cs cs vs cur
  map : IMap wr gm f
  slo : SlotsObj wr M2 p g1 c1 g2 c2 s st ho
  mine : ∀ q, Mine g gb ge gc ga vs q → q < M1
  lay : w.heap.size + 1 < M0 ∧ M1 ≤ gm ∧ gm < M2
section
variable {w wr w' : World} {M0 M1 gm M2 : Nat} {cv rv : Array Value} {g gb ge gc ga T : Nat} {cs : List Cl} {vs : List Value} {cur : List Int} {f : Int → Option Int} {p g1 c1 g2 c2 s : Nat} {st ho : List Int}
theorem MaySt.next (h : MaySt w wr M0 M1 gm M2 cv rv g gb ge gc ga T cs vs cur f p g1 c1 g2 c2 s st ho) (e : Ext wr w') : MaySt w w' M0 M1 gm M2 cv rv g gb ge gc ga T cs vs cur f p g1 c1 g2 c2 s st ho :=
  ⟨Ext.next h.ext e, ext_blk e h.cfg, ext_blk e h.run, h.own.ext e, h.map.ext e, h.slo.ext e, h.mine, h.lay⟩
theorem MaySt.ga_in (h : MaySt w wr M0 M1 gm M2 cv rv g gb ge gc ga T cs vs cur f p g1 c1 g2 c2 s st ho) : M0 ≤ ga ∧ ga < M1 :=
  ⟨(h.own.lt (.inr (.inr (.inr (.inr (.inl rfl)))))).1, h.mine _ (.inr (.inr (.inr (.inr (.inl rfl)))))⟩
theorem MaySt.slots_in (h : MaySt w wr M0 M1 gm M2 cv rv g gb ge gc ga T cs vs cur f p g1 c1 g2 c2 s st ho) : M2 ≤ p ∧ M2 ≤ g1 ∧ M2 ≤ g2 := ⟨h.slo.low, (h.slo.own1.lt _ rfl).1, (h.slo.own2.lt _ rfl).1⟩
theorem MaySt.may (h : MaySt w wr M0 M1 gm M2 cv rv g gb ge gc ga T cs vs cur f p g1 c1 g2 c2 s st ho) {cur' : List Int} (hO : Owners w' M0 g gb ge gc ga T cs cs cs vs cur') (o : Only (fun q => q = ga) wr w') : MaySt w w' M0 M1 gm M2 cv rv g gb ge gc ga T cs vs cur' f p g1 c1 g2 c2 s st ho := by
  have h1 := h.ga_in
  have h2 := h.lay
  have h3 := h.slots_in
  refine ⟨h.ext.only o fun q hq => by omega, (o.block _ (blk_lt h.cfg) (by omega)).trans h.cfg, (o.block _ (blk_lt h.run) (by omega)).trans h.run, hO, h.map.only o (by omega), h.slo.only o (by omega) (by omega) (by omega), h.mine, h.lay⟩
theorem MaySt.put_by (h : MaySt w wr M0 M1 gm M2 cv rv g gb ge gc ga T cs vs cur f p g1 c1 g2 c2 s st ho) {f' : Int → Option Int} (hm : IMap w' gm f') (o : Only (fun q => q = gm) wr w') : MaySt w w' M0 M1 gm M2 cv rv g gb ge gc ga T cs vs cur f' p g1 c1 g2 c2 s st ho := by
  have h1 := h.ga_in
  have h2 := h.lay
  have h3 := h.slots_in
  refine ⟨h.ext.only o fun q hq => by omega, (o.block _ (blk_lt h.cfg) (by omega)).trans h.cfg, (o.block _ (blk_lt h.run) (by omega)).trans h.run, h.own.only o (fun q hq e => by have := h.mine q hq; omega), hm, h.slo.only o (by omega) (by omega) (by omega), h.mine, h.lay⟩
theorem MaySt.put (h : MaySt w wr M0 M1 gm M2 cv rv g gb ge gc ga T cs vs cur f p g1 c1 g2 c2 s st ho) {st' ho' : List Int} (hs : SlotsObj w' M2 p g1 c1 g2 c2 s st' ho') (o : Only (fun q => q = g1 ∨ q = g2) wr w') : MaySt w w' M0 M1 gm M2 cv rv g gb ge gc ga T cs vs cur f p g1 c1 g2 c2 s st' ho' := by
  have h1 := h.ga_in
  have h2 := h.lay
  have h3 := h.slots_in
  refine ⟨h.ext.only o fun q hq => by omega, (o.block _ (blk_lt h.cfg) (by omega)).trans h.cfg, (o.block _ (blk_lt h.run) (by omega)).trans h.run, h.own.only o (fun q hq e => by have := h.mine q hq; omega), h.map.only o (by omega), hs, h.mine, h.lay⟩
end

end Go.Proofs.Ytfbacopjookplaa
