/- The walk of moments. -/
import Derived.Test.YtfbacopjookplaaMoments1
namespace Go.Proofs.Ytfbacopjookplaa
open Go.RowKit

/-- A moment: a move, the number of its access, its shifts. -/
structure Mo where
  mv : Int
  ac : Option Nat
  sh : List Sh
/-- The pointer at an access. -/
def accV (A : Option Addr) : Option Nat → Value
  | some k => match A with
    | some a => .pointer (some ⟨a.block, a.off + k * 7, none⟩)
    | none => .pointer none
  | none => .pointer none
def encM (A : Option Addr) (x : Mo × Value) : List Value := [.int .i64 x.1.mv, accV A x.1.ac, x.2]

/-- The moments in memory, with the slices of their shifts. -/
structure Moms (w : World) (B : Nat) (A : Option Addr) (v : Value) (ms : List (Mo × Value)) : Prop where
  row : w.ownsRow B 189 3 v ms.length (ms.flatMap (encM A))
  sub : ∀ (k : Nat) (m : Mo) (u : Value), ms[k]? = some (m, u) → w.ownsRow B 136 5 u m.sh.length (m.sh.flatMap Sh.enc)
  apart : ∀ (k l : Nat) (m m' : Mo) (u u' : Value) (q : Nat), k ≠ l → ms[k]? = some (m, u) → ms[l]? = some (m', u') → u.ownBlock = some q → u'.ownBlock ≠ some q

section
variable {w w' : World} {B : Nat} {A : Option Addr} {v : Value} {ms : List (Mo × Value)}
theorem Moms.nil (w : World) (B : Nat) (A : Option Addr) : Moms w B A (.slice none 0 0) [] := ⟨World.ownsRow_nil _ _ _ _, fun k m u h => by simp at h, fun k l m m' u u' q _ h => by simp at h⟩
/-- The blocks of the moments. -/
def MoMine (v : Value) (ms : List (Mo × Value)) (q : Nat) : Prop := v.ownBlock = some q ∨ ∃ (k : Nat) (m : Mo) (u : Value), ms[k]? = some (m, u) ∧ u.ownBlock = some q
theorem Moms.lt (h : Moms w B A v ms) {q : Nat} (hq : MoMine v ms q) : B ≤ q ∧ q < w.heap.size := by
  rcases hq with hq | ⟨k, m, u, hk, hq⟩
  · exact h.row.lt _ hq
  · exact (h.sub k m u hk).lt _ hq
theorem Moms.only (h : Moms w B A v ms) {X : Nat → Prop} (o : Only X w w') (hx : ∀ q, MoMine v ms q → ¬ X q) : Moms w' B A v ms :=
  ⟨own_only h.row o fun q hq => hx q (.inl hq), fun k m u hk => own_only (h.sub k m u hk) o fun q hq => hx q (.inr ⟨k, m, u, hk, hq⟩), h.apart⟩
theorem Moms.ext (h : Moms w B A v ms) (e : Ext w w') : Moms w' B A v ms := h.only (X := fun _ => False) (Only.of_ext e) fun _ _ f => f
/-- A moment more, without shifts. -/
theorem Moms.push (h : Moms w B A v ms) {v5 : Value} {mv : Int} {ac : Option Nat} (hown : w'.ownsRow B 189 3 v5 (ms.length + 1) (ms.flatMap (encM A) ++ [.int .i64 mv, accV A ac, .slice none 0 0])) (hg : w.grownBy w' v.ownBlock) :
    Moms w' B A v5 (ms ++ [(⟨mv, ac, []⟩, .slice none 0 0)]) := by
  have o := Only.of_grown hg
  refine ⟨?_, fun k m u hk => ?_, fun k l m m' u u' q hkl hk hl hq => ?_⟩
  · rw [List.length_append, List.flatMap_append]
    simpa [encM] using hown
  · rw [List.getElem?_append] at hk
    split at hk
    · exact own_only (h.sub k m u hk) o fun q hq e => own_two (h.sub k m u hk) h.row (by decide) q hq e.symm
    · rename_i hlt
      cases hkk : k - ms.length with
      | zero =>
        rw [hkk] at hk
        injection hk with hk
        injection hk with h1 h2
        subst h1 h2
        exact World.ownsRow_nil _ _ _ _
      | succ t => rw [hkk] at hk; simp at hk
  · rw [List.getElem?_append] at hk hl
    split at hk
    · split at hl
      · exact h.apart k l m m' u u' q hkl hk hl hq
      · intro e
        cases hkk : l - ms.length with
        | zero =>
          rw [hkk] at hl
          injection hl with hl
          injection hl with h1 h2
          subst h1 h2
          cases e
        | succ t => rw [hkk] at hl; simp at hl
    · cases hkk : k - ms.length with
      | zero =>
        rw [hkk] at hk
        injection hk with hk
        injection hk with h1 h2
        subst h1 h2
        cases hq
      | succ t => rw [hkk] at hk; simp at hk
theorem encM_len (A : Option Addr) (ms : List (Mo × Value)) : (ms.flatMap (encM A)).length = ms.length * 3 := by
  induction ms with
  | nil => rfl
  | cons x ms ih => simp [encM, ih]; omega
/-- A shift more, at the last moment. -/
theorem Moms.shift {go co : Nat} {m : Mo} {u : Value} {n : Nat} (h : Moms w B A (.slice (some ⟨go, 0, none⟩) (n + 1) co) (ms ++ [(m, u)])) (hn : ms.length = n) {w1 : World} {u5 : Value} {x : Sh}
    (hown : w1.ownsRow B 136 5 u5 (m.sh.length + 1) (m.sh.flatMap Sh.enc ++ x.enc)) (hg : w.grownBy w1 u.ownBlock) (hat : u5.ownBlock = u.ownBlock ∨ ∃ q, u5.ownBlock = some q ∧ w.heap.size ≤ q) :
    Moms (w1.setCell ⟨go, n * 3 + 2, none⟩ u5) B A (.slice (some ⟨go, 0, none⟩) (n + 1) co) (ms ++ [({ m with sh := m.sh ++ [x] }, u5)]) ∧ Only (fun q => q = go ∨ u.ownBlock = some q) w (w1.setCell ⟨go, n * 3 + 2, none⟩ u5) := by
  subst hn
  have hl : (ms ++ [(m, u)])[ms.length]? = some (m, u) := by simp
  have hu := h.sub _ _ _ hl
  have o1 := Only.of_grown hg
  have hgo : (Value.slice (some ⟨go, 0, none⟩) (ms.length + 1) co).ownBlock = some go := rfl
  have hlen : (ms ++ [(m, u)]).length = ms.length + 1 := by simp
  have hrow1 : w1.ownsRow B 189 3 (.slice (some ⟨go, 0, none⟩) (ms.length + 1) co) (ms.length + 1) ((ms ++ [(m, u)]).flatMap (encM A)) := by
    have := own_only h.row o1 fun q hq e => own_two h.row hu (by decide) q hq e.symm
    rwa [hlen] at this
  obtain ⟨hr2, _⟩ := hrow1.stored (ms.length * 3 + 2) u5
  have o2 : Only (fun q => q = go) w1 (w1.setCell ⟨go, ms.length * 3 + 2, none⟩ u5) := (Only.refl (fun q => q = go) w1).setCell ⟨go, ms.length * 3 + 2, none⟩ u5 fun _ => rfl
  have hne5 : ∀ q, u5.ownBlock = some q → q ≠ go := fun q hq e => own_two hown hrow1 (by decide) q hq (by rw [e]; rfl)
  refine ⟨⟨?_, fun k m' u' hk => ?_, fun k l m1 m2 u1 u2 q hkl hk hl2 hq => ?_⟩, ?_⟩
  · rw [List.length_append]
    have e : ((ms ++ [(m, u)]).flatMap (encM A)).set (ms.length * 3 + 2) u5 = (ms ++ [({ m with sh := m.sh ++ [x] }, u5)]).flatMap (encM A) := by
      rw [List.flatMap_append, List.flatMap_append, List.set_append_right _ _ (by rw [encM_len]; omega), encM_len, Nat.add_sub_cancel_left]
      rfl
    rw [← e]
    exact hr2
  · rw [List.getElem?_append] at hk
    split at hk
    · rename_i hlt
      have hk' : (ms ++ [(m, u)])[k]? = some (m', u') := by rw [List.getElem?_append_left hlt]; exact hk
      have h1 := own_only (h.sub k m' u' hk') o1 fun q hq e => h.apart k ms.length m' m u' u q (by omega) hk' hl hq e.symm
      exact own_only h1 o2 fun q hq e => own_two h1 hrow1 (by decide) q hq (by rw [e]; rfl)
    · cases hkk : k - ms.length with
      | zero =>
        rw [hkk] at hk
        injection hk with hk
        injection hk with h1 h2
        subst h1 h2
        have := own_only hown o2 fun q hq e => hne5 q hq e
        rw [List.length_append, List.flatMap_append]
        simpa using this
      | succ t => rw [hkk] at hk; simp at hk
  · have old : ∀ (k : Nat) (m1 : Mo) (u1 : Value) (q : Nat), ms[k]? = some (m1, u1) → u1.ownBlock = some q → u5.ownBlock ≠ some q := fun k m1 u1 q hk hq e => by
      have hlt := (List.getElem?_eq_some_iff.1 hk).1
      have hk' : (ms ++ [(m, u)])[k]? = some (m1, u1) := by rw [List.getElem?_append_left hlt]; exact hk
      rcases hat with e5 | ⟨q', e5, hq'⟩
      · rw [e5] at e
        exact h.apart k ms.length m1 m u1 u q (by omega) hk' hl hq e
      · rw [e5] at e
        injection e with e
        have := (h.sub k m1 u1 hk').lt q hq
        omega
    rw [List.getElem?_append] at hk hl2
    split at hk
    · split at hl2
      · rename_i h1 h2
        exact h.apart k l m1 m2 u1 u2 q hkl (by rw [List.getElem?_append_left h1]; exact hk) (by rw [List.getElem?_append_left h2]; exact hl2) hq
      · cases hkk : l - ms.length with
        | zero =>
          rw [hkk] at hl2
          injection hl2 with hl2
          injection hl2 with h1 h2
          subst h1 h2
          exact old k m1 u1 q hk hq
        | succ t => rw [hkk] at hl2; simp at hl2
    · rename_i hnk
      cases hkk : k - ms.length with
      | zero =>
        rw [hkk] at hk
        injection hk with hk
        injection hk with h1 h2
        subst h1 h2
        split at hl2
        · intro e
          exact old l m2 u2 q hl2 e hq
        · cases hll : l - ms.length with
          | zero => omega
          | succ t => rw [hll] at hl2; simp at hl2
      | succ t => rw [hkk] at hk; simp at hk
  · exact (o1.mono (S' := fun q => q = go ∨ u.ownBlock = some q) fun q _ e => .inr e.symm).setCell _ _ fun _ => .inl rfl
end

structure MInv (tr : List Ac) (sh : List Sh) (i j : Nat) (l : List Mo) : Prop where
  rise : l.Pairwise (fun a b => a.mv < b.mv)
  accs : l.filterMap Mo.ac = List.range i
  acat : ∀ m ∈ l, ∀ k, m.ac = some k → ∃ a, tr[k]? = some a ∧ a.mv = m.mv
  shs : l.flatMap Mo.sh = sh.take j
  shat : ∀ m ∈ l, ∀ x ∈ m.sh, x.mv = m.mv
  full : ∀ m ∈ l, m.ac ≠ none ∨ m.sh ≠ []
  below : ∀ m ∈ l, ∀ (k : Nat) (a : Ac), i ≤ k → tr[k]? = some a → m.mv < a.mv
  below2 : ∀ m ∈ l, ∀ (k : Nat) (x : Sh), j ≤ k → sh[k]? = some x → m.mv ≤ x.mv
/-- The accesses' moves rise. -/
def RiseA (tr : List Ac) : Prop := ∀ (i k : Nat) (a b : Ac), i < k → tr[i]? = some a → tr[k]? = some b → a.mv < b.mv
/-- The shifts' moves do not fall. -/
def RiseS (sh : List Sh) : Prop := ∀ (i k : Nat) (a b : Sh), i ≤ k → sh[i]? = some a → sh[k]? = some b → a.mv ≤ b.mv

theorem MInv.zero (tr : List Ac) (sh : List Sh) : MInv tr sh 0 0 [] := ⟨List.Pairwise.nil, rfl, fun m h => by simp at h, rfl, fun m h => by simp at h, fun m h => by simp at h, fun m h => by simp at h, fun m h => by simp at h⟩
theorem len_full : ∀ (l : List Mo), (∀ m ∈ l, m.ac ≠ none ∨ m.sh ≠ []) → l.length ≤ (l.filterMap Mo.ac).length + (l.flatMap Mo.sh).length
  | [], _ => by simp
  | m :: l, h => by
    have ih := len_full l fun m hm => h m (List.mem_cons_of_mem _ hm)
    rw [List.flatMap_cons, List.length_append, List.length_cons]
    rcases h m (List.mem_cons_self) with h1 | h1
    · cases hac : m.ac with
      | none => exact absurd hac h1
      | some k =>
        rw [List.filterMap_cons_some hac, List.length_cons]
        omega
    · have : 0 < m.sh.length := List.length_pos_iff.2 h1
      cases hac : m.ac with
      | none =>
        rw [List.filterMap_cons_none hac]
        omega
      | some k =>
        rw [List.filterMap_cons_some hac, List.length_cons]
        omega
theorem MInv.len {tr : List Ac} {sh : List Sh} {i j : Nat} {l : List Mo} (h : MInv tr sh i j l) : l.length ≤ i + j := by
  have := len_full l h.full
  rw [h.accs, h.shs, List.length_range, List.length_take] at this
  omega

/-- An access is taken ahead of a shift. -/
theorem MInv.access {tr : List Ac} {sh : List Sh} {i j : Nat} {l : List Mo} (h : MInv tr sh i j l) (hT : RiseA tr) {a : Ac} (ha : tr[i]? = some a) (hx : ∀ (k : Nat) (x : Sh), j ≤ k → sh[k]? = some x → a.mv ≤ x.mv) :
    MInv tr sh (i + 1) j (l ++ [⟨a.mv, some i, []⟩]) := by
  refine ⟨?_, ?_, fun m hm k hk => ?_, ?_, fun m hm x hx => ?_, fun m hm => ?_, fun m hm k b hik hb => ?_, fun m hm k x hjk hx' => ?_⟩
  · rw [List.pairwise_append]
    refine ⟨h.rise, by simp, fun m hm m' hm' => ?_⟩
    simp only [List.mem_singleton] at hm'
    subst hm'
    exact h.below m hm i a (Nat.le_refl _) ha
  · rw [List.filterMap_append, h.accs, List.range_succ]
    rfl
  · rcases List.mem_append.1 hm with hm | hm
    · exact h.acat m hm k hk
    · simp only [List.mem_singleton] at hm
      subst hm
      injection hk with hk
      subst hk
      exact ⟨a, ha, rfl⟩
  · rw [List.flatMap_append, h.shs]
    simp
  · rcases List.mem_append.1 hm with hm | hm
    · exact h.shat m hm x hx
    · simp only [List.mem_singleton] at hm
      subst hm
      simp at hx
  · rcases List.mem_append.1 hm with hm | hm
    · exact h.full m hm
    · simp only [List.mem_singleton] at hm
      subst hm
      exact .inl (by simp)
  · rcases List.mem_append.1 hm with hm | hm
    · exact h.below m hm k b (by omega) hb
    · simp only [List.mem_singleton] at hm
      subst hm
      exact hT i k a b (by omega) ha hb
  · rcases List.mem_append.1 hm with hm | hm
    · exact h.below2 m hm k x hjk hx'
    · simp only [List.mem_singleton] at hm
      subst hm
      exact hx k x hjk hx'

/-- A shift goes to the last moment. -/
theorem MInv.shift_last {tr : List Ac} {sh : List Sh} {i j : Nat} {l : List Mo} {m : Mo} (h : MInv tr sh i j (l ++ [m])) {x : Sh} (hx : sh[j]? = some x) (hm : m.mv = x.mv) :
    MInv tr sh i (j + 1) (l ++ [{ m with sh := m.sh ++ [x] }]) := by
  have hmem : m ∈ l ++ [m] := by simp
  refine ⟨?_, ?_, fun m' hm' k hk => ?_, ?_, fun m' hm' y hy => ?_, fun m' hm' => ?_, fun m' hm' k b hik hb => ?_, fun m' hm' k y hjk hy => ?_⟩
  · have := h.rise
    rw [List.pairwise_append] at this ⊢
    refine ⟨this.1, by simp, fun a ha b hb => ?_⟩
    simp only [List.mem_singleton] at hb
    subst hb
    exact this.2.2 a ha m (by simp)
  · have := h.accs
    rw [List.filterMap_append] at this ⊢
    exact this
  · rcases List.mem_append.1 hm' with hm' | hm'
    · exact h.acat m' (List.mem_append_left _ hm') k hk
    · simp only [List.mem_singleton] at hm'
      subst hm'
      exact h.acat m hmem k hk
  · have := h.shs
    rw [List.flatMap_append] at this ⊢
    simp only [List.flatMap_cons, List.flatMap_nil, List.append_nil] at this ⊢
    rw [← List.append_assoc, this, List.take_add_one, hx]
    rfl
  · rcases List.mem_append.1 hm' with hm' | hm'
    · exact h.shat m' (List.mem_append_left _ hm') y hy
    · simp only [List.mem_singleton] at hm'
      subst hm'
      rcases List.mem_append.1 hy with hy | hy
      · exact h.shat m hmem y hy
      · simp only [List.mem_singleton] at hy
        subst hy
        exact hm.symm
  · rcases List.mem_append.1 hm' with hm' | hm'
    · exact h.full m' (List.mem_append_left _ hm')
    · simp only [List.mem_singleton] at hm'
      subst hm'
      exact .inr (by simp)
  · rcases List.mem_append.1 hm' with hm' | hm'
    · exact h.below m' (List.mem_append_left _ hm') k b hik hb
    · simp only [List.mem_singleton] at hm'
      subst hm'
      exact h.below m hmem k b hik hb
  · rcases List.mem_append.1 hm' with hm' | hm'
    · exact h.below2 m' (List.mem_append_left _ hm') k y (by omega) hy
    · simp only [List.mem_singleton] at hm'
      subst hm'
      exact h.below2 m hmem k y (by omega) hy
/-- A shift opens a moment. -/
theorem MInv.shift_new {tr : List Ac} {sh : List Sh} {i j : Nat} {l : List Mo} (h : MInv tr sh i j l) (hS : RiseS sh) {x : Sh} (hx : sh[j]? = some x) (hl : ∀ m, l.getLast? = some m → m.mv ≠ x.mv) (hi : ∀ (k : Nat) (a : Ac), i ≤ k → tr[k]? = some a → x.mv < a.mv) :
    MInv tr sh i (j + 1) (l ++ [⟨x.mv, none, [x]⟩]) := by
  have hlt : ∀ m ∈ l, m.mv < x.mv := by
    intro m hm
    rcases List.eq_nil_or_concat l with rfl | ⟨l0, m0, rfl⟩
    · simp at hm
    · have h0 := hl m0 (by simp)
      have h1 := h.below2 m0 (by simp) j x (Nat.le_refl _) hx
      have hr := h.rise
      rw [List.concat_eq_append] at hm hr
      rw [List.pairwise_append] at hr
      rcases List.mem_append.1 hm with hm | hm
      · have := hr.2.2 m hm m0 (by simp)
        omega
      · simp only [List.mem_singleton] at hm
        subst hm
        omega
  refine ⟨?_, ?_, fun m hm k hk => ?_, ?_, fun m hm y hy => ?_, fun m hm => ?_, fun m hm k b hik hb => ?_, fun m hm k y hjk hy => ?_⟩
  · rw [List.pairwise_append]
    refine ⟨h.rise, by simp, fun m hm m' hm' => ?_⟩
    simp only [List.mem_singleton] at hm'
    subst hm'
    exact hlt m hm
  · rw [List.filterMap_append, h.accs]
    simp
  · rcases List.mem_append.1 hm with hm | hm
    · exact h.acat m hm k hk
    · simp only [List.mem_singleton] at hm
      subst hm
      cases hk
  · rw [List.flatMap_append, h.shs, List.take_add_one, hx]
    rfl
  · rcases List.mem_append.1 hm with hm | hm
    · exact h.shat m hm y hy
    · simp only [List.mem_singleton] at hm
      subst hm
      simp only [List.mem_singleton] at hy
      subst hy
      rfl
  · rcases List.mem_append.1 hm with hm | hm
    · exact h.full m hm
    · simp only [List.mem_singleton] at hm
      subst hm
      exact .inr (by simp)
  · rcases List.mem_append.1 hm with hm | hm
    · exact h.below m hm k b hik hb
    · simp only [List.mem_singleton] at hm
      subst hm
      exact hi k b hik hb
  · rcases List.mem_append.1 hm with hm | hm
    · exact h.below2 m hm k y (by omega) hy
    · simp only [List.mem_singleton] at hm
      subst hm
      exact hS j k x y (by omega) hx hy

/-- What moments answers. -/
def MomsOut (w : World) (A : Option Addr) (tr : List Ac) (sh : List Sh) (e : Ending) (w' : World) : Prop :=
  ∃ (v : Value) (ms : List (Mo × Value)), e = .returned v ∧ Moms w' w.heap.size A v ms ∧ MInv tr sh tr.length sh.length (ms.map Prod.fst) ∧ Ext w w'
/-- The value of the slice of so many moments. -/
def FormM (v : Value) (n : Nat) : Prop := (n = 0 ∧ v = .slice none 0 0) ∨ ∃ go co, v = .slice (some ⟨go, 0, none⟩) n co ∧ 0 < n
theorem grown_drewm {w w' : World} {row : Option Nat} (h : w.drew.grownBy w' row) : w.grownBy w' row := ⟨h.os, h.tape, h.output, h.size, h.block⟩
theorem Moms.ext_grown {w0 w w' : World} {A : Option Addr} {v : Value} {ms : List (Mo × Value)} (h : Moms w w0.heap.size A v ms) (e : Ext w0 w) (g : w.grownBy w' v.ownBlock) : Ext w0 w' :=
  e.only (Only.of_grown g) fun q hq => (h.row.lt q hq.symm).1
theorem getLast_map_fst {ms : List (Mo × Value)} {m : Mo} {u : Value} (h : ms.getLast? = some (m, u)) : (ms.map Prod.fst).getLast? = some m := by
  rw [List.getLast?_map, h]
  rfl

set_option maxRecDepth 100000 in
set_option maxHeartbeats 8000000 in
theorem moments_any (A1 : Option Addr) (n1 c1 : Nat) (A2 : Option Addr) (n2 c2 : Nat) (A3 : Option Addr) (n3 c3 : Nat) (A4 : Option Addr) (n4 c4 : Nat) (tr : List Ac) (sh : List Sh) (w : World) (h2 : Arr Ac.enc w A2 n2 tr) (h3 : Arr Sh.enc w A3 n3 sh) (hT : RiseA tr) (hS : RiseS sh) (b2 : n2 ≤ 2000000) (b3 : n3 ≤ 2000000) :
    Calls Try.prog 119 #[.agg #[.slice A1 n1 c1, .slice A2 n2 c2, .slice A3 n3 c3, .slice A4 n4 c4]] w (MomsOut w A2 tr sh) := by
  have H2 := Lib.hid h2
  have H3 := Lib.hid h3
  have HT := Lib.hid hT
  have HS := Lib.hid hS
  clear h2 h3 hT hS
  go_enter Try.func119, Try.ntmps119
  go_upto_region 1 with fail
  obtain ⟨w0, hw0, hR, hE, hlt0⟩ := enter1 w (.cells #[.slice A1 n1 c1, .slice A2 n2 c2, .slice A3 n3 c3, .slice A4 n4 c4] 48)
  rw [hw0]
  have HE := Lib.hid hE
  have HR := Lib.hid hR
  have H20 := Lib.hid (H2.out.ext hE)
  have H30 := Lib.hid (H3.out.ext hE)
  obtain ⟨r0, r1, r2, r3⟩ := Lat.run hR
  obtain ⟨k0, hk0⟩ := lat_self w0
  rw [hk0]
  clear hw0 hR hE hk0
  generalize hpr : w.heap.size = pr at *
  go_upto_region 4 with fail
  go_loopw [3, 4, 12] (fun s3 s4 s12 wr => ∃ (i j : Nat) (ms : List (Mo × Value)) (k : Lat w0), s4 = .int .i64 i ∧ s12 = .int .i64 j ∧ i ≤ n2 ∧ j ≤ n3 ∧ FormM s3 ms.length ∧ Hid (Moms k.world w0.heap.size A2 s3 ms) ∧ Hid (MInv tr sh i j (ms.map Prod.fst)) ∧ wr = k.world) (fun _ _ s _ => n3 - (intOf s).toNat)
  case atStart => exact ⟨0, 0, [], k0, rfl, rfl, by omega, by omega, .inl ⟨rfl, rfl⟩, Moms.nil _ _ _, MInv.zero tr sh, rfl⟩
  case round =>
    clear k0
    obtain ⟨i, j, ms, k, rfl, rfl, hi, hj, hform, HM, HI, rfl⟩ := hrel
    by_cases hlt : j < n3
    · obtain ⟨bs, os, x, hAx, hbs, hx, x0, x1, x2, x3, x4⟩ := Sh.at_ H30.out hlt
      have h1 : (j : Int) < (n3 : Int) := by omega
      have hj0 : (0 : Int) ≤ (j : Int) := by omega
      subst hAx
      go_upto_region 6 with fail
      obtain ⟨w3, hw3, hX, hE3, hlt3⟩ := enter1 k.world (.cells #[.int .i64 x.mv, .int .i64 x.th, .int .i64 x.sl, .int .i64 x.fr, .int .i64 x.to] 136)
      rw [hw3]
      clear x0 x1 x2 x3 x4 r0 r1 r2 r3
      have HE3 := Lib.hid (Ext.next k.ok hE3)
      have HX3 := Lib.hid hX
      have HM3 := Lib.hid (HM.out.ext hE3)
      have HR3 := Lib.hid (ext_blk HE3.out HR.out)
      have H23 := Lib.hid (H20.out.ext HE3.out)
      have hpxl : k.world.heap.size < w3.heap.size := hlt3
      have hkl : w0.heap.size ≤ k.world.heap.size := k.size
      generalize k.world.heap.size = px at *
      clear hw3 hE3 hlt3 hX HM k
      go_loopw [3, 4] (fun s3 s4 wr => ∃ (i : Nat) (ms : List (Mo × Value)), s4 = .int .i64 i ∧ i ≤ n2 ∧ FormM s3 ms.length ∧ Hid (Moms wr w0.heap.size A2 s3 ms) ∧ Hid (MInv tr sh i j (ms.map Prod.fst)) ∧ Hid (Ext w0 wr) ∧ Hid (wr.heap[px]? = some (.cells #[.int .i64 x.mv, .int .i64 x.th, .int .i64 x.sl, .int .i64 x.fr, .int .i64 x.to] 136 (0, 0)))) (fun _ s _ => n2 - (intOf s).toNat)
      case atStart => exact ⟨i, ms, rfl, hi, hform, HM3, HI, HE3, HX3⟩
      case round =>
        clear HM3 HI HX3 HR3 H23 HE3
        obtain ⟨i, ms, rfl, hi, hform, HM, HI, HE4, HX4⟩ := hrel
        obtain ⟨x0, x1, x2, x3, x4⟩ := Sh.boxed HX4.out
        obtain ⟨r0, r1, r2, r3⟩ := Lat.run (ext_blk HE4.out HR.out)
        obtain ⟨k4, hk4⟩ := lat_self wr
        by_cases hmore : ∃ a, tr[i]? = some a ∧ a.mv ≤ x.mv
        · obtain ⟨a, ha, hle⟩ := hmore
          have hin : i < n2 := by rw [← H20.out.1]; exact (List.getElem?_eq_some_iff.1 ha).1
          have hi0 : (0 : Int) ≤ (i : Int) := by omega
          have hi1 : (i : Int) < (n2 : Int) := by omega
          obtain ⟨ba, oa, a', hAa, hba, ha', y0, y1, y2, y3, y4, y5, y6⟩ := Ac.at_ (H20.out.ext HE4.out) hin
          obtain rfl : a = a' := by
            have := ha'.out
            rw [ha] at this
            exact Option.some.inj this
          have Ha := Lib.hid ha
          subst hAa
          rw [hk4]
          clear hk4 ha ha'
          have hd : decide (a.mv ≤ x.mv) = true := by simpa using hle
          go_upto_region 6 with fail
          refine wp_region_cls (Ext wr) (Ext.drew1 k4.ok) (by kernel_rfl) (by kernel_rfl) ?_
          repeat (go_big_quiet_step (fail))
          refine wpQuiet_nil ?_
          rintro _ ⟨k5, rfl⟩
          go_upto_region 7 with fail
          obtain ⟨wq, hwq⟩ : ∃ wq, k5.world = wq := ⟨_, rfl⟩
          have HEq : Hid (Ext wr wq) := hwq ▸ k5.ok
          rw [hwq]
          have Hq := Lib.hid (HM.out.ext HEq.out)
          have hlen : ms.length ≤ 4000000 := by
            have := HI.out.len
            rw [List.length_map] at this
            omega
          have hBq : w0.heap.size ≤ wq.heap.size := Nat.le_trans HE4.out.size HEq.out.size
          have z0 := r1 ⟨wq, HEq.out⟩
          have z1 := y0 ⟨wq, HEq.out⟩
          simp only at z0 z1
          have hprq : pr < wq.heap.size := by have := blk_lt HR.out; omega
          have hbaq : ba < wq.heap.size := Nat.lt_of_lt_of_le hba HEq.out.size
          have hp5 : pr ≠ wq.heap.size := by omega
          have hb5 : ba ≠ wq.heap.size := by omega
          have hcl : ([.int .i64 a.mv, .pointer (some ⟨ba, oa + i * 7, none⟩), .slice none 0 0] : List Value).length = 1 * 3 := rfl
          have hrdE : ∀ w', Ext (wq.alloc (.cells #[.int .i64 a.mv, .pointer (some ⟨ba, oa + i * 7, none⟩), .slice none 0 0] 189)) w' → Rd w' (some ⟨wq.heap.size, 0, none⟩) [.int .i64 a.mv, .pointer (some ⟨ba, oa + i * 7, none⟩), .slice none 0 0] := fun w' e => (Rd.made wq [.int .i64 a.mv, .pointer (some ⟨ba, oa + i * 7, none⟩), .slice none 0 0] 189).ext e
          have hone : ∀ u ∈ ([.int .i64 a.mv, .pointer (some ⟨ba, oa + i * 7, none⟩), .slice none 0 0] : List Value), u.oneCell' = true := by intro u hu; simp at hu; rcases hu with rfl | rfl | rfl <;> rfl
          have hownE : ∀ w', Ext wq w' → w'.ownsRow w0.heap.size 189 3 u3 ms.length (ms.flatMap (encM (some ⟨ba, oa, none⟩))) := fun w' e => own_ext Hq.out.row e
          clear hwq r0 r1 r2 r3 y0 y1 y2 y3 y4 y5 y6 x0 x1 x2 x3 x4
          go_region_law ((refine step_appendR _ rfl (.tmp 32) (.tmp 44) 185 rfl w0.heap.size 189 3 40 elemMom Try.underlying185 u3 ms.length _ (by simp [Act.eval]) (by first | exact hownE _ ((Ext.rfl' wq).alloc1 _) | exact hownE _ (((Ext.rfl' wq).drew1).alloc1 _) | exact hownE _ (((Ext.rfl' wq).alloc1 _).drew1)) (some ⟨wq.heap.size, 0, none⟩) 1 1 [.int .i64 a.mv, .pointer (some ⟨ba, oa + i * 7, none⟩), .slice none 0 0] (by simp [Act.eval]) hcl (by first | exact hrdE _ (Ext.rfl' _) | exact hrdE _ (Ext.drawn _ 1)) hone (by omega) (by simp; omega) ?_; intro v' w1 hown1 hgrow1 hat1; have hgr : wq.grownBy w1 u3.ownBlock := (by first | exact grownBy_of_alloc hgrow1 | exact grownBy_of_alloc (grown_drewm hgrow1) | exact grown_drewm (grownBy_of_alloc hgrow1)); obtain ⟨g5, c5, rfl, _, _, _⟩ := own_form1 hown1 (by omega)))
          all_goals
            have hpush := Hq.out.push (mv := a.mv) (ac := some i) hown1 hgr
            have hext := Hq.out.ext_grown (Ext.next HE4.out HEq.out) hgr
            go_wp2_with fail
            go_roundw
            case rel =>
              refine ⟨i + 1, ms ++ [((⟨a.mv, some i, []⟩ : Mo), Value.slice none 0 0)], by go_num, by omega, .inr ⟨g5, c5, by simp, by simp⟩, hpush, ?_, hext, ?_⟩
              · show MInv _ _ _ _ _
                rw [List.map_append]
                exact HI.out.access HT.out Ha.out fun k y hk hy => Int.le_trans hle (HS.out j k x y hk hx.out hy)
              · exact (hgr.block px (Nat.lt_of_lt_of_le (blk_lt HX4.out) HEq.out.size) fun e => own_apart Hq.out.row (ext_blk HEq.out HX4.out) (by decide) e.symm).trans (ext_blk HEq.out HX4.out)
            case measure => simp [intOf]; omega

        · have hstop : ∀ (k : Nat) (a : Ac), i ≤ k → tr[k]? = some a → x.mv < a.mv := fun k a hik ha => by
            obtain ⟨a0, ha0⟩ : ∃ a0, tr[i]? = some a0 := ⟨_, List.getElem?_eq_getElem (by have := (List.getElem?_eq_some_iff.1 ha).1; omega)⟩
            have h1 : ¬ a0.mv ≤ x.mv := fun h => hmore ⟨a0, ha0, h⟩
            rcases Nat.lt_or_ge i k with h | h
            · have := HT.out i k a0 a h ha0 ha
              omega
            · obtain rfl : i = k := by omega
              rw [ha0] at ha
              injection ha with ha
              subst ha
              omega
          have Hstop := Lib.hid hstop
          clear hstop
          rw [hk4]
          clear hk4
          go_upto_region 6 with fail
          go_cut [31] (fun s_ wx => ∃ k : Lat wr, s_ = .bool false ∧ wx = k.world)
          case first =>
            by_cases hin : i < n2
            · obtain ⟨ba, oa, a, hAa, hba, ha, y0, y1, y2, y3, y4, y5, y6⟩ := Ac.at_ (H20.out.ext HE4.out) hin
              have hi0 : (0 : Int) ≤ (i : Int) := by omega
              have hi1 : (i : Int) < (n2 : Int) := by omega
              have hd : decide (a.mv ≤ x.mv) = false := by
                have := Hstop.out i a (Nat.le_refl _) ha.out
                simp
                omega
              subst hAa
              clear hmore
              refine wp_region_cls (Ext wr) (Ext.drew1 k4.ok) (by kernel_rfl) (by kernel_rfl) ?_
              repeat (go_big_quiet_step (fail))
              refine wpQuiet_nil ?_
              rintro _ ⟨k5, rfl⟩
              go_wp2_with fail
              go_meet
              case rel => exact ⟨k5, rfl, rfl⟩
            · have hd1 : decide ((i : Int) < (n2 : Int)) = false := by simp; omega
              clear hmore
              refine wp_region_cls (Ext wr) (Ext.drew1 k4.ok) (by kernel_rfl) (by kernel_rfl) ?_
              repeat (go_big_quiet_step (fail))
              refine wpQuiet_nil ?_
              rintro _ ⟨k5, rfl⟩
              go_wp2_with fail
              go_meet
              case rel => exact ⟨k5, rfl, rfl⟩
          obtain ⟨k5, rfl, rfl⟩ := hcut
          have hmvlen : ms.length ≤ 4000000 := by
            have := HI.out.len
            rw [List.length_map] at this
            omega
          rcases List.eq_nil_or_concat ms with rfl | ⟨ms0, ⟨m, u⟩, rfl⟩
          · have hu3 : u3 = .slice none 0 0 := by
              rcases hform with ⟨_, h⟩ | ⟨_, _, _, h⟩
              · exact h
              · simp at h
            subst hu3
            obtain ⟨r0, r1, r2, r3⟩ := Lat.run (ext_blk HE4.out HR.out)
            go_upto_region 10 with fail
            refine wp_region_cls (Ext wr) (Ext.drew1 k5.ok) (by kernel_rfl) (by kernel_rfl) ?_
            repeat (go_big_quiet_step (fail))
            refine wpQuiet_nil ?_
            rintro _ ⟨k6, rfl⟩
            have HM6 := Lib.hid (HM.out.ext k6.ok)
            have hrow6 := HM6.out.row
            have hsz6 : w0.heap.size ≤ k6.world.heap.size := Nat.le_trans HE4.out.size (Lat.size k6)
            go_upto_region 12 with (at_builtin; refine wpList_push _ rfl _ _ 185 rfl w0.heap.size 189 3 40 elemMom Try.underlying185 _ _ _ rfl hrow6 _ rfl rfl (by simp [Value.oneCell']) (by simp) hsz6 ?_; intro v6 w6 hown6 hgrow6 hat6; obtain ⟨go, co, rfl, hco, hgo, hgo2⟩ := own_form1 hown6 (by omega))
            have HMz := Lib.hid (HM6.out.push (mv := x.mv) (ac := none) hown6 hgrow6)
            have HEz := Lib.hid (HM6.out.ext_grown (Ext.next HE4.out k6.ok) hgrow6)
            have HXz : Hid (w6.heap[px]? = some (.cells #[.int .i64 x.mv, .int .i64 x.th, .int .i64 x.sl, .int .i64 x.fr, .int .i64 x.to] 136 (0, 0))) := (hgrow6.block px (blk_lt (ext_blk k6.ok HX4.out)) fun e => by cases e).trans (ext_blk k6.ok HX4.out)
            have hn0 : ([] : List (Mo × Value)).length = 0 := rfl
            have HIz := Lib.hid (HI.out.shift_new HS.out hx.out (fun m hm => by simp at hm) Hstop.out)
            have HLz : Hid (([] : List Sh).length ≤ 2000000) := Nat.zero_le _
            have yg : w6.cell? ⟨go, 2, none⟩ = some (Value.slice none 0 0) := by
              have h0 := HMz.out.row
              rw [List.length_append, hn0] at h0
              refine (h0.cellAt (2) (by omega)).trans ?_
              rw [List.flatMap_append, List.getElem?_append_right (by rw [encM_len, hn0]; omega), encM_len, hn0]
              first | rfl | (rw [Nat.add_sub_cancel_left]; rfl)
            have yf : w6.frozen? ⟨go, 2, none⟩ = false := by
              have h0 := HMz.out.row
              rw [List.length_append, hn0] at h0
              exact h0.frozenAt (2)
            obtain ⟨x0, x1, x2, x3, x4⟩ := Sh.boxed HXz.out
            have y0 := x0 ⟨w6, Ext.rfl' _⟩
            have y1 := x1 ⟨w6, Ext.rfl' _⟩
            have y2 := x2 ⟨w6, Ext.rfl' _⟩
            have y3 := x3 ⟨w6, Ext.rfl' _⟩
            have y4 := x4 ⟨w6, Ext.rfl' _⟩
            simp only at y0 y1 y2 y3 y4
            clear x0 x1 x2 x3 x4
            have hgl := (HMz.out.lt (q := go) (.inl rfl))
            have hpz : px < w6.heap.size := blk_lt HXz.out
            have hne1 : px ≠ w6.heap.size := by omega
            have hgl2 := hgl.2
            have hne2 : go ≠ w6.heap.size := by omega
            have hbz : w0.heap.size ≤ w6.heap.size := HEz.out.size
            have hsub := HMz.out.sub 0 ⟨x.mv, none, []⟩ (Value.slice none 0 0) (by rw [← hn0]; simp)
            have hlsh : (⟨x.mv, none, []⟩ : Mo).sh.length ≤ 2000000 := HLz.out
            go_upto_region 13 with fail
            have hcl : ([.int .i64 x.mv, .int .i64 x.th, .int .i64 x.sl, .int .i64 x.fr, .int .i64 x.to] : List Value).length = 1 * 5 := rfl
            have hrdE : ∀ w', Ext (w6.alloc (.cells #[.int .i64 x.mv, .int .i64 x.th, .int .i64 x.sl, .int .i64 x.fr, .int .i64 x.to] 136)) w' → Rd w' (some ⟨w6.heap.size, 0, none⟩) [.int .i64 x.mv, .int .i64 x.th, .int .i64 x.sl, .int .i64 x.fr, .int .i64 x.to] := fun w' e => (Rd.made w6 [.int .i64 x.mv, .int .i64 x.th, .int .i64 x.sl, .int .i64 x.fr, .int .i64 x.to] 136).ext e
            have hone : ∀ u ∈ ([.int .i64 x.mv, .int .i64 x.th, .int .i64 x.sl, .int .i64 x.fr, .int .i64 x.to] : List Value), u.oneCell' = true := by intro u hu; simp at hu; rcases hu with rfl | rfl | rfl | rfl | rfl <;> rfl
            have hownE : ∀ w', Ext w6 w' → w'.ownsRow w0.heap.size 136 5 (Value.slice none 0 0) (⟨x.mv, none, []⟩ : Mo).sh.length ((⟨x.mv, none, []⟩ : Mo).sh.flatMap Sh.enc) := fun w' e => own_ext hsub e
            have hcell : ∀ w1, w6.grownBy w1 ((Value.slice none 0 0)).ownBlock → w1.cell? ⟨go, 2, none⟩ = some (Value.slice none 0 0) ∧ w1.frozen? ⟨go, 2, none⟩ = false := fun w1 hg => by
              have h0 := own_only HMz.out.row (Only.of_grown hg) fun q hq e => own_two HMz.out.row hsub (by decide) q hq e.symm
              rw [List.length_append, hn0] at h0
              refine ⟨(h0.cellAt (2) (by omega)).trans ?_, h0.frozenAt (2)⟩
              rw [List.flatMap_append, List.getElem?_append_right (by rw [encM_len, hn0]; omega), encM_len, hn0]
              first | rfl | (rw [Nat.add_sub_cancel_left]; rfl)
            go_region_law ((refine step_appendR _ rfl (.tmp 78) (.tmp 80) 46 rfl w0.heap.size 136 5 40 elemSh Try.underlying46 (Value.slice none 0 0) (⟨x.mv, none, []⟩ : Mo).sh.length _ (by simp [Act.eval]) (by first | exact hownE _ ((Ext.rfl' w6).alloc1 _) | exact hownE _ (((Ext.rfl' w6).drew1).alloc1 _) | exact hownE _ (((Ext.rfl' w6).alloc1 _).drew1)) (some ⟨w6.heap.size, 0, none⟩) 1 1 [.int .i64 x.mv, .int .i64 x.th, .int .i64 x.sl, .int .i64 x.fr, .int .i64 x.to] (by simp [Act.eval]) hcl (by first | exact hrdE _ (Ext.rfl' _) | exact hrdE _ (Ext.drawn _ 1)) hone (by omega) (by simp; omega) ?_; intro v' w1 hown1 hgrow1 hat1; have hgr : w6.grownBy w1 ((Value.slice none 0 0)).ownBlock := (by first | exact grownBy_of_alloc hgrow1 | exact grownBy_of_alloc (grown_drewm hgrow1) | exact grown_drewm (grownBy_of_alloc hgrow1)); have hc1 := (hcell w1 hgr).1; have hf1 := (hcell w1 hgr).2; obtain ⟨g5, c5, rfl, _, _, _⟩ := own_form1 hown1 (by omega)))
            all_goals
              obtain ⟨hsh, hon⟩ : Moms (w1.setCell ⟨go, 2, none⟩ (.slice (some ⟨g5, 0, none⟩) _ c5)) _ _ _ _ ∧ Only _ w6 (w1.setCell ⟨go, 2, none⟩ (.slice (some ⟨g5, 0, none⟩) _ c5)) := HMz.out.shift hn0 (x := x) hown1 hgr (hat1.imp id fun e => ⟨_, e, by simp⟩)
              obtain ⟨kz, hkz⟩ := lat_of (HEz.out.only hon fun q hq => hq.elim (fun e => by rw [e]; exact hgl.1) fun e => (hsub.lt q e).1)
              have HKZ := Lib.hid hkz
              clear hownE hrdE hcell hkz
              go_wp2_with fail
              go_roundw
              case rel => exact ⟨i, j + 1, _, kz, rfl, by go_num, by omega, by omega, .inr ⟨go, co, by rw [List.length_append, hn0]; rfl, by simp⟩, HKZ.out ▸ hsh, (by show MInv _ _ _ _ _; rw [List.map_append]; exact HIz.out), HKZ.out⟩
              case measure => simp [intOf]; omega

          · rw [List.concat_eq_append] at *
            obtain ⟨n0, hn0⟩ : ∃ n0, ms0.length = n0 := ⟨_, rfl⟩
            obtain ⟨go, co, rfl⟩ : ∃ go co, u3 = .slice (some ⟨go, 0, none⟩) (n0 + 1) co := by
              rcases hform with ⟨h, _⟩ | ⟨go, co, h, _⟩
              · simp at h
              · exact ⟨go, co, by rw [h]; simp [hn0]⟩
            have hn01 : n0 + 1 ≤ 4000000 := by
              simp at hmvlen
              omega
            have hn02 : (0 : Int) ≤ (n0 : Int) := by omega
            have hn03 : (n0 : Int) < (n0 : Int) + 1 := by omega
            have hne0 : ((n0 : Int) + 1 == 0) = false := by simp; omega
            have hrow : wr.ownsRow w0.heap.size 189 3 (.slice (some ⟨go, 0, none⟩) (n0 + 1) co) (n0 + 1) ((ms0 ++ [(m, u)]).flatMap (encM A2)) := by
              have := HM.out.row
              rwa [List.length_append, hn0] at this
            have g0 : ∀ c : Lat wr, c.world.cell? ⟨go, n0 * 3, none⟩ = some (.int .i64 m.mv) := fun c => by
              refine ((own_ext hrow c.ok).cellAt (n0 * 3) (by omega)).trans ?_
              rw [List.flatMap_append, List.getElem?_append_right (by rw [encM_len, hn0]; omega), encM_len, hn0, Nat.sub_self]
              rfl
            have hmem : m ∈ (ms0 ++ [(m, u)]).map Prod.fst := by simp
            have Hle := Lib.hid (HI.out.below2 m hmem j x (Nat.le_refl _) hx.out)
            have hmsh : m.sh.length ≤ 2000000 := by
              have h1 := HI.out.shs
              rw [List.map_append, List.flatMap_append] at h1
              have h2 := congrArg List.length h1
              have h4 := H30.out.1
              simp at h2
              omega
            clear hform hmem hrow
            go_upto_region 10 with fail
            by_cases hsame : m.mv = x.mv
            · have hd : (m.mv == x.mv) = true := by simpa using hsame
              have hd2 : (m.mv != x.mv) = false := by simpa using hsame
              have HIz := Lib.hid ((by
                have := HI.out
                rw [List.map_append] at this
                exact this.shift_last hx.out hsame : MInv tr sh i (j + 1) (ms0.map Prod.fst ++ [{ m with sh := m.sh ++ [x] }])))
              clear hsame
              refine wp_region_cls (Ext wr) (Ext.drew1 k5.ok) (by kernel_rfl) (by kernel_rfl) ?_
              repeat (go_big_quiet_step (fail))
              refine wpQuiet_nil ?_
              rintro _ ⟨k6, rfl⟩
              obtain ⟨wq, hwq⟩ : ∃ wq, k6.world = wq := ⟨_, rfl⟩
              have HEq : Hid (Ext wr wq) := hwq ▸ k6.ok
              rw [hwq]
              have HMz := Lib.hid (HM.out.ext HEq.out)
              have HXz := Lib.hid (ext_blk HEq.out HX4.out)
              have HEz := Lib.hid (Ext.next HE4.out HEq.out)
              have HLz := Lib.hid hmsh
              clear hwq
              have yg : wq.cell? ⟨go, n0 * 3 + 2, none⟩ = some u := by
                have h0 := HMz.out.row
                rw [List.length_append, hn0] at h0
                refine (h0.cellAt (n0 * 3 + 2) (by omega)).trans ?_
                rw [List.flatMap_append, List.getElem?_append_right (by rw [encM_len, hn0]; omega), encM_len, hn0]
                first | rfl | (rw [Nat.add_sub_cancel_left]; rfl)
              have yf : wq.frozen? ⟨go, n0 * 3 + 2, none⟩ = false := by
                have h0 := HMz.out.row
                rw [List.length_append, hn0] at h0
                exact h0.frozenAt (n0 * 3 + 2)
              obtain ⟨x0, x1, x2, x3, x4⟩ := Sh.boxed HXz.out
              have y0 := x0 ⟨wq, Ext.rfl' _⟩
              have y1 := x1 ⟨wq, Ext.rfl' _⟩
              have y2 := x2 ⟨wq, Ext.rfl' _⟩
              have y3 := x3 ⟨wq, Ext.rfl' _⟩
              have y4 := x4 ⟨wq, Ext.rfl' _⟩
              simp only at y0 y1 y2 y3 y4
              clear x0 x1 x2 x3 x4
              have hgl := (HMz.out.lt (q := go) (.inl rfl))
              have hpz : px < wq.heap.size := blk_lt HXz.out
              have hne1 : px ≠ wq.heap.size := by omega
              have hgl2 := hgl.2
              have hne2 : go ≠ wq.heap.size := by omega
              have hbz : w0.heap.size ≤ wq.heap.size := HEz.out.size
              have hsub := HMz.out.sub n0 m u (by rw [← hn0]; simp)
              have hlsh : (m : Mo).sh.length ≤ 2000000 := HLz.out
              go_upto_region 13 with fail
              have hcl : ([.int .i64 x.mv, .int .i64 x.th, .int .i64 x.sl, .int .i64 x.fr, .int .i64 x.to] : List Value).length = 1 * 5 := rfl
              have hrdE : ∀ w', Ext (wq.alloc (.cells #[.int .i64 x.mv, .int .i64 x.th, .int .i64 x.sl, .int .i64 x.fr, .int .i64 x.to] 136)) w' → Rd w' (some ⟨wq.heap.size, 0, none⟩) [.int .i64 x.mv, .int .i64 x.th, .int .i64 x.sl, .int .i64 x.fr, .int .i64 x.to] := fun w' e => (Rd.made wq [.int .i64 x.mv, .int .i64 x.th, .int .i64 x.sl, .int .i64 x.fr, .int .i64 x.to] 136).ext e
              have hone : ∀ u ∈ ([.int .i64 x.mv, .int .i64 x.th, .int .i64 x.sl, .int .i64 x.fr, .int .i64 x.to] : List Value), u.oneCell' = true := by intro u hu; simp at hu; rcases hu with rfl | rfl | rfl | rfl | rfl <;> rfl
              have hownE : ∀ w', Ext wq w' → w'.ownsRow w0.heap.size 136 5 u (m : Mo).sh.length ((m : Mo).sh.flatMap Sh.enc) := fun w' e => own_ext hsub e
              have hcell : ∀ w1, wq.grownBy w1 (u).ownBlock → w1.cell? ⟨go, n0 * 3 + 2, none⟩ = some u ∧ w1.frozen? ⟨go, n0 * 3 + 2, none⟩ = false := fun w1 hg => by
                have h0 := own_only HMz.out.row (Only.of_grown hg) fun q hq e => own_two HMz.out.row hsub (by decide) q hq e.symm
                rw [List.length_append, hn0] at h0
                refine ⟨(h0.cellAt (n0 * 3 + 2) (by omega)).trans ?_, h0.frozenAt (n0 * 3 + 2)⟩
                rw [List.flatMap_append, List.getElem?_append_right (by rw [encM_len, hn0]; omega), encM_len, hn0]
                first | rfl | (rw [Nat.add_sub_cancel_left]; rfl)
              go_region_law ((refine step_appendR _ rfl (.tmp 78) (.tmp 80) 46 rfl w0.heap.size 136 5 40 elemSh Try.underlying46 u (m : Mo).sh.length _ (by simp [Act.eval]) (by first | exact hownE _ ((Ext.rfl' wq).alloc1 _) | exact hownE _ (((Ext.rfl' wq).drew1).alloc1 _) | exact hownE _ (((Ext.rfl' wq).alloc1 _).drew1)) (some ⟨wq.heap.size, 0, none⟩) 1 1 [.int .i64 x.mv, .int .i64 x.th, .int .i64 x.sl, .int .i64 x.fr, .int .i64 x.to] (by simp [Act.eval]) hcl (by first | exact hrdE _ (Ext.rfl' _) | exact hrdE _ (Ext.drawn _ 1)) hone (by omega) (by simp; omega) ?_; intro v' w1 hown1 hgrow1 hat1; have hgr : wq.grownBy w1 (u).ownBlock := (by first | exact grownBy_of_alloc hgrow1 | exact grownBy_of_alloc (grown_drewm hgrow1) | exact grown_drewm (grownBy_of_alloc hgrow1)); have hc1 := (hcell w1 hgr).1; have hf1 := (hcell w1 hgr).2; obtain ⟨g5, c5, rfl, _, _, _⟩ := own_form1 hown1 (by omega)))
              all_goals
                obtain ⟨hsh, hon⟩ : Moms (w1.setCell ⟨go, n0 * 3 + 2, none⟩ (.slice (some ⟨g5, 0, none⟩) _ c5)) _ _ _ _ ∧ Only _ wq (w1.setCell ⟨go, n0 * 3 + 2, none⟩ (.slice (some ⟨g5, 0, none⟩) _ c5)) := HMz.out.shift hn0 (x := x) hown1 hgr (hat1.imp id fun e => ⟨_, e, by simp⟩)
                obtain ⟨kz, hkz⟩ := lat_of (HEz.out.only hon fun q hq => hq.elim (fun e => by rw [e]; exact hgl.1) fun e => (hsub.lt q e).1)
                have HKZ := Lib.hid hkz
                clear hownE hrdE hcell hkz
                go_wp2_with fail
                go_roundw
                case rel => exact ⟨i, j + 1, _, kz, rfl, by go_num, by omega, by omega, .inr ⟨go, co, by rw [List.length_append, hn0]; rfl, by simp⟩, HKZ.out ▸ hsh, (by show MInv _ _ _ _ _; rw [List.map_append]; exact HIz.out), HKZ.out⟩
                case measure => simp [intOf]; omega

            · have hd : (m.mv == x.mv) = false := by simpa using hsame
              have hd2 : (m.mv != x.mv) = true := by simpa using hsame
              have HIz := Lib.hid (HI.out.shift_new HS.out hx.out (fun m' hm' => by
                rw [List.map_append] at hm'
                simp at hm'
                rw [← hm']
                exact hsame) Hstop.out)
              clear hsame
              refine wp_region_cls (Ext wr) (Ext.drew1 k5.ok) (by kernel_rfl) (by kernel_rfl) ?_
              repeat (go_big_quiet_step (fail))
              refine wpQuiet_nil ?_
              rintro _ ⟨k6, rfl⟩
              have HM6 := Lib.hid (HM.out.ext k6.ok)
              have hrow6 := HM6.out.row
              have hsz6 : w0.heap.size ≤ k6.world.heap.size := Nat.le_trans HE4.out.size (Lat.size k6)
              have hln : (ms0 ++ [(m, u)]).length = n0 + 1 := by simp [hn0]
              go_upto_region 12 with (at_builtin; refine wpList_push _ rfl _ _ 185 rfl w0.heap.size 189 3 40 elemMom Try.underlying185 _ _ _ rfl hrow6 _ rfl rfl (by simp [Value.oneCell']) (by omega) hsz6 ?_; intro v6 w6 hown6 hgrow6 hat6; rw [hln] at hown6; obtain ⟨go, co, rfl, hco, hgo, hgo2⟩ := own_form1 hown6 (by omega))
              have HMz := Lib.hid (HM6.out.push (mv := x.mv) (ac := none) (by rw [hln]; exact hown6) hgrow6)
              have HEz := Lib.hid (HM6.out.ext_grown (Ext.next HE4.out k6.ok) hgrow6)
              have HXz : Hid (w6.heap[px]? = some (.cells #[.int .i64 x.mv, .int .i64 x.th, .int .i64 x.sl, .int .i64 x.fr, .int .i64 x.to] 136 (0, 0))) := (hgrow6.block px (blk_lt (ext_blk k6.ok HX4.out)) fun e => own_apart HM6.out.row (ext_blk k6.ok HX4.out) (by decide) e.symm).trans (ext_blk k6.ok HX4.out)
              have HLz : Hid (([] : List Sh).length ≤ 2000000) := Nat.zero_le _
              generalize hN : n0 + 1 = N at hln HMz hn01 ⊢
              have hn0 := hln
              have hN2 : (0 : Int) ≤ (N : Int) := by omega
              have hN3 : (N : Int) < (N : Int) + 1 := by omega
              clear g0 hrow6 hown6 hgrow6 hat6 hgo hgo2 hco hln
              have yg : w6.cell? ⟨go, N * 3 + 2, none⟩ = some (Value.slice none 0 0) := by
                have h0 := HMz.out.row
                rw [List.length_append, hn0] at h0
                refine (h0.cellAt (N * 3 + 2) (by omega)).trans ?_
                rw [List.flatMap_append, List.getElem?_append_right (by rw [encM_len, hn0]; omega), encM_len, hn0]
                first | rfl | (rw [Nat.add_sub_cancel_left]; rfl)
              have yf : w6.frozen? ⟨go, N * 3 + 2, none⟩ = false := by
                have h0 := HMz.out.row
                rw [List.length_append, hn0] at h0
                exact h0.frozenAt (N * 3 + 2)
              obtain ⟨x0, x1, x2, x3, x4⟩ := Sh.boxed HXz.out
              have y0 := x0 ⟨w6, Ext.rfl' _⟩
              have y1 := x1 ⟨w6, Ext.rfl' _⟩
              have y2 := x2 ⟨w6, Ext.rfl' _⟩
              have y3 := x3 ⟨w6, Ext.rfl' _⟩
              have y4 := x4 ⟨w6, Ext.rfl' _⟩
              simp only at y0 y1 y2 y3 y4
              clear x0 x1 x2 x3 x4
              have hgl := (HMz.out.lt (q := go) (.inl rfl))
              have hpz : px < w6.heap.size := blk_lt HXz.out
              have hne1 : px ≠ w6.heap.size := by omega
              have hgl2 := hgl.2
              have hne2 : go ≠ w6.heap.size := by omega
              have hbz : w0.heap.size ≤ w6.heap.size := HEz.out.size
              have hsub := HMz.out.sub N ⟨x.mv, none, []⟩ (Value.slice none 0 0) (by rw [← hn0]; simp)
              have hlsh : (⟨x.mv, none, []⟩ : Mo).sh.length ≤ 2000000 := HLz.out
              go_upto_region 13 with fail
              have hcl : ([.int .i64 x.mv, .int .i64 x.th, .int .i64 x.sl, .int .i64 x.fr, .int .i64 x.to] : List Value).length = 1 * 5 := rfl
              have hrdE : ∀ w', Ext (w6.alloc (.cells #[.int .i64 x.mv, .int .i64 x.th, .int .i64 x.sl, .int .i64 x.fr, .int .i64 x.to] 136)) w' → Rd w' (some ⟨w6.heap.size, 0, none⟩) [.int .i64 x.mv, .int .i64 x.th, .int .i64 x.sl, .int .i64 x.fr, .int .i64 x.to] := fun w' e => (Rd.made w6 [.int .i64 x.mv, .int .i64 x.th, .int .i64 x.sl, .int .i64 x.fr, .int .i64 x.to] 136).ext e
              have hone : ∀ u ∈ ([.int .i64 x.mv, .int .i64 x.th, .int .i64 x.sl, .int .i64 x.fr, .int .i64 x.to] : List Value), u.oneCell' = true := by intro u hu; simp at hu; rcases hu with rfl | rfl | rfl | rfl | rfl <;> rfl
              have hownE : ∀ w', Ext w6 w' → w'.ownsRow w0.heap.size 136 5 (Value.slice none 0 0) (⟨x.mv, none, []⟩ : Mo).sh.length ((⟨x.mv, none, []⟩ : Mo).sh.flatMap Sh.enc) := fun w' e => own_ext hsub e
              have hcell : ∀ w1, w6.grownBy w1 ((Value.slice none 0 0)).ownBlock → w1.cell? ⟨go, N * 3 + 2, none⟩ = some (Value.slice none 0 0) ∧ w1.frozen? ⟨go, N * 3 + 2, none⟩ = false := fun w1 hg => by
                have h0 := own_only HMz.out.row (Only.of_grown hg) fun q hq e => own_two HMz.out.row hsub (by decide) q hq e.symm
                rw [List.length_append, hn0] at h0
                refine ⟨(h0.cellAt (N * 3 + 2) (by omega)).trans ?_, h0.frozenAt (N * 3 + 2)⟩
                rw [List.flatMap_append, List.getElem?_append_right (by rw [encM_len, hn0]; omega), encM_len, hn0]
                first | rfl | (rw [Nat.add_sub_cancel_left]; rfl)
              go_region_law ((refine step_appendR _ rfl (.tmp 78) (.tmp 80) 46 rfl w0.heap.size 136 5 40 elemSh Try.underlying46 (Value.slice none 0 0) (⟨x.mv, none, []⟩ : Mo).sh.length _ (by simp [Act.eval]) (by first | exact hownE _ ((Ext.rfl' w6).alloc1 _) | exact hownE _ (((Ext.rfl' w6).drew1).alloc1 _) | exact hownE _ (((Ext.rfl' w6).alloc1 _).drew1)) (some ⟨w6.heap.size, 0, none⟩) 1 1 [.int .i64 x.mv, .int .i64 x.th, .int .i64 x.sl, .int .i64 x.fr, .int .i64 x.to] (by simp [Act.eval]) hcl (by first | exact hrdE _ (Ext.rfl' _) | exact hrdE _ (Ext.drawn _ 1)) hone (by omega) (by simp; omega) ?_; intro v' w1 hown1 hgrow1 hat1; have hgr : w6.grownBy w1 ((Value.slice none 0 0)).ownBlock := (by first | exact grownBy_of_alloc hgrow1 | exact grownBy_of_alloc (grown_drewm hgrow1) | exact grown_drewm (grownBy_of_alloc hgrow1)); have hc1 := (hcell w1 hgr).1; have hf1 := (hcell w1 hgr).2; obtain ⟨g5, c5, rfl, _, _, _⟩ := own_form1 hown1 (by omega)))
              all_goals
                obtain ⟨hsh, hon⟩ : Moms (w1.setCell ⟨go, N * 3 + 2, none⟩ (.slice (some ⟨g5, 0, none⟩) _ c5)) _ _ _ _ ∧ Only _ w6 (w1.setCell ⟨go, N * 3 + 2, none⟩ (.slice (some ⟨g5, 0, none⟩) _ c5)) := HMz.out.shift hn0 (x := x) hown1 hgr (hat1.imp id fun e => ⟨_, e, by simp⟩)
                obtain ⟨kz, hkz⟩ := lat_of (HEz.out.only hon fun q hq => hq.elim (fun e => by rw [e]; exact hgl.1) fun e => (hsub.lt q e).1)
                have HKZ := Lib.hid hkz
                clear hownE hrdE hcell hkz
                go_wp2_with fail
                go_roundw
                case rel => exact ⟨i, j + 1, _, kz, rfl, by go_num, by omega, by omega, .inr ⟨go, co, by rw [List.length_append, hn0]; rfl, by simp⟩, HKZ.out ▸ hsh, (by show MInv _ _ _ _ _; rw [List.map_append]; exact HIz.out), HKZ.out⟩
                case measure => simp [intOf]; omega

    · obtain rfl : n3 = j := by omega
      have HE4 := Lib.hid k.ok
      go_upto_region 15 with fail
      go_loopw [3, 4] (fun s3 s4 wr => ∃ (i : Nat) (ms : List (Mo × Value)), s4 = .int .i64 i ∧ i ≤ n2 ∧ FormM s3 ms.length ∧ Hid (Moms wr w0.heap.size A2 s3 ms) ∧ Hid (MInv tr sh i n3 (ms.map Prod.fst)) ∧ Hid (Ext w0 wr)) (fun _ s _ => n2 - (intOf s).toNat)
      case atStart => exact ⟨i, ms, rfl, hi, hform, HM, HI, HE4⟩
      case round =>
        clear HM HI HE4 hform r0 r1 r2 r3 k
        obtain ⟨i, ms, rfl, hi, hform, HM, HI, HE4⟩ := hrel
        obtain ⟨r0, r1, r2, r3⟩ := Lat.run (ext_blk HE4.out HR.out)
        obtain ⟨k5, hk5⟩ := lat_self wr
        by_cases hin : i < n2
        · have hi0 : (0 : Int) ≤ (i : Int) := by omega
          have hi1 : (i : Int) < (n2 : Int) := by omega
          obtain ⟨ba, oa, a, hAa, hba, ha, y0, y1, y2, y3, y4, y5, y6⟩ := Ac.at_ (H20.out.ext HE4.out) hin
          have Ha := Lib.hid ha.out
          subst hAa
          rw [hk5]
          clear hk5 ha
          go_upto_region 17 with fail
          obtain ⟨wq, hwq⟩ : ∃ wq, k5.world = wq := ⟨_, rfl⟩
          have HEq : Hid (Ext wr wq) := hwq ▸ k5.ok
          rw [hwq]
          have Hq := Lib.hid (HM.out.ext HEq.out)
          have hlen : ms.length ≤ 4000000 := by
            have := HI.out.len
            rw [List.length_map] at this
            omega
          have hBq : w0.heap.size ≤ wq.heap.size := Nat.le_trans HE4.out.size HEq.out.size
          have z0 := r1 ⟨wq, HEq.out⟩
          have z1 := y0 ⟨wq, HEq.out⟩
          simp only at z0 z1
          have hprq : pr < wq.heap.size := by have := blk_lt HR.out; omega
          have hbaq : ba < wq.heap.size := Nat.lt_of_lt_of_le hba HEq.out.size
          have hp5 : pr ≠ wq.heap.size := by omega
          have hb5 : ba ≠ wq.heap.size := by omega
          have hcl : ([.int .i64 a.mv, .pointer (some ⟨ba, oa + i * 7, none⟩), .slice none 0 0] : List Value).length = 1 * 3 := rfl
          have hrdE : ∀ w', Ext (wq.alloc (.cells #[.int .i64 a.mv, .pointer (some ⟨ba, oa + i * 7, none⟩), .slice none 0 0] 189)) w' → Rd w' (some ⟨wq.heap.size, 0, none⟩) [.int .i64 a.mv, .pointer (some ⟨ba, oa + i * 7, none⟩), .slice none 0 0] := fun w' e => (Rd.made wq [.int .i64 a.mv, .pointer (some ⟨ba, oa + i * 7, none⟩), .slice none 0 0] 189).ext e
          have hone : ∀ u ∈ ([.int .i64 a.mv, .pointer (some ⟨ba, oa + i * 7, none⟩), .slice none 0 0] : List Value), u.oneCell' = true := by intro u hu; simp at hu; rcases hu with rfl | rfl | rfl <;> rfl
          have hownE : ∀ w', Ext wq w' → w'.ownsRow w0.heap.size 189 3 u3 ms.length (ms.flatMap (encM (some ⟨ba, oa, none⟩))) := fun w' e => own_ext Hq.out.row e
          clear hwq r0 r1 r2 r3 y0 y1 y2 y3 y4 y5 y6
          go_region_law ((refine step_appendR _ rfl (.tmp 92) (.tmp 104) 185 rfl w0.heap.size 189 3 40 elemMom Try.underlying185 u3 ms.length _ (by simp [Act.eval]) (by first | exact hownE _ ((Ext.rfl' wq).alloc1 _) | exact hownE _ (((Ext.rfl' wq).drew1).alloc1 _) | exact hownE _ (((Ext.rfl' wq).alloc1 _).drew1)) (some ⟨wq.heap.size, 0, none⟩) 1 1 [.int .i64 a.mv, .pointer (some ⟨ba, oa + i * 7, none⟩), .slice none 0 0] (by simp [Act.eval]) hcl (by first | exact hrdE _ (Ext.rfl' _) | exact hrdE _ (Ext.drawn _ 1)) hone (by omega) (by simp; omega) ?_; intro v' w1 hown1 hgrow1 hat1; have hgr : wq.grownBy w1 u3.ownBlock := (by first | exact grownBy_of_alloc hgrow1 | exact grownBy_of_alloc (grown_drewm hgrow1) | exact grown_drewm (grownBy_of_alloc hgrow1)); obtain ⟨g5, c5, rfl, _, _, _⟩ := own_form1 hown1 (by omega)))
          all_goals
            have hpush := Hq.out.push (mv := a.mv) (ac := some i) hown1 hgr
            have hext := Hq.out.ext_grown (Ext.next HE4.out HEq.out) hgr
            go_wp2_with fail
            go_roundw
            case rel =>
              refine ⟨i + 1, ms ++ [((⟨a.mv, some i, []⟩ : Mo), Value.slice none 0 0)], by go_num, by omega, .inr ⟨g5, c5, by simp, by simp⟩, hpush, ?_, hext⟩
              show MInv _ _ _ _ _
              rw [List.map_append]
              exact HI.out.access HT.out Ha.out fun k y hk hy => by
                have := (List.getElem?_eq_some_iff.1 hy).1
                have := H30.out.1
                omega
            case measure => simp [intOf]; omega

        · rw [hk5]
          have hd1 : decide ((i : Int) < (n2 : Int)) = false := by simp; omega
          have HM5 : Hid (Moms k5.world w0.heap.size A2 u3 ms) := hk5 ▸ HM.out
          obtain rfl : n2 = i := by omega
          clear hk5
          go_wp2_with fail
          go_ret
          refine ⟨u3, ms, rfl, ?_, ?_, Ext.next HE.out (Ext.next HE4.out k5.ok)⟩
          · rw [hpr]
            exact ⟨own_base HM5.out.row (by have := HE.out.size; omega), fun k m u hk => own_base (HM5.out.sub k m u hk) (by have := HE.out.size; omega), HM5.out.apart⟩
          · rw [H20.out.1, H30.out.1]
            exact HI.out

end Go.Proofs.Ytfbacopjookplaa
