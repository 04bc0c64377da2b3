/- ScheduleHeaps: two heaps, played in turns by any acts, answer at each act what the document's answer; no condition. -/
import Derived.Test.YtjemlenjencbkaaRows
import Derived.Test.YtjemlenjencbkaaHeapPair
import Derived.Test.YtjemlenjencbkaaLaw
import Derived.Test.YtjemlenjencbkaaFacts
import Derived.Deep.RegionWith
namespace Go.Proofs.Ytjemlenjencbkaa
open Go.ChangeShapes Go.WideShapes Go.ChangeAt Go.RowKit

theorem acted_any (B H D : Nat) (v r : Value) (ys : List (Nd Int Int)) (T : Int) (w : World) (hp : HPair w B H D v r ys T) (hB : B ≤ w.heap.size) (out : Bool) (k x : Int) (hl : out = false → (ys.length + 1) * 24 ≤ 140737488355328) (hl2 : ys.length * 24 ≤ 140737488355328) (hT0 : 0 ≤ T) (hT1 : T ≤ 140737488355328) :
    Calls Try.prog 13 #[.pointer (some ⟨H, 0, none⟩), .pointer (some ⟨D, 0, none⟩), .agg #[.bool out, .int .i64 k, .int .i64 x]] w fun e w' => e = .returned (.bool true) ∧ ActPost w B H D v r ys T out w' := by
  cases out with
  | false => exact acted_put B H D v r ys T w hp hB k x (hl rfl) hT0 hT1
  | true =>
    cases ys with
    | nil => exact acted_none B H D v r T w hp k x
    | cons y ys => exact acted_some B H D v r (y :: ys) T w hp hB (by simp) hl2 k x

/-- Two pairs of heaps lie apart. -/
def Disj (H D : Nat) (v r : Value) (H' D' : Nat) (v' r' : Value) : Prop := ∀ k, foot H D v r k → foot H' D' v' r' k → False

theorem Disj.symm {H D H' D' : Nat} {v r v' r' : Value} (h : Disj H D v r H' D' v' r') : Disj H' D' v' r' H D v r := fun k a b => h k b a

theorem foot_moved {w : World} {H D : Nat} {v r v1 r1 : Value} (mv : Moved w v v1) (mr : Moved w r r1) {k : Nat} (hk : foot H D v1 r1 k) : foot H D v r k ∨ w.heap.size ≤ k := by
  rcases hk with h | h | h | h
  · exact .inl (.inl h)
  · exact .inl (.inr (.inl h))
  · rcases mv with e | e | ⟨g, e, hg⟩
    · exact .inl (.inr (.inr (.inl (e.symm.trans h))))
    · rw [e] at h; cases h
    · rw [e] at h; injection h with h; exact .inr (by omega)
  · rcases mr with e | e | ⟨g, e, hg⟩
    · exact .inl (.inr (.inr (.inr (e.symm.trans h))))
    · rw [e] at h; cases h
    · rw [e] at h; injection h with h; exact .inr (by omega)

theorem Disj.step {w : World} {H D H' D' : Nat} {v r v1 r1 v' r' : Value} (h : Disj H D v r H' D' v' r') (mv : Moved w v v1) (mr : Moved w r r1) (hlt : ∀ k, foot H' D' v' r' k → k < w.heap.size) : Disj H D v1 r1 H' D' v' r' := fun k a b => by
  rcases foot_moved mv mr a with a | a
  · exact h k a b
  · have := hlt k b; omega

/-- All that a loop's round knows. -/
structure HBoth (w : World) (B b0 b1 b2 b3 : Nat) (v1 r1 v2 r2 : Value) (ys1 ys2 : List (Nd Int Int)) (T1 T2 : Int) : Prop where
  one : HPair w B b0 b2 v1 r1 ys1 T1
  two : HPair w B b1 b3 v2 r2 ys2 T2
  apart : Disj b0 b2 v1 r1 b1 b3 v2 r2

theorem HPair.ge {w : World} {B H D : Nat} {v r : Value} {ys : List (Nd Int Int)} {T : Int} (h : HPair w B H D v r ys T) (hH : B ≤ H) (hD : B ≤ D) : ∀ k, foot H D v r k → B ≤ k := by
  obtain ⟨⟨l, h1, h2⟩, h3⟩ := h
  rintro k (rfl | rfl | hk | hk)
  · exact hH
  · exact hD
  · exact (h1.own.lt k hk).1
  · exact (h3.own.lt k hk).1

def aFlat (l : List (Bool × Int × Int)) : List Value := l.flatMap fun p => [.bool p.1, .int .i64 p.2.1, .int .i64 p.2.2]
theorem aFlat_get {l : List (Bool × Int × Int)} {i : Nat} {p : Bool × Int × Int} (h : l[i]? = some p) : (aFlat l)[i * 3]? = some (.bool p.1) ∧ (aFlat l)[i * 3 + 1]? = some (.int .i64 p.2.1) ∧ (aFlat l)[i * 3 + 2]? = some (.int .i64 p.2.2) := by
  induction l generalizing i with
  | nil => simp at h
  | cons y l ih =>
    have e : aFlat (y :: l) = .bool y.1 :: .int .i64 y.2.1 :: .int .i64 y.2.2 :: aFlat l := rfl
    rw [e]
    cases i with
    | zero => injection h with h; subst h; exact ⟨rfl, rfl, rfl⟩
    | succ i =>
      have := ih (i := i) (by simpa using h)
      rw [Nat.succ_mul]
      exact this
theorem acts_at {w : World} {A : Option Addr} {l : List (Bool × Int × Int)} {k n : Nat} (h : Rd w A (aFlat l)) (hn : l.length = n) (hk : k < n) :
    ∃ b off o x y, A = some ⟨b, off, none⟩ ∧ w.cell? ⟨b, off + k * 3, none⟩ = some (.bool o) ∧ w.cell? ⟨b, off + k * 3 + 1, none⟩ = some (.int .i64 x) ∧ w.cell? ⟨b, off + k * 3 + 2, none⟩ = some (.int .i64 y) := by
  obtain ⟨p, hp⟩ : ∃ p, l[k]? = some p := ⟨_, List.getElem?_eq_getElem (by omega)⟩
  obtain ⟨h0, h1, h2⟩ := aFlat_get hp
  obtain ⟨b, off, hA, _, hc⟩ := h (by intro e; rw [e] at h0; simp at h0)
  exact ⟨b, off, p.1, p.2.1, p.2.2, hA, hc _ _ h0, hc _ _ h1, hc _ _ h2⟩

theorem HBoth.act1 {w w' : World} {B b0 b1 b2 b3 : Nat} {v1 r1 v2 r2 v1' r1' : Value} {ys1 ys2 ys1' : List (Nd Int Int)} {T1 T2 T1' : Int} (h : HBoth w B b0 b1 b2 b3 v1 r1 v2 r2 ys1 ys2 T1 T2)
    (hp : HPair w' B b0 b2 v1' r1' ys1' T1') (on : Only (foot b0 b2 v1 r1) w w') (mv : Moved w v1 v1') (mr : Moved w r1 r1') : HBoth w' B b0 b1 b2 b3 v1' r1' v2 r2 ys1' ys2 T1' T2 :=
  ⟨hp, h.two.only on (fun k hk h' => h.apart k h' hk), h.apart.step mv mr h.two.lt⟩
theorem HBoth.act2 {w w' : World} {B b0 b1 b2 b3 : Nat} {v1 r1 v2 r2 v2' r2' : Value} {ys1 ys2 ys2' : List (Nd Int Int)} {T1 T2 T2' : Int} (h : HBoth w B b0 b1 b2 b3 v1 r1 v2 r2 ys1 ys2 T1 T2)
    (hp : HPair w' B b1 b3 v2' r2' ys2' T2') (on : Only (foot b1 b3 v2 r2) w w') (mv : Moved w v2 v2') (mr : Moved w r2 r2') : HBoth w' B b0 b1 b2 b3 v1 r1 v2' r2' ys1 ys2' T1 T2' :=
  ⟨h.one.only on (fun k hk h' => h.apart k hk h'), hp, (h.apart.symm.step mv mr h.one.lt).symm⟩
theorem HPair.ext_of {w0 w w' : World} {B H D : Nat} {v r : Value} {ys : List (Nd Int Int)} {T : Int} (h : HPair w B H D v r ys T) (hH : B ≤ H) (hD : B ≤ D) (hB : B = w0.heap.size) (e : Ext w0 w) (on : Only (foot H D v r) w w') : Ext w0 w' :=
  e.trans (on.below e.size fun k hk => by rw [← hB]; exact h.ge hH hD k hk)

theorem HBoth.ext {w w' : World} {B b0 b1 b2 b3 : Nat} {v1 r1 v2 r2 : Value} {ys1 ys2 : List (Nd Int Int)} {T1 T2 : Int} (h : HBoth w B b0 b1 b2 b3 v1 r1 v2 r2 ys1 ys2 T1 T2) (e : Ext w w') : HBoth w' B b0 b1 b2 b3 v1 r1 v2 r2 ys1 ys2 T1 T2 :=
  ⟨h.one.ext e, h.two.ext e, h.apart⟩

/-- The length of the slice that stands in a cell. -/
def lenAt (w : World) (b : Nat) : Nat := match w.cell? ⟨b, 0, none⟩ with | some (.slice _ n _) => n | _ => 0
theorem lenAt_of {w : World} {b n c : Nat} {A : Option Addr} (h : w.cell? ⟨b, 0, none⟩ = some (.slice A n c)) : lenAt w b = n := by simp [lenAt, h]
theorem HPair.items {w : World} {B H D : Nat} {v r : Value} {ys : List (Nd Int Int)} {T : Int} (h : HPair w B H D v r ys T) : ∃ A c, r = .slice A ys.length c ∧ w.cell? ⟨D, 0, none⟩ = some (.slice A ys.length c) := by
  obtain ⟨A, c, hr⟩ := own_form h.r.own
  rw [List.length_map] at hr
  exact ⟨A, c, hr, by rw [← hr]; exact cellOf (i := 0) h.r.blk rfl⟩

theorem start4 (w : World) :
    Hid (HBoth ((((w.alloc (.cells #[.slice none 0 0, .int .i64 0] 38)).alloc (.cells #[.slice none 0 0, .int .i64 0] 38)).alloc (.cells #[.slice none 0 0] 42)).alloc (.cells #[.slice none 0 0] 42))
      w.heap.size w.heap.size (w.heap.size + 1) (w.heap.size + 1 + 1) (w.heap.size + 1 + 1 + 1) (.slice none 0 0) (.slice none 0 0) (.slice none 0 0) (.slice none 0 0) [] [] 0 0) ∧
    Ext w ((((w.alloc (.cells #[.slice none 0 0, .int .i64 0] 38)).alloc (.cells #[.slice none 0 0, .int .i64 0] 38)).alloc (.cells #[.slice none 0 0] 42)).alloc (.cells #[.slice none 0 0] 42)) := by
  have ext : ∀ (w : World) (o : Obj), Ext w (w.alloc o) := fun w o => (Ext.rfl' w).alloc (Nat.le_refl _) o
  generalize h1 : w.alloc (.cells #[.slice none 0 0, .int .i64 0] 38) = w1
  generalize h2 : w1.alloc (.cells #[.slice none 0 0, .int .i64 0] 38) = w2
  generalize h3 : w2.alloc (.cells #[.slice none 0 0] 42) = w3
  generalize h4 : w3.alloc (.cells #[.slice none 0 0] 42) = w4
  have e1 : Ext w w1 := h1 ▸ ext _ _
  have e2 : Ext w1 w2 := h2 ▸ ext _ _
  have e3 : Ext w2 w3 := h3 ▸ ext _ _
  have e4 : Ext w3 w4 := h4 ▸ ext _ _
  have z1 : w1.heap.size = w.heap.size + 1 := by rw [← h1]; simp
  have z2 : w2.heap.size = w.heap.size + 1 + 1 := by rw [← h2]; simp [z1]
  have z3 : w3.heap.size = w.heap.size + 1 + 1 + 1 := by rw [← h3]; simp [z2]
  have o1 : HII w1 w.heap.size w.heap.size (.slice none 0 0) [] 0 := ⟨h1 ▸ heap_alloc_new _ _, World.ownsRow_nil _ _ _ _⟩
  have o2 : HII w2 w.heap.size (w.heap.size + 1) (.slice none 0 0) [] 0 := ⟨by rw [← z1, ← h2]; exact heap_alloc_new _ _, World.ownsRow_nil _ _ _ _⟩
  have o3 : RObj w3 w.heap.size (w.heap.size + 1 + 1) (.slice none 0 0) [] := ⟨by rw [← z2, ← h3]; exact heap_alloc_new _ _, World.ownsRow_nil _ _ _ _⟩
  have o4 : RObj w4 w.heap.size (w.heap.size + 1 + 1 + 1) (.slice none 0 0) [] := ⟨by rw [← z3, ← h4]; exact heap_alloc_new _ _, World.ownsRow_nil _ _ _ _⟩
  refine ⟨⟨⟨⟨[], o1.ext (Ext.next (Ext.next e2 e3) e4), HIs.nil⟩, o3.ext e4⟩, ⟨⟨[], o2.ext (Ext.next e3 e4), HIs.nil⟩, o4⟩, ?_⟩, Ext.next (Ext.next (Ext.next e1 e2) e3) e4⟩
  rintro k (h | h | h | h) (h' | h' | h' | h')
  all_goals first
    | omega
    | (simp [Value.ownBlock] at h; done)
    | (simp [Value.ownBlock] at h'; done)

set_option maxHeartbeats 2000000 in
theorem scheduleHeaps_walk (A1 A2 : Option Addr) (n1 n2 c1 c2 : Nat) (acts others : List (Bool × Int × Int)) (w : World) (hx : Rd w A1 (aFlat acts)) (hn1 : acts.length = n1) (hy : Rd w A2 (aFlat others)) (hn2 : others.length = n2) (hb1 : n1 * 24 ≤ 140737488351232) (hb2 : n2 * 24 ≤ 140737488351232) :
    Calls Try.prog 5 #[.slice A1 n1 c1, .slice A2 n2 c2] w fun e w' => e = .returned (.bool true) ∧ Ext w w' := by
  have Hx := Lib.hid hx
  have Hy := Lib.hid hy
  have Hn1 := Lib.hid hn1
  have Hn2 := Lib.hid hn2
  clear hx hy hn1 hn2
  go_enter Try.func5, Try.ntmps5
  go_wp2_with fail
  have h4 := start4 w
  obtain ⟨w4, hw4⟩ : ∃ w4, w4 = ((((w.alloc (.cells #[.slice none 0 0, .int .i64 0] 38)).alloc (.cells #[.slice none 0 0, .int .i64 0] 38)).alloc (.cells #[.slice none 0 0] 42)).alloc (.cells #[.slice none 0 0] 42)) := ⟨_, rfl⟩
  rw [← hw4] at h4 ⊢
  clear hw4
  obtain ⟨B, hB⟩ : ∃ B, B = w.heap.size := ⟨_, rfl⟩
  rw [← hB] at h4 ⊢
  have HB := Lib.hid hB
  have H4 := Lib.hid h4
  clear hB h4
  go_loopw [9] (fun s9 wr => ∃ (k : Nat) (v1 r1 v2 r2 : Value) (ys1 ys2 : List (Nd Int Int)) (T1 T2 : Int), s9 = .int .i64 k ∧ k ≤ n1 + n2 ∧ Hid (HBoth wr B B (B + 1) (B + 1 + 1) (B + 1 + 1 + 1) v1 r1 v2 r2 ys1 ys2 T1 T2) ∧ Ext w wr ∧ 0 ≤ T1 ∧ T1 ≤ k ∧ 0 ≤ T2 ∧ T2 ≤ k ∧ ys1.length ≤ k ∧ ys1.length ≤ n1 ∧ ys2.length ≤ k ∧ ys2.length ≤ n2)
    (fun s9 _ => n1 + n2 - (intOf s9).toNat)
  case atStart => exact ⟨0, .slice none 0 0, .slice none 0 0, .slice none 0 0, .slice none 0 0, [], [], 0, 0, rfl, by omega, H4.out.1, H4.out.2, by omega, by omega, by omega, by omega, by simp, by simp, by simp, by simp⟩
  case round =>
    obtain ⟨k, v1, r1, v2, r2, ys1, ys2, T1, T2, rfl, hk, hbo, hex, hT1, hT1k, hT2, hT2k, hy1, hy1n, hy2, hy2n⟩ := hrel
    have Hex := Lib.hid hex
    clear hex
    by_cases hk1 : k < n1
    · obtain ⟨b, off, o, x, y, rfl, ca0, ca1, ca2⟩ := acts_at (Hx.out.ext Hex.out) Hn1.out hk1
      go_wp2_with fail
      refine (acted_any B B (B + 1 + 1) v1 r1 ys1 T1 _ hbo.out.one (by rw [HB.out]; exact Hex.out.size) o x y (fun _ => by omega) (by omega) hT1 (by omega)).mono ?_
      rintro e w5 ⟨rfl, v1', r1', ys1', T1', hp1, on1, mv1, mr1, ht1, ht1', hl1, _⟩
      have Hbo5 := Lib.hid (hbo.out.act1 hp1 on1 mv1 mr1)
      have Hex5 := Lib.hid (hbo.out.one.ext_of (Nat.le_refl _) (by omega) HB.out Hex.out on1)
      clear hp1 on1 mv1 mr1
      by_cases hk2 : k < n2
      · obtain ⟨b', off', o', x', y', rfl, cb0, cb1, cb2⟩ := acts_at (Hy.out.ext Hex5.out) Hn2.out hk2
        go_wp2_with fail
        refine (acted_any B (B + 1) (B + 1 + 1 + 1) v2 r2 ys2 T2 _ Hbo5.out.two (by rw [HB.out]; exact Hex5.out.size) o' x' y' (fun _ => by omega) (by omega) hT2 (by omega)).mono ?_
        rintro e w6 ⟨rfl, v2', r2', ys2', T2', hp2, on2, mv2, mr2, ht2, ht2', hl2, _⟩
        have Hbo6 := Lib.hid (Hbo5.out.act2 hp2 on2 mv2 mr2)
        have Hex6 := Lib.hid (Hbo5.out.two.ext_of (by omega) (by omega) HB.out Hex5.out on2)
        clear hp2 on2 mv2 mr2
        go_wp2_with fail
        go_roundw
        case rel => exact ⟨k + 1, v1', r1', v2', r2', ys1', ys2', T1', T2', by go_num, by omega, Hbo6, Hex6.out, by omega, by omega, by omega, by omega, by omega, by omega, by omega, by omega⟩
        case measure => simp [intOf]; omega
      · go_wp2_with fail
        go_roundw
        case rel => exact ⟨k + 1, v1', r1', v2, r2, ys1', ys2, T1', T2, by go_num, by omega, Hbo5, Hex5.out, by omega, by omega, by omega, by omega, by omega, by omega, by omega, by omega⟩
        case measure => simp [intOf]; omega
    · by_cases hk2 : k < n2
      · obtain ⟨b', off', o', x', y', rfl, cb0, cb1, cb2⟩ := acts_at (Hy.out.ext Hex.out) Hn2.out hk2
        go_wp2_with fail
        refine (acted_any B (B + 1) (B + 1 + 1 + 1) v2 r2 ys2 T2 _ hbo.out.two (by rw [HB.out]; exact Hex.out.size) o' x' y' (fun _ => by omega) (by omega) hT2 (by omega)).mono ?_
        rintro e w6 ⟨rfl, v2', r2', ys2', T2', hp2, on2, mv2, mr2, ht2, ht2', hl2, _⟩
        have Hbo6 := Lib.hid (hbo.out.act2 hp2 on2 mv2 mr2)
        have Hex6 := Lib.hid (hbo.out.two.ext_of (by omega) (by omega) HB.out Hex.out on2)
        clear hp2 on2 mv2 mr2
        go_wp2_with fail
        go_roundw
        case rel => exact ⟨k + 1, v1, r1, v2', r2', ys1, ys2', T1, T2', by go_num, by omega, Hbo6, Hex6.out, by omega, by omega, by omega, by omega, by omega, by omega, by omega, by omega⟩
        case measure => simp [intOf]; omega
      · go_wp2_with fail
        have Hbo := Lib.hid hbo.out
        clear hbo
        go_loopw [52] (fun _ wi => ∃ (v1 r1 : Value) (ys1 : List (Nd Int Int)) (T1 : Int), Hid (HBoth wi B B (B + 1) (B + 1 + 1) (B + 1 + 1 + 1) v1 r1 v2 r2 ys1 ys2 T1 T2) ∧ Ext w wi ∧ 0 ≤ T1 ∧ T1 ≤ n1 + n2 ∧ ys1.length ≤ n1)
          (fun _ wi => lenAt wi (B + 1 + 1))
        case atStart => exact ⟨v1, r1, ys1, T1, Hbo, Hex.out, hT1, by omega, hy1n⟩
        case round =>
          clear Hbo hT1 hT1k hy1 hy1n Hex
          obtain ⟨v1, r1, ys1, T1, hbo, hex, hT1, hT1k, hy1n⟩ := hrel
          obtain ⟨A, c, hrr, hd⟩ := hbo.out.one.items
          have Hrr := Lib.hid hrr
          have hlenD := Lib.hid (lenAt_of hd)
          have Hex := Lib.hid hex
          clear hrr hex
          obtain ⟨nn, hnn⟩ : ∃ nn, nn = ys1.length := ⟨_, rfl⟩
          rw [← hnn] at hd hy1n
          have Hnn := Lib.hid hnn
          clear hnn
          rcases Nat.eq_zero_or_pos nn with hz | hz
          · subst hz
            have Hone := Lib.hid hbo.out.one
            obtain ⟨⟨l, ho, his⟩, _⟩ := hbo.out.one
            have hl0 : l = [] := List.eq_nil_of_length_eq_zero (by rw [his.length, ← Hnn.out])
            subst hl0
            have Ho := Lib.hid ho
            clear ho his
            have ed : Ext wr wr.drew := (Ext.rfl' wr).drew
            have hbd := hbo.out.ext ed
            have hexd := Ext.next Hex.out ed
            have hc : Calls Try.prog 13 #[.pointer (some ⟨B, 0, none⟩), .pointer (some ⟨B + 1 + 1, 0, none⟩), .agg #[.bool true, .int .i64 0, .int .i64 0]] wr.drew fun e w' => e = .returned (.bool true) ∧ ∃ l2 A2 c2, HII w' B (B + 1) v2 l2 T2 ∧ w'.cell? ⟨B + 1 + 1 + 1, 0, none⟩ = some (.slice A2 ys2.length c2) ∧ l2.length = ys2.length ∧ Ext w w' := by
              refine (acted_any B B (B + 1 + 1) v1 r1 ys1 T1 _ hbd.one (by rw [HB.out]; exact hexd.size) true 0 0 (fun h => by cases h) (by rw [← Hnn.out]; omega) hT1 (by omega)).mono ?_
              rintro e w5 ⟨rfl, v1', r1', ys1', T1', hp1, on1, mv1, mr1, ht1, ht1', hl1, hout⟩
              have h5 := hbd.act1 hp1 on1 mv1 mr1
              obtain ⟨A2, c2, _, hd2⟩ := h5.two.items
              obtain ⟨⟨l2, ho2, his2⟩, _⟩ := h5.two
              exact ⟨rfl, l2, A2, c2, ho2, hd2, his2.length, hbd.one.ext_of (Nat.le_refl _) (by omega) HB.out hexd on1⟩
            clear ed hbd hexd
            have Hc := Lib.hid hc
            clear hc
            go_wp2_with fail
            refine (lenII_any B B v1 [] T1 _ Ho.out).mono ?_
            rintro e w5 ⟨rfl, rfl⟩
            go_wp2_with fail
            go_region_with (first
              | (go_at_call 13; refine Hc.out.mono ?_; rintro e w6 ⟨rfl, l2, A2, c2, ho2, hd2, hl2, hex2⟩; have Ho2 := Lib.hid ho2; have Hl2 := Lib.hid hl2; have Hex2 := Lib.hid hex2; clear ho2 hl2 hex2)
              | (go_at_call 14; refine (lenII_any B (B + 1) v2 l2 T2 _ Ho2.out).mono ?_; rintro e w7 ⟨rfl, rfl⟩))
            all_goals
              go_wp2_with fail
              go_ret
              exact ⟨ret_bool (by rw [Hl2.out]; simp), Hex2.out⟩
          · go_wp2_with fail
            refine (acted_any B B (B + 1 + 1) v1 r1 ys1 T1 _ hbo.out.one (by rw [HB.out]; exact Hex.out.size) true 0 0 (fun h => by cases h) (by rw [← Hnn.out]; omega) hT1 (by omega)).mono ?_
            rintro e w5 ⟨rfl, v1', r1', ys1', T1', hp1, on1, mv1, mr1, ht1, ht1', hl1, hout⟩
            obtain ⟨hl2, rfl⟩ := hout rfl
            have Hbo5 := Lib.hid (hbo.out.act1 hp1 on1 mv1 mr1)
            have Hex5 := Lib.hid (hbo.out.one.ext_of (Nat.le_refl _) (by omega) HB.out Hex.out on1)
            obtain ⟨A', c', _, hd'⟩ := hp1.items
            have hlenD' := Lib.hid (lenAt_of hd')
            have hl3 : Hid (ys1'.length = nn - 1) := by show _ = _; rw [hl2, Hnn.out]
            clear hp1 on1 mv1 mr1 hl1 hl2 hd'
            go_wp2_with fail
            go_roundw
            case rel => exact ⟨v1', r1', ys1', T1', Hbo5, Hex5.out, hT1, hT1k, by have := hl3.out; omega⟩
            case measure => rw [hlenD.out, hlenD'.out]; have := hl3.out; have := Hnn.out; omega

section
variable {H : Type} {enc : TypeId × Value → H} {W : World}
theorem dec_act (fuel : Nat) (cs : List Value) (x : DataW H × List MemPlace) (h : DataW.trod enc Try.prog W 0 (fun _ => true) true fuel 46 cs = some x) :
    ∃ a : Bool × Int × Int, cs = [.bool a.1, .int .i64 a.2.1, .int .i64 a.2.2] := by
  obtain ⟨hl, n, hf⟩ := dec_fields Try.underlying46 h
  rw [show Try.prog.cellsOf 46 = 3 by kernel_rfl] at hl
  match cs, hl with
  | [c0, c1, c2], _ =>
    obtain ⟨y0, h0⟩ := hf 0 _ rfl
    obtain ⟨y1, h1⟩ := hf 1 _ rfl
    obtain ⟨y2, h2⟩ := hf 2 _ rfl
    have e4 : Try.prog.cellsOf 4 = 1 := by kernel_rfl
    have e3 : Try.prog.cellsOf 3 = 1 := by kernel_rfl
    simp only [List.getElem_toArray, List.getElem_cons_zero, List.getElem_cons_succ, e4, e3, List.drop_zero, List.take_succ_cons, List.take_zero, List.drop_succ_cons] at h0 h1 h2
    obtain ⟨a, ha⟩ := dec_bool Try.underlying4 _ _ _ h0
    obtain ⟨b, hb, _⟩ := dec_int Try.underlying3 _ _ _ h1
    obtain ⟨c, hc, _⟩ := dec_int Try.underlying3 _ _ _ h2
    injection ha with ha
    injection hb with hb
    injection hc with hc
    subst ha hb hc
    exact ⟨(a, b, c), rfl⟩

/-- A slice of acts among the arguments. -/
theorem openActs {base : Nat} {v : Value} {d : DataW H} {ps : List MemPlace} (hok : Value.okWide Try.prog W .any base 35 v)
    (h : DataW.Trod enc Try.prog W 0 (fun _ => true) true 35 v d ps) :
    ∃ (A : Option Addr) (n c : Nat) (xs : List (Bool × Int × Int)), v = .slice A n c ∧ n ≤ c ∧ xs.length = n ∧ Rd W A (aFlat xs) ∧ ((d = .nil ∧ c = 0) ∨ ∃ el sp, d = .slice el sp ∧ el.length = n ∧ el.length + sp.length = c) := by
  obtain ⟨fuel, h⟩ := h
  rw [cells_slice Try.underlying35 hok] at h
  obtain ⟨A, n, c, xs, css, rfl, hnc, hx, hc, hR, _, hrd, hd⟩ := openSlice (fun (a : Bool × Int × Int) cs => cs = [.bool a.1, .int .i64 a.2.1, .int .i64 a.2.2]) Try.underlying35 (fun fuel cs x h => dec_act fuel cs x h) h
  have e1 := css_eq (enc' := fun a : Bool × Int × Int => [Value.bool a.1, .int .i64 a.2.1, .int .i64 a.2.2]) (hx.trans hc.symm) hR
  rw [e1] at hrd
  exact ⟨A, n, c, xs, rfl, hnc, hx, hrd, hd⟩
end

set_option maxRecDepth 100000 in
theorem scheduleHeaps_lifted (os : Os) (started : os.Started) (H : Type) (enc : TypeId × Value → H) :
    ReturnsInHanded {} Try.checked os 5 .any (Rows.scheduleHeapsSpec.pre6 enc Try.prog Try.f5 [] false) (Rows.scheduleHeapsSpec.post enc Try.prog Try.f5 false true false false) := by
  refine lawWrap (C := Try.checked) (tb := 4) own_ started (by kernel_rfl) Try.func5
    (ChangeSpec.witness6 (enc := enc) (C := Try.checked) false ⟨#[], #[.slice none 0 0, .slice none 0 0], []⟩ 8 (by kernel_rfl) (by kernel_rfl) (by kernel_rfl) (by kernel_rfl))
    rfl Try.underlying4 rfl ?_ laidOut_ (by kernel_rfl) ?_
  · intro ds hds
    match ds, hds with
    | [d1, d2], _ => exact ⟨rfl, rfl, rfl⟩
  · intro W base args ds ps hval0 hA0 hlt hsz0
    have hval : ∀ (j : Nat) t v, Try.f5.params[j]? = some t → args[j]? = some v → Value.okWide Try.prog W .any base t v := hval0
    have hA : DataW.TrodAll enc Try.prog W 0 (fun _ => true) true Try.f5.params.toList args.toList ds ps := hA0
    have hsz : (DataW.weightsEach Try.prog Try.f5.params.toList ds).all (· ≤ reachBytes) = true := hsz0
    rw [Try.params5] at hA hval hsz
    obtain ⟨v0, v1, d0, d1, p0, p1, rfl, rfl, rfl, h0, h1⟩ := trodAll_two hA
    obtain ⟨A1, n1, c1, xs1, rfl, hnc1, hx1, hr1, hd1⟩ := openActs (hval 0 35 v0 rfl rfl) h0
    obtain ⟨A2, n2, c2, xs2, rfl, hnc2, hx2, hr2, hd2⟩ := openActs (hval 1 35 v1 rfl rfl) h1
    have hw1 := reach_slice (j := 0) hsz rfl rfl Try.underlying35 hd1
    have hw2 := reach_slice (j := 1) hsz rfl rfl Try.underlying35 hd2
    rw [show Try.prog.bytesOf 46 = 24 by kernel_rfl] at hw1 hw2
    exact scheduleHeaps_walk A1 A2 n1 n2 c1 c2 xs1 xs2 W hr1 hx1 hr2 hx2 (by omega) (by omega)

theorem scheduleHeaps_holds : Rows.ScheduleHeapsSaid :=
  OpenClaim.holds_of_wide 5 Try.f5 rfl rfl rfl rfl rfl rfl rfl ⟨rfl, rfl, rfl, rfl, rfl⟩ rfl rfl rfl rfl rfl (by kernel_rfl) Try.func5 (by kernel_rfl)
    (of_decide_eq_true (by kernel_rfl)) (by unfold Func.isWrapper; first | (rw [if_pos (by decide +kernel)]; kernel_rfl) | (rw [if_neg (by decide +kernel)]; exact ⟨rfl, rfl⟩))
    (fun os started H enc _ => scheduleHeaps_lifted os started H enc)

end Go.Proofs.Ytjemlenjencbkaa
