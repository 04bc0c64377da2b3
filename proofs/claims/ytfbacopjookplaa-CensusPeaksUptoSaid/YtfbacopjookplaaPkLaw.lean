/- The plain law of the greatest numbers: what runs and the watch compute is what the document tells. No program in sight. -/
import Derived.Test.YtfbacopjookplaaRuns
import Derived.Test.YtfbacopjookplaaSortLay
import Derived.Test.YtfbacopjookplaaCalls
import Derived.Test.YtfbacopjookplaaRefSlots
import Derived.Test.YtfbacopjookplaaMomW
import Derived.Test.YtfbacopjookplaaStatesW
import Derived.Test.YtfbacopjookplaaTail
import Derived.Test.YtfbacopjookplaaRight
import Derived.Test.YtfbacopjookplaaMay
import Derived.Test.YtfbacopjookplaaFaultLaw
namespace Go.Proofs.Ytfbacopjookplaa
open Go.RowKit

open Go.ChangeShapes Go.WideShapes Go.ChangeAt Go.RowKit

theorem wrap_s {x : Int} (h0 : 0 ≤ x) (h1 : x ≤ 4611686018427387904) : wrap64 (x + 1) = x + 1 := IntWalk.wrap64_in _ (by omega)
set_option maxHeartbeats 2000000 in
theorem refCount_any (B g n c : Nat) (st : List Int) (s : Int) (w : World) (h : w.ownsRow B 76 1 (.slice (some ⟨g, 0, none⟩) n c) n (st.map (Value.int .i64))) (hn : n ≤ 1024) :
    Calls Try.prog 132 #[.slice (some ⟨g, 0, none⟩) n c, .int .i64 s] w fun e w' => e = .returned (.int .i64 (cntF st s)) ∧ Ext w w' := by
  have Hh := Lib.hid h
  have hl := h.1
  rw [List.length_map, Nat.mul_one] at hl
  have Hl := Lib.hid hl
  clear h hl
  refine start_lat fun k0 => ?_
  go_enter Try.func132, Try.ntmps132
  go_wp2_with fail
  go_loopw [5, 10] (fun s5 s10 wr => ∃ (k : Lat w) (i : Nat), wr = k.world ∧ i ≤ n ∧ s10 = .int .i64 i ∧ s5 = .int .i64 (cntF (st.take i) s)) (fun _ s_ _ => n - (intOf s_).toNat)
  case atStart => exact ⟨k0, 0, rfl, by omega, rfl, rfl⟩
  case round =>
    obtain ⟨k, i, rfl, hi, rfl, rfl⟩ := hrel
    by_cases hlt : i < n
    · obtain ⟨x, hx, p⟩ := row_lat Hh.out hlt
      have z1 : (i : Int) < (n : Int) := by omega
      have z0 : (0 : Int) ≤ (i : Int) := by omega
      have hcb := cntF_le (st.take i) s
      have hti : (st.take i).length ≤ i := by rw [List.length_take]; omega
      have Hs : Hid (cntF (st.take (i + 1)) s = if x = s then cntF (st.take i) s + 1 else cntF (st.take i) s) := by
        show _ = _
        rw [List.take_add_one, hx]
        exact cntF_snoc _ _ _
      generalize cntF (st.take i) s = m at *
      have hwr : wrap64 (m + 1) = m + 1 := wrap_s hcb.1 (by omega)
      clear hx hcb hti
      by_cases he : x = s
      · have f1 : (x == s) = true := beq_iff_eq.2 he
        rw [if_pos he] at Hs
        clear he
        go_wp2_with fail
        go_roundw
        case rel => exact ⟨k, i + 1, rfl, by omega, by go_num, by rw [Hs.out, hwr]⟩
        case measure => simp [intOf]; omega
      · have f1 : (x == s) = false := beq_eq_false_iff_ne.2 he
        rw [if_neg he] at Hs
        clear he hwr
        go_wp2_with fail
        go_roundw
        case rel => exact ⟨k, i + 1, rfl, by omega, by go_num, by rw [Hs.out]⟩
        case measure => simp [intOf]; omega
    · obtain rfl : n = i := by omega
      rw [List.take_of_length_le (by rw [Hl.out]; exact Nat.le_refl _)]
      go_wp2_with fail
      go_ret
      exact ⟨rfl, k.ok⟩

/-- The steps of a call, and the move of its last. -/
def stepN (c : Cl) (q : Int × Int) (a : Ac) : Int × Int := if a.th = c.th ∧ Cl.holds a.mv c = true then (q.1 + 1, a.mv) else q
def stepsN (c : Cl) (tr : List Ac) : Int × Int := tr.foldl (stepN c) (0, -1)
def stepsD (tr : List Ac) (c : Cl) : Int := (stepsN c tr).1 + (if 0 ≤ c.en ∧ (stepsN c tr).2 ≠ c.en then 1 else 0)
theorem stepsN_snoc (c : Cl) (tr : List Ac) (a : Ac) : stepsN c (tr ++ [a]) = stepN c (stepsN c tr) a := by simp [stepsN]
theorem stepsN_bd (c : Cl) (tr : List Ac) : 0 ≤ (stepsN c tr).1 ∧ (stepsN c tr).1 ≤ tr.length := by
  have key : ∀ (tr : List Ac) (q : Int × Int) (n : Int), 0 ≤ q.1 ∧ q.1 ≤ n → 0 ≤ (tr.foldl (stepN c) q).1 ∧ (tr.foldl (stepN c) q).1 ≤ n + tr.length := by
    intro tr
    induction tr with
    | nil => intro q n h; simpa using h
    | cons a tr ih =>
      intro q n h
      have h2 := ih (stepN c q a) (n + 1) (by
        unfold stepN
        split
        · exact ⟨by show 0 ≤ q.1 + 1; omega, by show q.1 + 1 ≤ n + 1; omega⟩
        · exact ⟨h.1, by omega⟩)
      rw [List.foldl_cons, List.length_cons]
      exact ⟨h2.1, by have := h2.2; omega⟩
  have := key tr (0, -1) 0 ⟨Int.le_refl _, Int.le_refl _⟩
  unfold stepsN
  omega

set_option maxRecDepth 100000 in
set_option maxHeartbeats 4000000 in
theorem refSteps_any (A1 : Option Addr) (n1 c1 : Nat) (A2 : Option Addr) (n2 c2 : Nat) (A3 : Option Addr) (n3 c3 : Nat) (A4 : Option Addr) (n4 c4 : Nat) (tr : List Ac) (y : Cl) (w : World) (h2 : Arr Ac.enc w A2 n2 tr) (b2 : n2 ≤ 1048576) :
    Calls Try.prog 134 #[.agg #[.slice A1 n1 c1, .slice A2 n2 c2, .slice A3 n3 c3, .slice A4 n4 c4], .agg #[.int .i64 y.th, .int .i64 y.op, .int .i64 y.arg, .int .i64 y.dat, .int .i64 y.bg, .int .i64 y.en, .int .i64 y.pt, .int .i64 y.ak, .int .i64 y.av]] w fun e w' => e = .returned (.int .i64 (stepsD tr y)) ∧ Ext w w' := by
  have H2 := Lib.hid h2
  have HD : Hid (stepsD tr y = (stepsN y tr).1 + (if 0 ≤ y.en ∧ (stepsN y tr).2 ≠ y.en then 1 else 0)) := rfl
  generalize stepsD tr y = res at *
  clear h2
  go_enter Try.func134, Try.ntmps134
  go_upto_region 1 with fail
  obtain ⟨w0, hw0, hR, hY, hE, hlt0⟩ := enter2 w (.cells #[.slice A1 n1 c1, .slice A2 n2 c2, .slice A3 n3 c3, .slice A4 n4 c4] 48) (.cells #[.int .i64 y.th, .int .i64 y.op, .int .i64 y.arg, .int .i64 y.dat, .int .i64 y.bg, .int .i64 y.en, .int .i64 y.pt, .int .i64 y.ak, .int .i64 y.av] 150)
  rw [hw0]
  have HE := Lib.hid hE
  have H20 := Lib.hid (H2.out.ext hE)
  obtain ⟨r0, r1, r2, r3⟩ := Lat.run hR
  obtain ⟨y0, y1, y2, y3, y4, y5, y6, y7, y8⟩ := Cl.boxed hY
  obtain ⟨k0, hk0⟩ := lat_self w0
  rw [hk0]
  clear hw0 hR hE hk0 hlt0 hY
  go_wp2_with fail
  go_loopw [5, 6, 7] (fun s5 s6 s7 wr => ∃ (k : Lat w0) (i : Nat), wr = k.world ∧ i ≤ n2 ∧ s7 = .int .i64 i ∧ s5 = .int .i64 (stepsN y (tr.take i)).1 ∧ s6 = .int .i64 (stepsN y (tr.take i)).2) (fun _ _ s_ _ => n2 - (intOf s_).toNat)
  case atStart => exact ⟨k0, 0, rfl, by omega, rfl, rfl, rfl⟩
  case round =>
    clear k0
    obtain ⟨k, i, rfl, hi, rfl, rfl, rfl⟩ := hrel
    have hsb := stepsN_bd y (tr.take i)
    have hti : (tr.take i).length ≤ i := by rw [List.length_take]; omega
    by_cases hlt : i < n2
    · obtain ⟨ba, off, x, hAx, hb, hx, x0, x1, x2, x3, x4, x5, x6⟩ := Ac.at_ H20.out hlt
      have z1 : (i : Int) < (n2 : Int) := by omega
      have z0 : (0 : Int) ≤ (i : Int) := by omega
      have Hs : Hid (stepsN y (tr.take (i + 1)) = stepN y (stepsN y (tr.take i)) x) := by
        show _ = _
        rw [List.take_add_one, hx.out]
        exact stepsN_snoc _ _ _
      have Hin := Lib.hid fun w => in_any y x.mv w
      unfold stepN at Hs
      generalize stepsN y (tr.take i) = q at *
      obtain ⟨q1, q2⟩ := q
      have hwr : wrap64 (q1 + 1) = q1 + 1 := wrap_s hsb.1 (by have := hsb.2; simp only at this; omega)
      generalize Cl.holds x.mv y = hd at *
      subst hAx
      clear hsb hti
      go_upto_region 6 with fail
      have hcase : (x.th = y.th ∧ hd = true ∧ Hid (stepsN y (tr.take (i + 1)) = (q1 + 1, x.mv))) ∨ (x.th = y.th ∧ hd = false ∧ Hid (stepsN y (tr.take (i + 1)) = (q1, q2))) ∨ (x.th ≠ y.th ∧ Hid (stepsN y (tr.take (i + 1)) = (q1, q2))) := by
        by_cases h1 : x.th = y.th
        · cases hd with
          | true => exact .inl ⟨h1, rfl, Hs.out.trans (if_pos ⟨h1, rfl⟩)⟩
          | false => exact .inr (.inl ⟨h1, rfl, Hs.out.trans (if_neg fun h => by cases h.2)⟩)
        · exact .inr (.inr ⟨h1, Hs.out.trans (if_neg fun h => h1 h.1)⟩)
      rcases hcase with ⟨h1, rfl, Hn⟩ | ⟨h1, rfl, Hn⟩ | ⟨h1, Hn⟩
      case' inl => have f1 : (x.th == y.th) = true := beq_iff_eq.2 h1
      case' inr.inl => have f1 : (x.th == y.th) = true := beq_iff_eq.2 h1
      case' inr.inr => have f1 : (x.th == y.th) = false := beq_eq_false_iff_ne.2 h1
      all_goals
        clear h1 Hs
        refine wp_region_cls (Ext w0) (Ext.drew1 k.ok) (by kernel_rfl) (by kernel_rfl) ?_
        repeat (go_big_quiet_step (with_reducible exact calls_cls (keeps_ext _) (Hin.out _)))
        refine wpQuiet_nil ?_
        rintro _ ⟨k5, rfl⟩
        clear Hin
        go_wp2_with fail
        go_roundw
        case rel => exact ⟨k5, i + 1, rfl, by omega, by go_num, by (first | (rw [Hn.out]; done) | (simp only [Hn.out, hwr]; done)), by rw [Hn.out]⟩
        case measure => simp [intOf]; omega
    · obtain rfl : n2 = i := by omega
      have et : tr.take n2 = tr := List.take_of_length_le (by rw [H20.out.1]; exact Nat.le_refl _)
      rw [et] at hsb ⊢
      generalize stepsN y tr = q at *
      obtain ⟨q1, q2⟩ := q
      have hwr : wrap64 (q1 + 1) = q1 + 1 := wrap_s hsb.1 (by have := hsb.2; have := H20.out.1; simp only at *; omega)
      clear hsb hti et
      have hcase : (0 ≤ y.en ∧ q2 ≠ y.en ∧ Hid (res = q1 + 1)) ∨ (0 ≤ y.en ∧ q2 = y.en ∧ Hid (res = q1)) ∨ (¬ 0 ≤ y.en ∧ Hid (res = q1)) := by
        by_cases h1 : 0 ≤ y.en
        · by_cases h2 : q2 = y.en
          · exact .inr (.inl ⟨h1, h2, by show _ = _; rw [HD.out, if_neg fun h => h.2 h2]; simp⟩)
          · exact .inl ⟨h1, h2, by show _ = _; rw [HD.out, if_pos ⟨h1, h2⟩]⟩
        · exact .inr (.inr ⟨h1, by show _ = _; rw [HD.out, if_neg fun h => h1 h.1]; simp⟩)
      rcases hcase with ⟨h1, h2, Hn⟩ | ⟨h1, h2, Hn⟩ | ⟨h1, Hn⟩
      case' inl =>
        have f1 : decide (0 ≤ y.en) = true := decide_eq_true h1
        have f2 : (q2 != y.en) = true := by simpa using h2
        clear h2
      case' inr.inl =>
        have f1 : decide (0 ≤ y.en) = true := decide_eq_true h1
        have f2 : (q2 != y.en) = false := by simpa using h2
        clear h2
      case' inr.inr => have f1 : decide (0 ≤ y.en) = false := decide_eq_false h1
      all_goals
        clear h1 HD
        go_wp2_with fail
        go_ret
        exact ⟨by (first | (rw [Hn.out]; rfl) | (rw [hwr, Hn.out]; rfl)), Ext.next HE.out k.ok⟩

open Go.ChangeShapes Go.WideShapes Go.ChangeAt Go.RowKit

/-- The least move above one, of those that have a property; -1: none. -/
def NextIs (P : Int → Prop) (mv lv : Int) : Prop := (lv = -1 ∧ ∀ y, P y → ¬ mv < y) ∨ (P lv ∧ mv < lv ∧ ∀ y, P y → mv < y → lv ≤ y)
theorem NextIs.take {P : Int → Prop} {mv lv e : Int} (h : NextIs P mv lv) (hm : -1 ≤ mv) (h1 : mv < e) (h2 : lv < 0 ∨ e ≤ lv) : NextIs (fun y => P y ∨ y = e) mv e := by
  refine .inr ⟨.inr rfl, h1, fun y hy hlt => ?_⟩
  rcases hy with hy | rfl
  · rcases h with ⟨_, h3⟩ | ⟨_, h4, h3⟩
    · exact absurd hlt (h3 y hy)
    · have := h3 y hy hlt
      omega
  · exact Int.le_refl _
theorem NextIs.pass {P : Int → Prop} {mv lv e : Int} (h : NextIs P mv lv) (h1 : ¬ (mv < e ∧ (lv < 0 ∨ e ≤ lv))) : NextIs (fun y => P y ∨ y = e) mv lv := by
  rcases h with ⟨h2, h3⟩ | ⟨h2, h4, h3⟩
  · refine .inl ⟨h2, fun y hy hlt => ?_⟩
    rcases hy with hy | rfl
    · exact h3 y hy hlt
    · exact h1 ⟨hlt, .inl (by omega)⟩
  · refine .inr ⟨.inl h2, h4, fun y hy hlt => ?_⟩
    rcases hy with hy | rfl
    · exact h3 y hy hlt
    · by_cases hle : y ≤ lv
      · exact absurd ⟨hlt, .inr hle⟩ h1
      · omega
theorem NextIs.congr {P Q : Int → Prop} {mv lv : Int} (h : NextIs P mv lv) (e : ∀ y, P y ↔ Q y) : NextIs Q mv lv := by
  rcases h with ⟨h2, h3⟩ | ⟨h2, h4, h3⟩
  · exact .inl ⟨h2, fun y hy => h3 y ((e y).2 hy)⟩
  · exact .inr ⟨(e lv).1 h2, h4, fun y hy => h3 y ((e y).2 hy)⟩
/-- The step ahead of place i. -/
def lastL (L : List Int) (i : Nat) : Int := (L.take i).getLast?.getD (-1)
theorem lastL_succ {L : List Int} {i : Nat} {m : Int} (h : L[i]? = some m) : lastL L (i + 1) = m := by
  unfold lastL
  rw [List.take_add_one, h]
  simp
theorem lastL_low {L : List Int} (h0 : ∀ y ∈ L, 0 ≤ y) (i : Nat) : -1 ≤ lastL L i := by
  unfold lastL
  cases h : (L.take i).getLast? with
  | none => exact Int.le_refl _
  | some x =>
    have := h0 x (List.mem_of_mem_take (List.mem_of_getLast? h))
    show -1 ≤ x
    omega
theorem lastL_split {L : List Int} (hp : L.Pairwise (· < ·)) (h0 : ∀ y ∈ L, 0 ≤ y) (i : Nat) : (∀ y ∈ L.take i, y ≤ lastL L i) ∧ (∀ y ∈ L.drop i, lastL L i < y) := by
  have hsp : L.take i ++ L.drop i = L := List.take_append_drop i L
  rw [← hsp] at hp
  obtain ⟨p1, _, p3⟩ := List.pairwise_append.1 hp
  unfold lastL
  cases h : (L.take i).getLast? with
  | none =>
    have hn : L.take i = [] := List.getLast?_eq_none_iff.1 h
    refine ⟨fun y hy => (by rw [hn] at hy; cases hy), fun y hy => ?_⟩
    have := h0 y (List.mem_of_mem_drop hy)
    show -1 < y
    omega
  | some x =>
    have hx := List.mem_of_getLast? h
    refine ⟨fun y hy => ?_, fun y hy => p3 x hx y hy⟩
    show y ≤ x
    obtain ⟨l, hl⟩ := List.getLast?_eq_some_iff.1 h
    rw [hl] at hy p1
    rcases List.mem_append.1 hy with hy | hy
    · exact Int.le_of_lt ((List.pairwise_append.1 p1).2.2 y hy x (by simp))
    · rw [List.mem_singleton.1 hy]
      exact Int.le_refl _
theorem next_is {L : List Int} {P : Int → Prop} (hp : L.Pairwise (· < ·)) (h0 : ∀ y ∈ L, 0 ≤ y) (hP : ∀ y, 0 ≤ y → (y ∈ L ↔ P y)) {i : Nat} {lv : Int} (h : NextIs P (lastL L i) lv) : lv = (L[i]?).getD (-1) := by
  obtain ⟨s1, s2⟩ := lastL_split hp h0 i
  have hlow := lastL_low h0 i
  cases hi : L[i]? with
  | none =>
    rcases h with ⟨h2, _⟩ | ⟨h2, h4, _⟩
    · exact h2
    · exfalso
      have hmem := (hP lv (by omega)).2 h2
      have hlen : L.length ≤ i := List.getElem?_eq_none_iff.1 hi
      have := s1 lv (by rw [List.take_of_length_le hlen]; exact hmem)
      omega
  | some m =>
    have hd : L.drop i = m :: L.drop (i + 1) := drop_cons hi
    have hm : m ∈ L := List.mem_of_getElem? hi
    have hlt : lastL L i < m := s2 m (by rw [hd]; exact List.mem_cons_self)
    show lv = m
    rcases h with ⟨_, h3⟩ | ⟨h2, h4, h3⟩
    · exact absurd hlt (h3 m ((hP m (h0 m hm)).1 hm))
    · have h5 := h3 m ((hP m (h0 m hm)).1 hm) hlt
      have hmem := (hP lv (by omega)).2 h2
      rw [← List.take_append_drop i L] at hmem
      rcases List.mem_append.1 hmem with h6 | h6
      · have := s1 lv h6
        omega
      · rw [hd] at h6
        rcases List.mem_cons.1 h6 with h6 | h6
        · exact h6
        · have hp2 : (m :: L.drop (i + 1)).Pairwise (· < ·) := by
            rw [← hd]
            exact hp.sublist (List.drop_sublist i L)
          have := (List.pairwise_cons.1 hp2).1 lv h6
          omega
/-- How many steps are above a move. -/
def above (L : List Int) (m : Int) : Nat := (L.filter fun y => decide (m < y)).length
theorem above_lt {L : List Int} {m m' : Int} (h : m < m') (hm : m' ∈ L) : above L m' < above L m := by
  unfold above
  have e : L.filter (fun y => decide (m' < y)) = (L.filter fun y => decide (m < y)).filter (fun y => decide (m' < y)) := by
    rw [List.filter_filter]
    apply List.filter_congr
    intro y _
    by_cases h1 : m' < y
    · have : m < y := by omega
      simp [h1, this]
    · simp [h1]
  rw [e]
  refine List.length_filter_lt_length_iff_exists.2 ⟨m', List.mem_filter.2 ⟨hm, by simpa using h⟩, by simp⟩

set_option maxRecDepth 100000 in
set_option maxHeartbeats 8000000 in
theorem refGap_any (A1 : Option Addr) (n1 c1 : Nat) (A2 : Option Addr) (n2 c2 : Nat) (A3 : Option Addr) (n3 c3 : Nat) (A4 : Option Addr) (n4 c4 : Nat) (cs : List Cl) (tr : List Ac) (L : List Int) (w : World) (h1 : Arr Cl.enc w A1 n1 cs) (h2 : Arr Ac.enc w A2 n2 tr) (b1 : n1 ≤ 1048576) (b2 : n2 ≤ 1048576)
    (hp : L.Pairwise (· < ·)) (h0 : ∀ y ∈ L, 0 ≤ y) (hP : ∀ y, 0 ≤ y → (y ∈ L ↔ (y ∈ tr.map Ac.mv ∨ y ∈ cs.map Cl.en))) (hra : RiseA tr) (hL : L.length ≤ 2097152) :
    Calls Try.prog 133 #[.agg #[.slice A1 n1 c1, .slice A2 n2 c2, .slice A3 n3 c3, .slice A4 n4 c4]] w fun e w' => e = .returned (.int .i64 (gapF cs L).1) ∧ Ext w w' := by
  have H1 := Lib.hid h1
  have H2 := Lib.hid h2
  have Hp := Lib.hid hp
  have H0 := Lib.hid h0
  have HP := Lib.hid hP
  have Hra := Lib.hid hra
  have HL := Lib.hid hL
  clear h1 h2 hp h0 hP hra hL
  go_enter Try.func133, Try.ntmps133
  go_upto_region 1 with fail
  obtain ⟨w0, hw0, hR, hE, hlt0⟩ := enter1 w (.cells #[.slice A1 n1 c1, .slice A2 n2 c2, .slice A3 n3 c3, .slice A4 n4 c4] 48)
  rw [hw0]
  have HE := Lib.hid hE
  have H10 := Lib.hid (H1.out.ext hE)
  have H20 := Lib.hid (H2.out.ext hE)
  obtain ⟨r0, r1, r2, r3⟩ := Lat.run hR
  obtain ⟨k0, hk0⟩ := lat_self w0
  rw [hk0]
  clear hw0 hR hE hk0 hlt0
  go_wp2_with fail
  go_loopw [3, 4, 5, 6] (fun s3 s4 s5 s6 wr => ∃ (k : Lat w0) (i a : Nat), wr = k.world ∧ i ≤ L.length ∧ a ≤ n2 ∧ s3 = .int .i64 (gapF cs (L.take i)).1 ∧ s4 = .int .i64 (gapF cs (L.take i)).2 ∧ s5 = .int .i64 a ∧ s6 = .int .i64 (lastL L i) ∧ Hid (∀ (j : Nat) (x : Ac), j < a → tr[j]? = some x → x.mv ≤ lastL L i)) (fun _ _ _ s_ _ => above L (intOf s_))
  case atStart => exact ⟨k0, 0, 0, rfl, Nat.zero_le _, Nat.zero_le _, rfl, rfl, rfl, rfl, fun j x h => absurd h (Nat.not_lt_zero _)⟩
  case round =>
    clear k0
    obtain ⟨k, i, a, rfl, hi, ha, rfl, rfl, rfl, rfl, Hbe⟩ := hrel
    have hgb := gapF_bd cs (L.take i)
    have hti : (L.take i).length ≤ L.length := by rw [List.length_take]; omega
    have hlow := lastL_low H0.out i
    have Hlow := Lib.hid hlow
    have Hgb : Hid (0 ≤ (gapF cs (L.take i)).2 ∧ (gapF cs (L.take i)).2 ≤ 2097152) := ⟨hgb.2.2.1, by have := hgb.2.2.2; have := HL.out; omega⟩
    have Hgt : Hid (∀ m, L[i]? = some m → gapF cs (L.take (i + 1)) = gapStep cs (gapF cs (L.take i)) m ∧ lastL L (i + 1) = m ∧ above L m < above L (lastL L i)) := fun m hm => ⟨gapF_take hm, lastL_succ hm, above_lt ((lastL_split Hp.out H0.out i).2 m (by rw [drop_cons hm]; exact List.mem_cons_self)) (List.mem_of_getElem? hm)⟩
    have Hnx : Hid (∀ lv, NextIs (fun y => y ∈ tr.map Ac.mv ∨ y ∈ cs.map Cl.en) (lastL L i) lv → lv = (L[i]?).getD (-1)) := fun lv h => next_is Hp.out H0.out HP.out h
    have Hend : Hid (L[i]? = none → gapF cs (L.take i) = gapF cs L) := fun h => by
      rw [List.take_of_length_le (List.getElem?_eq_none_iff.1 h)]
    clear hgb hti hlow
    generalize gapF cs (L.take i) = g at *
    obtain ⟨g1, g2⟩ := g
    obtain ⟨mv, hmv⟩ : ∃ mv, lastL L i = mv := ⟨_, rfl⟩
    rw [hmv] at Hbe Hlow Hgt Hnx ⊢
    have Hmv := Lib.hid hmv
    clear hmv
    go_wp2_with fail
    go_loopw [5] (fun s5 wr => ∃ (k : Lat w0) (a : Nat), wr = k.world ∧ a ≤ n2 ∧ s5 = .int .i64 a ∧ Hid (∀ (j : Nat) (x : Ac), j < a → tr[j]? = some x → x.mv ≤ mv)) (fun s_ _ => n2 - (intOf s_).toNat)
    case atStart => exact ⟨k, a, rfl, ha, rfl, Hbe⟩
    case round =>
      clear Hbe
      obtain ⟨k, a, rfl, ha, rfl, Hbe⟩ := hrel
      by_cases hgo : ∃ x, tr[a]? = some x ∧ x.mv ≤ mv
      · obtain ⟨x', hx', hle⟩ := hgo
        have hlt : a < n2 := by rw [← H20.out.1]; exact (List.getElem?_eq_some_iff.1 hx').1
        obtain ⟨ba, off, x, hAx, hb, hx, x0, x1, x2, x3, x4, x5, x6⟩ := Ac.at_ H20.out hlt
        obtain rfl : x' = x := by
          have h9 := hx.out
          rw [hx'] at h9
          exact Option.some.inj h9
        have Hbe' : Hid (∀ (j : Nat) (x : Ac), j < a + 1 → tr[j]? = some x → x.mv ≤ mv) := fun j y hj hy => by
          by_cases e : j = a
          · subst e
            rw [hx'] at hy
            rw [← Option.some.inj hy]
            exact hle
          · exact Hbe.out j y (by omega) hy
        have z1 : (a : Int) < (n2 : Int) := by omega
        have z0 : (0 : Int) ≤ (a : Int) := by omega
        have d1 : decide ((a : Int) < (n2 : Int)) = true := decide_eq_true z1
        have d2 : decide (x'.mv ≤ mv) = true := decide_eq_true hle
        subst hAx
        clear hx' hle x1 x2 x3 x4 x5 x6
        go_wp2_with fail
        go_roundw
        case rel => exact ⟨k, a + 1, rfl, by omega, by go_num, Hbe'⟩
        case measure => simp [intOf]; omega
      · have Hst : Hid ((tr[a]? = none ∧ a = n2) ∨ ∃ x, tr[a]? = some x ∧ mv < x.mv) := by
          show _ ∨ _
          cases hx : tr[a]? with
          | none => exact .inl ⟨rfl, by have := List.getElem?_eq_none_iff.1 hx; rw [H20.out.1] at this; omega⟩
          | some x => exact .inr ⟨x, rfl, by
              rcases Int.lt_or_le mv x.mv with h | h
              · exact h
              · exact absurd ⟨x, hx, h⟩ hgo⟩
        have Hn0 : Hid (∀ lv, (tr[a]? = none → lv = -1) → (∀ x, tr[a]? = some x → lv = x.mv) → NextIs (fun y => y ∈ tr.map Ac.mv ∨ y ∈ (cs.take 0).map Cl.en) mv lv) := fun lv h1 h2 => by
          have base : NextIs (fun y => y ∈ tr.map Ac.mv) mv lv := by
            rcases Hst.out with ⟨h3, h4⟩ | ⟨x, h3, h4⟩
            · refine .inl ⟨h1 h3, fun y hy hlt => ?_⟩
              obtain ⟨z, hz, rfl⟩ := List.mem_map.1 hy
              obtain ⟨j, hj⟩ := List.getElem?_of_mem hz
              have hj2 := (List.getElem?_eq_some_iff.1 hj).1
              rw [H20.out.1] at hj2
              have := Hbe.out j z (by omega) hj
              omega
            · rw [h2 x h3]
              refine .inr ⟨List.mem_map.2 ⟨x, List.mem_of_getElem? h3, rfl⟩, h4, fun y hy hlt => ?_⟩
              obtain ⟨z, hz, rfl⟩ := List.mem_map.1 hy
              obtain ⟨j, hj⟩ := List.getElem?_of_mem hz
              rcases Nat.lt_trichotomy j a with h5 | h5 | h5
              · have := Hbe.out j z h5 hj
                omega
              · subst h5
                rw [h3] at hj
                rw [Option.some.inj hj]
                exact Int.le_refl _
              · exact Int.le_of_lt (Hra.out a j x z h5 h3 hj)
          exact base.congr fun y => by simp
        by_cases hlt : a < n2
        case' pos =>
          obtain ⟨ba, off, x, hAx, hb, hx, x0, x1, x2, x3, x4, x5, x6⟩ := Ac.at_ H20.out hlt
          have z1 : (a : Int) < (n2 : Int) := by omega
          have z0 : (0 : Int) ≤ (a : Int) := by omega
          have d1 : decide ((a : Int) < (n2 : Int)) = true := decide_eq_true z1
          have d2 : decide (x.mv ≤ mv) = false := decide_eq_false fun h => hgo ⟨x, hx.out, h⟩
          have Hn1 : Hid (NextIs (fun y => y ∈ tr.map Ac.mv ∨ y ∈ (cs.take 0).map Cl.en) mv x.mv) := Hn0.out x.mv (fun h => by have := hx.out; rw [h] at this; cases this) (fun y hy => by rw [hx.out] at hy; rw [Option.some.inj hy])
          obtain ⟨lv, hlv⟩ : ∃ lv, x.mv = lv := ⟨_, rfl⟩
          rw [hlv] at x0 d2 Hn1
          subst hAx
          clear x1 x2 x3 x4 x5 x6 hlv
        case' neg =>
          have z1 : ¬ (a : Int) < (n2 : Int) := by omega
          have d1 : decide ((a : Int) < (n2 : Int)) = false := decide_eq_false z1
          obtain ⟨lv, hlv⟩ : ∃ lv : Int, lv = -1 := ⟨_, rfl⟩
          have Hn1 : Hid (NextIs (fun y => y ∈ tr.map Ac.mv ∨ y ∈ (cs.take 0).map Cl.en) mv lv) := Hn0.out lv (fun _ => hlv) (fun y hy => by
            have := (List.getElem?_eq_some_iff.1 hy).1
            rw [H20.out.1] at this
            omega)
          subst hlv
        all_goals
          clear hgo Hst Hn0
          go_wp2_with fail
          go_loopw [7, 9] (fun s7 s9 wr => ∃ (k : Lat w0) (j : Nat) (lv : Int), wr = k.world ∧ j ≤ n1 ∧ s9 = .int .i64 j ∧ s7 = .int .i64 lv ∧ Hid (NextIs (fun y => y ∈ tr.map Ac.mv ∨ y ∈ (cs.take j).map Cl.en) mv lv)) (fun _ s_ _ => n1 - (intOf s_).toNat)
          case atStart => exact ⟨k, 0, _, rfl, by omega, rfl, rfl, Hn1⟩
          case round =>
            clear Hn1
            obtain ⟨k, j, lv, rfl, hj, rfl, rfl, Hn⟩ := hrel
            by_cases hlt1 : j < n1
            · obtain ⟨bc, oc, y, hAy, hbc, hy, y0, y1, y2, y3, y4, y5, y6, y7, y8⟩ := Cl.at_ H10.out hlt1
              have z2 : (j : Int) < (n1 : Int) := by omega
              have z3 : (0 : Int) ≤ (j : Int) := by omega
              have Hmem : Hid (∀ z, ((z ∈ tr.map Ac.mv ∨ z ∈ (cs.take j).map Cl.en) ∨ z = y.en) ↔ (z ∈ tr.map Ac.mv ∨ z ∈ (cs.take (j + 1)).map Cl.en)) := fun z => by
                rw [List.take_add_one, hy.out, List.map_append]
                simp only [List.mem_append, Option.toList_some, List.map_cons, List.map_nil, List.mem_singleton]
                constructor
                · rintro ((h | h) | h)
                  · exact .inl h
                  · exact .inr (.inl h)
                  · exact .inr (.inr h)
                · rintro (h | h | h)
                  · exact .inl (.inl h)
                  · exact .inl (.inr h)
                  · exact .inr h
              have hcase : (mv < y.en ∧ lv < 0) ∨ (mv < y.en ∧ ¬ lv < 0 ∧ y.en ≤ lv) ∨ (mv < y.en ∧ ¬ lv < 0 ∧ ¬ y.en ≤ lv) ∨ ¬ mv < y.en := by omega
              clear y0 y1 y2 y3 y4 y6 y7 y8
              subst hAy
              rcases hcase with ⟨h1, h2⟩ | ⟨h1, h2, h3⟩ | ⟨h1, h2, h3⟩ | h1
              case' inl =>
                have Hn2 := Lib.hid ((Hn.out.take Hlow.out h1 (.inl h2)).congr Hmem.out)
                have d3 : decide (mv < y.en) = true := decide_eq_true h1
                have d4 : decide (lv < 0) = true := decide_eq_true h2
              case' inr.inl =>
                have Hn2 := Lib.hid ((Hn.out.take Hlow.out h1 (.inr h3)).congr Hmem.out)
                have d3 : decide (mv < y.en) = true := decide_eq_true h1
                have d4 : decide (lv < 0) = false := decide_eq_false h2
                have d5 : decide (y.en ≤ lv) = true := decide_eq_true h3
              case' inr.inr.inl =>
                have Hn2 := Lib.hid ((Hn.out.pass fun h => by omega).congr Hmem.out)
                have d3 : decide (mv < y.en) = true := decide_eq_true h1
                have d4 : decide (lv < 0) = false := decide_eq_false h2
                have d5 : decide (y.en ≤ lv) = false := decide_eq_false h3
              case' inr.inr.inr =>
                have Hn2 := Lib.hid ((Hn.out.pass fun h => by omega).congr Hmem.out)
                have d3 : decide (mv < y.en) = false := decide_eq_false h1
              all_goals
                clear Hmem Hn
                (try clear h3)
                (try clear h2)
                clear h1
                go_wp2_with fail
                go_roundw
                case rel => exact ⟨k, j + 1, _, rfl, by omega, by go_num, rfl, Hn2⟩
                case measure => simp [intOf]; omega
            · obtain rfl : n1 = j := by omega
              have Hlv : Hid (lv = (L[i]?).getD (-1)) := by
                have h := Hn.out
                rw [List.take_of_length_le (by rw [H10.out.1]; exact Nat.le_refl _)] at h
                exact Hnx.out lv h
              clear Hn Hnx
              cases hLi : L[i]? with
              | none =>
                have hlv : lv = -1 := by rw [Hlv.out, hLi]; rfl
                have HE1 := Lib.hid (congrArg Prod.fst (Hend.out hLi))
                subst hlv
                clear Hgt hLi
                go_wp2_with fail
                go_ret
                exact ⟨by rw [← HE1.out]; rfl, Ext.next HE.out k.ok⟩
              | some m =>
                have hlv : lv = m := by rw [Hlv.out, hLi]; rfl
                have hm0 : 0 ≤ m := H0.out m (List.mem_of_getElem? hLi)
                obtain ⟨g3, g4, g5⟩ := Hgt.out m hLi
                have G3 := Lib.hid g3
                have G4 := Lib.hid g4
                have G5 := Lib.hid g5
                have hil : i < L.length := (List.getElem?_eq_some_iff.1 hLi).1
                subst hlv
                have hl0 : ¬ lv < 0 := by omega
                clear hLi g3 g4 g5 Hgt Hend hm0
                go_wp2_with fail
                go_loopw [8, 11] (fun s8 s11 wr => ∃ (k : Lat w0) (j : Nat), wr = k.world ∧ j ≤ n1 ∧ s11 = .int .i64 j ∧ s8 = .bool (endsAt (cs.take j) lv)) (fun _ s_ _ => n1 - (intOf s_).toNat)
                case atStart => exact ⟨k, 0, rfl, by omega, rfl, rfl⟩
                case round =>
                  obtain ⟨k, j, rfl, hj, rfl, rfl⟩ := hrel
                  by_cases hlt1 : j < n1
                  · obtain ⟨bc, oc, y, hAy, hbc, hy, y0, y1, y2, y3, y4, y5, y6, y7, y8⟩ := Cl.at_ H10.out hlt1
                    have z2 : (j : Int) < (n1 : Int) := by omega
                    have z3 : (0 : Int) ≤ (j : Int) := by omega
                    have Hs : Hid (endsAt (cs.take (j + 1)) lv = (endsAt (cs.take j) lv || decide (y.en = lv))) := by
                      show _ = _
                      unfold endsAt
                      rw [List.take_add_one, hy.out, List.any_append]
                      simp
                    generalize endsAt (cs.take j) lv = bo at *
                    clear y0 y1 y2 y3 y4 y6 y7 y8
                    subst hAy
                    cases bo with
                    | true =>
                      go_wp2_with fail
                      go_roundw
                      case rel => exact ⟨k, j + 1, rfl, by omega, by go_num, by rw [Hs.out]; rfl⟩
                      case measure => simp [intOf]; omega
                    | false =>
                      by_cases he : y.en = lv
                      case' pos =>
                        have f1 : (y.en == lv) = true := beq_iff_eq.2 he
                        have Hs2 : Hid (endsAt (cs.take (j + 1)) lv = true) := by show _ = _; rw [Hs.out]; simp [he]
                      case' neg =>
                        have f1 : (y.en == lv) = false := beq_eq_false_iff_ne.2 he
                        have Hs2 : Hid (endsAt (cs.take (j + 1)) lv = false) := by show _ = _; rw [Hs.out]; simp [he]
                      all_goals
                        clear he Hs
                        go_wp2_with fail
                        go_roundw
                        case rel => exact ⟨k, j + 1, rfl, by omega, by go_num, by rw [Hs2.out]⟩
                        case measure => simp [intOf]; omega
                  · obtain rfl : n1 = j := by omega
                    rw [List.take_of_length_le (by rw [H10.out.1]; exact Nat.le_refl _)]
                    have Hg6 := Lib.hid (show gapF cs (L.take (i + 1)) = (mxF g1 (if endsAt cs lv then 0 else g2 + 1), if endsAt cs lv then 0 else g2 + 1) from G3.out)
                    have hwr : wrap64 (g2 + 1) = g2 + 1 := wrap_s Hgb.out.1 (by have := Hgb.out.2; omega)
                    generalize endsAt cs lv = bo at *
                    have Hbe2 : Hid (∀ (j : Nat) (x : Ac), j < a → tr[j]? = some x → x.mv ≤ lastL L (i + 1)) := fun j x h1 h2 => by
                      have h3 := Hbe.out j x h1 h2
                      have h4 := (lastL_split Hp.out H0.out (i + 1)).1
                      have h5 := G4.out
                      have h6 : mv < lv := by
                        have h7 := (lastL_split Hp.out H0.out i).2 lv
                        rw [Hmv.out] at h7
                        refine h7 ?_
                        have h8 : L[i]? = some lv := by
                          rw [List.getElem?_eq_getElem hil]
                          have h9 := Hlv.out
                          rw [List.getElem?_eq_getElem hil] at h9
                          rw [h9]
                          rfl
                        rw [drop_cons h8]
                        exact List.mem_cons_self
                      omega
                    have Hme : Hid (above L lv < above L (lastL L i)) := by show _ < _; rw [Hmv.out]; exact G5.out
                    cases bo with
                    | true =>
                      have Hg7 : Hid (gapF cs (L.take (i + 1)) = (max g1 0, 0)) := by
                        show _ = _
                        rw [Hg6.out, if_pos rfl, mxF_max]
                      clear Hg6 hwr
                      go_wp2_with fail
                      go_roundw
                      case rel => exact ⟨k, i + 1, a, rfl, by omega, ha, by rw [Hg7.out], by rw [Hg7.out], rfl, by rw [G4.out], Hbe2⟩
                      case measure => exact G5.out
                    | false =>
                      have Hg7 : Hid (gapF cs (L.take (i + 1)) = (max g1 (g2 + 1), g2 + 1)) := by
                        show _ = _
                        rw [Hg6.out, if_neg (by decide), mxF_max]
                      clear Hg6
                      go_wp2_with fail
                      go_roundw
                      case rel => exact ⟨k, i + 1, a, rfl, by omega, ha, by (first | (rw [Hg7.out]; done) | (simp only [Hg7.out, hwr]; done)), by (first | (rw [Hg7.out]; done) | (simp only [Hg7.out, hwr]; done)), rfl, by rw [G4.out], Hbe2⟩
                      case measure => exact G5.out

open Go.ChangeShapes Go.WideShapes Go.ChangeAt Go.RowKit

/-- Peaks in memory. -/
structure PObj (w : World) (b : Nat) (P : List Int) : Prop where
  len : P.length = 7
  blk : w.heap[b]? = some (.cells (P.map (Value.int .i64)).toArray 80 (0, 0))
section
variable {w w' : World} {b : Nat} {P : List Int}
theorem PObj.ext (h : PObj w b P) (e : Ext w w') : PObj w' b P := ⟨h.len, ext_blk e h.blk⟩
theorem PObj.only {X : Nat → Prop} (h : PObj w b P) (o : Only X w w') (hb : ¬ X b) : PObj w' b P := ⟨h.len, (o.block b (blk_lt h.blk) hb).trans h.blk⟩
theorem PObj.num (h : PObj w b P) {j : Nat} {x : Int} (hj : P[j]? = some x) : ∀ c : Lat w, c.world.cell? ⟨b, j, none⟩ = some (.int .i64 x) := Lat.cells h.blk (by rw [List.getElem?_toArray, List.getElem?_map, hj]; rfl)
theorem PObj.free (h : PObj w b P) (i : Nat) : ∀ c : Lat w, c.world.frozen? ⟨b, i, none⟩ = false := Lat.free h.blk i
theorem PObj.set (h : PObj w b P) (j : Nat) (x : Int) : PObj (w.setCell ⟨b, j, none⟩ (.int .i64 x)) b (P.set j x) ∧ Only (fun q => q = b) w (w.setCell ⟨b, j, none⟩ (.int .i64 x)) := by
  refine ⟨⟨by rw [List.length_set]; exact h.len, ?_⟩, (Only.refl _ _).setCell _ _ fun _ => rfl⟩
  rw [heap_setCell_same _ _ _ _ _ _ h.blk, List.setIfInBounds_toArray, List.map_set]
end
theorem two_only {w w' : World} {B g1 c1 g2 c2 n : Nat} {st ho : List Int} (h : Two w B g1 c1 g2 c2 n st ho) {X : Nat → Prop} (o : Only X w w') (h1 : ¬ X g1) (h2 : ¬ X g2) : Two w' B g1 c1 g2 c2 n st ho :=
  ⟨own_only h.own1 o fun q hq e => h1 (by have e2 : g1 = q := Option.some.inj hq; rw [e2]; exact e), own_only h.own2 o fun q hq e => h2 (by have e2 : g2 = q := Option.some.inj hq; rw [e2]; exact e)⟩
/-- The peaks behind the counts of so many states. -/
def pkTo (s u : Nat) (sh : List Sh) : Nat → List Int
  | 0 => [0, 0, 0, 0, 0, 0, 0]
  | i + 1 => pkF (pkTo s u sh i) (afterS (beginS s u) (sh.take i))
theorem pkTo_form (s u : Nat) (sh : List Sh) : ∀ i, ∃ a0 a1 a2 a3 a4 : Int, pkTo s u sh i = [a0, a1, a2, a3, a4, 0, 0]
  | 0 => ⟨0, 0, 0, 0, 0, rfl⟩
  | i + 1 => by
    obtain ⟨a0, a1, a2, a3, a4, h⟩ := pkTo_form s u sh i
    unfold pkTo
    rw [h]
    exact ⟨_, _, _, _, _, rfl⟩
/-- What the document's Peaks tells. -/
def peaksD (s u : Nat) (cs : List Cl) (tr : List Ac) (sh : List Sh) (L : List Int) : List Int := ((pkTo s u sh (sh.length + 1)).set 5 (gapF cs L).1).set 6 (maxL (cs.map (stepsD tr)))
/-- A value of Peaks. -/
def pkV (P : List Int) : Value := .agg (P.map (Value.int .i64)).toArray

set_option maxRecDepth 100000 in
set_option maxHeartbeats 8000000 in
theorem refPeaks_any (T R H Re Ca S B : Int) (s : Nat) (hS : S = s) (hs1 : 1 ≤ s) (hs2 : s ≤ 1024) (u : Nat) (A1 : Option Addr) (n1 c1 : Nat) (A2 : Option Addr) (n2 c2 : Nat) (A3 : Option Addr) (n3 c3 : Nat) (A4 : Option Addr) (n4 c4 : Nat) (cs : List Cl) (tr : List Ac) (sh : List Sh) (L : List Int) (w : World)
    (h1 : Arr Cl.enc w A1 n1 cs) (h2 : Arr Ac.enc w A2 n2 tr) (h3 : Arr Sh.enc w A3 n3 sh) (b1 : n1 ≤ 1048576) (b2 : n2 ≤ 1048576) (b3 : n3 ≤ 1048576) (hsl : ∀ x ∈ sh, 0 ≤ x.sl ∧ x.sl < s)
    (hp : L.Pairwise (· < ·)) (h0 : ∀ y ∈ L, 0 ≤ y) (hP : ∀ y, 0 ≤ y → (y ∈ L ↔ (y ∈ tr.map Ac.mv ∨ y ∈ cs.map Cl.en))) (hra : RiseA tr) (hL : L.length ≤ 2097152) :
    Calls Try.prog 93 #[.agg #[.int .i64 T, .int .i64 R, .int .i64 H, .int .i64 Re, .int .i64 Ca, .int .i64 S, .int .i64 B], .int .i64 u, .agg #[.slice A1 n1 c1, .slice A2 n2 c2, .slice A3 n3 c3, .slice A4 n4 c4]] w fun e w' => e = .returned (pkV (peaksD s u cs tr sh L)) ∧ Ext w w' := by
  subst hS
  have H1 := Lib.hid h1
  have H2 := Lib.hid h2
  have H3 := Lib.hid h3
  have Hsl := Lib.hid hsl
  have Hbegin := Lib.hid fun w => refBegin_any T R H Re Ca (s : Int) B s rfl hs1 hs2 u w
  have Hgap := Lib.hid fun (w : World) (h1 : Arr Cl.enc w A1 n1 cs) (h2 : Arr Ac.enc w A2 n2 tr) => refGap_any A1 n1 c1 A2 n2 c2 A3 n3 c3 A4 n4 c4 cs tr L w h1 h2 b1 b2 hp h0 hP hra hL
  have Hstp := Lib.hid fun (y : Cl) (w : World) (h2 : Arr Ac.enc w A2 n2 tr) => refSteps_any A1 n1 c1 A2 n2 c2 A3 n3 c3 A4 n4 c4 tr y w h2 b2
  clear h1 h2 h3 hsl hp h0 hP hra hL
  have HD : Hid (peaksD s u cs tr sh L = ((pkTo s u sh (sh.length + 1)).set 5 (gapF cs L).1).set 6 (maxL (cs.map (stepsD tr)))) := rfl
  generalize peaksD s u cs tr sh L = res at *
  generalize (gapF cs L).1 = gp at *
  go_enter Try.func93, Try.ntmps93
  go_upto_region 2 with fail
  obtain ⟨w0, hw0, hC, hR, hE, hlt0⟩ := enter2 w (.cells (cfgV T R H Re Ca s B) 23) (.cells #[.slice A1 n1 c1, .slice A2 n2 c2, .slice A3 n3 c3, .slice A4 n4 c4] 48)
  obtain ⟨wa, hwa, ha, hEa, hlta⟩ := enter1 w0 (.cells #[.int .i64 0, .int .i64 0, .int .i64 0, .int .i64 0, .int .i64 0, .int .i64 0, .int .i64 0] 80)
  obtain ⟨wb, hwb, hb, hEb, hltb⟩ := enter1 wa (.cells #[.int .i64 0, .int .i64 0, .int .i64 0, .int .i64 0, .int .i64 0, .int .i64 0, .int .i64 0] 80)
  rw [hw0, hwa, hwb]
  have hs0 : w0.heap.size = w.heap.size + 1 + 1 := by rw [← hw0]; simp
  have hsa : wa.heap.size = w.heap.size + 1 + 1 + 1 := by rw [← hwa]; simp [hs0]
  rw [hs0] at ha
  rw [hsa] at hb
  have HE := Lib.hid hE
  have HEb := Lib.hid (Ext.next hEa hEb)
  have hZ0 := ext_blk hEb ha
  have HC := Lib.hid hC
  have HR := Lib.hid hR
  have Hpr : Hid (w0.heap.size ≤ w.heap.size + 1 + 1) := Nat.le_of_eq hs0
  have Hpb : Hid (w0.heap.size ≤ w.heap.size + 1 + 1 + 1) := by show _ ≤ _; omega
  have Hne : Hid (w.heap.size + 1 + 1 ≠ w.heap.size + 1 + 1 + 1) := by show _ ≠ _; omega
  have HP0 : Hid (PObj wb (w.heap.size + 1 + 1 + 1) (pkTo s u sh 0)) := ⟨rfl, hb⟩
  have HZ0 := Lib.hid hZ0
  generalize w.heap.size + 1 + 1 + 1 = pb at *
  generalize w.heap.size + 1 + 1 = pr at *
  have H10 := Lib.hid (H1.out.ext hE)
  have H20 := Lib.hid (H2.out.ext hE)
  have H30 := Lib.hid (H3.out.ext hE)
  clear hs0 hsa hw0 hwa hwb hlt0 hlta hltb ha hb hZ0 hE hEa hEb
  obtain ⟨d0, d1, d2, d3, d4, d5, d6⟩ := Lat.cfg hC
  obtain ⟨r0, r1, r2, r3⟩ := Lat.run hR
  obtain ⟨kb, hkb⟩ := lat_of HEb.out
  rw [hkb] at HP0 HZ0 ⊢
  clear hC hR HEb hkb
  go_wp2_with fail
  refine (Hbegin.out _).mono ?_
  rintro e w1 ⟨g1, q1, g2, q2, rfl, hT, e1⟩
  have HT0 := Lib.hid (⟨own_base hT.own1 kb.size, own_base hT.own2 kb.size⟩ : Two w1 w0.heap.size g1 q1 g2 q2 s _ _)
  have HP1 := Lib.hid (HP0.out.ext e1)
  have HZ1 := Lib.hid (ext_blk e1 HZ0.out)
  have HE1 := Lib.hid (Ext.next kb.ok e1)
  clear hT e1 HP0 HZ0 Hbegin
  obtain ⟨k1, hk1⟩ := lat_self w1
  rw [hk1]
  go_upto_region 4 with fail
  rw [← hk1]
  clear hk1 k1 kb
  go_loopw [10] (fun s10 wr => ∃ (i : Nat), i ≤ n3 ∧ s10 = .int .i64 i ∧ Hid (Two wr w0.heap.size g1 q1 g2 q2 s (afterS (beginS s u) (sh.take i)) (afterH (List.replicate s (-1)) (sh.take i))) ∧ Hid (PObj wr pb (pkTo s u sh i)) ∧ Hid (wr.heap[pr]? = some (.cells #[.int .i64 0, .int .i64 0, .int .i64 0, .int .i64 0, .int .i64 0, .int .i64 0, .int .i64 0] 80 (0, 0))) ∧ Hid (Ext w0 wr)) (fun s_ _ => n3 - (intOf s_).toNat)
  case atStart => exact ⟨0, Nat.zero_le _, rfl, HT0, HP1, HZ1, HE1⟩
  case round =>
    clear HT0 HP1 HZ1 HE1
    obtain ⟨i, hi, rfl, HT0, HPi, HZ0, HE0⟩ := hrel
    obtain ⟨wr0, hwr0⟩ : ∃ wr0 : World, wr0 = wr := ⟨_, rfl⟩
    subst hwr0
    have Hpk : Hid (pkTo s u sh (i + 1) = pkF (pkTo s u sh i) (afterS (beginS s u) (sh.take i))) := rfl
    obtain ⟨a0, a1, a2, a3, a4, hform⟩ := pkTo_form s u sh i
    rw [hform] at HPi Hpk
    obtain ⟨st, hst⟩ : ∃ st, afterS (beginS s u) (sh.take i) = st := ⟨_, rfl⟩
    obtain ⟨ho, hho⟩ : ∃ ho, afterH (List.replicate s (-1)) (sh.take i) = ho := ⟨_, rfl⟩
    rw [hst] at HT0 Hpk
    rw [hho] at HT0
    have Hst := Lib.hid hst
    have Hho := Lib.hid hho
    have HP0 := HPi
    clear hform HPi hst hho
    have Hpk2 : Hid (pkTo s u sh (i + 1) = [max a0 (cntF st 1), max a1 (cntF st 2), max a2 (cntF st 3), max a3 (cntF st 4), max a4 (cntF st 5), 0, 0]) := by
      show _ = _
      rw [Hpk.out]
      unfold pkF
      simp only [mxF_max]
    clear Hpk d0 d1 d2 d3 d4 d5 d6 r0 r1 r2 r3
    · skip
      -- count of state 1
      have cl0 : ∀ c : Lat wr0, c.world.cell? ⟨pb, 0, none⟩ = some (.int .i64 a0) := HP0.out.num rfl
      have f0 : ∀ c : Lat wr0, c.world.frozen? ⟨pb, 0, none⟩ = false := HP0.out.free 0
      have Hc0 : Hid (∀ c : Lat wr0, Calls Try.prog 132 #[.slice (some ⟨g1, 0, none⟩) s q1, .int .i64 1] c.world fun e w' => e = .returned (.int .i64 (cntF st 1)) ∧ Ext c.world w') := fun c => refCount_any w0.heap.size g1 s q1 st 1 c.world (HT0.out.ext c.ok).own1 hs2
      obtain ⟨kc0, hkc0⟩ := lat_self wr0
      rw [hkc0]
      clear hkc0
      go_upto_region 5 with fail
      refine wp_region_cls_tail (Ext wr0) 6 (Ext.drew1 kc0.ok) (by kernel_rfl) (by kernel_rfl) ?_
      simp only [List.take_succ_cons, List.take_zero, List.drop_succ_cons, List.drop_zero]
      repeat (go_big_quiet_step (with_reducible exact calls_cls (keeps_ext _) (Hc0.out _)))
      refine wpQuiet_nil ?_
      rintro _ ⟨k2, rfl⟩
      go_upto_region 6 with fail
      obtain ⟨hP, hO⟩ := (HP0.out.ext k2.ok).set 0 (max a0 (cntF st 1))
      have hE : Ext w0 (k2.world.setCell ⟨pb, 0, none⟩ (.int .i64 (max a0 (cntF st 1)))) := (Ext.next HE0.out k2.ok).only hO fun z hz => by rw [hz]; exact Hpb.out
      have hT := two_only (HT0.out.ext k2.ok) hO (fun e => own_apart HT0.out.own1 HP0.out.blk (by decide) (by rw [e]; rfl)) (fun e => own_apart HT0.out.own2 HP0.out.blk (by decide) (by rw [e]; rfl))
      have hZ := (hO.block pr (blk_lt (ext_blk k2.ok HZ0.out)) Hne.out).trans (ext_blk k2.ok HZ0.out)
      generalize k2.world.setCell ⟨pb, 0, none⟩ (.int .i64 (max a0 (cntF st 1))) = wr1 at hP hO hE hT hZ ⊢
      have HP1 := Lib.hid hP
      have HE1 := Lib.hid hE
      have HT1 := Lib.hid hT
      have HZ1 := Lib.hid hZ
      clear hP hO hE hT hZ cl0 f0 Hc0 HP0 HT0 HZ0 HE0 k2 kc0
      -- count of state 2
      have cl1 : ∀ c : Lat wr1, c.world.cell? ⟨pb, 1, none⟩ = some (.int .i64 a1) := HP1.out.num rfl
      have f1 : ∀ c : Lat wr1, c.world.frozen? ⟨pb, 1, none⟩ = false := HP1.out.free 1
      have Hc1 : Hid (∀ c : Lat wr1, Calls Try.prog 132 #[.slice (some ⟨g1, 0, none⟩) s q1, .int .i64 2] c.world fun e w' => e = .returned (.int .i64 (cntF st 2)) ∧ Ext c.world w') := fun c => refCount_any w0.heap.size g1 s q1 st 2 c.world (HT1.out.ext c.ok).own1 hs2
      obtain ⟨kc1, hkc1⟩ := lat_self wr1
      rw [hkc1]
      clear hkc1
      go_upto_region 6 with fail
      refine wp_region_cls_tail (Ext wr1) 6 (Ext.drew1 kc1.ok) (by kernel_rfl) (by kernel_rfl) ?_
      simp only [List.take_succ_cons, List.take_zero, List.drop_succ_cons, List.drop_zero]
      repeat (go_big_quiet_step (with_reducible exact calls_cls (keeps_ext _) (Hc1.out _)))
      refine wpQuiet_nil ?_
      rintro _ ⟨k2, rfl⟩
      go_upto_region 7 with fail
      obtain ⟨hP, hO⟩ := (HP1.out.ext k2.ok).set 1 (max a1 (cntF st 2))
      have hE : Ext w0 (k2.world.setCell ⟨pb, 1, none⟩ (.int .i64 (max a1 (cntF st 2)))) := (Ext.next HE1.out k2.ok).only hO fun z hz => by rw [hz]; exact Hpb.out
      have hT := two_only (HT1.out.ext k2.ok) hO (fun e => own_apart HT1.out.own1 HP1.out.blk (by decide) (by rw [e]; rfl)) (fun e => own_apart HT1.out.own2 HP1.out.blk (by decide) (by rw [e]; rfl))
      have hZ := (hO.block pr (blk_lt (ext_blk k2.ok HZ1.out)) Hne.out).trans (ext_blk k2.ok HZ1.out)
      generalize k2.world.setCell ⟨pb, 1, none⟩ (.int .i64 (max a1 (cntF st 2))) = wr2 at hP hO hE hT hZ ⊢
      have HP2 := Lib.hid hP
      have HE2 := Lib.hid hE
      have HT2 := Lib.hid hT
      have HZ2 := Lib.hid hZ
      clear hP hO hE hT hZ cl1 f1 Hc1 HP1 HT1 HZ1 HE1 k2 kc1
      -- count of state 3
      have cl2 : ∀ c : Lat wr2, c.world.cell? ⟨pb, 2, none⟩ = some (.int .i64 a2) := HP2.out.num rfl
      have f2 : ∀ c : Lat wr2, c.world.frozen? ⟨pb, 2, none⟩ = false := HP2.out.free 2
      have Hc2 : Hid (∀ c : Lat wr2, Calls Try.prog 132 #[.slice (some ⟨g1, 0, none⟩) s q1, .int .i64 3] c.world fun e w' => e = .returned (.int .i64 (cntF st 3)) ∧ Ext c.world w') := fun c => refCount_any w0.heap.size g1 s q1 st 3 c.world (HT2.out.ext c.ok).own1 hs2
      obtain ⟨kc2, hkc2⟩ := lat_self wr2
      rw [hkc2]
      clear hkc2
      go_upto_region 7 with fail
      refine wp_region_cls_tail (Ext wr2) 6 (Ext.drew1 kc2.ok) (by kernel_rfl) (by kernel_rfl) ?_
      simp only [List.take_succ_cons, List.take_zero, List.drop_succ_cons, List.drop_zero]
      repeat (go_big_quiet_step (with_reducible exact calls_cls (keeps_ext _) (Hc2.out _)))
      refine wpQuiet_nil ?_
      rintro _ ⟨k2, rfl⟩
      go_upto_region 8 with fail
      obtain ⟨hP, hO⟩ := (HP2.out.ext k2.ok).set 2 (max a2 (cntF st 3))
      have hE : Ext w0 (k2.world.setCell ⟨pb, 2, none⟩ (.int .i64 (max a2 (cntF st 3)))) := (Ext.next HE2.out k2.ok).only hO fun z hz => by rw [hz]; exact Hpb.out
      have hT := two_only (HT2.out.ext k2.ok) hO (fun e => own_apart HT2.out.own1 HP2.out.blk (by decide) (by rw [e]; rfl)) (fun e => own_apart HT2.out.own2 HP2.out.blk (by decide) (by rw [e]; rfl))
      have hZ := (hO.block pr (blk_lt (ext_blk k2.ok HZ2.out)) Hne.out).trans (ext_blk k2.ok HZ2.out)
      generalize k2.world.setCell ⟨pb, 2, none⟩ (.int .i64 (max a2 (cntF st 3))) = wr3 at hP hO hE hT hZ ⊢
      have HP3 := Lib.hid hP
      have HE3 := Lib.hid hE
      have HT3 := Lib.hid hT
      have HZ3 := Lib.hid hZ
      clear hP hO hE hT hZ cl2 f2 Hc2 HP2 HT2 HZ2 HE2 k2 kc2
      -- count of state 4
      have cl3 : ∀ c : Lat wr3, c.world.cell? ⟨pb, 3, none⟩ = some (.int .i64 a3) := HP3.out.num rfl
      have f3 : ∀ c : Lat wr3, c.world.frozen? ⟨pb, 3, none⟩ = false := HP3.out.free 3
      have Hc3 : Hid (∀ c : Lat wr3, Calls Try.prog 132 #[.slice (some ⟨g1, 0, none⟩) s q1, .int .i64 4] c.world fun e w' => e = .returned (.int .i64 (cntF st 4)) ∧ Ext c.world w') := fun c => refCount_any w0.heap.size g1 s q1 st 4 c.world (HT3.out.ext c.ok).own1 hs2
      obtain ⟨kc3, hkc3⟩ := lat_self wr3
      rw [hkc3]
      clear hkc3
      go_upto_region 8 with fail
      refine wp_region_cls_tail (Ext wr3) 6 (Ext.drew1 kc3.ok) (by kernel_rfl) (by kernel_rfl) ?_
      simp only [List.take_succ_cons, List.take_zero, List.drop_succ_cons, List.drop_zero]
      repeat (go_big_quiet_step (with_reducible exact calls_cls (keeps_ext _) (Hc3.out _)))
      refine wpQuiet_nil ?_
      rintro _ ⟨k2, rfl⟩
      go_upto_region 9 with fail
      obtain ⟨hP, hO⟩ := (HP3.out.ext k2.ok).set 3 (max a3 (cntF st 4))
      have hE : Ext w0 (k2.world.setCell ⟨pb, 3, none⟩ (.int .i64 (max a3 (cntF st 4)))) := (Ext.next HE3.out k2.ok).only hO fun z hz => by rw [hz]; exact Hpb.out
      have hT := two_only (HT3.out.ext k2.ok) hO (fun e => own_apart HT3.out.own1 HP3.out.blk (by decide) (by rw [e]; rfl)) (fun e => own_apart HT3.out.own2 HP3.out.blk (by decide) (by rw [e]; rfl))
      have hZ := (hO.block pr (blk_lt (ext_blk k2.ok HZ3.out)) Hne.out).trans (ext_blk k2.ok HZ3.out)
      generalize k2.world.setCell ⟨pb, 3, none⟩ (.int .i64 (max a3 (cntF st 4))) = wr4 at hP hO hE hT hZ ⊢
      have HP4 := Lib.hid hP
      have HE4 := Lib.hid hE
      have HT4 := Lib.hid hT
      have HZ4 := Lib.hid hZ
      clear hP hO hE hT hZ cl3 f3 Hc3 HP3 HT3 HZ3 HE3 k2 kc3
      -- count of state 5
      have cl4 : ∀ c : Lat wr4, c.world.cell? ⟨pb, 4, none⟩ = some (.int .i64 a4) := HP4.out.num rfl
      have f4 : ∀ c : Lat wr4, c.world.frozen? ⟨pb, 4, none⟩ = false := HP4.out.free 4
      have Hc4 : Hid (∀ c : Lat wr4, Calls Try.prog 132 #[.slice (some ⟨g1, 0, none⟩) s q1, .int .i64 5] c.world fun e w' => e = .returned (.int .i64 (cntF st 5)) ∧ Ext c.world w') := fun c => refCount_any w0.heap.size g1 s q1 st 5 c.world (HT4.out.ext c.ok).own1 hs2
      obtain ⟨kc4, hkc4⟩ := lat_self wr4
      rw [hkc4]
      clear hkc4
      go_upto_region 9 with fail
      refine wp_region_cls_tail (Ext wr4) 6 (Ext.drew1 kc4.ok) (by kernel_rfl) (by kernel_rfl) ?_
      simp only [List.take_succ_cons, List.take_zero, List.drop_succ_cons, List.drop_zero]
      repeat (go_big_quiet_step (with_reducible exact calls_cls (keeps_ext _) (Hc4.out _)))
      refine wpQuiet_nil ?_
      rintro _ ⟨k2, rfl⟩
      go_upto_region 10 with fail
      obtain ⟨hP, hO⟩ := (HP4.out.ext k2.ok).set 4 (max a4 (cntF st 5))
      have hE : Ext w0 (k2.world.setCell ⟨pb, 4, none⟩ (.int .i64 (max a4 (cntF st 5)))) := (Ext.next HE4.out k2.ok).only hO fun z hz => by rw [hz]; exact Hpb.out
      have hT := two_only (HT4.out.ext k2.ok) hO (fun e => own_apart HT4.out.own1 HP4.out.blk (by decide) (by rw [e]; rfl)) (fun e => own_apart HT4.out.own2 HP4.out.blk (by decide) (by rw [e]; rfl))
      have hZ := (hO.block pr (blk_lt (ext_blk k2.ok HZ4.out)) Hne.out).trans (ext_blk k2.ok HZ4.out)
      generalize k2.world.setCell ⟨pb, 4, none⟩ (.int .i64 (max a4 (cntF st 5))) = wr5 at hP hO hE hT hZ ⊢
      have HP5 := Lib.hid hP
      have HE5 := Lib.hid hE
      have HT5 := Lib.hid hT
      have HZ5 := Lib.hid hZ
      clear hP hO hE hT hZ cl4 f4 Hc4 HP4 HT4 HZ4 HE4 k2 kc4
      have HP6 : Hid (PObj wr5 pb (pkTo s u sh (i + 1))) := by rw [Hpk2.out]; exact HP5.out
      clear HP5 Hpk2
      obtain ⟨r0, r1, r2, r3⟩ := Lat.run (ext_blk HE5.out HR.out)
      obtain ⟨k5, hk5⟩ := lat_self wr5
      rw [hk5]
      have Hk5 := Lib.hid hk5
      clear hk5
      by_cases hlt : i < n3
      · have hne : ((i : Int) == (n3 : Int)) = false := beq_eq_false_iff_ne.2 (by omega)
        obtain ⟨ba, off, x, hAx, hb, hx, x0, x1, x2, x3, x4⟩ := Sh.at_ (H30.out.ext HE5.out) hlt
        have z1 : (i : Int) < (n3 : Int) := by omega
        have z0 : (0 : Int) ≤ (i : Int) := by omega
        have hxs := Hsl.out x (List.mem_of_getElem? hx.out)
        obtain ⟨jj, hjj⟩ : ∃ jj : Nat, x.sl = (jj : Int) := ⟨x.sl.toNat, by omega⟩
        have hjs : jj < s := by omega
        have Hjj := Lib.hid hjj
        clear hxs hjj
        subst hAx
        go_wp2_with fail
        refine (refPut_any w0.heap.size g1 q1 g2 q2 s _ _ x jj Hjj.out hjs _ (HT5.out.ext k5.ok)).mono ?_
        rintro e w6 ⟨rfl, hT6, o6⟩
        have HT6 : Hid (Two w6 w0.heap.size g1 q1 g2 q2 s (afterS (beginS s u) (sh.take (i + 1))) (afterH (List.replicate s (-1)) (sh.take (i + 1)))) := by
          rw [List.take_add_one, hx.out, Option.toList_some, afterS_snoc, afterH_snoc, Hst.out, Hho.out]
          exact hT6
        have HP7 := Lib.hid ((HP6.out.ext k5.ok).only o6 fun e => by
          rcases e with e | e
          · exact own_apart HT5.out.own1 HP6.out.blk (by decide) (by rw [e]; rfl)
          · exact own_apart HT5.out.own2 HP6.out.blk (by decide) (by rw [e]; rfl))
        have HZ7 := Lib.hid ((o6.block pr (blk_lt (ext_blk k5.ok HZ5.out)) fun e => by
          rcases e with e | e
          · exact own_apart HT5.out.own1 HZ5.out (by decide) (by rw [e]; rfl)
          · exact own_apart HT5.out.own2 HZ5.out (by decide) (by rw [e]; rfl)).trans (ext_blk k5.ok HZ5.out))
        have HE7 : Hid (Ext w0 w6) := (Ext.next HE5.out k5.ok).only o6 fun q hq => by
          rcases hq with rfl | rfl
          · exact (HT5.out.own1.lt q rfl).1
          · exact (HT5.out.own2.lt q rfl).1
        clear hT6 o6
        go_wp2_with fail
        go_roundw
        case rel => exact ⟨i + 1, by omega, by go_num, HT6, HP7, HZ7, HE7⟩
        case measure => simp [intOf]; omega
      · obtain rfl : n3 = i := by omega
        have hne : ((n3 : Int) == (n3 : Int)) = true := by simp
        obtain ⟨b0, b1', b2', b3', b4, hform⟩ := pkTo_form s u sh (n3 + 1)
        have HD2 : Hid (res = ((pkTo s u sh (n3 + 1)).set 5 gp).set 6 (maxL (cs.map (stepsD tr)))) := by
          show _ = _
          rw [HD.out, H30.out.1]
        rw [hform] at HP6 HD2
        clear hform HD
        go_wp2_with fail
        refine (Hgap.out _ (H10.out.ext (Ext.next HE5.out k5.ok)) (H20.out.ext (Ext.next HE5.out k5.ok))).mono ?_
        rintro e w6 ⟨rfl, e6⟩
        obtain ⟨k6, rfl⟩ := lat_next k5 e6
        have f5 : ∀ c : Lat wr5, c.world.frozen? ⟨pb, 5, none⟩ = false := HP6.out.free 5
        have c5 : ∀ c : Lat wr5, c.world.cell? ⟨pb, 5, none⟩ = some (.int .i64 0) := HP6.out.num rfl
        clear e6 Hgap
        go_upto_region 13 with fail
        obtain ⟨hP, hO⟩ := (HP6.out.ext k6.ok).set 5 gp
        have hE : Ext w0 (k6.world.setCell ⟨pb, 5, none⟩ (.int .i64 gp)) := (Ext.next HE5.out k6.ok).only hO fun z hz => by rw [hz]; exact Hpb.out
        have hZ := (hO.block pr (blk_lt (ext_blk k6.ok HZ5.out)) Hne.out).trans (ext_blk k6.ok HZ5.out)
        generalize k6.world.setCell ⟨pb, 5, none⟩ (.int .i64 gp) = wg at hP hO hE hZ ⊢
        have HP7 : Hid (PObj wg pb [b0, b1', b2', b3', b4, gp, maxL ((cs.take 0).map (stepsD tr))]) := hP
        have HZ7 := Lib.hid hZ
        have HE7 := Lib.hid hE
        clear hP hO hE hZ HP6 HT5 HZ5 f5 c5 r0 r1 r2 r3 Hk5 k6 k5 hne hlt HE5
        obtain ⟨kg, hkg⟩ := lat_self wg
        rw [hkg]
        go_upto_region 14 with fail
        rw [← hkg]
        clear hkg kg
        go_loopw [11] (fun s11 wr => ∃ (i : Nat), i ≤ n1 ∧ s11 = .int .i64 i ∧ Hid (PObj wr pb [b0, b1', b2', b3', b4, gp, maxL ((cs.take i).map (stepsD tr))]) ∧ Hid (wr.heap[pr]? = some (.cells #[.int .i64 0, .int .i64 0, .int .i64 0, .int .i64 0, .int .i64 0, .int .i64 0, .int .i64 0] 80 (0, 0))) ∧ Hid (Ext w0 wr)) (fun s_ _ => n1 - (intOf s_).toNat)
        case atStart => exact ⟨0, Nat.zero_le _, rfl, HP7, HZ7, HE7⟩
        case round =>
          clear HP7 HZ7 HE7
          obtain ⟨i, hi1, rfl, HPr, HZr, HEr⟩ := hrel
          obtain ⟨r0, r1, r2, r3⟩ := Lat.run (ext_blk HEr.out HR.out)
          obtain ⟨kr, hkr⟩ := lat_self wr
          by_cases hlt : i < n1
          · obtain ⟨bc, oc, y, hAy, hbc, hy, y0, y1, y2, y3, y4, y5, y6, y7, y8⟩ := Cl.at_ (H10.out.ext HEr.out) hlt
            have z1 : (i : Int) < (n1 : Int) := by omega
            have z0 : (0 : Int) ≤ (i : Int) := by omega
            have Hm : Hid (maxL ((cs.take (i + 1)).map (stepsD tr)) = max (maxL ((cs.take i).map (stepsD tr))) (stepsD tr y)) := by
              show _ = _
              rw [List.take_add_one, hy.out, List.map_append, Option.toList_some, List.map_cons, List.map_nil, maxL_snoc, mxF_max]
            generalize maxL ((cs.take i).map (stepsD tr)) = m at *
            have Hc : Hid (∀ c : Lat wr, Calls Try.prog 134 #[.agg #[.slice A1 n1 c1, .slice A2 n2 c2, .slice A3 n3 c3, .slice A4 n4 c4], .agg #[.int .i64 y.th, .int .i64 y.op, .int .i64 y.arg, .int .i64 y.dat, .int .i64 y.bg, .int .i64 y.en, .int .i64 y.pt, .int .i64 y.ak, .int .i64 y.av]] c.world fun e w' => e = .returned (.int .i64 (stepsD tr y)) ∧ Ext c.world w') := fun c => Hstp.out y c.world (H20.out.ext (Ext.next HEr.out c.ok))
            generalize stepsD tr y = sd at *
            have c6 : ∀ c : Lat wr, c.world.cell? ⟨pb, 6, none⟩ = some (.int .i64 m) := HPr.out.num rfl
            have f6 : ∀ c : Lat wr, c.world.frozen? ⟨pb, 6, none⟩ = false := HPr.out.free 6
            subst hAy
            rw [hkr]
            clear hkr
            go_upto_region 16 with fail
            refine wp_region_cls_tail (Ext wr) 11 (Ext.drew1 kr.ok) (by kernel_rfl) (by kernel_rfl) ?_
            simp only [List.take_succ_cons, List.take_zero, List.drop_succ_cons, List.drop_zero]
            repeat (go_big_quiet_step (with_reducible exact calls_cls (keeps_ext _) (Hc.out _)))
            refine wpQuiet_nil ?_
            rintro _ ⟨k2, rfl⟩
            go_upto_region 15 with fail
            obtain ⟨hP, hO⟩ := (HPr.out.ext k2.ok).set 6 (max m sd)
            have hE : Ext w0 (k2.world.setCell ⟨pb, 6, none⟩ (.int .i64 (max m sd))) := (Ext.next HEr.out k2.ok).only hO fun z hz => by rw [hz]; exact Hpb.out
            have hZ := (hO.block pr (blk_lt (ext_blk k2.ok HZr.out)) Hne.out).trans (ext_blk k2.ok HZr.out)
            generalize k2.world.setCell ⟨pb, 6, none⟩ (.int .i64 (max m sd)) = wn at hP hO hE hZ ⊢
            have HPn : Hid (PObj wn pb [b0, b1', b2', b3', b4, gp, maxL ((cs.take (i + 1)).map (stepsD tr))]) := by rw [Hm.out]; exact hP
            have HZn := Lib.hid hZ
            have HEn := Lib.hid hE
            clear hP hO hE hZ
            go_wp2_with fail
            go_roundw
            case rel => exact ⟨i + 1, by omega, by go_num, HPn, HZn, HEn⟩
            case measure => simp [intOf]; omega
          · obtain rfl : n1 = i := by omega
            have HD3 : Hid (res = [b0, b1', b2', b3', b4, gp, maxL ((cs.take n1).map (stepsD tr))]) := by
              show _ = _
              rw [HD2.out, List.take_of_length_le (by rw [H10.out.1]; exact Nat.le_refl _)]
              rfl
            generalize maxL ((cs.take n1).map (stepsD tr)) = m at *
            have v0 : ∀ c : Lat wr, c.world.cell? ⟨pb, 0, none⟩ = some (.int .i64 b0) := HPr.out.num rfl
            have v1 : ∀ c : Lat wr, c.world.cell? ⟨pb, 1, none⟩ = some (.int .i64 b1') := HPr.out.num rfl
            have v2 : ∀ c : Lat wr, c.world.cell? ⟨pb, 2, none⟩ = some (.int .i64 b2') := HPr.out.num rfl
            have v3 : ∀ c : Lat wr, c.world.cell? ⟨pb, 3, none⟩ = some (.int .i64 b3') := HPr.out.num rfl
            have v4 : ∀ c : Lat wr, c.world.cell? ⟨pb, 4, none⟩ = some (.int .i64 b4) := HPr.out.num rfl
            have v5 : ∀ c : Lat wr, c.world.cell? ⟨pb, 5, none⟩ = some (.int .i64 gp) := HPr.out.num rfl
            have v6 : ∀ c : Lat wr, c.world.cell? ⟨pb, 6, none⟩ = some (.int .i64 m) := HPr.out.num rfl
            rw [hkr]
            clear hkr
            have hPk := ext_blk kr.ok HZr.out
            go_wp2_with (show wpList _ _ _ ({ dst := _, op := Op.store 80 (Operand.tmp 6) (Operand.tmp 84), type := _, pos := _, after := _, guard := _ } :: _) _ _; refine wpList_store_row rfl _ _ _ rfl pr #[.int .i64 b0, .int .i64 b1', .int .i64 b2', .int .i64 b3', .int .i64 b4, .int .i64 gp, .int .i64 m] (by kernel_rfl) (by kernel_rfl) _ _ hPk (by kernel_rfl) (by kernel_rfl) (by kernel_rfl) ?_)
            refine bodyPost_ret (results_cell_one rfl _ _ pr rfl _ (run_loadVar_row _ _ _ _ _ _ _ (setRow_heap _ _ _ _ _ _ hPk) Try.underlying80 rfl (by kernel_rfl))) rfl ?_
            exact ⟨by rw [HD3.out]; rfl, Ext.next HE.out (Ext.row (Ext.next HEr.out kr.ok) Hpr.out _)⟩

/-! ## The watch's greatest numbers -/
def pkRun : List Int → List Int → List Sh → List Int
  | _, P, [] => P
  | st, P, x :: xs => pkRun (putS x st) (pkF P (putS x st)) xs
theorem pkRun_append : ∀ (xs ys : List Sh) (st P : List Int), pkRun st P (xs ++ ys) = pkRun (afterS st xs) (pkRun st P xs) ys
  | [], _, _, _ => rfl
  | x :: xs, ys, st, P => pkRun_append xs ys (putS x st) (pkF P (putS x st))
theorem changes_P (mv : Int) : ∀ (xs : List Sh) (s : CS), (changesF mv s xs).st = afterS s.st xs ∧ (changesF mv s xs).P = pkRun s.st s.P xs
  | [], _ => ⟨rfl, rfl⟩
  | x :: xs, s => changes_P mv xs (stepC mv s x)
theorem moment_P (R H S Bk fi : Int) (tr : List Ac) (s : CS) (m : Mo) : (momentF R H S Bk fi tr s m).st = afterS s.st m.sh ∧ (momentF R H S Bk fi tr s m).P = pkRun s.st s.P m.sh := changes_P m.mv m.sh _
theorem watch_P (R H S Bk fi : Int) (tr : List Ac) : ∀ (l : List Mo) (s : CS), (l.foldl (momentF R H S Bk fi tr) s).P = pkRun s.st s.P (l.flatMap Mo.sh)
  | [], _ => rfl
  | m :: l, s => by
    rw [List.foldl_cons, watch_P R H S Bk fi tr l, List.flatMap_cons, pkRun_append, (moment_P R H S Bk fi tr s m).1, (moment_P R H S Bk fi tr s m).2]
theorem pkTo_run (s u : Nat) (sh : List Sh) : ∀ i, i ≤ sh.length → pkTo s u sh (i + 1) = pkRun (beginS s u) (pkF P0 (beginS s u)) (sh.take i)
  | 0, _ => rfl
  | i + 1, h => by
    have hx : sh[i]? = some sh[i] := List.getElem?_eq_getElem (by omega)
    have e : pkTo s u sh (i + 1 + 1) = pkF (pkTo s u sh (i + 1)) (afterS (beginS s u) (sh.take (i + 1))) := rfl
    rw [e, pkTo_run s u sh i (by omega), List.take_add_one, hx, Option.toList_some, pkRun_append, afterS_snoc]
    rfl
theorem watch_peaks {R H S Bk fi : Int} {n u m : Nat} {tr : List Ac} {sh : List Sh} {l : List Mo} (h : MInv tr sh tr.length sh.length l) : (watchF R H S Bk fi n u m tr l).P = pkTo n u sh (sh.length + 1) := by
  have e : l.flatMap Mo.sh = sh := by
    have := h.shs
    rwa [List.take_of_length_le (Nat.le_refl _)] at this
  unfold watchF
  rw [watch_P, e, pkTo_run n u sh sh.length (Nat.le_refl _), List.take_of_length_le (Nat.le_refl _)]
  rfl

/-! ## A thread's calls -/
theorem follows_at {T : Int} {cs : List Cl} (h : CallsOK T cs) {i j : Nat} {x y : Cl} (hij : i < j) (hx : cs[i]? = some x) (hy : cs[j]? = some y) (ht : x.th = y.th) : Follows x y := by
  have hox := callsOK_mem h (List.mem_of_getElem? hx)
  have hp := List.pairwise_filter.1 (rows_follow h x.th.toNat)
  have hi := (List.getElem?_eq_some_iff.1 hx)
  have hj := (List.getElem?_eq_some_iff.1 hy)
  have h0 : 0 ≤ x.th := by unfold OkCall at hox; omega
  have := List.pairwise_iff_getElem.1 hp i j hi.1 hj.1 hij
  rw [hi.2, hj.2] at this
  exact this (decide_eq_true (by omega)) (decide_eq_true (by omega))
theorem lastTo_eq {cs : List Cl} {h : Nat} {x : Cl} {t : Int} (hx : cs[h]? = some x) (ht : x.th = t) : ∀ K, h < K → (∀ (k : Nat) (y : Cl), h < k → k < K → cs[k]? = some y → y.th ≠ t) → lastTo cs K t = some (h : Int)
  | 0, hk, _ => absurd hk (Nat.not_lt_zero _)
  | K + 1, hk, hno => by
    by_cases he : h = K
    · subst he
      rw [lastTo_succ hx]
      exact if_pos ht.symm
    · have ih := lastTo_eq hx ht K (by omega) fun k y h1 h2 => hno k y h1 (by omega)
      cases hy : cs[K]? with
      | none =>
        unfold lastTo
        rw [hy]
        exact ih
      | some y =>
        rw [lastTo_succ hy]
        show (if t = y.th then some (K : Int) else lastTo cs K t) = _
        rw [if_neg fun e => hno K y (by omega) (by omega) hy e.symm]
        exact ih
theorem hold_of {cs : List Cl} {t m : Int} (h : placeB cs t m = true) : ∃ (i : Nat) (x : Cl), cs[i]? = some x ∧ x.th = t ∧ Cl.holds m x = true := by
  unfold placeB at h
  simp only [Bool.and_eq_true] at h
  obtain ⟨x, hx, hh⟩ := List.any_eq_true.1 h.1.2
  obtain ⟨i, hi⟩ := List.getElem?_of_mem hx
  simp at hh
  exact ⟨i, x, hi, hh.1, hh.2⟩
theorem holds_iff (m : Int) (x : Cl) : Cl.holds m x = true ↔ x.bg < m ∧ (x.en < 0 ∨ m ≤ x.en) := by
  unfold Cl.holds
  simp
theorem follow_no {T : Int} {m : Int} {x y : Cl} (hx : OkCall T x) (h : Follows x y) (h1 : Cl.holds m x = true) (h2 : y.bg < m) : False := by
  have h3 := (holds_iff m x).1 h1
  unfold Follows at h
  unfold OkCall at hx
  omega
theorem last_is {T : Int} {cs : List Cl} (hC : CallsOK T cs) {K : Nat} {t m : Int} (hK : ∀ (k : Nat) (x : Cl), cs[k]? = some x → (k < K ↔ x.bg < m)) (hp : placeB cs t m = true) {i : Nat} {c : Cl} (hc : cs[i]? = some c) :
    (lastTo cs K t).getD 0 = (i : Int) ↔ t = c.th ∧ Cl.holds m c = true := by
  obtain ⟨h, x, hx, hxt, hxh⟩ := hold_of hp
  have hox := callsOK_mem hC (List.mem_of_getElem? hx)
  have hoc := callsOK_mem hC (List.mem_of_getElem? hc)
  have hlast : lastTo cs K t = some (h : Int) := lastTo_eq hx hxt K ((hK h x hx).2 ((holds_iff m x).1 hxh).1) fun k y h1 h2 hy e =>
    follow_no hox (follows_at hC h1 hx hy (by omega)) hxh ((hK k y hy).1 h2)
  rw [hlast]
  show (h : Int) = (i : Int) ↔ _
  constructor
  · intro e
    have e2 : h = i := by omega
    rw [e2, hc] at hx
    rw [Option.some.inj hx]
    exact ⟨hxt.symm, hxh⟩
  · rintro ⟨h1, h2⟩
    rcases Nat.lt_trichotomy h i with h3 | h3 | h3
    · exact (follow_no hox (follows_at hC h3 hx hc (by omega)) hxh ((holds_iff m c).1 h2).1).elim
    · omega
    · exact (follow_no hoc (follows_at hC h3 hc hx (by omega)) h2 ((holds_iff m x).1 hxh).1).elim
theorem adv_spec {T : Int} {cs : List Cl} (hA : CallsA T (-1) cs) {m : Int} : ∀ (n a : Nat), cs.length - a = n → (∀ (k : Nat) (x : Cl), k < a → cs[k]? = some x → x.bg < m) → ∀ (k : Nat) (x : Cl), cs[k]? = some x → (k < advTo cs a m ↔ x.bg < m) := by
  intro n
  induction n with
  | zero =>
    intro a hn hb k x hx
    have hk := (List.getElem?_eq_some_iff.1 hx).1
    rw [advTo_end (by omega)]
    exact ⟨fun h => hb k x h hx, fun _ => by omega⟩
  | succ n ih =>
    intro a hn hb k x hx
    obtain ⟨y, hy⟩ : ∃ y, cs[a]? = some y := ⟨_, List.getElem?_eq_getElem (by omega)⟩
    by_cases h : y.bg < m
    · rw [advTo_more hy h]
      refine ih (a + 1) (by omega) (fun k x hk hx => ?_) k x hx
      by_cases e : k = a
      · subst e
        rw [hy] at hx
        rw [← Option.some.inj hx]
        exact h
      · exact hb k x (by omega) hx
    · rw [advTo_stop hy h]
      refine ⟨fun hk => hb k x hk hx, fun hk => ?_⟩
      rcases Nat.lt_trichotomy k a with h1 | h1 | h1
      · exact h1
      · subst h1
        rw [hy] at hx
        rw [← Option.some.inj hx] at hk
        exact absurd hk h
      · have := callsA_rise hA a k y x hy hx h1
        omega

/-! ## What runs leaves -/
def cntA (c : Cl) (tr : List Ac) : Int := (tr.filter fun a => decide (a.th = c.th ∧ Cl.holds a.mv c = true)).length
theorem bump_getD (S : List Int) (i j : Nat) (hj : j < S.length) : (bump S j).getD i 0 = if i = j then S.getD i 0 + 1 else S.getD i 0 := by
  unfold bump
  simp only [List.getD_eq_getElem?_getD, List.getElem?_set]
  by_cases h : j = i
  · subst h
    simp [hj]
  · rw [if_neg h, if_neg fun e => h e.symm]
theorem run_law {T : Int} {cs : List Cl} (hC : CallsOK T cs) : ∀ (tr : List Ac) (q : RN), tr.Pairwise (fun a b => a.mv < b.mv) → (∀ a ∈ tr, placeB cs a.th a.mv = true) → q.S.length = cs.length → q.at_ ≤ cs.length →
    (∀ a ∈ tr, ∀ (k : Nat) (x : Cl), k < q.at_ → cs[k]? = some x → x.bg < a.mv) →
    (∀ (i : Nat) (c : Cl), cs[i]? = some c → (tr.foldl (stepR cs) q).S.getD i 0 = q.S.getD i 0 + cntA c tr) ∧
    (∀ k, (tr.foldl (stepR cs) q).E k = if k ∈ tr.map Ac.mv then none else q.E k) ∧
    (tr.foldl (stepR cs) q).M = q.M ++ (tr.filter fun a => !(q.E a.mv).isSome).map Ac.mv
  | [], q, _, _, _, _, _ => ⟨fun i c _ => by show _ = _ + ((0 : Nat) : Int); simp, fun k => by simp, by simp⟩
  | a :: tr, q, hr, hp, hl, ha, hb => by
    obtain ⟨hr1, hr2⟩ := List.pairwise_cons.1 hr
    have hadv := adv_spec hC.1 (m := a.mv) _ q.at_ rfl fun k x hk hx => hb a List.mem_cons_self k x hk hx
    have ih := run_law hC tr (stepR cs q a) hr2 (fun b hb' => hp b (List.mem_cons_of_mem _ hb')) ((bump_len _ _).trans hl) (advTo_le ha) (fun b hb' k x hk hx => by
      have h1 := (hadv k x hx).1 hk
      have h2 := hr1 b hb'
      omega)
    obtain ⟨i1, i2, i3⟩ := ih
    refine ⟨fun i c hc => ?_, fun k => ?_, ?_⟩
    · rw [List.foldl_cons, i1 i c hc]
      have hn : 0 < cs.length := by have := (List.getElem?_eq_some_iff.1 hc).1; omega
      obtain ⟨j, hj, hjn⟩ := lastTo_ix (cs := cs) (k := advTo cs q.at_ a.mv) (t := a.th) rfl hn
      have e : (stepR cs q a).S.getD i 0 = if i = j then q.S.getD i 0 + 1 else q.S.getD i 0 := by
        show (bump q.S ((lastTo cs (advTo cs q.at_ a.mv) a.th).getD 0).toNat).getD i 0 = _
        rw [hj, Int.toNat_natCast]
        exact bump_getD _ _ _ (by rw [hl]; exact hjn)
      have hiff := last_is hC hadv (hp a List.mem_cons_self) hc
      rw [hj] at hiff
      have e2 : cntA c (a :: tr) = if i = j then cntA c tr + 1 else cntA c tr := by
        unfold cntA
        rw [List.filter_cons]
        by_cases h : i = j
        · rw [if_pos h, if_pos (decide_eq_true (hiff.1 (by omega))), List.length_cons]
          omega
        · rw [if_neg h, if_neg fun h2 => h (by have := hiff.2 (of_decide_eq_true h2); omega)]
      rw [e, e2]
      split <;> omega
    · rw [List.foldl_cons, i2 k]
      show (if k ∈ tr.map Ac.mv then none else (if (q.E a.mv).isSome then (fun k => if k = a.mv then none else q.E k) else q.E) k) = _
      rw [List.map_cons]
      by_cases h1 : k ∈ tr.map Ac.mv
      · rw [if_pos h1, if_pos (List.mem_cons_of_mem _ h1)]
      · rw [if_neg h1]
        by_cases h2 : k = a.mv
        · subst h2
          rw [if_pos List.mem_cons_self]
          split
          · exact if_pos rfl
          · rename_i h3
            cases hE : q.E a.mv with
            | none => rfl
            | some v => rw [hE] at h3; exact absurd rfl h3
        · have hR : ¬ k ∈ a.mv :: tr.map Ac.mv := fun h3 => by
            rcases List.mem_cons.1 h3 with h3 | h3
            · exact h2 h3
            · exact h1 h3
          rw [if_neg hR]
          split
          · exact if_neg h2
          · rfl
    · rw [List.foldl_cons, i3]
      have hE : ∀ b ∈ tr, (stepR cs q a).E b.mv = q.E b.mv := fun b hb' => by
        have hne : b.mv ≠ a.mv := by have := hr1 b hb'; omega
        show (if (q.E a.mv).isSome then (fun k => if k = a.mv then none else q.E k) else q.E) b.mv = _
        split
        · exact if_neg hne
        · rfl
      have hf : (tr.filter fun b => !((stepR cs q a).E b.mv).isSome) = tr.filter fun b => !(q.E b.mv).isSome := List.filter_congr fun b hb' => by rw [hE b hb']
      rw [hf]
      show (if (q.E a.mv).isSome then q.M else q.M ++ [a.mv]) ++ _ = _
      rw [List.filter_cons]
      by_cases h : (q.E a.mv).isSome = true
      · rw [if_pos h, if_neg (by simp [h])]
      · rw [if_neg h, if_pos (by simpa using h), List.map_cons, List.append_assoc]
        rfl

/-! ## The steps -/
theorem ends_self {cs : List Cl} (hE : EndsOK cs) {i : Nat} {c : Cl} (hc : cs[i]? = some c) (h0 : 0 ≤ c.en) : ∀ n, i < n → n ≤ cs.length → endsTo cs n c.en = some (i : Int)
  | 0, h, _ => absurd h (Nat.not_lt_zero _)
  | n + 1, h, hn => by
    obtain ⟨x, hx⟩ : ∃ x, cs[n]? = some x := ⟨_, List.getElem?_eq_getElem (by omega)⟩
    rw [endsTo_succ hx]
    show (if x.en ≠ -1 ∧ c.en = x.en then some (n : Int) else endsTo cs n c.en) = _
    by_cases he : i = n
    · subst he
      rw [hc] at hx
      rw [← Option.some.inj hx, if_pos ⟨by omega, rfl⟩]
    · rw [if_neg fun h1 => hE.2 i n c x hc hx he h0 h1.2]
      exact ends_self hE hc h0 n (by omega) (by omega)
theorem stepsN_cnt (c : Cl) (tr : List Ac) : (stepsN c tr).1 = cntA c tr := by
  have key : ∀ (tr : List Ac) (q : Int × Int), (tr.foldl (stepN c) q).1 = q.1 + cntA c tr := by
    intro tr
    induction tr with
    | nil => intro q; show _ = _ + ((0 : Nat) : Int); simp
    | cons a tr ih =>
      intro q
      rw [List.foldl_cons, ih]
      unfold cntA stepN
      rw [List.filter_cons]
      by_cases h : a.th = c.th ∧ Cl.holds a.mv c = true
      · rw [if_pos h, if_pos (decide_eq_true h), List.length_cons]
        show q.1 + 1 + _ = _
        omega
      · rw [if_neg h, if_neg fun h2 => h (of_decide_eq_true h2)]
  unfold stepsN
  rw [key]
  show 0 + _ = _
  omega
theorem stepsN_last (c : Cl) : ∀ (tr : List Ac) (q : Int × Int), (tr.foldl (stepN c) q).2 = q.2 ∨ ∃ a ∈ tr, a.mv = (tr.foldl (stepN c) q).2
  | [], _ => .inl rfl
  | a :: tr, q => by
    rw [List.foldl_cons]
    rcases stepsN_last c tr (stepN c q a) with h | ⟨b, hb, h⟩
    · rw [h]
      unfold stepN
      split
      · exact .inr ⟨a, List.mem_cons_self, rfl⟩
      · exact .inl rfl
    · exact .inr ⟨b, List.mem_cons_of_mem _ hb, h⟩
theorem stepsN_skip (c : Cl) : ∀ (tr : List Ac) (q : Int × Int), (∀ a ∈ tr, ¬ (a.th = c.th ∧ Cl.holds a.mv c = true)) → tr.foldl (stepN c) q = q
  | [], _, _ => rfl
  | a :: tr, q, h => by
    rw [List.foldl_cons, show stepN c q a = q from if_neg (h a List.mem_cons_self)]
    exact stepsN_skip c tr q fun b hb => h b (List.mem_cons_of_mem _ hb)
theorem ender_self {T : Int} {cs : List Cl} (hC : CallsOK T cs) {c : Cl} (hc : c ∈ cs) (h0 : 0 ≤ c.en) : enderF cs c.en = c.th := by
  unfold enderF
  cases hf : cs.find? (Cl.ends c.en) with
  | none =>
    have := List.find?_eq_none.1 hf c hc
    exact absurd (by unfold Cl.ends; exact decide_eq_true rfl) this
  | some x =>
    have hx := List.mem_of_find?_eq_some hf
    have he := List.find?_some hf
    have he2 : x.en = c.en := of_decide_eq_true he
    obtain ⟨i, hi⟩ := List.getElem?_of_mem hx
    obtain ⟨j, hj⟩ := List.getElem?_of_mem hc
    by_cases hij : i = j
    · subst hij
      rw [hi] at hj
      show x.th = c.th
      rw [Option.some.inj hj]
    · exact absurd he2 (hC.2.2.2 i j x c hi hj hij (by omega))
theorem ended_at {T : Int} {cs : List Cl} (hC : CallsOK T cs) {tr : List Ac} (hr : tr.Pairwise (fun a b => a.mv < b.mv)) (hp : ∀ a ∈ tr, placeB cs a.th a.mv = true) {c : Cl} (hc : c ∈ cs) (h0 : 0 ≤ c.en) :
    c.en ∈ tr.map Ac.mv ↔ (stepsN c tr).2 = c.en := by
  constructor
  · intro h
    obtain ⟨a, ha, hm⟩ := List.mem_map.1 h
    have hpl := hp a ha
    unfold placeB at hpl
    simp only [Bool.and_eq_true] at hpl
    have hoc := callsOK_mem hC hc
    unfold OkCall at hoc
    have hth : a.th = c.th := by
      have h1 := hpl.2
      rw [hm, ender_self hC hc h0] at h1
      rcases Bool.or_eq_true_iff.1 h1 with h2 | h2
      · have := of_decide_eq_true h2
        omega
      · exact (of_decide_eq_true h2).symm
    obtain ⟨pre, post, hsp⟩ := List.append_of_mem ha
    rw [hsp] at hr ⊢
    have hpost := (List.pairwise_cons.1 (List.pairwise_append.1 hr).2.1).1
    unfold stepsN
    rw [List.foldl_append, List.foldl_cons, stepsN_skip c post _ fun b hb h2 => by
      have h3 := hpost b hb
      have h4 := (holds_iff b.mv c).1 h2.2
      omega]
    unfold stepN
    rw [if_pos ⟨hth, (holds_iff a.mv c).2 ⟨by omega, by omega⟩⟩]
    exact hm
  · intro h
    rcases stepsN_last c tr (0, -1) with h1 | ⟨a, ha, h1⟩
    · have : (stepsN c tr).2 = -1 := h1
      omega
    · exact List.mem_map.2 ⟨a, ha, h1.trans h⟩
theorem rise_pair {tr : List Ac} (h : RiseA tr) : tr.Pairwise (fun a b => a.mv < b.mv) := by
  refine List.pairwise_iff_getElem.2 fun i j hi hj hij => h i j _ _ hij (List.getElem?_eq_getElem hi) (List.getElem?_eq_getElem hj)
/-- The steps of every call, both ways. -/
theorem steps_law {T : Int} {cs : List Cl} {tr : List Ac} (hC : CallsOK T cs) (hr : RiseA tr) (hp : ∀ a ∈ tr, placeB cs a.th a.mv = true) :
    withE (runR cs tr).E (fun _ => False) (runR cs tr).S = cs.map (stepsD tr) := by
  have hpr := rise_pair hr
  obtain ⟨l1, l2, _⟩ := run_law hC tr (startR cs) hpr hp (startR_facts cs).2.1 (Nat.zero_le _) fun a _ k x hk => absurd hk (Nat.not_lt_zero _)
  have hlen : (runR cs tr).S.length = cs.length := (run_facts cs tr (startR cs) 0 (startR_facts cs).1 (startR_facts cs).2.1 (startR_facts cs).2.2.1 (startR_facts cs).2.2.2).2.1
  apply List.ext_getElem?
  intro i
  by_cases hi : i < cs.length
  · obtain ⟨c, hc⟩ : ∃ c, cs[i]? = some c := ⟨_, List.getElem?_eq_getElem hi⟩
    have hcm := List.mem_of_getElem? hc
    have hoc := callsOK_mem hC hcm
    rw [withE_at (by rw [hlen]; exact hi), List.getElem?_map, hc]
    show some _ = some _
    congr 1
    have e1 : (runR cs tr).S.getD i 0 = cntA c tr := by
      have h := l1 i c hc
      have h0 : (startR cs).S.getD i 0 = 0 := by
        show (List.replicate cs.length (0 : Int)).getD i 0 = 0
        rw [List.getD_eq_getElem?_getD, List.getElem?_replicate, if_pos hi]
        rfl
      rw [h0] at h
      show (tr.foldl (stepR cs) (startR cs)).S.getD i 0 = _
      omega
    have e2 : cntE (runR cs tr).E (fun _ => False) i = if 0 ≤ c.en ∧ (stepsN c tr).2 ≠ c.en then 1 else 0 := by
      have hiff : (∃ k, (runR cs tr).E k = some (i : Int) ∧ ¬ False) ↔ (0 ≤ c.en ∧ (stepsN c tr).2 ≠ c.en) := by
        constructor
        · rintro ⟨k, hk, _⟩
          have hk' : (tr.foldl (stepR cs) (startR cs)).E k = some (i : Int) := hk
          rw [l2 k] at hk'
          split at hk'
          · cases hk'
          · rename_i hnk
            obtain ⟨j, x, e3, _, hx, hxe, hk1⟩ := endsTo_lt _ _ _ hk'
            have e4 : i = j := by omega
            rw [← e4, hc] at hx
            have e5 : c.en = k := by rw [Option.some.inj hx]; exact hxe
            have h0 : 0 ≤ c.en := by unfold OkCall at hoc; omega
            refine ⟨h0, fun h => hnk ?_⟩
            rw [← e5]
            exact (ended_at hC hpr hp hcm h0).2 h
        · rintro ⟨h0, h1⟩
          refine ⟨c.en, ?_, id⟩
          show (tr.foldl (stepR cs) (startR cs)).E c.en = _
          rw [l2, if_neg fun h => h1 ((ended_at hC hpr hp hcm h0).1 h)]
          exact ends_self hC.2.2 hc h0 cs.length hi (Nat.le_refl _)
      unfold cntE
      by_cases h : 0 ≤ c.en ∧ (stepsN c tr).2 ≠ c.en
      · rw [if_pos h, if_pos (hiff.2 h)]
      · rw [if_neg h, if_neg fun h2 => h (hiff.1 h2)]
    rw [e1, e2]
    unfold stepsD
    rw [stepsN_cnt]
  · rw [List.getElem?_eq_none (by rw [withE_len, hlen]; omega), List.getElem?_eq_none (by rw [List.length_map]; omega)]

/-! ## The gap's steps -/
theorem sortL_mem (M : List Int) (y : Int) : y ∈ sortL M ↔ y ∈ M := List.mem_mergeSort
theorem sortL_up {M : List Int} (h : M.Nodup) : (sortL M).Pairwise (· < ·) := by
  have h1 : (sortL M).Pairwise (fun x y => decide (x ≤ y) = true) := List.pairwise_mergeSort (fun a b c h1 h2 => by
    have := of_decide_eq_true h1
    have := of_decide_eq_true h2
    exact decide_eq_true (by omega)) (fun a b => by
    by_cases h : a ≤ b
    · simp [h]
    · have : b ≤ a := by omega
      simp [this]) M
  have h2 : (sortL M).Nodup := (List.mergeSort_perm M _).nodup_iff.2 h
  refine (h1.and h2).imp fun {a b} hab => ?_
  have := of_decide_eq_true hab.1
  have := hab.2
  omega
theorem moves_law {T : Int} {cs : List Cl} {tr : List Ac} (hC : CallsOK T cs) (hr : RiseA tr) (hp : ∀ a ∈ tr, placeB cs a.th a.mv = true) :
    (sortL (runR cs tr).M).Pairwise (· < ·) ∧ (∀ y ∈ sortL (runR cs tr).M, 0 ≤ y) ∧ (∀ y, 0 ≤ y → (y ∈ sortL (runR cs tr).M ↔ (y ∈ tr.map Ac.mv ∨ y ∈ cs.map Cl.en))) ∧ (sortL (runR cs tr).M).length ≤ cs.length + tr.length := by
  have hpr := rise_pair hr
  obtain ⟨_, _, l3⟩ := run_law hC tr (startR cs) hpr hp (startR_facts cs).2.1 (Nat.zero_le _) fun a _ k x hk => absurd hk (Nat.not_lt_zero _)
  have hM : (runR cs tr).M = (cs.filter fun x => decide (x.en ≠ -1)).map Cl.en ++ (tr.filter fun a => !(endsTo cs cs.length a.mv).isSome).map Ac.mv := by
    have e : (startR cs).M = (cs.filter fun x => decide (x.en ≠ -1)).map Cl.en := by
      show movesTo cs cs.length = _
      unfold movesTo
      rw [List.take_of_length_le (Nat.le_refl _)]
    rw [← e]
    exact l3
  have hen : ∀ c ∈ cs, c.en ≠ -1 → 0 ≤ c.en := fun c hc h => by
    have := callsOK_mem hC hc
    unfold OkCall at this
    omega
  have hsome : ∀ c ∈ cs, c.en ≠ -1 → (endsTo cs cs.length c.en).isSome = true := fun c hc h => by
    obtain ⟨i, hi⟩ := List.getElem?_of_mem hc
    rw [ends_self hC.2.2 hi (hen c hc h) cs.length (List.getElem?_eq_some_iff.1 hi).1 (Nat.le_refl _)]
    rfl
  have hnd1 : ((cs.filter fun x => decide (x.en ≠ -1)).map Cl.en).Nodup := by
    refine List.pairwise_map.2 (List.pairwise_filter.2 (List.pairwise_iff_getElem.2 fun i j hi hj hij h1 h2 e => ?_))
    have h1 := of_decide_eq_true h1
    exact hC.2.2.2 i j _ _ (List.getElem?_eq_getElem hi) (List.getElem?_eq_getElem hj) (by omega) (hen _ (List.getElem_mem hi) h1) e
  have hnd2 : ((tr.filter fun a => !(endsTo cs cs.length a.mv).isSome).map Ac.mv).Nodup := by
    refine List.pairwise_map.2 ((hpr.filter _).imp fun {a b} h e => ?_)
    omega
  have hmem : ∀ y, y ∈ (runR cs tr).M ↔ ((∃ c ∈ cs, c.en ≠ -1 ∧ c.en = y) ∨ (∃ a ∈ tr, (endsTo cs cs.length a.mv).isSome = false ∧ a.mv = y)) := fun y => by
    rw [hM]
    simp only [List.mem_append, List.mem_map, List.mem_filter, decide_eq_true_eq, Bool.not_eq_true']
    constructor
    · rintro (⟨c, ⟨h1, h2⟩, h3⟩ | ⟨a, ⟨h1, h2⟩, h3⟩)
      · exact .inl ⟨c, h1, h2, h3⟩
      · exact .inr ⟨a, h1, h2, h3⟩
    · rintro (⟨c, h1, h2, h3⟩ | ⟨a, h1, h2, h3⟩)
      · exact .inl ⟨c, ⟨h1, h2⟩, h3⟩
      · exact .inr ⟨a, ⟨h1, h2⟩, h3⟩
  have hnd : (runR cs tr).M.Nodup := by
    rw [hM]
    refine List.nodup_append.2 ⟨hnd1, hnd2, fun y h1 z h2 e => ?_⟩
    obtain ⟨c, hc, rfl⟩ := List.mem_map.1 h1
    obtain ⟨a, ha, rfl⟩ := List.mem_map.1 h2
    have hc2 := List.mem_filter.1 hc
    have ha2 := List.mem_filter.1 ha
    have h3 := hsome c hc2.1 (of_decide_eq_true hc2.2)
    rw [e] at h3
    have h4 := ha2.2
    rw [h3] at h4
    cases h4
  refine ⟨sortL_up hnd, fun y hy => ?_, fun y hy => ?_, ?_⟩
  · rcases (hmem y).1 ((sortL_mem _ _).1 hy) with ⟨c, hc, h1, rfl⟩ | ⟨a, ha, _, rfl⟩
    · exact hen c hc h1
    · have := place_pos hC.1 (hp a ha)
      omega
  · rw [sortL_mem, hmem]
    constructor
    · rintro (⟨c, hc, _, h⟩ | ⟨a, ha, _, h⟩)
      · exact .inr (List.mem_map.2 ⟨c, hc, h⟩)
      · exact .inl (List.mem_map.2 ⟨a, ha, h⟩)
    · rintro (h | h)
      · obtain ⟨a, ha, rfl⟩ := List.mem_map.1 h
        cases hs : (endsTo cs cs.length a.mv).isSome with
        | false => exact .inr ⟨a, ha, hs, rfl⟩
        | true =>
          obtain ⟨v, hv⟩ := Option.isSome_iff_exists.1 hs
          obtain ⟨j, x, _, _, hx, hxe, hk⟩ := endsTo_lt _ _ _ hv
          exact .inl ⟨x, List.mem_of_getElem? hx, by rw [hxe]; exact hk, hxe⟩
      · obtain ⟨c, hc, rfl⟩ := List.mem_map.1 h
        exact .inl ⟨c, hc, by omega, rfl⟩
  · rw [sortL_len, hM, List.length_append, List.length_map, List.length_map]
    have h1 := List.length_filter_le (fun x : Cl => decide (x.en ≠ -1)) cs
    have h2 := List.length_filter_le (fun a : Ac => !(endsTo cs cs.length a.mv).isSome) tr
    omega

end Go.Proofs.Ytfbacopjookplaa
