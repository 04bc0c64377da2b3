/- The plain law: what the watch has been told behind all moments is what the document tells. No program in sight. -/
import Derived.Test.YtfbacopjookplaaChanges
import Derived.Test.YtfbacopjookplaaMomW
import Derived.Test.YtfbacopjookplaaStatesW
namespace Go.Proofs.Ytfbacopjookplaa
open Go.RowKit

def P0 : List Int := [0, 0, 0, 0, 0, 0, 0]
def C0 : List Int := [0, 0, 0, 0, 0, 0]
/-- What the watch has been told in a moment, behind so many monitors. -/
def stageF (R H S Bk fi : Int) (s : CS) (mv : Int) (sh : List Sh) (oa : Option Ac) : Nat → CS
  | 0 => s
  | 1 => ⟨s.st, s.ho, s.hd, s.fl ++ oa.elim [] fun a => touchF R H S Bk s.st s.ho (afterS s.st sh) (afterH s.ho sh) mv a, s.P, s.C⟩
  | 2 => ⟨s.st, s.ho, oa.elim s.hd fun a => namesF fi S s.st s.hd a, s.fl ++ oa.elim [] fun a => touchF R H S Bk s.st s.ho (afterS s.st sh) (afterH s.ho sh) mv a, s.P, s.C⟩
  | _ => changesF mv ⟨s.st, s.ho, oa.elim s.hd fun a => namesF fi S s.st s.hd a, s.fl ++ oa.elim [] fun a => touchF R H S Bk s.st s.ho (afterS s.st sh) (afterH s.ho sh) mv a, s.P, s.C⟩ sh
def momentF (R H S Bk fi : Int) (tr : List Ac) (s : CS) (m : Mo) : CS := stageF R H S Bk fi s m.mv m.sh (m.ac.bind fun k => tr[k]?) 3
theorem touchG_len (sl : Int) (st ho st2 ho2 : List Int) (mv th : Int) : (touchG sl st ho st2 ho2 mv th).length ≤ 1 := by
  unfold touchG
  repeat' split
  all_goals simp
theorem stepC_facts {mv : Int} {s : CS} {x : Sh} (h : ∀ y ∈ s.st, 0 ≤ y ∧ y ≤ 5) (h0 : 0 ≤ x.to) (h1 : x.to ≤ 5) : (stepC mv s x).hd.length = s.hd.length ∧ (∀ y ∈ (stepC mv s x).st, 0 ≤ y ∧ y ≤ 5) ∧ (stepC mv s x).fl.length ≤ s.fl.length + 2 := by
  refine ⟨?_, bd_putS h h0 h1, ?_⟩
  · show (chH s.hd x).length = _
    unfold chH
    split
    · rw [List.length_map]
    · rfl
  · show (chF2 mv s.hd x (chF1 mv s.ho x s.fl)).length ≤ _
    unfold chF2 chF1
    repeat' split
    all_goals simp
theorem changesF_facts {mv : Int} : ∀ (xs : List Sh) (s : CS), (∀ y ∈ s.st, 0 ≤ y ∧ y ≤ 5) → (∀ x ∈ xs, 0 ≤ x.to ∧ x.to ≤ 5) → (changesF mv s xs).hd.length = s.hd.length ∧ (∀ y ∈ (changesF mv s xs).st, 0 ≤ y ∧ y ≤ 5) ∧ (changesF mv s xs).fl.length ≤ s.fl.length + 2 * xs.length
  | [], s, h, _ => ⟨rfl, h, Nat.le_refl _⟩
  | x :: xs, s, h, hx => by
    obtain ⟨a1, a2, a3⟩ := stepC_facts (mv := mv) h (hx x List.mem_cons_self).1 (hx x List.mem_cons_self).2
    obtain ⟨b1, b2, b3⟩ := changesF_facts (mv := mv) xs (stepC mv s x) a2 fun y hy => hx y (List.mem_cons_of_mem _ hy)
    exact ⟨b1.trans a1, b2, by show (changesF mv (stepC mv s x) xs).fl.length ≤ _; rw [List.length_cons]; omega⟩
theorem namesF_len (fi S : Int) (st : List Int) (hd : List (Int × Bool)) (a : Ac) : (namesF fi S st hd a).length = hd.length := by
  unfold namesF
  split
  · rw [List.length_set]
  · rfl
theorem stage_len (R H S Bk fi : Int) (s : CS) (mv : Int) (sh : List Sh) (oa : Option Ac) : (stageF R H S Bk fi s mv sh oa 1).fl.length ≤ s.fl.length + 1 ∧ (stageF R H S Bk fi s mv sh oa 2).hd.length = s.hd.length := by
  cases oa with
  | none => exact ⟨by show (s.fl ++ []).length ≤ _; simp, rfl⟩
  | some a =>
    refine ⟨?_, namesF_len _ _ _ _ _⟩
    show (s.fl ++ touchF R H S Bk s.st s.ho (afterS s.st sh) (afterH s.ho sh) mv a).length ≤ _
    have := touchG_len (slotF R H S Bk a.ad) s.st s.ho (afterS s.st sh) (afterH s.ho sh) mv a.th
    unfold touchF
    rw [List.length_append]
    omega
theorem moment_facts {R H S Bk fi : Int} {tr : List Ac} {s : CS} {m : Mo} (h : ∀ y ∈ s.st, 0 ≤ y ∧ y ≤ 5) (hx : ∀ x ∈ m.sh, 0 ≤ x.to ∧ x.to ≤ 5) : (momentF R H S Bk fi tr s m).hd.length = s.hd.length ∧ (∀ y ∈ (momentF R H S Bk fi tr s m).st, 0 ≤ y ∧ y ≤ 5) ∧ (momentF R H S Bk fi tr s m).fl.length ≤ s.fl.length + 1 + 2 * m.sh.length := by
  obtain ⟨l1, l2⟩ := stage_len R H S Bk fi s m.mv m.sh (m.ac.bind fun k => tr[k]?)
  have key : ∀ oa : Option Ac, (stageF R H S Bk fi s m.mv m.sh oa 2).st = s.st ∧ (stageF R H S Bk fi s m.mv m.sh oa 2).fl = (stageF R H S Bk fi s m.mv m.sh oa 1).fl := fun oa => ⟨rfl, rfl⟩
  obtain ⟨k1, k2⟩ := key (m.ac.bind fun k => tr[k]?)
  obtain ⟨b1, b2, b3⟩ := changesF_facts (mv := m.mv) m.sh (stageF R H S Bk fi s m.mv m.sh (m.ac.bind fun k => tr[k]?) 2) (by rw [k1]; exact h) hx
  rw [k2] at b3
  exact ⟨b1.trans l2, b2, Nat.le_trans b3 (by omega)⟩
theorem touches_none (b : Nat) (m : Int) (A : Option Addr) (ns cs : Nat) (w : World) :
    Calls Try.prog 116 #[.pointer (some ⟨b, 0, none⟩), .agg #[.int .i64 m, .pointer none, .slice A ns cs]] w fun e w' => e = .returned (.tuple #[]) ∧ Ext w w' := by
  go_enter Try.func116, Try.ntmps116
  go_wp2_with fail
  exact bodyPost_ret (v := .tuple #[]) (results_none rfl _ _ _) rfl ⟨rfl, (Ext.rfl' w).alloc1 _⟩
theorem names_none (b : Nat) (m : Int) (A : Option Addr) (ns cs : Nat) (w : World) :
    Calls Try.prog 117 #[.pointer (some ⟨b, 0, none⟩), .agg #[.int .i64 m, .pointer none, .slice A ns cs]] w fun e w' => e = .returned (.tuple #[]) ∧ Ext w w' := by
  go_enter Try.func117, Try.ntmps117
  go_upto_region 2 with fail
  obtain ⟨w0, hw0, hX, hE, _⟩ := enter1 w (.cells #[.int .i64 m, .pointer none, .slice A ns cs] 189)
  rw [hw0]
  have HE := Lib.hid hE
  obtain ⟨k, hk⟩ := lat_self w0
  rw [hk]
  clear hw0 hX hE hk
  refine wp_region_cls (Ext w0) (Ext.drew1 k.ok) (by kernel_rfl) (by kernel_rfl) ?_
  repeat (go_big_quiet_step (fail))
  refine wpQuiet_nil ?_
  rintro _ ⟨k1, rfl⟩
  go_wp2_with fail
  exact bodyPost_ret (v := .tuple #[]) (results_none rfl _ _ _) rfl ⟨rfl, Ext.next HE.out k1.ok⟩
/-- What the watch has been told ahead of all moments. -/
def startF (n u m : Nat) : CS := ⟨beginS n u, List.replicate n (-1), List.replicate m (-1, false), [], pkF P0 (beginS n u), cntsF (beginS n u)⟩
def watchF (R H S Bk fi : Int) (n u m : Nat) (tr : List Ac) (l : List Mo) : CS := l.foldl (momentF R H S Bk fi tr) (startF n u m)
theorem replicate_flat (m : Nat) : ((List.replicate m ((-1 : Int), false)).flatMap encH) ++ [Value.int .i64 (-1), .bool false] = (List.replicate (m + 1) ((-1 : Int), false)).flatMap encH := by
  rw [List.replicate_succ', List.flatMap_append]
  rfl

theorem bd_beginS (n u : Nat) : ∀ y ∈ beginS n u, 0 ≤ y ∧ y ≤ 5 := by
  intro y hy
  unfold beginS at hy
  obtain ⟨i, _, rfl⟩ := List.mem_map.1 hy
  split <;> omega

def leastF (move least m : Int) : Int := if move < m ∧ (least < 0 ∨ m < least) then m else least
/-- The least move above one that has an access or a shift. -/
def nextF (tr : List Ac) (sh : List Sh) (move : Int) : Int := sh.foldl (fun l x => leastF move l x.mv) (tr.foldl (fun l a => leastF move l a.mv) (-1))
def linkStep (sl fr : Int) (q : Int × Bool) (x : Sh) : Int × Bool := (if x.sl = sl then x.to else q.1, q.2 || (decide (fr ≤ x.mv) && decide (q.1 = 3)))
/-- Whether a slot was Linked at some time from a move on. -/
def linkedF (st0 sl fr : Int) (xs : List Sh) : Bool := (xs.foldl (linkStep sl fr) (st0, false)).2 || decide ((xs.foldl (linkStep sl fr) (st0, false)).1 = 3)
def wroteStep (ad mv sl : Int) (q : Int × Bool) (a : Ac) : Int × Bool := if a.mv ≤ mv ∧ a.ad = ad ∧ (a.kd = 2 ∨ (a.kd = 3 ∧ a.sw = a.od)) then (a.mv, decide (a.nw = sl + 1)) else q
def wroteF (ad mv sl : Int) (tr : List Ac) : Int × Bool := tr.foldl (wroteStep ad mv sl) (-1, false)
def holdsR (fi : Int) (n u : Nat) (tr : List Ac) (X : List Sh) (mv sl : Int) (h : Nat) : Bool := (wroteF (fi + h) mv sl tr).2 && linkedF ((beginS n u).getD sl.toNat 0) sl (wroteF (fi + h) mv sl tr).1 X
/-- Whether some hazard word holds a slot, made in a move, ahead of a shift. -/
def heldR (fi : Int) (m n u : Nat) (tr : List Ac) (X : List Sh) (mv sl : Int) : Bool := (List.range m).any (holdsR fi n u tr X mv sl)
structure RS where
  st : List Int
  ho : List Int
  fl : List Fl
  pre : List Sh
def chR2 (mv : Int) (held : Bool) (x : Sh) (fl : List Fl) : List Fl := if (x.fr = 5 ∧ x.to ≤ 1) ∧ held = true then fl ++ [⟨4, mv, x.sl⟩] else fl
/-- A shift of the document's second loop. -/
def shiftR (Hd : List Sh → Int → Int → Bool) (mv : Int) (q : RS) (x : Sh) : RS :=
  if x.mv = mv then ⟨putS x q.st, putH x q.ho, chR2 mv (Hd q.pre x.mv x.sl) x (chF1 mv q.ho x q.fl), q.pre ++ [x]⟩ else ⟨q.st, q.ho, q.fl, q.pre ++ [x]⟩
def uptoM (sh : List Sh) (m : Int) : List Sh := sh.filter (fun x => decide (x.mv ≤ m))
theorem upto_snoc {sh : List Sh} {m : Int} {i : Nat} {x : Sh} (hx : sh[i]? = some x) : uptoM (sh.take (i + 1)) m = if x.mv ≤ m then uptoM (sh.take i) m ++ [x] else uptoM (sh.take i) m := by
  unfold uptoM
  rw [List.take_add_one, hx, List.filter_append]
  by_cases h : x.mv ≤ m <;> simp [h]
def oneT (R H S Bk : Int) (st ho st2 ho2 : List Int) (mv : Int) (a : Ac) : List Fl := if a.mv = mv then touchF R H S Bk st ho st2 ho2 mv a else []
def rTouch (R H S Bk : Int) (st ho st2 ho2 : List Int) (mv : Int) (tr : List Ac) : List Fl := tr.flatMap (oneT R H S Bk st ho st2 ho2 mv)
/-- What the document tells of a move. -/
def rMoment (R H S Bk fi : Int) (n u m : Nat) (tr : List Ac) (sh : List Sh) (fl : List Fl) (mv : Int) : List Fl :=
  (sh.foldl (shiftR (heldR fi m n u tr) mv) ⟨afterS (beginS n u) (belowM sh mv), afterH (List.replicate n (-1)) (belowM sh mv),
    fl ++ rTouch R H S Bk (afterS (beginS n u) (belowM sh mv)) (afterH (List.replicate n (-1)) (belowM sh mv)) (afterS (beginS n u) (uptoM sh mv)) (afterH (List.replicate n (-1)) (uptoM sh mv)) mv tr, []⟩).fl
theorem shiftR_pre (Hd : List Sh → Int → Int → Bool) (mv : Int) : ∀ (xs : List Sh) (q : RS), (xs.foldl (shiftR Hd mv) q).pre = q.pre ++ xs
  | [], q => by simp
  | x :: xs, q => by
    rw [List.foldl_cons, shiftR_pre Hd mv xs]
    unfold shiftR
    split <;> simp
/-- The least move above one, with no move below nought. -/
theorem nextF_neg {move : Int} : ∀ (ms : List Int) (l : Int), (∀ m ∈ ms, ¬ move < m) → ms.foldl (leastF move) l = l
  | [], _, _ => rfl
  | m :: ms, l, h => by
    rw [List.foldl_cons, show leastF move l m = l from if_neg fun hh => h m List.mem_cons_self hh.1]
    exact nextF_neg ms l fun y hy => h y (List.mem_cons_of_mem _ hy)
theorem least_keep {move v : Int} (h0 : move < v) (hv : 0 ≤ v) : ∀ (ms : List Int), (∀ m ∈ ms, move < m → v ≤ m) → ms.foldl (leastF move) v = v
  | [], _ => rfl
  | m :: ms, h => by
    have : leastF move v m = v := by
      refine if_neg fun hh => ?_
      have := h m List.mem_cons_self hh.1
      omega
    rw [List.foldl_cons, this]
    exact least_keep h0 hv ms fun y hy => h y (List.mem_cons_of_mem _ hy)
theorem least_find {move v : Int} (h0 : move < v) (hv : 0 ≤ v) (hm : -1 ≤ move) : ∀ (ms : List Int) (l : Int), (∀ m ∈ ms, move < m → v ≤ m) → (l < 0 ∨ v ≤ l) → (v ∈ ms ∨ l = v) → ms.foldl (leastF move) l = v
  | [], l, _, _, h3 => by
    rcases h3 with h3 | h3
    · simp at h3
    · exact h3
  | m :: ms, l, h1, h2, h3 => by
    rw [List.foldl_cons]
    have hm1 := h1 m List.mem_cons_self
    have h1' : ∀ y ∈ ms, move < y → v ≤ y := fun y hy => h1 y (List.mem_cons_of_mem _ hy)
    by_cases hlv : l = v
    · subst hlv
      have : leastF move l m = l := by
        refine if_neg fun hh => ?_
        have := hm1 hh.1
        omega
      rw [this]
      exact least_keep h0 hv ms h1'
    · by_cases hmv : m = v
      · subst hmv
        have : leastF move l m = m := if_pos ⟨h0, by omega⟩
        rw [this]
        exact least_keep h0 hv ms h1'
      · refine least_find h0 hv hm ms _ h1' ?_ ?_
        · unfold leastF
          split
          · rename_i hh
            exact .inr (hm1 hh.1)
          · exact h2
        · refine .inl ?_
          rcases h3 with h3 | h3
          · rcases List.mem_cons.1 h3 with h3 | h3
            · exact absurd h3.symm hmv
            · exact h3
          · exact absurd h3 hlv
theorem nextF_join (tr : List Ac) (sh : List Sh) (move : Int) : nextF tr sh move = (tr.map Ac.mv ++ sh.map Sh.mv).foldl (leastF move) (-1) := by
  unfold nextF
  rw [List.foldl_append, List.foldl_map, List.foldl_map]

/-- The access of a moment. -/
def acO (tr : List Ac) (m : Mo) : Option Ac := m.ac.bind fun k => tr[k]?
theorem range_all (tr : List Ac) : ∀ i, (List.range i).filterMap (fun k => tr[k]?) = tr.take i
  | 0 => rfl
  | i + 1 => by
    rw [List.range_succ, List.filterMap_append, range_all tr i, List.take_add_one]
    congr 1
structure Cov (tr : List Ac) (sh : List Sh) (l : List Mo) : Prop where
  tr_ : tr = l.filterMap (acO tr)
  sh_ : sh = l.flatMap Mo.sh
  at_ : ∀ m ∈ l, ∀ a, acO tr m = some a → a.mv = m.mv
  st_ : ∀ m ∈ l, ∀ x ∈ m.sh, x.mv = m.mv
  up : l.Pairwise (fun a b => a.mv < b.mv)
  full : ∀ m ∈ l, acO tr m ≠ none ∨ m.sh ≠ []
theorem Cov.of {tr : List Ac} {sh : List Sh} {l : List Mo} (h : MInv tr sh tr.length sh.length l) : Cov tr sh l := by
  refine ⟨?_, ?_, ?_, h.shat, h.rise, ?_⟩
  · have h1 := range_all tr tr.length
    rw [List.take_of_length_le (Nat.le_refl _), ← h.accs, List.filterMap_filterMap] at h1
    exact h1.symm
  · have := h.shs
    rw [List.take_of_length_le (Nat.le_refl _)] at this
    exact this.symm
  · intro m hm a ha
    unfold acO at ha
    cases hk : m.ac with
    | none => rw [hk] at ha; cases ha
    | some k =>
      obtain ⟨a', h1, h2⟩ := h.acat m hm k hk
      rw [hk] at ha
      have : tr[k]? = some a := ha
      rw [h1] at this
      injection this with this
      rw [← this]
      exact h2
  · intro m hm
    rcases h.full m hm with h1 | h1
    · refine .inl ?_
      cases hk : m.ac with
      | none => exact absurd hk h1
      | some k =>
        obtain ⟨a', h1, h2⟩ := h.acat m hm k hk
        unfold acO
        rw [hk]
        show tr[k]? ≠ none
        rw [h1]
        simp
    · exact .inr h1
/-- The moves at a cut of the moments. -/
theorem Cov.cut {tr : List Ac} {sh : List Sh} {l1 l2 : List Mo} {m : Mo} (h : Cov tr sh (l1 ++ m :: l2)) :
    tr = l1.filterMap (acO tr) ++ ((acO tr m).toList ++ l2.filterMap (acO tr)) ∧ sh = l1.flatMap Mo.sh ++ (m.sh ++ l2.flatMap Mo.sh) ∧
      (∀ a ∈ l1.filterMap (acO tr), a.mv < m.mv) ∧ (∀ a ∈ l2.filterMap (acO tr), m.mv < a.mv) ∧ (∀ x ∈ l1.flatMap Mo.sh, x.mv < m.mv) ∧ (∀ x ∈ l2.flatMap Mo.sh, m.mv < x.mv) ∧
      (∀ x ∈ m.sh, x.mv = m.mv) ∧ (∀ a, acO tr m = some a → a.mv = m.mv) := by
  have hp := List.pairwise_append.1 h.up
  have hp1 : ∀ y ∈ l1, y.mv < m.mv := fun y hy => hp.2.2 y hy m List.mem_cons_self
  have hp2 : ∀ y ∈ l2, m.mv < y.mv := fun y hy => (List.pairwise_cons.1 hp.2.1).1 y hy
  refine ⟨?_, ?_, ?_, ?_, ?_, ?_, ?_, ?_⟩
  · refine h.tr_.trans ?_
    rw [List.filterMap_append]
    congr 1
    cases ho : acO tr m <;> simp [ho]
  · refine h.sh_.trans ?_
    rw [List.flatMap_append, List.flatMap_cons]
  · intro a ha
    obtain ⟨y, hy, hya⟩ := List.mem_filterMap.1 ha
    rw [h.at_ y (List.mem_append_left _ hy) a hya]
    exact hp1 y hy
  · intro a ha
    obtain ⟨y, hy, hya⟩ := List.mem_filterMap.1 ha
    rw [h.at_ y (List.mem_append_right _ (List.mem_cons_of_mem _ hy)) a hya]
    exact hp2 y hy
  · intro a ha
    obtain ⟨y, hy, hya⟩ := List.mem_flatMap.1 ha
    rw [h.st_ y (List.mem_append_left _ hy) a hya]
    exact hp1 y hy
  · intro a ha
    obtain ⟨y, hy, hya⟩ := List.mem_flatMap.1 ha
    rw [h.st_ y (List.mem_append_right _ (List.mem_cons_of_mem _ hy)) a hya]
    exact hp2 y hy
  · exact fun x hx => h.st_ m (List.mem_append_right _ List.mem_cons_self) x hx
  · exact fun a ha => h.at_ m (List.mem_append_right _ List.mem_cons_self) a ha

/-- The last write of a hazard word. -/
def wr (ad : Int) (q : Option Ac) (a : Ac) : Option Ac := if a.ad = ad ∧ (a.kd = 2 ∨ (a.kd = 3 ∧ a.sw = a.od)) then some a else q
def lastW (ad : Int) (tr : List Ac) : Option Ac := tr.foldl (wr ad) none
theorem lastW_mem {ad : Int} : ∀ (tr : List Ac) (q : Option Ac) (a : Ac), tr.foldl (wr ad) q = some a → a ∈ tr ∨ q = some a
  | [], q, a, h => .inr h
  | y :: tr, q, a, h => by
    rcases lastW_mem tr (wr ad q y) a h with h1 | h1
    · exact .inl (List.mem_cons_of_mem _ h1)
    · unfold wr at h1
      split at h1
      · injection h1 with h1
        exact .inl (h1 ▸ List.mem_cons_self)
      · exact .inr h1
def toW (sl : Int) (q : Option Ac) : Int × Bool := q.elim (-1, false) fun a => (a.mv, decide (a.nw = sl + 1))
theorem wrote_last {ad mv sl : Int} : ∀ (tr : List Ac) (q : Option Ac), (∀ a ∈ tr, a.mv ≤ mv) → tr.foldl (wroteStep ad mv sl) (toW sl q) = toW sl (tr.foldl (wr ad) q)
  | [], q, _ => rfl
  | a :: tr, q, h => by
    have e : wroteStep ad mv sl (toW sl q) a = toW sl (wr ad q a) := by
      have h1 := h a List.mem_cons_self
      unfold wroteStep wr
      by_cases hc : a.ad = ad ∧ (a.kd = 2 ∨ (a.kd = 3 ∧ a.sw = a.od))
      · rw [if_pos ⟨h1, hc⟩, if_pos hc]
        rfl
      · rw [if_neg fun hh => hc hh.2, if_neg hc]
    rw [List.foldl_cons, List.foldl_cons, e]
    exact wrote_last tr _ fun y hy => h y (List.mem_cons_of_mem _ hy)
theorem wrote_skip {ad mv sl : Int} : ∀ (tr : List Ac) (q : Int × Bool), (∀ a ∈ tr, mv < a.mv) → tr.foldl (wroteStep ad mv sl) q = q
  | [], q, _ => rfl
  | a :: tr, q, h => by
    have h1 := h a List.mem_cons_self
    rw [List.foldl_cons, show wroteStep ad mv sl q a = q from if_neg (by omega)]
    exact wrote_skip tr _ fun y hy => h y (List.mem_cons_of_mem _ hy)
theorem wroteF_cut {ad mv sl : Int} {A A2 : List Ac} (h : ∀ a ∈ A, a.mv ≤ mv) (h2 : ∀ a ∈ A2, mv < a.mv) : wroteF ad mv sl (A ++ A2) = toW sl (lastW ad A) := by
  unfold wroteF lastW
  rw [List.foldl_append, wrote_skip A2 _ h2]
  exact wrote_last A none h

/-- What a hazard word names, told by the accesses and the shifts so far. -/
def holdR (fi S : Int) (n u : Nat) (A : List Ac) (X : List Sh) (h : Nat) : Int × Bool :=
  (lastW (fi + h) A).elim (-1, false) fun a => if 1 ≤ a.nw ∧ a.nw ≤ S then (a.nw - 1, linkedF ((beginS n u).getD (a.nw - 1).toNat 0) (a.nw - 1) a.mv X) else (-1, false)
theorem state_at {sl : Int} {n : Nat} (h0 : 0 ≤ sl) (h1 : sl < n) (fr : Int) : ∀ (X : List Sh) (st : List Int) (b : Bool), st.length = n → (∀ x ∈ X, 0 ≤ x.sl ∧ x.sl < n) → (X.foldl (linkStep sl fr) (st.getD sl.toNat 0, b)).1 = (afterS st X).getD sl.toNat 0
  | [], st, b, _, _ => rfl
  | x :: X, st, b, hl, hx => by
    have e : (linkStep sl fr (st.getD sl.toNat 0, b) x) = ((putS x st).getD sl.toNat 0, b || (decide (fr ≤ x.mv) && decide (st.getD sl.toNat 0 = 3))) := by
      unfold linkStep putS
      congr 1
      obtain ⟨a0, a1⟩ := hx x List.mem_cons_self
      rw [List.getD_eq_getElem?_getD, List.getD_eq_getElem?_getD, List.getElem?_set]
      by_cases hs : x.sl = sl
      · rw [if_pos hs, if_pos (by rw [hs]), if_pos (by omega)]
        rfl
      · rw [if_neg hs, if_neg (by omega)]
    rw [List.foldl_cons, e]
    exact state_at h0 h1 fr X (putS x st) _ (by rw [lens_putS]; exact hl) fun y hy => hx y (List.mem_cons_of_mem _ hy)
theorem seen_not {sl fr : Int} : ∀ (X : List Sh) (q : Int), (∀ x ∈ X, x.mv < fr) → (X.foldl (linkStep sl fr) (q, false)).2 = false
  | [], q, _ => rfl
  | x :: X, q, h => by
    have h1 := h x List.mem_cons_self
    have e : linkStep sl fr (q, false) x = (if x.sl = sl then x.to else q, false) := by
      unfold linkStep
      rw [decide_eq_false (by omega : ¬ fr ≤ x.mv)]
      rfl
    rw [List.foldl_cons, e]
    exact seen_not X _ fun y hy => h y (List.mem_cons_of_mem _ hy)
theorem linkedF_new {sl fr : Int} {n u : Nat} (h0 : 0 ≤ sl) (h1 : sl < n) {X : List Sh} (hX : ∀ x ∈ X, x.mv < fr) (hx : ∀ x ∈ X, 0 ≤ x.sl ∧ x.sl < n) :
    linkedF ((beginS n u).getD sl.toNat 0) sl fr X = decide ((afterS (beginS n u) X).getD sl.toNat 0 = 3) := by
  unfold linkedF
  rw [seen_not X _ hX, state_at h0 h1 fr X _ _ (beginS_len n u) hx]
  rfl
theorem linkedF_snoc {st0 sl fr : Int} {X : List Sh} {x : Sh} (h : fr ≤ x.mv) : linkedF st0 sl fr (X ++ [x]) = (linkedF st0 sl fr X || (decide (x.to = 3) && decide (sl = x.sl))) := by
  unfold linkedF
  rw [List.foldl_append]
  generalize X.foldl (linkStep sl fr) (st0, false) = q
  show ((linkStep sl fr q x).2 || decide ((linkStep sl fr q x).1 = 3)) = _
  unfold linkStep
  rw [decide_eq_true h]
  by_cases hs : x.sl = sl
  · subst hs
    cases q.2 <;> by_cases h3 : q.1 = 3 <;> by_cases h4 : x.to = 3 <;> simp [h3, h4]
  · have hs' : ¬ sl = x.sl := fun e => hs e.symm
    cases q.2 <;> by_cases h3 : q.1 = 3 <;> by_cases h4 : x.to = 3 <;> simp [h3, hs, hs']
/-- A shift's mark on a hold. -/
theorem holdR_shift {fi S : Int} {n u : Nat} {A : List Ac} {X : List Sh} {x : Sh} (h0 : 0 ≤ x.sl) (hA : ∀ a ∈ A, a.mv ≤ x.mv) (h : Nat) :
    holdR fi S n u A (X ++ [x]) h = if x.to = 3 then linkH x.sl (holdR fi S n u A X h) else holdR fi S n u A X h := by
  unfold holdR
  cases hl : lastW (fi + h) A with
  | none =>
    show (-1, false) = _
    split
    · show ((-1 : Int), false) = ((-1 : Int), (false || decide ((-1 : Int) = x.sl)))
      rw [decide_eq_false (by omega)]
      rfl
    · rfl
  | some a =>
    have ha : a.mv ≤ x.mv := by
      rcases lastW_mem A none a hl with h1 | h1
      · exact hA a h1
      · cases h1
    show (if 1 ≤ a.nw ∧ a.nw ≤ S then (a.nw - 1, linkedF _ (a.nw - 1) a.mv (X ++ [x])) else (-1, false)) = _
    simp only [Option.elim_some]
    by_cases hn : 1 ≤ a.nw ∧ a.nw ≤ S
    · rw [if_pos hn, if_pos hn, linkedF_snoc ha]
      split
      · rename_i h3
        unfold linkH
        simp [h3]
      · rename_i h3
        simp [h3]
    · rw [if_neg hn, if_neg hn]
      split
      · unfold linkH
        show ((-1 : Int), false) = ((-1 : Int), (false || decide ((-1 : Int) = x.sl)))
        rw [decide_eq_false (by omega)]
        rfl
      · rfl
theorem set_range {α : Type} (f g : Nat → α) {m j : Nat} {v : α} (hj : g j = v) (hg : ∀ i, i ≠ j → g i = f i) : ((List.range m).map f).set j v = (List.range m).map g := by
  apply List.ext_getElem?
  intro i
  rw [List.getElem?_set, List.getElem?_map, List.getElem?_map]
  by_cases hi : j = i
  · subst hi
    rw [if_pos rfl, List.length_map, List.length_range]
    by_cases hm : j < m
    · rw [if_pos hm, List.getElem?_range hm]
      show some v = some (g j)
      rw [hj]
    · rw [if_neg hm, List.getElem?_eq_none (by simp; omega)]
      rfl
  · rw [if_neg hi]
    by_cases hm : i < m
    · rw [List.getElem?_range hm]
      show some (f i) = some (g i)
      rw [hg i fun e => hi e.symm]
    · rw [List.getElem?_eq_none (by simp; omega)]
      rfl
/-- An access's mark on the holds. -/
theorem holdR_names {fi S : Int} {n u m : Nat} {A : List Ac} {X : List Sh} {a : Ac} (hn : S = n) (hX : ∀ x ∈ X, x.mv < a.mv) (hx : ∀ x ∈ X, 0 ≤ x.sl ∧ x.sl < n) (hk : a.kd = 1 ∨ a.kd = 2 ∨ a.kd = 3) :
    namesF fi S (afterS (beginS n u) X) ((List.range m).map (holdR fi S n u A X)) a = (List.range m).map (holdR fi S n u (A ++ [a]) X) := by
  have hlast : ∀ h : Nat, lastW (fi + h) (A ++ [a]) = wr (fi + h) (lastW (fi + h) A) a := fun h => by simp [lastW]
  unfold namesF
  rw [List.length_map, List.length_range]
  by_cases hw : writesH fi m a
  · rw [if_pos hw]
    unfold writesH at hw
    obtain ⟨w1, w2, w3, w4⟩ := hw
    have heff : a.kd = 2 ∨ (a.kd = 3 ∧ a.sw = a.od) := by
      rcases hk with h | h | h
      · exact absurd h w3
      · exact .inl h
      · exact .inr ⟨h, Decidable.byContradiction fun hh => w4 ⟨h, hh⟩⟩
    refine set_range _ _ ?_ ?_
    · show holdR fi S n u (A ++ [a]) X (a.ad - fi).toNat = _
      unfold holdR
      rw [hlast, show wr (fi + ((a.ad - fi).toNat : Int)) (lastW (fi + ((a.ad - fi).toNat : Int)) A) a = some a from if_pos ⟨by omega, heff⟩]
      show (if 1 ≤ a.nw ∧ a.nw ≤ S then _ else _) = _
      unfold holdOf
      by_cases hr : 1 ≤ a.nw ∧ a.nw ≤ S
      · rw [if_pos hr, if_pos hr, linkedF_new (by omega) (by omega) hX hx]
      · rw [if_neg hr, if_neg hr]
    · intro i hi
      unfold holdR
      rw [hlast, show wr (fi + (i : Int)) (lastW (fi + (i : Int)) A) a = lastW (fi + (i : Int)) A from if_neg (by omega)]
  · rw [if_neg hw]
    refine List.map_congr_left fun i hi => ?_
    have hi := List.mem_range.1 hi
    unfold holdR
    rw [hlast, show wr (fi + (i : Int)) (lastW (fi + (i : Int)) A) a = lastW (fi + (i : Int)) A from if_neg fun hh => hw ⟨by omega, by omega, by omega, by omega⟩]
/-- Whether the slot is held, both ways. -/
theorem heldF_R {fi S : Int} {n u m : Nat} {A A2 : List Ac} {X : List Sh} {mv sl : Int} (hn : S = n) (h0 : 0 ≤ sl) (h1 : sl < n) (hA : ∀ a ∈ A, a.mv ≤ mv) (hA2 : ∀ a ∈ A2, mv < a.mv) :
    heldF ((List.range m).map (holdR fi S n u A X)) sl = heldR fi m n u (A ++ A2) X mv sl := by
  unfold heldF heldR
  rw [List.any_map]
  refine congrArg (fun f => (List.range m).any f) (funext fun h => ?_)
  show (decide ((holdR fi S n u A X h).1 = sl) && (holdR fi S n u A X h).2) = holdsR fi n u (A ++ A2) X mv sl h
  unfold holdsR
  rw [wroteF_cut hA hA2]
  unfold holdR toW
  cases lastW (fi + h) A with
  | none => simp
  | some a =>
    simp only [Option.elim_some]
    by_cases hr : 1 ≤ a.nw ∧ a.nw ≤ S
    · simp only [if_pos hr]
      by_cases he : a.nw = sl + 1
      · have : a.nw - 1 = sl := by omega
        simp [he]
      · have : ¬ a.nw - 1 = sl := by omega
        simp [he, this]
    · simp only [if_neg hr]
      have : ¬ a.nw = sl + 1 := by omega
      simp [this]

/-- What holds of the watch behind some accesses and shifts. -/
structure Jn (fi S : Int) (n u m : Nat) (A : List Ac) (X : List Sh) (c : CS) : Prop where
  st : c.st = afterS (beginS n u) X
  ho : c.ho = afterH (List.replicate n (-1)) X
  hd : c.hd = (List.range m).map (holdR fi S n u A X)
theorem Jn.shift {fi S : Int} {n u m : Nat} {A : List Ac} {X : List Sh} {c : CS} {mv : Int} {x : Sh} (h : Jn fi S n u m A X c) (h0 : 0 ≤ x.sl) (hA : ∀ a ∈ A, a.mv ≤ x.mv) : Jn fi S n u m A (X ++ [x]) (stepC mv c x) := by
  refine ⟨?_, ?_, ?_⟩
  · show putS x c.st = _
    rw [h.st, afterS_snoc]
  · show putH x c.ho = _
    rw [h.ho, afterH_snoc]
  · show chH c.hd x = _
    unfold chH
    rw [h.hd]
    have e : holdR fi S n u A (X ++ [x]) = fun h => if x.to = 3 then linkH x.sl (holdR fi S n u A X h) else holdR fi S n u A X h := funext fun h => holdR_shift h0 hA h
    rw [e]
    split
    · rw [List.map_map]
      rfl
    · rfl
theorem Jn.shifts {fi S : Int} {n u m : Nat} (hn : S = n) {A A2 : List Ac} {mv : Int} (hA : ∀ a ∈ A, a.mv ≤ mv) (hA2 : ∀ a ∈ A2, mv < a.mv) : ∀ (ys : List Sh) (X : List Sh) (c : CS), Jn fi S n u m A X c → (∀ x ∈ ys, x.mv = mv ∧ 0 ≤ x.sl ∧ x.sl < n) →
    Jn fi S n u m A (X ++ ys) (changesF mv c ys) ∧ ys.foldl (shiftR (heldR fi m n u (A ++ A2)) mv) ⟨c.st, c.ho, c.fl, X⟩ = ⟨(changesF mv c ys).st, (changesF mv c ys).ho, (changesF mv c ys).fl, X ++ ys⟩
  | [], X, c, h, _ => by
    rw [List.append_nil]
    exact ⟨h, rfl⟩
  | x :: ys, X, c, h, hy => by
    obtain ⟨hx, hx0, hx1⟩ := hy x List.mem_cons_self
    have hs : shiftR (heldR fi m n u (A ++ A2)) mv ⟨c.st, c.ho, c.fl, X⟩ x = ⟨(stepC mv c x).st, (stepC mv c x).ho, (stepC mv c x).fl, X ++ [x]⟩ := by
      unfold shiftR
      rw [if_pos hx]
      show RS.mk _ _ (chR2 mv (heldR fi m n u (A ++ A2) X x.mv x.sl) x (chF1 mv c.ho x c.fl)) _ = RS.mk _ _ (chF2 mv c.hd x (chF1 mv c.ho x c.fl)) _
      unfold chR2 chF2
      rw [h.hd, heldF_R (A := A) (A2 := A2) (mv := x.mv) hn hx0 hx1 (by rw [hx]; exact hA) (by rw [hx]; exact hA2)]
      rfl
    obtain ⟨j1, j2⟩ := Jn.shifts hn hA hA2 ys (X ++ [x]) (stepC mv c x) (h.shift hx0 (by rw [hx]; exact hA)) fun y hyy => hy y (List.mem_cons_of_mem _ hyy)
    rw [List.append_assoc] at j1 j2
    refine ⟨j1, ?_⟩
    rw [List.foldl_cons, hs]
    exact j2
theorem shiftR_skip {Hd : List Sh → Int → Int → Bool} {mv : Int} : ∀ (ys : List Sh) (q : RS), (∀ x ∈ ys, x.mv ≠ mv) → ys.foldl (shiftR Hd mv) q = ⟨q.st, q.ho, q.fl, q.pre ++ ys⟩
  | [], q, _ => by simp
  | x :: ys, q, h => by
    rw [List.foldl_cons, show shiftR Hd mv q x = ⟨q.st, q.ho, q.fl, q.pre ++ [x]⟩ from if_neg (h x List.mem_cons_self), shiftR_skip ys _ fun y hy => h y (List.mem_cons_of_mem _ hy)]
    simp
theorem oneT_skip {R H S Bk : Int} {st ho st2 ho2 : List Int} {mv : Int} : ∀ (A : List Ac), (∀ a ∈ A, a.mv ≠ mv) → A.flatMap (oneT R H S Bk st ho st2 ho2 mv) = []
  | [], _ => rfl
  | a :: A, h => by
    rw [List.flatMap_cons, oneT_skip A fun y hy => h y (List.mem_cons_of_mem _ hy), show oneT R H S Bk st ho st2 ho2 mv a = [] from if_neg (h a List.mem_cons_self)]
    rfl
/-- One moment, both ways. -/
theorem moment_law {R H S Bk fi : Int} {n u m : Nat} (hn : S = n) {tr : List Ac} {sh : List Sh} {l1 l2 : List Mo} {mo : Mo} (hc : Cov tr sh (l1 ++ mo :: l2)) (hs : ∀ x ∈ sh, 0 ≤ x.sl ∧ x.sl < n) (hk : ∀ a ∈ tr, a.kd = 1 ∨ a.kd = 2 ∨ a.kd = 3)
    {c : CS} (h : Jn fi S n u m (l1.filterMap (acO tr)) (l1.flatMap Mo.sh) c) :
    Jn fi S n u m ((l1 ++ [mo]).filterMap (acO tr)) ((l1 ++ [mo]).flatMap Mo.sh) (momentF R H S Bk fi tr c mo) ∧ (momentF R H S Bk fi tr c mo).fl = rMoment R H S Bk fi n u m tr sh c.fl mo.mv := by
  obtain ⟨etr, esh, ha1, ha2, hs1, hs2, hsm, ham⟩ := hc.cut
  have hb : belowM sh mo.mv = l1.flatMap Mo.sh := by
    unfold belowM
    rw [esh, List.filter_append, List.filter_append, List.filter_eq_self.2 (fun x hx => by simpa using hs1 x hx), List.filter_eq_nil_iff.2 (fun x hx => by have := hsm x hx; simp; omega), List.filter_eq_nil_iff.2 (fun x hx => by have := hs2 x hx; simp; omega)]
    simp
  have hu : uptoM sh mo.mv = l1.flatMap Mo.sh ++ mo.sh := by
    unfold uptoM
    rw [esh, List.filter_append, List.filter_append, List.filter_eq_self.2 (fun x hx => by have := hs1 x hx; simp; omega), List.filter_eq_self.2 (fun x hx => by have := hsm x hx; simp; omega), List.filter_eq_nil_iff.2 (fun x hx => by have := hs2 x hx; simp; omega)]
    simp
  have hS2 : afterS (beginS n u) (l1.flatMap Mo.sh ++ mo.sh) = afterS c.st mo.sh := by rw [h.st]; unfold afterS; rw [List.foldl_append]
  have hH2 : afterH (List.replicate n (-1)) (l1.flatMap Mo.sh ++ mo.sh) = afterH c.ho mo.sh := by rw [h.ho]; unfold afterH; rw [List.foldl_append]
  have hmsl : ∀ x ∈ mo.sh, x.mv = mo.mv ∧ 0 ≤ x.sl ∧ x.sl < n := fun x hx => ⟨hsm x hx, hs x (by rw [esh]; exact List.mem_append_right _ (List.mem_append_left _ hx))⟩
  have hl1sl : ∀ x ∈ l1.flatMap Mo.sh, 0 ≤ x.sl ∧ x.sl < n := fun x hx => hs x (by rw [esh]; exact List.mem_append_left _ hx)
  have hflat : (l1 ++ [mo]).flatMap Mo.sh = l1.flatMap Mo.sh ++ mo.sh := by simp
  have hfilt : (l1 ++ [mo]).filterMap (acO tr) = l1.filterMap (acO tr) ++ (acO tr mo).toList := by
    rw [List.filterMap_append]
    congr 1
  have hskip1 : ∀ (q : RS) (Hd : List Sh → Int → Int → Bool), (l1.flatMap Mo.sh).foldl (shiftR Hd mo.mv) q = ⟨q.st, q.ho, q.fl, q.pre ++ l1.flatMap Mo.sh⟩ := fun q Hd => shiftR_skip _ _ fun x hx => by have := hs1 x hx; omega
  have hskip2 : ∀ (q : RS) (Hd : List Sh → Int → Int → Bool), ((l2.flatMap Mo.sh).foldl (shiftR Hd mo.mv) q).fl = q.fl := fun q Hd => by rw [shiftR_skip _ _ fun x hx => by have := hs2 x hx; omega]
  have hr : ∀ fl, rMoment R H S Bk fi n u m tr sh fl mo.mv = (mo.sh.foldl (shiftR (heldR fi m n u tr) mo.mv) ⟨c.st, c.ho, fl ++ rTouch R H S Bk c.st c.ho (afterS c.st mo.sh) (afterH c.ho mo.sh) mo.mv tr, l1.flatMap Mo.sh⟩).fl := fun fl => by
    unfold rMoment
    rw [hb, hu, hS2, hH2, ← h.st, ← h.ho]
    conv => lhs; rw [esh]
    rw [List.foldl_append, List.foldl_append, hskip2, hskip1]
    rfl
  have ht : rTouch R H S Bk c.st c.ho (afterS c.st mo.sh) (afterH c.ho mo.sh) mo.mv tr = (acO tr mo).elim [] fun a => touchF R H S Bk c.st c.ho (afterS c.st mo.sh) (afterH c.ho mo.sh) mo.mv a := by
    unfold rTouch
    conv => lhs; rw [etr]
    rw [List.flatMap_append, List.flatMap_append, oneT_skip (l1.filterMap (acO tr)) (fun a ha => by have := ha1 a ha; omega), oneT_skip (l2.filterMap (acO tr)) (fun a ha => by have := ha2 a ha; omega)]
    cases ho : acO tr mo with
    | none => rfl
    | some a =>
      show [] ++ (([a] : List Ac).flatMap _ ++ []) = touchF R H S Bk c.st c.ho _ _ mo.mv a
      simp [oneT, ham a ho]
  rw [hr, ht, hflat, hfilt]
  cases ho : acO tr mo with
  | none =>
    have e : momentF R H S Bk fi tr c mo = changesF mo.mv ⟨c.st, c.ho, c.hd, c.fl ++ [], c.P, c.C⟩ mo.sh := by
      unfold momentF
      unfold acO at ho
      rw [ho]
      rfl
    rw [ho] at etr
    obtain ⟨j1, j2⟩ := Jn.shifts (m := m) hn (A := l1.filterMap (acO tr)) (A2 := l2.filterMap (acO tr)) (mv := mo.mv) (fun a ha => Int.le_of_lt (ha1 a ha)) ha2 mo.sh (l1.flatMap Mo.sh) ⟨c.st, c.ho, c.hd, c.fl ++ [], c.P, c.C⟩ ⟨h.st, h.ho, h.hd⟩ hmsl
    rw [e]
    refine ⟨by simpa using j1, ?_⟩
    have etr' : l1.filterMap (acO tr) ++ l2.filterMap (acO tr) = tr := by
      conv => rhs; rw [etr]
      rfl
    rw [etr'] at j2
    exact ((congrArg RS.fl j2).symm)
  | some a =>
    have e : momentF R H S Bk fi tr c mo = changesF mo.mv ⟨c.st, c.ho, namesF fi S c.st c.hd a, c.fl ++ touchF R H S Bk c.st c.ho (afterS c.st mo.sh) (afterH c.ho mo.sh) mo.mv a, c.P, c.C⟩ mo.sh := by
      unfold momentF
      unfold acO at ho
      rw [ho]
      rfl
    have hamv := ham a ho
    rw [ho] at etr
    have hatr : a ∈ tr := by
      have : a ∈ l1.filterMap (acO tr) ++ ((some a).toList ++ l2.filterMap (acO tr)) := List.mem_append_right _ (List.mem_append_left _ (by simp))
      rw [← etr] at this
      exact this
    have hnm := holdR_names (fi := fi) (u := u) (m := m) (A := l1.filterMap (acO tr)) (a := a) hn (X := l1.flatMap Mo.sh) (fun x hx => by rw [hamv]; exact hs1 x hx) hl1sl (hk a hatr)
    obtain ⟨j1, j2⟩ := Jn.shifts (m := m) hn (A := l1.filterMap (acO tr) ++ [a]) (A2 := l2.filterMap (acO tr)) (mv := mo.mv) (fun y hy => by
      rcases List.mem_append.1 hy with hy | hy
      · exact Int.le_of_lt (ha1 y hy)
      · simp at hy; rw [hy, hamv]; exact Int.le_refl _) ha2 mo.sh (l1.flatMap Mo.sh) ⟨c.st, c.ho, namesF fi S c.st c.hd a, c.fl ++ touchF R H S Bk c.st c.ho (afterS c.st mo.sh) (afterH c.ho mo.sh) mo.mv a, c.P, c.C⟩ ⟨h.st, h.ho, by rw [← hnm, ← h.hd, ← h.st]⟩ hmsl
    rw [e]
    refine ⟨j1, ?_⟩
    have etr' : (l1.filterMap (acO tr) ++ [a]) ++ l2.filterMap (acO tr) = tr := by
      conv => rhs; rw [etr]
      simp
    rw [etr'] at j2
    exact ((congrArg RS.fl j2).symm)
theorem start_n (n u m : Nat) (fi S : Int) : Jn fi S n u m [] [] (startF n u m) := by
  refine ⟨rfl, rfl, ?_⟩
  show List.replicate m ((-1 : Int), false) = _
  apply List.ext_getElem?
  intro i
  rw [List.getElem?_map, List.getElem?_replicate]
  by_cases hi : i < m
  · rw [if_pos hi, List.getElem?_range hi]
    rfl
  · rw [if_neg hi, List.getElem?_eq_none (by simp; omega)]
    rfl
theorem watch_go {R H S Bk fi : Int} {n u m : Nat} (hn : S = n) {tr : List Ac} {sh : List Sh} (hs : ∀ x ∈ sh, 0 ≤ x.sl ∧ x.sl < n) (hk : ∀ a ∈ tr, a.kd = 1 ∨ a.kd = 2 ∨ a.kd = 3) : ∀ (l2 l1 : List Mo) (c : CS), Cov tr sh (l1 ++ l2) →
    Jn fi S n u m (l1.filterMap (acO tr)) (l1.flatMap Mo.sh) c → (l2.foldl (momentF R H S Bk fi tr) c).fl = l2.foldl (fun fl mo => rMoment R H S Bk fi n u m tr sh fl mo.mv) c.fl
  | [], _, _, _, _ => rfl
  | mo :: l2, l1, c, hc, h => by
    obtain ⟨j1, j2⟩ := moment_law (R := R) (H := H) (Bk := Bk) hn hc hs hk h
    rw [List.foldl_cons, List.foldl_cons, ← j2]
    exact watch_go hn hs hk l2 (l1 ++ [mo]) _ (by simpa using hc) j1
/-- What the document tells of all moments. -/
def refFl (R H S Bk fi : Int) (n u m : Nat) (tr : List Ac) (sh : List Sh) (l : List Mo) : List Fl := l.foldl (fun fl mo => rMoment R H S Bk fi n u m tr sh fl mo.mv) []
theorem fault_law {R H S Bk fi : Int} {n u m : Nat} (hn : S = n) {tr : List Ac} {sh : List Sh} (hs : ∀ x ∈ sh, 0 ≤ x.sl ∧ x.sl < n) (hk : ∀ a ∈ tr, a.kd = 1 ∨ a.kd = 2 ∨ a.kd = 3) {l : List Mo} (h : MInv tr sh tr.length sh.length l) :
    (watchF R H S Bk fi n u m tr l).fl = refFl R H S Bk fi n u m tr sh l :=
  watch_go hn hs hk l [] _ (Cov.of h) (start_n n u m fi S)

/-- The move of a moment; -1 behind the last. -/
def moveAt (l : List Mo) (k : Nat) : Int := (l[k]?).elim (-1) Mo.mv
theorem next_law {tr : List Ac} {sh : List Sh} {l : List Mo} (hc : Cov tr sh l) (h0 : ∀ m ∈ l, 0 ≤ m.mv) : ∀ (k : Nat), k ≤ l.length → nextF tr sh ((l.take k).getLast?.elim (-1) Mo.mv) = moveAt l k := by
  intro k hk
  rw [nextF_join]
  have hall : ∀ y ∈ tr.map Ac.mv ++ sh.map Sh.mv, ∃ m ∈ l, m.mv = y := fun y hy => by
    rcases List.mem_append.1 hy with hy | hy
    · obtain ⟨a, ha, rfl⟩ := List.mem_map.1 hy
      rw [hc.tr_] at ha
      obtain ⟨m, hm, hma⟩ := List.mem_filterMap.1 ha
      exact ⟨m, hm, (hc.at_ m hm a hma).symm⟩
    · obtain ⟨x, hx, rfl⟩ := List.mem_map.1 hy
      rw [hc.sh_] at hx
      obtain ⟨m, hm, hmx⟩ := List.mem_flatMap.1 hx
      exact ⟨m, hm, (hc.st_ m hm x hmx).symm⟩
  have hin : ∀ m ∈ l, m.mv ∈ tr.map Ac.mv ++ sh.map Sh.mv := fun m hm => by
    rcases hc.full m hm with h | h
    · cases ho : acO tr m with
      | none => exact absurd ho h
      | some a =>
        refine List.mem_append_left _ (List.mem_map.2 ⟨a, ?_, hc.at_ m hm a ho⟩)
        rw [hc.tr_]
        exact List.mem_filterMap.2 ⟨m, hm, ho⟩
    · obtain ⟨x, hx⟩ := List.exists_mem_of_ne_nil _ h
      refine List.mem_append_right _ (List.mem_map.2 ⟨x, ?_, hc.st_ m hm x hx⟩)
      rw [hc.sh_]
      exact List.mem_flatMap.2 ⟨m, hm, hx⟩
  have hup := List.pairwise_iff_getElem.1 hc.up
  have hmv : ∀ m ∈ l, ∃ (i : Nat) (hi : i < l.length), l[i] = m := fun m hm => by
    obtain ⟨i, hi, he⟩ := List.getElem_of_mem hm
    exact ⟨i, hi, he⟩
  generalize hmv0 : (l.take k).getLast?.elim (-1) Mo.mv = mv0
  have hlow : -1 ≤ mv0 ∧ ∀ (i : Nat) (hi : i < l.length), i < k → l[i].mv ≤ mv0 := by
    rw [← hmv0, List.getLast?_take]
    by_cases hk0 : k = 0
    · rw [if_pos hk0]
      exact ⟨by simp, fun i hi hik => by omega⟩
    · rw [if_neg hk0, List.getElem?_eq_getElem (show k - 1 < l.length by omega)]
      refine ⟨?_, fun i hi hik => ?_⟩
      · have := h0 _ (List.getElem_mem (show k - 1 < l.length by omega))
        show -1 ≤ (l[k-1]).mv
        omega
      · show l[i].mv ≤ (l[k-1]).mv
        by_cases he : i = k - 1
        · subst he; exact Int.le_refl _
        · exact Int.le_of_lt (hup i (k-1) hi (by omega) (by omega))
  have hhi : ∀ (i : Nat) (hi : i < l.length), k ≤ i → mv0 < l[i].mv := by
    intro i hi hik
    rw [← hmv0, List.getLast?_take]
    by_cases hk0 : k = 0
    · rw [if_pos hk0]
      have := h0 _ (List.getElem_mem hi)
      show (-1 : Int) < _
      omega
    · rw [if_neg hk0, List.getElem?_eq_getElem (show k - 1 < l.length by omega)]
      exact hup (k-1) i (by omega) hi (by omega)
  unfold moveAt
  by_cases hkl : k < l.length
  · rw [List.getElem?_eq_getElem hkl]
    show _ = l[k].mv
    refine least_find (hhi k hkl (Nat.le_refl _)) (h0 _ (List.getElem_mem hkl)) hlow.1 _ _ ?_ (.inl (by omega)) (.inl (hin _ (List.getElem_mem hkl)))
    intro y hy hlt
    obtain ⟨m, hm, rfl⟩ := hall y hy
    obtain ⟨i, hi, rfl⟩ := hmv m hm
    by_cases hik : i < k
    · have := hlow.2 i hi hik
      omega
    · by_cases he : i = k
      · subst he; exact Int.le_refl _
      · exact Int.le_of_lt (hup k i hkl hi (by omega))
  · rw [List.getElem?_eq_none (by omega)]
    refine nextF_neg _ _ ?_
    intro y hy hlt
    obtain ⟨m, hm, rfl⟩ := hall y hy
    obtain ⟨i, hi, rfl⟩ := hmv m hm
    have := hlow.2 i hi (by omega)
    omega

end Go.Proofs.Ytfbacopjookplaa
