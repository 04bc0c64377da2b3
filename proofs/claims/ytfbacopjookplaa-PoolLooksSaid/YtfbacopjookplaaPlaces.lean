/- The walks of the document's in, begins, whose, ender, place: what a call, and a move, is to a thread. -/
import Derived.Test.YtfbacopjookplaaRun
import Derived.Test.YtfbacopjookplaaProg
namespace Go.Proofs.Ytfbacopjookplaa
open Go.RowKit

def Cl.begins (m : Int) (x : Cl) : Bool := decide (x.bg = m)
def Cl.ends (m : Int) (x : Cl) : Bool := decide (x.en = m)
def Cl.holds (m : Int) (x : Cl) : Bool := decide (x.bg < m) && (decide (x.en < 0) || decide (m ≤ x.en))

set_option maxHeartbeats 1000000 in
theorem begins_any (A : Option Addr) (n c : Nat) (l : List Cl) (m : Int) (w : World) (h : Arr Cl.enc w A n l) (hbig : n ≤ 140737488355328) :
    Calls Try.prog 164 #[.slice A n c, .int .i64 m] w fun e w' => e = .returned (.bool (l.any (Cl.begins m))) ∧ Ext w w' := by
  have Hh := Lib.hid h
  clear h
  refine start_lat fun k0 => ?_
  go_enter Try.func164, Try.ntmps164
  go_wp2_with fail
  go_loop [5] (fun s5 => ∃ i : Nat, i ≤ n ∧ s5 = .int .i64 i ∧ Hid ((l.take i).any (Cl.begins m) = false)) (fun s => n - (intOf s).toNat)
  case atStart => exact ⟨0, by omega, rfl, rfl⟩
  case round =>
    obtain ⟨i, hi, rfl, hno⟩ := hrel
    by_cases hlt : i < n
    · obtain ⟨b, off, x, rfl, hb, hx, x0, x1, x2, x3, x4, x5, x6, x7, x8⟩ := Cl.at_ Hh.out hlt
      have h1 : (i : Int) < (n : Int) := by omega
      by_cases he : x.bg = m
      · have hfin : Hid (l.any (Cl.begins m) = true) := any_found hx.out (by simp [Cl.begins, he])
        have hd : (x.bg == m) = true := by simpa using he
        clear he
        go_wp2_with fail
        go_ret
        exact ⟨ret_bool hfin.out.symm, k0.ok⟩
      · have hn' : Hid ((l.take (i + 1)).any (Cl.begins m) = false) := any_take hno.out hx.out (by simp [Cl.begins, he])
        have hd : (x.bg == m) = false := by simpa using he
        clear he
        go_wp2_with fail
        go_round
        case rel => exact ⟨i + 1, by omega, by go_num, hn'⟩
        case measure => simp [intOf]; omega
    · obtain rfl : n = i := by omega
      go_wp2_with fail
      go_ret
      exact ⟨ret_bool (any_all hno.out Hh.out.1).symm, k0.ok⟩

/-- The thread whose call ends at a move, or -1. -/
def enderF (l : List Cl) (m : Int) : Int := match l.find? (Cl.ends m) with
  | some x => x.th
  | none => -1

set_option maxHeartbeats 1000000 in
theorem ender_any (A : Option Addr) (n c : Nat) (l : List Cl) (m : Int) (w : World) (h : Arr Cl.enc w A n l) (hbig : n ≤ 140737488355328) :
    Calls Try.prog 166 #[.slice A n c, .int .i64 m] w fun e w' => e = .returned (.int .i64 (enderF l m)) ∧ Ext w w' := by
  have Hh := Lib.hid h
  clear h
  refine start_lat fun k0 => ?_
  go_enter Try.func166, Try.ntmps166
  go_wp2_with fail
  go_loop [5] (fun s5 => ∃ i : Nat, i ≤ n ∧ s5 = .int .i64 i ∧ Hid ((l.take i).any (Cl.ends m) = false)) (fun s => n - (intOf s).toNat)
  case atStart => exact ⟨0, by omega, rfl, rfl⟩
  case round =>
    obtain ⟨i, hi, rfl, hno⟩ := hrel
    by_cases hlt : i < n
    · obtain ⟨b, off, x, rfl, hb, hx, x0, x1, x2, x3, x4, x5, x6, x7, x8⟩ := Cl.at_ Hh.out hlt
      have h1 : (i : Int) < (n : Int) := by omega
      by_cases he : x.en = m
      · have hfin : Hid (enderF l m = x.th) := by show _ = _; rw [enderF, find_take hno.out hx.out (by simp [Cl.ends, he])]
        have hd : (x.en == m) = true := by simpa using he
        clear he
        go_wp2_with fail
        go_ret
        exact ⟨ret_int hfin.out.symm, k0.ok⟩
      · have hn' : Hid ((l.take (i + 1)).any (Cl.ends m) = false) := any_take hno.out hx.out (by simp [Cl.ends, he])
        have hd : (x.en == m) = false := by simpa using he
        clear he
        go_wp2_with fail
        go_round
        case rel => exact ⟨i + 1, by omega, by go_num, hn'⟩
        case measure => simp [intOf]; omega
    · obtain rfl : n = i := by omega
      have hfin : Hid (enderF l m = -1) := by show _ = _; rw [enderF, find_none hno.out Hh.out.1]
      go_wp2_with fail
      go_ret
      exact ⟨ret_int hfin.out.symm, k0.ok⟩

theorem Cl.boxed5 {w0 : World} {b : Nat} {t : TypeId} {x : Cl} (h : w0.heap[b]? = some (.cells #[.int .i64 x.th, .int .i64 x.op, .int .i64 x.arg, .int .i64 x.dat, .int .i64 x.bg, .int .i64 x.en, .int .i64 x.pt, .int .i64 x.ak, .int .i64 x.av] t (0, 0))) :
    (∀ c : Lat w0, c.world.cell? ⟨b, 0, none⟩ = some (.int .i64 x.th)) ∧ (∀ c : Lat w0, c.world.cell? ⟨b, 4, none⟩ = some (.int .i64 x.bg)) ∧ (∀ c : Lat w0, c.world.cell? ⟨b, 5, none⟩ = some (.int .i64 x.en)) ∧
    (∀ c : Lat w0, c.world.cell? ⟨b, 6, none⟩ = some (.int .i64 x.pt)) ∧ (∀ c : Lat w0, c.world.cell? ⟨b, 7, none⟩ = some (.int .i64 x.ak)) ∧ (∀ c : Lat w0, c.world.cell? ⟨b, 8, none⟩ = some (.int .i64 x.av)) :=
  ⟨Lat.cells h rfl, Lat.cells h rfl, Lat.cells h rfl, Lat.cells h rfl, Lat.cells h rfl, Lat.cells h rfl⟩

theorem in_any (x : Cl) (m : Int) (w : World) :
    Calls Try.prog 158 #[.agg #[.int .i64 x.th, .int .i64 x.op, .int .i64 x.arg, .int .i64 x.dat, .int .i64 x.bg, .int .i64 x.en, .int .i64 x.pt, .int .i64 x.ak, .int .i64 x.av], .int .i64 m] w fun e w' => e = .returned (.bool (Cl.holds m x)) ∧ Ext w w' := by
  go_enter Try.func158, Try.ntmps158
  go_wp2_with fail
  all_goals
    go_ret
    refine ⟨ret_bool ?_, (Ext.rfl' w).alloc1 _⟩
    simp only [Cl.holds]
    rw [Bool.eq_iff_iff]
    simp
    omega

/-- What whose answers: a number that is negative just if there is no such call. -/
def WhosePost (l : List Cl) (t m : Int) (w : World) (e : Ending) (w' : World) : Prop := ∃ r : Int, e = .returned (.int .i64 r) ∧ decide (r < 0) = !l.any (fun x => decide (x.th = t) && Cl.holds m x) ∧ Ext w w'

theorem any_drop {α : Type} {p : α → Bool} {xs : List α} {k : Nat} {x : α} (h : (xs.drop (k + 1)).any p = false) (hx : xs[k]? = some x) (hp : p x = false) : (xs.drop k).any p = false := by
  obtain ⟨hl, hg⟩ := List.getElem?_eq_some_iff.1 hx
  rw [List.drop_eq_getElem_cons hl, List.any_cons, h, hg, hp]
  rfl

set_option maxHeartbeats 1000000 in
theorem whose_any (A : Option Addr) (n c : Nat) (l : List Cl) (t m : Int) (w : World) (h : Arr Cl.enc w A n l) (hbig : n ≤ 140737488355328) :
    Calls Try.prog 165 #[.slice A n c, .int .i64 t, .int .i64 m] w (WhosePost l t m w) := by
  have Hh := Lib.hid h
  clear h
  refine start_lat fun k0 => ?_
  go_enter Try.func165, Try.ntmps165
  go_wp2_with fail
  go_loopw [7] (fun s7 wr => ∃ (k : Lat w) (i : Nat), wr = k.world ∧ i ≤ n ∧ s7 = .int .i64 ((i : Int) - 1) ∧ Hid ((l.drop i).any (fun x => decide (x.th = t) && Cl.holds m x) = false)) (fun s _ => (intOf s + 1).toNat)
  case atStart => exact ⟨k0, n, rfl, by omega, rfl, by show _ = _; rw [List.drop_of_length_le (by rw [Hh.out.1]; exact Nat.le_refl _)]; rfl⟩
  case round =>
    obtain ⟨k, i', rfl, hi, rfl, hno⟩ := hrel
    cases i' with
    | zero =>
      have hfin : Hid (decide ((-1 : Int) < 0) = !l.any (fun x => decide (x.th = t) && Cl.holds m x)) := by
        show _ = _
        have := hno.out
        rw [List.drop_zero] at this
        rw [this]
        rfl
      go_wp2_with fail
      go_ret
      exact ⟨_, rfl, hfin.out, k.ok⟩
    | succ i =>
      have hlt : i < n := by omega
      rw [show ((i + 1 : Nat) : Int) - 1 = (i : Int) from by omega]
      obtain ⟨b, off, x, rfl, hb, hx, x0, x1, x2, x3, x4, x5, x6, x7, x8⟩ := Cl.at_ Hh.out hlt
      have h1 : (i : Int) < (n : Int) := by omega
      have h0 : (0 : Int) ≤ (i : Int) := by omega
      by_cases he : x.th = t
      · have hd : (x.th == t) = true := by simpa using he
        have He := Lib.hid he
        clear he
        go_wp2_with fail
        refine (in_any x m _).mono ?_
        rintro e w1 ⟨rfl, e1⟩
        obtain ⟨k1, rfl⟩ := lat_next k e1
        clear e1
        cases hq : Cl.holds m x with
        | true =>
          have hfin : Hid (decide ((i : Int) < 0) = !l.any (fun x => decide (x.th = t) && Cl.holds m x)) := by
            show _ = _
            rw [any_found hx.out (by simp [He.out, hq]), decide_eq_false (by omega)]
            rfl
          clear hq
          go_wp2_with fail
          go_ret
          exact ⟨_, rfl, hfin.out, k1.ok⟩
        | false =>
          have hn' : Hid ((l.drop i).any (fun x => decide (x.th = t) && Cl.holds m x) = false) := any_drop hno.out hx.out (by simp [hq])
          clear hq
          go_wp2_with fail
          go_roundw
          case rel => exact ⟨k1, i, rfl, by omega, rfl, hn'⟩
          case measure => simp [intOf]
      · have hn' : Hid ((l.drop i).any (fun x => decide (x.th = t) && Cl.holds m x) = false) := any_drop hno.out hx.out (by simp [he])
        have hd : (x.th == t) = false := by simpa using he
        clear he
        go_wp2_with fail
        go_roundw
        case rel => exact ⟨k, i, rfl, by omega, rfl, hn'⟩
        case measure => simp [intOf]

/-- Whether an access or a shift may have that move and thread. -/
def placeB (l : List Cl) (t m : Int) : Bool := !l.any (Cl.begins m) && l.any (fun x => decide (x.th = t) && Cl.holds m x) && (decide (enderF l m < 0) || decide (enderF l m = t))

set_option maxHeartbeats 1000000 in
theorem place_any (A : Option Addr) (n c : Nat) (l : List Cl) (t m : Int) (w : World) (h : Arr Cl.enc w A n l) (hbig : n ≤ 140737488355328) :
    Calls Try.prog 149 #[.slice A n c, .int .i64 t, .int .i64 m] w fun e w' => e = .returned (.bool (placeB l t m)) ∧ Ext w w' := by
  have Hh := Lib.hid h
  clear h
  refine start_lat fun k0 => ?_
  have HP : Hid (placeB l t m = (!l.any (Cl.begins m) && l.any (fun x => decide (x.th = t) && Cl.holds m x) && (decide (enderF l m < 0) || decide (enderF l m = t)))) := rfl
  generalize placeB l t m = p at HP
  go_enter Try.func149, Try.ntmps149
  go_wp2_with fail
  refine (begins_any A n c l m _ (Hh.out.ext k0.ok) hbig).mono ?_
  rintro e w1 ⟨rfl, e1⟩
  obtain ⟨k1, rfl⟩ := lat_next k0 e1
  clear e1
  generalize l.any (Cl.begins m) = bb at HP
  cases bb with
  | true =>
    have HF : Hid (p = false) := by show _ = _; rw [HP.out]; rfl
    go_wp2_with fail
    go_ret
    exact ⟨ret_bool HF.out.symm, k1.ok⟩
  | false =>
    go_wp2_with fail
    refine (whose_any A n c l t m _ (Hh.out.ext k1.ok) hbig).mono ?_
    rintro e w2 ⟨r, rfl, hr, e2⟩
    obtain ⟨k2, rfl⟩ := lat_next k1 e2
    have HR := Lib.hid hr
    clear e2 hr
    generalize l.any (fun x => decide (x.th = t) && Cl.holds m x) = wb at HP HR
    cases wb with
    | false =>
      have HF : Hid (p = false) := by show _ = _; rw [HP.out]; rfl
      have hr0 : r < 0 := by have := HR.out; simpa using this
      go_wp2_with fail
      go_ret
      exact ⟨ret_bool HF.out.symm, k2.ok⟩
    | true =>
      have hr0 : 0 ≤ r := by have := HR.out; simpa using this
      go_wp2_with fail
      refine (ender_any A n c l m _ (Hh.out.ext k2.ok) hbig).mono ?_
      rintro e w3 ⟨rfl, e3⟩
      obtain ⟨k3, rfl⟩ := lat_next k2 e3
      clear e3
      generalize enderF l m = er at HP
      by_cases h1 : er < 0
      · have HF : Hid (p = true) := by show _ = _; rw [HP.out]; simp [h1]
        go_wp2_with fail
        go_ret
        exact ⟨ret_bool HF.out.symm, k3.ok⟩
      · by_cases h2 : er = t
        · have HF : Hid (p = true) := by show _ = _; rw [HP.out]; simp [h2]
          have hd : (er == t) = true := by simpa using h2
          clear h2
          go_wp2_with fail
          go_ret
          exact ⟨ret_bool HF.out.symm, k3.ok⟩
        · have HF : Hid (p = false) := by show _ = _; rw [HP.out]; simp [h2]; omega
          have hd : (er == t) = false := by simpa using h2
          clear h2
          go_wp2_with fail
          go_ret
          exact ⟨ret_bool (by rw [HF.out]; simp; omega), k3.ok⟩

end Go.Proofs.Ytfbacopjookplaa
