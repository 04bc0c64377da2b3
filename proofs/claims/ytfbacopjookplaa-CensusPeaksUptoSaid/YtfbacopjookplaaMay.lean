/- The walk of owners.may: whether a thread may make something at a move. -/
import Derived.Test.YtfbacopjookplaaMayPure
namespace Go.Proofs.Ytfbacopjookplaa
open Go.RowKit

def cellInt (w : World) (g k : Nat) : Int := match w.cell? ⟨g, k, none⟩ with | some v => intOf v | none => 0
theorem cellInt_of {w : World} {g k : Nat} {x : Int} (h : w.cell? ⟨g, k, none⟩ = some (.int .i64 x)) : cellInt w g k = x := by simp [cellInt, h, intOf]
theorem zrun (w : World) : (zeroValue 3).run Try.prog w = .ok (.int .i64 0) w := by kernel_rfl

/-- What owners.may leaves. -/
def MayOut (w : World) (B g gb ge gc ga T : Nat) (l : List Cl) (vs : List Value) (m : Int) (ans : Bool) (e : Ending) (w' : World) : Prop :=
  e = .returned (.bool ans) ∧ ∃ cur', Owners w' B g gb ge gc ga T l l l vs cur' ∧ AtOK l T cur' m ∧ Only (fun q => q = ga) w w'

theorem Owners.cur_cell {w : World} {B g gb ge gc ga T : Nat} {pb pe pr : List Cl} {vs : List Value} {cur : List Int} (h : Owners w B g gb ge gc ga T pb pe pr vs cur) {t : Nat} (ht : t < T) {i : Int} (hi : cur[t]? = some i) : w.cell? ⟨ga, t, none⟩ = some (.int .i64 i) := by
  have := h.curs.cellAt t (by omega)
  rwa [List.getElem?_map, hi] at this

set_option maxRecDepth 100000 in
set_option maxHeartbeats 2000000 in
theorem may_any (T : Nat) (B g gb ge gc ga : Nat) (l : List Cl) (vs : List Value) (cur : List Int) (t m p : Int) (w : World) (hO : Owners w B g gb ge gc ga T l l l vs cur) (hA : AtOK l T cur p) (hp : p ≤ m) (hC : CallsOK T l) (hbig : l.length ≤ 140737488355328) :
    Calls Try.prog 73 #[.pointer (some ⟨g, 0, none⟩), .int .i64 t, .int .i64 m] w (MayOut w B g gb ge gc ga T l vs m (placeB l t m)) := by
  have HO := Lib.hid hO
  have HA := Lib.hid (hA.mono hp)
  have HC := Lib.hid hC
  obtain ⟨o0, o1, o2, o3⟩ := hO.lat
  have q0 := o0 ⟨w, Ext.rfl' w⟩
  have q1 := o1 ⟨w, Ext.rfl' w⟩
  have q2 := o2 ⟨w, Ext.rfl' w⟩
  have q3 := o3 ⟨w, Ext.rfl' w⟩
  simp only at q0 q1 q2 q3
  have hlk1 := hO.begs.lookup (P := Try.prog) Try.underlying126 Try.underlying3 zrun m true
  have hlk2 := hO.ends.lookup (P := Try.prog) Try.underlying126 Try.underlying3 zrun m true
  clear o0 o1 o2 o3 hO hA hp hC
  cases hb : begF l m with
  | some b =>
    rw [hb] at hlk1
    replace hlk1 : (Instr.lookup 126 (.map (some gb)) (.int .i64 m) true).run Try.prog w = .ok (.tuple #[.int .i64 b, .bool true]) w := hlk1
    have HQ := Lib.hid (place_begun (t := t) hb)
    clear hb hlk2
    generalize placeB l t m = q at HQ ⊢
    go_enter Try.func73, Try.ntmps73
    go_wp2_with fail
    go_ret
    exact ⟨ret_bool HQ.out.symm, cur, HO.out, HA.out, Only.refl _ _⟩
  | none =>
    rw [hb] at hlk1
    replace hlk1 : (Instr.lookup 126 (.map (some gb)) (.int .i64 m) true).run Try.prog w = .ok (.tuple #[.int .i64 0, .bool false]) w := hlk1
    have Hb := Lib.hid hb
    clear hb
    by_cases ht : t < 0 ∨ (T : Int) ≤ t
    · have HQ := Lib.hid (place_thread (t := t) (m := m) HC.out ht)
      generalize placeB l t m = q at HQ ⊢
      rcases (by omega : t < 0 ∨ (0 ≤ t ∧ (T : Int) ≤ t)) with h1 | ⟨h1, h2⟩
      case' inl => have hd1 : decide (t < 0) = true := by simpa using h1
      case' inr =>
        have hd1 : decide (t < 0) = false := by simpa using h1
        have hd2 : decide ((T : Int) ≤ t) = true := by simpa using h2
      all_goals
        clear hlk2 ht
        go_enter Try.func73, Try.ntmps73
        go_wp2_with fail
        go_ret
        exact ⟨ret_bool HQ.out.symm, cur, HO.out, HA.out, Only.refl _ _⟩
    · obtain ⟨tx, rfl⟩ : ∃ tx : Nat, t = tx := ⟨t.toNat, by omega⟩
      have htx : tx < T := by omega
      have hi0 : (0 : Int) ≤ (tx : Int) := by omega
      have hi1 : (tx : Int) < (T : Int) := by omega
      have hd1 : decide ((tx : Int) < 0) = false := by simp
      have hd2 : decide ((T : Int) ≤ (tx : Int)) = false := by simpa using htx
      have hd3 : decide (T ≤ tx) = false := by simpa using htx
      clear ht
      rcases (by
        cases he : endF l m with
        | none => exact .inl rfl
        | some e =>
          by_cases h : e = (tx : Int)
          · exact .inr (.inl (by rw [h]))
          · exact .inr (.inr ⟨e, rfl, h⟩) : endF l m = none ∨ endF l m = some (tx : Int) ∨ ∃ e, endF l m = some e ∧ e ≠ (tx : Int)) with he | he | ⟨e, he, hne⟩
      case inr.inr =>
        rw [he] at hlk2
        replace hlk2 : (Instr.lookup 126 (.map (some ge)) (.int .i64 m) true).run Try.prog w = .ok (.tuple #[.int .i64 e, .bool true]) w := hlk2
        have HQ := Lib.hid (place_ended (t := (tx : Int)) HC.out he hne)
        generalize placeB l tx m = q at HQ ⊢
        have hd4 : (e == (tx : Int)) = false := by simpa using hne
        clear he hne
        go_enter Try.func73, Try.ntmps73
        go_wp2_with fail
        go_ret
        exact ⟨ret_bool HQ.out.symm, cur, HO.out, HA.out, Only.refl _ _⟩
      case' inl =>
        rw [he] at hlk2
        replace hlk2 : (Instr.lookup 126 (.map (some ge)) (.int .i64 m) true).run Try.prog w = .ok (.tuple #[.int .i64 0, .bool false]) w := hlk2
        have He : Hid (endF l m = none ∨ endF l m = some (tx : Int)) := .inl he
        clear he
      case' inr.inl =>
        rw [he] at hlk2
        replace hlk2 : (Instr.lookup 126 (.map (some ge)) (.int .i64 m) true).run Try.prog w = .ok (.tuple #[.int .i64 tx, .bool true]) w := hlk2
        have He : Hid (endF l m = none ∨ endF l m = some (tx : Int)) := .inr he
        clear he
      all_goals
        obtain ⟨AR, cR, hv, harr, hown, hcR⟩ := HO.out.row_lat htx
        obtain ⟨n, hn⟩ : ∃ n, (rowF l tx).length = n := ⟨_, rfl⟩
        rw [hn] at hv hcR
        have pR := hcR ⟨w, Ext.rfl' w⟩
        simp only at pR
        have hnl : n ≤ l.length := by have := rowF_len l tx; omega
        have Hn := Lib.hid hn
        have Hv := Lib.hid hv
        obtain ⟨i0, hi2, hi3, hi4⟩ := HA.out tx htx
        rw [hn] at hi3
        have H2 := Lib.hid hi2
        have H4 := Lib.hid hi4
        clear hn hv harr hown hcR hi2 hi4
        generalize hq : placeB l tx m = q
        have HQ := Lib.hid hq
        clear hq
        go_enter Try.func73, Try.ntmps73
        go_wp2_with fail
        go_loopw [] (fun wr => ∃ (cur' : List Int) (i : Nat), Hid (Owners wr B g gb ge gc ga T l l l vs cur') ∧ Hid (AtOK l T cur' m) ∧ Hid (Only (fun q => q = ga) w wr) ∧ Hid (cur'[tx]? = some (i : Int)) ∧ i ≤ n ∧ Hid (∀ (j : Nat) (x : Cl), j < i → (rowF l tx)[j]? = some x → Over m x)) (fun wr => n - (cellInt wr ga tx).toNat)
        case atStart => exact ⟨cur, i0, HO, HA, Only.refl _ _, H2, hi3, H4⟩
        case round =>
          clear q0 q1 q2 q3 pR hlk1 hlk2
          obtain ⟨cur', i, HOr, HAr, hon, Hci, hin, Hdn⟩ := hrel
          obtain ⟨o0, o1, o2, o3⟩ := HOr.out.lat
          have q0 := o0 ⟨wr, Ext.rfl' wr⟩
          have q1 := o1 ⟨wr, Ext.rfl' wr⟩
          have q2 := o2 ⟨wr, Ext.rfl' wr⟩
          have q3 := o3 ⟨wr, Ext.rfl' wr⟩
          simp only at q0 q1 q2 q3
          obtain ⟨AR', cR', hv', harr', _, _⟩ := HOr.out.row_lat htx
          rw [Hn.out] at hv' harr'
          have hcell := HOr.out.cur_cell htx Hci.out
          have hfr := HOr.out.curs.frozenAt tx
          have hsame := Hv.out.symm.trans hv'
          injection hsame with hsame
          injection hsame with hs1 hs2 hs3
          subst hs1 hs3
          clear o0 o1 o2 o3 hv'
          by_cases hlt : i < n
          · obtain ⟨b, off, x, hAx, hbx, hx, x0, x1, x2, x3, x4, x5, x6, x7, x8⟩ := Cl.at_ harr' hlt
            have h1 : (i : Int) < (n : Int) := by omega
            have hi0' : (0 : Int) ≤ (i : Int) := by omega
            have hdl1 : decide ((i : Int) < (n : Int)) = true := by simpa using hlt
            have hdl2 : decide (i < n) = true := by simpa using hlt
            subst hAx
            have y4 := x4 ⟨wr, Ext.rfl' wr⟩
            have y5 := x5 ⟨wr, Ext.rfl' wr⟩
            simp only at y4 y5
            clear x0 x1 x2 x3 x4 x5 x6 x7 x8 harr'
            by_cases hov : Over m x
            · obtain ⟨hv1, hv2⟩ := hov
              have HV : Hid (Over m x) := ⟨hv1, hv2⟩
              have hd5 : (x.en == -1) = false := by simpa using hv1
              have hd6 : decide (x.en < m) = true := by simpa using hv2
              go_wp2_with fail
              have hset := HOr.out.set_at tx ((i : Int) + 1)
              have hlen := HOr.out.len.2
              have hm1 := cellInt_of hcell
              have hc2 : (cur'.set tx ((i : Int) + 1))[tx]? = some ((i : Int) + 1) := by rw [List.getElem?_set_self (by omega)]
              have hm2 := cellInt_of (hset.cur_cell htx hc2)
              go_roundw
              case rel =>
                have hdn : ∀ (j : Nat) (x : Cl), j < i + 1 → (rowF l tx)[j]? = some x → Over m x := fun j y hj hy => by
                  by_cases hji : j = i
                  · subst hji
                    rw [hx.out] at hy
                    injection hy with hy
                    subst hy
                    exact HV.out
                  · exact Hdn.out j y (by omega) hy
                refine ⟨cur'.set tx ((i : Int) + 1), i + 1, hset, ?_, hon.out.setCell _ _ fun _ => rfl, hc2, by omega, hdn⟩
                have := HAr.out.set (t := tx) (k := i + 1) (by omega) (by rw [Hn.out]; omega) hdn
                rwa [show ((i + 1 : Nat) : Int) = (i : Int) + 1 from by omega] at this
              case measure =>
                rw [hm1, hm2]
                omega
            · have HR := place_row_some HC.out Hb.out He.out Hdn.out hx.out hov
              rw [HQ.out] at HR
              have HR := Lib.hid HR
              unfold Over at hov
              rcases (by omega : x.en = -1 ∨ (x.en ≠ -1 ∧ ¬ x.en < m)) with h2 | ⟨h2, h3⟩
              case' inl => have hd5 : (x.en == -1) = true := by simpa using h2
              case' inr =>
                have hd5 : (x.en == -1) = false := by simpa using h2
                have hd6 : decide (x.en < m) = false := by simpa using h3
              all_goals
                clear hov
                by_cases hbm : x.bg < m
                case' pos => have hd7 : decide (x.bg < m) = true := by simpa using hbm
                case' neg => have hd7 : decide (x.bg < m) = false := by simpa using hbm
                all_goals
                  rw [hd7] at HR
                  clear hbm
                  go_wp2_with fail
                  go_ret
                  exact ⟨(by first | rfl | exact ret_bool HR.out.symm), cur', HOr.out, HAr.out, hon.out⟩
          · obtain rfl : n = i := by omega
            have HR := place_row_none HC.out Hb.out He.out (fun j x hx => Hdn.out j x (by have := (List.getElem?_eq_some_iff.1 hx).1; have := Hn.out; omega) hx)
            rw [HQ.out] at HR
            have HR := Lib.hid HR
            go_wp2_with fail
            go_ret
            exact ⟨(by first | rfl | exact ret_bool HR.out.symm), cur', HOr.out, HAr.out, hon.out⟩

end Go.Proofs.Ytfbacopjookplaa
