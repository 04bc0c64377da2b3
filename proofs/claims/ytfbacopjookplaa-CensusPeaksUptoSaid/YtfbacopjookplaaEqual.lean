/- The walk of slices.Equal over words. -/
import Derived.Test.YtfbacopjookplaaTrace
namespace Go.Proofs.Ytfbacopjookplaa
open Go.RowKit

set_option maxHeartbeats 2000000 in
theorem equal_any (A : Option Addr) (n c : Nat) (A' : Option Addr) (n' c' : Nat) (ws ws' : List Int) (w : World) (h1 : Rd w A (ws.map (Value.int .u64))) (hl1 : ws.length = n) (h2 : Rd w A' (ws'.map (Value.int .u64))) (hl2 : ws'.length = n') (hb1 : n ≤ 140737488355328) (hb2 : n' ≤ 140737488355328) :
    Calls Try.prog 110 #[.slice A n c, .slice A' n' c'] w (Says (ws = ws') w) := by
  have H1 := Lib.hid h1
  have H2 := Lib.hid h2
  have HL1 := Lib.hid hl1
  have HL2 := Lib.hid hl2
  clear h1 h2 hl1 hl2
  refine start_lat fun k0 => ?_
  by_cases hn : n = n'
  · subst hn
    have hne : ((n : Int) != (n : Int)) = false := by simp
    go_enter Try.func110, Try.ntmps110
    go_wp2_with fail
    go_loopw [13] (fun s13 wr => ∃ (k : Lat w) (i : Nat), wr = k.world ∧ i ≤ n ∧ s13 = .int .i64 i ∧ Hid (ws.take i = ws'.take i)) (fun s _ => n - (intOf s).toNat)
    case atStart => exact ⟨k0, 0, rfl, by omega, rfl, rfl⟩
    case round =>
      obtain ⟨k, i, rfl, hi, rfl, hsame⟩ := hrel
      by_cases hlt : i < n
      · obtain ⟨x, hx⟩ : ∃ x, ws[i]? = some x := ⟨_, List.getElem?_eq_getElem (by rw [HL1.out]; exact hlt)⟩
        obtain ⟨y, hy⟩ : ∃ y, ws'[i]? = some y := ⟨_, List.getElem?_eq_getElem (by rw [HL2.out]; exact hlt)⟩
        obtain ⟨b4, off4, rfl, hb4, hc4⟩ := H1.out.lat (j := i) (u := .int .u64 x) (by simp [hx])
        obtain ⟨b5, off5, rfl, hb5, hc5⟩ := H2.out.lat (j := i) (u := .int .u64 y) (by simp [hy])
        have HX := Lib.hid hx
        have HY := Lib.hid hy
        clear hx hy
        have h1 : (i : Int) < (n : Int) := by omega
        have hi0 : (0 : Int) ≤ (i : Int) := by omega
        by_cases hee : x = y
        case' pos => have hd : (x != y) = false := by simpa using hee
        case' neg => have hd : (x != y) = true := by simpa using hee
        all_goals
          have HEE := Lib.hid hee
          clear hee
          go_upto_region 6 with fail
          refine wp_region_cls (Ext w) (Ext.drew1 k.ok) (by kernel_rfl) (by kernel_rfl) ?_
          repeat (go_big_quiet_step (fail))
          refine wpQuiet_nil ?_
          rintro _ ⟨k6, rfl⟩
          go_wp2_with fail
        · go_ret
          exact says_no (ne_of_at HX HY HEE.out) k6.ok
        · go_roundw
          case rel => exact ⟨k6, i + 1, rfl, by omega, by go_num, take_eq_step hsame HX (by show _ = _; rw [HY.out, HEE.out])⟩
          case measure => simp [intOf]; omega
      · obtain rfl : n = i := by omega
        go_wp2_with fail
        go_ret
        exact says_yes (take_all_eq hsame HL1.out HL2.out) k.ok
  · have hne : ((n : Int) != (n' : Int)) = true := by simp; omega
    have hne2 : (n != n') = true := by simpa using hn
    have HB : Hid (¬ ws = ws') := fun h => hn (by rw [← HL1.out, ← HL2.out, h])
    clear hn
    go_enter Try.func110, Try.ntmps110
    go_wp2_with fail
    go_ret
    exact says_no HB.out k0.ok

end Go.Proofs.Ytfbacopjookplaa
