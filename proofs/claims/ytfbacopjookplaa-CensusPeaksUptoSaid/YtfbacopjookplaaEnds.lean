/- The walk of the document's ends: whether no move is marked twice. -/
import Derived.Test.YtfbacopjookplaaCallsPure
import Derived.Test.YtfbacopjookplaaNewWalker
import Derived.Test.YtfbacopjookplaaFirst
namespace Go.Proofs.Ytfbacopjookplaa
open Go.RowKit

/-- A Bool that says whether. -/
def Says (p : Prop) (w : World) (e : Ending) (w' : World) : Prop := ∃ b : Bool, e = .returned (.bool b) ∧ (b = true ↔ p) ∧ Ext w w'
theorem says_no {p : Prop} {w w' : World} (h : ¬ p) (e : Ext w w') : Says p w (.returned (.bool false)) w' := ⟨false, rfl, by simp [h], e⟩
theorem says_yes {p : Prop} {w w' : World} (h : p) (e : Ext w w') : Says p w (.returned (.bool true)) w' := ⟨true, rfl, by simp [h], e⟩

theorem own_bools_set {w : World} {B g n c j : Nat} {e : TypeId} {l : List Bool} (x : Bool) (h : w.ownsRow B e 1 (.slice (some ⟨g, 0, none⟩) n c) n (l.map Value.bool)) : (w.setCell ⟨g, j, none⟩ (.bool x)).ownsRow B e 1 (.slice (some ⟨g, 0, none⟩) n c) n ((l.set j x).map Value.bool) := by
  have := (h.stored j (.bool x)).1
  rwa [List.map_set]

set_option maxRecDepth 100000 in
set_option maxHeartbeats 2000000 in
theorem ends_any (T : Int) (A : Option Addr) (n c : Nat) (l : List Cl) (w : World) (h : Arr Cl.enc w A n l) (hbig : n ≤ 140737488355328) (hA : CallsA T (-1) l) :
    Calls Try.prog 148 #[.slice A n c] w (Says (EndsOK l) w) := by
  have Hh := Lib.hid h
  have HA := Lib.hid hA
  clear h hA
  refine start_lat fun k0 => ?_
  go_enter Try.func148, Try.ntmps148
  go_wp2_with fail
  go_loop [3, 4] (fun s3 s4 => ∃ (i : Nat) (t : Int), i ≤ n ∧ s4 = .int .i64 i ∧ s3 = .int .i64 t ∧ 0 ≤ t ∧ Hid (∀ (j : Nat) (x : Cl), j < i → l[j]? = some x → x.en ≤ t ∧ x.bg ≤ t)) (fun _ s => n - (intOf s).toNat)
  case atStart => exact ⟨0, 0, by omega, rfl, rfl, by omega, fun j x hj => by omega⟩
  case round =>
    obtain ⟨i, t, hi, rfl, rfl, ht0, hT⟩ := hrel
    by_cases hlt : i < n
    · obtain ⟨b, off, x, rfl, hb, hx, x0, x1, x2, x3, x4, x5, x6, x7, x8⟩ := Cl.at_ Hh.out hlt
      have h1 : (i : Int) < (n : Int) := by omega
      have hstep : ∀ t', t ≤ t' → x.en ≤ t' → x.bg ≤ t' → Hid (∀ (j : Nat) (x : Cl), j < i + 1 → l[j]? = some x → x.en ≤ t' ∧ x.bg ≤ t') := by
        intro t' h1 h2 h3 j y hj hy
        by_cases hji : j = i
        · subst hji
          rw [hx.out] at hy
          injection hy with hy
          subst hy
          exact ⟨h2, h3⟩
        · have := hT.out j y (by omega) hy
          omega
      have Hs := Lib.hid hstep
      clear hstep
      go_wp2_with fail
      all_goals
        go_round
        case rel => exact ⟨i + 1, _, by omega, by go_num, rfl, by omega, Hs.out _ (by omega) (by omega) (by omega)⟩
        case measure => simp [intOf]; omega
    · obtain rfl : n = i := by omega
      have hall : Hid (∀ x ∈ l, x.en ≤ t ∧ x.bg ≤ t) := by
        intro x hx
        obtain ⟨j, hj⟩ := List.getElem?_of_mem hx
        have := (List.getElem?_eq_some_iff.1 hj).1
        exact hT.out j x (by rw [← Hh.out.1]; exact this) hj
      clear hT
      by_cases hsm : t ≤ 262144
      · obtain ⟨N, hN⟩ : ∃ N : Nat, t + 1 = (N : Int) := ⟨(t + 1).toNat, by omega⟩
        have hmk := fun W => run_make1 zeroBool rfl Try.underlying107 (N : Int) (by omega) (by omega) (by omega) W
        simp only [Int.toNat_natCast] at hmk
        have HN := Lib.hid hN
        go_upto_region 11 with fail
        obtain ⟨w2, hw2, ho2, e2, hlt2⟩ := made1 k0.world w.heap.size N k0.ok.size (by omega) 4 (.bool false)
        rw [hw2]
        have hgW := k0.ok.size
        generalize k0.world.heap.size = g at *
        obtain ⟨k2, rfl⟩ := lat_next k0 e2
        rw [show List.replicate N (Value.bool false) = (List.replicate N false).map Value.bool by simp] at ho2
        have HO2 := Lib.hid ho2
        clear hw2 e2 ho2 hlt2 hN hmk
        go_wp2_with fail
        go_loopw [6] (fun s6 wr => ∃ (k : Lat w) (i : Nat) (seen : List Bool), wr = k.world ∧ i ≤ n ∧ s6 = .int .i64 i ∧ Hid (k.world.ownsRow w.heap.size 4 1 (.slice (some ⟨g, 0, none⟩) N N) N (seen.map Value.bool)) ∧ Hid (∀ m : Nat, m < N → seen[m]? = some ((l.take i).any (mark m))) ∧ Hid (GoodTo l i)) (fun s _ => n - (intOf s).toNat)
        case atStart =>
          refine ⟨k2, 0, List.replicate N false, rfl, by omega, rfl, HO2.out, ?_, ?_⟩
          · intro m hm
            rw [List.getElem?_replicate, if_pos hm]
            rfl
          · intro a b ha
            omega
        case round =>
          obtain ⟨k, i, seen, rfl, hi, rfl, hown, hseen, hgood⟩ := hrel
          by_cases hlt : i < n
          · obtain ⟨b, off, x, rfl, hb, hx, x0, x1, x2, x3, x4, x5, x6, x7, x8⟩ := Cl.at_ Hh.out hlt
            have h1 : (i : Int) < (n : Int) := by omega
            obtain ⟨⟨_, hbg0, hen, _⟩, _⟩ := callsA_all HA.out i x hx.out
            obtain ⟨hte, htb⟩ := hall.out x (List.mem_of_getElem? hx.out)
            have hslen : seen.length = N := by have := hown.out.1; simpa using this
            obtain ⟨mb, hmb⟩ : ∃ mb : Nat, x.bg = mb := ⟨x.bg.toNat, by omega⟩
            have hNN := HN.out
            have hmbN : mb < N := by omega
            have hmbi : (mb : Int) < (N : Int) := by omega
            rw [hmb] at x4
            have hcm : k.world.cell? ⟨g, mb, none⟩ = some (.bool ((l.take i).any (mark mb))) := (hown.out.cellAt mb (by omega)).trans (by rw [List.getElem?_map, hseen.out mb hmbN]; rfl)
            have hfm := hown.out.frozenAt mb
            have Hstep := Lib.hid (seen_step hx.out hmb hslen hmbN hseen.out)
            have Hmb := Lib.hid hmb
            have Hbad := Lib.hid (fun h => good_bg HA.out hx.out (hmb ▸ h))
            have Hbe := Lib.hid (fun h0 h => good_en (l := l) (i := i) hx.out h0 h)
            have Hgo := Lib.hid (fun h1 h2 => good_step HA.out hx.out hgood.out (hmb ▸ h1) h2)
            have hne : ∀ me : Nat, x.en = me → (l.take i).any (mark me) = (l.take i).any (mark x.en) := fun me h => by rw [h]
            have hseq : ∀ me : Nat, x.en = me → me ≠ mb := fun me h => by omega
            have Hne := Lib.hid hne
            clear hNN hmb hslen htb hbg0 hne
            cases hv : (l.take i).any (mark mb) with
            | true =>
              rw [hv] at hcm
              have HV := Lib.hid hv
              clear hv hen hte hseq
              go_wp2_with fail
              go_ret
              exact says_no (Hbad.out HV.out) k.ok
            | false =>
              rw [hv] at hcm
              have HV := Lib.hid hv
              clear hv
              by_cases hen0 : 0 ≤ x.en
              · obtain ⟨me, hme⟩ : ∃ me : Nat, x.en = me := ⟨x.en.toNat, by omega⟩
                have hneq := hseq me hme
                have hmeN : me < N := by have := HN.out; omega
                have hmei : (me : Int) < (N : Int) := by omega
                rw [hme] at x5
                have Hme := Lib.hid hme
                clear hseq hme hen hte hen0
                go_upto_region 17 with fail
                have e5 := own_store (j := mb) hown.out k.ok (Nat.le_refl _) (.bool true)
                have ho5 := own_bools_set (j := mb) true hown.out
                obtain ⟨k5, hk5⟩ := lat_of e5
                rw [hk5] at ho5 ⊢
                have HO5 := Lib.hid ho5
                have hcm5 : k5.world.cell? ⟨g, me, none⟩ = some (.bool ((l.take i).any (mark me))) := (HO5.out.cellAt me (by omega)).trans (by rw [List.getElem?_map, List.getElem?_set_ne (Ne.symm hneq), hseen.out me hmeN]; rfl)
                have hfm5 := HO5.out.frozenAt me
                clear hk5 e5 ho5 hcm hfm hneq
                cases hv2 : (l.take i).any (mark me) with
                | true =>
                  rw [hv2] at hcm5
                  have HV2 := Lib.hid hv2
                  clear hv2
                  go_wp2_with fail
                  go_ret
                  exact says_no (Hbe.out (by rw [Hme.out]; omega) (by rw [Hme.out]; exact HV2.out)) k5.ok
                | false =>
                  rw [hv2] at hcm5
                  have HV2 := Lib.hid hv2
                  clear hv2
                  go_wp2_with fail
                  have e6 := own_store (j := me) HO5.out k5.ok (Nat.le_refl _) (.bool true)
                  have ho6 := own_bools_set (j := me) true HO5.out
                  obtain ⟨k6, hk6⟩ := lat_of e6
                  rw [hk6] at ho6 ⊢
                  have HO6 := Lib.hid ho6
                  clear hk6 e6 ho6 hcm5 hfm5
                  go_roundw
                  case rel => exact ⟨k6, i + 1, (seen.set mb true).set me true, rfl, by omega, by go_num, HO6.out, Hstep.out.2 me Hme.out hmeN, Hgo.out HV.out (fun _ => by rw [Hme.out]; exact HV2.out)⟩
                  case measure => simp [intOf]; omega
              · have hen1 : x.en < 0 := by omega
                clear hseq hen hte hen0
                go_wp2_with fail
                have e5 := own_store (j := mb) hown.out k.ok (Nat.le_refl _) (.bool true)
                have ho5 := own_bools_set (j := mb) true hown.out
                obtain ⟨k5, hk5⟩ := lat_of e5
                rw [hk5] at ho5 ⊢
                have HO5 := Lib.hid ho5
                clear hk5 e5 ho5 hcm hfm
                go_roundw
                case rel => exact ⟨k5, i + 1, seen.set mb true, rfl, by omega, by go_num, HO5.out, Hstep.out.1 hen1, Hgo.out HV.out (fun h => by omega)⟩
                case measure => simp [intOf]; omega
          · obtain rfl : n = i := by omega
            go_wp2_with fail
            go_ret
            exact says_yes (good_all Hh.out.1 hgood.out) k.ok
      · have hsm1 : 262144 < t := by omega
        clear hsm
        go_wp2_with fail
        go_loopw [7] (fun s7 wr => ∃ (k : Lat w) (i : Nat), wr = k.world ∧ i ≤ n ∧ s7 = .int .i64 i ∧ Hid (∀ a b, a < i → ¬ BadEnds l a b)) (fun s _ => n - (intOf s).toNat)
        case atStart => exact ⟨k0, 0, rfl, by omega, rfl, fun a b h => by omega⟩
        case round =>
          obtain ⟨k, i, rfl, hi, rfl, hgood⟩ := hrel
          by_cases hlt : i < n
          · obtain ⟨b, off, x, hAx, hb, hx, x0, x1, x2, x3, x4, x5, x6, x7, x8⟩ := Cl.at_ Hh.out hlt
            have h1 : (i : Int) < (n : Int) := by omega
            have hi0 : (0 : Int) ≤ (i : Int) := by omega
            subst hAx
            go_wp2_with fail
            obtain ⟨wo, hwo⟩ : ∃ wo : World, wo = k.world := ⟨_, rfl⟩
            have Hwo := Lib.hid hwo
            clear hwo
            go_loopw [8] (fun s8 wr => ∃ (k : Lat w) (j : Nat), wr = k.world ∧ j ≤ n ∧ s8 = .int .i64 j ∧ Hid (∀ b, b < j → ¬ BadEnds l i b)) (fun s _ => n - (intOf s).toNat)
            case atStart => exact ⟨k, 0, rfl, by omega, rfl, fun b h => by omega⟩
            case round =>
              obtain ⟨k5, j, rfl, hj, rfl, hin⟩ := hrel
              by_cases hjn : j < n
              · obtain ⟨b', off', y, hAy, _, hy, y0, y1, y2, y3, y4, y5, y6, y7, y8⟩ := Cl.at_ Hh.out hjn
                injection hAy with hAy
                injection hAy with he1 he2
                subst he1 he2
                have h2 : (j : Int) < (n : Int) := by omega
                have hj0 : (0 : Int) ≤ (j : Int) := by omega
                have Hok : Hid (¬ BadEnds l i j → ∀ b, b < j + 1 → ¬ BadEnds l i b) := fun hnb b hbj => by
                  by_cases hbe : b = j
                  · subst hbe; exact hnb
                  · exact hin.out b (by omega)
                have Hcase : Hid (∀ q : BadEnds l i j, 0 ≤ x.en ∧ (x.en = y.bg ∨ i ≠ j ∧ x.en = y.en)) := by
                  rintro ⟨x', y', hx', hy', hh⟩
                  rw [hx.out] at hx'
                  rw [hy.out] at hy'
                  injection hx' with hx'
                  injection hy' with hy'
                  subst hx' hy'
                  exact hh
                have Hbad : Hid (0 ≤ x.en ∧ (x.en = y.bg ∨ i ≠ j ∧ x.en = y.en) → ¬ EndsOK l) := fun hh => by
                  rw [endsOK_iff]
                  exact fun hall => hall i j ⟨x, y, hx.out, hy.out, hh⟩
                have hsplit : (x.en < 0 ∨ (0 ≤ x.en ∧ x.en ≠ y.bg ∧ i = j) ∨ (0 ≤ x.en ∧ x.en ≠ y.bg ∧ i ≠ j ∧ x.en ≠ y.en)) ∨ ((0 ≤ x.en ∧ x.en = y.bg) ∨ (0 ≤ x.en ∧ x.en ≠ y.bg ∧ i ≠ j ∧ x.en = y.en)) := by omega
                rcases hsplit with hgo | hno
                · have HN : Hid (¬ BadEnds l i j) := fun hq => by
                    have := Hcase.out hq
                    omega
                  rcases hgo with h3 | ⟨h3, h4, h5⟩ | ⟨h3, h4, h5, h6⟩
                  case' inl => have hd : decide (0 ≤ x.en) = false := by simp; omega
                  case' inr.inl =>
                    have hd : decide (0 ≤ x.en) = true := by simp; omega
                    have hd2 : (x.en == y.bg) = false := beq_eq_false_iff_ne.2 h4
                    have hd3 : ((i : Int) != (j : Int)) = false := by simp [h5]
                    have hd4 : (i != j) = false := by simp [h5]
                    clear h4 h5
                  case' inr.inr =>
                    have hd : decide (0 ≤ x.en) = true := by simp; omega
                    have hd2 : (x.en == y.bg) = false := beq_eq_false_iff_ne.2 h4
                    have hd3 : ((i : Int) != (j : Int)) = true := by simp; omega
                    have hd4 : (i != j) = true := by simp [h5]
                    have hd5 : (x.en == y.en) = false := beq_eq_false_iff_ne.2 h6
                    clear h4 h5 h6
                  all_goals
                    go_wp2_with fail
                    refine wp_region_cls (Ext w) (Ext.drew1 k5.ok) (by kernel_rfl) (by kernel_rfl) ?_
                    repeat (go_big_quiet_step (fail))
                    refine wpQuiet_nil ?_
                    rintro _ ⟨k6, rfl⟩
                    go_wp2_with fail
                    go_roundw
                    case rel => exact ⟨k6, j + 1, rfl, by omega, by go_num, Hok.out HN.out⟩
                    case measure => simp [intOf]; omega
                · have HE : Hid (¬ EndsOK l) := Hbad.out (by omega)
                  rcases hno with ⟨h3, h4⟩ | ⟨h3, h4, h5, h6⟩
                  case' inl =>
                    have hd : decide (0 ≤ x.en) = true := by simp; omega
                    have hd2 : (x.en == y.bg) = true := beq_iff_eq.2 h4
                    clear h4
                  case' inr =>
                    have hd : decide (0 ≤ x.en) = true := by simp; omega
                    have hd2 : (x.en == y.bg) = false := beq_eq_false_iff_ne.2 h4
                    have hd3 : ((i : Int) != (j : Int)) = true := by simp; omega
                    have hd4 : (i != j) = true := by simp [h5]
                    have hd5 : (x.en == y.en) = true := beq_iff_eq.2 h6
                    clear h4 h5 h6
                  all_goals
                    go_wp2_with fail
                    refine wp_region_cls (Ext w) (Ext.drew1 k5.ok) (by kernel_rfl) (by kernel_rfl) ?_
                    repeat (go_big_quiet_step (fail))
                    refine wpQuiet_nil ?_
                    rintro _ ⟨k6, rfl⟩
                    go_wp2_with fail
                    go_ret
                    exact says_no HE.out k6.ok
              · obtain rfl : n = j := by omega
                have hnext : Hid (∀ a b, a < i + 1 → ¬ BadEnds l a b) := fun a b ha => by
                  by_cases hae : a = i
                  · subst hae
                    intro hq
                    obtain ⟨x', y', hx', hy', hh⟩ := hq
                    have hbl := (List.getElem?_eq_some_iff.1 hy').1
                    rw [Hh.out.1] at hbl
                    exact hin.out b hbl ⟨x', y', hx', hy', hh⟩
                  · exact hgood.out a b (by omega)
                go_wp2_with fail
                go_roundw
                case rel => exact ⟨k5, i + 1, rfl, by omega, by go_num, hnext⟩
                case measure => simp [intOf]; omega
          · obtain rfl : n = i := by omega
            go_wp2_with fail
            go_ret
            exact says_yes (good_all Hh.out.1 fun a b ha _ => hgood.out a b ha) k.ok

end Go.Proofs.Ytfbacopjookplaa
