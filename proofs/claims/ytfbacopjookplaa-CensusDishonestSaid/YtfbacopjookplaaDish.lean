/- The walk of census.Dishonest: the calls that answered wrongly that there is no slot. -/
import Derived.Test.YtfbacopjookplaaStatesW
namespace Go.Proofs.Ytfbacopjookplaa
open Go.RowKit

/-- The move that a call's answer is held against. -/
def moveOf (x : Cl) : Int := if x.op = 10 then x.en else x.pt
/-- A slot that thread t could have. -/
def Spare (st ho : List Int) (t : Int) (n : Nat) : Prop := ∃ j, j < n ∧ (st[j]? = some 0 ∨ (st[j]? = some 1 ∧ ho[j]? = some t))
/-- A dishonest call. -/
def Dis (s u : Nat) (sh : List Sh) (x : Cl) : Prop := x.ak = 4 ∧ moveOf x ≠ -1 ∧ Spare (afterS (beginS s u) (belowM sh (moveOf x))) (afterH (List.replicate s (-1)) (belowM sh (moveOf x))) x.th s
open Classical in
/-- The dishonest ones of the first so many calls. -/
noncomputable def disTo (s u : Nat) (sh : List Sh) (cs : List Cl) : Nat → List Int
  | 0 => []
  | i + 1 => match cs[i]? with
    | some x => if Dis s u sh x then disTo s u sh cs i ++ [(i : Int)] else disTo s u sh cs i
    | none => disTo s u sh cs i
theorem disTo_yes {s u : Nat} {sh : List Sh} {cs : List Cl} {i : Nat} {x : Cl} (hx : cs[i]? = some x) (h : Dis s u sh x) : disTo s u sh cs (i + 1) = disTo s u sh cs i ++ [(i : Int)] := by simp only [disTo, hx]; rw [if_pos h]
theorem disTo_no {s u : Nat} {sh : List Sh} {cs : List Cl} {i : Nat} {x : Cl} (hx : cs[i]? = some x) (h : ¬ Dis s u sh x) : disTo s u sh cs (i + 1) = disTo s u sh cs i := by simp only [disTo, hx]; rw [if_neg h]
theorem disTo_len (s u : Nat) (sh : List Sh) (cs : List Cl) : ∀ i, (disTo s u sh cs i).length ≤ i
  | 0 => by simp [disTo]
  | i + 1 => by
    have := disTo_len s u sh cs i
    simp only [disTo]
    split
    · split
      · simp; omega
      · omega
    · omega
/-- What Dishonest leaves. -/
def DisOut (w : World) (er : Int) (l : List Int) (e : Ending) (w' : World) : Prop :=
  Ext w w' ∧ ((er ≠ 0 ∧ e = .returned (.tuple #[.slice none 0 0, .int .i64 er])) ∨ (er = 0 ∧ ∃ v, e = .returned (.tuple #[v, .int .i64 0]) ∧ w'.ownsRow w.heap.size 3 1 v l.length (l.map (Value.int .i64))))

set_option maxRecDepth 100000 in
set_option maxHeartbeats 8000000 in
theorem dis_any (hM : MaySays) (T R H Re Ca S B used : Int) (A1 : Option Addr) (n1 c1 : Nat) (A2 : Option Addr) (n2 c2 : Nat) (A3 : Option Addr) (n3 c3 : Nat) (A4 : Option Addr) (n4 c4 : Nat) (cs : List Cl) (tr : List Ac) (sh : List Sh) (rw_ : List Int) (w : World)
    (hm : RunMem w A1 n1 A2 n2 A3 n3 A4 n4 cs tr sh rw_) (b1 : n1 * 72 ≤ 140737488355328) :
    Calls Try.prog 41 #[(.agg #[.int .i64 T, .int .i64 R, .int .i64 H, .int .i64 Re, .int .i64 Ca, .int .i64 S, .int .i64 B]), .int .i64 used, .agg #[.slice A1 n1 c1, .slice A2 n2 c2, .slice A3 n3 c3, .slice A4 n4 c4]] w
      (DisOut w (lookF T R H Re Ca S B used cs tr sh rw_) (disTo S.toNat used.toNat sh cs n1)) := by
  have Hm := Lib.hid hm
  have hn1 := hm.big1
  clear hm
  generalize her : lookF T R H Re Ca S B used cs tr sh rw_ = er
  have HER := Lib.hid her
  clear her
  go_enter Try.func41, Try.ntmps41
  go_upto_region 1 with fail
  obtain ⟨w0, hw0, hC, hR, hE, hlt0⟩ := enter2 w (.cells (cfgV T R H Re Ca S B) 23) (.cells #[.slice A1 n1 c1, .slice A2 n2 c2, .slice A3 n3 c3, .slice A4 n4 c4] 48)
  rw [hw0]
  have HE := Lib.hid hE
  have HC := Lib.hid hC
  have HR := Lib.hid hR
  have Hm0 := Lib.hid (Hm.out.ext hE)
  obtain ⟨d0, d1, d2, d3, d4, d5, d6⟩ := Lat.cfg hC
  obtain ⟨r0, r1, r2, r3⟩ := Lat.run hR
  obtain ⟨k0, hk0⟩ := lat_self w0
  rw [hk0]
  clear hw0 hC hR hE hk0 hlt0
  go_wp2_with fail
  refine (cRefused_any hM T R H Re Ca S B used A1 n1 c1 A2 n2 c2 A3 n3 c3 A4 n4 c4 cs tr sh rw_ _ (Hm0.out.ext k0.ok) b1).mono ?_
  rintro e w1 ⟨rfl, e1⟩
  obtain ⟨k1, rfl⟩ := lat_next k0 e1
  rw [HER.out]
  clear e1
  by_cases he : er = 0
  · subst he
    obtain ⟨s, u, rfl, hs1, hs2, rfl, hmay, hsl, hri⟩ := look_zero HER.out
    have Hmay := Lib.hid hmay
    have Hsl := Lib.hid hsl
    have Hri := Lib.hid hri
    clear hmay hsl hri
    have hl0 := World.ownsRow_nil k1.world w0.heap.size 3 1
    go_upto_region 6 with fail
    go_loopw [9, 26] (fun s9 s26 wr => ∃ (k : Lat w0) (i : Nat), wr = k.world ∧ i ≤ n1 ∧ s26 = .int .i64 i ∧ Hid (k.world.ownsRow w0.heap.size 3 1 s9 (disTo s u sh cs i).length ((disTo s u sh cs i).map (Value.int .i64)))) (fun _ s_ _ => n1 - (intOf s_).toNat)
    case atStart => exact ⟨k1, 0, rfl, by omega, rfl, hl0⟩
    case round =>
      clear hl0 k1 k0
      obtain ⟨k, i, rfl, hi, rfl, hown⟩ := hrel
      obtain ⟨A9, c9, rfl⟩ := own_form hown.out
      by_cases hlt : i < n1
      · obtain ⟨ba, off, x, hAx, hb, hx, x0, x1, x2, x3, x4, x5, x6, x7, x8⟩ := Cl.at_ Hm0.out.calls hlt
        have z1 : (i : Int) < (n1 : Int) := by omega
        have z0 : (0 : Int) ≤ (i : Int) := by omega
        subst hAx
        go_upto_region 8 with fail
        obtain ⟨w3, hw3, hX, hE3, hlt3⟩ := enter1 k.world (.cells #[.int .i64 x.th, .int .i64 x.op, .int .i64 x.arg, .int .i64 x.dat, .int .i64 x.bg, .int .i64 x.en, .int .i64 x.pt, .int .i64 x.ak, .int .i64 x.av] 150)
        rw [hw3]
        clear x0 x1 x2 x3 x4 x5 x6 x7 x8
        obtain ⟨x0, x1, x2, x3, x4, x5, x6, x7, x8⟩ := Cl.boxed hX
        have HE3 := Lib.hid (Ext.next k.ok hE3)
        have HX3 := Lib.hid hX
        have Hown3 := Lib.hid (own_ext hown.out hE3)
        clear d0 d1 d2 d3 d4 d5 d6 r0 r1 r2 r3
        obtain ⟨d0, d1, d2, d3, d4, d5, d6⟩ := Lat.cfg (ext_blk HE3.out HC.out)
        obtain ⟨r0, r1, r2, r3⟩ := Lat.run (ext_blk HE3.out HR.out)
        obtain ⟨k3, hk3⟩ := lat_self w3
        rw [hk3]
        generalize k.world.heap.size = px at *
        have Hm3 := Lib.hid (Hm0.out.ext HE3.out)
        clear hw3 hX hE3 hk3 hlt3 hown
        have hmo : moveOf x = if x.op = 10 then x.en else x.pt := rfl
        by_cases hop : x.op = 10
        case' pos =>
          have hd1 : (x.op == 10) = true := beq_iff_eq.2 hop
          rw [if_pos hop] at hmo
          obtain ⟨mo, hme⟩ : ∃ mo, x.en = mo := ⟨_, rfl⟩
          rw [hme] at x5 hmo
        case' neg =>
          have hd1 : (x.op == 10) = false := beq_eq_false_iff_ne.2 hop
          rw [if_neg hop] at hmo
          obtain ⟨mo, hme⟩ : ∃ mo, x.pt = mo := ⟨_, rfl⟩
          rw [hme] at x6 hmo
        all_goals
          have Hmo := Lib.hid hmo
          clear hop hmo hme
          by_cases hcn : x.ak = 4 ∧ mo ≠ -1
          · obtain ⟨hak, hmn⟩ := hcn
            have Hak := Lib.hid hak
            have Hmn := Lib.hid hmn
            have g1 : (x.ak == 4) = true := beq_iff_eq.2 hak
            have g2 : (x.ak != 4) = false := by simpa using hak
            have g3 : (mo == -1) = false := beq_eq_false_iff_ne.2 hmn
            clear hak hmn
            go_wp2_with fail
            refine (ahead_any T R H Re Ca s B s rfl hs1 hs2 u _ n1 c1 A2 n2 c2 A3 n3 c3 A4 n4 c4 sh mo _ (Hm3.out.ext k3.ok).shifts Hm.out.big3 Hsl.out Hri.out).mono ?_
            rintro e w5 ⟨p, g1', q1, g2', q2, rfl, hS, e5⟩
            have HS5 := Lib.hid hS
            have HE5 := Lib.hid (Ext.next k3.ok e5)
            have Hown5 := Lib.hid (own_ext Hown3.out HE5.out)
            obtain ⟨y0, y1⟩ := hS.lat
            clear x0 x1 x2 x3 x4 x5 x6 x7 x8 e5 d0 d1 d2 d3 d4 d5 d6 r0 r1 r2 r3
            obtain ⟨x0, x1, x2, x3, x4, x5, x6, x7, x8⟩ := Cl.boxed (ext_blk HE5.out HX3.out)
            obtain ⟨k5, hk5⟩ := lat_self w5
            rw [hk5]
            go_upto_region 14 with fail
            rw [← hk5]
            clear hk5 k5 hS
            generalize hst : afterS (beginS s u) (belowM sh mo) = st at HS5
            generalize hho : afterH (List.replicate s (-1)) (belowM sh mo) = ho at HS5
            have HD : Hid (Dis s u sh x ↔ Spare st ho x.th s) := by
              show _ ↔ _
              unfold Dis
              rw [Hmo.out, hst, hho]
              exact ⟨fun h => h.2.2, fun h => ⟨Hak.out, Hmn.out, h⟩⟩
            clear hst hho
            go_loopw [9, 56] (fun s9 s56 wr => ∃ (k : Lat w5) (j : Nat), s9 = .slice A9 (disTo s u sh cs i).length c9 ∧ wr = k.world ∧ j ≤ s ∧ s56 = .int .i64 j ∧ Hid (∀ t, t < j → ¬ (st[t]? = some 0 ∨ (st[t]? = some 1 ∧ ho[t]? = some x.th)))) (fun _ s_ _ => s - (intOf s_).toNat)
            case atStart => exact ⟨⟨w5, Ext.rfl' _⟩, 0, rfl, rfl, by omega, rfl, fun t ht => absurd ht (Nat.not_lt_zero _)⟩
            case round =>
              obtain ⟨k, j, rfl, rfl, hj, rfl, hnone⟩ := hrel
              by_cases hjs : j < s
              · have z3 : (j : Int) < (s : Int) := by omega
                have z4 : (0 : Int) ≤ (j : Int) := by omega
                obtain ⟨v, hv, v1⟩ := HS5.out.lat1 hjs
                obtain ⟨t, ht, t1⟩ := HS5.out.lat2 hjs
                have Hv := Lib.hid hv
                have Ht := Lib.hid ht
                clear hv ht
                by_cases hsp : v = 0 ∨ (v = 1 ∧ t = x.th)
                · have HDY : Hid (Dis s u sh x) := HD.out.2 ⟨j, hjs, by
                    rcases hsp with h | ⟨h1, h2⟩
                    · exact .inl (by rw [Hv.out, h])
                    · exact .inr ⟨by rw [Hv.out, h1], by rw [Ht.out, h2]⟩⟩
                  have Hdy := Lib.hid (disTo_yes hx.out HDY.out)
                  rcases (by omega : v = 0 ∨ (v ≠ 0 ∧ v = 1 ∧ t = x.th)) with h1 | ⟨h1, h2, h3⟩
                  case' inl => have f1 : (v == 0) = true := beq_iff_eq.2 h1
                  case' inr =>
                    have f1 : (v == 0) = false := beq_eq_false_iff_ne.2 h1
                    have f2 : (v == 1) = true := beq_iff_eq.2 h2
                    have f3 : (t == x.th) = true := beq_iff_eq.2 h3
                    clear h2 h3
                  all_goals
                    clear h1 hsp
                    have hlen := disTo_len s u sh cs i
                    go_upto_region 16 with fail
                    refine wp_region_cls (Ext w5) (Ext.drew1 k.ok) (by kernel_rfl) (by kernel_rfl) ?_
                    repeat (go_big_quiet_step (fail))
                    refine wpQuiet_nil ?_
                    rintro _ ⟨k6, rfl⟩
                    have hoK := own_ext Hown5.out k6.ok
                    have hE6 := Ext.next HE3.out (Ext.next HE5.out k6.ok)
                    have hsz := hE6.size
                    go_wp2_with (at_builtin; refine wpList_push _ rfl _ _ 26 rfl w0.heap.size 3 1 8 elemInt' Try.underlying26 _ _ _ rfl hoK _ rfl rfl (by simp [Value.oneCell']) (by omega) hsz ?_; intro v7 w7 hown7 hgrow7 hat7)
                    have hE9 : Ext w0 w7 := hE6.only (Only.of_grown hgrow7) fun q hq => (hoK.lt q hq.symm).1
                    have hO7 : Hid (w7.ownsRow w0.heap.size 3 1 v7 (disTo s u sh cs (i + 1)).length ((disTo s u sh cs (i + 1)).map (Value.int .i64))) := by
                      show World.ownsRow _ _ _ _ _ _ _
                      rw [Hdy.out]
                      simpa using hown7
                    obtain ⟨k9, hk9⟩ := lat_of hE9
                    rw [hk9] at hO7 ⊢
                    clear hk9 hown7 hgrow7 hat7 hoK hE6 hsz hE9 hlen
                    go_wp2_with fail
                    go_roundw
                    case rel => exact ⟨k9, i + 1, rfl, by omega, by go_num, hO7.out⟩
                    case measure => simp [intOf]; omega
                · have hn' : Hid (∀ t, t < j + 1 → ¬ (st[t]? = some 0 ∨ (st[t]? = some 1 ∧ ho[t]? = some x.th))) := fun t' ht' => by
                    by_cases h : t' = j
                    · subst h
                      rw [Hv.out, Ht.out]
                      intro hh
                      refine hsp ?_
                      rcases hh with hh | ⟨hh, hh2⟩
                      · injection hh with hh; exact .inl hh
                      · injection hh with hh; injection hh2 with hh2; exact .inr ⟨hh, hh2⟩
                    · exact hnone.out t' (by omega)
                  rcases (by omega : (v ≠ 0 ∧ v ≠ 1) ∨ (v = 1 ∧ t ≠ x.th)) with ⟨h1, h2⟩ | ⟨h1, h2⟩
                  case' inl =>
                    have f1 : (v == 0) = false := beq_eq_false_iff_ne.2 h1
                    have f2 : (v == 1) = false := beq_eq_false_iff_ne.2 h2
                  case' inr =>
                    have f1 : (v == 0) = false := beq_eq_false_iff_ne.2 (by omega)
                    have f2 : (v == 1) = true := beq_iff_eq.2 h1
                    have f3 : (t == x.th) = false := beq_eq_false_iff_ne.2 h2
                  all_goals
                    clear h1 h2 hsp
                    go_upto_region 16 with fail
                    refine wp_region_cls (Ext w5) (Ext.drew1 k.ok) (by kernel_rfl) (by kernel_rfl) ?_
                    repeat (go_big_quiet_step (fail))
                    refine wpQuiet_nil ?_
                    rintro _ ⟨k6, rfl⟩
                    go_wp2_with fail
                    go_roundw
                    case rel => exact ⟨k6, j + 1, rfl, rfl, by omega, by go_num, hn'⟩
                    case measure => simp [intOf]; omega
              · obtain rfl : s = j := by omega
                have HDN := Lib.hid (disTo_no hx.out (fun h => by
                  obtain ⟨j, hj, hh⟩ := HD.out.1 h
                  exact hnone.out j hj hh))
                have HE9 := Lib.hid (Ext.next HE3.out (Ext.next HE5.out k.ok))
                have hoK := Lib.hid (own_ext Hown5.out k.ok)
                obtain ⟨k9, hk9⟩ := lat_of HE9.out
                rw [hk9] at hoK ⊢
                clear hk9 x0 x1 x2 x3 x4 x5 x6 x7 x8 y0 y1
                go_wp2_with fail
                go_roundw
                case rel => exact ⟨k9, i + 1, rfl, by omega, by go_num, by rw [HDN.out]; exact hoK.out⟩
                case measure => simp [intOf]; omega
          · have HDN := Lib.hid (disTo_no (s := s) (u := u) (sh := sh) hx.out (fun h => hcn ⟨h.1, by rw [← Hmo.out]; exact h.2.1⟩))
            have HE9 := Lib.hid (Ext.next HE3.out k3.ok)
            have hoK := Lib.hid (own_ext Hown3.out k3.ok)
            rcases (by omega : x.ak ≠ 4 ∨ (x.ak = 4 ∧ mo = -1)) with h1 | ⟨h1, h2⟩
            case' inl =>
              have g1 : (x.ak == 4) = false := beq_eq_false_iff_ne.2 h1
              have g2 : (x.ak != 4) = true := by simpa using h1
            case' inr =>
              have g1 : (x.ak == 4) = true := beq_iff_eq.2 h1
              have g2 : (x.ak != 4) = false := by simpa using h1
              have g3 : (mo == -1) = true := beq_iff_eq.2 h2
              clear h2
            all_goals
              clear h1 hcn
              go_wp2_with fail
              obtain ⟨k9, hk9⟩ := lat_of HE9.out
              rw [hk9] at hoK ⊢
              clear hk9
              go_roundw
              case rel => exact ⟨k9, i + 1, rfl, by omega, by go_num, by rw [HDN.out]; exact hoK.out⟩
              case measure => simp [intOf]; omega
      · obtain rfl : n1 = i := by omega
        go_wp2_with fail
        go_ret2
        simp only [Int.toNat_natCast]
        exact ⟨Ext.next HE.out k.ok, .inr ⟨rfl, _, rfl, own_base hown.out HE.out.size⟩⟩
  · have hb : (er != 0) = true := by simpa using he
    have Hne := Lib.hid he
    clear he
    go_wp2_with fail
    go_ret2
    exact ⟨Ext.next HE.out k1.ok, .inl ⟨Hne.out, rfl⟩⟩

end Go.Proofs.Ytfbacopjookplaa
