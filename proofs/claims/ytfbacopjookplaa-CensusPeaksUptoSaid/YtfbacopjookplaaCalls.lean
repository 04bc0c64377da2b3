/- The walk of the document's calls: whether the calls go together. -/
import Derived.Test.YtfbacopjookplaaEnds
import Derived.Test.YtfbacopjookplaaRefSlots
import Derived.Deep.DeepCutAuto
namespace Go.Proofs.Ytfbacopjookplaa
open Go.RowKit

theorem Cl.boxed {w0 : World} {b : Nat} {t : TypeId} {x : Cl} (h : w0.heap[b]? = some (.cells #[.int .i64 x.th, .int .i64 x.op, .int .i64 x.arg, .int .i64 x.dat, .int .i64 x.bg, .int .i64 x.en, .int .i64 x.pt, .int .i64 x.ak, .int .i64 x.av] t (0, 0))) :
    (∀ c : Lat w0, c.world.cell? ⟨b, 0, none⟩ = some (.int .i64 x.th)) ∧ (∀ c : Lat w0, c.world.cell? ⟨b, 1, none⟩ = some (.int .i64 x.op)) ∧ (∀ c : Lat w0, c.world.cell? ⟨b, 2, none⟩ = some (.int .i64 x.arg)) ∧ (∀ c : Lat w0, c.world.cell? ⟨b, 3, none⟩ = some (.int .i64 x.dat)) ∧
    (∀ c : Lat w0, c.world.cell? ⟨b, 4, none⟩ = some (.int .i64 x.bg)) ∧ (∀ c : Lat w0, c.world.cell? ⟨b, 5, none⟩ = some (.int .i64 x.en)) ∧
    (∀ c : Lat w0, c.world.cell? ⟨b, 6, none⟩ = some (.int .i64 x.pt)) ∧ (∀ c : Lat w0, c.world.cell? ⟨b, 7, none⟩ = some (.int .i64 x.ak)) ∧ (∀ c : Lat w0, c.world.cell? ⟨b, 8, none⟩ = some (.int .i64 x.av)) :=
  ⟨Lat.cells h rfl, Lat.cells h rfl, Lat.cells h rfl, Lat.cells h rfl, Lat.cells h rfl, Lat.cells h rfl, Lat.cells h rfl, Lat.cells h rfl, Lat.cells h rfl⟩

theorem eqb (a b c d : Int) : ((a == b) = (c == d)) = (a = b ↔ c = d) := by
  apply propext
  rw [Bool.eq_iff_iff]
  simp
def Phi5 (T : Int) (x : Cl) : Prop := x.th < 0 ∨ T ≤ x.th ∨ x.bg < 0 ∨ (x.en ≠ -1 ∧ x.en ≤ x.bg)
def Phi9 (x : Cl) : Prop := x.pt ≠ -1 ∧ (x.pt ≤ x.bg ∨ (x.en ≠ -1 ∧ x.en < x.pt))
def Phi12 (x : Cl) : Prop := x.ak < 0 ∨ 6 < x.ak ∨ ¬ (x.ak = 0 ↔ x.en = -1) ∨ (x.ak ≠ 2 ∧ x.av ≠ 0)

theorem zeroInt : (Try.prog.info? 3).map (fun i => (i.zero, i.size, i.bytes)) = some (some (.int .i64 0), 1, 8) := by kernel_rfl
set_option maxRecDepth 100000 in
set_option maxHeartbeats 4000000 in
theorem calls_any (T R H Re Ca S B : Int) (hT1 : 1 ≤ T) (hT2 : T ≤ 16) (A : Option Addr) (n c : Nat) (l : List Cl) (w : World) (h : Arr Cl.enc w A n l) (hbig : n ≤ 140737488355328) :
    Calls Try.prog 111 #[(.agg #[.int .i64 T, .int .i64 R, .int .i64 H, .int .i64 Re, .int .i64 Ca, .int .i64 S, .int .i64 B]), .slice A n c] w (Says (CallsOK T l) w) := by
  have Hh := Lib.hid h
  clear h
  go_enter Try.func111, Try.ntmps111
  go_upto_region 1 with fail
  obtain ⟨w0, hw0, hC, hE, hlt0⟩ := enter1 w (.cells (cfgV T R H Re Ca S B) 23)
  rw [hw0]
  have HE := Lib.hid hE
  have HC := Lib.hid hC
  have Hh0 := Lib.hid (Hh.out.ext hE)
  obtain ⟨k0, hk0⟩ := lat_self w0
  rw [hk0]
  clear hw0 hC hE hk0
  go_wp2_with fail
  go_loopw [5] (fun s5 wr => ∃ (k : Lat w0) (i : Nat), wr = k.world ∧ i ≤ n ∧ s5 = .int .i64 i ∧ Hid (CallsA T (-1) l ↔ CallsA T (prevBg l i) (l.drop i))) (fun s _ => n - (intOf s).toNat)
  case atStart => exact ⟨k0, 0, rfl, by omega, rfl, Iff.rfl⟩
  case round =>
    obtain ⟨k, i, rfl, hi, rfl, hrest⟩ := hrel
    by_cases hlt : i < n
    · obtain ⟨b, off, x, hAx, hb, hx, x0, x1, x2, x3, x4, x5, x6, x7, x8⟩ := Cl.at_ Hh0.out hlt
      have h1 : (i : Int) < (n : Int) := by omega
      have hi0 : (0 : Int) ≤ (i : Int) := by omega
      subst hAx
      have Hstep : Hid (CallsA T (-1) l ↔ OkCall T x ∧ prevBg l i < x.bg ∧ CallsA T (prevBg l (i + 1)) (l.drop (i + 1))) := hrest.out.trans (callsA_step hx.out)
      have Hbad : Hid (¬ (OkCall T x ∧ prevBg l i < x.bg) → ¬ CallsOK T l) := fun hb hc => hb (by
        have := Hstep.out.1 hc.1
        exact ⟨this.1, this.2.1⟩)
      go_upto_region 5 with fail
      obtain ⟨w3, hw3, hX, hE3, hlt3⟩ := enter1 k.world (.cells #[.int .i64 x.th, .int .i64 x.op, .int .i64 x.arg, .int .i64 x.dat, .int .i64 x.bg, .int .i64 x.en, .int .i64 x.pt, .int .i64 x.ak, .int .i64 x.av] 150)
      rw [hw3]
      clear x0 x1 x2 x3 x4 x5 x6 x7 x8
      have HE3 := Lib.hid (Ext.next k.ok hE3)
      obtain ⟨x0, x1, x2, x3, x4, x5, x6, x7, x8⟩ := Cl.boxed hX
      obtain ⟨c0, c1, c2, c3, c4, c5, c6⟩ := Lat.cfg (ext_blk HE3.out HC.out)
      obtain ⟨k3, hk3⟩ := lat_self w3
      rw [hk3]
      generalize k.world.heap.size = g at *
      have Hh3 := Lib.hid (Hh0.out.ext HE3.out)
      clear hw3 hX hE3 hk3 hlt3
      clear hi0
      have Hgood : Hid (¬ Phi5 T x → ¬ (0 < i ∧ x.bg ≤ prevBg l i) → ¬ Phi9 x → ¬ Phi12 x → OkCall T x ∧ prevBg l i < x.bg) := fun h5 h7 h9 h12 => by
        unfold Phi5 at h5
        unfold Phi9 at h9
        unfold Phi12 at h12
        unfold OkCall
        by_cases h0 : i = 0
        · have : prevBg l i = -1 := by rw [h0]; rfl
          omega
        · omega
      have Hbad5 : Hid (Phi5 T x → ¬ CallsOK T l) := fun h => Hbad.out (by unfold Phi5 at h; unfold OkCall; omega)
      have Hbad7 : Hid (0 < i ∧ x.bg ≤ prevBg l i → ¬ CallsOK T l) := fun h => Hbad.out (by omega)
      have Hbad9 : Hid (Phi9 x → ¬ CallsOK T l) := fun h => Hbad.out (by unfold Phi9 at h; unfold OkCall; omega)
      have Hbad12 : Hid (Phi12 x → ¬ CallsOK T l) := fun h => Hbad.out (by unfold Phi12 at h; unfold OkCall; omega)
      go_upto_region 5 with fail
      go_cut [48] (fun s wr => ∃ (q : Bool) (k : Lat w3), s = .bool q ∧ Hid (q = true ↔ Phi5 T x) ∧ wr = k.world)
      case first =>
        go_wp2_with fail
        all_goals
          go_meet
          case rel => exact ⟨_, k3, rfl, by show _ ↔ _; unfold Phi5; simp; try omega, rfl⟩
      obtain ⟨q, k4, rfl, hq5, rfl⟩ := hcut
      cases q with
      | true =>
        have HB := Lib.hid (Hbad5.out (hq5.out.1 rfl))
        go_wp2_with fail
        go_ret
        exact says_no HB.out (Ext.next (Ext.next HE.out HE3.out) k4.ok)
      | false =>
        have H5 : Hid (¬ Phi5 T x) := fun h => by have := hq5.out.2 h; cases this
        go_upto_region 7 with fail
        go_cut [61] (fun s wr => ∃ (q : Bool) (k : Lat w3), s = .bool q ∧ Hid (q = true ↔ 0 < i ∧ x.bg ≤ prevBg l i) ∧ wr = k.world)
        case first =>
          by_cases hi1 : i = 0
          · have hd7 : decide ((0 : Int) < (i : Int)) = false := by simp; omega
            have hd8 : decide (0 < i) = false := by simp; omega
            have HI := Lib.hid hi1
            have hii : i ≤ 0 := by omega
            clear hi1
            refine wp_region_cls (Ext w3) (Ext.drew1 k4.ok) (by kernel_rfl) (by kernel_rfl) ?_
            repeat (go_big_quiet_step (fail))
            refine wpQuiet_nil ?_
            rintro _ ⟨k6, rfl⟩
            go_wp2_with fail
            go_meet
            case rel => exact ⟨_, k6, rfl, by show _ ↔ _; have := HI.out; simp; omega, rfl⟩
          · obtain ⟨m, hm⟩ : ∃ m : Nat, (i : Int) - 1 = (m : Int) := ⟨i - 1, by omega⟩
            have hmi : (m : Int) < (n : Int) := by omega
            have hm0 : (0 : Int) ≤ (m : Int) := by omega
            obtain ⟨b', off', y, hAy, _, hy, y0, y1, y2, y3, y4, y5, y6, y7, y8⟩ := Cl.at_ Hh3.out (i := m) (by omega)
            injection hAy with hAy
            injection hAy with hb1 hb2
            subst hb1 hb2
            have hd7 : decide ((0 : Int) < (i : Int)) = true := by simp; omega
            have hd8 : decide (0 < i) = true := by simp; omega
            have hpv : Hid (prevBg l i = y.bg) := by
              show _ = _
              obtain rfl : i = m + 1 := by omega
              simp only [prevBg, hy.out]
            have hii : 1 ≤ i := by omega
            clear hi1
            refine wp_region_cls (Ext w3) (Ext.drew1 k4.ok) (by kernel_rfl) (by kernel_rfl) ?_
            repeat (go_big_quiet_step (fail))
            refine wpQuiet_nil ?_
            rintro _ ⟨k6, rfl⟩
            go_wp2_with fail
            go_meet
            case rel => exact ⟨_, k6, rfl, by show _ ↔ _; rw [hpv.out]; simp; omega, rfl⟩
        obtain ⟨q, k5, rfl, hq7, rfl⟩ := hcut
        cases q with
        | true =>
          have HB := Lib.hid (Hbad7.out (hq7.out.1 rfl))
          go_wp2_with fail
          go_ret
          exact says_no HB.out (Ext.next (Ext.next HE.out HE3.out) k5.ok)
        | false =>
          have H7 : Hid (¬ (0 < i ∧ x.bg ≤ prevBg l i)) := fun h => by have := hq7.out.2 h; cases this
          go_upto_region 9 with fail
          go_cut [83] (fun s wr => ∃ (q : Bool) (k : Lat w3), s = .bool q ∧ Hid (q = true ↔ Phi9 x) ∧ wr = k.world)
          case first =>
            go_wp2_with fail
            all_goals
              go_meet
              case rel => exact ⟨_, k5, rfl, by show _ ↔ _; unfold Phi9; simp; try omega, rfl⟩
          obtain ⟨q, k6, rfl, hq9, rfl⟩ := hcut
          cases q with
          | true =>
            have HB := Lib.hid (Hbad9.out (hq9.out.1 rfl))
            go_wp2_with fail
            go_ret
            exact says_no HB.out (Ext.next (Ext.next HE.out HE3.out) k6.ok)
          | false =>
            have H9 : Hid (¬ Phi9 x) := fun h => by have := hq9.out.2 h; cases this
            go_upto_region 12 with fail
            go_cut [7, 110] (fun _ s wr => ∃ (q : Bool) (k : Lat w3), s = .bool q ∧ Hid (q = true ↔ Phi12 x) ∧ wr = k.world)
            case first =>
              go_wp2_with fail
              all_goals
                go_meet
                case rel => exact ⟨_, k6, rfl, by show _ ↔ _; unfold Phi12; simp; first | done | omega | (simp only [eqb] at *; omega), rfl⟩
            obtain ⟨q, k7, rfl, hq12, rfl⟩ := hcut
            cases q with
            | true =>
              have HB := Lib.hid (Hbad12.out (hq12.out.1 rfl))
              go_wp2_with fail
              go_ret
              exact says_no HB.out (Ext.next (Ext.next HE.out HE3.out) k7.ok)
            | false =>
              have hg := Hgood.out H5.out H7.out H9.out (fun h => by have := hq12.out.2 h; cases this)
              have HS : Hid (CallsA T (-1) l ↔ CallsA T (prevBg l (i + 1)) (l.drop (i + 1))) := by
                show _ ↔ _
                rw [Hstep.out]
                exact ⟨fun h => h.2.2, fun h => ⟨hg.1, hg.2, h⟩⟩
              clear hg
              obtain ⟨k8, hk8⟩ := lat_of (Ext.next HE3.out k7.ok)
              rw [hk8]
              clear hk8
              go_wp2_with fail
              go_roundw
              case rel => exact ⟨k8, i + 1, rfl, by omega, by go_num, HS⟩
              case measure => simp [intOf]; omega
    · obtain rfl : n = i := by omega
      have HA : Hid (CallsA T (-1) l) := hrest.out.2 (by rw [List.drop_of_length_le (by rw [Hh.out.1]; exact Nat.le_refl _)]; trivial)
      obtain ⟨tn, htn⟩ : ∃ tn : Nat, T = tn := ⟨T.toNat, by omega⟩
      subst htn
      have hmk := fun W => run_make1 zeroInt rfl Try.underlying26 (tn : Int) (by omega) (by omega) (by omega) W
      simp only [Int.toNat_natCast] at hmk
      obtain ⟨c0, c1, c2, c3, c4, c5, c6⟩ := Lat.cfg HC.out
      go_upto_region 15 with fail
      obtain ⟨w2, hw2, ho2, e2, hlt2⟩ := made1 k.world w0.heap.size tn k.ok.size (by omega) 3 (.int .i64 0)
      rw [hw2]
      have hgW := k.ok.size
      obtain ⟨k2, rfl⟩ := lat_next k e2
      generalize k.world.heap.size = g at *
      rw [show List.replicate tn (Value.int .i64 0) = (List.replicate tn (0 : Int)).map (Value.int .i64) by simp] at ho2
      have HO2 := Lib.hid ho2
      clear hw2 e2 ho2 hlt2 hmk
      go_wp2_with fail
      go_loopw [9] (fun s9 wr => ∃ (k : Lat w0) (i : Nat) (ls : List Int), wr = k.world ∧ i ≤ tn ∧ s9 = .int .i64 i ∧ Hid (k.world.ownsRow w0.heap.size 3 1 (.slice (some ⟨g, 0, none⟩) tn tn) tn (ls.map (Value.int .i64))) ∧ Hid (∀ t : Nat, t < i → ls[t]? = some (-1))) (fun s _ => tn - (intOf s).toNat)
      case atStart => exact ⟨k2, 0, _, rfl, by omega, rfl, HO2.out, fun t ht => by omega⟩
      case round =>
        obtain ⟨k, i, ls, rfl, hi, rfl, hown, hls⟩ := hrel
        by_cases hlt : i < tn
        · have h1 : (i : Int) < (tn : Int) := by omega
          obtain ⟨y, hy, hcy⟩ := row_lat hown.out hlt
          have hcy := hcy ⟨k.world, Ext.rfl' _⟩
          have hfy := hown.out.frozenAt i
          have Hcy : Hid (k.world.cell? ⟨g, i, none⟩ = some (.int .i64 y)) := hcy
          have hcy' : k.world.cell? ⟨g, i, none⟩ = some (.int .i64 y) := Hcy.out
          clear hcy hy
          go_wp2_with fail
          have e5 := own_store (j := i) hown.out k.ok (Nat.le_refl _) (.int .i64 (-1))
          have ho5 := own_ints_set (j := i) (-1) hown.out
          obtain ⟨k5, hk5⟩ := lat_of e5
          rw [hk5] at ho5 ⊢
          have HO5 := Lib.hid ho5
          clear hk5 e5 ho5 hcy' hfy
          have hlen : ls.length = tn := by have := hown.out.1; simpa using this
          have HL : Hid (∀ t : Nat, t < i + 1 → (ls.set i (-1))[t]? = some (-1)) := fun t ht => by
            rw [List.getElem?_set]
            by_cases hti : i = t
            · subst hti
              simp [hlen, hlt]
            · rw [if_neg hti]
              exact hls.out t (by omega)
          clear hlen
          go_roundw
          case rel => exact ⟨k5, i + 1, ls.set i (-1), rfl, by omega, by go_num, HO5.out, HL⟩
          case measure => simp [intOf]; omega
        · obtain rfl : tn = i := by omega
          go_wp2_with fail
          go_loopw [10] (fun s10 wr => ∃ (k : Lat w0) (i : Nat) (ls : List Int), wr = k.world ∧ i ≤ n ∧ s10 = .int .i64 i ∧ Hid (k.world.ownsRow w0.heap.size 3 1 (.slice (some ⟨g, 0, none⟩) tn tn) tn (ls.map (Value.int .i64))) ∧ Hid (∀ t : Nat, t < tn → ∃ j, ls[t]? = some j ∧ LastAt l i t j) ∧ Hid (ThreadsOK [] l ↔ ThreadsOK (l.take i) (l.drop i))) (fun s _ => n - (intOf s).toNat)
          case atStart => exact ⟨k, 0, ls, rfl, by omega, rfl, hown.out, fun t ht => ⟨-1, hls.out t ht, lastAt_zero l t⟩, Iff.rfl⟩
          case round =>
            clear hown hls hlt hi
            obtain ⟨k, i, ls, rfl, hi, rfl, hown, hls, hthr⟩ := hrel
            by_cases hlt : i < n
            · obtain ⟨b, off, x, hAx, hb, hx, x0, x1, x2, x3, x4, x5, x6, x7, x8⟩ := Cl.at_ Hh0.out hlt
              subst hAx
              have h1 : (i : Int) < (n : Int) := by omega
              have hi0 : (0 : Int) ≤ (i : Int) := by omega
              obtain ⟨hth0, hth1⟩ := (callsA_all HA.out i x hx.out).1.1
              obtain ⟨tx, htx⟩ : ∃ tx : Nat, x.th = tx := ⟨x.th.toNat, by omega⟩
              have htx1 : tx < tn := by omega
              have htx2 : (tx : Int) < (tn : Int) := by omega
              obtain ⟨j, hj, hat⟩ := hls.out tx htx1
              have hcj : ∀ k' : Lat k.world, k'.world.cell? ⟨g, tx, none⟩ = some (.int .i64 j) := fun k' => (own_ext hown.out k'.ok).cellAt tx (by omega) |>.trans (by rw [List.getElem?_map, hj]; rfl)
              have hcj0 := hcj ⟨k.world, Ext.rfl' _⟩
              have Hcj0 : Hid (k.world.cell? ⟨g, tx, none⟩ = some (.int .i64 j)) := hcj0
              rw [htx] at x0
              have Htx := Lib.hid htx
              have Hstep := Lib.hid (threads_step hx.out)
              rw [htx] at Hstep
              have hcj1 : k.world.cell? ⟨g, tx, none⟩ = some (.int .i64 j) := Hcj0.out
              clear htx hth0 hth1 hj hcj hcj0
              go_upto_region 23 with fail
              go_cut [159] (fun s wr => ∃ (q : Bool) (k' : Lat k.world), s = .bool q ∧ Hid (q = true ↔ ∃ y, lastBy (l.take i) x.th = some y ∧ (y.en = -1 ∨ x.bg ≤ y.en)) ∧ wr = k'.world)
              case first =>
                rcases hat with ⟨rfl, hno⟩ | ⟨m, y, rfl, hmi, hy, hla⟩
                · have HNO := Lib.hid hno
                  clear hno
                  refine wp_region_cls (Ext k.world) (Ext.rfl' k.world).drew1 (by kernel_rfl) (by kernel_rfl) ?_
                  repeat (go_big_quiet_step (fail))
                  refine wpQuiet_nil ?_
                  rintro _ ⟨k6, rfl⟩
                  go_wp2_with fail
                  go_meet
                  case rel => exact ⟨_, k6, rfl, by show _ ↔ _; rw [Htx.out, HNO.out]; simp, rfl⟩
                · obtain ⟨b', off', y', hAy, _, hy', y0, y1, y2, y3, y4, y5, y6, y7, y8⟩ := Cl.at_ (Hh0.out.ext k.ok) (i := m) (by omega)
                  obtain ⟨b2, off2, x', hAx', _, hx', z0, z1, z2, z3, z4, z5, z6, z7, z8⟩ := Cl.at_ (Hh0.out.ext k.ok) (i := i) (by omega)
                  have hyy := hy'.out
                  rw [hy] at hyy
                  injection hyy with hyy
                  subst hyy
                  have hxx := hx'.out
                  rw [hx.out] at hxx
                  injection hxx with hxx
                  subst hxx
                  injection hAy with hAy
                  injection hAy with hb1 hb2
                  subst hb1 hb2
                  injection hAx' with hAx'
                  injection hAx' with hb1 hb2
                  subst hb1 hb2
                  have hm0 : (0 : Int) ≤ (m : Int) := by omega
                  have hmn : (m : Int) < (n : Int) := by omega
                  have hdm : decide ((0 : Int) ≤ (m : Int)) = true := by simp
                  have HLA : Hid (lastBy (l.take i) x.th = some y) := by rw [Htx.out]; exact hla
                  clear hy hla
                  by_cases hye : y.en = -1
                  · have hd : (y.en == -1) = true := beq_iff_eq.2 hye
                    have HYE := Lib.hid hye
                    clear hye
                    refine wp_region_cls (Ext k.world) (Ext.rfl' k.world).drew1 (by kernel_rfl) (by kernel_rfl) ?_
                    repeat (go_big_quiet_step (fail))
                    refine wpQuiet_nil ?_
                    rintro _ ⟨k6, rfl⟩
                    go_wp2_with fail
                    go_meet
                    case rel => exact ⟨_, k6, rfl, by show _ ↔ _; rw [HLA.out]; simp [HYE.out], rfl⟩
                  · have hd : (y.en == -1) = false := beq_eq_false_iff_ne.2 hye
                    have HYE := Lib.hid hye
                    clear hye
                    refine wp_region_cls (Ext k.world) (Ext.rfl' k.world).drew1 (by kernel_rfl) (by kernel_rfl) ?_
                    repeat (go_big_quiet_step (fail))
                    refine wpQuiet_nil ?_
                    rintro _ ⟨k6, rfl⟩
                    go_wp2_with fail
                    go_meet
                    case rel => exact ⟨_, k6, rfl, by show _ ↔ _; rw [HLA.out]; simp [HYE.out], rfl⟩
              obtain ⟨q, k6, rfl, hq, rfl⟩ := hcut
              cases q with
              | true =>
                have HB : Hid (¬ CallsOK tn l) := by
                  intro hc
                  obtain ⟨y, hy, hh⟩ := hq.out.1 rfl
                  have h2 := (hthr.out.1 hc.2.1)
                  rw [Hstep.out] at h2
                  have := h2.1 y (by rw [← Htx.out]; exact hy)
                  omega
                clear hq
                go_wp2_with fail
                go_ret
                exact says_no HB.out (Ext.next (Ext.next HE.out k.ok) k6.ok)
              | false =>
                have HS : Hid (ThreadsOK [] l ↔ ThreadsOK (l.take (i + 1)) (l.drop (i + 1))) := by
                  show _ ↔ _
                  rw [hthr.out, Hstep.out]
                  refine ⟨fun h => h.2, fun h => ⟨fun y hy => ?_, h⟩⟩
                  have hnq : ¬ ∃ y, lastBy (l.take i) x.th = some y ∧ (y.en = -1 ∨ x.bg ≤ y.en) := fun h => by have := hq.out.2 h; cases this
                  by_cases hbad : y.en = -1 ∨ x.bg ≤ y.en
                  · exact absurd ⟨y, by rw [Htx.out]; exact hy, hbad⟩ hnq
                  · omega
                clear hq
                have HO6 := Lib.hid (own_ext hown.out k6.ok)
                have hlen : ls.length = tn := by have := hown.out.1; simpa using this
                have HL : Hid (∀ t : Nat, t < tn → ∃ j, (ls.set tx i)[t]? = some j ∧ LastAt l (i + 1) t j) := fun t ht => by
                  rw [List.getElem?_set]
                  by_cases htt : tx = t
                  · subst htt
                    exact ⟨i, by simp [hlen, ht], by have := lastAt_same hx.out; rwa [Htx.out] at this⟩
                  · rw [if_neg htt]
                    obtain ⟨j', hj', hat'⟩ := hls.out t ht
                    exact ⟨j', hj', lastAt_other hx.out (by rw [Htx.out]; omega) hat'⟩
                have hc6 : k6.world.cell? ⟨g, tx, none⟩ = some (.int .i64 j) := (k6.ok.cell (p := ⟨g, tx, none⟩) ((hown.out.lt g rfl).2)).trans Hcj0.out
                have hf6 := HO6.out.frozenAt tx
                obtain ⟨k7, hk7⟩ := lat_of (Ext.next k.ok k6.ok)
                have HO7 : Hid (k7.world.ownsRow w0.heap.size 3 1 (.slice (some ⟨g, 0, none⟩) tn tn) tn (ls.map (Value.int .i64))) := hk7 ▸ HO6.out
                rw [hk7] at hc6 hf6 ⊢
                clear hk7 hlen
                go_wp2_with fail
                have e8 := own_store (j := tx) HO7.out k7.ok (Nat.le_refl _) (.int .i64 (i : Int))
                have ho8 := own_ints_set (j := tx) (i : Int) HO7.out
                obtain ⟨k8, hk8⟩ := lat_of e8
                rw [hk8] at ho8 ⊢
                have HO8 := Lib.hid ho8
                clear hk8 e8 ho8 hc6 hf6
                go_roundw
                case rel => exact ⟨k8, i + 1, ls.set tx i, rfl, by omega, by go_num, HO8.out, HL, HS⟩
                case measure => simp [intOf]; omega
            · obtain rfl : n = i := by omega
              have HT : Hid (ThreadsOK [] l) := hthr.out.2 (by rw [List.drop_of_length_le (by rw [Hh0.out.1]; exact Nat.le_refl _)]; trivial)
              go_wp2_with fail
              refine (ends_any tn A n c l _ (Hh0.out.ext k.ok) hbig HA.out).mono ?_
              rintro e w6 ⟨q, rfl, hq, e6⟩
              have E6 := Lib.hid (Ext.next (Ext.next HE.out k.ok) e6)
              have HQ : Hid (q = true ↔ CallsOK tn l) := hq.trans ⟨fun h => ⟨HA.out, HT.out, h⟩, fun h => h.2.2⟩
              clear hq e6
              go_wp2_with fail
              go_ret
              exact ⟨q, rfl, HQ.out, E6.out⟩

end Go.Proofs.Ytfbacopjookplaa
