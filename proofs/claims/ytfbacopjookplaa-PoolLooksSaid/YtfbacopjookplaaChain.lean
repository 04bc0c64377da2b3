/- The walk of the pool walker's chain: the slots from a word on, handed out one by one. -/
import Derived.Test.YtfbacopjookplaaChainP
import Derived.Test.YtfbacopjookplaaFree
import Derived.Test.YtfbacopjookplaaTail
import Derived.Test.YtfbacopjookplaaRange
import Derived.OwnWalkIn
import Derived.TacticsInMore
namespace Go.Proofs.Ytfbacopjookplaa
open Go.RowKit

/-- The words of a region's slots. -/
def regOf (R H S B : Int) (ws : List Int) (m : Nat) (s : Int) : Int := ws.getD (sumOf R H S B m + s).toNat 0
/-- A word of a region stands where the program looks. -/
theorem reg_at {R H S B : Int} {ws : List Int} {n : Nat} (hR : 1 ≤ R) (hR' : R ≤ 16) (hH : 3 ≤ H) (hH' : H ≤ 8) (hS : 1 ≤ S) (hS' : S ≤ 1024) (hB : 1 ≤ B) (hB' : B ≤ 64) (hl : ws.length = n) (hn : (n : Int) = sumOf R H S B 13)
    (hws : ∀ x ∈ ws, 0 ≤ x ∧ x ≤ 18446744073709551615) (m : Nat) (hm : m ≤ 12) (i : Int) (h0 : 0 ≤ i) (h1 : i < manyOf R H S B ((m : Int) + 1)) :
    ∃ j : Nat, sumOf R H S B m + i = j ∧ ws[j]? = some (regOf R H S B ws m i) ∧ 0 ≤ regOf R H S B ws m i ∧ regOf R H S B ws m i ≤ 18446744073709551615 := by
  have hsum : ∀ k : Nat, k ≤ 12 - m → sumOf R H S B (m + 1) ≤ sumOf R H S B (m + 1 + k) := by
    intro k
    induction k with
    | zero => intro _; exact Int.le_refl _
    | succ k ih =>
      intro hk
      have h := ih (by omega)
      have hb := manyOf_bd R H S B (((m + 1 + k : Nat) : Int) + 1) hR hR' hH hH' hS hS' hB hB'
      have e : sumOf R H S B (m + 1 + (k + 1)) = sumOf R H S B (m + 1 + k) + manyOf R H S B (((m + 1 + k : Nat) : Int) + 1) := rfl
      omega
  have h2 := hsum (12 - m) (Nat.le_refl _)
  rw [show m + 1 + (12 - m) = 13 from by omega] at h2
  have e : sumOf R H S B (m + 1) = sumOf R H S B m + manyOf R H S B ((m : Int) + 1) := rfl
  have hb := (sumOf_bd R H S B hR hR' hH hH' hS hS' hB hB' m).1
  have hj : (sumOf R H S B m + i).toNat < ws.length := by omega
  refine ⟨(sumOf R H S B m + i).toNat, by omega, ?_, ?_⟩
  · unfold regOf
    rw [List.getD_eq_getElem?_getD, List.getElem?_eq_getElem hj]
    rfl
  · unfold regOf
    rw [List.getD_eq_getElem?_getD, List.getElem?_eq_getElem hj]
    exact hws _ (List.getElem_mem hj)

theorem Walker.byRec {B0 : Nat} {w w' : World} {T R H Re Ca S B : Int} {A : Option Addr} {n c : Nat} {ws : List Int} {b sb : Nat} {seen : List Bool} {bad : Bool} (h : Walker w T R H Re Ca S B A n c ws b sb seen bad) (r : Rec B0 w w')
    (h1 : b < B0) (h2 : sb < B0) (h3 : ∀ bw off, A = some ⟨bw, off, none⟩ → bw < B0) : Walker w' T R H Re Ca S B A n c ws b sb seen bad :=
  h.only r.only (by omega) (by omega) fun bw off e => by have := h3 bw off e; omega
/-- The walker's flag is set. -/
theorem Walker.flag {w : World} {T R H Re Ca S B : Int} {A : Option Addr} {n c : Nat} {ws : List Int} {b sb : Nat} {seen : List Bool} {bad : Bool} (h : Walker w T R H Re Ca S B A n c ws b sb seen bad) (q : Bool)
    (hA : ∀ bw off, A = some ⟨bw, off, none⟩ → bw ≠ b) : Walker (w.setCell ⟨b, 9, none⟩ (.bool q)) T R H Re Ca S B A n c ws b sb seen q := by
  refine ⟨?_, ?_, h.len, ?_, h.wlen, h.ne⟩
  · rw [heap_setCell_same _ _ _ _ _ _ h.blk]
    rfl
  · rw [Below.heap_setCell _ _ _ _ (by exact fun e => h.ne e.symm)]; exact h.marks
  · intro hne
    obtain ⟨bw, off, hA', hb, hc⟩ := h.words hne
    refine ⟨bw, off, hA', by simpa using hb, fun j u hu => ?_⟩
    rw [World.cell?_of_block (Below.heap_setCell _ _ _ _ (by exact hA _ _ hA'))]
    exact hc j u hu

/-- How many marks are still false in a block. -/
def isFalse : Value → Bool
  | .bool false => true
  | _ => false
def unseenIn (w : World) (sb : Nat) : Nat := match w.heap[sb]? with
  | some (.cells cs _ _) => (cs.toList.filter isFalse).length
  | _ => 0
theorem Walker.unseen {w : World} {T R H Re Ca S B : Int} {A : Option Addr} {n c : Nat} {ws : List Int} {b sb : Nat} {seen : List Bool} {bad : Bool} (h : Walker w T R H Re Ca S B A n c ws b sb seen bad) : unseenIn w sb = falses seen := by
  unfold unseenIn
  rw [h.marks]
  show ((seen.map Value.bool).filter isFalse).length = seen.count false
  clear h
  induction seen with
  | nil => rfl
  | cons x xs ih =>
    rw [List.map_cons, List.filter_cons]
    cases x
    · rw [if_pos (show isFalse (Value.bool false) = true from rfl), List.length_cons, ih, List.count_cons_self]
    · rw [if_neg (show ¬ isFalse (Value.bool true) = true from fun h => by cases h), ih, List.count_cons_of_ne (by simp)]
def oneV (s f : Value) : Nat := match s, f with
  | .int .i64 x, .bool q => one x q
  | _, _ => 0

/-- What chain's three boxes hold. -/
structure Boxes (w : World) (b : Nat) (x : Int) (mk : Bool) (p1 p2 p3 : Nat) : Prop where
  b1 : w.heap[p1]? = some (.cells #[.pointer (some ⟨b, 0, none⟩)] 84 (0, 0))
  b2 : w.heap[p2]? = some (.cells #[.int .u64 x] 25 (0, 0))
  b3 : w.heap[p3]? = some (.cells #[.bool mk] 4 (0, 0))
theorem Boxes.only {w w' : World} {b p1 p2 p3 : Nat} {x : Int} {mk : Bool} {X : Nat → Prop} (h : Boxes w b x mk p1 p2 p3) (o : Only X w w') (h1 : ¬ X p1) (h2 : ¬ X p2) (h3 : ¬ X p3) : Boxes w' b x mk p1 p2 p3 :=
  ⟨(o.block _ (blk_lt h.b1) h1).trans h.b1, (o.block _ (blk_lt h.b2) h2).trans h.b2, (o.block _ (blk_lt h.b3) h3).trans h.b3⟩
theorem Boxes.ext {w w' : World} {b p1 p2 p3 : Nat} {x : Int} {mk : Bool} (h : Boxes w b x mk p1 p2 p3) (e : Ext w w') : Boxes w' b x mk p1 p2 p3 := ⟨ext_blk e h.b1, ext_blk e h.b2, ext_blk e h.b3⟩
theorem Boxes.byRec {B0 : Nat} {w w' : World} {b p1 p2 p3 : Nat} {x : Int} {mk : Bool} (h : Boxes w b x mk p1 p2 p3) (r : Rec B0 w w') : Boxes w' b x mk p1 p2 p3 := ⟨r.cells h.b1, r.cells h.b2, r.cells h.b3⟩

/-- What the chain holds when it hands a slot out. -/
structure ChIt (S : Int) (wd : Int → Int) (mk : Bool) (seen0 : List Bool) (tot : List (Int × Bool) × Bool × List Bool) (T R H Re Ca B : Int) (A : Option Addr) (n c : Nat) (ws : List Int) (b sb : Nat) (bad : Bool) (x0 : Int) (p1 p2 p3 : Nat) (pre : List (Int × Bool)) (x : Int × Bool) (W : World) : Prop where
  ex : ∃ seen, Walker W T R H Re Ca S B A n c ws b sb seen bad ∧ ChAt S wd mk seen0 tot pre seen x.1 true
  pos : 0 ≤ x.1
  lk : linkOK mk (wd x.1) = true
  mark : x.2 = decide (4294967296 ≤ wd x.1)
  box : Boxes W b x0 mk p1 p2 p3
/-- What it leaves when all have come. -/
def ChS (tot : List (Int × Bool) × Bool × List Bool) (T R H Re Ca S B : Int) (A : Option Addr) (n c : Nat) (ws : List Int) (b sb : Nat) (bad : Bool) (xs : List (Int × Bool)) (W : World) : Prop :=
  xs = tot.1 ∧ Walker W T R H Re Ca S B A n c ws b sb tot.2.2 (bad || !tot.2.1)

/-- A slot and its mark as they are handed out. -/
def encSlot (x : Int × Bool) : Array Value := #[.int .i64 x.1, .bool x.2]

theorem chS_end {T R H Re Ca S B : Int} {A : Option Addr} {n c : Nat} {ws : List Int} {b sb : Nat} {bad fine : Bool} {seen : List Bool} {acc : List (Int × Bool)} {tot : List (Int × Bool) × Bool × List Bool} {J : List (Int × Bool) → World → Prop} {wr : World}
    (hJ : ∀ (pre : List (Int × Bool)) (A B : World), J pre A → Only (fun q => q = sb ∨ q = b) A B → J pre B) (hA : ∀ bw off, A = some ⟨bw, off, none⟩ → bw ≠ sb ∧ bw ≠ b)
    (ht : tot = (acc, fine, seen)) (hw : Walker wr T R H Re Ca S B A n c ws b sb seen bad) (hj : J acc wr) (z : Lat wr) (q : Bool) (hq : q = (bad || !fine)) :
    ∃ xs, ChS tot T R H Re Ca S B A n c ws b sb bad xs (z.world.setCell ⟨b, 9, none⟩ (.bool q)) ∧ J xs (z.world.setCell ⟨b, 9, none⟩ (.bool q)) := by
  subst ht hq
  exact ⟨acc, ⟨rfl, (hw.ext z.ok).flag _ fun bw off e => (hA bw off e).2⟩, hJ _ _ _ hj ((Only.of_ext z.ok).setCell _ _ fun _ => .inr rfl)⟩

set_option maxHeartbeats 4000000 in
theorem chain1_iter (T R H Re Ca S B : Int) (hok : Okay T R H Re Ca S B) (A : Option Addr) (n c : Nat) (ws : List Int) (hn : (n : Int) = sumOf R H S B 13) (hws : ∀ x ∈ ws, 0 ≤ x ∧ x ≤ 18446744073709551615)
    (b sb : Nat) (bad mk : Bool) (x0 : Int) (hx0 : 0 ≤ x0) (hx1 : x0 ≤ 18446744073709551615) (p1 p2 p3 : Nat) (seen0 : List Bool) (W : World)
    (hA : ∀ bw off, A = some ⟨bw, off, none⟩ → bw ≠ sb ∧ bw ≠ b) (h3 : p3 ≠ sb) (hw : Walker W T R H Re Ca S B A n c ws b sb seen0 bad) (hb : Boxes W b x0 mk p1 p2 p3) :
    Iterates Try.prog 100 #[.pointer (some ⟨p1, 0, none⟩), .pointer (some ⟨p2, 0, none⟩), .pointer (some ⟨p3, 0, none⟩)] encSlot (Only fun q => q = sb ∨ q = b)
      (ChIt S (regOf R H S B ws 12) mk seen0 (chainOf S (regOf R H S B ws 12) mk seen0 x0) T R H Re Ca B A n c ws b sb bad x0 p1 p2 p3)
      (ChS (chainOf S (regOf R H S B ws 12) mk seen0 x0) T R H Re Ca S B A n c ws b sb bad) W := by
  intro l J Jx hJ hY h0
  refine callsIn_wide.2 ?_
  show Calls Try.prog 100 #[.func (.yield l) #[] #[], .pointer (some ⟨p1, 0, none⟩), .pointer (some ⟨p2, 0, none⟩), .pointer (some ⟨p3, 0, none⟩)] W _
  have hok' := hok
  unfold Okay at hok'
  obtain ⟨_, _, hR, hR', hH, hH', _, _, _, _, hS, hS', hB, hB'⟩ := hok'
  have HS := Lib.hid (show 1 ≤ S ∧ S ≤ 1024 from ⟨hS, hS'⟩)
  have HReg : Hid (∀ s : Int, 0 ≤ s → s < S → ∃ j : Nat, sumOf R H S B 12 + s = j ∧ ws[j]? = some (regOf R H S B ws 12 s) ∧ 0 ≤ regOf R H S B ws 12 s ∧ regOf R H S B ws 12 s ≤ 18446744073709551615) := fun s s0 s1 =>
    reg_at hR hR' hH hH' hS hS' hB hB' hw.wlen hn hws 12 (by omega) s s0 (by simp [manyOf]; exact s1)
  have HSt := Lib.hid (chAt_start (wd := regOf R H S B ws 12) (mk := mk) hS (hw.len) x0)
  generalize regOf R H S B ws 12 = wd at *
  generalize chainOf S wd mk seen0 x0 = tot at *
  have HOk := Lib.hid hok
  have HA := Lib.hid hA
  have HW := Lib.hid hw
  have HB := Lib.hid hb
  have HJ := Lib.hid hJ
  have HY := Lib.hid hY
  have H0 := Lib.hid h0
  have Hne3 := Lib.hid h3
  have Hbe : Hid (p1 ≠ sb ∧ p2 ≠ sb ∧ p1 ≠ b ∧ p2 ≠ b ∧ p3 ≠ b) := by
    show _ ∧ _
    have e1 := hb.b1
    have e2 := hb.b2
    have e3 := hb.b3
    have m1 := hw.marks
    have m2 := hw.blk
    refine ⟨fun e => ?_, fun e => ?_, fun e => ?_, fun e => ?_, fun e => ?_⟩
    · rw [e, m1] at e1; injection e1 with e1; injection e1 with e1 e2; exact absurd e2 (by decide)
    · rw [e, m1] at e2; injection e2 with e2; injection e2 with e2 e3; exact absurd e3 (by decide)
    · rw [e, m2] at e1; injection e1 with e1; injection e1 with e1 e2; exact absurd e2 (by decide)
    · rw [e, m2] at e2; injection e2 with e2; injection e2 with e2 e3; exact absurd e3 (by decide)
    · rw [e, m2] at e3; injection e3 with e3; injection e3 with e3 e4; exact absurd e4 (by decide)
  obtain ⟨k0, hk0⟩ := lat_self W
  have a1 : ∀ z : Lat W, z.world.cell? ⟨p1, 0, none⟩ = some (.pointer (some ⟨b, 0, none⟩)) := Lat.cells hb.b1 rfl
  have a2 : ∀ z : Lat W, z.world.cell? ⟨p2, 0, none⟩ = some (.int .u64 x0) := Lat.cells hb.b2 rfl
  clear hok hn hws hA h3 hw hb hJ hY h0
  rw [hk0]
  go_enter Try.func100, Try.ntmps100
  go_wp2_with fail
  refine (plain_any T R H Re Ca S B HS.out.1 HS.out.2 A n c ws b sb seen0 bad _ (HW.out.ext k0.ok) (fun bw off e => (HA.out bw off e).1) x0 hx0 hx1).mono ?_
  rintro e w1 ⟨rfl, hW1, o1⟩
  have HW1 := Lib.hid hW1
  have HJ1 := Lib.hid (HJ.out [] _ _ H0.out (((Only.of_ext k0.ok).trans o1 fun _ _ h => .inl h).mono fun _ _ h => h))
  have HB1 := Lib.hid ((HB.out.ext k0.ok).only o1 Hbe.out.1 Hbe.out.2.1 Hne3.out)
  generalize plainF S seen0 x0 = q at *
  obtain ⟨q1, q2, q3⟩ := q
  clear hW1 o1 H0 HW hk0
  simp only at HSt HW1
  go_wp2_with fail
  go_loopw [5, 6] (fun s5 s6 wr => ∃ (s : Int) (fine : Bool) (acc : List (Int × Bool)) (seen : List Bool), s5 = .int .i64 s ∧ s6 = .bool fine ∧ Hid (ChAt S wd mk seen0 tot acc seen s fine) ∧ Hid (Walker wr T R H Re Ca S B A n c ws b sb seen bad) ∧ Hid (Boxes wr b x0 mk p1 p2 p3) ∧ Hid (J acc wr)) (fun s5 s6 wr => unseenIn wr sb + oneV s5 s6)
  case atStart => exact ⟨q1, q2, [], q3, rfl, rfl, HSt, HW1, HB1, HJ1⟩
  case round =>
    clear HSt HW1 HB1 HJ1 a1 a2 HB
    obtain ⟨s, fine, acc, seen, rfl, rfl, HC, HWr, HBr, HJr⟩ := hrel
    obtain ⟨k, hk⟩ := lat_self wr
    have b1 : ∀ z : Lat wr, z.world.cell? ⟨p1, 0, none⟩ = some (.pointer (some ⟨b, 0, none⟩)) := Lat.cells HBr.out.b1 rfl
    have b3 : ∀ z : Lat wr, z.world.cell? ⟨p3, 0, none⟩ = some (.bool mk) := Lat.cells HBr.out.b3 rfl
    have c9 : ∀ z : Lat wr, z.world.cell? ⟨b, 9, none⟩ = some (.bool bad) := HWr.out.cells.2.2.2.2.2.2.2.2.2
    have f9 : ∀ z : Lat wr, z.world.frozen? ⟨b, 9, none⟩ = false := Lat.free HWr.out.blk 9
    by_cases hc : fine = true ∧ 0 ≤ s
    · obtain ⟨rfl, h0⟩ := hc
      obtain ⟨j, hj, hjx, hxa, hxb⟩ := HReg.out s h0 HC.out.lt
      have Hx := Lib.hid (⟨hxa, hxb⟩ : 0 ≤ wd s ∧ wd s ≤ 18446744073709551615)
      have Hat := Lib.hid (at_any T R H Re Ca S B HOk.out A n c ws b sb seen bad k.world (HWr.out.ext k.ok) 12 13 s rfl (by omega) h0 (by simp [manyOf]; exact HC.out.lt) (by omega) j (wd s) hj hjx)
      have hs1 : decide (0 ≤ s) = true := by simpa using h0
      have hs2 : (0 ≤ s) = True := by simpa using h0
      clear hj hjx hxa hxb hs2
      rw [hk]
      clear hk
      go_wp2_with fail
      refine Hat.out.mono ?_
      rintro e w2 ⟨rfl, e2⟩
      obtain ⟨k2, rfl⟩ := lat_next k e2
      clear e2 Hat
      go_wp2_with fail
      refine (unlink_any (wd s) _ Hx.out.1 Hx.out.2).mono ?_
      rintro e w3 ⟨rfl, rfl⟩
      by_cases hlk : linkOK mk (wd s) = true
      · have hu : unlinked (wd s) = .tuple #[.int .i64 (wd s % 4294967296 - 1), .bool (decide (4294967296 ≤ wd s)), .int .i64 0] := by
          have h := hlk
          unfold linkOK at h
          rw [Bool.and_eq_true] at h
          exact if_pos (of_decide_eq_true h.1)
        have hmk : mk = false → decide (4294967296 ≤ wd s) = false := fun hm => by
          have h := hlk
          unfold linkOK at h
          rw [hm] at h
          simp at h
          simp
          omega
        rw [hu]
        have HSte := Lib.hid (HC.out.step HS.out.1 h0 hlk)
        have Hdet := Lib.hid (HC.out.det rfl h0)
        have HIt := Lib.hid (⟨⟨seen, HWr.out.ext k2.ok, HC.out⟩, h0, hlk, rfl, HBr.out.ext k2.ok⟩ : ChIt S wd mk seen0 tot T R H Re Ca B A n c ws b sb bad x0 p1 p2 p3 acc (s, decide (4294967296 ≤ wd s)) k2.world)
        have HJ2 := Lib.hid (HJ.out _ _ _ HJr.out (Only.of_ext k2.ok))
        have Hfl := Lib.hid (show unseenIn k.world sb + oneV (.int .i64 s) (.bool true) = falses seen + 1 by rw [(HWr.out.ext k.ok).unseen]; show _ + one s true = _; rw [show one s true = 1 from if_pos ⟨rfl, h0⟩])
        have Hno := Lib.hid (newF_one S seen (wd s % 4294967296 - 1))
        clear hu hlk HJr HWr HBr HC
        obtain ⟨m, hm⟩ : ∃ m, decide (4294967296 ≤ wd s) = m := ⟨_, rfl⟩
        obtain ⟨nx, hnx⟩ : ∃ nx, wd s % 4294967296 - 1 = nx := ⟨_, rfl⟩
        rw [hm] at HIt hmk HSte
        rw [hnx] at HSte Hno
        simp only [hm, hnx]
        clear hm hnx
        have hcase : m = false ∨ (m = true ∧ mk = true) := by
          cases m with
          | false => exact .inl rfl
          | true =>
            cases mk with
            | true => exact .inr ⟨rfl, rfl⟩
            | false => exact absurd (hmk rfl) (by simp)
        clear hmk
        obtain ⟨fn, tmps, assign, body, hy, hR⟩ := HY.out _ _ _ HJ2.out HIt.out
        have Hy : (Instr.yield l #[.int .i64 s, .bool m]).run Try.prog k2.world = .ok (.round l fn tmps assign body) k2.world := hy
        have HR := Lib.hid hR
        clear hy hR
        rcases hcase with rfl | ⟨rfl, rfl⟩
        all_goals
          go_upto_region 5 with fail
          refine (wpIn_wide (n := 0)).1 ?_
          gi_wp2
          refine ⟨rfl, HR.out.mono ?_⟩
          rintro e W3 (⟨rfl, hJ3, hit3⟩ | ⟨rfl, hJx3⟩)
          · obtain ⟨seen3, hW3, hC3⟩ := hit3.ex
            obtain rfl : seen = seen3 := Hdet.out.trans (hC3.det rfl h0).symm
            have HW3 := Lib.hid hW3
            have HB3 := Lib.hid hit3.box
            have HJ3 := Lib.hid hJ3
            clear hW3 hC3 hit3 hJ3
            obtain ⟨k3, hk3⟩ := lat_self W3
            have d1 : ∀ z : Lat W3, z.world.cell? ⟨p1, 0, none⟩ = some (.pointer (some ⟨b, 0, none⟩)) := Lat.cells HB3.out.b1 rfl
            rw [hk3]
            clear hk3
            gi_wp2
            go_wp2_with fail
            refine (new_any T R H Re Ca S B HS.out.1 HS.out.2 A n c ws b sb seen bad _ (HW3.out.ext k3.ok) (fun bw off e => (HA.out bw off e).1) nx).mono ?_
            rintro e w4 ⟨rfl, hW4, o4⟩
            have HW4 := Lib.hid hW4
            have HJ4 := Lib.hid (HJ.out _ _ _ HJ3.out ((Only.of_ext k3.ok).trans o4 fun _ _ h => .inl h))
            have HB4 := Lib.hid ((HB3.out.ext k3.ok).only o4 Hbe.out.1 Hbe.out.2.1 Hne3.out)
            generalize newF S seen nx = qn at *
            obtain ⟨r1, r2, r3⟩ := qn
            clear hW4 o4
            simp only at HSte HW4 Hno
            go_wp2_with fail
            go_roundw
            case rel => exact ⟨r1, r2, _, r3, rfl, rfl, HSte, HW4, HB4, HJ4⟩
            case measure =>
              have h1 := Hfl.out
              have h2 := Hno.out
              have h3 := HW4.out.unseen
              show unseenIn w4 sb + one r1 r2 < _
              omega
          · gi_wp2
            go_wp2_with fail
            refine bodyPost_ret (results_none rfl _ _ _) rfl ?_
            exact ⟨⟨_, rfl⟩, .inr ⟨_, hJx3⟩⟩
      · have hfin : (unlinked (wd s) = .tuple #[.int .i64 0, .bool false, .int .i64 10]) ∨ (mk = false ∧ unlinked (wd s) = .tuple #[.int .i64 (wd s % 4294967296 - 1), .bool true, .int .i64 0]) := by
          unfold linkOK at hlk
          unfold unlinked
          by_cases h1 : wd s < 8589934592 ∧ wd s % 4294967296 ≤ 2147483647
          · rw [if_pos h1]
            rw [decide_eq_true h1] at hlk
            simp at hlk
            exact .inr ⟨hlk.1, by rw [show decide (4294967296 ≤ wd s) = true from by simp; omega]⟩
          · rw [if_neg h1]
            exact .inl rfl
        have Hend := Lib.hid (HC.out.stop h0 (by simpa using hlk))
        clear hlk HC
        rcases hfin with hu | ⟨rfl, hu⟩
        all_goals
          rw [hu]
          clear hu
          cases bad
          all_goals
            go_upto_region 7 with fail
            refine wp_region_cls_tail (Ext wr) 11 (Ext.drew1 k2.ok) (by kernel_rfl) (by kernel_rfl) ?_
            simp only [List.take_succ_cons, List.take_zero, List.drop_succ_cons, List.drop_zero]
            repeat (go_big_quiet_step (fail))
            refine wpQuiet_nil ?_
            rintro _ ⟨kz, rfl⟩
            go_wp2_with fail
            go_end0
            exact ⟨⟨_, rfl⟩, .inl (chS_end HJ.out HA.out Hend.out HWr.out HJr.out kz _ rfl)⟩
    · have Hend := Lib.hid (HC.out.end_ hc)
      clear HC
      cases fine with
      | false =>
        rw [hk]
        clear hk hc
        cases bad
        all_goals
          go_upto_region 7 with fail
          refine wp_region_cls_tail (Ext wr) 11 (Ext.drew1 k.ok) (by kernel_rfl) (by kernel_rfl) ?_
          simp only [List.take_succ_cons, List.take_zero, List.drop_succ_cons, List.drop_zero]
          repeat (go_big_quiet_step (fail))
          refine wpQuiet_nil ?_
          rintro _ ⟨kz, rfl⟩
          go_wp2_with fail
          go_end0
          exact ⟨⟨_, rfl⟩, .inl (chS_end HJ.out HA.out Hend.out HWr.out HJr.out kz _ rfl)⟩
      | true =>
        have hs1 : decide (0 ≤ s) = false := by simpa using hc
        rw [hk]
        clear hk hc
        cases bad
        all_goals
          go_upto_region 7 with fail
          refine wp_region_cls_tail (Ext wr) 11 (Ext.drew1 k.ok) (by kernel_rfl) (by kernel_rfl) ?_
          simp only [List.take_succ_cons, List.take_zero, List.drop_succ_cons, List.drop_zero]
          repeat (go_big_quiet_step (fail))
          refine wpQuiet_nil ?_
          rintro _ ⟨kz, rfl⟩
          go_wp2_with fail
          go_end0
          exact ⟨⟨_, rfl⟩, .inl (chS_end HJ.out HA.out Hend.out HWr.out HJr.out kz _ rfl)⟩

end Go.Proofs.Ytfbacopjookplaa
