/- The walk of pool.Free: the free list by the program. -/
import Derived.Test.YtfbacopjookplaaNewWalker
import Derived.Test.YtfbacopjookplaaFreePure
namespace Go.Proofs.Ytfbacopjookplaa
open Go.RowKit

theorem elemInt : Elem Try.prog 3 1 8 := Elem.of (z := .int .i64 0) (by kernel_rfl) rfl (by omega) (by omega)
def wdOf (R H S B : Int) (ws : List Int) (s : Int) : Int := ws.getD (sumOf R H S B 9 + s).toNat 0
/-- What the free list's slots are, or the error's number. -/
def freeSpec (T R H Re Ca S B : Int) (ws : List Int) : Int × List Int :=
  if ¬ Okay T R H Re Ca S B then (1, []) else if (ws.length : Int) ≠ sumOf R H S B 13 then (2, []) else
  if ws.getD 0 0 % 4294967296 ≤ 2147483647 then
    match spF S (wdOf R H S B ws) S.toNat (List.replicate S.toNat false) (ws.getD 0 0 % 4294967296 - 1) with
    | none => (100, [])
    | some l => (0, l)
  else (100, [])
/-- A list of ints with an error's number, in new memory. -/
def IntsOut (w : World) (k : IntKind) (r : Int × List Int) (e : Ending) (w' : World) : Prop :=
  ∃ v, e = .returned (.tuple #[v, .int k r.1]) ∧ w'.ownsRow w.heap.size 3 1 v r.2.length (r.2.map (Value.int .i64)) ∧ Ext w w'

theorem falses_replicate (n : Nat) : falses (List.replicate n false) = n := by simp [falses]
theorem sum_9_13 (R H S B : Int) : sumOf R H S B 13 = sumOf R H S B 9 + 4 * S := by
  simp [sumOf, manyOf]; omega

theorem Walker.only {w w' : World} {T R H Re Ca S B : Int} {A : Option Addr} {n c : Nat} {ws : List Int} {b sb : Nat} {seen : List Bool} {bad : Bool} {X : Nat → Prop} (h : Walker w T R H Re Ca S B A n c ws b sb seen bad) (o : Only X w w')
    (h1 : ¬ X b) (h2 : ¬ X sb) (h3 : ∀ bw off, A = some ⟨bw, off, none⟩ → ¬ X bw) : Walker w' T R H Re Ca S B A n c ws b sb seen bad := by
  refine ⟨(o.block b h.lt.1 h1).trans h.blk, (o.block sb h.lt.2 h2).trans h.marks, h.len, ?_, h.wlen, h.ne⟩
  intro hne
  obtain ⟨bw, off, hA', hb, hc⟩ := h.words hne
  refine ⟨bw, off, hA', Nat.lt_of_lt_of_le hb o.size, fun j u hu => ?_⟩
  rw [World.cell?_of_block (o.block bw hb (h3 _ _ hA'))]
  exact hc j u hu

def tailSpec (S : Int) (wd : Int → Int) (x0 : Int) : Int × List Int :=
  if x0 % 4294967296 ≤ 2147483647 then
    match spF S wd S.toNat (List.replicate S.toNat false) (x0 % 4294967296 - 1) with
    | none => (100, [])
    | some l => (0, l)
  else (100, [])

set_option maxHeartbeats 2000000 in
theorem free_ok (T R H Re Ca S B : Int) (hok : Okay T R H Re Ca S B) (A : Option Addr) (n c : Nat) (ws : List Int) (w : World) (hr : Rd w A (ws.map (Value.int .u64))) (hl : ws.length = n) (hn : (n : Int) = sumOf R H S B 13)
    (hws : ∀ x ∈ ws, 0 ≤ x ∧ x ≤ 18446744073709551615) :
    Calls Try.prog 12 #[(.agg #[.int .i64 T, .int .i64 R, .int .i64 H, .int .i64 Re, .int .i64 Ca, .int .i64 S, .int .i64 B]), .slice A n c] w (IntsOut w .i64 (freeSpec T R H Re Ca S B ws)) := by
  have hok' := hok
  unfold Okay at hok'
  obtain ⟨_, _, hR, hR', hH, hH', _, _, _, _, hS, hS', hB, hB'⟩ := hok'
  have h13 := sum_9_13 R H S B
  have h9 := sumOf_bd R H S B hR hR' hH hH' hS hS' hB hB' 9
  have hA : ∀ bw off, A = some ⟨bw, off, none⟩ → bw < w.heap.size := by
    intro bw off e
    obtain ⟨b', off', e', hb, _⟩ := hr (by intro h; have := congrArg List.length h; simp at this; subst this; simp at hl; omega)
    rw [e] at e'
    injection e' with e'
    injection e' with e' _
    omega
  have hword : ∀ j : Nat, j < n → ∃ x, ws[j]? = some x ∧ ws.getD j 0 = x ∧ 0 ≤ x ∧ x ≤ 18446744073709551615 := fun j hj =>
    ⟨ws[j], List.getElem?_eq_getElem (by omega), by simp [List.getD, List.getElem?_eq_getElem (show j < ws.length by omega)], hws _ (List.getElem_mem _)⟩
  obtain ⟨x0, hx0, hg0, hx0a, hx0b⟩ := hword 0 (by omega)
  have Hw9 : Hid (∀ s : Int, 0 ≤ s → s < S → ∃ j : Nat, sumOf R H S B 9 + s = j ∧ ws[j]? = some (wdOf R H S B ws s) ∧ 0 ≤ wdOf R H S B ws s ∧ wdOf R H S B ws s ≤ 18446744073709551615) := by
    intro s h0 h1
    obtain ⟨x, hx, hg, ha, hb⟩ := hword (sumOf R H S B 9 + s).toNat (by omega)
    exact ⟨(sumOf R H S B 9 + s).toNat, by omega, by unfold wdOf; rw [hg]; exact hx, by unfold wdOf; rw [hg]; exact ⟨ha, hb⟩⟩
  have HSp : Hid (freeSpec T R H Re Ca S B ws = tailSpec S (wdOf R H S B ws) x0) := by
    show _ = _
    unfold freeSpec tailSpec
    rw [if_neg (by simpa using hok), if_neg (by rw [hl]; omega), hg0]
  have Hok := Lib.hid hok
  have HA := Lib.hid hA
  have Hx0 := Lib.hid hx0
  have Hr := Lib.hid hr
  have Hl := Lib.hid hl
  have Hn := Lib.hid hn
  have HS := Lib.hid (show 1 ≤ S ∧ S ≤ 1024 from ⟨hS, hS'⟩)
  have HB := Lib.hid (show 1 ≤ R ∧ R ≤ 16 ∧ 3 ≤ H ∧ H ≤ 8 ∧ 1 ≤ B ∧ B ≤ 64 from ⟨hR, hR', hH, hH', hB, hB'⟩)
  clear hok hr hl hn hws hword hx0 hg0 hA h13 h9
  obtain ⟨tot, htot⟩ : ∃ tot, tot = spF S (wdOf R H S B ws) S.toNat (List.replicate S.toNat false) (x0 % 4294967296 - 1) := ⟨_, rfl⟩
  have HT := Lib.hid htot
  clear htot
  go_enter Try.func12, Try.ntmps12
  go_wp2_with fail
  obtain ⟨w0, hw0, hX, hE, hlt⟩ := enter1 w (.cells (cfgV T R H Re Ca S B) 23)
  rw [hw0]
  have HE := Lib.hid hE
  clear hw0 hX hE
  refine (newWalker_any T R H Re Ca S B Hok.out A n c ws w0 (Hr.out.ext HE.out) Hl.out Hn.out).mono ?_
  rintro e w1 ⟨b, sb, rfl, hW, hb, hsb, e1⟩
  have HW := Lib.hid hW
  have HA1 : Hid (∀ bw off, A = some ⟨bw, off, none⟩ → bw ≠ sb) := fun bw off e h => by
    have := HA.out bw off e
    omega
  have E1 := Lib.hid (Ext.next HE.out e1)
  clear hW e1
  go_wp2_with fail
  refine (at_any T R H Re Ca S B Hok.out A n c ws b sb _ _ _ HW.out 0 1 0 rfl (by omega) (by omega) (by simp [manyOf]) (by omega) 0 x0 (by simp [sumOf]) Hx0.out).mono ?_
  rintro e w2 ⟨rfl, e2⟩
  have HW2 := Lib.hid (HW.out.ext e2)
  have E2 := Lib.hid (Ext.next E1.out e2)
  clear e2
  go_wp2_with fail
  refine (unhead_any x0 _ hx0a hx0b).mono ?_
  rintro e w3 ⟨rfl, rfl⟩
  by_cases hx : x0 % 4294967296 ≤ 2147483647
  · rw [show unheaded x0 = _ from if_pos hx]
    have HX := Lib.hid hx
    go_wp2_with fail
    refine (new_any T R H Re Ca S B HS.out.1 HS.out.2 A n c ws b sb _ _ _ HW2.out HA1.out _).mono ?_
    rintro e w4 ⟨rfl, hW4, o4⟩
    have hF := freeAt_new (S := S) (wd := wdOf R H S B ws) (total := tot) (acc := []) (seen := List.replicate S.toNat false) (s := x0 % 4294967296 - 1) (by rw [HT.out, falses_replicate]; simp) (by simp [falses_replicate])
    generalize newF S (List.replicate S.toNat false) (x0 % 4294967296 - 1) = q at hF hW4
    obtain ⟨s, fine, seen⟩ := q
    have E4 := Lib.hid (E2.out.only o4 fun q h => by have := HE.out.size; omega)
    clear o4
    simp only at hF hW4
    have HW4 := Lib.hid hW4
    have HF4 := Lib.hid hF
    clear hW4 hF
    go_wp2_with fail
    go_loopw [9, 10, 11] (fun s9 s10 s11 wr => ∃ (s : Int) (fine : Bool) (acc : List Int) (seen : List Bool), s9 = .int .i64 s ∧ s11 = .bool fine ∧ FreeAt S (wdOf R H S B ws) tot s fine acc seen ∧ Walker wr T R H Re Ca S B A n c ws b sb seen false ∧ wr.ownsRow w.heap.size 3 1 s10 acc.length (acc.map (Value.int .i64)) ∧ Ext w wr) (fun _ v _ _ => S.toNat + 1 - lenOf v)
    case atStart => exact ⟨s, fine, [], seen, rfl, rfl, HF4.out, HW4.out, World.ownsRow_nil _ _ _ _, E4.out⟩
    case round =>
      obtain ⟨s, fine, acc, seen, rfl, rfl, hF, hW, hown, hext⟩ := hrel
      obtain ⟨A10, c10, rfl⟩ := own_form hown
      have HF := Lib.hid hF
      have HW := Lib.hid hW
      have HEx := Lib.hid hext
      have hbs := hext.size
      cases fine with
      | false =>
        have ht : tot = none := by cases hF with | bad _ _ h _ => exact h
        clear hF hW hext
        have hs : freeSpec T R H Re Ca S B ws = (100, []) := by rw [HSp.out, tailSpec, if_pos HX.out, ← HT.out, ht]
        have HSS := Lib.hid hs
        clear hs ht
        go_wp2_with fail
        go_ret2
        rw [HSS.out]
        exact ⟨_, rfl, World.ownsRow_nil _ _ _ _, HEx.out⟩
      | true =>
        by_cases hs0 : s < 0
        · have ht : tot = some acc := by cases hF with | done _ _ _ h _ => exact h | at_ _ _ h => omega
          clear hF hW hext
          have hs : freeSpec T R H Re Ca S B ws = (0, acc) := by rw [HSp.out, tailSpec, if_pos HX.out, ← HT.out, ht]
          have HSS := Lib.hid hs
          have HO := Lib.hid hown
          clear hs ht hown
          have hs1 : decide (0 ≤ s) = false := by simp; omega
          go_wp2_with fail
          go_ret2
          rw [HSS.out]
          exact ⟨_, rfl, HO.out, HEx.out⟩
        · have h0 : 0 ≤ s := by omega
          obtain ⟨hlt, hln⟩ : s < S ∧ acc.length + 1 ≤ S.toNat := by cases hF with | done _ _ h => omega | at_ _ _ _ h _ h2 => exact ⟨h, by omega⟩
          obtain ⟨j, hj, hjx, hxa, hxb⟩ := Hw9.out s h0 hlt
          have Hj := Lib.hid hj
          have Hjx := Lib.hid hjx
          have hap1 := own_apart hown hW.blk (by decide)
          have hap2 := own_apart hown hW.marks (by decide)
          have HOB : Hid (∀ q, some q = (Value.slice A10 acc.length c10).ownBlock → w.heap.size ≤ q ∧ q ≠ b ∧ q ≠ sb) := fun q hq => ⟨(hown.lt q hq.symm).1, fun e => hap1 (by rw [← hq, e]), fun e => hap2 (by rw [← hq, e])⟩
          clear hF hW hext hj hjx hs0 hap1 hap2
          have hs1 : decide (0 ≤ s) = true := by simp; omega
          go_wp2_with (at_builtin; refine wpList_push _ rfl _ _ 26 rfl w.heap.size 3 1 8 elemInt Try.underlying26 _ _ _ rfl hown _ rfl rfl (by simp [Value.oneCell']) (by omega) hbs ?_; intro v5 w5 hown5 hgrow5 hat5)
          have hW5 := HW.out.only (Only.of_grown hgrow5) (fun h => (HOB.out _ h).2.1 rfl) (fun h => (HOB.out _ h).2.2 rfl) (fun bw off e h => by have := HA.out bw off e; have := (HOB.out _ h).1; omega)
          have HW5 := Lib.hid hW5
          have E5 := Lib.hid (HEx.out.only (Only.of_grown hgrow5) fun q hq => (HOB.out q hq).1)
          have HO5 := Lib.hid hown5
          clear hW5 hown5 hgrow5 hat5
          refine (at_any T R H Re Ca S B Hok.out A n c ws b sb _ _ _ HW5.out 9 10 s rfl (by omega) h0 (by simp [manyOf]; omega) (by omega) j _ Hj.out Hjx.out).mono ?_
          rintro e w6 ⟨rfl, e6⟩
          have HW6 := Lib.hid (HW5.out.ext e6)
          have HO6 := Lib.hid (own_ext HO5.out e6)
          have E6 := Lib.hid (Ext.next E5.out e6)
          clear e6
          go_wp2_with fail
          refine (plain_any T R H Re Ca S B HS.out.1 HS.out.2 A n c ws b sb _ _ _ HW6.out HA1.out _ hxa hxb).mono ?_
          rintro e w7 ⟨rfl, hW7, o7⟩
          have HW7 := Lib.hid hW7
          have HO7 := Lib.hid (own_only HO6.out o7 fun k hk e => own_apart HO6.out HW6.out.marks (by decide) (by rw [hk, e]))
          have E7 := Lib.hid (E6.out.only o7 fun q h => by have := HE.out.size; omega)
          clear hW7 o7
          obtain ⟨A5, c5, rfl⟩ := own_form HO7.out
          go_wp2_with fail
          go_roundw
          case rel => exact ⟨_, _, acc ++ [s], _, rfl, rfl, freeAt_round HF.out h0, HW7.out, by simpa using HO7.out, E7.out⟩
          case measure => simp [lenOf]; omega
  · rw [show unheaded x0 = _ from if_neg hx]
    go_wp2_with fail
    go_ret2
    have hs : freeSpec T R H Re Ca S B ws = (100, []) := by rw [HSp.out, tailSpec, if_neg (by omega)]
    rw [hs]
    exact ⟨_, rfl, World.ownsRow_nil _ _ _ _, E2.out⟩

theorem free_any (T R H Re Ca S B : Int) (A : Option Addr) (n c : Nat) (ws : List Int) (w : World) (hr : Rd w A (ws.map (Value.int .u64))) (hl : ws.length = n) (hws : ∀ x ∈ ws, 0 ≤ x ∧ x ≤ 18446744073709551615) :
    Calls Try.prog 12 #[(.agg #[.int .i64 T, .int .i64 R, .int .i64 H, .int .i64 Re, .int .i64 Ca, .int .i64 S, .int .i64 B]), .slice A n c] w (IntsOut w .i64 (freeSpec T R H Re Ca S B ws)) := by
  by_cases hok : Okay T R H Re Ca S B
  · by_cases hn : (n : Int) = sumOf R H S B 13
    · exact free_ok T R H Re Ca S B hok A n c ws w hr hl hn hws
    · have hs : Hid (freeSpec T R H Re Ca S B ws = (2, [])) := by show _ = _; unfold freeSpec; rw [if_neg (by simpa using hok), if_pos (by rw [hl]; exact hn)]
      have Hc := Lib.hid (fun w => newWalker_range T R H Re Ca S B hok A n c hn w)
      clear hok hn hr hl hws
      go_enter Try.func12, Try.ntmps12
      go_wp2_with fail
      refine (Hc.out _).mono ?_
      rintro e w1 ⟨rfl, e1⟩
      have E1 := Lib.hid (Ext.next ((Ext.rfl' w).alloc1 _) e1)
      clear e1
      go_wp2_with fail
      go_ret2
      rw [hs.out]
      exact ⟨_, rfl, World.ownsRow_nil _ _ _ _, E1.out⟩
  · have hs : Hid (freeSpec T R H Re Ca S B ws = (1, [])) := by show _ = _; unfold freeSpec; rw [if_pos hok]
    have Hc := Lib.hid (fun w => newWalker_config T R H Re Ca S B hok A n c w)
    clear hok hr hl hws
    go_enter Try.func12, Try.ntmps12
    go_wp2_with fail
    refine (Hc.out _).mono ?_
    rintro e w1 ⟨rfl, e1⟩
    have E1 := Lib.hid (Ext.next ((Ext.rfl' w).alloc1 _) e1)
    clear e1
    go_wp2_with fail
    go_ret2
    rw [hs.out]
    exact ⟨_, rfl, World.ownsRow_nil _ _ _ _, E1.out⟩

end Go.Proofs.Ytfbacopjookplaa
