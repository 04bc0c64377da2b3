/- The walk of the pool walker's keys: the slots without a mark of a list's chain. -/
import Derived.Test.YtfbacopjookplaaSmall
import Derived.Test.YtfbacopjookplaaRound
import Derived.Shelf.Abstract
import Derived.Sort.CutIn
namespace Go.Proofs.Ytfbacopjookplaa
open Go.RowKit
attribute [local go_sem] Oper.semAt_some

/-- The slots without a mark. -/
def unm (l : List (Int × Bool)) : List Int := (l.filter fun x => !x.2).map Prod.fst
/-- The keys of slots rise, and are all of a bucket. -/
def KeysOK (val : Int → Int) (B bk : Int) (l : List (Int × Bool)) : Prop := (l.map fun x => val x.1).Pairwise (· < ·) ∧ ∀ x ∈ l, bk < 0 ∨ bkt B (val x.1) = bk
instance (val : Int → Int) (B bk : Int) (l : List (Int × Bool)) : Decidable (KeysOK val B bk l) := by unfold KeysOK; infer_instance
/-- The last key. -/
def lastKey (val : Int → Int) (l : List (Int × Bool)) : Option Int := l.getLast?.map fun x => val x.1
theorem keysOK_snoc {val : Int → Int} {B bk : Int} {l : List (Int × Bool)} {x : Int × Bool} : KeysOK val B bk (l ++ [x]) ↔ KeysOK val B bk l ∧ (∀ k, lastKey val l = some k → k < val x.1) ∧ (bk < 0 ∨ bkt B (val x.1) = bk) := by
  unfold KeysOK lastKey
  rw [List.map_append, List.pairwise_append]
  constructor
  · rintro ⟨⟨h1, _, h2⟩, h3⟩
    refine ⟨⟨h1, fun y hy => h3 y (List.mem_append_left _ hy)⟩, fun k hk => ?_, h3 x (by simp)⟩
    obtain ⟨y, hy, rfl⟩ := Option.map_eq_some_iff.1 hk
    exact h2 _ (List.mem_map.2 ⟨y, List.mem_of_getLast? hy, rfl⟩) _ (by simp)
  · rintro ⟨⟨h1, h2⟩, h3, h4⟩
    refine ⟨⟨h1, by simp, fun a ha c hc => ?_⟩, fun y hy => ?_⟩
    · simp at hc
      subst hc
      obtain ⟨y, hy, rfl⟩ := List.mem_map.1 ha
      rcases List.eq_nil_or_concat l with rfl | ⟨l', z, rfl⟩
      · simp at hy
      · have hz := h3 (val z.1) (by simp)
        rw [List.concat_eq_append] at hy h1
        rw [List.map_append, List.pairwise_append] at h1
        rcases List.mem_append.1 hy with hy | hy
        · have := h1.2.2 _ (List.mem_map.2 ⟨y, hy, rfl⟩) (val z.1) (by simp)
          omega
        · simp at hy
          subst hy
          exact hz
    · rcases List.mem_append.1 hy with hy | hy
      · exact h2 y hy
      · simp at hy
        subst hy
        exact h4
/-- What keys answers of a chain: the slots without a mark, if all is as it should be. -/
def keysOf (val : Int → Int) (B bk : Int) (tot : List (Int × Bool) × Bool × List Bool) : Option (List Int) := if tot.2.1 = true ∧ KeysOK val B bk tot.1 then some (unm tot.1) else none

/-- What keys' six boxes hold. -/
structure KBox (w : World) (g b : Nat) (bk : Int) (u v : Value) (la : Int) (fi : Bool) : Prop where
  k0 : w.heap[g]? = some (.cells #[.pointer (some ⟨b, 0, none⟩)] 84 (0, 0))
  k1 : w.heap[g + 1]? = some (.cells #[.int .i64 bk] 3 (0, 0))
  k2 : w.heap[g + 1 + 1]? = some (.cells #[u] 26 (0, 0))
  k3 : w.heap[g + 1 + 1 + 1]? = some (.cells #[v] 26 (0, 0))
  k4 : w.heap[g + 1 + 1 + 1 + 1]? = some (.cells #[.int .i64 la] 3 (0, 0))
  k5 : w.heap[g + 1 + 1 + 1 + 1 + 1]? = some (.cells #[.bool fi] 4 (0, 0))
section
variable {w w' : World} {g b : Nat} {bk : Int} {u v : Value} {la : Int} {fi : Bool}
theorem KBox.only (h : KBox w g b bk u v la fi) {X : Nat → Prop} (o : Only X w w') (hx : ∀ q, X q → q < g ∨ g + 1 + 1 + 1 + 1 + 1 < q) : KBox w' g b bk u v la fi :=
  ⟨(o.block _ (blk_lt h.k0) fun e => by have := hx _ e; omega).trans h.k0, (o.block _ (blk_lt h.k1) fun e => by have := hx _ e; omega).trans h.k1, (o.block _ (blk_lt h.k2) fun e => by have := hx _ e; omega).trans h.k2,
    (o.block _ (blk_lt h.k3) fun e => by have := hx _ e; omega).trans h.k3, (o.block _ (blk_lt h.k4) fun e => by have := hx _ e; omega).trans h.k4, (o.block _ (blk_lt h.k5) fun e => by have := hx _ e; omega).trans h.k5⟩
theorem KBox.ext (h : KBox w g b bk u v la fi) (e : Ext w w') : KBox w' g b bk u v la fi := ⟨ext_blk e h.k0, ext_blk e h.k1, ext_blk e h.k2, ext_blk e h.k3, ext_blk e h.k4, ext_blk e h.k5⟩
theorem KBox.byRec {B0 : Nat} (h : KBox w g b bk u v la fi) (r : Rec B0 w w') : KBox w' g b bk u v la fi := ⟨r.cells h.k0, r.cells h.k1, r.cells h.k2, r.cells h.k3, r.cells h.k4, r.cells h.k5⟩
theorem KBox.lats (h : KBox w g b bk u v la fi) : (∀ z : Lat w, z.world.cell? ⟨g, 0, none⟩ = some (.pointer (some ⟨b, 0, none⟩))) ∧ (∀ z : Lat w, z.world.cell? ⟨g + 1, 0, none⟩ = some (.int .i64 bk)) ∧ (∀ z : Lat w, z.world.cell? ⟨g + 1 + 1, 0, none⟩ = some u) ∧
    (∀ z : Lat w, z.world.cell? ⟨g + 1 + 1 + 1, 0, none⟩ = some v) ∧ (∀ z : Lat w, z.world.cell? ⟨g + 1 + 1 + 1 + 1, 0, none⟩ = some (.int .i64 la)) ∧ (∀ z : Lat w, z.world.cell? ⟨g + 1 + 1 + 1 + 1 + 1, 0, none⟩ = some (.bool fi)) :=
  ⟨Lat.cells h.k0 rfl, Lat.cells h.k1 rfl, Lat.cells h.k2 rfl, Lat.cells h.k3 rfl, Lat.cells h.k4 rfl, Lat.cells h.k5 rfl⟩
theorem KBox.frees (h : KBox w g b bk u v la fi) : (∀ z : Lat w, z.world.frozen? ⟨g + 1 + 1, 0, none⟩ = false) ∧ (∀ z : Lat w, z.world.frozen? ⟨g + 1 + 1 + 1, 0, none⟩ = false) ∧ (∀ z : Lat w, z.world.frozen? ⟨g + 1 + 1 + 1 + 1, 0, none⟩ = false) ∧ (∀ z : Lat w, z.world.frozen? ⟨g + 1 + 1 + 1 + 1 + 1, 0, none⟩ = false) :=
  ⟨Lat.free h.k2 0, Lat.free h.k3 0, Lat.free h.k4 0, Lat.free h.k5 0⟩
theorem KBox.setU (h : KBox w g b bk u v la fi) (x : Value) : KBox (w.setCell ⟨g + 1 + 1, 0, none⟩ x) g b bk x v la fi ∧ Only (fun q => q = g + 1 + 1) w (w.setCell ⟨g + 1 + 1, 0, none⟩ x) := by
  have o := (Only.refl (fun q => q = g + 1 + 1) w).setCell ⟨g + 1 + 1, 0, none⟩ x fun _ => rfl
  exact ⟨⟨(o.block _ (blk_lt h.k0) (by omega)).trans h.k0, (o.block _ (blk_lt h.k1) (by omega)).trans h.k1, heap_setCell_same _ _ _ _ _ _ h.k2, (o.block _ (blk_lt h.k3) (by omega)).trans h.k3, (o.block _ (blk_lt h.k4) (by omega)).trans h.k4, (o.block _ (blk_lt h.k5) (by omega)).trans h.k5⟩, o⟩
theorem KBox.setV (h : KBox w g b bk u v la fi) (x : Value) : KBox (w.setCell ⟨g + 1 + 1 + 1, 0, none⟩ x) g b bk u x la fi ∧ Only (fun q => q = g + 1 + 1 + 1) w (w.setCell ⟨g + 1 + 1 + 1, 0, none⟩ x) := by
  have o := (Only.refl (fun q => q = g + 1 + 1 + 1) w).setCell ⟨g + 1 + 1 + 1, 0, none⟩ x fun _ => rfl
  exact ⟨⟨(o.block _ (blk_lt h.k0) (by omega)).trans h.k0, (o.block _ (blk_lt h.k1) (by omega)).trans h.k1, (o.block _ (blk_lt h.k2) (by omega)).trans h.k2, heap_setCell_same _ _ _ _ _ _ h.k3, (o.block _ (blk_lt h.k4) (by omega)).trans h.k4, (o.block _ (blk_lt h.k5) (by omega)).trans h.k5⟩, o⟩
theorem KBox.setL (h : KBox w g b bk u v la fi) (x : Int) : KBox (w.setCell ⟨g + 1 + 1 + 1 + 1, 0, none⟩ (.int .i64 x)) g b bk u v x fi ∧ Only (fun q => q = g + 1 + 1 + 1 + 1) w (w.setCell ⟨g + 1 + 1 + 1 + 1, 0, none⟩ (.int .i64 x)) := by
  have o := (Only.refl (fun q => q = g + 1 + 1 + 1 + 1) w).setCell ⟨g + 1 + 1 + 1 + 1, 0, none⟩ (.int .i64 x) fun _ => rfl
  exact ⟨⟨(o.block _ (blk_lt h.k0) (by omega)).trans h.k0, (o.block _ (blk_lt h.k1) (by omega)).trans h.k1, (o.block _ (blk_lt h.k2) (by omega)).trans h.k2, (o.block _ (blk_lt h.k3) (by omega)).trans h.k3, heap_setCell_same _ _ _ _ _ _ h.k4, (o.block _ (blk_lt h.k5) (by omega)).trans h.k5⟩, o⟩
theorem KBox.setF (h : KBox w g b bk u v la fi) (x : Bool) : KBox (w.setCell ⟨g + 1 + 1 + 1 + 1 + 1, 0, none⟩ (.bool x)) g b bk u v la x ∧ Only (fun q => q = g + 1 + 1 + 1 + 1 + 1) w (w.setCell ⟨g + 1 + 1 + 1 + 1 + 1, 0, none⟩ (.bool x)) := by
  have o := (Only.refl (fun q => q = g + 1 + 1 + 1 + 1 + 1) w).setCell ⟨g + 1 + 1 + 1 + 1 + 1, 0, none⟩ (.bool x) fun _ => rfl
  exact ⟨⟨(o.block _ (blk_lt h.k0) (by omega)).trans h.k0, (o.block _ (blk_lt h.k1) (by omega)).trans h.k1, (o.block _ (blk_lt h.k2) (by omega)).trans h.k2, (o.block _ (blk_lt h.k3) (by omega)).trans h.k3, (o.block _ (blk_lt h.k4) (by omega)).trans h.k4, heap_setCell_same _ _ _ _ _ _ h.k5⟩, o⟩
end

theorem results_cell_val {P : Program} {fn : Func} {p : Tmp} {ty : TypeId} (h : fn.results = #[.cell p ty]) (tmps : Array Value) (w : World) (g : Nat) (hp : tmps.getD p undef = .pointer (some ⟨g, 0, none⟩)) (v : Value)
    (hl : (loadVar ty ⟨g, 0, none⟩).run P w = .ok v w) : (results fn tmps).run P w = .ok v w := by
  have hp' : tmps[p]?.getD undef = .pointer (some ⟨g, 0, none⟩) := by simpa using hp
  simp [results, h, hp', asAddr, hl]
theorem run_loadVar_ints {w : World} {g : Nat} {v : Value} (h : w.cell? ⟨g, 0, none⟩ = some v) : (loadVar 26 ⟨g, 0, none⟩).run Try.prog w = .ok v w := by
  have ha : (isAgg 26).run Try.prog w = .ok false w := by kernel_rfl
  unfold loadVar load
  simp [Sem.run_bind, ha, Result.andThen, Sem.run, h]
theorem unm_snoc (l : List (Int × Bool)) (s : Int) (m : Bool) : unm (l ++ [(s, m)]) = if m then unm l else unm l ++ [s] := by
  unfold unm
  rw [List.filter_append]
  cases m <;> simp
theorem lastKey_snoc (val : Int → Int) (l : List (Int × Bool)) (x : Int × Bool) : (lastKey val (l ++ [x])).getD 0 = val x.1 := by simp [lastKey]
theorem empty_snoc (l : List (Int × Bool)) (x : Int × Bool) : (l ++ [x]).isEmpty = false := by simp
/-- A prefix of a chain is what has been handed out. -/
theorem ChAt.prefix {S : Int} {wd : Int → Int} {mk : Bool} {seen0 : List Bool} {tot : List (Int × Bool) × Bool × List Bool} {acc : List (Int × Bool)} {seen : List Bool} {s : Int} (h : ChAt S wd mk seen0 tot acc seen s true) (h0 : 0 ≤ s) (hk : linkOK mk (wd s) = true) :
    ∃ rest, tot.1 = acc ++ (s, decide (4294967296 ≤ wd s)) :: rest := by
  rw [h.eq]
  unfold chainF
  rw [if_pos ⟨rfl, h0⟩, if_pos hk]
  exact ⟨_, rfl⟩
theorem keysOK_prefix {val : Int → Int} {B bk : Int} {l m : List (Int × Bool)} (h : KeysOK val B bk (l ++ m)) : KeysOK val B bk l := by
  obtain ⟨h1, h2⟩ := h
  rw [List.map_append, List.pairwise_append] at h1
  exact ⟨h1.1, fun x hx => h2 x (List.mem_append_left _ hx)⟩

/-- What keys' loop keeps. -/
structure KInv (w : World) (B0 b sb : Nat) (bk S B : Int) (val : Int → Int) (pre : List (Int × Bool)) (W : World) : Prop where
  ex : ∃ v, KBox W w.heap.size b bk (.slice none 0 0) v ((lastKey val pre).getD 0) pre.isEmpty ∧ W.ownsRow B0 3 1 v (unm pre).length ((unm pre).map (Value.int .i64))
  ok : KeysOK val B bk pre
  rng : ∀ x ∈ pre, 0 ≤ x.1 ∧ x.1 < S
  len : pre.length ≤ S.toNat
  on : Only (fun q => q = sb ∨ q = b) w W
/-- What it leaves when a key is not as it should be. -/
structure KLeft (T R H Re Ca S B : Int) (A : Option Addr) (n c : Nat) (ws : List Int) (b sb : Nat) (w : World) (no : Prop) (cd : Code) (W : World) : Prop where
  cd : cd = .ret
  nil : W.heap[w.heap.size + 1 + 1]? = some (.cells #[.slice none 0 0] 26 (0, 0))
  on : Only (fun q => q = sb ∨ q = b) w W
  no : no
  wal : ∃ seen, Walker W T R H Re Ca S B A n c ws b sb seen true

set_option maxRecDepth 100000 in
set_option maxHeartbeats 4000000 in
theorem keys_any (T R H Re Ca S B : Int) (hok : Okay T R H Re Ca S B) (A : Option Addr) (n c : Nat) (ws : List Int) (hn : (n : Int) = sumOf R H S B 13) (hws : ∀ x ∈ ws, 0 ≤ x ∧ x ≤ 18446744073709551615)
    (b sb : Nat) (seen0 : List Bool) (bad : Bool) (x0 : Int) (hx0 : 0 ≤ x0) (hx1 : x0 ≤ 18446744073709551615) (bk : Int) (w : World)
    (hA : ∀ bw off, A = some ⟨bw, off, none⟩ → bw ≠ sb ∧ bw ≠ b) (hw : Walker w T R H Re Ca S B A n c ws b sb seen0 bad) :
    Calls Try.prog 55 #[.pointer (some ⟨b, 0, none⟩), .int .u64 x0, .int .i64 bk] w fun e w' => ∃ v l seen bad2, e = .returned v ∧ w'.ownsRow w.heap.size 3 1 v l.length (l.map (Value.int .i64)) ∧ Only (fun q => q = sb ∨ q = b) w w' ∧
      Walker w' T R H Re Ca S B A n c ws b sb seen bad2 ∧ (∀ s ∈ l, 0 ≤ s ∧ s < S) ∧ l.length ≤ S.toNat ∧
      ((keysOf (fun s => wrap64 (regOf R H S B ws 10 s)) B bk (chainOf S (regOf R H S B ws 12) true seen0 x0) = some l ∧ seen = (chainOf S (regOf R H S B ws 12) true seen0 x0).2.2 ∧ bad2 = bad) ∨
       (keysOf (fun s => wrap64 (regOf R H S B ws 10 s)) B bk (chainOf S (regOf R H S B ws 12) true seen0 x0) = none ∧ bad2 = true)) := by
  have Hok := Lib.hid hok
  have Hn := Lib.hid hn
  have Hws := Lib.hid hws
  have HA := Lib.hid hA
  have HW := Lib.hid hw
  have Hx0 := Lib.hid (⟨hx0, hx1⟩ : 0 ≤ x0 ∧ x0 ≤ 18446744073709551615)
  have hok' := hok
  unfold Okay at hok'
  obtain ⟨_, _, hR, hR', hH, hH', _, _, _, _, hS, hS', hB, hB'⟩ := hok'
  have Hv : Hid (∀ (seen : List Bool) (bad : Bool) (w : World), Walker w T R H Re Ca S B A n c ws b sb seen bad → ∀ s : Int, 0 ≤ s → s < S → Calls Try.prog 52 #[.pointer (some ⟨b, 0, none⟩), .int .i64 s] w fun e w' => e = .returned (.int .i64 ((fun s => wrap64 (regOf R H S B ws 10 s)) s)) ∧ Ext w w') := fun seen bad w hw s h0 h1 => value_any T R H Re Ca S B Hok.out A n c ws Hn.out Hws.out b sb seen bad w hw s h0 h1
  have Hseq : Hid (∀ (p1 p2 p3 : Nat) (W : World), p3 ≠ sb → Walker W T R H Re Ca S B A n c ws b sb seen0 bad → Boxes W b x0 true p1 p2 p3 → Iterates Try.prog 100 #[.pointer (some ⟨p1, 0, none⟩), .pointer (some ⟨p2, 0, none⟩), .pointer (some ⟨p3, 0, none⟩)] encSlot (Only fun q => q = sb ∨ q = b)
      (ChIt S (regOf R H S B ws 12) true seen0 (chainOf S (regOf R H S B ws 12) true seen0 x0) T R H Re Ca B A n c ws b sb bad x0 p1 p2 p3)
      (ChS (chainOf S (regOf R H S B ws 12) true seen0 x0) T R H Re Ca S B A n c ws b sb bad) W) := fun p1 p2 p3 W h3 hw hb => chain1_iter T R H Re Ca S B Hok.out A n c ws Hn.out Hws.out b sb bad true x0 Hx0.out.1 Hx0.out.2 p1 p2 p3 seen0 W HA.out h3 hw hb
  generalize (fun s => wrap64 (regOf R H S B ws 10 s)) = val at *
  generalize regOf R H S B ws 12 = wd_ at *
  have Hlt := Lib.hid hw.lt
  have HbA : Hid (∀ bw off, A = some ⟨bw, off, none⟩ → bw < w.heap.size) := fun bw off e => by
    obtain ⟨b', off', e', hb, _⟩ := hw.words (by
      intro h
      have h1 := congrArg List.length h
      rw [List.length_map, List.length_nil, hw.wlen] at h1
      have h2 := (sumOf_bd R H S B hR hR' hH hH' hS hS' hB hB' 13).1
      omega)
    rw [e] at e'
    injection e' with e'
    injection e' with e' _
    omega
  have HS := Lib.hid (⟨hS, hS'⟩ : 1 ≤ S ∧ S ≤ 1024)
  generalize htt : chainOf S wd_ true seen0 x0 = tot at *
  clear hok hn hws hA hw hx0 hx1 htt hR hR' hH hH' hB hB'
  refine calls_of_marks Try.func55 rfl ?_
  simp only [Try.ntmps55, List.size_toArray, List.length_cons, List.length_nil, Nat.reduceAdd, Nat.reduceSub, Array.replicate_succ, Array.replicate_zero, List.push_toArray, List.append_toArray, List.nil_append, List.cons_append]
  go_upto_region 3 with fail
  obtain ⟨wa, ha, h0, h1, eA, ltA⟩ := enter2 w (.cells #[.pointer (some ⟨b, 0, none⟩)] 84) (.cells #[.int .i64 bk] 3)
  obtain ⟨wb, hb, h2, h3, eB, ltB⟩ := enter2 wa (.cells #[.slice none 0 0] 26) (.cells #[.slice none 0 0] 26)
  obtain ⟨wc, hc, h4, h5, eC, ltC⟩ := enter2 wb (.cells #[.int .i64 0] 3) (.cells #[.bool true] 4)
  rw [ha, hb, hc]
  have sa : wa.heap.size = w.heap.size + 1 + 1 := by rw [← ha]; simp
  have sb' : wb.heap.size = w.heap.size + 1 + 1 + 1 + 1 := by rw [← hb]; simp [sa]
  have sc : wc.heap.size = w.heap.size + 1 + 1 + 1 + 1 + 1 + 1 := by rw [← hc]; simp [sb']
  rw [sa] at h2 h3
  rw [sb'] at h4 h5
  have HK0 : Hid (KBox wc w.heap.size b bk (.slice none 0 0) (.slice none 0 0) ((lastKey val []).getD 0) ([] : List (Int × Bool)).isEmpty) :=
    ⟨ext_blk (Ext.next eB eC) h0, ext_blk (Ext.next eB eC) h1, ext_blk eC h2, ext_blk eC h3, h4, h5⟩
  have HE := Lib.hid (Ext.next eA (Ext.next eB eC))
  have Hsc := Lib.hid sc
  clear ha hb hc h0 h1 h2 h3 h4 h5 eA eB eC ltA ltB ltC sa sb' sc
  obtain ⟨kc, hkc⟩ := lat_self wc
  obtain ⟨b0, b1, b2, b3, b4, b5⟩ := HK0.out.lats
  rw [hkc]
  go_wp2_with fail
  refine (chain_any b x0 true _).mono ?_
  rintro e wd ⟨p1, p2, p3, rfl, hbx, l1, l2, l3, ed⟩
  have HBx := Lib.hid hbx
  have HE2 := Lib.hid (Ext.next HE.out (Ext.next kc.ok ed))
  have HK2 := Lib.hid (HK0.out.ext (Ext.next kc.ok ed))
  have HW2 := Lib.hid (HW.out.ext HE2.out)
  have hl : w.heap.size + 1 + 1 + 1 + 1 + 1 < p1 ∧ w.heap.size + 1 + 1 + 1 + 1 + 1 < p2 ∧ w.heap.size + 1 + 1 + 1 + 1 + 1 < p3 := by
    have := Hsc.out
    have := kc.size
    omega
  have Hl := Lib.hid hl
  clear hbx ed l1 l2 l3 hl b0 b1 b2 b3 b4 b5 HK0 HE kc hkc
  go_wp2_with fail
  refine wp_rangeFunc_any (α := Int × Bool) (gf := 100) (lb := #[.pointer (some ⟨p1, 0, none⟩), .pointer (some ⟨p2, 0, none⟩), .pointer (some ⟨p3, 0, none⟩)]) rfl (enters_of Try.func100 (by kernel_rfl) rfl) (encs := encSlot) (fun _ => rfl)
    (hseq := fun W e => Hseq.out p1 p2 p3 W (by have := Hl.out; have := Hlt.out; omega) (HW2.out.ext e) (HBx.out.ext e)) ?tr ?it ?s
    (KInv w wd.heap.size b sb bk S B val) (fun cd _ => KLeft T R H Re Ca S B A n c ws b sb w (¬ KeysOK val B bk tot.1) cd)
    ?ie ?iT ?iR ?xR ?h0
    (fun x => { tmps := #[.pointer (some ⟨b, 0, none⟩), .int .u64 x0, .int .i64 bk, .pointer (some ⟨w.heap.size, 0, none⟩), undef, .pointer (some ⟨w.heap.size + 1, 0, none⟩), .pointer (some ⟨w.heap.size + 1 + 1, 0, none⟩), .pointer (some ⟨w.heap.size + 1 + 1 + 1, 0, none⟩), .pointer (some ⟨w.heap.size + 1 + 1 + 1 + 1, 0, none⟩), .pointer (some ⟨w.heap.size + 1 + 1 + 1 + 1 + 1, 0, none⟩), .int .i64 x.1, .bool x.2, undef, undef, undef, .pointer (some ⟨b, 0, none⟩), .int .u64 x0, .func (.func 100) #[] #[.pointer (some ⟨p1, 0, none⟩), .pointer (some ⟨p2, 0, none⟩), .pointer (some ⟨p3, 0, none⟩)], .int .i64 x.1, .bool x.2, undef, undef, undef, undef, undef, undef, undef, undef, undef, undef, undef, undef, undef, undef, undef, undef, undef, undef, undef, undef, undef, undef, undef, undef, undef, undef, undef, undef, undef, undef, undef, undef, undef, undef, undef, undef, undef, undef], defers := [] })
    ?assign ?body ?done ?stop
  case tr =>
    intro X Y ho k o hk hX _
    have := Hlt.out
    have := HE2.out.size
    exact (ho.block k (Array.getElem?_eq_some_iff.1 hX).1 (by omega)).trans hX
  case it =>
    intro pre x X Y h hr
    have := Hlt.out
    have := HE2.out.size
    obtain ⟨seen, hw, hc⟩ := h.ex
    exact ⟨⟨seen, hw.byRec hr (by omega) (by omega) (fun bw off e => by have := HbA.out bw off e; omega), hc⟩, h.pos, h.lk, h.mark, h.box.byRec hr⟩
  case s =>
    intro xs X Y h hr
    have := Hlt.out
    have := HE2.out.size
    exact ⟨h.1, h.2.byRec hr (by omega) (by omega) (fun bw off e => by have := HbA.out bw off e; omega)⟩
  case ie =>
    rintro pre X Y ⟨⟨v, h1, h2⟩, h3, h4, h5, h6⟩ e
    exact ⟨⟨v, h1.ext e, own_ext h2 e⟩, h3, h4, h5, h6.trans (Only.of_ext (S := fun _ => False) e) fun _ _ h => h.elim⟩
  case iT =>
    rintro pre X Y ⟨⟨v, h1, h2⟩, h3, h4, h5, h6⟩ ho
    have := Hlt.out
    exact ⟨⟨v, h1.only ho (fun q hq => by omega), own_only h2 ho (fun k hk hq => by have := h2.lt k hk; have := HE2.out.size; omega)⟩, h3, h4, h5, h6.trans ho fun _ _ h => h⟩
  case iR =>
    rintro pre X Y ⟨⟨v, h1, h2⟩, h3, h4, h5, h6⟩ hr
    exact ⟨⟨v, h1.byRec hr, hr.own h2⟩, h3, h4, h5, h6.trans hr.only fun i hi h => by have := HE2.out.size; omega⟩
  case xR =>
    rintro cd pre X Y ⟨rfl, h1, h2, h3, seen, h4⟩ hr
    have := Hlt.out
    have hsz := HE2.out.size
    exact ⟨rfl, hr.cells h1, h2.trans hr.only fun i hi h => by omega, h3, seen, h4.byRec hr (by omega) (by omega) (fun bw off e => by have := HbA.out bw off e; omega)⟩
  case h0 => exact ⟨⟨_, HK2.out, World.ownsRow_nil _ _ _ _⟩, ⟨by simp, fun _ h => by simp at h⟩, fun _ h => by simp at h, Nat.zero_le _, Only.of_ext HE2.out⟩
  case assign =>
    intro l x W K hK
    simp only [encSlot]
    gi_wp2
    exact hK
  case body =>
    rintro l pre x W ⟨⟨v, hKb, hOwn⟩, hKo, hRg, hlen, hOn⟩ hit hlt
    have HKb := Lib.hid hKb
    have Hown := Lib.hid hOwn
    have Hko := Lib.hid hKo
    have Hrg := Lib.hid hRg
    have Hon := Lib.hid hOn
    clear hKb hOwn hKo hRg hOn
    obtain ⟨seen, hWk, hCh⟩ := hit.ex
    obtain ⟨xs, xm⟩ := x
    have hx0 : 0 ≤ xs := hit.pos
    have hx1 : xs < S := hCh.lt
    have hmore := hCh.more hx0
    have HWk := Lib.hid hWk
    obtain ⟨b0, b1, b2, b3, b4, b5⟩ := HKb.out.lats
    obtain ⟨k, hk⟩ := lat_self W
    have Hc1 := Lib.hid (Hv.out seen bad k.world (hWk.ext k.ok) xs hx0 hx1)
    have Hit := Lib.hid hit
    have Hch := Lib.hid hCh
    have Hk := Lib.hid hk
    clear hit hWk hCh
    rw [hk]
    clear hk
    gi_wp2
    refine ⟨trivial, rfl, callsIn_round (Hc1.out.mono ?_)⟩
    rintro e w1 ⟨rfl, e1⟩
    obtain ⟨k1, rfl⟩ := lat_next k e1
    clear e1 Hc1
    have HF : Hid ((pre.isEmpty = true ∧ pre = []) ∨ (pre.isEmpty = false ∧ lastKey val pre = some ((lastKey val pre).getD 0))) := by
      show _ ∨ _
      rcases List.eq_nil_or_concat pre with rfl | ⟨l', z, rfl⟩
      · exact .inl ⟨rfl, rfl⟩
      · exact .inr ⟨by simp, by simp [lastKey]⟩
    generalize pre.isEmpty = fi at *
    generalize (lastKey val pre).getD 0 = la at *
    have HK1 := Lib.hid (HKb.out.ext k1.ok)
    obtain ⟨c0, c1, c2, c3, c4, c5, c6, c7, c8, c9⟩ := HWk.out.cells
    have f9 : ∀ z : Lat W, z.world.frozen? ⟨b, 9, none⟩ = false := Lat.free HWk.out.blk 9
    obtain ⟨f2, f3, f4, f5⟩ := HKb.out.frees
    have Hgd : Hid (w.heap.size + 1 + 1 + 1 + 1 + 1 < wd.heap.size) := blk_lt HK2.out.k5
    have Hpd : Hid (p1 < wd.heap.size ∧ p2 < wd.heap.size ∧ p3 < wd.heap.size) := ⟨blk_lt HBx.out.b1, blk_lt HBx.out.b2, blk_lt HBx.out.b3⟩
    have Hrng : Hid (∀ y ∈ pre ++ [(xs, xm)], 0 ≤ y.1 ∧ y.1 < S) := fun y hy => by
      rcases List.mem_append.1 hy with h | h
      · exact Hrg.out y h
      · simp at h
        rw [h]
        exact ⟨hx0, hx1⟩
    have Hpre := Lib.hid (Hch.out.prefix hx0 Hit.out.lk)
    rw [← Hit.out.mark] at Hpre
    have Hsn : Hid (KeysOK val B bk tot.1 → (∀ k, lastKey val pre = some k → k < val xs) ∧ (bk < 0 ∨ bkt B (val xs) = bk)) := fun h => by
      obtain ⟨rest, hr⟩ := Hpre.out
      rw [hr] at h
      exact (keysOK_snoc.1 (keysOK_prefix (l := pre ++ [(xs, xm)]) (m := rest) (by simpa using h))).2
    have HKok : Hid ((∀ k, lastKey val pre = some k → k < val xs) → (bk < 0 ∨ bkt B (val xs) = bk) → KeysOK val B bk (pre ++ [(xs, xm)])) := fun h1 h2 => keysOK_snoc.2 ⟨Hko.out, h1, h2⟩
    by_cases hf1 : fi = false ∧ val xs ≤ la
    · obtain ⟨rfl, hle⟩ := hf1
      gi_wp2
      have hWb := (HWk.out.ext k1.ok).flag true fun bw off e => (HA.out bw off e).2
      have hOb : Only (fun q => q = sb ∨ q = b) k1.world (k1.world.setCell ⟨b, 9, none⟩ (.bool true)) := (Only.refl _ _).setCell _ _ fun _ => .inr rfl
      have hKb := (HKb.out.ext k1.ok).only hOb fun q hq => by have := Hlt.out; omega
      generalize k1.world.setCell ⟨b, 9, none⟩ (.bool true) = wf at hWb hOb hKb ⊢
      obtain ⟨hKu, hOu⟩ := hKb.setU (.slice none 0 0)
      have hsz := Hon.out.size
      have hlt2 := Hlt.out
      have hsz2 := HE2.out.size
      have hsz3 := k1.ok.size
      have hg2 := blk_lt HKb.out.k2
      have hgd := Hgd.out
      refine ⟨?_, rfl, hKu.k2, ?_, ?_, seen, hWb.only hOu (by omega) (by omega) fun bw off e => by have := HbA.out bw off e; omega⟩
      · rw [← Hk.out]
        exact ((keeps_lt (B := wd.heap.size) (Only.of_ext (S := fun _ => False) k1.ok) fun _ h => h.elim).trans (keeps_lt hOb fun q hq => by omega)).trans (keeps_lt hOu fun q hq => by omega)
      · exact ((Hon.out.trans (Only.of_ext (S := fun _ => False) k1.ok) fun _ _ h => h.elim).trans hOb fun _ _ h => h).trans (S' := fun q => q = w.heap.size + 1 + 1) hOu fun i hi h => by omega
      · intro hk
        rcases HF.out with h | h
        · cases h.1
        · have := (Hsn.out hk).1 la h.2
          omega
    · have hlast : Hid (∀ k, lastKey val pre = some k → k < val xs) := fun q hq => by
        rcases HF.out with ⟨h1, rfl⟩ | ⟨h1, h2⟩
        · cases hq
        · rw [h2] at hq
          injection hq with hq
          by_cases h3 : val xs ≤ la
          · exact absurd ⟨h1, h3⟩ hf1
          · omega
      have hcond : fi = true ∨ (fi = false ∧ decide (val xs ≤ la) = false) := by
        cases fi with
        | true => exact .inl rfl
        | false => exact .inr ⟨rfl, by simpa using hf1⟩
      clear hf1
      have Hbu := Lib.hid (fun w => bucket_any T R H Re Ca S B Hok.out (val xs) w)
      generalize hbt : bkt B (val xs) = bt at *
      by_cases hbk : 0 ≤ bk
      · by_cases hne : bt = bk
        · have hnb : (bt != bk) = false := by simpa using hne
          have Hin : Hid (bk < 0 ∨ bt = bk) := .inr hne
          clear hne
          rcases hcond with rfl | ⟨rfl, hle⟩
          all_goals
            gi_wp2
            refine ⟨trivial, rfl, callsIn_round ((Hbu.out _).mono ?_)⟩
            rintro e w2 ⟨rfl, e2⟩
            obtain ⟨k2, rfl⟩ := lat_next k1 e2
            clear e2 Hbu
            gi_upto_region 16 with fail
            obtain ⟨hK2, hO2⟩ := (HKb.out.ext k2.ok).setL (val xs)
            generalize k2.world.setCell ⟨w.heap.size + 1 + 1 + 1 + 1, 0, none⟩ (.int .i64 (val xs)) = wl at hK2 hO2 ⊢
            obtain ⟨hK3, hO3⟩ := hK2.setF false
            generalize wl.setCell ⟨w.heap.size + 1 + 1 + 1 + 1 + 1, 0, none⟩ (.bool false) = wm at hK3 hO3 ⊢
            have hsz := Hon.out.size
            have hlt2 := Hlt.out
            have hsz2 := HE2.out.size
            have hsz3 := k2.ok.size
            have hgd := Hgd.out
            have hO : Only (fun q => w.heap.size ≤ q ∧ q ≤ w.heap.size + 1 + 1 + 1 + 1 + 1) W wm := ((Only.of_ext (S := fun q => w.heap.size ≤ q ∧ q ≤ w.heap.size + 1 + 1 + 1 + 1 + 1) k2.ok).trans hO2 fun i hi h => by omega).trans hO3 fun i hi h => by omega
            have HOm := Lib.hid hO
            have HKm := Lib.hid hK3
            have HOwn := Lib.hid (own_only Hown.out hO fun q hq h => by have := Hown.out.lt q hq; omega)
            have HWm := Lib.hid (HWk.out.only hO (by omega) (by omega) fun bw off e => by have := HbA.out bw off e; omega)
            have Hbm := Lib.hid (Hit.out.box.only hO (by have := Hl.out; omega) (by have := Hl.out; omega) (by have := Hl.out; omega))
            have HKeep := Lib.hid (keeps_lt (B := wd.heap.size) hO fun q hq => by omega)
            have HOn := Lib.hid (Hon.out.trans hO fun i hi h => by omega)
            have Hok2 := Lib.hid (HKok.out hlast.out Hin.out)
            have hszm := hO.size
            clear hK2 hO2 hK3 hO3 hO c0 c1 c2 c3 c4 c5 c6 c7 c8 c9 f9 b0 b1 b2 b3 b4 b5 f2 f3 f4 f5
            obtain ⟨km, hkm⟩ := lat_self wm
            cases xm with
            | true =>
              rw [hkm]
              clear hkm
              gi_wp2
              rw [← Hk.out]
              refine ⟨HKeep.out.trans (keeps_lt (Only.of_ext (S := fun _ => False) km.ok) fun _ h => h.elim), ⟨⟨v, ?_, ?_⟩, Hok2.out, ?_, ?_, ?_⟩, ⟨seen, HWm.out.ext km.ok, Hch.out⟩, Hit.out.pos, Hit.out.lk, Hit.out.mark, Hbm.out.ext km.ok⟩
              · rw [lastKey_snoc, empty_snoc]
                exact HKm.out.ext km.ok
              · rw [unm_snoc]
                exact own_ext HOwn.out km.ok
              · exact Hrng.out
              · rw [List.length_append, List.length_singleton]; omega
              · exact HOn.out.trans (Only.of_ext (S := fun _ => False) km.ok) fun _ _ h => h.elim
            | false =>
              obtain ⟨A7, c7, rfl⟩ := own_form HOwn.out
              obtain ⟨b0, b1, b2, b3, b4, b5⟩ := HKm.out.lats
              have hown3 := own_ext HOwn.out km.ok
              have hbs : wd.heap.size ≤ km.world.heap.size := by have := km.ok.size; omega
              have hbytes : ((unm pre).length + 1) * 8 ≤ 140737488355328 := by
                have h1 : (unm pre).length ≤ pre.length := by unfold unm; rw [List.length_map]; exact List.length_filter_le _ _
                have h2 := HS.out
                omega
              rw [hkm]
              clear hkm
              gi_upto_region 17 with fail
              refine wpIn_round_list (fun _ _ h => h) (by kernel_rfl) ?_
              go_wp2_with (at_builtin; refine wpList_push _ rfl _ _ 26 rfl wd.heap.size 3 1 8 elemInt Try.underlying26 _ _ _ rfl hown3 _ rfl rfl (by simp [Value.oneCell']) hbytes hbs ?_; intro v5 w5 hown5 hgrow5 hat5; have hK5 := (HKm.out.ext km.ok).only (Only.of_grown hgrow5) (fun q hq => .inr (by have := hown3.lt q hq.symm; omega)); have hc5 := (hK5.lats.2.2.2.1 ⟨w5, Ext.rfl' w5⟩); have hf5 := (hK5.frees.2.1 ⟨w5, Ext.rfl' w5⟩); obtain ⟨A5, c5, rfl⟩ := own_form hown5)
              have hOm := Only.of_ext (S := fun q => w.heap.size ≤ q) km.ok
              have hg5 := (Only.of_grown hgrow5).mono (S' := fun q => wd.heap.size ≤ q) fun q _ hq => (hown3.lt q hq.symm).1
              have hk5 := keeps_grown (B := wd.heap.size) hown3 hgrow5
              obtain ⟨hK6, hO6⟩ := hK5.setV (.slice A5 ((unm pre).length + 1) c5)
              have hszk := km.ok.size
              have hszg := hg5.size
              rw [← Hk.out]
              refine ⟨((HKeep.out.trans (keeps_lt (Only.of_ext (S := fun _ => False) km.ok) fun _ h => h.elim)).trans hk5).trans (keeps_lt hO6 fun q hq => by omega), ⟨⟨.slice A5 ((unm pre).length + 1) c5, ?_, ?_⟩, Hok2.out, ?_, ?_, ?_⟩, ⟨seen, ((HWm.out.ext km.ok).only hg5 (by omega) (by omega) (fun bw off e => by have := HbA.out bw off e; omega)).only hO6 (by omega) (by omega) (fun bw off e => by have := HbA.out bw off e; omega), Hch.out⟩, Hit.out.pos, Hit.out.lk, Hit.out.mark, ((Hbm.out.ext km.ok).only hg5 (by have := Hpd.out; omega) (by have := Hpd.out; omega) (by have := Hpd.out; omega)).only hO6 (by have := Hl.out; omega) (by have := Hl.out; omega) (by have := Hl.out; omega)⟩
              · rw [lastKey_snoc, empty_snoc]
                exact hK6
              · rw [unm_snoc]
                have := own_only hown5 hO6 fun q hq h => by have := hown5.lt q hq; omega
                simpa using this
              · exact Hrng.out
              · rw [List.length_append, List.length_singleton]; omega
              · exact ((HOn.out.trans (Only.of_ext (S := fun _ => False) km.ok) fun _ _ h => h.elim).trans (S' := fun q => wd.heap.size ≤ q) hg5 fun i hi h => by omega).trans (S' := fun q => q = w.heap.size + 1 + 1 + 1) hO6 fun i hi h => by omega
        · have hnb : (bt != bk) = true := by simpa using hne
          rcases hcond with rfl | ⟨rfl, hle⟩
          all_goals
            gi_wp2
            refine ⟨trivial, rfl, callsIn_round ((Hbu.out _).mono ?_)⟩
            rintro e w2 ⟨rfl, e2⟩
            obtain ⟨k2, rfl⟩ := lat_next k1 e2
            clear e2 Hbu
            gi_wp2
            have hWb := (HWk.out.ext k2.ok).flag true fun bw off e => (HA.out bw off e).2
            have hOb : Only (fun q => q = sb ∨ q = b) k2.world (k2.world.setCell ⟨b, 9, none⟩ (.bool true)) := (Only.refl _ _).setCell _ _ fun _ => .inr rfl
            have hKb := (HKb.out.ext k2.ok).only hOb fun q hq => by have := Hlt.out; omega
            generalize k2.world.setCell ⟨b, 9, none⟩ (.bool true) = wf at hWb hOb hKb ⊢
            obtain ⟨hKu, hOu⟩ := hKb.setU (.slice none 0 0)
            have hsz := Hon.out.size
            have hlt2 := Hlt.out
            have hsz2 := HE2.out.size
            have hsz3 := k2.ok.size
            have hg2 := blk_lt HKb.out.k2
            have hgd := Hgd.out
            refine ⟨?_, rfl, hKu.k2, ?_, ?_, seen, hWb.only hOu (by omega) (by omega) fun bw off e => by have := HbA.out bw off e; omega⟩
            · rw [← Hk.out]
              exact ((keeps_lt (B := wd.heap.size) (Only.of_ext (S := fun _ => False) k2.ok) fun _ h => h.elim).trans (keeps_lt hOb fun q hq => by omega)).trans (keeps_lt hOu fun q hq => by omega)
            · exact ((Hon.out.trans (Only.of_ext (S := fun _ => False) k2.ok) fun _ _ h => h.elim).trans hOb fun _ _ h => h).trans (S' := fun q => q = w.heap.size + 1 + 1) hOu fun i hi h => by omega
            · intro hk
              rcases (Hsn.out hk).2 with h | h
              · omega
              · exact hne h
      · have Hin : Hid (bk < 0 ∨ bt = bk) := .inl (by omega)
        clear Hbu
        rcases hcond with rfl | ⟨rfl, hle⟩
        all_goals
          gi_upto_region 16 with fail
          obtain ⟨hK2, hO2⟩ := (HKb.out.ext k1.ok).setL (val xs)
          generalize k1.world.setCell ⟨w.heap.size + 1 + 1 + 1 + 1, 0, none⟩ (.int .i64 (val xs)) = wl at hK2 hO2 ⊢
          obtain ⟨hK3, hO3⟩ := hK2.setF false
          generalize wl.setCell ⟨w.heap.size + 1 + 1 + 1 + 1 + 1, 0, none⟩ (.bool false) = wm at hK3 hO3 ⊢
          have hsz := Hon.out.size
          have hlt2 := Hlt.out
          have hsz2 := HE2.out.size
          have hsz3 := k1.ok.size
          have hgd := Hgd.out
          have hO : Only (fun q => w.heap.size ≤ q ∧ q ≤ w.heap.size + 1 + 1 + 1 + 1 + 1) W wm := ((Only.of_ext (S := fun q => w.heap.size ≤ q ∧ q ≤ w.heap.size + 1 + 1 + 1 + 1 + 1) k1.ok).trans hO2 fun i hi h => by omega).trans hO3 fun i hi h => by omega
          have HOm := Lib.hid hO
          have HKm := Lib.hid hK3
          have HOwn := Lib.hid (own_only Hown.out hO fun q hq h => by have := Hown.out.lt q hq; omega)
          have HWm := Lib.hid (HWk.out.only hO (by omega) (by omega) fun bw off e => by have := HbA.out bw off e; omega)
          have Hbm := Lib.hid (Hit.out.box.only hO (by have := Hl.out; omega) (by have := Hl.out; omega) (by have := Hl.out; omega))
          have HKeep := Lib.hid (keeps_lt (B := wd.heap.size) hO fun q hq => by omega)
          have HOn := Lib.hid (Hon.out.trans hO fun i hi h => by omega)
          have Hok2 := Lib.hid (HKok.out hlast.out Hin.out)
          have hszm := hO.size
          clear hK2 hO2 hK3 hO3 hO c0 c1 c2 c3 c4 c5 c6 c7 c8 c9 f9 b0 b1 b2 b3 b4 b5 f2 f3 f4 f5
          obtain ⟨km, hkm⟩ := lat_self wm
          cases xm with
          | true =>
            rw [hkm]
            clear hkm
            gi_wp2
            rw [← Hk.out]
            refine ⟨HKeep.out.trans (keeps_lt (Only.of_ext (S := fun _ => False) km.ok) fun _ h => h.elim), ⟨⟨v, ?_, ?_⟩, Hok2.out, ?_, ?_, ?_⟩, ⟨seen, HWm.out.ext km.ok, Hch.out⟩, Hit.out.pos, Hit.out.lk, Hit.out.mark, Hbm.out.ext km.ok⟩
            · rw [lastKey_snoc, empty_snoc]
              exact HKm.out.ext km.ok
            · rw [unm_snoc]
              exact own_ext HOwn.out km.ok
            · exact Hrng.out
            · rw [List.length_append, List.length_singleton]; omega
            · exact HOn.out.trans (Only.of_ext (S := fun _ => False) km.ok) fun _ _ h => h.elim
          | false =>
            obtain ⟨A7, c7, rfl⟩ := own_form HOwn.out
            obtain ⟨b0, b1, b2, b3, b4, b5⟩ := HKm.out.lats
            have hown3 := own_ext HOwn.out km.ok
            have hbs : wd.heap.size ≤ km.world.heap.size := by have := km.ok.size; omega
            have hbytes : ((unm pre).length + 1) * 8 ≤ 140737488355328 := by
              have h1 : (unm pre).length ≤ pre.length := by unfold unm; rw [List.length_map]; exact List.length_filter_le _ _
              have h2 := HS.out
              omega
            rw [hkm]
            clear hkm
            gi_upto_region 17 with fail
            refine wpIn_round_list (fun _ _ h => h) (by kernel_rfl) ?_
            go_wp2_with (at_builtin; refine wpList_push _ rfl _ _ 26 rfl wd.heap.size 3 1 8 elemInt Try.underlying26 _ _ _ rfl hown3 _ rfl rfl (by simp [Value.oneCell']) hbytes hbs ?_; intro v5 w5 hown5 hgrow5 hat5; have hK5 := (HKm.out.ext km.ok).only (Only.of_grown hgrow5) (fun q hq => .inr (by have := hown3.lt q hq.symm; omega)); have hc5 := (hK5.lats.2.2.2.1 ⟨w5, Ext.rfl' w5⟩); have hf5 := (hK5.frees.2.1 ⟨w5, Ext.rfl' w5⟩); obtain ⟨A5, c5, rfl⟩ := own_form hown5)
            have hOm := Only.of_ext (S := fun q => w.heap.size ≤ q) km.ok
            have hg5 := (Only.of_grown hgrow5).mono (S' := fun q => wd.heap.size ≤ q) fun q _ hq => (hown3.lt q hq.symm).1
            have hk5 := keeps_grown (B := wd.heap.size) hown3 hgrow5
            obtain ⟨hK6, hO6⟩ := hK5.setV (.slice A5 ((unm pre).length + 1) c5)
            have hszk := km.ok.size
            have hszg := hg5.size
            rw [← Hk.out]
            refine ⟨((HKeep.out.trans (keeps_lt (Only.of_ext (S := fun _ => False) km.ok) fun _ h => h.elim)).trans hk5).trans (keeps_lt hO6 fun q hq => by omega), ⟨⟨.slice A5 ((unm pre).length + 1) c5, ?_, ?_⟩, Hok2.out, ?_, ?_, ?_⟩, ⟨seen, ((HWm.out.ext km.ok).only hg5 (by omega) (by omega) (fun bw off e => by have := HbA.out bw off e; omega)).only hO6 (by omega) (by omega) (fun bw off e => by have := HbA.out bw off e; omega), Hch.out⟩, Hit.out.pos, Hit.out.lk, Hit.out.mark, ((Hbm.out.ext km.ok).only hg5 (by have := Hpd.out; omega) (by have := Hpd.out; omega) (by have := Hpd.out; omega)).only hO6 (by have := Hl.out; omega) (by have := Hl.out; omega) (by have := Hl.out; omega)⟩
            · rw [lastKey_snoc, empty_snoc]
              exact hK6
            · rw [unm_snoc]
              have := own_only hown5 hO6 fun q hq h => by have := hown5.lt q hq; omega
              simpa using this
            · exact Hrng.out
            · rw [List.length_append, List.length_singleton]; omega
            · exact ((HOn.out.trans (Only.of_ext (S := fun _ => False) km.ok) fun _ _ h => h.elim).trans (S' := fun q => wd.heap.size ≤ q) hg5 fun i hi h => by omega).trans (S' := fun q => q = w.heap.size + 1 + 1 + 1) hO6 fun i hi h => by omega
  case done =>
    rintro D xs W hD hs ⟨⟨v, hKb, hOwn⟩, hKo, hRg, hlen, hOn⟩ hdf
    have HKb := Lib.hid hKb
    have Hown := Lib.hid hOwn
    have Hko := Lib.hid hKo
    have Hrg := Lib.hid hRg
    have Hon := Lib.hid hOn
    clear hKb hOwn hKo hRg hOn
    obtain ⟨A7, c7, rfl⟩ := own_form Hown.out
    obtain ⟨b0, b1, b2, b3, b4, b5⟩ := HKb.out.lats
    obtain ⟨f2, f3, f4, f5⟩ := HKb.out.frees
    obtain ⟨k, hk⟩ := lat_self W
    rw [hk]
    dsimp only [Exit.inBlock, Exit.then]
    go_wp2_with fail
    have hdf2 : (k.world.setCell ⟨w.heap.size + 1 + 1, 0, none⟩ (.slice A7 (unm xs).length c7)).heap[D]? = some (.deferred (some [])) := by
      have hK := HKb.out.k2
      rw [Below.heap_setCell _ _ _ _ (by
        show D ≠ w.heap.size + 1 + 1
        intro e
        rw [e, hK] at hdf
        cases hdf), ← hk]
      exact hdf
    refine ⟨by simp, .inl ⟨_, _, rfl, run_takeDeferred hdf2, ?_⟩⟩
    have hr := Rec.mk (B := wd.heap.size) hD hdf2 rfl (.deferred none)
    have hsz := HE2.out.size
    have hlt := Hlt.out
    obtain ⟨hKu, hOu⟩ := (HKb.out.ext k.ok).setU (.slice A7 (unm xs).length c7)
    have hown2 := own_only (own_ext Hown.out k.ok) hOu fun q hq e => by have := Hown.out.lt q hq; have := blk_lt HK2.out.k5; omega
    have hon2 := (Hon.out.trans (Only.of_ext (S := fun _ => False) k.ok) fun _ _ h => h.elim).trans (S' := fun q => q = w.heap.size + 1 + 1) hOu fun i hi h => by omega
    have hW2 := (hs.2.ext k.ok).only hOu (by omega) (by omega) fun bw off e => by have := HbA.out bw off e; omega
    generalize (k.world.setCell ⟨w.heap.size + 1 + 1, 0, none⟩ (.slice A7 (unm xs).length c7)).putObj D (.deferred none) = wz at hr ⊢
    obtain ⟨rfl, hs2⟩ := hs
    refine ⟨_, results_cell_val rfl _ _ (w.heap.size + 1 + 1) rfl _ (run_loadVar_ints (cellOf (hr.cells hKu.k2) rfl)), _, unm tot.1, tot.2.2, _, rfl, own_base (hr.own hown2) hsz, hon2.trans hr.only fun i hi h => by omega, hW2.byRec hr (by omega) (by omega) (fun bw off e => by have := HbA.out bw off e; omega), ?_, ?_, ?_⟩
    · intro s hs
      obtain ⟨x, hx, rfl⟩ := List.mem_map.1 hs
      exact Hrg.out x (List.mem_filter.1 hx).1
    · unfold unm
      rw [List.length_map]
      exact Nat.le_trans (List.length_filter_le _ _) hlen
    · cases hf : tot.2.1 with
      | true => exact .inl ⟨if_pos ⟨hf, Hko.out⟩, rfl, by simp⟩
      | false => exact .inr ⟨if_neg fun h => (by rw [hf] at h; cases h.1), by simp⟩
  case stop =>
    rintro D cd pre W hD ⟨rfl, h1, h2, h3, seen, h4⟩ hdf
    go_wp2_with fail
    refine ⟨by simp, .inl ⟨_, _, rfl, run_takeDeferred hdf, ?_⟩⟩
    have hr := Rec.mk (B := wd.heap.size) hD hdf rfl (.deferred none)
    have hsz := HE2.out.size
    have hlt := Hlt.out
    generalize W.putObj D (.deferred none) = wz at hr ⊢
    refine ⟨_, results_cell_val rfl _ _ (w.heap.size + 1 + 1) rfl _ (run_loadVar_ints (cellOf (hr.cells h1) rfl)), _, [], seen, true, rfl, World.ownsRow_nil _ _ _ _, h2.trans hr.only fun i hi h => by omega, h4.byRec hr (by omega) (by omega) (fun bw off e => by have := HbA.out bw off e; omega), by simp, Nat.zero_le _, .inr ⟨if_neg fun h => h3 h.2, rfl⟩⟩
end Go.Proofs.Ytfbacopjookplaa
