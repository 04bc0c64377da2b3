/- The walk of pool.Look: what the objects hold, by the program. -/
import Derived.Test.YtfbacopjookplaaPairSort
import Derived.Laws.CopyOwn
namespace Go.Proofs.Ytfbacopjookplaa
open Go.RowKit
attribute [local go_sem] Oper.semAt_some

/-- Where Look's variables lie: the configuration, the result, the walker's pointer, the contents. -/
structure LK0 (w : World) (g6 pc : Nat) (T R H Re Ca S B : Int) (b : Nat) (v0 v1 v2 v3 v4 : Value) (W : World) : Prop where
  cfg : W.heap[w.heap.size]? = some (.cells (cfgV T R H Re Ca S B) 23 (0, 0))
  res : W.heap[w.heap.size + 1]? = some (.cells #[.slice none 0 0, .slice none 0 0, .slice none 0 0, .slice none 0 0, .slice none 0 0] 38 (0, 0))
  wb : W.heap[g6]? = some (.cells #[.pointer (some ⟨b, 0, none⟩)] 84 (0, 0))
  cont : W.heap[pc]? = some (.cells (contV v0 v1 v2 v3 v4) 38 (0, 0))
  on : Ext w W
/-- .. and the walker. -/
structure LK (w : World) (g6 pc : Nat) (T R H Re Ca S B : Int) (A : Option Addr) (n c : Nat) (ws : List Int) (b sb : Nat) (seen : List Bool) (bad : Bool) (v0 v1 v2 v3 v4 : Value) (W : World) : Prop where
  k : LK0 w g6 pc T R H Re Ca S B b v0 v1 v2 v3 v4 W
  wal : Walker W T R H Re Ca S B A n c ws b sb seen bad
/-- The places of Look's variables are apart. -/
structure LP (w : World) (g6 pc : Nat) (A : Option Addr) (b sb : Nat) : Prop where
  p6 : w.heap.size + 1 < g6
  pc : g6 < pc
  pb : w.heap.size + 1 < b ∧ b < g6
  ps : w.heap.size + 1 < sb ∧ sb < g6
  ne : b ≠ sb
  pa : ∀ bw off, A = some ⟨bw, off, none⟩ → bw < w.heap.size
section
variable {w W W' : World} {g6 pc : Nat} {T R H Re Ca S B : Int} {A : Option Addr} {n c : Nat} {ws : List Int} {b sb : Nat} {seen : List Bool} {bad : Bool} {v0 v1 v2 v3 v4 : Value}
theorem LK0.ext (h : LK0 w g6 pc T R H Re Ca S B b v0 v1 v2 v3 v4 W) (e : Ext W W') : LK0 w g6 pc T R H Re Ca S B b v0 v1 v2 v3 v4 W' :=
  ⟨ext_blk e h.cfg, ext_blk e h.res, ext_blk e h.wb, ext_blk e h.cont, Ext.next h.on e⟩
theorem LK0.only (h : LK0 w g6 pc T R H Re Ca S B b v0 v1 v2 v3 v4 W) (p : LP w g6 pc A b sb) {X : Nat → Prop} (o : Only X W W') (hx : ∀ q, X q → pc < q ∨ q = b ∨ q = sb) : LK0 w g6 pc T R H Re Ca S B b v0 v1 v2 v3 v4 W' := by
  have q1 := p.p6
  have q2 := p.pc
  have q3 := p.pb
  have q4 := p.ps
  have hs := h.on.size
  exact ⟨(o.block _ (blk_lt h.cfg) fun e => by have := hx _ e; omega).trans h.cfg, (o.block _ (blk_lt h.res) fun e => by have := hx _ e; omega).trans h.res, (o.block _ (blk_lt h.wb) fun e => by have := hx _ e; omega).trans h.wb,
    (o.block _ (blk_lt h.cont) fun e => by have := hx _ e; omega).trans h.cont, h.on.only o fun q hq => by have := hx _ hq; omega⟩
theorem LK0.byRec {B0 : Nat} (h : LK0 w g6 pc T R H Re Ca S B b v0 v1 v2 v3 v4 W) (p : LP w g6 pc A b sb) (r : Rec B0 W W') (hB : pc < B0) : LK0 w g6 pc T R H Re Ca S B b v0 v1 v2 v3 v4 W' :=
  h.only p r.only fun q hq => by omega
/-- A slice of the contents is stored. -/
theorem LK0.put (h : LK0 w g6 pc T R H Re Ca S B b v0 v1 v2 v3 v4 W) (i : Nat) (x : Value) :
    ((W.setCell ⟨pc, i, none⟩ x).heap[pc]? = some (.cells ((contV v0 v1 v2 v3 v4).setIfInBounds i x) 38 (0, 0))) ∧ Only (fun q => q = pc) W (W.setCell ⟨pc, i, none⟩ x) :=
  ⟨heap_setCell_same _ _ _ _ _ _ h.cont, (Only.refl _ _).setCell _ _ fun _ => rfl⟩
theorem LK0.putBy (h : LK0 w g6 pc T R H Re Ca S B b v0 v1 v2 v3 v4 W) (p : LP w g6 pc A b sb) {u0 u1 u2 u3 u4 : Value} (o : Only (fun q => q = pc) W W') (hc : W'.heap[pc]? = some (.cells (contV u0 u1 u2 u3 u4) 38 (0, 0))) : LK0 w g6 pc T R H Re Ca S B b u0 u1 u2 u3 u4 W' := by
  have q1 := p.p6
  have q2 := p.pc
  have q3 := p.pb
  have q4 := p.ps
  have hs := h.on.size
  exact ⟨(o.block _ (blk_lt h.cfg) (by omega)).trans h.cfg, (o.block _ (blk_lt h.res) (by omega)).trans h.res, (o.block _ (blk_lt h.wb) (by omega)).trans h.wb, hc, h.on.only o fun q hq => by omega⟩
theorem Walker.apart (h : Walker W T R H Re Ca S B A n c ws b sb seen bad) (p : LP w g6 pc A b sb) {X : Nat → Prop} (o : Only X W W') (hx : ∀ q, X q → g6 ≤ q) : Walker W' T R H Re Ca S B A n c ws b sb seen bad :=
  h.only o (fun e => by have := hx _ e; have := p.pb; omega) (fun e => by have := hx _ e; have := p.ps; omega) (fun bw off e h => by have := hx _ h; have := p.pa bw off e; have := p.p6; omega)
theorem LK.ext (h : LK w g6 pc T R H Re Ca S B A n c ws b sb seen bad v0 v1 v2 v3 v4 W) (e : Ext W W') : LK w g6 pc T R H Re Ca S B A n c ws b sb seen bad v0 v1 v2 v3 v4 W' := ⟨h.k.ext e, h.wal.ext e⟩
theorem LK.only (h : LK w g6 pc T R H Re Ca S B A n c ws b sb seen bad v0 v1 v2 v3 v4 W) (p : LP w g6 pc A b sb) {X : Nat → Prop} (o : Only X W W') (hx : ∀ q, X q → pc < q) : LK w g6 pc T R H Re Ca S B A n c ws b sb seen bad v0 v1 v2 v3 v4 W' :=
  ⟨h.k.only p o fun q hq => .inl (hx q hq), h.wal.apart p o fun q hq => by have := hx q hq; have := p.pc; omega⟩
theorem LK.byRec {B0 : Nat} (h : LK w g6 pc T R H Re Ca S B A n c ws b sb seen bad v0 v1 v2 v3 v4 W) (p : LP w g6 pc A b sb) (r : Rec B0 W W') (hB : pc < B0) : LK w g6 pc T R H Re Ca S B A n c ws b sb seen bad v0 v1 v2 v3 v4 W' :=
  h.only p r.only fun q hq => by omega
/-- The walker's marks and flag change. -/
theorem LK.walk (h : LK w g6 pc T R H Re Ca S B A n c ws b sb seen bad v0 v1 v2 v3 v4 W) (p : LP w g6 pc A b sb) {seen2 : List Bool} {bad2 : Bool} (o : Only (fun q => q = sb ∨ q = b) W W') (hw : Walker W' T R H Re Ca S B A n c ws b sb seen2 bad2) : LK w g6 pc T R H Re Ca S B A n c ws b sb seen2 bad2 v0 v1 v2 v3 v4 W' :=
  ⟨h.k.only p o fun q hq => by omega, hw⟩
theorem LK.put (h : LK w g6 pc T R H Re Ca S B A n c ws b sb seen bad v0 v1 v2 v3 v4 W) (i : Nat) (x : Value) :
    ((W.setCell ⟨pc, i, none⟩ x).heap[pc]? = some (.cells ((contV v0 v1 v2 v3 v4).setIfInBounds i x) 38 (0, 0))) ∧ Only (fun q => q = pc) W (W.setCell ⟨pc, i, none⟩ x) := h.k.put i x
theorem LK.putBy (h : LK w g6 pc T R H Re Ca S B A n c ws b sb seen bad v0 v1 v2 v3 v4 W) (p : LP w g6 pc A b sb) {u0 u1 u2 u3 u4 : Value} (o : Only (fun q => q = pc) W W') (hc : W'.heap[pc]? = some (.cells (contV u0 u1 u2 u3 u4) 38 (0, 0))) : LK w g6 pc T R H Re Ca S B A n c ws b sb seen bad u0 u1 u2 u3 u4 W' :=
  ⟨h.k.putBy p o hc, h.wal.apart p o fun q hq => by have := p.pc; omega⟩
end
/-- What the stack's loop keeps. -/
structure SInv (w : World) (B0 g6 pc : Nat) (T R H Re Ca S B : Int) (b : Nat) (v0 : Value) (c0 : List Int) (val : Int → Int) (pre : List (Int × Bool)) (W : World) : Prop where
  ex : ∃ v1, LK0 w g6 pc T R H Re Ca S B b v0 v1 (.slice none 0 0) (.slice none 0 0) (.slice none 0 0) W ∧ W.ownsRow B0 3 1 v1 (pre.map fun x => val x.1).length ((pre.map fun x => val x.1).map (Value.int .i64))
  o0 : W.ownsRow (pc + 1) 3 1 v0 c0.length (c0.map (Value.int .i64))
  len : pre.length ≤ S.toNat
theorem LK0.queue {w W W' : World} {g6 pc : Nat} {T R H Re Ca S B : Int} {A : Option Addr} {b sb : Nat} {v0 v1 v2 v3 v4 : Value} (h : LK0 w g6 pc T R H Re Ca S B b v0 v1 v2 v3 v4 W) (p : LP w g6 pc A b sb) {u0 u1 u2 u3 u4 : Value} (o : Only (fun q => q = sb ∨ q = b ∨ q = pc) W W') (hc : W'.heap[pc]? = some (.cells (contV u0 u1 u2 u3 u4) 38 (0, 0))) : LK0 w g6 pc T R H Re Ca S B b u0 u1 u2 u3 u4 W' := by
  have q1 := p.p6
  have q2 := p.pc
  have q3 := p.pb
  have q4 := p.ps
  have hs := h.on.size
  exact ⟨(o.block _ (blk_lt h.cfg) (by omega)).trans h.cfg, (o.block _ (blk_lt h.res) (by omega)).trans h.res, (o.block _ (blk_lt h.wb) (by omega)).trans h.wb, hc, h.on.only o fun q hq => by omega⟩
/-- .. with the lists that are told already, and the block for the rounds' deferred calls. -/
structure LD (w : World) (B0 g6 pc D : Nat) (T R H Re Ca S B : Int) (A : Option Addr) (n c : Nat) (ws : List Int) (b sb : Nat) (seen : List Bool) (bad : Bool) (v0 v1 v2 v3 v4 : Value) (c0 l1 l2 : List Int) (W : World) : Prop where
  lk : LK w g6 pc T R H Re Ca S B A n c ws b sb seen bad v0 v1 v2 v3 v4 W
  o0 : W.ownsRow (pc + 1) 3 1 v0 c0.length (c0.map (Value.int .i64))
  o1 : W.ownsRow (pc + 1) 3 1 v1 l1.length (l1.map (Value.int .i64))
  o2 : W.ownsRow (pc + 1) 3 1 v2 l2.length (l2.map (Value.int .i64))
  t0 : ∀ q, v0.ownBlock = some q → q < B0
  t1 : ∀ q, v1.ownBlock = some q → q < B0
  t2 : ∀ q, v2.ownBlock = some q → q < B0
  dd : W.heap[D]? = some (.deferred (some []))
  dl : pc < D ∧ D < B0
  bs : B0 ≤ W.heap.size
section
variable {w W W' : World} {B0 g6 pc D : Nat} {T R H Re Ca S B : Int} {A : Option Addr} {n c : Nat} {ws : List Int} {b sb : Nat} {seen : List Bool} {bad : Bool} {v0 v1 v2 v3 v4 : Value} {c0 l1 l2 : List Int}
theorem LD.ext (h : LD w B0 g6 pc D T R H Re Ca S B A n c ws b sb seen bad v0 v1 v2 v3 v4 c0 l1 l2 W) (e : Ext W W') : LD w B0 g6 pc D T R H Re Ca S B A n c ws b sb seen bad v0 v1 v2 v3 v4 c0 l1 l2 W' :=
  ⟨h.lk.ext e, own_ext h.o0 e, own_ext h.o1 e, own_ext h.o2 e, h.t0, h.t1, h.t2, ext_blk e h.dd, h.dl, Nat.le_trans h.bs e.size⟩
theorem LD.far (h : LD w B0 g6 pc D T R H Re Ca S B A n c ws b sb seen bad v0 v1 v2 v3 v4 c0 l1 l2 W) (p : LP w g6 pc A b sb) {X : Nat → Prop} (o : Only X W W') (hx : ∀ q, X q → B0 ≤ q) : LD w B0 g6 pc D T R H Re Ca S B A n c ws b sb seen bad v0 v1 v2 v3 v4 c0 l1 l2 W' :=
  ⟨h.lk.only p o fun q hq => by have := hx q hq; have := h.dl; omega, own_only h.o0 o fun q hq e => by have := hx q e; have := h.t0 q hq; omega, own_only h.o1 o fun q hq e => by have := hx q e; have := h.t1 q hq; omega, own_only h.o2 o fun q hq e => by have := hx q e; have := h.t2 q hq; omega,
    h.t0, h.t1, h.t2, (o.block _ (blk_lt h.dd) fun e => by have := hx _ e; have := h.dl; omega).trans h.dd, h.dl, Nat.le_trans h.bs o.size⟩
theorem LD.walk (h : LD w B0 g6 pc D T R H Re Ca S B A n c ws b sb seen bad v0 v1 v2 v3 v4 c0 l1 l2 W) (p : LP w g6 pc A b sb) {seen2 : List Bool} {bad2 : Bool} (o : Only (fun q => q = sb ∨ q = b) W W') (hw : Walker W' T R H Re Ca S B A n c ws b sb seen2 bad2) : LD w B0 g6 pc D T R H Re Ca S B A n c ws b sb seen2 bad2 v0 v1 v2 v3 v4 c0 l1 l2 W' := by
  have q2 := p.pc
  have q3 := p.pb
  have q4 := p.ps
  exact ⟨h.lk.walk p o hw, own_only h.o0 o fun q hq e => by have := h.o0.lt q hq; omega, own_only h.o1 o fun q hq e => by have := h.o1.lt q hq; omega, own_only h.o2 o fun q hq e => by have := h.o2.lt q hq; omega, h.t0, h.t1, h.t2, (o.block _ (blk_lt h.dd) fun e => by have := h.dl; omega).trans h.dd, h.dl, Nat.le_trans h.bs o.size⟩
theorem LD.grow (h : LD w B0 g6 pc D T R H Re Ca S B A n c ws b sb seen bad v0 v1 v2 v3 v4 c0 l1 l2 W) : LD w W.heap.size g6 pc D T R H Re Ca S B A n c ws b sb seen bad v0 v1 v2 v3 v4 c0 l1 l2 W :=
  ⟨h.lk, h.o0, h.o1, h.o2, fun q hq => (h.o0.lt q hq).2, fun q hq => (h.o1.lt q hq).2, fun q hq => (h.o2.lt q hq).2, h.dd, ⟨h.dl.1, blk_lt h.dd⟩, Nat.le_refl _⟩
/-- One of the last two slices is stored. -/
theorem LD.putBy (h : LD w B0 g6 pc D T R H Re Ca S B A n c ws b sb seen bad v0 v1 v2 v3 v4 c0 l1 l2 W) (p : LP w g6 pc A b sb) {u3 u4 : Value} (o : Only (fun q => q = pc) W W') (hc : W'.heap[pc]? = some (.cells (contV v0 v1 v2 u3 u4) 38 (0, 0))) : LD w B0 g6 pc D T R H Re Ca S B A n c ws b sb seen bad v0 v1 v2 u3 u4 c0 l1 l2 W' :=
  ⟨h.lk.putBy p o hc, own_only h.o0 o fun q hq e => by have := h.o0.lt q hq; omega, own_only h.o1 o fun q hq e => by have := h.o1.lt q hq; omega, own_only h.o2 o fun q hq e => by have := h.o2.lt q hq; omega, h.t0, h.t1, h.t2, (o.block _ (blk_lt h.dd) fun e => by have := h.dl; omega).trans h.dd, h.dl, Nat.le_trans h.bs o.size⟩
end
theorem elemPair : Elem Try.prog 106 2 16 := Elem.of (z := .agg #[.int .i64 0, .int .i64 0]) (by kernel_rfl) rfl (by omega) (by omega)
/-- The call's answer: the contents, the error's number. -/
def ContOut (w : World) (r : Int × Cont) (e : Ending) (w' : World) : Prop :=
  ∃ v0 v1 v2 v3 v4, e = .returned (.tuple #[.agg (contV v0 v1 v2 v3 v4), .int .i64 r.1]) ∧ w'.ownsRow w.heap.size 3 1 v0 r.2.cell.length (r.2.cell.map (Value.int .i64)) ∧ w'.ownsRow w.heap.size 3 1 v1 r.2.stack.length (r.2.stack.map (Value.int .i64)) ∧
    w'.ownsRow w.heap.size 3 1 v2 r.2.queue.length (r.2.queue.map (Value.int .i64)) ∧ w'.ownsRow w.heap.size 3 1 v3 r.2.set.length (r.2.set.map (Value.int .i64)) ∧ w'.ownsRow w.heap.size 106 2 v4 r.2.table.length (r.2.table.flatMap encPair) ∧ Ext w w'
/-- What the call answers. -/
def lookSpec (R H S B : Int) (ws : List Int) : Int × Cont :=
  specOf (lookS S B (fun s => wrap64 (regOf R H S B ws 10 s)) (fun s => wrap64 (regOf R H S B ws 11 s)) (regOf R H S B ws 12) (regOf R H S B ws 6) (regOf R H S B ws 1 0) (regOf R H S B ws 2 0) (regOf R H S B ws 3 0) (regOf R H S B ws 4 0) (regOf R H S B ws 5 0))
/-- Behind the last store the block of the deferred calls is taken. -/
theorem fin_world {w Z : World} {D : Nat} {cs old : Array Value} {t : TypeId} (hr : Z.heap[w.heap.size + 1]? = some (.cells old t (0, 0))) (hd : Z.heap[D]? = some (.deferred (some []))) (hD : w.heap.size + 1 < D) (hon : Ext w Z) :
    (Z.setRow (w.heap.size + 1) cs).heap[D]? = some (.deferred (some [])) ∧ ((Z.setRow (w.heap.size + 1) cs).putObj D (.deferred none)).heap[w.heap.size + 1]? = some (.cells cs t (0, 0)) ∧ Ext w ((Z.setRow (w.heap.size + 1) cs).putObj D (.deferred none)) ∧
    ∀ (base : Nat) (e : TypeId) (size n : Nat) (v : Value) (us : List Value), w.heap.size + 1 < base → Z.ownsRow base e size v n us → ((Z.setRow (w.heap.size + 1) cs).putObj D (.deferred none)).ownsRow w.heap.size e size v n us := by
  have h1 : (Z.setRow (w.heap.size + 1) cs).heap[D]? = some (.deferred (some [])) := (setRow_other _ _ _ _ (by omega)).trans hd
  have ho : Only (fun q => q = w.heap.size + 1) Z (Z.setRow (w.heap.size + 1) cs) := ⟨rfl, rfl, rfl, by simp [World.setRow], fun k _ hn => setRow_other _ _ _ _ hn⟩
  have hR := Rec.mk (B := w.heap.size) (by omega) h1 rfl (.deferred none)
  refine ⟨h1, hR.cells (setRow_heap _ _ _ _ _ _ hr), (hon.only ho fun q hq => by omega).only hR.only fun q hq => hq, fun base e size n v us hb h => ?_⟩
  exact own_base (hR.own (own_only h ho fun q hq e => by have := h.lt q hq; omega)) (by omega)
theorem own_one {W : World} {B0 n size : Nat} {e : TypeId} {v : Value} {us : List Value} (h : W.ownsRow B0 e size v n us) : v.oneCell' = true := by
  obtain ⟨A, c, rfl⟩ := own_form h
  rfl
/-- A zero Contents is told. -/
theorem cont_none (w W : World) (h : Ext w W) : ContOut w (specOf none) (.returned (.tuple #[.agg #[.slice none 0 0, .slice none 0 0, .slice none 0 0, .slice none 0 0, .slice none 0 0], .int .i64 100])) W :=
  ⟨_, _, _, _, _, rfl, World.ownsRow_nil _ _ _ _, World.ownsRow_nil _ _ _ _, World.ownsRow_nil _ _ _ _, World.ownsRow_nil _ _ _ _, World.ownsRow_nil _ _ _ _, h⟩

set_option maxRecDepth 100000 in
set_option maxHeartbeats 16000000 in
theorem look_ok (T R H Re Ca S B : Int) (hok : Okay T R H Re Ca S B) (A : Option Addr) (n c : Nat) (ws : List Int) (w : World) (hr : Rd w A (ws.map (Value.int .u64))) (hl : ws.length = n) (hn : (n : Int) = sumOf R H S B 13)
    (hws : ∀ x ∈ ws, 0 ≤ x ∧ x ≤ 18446744073709551615) :
    Calls Try.prog 17 #[(.agg #[.int .i64 T, .int .i64 R, .int .i64 H, .int .i64 Re, .int .i64 Ca, .int .i64 S, .int .i64 B]), .slice A n c] w (ContOut w (lookSpec R H S B ws)) := by
  have Hok := Lib.hid hok
  have Hn := Lib.hid hn
  have Hl := Lib.hid hl
  have Hr := Lib.hid hr
  have Hws := Lib.hid hws
  have hok' := hok
  unfold Okay at hok'
  obtain ⟨_, _, hR, hR', hH, hH', _, _, _, _, hS, hS', hB, hB'⟩ := hok'
  have HbA : Hid (∀ bw off, A = some ⟨bw, off, none⟩ → bw < w.heap.size) := fun bw off e => by
    obtain ⟨b', off', e', hb, _⟩ := hr (by
      intro h
      have h1 := congrArg List.length h
      rw [List.length_map, List.length_nil, hl] at h1
      have h2 := (sumOf_bd R H S B hR hR' hH hH' hS hS' hB hB' 13).1
      omega)
    rw [e] at e'
    injection e' with e'
    injection e' with e' _
    omega
  have Hat : Hid (∀ (m : Nat) (r i : Int), r = (m : Int) + 1 → m ≤ 12 → m ≠ 8 → 0 ≤ i → i < manyOf R H S B ((m : Int) + 1) → ∀ (b sb : Nat) (seen : List Bool) (bad : Bool) (w : World), Walker w T R H Re Ca S B A n c ws b sb seen bad → Calls Try.prog 47 #[.pointer (some ⟨b, 0, none⟩), .int .i64 r, .int .i64 i] w fun e w' => e = .returned (.int .u64 (regOf R H S B ws m i)) ∧ Ext w w') := fun m r i hr hm hm8 h0 h1 b sb seen bad w hw => by
    obtain ⟨j, hj, hx, hxa, hxb⟩ := reg_at hR hR' hH hH' hS hS' hB hB' Hl.out Hn.out Hws.out m hm i h0 h1
    exact at_any T R H Re Ca S B Hok.out A n c ws b sb seen bad w hw m r i hr hm h0 (by rw [hr]; exact h1) (fun e => by omega) j _ hj hx
  have Hbd : Hid (∀ (m : Nat) (i : Int), m ≤ 12 → 0 ≤ i → i < manyOf R H S B ((m : Int) + 1) → 0 ≤ regOf R H S B ws m i ∧ regOf R H S B ws m i ≤ 18446744073709551615) := fun m i hm h0 h1 => by
    obtain ⟨j, hj, hx, hxa, hxb⟩ := reg_at hR hR' hH hH' hS hS' hB hB' Hl.out Hn.out Hws.out m hm i h0 h1
    exact ⟨hxa, hxb⟩
  have Hv : Hid (∀ (b sb : Nat) (seen : List Bool) (bad : Bool) (w : World), Walker w T R H Re Ca S B A n c ws b sb seen bad → ∀ s : Int, 0 ≤ s → s < S → Calls Try.prog 52 #[.pointer (some ⟨b, 0, none⟩), .int .i64 s] w fun e w' => e = .returned (.int .i64 ((fun s => wrap64 (regOf R H S B ws 10 s)) s)) ∧ Ext w w') := fun b sb seen bad w hw s h0 h1 => value_any T R H Re Ca S B Hok.out A n c ws Hn.out Hws.out b sb seen bad w hw s h0 h1
  have Hdata : Hid (∀ (b sb : Nat) (seen : List Bool) (bad : Bool) (w : World), Walker w T R H Re Ca S B A n c ws b sb seen bad → ∀ s : Int, 0 ≤ s → s < S → Calls Try.prog 47 #[.pointer (some ⟨b, 0, none⟩), .int .i64 12, .int .i64 s] w fun e w' => e = .returned (.int .u64 (regOf R H S B ws 11 s)) ∧ Ext w w') := fun b sb seen bad w hw s h0 h1 => Hat.out 11 12 s rfl (by omega) (by omega) h0 (by simp [manyOf]; exact h1) b sb seen bad w hw
  have Hbw : Hid (∀ (b sb : Nat) (seen : List Bool) (bad : Bool) (w : World), Walker w T R H Re Ca S B A n c ws b sb seen bad → ∀ s : Int, 0 ≤ s → s < B → Calls Try.prog 47 #[.pointer (some ⟨b, 0, none⟩), .int .i64 7, .int .i64 s] w fun e w' => e = .returned (.int .u64 (regOf R H S B ws 6 s)) ∧ Ext w w') := fun b sb seen bad w hw s h0 h1 => Hat.out 6 7 s rfl (by omega) (by omega) h0 (by simp [manyOf]; exact h1) b sb seen bad w hw
  have HbwB : Hid (∀ s : Int, 0 ≤ s → s < B → 0 ≤ regOf R H S B ws 6 s ∧ regOf R H S B ws 6 s ≤ 18446744073709551615) := fun s h0 h1 => Hbd.out 6 s (by omega) h0 (by simp [manyOf]; exact h1)
  have Ha1 := Lib.hid (Hat.out 1 2 0 rfl (by omega) (by omega) (by omega) (by simp [manyOf]))
  have Hb1 := Lib.hid (Hbd.out 1 0 (by omega) (by omega) (by simp [manyOf]))
  have Ha2 := Lib.hid (Hat.out 2 3 0 rfl (by omega) (by omega) (by omega) (by simp [manyOf]))
  have Hb2 := Lib.hid (Hbd.out 2 0 (by omega) (by omega) (by simp [manyOf]))
  have Ha5 := Lib.hid (Hat.out 5 6 0 rfl (by omega) (by omega) (by omega) (by simp [manyOf]))
  have Hb5 := Lib.hid (Hbd.out 5 0 (by omega) (by omega) (by simp [manyOf]))
  have Hkeys := Lib.hid (fun b sb seen0 bad x0 h0 h1 bk w hA hw => keys_any T R H Re Ca S B Hok.out A n c ws Hn.out Hws.out b sb seen0 bad x0 h0 h1 bk w hA hw)
  have Hqueue := Lib.hid (fun b sb ps seen0 bad v0 v1 v3 v4 w hA hp hw hc => queue_any T R H Re Ca S B Hok.out A n c ws Hn.out Hws.out b sb ps seen0 bad v0 v1 v3 v4 w hA hp hw hc)
  have Hseq := Lib.hid (fun b sb bad x0 h0 h1 p1 p2 p3 seen0 W hA h3 hw hb => chain1_iter T R H Re Ca S B Hok.out A n c ws Hn.out Hws.out b sb bad false x0 h0 h1 p1 p2 p3 seen0 W hA h3 hw hb)
  unfold lookSpec
  have HDt : Hid (∀ s : Int, wrap64 (regOf R H S B ws 11 s) = (fun s => wrap64 (regOf R H S B ws 11 s)) s) := fun s => rfl
  generalize (fun s => wrap64 (regOf R H S B ws 11 s)) = data at *
  generalize (fun s => wrap64 (regOf R H S B ws 10 s)) = val at *
  generalize regOf R H S B ws 11 = da at *
  generalize regOf R H S B ws 12 = lk at *
  generalize regOf R H S B ws 6 = bw at *
  generalize regOf R H S B ws 1 0 = x1 at *
  generalize regOf R H S B ws 2 0 = x2 at *
  generalize regOf R H S B ws 3 0 = x3 at *
  generalize regOf R H S B ws 4 0 = x4 at *
  generalize regOf R H S B ws 5 0 = x5 at *
  have HS := Lib.hid (⟨hS, hS'⟩ : 1 ≤ S ∧ S ≤ 1024)
  have HB := Lib.hid (⟨hB, hB'⟩ : 1 ≤ B ∧ B ≤ 64)
  obtain ⟨sp, hsp⟩ : ∃ sp, lookS S B val data lk bw x1 x2 x3 x4 x5 = sp := ⟨_, rfl⟩
  rw [hsp]
  have Hsp := Lib.hid hsp
  clear hok hr hl hn hws hR hR' hH hH' hsp Hat Hbd
  refine calls_of_marks Try.func17 rfl ?_
  simp only [Try.ntmps17, List.size_toArray, List.length_cons, List.length_nil, Nat.reduceAdd, Nat.reduceSub, Array.replicate_succ, Array.replicate_zero, List.push_toArray, List.append_toArray, List.nil_append, List.cons_append]
  go_upto_region 1 with fail
  obtain ⟨wa, ha, h0, h1, eA, ltA⟩ := enter2 w (.cells (cfgV T R H Re Ca S B) 23) (.cells #[.slice none 0 0, .slice none 0 0, .slice none 0 0, .slice none 0 0, .slice none 0 0] 38)
  rw [ha]
  have sa : wa.heap.size = w.heap.size + 1 + 1 := by rw [← ha]; simp
  have H0 := Lib.hid h0
  have H1 := Lib.hid h1
  have HEa := Lib.hid eA
  have Hsa := Lib.hid sa
  obtain ⟨d0, d1, d2, d3, d4, d5, d6⟩ := Lat.cfg h0
  obtain ⟨ka, hka⟩ := lat_self wa
  rw [hka]
  clear ha h0 h1 eA ltA sa hka
  go_wp2_with fail
  refine (newWalker_any T R H Re Ca S B Hok.out A n c ws _ (Hr.out.ext (Ext.next HEa.out ka.ok)) Hl.out Hn.out).mono ?_
  rintro e w1 ⟨b, sb, rfl, hW1, hb1, hb2, e1⟩
  have HE1 := Lib.hid (Ext.next ka.ok e1)
  have HW1 := Lib.hid hW1
  have Hb : Hid (w.heap.size + 1 < b ∧ w.heap.size + 1 < sb) := by
    have h1 := Hsa.out
    have h2 := ka.size
    show _ ∧ _
    omega
  clear hW1 e1 hb1 hb2
  go_upto_region 5 with fail
  obtain ⟨w2, hw2, h6, h7, e2, lt2⟩ := enter2 w1 (.cells #[.pointer (some ⟨b, 0, none⟩)] 84) (.cells #[.slice none 0 0, .slice none 0 0, .slice none 0 0, .slice none 0 0, .slice none 0 0] 38)
  rw [hw2]
  have HL2 : Hid (LK w w1.heap.size (w1.heap.size + 1) T R H Re Ca S B A n c ws b sb (List.replicate S.toNat false) false (.slice none 0 0) (.slice none 0 0) (.slice none 0 0) (.slice none 0 0) (.slice none 0 0) w2) :=
    ⟨⟨ext_blk (Ext.next HE1.out e2) H0.out, ext_blk (Ext.next HE1.out e2) H1.out, h6, h7, Ext.next HEa.out (Ext.next HE1.out e2)⟩, HW1.out.ext e2⟩
  have HP : Hid (LP w w1.heap.size (w1.heap.size + 1) A b sb) := ⟨by have := Hsa.out; have := HE1.out.size; omega, by omega, ⟨Hb.out.1, HW1.out.lt.1⟩, ⟨Hb.out.2, HW1.out.lt.2⟩, HW1.out.ne, HbA.out⟩
  have HPs : Hid (w1.heap.size + 1 < w2.heap.size) := lt2
  obtain ⟨pc, hpc⟩ : ∃ pc, w1.heap.size + 1 = pc := ⟨_, rfl⟩
  rw [hpc] at HL2 HP HPs
  simp only [hpc]
  generalize w1.heap.size = g6 at *
  have Hws2 : Hid (∀ bw off, A = some ⟨bw, off, none⟩ → bw ≠ sb ∧ bw ≠ b ∧ bw ≠ pc) := fun bw off e => by
    have h := HP.out
    have h1 := h.pa bw off e
    have := h.p6
    have := h.pc
    have := h.pb
    have := h.ps
    omega
  clear hw2 h6 h7 e2 lt2 HE1 HW1 Hb H0 H1 HEa Hsa d0 d1 d2 d3 d4 d5 d6 ka hpc
  have hb0 : ∀ z : Lat w2, z.world.cell? ⟨g6, 0, none⟩ = some (.pointer (some ⟨b, 0, none⟩)) := Lat.cells HL2.out.k.wb rfl
  have hd0 : (w2.drew).cell? ⟨g6, 0, none⟩ = some (.pointer (some ⟨b, 0, none⟩)) := hb0 ⟨_, (Ext.rfl' w2).drew1⟩
  have Hpl := Lib.hid (fun (w5 : World) (e5 : Ext w2.drew w5) => plain_any T R H Re Ca S B HS.out.1 HS.out.2 A n c ws b sb _ _ w5 (HL2.out.wal.ext (Ext.next (Ext.rfl' w2).drew1 e5)) (fun bw off e => (Hws2.out bw off e).1) x1 Hb1.out.1 Hb1.out.2)
  have Hk6 : Hid (∀ w5 w6 : World, Ext w2.drew w5 → Only (fun q => q = sb) w5 w6 → w6.cell? ⟨g6, 0, none⟩ = some (.pointer (some ⟨b, 0, none⟩))) := fun w5 w6 e5 o6 => cellOf ((o6.block g6 (blk_lt (ext_blk (Ext.next (Ext.rfl' w2).drew1 e5) HL2.out.k.wb)) (by have := HP.out.ps; omega)).trans (ext_blk (Ext.next (Ext.rfl' w2).drew1 e5) HL2.out.k.wb)) rfl
  go_region_held3 (fun w' => w'.cell? ⟨g6, 0, none⟩ = some (.pointer (some ⟨b, 0, none⟩))) (first | exact hd0 | exact hd5 | exact hd6) (first | ((with_reducible refine (Ha1.out b sb _ _ _ (by exact (HL2.out.wal.ext (Ext.rfl' w2).drew1))).mono ?_); rintro e w5 ⟨rfl, e5⟩; have hd5 := hb0 ⟨w5, Ext.next (Ext.rfl' w2).drew1 e5⟩) | ((with_reducible refine (Hpl.out _ (by exact e5)).mono ?_); rintro e w6 ⟨rfl, hW6, o6⟩; have hd6 := Hk6.out _ _ e5 o6))
  have HE5 := Lib.hid (Ext.next (Ext.rfl' w2).drew1 e5)
  have HL6 := Lib.hid (((HL2.out.ext HE5.out).walk HP.out (o6.mono fun _ _ h => .inl h) hW6))
  have HPs6 : Hid (pc < w6.heap.size) := by
    have h1 := HPs.out
    have h2 := HE5.out.size
    have h3 := o6.size
    show _ < _
    omega
  have Hc : Hid (plainF S (List.replicate S.toNat false) x1 = plainF S (List.replicate S.toNat false) x1) := rfl
  have Hq1 : Hid ((plainF S (List.replicate S.toNat false) x1).1 < S) := plainF_lt HS.out.1 _ _
  obtain ⟨q, hq⟩ : ∃ q, plainF S (List.replicate S.toNat false) x1 = q := ⟨_, rfl⟩
  rw [hq] at HL6 Hq1
  have Hq := Lib.hid hq
  obtain ⟨q1, q2, q3⟩ := q
  simp only [hq]
  simp only at HL6 Hq1
  clear hq Hc hW6 o6 e5 hd0 hd5 hd6 hb0 HL2 HE5 HPs
  dsimp only [Exit.then]
  cases q2 with
  | false =>
    obtain rfl : sp = none := Hsp.out.symm.trans (lookS_c (by show (plainF S (List.replicate S.toNat false) x1).2.1 = false; rw [Hq.out]))
    have hRes := HL6.out.k.res
    go_wp2_with (show wpList _ _ _ ({ dst := _, op := Op.store 38 (Operand.tmp 4) (Operand.tmp 37), type := _, pos := _, after := _, guard := _ } :: _) _ _; refine wpList_store_row rfl _ _ _ rfl (w.heap.size + 1) #[.slice none 0 0, .slice none 0 0, .slice none 0 0, .slice none 0 0, .slice none 0 0] (by kernel_rfl) (by kernel_rfl) _ _ hRes (by kernel_rfl) (by kernel_rfl) (by kernel_rfl) ?_)
    refine ⟨_, results_cell_tmp rfl _ _ (w.heap.size + 1) rfl _ (run_loadVar_row _ _ _ _ _ _ _ (setRow_heap _ _ _ _ _ _ hRes) Try.underlying38 rfl (by kernel_rfl)), ?_⟩
    exact cont_none _ _ (below_setRow HL6.out.k.on (by omega) _)
  | true =>
    have Hq' : Hid ((looks S lk x1 x2 x3 x5).c = (q1, true, q3)) := Hq.out
    obtain ⟨k6, hk6⟩ := lat_self w6
    rw [hk6]
    clear hk6
    go_upto_if 39 with fail
    go_cut [] from 38 to 45 (fun wx => ∃ v0, Hid (LK w g6 pc T R H Re Ca S B A n c ws b sb q3 false v0 (.slice none 0 0) (.slice none 0 0) (.slice none 0 0) (.slice none 0 0) wx) ∧ Hid (wx.ownsRow (pc + 1) 3 1 v0 (if q1 < 0 then [] else [val q1]).length ((if q1 < 0 then [] else [val q1]).map (Value.int .i64))) ∧ Hid (pc < wx.heap.size))
    case first =>
      by_cases hq0 : q1 < 0
      · have hqd : decide (0 ≤ q1) = false := by simpa using hq0
        go_wp2_with fail
        go_meet
        case rel => exact ⟨_, HL6.out.ext k6.ok, by rw [if_pos hq0]; exact World.ownsRow_nil _ _ _ _, by have := HPs6.out; have := k6.size; show _ < _; omega⟩
      · have hqd : decide (0 ≤ q1) = true := by simp; omega
        have z0 : ∀ z : Lat w6, z.world.cell? ⟨g6, 0, none⟩ = some (.pointer (some ⟨b, 0, none⟩)) := Lat.cells HL6.out.k.wb rfl
        have y0 : ∀ z : Lat w6, z.world.cell? ⟨pc, 0, none⟩ = some (.slice none 0 0) := Lat.cells HL6.out.k.cont rfl
        have f0 : ∀ z : Lat w6, z.world.frozen? ⟨pc, 0, none⟩ = false := Lat.free HL6.out.k.cont 0
        have lt0 := Lat.lt (w0 := w6) (b := pc) HPs6.out
        have Hq0 := Lib.hid hq0
        have Hv0 := Lib.hid (fun k : Lat w6 => Hv.out b sb _ _ k.world (HL6.out.wal.ext k.ok) q1 (by have := Hq0.out; omega) Hq1.out)
        clear hq0
        go_wp2_with fail
        refine (Hv0.out _).mono ?_
        rintro e w7 ⟨rfl, e7⟩
        obtain ⟨k7, rfl⟩ := lat_next k6 e7
        clear e7 Hv0
        go_wp2_with fail
        go_meet
        case rel =>
          have hsz := k7.ok.size
          have hps := HPs6.out
          have hL7 := HL6.out.ext k7.ok
          obtain ⟨hput, hOp⟩ := hL7.put 0 (.slice (some ⟨k7.world.heap.size, 0, none⟩) 1 1)
          have hLp : LK w g6 pc T R H Re Ca S B A n c ws b sb q3 false (.slice (some ⟨k7.world.heap.size, 0, none⟩) 1 1) (.slice none 0 0) (.slice none 0 0) (.slice none 0 0) (.slice none 0 0) _ := hL7.putBy HP.out hOp hput
          obtain ⟨wb, hwb, hnew, heb, hltb⟩ := enter1 (k7.world.setCell ⟨pc, 0, none⟩ (.slice (some ⟨k7.world.heap.size, 0, none⟩) 1 1)) (.cells #[.int .i64 (val q1)] 3)
          rw [hwb]
          have hse : (k7.world.setCell ⟨pc, 0, none⟩ (.slice (some ⟨k7.world.heap.size, 0, none⟩) 1 1)).heap.size = k7.world.heap.size := by simp
          rw [hse] at hnew hltb
          refine ⟨_, hLp.ext heb, ?_, ?_⟩
          · rw [if_neg (by have := Hq0.out; omega)]
            exact ⟨rfl, .inr ⟨k7.world.heap.size, 1, #[.int .i64 (val q1)], rfl, by omega, hnew, Nat.le_refl _, by unfold maxLen; omega, rfl, rfl⟩⟩
          · show _ < _
            omega
    obtain ⟨v0, HL7, HO0, HPs7⟩ := hcut
    clear HL6 HPs6
    obtain ⟨c0, hc0⟩ : ∃ c0, (if q1 < 0 then [] else [val q1]) = c0 := ⟨_, rfl⟩
    rw [hc0] at HO0
    have Hc0 := Lib.hid hc0
    clear hc0
    have hb0 : ∀ z : Lat wc, z.world.cell? ⟨g6, 0, none⟩ = some (.pointer (some ⟨b, 0, none⟩)) := Lat.cells HL7.out.k.wb rfl
    go_upto_region 10 with fail
    have hd0 : (wc.drew).cell? ⟨g6, 0, none⟩ = some (.pointer (some ⟨b, 0, none⟩)) := hb0 ⟨_, (Ext.rfl' wc).drew1⟩
    go_region_held3 (fun w' => w'.cell? ⟨g6, 0, none⟩ = some (.pointer (some ⟨b, 0, none⟩))) (first | exact hd0 | exact hd5 | exact hd6) (first | ((with_reducible refine (Ha2.out b sb _ _ _ (by exact (HL7.out.wal.ext (Ext.rfl' wc).drew1))).mono ?_); rintro e w5 ⟨rfl, e5⟩; have hd5 := hb0 ⟨w5, Ext.next (Ext.rfl' wc).drew1 e5⟩) | ((with_reducible refine (chain_any b x2 false _).mono ?_); rintro e w8 ⟨p1, p2, p3, rfl, hbx, l1, l2, l3, e6⟩; have hd6 := hb0 ⟨w8, Ext.next (Ext.next (Ext.rfl' wc).drew1 e5) e6⟩))
    have HE8 := Lib.hid (Ext.next (Ext.next (Ext.rfl' wc).drew1 e5) e6)
    have HBx := Lib.hid hbx
    have HL8 := Lib.hid (HL7.out.ext HE8.out)
    have HO8 := Lib.hid (own_ext HO0.out HE8.out)
    have HPl : Hid (pc < p1 ∧ pc < p2 ∧ pc < p3 ∧ pc < w8.heap.size) := by
      have h1 := HPs7.out
      have h2 := e5.size
      have h3 := HE8.out.size
      simp at h2
      show _ ∧ _
      omega
    have Hv0 : Hid (∀ q, v0.ownBlock = some q → q < w8.heap.size) := fun q hq => (HO8.out.lt q hq).2
    have Hseq1 := Lib.hid (fun W e => Hseq.out b sb false x2 Hb2.out.1 Hb2.out.2 p1 p2 p3 q3 W (fun bw off e => ⟨(Hws2.out bw off e).1, (Hws2.out bw off e).2.1⟩) (by have := HPl.out; have := HP.out.ps; have := HP.out.pc; omega) (HL8.out.wal.ext e) (HBx.out.ext e))
    have Ht1 : Hid ((looks S lk x1 x2 x3 x5).t1 = chainOf S lk false q3 x2) := by
      show chainOf S lk false (plainF S (List.replicate S.toNat false) x1).2.2 x2 = _
      rw [Hq.out]
    obtain ⟨t1, ht1⟩ : ∃ t1, chainOf S lk false q3 x2 = t1 := ⟨_, rfl⟩
    rw [ht1] at Hseq1 Ht1
    clear ht1 hbx l1 l2 l3 e5 e6 hd0 hd5 hd6 hb0 HL7 HO0 HPs7 HE8
    dsimp only [Exit.then]
    go_wp2_with fail
    refine wp_rangeFunc_any (α := Int × Bool) (gf := 100) (lb := #[.pointer (some ⟨p1, 0, none⟩), .pointer (some ⟨p2, 0, none⟩), .pointer (some ⟨p3, 0, none⟩)]) rfl (enters_of Try.func100 (by kernel_rfl) rfl) (encs := encSlot) (fun _ => rfl)
      (hseq := Hseq1.out) ?tr ?it ?s (SInv w w8.heap.size g6 pc T R H Re Ca S B b v0 c0 val) (fun _ _ _ => False) ?ie ?iT ?iR ?xR ?h0
      ?act ?assign ?body ?done ?stop
    case assign =>
      intro l x W K hK
      simp only [encSlot]
      gi_wp2
      exact hK
    case tr =>
      intro X Y ho k o hk hX _
      have := HP.out.pb
      have := HP.out.ps
      have := HP.out.pc
      have := HPl.out
      exact (ho.block k (Array.getElem?_eq_some_iff.1 hX).1 (by omega)).trans hX
    case it =>
      intro pre x X Y h hr
      obtain ⟨seen, hw, hc⟩ := h.ex
      exact ⟨⟨seen, hw.apart HP.out hr.only (fun q hq => by have := HPl.out; have := HP.out.pc; omega), hc⟩, h.pos, h.lk, h.mark, h.box.byRec hr⟩
    case s =>
      intro xs X Y h hr
      exact ⟨h.1, h.2.apart HP.out hr.only (fun q hq => by have := HPl.out; have := HP.out.pc; omega)⟩
    case ie =>
      rintro pre X Y ⟨⟨v1, h1, h2⟩, h3, h4⟩ e
      exact ⟨⟨v1, h1.ext e, own_ext h2 e⟩, own_ext h3 e, h4⟩
    case iT =>
      rintro pre X Y ⟨⟨v1, h1, h2⟩, h3, h4⟩ ho
      have := HP.out.pb
      have := HP.out.ps
      have := HP.out.pc
      have := HPl.out
      exact ⟨⟨v1, h1.only HP.out ho (fun q hq => by omega), own_only h2 ho (fun k hk hq => by have := h2.lt k hk; omega)⟩, own_only h3 ho (fun k hk hq => by have := h3.lt k hk; omega), h4⟩
    case iR =>
      rintro pre X Y ⟨⟨v1, h1, h2⟩, h3, h4⟩ hr
      exact ⟨⟨v1, h1.byRec HP.out hr HPl.out.2.2.2, hr.own h2⟩, hr.own h3, h4⟩
    case xR => exact fun _ _ _ _ h _ => h
    case h0 => exact ⟨⟨_, HL8.out.k, World.ownsRow_nil _ _ _ _⟩, HO8.out, Nat.zero_le _⟩
    case stop => exact fun _ _ _ _ _ h => h.elim
    case body =>
      rintro l pre x W ⟨⟨v1, hlk, hown⟩, ho0, hlen⟩ hit hlt
      obtain ⟨seen, hWk, hCh⟩ := hit.ex
      obtain ⟨xs, xm⟩ := x
      have hx0 : 0 ≤ xs := hit.pos
      have hx1 : xs < S := hCh.lt
      have hmore := hCh.more hx0
      have HWk := Lib.hid hWk
      have HLk := Lib.hid hlk
      have Hown := Lib.hid hown
      have Ho0 := Lib.hid ho0
      have Hit := Lib.hid hit
      have Hch := Lib.hid hCh
      clear hit hWk hCh hlk hown ho0
      obtain ⟨A2, c2, rfl⟩ := own_form Hown.out
      have hpl := HPl.out
      have hne1 : pc ≠ g6 := by have := HP.out.pc; omega
      have hs3 := HLk.out.on.size
      have hbytes : ((pre.map fun x => val x.1).length + 1) * 8 ≤ 140737488355328 := by
        have h2 := HS.out
        rw [List.length_map]
        omega
      have hW0 : W.cell? ⟨g6, 0, none⟩ = some (.pointer (some ⟨b, 0, none⟩)) := cellOf HLk.out.wb rfl
      have hW2 : W.cell? ⟨pc, 1, none⟩ = some (.slice A2 (pre.map fun x => val x.1).length c2) := cellOf HLk.out.cont rfl
      gi_upto_region 12 with fail
      refine wpIn_round_any (by kernel_rfl) (fun _ _ h => h) (by kernel_rfl) (wpAny_of_held (S := fun w' : World => w'.cell? ⟨g6, 0, none⟩ = some (.pointer (some ⟨b, 0, none⟩))) _ _ _ _ ?_)
      have hHeld : (fun w' : World => w'.cell? ⟨g6, 0, none⟩ = some (.pointer (some ⟨b, 0, none⟩))) (W.drew) := hW0
      refine wpAnyH_take (i := 0) (v := ?_) rfl (by kernel_rfl) (by kernel_rfl) (by kernel_rfl) (fun _ _ _ h => h) (Or.inl ⟨by rfl, ?hy1⟩) (by assumption) ?rest1
      case hy1 => (intro w hSw; (try dsimp only at hSw); go_simp; try with_reducible rfl)
      refine wpAnyH_take (i := 2) (v := ?_) rfl (by kernel_rfl) (by kernel_rfl) (by kernel_rfl) (fun _ _ _ h => h) (Or.inl ⟨by rfl, ?hy2⟩) (by assumption) ?rest2
      case hy2 => (intro w hSw; (try dsimp only at hSw); go_simp; try with_reducible rfl)
      refine wpAnyH_take (i := 3) (v := ?_) rfl (by kernel_rfl) (by kernel_rfl) (by kernel_rfl) (fun _ _ _ h => h) (Or.inl ⟨by rfl, ?hy3⟩) (by assumption) ?rest3
      case hy3 => (intro w hSw; (try dsimp only at hSw); go_simp; try with_reducible rfl)
      refine wpAnyH_ready (rs := [1, 4]) (by kernel_rfl) (by simp) ?_
      refine AllReadyH.cons rfl (fun K hK => ?_) ?_
      · go_simp
        refine hK.out _ _ hW0 (fun hHeld => ?_)
        clear hK K
        refine wpAnyH_ready (rs := [4]) (by kernel_rfl) (by simp) ?_
        refine AllReadyH.cons rfl (fun K hK => ?_) ?_
        · go_simp
          (refine (Hv.out b sb seen false _ (HWk.out.ext (Ext.rfl' W).drew1) xs hx0 hx1).mono ?_; rintro e w5 ⟨rfl, e5⟩)
          have hE5 := Ext.next (Ext.rfl' W).drew1 e5
          have h50 : w5.cell? ⟨g6, 0, none⟩ = some (.pointer (some ⟨b, 0, none⟩)) := cellOf (ext_blk hE5 HLk.out.wb) rfl
          have h52 : w5.cell? ⟨pc, 1, none⟩ = some (.slice A2 (pre.map fun x => val x.1).length c2) := cellOf (ext_blk hE5 HLk.out.cont) rfl
          have hA5 := (Ext.rfl' w5).alloc1 (.cells #[.int .i64 (val xs)] 3)
          have h60 := hE5.next hA5
          refine hK.out _ _ h50 (fun hHeld => ?_)
          clear hK K
          refine wpAnyH_ready (rs := [5]) (by kernel_rfl) (by simp) ?_
          refine AllReadyH.cons rfl (fun K hK => ?_) ?_
          · go_simp
            refine hK.out _ _ ((World.cell?_alloc_some _ _ _ (by rw [h50]; rfl)).trans h50) (fun hHeld => ?_)
            clear hK K
            refine wpAnyH_ready (rs := [6]) (by kernel_rfl) (by simp) ?_
            refine AllReadyH.cons rfl (fun K hK => ?_) ?_
            · have hown5 := own_ext Hown.out hE5
              have hbase5 : w8.heap.size ≤ w5.heap.size := by have := hE5.size; omega
              refine step_appendR _ rfl (.tmp 52) (.tmp 56) 26 rfl w8.heap.size 3 1 8 elemInt Try.underlying26 (.slice A2 (pre.map fun x => val x.1).length c2) (pre.map fun x => val x.1).length _ (by simp [Act.eval]) (hown5.alloc _) (some ⟨w5.heap.size, 0, none⟩) 1 1 [.int .i64 (val xs)] (by simp [Act.eval]) rfl (Rd.made w5 [.int .i64 (val xs)] 3) (by simp [Value.oneCell']) hbytes (by simp; omega) ?_
              intro v7 w7 hown7 hgrow7 hat7
              have hg7 := (Only.of_grown hgrow7).mono (S' := fun q => w8.heap.size ≤ q) fun q _ hq => (hown5.lt q hq.symm).1
              have h7w : Only (fun q => w8.heap.size ≤ q) W w7 := ((Only.of_ext (S := fun q => w8.heap.size ≤ q) hE5).trans (Only.of_ext (S := fun q => w8.heap.size ≤ q) hA5) fun _ _ h => h).trans hg7 fun _ _ h => h
              have hL7 := HLk.out.only HP.out h7w (fun q hq => .inl (by omega))
              have h70 := cellOf (i := 0) hL7.wb rfl
              have h72 := cellOf (i := 1) hL7.cont rfl
              have h73 := freeOf hL7.cont 1
              obtain ⟨A7, c7, rfl⟩ := own_form hown7
              refine hK.out _ _ h70 (fun hHeld => ?_)
              clear hK K
              refine wpAnyH_take (i := 7) (v := ?_) rfl (by kernel_rfl) (by kernel_rfl) (by kernel_rfl) (fun _ _ _ h => h) (Or.inl ⟨by rfl, ?hy4⟩) (by assumption) ?rest4
              case hy4 => (intro w hSw; (try dsimp only at hSw); go_simp; try with_reducible rfl)
              refine wpAnyH_ready (rs := [8]) (by kernel_rfl) (by simp) ?_
              refine AllReadyH.cons rfl (fun K hK => ?_) ?_
              · go_simp
                refine hK.out _ _ ((World.cell?_setCell_far _ _ _ _ hne1).trans h70) (fun hHeld => ?_)
                clear hK K
                refine wpAnyH_done (by kernel_rfl) ?_ _
                obtain ⟨hput, hOs⟩ := hL7.put 1 (.slice A7 ((pre.map fun x => val x.1).length + 1) c7)
                have hL8 : LK0 w g6 pc T R H Re Ca S B b v0 (.slice A7 ((pre.map fun x => val x.1).length + 1) c7) (.slice none 0 0) (.slice none 0 0) (.slice none 0 0) (w7.setCell ⟨pc, 1, none⟩ (.slice A7 ((pre.map fun x => val x.1).length + 1) c7)) := hL7.putBy HP.out hOs hput
                have hkv : KeepsFrom w8.heap.size W (w7.setCell ⟨pc, 1, none⟩ (.slice A7 ((pre.map fun x => val x.1).length + 1) c7)) := (((keeps_lt (Only.of_ext (S := fun _ => False) hE5) fun _ h => h.elim).trans (keeps_lt (Only.of_ext (S := fun _ => False) hA5) fun _ h => h.elim)).trans (keeps_grown (hown5.alloc _) hgrow7)).trans (keeps_lt hOs fun q hq => by omega)
                have hov : (w7.setCell ⟨pc, 1, none⟩ (.slice A7 ((pre.map fun x => val x.1).length + 1) c7)).ownsRow w8.heap.size 3 1 (.slice A7 ((pre.map fun x => val x.1).length + 1) c7) ((pre ++ [(xs, xm)]).map fun x => val x.1).length (((pre ++ [(xs, xm)]).map fun x => val x.1).map (Value.int .i64)) := by
                  have := own_only hown7 hOs fun q hq h => by have := hown7.lt q hq; omega
                  simpa using this
                have h8 : Only (fun q => w8.heap.size ≤ q ∨ q = pc) W (w7.setCell ⟨pc, 1, none⟩ (.slice A7 ((pre.map fun x => val x.1).length + 1) c7)) := (h7w.mono fun _ _ h => Or.inl h).trans hOs fun _ _ h => Or.inr h
                gi_wp2
                have hlen : (pre.map fun x => val x.1).length = pre.length := List.length_map ..
                rw [hlen] at hkv hL8 hov h8
                refine ⟨hkv, ⟨⟨_, hL8, hov⟩, own_only Ho0.out h8 fun q hq h => by have := Ho0.out.lt q hq; have := Hv0.out q hq; omega, by rw [List.length_append, List.length_singleton]; omega⟩, ⟨seen, HWk.out.apart HP.out h8 (fun q hq => by have := HP.out.pc; omega), Hch.out⟩, Hit.out.pos, Hit.out.lk, Hit.out.mark, Hit.out.box.only h8 (by have := blk_lt HBx.out.b1; omega) (by have := blk_lt HBx.out.b2; omega) (by have := blk_lt HBx.out.b3; omega)⟩
              · exact AllReadyH.nil
            · exact AllReadyH.nil
          · exact AllReadyH.nil
        · exact AllReadyH.nil
      refine AllReadyH.cons rfl (fun K hK => ?_) ?_
      · go_simp
        (refine (Hv.out b sb seen false _ (HWk.out.ext (Ext.rfl' W).drew1) xs hx0 hx1).mono ?_; rintro e w5 ⟨rfl, e5⟩)
        have hE5 := Ext.next (Ext.rfl' W).drew1 e5
        have h50 : w5.cell? ⟨g6, 0, none⟩ = some (.pointer (some ⟨b, 0, none⟩)) := cellOf (ext_blk hE5 HLk.out.wb) rfl
        have h52 : w5.cell? ⟨pc, 1, none⟩ = some (.slice A2 (pre.map fun x => val x.1).length c2) := cellOf (ext_blk hE5 HLk.out.cont) rfl
        have hA5 := (Ext.rfl' w5).alloc1 (.cells #[.int .i64 (val xs)] 3)
        have h60 := hE5.next hA5
        refine hK.out _ _ h50 (fun hHeld => ?_)
        clear hK K
        refine wpAnyH_ready (rs := [1, 5]) (by kernel_rfl) (by simp) ?_
        refine AllReadyH.cons rfl (fun K hK => ?_) ?_
        · go_simp
          refine hK.out _ _ h50 (fun hHeld => ?_)
          clear hK K
          refine wpAnyH_ready (rs := [5]) (by kernel_rfl) (by simp) ?_
          refine AllReadyH.cons rfl (fun K hK => ?_) ?_
          · go_simp
            refine hK.out _ _ ((World.cell?_alloc_some _ _ _ (by rw [h50]; rfl)).trans h50) (fun hHeld => ?_)
            clear hK K
            refine wpAnyH_ready (rs := [6]) (by kernel_rfl) (by simp) ?_
            refine AllReadyH.cons rfl (fun K hK => ?_) ?_
            · have hown5 := own_ext Hown.out hE5
              have hbase5 : w8.heap.size ≤ w5.heap.size := by have := hE5.size; omega
              refine step_appendR _ rfl (.tmp 52) (.tmp 56) 26 rfl w8.heap.size 3 1 8 elemInt Try.underlying26 (.slice A2 (pre.map fun x => val x.1).length c2) (pre.map fun x => val x.1).length _ (by simp [Act.eval]) (hown5.alloc _) (some ⟨w5.heap.size, 0, none⟩) 1 1 [.int .i64 (val xs)] (by simp [Act.eval]) rfl (Rd.made w5 [.int .i64 (val xs)] 3) (by simp [Value.oneCell']) hbytes (by simp; omega) ?_
              intro v7 w7 hown7 hgrow7 hat7
              have hg7 := (Only.of_grown hgrow7).mono (S' := fun q => w8.heap.size ≤ q) fun q _ hq => (hown5.lt q hq.symm).1
              have h7w : Only (fun q => w8.heap.size ≤ q) W w7 := ((Only.of_ext (S := fun q => w8.heap.size ≤ q) hE5).trans (Only.of_ext (S := fun q => w8.heap.size ≤ q) hA5) fun _ _ h => h).trans hg7 fun _ _ h => h
              have hL7 := HLk.out.only HP.out h7w (fun q hq => .inl (by omega))
              have h70 := cellOf (i := 0) hL7.wb rfl
              have h72 := cellOf (i := 1) hL7.cont rfl
              have h73 := freeOf hL7.cont 1
              obtain ⟨A7, c7, rfl⟩ := own_form hown7
              refine hK.out _ _ h70 (fun hHeld => ?_)
              clear hK K
              refine wpAnyH_take (i := 7) (v := ?_) rfl (by kernel_rfl) (by kernel_rfl) (by kernel_rfl) (fun _ _ _ h => h) (Or.inl ⟨by rfl, ?hy5⟩) (by assumption) ?rest5
              case hy5 => (intro w hSw; (try dsimp only at hSw); go_simp; try with_reducible rfl)
              refine wpAnyH_ready (rs := [8]) (by kernel_rfl) (by simp) ?_
              refine AllReadyH.cons rfl (fun K hK => ?_) ?_
              · go_simp
                refine hK.out _ _ ((World.cell?_setCell_far _ _ _ _ hne1).trans h70) (fun hHeld => ?_)
                clear hK K
                refine wpAnyH_done (by kernel_rfl) ?_ _
                obtain ⟨hput, hOs⟩ := hL7.put 1 (.slice A7 ((pre.map fun x => val x.1).length + 1) c7)
                have hL8 : LK0 w g6 pc T R H Re Ca S B b v0 (.slice A7 ((pre.map fun x => val x.1).length + 1) c7) (.slice none 0 0) (.slice none 0 0) (.slice none 0 0) (w7.setCell ⟨pc, 1, none⟩ (.slice A7 ((pre.map fun x => val x.1).length + 1) c7)) := hL7.putBy HP.out hOs hput
                have hkv : KeepsFrom w8.heap.size W (w7.setCell ⟨pc, 1, none⟩ (.slice A7 ((pre.map fun x => val x.1).length + 1) c7)) := (((keeps_lt (Only.of_ext (S := fun _ => False) hE5) fun _ h => h.elim).trans (keeps_lt (Only.of_ext (S := fun _ => False) hA5) fun _ h => h.elim)).trans (keeps_grown (hown5.alloc _) hgrow7)).trans (keeps_lt hOs fun q hq => by omega)
                have hov : (w7.setCell ⟨pc, 1, none⟩ (.slice A7 ((pre.map fun x => val x.1).length + 1) c7)).ownsRow w8.heap.size 3 1 (.slice A7 ((pre.map fun x => val x.1).length + 1) c7) ((pre ++ [(xs, xm)]).map fun x => val x.1).length (((pre ++ [(xs, xm)]).map fun x => val x.1).map (Value.int .i64)) := by
                  have := own_only hown7 hOs fun q hq h => by have := hown7.lt q hq; omega
                  simpa using this
                have h8 : Only (fun q => w8.heap.size ≤ q ∨ q = pc) W (w7.setCell ⟨pc, 1, none⟩ (.slice A7 ((pre.map fun x => val x.1).length + 1) c7)) := (h7w.mono fun _ _ h => Or.inl h).trans hOs fun _ _ h => Or.inr h
                gi_wp2
                have hlen : (pre.map fun x => val x.1).length = pre.length := List.length_map ..
                rw [hlen] at hkv hL8 hov h8
                refine ⟨hkv, ⟨⟨_, hL8, hov⟩, own_only Ho0.out h8 fun q hq h => by have := Ho0.out.lt q hq; have := Hv0.out q hq; omega, by rw [List.length_append, List.length_singleton]; omega⟩, ⟨seen, HWk.out.apart HP.out h8 (fun q hq => by have := HP.out.pc; omega), Hch.out⟩, Hit.out.pos, Hit.out.lk, Hit.out.mark, Hit.out.box.only h8 (by have := blk_lt HBx.out.b1; omega) (by have := blk_lt HBx.out.b2; omega) (by have := blk_lt HBx.out.b3; omega)⟩
              · exact AllReadyH.nil
            · exact AllReadyH.nil
          · exact AllReadyH.nil
        refine AllReadyH.cons rfl (fun K hK => ?_) ?_
        · go_simp
          refine hK.out _ _ ((World.cell?_alloc_some _ _ _ (by rw [h50]; rfl)).trans h50) (fun hHeld => ?_)
          clear hK K
          refine wpAnyH_ready (rs := [1]) (by kernel_rfl) (by simp) ?_
          refine AllReadyH.cons rfl (fun K hK => ?_) ?_
          · have h62 := (World.cell?_alloc_some w5 ⟨pc, 1, none⟩ (.cells #[.int .i64 (val xs)] 3) (by rw [h52]; rfl)).trans h52
            go_simp
            refine hK.out _ _ hHeld (fun hHeld => ?_)
            clear hK K
            refine wpAnyH_ready (rs := [6]) (by kernel_rfl) (by simp) ?_
            refine AllReadyH.cons rfl (fun K hK => ?_) ?_
            · have hown5 := own_ext Hown.out hE5
              have hbase5 : w8.heap.size ≤ w5.heap.size := by have := hE5.size; omega
              refine step_appendR _ rfl (.tmp 52) (.tmp 56) 26 rfl w8.heap.size 3 1 8 elemInt Try.underlying26 (.slice A2 (pre.map fun x => val x.1).length c2) (pre.map fun x => val x.1).length _ (by simp [Act.eval]) (hown5.alloc _) (some ⟨w5.heap.size, 0, none⟩) 1 1 [.int .i64 (val xs)] (by simp [Act.eval]) rfl (Rd.made w5 [.int .i64 (val xs)] 3) (by simp [Value.oneCell']) hbytes (by simp; omega) ?_
              intro v7 w7 hown7 hgrow7 hat7
              have hg7 := (Only.of_grown hgrow7).mono (S' := fun q => w8.heap.size ≤ q) fun q _ hq => (hown5.lt q hq.symm).1
              have h7w : Only (fun q => w8.heap.size ≤ q) W w7 := ((Only.of_ext (S := fun q => w8.heap.size ≤ q) hE5).trans (Only.of_ext (S := fun q => w8.heap.size ≤ q) hA5) fun _ _ h => h).trans hg7 fun _ _ h => h
              have hL7 := HLk.out.only HP.out h7w (fun q hq => .inl (by omega))
              have h70 := cellOf (i := 0) hL7.wb rfl
              have h72 := cellOf (i := 1) hL7.cont rfl
              have h73 := freeOf hL7.cont 1
              obtain ⟨A7, c7, rfl⟩ := own_form hown7
              refine hK.out _ _ h70 (fun hHeld => ?_)
              clear hK K
              refine wpAnyH_take (i := 7) (v := ?_) rfl (by kernel_rfl) (by kernel_rfl) (by kernel_rfl) (fun _ _ _ h => h) (Or.inl ⟨by rfl, ?hy6⟩) (by assumption) ?rest6
              case hy6 => (intro w hSw; (try dsimp only at hSw); go_simp; try with_reducible rfl)
              refine wpAnyH_ready (rs := [8]) (by kernel_rfl) (by simp) ?_
              refine AllReadyH.cons rfl (fun K hK => ?_) ?_
              · go_simp
                refine hK.out _ _ ((World.cell?_setCell_far _ _ _ _ hne1).trans h70) (fun hHeld => ?_)
                clear hK K
                refine wpAnyH_done (by kernel_rfl) ?_ _
                obtain ⟨hput, hOs⟩ := hL7.put 1 (.slice A7 ((pre.map fun x => val x.1).length + 1) c7)
                have hL8 : LK0 w g6 pc T R H Re Ca S B b v0 (.slice A7 ((pre.map fun x => val x.1).length + 1) c7) (.slice none 0 0) (.slice none 0 0) (.slice none 0 0) (w7.setCell ⟨pc, 1, none⟩ (.slice A7 ((pre.map fun x => val x.1).length + 1) c7)) := hL7.putBy HP.out hOs hput
                have hkv : KeepsFrom w8.heap.size W (w7.setCell ⟨pc, 1, none⟩ (.slice A7 ((pre.map fun x => val x.1).length + 1) c7)) := (((keeps_lt (Only.of_ext (S := fun _ => False) hE5) fun _ h => h.elim).trans (keeps_lt (Only.of_ext (S := fun _ => False) hA5) fun _ h => h.elim)).trans (keeps_grown (hown5.alloc _) hgrow7)).trans (keeps_lt hOs fun q hq => by omega)
                have hov : (w7.setCell ⟨pc, 1, none⟩ (.slice A7 ((pre.map fun x => val x.1).length + 1) c7)).ownsRow w8.heap.size 3 1 (.slice A7 ((pre.map fun x => val x.1).length + 1) c7) ((pre ++ [(xs, xm)]).map fun x => val x.1).length (((pre ++ [(xs, xm)]).map fun x => val x.1).map (Value.int .i64)) := by
                  have := own_only hown7 hOs fun q hq h => by have := hown7.lt q hq; omega
                  simpa using this
                have h8 : Only (fun q => w8.heap.size ≤ q ∨ q = pc) W (w7.setCell ⟨pc, 1, none⟩ (.slice A7 ((pre.map fun x => val x.1).length + 1) c7)) := (h7w.mono fun _ _ h => Or.inl h).trans hOs fun _ _ h => Or.inr h
                gi_wp2
                have hlen : (pre.map fun x => val x.1).length = pre.length := List.length_map ..
                rw [hlen] at hkv hL8 hov h8
                refine ⟨hkv, ⟨⟨_, hL8, hov⟩, own_only Ho0.out h8 fun q hq h => by have := Ho0.out.lt q hq; have := Hv0.out q hq; omega, by rw [List.length_append, List.length_singleton]; omega⟩, ⟨seen, HWk.out.apart HP.out h8 (fun q hq => by have := HP.out.pc; omega), Hch.out⟩, Hit.out.pos, Hit.out.lk, Hit.out.mark, Hit.out.box.only h8 (by have := blk_lt HBx.out.b1; omega) (by have := blk_lt HBx.out.b2; omega) (by have := blk_lt HBx.out.b3; omega)⟩
              · exact AllReadyH.nil
            · exact AllReadyH.nil
          · exact AllReadyH.nil
        · exact AllReadyH.nil
      · exact AllReadyH.nil
    case done =>
      rintro D xs W hD ⟨rfl, hwal⟩ ⟨⟨v1, hlk, hown⟩, ho0, hlen⟩ hdf
      have hpl := HPl.out
      have HD0 : Hid (LD w W.heap.size g6 pc D T R H Re Ca S B A n c ws b sb t1.2.2 (false || !t1.2.1) v0 v1 (.slice none 0 0) (.slice none 0 0) (.slice none 0 0) c0 (t1.1.map fun x => val x.1) [] W) :=
        ⟨⟨hlk, hwal⟩, ho0, own_base hown (by omega), World.ownsRow_nil _ _ _ _, fun q hq => (ho0.lt q hq).2, fun q hq => (hown.lt q hq).2, fun q hq => (by cases hq), hdf, ⟨by omega, blk_lt hdf⟩, Nat.le_refl _⟩
      obtain ⟨bad1, hbad1⟩ : ∃ q, (false || !t1.2.1) = q := ⟨_, rfl⟩
      rw [hbad1] at HD0
      have Hbad1 := Lib.hid hbad1
      clear hwal hlk hown ho0 hlen hdf hD hpl hbad1 Hseq1 Hv0 HO8 HL8 HPl HBx
      obtain ⟨k, hk⟩ := lat_self W
      have b6 : ∀ z : Lat W, z.world.cell? ⟨g6, 0, none⟩ = some (.pointer (some ⟨b, 0, none⟩)) := Lat.cells HD0.out.lk.k.wb rfl
      rw [hk]
      clear hk
      dsimp only [Exit.inBlock, Exit.then]
      go_wp2_with fail
      refine (Hqueue.out b sb pc _ _ v0 v1 _ _ k.world Hws2.out (by have := HP.out.ps; have := HP.out.pb; have := HP.out.pc; omega) (HD0.out.lk.wal.ext k.ok) (ext_blk k.ok HD0.out.lk.k.cont)).mono ?_
      rintro e w9 ⟨rfl, t2, v2, ht2, hc9, ho9, hon9, hw9⟩
      have HDk := Lib.hid (HD0.out.ext k.ok)
      have HD9 : Hid (LD w w9.heap.size g6 pc D T R H Re Ca S B A n c ws b sb t2.2.2 (bad1 || !t2.2.1 || !namesOne x4 t2.1) v0 v1 v2 (.slice none 0 0) (.slice none 0 0) c0 (t1.1.map fun x => val x.1) (behind val t2.1) w9) := by
        have h := HDk.out
        have p := HP.out
        have q2 := p.pc
        have q3 := p.pb
        have q4 := p.ps
        have o0 := own_only h.o0 hon9 fun q hq e => by have := h.o0.lt q hq; omega
        have o1 := own_only h.o1 hon9 fun q hq e => by have := h.o1.lt q hq; omega
        have o2 := own_base ho9 (Nat.succ_le_of_lt (Nat.lt_of_lt_of_le (Nat.lt_trans h.dl.1 h.dl.2) h.bs))
        have hdd : w9.heap[D]? = some (.deferred (some [])) := (hon9.block _ (blk_lt h.dd) fun e => by have := h.dl; omega).trans h.dd
        exact ⟨⟨h.lk.k.queue p hon9 hc9, hw9⟩, o0, o1, o2, fun q hq => (o0.lt q hq).2, fun q hq => (o1.lt q hq).2, fun q hq => (o2.lt q hq).2, hdd, ⟨h.dl.1, blk_lt hdd⟩, Nat.le_refl _⟩
      have Ht2 : Hid ((looks S lk x1 x2 x3 x5).t2 = t2) := by
        have h1 := Ht1.out
        show (looks S lk x1 x2 x3 x5).t2 = t2
        rw [ht2, ← h1]
        rfl
      have Ht3 : Hid ((looks S lk x1 x2 x3 x5).t3 = chainOf S lk true t2.2.2 x5) := by
        show (looks S lk x1 x2 x3 x5).t3 = _
        rw [← Ht2.out]
        rfl
      obtain ⟨bad2, hbad2⟩ : ∃ q, (bad1 || !t2.2.1 || !namesOne x4 t2.1) = q := ⟨_, rfl⟩
      rw [hbad2] at HD9
      have Hbad2 : Hid (((!(looks S lk x1 x2 x3 x5).t1.2.1 || !(looks S lk x1 x2 x3 x5).t2.2.1) || !namesOne x4 (looks S lk x1 x2 x3 x5).t2.1) = bad2) := by
        show _ = _
        rw [Ht1.out, Ht2.out, ← hbad2, ← Hbad1.out]
        simp
      clear hc9 ho9 hon9 hw9 hbad2 Hbad1 HDk HD0 b6
      have hb0 : ∀ z : Lat w9, z.world.cell? ⟨g6, 0, none⟩ = some (.pointer (some ⟨b, 0, none⟩)) := Lat.cells HD9.out.lk.k.wb rfl
      obtain ⟨k9, hk9⟩ := lat_self w9
      rw [hk9]
      go_upto_region 14 with fail
      rw [← hk9]
      clear hk9 k9
      have hd0 : (w9.drew).cell? ⟨g6, 0, none⟩ = some (.pointer (some ⟨b, 0, none⟩)) := hb0 ⟨_, (Ext.rfl' w9).drew1⟩
      have Hkey5 := Lib.hid (fun (w5 : World) (e5 : Ext w9.drew w5) => Hkeys.out b sb _ _ x5 Hb5.out.1 Hb5.out.2 (-1) w5 (fun bw off e => ⟨(Hws2.out bw off e).1, (Hws2.out bw off e).2.1⟩) (HD9.out.lk.wal.ext (Ext.next (Ext.rfl' w9).drew1 e5)))
      have Hk6 : Hid (∀ w5 w6 : World, Ext w9.drew w5 → Only (fun q => q = sb ∨ q = b) w5 w6 → w6.cell? ⟨g6, 0, none⟩ = some (.pointer (some ⟨b, 0, none⟩))) := fun w5 w6 e5 o6 => cellOf ((o6.block g6 (blk_lt (ext_blk (Ext.next (Ext.rfl' w9).drew1 e5) HD9.out.lk.k.wb)) (by have := HP.out.ps; have := HP.out.pb; omega)).trans (ext_blk (Ext.next (Ext.rfl' w9).drew1 e5) HD9.out.lk.k.wb)) rfl
      go_region_held3 (fun w' => w'.cell? ⟨g6, 0, none⟩ = some (.pointer (some ⟨b, 0, none⟩))) (first | exact hd0 | exact hd5 | exact hd6) (first | ((with_reducible refine (Ha5.out b sb _ _ _ (by exact (HD9.out.lk.wal.ext (Ext.rfl' w9).drew1))).mono ?_); rintro e w5 ⟨rfl, e5⟩; have hd5 := hb0 ⟨w5, Ext.next (Ext.rfl' w9).drew1 e5⟩) | ((with_reducible refine (Hkey5.out _ (by exact e5)).mono ?_); rintro e w6 ⟨vk, l3, seen3, bad3, rfl, hown3, hon3, hw3, hrg3, hln3, hcase3⟩; have hd6 := Hk6.out _ _ e5 hon3; obtain ⟨A3, c3, rfl⟩ := own_form hown3))
      have HDa : Hid (LD w w6.heap.size g6 pc D T R H Re Ca S B A n c ws b sb seen3 bad3 v0 v1 v2 (.slice none 0 0) (.slice none 0 0) c0 (t1.1.map fun x => val x.1) (behind val t2.1) w6) := ((HD9.out.ext (Ext.next (Ext.rfl' w9).drew1 e5)).walk HP.out hon3 hw3).grow
      have HK3 := Lib.hid hown3
      have Hcase3 := Lib.hid hcase3
      have Hrg3 := Lib.hid hrg3
      have Hln3 := Lib.hid hln3
      have Hkb : Hid (∀ q, (Value.slice A3 l3.length c3).ownBlock = some q → q < w6.heap.size) := fun q hq => (hown3.lt q hq).2
      have Hkl : Hid (pc + 1 ≤ w5.heap.size) := by
        have h1 := HD9.out.dl
        have h2 := e5.size
        simp at h2
        show _ ≤ _
        omega
      have HO3 : Hid (w6.ownsRow (pc + 1) 3 1 (.slice A3 l3.length c3) l3.length (l3.map (Value.int .i64))) := own_base hown3 Hkl.out
      obtain ⟨m, hm⟩ : ∃ m, l3.length = m := ⟨_, rfl⟩
      rw [hm] at HO3 Hkb
      simp only [hm]
      have Hm := Lib.hid hm
      have hmb : m ≤ 1024 := by have := HS.out; have := Hln3.out; omega
      clear hown3 hcase3 hrg3 hln3 hm hon3 hw3 e5 hd0 hd5 hd6 hb0 HD9 HK3 Hkl Hkey5 Hk6
      dsimp only [Exit.then]
      go_wp2_with fail
      go_loopw [13, 66] (fun s13 s66 wr => ∃ (i : Nat) (v3 : Value), s66 = .int .i64 i ∧ i ≤ m ∧ Hid (LD w w6.heap.size g6 pc D T R H Re Ca S B A n c ws b sb seen3 bad3 v0 v1 v2 v3 (.slice none 0 0) c0 (t1.1.map fun x => val x.1) (behind val t2.1) wr) ∧ Hid (wr.ownsRow w6.heap.size 3 1 v3 ((l3.take i).map val).length (((l3.take i).map val).map (Value.int .i64))) ∧ Hid (wr.ownsRow (pc + 1) 3 1 (.slice A3 m c3) m (l3.map (Value.int .i64)))) (fun _ s66 _ => m - (intOf s66).toNat)
      case atStart => exact ⟨0, _, rfl, Nat.zero_le _, HDa, World.ownsRow_nil _ _ _ _, HO3⟩
      case round =>
        clear HDa HO3
        obtain ⟨i, v3, rfl, hi, HDi, HOi, HKi⟩ := hrel
        obtain ⟨L, hL⟩ : ∃ L, (l3.take i).map val = L := ⟨_, rfl⟩
        rw [hL] at HOi
        have HL := Lib.hid hL
        have hLl : L.length ≤ 1024 := by
          rw [← hL, List.length_map, List.length_take]
          omega
        clear hL
        obtain ⟨A2, c2, rfl⟩ := own_form HOi.out
        by_cases hlt : i < m
        · obtain ⟨xs, hx⟩ : ∃ x, l3[i]? = some x := ⟨_, List.getElem?_eq_getElem (by rw [Hm.out]; exact hlt)⟩
          have hxr := Hrg3.out xs (List.mem_of_getElem? hx)
          have hx0 := hxr.1
          have hx1 := hxr.2
          obtain ⟨bk, ok, rfl, hbk, hck⟩ := (Rd.of_own HKi.out).lat (j := i) (u := .int .i64 xs) (by simp [hx])
          have Hx := Lib.hid hx
          have z0 : (0 : Int) ≤ (i : Int) := by omega
          have z1 : (i : Int) < (m : Int) := by omega
          obtain ⟨kr, hkr⟩ := lat_self wr
          rw [hkr]
          clear hx hxr
          go_upto_region 17 with fail
          rw [← hkr]
          clear hkr kr hck
          have hs6 := HDi.out.bs
          have hdl := HDi.out.dl
          have hne1 : pc ≠ g6 := by have := HP.out.pc; omega
          have hr0 : wr.drew.cell? ⟨g6, 0, none⟩ = some (.pointer (some ⟨b, 0, none⟩)) := cellOf HDi.out.lk.k.wb rfl
          have hr3 : wr.cell? ⟨pc, 3, none⟩ = some (.slice A2 L.length c2) := cellOf HDi.out.lk.k.cont rfl
          have hbytes : (L.length + 1) * 8 ≤ 140737488355328 := by omega
          have Hval := Lib.hid (Hv.out b sb seen3 bad3 wr.drew (HDi.out.lk.wal.ext (Ext.rfl' wr).drew1) xs hx0 hx1)
          have Hstp : Hid (∀ w5 : World, Ext wr.drew w5 → w5.cell? ⟨g6, 0, none⟩ = some (.pointer (some ⟨b, 0, none⟩)) ∧ w5.cell? ⟨pc, 3, none⟩ = some (.slice A2 L.length c2) ∧ (w5.alloc (.cells #[.int .i64 (val xs)] 3)).cell? ⟨g6, 0, none⟩ = some (.pointer (some ⟨b, 0, none⟩)) ∧ (w5.alloc (.cells #[.int .i64 (val xs)] 3)).cell? ⟨pc, 3, none⟩ = some (.slice A2 L.length c2)) := fun w5 e5 => by
            have h := HDi.out.ext (Ext.next (Ext.rfl' wr).drew1 e5)
            have h2 := h.ext ((Ext.rfl' w5).alloc1 (.cells #[.int .i64 (val xs)] 3))
            exact ⟨cellOf h.lk.k.wb rfl, cellOf h.lk.k.cont rfl, cellOf h2.lk.k.wb rfl, cellOf h2.lk.k.cont rfl⟩
          have Happ : Hid (∀ w5 w7 : World, Ext wr.drew w5 → (w5.alloc (.cells #[.int .i64 (val xs)] 3)).grownBy w7 (Value.slice A2 L.length c2).ownBlock → Only (fun q => w6.heap.size ≤ q) wr w7) := fun w5 w7 e5 hg => by
            have hE := Ext.next (Ext.rfl' wr).drew1 e5
            have hg7 := (Only.of_grown hg).mono (S' := fun q => w6.heap.size ≤ q) fun q _ hq => (HOi.out.lt q hq.symm).1
            exact ((Only.of_ext (S := fun q => w6.heap.size ≤ q) hE).trans (Only.of_ext (S := fun q => w6.heap.size ≤ q) ((Ext.rfl' w5).alloc1 _)) fun _ _ h => h).trans hg7 fun _ _ h => h
          refine wp_region_noPanic (wp_region_held_drew (S := fun w' : World => w'.cell? ⟨g6, 0, none⟩ = some (.pointer (some ⟨b, 0, none⟩))) (by kernel_rfl) hr0 (fun hHeld => ?_))
          refine wpAnyH_take (i := 0) (v := ?_) rfl (by kernel_rfl) (by kernel_rfl) (by kernel_rfl) (fun _ _ _ h => h) (Or.inl ⟨by rfl, ?hy7⟩) (by assumption) ?rest7
          case hy7 => (intro w hSw; (try dsimp only at hSw); go_simp; try with_reducible rfl)
          refine wpAnyH_take (i := 2) (v := ?_) rfl (by kernel_rfl) (by kernel_rfl) (by kernel_rfl) (fun _ _ _ h => h) (Or.inl ⟨by rfl, ?hy8⟩) (by assumption) ?rest8
          case hy8 => (intro w hSw; (try dsimp only at hSw); go_simp; try with_reducible rfl)
          refine wpAnyH_take (i := 3) (v := ?_) rfl (by kernel_rfl) (by kernel_rfl) (by kernel_rfl) (fun _ _ _ h => h) (Or.inl ⟨by rfl, ?hy9⟩) (by assumption) ?rest9
          case hy9 => (intro w hSw; (try dsimp only at hSw); go_simp; try with_reducible rfl)
          refine wpAnyH_ready (rs := [1, 4]) (by kernel_rfl) (by simp) ?_
          refine AllReadyH.cons rfl (fun K hK => ?_) ?_
          · go_simp
            refine hK.out _ _ hr0 (fun hHeld => ?_)
            clear hK K
            refine wpAnyH_ready (rs := [4]) (by kernel_rfl) (by simp) ?_
            refine AllReadyH.cons rfl (fun K hK => ?_) ?_
            · go_simp
              (with_reducible refine Hval.out.mono ?_)
              rintro e w5 ⟨rfl, e5⟩
              obtain ⟨hq5, hqc, hqA, hqB⟩ := Hstp.out w5 e5
              refine hK.out _ _ hq5 (fun hHeld => ?_)
              clear hK K
              refine wpAnyH_ready (rs := [5]) (by kernel_rfl) (by simp) ?_
              refine AllReadyH.cons rfl (fun K hK => ?_) ?_
              · go_simp
                refine hK.out _ _ hqA (fun hHeld => ?_)
                clear hK K
                refine wpAnyH_ready (rs := [6]) (by kernel_rfl) (by simp) ?_
                refine AllReadyH.cons rfl (fun K hK => ?_) ?_
                · refine step_appendR _ rfl (.tmp 71) (.tmp 75) 26 rfl w6.heap.size 3 1 8 elemInt Try.underlying26 (.slice A2 L.length c2) L.length _ (by simp [Act.eval]) ((own_ext HOi.out (Ext.next (Ext.rfl' wr).drew1 e5)).alloc _) (some ⟨w5.heap.size, 0, none⟩) 1 1 [.int .i64 (val xs)] (by simp [Act.eval]) rfl (Rd.made w5 [.int .i64 (val xs)] 3) (by simp [Value.oneCell']) hbytes (by have := e5.size; simp at this ⊢; omega) ?_
                  intro v7 w7 hown7 hgrow7 hat7
                  have h7w := Happ.out w5 w7 e5 hgrow7
                  have hL7 := HDi.out.far HP.out h7w (fun q hq => hq)
                  have hq7 := cellOf (i := 0) hL7.lk.k.wb rfl
                  have hq72 := cellOf (i := 3) hL7.lk.k.cont rfl
                  have hq73 := freeOf hL7.lk.k.cont 3
                  obtain ⟨A7, c7, rfl⟩ := own_form hown7
                  refine hK.out _ _ hq7 (fun hHeld => ?_)
                  clear hK K
                  refine wpAnyH_take (i := 7) (v := ?_) rfl (by kernel_rfl) (by kernel_rfl) (by kernel_rfl) (fun _ _ _ h => h) (Or.inl ⟨by rfl, ?hy10⟩) (by assumption) ?rest10
                  case hy10 => (intro w hSw; (try dsimp only at hSw); go_simp; try with_reducible rfl)
                  refine wpAnyH_ready (rs := [8]) (by kernel_rfl) (by simp) ?_
                  refine AllReadyH.cons rfl (fun K hK => ?_) ?_
                  · go_simp
                    refine hK.out _ _ ((World.cell?_setCell_far _ _ _ _ hne1).trans hq7) (fun hHeld => ?_)
                    clear hK K
                    refine wpAnyH_done (by kernel_rfl) (NoPanic.normal ?_) _
                    obtain ⟨hput, hOs⟩ := hL7.lk.put 3 (.slice A7 (L.length + 1) c7)
                    have hL8 : LD w w6.heap.size g6 pc D T R H Re Ca S B A n c ws b sb seen3 bad3 v0 v1 v2 (.slice A7 (L.length + 1) c7) (.slice none 0 0) c0 (t1.1.map fun x => val x.1) (behind val t2.1) (w7.setCell ⟨pc, 3, none⟩ (.slice A7 (L.length + 1) c7)) := hL7.putBy HP.out hOs hput
                    have hov := own_only hown7 hOs fun q hq h => by have := hown7.lt q hq; omega
                    have h8 : Only (fun q => w6.heap.size ≤ q ∨ q = pc) wr (w7.setCell ⟨pc, 3, none⟩ (.slice A7 (L.length + 1) c7)) := (h7w.mono fun _ _ h => Or.inl h).trans hOs fun _ _ h => Or.inr h
                    have hok := own_only HKi.out h8 fun q hq h => by have := HKi.out.lt q hq; have := Hkb.out q hq; omega
                    have htk : (l3.take (i + 1)).map val = L ++ [val xs] := by
                      rw [List.take_add_one, Hx.out, ← HL.out]
                      simp
                    have hov2 : (w7.setCell ⟨pc, 3, none⟩ (.slice A7 (L.length + 1) c7)).ownsRow w6.heap.size 3 1 (.slice A7 (L.length + 1) c7) (L ++ [val xs]).length ((L ++ [val xs]).map (Value.int .i64)) := by
                      simpa using hov
                    dsimp only [Exit.inBlock, Exit.then]
                    go_wp2_with fail
                    go_roundw
                    case rel => exact ⟨i + 1, (.slice A7 (L.length + 1) c7), by go_num, by omega, hL8, by rw [htk]; exact hov2, hok⟩
                    case measure => simp [intOf]; omega
                  · exact AllReadyH.nil
                · exact AllReadyH.nil
              · exact AllReadyH.nil
            · exact AllReadyH.nil
          refine AllReadyH.cons rfl (fun K hK => ?_) ?_
          · go_simp
            (with_reducible refine Hval.out.mono ?_)
            rintro e w5 ⟨rfl, e5⟩
            obtain ⟨hq5, hqc, hqA, hqB⟩ := Hstp.out w5 e5
            refine hK.out _ _ hq5 (fun hHeld => ?_)
            clear hK K
            refine wpAnyH_ready (rs := [1, 5]) (by kernel_rfl) (by simp) ?_
            refine AllReadyH.cons rfl (fun K hK => ?_) ?_
            · go_simp
              refine hK.out _ _ hq5 (fun hHeld => ?_)
              clear hK K
              refine wpAnyH_ready (rs := [5]) (by kernel_rfl) (by simp) ?_
              refine AllReadyH.cons rfl (fun K hK => ?_) ?_
              · go_simp
                refine hK.out _ _ hqA (fun hHeld => ?_)
                clear hK K
                refine wpAnyH_ready (rs := [6]) (by kernel_rfl) (by simp) ?_
                refine AllReadyH.cons rfl (fun K hK => ?_) ?_
                · refine step_appendR _ rfl (.tmp 71) (.tmp 75) 26 rfl w6.heap.size 3 1 8 elemInt Try.underlying26 (.slice A2 L.length c2) L.length _ (by simp [Act.eval]) ((own_ext HOi.out (Ext.next (Ext.rfl' wr).drew1 e5)).alloc _) (some ⟨w5.heap.size, 0, none⟩) 1 1 [.int .i64 (val xs)] (by simp [Act.eval]) rfl (Rd.made w5 [.int .i64 (val xs)] 3) (by simp [Value.oneCell']) hbytes (by have := e5.size; simp at this ⊢; omega) ?_
                  intro v7 w7 hown7 hgrow7 hat7
                  have h7w := Happ.out w5 w7 e5 hgrow7
                  have hL7 := HDi.out.far HP.out h7w (fun q hq => hq)
                  have hq7 := cellOf (i := 0) hL7.lk.k.wb rfl
                  have hq72 := cellOf (i := 3) hL7.lk.k.cont rfl
                  have hq73 := freeOf hL7.lk.k.cont 3
                  obtain ⟨A7, c7, rfl⟩ := own_form hown7
                  refine hK.out _ _ hq7 (fun hHeld => ?_)
                  clear hK K
                  refine wpAnyH_take (i := 7) (v := ?_) rfl (by kernel_rfl) (by kernel_rfl) (by kernel_rfl) (fun _ _ _ h => h) (Or.inl ⟨by rfl, ?hy11⟩) (by assumption) ?rest11
                  case hy11 => (intro w hSw; (try dsimp only at hSw); go_simp; try with_reducible rfl)
                  refine wpAnyH_ready (rs := [8]) (by kernel_rfl) (by simp) ?_
                  refine AllReadyH.cons rfl (fun K hK => ?_) ?_
                  · go_simp
                    refine hK.out _ _ ((World.cell?_setCell_far _ _ _ _ hne1).trans hq7) (fun hHeld => ?_)
                    clear hK K
                    refine wpAnyH_done (by kernel_rfl) (NoPanic.normal ?_) _
                    obtain ⟨hput, hOs⟩ := hL7.lk.put 3 (.slice A7 (L.length + 1) c7)
                    have hL8 : LD w w6.heap.size g6 pc D T R H Re Ca S B A n c ws b sb seen3 bad3 v0 v1 v2 (.slice A7 (L.length + 1) c7) (.slice none 0 0) c0 (t1.1.map fun x => val x.1) (behind val t2.1) (w7.setCell ⟨pc, 3, none⟩ (.slice A7 (L.length + 1) c7)) := hL7.putBy HP.out hOs hput
                    have hov := own_only hown7 hOs fun q hq h => by have := hown7.lt q hq; omega
                    have h8 : Only (fun q => w6.heap.size ≤ q ∨ q = pc) wr (w7.setCell ⟨pc, 3, none⟩ (.slice A7 (L.length + 1) c7)) := (h7w.mono fun _ _ h => Or.inl h).trans hOs fun _ _ h => Or.inr h
                    have hok := own_only HKi.out h8 fun q hq h => by have := HKi.out.lt q hq; have := Hkb.out q hq; omega
                    have htk : (l3.take (i + 1)).map val = L ++ [val xs] := by
                      rw [List.take_add_one, Hx.out, ← HL.out]
                      simp
                    have hov2 : (w7.setCell ⟨pc, 3, none⟩ (.slice A7 (L.length + 1) c7)).ownsRow w6.heap.size 3 1 (.slice A7 (L.length + 1) c7) (L ++ [val xs]).length ((L ++ [val xs]).map (Value.int .i64)) := by
                      simpa using hov
                    dsimp only [Exit.inBlock, Exit.then]
                    go_wp2_with fail
                    go_roundw
                    case rel => exact ⟨i + 1, (.slice A7 (L.length + 1) c7), by go_num, by omega, hL8, by rw [htk]; exact hov2, hok⟩
                    case measure => simp [intOf]; omega
                  · exact AllReadyH.nil
                · exact AllReadyH.nil
              · exact AllReadyH.nil
            refine AllReadyH.cons rfl (fun K hK => ?_) ?_
            · go_simp
              refine hK.out _ _ hqA (fun hHeld => ?_)
              clear hK K
              refine wpAnyH_ready (rs := [1]) (by kernel_rfl) (by simp) ?_
              refine AllReadyH.cons rfl (fun K hK => ?_) ?_
              · go_simp
                refine hK.out _ _ hHeld (fun hHeld => ?_)
                clear hK K
                refine wpAnyH_ready (rs := [6]) (by kernel_rfl) (by simp) ?_
                refine AllReadyH.cons rfl (fun K hK => ?_) ?_
                · refine step_appendR _ rfl (.tmp 71) (.tmp 75) 26 rfl w6.heap.size 3 1 8 elemInt Try.underlying26 (.slice A2 L.length c2) L.length _ (by simp [Act.eval]) ((own_ext HOi.out (Ext.next (Ext.rfl' wr).drew1 e5)).alloc _) (some ⟨w5.heap.size, 0, none⟩) 1 1 [.int .i64 (val xs)] (by simp [Act.eval]) rfl (Rd.made w5 [.int .i64 (val xs)] 3) (by simp [Value.oneCell']) hbytes (by have := e5.size; simp at this ⊢; omega) ?_
                  intro v7 w7 hown7 hgrow7 hat7
                  have h7w := Happ.out w5 w7 e5 hgrow7
                  have hL7 := HDi.out.far HP.out h7w (fun q hq => hq)
                  have hq7 := cellOf (i := 0) hL7.lk.k.wb rfl
                  have hq72 := cellOf (i := 3) hL7.lk.k.cont rfl
                  have hq73 := freeOf hL7.lk.k.cont 3
                  obtain ⟨A7, c7, rfl⟩ := own_form hown7
                  refine hK.out _ _ hq7 (fun hHeld => ?_)
                  clear hK K
                  refine wpAnyH_take (i := 7) (v := ?_) rfl (by kernel_rfl) (by kernel_rfl) (by kernel_rfl) (fun _ _ _ h => h) (Or.inl ⟨by rfl, ?hy12⟩) (by assumption) ?rest12
                  case hy12 => (intro w hSw; (try dsimp only at hSw); go_simp; try with_reducible rfl)
                  refine wpAnyH_ready (rs := [8]) (by kernel_rfl) (by simp) ?_
                  refine AllReadyH.cons rfl (fun K hK => ?_) ?_
                  · go_simp
                    refine hK.out _ _ ((World.cell?_setCell_far _ _ _ _ hne1).trans hq7) (fun hHeld => ?_)
                    clear hK K
                    refine wpAnyH_done (by kernel_rfl) (NoPanic.normal ?_) _
                    obtain ⟨hput, hOs⟩ := hL7.lk.put 3 (.slice A7 (L.length + 1) c7)
                    have hL8 : LD w w6.heap.size g6 pc D T R H Re Ca S B A n c ws b sb seen3 bad3 v0 v1 v2 (.slice A7 (L.length + 1) c7) (.slice none 0 0) c0 (t1.1.map fun x => val x.1) (behind val t2.1) (w7.setCell ⟨pc, 3, none⟩ (.slice A7 (L.length + 1) c7)) := hL7.putBy HP.out hOs hput
                    have hov := own_only hown7 hOs fun q hq h => by have := hown7.lt q hq; omega
                    have h8 : Only (fun q => w6.heap.size ≤ q ∨ q = pc) wr (w7.setCell ⟨pc, 3, none⟩ (.slice A7 (L.length + 1) c7)) := (h7w.mono fun _ _ h => Or.inl h).trans hOs fun _ _ h => Or.inr h
                    have hok := own_only HKi.out h8 fun q hq h => by have := HKi.out.lt q hq; have := Hkb.out q hq; omega
                    have htk : (l3.take (i + 1)).map val = L ++ [val xs] := by
                      rw [List.take_add_one, Hx.out, ← HL.out]
                      simp
                    have hov2 : (w7.setCell ⟨pc, 3, none⟩ (.slice A7 (L.length + 1) c7)).ownsRow w6.heap.size 3 1 (.slice A7 (L.length + 1) c7) (L ++ [val xs]).length ((L ++ [val xs]).map (Value.int .i64)) := by
                      simpa using hov
                    dsimp only [Exit.inBlock, Exit.then]
                    go_wp2_with fail
                    go_roundw
                    case rel => exact ⟨i + 1, (.slice A7 (L.length + 1) c7), by go_num, by omega, hL8, by rw [htk]; exact hov2, hok⟩
                    case measure => simp [intOf]; omega
                  · exact AllReadyH.nil
                · exact AllReadyH.nil
              · exact AllReadyH.nil
            · exact AllReadyH.nil
          · exact AllReadyH.nil
        · obtain rfl : m = i := by omega
          have hLs : L = l3.map val := by rw [← HL.out, List.take_of_length_le (by rw [Hm.out]; exact Nat.le_refl _)]
          subst hLs
          have hdl0 := HDi.out.dl
          have HDb := Lib.hid HDi.out.grow
          have HO3 : Hid (wr.ownsRow (pc + 1) 3 1 (.slice A2 (l3.map val).length c2) (l3.map val).length ((l3.map val).map (Value.int .i64))) := own_base HOi.out (by omega)
          have Hlt3 : Hid (∀ q, (Value.slice A2 (l3.map val).length c2).ownBlock = some q → q < wr.heap.size) := fun q hq => (HOi.out.lt q hq).2
          obtain ⟨v3, hv3⟩ : ∃ v, Value.slice A2 (l3.map val).length c2 = v := ⟨_, rfl⟩
          rw [hv3] at HDb HO3 Hlt3
          obtain ⟨d0, d1, d2, d3, d4, d5, d6⟩ := Lat.cfg HDb.out.lk.k.cfg
          obtain ⟨kr, hkr⟩ := lat_self wr
          rw [hkr]
          clear HOi HKi HDi hkr hv3 hlt hi hLl HL
          obtain ⟨w3, hw3⟩ : ∃ w3 : World, w3 = wr := ⟨_, rfl⟩
          subst hw3
          go_wp2_with fail
          have HRel : Hid (∀ b4 : Nat, b4 = 0 → (keysOf val B (-1) (looks S lk x1 x2 x3 x5).t3 = some l3 ∧ tabF S B val data lk bw b4 (looks S lk x1 x2 x3 x5).t3.2.2 = some ([], seen3) ∧ bad3 = bad2) ∨ (bad3 = true ∧ sp = none)) := fun b4 h4 => by
            subst h4
            have h := Hcase3.out
            rw [← Ht3.out] at h
            rcases h with ⟨h1, h2, h3⟩ | ⟨h1, h2⟩
            · exact .inl ⟨h1, by rw [h2]; rfl, h3⟩
            · exact .inr ⟨h2, Hsp.out.symm.trans (lookS_3 h1)⟩
          go_loopw [14, 16, 17, 81] (fun _ _ _ s81 wx => ∃ (j : Nat) (v4 : Value) (tb : List (Int × Int)) (seen : List Bool) (bad : Bool), s81 = .int .i64 j ∧ (j : Int) ≤ B ∧ tb.length ≤ 1024 * j ∧ Hid (LD w w3.heap.size g6 pc D T R H Re Ca S B A n c ws b sb seen bad v0 v1 v2 v3 v4 c0 (t1.1.map fun x => val x.1) (behind val t2.1) wx) ∧ Hid (wx.ownsRow w3.heap.size 106 2 v4 tb.length (tb.flatMap encPair)) ∧ Hid (wx.ownsRow (pc + 1) 3 1 v3 (l3.map val).length ((l3.map val).map (Value.int .i64))) ∧
            Hid ((keysOf val B (-1) (looks S lk x1 x2 x3 x5).t3 = some l3 ∧ tabF S B val data lk bw j (looks S lk x1 x2 x3 x5).t3.2.2 = some (tb, seen) ∧ bad = bad2) ∨ (bad = true ∧ sp = none))) (fun _ _ _ s81 _ => (B - intOf s81).toNat)
          case atStart => exact ⟨0, _, [], seen3, bad3, rfl, by have := HB.out; omega, Nat.zero_le _, HDb.out.ext kr.ok, World.ownsRow_nil _ _ _ _, own_ext HO3.out kr.ok, HRel.out 0 rfl⟩
          case round =>
            obtain ⟨j, v4, tb, seen, bad, rfl, hj, htb, HDj, HOj, HVj, HRj⟩ := hrel
            obtain ⟨d0, d1, d2, d3, d4, d5, d6⟩ := Lat.cfg HDj.out.lk.k.cfg
            have hb0 : ∀ z : Lat wr, z.world.cell? ⟨g6, 0, none⟩ = some (.pointer (some ⟨b, 0, none⟩)) := Lat.cells HDj.out.lk.k.wb rfl
            by_cases hlt : (j : Int) < B
            · obtain ⟨kr, hkr⟩ := lat_self wr
              rw [hkr]
              go_upto_region 22 with fail
              rw [← hkr]
              clear hkr kr
              have hd0 : (wr.drew).cell? ⟨g6, 0, none⟩ = some (.pointer (some ⟨b, 0, none⟩)) := hb0 ⟨_, (Ext.rfl' wr).drew1⟩
              have Hbwj := Lib.hid (Hbw.out b sb seen bad wr.drew (HDj.out.lk.wal.ext (Ext.rfl' wr).drew1) j (by omega) hlt)
              have Hbj := Lib.hid (HbwB.out j (by omega) hlt)
              have Hkeyj := Lib.hid (fun (w5 : World) (e5 : Ext wr.drew w5) => Hkeys.out b sb seen bad (bw j) Hbj.out.1 Hbj.out.2 j w5 (fun bw off e => ⟨(Hws2.out bw off e).1, (Hws2.out bw off e).2.1⟩) (HDj.out.lk.wal.ext (Ext.next (Ext.rfl' wr).drew1 e5)))
              have Hk6 : Hid (∀ w5 w6 : World, Ext wr.drew w5 → Only (fun q => q = sb ∨ q = b) w5 w6 → w6.cell? ⟨g6, 0, none⟩ = some (.pointer (some ⟨b, 0, none⟩))) := fun w5 w6 e5 o6 => cellOf ((o6.block g6 (blk_lt (ext_blk (Ext.next (Ext.rfl' wr).drew1 e5) HDj.out.lk.k.wb)) (by have := HP.out.ps; have := HP.out.pb; omega)).trans (ext_blk (Ext.next (Ext.rfl' wr).drew1 e5) HDj.out.lk.k.wb)) rfl
              generalize hbwj : bw j = xj at *
              go_region_held3 (fun w' => w'.cell? ⟨g6, 0, none⟩ = some (.pointer (some ⟨b, 0, none⟩))) (first | exact hd0 | exact hd5 | exact hd6) (first | ((with_reducible refine Hbwj.out.mono ?_); rintro e w5 ⟨rfl, e5⟩; have hd5 := hb0 ⟨w5, Ext.next (Ext.rfl' wr).drew1 e5⟩) | ((with_reducible refine (Hkeyj.out _ (by exact e5)).mono ?_); rintro e w4 ⟨vk, l4, seen4, bad4, rfl, hown4, hon4, hw4, hrg4, hln4, hcase4⟩; have hd6 := Hk6.out _ _ e5 hon4; obtain ⟨A4, c4, rfl⟩ := own_form hown4))
              have hE5 := Ext.next (Ext.rfl' wr).drew1 e5
              have HD4 : Hid (LD w w3.heap.size g6 pc D T R H Re Ca S B A n c ws b sb seen4 bad4 v0 v1 v2 v3 v4 c0 (t1.1.map fun x => val x.1) (behind val t2.1) w4) := (HDj.out.ext hE5).walk HP.out hon4 hw4
              have hdl := HDj.out.dl
              have hbs := HDj.out.bs
              have hps := HP.out.ps
              have hpb := HP.out.pb
              have hpc := HP.out.pc
              have hs5 := hE5.size
              have HO4 : Hid (w4.ownsRow w3.heap.size 106 2 v4 tb.length (tb.flatMap encPair)) := own_only (own_ext HOj.out hE5) hon4 fun q hq e => by have := HOj.out.lt q hq; omega
              have HV4 : Hid (w4.ownsRow (pc + 1) 3 1 v3 (l3.map val).length ((l3.map val).map (Value.int .i64))) := own_only (own_ext HVj.out hE5) hon4 fun q hq e => by have := HVj.out.lt q hq; omega
              have HK4 : Hid (w4.ownsRow (pc + 1) 3 1 (.slice A4 l4.length c4) l4.length (l4.map (Value.int .i64))) := own_base hown4 (by omega)
              have Hne4 : Hid (∀ q, (Value.slice A4 l4.length c4).ownBlock = some q → v4.ownBlock ≠ some q) := fun q hq h => by
                have h1 := (hown4.lt q hq).1
                have h2 := (HOj.out.lt q h).2
                omega
              have Hcase4 := Lib.hid hcase4
              have Hrg4 := Lib.hid hrg4
              have Hln4 := Lib.hid hln4
              obtain ⟨m4, hm4⟩ : ∃ m4, l4.length = m4 := ⟨_, rfl⟩
              rw [hm4] at HK4 Hne4
              simp only [hm4]
              have Hm4 := Lib.hid hm4
              have hmb4 : m4 ≤ 1024 := by have := HS.out; have := Hln4.out; omega
              clear hown4 hcase4 hrg4 hln4 hm4 hon4 hw4 e5 hE5 hd0 hd5 hd6 hb0 hdl hbs hps hpb hpc hs5 HDj HOj HVj Hbwj Hbj Hkeyj Hk6
              dsimp only [Exit.then, Exit.inBlock]
              go_wp2_with fail
              go_loopw [16, 17, 91] (fun _ _ s91 wx => ∃ (i : Nat) (v4 : Value), s91 = .int .i64 i ∧ i ≤ m4 ∧ Hid (LD w w3.heap.size g6 pc D T R H Re Ca S B A n c ws b sb seen4 bad4 v0 v1 v2 v3 v4 c0 (t1.1.map fun x => val x.1) (behind val t2.1) wx) ∧ Hid (wx.ownsRow w3.heap.size 106 2 v4 (tb ++ (l4.take i).map fun s => (val s, data s)).length ((tb ++ (l4.take i).map fun s => (val s, data s)).flatMap encPair)) ∧ Hid (wx.ownsRow (pc + 1) 3 1 v3 (l3.map val).length ((l3.map val).map (Value.int .i64))) ∧ Hid (wx.ownsRow (pc + 1) 3 1 (.slice A4 m4 c4) m4 (l4.map (Value.int .i64))) ∧ Hid (∀ q, (Value.slice A4 m4 c4).ownBlock = some q → v4.ownBlock ≠ some q)) (fun _ _ s91 _ => m4 - (intOf s91).toNat)
              case atStart => exact ⟨0, _, rfl, Nat.zero_le _, HD4, (by rw [show (tb ++ (l4.take 0).map fun s => (val s, data s)) = tb by simp]; exact HO4), HV4, HK4, Hne4⟩
              case round =>
                clear HD4 HO4 HV4 HK4 Hne4
                obtain ⟨i, v4, rfl, hi, HDi, HOi, HVi, HKi, HNi⟩ := hrel
                obtain ⟨L, hL⟩ : ∃ L, (tb ++ (l4.take i).map fun s => (val s, data s)) = L := ⟨_, rfl⟩
                rw [hL] at HOi
                have HL := Lib.hid hL
                have hLl : L.length ≤ 1024 * j + 1024 := by
                  rw [← hL, List.length_append, List.length_map, List.length_take]
                  omega
                clear hL
                obtain ⟨A2, c2, rfl⟩ := own_form HOi.out
                by_cases hlt2 : i < m4
                · obtain ⟨xs, hx⟩ : ∃ x, l4[i]? = some x := ⟨_, List.getElem?_eq_getElem (by rw [Hm4.out]; exact hlt2)⟩
                  have hxr := Hrg4.out xs (List.mem_of_getElem? hx)
                  have hx0 := hxr.1
                  have hx1 := hxr.2
                  obtain ⟨bk, ok, rfl, hbk, hck⟩ := (Rd.of_own HKi.out).lat (j := i) (u := .int .i64 xs) (by simp [hx])
                  have Hx := Lib.hid hx
                  have z0 : (0 : Int) ≤ (i : Int) := by omega
                  have z1 : (i : Int) < (m4 : Int) := by omega
                  have hb0 : ∀ z : Lat wr, z.world.cell? ⟨g6, 0, none⟩ = some (.pointer (some ⟨b, 0, none⟩)) := Lat.cells HDi.out.lk.k.wb rfl
                  obtain ⟨kr, hkr⟩ := lat_self wr
                  rw [hkr]
                  clear hx hxr hkr
                  go_wp2_with fail
                  refine (Hdata.out b sb seen4 bad4 _ (HDi.out.lk.wal.ext kr.ok) xs hx0 hx1).mono ?_
                  rintro e w5 ⟨rfl, e5⟩
                  obtain ⟨k5, rfl⟩ := lat_next kr e5
                  clear e5
                  go_wp2_with fail
                  refine (wordValue_any _ _).mono ?_
                  rintro e w5 ⟨rfl, rfl⟩
                  rw [HDt.out]
                  go_upto_region 26 with fail
                  have HDq := Lib.hid (HDi.out.ext k5.ok)
                  have HOq : Hid (k5.world.ownsRow w3.heap.size 106 2 (.slice A2 L.length c2) L.length (L.flatMap encPair)) := own_ext HOi.out k5.ok
                  have HVq : Hid (k5.world.ownsRow (pc + 1) 3 1 v3 (l3.map val).length ((l3.map val).map (Value.int .i64))) := own_ext HVi.out k5.ok
                  have HKq : Hid (k5.world.ownsRow (pc + 1) 3 1 (.slice (some ⟨bk, ok, none⟩) m4 c4) m4 (l4.map (Value.int .i64))) := own_ext HKi.out k5.ok
                  generalize k5.world = wq at *
                  clear HDi HOi HVi HKi k5 kr hck hb0
                  have hs6 := HDq.out.bs
                  have hdl := HDq.out.dl
                  have hne1 : pc ≠ g6 := by have := HP.out.pc; omega
                  have hr0 : wq.drew.cell? ⟨g6, 0, none⟩ = some (.pointer (some ⟨b, 0, none⟩)) := cellOf HDq.out.lk.k.wb rfl
                  have hr3 : wq.cell? ⟨pc, 4, none⟩ = some (.slice A2 L.length c2) := cellOf HDq.out.lk.k.cont rfl
                  have hbytes : (L.length + 1) * 16 ≤ 140737488355328 := by have := HB.out; omega
                  have Hval := Lib.hid (Hv.out b sb seen4 bad4 wq.drew (HDq.out.lk.wal.ext (Ext.rfl' wq).drew1) xs hx0 hx1)
                  have Hstp : Hid (∀ w5 : World, Ext wq.drew w5 → w5.cell? ⟨g6, 0, none⟩ = some (.pointer (some ⟨b, 0, none⟩)) ∧ w5.cell? ⟨pc, 4, none⟩ = some (.slice A2 L.length c2) ∧ (w5.alloc (.cells #[.int .i64 (val xs), .int .i64 (data xs)] 106)).cell? ⟨g6, 0, none⟩ = some (.pointer (some ⟨b, 0, none⟩)) ∧ (w5.alloc (.cells #[.int .i64 (val xs), .int .i64 (data xs)] 106)).cell? ⟨pc, 4, none⟩ = some (.slice A2 L.length c2)) := fun w5 e5 => by
                    have h := HDq.out.ext (Ext.next (Ext.rfl' wq).drew1 e5)
                    have h2 := h.ext ((Ext.rfl' w5).alloc1 (.cells #[.int .i64 (val xs), .int .i64 (data xs)] 106))
                    exact ⟨cellOf h.lk.k.wb rfl, cellOf h.lk.k.cont rfl, cellOf h2.lk.k.wb rfl, cellOf h2.lk.k.cont rfl⟩
                  have Happ : Hid (∀ w5 w7 : World, Ext wq.drew w5 → (w5.alloc (.cells #[.int .i64 (val xs), .int .i64 (data xs)] 106)).grownBy w7 (Value.slice A2 L.length c2).ownBlock → Only (fun q => (Value.slice A2 L.length c2).ownBlock = some q) wq w7) := fun w5 w7 e5 hg => by
                    have hE := Ext.next (Ext.rfl' wq).drew1 e5
                    have hg7 := (Only.of_grown hg).mono (S' := fun q => (Value.slice A2 L.length c2).ownBlock = some q) fun q _ hq => hq.symm
                    exact ((Only.of_ext (S := fun q => (Value.slice A2 L.length c2).ownBlock = some q) hE).trans (Only.of_ext (S := fun q => (Value.slice A2 L.length c2).ownBlock = some q) ((Ext.rfl' w5).alloc1 _)) fun _ _ h => h).trans hg7 fun _ _ h => h
                  refine wp_region_noPanic (wp_region_held_drew (S := fun w' : World => w'.cell? ⟨g6, 0, none⟩ = some (.pointer (some ⟨b, 0, none⟩))) (by kernel_rfl) hr0 (fun hHeld => ?_))
                  refine wpAnyH_take (i := 0) (v := ?_) rfl (by kernel_rfl) (by kernel_rfl) (by kernel_rfl) (fun _ _ _ h => h) (Or.inl ⟨by rfl, ?hy13⟩) (by assumption) ?rest13
                  case hy13 => (intro w hSw; (try dsimp only at hSw); go_simp; try with_reducible rfl)
                  refine wpAnyH_take (i := 2) (v := ?_) rfl (by kernel_rfl) (by kernel_rfl) (by kernel_rfl) (fun _ _ _ h => h) (Or.inl ⟨by rfl, ?hy14⟩) (by assumption) ?rest14
                  case hy14 => (intro w hSw; (try dsimp only at hSw); go_simp; try with_reducible rfl)
                  refine wpAnyH_take (i := 3) (v := ?_) rfl (by kernel_rfl) (by kernel_rfl) (by kernel_rfl) (fun _ _ _ h => h) (Or.inl ⟨by rfl, ?hy15⟩) (by assumption) ?rest15
                  case hy15 => (intro w hSw; (try dsimp only at hSw); go_simp; try with_reducible rfl)
                  refine wpAnyH_take (i := 5) (v := ?_) rfl (by kernel_rfl) (by kernel_rfl) (by kernel_rfl) (fun _ _ _ h => h) (Or.inl ⟨by rfl, ?hy16⟩) (by assumption) ?rest16
                  case hy16 => (intro w hSw; (try dsimp only at hSw); go_simp; try with_reducible rfl)
                  refine wpAnyH_ready (rs := [1, 4]) (by kernel_rfl) (by simp) ?_
                  refine AllReadyH.cons rfl (fun K hK => ?_) ?_
                  · go_simp
                    refine hK.out _ _ hr0 (fun hHeld => ?_)
                    clear hK K
                    refine wpAnyH_ready (rs := [4]) (by kernel_rfl) (by simp) ?_
                    refine AllReadyH.cons rfl (fun K hK => ?_) ?_
                    · go_simp
                      (with_reducible refine Hval.out.mono ?_)
                      rintro e w5 ⟨rfl, e5⟩
                      obtain ⟨hq5, hqc, hqA, hqB⟩ := Hstp.out w5 e5
                      refine hK.out _ _ hq5 (fun hHeld => ?_)
                      clear hK K
                      refine wpAnyH_take (i := 6) (v := ?_) rfl (by kernel_rfl) (by kernel_rfl) (by kernel_rfl) (fun _ _ _ h => h) (Or.inl ⟨by rfl, ?hy17⟩) (by assumption) ?rest17
                      case hy17 => (intro w hSw; (try dsimp only at hSw); go_simp; try with_reducible rfl)
                      refine wpAnyH_ready (rs := [7]) (by kernel_rfl) (by simp) ?_
                      refine AllReadyH.cons rfl (fun K hK => ?_) ?_
                      · go_simp
                        refine hK.out _ _ hqA (fun hHeld => ?_)
                        clear hK K
                        refine wpAnyH_ready (rs := [8]) (by kernel_rfl) (by simp) ?_
                        refine AllReadyH.cons rfl (fun K hK => ?_) ?_
                        · refine step_appendR _ rfl (.tmp 100) (.tmp 106) 36 rfl w3.heap.size 106 2 16 elemPair Try.underlying36 (.slice A2 L.length c2) L.length _ (by simp [Act.eval]) ((own_ext HOq.out (Ext.next (Ext.rfl' wq).drew1 e5)).alloc _) (some ⟨w5.heap.size, 0, none⟩) 1 1 [.int .i64 (val xs), .int .i64 (data xs)] (by simp [Act.eval]) rfl (Rd.made w5 [.int .i64 (val xs), .int .i64 (data xs)] 106) (by simp [Value.oneCell']) hbytes (by have := e5.size; simp at this ⊢; omega) ?_
                          intro v7 w7 hown7 hgrow7 hat7
                          have h7w := Happ.out w5 w7 e5 hgrow7
                          have hL7 := HDq.out.far HP.out h7w (fun q hq => (HOq.out.lt q hq).1)
                          have hq7 := cellOf (i := 0) hL7.lk.k.wb rfl
                          have hq72 := cellOf (i := 4) hL7.lk.k.cont rfl
                          have hq73 := freeOf hL7.lk.k.cont 4
                          obtain ⟨A7, c7, rfl⟩ := own_form hown7
                          refine hK.out _ _ hq7 (fun hHeld => ?_)
                          clear hK K
                          refine wpAnyH_take (i := 9) (v := ?_) rfl (by kernel_rfl) (by kernel_rfl) (by kernel_rfl) (fun _ _ _ h => h) (Or.inl ⟨by rfl, ?hy18⟩) (by assumption) ?rest18
                          case hy18 => (intro w hSw; (try dsimp only at hSw); go_simp; try with_reducible rfl)
                          refine wpAnyH_ready (rs := [10]) (by kernel_rfl) (by simp) ?_
                          refine AllReadyH.cons rfl (fun K hK => ?_) ?_
                          · go_simp
                            refine hK.out _ _ ((World.cell?_setCell_far _ _ _ _ hne1).trans hq7) (fun hHeld => ?_)
                            clear hK K
                            refine wpAnyH_done (by kernel_rfl) (NoPanic.normal ?_) _
                            obtain ⟨hput, hOs⟩ := hL7.lk.put 4 (.slice A7 (L.length + 1) c7)
                            have hL8 : LD w w3.heap.size g6 pc D T R H Re Ca S B A n c ws b sb seen4 bad4 v0 v1 v2 v3 (.slice A7 (L.length + 1) c7) c0 (t1.1.map fun x => val x.1) (behind val t2.1) (w7.setCell ⟨pc, 4, none⟩ (.slice A7 (L.length + 1) c7)) := hL7.putBy HP.out hOs hput
                            have hov := own_only hown7 hOs fun q hq h => by have := hown7.lt q hq; omega
                            have h8 : Only (fun q => (Value.slice A2 L.length c2).ownBlock = some q ∨ q = pc) wq (w7.setCell ⟨pc, 4, none⟩ (.slice A7 (L.length + 1) c7)) := (h7w.mono fun _ _ h => Or.inl h).trans hOs fun _ _ h => Or.inr h
                            have hok := own_only HKq.out h8 fun q hq h => by
                              have h1 := HKq.out.lt q hq
                              rcases h with h | h
                              · exact HNi.out q hq h
                              · omega
                            have hok3 := own_only HVq.out h8 fun q hq h => by
                              have h1 := HVq.out.lt q hq
                              have h2 := Hlt3.out q hq
                              rcases h with h | h
                              · have := HOq.out.lt q h; omega
                              · omega
                            have hno : ∀ q, (Value.slice (some ⟨bk, ok, none⟩) m4 c4).ownBlock = some q → (Value.slice A7 (L.length + 1) c7).ownBlock ≠ some q := fun q hq h => by
                              have h1 := HKq.out.lt q hq
                              have h2 := e5.size
                              simp at h2
                              rcases hat7 with h3 | h3
                              · exact HNi.out q hq (h3.symm.trans h)
                              · rw [h3] at h
                                have h4 := Option.some.inj h
                                simp at h4
                                omega
                            have htk : (tb ++ (l4.take (i + 1)).map fun s => (val s, data s)) = L ++ [(val xs, data xs)] := by
                              rw [List.take_add_one, Hx.out, ← HL.out]
                              simp
                            have hov2 : (w7.setCell ⟨pc, 4, none⟩ (.slice A7 (L.length + 1) c7)).ownsRow w3.heap.size 106 2 (.slice A7 (L.length + 1) c7) (L ++ [(val xs, data xs)]).length ((L ++ [(val xs, data xs)]).flatMap encPair) := by
                              simpa [encPair] using hov
                            dsimp only [Exit.inBlock, Exit.then]
                            go_wp2_with fail
                            go_roundw
                            case rel => exact ⟨i + 1, (.slice A7 (L.length + 1) c7), by go_num, by omega, hL8, by rw [htk]; exact hov2, hok3, hok, hno⟩
                            case measure => simp [intOf]; omega
                          · exact AllReadyH.nil
                        · exact AllReadyH.nil
                      · exact AllReadyH.nil
                    · exact AllReadyH.nil
                  refine AllReadyH.cons rfl (fun K hK => ?_) ?_
                  · go_simp
                    (with_reducible refine Hval.out.mono ?_)
                    rintro e w5 ⟨rfl, e5⟩
                    obtain ⟨hq5, hqc, hqA, hqB⟩ := Hstp.out w5 e5
                    refine hK.out _ _ hq5 (fun hHeld => ?_)
                    clear hK K
                    refine wpAnyH_take (i := 6) (v := ?_) rfl (by kernel_rfl) (by kernel_rfl) (by kernel_rfl) (fun _ _ _ h => h) (Or.inl ⟨by rfl, ?hy19⟩) (by assumption) ?rest19
                    case hy19 => (intro w hSw; (try dsimp only at hSw); go_simp; try with_reducible rfl)
                    refine wpAnyH_ready (rs := [1, 7]) (by kernel_rfl) (by simp) ?_
                    refine AllReadyH.cons rfl (fun K hK => ?_) ?_
                    · go_simp
                      refine hK.out _ _ hq5 (fun hHeld => ?_)
                      clear hK K
                      refine wpAnyH_ready (rs := [7]) (by kernel_rfl) (by simp) ?_
                      refine AllReadyH.cons rfl (fun K hK => ?_) ?_
                      · go_simp
                        refine hK.out _ _ hqA (fun hHeld => ?_)
                        clear hK K
                        refine wpAnyH_ready (rs := [8]) (by kernel_rfl) (by simp) ?_
                        refine AllReadyH.cons rfl (fun K hK => ?_) ?_
                        · refine step_appendR _ rfl (.tmp 100) (.tmp 106) 36 rfl w3.heap.size 106 2 16 elemPair Try.underlying36 (.slice A2 L.length c2) L.length _ (by simp [Act.eval]) ((own_ext HOq.out (Ext.next (Ext.rfl' wq).drew1 e5)).alloc _) (some ⟨w5.heap.size, 0, none⟩) 1 1 [.int .i64 (val xs), .int .i64 (data xs)] (by simp [Act.eval]) rfl (Rd.made w5 [.int .i64 (val xs), .int .i64 (data xs)] 106) (by simp [Value.oneCell']) hbytes (by have := e5.size; simp at this ⊢; omega) ?_
                          intro v7 w7 hown7 hgrow7 hat7
                          have h7w := Happ.out w5 w7 e5 hgrow7
                          have hL7 := HDq.out.far HP.out h7w (fun q hq => (HOq.out.lt q hq).1)
                          have hq7 := cellOf (i := 0) hL7.lk.k.wb rfl
                          have hq72 := cellOf (i := 4) hL7.lk.k.cont rfl
                          have hq73 := freeOf hL7.lk.k.cont 4
                          obtain ⟨A7, c7, rfl⟩ := own_form hown7
                          refine hK.out _ _ hq7 (fun hHeld => ?_)
                          clear hK K
                          refine wpAnyH_take (i := 9) (v := ?_) rfl (by kernel_rfl) (by kernel_rfl) (by kernel_rfl) (fun _ _ _ h => h) (Or.inl ⟨by rfl, ?hy20⟩) (by assumption) ?rest20
                          case hy20 => (intro w hSw; (try dsimp only at hSw); go_simp; try with_reducible rfl)
                          refine wpAnyH_ready (rs := [10]) (by kernel_rfl) (by simp) ?_
                          refine AllReadyH.cons rfl (fun K hK => ?_) ?_
                          · go_simp
                            refine hK.out _ _ ((World.cell?_setCell_far _ _ _ _ hne1).trans hq7) (fun hHeld => ?_)
                            clear hK K
                            refine wpAnyH_done (by kernel_rfl) (NoPanic.normal ?_) _
                            obtain ⟨hput, hOs⟩ := hL7.lk.put 4 (.slice A7 (L.length + 1) c7)
                            have hL8 : LD w w3.heap.size g6 pc D T R H Re Ca S B A n c ws b sb seen4 bad4 v0 v1 v2 v3 (.slice A7 (L.length + 1) c7) c0 (t1.1.map fun x => val x.1) (behind val t2.1) (w7.setCell ⟨pc, 4, none⟩ (.slice A7 (L.length + 1) c7)) := hL7.putBy HP.out hOs hput
                            have hov := own_only hown7 hOs fun q hq h => by have := hown7.lt q hq; omega
                            have h8 : Only (fun q => (Value.slice A2 L.length c2).ownBlock = some q ∨ q = pc) wq (w7.setCell ⟨pc, 4, none⟩ (.slice A7 (L.length + 1) c7)) := (h7w.mono fun _ _ h => Or.inl h).trans hOs fun _ _ h => Or.inr h
                            have hok := own_only HKq.out h8 fun q hq h => by
                              have h1 := HKq.out.lt q hq
                              rcases h with h | h
                              · exact HNi.out q hq h
                              · omega
                            have hok3 := own_only HVq.out h8 fun q hq h => by
                              have h1 := HVq.out.lt q hq
                              have h2 := Hlt3.out q hq
                              rcases h with h | h
                              · have := HOq.out.lt q h; omega
                              · omega
                            have hno : ∀ q, (Value.slice (some ⟨bk, ok, none⟩) m4 c4).ownBlock = some q → (Value.slice A7 (L.length + 1) c7).ownBlock ≠ some q := fun q hq h => by
                              have h1 := HKq.out.lt q hq
                              have h2 := e5.size
                              simp at h2
                              rcases hat7 with h3 | h3
                              · exact HNi.out q hq (h3.symm.trans h)
                              · rw [h3] at h
                                have h4 := Option.some.inj h
                                simp at h4
                                omega
                            have htk : (tb ++ (l4.take (i + 1)).map fun s => (val s, data s)) = L ++ [(val xs, data xs)] := by
                              rw [List.take_add_one, Hx.out, ← HL.out]
                              simp
                            have hov2 : (w7.setCell ⟨pc, 4, none⟩ (.slice A7 (L.length + 1) c7)).ownsRow w3.heap.size 106 2 (.slice A7 (L.length + 1) c7) (L ++ [(val xs, data xs)]).length ((L ++ [(val xs, data xs)]).flatMap encPair) := by
                              simpa [encPair] using hov
                            dsimp only [Exit.inBlock, Exit.then]
                            go_wp2_with fail
                            go_roundw
                            case rel => exact ⟨i + 1, (.slice A7 (L.length + 1) c7), by go_num, by omega, hL8, by rw [htk]; exact hov2, hok3, hok, hno⟩
                            case measure => simp [intOf]; omega
                          · exact AllReadyH.nil
                        · exact AllReadyH.nil
                      · exact AllReadyH.nil
                    refine AllReadyH.cons rfl (fun K hK => ?_) ?_
                    · go_simp
                      refine hK.out _ _ hqA (fun hHeld => ?_)
                      clear hK K
                      refine wpAnyH_ready (rs := [1]) (by kernel_rfl) (by simp) ?_
                      refine AllReadyH.cons rfl (fun K hK => ?_) ?_
                      · go_simp
                        refine hK.out _ _ hHeld (fun hHeld => ?_)
                        clear hK K
                        refine wpAnyH_ready (rs := [8]) (by kernel_rfl) (by simp) ?_
                        refine AllReadyH.cons rfl (fun K hK => ?_) ?_
                        · refine step_appendR _ rfl (.tmp 100) (.tmp 106) 36 rfl w3.heap.size 106 2 16 elemPair Try.underlying36 (.slice A2 L.length c2) L.length _ (by simp [Act.eval]) ((own_ext HOq.out (Ext.next (Ext.rfl' wq).drew1 e5)).alloc _) (some ⟨w5.heap.size, 0, none⟩) 1 1 [.int .i64 (val xs), .int .i64 (data xs)] (by simp [Act.eval]) rfl (Rd.made w5 [.int .i64 (val xs), .int .i64 (data xs)] 106) (by simp [Value.oneCell']) hbytes (by have := e5.size; simp at this ⊢; omega) ?_
                          intro v7 w7 hown7 hgrow7 hat7
                          have h7w := Happ.out w5 w7 e5 hgrow7
                          have hL7 := HDq.out.far HP.out h7w (fun q hq => (HOq.out.lt q hq).1)
                          have hq7 := cellOf (i := 0) hL7.lk.k.wb rfl
                          have hq72 := cellOf (i := 4) hL7.lk.k.cont rfl
                          have hq73 := freeOf hL7.lk.k.cont 4
                          obtain ⟨A7, c7, rfl⟩ := own_form hown7
                          refine hK.out _ _ hq7 (fun hHeld => ?_)
                          clear hK K
                          refine wpAnyH_take (i := 9) (v := ?_) rfl (by kernel_rfl) (by kernel_rfl) (by kernel_rfl) (fun _ _ _ h => h) (Or.inl ⟨by rfl, ?hy21⟩) (by assumption) ?rest21
                          case hy21 => (intro w hSw; (try dsimp only at hSw); go_simp; try with_reducible rfl)
                          refine wpAnyH_ready (rs := [10]) (by kernel_rfl) (by simp) ?_
                          refine AllReadyH.cons rfl (fun K hK => ?_) ?_
                          · go_simp
                            refine hK.out _ _ ((World.cell?_setCell_far _ _ _ _ hne1).trans hq7) (fun hHeld => ?_)
                            clear hK K
                            refine wpAnyH_done (by kernel_rfl) (NoPanic.normal ?_) _
                            obtain ⟨hput, hOs⟩ := hL7.lk.put 4 (.slice A7 (L.length + 1) c7)
                            have hL8 : LD w w3.heap.size g6 pc D T R H Re Ca S B A n c ws b sb seen4 bad4 v0 v1 v2 v3 (.slice A7 (L.length + 1) c7) c0 (t1.1.map fun x => val x.1) (behind val t2.1) (w7.setCell ⟨pc, 4, none⟩ (.slice A7 (L.length + 1) c7)) := hL7.putBy HP.out hOs hput
                            have hov := own_only hown7 hOs fun q hq h => by have := hown7.lt q hq; omega
                            have h8 : Only (fun q => (Value.slice A2 L.length c2).ownBlock = some q ∨ q = pc) wq (w7.setCell ⟨pc, 4, none⟩ (.slice A7 (L.length + 1) c7)) := (h7w.mono fun _ _ h => Or.inl h).trans hOs fun _ _ h => Or.inr h
                            have hok := own_only HKq.out h8 fun q hq h => by
                              have h1 := HKq.out.lt q hq
                              rcases h with h | h
                              · exact HNi.out q hq h
                              · omega
                            have hok3 := own_only HVq.out h8 fun q hq h => by
                              have h1 := HVq.out.lt q hq
                              have h2 := Hlt3.out q hq
                              rcases h with h | h
                              · have := HOq.out.lt q h; omega
                              · omega
                            have hno : ∀ q, (Value.slice (some ⟨bk, ok, none⟩) m4 c4).ownBlock = some q → (Value.slice A7 (L.length + 1) c7).ownBlock ≠ some q := fun q hq h => by
                              have h1 := HKq.out.lt q hq
                              have h2 := e5.size
                              simp at h2
                              rcases hat7 with h3 | h3
                              · exact HNi.out q hq (h3.symm.trans h)
                              · rw [h3] at h
                                have h4 := Option.some.inj h
                                simp at h4
                                omega
                            have htk : (tb ++ (l4.take (i + 1)).map fun s => (val s, data s)) = L ++ [(val xs, data xs)] := by
                              rw [List.take_add_one, Hx.out, ← HL.out]
                              simp
                            have hov2 : (w7.setCell ⟨pc, 4, none⟩ (.slice A7 (L.length + 1) c7)).ownsRow w3.heap.size 106 2 (.slice A7 (L.length + 1) c7) (L ++ [(val xs, data xs)]).length ((L ++ [(val xs, data xs)]).flatMap encPair) := by
                              simpa [encPair] using hov
                            dsimp only [Exit.inBlock, Exit.then]
                            go_wp2_with fail
                            go_roundw
                            case rel => exact ⟨i + 1, (.slice A7 (L.length + 1) c7), by go_num, by omega, hL8, by rw [htk]; exact hov2, hok3, hok, hno⟩
                            case measure => simp [intOf]; omega
                          · exact AllReadyH.nil
                        · exact AllReadyH.nil
                      · exact AllReadyH.nil
                    · exact AllReadyH.nil
                  · exact AllReadyH.nil
                · obtain rfl : m4 = i := by omega
                  have hLs : L = tb ++ l4.map fun s => (val s, data s) := by rw [← HL.out, List.take_of_length_le (by rw [Hm4.out]; exact Nat.le_refl _)]
                  have hLn : L.length = tb.length + m4 := by rw [hLs, List.length_append, List.length_map, Hm4.out]
                  have HRn : Hid ((keysOf val B (-1) (looks S lk x1 x2 x3 x5).t3 = some l3 ∧ tabF S B val data lk bw (j + 1) (looks S lk x1 x2 x3 x5).t3.2.2 = some (L, seen4) ∧ bad4 = bad2) ∨ (bad4 = true ∧ sp = none)) := by
                    show _ ∨ _
                    rcases HRj.out with ⟨g1, g2, g3⟩ | ⟨g1, g2⟩
                    · have g4 := tabF_succ g2
                      simp only [hbwj] at g4
                      rcases Hcase4.out with ⟨h1, h2, h3⟩ | ⟨h1, h2⟩
                      · rw [h1] at g4
                        exact .inl ⟨g1, by rw [g4, hLs, h2], by rw [h3, g3]⟩
                      · rw [h1] at g4
                        exact .inr ⟨h2, Hsp.out.symm.trans (lookS_4 g1 (by omega) g4)⟩
                    · rcases Hcase4.out with ⟨h1, h2, h3⟩ | ⟨h1, h2⟩
                      · exact .inr ⟨by rw [h3, g1], g2⟩
                      · exact .inr ⟨h2, g2⟩
                  clear HRj hLs
                  go_wp2_with fail
                  go_roundw
                  case rel => exact ⟨j + 1, _, L, seen4, bad4, by go_num, by omega, by omega, HDi, HOi, HVi, HRn⟩
                  case measure => simp [intOf]; omega
            · obtain ⟨kr, hkr⟩ := lat_self wr
              rw [hkr]
              go_upto_region 29 with fail
              have hBj : j = B.toNat := by omega
              cases bad with
              | true =>
                obtain rfl : sp = none := by
                  rcases HRj.out with ⟨g1, g2, g3⟩ | ⟨g1, g2⟩
                  · exact Hsp.out.symm.trans (lookS_2 (Hbad2.out.trans g3.symm))
                  · exact g2
                have b9 : ∀ z : Lat wr, z.world.cell? ⟨b, 9, none⟩ = some (.bool true) := Lat.cells HDj.out.lk.wal.blk rfl
                have hRes : ∀ z : Lat wr, z.world.heap[w.heap.size + 1]? = some (.cells #[.slice none 0 0, .slice none 0 0, .slice none 0 0, .slice none 0 0, .slice none 0 0] 38 (0, 0)) := fun z => ext_blk z.ok HDj.out.lk.k.res
                clear HRj
                go_wp2_with (show wpList _ _ _ ({ dst := _, op := Op.store 38 (Operand.tmp 4) (Operand.tmp 115), type := _, pos := _, after := _, guard := _ } :: _) _ _; refine wpList_store_row rfl _ _ _ rfl (w.heap.size + 1) #[.slice none 0 0, .slice none 0 0, .slice none 0 0, .slice none 0 0, .slice none 0 0] (by kernel_rfl) (by kernel_rfl) _ _ (hRes _) (by kernel_rfl) (by kernel_rfl) (by kernel_rfl) ?_)
                have hZ := HDj.out.ext kr.ok
                have hpc := HP.out.p6
                have hp2 := HP.out.pc
                obtain ⟨f1, f2, f3, _⟩ := fin_world (cs := #[.slice none 0 0, .slice none 0 0, .slice none 0 0, .slice none 0 0, .slice none 0 0]) hZ.lk.k.res hZ.dd (by have := hZ.dl; omega) hZ.lk.k.on
                refine ⟨by simp, .inl ⟨_, _, rfl, run_takeDeferred f1, ?_⟩⟩
                refine ⟨_, results_cell_tmp rfl _ _ (w.heap.size + 1) rfl _ (run_loadVar_row _ _ _ _ _ _ _ f2 Try.underlying38 rfl (by kernel_rfl)), ?_⟩
                exact cont_none _ _ f3
              | false =>
                have b9 : ∀ z : Lat wr, z.world.cell? ⟨b, 9, none⟩ = some (.bool false) := Lat.cells HDj.out.lk.wal.blk rfl
                have b4 : ∀ z : Lat wr, z.world.cell? ⟨pc, 4, none⟩ = some v4 := Lat.cells HDj.out.lk.k.cont rfl
                rcases HRj.out with ⟨g1, g2, g3⟩ | ⟨g1, g2⟩
                · have Hg1 := Lib.hid g1
                  have Hg2 := Lib.hid g2
                  have Hg3 := Lib.hid g3
                  have Htl : Hid (tb.length < 4611686018427387904) := by
                    have := HB.out
                    show _ < _
                    omega
                  have hOz : ∀ z : Lat wr, z.world.ownsRow w3.heap.size 106 2 v4 tb.length (tb.flatMap encPair) := fun z => own_ext HOj.out z.ok
                  have Hstep : Hid (∀ (z : Lat wr) (w7 : World), Only (fun q => v4.ownBlock = some q) z.world w7 → LD w w3.heap.size g6 pc D T R H Re Ca S B A n c ws b sb seen false v0 v1 v2 v3 v4 c0 (t1.1.map fun x => val x.1) (behind val t2.1) w7 ∧ w7.ownsRow (pc + 1) 3 1 v3 (l3.map val).length ((l3.map val).map (Value.int .i64))) := fun z w7 o =>
                    ⟨(HDj.out.ext z.ok).far HP.out o (fun q hq => (HOj.out.lt q hq).1), own_only (own_ext HVj.out z.ok) o fun q hq h => by
                      have h1 := (HOj.out.lt q h).1
                      have h2 := Hlt3.out q hq
                      omega⟩
                  clear HRj g1 g2 g3
                  go_wp2_with fail
                  refine (sortP_own w3.heap.size v4 tb _ (hOz _) Htl.out (tabF_keys _ _ Hg2.out).1).mono ?_
                  rintro e w7 ⟨rfl, hown7, hon7⟩
                  obtain ⟨hL7, hV7⟩ := Hstep.out _ w7 hon7
                  have HL7 := Lib.hid hL7
                  have HV7 := Lib.hid hV7
                  have HT7 := Lib.hid hown7
                  clear hL7 hV7 hown7 hon7 Hstep hOz HDj HOj HVj b4 b9 hb0 d0 d1 d2 d3 d4 d5 d6 Hlt3
                  have c0 : ∀ z : Lat w7, z.world.cell? ⟨pc, 0, none⟩ = some v0 := Lat.cells HL7.out.lk.k.cont rfl
                  have c1 : ∀ z : Lat w7, z.world.cell? ⟨pc, 1, none⟩ = some v1 := Lat.cells HL7.out.lk.k.cont rfl
                  have c2 : ∀ z : Lat w7, z.world.cell? ⟨pc, 2, none⟩ = some v2 := Lat.cells HL7.out.lk.k.cont rfl
                  have c3 : ∀ z : Lat w7, z.world.cell? ⟨pc, 3, none⟩ = some v3 := Lat.cells HL7.out.lk.k.cont rfl
                  have c4 : ∀ z : Lat w7, z.world.cell? ⟨pc, 4, none⟩ = some v4 := Lat.cells HL7.out.lk.k.cont rfl
                  have hRes : ∀ z : Lat w7, z.world.heap[w.heap.size + 1]? = some (.cells #[.slice none 0 0, .slice none 0 0, .slice none 0 0, .slice none 0 0, .slice none 0 0] 38 (0, 0)) := fun z => ext_blk z.ok HL7.out.lk.k.res
                  have hone : (contV v0 v1 v2 v3 v4).all (·.oneCell') = true := by
                    have h0 := own_one HL7.out.o0
                    have h1 := own_one HL7.out.o1
                    have h2 := own_one HL7.out.o2
                    have h3 := own_one HV7.out
                    have h4 := own_one HT7.out
                    simp [contV, h0, h1, h2, h3, h4]
                  obtain ⟨k7, hk7⟩ := lat_self w7
                  rw [hk7]
                  clear hk7
                  go_wp2_with (show wpList _ _ _ ({ dst := _, op := Op.store 38 (Operand.tmp 4) (Operand.tmp 119), type := _, pos := _, after := _, guard := _ } :: _) _ _; refine wpList_store_row rfl _ _ _ rfl (w.heap.size + 1) (contV v0 v1 v2 v3 v4) (by kernel_rfl) (by kernel_rfl) _ _ (hRes _) (by kernel_rfl) (by kernel_rfl) hone ?_)
                  have hZ := HL7.out.ext k7.ok
                  have hpc := HP.out.p6
                  have hp2 := HP.out.pc
                  have hdl := hZ.dl
                  obtain ⟨f1, f2, f3, f4⟩ := fin_world (cs := contV v0 v1 v2 v3 v4) hZ.lk.k.res hZ.dd (by omega) hZ.lk.k.on
                  refine ⟨by simp, .inl ⟨_, _, rfl, run_takeDeferred f1, ?_⟩⟩
                  refine ⟨_, results_cell_tmp rfl _ _ (w.heap.size + 1) rfl _ (run_loadVar_row _ _ _ _ _ _ _ f2 Try.underlying38 rfl (by kernel_rfl)), ?_⟩
                  have hcq : (looks S lk x1 x2 x3 x5).c.2.1 = true := by rw [Hq'.out]
                  have hok := lookS_ok (data := data) (x4 := x4) hcq (Hbad2.out.trans Hg3.out.symm) Hg1.out (by rw [← hBj]; exact Hg2.out)
                  rw [Hsp.out, Ht1.out, Ht2.out, Hq'.out, Hc0.out] at hok
                  rw [hok]
                  exact ⟨v0, v1, v2, v3, v4, rfl, f4 _ _ _ _ _ _ (by omega) hZ.o0, f4 _ _ _ _ _ _ (by omega) hZ.o1, f4 _ _ _ _ _ _ (by omega) hZ.o2, f4 _ _ _ _ _ _ (by omega) (own_ext HV7.out k7.ok), f4 _ _ _ _ _ _ (by omega) (own_ext HT7.out k7.ok), f3⟩
                · cases g1
end Go.Proofs.Ytfbacopjookplaa
