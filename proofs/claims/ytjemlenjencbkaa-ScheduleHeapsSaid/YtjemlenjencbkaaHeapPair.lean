/- A heap of the program's beside one of the document's: what one act does to both, and that they answer alike. -/
import Derived.Test.YtjemlenjencbkaaHeapNII
import Derived.Test.YtjemlenjencbkaaHeapRef
namespace Go.Proofs.Ytjemlenjencbkaa
open Go.RowKit

theorem blk_ne {w : World} {b b' : Nat} {cs cs' : Array Value} {t t' : TypeId} (h : w.heap[b]? = some (.cells cs t (0, 0))) (h' : w.heap[b']? = some (.cells cs' t' (0, 0))) (hne : t ≠ t') : b ≠ b' := by
  rintro rfl
  rw [h] at h'
  injection h' with h'
  injection h' with _ ht
  exact hne ht

theorem own_own {w : World} {B B' n n' size size' : Nat} {e e' : TypeId} {v v' : Value} {us us' : List Value} (h : w.ownsRow B e size v n us) (h' : w.ownsRow B' e' size' v' n' us') (hne : e ≠ e') (k : Nat) (hk : v.ownBlock = some k) : v'.ownBlock ≠ some k := by
  intro hk'
  rcases h.2 with ⟨rfl, _⟩ | ⟨g, cap, cur, rfl, _, hg, _⟩
  · cases hk
  · injection hk with hk
    subst hk
    exact own_apart h' hg (fun e => hne e.symm) hk'

/-- The footprint of a pair of heaps. -/
def foot (H D : Nat) (v r : Value) (k : Nat) : Prop := k = H ∨ k = D ∨ v.ownBlock = some k ∨ r.ownBlock = some k

def pairOf (y : Nd Int Int) : Int × Int := (y.1, y.2.1)

structure HPair (w : World) (B H D : Nat) (v r : Value) (ys : List (Nd Int Int)) (T : Int) : Prop where
  l : ∃ l, HII w B H v l T ∧ HIs l ys T
  r : RObj w B D r (ys.map pairOf)

theorem HPair.only {w w' : World} {S : Nat → Prop} {B H D : Nat} {v r : Value} {ys : List (Nd Int Int)} {T : Int} (h : HPair w B H D v r ys T) (o : Only S w w') (hs : ∀ k, foot H D v r k → ¬ S k) : HPair w' B H D v r ys T := by
  obtain ⟨⟨l, h1, h2⟩, h3⟩ := h
  exact ⟨⟨l, h1.only o (hs _ (.inl rfl)) (fun k hk => hs k (.inr (.inr (.inl hk)))), h2⟩, h3.only o (hs _ (.inr (.inl rfl))) (fun k hk => hs k (.inr (.inr (.inr hk))))⟩
theorem HPair.ext {w w' : World} {B H D : Nat} {v r : Value} {ys : List (Nd Int Int)} {T : Int} (h : HPair w B H D v r ys T) (e : Ext w w') : HPair w' B H D v r ys T := h.only (Only.of_ext (S := fun _ => False) e) (fun _ _ x => x)
theorem HPair.lt {w : World} {B H D : Nat} {v r : Value} {ys : List (Nd Int Int)} {T : Int} (h : HPair w B H D v r ys T) : ∀ k, foot H D v r k → k < w.heap.size := by
  obtain ⟨⟨l, h1, h2⟩, h3⟩ := h
  rintro k (rfl | rfl | hk | hk)
  · exact h1.lt
  · exact h3.lt
  · exact (h1.own.lt k hk).2
  · exact (h3.own.lt k hk).2

/-- Where a value lies behind a call: where it lay, or in new memory, or nowhere. -/
def Moved (w : World) (v v' : Value) : Prop := v'.ownBlock = v.ownBlock ∨ v'.ownBlock = none ∨ ∃ g, v'.ownBlock = some g ∧ w.heap.size ≤ g

theorem foot_chain {w wa w1 w2 : World} {H D : Nat} {v r : Value} (e0 : Ext w wa) (o1 : Only (fun q => q = H ∨ v.ownBlock = some q) wa w1) (o2 : Only (fun q => q = D ∨ r.ownBlock = some q) w1 w2) : Only (foot H D v r) w w2 := by
  have h1 : Only (foot H D v r) w w1 := (Only.of_ext e0).trans o1 fun q _ h => h.elim .inl (fun a => .inr (.inr (.inl a)))
  exact h1.trans o2 fun q _ h => h.elim (fun a => .inr (.inl a)) (fun a => .inr (.inr (.inr a)))
theorem Moved.of {w wa : World} {v v' : Value} (hs : w.heap.size ≤ wa.heap.size) (h : v'.ownBlock = v.ownBlock ∨ ∃ g, v'.ownBlock = some g ∧ wa.heap.size ≤ g) : Moved w v v' :=
  h.elim .inl fun ⟨g, a, b⟩ => .inr (.inr ⟨g, a, Nat.le_trans hs b⟩)

/-- What an act leaves. -/
def ActPost (w : World) (B H D : Nat) (v r : Value) (ys : List (Nd Int Int)) (T : Int) (out : Bool) (w' : World) : Prop :=
  ∃ v' r' ys' T', HPair w' B H D v' r' ys' T' ∧ Only (foot H D v r) w w' ∧ Moved w v v' ∧ Moved w r r' ∧ T ≤ T' ∧ T' ≤ T + 1 ∧ ys'.length ≤ ys.length + 1 ∧ (out = true → ys'.length = ys.length - 1 ∧ T' = T)

set_option maxHeartbeats 1000000 in
theorem acted_put (B H D : Nat) (v r : Value) (ys : List (Nd Int Int)) (T : Int) (w : World) (hp : HPair w B H D v r ys T) (hB : B ≤ w.heap.size) (k x : Int) (hl : (ys.length + 1) * 24 ≤ 140737488355328) (hT0 : 0 ≤ T) (hT1 : T ≤ 140737488355328) :
    Calls Try.prog 13 #[.pointer (some ⟨H, 0, none⟩), .pointer (some ⟨D, 0, none⟩), .agg #[.bool false, .int .i64 k, .int .i64 x]] w fun e w' => e = .returned (.bool true) ∧ ActPost w B H D v r ys T false w' := by
  obtain ⟨⟨l, ho, his⟩, hr⟩ := hp
  have Ho := Lib.hid ho
  have His := Lib.hid his
  have Hr := Lib.hid hr
  have hll := Lib.hid his.length
  clear ho his hr
  go_enter Try.func13, Try.ntmps13
  go_wp2_with fail
  have e0 : Ext w (w.alloc (.cells #[.bool false, .int .i64 k, .int .i64 x] 46)) := (Ext.rfl' w).alloc (Nat.le_refl _) _
  refine (putII_any B H v l T _ (Ho.out.ext e0) (Nat.le_trans hB e0.size) k x (by rw [hll.out]; exact hl) hT0 hT1).mono ?_
  rintro e w1 ⟨rfl, v1, ho1, on1, mv1⟩
  have Ho1 := Lib.hid ho1
  have On1 := Lib.hid on1
  have Mv1 := Lib.hid mv1
  have Hr1 := Lib.hid ((Hr.out.ext e0).only on1 (by
    rintro (h | h)
    · exact blk_ne (Hr.out.ext e0).blk (Ho.out.ext e0).blk (by decide) h
    · exact own_apart (Ho.out.ext e0).own (Hr.out.ext e0).blk (by decide) h) (by
    rintro q hq (h | h)
    · subst h; exact own_apart (Hr.out.ext e0).own (Ho.out.ext e0).blk (by decide) hq
    · exact own_own (Ho.out.ext e0).own (Hr.out.ext e0).own (by decide) q h hq))
  have Hb1 := Lib.hid ((on1.block w.heap.size (by simp) (by
    rintro (h | h)
    · have := Ho.out.lt; omega
    · have := (Ho.out.own.lt _ h).2; omega)).trans (heap_alloc_new w (.cells #[.bool false, .int .i64 k, .int .i64 x] 46)))
  have hs1 : B ≤ w1.heap.size := Nat.le_trans (Nat.le_trans hB e0.size) on1.size
  have c0 := cellOf (i := 0) Hb1.out rfl
  have c1 := cellOf (i := 1) Hb1.out rfl
  have c2 := cellOf (i := 2) Hb1.out rfl
  simp only [List.getElem_toArray, List.getElem_cons_zero, List.getElem_cons_succ] at c0 c1 c2
  clear ho1 on1 mv1
  go_wp2_with fail
  refine (refPut_any B D r (ys.map pairOf) _ Hr1.out hs1 k x (by rw [List.length_map]; omega)).mono ?_
  rintro e w2 ⟨rfl, r1, hr2, on2, mv2⟩
  have Hr2 := Lib.hid hr2
  have Ho2 := Lib.hid (Ho1.out.only on2 (by
    rintro (h | h)
    · exact blk_ne Ho1.out.blk Hr1.out.blk (by decide) h
    · exact own_apart Hr1.out.own Ho1.out.blk (by decide) h) (by
    rintro q hq (h | h)
    · subst h; exact own_apart Ho1.out.own Hr1.out.blk (by decide) hq
    · exact own_own Hr1.out.own Ho1.out.own (by decide) q h hq))
  have hlen : Hid ((nPut cmpInt l (k, x, T)).length = (ys.map pairOf ++ [(k, x)]).length) := by show _ = _; rw [nPut_length, hll.out, List.length_append, List.length_map]; rfl
  obtain ⟨A, c, rfl⟩ := own_form hr2.own
  have d0 := cellOf (i := 0) hr2.blk rfl
  have hfin : ActPost w B H D v r ys T false w2 := by
    refine ⟨v1, .slice A (ys.map pairOf ++ [(k, x)]).length c, ys ++ [(k, x, T)], T + 1, ⟨⟨_, Ho2.out, His.out.put k x⟩, ?_⟩, ?_, ?_, ?_, by omega, by omega, by simp, fun h => by cases h⟩
    · rw [List.map_append]; exact Hr2.out
    · exact foot_chain e0 On1.out on2
    · exact Moved.of e0.size Mv1.out
    · exact Moved.of (Nat.le_trans e0.size On1.out.size) mv2
  have Hfin := Lib.hid hfin
  clear hfin hr2 on2 mv2
  have hq : (((nPut cmpInt l (k, x, T)).length : Int) == ((ys.map pairOf ++ [(k, x)]).length : Int)) = true := by rw [hlen.out]; simp
  go_wp2_with fail
  go_quiet ((go_at_call 14; exact Calls.quiet_of_same (lenII_any B H v1 _ _ _ (Ho2.out.ext (Ext.drawn _ _)))))
  go_wp2_with fail
  go_ret
  obtain ⟨v', r', ys', T', h1, h2, h3⟩ := Hfin.out
  exact ⟨ret_bool (by rw [hlen.out]; simp), v', r', ys', T', h1.ext (Ext.drawn _ _), h2.drewN _, h3⟩

set_option maxHeartbeats 1000000 in
theorem acted_none (B H D : Nat) (v r : Value) (T : Int) (w : World) (hp : HPair w B H D v r [] T) (k x : Int) :
    Calls Try.prog 13 #[.pointer (some ⟨H, 0, none⟩), .pointer (some ⟨D, 0, none⟩), .agg #[.bool true, .int .i64 k, .int .i64 x]] w fun e w' => e = .returned (.bool true) ∧ ActPost w B H D v r [] T true w' := by
  obtain ⟨⟨l, ho, his⟩, hr⟩ := hp
  have hll := his.length
  have hl0 : l = [] := List.eq_nil_of_length_eq_zero (by simpa using hll)
  subst hl0
  have Ho := Lib.hid ho
  have Hr := Lib.hid hr
  have His := Lib.hid his
  clear hll ho his hr
  go_enter Try.func13, Try.ntmps13
  go_wp2_with fail
  have e0 : Ext w (w.alloc (.cells #[.bool true, .int .i64 k, .int .i64 x] 46)) := (Ext.rfl' w).alloc (Nat.le_refl _) _
  refine (nextII_none B H v T _ (Ho.out.ext e0)).mono ?_
  rintro e w1 ⟨rfl, e1⟩
  have E1 := Lib.hid (Ext.next e0 e1)
  have Hr1 := Lib.hid (Hr.out.ext E1.out)
  have Ho1 := Lib.hid (Ho.out.ext E1.out)
  clear e0 e1
  go_wp2_with fail
  refine (refNext_none B D r _ Hr1.out).mono ?_
  rintro e w2 ⟨rfl, rfl⟩
  have d0 := cellOf (i := 0) Hr1.out.blk rfl
  obtain ⟨A, c, rfl⟩ := own_form Hr1.out.own
  simp only [List.getElem_toArray, List.getElem_cons_zero, List.map_nil, List.length_nil] at d0
  go_wp2_with fail
  go_quiet ((go_at_call 14; exact Calls.quiet_of_same (lenII_any B H v _ _ _ (Ho1.out.ext (Ext.drawn _ _)))))
  go_wp2_with fail
  go_ret
  exact ⟨rfl, v, _, [], T, ⟨⟨[], Ho1.out.ext (Ext.drawn _ _), His.out⟩, Hr1.out.ext (Ext.drawn _ _)⟩, (Only.of_ext E1.out).drewN _, .inl rfl, .inl rfl, by omega, by omega, by simp, fun _ => ⟨rfl, rfl⟩⟩

set_option maxHeartbeats 1000000 in
theorem acted_some (B H D : Nat) (v r : Value) (ys : List (Nd Int Int)) (T : Int) (w : World) (hp : HPair w B H D v r ys T) (hB : B ≤ w.heap.size) (hne : 0 < ys.length) (hl : ys.length * 24 ≤ 140737488355328) (k x : Int) :
    Calls Try.prog 13 #[.pointer (some ⟨H, 0, none⟩), .pointer (some ⟨D, 0, none⟩), .agg #[.bool true, .int .i64 k, .int .i64 x]] w fun e w' => e = .returned (.bool true) ∧ ActPost w B H D v r ys T true w' := by
  obtain ⟨⟨l, ho, his⟩, hr⟩ := hp
  have hll := his.length
  obtain ⟨⟨km, xm, tm⟩, hm⟩ : ∃ m, l[0]? = some m := ⟨_, List.getElem?_eq_getElem (by omega)⟩
  have Ho := Lib.hid ho
  have Hr := Lib.hid hr
  have His := Lib.hid his
  have Hll := Lib.hid hll
  have Hm := Lib.hid hm
  clear hll ho his hr hm
  go_enter Try.func13, Try.ntmps13
  go_wp2_with fail
  have e0 : Ext w (w.alloc (.cells #[.bool true, .int .i64 k, .int .i64 x] 46)) := (Ext.rfl' w).alloc (Nat.le_refl _) _
  refine (nextII_some B H v l T _ (Ho.out.ext e0) km xm tm Hm.out (by rw [Hll.out]; exact hl)).mono ?_
  rintro e w1 ⟨rfl, v1, ho1, on1, mv1⟩
  have Hr1 := Lib.hid ((Hr.out.ext e0).only on1 (by
    rintro (h | h)
    · exact blk_ne (Hr.out.ext e0).blk (Ho.out.ext e0).blk (by decide) h
    · exact own_apart (Ho.out.ext e0).own (Hr.out.ext e0).blk (by decide) h) (by
    rintro q hq (h | h)
    · subst h; exact own_apart (Hr.out.ext e0).own (Ho.out.ext e0).blk (by decide) hq
    · exact own_own (Ho.out.ext e0).own (Hr.out.ext e0).own (by decide) q h hq))
  have hs1 : B ≤ w1.heap.size := Nat.le_trans (Nat.le_trans hB e0.size) on1.size
  have Ho1 := Lib.hid ho1
  have On1 := Lib.hid on1
  have Mv1 := Lib.hid mv1
  clear ho1 on1 mv1
  go_wp2_with fail
  refine (refNext_some B D r (ys.map pairOf) _ Hr1.out hs1 (by rw [List.length_map]; exact hne) (by rw [List.length_map]; omega)).mono ?_
  rintro e w2 ⟨i, p, r1, rfl, hmin, hp, hr2, on2, mv2⟩
  have hfst : ys[i]? = some (km, xm, tm) := His.out.first Hm.out (by rw [List.map_map] at hmin; exact hmin)
  have hpe : p = (km, xm) := by
    rw [List.getElem?_map, hfst] at hp
    injection hp with hp
    exact hp.symm
  subst hpe
  have Ho2 := Lib.hid (Ho1.out.only on2 (fun h => blk_ne Ho1.out.blk Hr1.out.blk (by decide) h) (by
    rintro q hq rfl
    exact own_apart Ho1.out.own Hr1.out.blk (by decide) hq))
  have hil := (List.getElem?_eq_some_iff.1 hfst).1
  have hmap : (ys.map pairOf).eraseIdx i = (ys.eraseIdx i).map pairOf := by rw [List.eraseIdx_eq_take_drop_succ, List.eraseIdx_eq_take_drop_succ, List.map_append, List.map_take, List.map_drop]
  rw [hmap] at hr2
  have Hr2 := Lib.hid hr2
  have hlen : Hid ((nRest cmpInt l).length = ((ys.eraseIdx i).map pairOf).length) := by show _ = _; rw [nRest_length, Hll.out, List.length_map, List.length_eraseIdx, if_pos hil]
  have hfin : ActPost w B H D v r ys T true w2 := by
    refine ⟨v1, r1, ys.eraseIdx i, T, ⟨⟨_, Ho2.out, His.out.rest Hm.out hfst⟩, Hr2.out⟩, foot_chain e0 On1.out (on2.mono fun q _ h => .inl h), .inl Mv1.out, ?_, by omega, by omega, by rw [List.length_eraseIdx, if_pos hil]; omega, fun _ => ⟨by rw [List.length_eraseIdx, if_pos hil], rfl⟩⟩
    rcases mv2 with h | ⟨g, h, hg⟩
    · exact .inr (.inl h)
    · exact .inr (.inr ⟨g, h, Nat.le_trans (Nat.le_trans e0.size On1.out.size) hg⟩)
  have Hfin := Lib.hid hfin
  obtain ⟨A, c, rfl⟩ := own_form hr2.own
  have d0 := cellOf (i := 0) hr2.blk rfl
  simp only [List.getElem_toArray, List.getElem_cons_zero] at d0
  generalize hnn : ((ys.eraseIdx i).map pairOf).length = nn at d0 hlen
  clear hfin hr2 on2 mv2 hmin hp hfst hmap hil hnn
  have hqq : ((nn : Int) == (nn : Int)) = true := by simp
  go_wp2_with fail
  go_quiet ((go_at_call 14; exact Calls.quiet_of_same (lenII_any B H v1 _ _ _ (Ho2.out.ext (Ext.drawn _ _)))))
  go_wp2_with fail
  go_ret
  obtain ⟨v', r', ys', T', h1, h2, h3⟩ := Hfin.out
  exact ⟨ret_bool (by simp [hlen.out]), v', r', ys', T', h1.ext (Ext.drawn _ _), h2.drewN _, h3⟩

end Go.Proofs.Ytjemlenjencbkaa
