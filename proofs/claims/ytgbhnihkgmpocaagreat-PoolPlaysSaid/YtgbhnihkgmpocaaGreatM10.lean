/- Part 11 of 16 of the proof of PoolPlays. No condition. -/
import Derived.Test.YtgbhnihkgmpocaaGreatM09
namespace Go.Proofs.YtgbhnihkgmpocaaGreat
set_option maxRecDepth 100000
set_option maxHeartbeats 4000000
open Tryz
theorem T_2{P:Prop}(x:P:=by
 refine mA rfl (fun Kq cr=>?_) ?_
 ·go_simp
  refine cr.out _ _ (gj _ (((bu w5).aE _).bh)) (fun hHeld=>?_);refine qB (rs:= [16]) K_ S_ ?_;refine mA rfl (fun Kq cr=>?_) ?_
  ·refine cn _ rfl (.tmp 107) (.tmp 118) 51 rfl w0.heap.size 119 9 72 vW underlying51 (.slice A S.calls.length cA) S.calls.length _ (by simp [Act.eval]) (by first | exact dF _ ((bu w5).aE _) | exact dF _ (((bu w5).bh).aE _) | exact dF _ (((bu w5).aE _).bh)) (some ⟨w5.heap.size,0,none⟩) 1 1 [t,op,arg,dat,K.au,.int .i64 (-1),.int .i64 (-1),.int .i64 0,.int .i64 0] (by simp [Act.eval]) afp (by first | exact gN _ (bu _) | exact gN _ (Ext.drawn _ 1)) hone O_ (by simp;omega) ?_
   intro v' w2 bV bl fk;have oO:w5.grownBy w2 (Value.ownBlock (.slice A S.calls.length cA)):=(by first | exact aD bl | exact aD (bw bl) | exact bw (aD bl));have h7:=Has.grow (A:= [_,_,_,_,_,_]) h6 (show w2.ownsRow w0.heap.size 119 9 v' (S.calls.length+1) (S.calls.flatMap Cl.enc++(⟨t,op,arg,dat,K.au,-1,-1,0,0⟩:Cl).enc) from bV) oO (fk.imp id fun e=>⟨_,e,S_⟩);have kk:=h7.at_ (i:=10) iu rfl;have ff:=h7.dW iu 10;obtain⟨g5,c5,rfl,_,_,_⟩:=bf bV O_;have h8:=Has.fW (A:= [_,_,_,_]) h7 10 (.slice (some ⟨g5,0,none⟩) (S.calls.length+1) c5);have hk2:w2.cell? ⟨b0,0,none⟩=some (.int .i64 t)∧w2.cell? ⟨b0,1,none⟩=some (.int .i64 op)∧w2.cell? ⟨b0,2,none⟩=some (.int .i64 arg)∧w2.cell? ⟨b0,3,none⟩=some (.int .i64 dat):=⟨h7.at_ (i:=0) (Oe J2) rfl,h7.at_ (i:=1) (Oe J2) rfl,h7.at_ (i:=2) (Oe J2) rfl,h7.at_ (i:=3) (Oe J2) rfl⟩;have kD:(w2.setCell ⟨K.bM,10,none⟩ (.slice (some ⟨g5,0,none⟩) (S.calls.length+1) c5)).cell? ⟨b0,0,none⟩=some (.int .i64 t)∧(w2.setCell ⟨K.bM,10,none⟩ (.slice (some ⟨g5,0,none⟩) (S.calls.length+1) c5)).cell? ⟨b0,1,none⟩=some (.int .i64 op)∧(w2.setCell ⟨K.bM,10,none⟩ (.slice (some ⟨g5,0,none⟩) (S.calls.length+1) c5)).cell? ⟨b0,2,none⟩=some (.int .i64 arg)∧(w2.setCell ⟨K.bM,10,none⟩ (.slice (some ⟨g5,0,none⟩) (S.calls.length+1) c5)).cell? ⟨b0,3,none⟩=some (.int .i64 dat):=⟨h8.at_ (i:=0) (Oe J2) rfl,h8.at_ (i:=1) (Oe J2) rfl,h8.at_ (i:=2) (Oe J2) rfl,h8.at_ (i:=3) (Oe J2) rfl⟩
   refine cr.out _ _ hk2 (fun hHeld=>?_);refine bn 17 ?_;refine bn 18 ?_;refine qB (rs:= [19]) K_ S_ ?_;refine mA rfl (fun Kq cr=>?_) ?_
   ·go_simp
    refine cr.out _ _ kD (fun hHeld=>?_);refine Be K_ ?_ _;refine GQ ?_
    (try simp only [Exit.inBlock,Exit.then])
    go_wp2_with fail;go_ret;refine⟨rfl,k,L,(zO _).1 oB,g5,c5,Idle.drop (x:=ob b0 36 #[.int .i64 t,.int .i64 op,.int .i64 arg,.int .i64 dat].toList) (Idle.perm (G:=_::(L++F)) ?_ dV)⟩;refine Idle.Ro (l:=l) (p:=p) (s:=s) (by show 0<(S.calls++_).length;simp) qa qb qq ?_;unfold Et;rw [show({S with calls:=S.calls++ [⟨t,op,arg,dat,K.au,-1,-1,0,0⟩],told:=S.told.set t (1,0)}:PM).calls=S.calls++ [⟨t,op,arg,dat,K.au,-1,-1,0,0⟩] from rfl,gP,rT]
    first | exact h8 | exact h8.drew
   ·exact tH
  ·exact tH
 ·exact tH):P:=x
theorem GK{P:Prop}(x:P:=by
 exact aX (fun _=>Nu.swap.aB.shift.le) (fun _=>Nu.swap.le)):P:=x
open Go.RowKit
def tot(S:PM):Nat:=(S.lists.map List.length).sum
structure Nu(a b d:Nat)(S S':PM):Prop where
 lg:S'.log.length≤S.log.length+a
 tt:tot S'≤tot S+b
 sh:S'.aG.length≤S.aG.length+d
 ca:S.th<S.aO.length→S.cache.length<100000→S'.cache.length<100000
 th:S'.th=S.th
 cl:S'.aO.length=S.aO.length
namespace Nu
variable{a b d a' b' d':Nat}{S S1 S2:PM}
theorem rfl':Nu 0 0 0 S S:=⟨bZ _,bZ _,bZ _,fun _ h=>h,rfl,rfl⟩
theorem trans(h:Nu a b d S S1)(k:Nu a' b' d' S1 S2):Nu (a+a') (b+b') (d+d') S S2:=
 ⟨by have:=h.lg;have:=k.lg;omega,by have:=h.tt;have:=k.tt;omega,by have:=h.sh;have:=k.sh;omega,fun p q=>k.ca (by rw [h.th,h.cl];exact p) (h.ca p q),k.th.trans h.th,k.cl.trans h.cl⟩
theorem le(h:Nu a b d S S1)(ha:a≤a':=by omega)(hb:b≤b':=by omega)(hd:d≤d':=by omega):Nu a' b' d' S S1:=
 ⟨sY h.lg O_,sY h.tt O_,sY h.sh O_,h.ca,h.th,h.cl⟩
variable{x y z:Int}
theorem load:Nu 1 0 0 S (S.load x):=⟨by simp [PM.load,PM.acc],bZ _,bZ _,fun _ h=>h,rfl,rfl⟩
theorem store:Nu 1 0 0 S (S.store x y):=⟨by simp [PM.store,PM.acc],bZ _,bZ _,fun _ h=>h,rfl,rfl⟩
theorem swap:Nu 1 0 0 S (S.swap x y z):=⟨by simp [PM.swap,PM.acc],bZ _,bZ _,fun _ h=>h,rfl,rfl⟩
theorem aB(h:Nu a b d S S1):Nu a b d S (S1.aB x):=⟨h.lg,h.tt,h.sh,h.ca,h.th,h.cl⟩
theorem tell(h:Nu a b d S S1):Nu a b d S (S1.tell x y):=⟨h.lg,h.tt,h.sh,h.ca,h.th,h.cl⟩
theorem hold(h:Nu a b d S S1):Nu a b d S (S1.hold x):=⟨h.lg,h.tt,h.sh,h.ca,h.th,h.cl⟩
theorem shift(h:Nu a b d S S1):Nu a b (d+1) S (S1.shift x y):=⟨h.lg,h.tt,by have:=h.sh;simp only [PM.shift,gP,ij,mB];omega,h.ca,h.th,h.cl⟩
theorem setCache{l:List Int}(h:Nu a b d S S1)(hl:S1.cache.length<100000→l.length<100000):Nu a b d S (S1.setCache l):=
 ⟨h.lg,h.tt,h.sh,fun p q=>by
  have e:(S1.setCache l).cache=l:=by
   have hp:S1.th<S1.aO.length:=by rw [h.th,h.cl];exact p
   simp [PM.setCache,PM.cache,hp]
  rw [e];exact hl (h.ca p q),h.th,by show(S1.aO.set _ _).length=_;rw [cW];exact h.cl⟩
end Nu
theorem OK(l:List (List Int))(i:Nat)(x:List Int):((l.set i x).map List.length).sum+(l.getD i []).length≤(l.map List.length).sum+x.length:=by
 induction l generalizing i with
 | nil=>simp
 | cons y l ih=>
  cases i with
  | zero=>simp;omega
  | succ i=>have:=ih i;simp at this ⊢;omega
theorem um{S:PM}{r:Int}{l:List Int}:tot (S.aV r l)+(S.bQ r).length≤tot S+l.length:=OK S.lists r.toNat l
theorem FX{S:PM}{r:Int}:(S.bQ r).length≤tot S:=by
 have h:=um (S:=S) (r:=r) (l:= []);simp at h;omega
theorem Nu.aV{a b d b':Nat}{S S1:PM}{r:Int}{l:List Int}(h:Nu a b d S S1)(hl:l.length≤(S1.bQ r).length+b'):Nu a (b+b') d S (S1.aV r l):=
 ⟨h.lg,by have:=um (S:=S1) (r:=r) (l:=l);have:=h.tt;omega,h.sh,h.ca,h.th,h.cl⟩
section
variable{c:Cf}{S:PM}
theorem ke(k:Tk):Nu 0 0 1 S (k.ready S).2.2:=by
 unfold Tk.ready
 split
 ·exact Nu.rfl'.le
 ·exact(Nu.rfl'.setCache fun h=>by rw [Dx];omega).shift
theorem lf(k:Tk):Nu 1 0 1 S (k.step c S).2.2:=by
 unfold Tk.step
 split
 ·split<;>exact Nu.load.le
 split
 ·exact Nu.load.le
 split
 ·exact Nu.swap.shift
 ·exact Nu.swap.le
theorem pg(hc:c.Ca≤64)(p:Pu):Nu 0 0 1 S (p.ready c S).2.2:=by
 unfold Pu.ready
 split
 ·exact Nu.rfl'.le
 ·rename_i h
  exact(Nu.rfl'.setCache fun _=>by simp only [gP,ij,mB];omega).shift
theorem og(p:Pu):Nu 1 0 1 S (p.step c S).2.2:=by
 unfold Pu.step
 split
 ·exact Nu.load.le
 split
 ·exact Nu.store.le
 split
 ·exact Nu.swap.shift
 ·exact Nu.swap.le
theorem pK(p:Pu):Nu 0 0 0 S (p.dU S).2.2:=by
 unfold Pu.dU
 split<;>exact Nu.rfl'
theorem zj(p:Pu):Nu 1 0 1 S (p.iW c S).2.2:=by
 have h:=og (c:=c) (S:=S) p;unfold Pu.iW;generalize p.step c S=r at h ⊢;obtain⟨b,p1,S1⟩:=r
 cases b
 ·exact h
 ·exact((h.setCache fun h=>by have h:S1.cache.length<100000:=h;rw [Dx];omega).trans (pK p1)).le
theorem j5(s:Sc):Nu 0 0 0 S (s.next c S).2.2:=by
 unfold Sc.next;simp only
 repeat' split
 all_goals exact Nu.rfl'
theorem su(hc:c.Ca≤64):∀ (l:List Int) (s:Sc) (S:PM),Nu 0 0 l.length S (Sc.free c s l S).2.2
 | [],s,S=>Nu.rfl'
 | x::l,s,S=>by
  have h:=pg (S:=S) hc (.aU x);unfold Sc.free;generalize (Pu.aU x).ready c S=r at h ⊢;obtain⟨b,p,S1⟩:=r
  cases b
  ·exact h.le (hd:=by simp)
  ·exact(h.trans (su hc l {s with aU:=some p} S1)).le (hd:=by simp;omega)
theorem sq(hc:c.Ca≤64){m:Nat}(s:Sc)(hp:s.pending.length+tot S≤m):Nu 1 0 (m+1) S (s.step c S).2.2:=by
 unfold Sc.step
 split
 ·split
  ·exact(Nu.load.trans (j5 s)).le
  ·exact Nu.load.le
 split
 ·split
  ·refine⟨by simp [PM.swap,PM.acc,PM.aV],?_,?_,fun _ h=>h,rfl,rfl⟩
   ·have h1:=um (S:=(S.swap (c.ad 8 s.pc) 0 1).aV s.rc (S.bQ s.rc++S.bQ s.pc)) (r:=s.pc) (l:= [])
    have h2:=um (S:=S.swap (c.ad 8 s.pc) 0 1) (r:=s.rc) (l:=S.bQ s.rc++S.bQ s.pc);have e1:(S.swap (c.ad 8 s.pc) 0 1).bQ s.rc=S.bQ s.rc:=rfl;have e2:tot (S.swap (c.ad 8 s.pc) 0 1)=tot S:=rfl;rw [e1,e2,gP] at h2
    have h3:(S.bQ s.pc).length≤(((S.swap (c.ad 8 s.pc) 0 1).aV s.rc (S.bQ s.rc++S.bQ s.pc)).bQ s.pc).length∨tot (S.swap (c.ad 8 s.pc) 0 1 |>.aV s.rc (S.bQ s.rc++S.bQ s.pc))≤tot S:=by
     by_cases hq:s.rc.toNat=s.pc.toNat
     ·by_cases hl:s.rc.toNat<S.lists.length
      ·left
       have:((S.swap (c.ad 8 s.pc) 0 1).aV s.rc (S.bQ s.rc++S.bQ s.pc)).bQ s.pc=S.bQ s.rc++S.bQ s.pc:=by
        unfold PM.aV PM.bQ;rw [←hq,kO,g9 (by exact hl)]
        rfl
       rw [this,gP];omega
      ·right
       have:(S.swap (c.ad 8 s.pc) 0 1).aV s.rc (S.bQ s.rc++S.bQ s.pc)=S.swap (c.ad 8 s.pc) 0 1:=by
        unfold PM.aV;rw [List.set_eq_of_length_le (by exact Nat.le_of_not_lt hl)]
       rw [this];exact bZ _
     ·left
      have:((S.swap (c.ad 8 s.pc) 0 1).aV s.rc (S.bQ s.rc++S.bQ s.pc)).bQ s.pc=S.bQ s.pc:=by
       unfold PM.aV PM.bQ;rw [kO,oG hq]
       rfl
      rw [this];exact bZ _
    simp only [mB] at h1;have h0:tot (((S.swap (c.ad 8 s.pc) 0 1).aV s.rc (S.bQ s.rc++S.bQ s.pc)).aV s.pc [])≤tot S:=O_
    exact h0
   ·exact sY (bZ S.aG.length) O_
  ·exact(Nu.swap.trans (j5 s)).le
 split
 ·exact(Nu.store.trans (j5 s)).le
 split
 ·split
  ·exact Nu.load.le
  ·have h1:Nu 1 0 0 S (Sc.split {s with names:=s.names++ [lk (S.w (c.ad 9 s.pc))],pc:=s.pc+1} (S.load (c.ad 9 s.pc))).2:=
    (Nu.load.aV (b':=0) (Dz _ _))
   have h2:(Sc.split {s with names:=s.names++ [lk (S.w (c.ad 9 s.pc))],pc:=s.pc+1} (S.load (c.ad 9 s.pc))).1.pending.length≤m:=by
    refine sY (Nat.le_of_eq gP) (sY (Nat.add_le_add_left (Dz _ _) _) ?_);have:=FX (S:=S) (r:=s.rc)
    show s.pending.length+(S.bQ s.rc).length≤m
    omega
   generalize Sc.split {s with names:=s.names++ [lk (S.w (c.ad 9 s.pc))],pc:=s.pc+1} (S.load (c.ad 9 s.pc))=r at h1 h2 ⊢;obtain⟨s1,S1⟩:=r;simp only at h1 h2;exact(h1.trans (su hc s1.pending s1 S1)).le
 ·split
  ·exact Nu.rfl'.le
  ·rename_i p _
   have h:=og (c:=c) (S:=S) p;generalize p.step c S=r at h ⊢;obtain⟨b,p1,S1⟩:=r
   cases b
   ·exact h.le
   ·exact(h.trans (su hc s.pending {s with aU:=some p1} S1)).le
theorem je(r:Rt):Nu 0 1 1 S (r.ready c S).2.2:=by
 have h:Nu 0 1 1 S ((S.shift r.slot 5).aV (S.shift r.slot 5).rc ((S.shift r.slot 5).bQ (S.shift r.slot 5).rc++ [r.slot])):=(Nu.rfl'.shift).aV (b':=1) (by rw [gP];exact bZ _);unfold Rt.ready;simp only
 split
 ·exact h
 ·exact(h.trans (j5 _)).le
theorem HW(hc:c.Ca≤64){m:Nat}(r:Rt)(hp:∀ s,r.scan=some s→s.pending.length+tot S≤m):Nu 1 0 (m+1) S (r.step c S).2.2:=by
 unfold Rt.step
 split
 ·exact Nu.rfl'.le
 ·rename_i s hs
  exact sq hc s (hp s hs)
end
section
variable{c:Cf}{S S1:PM}{a b d m:Nat}
def Rt.pl(r:Rt):Nat:=match r.scan with | some s=>s.pending.length | none=>0
def nv(r:Option Rt):Nat:=match r with | some r=>r.pl | none=>0
def Tq.pl:Tq→Nat
 | .scan s=>s.pending.length
 | .unreg u=>match u.scan with | some s=>s.pending.length | none=>0
 | .post p=>nv p.ret
 | .pop p=>nv p.ret
 | .deq g=>nv g.ret
 | .con w=>nv w.f.ret
 | .del d=>max (nv d.wk.f.ret) (nv d.part)
 | .ins d=>nv d.wk.f.ret
 | .tab t=>max (nv t.f.ret) (nv t.ret)
 | _=>0
def mQ(f:Fi):Nat:=if 1≤f.pc∧f.pc≤12 then 0 else nv f.ret
def Tq.xh:Tq→Nat
 | .scan s=>s.pending.length
 | .unreg u=>if u.az=1 then(match u.scan with | some s=>s.pending.length | none=>0) else 0
 | .post p=>if 0≤p.az∧p.az≤3 then 0 else nv p.ret
 | .pop p=>if 0≤p.pc∧p.pc≤7 then 0 else nv p.ret
 | .deq g=>if 1≤g.pc∧g.pc≤11 then 0 else nv g.ret
 | .con w=>if w.az=11 then 0 else mQ w.f
 | .del d=>if d.wk.az=0∨d.wk.az=10 then mQ d.wk.f else if d.wk.az=9 then nv d.part else 0
 | .ins d=>if d.wk.az=0 then mQ d.wk.f else 0
 | .tab t=>if t.az=0∨t.az=5 then mQ t.f else if t.az=4 then nv t.ret else 0
 | _=>0
theorem Gq(f:Fi):mQ f≤nv f.ret:=by
 unfold mQ
 split
 ·exact nU _
 ·exact bZ _
theorem Vc(q:Tq):q.xh≤q.pl:=by
 cases q<;>simp only [Tq.xh,Tq.pl]<;>repeat' (first | split | exact bZ _ | exact nU _ | exact Gq _ | exact sY (Gq _) (Nat.le_max_left _ _) | exact Nat.le_max_right _ _)
theorem aX{α:Type}{p:Prop} [Decidable p]{x y:Bool×α×PM}(hx:p→Nu a b d S x.2.2)(hy:¬p→Nu a b d S y.2.2):Nu a b d S (if p then x else y).2.2:=by
 by_cases h:p
 ·rw [aY h];exact hx h
 ·rw [aK h];exact hy h
theorem nZ(hc:c.Ca≤64)(r:Rt)(hp:r.pl+tot S≤m):Nu 1 0 (m+1) S (r.step c S).2.2:=
 HW hc r fun s hs=>by unfold Rt.pl at hp;rw [hs] at hp;exact hp
theorem KT(p:Ps)(h:Nu a b d S S1):Nu a b d S (p.taken S1).2.2:=by
 unfold Ps.taken;split
 ·exact h.aB.tell
 ·exact h
theorem yJ(p:Ps){r:Bool×Tk×PM}(h:Nu a b d S r.2.2):Nu a b d S (p.behind r).2.2:=by
 obtain⟨b,k,S'⟩:=r
 cases b
 ·exact h
 ·exact KT _ h
theorem Ye(p:Ps):Nu 1 0 1 S (p.step c S).2.2:=by
 unfold Ps.step
 repeat' split
 ·exact yJ _ (lf _)
 ·exact Nu.store.le
 ·exact Nu.load.le
 ·exact Nu.store.le
 ·exact Nu.swap.aB.shift.tell
 ·exact Nu.swap.le
theorem Qe(p:gO)(h:Nu a b d S S1):Nu a b d S (p.jJ S1).2.2:=by
 unfold gO.jJ;split
 ·exact h.aB.tell
 ·exact h
theorem zo(p:gO){r:Bool×Tk×PM}(h:Nu a b d S r.2.2):Nu a b d S (p.behind r).2.2:=by
 obtain⟨b,k,S'⟩:=r
 cases b
 ·exact h
 ·exact Qe _ h
theorem aaE(p:gO):Nu 1 0 1 S (p.step c S).2.2:=by
 unfold gO.step;refine aX (fun _=>?_) (fun _=>?_)
 ·exact zo _ (lf _)
 refine aX (fun _=>?_) (fun _=>?_)
 ·exact Nu.store.le
 refine aX (fun _=>?_) (fun _=>?_)
 ·exact Nu.store.le
 refine aX (fun _=>?_) (fun _=>?_)
 ·exact Nu.load.le
 refine aX (fun _=>?_) (fun _=>?_)
 ·exact Nu.store.le
 refine aX (fun _=>?_) (fun _=>?_)
 ·exact aX (fun _=>Nu.load.le) (fun _=>Nu.load.le)
 refine aX (fun _=>?_) (fun _=>?_)
 ·exact Nu.load.le
 refine aX (fun _=>?_) (fun _=>?_)
 ·exact GK
 refine aX (fun _=>?_) (fun _=>?_)
 ·exact Nu.swap.le
 refine aX (fun _=>?_) (fun _=>?_)
 ·exact Nu.store.tell.le
 exact Nu.swap.le
theorem O3(p:Po)(h:Nu a b d S S1):Nu a b d S (p.jJ S1).2.2:=by
 unfold Po.jJ;split
 ·exact h.aB.tell
 ·exact h
theorem yM(p:Po){r:Bool×Tk×PM}(h:Nu a b d S r.2.2):Nu a b d S (p.behind r).2.2:=by
 obtain⟨b,k,S'⟩:=r
 cases b
 ·exact h
 ·exact O3 _ h
theorem Yh(hc:c.Ca≤64)(p:Po)(hp:¬(0≤p.az∧p.az≤3)→nv p.ret+tot S≤m):Nu 1 1 (m+9) S (p.step c S).2.2:=by
 unfold Po.step;refine aX (fun _=>?_) (fun _=>?_)
 ·exact(yM _ (lf _)).le
 refine aX (fun _=>?_) (fun _=>?_)
 ·exact Nu.store.le
 refine aX (fun _=>?_) (fun _=>?_)
 ·exact Nu.load.le
 refine aX (fun _=>?_) (fun _=>?_)
 ·refine aX (fun _=>aX (fun _=>(Nu.swap.aB.tell.shift).le) (fun _=>?_)) (fun _=>Nu.swap.le)
  have h:=je (c:=c) (S:=(((((S.swap (c.ad 2 0) p.dR p.link).aB S.now).tell 1 0).shift p.take.res 3).shift (lk p.dR) 4)) (Rt.new (lk p.dR));exact(Nu.swap.aB.tell.shift.shift.trans h).le
 cases hr:p.ret with
 | none=>exact Nu.rfl'.le
 | some r=>
  have h:=nZ hc r (by have hp:=hp O_;rw [hr] at hp;exact hp);simp only;generalize r.step c S=r2 at h ⊢;obtain⟨b,r1,S1⟩:=r2;exact h.le
theorem FK(p:Pp)(h:Nu a b d S S1):Nu a b d S (p.seen S1).2.2:=by
 unfold Pp.seen;split
 ·exact h
 ·exact h.aB.tell
theorem Yg(hc:c.Ca≤64)(p:Pp)(hp:¬(0≤p.pc∧p.pc≤7)→nv p.ret+tot S≤m):Nu 1 1 (m+9) S (p.step c S).2.2:=by
 unfold Pp.step;refine aX (fun _=>?_) (fun _=>?_)
 ·exact(FK _ Nu.load).le
 refine aX (fun _=>?_) (fun _=>?_)
 ·exact Nu.store.le
 refine aX (fun _=>?_) (fun _=>?_)
 ·exact aX (fun _=>Nu.load.le) (fun _=>(FK _ Nu.load).le)
 refine aX (fun _=>?_) (fun _=>?_)
 ·exact Nu.load.le
 refine aX (fun _=>?_) (fun _=>?_)
 ·exact GK
 refine aX (fun _=>?_) (fun _=>?_)
 ·exact Nu.load.le
 refine aX (fun _=>?_) (fun _=>?_)
 ·have h:=je (c:=c) (S:=((S.store (S.hz c 0) 0).tell 2 p.val)) (Rt.new (lk p.top))
  exact(Nu.store.tell.trans h).le
 refine aX (fun _=>?_) (fun _=>?_)
 ·exact Nu.store.le
 cases hr:p.ret with
 | none=>exact Nu.rfl'.le
 | some r=>
  have h:=nZ hc r (by have hp:=hp O_;rw [hr] at hp;exact hp);simp only;generalize r.step c S=r2 at h ⊢;obtain⟨b,r1,S1⟩:=r2;exact h.le
theorem Gv(g:Dq)(x:Int):Nu 1 0 0 S (g.same c x S).2.2:=by
 unfold Dq.same;split<;>exact Nu.load
theorem aaM(hc:c.Ca≤64)(g:Dq)(hp:¬(1≤g.pc∧g.pc≤11)→nv g.ret+tot S≤m):Nu 1 1 (m+9) S (g.step c S).2.2:=by
 unfold Dq.step;refine aX (fun _=>?_) (fun _=>?_)
 ·exact Nu.load.le
 refine aX (fun _=>?_) (fun _=>?_)
 ·exact Nu.store.le
 refine aX (fun _=>?_) (fun _=>?_)
 ·exact(Gv _ _).le
 refine aX (fun _=>?_) (fun _=>?_)
 ·exact Nu.load.le
 refine aX (fun _=>?_) (fun _=>?_)
 ·exact aX (fun _=>Nu.load.aB.tell.le) (fun _=>Nu.load.le)
 refine aX (fun _=>?_) (fun _=>?_)
 ·exact Nu.store.le
 refine aX (fun _=>?_) (fun _=>?_)
 ·exact(Gv _ _).le
 refine aX (fun _=>?_) (fun _=>?_)
 ·exact Nu.swap.le
 refine aX (fun _=>?_) (fun _=>?_)
 ·exact Nu.load.le
 refine aX (fun _=>?_) (fun _=>?_)
 ·exact GK
 refine aX (fun _=>?_) (fun _=>?_)
 ·refine aX (fun _=>Nu.store.le) (fun _=>aX (fun _=>?_) (fun _=>Nu.store.le))
  have h:=je (c:=c) (S:=((S.store (if g.dD=0 then g.yY else g.II) 0).tell 2 g.val)) (Rt.new (lk g.h0));exact(Nu.store.tell.trans h).le
 cases hr:g.ret with
 | none=>exact Nu.rfl'.le
 | some r=>
  have h:=nZ hc r (by have hp:=hp O_;rw [hr] at hp;exact hp);simp only;generalize r.step c S=r2 at h ⊢;obtain⟨b,r1,S1⟩:=r2;exact h.le
theorem FT(f:Fi)(h:Nu a b d S S1):Nu a b d S (f.out S1).2.2:=by
 unfold Fi.out;simp only
 split
 ·exact h
 ·exact h
theorem I6(f:Fi):Nu 1 0 0 S (f.decide c S).2.2:=by
 unfold Fi.decide;simp only
 repeat' split
 all_goals exact Nu.load
theorem Gp(hc:c.Ca≤64)(f:Fi)(hp:mQ f+tot S≤m):Nu 1 1 (m+9) S (f.step c S).2.2:=by
 unfold Fi.step;refine aX (fun _=>?_) (fun _=>?_)
 ·exact aX (fun _=>Nu.load.le) (fun _=>Nu.load.le)
 refine aX (fun _=>?_) (fun _=>?_)
 ·exact Nu.store.le
 refine aX (fun _=>?_) (fun _=>?_)
 ·exact Nu.load.le
 refine aX (fun _=>?_) (fun _=>?_)
 ·exact Nu.load.le
 refine aX (fun _=>?_) (fun _=>?_)
 ·exact Nu.store.le
 refine aX (fun _=>?_) (fun _=>?_)
 ·exact Nu.load.le
 refine aX (fun _=>?_) (fun _=>?_)
 ·exact Nu.load.le
 refine aX (fun _=>?_) (fun _=>?_)
 ·exact(I6 f).le
 refine aX (fun _=>?_) (fun _=>?_)
 ·exact Nu.store.le
 refine aX (fun _=>?_) (fun _=>?_)
 ·exact Nu.store.le
 refine aX (fun _=>?_) (fun _=>?_)
 ·have h:=(Nu.swap (x:=f.p) (y:=f.w) (z:=bare f.x)).shift (x:=f.cur) (y:=4) |>.trans (je (c:=c) (S:=(S.swap f.p f.w (bare f.x)).shift f.cur 4) (Rt.new f.cur))
  refine aX (fun _=>?_) (fun _=>Nu.swap.le);generalize (Rt.new f.cur).ready c ((S.swap f.p f.w (bare f.x)).shift f.cur 4)=r at h ⊢;obtain⟨b,r1,S1⟩:=r
  cases b
  ·exact h.le
  ·exact(FT _ h).le
 cases hr:f.ret with
 | none=>exact Nu.rfl'.le
 | some r=>
  have h:=nZ hc r (by rw [mQ,aK O_,hr] at hp;exact hp);simp only;generalize r.step c S=r2 at h ⊢;obtain⟨b,r1,S1⟩:=r2
  cases b
  ·exact h.le
  ·exact(FT _ h).le
theorem Rr(k:Int):Nu 1 0 0 S (gu c k S).2.2:=Nu.store
theorem Ap(w:Wk):Nu 1 0 0 S (w.left c S).2.2:=by
 unfold Wk.left;have h:=Rr (c:=c) (S:=S) w.lv;generalize gu c w.lv S=r at h ⊢;obtain⟨b,k,S1⟩:=r
 cases b
 ·exact h
 ·simp only
  split
  ·exact h.aB.tell
  ·exact h.tell
theorem V8(hc:c.Ca≤64)(w:Wk)(hp:¬w.az=11→mQ w.f+tot S≤m):Nu 1 1 (m+9) S (w.iY c S).2.2:=by
 unfold Wk.iY;refine aX (fun _=>(Ap w).le) (fun _=>?_);have h:=Gp hc w.f (hp (by assumption));generalize w.f.step c S=r at h ⊢;obtain⟨b,k,S1⟩:=r
 cases b
 ·exact h
 ·exact h.aB
theorem V4(hc:c.Ca≤64)(w:De)(hp:(w.wk.az=0∨w.wk.az=10→mQ w.wk.f+tot S≤m)∧(w.wk.az=9→nv w.part+tot S≤m)):Nu 1 1 (m+9) S (w.step c S).2.2:=by
 have h:=fun q=>Gp hc w.wk.f (S:=S) (m:=m) (hp.1 q)
 unfold De.step;refine aX (fun _=>?_) (fun _=>?_)
 ·replace h:=h (.inl (by assumption))
  generalize w.wk.f.step c S=r at h ⊢;obtain⟨b,k,S1⟩:=r
  cases b
  ·exact h
  ·exact aX (fun _=>h) (fun _=>h.aB)
 refine aX (fun _=>?_) (fun _=>?_)
 ·exact aX (fun _=>Nu.swap.aB.le) (fun _=>Nu.swap.le)
 refine aX (fun _=>?_) (fun _=>?_)
 ·refine aX (fun _=>?_) (fun _=>Nu.swap.le)
  have h:=(Nu.swap (x:=w.wk.f.p) (y:=w.wk.f.w) (z:=w.wk.f.x)).shift (x:=w.wk.f.cur) (y:=4) |>.trans (je (c:=c) (S:=(S.swap w.wk.f.p w.wk.f.w w.wk.f.x).shift w.wk.f.cur 4) (Rt.new w.wk.f.cur))
  generalize (Rt.new w.wk.f.cur).ready c ((S.swap w.wk.f.p w.wk.f.w w.wk.f.x).shift w.wk.f.cur 4)=r at h ⊢;obtain⟨b,r1,S1⟩:=r
  cases b<;>exact h.le
 refine aX (fun _=>?_) (fun _=>?_)
 ·cases hr:w.part with
  | none=>exact Nu.rfl'.le
  | some r=>
   have h:=nZ hc r (S:=S) (m:=m) (by have hp:=hp.2 (by assumption);rw [hr] at hp;exact hp);simp only;generalize r.step c S=r2 at h ⊢;obtain⟨b,r1,S1⟩:=r2
   cases b<;>exact h.le
 refine aX (fun _=>?_) (fun _=>(Ap _).le);replace h:=h (.inr (by assumption));generalize w.wk.f.step c S=r at h ⊢;obtain⟨b,k,S1⟩:=r
 cases b<;>exact h
theorem LP(d0:In)(k:Tk)(h:Nu a b d S S1):Nu a b d S (d0.taken k S1).2.2:=by
 unfold In.taken;exact aX (fun _=>h) (fun _=>h)
theorem F2(d0:In){r:Bool×Tk×PM}(h:Nu a b d S r.2.2):Nu a b d S (d0.iH r).2.2:=by
 obtain⟨b,k,S'⟩:=r
 cases b
 ·exact h
 ·exact LP _ _ h
theorem U5(hc:c.Ca≤64)(d0:In)(h:Nu a b d S S1):Nu a b (d+1) S (d0.eo c S1).2.2:=by
 unfold In.eo;refine aX (fun _=>aX (fun _=>h.aB.le) (fun _=>?_)) (fun _=>aX (fun _=>h.le) (fun _=>?_))
 ·have h2:=h.aB.trans (pg (S:=S1.aB d0.wk.f.pt) hc (.aU d0.slot))
  generalize (Pu.aU d0.slot).ready c (S1.aB d0.wk.f.pt)=r at h2 ⊢;obtain⟨b,r1,S2⟩:=r
  cases b<;>exact h2.le
 ·exact F2 _ (h.trans (ke _)).le
theorem ZJ(hc:c.Ca≤64)(w:In)(hp:w.wk.az=0→mQ w.wk.f+tot S≤m):Nu 1 1 (m+10) S (w.step c S).2.2:=by
 unfold In.step;refine aX (fun _=>?_) (fun _=>?_)
 ·have h:=Gp hc w.wk.f (hp (by assumption))
  generalize w.wk.f.step c S=r at h ⊢;obtain⟨b,k,S1⟩:=r
  cases b
  ·exact h.le
  ·exact U5 hc _ h
 refine aX (fun _=>?_) (fun _=>?_)
 ·cases hr:w.take with
  | none=>exact Nu.rfl'.le
  | some k=>exact(F2 _ (lf k)).le
 refine aX (fun _=>Nu.store.le) (fun _=>?_);refine aX (fun _=>Nu.store.le) (fun _=>?_);refine aX (fun _=>Nu.store.le) (fun _=>?_);refine aX (fun _=>?_) (fun _=>?_)
 ·exact GK
 refine aX (fun _=>?_) (fun _=>(Ap _).le)
 cases hr:w.aU with
 | none=>exact Nu.rfl'.le
 | some p=>
  have h:=og (c:=c) (S:=S) p;simp only;generalize p.step c S=r at h ⊢;obtain⟨b,k,S1⟩:=r
  cases b<;>exact h.le
theorem Kt(t:Tb)(h:Nu a b d S S1):Nu a b d S (t.found S1).2.2:=by
 have h2:Nu a b d S (if t.f.found && t.take then S1 else S1.aB t.f.pt):=by
  split
  ·exact h
  ·exact h.aB
 unfold Tb.found;exact aX (fun _=>h2) (fun _=>h2.tell)
theorem XI(hc:c.Ca≤64)(t:Tb)(hp:(t.az=0∨t.az=5→mQ t.f+tot S≤m)∧(t.az=4→nv t.ret+tot S≤m)):Nu 1 1 (m+9) S (t.step c S).2.2:=by
 have h:=fun q=>Gp hc t.f (S:=S) (m:=m) (hp.1 q)
 unfold Tb.step;refine aX (fun _=>?_) (fun _=>?_)
 ·replace h:=h (.inl (by assumption))
  generalize t.f.step c S=r at h ⊢;obtain⟨b,k,S1⟩:=r
  cases b
  ·exact h
  ·exact Kt _ h
 refine aX (fun _=>?_) (fun _=>?_)
 ·exact aX (fun _=>Nu.swap.aB.le) (fun _=>Nu.swap.le)
 refine aX (fun _=>?_) (fun _=>?_)
 ·exact aX (fun _=>Nu.load.tell.le) (fun _=>Nu.load.tell.le)
 refine aX (fun _=>?_) (fun _=>?_)
 ·refine aX (fun _=>?_) (fun _=>Nu.swap.le)
  have h:=(Nu.swap (x:=t.f.p) (y:=t.f.w) (z:=t.f.x)).shift (x:=t.slot) (y:=4) |>.trans (je (c:=c) (S:=(S.swap t.f.p t.f.w t.f.x).shift t.slot 4) (Rt.new t.slot))
  generalize (Rt.new t.slot).ready c ((S.swap t.f.p t.f.w t.f.x).shift t.slot 4)=r at h ⊢;obtain⟨b,r1,S1⟩:=r
  cases b<;>exact h.le
 refine aX (fun _=>?_) (fun _=>?_)
 ·cases hr:t.ret with
  | none=>exact Nu.rfl'.le
  | some r=>
   have h:=nZ hc r (S:=S) (m:=m) (by have hp:=hp.2 (by assumption);rw [hr] at hp;exact hp);simp only;generalize r.step c S=r2 at h ⊢;obtain⟨b,r1,S1⟩:=r2
   cases b<;>exact h.le
 refine aX (fun _=>?_) (fun _=>(Rr _).le);replace h:=h (.inr (by assumption));generalize t.f.step c S=r at h ⊢;obtain⟨b,k,S1⟩:=r
 cases b<;>exact h
theorem Ri(r:Rg)(h:Nu a b d S S1):Nu a b d S (r.on c S1).2.2:=by
 unfold Rg.on;exact aX (fun _=>h) (fun _=>h.tell)
theorem XT(r:Rg):Nu 1 0 0 S (r.step c S).2.2:=by
 unfold Rg.step;exact aX (fun _=>aX (fun _=>Nu.swap.hold.tell) (fun _=>Ri _ Nu.swap)) (fun _=>aX (fun _=>Ri _ Nu.load) (fun _=>Nu.load))
theorem KM(r:oS)(x:Int)(h:Nu a b d S S1):Nu a b d S (r.Hv x S1).2.2:=by
 unfold oS.Hv;exact aX (fun _=>h.aB.tell) (fun _=>h)
theorem X0(r:oS):Nu 1 0 0 S (r.step c S).2.2:=by
 unfold oS.step;exact aX (fun _=>KM _ _ Nu.load) (fun _=>aX (fun _=>Nu.store) (fun _=>aX (fun _=>aX (fun _=>Nu.load) (fun _=>KM _ _ Nu.load)) (fun _=>Nu.load.aB.tell)))
theorem yO(u:Ur)(h:Nu a b d S S1):Nu a b d S (u.empty S1).2.2:=by
 have h2:=h.trans (pK (S:=S1) (Pu.mk 0 0 0));unfold Ur.empty;generalize (Pu.mk 0 0 0).dU S1=r at h2 ⊢;obtain⟨b,p,S2⟩:=r;exact h2
theorem Xu(hc:c.Ca≤64)(u:Ur)(hp:u.az=1→(match u.scan with | some s=>s.pending.length | none=>0)+tot S≤m):Nu 1 0 (m+9) S (u.step c S).2.2:=by
 unfold Ur.step;refine aX (fun _=>?_) (fun _=>?_)
 ·refine aX (fun _=>Nu.store.le) (fun _=>?_)
  have h:=Nu.store (S:=S) (x:=S.hz c u.k) (y:=0) |>.trans (j5 (c:=c) (S:=S.store (S.hz c u.k) 0) {Sc.new (S.store (S.hz c u.k) 0).rc with pc:=-1})
  have e:(Sc.new (S.store (S.hz c u.k) 0).rc).ready c (S.store (S.hz c u.k) 0)=Sc.next c {Sc.new (S.store (S.hz c u.k) 0).rc with pc:=-1} (S.store (S.hz c u.k) 0):=rfl;rw [←e] at h;clear e;generalize (Sc.new (S.store (S.hz c u.k) 0).rc).ready c (S.store (S.hz c u.k) 0)=r at h ⊢;obtain⟨b,s,S1⟩:=r
  cases b
  ·exact h.le
  ·exact(yO _ h).le
 refine aX (fun _=>?_) (fun _=>?_)
 ·cases hs:u.scan with
  | none=>exact Nu.rfl'.le
  | some s=>
   have h:=sq hc s (S:=S) (m:=m) (by have hp:=hp (by assumption);rw [hs] at hp;exact hp);simp only;generalize s.step c S=r at h ⊢;obtain⟨b,s1,S1⟩:=r
   cases b
   ·exact h.le
   ·exact(yO _ h).le
 refine aX (fun _=>?_) (fun _=>Nu.store.hold.le)
 cases hs:u.flush with
 | none=>exact Nu.rfl'.le
 | some p=>
  have h:=zj (c:=c) (S:=S) p;simp only;generalize p.iW c S=r at h ⊢;obtain⟨b,s1,S1⟩:=r;exact h.le
theorem yz{r:Bool×Tk×PM}(h:Nu a b d S r.2.2):Nu a b d S (eP r).2.2:=by
 obtain⟨b,k,S'⟩:=r
 cases b
 ·exact h
 ·show Nu _ _ _ S (if k.res<0 then S'.tell 4 0 else S'.tell 2 k.res)
  split
  ·exact h.tell
  ·exact h.tell
theorem gQ{α:Type}{f:α→Tq}{r:Bool×α×PM}(h:Nu a b d S r.2.2):Nu a b d S (up f r).2.2:=h
theorem Rb(hc:c.Ca≤64)(q:Tq)(hp:q.xh+tot S≤m):Nu 1 1 (m+10) S (q.step c S).2.2:=by
 cases q with
 | take k=>exact(yz (lf k)).le
 | aU p=>exact(gQ (og p)).le
 | flush p=>exact(gQ (zj p)).le
 | gm r=>exact(gQ (XT r)).le
 | unreg u=>exact(gQ (Xu hc u (fun h=>by simp only [Tq.xh,aY h] at hp;exact hp))).le
 | post p=>exact(gQ (Yh hc p (fun h=>by simpa only [Tq.xh,aK h] using hp))).le
 | read r=>exact(gQ (X0 r)).le
 | clear x=>exact Nu.store.le
 | scan s=>exact(gQ (sq hc s hp)).le
 | push p=>exact(gQ (Ye p)).le
 | pop p=>exact(gQ (Yg hc p (fun h=>by simpa only [Tq.xh,aK h] using hp))).le
 | enq p=>exact(gQ (aaE p)).le
 | deq g=>exact(gQ (aaM hc g (fun h=>by simpa only [Tq.xh,aK h] using hp))).le
 | con w=>exact(gQ (V8 hc w (fun h=>by simpa only [Tq.xh,aK h] using hp))).le
 | del x=>exact(gQ (V4 hc x ⟨fun h=>by simpa only [Tq.xh,aY h] using hp,fun h=>by simpa only [Tq.xh,aY h,aK (show¬(x.wk.az=0∨x.wk.az=10) from O_)] using hp⟩)).le
 | ins x=>exact(gQ (ZJ hc x (fun h=>by simpa only [Tq.xh,aY h] using hp))).le
 | tab t=>exact(gQ (XI hc t ⟨fun h=>by simpa only [Tq.xh,aY h] using hp,fun h=>by simpa only [Tq.xh,aY h,aK (show¬(t.az=0∨t.az=5) from O_)] using hp⟩)).le
theorem uN(hc:c.Ca≤64)(q:Tq):Nu 0 0 1 S (q.ready c S).2.2:=by
 cases q with
 | take k=>exact yz (ke k)
 | aU p=>exact gQ (pg hc p)
 | flush p=>exact(gQ (pK p)).le
 | post p=>exact gQ (yM _ (ke _))
 | scan s=>exact(gQ (j5 _)).le
 | push p=>exact gQ (yJ _ (ke _))
 | enq p=>exact gQ (zo _ (ke _))
 | _=>exact Nu.rfl'.le
theorem DU{q:Tq}(h:q.pl=0):(q.ready c S).2.1.pl=0:=by
 cases q with
 | take k=>
  show(eP (k.ready S)).2.1.pl=0
  generalize k.ready S=r;obtain⟨b,k,S'⟩:=r
  cases b<;>rfl
 | scan s=>
  show((s.ready c S).2.1.pending).length=0
  have h:s.pending.length=0:=h;unfold Sc.ready Sc.next;simp only
  repeat' split
  all_goals exact h
 | post p=>
  show nv (p.ready S).2.1.ret=0
  have h:nv p.ret=0:=h;unfold Po.ready;generalize Tk.new.ready S=r;obtain⟨b,k,S'⟩:=r
  cases b
  ·exact h
  ·show nv (Po.jJ _ S').2.1.ret=0
   unfold Po.jJ
   split<;>exact h
 | deq g=>exact h
 | tab t=>
  have h:max (nv t.f.ret) (nv t.ret)=0:=h
  show max (nv (Fi.new t.root t.key).ret) (nv t.ret)=0
  have:nv (Fi.new t.root t.key).ret=0:=rfl;omega
 | pop p=>exact h
 | unreg u=>exact h
 | con w=>exact h
 | del x=>exact h
 | ins x=>exact h
 | aU p=>rfl
 | flush p=>rfl
 | gm r=>rfl
 | read r=>rfl
 | clear x=>rfl
 | push p=>rfl
 | enq p=>rfl
end
section
variable{c:Cf}{S S1:PM}{M:MM}{m:RM}{t n:Nat}{q:Tq}{s:iQ}
theorem nW(k:Tk):(k.ready S).2.2.used=S.used:=by
 unfold Tk.ready
 split<;>rfl
theorem GZ(q:Tq):(q.ready c S).2.2.used=S.used:=by
 cases q with
 | take k=>
  have h:=nW (S:=S) k
  show(eP (k.ready S)).2.2.used=_
  generalize k.ready S=r at h ⊢;obtain⟨b,k,S'⟩:=r
  cases b
  ·exact h
  ·show(if k.res<0 then S'.tell 4 0 else S'.tell 2 k.res).used=_
   split<;>exact h
 | aU p=>
  show(p.ready c S).2.2.used=_
  unfold Pu.ready
  split<;>rfl
 | flush p=>
  show(p.dU S).2.2.used=_
  unfold Pu.dU
  split<;>rfl
 | post p=>
  have h:=nW (S:=S) Tk.new
  show(p.behind (Tk.new.ready S)).2.2.used=_
  generalize Tk.new.ready S=r at h ⊢;obtain⟨b,k,S'⟩:=r
  cases b
  ·exact h
  ·show(Po.jJ _ S').2.2.used=_
   unfold Po.jJ
   split<;>exact h
 | scan x=>
  show(Sc.next c _ S).2.2.used=_
  unfold Sc.next;simp only
  repeat' split
  all_goals rfl
 | push p=>
  have h:=nW (S:=S) p.take
  show(Ps.behind {p with pc:=0} (p.take.ready S)).2.2.used=_
  generalize p.take.ready S=r at h ⊢;obtain⟨b,k,S'⟩:=r
  cases b
  ·exact h
  ·show(Ps.taken _ S').2.2.used=_
   unfold Ps.taken
   split<;>exact h
 | enq p=>
  have h:=nW (S:=S) Tk.new
  show(gO.behind {p with hz:=S.hz c 0} (Tk.new.ready S)).2.2.used=_
  generalize Tk.new.ready S=r at h ⊢;obtain⟨b,k,S'⟩:=r
  cases b
  ·exact h
  ·show(gO.jJ _ S').2.2.used=_
   unfold gO.jJ
   split<;>exact h
 | _=>rfl
theorem V3(hc:c.Ca≤64)(rd:Bool)(q:Tq)(hp:(rd=true→q.xh+tot S≤n)∧tot S≤n)(h0:rd=false→q.pl=0):Nu 1 1 (n+11) S (MM.xo c rd q S).2.2:=by
 cases rd with
 | true=>
  show Nu 1 1 (n+11) S (q.step c S).2.2
  exact(Rb hc q (hp.1 rfl)).le
 | false=>
  have h1:=uN (S:=S) hc q;have h2:=DU (c:=c) (S:=S) (h0 rfl);unfold MM.xo;simp only [mD,eu]
  by_cases hb:(q.ready c S).1=true
  ·rw [aY hb]
   exact h1.le
  ·rw [aK hb]
   have:=h1.tt;have:=Vc (q.ready c S).2.1;have:=hp.2;exact(h1.trans (Rb (m:=n) hc (q.ready c S).2.1 O_)).le
structure PI(c:Cf)(M:MM)(m:RM):Prop where
 mr:MR c M m
 mv:M.au≤65536
 lg:(M.pm.log.length:Int)≤M.au
 tt:(tot M.pm:Int)≤M.au
 sh:(M.pm.aG.length:Int)≤200000*M.au
 cl:(M.pm.calls.length:Int)≤M.au
 ca:∀ (j:Nat) (l:List Int),M.pm.aO[j]?=some l→l.length<100000
 ls:∀ (j:Nat) (s:iQ) (q:Tq),M.bI[j]?=some s→s.task=some q→0≤s.last
def MM.at(M:MM)(t la:Nat):PM:={M.pm with th:=t,now:=M.au,cur:=la,used:=false}
structure Sg(c:Cf)(t:Nat)(S:PM):Prop where
 I:Inv c t S
 sh:S.aG.length<20000000000
 lg:S.log.length<100000
 ca:S.cache.length<100000
 li:∀ r,(S.bQ r).length<100000
 us:S.used=false
structure Sx(c:Cf)(M:MM)(t la:Nat)(s:iQ)(q:Tq):Prop where
 last:s.last=la
 lt:la<M.pm.calls.length
 g:Sg c t (M.at t la)
 go:if s.ready then ∃ pc R bk nm pd,mS c q (M.at t la) pc R bk nm pd else ∃ pc,wK c q (M.at t la) pc
 mid:s.ready=false→(q.ready c (M.at t la)).1=false→Sg c t (q.ready c (M.at t la)).2.2∧∃ pc R bk nm pd,mS c (q.ready c (M.at t la)).2.1 (q.ready c (M.at t la)).2.2 pc R bk nm pd
 th:(MM.xo c s.ready q (M.at t la)).2.2.th=t
 cur:(MM.xo c s.ready q (M.at t la)).2.2.cur=la
 cl:(MM.xo c s.ready q (M.at t la)).2.2.calls.length=M.pm.calls.length
 ag:((MM.xo c s.ready q (M.at t la)).2.2.told.length:Int)=c.T
theorem Pk{T R H Re Ca S B:Int}(h:bY T R H Re Ca S B):Ca≤64:=h.2.2.2.2.2.2.2.2.2.1
theorem FM(h:PI c M m)(hs:M.bI[t]?=some s)(hq:s.task=some q)(hm:M.au<65536)(uA:s.ready=true→q.xh<100000)(LZ:s.ready=false→q.pl=0):
  (∃ la,Sx c M t la s q)∧∃ (n:Nat) (m':RM),m.step c n t=some m'∧PI c (M.step c t q s) {m' with au:=m'.au+1}:=by
 have Z9:=Pk h.mr.dX.ok;obtain⟨n,m',e1,e2⟩:=FB h.mr hs hq hm;have htl:t<M.bI.length:=(fO.1 hs).1;have WX:(t:Int)<c.T:=by have:=h.mr.l1;omega
 have Ay:=h.mr.mv;obtain⟨x,hx⟩:∃ x,m.T[t]?=some x:=⟨_,fy (by have:=h.mr.l2;omega)⟩;have ji:=h.mr.BS t s x hs hx;obtain⟨hca,hrc,ji⟩:=ji;rw [hq] at ji;obtain⟨Me,hcall,fQ,rV⟩:=ji;have hl0:=h.ls t s q hs hq;obtain⟨la,hla⟩:∃ la:Nat,s.last=la:=⟨s.last.toNat,O_⟩;have hlt:s.last.toNat=la:=O_
 have I:=h.mr.dX.inv (now:=M.au) (cur:=s.last.toNat) WX ⟨h.mr.mv,hm⟩ fQ;rw [hlt] at I;obtain⟨S,hS⟩:∃ S,S=M.at t la:=⟨_,rfl⟩;have mP:=hS;unfold MM.at at mP;rw [←mP] at I
 have L:NS (M.pm.on t s.last) S:=by
  rw [show M.pm.on t s.last={M.pm with th:=t,cur:=la} by unfold PM.on;rw [hlt],mP];exact⟨rfl,rfl,rfl,rfl,rfl⟩
 have AA:if s.ready then mS c q S x.pc x.R x.back x.names x.pending else wK c q S x.pc∧x.R=(fun _=>0)∧x.back= []:=by
  cases hr:s.ready with
  | true=>rw [hr,aY rfl] at rV;rw [aY rfl];exact zN L rV
  | false=>rw [hr,aK S_] at rV;rw [aK S_];exact⟨go_like L rV.1,rV.2⟩
 have ajl:(t:Int)<M.pm.aO.length:=by rw [h.mr.dX.ca];exact WX
 have mF:S.th=t:=I.me
 have aaa:S.cache.length<100000:=by
  obtain⟨l,hl⟩:∃ l,M.pm.aO[t]?=some l:=⟨_,fy O_⟩;have:=h.ca t l hl;rw [show S.cache=l by unfold PM.cache;rw [mP];show M.pm.aO.getD t []=l;rw [kO,hl];rfl];exact this
 have eT:tot S=tot M.pm:=by rw [mP];rfl
 have eL:S.log=M.pm.log:=by rw [mP]
 have eS:S.aG=M.pm.aG:=by rw [mP]
 have eC:S.aO=M.pm.aO:=by rw [mP]
 have eK:S.calls=M.pm.calls:=by rw [mP]
 have h1:=h.lg;have h2:=h.tt;have h3:=h.sh
 have sg:∀ {a b d:Nat} {S1:PM},Nu a b d S S1→Inv c t S1→S1.used=false→a≤1→b≤1→d≤200000→Sg c t S1:=fun{a b d S1} N I1 hu ha hb hd=>by
  have n1:=N.lg;have n2:=N.tt;have n3:=N.sh;rw [eL] at n1;rw [eT] at n2;rw [eS] at n3;exact⟨I1,O_,O_,N.ca (by rw [eC,mF];omega) aaa,fun r=>by have:=FX (S:=S1) (r:=r);omega,hu⟩
 obtain⟨b,q',S',cZ,R',eF,cG,cE,nn,hd,I',K',hend⟩:=MW (X:=m.T) I AA;have N:=V3 (c:=c) (S:=S) Z9 s.ready q (n:=100000+tot S) ⟨fun h=>by have:=uA h;omega,O_⟩ LZ;rw [hd] at N;simp only at N;have kcl:=K'.fr.le;have aeQ:=K'.cur;have kth:=I'.me;have kto:=I'.ag;have kfr:=K'.fr.ca;refine⟨⟨la,hla,?_,?_,?_,?_,?_,?_,?_,?_⟩,n,m',e1,e2,?_,?_,?_,?_,?_,?_,?_⟩
 ·obtain⟨y,hy,_⟩:=fQ
  rw [←hlt];exact(fO.1 hy).1
 ·rw [←hS]
  exact sg Nu.rfl' I (by rw [mP]) O_ O_ O_
 ·rw [←hS]
  cases hr:s.ready with
  | true=>rw [hr,aY rfl] at AA;rw [aY rfl];exact⟨_,_,_,_,_,AA⟩
  | false=>rw [hr,aK S_] at AA;rw [aK S_];exact⟨_,AA.1⟩
 ·rw [←hS]
  intro hr hb;rw [hr,aK S_] at AA;obtain⟨I1,K1,R1,WS,bk1,WU,WR,P⟩:=BM (X:=m.T) (nm:=x.names) (pd:=x.pending) I AA.1
  rcases P with ⟨_,ha,_⟩ | ⟨hb',_⟩
  ·exact⟨sg (uN Z9 q) I1 (by rw [GZ,mP]) O_ O_ O_,_,_,_,_,_,ha⟩
  ·rw [hb] at hb'
   cases hb'
 ·rw [←hS,hd];exact kth
 ·rw [←hS,hd]
  show S'.cur=la
  rw [aeQ,mP]
 ·rw [←hS,hd]
  show S'.calls.length=_
  rw [kcl,eK]
 ·rw [←hS,hd];exact kto
 all_goals
  have e:M.step c t q s=(let r:=MM.xo c s.ready q S
   if r.1 then{pm:={r.2.2 with calls:=r.2.2.calls.modify s.last.toNat fun x=>{x with en:=M.au,ak:=(r.2.2.told.getD t (0,0)).1,av:=(r.2.2.told.getD t (0,0)).2}},bI:=M.bI.set t ⟨none,true,s.last⟩,au:=M.au+1}
   else{pm:=r.2.2,bI:=M.bI.set t ⟨some r.2.1,true,s.last⟩,au:=M.au+1}):=by rw [mP,←hlt];rfl
  rw [hd] at e;simp only at e;rw [e];have n1:=N.lg;have n2:=N.tt;have n3:=N.sh;rw [eL] at n1;rw [eT] at n2 n3;rw [eS] at n3
 ·cases b<;>(show M.au+1≤65536;omega)
 ·cases b<;>(show(S'.log.length:Int)≤M.au+1;omega)
 ·cases b<;>(show(tot S':Int)≤M.au+1;omega)
 ·cases b<;>(show(S'.aG.length:Int)≤200000*(M.au+1);omega)
 ·have:=h.cl
  cases b
  ·show(S'.calls.length:Int)≤M.au+1
   rw [kcl,eK];omega
  ·show((S'.calls.modify _ _).length:Int)≤M.au+1
   rw [g8,kcl,eK];omega
 ·have hc:∀ (j:Nat) (l:List Int),S'.aO[j]?=some l→l.length<100000:=fun j l hl=>by
   by_cases hj:j=t
   ·have:=N.ca (by rw [eC,mF];omega) aaa
    rw [show S'.cache=l by unfold PM.cache;rw [kth,kO,←hj,hl];rfl] at this;exact this
   ·rw [kfr j (by rw [mF];exact hj),eC] at hl
    exact h.ca j l hl
  cases b<;>exact hc
 ·intro j s1 q1 hj pY
  have qV:∀ y:iQ,y.last=s.last→(M.bI.set t y)[j]?=some s1→0≤s1.last:=fun y hy hg=>by
   by_cases hjt:t=j
   ·subst hjt
    rw [gU hs] at hg;injection hg with hg;rw [←hg,hy];omega
   ·rw [oG hjt] at hg
    exact h.ls j s1 q1 hg pY
  cases b
  ·exact qV ⟨some q',true,s.last⟩ rfl (by simpa using hj)
  ·exact qV ⟨none,true,s.last⟩ rfl (by simpa using hj)
theorem Pe{p:Prop} [Decidable p]{x y:Option Tq}(hx:∀ q,x=some q→q.pl=0)(hy:∀ q,y=some q→q.pl=0):∀ q,(if p then x else y)=some q→q.pl=0:=by
 by_cases h:p
 ·rw [aY h];exact hx
 ·rw [aK h];exact hy
theorem Yy{op arg dat:Int}:∀ q,dh c S op arg dat=some q→q.pl=0:=by
 unfold dh
 repeat' (refine Pe ?_ ?_)
 all_goals (intro q h;first | (cases h;rfl) | cases h)
theorem PI.same{m2:RM}(h:PI c M m)(h2:MR c M m2):PI c M m2:=⟨h2,h.mv,h.lg,h.tt,h.sh,h.cl,h.ca,h.ls⟩
def Pl(M:MM):Prop:=∀ (j:Nat) (s:iQ) (q:Tq),M.bI[j]?=some s→s.task=some q→(s.ready=true→q.xh<100000)∧(s.ready=false→q.pl=0)
theorem O7{v:Mv}(h:PI c M m)(hk:Kr v.arg)(hp:Pl M):∃ (n:Nat) (m':RM),m.move c n v=some ((M.move c v).1,m')∧PI c (M.move c v).2 m':=by
 obtain⟨n,m',e1,e2⟩:=Px h.mr hk;refine⟨n,m',e1,?_⟩;have Ay:=h.mr.mv;have h1:=h.lg;have h2:=h.tt;have h3:=h.sh;have h4:=h.cl
 by_cases hm:65536≤M.au
 ·have e:M.move c v=(false,M):=by unfold MM.move;rw [aY hm]
  rw [e] at e2 ⊢;exact h.same e2
 have skip:∀ b,M.move c v=(b,{M with au:=M.au+1})→PI c (M.move c v).2 m':=fun b e=>by
  rw [e] at e2 ⊢;exact⟨e2,by show M.au+1≤65536;omega,by show(M.pm.log.length:Int)≤M.au+1;omega,by show(tot M.pm:Int)≤M.au+1;omega,by show(M.pm.aG.length:Int)≤200000*(M.au+1);omega,by show(M.pm.calls.length:Int)≤M.au+1;omega,h.ca,h.ls⟩
 by_cases ht:v.th<0∨M.bI.length≤v.th
 ·exact skip false (by unfold MM.move;rw [aK hm,aY ht])
 obtain⟨s,hs⟩:∃ s,M.bI[v.th.toNat]?=some s:=⟨_,fy O_⟩
 cases hq:s.task with
 | some q=>
  by_cases ho:v.op=0
  ·obtain⟨_,_,_,_,PY⟩:=FM h hs hq O_ (hp _ _ _ hs hq).1 (hp _ _ _ hs hq).2
   have e:M.move c v=(true,M.step c v.th.toNat q s):=by unfold MM.move;rw [aK hm,aK ht,hs];simp only [hq,aY ho]
   rw [e] at e2 ⊢;exact PY.same e2
  ·exact skip false (by unfold MM.move;rw [aK hm,aK ht,hs];simp only [hq,aK ho])
 | none=>
  by_cases ho:v.op=0
  ·exact skip false (by unfold MM.move;rw [aK hm,aK ht,hs];simp only [hq,aY ho])
  cases hmk:dh c {M.pm with th:=v.th.toNat} v.op v.arg v.dat with
  | none=>exact skip false (by unfold MM.move;rw [aK hm,aK ht,hs];simp only [hq,aK ho,hmk])
  | some q=>
   have e:M.move c v=(true,{pm:={M.pm with calls:=M.pm.calls++ [⟨v.th,v.op,v.arg,v.dat,M.au,-1,-1,0,0⟩],told:=M.pm.told.set v.th.toNat (1,0)},bI:=M.bI.set v.th.toNat ⟨some q,false,M.pm.calls.length⟩,au:=M.au+1}):=by
    unfold MM.move;rw [aK hm,aK ht,hs];simp only [hq,aK ho,hmk]
   rw [e] at e2 ⊢;refine⟨e2,by show M.au+1≤65536;omega,by show(M.pm.log.length:Int)≤M.au+1;omega,by show(tot M.pm:Int)≤M.au+1;omega,by show(M.pm.aG.length:Int)≤200000*(M.au+1);omega,?_,h.ca,?_⟩
   ·show((M.pm.calls++ [_]).length:Int)≤M.au+1
    rw [gP];simp only [ij,mB];omega
   ·intro j s1 q1 hj pY
    by_cases hjt:v.th.toNat=j
    ·subst hjt
     rw [show(M.bI.set v.th.toNat _)[v.th.toNat]?=_ from gU hs] at hj;injection hj with hj;rw [←hj]
     show 0≤((M.pm.calls.length:Nat):Int)
     omega
    ·rw [show(M.bI.set v.th.toNat _)[j]?=M.bI[j]? from oG hjt] at hj
     exact h.ls j s1 q1 hj pY
end
section
variable{K:Ky}{zz:Int×Int×Bool}{c:Cf}{S S':PM}{ss:List Sv}{w0 w w':World}{F G O:List En}{d n b k:Nat}{x y:En}
theorem aq.XJ(h:aq K c S ss w0 w F){t la:Nat}{v:Sv}{u:Int×Int}(hv:ss[t]?=some v)(hu:S.told[t]?=some u)(hla:v.last=la):J4 K S t la w:=by
 have h2:=h.nu hv hu 2 O_;obtain⟨s,p⟩:=h.bm;exact⟨p.1 10,by rw [h2];show some (Value.int .i64 v.last)=_;rw [hla]⟩
@[reducible] def StQ(K:Ky)(S:PM)(t la:Nat)(u:Int×Int)(W:World):Prop:=(W.cell? ⟨K.bM,10,none⟩=some (.slice (some ⟨K.gc,0,none⟩) S.calls.length K.cc)∧W.cell? ⟨K.gs,t*5+2,none⟩=some (.int .i64 la))∧W.cell? ⟨K.gs,t*5+3,none⟩=some (.int .i64 u.1)∧W.cell? ⟨K.gs,t*5+3+1,none⟩=some (.int .i64 u.2)
theorem aq.stq(h:aq K c S ss w0 w F){t la:Nat}{v:Sv}{u:Int×Int}(hv:ss[t]?=some v)(hu:S.told[t]?=some u)(hla:v.last=la):StQ K S t la u w:=
 ⟨h.XJ hv hu hla,h.nu hv hu 3 O_,h.nu hv hu 4 O_⟩
theorem BT{α:Type}{l:List α}{i:Nat}{x:α}(h:l[i]?=some x):l.set i x=l:=by
 refine wU fun j=>?_
 rw [wV]
 by_cases e:i=j
 ·subst e
  rw [aY rfl,aY (fO.1 h).1,h]
 ·rw [aK e]
theorem RL{q:Tq}:MM.xo c false q S=if(q.ready c S).1 then q.ready c S else(q.ready c S).2.1.step c (q.ready c S).2.2:=rfl
theorem aaS{q:Tq}:MM.xo c true q S=q.step c S:=rfl
theorem uY(q:Tq)(S:PM):(q.ready c S).2.1.ty=q.ty∧(q.ready c S).2.1.fs=q.fs:=by
 cases q with
 | take k=>
  show(eP (k.ready S)).2.1.ty=_∧(eP (k.ready S)).2.1.fs=_
  rw [uo.2.1];exact⟨rfl,rfl⟩
 | _=>exact⟨rfl,rfl⟩
theorem sE{α:Type}{l:List α}{i:Nat}{f:α→α}{z:α}(h:l[i]?=some z):(l.modify i f)[i]?=some (f z):=by
 rw [yq,h];simp
theorem aq.OL(h:aq K c S ss w0 w F){t la:Nat}{v:Sv}{u:Int×Int}(hv:ss[t]?=some v)(hu:S.told[t]?=some u)(hla:v.last=la)(hl:S.calls.length=S'.calls.length):J4 K S' t la w:=by
 have q:=h.XJ hv hu hla;unfold J4 at q ⊢;rw [hl] at q;exact q
theorem aq.G9(h:aq K c S ss w0 w F){t la:Nat}{v:Sv}{u:Int×Int}(hv:ss[t]?=some v)(hu:S.told[t]?=some u)(hla:v.last=la)(hl:S.calls.length=S'.calls.length):StQ K S' t la u w:=⟨h.OL hv hu hla hl,(h.stq hv hu hla).2⟩
theorem Uk{l:List Cl}{i:Nat}{a b d:Int}:((l.modify i fun z=>{z with en:=a}).modify i fun z=>{z with ak:=b}).modify i (fun z=>{z with av:=d})=l.modify i fun x=>{x with en:=a,ak:=b,av:=d}:=by
 refine wU fun j=>?_
 simp only [yq]
 by_cases h:i=j
 ·simp only [h,dL]
  cases l[j]?<;>rfl
 ·simp only [h,eu]
  cases l[j]?<;>rfl
def Xn(K:Ky)(c:Cf)(ss:List Sv)(w0:World)(F:List En)(t la k:Nat)(nw:Int)(v:Sv)(r:Bool×Tq×PM):Ending→World→Prop:=fun e w'=>e=.returned (.tuple #[])∧∃ L,(r.1=false→qu K c t k r.2.1 L)∧
 Idle K (r.2.2.th,r.2.2.now,r.2.2.used) c (if r.1 then{r.2.2 with calls:=r.2.2.calls.modify la fun x=>{x with en:=nw,ak:=(r.2.2.told.getD t (0,0)).1,av:=(r.2.2.told.getD t (0,0)).2}} else r.2.2) (ss.set t ⟨if r.1 then .nilIface else v.task,true,la⟩) w0 w' (L++F)
theorem Yv{M:MM}{t la:Nat}{v:Sv}{u:Int×Int}{q:Tq}{s:iQ}(h:Idle K zz c M.pm ss w0 w (O++F))(hv:ss[t]?=some v)(hu:M.pm.told[t]?=some u)(hq:v.task=.iface q.ty (some k))(hla:v.last=s.last)(hr:v.ready=s.ready)
  (hT:(ss.length:Int)=c.T) (ho:if s.ready then qu K c t k q O else Ol K c t k q O) (hx:Sx c M t la s q):
  Calls prog 50 #[some K.bM,t,M.au] w (Xn K c ss w0 F t la k M.au v (MM.xo c s.ready q (M.at t la))):=by
 obtain⟨x1,x2,x3,x4,x5,x6,x7,x8,x9⟩:=hx;rw [x1] at hla;generalize s.ready=sr at hr ho x4 x5 x6 x7 x8 x9 ⊢;clear x1;have r:=Yp h O_ hv hu hla M.au;have o34:Opn K c (M.at t la) ss w0 (O++F) M.au _:=Yo h O_ t M.au la;have o43:Opn K c (M.at t la) ss w0 (O++F) M.au _:=Yn h O_ t M.au la;obtain⟨bs,p0⟩:=h.bm;have st:=h.nu hv hu;have hu':(M.at t la).told[t]?=some u:=hu;have mF:(M.at t la).th=t:=rfl;obtain⟨r0,r3,r4,WN,WM⟩:=r;generalize M.at t la=S' at x3 x4 x5 x6 x7 x8 x9 o34 o43 hu' mF ⊢;obtain⟨⟨rb,rq,rS⟩,iF⟩:∃ r,MM.xo c sr q S'=r:=⟨_,rfl⟩;rw [iF] at x6 x7 x8 x9 ⊢;have iF:=aJ iF;have x5:=aJ x5;simp only at x6 x7 x8 x9;generalize M.au=nw at r0 r3 r4 WN WM o34 o43 ⊢;generalize M.pm=S at x2 x8 h p0 st hu r0 r3 r4 WN WM;have htl:=(fO.1 hv).1;have d1:decide ((t:Int)<(ss.length:Int))=true:=by simp;omega
 have d2:decide ((la:Int)<(S.calls.length:Int))=true:=by simp;omega
 have WZ:=fun w=>DS q k w
 have hm2:=fun w=>GX q k w
 rw [show prog.types.size+100=456 from rfl] at WZ hm2;have he1:=DT q;have he2:=GY q;clear h;go_in;go_wp2_with fail
 go_cut [] (fun wx=>Hid (Opn K c S' ss w0 (O++F) nw wx))
 case first=>
  go_region_held3 (fun W=>J4 K S t la W) (first | with_reducible exact r0 | with_reducible exact r3 | with_reducible exact r4 | with_reducible exact WN | with_reducible exact WM) (fail)
  all_goals
   go_wp2_with fail
   go_meet
   case rel=>first | exact aJ o34 | exact aJ o43
 obtain⟨b0,hop⟩:=hcut.out;clear hcut r0 r3 r4 WN WM o34 o43 d2;go_wp2_with fail;refine un hop fun w1 m1=>?_
 have m2:=(m1.alloc #[some K.bM] 243).perm (dV.symm:(_::(O++F)).Perm _);have s2:=m2.nu hv hu';have q0:=(s2 0 O_).trans (show _=some (Value.iface q.ty (some k)) by rw [←hq];rfl);have q1:=(s2 1 O_).trans (show _=some (Value.bool sr) by rw [←hr];rfl);rw [gn] at q0;clear s2;have f1:=m2.yD (t*5+1);have hd:dk K.toMk w1.heap.size∈dk K.toMk w1.heap.size::F:=gq ..;have gd:∀ S1 ss1,Sg c t S1→(ss1.length:Int)=c.T→Gd 20000000000 c S1 ss1:=fun S1 ss1 g hl=>⟨by rw [g.I.me];exact g.I,g.sh,by have:=g.I.ag;omega,g.ca,g.li⟩
 have iE:(ss.set t ⟨v.task,true,la⟩)[t]?=some ⟨v.task,true,la⟩:=g9 htl;have hT1:((ss.set t ⟨v.task,true,la⟩).length:Int)=c.T:=by rw [cW];exact hT
 cases sr with
 | false=>
  have m3:=m2.uv hv hu' (v':=⟨v.task,true,la⟩) (i:=1) (x:=.bool true) (by rw [←hla];rfl) O_;rw [aK S_] at x4 ho;obtain⟨Ag,x4⟩:=x4;rw [←mF] at ho;have C:=OC m3 ho hd (gd S' _ x3 hT1) O_ x4;have et:=(uY q (c:=c) S').2;replace iF:=iF.out;rw [RL] at iF;replace x5:=x5.out rfl;generalize q.ready c S'=r1 at x5 C iF et;obtain⟨b1,q1,S1⟩:=r1;simp only at x5 iF et
  cases b1
  ·obtain⟨g1,WS,R1,bk1,WU,WR,a1⟩:=x5 rfl
   rw [aK S_] at iF;replace iF:=aJ iF;replace et:=aJ et;clear x4 ho m2;go_wp2_with fail;refine C.mono ?_;clear C;rintro e w2 ⟨rfl,L,o2,m4⟩;have o3:=o2 rfl;have e1:S1.th=t:=g1.I.me;have lg1:S1.log.length<1000000:=by have:=g1.lg;omega
   rw [mF,←e1] at o3;have C:=Kl m4 o3 hd (gd S1 _ g1 hT1) ⟨g1.us,lg1⟩ O_ a1;rw [et.out,iF.out] at C;obtain⟨u1,ZQ⟩:∃ u1,S1.told[t]?=some u1:=⟨_,fy (by have:=g1.I.ag;omega)⟩;have b0:=(m4.nu iE ZQ 0 O_).trans (show _=some (Value.iface q.ty (some k)) by rw [←hq];rfl);rw [gn] at b0;clear a1 o3 o2 et iF x5
   cases rb
   all_goals
    go_wp2_with fail;refine C.mono ?_;clear C;rintro e w3 ⟨rfl,L,o2,m5⟩
   ·obtain⟨bq,p5,p5f⟩:=m5.bm
    have n5:=((m5.close (show 0<rS.calls.length from O_)).perm dV).drop;rw [e1] at o2;have Av:=aJ (show qu K c t k rq L by first | exact o2 rfl | exact o2 trivial);clear o2;go_wp2_with fail;refine iP ⟨rfl,L,fun _=>Av.out,n5⟩
   ·obtain⟨zc,hzc⟩:∃ zc,rS.calls[la]?=some zc:=⟨_,fy O_⟩
    obtain⟨u2,hu2⟩:∃ u2,rS.told[t]?=some u2:=⟨_,fy O_⟩;have dq:decide ((la:Int)<(rS.calls.length:Int))=true:=by simp;omega
    have k0:=m5.drew.XJ iE hu2 rfl;have f5:=m5.rA (la*9+5);have c5:_=some (Value.int .i64 zc.en):=(m5.zv hzc 5 O_).trans rfl;have n1:=m5.fU hzc (fun z=>{z with en:=nw}) (i:=5) (x:=.int .i64 nw) rfl O_;have CC:(rS.calls.modify la fun z=>{z with en:=nw}).length=rS.calls.length:=g8 _ _ _;have Rv:=n1.drew.OL (S':=rS) (u:=u2) iE hu2 rfl CC;clear CC;go_wp2
    go_region_held3 (fun W=>J4 K rS t la W) (first | with_reducible exact k0 | with_reducible exact Rv) (fail)
    go_wp2_with fail;clear k0 Rv f5 c5;replace n1:=n1.drew;generalize (w3.setCell ⟨K.gc,la*9+5,none⟩ nw).drew=W1 at n1 ⊢;have CC:(rS.calls.modify la fun z=>{z with en:=nw}).length=rS.calls.length:=g8 _ _ _;have xM:(rS.calls.modify la fun z=>{z with en:=nw})[la]?=some {zc with en:=nw}:=sE hzc;have ck:=n1.zv xM;have fk7:=n1.rA (la*9+7);have fk8:=n1.rA (la*9+7+1);have ck7:_=some (Value.int .i64 zc.ak):=(ck 7 O_).trans rfl;have ck8:W1.cell? ⟨K.gc,la*9+7+1,none⟩=some (Value.int .i64 zc.av):=(ck 8 O_).trans rfl;have k1:=n1.drew.G9 (S':=rS) (u:=u2) iE hu2 rfl CC;have n2:=n1.fU xM (fun z=>{z with ak:=u2.1}) (i:=7) (x:=.int .i64 u2.1) rfl O_;have Rw:((rS.calls.modify la fun z=>{z with en:=nw}).modify la fun z=>{z with ak:=u2.1})[la]?=some {zc with en:=nw,ak:=u2.1}:=sE xM;have n3:=show aq _ _ _ _ _ (World.setCell _ ⟨K.gc,la*9+7+1,none⟩ _) _ from n2.fU Rw (fun z=>{z with av:=u2.2}) (i:=8) (x:=.int .i64 u2.2) rfl O_;have CB:(((rS.calls.modify la fun z=>{z with en:=nw}).modify la fun z=>{z with ak:=u2.1}).modify la fun z=>{z with av:=u2.2}).length=rS.calls.length:=by rw [g8,g8,g8]
    have k3:=n3.drew.G9 (S':=rS) (u:=u2) iE hu2 rfl CB;clear CC CB xM Rw ck n2 n1
    go_region_held3 (fun W=>StQ K rS t la u2 W) (first | with_reducible exact k1 | with_reducible exact k3) (fail)
    have n3:=n3.drew;generalize ((W1.setCell ⟨K.gc,la*9+7,none⟩ u2.1).setCell ⟨K.gc,la*9+7+1,none⟩ u2.2).drew=W2 at n3 ⊢;have n4:=n3.uv iE hu2 (v':=⟨.nilIface,true,la⟩) (i:=0) (x:=.nilIface) rfl O_;have IM:0<(((rS.calls.modify la fun z=>{z with en:=nw}).modify la fun z=>{z with ak:=u2.1}).modify la fun z=>{z with av:=u2.2}).length:=by rw [g8,g8,g8];omega
    have n5:=((n4.close IM).perm dV).drop;obtain⟨bq,p4,p4f⟩:=n4.bm;have e3:=p4 3;have e4:=p4 4;clear p4;have fs0:=n3.yD (t*5+0);have mY:W2.cell? ⟨K.gs,t*5+0,none⟩=some v.task:=(n3.nu iE hu2 0 O_).trans rfl;rw [gn] at fs0 mY n5 e3 e4 p4f;simp only [yu,ug] at e3 e4;clear n4 n3 k1 k3 fk7 fk8 ck7 ck8;go_wp2_with fail;refine iP ⟨rfl,L,(fun e=>by cases e),?_⟩;simp only [dL];rw [tZ,Uk] at n5;rw [kO,hu2];exact n5
  ·rw [aY rfl] at iF
   cases iF
   clear x4 ho m2 x5 et;go_wp2_with fail;refine C.mono ?_;clear C;rintro e w2 ⟨rfl,L,o2,m5⟩;obtain⟨zc,hzc⟩:∃ zc,rS.calls[la]?=some zc:=⟨_,fy O_⟩;obtain⟨u2,hu2⟩:∃ u2,rS.told[t]?=some u2:=⟨_,fy O_⟩;have dq:decide ((la:Int)<(rS.calls.length:Int))=true:=by simp;omega
   have k0:=m5.drew.XJ iE hu2 rfl;have f5:=m5.rA (la*9+5);have c5:_=some (Value.int .i64 zc.en):=(m5.zv hzc 5 O_).trans rfl;have n1:=m5.fU hzc (fun z=>{z with en:=nw}) (i:=5) (x:=.int .i64 nw) rfl O_;have CC:(rS.calls.modify la fun z=>{z with en:=nw}).length=rS.calls.length:=g8 _ _ _;have Rv:=n1.drew.OL (S':=rS) (u:=u2) iE hu2 rfl CC;clear CC;go_wp2
   go_region_held3 (fun W=>J4 K rS t la W) (first | with_reducible exact k0 | with_reducible exact Rv) (fail)
   go_wp2_with fail;clear k0 Rv f5 c5;replace n1:=n1.drew;generalize (w2.setCell ⟨K.gc,la*9+5,none⟩ nw).drew=W1 at n1 ⊢;have CC:(rS.calls.modify la fun z=>{z with en:=nw}).length=rS.calls.length:=g8 _ _ _;have xM:(rS.calls.modify la fun z=>{z with en:=nw})[la]?=some {zc with en:=nw}:=sE hzc;have ck:=n1.zv xM;have fk7:=n1.rA (la*9+7);have fk8:=n1.rA (la*9+7+1);have ck7:_=some (Value.int .i64 zc.ak):=(ck 7 O_).trans rfl;have ck8:W1.cell? ⟨K.gc,la*9+7+1,none⟩=some (Value.int .i64 zc.av):=(ck 8 O_).trans rfl;have k1:=n1.drew.G9 (S':=rS) (u:=u2) iE hu2 rfl CC;have n2:=n1.fU xM (fun z=>{z with ak:=u2.1}) (i:=7) (x:=.int .i64 u2.1) rfl O_;have Rw:((rS.calls.modify la fun z=>{z with en:=nw}).modify la fun z=>{z with ak:=u2.1})[la]?=some {zc with en:=nw,ak:=u2.1}:=sE xM;have n3:=show aq _ _ _ _ _ (World.setCell _ ⟨K.gc,la*9+7+1,none⟩ _) _ from n2.fU Rw (fun z=>{z with av:=u2.2}) (i:=8) (x:=.int .i64 u2.2) rfl O_;have CB:(((rS.calls.modify la fun z=>{z with en:=nw}).modify la fun z=>{z with ak:=u2.1}).modify la fun z=>{z with av:=u2.2}).length=rS.calls.length:=by rw [g8,g8,g8]
   have k3:=n3.drew.G9 (S':=rS) (u:=u2) iE hu2 rfl CB;clear CC CB xM Rw ck n2 n1
   go_region_held3 (fun W=>StQ K rS t la u2 W) (first | with_reducible exact k1 | with_reducible exact k3) (fail)
   have n3:=n3.drew;generalize ((W1.setCell ⟨K.gc,la*9+7,none⟩ u2.1).setCell ⟨K.gc,la*9+7+1,none⟩ u2.2).drew=W2 at n3 ⊢;have n4:=n3.uv iE hu2 (v':=⟨.nilIface,true,la⟩) (i:=0) (x:=.nilIface) rfl O_;have IM:0<(((rS.calls.modify la fun z=>{z with en:=nw}).modify la fun z=>{z with ak:=u2.1}).modify la fun z=>{z with av:=u2.2}).length:=by rw [g8,g8,g8];omega
   have n5:=((n4.close IM).perm dV).drop;obtain⟨bq,p4,p4f⟩:=n4.bm;have e3:=p4 3;have e4:=p4 4;clear p4;have fs0:=n3.yD (t*5+0);have mY:W2.cell? ⟨K.gs,t*5+0,none⟩=some v.task:=(n3.nu iE hu2 0 O_).trans rfl;rw [gn] at fs0 mY n5 e3 e4 p4f;simp only [yu,ug] at e3 e4;clear n4 n3 k1 k3 fk7 fk8 ck7 ck8;go_wp2_with fail;refine iP ⟨rfl,L,(fun e=>by cases e),?_⟩;simp only [dL];rw [tZ,Uk] at n5;rw [kO,hu2];exact n5
 | true=>
  rw [aY rfl] at x4 ho;obtain⟨Ag,R0,bk0,nm0,pd0,x4⟩:=x4;rw [←mF] at ho;have m3:=m2;rw [←show ss.set t ⟨v.task,true,la⟩=ss by rw [←hla,←hr];exact BT hv] at m3;have C:=Kl m3 ho hd (gd S' _ x3 hT1) ⟨x3.us,by have:=x3.lg;omega⟩ O_ x4;rw [←aaS,iF.out] at C;clear x4 ho m2 x5 iF
  cases rb
  all_goals
   go_wp2_with fail;refine C.mono ?_;clear C;rintro e w2 ⟨rfl,L,o2,m5⟩
  ·obtain⟨bq,p5,p5f⟩:=m5.bm
   have n5:=((m5.close (show 0<rS.calls.length from O_)).perm dV).drop;rw [mF] at o2;have Av:=aJ (show qu K c t k rq L by first | exact o2 rfl | exact o2 trivial);clear o2;go_wp2_with fail;refine iP ⟨rfl,L,fun _=>Av.out,n5⟩
  ·obtain⟨zc,hzc⟩:∃ zc,rS.calls[la]?=some zc:=⟨_,fy O_⟩
   obtain⟨u2,hu2⟩:∃ u2,rS.told[t]?=some u2:=⟨_,fy O_⟩;have dq:decide ((la:Int)<(rS.calls.length:Int))=true:=by simp;omega
   have k0:=m5.drew.XJ iE hu2 rfl;have f5:=m5.rA (la*9+5);have c5:_=some (Value.int .i64 zc.en):=(m5.zv hzc 5 O_).trans rfl;have n1:=m5.fU hzc (fun z=>{z with en:=nw}) (i:=5) (x:=.int .i64 nw) rfl O_;have CC:(rS.calls.modify la fun z=>{z with en:=nw}).length=rS.calls.length:=g8 _ _ _;have Rv:=n1.drew.OL (S':=rS) (u:=u2) iE hu2 rfl CC;clear CC;go_wp2
   go_region_held3 (fun W=>J4 K rS t la W) (first | with_reducible exact k0 | with_reducible exact Rv) (fail)
   go_wp2_with fail;clear k0 Rv f5 c5;replace n1:=n1.drew;generalize (w2.setCell ⟨K.gc,la*9+5,none⟩ nw).drew=W1 at n1 ⊢;have CC:(rS.calls.modify la fun z=>{z with en:=nw}).length=rS.calls.length:=g8 _ _ _;have xM:(rS.calls.modify la fun z=>{z with en:=nw})[la]?=some {zc with en:=nw}:=sE hzc;have ck:=n1.zv xM;have fk7:=n1.rA (la*9+7);have fk8:=n1.rA (la*9+7+1);have ck7:_=some (Value.int .i64 zc.ak):=(ck 7 O_).trans rfl;have ck8:W1.cell? ⟨K.gc,la*9+7+1,none⟩=some (Value.int .i64 zc.av):=(ck 8 O_).trans rfl;have k1:=n1.drew.G9 (S':=rS) (u:=u2) iE hu2 rfl CC;have n2:=n1.fU xM (fun z=>{z with ak:=u2.1}) (i:=7) (x:=.int .i64 u2.1) rfl O_;have Rw:((rS.calls.modify la fun z=>{z with en:=nw}).modify la fun z=>{z with ak:=u2.1})[la]?=some {zc with en:=nw,ak:=u2.1}:=sE xM;have n3:=show aq _ _ _ _ _ (World.setCell _ ⟨K.gc,la*9+7+1,none⟩ _) _ from n2.fU Rw (fun z=>{z with av:=u2.2}) (i:=8) (x:=.int .i64 u2.2) rfl O_;have CB:(((rS.calls.modify la fun z=>{z with en:=nw}).modify la fun z=>{z with ak:=u2.1}).modify la fun z=>{z with av:=u2.2}).length=rS.calls.length:=by rw [g8,g8,g8]
   have k3:=n3.drew.G9 (S':=rS) (u:=u2) iE hu2 rfl CB;clear CC CB xM Rw ck n2 n1
   go_region_held3 (fun W=>StQ K rS t la u2 W) (first | with_reducible exact k1 | with_reducible exact k3) (fail)
   have n3:=n3.drew;generalize ((W1.setCell ⟨K.gc,la*9+7,none⟩ u2.1).setCell ⟨K.gc,la*9+7+1,none⟩ u2.2).drew=W2 at n3 ⊢;have n4:=n3.uv iE hu2 (v':=⟨.nilIface,true,la⟩) (i:=0) (x:=.nilIface) rfl O_;have IM:0<(((rS.calls.modify la fun z=>{z with en:=nw}).modify la fun z=>{z with ak:=u2.1}).modify la fun z=>{z with av:=u2.2}).length:=by rw [g8,g8,g8];omega
   have n5:=((n4.close IM).perm dV).drop;obtain⟨bq,p4,p4f⟩:=n4.bm;have e3:=p4 3;have e4:=p4 4;clear p4;have fs0:=n3.yD (t*5+0);have mY:W2.cell? ⟨K.gs,t*5+0,none⟩=some v.task:=(n3.nu iE hu2 0 O_).trans rfl;rw [gn] at fs0 mY n5 e3 e4 p4f;simp only [yu,ug] at e3 e4;clear n4 n3 k1 k3 fk7 fk8 ck7 ck8;go_wp2_with fail;refine iP ⟨rfl,L,(fun e=>by cases e),?_⟩;simp only [dL];rw [tZ,Uk] at n5;rw [kO,hu2];exact n5
end
section
variable{K:Ky}{zz:Int×Int×Bool}{c:Cf}{S S':PM}{ss:List Sv}{w0 w w':World}{F G O L:List En}{d n b k kb bK t:Nat}{x y:En}{op arg dat th:Int}{v:Sv}{u:Int×Int}
theorem Rh{K:Ky}(m:Mk){c:Cf}{th:Int}{k:Nat}{x:Sc}{L:List En}(h:qx {K with toMk:=m} c th k x L):qx K c th k x L:=by
 cases h with
 | look h hp=>exact qx.look h hp
 | name b f h hp hn hf=>exact qx.name b f h hp hn hf
 | free mv g j j' cc c' kg l0 p h hp hl hjn hj hc hn=>exact qx.free mv g j j' cc c' kg l0 p h hp hl hjn hj hc hn
theorem zX{K:Ky}(m:Mk){c:Cf}{th:Int}{k:Nat}{x:Sc}{L:List En}:qx {K with toMk:=m} c th k x L↔qx K c th k x L:=⟨Rh m,fun h=>Rh (K:={K with toMk:=m}) K.toMk h⟩
theorem D7{K:Ky}(m:Mk){c:Cf}{th:Int}{k:Nat}{x:Rt}{L:List En}:zC {K with toMk:=m} c th k x L↔zC K c th k x L:=by
 unfold zC;simp only [zX]
theorem ML{K:Ky}(m:Mk){c:Cf}{th k:Nat}{x:Fi}{L:List En}:jN {K with toMk:=m} c th k x L↔jN K c th k x L:=by
 unfold jN;simp only [D7]
theorem Km{q:Tq}(m:Mk):qu {K with toMk:=m} c t k q L↔qu K c t k q L:=by
 cases q<;>first
  | exact Iff.rfl
  | exact zX m
  | (simp only [qu,Ng,GL,uH,rY,Fg,GO,ym,rH,zX,D7,ML];done)
theorem zO{q:Tq}(m:Mk):Ol {K with toMk:=m} c t k q L↔Ol K c t k q L:=by
 cases q<;>first
  | exact Iff.rfl
  | (simp only [Ol,qu,Ng,Fg,GO,ym,zX,D7,ML];done)
theorem Xn.drop{la:Nat}{nw:Int}{r:Bool×Tq×PM}{e:Ending}(h:Xn K c ss w0 (x::F) t la k nw v r e w):Xn K c ss w0 F t la k nw v r e w:=by
 obtain⟨e,L,o,h⟩:=h;exact⟨e,L,o,(h.perm dV).drop⟩
theorem Ue{M:MM}{la:Nat}{q:Tq}{s:iQ}(h:Idle K zz c M.pm ss w0 w (O++F))(hv:ss[t]?=some v)(hu:M.pm.told[t]?=some u)(hK:K.au=M.au)(h0:0≤K.au)(hm:K.au<65536)(hq:v.task=.iface q.ty (some k))(hla:v.last=s.last)(hr:v.ready=s.ready)
  (hT:(ss.length:Int)=c.T) (ho:if s.ready then qu K c t k q O else Ol K c t k q O) (hx:Sx c M t la s q):
  cm 11 #[some K.bM,gB t 0 arg dat] w true fun w'=>Xn (K.mv (K.au+1)) c ss w0 F t la k M.au v (MM.xo c s.ready q (M.at t la)) (.returned (.tuple #[])) w':=by
 have hs:0<ss.length:=by have:=(fO.1 hv).1;omega
 have h:=h;have jF:=h.bm;have h1:=h.alloc #[.int .i64 (t:Int),.int .i64 0,arg,dat] 36;have pm:=h1.af aj;obtain⟨s1,p1⟩:=h1.bm;have dn:((ss.length:Int)==0)=false:=by rw [gp];omega
 have LV:IntKind.i64.wrap (K.au+1)=K.au+1:=ei O_ O_;have h2:=h1.vq (K.au+1);have dN:=h2.af aj;obtain⟨s2,p2⟩:=h2.bm;have z2:=h2.TJ;have WD:=h2.cell aj (i:=0) rfl;have WC:=h2.cell aj (i:=1) rfl;have WB:=h2.cell aj (i:=2) rfl;have WA:=h2.cell aj (i:=3) rfl;have dm:decide (65536≤K.au)=false:=dy O_;have d0:decide ((t:Int)<0)=false:=dy O_;have htl:=(fO.1 hv).1;have d1:decide ((ss.length:Int)≤(t:Int))=false:=dy O_;have d2:decide ((t:Int)<(ss.length:Int))=true:=cM O_;have Bl:∀ z:aL _,_:=fun z=>((h2.iD z).nu hv hu 0 O_).trans (show _=some v.task from rfl)
 simp only [gn] at Bl;rw [hq] at Bl
 have Av:if s.ready then qu (K.mv (K.au+1)) c t k q O else Ol (K.mv (K.au+1)) c t k q O:=by
  cases Va:s.ready with
  | true=>rw [Va,aY rfl] at ho;rw [aY rfl];exact(Km _).2 ho
  | false=>rw [Va,aK S_] at ho;rw [aK S_];exact(zO _).2 ho
 have hp:=(dV.symm:(ob w.heap.size 36 #[.int .i64 t,.int .i64 0,.int .i64 arg,.int .i64 dat].toList::(O++F)).Perm _);have C:=fun w1 (h:Idle (K.mv (K.au+1)) zz c M.pm ss w0 w1 _)=>Yv (h.perm hp) hv hu hq hla hr hT Av hx
 replace C:=aJ C;replace hK:=aJ hK;clear jF h hq hla hr hT ho Av hx hp;go_enter func11,ntmps11;go_wp2_with fail;refine qE fun PS=>?_
 go_wp2_with fail;refine qZ PS fun PR=>?_
 go_wp2_with fail;have C:=C.out _ (h2.iD PR);rw [←hK.out] at C;refine un C fun w3 hw=>?_
 go_wp2;go_ret;refine⟨rfl,?_⟩;rw [←hK.out];exact Xn.drop ⟨rfl,hw⟩
end
section
variable{K:Ky}{zz:Int×Int×Bool}{c:Cf}{S S':PM}{ss:List Sv}{w0 w w':World}{F G O L:List En}{d n b k kb bK t:Nat}{x y:En}{op arg dat th:Int}{v v':Sv}{u u':Int×Int}
theorem Db(g c n:Nat):∃ A c',mh g c n=.slice A n c':=by
 unfold mh
 by_cases h:n=0
 ·subst h;exact⟨none,0,rfl⟩
 ·rw [aK h];exact⟨_,c,rfl⟩
theorem Ka(ss:List Sv)(l:List (Int×Int))(i:Nat)(v:Sv)(u:Int×Int):(ss.set i v).zip (l.set i u)=(ss.zip l).modify i fun _=>(v,u):=by
 refine wU fun j=>?_
 simp only [yq,List.zip,List.getElem?_zipWith,wV]
 by_cases h:i=j
 ·subst h
  simp only [dL]
  by_cases h1:i<ss.length
  ·by_cases h2:i<l.length
   ·simp [h1,h2]
   ·simp [h2]
  ·simp [h1]
 ·exact Nt
theorem Idle.KP(h:Idle K zz c S ss w0 w F)(hv:ss[t]?=some v)(hu:S.told[t]?=some u){i:Nat}{x:Value}(he:dO (v',u')=(dO (v,u)).set i x)(hi:i<5):
  Idle K zz c {S with told:=S.told.set t u'} (ss.set t v') w0 (w.setCell ⟨K.gs,t*5+i,none⟩ x) F:=by
 obtain⟨cv,lv,a,b,l,p,s,ah,q,h⟩:=h;have hz:(ss.zip S.told)[t]?=some (v,u):=by rw [JO];exact⟨hv,hu⟩
 have h2:=Has.fD (A:= [_,_,_,_,_,_,_]) h (t*5+i) x;refine⟨cv,lv,a,b,l,p,s,ah,q,?_⟩;unfold tB;rw [cW,show({S with told:=S.told.set t u'}:PM).told=S.told.set t u' from rfl,Ka,iK dO 5 (fun _=>rfl) hz (f:=fun _=>(v',u')) he hi];exact h2
theorem Idle.yD(h:Idle K zz c S ss w0 w F)(i:Nat):w.frozen? ⟨K.gs,i,none⟩=false:=R7
theorem Idle.begin(h:Idle K zz c S ss w0 w F)(hv:ss[t]?=some v)(hu:S.told[t]?=some u)(tv:Value)(la:Nat):
  Idle K zz c {S with told:=S.told.set t (1,0)} (ss.set t ⟨tv,false,la⟩) w0 (((((w.setCell ⟨K.gs,t*5,none⟩ tv).setCell ⟨K.gs,t*5+1,none⟩ false).setCell ⟨K.gs,t*5+2,none⟩ la).setCell ⟨K.gs,t*5+3,none⟩ (.int .i64 1)).setCell ⟨K.gs,t*5+4,none⟩ (.int .i64 0)) F:=by
 have htl:=(fO.1 hv).1;have htu:=(fO.1 hu).1;have s0:S.told.set t u=S.told:=BT hu;have h1:=h.KP hv hu (v':=⟨tv,v.ready,v.last⟩) (u':=u) (i:=0) (x:=tv) rfl O_;rw [s0] at h1;have h2:=h1.KP (g9 htl) hu (v':=⟨tv,false,v.last⟩) (u':=u) (i:=1) (x:=.bool false) rfl O_;rw [s0,tZ] at h2;have h3:=h2.KP (g9 htl) hu (v':=⟨tv,false,la⟩) (u':=u) (i:=2) (x:=.int .i64 la) rfl O_;rw [s0,tZ] at h3;have h4:=h3.KP (g9 htl) hu (v':=⟨tv,false,la⟩) (u':=(1,u.2)) (i:=3) (x:=.int .i64 1) rfl O_;rw [tZ] at h4;have h5:=h4.KP (g9 htl) (g9 htu) (v':=⟨tv,false,la⟩) (u':=(1,0)) (i:=4) (x:=.int .i64 0) rfl O_;simp only [tZ] at h5;exact h5
theorem Pr(h:Idle K zz c S ss w0 w F)(hv:ss[t]?=some v)(hu:S.told[t]?=some u)(h0:0≤K.au)(hm:K.au<65536)(hi:v.task=.nilIface)(hop:op≠0)(hk:K.mO=.map (some bK)){o:Obj}{f:Int→Option Value}(hkm:En.obj bK o∈F)(Of:oF o f){g:FuncId}{cs:Array Value}{q:Tq}(hf:f op=some (.func (.func g) #[] cs))(hc:∀ (args:Array Value) (w:World),(callFunc g args).run prog w=.ok (.enter g args) w)(fQ:S.calls.length<1000000)(hmk:∀ (w1:World) (b:En),Idle (K.mv (K.au+1)) zz c S ss w0 w1 (b::F)→Calls prog g (#[.int .i64 t,gB t op arg dat]++cs) w1 (Made (K.mv (K.au+1)) zz c {S with th:=t} ss w0 (b::F) (some q))):
  cm 11 #[some K.bM,gB t op arg dat] w true fun w'=>∃ k L g5 c5,Ol K c t k q L∧Idle {(K.mv (K.au+1)) with gc:=g5,cc:=c5} zz c {S with calls:=S.calls++ [⟨t,op,arg,dat,K.au,-1,-1,0,0⟩],told:=S.told.set t (1,0)} (ss.set t ⟨.iface q.ty (some k),false,S.calls.length⟩) w0 w' (L++F):=by
 have hs:0<ss.length:=by have:=(fO.1 hv).1;omega
 have jF:=h.bm;have h1:=h.alloc #[.int .i64 (t:Int),op,arg,dat] 36;have pm:=h1.af aj;obtain⟨s1,p1⟩:=h1.bm;have dn:((ss.length:Int)==0)=false:=by rw [gp];omega
 have LV:IntKind.i64.wrap (K.au+1)=K.au+1:=ei O_ O_;have h2:=h1.vq (K.au+1);have dN:=h2.af aj;obtain⟨s2,p2⟩:=h2.bm;have z2:=h2.TJ;have WD:=h2.cell aj (i:=0) rfl;have WC:=h2.cell aj (i:=1) rfl;have WB:=h2.cell aj (i:=2) rfl;have WA:=h2.cell aj (i:=3) rfl;have dm:decide (65536≤K.au)=false:=dy O_;have d0:decide ((t:Int)<0)=false:=dy O_;have htl:=(fO.1 hv).1;have d1:decide ((ss.length:Int)≤(t:Int))=false:=dy O_;have d2:decide ((t:Int)<(ss.length:Int))=true:=cM O_;have Bl:∀ z:aL _,_:=fun z=>((h2.iD z).nu hv hu 0 O_).trans (show _=some v.task from rfl)
 simp only [gn] at Bl;rw [hi] at Bl;have xo:(op==0)=false:=gp.2 hop;have zk:=h2.mO;have zl:=h2.look (mT hkm) Of op;rw [show(K.mv (K.au+1)).mO=K.mO from rfl,hk] at zk;rw [hf] at zl;simp only [Option.getD_some] at zl;clear jF h;go_enter func11,ntmps11;go_wp2_with fail;refine qE fun PS=>?_
 go_wp2_with fail;refine qZ PS fun PR=>?_
 go_wp2_with fail;refine qZ PR fun Zk=>?_
 go_wp2_with fail;refine(hmk _ _ (h2.iD Zk)).mono ?_;clear hmk;rintro e w3 ⟨k,L,rfl,oB,h4⟩;have bx:ob w.heap.size 36 #[.int .i64 t,.int .i64 op,.int .i64 arg,.int .i64 dat].toList∈L++ob w.heap.size 36 #[.int .i64 t,.int .i64 op,.int .i64 arg,.int .i64 dat].toList::F:=bX aj;obtain⟨s4,p4,p4f⟩:=h4.bm;obtain⟨A,cA,CF⟩:=Db K.gc K.cc S.calls.length;have p10:w3.cell? ⟨K.bM,10,none⟩=some (.slice A S.calls.length cA):=(p4 10).trans (ep some CF);replace CF:=aJ CF;clear p4 p4f;have WL:=fun i hi=>h4.nu hv hu i hi
 have e0:=(WL 0 O_).trans (show _=some Value.nilIface by rw [←hi];rfl);have e1:=(WL 1 O_).trans (show _=some (Value.bool v.ready) from rfl);have e2:=(WL 2 O_).trans (show _=some (Value.int .i64 v.last) from rfl);have e3:=(WL 3 O_).trans (show _=some (Value.int .i64 u.1) from rfl);have e4:=(WL 4 O_).trans (show _=some (Value.int .i64 u.2) from rfl);rw [gn] at e0;have ef:=h4.yD;clear WL;have h5:=h4.begin hv hu (.iface q.ty (some k)) S.calls.length;go_wp2_with fail;clear e0 e1 e2 e3 e4 ef p10 h4 hi hk Of hkm zk zl Bl z2 WD WC WB WA hc hf p2 dN p1 pm h2 h1;generalize (((((w3.setCell ⟨K.gs,t*5,none⟩ (.iface q.ty (some k))).setCell ⟨K.gs,t*5+1,none⟩ false).setCell ⟨K.gs,t*5+2,none⟩ S.calls.length).setCell ⟨K.gs,t*5+3,none⟩ (.int .i64 1)).setCell ⟨K.gs,t*5+4,none⟩ (.int .i64 0))=w5 at h5 ⊢;generalize w.heap.size=b0 at h5 bx ⊢;have dd:=h5.af bx;obtain⟨cv,lv,qa,qb,l,p,s,ah,qq,h6⟩:=h5;have hbn:b0≠w5.heap.size:=lN (h6.tu (bX (bX bx)));clear dd;unfold tB at h6;rw [show mh (K.mv (K.au+1)).gc (K.mv (K.au+1)).cc ({S with told:=S.told.set t (1,0)}:PM).calls.length=.slice A S.calls.length cA from CF.out] at h6;have y6:w5.cell? ⟨K.bM,10,none⟩=some (.slice A S.calls.length cA):=h6.at_ (i:=10) iu rfl;have f6:w5.frozen? ⟨K.bM,10,none⟩=false:=h6.dW iu 10;have hlt:K.bM<w5.heap.size:=h6.tu iu;have hne:=lN hlt;have J2:=bX (A:=dS (K.mv (K.au+1)) c cv lv {S with told:=S.told.set t (1,0)}) bx
 have gj:∀ w',Ext w5 w'→w'.cell? ⟨b0,0,none⟩=some (.int .i64 t)∧w'.cell? ⟨b0,1,none⟩=some (.int .i64 op)∧w'.cell? ⟨b0,2,none⟩=some (.int .i64 arg)∧w'.cell? ⟨b0,3,none⟩=some (.int .i64 dat):=fun w' e=>⟨(h6.next e).at_ (i:=0) (bX J2) rfl,(h6.next e).at_ (i:=1) (bX J2) rfl,(h6.next e).at_ (i:=2) (bX J2) rfl,(h6.next e).at_ (i:=3) (bX J2) rfl⟩
 have gC:=gj w5 (bu w5);have hown:w5.ownsRow w0.heap.size 119 9 (.slice A S.calls.length cA) S.calls.length (S.calls.flatMap Cl.enc):=h6.own _ xJ;have dF:∀ w',Ext w5 w'→w'.ownsRow w0.heap.size 119 9 (.slice A S.calls.length cA) S.calls.length (S.calls.flatMap Cl.enc):=fun w' e=>dB hown e
 have hsz:=h6.ext.size;have gN:∀ w',Ext (w5.alloc (.cells #[t,op,arg,dat,K.au,.int .i64 (-1),.int .i64 (-1),.int .i64 0,.int .i64 0] 119)) w'→Rd w' (some ⟨w5.heap.size,0,none⟩) [t,op,arg,dat,K.au,.int .i64 (-1),.int .i64 (-1),.int .i64 0,.int .i64 0]:=fun w' e=>(Rd.made w5 [t,op,arg,dat,K.au,.int .i64 (-1),.int .i64 (-1),.int .i64 0,.int .i64 0] 119).ext e
 have afp:([t,op,arg,dat,K.au,.int .i64 (-1),.int .i64 (-1),.int .i64 0,.int .i64 0]:List Value).length=1*9:=rfl;have hone:∀ u∈([t,op,arg,dat,K.au,.int .i64 (-1),.int .i64 (-1),.int .i64 0,.int .i64 0]:List Value),u.oneCell'=true:=by intro u hu;simp at hu;rcases hu with rfl | rfl | rfl | rfl | rfl | rfl | rfl | rfl<;>rfl
 refine tX (Ds (S:=fun w':World=>w'.cell? ⟨b0,0,none⟩=some (.int .i64 t)∧w'.cell? ⟨b0,1,none⟩=some (.int .i64 op)∧w'.cell? ⟨b0,2,none⟩=some (.int .i64 arg)∧w'.cell? ⟨b0,3,none⟩=some (.int .i64 dat)) K_ gC (fun hHeld=>?_));refine bn 0 ?_;refine bn 1 ?_;refine bn 2 ?_;refine bn 3 ?_;refine bn 5 ?_;refine bn 6 ?_;refine bn 7 ?_;refine bn 8 ?_;refine bn 9 ?_;refine bn 10 ?_;refine bn 11 ?_;refine bn 12 ?_;refine bn 13 ?_;refine bn 14 ?_;refine qB (rs:= [4,15]) K_ S_ ?_;refine mA rfl (fun Kq cr=>?_) ?_
 ·go_simp
  refine cr.out _ _ gC (fun hHeld=>?_);refine qB (rs:= [15]) K_ S_ ?_;exact T_2
 ·refine mA rfl (fun Kq cr=>?_) tH
  go_simp;refine cr.out _ _ (gj _ (((bu w5).aE _).bh)) (fun hHeld=>?_);refine qB (rs:= [4]) K_ S_ ?_;exact T_2
end
section
variable{K:Ky}{zz:Int×Int×Bool}{c:Cf}{S S':PM}{ss:List Sv}{w0 w w':World}{F G O L:List En}{n bK t k:Nat}{q:Tq}{M:MM}{m:RM}
theorem yE{th:Nat}{r:Rt}(o:zC K c th k r L):nv (some r)<100000:=by
 obtain⟨s,ks,Ls,hs,os,_⟩:=o
 show r.pl<_
 unfold Rt.pl;rw [hs];exact sk os
theorem sI{th:Nat}{f:Fi}{R:Nat→Int}{pc:Nat}{e nm pd:List Int}(o:jN K c th k f L)(a:jO c f S pc R e nm pd):mQ f<100000:=by
 unfold mQ
 split
 ·omega
 rename_i hn
 rcases o with ⟨h,_⟩ | ⟨_,r,kr,Lr,hr,o,_⟩
 ·exfalso
  obtain⟨_,_,a⟩:=a;omega
 ·rw [hr]
  exact yE o
theorem Kk{th:Nat}{R:Nat→Int}{pc:Nat}{bk nm pd:List Int}(o:qu K c th k q L)(a:mS c q S pc R bk nm pd):q.xh<100000:=by
 cases q with
 | scan s=>exact sk o
 | unreg u=>
  show(if u.az=1 then _ else 0)<100000
  split
  ·rename_i h1
   rcases o with ⟨h,_⟩ | ⟨_,s,ks,Ls,hs,os,_⟩ | ⟨h,_⟩ | ⟨h,_⟩
   ·omega
   ·rw [hs];exact sk os
   ·omega
   ·omega
  ·omega
 | post p=>
  show(if 0≤p.az∧p.az≤3 then 0 else nv p.ret)<100000
  split
  ·omega
  rename_i hn
  rcases o with ⟨h,_⟩ | ⟨_,r,kr,tv,Lr,hr,o,_⟩
  ·exfalso
   obtain⟨_,_,_,a⟩:=a;omega
  ·rw [hr];exact yE o
 | pop p=>
  show(if 0≤p.pc∧p.pc≤7 then 0 else nv p.ret)<100000
  split
  ·omega
  rename_i hn
  rcases o with ⟨f,_,_,h⟩ | ⟨_,r,kr,Lr,hr,o,_⟩
  ·exfalso
   obtain⟨_,_,_,_,a⟩:=a;omega
  ·rw [hr];exact yE o
 | deq g=>
  show(if 1≤g.pc∧g.pc≤11 then 0 else nv g.ret)<100000
  split
  ·omega
  rename_i hn
  rcases o with ⟨h,_⟩ | ⟨_,r,kr,Lr,hr,o,_⟩
  ·exfalso
   obtain⟨_,_,_,_,_,_,a⟩:=a;omega
  ·rw [hr];exact yE o
 | con w=>
  show(if w.az=11 then 0 else mQ w.f)<100000
  split
  ·omega
  rename_i hn
  rcases o with ⟨h,kf,lp,a0,a1,Lf,o,_⟩ | ⟨h,_⟩
  ·obtain⟨_,_,⟨_,e,_,a⟩ | ⟨h,_⟩⟩:=a
   ·exact sI o a
   ·omega
  ·omega
 | del d=>
  show(if d.wk.az=0∨d.wk.az=10 then mQ d.wk.f else if d.wk.az=9 then nv d.part else 0)<100000
  split
  ·rename_i hn
   rcases o with ⟨_,kf,lp,a0,a1,pv,Lf,o,_⟩ | ⟨h,_⟩ | ⟨h,_⟩ | ⟨h,_⟩
   ·obtain⟨_,_,_,⟨_,e,_,a⟩ | ⟨h,_⟩ | ⟨h,_⟩ | ⟨h,_⟩ | ⟨_,e,_,a⟩ | ⟨h,_⟩⟩:=a
    ·exact sI o a
    ·omega
    ·omega
    ·omega
    ·exact sI o a
    ·omega
   ·omega
   ·omega
   ·omega
  ·split
   ·rename_i hn
    rcases o with ⟨h,_⟩ | ⟨h,_⟩ | ⟨_,r,kr,Lr,kf,lp,a0,a1,rv,hr,o,_⟩ | ⟨h,_⟩
    ·omega
    ·omega
    ·rw [hr];exact yE o
    ·omega
   ·omega
 | ins d=>
  show(if d.wk.az=0 then mQ d.wk.f else 0)<100000
  split
  ·rename_i hn
   rcases o with ⟨_,kf,lp,a0,a1,tv,gv,Lf,o,_⟩ | ⟨h,_⟩ | ⟨h,_⟩ | ⟨h,_⟩ | ⟨h,_⟩
   ·obtain⟨_,_,_,⟨_,_,_,_,e,_,a⟩ | ⟨h,_⟩ | ⟨_,_,_,_,_,h⟩ | ⟨h,_⟩ | ⟨h,_⟩⟩:=a
    ·exact sI o a
    ·omega
    ·omega
    ·omega
    ·omega
   ·omega
   ·omega
   ·omega
   ·omega
  ·omega
 | tab t=>
  obtain⟨_,o⟩:=o
  show(if t.az=0∨t.az=5 then mQ t.f else if t.az=4 then nv t.ret else 0)<100000
  split
  ·rename_i hn
   rcases o with ⟨_,kf,rp,lp,Lf,o,_⟩ | ⟨h,_⟩ | ⟨h,_⟩ | ⟨h,_⟩
   ·obtain⟨_,_,⟨_,_,_,e,_,a⟩ | ⟨_,_,_,_,_,h⟩ | ⟨h,_⟩ | ⟨_,_,_,e,_,a⟩ | ⟨h,_⟩⟩:=a
    ·exact sI o a
    ·omega
    ·omega
    ·exact sI o a
    ·omega
   ·omega
   ·omega
   ·omega
  ·split
   ·rename_i hn
    rcases o with ⟨h,_⟩ | ⟨h,_⟩ | ⟨_,fp,lp,kr,r,Lr,hr,o,_⟩ | ⟨h,_⟩
    ·omega
    ·omega
    ·rw [hr];exact yE o
    ·omega
   ·omega
 | _=>exact Nat.zero_lt_succ _
theorem kU{p:Prop} [Decidable p]{x y:Bool×Tb×PM}{b:Bool}(hx:x.2.1.take=b)(hy:y.2.1.take=b):(if p then x else y).2.1.take=b:=by
 split<;>assumption
theorem OJ(t:Tb):(t.step c S).2.1.take=t.take:=by
 have hf:∀ (x:Tb) (S:PM),(x.found S).2.1.take=x.take:=fun x S=>by
  unfold Tb.found;exact kU rfl rfl
 unfold Tb.step;refine kU ?_ (kU (kU rfl rfl) (kU ?_ (kU ?_ (kU ?_ (kU ?_ ?_)))))
 ·generalize t.f.step c S=r
  obtain⟨b,f,S1⟩:=r
  cases b
  ·rfl
  ·exact hf _ _
 ·exact kU rfl rfl
 ·refine kU ?_ rfl
  generalize (Rt.new t.slot).ready c _=r;obtain⟨b,f,S1⟩:=r
  cases b<;>rfl
 ·cases t.ret with
  | none=>rfl
  | some r=>
   simp only;generalize r.step c S=r2;obtain⟨b,f,S1⟩:=r2
   cases b<;>rfl
 ·generalize t.f.step c S=r
  obtain⟨b,f,S1⟩:=r
  cases b<;>rfl
 ·rfl
theorem FA(q:Tq)(S:PM):(q.step c S).2.1.ty=q.ty:=by
 cases q with
 | take k=>
  show(eP (k.step c S)).2.1.ty=_
  rw [uo.2.1]
  rfl
 | tab t=>
  have h:=OJ (c:=c) (S:=S) t
  show(if(t.step c S).2.1.take then _ else _)=(if t.take then _ else _)
  rw [h]
 | _=>rfl
theorem V2(b:Bool)(q:Tq)(S:PM):(MM.xo c b q S).2.1.ty=q.ty:=by
 cases b with
 | true=>exact FA q S
 | false=>
  rw [RL]
  split
  ·exact(uY q S).1
  ·rw [FA];exact(uY q S).1
def pR(K:Ky)(c:Cf)(t:Nat)(s:iQ)(v:Sv)(L:List En):Prop:=v.ready=s.ready∧v.last=s.last∧
 match s.task with
 | none=>v.task=.nilIface
 | some q=>∃ k,v.task=.iface q.ty (some k)∧if s.ready then qu K c t k q L else Ol K c t k q L
theorem pR.mk'{s:iQ}{v:Sv}(m:Mk)(h:pR K c t s v L):pR {K with toMk:=m} c t s v L:=by
 obtain⟨a,b,h⟩:=h;refine⟨a,b,?_⟩
 cases hq:s.task with
 | none=>rw [hq] at h;exact h
 | some q=>
  rw [hq] at h;obtain⟨k,e,h⟩:=h;refine⟨k,e,?_⟩
  cases hr:s.ready with
  | true=>rw [hr,aY rfl] at h;rw [aY rfl];exact(Km m).2 h
  | false=>rw [hr,aK S_] at h;rw [aK S_];exact(zO m).2 h
structure Wt(K:Ky)(zz:Int×Int×Bool)(c:Cf)(M:MM)(ss:List Sv)(os:List (List En))(w0 w:World)(F:List En):Prop where
 mv:K.au=M.au
 l1:ss.length=M.bI.length
 l2:os.length=M.bI.length
 idle:Idle K zz c M.pm ss w0 w (os.flatten++F)
 BS:∀ (t:Nat) (s:iQ),M.bI[t]?=some s→∃ v L,ss[t]?=some v∧os[t]?=some L∧pR K c t s v L
 pl:∀ (t:Nat) (s:iQ) (q:Tq),M.bI[t]?=some s→s.task=some q→s.ready=false→q.pl=0
def Xo(K:Ky)(zz:Int×Int×Bool)(c:Cf)(M:MM)(w0 w:World)(F:List En):Prop:=∃ ss os,Wt K zz c M ss os w0 w F
theorem ou{α:Type}:∀ {os:List (List α)} {t:Nat} {L:List α},os[t]?=some L→os.flatten.Perm (L++(os.set t []).flatten)
 | [],t,L,h=>by simp at h
 | x::os,0,L,h=>by
  simp only [ug,Option.some.injEq] at h;subst h;simp
 | x::os,t+1,L,h=>by
  simp only [yu] at h;simp only [wW,List.flatten_cons];refine(ue x (ou h)).trans ?_;rw [←dH,←dH];exact List.Perm.append_right _ List.perm_append_comm
theorem zi{α:Type}{os:List (List α)}{t:Nat}(L:List α)(h:t<os.length):(L++(os.set t []).flatten).Perm (os.set t L).flatten:=by
 have:=ou (os:=os.set t L) (t:=t) (L:=L) (g9 h);rw [tZ] at this;exact this.symm
variable{os:List (List En)}
theorem zT{K':Ky}{ss:List Sv}{bI:List iQ}{m:Mk}(hK:K'={K with toMk:=m})(h:∀ t s,bI[t]?=some s→∃ v L,ss[t]?=some v∧os[t]?=some L∧pR K c t s v L)
  (l1:ss.length=bI.length) (l2:os.length=bI.length) {s':iQ} {v':Sv} {L':List En} (hn:pR K' c t s' v' L'):∀ j s,(bI.set t s')[j]?=some s→∃ v L,(ss.set t v')[j]?=some v∧(os.set t L')[j]?=some L∧pR K' c j s v L:=by
 intro j s hj
 by_cases e:t=j
 ·subst e
  rw [wV] at hj;rw [aY rfl] at hj
  split at hj
  ·injection hj with hj
   subst hj;exact⟨v',L',g9 O_,g9 O_,hn⟩
  ·cases hj
 ·rw [oG e] at hj
  obtain⟨v,L,h1,h2,h3⟩:=h j s hj;exact⟨v,L,(oG e).trans h1,(oG e).trans h2,hK▸h3.mk' m⟩
structure Ks(c:Cf)(S:PM):Prop where
 dX:N0 c S
 th:(S.th:Int)<c.T
def Tp(K:Ky)(c:Cf)(f:Int→Option Value)(F:List En):Prop:=∀ op,match f op with
 | none=>∀ S arg dat,dh c S op arg dat=none
 | some v=>∃ g cs,v=.func (.func g) #[] cs∧(∀ (args:Array Value) (w:World),(callFunc g args).run prog w=.ok (.enter g args) w)∧∀ (mk:Mk) (zz:Int×Int×Bool) (S:PM) (ss:List Sv) (w0 w1:World) (G:List En) (arg dat:Int),Idle {K with toMk:=mk} zz c S ss w0 w1 (G++F)→Ks c S→Kr arg→
   Calls prog g (#[.int .i64 S.th,gB S.th op arg dat]++cs) w1 (Made {K with toMk:=mk} zz c S ss w0 (G++F) (dh c S op arg dat))
theorem Wt.skip{ss:List Sv}(B:Wt K zz c M ss os w0 w F)(h:Idle (K.mv (K.au+1)) zz c M.pm ss w0 w' (os.flatten++F)):
  ∃ mk Ob,mk.bM=K.bM∧mk.mO=K.mO∧Xo {K with toMk:=mk} Ob c {M with au:=M.au+1} w0 w' F:=
 ⟨{K.toMk with au:=K.au+1},zz,rfl,rfl,ss,os,⟨by show K.au+1=M.au+1;rw [B.mv],B.l1,B.l2,h,fun t s hs=>by
  obtain⟨v,L,h1,h2,h3⟩:=B.BS t s hs;exact⟨v,L,h1,h2,h3.mk' _⟩,B.pl⟩⟩
theorem Yx(h:Xo K zz c M w0 w F){o:Obj}{f:Int→Option Value}(hk:Tp K c f F)(Of:oF o f)(hkm:En.obj bK o∈F)(Vi:K.mO=.map (some bK))(hp:PI c M m)(v:Mv)(ha:Kr v.arg):
  cm 11 #[some K.bM,gB v.th v.op v.arg v.dat] w (.bool (M.move c v).1) fun w'=>∃ mk Ob,mk.bM=K.bM∧mk.mO=K.mO∧Xo {K with toMk:=mk} Ob c (M.move c v).2 w0 w' F:=by
 obtain⟨th,op,arg,dat⟩:=v;obtain⟨ss,os,B⟩:=h;have hT:=hp.mr.l1;have ok:=hp.mr.dX.ok;unfold bY at ok;have hl:=B.l1;have Ay:=B.mv;have h0:=hp.mr.mv;have hmem:∀ {A:List En},En.obj bK o∈A++F:=fun{A}=>bX hkm
 simp only at ha ⊢
 by_cases hm:65536≤M.au
 ·have e:M.move c ⟨th,op,arg,dat⟩=(false,M):=by unfold MM.move;rw [aY hm]
  rw [e];refine(Uh B.idle O_ O_).mono ?_;rintro e w' ⟨rfl,h'⟩;exact⟨rfl,K.toMk,zz,rfl,rfl,ss,os,B.mv,B.l1,B.l2,h',B.BS,B.pl⟩
 by_cases ht:th<0∨M.bI.length≤th
 ·have e:M.move c ⟨th,op,arg,dat⟩=(false,{M with au:=M.au+1}):=by unfold MM.move;rw [aK hm,aY ht]
  rw [e];refine(Yu B.idle O_ O_ O_ O_).mono ?_;rintro e w' ⟨rfl,h'⟩;exact⟨rfl,B.skip h'⟩
 obtain⟨t,rfl⟩:∃ t:Nat,th=t:=⟨th.toNat,O_⟩;have htn:((t:Nat):Int).toNat=t:=O_
 obtain⟨s,hs⟩:∃ s,M.bI[t]?=some s:=⟨_,fy O_⟩;obtain⟨v,L,hv,hL,hok⟩:=B.BS t s hs;obtain⟨u,hu⟩:∃ u,M.pm.told[t]?=some u:=⟨_,fy (by have:=hp.mr.dX.ag;omega)⟩;have htl:=(fO.1 hv).1;have hLl:=(fO.1 hL).1;have Xk:0≤K.au:=O_
 have Xj:K.au<65536:=O_
 have pull:=(ou hL).append_right F;rw [dH] at pull
 cases hq:s.task with
 | some q=>
  obtain⟨hr,hla,qW⟩:=hok;rw [hq] at qW;obtain⟨k,hi,ho⟩:=qW
  by_cases hop:op=0
  ·subst hop
   have e:M.move c ⟨t,0,arg,dat⟩=(true,M.step c t q s):=by unfold MM.move;simp only;rw [aK hm,aK ht,htn,hs];simp only [hq,dL]
   rw [e]
   have xh:s.ready=true→q.xh<100000:=fun hrd=>by
    rw [hrd,aY rfl] at ho;have WX:(t:Int)<c.T:=O_
    obtain⟨x,hx⟩:∃ x,m.T[t]?=some x:=⟨_,fy (by have:=hp.mr.l2;omega)⟩;obtain⟨_,_,ji⟩:=hp.mr.BS t s x hs hx;rw [hq] at ji;obtain⟨_,_,_,rV⟩:=ji;rw [hrd,aY rfl] at rV;exact Kk ho rV
   obtain⟨⟨la,hx⟩,_⟩:=FM hp hs hq O_ xh (B.pl t s q hs hq);refine(Ue (arg:=arg) (dat:=dat) (B.idle.perm pull) hv hu B.mv Xk Xj hi hla hr O_ ho hx).mono ?_;rintro e w' ⟨rfl,_,L',hO,hI⟩;have hx1:=hx.last;have hlt:s.last.toNat=la:=O_
   have eS:M.step c t q s=(let r:=MM.xo c s.ready q (M.at t la)
    if r.1 then{pm:={r.2.2 with calls:=r.2.2.calls.modify la fun x=>{x with en:=M.au,ak:=(r.2.2.told.getD t (0,0)).1,av:=(r.2.2.told.getD t (0,0)).2}},bI:=M.bI.set t ⟨none,true,s.last⟩,au:=M.au+1}
    else{pm:=r.2.2,bI:=M.bI.set t ⟨some r.2.1,true,s.last⟩,au:=M.au+1}):=by rw [←hlt];rfl
   rw [eS];have hty:=V2 (c:=c) s.ready q (M.at t la);clear eS hx e;generalize MM.xo c s.ready q (M.at t la)=r at hI hO hty ⊢;obtain⟨b,q',S'⟩:=r;simp only at hI hO hty;have push:=(zi L' hLl).append_right F;rw [dH] at push
   have uA:∀ x:Option Tq,∀ (j:Nat) (s1:iQ) (q1:Tq),(M.bI.set t ⟨x,true,s.last⟩)[j]?=some s1→s1.task=some q1→s1.ready=false→q1.pl=0:=fun x j s1 q1 g1 g2 g3=>by
    by_cases ej:t=j
    ·subst ej
     rw [gU hs] at g1;injection g1 with g1;rw [←g1] at g3
     cases g3
    ·rw [oG ej] at g1
     exact B.pl j s1 q1 g1 g2 g3
   cases b with
   | true=>
    refine⟨rfl,{K.toMk with au:=K.au+1},_,rfl,rfl,ss.set t ⟨.nilIface,true,la⟩,os.set t L',⟨?_,?_,?_,hI.perm push,?_,?_⟩⟩
    ·show K.au+1=M.au+1
     rw [B.mv]
    ·show(ss.set t _).length=(M.bI.set t _).length
     rw [cW,cW];exact B.l1
    ·show(os.set t _).length=(M.bI.set t _).length
     rw [cW,cW];exact B.l2
    ·exact zT (m:={K.toMk with au:=K.au+1}) rfl B.BS B.l1 B.l2 ⟨rfl,hx1.symm,rfl⟩
    ·exact uA none
   | false=>
    refine⟨rfl,{K.toMk with au:=K.au+1},_,rfl,rfl,ss.set t ⟨v.task,true,la⟩,os.set t L',⟨?_,?_,?_,hI.perm push,?_,?_⟩⟩
    ·show K.au+1=M.au+1
     rw [B.mv]
    ·show(ss.set t _).length=(M.bI.set t _).length
     rw [cW,cW];exact B.l1
    ·show(os.set t _).length=(M.bI.set t _).length
     rw [cW,cW];exact B.l2
    ·refine zT (m:={K.toMk with au:=K.au+1}) rfl B.BS B.l1 B.l2 ⟨rfl,hx1.symm,k,?_,?_⟩
     ·show v.task=.iface q'.ty _
      rw [hi,hty]
     ·rw [aY rfl]
      exact hO rfl
    ·exact uA (some q')
  ·have e:M.move c ⟨t,op,arg,dat⟩=(false,{M with au:=M.au+1}):=by unfold MM.move;simp only;rw [aK hm,aK ht,htn,hs];simp only [hq,aK hop]
   rw [e];refine(Ui B.idle hv hu Xk Xj hi hop).mono ?_;rintro e w' ⟨rfl,h'⟩;exact⟨rfl,B.skip h'⟩
 | none=>
  obtain⟨hr,hla,hi⟩:=hok;rw [hq] at hi
  by_cases hop:op=0
  ·subst hop
   have e:M.move c ⟨t,0,arg,dat⟩=(false,{M with au:=M.au+1}):=by unfold MM.move;simp only;rw [aK hm,aK ht,htn,hs];simp only [hq,dL]
   rw [e];refine(Uf B.idle hv hu Xk Xj hi).mono ?_;rintro e w' ⟨rfl,h'⟩;exact⟨rfl,B.skip h'⟩
  have P3:=hk op;have hks:Ks c {M.pm with th:=t}:=⟨⟨hp.mr.dX.ok,hp.mr.dX.len,hp.mr.dX.wk,hp.mr.dX.sl,hp.mr.dX.ca,hp.mr.dX.BA,hp.mr.dX.he,hp.mr.dX.xm,hp.mr.dX.li,hp.mr.dX.Bo,hp.mr.dX.ag⟩,by show(t:Int)<c.T;omega⟩
  cases hf:f op with
  | none=>
   rw [hf] at P3;have hmk:=P3 {M.pm with th:=t} arg dat;have e:M.move c ⟨t,op,arg,dat⟩=(false,{M with au:=M.au+1}):=by unfold MM.move;simp only;rw [aK hm,aK ht,htn,hs];simp only [hq,aK hop,hmk]
   rw [e];refine(Ug B.idle hv hu Xk Xj hi hop Vi hmem Of hf).mono ?_;rintro e w' ⟨rfl,h'⟩;exact⟨rfl,B.skip h'⟩
  | some fv=>
   rw [hf] at P3;obtain⟨g,cs,rfl,uC,ng⟩:=P3;have C:=fun(w1:World) (b:En) (hw:Idle (K.mv (K.au+1)) zz c M.pm ss w0 w1 (b::(os.flatten++F)))=>ng {K.toMk with au:=K.au+1} zz {M.pm with th:=t} ss w0 w1 (b::os.flatten) arg dat hw hks ha
   cases hmk:dh c {M.pm with th:=t} op arg dat with
   | none=>
    rw [hmk] at C;have e:M.move c ⟨t,op,arg,dat⟩=(false,{M with au:=M.au+1}):=by unfold MM.move;simp only;rw [aK hm,aK ht,htn,hs];simp only [hq,aK hop,hmk]
    rw [e];refine(Lm B.idle hv hu Xk Xj hi hop Vi hmem Of hf uC C).mono ?_;rintro e w' ⟨rfl,h'⟩;exact⟨rfl,B.skip h'⟩
   | some q=>
    rw [hmk] at C
    have e:M.move c ⟨t,op,arg,dat⟩=(true,{pm:={M.pm with calls:=M.pm.calls++ [⟨t,op,arg,dat,M.au,-1,-1,0,0⟩],told:=M.pm.told.set t (1,0)},bI:=M.bI.set t ⟨some q,false,M.pm.calls.length⟩,au:=M.au+1}):=by
     unfold MM.move;simp only;rw [aK hm,aK ht,htn,hs];simp only [hq,aK hop,hmk]
    rw [e];refine(Pr B.idle hv hu Xk Xj hi hop Vi hmem Of hf uC (by have:=hp.cl;omega) C).mono ?_;rintro e w' ⟨rfl,k,L',g5,c5,hB,hI⟩
    have push:(L'++(os.flatten++F)).Perm ((os.set t L').flatten++(L++F)):=by
     rw [←dH,←dH];refine List.Perm.append_right F ?_;refine((ou hL).append_left L').trans ?_;refine List.Perm.trans ?_ ((zi L' hLl).append_right L);rw [dH];exact ue L' List.perm_append_comm
    have hI:=hI.perm push
    have hI:Idle _ _ _ _ _ _ _ ((os.set t L').flatten++F):=hI.rest (G:=(os.set t L').flatten++F) fun A h=>by
     rw [←dH] at h ⊢;exact(h.perm (pW _ _ _)).kI
    refine⟨rfl,{K.toMk with au:=K.au+1,gc:=g5,cc:=c5},zz,rfl,rfl,ss.set t ⟨.iface q.ty (some k),false,M.pm.calls.length⟩,os.set t L',⟨?_,?_,?_,?_,?_,?_⟩⟩
    ·show K.au+1=M.au+1
     rw [B.mv]
    ·show(ss.set t _).length=(M.bI.set t _).length
     rw [cW,cW];exact B.l1
    ·show(os.set t _).length=(M.bI.set t _).length
     rw [cW,cW];exact B.l2
    ·rw [←B.mv]
     exact hI
    ·refine zT (m:={K.toMk with au:=K.au+1,gc:=g5,cc:=c5}) rfl B.BS B.l1 B.l2 ⟨rfl,rfl,k,rfl,?_⟩
     rw [aK S_];exact(zO _).2 hB
    ·intro j s1 q1 g1 g2 g3
     by_cases ej:t=j
     ·subst ej
      rw [show(M.bI.set t _)[t]?=_ from gU hs] at g1;injection g1 with g1;rw [←g1] at g2;injection g2 with g2;rw [←g2];exact Yy _ hmk
     ·rw [show(M.bI.set t _)[j]?=M.bI[j]? from oG ej] at g1
      exact B.pl j s1 q1 g1 g2 g3
end
structure Kb where
 ka:Nat
 kh:Nat
 w1:Nat
 w2:Nat
 w3:Nat
 w4:Nat
 w5:Nat
 ks:Nat
 F0:Nat
 Cs:Nat
 kq:Nat
 Ct:Nat
 kl:Nat
 xg:Nat
 kt:Nat
def jK(K:Ky)(c:Cf)(B:Kb):List En:=
 [ob B.ka 82 [some K.bA],ob B.kh 85 [some K.bH],ob B.w1 116 [.func (.func 79) #[] #[some B.kh]],ob B.w2 116 [.func (.func 80) #[] #[some B.kh]],ob B.w3 116 [.func (.func 81) #[] #[some B.kh]],ob B.w4 116 [.func (.func 83) #[] #[some B.kh]],ob B.w5 116 [.func (.func 84) #[] #[some B.kh]],ob B.ks 85 [some K.bH],ob B.F0 82 [some K.bA],ob B.Cs 196 [.func (.func 87) #[] #[some B.ks,some B.F0]],ob B.kq 85 [some K.bH],ob B.Ct 204 [some K.bH,c.ad 4 0,c.ad 5 0,c.ad 11 0,c.ad 13 0],ob B.kl 85 [some K.bH],ob B.xg 3 [c.ad 6 0],ob B.kt 85 [some K.bH]]
def IE(B:Kb)(op:Int):Option Value:=
 if op=10 then some (.func (.func 68) #[] #[some B.ka])
 else if op=11 then some (.func (.func 70) #[] #[some B.ka])
 else if op=12 then some (.func (.func 73) #[] #[some B.ka])
 else if op=20 then some (.func (.func 78) #[] #[some B.kh])
 else if op=21 then some (.func (.func 76) #[] #[some B.kh,some B.w1])
 else if op=22 then some (.func (.func 76) #[] #[some B.kh,some B.w2])
 else if op=23 then some (.func (.func 76) #[] #[some B.kh,some B.w3])
 else if op=24 then some (.func (.func 76) #[] #[some B.kh,some B.w4])
 else if op=25 then some (.func (.func 76) #[] #[some B.kh,some B.w5])
 else if op=30 then some (.func (.func 88) #[] #[some B.ks,some B.Cs,some B.F0])
 else if op=31 then some (.func (.func 89) #[] #[some B.ks,some B.Cs])
 else if op=40 then some (.func (.func 90) #[] #[some B.kq,some B.Ct])
 else if op=41 then some (.func (.func 91) #[] #[some B.kq,some B.Ct])
 else if op=50 then some (.func (.func 92) #[] #[some B.kl,some B.xg])
 else if op=51 then some (.func (.func 94) #[] #[some B.kl,some B.xg])
 else if op=52 then some (.func (.func 96) #[] #[some B.kl,some B.xg])
 else if op=60 then some (.func (.func 97) #[] #[some B.kt])
 else if op=61 then some (.func (.func 101) #[] #[some B.kt])
 else if op=62 then some (.func (.func 99) #[] #[some B.kt])
 else none
section
variable{K:Ky}{zz:Int×Int×Bool}{c:Cf}{S:PM}{ss:List Sv}{w0 w:World}{F G:List En}{B:Kb}{op arg dat m0:Int}
theorem Ks.inv(k:Ks c S):Inv c S.th {S with calls:= [⟨S.th,0,0,0,0,0,0,0,0⟩],cur:=0,now:=0}:=
 ⟨k.dX.ok,rfl,k.dX.len,k.dX.wk,k.dX.sl,k.dX.ca,k.dX.BA,k.dX.he,k.dX.xm,k.dX.li,k.dX.Bo,k.dX.ag,k.th,by show(0:Int)≤0∧(0:Int)<65536;omega,_,rfl,rfl,rfl⟩
theorem Ks.ht(k:Ks c S):S.th<S.held.length:=by have:=k.dX.he;have:=k.th;omega
theorem Ks.hc(k:Ks c S):S.th<S.aO.length:=by have:=k.dX.ca;have:=k.th;omega
theorem Ks.hs(k:Ks c S):0<S.slots.length:=by
 have:=k.dX.sl;have ok:=k.dX.ok;unfold bY at ok;omega
theorem Ks.hz(k:Ks c S)(hr:0≤S.rc)(ha:0≤arg∧arg<c.H):0≤S.hz c arg:=by
 have I:=k.inv;have h:=I.eX (r:=9) O_ O_ (I.Br hr ha.1 ha.2).1;exact h.1
theorem kM{x:En}(hF:∀ x∈jK K c B,x∈F)(h:x∈jK K c B):x∈G++F:=bX (hF _ h)
def mz(K:Ky)(c:Cf)(F:List En)(op:Int)(g:FuncId)(cs:Array Value):Prop:=(∀ (args:Array Value) (w:World),(callFunc g args).run prog w=.ok (.enter g args) w)∧∀ (mk:Mk) (zz:Int×Int×Bool) (S:PM) (ss:List Sv) (w0 w1:World) (G:List En) (arg dat:Int),Idle {K with toMk:=mk} zz c S ss w0 w1 (G++F)→Ks c S→Kr arg→
   Calls prog g (#[.int .i64 S.th,gB S.th op arg dat]++cs) w1 (Made {K with toMk:=mk} zz c S ss w0 (G++F) (dh c S op arg dat))
theorem U0(hF:∀ x∈jK K c B,x∈F):mz K c F 10 68 #[some B.ka]:=by
 refine⟨fun args w=>K_,fun mk zz S ss w0 w1 G arg dat h k hk=>?_⟩
 show Calls _ _ #[S.th,gB S.th 10 arg dat,some B.ka] _ _
 rw [show dh c S 10 arg dat=some (.take .new) from rfl];exact Zm h (kM (K:={K with toMk:=mk}) (c:=c) (B:=B) hF aj) k.hs
theorem UZ(hF:∀ x∈jK K c B,x∈F):mz K c F 11 70 #[some B.ka]:=by
 refine⟨fun args w=>K_,fun mk zz S ss w0 w1 G arg dat h k hk=>?_⟩
 show Calls _ _ #[S.th,gB S.th 11 arg dat,some B.ka] _ _
 have e:dh c S 11 arg dat=if 0≤arg∧arg<c.S∧S.slots.getD arg.toNat (0,-1)=(2,(S.th:Int)) then some (.aU (.aU arg)) else none:=rfl;rw [e];have mG:=k.dX.sl
 by_cases h1:0≤arg∧arg<S.slots.length
 ·obtain⟨u,hu⟩:∃ u,S.slots[arg.toNat]?=some u:=⟨_,fy O_⟩
  have hg:S.slots.getD arg.toNat (0,-1)=u:=by rw [kO,hu];rfl
  rw [hg]
  by_cases h2:u=(2,(S.th:Int))
  ·rw [aY ⟨h1.1,O_,h2⟩]
   subst h2;exact U1 h (kM (K:={K with toMk:=mk}) (c:=c) (B:=B) hF aj) hu O_ k.hc
  ·rw [aK (fun q=>h2 q.2.2)]
   exact U3 h (kM (K:={K with toMk:=mk}) (c:=c) (B:=B) hF aj) hu O_ h2
 ·rw [aK (fun q=>h1 ⟨q.1,O_⟩)]
  exact U2 h (kM (K:={K with toMk:=mk}) (c:=c) (B:=B) hF aj) h1
theorem UY(hF:∀ x∈jK K c B,x∈F):mz K c F 12 73 #[some B.ka]:=by
 refine⟨fun args w=>K_,fun mk zz S ss w0 w1 G arg dat h k hk=>?_⟩
 show Calls _ _ #[S.th,gB S.th 12 arg dat,some B.ka] _ _
 rw [show dh c S 12 arg dat=some (.flush ⟨0,0,0⟩) from rfl];exact U4 h (kM (K:={K with toMk:=mk}) (c:=c) (B:=B) hF aj)
theorem UX(hF:∀ x∈jK K c B,x∈F):mz K c F 20 78 #[some B.kh]:=by
 refine⟨fun args w=>K_,fun mk zz S ss w0 w1 G arg dat h k hk=>?_⟩
 show Calls _ _ #[S.th,gB S.th 20 arg dat,some B.kh] _ _
 have e:dh c S 20 arg dat=if 0≤S.rc then none else some (.gm ⟨0,false⟩):=rfl;rw [e]
 by_cases hr:0≤S.rc
 ·rw [aY hr]
  exact Zr h (kM (K:={K with toMk:=mk}) (c:=c) (B:=B) hF bp) k.ht hr
 ·rw [aK hr]
  exact Zq h (kM (K:={K with toMk:=mk}) (c:=c) (B:=B) hF bp) k.ht hr
theorem UW(hF:∀ x∈jK K c B,x∈F):mz K c F 21 76 #[some B.kh,some B.w1]:=by
 refine⟨fun args w=>K_,fun mk zz S ss w0 w1 G arg dat h k hk=>?_⟩
 show Calls _ _ #[S.th,gB S.th 21 arg dat,some B.kh,some B.w1] _ _
 have e:dh c S 21 arg dat=if S.rc<0 then none else some (.unreg ⟨0,0,none,none⟩):=rfl;rw [e]
 by_cases hr:0≤S.rc
 ·rw [aK O_]
  refine BC h (kM (K:={K with toMk:=mk}) (c:=c) (B:=B) hF bp) (kM (K:={K with toMk:=mk}) (c:=c) (B:=B) hF iU) k.ht hr (fun args w=>K_) (fun W x hx=>?_);exact aeS hx (iA x (kM (K:={K with toMk:=mk}) (c:=c) (B:=B) hF bp))
 ·rw [aY O_]
  exact BD h (kM (K:={K with toMk:=mk}) (c:=c) (B:=B) hF bp) (kM (K:={K with toMk:=mk}) (c:=c) (B:=B) hF iU) k.ht hr
theorem UU(hF:∀ x∈jK K c B,x∈F):mz K c F 22 76 #[some B.kh,some B.w2]:=by
 refine⟨fun args w=>K_,fun mk zz S ss w0 w1 G arg dat h k hk=>?_⟩
 show Calls _ _ #[S.th,gB S.th 22 arg dat,some B.kh,some B.w2] _ _
 have e:dh c S 22 arg dat=if S.rc<0 then none else some (.post ⟨arg,0,.new,0,0,none⟩):=rfl;rw [e]
 by_cases hr:0≤S.rc
 ·rw [aK O_]
  refine BC h (kM (K:={K with toMk:=mk}) (c:=c) (B:=B) hF bp) (kM (K:={K with toMk:=mk}) (c:=c) (B:=B) hF lA) k.ht hr (fun args w=>K_) (fun W x hx=>?_);exact Zs hx (iA x (kM (K:={K with toMk:=mk}) (c:=c) (B:=B) hF bp))
 ·rw [aY O_]
  exact BD h (kM (K:={K with toMk:=mk}) (c:=c) (B:=B) hF bp) (kM (K:={K with toMk:=mk}) (c:=c) (B:=B) hF lA) k.ht hr
theorem UT(hF:∀ x∈jK K c B,x∈F):mz K c F 23 76 #[some B.kh,some B.w3]:=by
 refine⟨fun args w=>K_,fun mk zz S ss w0 w1 G arg dat h k hk=>?_⟩
 show Calls _ _ #[S.th,gB S.th 23 arg dat,some B.kh,some B.w3] _ _
 have e:dh c S 23 arg dat=if S.rc<0 then none else(if 0≤arg∧arg<c.H then some (.read ⟨S.hz c arg,0,0,0⟩) else none):=rfl;rw [e]
 by_cases hr:0≤S.rc
 ·rw [aK O_]
  refine BC h (kM (K:={K with toMk:=mk}) (c:=c) (B:=B) hF bp) (kM (K:={K with toMk:=mk}) (c:=c) (B:=B) hF iu) k.ht hr (fun args w=>K_) (fun W x hx=>?_)
  by_cases ha:0≤arg∧arg<c.H
  ·rw [aY ha]
   exact UC hx (iA x (kM (K:={K with toMk:=mk}) (c:=c) (B:=B) hF bp)) k.inv hr ha (k.hz hr ha)
  ·rw [aK ha]
   exact UD hx (iA x (kM (K:={K with toMk:=mk}) (c:=c) (B:=B) hF bp)) k.inv hr ha
 ·rw [aY O_]
  exact BD h (kM (K:={K with toMk:=mk}) (c:=c) (B:=B) hF bp) (kM (K:={K with toMk:=mk}) (c:=c) (B:=B) hF iu) k.ht hr
theorem US(hF:∀ x∈jK K c B,x∈F):mz K c F 24 76 #[some B.kh,some B.w4]:=by
 refine⟨fun args w=>K_,fun mk zz S ss w0 w1 G arg dat h k hk=>?_⟩
 show Calls _ _ #[S.th,gB S.th 24 arg dat,some B.kh,some B.w4] _ _
 have e:dh c S 24 arg dat=if S.rc<0 then none else(if 0≤arg∧arg<c.H then some (.clear (S.hz c arg)) else none):=rfl;rw [e]
 by_cases hr:0≤S.rc
 ·rw [aK O_]
  refine BC h (kM (K:={K with toMk:=mk}) (c:=c) (B:=B) hF bp) (kM (K:={K with toMk:=mk}) (c:=c) (B:=B) hF oJ) k.ht hr (fun args w=>K_) (fun W x hx=>?_)
  by_cases ha:0≤arg∧arg<c.H
  ·rw [aY ha]
   exact PT hx (iA x (kM (K:={K with toMk:=mk}) (c:=c) (B:=B) hF bp)) k.inv hr ha (k.hz hr ha)
  ·rw [aK ha]
   exact PU hx (iA x (kM (K:={K with toMk:=mk}) (c:=c) (B:=B) hF bp)) k.inv hr ha
 ·rw [aY O_]
  exact BD h (kM (K:={K with toMk:=mk}) (c:=c) (B:=B) hF bp) (kM (K:={K with toMk:=mk}) (c:=c) (B:=B) hF oJ) k.ht hr
theorem UR(hF:∀ x∈jK K c B,x∈F):mz K c F 25 76 #[some B.kh,some B.w5]:=by
 refine⟨fun args w=>K_,fun mk zz S ss w0 w1 G arg dat h k hk=>?_⟩
 show Calls _ _ #[S.th,gB S.th 25 arg dat,some B.kh,some B.w5] _ _
 have e:dh c S 25 arg dat=if S.rc<0 then none else some (.scan (.new S.rc)):=rfl;rw [e]
 by_cases hr:0≤S.rc
 ·rw [aK O_]
  refine BC h (kM (K:={K with toMk:=mk}) (c:=c) (B:=B) hF bp) (kM (K:={K with toMk:=mk}) (c:=c) (B:=B) hF xJ) k.ht hr (fun args w=>K_) (fun W x hx=>?_);exact Zn hx (iA x (kM (K:={K with toMk:=mk}) (c:=c) (B:=B) hF bp)) k.ht
 ·rw [aY O_]
  exact BD h (kM (K:={K with toMk:=mk}) (c:=c) (B:=B) hF bp) (kM (K:={K with toMk:=mk}) (c:=c) (B:=B) hF xJ) k.ht hr
theorem UQ(hF:∀ x∈jK K c B,x∈F):mz K c F 30 88 #[some B.ks,some B.Cs,some B.F0]:=by
 refine⟨fun args w=>K_,fun mk zz S ss w0 w1 G arg dat h k hk=>?_⟩
 show Calls _ _ #[S.th,gB S.th 30 arg dat,some B.ks,some B.Cs,some B.F0] _ _
 have e:dh c S 30 arg dat=if S.rc<0 then none else some (.push ⟨arg,.new,0,0,0⟩):=rfl;rw [e]
 by_cases hr:0≤S.rc
 ·rw [aK O_]
  exact UE h (kM (K:={K with toMk:=mk}) (c:=c) (B:=B) hF tn) (kM (K:={K with toMk:=mk}) (c:=c) (B:=B) hF xd) (kM (K:={K with toMk:=mk}) (c:=c) (B:=B) hF lO) k.ht hr k.hs
 ·rw [aY O_]
  exact UF h (kM (K:={K with toMk:=mk}) (c:=c) (B:=B) hF tn) (kM (K:={K with toMk:=mk}) (c:=c) (B:=B) hF xd) k.ht hr
theorem UO(hF:∀ x∈jK K c B,x∈F):mz K c F 31 89 #[some B.ks,some B.Cs]:=by
 refine⟨fun args w=>K_,fun mk zz S ss w0 w1 G arg dat h k hk=>?_⟩
 show Calls _ _ #[S.th,gB S.th 31 arg dat,some B.ks,some B.Cs] _ _
 have e:dh c S 31 arg dat=if S.rc<0 then none else some (.pop ⟨0,0,0,false,none,0⟩):=rfl;rw [e]
 by_cases hr:0≤S.rc
 ·rw [aK O_]
  exact Zt h (kM (K:={K with toMk:=mk}) (c:=c) (B:=B) hF tn) (kM (K:={K with toMk:=mk}) (c:=c) (B:=B) hF xd) (kM (K:={K with toMk:=mk}) (c:=c) (B:=B) hF lO) k.ht hr
 ·rw [aY O_]
  exact Zu h (kM (K:={K with toMk:=mk}) (c:=c) (B:=B) hF tn) (kM (K:={K with toMk:=mk}) (c:=c) (B:=B) hF xd) k.ht hr
theorem UN(hF:∀ x∈jK K c B,x∈F):mz K c F 40 90 #[some B.kq,some B.Ct]:=by
 refine⟨fun args w=>K_,fun mk zz S ss w0 w1 G arg dat h k hk=>?_⟩
 show Calls _ _ #[S.th,gB S.th 40 arg dat,some B.kq,some B.Ct] _ _
 have e:dh c S 40 arg dat=if S.rc<0 then none else some (.enq ⟨arg,0,.new,0,0,0,0⟩):=rfl;rw [e]
 by_cases hr:0≤S.rc
 ·rw [aK O_]
  exact Zz h (kM (K:={K with toMk:=mk}) (c:=c) (B:=B) hF Iy) (kM (K:={K with toMk:=mk}) (c:=c) (B:=B) hF lB) k.ht hr
 ·rw [aY O_]
  exact ZA h (kM (K:={K with toMk:=mk}) (c:=c) (B:=B) hF Iy) (kM (K:={K with toMk:=mk}) (c:=c) (B:=B) hF lB) k.ht hr
theorem UM(hF:∀ x∈jK K c B,x∈F):mz K c F 41 91 #[some B.kq,some B.Ct]:=by
 refine⟨fun args w=>K_,fun mk zz S ss w0 w1 G arg dat h k hk=>?_⟩
 show Calls _ _ #[S.th,gB S.th 41 arg dat,some B.kq,some B.Ct] _ _
 have e:dh c S 41 arg dat=if S.rc<0 then none else some (.deq ⟨0,0,0,0,0,false,0,0,0,none⟩):=rfl;rw [e]
 by_cases hr:0≤S.rc
 ·rw [aK O_]
  exact ZB h (kM (K:={K with toMk:=mk}) (c:=c) (B:=B) hF Iy) (kM (K:={K with toMk:=mk}) (c:=c) (B:=B) hF lB) k.ht hr
 ·rw [aY O_]
  exact ZC h (kM (K:={K with toMk:=mk}) (c:=c) (B:=B) hF Iy) (kM (K:={K with toMk:=mk}) (c:=c) (B:=B) hF lB) k.ht hr
theorem UL(hF:∀ x∈jK K c B,x∈F):mz K c F 50 92 #[some B.kl,some B.xg]:=by
 refine⟨fun args w=>K_,fun mk zz S ss w0 w1 G arg dat h k hk=>?_⟩
 show Calls _ _ #[S.th,gB S.th 50 arg dat,some B.kl,some B.xg] _ _
 have e:dh c S 50 arg dat=if S.rc<0 then none else some (.ins ⟨.new (c.ad 6 0) arg,0,none,none,-1⟩):=rfl;rw [e]
 by_cases hr:0≤S.rc
 ·rw [aK O_]
  have hp:=k.inv.O9;exact Zv h (kM (K:={K with toMk:=mk}) (c:=c) (B:=B) hF Aj) (kM (K:={K with toMk:=mk}) (c:=c) (B:=B) hF Ei) k.ht k.dX.ok k.dX.len hr (by have:=k.dX.len;have:=hp.2.1;have:=hp.1;omega)
 ·rw [aY O_]
  exact Zw h (kM (K:={K with toMk:=mk}) (c:=c) (B:=B) hF Aj) (kM (K:={K with toMk:=mk}) (c:=c) (B:=B) hF Ei) k.ht hr
theorem UK(hF:∀ x∈jK K c B,x∈F):mz K c F 51 94 #[some B.kl,some B.xg]:=by
 refine⟨fun args w=>K_,fun mk zz S ss w0 w1 G arg dat h k hk=>?_⟩
 show Calls _ _ #[S.th,gB S.th 51 arg dat,some B.kl,some B.xg] _ _
 have e:dh c S 51 arg dat=if S.rc<0 then none else some (.del ⟨.new (c.ad 6 0) arg,none⟩):=rfl;rw [e]
 by_cases hr:0≤S.rc
 ·rw [aK O_]
  have hp:=k.inv.O9;exact ZD h (kM (K:={K with toMk:=mk}) (c:=c) (B:=B) hF Aj) (kM (K:={K with toMk:=mk}) (c:=c) (B:=B) hF Ei) k.ht k.dX.ok k.dX.len hr (by have:=k.dX.len;have:=hp.2.1;have:=hp.1;omega)
 ·rw [aY O_]
  exact ZE h (kM (K:={K with toMk:=mk}) (c:=c) (B:=B) hF Aj) (kM (K:={K with toMk:=mk}) (c:=c) (B:=B) hF Ei) k.ht hr
theorem UJ(hF:∀ x∈jK K c B,x∈F):mz K c F 52 96 #[some B.kl,some B.xg]:=by
 refine⟨fun args w=>K_,fun mk zz S ss w0 w1 G arg dat h k hk=>?_⟩
 show Calls _ _ #[S.th,gB S.th 52 arg dat,some B.kl,some B.xg] _ _
 have e:dh c S 52 arg dat=if S.rc<0 then none else some (.con (.new (c.ad 6 0) arg)):=rfl;rw [e]
 by_cases hr:0≤S.rc
 ·rw [aK O_]
  have hp:=k.inv.O9;exact ZF h (kM (K:={K with toMk:=mk}) (c:=c) (B:=B) hF Aj) (kM (K:={K with toMk:=mk}) (c:=c) (B:=B) hF Ei) k.ht k.dX.ok k.dX.len hr (by have:=k.dX.len;have:=hp.2.1;have:=hp.1;omega)
 ·rw [aY O_]
  exact ZG h (kM (K:={K with toMk:=mk}) (c:=c) (B:=B) hF Aj) (kM (K:={K with toMk:=mk}) (c:=c) (B:=B) hF Ei) k.ht hr
theorem UI(hF:∀ x∈jK K c B,x∈F):mz K c F 60 97 #[some B.kt]:=by
 refine⟨fun args w=>K_,fun mk zz S ss w0 w1 G arg dat h k hk=>?_⟩
 show Calls _ _ #[S.th,gB S.th 60 arg dat,some B.kt] _ _
 have e:dh c S 60 arg dat=if S.rc<0 then none else some (.ins ⟨.new (c.ad 7 (u64 arg % c.B)) arg,dat,none,none,-1⟩):=rfl;rw [e]
 by_cases hr:0≤S.rc
 ·rw [aK O_]
  have hp:=k.inv.WT (u64 arg);exact ZH h (kM (K:={K with toMk:=mk}) (c:=c) (B:=B) hF Iw) k.ht k.dX.ok k.dX.len hr (by have:=k.dX.len;have:=hp.2.1;have:=hp.1;omega)
 ·rw [aY O_]
  exact ZI h (kM (K:={K with toMk:=mk}) (c:=c) (B:=B) hF Iw) k.ht hr
theorem UH(hF:∀ x∈jK K c B,x∈F):mz K c F 61 101 #[some B.kt]:=by
 refine⟨fun args w=>K_,fun mk zz S ss w0 w1 G arg dat h k hk=>?_⟩
 show Calls _ _ #[S.th,gB S.th 61 arg dat,some B.kt] _ _
 have e:dh c S 61 arg dat=if S.rc<0 then none else some (.tab ⟨.new 0 0,c.ad 7 (u64 arg % c.B),arg,0,0,true,none,0⟩):=rfl;rw [e]
 by_cases hr:0≤S.rc
 ·rw [aK O_]
  exact Zo h (kM (K:={K with toMk:=mk}) (c:=c) (B:=B) hF Iw) k.ht k.dX.ok hr
 ·rw [aY O_]
  exact Zp h (kM (K:={K with toMk:=mk}) (c:=c) (B:=B) hF Iw) k.ht hr
theorem UG(hF:∀ x∈jK K c B,x∈F):mz K c F 62 99 #[some B.kt]:=by
 refine⟨fun args w=>K_,fun mk zz S ss w0 w1 G arg dat h k hk=>?_⟩
 show Calls _ _ #[S.th,gB S.th 62 arg dat,some B.kt] _ _
 have e:dh c S 62 arg dat=if S.rc<0 then none else some (.tab ⟨.new 0 0,c.ad 7 (u64 arg % c.B),arg,0,0,false,none,0⟩):=rfl;rw [e]
 by_cases hr:0≤S.rc
 ·rw [aK O_]
  exact Zx h (kM (K:={K with toMk:=mk}) (c:=c) (B:=B) hF Iw) k.ht k.dX.ok hr
 ·rw [aY O_]
  exact Zy h (kM (K:={K with toMk:=mk}) (c:=c) (B:=B) hF Iw) k.ht hr
theorem UB(hF:∀ x∈jK K c B,x∈F):Tp K c (IE B) F:=by
 intro op;unfold IE
 by_cases gI:op=10
 ·subst gI
  simp (config:={decide:=true}) only [dL,eu];exact⟨_,_,rfl,U0 hF⟩
 by_cases lQ:op=11
 ·subst lQ
  simp (config:={decide:=true}) only [dL,eu];exact⟨_,_,rfl,UZ hF⟩
 by_cases h12:op=12
 ·subst h12
  simp (config:={decide:=true}) only [dL,eu];exact⟨_,_,rfl,UY hF⟩
 by_cases qj:op=20
 ·subst qj
  simp (config:={decide:=true}) only [dL,eu];exact⟨_,_,rfl,UX hF⟩
 by_cases k8:op=21
 ·subst k8
  simp (config:={decide:=true}) only [dL,eu];exact⟨_,_,rfl,UW hF⟩
 by_cases pI:op=22
 ·subst pI
  simp (config:={decide:=true}) only [dL,eu];exact⟨_,_,rfl,UU hF⟩
 by_cases h23:op=23
 ·subst h23
  simp (config:={decide:=true}) only [dL,eu];exact⟨_,_,rfl,UT hF⟩
 by_cases uE:op=24
 ·subst uE
  simp (config:={decide:=true}) only [dL,eu];exact⟨_,_,rfl,US hF⟩
 by_cases tT:op=25
 ·subst tT
  simp (config:={decide:=true}) only [dL,eu];exact⟨_,_,rfl,UR hF⟩
 by_cases jS:op=30
 ·subst jS
  simp (config:={decide:=true}) only [dL,eu];exact⟨_,_,rfl,UQ hF⟩
 by_cases qi:op=31
 ·subst qi
  simp (config:={decide:=true}) only [dL,eu];exact⟨_,_,rfl,UO hF⟩
 by_cases Gj:op=40
 ·subst Gj
  simp (config:={decide:=true}) only [dL,eu];exact⟨_,_,rfl,UN hF⟩
 by_cases Gh:op=41
 ·subst Gh
  simp (config:={decide:=true}) only [dL,eu];exact⟨_,_,rfl,UM hF⟩
 by_cases Gg:op=50
 ·subst Gg
  simp (config:={decide:=true}) only [dL,eu];exact⟨_,_,rfl,UL hF⟩
 by_cases Gf:op=51
 ·subst Gf
  simp (config:={decide:=true}) only [dL,eu];exact⟨_,_,rfl,UK hF⟩
 by_cases Ge:op=52
 ·subst Ge
  simp (config:={decide:=true}) only [dL,eu];exact⟨_,_,rfl,UJ hF⟩
 by_cases Gb:op=60
 ·subst Gb
  simp (config:={decide:=true}) only [dL,eu];exact⟨_,_,rfl,UI hF⟩
 by_cases F9:op=61
 ·subst F9
  simp (config:={decide:=true}) only [dL,eu];exact⟨_,_,rfl,UH hF⟩
 by_cases F8:op=62
 ·subst F8
  simp (config:={decide:=true}) only [dL,eu];exact⟨_,_,rfl,UG hF⟩
 simp only [aK gI,aK lQ,aK h12,aK qj,aK k8,aK pI,aK h23,aK uE,aK tT,aK jS,aK qi,aK Gj,aK Gh,aK Gg,aK Gf,aK Ge,aK Gb,aK F9,aK F8];intro S arg dat;unfold dh;simp only [aK gI,aK lQ,aK h12,aK qj,aK k8,aK pI,aK h23,aK uE,aK tT,aK jS,aK qi,aK Gj,aK Gh,aK Gg,aK Gf,aK Ge,aK Gb,aK F9,aK F8,ite_self]
end
end Go.Proofs.YtgbhnihkgmpocaaGreat
