/- Part 4 of 16 of the proof of PoolPlays. No condition. -/
import Derived.ScopeJumps
import Derived.WalkMore
import Derived.Test.YtgbhnihkgmpocaaGreatM02
namespace Go.Proofs.YtgbhnihkgmpocaaGreat
set_option maxRecDepth 100000
set_option maxHeartbeats 4000000
open Tryz
abbrev Fh:=@results_cell_row
variable{P:Prop}
theorem ab0(x:P:=by
 rw [←hW] at m1 ⊢;clear hW k4 f4;have p4:=m1.cell (i:=4) aj rfl;have p2:=m1.cell (i:=2) aj rfl;have p0:=m1.cell (i:=0) aj rfl;obtain⟨A,cc,pgt⟩:=m1.jX r hrl;have TU:=fun z:aL W=>(m1.hz z).2.2.1
 have TT:=fun z:aL W=>(m1.hz z).2.2.2.2.2.2.2.1
 refine bT (Ext W) (bu _).bh K_ K_ ?_
 repeat (go_big_quiet_step (fail))
 refine qA ?_;rintro _ ⟨ka,rfl⟩;have mV:=m1.iD ka;clear p4 p2 p0 pgt TU TT;go_wp2_with fail;obtain⟨V,hV⟩:∃ V,V=ka.world:=⟨_,rfl⟩;rw [←hV] at mV ⊢;clear hV m1;have q4:=mV.cell (i:=4) aj rfl;have q2:=mV.cell (i:=2) aj rfl;have q0:=mV.cell (i:=0) aj rfl;obtain⟨A,cc,qgt⟩:=mV.jX r hrl;have OU:=fun z:aL V=>(mV.hz z).2.2.1
 have OT:=fun z:aL V=>(mV.hz z).2.2.2.2.2.2.2.1
 rw [P2] at qgt;refine bT (Ext V) (bu _).bh K_ K_ ?_
 repeat (go_big_quiet_step (fail))
 refine qA ?_;rintro _ ⟨kb,rfl⟩;have mb:=mV.iD kb;clear q4 q2 q0 qgt OU OT;have g4:=mb.at_ (i:=4) aj rfl;have f4:=mb.dW aj 4;have f5:=mb.dW aj 5;have l5:=mb.tu aj;have mc:=mb.put 4 (.int .i64 0);have g5:=mb.at_ (i:=5) aj rfl;have md:=(mc.put 5 (.map (some kb.world.heap.size))).FU (b:=kb.world.heap.size) S_;clear mb mc;go_wp2_with fail;generalize ((kb.world.setCell ⟨k,4,none⟩ (.int .i64 0)).setCell ⟨k,5,none⟩ (.map (some kb.world.heap.size))).alloc (.map #[] 0)=W8 at md ⊢;generalize kb.world.heap.size=b8 at md l5 ⊢;clear g4 g5 f4 f5 l5 kb;replace md:=md.swap;have q4:=md.cell (i:=4) aj rfl;have q2:=md.cell (i:=2) aj rfl;have q0:=md.cell (i:=0) aj rfl;obtain⟨A,cc,qgt⟩:=md.jX r hrl;have OU:=fun z:aL W8=>(md.hz z).2.2.1
 have OT:=fun z:aL W8=>(md.hz z).2.2.2.2.2.2.2.1
 rw [P2] at qgt;refine bT (Ext W8) (bu _).bh K_ K_ ?_
 repeat (go_big_quiet_step (fail))
 refine qA ?_;rintro _ ⟨kc,rfl⟩;have mc:=md.iD kc;clear q4 q2 q0 qgt OU OT md;have g3:=mc.at_ (i:=3) aj rfl;have f3:=mc.dW aj 3;have me:=mc.put 3 (.int .i64 6);go_wp2_with fail;simp only [Exit.jump];go_ret;exact⟨rfl,[_,_],me⟩):P:=x
theorem abZ(x:P:=by
 rw [←hW] at m1 ⊢;clear hW k4 f4;have p4:=m1.cell (i:=4) aj rfl;have p2:=m1.cell (i:=2) aj rfl;have p0:=m1.cell (i:=0) aj rfl;obtain⟨A,cc,pgt⟩:=m1.jX r hrl;have TU:=fun z:aL W=>(m1.hz z).2.2.1
 have TT:=fun z:aL W=>(m1.hz z).2.2.2.2.2.2.2.1
 refine bT (Ext W) (bu _).bh K_ K_ ?_
 repeat (go_big_quiet_step (fail))
 refine qA ?_;rintro _ ⟨ka,rfl⟩;have mV:=m1.iD ka;clear p4 p2 p0 pgt TU TT;go_wp2_with fail;obtain⟨V,hV⟩:∃ V,V=ka.world:=⟨_,rfl⟩;rw [←hV] at mV ⊢;clear hV m1;have q4:=mV.cell (i:=4) aj rfl;have q2:=mV.cell (i:=2) aj rfl;have q0:=mV.cell (i:=0) aj rfl;obtain⟨A,cc,qgt⟩:=mV.jX r hrl;have OU:=fun z:aL V=>(mV.hz z).2.2.1
 have OT:=fun z:aL V=>(mV.hz z).2.2.2.2.2.2.2.1
 refine bT (Ext V) (bu _).bh K_ K_ ?_
 repeat (go_big_quiet_step (fail))
 refine qA ?_;rintro _ ⟨kb,rfl⟩;have mb:=mV.iD kb;clear q4 q2 q0 qgt OU OT;have g4:=mb.at_ (i:=4) aj rfl;have f4:=mb.dW aj 4;have f5:=mb.dW aj 5;have l5:=mb.tu aj;have mc:=mb.put 4 (.int .i64 0);have g5:=mb.at_ (i:=5) aj rfl;have md:=(mc.put 5 (.map (some kb.world.heap.size))).FU (b:=kb.world.heap.size) S_;clear mb mc;go_wp2_with fail;generalize ((kb.world.setCell ⟨k,4,none⟩ (.int .i64 0)).setCell ⟨k,5,none⟩ (.map (some kb.world.heap.size))).alloc (.map #[] 0)=W8 at md ⊢;generalize kb.world.heap.size=b8 at md l5 ⊢;clear g4 g5 f4 f5 l5 kb;replace md:=md.swap;have q4:=md.cell (i:=4) aj rfl;have q2:=md.cell (i:=2) aj rfl;have q0:=md.cell (i:=0) aj rfl;obtain⟨A,cc,qgt⟩:=md.jX r hrl;have OU:=fun z:aL W8=>(md.hz z).2.2.1
 have OT:=fun z:aL W8=>(md.hz z).2.2.2.2.2.2.2.1
 refine bT (Ext W8) (bu _).bh K_ K_ ?_
 repeat (go_big_quiet_step (fail))
 refine qA ?_;rintro _ ⟨kc,rfl⟩;have mc:=md.iD kc;clear q4 q2 q0 qgt OU OT md;have g3:=mc.at_ (i:=3) aj rfl;have f3:=mc.dW aj 3;have me:=mc.put 3 (.int .i64 3);go_wp2_with fail;simp only [Exit.jump];go_ret;exact⟨rfl,b8,me⟩):P:=x
theorem abY(x:P:=by
 have lQ:=fun z:aL w=>(h.hz z).2.2.2.2.2.2.2.2.2.1
 have h3:=fun z:aL w=>(h.hz z).2.2.2.1
 have h3':=h3 ⟨w,bu w⟩;simp only at h3';have he:S.hz c k=c.ad 9 0+S.rc*c.H+k:=by unfold PM.hz;rw [ad9];omega
 unfold LU;rw [he];generalize S.rc=r at dZ hb ⊢;generalize c.ad 9 0=a at lQ Bu ⊢;clear h I he
 by_cases hr:r<0
 case' pos=>rw [aY hr];have Xf:decide (r<0)=true:=cM hr
 case' neg=>
  rw [aK hr];have Xf:decide (r<0)=false:=dy hr
  by_cases hk:k<0
 case' pos=>rw [aY hk];have Z8:decide (k<0)=true:=cM hk
 case' neg=>
  rw [aK hk];have Z8:decide (k<0)=false:=dy hk
  by_cases hk2:c.H≤k
 case' pos=>rw [aY hk2];have hd3:decide (c.H≤k)=true:=cM hk2
 case' neg=>
  rw [aK hk2];have hd3:decide (c.H≤k)=false:=dy hk2;have hm:0≤r*c.H∧r*c.H≤16*8:=⟨wX O_ O_,ua O_ O_ O_ O_⟩;generalize WY:r*c.H=rh at hm ⊢;have q1:wrap64 (r*c.H)=rh:=by rw [WY];exact wid O_ O_
  have q2:wrap64 (a+rh)=a+rh:=wid O_ O_;have q3:wrap64 (a+rh+k)=a+rh+k:=wid O_ O_;clear WY
 all_goals
  clear hI Bu hb Xb htt;go_enter func82,ntmps82;go_wp2_with fail;refine dZ.mono ?_;rintro e w1 ⟨rfl,rfl⟩;go_wp2_with fail
 ·refine qE fun k1=>?_
  go_wp2_with fail;go_ret;refine⟨?_,k1.ok⟩
  show Ending.returned (.int .i64 (wrap64 (a+rh+k)))=_
  rw [q3]
 ·go_ret
  exact⟨rfl,bu _⟩
 ·go_ret
  exact⟨rfl,bu _⟩
 ·go_ret
  exact⟨rfl,bu _⟩):P:=x
theorem Wq(x:P:=by
 go_wp2_with fail
 go_step3;go_wp2_with fail;obtain⟨W,hW⟩:∃ W,W=w.setCell ⟨k,4,none⟩ (.int .i64 (pc+1)):=⟨_,rfl⟩;rw [←hW] at m1 ⊢;clear hW k4 f4;have p4:=m1.cell (i:=4) aj rfl;have p2:=m1.cell (i:=2) aj rfl;have p0:=m1.cell (i:=0) aj rfl;obtain⟨A,cc,pgt⟩:=m1.jX r hrl;have TU:=fun z:aL W=>(m1.hz z).2.2.1
 have TT:=fun z:aL W=>(m1.hz z).2.2.2.2.2.2.2.1
 refine bT (Ext W) (bu _).bh K_ K_ ?_
 repeat (go_big_quiet_step (fail))
 refine qA ?_;rintro _ ⟨ka,rfl⟩;have mV:=m1.iD ka;clear p4 p2 p0 pgt TU TT;go_wp2_with fail
 go_step3;exact⟨rfl,_,_,_,_,_,_,_,_,_,_,_,_,_,_,_,_,rfl,mV⟩):P:=x
theorem abX(x:P:=by
 rw [←hW] at m1 ⊢;clear hW k4 f4;have p4:=m1.cell (i:=4) aj rfl;have p2:=m1.cell (i:=2) aj rfl;have p0:=m1.cell (i:=0) aj rfl;obtain⟨A,cc,pgt⟩:=m1.jX r hrl;have TU:=fun z:aL W=>(m1.hz z).2.2.1
 have TT:=fun z:aL W=>(m1.hz z).2.2.2.2.2.2.2.1
 refine bT (Ext W) (bu _).bh K_ K_ ?_
 repeat (go_big_quiet_step (fail))
 refine qA ?_;rintro _ ⟨ka,rfl⟩;have mV:=m1.iD ka;clear p4 p2 p0 pgt TU TT;go_wp2_with fail;obtain⟨V,hV⟩:∃ V,V=ka.world:=⟨_,rfl⟩;rw [←hV] at mV ⊢;clear hV m1;have q4:=mV.cell (i:=4) aj rfl;have q2:=mV.cell (i:=2) aj rfl;have q0:=mV.cell (i:=0) aj rfl;obtain⟨A,cc,qgt⟩:=mV.jX r hrl;have OU:=fun z:aL V=>(mV.hz z).2.2.1
 have OT:=fun z:aL V=>(mV.hz z).2.2.2.2.2.2.2.1
 refine bT (Ext V) (bu _).bh K_ K_ ?_
 repeat (go_big_quiet_step (fail))
 refine qA ?_;rintro _ ⟨kb,rfl⟩;have mb:=mV.iD kb;clear q4 q2 q0 qgt OU OT;have g3:=mb.at_ (i:=3) aj rfl;have f3:=mb.dW aj 3;have mc:=mb.put 3 (.int .i64 0);go_wp2_with fail;simp only [Exit.jump];go_ret;exact⟨rfl,mc⟩):P:=x
theorem abK(x:P:=by
 go_enter func65,ntmps65;go_wp2_with fail;refine DL (Fh rfl _ _ w.heap.size 23 _ (0,0) _ rfl (yo _ _) underlying23 rfl K_) rfl ⟨rfl,(bu w).aE _⟩):P:=x
theorem abD(x:P:=by
 obtain⟨cv,lv,a,b,l,p,s,ah,q,h⟩:=h;intro z;have h:=h.iD z;have e:=b;refine⟨h.at_ (i:=0) lB rfl,h.at_ (i:=1) lB rfl,h.at_ (i:=2) lB rfl,h.at_ (i:=3) lB rfl,h.at_ (i:=4) lB rfl,h.at_ (i:=6) lB rfl,h.at_ (i:=8) lB rfl,?_,h.at_ (i:=10) lB rfl,h.at_ (i:=11) lB rfl,h.at_ (i:=12) lB rfl,h.at_ (i:=13) lB rfl⟩;rw [←e];exact h.at_ (i:=9) lB rfl):P:=x
theorem QM(x:P:=by
 rw [hr];obtain⟨rfl,ha⟩:=ha;exact bt.go I' K'.q hn ⟨(hk 47 O_).trans aZ,K'.cj.trans hs,rfl,rfl,ha⟩):P:=x
theorem abA(x:P:=by
 unfold dS;rw [show(S.aV r l').lists=S.lists.set r l' from ep (fun i=>S.lists.set i l') (mW r),f,cW];simp only [dH,kY,mX] at h';simp only [dH,kY,mX,Ru,cW];exact h'):P:=x
theorem abz(x:P:=by
 rw [hr'];exact bt.go (R':=cg (cg R' 0 (u64 S'.rc)) 2 (u64 0)) (cZ:=130) (eF:= []) (cG:=cG) (cE:=cE) I' K'.q (.trans (hn [] 128 rfl)<| .trans (r38 (cd 128)) (yI (cd 129) rfl)) ⟨(hk 47 O_).trans aZ,K'.cj.trans hs,by rw [K'.rc];exact hr,.inr (.inr (.inr ⟨rfl,rfl,rfl,rfl,rfl⟩))⟩):P:=x
theorem abv(x:P:=by
 have hh:=h.ZZ (FH ht rfl) ⟨w,bu w⟩;have h8:=(h.hz ⟨w,bu w⟩).2.2.2.2.2.2.1;simp only at hh h8;have Xf:decide ((S.held.length:Int)≤(S.th:Int))=false:=by simp;omega
 have Z8:decide ((S.th:Int)<(S.held.length:Int))=true:=by simp;omega
 clear h;go_enter func77,ntmps77;exact iB):P:=x
theorem Wh(x:P:=by
 go_roundw
 case rel=>exact⟨i+1,_,_,O_,rfl,by go_num,H3⟩
 case measure=>simp [intOf];omega):P:=x
theorem Ti(x:P:=by
 rw [hr'];obtain⟨rfl,ha⟩:=ha;exact bt.go I' K'.q hn ⟨(hk 47 O_).trans aZ,K'.cj.trans hs,by rw [K'.rc];exact hr,.inr (.inr (.inl ⟨rfl,k,rfl,rfl,rfl,ha⟩))⟩):P:=x
theorem NP(x:P:=by
 show(lv.set r v').length=(S.lists.set _ l').length
 rw [cW,cW,b]):P:=x
theorem Te(x:P:=by
 have e:=(bu w).aE (.cells #[.int .i64 0,.int .i64 0,.int .i64 0,.int .i64 0,.int .i64 0,.int .i64 0,.int .i64 0] 23);have a:=(h.next e).arA;clear h;exact abK):P:=x
theorem SS(x:P:=by
 obtain⟨cv,lv,a,b,l,p,s,ah,q,h⟩:=h;intro z;exact(h.iD z).ey (g:=K.gh) (c:=K.ch) Aj (by rw [gA,hr];rfl)):P:=x
theorem SK(x:P:=by
 go_enter func85,ntmps85;go_wp2_with fail;refine dZ.mono ?_;rintro e w1 ⟨rfl,rfl⟩;exact QL):P:=x
theorem SJ(x:P:=by
 have h0:=(h.hz ⟨w,bu w⟩).1;simp only at h0;clear h;go_enter func86,ntmps86;exact iB):P:=x
theorem SG(x:P:=by
 rw [hr];obtain⟨rfl,ha⟩:=ha;exact bt.go I' K'.q hn ⟨k,rfl,(hk 47 O_).trans aZ,rfl,rfl,ha⟩):P:=x
theorem Ss(x:P:=by
 rw [hr];exact bt.behind K'.q (hn [] 47 rfl) (Ku I' ((hk 47 O_).trans aZ) ha)):P:=x
theorem Sr(x:P:=by
 simp only [ug,List.getElem?_drop,gn] at this;exact this.symm):P:=x
theorem So(x:P:=by
 rw [hr];exact bt.done I' K'.q (.trans (hn [] 57 rfl) (mL I' (cd 57) (K'.cj.trans hs)))):P:=x
theorem Sn(x:P:=by
 rw [hr];exact bt.done I' K'.q (.trans (hn [] 54 rfl) (mL I' (cd 54) (K'.cj.trans hs)))):P:=x
theorem Sk(x:P:=by
 rintro e w' ⟨rfl,b,h'⟩;exact⟨rfl,[_,_],fun _=>.name b _ rfl hp rfl Qq,h'⟩):P:=x
theorem RX(x:P:=by
 rintro e w' ⟨rfl,h'⟩;exact⟨rfl,[_],fun _=>.look (.inl rfl) hp,h'⟩):P:=x
theorem RW(x:P:=by
 obtain⟨cv,lv,a,b,l,p,s,ah,q,h⟩:=h;exact(h.own _ (bX (bX hm))).2):P:=x
theorem RU(x:P:=by
 rwa [LU,aK O_,aK O_,aK O_] at this):P:=x
open Go.RowKit
def ScR(c:Cf)(s:Sc)(R:Nat→Int):Prop:=R 21=u64 s.pc∧R 22=c.R∧R 23=u64 s.rc∧R 24=0∧R 25=1
def sX(c:Cf)(s:Sc)(S:PM)(pc:Nat)(R:Nat→Int)(e nm pd:List Int):Prop:=
 s.rc=S.rc∧0≤S.rc∧
 ((s.pending= []∧e= []∧0≤s.pc∧s.pc<c.R∧s.pc≠s.rc∧ScR c s R∧((s.az=0∧pc=77)∨(s.az=1∧pc=79)∨(s.az=2∧pc=81)))∨
  (s.pending= []∧e= []∧s.az=3∧pc=92∧0≤s.pc∧s.pc<c.R*c.H∧R 21=u64 s.pc∧R 22=c.R*c.H∧nm=s.names)∨
  (e= [101]∧s.az=5∧pd=s.pending∧(∀ x∈s.pending,0≤x∧x<c.S)∧∃ p,s.aU=some p∧EC c p pc R))
def QT(_:Sc)(_:Nat→Int):Prop:=True
section
variable{c:Cf}{th:Nat}{X:List RT}{v:Bool}{S:PM}
theorem ur{s:Sc}{R:Nat→Int}{bs nm pd:List Int}(I:Inv c th S)(hrc:s.rc=S.rc)(h0:0≤S.rc)(hp:s.pending= [])(hlo:-1≤s.pc)(hhi:s.pc<c.R)(hR:ScR c s R):
  Part c th X v v 20 S 71 R bs [] nm pd (s.next c S) (sX c) QT:=by
 have hb:=I.bd;have hh:=I.rh;have hrb:=I.JU;obtain⟨k8,pI,h23,uE,tT⟩:=hR;obtain⟨n,hn⟩:∃ n,n=if s.pc+1=s.rc then s.pc+2 else s.pc+1:=⟨_,rfl⟩
 have hn0:0≤n∧n≤c.R+1∧n≠s.rc∧(¬n<c.R→c.R≤n):=by
  rw [hn]
  split<;>omega
 have u1:∀ x:Int,-1≤x→x<100→u64 (u64 x+u64 1)=u64 (x+1):=by intro x hx hx';unfold u64;omega
 have go:Rn c th (St v S X 71 R (bs++ []) nm pd) (St v S X 74 (if s.pc+1=s.rc then cg (cg R 21 (u64 (s.pc+1))) 21 (u64 n) else cg R 21 (u64 n)) (bs++ []) nm pd):=by
  have a1:=(dI (c:=c) (th:=th) (v:=v) (S:=S) (X:=X) (R:=R) (bk:=bs++ []) (nm:=nm) (pd:=pd) (cd 71)).trans (TS (cd 72) k8 (u1 _ hlo O_))
  by_cases e:s.pc+1=s.rc
  ·rw [aY e] at hn ⊢
   refine a1.trans<| (lV (cd 73) ?_ l43).trans<| (dI (cd 71)).trans<| (TS (cd 72) (u:=u64 (s.pc+1)) (w:=u64 n) rfl (by rw [hn,show s.pc+2=s.pc+1+1 from O_];exact u1 _ O_ O_)).trans (lz (cd 73) ?_)
   ·show u64 (s.pc+1)=R 23
    rw [h23,e]
   ·show¬u64 n=R 23
    rw [h23];unfold u64;omega
  ·rw [aK e] at hn ⊢
   rw [hn];refine a1.trans (lz (cd 73) ?_)
   show¬u64 (s.pc+1)=R 23
   rw [h23];unfold u64;omega
 obtain⟨R1,hR1⟩:∃ R1,R1=(if s.pc+1=s.rc then cg (cg R 21 (u64 (s.pc+1))) 21 (u64 n) else cg R 21 (u64 n)):=⟨_,rfl⟩
 have k1:∀ i,i<20∨35<i→R1 i=R i:=by
  rw [hR1]
  split
  ·exact eD (eD (eG R 20) (j:=21) O_ _) (j:=21) O_ _
  ·exact eD (eG R 20) (j:=21) O_ _
 have f1:R1 21=u64 n∧R1 22=c.R∧R1 23=u64 s.rc∧R1 24=0∧R1 25=1:=by
  rw [hR1]
  split<;>exact⟨rfl,pI,h23,uE,tT⟩
 rw [←hR1] at go;clear hR1;obtain⟨g21,g22,g23,g24,g25⟩:=f1;have Ov:wrap64 (R1 21)=n:=wr g21 O_ O_;have w22:wrap64 (R1 22)=c.R:=by rw [g22];exact wid O_ O_
 unfold Sc.next;simp only;rw [←hn]
 by_cases h:n<c.R
 ·rw [aY h]
  exact Part.go (cG:=nm) (cE:=pd) I (.rfl' S) k1 (cZ:=77) (e':= []) ⟨hrc,h0,.inl ⟨hp,rfl,hn0.1,h,hn0.2.2.1,⟨g21,g22,g23,g24,g25⟩,.inl ⟨rfl,rfl⟩⟩⟩ (go.trans<| (sB (cd 74) Ov w22 h l44).trans (dI (cd 76)))
 ·rw [aK h]
  have go2:=go.trans<| (tN (cd 74) Ov w22 h).trans<| (tO (cd 75) l45).trans (dI (cd 83))
  rw [hrc]
  by_cases hl:S.bQ S.rc= []
  ·rw [aY hl]
   refine Part.done (cG:=nm) (cE:=pd) I (.rfl' S) k1 trivial ?_;rintro b0 q rfl;rw [iN] at go2 ⊢;exact go2.trans<| (adI (cd 84) ⟨h0,hrb.2⟩ hl l49).trans<| (dI (cd 102)).trans (xA (cd 103))
  ·rw [aK hl]
   have w1:wrap64 (u64 0)=0:=wu 0 D_ D_;have w2:wrap64 (c.R*c.H)=c.R*c.H:=wid O_ O_
   exact Part.go (R':=cg (cg R1 22 (c.R*c.H)) 21 (u64 0)) (cG:= []) (cE:=pd) I (.rfl' S) (eD (eD k1 (j:=22) O_ _) (j:=21) O_ _) (cZ:=92) (e':= [])
    ⟨rfl,h0,.inr (.inl ⟨hp,rfl,rfl,rfl,Int.le_refl 0,by show(0:Int)<c.R*c.H;omega,rfl,rfl,rfl⟩)⟩
    (go2.trans<| (adJ (cd 84) ⟨h0,hrb.2⟩ hl).trans<| (r41 (cd 85)).trans<| (r51 (cd 86)).trans<| (yI (cd 87) rfl).trans<| (dI (cd 88)).trans<| (sB (cd 89) (x:=0) (y:=c.R*c.H) w1 w2 O_ l47).trans (dI (cd 91)))
theorem uS{R:Nat→Int}{bs nm pd:List Int}(I:Inv c th S)(h0:0≤S.rc):
  Part c th X v v 20 S 65 R bs [] nm pd ((Sc.new S.rc).ready c S) (sX c) QT:=by
 have hb:=I.bd;obtain⟨I1,K1,R',cG,cE,hR,h⟩:=ur (X:=X) (v:=v) (s:={Sc.new S.rc with pc:=-1}) (R:=cg (cg (cg (cg (cg R 21 (u64 (-1))) 22 c.R) 23 (u64 S.rc)) 24 (u64 0)) 25 (u64 1)) (bs:=bs) (nm:=nm) (pd:=pd) I rfl h0 rfl (Int.le_refl (-1)) (by show(-1:Int)<c.R;omega) ⟨rfl,rfl,rfl,rfl,rfl⟩
 have h1:Rn c th (St v S X 65 R (bs++ []) nm pd) (St v S X 71 (cg (cg (cg (cg (cg R 21 (u64 (-1))) 22 c.R) 23 (u64 S.rc)) 24 (u64 0)) 25 (u64 1)) (bs++ []) nm pd):=
  (dI (cd 65)).trans<| (yI (cd 66) rfl).trans<| (r50 (cd 67)).trans<| (r38 (cd 68)).trans<| (yI (cd 69) rfl).trans (yI (cd 70) rfl)
 refine⟨I1,K1,R',cG,cE,Cw (eD (eD (eD (eD (eD (eG R 20) (j:=21) O_ _) (j:=22) O_ _) (j:=23) O_ _) (j:=24) O_ _) (j:=25) O_ _) hR (bZ _),?_⟩
 rcases h with ⟨hb,cZ,e',h2,h3⟩ | ⟨hb,h2,h3⟩
 ·exact .inl ⟨hb,cZ,e',h2,h1.trans h3⟩
 ·exact .inr ⟨hb,h2,fun b0 q hq=>h1.trans (h3 b0 q hq)⟩
theorem zV{bs nm:List Int}:∀ (l:List Int) (s:Sc) (S:PM) (R:Nat→Int),Inv c th S→s.rc=S.rc→0≤S.rc→(∀ x∈l,0≤x∧x<c.S)→
  Part c th X v v 20 S 98 R bs [] nm l (Sc.free c s l S) (sX c) QT
 | [],s,S,R,I,_,_,_=>by
  refine Part.done (cG:=nm) (cE:= []) I (.rfl' S) (eG R 20) trivial ?_;rintro b0 q rfl;rw [iN];exact(dI (cd 98)).trans<| (adH (cd 99) l49).trans<| (dI (cd 102)).trans (xA (cd 103))
 | x::l,s,S,R,I,hrc,h0,hl=>by
  obtain⟨x0,x1⟩:=hl x S_;have hl':∀ y∈l,0≤y∧y<c.S:=fun y hy=>hl y (by simp [hy])
  have h1:Rn c th (St v S X 98 R (bs++ []) nm (x::l)) (St v S X 18 (cg R 34 (u64 x)) (bs++ [101]++ []) nm l):=by
   rw [iN,iN];exact(dI (cd 98)).trans<| (adG (cd 99)).trans (mE (cd 100) l11 rfl)
  obtain⟨I1,K1,R',cG,cE,hR,h⟩:=vg (X:=X) (v:=v) (R:=cg R 34 (u64 x)) (bs:=bs++ [101]) (nm:=nm) (pd:=l) I x0 x1 rfl;have k1:=Cw (eD (eG R 20) (j:=34) O_ (u64 x)) hR O_;have hb:=I.bd;unfold Sc.free
  by_cases hc:c.Ca≤S.cache.length
  ·have e:(Pu.aU x).ready c S=(false,Pu.aU x,S):=by unfold Pu.ready;rw [aY hc]
   rw [e]
   exact Part.go (cG:=nm) (cE:=l) I (.rfl' S) (eD (eG R 20) (j:=34) O_ (u64 x)) (cZ:=23) (e':= [101]) ⟨hrc,h0,.inr (.inr ⟨rfl,rfl,rfl,hl',_,rfl,x0,x1,rfl,.inl ⟨rfl,rfl⟩⟩)⟩
    (h1.trans<| by rw [iN];exact(dI (cd 18)).trans<| (X4 (cd 19) hc l17).trans (dI (cd 22)))
  ·have e:(Pu.aU x).ready c S=(true,{Pu.aU x with pc:=0},(S.setCache (S.cache++ [x])).shift x 1):=by unfold Pu.ready;rw [aK hc];rfl
   have Ic:Inv c th (S.setCache (S.cache++ [x])):=I.setCache fun y hy=>by
    rcases Bh.1 hy with hy | hy
    ·exact I.kJ y hy
    ·rw [Bi.1 hy];exact⟨x0,x1⟩
   rw [e]
   have h2:Rn c th (St v S X 98 R (bs++ []) nm (x::l)) (St v ((S.setCache (S.cache++ [x])).shift x 1) X 98 (cg R 34 (u64 x)) (bs++ []) nm l):=by
    refine h1.trans ?_;rw [iN,iN];exact(dI (cd 18)).trans<| (X5 I (cd 19) hc (wr (j:=34) rfl O_ O_)).trans<| (Ch Ic (cd 20) (wr (j:=34) rfl O_ O_) ⟨x0,x1⟩).trans<| (xA (r:=101) (cd 21)).trans (tO (cd 101) l50)
   have K2:Kp S ((S.setCache (S.cache++ [x])).shift x 1):=(Kp.setCache S _).trans (Kp.shift _ _ _);obtain⟨I3,K3,R3,nm3,pd3,hR3,h3⟩:=zV (bs:=bs) (nm:=nm) l {s with aU:=some {Pu.aU x with pc:=0}} ((S.setCache (S.cache++ [x])).shift x 1) (cg R 34 (u64 x)) (Ic.shift x 1) (hrc.trans K2.rc.symm) (by rw [K2.rc];exact h0) hl';refine⟨I3,K2.trans K3,R3,nm3,pd3,Cw (eD (eG R 20) (j:=34) O_ (u64 x)) hR3 (bZ _),?_⟩
   rcases h3 with ⟨hb,cZ,e',h4,h5⟩ | ⟨hb,h4,h5⟩
   ·exact .inl ⟨hb,cZ,e',h4,h2.trans h5⟩
   ·exact .inr ⟨hb,h4,fun b0 q hq=>h2.trans (h5 b0 q hq)⟩
theorem Part.behind{α:Type}{v0 v1 v2:Bool}{lo:Nat}{S1:PM}{pc WS:Nat}{R R1:Nat→Int}{bs e0 e1 nm WU pd WR:List Int}{r:Bool×α×PM}{At:α→PM→Nat→(Nat→Int)→List Int→List Int→List Int→Prop}{Dn:α→(Nat→Int)→Prop}
  (K:Kp S S1) (hR:∀ i,i<lo∨35<i→R1 i=R i) (h:Rn c th (St v0 S X pc R (bs++e0) nm pd) (St v1 S1 X WS R1 (bs++e1) WU WR)) (P:Part c th X v1 v2 lo S1 WS R1 bs e1 WU WR r At Dn):Part c th X v0 v2 lo S pc R bs e0 nm pd r At Dn:=by
 obtain⟨I1,K1,R',cG,cE,hR1,h1⟩:=P;refine⟨I1,K.trans K1,R',cG,cE,Cw hR hR1 (bZ _),?_⟩
 rcases h1 with ⟨hb,cZ,e',h2,h3⟩ | ⟨hb,h2,h3⟩
 ·exact .inl ⟨hb,cZ,e',h2,h.trans h3⟩
 ·exact .inr ⟨hb,h2,fun b0 q hq=>h.trans (h3 b0 q hq)⟩
theorem uq{s:Sc}{pc:Nat}{R:Nat→Int}{bs e nm pd:List Int}(I:Inv c th S)(aZ:R 47=0)(ha:sX c s S pc R e nm pd):
  Part c th X false true 20 S pc R bs e nm pd (s.step c S) (sX c) QT:=by
 have hb:=I.bd;have hh:=I.rh;have hrb:=I.JU;obtain⟨hrc,h0,ha⟩:=ha
 rcases ha with ⟨hp,rfl,hlo,hhi,hne,hR,hs⟩ | ⟨hp,rfl,hs,rfl,hlo,hhi,k8,pI,rfl⟩ | ⟨rfl,hs,rfl,hl,p,hg,ha⟩
 ·obtain⟨k8,pI,h23,uE,tT⟩:=hR
  have xR:=I.IF hlo hhi;obtain⟨a1,a2,ak,_⟩:=I.mq O_ O_ xR;have Ov:wrap64 (R 21)=s.pc:=wr k8 O_ O_
  have pw:∀ x:Int,0≤x→x≤1→Pw c (kd c (c.ad 8 s.pc)) x:=fun x hx hx'=>by
   rw [ak];exact⟨hx,O_,fun h=>O_,fun h=>absurd rfl h.2.1,fun h=>O_,fun h=>O_⟩
  rcases hs with ⟨hs,rfl⟩ | ⟨hs,rfl⟩ | ⟨hs,rfl⟩
  ·rw [Sc.step,aY hs]
   have e1:=r1 (X:=X) (R:=R) (bk:=bs++ []) (nm:=nm) (pd:=pd) I (cd 77) O_ Ov xR
   by_cases h:S.w (c.ad 8 s.pc)=1
   ·rw [aY h]
    exact Part.behind (.load S _) (eD (eG R 20) (j:=26) O_ (S.w (c.ad 8 s.pc))) (e1.trans (lV (cd 78) (h.trans tT.symm) l43)) (ur (I.load _) hrc h0 hp O_ hhi ⟨k8,pI,h23,uE,tT⟩)
   ·rw [aK h]
    exact Part.go (R':=cg R 26 (S.w (c.ad 8 s.pc))) (cG:=nm) (cE:=pd) (I.load _) (.load S _) (eD (eG R 20) (j:=26) O_ _) (cZ:=79) (e':= []) ⟨hrc,h0,.inl ⟨hp,rfl,hlo,hhi,hne,⟨k8,pI,h23,uE,tT⟩,.inr (.inl ⟨rfl,rfl⟩)⟩⟩
     (e1.trans (lz (cd 78) fun q=>h (Eq.trans q tT)))
  ·rw [Sc.step,aK O_,aY hs]
   have e1:=r3 (X:=X) (R:=R) (bk:=bs++ []) (nm:=nm) (pd:=pd) (j:=25) (u:=0) (w:=1) I (cd 79) O_ Ov uE tT xR l43;have I1:Inv c th (S.swap (c.ad 8 s.pc) 0 1):=I.swap ⟨a1,a2⟩ fun _=>pw 1 O_ O_
   by_cases h:S.w (c.ad 8 s.pc)=0
   ·rw [aY h] at e1 ⊢
    have I2:Inv c th (((S.swap (c.ad 8 s.pc) 0 1).aV s.rc (S.bQ s.rc++S.bQ s.pc)).aV s.pc []):=(I1.aV fun x hx=>by
     rcases Bh.1 hx with hx | hx
     ·exact I.Ej _ x hx
     ·exact I.Ej _ x hx).aV fun x hx=>by cases hx
    refine Part.go (cG:=nm) (cE:=pd) I2 (((Kp.swap S _ _ _).trans (Kp.aV _ _ _)).trans (Kp.aV _ _ _)) (eG R 20) (cZ:=81) (e':= []) ⟨hrc,h0,.inl ⟨hp,rfl,hlo,hhi,hne,⟨k8,pI,h23,uE,tT⟩,.inr (.inr ⟨rfl,rfl⟩)⟩⟩ ?_;refine e1.trans ?_;have e2:=r40 (c:=c) (th:=th) (v:=true) (S:=S.swap (c.ad 8 s.pc) 0 1) (X:=X) (R:=R) (bk:=bs++ []) (nm:=nm) (pd:=pd) (cd 80) ⟨h0,hrb.2⟩ Ov ⟨hlo,hhi⟩;rw [hrc];exact e2
   ·rw [aK h] at e1 ⊢
    exact Part.behind (.swap S _ _ _) (eG R 20) e1 (ur I1 hrc h0 hp O_ hhi ⟨k8,pI,h23,uE,tT⟩)
  ·rw [Sc.step,aK O_,aK O_,aY hs]
   exact Part.behind (.store S _ _) (eG R 20) ((r2 I (cd 81) O_ Ov uE xR).trans (tO (cd 82) l43)) (ur (I.store ⟨a1,a2⟩ (pw 0 O_ O_)) hrc h0 hp O_ hhi ⟨k8,pI,h23,uE,tT⟩)
 ·rw [Sc.step,aK O_,aK O_,aK O_,aY hs]
  have xH:=I.ixH hlo hhi;have Ov:wrap64 (R 21)=s.pc:=wr k8 O_ O_;have u1:u64 (u64 s.pc+u64 1)=u64 (s.pc+1):=by unfold u64;omega
  have e1:Rn c th (St false S X 92 R (bs++ []) s.names pd) (St true (S.load (c.ad 9 s.pc)) X 89 (cg (cg R 26 (S.w (c.ad 9 s.pc))) 21 (u64 (s.pc+1))) (bs++ []) (s.names++ [lk (S.w (c.ad 9 s.pc))]) pd):=
   (r1 I (cd 92) O_ Ov xH).trans<| (r42 (cd 93) (u:=S.w (c.ad 9 s.pc)) rfl).trans<| (TS (R:=cg R 26 (S.w (c.ad 9 s.pc))) (cd 94) k8 u1).trans<| (tO (cd 95) l46).trans (dI (cd 88))
  have k1:=eD (eD (eG R 20) (j:=26) O_ (S.w (c.ad 9 s.pc))) (j:=21) O_ (u64 (s.pc+1));have wx:wrap64 (u64 (s.pc+1))=s.pc+1:=wu _ O_ O_;have wy:wrap64 (R 22)=c.R*c.H:=by rw [pI];exact wid O_ O_
  by_cases h:s.pc+1<c.R*c.H
  ·rw [aY h]
   exact Part.go (R':=cg (cg R 26 (S.w (c.ad 9 s.pc))) 21 (u64 (s.pc+1))) (cG:=s.names++ [lk (S.w (c.ad 9 s.pc))]) (cE:=pd) (I.load _) (.load S _) k1 (cZ:=92) (e':= [])
    ⟨hrc,h0,.inr (.inl ⟨hp,rfl,hs,rfl,Int.le_trans hlo (Int.le_of_lt (Int.lt_succ _)),h,rfl,pI,rfl⟩)⟩
    (.trans e1<| .trans (sB (cd 89) wx wy h l47) (dI (cd 91)))
  ·rw [aK h]
   simp only [Sc.split,hp,mX];rw [hrc];refine Part.behind ((Kp.load S _).trans (Kp.aV _ _ _)) k1 (.trans e1<| .trans (tN (cd 89) wx wy h)<| .trans (tO (cd 90) l48)<| .trans (dI (cd 96)) (WM (S:=S.load (c.ad 9 s.pc)) (cd 97) ⟨h0,hrb.2⟩)) ?_;exact zV _ _ _ _ ((I.load _).aV fun x hx=>I.Ej _ x (List.mem_filter.1 hx).1) rfl h0 fun x hx=>I.Ej _ x (List.mem_filter.1 hx).1
 ·rw [Sc.step,aK O_,aK O_,aK O_,aK O_]
  simp only [hg];obtain⟨I1,K1,_,_,R',hR,h⟩:=gi_step (X:=X) (bk:=bs++ [101]) (nm:=nm) (pd:=s.pending) I aZ ha;generalize p.step c S=r at I1 K1 h;obtain⟨b,p1,S1⟩:=r;simp only at I1 K1 h;have k1:∀ i,i<20∨35<i→R' i=R i:=fun i hi=>hR i O_
  have ZU:s.rc=S1.rc:=hrc.trans K1.rc.symm;have h01:0≤S1.rc:=by rw [K1.rc];exact h0
  rcases h with ⟨rfl,cZ,h1,h2⟩ | ⟨rfl,h2⟩
  ·exact Part.go (cG:=nm) (cE:=s.pending) I1 K1 k1 (cZ:=cZ) (e':= [101]) ⟨ZU,h01,.inr (.inr ⟨rfl,hs,rfl,hl,p1,rfl,h1⟩)⟩ h2
  ·refine Part.behind K1 k1 (e1:= []) (h2.trans ?_) (zV (nm:=nm) s.pending {s with aU:=some p1} S1 R' I1 ZU h01 hl)
   rw [iN];exact(xA (r:=101) (cd 30)).trans (tO (cd 101) l50)
def mu(c:Cf)(r:Rt)(S:PM)(pc:Nat)(R:Nat→Int)(e nm pd:List Int):Prop:=∃ s,r.scan=some s∧sX c s S pc R e nm pd
def ab7(_:Rt)(_:Nat→Int):Prop:=True
theorem Part.map{α β:Type}{v0 v1:Bool}{lo:Nat}{pc:Nat}{R:Nat→Int}{bs e0 nm pd:List Int}{r:Bool×α×PM}{At:α→PM→Nat→(Nat→Int)→List Int→List Int→List Int→Prop}{Dn:α→(Nat→Int)→Prop}{Tx:β→PM→Nat→(Nat→Int)→List Int→List Int→List Int→Prop}{Dn':β→(Nat→Int)→Prop}
  (P:Part c th X v0 v1 lo S pc R bs e0 nm pd r At Dn) (f:α→β) (h1:∀ S pc R e nm pd,At r.2.1 S pc R e nm pd→Tx (f r.2.1) S pc R e nm pd) (h2:∀ R,Dn r.2.1 R→Dn' (f r.2.1) R):Part c th X v0 v1 lo S pc R bs e0 nm pd (r.1,f r.2.1,r.2.2) Tx Dn':=by
 obtain⟨I1,K1,R',cG,cE,hR1,h⟩:=P;refine⟨I1,K1,R',cG,cE,hR1,?_⟩
 rcases h with ⟨hb,cZ,e',h3,h4⟩ | ⟨hb,h3,h4⟩
 ·exact .inl ⟨hb,cZ,e',h1 _ _ _ _ _ _ h3,h4⟩
 ·exact .inr ⟨hb,h2 _ h3,h4⟩
theorem ki{R:Nat→Int}{bs nm pd:List Int}{x:Int}(I:Inv c th S)(hr0:0≤S.rc)(h0:0≤x)(h1:x<c.S)(qj:R 20=u64 x):
  Part c th X v v 20 S 58 R bs [] nm pd ((Rt.new x).ready c S) (mu c) ab7:=by
 have hb:=I.bd;have hrb:=I.JU
 have I1:Inv c th ((S.shift x 5).aV S.rc (S.bQ S.rc++ [x])):=(I.shift x 5).aV fun y hy=>by
  rcases Bh.1 hy with hy | hy
  ·exact I.Ej _ y hy
  ·rw [Bi.1 hy];exact⟨h0,h1⟩
 have K1:Kp S ((S.shift x 5).aV S.rc (S.bQ S.rc++ [x])):=(Kp.shift S _ _).trans (Kp.aV _ _ _);have w20:wrap64 (R 20)=x:=wr qj O_ O_
 have e1:Rn c th (St v S X 58 R (bs++ []) nm pd) (St v ((S.shift x 5).aV S.rc (S.bQ S.rc++ [x])) X 61 R (bs++ []) nm pd):=
  (dI (cd 58)).trans<| (Ch I (cd 59) w20 ⟨h0,h1⟩).trans (r35 (S:=S.shift x 5) (cd 60) ⟨hr0,hrb.2⟩ w20)
 unfold Rt.ready;simp only [Rt.new]
 show Part c th X v v 20 S 58 R bs [] nm pd (if((((S.shift x 5).aV S.rc (S.bQ S.rc++ [x])).bQ ((S.shift x 5).aV S.rc (S.bQ S.rc++ [x])).rc).length:Int)<c.Re then _ else _) _ _
 generalize ((S.shift x 5).aV S.rc (S.bQ S.rc++ [x]))=S1 at I1 K1 e1;have eO:0≤S1.rc:=by rw [K1.rc];exact hr0
 by_cases h:((S1.bQ S1.rc).length:Int)<c.Re
 ·rw [aY h]
  refine Part.done (cG:=nm) (cE:=pd) I1 K1 (eG R 20) trivial ?_;rintro b0 q rfl;rw [iN] at e1 ⊢;exact e1.trans<| (adK (cd 61) ⟨eO,by rw [K1.rc];exact hrb.2⟩ h l42).trans<| (dI (cd 63)).trans (xA (cd 64))
 ·rw [aK h]
  refine Part.behind K1 (eG R 20) (e1.trans<| (adL (cd 61) ⟨eO,by rw [K1.rc];exact hrb.2⟩ h).trans (tO (cd 62) l41)) ?_;exact(uS (R:=R) (bs:=bs) (nm:=nm) (pd:=pd) I1 eO).map (fun s=>({slot:=x,scan:=some s}:Rt)) (fun _ _ _ _ _ _ h=>⟨_,rfl,h⟩) fun _ _=>trivial
theorem nY{r:Rt}{pc:Nat}{R:Nat→Int}{bs e nm pd:List Int}(I:Inv c th S)(aZ:R 47=0)(ha:mu c r S pc R e nm pd):
  Part c th X false true 20 S pc R bs e nm pd (r.step c S) (mu c) ab7:=by
 obtain⟨s,hs,ha⟩:=ha;unfold Rt.step;simp only [hs];exact(uq (bs:=bs) I aZ ha).map (fun s=>({r with scan:=some s}:Rt)) (fun _ _ _ _ _ _ h=>⟨_,rfl,h⟩) fun _ _=>trivial
end
section
variable{K:Ky}{c:Cf}{S:PM}{ss:List Sv}{w0 w w':World}{F:List En}{d:Nat}
theorem aq.hz(h:aq K c S ss w0 w F):∀ z:aL w,z.world.cell? ⟨K.bH,0,none⟩=some (some K.bA)∧z.world.cell? ⟨K.bH,1,none⟩=some (.int .i64 c.T)∧z.world.cell? ⟨K.bH,2,none⟩=some (.int .i64 c.R)∧z.world.cell? ⟨K.bH,3,none⟩=some (.int .i64 c.H)∧z.world.cell? ⟨K.bH,4,none⟩=some (.int .i64 c.Re)∧
  z.world.cell? ⟨K.bH,6,none⟩=some (.int .i64 c.S)∧z.world.cell? ⟨K.bH,8,none⟩=some (.slice (some ⟨K.gh,0,none⟩) S.held.length K.ch)∧z.world.cell? ⟨K.bH,9,none⟩=some (.slice (some ⟨K.gi,0,none⟩) S.lists.length K.ci)∧
  z.world.cell? ⟨K.bH,10,none⟩=some (.int .i64 (c.ad 8 0))∧z.world.cell? ⟨K.bH,11,none⟩=some (.int .i64 (c.ad 9 0))∧z.world.cell? ⟨K.bH,12,none⟩=some (.int .i64 (c.ad 2 0))∧z.world.cell? ⟨K.bH,13,none⟩=some (.int .i64 (c.ad 11 0)):=abD
theorem aq.ZZ(h:aq K c S ss w0 w F){t:Nat}{r:Int}(hr:S.held[t]?=some r):∀ z:aL w,z.world.cell? ⟨K.gh,t,none⟩=some (.int .i64 r):=SS
theorem FH{t:Nat}(ht:t<S.held.length)(e:t=S.th):S.held[t]?=some S.rc:=by
 subst e;rw [PM.rc,kO,fy ht];rfl
theorem ko(h:aq K c S ss w0 w F)(ht:S.th<S.held.length):
  cm 77 #[some K.bH,S.th] w S.rc fun w'=>w'=w:=abv
theorem cL(h:aq K c S ss w0 w F):
  cm 86 #[some K.bH] w (some K.bA) fun w'=>w'=w:=SJ
theorem ad9(c:Cf)(i:Int):c.ad 9 i=c.ad 9 0+i:=by unfold Cf.ad;omega
theorem ad8(c:Cf)(i:Int):c.ad 8 i=c.ad 8 0+i:=by unfold Cf.ad;omega
theorem agl(c:Cf)(i:Int):c.ad 11 i=c.ad 11 0+i:=by unfold Cf.ad;omega
theorem lK{th:Nat}(I:Inv c th S):0≤c.ad 8 0∧c.ad 8 0<100000∧0≤c.ad 9 0∧c.ad 9 0<100000∧0≤c.ad 11 0∧c.ad 11 0<100000∧S.words.length<100000:=by
 have hI:=I.bd;have hl:=I.len;have WY:=I.rh;generalize hM:c.R*c.H=M at WY;simp only [Cf.ad,b7,cV] at hl ⊢;simp [hM] at hl ⊢;omega
def LU(c:Cf)(S:PM)(k:Int):Int:=if S.rc<0 then -1 else if k<0 then -1 else if c.H≤k then -1 else S.hz c k
theorem IV(h:aq K c S ss w0 w F)(I:Inv c S.th S)(k:Int):
  cm 82 #[some K.bH,S.th,k] w (.int .i64 (LU c S k)) fun w'=>Ext w w':=by
 have hI:=I.bd;have Bu:=lK I;have hb:=I.JU;have Xb:=I.he;have htt:=I.tK;have dZ:=ko h O_;exact abY
theorem jj(h:aq K c S ss w0 w F)(I:Inv c S.th S)(k:Int)(hr:0≤S.rc)(h0:0≤k)(h1:k<c.H):
  cm 82 #[some K.bH,S.th,k] w (.int .i64 (S.hz c k)) fun w'=>Ext w w':=by
 have:=IV h I k;exact RU
theorem aq.LC(h:aq K c S ss w0 w F)(r:Nat)(hr:r<S.lists.length):∃ (lv:List Value) (A:Option Addr) (cc:Nat) (A1 A2 A3:List En),lv.length=S.lists.length∧lv[r]?=some (.slice A (S.bQ r).length cc)∧(∀ x∈F,x∈A3)∧DF K c S S.lists.length∈A1∧
  Has w0 w (A1++dA K.gi K.ci 40 1 lv.length lv::(A2++.row (.slice A (S.bQ r).length cc) 3 1 (S.bQ r).length ((S.bQ r).map (Value.int .i64))::A3))∧
  ∀ (w':World) (v':Value) (l:List Int),Has w0 w' (A1++dA K.gi K.ci 40 1 lv.length (lv.set r v')::(A2++.row v' 3 1 l.length (l.map (Value.int .i64))::A3))→aq K c (S.aV r l) ss w0 w' F:=by
 obtain⟨cv,lv,a,b,l,p,s,ah,q,h⟩:=h;have LY:r<lv.length:=O_
 obtain⟨v,hv⟩:∃ v,lv[r]?=some v:=⟨_,fy LY⟩;have hx:S.lists[r]?=some (S.bQ r):=by rw [fy hr,PM.bQ,mW,kO,fy hr];rfl
 obtain⟨P,Q,e,f⟩:=kj hv hx
 obtain⟨A,cc,rfl⟩:∃ A cc,v=.slice A (S.bQ r).length cc:=by
  refine iJ h (e:=3) (k:=1) (us:=(S.bQ r).map (Value.int .i64)) (bX ?_);unfold dS;rw [e];simp
 refine⟨lv,A,cc,gy K.toMk l p s ah S ss++ [E7 K c S cv.length,JS K S,RO K cv,DF K c S lv.length,JZ K S],kn cv S.aO++P,Q++F,b,hv,fun x hx=>by simp [hx],by rw [←b];simp,?_,fun w' v' l' h'=>⟨cv,lv.set r v',a,?_,l,p,s,ah,q,?_⟩⟩
 ·exact QK
 ·exact NP
 ·exact abA
theorem aq.jX(h:aq K c S ss w0 w F)(r:Nat)(hr:r<S.lists.length):∃ (A:Option Addr) (cc:Nat),∀ z:aL w,z.world.cell? ⟨K.gi,r,none⟩=some (.slice A (S.bQ r).length cc):=by
 obtain⟨lv,A,cc,A1,A2,A3,_,hv,_,_,hH,_⟩:=h.LC r hr;exact⟨A,cc,hH.ny (i:=r) (ew _ (gq ..)) hv⟩
@[reducible] def tL(K:Ky)(k:Nat)(th:Int)(x:Sc)(mv pa gv:Value):En:=ob k 271 [some K.bH,th,x.rc,x.az,x.pc,mv,pa,gv]
@[reducible] def mY(K:Ky)(k:Nat)(th:Int)(x:Sc):En:=tL K k th x (.map none) (.slice none 0 0) (.pointer none)
def Wy(names:List Int)(f:Int→Option Int):Prop:=∀ x,0≤(f x).getD 0∧(f x).getD 0≤names.length∧(0≤x→((f x).getD 0=0↔x∉names))
inductive qx (K:Ky) (c:Cf) (th:Int) (k:Nat) (x:Sc):List En→Prop where
 | look (h:x.az=0∨x.az=1∨x.az=2) (hp:x.pending= []):qx K c th k x [mY K k th x]
 | name (b:Nat) (f:Int→Option Int) (h:x.az=3) (hp:x.pending= []) (hn:(x.names.length:Int)=x.pc) (hf:Wy x.names f):qx K c th k x [tL K k th x (.map (some b)) (.slice none 0 0) (.pointer none),.fX b f]
 | free (mv:Value) (g j j' cc c' kg:Nat) (l0:List Int) (p:Pu) (h:x.az=5) (hp:x.aU=some p) (hl:x.pending=l0.drop j) (hjn:x.pending≠ []→j'=j) (hj:j+x.pending.length=l0.length) (hc:x.pending.length≤c') (hn:l0.length<100000):
  qx K c th k x [tL K k th x mv (.slice (some ⟨g,j',none⟩) x.pending.length c') (some kg),dA g cc 3 1 l0.length (l0.map (Value.int .i64)),nC K kg 267 th p]
theorem uR(h:aq K c S ss w0 w F)(ht:S.th<S.held.length):
  Calls prog 85 #[some K.bH,S.th] w fun e w'=>∃ k,e=.returned (some k)∧w.heap.size≤k∧aq K c S ss w0 w' (mY K k S.th (.new S.rc)::F):=by
 have h2:=h.alloc #[some K.bH,S.th,S.rc,.int .i64 6,.int .i64 0,.map none,.slice none 0 0,.pointer none] 271;have dZ:=ko h ht;exact SK
theorem fS(h:aq K c S ss w0 w F)(t s:Int):
  Calls prog 231 #[some K.bH,t,s] w fun e w'=>∃ k,e=.returned (some k)∧w.heap.size≤k∧aq K c S ss w0 w' (ob k 339 [some K.bH,t,s,.pointer none]::F):=by
 have h2:=h.alloc #[some K.bH,t,s,.pointer none] 339;go_in;exact QL
theorem aq.Um(h:aq K c S ss w0 w F):aq K c S ss w0 (w.alloc (.map #[] 0)) (.fX w.heap.size (fun _=>none)::F):=h.rest fun A h=>by
 refine Has.back ?_;have h1:=h.nil 0 0;exact h1.cg (x':=.fX w.heap.size (fun _=>none)) ⟨h.ext.size,jY.new w⟩ (World.grownBy_alloc _ _ _) (.inr (.inr ⟨_,rfl,bZ _⟩))
theorem aq.FU{b:Nat}(h:aq K c S ss w0 w F)(e:b=w.heap.size):aq K c S ss w0 (w.alloc (.map #[] 0)) (.fX b (fun _=>none)::F):=by
 subst e;exact h.Um
variable{k:Nat}{x:Sc}
theorem D4{th:Int}(h:aq K c S ss w0 w (mY K k th x::F))(hR:1≤c.R∧c.R≤16)(hL:(S.lists.length:Int)=c.R)(hrc:0≤x.rc∧x.rc<c.R)(sG:-1≤x.pc∧x.pc<c.R)(hj:¬x.pc+1=x.rc)(hlt:x.pc+1<c.R):
  cm 221 #[some k] w false fun w'=>aq K c S ss w0 w' (mY K k th {x with pc:=x.pc+1,az:=0}::F):=by
 obtain⟨rc,az,pc,names,pending,aU⟩:=x;simp only at hrc sG hj hlt;obtain⟨r,rfl⟩:∃ r:Nat,rc=r:=⟨rc.toNat,O_⟩;have hrl:r<S.lists.length:=O_
 have J0:decide ((r:Int)<(S.lists.length:Int))=true:=by simp;omega
 have k4:=h.at_ (i:=4) aj rfl;have f4:=h.dW aj 4;have xO:decide (pc+1<c.R)=true:=cM hlt;have pY:wrap64 (pc+1)=pc+1:=by unfold wrap64;omega
 have hne:(pc+1==(r:Int))=false:=by rw [gp];exact hj
 have m1:=h.put 4 (.int .i64 (pc+1));clear h hR hL sG hrc hlt hj;have JX:=@run_makeMap prog;go_enter func221,ntmps221;go_wp2_with fail;refine wp_scope_jumps 0 (fun a' w'=>False) (fun _ _=>0) rfl ?_ (fun a w h=>h.elim);go_wp2_with fail
 go_step3;go_wp2_with fail;obtain⟨W,hW⟩:∃ W,W=w.setCell ⟨k,4,none⟩ (.int .i64 (pc+1)):=⟨_,rfl⟩;exact abX
theorem BV{th:Int}(h:aq K c S ss w0 w (mY K k th x::F))(hR:1≤c.R∧c.R≤16)(hL:(S.lists.length:Int)=c.R)(hrc:0≤x.rc∧x.rc<c.R)(sG:-1≤x.pc∧x.pc<c.R)(hj:¬x.pc+1=x.rc)(hlt:¬x.pc+1<c.R)(hl:S.bQ x.rc= []):
  cm 221 #[some k] w true fun w'=>∃ L,aq K c S ss w0 w' (L++F):=by
 obtain⟨rc,az,pc,names,pending,aU⟩:=x;simp only at hrc sG hj hlt hl;obtain⟨r,rfl⟩:∃ r:Nat,rc=r:=⟨rc.toNat,O_⟩;have hrl:r<S.lists.length:=O_
 have J0:decide ((r:Int)<(S.lists.length:Int))=true:=by simp;omega
 have k4:=h.at_ (i:=4) aj rfl;have f4:=h.dW aj 4;have xO:decide (pc+1<c.R)=false:=dy hlt;have P2:(S.bQ r).length=0:=by rw [hl];rfl
 have pY:wrap64 (pc+1)=pc+1:=by unfold wrap64;omega
 have hne:(pc+1==(r:Int))=false:=by rw [gp];exact hj
 have m1:=h.put 4 (.int .i64 (pc+1));clear h hR hL sG hrc hlt hj hl;have JX:=@run_makeMap prog;go_enter func221,ntmps221;go_wp2_with fail;refine wp_scope_jumps 0 (fun a' w'=>False) (fun _ _=>0) rfl ?_ (fun a w h=>h.elim);go_wp2_with fail
 go_step3;go_wp2_with fail;obtain⟨W,hW⟩:∃ W,W=w.setCell ⟨k,4,none⟩ (.int .i64 (pc+1)):=⟨_,rfl⟩;exact ab0
theorem zY{th:Int}(h:aq K c S ss w0 w (mY K k th x::F))(hR:1≤c.R∧c.R≤16)(hL:(S.lists.length:Int)=c.R)(hrc:0≤x.rc∧x.rc<c.R)(sG:-1≤x.pc∧x.pc<c.R)(hj:¬x.pc+1=x.rc)(hlt:¬x.pc+1<c.R)(hl:S.bQ x.rc≠ []):
  cm 221 #[some k] w false fun w'=>∃ b,aq K c S ss w0 w' (tL K k th {x with pc:=0,names:= [],az:=3} (.map (some b)) (.slice none 0 0) (.pointer none)::.fX b (fun _=>none)::F):=by
 obtain⟨rc,az,pc,names,pending,aU⟩:=x;simp only at hrc sG hj hlt hl;obtain⟨r,rfl⟩:∃ r:Nat,rc=r:=⟨rc.toNat,O_⟩;have hrl:r<S.lists.length:=O_
 have J0:decide ((r:Int)<(S.lists.length:Int))=true:=by simp;omega
 have k4:=h.at_ (i:=4) aj rfl;have f4:=h.dW aj 4;have xO:decide (pc+1<c.R)=false:=dy hlt;have P2:(((S.bQ r).length:Int)==0)=false:=by rw [gp];intro e;exact hl (N6.1 O_)
 have pY:wrap64 (pc+1)=pc+1:=by unfold wrap64;omega
 have hne:(pc+1==(r:Int))=false:=by rw [gp];exact hj
 have m1:=h.put 4 (.int .i64 (pc+1));clear h hR hL sG hrc hlt hj hl;have JX:=@run_makeMap prog;go_enter func221,ntmps221;go_wp2_with fail;refine wp_scope_jumps 0 (fun a' w'=>False) (fun _ _=>0) rfl ?_ (fun a w h=>h.elim);go_wp2_with fail
 go_step3;go_wp2_with fail;obtain⟨W,hW⟩:∃ W,W=w.setCell ⟨k,4,none⟩ (.int .i64 (pc+1)):=⟨_,rfl⟩;exact abZ
theorem D5{th:Int}(h:aq K c S ss w0 w (mY K k th x::F))(hR:1≤c.R∧c.R≤16)(hL:(S.lists.length:Int)=c.R)(hrc:0≤x.rc∧x.rc<c.R)(sG:-1≤x.pc∧x.pc<c.R)(hj:x.pc+1=x.rc)(hlt:x.pc+2<c.R):
  cm 221 #[some k] w false fun w'=>aq K c S ss w0 w' (mY K k th {x with pc:=x.pc+2,az:=0}::F):=by
 obtain⟨rc,az,pc,names,pending,aU⟩:=x;simp only at hrc sG hj hlt;obtain⟨r,rfl⟩:∃ r:Nat,rc=r:=⟨rc.toNat,O_⟩;have hrl:r<S.lists.length:=O_
 have J0:decide ((r:Int)<(S.lists.length:Int))=true:=by simp;omega
 have k4:=h.at_ (i:=4) aj rfl;have f4:=h.dW aj 4;have xO:decide (pc+2<c.R)=true:=cM hlt;have pY:wrap64 (pc+1)=pc+1:=by unfold wrap64;omega
 have hq2:wrap64 (pc+1+1)=pc+2:=by unfold wrap64;omega
 have hne:(pc+1==(r:Int))=true:=by rw [beq_iff_eq];exact hj
 have Vf:(pc+2==(r:Int))=false:=by rw [gp];omega
 have m1:=h.put 4 (.int .i64 (pc+1));clear h hR hL sG hrc hlt hj;have JX:=@run_makeMap prog;go_enter func221,ntmps221;go_wp2_with fail;refine wp_scope_jumps 0 (fun a' w'=>∃ (v3 v4 v5 v6 v7 v8 v9 v10 v11 Ra Q9 Q8 Q7 Q6 Q5 Q4:Value),a'={tmps:=#[some k,undef,false,v3,v4,v5,v6,v7,v8,v9,v10,v11,Ra,Q9,Q8,Q7,Q6,Q5,Q4,undef,undef,undef,undef,undef,undef,undef,undef,undef,undef,undef,undef,undef,undef,undef,undef,undef,undef,undef,undef,undef,undef,undef,undef,undef,undef,undef,undef,undef,undef,undef,undef,undef,undef,undef,undef,undef,undef,undef,undef,undef,undef,undef,undef],defers:= []}∧aq K c S ss w0 w' (mY K k th ⟨r,az,pc+1,names,pending,aU⟩::F)) (fun _ _=>0) rfl ?_ ?_
 ·exact Wq
 ·rintro a' w5 ⟨v3,v4,v5,v6,v7,v8,v9,v10,v11,Ra,Q9,Q8,Q7,Q6,Q5,Q4,rfl,m2⟩
  clear m1 k4 f4;have k4:=m2.at_ (i:=4) aj rfl;have f4:=m2.dW aj 4;have m1:=m2.put 4 (.int .i64 (pc+2));clear m2;go_wp2_with fail;obtain⟨W,hW⟩:∃ W,W=w5.setCell ⟨k,4,none⟩ (.int .i64 (pc+2)):=⟨_,rfl⟩;exact abX
theorem BW{th:Int}(h:aq K c S ss w0 w (mY K k th x::F))(hR:1≤c.R∧c.R≤16)(hL:(S.lists.length:Int)=c.R)(hrc:0≤x.rc∧x.rc<c.R)(sG:-1≤x.pc∧x.pc<c.R)(hj:x.pc+1=x.rc)(hlt:¬x.pc+2<c.R)(hl:S.bQ x.rc= []):
  cm 221 #[some k] w true fun w'=>∃ L,aq K c S ss w0 w' (L++F):=by
 obtain⟨rc,az,pc,names,pending,aU⟩:=x;simp only at hrc sG hj hlt hl;obtain⟨r,rfl⟩:∃ r:Nat,rc=r:=⟨rc.toNat,O_⟩;have hrl:r<S.lists.length:=O_
 have J0:decide ((r:Int)<(S.lists.length:Int))=true:=by simp;omega
 have k4:=h.at_ (i:=4) aj rfl;have f4:=h.dW aj 4;have xO:decide (pc+2<c.R)=false:=dy hlt;have P2:(S.bQ r).length=0:=by rw [hl];rfl
 have pY:wrap64 (pc+1)=pc+1:=by unfold wrap64;omega
 have hq2:wrap64 (pc+1+1)=pc+2:=by unfold wrap64;omega
 have hne:(pc+1==(r:Int))=true:=by rw [beq_iff_eq];exact hj
 have Vf:(pc+2==(r:Int))=false:=by rw [gp];omega
 have m1:=h.put 4 (.int .i64 (pc+1));clear h hR hL sG hrc hlt hj hl;have JX:=@run_makeMap prog;go_enter func221,ntmps221;go_wp2_with fail;refine wp_scope_jumps 0 (fun a' w'=>∃ (v3 v4 v5 v6 v7 v8 v9 v10 v11 Ra Q9 Q8 Q7 Q6 Q5 Q4:Value),a'={tmps:=#[some k,undef,false,v3,v4,v5,v6,v7,v8,v9,v10,v11,Ra,Q9,Q8,Q7,Q6,Q5,Q4,undef,undef,undef,undef,undef,undef,undef,undef,undef,undef,undef,undef,undef,undef,undef,undef,undef,undef,undef,undef,undef,undef,undef,undef,undef,undef,undef,undef,undef,undef,undef,undef,undef,undef,undef,undef,undef,undef,undef,undef,undef,undef,undef,undef],defers:= []}∧aq K c S ss w0 w' (mY K k th ⟨r,az,pc+1,names,pending,aU⟩::F)) (fun _ _=>0) rfl ?_ ?_
 ·exact Wq
 ·rintro a' w5 ⟨v3,v4,v5,v6,v7,v8,v9,v10,v11,Ra,Q9,Q8,Q7,Q6,Q5,Q4,rfl,m2⟩
  clear m1 k4 f4;have k4:=m2.at_ (i:=4) aj rfl;have f4:=m2.dW aj 4;have m1:=m2.put 4 (.int .i64 (pc+2));clear m2;go_wp2_with fail;obtain⟨W,hW⟩:∃ W,W=w5.setCell ⟨k,4,none⟩ (.int .i64 (pc+2)):=⟨_,rfl⟩;exact ab0
theorem zZ{th:Int}(h:aq K c S ss w0 w (mY K k th x::F))(hR:1≤c.R∧c.R≤16)(hL:(S.lists.length:Int)=c.R)(hrc:0≤x.rc∧x.rc<c.R)(sG:-1≤x.pc∧x.pc<c.R)(hj:x.pc+1=x.rc)(hlt:¬x.pc+2<c.R)(hl:S.bQ x.rc≠ []):
  cm 221 #[some k] w false fun w'=>∃ b,aq K c S ss w0 w' (tL K k th {x with pc:=0,names:= [],az:=3} (.map (some b)) (.slice none 0 0) (.pointer none)::.fX b (fun _=>none)::F):=by
 obtain⟨rc,az,pc,names,pending,aU⟩:=x;simp only at hrc sG hj hlt hl;obtain⟨r,rfl⟩:∃ r:Nat,rc=r:=⟨rc.toNat,O_⟩;have hrl:r<S.lists.length:=O_
 have J0:decide ((r:Int)<(S.lists.length:Int))=true:=by simp;omega
 have k4:=h.at_ (i:=4) aj rfl;have f4:=h.dW aj 4;have xO:decide (pc+2<c.R)=false:=dy hlt;have P2:(((S.bQ r).length:Int)==0)=false:=by rw [gp];intro e;exact hl (N6.1 O_)
 have pY:wrap64 (pc+1)=pc+1:=by unfold wrap64;omega
 have hq2:wrap64 (pc+1+1)=pc+2:=by unfold wrap64;omega
 have hne:(pc+1==(r:Int))=true:=by rw [beq_iff_eq];exact hj
 have Vf:(pc+2==(r:Int))=false:=by rw [gp];omega
 have m1:=h.put 4 (.int .i64 (pc+1));clear h hR hL sG hrc hlt hj hl;have JX:=@run_makeMap prog;go_enter func221,ntmps221;go_wp2_with fail;refine wp_scope_jumps 0 (fun a' w'=>∃ (v3 v4 v5 v6 v7 v8 v9 v10 v11 Ra Q9 Q8 Q7 Q6 Q5 Q4:Value),a'={tmps:=#[some k,undef,false,v3,v4,v5,v6,v7,v8,v9,v10,v11,Ra,Q9,Q8,Q7,Q6,Q5,Q4,undef,undef,undef,undef,undef,undef,undef,undef,undef,undef,undef,undef,undef,undef,undef,undef,undef,undef,undef,undef,undef,undef,undef,undef,undef,undef,undef,undef,undef,undef,undef,undef,undef,undef,undef,undef,undef,undef,undef,undef,undef,undef,undef,undef],defers:= []}∧aq K c S ss w0 w' (mY K k th ⟨r,az,pc+1,names,pending,aU⟩::F)) (fun _ _=>0) rfl ?_ ?_
 ·exact Wq
 ·rintro a' w5 ⟨v3,v4,v5,v6,v7,v8,v9,v10,v11,Ra,Q9,Q8,Q7,Q6,Q5,Q4,rfl,m2⟩
  clear m1 k4 f4;have k4:=m2.at_ (i:=4) aj rfl;have f4:=m2.dW aj 4;have m1:=m2.put 4 (.int .i64 (pc+2));clear m2;go_wp2_with fail;obtain⟨W,hW⟩:∃ W,W=w5.setCell ⟨k,4,none⟩ (.int .i64 (pc+2)):=⟨_,rfl⟩;exact abZ
theorem jd(c:Cf)(x:Sc)(S:PM):(x.next c S).2.2=S:=by
 unfold Sc.next;dsimp only
 repeat (first | rfl | split)
theorem Qq:Wy [] (fun _=>none):=fun x=>⟨S_,S_,S_⟩
theorem uT{th:Int}(h:aq K c S ss w0 w (mY K k th x::F))(hR:1≤c.R∧c.R≤16)(hL:(S.lists.length:Int)=c.R)(hrc:0≤x.rc∧x.rc<c.R)(sG:-1≤x.pc∧x.pc<c.R)(hp:x.pending= []):
  cm 221 #[some k] w (.bool (x.next c S).1) fun w'=>∃ L,((x.next c S).1=false→qx K c th k (x.next c S).2.1 L)∧aq K c S ss w0 w' (L++F):=by
 by_cases hj:x.pc+1=x.rc
 ·by_cases hlt:x.pc+2<c.R
  ·have e:x.next c S=(false,{x with pc:=x.pc+2,az:=0},S):=by simp [Sc.next,hj,hlt]
   rw [e];refine(D5 h hR hL hrc sG hj hlt).mono ?_;exact RX
  ·by_cases hl:S.bQ x.rc= []
   ·have e:x.next c S=(true,{x with pc:=0,names:= [],az:=6},S):=by simp [Sc.next,hj,hlt,hl]
    rw [e];refine(BW h hR hL hrc sG hj hlt hl).mono ?_;rintro e w' ⟨rfl,L,h'⟩;exact⟨rfl,L,fun q=>(by cases q),h'⟩
   ·have e:x.next c S=(false,{x with pc:=0,names:= [],az:=3},S):=by simp [Sc.next,hj,hlt,hl]
    rw [e];refine(zZ h hR hL hrc sG hj hlt hl).mono ?_;exact Sk
 ·by_cases hlt:x.pc+1<c.R
  ·have e:x.next c S=(false,{x with pc:=x.pc+1,az:=0},S):=by simp [Sc.next,hj,hlt]
   rw [e];refine(D4 h hR hL hrc sG hj hlt).mono ?_;exact RX
  ·by_cases hl:S.bQ x.rc= []
   ·have e:x.next c S=(true,{x with pc:=0,names:= [],az:=6},S):=by simp [Sc.next,hj,hlt,hl]
    rw [e];refine(BV h hR hL hrc sG hj hlt hl).mono ?_;rintro e w' ⟨rfl,L,h'⟩;exact⟨rfl,L,fun q=>(by cases q),h'⟩
   ·have e:x.next c S=(false,{x with pc:=0,names:= [],az:=3},S):=by simp [Sc.next,hj,hlt,hl]
    rw [e];refine(zY h hR hL hrc sG hj hlt hl).mono ?_;exact Sk
theorem BU{th:Int}(h:aq K c S ss w0 w (mY K k th x::F))(hR:1≤c.R∧c.R≤16)(hL:(S.lists.length:Int)=c.R)(hrc:0≤x.rc∧x.rc<c.R)(hp:x.pending= []):
  Bb 219 k d w (.bool (x.ready c S).1) fun w'=>∃ L,((x.ready c S).1=false→qx K c th k (x.ready c S).2.1 L)∧aq K c S ss w0 w' (L++F):=by
 have k2:=h.at_ (i:=2) aj rfl;have k4:=h.at_ (i:=4) aj rfl;have f4:=h.dW aj 4;have hd0:decide (x.rc<0)=false:=by simp;omega
 have m:=h.put 4 (.int .i64 (-1));have hn:=fun(W:World) (h:aq K c S ss w0 W (mY K k th {x with pc:=-1}::F))=>uT h hR hL hrc ⟨Int.le_refl _,by show(-1:Int)<c.R;omega⟩ hp
 have e:x.ready c S=Sc.next c {x with pc:=-1} S:=rfl;rw [e];generalize Sc.next c {x with pc:=-1} S=r at hn ⊢;clear e;go_enter func219,ntmps219;go_wp2_with fail;refine un (hn _ m) fun w1 h2=>?_
 exact QD
end
section
variable{K:Ky}{c:Cf}{S:PM}{ss:List Sv}{w0 w w':World}{F G:List En}{d r:Nat}{v:Value}{x y:En}
def cU(K:Ky)(c:Cf)(S:PM)(ss:List Sv)(r:Nat)(v:Value)(w0 w:World)(F:List En):Prop:=
 ∃ cv lv,cv.length=S.aO.length∧lv.length=S.lists.length∧lv[r]?=some v∧fK K.toMk S ss w0 w (dS K c cv lv S++F)
theorem cU.ia(h:cU K c S ss r v w0 w F):aq K c S ss w0 w F:=by
 obtain⟨cv,lv,a,b,_,h⟩:=h;exact⟨cv,lv,a,b,h⟩
theorem aq.known(h:aq K c S ss w0 w F)(hr:r<S.lists.length):∃ v,cU K c S ss r v w0 w F:=by
 obtain⟨cv,lv,a,b,h⟩:=h;exact⟨lv[r]'O_,cv,lv,a,b,fy O_,h⟩
theorem cU.next(h:cU K c S ss r v w0 w F)(e:Ext w w'):cU K c S ss r v w0 w' F:=by
 obtain⟨cv,lv,a,b,g,h⟩:=h;exact⟨cv,lv,a,b,g,h.next e⟩
theorem cU.iD(h:cU K c S ss r v w0 w F)(z:aL w):cU K c S ss r v w0 z.world F:=h.next z.ok
theorem cU.rest(h:cU K c S ss r v w0 w F)(f:∀ A,Has w0 w (A++F)→Has w0 w' (A++G)):cU K c S ss r v w0 w' G:=by
 obtain⟨cv,lv,a,b,e,l,p,s,ah,q,h⟩:=h;refine⟨cv,lv,a,b,e,l,p,s,ah,q,?_⟩;rw [←dH] at h ⊢;exact f _ h
theorem cU.perm(h:cU K c S ss r v w0 w F)(p:F.Perm G):cU K c S ss r v w0 w G:=h.rest fun _ h=>h.perm (ue _ p)
theorem cU.put{b:Nat}{t:TypeId}{cs:List Value}(h:cU K c S ss r v w0 w (ob b t cs::F))(i:Nat)(u:Value):cU K c S ss r v w0 (w.setCell ⟨b,i,none⟩ u) (ob b t (cs.set i u)::F):=h.rest fun _ h=>h.fW i u
theorem aq.owns{v:Value}{e:TypeId}{k n:Nat}{us:List Value}(h:aq K c S ss w0 w F)(hm:En.row v e k n us∈F):w.ownsRow w0.heap.size e k v n us:=by
 obtain⟨cv,lv,a,b,l,p,s,ah,q,h⟩:=h;exact h.own _ (bX (bX hm))
theorem aq.fX{b:Nat}{f:Int→Option Int}(h:aq K c S ss w0 w F)(hm:En.fX b f∈F):jY w b f:=RW
theorem aq.sz(h:aq K c S ss w0 w F):w0.heap.size≤w.heap.size:=by
 obtain⟨cv,lv,a,b,l,p,s,ah,q,h⟩:=h;exact h.ext.size
variable{x':En}
theorem cU.Xy(h:cU K c S ss r v w0 w (x::F))(ho:x'.own w' w0.heap.size)(hg:w.grownBy w' x.b)(hb:x'.b=x.b∨x'.b=none∨∃ q,x'.b=some q∧w.heap.size≤q):cU K c S ss r v w0 w' (x'::F):=h.rest fun _ h=>h.zL ho hg hb
theorem aq.Xy(h:aq K c S ss w0 w (x::F))(ho:x'.own w' w0.heap.size)(hg:w.grownBy w' x.b)(hb:x'.b=x.b∨x'.b=none∨∃ q,x'.b=some q∧w.heap.size≤q):aq K c S ss w0 w' (x'::F):=h.rest fun _ h=>h.zL ho hg hb
theorem cU.Kj(h:cU K c S ss r v w0 w (y::x::F))(ho:x'.own w' w0.heap.size)(hg:w.grownBy w' x.b)(hb:x'.b=x.b∨x'.b=none∨∃ q,x'.b=some q∧w.heap.size≤q):cU K c S ss r v w0 w' (y::x'::F):=h.rest fun A h=>by
 have:=Has.zL (A:=A++ [y]) (by rw [dH];exact h) ho hg hb
 rwa [dH] at this
theorem cU.ac6{x' z:En}(h:cU K c S ss r v w0 w (y::z::x::F))(ho:x'.own w' w0.heap.size)(hg:w.grownBy w' x.b)(hb:x'.b=x.b∨x'.b=none∨∃ q,x'.b=some q∧w.heap.size≤q):cU K c S ss r v w0 w' (y::z::x'::F):=h.rest fun A h=>by
 have:=Has.zL (A:=A++ [y,z]) (by rw [dH];exact h) ho hg hb
 rwa [dH] at this
theorem aq.Kj(h:aq K c S ss w0 w (y::x::F))(ho:x'.own w' w0.heap.size)(hg:w.grownBy w' x.b)(hb:x'.b=x.b∨x'.b=none∨∃ q,x'.b=some q∧w.heap.size≤q):aq K c S ss w0 w' (y::x'::F):=h.rest fun A h=>by
 have:=Has.zL (A:=A++ [y]) (by rw [dH];exact h) ho hg hb
 rwa [dH] at this
theorem cU.nil(h:cU K c S ss r v w0 w F)(e:TypeId)(k:Nat):cU K c S ss r v w0 w (.row (.slice none 0 0) e k 0 []::F):=h.rest fun _ h=>(h.nil e k).back
theorem cU.drop(h:cU K c S ss r v w0 w (x::F)):cU K c S ss r v w0 w F:=h.rest fun _ h=>h.mid.drop
theorem lW{w w':World}{b:Nat}(o:dM (fun q=>q=b) w w'):w.grownBy w' (some b):=⟨o.os,o.tape,o.output,o.size,fun k hk hne=>o.block k hk fun e=>hne (by rw [e])⟩
theorem Has.aU{A B Q H:List En}{x y z:En}(h:Has w0 w (A++x::(B++y::(Q++z::H)))):Has w0 w (A++x::(B++z::(Q++H))):=by
 have p:(A++x::(B++y::(Q++z::H))).Perm (y::(A++x::(B++z::(Q++H)))):=by
  have e:A++x::(B++y::(Q++z::H))=(A++x::B)++y::(Q++z::H):=S_
  rw [e];refine dV.trans (mU _ ?_);have e2:A++x::(B++z::(Q++H))=(A++x::B)++z::(Q++H):=S_
  rw [e2];exact ue _ dV
 exact(h.perm p).drop
theorem cU.parts(h:cU K c S ss r v w0 w F):∃ (cv lv:List Value) (l p s:Value) (ah:List Int) (P Q:List En),cv.length=S.aO.length∧lv.length=S.lists.length∧r<lv.length∧lv[r]?=some v∧ah.length=S.log.length∧
  Has w0 w (gy K.toMk l p s ah S ss++ [E7 K c S cv.length,JS K S,RO K cv,DF K c S lv.length,JZ K S]++dA K.gi K.ci 40 1 lv.length lv::(kn cv S.aO++P++.row v 3 1 (S.bQ r).length ((S.bQ r).map (Value.int .i64))::(Q++F)))∧
  ∀ (w':World) (v':Value) (l':List Int),Has w0 w' (gy K.toMk l p s ah S ss++ [E7 K c S cv.length,JS K S,RO K cv,DF K c S lv.length,JZ K S]++dA K.gi K.ci 40 1 lv.length (lv.set r v')::(kn cv S.aO++P++.row v' 3 1 l'.length (l'.map (Value.int .i64))::(Q++G)))→cU K c (S.aV r l') ss r v' w0 w' G:=by
 obtain⟨cv,lv,a,b,hv,l,p,s,ah,q,h⟩:=h;have LY:r<lv.length:=(fO.1 hv).1;have hr:r<S.lists.length:=O_
 have hx:S.lists[r]?=some (S.bQ r):=by rw [fy hr,PM.bQ,mW,kO,fy hr];rfl
 obtain⟨P,Q,e,f⟩:=kj hv hx;refine⟨cv,lv,l,p,s,ah,P,Q,a,b,LY,hv,q,?_,fun w' v' l' h'=>⟨cv,lv.set r v',a,?_,?_,l,p,s,ah,q,?_⟩⟩
 ·exact QK
 ·exact NP
 ·rw [g9 LY]
 ·exact abA
theorem cU.form(h:cU K c S ss r v w0 w F):∃ A cc,v=.slice A (S.bQ r).length cc:=by
 obtain⟨cv,lv,l,p,s,ah,P,Q,_,_,_,_,_,h,_⟩:=h.parts (G:=F);exact iJ h (e:=3) (k:=1) (us:=(S.bQ r).map (Value.int .i64)) (ew _ (iA _ (ew _ (gq ..))))
theorem cU.aas{A:Option Addr}{n cc:Nat}(h:cU K c S ss r (.slice A n cc) w0 w F)(hn:0<(S.bQ r).length):∃ g,A=some ⟨g,0,none⟩∧n≤cc:=by
 obtain⟨A',c',e⟩:=h.form;injection e with e1 e2 e3;subst e1 e2 e3;obtain⟨cv,lv,l,p,s,ah,P,Q,_,_,_,_,_,h,_⟩:=h.parts (G:=F);obtain⟨g,c',e,hle,_⟩:=bf (h.own _ (ew _ (iA _ (ew _ (gq ..))))) hn;injection e with e _ e';exact⟨g,e,O_⟩
theorem cU.at_(h:cU K c S ss r v w0 w F):∀ z:aL w,z.world.cell? ⟨K.gi,r,none⟩=some v:=by
 obtain⟨cv,lv,l,p,s,ah,P,Q,_,_,_,hv,_,h,_⟩:=h.parts (G:=F);exact h.ny (ew _ (gq ..)) hv
theorem cU.dW(h:cU K c S ss r v w0 w F):∀ z:aL w,z.world.frozen? ⟨K.gi,r,none⟩=false:=by
 obtain⟨cv,lv,l,p,s,ah,P,Q,_,_,_,hv,_,h,_⟩:=h.parts (G:=F);exact h.Cb (g:=K.gi) (c:=K.ci) (ew _ (gq ..)) r
theorem cU.el{g m cc i:Nat}{y:Int}(h:cU K c S ss r (.slice (some ⟨g,0,none⟩) m cc) w0 w F)(hy:(S.bQ r)[i]?=some y):∀ z:aL w,z.world.cell? ⟨g,i,none⟩=some (.int .i64 y):=by
 have hm:m=(S.bQ r).length:=by obtain⟨A,c',e⟩:=h.form;injection e
 subst hm;obtain⟨cv,lv,l,p,s,ah,P,Q,_,_,_,hv,_,h,_⟩:=h.parts (G:=F);exact h.ny (g:=g) (c:=cc) (ew _ (iA _ (ew _ (gq ..)))) (by rw [gA,hy];rfl)
theorem cU.aU{kv:Value}{l:List Int}(h:cU K c S ss r v w0 w (.row kv 3 1 l.length (l.map (Value.int .i64))::F)):aq K c (S.aV r l) ss w0 (w.setCell ⟨K.gi,r,none⟩ kv) F:=by
 obtain⟨cv,lv,l0,p,s,ah,P,Q,_,_,_,hv,_,h,hb⟩:=h.parts (G:=F);refine(hb _ kv l ?_).ia;have h1:=Has.fD h r kv;exact h1.aU
end
section
variable{K:Ky}{c:Cf}{S:PM}{ss:List Sv}{w0 w w':World}{F:List En}{d:Nat}
def Ws(K:Ky)(c:Cf)(S:PM)(ss:List Sv)(r:Nat)(v:Value)(w0 wr:World)(F:List En)(k b:Nat)(th:Int)(x:Sc)(f:Int→Option Int)(l:List Int)(i:Nat)(ka pa:Value):Prop:=
 cU K c S ss r v w0 wr (tL K k th x (.map (some b)) pa (.pointer none)::.row pa 3 1 ((l.take i).filter fun y=>!(decide (y∈x.names))).length (((l.take i).filter fun y=>!(decide (y∈x.names))).map (Value.int .i64))::
  .row ka 3 1 ((l.take i).filter fun y=>decide (y∈x.names)).length (((l.take i).filter fun y=>decide (y∈x.names)).map (Value.int .i64))::.fX b f::F)
theorem ox{l:List Int}{i:Nat}{y:Int}(p:Int→Bool)(h:l[i]?=some y):(l.take (i+1)).filter p=(l.take i).filter p++if p y then [y] else []:=by
 rw [Fl,h]
 cases hp:p y<;>simp [hp]
theorem Hp{k b r:Nat}{th:Int}{x:Sc}{f:Int→Option Int}(h:aq K c S ss w0 w (tL K k th x (.map (some b)) (.slice none 0 0) (.pointer none)::.fX b f::F))(hf:Wy x.names f)(hrc:x.rc=(r:Nat))(hr:r<S.lists.length)(hls:∀ y∈S.bQ r,0≤y)(hlen:(S.bQ r).length<100000):
  cm 222 #[some k] w (.tuple #[]) fun w'=>∃ pa,aq K c (S.aV r ((S.bQ r).filter fun y=>decide (y∈x.names))) ss w0 w' (tL K k th x (.map (some b)) pa (.pointer none)::.row pa 3 1 ((S.bQ r).filter fun y=>!(decide (y∈x.names))).length (((S.bQ r).filter fun y=>!(decide (y∈x.names))).map (Value.int .i64))::.fX b (fun j=>if j=-1 then none else f j)::F):=by
 have J0:decide ((r:Int)<(S.lists.length:Int))=true:=by simp;omega
 have k5:=h.at_ (i:=5) aj rfl
 have bL:Hid (w0.heap.size≤b):=aJ (by
  obtain⟨cv,lv,a,b,l,p,s,ah,q,h⟩:=h;exact(h.own _ (bX (bX bp))).1)
 have L5:=h.fX (b:=b) bp;obtain⟨w1,hdel,him1,ho1⟩:=L5.del (P:=prog) underlying269 underlying3 (-1) 0;obtain⟨v,hL⟩:=h.known hr;obtain⟨A,cc,rfl⟩:=hL.form;obtain⟨l,hl⟩:∃ l,S.bQ r=l:=⟨_,rfl⟩;obtain⟨m,hm⟩:∃ m,l.length=m:=⟨_,rfl⟩;rw [hl,hm] at hL;rw [hl] at hls hlen ⊢;have Hh:=aJ (hL.perm (iC _ _ _));have Hl:=aJ hl;have Hm:=aJ hm;have hm':m<100000:=O_
 have Hf:=aJ hf;have Hrc:=aJ hrc;have Hls:=aJ hls;clear h hL hl hm hf hrc hls hlen;go_enter func222,ntmps222;go_wp2_with fail
 have h1:cU K c S ss r (.slice A m cc) w0 w1 (.fX b (fun j=>if j=-1 then none else f j)::tL K k th x (.map (some b)) (.slice none 0 0) (.pointer none)::F):=
  Hh.out.Xy ⟨bL.out,him1⟩ (lW ho1) (.inl rfl)
 replace h1:=h1.perm (iC _ _ _);obtain⟨g,hg⟩:∃ g:Int→Option Int,g=fun j=>if j=-1 then none else f j:=⟨_,rfl⟩
 have hcg:∀ y,0≤y→((g y).getD 0=0↔y∉x.names):=fun y hy=>by
  rw [hg]
  show((if y=-1 then none else f y).getD 0=0↔_)
  rw [aK O_];exact(Hf.out y).2.2 hy
 have Xg:∀ y,0≤y→0≤(g y).getD 0:=fun y hy=>by
  rw [hg]
  show 0≤(if y=-1 then none else f y).getD 0
  rw [aK O_];exact(Hf.out y).1
 rw [←hg] at h1;have Hg:=aJ hg;have Hcg:=aJ hcg;have Hcp:=aJ Xg;clear hcg Xg hg L5 him1 ho1 k5 hdel;have q0:=h1.ia.cell (i:=0) aj rfl;have q2:=h1.ia.cell (i:=2) aj rfl;rw [Hrc.out] at q2;have q9:=fun z:aL w1=>(h1.ia.hz z).2.2.2.2.2.2.2.1
 have qv:=h1.at_;refine bT (Ext w1) (bu _).bh K_ K_ ?_
 repeat (go_big_quiet_step (fail))
 refine qA ?_;rintro _ ⟨k1,rfl⟩;have h2:=((h1.iD k1).nil 3 1).nil 3 1
 have H2:Hid (Ws K c S ss r (.slice A m cc) w0 k1.world F k b th x g l 0 (.slice none 0 0) (.slice none 0 0)):=aJ (h2.perm (by
  refine(mU _ (iC _ _ _)).trans ((iC _ _ _).trans (mU _ (mU _ ?_)));exact List.Perm.refl _))
 obtain⟨W,hW⟩:∃ W,W=k1.world:=⟨_,rfl⟩;rw [←hW] at H2 ⊢;clear h1 h2 hW q0 q2 q9 qv k1 Hh Hf;go_wp2
 go_loopw [2,23] (fun s2 s23 wr=>∃ (i:Nat) (pa ka:Value),i≤m∧ka=s2∧s23=.int .i64 i∧Hid (Ws K c S ss r (.slice A m cc) w0 wr F k b th x g l i ka pa)) (fun _ s _=>m - (intOf s).toNat)
 case atStart=>exact⟨0,_,_,O_,rfl,rfl,H2⟩
 case round=>
  obtain⟨i,pa,ka,hi,rfl,rfl,HI⟩:=hrel;have hI:=HI.out;unfold Ws at hI;obtain⟨kl,hkl⟩:∃ kl,(l.take i).filter (fun y=>decide (y∈x.names))=kl:=⟨_,rfl⟩;obtain⟨pl,uA⟩:∃ pl,(l.take i).filter (fun y=>!(decide (y∈x.names)))=pl:=⟨_,rfl⟩;have hkn:kl.length<100000:=by rw [←hkl];have:=Dz (fun y=>decide (y∈x.names)) (l.take i);rw [Fj] at this;omega
  have hpn:pl.length<100000:=by rw [←uA];have:=Dz (fun y=>!(decide (y∈x.names))) (l.take i);rw [Fj] at this;omega
  rw [hkl,uA] at hI;have q5:=hI.ia.at_ (i:=5) aj rfl;have q6:=hI.ia.at_ (i:=6) aj rfl;have f6:=hI.ia.dW aj 6;have l6:=hI.ia.tu aj;have n6:=lN l6
  by_cases hlt:i<m
  ·obtain⟨y,hy⟩:∃ y,l[i]?=some y:=⟨_,fy (by rw [Hm.out];exact hlt)⟩
   have hy0:=Hls.out y (nV hy);obtain⟨gb,hA,hmc⟩:=hI.aas (by rw [Hl.out,Hm.out];omega);subst hA;have qe:=hI.el (i:=i) (by rw [Hl.out];exact hy) ⟨_,bu _⟩;have qlk:=(hI.ia.fX (b:=b) lA).lookup (P:=prog) underlying269 underlying3 qC y false;have iE:=Hcg.out y hy0;have yZ:=Hcp.out y hy0;simp only [mD,eu] at qlk qe;generalize (g y).getD 0=gv at qlk iE yZ;have z0:(0:Int)≤(i:Int):=O_
   have z1:(i:Int)<(m:Int):=O_
   have nS:=aJ hI;have Hy:=aJ hy;have QW:=aJ hkl;have On:=aJ uA;clear hy hkl uA
   by_cases hin:y∈x.names
   ·have hd:decide (0<gv)=true:=by
     have:gv≠0:=fun e=>(iE.1 e) hin
     simp;omega
    have NW:=aJ hin;clear hin iE yZ;obtain⟨A2,c2,rfl⟩:=aA (nS.out.ia.owns iU);have mK:=nS.out.ia.owns iU;have WE:=nS.out.ia.sz;have Fp:Rd (wr.alloc (.cells #[y] 3)) (some ⟨wr.heap.size,0,none⟩) [y]:=Rd.made wr [y] 3;have nh:∀ u∈([y]:List Value),u.oneCell'=true:=by intro u hu;simp at hu;rw [hu];rfl
    go_wp2_with (at_builtin;refine cN _ rfl (.tmp 34) (.tmp 36) 40 rfl w0.heap.size 3 1 8 jT underlying40 (.slice A2 kl.length c2) kl.length _ (by simp [Act.eval]) (dB mK ((bu _).aE _)) (some ⟨wr.heap.size,0,none⟩) 1 1 [y] (by simp [Act.eval]) rfl Fp nh O_ (by simp;omega) ?_;intro v' w2 bV bl fk);have h3:=nS.out.ac6 (w':=w2) (x':=.row v' 3 1 (kl.length+1) (kl.map (Value.int .i64)++ [Value.int .i64 y])) bV (aD bl) (fk.imp id fun e=>.inr ⟨_,e,S_⟩);have hK:(l.take (i+1)).filter (fun y=>decide (y∈x.names))=kl++ [y]:=by rw [ox _ Hy.out,QW.out,cM NW.out];rfl
    have hP:(l.take (i+1)).filter (fun y=>!(decide (y∈x.names)))=pl:=by rw [ox _ Hy.out,On.out,cM NW.out];simp
    have H3:Hid (Ws K c S ss r (.slice (some ⟨gb,0,none⟩) m cc) w0 w2 F k b th x g l (i+1) v' pa):=aJ (by
     unfold Ws;rw [hK,hP,gP,jI];exact h3)
    clear h3 hK hP bV bl fk mK Fp nh
    go_roundw
    case rel=>exact⟨i+1,pa,_,O_,rfl,by go_num,H3⟩
    case measure=>simp [intOf];omega
   ·have hd:decide (0<gv)=false:=by
     have:gv=0:=iE.2 hin;simp;omega
    have NW:=aJ hin;clear hin iE yZ;obtain⟨A2,c2,rfl⟩:=aA (nS.out.ia.owns bp);have mK:=nS.out.ia.owns bp;have WE:=nS.out.ia.sz;have Fp:Rd (wr.alloc (.cells #[y] 3)) (some ⟨wr.heap.size,0,none⟩) [y]:=Rd.made wr [y] 3;have nh:∀ u∈([y]:List Value),u.oneCell'=true:=by intro u hu;simp at hu;rw [hu];rfl
    go_wp2_with (at_builtin;refine cN _ rfl (.tmp 42) (.tmp 44) 40 rfl w0.heap.size 3 1 8 jT underlying40 (.slice A2 pl.length c2) pl.length _ (by simp [Act.eval]) (dB mK ((bu _).aE _)) (some ⟨wr.heap.size,0,none⟩) 1 1 [y] (by simp [Act.eval]) rfl Fp nh O_ (by simp;omega) ?_;intro v' w2 bV bl fk;have h3:=nS.out.Kj (w':=w2) (x':=.row v' 3 1 (pl.length+1) (pl.map (Value.int .i64)++ [Value.int .i64 y])) bV (aD bl) (fk.imp id fun e=>.inr ⟨_,e,S_⟩);have kk:=h3.ia.at_ (i:=6) aj rfl;have ff:=h3.ia.dW aj 6;obtain⟨g5,c5,rfl,_,_,_⟩:=bf bV O_);have h4:=h3.put 6 (.slice (some ⟨g5,0,none⟩) (pl.length+1) c5);have hK:(l.take (i+1)).filter (fun y=>decide (y∈x.names))=kl:=by rw [ox _ Hy.out,QW.out,dy NW.out];simp
    have hP:(l.take (i+1)).filter (fun y=>!(decide (y∈x.names)))=pl++ [y]:=by rw [ox _ Hy.out,On.out,dy NW.out];rfl
    have H3:Hid (Ws K c S ss r (.slice (some ⟨gb,0,none⟩) m cc) w0 (w2.setCell ⟨k,6,none⟩ (.slice (some ⟨g5,0,none⟩) (pl.length+1) c5)) F k b th x g l (i+1) _ (.slice (some ⟨g5,0,none⟩) (pl.length+1) c5)):=aJ (by
     unfold Ws;rw [hK,hP,gP,jI];exact h4)
    clear h3 h4 hK hP bV bl fk mK Fp nh kk ff;exact Wh
  ·obtain rfl:m=i:=O_
   rw [Bj (by rw [Hm.out];exact bZ _)] at hkl uA;have QW:=aJ hkl;have On:=aJ uA;have H3:=aJ (hI.perm (G:=.row ka 3 1 kl.length (kl.map (Value.int .i64))::tL K k th x (.map (some b)) pa (.pointer none)::.row pa 3 1 pl.length (pl.map (Value.int .i64))::.fX b g::F) ((mU _ (iC _ _ _)).trans (iC _ _ _)));obtain⟨A2,c2,rfl⟩:=aA (H3.out.ia.owns aj);obtain⟨V,hV⟩:∃ V,V=wr:=⟨_,rfl⟩;rw [←hV] at H3 hI ⊢;have q0:=hI.ia.cell (i:=0) aj rfl;have q2:=hI.ia.cell (i:=2) aj rfl;rw [Hrc.out] at q2;have q9:=fun z:aL V=>(hI.ia.hz z).2.2.2.2.2.2.2.1
   have qv:=hI.at_;have qf:=hI.dW;clear hI hkl uA hV q5 q6 f6 l6 n6;go_wp2_with fail;refine bU (Ext V) 13 (bu _).bh K_ K_ ?_;simp only [rR,rP,rQ,rO]
   repeat (go_big_quiet_step (fail))
   refine qA ?_;rintro _ ⟨k2,rfl⟩;have h4:=(H3.out.iD k2).aU;go_wp2_with fail;refine iP ⟨rfl,pa,?_⟩;rw [QW.out,On.out,←Hg.out];exact h4
def AP(w:World)(b i:Nat):Nat:=match w.cell? ⟨b,i,none⟩ with
 | some (.slice _ n _)=>n
 | _=>0
theorem wm{w:World}{b i n cc:Nat}{A:Option Addr}(h:w.cell? ⟨b,i,none⟩=some (.slice A n cc)):AP w b i=n:=by unfold AP;rw [h]
theorem nA{c:Cf}(p:Pu)(S:PM)(hc:c.Ca≤64):(p.ready c S).2.2.th=S.th∧(p.ready c S).2.2.aO.length=S.aO.length∧(p.ready c S).2.2.slots.length=S.slots.length∧(p.ready c S).2.2.aG.length≤S.aG.length+1∧(S.th<S.aO.length→S.cache.length<100000→(p.ready c S).2.2.cache.length<100000):=by
 unfold Pu.ready
 by_cases h:c.Ca≤S.cache.length
 ·rw [aY h];exact⟨rfl,rfl,rfl,pU _,fun _ h=>h⟩
 ·rw [aK h]
  refine⟨rfl,?_,?_,?_,fun ht _=>?_⟩
  ·simp only [PM.shift,PM.setCache,cW]
  ·simp only [PM.shift,PM.setCache,cW]
  ·simp only [PM.shift,PM.setCache,gP];exact bZ _
  ·have:((S.setCache (S.cache++ [p.slot])).shift p.slot 1).cache=S.cache++ [p.slot]:=by
    simp only [PM.cache,PM.shift,PM.setCache,kO,g9 ht];rfl
   rw [this,gP];simp only [ij,mB];omega
theorem zf(c:Cf)(s:Sc)(y:Int)(l:List Int)(S:PM):Sc.free c s (y::l) S=match (Pu.aU y).ready c S with
  | (false,p,S)=>(false,{s with az:=5,pending:=l,aU:=some p},S)
  | (true,p,S)=>Sc.free c {s with aU:=some p} l S:=rfl
structure FrI(K:Ky)(c:Cf)(ss:List Sv)(w0 wr:World)(F:List En)(k:Nat)(x:Sc)(mv:Value)(S:PM)(S':PM)(l0 l:List Int)(g j j' cc c':Nat)(gv:Value)(aU:Option Pu)(tot:Bool×Sc×PM):Prop where
 m:aq K c S' ss w0 wr (tL K k S.th {x with az:=5} mv (.slice (some ⟨g,j',none⟩) l.length c') gv::dA g cc 3 1 l0.length (l0.map (Value.int .i64))::F)
 jn:l≠ []→j'=j
 tot:tot=Sc.free c {x with aU:=aU} l S'
 dr:l=l0.drop j
 lj:j+l.length=l0.length
 lc:l.length≤c'
 th:S'.th=S.th
 ca:S'.aO.length=S.aO.length
 sl:S'.slots.length=S.slots.length
 cl:S'.cache.length<100000
 sh:S'.aG.length+l.length<1000000000000
 al:∀ y∈l,0≤y∧y<S.slots.length
theorem CM{k g j j' cc c':Nat}{x:Sc}{mv gv:Value}{l0 l:List Int}(h:aq K c S ss w0 w (tL K k S.th x mv (.slice (some ⟨g,j',none⟩) l.length c') gv::dA g cc 3 1 l0.length (l0.map (Value.int .i64))::F))(hd:dk K.toMk d∈F)(hjn:l≠ []→j'=j)(Xe:l=l0.drop j)(hlj:j+l.length=l0.length)(hlc:l.length≤c')(hn:l0.length<100000)
  (hls:∀ y∈l,0≤y∧y<S.slots.length) (hca:c.Ca≤64) (ht:S.th<S.aO.length) (hcb:S.cache.length<100000) (hb:S.aG.length+l.length<1000000000000):
  Bb 223 k d w (.bool (Sc.free c x l S).1) fun w'=>∃ L,((Sc.free c x l S).1=false→qx K c S.th k (Sc.free c x l S).2.1 L)∧aq K c (Sc.free c x l S).2.2 ss w0 w' (L++F):=by
 obtain⟨tot,htot⟩:∃ tot,tot=Sc.free c x l S:=⟨_,rfl⟩;rw [←htot];have k3:=h.at_ (i:=3) aj rfl;have f3:=h.dW aj 3;have H0:Hid (FrI K c ss w0 (w.setCell ⟨k,3,none⟩ (.int .i64 5)) F k x mv S S l0 l g j j' cc c' gv x.aU tot):=aJ ⟨h.put 3 (.int .i64 5),hjn,htot,Xe,hlj,hlc,rfl,rfl,rfl,hcb,hb,hls⟩;have Hd:=aJ hd;clear htot h Xe hjn hlj hlc hcb hb hls hd;go_enter func223,ntmps223;go_wp2
 go_loopw [] (fun wr=>∃ (S':PM) (l:List Int) (j j' c':Nat) (gv:Value) (aU:Option Pu),Hid (FrI K c ss w0 wr F k x mv S S' l0 l g j j' cc c' gv aU tot)) (fun wr=>AP wr k 6)
 case atStart=>exact⟨_,_,_,_,_,_,_,H0⟩
 case round=>
  clear k3 f3 H0;obtain⟨S',l,j,j',c',gv,aU,HI⟩:=hrel;have k6:=HI.out.m.at_ (i:=6) aj rfl
  rcases l with _ | ⟨y,l'⟩
  ·have k3:=HI.out.m.at_ (i:=3) aj rfl
   have f3:=HI.out.m.dW aj 3;have m2:=HI.out.m.put 3 (.int .i64 6);have NU:=aJ HI.out.tot;clear HI;go_wp2;go_ret;rw [NU.out];exact⟨rfl,[_,_],fun q=>(by cases q),m2⟩
  ·obtain rfl:=HI.out.jn S_
   have hI:=HI.out
   have hyl:l0[j']?=some y:=by
    have:=ep (fun l=>l[0]?) hI.dr;exact Sr
   have Z5:l'=l0.drop (j'+1):=by
    have:=ep List.tail hI.dr;simpa using this
   obtain⟨y0,y1⟩:=HI.out.al y (gq ..);have hlc:=hI.lc;have hlj:=hI.lj;have hsh:=hI.sh;rw [ij] at hlc hlj hsh;have hm0:=hI.m
   have gC:wr.cell? ⟨k,0,none⟩=some (some K.bH)∧wr.cell? ⟨K.bH,0,none⟩=some (some K.bA)∧wr.cell? ⟨k,1,none⟩=some (.int .i64 S.th)∧wr.cell? ⟨k,6,none⟩=some (.slice (some ⟨g,j',none⟩) (l'.length+1) c')∧wr.cell? ⟨g,j',none⟩=some (.int .i64 y):=⟨hm0.at_ (i:=0) aj rfl,(hm0.hz ⟨wr,bu _⟩).1,hm0.at_ (i:=1) aj rfl,hm0.at_ (i:=6) aj rfl,by
    have h1:=hm0.owns (v:=.slice (some ⟨g,0,none⟩) l0.length cc) bp;exact(h1.cellAt j' (by rw [Nat.mul_one];omega)).trans (by rw [gA,hyl];rfl)⟩
   have RB:=CL hm0.drew (S.th:Int) y y0 (by rw [hI.sl];exact y1) O_ (by rw [hI.ca];omega);have f7:=hm0.dW aj 7;have l7:=hm0.tu aj;have n7:=lN l7;have z1:(0:Int)<((l'.length:Nat):Int)+1:=O_
   have z2:(0:Int)≤((l'.length:Nat):Int)+1:=O_
   have z3:(1:Int)≤((l'.length:Nat):Int)+1:=O_
   have z4:(1:Int)≤(c':Int):=O_
   have z5:1≤c':=O_
   have z6:((l'.length:Nat):Int)+1≤c':=O_
   rw [ij] at k6;have Hc7:=aJ (wm k6);have Hel:∀ (W W0:World) (n:Nat),W.ownsRow n 3 1 (.slice (some ⟨g,0,none⟩) l0.length cc) l0.length (l0.map (Value.int .i64))→W.cell? ⟨g,j',none⟩=some (.int .i64 y):=fun W _ n h1=>(h1.cellAt j' (by rw [Nat.mul_one];omega)).trans (by rw [gA,hyl];rfl)
   replace Hel:=aJ fun(W:World) (n:Nat)=>Hel W W n
   have Hdr:=aJ Z5;have Hal:=aJ fun z (hz:z∈l')=>HI.out.al z (iA _ hz)
   have nS:=aJ hI;clear hm0 hI hyl Z5;go_wp2
   go_region_held3 (fun w'=>w'.cell? ⟨k,0,none⟩=some (some K.bH)∧w'.cell? ⟨K.bH,0,none⟩=some (some K.bA)∧w'.cell? ⟨k,1,none⟩=some (.int .i64 S.th)∧w'.cell? ⟨k,6,none⟩=some (.slice (some ⟨g,j',none⟩) (l'.length+1) c')∧w'.cell? ⟨g,j',none⟩=some (.int .i64 y)) (first | exact gC | exact Az | exact RA) (first | ((with_reducible refine RB.mono ?_);rintro e w3 ⟨kg,rfl,hkg,h3⟩;have Az:w3.cell? ⟨k,0,none⟩=some (some K.bH)∧w3.cell? ⟨K.bH,0,none⟩=some (some K.bA)∧w3.cell? ⟨k,1,none⟩=some (.int .i64 S.th)∧w3.cell? ⟨k,6,none⟩=some (.slice (some ⟨g,j',none⟩) (l'.length+1) c')∧w3.cell? ⟨g,j',none⟩=some (.int .i64 y):=⟨h3.at_ (i:=0) bp rfl,(h3.hz ⟨w3,bu _⟩).1,h3.at_ (i:=1) bp rfl,h3.at_ (i:=6) bp rfl,Hel.out _ _ (h3.owns (v:=.slice (some ⟨g,0,none⟩) l0.length cc) iU)⟩;have g7:=h3.at_ (i:=7) bp rfl;have e7:=h3.dW bp 7;have m7:=h3.swap.put 7 (some kg);have RA:(w3.setCell ⟨k,7,none⟩ (some kg)).cell? ⟨k,0,none⟩=some (some K.bH)∧(w3.setCell ⟨k,7,none⟩ (some kg)).cell? ⟨K.bH,0,none⟩=some (some K.bA)∧(w3.setCell ⟨k,7,none⟩ (some kg)).cell? ⟨k,1,none⟩=some (.int .i64 S.th)∧(w3.setCell ⟨k,7,none⟩ (some kg)).cell? ⟨k,6,none⟩=some (.slice (some ⟨g,j',none⟩) (l'.length+1) c')∧(w3.setCell ⟨k,7,none⟩ (some kg)).cell? ⟨g,j',none⟩=some (.int .i64 y):=⟨m7.at_ (i:=0) aj rfl,(m7.hz ⟨(w3.setCell ⟨k,7,none⟩ (some kg)),bu _⟩).1,m7.at_ (i:=1) aj rfl,m7.at_ (i:=6) aj rfl,Hel.out _ _ (m7.owns (v:=.slice (some ⟨g,0,none⟩) l0.length cc) iU)⟩))
   clear gC Az RA g7 e7 f7 l7 n7 RB k6;generalize hV:(w3.setCell ⟨k,7,none⟩ (some kg))=V at m7 ⊢;clear hV h3;have k6:=m7.at_ (i:=6) aj rfl;have k7:=m7.at_ (i:=7) aj rfl;have f6:=m7.dW aj 6;have l6:=m7.tu aj;obtain⟨q1,q2,q3,q4,q5⟩:=nA (c:=c) (.aU y) S' hca;have htot:=nS.out.tot;rw [zf] at htot;have hrc:∀ (W:World) (j2 c2:Nat),aq K c S' ss w0 W (tL K k S.th {x with az:=5} mv (.slice (some ⟨g,j2,none⟩) l'.length c2) (some kg)::nC K kg 267 S.th (.aU y)::dA g cc 3 1 l0.length (l0.map (Value.int .i64))::F)→_:=fun W j2 c2 m8=>kX (d:=d) (p:=.aU y) (by rw [nS.out.th];exact m8.swap) (by simp [Hd.out]) (by show(1:Int)≠0;omega) ⟨y0,by rw [nS.out.sl];exact y1⟩ (by rw [nS.out.th,nS.out.ca];exact ht) nS.out.cl O_
   rw [nS.out.th] at hrc;generalize (Pu.aU y).ready c S'=r at hrc q1 q2 q3 q4 q5 htot;obtain⟨b,p1,S1⟩:=r;simp only at hrc q1 q2 q3 q4 q5 htot;have q6:=q5 (by rw [nS.out.th,nS.out.ca];exact ht) nS.out.cl;rw [nS.out.th] at q1;rw [nS.out.ca] at q2;rw [nS.out.sl] at q3;have Hrd:=aJ hrc;clear hrc q5 nS
   by_cases j7:c'=1
   case' pos=>
    subst j7;obtain rfl:l'= []:=N6.1 O_;have m8:=m7.put 6 (.slice (some ⟨g,j',none⟩) 0 0)
   case' neg=>
    have m8:=m7.put 6 (.slice (some ⟨g,j'+1,none⟩) l'.length (c' - 1));have hcn:l'.length≤c' - 1:=O_
   all_goals
    have q7:=m8.at_ (i:=7) aj rfl;have q66:=m8.at_ (i:=6) aj rfl;have hr:=Hrd.out _ _ _ m8
    cases b
    case' false=>
     simp only at htot;have NU:=aJ htot;clear htot q1 q2 q3 q4 q6 m8 m7;go_wp2_with fail;refine un hr fun w5 h5=>?_
     go_wp2;go_ret;rw [NU.out];have h7:=h5.perm ((iC _ _ _).trans (mU _ (iC _ _ _)));refine⟨rfl,[_,_,_],?_,h7⟩;intro _;exact .free mv g (j'+1) _ cc _ kg l0 p1 rfl rfl Hdr.out (by first | exact fun h=>absurd rfl h | exact fun _=>rfl) (by first | (show j'+1+0=_;omega) | (show j'+1+l'.length=_;omega)) (by first | exact hcn | exact bZ _) hn
    case' true=>
     simp only at htot;have NU:=aJ htot;clear htot m8 m7;go_wp2_with fail;refine un hr fun w5 h5=>?_
     have h6:=h5.drop;have H6:Hid (FrI K c ss w0 w5 F k x mv S S1 l0 _ g (j'+1) _ cc _ _ (some p1) tot):=aJ (.mk h6 (by first | exact fun h=>absurd rfl h | exact fun _=>rfl) NU.out Hdr.out (by first | (show j'+1+0=_;omega) | omega) (by first | exact hcn | exact bZ _) q1 q2 q3 q6 (by first | (show _+0<_;omega) | omega) (by first | exact Hal.out | (intro z hz;cases hz)));have c6:=wm (h6.at_ (i:=6) aj rfl);clear h5 h6;go_wp2
     go_roundw
     case rel=>exact⟨_,_,_,_,_,_,_,H6⟩
     case measure=>rw [c6,Hc7.out];first | omega | (show 0<0+1;omega)
theorem Mm{k:Nat}{x:Sc}{th:Int}{mv gv:Value}{A:Option Addr}{c':Nat}(h:aq K c S ss w0 w (tL K k th x mv (.slice A 0 c') gv::F)):
  Bb 223 k d w true fun w'=>∃ L,aq K c S ss w0 w' (L++F):=by
 have k3:=h.at_ (i:=3) aj rfl;have f3:=h.dW aj 3;have h1:=h.put 3 (.int .i64 5);have k6:=h1.at_ (i:=6) aj rfl;have k3':=h1.at_ (i:=3) aj rfl;have f3':=h1.dW aj 3;have h2:=h1.put 3 (.int .i64 6);generalize hW:w.setCell ⟨k,3,none⟩ (.int .i64 5)=W at h1 k6 k3' f3' h2;go_enter func223,ntmps223;go_wp2
 go_loopw [] (fun wr=>wr=W) (fun _=>0)
 case atStart=>rfl
 case round=>
  subst hrel;go_wp2;go_ret;exact⟨rfl,[_],h2⟩
end
structure Kq(S S':PM):Prop where
 arg:S'.arg=S.arg
 dat:S'.dat=S.dat
 now:S'.now=S.now
 cur:S'.cur=S.cur
 fr:Fr S S'
theorem Kp.q{S S':PM}(h:Kp S S'):Kq S S':=⟨h.arg,h.dat,h.now,h.cur,h.fr⟩
theorem Kq.trans{S S1 S2:PM}(h:Kq S S1)(h':Kq S1 S2):Kq S S2:=⟨h'.arg.trans h.arg,h'.dat.trans h.dat,h'.now.trans h.now,h'.cur.trans h.cur,h.fr.trans h'.fr⟩
theorem Kq.rfl'(S:PM):Kq S S:=⟨rfl,rfl,rfl,rfl,.rfl' S⟩
theorem Kq.tell(S:PM)(k v:Int):Kq S (S.tell k v):=⟨rfl,rfl,rfl,rfl,rfl,fun _ _=>rfl,fun _ _=>rfl,fun _ h=>kV _ h _,fun _ _=>rfl,rfl,rfl⟩
theorem Kq.hold(S:PM)(r:Int):Kq S (S.hold r):=⟨rfl,rfl,rfl,rfl,rfl,fun _ _=>rfl,fun _ h=>kV _ h _,fun _ _=>rfl,fun _ _=>rfl,rfl,rfl⟩
def bt(c:Cf)(th:Nat)(X:List RT)(v0 v1:Bool)(S:PM)(pc:Nat)(R:Nat→Int)(bk nm pd:List Int){α:Type}(r:Bool×α×PM)(At:α→PM→Nat→(Nat→Int)→List Int→List Int→List Int→Prop):Prop:=
 Inv c th r.2.2∧Kq S r.2.2∧∃ (R':Nat→Int) (cZ:Nat) (eF cG cE:List Int),((r.1=false∧At r.2.1 r.2.2 cZ R' eF cG cE∧Rn c th (St v0 S X pc R bk nm pd) (St v1 r.2.2 X cZ R' eF cG cE))∨
   (r.1=true∧Rn c th (St v0 S X pc R bk nm pd) (Eo v1 r.2.2 X cZ R' eF cG cE)))
section
variable{c:Cf}{th:Nat}{X:List RT}{v v0 v1 v2:Bool}{S S' S1:PM}{pc cZ:Nat}{R R':Nat→Int}{bk eF nm pd cG cE:List Int}{α:Type}{x:α}{At:α→PM→Nat→(Nat→Int)→List Int→List Int→List Int→Prop}
theorem bt.go(I:Inv c th S')(K:Kq S S')(h:Rn c th (St v0 S X pc R bk nm pd) (St v1 S' X cZ R' eF cG cE))(ha:At x S' cZ R' eF cG cE):bt c th X v0 v1 S pc R bk nm pd (false,x,S') At:=⟨I,K,R',cZ,eF,cG,cE,.inl ⟨rfl,ha,h⟩⟩
theorem bt.done(I:Inv c th S')(K:Kq S S')(h:Rn c th (St v0 S X pc R bk nm pd) (Eo v1 S' X cZ R' eF cG cE)):bt c th X v0 v1 S pc R bk nm pd (true,x,S') At:=⟨I,K,R',cZ,eF,cG,cE,.inr ⟨rfl,h⟩⟩
theorem bt.behind{r:Bool×α×PM}(K:Kq S S1)(h:Rn c th (St v0 S X pc R bk nm pd) (St v1 S1 X cZ R' eF cG cE))(P:bt c th X v1 v2 S1 cZ R' eF cG cE r At):bt c th X v0 v2 S pc R bk nm pd r At:=by
 obtain⟨I,K',R1,WS,bk1,WU,WR,h1⟩:=P;refine⟨I,K.trans K',R1,WS,bk1,WU,WR,?_⟩
 rcases h1 with ⟨hb,h2,h3⟩ | ⟨hb,h3⟩
 ·exact .inl ⟨hb,h2,h.trans h3⟩
 ·exact .inr ⟨hb,h.trans h3⟩
theorem Inv.eX(I:Inv c th S){r:Nat}{i:Int}(h1:1≤r)(h2:r≤13)(hi:Ix c r i):0≤c.ad r i∧c.ad r i<S.words.length:=⟨(I.mq h1 h2 hi).1,(I.mq h1 h2 hi).2.1⟩
theorem Inv.TV(I:Inv c th S){r:Nat}{i:Int}(hr:r=8∨r=11∨r=12)(hi:Ix c r i)(x:Int):Pw c (kd c (c.ad r i)) (u64 x):=by
 obtain⟨_,_,e,_⟩:=I.mq (r:=r) O_ O_ hi;rw [e];exact⟨by unfold u64;omega,by unfold u64;omega,fun h=>O_,fun h=>by obtain⟨_,_,_,_⟩:=h;omega,fun h=>O_,fun h=>O_⟩
theorem Inv.mZ(I:Inv c th S){r:Nat}{i:Int}(hr:r=3∨r=6∨r=7∨r=9∨r=10∨r=13)(hi:Ix c r i){x:Int}(h:Lw c x):Pw c (kd c (c.ad r i)) x:=by
 obtain⟨_,_,e,_⟩:=I.mq (r:=r) O_ O_ hi;obtain⟨h0,h1,h2⟩:=h;rw [e];exact⟨h0,O_,fun _=>h2,fun _=>⟨h1,h2⟩,fun h=>O_,fun h=>O_⟩
theorem Lw.pk(I:Inv c th S){s:Int}(h:-1≤s)(h':s<c.S):Lw c (pk s):=by
 have hb:=I.bd;obtain⟨h1,h2,h3⟩:=FL h (show s<1024 from O_);exact⟨h1,h2,O_⟩
theorem Lw.zero(I:Inv c th S):Lw c 0:=by
 have hb:=I.bd;exact⟨D_,D_,by unfold lk;omega⟩
theorem Inv.Br(I:Inv c th S)(hr:0≤S.rc){k:Int}(h:0≤k)(h':k<c.H):Ix c 9 (S.rc*c.H+k)∧-1≤S.rc*c.H+k∧S.rc*c.H+k<4294967296:=by
 have hb:=I.bd;have hrb:=I.JU;have h1:0≤S.rc*c.H:=wX hr O_;have h2:(S.rc+1)*c.H≤c.R*c.H:=JP O_ O_;rw [Int.add_mul] at h2;have hh:=I.rh;exact⟨I.ixH O_ O_,O_,O_⟩
def sU(c:Cf)(k:Tk)(S:PM)(pc:Nat)(R:Nat→Int)(bk nm pd:List Int):Prop:=R 47=0∧bk= [47]∧sS c k S pc R [] nm pd
theorem Ku{b:Bool}{k:Tk}(I:Inv c th S)(aZ:R 47=0)(hd:Fb c k R):bt c th X b b S 47 R [] nm pd (eP (true,k,S)) (fun q S pc R bk nm pd=>∃ k,q=.take k∧sU c k S pc R bk nm pd):=by
 obtain⟨jS,hlo,hhi⟩:=hd;have hb:=I.bd;have tJ:wrap64 (R 30)=k.res:=wr jS hlo O_
 by_cases h:k.res<0
 ·have e:eP (true,k,S)=(true,.take k,S.tell 4 0):=by simp only [eP,aY h]
  rw [e];exact bt.done (I.tell 4 0) (.tell S 4 0) (.trans (sB (cd 47) tJ (ld aZ) h l22)<| .trans (dI (cd 49)) (mL (S:=S.tell 4 0) (I.tell 4 0) (cd 50) (I.cy 4 0)))
 ·have e:eP (true,k,S)=(true,.take k,S.tell 2 k.res):=by simp only [eP,aK h]
  rw [e];exact bt.done (I.tell 2 _) (.tell S 2 _) (.trans (tN (cd 47) tJ (ld aZ) h) (mL (S:=S.tell 2 k.res) (I.tell 2 _) (cd 48) (by rw [I.cy,aY rfl,tJ])))
theorem DZ(I:Inv c th S)(aZ:R 47=0):bt c th X false false S 45 R [] nm pd (eP (Tk.new.ready S)) (fun q S pc R bk nm pd=>∃ k,q=.take k∧sU c k S pc R bk nm pd):=by
 refine bt.behind (.rfl' S) (.trans (dI (cd 45)) (mE (cd 46) Zj (r:=47) rfl)) ?_;obtain⟨k,S',R',cG,cE,I',K',hk,⟨cZ,e',hr,ha,hn⟩ | ⟨hr,ha,hn⟩⟩:=(nq (X:=X) (v:=false) (R:=R) (bs:= [47]) (nm:=nm) (pd:=pd) I).cases
 ·exact SG
 ·exact Ss
theorem G2{k:Tk}(I:Inv c th S)(ha:sU c k S pc R bk nm pd):bt c th X false true S pc R bk nm pd (eP (k.step c S)) (fun q S pc R bk nm pd=>∃ k,q=.take k∧sU c k S pc R bk nm pd):=by
 obtain⟨aZ,rfl,ha⟩:=ha;obtain⟨k,S',R',cG,cE,I',K',hk,⟨cZ,e',hr,ha,hn⟩ | ⟨hr,ha,hn⟩⟩:=(qG (X:=X) (bs:= [47]) (nm:=nm) (pd:=pd) I aZ ha).cases
 ·exact SG
 ·exact Ss
def wP(c:Cf)(p:Pu)(S:PM)(pc:Nat)(R:Nat→Int)(bk nm pd:List Int):Prop:=R 47=0∧S.cj=(1,0)∧bk= [54]∧JB c p S pc R [] nm pd
theorem EA{s:Int}(I:Inv c th S)(aZ:R 47=0)(hs:S.cj=(1,0))(hg:S.arg=s)(h0:0≤s)(h1:s<c.S):bt c th X false false S 51 R [] nm pd ((Pu.aU s).ready c S) (wP c):=by
 refine bt.behind (.rfl' S) (.trans (dI (cd 51))<| .trans (JV I (cd 52) hg) (mE (cd 53) l11 (r:=54) rfl)) ?_;obtain⟨k,S',R',cG,cE,I',K',hk,⟨cZ,e',hr,ha,hn⟩ | ⟨hr,ha,hn⟩⟩:=(vg (X:=X) (v:=false) (R:=cg R 34 (u64 s)) (bs:= [54]) (nm:=nm) (pd:=pd) I h0 h1 rfl).cases
 ·exact QM
 ·exact Sn
theorem IW{p:Pu}(I:Inv c th S)(ha:wP c p S pc R bk nm pd):bt c th X false true S pc R bk nm pd (p.step c S) (wP c):=by
 obtain⟨aZ,hs,rfl,ha⟩:=ha;obtain⟨k,S',R',cG,cE,I',K',hk,⟨cZ,e',hr,ha,hn⟩ | ⟨hr,ha,hn⟩⟩:=(FJ (X:=X) (bs:= [54]) (nm:=nm) (pd:=pd) I aZ ha).cases
 ·exact QM
 ·exact Sn
def rK(c:Cf)(p:Pu)(S:PM)(pc:Nat)(R:Nat→Int)(bk nm pd:List Int):Prop:=R 47=0∧S.cj=(1,0)∧bk= [57]∧JD c p S pc R [] nm pd
theorem CN(p:Pu)(I:Inv c th S)(aZ:R 47=0)(hs:S.cj=(1,0)):bt c th X false false S 55 R [] nm pd (p.dU S) (rK c):=by
 refine bt.behind (.rfl' S) (.trans (dI (cd 55)) (mE (cd 56) l12 (r:=57) rfl)) ?_;obtain⟨k,S',R',cG,cE,I',K',hk,⟨cZ,e',hr,ha,hn⟩ | ⟨hr,ha,hn⟩⟩:=(vP (X:=X) (v:=false) (R:=R) (bs:= [57]) (nm:=nm) (pd:=pd) p I).cases
 ·exact QM
 ·exact So
theorem ED{p:Pu}(I:Inv c th S)(ha:rK c p S pc R bk nm pd):bt c th X false true S pc R bk nm pd (p.iW c S) (rK c):=by
 obtain⟨aZ,hs,rfl,ha⟩:=ha;obtain⟨k,S',R',cG,cE,I',K',hk,⟨cZ,e',hr,ha,hn⟩ | ⟨hr,ha,hn⟩⟩:=(Gm (X:=X) (bs:= [57]) (nm:=nm) (pd:=pd) I aZ ha).cases
 ·exact QM
 ·exact So
def wM(c:Cf)(r:Rg)(_:PM)(pc:Nat)(R:Nat→Int)(bk _ _:List Int):Prop:=
 R 47=0∧bk= []∧0≤r.i∧r.i<c.R∧R 0=u64 r.i∧R 1=c.R∧R 2=0∧R 3=1∧((r.seen=false∧pc=114)∨(r.seen=true∧pc=116))
theorem HZ(I:Inv c th S)(aZ:R 47=0):bt c th X false false S 104 R [] nm pd (false,(⟨0,false⟩:Rg),S) (wM c):=by
 have hb:=I.bd;have w1:wrap64 (u64 0)=0:=wu 0 D_ D_;have w2:wrap64 c.R=c.R:=wid O_ O_;refine bt.go (R':=cg (cg (cg (cg (cg R 0 (u64 (-1))) 1 c.R) 2 (u64 0)) 3 (u64 1)) 0 (u64 0)) (cZ:=114) (eF:= []) (cG:=nm) (cE:=pd) I (.rfl' S) ?_ ⟨aZ,rfl,Int.le_refl 0,by show(0:Int)<c.R;omega,rfl,rfl,rfl,rfl,.inl ⟨rfl,rfl⟩⟩;exact .trans (dI (cd 104))<| .trans (yI (cd 105) rfl)<| .trans (r50 (cd 106))<| .trans (yI (cd 107) rfl)<| .trans (yI (cd 108) rfl)<| .trans (dI (cd 109))<| .trans (TS (u:=u64 (-1)) (w:=u64 0) (cd 110) rfl rfl)<| .trans (sB (x:=0) (y:=c.R) (cd 111) w1 w2 O_ l62) (dI (cd 113))
theorem KL{r:Rg}(I:Inv c th S)(aZ:R 47=0)(h0:0≤r.i)(h1:r.i<c.R)(g0:R 0=u64 r.i)(g1:R 1=c.R)(g2:R 2=0)(g3:R 3=1):bt c th X true true S 109 R [] nm pd (r.on c S) (wM c):=by
 have hb:=I.bd;have u1:u64 (u64 r.i+u64 1)=u64 (r.i+1):=by unfold u64;omega
 have w0:wrap64 (u64 (r.i+1))=r.i+1:=wu _ O_ O_;have w1:wrap64 (R 1)=c.R:=by rw [g1];exact wid O_ O_
 unfold Rg.on
 by_cases h:r.i+1<c.R
 ·rw [aY h]
  exact bt.go (R':=cg R 0 (u64 (r.i+1))) (cZ:=114) (eF:= []) (cG:=nm) (cE:=pd) I (.rfl' S) (.trans (dI (cd 109))<| .trans (TS (cd 110) g0 u1)<| .trans (sB (cd 111) w0 w1 h l62) (dI (cd 113)))
   ⟨aZ,rfl,by show(0:Int)≤r.i+1;omega,h,rfl,g1,g2,g3,.inl ⟨rfl,rfl⟩⟩
 ·rw [aK h]
  exact bt.done (I.tell 4 0) (.tell S 4 0) (.trans (dI (cd 109))<| .trans (TS (cd 110) g0 u1)<| .trans (tN (cd 111) w0 w1 h) (mL (S:=S.tell 4 0) (I.tell 4 0) (cd 112) (I.cy 4 0)))
theorem KK{r:Rg}(I:Inv c th S)(ha:wM c r S pc R bk nm pd):bt c th X false true S pc R bk nm pd (r.step c S) (wM c):=by
 obtain⟨aZ,rfl,h0,h1,g0,g1,g2,g3,hs⟩:=ha;have hb:=I.bd;have xR:=I.IF h0 h1;have aR:=I.eX O_ O_ xR;have w0:wrap64 (R 0)=r.i:=wr g0 O_ O_
 rcases hs with ⟨hs,rfl⟩ | ⟨hs,rfl⟩
 ·rw [Rg.step,aK (by simp [hs])]
  have e1:=r1 (X:=X) (R:=R) (bk:= []) (nm:=nm) (pd:=pd) I (cd 114) O_ w0 xR
  by_cases h:S.w (c.ad 8 r.i)=1
  ·rw [aY h]
   exact bt.behind (Kp.load S _).q (.trans e1 (lV (cd 115) (h.trans g3.symm) l61)) (KL (I.load _) aZ h0 h1 g0 g1 g2 g3)
  ·rw [aK h]
   exact bt.go (I.load _) (Kp.load S _).q (.trans e1 (lz (cd 115) fun q=>h (Eq.trans q g3))) ⟨aZ,rfl,h0,h1,g0,g1,g2,g3,.inr ⟨rfl,rfl⟩⟩
 ·rw [Rg.step,aY hs]
  have e1:=r3 (X:=X) (R:=R) (bk:= []) (nm:=nm) (pd:=pd) (j:=3) (u:=0) (w:=1) I (cd 116) O_ w0 g2 g3 xR l61;have I1:Inv c th (S.swap (c.ad 8 r.i) 0 1):=I.swap aR fun _=>I.TV (.inl rfl) xR 1
  by_cases h:S.w (c.ad 8 r.i)=0
  ·rw [aY h] at e1 ⊢
   have I2:=I1.hold (r:=r.i) ⟨O_,h1⟩;exact bt.done (I2.tell 2 _) (((Kp.swap S _ _ _).q.trans (.hold _ _)).trans (.tell _ _ _)) (.trans e1<| .trans (r39 I1 (cd 117) w0 ⟨O_,h1⟩) (mL (S:=((S.swap (c.ad 8 r.i) 0 1).hold r.i).tell 2 r.i) (I2.tell 2 _) (cd 118) (by rw [I2.cy,aY rfl,w0])))
  ·rw [aK h] at e1 ⊢
   exact bt.behind (Kp.swap S _ _ _).q e1 (KL I1 aZ h0 h1 g0 g1 g2 g3)
def Dh(c:Cf)(u:Ur)(S:PM)(pc:Nat)(R:Nat→Int)(bk nm pd:List Int):Prop:=
 R 47=0∧S.cj=(1,0)∧0≤S.rc∧
 ((u.az=0∧bk= []∧pc=123∧0≤u.k∧u.k<c.H∧R 2=0∧R 0=u64 (S.rc*c.H+u.k))∨
  (u.az=1∧∃ s e,u.scan=some s∧bk= [127]++e∧sX c s S pc R e nm pd)∨
  (u.az=2∧∃ p,u.flush=some p∧bk= [128]∧JD c p S pc R [] nm pd)∨
  (u.az=3∧bk= []∧pc=130∧R 2=0∧R 0=u64 S.rc))
theorem Ki(I:Inv c th S)(aZ:R 47=0)(hs:S.cj=(1,0))(hr:0≤S.rc):bt c th X false false S 119 R [] nm pd (false,(⟨0,0,none,none⟩:Ur),S) (Dh c):=by
 have hb:=I.bd
 exact bt.go (R':=cg (cg R 2 (u64 0)) 0 (u64 (S.rc*c.H+0))) (cZ:=123) (eF:= []) (cG:=nm) (cE:=pd) I (.rfl' S) (.trans (dI (cd 119))<| .trans (yI (cd 120) rfl)<| .trans (Ib (cd 121)) (dI (cd 122)))
  ⟨aZ,hs,hr,.inl ⟨rfl,rfl,rfl,Int.le_refl 0,by show(0:Int)<c.H;omega,rfl,rfl⟩⟩
theorem BH{u:Ur}(I:Inv c th S)(aZ:R 47=0)(hs:S.cj=(1,0))(hr:0≤S.rc):bt c th X true true S 127 R [] nm pd (u.empty S) (Dh c):=by
 refine bt.behind (.rfl' S) (mE (cd 127) l12 (r:=128) rfl) ?_;unfold Ur.empty;obtain⟨k,S',R',cG,cE,I',K',hk,⟨cZ,e',hr',ha,hn⟩ | ⟨hr',ha,hn⟩⟩:=(vP (X:=X) (v:=true) (R:=R) (bs:= [128]) (nm:=nm) (pd:=pd) ⟨0,0,0⟩ I).cases
 ·exact Ti
 ·exact abz
theorem Ox{u:Ur}(I:Inv c th S)(ha:Dh c u S pc R bk nm pd):bt c th X false true S pc R bk nm pd (u.step c S) (Dh c):=by
 obtain⟨aZ,hs,hr,ha⟩:=ha;have hb:=I.bd;have hrb:=I.JU
 rcases ha with ⟨hu,rfl,rfl,gC,vI,g2,g0⟩ | ⟨hu,s,e,hsc,rfl,ha⟩ | ⟨hu,p,hf,rfl,ha⟩ | ⟨hu,rfl,rfl,g2,g0⟩
 ·obtain⟨xH,b0,b1⟩:=I.Br hr gC vI
  have w0:wrap64 (R 0)=S.rc*c.H+u.k:=wr g0 b0 b1;have I1:Inv c th (S.store (c.ad 9 (S.rc*c.H+u.k)) 0):=I.store (I.eX O_ O_ xH) (I.mZ O_ xH (.zero I))
  have e1:Rn c th (St false S X 123 R [] nm pd) (St true (S.store (c.ad 9 (S.rc*c.H+u.k)) 0) X 125 (cg R 0 (u64 (S.rc*c.H+(u.k+1)))) [] nm pd):=
   .trans (r2 I (cd 123) O_ w0 g2 xH) (TS (cd 124) g0 (by unfold u64;omega))
  have wk:wrap64 (cg R 0 (u64 (S.rc*c.H+(u.k+1))) 0)=S.rc*c.H+(u.k+1):=wu _ O_ O_;have em:(S.rc+1)*c.H=S.rc*c.H+c.H:=by rw [Int.add_mul,Int.one_mul]
  unfold Ur.step;rw [aY hu]
  show bt c th X false true S 123 R [] nm pd (if u.k+1<c.H then(false,{u with k:=u.k+1},S.store (c.ad 9 (S.rc*c.H+u.k)) 0) else
   match (Sc.new (S.store (c.ad 9 (S.rc*c.H+u.k)) 0).rc).ready c (S.store (c.ad 9 (S.rc*c.H+u.k)) 0) with
   | (false,s,S)=>(false,{u with k:=u.k+1,scan:=some s,az:=1},S)
   | (true,s,S)=>Ur.empty {u with k:=u.k+1,scan:=some s,az:=1} S) (Dh c)
  by_cases h:u.k+1<c.H
  ·rw [aY h]
   exact bt.go I1 (Kp.store S _ _).q (.trans e1<| .trans (adD (S:=S.store (c.ad 9 (S.rc*c.H+u.k)) 0) (cd 125) wk (by show _<(S.rc+1)*c.H;omega) l64) (dI (cd 122))) ⟨aZ,hs,hr,.inl ⟨hu,rfl,rfl,by show(0:Int)≤u.k+1;omega,h,g2,rfl⟩⟩
  ·rw [aK h]
   have e2:=e1.trans<| .trans (adE (S:=S.store (c.ad 9 (S.rc*c.H+u.k)) 0) (cd 125) wk (by show¬_<(S.rc+1)*c.H;omega)) (mE (cd 126) l41 (r:=127) rfl)
   have aaj:cg R 0 (u64 (S.rc*c.H+(u.k+1))) 47=0:=aZ;generalize S.store (c.ad 9 (S.rc*c.H+u.k)) 0=S1,cg R 0 (u64 (S.rc*c.H+(u.k+1)))=R1,(Kp.store S (c.ad 9 (S.rc*c.H+u.k)) 0)=K1 at*;obtain⟨k,S',R',cG,cE,I',K',hk,⟨cZ,e',hr',ha,hn⟩ | ⟨hr',ha,hn⟩⟩:=(uS (X:=X) (v:=true) (R:=R1) (bs:= [127]) (nm:=nm) (pd:=pd) I1 (by rw [K1.rc];exact hr)).cases
   ·rw [hr']
    exact bt.go I' (K1.q.trans K'.q) (e2.trans hn) ⟨(hk 47 O_).trans aaj,(K1.trans K').cj.trans hs,by rw [(K1.trans K').rc];exact hr,.inr (.inl ⟨rfl,k,e',rfl,rfl,ha⟩)⟩
   ·rw [hr']
    exact bt.behind (K1.q.trans K'.q) (e2.trans (hn [] 127 rfl)) (BH I' ((hk 47 O_).trans aaj) ((K1.trans K').cj.trans hs) (by rw [(K1.trans K').rc];exact hr))
 ·unfold Ur.step
  rw [aK O_,aY hu];simp only [hsc];obtain⟨k,S',R',cG,cE,I',K',hk,⟨cZ,e',hr',ha,hn⟩ | ⟨hr',ha,hn⟩⟩:=(uq (X:=X) (bs:= [127]) I aZ ha).cases
  ·rw [hr']
   exact bt.go I' K'.q hn ⟨(hk 47 O_).trans aZ,K'.cj.trans hs,by rw [K'.rc];exact hr,.inr (.inl ⟨hu,k,e',rfl,rfl,ha⟩)⟩
  ·rw [hr']
   exact bt.behind K'.q (hn [] 127 rfl) (BH I' ((hk 47 O_).trans aZ) (K'.cj.trans hs) (by rw [K'.rc];exact hr))
 ·unfold Ur.step
  rw [aK O_,aK O_,aY hu];simp only [hf];obtain⟨k,S',R',cG,cE,I',K',hk,⟨cZ,e',hr',ha,hn⟩ | ⟨hr',ha,hn⟩⟩:=(Gm (X:=X) (bs:= [128]) I aZ ha).cases
  ·exact Ti
  ·exact abz
 ·unfold Ur.step
  rw [aK O_,aK O_,aK O_];have xR:=I.IF hr hrb.2;have w0:wrap64 (R 0)=S.rc:=wr g0 O_ O_;have I1:Inv c th (S.store (c.ad 8 S.rc) 0):=I.store (I.eX O_ O_ xR) (I.TV (.inl rfl) xR 0);have I2:=I1.hold (r:=-1) ⟨O_,O_⟩;exact bt.done I2 ((Kp.store S _ _).q.trans (.hold _ _)) (.trans (r2 I (cd 130) O_ w0 g2 xR)<| .trans (yI (cd 131) rfl)<| .trans (r39 (x:=-1) I1 (cd 132) (wu (-1) D_ D_) ⟨O_,O_⟩) (mL I2 (cd 133) hs))
end
section
variable{K:Ky}{c:Cf}{S:PM}{ss:List Sv}{w0 w w':World}{F H:List En}{d b:Nat}{t:TypeId}{cs:List Value}
theorem Has.all(h:Has w0 w H)(hm:ob b t cs∈H):∀ i,w.cell? ⟨b,i,none⟩=cs[i]?:=fun i=>by
 simp only [World.cell?,h.uG hm];simp
theorem aq.all(h:aq K c S ss w0 w F)(hm:ob b t cs∈F):∀ i,w.cell? ⟨b,i,none⟩=cs[i]?:=by
 obtain⟨cv,lv,a,b,l,p,s,ah,q,h⟩:=h;exact h.all (bX (bX hm))
@[reducible] def eE(K:Ky)(c:Cf)(S:PM):List Value:= [some K.bA,c.T,c.R,c.H,c.Re,c.Ca,c.S,c.B,.slice (some ⟨K.gh,0,none⟩) S.held.length K.ch,.slice (some ⟨K.gi,0,none⟩) S.lists.length K.ci,c.ad 8 0,c.ad 9 0,c.ad 2 0,c.ad 11 0]
@[reducible] def arL(K:Ky)(c:Cf)(S:PM):List Value:= [c.T,c.R,c.H,c.Re,c.Ca,c.S,c.B,.slice (some ⟨K.gl,0,none⟩) S.slots.length K.cl,.slice (some ⟨K.ga,0,none⟩) S.aO.length K.ca]
theorem aq.arA(h:aq K c S ss w0 w F):∀ i,w.cell? ⟨K.bA,i,none⟩=(arL K c S)[i]?:=by
 obtain⟨cv,lv,a,b,l,p,s,ah,q,h⟩:=h;have e:E7 K c S S.aO.length∈gy K.toMk l p s ah S ss++(dS K c cv lv S++F):=by rw [←a];exact lO
 exact h.all e
@[go_sem] theorem OM{P:Program}(w:World)(a:Addr)(m:Mode)(fn:Fn)(first captured:Array Value):(store a (.func fn first captured) m).run P w=stored P w a (.func fn first captured) m:=run_store P w a _ m rfl
theorem mT{x y:En}(h:x∈F):x∈y::F:=iA _ h
@[reducible] def AF(b:Nat)(cs:List Value)(w:World):Prop:=(∀ i,w.cell? ⟨b,i,none⟩=cs[i]?)∧∀ i,w.frozen? ⟨b,i,none⟩=false
@[reducible] def mR{b:Nat}{cs:List Value}{w:World}(_:AF b cs w):World→Prop:=AF b cs
@[reducible] def Jy{b b2:Nat}{cs cs2:List Value}{w:World}(_:AF b cs w∧AF b2 cs2 w):World→Prop:=fun w=>AF b cs w∧AF b2 cs2 w
theorem aq.af(h:aq K c S ss w0 w F)(hm:ob b t cs∈F):AF b cs w:=⟨h.all hm,h.dW hm⟩
structure Gd(n:Nat)(c:Cf)(S:PM)(ss:List Sv):Prop where
 I:Inv c S.th S
 b:S.aG.length<n
 t:S.told.length=ss.length
 ca:S.cache.length<100000
 li:∀ r,(S.bQ r).length<100000
structure Gs(n:Nat)(c:Cf)(S:PM)(ss:List Sv):Prop where
 sl:(S.slots.length:Int)=c.S
 b:S.aG.length<n
 cur:S.cur<S.calls.length
 tt:S.th<S.told.length
 t:S.told.length=ss.length
namespace Gs
variable{n:Nat}{a o v:Int}
theorem load(g:Gs n c S ss):Gs n c (S.load a) ss:=⟨g.sl,g.b,g.cur,g.tt,g.t⟩
theorem store(g:Gs n c S ss):Gs n c (S.store a v) ss:=⟨g.sl,g.b,g.cur,g.tt,g.t⟩
theorem swap(g:Gs n c S ss):Gs n c (S.swap a o v) ss:=⟨g.sl,g.b,g.cur,g.tt,g.t⟩
theorem aB(g:Gs n c S ss):Gs n c (S.aB a) ss:=⟨g.sl,g.b,by have:=g.cur;simpa only [PM.aB,g8] using this,g.tt,g.t⟩
theorem tell(g:Gs n c S ss):Gs n c (S.tell a v) ss:=⟨g.sl,g.b,g.cur,by have:=g.tt;simpa only [PM.tell,cW] using this,by have:=g.t;simpa only [PM.tell,cW] using this⟩
theorem shift(g:Gs n c S ss):Gs (n+1) c (S.shift a v) ss:=⟨by have:=g.sl;simpa only [PM.shift,cW] using this,by have:=g.b;simp only [PM.shift,gP,ij,mB];omega,g.cur,g.tt,g.t⟩
end Gs
@[reducible] def Ax(S:PM):Prop:=S.used=false∧S.log.length<1000000
namespace Gd
variable{n:Nat}
theorem cur(g:Gd n c S ss):S.cur<S.calls.length:=by
 obtain⟨x,h,_⟩:=g.I.cl;exact(fO.1 h).1
theorem tt(g:Gd n c S ss):S.th<S.told.length:=by
 have:=g.I.ag;have:=g.I.tK;omega
theorem th(g:Gd n c S ss):S.th<S.aO.length:=by
 have:=g.I.ca;have:=g.I.tK;omega
theorem hl(g:Gd n c S ss):S.th<S.held.length:=by
 have:=g.I.he;have:=g.I.tK;omega
theorem Xm(g:Gd n c S ss):∀ s∈S.cache,0≤s∧s<S.slots.length:=by
 rw [g.I.sl];exact g.I.kJ
theorem s(g:Gd n c S ss):Gs n c S ss:=⟨g.I.sl,g.b,g.cur,g.tt,g.t⟩
theorem bb(g:Gd n c S ss)(h:n<1000000000000:=by omega):S.aG.length<1000000000000:=Nat.lt_trans g.b h
theorem load(g:Gd n c S ss)(a:Int):Gd n c (S.load a) ss:=⟨g.I.load a,g.b,g.t,g.ca,g.li⟩
theorem store(g:Gd n c S ss){a v:Int}(h:0≤a∧a<S.words.length)(hv:Pw c (kd c a) v):Gd n c (S.store a v) ss:=⟨g.I.store h hv,g.b,g.t,g.ca,g.li⟩
theorem swap(g:Gd n c S ss){a o v:Int}(h:0≤a∧a<S.words.length)(hv:S.w a=o→Pw c (kd c a) v):Gd n c (S.swap a o v) ss:=⟨g.I.swap h hv,g.b,g.t,g.ca,g.li⟩
theorem shift(g:Gd n c S ss)(s t:Int):Gd (n+1) c (S.shift s t) ss:=⟨g.I.shift s t,by have:=g.b;simp only [PM.shift,gP,ij,mB];omega,g.t,g.ca,g.li⟩
theorem aB(g:Gd n c S ss)(x:Int):Gd n c (S.aB x) ss:=⟨g.I.aB x,g.b,g.t,g.ca,g.li⟩
theorem tell(g:Gd n c S ss)(k v:Int):Gd n c (S.tell k v) ss:=⟨g.I.tell k v,g.b,by rw [←g.t];simp [PM.tell],g.ca,g.li⟩
theorem setCache(g:Gd n c S ss){l:List Int}(h:∀ x∈l,0≤x∧x<c.S)(hl:l.length<100000):Gd n c (S.setCache l) ss:=⟨g.I.setCache h,g.b,g.t,by rw [g.I.oz];exact hl,g.li⟩
theorem le{m:Nat}(g:Gd n c S ss)(h:n≤m):Gd m c S ss:=⟨g.I,JI g.b h,g.t,g.ca,g.li⟩
theorem yy(x:Tk):(x.step c S).2.2.th=S.th∧(x.ready S).2.2.th=S.th:=by
 unfold Tk.step Tk.ready
 constructor
 ·split
  ·split<;>rfl
  split
  ·rfl
  split<;>rfl
 ·split<;>rfl
theorem zP(g:Gd n c S ss)(x:Tk):Gd (n+1) c (x.ready S).2.2 ss:=by
 unfold Tk.ready
 split
 ·exact g.le (pU _)
 ·have:=g.ca
  exact(g.setCache (fun x hx=>g.I.kJ x ((List.dropLast_sublist _).subset hx)) (by rw [Dx];omega)).shift _ _
theorem DV(g:Gd n c S ss){x:Tk}(hx:RR c x):Gd (n+1) c (x.step c S).2.2 ss:=by
 unfold Tk.step
 split
 ·split<;>exact(g.load _).le (pU _)
 split
 ·exact(g.load _).le (pU _)
 ·rename_i h1 h2
  obtain h | ⟨h,_⟩ | ⟨h,hw,hn⟩:=hx
  ·exact absurd h h1
  ·exact absurd h h2
  have xF:=g.I.kC (r:=1) (.inl rfl);have aF:=g.I.mq (r:=1) O_ O_ xF;have hI:=g.I.bd
  have hp:∀ z,Pw c (kd c (c.ad 1 0)) (Go.Proofs.YtgbhnihkgmpocaaGreat.hd z (lk x.next)):=fun z=>by
   have:=eZ x.next;have:=hn.2.2;rw [aF.2.2.1];refine⟨?_,?_,fun _=>?_,fun h=>absurd rfl h.1,fun h=>O_,fun h=>O_⟩
   ·unfold Go.Proofs.YtgbhnihkgmpocaaGreat.hd;omega
   ·unfold Go.Proofs.YtgbhnihkgmpocaaGreat.hd;omega
   ·unfold Go.Proofs.YtgbhnihkgmpocaaGreat.hd lk;unfold lk at*;omega
  split
  ·exact(g.swap ⟨aF.1,aF.2.1⟩ fun _=>hp _).shift _ _
  ·exact(g.swap ⟨aF.1,aF.2.1⟩ fun _=>hp _).le (pU _)
end Gd
def Post{α:Type}(K:Ky)(c:Cf)(ss:List Sv)(w0:World)(F:List En)(O:α→List En→Prop)(r:Bool×α×PM):Ending→World→Prop:=fun e w'=>e=.returned r.1∧∃ L,(r.1=false→O r.2.1 L)∧aq K c r.2.2 ss w0 w' (L++F)
theorem cD(h:aq K c S ss w0 w F)(hd:dk K.toMk d∈F)(hu:Ax S){a o y:Int}{b:Bool}(h0:0≤a∧a<S.words.length)(hb:decide (S.w a=o)=b):
  cm 195 #[some d,a,.int .u64 o,.int .u64 y] w b fun w'=>aq K c (S.swap a o y) ss w0 w' F:=by
 subst hb;exact Ak h hd hu.1 a o y h0 hu.2
theorem eN{n:Nat}(h:aq K c S ss w0 w F)(hd:dk K.toMk d∈F)(g:Gs n c S ss){s t:Int}(hs:0≤s∧s<c.S)(ht:0≤t∧t≤5)(hn:n≤1000000000000):
  cm 196 #[some K.bA,some d,s,t] w (.tuple #[]) fun w'=>aq K c (S.shift s t) ss w0 w' F:=
 vu h hd s t ⟨hs.1,by rw [g.sl];exact hs.2⟩ ht.1 ht.2 (JI g.b hn)
theorem cX{n:Nat}(h:aq K c S ss w0 w F)(hd:dk K.toMk d∈F)(g:Gs n c S ss){x:Int}:
  cm 228 #[some d,x] w (.tuple #[]) fun w'=>aq K c (S.aB x) ss w0 w' F:=PC h hd x g.cur
theorem eV{n:Nat}(h:aq K c S ss w0 w F)(hd:dk K.toMk d∈F)(g:Gs n c S ss){k x:Int}:
  cm 188 #[some d,.agg #[k,x]] w (.tuple #[]) fun w'=>aq K c (S.tell k x) ss w0 w' F:=vz h hd k x g.tt g.t
theorem bO(h:aq K c S ss w0 w F)(hd:dk K.toMk d∈F)(ax:Ax S){a:Int}(h0:0≤a∧a<S.words.length):
  cm 190 #[some d,a] w (.int .u64 (S.w a)) fun w'=>aq K c (S.load a) ss w0 w' F:=uy h hd ax.1 a h0 ax.2
theorem cx(h:aq K c S ss w0 w F)(hd:dk K.toMk d∈F)(ax:Ax S){a y:Int}(h0:0≤a∧a<S.words.length):
  cm 209 #[some d,a,.int .u64 y] w (.tuple #[]) fun w'=>aq K c (S.store a y) ss w0 w' F:=Co h hd ax.1 a y h0 ax.2
theorem Xz:(0:Int)≤3∧(3:Int)≤5:=D_
theorem Oz:(0:Int)≤4∧(4:Int)≤5:=D_
theorem tw5:(0:Int)≤5∧(5:Int)≤5:=D_
theorem uP{x:Tk}{pc:Nat}{R:Nat→Int}{e nm pd:List Int}(h:sS c x S pc R e nm pd):RR c x:=by
 obtain⟨_,_,⟨h,_⟩ | ⟨h,_,hw,_⟩ | ⟨h,_,hw,hn,_⟩⟩:=h
 ·exact .inl h
 ·exact .inr (.inl ⟨h,hw⟩)
 ·exact .inr (.inr ⟨h,hw,hn⟩)
theorem Gy(h:aq K c S ss w0 w F):cm 65 #[some K.bA] w (fI c) fun w'=>Ext w w':=Te
theorem zA(ok:bY c.T c.R c.H c.Re c.Ca c.S c.B){n:Nat}{i:Int}(hn:1≤n∧n≤13)(h9:n≠9)(hx:Ix c n i)(w:World):
  cm 66 #[fI c,.agg #[n,i,.int .i64 0]] w (.tuple #[c.ad n i,.int .i64 0]) fun w'=>Ext w w':=by
 have ha:=fY c.T c.R c.H c.Re c.Ca c.S c.B ok (n - 1) n i O_ O_ hx.1 hx.2 O_ w
 rwa [show b7 c.R c.H c.S c.B (n - 1)+i=c.ad n i from rfl] at ha
end
end Go.Proofs.YtgbhnihkgmpocaaGreat
