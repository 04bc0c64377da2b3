/- Part 7 of 16 of the proof of PoolPlays. No condition. -/
import Derived.Test.YtgbhnihkgmpocaaGreatM05
namespace Go.Proofs.YtgbhnihkgmpocaaGreat
set_option maxRecDepth 100000
set_option maxHeartbeats 4000000
open Tryz
variable{P:Prop}
theorem abU(x:P:=by
 go_region_held3 (fun w'=>w'.cell? ⟨k,0,none⟩=some (some K.bH)∧w'.cell? ⟨k,7,none⟩=some (.int .i64 cu)∧w'.cell? ⟨k,8,none⟩=some (.int .u64 xx)) (first | exact⟨bB.1 0,bB.1 7,bB.1 8⟩ | exact⟨dN.1 0,dN.1 7,dN.1 8⟩ | exact⟨gM.1 0,gM.1 7,gM.1 8⟩ | exact⟨jA.1 0,jA.1 7,jA.1 8⟩ | exact⟨xb.1 0,xb.1 7,xb.1 8⟩ | exact⟨mM.1 0,mM.1 7,mM.1 8⟩) (first | (have C:=fZ 13 m1.drew hI.ok O_ O_ xi rfl;(with_reducible refine C.mono ?_);clear C;rintro e jP ⟨rfl,em2⟩;have m2:=m1.drew.next em2;have dN:=m2.af aj;have n1:=m2.put 5 (.int .i64 (c.ad 13 cu));have gM:=n1.af aj;have n2:=n1.put 6 (.int .u64 xx);have jA:=n2.af aj;have n3:=m2.put 6 (.int .u64 xx);have xb:=n3.af aj;have n4:=n3.put 5 (.int .i64 (c.ad 13 cu));have mM:=n4.af aj))
 all_goals
  go_wp2_with fail
  go_meet
  case rel=>first | exact aJ n2 | exact aJ n4):P:=x
theorem abP(x:P:=by
 have p0:=h.af aj;go_enter func282,ntmps282;go_wp2_with fail
 go_region_held3 (mR p0) (first | exact p0 | exact bB | exact dN) (first | ((with_reducible refine un (hA _ h.drew) fun dx gx=>?_);have m1:=h.drew.next gx;have bB:=m1.af aj) | ((with_reducible refine un (jh _ _ hwk) fun wz hw=>?_);obtain rfl:=hw.symm) | ((with_reducible refine un (cx m1 (mT hd) ax a) fun jP m2=>?_);have dN:=m2.af aj))
 have n3:=m2.put 7 (.int .i64 (lk xx));have xb:=n3.af aj;go_wp2_with fail;refine un (gH _ _ hwk) fun wz hw=>?_
 obtain rfl:=hw.symm;go_wp2_with fail;go_ret;exact⟨rfl,[_],.inl ⟨S_,_,rfl⟩,n3.put 4 _⟩):P:=x
theorem abL(x:P:=by
 go_region_held3 (fun w'=>w'.cell? ⟨k,2,none⟩=some (.int .i64 rt)) (first | exact p0.1 2 | exact bB.1 2 | exact gM.1 2 | exact jA.1 2 | exact xb.1 2 | exact mM.1 2) (first | ((with_reducible refine un (bO h.drew (mT hd) ax a) fun dx m1=>?_);have bB:=m1.af aj;have n1:=m1.put 5 rt;have gM:=n1.af aj;have n2:=n1.put 6 (.int .u64 (S.w rt));have jA:=n2.af aj;have n3:=m1.put 6 (.int .u64 (S.w rt));have xb:=n3.af aj;have n4:=n3.put 5 rt;have mM:=n4.af aj))
 all_goals
  go_wp2_with fail
  go_meet
  case rel=>first | exact aJ n2 | exact aJ n4):P:=x
theorem abG(x:P:=by
 have xi:=g.I.kC (r:=5) S_;have a:=g.I.eX (r:=5) O_ O_ xi;have p0:=h.af aj;go_enter func262,ntmps262;go_wp2_with fail
 go_region_held3 (mR p0) (first | exact p0 | exact bB) (first | ((with_reducible refine un (cD h.drew (mT (mT hd)) ax a rfl) fun dx m1=>?_);have bB:=m1.af aj))
 exact NC):P:=x
theorem abF(x:P:=by
 go_wp2_with fail
 go_region_held3 (mR p0) (first | exact p0 | exact bB | exact dN) (first | ((with_reducible refine un (hA _ h.drew) fun dx gx=>?_);have m1:=h.drew.next gx;have bB:=m1.af aj) | ((with_reducible refine un (cx m1 (mT hd) ax a) fun jP m2=>?_);have dN:=m2.af aj))
 exact NH):P:=x
theorem Nk(x:P:=by
 go_wp2_with fail;go_ret;exact⟨rfl,[_],.inl ⟨S_,_,rfl⟩,m9⟩):P:=x
theorem QE(x:P:=by
 go_wp2_with fail;go_ret;exact⟨rfl,[_],.inl ⟨S_,_,rfl⟩,m1.put 4 _⟩):P:=x
theorem abh(x:P:=by
 rw [iN] at hh
 rcases hh with ⟨cZ,e',hr',ha,hn⟩ | ⟨hr',ha,hn⟩
 ·exact .inl ⟨cZ,e',hr',ha,e3.trans hn⟩
 ·exact .inr ⟨hr',ha,fun b0 q hq=>e3.trans (hn b0 q hq)⟩):P:=x
theorem abc(x:P:=by
 rintro e w9 ⟨rfl,L,o,m9⟩;go_wp2_with fail;go_ret;exact⟨rfl,_::L,.inr ⟨rfl,_,_,_,rfl,(by first | exact o | exact o rfl | exact o trivial),rfl⟩,m9.perm dV⟩):P:=x
theorem NM(x:P:=by
 rw [hz] at this eO;simp only at eO;subst eO;exact this):P:=x
theorem Ta(x:P:=by
 rintro e w9 ⟨rfl,L,o,m9⟩;go_wp2_with fail;refine(za _ _ m9.kI).mono ?_;rintro e wa ⟨rfl,La,oa,ma⟩;go_wp2_with fail;go_ret;exact⟨rfl,La,oa,ma⟩):P:=x
theorem NH(x:P:=by
 go_wp2_with fail;go_ret;exact⟨rfl,[_],.inl ⟨S_,_,rfl⟩,m2.put 4 _⟩):P:=x
theorem NF(x:P:=by
 go_wp2_with fail;go_ret;exact⟨rfl,[_],.inl ⟨S_,_,rfl⟩,n2.put 4 _⟩):P:=x
theorem NC(x:P:=by
 go_wp2_with fail;go_ret;exact⟨rfl,[_,_],fun _=>⟨_,rfl⟩,m1.put 7 _⟩):P:=x
theorem SB(x:P:=by
 rcases hz:(Rt.new cu).ready c ((S.swap pa wo (bare xx)).shift cu 4) with ⟨b,r1,S1⟩
 exact NM):P:=x
theorem Sj(x:P:=by
 have h1:=eZ xx;have e:lk (bare xx)=lk xx:=Cq h1 hw.2.2;rw [e];exact⟨by unfold bare pk;omega,by unfold bare pk;omega,hw.2.2⟩):P:=x
theorem R6(x:P:=by
 go_wp2_with fail;go_ret;exact⟨rfl,[_,_],fun _=>⟨_,rfl⟩,n2.put 7 _⟩):P:=x
theorem R5(x:P:=by
 go_wp2_with fail;go_ret;exact⟨rfl,[_,_],fun _=>⟨_,rfl⟩,n1.put 7 _⟩):P:=x
theorem R4(x:P:=by
 go_wp2_with fail;go_ret;exact⟨rfl,[_,_],fun _=>⟨_,rfl⟩,m2.put 7 _⟩):P:=x
open Go.RowKit
section
variable{K:Ky}{c:Cf}{S:PM}{ss:List Sv}{w0 w w':World}{F H:List En}{d b n k kt th:Nat}{cs:List Value}{tv rv:Value}
theorem sR(I:Inv c S.th S){r:Nat}(h1:1≤r)(h2:r≤13){i:Int}(h:Ix c r i):IntKind.i64.wrap (c.ad r 0+i)=c.ad r i:=by
 rw [show c.ad r 0+i=c.ad r i by unfold Cf.ad;omega];have:=I.eX h1 h2 h;have:=(lK I).2.2.2.2.2.2;exact GG
theorem fj(x:Int)(w:World)(h:0≤x∧x<8589934592∧lk x<1024):cm 264 #[.int .u64 x] w (.int .i64 (lk x)) fun w'=>w'=w:=by
 go_enter func264,ntmps264;exact QI
theorem OD(I:Inv c S.th S):(Tk.new.ready S).1=true→(Tk.new.ready S).2.1.res<c.S:=by
 unfold Tk.ready
 split
 ·intro q;cases q
 ·rename_i s hs
  intro _;exact(I.kJ s (JJ hs)).2
@[reducible] def wZ(K:Ky)(c:Cf)(k:Nat)(th:Int)(tv:Value)(p:gO):En:=ob k 208 [some K.bH,c.ad 4 0,c.ad 5 0,c.ad 11 0,c.ad 13 0,th,p.val,p.pc,tv,.int .u64 p.own,.int .u64 p.t,.int .u64 p.n,p.hz]
def Ba(K:Ky)(c:Cf)(th k:Nat)(p:gO)(L:List En):Prop:=∃ kt,L= [wZ K c k th (some kt) p,gr K kt th p.take]
variable{val own t nx hz:Int}{take:Tk}
theorem MN(h:aq K c S ss w0 w (wZ K c k S.th (some kt) ⟨val,0,take,own,t,nx,hz⟩::gr K kt S.th take::F))(hd:dk K.toMk d∈F)(g:Gs n c S ss)(hS:c.S≤1024)(hx:take.res<c.S):
  b6 263 k d w (Post K c ss w0 F (Ba K c S.th k) (gO.jJ ⟨val,0,take,own,t,nx,hz⟩ S)):=by
 have p0:=h.af aj;have n1:=h.put 9 (.int .u64 (pk take.res));have gM:=n1.af aj;have e:gO.jJ ⟨val,0,take,own,t,nx,hz⟩ S=if take.res<0 then(true,⟨val,0,take,own,t,nx,hz⟩,(S.aB S.now).tell 4 0) else(false,⟨val,1,take,pk take.res,t,nx,hz⟩,S):=rfl;rw [e];clear e
 by_cases hr:take.res<0
 ·rw [aY hr]
  have dr:=cM hr;go_enter func263,ntmps263;exact abJ
 ·rw [aK hr]
  have dr:=dy hr;have hk:=fun W=>tA take.res W O_ O_
  go_enter func263,ntmps263;go_wp2_with fail;refine un (cz h bp) fun wz hw=>?_
  obtain rfl:=hw.symm;go_wp2_with fail;refine un (cz h bp) fun wz hw=>?_
  obtain rfl:=hw.symm;go_wp2_with fail;refine un (hk _) fun wz hw=>?_
  obtain rfl:=hw.symm;exact R5
theorem afZ(h:aq K c S ss w0 w (wZ K c k S.th (some kt) ⟨val,0,take,own,t,nx,hz⟩::gr K kt S.th take::F))(hd:dk K.toMk d∈F)(g:Gd n c S ss)(ax:Ax S)(hx:RR c take)(hn:n<800000000000)(Au:(take.step c S).1=true→(take.step c S).2.1.res<c.S):
  b6 262 k d w (Post K c ss w0 F (Ba K c S.th k) (gO.step c ⟨val,0,take,own,t,nx,hz⟩ S)):=by
 have hm:=iI h.swap (mT hd) g.I ax.1 ax.2 g.bb hx;have g1:=g.DV hx;have xu:=(Gd.yy (c:=c) (S:=S) take).1;have hS:=g.I.bd.2.1;have p0:=h.af aj;have e:gO.step c ⟨val,0,take,own,t,nx,hz⟩ S=gO.behind ⟨val,0,take,own,t,nx,hz⟩ (take.step c S):=rfl;rw [e];clear e;generalize take.step c S=r at hm g1 xu Au ⊢;obtain⟨b,x,S1⟩:=r;simp only at hm g1 xu Au
 cases b
 ·simp only [gO.behind]
  go_enter func262,ntmps262;go_wp2_with fail;refine un (hm) fun dx m1=>?_
  have bB:=m1.af aj;go_wp2;go_ret;exact⟨rfl,[_,_],fun _=>⟨_,rfl⟩,m1.swap⟩
 ·simp only [gO.behind]
  have tC:=fun(W:World) (h:aq K c S1 ss w0 W (wZ K c k S1.th (some kt) ⟨val,0,x,own,t,nx,hz⟩::gr K kt S1.th x::F))=>MN h hd g1.s hS (Au rfl)
  rw [xu] at tC;clear Au;generalize gO.jJ ⟨val,0,x,own,t,nx,hz⟩ S1=r3 at tC ⊢;go_enter func262,ntmps262;exact SU
theorem afY(h:aq K c S ss w0 w (wZ K c k S.th (some kt) ⟨val,1,take,own,t,nx,hz⟩::gr K kt S.th take::F))(hd:dk K.toMk d∈F)(g:Gd n c S ss)(ax:Ax S)(hx:0≤take.res∧take.res<c.S):
  b6 262 k d w (Post K c ss w0 F (Ba K c S.th k) (false,⟨val,2,take,own,t,nx,hz⟩,S.store (c.ad 11 take.res) (u64 val))):=by
 have xi:=g.I.iO (r:=11) S_ hx.1 hx.2;have a:=g.I.eX (r:=11) O_ O_ xi;have ha:=sR g.I (r:=11) O_ O_ xi;have p0:=h.af aj;go_enter func262,ntmps262;go_wp2
 go_region_held3 (mR p0) (first | exact p0 | exact dN) (first | ((with_reducible refine un (cz h.drew bp) fun wz hw=>?_);obtain rfl:=hw.symm) | ((with_reducible refine un (kA _ _) fun wz hw=>?_);obtain rfl:=hw.symm) | ((with_reducible refine un (cx h.drew (mT (mT hd)) ax a) fun jP m2=>?_);have dN:=m2.af aj))
 exact R4
theorem afX(h:aq K c S ss w0 w (wZ K c k S.th (some kt) ⟨val,2,take,own,t,nx,hz⟩::gr K kt S.th take::F))(hd:dk K.toMk d∈F)(g:Gd n c S ss)(ax:Ax S)(hx:0≤take.res∧take.res<c.S):
  b6 262 k d w (Post K c ss w0 F (Ba K c S.th k) (false,⟨val,3,take,own,t,nx,hz⟩,S.store (c.ad 13 take.res) 0)):=by
 have xi:=g.I.iO (r:=13) S_ hx.1 hx.2;have a:=g.I.eX (r:=13) O_ O_ xi;have ha:=sR g.I (r:=13) O_ O_ xi;have p0:=h.af aj;go_enter func262,ntmps262;go_wp2
 go_region_held3 (mR p0) (first | exact p0 | exact dN) (first | ((with_reducible refine un (cz h.drew bp) fun wz hw=>?_);obtain rfl:=hw.symm) | ((with_reducible refine un (cx h.drew (mT (mT hd)) ax a) fun jP m2=>?_);have dN:=m2.af aj))
 exact R4
theorem afW(h:aq K c S ss w0 w (wZ K c k S.th (some kt) ⟨val,3,take,own,t,nx,hz⟩::gr K kt S.th take::F))(hd:dk K.toMk d∈F)(g:Gd n c S ss)(ax:Ax S):
  b6 262 k d w (Post K c ss w0 F (Ba K c S.th k) (false,⟨val,4,take,own,(S.w (c.ad 5 0)),nx,hz⟩,S.load (c.ad 5 0))):=by
 have xi:=g.I.kC (r:=5) S_;have a:=g.I.eX (r:=5) O_ O_ xi;have p0:=h.af aj;go_enter func262,ntmps262;go_wp2_with fail;refine un (bO h (mT (mT hd)) ax a) fun dx m1=>?_
 have bB:=m1.af aj;have n1:=m1.put 10 (.int .u64 (S.w (c.ad 5 0)));have gM:=n1.af aj;exact R5
theorem afV(h:aq K c S ss w0 w (wZ K c k S.th (some kt) ⟨val,4,take,own,t,nx,hz⟩::gr K kt S.th take::F))(hd:dk K.toMk d∈F)(_:Gd n c S ss)(ax:Ax S)(ha:0≤hz∧hz<S.words.length):
  b6 262 k d w (Post K c ss w0 F (Ba K c S.th k) (false,⟨val,5,take,own,t,nx,hz⟩,S.store hz t)):=by
 have p0:=h.af aj;go_enter func262,ntmps262;go_wp2
 go_region_held3 (mR p0) (first | exact p0 | exact bB) (first | ((with_reducible refine un (cx h.drew (mT (mT hd)) ax ha) fun dx m1=>?_);have bB:=m1.af aj))
 exact NC
theorem aaJ(h:aq K c S ss w0 w (wZ K c k S.th (some kt) ⟨val,5,take,own,t,nx,hz⟩::gr K kt S.th take::F))(hd:dk K.toMk d∈F)(g:Gd n c S ss)(ax:Ax S)(hq:(S.w (c.ad 5 0))=t):
  b6 262 k d w (Post K c ss w0 F (Ba K c S.th k) (false,⟨val,6,take,own,t,nx,hz⟩,S.load (c.ad 5 0))):=by
 have xi:=g.I.kC (r:=5) S_;have a:=g.I.eX (r:=5) O_ O_ xi;have p0:=h.af aj;have hb:((S.w (c.ad 5 0)) !=t)=false:=by simp [hq]
 clear hq;go_enter func262,ntmps262;go_wp2_with fail;refine un (bO h (mT (mT hd)) ax a) fun dx m1=>?_
 have bB:=m1.af aj;have n1:=m1.put 7 (.int .i64 6);have gM:=n1.af aj;go_wp2;go_ret;exact⟨rfl,[_,_],fun _=>⟨_,rfl⟩,n1⟩
theorem aaK(h:aq K c S ss w0 w (wZ K c k S.th (some kt) ⟨val,5,take,own,t,nx,hz⟩::gr K kt S.th take::F))(hd:dk K.toMk d∈F)(g:Gd n c S ss)(ax:Ax S)(hq:(S.w (c.ad 5 0))≠t):
  b6 262 k d w (Post K c ss w0 F (Ba K c S.th k) (false,⟨val,4,take,own,(S.w (c.ad 5 0)),nx,hz⟩,S.load (c.ad 5 0))):=by
 have xi:=g.I.kC (r:=5) S_;have a:=g.I.eX (r:=5) O_ O_ xi;have p0:=h.af aj;have hb:((S.w (c.ad 5 0)) !=t)=true:=by simp [hq]
 clear hq;go_enter func262,ntmps262;go_wp2_with fail;refine un (bO h (mT (mT hd)) ax a) fun dx m1=>?_
 have bB:=m1.af aj;have n1:=m1.put 7 (.int .i64 6);have gM:=n1.af aj;have n2:=n1.put 10 (.int .u64 (S.w (c.ad 5 0)));have jA:=n2.af aj;exact R6
theorem aaH(h:aq K c S ss w0 w (wZ K c k S.th (some kt) ⟨val,6,take,own,t,nx,hz⟩::gr K kt S.th take::F))(hd:dk K.toMk d∈F)(g:Gd n c S ss)(ax:Ax S)(hw:Lw c t)(h0:0≤lk t)(hq:0≤lk (S.w (c.ad 13 (lk t)))):
  b6 262 k d w (Post K c ss w0 F (Ba K c S.th k) (false,⟨val,10,take,own,t,(S.w (c.ad 13 (lk t))),hz⟩,S.load (c.ad 13 (lk t)))):=by
 have hs:0≤lk t∧lk t<c.S:=⟨h0,hw.2.2⟩;have hwk:=dQ g.I hw;have xi:=g.I.iO (r:=13) S_ hs.1 hs.2;have a:=g.I.eX (r:=13) O_ O_ xi;have ha:=sR g.I (r:=13) O_ O_ xi;obtain⟨_,_,_,pw⟩:=g.I.mq (r:=13) O_ O_ xi;have uB:=dQ g.I ⟨pw.lo,pw.lw D_⟩;clear pw;have p0:=h.af aj;have dq:=cM hq;go_enter func262,ntmps262;go_wp2
 go_region_held3 (fun w'=>w'.cell? ⟨k,4,none⟩=some (.int .i64 (c.ad 13 0))∧w'.cell? ⟨k,10,none⟩=some (.int .u64 t)) (first | exact⟨p0.1 4,p0.1 10⟩ | exact⟨bB.1 4,bB.1 10⟩ | exact⟨gM.1 4,gM.1 10⟩) (first | ((with_reducible refine un (fj _ _ hwk) fun wz hw=>?_);obtain rfl:=hw.symm) | ((with_reducible refine un (bO h.drew (mT (mT hd)) ax a) fun dx m1=>?_);have bB:=m1.af aj;have n1:=m1.put 11 (.int .u64 (S.w (c.ad 13 (lk t))));have gM:=n1.af aj))
 have n2:=n1.put 7 (.int .i64 7);have jA:=n2.af aj;go_wp2_with fail;refine un (fj _ _ uB) fun wz hw=>?_
 obtain rfl:=hw.symm;exact R6
theorem aaI(h:aq K c S ss w0 w (wZ K c k S.th (some kt) ⟨val,6,take,own,t,nx,hz⟩::gr K kt S.th take::F))(hd:dk K.toMk d∈F)(g:Gd n c S ss)(ax:Ax S)(hw:Lw c t)(h0:0≤lk t)(hq:¬0≤lk (S.w (c.ad 13 (lk t)))):
  b6 262 k d w (Post K c ss w0 F (Ba K c S.th k) (false,⟨val,7,take,own,t,(S.w (c.ad 13 (lk t))),hz⟩,S.load (c.ad 13 (lk t)))):=by
 have hs:0≤lk t∧lk t<c.S:=⟨h0,hw.2.2⟩;have hwk:=dQ g.I hw;have xi:=g.I.iO (r:=13) S_ hs.1 hs.2;have a:=g.I.eX (r:=13) O_ O_ xi;have ha:=sR g.I (r:=13) O_ O_ xi;obtain⟨_,_,_,pw⟩:=g.I.mq (r:=13) O_ O_ xi;have uB:=dQ g.I ⟨pw.lo,pw.lw D_⟩;clear pw;have p0:=h.af aj;have dq:=dy hq;go_enter func262,ntmps262;go_wp2
 go_region_held3 (fun w'=>w'.cell? ⟨k,4,none⟩=some (.int .i64 (c.ad 13 0))∧w'.cell? ⟨k,10,none⟩=some (.int .u64 t)) (first | exact⟨p0.1 4,p0.1 10⟩ | exact⟨bB.1 4,bB.1 10⟩ | exact⟨gM.1 4,gM.1 10⟩) (first | ((with_reducible refine un (fj _ _ hwk) fun wz hw=>?_);obtain rfl:=hw.symm) | ((with_reducible refine un (bO h.drew (mT (mT hd)) ax a) fun dx m1=>?_);have bB:=m1.af aj;have n1:=m1.put 11 (.int .u64 (S.w (c.ad 13 (lk t))));have gM:=n1.af aj))
 have n2:=n1.put 7 (.int .i64 7);have jA:=n2.af aj;go_wp2_with fail;refine un (fj _ _ uB) fun wz hw=>?_
 obtain rfl:=hw.symm;go_wp2;go_ret;exact⟨rfl,[_,_],fun _=>⟨_,rfl⟩,n2⟩
theorem aaG(h:aq K c S ss w0 w (wZ K c k S.th (some kt) ⟨val,7,take,own,t,nx,hz⟩::gr K kt S.th take::F))(hd:dk K.toMk d∈F)(g:Gd n c S ss)(ax:Ax S)(hw:Lw c t)(h0:0≤lk t)(hb:decide (S.w (c.ad 13 (lk t))=0)=false):
  b6 262 k d w (Post K c ss w0 F (Ba K c S.th k) (false,⟨val,3,take,own,t,nx,hz⟩,S.swap (c.ad 13 (lk t)) 0 own)):=by
 have hs:0≤lk t∧lk t<c.S:=⟨h0,hw.2.2⟩;have hwk:=dQ g.I hw;have xi:=g.I.iO (r:=13) S_ hs.1 hs.2;have a:=g.I.eX (r:=13) O_ O_ xi;have ha:=sR g.I (r:=13) O_ O_ xi;have p0:=h.af aj;go_enter func262,ntmps262;go_wp2
 go_region_held3 (mR p0) (first | exact p0 | exact bB) (first | ((with_reducible refine un (fj _ _ hwk) fun wz hw=>?_);obtain rfl:=hw.symm) | ((with_reducible refine un (cD h.drew (mT (mT hd)) ax a hb) fun dx m1=>?_);have bB:=m1.af aj))
 exact NC
theorem aaF(h:aq K c S ss w0 w (wZ K c k S.th (some kt) ⟨val,7,take,own,t,nx,hz⟩::gr K kt S.th take::F))(hd:dk K.toMk d∈F)(g:Gd n c S ss)(ax:Ax S)(hw:Lw c t)(h0:0≤lk t)(hx:0≤take.res∧take.res<c.S)(hn:n<800000000000)(hb:decide (S.w (c.ad 13 (lk t))=0)=true):
  b6 262 k d w (Post K c ss w0 F (Ba K c S.th k) (false,⟨val,8,take,own,t,nx,hz⟩,((S.swap (c.ad 13 (lk t)) 0 own).aB S.now).shift take.res 3)):=by
 have hs:0≤lk t∧lk t<c.S:=⟨h0,hw.2.2⟩;have hwk:=dQ g.I hw;have xi:=g.I.iO (r:=13) S_ hs.1 hs.2;have a:=g.I.eX (r:=13) O_ O_ xi;have ha:=sR g.I (r:=13) O_ O_ xi;have p0:=h.af aj;have hN:n≤1000000000000:=O_
 go_enter func262,ntmps262;go_wp2
 go_region_held3 (mR p0) (first | exact p0 | exact bB) (first | ((with_reducible refine un (fj _ _ hwk) fun wz hw=>?_);obtain rfl:=hw.symm) | ((with_reducible refine un (cD h.drew (mT (mT hd)) ax a hb) fun dx m1=>?_);have bB:=m1.af aj))
 go_wp2_with fail;refine un (gK m1 (mT (mT hd))) fun wz hw=>?_
 obtain rfl:=hw.symm;go_wp2_with fail;refine un (cX m1 (mT (mT hd)) g.s.swap) fun jP m2=>?_
 have dN:=m2.af aj;go_wp2
 go_region_held3 (AF k [Value.pointer (some ⟨K.bH,0,none⟩),c.ad 4 0,c.ad 5 0,c.ad 11 0,c.ad 13 0,S.th,val,.int .i64 7,some kt,.int .u64 own,.int .u64 t,.int .u64 nx,hz]) (first | exact dN | exact iq) (first | ((with_reducible refine un (cL m2.drew) fun wz hw=>?_);obtain rfl:=hw.symm) | ((with_reducible refine un (cz m2.drew bp) fun wz hw=>?_);obtain rfl:=hw.symm) | ((with_reducible refine un (eN m2.drew (mT (mT hd)) g.s.swap.aB hx Xz hN) fun zK m3=>?_);have iq:=m3.af aj))
 go_wp2;go_ret;exact⟨rfl,[_,_],fun _=>⟨_,rfl⟩,m3.put 7 _⟩
theorem afU(h:aq K c S ss w0 w (wZ K c k S.th (some kt) ⟨val,8,take,own,t,nx,hz⟩::gr K kt S.th take::F))(hd:dk K.toMk d∈F)(g:Gd n c S ss)(ax:Ax S):
  b6 262 k d w (Post K c ss w0 F (Ba K c S.th k) (false,⟨val,9,take,own,t,nx,hz⟩,S.swap (c.ad 5 0) t own)):=abG
theorem aaL(h:aq K c S ss w0 w (wZ K c k S.th (some kt) ⟨val,10,take,own,t,nx,hz⟩::gr K kt S.th take::F))(hd:dk K.toMk d∈F)(g:Gd n c S ss)(ax:Ax S):
  b6 262 k d w (Post K c ss w0 F (Ba K c S.th k) (false,⟨val,3,take,own,t,nx,hz⟩,S.swap (c.ad 5 0) t nx)):=abG
theorem afT(h:aq K c S ss w0 w (wZ K c k S.th (some kt) ⟨val,9,take,own,t,nx,hz⟩::gr K kt S.th take::F))(hd:dk K.toMk d∈F)(g:Gd n c S ss)(ax:Ax S)(ha:0≤hz∧hz<S.words.length):
  b6 262 k d w (Post K c ss w0 F (Ba K c S.th k) (true,⟨val,9,take,own,t,nx,hz⟩,(S.store hz 0).tell 1 0)):=by
 have p0:=h.af aj;go_enter func262,ntmps262;go_wp2_with fail;refine un (cx h (mT (mT hd)) ax ha) fun dx m1=>?_
 have bB:=m1.af aj;go_wp2_with fail;refine un (eV m1 (mT (mT hd)) g.s.store) fun jP m2=>?_
 have dN:=m2.af aj;go_wp2;go_ret;exact⟨rfl,[_,_],fun q=>(by cases q),m2⟩
theorem VN{p:gO}{q:Nat}{R:Nat→Int}{bk nm pd:List Int}{O:List En}(h:aq K c S ss w0 w (O++F))(o:Ba K c S.th k p O)(hd:dk K.toMk d∈F)(g:Gd n c S ss)(ax:Ax S)(hn:n<800000000000)(ha:wR c p S q R bk nm pd):
  b6 262 k d w (Post K c ss w0 F (Ba K c S.th k) (p.step c S)):=by
 obtain⟨val,pc,take,own,t,nx,hz⟩:=p;obtain⟨_,hr,_,hhz,ha⟩:=ha;simp only at ha hhz;obtain⟨kt,rfl⟩:=o;have hH:=g.I.bd.2.2.2.2.1;have hA:0≤hz∧hz<S.words.length:=by rw [hhz];exact qU g hr O_ O_
 rcases ha with ⟨hs,_,hx⟩ | ⟨_,hx,_,_,_,_,⟨hs,_⟩ | ⟨hs,_⟩ | ⟨hs,_⟩ | ⟨hs,_⟩ | ⟨_,hw,⟨hs,_⟩ | ⟨hs,_⟩ | ⟨hs,_⟩ | ⟨_,⟨hs,_⟩ | ⟨hs,_⟩ | ⟨hs,_⟩⟩⟩⟩<;>subst hs
 ·exact afZ h hd g ax (uP hx) hn (Ko g.I hx)
 ·exact afY h hd g ax hx
 ·exact afX h hd g ax hx
 ·exact afW h hd g ax
 ·exact afT h hd g ax hA
 ·exact afV h hd g ax hA
 ·have e:gO.step c ⟨val,5,take,own,t,nx,hz⟩ S=if S.w (c.ad 5 0)=t then(false,⟨val,6,take,own,t,nx,hz⟩,S.load (c.ad 5 0)) else(false,⟨val,4,take,own,S.w (c.ad 5 0),nx,hz⟩,S.load (c.ad 5 0)):=rfl
  rw [e]
  by_cases hq:S.w (c.ad 5 0)=t
  ·rw [aY hq];exact aaJ h hd g ax hq
  ·rw [aK hq];exact aaK h hd g ax hq
 ·exact afU h hd g ax
 ·have e:gO.step c ⟨val,6,take,own,t,nx,hz⟩ S=(false,⟨val,if 0≤lk (S.w (c.ad 13 (lk t))) then 10 else 7,take,own,t,S.w (c.ad 13 (lk t)),hz⟩,S.load (c.ad 13 (lk t))):=rfl
  rw [e]
  by_cases hq:0≤lk (S.w (c.ad 13 (lk t)))
  ·rw [aY hq];exact aaH h hd g ax hw.1 hw.2 hq
  ·rw [aK hq];exact aaI h hd g ax hw.1 hw.2 hq
 ·have e:gO.step c ⟨val,7,take,own,t,nx,hz⟩ S=if S.w (c.ad 13 (lk t))=0 then(false,⟨val,8,take,own,t,nx,hz⟩,((S.swap (c.ad 13 (lk t)) 0 own).aB S.now).shift take.res 3) else(false,⟨val,3,take,own,t,nx,hz⟩,S.swap (c.ad 13 (lk t)) 0 own):=rfl
  rw [e]
  by_cases hq:S.w (c.ad 13 (lk t))=0
  ·rw [aY hq];exact aaF h hd g ax hw.1 hw.2 hx hn (cM hq)
  ·rw [aK hq];exact aaG h hd g ax hw.1 hw.2 (dy hq)
 ·exact aaL h hd g ax
theorem Qf(h:aq K c S ss w0 w (wZ K c k S.th (.pointer none) ⟨val,0,take,own,t,nx,hz⟩::F))(hd:dk K.toMk d∈F)(g:Gd n c S ss)(hr:0≤S.rc)(hn:n<800000000000):
  b6 261 k d w (Post K c ss w0 F (Ba K c S.th k) (gO.ready c ⟨val,0,.new,own,t,nx,hz⟩ S)):=by
 have hm:=fun(W:World) (kt:Nat) (h:aq K c S ss w0 W (gr K kt S.th .new::wZ K c k S.th (some kt) ⟨val,0,take,own,t,nx,(S.hz c 0)⟩::F))=>gS h (mT hd) D_ g.th g.Xm g.ca g.bb
 have g1:=g.zP .new;have xu:=(Gd.yy (c:=c) (S:=S) .new).2;have hS:=g.I.bd.2.1;have hH:=g.I.bd.2.2.2.2.1;have hA:=fun(W:World) (h:aq K c S ss w0 W (wZ K c k S.th (.pointer none) ⟨val,0,take,own,t,nx,hz⟩::F))=>jj h g.I 0 hr O_ O_
 have mG:0<S.slots.length:=by have:=g.I.sl;have:=g.I.bd;omega
 have Au:=OD g.I;have e:gO.ready c ⟨val,0,.new,own,t,nx,hz⟩ S=gO.behind ⟨val,0,.new,own,t,nx,S.hz c 0⟩ (Tk.new.ready S):=rfl;rw [e];clear e;generalize Tk.new.ready S=r at hm g1 xu Au ⊢;obtain⟨b,x,S1⟩:=r;simp only at hm g1 xu Au;generalize S.hz c 0=yY at hm hA ⊢
 cases b
 ·simp only [gO.behind]
  go_enter func261,ntmps261;go_wp2
  go_region_held3 (fun w'=>w'.cell? ⟨k,0,none⟩=some (some K.bH)∧w'.cell? ⟨k,5,none⟩=some (.int .i64 S.th)) (first | exact⟨(h.all aj) 0,(h.all aj) 5⟩ | exact⟨(m1.all aj) 0,(m1.all aj) 5⟩ | exact⟨(n1.all aj) 0,(n1.all aj) 5⟩) (first | ((with_reducible refine un (hA _ h.drew) fun dx gx=>?_);have m1:=h.drew.next gx;have bB:=m1.af aj;have n1:=m1.put 12 yY;have gM:=n1.af aj))
  go_wp2
  go_region_held3 (fun w'=>w'.cell? ⟨k,0,none⟩=some (some K.bH)∧w'.cell? ⟨k,5,none⟩=some (.int .i64 S.th)) (first | exact⟨(n1.all aj) 0,(n1.all aj) 5⟩ | exact⟨(m2.all bp) 0,(m2.all bp) 5⟩ | exact⟨(n2.all aj) 0,(n2.all aj) 5⟩) (first | ((with_reducible refine un (cL n1.drew) fun wz hw=>?_);obtain rfl:=hw.symm) | ((with_reducible refine(nr n1.drew _ mG).mono ?_);rintro e jP ⟨LK,rfl,_,m2⟩;have dN:=m2.af bp;have n2:=m2.swap.put 8 (some LK);have jA:=n2.af aj))
  go_wp2_with fail;refine un (hm _ LK n2.swap) fun w5 m5=>?_
  go_wp2;go_ret;exact⟨rfl,[_,_],fun _=>⟨_,rfl⟩,m5.swap⟩
 ·simp only [gO.behind]
  have tC:=fun(W:World) (kt:Nat) (h:aq K c S1 ss w0 W (wZ K c k S1.th (some kt) ⟨val,0,x,own,t,nx,yY⟩::gr K kt S1.th x::F))=>MN h hd g1.s hS (Au rfl)
  rw [xu] at tC;clear Au;generalize gO.jJ ⟨val,0,x,own,t,nx,yY⟩ S1=r3 at tC ⊢;go_enter func261,ntmps261;go_wp2
  go_region_held3 (fun w'=>w'.cell? ⟨k,0,none⟩=some (some K.bH)∧w'.cell? ⟨k,5,none⟩=some (.int .i64 S.th)) (first | exact⟨(h.all aj) 0,(h.all aj) 5⟩ | exact⟨(m1.all aj) 0,(m1.all aj) 5⟩ | exact⟨(n1.all aj) 0,(n1.all aj) 5⟩) (first | ((with_reducible refine un (hA _ h.drew) fun dx gx=>?_);have m1:=h.drew.next gx;have bB:=m1.af aj;have n1:=m1.put 12 yY;have gM:=n1.af aj))
  go_wp2
  go_region_held3 (fun w'=>w'.cell? ⟨k,0,none⟩=some (some K.bH)∧w'.cell? ⟨k,5,none⟩=some (.int .i64 S.th)) (first | exact⟨(n1.all aj) 0,(n1.all aj) 5⟩ | exact⟨(m2.all bp) 0,(m2.all bp) 5⟩ | exact⟨(n2.all aj) 0,(n2.all aj) 5⟩) (first | ((with_reducible refine un (cL n1.drew) fun wz hw=>?_);obtain rfl:=hw.symm) | ((with_reducible refine(nr n1.drew _ mG).mono ?_);rintro e jP ⟨LK,rfl,_,m2⟩;have dN:=m2.af bp;have n2:=m2.swap.put 8 (some LK);have jA:=n2.af aj))
  go_wp2_with fail;refine un (hm _ LK n2.swap) fun w5 m5=>?_
  go_wp2_with fail;refine(tC _ LK m5.swap).mono ?_;exact Fc
end
def KF(R R':Nat→Int):Prop:=∀ i,i<2∨(15≤i∧i≤19)∨35<i→R' i=R i
theorem yU(R:Nat→Int):KF R R:=fun _ _=>rfl
theorem kP{R R':Nat→Int}(h:KF R R'){j:Nat}(hj:(2≤j∧j≤14)∨(20≤j∧j≤35))(v:Int):KF R (cg R' j v):=fun i hi=>by
 rw [oV _ _ O_];exact h i hi
theorem kfT{R R' Tm:Nat→Int}(h:KF R R')(h':KF R' Tm):KF R Tm:=fun i hi=>(h' i hi).trans (h i hi)
theorem kfK{R R' Tm:Nat→Int}(h:KF R R')(h':∀ i,i<20∨35<i→Tm i=R' i):KF R Tm:=fun i hi=>(h' i O_).trans (h i hi)
def fB(c:Cf)(th:Nat)(X:List RT)(v0 v1:Bool)(S:PM)(pc:Nat)(R:Nat→Int)(bs e0 nm pd:List Int){α:Type}(r:Bool×α×PM)(At:α→PM→Nat→(Nat→Int)→List Int→List Int→List Int→Prop)(Dn:α→(Nat→Int)→Prop):Prop:=
 ∃ (k:α) (S':PM) (R':Nat→Int) (cG cE:List Int),Inv c th S'∧Kp S S'∧KF R R'∧
  ((∃ (cZ:Nat) (e':List Int),r=(false,k,S')∧At k S' cZ R' e' cG cE∧Rn c th (St v0 S X pc R (bs++e0) nm pd) (St v1 S' X cZ R' (bs++e') cG cE))∨
   (r=(true,k,S')∧Dn k R'∧∀ (b0:List Int) (q:Nat),bs=b0++ [(q:Int)]→Rn c th (St v0 S X pc R (bs++e0) nm pd) (St v1 S' X q R' b0 cG cE)))
def PA(c:Cf)(p:Int):Prop:=0≤p∧p<b7 c.R c.H c.S c.B 13∧(kd c p=6∨kd c p=7∨kd c p=13)
structure QZ(c:Cf)(f:Fi)(R:Nat→Int):Prop where
 r0:wrap64 (R 0)=f.root
 r1:R 1=u64 f.key
 pr:PA c f.root
 ky:-9223372036854775808≤f.key∧f.key<9223372036854775808
def jO(c:Cf)(f:Fi)(S:PM)(pc:Nat)(R:Nat→Int)(e nm pd:List Int):Prop:=QZ c f R∧0≤S.rc∧
 ((e= []∧f.pc=1∧pc=184∧wrap64 (R 2)=f.root)∨
  (wrap64 (R 2)=f.p∧PA c f.p∧R 3=f.w∧Lw c f.w∧e= []∧R 4=u64 f.cur∧0≤f.cur∧f.cur<c.S∧
  ((f.pc=2∧pc=188∧R 8=u64 (S.rc*c.H+1))∨(f.pc=3∧pc=189)∨(f.pc=4∧pc=197)∨
   (Lw c f.x∧R 10=bare f.x∧R 8=u64 (S.rc*c.H+1)∧((f.pc=12∧pc=247∧f.cur=lk f.x)∨(f.pc=10∧pc=229∧0≤lk f.x)))∨
   (R 5=f.x∧Lw c f.x∧R 10=bare f.x∧((f.pc=5∧pc=200∧R 8=u64 (S.rc*c.H+0))∨(f.pc=6∧pc=201)∨(f.pc=11∧pc=238)∨
    (f.pc=9∧pc=227∧R 8=u64 (S.rc*c.H+2)∧R 13=pk f.cur∧0≤lk f.x)∨
    (wrap64 (R 11)=f.looked∧((f.pc=7∧pc=206)∨(f.pc=8∧pc=207∧wrap64 (R 12)=f.k∧0≤R 12∧R 12<18446744073709551616)))))))∨
  (wrap64 (R 2)=f.p∧PA c f.p∧f.pc=13∧Lw c f.x∧R 10=bare f.x∧wrap64 (R 14)=f.looked∧∃ r e',f.ret=some r∧e= [243]++e'∧mu c r S pc R e' nm pd))
def AZ(c:Cf)(f:Fi)(R:Nat→Int):Prop:=QZ c f R∧R 6=(if f.found then 1 else 0)∧wrap64 (R 7)=f.pt∧wrap64 (R 2)=f.p∧PA c f.p∧R 3=f.w∧Lw c f.w∧
 (f.found=true→R 4=u64 f.cur∧0≤f.cur∧f.cur<c.S∧R 5=f.x∧Lw c f.x)
section
variable{c:Cf}{th:Nat}{X:List RT}{v v0 v1 v2:Bool}{S S' S1:PM}{pc cZ:Nat}{R R':Nat→Int}{bs e0 e' nm pd cG cE:List Int}
theorem fB.go{α:Type}{x:α}{At:α→PM→Nat→(Nat→Int)→List Int→List Int→List Int→Prop}{Dn:α→(Nat→Int)→Prop}{r:Bool×α×PM}(hr:r=(false,x,S'))(I:Inv c th S')(K:Kp S S')(hR:KF R R')(h:Rn c th (St v0 S X pc R (bs++e0) nm pd) (St v1 S' X cZ R' (bs++e') cG cE))(ha:At x S' cZ R' e' cG cE):
  fB c th X v0 v1 S pc R bs e0 nm pd r At Dn:=⟨x,S',R',cG,cE,I,K,hR,.inl ⟨cZ,e',hr,ha,h⟩⟩
theorem fB.done{α:Type}{x:α}{At:α→PM→Nat→(Nat→Int)→List Int→List Int→List Int→Prop}{Dn:α→(Nat→Int)→Prop}{r:Bool×α×PM}(hr:r=(true,x,S'))(I:Inv c th S')(K:Kp S S')(hR:KF R R')(h:∀ (b0:List Int) (q:Nat),bs=b0++ [(q:Int)]→Rn c th (St v0 S X pc R (bs++e0) nm pd) (St v1 S' X q R' b0 cG cE))(ha:Dn x R'):
  fB c th X v0 v1 S pc R bs e0 nm pd r At Dn:=⟨x,S',R',cG,cE,I,K,hR,.inr ⟨hr,ha,h⟩⟩
theorem Inv.pa(I:Inv c th S){p:Int}(h:PA c p):(0≤p∧p<S.words.length)∧Lw c (S.w p)∧∀ x,Lw c x→Pw c (kd c p) x:=by
 obtain⟨h0,h1,h2⟩:=h;have hl:=I.len;have hw:=I.wk p h0 O_;have hk:Go.Proofs.YtgbhnihkgmpocaaGreat.Cp (kd c p):=by rcases h2 with h | h | h<;>rw [h]<;>decide
 refine⟨⟨h0,O_⟩,⟨hw.lo,(hw.lw hk).1,(hw.lw hk).2⟩,fun x hx=>⟨hx.1,by have:=hx.2.1;omega,fun _=>hx.2.2,fun _=>⟨hx.2.1,hx.2.2⟩,fun h=>O_,fun h=>O_⟩⟩
theorem Inv.sz(I:Inv c th S):b7 c.R c.H c.S c.B 13≤13312:=by
 obtain⟨_,_,hR,pZ,hH,qg,_,_,_,_,hS,mP,hB,xW⟩:=I.ok;have:=jv c.R c.H c.S c.B hR pZ hH qg hS mP hB xW 13;omega
theorem Inv.paL(I:Inv c th S){i:Int}(h0:0≤i)(h1:i<c.S):PA c (c.ad 13 i):=by
 obtain⟨p,q,r⟩:=GD I.ok (r:=13) O_ O_ (I.iO O_ h0 h1);exact⟨p,q,.inr (.inr r)⟩
theorem AQ(I:Inv c th S){x:Int}(h:Lw c x):Lw c (bare x):=.pk I (eZ x) h.2.2
theorem FZ(I:Inv c th S){x:Int}(h:Lw c x):lk (bare x)=lk x:=Cq (eZ x) (by have:=h.2.2;have:=I.bd;omega)
theorem l8{root key:Int}{bk:List Int}(hr:0≤S.rc)(h0:wrap64 (R 0)=root)(h1:R 1=u64 key)(hp:PA c root)(hk:-9223372036854775808≤key∧key<9223372036854775808):
  Rn c th (St v S X 182 R bk nm pd) (St v S X 184 (cg R 2 (R 0)) bk nm pd)∧jO c (Fi.new root key) S 184 (cg R 2 (R 0)) [] nm pd:=
 ⟨.trans (dI (cd 182)) (wY (cd 183) rfl),⟨h0,h1,hp,hk⟩,hr,.inl ⟨rfl,rfl,rfl,h0⟩⟩
theorem ri{f:Fi}{bk:List Int}(hr:0≤S.rc)(hc:QZ c f R):Rn c th (St v S X 182 R bk nm pd) (St v S X 184 (cg R 2 (R 0)) bk nm pd)∧jO c {f with pc:=1} S 184 (cg R 2 (R 0)) [] nm pd:=
 ⟨.trans (dI (cd 182)) (wY (cd 183) rfl),⟨hc.r0,hc.r1,hc.pr,hc.ky⟩,hr,.inl ⟨rfl,rfl,rfl,hc.r0⟩⟩
theorem QZ.kf{f g:Fi}(h:QZ c f R)(hk:KF R R')(h1:g.root=f.root)(h2:g.key=f.key):QZ c g R':=
 ⟨by rw [hk 0 O_,h1];exact h.r0,by rw [hk 1 O_,h2];exact h.r1,by rw [h1];exact h.pr,by rw [h2];exact h.ky⟩
theorem MK{f:Fi}(I:Inv c th S)(hc:QZ c f R)(hr:0≤S.rc)(h2:wrap64 (R 2)=f.p)(hp:PA c f.p)(hx:Lw c f.x)(gI:R 10=bare f.x)(h14:wrap64 (R 14)=f.looked):
  fB c th X v v S 243 R bs [] nm pd (f.out S) (jO c) (AZ c):=by
 have hb:=I.bd;have lb:=FZ I hx;have wb:=AQ I hx;have e1:Rn c th (St v S X 243 R (bs++ []) nm pd) (St v S X 245 (cg (cg R 3 (bare f.x)) 4 (u64 (lk (bare f.x)))) (bs++ []) nm pd):=.trans (wY (cd 243) gI) (Ie (cd 244) gI);have k1:KF R (cg (cg R 3 (bare f.x)) 4 (u64 (lk (bare f.x)))):=kP (kP (yU R) (j:=3) O_ _) (j:=4) O_ _
 by_cases h:lk (bare f.x)<0
 ·have e:f.out S=(true,{f with w:=bare f.x,cur:=lk (bare f.x),found:=false,pt:=f.looked,done:=true,pc:=0},S):=by unfold Fi.out;simp [h,Fi.fin]
  refine fB.done (cG:=nm) (cE:=pd) e I (.rfl' S) (kP (kP k1 (j:=6) O_ (u64 0)) (j:=7) O_ (R 14)) ?_ ⟨hc.kf (kP (kP k1 (j:=6) O_ (u64 0)) (j:=7) O_ (R 14)) rfl rfl,rfl,h14,h2,hp,rfl,wb,fun q=>by cases q⟩;rintro b0 q rfl;rw [iN] at e1 ⊢;exact .trans e1<| .trans (xy (u:=bare f.x) (cd 245) gI h aeq)<| .trans (dI (cd 249))<| .trans (yI (cd 250) rfl)<| .trans (wY (u:=R 14) (cd 251) rfl) (xA (cd 252))
 ·have e:f.out S=(false,{f with w:=bare f.x,cur:=lk (bare f.x),pc:=12},S):=by unfold Fi.out;simp [h]
  refine fB.go (cG:=nm) (cE:=pd) (e':= []) e I (.rfl' S) (kP k1 (j:=8) O_ (u64 (S.rc*c.H+1))) (.trans e1<| .trans (xz (u:=bare f.x) (cd 245) gI O_) (Ib (cd 246))) ⟨hc.kf (kP k1 (j:=8) O_ _) rfl rfl,hr,.inr (.inl ⟨h2,hp,rfl,wb,rfl,rfl,Int.not_lt.1 h,wb.2.2,.inr (.inr (.inr (.inl ⟨hx,gI,rfl,.inl ⟨rfl,rfl,lb⟩⟩)))⟩)⟩
theorem kR{f:Fi}{e nm pd:List Int}(I:Inv c th S)(aZ:R 47=0)(ha:jO c f S pc R e nm pd):fB c th X false true S pc R bs e nm pd (f.step c S) (jO c) (AZ c):=by
 obtain⟨hc,hr,ha⟩:=ha;have hb:=I.bd;have hz:=I.sz;have wn:wrap64 S.now=S.now:=wid I.nw.1 (by have:=I.nw.2;omega)
 rcases ha with ⟨rfl,hs,rfl,h2⟩ | ⟨h2,hp,h3,hw,rfl,h4,c0,c1,ha⟩ | ⟨h2,hp,hs,hx,gI,h14,r,e',hret,rfl,ha⟩
 ·obtain⟨aR,lR,_⟩:=I.pa hc.pr
  have e1:Rn c th (St false S X 184 R (bs++ []) nm pd) (St true (S.load f.root) X 186 (cg (cg R 3 (S.w f.root)) 4 (u64 (lk (S.w f.root)))) (bs++ []) nm pd):=.trans (r1a I (cd 184) h2 aR) (Ie (u:=S.w f.root) (cd 185) rfl);have k1:KF R (cg (cg R 3 (S.w f.root)) 4 (u64 (lk (S.w f.root)))):=kP (kP (yU R) (j:=3) O_ _) (j:=4) O_ _
  by_cases h:lk (S.w f.root)<0
  ·have e:f.step c S=(true,{f with p:=f.root,w:=S.w f.root,cur:=lk (S.w f.root),found:=false,pt:=S.now,done:=true,pc:=0},S.load f.root):=by unfold Fi.step;simp [hs,h,Fi.fin]
   refine fB.done (cG:=nm) (cE:=pd) e (I.load _) (.load S _) (kP (kP k1 (j:=6) O_ (u64 0)) (j:=7) O_ S.now) ?_ ⟨hc.kf (kP (kP k1 (j:=6) O_ (u64 0)) (j:=7) O_ S.now) rfl rfl,rfl,wn,h2,hc.pr,rfl,lR,fun q=>by cases q⟩;rintro b0 q rfl;rw [iN] at e1 ⊢;exact .trans e1<| .trans (xy (u:=S.w f.root) (cd 186) rfl h aex)<| .trans (dI (cd 192))<| .trans (yI (cd 193) rfl)<| .trans (WO (cd 194)) (xA (cd 195))
  ·have e:f.step c S=(false,{f with p:=f.root,w:=S.w f.root,cur:=lk (S.w f.root),pc:=2},S.load f.root):=by unfold Fi.step;simp [hs,h]
   exact fB.go (cG:=nm) (cE:=pd) (e':= []) e (I.load _) (.load S _) (kP k1 (j:=8) O_ (u64 (S.rc*c.H+1))) (.trans e1<| .trans (xz (u:=S.w f.root) (cd 186) rfl O_) (Ib (cd 187))) ⟨hc.kf (kP k1 (j:=8) O_ _) rfl rfl,hr,.inr (.inl ⟨h2,hc.pr,rfl,lR,rfl,rfl,Int.not_lt.1 h,lR.2.2,.inl ⟨rfl,rfl,rfl⟩⟩)⟩
 ·obtain⟨aP,lP,sP⟩:=I.pa hp
  have xL:=I.iO (r:=13) O_ c0 c1;have lL:=I.Cp (r:=13) O_ O_ D_ xL;have w4:=wr h4 O_ O_;obtain⟨DM,p1,q1⟩:=I.Br hr (k:=1) O_ O_;have Wg:=I.eX (r:=9) O_ O_ DM
  rcases ha with ⟨hs,rfl,h8⟩ | ⟨hs,rfl⟩ | ⟨hs,rfl⟩ | ⟨hx,gI,h8,ha⟩ | ⟨h5,hx,gI,ha⟩
  ·have e:f.step c S=(false,{f with pc:=3},S.store (c.ad 9 (S.rc*c.H+1)) f.w):=by unfold Fi.step;simp [hs,PM.hz]
   exact fB.go (cG:=nm) (cE:=pd) (e':= []) e (I.store Wg (I.mZ O_ DM hw)) (.store S _ _) (yU R) (r2 I (cd 188) O_ (wr h8 p1 q1) h3 DM) ⟨⟨hc.r0,hc.r1,hc.pr,hc.ky⟩,hr,.inr (.inl ⟨h2,hp,h3,hw,rfl,h4,c0,c1,.inr (.inl ⟨rfl,rfl⟩)⟩)⟩
  ·have e1:=r1a (X:=X) (bk:=bs++ []) (nm:=nm) (pd:=pd) I (cd 189) h2 aP
   have k1:KF R (cg R 9 (S.w f.p)):=kP (yU R) (j:=9) O_ _
   by_cases h:S.w f.p=f.w
   ·have e:f.step c S=(false,{f with pc:=4},S.load f.p):=by unfold Fi.step;simp [hs,h]
    exact fB.go (cG:=nm) (cE:=pd) (e':= []) e (I.load _) (.load S _) k1 (.trans e1<| .trans (lV (cd 190) (h.trans h3.symm) Uy) (dI (cd 196))) ⟨hc.kf k1 rfl rfl,hr,.inr (.inl ⟨h2,hp,h3,hw,rfl,h4,c0,c1,.inr (.inr (.inl ⟨rfl,rfl⟩))⟩)⟩
   ·have e:f.step c S=(false,{f with pc:=1},S.load f.p):=by unfold Fi.step;simp [hs,h]
    obtain⟨f1,f2⟩:=ri (th:=th) (v:=true) (X:=X) (S:=S.load f.p) (bk:=bs++ []) (nm:=nm) (pd:=pd) hr (hc.kf (g:=f) k1 rfl rfl);exact fB.go (cG:=nm) (cE:=pd) (e':= []) e (I.load _) (.load S _) (kP k1 (j:=2) O_ _) (.trans e1<| .trans (lz (cd 190) fun q=>h (Eq.trans q h3))<| .trans (tO (cd 191) qQ) f1) f2
  ·have e:f.step c S=(false,{f with x:=S.w (c.ad 13 f.cur),pc:=5},S.load (c.ad 13 f.cur)):=by unfold Fi.step;simp [hs]
   have k1:KF R (cg (cg (cg R 5 (S.w (c.ad 13 f.cur))) 10 (bare (S.w (c.ad 13 f.cur)))) 8 (u64 (S.rc*c.H+0))):=kP (kP (kP (yU R) (j:=5) O_ _) (j:=10) O_ _) (j:=8) O_ _;exact fB.go (cG:=nm) (cE:=pd) (e':= []) e (I.load _) (.load S _) k1 (.trans (r1 I (cd 197) O_ w4 xL)<| .trans (r21 (u:=S.w (c.ad 13 f.cur)) (cd 198) rfl) (Ib (cd 199))) ⟨hc.kf k1 rfl rfl,hr,.inr (.inl ⟨h2,hp,h3,hw,rfl,h4,c0,c1,.inr (.inr (.inr (.inr ⟨rfl,lL,rfl,.inl ⟨rfl,rfl,rfl⟩⟩)))⟩)⟩
  ·have bx:=AQ I hx
   have I1:=I.store Wg (I.mZ O_ DM bx)
   rcases ha with ⟨hs,rfl,Ew⟩ | ⟨hs,rfl,hx0⟩
   ·have e:f.step c S=(false,{f with cur:=lk f.x,pc:=4},S.store (c.ad 9 (S.rc*c.H+1)) (bare f.x)):=by unfold Fi.step;simp [hs,PM.hz]
    exact fB.go (cG:=nm) (cE:=pd) (e':= []) e I1 (.store S _ _) (yU R) (.trans (r2 I (cd 247) O_ (wr h8 p1 q1) gI DM)<| .trans (tO (cd 248) Uy) (dI (cd 196))) ⟨hc.kf (yU R) rfl rfl,hr,.inr (.inl ⟨h2,hp,h3,hw,rfl,by rw [h4,Ew],by show 0≤lk f.x;omega,hx.2.2,.inr (.inr (.inl ⟨rfl,rfl⟩))⟩)⟩
   ·have e:f.step c S=(false,{f with cur:=lk f.x,pc:=4},S.store (c.ad 9 (S.rc*c.H+1)) (bare f.x)):=by unfold Fi.step;simp [hs,PM.hz]
    have k1:KF R (cg R 4 (u64 (lk (bare f.x)))):=kP (yU R) (j:=4) O_ _;exact fB.go (cG:=nm) (cE:=pd) (e':= []) e I1 (.store S _ _) k1 (.trans (r2 I (cd 229) O_ (wr h8 p1 q1) gI DM)<| .trans (Ie (cd 230) gI)<| .trans (tO (cd 231) Uy) (dI (cd 196))) ⟨hc.kf k1 rfl rfl,hr,.inr (.inl ⟨h2,hp,h3,hw,rfl,by show u64 (lk (bare f.x))=u64 (lk f.x);rw [FZ I hx],hx0,hx.2.2,.inr (.inr (.inl ⟨rfl,rfl⟩))⟩)⟩
  ·have bx:=AQ I hx
   rcases ha with ⟨hs,rfl,h8⟩ | ⟨hs,rfl⟩ | ⟨hs,rfl⟩ | ⟨hs,rfl,h8,Gk,hx0⟩ | ⟨lQ,⟨hs,rfl⟩ | ⟨hs,rfl,h12,g0,g1⟩⟩
   ·obtain⟨xH0,p0,q0⟩:=I.Br hr (k:=0) O_ O_
    have aH0:=I.eX (r:=9) O_ O_ xH0;have e:f.step c S=(false,{f with pc:=6},S.store (c.ad 9 (S.rc*c.H+0)) (bare f.x)):=by unfold Fi.step;simp [hs,PM.hz]
    exact fB.go (cG:=nm) (cE:=pd) (e':= []) e (I.store aH0 (I.mZ O_ xH0 bx)) (.store S _ _) (yU R) (r2 I (cd 200) O_ (wr h8 p0 q0) gI xH0) ⟨hc.kf (yU R) rfl rfl,hr,.inr (.inl ⟨h2,hp,h3,hw,rfl,h4,c0,c1,.inr (.inr (.inr (.inr ⟨h5,hx,gI,.inr (.inl ⟨rfl,rfl⟩)⟩)))⟩)⟩
   ·have e1:=r1 (X:=X) (R:=R) (bk:=bs++ []) (nm:=nm) (pd:=pd) I (cd 201) O_ w4 xL
    have k1:KF R (cg R 9 (S.w (c.ad 13 f.cur))):=kP (yU R) (j:=9) O_ _
    by_cases h:S.w (c.ad 13 f.cur)=f.x
    ·have e:f.step c S=(false,{f with looked:=S.now,pc:=7},S.load (c.ad 13 f.cur)):=by unfold Fi.step;simp [hs,h]
     have k2:=kP k1 (j:=11) O_ S.now;exact fB.go (cG:=nm) (cE:=pd) (e':= []) e (I.load _) (.load S _) k2 (.trans e1<| .trans (lV (cd 202) (h.trans h5.symm) aew)<| .trans (dI (cd 204)) (WO (cd 205))) ⟨hc.kf k2 rfl rfl,hr,.inr (.inl ⟨h2,hp,h3,hw,rfl,h4,c0,c1,.inr (.inr (.inr (.inr ⟨h5,hx,gI,.inr (.inr (.inr (.inr ⟨wn,.inl ⟨rfl,rfl⟩⟩)))⟩)))⟩)⟩
    ·have e:f.step c S=(false,{f with looked:=S.now,pc:=1},S.load (c.ad 13 f.cur)):=by unfold Fi.step;simp [hs,h]
     obtain⟨f1,f2⟩:=ri (th:=th) (v:=true) (X:=X) (S:=S.load (c.ad 13 f.cur)) (bk:=bs++ []) (nm:=nm) (pd:=pd) hr (hc.kf (g:={f with looked:=S.now}) k1 rfl rfl);exact fB.go (cG:=nm) (cE:=pd) (e':= []) e (I.load _) (.load S _) (kP k1 (j:=2) O_ _) (.trans e1<| .trans (lz (cd 202) fun q=>h (Eq.trans q h5))<| .trans (tO (cd 203) qQ) f1) f2
   ·have e1:=r3a (X:=X) (bk:=bs++ []) (nm:=nm) (pd:=pd) (j:=10) I (cd 238) h2 h3 gI aP qQ
    have I1:Inv c th (S.swap f.p f.w (bare f.x)):=I.swap aP fun _=>sP _ bx
    by_cases h:S.w f.p=f.w
    ·rw [aY h] at e1
     have I2:=I1.shift f.cur 4;have K2:=(Kp.swap S f.p f.w (bare f.x)).trans (Kp.shift _ f.cur 4);have k1:KF R (cg (cg R 14 S.now) 20 (u64 f.cur)):=kP (kP (yU R) (j:=14) O_ _) (j:=20) O_ _
     have e2:Rn c th (St false S X 238 R (bs++ []) nm pd) (St true ((S.swap f.p f.w (bare f.x)).shift f.cur 4) X 58 (cg (cg R 14 S.now) 20 (u64 f.cur)) (bs++ [243]++ []) nm pd):=by
      rw [iN,iN] at*;exact .trans e1<| .trans (WO (cd 239))<| .trans (Ch I1 (cd 240) w4 ⟨c0,c1⟩)<| .trans (wY (cd 241) h4) (mE (cd 242) WV (r:=243) rfl)
     have iF:0≤((S.swap f.p f.w (bare f.x)).shift f.cur 4).rc:=hr;obtain⟨k,S',R',cG,cE,I',K',hk',hh⟩:=(ki (X:=X) (v:=true) (R:=cg (cg R 14 S.now) 20 (u64 f.cur)) (bs:=bs++ [243]) (nm:=nm) (pd:=pd) I2 iF c0 c1 rfl).cases;have k2:=kfK k1 hk'
     rcases hh with ⟨cZ,e',hr',ha,hn⟩ | ⟨hr',ha,hn⟩
     ·have e:f.step c S=(false,{f with looked:=S.now,ret:=some k,pc:=13},S'):=by unfold Fi.step;simp [hs,h,hr']
      exact fB.go (cG:=cG) (cE:=cE) (e':= [243]++e') e I' (K2.trans K') k2 (e2.trans (by rw [←dH];exact hn)) ⟨hc.kf k2 rfl rfl,by rw [K'.rc];exact iF,.inr (.inr ⟨(ep wrap64 (hk' 2 O_)).trans h2,hp,rfl,hx,(hk' 10 O_).trans gI,(ep wrap64 (hk' 14 O_)).trans wn,k,e',rfl,rfl,ha⟩)⟩
     ·have e:f.step c S=Fi.out {f with looked:=S.now,ret:=some k,pc:=13} S':=by unfold Fi.step;simp [hs,h,hr']
      rw [e];have e3:=e2.trans (hn bs 243 rfl);obtain⟨k3,S3,R3,nm3,pd3,I3,K3,kD,hh⟩:=MK (X:=X) (v:=true) (f:={f with looked:=S.now,ret:=some k,pc:=13}) (bs:=bs) (nm:=cG) (pd:=cE) I' (hc.kf k2 rfl rfl) (by rw [K'.rc];exact iF) ((ep wrap64 (hk' 2 O_)).trans h2) hp hx ((hk' 10 O_).trans gI) ((ep wrap64 (hk' 14 O_)).trans wn);refine⟨k3,S3,R3,nm3,pd3,I3,(K2.trans K').trans K3,kfT k2 kD,?_⟩;exact abh
    ·rw [aK h] at e1
     have e:f.step c S=(false,{f with pc:=1},S.swap f.p f.w (bare f.x)):=by unfold Fi.step;simp [hs,h]
     obtain⟨f1,f2⟩:=ri (th:=th) (v:=true) (X:=X) (S:=S.swap f.p f.w (bare f.x)) (bk:=bs++ []) (nm:=nm) (pd:=pd) hr hc;exact fB.go (cG:=nm) (cE:=pd) (e':= []) e I1 (.swap S _ _ _) (kP (yU R) (j:=2) O_ _) (e1.trans f1) f2
   ·obtain⟨xH2,p2,q2⟩:=I.Br hr (k:=2) O_ O_
    have aH2:=I.eX (r:=9) O_ O_ xH2;have e:f.step c S=(false,{f with pc:=10},S.store (c.ad 9 (S.rc*c.H+2)) (pk f.cur)):=by unfold Fi.step;simp [hs,PM.hz]
    have k1:KF R (cg R 8 (u64 (S.rc*c.H+1))):=kP (yU R) (j:=8) O_ _;exact fB.go (cG:=nm) (cE:=pd) (e':= []) e (I.store aH2 (I.mZ O_ xH2 (.pk I O_ c1))) (.store S _ _) k1 (.trans (r2 I (cd 227) O_ (wr h8 p2 q2) Gk xH2) (Ib (cd 228))) ⟨hc.kf k1 rfl rfl,hr,.inr (.inl ⟨h2,hp,h3,hw,rfl,h4,c0,c1,.inr (.inr (.inr (.inl ⟨hx,gI,rfl,.inr ⟨rfl,rfl,hx0⟩⟩)))⟩)⟩
   ·have e:f.step c S=(false,{f with k:=wrap64 (S.w (c.ad 11 f.cur)),pc:=8},S.load (c.ad 11 f.cur)):=by unfold Fi.step;simp [hs]
    have xV:=I.iO (r:=11) O_ c0 c1;obtain⟨_,_,_,pV⟩:=I.mq (r:=11) O_ O_ xV;have k1:KF R (cg R 12 (S.w (c.ad 11 f.cur))):=kP (yU R) (j:=12) O_ _;exact fB.go (cG:=nm) (cE:=pd) (e':= []) e (I.load _) (.load S _) k1 (r1 I (cd 206) O_ w4 xV) ⟨hc.kf k1 rfl rfl,hr,.inr (.inl ⟨h2,hp,h3,hw,rfl,h4,c0,c1,.inr (.inr (.inr (.inr ⟨h5,hx,gI,.inr (.inr (.inr (.inr ⟨lQ,.inr ⟨rfl,rfl,rfl,pV.lo,pV.hi⟩⟩)))⟩)))⟩)⟩
   ·have e0:f.step c S=f.decide c S:=by unfold Fi.step;simp [hs]
    rw [e0];have e1:=r1a (X:=X) (R:=R) (bk:=bs++ []) (nm:=nm) (pd:=pd) I (cd 207) h2 aP;have k1:KF R (cg R 9 (S.w f.p)):=kP (yU R) (j:=9) O_ _
    by_cases h:S.w f.p=f.w
    ·have e2:=e1.trans<| .trans (lV (cd 208) (h.trans h3.symm) aev)<| .trans (dI (cd 210)) (r24 (cd 211) h5 hx.1 hx.2.1 aes)
     cases hm:Bn f.x with
     | true=>
      rw [hm,aY rfl] at e2;have e:f.decide c S=(false,{f with pc:=11},S.load f.p):=by unfold Fi.decide;simp [h,hm]
      exact fB.go (cG:=nm) (cE:=pd) (e':= []) e (I.load _) (.load S _) k1 (e2.trans (dI (cd 237))) ⟨hc.kf k1 rfl rfl,hr,.inr (.inl ⟨h2,hp,h3,hw,rfl,h4,c0,c1,.inr (.inr (.inr (.inr ⟨h5,hx,gI,.inr (.inr (.inl ⟨rfl,rfl⟩))⟩)))⟩)⟩
     | false=>
      rw [hm,aK S_] at e2;have wk:wrap64 (R 1)=f.key:=by rw [hc.r1];exact wu _ hc.ky.1 hc.ky.2
      have heq:R 12=R 1↔f.k=f.key:=by
       rw [←h12,←wk]
       constructor
       ·intro q;rw [q]
       ·intro q
        have:0≤R 1∧R 1<18446744073709551616:=by rw [hc.r1];unfold u64;omega
        unfold wrap64 at q;omega
      by_cases hl:f.k<f.key
      ·have e3:=e2.trans<| .trans (sB (cd 212) h12 wk hl aeu)<| .trans (dI (cd 221))<| .trans (KN (w:=u64 (c.ad 13 f.cur)) (cd 222) h4 (by unfold u64 Cf.ad;omega))<| .trans (wY (cd 223) h5) (TR (cd 224) w4 ⟨O_,O_⟩)
       have pL:=I.paL c0 c1;have wp:wrap64 (u64 (c.ad 13 f.cur))=c.ad 13 f.cur:=wu _ (by have:=pL.1;omega) (by have:=pL.2.1;omega);have k2:KF R (cg (cg (cg (cg R 9 (S.w f.p)) 2 (u64 (c.ad 13 f.cur))) 3 f.x) 13 (pk f.cur)):=kP (kP (kP k1 (j:=2) O_ _) (j:=3) O_ _) (j:=13) O_ _
       by_cases hn:lk f.x<0
       ·have e:f.decide c S=(true,{f with p:=c.ad 13 f.cur,w:=f.x,cur:=-1,found:=false,pt:=f.looked,done:=true,pc:=0},S.load f.p):=by
         unfold Fi.decide;simp [h,hm,hn,show¬f.k=f.key from O_,show¬f.key<f.k from O_,Fi.fin]
        have k3:=kP (kP (kP k2 (j:=4) O_ (u64 (-1))) (j:=6) O_ (u64 0)) (j:=7) O_ (R 11);refine fB.done (cG:=nm) (cE:=pd) e (I.load _) (.load S _) k3 ?_ ⟨hc.kf k3 rfl rfl,rfl,lQ,wp,pL,rfl,hx,fun q=>by cases q⟩;rintro b0 q rfl;rw [iN] at e3 ⊢;exact .trans e3<| .trans (xy (u:=f.x) (cd 225) h5 hn aer)<| .trans (dI (cd 232))<| .trans (yI (cd 233) rfl)<| .trans (yI (cd 234) rfl)<| .trans (wY (u:=R 11) (cd 235) rfl) (xA (cd 236))
       ·have e:f.decide c S=(false,{f with p:=c.ad 13 f.cur,w:=f.x,pc:=9},S.load f.p):=by
         unfold Fi.decide;simp [h,hm,hn,show¬f.k=f.key from O_,show¬f.key<f.k from O_]
        have k3:=kP k2 (j:=8) O_ (u64 (S.rc*c.H+2));exact fB.go (cG:=nm) (cE:=pd) (e':= []) e (I.load _) (.load S _) k3 (.trans e3<| .trans (xz (u:=f.x) (cd 225) h5 O_) (Ib (cd 226))) ⟨hc.kf k3 rfl rfl,hr,.inr (.inl ⟨wp,pL,rfl,hx,rfl,h4,c0,c1,.inr (.inr (.inr (.inr ⟨h5,hx,gI,.inr (.inr (.inr (.inl ⟨rfl,rfl,rfl,rfl,Int.not_lt.1 hn⟩)))⟩)))⟩)⟩
      ·by_cases hq:f.k=f.key
       ·have e:f.decide c S=(true,{f with found:=true,pt:=f.looked,done:=true,pc:=0},S.load f.p):=by
         unfold Fi.decide;simp [h,hm,hq,Fi.fin]
        have k3:=kP (kP k1 (j:=6) O_ (u64 1)) (j:=7) O_ (R 11);refine fB.done (cG:=nm) (cE:=pd) e (I.load _) (.load S _) k3 ?_ ⟨hc.kf k3 rfl rfl,rfl,lQ,h2,hp,h3,hw,fun _=>⟨h4,c0,c1,h5,hx⟩⟩;rintro b0 q rfl;rw [iN] at e2 ⊢;exact .trans e2<| .trans (tN (cd 212) h12 wk hl)<| .trans (lV (cd 213) (heq.2 hq) aet)<| .trans (dI (cd 217))<| .trans (yI (cd 218) rfl)<| .trans (wY (u:=R 11) (cd 219) rfl) (xA (cd 220))
       ·have e:f.decide c S=(true,{f with found:=false,pt:=S.now,done:=true,pc:=0},S.load f.p):=by
         unfold Fi.decide;simp [h,hm,hq,show f.key<f.k from O_,Fi.fin]
        have k3:=kP (kP k1 (j:=6) O_ (u64 0)) (j:=7) O_ S.now;refine fB.done (cG:=nm) (cE:=pd) e (I.load _) (.load S _) k3 ?_ ⟨hc.kf k3 rfl rfl,rfl,wn,h2,hp,h3,hw,fun q=>by cases q⟩;rintro b0 q rfl;rw [iN] at e2 ⊢;exact .trans e2<| .trans (tN (cd 212) h12 wk hl)<| .trans (lz (cd 213) fun r=>hq (heq.1 r))<| .trans (yI (cd 214) rfl)<| .trans (WO (cd 215)) (xA (cd 216))
    ·have e:f.decide c S=(false,{f with pc:=1},S.load f.p):=by unfold Fi.decide;simp [h]
     obtain⟨f1,f2⟩:=ri (th:=th) (v:=true) (X:=X) (S:=S.load f.p) (bk:=bs++ []) (nm:=nm) (pd:=pd) hr (hc.kf (g:=f) k1 rfl rfl);exact fB.go (cG:=nm) (cE:=pd) (e':= []) e (I.load _) (.load S _) (kP k1 (j:=2) O_ _) (.trans e1<| .trans (lz (cd 208) fun q=>h (Eq.trans q h3))<| .trans (tO (cd 209) qQ) f1) f2
 ·obtain⟨k,S',R',cG,cE,I',K',hk',hh⟩:=(nY (X:=X) (bs:=bs++ [243]) I aZ ha).cases
  have k2:=kfK (yU R) hk';have iF:0≤S'.rc:=by rw [K'.rc];exact hr
  rw [dH] at hh
  rcases hh with ⟨cZ,e',hr',ha,hn⟩ | ⟨hr',ha,hn⟩
  ·have e:f.step c S=(false,{f with ret:=some k},S'):=by unfold Fi.step;simp [hs,hret,hr']
   exact fB.go (cG:=cG) (cE:=cE) (e':= [243]++e') e I' K' k2 (by rw [←dH bs [243] e'];exact hn) ⟨hc.kf k2 rfl rfl,iF,.inr (.inr ⟨(ep wrap64 (hk' 2 O_)).trans h2,hp,hs,hx,(hk' 10 O_).trans gI,(ep wrap64 (hk' 14 O_)).trans h14,k,e',rfl,rfl,ha⟩)⟩
  ·have e:f.step c S=Fi.out {f with ret:=some k} S':=by unfold Fi.step;simp [hs,hret,hr']
   rw [e];have e3:=hn bs 243 rfl;obtain⟨k3,S3,R3,nm3,pd3,I3,K3,kD,hh⟩:=MK (X:=X) (v:=true) (f:={f with ret:=some k}) (bs:=bs) (nm:=cG) (pd:=cE) I' (hc.kf k2 rfl rfl) iF ((ep wrap64 (hk' 2 O_)).trans h2) hp hx ((hk' 10 O_).trans gI) ((ep wrap64 (hk' 14 O_)).trans h14);refine⟨k3,S3,R3,nm3,pd3,I3,K'.trans K3,kfT k2 kD,?_⟩;exact abh
end
section
variable{c:Cf}{th:Nat}{X:List RT}{v v0 v1 v2:Bool}{S S' S1:PM}{pc cZ:Nat}{R R':Nat→Int}{bk eF bs nm pd cG cE:List Int}
def yl(c:Cf)(k:Int)(S:PM)(pc:Nat)(R:Nat→Int):Prop:=0≤S.rc∧
 ((k=0∧pc=255∧R 8=u64 (S.rc*c.H+0))∨(k=1∧pc=257∧R 8=u64 (S.rc*c.H+1))∨(k=2∧pc=259∧R 8=u64 (S.rc*c.H+2)))
theorem gW(hr:0≤S.rc):Rn c th (St v S X 253 R bk nm pd) (St v S X 255 (cg R 8 (u64 (S.rc*c.H+0))) bk nm pd)∧yl c 0 S 255 (cg R 8 (u64 (S.rc*c.H+0))):=
 ⟨.trans (dI (cd 253)) (Ib (cd 254)),hr,.inl ⟨rfl,rfl,rfl⟩⟩
theorem uz{k:Int}(I:Inv c th S)(aZ:R 47=0)(ha:yl c k S pc R):∃ S',gu c k S=(decide (k+1=3),k+1,S')∧Inv c th S'∧Kp S S'∧∃ R',KF R R'∧
  ((k+1≠3∧∃ cZ,yl c (k+1) S' cZ R'∧Rn c th (St false S X pc R bk nm pd) (St true S' X cZ R' bk nm pd))∨
   (k+1=3∧∀ (b0:List Int) (q:Nat),bk=b0++ [(q:Int)]→Rn c th (St false S X pc R bk nm pd) (St true S' X q R' b0 nm pd))):=by
 obtain⟨hr,ha⟩:=ha;have hb:=I.bd;obtain⟨x0,p0,q0⟩:=I.Br hr (k:=0) O_ O_;obtain⟨x1,p1,q1⟩:=I.Br hr (k:=1) O_ O_;obtain⟨x2,p2,q2⟩:=I.Br hr (k:=2) O_ O_
 rcases ha with ⟨rfl,rfl,h8⟩ | ⟨rfl,rfl,h8⟩ | ⟨rfl,rfl,h8⟩
 ·exact⟨_,rfl,I.store (I.eX (r:=9) O_ O_ x0) (I.mZ O_ x0 (.zero I)),.store S _ _,cg R 8 (u64 (S.rc*c.H+1)),kP (yU R) (j:=8) O_ _,.inl ⟨D_,257,⟨hr,.inr (.inl ⟨rfl,rfl,rfl⟩)⟩,.trans (r2 I (cd 255) O_ (wr h8 p0 q0) aZ x0) (Ib (cd 256))⟩⟩
 ·exact⟨_,rfl,I.store (I.eX (r:=9) O_ O_ x1) (I.mZ O_ x1 (.zero I)),.store S _ _,cg R 8 (u64 (S.rc*c.H+2)),kP (yU R) (j:=8) O_ _,.inl ⟨D_,259,⟨hr,.inr (.inr ⟨rfl,rfl,rfl⟩)⟩,.trans (r2 I (cd 257) O_ (wr h8 p1 q1) aZ x1) (Ib (cd 258))⟩⟩
 ·refine⟨_,rfl,I.store (I.eX (r:=9) O_ O_ x2) (I.mZ O_ x2 (.zero I)),.store S _ _,R,yU R,.inr ⟨D_,?_⟩⟩
  rintro b0 q rfl;exact .trans (r2 I (cd 259) O_ (wr h8 p2 q2) aZ x2) (xA (cd 260))
theorem Inv.O9(I:Inv c th S):PA c (c.ad 6 0):=by
 obtain⟨p,q,r⟩:=GD I.ok (r:=6) O_ O_ (I.kC O_);exact⟨p,q,.inl r⟩
theorem Inv.WT(I:Inv c th S)(x:Int):PA c (c.ad 7 (x % c.B)):=by
 have hb:=I.bd;obtain⟨p,q,r⟩:=GD I.ok (r:=7) O_ O_ (I.ixB (Int.emod_nonneg x O_) (Int.emod_lt_of_pos x O_));exact⟨p,q,.inr (.inl r)⟩
theorem K9(I:Inv c th S){p:Int}(h:PA c p):wrap64 (u64 p)=p:=wu _ (by have:=h.1;omega) (by have:=h.2.1;have:=I.sz;omega)
def zE(c:Cf)(w:Wk)(S:PM)(pc:Nat)(R:Nat→Int)(bk nm pd:List Int):Prop:=R 47=0∧w.full=-1∧
 ((w.az=0∧∃ e,bk= [327]++e∧jO c w.f S pc R e nm pd)∨
  (w.az=11∧bk= [330]∧yl c w.lv S pc R∧((w.cj=5∧R 18=1)∨(w.cj=6∧R 18=0))))
theorem Jr{k:Int}(I:Inv c th S)(aZ:R 47=0)(hr:0≤S.rc)(hv:S.arg=k)(hk:-9223372036854775808≤k∧k<9223372036854775808):bt c th X false false S 323 R [] nm pd (false,Wk.new (c.ad 6 0) k,S) (zE c):=by
 have e1:Rn c th (St false S X 323 R [] nm pd) (St false S X 182 (cg (cg R 0 (u64 (c.ad 6 0))) 1 (u64 k)) [327] nm pd):=
  .trans (dI (cd 323))<| .trans (KN (w:=u64 (c.ad 6 0)) (cd 324) aZ (by rw [Int.zero_add]))<| .trans (JV I (cd 325) hv) (mE (cd 326) qQ (r:=327) rfl)
 obtain⟨e2,ha⟩:=l8 (c:=c) (th:=th) (v:=false) (S:=S) (X:=X) (R:=cg (cg R 0 (u64 (c.ad 6 0))) 1 (u64 k)) (nm:=nm) (pd:=pd) (bk:= [327]) (root:=c.ad 6 0) (key:=k) hr (K9 I I.O9) rfl I.O9 hk;exact bt.go I (.rfl' S) (e1.trans e2) ⟨aZ,rfl,.inl ⟨rfl,[],rfl,ha⟩⟩
theorem M6{w:Wk}(I:Inv c th S)(ha:zE c w S pc R bk nm pd):bt c th X false true S pc R bk nm pd (w.iY c S) (zE c):=by
 obtain⟨aZ,hf,⟨hs,e,rfl,ha⟩ | ⟨hs,rfl,ha,hw⟩⟩:=ha
 ·have hr:=ha.2.1
  obtain⟨k,S',R',cG,cE,I',K',hk,⟨cZ,e',hr',ha,hn⟩ | ⟨hr',ha,hn⟩⟩:=kR (X:=X) (bs:= [327]) I aZ ha
  ·have e:w.iY c S=(false,{w with f:=k},S'):=by unfold Wk.iY;simp [hs,hr']
   rw [e];exact bt.go I' K'.q hn ⟨(hk 47 O_).trans aZ,hf,.inl ⟨hs,e',rfl,ha⟩⟩
  ·obtain⟨_,h6,h7,_⟩:=ha
   have e:w.iY c S=(false,{w with f:=k,cj:=if k.found then 5 else 6,lv:=0,az:=11},S'.aB k.pt):=by unfold Wk.iY;simp [hs,hr',Wk.jk]
   rw [e];have K2:=K'.trans (Kp.aB S' k.pt);have iF:0≤(S'.aB k.pt).rc:=by rw [K2.rc];exact hr
   obtain⟨f1,f2⟩:=gW (c:=c) (th:=th) (v:=true) (X:=X) (S:=S'.aB k.pt) (R:=cg R' 18 (R' 6)) (bk:= [330]) (nm:=cG) (pd:=cE) iF;refine bt.go (I'.aB k.pt) K2.q (.trans (hn [] 327 rfl)<| .trans (Rk (cd 327) h7)<| .trans (wY (u:=R' 6) (cd 328) rfl)<| .trans (mE (cd 329) xK (r:=330) rfl) f1) ⟨(hk 47 O_).trans aZ,hf,.inr ⟨rfl,rfl,f2,?_⟩⟩
   cases hc:k.found with
   | true=>rw [hc,aY rfl] at h6;exact .inl ⟨rfl,h6⟩
   | false=>rw [hc,aK S_] at h6;exact .inr ⟨rfl,h6⟩
 ·obtain⟨S',hl,I',K',R',hk,⟨h3,cZ,oP,hn⟩ | ⟨h3,hn⟩⟩:=uz (X:=X) (bk:= [330]) (nm:=nm) (pd:=pd) I aZ ha
  ·have e:w.iY c S=(false,{w with lv:=w.lv+1},S'):=by unfold Wk.iY Wk.left;simp [hs,hl,h3]
   rw [e];refine bt.go I' K'.q hn ⟨(hk 47 O_).trans aZ,hf,.inr ⟨hs,rfl,oP,?_⟩⟩
   rcases hw with ⟨h1,h2⟩ | ⟨h1,h2⟩
   ·exact .inl ⟨h1,(hk 18 O_).trans h2⟩
   ·exact .inr ⟨h1,(hk 18 O_).trans h2⟩
  ·have e:w.iY c S=(true,{w with lv:=w.lv+1},S'.tell w.cj 0):=by unfold Wk.iY Wk.left;simp [hs,hl,h3,hf]
   rw [e];have Vz:=(hk 47 O_).trans aZ;have AD:=hk 18 O_
   rcases hw with ⟨h1,h2⟩ | ⟨h1,h2⟩
   ·rw [h1]
    exact bt.done (I'.tell 5 0) (K'.q.trans (.tell _ 5 0)) (.trans (hn [] 330 rfl)<| .trans (lz (cd 330) (by rw [AD,h2,Vz];decide)) (mL (S:=S'.tell 5 0) (I'.tell 5 0) (cd 331) (I'.cy 5 0)))
   ·rw [h1]
    exact bt.done (I'.tell 6 0) (K'.q.trans (.tell _ 6 0)) (.trans (hn [] 330 rfl)<| .trans (lV (cd 330) (by rw [AD,h2,Vz]) aee)<| .trans (dI (cd 332)) (mL (S:=S'.tell 6 0) (I'.tell 6 0) (cd 333) (I'.cy 6 0)))
def Fd(c:Cf)(f:Fi)(R:Nat→Int):Prop:=QZ c f R∧wrap64 (R 2)=f.p∧PA c f.p∧R 3=f.w∧Lw c f.w
def Fs(c:Cf)(f:Fi)(R:Nat→Int):Prop:=Fd c f R∧R 4=u64 f.cur∧0≤f.cur∧f.cur<c.S∧R 5=f.x∧Lw c f.x
variable{f:Fi}
theorem AZ.fd(h:AZ c f R):Fd c f R:=⟨h.1,h.2.2.2.1,h.2.2.2.2.1,h.2.2.2.2.2.1,h.2.2.2.2.2.2.1⟩
theorem AZ.fs(h:AZ c f R)(hf:f.found=true):Fs c f R:=⟨h.fd,h.2.2.2.2.2.2.2 hf⟩
theorem Fd.kp(h:Fd c f R)(hk:∀ i,i<6→R' i=R i):Fd c f R':=by
 obtain⟨⟨a,b,d,e⟩,f1,f2,f3,f4⟩:=h;exact⟨⟨by rw [hk 0 O_];exact a,by rw [hk 1 O_];exact b,d,e⟩,by rw [hk 2 O_];exact f1,f2,by rw [hk 3 O_];exact f3,f4⟩
theorem Fs.kp(h:Fs c f R)(hk:∀ i,i<6→R' i=R i):Fs c f R':=by
 obtain⟨a,b,d,e,g,i⟩:=h;exact⟨a.kp hk,by rw [hk 4 O_];exact b,d,e,by rw [hk 5 O_];exact g,i⟩
theorem Al(I:Inv c th S){x:Int}(h:Lw c x):Lw c (kZ (lk x)):=by
 have hb:=I.bd;have h1:=eZ x;have h2:=h.2.2;unfold kZ;refine⟨O_,O_,?_⟩;unfold lk at*;omega
def NT(c:Cf)(w:Wk)(S:PM)(pc:Nat)(R:Nat→Int)(bk:List Int)(r5 r6:Nat):Prop:=w.az=11∧w.full=-1∧yl c w.lv S pc R∧((w.cj=5∧bk= [(r5:Int)])∨(w.cj=6∧bk= [(r6:Int)]))
def wS(c:Cf)(d:De)(S:PM)(pc:Nat)(R:Nat→Int)(bk nm pd:List Int):Prop:=R 47=0∧0≤S.rc∧d.wk.full=-1∧
 ((d.wk.az=0∧∃ e,bk= [305]++e∧jO c d.wk.f S pc R e nm pd)∨
  (d.wk.az=7∧bk= []∧pc=307∧Fs c d.wk.f R∧R 15=kZ (lk d.wk.f.x))∨
  (d.wk.az=8∧bk= []∧pc=309∧Fs c d.wk.f R)∨
  (d.wk.az=9∧∃ r e,d.part=some r∧bk= [313]++e∧mu c r S pc R e nm pd)∨
  (d.wk.az=10∧∃ e,bk= [318]++e∧jO c d.wk.f S pc R e nm pd)∨
  NT c d.wk S pc R bk 315 322)
theorem Jp{k:Int}(I:Inv c th S)(aZ:R 47=0)(hr:0≤S.rc)(hv:S.arg=k)(hk:-9223372036854775808≤k∧k<9223372036854775808):bt c th X false false S 300 R [] nm pd (false,(⟨Wk.new (c.ad 6 0) k,none⟩:De),S) (wS c):=by
 have e1:Rn c th (St false S X 300 R [] nm pd) (St false S X 182 (cg (cg R 0 (u64 (c.ad 6 0))) 1 (u64 k)) [305] nm pd):=
  .trans (dI (cd 300))<| .trans (KN (w:=u64 (c.ad 6 0)) (cd 301) aZ (by rw [Int.zero_add]))<| .trans (JV I (cd 302) hv)<| .trans (dI (cd 303)) (mE (cd 304) qQ (r:=305) rfl)
 obtain⟨e2,ha⟩:=l8 (c:=c) (th:=th) (v:=false) (S:=S) (X:=X) (R:=cg (cg R 0 (u64 (c.ad 6 0))) 1 (u64 k)) (nm:=nm) (pd:=pd) (bk:= [305]) (root:=c.ad 6 0) (key:=k) hr (K9 I I.O9) rfl I.O9 hk;exact bt.go I (.rfl' S) (e1.trans e2) ⟨aZ,hr,rfl,.inl ⟨rfl,[],rfl,ha⟩⟩
theorem ET{d:De}(I:Inv c th S)(aZ:R 47=0)(hr:0≤S.rc)(hf:d.wk.full=-1):bt c th X true true S 313 R [] nm pd (d.lift (d.wk.jk 5 S)) (wS c):=by
 obtain⟨f1,f2⟩:=gW (c:=c) (th:=th) (v:=true) (X:=X) (S:=S) (R:=R) (bk:= [315]) (nm:=nm) (pd:=pd) hr;exact bt.go I (.rfl' S) (.trans (dI (cd 313))<| .trans (mE (cd 314) xK (r:=315) rfl) f1) ⟨aZ,hr,hf,.inr (.inr (.inr (.inr (.inr ⟨rfl,hf,f2,.inl ⟨rfl,rfl⟩⟩))))⟩
theorem M3{d:De}(I:Inv c th S)(ha:wS c d S pc R bk nm pd):bt c th X false true S pc R bk nm pd (d.step c S) (wS c):=by
 obtain⟨aZ,hr,hf,ha⟩:=ha;have hb:=I.bd
 rcases ha with ⟨hs,e,rfl,ha⟩ | ⟨hs,rfl,rfl,hd,h15⟩ | ⟨hs,rfl,rfl,hd⟩ | ⟨hs,r,e,hp,rfl,ha⟩ | ⟨hs,e,rfl,ha⟩ | ⟨hs,_,ha,hw⟩
 ·obtain⟨k,S',R',cG,cE,I',K',hk,⟨cZ,e',hr',ha,hn⟩ | ⟨hr',ha,hn⟩⟩:=kR (X:=X) (bs:= [305]) I aZ ha
  ·have e:d.step c S=(false,{d with wk:={d.wk with f:=k}},S'):=by unfold De.step;simp [hs,hr']
   rw [e];exact bt.go I' K'.q hn ⟨(hk 47 O_).trans aZ,by rw [K'.rc];exact hr,hf,.inl ⟨hs,e',rfl,ha⟩⟩
  ·have h6:=ha.2.1
   have h7:=ha.2.2.1;have Vz:=(hk 47 O_).trans aZ
   cases hc:k.found with
   | true=>
    rw [hc,aY rfl] at h6;have e:d.step c S=(false,{d with wk:={d.wk with f:=k,az:=7}},S'):=by unfold De.step;simp [hs,hr',hc]
    rw [e];have fs:=ha.fs hc;exact bt.go (R':=cg R' 15 (kZ (lk k.x))) I' K'.q (.trans (hn [] 305 rfl)<| .trans (lz (cd 305) (by rw [h6,Vz];decide)) (r20 (cd 306) fs.2.2.2.2.1)) ⟨Vz,by rw [K'.rc];exact hr,hf,.inr (.inl ⟨rfl,rfl,rfl,fs.kp fun i hi=>oV _ _ O_,rfl⟩)⟩
   | false=>
    rw [hc,aK S_] at h6;have e:d.step c S=(false,{d with wk:={d.wk with f:=k,cj:=6,lv:=0,az:=11}},S'.aB k.pt):=by unfold De.step;simp [hs,hr',hc,De.lift,Wk.jk]
    rw [e];have K2:=K'.trans (Kp.aB S' k.pt);have iF:0≤(S'.aB k.pt).rc:=by rw [K2.rc];exact hr
    obtain⟨f1,f2⟩:=gW (c:=c) (th:=th) (v:=true) (X:=X) (S:=S'.aB k.pt) (R:=R') (bk:= [322]) (nm:=cG) (pd:=cE) iF;exact bt.go (I'.aB k.pt) K2.q (.trans (hn [] 305 rfl)<| .trans (lV (cd 305) (by rw [h6,Vz]) aef)<| .trans (dI (cd 319))<| .trans (Rk (cd 320) h7)<| .trans (mE (cd 321) xK (r:=322) rfl) f1) ⟨Vz,iF,hf,.inr (.inr (.inr (.inr (.inr ⟨rfl,hf,f2,.inr ⟨rfl,rfl⟩⟩))))⟩
 ·obtain⟨⟨hc,h2,hp,h3,hw⟩,h4,c0,c1,h5,hx⟩:=id hd
  have xL:=I.iO (r:=13) O_ c0 c1;have e1:=r3 (X:=X) (bk:= []) (nm:=nm) (pd:=pd) (j:=15) I (cd 307) O_ (wr h4 O_ O_) h5 h15 xL aei;have I1:Inv c th (S.swap (c.ad 13 d.wk.f.cur) d.wk.f.x (kZ (lk d.wk.f.x))):=I.swap (I.eX O_ O_ xL) fun _=>I.mZ O_ xL (Al I hx)
  by_cases h:S.w (c.ad 13 d.wk.f.cur)=d.wk.f.x
  ·rw [aY h] at e1
   have e:d.step c S=(false,{d with wk:={d.wk with az:=8}},(S.swap (c.ad 13 d.wk.f.cur) d.wk.f.x (kZ (lk d.wk.f.x))).aB S.now):=by unfold De.step;simp [hs,h]
   rw [e];exact bt.go (I1.aB S.now) ((Kp.swap S _ _ _).trans (Kp.aB _ _)).q (e1.trans (FI (cd 308))) ⟨aZ,hr,hf,.inr (.inr (.inl ⟨rfl,rfl,rfl,hd⟩))⟩
  ·rw [aK h] at e1
   have e:d.step c S=(false,{d with wk:={d.wk with f:=Fi.new d.wk.f.root d.wk.f.key,az:=0}},S.swap (c.ad 13 d.wk.f.cur) d.wk.f.x (kZ (lk d.wk.f.x))):=by unfold De.step;simp [hs,h,De.lift,Wk.anew]
   rw [e];obtain⟨f1,f2⟩:=l8 (c:=c) (th:=th) (v:=true) (S:=S.swap (c.ad 13 d.wk.f.cur) d.wk.f.x (kZ (lk d.wk.f.x))) (X:=X) (R:=R) (nm:=nm) (pd:=pd) (bk:= [305]) hr hc.r0 hc.r1 hc.pr hc.ky;exact bt.go I1 (Kp.swap S _ _ _).q (.trans e1<| .trans (dI (cd 303))<| .trans (mE (cd 304) qQ (r:=305) rfl) f1) ⟨aZ,hr,hf,.inl ⟨rfl,[],rfl,f2⟩⟩
 ·obtain⟨⟨hc,h2,hp,h3,hw⟩,h4,c0,c1,h5,hx⟩:=id hd
  obtain⟨aP,lP,sP⟩:=I.pa hp;have e1:=r3a (X:=X) (bk:= []) (nm:=nm) (pd:=pd) (j:=5) I (cd 309) h2 h3 h5 aP aeg;have I1:Inv c th (S.swap d.wk.f.p d.wk.f.w d.wk.f.x):=I.swap aP fun _=>sP _ hx
  have K1:=Kp.swap S d.wk.f.p d.wk.f.w d.wk.f.x
  by_cases h:S.w d.wk.f.p=d.wk.f.w
  ·rw [aY h] at e1
   have e2:=e1.trans<| .trans (Ch I1 (cd 310) (wr h4 O_ O_) ⟨c0,c1⟩)<| .trans (wY (cd 311) h4) (mE (cd 312) WV (r:=313) rfl)
   have K2:=K1.trans (Kp.shift _ d.wk.f.cur 4);have iF:0≤((S.swap d.wk.f.p d.wk.f.w d.wk.f.x).shift d.wk.f.cur 4).rc:=hr;obtain⟨k,S',R',cG,cE,I',K',hk',⟨cZ,e',hr',ha,hn⟩ | ⟨hr',ha,hn⟩⟩:=(ki (X:=X) (v:=true) (R:=cg R 20 (u64 d.wk.f.cur)) (bs:= [313]) (nm:=nm) (pd:=pd) (I1.shift d.wk.f.cur 4) iF c0 c1 rfl).cases
   ·have e:d.step c S=(false,{wk:={d.wk with az:=9},part:=some k},S'):=by unfold De.step;simp [hs,h,hr']
    rw [e];exact bt.go I' (K2.trans K').q (e2.trans hn) ⟨(hk' 47 O_).trans aZ,by rw [K'.rc];exact iF,hf,.inr (.inr (.inr (.inl ⟨rfl,k,e',rfl,rfl,ha⟩)))⟩
   ·have e:d.step c S=De.lift {d with part:=some k} (Wk.jk {d.wk with az:=9} 5 S'):=by unfold De.step;simp [hs,h,hr']
    rw [e];exact bt.behind (K2.trans K').q (e2.trans (hn [] 313 rfl)) (ET (d:={wk:={d.wk with az:=9},part:=some k}) I' ((hk' 47 O_).trans aZ) (by rw [K'.rc];exact iF) hf)
  ·rw [aK h] at e1
   have e:d.step c S=(false,{d with wk:={d.wk with f:=Fi.new d.wk.f.root d.wk.f.key,az:=10}},S.swap d.wk.f.p d.wk.f.w d.wk.f.x):=by unfold De.step;simp [hs,h,De.lift,Wk.anew]
   rw [e];obtain⟨f1,f2⟩:=l8 (c:=c) (th:=th) (v:=true) (S:=S.swap d.wk.f.p d.wk.f.w d.wk.f.x) (X:=X) (R:=R) (nm:=nm) (pd:=pd) (bk:= [318]) hr hc.r0 hc.r1 hc.pr hc.ky;exact bt.go I1 K1.q (.trans e1<| .trans (dI (cd 316))<| .trans (mE (cd 317) qQ (r:=318) rfl) f1) ⟨aZ,hr,hf,.inr (.inr (.inr (.inr (.inl ⟨rfl,[],rfl,f2⟩))))⟩
 ·obtain⟨k,S',R',cG,cE,I',K',hk',⟨cZ,e',hr',ha,hn⟩ | ⟨hr',ha,hn⟩⟩:=(nY (X:=X) (bs:= [313]) I aZ ha).cases
  ·have e:d.step c S=(false,{d with part:=some k},S'):=by unfold De.step;simp [hs,hp,hr']
   rw [e];exact bt.go I' K'.q hn ⟨(hk' 47 O_).trans aZ,by rw [K'.rc];exact hr,hf,.inr (.inr (.inr (.inl ⟨hs,k,e',rfl,rfl,ha⟩)))⟩
  ·have e:d.step c S=De.lift {d with part:=some k} (d.wk.jk 5 S'):=by unfold De.step;simp [hs,hp,hr']
   rw [e];exact bt.behind K'.q (hn [] 313 rfl) (ET (d:={d with part:=some k}) I' ((hk' 47 O_).trans aZ) (by rw [K'.rc];exact hr) hf)
 ·obtain⟨k,S',R',cG,cE,I',K',hk,⟨cZ,e',hr',ha,hn⟩ | ⟨hr',ha,hn⟩⟩:=kR (X:=X) (bs:= [318]) I aZ ha
  ·have e:d.step c S=(false,{d with wk:={d.wk with f:=k}},S'):=by unfold De.step;simp [hs,hr']
   rw [e];exact bt.go I' K'.q hn ⟨(hk 47 O_).trans aZ,by rw [K'.rc];exact hr,hf,.inr (.inr (.inr (.inr (.inl ⟨hs,e',rfl,ha⟩))))⟩
  ·have e:d.step c S=De.lift d (Wk.jk {d.wk with f:=k} 5 S'):=by unfold De.step;simp [hs,hr']
   rw [e];exact bt.behind K'.q (.trans (hn [] 318 rfl) (tO (cd 318) aeh)) (ET (d:={d with wk:={d.wk with f:=k}}) I' ((hk 47 O_).trans aZ) (by rw [K'.rc];exact hr) hf)
 ·obtain⟨S',hl,I',K',R',hk,⟨h3,cZ,oP,hn⟩ | ⟨h3,hn⟩⟩:=uz (X:=X) (bk:=bk) (nm:=nm) (pd:=pd) I aZ ha
  ·have e:d.step c S=(false,{d with wk:={d.wk with lv:=d.wk.lv+1}},S'):=by unfold De.step Wk.left;simp [hs,hl,h3,De.lift]
   rw [e];exact bt.go I' K'.q hn ⟨(hk 47 O_).trans aZ,by rw [K'.rc];exact hr,hf,.inr (.inr (.inr (.inr (.inr ⟨hs,hf,oP,hw⟩))))⟩
  ·have e:d.step c S=(true,{d with wk:={d.wk with lv:=d.wk.lv+1}},S'.tell d.wk.cj 0):=by unfold De.step Wk.left;simp [hs,hl,h3,hf,De.lift]
   rw [e]
   rcases hw with ⟨h1,h2⟩ | ⟨h1,h2⟩
   ·rw [h1]
    exact bt.done (I'.tell 5 0) (K'.q.trans (.tell _ 5 0)) (.trans (hn [] 315 h2) (mL (S:=S'.tell 5 0) (I'.tell 5 0) (cd 315) (I'.cy 5 0)))
   ·rw [h1]
    exact bt.done (I'.tell 6 0) (K'.q.trans (.tell _ 6 0)) (.trans (hn [] 322 h2) (mL (S:=S'.tell 6 0) (I'.tell 6 0) (cd 322) (I'.cy 6 0)))
end
section
variable{K:Ky}{c:Cf}{S:PM}{ss:List Sv}{w0 w w':World}{F H:List En}{d b n k kt th:Nat}{cs:List Value}{tv rv:Value}
def fe{α:Type}(K:Ky)(c:Cf)(ss:List Sv)(w0:World)(F:List En)(O:α→List En→Prop)(r:Bool×α×PM):Ending→World→Prop:=fun e w'=>e=.returned r.1∧∃ L,O r.2.1 L∧aq K c r.2.2 ss w0 w' (L++F)
theorem fZ{r:Nat}(z:Int){i:Int}(h:aq K c S ss w0 w F)(ok:bY c.T c.R c.H c.Re c.Ca c.S c.B)(hn:1≤r∧r≤13)(h9:r≠9)(hx:Ix c r i)(hz:z=r):
  cm 276 #[some K.bH,z,i] w (.int .i64 (c.ad r i)) fun w'=>Ext w w':=by
 subst hz;go_enter func276,ntmps276;go_wp2_with fail;refine un (cL h) fun wz hw=>?_
 obtain rfl:=hw.symm;exact Tf
theorem gH(x:Int)(w:World)(h:0≤x∧x<8589934592∧lk x<1024):cm 275 #[.int .u64 x] w (.int .i64 (lk x)) fun w'=>w'=w:=by
 go_enter func275,ntmps275;exact QI
theorem jC(x:Int)(w:World)(h:0≤x∧x<8589934592∧lk x<1024):cm 285 #[.int .u64 x] w (.bool (Bn x)) fun w'=>w'=w:=by
 go_enter func285,ntmps285;exact QI
theorem jh(x:Int)(w:World)(h:0≤x∧x<8589934592∧lk x<1024):cm 280 #[.int .u64 x] w (.int .u64 (bare x)) fun w'=>w'=w:=by
 have hb:=tA (lk x) w (eZ x) h.2.2;rw [show pk (lk x)=bare x from rfl] at hb;go_enter func280,ntmps280;go_wp2_with fail;refine(jr x w h.1 h.2.1 h.2.2).mono ?_;rintro e w ⟨rfl,rfl⟩;go_wp2_with fail;refine hb.mono ?_;rintro e w ⟨rfl,rfl⟩;exact iB
@[reducible] def dG(K:Ky)(k:Nat)(th:Int)(rv:Value)(f:Fi):En:=ob k 276 [some K.bH,th,f.root,f.key,f.pc,f.p,.int .u64 f.w,f.cur,.int .u64 f.x,f.k,f.looked,rv,f.found,f.pt,f.done]
def jN(K:Ky)(c:Cf)(th k:Nat)(f:Fi)(L:List En):Prop:=
 (f.pc≠13∧∃ rv,L= [dG K k th rv f])∨(f.pc=13∧∃ r kr Lr,f.ret=some r∧zC K c th kr r Lr∧L=dG K k th (some kr) f::Lr)
variable{fo dn:Bool}{ret:Option Rt}
theorem CR{rt ky pc pa wo cu xx kk lo pt:Int}{b:Bool}{x:Int}(h:aq K c S ss w0 w (dG K k th rv ⟨rt,ky,pc,pa,wo,cu,xx,kk,lo,ret,fo,pt,dn⟩::F)):
  cm 279 #[some k,b,x] w true fun w'=>aq K c S ss w0 w' (dG K k th rv ⟨rt,ky,0,pa,wo,cu,xx,kk,lo,ret,b,x,true⟩::F):=by
 have p0:=h.af aj;have n1:=h.put 12 b;have p1:=n1.af aj;have n2:=n1.put 13 x;have p2:=n2.af aj;have n3:=n2.put 14 true;have p3:=n3.af aj;have n4:=n3.put 4 (.int .i64 0);go_enter func279,ntmps279;go_wp2;go_ret;exact⟨rfl,n4⟩
theorem VG{rt ky pc pa wo cu xx kk lo pt:Int}(h:aq K c S ss w0 w (dG K k th rv ⟨rt,ky,pc,pa,wo,cu,xx,kk,lo,ret,fo,pt,dn⟩::F))(hw:0≤xx∧xx<8589934592∧lk xx<1024)(hq:lk (bare xx)<0):
  Calls prog 286 #[some k] w (fe K c ss w0 F (jN K c th k) (true,⟨rt,ky,0,pa,(bare xx),(lk (bare xx)),xx,kk,lo,ret,false,lo,true⟩,S)):=by
 have DG:0≤bare xx∧bare xx<8589934592∧lk (bare xx)<1024:=Sj;have dq:=cM hq;have p0:=h.af aj;have n1:=h.put 6 (.int .u64 (bare xx));have p1:=n1.af aj;have n2:=n1.put 7 (.int .i64 (lk (bare xx)));have p2:=n2.af aj;go_in;go_wp2_with fail;refine un (jh _ _ hw) fun wz hw=>?_
 obtain rfl:=hw.symm;go_wp2_with fail;refine un (gH _ _ DG) fun wz hw=>?_
 obtain rfl:=hw.symm;go_wp2_with fail;refine un (CR (ret:=ret) (b:=false) (x:=lo) n2) fun w9 m9=>?_
 exact Nk
theorem VH{rt ky pc pa wo cu xx kk lo pt:Int}(h:aq K c S ss w0 w (dG K k th rv ⟨rt,ky,pc,pa,wo,cu,xx,kk,lo,ret,fo,pt,dn⟩::F))(hw:0≤xx∧xx<8589934592∧lk xx<1024)(hq:¬lk (bare xx)<0):
  Calls prog 286 #[some k] w (fe K c ss w0 F (jN K c th k) (false,⟨rt,ky,12,pa,(bare xx),(lk (bare xx)),xx,kk,lo,ret,fo,pt,dn⟩,S)):=by
 have DG:0≤bare xx∧bare xx<8589934592∧lk (bare xx)<1024:=Sj;have dq:=dy hq;have p0:=h.af aj;have n1:=h.put 6 (.int .u64 (bare xx));have p1:=n1.af aj;have n2:=n1.put 7 (.int .i64 (lk (bare xx)));have p2:=n2.af aj;go_in;go_wp2_with fail;refine un (jh _ _ hw) fun wz hw=>?_
 obtain rfl:=hw.symm;go_wp2_with fail;refine un (gH _ _ DG) fun wz hw=>?_
 obtain rfl:=hw.symm;exact NF
variable{f:Fi}
theorem RJ(h:aq K c S ss w0 w (dG K k th rv f::F))(hw:0≤f.x∧f.x<8589934592∧lk f.x<1024):
  Calls prog 286 #[some k] w (fe K c ss w0 F (jN K c th k) (f.out S)):=by
 obtain⟨rt,ky,pc,pa,wo,cu,xx,kk,lo,ret,fo,pt,dn⟩:=f;have e:Fi.out ⟨rt,ky,pc,pa,wo,cu,xx,kk,lo,ret,fo,pt,dn⟩ S=if lk (bare xx)<0 then(true,⟨rt,ky,0,pa,(bare xx),(lk (bare xx)),xx,kk,lo,ret,false,lo,true⟩,S) else(false,⟨rt,ky,12,pa,(bare xx),(lk (bare xx)),xx,kk,lo,ret,fo,pt,dn⟩,S):=rfl;rw [e]
 by_cases hq:lk (bare xx)<0
 ·rw [aY hq];exact VG h hw hq
 ·rw [aK hq];exact VH h hw hq
theorem aaA{rt ky pa wo cu xx kk lo pt:Int}(h:aq K c S ss w0 w (dG K k S.th rv ⟨rt,ky,1,pa,wo,cu,xx,kk,lo,ret,fo,pt,dn⟩::F))(hd:dk K.toMk d∈F)(g:Gd n c S ss)(ax:Ax S)(a:0≤rt∧rt<S.words.length)(hw:Lw c (S.w rt))(hq:¬lk (S.w rt)<0):
  b6 272 k d w (fe K c ss w0 F (jN K c S.th k) (false,⟨rt,ky,2,rt,(S.w rt),(lk (S.w rt)),xx,kk,lo,ret,fo,pt,dn⟩,S.load rt)):=by
 have p0:=h.af aj;have hwk:=dQ g.I hw;have dq:=dy hq;go_enter func272,ntmps272;go_wp2_with fail
 go_cut [] (fun wx=>Hid (aq K c (S.load rt) ss w0 wx (dG K k S.th rv ⟨rt,ky,1,rt,(S.w rt),cu,xx,kk,lo,ret,fo,pt,dn⟩::F)))
 case first=>exact abL
 have m1:=hcut.out;clear hcut;have bB:=m1.af aj;have n2:=m1.put 7 (.int .i64 (lk (S.w rt)));have jA:=n2.af aj;have n3:=n2.put 4 (.int .i64 2);have xb:=n3.af aj;go_wp2_with fail;refine un (gH _ _ hwk) fun wz hw=>?_
 obtain rfl:=hw.symm;go_wp2;go_ret;exact⟨rfl,[_],.inl ⟨S_,_,rfl⟩,n3⟩
theorem aaz{rt ky pa wo cu xx kk lo pt:Int}(h:aq K c S ss w0 w (dG K k S.th rv ⟨rt,ky,1,pa,wo,cu,xx,kk,lo,ret,fo,pt,dn⟩::F))(hd:dk K.toMk d∈F)(g:Gd n c S ss)(ax:Ax S)(a:0≤rt∧rt<S.words.length)(hw:Lw c (S.w rt))(hq:lk (S.w rt)<0):
  b6 272 k d w (fe K c ss w0 F (jN K c S.th k) (true,⟨rt,ky,0,rt,(S.w rt),(lk (S.w rt)),xx,kk,lo,ret,false,S.now,true⟩,S.load rt)):=by
 have p0:=h.af aj;have hwk:=dQ g.I hw;have dq:=cM hq;go_enter func272,ntmps272;go_wp2_with fail
 go_cut [] (fun wx=>Hid (aq K c (S.load rt) ss w0 wx (dG K k S.th rv ⟨rt,ky,1,rt,(S.w rt),cu,xx,kk,lo,ret,fo,pt,dn⟩::F)))
 case first=>exact abL
 have m1:=hcut.out;clear hcut;have bB:=m1.af aj;have n2:=m1.put 7 (.int .i64 (lk (S.w rt)));have jA:=n2.af aj;have n3:=n2.put 4 (.int .i64 2);have xb:=n3.af aj;go_wp2_with fail;refine un (gH _ _ hwk) fun wz hw=>?_
 obtain rfl:=hw.symm;go_wp2_with fail;refine un (gK n3 (mT hd)) fun wz hw=>?_
 obtain rfl:=hw.symm;go_wp2_with fail;refine un (CR (ret:=ret) (b:=false) (x:=S.now) n3) fun w9 m9=>?_
 exact Nk
theorem afJ{rt ky pa wo cu xx kk lo pt:Int}(h:aq K c S ss w0 w (dG K k S.th rv ⟨rt,ky,2,pa,wo,cu,xx,kk,lo,ret,fo,pt,dn⟩::F))(hd:dk K.toMk d∈F)(g:Gd n c S ss)(ax:Ax S)(hr:0≤S.rc):
  b6 272 k d w (fe K c ss w0 F (jN K c S.th k) (false,⟨rt,ky,3,pa,wo,cu,xx,kk,lo,ret,fo,pt,dn⟩,S.store (S.hz c 1) wo)):=by
 have hH:=g.I.bd.2.2.2.2.1;have a:=qU g hr (i:=1) O_ O_;have hA:=fun(W:World) (h:aq K c S ss w0 W (dG K k S.th rv ⟨rt,ky,2,pa,wo,cu,xx,kk,lo,ret,fo,pt,dn⟩::F))=>jj h g.I 1 hr O_ O_
 have p0:=h.af aj;go_enter func272,ntmps272;exact abF
theorem aax{rt ky pa wo cu xx kk lo pt:Int}(h:aq K c S ss w0 w (dG K k S.th rv ⟨rt,ky,3,pa,wo,cu,xx,kk,lo,ret,fo,pt,dn⟩::F))(hd:dk K.toMk d∈F)(_:Gd n c S ss)(ax:Ax S)(a:0≤pa∧pa<S.words.length)(hq:S.w pa=wo):
  b6 272 k d w (fe K c ss w0 F (jN K c S.th k) (false,⟨rt,ky,4,pa,wo,cu,xx,kk,lo,ret,fo,pt,dn⟩,S.load pa)):=by
 have p0:=h.af aj;have hb:(S.w pa !=wo)=false:=by simp [hq]
 clear hq;have n0:=h.put 4 (.int .i64 4);have WQ:=n0.af aj;go_enter func272,ntmps272;go_wp2
 go_region_held3 (AF k [Value.pointer (some ⟨K.bH,0,none⟩),S.th,rt,ky,.int .i64 4,pa,.int .u64 wo,cu,.int .u64 xx,kk,lo,rv,fo,pt,dn]) (first | exact WQ | exact bB) (first | ((with_reducible refine un (bO n0.drew (mT hd) ax a) fun dx m1=>?_);have bB:=m1.af aj))
 go_wp2;go_ret;exact⟨rfl,[_],.inl ⟨S_,_,rfl⟩,m1⟩
theorem aay{rt ky pa wo cu xx kk lo pt:Int}(h:aq K c S ss w0 w (dG K k S.th rv ⟨rt,ky,3,pa,wo,cu,xx,kk,lo,ret,fo,pt,dn⟩::F))(hd:dk K.toMk d∈F)(_:Gd n c S ss)(ax:Ax S)(a:0≤pa∧pa<S.words.length)(hq:S.w pa≠wo):
  b6 272 k d w (fe K c ss w0 F (jN K c S.th k) (false,⟨rt,ky,1,pa,wo,cu,xx,kk,lo,ret,fo,pt,dn⟩,S.load pa)):=by
 have p0:=h.af aj;have hb:(S.w pa !=wo)=true:=by simp [hq]
 clear hq;have n0:=h.put 4 (.int .i64 4);have WQ:=n0.af aj;go_enter func272,ntmps272;go_wp2
 go_region_held3 (AF k [Value.pointer (some ⟨K.bH,0,none⟩),S.th,rt,ky,.int .i64 4,pa,.int .u64 wo,cu,.int .u64 xx,kk,lo,rv,fo,pt,dn]) (first | exact WQ | exact bB) (first | ((with_reducible refine un (bO n0.drew (mT hd) ax a) fun dx m1=>?_);have bB:=m1.af aj))
 exact QE
theorem afI{rt ky pa wo cu xx kk lo pt:Int}(h:aq K c S ss w0 w (dG K k S.th rv ⟨rt,ky,4,pa,wo,cu,xx,kk,lo,ret,fo,pt,dn⟩::F))(hd:dk K.toMk d∈F)(g:Gd n c S ss)(ax:Ax S)(hs:0≤cu∧cu<c.S):
  b6 272 k d w (fe K c ss w0 F (jN K c S.th k) (false,⟨rt,ky,5,pa,wo,cu,(S.w (c.ad 13 cu)),kk,lo,ret,fo,pt,dn⟩,S.load (c.ad 13 cu))):=by
 have xi:=g.I.iO (r:=13) S_ hs.1 hs.2;have a:=g.I.eX (r:=13) O_ O_ xi;have p0:=h.af aj;go_enter func272,ntmps272;go_wp2
 go_region_held3 (fun w'=>w'.cell? ⟨k,0,none⟩=some (some K.bH)∧w'.cell? ⟨k,7,none⟩=some (.int .i64 cu)) (first | exact⟨p0.1 0,p0.1 7⟩ | exact⟨bB.1 0,bB.1 7⟩ | exact⟨dN.1 0,dN.1 7⟩ | exact⟨jA.1 0,jA.1 7⟩) (first | (have C:=fZ 13 h.drew g.I.ok O_ O_ xi rfl;(with_reducible refine C.mono ?_);clear C;rintro e dx ⟨rfl,gx⟩;have m1:=h.drew.next gx;have bB:=m1.af aj) | ((with_reducible refine un (bO m1 (mT hd) ax a) fun jP m2=>?_);have dN:=m2.af aj;have n2:=m2.put 8 (.int .u64 (S.w (c.ad 13 cu)));have jA:=n2.af aj))
 exact NF
theorem afH{rt ky pa wo cu xx kk lo pt:Int}(h:aq K c S ss w0 w (dG K k S.th rv ⟨rt,ky,5,pa,wo,cu,xx,kk,lo,ret,fo,pt,dn⟩::F))(hd:dk K.toMk d∈F)(g:Gd n c S ss)(ax:Ax S)(hr:0≤S.rc)(hw:Lw c xx):
  b6 272 k d w (fe K c ss w0 F (jN K c S.th k) (false,⟨rt,ky,6,pa,wo,cu,xx,kk,lo,ret,fo,pt,dn⟩,S.store (S.hz c 0) (bare xx))):=by
 have hH:=g.I.bd.2.2.2.2.1;have a:=qU g hr (i:=0) O_ O_;have hwk:=dQ g.I hw;have hA:=fun(W:World) (h:aq K c S ss w0 W (dG K k S.th rv ⟨rt,ky,5,pa,wo,cu,xx,kk,lo,ret,fo,pt,dn⟩::F))=>jj h g.I 0 hr O_ O_
 have p0:=h.af aj;go_enter func272,ntmps272;go_wp2
 go_region_held3 (mR p0) (first | exact p0 | exact bB | exact dN) (first | ((with_reducible refine un (hA _ h.drew) fun dx gx=>?_);have m1:=h.drew.next gx;have bB:=m1.af aj) | ((with_reducible refine un (jh _ _ hwk) fun wz hw=>?_);obtain rfl:=hw.symm) | ((with_reducible refine un (cx m1 (mT hd) ax a) fun jP m2=>?_);have dN:=m2.af aj))
 exact NH
theorem aav{rt ky pa wo cu xx kk lo pt:Int}(h:aq K c S ss w0 w (dG K k S.th rv ⟨rt,ky,6,pa,wo,cu,xx,kk,lo,ret,fo,pt,dn⟩::F))(hd:dk K.toMk d∈F)(g:Gd n c S ss)(ax:Ax S)(hs:0≤cu∧cu<c.S)(hq:S.w (c.ad 13 cu)=xx):
  b6 272 k d w (fe K c ss w0 F (jN K c S.th k) (false,⟨rt,ky,7,pa,wo,cu,xx,kk,S.now,ret,fo,pt,dn⟩,S.load (c.ad 13 cu))):=by
 have xi:=g.I.iO (r:=13) S_ hs.1 hs.2;have a:=g.I.eX (r:=13) O_ O_ xi;have p0:=h.af aj;have hb:(S.w (c.ad 13 cu) !=xx)=false:=by simp [hq]
 clear hq;have n0:=h.put 4 (.int .i64 7);have WQ:=n0.af aj;go_enter func272,ntmps272;go_wp2_with fail;refine un (gK n0 (mT hd)) fun wz hw=>?_
 obtain rfl:=hw.symm;have n1:=n0.put 10 S.now;have gM:=n1.af aj;go_wp2
 go_region_held3 (AF k [Value.pointer (some ⟨K.bH,0,none⟩),S.th,rt,ky,.int .i64 7,pa,.int .u64 wo,cu,.int .u64 xx,kk,S.now,rv,fo,pt,dn]) (first | exact gM | exact bB | exact dN) (first | (have C:=fZ 13 n1.drew g.I.ok O_ O_ xi rfl;(with_reducible refine C.mono ?_);clear C;rintro e dx ⟨rfl,gx⟩;have m1:=n1.drew.next gx;have bB:=m1.af aj) | ((with_reducible refine un (bO m1 (mT hd) ax a) fun jP m2=>?_);have dN:=m2.af aj))
 go_wp2;go_ret;exact⟨rfl,[_],.inl ⟨S_,_,rfl⟩,m2⟩
theorem aaw{rt ky pa wo cu xx kk lo pt:Int}(h:aq K c S ss w0 w (dG K k S.th rv ⟨rt,ky,6,pa,wo,cu,xx,kk,lo,ret,fo,pt,dn⟩::F))(hd:dk K.toMk d∈F)(g:Gd n c S ss)(ax:Ax S)(hs:0≤cu∧cu<c.S)(hq:S.w (c.ad 13 cu)≠xx):
  b6 272 k d w (fe K c ss w0 F (jN K c S.th k) (false,⟨rt,ky,1,pa,wo,cu,xx,kk,S.now,ret,fo,pt,dn⟩,S.load (c.ad 13 cu))):=by
 have xi:=g.I.iO (r:=13) S_ hs.1 hs.2;have a:=g.I.eX (r:=13) O_ O_ xi;have p0:=h.af aj;have hb:(S.w (c.ad 13 cu) !=xx)=true:=by simp [hq]
 clear hq;have n0:=h.put 4 (.int .i64 7);have WQ:=n0.af aj;go_enter func272,ntmps272;go_wp2_with fail;refine un (gK n0 (mT hd)) fun wz hw=>?_
 obtain rfl:=hw.symm;have n1:=n0.put 10 S.now;have gM:=n1.af aj;go_wp2
 go_region_held3 (AF k [Value.pointer (some ⟨K.bH,0,none⟩),S.th,rt,ky,.int .i64 7,pa,.int .u64 wo,cu,.int .u64 xx,kk,S.now,rv,fo,pt,dn]) (first | exact gM | exact bB | exact dN) (first | (have C:=fZ 13 n1.drew g.I.ok O_ O_ xi rfl;(with_reducible refine C.mono ?_);clear C;rintro e dx ⟨rfl,gx⟩;have m1:=n1.drew.next gx;have bB:=m1.af aj) | ((with_reducible refine un (bO m1 (mT hd) ax a) fun jP m2=>?_);have dN:=m2.af aj))
 exact NH
theorem afG{rt ky pa wo cu xx kk lo pt:Int}(h:aq K c S ss w0 w (dG K k S.th rv ⟨rt,ky,7,pa,wo,cu,xx,kk,lo,ret,fo,pt,dn⟩::F))(hd:dk K.toMk d∈F)(g:Gd n c S ss)(ax:Ax S)(hs:0≤cu∧cu<c.S):
  b6 272 k d w (fe K c ss w0 F (jN K c S.th k) (false,⟨rt,ky,8,pa,wo,cu,xx,(wrap64 (S.w (c.ad 11 cu))),lo,ret,fo,pt,dn⟩,S.load (c.ad 11 cu))):=by
 have xi:=g.I.iO (r:=11) S_ hs.1 hs.2;have a:=g.I.eX (r:=11) O_ O_ xi;have p0:=h.af aj;go_enter func272,ntmps272;go_wp2
 go_region_held3 (fun w'=>w'.cell? ⟨k,0,none⟩=some (some K.bH)∧w'.cell? ⟨k,7,none⟩=some (.int .i64 cu)) (first | exact⟨p0.1 0,p0.1 7⟩ | exact⟨bB.1 0,bB.1 7⟩ | exact⟨dN.1 0,dN.1 7⟩ | exact⟨jA.1 0,jA.1 7⟩) (first | (have C:=fZ 11 h.drew g.I.ok O_ O_ xi rfl;(with_reducible refine C.mono ?_);clear C;rintro e dx ⟨rfl,gx⟩;have m1:=h.drew.next gx;have bB:=m1.af aj) | ((with_reducible refine un (bO m1 (mT hd) ax a) fun jP m2=>?_);have dN:=m2.af aj;have n2:=m2.put 9 (.int .i64 (wrap64 (S.w (c.ad 11 cu))));have jA:=n2.af aj) | ((with_reducible refine un (jZ _ _) fun wz hw=>?_);obtain rfl:=hw.symm))
 exact NF
theorem afS{rt ky pa wo cu xx kk lo pt:Int}(h:aq K c S ss w0 w (dG K k S.th rv ⟨rt,ky,8,pa,wo,cu,xx,kk,lo,ret,fo,pt,dn⟩::F))(hd:dk K.toMk d∈F)(_:Gd n c S ss)(ax:Ax S)(a:0≤pa∧pa<S.words.length)(hq:S.w pa≠wo):
  b6 281 k d w (fe K c ss w0 F (jN K c S.th k) (false,⟨rt,ky,1,pa,wo,cu,xx,kk,lo,ret,fo,pt,dn⟩,S.load pa)):=by
 have p0:=h.af aj;have hb:(S.w pa !=wo)=true:=by simp [hq]
 clear hq;go_enter func281,ntmps281;go_wp2
 go_region_held3 (mR p0) (first | exact p0 | exact bB) (first | ((with_reducible refine un (bO h.drew (mT hd) ax a) fun dx m1=>?_);have bB:=m1.af aj))
 exact QE
theorem afR{rt ky pa wo cu xx kk lo pt:Int}(h:aq K c S ss w0 w (dG K k S.th rv ⟨rt,ky,8,pa,wo,cu,xx,kk,lo,ret,fo,pt,dn⟩::F))(hd:dk K.toMk d∈F)(g:Gd n c S ss)(ax:Ax S)(a:0≤pa∧pa<S.words.length)(hq:S.w pa=wo)(hw:Lw c xx)(hm:Bn xx=true):
  b6 281 k d w (fe K c ss w0 F (jN K c S.th k) (false,⟨rt,ky,11,pa,wo,cu,xx,kk,lo,ret,fo,pt,dn⟩,S.load pa)):=by
 have p0:=h.af aj;have hwk:=dQ g.I hw;have hb:(S.w pa !=wo)=false:=by simp [hq]
 clear hq;go_enter func281,ntmps281;go_wp2
 go_region_held3 (mR p0) (first | exact p0 | exact bB) (first | ((with_reducible refine un (bO h.drew (mT hd) ax a) fun dx m1=>?_);have bB:=m1.af aj))
 go_wp2_with fail;refine un (jC _ _ hwk) fun wz hw=>?_
 obtain rfl:=hw.symm;exact QE
theorem afO{rt ky pa wo cu xx kk lo pt:Int}(h:aq K c S ss w0 w (dG K k S.th rv ⟨rt,ky,8,pa,wo,cu,xx,kk,lo,ret,fo,pt,dn⟩::F))(hd:dk K.toMk d∈F)(g:Gd n c S ss)(ax:Ax S)(a:0≤pa∧pa<S.words.length)(hq:S.w pa=wo)(hw:Lw c xx)(hm:Bn xx=false)(he:kk=ky):
  b6 281 k d w (fe K c ss w0 F (jN K c S.th k) (true,⟨rt,ky,0,pa,wo,cu,xx,kk,lo,ret,true,lo,true⟩,S.load pa)):=by
 have p0:=h.af aj;have hwk:=dQ g.I hw;have hb:(S.w pa !=wo)=false:=by simp [hq]
 have hk:(kk==ky)=true:=beq_iff_eq.2 he;clear hq he;go_enter func281,ntmps281;go_wp2
 go_region_held3 (mR p0) (first | exact p0 | exact bB) (first | ((with_reducible refine un (bO h.drew (mT hd) ax a) fun dx m1=>?_);have bB:=m1.af aj))
 go_wp2_with fail;refine un (jC _ _ hwk) fun wz hw=>?_
 obtain rfl:=hw.symm;go_wp2
 go_region_held3 (AF k [Value.pointer (some ⟨K.bH,0,none⟩),S.th,rt,ky,.int .i64 8,pa,.int .u64 wo,cu,.int .u64 xx,kk,lo,rv,fo,pt,dn]) (first | exact bB) (fail)
 go_wp2_with fail;refine un (CR (ret:=ret) (b:=true) (x:=lo) m1.drew) fun w9 m9=>?_
 exact Nk
theorem afN{rt ky pa wo cu xx kk lo pt:Int}(h:aq K c S ss w0 w (dG K k S.th rv ⟨rt,ky,8,pa,wo,cu,xx,kk,lo,ret,fo,pt,dn⟩::F))(hd:dk K.toMk d∈F)(g:Gd n c S ss)(ax:Ax S)(a:0≤pa∧pa<S.words.length)(hq:S.w pa=wo)(hw:Lw c xx)(hm:Bn xx=false)(he:kk≠ky)(hg:ky<kk):
  b6 281 k d w (fe K c ss w0 F (jN K c S.th k) (true,⟨rt,ky,0,pa,wo,cu,xx,kk,lo,ret,false,S.now,true⟩,S.load pa)):=by
 have p0:=h.af aj;have hwk:=dQ g.I hw;have hb:(S.w pa !=wo)=false:=by simp [hq]
 have hk:(kk==ky)=false:=gp.2 he;have dg:=cM hg;clear hq he;go_enter func281,ntmps281;go_wp2
 go_region_held3 (mR p0) (first | exact p0 | exact bB) (first | ((with_reducible refine un (bO h.drew (mT hd) ax a) fun dx m1=>?_);have bB:=m1.af aj))
 go_wp2_with fail;refine un (jC _ _ hwk) fun wz hw=>?_
 obtain rfl:=hw.symm;go_wp2
 go_region_held3 (AF k [Value.pointer (some ⟨K.bH,0,none⟩),S.th,rt,ky,.int .i64 8,pa,.int .u64 wo,cu,.int .u64 xx,kk,lo,rv,fo,pt,dn]) (first | exact bB) (fail)
 go_wp2
 go_region_held3 (AF k [Value.pointer (some ⟨K.bH,0,none⟩),S.th,rt,ky,.int .i64 8,pa,.int .u64 wo,cu,.int .u64 xx,kk,lo,rv,fo,pt,dn]) (first | exact bB) (fail)
 go_wp2_with fail;refine un (gK m1.drew.drew (mT hd)) fun wz hw=>?_
 obtain rfl:=hw.symm;go_wp2_with fail;refine un (CR (ret:=ret) (b:=false) (x:=S.now) m1.drew.drew) fun w9 m9=>?_
 exact Nk
theorem afM{rt ky pa wo cu xx kk lo pt:Int}(h:aq K c S ss w0 w (dG K k S.th rv ⟨rt,ky,8,pa,wo,cu,xx,kk,lo,ret,fo,pt,dn⟩::F))(hd:dk K.toMk d∈F)(g:Gd n c S ss)(ax:Ax S)(a:0≤pa∧pa<S.words.length)(hq:S.w pa=wo)(hw:Lw c xx)(hm:Bn xx=false)(hs:0≤cu∧cu<c.S)(he:kk≠ky)(hg:¬ky<kk)(hl:lk xx<0):
  b6 281 k d w (fe K c ss w0 F (jN K c S.th k) (true,⟨rt,ky,0,(c.ad 13 cu),xx,(-1),xx,kk,lo,ret,false,lo,true⟩,S.load pa)):=by
 have dl:=cM hl;have p0:=h.af aj;have hwk:=dQ g.I hw;have xi:=g.I.iO (r:=13) S_ hs.1 hs.2;have hb:(S.w pa !=wo)=false:=by simp [hq]
 have hk:(kk==ky)=false:=gp.2 he;have dg:=dy hg;have hI:=g.I;clear hq he;go_enter func281,ntmps281;go_wp2
 go_region_held3 (mR p0) (first | exact p0 | exact bB) (first | ((with_reducible refine un (bO h.drew (mT hd) ax a) fun dx m1=>?_);have bB:=m1.af aj))
 go_wp2_with fail;refine un (jC _ _ hwk) fun wz hw=>?_
 obtain rfl:=hw.symm;go_wp2
 go_region_held3 (AF k [Value.pointer (some ⟨K.bH,0,none⟩),S.th,rt,ky,.int .i64 8,pa,.int .u64 wo,cu,.int .u64 xx,kk,lo,rv,fo,pt,dn]) (first | exact bB) (fail)
 go_wp2
 go_region_held3 (AF k [Value.pointer (some ⟨K.bH,0,none⟩),S.th,rt,ky,.int .i64 8,pa,.int .u64 wo,cu,.int .u64 xx,kk,lo,rv,fo,pt,dn]) (first | exact bB) (fail)
 go_wp2_with fail;have m1:=m1.drew.drew;have bB:=m1.af aj
 go_cut [] (fun wx=>Hid (aq K c (S.load pa) ss w0 wx (dG K k S.th rv ⟨rt,ky,8,(c.ad 13 cu),xx,cu,xx,kk,lo,ret,fo,pt,dn⟩::F)))
 case first=>exact abU
 have m5:=hcut.out;clear hcut;have pm5:=m5.af aj;have n6:=m5.put 7 (.int .i64 (-1));have pn6:=n6.af aj;go_wp2_with fail;refine un (gH _ _ hwk) fun wz hw=>?_
 obtain rfl:=hw.symm;go_wp2_with fail;refine un (CR (ret:=ret) (b:=false) (x:=lo) n6) fun w9 m9=>?_
 exact Nk
theorem afL{rt ky pa wo cu xx kk lo pt:Int}(h:aq K c S ss w0 w (dG K k S.th rv ⟨rt,ky,8,pa,wo,cu,xx,kk,lo,ret,fo,pt,dn⟩::F))(hd:dk K.toMk d∈F)(g:Gd n c S ss)(ax:Ax S)(a:0≤pa∧pa<S.words.length)(hq:S.w pa=wo)(hw:Lw c xx)(hm:Bn xx=false)(hs:0≤cu∧cu<c.S)(he:kk≠ky)(hg:¬ky<kk)(hl:¬lk xx<0):
  b6 281 k d w (fe K c ss w0 F (jN K c S.th k) (false,⟨rt,ky,9,(c.ad 13 cu),xx,cu,xx,kk,lo,ret,fo,pt,dn⟩,S.load pa)):=by
 have dl:=dy hl;have p0:=h.af aj;have hwk:=dQ g.I hw;have xi:=g.I.iO (r:=13) S_ hs.1 hs.2;have hb:(S.w pa !=wo)=false:=by simp [hq]
 have hk:(kk==ky)=false:=gp.2 he;have dg:=dy hg;have hI:=g.I;clear hq he;go_enter func281,ntmps281;go_wp2
 go_region_held3 (mR p0) (first | exact p0 | exact bB) (first | ((with_reducible refine un (bO h.drew (mT hd) ax a) fun dx m1=>?_);have bB:=m1.af aj))
 go_wp2_with fail;refine un (jC _ _ hwk) fun wz hw=>?_
 obtain rfl:=hw.symm;go_wp2
 go_region_held3 (AF k [Value.pointer (some ⟨K.bH,0,none⟩),S.th,rt,ky,.int .i64 8,pa,.int .u64 wo,cu,.int .u64 xx,kk,lo,rv,fo,pt,dn]) (first | exact bB) (fail)
 go_wp2
 go_region_held3 (AF k [Value.pointer (some ⟨K.bH,0,none⟩),S.th,rt,ky,.int .i64 8,pa,.int .u64 wo,cu,.int .u64 xx,kk,lo,rv,fo,pt,dn]) (first | exact bB) (fail)
 go_wp2_with fail;have m1:=m1.drew.drew;have bB:=m1.af aj
 go_cut [] (fun wx=>Hid (aq K c (S.load pa) ss w0 wx (dG K k S.th rv ⟨rt,ky,8,(c.ad 13 cu),xx,cu,xx,kk,lo,ret,fo,pt,dn⟩::F)))
 case first=>exact abU
 have m5:=hcut.out;clear hcut;have pm5:=m5.af aj;go_wp2_with fail;refine un (gH _ _ hwk) fun wz hw=>?_
 obtain rfl:=hw.symm;go_wp2;go_ret;exact⟨rfl,[_],.inl ⟨S_,_,rfl⟩,m5.put 4 _⟩
theorem afK{rt ky pa wo cu xx kk lo pt:Int}(h:aq K c S ss w0 w (dG K k S.th rv ⟨rt,ky,9,pa,wo,cu,xx,kk,lo,ret,fo,pt,dn⟩::F))(hd:dk K.toMk d∈F)(g:Gd n c S ss)(ax:Ax S)(hr:0≤S.rc)(hs:0≤cu∧cu<c.S):
  b6 282 k d w (fe K c ss w0 F (jN K c S.th k) (false,⟨rt,ky,10,pa,wo,cu,xx,kk,lo,ret,fo,pt,dn⟩,S.store (S.hz c 2) (pk cu))):=by
 have hH:=g.I.bd.2.2.2.2.1;have a:=qU g hr (i:=2) O_ O_;have hA:=fun(W:World) (h:aq K c S ss w0 W (dG K k S.th rv ⟨rt,ky,9,pa,wo,cu,xx,kk,lo,ret,fo,pt,dn⟩::F))=>jj h g.I 2 hr O_ O_
 have hB:=g.I.bd;have hk:=fun W=>tA cu W O_ O_
 have p0:=h.af aj;go_enter func282,ntmps282;go_wp2_with fail;refine un (hk _) fun wz hw=>?_
 obtain rfl:=hw.symm;exact abF
theorem aaC{rt ky pa wo cu xx kk lo pt:Int}(h:aq K c S ss w0 w (dG K k S.th rv ⟨rt,ky,10,pa,wo,cu,xx,kk,lo,ret,fo,pt,dn⟩::F))(hd:dk K.toMk d∈F)(g:Gd n c S ss)(ax:Ax S)(hr:0≤S.rc)(hw:Lw c xx):
  b6 282 k d w (fe K c ss w0 F (jN K c S.th k) (false,⟨rt,ky,4,pa,wo,(lk xx),xx,kk,lo,ret,fo,pt,dn⟩,S.store (S.hz c 1) (bare xx))):=by
 have hH:=g.I.bd.2.2.2.2.1;have a:=qU g hr (i:=1) O_ O_;have hwk:=dQ g.I hw;have hA:=fun(W:World) (h:aq K c S ss w0 W (dG K k S.th rv ⟨rt,ky,10,pa,wo,cu,xx,kk,lo,ret,fo,pt,dn⟩::F))=>jj h g.I 1 hr O_ O_
 exact abP
theorem aaB{rt ky pa wo cu xx kk lo pt:Int}(h:aq K c S ss w0 w (dG K k S.th rv ⟨rt,ky,12,pa,wo,cu,xx,kk,lo,ret,fo,pt,dn⟩::F))(hd:dk K.toMk d∈F)(g:Gd n c S ss)(ax:Ax S)(hr:0≤S.rc)(hw:Lw c xx):
  b6 282 k d w (fe K c ss w0 F (jN K c S.th k) (false,⟨rt,ky,4,pa,wo,(lk xx),xx,kk,lo,ret,fo,pt,dn⟩,S.store (S.hz c 1) (bare xx))):=by
 have hH:=g.I.bd.2.2.2.2.1;have a:=qU g hr (i:=1) O_ O_;have hwk:=dQ g.I hw;have hA:=fun(W:World) (h:aq K c S ss w0 W (dG K k S.th rv ⟨rt,ky,12,pa,wo,cu,xx,kk,lo,ret,fo,pt,dn⟩::F))=>jj h g.I 1 hr O_ O_
 exact abP
theorem VL{rt ky pa wo cu xx kk lo pt:Int}(h:aq K c S ss w0 w (dG K k S.th rv ⟨rt,ky,11,pa,wo,cu,xx,kk,lo,ret,fo,pt,dn⟩::F))(hd:dk K.toMk d∈F)(g:Gd n c S ss)(ax:Ax S)(a:0≤pa∧pa<S.words.length)(hw:Lw c xx)(hb:decide (S.w pa=wo)=false):
  b6 282 k d w (fe K c ss w0 F (jN K c S.th k) (false,⟨rt,ky,1,pa,wo,cu,xx,kk,lo,ret,fo,pt,dn⟩,S.swap pa wo (bare xx))):=by
 have hwk:=dQ g.I hw;have p0:=h.af aj;go_enter func282,ntmps282;go_wp2
 go_region_held3 (mR p0) (first | exact p0 | exact bB) (first | ((with_reducible refine un (jh _ _ hwk) fun wz hw=>?_);obtain rfl:=hw.symm) | ((with_reducible refine un (cD h.drew (mT hd) ax a hb) fun dx m1=>?_);have bB:=m1.af aj))
 exact QE
theorem VM{rt ky pa wo cu xx kk lo pt:Int}(h:aq K c S ss w0 w (dG K k S.th rv ⟨rt,ky,11,pa,wo,cu,xx,kk,lo,ret,fo,pt,dn⟩::F))(hd:dk K.toMk d∈F)(g:Gd n c S ss)(ax:Ax S)(a:0≤pa∧pa<S.words.length)(hr:0≤S.rc)(hw:Lw c xx)(hs:0≤cu∧cu<c.S)(hn:n<800000000000)(CA:S.w pa=wo→Pw c (kd c pa) (bare xx))(hb:decide (S.w pa=wo)=true)(eO:((Rt.new cu).ready c ((S.swap pa wo (bare xx)).shift cu 4)).1=false):
  b6 282 k d w (fe K c ss w0 F (jN K c S.th k) (false,⟨rt,ky,13,pa,wo,cu,xx,kk,S.now,some ((Rt.new cu).ready c ((S.swap pa wo (bare xx)).shift cu 4)).2.1,fo,pt,dn⟩,((Rt.new cu).ready c ((S.swap pa wo (bare xx)).shift cu 4)).2.2)):=by
 have hwk:=dQ g.I hw;have hN:n≤1000000000000:=O_
 have g2:Gd (n+1) c ((S.swap pa wo (bare xx)).shift cu 4) ss:=(g.swap a CA).shift _ _;have pX:=fun(W:World) (kr:Nat) (h:aq K c ((S.swap pa wo (bare xx)).shift cu 4) ss w0 W (FD K kr S.th cu (.pointer none)::dG K k S.th (some kr) ⟨rt,ky,13,pa,wo,cu,xx,kk,S.now,ret,fo,pt,dn⟩::F))=>lT h (mT hd) g2 O_ hr hs
 generalize ((Rt.new cu).ready c ((S.swap pa wo (bare xx)).shift cu 4))=r at pX eO ⊢;obtain⟨b,r1,S1⟩:=r;simp only at eO;subst eO;simp only at pX ⊢;have p0:=h.af aj;go_enter func282,ntmps282;go_wp2
 go_region_held3 (mR p0) (first | exact p0 | exact bB) (first | ((with_reducible refine un (jh _ _ hwk) fun wz hw=>?_);obtain rfl:=hw.symm) | ((with_reducible refine un (cD h.drew (mT hd) ax a hb) fun dx m1=>?_);have bB:=m1.af aj))
 go_wp2_with fail;refine un (gK m1 (mT hd)) fun wz hw=>?_
 obtain rfl:=hw.symm;have n2:=m1.put 10 (.int .i64 (S.swap pa wo (bare xx)).now);have jA:=n2.af aj;go_wp2
 go_region_held3 (AF k [Value.pointer (some ⟨K.bH,0,none⟩),S.th,rt,ky,.int .i64 11,pa,.int .u64 wo,cu,.int .u64 xx,kk,.int .i64 (S.swap pa wo (bare xx)).now,rv,fo,pt,dn]) (first | exact jA | exact iq) (first | ((with_reducible refine un (cL n2.drew) fun wz hw=>?_);obtain rfl:=hw.symm) | ((with_reducible refine un (eN n2.drew (mT hd) g.s.swap hs Oz hN) fun zK m3=>?_);have iq:=m3.af aj))
 go_wp2
 go_region_held3 (fun w'=>w'.cell? ⟨k,0,none⟩=some (some K.bH)∧w'.cell? ⟨k,1,none⟩=some (.int .i64 S.th)∧w'.cell? ⟨k,7,none⟩=some (.int .i64 cu)) (first | exact⟨iq.1 0,iq.1 1,iq.1 7⟩ | exact⟨nB.1 0,nB.1 1,nB.1 7⟩ | exact⟨mM.1 0,mM.1 1,mM.1 7⟩) (first | ((with_reducible refine(fS m3.drew _ _).mono ?_);rintro e Kh ⟨Bp,rfl,_,m4⟩;have nB:=m4.af bp;have n4:=m4.swap.put 11 (some Bp);have mM:=n4.af aj))
 have n5:=n4.put 4 (.int .i64 13);have pn5:=n5.af aj;go_wp2_with fail;refine(pX _ Bp n5.swap).mono ?_;exact abc
theorem VK{rt ky pa wo cu xx kk lo pt:Int}(h:aq K c S ss w0 w (dG K k S.th rv ⟨rt,ky,11,pa,wo,cu,xx,kk,lo,ret,fo,pt,dn⟩::F))(hd:dk K.toMk d∈F)(g:Gd n c S ss)(ax:Ax S)(a:0≤pa∧pa<S.words.length)(hr:0≤S.rc)(hw:Lw c xx)(hs:0≤cu∧cu<c.S)(hn:n<800000000000)(CA:S.w pa=wo→Pw c (kd c pa) (bare xx))(hb:decide (S.w pa=wo)=true)(eO:((Rt.new cu).ready c ((S.swap pa wo (bare xx)).shift cu 4)).1=true):
  b6 282 k d w (fe K c ss w0 F (jN K c S.th k) (Fi.out ⟨rt,ky,13,pa,wo,cu,xx,kk,S.now,some ((Rt.new cu).ready c ((S.swap pa wo (bare xx)).shift cu 4)).2.1,fo,pt,dn⟩ ((Rt.new cu).ready c ((S.swap pa wo (bare xx)).shift cu 4)).2.2)):=by
 have hwk:=dQ g.I hw;have hN:n≤1000000000000:=O_
 have g2:Gd (n+1) c ((S.swap pa wo (bare xx)).shift cu 4) ss:=(g.swap a CA).shift _ _;have pX:=fun(W:World) (kr:Nat) (h:aq K c ((S.swap pa wo (bare xx)).shift cu 4) ss w0 W (FD K kr S.th cu (.pointer none)::dG K k S.th (some kr) ⟨rt,ky,13,pa,wo,cu,xx,kk,S.now,ret,fo,pt,dn⟩::F))=>lT h (mT hd) g2 O_ hr hs
 generalize ((Rt.new cu).ready c ((S.swap pa wo (bare xx)).shift cu 4))=r at pX eO ⊢;obtain⟨b,r1,S1⟩:=r;simp only at eO;subst eO;simp only at pX ⊢;have za:=fun(W:World) (rv:Value) (h:aq K c S1 ss w0 W (dG K k S.th rv ⟨rt,ky,13,pa,wo,cu,xx,kk,S.now,some r1,fo,pt,dn⟩::F))=>RJ h hwk
 generalize Fi.out ⟨rt,ky,13,pa,wo,cu,xx,kk,S.now,some r1,fo,pt,dn⟩ S1=r3 at za ⊢;have p0:=h.af aj;go_enter func282,ntmps282;go_wp2
 go_region_held3 (mR p0) (first | exact p0 | exact bB) (first | ((with_reducible refine un (jh _ _ hwk) fun wz hw=>?_);obtain rfl:=hw.symm) | ((with_reducible refine un (cD h.drew (mT hd) ax a hb) fun dx m1=>?_);have bB:=m1.af aj))
 go_wp2_with fail;refine un (gK m1 (mT hd)) fun wz hw=>?_
 obtain rfl:=hw.symm;have n2:=m1.put 10 (.int .i64 (S.swap pa wo (bare xx)).now);have jA:=n2.af aj;go_wp2
 go_region_held3 (AF k [Value.pointer (some ⟨K.bH,0,none⟩),S.th,rt,ky,.int .i64 11,pa,.int .u64 wo,cu,.int .u64 xx,kk,.int .i64 (S.swap pa wo (bare xx)).now,rv,fo,pt,dn]) (first | exact jA | exact iq) (first | ((with_reducible refine un (cL n2.drew) fun wz hw=>?_);obtain rfl:=hw.symm) | ((with_reducible refine un (eN n2.drew (mT hd) g.s.swap hs Oz hN) fun zK m3=>?_);have iq:=m3.af aj))
 go_wp2
 go_region_held3 (fun w'=>w'.cell? ⟨k,0,none⟩=some (some K.bH)∧w'.cell? ⟨k,1,none⟩=some (.int .i64 S.th)∧w'.cell? ⟨k,7,none⟩=some (.int .i64 cu)) (first | exact⟨iq.1 0,iq.1 1,iq.1 7⟩ | exact⟨nB.1 0,nB.1 1,nB.1 7⟩ | exact⟨mM.1 0,mM.1 1,mM.1 7⟩) (first | ((with_reducible refine(fS m3.drew _ _).mono ?_);rintro e Kh ⟨Bp,rfl,_,m4⟩;have nB:=m4.af bp;have n4:=m4.swap.put 11 (some Bp);have mM:=n4.af aj))
 have n5:=n4.put 4 (.int .i64 13);have pn5:=n5.af aj;go_wp2_with fail;refine(pX _ Bp n5.swap).mono ?_;exact Ta
theorem VJ{rt ky pa wo cu xx kk lo pt:Int}{r:Rt}{kr q:Nat}{R:Nat→Int}{e nm pd:List Int}{Lr:List En}(h:aq K c S ss w0 w (dG K k S.th (some kr) ⟨rt,ky,13,pa,wo,cu,xx,kk,lo,some r,fo,pt,dn⟩::(Lr++F)))(hd:dk K.toMk d∈F)(g:Gd n c S ss)(ax:Ax S)(hn:n<800000000000)(hw:Lw c xx)(o:zC K c S.th kr r Lr)(ha:mu c r S q R e nm pd)(eO:(r.step c S).1=false):
  b6 282 k d w (fe K c ss w0 F (jN K c S.th k) (false,⟨rt,ky,13,pa,wo,cu,xx,kk,lo,some (r.step c S).2.1,fo,pt,dn⟩,(r.step c S).2.2)):=by
 have hwk:=dQ g.I hw;have h1:=h.perm (G:=Lr++_::F) dV.symm;have hm:=oX o h1 (mT hd) g rfl O_ ax ha;have p0:=h.af (b:=k) aj;generalize r.step c S=r2 at hm eO ⊢;obtain⟨b,r1,S1⟩:=r2;simp only at eO;subst eO;simp only at hm ⊢;go_enter func282,ntmps282;go_wp2_with fail;refine hm.mono ?_;exact abc
theorem VI{rt ky pa wo cu xx kk lo pt:Int}{r:Rt}{kr q:Nat}{R:Nat→Int}{e nm pd:List Int}{Lr:List En}(h:aq K c S ss w0 w (dG K k S.th (some kr) ⟨rt,ky,13,pa,wo,cu,xx,kk,lo,some r,fo,pt,dn⟩::(Lr++F)))(hd:dk K.toMk d∈F)(g:Gd n c S ss)(ax:Ax S)(hn:n<800000000000)(hw:Lw c xx)(o:zC K c S.th kr r Lr)(ha:mu c r S q R e nm pd)(eO:(r.step c S).1=true):
  b6 282 k d w (fe K c ss w0 F (jN K c S.th k) (Fi.out ⟨rt,ky,13,pa,wo,cu,xx,kk,lo,some (r.step c S).2.1,fo,pt,dn⟩ (r.step c S).2.2)):=by
 have hwk:=dQ g.I hw;have h1:=h.perm (G:=Lr++_::F) dV.symm;have hm:=oX o h1 (mT hd) g rfl O_ ax ha;have p0:=h.af (b:=k) aj;generalize r.step c S=r2 at hm eO ⊢;obtain⟨b,r1,S1⟩:=r2;simp only at eO;subst eO;simp only at hm ⊢;have za:=fun(W:World) (rv:Value) (h:aq K c S1 ss w0 W (dG K k S.th rv ⟨rt,ky,13,pa,wo,cu,xx,kk,lo,some r1,fo,pt,dn⟩::F))=>RJ h hwk
 generalize Fi.out ⟨rt,ky,13,pa,wo,cu,xx,kk,lo,some r1,fo,pt,dn⟩ S1=r3 at za ⊢;go_enter func282,ntmps282;go_wp2_with fail;refine hm.mono ?_;exact Ta
theorem aaD{rv:Value}{r:Bool×Fi×PM}{G:List En}(h:aq K c S ss w0 w (dG K k S.th rv f::G))(hp:f.pc=8)
  (hm:b6 281 k d w (fe K c ss w0 F (jN K c S.th k) r)):
  b6 272 k d w (fe K c ss w0 F (jN K c S.th k) r):=by
 have p0:=h.af aj;obtain⟨rt,ky,pc,pa,wo,cu,xx,kk,lo,ret,fo,pt,dn⟩:=f;simp only at hp;subst hp;go_enter func272,ntmps272;exact GJ
theorem CQ{rv:Value}{r:Bool×Fi×PM}{G:List En}(h:aq K c S ss w0 w (dG K k S.th rv f::G))(hp:9≤f.pc∧f.pc≤13)
  (hm:b6 282 k d w (fe K c ss w0 F (jN K c S.th k) r)):
  b6 272 k d w (fe K c ss w0 F (jN K c S.th k) r):=by
 have p0:=h.af aj;obtain⟨rt,ky,pc,pa,wo,cu,xx,kk,lo,ret,fo,pt,dn⟩:=f;simp only at hp;have e:∀ q:Int,q<9→(pc==q)=false:=fun q hq=>gp.2 O_
 have e0:=e 0 O_;have e1:=e 1 O_;have e2:=e 2 O_;have e3:=e 3 O_;have e4:=e 4 O_;have e5:=e 5 O_;have e6:=e 6 O_;have e7:=e 7 O_;have e8:=e 8 O_;clear e hp;go_enter func272,ntmps272;exact GJ
theorem lwP(I:Inv c S.th S){p:Int}(h:PA c p):Lw c (S.w p):=by
 have hl:=I.len;have pw:=I.wk p h.1 (by have:=h.2.1;omega);exact⟨pw.lo,pw.lw (by unfold Cp;rcases h.2.2 with k | k | k<;>omega)⟩
theorem pwB(I:Inv c S.th S){p x:Int}(h:PA c p)(hx:Lw c x):Pw c (kd c p) (bare x):=by
 have h1:=eZ x;have hI:=I.bd;have e:lk (bare x)=lk x:=Cq h1 (by have:=hx.2.2;omega);have hb:0≤bare x∧bare x<8589934592:=by unfold bare pk;have:=hx.2.2;omega
 obtain⟨_,_,hk⟩:=h;refine⟨hb.1,O_,fun q=>by rcases hk with k | k | k<;>omega,fun _=>⟨hb.2,by rw [e];exact hx.2.2⟩,fun q=>by rcases hk with k | k | k<;>omega,fun q=>by rcases hk with k | k | k<;>omega⟩
theorem pO{q:Nat}{R:Nat→Int}{e nm pd:List Int}{O:List En}(h:aq K c S ss w0 w (O++F))(o:jN K c S.th k f O)(hd:dk K.toMk d∈F)(g:Gd n c S ss)(ax:Ax S)(hn:n<800000000000)(ha:jO c f S q R e nm pd):
  b6 272 k d w (fe K c ss w0 F (jN K c S.th k) (f.step c S)):=by
 obtain⟨rt,ky,pc,pa,wo,cu,xx,kk,lo,ret,fo,pt,dn⟩:=f;obtain⟨⟨_,_,pr,_⟩,hr,ha⟩:=ha;simp only at ha pr;have hl:=g.I.len
 rcases o with ⟨hne,rv,rfl⟩ | ⟨hs,r,kr,Lr,pG,o,rfl⟩
 ·rcases ha with ⟨_,hs,_⟩ | ⟨_,hpa,_,hwo,_,_,hc0,j7,⟨hs,_⟩ | ⟨hs,_⟩ | ⟨hs,_⟩ | ⟨hx,_,_,⟨hs,_⟩ | ⟨hs,_⟩⟩ | ⟨_,hx,_,⟨hs,_⟩ | ⟨hs,_⟩ | ⟨hs,_⟩ | ⟨hs,_⟩ | ⟨_,⟨hs,_⟩ | ⟨hs,_⟩⟩⟩⟩ | ⟨_,_,hs,_⟩
  ·subst hs
   have hw:=lwP g.I pr;have e:Fi.step c ⟨rt,ky,1,pa,wo,cu,xx,kk,lo,ret,fo,pt,dn⟩ S=if lk (S.w rt)<0 then(true,⟨rt,ky,0,rt,S.w rt,lk (S.w rt),xx,kk,lo,ret,false,S.now,true⟩,S.load rt) else(false,⟨rt,ky,2,rt,S.w rt,lk (S.w rt),xx,kk,lo,ret,fo,pt,dn⟩,S.load rt):=rfl;rw [e]
   by_cases hq:lk (S.w rt)<0
   ·rw [aY hq];exact aaz h hd g ax ⟨pr.1,by have:=pr.2.1;omega⟩ hw hq
   ·rw [aK hq];exact aaA h hd g ax ⟨pr.1,by have:=pr.2.1;omega⟩ hw hq
  ·subst hs;exact afJ h hd g ax hr
  ·subst hs
   have e:Fi.step c ⟨rt,ky,3,pa,wo,cu,xx,kk,lo,ret,fo,pt,dn⟩ S=(false,⟨rt,ky,if S.w pa=wo then 4 else 1,pa,wo,cu,xx,kk,lo,ret,fo,pt,dn⟩,S.load pa):=rfl;rw [e];have hA:0≤pa∧pa<S.words.length:=⟨hpa.1,by have:=hpa.2.1;omega⟩
   by_cases hq:S.w pa=wo
   ·rw [aY hq];exact aax h hd g ax hA hq
   ·rw [aK hq];exact aay h hd g ax hA hq
  ·subst hs;exact afI h hd g ax ⟨hc0,j7⟩
  ·subst hs;exact CQ h ⟨S_,S_⟩ (aaB h hd g ax hr hx)
  ·subst hs;exact CQ h ⟨S_,S_⟩ (aaC h hd g ax hr hx)
  ·subst hs;exact afH h hd g ax hr hx
  ·subst hs
   have e:Fi.step c ⟨rt,ky,6,pa,wo,cu,xx,kk,lo,ret,fo,pt,dn⟩ S=(false,⟨rt,ky,if S.w (c.ad 13 cu)=xx then 7 else 1,pa,wo,cu,xx,kk,S.now,ret,fo,pt,dn⟩,S.load (c.ad 13 cu)):=rfl;rw [e]
   by_cases hq:S.w (c.ad 13 cu)=xx
   ·rw [aY hq];exact aav h hd g ax ⟨hc0,j7⟩ hq
   ·rw [aK hq];exact aaw h hd g ax ⟨hc0,j7⟩ hq
  ·subst hs
   have hA:0≤pa∧pa<S.words.length:=⟨hpa.1,by have:=hpa.2.1;omega⟩
   have e:Fi.step c ⟨rt,ky,11,pa,wo,cu,xx,kk,lo,ret,fo,pt,dn⟩ S=if S.w pa=wo then match (Rt.new cu).ready c ((S.swap pa wo (bare xx)).shift cu 4) with
     | (false,r,S')=>(false,⟨rt,ky,13,pa,wo,cu,xx,kk,S.now,some r,fo,pt,dn⟩,S')
     | (true,r,S')=>Fi.out ⟨rt,ky,13,pa,wo,cu,xx,kk,S.now,some r,fo,pt,dn⟩ S'
    else(false,⟨rt,ky,1,pa,wo,cu,xx,kk,lo,ret,fo,pt,dn⟩,S.swap pa wo (bare xx)):=rfl
   rw [e]
   by_cases hq:S.w pa=wo
   ·rw [aY hq]
    rcases eO:((Rt.new cu).ready c ((S.swap pa wo (bare xx)).shift cu 4)).1 with _ | _
    ·have:=CQ h ⟨S_,S_⟩ (VM h hd g ax hA hr hx ⟨hc0,j7⟩ hn (fun _=>pwB g.I hpa hx) (cM hq) eO)
     rw [←eO] at this;exact SB
    ·have:=CQ h ⟨S_,S_⟩ (VK h hd g ax hA hr hx ⟨hc0,j7⟩ hn (fun _=>pwB g.I hpa hx) (cM hq) eO)
     exact SB
   ·rw [aK hq];exact CQ h ⟨S_,S_⟩ (VL h hd g ax hA hx (dy hq))
  ·subst hs;exact CQ h ⟨S_,S_⟩ (afK h hd g ax hr ⟨hc0,j7⟩)
  ·subst hs;exact afG h hd g ax ⟨hc0,j7⟩
  ·subst hs
   have hA:0≤pa∧pa<S.words.length:=⟨hpa.1,by have:=hpa.2.1;omega⟩;refine aaD h rfl ?_
   have e:Fi.step c ⟨rt,ky,8,pa,wo,cu,xx,kk,lo,ret,fo,pt,dn⟩ S=if S.w pa≠wo then(false,⟨rt,ky,1,pa,wo,cu,xx,kk,lo,ret,fo,pt,dn⟩,S.load pa)
    else if Bn xx then(false,⟨rt,ky,11,pa,wo,cu,xx,kk,lo,ret,fo,pt,dn⟩,S.load pa)
    else if kk=ky then(true,⟨rt,ky,0,pa,wo,cu,xx,kk,lo,ret,true,lo,true⟩,S.load pa)
    else if ky<kk then(true,⟨rt,ky,0,pa,wo,cu,xx,kk,lo,ret,false,S.now,true⟩,S.load pa)
    else if lk xx<0 then(true,⟨rt,ky,0,c.ad 13 cu,xx,-1,xx,kk,lo,ret,false,lo,true⟩,S.load pa)
    else(false,⟨rt,ky,9,c.ad 13 cu,xx,cu,xx,kk,lo,ret,fo,pt,dn⟩,S.load pa):=rfl
   rw [e]
   by_cases hq:S.w pa=wo
   ·rw [aK (by simpa using hq)]
    rcases hm:Bn xx with _ | _
    ·rw [aK S_]
     by_cases hk:kk=ky
     ·rw [aY hk];exact afO h hd g ax hA hq hx hm hk
     ·rw [aK hk]
      by_cases hg:ky<kk
      ·rw [aY hg];exact afN h hd g ax hA hq hx hm hk hg
      ·rw [aK hg]
       by_cases hl:lk xx<0
       ·rw [aY hl];exact afM h hd g ax hA hq hx hm ⟨hc0,j7⟩ hk hg hl
       ·rw [aK hl];exact afL h hd g ax hA hq hx hm ⟨hc0,j7⟩ hk hg hl
    ·rw [aY rfl];exact afR h hd g ax hA hq hx hm
   ·rw [aY hq];exact afS h hd g ax hA hq
  ·exact absurd hs hne
 ·simp only at hs pG
  subst hs pG
  rcases ha with ⟨_,hs,_⟩ | ⟨_,_,_,_,_,_,_,_,⟨hs,_⟩ | ⟨hs,_⟩ | ⟨hs,_⟩ | ⟨_,_,_,⟨hs,_⟩ | ⟨hs,_⟩⟩ | ⟨_,_,_,⟨hs,_⟩ | ⟨hs,_⟩ | ⟨hs,_⟩ | ⟨hs,_⟩ | ⟨_,⟨hs,_⟩ | ⟨hs,_⟩⟩⟩⟩ | ⟨_,_,_,hx,_,_,r2,e',pG,_,hra⟩<;>try omega
  injection pG with pG;subst pG
  have e:Fi.step c ⟨rt,ky,13,pa,wo,cu,xx,kk,lo,some r,fo,pt,dn⟩ S=match r.step c S with
    | (false,r,S)=>(false,⟨rt,ky,13,pa,wo,cu,xx,kk,lo,some r,fo,pt,dn⟩,S)
    | (true,r,S)=>Fi.out ⟨rt,ky,13,pa,wo,cu,xx,kk,lo,some r,fo,pt,dn⟩ S:=rfl
  rw [e]
  rcases eO:(r.step c S).1 with _ | _
  ·have:=CQ h ⟨S_,S_⟩ (VJ h hd g ax hn hx o hra eO)
   rcases hz:r.step c S with ⟨b,r1,S1⟩
   exact NM
  ·have:=CQ h ⟨S_,S_⟩ (VI h hd g ax hn hx o hra eO)
   rcases hz:r.step c S with ⟨b,r1,S1⟩
   exact NM
end
end Go.Proofs.YtgbhnihkgmpocaaGreat
