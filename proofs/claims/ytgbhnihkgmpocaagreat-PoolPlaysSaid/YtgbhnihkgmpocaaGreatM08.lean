/- Part 9 of 16 of the proof of PoolPlays. No condition. -/
import Derived.Test.YtgbhnihkgmpocaaGreatM07
namespace Go.Proofs.YtgbhnihkgmpocaaGreat
set_option maxRecDepth 100000
set_option maxHeartbeats 4000000
open Tryz
variable{P:Prop}
theorem QS(x:P:=by
 clear he;go_enter func266,ntmps266;go_wp2_with fail
 go_region_held3 (mR p0) (first | exact p0) (fail)
 go_wp2_with fail;refine un (hs _ h.drew) fun w1 m1=>?_
 exact R8):P:=x
theorem abQ(x:P:=by
 go_wp2_with fail
 go_region_held3 (fun w'=>w'.cell? ⟨k,1,none⟩=some (some K.bH)∧w'.cell? ⟨k,2,none⟩=some (.int .i64 S.th)∧w'.cell? ⟨k,3,none⟩=some (.int .i64 root)∧w'.cell? ⟨k,4,none⟩=some (.int .i64 key)) (first | exact⟨p0.1 1,p0.1 2,p0.1 3,p0.1 4⟩ | exact⟨bB.1 1,bB.1 2,bB.1 3,bB.1 4⟩ | exact⟨gM.1 1,gM.1 2,gM.1 3,gM.1 4⟩) (first | ((with_reducible refine(CO h.drew g hr ha).mono ?_);rintro e dx ⟨Bq,rfl,_,m1⟩;have bB:=m1.af bp;have n1:=m1.swap.put 0 (some Bq);have gM:=n1.af aj))
 have n2:=n1.put 7 x;have jA:=n2.af aj;go_wp2_with fail;refine un (CP n2 bp rfl) fun wz hw=>?_
 obtain rfl:=hw.symm;go_wp2_with fail;go_ret;exact⟨rfl,Bq,n2⟩):P:=x
theorem Wp(x:P:=by
 rintro e w9 ⟨rfl,kl,m9⟩;go_wp2_with fail;go_ret;exact⟨rfl,[_,_],fun _=>⟨rfl,.inr (.inr (.inr ⟨rfl,_,_,_,rfl⟩))⟩,((m9.perm (fE (L:= [_])).symm).kI (A:= [_]))⟩):P:=x
theorem abM(x:P:=by
 go_wp2_with fail
 go_region_held3 (fun w'=>w'.cell? ⟨k,1,none⟩=some (some K.bH)∧w'.cell? ⟨k,2,none⟩=some (.int .i64 S.th)) (first | exact⟨p0.1 1,p0.1 2⟩ | exact⟨bB.1 1,bB.1 2⟩ | exact⟨gM.1 1,gM.1 2⟩) (first | ((with_reducible refine(yS h.drew hl hr).mono ?_);rintro e dx ⟨Bq,rfl,_,m1⟩;have bB:=m1.af bp;have n1:=m1.swap.put 11 (some Bq);have gM:=n1.af aj))
 have n2:=n1.put 7 (.int .i64 6);have jA:=n2.af aj;go_wp2_with fail;refine un (tq n2 bp O_) fun wz hw=>?_
 obtain rfl:=hw.symm;go_wp2_with fail;go_ret;exact⟨rfl,Bq,n2⟩):P:=x
theorem abB(x:P:=by
 have p0:=h.af aj;go_enter func266,ntmps266;go_wp2_with fail
 go_region_held3 (mR p0) (first | exact p0 | exact bB) (first | ((with_reducible refine un (cx h.drew (mT hd) ax ha) fun dx m1=>?_);have bB:=m1.af aj))
 exact NL):P:=x
theorem abw(x:P:=by
 go_wp2_with fail;refine un xl fun w1 e1=>?_
 have m1:=h.next e1;have bB:=m1.af aj;have n1:=m1.put 8 f.cur;have gM:=n1.af aj;go_wp2_with fail;refine un (cX n1 (mT (mT hd)) g.s) fun jP m2=>?_
 have dN:=m2.af aj;go_wp2_with fail;refine un (eV m2 (mT (mT hd)) g.s.aB) fun w3 m3=>?_
 exact R2):P:=x
theorem abk(x:P:=by
 go_wp2_with fail;refine RC.mono ?_;rintro e w9 ⟨rfl,kf1,m9⟩;go_wp2_with fail;go_ret;exact⟨rfl,[_,_],fun _=>⟨rfl,.inl ⟨.inl rfl,_,_,_,_,.inl ⟨(by simp [Fi.new,Tb.find]),_,rfl⟩,rfl⟩⟩,m9⟩):P:=x
theorem abi(x:P:=by
 obtain⟨I,K,R',cZ,eF,cG,cE,h1⟩:=P;refine⟨I,K,R',cZ,eF,cG,cE,?_⟩
 rcases h1 with ⟨hb,h2,h3⟩ | ⟨hb,h3⟩
 ·exact .inl ⟨hb,h _ _ _ _ _ _ _ h2,h3⟩
 ·exact .inr ⟨hb,h3⟩):P:=x
theorem abf(x:P:=by
 go_wp2_with fail;refine hm.mono ?_;rintro e w1 ⟨rfl,L,o1,m1⟩;go_wp2_with fail;go_ret;exact⟨rfl,_::L,fun _=>⟨rfl,.inl ⟨.inl rfl,_,_,_,_,o1,rfl⟩⟩,m1.perm dV⟩):P:=x
theorem Td(x:P:=by
 clear hq;go_enter func266,ntmps266;go_wp2_with fail;refine un hs fun w1 m1=>?_
 exact R8):P:=x
theorem NL(x:P:=by
 go_wp2_with fail;go_ret;exact⟨rfl,[_],fun _=>.inl ⟨S_,rfl⟩,m1.put 6 _⟩):P:=x
theorem NJ(x:P:=by
 go_wp2_with fail;go_ret;exact⟨rfl,[_],fun _=>.inl ⟨S_,rfl⟩,n1.put 6 _⟩):P:=x
theorem S9(x:P:=by
 go_wp2_with fail;refine un hm fun w9 m9=>?_
 go_wp2_with fail;go_ret;exact⟨rfl,[_,_],fun _=>⟨rfl,.inr (.inr (.inr ⟨rfl,_,_,_,rfl⟩))⟩,m9.swap⟩):P:=x
theorem S6(x:P:=by
 have dN:=m2.af aj;go_wp2_with fail;go_ret;exact⟨rfl,[_,_],fun _=>⟨rfl,.inr (.inl ⟨⟨S_,S_⟩,hdn,_,_,_,_,rfl⟩)⟩,m2.put 7 _⟩):P:=x
theorem SD(x:P:=by
 rintro e w9 ⟨rfl,L9,o9,m9⟩;go_wp2_with fail;go_ret;refine⟨by rw [P6];rfl,L9,fun _=>o9,m9⟩):P:=x
theorem Sb(x:P:=by
 subst hs hg hc;exact vX h ⟨S_,S_⟩ (VZ h hd g ax Vy)):P:=x
theorem R8(x:P:=by
 go_wp2_with fail;go_ret;exact⟨rfl,[_],fun _=>.inl ⟨S_,rfl⟩,m1⟩):P:=x
theorem R2(x:P:=by
 have iq:=m3.af aj;go_wp2_with fail;refine(za _ m3).mono ?_;exact Wp):P:=x
open Go.RowKit
section
variable{K:Ky}{c:Cf}{S:PM}{ss:List Sv}{w0 w w':World}{F H Lf:List En}{d b n k kt kf kl kr kg q:Nat}{t:TypeId}{cs tl:List Value}{fp rp lp rv:Value}{R:Nat→Int}{e nm pd:List Int}{f:Fi}{lv slot root key:Int}{ret:Option Rt}
@[reducible] def jR(K:Ky)(c:Cf)(t:TypeId)(k:Nat)(th:Int)(fp rp lp:Value)(st slot root key:Int)(b:Bool):En:=ob k t [fp,some K.bH,th,root,key,c.ad 12 0,c.ad 13 0,st,slot,b,rp,lp]
def rH(K:Ky)(c:Cf)(t:TypeId)(b:Bool)(th k:Nat)(x:Tb)(L:List En):Prop:=x.take=b∧
 (((x.az=0∨x.az=5)∧∃ kf rp lp Lf,jN K c th kf x.f Lf∧L=jR K c t k th (some kf) rp lp x.az x.slot x.root x.key b::Lf)∨
  ((1≤x.az∧x.az≤3)∧x.f.done=true∧∃ kf rp lp rv,L= [jR K c t k th (some kf) rp lp x.az x.slot x.root x.key b,dG K kf th rv x.f])∨
  (x.az=4∧∃ fp lp kr r Lr,x.ret=some r∧zC K c th kr r Lr∧L=jR K c t k th fp (some kr) lp 4 x.slot x.root x.key b::Lr)∨
  (x.az=6∧∃ fp rp kl,L= [jR K c t k th fp rp (some kl) 6 x.slot x.root x.key b,An K kl th x.lv]))
theorem CP{th:Int}(h:aq K c S ss w0 w F)(hm:dG K kf th rv f∈F)(hp:f.pc=1):
  cm 288 #[some kf,some d] w false fun w'=>w'=w:=by
 have p0:=h.af hm;rw [hp] at p0;clear hp hm;go_enter func288,ntmps288;exact iB
theorem qO{th:Int}(h:aq K c S ss w0 w F)(hm:dG K kf th rv f∈F)(hdn:f.done=true):
  cm 269 #[some kf] w (.int .u64 f.x) fun w'=>w'=w:=by
 have p0:=h.af hm;rw [hdn] at p0;clear hdn hm;go_enter func269,ntmps269;exact iB
theorem wH{th:Int}(h:aq K c S ss w0 w F)(hm:dG K kf th rv f∈F)(hdn:f.done=true):
  cm 302 #[some kf] w (.tuple #[f.p,.int .u64 f.w]) fun w'=>Ext w w':=by
 have p0:=h.af hm;rw [hdn] at p0;clear hdn hm;go_enter func302,ntmps302;go_wp2
 go_region_held3 (fun w'=>w'.cell? ⟨kf,5,none⟩=some (.int .i64 f.p)∧w'.cell? ⟨kf,6,none⟩=some (.int .u64 f.w)) (first | exact⟨p0.1 5,p0.1 6⟩) (fail)
 go_wp2
 go_ret2;exact⟨rfl,(bu _).bh⟩
theorem TI{st x:Int}(h:aq K c S ss w0 w (jR K c 282 k S.th fp rp lp st slot root key false::F))(g:Gd n c S ss)(hr:0≤S.rc)(ha:0≤root∧root<S.words.length):
  cm 299 #[some k,some d,x] w false fun w'=>∃ kf,aq K c S ss w0 w' (jR K c 282 k S.th (some kf) rp lp x slot root key false::dG K kf S.th (.pointer none) (.new root key)::F):=by
 have p0:=h.af aj;go_enter func299,ntmps299;exact abQ
theorem Rc{st:Int}(h:aq K c S ss w0 w (jR K c 282 k S.th fp rp lp st slot root key false::F))(hl:S.th<S.held.length)(hr:0≤S.rc):
  Bb 301 k d w false fun w'=>∃ kl,aq K c S ss w0 w' (jR K c 282 k S.th fp rp (some kl) 6 slot root key false::An K kl S.th 0::F):=by
 have p0:=h.af aj;go_enter func301,ntmps301;exact abM
theorem XG(h:aq K c S ss w0 w (jR K c 282 k S.th (some kf) rp lp 0 slot root key false::dG K kf S.th rv f::F))(hd:dk K.toMk d∈F)(g:Gc n c S ss)(_:0≤S.rc)(hdn:f.done=true)(hf:f.found=true):
  b6 300 k d w (Post K c ss w0 F (rH K c 282 false S.th k) (false,(⟨f,root,key,2,f.cur,false,ret,lv⟩:Tb),(S.aB f.pt))):=by
 have p0:=h.af aj;have q0:=h.af bp;have L8:f.found=true:=hf;clear hf;have xl:=fC h bp hdn;go_enter func300,ntmps300;go_wp2_with fail;refine un xl fun w1 e1=>?_
 have m1:=h.next e1;have bB:=m1.af aj;have n1:=m1.put 8 f.cur;have gM:=n1.af aj;go_wp2_with fail;refine un (cX n1 (mT (mT hd)) g.s) fun jP m2=>?_
 exact S6
theorem XH(h:aq K c S ss w0 w (jR K c 282 k S.th (some kf) rp lp 0 slot root key false::dG K kf S.th rv f::F))(hd:dk K.toMk d∈F)(g:Gc n c S ss)(hr:0≤S.rc)(hdn:f.done=true)(hf:f.found=false):
  b6 300 k d w (Post K c ss w0 F (rH K c 282 false S.th k) (false,(⟨f,root,key,6,f.cur,false,ret,0⟩:Tb),((S.aB f.pt).tell 6 0))):=by
 have p0:=h.af aj;have q0:=h.af bp;have hl:=g.hl;have za:=fun(W:World) (h:aq K c ((S.aB f.pt).tell 6 0) ss w0 W (jR K c 282 k S.th (some kf) rp lp 0 f.cur root key false::dG K kf S.th rv f::F))=>Rc (d:=d) h hl hr
 rw [show((S.aB f.pt).tell 6 0).th=S.th from rfl] at za;have L8:f.found=false:=hf;clear hf;have xl:=fC h bp hdn;go_enter func300,ntmps300;exact abw
theorem adi(h:aq K c S ss w0 w (jR K c 282 k S.th (some kf) rp lp 0 slot root key false::dG K kf S.th rv f::F))(hd:dk K.toMk d∈F)(g:Gc n c S ss)(hr:0≤S.rc)(hdn:f.done=true):
  b6 300 k d w (Post K c ss w0 F (rH K c 282 false S.th k) (Tb.found (⟨f,root,key,0,slot,false,ret,lv⟩:Tb) S)):=by
 have e:f.found=true→Tb.found (⟨f,root,key,0,slot,false,ret,lv⟩:Tb) S=(false,(⟨f,root,key,2,f.cur,false,ret,lv⟩:Tb),(S.aB f.pt)):=fun q=>by
  unfold Tb.found;simp [q]
 have e':f.found=false→Tb.found (⟨f,root,key,0,slot,false,ret,lv⟩:Tb) S=(false,(⟨f,root,key,6,f.cur,false,ret,0⟩:Tb),((S.aB f.pt).tell 6 0)):=fun q=>by
  unfold Tb.found;simp [q,Tb.out]
 cases hf:f.found
 ·rw [e' hf];exact XH h hd g hr hdn hf
 ·rw [e hf];exact XG h hd g hr hdn hf
theorem adh(h:aq K c S ss w0 w (jR K c 282 k S.th (some kf) rp lp 0 slot root key false::(Lf++F)))(hd:dk K.toMk d∈F)(g:Gd n c S ss)(ax:Ax S)(hn:n<800000000000)(hr:0≤S.rc)(aZ:R 47=0)(o:jN K c S.th kf f Lf)(ha:jO c f S q R e nm pd):
  b6 298 k d w (Post K c ss w0 F (rH K c 282 false S.th k) (Tb.step c (⟨f,root,key,0,slot,false,ret,lv⟩:Tb) S)):=by
 have h1:=h.perm (G:=Lf++_::F) dV.symm;have hm:=pO h1 o (mT hd) g ax hn ha;have ga:=pN g o aZ ha;have hdn:=vU g aZ ha;have p0:=h.af aj;have j6:=oN ga;have eO:0≤(f.step c S).2.2.rc:=by rw [ga.kp.rc];exact hr
 have iV:=ga.th;have gc:=ga.cc;clear ga ha
 have hst:Tb.step c (⟨f,root,key,0,slot,false,ret,lv⟩:Tb) S=match f.step c S with
   | (false,f,S)=>(false,(⟨f,root,key,0,slot,false,ret,lv⟩:Tb),S)
   | (true,f,S)=>Tb.found (⟨f,root,key,0,slot,false,ret,lv⟩:Tb) S:=rfl
 rw [hst];clear hst;generalize f.step c S=r at hm hdn j6 eO iV gc ⊢;obtain⟨b,f1,S1⟩:=r;simp only at hdn j6 eO iV gc
 cases b
 ·simp only
  go_enter func298,ntmps298;exact abf
 ·simp only
  obtain⟨d1,d2,_⟩:=hdn rfl;have P7:=fun(W:World) (rv:Value) (h:aq K c S1 ss w0 W (jR K c 282 k S1.th (some kf) rp lp 0 slot root key false::dG K kf S1.th rv f1::F))=>adi (ret:=ret) (lv:=lv) h hd gc eO d1
  rw [iV] at P7;generalize Tb.found (⟨f1,root,key,0,slot,false,ret,lv⟩:Tb) S1=r3 at P7 ⊢;go_enter func298,ntmps298;exact Wm
theorem adg(h:aq K c S ss w0 w (jR K c 282 k S.th (some kf) rp lp 2 slot root key false::dG K kf S.th rv f::F))(hd:dk K.toMk d∈F)(g:Gd n c S ss)(ax:Ax S)(hs:0≤slot∧slot<c.S)(hr:0≤S.rc):
  b6 298 k d w (Post K c ss w0 F (rH K c 282 false S.th k) (false,(⟨f,root,key,6,slot,false,ret,0⟩:Tb),((S.load (c.ad 12 slot)).tell 2 (wrap64 (S.w (c.ad 12 slot)))))):=by
 have hl:=g.hl;have za:=fun(W:World) (h:aq K c ((S.load (c.ad 12 slot)).tell 2 (wrap64 (S.w (c.ad 12 slot)))) ss w0 W (jR K c 282 k S.th (some kf) rp lp 2 slot root key false::dG K kf S.th rv f::F))=>Rc (d:=d) h hl hr
 rw [show((S.load (c.ad 12 slot)).tell 2 (wrap64 (S.w (c.ad 12 slot)))).th=S.th from rfl] at za;have xi:=g.I.iO (r:=12) S_ hs.1 hs.2;have a:=g.I.eX (r:=12) O_ O_ xi;have haw:=sR g.I (r:=12) O_ O_ xi;have p0:=h.af aj;have q0:=h.af bp;go_enter func298,ntmps298;go_wp2
 go_region_held3 (fun w'=>w'.cell? ⟨k,5,none⟩=some (.int .i64 (c.ad 12 0))∧w'.cell? ⟨k,8,none⟩=some (.int .i64 slot)) (first | exact⟨p0.1 5,p0.1 8⟩ | exact⟨bB.1 5,bB.1 8⟩) (first | ((with_reducible refine un (bO h.drew (mT (mT hd)) ax a) fun dx m1=>?_);have bB:=m1.af aj) | ((with_reducible refine un (jZ _ _) fun wz hw=>?_);obtain rfl:=hw.symm))
 go_wp2_with fail;refine un (eV m1 (mT (mT hd)) g.s.load) fun w3 m3=>?_
 exact R2
theorem adf(h:aq K c S ss w0 w (jR K c 282 k S.th fp rp (some kl) 6 slot root key false::An K kl S.th lv::F))(hd:dk K.toMk d∈F)(g:Gd n c S ss)(ax:Ax S)(hr:0≤S.rc)(h0:0≤lv)(h3:lv<3):
  b6 298 k d w (Post K c ss w0 F (rH K c 282 false S.th k) (Tb.step c (⟨f,root,key,6,slot,false,ret,lv⟩:Tb) S)):=by
 have hm:=pF h.swap (mT hd) g ax hr h0 h3;have p0:=h.af aj
 have e:Tb.step c (⟨f,root,key,6,slot,false,ret,lv⟩:Tb) S=match gu c lv S with
   | (b,lv,S)=>(b,(⟨f,root,key,6,slot,false,ret,lv⟩:Tb),S):=rfl
 rw [e];clear e;have iV:(gu c lv S).2.2.th=S.th:=rfl;generalize gu c lv S=r at hm iV ⊢;obtain⟨b,l1,S1⟩:=r;simp only at hm iV;go_enter func298,ntmps298;exact S9
theorem OH(h:aq K c S ss w0 w (jR K c 282 k S.th fp rp lp 0 slot root key false::F))(g:Gd n c S ss)(hr:0≤S.rc)(ha:0≤root∧root<S.words.length):
  b6 297 k d w (Post K c ss w0 F (rH K c 282 false S.th k) (Tb.find (⟨f,root,key,0,slot,false,ret,lv⟩:Tb) 0 S)):=by
 have RC:=TI (d:=d) (x:=0) h g hr ha;go_enter func297,ntmps297;exact abk
theorem TH{x:Tb}{bk:List Int}{O:List En}(h:aq K c S ss w0 w (O++F))(o:rH K c 282 false S.th k x O)(hd:dk K.toMk d∈F)(g:Gd n c S ss)(ax:Ax S)(hn:n<800000000000)(ha:oR c x S q R bk nm pd):
  b6 298 k d w (Post K c ss w0 F (rH K c 282 false S.th k) (Tb.step c x S)):=by
 obtain⟨f,root,key,st,slot,tk,ret,lv⟩:=x;obtain⟨aZ,hr,ha⟩:=ha;obtain⟨ht,o⟩:=o;obtain rfl:tk=false:=ht;simp only at ha o
 rcases ha with ⟨hs,eO,vI,e,_,ha⟩ | ⟨_,⟨⟨hc,h2,hp,h3,hw⟩,h4,c0,c1,h5,hx⟩,mG,eO,vI,⟨hq,hs,_⟩ | ⟨hq,hs,_⟩ | ⟨hq,hs,_⟩ | ⟨hq,hs,_⟩⟩ | ⟨hs,hq,_,r,e,pG,_,ha⟩ | ⟨hs,hq,_,e,_,ha⟩ | ⟨hs,⟨_,hk⟩,_⟩<;>subst hs<;>(try (exfalso;exact Bool.noConfusion hq))<;>
  rcases o with ⟨q1,kf,rp,lp,Lf,o,rfl⟩ | ⟨q2,hdn,kf,rp,lp,rv,rfl⟩ | ⟨q3,fp,lp,kr,r',Lr,hrr',o,rfl⟩ | ⟨q4,fp,rp,kl,rfl⟩<;>try omega
 ·exact adh h hd g ax hn hr aZ o ha
 ·subst mG
  exact adg h hd g ax ⟨c0,c1⟩ hr
 ·exact adf h hd g ax hr (by show 0≤lv;rcases hk with ⟨q,_⟩ | ⟨q,_⟩ | ⟨q,_⟩<;>omega) (by show lv<3;rcases hk with ⟨q,_⟩ | ⟨q,_⟩ | ⟨q,_⟩<;>omega)
theorem DR{st x:Int}(h:aq K c S ss w0 w (jR K c 285 k S.th fp rp lp st slot root key true::F))(g:Gd n c S ss)(hr:0≤S.rc)(ha:0≤root∧root<S.words.length):
  cm 305 #[some k,some d,x] w false fun w'=>∃ kf,aq K c S ss w0 w' (jR K c 285 k S.th (some kf) rp lp x slot root key true::dG K kf S.th (.pointer none) (.new root key)::F):=by
 have p0:=h.af aj;go_enter func305,ntmps305;exact abQ
theorem Fx{st:Int}(h:aq K c S ss w0 w (jR K c 285 k S.th fp rp lp st slot root key true::F))(hl:S.th<S.held.length)(hr:0≤S.rc):
  Bb 307 k d w false fun w'=>∃ kl,aq K c S ss w0 w' (jR K c 285 k S.th fp rp (some kl) 6 slot root key true::An K kl S.th 0::F):=by
 have p0:=h.af aj;go_enter func307,ntmps307;exact abM
theorem XE(h:aq K c S ss w0 w (jR K c 285 k S.th (some kf) rp lp 0 slot root key true::dG K kf S.th rv f::F))(_:dk K.toMk d∈F)(_:Gc n c S ss)(_:0≤S.rc)(hdn:f.done=true)(hf:f.found=true):
  b6 306 k d w (Post K c ss w0 F (rH K c 285 true S.th k) (false,(⟨f,root,key,1,f.cur,true,ret,lv⟩:Tb),S)):=by
 have p0:=h.af aj;have q0:=h.af bp;have L8:f.found=true:=hf;clear hf;have xl:=fC h bp hdn;go_enter func306,ntmps306;go_wp2_with fail;refine un xl fun w1 e1=>?_
 have m1:=h.next e1;have bB:=m1.af aj;have n1:=m1.put 8 f.cur;have gM:=n1.af aj;have n2:=n1.put 7 (.int .i64 2);have jA:=n2.af aj;go_wp2;go_ret;exact⟨rfl,[_,_],fun _=>⟨rfl,.inr (.inl ⟨⟨S_,S_⟩,hdn,_,_,_,_,rfl⟩)⟩,n2.put 7 _⟩
theorem XF(h:aq K c S ss w0 w (jR K c 285 k S.th (some kf) rp lp 0 slot root key true::dG K kf S.th rv f::F))(hd:dk K.toMk d∈F)(g:Gc n c S ss)(hr:0≤S.rc)(hdn:f.done=true)(hf:f.found=false):
  b6 306 k d w (Post K c ss w0 F (rH K c 285 true S.th k) (false,(⟨f,root,key,6,f.cur,true,ret,0⟩:Tb),((S.aB f.pt).tell 6 0))):=by
 have p0:=h.af aj;have q0:=h.af bp;have hl:=g.hl;have za:=fun(W:World) (h:aq K c ((S.aB f.pt).tell 6 0) ss w0 W (jR K c 285 k S.th (some kf) rp lp 0 f.cur root key true::dG K kf S.th rv f::F))=>Fx (d:=d) h hl hr
 rw [show((S.aB f.pt).tell 6 0).th=S.th from rfl] at za;have L8:f.found=false:=hf;clear hf;have xl:=fC h bp hdn;go_enter func306,ntmps306;exact abw
theorem ade(h:aq K c S ss w0 w (jR K c 285 k S.th (some kf) rp lp 0 slot root key true::dG K kf S.th rv f::F))(hd:dk K.toMk d∈F)(g:Gc n c S ss)(hr:0≤S.rc)(hdn:f.done=true):
  b6 306 k d w (Post K c ss w0 F (rH K c 285 true S.th k) (Tb.found (⟨f,root,key,0,slot,true,ret,lv⟩:Tb) S)):=by
 have e:f.found=true→Tb.found (⟨f,root,key,0,slot,true,ret,lv⟩:Tb) S=(false,(⟨f,root,key,1,f.cur,true,ret,lv⟩:Tb),S):=fun q=>by
  unfold Tb.found;simp [q]
 have e':f.found=false→Tb.found (⟨f,root,key,0,slot,true,ret,lv⟩:Tb) S=(false,(⟨f,root,key,6,f.cur,true,ret,0⟩:Tb),((S.aB f.pt).tell 6 0)):=fun q=>by
  unfold Tb.found;simp [q,Tb.out]
 cases hf:f.found
 ·rw [e' hf];exact XF h hd g hr hdn hf
 ·rw [e hf];exact XE h hd g hr hdn hf
theorem adb(h:aq K c S ss w0 w (jR K c 285 k S.th (some kf) rp lp 0 slot root key true::(Lf++F)))(hd:dk K.toMk d∈F)(g:Gd n c S ss)(ax:Ax S)(hn:n<800000000000)(hr:0≤S.rc)(aZ:R 47=0)(o:jN K c S.th kf f Lf)(ha:jO c f S q R e nm pd):
  b6 304 k d w (Post K c ss w0 F (rH K c 285 true S.th k) (Tb.step c (⟨f,root,key,0,slot,true,ret,lv⟩:Tb) S)):=by
 have h1:=h.perm (G:=Lf++_::F) dV.symm;have hm:=pO h1 o (mT hd) g ax hn ha;have ga:=pN g o aZ ha;have hdn:=vU g aZ ha;have p0:=h.af aj;have j6:=oN ga;have eO:0≤(f.step c S).2.2.rc:=by rw [ga.kp.rc];exact hr
 have iV:=ga.th;have gc:=ga.cc;clear ga ha
 have hst:Tb.step c (⟨f,root,key,0,slot,true,ret,lv⟩:Tb) S=match f.step c S with
   | (false,f,S)=>(false,(⟨f,root,key,0,slot,true,ret,lv⟩:Tb),S)
   | (true,f,S)=>Tb.found (⟨f,root,key,0,slot,true,ret,lv⟩:Tb) S:=rfl
 rw [hst];clear hst;generalize f.step c S=r at hm hdn j6 eO iV gc ⊢;obtain⟨b,f1,S1⟩:=r;simp only at hdn j6 eO iV gc
 cases b
 ·simp only
  go_enter func304,ntmps304;exact abf
 ·simp only
  obtain⟨d1,d2,_⟩:=hdn rfl;have P7:=fun(W:World) (rv:Value) (h:aq K c S1 ss w0 W (jR K c 285 k S1.th (some kf) rp lp 0 slot root key true::dG K kf S1.th rv f1::F))=>ade (ret:=ret) (lv:=lv) h hd gc eO d1
  rw [iV] at P7;generalize Tb.found (⟨f1,root,key,0,slot,true,ret,lv⟩:Tb) S1=r3 at P7 ⊢;go_enter func304,ntmps304;exact Wm
theorem ac8(h:aq K c S ss w0 w (jR K c 285 k S.th (some kf) rp lp 5 slot root key true::(Lf++F)))(hd:dk K.toMk d∈F)(g:Gd n c S ss)(ax:Ax S)(hn:n<800000000000)(hr:0≤S.rc)(aZ:R 47=0)(o:jN K c S.th kf f Lf)(ha:jO c f S q R e nm pd):
  b6 304 k d w (Post K c ss w0 F (rH K c 285 true S.th k) (Tb.step c (⟨f,root,key,5,slot,true,ret,lv⟩:Tb) S)):=by
 have h1:=h.perm (G:=Lf++_::F) dV.symm;have hm:=pO h1 o (mT hd) g ax hn ha;have ga:=pN g o aZ ha;have hdn:=vU g aZ ha;have p0:=h.af aj;have j6:=oN ga;have eO:0≤(f.step c S).2.2.rc:=by rw [ga.kp.rc];exact hr
 have iV:=ga.th;have gc:=ga.cc;clear ga ha
 have hst:Tb.step c (⟨f,root,key,5,slot,true,ret,lv⟩:Tb) S=match f.step c S with
   | (false,f,S)=>(false,(⟨f,root,key,5,slot,true,ret,lv⟩:Tb),S)
   | (true,f,S)=>(false,(⟨f,root,key,6,slot,true,ret,0⟩:Tb),S):=rfl
 rw [hst];clear hst;generalize f.step c S=r at hm hdn j6 eO iV gc ⊢;obtain⟨b,f1,S1⟩:=r;simp only at hdn j6 eO iV gc
 cases b
 ·simp only
  go_enter func304,ntmps304;go_wp2_with fail;refine hm.mono ?_;rintro e w1 ⟨rfl,L,o1,m1⟩;go_wp2;go_ret;exact⟨rfl,_::L,fun _=>⟨rfl,.inl ⟨.inr rfl,_,_,_,_,o1,rfl⟩⟩,m1.perm dV⟩
 ·simp only
  obtain⟨d1,d2,_⟩:=hdn rfl;have za:=fun(W:World) (rv:Value) (h:aq K c S1 ss w0 W (jR K c 285 k S1.th (some kf) rp lp 5 slot root key true::dG K kf S1.th rv f1::F))=>Fx (d:=d) h j6 eO
  rw [iV] at za;go_enter func304,ntmps304;go_wp2_with fail;refine hm.mono ?_;rintro e w1 ⟨rfl,L,o1,m1⟩;obtain⟨rv,rfl⟩:=pM o1 d2;go_wp2_with fail;refine(za _ rv m1.swap).mono ?_;exact Wp
theorem ada(h:aq K c S ss w0 w (jR K c 285 k S.th (some kf) rp lp 2 slot root key true::dG K kf S.th rv f::F))(hd:dk K.toMk d∈F)(g:Gd n c S ss)(ax:Ax S)(hs:0≤slot∧slot<c.S)(hdn:f.done=true):
  b6 304 k d w (Post K c ss w0 F (rH K c 285 true S.th k) (false,(⟨f,root,key,3,slot,true,ret,lv⟩:Tb),((S.load (c.ad 12 slot)).tell 2 (wrap64 (S.w (c.ad 12 slot)))))):=by
 have xi:=g.I.iO (r:=12) S_ hs.1 hs.2;have a:=g.I.eX (r:=12) O_ O_ xi;have haw:=sR g.I (r:=12) O_ O_ xi;have p0:=h.af aj;have q0:=h.af bp;go_enter func304,ntmps304;go_wp2
 go_region_held3 (fun w'=>w'.cell? ⟨k,5,none⟩=some (.int .i64 (c.ad 12 0))∧w'.cell? ⟨k,8,none⟩=some (.int .i64 slot)) (first | exact⟨p0.1 5,p0.1 8⟩ | exact⟨bB.1 5,bB.1 8⟩) (first | ((with_reducible refine un (bO h.drew (mT (mT hd)) ax a) fun dx m1=>?_);have bB:=m1.af aj) | ((with_reducible refine un (jZ _ _) fun wz hw=>?_);obtain rfl:=hw.symm))
 go_wp2_with fail;refine un (eV m1 (mT (mT hd)) g.s.load) fun w3 m3=>?_
 have iq:=m3.af aj;go_wp2;go_ret;exact⟨rfl,[_,_],fun _=>⟨rfl,.inr (.inl ⟨⟨S_,S_⟩,hdn,_,_,_,_,rfl⟩)⟩,m3.put 7 _⟩
theorem XD(h:aq K c S ss w0 w (jR K c 285 k S.th (some kf) rp lp 1 slot root key true::dG K kf S.th rv f::F))(hd:dk K.toMk d∈F)(g:Gd n c S ss)(ax:Ax S)(hs:0≤slot∧slot<c.S)(hw:Lw c f.x)(hdn:f.done=true)(hr:0≤S.rc)(ha:0≤root∧root<S.words.length)(CA:Pw c (kd c (c.ad 13 slot)) (kZ (lk f.x)))(hb:decide (S.w (c.ad 13 slot)=f.x)=false):
  b6 304 k d w (Post K c ss w0 F (rH K c 285 true S.th k) (false,(⟨(Fi.new root key),root,key,0,slot,true,ret,lv⟩:Tb),(S.swap (c.ad 13 slot) f.x (kZ (lk f.x))))):=by
 have hwk:=dQ g.I hw;have F7:=g.I.bd;have F4:=fun W=>jr f.x W hwk.1 hwk.2.1 hwk.2.2
 have hk:=fun W=>lD (lk f.x) true W (eZ f.x) hwk.2.2
 simp only [dL] at hk;have By:=fun(W:World) (h:aq K c S ss w0 W (jR K c 285 k S.th (some kf) rp lp 1 slot root key true::dG K kf S.th rv f::F))=>qO h bp hdn
 have xi:=g.I.iO (r:=13) S_ hs.1 hs.2;have a:=g.I.eX (r:=13) O_ O_ xi;have haw:=sR g.I (r:=13) O_ O_ xi;have g1:Gd n c (S.swap (c.ad 13 slot) f.x (kZ (lk f.x))) ss:=g.swap a fun _=>CA
 have Xi:0≤root∧root<(S.swap (c.ad 13 slot) f.x (kZ (lk f.x))).words.length:=⟨ha.1,(by have h1:=g.I.len;have h2:=g1.I.len;omega)⟩;have RC:=fun(W:World) (h:aq K c (S.swap (c.ad 13 slot) f.x (kZ (lk f.x))) ss w0 W (jR K c 285 k S.th (some kf) rp lp 1 slot root key true::dG K kf S.th rv f::F))=>DR (d:=d) (x:=0) h g1 hr Xi
 rw [show(S.swap (c.ad 13 slot) f.x (kZ (lk f.x))).th=S.th from rfl] at RC;have p0:=h.af aj;have q0:=h.af bp;go_enter func304,ntmps304;go_wp2_with fail;refine un (By _ h) fun wz hw=>?_
 obtain rfl:=hw.symm;go_wp2_with fail;refine un (F4 _) fun wz hw=>?_
 obtain rfl:=hw.symm;go_wp2_with fail;refine un (hk _) fun wz hw=>?_
 obtain rfl:=hw.symm;go_wp2
 go_region_held3 (fun w'=>w'.cell? ⟨k,6,none⟩=some (.int .i64 (c.ad 13 0))∧w'.cell? ⟨k,8,none⟩=some (.int .i64 slot)) (first | exact⟨p0.1 6,p0.1 8⟩ | exact⟨bB.1 6,bB.1 8⟩) (first | ((with_reducible refine un (cD h.drew (mT (mT hd)) ax a hb) fun dx m1=>?_);have bB:=m1.af aj))
 go_wp2_with fail;refine(RC _ m1).mono ?_;rintro e w9 ⟨rfl,kf1,m9⟩;go_wp2;go_ret;exact⟨rfl,[_,_],fun _=>⟨rfl,.inl ⟨.inl rfl,_,_,_,_,.inl ⟨(by simp [Fi.new]),_,rfl⟩,rfl⟩⟩,(m9.perm ((mU _ (iC _ _ _)).trans (iC _ _ _))).drop⟩
theorem XC(h:aq K c S ss w0 w (jR K c 285 k S.th (some kf) rp lp 1 slot root key true::dG K kf S.th rv f::F))(hd:dk K.toMk d∈F)(g:Gd n c S ss)(ax:Ax S)(hs:0≤slot∧slot<c.S)(hw:Lw c f.x)(hdn:f.done=true)(hb:decide (S.w (c.ad 13 slot)=f.x)=true):
  b6 304 k d w (Post K c ss w0 F (rH K c 285 true S.th k) (false,(⟨f,root,key,2,slot,true,ret,lv⟩:Tb),(S.swap (c.ad 13 slot) f.x (kZ (lk f.x))).aB S.now)):=by
 have hwk:=dQ g.I hw;have F7:=g.I.bd;have F4:=fun W=>jr f.x W hwk.1 hwk.2.1 hwk.2.2
 have hk:=fun W=>lD (lk f.x) true W (eZ f.x) hwk.2.2
 simp only [dL] at hk;have By:=fun(W:World) (h:aq K c S ss w0 W (jR K c 285 k S.th (some kf) rp lp 1 slot root key true::dG K kf S.th rv f::F))=>qO h bp hdn
 have xi:=g.I.iO (r:=13) S_ hs.1 hs.2;have a:=g.I.eX (r:=13) O_ O_ xi;have haw:=sR g.I (r:=13) O_ O_ xi;have gs:Gs n c (S.swap (c.ad 13 slot) f.x (kZ (lk f.x))) ss:=g.s.swap;have p0:=h.af aj;have q0:=h.af bp;go_enter func304,ntmps304;go_wp2_with fail;refine un (By _ h) fun wz hw=>?_
 obtain rfl:=hw.symm;go_wp2_with fail;refine un (F4 _) fun wz hw=>?_
 obtain rfl:=hw.symm;go_wp2_with fail;refine un (hk _) fun wz hw=>?_
 obtain rfl:=hw.symm;go_wp2
 go_region_held3 (fun w'=>w'.cell? ⟨k,6,none⟩=some (.int .i64 (c.ad 13 0))∧w'.cell? ⟨k,8,none⟩=some (.int .i64 slot)) (first | exact⟨p0.1 6,p0.1 8⟩ | exact⟨bB.1 6,bB.1 8⟩) (first | ((with_reducible refine un (cD h.drew (mT (mT hd)) ax a hb) fun dx m1=>?_);have bB:=m1.af aj))
 go_wp2_with fail;refine un (gK m1 (mT (mT hd))) fun wz hw=>?_
 obtain rfl:=hw.symm;go_wp2_with fail;refine un (cX m1 (mT (mT hd)) gs) fun jP m2=>?_
 exact S6
theorem XB(h:aq K c S ss w0 w (jR K c 285 k S.th (some kf) rp lp 3 slot root key true::dG K kf S.th rv f::F))(hd:dk K.toMk d∈F)(g:Gd n c S ss)(ax:Ax S)(a:0≤f.p∧f.p<S.words.length)(CA:S.w f.p=f.w→Pw c (kd c f.p) f.x)(hdn:f.done=true)(hr:0≤S.rc)(ha:0≤root∧root<S.words.length)(hb:decide (S.w f.p=f.w)=false):
  b6 304 k d w (Post K c ss w0 F (rH K c 285 true S.th k) (false,(⟨(Fi.new root key),root,key,5,slot,true,ret,lv⟩:Tb),(S.swap f.p f.w f.x))):=by
 have Oh:=fun(W:World) (h:aq K c S ss w0 W (jR K c 285 k S.th (some kf) rp lp 3 slot root key true::dG K kf S.th rv f::F))=>wH h bp hdn
 have By:=fun(W:World) (h:aq K c S ss w0 W (jR K c 285 k S.th (some kf) rp lp 3 slot root key true::dG K kf S.th rv f::F))=>qO h bp hdn
 have g1:Gd n c (S.swap f.p f.w f.x) ss:=g.swap a CA;have Xi:0≤root∧root<(S.swap f.p f.w f.x).words.length:=⟨ha.1,(by have h1:=g.I.len;have h2:=g1.I.len;omega)⟩;have RC:=fun(W:World) (h:aq K c (S.swap f.p f.w f.x) ss w0 W (jR K c 285 k S.th (some kf) rp lp 3 slot root key true::dG K kf S.th rv f::F))=>DR (d:=d) (x:=5) h g1 hr Xi
 rw [show(S.swap f.p f.w f.x).th=S.th from rfl] at RC;have p0:=h.af aj;have q0:=h.af bp;go_enter func304,ntmps304;go_wp2_with fail;refine un (Oh _ h) fun w1 e1=>?_
 have m1:=h.next e1;have bB:=m1.af aj;go_wp2_with fail;refine un (By _ m1) fun wz hw=>?_
 obtain rfl:=hw.symm;go_wp2_with fail;refine un (cD m1 (mT (mT hd)) ax a hb) fun w2 m2=>?_
 have dN:=m2.af aj;go_wp2_with fail;refine(RC _ m2).mono ?_;rintro e w9 ⟨rfl,kf1,m9⟩;go_wp2;go_ret;exact⟨rfl,[_,_],fun _=>⟨rfl,.inl ⟨.inr rfl,_,_,_,_,.inl ⟨(by simp [Fi.new]),_,rfl⟩,rfl⟩⟩,(m9.perm ((mU _ (iC _ _ _)).trans (iC _ _ _))).drop⟩
theorem XA(h:aq K c S ss w0 w (jR K c 285 k S.th (some kf) rp lp 3 slot root key true::dG K kf S.th rv f::F))(hd:dk K.toMk d∈F)(g:Gd n c S ss)(ax:Ax S)(hs:0≤slot∧slot<c.S)(a:0≤f.p∧f.p<S.words.length)(CA:S.w f.p=f.w→Pw c (kd c f.p) f.x)(hdn:f.done=true)(hr:0≤S.rc)(hn:n<800000000000)(hb:decide (S.w f.p=f.w)=true):
  b6 304 k d w (Post K c ss w0 F (rH K c 285 true S.th k) (match ((Rt.new slot).ready c ((S.swap f.p f.w f.x).shift slot 4)) with
   | (false,r,S)=>(false,(⟨f,root,key,4,slot,true,some r,lv⟩:Tb),S)
   | (true,r,S)=>(false,(⟨f,root,key,6,slot,true,some r,0⟩:Tb),S))):=by
 have Oh:=fun(W:World) (h:aq K c S ss w0 W (jR K c 285 k S.th (some kf) rp lp 3 slot root key true::dG K kf S.th rv f::F))=>wH h bp hdn
 have By:=fun(W:World) (h:aq K c S ss w0 W (jR K c 285 k S.th (some kf) rp lp 3 slot root key true::dG K kf S.th rv f::F))=>qO h bp hdn
 have hN:n≤1000000000000:=O_
 have g2:Gd (n+1) c ((S.swap f.p f.w f.x).shift slot 4) ss:=(g.swap a CA).shift _ _;have gs1:Gs n c (S.swap f.p f.w f.x) ss:=g.s.swap;have pX:=fun(W:World) (kr:Nat) (h:aq K c ((S.swap f.p f.w f.x).shift slot 4) ss w0 W (FD K kr S.th slot (.pointer none)::jR K c 285 k S.th (some kf) (some kr) lp 4 slot root key true::dG K kf S.th rv f::F))=>lT h (mT (mT hd)) g2 O_ hr hs
 have ga:=FC g2 hr hs;have iV:((Rt.new slot).ready c ((S.swap f.p f.w f.x).shift slot 4)).2.2.th=S.th:=ga.th;have j6:=oN ga;have eO:0≤((Rt.new slot).ready c ((S.swap f.p f.w f.x).shift slot 4)).2.2.rc:=by rw [ga.kp.rc];exact hr
 clear ga;generalize ((Rt.new slot).ready c ((S.swap f.p f.w f.x).shift slot 4))=r at pX iV j6 eO ⊢;obtain⟨b,r1,S1⟩:=r;simp only at pX iV j6 eO;have za:=fun(W:World) (kr:Nat) (h:aq K c S1 ss w0 W (jR K c 285 k S1.th (some kf) (some kr) lp 4 slot root key true::dG K kf S.th rv f::F))=>Fx (d:=d) h j6 eO
 rw [iV] at za
 cases b
 ·simp only
  have p0:=h.af aj;have q0:=h.af bp;go_enter func304,ntmps304;go_wp2_with fail;refine un (Oh _ h) fun w1 e1=>?_
  have m1:=h.next e1;have bB:=m1.af aj;go_wp2_with fail;refine un (By _ m1) fun wz hw=>?_
  obtain rfl:=hw.symm;go_wp2_with fail;refine un (cD m1 (mT (mT hd)) ax a hb) fun w2 m2=>?_
  have dN:=m2.af aj;go_wp2
  go_region_held3 (fun w'=>w'.cell? ⟨k,1,none⟩=some (some K.bH)∧w'.cell? ⟨k,8,none⟩=some (.int .i64 slot)) (first | exact⟨dN.1 1,dN.1 8⟩ | exact⟨iq.1 1,iq.1 8⟩) (first | ((with_reducible refine un (cL m2.drew) fun wz hw=>?_);obtain rfl:=hw.symm) | ((with_reducible refine un (eN m2.drew (mT (mT hd)) gs1 hs Oz hN) fun zK m3=>?_);have iq:=m3.af aj))
  go_wp2
  go_region_held3 (fun w'=>w'.cell? ⟨k,1,none⟩=some (some K.bH)∧w'.cell? ⟨k,2,none⟩=some (.int .i64 S.th)∧w'.cell? ⟨k,8,none⟩=some (.int .i64 slot)) (first | exact⟨iq.1 1,iq.1 2,iq.1 8⟩ | exact⟨nB.1 1,nB.1 2,nB.1 8⟩ | exact⟨mM.1 1,mM.1 2,mM.1 8⟩) (first | ((with_reducible refine(fS m3.drew _ _).mono ?_);rintro e Kh ⟨Bp,rfl,_,m4⟩;have nB:=m4.af bp;have n4:=m4.swap.put 10 (some Bp);have mM:=n4.af aj))
  have n5:=n4.put 7 (.int .i64 4);have pn5:=n5.af aj;go_wp2_with fail;refine(pX _ Bp n5.swap).mono ?_;rintro e w8 ⟨rfl,L,o,m8⟩;go_wp2;go_ret;exact⟨rfl,_::L,fun _=>⟨rfl,.inr (.inr (.inl ⟨rfl,_,_,_,_,_,rfl,(by first | exact o trivial | exact o rfl | exact o),rfl⟩))⟩,(m8.perm ((fE (L:=L)).trans (iC _ _ _))).drop⟩
 ·simp only
  have p0:=h.af aj;have q0:=h.af bp;go_enter func304,ntmps304;go_wp2_with fail;refine un (Oh _ h) fun w1 e1=>?_
  have m1:=h.next e1;have bB:=m1.af aj;go_wp2_with fail;refine un (By _ m1) fun wz hw=>?_
  obtain rfl:=hw.symm;go_wp2_with fail;refine un (cD m1 (mT (mT hd)) ax a hb) fun w2 m2=>?_
  have dN:=m2.af aj;go_wp2
  go_region_held3 (fun w'=>w'.cell? ⟨k,1,none⟩=some (some K.bH)∧w'.cell? ⟨k,8,none⟩=some (.int .i64 slot)) (first | exact⟨dN.1 1,dN.1 8⟩ | exact⟨iq.1 1,iq.1 8⟩) (first | ((with_reducible refine un (cL m2.drew) fun wz hw=>?_);obtain rfl:=hw.symm) | ((with_reducible refine un (eN m2.drew (mT (mT hd)) gs1 hs Oz hN) fun zK m3=>?_);have iq:=m3.af aj))
  go_wp2
  go_region_held3 (fun w'=>w'.cell? ⟨k,1,none⟩=some (some K.bH)∧w'.cell? ⟨k,2,none⟩=some (.int .i64 S.th)∧w'.cell? ⟨k,8,none⟩=some (.int .i64 slot)) (first | exact⟨iq.1 1,iq.1 2,iq.1 8⟩ | exact⟨nB.1 1,nB.1 2,nB.1 8⟩ | exact⟨mM.1 1,mM.1 2,mM.1 8⟩) (first | ((with_reducible refine(fS m3.drew _ _).mono ?_);rintro e Kh ⟨Bp,rfl,_,m4⟩;have nB:=m4.af bp;have n4:=m4.swap.put 10 (some Bp);have mM:=n4.af aj))
  have n5:=n4.put 7 (.int .i64 4);have pn5:=n5.af aj;go_wp2_with fail;refine(pX _ Bp n5.swap).mono ?_;rintro e w8 ⟨rfl,L,o,m8⟩;go_wp2_with fail;refine(za _ Bp m8.kI).mono ?_;exact Wp
theorem ac9{r:Rt}(h:aq K c S ss w0 w (jR K c 285 k S.th fp (some kr) lp 4 slot root key true::(Lf++F)))(hd:dk K.toMk d∈F)(g:Gd n c S ss)(ax:Ax S)(hr:0≤S.rc)(hn:n<800000000000)(aZ:R 47=0)(o:zC K c S.th kr r Lf)(ha:mu c r S q R e nm pd):
  b6 304 k d w (Post K c ss w0 F (rH K c 285 true S.th k) (Tb.step c (⟨f,root,key,4,slot,true,some r,lv⟩:Tb) S)):=by
 have h1:=h.perm (G:=Lf++_::F) dV.symm;have hm:=oX o h1 (mT hd) g rfl O_ ax ha;have ga:=D6 g o aZ ha;have iV:=ga.th;have j6:=oN ga;have eO:0≤(r.step c S).2.2.rc:=by rw [ga.kp.rc];exact hr
 clear ga ha;have p0:=h.af (b:=k) aj
 have hst:Tb.step c (⟨f,root,key,4,slot,true,some r,lv⟩:Tb) S=match r.step c S with
   | (false,r,S)=>(false,(⟨f,root,key,4,slot,true,some r,lv⟩:Tb),S)
   | (true,r,S)=>(false,(⟨f,root,key,6,slot,true,some r,0⟩:Tb),S):=rfl
 rw [hst];clear hst;generalize r.step c S=r2 at hm j6 eO iV ⊢;obtain⟨b,r1,S1⟩:=r2;simp only at hm j6 eO iV;have za:=fun(W:World) (h:aq K c S1 ss w0 W (jR K c 285 k S1.th fp (some kr) lp 4 slot root key true::F))=>Fx (d:=d) h j6 eO
 rw [iV] at za
 cases b
 ·simp only
  go_enter func304,ntmps304;go_wp2_with fail;refine hm.mono ?_;rintro e w9 ⟨rfl,L,o,m9⟩;go_wp2;go_ret;exact⟨rfl,_::L,fun _=>⟨rfl,.inr (.inr (.inl ⟨rfl,_,_,_,_,_,rfl,(by first | exact o trivial | exact o rfl | exact o),rfl⟩))⟩,m9.perm dV⟩
 ·simp only
  go_enter func304,ntmps304;go_wp2_with fail;refine hm.mono ?_;rintro e w8 ⟨rfl,L,o,m8⟩;go_wp2_with fail;refine(za _ m8.kI).mono ?_;rintro e w9 ⟨rfl,kl,m9⟩;go_wp2;go_ret;exact⟨rfl,[_,_],fun _=>⟨rfl,.inr (.inr (.inr ⟨rfl,_,_,_,rfl⟩))⟩,m9⟩
theorem ac7(h:aq K c S ss w0 w (jR K c 285 k S.th fp rp (some kl) 6 slot root key true::An K kl S.th lv::F))(hd:dk K.toMk d∈F)(g:Gd n c S ss)(ax:Ax S)(hr:0≤S.rc)(h0:0≤lv)(h3:lv<3):
  b6 304 k d w (Post K c ss w0 F (rH K c 285 true S.th k) (Tb.step c (⟨f,root,key,6,slot,true,ret,lv⟩:Tb) S)):=by
 have hm:=pF h.swap (mT hd) g ax hr h0 h3;have p0:=h.af aj
 have e:Tb.step c (⟨f,root,key,6,slot,true,ret,lv⟩:Tb) S=match gu c lv S with
   | (b,lv,S)=>(b,(⟨f,root,key,6,slot,true,ret,lv⟩:Tb),S):=rfl
 rw [e];clear e;have iV:(gu c lv S).2.2.th=S.th:=rfl;generalize gu c lv S=r at hm iV ⊢;obtain⟨b,l1,S1⟩:=r;simp only at hm iV;go_enter func304,ntmps304;exact S9
theorem OA(h:aq K c S ss w0 w (jR K c 285 k S.th fp rp lp 0 slot root key true::F))(g:Gd n c S ss)(hr:0≤S.rc)(ha:0≤root∧root<S.words.length):
  b6 303 k d w (Post K c ss w0 F (rH K c 285 true S.th k) (Tb.find (⟨f,root,key,0,slot,true,ret,lv⟩:Tb) 0 S)):=by
 have RC:=DR (d:=d) (x:=0) h g hr ha;go_enter func303,ntmps303;exact abk
theorem TF{x:Tb}{bk:List Int}{O:List En}(h:aq K c S ss w0 w (O++F))(o:rH K c 285 true S.th k x O)(hd:dk K.toMk d∈F)(g:Gd n c S ss)(ax:Ax S)(hn:n<800000000000)(ha:oR c x S q R bk nm pd):
  b6 304 k d w (Post K c ss w0 F (rH K c 285 true S.th k) (Tb.step c x S)):=by
 obtain⟨f,root,key,st,slot,tk,ret,lv⟩:=x;obtain⟨aZ,hr,ha⟩:=ha;obtain⟨ht,o⟩:=o;obtain rfl:tk=true:=ht;simp only at ha o
 rcases ha with ⟨hs,eO,vI,e,_,ha⟩ | ⟨_,⟨⟨hc,h2,hp,h3,hw⟩,h4,c0,c1,h5,hx⟩,mG,eO,vI,⟨hq,hs,_⟩ | ⟨hq,hs,_⟩ | ⟨hq,hs,_⟩ | ⟨hq,hs,_⟩⟩ | ⟨hs,hq,_,r,e,pG,_,ha⟩ | ⟨hs,hq,_,e,_,ha⟩ | ⟨hs,⟨_,hk⟩,_⟩<;>subst hs<;>(try (exfalso;exact Bool.noConfusion hq))<;>
  rcases o with ⟨q1,kf,rp,lp,Lf,o,rfl⟩ | ⟨q2,hdn,kf,rp,lp,rv,rfl⟩ | ⟨q3,fp,lp,kr,r',Lr,hrr',o,rfl⟩ | ⟨q4,fp,rp,kl,rfl⟩<;>try omega
 ·exact adb h hd g ax hn hr aZ o ha
 ·subst mG eO
  have e:Tb.step c ⟨f,f.root,key,1,f.cur,true,ret,lv⟩ S=if S.w (c.ad 13 f.cur)=f.x then(false,⟨f,f.root,key,2,f.cur,true,ret,lv⟩,(S.swap (c.ad 13 f.cur) f.x (kZ (lk f.x))).aB S.now) else(false,⟨Fi.new f.root key,f.root,key,0,f.cur,true,ret,lv⟩,S.swap (c.ad 13 f.cur) f.x (kZ (lk f.x))):=rfl;rw [e]
  by_cases q:S.w (c.ad 13 f.cur)=f.x
  ·rw [aY q];exact XC h hd g ax ⟨c0,c1⟩ hx hdn (cM q)
  ·rw [aK q];exact XD h hd g ax ⟨c0,c1⟩ hx hdn hr (g.I.pa hc.pr).1 (g.I.mZ O_ (g.I.iO (r:=13) O_ c0 c1) (Al g.I hx)) (dy q)
 ·subst mG
  exact ada h hd g ax ⟨c0,c1⟩ hdn
 ·subst mG eO
  obtain⟨aP,_,sP⟩:=g.I.pa hp
  have e:Tb.step c ⟨f,f.root,key,3,f.cur,true,ret,lv⟩ S=if S.w f.p=f.w then(match (Rt.new f.cur).ready c ((S.swap f.p f.w f.x).shift f.cur 4) with
   | (false,r,S)=>(false,⟨f,f.root,key,4,f.cur,true,some r,lv⟩,S)
   | (true,r,S)=>(false,⟨f,f.root,key,6,f.cur,true,some r,0⟩,S)) else(false,⟨Fi.new f.root key,f.root,key,5,f.cur,true,ret,lv⟩,S.swap f.p f.w f.x):=rfl
  rw [e]
  by_cases q:S.w f.p=f.w
  ·rw [aY q];exact XA h hd g ax ⟨c0,c1⟩ aP (fun _=>sP _ hx) hdn hr hn (cM q)
  ·rw [aK q];exact XB h hd g ax aP (fun _=>sP _ hx) hdn hr (g.I.pa hc.pr).1 (dy q)
 ·obtain rfl:ret=some r:=pG
  obtain rfl:r=r':=Option.some.inj hrr';exact ac9 h hd g ax hr hn aZ o ha
 ·exact ac8 h hd g ax hn hr aZ o ha
 ·exact ac7 h hd g ax hr (by show 0≤lv;rcases hk with ⟨q,_⟩ | ⟨q,_⟩ | ⟨q,_⟩<;>omega) (by show lv<3;rcases hk with ⟨q,_⟩ | ⟨q,_⟩ | ⟨q,_⟩<;>omega)
end
section
variable{K:Ky}{c:Cf}{S:PM}{ss:List Sv}{w0 w w':World}{F H:List En}{d b n k kt th:Nat}{t:TypeId}{cs:List Value}{sv fv:Value}
@[reducible] def BI(K:Ky)(k:Nat)(th kk st:Int)(sv fv:Value):En:=ob k 179 [some K.bH,th,kk,st,sv,fv]
theorem Ms{p:Pu}{pc:Nat}{R:Nat→Int}(h:IZ c p pc R):Tn c p:=abb
def Ng(K:Ky)(c:Cf)(th k:Nat)(u:Ur)(L:List En):Prop:=
 (u.az=0∧L= [BI K k th u.k 0 (.pointer none) (.pointer none)])∨
 (u.az=1∧∃ s ks Ls,u.scan=some s∧qx K c th ks s Ls∧L=BI K k th u.k 1 (some ks) (.pointer none)::Ls)∨
 (u.az=2∧∃ p kf sv,u.flush=some p∧L= [BI K k th u.k 2 sv (some kf),nC K kf 268 th p])∨
 (u.az=3∧∃ sv fv,L= [BI K k th u.k 3 sv fv])
theorem Fv{u:Ur}{st:Int}(h:aq K c S ss w0 w (BI K k S.th u.k st sv (.pointer none)::F))(mF:S.th<S.aO.length)(hca:S.cache.length<100000):
  Bb 218 k d w (.tuple #[]) fun w'=>∃ L,Ng K c S.th k (u.empty S).2.1 L∧aq K c (u.empty S).2.2 ss w0 w' (L++F):=by
 have p0:=h.af aj;have hfl:=fun(W:World) (kf:Nat) (h:aq K c S ss w0 W (nC K kf 268 S.th ⟨0,0,0⟩::BI K k S.th u.k 2 sv (some kf)::F))=>tE (d:=d) h mF hca
 have hu:u.empty S=(false,{u with flush:=some ((Pu.mk 0 0 0).dU S).2.1,az:=if((Pu.mk 0 0 0).dU S).1 then 3 else 2},((Pu.mk 0 0 0).dU S).2.2):=rfl;rw [hu];clear hu;generalize (Pu.mk 0 0 0).dU S=r at hfl ⊢;obtain⟨b,p1,S1⟩:=r;simp only at hfl ⊢
 cases b
 ·simp only [mD,eu]
  go_enter func218,ntmps218;go_wp2
  go_region_held3 (fun w'=>w'.cell? ⟨k,0,none⟩=some (some K.bH)∧w'.cell? ⟨K.bH,0,none⟩=some (some K.bA)∧w'.cell? ⟨k,1,none⟩=some (.int .i64 S.th)) (first | exact⟨(h.all aj) 0,(h.fF).1 0,(h.all aj) 1⟩ | exact⟨(m1.all bp) 0,(m1.fF).1 0,(m1.all bp) 1⟩ | exact⟨(n1.all aj) 0,(n1.fF).1 0,(n1.all aj) 1⟩) (first | ((with_reducible refine(zg h.drew _).mono ?_);rintro e dx ⟨Bq,rfl,_,m1⟩;have bB:=m1.af bp;have n1:=m1.swap.put 5 (some Bq);have gM:=n1.af aj))
  have n2:=n1.put 3 (.int .i64 2);have jA:=n2.af aj;go_wp2_with fail;refine un (hfl _ Bq n2.swap) fun w5 m5=>?_
  have p5:=m5.af bp;go_wp2_with fail;exact iP ⟨rfl,[_,_],.inr (.inr (.inl ⟨rfl,_,_,_,rfl,rfl⟩)),m5.swap⟩
 ·simp only [dL]
  go_enter func218,ntmps218;go_wp2
  go_region_held3 (fun w'=>w'.cell? ⟨k,0,none⟩=some (some K.bH)∧w'.cell? ⟨K.bH,0,none⟩=some (some K.bA)∧w'.cell? ⟨k,1,none⟩=some (.int .i64 S.th)) (first | exact⟨(h.all aj) 0,(h.fF).1 0,(h.all aj) 1⟩ | exact⟨(m1.all bp) 0,(m1.fF).1 0,(m1.all bp) 1⟩ | exact⟨(n1.all aj) 0,(n1.fF).1 0,(n1.all aj) 1⟩) (first | ((with_reducible refine(zg h.drew _).mono ?_);rintro e dx ⟨Bq,rfl,_,m1⟩;have bB:=m1.af bp;have n1:=m1.swap.put 5 (some Bq);have gM:=n1.af aj))
  have n2:=n1.put 3 (.int .i64 2);have jA:=n2.af aj;go_wp2_with fail;refine un (hfl _ Bq n2.swap) fun w5 m5=>?_
  have p5:=m5.af bp;go_wp2_with fail;exact iP ⟨rfl,[_],.inr (.inr (.inr ⟨rfl,_,_,rfl⟩)),(m5.swap.put 3 _).perm ((iC _ _ _)) |>.drop⟩
variable{kk:Int}{sc:Option Sc}{fl:Option Pu}
theorem Xw(h:aq K c S ss w0 w (BI K k S.th kk 0 (.pointer none) (.pointer none)::F))(hd:dk K.toMk d∈F)(g:Gd n c S ss)(ax:Ax S)(hr:0≤S.rc)(hk:0≤kk∧kk<c.H)(hlt:kk+1<c.H):
  b6 217 k d w (Post K c ss w0 F (Ng K c S.th k) (false,⟨kk+1,0,sc,fl⟩,S.store (S.hz c kk) 0)):=by
 have hI:=g.I.bd;have a:=qU g hr hk.1 hk.2;have hA:=fun(W:World) (h:aq K c S ss w0 W (BI K k S.th kk 0 (.pointer none) (.pointer none)::F))=>jj h g.I kk hr hk.1 hk.2
 have p0:=(⟨h.af aj,h.fF⟩:AF k _ _∧AF K.bH (eE K c S) _);have hw1:IntKind.i64.wrap (kk+1)=kk+1:=ei O_ O_;have d1:decide (kk+1<c.H)=true:=cM hlt;go_enter func217,ntmps217;go_wp2
 go_region_held3 (AF k [Value.pointer (some ⟨K.bH,0,none⟩),S.th,kk,.int .i64 0,.pointer none,.pointer none]) (first | exact p0.1 | exact bB | exact dN) (first | ((with_reducible refine un (hA _ h.drew) fun dx gx=>?_);have m1:=h.drew.next gx;have bB:=m1.af aj) | ((with_reducible refine un (cx m1 (mT hd) ax a) fun jP m2=>?_);have dN:=m2.af aj))
 have n2:=m2.put 2 (.int .i64 (kk+1));have jA:AF k [Value.pointer (some ⟨K.bH,0,none⟩),S.th,.int .i64 (kk+1),.int .i64 0,.pointer none,.pointer none] _∧AF K.bH (eE K c S) _:=⟨n2.af aj,n2.fF⟩;go_wp2
 go_region_held3 (fun w'=>AF k [Value.pointer (some ⟨K.bH,0,none⟩),S.th,.int .i64 (kk+1),.int .i64 0,.pointer none,.pointer none] w'∧AF K.bH (eE K c S) w') (first | exact jA) (fail)
 go_wp2;go_ret;exact⟨rfl,[_],fun _=>.inl ⟨rfl,rfl⟩,n2.drew⟩
theorem Xv(h:aq K c S ss w0 w (BI K k S.th kk 0 (.pointer none) (.pointer none)::F))(hd:dk K.toMk d∈F)(g:Gd n c S ss)(ax:Ax S)(hr:0≤S.rc)(hk:0≤kk∧kk<c.H)(hlt:¬kk+1<c.H):
  b6 217 k d w (Post K c ss w0 F (Ng K c S.th k) (Ur.step c ⟨kk,0,sc,fl⟩ S)):=by
 have hI:=g.I.bd;have a:=qU g hr hk.1 hk.2;have hA:=fun(W:World) (h:aq K c S ss w0 W (BI K k S.th kk 0 (.pointer none) (.pointer none)::F))=>jj h g.I kk hr hk.1 hk.2
 have p0:=(⟨h.af aj,h.fF⟩:AF k _ _∧AF K.bH (eE K c S) _);have hw1:IntKind.i64.wrap (kk+1)=kk+1:=ei O_ O_;have d1:decide (kk+1<c.H)=false:=dy hlt
 have hst:Ur.step c ⟨kk,0,sc,fl⟩ S=match (Sc.new S.rc).ready c (S.store (S.hz c kk) 0) with
   | (false,s,S)=>(false,⟨kk+1,1,some s,fl⟩,S)
   | (true,s,S)=>Ur.empty ⟨kk+1,1,some s,fl⟩ S:=by
  unfold Ur.step;simp only [dL,aK hlt]
  rfl
 rw [hst];clear hst;have g2:Gd n c (S.store (S.hz c kk) 0) ss:=g.store a (g.I.mZ (r:=9) S_ (g.I.Br hr hk.1 hk.2).1 (Lw.zero g.I));have hrb:=g.I.JU;have Va:=fun(W:World) (ks:Nat) (h:aq K c (S.store (S.hz c kk) 0) ss w0 W (mY K ks S.th (.new S.rc)::BI K k S.th (kk+1) 1 (some ks) (.pointer none)::F))=>zW (d:=d) h g2.I ⟨hr,hrb.2⟩ rfl
 have IP:=g.hl;have hk2:((Sc.new S.rc).ready c (S.store (S.hz c kk) 0)).2.2=S.store (S.hz c kk) 0:=by rw [Sc.ready,jd]
 have g3:=g2;generalize (Sc.new S.rc).ready c (S.store (S.hz c kk) 0)=r at Va hk2 ⊢;obtain⟨b,s1,S1⟩:=r;simp only at hk2 Va ⊢;subst hk2;have hem:=fun(W:World) (ks:Nat) (h:aq K c (S.store (S.hz c kk) 0) ss w0 W (BI K k S.th (kk+1) 1 (some ks) (.pointer none)::F))=>Fv (d:=d) (u:=⟨kk+1,1,some s1,fl⟩) h g3.th g3.ca
 have P6:(Ur.empty ⟨kk+1,1,some s1,fl⟩ (S.store (S.hz c kk) 0)).1=false:=rfl
 cases b
 ·simp only
  go_enter func217,ntmps217;go_wp2
  go_region_held3 (AF k [Value.pointer (some ⟨K.bH,0,none⟩),S.th,kk,.int .i64 0,.pointer none,.pointer none]) (first | exact p0.1 | exact bB | exact dN) (first | ((with_reducible refine un (hA _ h.drew) fun dx gx=>?_);have m1:=h.drew.next gx;have bB:=m1.af aj) | ((with_reducible refine un (cx m1 (mT hd) ax a) fun jP m2=>?_);have dN:=m2.af aj))
  have n2:=m2.put 2 (.int .i64 (kk+1));have jA:AF k [Value.pointer (some ⟨K.bH,0,none⟩),S.th,.int .i64 (kk+1),.int .i64 0,.pointer none,.pointer none] _∧AF K.bH (eE K c S) _:=⟨n2.af aj,n2.fF⟩;go_wp2
  go_region_held3 (fun w'=>AF k [Value.pointer (some ⟨K.bH,0,none⟩),S.th,.int .i64 (kk+1),.int .i64 0,.pointer none,.pointer none] w'∧AF K.bH (eE K c S) w') (first | exact jA) (fail)
  have IJ:=uR (S:=S.store (S.hz c kk) 0) n2.drew IP;go_wp2_with fail;refine IJ.mono ?_;rintro e w5 ⟨ks,rfl,_,m5⟩;have p5:=m5.af bp;have n6:=m5.swap.put 4 (some ks);have p6:=n6.af aj;have n7:=n6.put 3 (.int .i64 1);have p7:=n7.af aj;go_wp2_with fail;refine(Va _ ks n7.swap).mono ?_;rintro e w8 ⟨rfl,L,o,m8⟩;go_wp2;go_ret;exact⟨rfl,_::L,fun _=>.inr (.inl ⟨rfl,_,_,_,rfl,(by first | exact o | exact o rfl | exact o trivial),rfl⟩),m8.perm dV⟩
 ·simp only
  generalize Ur.empty ⟨kk+1,1,some s1,fl⟩ (S.store (S.hz c kk) 0)=r3 at hem P6 ⊢;go_enter func217,ntmps217;go_wp2
  go_region_held3 (AF k [Value.pointer (some ⟨K.bH,0,none⟩),S.th,kk,.int .i64 0,.pointer none,.pointer none]) (first | exact p0.1 | exact bB | exact dN) (first | ((with_reducible refine un (hA _ h.drew) fun dx gx=>?_);have m1:=h.drew.next gx;have bB:=m1.af aj) | ((with_reducible refine un (cx m1 (mT hd) ax a) fun jP m2=>?_);have dN:=m2.af aj))
  have n2:=m2.put 2 (.int .i64 (kk+1));have jA:AF k [Value.pointer (some ⟨K.bH,0,none⟩),S.th,.int .i64 (kk+1),.int .i64 0,.pointer none,.pointer none] _∧AF K.bH (eE K c S) _:=⟨n2.af aj,n2.fF⟩;go_wp2
  go_region_held3 (fun w'=>AF k [Value.pointer (some ⟨K.bH,0,none⟩),S.th,.int .i64 (kk+1),.int .i64 0,.pointer none,.pointer none] w'∧AF K.bH (eE K c S) w') (first | exact jA) (fail)
  have IJ:=uR (S:=S.store (S.hz c kk) 0) n2.drew IP;go_wp2_with fail;refine IJ.mono ?_;rintro e w5 ⟨ks,rfl,_,m5⟩;have p5:=m5.af bp;have n6:=m5.swap.put 4 (some ks);have p6:=n6.af aj;have n7:=n6.put 3 (.int .i64 1);have p7:=n7.af aj;go_wp2_with fail;refine(Va _ ks n7.swap).mono ?_;rintro e w8 ⟨rfl,L,_,m8⟩;go_wp2_with fail;refine(hem _ ks m8.kI).mono ?_;exact SD
theorem ac5{s:Sc}{ks q:Nat}{R:Nat→Int}{e nm pd:List Int}{Ls:List En}(h:aq K c S ss w0 w (BI K k S.th kk 1 (some ks) (.pointer none)::(Ls++F)))(hd:dk K.toMk d∈F)(g:Gd n c S ss)(ax:Ax S)(_:0≤S.rc)(hn:n<800000000000)(aZ:R 47=0)(o:qx K c S.th ks s Ls)(ha:sX c s S q R e nm pd):
  b6 217 k d w (Post K c ss w0 F (Ng K c S.th k) (Ur.step c ⟨kk,1,some s,fl⟩ S)):=by
 have h1:aq K c S ss w0 w (Ls++BI K k S.th kk 1 (some ks) (.pointer none)::F):=h.perm dV.symm;have hm:=D3 o h1 (mT hd) g rfl O_ ax ha;have ga:=KE g aZ ha (sk o);have mF:(s.step c S).2.2.th<(s.step c S).2.2.aO.length:=by have:=ga.I.ca;have:=g.I.tK;rw [ga.th];omega
 have hca:=ga.ca;have ht:=ga.th;clear ga;have p0:=h.af aj
 have hst:Ur.step c ⟨kk,1,some s,fl⟩ S=match s.step c S with
   | (false,s,S)=>(false,⟨kk,1,some s,fl⟩,S)
   | (true,s,S)=>Ur.empty ⟨kk,1,some s,fl⟩ S:=rfl
 rw [hst];clear hst;generalize s.step c S=r at hm mF hca ht ⊢;obtain⟨b,s1,S1⟩:=r;simp only at mF hca ht hm ⊢;have hem:=fun(W:World) (h:aq K c S1 ss w0 W (BI K k S1.th kk 1 (some ks) (.pointer none)::F))=>Fv (d:=d) (u:=⟨kk,1,some s1,fl⟩) h mF hca
 rw [ht] at hem;have P6:(Ur.empty ⟨kk,1,some s1,fl⟩ S1).1=false:=rfl
 cases b
 ·simp only
  go_enter func217,ntmps217;go_wp2_with fail;refine hm.mono ?_;rintro e w5 ⟨rfl,L,o5,m5⟩;go_wp2;go_ret;exact⟨rfl,_::L,fun _=>.inr (.inl ⟨rfl,_,_,_,rfl,(by first | exact o5 | exact o5 rfl | exact o5 trivial),rfl⟩),m5.perm dV⟩
 ·simp only
  generalize Ur.empty ⟨kk,1,some s1,fl⟩ S1=r3 at hem P6 ⊢;go_enter func217,ntmps217;go_wp2_with fail;refine hm.mono ?_;rintro e w5 ⟨rfl,L,_,m5⟩;go_wp2_with fail;refine(hem _ m5.kI).mono ?_;exact SD
theorem ac4{p:Pu}{kf:Nat}(h:aq K c S ss w0 w (BI K k S.th kk 2 sv (some kf)::nC K kf 268 S.th p::F))(hd:dk K.toMk d∈F)(g:Gd n c S ss)(ax:Ax S)(_:0≤S.rc)(hn:n<800000000000)(hp:Tn c p)(hla:S.cache.getLast?=some p.slot):
  b6 217 k d w (Post K c ss w0 F (Ng K c S.th k) (Ur.step c ⟨kk,2,sc,some p⟩ S)):=by
 have hm:=vQ h.swap (mT hd) g.I ax.1 ax.2 g.bb hp g.th g.ca hla;have p0:=h.af aj;have hst:Ur.step c ⟨kk,2,sc,some p⟩ S=(false,⟨kk,if(p.iW c S).1 then 3 else 2,sc,some (p.iW c S).2.1⟩,(p.iW c S).2.2):=rfl;rw [hst];clear hst;generalize p.iW c S=r at hm ⊢;obtain⟨b,p1,S1⟩:=r;simp only at hm ⊢
 cases b
 ·simp only [mD,eu]
  go_enter func217,ntmps217;go_wp2_with fail;refine un hm fun w5 m5=>?_
  go_wp2;go_ret;exact⟨rfl,[_,_],fun _=>.inr (.inr (.inl ⟨rfl,_,_,_,rfl,rfl⟩)),m5.swap⟩
 ·simp only [dL]
  go_enter func217,ntmps217;go_wp2_with fail;refine un hm fun w5 m5=>?_
  have p5:=m5.af bp;go_wp2;go_ret;exact⟨rfl,[_],fun _=>.inr (.inr (.inr ⟨rfl,_,_,rfl⟩)),((m5.swap.put 3 _).perm (iC _ _ _)).drop⟩
theorem ac3(h:aq K c S ss w0 w (BI K k S.th kk 3 sv fv::F))(hd:dk K.toMk d∈F)(g:Gd n c S ss)(ax:Ax S)(hr:0≤S.rc):
  b6 217 k d w (Post K c ss w0 F (Ng K c S.th k) (true,⟨kk,3,sc,fl⟩,(S.store (c.ad 8 S.rc) 0).hold (-1))):=by
 have hrb:=g.I.JU;have xi:=g.I.IF hr hrb.2;have a:=g.I.eX (r:=8) O_ O_ xi;have ha:=yh g.I ⟨hr,hrb.2⟩;have IP:=g.hl;have d1:decide ((S.th:Int)<(S.held.length:Int))=true:=cM O_;have q0:=h.Eu IP;have p0:=(⟨h.af aj,h.fF⟩:AF k _ _∧AF K.bH (eE K c S) _);go_enter func217,ntmps217;go_wp2
 go_region_held3 (fun w'=>AF k [Value.pointer (some ⟨K.bH,0,none⟩),S.th,kk,.int .i64 3,sv,fv] w'∧AF K.bH (eE K c S) w'∧w'.cell? ⟨K.gh,S.th,none⟩=some (.int .i64 S.rc)) (first | exact⟨p0.1,p0.2,q0.1⟩ | exact⟨bB.1,bB.2,q1.1⟩) (first | ((with_reducible refine un (cx h.drew (mT hd) ax a) fun dx m1=>?_);have bB:=(⟨m1.af aj,m1.fF⟩:AF k _ _∧AF K.bH (eE K c S) _);have q1:dx.cell? ⟨K.gh,S.th,none⟩=some (.int .i64 S.rc)∧dx.frozen? ⟨K.gh,S.th,none⟩=false:=m1.Eu IP))
 have m2:aq K c ((S.store (c.ad 8 S.rc) 0).hold (-1)) ss w0 _ _:=m1.hold (-1);have pn:AF k [Value.pointer (some ⟨K.bH,0,none⟩),S.th,kk,.int .i64 3,sv,fv] (dx.setCell ⟨K.gh,S.th,none⟩ (.int .i64 (-1)))∧AF K.bH (eE K c S) (dx.setCell ⟨K.gh,S.th,none⟩ (.int .i64 (-1))):=⟨m2.af aj,by have:=m2.fF;rw [Cz] at this;exact this⟩;go_wp2
 go_region_held3 (fun w'=>AF k [Value.pointer (some ⟨K.bH,0,none⟩),S.th,kk,.int .i64 3,sv,fv] w'∧AF K.bH (eE K c S) w') (first | exact bB | exact pn) (fail)
 exact RV
theorem TD{u:Ur}{q:Nat}{R:Nat→Int}{bk nm pd:List Int}{O:List En}(h:aq K c S ss w0 w (O++F))(o:Ng K c S.th k u O)(hd:dk K.toMk d∈F)(g:Gd n c S ss)(ax:Ax S)(hn:n<800000000000)(ha:Dh c u S q R bk nm pd):
  b6 217 k d w (Post K c ss w0 F (Ng K c S.th k) (u.step c S)):=by
 obtain⟨kk,st,sc,fl⟩:=u;obtain⟨aZ,_,hr,ha⟩:=ha;simp only at ha
 rcases ha with ⟨hs,_,_,k0,k1,_⟩ | ⟨hs,s,e,hsc,_,hsa⟩ | ⟨hs,p,hfl,_,_,hla,hfa⟩ | ⟨hs,_⟩<;>subst hs<;>rcases o with ⟨q,o⟩ | ⟨q,o⟩ | ⟨q,o⟩ | ⟨q,o⟩<;>try (simp only at q;omega)
 ·subst o
  by_cases hlt:kk+1<c.H
  ·have e:Ur.step c ⟨kk,0,sc,fl⟩ S=(false,⟨kk+1,0,sc,fl⟩,S.store (S.hz c kk) 0):=by unfold Ur.step;simp only [dL,aY hlt]
   rw [e];exact Xw h hd g ax hr ⟨k0,k1⟩ hlt
  ·exact Xv h hd g ax hr ⟨k0,k1⟩ hlt
 ·obtain⟨s',ks,Ls,hs',os,rfl⟩:=o
  simp only at hs';rw [hsc] at hs';injection hs' with hs';subst hsc hs';exact ac5 h hd g ax hr hn aZ os hsa
 ·obtain⟨p',kf,sv,L1,rfl⟩:=o
  simp only at L1;rw [hfl] at L1;injection L1 with L1;subst hfl L1;exact ac4 h hd g ax hr hn (Ms hfa) hla
 ·obtain⟨sv,fv,rfl⟩:=o
  exact ac3 h hd g ax hr
end
section
variable{K:Ky}{c:Cf}{S:PM}{ss:List Sv}{w0 w w':World}{F H:List En}{d b n k kt th:Nat}{cs:List Value}{tv rv:Value}
@[reducible] def mI(K:Ky)(c:Cf)(k:Nat)(th:Int)(rv:Value)(g:Dq):En:=ob k 212 [some K.bH,c.ad 4 0,c.ad 5 0,c.ad 11 0,c.ad 13 0,th,g.pc,.int .u64 g.h0,.int .u64 g.t,.int .u64 g.n,g.val,g.got,g.yY,g.II,g.dD,rv]
def rY(K:Ky)(c:Cf)(th k:Nat)(g:Dq)(L:List En):Prop:=
 (g.pc≠12∧L= [mI K c k th (.pointer none) g])∨(g.pc=12∧∃ r kr Lr,g.ret=some r∧zC K c th kr r Lr∧L=mI K c k th (some kr) g::Lr)
variable{h0 t nx val z0 z1 cl:Int}{got:Bool}{ret:Option Rt}
theorem AH{pc next:Int}(h:aq K c S ss w0 w (mI K c k S.th (.pointer none) ⟨pc,h0,t,nx,val,got,z0,z1,cl,ret⟩::F))(hd:dk K.toMk d∈F)(g:Gd n c S ss)(ax:Ax S)(hq:(S.w (c.ad 4 0))=h0):
  cm 267 #[some k,some d,next] w (.tuple #[]) fun w'=>aq K c (S.load (c.ad 4 0)) ss w0 w' (mI K c k S.th (.pointer none) ⟨next,h0,t,nx,val,got,z0,z1,cl,ret⟩::F):=by
 have xi:=g.I.kC (r:=4) S_;have a:=g.I.eX (r:=4) O_ O_ xi;have p0:=h.af aj;have hb:((S.w (c.ad 4 0)) !=h0)=false:=by simp [hq]
 clear hq;go_enter func267,ntmps267;go_wp2_with fail;refine un (bO h (mT hd) ax a) fun dx m1=>?_
 have bB:=m1.af aj;have n1:=m1.put 6 next;have gM:=n1.af aj;go_wp2_with fail;exact iP ⟨rfl,n1⟩
theorem AI{pc next:Int}(h:aq K c S ss w0 w (mI K c k S.th (.pointer none) ⟨pc,h0,t,nx,val,got,z0,z1,cl,ret⟩::F))(hd:dk K.toMk d∈F)(g:Gd n c S ss)(ax:Ax S)(hq:(S.w (c.ad 4 0))≠h0):
  cm 267 #[some k,some d,next] w (.tuple #[]) fun w'=>aq K c (S.load (c.ad 4 0)) ss w0 w' (mI K c k S.th (.pointer none) ⟨2,(S.w (c.ad 4 0)),t,nx,val,got,z0,z1,cl,ret⟩::F):=by
 have xi:=g.I.kC (r:=4) S_;have a:=g.I.eX (r:=4) O_ O_ xi;have p0:=h.af aj;have hb:((S.w (c.ad 4 0)) !=h0)=true:=by simp [hq]
 clear hq;go_enter func267,ntmps267;go_wp2_with fail;refine un (bO h (mT hd) ax a) fun dx m1=>?_
 have bB:=m1.af aj;have n1:=m1.put 6 next;have gM:=n1.af aj;have n2:=n1.put 7 (.int .u64 (S.w (c.ad 4 0)));have jA:=n2.af aj;go_wp2_with fail;exact iP ⟨rfl,n2.put 6 _⟩
theorem af8(h:aq K c S ss w0 w (mI K c k S.th (.pointer none) ⟨1,h0,t,nx,val,got,z0,z1,cl,ret⟩::F))(hd:dk K.toMk d∈F)(g:Gd n c S ss)(ax:Ax S):
  b6 266 k d w (Post K c ss w0 F (rY K c S.th k) (false,⟨2,(S.w (c.ad 4 0)),t,nx,val,got,z0,z1,cl,ret⟩,S.load (c.ad 4 0))):=by
 have xi:=g.I.kC (r:=4) S_;have a:=g.I.eX (r:=4) O_ O_ xi;have p0:=h.af aj;go_enter func266,ntmps266;go_wp2_with fail;refine un (bO h (mT hd) ax a) fun dx m1=>?_
 have bB:=m1.af aj;have n1:=m1.put 7 (.int .u64 (S.w (c.ad 4 0)));have gM:=n1.af aj;exact NJ
theorem af7(h:aq K c S ss w0 w (mI K c k S.th (.pointer none) ⟨2,h0,t,nx,val,got,z0,z1,cl,ret⟩::F))(hd:dk K.toMk d∈F)(_:Gd n c S ss)(ax:Ax S)(ha:0≤z0∧z0<S.words.length):
  b6 266 k d w (Post K c ss w0 F (rY K c S.th k) (false,⟨3,h0,t,nx,val,got,z0,z1,cl,ret⟩,S.store z0 h0)):=abB
theorem af5(h:aq K c S ss w0 w (mI K c k S.th (.pointer none) ⟨6,h0,t,nx,val,got,z0,z1,cl,ret⟩::F))(hd:dk K.toMk d∈F)(_:Gd n c S ss)(ax:Ax S)(ha:0≤z1∧z1<S.words.length):
  b6 266 k d w (Post K c ss w0 F (rY K c S.th k) (false,⟨7,h0,t,nx,val,got,z0,z1,cl,ret⟩,S.store z1 nx)):=abB
theorem aaP(h:aq K c S ss w0 w (mI K c k S.th (.pointer none) ⟨3,h0,t,nx,val,got,z0,z1,cl,ret⟩::F))(hd:dk K.toMk d∈F)(g:Gd n c S ss)(ax:Ax S)(hq:(S.w (c.ad 4 0))=h0):
  b6 266 k d w (Post K c ss w0 F (rY K c S.th k) (false,⟨4,h0,t,nx,val,got,z0,z1,cl,ret⟩,S.load (c.ad 4 0))):=by
 have p0:=h.af aj;have hs:=AH (next:=4) h hd g ax hq;exact Td
theorem VT(h:aq K c S ss w0 w (mI K c k S.th (.pointer none) ⟨7,h0,t,nx,val,got,z0,z1,cl,ret⟩::F))(hd:dk K.toMk d∈F)(g:Gd n c S ss)(ax:Ax S)(hq:(S.w (c.ad 4 0))=h0)(he:h0=t):
  b6 266 k d w (Post K c ss w0 F (rY K c S.th k) (false,⟨8,h0,t,nx,val,got,z0,z1,cl,ret⟩,S.load (c.ad 4 0))):=by
 have p0:=h.af aj;have hs:=fun(W:World) (h:aq K c S ss w0 W (mI K c k S.th (.pointer none) ⟨7,h0,t,nx,val,got,z0,z1,cl,ret⟩::F))=>AH (next:=8) h hd g ax hq
 clear hq;have hb:(h0==t)=true:=by simp [he]
 exact QS
theorem VU(h:aq K c S ss w0 w (mI K c k S.th (.pointer none) ⟨7,h0,t,nx,val,got,z0,z1,cl,ret⟩::F))(hd:dk K.toMk d∈F)(g:Gd n c S ss)(ax:Ax S)(hq:(S.w (c.ad 4 0))=h0)(he:h0≠t):
  b6 266 k d w (Post K c ss w0 F (rY K c S.th k) (false,⟨9,h0,t,nx,val,got,z0,z1,cl,ret⟩,S.load (c.ad 4 0))):=by
 have p0:=h.af aj;have hs:=fun(W:World) (h:aq K c S ss w0 W (mI K c k S.th (.pointer none) ⟨7,h0,t,nx,val,got,z0,z1,cl,ret⟩::F))=>AH (next:=9) h hd g ax hq
 clear hq;have hb:(h0==t)=false:=by simp [he]
 exact QS
theorem aaQ(h:aq K c S ss w0 w (mI K c k S.th (.pointer none) ⟨3,h0,t,nx,val,got,z0,z1,cl,ret⟩::F))(hd:dk K.toMk d∈F)(g:Gd n c S ss)(ax:Ax S)(hq:(S.w (c.ad 4 0))≠h0):
  b6 266 k d w (Post K c ss w0 F (rY K c S.th k) (false,⟨2,(S.w (c.ad 4 0)),t,nx,val,got,z0,z1,cl,ret⟩,S.load (c.ad 4 0))):=by
 have p0:=h.af aj;have hs:=AI (next:=4) h hd g ax hq;exact Td
theorem VV(h:aq K c S ss w0 w (mI K c k S.th (.pointer none) ⟨7,h0,t,nx,val,got,z0,z1,cl,ret⟩::F))(hd:dk K.toMk d∈F)(g:Gd n c S ss)(ax:Ax S)(hq:(S.w (c.ad 4 0))≠h0)(he:h0=t):
  b6 266 k d w (Post K c ss w0 F (rY K c S.th k) (false,⟨2,(S.w (c.ad 4 0)),t,nx,val,got,z0,z1,cl,ret⟩,S.load (c.ad 4 0))):=by
 have p0:=h.af aj;have hs:=fun(W:World) (h:aq K c S ss w0 W (mI K c k S.th (.pointer none) ⟨7,h0,t,nx,val,got,z0,z1,cl,ret⟩::F))=>AI (next:=8) h hd g ax hq
 clear hq;have hb:(h0==t)=true:=by simp [he]
 exact QS
theorem VW(h:aq K c S ss w0 w (mI K c k S.th (.pointer none) ⟨7,h0,t,nx,val,got,z0,z1,cl,ret⟩::F))(hd:dk K.toMk d∈F)(g:Gd n c S ss)(ax:Ax S)(hq:(S.w (c.ad 4 0))≠h0)(he:h0≠t):
  b6 266 k d w (Post K c ss w0 F (rY K c S.th k) (false,⟨2,(S.w (c.ad 4 0)),t,nx,val,got,z0,z1,cl,ret⟩,S.load (c.ad 4 0))):=by
 have p0:=h.af aj;have hs:=fun(W:World) (h:aq K c S ss w0 W (mI K c k S.th (.pointer none) ⟨7,h0,t,nx,val,got,z0,z1,cl,ret⟩::F))=>AI (next:=9) h hd g ax hq
 clear hq;have hb:(h0==t)=false:=by simp [he]
 exact QS
theorem af6(h:aq K c S ss w0 w (mI K c k S.th (.pointer none) ⟨4,h0,t,nx,val,got,z0,z1,cl,ret⟩::F))(hd:dk K.toMk d∈F)(g:Gd n c S ss)(ax:Ax S):
  b6 266 k d w (Post K c ss w0 F (rY K c S.th k) (false,⟨5,h0,(S.w (c.ad 5 0)),nx,val,got,z0,z1,cl,ret⟩,S.load (c.ad 5 0))):=by
 have xi:=g.I.kC (r:=5) S_;have a:=g.I.eX (r:=5) O_ O_ xi;have p0:=h.af aj;go_enter func266,ntmps266;go_wp2_with fail;refine un (bO h (mT hd) ax a) fun dx m1=>?_
 have bB:=m1.af aj;have n1:=m1.put 8 (.int .u64 (S.w (c.ad 5 0)));have gM:=n1.af aj;exact NJ
theorem aaO(h:aq K c S ss w0 w (mI K c k S.th (.pointer none) ⟨5,h0,t,nx,val,got,z0,z1,cl,ret⟩::F))(hd:dk K.toMk d∈F)(g:Gd n c S ss)(ax:Ax S)(hw:Lw c h0)(hh:0≤lk h0)(hq:¬lk (S.w (c.ad 13 (lk h0)))<0):
  b6 266 k d w (Post K c ss w0 F (rY K c S.th k) (false,⟨6,h0,t,(S.w (c.ad 13 (lk h0))),val,got,z0,z1,cl,ret⟩,S.load (c.ad 13 (lk h0)))):=by
 have hs:0≤lk h0∧lk h0<c.S:=⟨hh,hw.2.2⟩;have hwk:=dQ g.I hw;have xi:=g.I.iO (r:=13) S_ hs.1 hs.2;have a:=g.I.eX (r:=13) O_ O_ xi;have ha:=sR g.I (r:=13) O_ O_ xi;obtain⟨_,_,_,pw⟩:=g.I.mq (r:=13) O_ O_ xi;have uB:=dQ g.I ⟨pw.lo,pw.lw D_⟩;clear pw;have p0:=h.af aj;have dq:=dy hq;go_enter func266,ntmps266;go_wp2
 go_region_held3 (fun w'=>w'.cell? ⟨k,4,none⟩=some (.int .i64 (c.ad 13 0))∧w'.cell? ⟨k,7,none⟩=some (.int .u64 h0)) (first | exact⟨p0.1 4,p0.1 7⟩ | exact⟨bB.1 4,bB.1 7⟩ | exact⟨gM.1 4,gM.1 7⟩) (first | ((with_reducible refine un (fj _ _ hwk) fun wz hw=>?_);obtain rfl:=hw.symm) | ((with_reducible refine un (bO h.drew (mT hd) ax a) fun dx m1=>?_);have bB:=m1.af aj;have n1:=m1.put 9 (.int .u64 (S.w (c.ad 13 (lk h0))));have gM:=n1.af aj))
 have n2:=n1.put 6 (.int .i64 6);have jA:=n2.af aj;go_wp2_with fail;refine un (fj _ _ uB) fun wz hw=>?_
 obtain rfl:=hw.symm;go_wp2;go_ret;exact⟨rfl,[_],fun _=>.inl ⟨S_,rfl⟩,n2⟩
theorem aaN(h:aq K c S ss w0 w (mI K c k S.th (.pointer none) ⟨5,h0,t,nx,val,got,z0,z1,cl,ret⟩::F))(hd:dk K.toMk d∈F)(g:Gd n c S ss)(ax:Ax S)(hw:Lw c h0)(hh:0≤lk h0)(hq:lk (S.w (c.ad 13 (lk h0)))<0):
  b6 266 k d w (Post K c ss w0 F (rY K c S.th k) (false,⟨11,h0,t,(S.w (c.ad 13 (lk h0))),val,got,z0,z1,cl,ret⟩,((S.load (c.ad 13 (lk h0))).aB S.now).tell 3 0)):=by
 have hs:0≤lk h0∧lk h0<c.S:=⟨hh,hw.2.2⟩;have hwk:=dQ g.I hw;have xi:=g.I.iO (r:=13) S_ hs.1 hs.2;have a:=g.I.eX (r:=13) O_ O_ xi;have ha:=sR g.I (r:=13) O_ O_ xi;obtain⟨_,_,_,pw⟩:=g.I.mq (r:=13) O_ O_ xi;have uB:=dQ g.I ⟨pw.lo,pw.lw D_⟩;clear pw;have p0:=h.af aj;have dq:=cM hq;go_enter func266,ntmps266;go_wp2
 go_region_held3 (fun w'=>w'.cell? ⟨k,4,none⟩=some (.int .i64 (c.ad 13 0))∧w'.cell? ⟨k,7,none⟩=some (.int .u64 h0)) (first | exact⟨p0.1 4,p0.1 7⟩ | exact⟨bB.1 4,bB.1 7⟩ | exact⟨gM.1 4,gM.1 7⟩) (first | ((with_reducible refine un (fj _ _ hwk) fun wz hw=>?_);obtain rfl:=hw.symm) | ((with_reducible refine un (bO h.drew (mT hd) ax a) fun dx m1=>?_);have bB:=m1.af aj;have n1:=m1.put 9 (.int .u64 (S.w (c.ad 13 (lk h0))));have gM:=n1.af aj))
 have n2:=n1.put 6 (.int .i64 6);have jA:=n2.af aj;go_wp2_with fail;refine un (fj _ _ uB) fun wz hw=>?_
 obtain rfl:=hw.symm;go_wp2_with fail;refine un (gK n2 (mT hd)) fun wz hw=>?_
 obtain rfl:=hw.symm;go_wp2_with fail;refine un (cX n2 (mT hd) g.s.load) fun zK m3=>?_
 have iq:=m3.af aj;go_wp2_with fail;refine un (eV m3 (mT hd) g.s.load.aB) fun Kh m4=>?_
 have nB:=m4.af aj;go_wp2;go_ret;exact⟨rfl,[_],fun _=>.inl ⟨S_,rfl⟩,m4.put 6 _⟩
theorem af4(h:aq K c S ss w0 w (mI K c k S.th (.pointer none) ⟨8,h0,t,nx,val,got,z0,z1,cl,ret⟩::F))(hd:dk K.toMk d∈F)(g:Gd n c S ss)(ax:Ax S):
  b6 266 k d w (Post K c ss w0 F (rY K c S.th k) (false,⟨1,h0,t,nx,val,got,z0,z1,cl,ret⟩,S.swap (c.ad 5 0) t nx)):=by
 have xi:=g.I.kC (r:=5) S_;have a:=g.I.eX (r:=5) O_ O_ xi;have p0:=h.af aj;go_enter func266,ntmps266;go_wp2
 go_region_held3 (mR p0) (first | exact p0 | exact bB) (first | ((with_reducible refine un (cD h.drew (mT hd) ax a rfl) fun dx m1=>?_);have bB:=m1.af aj))
 exact NL
theorem af9(h:aq K c S ss w0 w (mI K c k S.th (.pointer none) ⟨9,h0,t,nx,val,got,z0,z1,cl,ret⟩::F))(hd:dk K.toMk d∈F)(g:Gd n c S ss)(ax:Ax S)(hw:Lw c nx)(hh:0≤lk nx):
  b6 268 k d w (Post K c ss w0 F (rY K c S.th k) (false,⟨10,h0,t,nx,wrap64 (S.w (c.ad 11 (lk nx))),got,z0,z1,cl,ret⟩,S.load (c.ad 11 (lk nx)))):=by
 have hs:0≤lk nx∧lk nx<c.S:=⟨hh,hw.2.2⟩;have hwk:=dQ g.I hw;have xi:=g.I.iO (r:=11) S_ hs.1 hs.2;have a:=g.I.eX (r:=11) O_ O_ xi;have ha:=sR g.I (r:=11) O_ O_ xi;have p0:=h.af aj;go_enter func268,ntmps268;go_wp2
 go_region_held3 (fun w'=>w'.cell? ⟨k,3,none⟩=some (.int .i64 (c.ad 11 0))∧w'.cell? ⟨k,9,none⟩=some (.int .u64 nx)) (first | exact⟨p0.1 3,p0.1 9⟩ | exact⟨bB.1 3,bB.1 9⟩ | exact⟨gM.1 3,gM.1 9⟩) (first | ((with_reducible refine un (fj _ _ hwk) fun wz hw=>?_);obtain rfl:=hw.symm) | ((with_reducible refine un (bO h.drew (mT hd) ax a) fun dx m1=>?_);have bB:=m1.af aj;have n1:=m1.put 10 (.int .i64 (wrap64 (S.w (c.ad 11 (lk nx)))));have gM:=n1.af aj) | ((with_reducible refine un (jZ _ _) fun wz hw=>?_);obtain rfl:=hw.symm))
 exact NJ
theorem V1(h:aq K c S ss w0 w (mI K c k S.th (.pointer none) ⟨10,h0,t,nx,val,got,z0,z1,cl,ret⟩::F))(hd:dk K.toMk d∈F)(g:Gd n c S ss)(ax:Ax S)(hb:decide ((S.w (c.ad 4 0))=h0)=false):
  b6 268 k d w (Post K c ss w0 F (rY K c S.th k) (false,⟨1,h0,t,nx,val,got,z0,z1,cl,ret⟩,S.swap (c.ad 4 0) h0 nx)):=by
 have xi:=g.I.kC (r:=4) S_;have a:=g.I.eX (r:=4) O_ O_ xi;have p0:=h.af aj;go_enter func268,ntmps268;go_wp2
 go_region_held3 (mR p0) (first | exact p0 | exact bB) (first | ((with_reducible refine un (cD h.drew (mT hd) ax a hb) fun dx m1=>?_);have bB:=m1.af aj))
 exact NL
theorem V0(h:aq K c S ss w0 w (mI K c k S.th (.pointer none) ⟨10,h0,t,nx,val,got,z0,z1,cl,ret⟩::F))(hd:dk K.toMk d∈F)(g:Gd n c S ss)(ax:Ax S)(hw:Lw c h0)(hh:0≤lk h0)(hn:n<800000000000)(hb:decide ((S.w (c.ad 4 0))=h0)=true):
  b6 268 k d w (Post K c ss w0 F (rY K c S.th k) (false,⟨11,h0,t,nx,val,true,z0,z1,cl,ret⟩,((S.swap (c.ad 4 0) h0 nx).aB S.now).shift (lk h0) 4)):=by
 have xi:=g.I.kC (r:=4) S_;have a:=g.I.eX (r:=4) O_ O_ xi;have hs:0≤lk h0∧lk h0<c.S:=⟨hh,hw.2.2⟩;have hwk:=dQ g.I hw;have p0:=h.af aj;have hN:n≤1000000000000:=O_
 go_enter func268,ntmps268;go_wp2
 go_region_held3 (mR p0) (first | exact p0 | exact bB) (first | ((with_reducible refine un (cD h.drew (mT hd) ax a hb) fun dx m1=>?_);have bB:=m1.af aj))
 go_wp2_with fail;refine un (gK m1 (mT hd)) fun wz hw=>?_
 obtain rfl:=hw.symm;go_wp2_with fail;refine un (cX m1 (mT hd) g.s.swap) fun jP m2=>?_
 have dN:=m2.af aj;go_wp2
 go_region_held3 (AF k [Value.pointer (some ⟨K.bH,0,none⟩),c.ad 4 0,c.ad 5 0,c.ad 11 0,c.ad 13 0,S.th,.int .i64 10,.int .u64 h0,.int .u64 t,.int .u64 nx,val,got,z0,z1,cl,.pointer none]) (first | exact dN | exact iq) (first | ((with_reducible refine un (cL m2.drew) fun wz hw=>?_);obtain rfl:=hw.symm) | ((with_reducible refine un (fj _ _ hwk) fun wz hw=>?_);obtain rfl:=hw.symm) | ((with_reducible refine un (eN m2.drew (mT hd) g.s.swap.aB hs Oz hN) fun zK m3=>?_);have iq:=m3.af aj))
 have n3:=m3.put 11 true;have xb:=n3.af aj;go_wp2;go_ret;exact⟨rfl,[_],fun _=>.inl ⟨S_,rfl⟩,n3.put 6 _⟩
theorem VZ(h:aq K c S ss w0 w (mI K c k S.th (.pointer none) ⟨11,h0,t,nx,val,got,z0,z1,0,ret⟩::F))(hd:dk K.toMk d∈F)(_:Gd n c S ss)(ax:Ax S)(ha:0≤z0∧z0<S.words.length):
  b6 268 k d w (Post K c ss w0 F (rY K c S.th k) (false,⟨11,h0,t,nx,val,got,z0,z1,1,ret⟩,S.store z0 0)):=by
 have p0:=h.af aj;go_enter func268,ntmps268;go_wp2
 go_region_held3 (mR p0) (first | exact p0 | exact bB) (first | ((with_reducible refine un (cx h.drew (mT hd) ax ha) fun dx m1=>?_);have bB:=m1.af aj))
 have n1:=m1.put 14 (.int .i64 (0+1));have gM:=n1.af aj;go_wp2;go_ret;exact⟨rfl,[_],fun _=>.inl ⟨S_,rfl⟩,n1⟩
theorem VY(h:aq K c S ss w0 w (mI K c k S.th (.pointer none) ⟨11,h0,t,nx,val,false,z0,z1,1,ret⟩::F))(hd:dk K.toMk d∈F)(_:Gd n c S ss)(ax:Ax S)(ha:0≤z1∧z1<S.words.length):
  b6 268 k d w (Post K c ss w0 F (rY K c S.th k) (true,⟨11,h0,t,nx,val,false,z0,z1,2,ret⟩,S.store z1 0)):=by
 have p0:=h.af aj;go_enter func268,ntmps268;go_wp2
 go_region_held3 (mR p0) (first | exact p0 | exact bB) (first | ((with_reducible refine un (cx h.drew (mT hd) ax ha) fun dx m1=>?_);have bB:=m1.af aj))
 have n1:=m1.put 14 (.int .i64 (1+1));have gM:=n1.af aj;go_wp2;go_ret;exact⟨rfl,[_],fun q=>(by cases q),n1⟩
theorem VX(h:aq K c S ss w0 w (mI K c k S.th (.pointer none) ⟨11,h0,t,nx,val,true,z0,z1,1,ret⟩::F))(hd:dk K.toMk d∈F)(g:Gd n c S ss)(ax:Ax S)(hw:Lw c h0)(hh:0≤lk h0)(ha:0≤z1∧z1<S.words.length)(hz:z1=S.hz c 1)(hr:0≤S.rc)(hn:n<800000000000):
  b6 268 k d w (Post K c ss w0 F (rY K c S.th k) (((Rt.new (lk h0)).ready c ((S.store z1 0).tell 2 val)).1,⟨12,h0,t,nx,val,true,z0,z1,2,some ((Rt.new (lk h0)).ready c ((S.store z1 0).tell 2 val)).2.1⟩,((Rt.new (lk h0)).ready c ((S.store z1 0).tell 2 val)).2.2)):=by
 have hs:0≤lk h0∧lk h0<c.S:=⟨hh,hw.2.2⟩;have hwk:=dQ g.I hw;have hI:=g.I.bd;have g2:Gd n c ((S.store z1 0).tell 2 val) ss:=(g.store ha (by rw [hz];exact g.I.mZ (r:=9) S_ (g.I.Br hr O_ O_).1 (Lw.zero g.I))).tell _ _;clear hz;have pX:=fun(W:World) (kr:Nat) (h:aq K c ((S.store z1 0).tell 2 val) ss w0 W (FD K kr S.th (lk h0) (.pointer none)::mI K c k S.th (some kr) ⟨12,h0,t,nx,val,true,z0,z1,2,ret⟩::F))=>lT h (mT hd) g2 O_ hr hs
 generalize (Rt.new (lk h0)).ready c ((S.store z1 0).tell 2 val)=r at pX ⊢;have p0:=h.af aj;go_enter func268,ntmps268;go_wp2
 go_region_held3 (mR p0) (first | exact p0 | exact bB) (first | ((with_reducible refine un (cx h.drew (mT hd) ax ha) fun dx m1=>?_);have bB:=m1.af aj))
 have n1:=m1.put 14 (.int .i64 (1+1));have gM:=n1.af aj;go_wp2_with fail;refine un (eV n1 (mT hd) g.s.store) fun zK m3=>?_
 have iq:=m3.af aj;go_wp2
 go_region_held3 (fun w'=>w'.cell? ⟨k,0,none⟩=some (some K.bH)∧w'.cell? ⟨k,5,none⟩=some (.int .i64 S.th)∧w'.cell? ⟨k,7,none⟩=some (.int .u64 h0)) (first | exact⟨iq.1 0,iq.1 5,iq.1 7⟩ | exact⟨nB.1 0,nB.1 5,nB.1 7⟩ | exact⟨mM.1 0,mM.1 5,mM.1 7⟩) (first | ((with_reducible refine un (fj _ _ hwk) fun wz hw=>?_);obtain rfl:=hw.symm) | ((with_reducible refine(fS m3.drew _ _).mono ?_);rintro e Kh ⟨Bp,rfl,_,m4⟩;have nB:=m4.af bp;have n4:=m4.swap.put 15 (some Bp);have mM:=n4.af aj))
 have n5:=n4.put 6 (.int .i64 12);exact abm
theorem aaR{r:Rt}{kr q:Nat}{R:Nat→Int}{e nm pd:List Int}{Lr:List En}(h:aq K c S ss w0 w (mI K c k S.th (some kr) ⟨12,h0,t,nx,val,got,z0,z1,cl,some r⟩::(Lr++F)))(hd:dk K.toMk d∈F)(g:Gd n c S ss)(ax:Ax S)(hn:n<800000000000)(o:zC K c S.th kr r Lr)(ha:mu c r S q R e nm pd):
  b6 268 k d w (Post K c ss w0 F (rY K c S.th k) (Dq.step c ⟨12,h0,t,nx,val,got,z0,z1,cl,some r⟩ S)):=by
 have h1:=h.perm (G:=Lr++_::F) dV.symm;have hm:=oX o h1 (mT hd) g rfl O_ ax ha;have p0:=h.af (b:=k) aj;have e':Dq.step c ⟨12,h0,t,nx,val,got,z0,z1,cl,some r⟩ S=((r.step c S).1,⟨12,h0,t,nx,val,got,z0,z1,cl,some (r.step c S).2.1⟩,(r.step c S).2.2):=rfl;rw [e'];clear e';generalize r.step c S=r2 at hm ⊢;go_enter func268,ntmps268;exact Tj
theorem vX{p:Dq}{rv:Value}{r:Bool×Dq×PM}{G:List En}(h:aq K c S ss w0 w (mI K c k S.th rv p::G))(hp:9≤p.pc∧p.pc≤12)
  (hm:b6 268 k d w (Post K c ss w0 F (rY K c S.th k) r)):
  b6 266 k d w (Post K c ss w0 F (rY K c S.th k) r):=by
 have p0:=h.af aj;obtain⟨pc,h0,t,nx,val,got,z0,z1,cl,ret⟩:=p;simp only at hp;have e:∀ q:Int,q<9→(pc==q)=false:=fun q hq=>gp.2 O_
 have e1:=e 1 O_;have e2:=e 2 O_;have e3:=e 3 O_;have e4:=e 4 O_;have e5:=e 5 O_;have e6:=e 6 O_;have e7:=e 7 O_;have e8:=e 8 O_;clear e hp;go_enter func266,ntmps266;exact GJ
theorem VS{p:Dq}{q:Nat}{R:Nat→Int}{bk nm pd:List Int}{O:List En}(h:aq K c S ss w0 w (O++F))(o:rY K c S.th k p O)(hd:dk K.toMk d∈F)(g:Gd n c S ss)(ax:Ax S)(hn:n<800000000000)(ha:zD c p S q R bk nm pd):
  b6 266 k d w (Post K c ss w0 F (rY K c S.th k) (p.step c S)):=by
 obtain⟨pc,h0,t,nx,val,got,z0,z1,cl,ret⟩:=p;obtain⟨_,hr,yY,II,_,_,ha⟩:=ha;simp only at ha yY II;have hH:=g.I.bd.2.2.2.2.1;have Vy:0≤z0∧z0<S.words.length:=by rw [yY];exact qU g hr O_ O_
 have Ml:0≤z1∧z1<S.words.length:=by rw [II];exact qU g hr O_ O_
 rcases o with ⟨q,rfl⟩ | ⟨q,r,kr,Lr,pG,o,rfl⟩
 ·rcases ha with ⟨hs,_⟩ | ⟨_,⟨hs,hg,_,⟨hc,_⟩ | ⟨hc,_⟩⟩ | ⟨hs,hg,hw,_,_,⟨hc,_⟩ | ⟨hc,_⟩⟩ | ⟨hg,hc,⟨hs,_⟩ | ⟨_,hw,⟨hs,_⟩ | ⟨hs,_⟩ | ⟨hs,_⟩ | ⟨_,hwt,_,⟨hs,_⟩ | ⟨_,hwn,⟨hs,_⟩ | ⟨hs,_⟩ | ⟨hs,_⟩ | ⟨hs,_⟩ | ⟨hs,_⟩⟩⟩⟩⟩⟩
  ·exact absurd hs q
  ·exact Sb
  ·subst hs hg hc;exact vX h ⟨S_,S_⟩ (VY h hd g ax Ml)
  ·exact Sb
  ·subst hs hg hc;exact vX h ⟨S_,S_⟩ (VX h hd g ax hw.1 hw.2 Ml II hr hn)
  ·subst hs;exact af8 h hd g ax
  ·subst hs;exact af7 h hd g ax Vy
  ·subst hs
   have e:Dq.step c ⟨3,h0,t,nx,val,got,z0,z1,cl,ret⟩ S=if S.w (c.ad 4 0)=h0 then(false,⟨4,h0,t,nx,val,got,z0,z1,cl,ret⟩,S.load (c.ad 4 0)) else(false,⟨2,S.w (c.ad 4 0),t,nx,val,got,z0,z1,cl,ret⟩,S.load (c.ad 4 0)):=rfl;rw [e]
   by_cases hq:S.w (c.ad 4 0)=h0
   ·rw [aY hq];exact aaP h hd g ax hq
   ·rw [aK hq];exact aaQ h hd g ax hq
  ·subst hs;exact af6 h hd g ax
  ·subst hs
   have e:Dq.step c ⟨5,h0,t,nx,val,got,z0,z1,cl,ret⟩ S=if lk (S.w (c.ad 13 (lk h0)))<0 then(false,⟨11,h0,t,S.w (c.ad 13 (lk h0)),val,got,z0,z1,cl,ret⟩,((S.load (c.ad 13 (lk h0))).aB S.now).tell 3 0) else(false,⟨6,h0,t,S.w (c.ad 13 (lk h0)),val,got,z0,z1,cl,ret⟩,S.load (c.ad 13 (lk h0))):=rfl;rw [e]
   by_cases hq:lk (S.w (c.ad 13 (lk h0)))<0
   ·rw [aY hq];exact aaN h hd g ax hw.1 hw.2 hq
   ·rw [aK hq];exact aaO h hd g ax hw.1 hw.2 hq
  ·subst hs;exact af5 h hd g ax Ml
  ·subst hs
   have e:Dq.step c ⟨7,h0,t,nx,val,got,z0,z1,cl,ret⟩ S=if S.w (c.ad 4 0)=h0 then(false,⟨if h0=t then 8 else 9,h0,t,nx,val,got,z0,z1,cl,ret⟩,S.load (c.ad 4 0)) else(false,⟨2,S.w (c.ad 4 0),t,nx,val,got,z0,z1,cl,ret⟩,S.load (c.ad 4 0)):=rfl;rw [e]
   by_cases hq:S.w (c.ad 4 0)=h0<;>by_cases he:h0=t
   ·rw [aY hq,aY he];exact VT h hd g ax hq he
   ·rw [aY hq,aK he];exact VU h hd g ax hq he
   ·rw [aK hq];exact VV h hd g ax hq he
   ·rw [aK hq];exact VW h hd g ax hq he
  ·subst hs;exact af4 h hd g ax
  ·subst hs;exact vX h ⟨S_,S_⟩ (af9 h hd g ax hwn.1 hwn.2)
  ·subst hs
   have e:Dq.step c ⟨10,h0,t,nx,val,got,z0,z1,cl,ret⟩ S=if S.w (c.ad 4 0)=h0 then(false,⟨11,h0,t,nx,val,true,z0,z1,cl,ret⟩,((S.swap (c.ad 4 0) h0 nx).aB S.now).shift (lk h0) 4) else(false,⟨1,h0,t,nx,val,got,z0,z1,cl,ret⟩,S.swap (c.ad 4 0) h0 nx):=rfl;rw [e]
   by_cases hq:S.w (c.ad 4 0)=h0
   ·rw [aY hq];exact vX h ⟨S_,S_⟩ (V0 h hd g ax hw.1 hw.2 hn (cM hq))
   ·rw [aK hq];exact vX h ⟨S_,S_⟩ (V1 h hd g ax (dy hq))
 ·simp only at q pG
  subst q pG
  rcases ha with ⟨_,_,_,r2,e,pG,_,hra⟩ | ⟨_,⟨hs,_⟩ | ⟨hs,_⟩ | ⟨_,_,⟨hs,_⟩ | ⟨_,_,⟨hs,_⟩ | ⟨hs,_⟩ | ⟨hs,_⟩ | ⟨_,_,_,⟨hs,_⟩ | ⟨_,_,⟨hs,_⟩ | ⟨hs,_⟩ | ⟨hs,_⟩ | ⟨hs,_⟩ | ⟨hs,_⟩⟩⟩⟩⟩⟩<;>try omega
  injection pG with pG;subst pG;exact vX h ⟨S_,S_⟩ (aaR h hd g ax hn o hra)
theorem Qm(h:aq K c S ss w0 w (mI K c k S.th (.pointer none) ⟨0,h0,t,nx,val,got,z0,z1,cl,ret⟩::F))(g:Gd n c S ss)(hr:0≤S.rc):
  b6 265 k d w (Post K c ss w0 F (rY K c S.th k) (Dq.ready c ⟨0,h0,t,nx,val,got,z0,z1,cl,ret⟩ S)):=by
 have hH:=g.I.bd.2.2.2.2.1;have hI:=g.I;have hA:=fun(W:World) (z0 z1:Int) (i:Int) (hi:0≤i∧i<2) (h:aq K c S ss w0 W (mI K c k S.th (.pointer none) ⟨0,h0,t,nx,val,got,z0,z1,cl,ret⟩::F))=>jj h hI i hr hi.1 O_
 have e:Dq.ready c ⟨0,h0,t,nx,val,got,z0,z1,cl,ret⟩ S=(false,⟨1,h0,t,nx,val,got,S.hz c 0,S.hz c 1,cl,ret⟩,S):=rfl;rw [e];clear e;obtain⟨y0,hy0⟩:∃ y,y=S.hz c 0:=⟨_,rfl⟩;obtain⟨y1,hy1⟩:∃ y,y=S.hz c 1:=⟨_,rfl⟩;have Vy:=fun(W:World) (z0 z1:Int)=>hA W z0 z1 0 D_
 have Ml:=fun(W:World) (z0 z1:Int)=>hA W z0 z1 1 D_
 rw [←hy0] at Vy ⊢;rw [←hy1] at Ml ⊢;have Hh:=aJ h;clear hA hI hy0 hy1 g h hH hr;go_enter func265,ntmps265;go_wp2
 go_loopw [6] (fun s6 wr=>(s6=.int .i64 0∧Hid (aq K c S ss w0 wr (mI K c k S.th (.pointer none) ⟨0,h0,t,nx,val,got,z0,z1,cl,ret⟩::F)))∨(s6=.int .i64 1∧Hid (aq K c S ss w0 wr (mI K c k S.th (.pointer none) ⟨0,h0,t,nx,val,got,y0,z1,cl,ret⟩::F)))∨(s6=.int .i64 2∧Hid (aq K c S ss w0 wr (mI K c k S.th (.pointer none) ⟨0,h0,t,nx,val,got,y0,y1,cl,ret⟩::F)))) (fun s6 _=>2 - (intOf s6).toNat)
 case atStart=>exact .inl ⟨rfl,Hh⟩
 case round=>
  rcases hrel with ⟨rfl,HI⟩ | ⟨rfl,HI⟩ | ⟨rfl,HI⟩
  ·have h:=HI.out
   have p0:=h.af aj;have l0:=h.tu aj;go_wp2
   go_region_held3 (fun w'=>w'.cell? ⟨k,0,none⟩=some (some K.bH)∧w'.cell? ⟨k,5,none⟩=some (.int .i64 S.th)) (first | exact⟨p0.1 0,p0.1 5⟩ | exact⟨bB.1 0,bB.1 5⟩ | exact⟨gM.1 0,gM.1 5⟩) (first | ((with_reducible refine un (Vy _ z0 z1 h.drew) fun dx gx=>?_);have m1:=h.drew.next gx;have bB:=m1.af aj;have n1:=m1.put 12 y0;have gM:=n1.af aj))
   go_wp2
   go_roundw
   case rel=>exact .inr (.inl ⟨rfl,aJ n1⟩)
   case measure=>decide
  ·have h:=HI.out
   have p0:=h.af aj;go_wp2
   go_region_held3 (fun w'=>w'.cell? ⟨k,0,none⟩=some (some K.bH)∧w'.cell? ⟨k,5,none⟩=some (.int .i64 S.th)) (first | exact⟨p0.1 0,p0.1 5⟩ | exact⟨bB.1 0,bB.1 5⟩ | exact⟨gM.1 0,gM.1 5⟩) (first | ((with_reducible refine un (Ml _ y0 z1 h.drew) fun dx gx=>?_);have m1:=h.drew.next gx;have bB:=m1.af aj;have n1:=m1.put 13 y1;have gM:=n1.af aj))
   go_wp2
   go_roundw
   case rel=>exact .inr (.inr ⟨rfl,aJ n1⟩)
   case measure=>decide
  ·have h:=HI.out
   have p0:=h.af aj;go_wp2;go_ret;exact⟨rfl,[_],fun _=>.inl ⟨S_,rfl⟩,h.put 6 _⟩
end
def mS(c:Cf)(q:Tq)(S:PM)(pc:Nat)(R:Nat→Int)(bk nm pd:List Int):Prop:=
 match q with
 | .take k=>sU c k S pc R bk nm pd
 | .aU p=>wP c p S pc R bk nm pd
 | .flush p=>rK c p S pc R bk nm pd
 | .gm r=>wM c r S pc R bk nm pd
 | .unreg u=>Dh c u S pc R bk nm pd
 | .post p=>nP c p S pc R bk nm pd
 | .read r=>pS c r S pc R bk nm pd
 | .clear a=>rM c a S pc R bk nm pd
 | .scan s=>wL c s S pc R bk nm pd
 | .push p=>pT c p S pc R bk nm pd
 | .pop p=>wN c p S pc R bk nm pd
 | .enq p=>wR c p S pc R bk nm pd
 | .deq g=>zD c g S pc R bk nm pd
 | .con w=>zE c w S pc R bk nm pd
 | .del d=>wS c d S pc R bk nm pd
 | .ins d=>nR c d S pc R bk nm pd
 | .tab t=>oR c t S pc R bk nm pd
def Kr(k:Int):Prop:=-9223372036854775808≤k∧k<9223372036854775808
def wK(c:Cf)(q:Tq)(S:PM)(pc:Nat):Prop:=S.cj=(1,0)∧
 match q with
 | .take k=>k=Tk.new∧pc=45
 | .aU p=>p=Pu.aU S.arg∧0≤S.arg∧S.arg<c.S∧pc=51
 | .flush _=>pc=55
 | .gm r=>r=⟨0,false⟩∧pc=104
 | .unreg u=>u=⟨0,0,none,none⟩∧0≤S.rc∧pc=119
 | .post p=>p=⟨S.arg,0,.new,0,0,none⟩∧0≤S.rc∧pc=142
 | .read r=>r=⟨S.hz c S.arg,0,0,0⟩∧0≤S.arg∧S.arg<c.H∧0≤S.rc∧pc=162
 | .clear a=>a=S.hz c S.arg∧0≤S.arg∧S.arg<c.H∧0≤S.rc∧pc=134
 | .scan s=>s=Sc.new S.rc∧0≤S.rc∧pc=139
 | .push p=>p=⟨S.arg,.new,0,0,0⟩∧pc=378
 | .pop p=>p.named=false∧0≤S.rc∧pc=395
 | .enq p=>p=⟨S.arg,0,.new,0,0,0,0⟩∧0≤S.rc∧pc=425
 | .deq g=>g.got=false∧g.dD=0∧0≤S.rc∧pc=458
 | .con w=>w=Wk.new (c.ad 6 0) S.arg∧0≤S.rc∧Kr S.arg∧pc=323
 | .del d=>d=⟨Wk.new (c.ad 6 0) S.arg,none⟩∧0≤S.rc∧Kr S.arg∧pc=300
 | .ins d=>0≤S.rc∧Kr S.arg∧((d=⟨Wk.new (c.ad 6 0) S.arg,0,none,none,-1⟩∧pc=295)∨(d=⟨Wk.new (c.ad 7 (u64 S.arg % c.B)) S.arg,S.dat,none,none,-1⟩∧pc=334))
 | .tab t=>0≤S.rc∧Kr S.arg∧t.root=c.ad 7 (u64 S.arg % c.B)∧t.key=S.arg∧pc=if t.take then 353 else 340
section
variable{c:Cf}{th:Nat}{X:List RT}{v v0 v1:Bool}{S S':PM}{pc:Nat}{R:Nat→Int}{bk nm pd:List Int}
theorem bt.map{α:Type}{r:Bool×α×PM}{At:α→PM→Nat→(Nat→Int)→List Int→List Int→List Int→Prop}{Tx:Tq→PM→Nat→(Nat→Int)→List Int→List Int→List Int→Prop}
  (P:bt c th X v0 v1 S pc R bk nm pd r At) (f:α→Tq) (h:∀ x S pc R bk nm pd,At x S pc R bk nm pd→Tx (f x) S pc R bk nm pd):bt c th X v0 v1 S pc R bk nm pd (up f r) Tx:=by
 obtain⟨b,x,S'⟩:=r;exact abi
theorem bt.mono{α:Type}{r:Bool×α×PM}{At Tx:α→PM→Nat→(Nat→Int)→List Int→List Int→List Int→Prop}
  (P:bt c th X v0 v1 S pc R bk nm pd r At) (h:∀ x S pc R bk nm pd,At x S pc R bk nm pd→Tx x S pc R bk nm pd):bt c th X v0 v1 S pc R bk nm pd r Tx:=abi
variable{q:Tq}
theorem Fy(I:Inv c th S)(ha:mS c q S pc R bk nm pd):bt c th X false true S pc R bk nm pd (q.step c S) (mS c):=by
 cases q with
 | take k=>exact(G2 I ha).mono fun q S pc R bk nm pd h=>by obtain⟨k,rfl,h⟩:=h;exact h
 | aU p=>exact(IW I ha).map .aU fun _ _ _ _ _ _ _ h=>h
 | flush p=>exact(ED I ha).map .flush fun _ _ _ _ _ _ _ h=>h
 | gm r=>exact(KK I ha).map .gm fun _ _ _ _ _ _ _ h=>h
 | unreg u=>exact(Ox I ha).map .unreg fun _ _ _ _ _ _ _ h=>h
 | post p=>exact(Ij I ha).map .post fun _ _ _ _ _ _ _ h=>h
 | read r=>exact(Ia I ha).map .read fun _ _ _ _ _ _ _ h=>h
 | clear a=>exact(EW I ha).map .clear fun _ _ _ _ _ _ _ h=>h
 | scan s=>exact(Hx I ha).map .scan fun _ _ _ _ _ _ _ h=>h
 | push p=>exact(Ih I ha).map .push fun _ _ _ _ _ _ _ h=>h
 | pop p=>exact(K5 I ha).map .pop fun _ _ _ _ _ _ _ h=>h
 | enq p=>exact(MP I ha).map .enq fun _ _ _ _ _ _ _ h=>h
 | deq g=>exact(MZ I ha).map .deq fun _ _ _ _ _ _ _ h=>h
 | con w=>exact(M6 I ha).map .con fun _ _ _ _ _ _ _ h=>h
 | del d=>exact(M3 I ha).map .del fun _ _ _ _ _ _ _ h=>h
 | ins d=>exact(LO I ha).map .ins fun _ _ _ _ _ _ _ h=>h
 | tab t=>exact(Kw I ha).map .tab fun _ _ _ _ _ _ _ h=>h
theorem BM(I:Inv c th S)(h:wK c q S pc):bt c th X false false S pc (fun _=>0) [] nm pd (q.ready c S) (mS c):=by
 obtain⟨hs,h⟩:=h
 cases q with
 | take k=>obtain⟨rfl,rfl⟩:=h;exact(DZ I rfl).mono fun q S pc R bk nm pd h=>by obtain⟨k,rfl,h⟩:=h;exact h
 | aU p=>obtain⟨rfl,h0,h1,rfl⟩:=h;exact(EA I rfl hs rfl h0 h1).map .aU fun _ _ _ _ _ _ _ h=>h
 | flush p=>obtain rfl:=h;exact(CN p I rfl hs).map .flush fun _ _ _ _ _ _ _ h=>h
 | gm r=>obtain⟨rfl,rfl⟩:=h;exact(HZ I rfl).map .gm fun _ _ _ _ _ _ _ h=>h
 | unreg u=>obtain⟨rfl,hr,rfl⟩:=h;exact(Ki I rfl hs hr).map .unreg fun _ _ _ _ _ _ _ h=>h
 | post p=>obtain⟨rfl,hr,rfl⟩:=h;exact(Ee I rfl hr rfl).map .post fun _ _ _ _ _ _ _ h=>h
 | read r=>obtain⟨rfl,h0,h1,hr,rfl⟩:=h;exact(D9 I rfl hr rfl h0 h1).map .read fun _ _ _ _ _ _ _ h=>h
 | clear a=>obtain⟨rfl,h0,h1,hr,rfl⟩:=h;exact(C7 I rfl hs hr rfl h0 h1).map .clear fun _ _ _ _ _ _ _ h=>h
 | scan s=>obtain⟨rfl,hr,rfl⟩:=h;exact(D0 I rfl hs hr).map .scan fun _ _ _ _ _ _ _ h=>h
 | push p=>obtain⟨rfl,rfl⟩:=h;exact(Ec I rfl rfl).map .push fun _ _ _ _ _ _ _ h=>h
 | pop p=>obtain⟨hn,hr,rfl⟩:=h;exact(Ik I rfl rfl hr hn).map .pop fun _ _ _ _ _ _ _ h=>h
 | enq p=>obtain⟨rfl,hr,rfl⟩:=h;exact(Jg I rfl hr rfl).map .enq fun _ _ _ _ _ _ _ h=>h
 | deq g=>obtain⟨hg,hc,hr,rfl⟩:=h;exact(Jo I rfl hr hg hc).map .deq fun _ _ _ _ _ _ _ h=>h
 | con w=>obtain⟨rfl,hr,hk,rfl⟩:=h;exact(Jr I rfl hr rfl hk).map .con fun _ _ _ _ _ _ _ h=>h
 | del d=>obtain⟨rfl,hr,hk,rfl⟩:=h;exact(Jp I rfl hr rfl hk).map .del fun _ _ _ _ _ _ _ h=>h
 | ins d=>
  obtain⟨hr,hk,⟨rfl,rfl⟩ | ⟨rfl,rfl⟩⟩:=h
  ·exact(IG I rfl hr rfl hk).map .ins fun _ _ _ _ _ _ _ h=>h
  ·exact(Jz I rfl hr rfl rfl hk).map .ins fun _ _ _ _ _ _ _ h=>h
 | tab t=>obtain⟨hr,hk,h1,h2,rfl⟩:=h;exact(G6 I rfl hr rfl hk h1 h2 rfl).map .tab fun _ _ _ _ _ _ _ h=>h
def oL(pc:Nat):Prop:=∃ i,aI[pc]?=some i∧i.k≤3
theorem oL.of{pc:Nat}{i:eJ}(h:aI[pc]?=some i)(hk:i.k≤3):oL pc:=⟨i,h,hk⟩
variable{e:List Int}
theorem uO{k:Tk}(h:sS c k S pc R e nm pd):oL pc:=by
 unfold sS at h;have:pc=5∨pc=8∨pc=11:=O_
 rcases this with rfl | rfl | rfl
 ·exact .of (cd 5) D_
 ·exact .of (cd 8) D_
 ·exact .of (cd 11) D_
theorem EB{p:Pu}(h:EC c p pc R):oL pc:=by
 unfold EC at h;have:pc=23∨pc=26∨pc=28:=O_
 rcases this with rfl | rfl | rfl
 ·exact .of (cd 23) D_
 ·exact .of (cd 26) D_
 ·exact .of (cd 28) D_
theorem Mr{p:Pu}(h:IZ c p pc R):oL pc:=by
 unfold IZ at h;have:pc=34∨pc=37∨pc=39:=O_
 rcases this with rfl | rfl | rfl
 ·exact .of (cd 34) D_
 ·exact .of (cd 37) D_
 ·exact .of (cd 39) D_
theorem D2{s:Sc}(h:sX c s S pc R e nm pd):oL pc:=by
 obtain⟨_,_,h⟩:=h
 rcases h with ⟨_,_,_,_,_,_,h⟩ | ⟨_,_,_,rfl,_⟩ | ⟨_,_,_,_,p,_,h⟩
 ·have:pc=77∨pc=79∨pc=81:=O_
  rcases this with rfl | rfl | rfl
  ·exact .of (cd 77) D_
  ·exact .of (cd 79) D_
  ·exact .of (cd 81) D_
 ·exact .of (cd 92) D_
 ·exact EB h
theorem sx{r:Rt}(h:mu c r S pc R e nm pd):oL pc:=by
 obtain⟨s,_,h⟩:=h;exact D2 h
theorem sJ{f:Fi}(h:jO c f S pc R e nm pd):oL pc:=by
 obtain⟨_,_,h⟩:=h
 rcases h with ⟨_,_,rfl,_⟩ | ⟨_,_,_,_,_,_,_,_,h⟩ | ⟨_,_,_,_,_,_,r,e',_,_,h⟩
 ·exact .of (cd 184) D_
 ·have:pc=188∨pc=189∨pc=197∨pc=247∨pc=229∨pc=200∨pc=201∨pc=238∨pc=227∨pc=206∨pc=207:=O_
  rcases this with rfl | rfl | rfl | rfl | rfl | rfl | rfl | rfl | rfl | rfl | rfl
  ·exact .of (cd 188) D_
  ·exact .of (cd 189) D_
  ·exact .of (cd 197) D_
  ·exact .of (cd 247) D_
  ·exact .of (cd 229) D_
  ·exact .of (cd 200) D_
  ·exact .of (cd 201) D_
  ·exact .of (cd 238) D_
  ·exact .of (cd 227) D_
  ·exact .of (cd 206) D_
  ·exact .of (cd 207) D_
 ·exact sx h
theorem Am{k:Int}(h:yl c k S pc R):oL pc:=by
 unfold yl at h;have:pc=255∨pc=257∨pc=259:=O_
 rcases this with rfl | rfl | rfl
 ·exact .of (cd 255) D_
 ·exact .of (cd 257) D_
 ·exact .of (cd 259) D_
theorem TG(h:mS c q S pc R bk nm pd):oL pc:=by
 cases q with
 | take k=>exact uO h.2.2
 | aU p=>exact EB h.2.2.2.2
 | flush p=>exact Mr h.2.2.2.2.2
 | gm r=>
  obtain⟨_,_,_,_,_,_,_,_,⟨_,rfl⟩ | ⟨_,rfl⟩⟩:=h
  ·exact .of (cd 114) D_
  ·exact .of (cd 116) D_
 | unreg u=>
  obtain⟨_,_,_,⟨_,_,rfl,_⟩ | ⟨_,s,e,_,_,h⟩ | ⟨_,p,_,_,h⟩ | ⟨_,_,rfl,_⟩⟩:=h
  ·exact .of (cd 123) D_
  ·exact D2 h
  ·exact Mr h.2.2
  ·exact .of (cd 130) D_
 | post p=>
  obtain⟨_,_,_,⟨_,_,h⟩ | ⟨_,_,rfl,_⟩ | ⟨_,_,rfl,_⟩ | ⟨_,_,rfl,_⟩ | ⟨_,_,r,e,_,_,h⟩⟩:=h
  ·exact uO h
  ·exact .of (cd 146) D_
  ·exact .of (cd 149) D_
  ·exact .of (cd 150) D_
  ·exact sx h
 | read r=>
  obtain⟨_,_,i,_,_,_,⟨_,rfl⟩ | ⟨_,_,_,⟨_,rfl⟩ | ⟨_,rfl⟩ | ⟨_,rfl,_⟩⟩⟩:=h
  ·exact .of (cd 165) D_
  ·exact .of (cd 168) D_
  ·exact .of (cd 169) D_
  ·exact .of (cd 176) D_
 | clear a=>
  obtain⟨_,_,rfl,_⟩:=h;exact .of (cd 137) D_
 | scan s=>
  obtain⟨_,_,e,_,h⟩:=h;exact D2 h
 | push p=>
  obtain⟨_,_,⟨_,_,h⟩ | ⟨_,_,_,_,⟨_,rfl,_⟩ | ⟨_,rfl⟩ | ⟨_,_,⟨_,rfl⟩ | ⟨_,rfl⟩⟩⟩⟩:=h
  ·exact uO h
  ·exact .of (cd 384) D_
  ·exact .of (cd 386) D_
  ·exact .of (cd 387) D_
  ·exact .of (cd 388) D_
 | pop p=>
  obtain⟨_,_,_,_,⟨_,_,rfl⟩ | ⟨_,_,rfl,_⟩ | ⟨_,_,_,_,h⟩ | ⟨_,_,_,r,e,_,_,h⟩⟩:=h
  ·exact .of (cd 398) D_
  ·exact .of (cd 422) D_
  ·have:pc=401∨pc=403∨pc=410∨pc=411∨pc=414∨pc=415:=O_
   rcases this with rfl | rfl | rfl | rfl | rfl | rfl
   ·exact .of (cd 401) D_
   ·exact .of (cd 403) D_
   ·exact .of (cd 410) D_
   ·exact .of (cd 411) D_
   ·exact .of (cd 414) D_
   ·exact .of (cd 415) D_
  ·exact sx h
 | enq p=>
  obtain⟨_,_,_,_,⟨_,_,h⟩ | ⟨_,_,_,_,_,_,h⟩⟩:=h
  ·exact uO h
  ·have:pc=431∨pc=432∨pc=434∨pc=453∨pc=436∨pc=437∨pc=451∨pc=443∨pc=448∨pc=445:=O_
   rcases this with rfl | rfl | rfl | rfl | rfl | rfl | rfl | rfl | rfl | rfl
   ·exact .of (cd 431) D_
   ·exact .of (cd 432) D_
   ·exact .of (cd 434) D_
   ·exact .of (cd 453) D_
   ·exact .of (cd 436) D_
   ·exact .of (cd 437) D_
   ·exact .of (cd 451) D_
   ·exact .of (cd 443) D_
   ·exact .of (cd 448) D_
   ·exact .of (cd 445) D_
 | deq g=>
  obtain⟨_,_,_,_,_,_,⟨_,_,_,r,e,_,_,h⟩ | ⟨_,h⟩⟩:=h
  ·exact sx h
  ·have:pc=496∨pc=497∨pc=486∨pc=487∨pc=462∨pc=464∨pc=465∨pc=470∨pc=472∨pc=474∨pc=475∨pc=492∨pc=482∨pc=483:=O_
   rcases this with rfl | rfl | rfl | rfl | rfl | rfl | rfl | rfl | rfl | rfl | rfl | rfl | rfl | rfl
   ·exact .of (cd 496) D_
   ·exact .of (cd 497) D_
   ·exact .of (cd 486) D_
   ·exact .of (cd 487) D_
   ·exact .of (cd 462) D_
   ·exact .of (cd 464) D_
   ·exact .of (cd 465) D_
   ·exact .of (cd 470) D_
   ·exact .of (cd 472) D_
   ·exact .of (cd 474) D_
   ·exact .of (cd 475) D_
   ·exact .of (cd 492) D_
   ·exact .of (cd 482) D_
   ·exact .of (cd 483) D_
 | con w=>
  obtain⟨_,_,⟨_,e,_,h⟩ | ⟨_,_,h,_⟩⟩:=h
  ·exact sJ h
  ·exact Am h
 | del d=>
  obtain⟨_,_,_,⟨_,e,_,h⟩ | ⟨_,_,rfl,_⟩ | ⟨_,_,rfl,_⟩ | ⟨_,r,e,_,_,h⟩ | ⟨_,e,_,h⟩ | ⟨_,_,h,_⟩⟩:=h
  ·exact sJ h
  ·exact .of (cd 307) D_
  ·exact .of (cd 309) D_
  ·exact sx h
  ·exact sJ h
  ·exact Am h
 | ins d=>
  obtain⟨_,_,_,⟨_,_,_,_,e,_,h⟩ | ⟨_,_,_,_,k,_,h⟩ | ⟨_,_,_,_,_,⟨_,rfl⟩ | ⟨_,rfl⟩ | ⟨_,rfl⟩ | ⟨_,rfl,_⟩⟩ | ⟨_,_,_,p,_,h⟩ | ⟨_,h,_⟩⟩:=h
  ·exact sJ h
  ·exact uO h
  ·exact .of (cd 280) D_
  ·exact .of (cd 281) D_
  ·exact .of (cd 283) D_
  ·exact .of (cd 285) D_
  ·exact EB h.2
  ·exact Am h
 | tab t=>
  obtain⟨_,_,⟨_,_,_,e,_,h⟩ | ⟨_,_,_,_,_,⟨_,_,rfl,_⟩ | ⟨_,_,rfl⟩ | ⟨_,_,rfl⟩ | ⟨_,_,rfl,_⟩⟩ | ⟨_,_,_,r,e,_,_,h⟩ | ⟨_,_,_,e,_,h⟩ | ⟨_,h,_⟩⟩:=h
  ·exact sJ h
  ·exact .of (cd 361) D_
  ·exact .of (cd 347) D_
  ·exact .of (cd 363) D_
  ·exact .of (cd 364) D_
  ·exact sx h
  ·exact sJ h
  ·exact Am h
structure NS(S S':PM):Prop where
 rc:S'.rc=S.rc
 ca:S'.cache=S.cache
 cj:S'.cj=S.cj
 arg:S'.arg=S.arg
 dat:S'.dat=S.dat
theorem zN(L:NS S S')(h:mS c q S pc R bk nm pd):mS c q S' pc R bk nm pd:=by
 obtain⟨l1,l2,l3,l4,l5⟩:=L
 cases q<;>
  simpa only [mS,sU,wP,rK,wM,Dh,nP,pS,rM,wL,pT,wN,wR,zD,zE,wS,nR,oR,sS,JB,JD,sX,mu,jO,yl,NT,PM.hz,l1,l2,l3,l4,l5] using h
theorem go_like(L:NS S S')(h:wK c q S pc):wK c q S' pc:=by
 obtain⟨l1,l2,l3,l4,l5⟩:=L
 cases q<;>simpa only [wK,PM.hz,l1,l2,l3,l4,l5] using h
def MM.xo(c:Cf)(rd:Bool)(q:Tq)(S:PM):Bool×Tq×PM:=
 let r:=if rd then(false,q,S) else q.ready c S
 if r.1 then r else r.2.1.step c r.2.2
theorem MW{rd:Bool}(I:Inv c th S)(h:if rd then mS c q S pc R bk nm pd else wK c q S pc∧R=(fun _=>0)∧bk= []):
  ∃ (b:Bool) (q':Tq) (S':PM) (cZ:Nat) (R':Nat→Int) (eF cG cE:List Int) (n:Nat),MM.xo c rd q S=(b,q',S')∧Inv c th S'∧Kq S S'∧
   ((b=false∧mS c q' S' cZ R' eF cG cE∧tM c aI cI th n false (rm S X) (rt S pc R bk nm pd)=some (rm S' X,rt S' cZ R' eF cG cE))∨
    (b=true∧tM c aI cI th n false (rm S X) (rt S pc R bk nm pd)=some (rm S'.fin X,{rt S' cZ R' eF cG cE with busy:=false}))):=by
 have fin:∀ {S0:PM} {Ag:Nat} {R0:Nat→Int} {bk0 nm0 pd0:List Int} {q0:Tq},Kq S S0→Rn c th (St false S X pc R bk nm pd) (St false S0 X Ag R0 bk0 nm0 pd0)→bt c th X false true S0 Ag R0 bk0 nm0 pd0 (q0.step c S0) (mS c)→
   ∃ (b:Bool) (q':Tq) (S':PM) (cZ:Nat) (R':Nat→Int) (eF cG cE:List Int) (n:Nat),q0.step c S0=(b,q',S')∧Inv c th S'∧Kq S S'∧
   ((b=false∧mS c q' S' cZ R' eF cG cE∧tM c aI cI th n false (rm S X) (rt S pc R bk nm pd)=some (rm S' X,rt S' cZ R' eF cG cE))∨
    (b=true∧tM c aI cI th n false (rm S X) (rt S pc R bk nm pd)=some (rm S'.fin X,{rt S' cZ R' eF cG cE with busy:=false}))):=by
  intro S0 Ag R0 bk0 nm0 pd0 q0 K0 hn0 P;obtain⟨I',K',R',cZ,eF,cG,cE,P⟩:=P
  rcases P with ⟨hb,h2,h3⟩ | ⟨hb,h3⟩
  ·obtain⟨n,hn⟩:=hn0.trans h3
   obtain⟨i,hi,hk⟩:=TG h2;refine⟨_,_,_,cZ,R',eF,cG,cE,1+n,rfl,I',K0.trans K',.inl ⟨hb,h2,?_⟩⟩;have:=hn 1;rw [St,St] at this;simp only at this;rw [this];exact OP hi hk 0
  ·obtain⟨n,hn⟩:=hn0.trans h3
   refine⟨_,_,_,cZ,R',eF,cG,cE,1+n,rfl,I',K0.trans K',.inr ⟨hb,?_⟩⟩;have:=hn 1;rw [FE] at this;exact this
 cases rd with
 | true=>exact fin (.rfl' S) (.rfl' _) (Fy I h)
 | false=>
  obtain⟨h,rfl,rfl⟩:=h;have P:=BM (X:=X) (nm:=nm) (pd:=pd) I h;unfold MM.xo;simp only [mD,eu];generalize q.ready c S=r at P;obtain⟨b,q1,S1⟩:=r;obtain⟨I',K',R',cZ,eF,cG,cE,P⟩:=P
  rcases P with ⟨hb,h2,h3⟩ | ⟨hb,h3⟩
  ·simp only at hb
   subst hb;exact fin K' h3 (Fy I' h2)
  ·simp only at hb
   subst hb;obtain⟨n,hn⟩:=h3;refine⟨_,_,_,cZ,R',eF,cG,cE,1+n,rfl,I',K',.inr ⟨rfl,?_⟩⟩;have:=hn 1;rw [FE] at this;exact this
end
section
variable{K:Ky}{c:Cf}{S:PM}{ss:List Sv}{w0 w w':World}{F H L:List En}{d b n k th q:Nat}{R:Nat→Int}{bk nm pd:List Int}
def Tq.ty:Tq→TypeId
 | .take _=>160
 | .aU _=>167
 | .flush _=>169
 | .gm _=>173
 | .unreg _=>176
 | .post _=>180
 | .read _=>185
 | .clear _=>188
 | .scan _=>177
 | .push _=>197
 | .pop _=>200
 | .enq _=>205
 | .deq _=>209
 | .con _=>222
 | .del _=>214
 | .ins _=>272
 | .tab t=>if t.take then 283 else 280
def Tq.fr:Tq→FuncId
 | .take _=>182
 | .aU _=>206
 | .flush _=>211
 | .gm _=>214
 | .unreg _=>216
 | .post _=>224
 | .read _=>234
 | .clear _=>238
 | .scan _=>219
 | .push _=>240
 | .pop _=>250
 | .enq _=>261
 | .deq _=>265
 | .con _=>289
 | .del _=>270
 | .ins _=>291
 | .tab t=>if t.take then 303 else 297
def Tq.fs:Tq→FuncId
 | .take _=>184
 | .aU _=>207
 | .flush _=>212
 | .gm _=>215
 | .unreg _=>217
 | .post _=>225
 | .read _=>235
 | .clear _=>239
 | .scan _=>220
 | .push _=>241
 | .pop _=>241
 | .enq _=>262
 | .deq _=>266
 | .con _=>290
 | .del _=>271
 | .ins _=>292
 | .tab t=>if t.take then 304 else 298
def qu(K:Ky)(c:Cf)(th k:Nat)(q:Tq)(L:List En):Prop:=
 match q with
 | .take x=>∃ kt,L= [gr K kt th x,WJ k kt]
 | .aU p=>L= [nC K k 267 th p]
 | .flush p=>L= [nC K k 268 th p]
 | .gm r=>Tl K th k r L
 | .unreg u=>Ng K c th k u L
 | .post p=>GL K c th k p L
 | .read r=>Om K k r L
 | .clear a=>ClO k a L
 | .scan s=>qx K c th k s L
 | .push p=>Fe K th k p L
 | .pop p=>uH K c th k p L
 | .enq p=>Ba K c th k p L
 | .deq g=>rY K c th k g L
 | .con w=>Fg K c th k w L
 | .del d=>GO K c th k d L
 | .ins d=>ym K c th k d L
 | .tab t=>rH K c (if t.take then 285 else 282) t.take th k t L
def Ol(K:Ky)(c:Cf)(th k:Nat)(q:Tq)(L:List En):Prop:=
 match q with
 | .post p=>L= [DE K k th 0 (.pointer none) (.pointer none) p]
 | .scan s=>L= [mY K k th s]
 | .push p=>∃ v kt,L= [OX K k th v kt p,gr K kt th p.take]
 | .pop p=>L= [yK K k th .nilFunc (.pointer none) p]
 | .enq p=>L= [wZ K c k th (.pointer none) p]
 | .deq g=>g.pc=0∧L= [mI K c k th (.pointer none) g]
 | .tab t=>∃ fp rp lp,t.az=0∧L= [jR K c (if t.take then 285 else 282) k th fp rp lp 0 t.slot t.root t.key t.take]
 | q=>qu K c th k q L
theorem Post.up{α:Type}{O:α→List En→Prop}{O':Tq→List En→Prop}{r:Bool×α×PM}{f:α→Tq}{e:Ending}(h:Post K c ss w0 F O r e w')(hf:∀ x L,O x L→O' (f x) L):Post K c ss w0 F O' (up f r) e w':=by
 obtain⟨b,x,S'⟩:=r;obtain⟨h1,L,h2,h3⟩:=h;exact⟨h1,L,fun q=>hf _ _ (h2 q),h3⟩
theorem uo{r:Bool×Tk×PM}:(eP r).1=r.1∧(eP r).2.1=.take r.2.1∧(eP r).2.2=TkO r:=by
 obtain⟨b,x,S'⟩:=r
 cases b<;>exact⟨rfl,rfl,rfl⟩
variable{O:List En}
theorem Kl{x:Tq}(h:aq K c S ss w0 w (O++F))(o:qu K c S.th k x O)(hd:dk K.toMk d∈F)(g:Gd n c S ss)(ax:Ax S)(hn:n<800000000000)(ha:mS c x S q R bk nm pd):
  Calls prog x.fs #[some k,some d] w (Post K c ss w0 F (qu K c S.th k) (x.step c S)):=by
 cases x with
 | take x=>
  obtain⟨kt,rfl⟩:=o;obtain⟨_,_,ha⟩:=ha;refine un (DX h (gq ..) (mT hd) g.I ax.1 ax.2 g.bb (uP ha) g.tt g.t) fun w1 m1=>?_
  obtain⟨e1,e2,e3⟩:=uo (r:=x.step c S);refine⟨by show _=Ending.returned (.bool (eP (x.step c S)).1);rw [e1],[gr K kt S.th (x.step c S).2.1,WJ k kt],fun _=>?_,?_⟩
  ·show qu K c S.th k (eP (x.step c S)).2.1 _
   rw [e2];exact⟨kt,rfl⟩
  ·show aq K c (eP (x.step c S)).2.2 ss w0 w1 _
   rw [e3];exact m1
 | aU p=>
  obtain rfl:=o;obtain⟨_,_,_,ha⟩:=ha;refine un (lZ h hd g.I ax.1 ax.2 g.bb (Ed ha.2)) fun w1 m1=>?_
  show Post K c ss w0 F (qu K c S.th k) (up .aU (p.step c S)) _ _
  generalize p.step c S=r at m1 ⊢;exact⟨rfl,[_],fun _=>rfl,m1⟩
 | flush p=>
  obtain rfl:=o;obtain⟨_,_,_,_,hl,ha⟩:=ha;refine un (vQ h hd g.I ax.1 ax.2 g.bb (Ms ha) g.th g.ca hl) fun w1 m1=>?_
  show Post K c ss w0 F (qu K c S.th k) (up .flush (p.iW c S)) _ _
  generalize p.iW c S=r at m1 ⊢;exact⟨rfl,[_],fun _=>rfl,m1⟩
 | gm r=>exact(TP (nm:=nm) (pd:=pd) h o hd g ax ha).mono fun _ _ h=>h.up fun _ _ o=>o
 | unreg u=>exact(TD h o hd g ax hn ha).mono fun _ _ h=>h.up fun _ _ o=>o
 | post p=>exact(T5 h o hd g ax hn ha).mono fun _ _ h=>h.up fun _ _ o=>o
 | read r=>exact(TQ (nm:=nm) (pd:=pd) h o hd g ax ha).mono fun _ _ h=>h.up fun _ _ o=>o
 | clear a=>
  obtain rfl:O= [clE k a]:=o;obtain⟨_,_,_,_,i,rfl,hx,_⟩:=ha;exact(Wb h hd g ax (g.I.eX O_ O_ hx)).mono fun _ _ h=>h.up (f:=.clear) fun _ _ o=>o
 | scan s=>
  obtain⟨_,_,e,_,ha⟩:=ha;exact(D3 o h hd g rfl O_ ax ha).mono fun _ _ h=>h.up fun _ _ o=>o
 | push p=>exact(TY h o hd g rfl ax O_ ha).mono fun _ _ h=>h.up fun _ _ o=>o
 | pop p=>exact(T1 h o hd g rfl ax hn ha).mono fun _ _ h=>h.up fun _ _ o=>o
 | enq p=>exact(VN h o hd g ax hn ha).mono fun _ _ h=>h.up fun _ _ o=>o
 | deq p=>exact(VS h o hd g ax hn ha).mono fun _ _ h=>h.up fun _ _ o=>o
 | con p=>exact(Qo h o hd g ax hn ha).mono fun _ _ h=>h.up fun _ _ o=>o
 | del p=>exact(V6 h o hd g ax hn ha).mono fun _ _ h=>h.up fun _ _ o=>o
 | ins p=>exact(U6 h o hd g ax hn ha).mono fun _ _ h=>h.up fun _ _ o=>o
 | tab t=>
  have ht:t.take=true∨t.take=false:=by cases t.take<;>simp
  simp only [Tq.fs,Tq.step]
  rcases ht with ht | ht
  ·rw [aY ht]
   have o':rH K c 285 true S.th k t O:=by simpa only [qu,ht,dL] using o
   refine(TF h o' hd g ax hn ha).mono fun _ _ h=>h.up fun x L o=>?_
   have hx:=o.1;simpa only [qu,hx,dL] using o
  ·rw [aK (by rw [ht];decide)]
   have o':rH K c 282 false S.th k t O:=by simpa only [qu,ht,mD,eu] using o
   refine(TH h o' hd g ax hn ha).mono fun _ _ h=>h.up fun x L o=>?_
   have hx:=o.1;simpa only [qu,hx,mD,eu] using o
theorem XY(w:World)(u v:Value):cm 214 #[u,v] w false fun w'=>w'=w:=by
 go_enter func214,ntmps214;exact iB
theorem Xx(w:World)(u v:Value):cm 216 #[u,v] w false fun w'=>w'=w:=by
 go_enter func216,ntmps216;exact iB
theorem X3(w:World)(u v:Value):cm 234 #[u,v] w false fun w'=>w'=w:=by
 go_enter func234,ntmps234;exact iB
theorem aa3(w:World)(u v:Value):cm 238 #[u,v] w false fun w'=>w'=w:=by
 go_enter func238,ntmps238;exact iB
theorem aa2(w:World)(u v:Value):cm 289 #[u,v] w false fun w'=>w'=w:=by
 go_enter func289,ntmps289;exact iB
theorem aaZ(w:World)(u v:Value):cm 270 #[u,v] w false fun w'=>w'=w:=by
 go_enter func270,ntmps270;exact iB
theorem ZN(w:World)(u v:Value):cm 291 #[u,v] w false fun w'=>w'=w:=by
 go_enter func291,ntmps291;exact iB
theorem oY{x:Tq}{f:FuncId}(h:aq K c S ss w0 w (O++F))(o:qu K c S.th k x O)(hr:x.ready c S=(false,x,S))
  (hm:Calls prog f #[some k,some d] w fun e w'=>e=.returned false∧w'=w):
  Calls prog f #[some k,some d] w (Post K c ss w0 F (qu K c S.th k) (x.ready c S)):=by
 rw [hr];refine hm.mono ?_;rintro e w1 ⟨rfl,rfl⟩;exact⟨rfl,O,fun _=>o,h⟩
theorem OC{x:Tq}(h:aq K c S ss w0 w (O++F))(o:Ol K c S.th k x O)(hd:dk K.toMk d∈F)(g:Gd n c S ss)(hn:n<800000000000)(ha:wK c x S q):
  Calls prog x.fr #[some k,some d] w (Post K c ss w0 F (qu K c S.th k) (x.ready c S)):=by
 obtain⟨_,ha⟩:=ha
 cases x with
 | take x=>
  obtain⟨kt,rfl⟩:=o;obtain⟨rfl,_⟩:=ha;refine un (BO h (gq ..) (mT hd) D_ g.th g.Xm g.ca g.bb g.tt g.t) fun w1 m1=>?_
  obtain⟨e1,e2,e3⟩:=uo (r:=Tk.new.ready S);refine⟨by show _=Ending.returned (.bool (eP (Tk.new.ready S)).1);rw [e1],[gr K kt S.th (Tk.new.ready S).2.1,WJ k kt],fun _=>?_,?_⟩
  ·show qu K c S.th k (eP (Tk.new.ready S)).2.1 _
   rw [e2];exact⟨kt,rfl⟩
  ·show aq K c (eP (Tk.new.ready S)).2.2 ss w0 w1 _
   rw [e3];exact m1
 | aU p=>
  obtain rfl:=o;obtain⟨rfl,h0,h1,_⟩:=ha;have mG:=g.I.sl;refine un (kX h hd (by simp [Pu.aU]) ⟨h0,by show S.arg<(S.slots.length:Int);omega⟩ g.th g.ca g.bb) fun w1 m1=>?_
  show Post K c ss w0 F (qu K c S.th k) (up .aU ((Pu.aU S.arg).ready c S)) _ _
  generalize (Pu.aU S.arg).ready c S=r at m1 ⊢;exact⟨rfl,[_],fun _=>rfl,m1⟩
 | flush p=>
  obtain rfl:=o;refine un (tE h g.th g.ca) fun w1 m1=>?_
  show Post K c ss w0 F (qu K c S.th k) (up .flush (p.dU S)) _ _
  generalize p.dU S=r at m1 ⊢;exact⟨rfl,[_],fun _=>rfl,m1⟩
 | gm r=>exact oY h o rfl (XY _ _ _)
 | unreg u=>exact oY h o rfl (Xx _ _ _)
 | read r=>exact oY h o rfl (X3 _ _ _)
 | clear a=>exact oY h o rfl (aa3 _ _ _)
 | con w=>exact oY h o rfl (aa2 _ _ _)
 | del d=>exact oY h o rfl (aaZ _ _ _)
 | ins d=>exact oY h o rfl (ZN _ _ _)
 | post p=>
  obtain rfl:=o;obtain⟨rfl,_,_⟩:=ha;exact(O4 h hd g hn).mono fun _ _ h=>h.up fun _ _ o=>o
 | scan s=>
  obtain rfl:=o;obtain⟨rfl,hr,_⟩:=ha;have hb:=g.I.JU.2;exact(zW h g.I ⟨hr,hb⟩ rfl).mono fun _ _ h=>h.up fun _ _ o=>o
 | push p=>
  obtain⟨v,kt,rfl⟩:=o;obtain⟨rfl,_⟩:=ha;exact(O0 h hd g rfl (by simp [Tk.new]) O_).mono fun _ _ h=>h.up fun _ _ o=>o
 | pop p=>
  obtain rfl:=o;exact(O1 h rfl).mono fun _ _ h=>h.up (f:=.pop) fun _ _ o=>o
 | enq p=>
  obtain rfl:=o;obtain⟨rfl,hr,_⟩:=ha;exact(Qf h hd g hr hn).mono fun _ _ h=>h.up fun _ _ o=>o
 | deq p=>
  obtain⟨hp,rfl⟩:=o;obtain⟨_,_,hr,_⟩:=ha;obtain⟨pc,h0,t,nx,val,got,z0,z1,cl,ret⟩:=p;obtain rfl:pc=0:=hp;exact(Qm (cl:=cl) (got:=got) (ret:=ret) h g hr).mono fun _ _ h=>h.up fun _ _ o=>o
 | tab t=>
  obtain⟨fp,rp,lp,hs,rfl⟩:=o;obtain⟨hr,hk,hroot,hkey,_⟩:=ha;obtain⟨f,root,key,st,slot,tk,ret,lv⟩:=t;obtain rfl:st=0:=hs;obtain rfl:root=c.ad 7 (u64 S.arg % c.B):=hroot;have hpa:PA c (c.ad 7 (u64 S.arg % c.B)):=g.I.WT _;have pX:=(g.I.pa hpa).1
  cases tk
  ·exact(OH (f:=f) (lv:=lv) (ret:=ret) h g hr pX).mono fun _ _ h=>h.up fun x L o=>by
    have hx:=o.1;simpa only [qu,hx,mD,eu] using o
  ·exact(OA (f:=f) (lv:=lv) (ret:=ret) h g hr pX).mono fun _ _ h=>h.up fun x L o=>by
    have hx:=o.1;simpa only [qu,hx,dL] using o
end
end Go.Proofs.YtgbhnihkgmpocaaGreat
