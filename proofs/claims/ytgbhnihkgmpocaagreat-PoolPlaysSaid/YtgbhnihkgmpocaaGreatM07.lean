/- Part 8 of 16 of the proof of PoolPlays. No condition. -/
import Derived.Test.YtgbhnihkgmpocaaGreatM06
namespace Go.Proofs.YtgbhnihkgmpocaaGreat
set_option maxRecDepth 100000
set_option maxHeartbeats 4000000
open Tryz
variable{P:Prop}
theorem Nn(x:P:=by
 rintro e w9 ⟨rfl,kl,m9⟩;go_wp2_with fail;go_ret;exact⟨rfl,[_,_],fun _=>.inr (.inr (.inr (.inr ⟨rfl,_,_,_,_,rfl⟩))),m9⟩):P:=x
theorem Wn(x:P:=by
 unfold Wk.left;rw [show gu c wk.lv S=(decide (wk.lv+1=3),wk.lv+1,S.store (S.hz c wk.lv) 0) from rfl]
 cases decide (wk.lv+1=3)<;>exact⟨hs,rfl,rfl⟩):P:=x
theorem Wm(x:P:=by
 go_wp2_with fail;refine hm.mono ?_;rintro e w1 ⟨rfl,L,o1,m1⟩;obtain⟨rv,rfl⟩:=pM o1 d2;go_wp2_with fail;refine(P7 _ rv m1.swap).mono ?_;exact Fc):P:=x
theorem abu(x:P:=by
 have q0:=ha.1.r0;have q1:=oP.1.r0;have q2:=ha.1.r1;have q3:=oP.1.r1;have q4:=ha.1.ky;have q5:=oP.1.ky;rw [hk 0 O_] at q1;rw [hk 1 O_] at q3;refine⟨q1.symm.trans q0,?_⟩;have:=q3.symm.trans q2;have:=ep wrap64 this
 rwa [wu _ q5.1 q5.2,wu _ q4.1 q4.2] at this):P:=x
theorem QH(x:P:=by
 go_wp2_with fail;go_ret;exact⟨rfl,[_,_],fun _=>.inr (.inr (.inr ⟨rfl,_,_,_,rfl⟩)),m4⟩):P:=x
theorem Wl(x:P:=by
 go_wp2_with fail;go_ret;exact⟨rfl,[_,_],fun _=>.inr (.inr (.inl ⟨⟨S_,S_⟩,_,_,_,_,_,_,_,rfl⟩)),m2.put 2 _⟩):P:=x
theorem abj(x:P:=by
 rintro e w9 ⟨rfl,L,o,m9⟩;go_wp2_with fail;go_ret;exact⟨rfl,_::_::L,fun _=>.inr (.inr (.inl ⟨rfl,_,_,_,_,_,_,_,_,rfl,(by first | exact o trivial | exact o rfl | exact o),rfl⟩)),m9.perm fE⟩):P:=x
theorem SZ(x:P:=by
 go_wp2_with fail;go_ret;exact⟨rfl,[_,_,_],fun _=>.inr (.inr (.inr (.inl ⟨rfl,_,_,_,_,_,_,_,_,rfl,rfl⟩))),m5.perm (fE (L:= [_]))⟩):P:=x
theorem SI(x:P:=by
 split
 ·exact⟨rfl,g.hl,rfl,g.s.swap.shift⟩
 ·exact⟨rfl,g.hl,rfl,g.s.swap.le (pU _)⟩):P:=x
theorem SH(x:P:=by
 rintro e w4 ⟨rfl,kl,m4⟩;go_wp2_with fail;go_ret;exact⟨rfl,[_,_],fun _=>.inr ⟨rfl,_,_,rfl⟩,m4⟩):P:=x
theorem SE(x:P:=by
 split
 ·exact⟨rfl,g.hl,rfl,g.s.le (pU _)⟩
 ·exact⟨rfl,g.hl,rfl,g.s.setCache.shift⟩):P:=x
theorem Sa(x:P:=by
 obtain rfl:=hw.symm;go_wp2_with fail;go_ret;exact⟨_,rfl,bZ _,h3⟩):P:=x
open Go.RowKit
section
variable{c:Cf}{th:Nat}{X:List RT}{v v0 v1 v2:Bool}{S S' S1:PM}{pc cZ:Nat}{R R':Nat→Int}{bk eF bs nm pd cG cE:List Int}
def nR(c:Cf)(d:In)(S:PM)(pc:Nat)(R:Nat→Int)(bk nm pd:List Int):Prop:=R 47=0∧0≤S.rc∧R 16=u64 d.eU∧
 ((d.wk.az=0∧d.wk.full=-1∧R 17=u64 d.slot∧(d.slot=-1∨J5 c d.slot)∧∃ e,bk= [265]++e∧jO c d.wk.f S pc R e nm pd)∨
  (d.wk.az=1∧d.wk.full=-1∧bk= [278]∧Fd c d.wk.f R∧∃ k,d.take=some k∧sS c k S pc R [] nm pd)∨
  (d.wk.full=-1∧bk= []∧Fd c d.wk.f R∧J5 c d.slot∧R 17=u64 d.slot∧((d.wk.az=2∧pc=280)∨(d.wk.az=3∧pc=281)∨(d.wk.az=4∧pc=283)∨(d.wk.az=5∧pc=285∧R 15=pk d.slot)))∨
  (d.wk.az=6∧d.wk.full=-1∧bk= [270]∧∃ p,d.aU=some p∧JB c p S pc R [] nm pd)∨
  (d.wk.az=11∧yl c d.wk.lv S pc R∧((d.wk.full=-1∧((d.wk.cj=6∧bk= [272])∨(d.wk.cj=5∧bk= [289])))∨(0≤d.wk.full∧wrap64 (R 19)=d.wk.full∧d.wk.cj=4∧bk= [293]))))
theorem yX{root k eU:Int}(I:Inv c th S)(aZ:R 47=0)(hr:0≤S.rc)(h0:wrap64 (R 0)=root)(h1:R 1=u64 k)(rX:R 16=u64 eU)(hp:PA c root)(hk:-9223372036854775808≤k∧k<9223372036854775808):
  bt c th X v v S 261 R [] nm pd (false,(⟨Wk.new root k,eU,none,none,-1⟩:In),S) (nR c):=by
 obtain⟨e2,ha⟩:=l8 (c:=c) (th:=th) (v:=v) (S:=S) (X:=X) (R:=cg R 17 (u64 (-1))) (nm:=nm) (pd:=pd) (bk:= [265]) (root:=root) (key:=k) hr h0 h1 hp hk;exact bt.go I (.rfl' S) (.trans (dI (cd 261))<| .trans (yI (cd 262) rfl)<| .trans (dI (cd 263))<| .trans (mE (cd 264) qQ (r:=265) rfl) e2) ⟨aZ,hr,rX,.inl ⟨rfl,rfl,rfl,.inl rfl,[],rfl,ha⟩⟩
theorem IG{k:Int}(I:Inv c th S)(aZ:R 47=0)(hr:0≤S.rc)(hv:S.arg=k)(hk:-9223372036854775808≤k∧k<9223372036854775808):bt c th X false false S 295 R [] nm pd (false,(⟨Wk.new (c.ad 6 0) k,0,none,none,-1⟩:In),S) (nR c):=by
 have e1:Rn c th (St false S X 295 R [] nm pd) (St false S X 261 (cg (cg (cg R 0 (u64 (c.ad 6 0))) 1 (u64 k)) 16 (u64 0)) [] nm pd):=
  .trans (dI (cd 295))<| .trans (KN (w:=u64 (c.ad 6 0)) (cd 296) aZ (by rw [Int.zero_add]))<| .trans (JV I (cd 297) hv)<| .trans (yI (cd 298) rfl) (tO (cd 299) Zg)
 exact bt.behind (.rfl' S) e1 (yX I aZ hr (K9 I I.O9) rfl rfl I.O9 hk)
theorem DQ(k:Int):u64 (u64 k % c.B+c.ad 7 0)=u64 (c.ad 7 (u64 k % c.B)):=by unfold Cf.ad;congr 1;omega
theorem Jz{k x:Int}(I:Inv c th S)(aZ:R 47=0)(hr:0≤S.rc)(hv:S.arg=k)(hd:S.dat=x)(hk:-9223372036854775808≤k∧k<9223372036854775808):bt c th X false false S 334 R [] nm pd (false,(⟨Wk.new (c.ad 7 (u64 k % c.B)) k,x,none,none,-1⟩:In),S) (nR c):=by
 have e1:Rn c th (St false S X 334 R [] nm pd) (St false S X 261 (cg (cg (cg (cg R 1 (u64 k)) 0 (u64 k % c.B)) 0 (u64 (c.ad 7 (u64 k % c.B)))) 16 (u64 x)) [] nm pd):=
  .trans (dI (cd 334))<| .trans (JV I (cd 335) hv)<| .trans (r47 (u:=u64 k) (cd 336) rfl)<| .trans (KN (u:=u64 k % c.B) (cd 337) rfl (DQ k))<| .trans (r49 I (cd 338) hd) (tO (cd 339) Zg)
 exact bt.behind (.rfl' S) e1 (yX I aZ hr (K9 I (I.WT _)) rfl rfl (I.WT _) hk)
variable{d:In}
theorem Es(I:Inv c th S)(aZ:R 47=0)(hr:0≤S.rc)(rX:R 16=u64 d.eU)(hf:d.wk.full=-1):bt c th X v v S 270 R [] nm pd (d.lift (d.wk.jk 6 S)) (nR c):=by
 obtain⟨f1,f2⟩:=gW (c:=c) (th:=th) (v:=v) (X:=X) (S:=S) (R:=R) (bk:= [272]) (nm:=nm) (pd:=pd) hr;exact bt.go I (.rfl' S) (.trans (dI (cd 270))<| .trans (mE (cd 271) xK (r:=272) rfl) f1) ⟨aZ,hr,rX,.inr (.inr (.inr (.inr ⟨rfl,f2,.inl ⟨hf,.inl ⟨rfl,rfl⟩⟩⟩)))⟩
theorem yW{k:Tk}(I:Inv c th S)(aZ:R 47=0)(hr:0≤S.rc)(rX:R 16=u64 d.eU)(hf:d.wk.full=-1)(hd:Fd c d.wk.f R)(hk:Fb c k R):bt c th X v v S 278 R [] nm pd (d.taken k S) (nR c):=by
 obtain⟨jS,hlo,hhi⟩:=hk;have hb:=I.bd;have tJ:wrap64 (R 30)=k.res:=wr jS hlo O_
 by_cases h:k.res<0
 ·have e:d.taken k S=(false,{d with take:=some k,slot:=k.res,wk:={d.wk with full:=S.now,cj:=4,lv:=0,az:=11}},S):=by unfold In.taken;simp [h,In.lift,Wk.jk]
  rw [e];obtain⟨f1,f2⟩:=gW (c:=c) (th:=th) (v:=v) (X:=X) (S:=S) (R:=cg R 19 S.now) (bk:= [293]) (nm:=nm) (pd:=pd) hr;exact bt.go I (.rfl' S) (.trans (sB (cd 278) tJ (ld aZ) h aej)<| .trans (dI (cd 290))<| .trans (WO (cd 291))<| .trans (mE (cd 292) xK (r:=293) rfl) f1) ⟨aZ,hr,rX,.inr (.inr (.inr (.inr ⟨rfl,f2,.inr ⟨I.nw.1,wid I.nw.1 (by have:=I.nw.2;show S.now<_;omega),rfl,rfl⟩⟩)))⟩
 ·have e:d.taken k S=(false,{d with take:=some k,slot:=k.res,wk:={d.wk with az:=2}},S):=by unfold In.taken;simp [h]
  rw [e];exact bt.go (R':=cg R 17 (u64 k.res)) (eF:= []) I (.rfl' S) (.trans (tN (cd 278) tJ (ld aZ) h) (wY (cd 279) jS)) ⟨aZ,hr,rX,.inr (.inr (.inl ⟨hf,rfl,hd.kp fun i hi=>oV _ _ O_,⟨Int.not_lt.1 h,hhi⟩,rfl,.inl ⟨rfl,rfl⟩⟩))⟩
theorem Cy(I:Inv c th S)(aZ:R 47=0)(hr:0≤S.rc)(rX:R 16=u64 d.eU)(hf:d.wk.full=-1)(J1:R 17=u64 d.slot)(hs:d.slot=-1∨J5 c d.slot)(ha:AZ c d.wk.f R):bt c th X true true S 265 R [] nm pd (In.eo c d S) (nR c):=by
 have hb:=I.bd;have h6:=ha.2.1;have h7:=ha.2.2.1
 have sb:-1≤d.slot∧d.slot<1024:=by
  rcases hs with h | h
  ·omega
  ·obtain⟨_,_⟩:=h;omega
 have Od:wrap64 (R 17)=d.slot:=wr J1 sb.1 O_
 cases hc:d.wk.f.found with
 | true=>
  rw [hc,aY rfl] at h6;have I1:=I.aB d.wk.f.pt;have K1:=Kp.aB S d.wk.f.pt;have eO:0≤(S.aB d.wk.f.pt).rc:=hr;have e1:Rn c th (St true S X 265 R [] nm pd) (St true (S.aB d.wk.f.pt) X 267 R [] nm pd):=.trans (lz (cd 265) (by rw [h6,aZ];decide)) (Rk (cd 266) h7)
  by_cases h:d.slot<0
  ·have e:In.eo c d S=d.lift (d.wk.jk 6 (S.aB d.wk.f.pt)):=by unfold In.eo;simp [hc,h]
   rw [e];exact bt.behind K1.q (.trans e1 (sB (cd 267) Od (ld aZ) h aem)) (Es I1 aZ eO rX hf)
  ·obtain⟨s0,s1⟩:J5 c d.slot:=hs.resolve_left O_
   have e2:=e1.trans<| .trans (tN (cd 267) Od (ld aZ) h)<| .trans (wY (cd 268) J1) (mE (cd 269) l11 (r:=270) rfl)
   obtain⟨k,S',R',cG,cE,I',K',hk',⟨cZ,e',hr',ha,hn⟩ | ⟨hr',ha,hn⟩⟩:=(vg (X:=X) (v:=true) (R:=cg R 34 (u64 d.slot)) (bs:= [270]) (nm:=nm) (pd:=pd) I1 s0 s1 rfl).cases
   ·have e:In.eo c d S=(false,{d with aU:=some k,wk:={d.wk with az:=6}},S'):=by unfold In.eo;simp [hc,h,hr']
    rw [e];obtain⟨rfl,ha⟩:=ha;exact bt.go I' (K1.trans K').q (e2.trans hn) ⟨(hk' 47 O_).trans aZ,by rw [K'.rc];exact eO,(hk' 16 O_).trans rX,.inr (.inr (.inr (.inl ⟨rfl,hf,rfl,k,rfl,rfl,ha⟩)))⟩
   ·have e:In.eo c d S=In.lift {d with aU:=some k} (Wk.jk {d.wk with az:=6} 6 S'):=by unfold In.eo;simp [hc,h,hr']
    rw [e];exact bt.behind (K1.trans K').q (e2.trans (hn [] 270 rfl)) (Es (d:={d with aU:=some k,wk:={d.wk with az:=6}}) I' ((hk' 47 O_).trans aZ) (by rw [K'.rc];exact eO) ((hk' 16 O_).trans rX) hf)
 | false=>
  rw [hc,aK S_] at h6;have e1:Rn c th (St true S X 265 R [] nm pd) (St true S X 274 R [] nm pd):=.trans (lV (cd 265) (by rw [h6,aZ]) aen) (dI (cd 273))
  by_cases h:0≤d.slot
  ·have e:In.eo c d S=(false,{d with wk:={d.wk with az:=4}},S):=by unfold In.eo;simp [hc,h]
   rw [e];have ok:J5 c d.slot:=hs.resolve_left O_;exact bt.go (eF:= []) I (.rfl' S) (.trans e1<| .trans (tN (cd 274) Od (ld aZ) O_)<| .trans (tO (cd 275) aek) (dI (cd 282))) ⟨aZ,hr,rX,.inr (.inr (.inl ⟨hf,rfl,ha.fd,ok,J1,.inr (.inr (.inl ⟨rfl,rfl⟩))⟩))⟩
  ·have e2:=e1.trans<| .trans (sB (cd 274) Od (ld aZ) O_ ael)<| .trans (dI (cd 276)) (mE (cd 277) Zj (r:=278) rfl)
   obtain⟨k,S',R',cG,cE,I',K',hk',⟨cZ,e',hr',oP,hn⟩ | ⟨hr',oP,hn⟩⟩:=(nq (X:=X) (v:=true) (R:=R) (bs:= [278]) (nm:=nm) (pd:=pd) I).cases
   ·have e:In.eo c d S=(false,{d with wk:={d.wk with az:=1},take:=some k},S'):=by unfold In.eo;simp [hc,h,hr',In.iH]
    rw [e];obtain⟨rfl,oP⟩:=oP;exact bt.go I' K'.q (e2.trans hn) ⟨(hk' 47 O_).trans aZ,by rw [K'.rc];exact hr,(hk' 16 O_).trans rX,.inr (.inl ⟨rfl,hf,rfl,ha.fd.kp fun i hi=>hk' i O_,k,rfl,rfl,oP⟩)⟩
   ·have e:In.eo c d S=In.taken {d with wk:={d.wk with az:=1}} k S':=by unfold In.eo;simp [hc,h,hr',In.iH]
    rw [e];exact bt.behind K'.q (e2.trans (hn [] 278 rfl)) (yW (d:={d with wk:={d.wk with az:=1}}) I' ((hk' 47 O_).trans aZ) (by rw [K'.rc];exact hr) ((hk' 16 O_).trans rX) hf (ha.fd.kp fun i hi=>hk' i O_) oP)
theorem LO(I:Inv c th S)(ha:nR c d S pc R bk nm pd):bt c th X false true S pc R bk nm pd (d.step c S) (nR c):=by
 obtain⟨aZ,hr,rX,ha⟩:=ha;have hb:=I.bd
 rcases ha with ⟨hs,hf,J1,mG,e,rfl,ha⟩ | ⟨hs,hf,rfl,hd,k,ht,ha⟩ | ⟨hf,rfl,hd,ok,J1,ha⟩ | ⟨hs,hf,rfl,p,hg,ha⟩ | ⟨hs,ha,hw⟩
 ·obtain⟨k,S',R',cG,cE,I',K',hk,⟨cZ,e',hr',ha,hn⟩ | ⟨hr',ha,hn⟩⟩:=kR (X:=X) (bs:= [265]) I aZ ha
  ·have e:d.step c S=(false,{d with wk:={d.wk with f:=k}},S'):=by unfold In.step;simp [hs,hr']
   rw [e];exact bt.go I' K'.q hn ⟨(hk 47 O_).trans aZ,by rw [K'.rc];exact hr,(hk 16 O_).trans rX,.inl ⟨hs,hf,(hk 17 O_).trans J1,mG,e',rfl,ha⟩⟩
  ·have e:d.step c S=In.eo c {d with wk:={d.wk with f:=k}} S':=by unfold In.step;simp [hs,hr']
   rw [e];exact bt.behind K'.q (hn [] 265 rfl) (Cy (d:={d with wk:={d.wk with f:=k}}) I' ((hk 47 O_).trans aZ) (by rw [K'.rc];exact hr) ((hk 16 O_).trans rX) hf ((hk 17 O_).trans J1) mG ha)
 ·obtain⟨k',S',R',cG,cE,I',K',hk',⟨cZ,e',hr',oP,hn⟩ | ⟨hr',oP,hn⟩⟩:=(qG (X:=X) (bs:= [278]) I aZ ha).cases
  ·have e:d.step c S=(false,{d with take:=some k'},S'):=by unfold In.step;simp [hs,ht,hr',In.iH]
   rw [e];obtain⟨rfl,oP⟩:=oP;exact bt.go I' K'.q hn ⟨(hk' 47 O_).trans aZ,by rw [K'.rc];exact hr,(hk' 16 O_).trans rX,.inr (.inl ⟨hs,hf,rfl,hd.kp fun i hi=>hk' i O_,k',rfl,rfl,oP⟩)⟩
  ·have e:d.step c S=d.taken k' S':=by unfold In.step;simp [hs,ht,hr',In.iH]
   rw [e];exact bt.behind K'.q (hn [] 278 rfl) (yW I' ((hk' 47 O_).trans aZ) (by rw [K'.rc];exact hr) ((hk' 16 O_).trans rX) hf (hd.kp fun i hi=>hk' i O_) oP)
 ·have Od:wrap64 (R 17)=d.slot:=wr J1 (by have:=ok.1;omega) (by have:=ok.2;omega)
  obtain⟨hc,h2,hp,h3,hw⟩:=id hd
  rcases ha with ⟨hs,rfl⟩ | ⟨hs,rfl⟩ | ⟨hs,rfl⟩ | ⟨hs,rfl,h15⟩
  ·have e:d.step c S=(false,{d with wk:={d.wk with az:=3}},S.store (c.ad 11 d.slot) (u64 d.wk.f.key)):=by unfold In.step;simp [hs]
   rw [e];have x:=I.iO (r:=11) O_ ok.1 ok.2;exact bt.go (eF:= []) (I.store (I.eX O_ O_ x) (I.TV O_ x _)) (Kp.store S _ _).q (r2 I (cd 280) O_ Od hc.r1 x) ⟨aZ,hr,rX,.inr (.inr (.inl ⟨hf,rfl,hd,ok,J1,.inr (.inl ⟨rfl,rfl⟩)⟩))⟩
  ·have e:d.step c S=(false,{d with wk:={d.wk with az:=4}},S.store (c.ad 12 d.slot) (u64 d.eU)):=by unfold In.step;simp [hs]
   rw [e];have x:=I.iO (r:=12) O_ ok.1 ok.2;exact bt.go (eF:= []) (I.store (I.eX O_ O_ x) (I.TV O_ x _)) (Kp.store S _ _).q (.trans (r2 I (cd 281) O_ Od rX x) (dI (cd 282))) ⟨aZ,hr,rX,.inr (.inr (.inl ⟨hf,rfl,hd,ok,J1,.inr (.inr (.inl ⟨rfl,rfl⟩))⟩))⟩
  ·have e:d.step c S=(false,{d with wk:={d.wk with az:=5}},S.store (c.ad 13 d.slot) d.wk.f.w):=by unfold In.step;simp [hs]
   rw [e];have x:=I.iO (r:=13) O_ ok.1 ok.2;exact bt.go (R':=cg R 15 (pk d.slot)) (eF:= []) (I.store (I.eX O_ O_ x) (I.mZ O_ x hw)) (Kp.store S _ _).q (.trans (r2 I (cd 283) O_ Od h3 x) (TR (cd 284) Od ⟨by have:=ok.1;omega,by have:=ok.2;omega⟩)) ⟨aZ,hr,rX,.inr (.inr (.inl ⟨hf,rfl,hd.kp fun i hi=>oV _ _ O_,ok,J1,.inr (.inr (.inr ⟨rfl,rfl,rfl⟩))⟩))⟩
  ·obtain⟨aP,lP,sP⟩:=I.pa hp
   have e1:=r3a (X:=X) (bk:= []) (nm:=nm) (pd:=pd) (j:=15) I (cd 285) h2 h3 h15 aP aeo;have I1:Inv c th (S.swap d.wk.f.p d.wk.f.w (pk d.slot)):=I.swap aP fun _=>sP _ (.pk I (by have:=ok.1;omega) ok.2)
   have K1:=Kp.swap S d.wk.f.p d.wk.f.w (pk d.slot)
   by_cases h:S.w d.wk.f.p=d.wk.f.w
   ·rw [aY h] at e1
    have e:d.step c S=(false,{d with wk:={d.wk with cj:=5,lv:=0,az:=11}},((S.swap d.wk.f.p d.wk.f.w (pk d.slot)).aB S.now).shift d.slot 3):=by unfold In.step;simp [hs,h,In.lift,Wk.jk]
    rw [e];have I2:=(I1.aB S.now).shift d.slot 3;have K2:=(K1.trans (Kp.aB _ S.now)).trans (Kp.shift _ d.slot 3);obtain⟨f1,f2⟩:=gW (c:=c) (th:=th) (v:=true) (X:=X) (S:=((S.swap d.wk.f.p d.wk.f.w (pk d.slot)).aB S.now).shift d.slot 3) (R:=R) (bk:= [289]) (nm:=nm) (pd:=pd) hr;exact bt.go I2 K2.q (.trans e1<| .trans (FI (cd 286))<| .trans (Ch (I1.aB S.now) (cd 287) Od ok)<| .trans (mE (cd 288) xK (r:=289) rfl) f1) ⟨aZ,hr,rX,.inr (.inr (.inr (.inr ⟨rfl,f2,.inl ⟨hf,.inr ⟨rfl,rfl⟩⟩⟩)))⟩
   ·rw [aK h] at e1
    have e:d.step c S=(false,{d with wk:={d.wk with f:=Fi.new d.wk.f.root d.wk.f.key,az:=0}},S.swap d.wk.f.p d.wk.f.w (pk d.slot)):=by unfold In.step;simp [hs,h,In.lift,Wk.anew]
    rw [e];obtain⟨f1,f2⟩:=l8 (c:=c) (th:=th) (v:=true) (S:=S.swap d.wk.f.p d.wk.f.w (pk d.slot)) (X:=X) (R:=R) (nm:=nm) (pd:=pd) (bk:= [265]) hr hc.r0 hc.r1 hc.pr hc.ky;exact bt.go I1 K1.q (.trans e1<| .trans (dI (cd 263))<| .trans (mE (cd 264) qQ (r:=265) rfl) f1) ⟨aZ,hr,rX,.inl ⟨rfl,hf,J1,.inr ok,[],rfl,f2⟩⟩
 ·obtain⟨k',S',R',cG,cE,I',K',hk',⟨cZ,e',hr',oP,hn⟩ | ⟨hr',oP,hn⟩⟩:=(FJ (X:=X) (bs:= [270]) I aZ ha).cases
  ·have e:d.step c S=(false,{d with aU:=some k'},S'):=by unfold In.step;simp [hs,hg,hr']
   rw [e];obtain⟨rfl,oP⟩:=oP;exact bt.go I' K'.q hn ⟨(hk' 47 O_).trans aZ,by rw [K'.rc];exact hr,(hk' 16 O_).trans rX,.inr (.inr (.inr (.inl ⟨hs,hf,rfl,k',rfl,rfl,oP⟩)))⟩
  ·have e:d.step c S=In.lift {d with aU:=some k'} (d.wk.jk 6 S'):=by unfold In.step;simp [hs,hg,hr']
   rw [e];exact bt.behind K'.q (hn [] 270 rfl) (Es (d:={d with aU:=some k'}) I' ((hk' 47 O_).trans aZ) (by rw [K'.rc];exact hr) ((hk' 16 O_).trans rX) hf)
 ·obtain⟨S',hl,I',K',R',hk,⟨h3,cZ,oP,hn⟩ | ⟨h3,hn⟩⟩:=uz (X:=X) (bk:=bk) (nm:=nm) (pd:=pd) I aZ ha
  ·have e:d.step c S=(false,{d with wk:={d.wk with lv:=d.wk.lv+1}},S'):=by unfold In.step Wk.left;simp [hs,hl,h3,In.lift]
   rw [e];refine bt.go I' K'.q hn ⟨(hk 47 O_).trans aZ,by rw [K'.rc];exact hr,(hk 16 O_).trans rX,.inr (.inr (.inr (.inr ⟨hs,oP,?_⟩)))⟩
   rcases hw with hw | ⟨h1,h2,h4⟩
   ·exact .inl hw
   ·exact .inr ⟨h1,(ep wrap64 (hk 19 O_)).trans h2,h4⟩
  ·rcases hw with ⟨hf,⟨h1,h2⟩ | ⟨h1,h2⟩⟩ | ⟨hf,h19,h1,h2⟩
   ·have e:d.step c S=(true,{d with wk:={d.wk with lv:=d.wk.lv+1}},S'.tell 6 0):=by unfold In.step Wk.left;simp [hs,hl,h3,hf,In.lift,h1]
    rw [e];exact bt.done (I'.tell 6 0) (K'.q.trans (.tell _ 6 0)) (.trans (hn [] 272 h2) (mL (S:=S'.tell 6 0) (I'.tell 6 0) (cd 272) (I'.cy 6 0)))
   ·have e:d.step c S=(true,{d with wk:={d.wk with lv:=d.wk.lv+1}},S'.tell 5 0):=by unfold In.step Wk.left;simp [hs,hl,h3,hf,In.lift,h1]
    rw [e];exact bt.done (I'.tell 5 0) (K'.q.trans (.tell _ 5 0)) (.trans (hn [] 289 h2) (mL (S:=S'.tell 5 0) (I'.tell 5 0) (cd 289) (I'.cy 5 0)))
   ·have e:d.step c S=(true,{d with wk:={d.wk with lv:=d.wk.lv+1}},(S'.aB d.wk.full).tell 4 0):=by unfold In.step Wk.left;simp [hs,hl,h3,hf,In.lift,h1]
    rw [e];have I2:=I'.aB d.wk.full;exact bt.done (I2.tell 4 0) ((K'.trans (Kp.aB _ _)).q.trans (.tell _ 4 0)) (.trans (hn [] 293 h2)<| .trans (Rk (cd 293) ((ep wrap64 (hk 19 O_)).trans h19)) (mL (S:=(S'.aB d.wk.full).tell 4 0) (I2.tell 4 0) (cd 294) (I2.cy 4 0)))
def oR(c:Cf)(t:Tb)(S:PM)(pc:Nat)(R:Nat→Int)(bk nm pd:List Int):Prop:=R 47=0∧0≤S.rc∧
 ((t.az=0∧t.f.root=t.root∧t.f.key=t.key∧∃ e,bk= [if t.take then 359 else 345]++e∧jO c t.f S pc R e nm pd)∨
  (bk= []∧Fs c t.f R∧t.slot=t.f.cur∧t.f.root=t.root∧t.f.key=t.key∧((t.take=true∧t.az=1∧pc=361∧R 19=kZ (lk t.f.x))∨(t.take=false∧t.az=2∧pc=347)∨(t.take=true∧t.az=2∧pc=363)∨(t.take=true∧t.az=3∧pc=364∧S.cj=(2,wrap64 (R 18)))))∨
  (t.az=4∧t.take=true∧S.cj=(2,wrap64 (R 18))∧∃ r e,t.ret=some r∧bk= [368]++e∧mu c r S pc R e nm pd)∨
  (t.az=5∧t.take=true∧S.cj=(2,wrap64 (R 18))∧∃ e,bk= [373]++e∧jO c t.f S pc R e nm pd)∨
  (t.az=6∧yl c t.lv S pc R∧((S.cj=(2,wrap64 (R 18))∧bk= [if t.take then 370 else 349])∨(S.cj=(6,0)∧bk= [if t.take then 377 else 352]))))
variable{t:Tb}
theorem G6{k:Int}{b:Bool}(I:Inv c th S)(aZ:R 47=0)(hr:0≤S.rc)(hv:S.arg=k)(hk:-9223372036854775808≤k∧k<9223372036854775808)(ht:t.root=c.ad 7 (u64 k % c.B))(tC:t.key=k)(hb:t.take=b):
  bt c th X false false S (if b then 353 else 340) R [] nm pd (t.find 0 S) (oR c):=by
 have e1:Rn c th (St false S X (if b then 353 else 340) R [] nm pd) (St false S X 182 (cg (cg (cg R 1 (u64 k)) 0 (u64 k % c.B)) 0 (u64 (c.ad 7 (u64 k % c.B)))) [if b then 359 else 345] nm pd):=by
  cases b
  ·exact .trans (dI (cd 340))<| .trans (JV I (cd 341) hv)<| .trans (r47 (u:=u64 k) (cd 342) rfl)<| .trans (KN (u:=u64 k % c.B) (cd 343) rfl (DQ k)) (mE (cd 344) qQ (r:=345) rfl)
  ·exact .trans (dI (cd 353))<| .trans (JV I (cd 354) hv)<| .trans (r47 (u:=u64 k) (cd 355) rfl)<| .trans (KN (u:=u64 k % c.B) (cd 356) rfl (DQ k))<| .trans (dI (cd 357)) (mE (cd 358) qQ (r:=359) rfl)
 obtain⟨e2,ha⟩:=l8 (c:=c) (th:=th) (v:=false) (S:=S) (X:=X) (R:=cg (cg (cg R 1 (u64 k)) 0 (u64 k % c.B)) 0 (u64 (c.ad 7 (u64 k % c.B)))) (nm:=nm) (pd:=pd) (bk:= [if b then 359 else 345]) (root:=c.ad 7 (u64 k % c.B)) (key:=k) hr (K9 I (I.WT _)) rfl (I.WT _) hk;unfold Tb.find;rw [ht,tC];exact bt.go I (.rfl' S) (e1.trans e2) ⟨aZ,hr,.inl ⟨rfl,rfl,rfl,[],by rw [←hb];rfl,ha⟩⟩
theorem zQ(I:Inv c th S)(aZ:R 47=0)(hr:0≤S.rc)(ht:t.take=true)(hs:S.cj=(2,wrap64 (R 18))):bt c th X true true S 368 R [] nm pd (t.out S) (oR c):=by
 obtain⟨f1,f2⟩:=gW (c:=c) (th:=th) (v:=true) (X:=X) (S:=S) (R:=R) (bk:= [370]) (nm:=nm) (pd:=pd) hr;exact bt.go I (.rfl' S) (.trans (dI (cd 368))<| .trans (mE (cd 369) xK (r:=370) rfl) f1) ⟨aZ,hr,.inr (.inr (.inr (.inr ⟨rfl,f2,.inl ⟨hs,by show [370]= [if t.take=true then 370 else 349];rw [ht];rfl⟩⟩)))⟩
theorem G7(I:Inv c th S)(aZ:R 47=0)(hr:0≤S.rc)(h1:t.f.root=t.root)(h2:t.f.key=t.key)(ha:AZ c t.f R):bt c th X true true S (if t.take then 359 else 345) R [] nm pd (t.found S) (oR c):=by
 have h6:=ha.2.1;have h7:=ha.2.2.1;have I1:=I.aB t.f.pt;have K1:=Kp.aB S t.f.pt;have eO:0≤(S.aB t.f.pt).rc:=hr
 cases hc:t.f.found with
 | true=>
  rw [hc,aY rfl] at h6;have fs:=ha.fs hc
  cases ht:t.take with
  | true=>
   have e:t.found S=(false,{t with slot:=t.f.cur,az:=1},S):=by unfold Tb.found;simp [hc,ht]
   rw [e];exact bt.go (R':=cg R 19 (kZ (lk t.f.x))) (eF:= []) I (.rfl' S) (.trans (lz (cd 359) (by rw [h6,aZ];decide)) (r20 (cd 360) fs.2.2.2.2.1)) ⟨aZ,hr,.inr (.inl ⟨rfl,fs.kp fun i hi=>oV _ _ O_,rfl,h1,h2,.inl ⟨ht,rfl,rfl,rfl⟩⟩)⟩
  | false=>
   have e:t.found S=(false,{t with slot:=t.f.cur,az:=2},S.aB t.f.pt):=by unfold Tb.found;simp [hc,ht]
   rw [e];exact bt.go (eF:= []) I1 K1.q (.trans (Rk (cd 345) h7) (lz (cd 346) (by rw [h6,aZ];decide))) ⟨aZ,eO,.inr (.inl ⟨rfl,fs,rfl,h1,h2,.inr (.inl ⟨ht,rfl,rfl⟩)⟩)⟩
 | false=>
  rw [hc,aK S_] at h6;have e:t.found S=(false,{t with slot:=t.f.cur,lv:=0,az:=6},(S.aB t.f.pt).tell 6 0):=by unfold Tb.found;simp [hc,Tb.out]
  rw [e]
  cases ht:t.take with
  | true=>
   obtain⟨f1,f2⟩:=gW (c:=c) (th:=th) (v:=true) (X:=X) (S:=(S.aB t.f.pt).tell 6 0) (R:=R) (bk:= [377]) (nm:=nm) (pd:=pd) hr;exact bt.go (I1.tell 6 0) (K1.q.trans (.tell _ 6 0)) (.trans (lV (cd 359) (by rw [h6,aZ]) ad7)<| .trans (dI (cd 374))<| .trans (Rk (cd 375) h7)<| .trans (mE (cd 376) xK (r:=377) rfl) f1) ⟨aZ,hr,.inr (.inr (.inr (.inr ⟨rfl,f2,.inr ⟨I1.cy 6 0,rfl⟩⟩)))⟩
  | false=>
   obtain⟨f1,f2⟩:=gW (c:=c) (th:=th) (v:=true) (X:=X) (S:=(S.aB t.f.pt).tell 6 0) (R:=R) (bk:= [352]) (nm:=nm) (pd:=pd) hr;exact bt.go (I1.tell 6 0) (K1.q.trans (.tell _ 6 0)) (.trans (Rk (cd 345) h7)<| .trans (lV (cd 346) (by rw [h6,aZ]) aed)<| .trans (dI (cd 350))<| .trans (mE (cd 351) xK (r:=352) rfl) f1) ⟨aZ,hr,.inr (.inr (.inr (.inr ⟨rfl,f2,.inr ⟨I1.cy 6 0,rfl⟩⟩)))⟩
theorem G8(I:Inv c th S)(aZ:R 47=0)(hr:0≤S.rc)(ht:t.take=true)(hc:QZ c t.f R)(h1:t.f.root=t.root)(h2:t.f.key=t.key):bt c th X true true S 357 R [] nm pd (t.find 0 S) (oR c):=by
 obtain⟨f1,f2⟩:=l8 (c:=c) (th:=th) (v:=true) (S:=S) (X:=X) (R:=R) (nm:=nm) (pd:=pd) (bk:= [359]) hr hc.r0 hc.r1 hc.pr hc.ky;unfold Tb.find;rw [←h1,←h2];exact bt.go I (.rfl' S) (.trans (dI (cd 357))<| .trans (mE (cd 358) qQ (r:=359) rfl) f1) ⟨aZ,hr,.inl ⟨rfl,rfl,rfl,[],by show [359]= [if t.take=true then 359 else 345]++ [];rw [ht];rfl,f2⟩⟩
theorem Kw(I:Inv c th S)(ha:oR c t S pc R bk nm pd):bt c th X false true S pc R bk nm pd (t.step c S) (oR c):=by
 obtain⟨aZ,hr,ha⟩:=ha;have hb:=I.bd
 rcases ha with ⟨hs,eO,vI,e,rfl,ha⟩ | ⟨rfl,hd,mG,eO,vI,ha⟩ | ⟨hs,ht,Ez,r,e,hp,rfl,ha⟩ | ⟨hs,ht,Ez,e,rfl,ha⟩ | ⟨hs,ha,hw⟩
 ·obtain⟨k,S',R',cG,cE,I',K',hk,⟨cZ,e',hr',oP,hn⟩ | ⟨hr',oP,hn⟩⟩:=kR (X:=X) (bs:= [if t.take then 359 else 345]) I aZ ha
  ·have e:t.step c S=(false,{t with f:=k},S'):=by unfold Tb.step;simp [hs,hr']
   rw [e];have hkk:k.root=t.f.root∧k.key=t.f.key:=abu;exact bt.go I' K'.q hn ⟨(hk 47 O_).trans aZ,by rw [K'.rc];exact hr,.inl ⟨hs,hkk.1.trans eO,hkk.2.trans vI,e',rfl,oP⟩⟩
  ·have e:t.step c S=Tb.found {t with f:=k} S':=by unfold Tb.step;simp [hs,hr']
   rw [e];have hkk:k.root=t.f.root∧k.key=t.f.key:=abu;exact bt.behind K'.q (hn [] (if t.take then 359 else 345) (by cases t.take<;>rfl)) (G7 (t:={t with f:=k}) I' ((hk 47 O_).trans aZ) (by rw [K'.rc];exact hr) (hkk.1.trans eO) (hkk.2.trans vI) oP)
 ·obtain⟨⟨hc,h2,hp,h3,hw⟩,h4,c0,c1,h5,hx⟩:=id hd
  have xL:=I.iO (r:=13) O_ c0 c1;have xD:=I.iO (r:=12) O_ c0 c1;have w4:=wr h4 O_ O_
  rcases ha with ⟨ht,hs,rfl,h19⟩ | ⟨ht,hs,rfl⟩ | ⟨ht,hs,rfl⟩ | ⟨ht,hs,rfl,Ez⟩
  ·have e1:=r3 (X:=X) (bk:= []) (nm:=nm) (pd:=pd) (j:=19) I (cd 361) O_ w4 h5 h19 xL aec
   have I1:Inv c th (S.swap (c.ad 13 t.f.cur) t.f.x (kZ (lk t.f.x))):=I.swap (I.eX O_ O_ xL) fun _=>I.mZ O_ xL (Al I hx)
   have K1:=Kp.swap S (c.ad 13 t.f.cur) t.f.x (kZ (lk t.f.x))
   by_cases h:S.w (c.ad 13 t.f.cur)=t.f.x
   ·rw [aY h] at e1
    have e:t.step c S=(false,{t with az:=2},(S.swap (c.ad 13 t.f.cur) t.f.x (kZ (lk t.f.x))).aB S.now):=by unfold Tb.step;simp [hs,mG,h]
    rw [e];exact bt.go (eF:= []) (I1.aB S.now) (K1.trans (Kp.aB _ _)).q (e1.trans (FI (cd 362))) ⟨aZ,hr,.inr (.inl ⟨rfl,hd,mG,eO,vI,.inr (.inr (.inl ⟨ht,rfl,rfl⟩))⟩)⟩
   ·rw [aK h] at e1
    have e:t.step c S=t.find 0 (S.swap (c.ad 13 t.f.cur) t.f.x (kZ (lk t.f.x))):=by unfold Tb.step;simp [hs,mG,h]
    rw [e];exact bt.behind K1.q e1 (G8 I1 aZ hr ht hc eO vI)
  ·have e:t.step c S=(false,{t with lv:=0,az:=6},(S.load (c.ad 12 t.f.cur)).tell 2 (wrap64 (S.w (c.ad 12 t.f.cur)))):=by unfold Tb.step;simp [hs,mG,ht,Tb.out]
   rw [e];obtain⟨f1,f2⟩:=gW (c:=c) (th:=th) (v:=true) (X:=X) (S:=(S.load (c.ad 12 t.f.cur)).tell 2 (wrap64 (S.w (c.ad 12 t.f.cur)))) (R:=cg R 18 (S.w (c.ad 12 t.f.cur))) (bk:= [349]) (nm:=nm) (pd:=pd) hr;exact bt.go ((I.load _).tell 2 _) ((Kp.load S _).q.trans (.tell _ 2 _)) (.trans (r1 I (cd 347) O_ w4 xD)<| .trans (mE (cd 348) xK (r:=349) rfl) f1) ⟨aZ,hr,.inr (.inr (.inr (.inr ⟨rfl,f2,.inl ⟨(I.load _).cy 2 _,by show [349]= [if t.take=true then 370 else 349];rw [ht];rfl⟩⟩)))⟩
  ·have e:t.step c S=(false,{t with az:=3},(S.load (c.ad 12 t.f.cur)).tell 2 (wrap64 (S.w (c.ad 12 t.f.cur)))):=by unfold Tb.step;simp [hs,mG,ht]
   rw [e];exact bt.go (R':=cg R 18 (S.w (c.ad 12 t.f.cur))) (eF:= []) ((I.load _).tell 2 _) ((Kp.load S _).q.trans (.tell _ 2 _)) (r1 I (cd 363) O_ w4 xD) ⟨aZ,hr,.inr (.inl ⟨rfl,hd.kp fun i hi=>oV _ _ O_,mG,eO,vI,.inr (.inr (.inr ⟨ht,rfl,rfl,(I.load _).cy 2 _⟩))⟩)⟩
  ·obtain⟨aP,lP,sP⟩:=I.pa hp
   have e1:=r3a (X:=X) (bk:= []) (nm:=nm) (pd:=pd) (j:=5) I (cd 364) h2 h3 h5 aP aea;have I1:Inv c th (S.swap t.f.p t.f.w t.f.x):=I.swap aP fun _=>sP _ hx
   have K1:=Kp.swap S t.f.p t.f.w t.f.x
   by_cases h:S.w t.f.p=t.f.w
   ·rw [aY h] at e1
    have e2:=e1.trans<| .trans (Ch I1 (cd 365) w4 ⟨c0,c1⟩)<| .trans (wY (cd 366) h4) (mE (cd 367) WV (r:=368) rfl)
    have K2:=K1.trans (Kp.shift _ t.f.cur 4);have iF:0≤((S.swap t.f.p t.f.w t.f.x).shift t.f.cur 4).rc:=hr;obtain⟨k,S',R',cG,cE,I',K',hk',⟨cZ,e',hr',ha,hn⟩ | ⟨hr',ha,hn⟩⟩:=(ki (X:=X) (v:=true) (R:=cg R 20 (u64 t.f.cur)) (bs:= [368]) (nm:=nm) (pd:=pd) (I1.shift t.f.cur 4) iF c0 c1 rfl).cases
    ·have e:t.step c S=(false,{t with ret:=some k,az:=4},S'):=by unfold Tb.step;simp [hs,mG,h,hr']
     rw [e];have AD:R' 18=R 18:=hk' 18 O_;exact bt.go I' (K2.trans K').q (e2.trans hn) ⟨(hk' 47 O_).trans aZ,by rw [K'.rc];exact iF,.inr (.inr (.inl ⟨rfl,ht,by rw [K'.cj,AD];exact Ez,k,e',rfl,rfl,ha⟩))⟩
    ·have e:t.step c S=Tb.out {t with ret:=some k,az:=4} S':=by unfold Tb.step;simp [hs,mG,h,hr']
     rw [e];have AD:R' 18=R 18:=hk' 18 O_;exact bt.behind (K2.trans K').q (e2.trans (hn [] 368 rfl)) (zQ (t:={t with ret:=some k,az:=4}) I' ((hk' 47 O_).trans aZ) (by rw [K'.rc];exact iF) ht (by rw [K'.cj,AD];exact Ez))
   ·rw [aK h] at e1
    have e:t.step c S=t.find 5 (S.swap t.f.p t.f.w t.f.x):=by unfold Tb.step;simp [hs,h]
    rw [e];obtain⟨f1,f2⟩:=l8 (c:=c) (th:=th) (v:=true) (S:=S.swap t.f.p t.f.w t.f.x) (X:=X) (R:=R) (nm:=nm) (pd:=pd) (bk:= [373]) hr hc.r0 hc.r1 hc.pr hc.ky;unfold Tb.find;rw [←eO,←vI];exact bt.go I1 K1.q (.trans e1<| .trans (dI (cd 371))<| .trans (mE (cd 372) qQ (r:=373) rfl) f1) ⟨aZ,hr,.inr (.inr (.inr (.inl ⟨rfl,ht,Ez,[],rfl,f2⟩)))⟩
 ·obtain⟨k,S',R',cG,cE,I',K',hk',⟨cZ,e',hr',ha,hn⟩ | ⟨hr',ha,hn⟩⟩:=(nY (X:=X) (bs:= [368]) I aZ ha).cases
  ·have e:t.step c S=(false,{t with ret:=some k},S'):=by unfold Tb.step;simp [hs,hp,hr']
   rw [e];have AD:R' 18=R 18:=hk' 18 O_;exact bt.go I' K'.q hn ⟨(hk' 47 O_).trans aZ,by rw [K'.rc];exact hr,.inr (.inr (.inl ⟨hs,ht,by rw [K'.cj,AD];exact Ez,k,e',rfl,rfl,ha⟩))⟩
  ·have e:t.step c S=Tb.out {t with ret:=some k} S':=by unfold Tb.step;simp [hs,hp,hr']
   rw [e];have AD:R' 18=R 18:=hk' 18 O_;exact bt.behind K'.q (hn [] 368 rfl) (zQ (t:={t with ret:=some k}) I' ((hk' 47 O_).trans aZ) (by rw [K'.rc];exact hr) ht (by rw [K'.cj,AD];exact Ez))
 ·obtain⟨k,S',R',cG,cE,I',K',hk,⟨cZ,e',hr',ha,hn⟩ | ⟨hr',ha,hn⟩⟩:=kR (X:=X) (bs:= [373]) I aZ ha
  ·have e:t.step c S=(false,{t with f:=k},S'):=by unfold Tb.step;simp [hs,hr']
   rw [e];have AD:R' 18=R 18:=hk 18 O_;exact bt.go I' K'.q hn ⟨(hk 47 O_).trans aZ,by rw [K'.rc];exact hr,.inr (.inr (.inr (.inl ⟨hs,ht,by rw [K'.cj,AD];exact Ez,e',rfl,ha⟩)))⟩
  ·have e:t.step c S=Tb.out {t with f:=k} S':=by unfold Tb.step;simp [hs,hr']
   rw [e];have AD:R' 18=R 18:=hk 18 O_;exact bt.behind K'.q (.trans (hn [] 373 rfl) (tO (cd 373) aeb)) (zQ (t:={t with f:=k}) I' ((hk 47 O_).trans aZ) (by rw [K'.rc];exact hr) ht (by rw [K'.cj,AD];exact Ez))
 ·obtain⟨S',hl,I',K',R',hk,⟨h3,cZ,oP,hn⟩ | ⟨h3,hn⟩⟩:=uz (X:=X) (bk:=bk) (nm:=nm) (pd:=pd) I aZ ha
  ·have e:t.step c S=(false,{t with lv:=t.lv+1},S'):=by unfold Tb.step;simp [hs,hl,h3]
   rw [e];have AD:R' 18=R 18:=hk 18 O_;refine bt.go I' K'.q hn ⟨(hk 47 O_).trans aZ,by rw [K'.rc];exact hr,.inr (.inr (.inr (.inr ⟨hs,oP,?_⟩)))⟩
   rcases hw with ⟨h1,h2⟩ | ⟨h1,h2⟩
   ·exact .inl ⟨by rw [K'.cj,AD];exact h1,h2⟩
   ·exact .inr ⟨K'.cj.trans h1,h2⟩
  ·have e:t.step c S=(true,{t with lv:=t.lv+1},S'):=by unfold Tb.step;simp [hs,hl,h3]
   rw [e];have AD:R' 18=R 18:=hk 18 O_
   rcases hw with ⟨h1,h2⟩ | ⟨h1,h2⟩
   ·cases ht:t.take with
    | true=>
     rw [ht] at h2;exact bt.done I' K'.q (.trans (hn [] 370 h2) (mL I' (cd 370) (by rw [K'.cj,h1,aY rfl,AD])))
    | false=>
     rw [ht] at h2;exact bt.done I' K'.q (.trans (hn [] 349 h2) (mL I' (cd 349) (by rw [K'.cj,h1,aY rfl,AD])))
   ·cases ht:t.take with
    | true=>
     rw [ht] at h2;exact bt.done I' K'.q (.trans (hn [] 377 h2) (mL I' (cd 377) (K'.cj.trans h1)))
    | false=>
     rw [ht] at h2;exact bt.done I' K'.q (.trans (hn [] 352 h2) (mL I' (cd 352) (K'.cj.trans h1)))
end
section
variable{P:Program}{ops:Array Oper}{Q:Exit→Act→World→Prop}{md:Region.Mode}{S:World→Prop}{E:Nat}
def ja(P:Program)(md:Region.Mode)(ops:Array Oper)(Q:Exit→Act→World→Prop)(S:World→Prop)(E:Nat):Nat→Array Bool→Act→World→Prop
 | 0,listed,a,w=>Region.ready md ops listed= []∧Q .normal a w
 | fuel+1,listed,a,w=>
  (Region.ready md ops listed= []→Q .normal a w)∧
  ∀ i∈Region.ready md ops listed,wpOp P ops Q i (fun a' w'=>(i≠E→S w')∧ja P md ops Q S E fuel (listed.setIfInBounds i true) a' w') a w
theorem uJ:∀ (fuel:Nat) (listed:Array Bool) (a:Act) (w:World),ja P md ops Q S E fuel listed a w→wpAny P md ops Q fuel listed a w
 | 0,_,_,_,h=>h
 | fuel+1,_,_,_,h=>⟨h.1,fun i hi=>wpOp_mono (fun a' w' h'=>uJ fuel _ a' w' h'.2) (h.2 i hi)⟩
def uk(md:Region.Mode)(ops:Array Oper)(E i:Nat):Bool:=match ops[E]? with
 | some o=>o.after.any fun e=>Region.binds md e && e.on==i
 | none=>false
theorem zJ{i:Nat}{oi:Oper}{v:Value}(hi:ops[i]?=some oi)(hsel:∀ (j:Nat) (o:Oper) cs b,ops[j]?=some o→o.op≠.select cs b)
  (hQ:∀ c a w,Q (.panic c) (a.put oi.dst v) w→Q (.panic c) a w) (hE:uk md ops E i=true) (hEi:i≠E):
  ∀ (fuel:Nat) (listed:Array Bool) (a:Act) (w:World),(∀ j oj,ops[j]?=some oj→j≠i→listed.getD j true=false→(∀ e∈oj.after,Region.binds md e=true→e.on≠i)→oi.apart ops oj=true)→
   i∈Region.ready md ops listed→YieldsIf P ops S oi v a→S w→
   ja P md ops Q S E fuel (listed.setIfInBounds i true) (a.put oi.dst v) w→ja P md ops Q S E (fuel+1) listed a w:=by
 intro fuel
 induction fuel with
 | zero=>
  intro listed a w _ hr hy hS H;refine⟨fun h=>(by rw [h] at hr;cases hr),fun j hj=>?_⟩
  by_cases hji:j=i
  ·subst hji;exact hy.wpOp hi hS ⟨fun _=>hS,H⟩
  ·have:=ready_mono hj hji
   rw [H.1] at this
   cases this
 | succ fuel ih=>
  intro listed a w hfree hr hy hS H;refine⟨fun h=>(by rw [h] at hr;cases hr),fun j hj=>?_⟩
  by_cases hji:j=i
  ·subst hji;exact hy.wpOp hi hS ⟨fun _=>hS,H⟩
  ·have h1:=H.2 j (ready_mono hj hji)
   obtain⟨L4,oj,hoj,hall⟩:=mem_ready.1 hj
   have hnot:∀ e∈oj.after,Region.binds md e=true→e.on≠i:=fun e he hb heq=>by
    have h1:=hall e he hb;have h0:=(mem_ready.1 hr).1;rw [heq] at h1
    rcases Nat.lt_or_ge i listed.size with h' | h'
    ·simp [h'] at h0 h1;rw [h0] at h1;cases h1
    ·simp [Array.getElem?_eq_none h'] at h1
   have hjE:j≠E:=by
    rintro rfl;unfold uk at hE;rw [hoj] at hE;simp only [Array.any_eq_true] at hE;obtain⟨q,hq,hb⟩:=hE;simp only [wT,beq_iff_eq] at hb;exact hnot _ (Array.getElem_mem hq) hb.1 hb.2
   have h1':=wpOp_mono (fun a' w' h=>(⟨h.1 hjE,h.2⟩:S w'∧ja P md ops Q S E fuel ((listed.setIfInBounds i true).setIfInBounds j true) a' w')) h1;have h2:=wpOp_putIf hoj (hfree j oj hoj hji L4 hnot) (fun cs b=>hsel i oi cs b hi) (fun cs b=>hsel j oj cs b hoj) hQ hy h1'
   have Vl:∀ k ok,ops[k]?=some ok→k≠i→(listed.setIfInBounds j true).getD k true=false→
     (∀ e∈ok.after,Region.binds md e=true→e.on≠i)→oi.apart ops ok=true:=fun k ok hk hki hun hno=>by
    refine hfree k ok hk hki ?_ hno
    by_cases Xa:j=k
    ·subst Xa;exact L4
    ·rw [getD_set_ne true Xa] at hun;exact hun
   refine wpOp_mono (fun a' w' h3=>⟨fun _=>h3.2.1,ih (listed.setIfInBounds j true) a' w' Vl (ready_mono hr (iS hji)) h3.1 h3.2.1 ?_⟩) h2;rw [Array.setIfInBounds_comm _ _ hji];exact h3.2.2
theorem BF(i:Nat){oi:Oper}{v:Value}{fuel:Nat}{listed:Array Bool}{a:Act}{w:World}(hi:ops[i]?=some oi)
  (hs:(Region.noSelect ops && (Region.free md ops listed i && ((Region.ready md ops listed).contains i && (uk md ops E i && decide (i≠E)))))=true)
  (hQ:∀ c a w,Q (.panic c) (a.put oi.dst v) w→Q (.panic c) a w) (hy:YieldsIf P ops S oi v a) (hS:S w)
  (h:ja P md ops Q S E fuel (listed.setIfInBounds i true) (a.put oi.dst v) w):ja P md ops Q S E (fuel+1) listed a w:=by
 simp only [wT,decide_eq_true_eq] at hs;obtain⟨h1,h2,h3,h4,h5⟩:=hs;exact zJ hi (Region.noSelect_spec h1) hQ h4 h5 fuel listed a w (Region.free_spec hi h2) (by simpa using h3) hy hS h
theorem qI(i:Nat){oi:Oper}{v:Value}{fuel:Nat}{listed:Array Bool}{a:Act}{w:World}(h:ja P md ops Q S E fuel (listed.setIfInBounds i true) (a.put oi.dst v) w)(hi:ops[i]?=some oi:=by rfl)(hs:(Region.noSelect ops && (Region.free md ops listed i && ((Region.ready md ops listed).contains i && (uk md ops E i && decide (i≠E)))))=true:=by kernel_rfl)
  (hQ:∀ c a w,Q (.panic c) (a.put oi.dst v) w→Q (.panic c) a w:=by exact fun _ _ _ h=>h) (hy:YieldsIf P ops S oi v a:=by(refine Or.inl ⟨by rfl,?_⟩;intro w hSw;(try dsimp only at hSw);go_simp;try with_reducible rfl)) (hS:S w:=by assumption):ja P md ops Q S E (fuel+1) listed a w:=
 BF i hi hs hQ hy hS h
theorem lS(i:Nat){o:Oper}{fuel:Nat}{listed:Array Bool}{a:Act}{w:World}(ho:ops[i]?=some o)(hr:Region.ready md ops listed= [i])
  (h:∀ K':Act→World→Prop,Shut (∀ a w,(i≠E→S w)→ja P md ops Q S E fuel (listed.setIfInBounds i true) a w→K' a w)→if Region.wanted o (yielded ops a.tmps)=true then Oper.wp P o a w K' Q else K' (a.put o.dst undef) w):
  ja P md ops Q S E (fuel+1) listed a w:=by
 refine⟨fun h0=>(by rw [hr] at h0;cases h0),fun j hj=>?_⟩;rw [hr] at hj;have:j=i:=by simpa using hj
 subst this;exact wpOp_step ho fun K' hK=>h K' fun a w hS hW=>hK a w ⟨hS,hW⟩
theorem BG{listed:Array Bool}{a:Act}{w:World}(hr:Region.ready md ops listed= [])(h:Q .normal a w):∀ fuel,ja P md ops Q S E fuel listed a w
 | 0=>⟨hr,h⟩
 | _+1=>⟨fun _=>h,by rw [hr];simp⟩
theorem BE{id:Nat}{a:Act}{w:World}(S:World→Prop)(E:Nat)(hm:P.follows .mixedOrders=true)
  (h:ja P .any ops Q S E ops.size (Array.replicate ops.size false) a w.drew):(Code.region id ops true).wp P Q a w:=
 wp_region_any hm (uJ _ _ _ _ h)
end
section
variable{K:Ky}{c:Cf}{S:PM}{ss:List Sv}{w0 w w':World}{F H:List En}{d b n k kt kf kl th:Nat}{t:TypeId}{cs tl:List Value}{tv rv lp a0 a1:Value}{f:Fi}{st fu:Int}
@[reducible] def An(K:Ky)(k:Nat)(th kk:Int):En:=ob k 352 [.pointer (some ⟨K.bH,0,none⟩),.int .i64 th,.int .i64 kk]
@[reducible] def ni(k:Nat)(t:TypeId)(fp lp:Value)(st:Int)(a0 a1:Value)(fu:Int)(tl:List Value):En:=ob k t (fp::lp::.int .i64 st::a0::a1::.int .i64 fu::tl)
def DnP(r:Bool×Fi×PM):Prop:=r.1=true→r.2.1.done=true∧r.2.1.pc=0
theorem oE{x:Fi}{S:PM}:DnP (false,x,S):=fun h=>by cases h
theorem vY{f:Fi}{b:Bool}{x:Int}{S:PM}:DnP (f.fin b x S):=fun _=>⟨rfl,rfl⟩
theorem MY{f:Fi}{S:PM}:DnP (f.out S):=by
 unfold Fi.out
 by_cases h:lk (bare f.x)<0
 ·simp only [h,dL];exact vY
 ·simp only [h,eu];exact oE
theorem Qd(f:Fi)(c:Cf)(S:PM)(hx:(1≤f.pc∧f.pc≤12)∨f.ret≠none):DnP (f.step c S):=by
 unfold Fi.step
 by_cases h1:f.pc=1
 ·rw [aY h1]
  by_cases h:lk (S.w f.root)<0
  ·simp only [h,dL];exact vY
  ·simp only [h,eu];exact oE
 rw [aK h1]
 by_cases h2:f.pc=2
 ·rw [aY h2];exact oE
 rw [aK h2]
 by_cases h3:f.pc=3
 ·rw [aY h3];exact oE
 rw [aK h3]
 by_cases h4:f.pc=4
 ·rw [aY h4];exact oE
 rw [aK h4]
 by_cases h5:f.pc=5
 ·rw [aY h5];exact oE
 rw [aK h5]
 by_cases h6:f.pc=6
 ·rw [aY h6];exact oE
 rw [aK h6]
 by_cases h7:f.pc=7
 ·rw [aY h7];exact oE
 rw [aK h7]
 by_cases h8:f.pc=8
 ·rw [aY h8]
  unfold Fi.decide
  by_cases q1:S.w f.p≠f.w
  ·rw [aY q1];exact oE
  rw [aK q1]
  by_cases q2:Bn f.x
  ·rw [aY q2];exact oE
  rw [aK q2]
  by_cases q3:f.k=f.key
  ·rw [aY q3];exact vY
  rw [aK q3]
  by_cases q4:f.key<f.k
  ·rw [aY q4];exact vY
  rw [aK q4]
  by_cases q5:lk f.x<0
  ·rw [aY q5];exact vY
  ·rw [aK q5];exact oE
 rw [aK h8]
 by_cases h9:f.pc=9
 ·rw [aY h9];exact oE
 rw [aK h9]
 by_cases gI:f.pc=10∨f.pc=12
 ·rw [aY gI];exact oE
 rw [aK gI]
 by_cases lQ:f.pc=11
 ·rw [aY lQ]
  by_cases q:S.w f.p=f.w
  ·rw [aY q]
   rcases(Rt.new f.cur).ready c ((S.swap f.p f.w (bare f.x)).shift f.cur 4) with ⟨_ | _,r,S'⟩
   ·exact oE
   ·exact MY
  ·rw [aK q];exact oE
 rw [aK lQ]
 rcases hr:f.ret with _ | r
 ·rcases hx with hx | hx
  ·omega
  ·exact absurd hr hx
 ·simp only
  rcases r.step c S with ⟨_ | _,r,S'⟩
  ·exact oE
  ·exact MY
theorem Rf(ok:bY c.T c.R c.H c.Re c.Ca c.S c.B)(w:World):cm 67 #[fI c] w (.tuple #[.int .i64 (b7 c.R c.H c.S c.B 13),.int .i64 0]) fun w'=>Ext w w':=by
 have h:=BR c.T c.R c.H c.Re c.Ca c.S c.B w;rw [aY ok] at h;exact h
theorem yS(h:aq K c S ss w0 w F)(hl:S.th<S.held.length)(hr:0≤S.rc):
  Calls prog 283 #[.pointer (some ⟨K.bH,0,none⟩),.int .i64 S.th] w fun e w'=>∃ k,e=.returned (.pointer (some ⟨k,0,none⟩))∧w.heap.size≤k∧aq K c S ss w0 w' (An K k S.th 0::F):=by
 have h1:=h.alloc #[.pointer (some ⟨K.bH,0,none⟩),.int .i64 S.th,.int .i64 0] 352;have dZ:=ko h1 hl;have d1:decide (S.rc<0)=false:=dy O_;go_in;go_wp2_with fail;refine un (dZ) fun wz hw=>?_
 obtain rfl:=hw.symm;go_wp2;go_ret;exact⟨_,rfl,bZ _,h1⟩
theorem tq{kk:Int}(h:aq K c S ss w0 w F)(hm:An K k th kk∈F)(h3:kk<3):
  cm 287 #[.pointer (some ⟨k,0,none⟩),.pointer (some ⟨d,0,none⟩)] w (.bool false) fun w'=>w'=w:=by
 have p0:=h.af hm;have d1:decide (3≤kk)=false:=dy O_;go_enter func287,ntmps287;exact iB
theorem pF{kk:Int}(h:aq K c S ss w0 w (An K k S.th kk::F))(hd:dk K.toMk d∈F)(g:Gd n c S ss)(ax:Ax S)(hr:0≤S.rc)(h0:0≤kk)(h3:kk<3):
  cm 284 #[.pointer (some ⟨k,0,none⟩),.pointer (some ⟨d,0,none⟩)] w (.bool (gu c kk S).1) fun w'=>aq K c (gu c kk S).2.2 ss w0 w' (An K k S.th (gu c kk S).2.1::F):=by
 have hH:=g.I.bd.2.2.2.2.1;have a:=qU g hr h0 (i:=kk) O_;have hA:=fun(W:World) (h:aq K c S ss w0 W (An K k S.th kk::F))=>jj h g.I kk hr h0 O_
 have p0:=h.af aj;have hw1:IntKind.i64.wrap (kk+1)=kk+1:=ei O_ O_;have e:gu c kk S=(decide (kk+1=3),kk+1,S.store (S.hz c kk) 0):=rfl;rw [e];clear e;have hq:(kk+1==3)=decide (kk+1=3):=rfl;generalize decide (kk+1=3)=q at hq ⊢;go_enter func284,ntmps284;go_wp2_with fail;refine un (tq h aj h3) fun wz hw=>?_
 obtain rfl:=hw.symm;go_wp2
 go_region_held3 (mR p0) (first | exact p0 | exact bB | exact dN) (first | ((with_reducible refine un (hA _ h.drew) fun dx gx=>?_);have m1:=h.drew.next gx;have bB:=m1.af aj) | ((with_reducible refine un (cx m1 (mT hd) ax a) fun jP m2=>?_);have dN:=m2.af aj))
 have n3:=m2.put 2 (.int .i64 (kk+1));have xb:=n3.af aj;go_wp2;go_ret;exact⟨rfl,n3⟩
theorem CO{root key:Int}(h:aq K c S ss w0 w F)(g:Gd n c S ss)(hr:0≤S.rc)(ha:0≤root∧root<S.words.length):
  Calls prog 129 #[.pointer (some ⟨K.bH,0,none⟩),.int .i64 S.th,.int .i64 root,.int .i64 key] w fun e w'=>∃ k,e=.returned (.pointer (some ⟨k,0,none⟩))∧w.heap.size≤k∧aq K c S ss w0 w' (dG K k S.th (.pointer none) (.new root key)::F):=by
 have h1:=h.alloc #[.pointer (some ⟨K.bH,0,none⟩),.int .i64 S.th,.int .i64 root,.int .i64 key,.int .i64 1,.int .i64 0,.int .u64 0,.int .i64 0,.int .u64 0,.int .i64 0,.int .i64 0,.pointer none,.bool false,.int .i64 0,.bool false] 276;have hl:=g.I.len;have IP:=g.hl;have d1:decide (root<0)=false:=dy O_;have d2:decide (b7 c.R c.H c.S c.B 13≤root)=false:=dy O_;have d3:decide (S.rc<0)=false:=dy O_;have hsz:=fun W=>Rf g.I.ok W
 go_in;go_wp2_with fail;refine un (cL h1) fun wz hw=>?_
 obtain rfl:=hw.symm;go_wp2_with fail;refine un (Gy h1) fun w2 e2=>?_
 have h2:=h1.next e2;go_wp2_with fail;refine un (hsz _) fun w3 e3=>?_
 have h3:=h2.next e3;have p3:=h3.af aj;go_wp2_with fail;refine un (ko h3 IP) fun wz hw=>?_
 exact Sa
theorem gY{x:Int}(h:aq K c S ss w0 w (ni k t (.pointer (some ⟨kf,0,none⟩)) lp st a0 a1 fu tl::dG K kf S.th rv f::F))(hl:S.th<S.held.length)(hr:0≤S.rc):
  cm 274 #[.pointer (some ⟨k,0,none⟩),.int .i64 x] w (.bool false) fun w'=>∃ kl,aq K c S ss w0 w' (ni k t (.pointer (some ⟨kf,0,none⟩)) (.pointer (some ⟨kl,0,none⟩)) 11 (.int .i64 x) (.int .i64 0) fu tl::An K kl S.th 0::F):=by
 have p0:=h.af aj;have n0:=h.put 3 (.int .i64 x);have WQ:=n0.af aj;have n1:=n0.put 4 (.int .i64 0);have gM:=n1.af aj;go_enter func274,ntmps274;go_wp2
 go_region_held3 (fun w'=>w'.cell? ⟨k,0,none⟩=some (.pointer (some ⟨kf,0,none⟩))∧w'.cell? ⟨kf,0,none⟩=some (.pointer (some ⟨K.bH,0,none⟩))∧w'.cell? ⟨kf,1,none⟩=some (.int .i64 S.th)) (first | exact⟨(n1.all aj) 0,(n1.all bp) 0,(n1.all bp) 1⟩ | exact⟨(m2.all bp) 0,(m2.all iU) 0,(m2.all iU) 1⟩ | exact⟨(n2.all aj) 0,(n2.all iU) 0,(n2.all iU) 1⟩) (first | ((with_reducible refine(yS n1.drew hl hr).mono ?_);rintro e jP ⟨LK,rfl,_,m2⟩;have dN:=m2.af bp;have n2:=m2.swap.put 1 (.pointer (some ⟨LK,0,none⟩));have jA:=n2.af aj))
 go_wp2;go_ret;exact⟨rfl,LK,((n2.put 2 _).perm ((mU _ (iC _ _ _)).trans (iC _ _ _))).drop⟩
theorem wI{x:Int}(h:aq K c S ss w0 w (ni k t (.pointer (some ⟨kf,0,none⟩)) lp st a0 a1 fu tl::dG K kf S.th rv f::F))(g:Gd n c S ss)(hr:0≤S.rc)(ha:0≤f.root∧f.root<S.words.length):
  cm 277 #[.pointer (some ⟨k,0,none⟩),.int .i64 x] w (.bool false) fun w'=>∃ kf,aq K c S ss w0 w' (ni k t (.pointer (some ⟨kf,0,none⟩)) lp x a0 a1 fu tl::dG K kf S.th (.pointer none) (.new f.root f.key)::F):=by
 have hS:=(⟨(h.drew.all aj) 0,(h.drew.all bp) 0,(h.drew.all bp) 1,(h.drew.all bp) 2,(h.drew.all bp) 3⟩:(fun w'=>w'.cell? ⟨k,0,none⟩=some (.pointer (some ⟨kf,0,none⟩))∧w'.cell? ⟨kf,0,none⟩=some (.pointer (some ⟨K.bH,0,none⟩))∧w'.cell? ⟨kf,1,none⟩=some (.int .i64 S.th)∧w'.cell? ⟨kf,2,none⟩=some (.int .i64 f.root)∧w'.cell? ⟨kf,3,none⟩=some (.int .i64 f.key)) w.drew);go_enter func277,ntmps277;go_wp2_with fail;refine BE (fun w'=>w'.cell? ⟨k,0,none⟩=some (.pointer (some ⟨kf,0,none⟩))∧w'.cell? ⟨kf,0,none⟩=some (.pointer (some ⟨K.bH,0,none⟩))∧w'.cell? ⟨kf,1,none⟩=some (.int .i64 S.th)∧w'.cell? ⟨kf,2,none⟩=some (.int .i64 f.root)∧w'.cell? ⟨kf,3,none⟩=some (.int .i64 f.key)) 32 K_ ?_;refine qI 0 ?_;refine qI 1 ?_;refine qI 2 ?_;refine qI 3 ?_;refine qI 4 ?_;refine qI 5 ?_;refine qI 6 ?_;refine qI 7 ?_;refine qI 8 ?_;refine qI 9 ?_;refine qI 10 ?_;refine qI 11 ?_;refine qI 12 ?_;refine qI 13 ?_;refine qI 14 ?_;refine qI 15 ?_;refine qI 16 ?_;refine qI 17 ?_;refine qI 18 ?_;refine qI 19 ?_;refine qI 20 ?_;refine qI 21 ?_;refine qI 22 ?_;refine qI 23 ?_;refine qI 24 ?_;refine qI 25 ?_;refine qI 26 ?_;refine qI 27 ?_;refine qI 28 ?_;refine lS 29 rfl K_ (fun Kq cr=>?_);go_simp;refine(CO h.drew g hr ha).mono ?_;rintro e w2 ⟨kf2,rfl,_,m2⟩;have DI:=(⟨(m2.all bp) 0,(m2.all iU) 0,(m2.all iU) 1,(m2.all iU) 2,(m2.all iU) 3⟩:(fun w'=>w'.cell? ⟨k,0,none⟩=some (.pointer (some ⟨kf,0,none⟩))∧w'.cell? ⟨kf,0,none⟩=some (.pointer (some ⟨K.bH,0,none⟩))∧w'.cell? ⟨kf,1,none⟩=some (.int .i64 S.th)∧w'.cell? ⟨kf,2,none⟩=some (.int .i64 f.root)∧w'.cell? ⟨kf,3,none⟩=some (.int .i64 f.key)) w2)
 have p2:=m2.af bp;go_wp2_with fail;refine cr.out _ _ (fun _=>DI) ?_;refine lS 30 rfl K_ (fun Kq cr=>?_);go_simp;refine cr.out _ _ (fun _=>DI) ?_;refine lS 31 rfl K_ (fun Kq cr=>?_);go_simp;refine cr.out _ _ (fun _=>DI) ?_;refine lS 32 rfl K_ (fun Kq cr=>?_);go_simp;refine cr.out _ _ (fun h=>absurd rfl h) ?_;refine BG K_ ?_ _;have n3:=m2.swap.put 0 (.pointer (some ⟨kf2,0,none⟩));have p3:=n3.af aj;clear p2 hS DI;go_wp2;go_ret;exact⟨rfl,kf2,((n3.put 2 _).perm ((mU _ (iC _ _ _)).trans (iC _ _ _))).drop⟩
theorem vC{wk:Wk}(h:aq K c S ss w0 w (ni k t a0 (.pointer (some ⟨kl,0,none⟩)) st (.int .i64 wk.cj) (.int .i64 0) wk.full tl::An K kl S.th wk.lv::F))(hd:dk K.toMk d∈F)(g:Gd n c S ss)(ax:Ax S)(hr:0≤S.rc)(h0:0≤wk.lv)(h3:wk.lv<3):
  cm 278 #[.pointer (some ⟨k,0,none⟩),.pointer (some ⟨d,0,none⟩)] w (.bool (wk.left c S).1) fun w'=>aq K c (wk.left c S).2.2 ss w0 w' (ni k t a0 (.pointer (some ⟨kl,0,none⟩)) st (.int .i64 wk.cj) (.int .i64 0) wk.full tl::An K kl S.th (wk.left c S).2.1.lv::F):=by
 have p0:=h.af aj;have hm:=pF h.swap (mT hd) g ax hr h0 h3;have e:gu c wk.lv S=(decide (wk.lv+1=3),wk.lv+1,S.store (S.hz c wk.lv) 0):=rfl;unfold Wk.left;rw [e] at hm ⊢;clear e;have g2:Gs n c (S.store (S.hz c wk.lv) 0) ss:=g.s.store;generalize S.store (S.hz c wk.lv) 0=S1 at hm g2 ⊢;generalize decide (wk.lv+1=3)=q at hm ⊢;simp only at hm
 cases q
 ·simp only
  go_enter func278,ntmps278;go_wp2_with fail;refine un hm fun w1 m1=>?_
  go_wp2;go_ret;exact⟨rfl,m1.swap⟩
 ·simp only
  by_cases hf:0≤wk.full
  ·rw [aY hf]
   have df:=cM hf;go_enter func278,ntmps278;go_wp2_with fail;refine un hm fun w1 m1=>?_
   have p1:=m1.af bp;go_wp2_with fail;refine un (cX m1.swap (mT (mT hd)) g2) fun w2 m2=>?_
   have p2:=m2.af aj;go_wp2_with fail;refine un (eV m2 (mT (mT hd)) g2.aB) fun w3 m3=>?_
   go_wp2;go_ret;exact⟨rfl,m3⟩
  ·rw [aK hf]
   have df:=dy hf;go_enter func278,ntmps278;go_wp2_with fail;refine un hm fun w1 m1=>?_
   have p1:=m1.af bp;go_wp2_with fail;refine un (eV m1.swap (mT (mT hd)) g2) fun w3 m3=>?_
   go_wp2;go_ret;exact⟨rfl,m3⟩
theorem fC(h:aq K c S ss w0 w F)(hm:dG K kf th rv f∈F)(hdn:f.done=true):
  cm 273 #[.pointer (some ⟨kf,0,none⟩)] w (.tuple #[.bool f.found,.int .i64 f.cur,.int .i64 f.pt]) fun w'=>Ext w w':=by
 have p0:=h.af hm;rw [hdn] at p0;clear hdn hm;go_enter func273,ntmps273;go_wp2
 go_region_held3 (fun w'=>w'.cell? ⟨kf,12,none⟩=some (.bool f.found)∧w'.cell? ⟨kf,7,none⟩=some (.int .i64 f.cur)∧w'.cell? ⟨kf,13,none⟩=some (.int .i64 f.pt)) (first | exact⟨p0.1 12,p0.1 7,p0.1 13⟩) (fail)
 go_wp2
 go_ret3;exact⟨rfl,(bu _).bh⟩
end
section
variable{K:Ky}{c:Cf}{S S1:PM}{ss:List Sv}{n th k:Nat}
theorem Gn(f:Fi)(S:PM):(f.out S).2.2=S:=by
 unfold Fi.out
 by_cases h:lk (bare f.x)<0
 ·simp only [h,dL];rfl
 ·simp only [h,eu]
def NuP(S:PM)(r:Bool×Fi×PM):Prop:=r.2.2.aG.length≤S.aG.length+100002∧(S.cache.length<100000→r.2.2.cache.length<100000)
theorem mN{S S':PM}{b:Bool}{x:Fi}(h:S'.aG=S.aG)(h':S'.cache=S.cache):NuP S (b,x,S'):=⟨by simp only [h];omega,fun q=>by simp only [h'];exact q⟩
theorem VF(g:Gd n c S ss){f:Fi}{L:List En}(o:jN K c th k f L){q:Nat}{R:Nat→Int}{e nm pd:List Int}(aZ:R 47=0)(ha:jO c f S q R e nm pd):NuP S (f.step c S):=by
 unfold Fi.step
 by_cases h1:f.pc=1
 ·rw [aY h1]
  by_cases h:lk (S.w f.root)<0
  ·simp only [h,dL];exact mN rfl rfl
  ·simp only [h,eu];exact mN rfl rfl
 rw [aK h1]
 by_cases h2:f.pc=2
 ·rw [aY h2];exact mN rfl rfl
 rw [aK h2]
 by_cases h3:f.pc=3
 ·rw [aY h3];exact mN rfl rfl
 rw [aK h3]
 by_cases h4:f.pc=4
 ·rw [aY h4];exact mN rfl rfl
 rw [aK h4]
 by_cases h5:f.pc=5
 ·rw [aY h5];exact mN rfl rfl
 rw [aK h5]
 by_cases h6:f.pc=6
 ·rw [aY h6];exact mN rfl rfl
 rw [aK h6]
 by_cases h7:f.pc=7
 ·rw [aY h7];exact mN rfl rfl
 rw [aK h7]
 by_cases h8:f.pc=8
 ·rw [aY h8]
  unfold Fi.decide
  by_cases q1:S.w f.p≠f.w
  ·rw [aY q1];exact mN rfl rfl
  rw [aK q1]
  by_cases q2:Bn f.x
  ·rw [aY q2];exact mN rfl rfl
  rw [aK q2]
  by_cases q3:f.k=f.key
  ·rw [aY q3];exact mN rfl rfl
  rw [aK q3]
  by_cases q4:f.key<f.k
  ·rw [aY q4];exact mN rfl rfl
  rw [aK q4]
  by_cases q5:lk f.x<0
  ·rw [aY q5];exact mN rfl rfl
  ·rw [aK q5];exact mN rfl rfl
 rw [aK h8]
 by_cases h9:f.pc=9
 ·rw [aY h9];exact mN rfl rfl
 rw [aK h9]
 by_cases gI:f.pc=10∨f.pc=12
 ·rw [aY gI];exact mN rfl rfl
 rw [aK gI]
 by_cases lQ:f.pc=11
 ·rw [aY lQ]
  by_cases q:S.w f.p=f.w
  ·rw [aY q]
   have hc:f.p=f.p:=rfl
   have h0:((Rt.new f.cur).ready c ((S.swap f.p f.w (bare f.x)).shift f.cur 4)).2.2.cache=S.cache∧((Rt.new f.cur).ready c ((S.swap f.p f.w (bare f.x)).shift f.cur 4)).2.2.aG.length=S.aG.length+1+1:=by
    unfold Rt.ready;simp only
    split
    ·exact⟨rfl,by simp [PM.aV,PM.shift,PM.swap,PM.acc]⟩
    ·rw [Sc.ready,jd];exact⟨rfl,by simp [PM.aV,PM.shift,PM.swap,PM.acc]⟩
   generalize (Rt.new f.cur).ready c ((S.swap f.p f.w (bare f.x)).shift f.cur 4)=r0 at h0 ⊢;obtain⟨b,r,S'⟩:=r0;simp only at h0
   cases b
   ·exact⟨by simp only [h0.2];omega,fun q=>by simp only [h0.1];exact q⟩
   ·unfold NuP
    simp only [Gn,h0.1,h0.2];exact⟨O_,fun q=>q⟩
  ·rw [aK q];exact mN rfl rfl
 rw [aK lQ]
 rcases hr:f.ret with _ | r
 ·exact mN rfl rfl
 ·rcases o with ⟨Gk,rv,rfl⟩ | ⟨Gk,r',kr,Lr,hr',o,rfl⟩
  ·exfalso
   obtain⟨_,_,⟨_,hs,_⟩ | ⟨_,_,_,_,_,_,_,_,⟨hs,_⟩ | ⟨hs,_⟩ | ⟨hs,_⟩ | ⟨_,_,_,⟨hs,_⟩ | ⟨hs,_⟩⟩ | ⟨_,_,_,⟨hs,_⟩ | ⟨hs,_⟩ | ⟨hs,_⟩ | ⟨hs,_⟩ | ⟨_,⟨hs,_⟩ | ⟨hs,_⟩⟩⟩⟩ | ⟨_,_,hs,_⟩⟩:=ha<;>omega
  ·obtain⟨_,_,⟨_,hs,_⟩ | ⟨_,_,_,_,_,_,_,_,⟨hs,_⟩ | ⟨hs,_⟩ | ⟨hs,_⟩ | ⟨_,_,_,⟨hs,_⟩ | ⟨hs,_⟩⟩ | ⟨_,_,_,⟨hs,_⟩ | ⟨hs,_⟩ | ⟨hs,_⟩ | ⟨hs,_⟩ | ⟨_,⟨hs,_⟩ | ⟨hs,_⟩⟩⟩⟩ | ⟨_,_,hs,_,_,_,r2,e',iF,_,hra⟩⟩:=ha<;>try omega
   rw [hr] at hr' iF;injection hr' with hr';injection iF with iF;subst hr' iF;have ga:=D6 g o aZ hra
   have hb:(r.step c S).2.2.aG.length≤S.aG.length+100001:=by
    obtain⟨slot,scan⟩:=r;obtain⟨s,ks,Ls,hs',os,rfl⟩:=o;simp only at hs';subst hs';obtain⟨s',hs',hsa⟩:=hra;injection hs' with hs';subst hs'
    have hrc:s.pending= []∨s.az=5:=by
     obtain⟨_,_,⟨h,_⟩ | ⟨h,_⟩ | ⟨_,h,_⟩⟩:=hsa
     ·exact .inl h
     ·exact .inl h
     ·exact .inr h
    exact(KD g (sk os) hrc).1
   have hca:=ga.ca;clear ga;simp only;generalize r.step c S=r0 at hb hca ⊢;obtain⟨b,r1,S'⟩:=r0;simp only at hb hca
   cases b
   ·exact⟨by simp only;omega,fun _=>hca⟩
   ·unfold NuP
    simp only [Gn];exact⟨O_,fun _=>hca⟩
theorem pN(g:Gd n c S ss){f:Fi}{L:List En}(o:jN K c th k f L){q:Nat}{R:Nat→Int}{e nm pd:List Int}(aZ:R 47=0)(ha:jO c f S q R e nm pd):Ga (n+100002) c S (f.step c S).2.2 ss:=by
 obtain⟨k1,S1,_,_,_,I,kp,_,⟨_,_,hr,_⟩ | ⟨hr,_⟩⟩:=kR (X:= []) (bs:= []) g.I aZ ha<;>
 ·have hn:=VF g o aZ ha
  rw [hr] at hn ⊢;exact Ga.mk' g I kp (hn.2 g.ca) hn.1
theorem vU(g:Gd n c S ss){f:Fi}{q:Nat}{R:Nat→Int}{e nm pd:List Int}(aZ:R 47=0)(ha:jO c f S q R e nm pd)(h:(f.step c S).1=true):(f.step c S).2.1.done=true∧(f.step c S).2.1.pc=0∧∃ R',AZ c (f.step c S).2.1 R':=by
 have hx:(1≤f.pc∧f.pc≤12)∨f.ret≠none:=by
  obtain⟨_,_,⟨_,hs,_⟩ | ⟨_,_,_,_,_,_,_,_,⟨hs,_⟩ | ⟨hs,_⟩ | ⟨hs,_⟩ | ⟨_,_,_,⟨hs,_⟩ | ⟨hs,_⟩⟩ | ⟨_,_,_,⟨hs,_⟩ | ⟨hs,_⟩ | ⟨hs,_⟩ | ⟨hs,_⟩ | ⟨_,⟨hs,_⟩ | ⟨hs,_⟩⟩⟩⟩ | ⟨_,_,hs,_,_,_,r2,e',iF,_,hra⟩⟩:=ha
  all_goals first | exact .inl O_ | exact .inr (by rw [iF];simp)
 obtain⟨d1,d2⟩:=Qd f c S hx h;refine⟨d1,d2,?_⟩;obtain⟨k1,S1,R',_,_,I,kp,_,⟨_,_,hr,_⟩ | ⟨hr,hd,_⟩⟩:=kR (X:= []) (bs:= []) g.I aZ ha
 ·rw [hr] at h;cases h
 ·exact⟨R',by rw [hr];exact hd⟩
end
section
variable{K:Ky}{c:Cf}{S:PM}{ss:List Sv}{w0 w w':World}{F H Lf:List En}{d b n k kt kf kl kr q:Nat}{t:TypeId}{cs tl:List Value}{tv rv lp fp a0 a1 pv:Value}{R:Nat→Int}{e nm pd:List Int}
def Fg(K:Ky)(c:Cf)(th k:Nat)(w:Wk)(L:List En):Prop:=
 (w.az=0∧∃ kf lp a0 a1 Lf,jN K c th kf w.f Lf∧L=ni k 224 (some kf) lp 0 a0 a1 w.full []::Lf)∨
 (w.az=11∧∃ fp kl,L= [ni k 224 fp (some kl) 11 w.cj (.int .i64 0) w.full [],An K kl th w.lv])
def GO(K:Ky)(c:Cf)(th k:Nat)(d:De)(L:List En):Prop:=
 ((d.wk.az=0∨d.wk.az=10)∧∃ kf lp a0 a1 pv Lf,jN K c th kf d.wk.f Lf∧L=ni k 221 (some kf) lp d.wk.az a0 a1 d.wk.full [pv]::Lf)∨
 ((d.wk.az=7∨d.wk.az=8)∧d.wk.f.done=true∧∃ kf lp a0 a1 pv rv,L= [ni k 221 (some kf) lp d.wk.az a0 a1 d.wk.full [pv],dG K kf th rv d.wk.f])∨
 (d.wk.az=9∧∃ r kr Lr kf lp a0 a1 rv,d.part=some r∧zC K c th kr r Lr∧L=ni k 221 (some kf) lp 9 a0 a1 d.wk.full [some kr]::dG K kf th rv d.wk.f::Lr)∨
 (d.wk.az=11∧∃ fp kl pv,L= [ni k 221 fp (some kl) 11 d.wk.cj (.int .i64 0) d.wk.full [pv],An K kl th d.wk.lv])
theorem pM{th:Nat}{f:Fi}{L:List En}(o:jN K c th k f L)(h:f.pc=0):∃ rv,L= [dG K k th rv f]:=by
 rcases o with ⟨_,o⟩ | ⟨q,_⟩
 ·exact o
 ·omega
theorem oN{S1:PM}{m:Nat}(ga:Ga m c S S1 ss):S1.th<S1.held.length:=by have:=ga.I.he;have:=ga.I.tK;have:=ga.th;omega
theorem aa1{f:Fi}{lv cj full:Int}(h:aq K c S ss w0 w (ni k 224 (some kf) lp 0 a0 a1 full []::(Lf++F)))(hd:dk K.toMk d∈F)(g:Gd n c S ss)(ax:Ax S)(hn:n<800000000000)(hr:0≤S.rc)(aZ:R 47=0)(o:jN K c S.th kf f Lf)(ha:jO c f S q R e nm pd):
  b6 290 k d w (Post K c ss w0 F (Fg K c S.th k) (Wk.iY c ⟨f,lv,0,cj,full⟩ S)):=by
 have h1:=h.perm (G:=Lf++_::F) dV.symm;have hm:=pO h1 o (mT hd) g ax hn ha;have ga:=pN g o aZ ha;have hdn:=vU g aZ ha;have p0:=h.af aj;have j6:=oN ga;have eO:0≤(f.step c S).2.2.rc:=by rw [ga.kp.rc];exact hr
 have iV:=ga.th;have gs:=ga.s;clear ga ha
 have hst:Wk.iY c ⟨f,lv,0,cj,full⟩ S=match f.step c S with
   | (false,f,S)=>(false,⟨f,lv,0,cj,full⟩,S)
   | (true,f,S)=>(false,⟨f,0,11,if f.found then 5 else 6,full⟩,S.aB f.pt):=rfl
 rw [hst];clear hst;generalize f.step c S=r at hm hdn j6 eO iV gs ⊢;obtain⟨b,f1,S1⟩:=r;simp only at hdn j6 eO iV gs
 cases b
 ·simp only
  go_enter func290,ntmps290;go_wp2_with fail;refine hm.mono ?_;rintro e w1 ⟨rfl,L,o1,m1⟩;go_wp2;go_ret;exact⟨rfl,_::L,fun _=>.inl ⟨rfl,_,_,_,_,_,o1,rfl⟩,m1.perm dV⟩
 ·simp only
  obtain⟨d1,d2,_⟩:=hdn rfl;have ng:=fun(W:World) (x:Int) (rv:Value) (h:aq K c (S1.aB f1.pt) ss w0 W (ni k 224 (some kf) lp 0 a0 a1 full []::dG K kf S1.th rv f1::F))=>gY (x:=x) h j6 eO
  rw [show(S1.aB f1.pt).th=S1.th from rfl,iV] at ng
  cases hf:f1.found
  ·simp only [mD,eu]
   obtain⟨fd,xl⟩:∃ x,x=f1.found:=⟨_,rfl⟩;have L8:f1.found=false:=hf;clear hf xl;go_enter func290,ntmps290;go_wp2_with fail;refine hm.mono ?_;rintro e w1 ⟨rfl,L,o1,m1⟩;obtain⟨rv,rfl⟩:=pM o1 d2;have m1:=m1.swap;have p1:=m1.af aj;go_wp2_with fail;refine un (fC m1 bp d1) fun w2 e2=>?_
   have m2:=m1.next e2;go_wp2_with fail;refine un (cX m2 (mT (mT hd)) gs) fun w3 m3=>?_
   go_wp2_with fail;refine(ng _ 6 rv m3).mono ?_;exact SH
  ·simp only [dL]
   obtain⟨fd,xl⟩:∃ x,x=f1.found:=⟨_,rfl⟩;have L8:f1.found=true:=hf;clear hf xl;go_enter func290,ntmps290;go_wp2_with fail;refine hm.mono ?_;rintro e w1 ⟨rfl,L,o1,m1⟩;obtain⟨rv,rfl⟩:=pM o1 d2;have m1:=m1.swap;have p1:=m1.af aj;go_wp2_with fail;refine un (fC m1 bp d1) fun w2 e2=>?_
   have m2:=m1.next e2;go_wp2_with fail;refine un (cX m2 (mT (mT hd)) gs) fun w3 m3=>?_
   go_wp2_with fail;refine(ng _ 5 rv m3).mono ?_;exact SH
theorem V9{wk:Wk}(h:aq K c S ss w0 w (ni k 224 fp (some kl) 11 wk.cj (.int .i64 0) wk.full []::An K kl S.th wk.lv::F))(hd:dk K.toMk d∈F)(g:Gd n c S ss)(ax:Ax S)(hr:0≤S.rc)(h0:0≤wk.lv)(h3:wk.lv<3)(hs:wk.az=11):
  b6 290 k d w (Post K c ss w0 F (Fg K c S.th k) (wk.iY c S)):=by
 have p0:=h.af aj;have hm:=vC h hd g ax hr h0 h3;have e:wk.iY c S=wk.left c S:=by unfold Wk.iY;rw [aY hs]
 rw [e];clear e;have hk:(wk.left c S).2.1.az=11∧(wk.left c S).2.1.cj=wk.cj∧(wk.left c S).2.1.full=wk.full:=Wn;generalize wk.left c S=r at hm hk ⊢;obtain⟨b,wk1,S1⟩:=r;obtain⟨k1,k2,k3⟩:=hk;simp only at hm k1 k2 k3;rw [←k2,←k3] at hm;clear k2 k3;go_enter func290,ntmps290;go_wp2_with fail;refine un hm fun w1 m1=>?_
 go_wp2;go_ret;exact⟨rfl,[_,_],fun _=>.inr ⟨k1,_,_,rfl⟩,m1⟩
theorem Qo{wk:Wk}{bk:List Int}{O:List En}(h:aq K c S ss w0 w (O++F))(o:Fg K c S.th k wk O)(hd:dk K.toMk d∈F)(g:Gd n c S ss)(ax:Ax S)(hn:n<800000000000)(ha:zE c wk S q R bk nm pd):
  b6 290 k d w (Post K c ss w0 F (Fg K c S.th k) (wk.iY c S)):=by
 obtain⟨aZ,_,⟨hs,e,_,ha⟩ | ⟨hs,_,⟨hr,hk⟩,_⟩⟩:=ha
 ·rcases o with ⟨_,kf,lp,a0,a1,Lf,o,rfl⟩ | ⟨q,_⟩
  ·obtain⟨f,lv,st,cj,full⟩:=wk
   simp only at hs;subst hs;exact aa1 h hd g ax hn ha.2.1 aZ o ha
  ·omega
 ·rcases o with ⟨q,_⟩ | ⟨_,fp,kl,rfl⟩
  ·omega
  ·exact V9 h hd g ax hr (by rcases hk with ⟨q,_⟩ | ⟨q,_⟩ | ⟨q,_⟩<;>omega) (by rcases hk with ⟨q,_⟩ | ⟨q,_⟩ | ⟨q,_⟩<;>omega) hs
end
section
variable{K:Ky}{c:Cf}{S:PM}{ss:List Sv}{w0 w w':World}{F H Lf:List En}{d b n k kt kf kl kr q:Nat}{t:TypeId}{cs tl:List Value}{tv rv lp fp a0 a1 pv:Value}{R:Nat→Int}{e nm pd:List Int}{f:Fi}{lv cj full:Int}{part:Option Rt}
theorem fE{α:Type}{a b:α}{L G:List α}:(L++a::b::G).Perm (a::b::L++G):=
 (dV.trans (mU _ dV))
theorem agc(h:aq K c S ss w0 w (ni k 221 (some kf) lp 0 a0 a1 full [pv]::(Lf++F)))(hd:dk K.toMk d∈F)(g:Gd n c S ss)(ax:Ax S)(hn:n<800000000000)(hr:0≤S.rc)(aZ:R 47=0)(o:jN K c S.th kf f Lf)(ha:jO c f S q R e nm pd):
  b6 271 k d w (Post K c ss w0 F (GO K c S.th k) (De.step c (⟨⟨f,lv,0,cj,full⟩,part⟩:De) S)):=by
 have h1:=h.perm (G:=Lf++_::F) dV.symm;have hm:=pO h1 o (mT hd) g ax hn ha;have ga:=pN g o aZ ha;have hdn:=vU g aZ ha;have p0:=h.af aj;have j6:=oN ga;have eO:0≤(f.step c S).2.2.rc:=by rw [ga.kp.rc];exact hr
 have iV:=ga.th;have gs:=ga.s;clear ga ha
 have hst:De.step c (⟨⟨f,lv,0,cj,full⟩,part⟩:De) S=match f.step c S with
   | (false,f,S)=>(false,(⟨⟨f,lv,0,cj,full⟩,part⟩:De),S)
   | (true,f,S)=>if f.found then(false,(⟨⟨f,lv,7,cj,full⟩,part⟩:De),S) else De.lift ⟨⟨f,lv,0,cj,full⟩,part⟩ (Wk.jk ⟨f,lv,0,cj,full⟩ 6 (S.aB f.pt)):=rfl
 rw [hst];clear hst;generalize f.step c S=r at hm hdn j6 eO iV gs ⊢;obtain⟨b,f1,S1⟩:=r;simp only at hdn j6 eO iV gs
 cases b
 ·simp only
  go_enter func271,ntmps271;go_wp2_with fail;refine hm.mono ?_;rintro e w1 ⟨rfl,L,o1,m1⟩;go_wp2;go_ret;exact⟨rfl,_::L,fun _=>.inl ⟨.inl rfl,_,_,_,_,_,_,o1,rfl⟩,m1.perm dV⟩
 ·simp only
  obtain⟨d1,d2,_⟩:=hdn rfl;have ng:=fun(W:World) (x:Int) (rv:Value) (h:aq K c (S1.aB f1.pt) ss w0 W (ni k 221 (some kf) lp 0 a0 a1 full [pv]::dG K kf S1.th rv f1::F))=>gY (x:=x) h j6 eO
  rw [show(S1.aB f1.pt).th=S1.th from rfl,iV] at ng
  cases hf:f1.found
  ·simp only [mD,eu]
   obtain⟨fd,xl⟩:∃ x,x=f1.found:=⟨_,rfl⟩;have L8:f1.found=false:=hf;clear hf xl;go_enter func271,ntmps271;go_wp2_with fail;refine hm.mono ?_;rintro e w1 ⟨rfl,L,o1,m1⟩;obtain⟨rv,rfl⟩:=pM o1 d2;have m1:=m1.swap;have p1:=m1.af aj;go_wp2_with fail;refine un (fC m1 bp d1) fun w2 e2=>?_
   have m2:=m1.next e2;go_wp2_with fail;refine un (cX m2 (mT (mT hd)) gs) fun w3 m3=>?_
   go_wp2_with fail;refine(ng _ 6 rv m3).mono ?_;rintro e w4 ⟨rfl,kl,m4⟩;exact QH
  ·simp only [dL]
   have L8:f1.found=true:=hf;clear hf ng;go_enter func271,ntmps271;go_wp2_with fail;refine hm.mono ?_;rintro e w1 ⟨rfl,L,o1,m1⟩;obtain⟨rv,rfl⟩:=pM o1 d2;have m1:=m1.swap;have p1:=m1.af aj;go_wp2_with fail;refine un (fC m1 bp d1) fun w2 e2=>?_
   have m2:=m1.next e2;have p2:=m2.af aj;go_wp2;go_ret;exact⟨rfl,[_,_],fun _=>.inr (.inl ⟨.inl rfl,d1,_,_,_,_,_,_,rfl⟩),m2.put 2 _⟩
theorem aaY(h:aq K c S ss w0 w (ni k 221 (some kf) lp 10 a0 a1 full [pv]::(Lf++F)))(hd:dk K.toMk d∈F)(g:Gd n c S ss)(ax:Ax S)(hn:n<800000000000)(hr:0≤S.rc)(aZ:R 47=0)(o:jN K c S.th kf f Lf)(ha:jO c f S q R e nm pd):
  b6 271 k d w (Post K c ss w0 F (GO K c S.th k) (De.step c (⟨⟨f,lv,10,cj,full⟩,part⟩:De) S)):=by
 have h1:=h.perm (G:=Lf++_::F) dV.symm;have hm:=pO h1 o (mT hd) g ax hn ha;have ga:=pN g o aZ ha;have hdn:=vU g aZ ha;have p0:=h.af aj;have j6:=oN ga;have eO:0≤(f.step c S).2.2.rc:=by rw [ga.kp.rc];exact hr
 have iV:=ga.th;have gs:=ga.s;clear ga ha
 have hst:De.step c (⟨⟨f,lv,10,cj,full⟩,part⟩:De) S=match f.step c S with
   | (false,f,S)=>(false,(⟨⟨f,lv,10,cj,full⟩,part⟩:De),S)
   | (true,f,S)=>De.lift ⟨⟨f,lv,10,cj,full⟩,part⟩ (Wk.jk ⟨f,lv,10,cj,full⟩ 5 S):=rfl
 rw [hst];clear hst;generalize f.step c S=r at hm hdn j6 eO iV gs ⊢;obtain⟨b,f1,S1⟩:=r;simp only at hdn j6 eO iV gs
 cases b
 ·simp only
  go_enter func271,ntmps271;go_wp2_with fail;refine hm.mono ?_;rintro e w1 ⟨rfl,L,o1,m1⟩;go_wp2;go_ret;exact⟨rfl,_::L,fun _=>.inl ⟨.inr rfl,_,_,_,_,_,_,o1,rfl⟩,m1.perm dV⟩
 ·simp only
  obtain⟨d1,d2,_⟩:=hdn rfl;have ng:=fun(W:World) (x:Int) (rv:Value) (h:aq K c S1 ss w0 W (ni k 221 (some kf) lp 10 a0 a1 full [pv]::dG K kf S1.th rv f1::F))=>gY (x:=x) h j6 eO
  rw [iV] at ng;go_enter func271,ntmps271;go_wp2_with fail;refine hm.mono ?_;rintro e w1 ⟨rfl,L,o1,m1⟩;obtain⟨rv,rfl⟩:=pM o1 d2;have m1:=m1.swap;have p1:=m1.af aj;go_wp2_with fail;refine(ng _ 5 rv m1).mono ?_;rintro e w4 ⟨rfl,kl,m4⟩;exact QH
theorem aaW(h:aq K c S ss w0 w (ni k 221 (some kf) lp 7 a0 a1 full [pv]::dG K kf S.th rv f::F))(hd:dk K.toMk d∈F)(g:Gd n c S ss)(ax:Ax S)(hs:0≤f.cur∧f.cur<c.S)(hw:Lw c f.x)(hdn:f.done=true)(hr:0≤S.rc)(ha:0≤f.root∧f.root<S.words.length)(CA:Pw c (kd c (c.ad 13 f.cur)) (kZ (lk f.x)))(hb:decide (S.w (c.ad 13 f.cur)=f.x)=false):
  b6 271 k d w (Post K c ss w0 F (GO K c S.th k) (false,(⟨⟨(Fi.new f.root f.key),lv,0,cj,full⟩,part⟩:De),(S.swap (c.ad 13 f.cur) f.x (kZ (lk f.x))))):=by
 have xi:=g.I.iO (r:=13) S_ hs.1 hs.2;have a:=g.I.eX (r:=13) O_ O_ xi;have hwk:=dQ g.I hw;have F7:=g.I.bd;have hI:=g.I.ok;have hk:=fun W=>lD (lk f.x) true W (eZ f.x) hwk.2.2
 simp only [dL] at hk;have hla:=fun(W:World) (h:aq K c S ss w0 W (ni k 221 (some kf) lp 7 a0 a1 full [pv]::dG K kf S.th rv f::F))=>fZ 13 h hI O_ O_ xi rfl
 have g1:Gd n c (S.swap (c.ad 13 f.cur) f.x (kZ (lk f.x))) ss:=g.swap a fun _=>CA
 have Ez:=fun(W:World) (h:aq K c (S.swap (c.ad 13 f.cur) f.x (kZ (lk f.x))) ss w0 W (ni k 221 (some kf) lp 7 a0 a1 full [pv]::dG K kf S.th rv f::F))=>wI (x:=0) h (g1:Gd n c (S.swap (c.ad 13 f.cur) f.x (kZ (lk f.x))) ss) hr ⟨ha.1,(by have h1:=g.I.len;have h2:=g1.I.len;omega)⟩
 have p0:=h.af aj;have q0:=h.af bp;go_enter func271,ntmps271;go_wp2_with fail;refine un (gH _ _ hwk) fun wz hw=>?_
 obtain rfl:=hw.symm;go_wp2_with fail;refine un (hk _) fun wz hw=>?_
 obtain rfl:=hw.symm;go_wp2
 go_region_held3 (fun w'=>w'.cell? ⟨k,0,none⟩=some (some kf)∧w'.cell? ⟨kf,0,none⟩=some (some K.bH)∧w'.cell? ⟨kf,7,none⟩=some (.int .i64 f.cur)∧w'.cell? ⟨kf,8,none⟩=some (.int .u64 f.x)) (first | exact⟨p0.1 0,q0.1 0,q0.1 7,q0.1 8⟩ | exact⟨bB.1 0,kW.1 0,kW.1 7,kW.1 8⟩ | exact⟨dN.1 0,oe.1 0,oe.1 7,oe.1 8⟩) (first | ((with_reducible refine un (hla _ h.drew) fun dx gx=>?_);have m1:=h.drew.next gx;have bB:=m1.af aj;have kW:=m1.af bp) | ((with_reducible refine un (cD m1 (mT (mT hd)) ax a hb) fun jP m2=>?_);have dN:=m2.af aj;have oe:=m2.af bp))
 go_wp2_with fail;refine(Ez _ m2).mono ?_;rintro e w4 ⟨rfl,kf1,m4⟩;go_wp2;go_ret;exact⟨rfl,[_,_],fun _=>.inl ⟨.inl rfl,_,_,_,_,_,_,.inl ⟨(by simp [Fi.new]),_,rfl⟩,rfl⟩,m4⟩
theorem aaV(h:aq K c S ss w0 w (ni k 221 (some kf) lp 7 a0 a1 full [pv]::dG K kf S.th rv f::F))(hd:dk K.toMk d∈F)(g:Gd n c S ss)(ax:Ax S)(hs:0≤f.cur∧f.cur<c.S)(hw:Lw c f.x)(hdn:f.done=true)(hb:decide (S.w (c.ad 13 f.cur)=f.x)=true):
  b6 271 k d w (Post K c ss w0 F (GO K c S.th k) (false,(⟨⟨f,lv,8,cj,full⟩,part⟩:De),(S.swap (c.ad 13 f.cur) f.x (kZ (lk f.x))).aB S.now)):=by
 have xi:=g.I.iO (r:=13) S_ hs.1 hs.2;have a:=g.I.eX (r:=13) O_ O_ xi;have hwk:=dQ g.I hw;have F7:=g.I.bd;have hI:=g.I.ok;have hk:=fun W=>lD (lk f.x) true W (eZ f.x) hwk.2.2
 simp only [dL] at hk;have hla:=fun(W:World) (h:aq K c S ss w0 W (ni k 221 (some kf) lp 7 a0 a1 full [pv]::dG K kf S.th rv f::F))=>fZ 13 h hI O_ O_ xi rfl
 have gs:Gs n c (S.swap (c.ad 13 f.cur) f.x (kZ (lk f.x))) ss:=g.s.swap;have p0:=h.af aj;have q0:=h.af bp;go_enter func271,ntmps271;go_wp2_with fail;refine un (gH _ _ hwk) fun wz hw=>?_
 obtain rfl:=hw.symm;go_wp2_with fail;refine un (hk _) fun wz hw=>?_
 obtain rfl:=hw.symm;go_wp2
 go_region_held3 (fun w'=>w'.cell? ⟨k,0,none⟩=some (some kf)∧w'.cell? ⟨kf,0,none⟩=some (some K.bH)∧w'.cell? ⟨kf,7,none⟩=some (.int .i64 f.cur)∧w'.cell? ⟨kf,8,none⟩=some (.int .u64 f.x)) (first | exact⟨p0.1 0,q0.1 0,q0.1 7,q0.1 8⟩ | exact⟨bB.1 0,kW.1 0,kW.1 7,kW.1 8⟩ | exact⟨dN.1 0,oe.1 0,oe.1 7,oe.1 8⟩) (first | ((with_reducible refine un (hla _ h.drew) fun dx gx=>?_);have m1:=h.drew.next gx;have bB:=m1.af aj;have kW:=m1.af bp) | ((with_reducible refine un (cD m1 (mT (mT hd)) ax a hb) fun jP m2=>?_);have dN:=m2.af aj;have oe:=m2.af bp))
 go_wp2_with fail;refine un (gK m2 (mT (mT hd))) fun wz hw=>?_
 obtain rfl:=hw.symm;go_wp2_with fail;refine un (cX m2 (mT (mT hd)) gs) fun w3 m3=>?_
 have p3:=m3.af aj;go_wp2;go_ret;exact⟨rfl,[_,_],fun _=>.inr (.inl ⟨.inr rfl,hdn,_,_,_,_,_,_,rfl⟩),m3.put 2 _⟩
theorem aaU(h:aq K c S ss w0 w (ni k 221 (some kf) lp 8 a0 a1 full [pv]::dG K kf S.th rv f::F))(hd:dk K.toMk d∈F)(g:Gd n c S ss)(ax:Ax S)(a:0≤f.p∧f.p<S.words.length)(CA:S.w f.p=f.w→Pw c (kd c f.p) f.x)(hr:0≤S.rc)(ha:0≤f.root∧f.root<S.words.length)(hb:decide (S.w f.p=f.w)=false):
  b6 271 k d w (Post K c ss w0 F (GO K c S.th k) (false,(⟨⟨(Fi.new f.root f.key),lv,10,cj,full⟩,part⟩:De),(S.swap f.p f.w f.x))):=by
 have g1:Gd n c (S.swap f.p f.w f.x) ss:=g.swap a CA;have Ez:=fun(W:World) (h:aq K c (S.swap f.p f.w f.x) ss w0 W (ni k 221 (some kf) lp 8 a0 a1 full [pv]::dG K kf S.th rv f::F))=>wI (x:=10) h (g1:Gd n c (S.swap f.p f.w f.x) ss) hr ⟨ha.1,(by have h1:=g.I.len;have h2:=g1.I.len;omega)⟩
 have p0:=h.af aj;have q0:=h.af bp;go_enter func271,ntmps271;go_wp2
 go_region_held3 (fun w'=>w'.cell? ⟨k,0,none⟩=some (some kf)∧w'.cell? ⟨kf,5,none⟩=some (.int .i64 f.p)∧w'.cell? ⟨kf,6,none⟩=some (.int .u64 f.w)∧w'.cell? ⟨kf,8,none⟩=some (.int .u64 f.x)) (first | exact⟨p0.1 0,q0.1 5,q0.1 6,q0.1 8⟩ | exact⟨bB.1 0,kW.1 5,kW.1 6,kW.1 8⟩) (first | ((with_reducible refine un (cD h.drew (mT (mT hd)) ax a hb) fun dx m1=>?_);have bB:=m1.af aj;have kW:=m1.af bp))
 go_wp2_with fail;refine(Ez _ m1).mono ?_;rintro e w4 ⟨rfl,kf1,m4⟩;go_wp2;go_ret;exact⟨rfl,[_,_],fun _=>.inl ⟨.inr rfl,_,_,_,_,_,_,.inl ⟨(by simp [Fi.new]),_,rfl⟩,rfl⟩,m4⟩
theorem aaT(h:aq K c S ss w0 w (ni k 221 (some kf) lp 8 a0 a1 full [pv]::dG K kf S.th rv f::F))(hd:dk K.toMk d∈F)(g:Gd n c S ss)(ax:Ax S)(a:0≤f.p∧f.p<S.words.length)(CA:S.w f.p=f.w→Pw c (kd c f.p) f.x)(hs:0≤f.cur∧f.cur<c.S)(_:Lw c f.x)(_:f.done=true)(hr:0≤S.rc)(hn:n<800000000000)(hb:decide (S.w f.p=f.w)=true):
  b6 271 k d w (Post K c ss w0 F (GO K c S.th k) (match ((Rt.new f.cur).ready c ((S.swap f.p f.w f.x).shift f.cur 4)) with
   | (false,r,S)=>(false,(⟨⟨f,lv,9,cj,full⟩,some r⟩:De),S)
   | (true,r,S)=>De.lift (⟨⟨f,lv,9,cj,full⟩,some r⟩:De) (Wk.jk ⟨f,lv,9,cj,full⟩ 5 S))):=by
 have hN:n≤1000000000000:=O_
 have g2:Gd (n+1) c ((S.swap f.p f.w f.x).shift f.cur 4) ss:=(g.swap a CA).shift _ _;have gs1:Gs n c (S.swap f.p f.w f.x) ss:=g.s.swap;have pX:=fun(W:World) (kr:Nat) (h:aq K c ((S.swap f.p f.w f.x).shift f.cur 4) ss w0 W (FD K kr S.th f.cur (.pointer none)::ni k 221 (some kf) lp 9 a0 a1 full [some kr]::dG K kf S.th rv f::F))=>lT h (mT (mT hd)) g2 O_ hr hs
 have ga:=FC g2 hr hs;have iV:((Rt.new f.cur).ready c ((S.swap f.p f.w f.x).shift f.cur 4)).2.2.th=S.th:=ga.th;have j6:=oN ga;have eO:0≤((Rt.new f.cur).ready c ((S.swap f.p f.w f.x).shift f.cur 4)).2.2.rc:=by rw [ga.kp.rc];exact hr
 clear ga;generalize ((Rt.new f.cur).ready c ((S.swap f.p f.w f.x).shift f.cur 4))=r at pX iV j6 eO ⊢;obtain⟨b,r1,S1⟩:=r;simp only at pX iV j6 eO;have ng:=fun(W:World) (kr:Nat) (x:Int) (rv:Value) (h:aq K c S1 ss w0 W (ni k 221 (some kf) lp 9 a0 a1 full [some kr]::dG K kf S1.th rv f::F))=>gY (x:=x) h j6 eO
 rw [iV] at ng
 cases b
 ·simp only
  have p0:=h.af aj;have q0:=h.af bp;go_enter func271,ntmps271;go_wp2
  go_region_held3 (fun w'=>w'.cell? ⟨k,0,none⟩=some (some kf)∧w'.cell? ⟨kf,5,none⟩=some (.int .i64 f.p)∧w'.cell? ⟨kf,6,none⟩=some (.int .u64 f.w)∧w'.cell? ⟨kf,8,none⟩=some (.int .u64 f.x)) (first | exact⟨p0.1 0,q0.1 5,q0.1 6,q0.1 8⟩ | exact⟨bB.1 0,kW.1 5,kW.1 6,kW.1 8⟩) (first | ((with_reducible refine un (cD h.drew (mT (mT hd)) ax a hb) fun dx m1=>?_);have bB:=m1.af aj;have kW:=m1.af bp))
  go_wp2
  go_region_held3 (fun w'=>w'.cell? ⟨k,0,none⟩=some (some kf)∧w'.cell? ⟨kf,0,none⟩=some (some K.bH)∧w'.cell? ⟨kf,7,none⟩=some (.int .i64 f.cur)) (first | exact⟨bB.1 0,kW.1 0,kW.1 7⟩ | exact⟨dN.1 0,oe.1 0,oe.1 7⟩) (first | ((with_reducible refine un (cL m1.drew) fun wz hw=>?_);obtain rfl:=hw.symm) | ((with_reducible refine un (eN m1.drew (mT (mT hd)) gs1 hs Oz hN) fun jP m2=>?_);have dN:=m2.af aj;have oe:=m2.af bp))
  go_wp2
  go_region_held3 (fun w'=>w'.cell? ⟨k,0,none⟩=some (some kf)∧w'.cell? ⟨kf,0,none⟩=some (some K.bH)∧w'.cell? ⟨kf,1,none⟩=some (.int .i64 S.th)∧w'.cell? ⟨kf,7,none⟩=some (.int .i64 f.cur)) (first | exact⟨dN.1 0,oe.1 0,oe.1 1,oe.1 7⟩ | exact⟨iq.1 0,Ea.1 0,Ea.1 1,Ea.1 7⟩ | exact⟨xb.1 0,Ig.1 0,Ig.1 1,Ig.1 7⟩) (first | ((with_reducible refine(fS m2.drew _ _).mono ?_);rintro e zK ⟨xe,rfl,_,m3⟩;have iq:=m3.af bp;have Ea:=m3.af iU;have n3:=m3.swap.put 6 (some xe);have xb:=n3.af aj;have Ig:=n3.af iU))
  have n4:=n3.put 2 (.int .i64 9);have mM:=n4.af aj;go_wp2_with fail;refine(pX _ xe n4.swap).mono ?_;exact abj
 ·simp only
  have p0:=h.af aj;have q0:=h.af bp;go_enter func271,ntmps271;go_wp2
  go_region_held3 (fun w'=>w'.cell? ⟨k,0,none⟩=some (some kf)∧w'.cell? ⟨kf,5,none⟩=some (.int .i64 f.p)∧w'.cell? ⟨kf,6,none⟩=some (.int .u64 f.w)∧w'.cell? ⟨kf,8,none⟩=some (.int .u64 f.x)) (first | exact⟨p0.1 0,q0.1 5,q0.1 6,q0.1 8⟩ | exact⟨bB.1 0,kW.1 5,kW.1 6,kW.1 8⟩) (first | ((with_reducible refine un (cD h.drew (mT (mT hd)) ax a hb) fun dx m1=>?_);have bB:=m1.af aj;have kW:=m1.af bp))
  go_wp2
  go_region_held3 (fun w'=>w'.cell? ⟨k,0,none⟩=some (some kf)∧w'.cell? ⟨kf,0,none⟩=some (some K.bH)∧w'.cell? ⟨kf,7,none⟩=some (.int .i64 f.cur)) (first | exact⟨bB.1 0,kW.1 0,kW.1 7⟩ | exact⟨dN.1 0,oe.1 0,oe.1 7⟩) (first | ((with_reducible refine un (cL m1.drew) fun wz hw=>?_);obtain rfl:=hw.symm) | ((with_reducible refine un (eN m1.drew (mT (mT hd)) gs1 hs Oz hN) fun jP m2=>?_);have dN:=m2.af aj;have oe:=m2.af bp))
  go_wp2
  go_region_held3 (fun w'=>w'.cell? ⟨k,0,none⟩=some (some kf)∧w'.cell? ⟨kf,0,none⟩=some (some K.bH)∧w'.cell? ⟨kf,1,none⟩=some (.int .i64 S.th)∧w'.cell? ⟨kf,7,none⟩=some (.int .i64 f.cur)) (first | exact⟨dN.1 0,oe.1 0,oe.1 1,oe.1 7⟩ | exact⟨iq.1 0,Ea.1 0,Ea.1 1,Ea.1 7⟩ | exact⟨xb.1 0,Ig.1 0,Ig.1 1,Ig.1 7⟩) (first | ((with_reducible refine(fS m2.drew _ _).mono ?_);rintro e zK ⟨xe,rfl,_,m3⟩;have iq:=m3.af bp;have Ea:=m3.af iU;have n3:=m3.swap.put 6 (some xe);have xb:=n3.af aj;have Ig:=n3.af iU))
  have n4:=n3.put 2 (.int .i64 9);have mM:=n4.af aj;go_wp2_with fail;refine(pX _ xe n4.swap).mono ?_;rintro e w9 ⟨rfl,L,o,m9⟩;go_wp2_with fail;refine(ng _ xe 5 rv m9.kI).mono ?_;rintro e Ow ⟨rfl,kl,m4⟩;exact QH
theorem agb(h:aq K c S ss w0 w (ni k 221 (some kf) lp 9 a0 a1 full [some kr]::dG K kf S.th rv f::(Lf++F)))(hd:dk K.toMk d∈F)(g:Gd n c S ss)(ax:Ax S){r:Rt}(hr:0≤S.rc)(hn:n<800000000000)(aZ:R 47=0)(o:zC K c S.th kr r Lf)(ha:mu c r S q R e nm pd):
  b6 271 k d w (Post K c ss w0 F (GO K c S.th k) (De.step c (⟨⟨f,lv,9,cj,full⟩,some r⟩:De) S)):=by
 have h1:=h.perm (G:=Lf++_::_::F) fE.symm;have hm:=oX o h1 (mT (mT hd)) g rfl O_ ax ha;have ga:=D6 g o aZ ha;have iV:=ga.th;have j6:=oN ga;have eO:0≤(r.step c S).2.2.rc:=by rw [ga.kp.rc];exact hr
 clear ga ha;have p0:=h.af (b:=k) aj
 have hst:De.step c (⟨⟨f,lv,9,cj,full⟩,some r⟩:De) S=match r.step c S with
   | (false,r,S)=>(false,(⟨⟨f,lv,9,cj,full⟩,some r⟩:De),S)
   | (true,r,S)=>De.lift (⟨⟨f,lv,9,cj,full⟩,some r⟩:De) (Wk.jk ⟨f,lv,9,cj,full⟩ 5 S):=rfl
 rw [hst];clear hst;generalize r.step c S=r2 at hm j6 eO iV ⊢;obtain⟨b,r1,S1⟩:=r2;simp only at hm j6 eO iV;have ng:=fun(W:World) (x:Int) (rv:Value) (h:aq K c S1 ss w0 W (ni k 221 (some kf) lp 9 a0 a1 full [some kr]::dG K kf S1.th rv f::F))=>gY (x:=x) h j6 eO
 rw [iV] at ng
 cases b
 ·simp only
  go_enter func271,ntmps271;go_wp2_with fail;refine hm.mono ?_;exact abj
 ·simp only
  go_enter func271,ntmps271;go_wp2_with fail;refine hm.mono ?_;rintro e w9 ⟨rfl,L,o,m9⟩;go_wp2_with fail;refine(ng _ 5 rv m9.kI).mono ?_;rintro e Ow ⟨rfl,kl,m4⟩;exact QH
theorem aaX{wk:Wk}(h:aq K c S ss w0 w (ni k 221 fp (some kl) 11 wk.cj (.int .i64 0) wk.full [pv]::An K kl S.th wk.lv::F))(hd:dk K.toMk d∈F)(g:Gd n c S ss)(ax:Ax S)(hr:0≤S.rc)(h0:0≤wk.lv)(h3:wk.lv<3)(hs:wk.az=11):
  b6 271 k d w (Post K c ss w0 F (GO K c S.th k) (De.step c ⟨wk,part⟩ S)):=by
 have p0:=h.af aj;have hm:=vC h hd g ax hr h0 h3;have e:De.step c ⟨wk,part⟩ S=De.lift ⟨wk,part⟩ (wk.left c S):=by unfold De.step;simp only [hs];rfl
 rw [e];clear e;have hk:(wk.left c S).2.1.az=11∧(wk.left c S).2.1.cj=wk.cj∧(wk.left c S).2.1.full=wk.full:=Wn;generalize wk.left c S=r at hm hk ⊢;obtain⟨b,wk1,S1⟩:=r;obtain⟨k1,k2,k3⟩:=hk;simp only at hm k1 k2 k3;rw [←k2,←k3] at hm;clear k2 k3;simp only [De.lift];go_enter func271,ntmps271;go_wp2_with fail;refine un hm fun w1 m1=>?_
 go_wp2;go_ret;exact⟨rfl,[_,_],fun _=>.inr (.inr (.inr ⟨k1,_,_,_,rfl⟩)),m1⟩
end
section
variable{K:Ky}{c:Cf}{S:PM}{ss:List Sv}{w0 w w':World}{F H Lf:List En}{d b n k kt kf kl kr kg q:Nat}{t:TypeId}{cs tl:List Value}{tv gv rv lp fp a0 a1 pv:Value}{R:Nat→Int}{e nm pd:List Int}{f:Fi}{lv cj full eU slot:Int}{take:Option Tk}{aU:Option Pu}
theorem V6{x:De}{bk:List Int}{O:List En}(h:aq K c S ss w0 w (O++F))(o:GO K c S.th k x O)(hd:dk K.toMk d∈F)(g:Gd n c S ss)(ax:Ax S)(hn:n<800000000000)(ha:wS c x S q R bk nm pd):
  b6 271 k d w (Post K c ss w0 F (GO K c S.th k) (De.step c x S)):=by
 obtain⟨⟨f,lv,st,cj,full⟩,part⟩:=x;obtain⟨aZ,hr,_,ha⟩:=ha;simp only [GO] at ha o
 rcases ha with ⟨hs,e,_,ha⟩ | ⟨hs,_,_,hd7,_⟩ | ⟨hs,_,_,hd7⟩ | ⟨hs,r,e,hp,_,ha⟩ | ⟨hs,e,_,ha⟩ | ⟨hs,_,⟨_,hk⟩,_⟩<;>subst hs<;>
  rcases o with ⟨q1,kf,lp,a0,a1,pv,Lf,o,rfl⟩ | ⟨q2,hdn,kf,lp,a0,a1,pv,rv,rfl⟩ | ⟨q3,r',kr,Lr,kf,lp,a0,a1,rv,L1,o,rfl⟩ | ⟨q4,fp,kl,pv,rfl⟩<;>try omega
 ·exact agc h hd g ax hn hr aZ o ha
 ·obtain⟨⟨hc,h2,hp,h3,hw⟩,h4,c0,c1,h5,hx⟩:=hd7
  have e:De.step c ⟨⟨f,lv,7,cj,full⟩,part⟩ S=if S.w (c.ad 13 f.cur)=f.x then(false,⟨⟨f,lv,8,cj,full⟩,part⟩,(S.swap (c.ad 13 f.cur) f.x (kZ (lk f.x))).aB S.now) else(false,⟨⟨Fi.new f.root f.key,lv,0,cj,full⟩,part⟩,S.swap (c.ad 13 f.cur) f.x (kZ (lk f.x))):=rfl;rw [e]
  by_cases q:S.w (c.ad 13 f.cur)=f.x
  ·rw [aY q];exact aaV h hd g ax ⟨c0,c1⟩ hx hdn (cM q)
  ·rw [aK q];exact aaW h hd g ax ⟨c0,c1⟩ hx hdn hr (g.I.pa hc.pr).1 (g.I.mZ O_ (g.I.iO (r:=13) O_ c0 c1) (Al g.I hx)) (dy q)
 ·obtain⟨⟨hc,h2,hp,h3,hw⟩,h4,c0,c1,h5,hx⟩:=hd7
  obtain⟨aP,_,sP⟩:=g.I.pa hp
  have e:De.step c ⟨⟨f,lv,8,cj,full⟩,part⟩ S=if S.w f.p=f.w then(match (Rt.new f.cur).ready c ((S.swap f.p f.w f.x).shift f.cur 4) with
   | (false,r,S)=>(false,⟨⟨f,lv,9,cj,full⟩,some r⟩,S)
   | (true,r,S)=>De.lift ⟨⟨f,lv,9,cj,full⟩,some r⟩ (Wk.jk ⟨f,lv,9,cj,full⟩ 5 S)) else(false,⟨⟨Fi.new f.root f.key,lv,10,cj,full⟩,part⟩,S.swap f.p f.w f.x):=rfl
  rw [e]
  by_cases q:S.w f.p=f.w
  ·rw [aY q];exact aaT h hd g ax aP (fun _=>sP _ hx) ⟨c0,c1⟩ hx hdn hr hn (cM q)
  ·rw [aK q];exact aaU h hd g ax aP (fun _=>sP _ hx) hr (g.I.pa hc.pr).1 (dy q)
 ·obtain rfl:part=some r:=hp
  obtain rfl:r=r':=Option.some.inj L1;exact agb h hd g ax hr hn aZ o ha
 ·exact aaY h hd g ax hn hr aZ o ha
 ·exact aaX (wk:=⟨f,lv,11,cj,full⟩) h hd g ax hr (by show 0≤lv;rcases hk with ⟨q,_⟩ | ⟨q,_⟩ | ⟨q,_⟩<;>simp only at q<;>omega) (by show lv<3;rcases hk with ⟨q,_⟩ | ⟨q,_⟩ | ⟨q,_⟩<;>simp only at q<;>omega) rfl
structure Gc(n:Nat)(c:Cf)(S:PM)(ss:List Sv):Prop where
 I:Inv c S.th S
 s:Gs n c S ss
 ca:S.cache.length<100000
theorem Ga.cc{S1:PM}(ga:Ga n c S S1 ss):Gc n c S1 ss:=⟨by have:=ga.I;rwa [ga.th],ga.s,ga.ca⟩
theorem Gd.cc(g:Gd n c S ss):Gc n c S ss:=⟨g.I,g.s,g.ca⟩
namespace Gc
theorem hl(g:Gc n c S ss):S.th<S.held.length:=by have:=g.I.he;have:=g.I.tK;omega
theorem th(g:Gc n c S ss):S.th<S.aO.length:=by have:=g.I.ca;have:=g.I.tK;omega
theorem Xm(g:Gc n c S ss):∀ s∈S.cache,0≤s∧s<S.slots.length:=by rw [g.I.sl];exact g.I.kJ
theorem aB(g:Gc n c S ss)(x:Int):Gc n c (S.aB x) ss:=⟨g.I.aB x,g.s.aB,g.ca⟩
end Gc
theorem Gs.le{m:Nat}(g:Gs n c S ss)(h:n≤m):Gs m c S ss:=⟨g.sl,JI g.b h,g.cur,g.tt,g.t⟩
theorem Gs.setCache(g:Gs n c S ss){l:List Int}:Gs n c (S.setCache l) ss:=⟨g.sl,g.b,g.cur,g.tt,g.t⟩
structure Lk(n:Nat)(c:Cf)(S S1:PM)(ss:List Sv):Prop where
 th:S1.th=S.th
 hl:S1.th<S1.held.length
 rc:S1.rc=S.rc
 s:Gs (n+1) c S1 ss
theorem LA(g:Gc n c S ss)(x:Tk):Lk n c S (x.ready S).2.2 ss:=by
 unfold Tk.ready;exact SE
theorem PK(g:Gc n c S ss)(x:Tk):Lk n c S (x.step c S).2.2 ss:=by
 unfold Tk.step
 split
 ·split<;>exact⟨rfl,g.hl,rfl,g.s.load.le (pU _)⟩
 split
 ·exact⟨rfl,g.hl,rfl,g.s.load.le (pU _)⟩
 exact SI
theorem Lx(g:Gc n c S ss)(x:Pu):Lk n c S (x.ready c S).2.2 ss:=by
 unfold Pu.ready;exact SE
theorem PE(g:Gc n c S ss)(x:Pu):Lk n c S (x.step c S).2.2 ss:=by
 unfold Pu.step
 split
 ·exact⟨rfl,g.hl,rfl,g.s.load.le (pU _)⟩
 split
 ·exact⟨rfl,g.hl,rfl,g.s.store.le (pU _)⟩
 exact SI
@[reducible] def oq(k kf:Nat)(lp:Value)(st:Int)(a0 a1:Value)(full eU:Int)(tv gv:Value)(slot:Int):En:=ni k 274 (some kf) lp st a0 a1 full [eU,tv,gv,slot]
def ym(K:Ky)(c:Cf)(th k:Nat)(d:In)(L:List En):Prop:=
 (d.wk.az=0∧∃ kf lp a0 a1 tv gv Lf,jN K c th kf d.wk.f Lf∧L=oq k kf lp 0 a0 a1 d.wk.full d.eU tv gv d.slot::Lf)∨
 (d.wk.az=1∧d.wk.f.done=true∧∃ kf lp a0 a1 gv rv kt x,d.take=some x∧L= [oq k kf lp 1 a0 a1 d.wk.full d.eU (some kt) gv d.slot,dG K kf th rv d.wk.f,gr K kt th x])∨
 ((2≤d.wk.az∧d.wk.az≤5)∧∃ kf lp a0 a1 tv gv rv,L= [oq k kf lp d.wk.az a0 a1 d.wk.full d.eU tv gv d.slot,dG K kf th rv d.wk.f])∨
 (d.wk.az=6∧∃ kf lp a0 a1 tv rv kg p,d.aU=some p∧L= [oq k kf lp 6 a0 a1 d.wk.full d.eU tv (some kg) d.slot,dG K kf th rv d.wk.f,nC K kg 267 th p])∨
 (d.wk.az=11∧∃ fp kl tv gv,L= [ni k 274 fp (some kl) 11 d.wk.cj (.int .i64 0) d.wk.full [d.eU,tv,gv,d.slot],An K kl th d.wk.lv])
theorem F3{x:Tk}(h:aq K c S ss w0 w (oq k kf lp 1 a0 a1 full eU (some kt) gv slot::dG K kf S.th rv f::gr K kt S.th x::F))(hd:dk K.toMk d∈F)(hl:S.th<S.held.length)(hrc:0≤S.rc):
  b6 294 k d w (Post K c ss w0 F (ym K c S.th k) (In.taken (⟨⟨f,lv,1,cj,full⟩,eU,take,aU,slot⟩:In) x S)):=by
 have p0:=h.af aj;have n1:=h.put 9 x.res;have gM:=n1.af aj;have e:In.taken (⟨⟨f,lv,1,cj,full⟩,eU,take,aU,slot⟩:In) x S=if x.res<0 then(false,(⟨⟨f,0,11,4,S.now⟩,eU,some x,aU,x.res⟩:In),S) else(false,(⟨⟨f,lv,2,cj,full⟩,eU,some x,aU,x.res⟩:In),S):=rfl;rw [e];clear e
 by_cases hr:x.res<0
 ·rw [aY hr]
  have dr:=cM hr;have n2:=n1.put 5 S.now;have jA:=n2.af aj;have ng:=fun(W:World) (h:aq K c S ss w0 W (oq k kf lp 1 a0 a1 S.now eU (some kt) gv x.res::dG K kf S.th rv f::F))=>gY (x:=4) h hl hrc
  go_enter func294,ntmps294;go_wp2_with fail;refine un (cz h iU) fun wz hw=>?_
  obtain rfl:=hw.symm;go_wp2_with fail;refine un (gK n1 (mT (mT (mT hd)))) fun wz hw=>?_
  obtain rfl:=hw.symm;go_wp2_with fail;refine(ng _ ((n2.perm (fE (L:= [_])).symm).kI (A:= [_]))).mono ?_;exact Nn
 ·rw [aK hr]
  have dr:=dy hr;go_enter func294,ntmps294;go_wp2_with fail;refine un (cz h iU) fun wz hw=>?_
  obtain rfl:=hw.symm;go_wp2;go_ret;exact⟨rfl,[_,_],fun _=>.inr (.inr (.inl ⟨⟨S_,S_⟩,_,_,_,_,_,_,_,rfl⟩)),((n1.perm (fE (L:= [_])).symm).kI (A:= [_])).put 2 _⟩
theorem ae4(h:aq K c S ss w0 w (oq k kf lp 0 a0 a1 full eU tv gv slot::dG K kf S.th rv f::F))(hd:dk K.toMk d∈F)(g:Gc n c S ss)(_:n<900000000000)(hr:0≤S.rc)(hdn:f.done=true)(hf:f.found=true)(hs:slot<0):
  b6 293 k d w (Post K c ss w0 F (ym K c S.th k) (false,(⟨⟨f,0,11,6,full⟩,eU,take,aU,slot⟩:In),(S.aB f.pt))):=by
 have p0:=h.af aj;have q0:=h.af bp;have L8:f.found=true:=hf;clear hf;have xl:=fC h bp hdn;have dr:=cM hs;have hl:=g.hl;have ng:=fun(W:World) (h:aq K c (S.aB f.pt) ss w0 W (oq k kf lp 0 a0 a1 full eU tv gv slot::dG K kf S.th rv f::F))=>gY (x:=6) h hl hr
 go_enter func293,ntmps293;go_wp2_with fail;refine un xl fun w1 e1=>?_
 have m1:=h.next e1;have bB:=m1.af aj;have kW:=m1.af bp;go_wp2_with fail;refine un (cL m1) fun wz hw=>?_
 obtain rfl:=hw.symm;go_wp2_with fail;refine un (cX m1 (mT (mT hd)) g.s) fun w2 m2=>?_
 have dN:=m2.af aj;have oe:=m2.af bp;go_wp2_with fail;refine(ng _ m2).mono ?_;exact Nn
theorem ae3(h:aq K c S ss w0 w (oq k kf lp 0 a0 a1 full eU tv gv slot::dG K kf S.th rv f::F))(hd:dk K.toMk d∈F)(g:Gc n c S ss)(hn:n<900000000000)(hr:0≤S.rc)(hdn:f.done=true)(hf:f.found=true)(hs:0≤slot∧slot<c.S):
  b6 293 k d w (Post K c ss w0 F (ym K c S.th k) (match ((Pu.aU slot).ready c (S.aB f.pt)) with
   | (false,p,S)=>(false,(⟨⟨f,lv,6,cj,full⟩,eU,take,some p,slot⟩:In),S)
   | (true,p,S)=>(false,(⟨⟨f,0,11,6,full⟩,eU,take,some p,slot⟩:In),S))):=by
 have p0:=h.af aj;have q0:=h.af bp;have L8:f.found=true:=hf;clear hf;have xl:=fC h bp hdn;have dr:=dy (Int.not_lt.2 hs.1);have lk:=Lx (g.aB f.pt) (Pu.aU slot);have hgv:=fun(W:World) (h:aq K c (S.aB f.pt) ss w0 W (oq k kf lp 0 a0 a1 full eU tv gv slot::dG K kf S.th rv f::F))=>CL h S.th slot hs.1 (by have:=g.I.sl;show slot<(S.slots.length:Int);omega) O_ (Int.ofNat_lt.2 (g.aB f.pt).th)
 have hm:=fun(W:World) (kg:Nat) (h:aq K c (S.aB f.pt) ss w0 W (nC K kg 267 S.th (Pu.aU slot)::oq k kf lp 6 a0 a1 full eU tv (some kg) slot::dG K kf S.th rv f::F))=>kX h (mT (mT hd)) (by simp [Pu.aU]) ⟨hs.1,(by have:=g.I.sl;show slot<(S.slots.length:Int);omega)⟩ (g.aB f.pt).th g.ca (Nat.lt_trans g.s.b O_)
 obtain⟨t1,l1,r1,_⟩:=lk;generalize ((Pu.aU slot).ready c (S.aB f.pt))=r at hm t1 l1 r1 ⊢;obtain⟨b,x,S1⟩:=r;simp only at hm t1 l1 r1;have t1:S1.th=S.th:=t1;have r1:0≤S1.rc:=by rw [r1];exact hr
 have ng:=fun(W:World) (kg:Nat) (x:Int) (h:aq K c S1 ss w0 W (oq k kf lp 6 a0 a1 full eU tv (some kg) slot::dG K kf S1.th rv f::F))=>gY (x:=x) h l1 r1
 rw [t1] at ng
 cases b
 ·simp only
  go_enter func293,ntmps293;go_wp2_with fail;refine un xl fun w1 e1=>?_
  have m1:=h.next e1;have bB:=m1.af aj;have kW:=m1.af bp;go_wp2_with fail;refine un (cL m1) fun wz hw=>?_
  obtain rfl:=hw.symm;go_wp2_with fail;refine un (cX m1 (mT (mT hd)) g.s) fun w2 m2=>?_
  have dN:=m2.af aj;have oe:=m2.af bp;go_wp2
  go_region_held3 (fun w'=>w'.cell? ⟨k,0,none⟩=some (some kf)∧w'.cell? ⟨k,9,none⟩=some (.int .i64 slot)∧w'.cell? ⟨kf,1,none⟩=some (.int .i64 S.th)) (first | exact⟨dN.1 0,dN.1 9,oe.1 1⟩ | exact⟨iq.1 0,iq.1 9,Ea.1 1⟩ | exact⟨xb.1 0,xb.1 9,Ig.1 1⟩) (first | ((with_reducible refine(hgv _ m2.drew).mono ?_);rintro e zK ⟨xe,rfl,_,m3⟩;have iq:=m3.af bp;have Ea:=m3.af iU;have n3:=m3.swap.put 8 (some xe);have xb:=n3.af aj;have Ig:=n3.af iU))
  have n4:=n3.put 2 (.int .i64 6);have mM:=n4.af aj;go_wp2_with fail;refine un (hm _ xe n4.swap) fun w5 m5=>?_
  exact SZ
 ·simp only
  go_enter func293,ntmps293;go_wp2_with fail;refine un xl fun w1 e1=>?_
  have m1:=h.next e1;have bB:=m1.af aj;have kW:=m1.af bp;go_wp2_with fail;refine un (cL m1) fun wz hw=>?_
  obtain rfl:=hw.symm;go_wp2_with fail;refine un (cX m1 (mT (mT hd)) g.s) fun w2 m2=>?_
  have dN:=m2.af aj;have oe:=m2.af bp;go_wp2
  go_region_held3 (fun w'=>w'.cell? ⟨k,0,none⟩=some (some kf)∧w'.cell? ⟨k,9,none⟩=some (.int .i64 slot)∧w'.cell? ⟨kf,1,none⟩=some (.int .i64 S.th)) (first | exact⟨dN.1 0,dN.1 9,oe.1 1⟩ | exact⟨iq.1 0,iq.1 9,Ea.1 1⟩ | exact⟨xb.1 0,xb.1 9,Ig.1 1⟩) (first | ((with_reducible refine(hgv _ m2.drew).mono ?_);rintro e zK ⟨xe,rfl,_,m3⟩;have iq:=m3.af bp;have Ea:=m3.af iU;have n3:=m3.swap.put 8 (some xe);have xb:=n3.af aj;have Ig:=n3.af iU))
  have n4:=n3.put 2 (.int .i64 6);have mM:=n4.af aj;go_wp2_with fail;refine un (hm _ xe n4.swap) fun w5 m5=>?_
  go_wp2_with fail;refine(ng _ xe 6 (m5.kI (A:= [_]))).mono ?_;exact Nn
theorem ae2(h:aq K c S ss w0 w (oq k kf lp 0 a0 a1 full eU tv gv slot::dG K kf S.th rv f::F))(_:dk K.toMk d∈F)(_:Gc n c S ss)(_:n<900000000000)(hdn:f.done=true)(hf:f.found=false)(hs:0≤slot):
  b6 293 k d w (Post K c ss w0 F (ym K c S.th k) (false,(⟨⟨f,lv,4,cj,full⟩,eU,take,aU,slot⟩:In),S)):=by
 have p0:=h.af aj;have q0:=h.af bp;have L8:f.found=false:=hf;clear hf;have xl:=fC h bp hdn;have dr:=cM hs;go_enter func293,ntmps293;go_wp2_with fail;refine un xl fun w1 e1=>?_
 have m1:=h.next e1;have bB:=m1.af aj;have kW:=m1.af bp;go_wp2_with fail;refine un (cL m1) fun wz hw=>?_
 obtain rfl:=hw.symm;go_wp2;go_ret;exact⟨rfl,[_,_],fun _=>.inr (.inr (.inl ⟨⟨S_,S_⟩,_,_,_,_,_,_,_,rfl⟩)),m1.put 2 _⟩
theorem ae1(h:aq K c S ss w0 w (oq k kf lp 0 a0 a1 full eU tv gv slot::dG K kf S.th rv f::F))(hd:dk K.toMk d∈F)(g:Gc n c S ss)(hn:n<900000000000)(hr:0≤S.rc)(hdn:f.done=true)(hf:f.found=false)(hs:slot<0):
  b6 293 k d w (Post K c ss w0 F (ym K c S.th k) (In.iH (⟨⟨f,lv,1,cj,full⟩,eU,take,aU,slot⟩:In) (Tk.new.ready S))):=by
 have p0:=h.af aj;have q0:=h.af bp;have L8:f.found=false:=hf;clear hf;have xl:=fC h bp hdn;have dr:=dy (Int.not_le.2 hs);have lk:=LA g .new;have htv:=fun(W:World) (h:aq K c S ss w0 W (oq k kf lp 0 a0 a1 full eU tv gv slot::dG K kf S.th rv f::F))=>nr h S.th (by have:=g.I.sl;have:=g.I.bd;omega)
 have hm:=fun(W:World) (kt:Nat) (h:aq K c S ss w0 W (gr K kt S.th .new::oq k kf lp 1 a0 a1 full eU (some kt) gv slot::dG K kf S.th rv f::F))=>gS h (mT (mT hd)) D_ g.th g.Xm g.ca (Nat.lt_trans g.s.b O_)
 obtain⟨t1,l1,r1,_⟩:=lk;generalize Tk.new.ready S=r at hm t1 l1 r1 ⊢;obtain⟨b,x,S1⟩:=r;simp only at hm t1 l1 r1;have r1:0≤S1.rc:=by rw [r1];exact hr
 cases b
 ·simp only [In.iH]
  go_enter func293,ntmps293;go_wp2_with fail;refine un xl fun w1 e1=>?_
  have m1:=h.next e1;have bB:=m1.af aj;have kW:=m1.af bp;go_wp2_with fail;refine un (cL m1) fun wz hw=>?_
  obtain rfl:=hw.symm;go_wp2_with fail;refine(htv _ m1).mono ?_;rintro e w3 ⟨xe,rfl,_,m3⟩;have iq:=m3.af bp;have Ea:=m3.af iU;have n3:=m3.swap.put 7 (some xe);have xb:=n3.af aj;have Ig:=n3.af iU;go_wp2_with fail;have n4:=n3.put 2 (.int .i64 1);have mM:=n4.af aj;go_wp2_with fail;refine un (hm _ xe n4.swap) fun w5 m5=>?_
  have m6:=m5.perm (fE (L:= [_]));have pm6:=m6.af aj;go_wp2;go_ret;exact⟨rfl,[_,_,_],fun _=>.inr (.inl ⟨rfl,hdn,_,_,_,_,_,_,_,_,rfl,rfl⟩),m6⟩
 ·simp only [In.iH]
  have tC:=fun(W:World) (kt:Nat) (h:aq K c S1 ss w0 W (oq k kf lp 1 a0 a1 full eU (some kt) gv slot::dG K kf S1.th rv f::gr K kt S1.th x::F))=>F3 (take:=take) (aU:=aU) (lv:=lv) (cj:=cj) h hd l1 r1
  rw [t1] at tC;generalize In.taken (⟨⟨f,lv,1,cj,full⟩,eU,take,aU,slot⟩:In) x S1=r3 at tC ⊢;go_enter func293,ntmps293;go_wp2_with fail;refine un xl fun w1 e1=>?_
  have m1:=h.next e1;have bB:=m1.af aj;have kW:=m1.af bp;go_wp2_with fail;refine un (cL m1) fun wz hw=>?_
  obtain rfl:=hw.symm;go_wp2_with fail;refine(htv _ m1).mono ?_;rintro e w3 ⟨xe,rfl,_,m3⟩;have iq:=m3.af bp;have Ea:=m3.af iU;have n3:=m3.swap.put 7 (some xe);have xb:=n3.af aj;have Ig:=n3.af iU;go_wp2_with fail;have n4:=n3.put 2 (.int .i64 1);have mM:=n4.af aj;go_wp2_with fail;refine un (hm _ xe n4.swap) fun w5 m5=>?_
  have m6:=m5.perm (fE (L:= [_]));have pm6:=m6.af aj;go_wp2_with fail;refine(tC _ xe m6).mono ?_;exact QJ
end
section
variable{K:Ky}{c:Cf}{S:PM}{ss:List Sv}{w0 w w':World}{F H Lf:List En}{d b n k kt kf kl kr kg q:Nat}{t:TypeId}{cs tl:List Value}{tv gv rv lp fp a0 a1 pv:Value}{R:Nat→Int}{e nm pd:List Int}{f:Fi}{lv cj full eU slot:Int}{take:Option Tk}{aU:Option Pu}
theorem ZO(h:aq K c S ss w0 w (oq k kf lp 0 a0 a1 full eU tv gv slot::dG K kf S.th rv f::F))(hd:dk K.toMk d∈F)(g:Gc n c S ss)(hn:n<900000000000)(hr:0≤S.rc)(hdn:f.done=true)(hs:slot=-1∨J5 c slot):
  b6 293 k d w (Post K c ss w0 F (ym K c S.th k) (In.eo c (⟨⟨f,lv,0,cj,full⟩,eU,take,aU,slot⟩:In) S)):=by
 have e:In.eo c (⟨⟨f,lv,0,cj,full⟩,eU,take,aU,slot⟩:In) S=if f.found then(if slot<0 then(false,(⟨⟨f,0,11,6,full⟩,eU,take,aU,slot⟩:In),(S.aB f.pt)) else(match ((Pu.aU slot).ready c (S.aB f.pt)) with
   | (false,p,S)=>(false,(⟨⟨f,lv,6,cj,full⟩,eU,take,some p,slot⟩:In),S)
   | (true,p,S)=>(false,(⟨⟨f,0,11,6,full⟩,eU,take,some p,slot⟩:In),S))) else if 0≤slot then(false,(⟨⟨f,lv,4,cj,full⟩,eU,take,aU,slot⟩:In),S) else In.iH (⟨⟨f,lv,1,cj,full⟩,eU,take,aU,slot⟩:In) (Tk.new.ready S):=rfl
 rw [e];clear e
 by_cases hf:f.found
 ·rw [aY hf]
  by_cases h0:slot<0
  ·rw [aY h0];exact ae4 h hd g hn hr hdn hf h0
  ·rw [aK h0];exact ae3 h hd g hn hr hdn hf (by rcases hs with q | ⟨q,r⟩<;>omega)
 ·rw [aK hf]
  have hf:f.found=false:=by simpa using hf
  by_cases h0:0≤slot
  ·rw [aY h0];exact ae2 h hd g hn hdn hf h0
  ·rw [aK h0];exact ae1 h hd g hn hr hdn hf O_
theorem ae0(h:aq K c S ss w0 w (oq k kf lp 0 a0 a1 full eU tv gv slot::(Lf++F)))(hd:dk K.toMk d∈F)(g:Gd n c S ss)(ax:Ax S)(hn:n<800000000000)(hr:0≤S.rc)(aZ:R 47=0)(o:jN K c S.th kf f Lf)(ha:jO c f S q R e nm pd)(hs:slot=-1∨J5 c slot):
  b6 292 k d w (Post K c ss w0 F (ym K c S.th k) (In.step c (⟨⟨f,lv,0,cj,full⟩,eU,take,aU,slot⟩:In) S)):=by
 have h1:=h.perm (G:=Lf++_::F) dV.symm;have hm:=pO h1 o (mT hd) g ax hn ha;have ga:=pN g o aZ ha;have hdn:=vU g aZ ha;have p0:=h.af aj;have eO:0≤(f.step c S).2.2.rc:=by rw [ga.kp.rc];exact hr
 have iV:=ga.th;have gc:=ga.cc;clear ga ha
 have hst:In.step c (⟨⟨f,lv,0,cj,full⟩,eU,take,aU,slot⟩:In) S=match f.step c S with
   | (false,f,S)=>(false,(⟨⟨f,lv,0,cj,full⟩,eU,take,aU,slot⟩:In),S)
   | (true,f,S)=>In.eo c (⟨⟨f,lv,0,cj,full⟩,eU,take,aU,slot⟩:In) S:=rfl
 rw [hst];clear hst;generalize f.step c S=r at hm hdn eO iV gc ⊢;obtain⟨b,f1,S1⟩:=r;simp only at hdn eO iV gc
 cases b
 ·simp only
  go_enter func292,ntmps292;go_wp2_with fail;refine hm.mono ?_;rintro e w1 ⟨rfl,L,o1,m1⟩;go_wp2;go_ret;exact⟨rfl,_::L,fun _=>.inl ⟨rfl,_,_,_,_,_,_,_,o1,rfl⟩,m1.perm dV⟩
 ·simp only
  obtain⟨d1,d2,_⟩:=hdn rfl;have P7:=fun(W:World) (rv:Value) (h:aq K c S1 ss w0 W (oq k kf lp 0 a0 a1 full eU tv gv slot::dG K kf S1.th rv f1::F))=>ZO (take:=take) (aU:=aU) (lv:=lv) (cj:=cj) h hd gc O_ eO d1 hs
  rw [iV] at P7;generalize In.eo c (⟨⟨f1,lv,0,cj,full⟩,eU,take,aU,slot⟩:In) S1=r3 at P7 ⊢;go_enter func292,ntmps292;exact Wm
theorem aeZ{x:Tk}(h:aq K c S ss w0 w (oq k kf lp 1 a0 a1 full eU (some kt) gv slot::dG K kf S.th rv f::gr K kt S.th x::F))(hd:dk K.toMk d∈F)(g:Gd n c S ss)(ax:Ax S)(hn:n<800000000000)(hr:0≤S.rc)(hdn:f.done=true)(hx:RR c x):
  b6 292 k d w (Post K c ss w0 F (ym K c S.th k) (In.step c (⟨⟨f,lv,1,cj,full⟩,eU,some x,aU,slot⟩:In) S)):=by
 have hm:=iI (h.perm (fE (L:= [_])).symm) (mT (mT hd)) g.I ax.1 ax.2 g.bb hx;obtain⟨t1,l1,r1,_⟩:=PK g.cc x;have p0:=h.af aj;have q0:=h.af iU;have e:In.step c (⟨⟨f,lv,1,cj,full⟩,eU,some x,aU,slot⟩:In) S=In.iH (⟨⟨f,lv,1,cj,full⟩,eU,some x,aU,slot⟩:In) (x.step c S):=rfl;rw [e];clear e;generalize x.step c S=r at hm t1 l1 r1 ⊢;obtain⟨b,x1,S1⟩:=r;simp only at hm t1 l1 r1;have r1:0≤S1.rc:=by rw [r1];exact hr
 cases b
 ·simp only [In.iH]
  go_enter func292,ntmps292;go_wp2_with fail;refine un hm fun w5 m5=>?_
  go_wp2;go_ret;exact⟨rfl,[_,_,_],fun _=>.inr (.inl ⟨rfl,hdn,_,_,_,_,_,_,_,_,rfl,rfl⟩),m5.perm (fE (L:= [_]))⟩
 ·simp only [In.iH]
  have tC:=fun(W:World) (h:aq K c S1 ss w0 W (oq k kf lp 1 a0 a1 full eU (some kt) gv slot::dG K kf S1.th rv f::gr K kt S1.th x1::F))=>F3 (take:=some x) (aU:=aU) (lv:=lv) (cj:=cj) h hd l1 r1
  rw [t1] at tC;generalize In.taken (⟨⟨f,lv,1,cj,full⟩,eU,some x,aU,slot⟩:In) x1 S1=r3 at tC ⊢;go_enter func292,ntmps292;go_wp2_with fail;refine un hm fun w5 m5=>?_
  have m6:=m5.perm (fE (L:= [_]));go_wp2_with fail;refine(tC _ m6).mono ?_;exact QJ
theorem aeY(h:aq K c S ss w0 w (oq k kf lp 2 a0 a1 full eU tv gv slot::dG K kf S.th rv f::F))(hd:dk K.toMk d∈F)(g:Gd n c S ss)(ax:Ax S)(hs:0≤slot∧slot<c.S):
  b6 292 k d w (Post K c ss w0 F (ym K c S.th k) (false,(⟨⟨f,lv,3,cj,full⟩,eU,take,aU,slot⟩:In),S.store (c.ad 11 slot) (u64 f.key))):=by
 have xi:=g.I.iO (r:=11) S_ hs.1 hs.2;have a:=g.I.eX (r:=11) O_ O_ xi;have hI:=g.I.ok;have hla:=fun(W:World) (h:aq K c S ss w0 W (oq k kf lp 2 a0 a1 full eU tv gv slot::dG K kf S.th rv f::F))=>fZ 11 h hI O_ O_ xi rfl
 have p0:=h.af aj;have q0:=h.af bp;go_enter func292,ntmps292;go_wp2
 go_region_held3 (fun w'=>w'.cell? ⟨k,0,none⟩=some (some kf)∧w'.cell? ⟨k,9,none⟩=some (.int .i64 slot)∧w'.cell? ⟨kf,0,none⟩=some (some K.bH)∧w'.cell? ⟨kf,3,none⟩=some (.int .i64 f.key)) (first | exact⟨p0.1 0,p0.1 9,q0.1 0,q0.1 3⟩ | exact⟨bB.1 0,bB.1 9,kW.1 0,kW.1 3⟩ | exact⟨dN.1 0,dN.1 9,oe.1 0,oe.1 3⟩) (first | ((with_reducible refine un (hla _ h.drew) fun dx gx=>?_);have m1:=h.drew.next gx;have bB:=m1.af aj;have kW:=m1.af bp) | ((with_reducible refine un (kA _ _) fun wz hw=>?_);obtain rfl:=hw.symm) | ((with_reducible refine un (cx m1 (mT (mT hd)) ax a) fun jP m2=>?_);have dN:=m2.af aj;have oe:=m2.af bp))
 exact Wl
theorem aeX(h:aq K c S ss w0 w (oq k kf lp 3 a0 a1 full eU tv gv slot::dG K kf S.th rv f::F))(hd:dk K.toMk d∈F)(g:Gd n c S ss)(ax:Ax S)(hs:0≤slot∧slot<c.S):
  b6 292 k d w (Post K c ss w0 F (ym K c S.th k) (false,(⟨⟨f,lv,4,cj,full⟩,eU,take,aU,slot⟩:In),S.store (c.ad 12 slot) (u64 eU))):=by
 have xi:=g.I.iO (r:=12) S_ hs.1 hs.2;have a:=g.I.eX (r:=12) O_ O_ xi;have hI:=g.I.ok;have hla:=fun(W:World) (h:aq K c S ss w0 W (oq k kf lp 3 a0 a1 full eU tv gv slot::dG K kf S.th rv f::F))=>fZ 12 h hI O_ O_ xi rfl
 have p0:=h.af aj;have q0:=h.af bp;go_enter func292,ntmps292;go_wp2
 go_region_held3 (fun w'=>w'.cell? ⟨k,0,none⟩=some (some kf)∧w'.cell? ⟨k,9,none⟩=some (.int .i64 slot)∧w'.cell? ⟨k,6,none⟩=some (.int .i64 eU)∧w'.cell? ⟨kf,0,none⟩=some (some K.bH)) (first | exact⟨p0.1 0,p0.1 9,p0.1 6,q0.1 0⟩ | exact⟨bB.1 0,bB.1 9,bB.1 6,kW.1 0⟩ | exact⟨dN.1 0,dN.1 9,dN.1 6,oe.1 0⟩) (first | ((with_reducible refine un (hla _ h.drew) fun dx gx=>?_);have m1:=h.drew.next gx;have bB:=m1.af aj;have kW:=m1.af bp) | ((with_reducible refine un (kA _ _) fun wz hw=>?_);obtain rfl:=hw.symm) | ((with_reducible refine un (cx m1 (mT (mT hd)) ax a) fun jP m2=>?_);have dN:=m2.af aj;have oe:=m2.af bp))
 exact Wl
theorem aeW(h:aq K c S ss w0 w (oq k kf lp 4 a0 a1 full eU tv gv slot::dG K kf S.th rv f::F))(hd:dk K.toMk d∈F)(g:Gd n c S ss)(ax:Ax S)(hs:0≤slot∧slot<c.S):
  b6 292 k d w (Post K c ss w0 F (ym K c S.th k) (false,(⟨⟨f,lv,5,cj,full⟩,eU,take,aU,slot⟩:In),S.store (c.ad 13 slot) f.w)):=by
 have xi:=g.I.iO (r:=13) S_ hs.1 hs.2;have a:=g.I.eX (r:=13) O_ O_ xi;have hI:=g.I.ok;have hla:=fun(W:World) (h:aq K c S ss w0 W (oq k kf lp 4 a0 a1 full eU tv gv slot::dG K kf S.th rv f::F))=>fZ 13 h hI O_ O_ xi rfl
 have p0:=h.af aj;have q0:=h.af bp;go_enter func292,ntmps292;go_wp2
 go_region_held3 (fun w'=>w'.cell? ⟨k,0,none⟩=some (some kf)∧w'.cell? ⟨k,9,none⟩=some (.int .i64 slot)∧w'.cell? ⟨kf,0,none⟩=some (some K.bH)∧w'.cell? ⟨kf,6,none⟩=some (.int .u64 f.w)) (first | exact⟨p0.1 0,p0.1 9,q0.1 0,q0.1 6⟩ | exact⟨bB.1 0,bB.1 9,kW.1 0,kW.1 6⟩ | exact⟨dN.1 0,dN.1 9,oe.1 0,oe.1 6⟩) (first | ((with_reducible refine un (hla _ h.drew) fun dx gx=>?_);have m1:=h.drew.next gx;have bB:=m1.af aj;have kW:=m1.af bp) | ((with_reducible refine un (cx m1 (mT (mT hd)) ax a) fun jP m2=>?_);have dN:=m2.af aj;have oe:=m2.af bp))
 exact Wl
theorem ZL(h:aq K c S ss w0 w (oq k kf lp 5 a0 a1 full eU tv gv slot::dG K kf S.th rv f::F))(hd:dk K.toMk d∈F)(g:Gd n c S ss)(ax:Ax S)(hs:0≤slot∧slot<c.S)(a:0≤f.p∧f.p<S.words.length)(CA:S.w f.p=f.w→Pw c (kd c f.p) (pk slot))(hr:0≤S.rc)(ha:0≤f.root∧f.root<S.words.length)(hb:decide (S.w f.p=f.w)=false):
  b6 292 k d w (Post K c ss w0 F (ym K c S.th k) (false,(⟨⟨(Fi.new f.root f.key),lv,0,cj,full⟩,eU,take,aU,slot⟩:In),(S.swap f.p f.w (pk slot)))):=by
 have F7:=g.I.bd;have hk:=fun W=>tA slot W O_ O_
 have g1:Gd n c (S.swap f.p f.w (pk slot)) ss:=g.swap a CA;have Ez:=fun(W:World) (h:aq K c (S.swap f.p f.w (pk slot)) ss w0 W (oq k kf lp 5 a0 a1 full eU tv gv slot::dG K kf S.th rv f::F))=>wI (x:=0) h (g1:Gd n c (S.swap f.p f.w (pk slot)) ss) hr ⟨ha.1,(by have h1:=g.I.len;have h2:=g1.I.len;omega)⟩
 have p0:=h.af aj;have q0:=h.af bp;go_enter func292,ntmps292;go_wp2_with fail;refine un (hk _) fun wz hw=>?_
 obtain rfl:=hw.symm;go_wp2
 go_region_held3 (fun w'=>w'.cell? ⟨k,0,none⟩=some (some kf)∧w'.cell? ⟨kf,5,none⟩=some (.int .i64 f.p)∧w'.cell? ⟨kf,6,none⟩=some (.int .u64 f.w)) (first | exact⟨p0.1 0,q0.1 5,q0.1 6⟩ | exact⟨bB.1 0,kW.1 5,kW.1 6⟩) (first | ((with_reducible refine un (cD h.drew (mT (mT hd)) ax a hb) fun dx m1=>?_);have bB:=m1.af aj;have kW:=m1.af bp))
 go_wp2_with fail;refine(Ez _ m1).mono ?_;rintro e w4 ⟨rfl,kf1,m4⟩;go_wp2;go_ret;exact⟨rfl,[_,_],fun _=>.inl ⟨rfl,_,_,_,_,_,_,_,.inl ⟨(by simp [Fi.new]),_,rfl⟩,rfl⟩,m4⟩
theorem ZK(h:aq K c S ss w0 w (oq k kf lp 5 a0 a1 full eU tv gv slot::dG K kf S.th rv f::F))(hd:dk K.toMk d∈F)(g:Gd n c S ss)(ax:Ax S)(hs:0≤slot∧slot<c.S)(a:0≤f.p∧f.p<S.words.length)(hr:0≤S.rc)(hn:n<800000000000)(hb:decide (S.w f.p=f.w)=true):
  b6 292 k d w (Post K c ss w0 F (ym K c S.th k) (false,(⟨⟨f,0,11,5,full⟩,eU,take,aU,slot⟩:In),(((S.swap f.p f.w (pk slot)).aB S.now).shift slot 3))):=by
 have F7:=g.I.bd;have hk:=fun W=>tA slot W O_ O_
 have gs:Gs n c (S.swap f.p f.w (pk slot)) ss:=g.s.swap;have hN:n≤1000000000000:=O_
 have hl:=g.hl;have ng:=fun(W:World) (h:aq K c (((S.swap f.p f.w (pk slot)).aB S.now).shift slot 3) ss w0 W (oq k kf lp 5 a0 a1 full eU tv gv slot::dG K kf S.th rv f::F))=>gY (x:=5) h hl hr
 have p0:=h.af aj;have q0:=h.af bp;go_enter func292,ntmps292;go_wp2_with fail;refine un (hk _) fun wz hw=>?_
 obtain rfl:=hw.symm;go_wp2
 go_region_held3 (fun w'=>w'.cell? ⟨k,0,none⟩=some (some kf)∧w'.cell? ⟨kf,5,none⟩=some (.int .i64 f.p)∧w'.cell? ⟨kf,6,none⟩=some (.int .u64 f.w)) (first | exact⟨p0.1 0,q0.1 5,q0.1 6⟩ | exact⟨bB.1 0,kW.1 5,kW.1 6⟩) (first | ((with_reducible refine un (cD h.drew (mT (mT hd)) ax a hb) fun dx m1=>?_);have bB:=m1.af aj;have kW:=m1.af bp))
 go_wp2_with fail;refine un (gK m1 (mT (mT hd))) fun wz hw=>?_
 obtain rfl:=hw.symm;go_wp2_with fail;refine un (cX m1 (mT (mT hd)) gs) fun w2 m2=>?_
 have dN:=m2.af aj;have oe:=m2.af bp;go_wp2
 go_region_held3 (fun w'=>w'.cell? ⟨k,0,none⟩=some (some kf)∧w'.cell? ⟨k,9,none⟩=some (.int .i64 slot)∧w'.cell? ⟨kf,0,none⟩=some (some K.bH)) (first | exact⟨dN.1 0,dN.1 9,oe.1 0⟩ | exact⟨iq.1 0,iq.1 9,Ea.1 0⟩) (first | ((with_reducible refine un (cL m2.drew) fun wz hw=>?_);obtain rfl:=hw.symm) | ((with_reducible refine un (eN m2.drew (mT (mT hd)) gs.aB hs Xz hN) fun zK m3=>?_);have iq:=m3.af aj;have Ea:=m3.af bp))
 go_wp2_with fail;refine(ng _ m3).mono ?_;exact Nn
theorem aeV{p:Pu}(h:aq K c S ss w0 w (oq k kf lp 6 a0 a1 full eU tv (some kg) slot::dG K kf S.th rv f::nC K kg 267 S.th p::F))(hd:dk K.toMk d∈F)(g:Gd n c S ss)(ax:Ax S)(hr:0≤S.rc)(hp:Tn c p)(hn:n<800000000000):
  b6 292 k d w (Post K c ss w0 F (ym K c S.th k) (In.step c (⟨⟨f,lv,6,cj,full⟩,eU,take,some p,slot⟩:In) S)):=by
 have hm:=lZ (h.perm (fE (L:= [_])).symm) (mT (mT hd)) g.I ax.1 ax.2 g.bb hp;obtain⟨t1,l1,r1,_⟩:=PE g.cc p;have p0:=h.af aj
 have e:In.step c (⟨⟨f,lv,6,cj,full⟩,eU,take,some p,slot⟩:In) S=match p.step c S with
   | (false,p,S)=>(false,(⟨⟨f,lv,6,cj,full⟩,eU,take,some p,slot⟩:In),S)
   | (true,p,S)=>(false,(⟨⟨f,0,11,6,full⟩,eU,take,some p,slot⟩:In),S):=rfl
 rw [e];clear e;generalize p.step c S=r at hm t1 l1 r1 ⊢;obtain⟨b,x1,S1⟩:=r;simp only at hm t1 l1 r1;have r1:0≤S1.rc:=by rw [r1];exact hr
 have ng:=fun(W:World) (h:aq K c S1 ss w0 W (oq k kf lp 6 a0 a1 full eU tv (some kg) slot::dG K kf S1.th rv f::F))=>gY (x:=6) h l1 r1
 rw [t1] at ng
 cases b
 ·simp only
  go_enter func292,ntmps292;go_wp2_with fail;refine un hm fun w5 m5=>?_
  exact SZ
 ·simp only
  go_enter func292,ntmps292;go_wp2_with fail;refine un hm fun w5 m5=>?_
  go_wp2_with fail;refine(ng _ (m5.kI (A:= [_]))).mono ?_;exact Nn
theorem ZM{wk:Wk}(h:aq K c S ss w0 w (ni k 274 fp (some kl) 11 wk.cj (.int .i64 0) wk.full [eU,tv,gv,slot]::An K kl S.th wk.lv::F))(hd:dk K.toMk d∈F)(g:Gd n c S ss)(ax:Ax S)(hr:0≤S.rc)(h0:0≤wk.lv)(h3:wk.lv<3)(hs:wk.az=11):
  b6 292 k d w (Post K c ss w0 F (ym K c S.th k) (In.step c ⟨wk,eU,take,aU,slot⟩ S)):=by
 have p0:=h.af aj;have hm:=vC h hd g ax hr h0 h3;have e:In.step c ⟨wk,eU,take,aU,slot⟩ S=In.lift ⟨wk,eU,take,aU,slot⟩ (wk.left c S):=by unfold In.step;simp only [hs];rfl
 rw [e];clear e;have hk:(wk.left c S).2.1.az=11∧(wk.left c S).2.1.cj=wk.cj∧(wk.left c S).2.1.full=wk.full:=Wn;generalize wk.left c S=r at hm hk ⊢;obtain⟨b,wk1,S1⟩:=r;obtain⟨k1,k2,k3⟩:=hk;simp only at hm k1 k2 k3;rw [←k2,←k3] at hm;clear k2 k3;simp only [In.lift];go_enter func292,ntmps292;go_wp2_with fail;refine un hm fun w1 m1=>?_
 go_wp2;go_ret;exact⟨rfl,[_,_],fun _=>.inr (.inr (.inr (.inr ⟨k1,_,_,_,_,rfl⟩))),m1⟩
theorem U6{x:In}{bk:List Int}{O:List En}(h:aq K c S ss w0 w (O++F))(o:ym K c S.th k x O)(hd:dk K.toMk d∈F)(g:Gd n c S ss)(ax:Ax S)(hn:n<800000000000)(ha:nR c x S q R bk nm pd):
  b6 292 k d w (Post K c ss w0 F (ym K c S.th k) (In.step c x S)):=by
 obtain⟨⟨f,lv,st,cj,full⟩,eU,take,aU,slot⟩:=x;obtain⟨aZ,hr,_,ha⟩:=ha;simp only [ym] at ha o
 rcases ha with ⟨hs,_,_,mG,e,_,ha⟩ | ⟨hs,_,_,_,x,hx,ha⟩ | ⟨_,_,⟨hc,h2,hp,h3,hw⟩,ok,_,⟨hs,_⟩ | ⟨hs,_⟩ | ⟨hs,_⟩ | ⟨hs,_⟩⟩ | ⟨hs,_,_,p,hp,ha⟩ | ⟨hs,⟨_,hk⟩,_⟩<;>subst hs<;>
  rcases o with ⟨q1,kf,lp,a0,a1,tv,gv,Lf,o,rfl⟩ | ⟨q2,hdn,kf,lp,a0,a1,gv,rv,kt,x',hx',rfl⟩ | ⟨q3,kf,lp,a0,a1,tv,gv,rv,rfl⟩ | ⟨q4,kf,lp,a0,a1,tv,rv,kg,p',L1,rfl⟩ | ⟨q5,fp,kl,tv,gv,rfl⟩<;>try omega
 ·exact ae0 h hd g ax hn hr aZ o ha mG
 ·obtain rfl:take=some x:=hx
  obtain rfl:x=x':=Option.some.inj hx';exact aeZ h hd g ax hn hr hdn (uP ha)
 ·exact aeY h hd g ax ok
 ·exact aeX h hd g ax ok
 ·exact aeW h hd g ax ok
 ·obtain⟨aP,_,sP⟩:=g.I.pa hp
  have e:In.step c ⟨⟨f,lv,5,cj,full⟩,eU,take,aU,slot⟩ S=if S.w f.p=f.w then(false,⟨⟨f,0,11,5,full⟩,eU,take,aU,slot⟩,((S.swap f.p f.w (pk slot)).aB S.now).shift slot 3) else(false,⟨⟨Fi.new f.root f.key,lv,0,cj,full⟩,eU,take,aU,slot⟩,S.swap f.p f.w (pk slot)):=rfl;rw [e]
  by_cases q:S.w f.p=f.w
  ·rw [aY q];exact ZK h hd g ax ok aP hr hn (cM q)
  ·rw [aK q];exact ZL h hd g ax ok aP (fun _=>sP _ (.pk g.I (by have:=ok.1;omega) ok.2)) hr (g.I.pa hc.pr).1 (dy q)
 ·obtain rfl:aU=some p:=hp
  obtain rfl:p=p':=Option.some.inj L1;exact aeV h hd g ax hr (Ed ha.2) hn
 ·exact ZM (wk:=⟨f,lv,11,cj,full⟩) h hd g ax hr (by show 0≤lv;rcases hk with ⟨q,_⟩ | ⟨q,_⟩ | ⟨q,_⟩<;>omega) (by show lv<3;rcases hk with ⟨q,_⟩ | ⟨q,_⟩ | ⟨q,_⟩<;>omega) rfl
end
end Go.Proofs.YtgbhnihkgmpocaaGreat
