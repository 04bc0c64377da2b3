/- Part 16 of 16 of the proof of PoolPlays. No condition. -/
import Derived.Deep.MidRow
import Derived.ProofKit
import Derived.SizedLaws
import Derived.Below
import Derived.Test.YtgbhnihkgmpocaaGreatRows
import Derived.Test.YtgbhnihkgmpocaaGreatChecked
import Derived.Test.YtgbhnihkgmpocaaGreatM14
namespace Go.Proofs.YtgbhnihkgmpocaaGreat
set_option maxRecDepth 100000
set_option maxHeartbeats 4000000
open Go.Proofs.Tryz
variable{P:Prop}
theorem abV(x:P:=by
 have qb:=fun z:aL W2=>((h2.next z.ok).af aj).1
 have qT:=fun z:aL W2=>((h2.next z.ok).bd.1 11).trans (show _=some (.slice (some ⟨D.gt,0,none⟩) ov.length D.ct) from rfl)
 have qo:=fun z:aL W2=>((h2.next z.ok).tr ht (i:=0) rfl).trans (show _=some (.bool x.busy) from rfl)
 simp only [gn] at qo;have rW:=aJ hE;clear hE;refine qE fun z1=>?_
 go_wp2_with fail;generalize CG:z1.world=W3;have e3:Ext W2 W3:=CG▸z1.ok;clear CG qb qT qo;have h3:=h2.next e3;have tS:=aJ (Ext.next rW.out e3);clear h2 e3;have qb:=fun z:aL W3=>((h3.next z.ok).af aj).1
 have qT:=fun z:aL W3=>((h3.next z.ok).bd.1 11).trans (show _=some (.slice (some ⟨D.gt,0,none⟩) ov.length D.ct) from rfl)
 have qo:=fun z:aL W3=>((h3.next z.ok).tr ht (i:=0) rfl).trans (show _=some (.bool x.busy) from rfl)
 simp only [gn] at qo;simp only [hb] at qo;refine qE fun z2=>?_
 go_wp2_with fail;go_ret;exact⟨rfl,Ext.next tS.out z2.ok⟩):P:=x
theorem abT(x:P:=by
 have h2:aW D c th ov m x v vc vt vs lv w0 (w.alloc (.cells #[.int .i64 (th:Int),op,arg,dat] 36)) (ob w.heap.size 36 [.int .i64 (th:Int),op,arg,dat]::F):=h.alloc #[.int .i64 (th:Int),op,arg,dat] 36;have hE:Ext w (w.alloc (.cells #[.int .i64 (th:Int),op,arg,dat] 36)):=(bu w).aE _;go_enter func115,ntmps115;go_wp2_with fail;generalize (w.alloc (.cells #[.int .i64 (th:Int),op,arg,dat] 36))=W2 at h2 hE ⊢;have qb:=fun z:aL W2=>((h2.next z.ok).af aj).1
 have qT:=fun z:aL W2=>((h2.next z.ok).bd.1 11).trans (show _=some (.slice (some ⟨D.gt,0,none⟩) ov.length D.ct) from rfl)
 have qr:=fun z:aL W2=>((h2.next z.ok).tr ht (i:=53) rfl).trans (show _=some (.int .i64 x.rc) from rfl)
 have rW:=aJ hE;clear hE;refine qE fun z1=>?_
 go_wp2_with fail;go_ret;exact⟨lu (by simp [RM.may]),Ext.next rW.out z1.ok⟩):P:=x
theorem QO(x:P:=by
 clear hx hfl j7 pH;go_wp2_with fail;refine qZ z fun z4=>?_
 go_wp2_with fail
 go_roundw
 case rel=>exact⟨z4,i+1,rfl,O_,by go_num⟩
 case measure=>simp [intOf];omega):P:=x
theorem Wo(x:P:=by
 go_enter func56,ntmps56;go_wp2_with fail;refine un (tD.out _) fun w2 e2=>?_
 have hE:=aJ (h1.next e2).ext;clear tD h1 p1;go_wp2_with fail;go_ret;exact⟨rfl,hE.out⟩):P:=x
theorem SL(x:P:=by
 refine qE fun z2=>?_
 go_wp2_with fail;go_ret;exact⟨lu (by simp [RM.may];omega),Ext.next tS.out z2.ok⟩):P:=x
theorem Ns(x:P:=by
 rintro e w' ⟨rfl,e⟩;exact⟨rfl,h0.next e⟩):P:=x
open Go.RowKit
theorem LD{P:Nat→Prop}:∀ n,P n→∃ k,P k∧∀ j,P j→k≤j:=by
 intro n
 induction n using Nat.strongRecOn with
 | ind n ih=>
  intro h
  by_cases h2:∃ k,k<n∧P k
  ·obtain⟨k,hk,hp⟩:=h2
   exact ih k hk hp
  ·exact⟨n,h,fun j hj=>Nat.le_of_not_lt fun hlt=>h2 ⟨j,hlt,hj⟩⟩
open Classical in
noncomputable def vD(P:Nat→Prop):Nat:=if h:∃ k,P k∧∀ j,P j→k≤j then Classical.choose h else 0
theorem nG{P:Nat→Prop}{n:Nat}(h:P n):P (vD P)∧vD P≤n:=by
 have e:=LD n h;unfold vD;rw [dif_pos e];exact⟨(Classical.choose_spec e).1,(Classical.choose_spec e).2 n h⟩
section
variable{D:Dk}{c:Cf}{th:Nat}{ov:List (RT×Tv)}{m m':RM}{x x':RT}{v v':Tv}{vc vt vs:Value}{lv:List Value}{w0 w w':World}{F G:List En}{a b cc tt l:Nat}{d:Int}{y:Cl}
def StR(D:Dk)(c:Cf)(th:Nat)(ov:List (RT×Tv))(w0:World)(F:List En)(m':RM)(x':RT)(made:Bool)(w:World)(n:Nat):Prop:=
 ∃ m1 x1,Dt D c th ov m1 x1 w0 w F∧tM c aI cI th n made m1 x1=some (m',x')∧Bm c m1∧Bx c x1∧x1.call<m1.calls.length∧iM m1+fJ x1+oT x1+(if made then 0 else 8)≤4000000∧m1.words.length<1000000
def StM(D:Dk)(c:Cf)(th:Nat)(ov:List (RT×Tv))(w0:World)(F:List En)(m':RM)(x':RT)(s:Value)(w:World)(n:Nat):Prop:=∃ made,s=.bool made∧StR D c th ov w0 F m' x' made w n
theorem ofT{P:Program}{f:FuncId}{args:Array Value}(hlv:lv.length=m'.lists.length)(jL:kL x' v)(C:Calls P f args w fun e w'=>e=.returned (.tuple #[])∧∃ WI,aW D c th ov m' x' v vc WI vs lv w0 w' F):Calls P f args w (LQ D c th ov m' x' w0 F):=C.mono fun _ _ ⟨h,WI,b⟩=>⟨h,v,vc,WI,vs,lv,hlv,jL,b⟩
theorem QA{i:eJ}(h:aW D c th ov m x v vc vt vs lv w0 w F)(ht:th<ov.length)(hlv:lv.length=m.lists.length)(jL:kL x v)(B:Bm c m)(hi:aI[x.pc]?=some i)(hk:i.k≤3)(ha:J3 c cI th i m {x with pc:=x.pc+1}=some (m',x'))(hP:iM m<5000000)(LW:m.words.length<1000000):
  Calls prog 135 #[some D.bD,th,.agg #[.int .i64 (i.k:Int),.int .i64 (i.a:Int),.int .i64 (i.b:Int),.int .i64 (i.c:Int),i.d,.int .i64 (i.ag:Int)]] w (LQ D c th ov m' x' w0 F):=by
 obtain⟨ra,rb,rc,rd,d1,d2,xA,_,r3⟩:=zS hi;have tl:=Aq hi;have hp:x.pc<1000:=by have:=(fO.1 hi).1;rw [lG] at this;omega
 obtain⟨k,a,b,cc,d,tt⟩:=i;simp only at hk ra rb rc rd d1 d2 xA r3 tl ⊢;have ra':a<48:=O_
 have fG:kL {x with pc:=x.pc+1} v:=jL;have WW:m.trace.length<10000000:=by unfold iM at hP;omega
 have RD:k=3→d=((d.toNat:Nat):Int):=fun e=>by have:=r3 e;omega
 unfold J3 at ha;dsimp only at ha;obtain⟨A,hA⟩:∃ A,(wrap64 (x.R cc)+if b=0 then 0 else c.ad b 0)=A:=⟨_,rfl⟩;rw [hA] at ha
 split at ha
 case isFalse=>cases ha
 rename_i hg;obtain⟨ad,rfl⟩:∃ ad:Nat,A=(ad:Int):=⟨A.toNat,O_⟩;have Vq:ad<m.words.length:=O_
 rw [mW] at ha;obtain⟨v0,LX⟩:∃ v0,m.words[ad]?=some v0:=⟨_,fy Vq⟩;have hgd:m.words.getD ad 0=v0:=by rw [kO,LX];rfl
 rw [hgd] at ha;have fin:=fun q1 q2 q3=>ofT (m':=m') (x':=x') q1 q2 (Fa (l:=cI tt) (v0:=v0) (dd:=d.toNat) h ht hp B.ok rc (xA hk) hA Vq LW B.mv ra' RD rd tl WW LX q3)
 split at ha
 ·simp only [Option.some.injEq,Prod.mk.injEq] at ha
  obtain⟨rfl,rfl⟩:=ha;exact fin hlv fG (.inl ⟨rfl,rfl,rfl⟩)
 ·simp only [Option.some.injEq,Prod.mk.injEq] at ha
  obtain⟨rfl,rfl⟩:=ha;exact fin hlv fG (.inr (.inl ⟨rfl,rfl,rfl⟩))
 ·split at ha
  ·rename_i hv
   simp only [Option.some.injEq,Prod.mk.injEq] at ha;obtain⟨rfl,rfl⟩:=ha;exact fin hlv fG (.inr (.inr (.inl ⟨rfl,hv,rfl,rfl⟩)))
  ·rename_i hv
   simp only [Option.some.injEq,Prod.mk.injEq] at ha;obtain⟨rfl,rfl⟩:=ha;exact fin hlv fG (.inr (.inr (.inr ⟨rfl,hv,rfl,rfl⟩)))
 ·cases ha
theorem Jj(h:Dt D c th ov m x w0 w F)(ht:th<ov.length){n:Nat}(hr:tM c aI cI th n false m x=some (m',x'))(B:Bm c m)(X:Bx c x)(hC:x.call<m.calls.length)(hP:iM m+fJ x+oT x≤3000000)(LW:m.words.length<1000000):
  Calls prog 114 #[some D.bD,th] w (LQ D c th ov m' x' w0 F):=by
 have H0:Hid (StR D c th ov w0 F m' x' false w n):=aJ ⟨m,x,h,hr,B,X,hC,by simp;omega,LW⟩
 have pD:w.cell? ⟨D.bD,11,none⟩=some (.slice (some ⟨D.gt,0,none⟩) ov.length D.ct):=by
  obtain⟨v,vc,vt,vs,lv,_,_,h⟩:=h;exact(h.bd.1 11).trans rfl
 have dt:=jH ht;clear h hr B X hC hP LW;go_in;go_wp2_with fail;clear pD
 go_loopw [5] (fun s5 wr=>∃ (made:Bool) (n:Nat),s5=.bool made∧Hid (StR D c th ov w0 F m' x' made wr n)) (fun s5 wr=>vD (StM D c th ov w0 F m' x' s5 wr))
 case atStart=>exact⟨false,n,rfl,H0⟩
 case round=>
  clear H0 n;obtain⟨made,n0,rfl,HN⟩:=hrel;obtain⟨hs,hle⟩:=nG (P:=StM D c th ov w0 F m' x' made wr) ⟨made,rfl,HN.out⟩;obtain⟨n,hn⟩:∃ n,vD (StM D c th ov w0 F m' x' made wr)=n:=⟨_,rfl⟩;rw [hn] at hs;have Hn:=aJ hn;clear hn HN hle n0;obtain⟨YA,hm2,m1,x1,⟨v,vc,vt,vs,lv,hlv,jL,h⟩,hr,B,X,hC,hP,LW⟩:=hs;obtain rfl:made=YA:=by injection hm2
  clear hm2;have q0:=(h.tr ht (i:=0) rfl).trans (show _=some (.bool x1.busy) from rfl);rw [gn] at q0
  cases n with
  | zero=>cases hr
  | succ n=>
  unfold tM at hr
  split at hr
  case isFalse hb=>
   have hb:x1.busy=false:=by simpa using hb
   rw [hb] at q0;simp only [Option.some.injEq,Prod.mk.injEq] at hr;have Hr:=aJ hr;clear hr;have Hf:Hid (Dt D c th ov m' x' w0 wr F):=aJ (by obtain⟨rfl,rfl⟩:=Hr.out;exact⟨v,vc,vt,vs,lv,hlv,jL,h⟩);clear h hlv jL Hr;go_wp2_with fail;exact iP ⟨rfl,Hf.out⟩
  case isTrue hb=>
   rw [hb] at q0
   split at hr
   ·cases hr
   rename_i i hi;have pb:=fT hb;obtain⟨ra,rb,rc,rd,d1,d2,xA,_,r3⟩:=zS hi;have tl:=Aq hi;have P5:=(fO.1 hi).1;have hp:x1.pc<1000:=by rw [lG] at P5;omega
   have gj:∀ w',Ext wr w'→((w').cell? ⟨D.bD,8,none⟩=some (.slice (some ⟨D.gk,0,none⟩) aI.length D.ck)∧(w').cell? ⟨D.gt,th*658+2,none⟩=some (.int .i64 (x1.pc:Int))∧(w').cell? ⟨D.gk,x1.pc*6,none⟩=some (.int .i64 (i.k:Int))∧(w').cell? ⟨D.gk,x1.pc*6+1,none⟩=some (.int .i64 (i.a:Int))∧(w').cell? ⟨D.gk,x1.pc*6+2,none⟩=some (.int .i64 (i.b:Int))∧(w').cell? ⟨D.gk,x1.pc*6+3,none⟩=some (.int .i64 (i.c:Int))∧(w').cell? ⟨D.gk,x1.pc*6+4,none⟩=some (.int .i64 i.d)∧(w').cell? ⟨D.gk,x1.pc*6+5,none⟩=some (.int .i64 (i.ag:Int))):=fun w' e=>⟨((h.next e).bd.1 8).trans rfl,((h.next e).tr ht (i:=2) rfl).trans rfl,by have:=(h.next e).code hi (i:=0) rfl;rwa [gn] at this,(h.next e).code hi (i:=1) rfl,(h.next e).code hi (i:=2) rfl,(h.next e).code hi (i:=3) rfl,(h.next e).code hi (i:=4) rfl,(h.next e).code hi (i:=5) rfl⟩
   have gC:=gj wr (bu wr);have y6:x1.pc<aI.length:=P5;have Hh:=aJ h;have Hi:=aJ hi;have Hr:=aJ hr;clear h hi hr;obtain⟨nc,hnc⟩:∃ nc,aI.length=nc:=⟨_,rfl⟩;rw [hnc] at gj gC y6;clear hnc P5;go_wp2_with fail;refine tX (Ds (S:=fun w':World=>w'.cell? ⟨D.bD,8,none⟩=some (.slice (some ⟨D.gk,0,none⟩) nc D.ck)∧w'.cell? ⟨D.gt,th*658+2,none⟩=some (.int .i64 (x1.pc:Int))∧w'.cell? ⟨D.gk,x1.pc*6,none⟩=some (.int .i64 (i.k:Int))∧w'.cell? ⟨D.gk,x1.pc*6+1,none⟩=some (.int .i64 (i.a:Int))∧w'.cell? ⟨D.gk,x1.pc*6+2,none⟩=some (.int .i64 (i.b:Int))∧w'.cell? ⟨D.gk,x1.pc*6+3,none⟩=some (.int .i64 (i.c:Int))∧w'.cell? ⟨D.gk,x1.pc*6+4,none⟩=some (.int .i64 i.d)∧w'.cell? ⟨D.gk,x1.pc*6+5,none⟩=some (.int .i64 (i.ag:Int))) K_ gC (fun hHeld=>?_));refine bn 0 ?_;refine bn 1 ?_;refine bn 2 ?_;refine bn 3 ?_;refine bn 4 ?_;refine bn 5 ?_;refine bn 6 ?_;refine bn 7 ?_;refine bn 8 ?_;refine bn 9 ?_;refine eI 10 fun Kq cr=>?_
   go_simp;refine cr.out _ _ (gj _ (((bu wr).aE _).bh)) (fun hHeld=>?_);refine eI 11 fun Kq cr=>?_
   go_simp;refine cr.out _ _ (gj _ (((bu wr).aE _).bh)) (fun hHeld=>?_);refine Be K_ ?_ _;refine GQ ?_
   (try simp only [Exit.then])
   have h2:aW D c th ov m1 x1 v vc vt vs lv w0 ((wr.alloc (.cells #[.int .i64 (i.k:Int),.int .i64 (i.a:Int),.int .i64 (i.b:Int),.int .i64 (i.c:Int),i.d,.int .i64 (i.ag:Int)] 236)).drew) (ob wr.heap.size 236 [.int .i64 (i.k:Int),.int .i64 (i.a:Int),.int .i64 (i.b:Int),.int .i64 (i.c:Int),i.d,.int .i64 (i.ag:Int)]::F):=(Hh.out.alloc #[.int .i64 (i.k:Int),.int .i64 (i.a:Int),.int .i64 (i.b:Int),.int .i64 (i.c:Int),i.d,.int .i64 (i.ag:Int)] 236).drew;clear hHeld gj gC y6 q0;generalize ((wr.alloc (.cells #[.int .i64 (i.k:Int),.int .i64 (i.a:Int),.int .i64 (i.b:Int),.int .i64 (i.c:Int),i.d,.int .i64 (i.ag:Int)] 236)).drew)=W2 at h2 ⊢;have qb:=(h2.af aj).1;have hr:=Hr.out
   by_cases hk:i.k≤3
   ·have dk:decide ((i.k:Int)≤3)=true:=cM O_
    rw [aY hk] at hr
    cases made with
    | true=>
     simp only [dL,Option.some.injEq,Prod.mk.injEq] at hr;have HR:=aJ hr;have H2:=aJ h2;clear hr h2;go_wp2_with fail;exact DL (v:=.tuple #[]) (results_none rfl _ _ _) rfl ⟨rfl,by obtain⟨rfl,rfl⟩:=HR.out;exact⟨v,vc,vt,vs,lv,hlv,jL,H2.out.drop⟩⟩
    | false=>
     simp only [mD,eu] at hr hP
     split at hr
     ·cases hr
     rename_i m2 x2 ha;have N:=GF (x:={x1 with pc:=x1.pc+1}) Hi.out hb rfl B ⟨X.R,X.bk,X.rc,X.ca⟩ ha;have C:=QA h2 ht hlv jL B Hi.out hk ha O_ LW;have HR:=aJ hr;have HN:=aJ N;have HP:=aJ hP;clear hr N h2 hP ha;go_wp2_with fail;refine un C fun w3 hd=>?_
     have H3:Hid (StR D c th ov w0 F m' x' true w3 n):=aJ ⟨m2,x2,hd.drop,HR.out,HN.out.bm,HN.out.bx,by have h1:=HN.out.ca;have h3:=HN.out.cl;simp only at h1 h3;omega,by have h1:=HN.out.Rm;have h3:=HP.out;rw [show fJ {x1 with pc:=x1.pc+1}=fJ x1 from rfl] at h1;simp only [dL];omega,by have h1:=HN.out.wl;omega⟩;clear hd;go_wp2
     go_roundw
     case rel=>exact⟨true,n,rfl,H3⟩
     case measure=>exact Nat.lt_of_le_of_lt (nG (P:=StM D c th ov w0 F m' x' true w3) ⟨true,rfl,H3.out⟩).2 (by have h1:=Hn.out;exact Nat.lt_of_lt_of_eq (Nat.lt_succ_self n) h1.symm)
   ·have dk:decide ((i.k:Int)≤3)=false:=dy O_
    rw [aK hk] at hr
    split at hr
    ·cases hr
    rename_i m2 x2 ha;have N:=FY (x:={x1 with pc:=x1.pc+1}) Hi.out hb rfl B ⟨X.R,X.bk,X.rc,X.ca⟩ ha;obtain⟨y,hy⟩:∃ y,m1.calls[x1.call]?=some y:=⟨_,fy hC⟩;have C:=IC (⟨h2,ht,hlv,jL,B,X,hy,O_⟩:Gi D c th ov m1 x1 v vc vt vs lv w0 W2 _ y) Hi.out ha;have HR:=aJ hr;have HN:=aJ N;have HP:=aJ hP;clear hr N h2 hP ha hy;go_wp2_with fail;refine un C fun w3 hd=>?_
    have H3:Hid (StR D c th ov w0 F m' x' made w3 n):=aJ ⟨m2,x2,hd.drop,HR.out,HN.out.bm,HN.out.bx,by have h1:=HN.out.ca;have h3:=HN.out.cl;simp only at h1 h3;omega,by have h1:=HN.out.Rm;have h3:=HP.out;rw [show fJ {x1 with pc:=x1.pc+1}=fJ x1 from rfl] at h1;omega,by have h1:=HN.out.wl;omega⟩;clear hd;go_wp2
    go_roundw
    case rel=>exact⟨made,n,rfl,H3⟩
    case measure=>exact Nat.lt_of_le_of_lt (nG (P:=StM D c th ov w0 F m' x' made w3) ⟨made,rfl,H3.out⟩).2 (by have h1:=Hn.out;exact Nat.lt_of_lt_of_eq (Nat.lt_succ_self n) h1.symm)
theorem Lu(h:aW D c th ov m x v vc vt vs lv w0 w F)(ht:th<ov.length)(op arg dat:Int):
  cm 115 #[some D.bD,.agg #[.int .i64 (th:Int),op,arg,dat],.int .i64 0] w (.bool (m.may c x th arg 0)) fun w'=>Ext w w':=by
 have h2:aW D c th ov m x v vc vt vs lv w0 (w.alloc (.cells #[.int .i64 (th:Int),op,arg,dat] 36)) (ob w.heap.size 36 [.int .i64 (th:Int),op,arg,dat]::F):=h.alloc #[.int .i64 (th:Int),op,arg,dat] 36;have hE:Ext w (w.alloc (.cells #[.int .i64 (th:Int),op,arg,dat] 36)):=(bu w).aE _;go_enter func115,ntmps115;go_wp2_with fail;generalize (w.alloc (.cells #[.int .i64 (th:Int),op,arg,dat] 36))=W2 at h2 hE ⊢;have qb:=fun z:aL W2=>((h2.next z.ok).af aj).1
 have qT:=fun z:aL W2=>((h2.next z.ok).bd.1 11).trans (show _=some (.slice (some ⟨D.gt,0,none⟩) ov.length D.ct) from rfl)
 have qr:=fun z:aL W2=>((h2.next z.ok).tr ht (i:=53) rfl).trans (show _=some (.int .i64 x.rc) from rfl)
 have rW:=aJ hE;clear hE;refine qE fun z1=>?_
 go_wp2_with fail;generalize CG:z1.world=W3;have e3:Ext W2 W3:=CG▸z1.ok;clear CG qb qT qr;have h3:=h2.next e3;have tS:=aJ (Ext.next rW.out e3);clear h2 e3;have qb:=fun z:aL W3=>((h3.next z.ok).af aj).1
 have qT:=fun z:aL W3=>((h3.next z.ok).bd.1 11).trans (show _=some (.slice (some ⟨D.gt,0,none⟩) ov.length D.ct) from rfl)
 have qk:=fun z:aL W3=>((h3.next z.ok).tr ht (i:=56) rfl).trans (show _=some (.int .u64 0) from rfl)
 refine qE fun z2=>?_
 go_wp2;go_ret;exact⟨lu (by simp [RM.may]),Ext.next tS.out z2.ok⟩
theorem Lt(h:aW D c th ov m x v vc vt vs lv w0 w F)(ht:th<ov.length)(op arg dat:Int):
  cm 115 #[some D.bD,.agg #[.int .i64 (th:Int),op,arg,dat],.int .i64 1] w (.bool (m.may c x th arg 1)) fun w'=>Ext w w':=abT
theorem Lp(h:aW D c th ov m x v vc vt vs lv w0 w F)(ht:th<ov.length)(op arg dat:Int):
  cm 115 #[some D.bD,.agg #[.int .i64 (th:Int),op,arg,dat],.int .i64 2] w (.bool (m.may c x th arg 2)) fun w'=>Ext w w':=abT
theorem Lo(h:aW D c th ov m x v vc vt vs lv w0 w F)(ht:th<ov.length)(op arg dat:Int):
  cm 115 #[some D.bD,.agg #[.int .i64 (th:Int),op,arg,dat],.int .i64 3] w (.bool (m.may c x th arg 3)) fun w'=>Ext w w':=by
 have h2:aW D c th ov m x v vc vt vs lv w0 (w.alloc (.cells #[.int .i64 (th:Int),op,arg,dat] 36)) (ob w.heap.size 36 [.int .i64 (th:Int),op,arg,dat]::F):=h.alloc #[.int .i64 (th:Int),op,arg,dat] 36;have hE:Ext w (w.alloc (.cells #[.int .i64 (th:Int),op,arg,dat] 36)):=(bu w).aE _;go_enter func115,ntmps115;go_wp2_with fail;generalize (w.alloc (.cells #[.int .i64 (th:Int),op,arg,dat] 36))=W2 at h2 hE ⊢;have qb:=fun z:aL W2=>((h2.next z.ok).af aj).1
 have qT:=fun z:aL W2=>((h2.next z.ok).bd.1 11).trans (show _=some (.slice (some ⟨D.gt,0,none⟩) ov.length D.ct) from rfl)
 have qr:=fun z:aL W2=>((h2.next z.ok).tr ht (i:=53) rfl).trans (show _=some (.int .i64 x.rc) from rfl)
 have rW:=aJ hE;clear hE;refine qE fun z1=>?_
 go_wp2_with fail;generalize CG:z1.world=W3;have e3:Ext W2 W3:=CG▸z1.ok;clear CG qb qT qr;have h3:=h2.next e3;have tS:=aJ (Ext.next rW.out e3);clear h2 e3;have qb:=fun z:aL W3=>((h3.next z.ok).af aj).1
 have qH:=fun z:aL W3=>((h3.next z.ok).bd.1 2).trans (show _=some (.int .i64 c.H) from rfl)
 by_cases h1:0≤x.rc<;>by_cases h5:0≤arg<;>by_cases h4:arg<c.H
 all_goals
  refine qE fun z2=>?_
  go_wp2;go_ret;exact⟨lu (by simp [RM.may,h1,h5,h4]),Ext.next tS.out z2.ok⟩
theorem Ln(h:aW D c th ov m x v vc vt vs lv w0 w F)(ht:th<ov.length)(op arg dat:Int)(hst:(m.states.length:Int)=c.S)(hho:(m.bS.length:Int)=c.S):
  cm 115 #[some D.bD,.agg #[.int .i64 (th:Int),op,arg,dat],.int .i64 4] w (.bool (m.may c x th arg 4)) fun w'=>Ext w w':=by
 have h2:aW D c th ov m x v vc vt vs lv w0 (w.alloc (.cells #[.int .i64 (th:Int),op,arg,dat] 36)) (ob w.heap.size 36 [.int .i64 (th:Int),op,arg,dat]::F):=h.alloc #[.int .i64 (th:Int),op,arg,dat] 36;have hE:Ext w (w.alloc (.cells #[.int .i64 (th:Int),op,arg,dat] 36)):=(bu w).aE _;go_enter func115,ntmps115;go_wp2_with fail;generalize (w.alloc (.cells #[.int .i64 (th:Int),op,arg,dat] 36))=W2 at h2 hE ⊢;have qb:=fun z:aL W2=>((h2.next z.ok).af aj).1
 have qT:=fun z:aL W2=>((h2.next z.ok).bd.1 11).trans (show _=some (.slice (some ⟨D.gt,0,none⟩) ov.length D.ct) from rfl)
 have qr:=fun z:aL W2=>((h2.next z.ok).tr ht (i:=53) rfl).trans (show _=some (.int .i64 x.rc) from rfl)
 have rW:=aJ hE;clear hE;refine qE fun z1=>?_
 go_wp2_with fail;generalize CG:z1.world=W3;have e3:Ext W2 W3:=CG▸z1.ok;clear CG qb qT qr;have h3:=h2.next e3;have tS:=aJ (Ext.next rW.out e3);clear h2 e3;have qb:=fun z:aL W3=>((h3.next z.ok).af aj).1
 have qS:=fun z:aL W3=>((h3.next z.ok).bd.1 5).trans (show _=some (.int .i64 c.S) from rfl)
 have qs:=fun z:aL W3=>((h3.next z.ok).bd.1 12).trans (show _=some (.slice (some ⟨D.gs,0,none⟩) m.states.length D.cs) from rfl)
 have qh:=fun z:aL W3=>((h3.next z.ok).bd.1 13).trans (show _=some (.slice (some ⟨D.gh,0,none⟩) m.bS.length D.ch) from rfl)
 by_cases h1:0≤arg
 ·by_cases h5:arg<c.S
  ·obtain⟨a,rfl⟩:∃ a:Nat,arg=(a:Int):=⟨arg.toNat,O_⟩
   have l1:a<m.states.length:=O_
   have l2:a<m.bS.length:=O_
   obtain⟨fs,xj⟩:∃ f,m.states[a]?=some f:=⟨_,fy l1⟩;obtain⟨fh,Og⟩:∃ f,m.bS[a]?=some f:=⟨_,fy l2⟩;have y1:=fun z:aL W3=>(h3.next z.ok).stat xj
   have y2:=fun z:aL W3=>(h3.next z.ok).hol Og
   have hmay:Hid (m.may c x th a 4=(decide (fs=2) && decide (fh=th))):=by
    show _=_
    simp [RM.may,xj,Og,h5]
   clear xj Og hst hho
   rcases(show((fs==2)=true∧fs=2)∨((fs==2)=false∧¬fs=2) by by_cases e:fs=2<;>simp [e]) with ⟨b1,c1⟩ | ⟨b1,c1⟩<;>rcases(show((fh==(th:Int))=true∧fh=th)∨((fh==(th:Int))=false∧¬fh=th) by by_cases e:fh=(th:Int)<;>simp [e]) with ⟨b2,c2⟩ | ⟨b2,c2⟩
   all_goals
    have C1:=aJ c1;have C2:=aJ c2;clear c1 c2;refine qE fun z2=>?_
    go_wp2;go_ret;exact⟨lu (by rw [hmay.out];simp [C1.out,C2.out]),Ext.next tS.out z2.ok⟩
  ·exact SL
 ·exact SL
theorem Has.Qu{H:List En}{b:Nat}{t:TypeId}{cs:List Value}(h:Has w0 w H)(hm:ob b t cs∈H)(i:Nat):w.cell? ⟨b,i,none⟩=cs[i]?:=by simp only [World.cell?,Has.uG h hm];simp
theorem Jl{TC op arg dat:Int}{n:Nat}(hT:∀ w',Ext w w'→w'.cell? ⟨D.bD,11,none⟩=some (.slice (some ⟨D.gt,0,none⟩) n D.ct))(hv:TC<0∨(n:Int)≤TC):
  cm 51 #[some D.bD,.agg #[TC,op,arg,dat]] w false fun w'=>Ext w w':=by
 have hE:Ext w (w.alloc (.cells #[TC,op,arg,dat] 36)):=(bu w).aE _;have h2:=(Has.start w).alloc #[TC,op,arg,dat] 36;go_enter func51,ntmps51;go_wp2_with fail;generalize (w.alloc (.cells #[TC,op,arg,dat] 36))=W2 at h2 hE ⊢;have qb:=fun z:aL W2=>(h2.next z.ok).Qu (b:=w.heap.size) aj
 have qT:=fun z:aL W2=>hT _ (Ext.next hE z.ok)
 have rW:=aJ hE;clear hE hT
 by_cases h1:TC<0
 all_goals
  refine qE fun z1=>?_
  go_wp2;go_ret;exact⟨rfl,Ext.next rW.out z1.ok⟩
theorem EP(h:aW D c th ov m x v vc vt vs lv w0 w F)(ht:th<ov.length){arg dat:Int}(hb:x.busy=false):
  cm 51 #[some D.bD,.agg #[.int .i64 (th:Int),.int .i64 0,arg,dat]] w false fun w'=>Ext w w':=by
 have h2:aW D c th ov m x v vc vt vs lv w0 (w.alloc (.cells #[.int .i64 (th:Int),.int .i64 0,arg,dat] 36)) (ob w.heap.size 36 [.int .i64 (th:Int),.int .i64 0,arg,dat]::F):=h.alloc #[.int .i64 (th:Int),.int .i64 0,arg,dat] 36;have hE:Ext w (w.alloc (.cells #[.int .i64 (th:Int),.int .i64 0,arg,dat] 36)):=(bu w).aE _;have g1:decide ((th:Int)<0)=false:=dy O_;have g2:decide ((ov.length:Int)≤(th:Int))=false:=dy O_;go_enter func51,ntmps51;go_wp2_with fail;generalize (w.alloc (.cells #[.int .i64 (th:Int),.int .i64 0,arg,dat] 36))=W2 at h2 hE ⊢;exact abV
theorem ER(h:aW D c th ov m x v vc vt vs lv w0 w F)(ht:th<ov.length){op arg dat:Int}(ho:(op==0)=false)(hb:x.busy=true):
  cm 51 #[some D.bD,.agg #[.int .i64 (th:Int),op,arg,dat]] w false fun w'=>Ext w w':=by
 have h2:aW D c th ov m x v vc vt vs lv w0 (w.alloc (.cells #[.int .i64 (th:Int),op,arg,dat] 36)) (ob w.heap.size 36 [.int .i64 (th:Int),op,arg,dat]::F):=h.alloc #[.int .i64 (th:Int),op,arg,dat] 36;have hE:Ext w (w.alloc (.cells #[.int .i64 (th:Int),op,arg,dat] 36)):=(bu w).aE _;have g1:decide ((th:Int)<0)=false:=dy O_;have g2:decide ((ov.length:Int)≤(th:Int))=false:=dy O_;go_enter func51,ntmps51;go_wp2_with fail;generalize (w.alloc (.cells #[.int .i64 (th:Int),op,arg,dat] 36))=W2 at h2 hE ⊢;exact abV
theorem EO(h:aW D c th ov m x v vc vt vs lv w0 w F)(ht:th<ov.length){arg dat:Int}(hb:x.busy=true)(hlv:lv.length=m.lists.length)(jL:kL x v){n:Nat}(hr:tM c aI cI th n false m x=some (m',x'))(B:Bm c m)(X:Bx c x)(hC:x.call<m.calls.length)(hP:iM m+fJ x+oT x≤3000000)(LW:m.words.length<1000000):
  cm 51 #[some D.bD,.agg #[.int .i64 (th:Int),.int .i64 0,arg,dat]] w true fun w'=>Dt D c th ov m' x' w0 w' F:=by
 have h2:aW D c th ov m x v vc vt vs lv w0 (w.alloc (.cells #[.int .i64 (th:Int),.int .i64 0,arg,dat] 36)) (ob w.heap.size 36 [.int .i64 (th:Int),.int .i64 0,arg,dat]::F):=h.alloc #[.int .i64 (th:Int),.int .i64 0,arg,dat] 36;have hE:Ext w (w.alloc (.cells #[.int .i64 (th:Int),.int .i64 0,arg,dat] 36)):=(bu w).aE _;have g1:decide ((th:Int)<0)=false:=dy O_;have g2:decide ((ov.length:Int)≤(th:Int))=false:=dy O_;go_enter func51,ntmps51;go_wp2_with fail;generalize (w.alloc (.cells #[.int .i64 (th:Int),.int .i64 0,arg,dat] 36))=W2 at h2 hE ⊢;have qb:=fun z:aL W2=>((h2.next z.ok).af aj).1
 have qT:=fun z:aL W2=>((h2.next z.ok).bd.1 11).trans (show _=some (.slice (some ⟨D.gt,0,none⟩) ov.length D.ct) from rfl)
 have qo:=fun z:aL W2=>((h2.next z.ok).tr ht (i:=0) rfl).trans (show _=some (.bool x.busy) from rfl)
 simp only [gn] at qo;have rW:=aJ hE;clear hE;refine qE fun z1=>?_
 go_wp2_with fail;generalize CG:z1.world=W3;have e3:Ext W2 W3:=CG▸z1.ok;clear CG qb qT qo;have h3:=h2.next e3;have tS:=aJ (Ext.next rW.out e3);clear h2 e3;have qb:=fun z:aL W3=>((h3.next z.ok).af aj).1
 have qT:=fun z:aL W3=>((h3.next z.ok).bd.1 11).trans (show _=some (.slice (some ⟨D.gt,0,none⟩) ov.length D.ct) from rfl)
 have qo:=fun z:aL W3=>((h3.next z.ok).tr ht (i:=0) rfl).trans (show _=some (.bool x.busy) from rfl)
 simp only [gn] at qo;simp only [hb] at qo;have HR:=aJ hr;clear hr;refine qE fun z2=>?_
 go_wp2_with fail;refine un (Jj ⟨v,vc,vt,vs,lv,hlv,jL,h3.next z2.ok⟩ ht HR.out B X hC hP LW) fun w3 hd=>?_
 have HD:=aJ hd;clear hd;go_wp2;go_ret;exact⟨rfl,HD.out.drop⟩
theorem Py(h:aW D c th ov m x v vc vt vs lv w0 w F)(ht:th<ov.length)(op arg dat:Int)(hst:(m.states.length:Int)=c.S)(hho:(m.bS.length:Int)=c.S){k:Int}(hk:0≤k∧k≤4):
  cm 115 #[some D.bD,.agg #[.int .i64 (th:Int),op,arg,dat],k] w (.bool (m.may c x th arg k)) fun w'=>Ext w w':=by
 rcases(by omega:k=0∨k=1∨k=2∨k=3∨k=4) with rfl | rfl | rfl | rfl | rfl
 ·exact Lu h ht op arg dat
 ·exact Lt h ht op arg dat
 ·exact Lp h ht op arg dat
 ·exact Lo h ht op arg dat
 ·exact Ln h ht op arg dat hst hho
theorem Ll:(aM.all fun e=>decide (0≤e.dP∧e.dP≤4))=true:=by decide+kernel
theorem VQ{e:mJ}(hm:e∈aM):(0≤e.dP∧e.dP≤4)∧bz[e.label]?=some (cI e.label):=by
 have h1:=of_decide_eq_true (Dv.1 Ll e hm);have h2:=Dv.1 Qg e hm;rw [wT,beq_iff_eq] at h2;refine⟨h1,?_⟩;rw [←h2.1,kO,fy (of_decide_eq_true h2.2)]
 rfl
def z48:Value:=.agg (List.replicate 48 (Value.int .u64 0)).toArray
theorem aa7{a:Act}{w:World}{o:Oper}(ho:o.op=Op.build 39 #[]):(execOp a.eval o).run prog w=.ok (.value z48) w:=by
 obtain⟨dst,op,type,pos,after,guard⟩:=o;obtain rfl:op=_:=ho;refine Eq.trans (b:=Result.ok (.value z48) w) ?_ rfl
 kernel_rfl
theorem aW.ent(h:aW D c th ov m x v vc vt vs lv w0 w F){i:Nat}{e:mJ}(hi:aM[i]?=some e){k:Nat}{u:Value}(hu:e.enc[k]?=some u):w.cell? ⟨D.ge,i*3+k,none⟩=some u:=
 Has.ey (g:=D.ge) (c:=D.ce) h iu (flat_get mJ.enc 3 (fun _=>rfl) hi hu)
theorem Jm(h:aW D c th ov m x v vc vt vs lv w0 w F)(ht:th<ov.length){op arg dat:Int}(ho:(op==0)=false)(hb:x.busy=false)(hlv:lv.length=m.lists.length)(jL:kL x v)(B:Bm c m)(hC:m.calls.length<1000000){R:Option mJ}(hR:aM.find? (fun e=>e.op==op && m.may c x th arg e.dP)=R):
  Calls prog 51 #[some D.bD,.agg #[.int .i64 (th:Int),op,arg,dat]] w fun e w'=>(R=none→e=.returned false∧Ext w w')∧∀ en,R=some en→e=.returned true∧Dt D c th ov {m with calls:=m.calls++ [⟨(th:Int),op,arg,dat,m.au,-1,-1,0,0⟩]} {x with busy:=true,call:=m.calls.length,pc:=cI en.label,R:=fun _=>0,back:= []} w0 w' F:=by
 have h2:aW D c th ov m x v vc vt vs lv w0 (w.alloc (.cells #[.int .i64 (th:Int),op,arg,dat] 36)) (ob w.heap.size 36 [.int .i64 (th:Int),op,arg,dat]::F):=h.alloc #[.int .i64 (th:Int),op,arg,dat] 36;have hE:Ext w (w.alloc (.cells #[.int .i64 (th:Int),op,arg,dat] 36)):=(bu w).aE _;have g1:decide ((th:Int)<0)=false:=dy O_;have g2:decide ((ov.length:Int)≤(th:Int))=false:=dy O_;go_in;go_wp2_with fail;generalize (w.alloc (.cells #[.int .i64 (th:Int),op,arg,dat] 36))=W2 at h2 hE ⊢;have qb:=fun z:aL W2=>((h2.next z.ok).af aj).1
 have qT:=fun z:aL W2=>((h2.next z.ok).bd.1 11).trans (show _=some (.slice (some ⟨D.gt,0,none⟩) ov.length D.ct) from rfl)
 have qo:=fun z:aL W2=>((h2.next z.ok).tr ht (i:=0) rfl).trans (show _=some (.bool x.busy) from rfl)
 simp only [gn] at qo;have rW:=aJ hE;clear hE;refine qE fun z1=>?_
 go_wp2_with fail;generalize CG:z1.world=W3;have e3:Ext W2 W3:=CG▸z1.ok;clear CG qb qT qo;have h3:=h2.next e3;have tS:=aJ (Ext.next rW.out e3);clear h2 e3;have qb:=fun z:aL W3=>((h3.next z.ok).af aj).1
 have qT:=fun z:aL W3=>((h3.next z.ok).bd.1 11).trans (show _=some (.slice (some ⟨D.gt,0,none⟩) ov.length D.ct) from rfl)
 have qo:=fun z:aL W3=>((h3.next z.ok).tr ht (i:=0) rfl).trans (show _=some (.bool x.busy) from rfl)
 simp only [gn] at qo;simp only [hb] at qo;refine qE fun z2=>?_
 generalize hW4:z2.world=W4;have e4:Ext W3 W4:=hW4▸z2.ok;clear hW4 qb qT qo;have h4:=h3.next e4;have Mj:=aJ (Ext.next tS.out e4);clear h3 e4 tS rW h;have qb:=fun z:aL W4=>((h4.next z.ok).af aj).1
 have qo:=fun z:aL W4=>((h4.next z.ok).tr ht (i:=0) rfl).trans (show _=some (.bool x.busy) from rfl)
 simp only [gn] at qo;simp only [hb] at qo;have qe:=(h4.bd.1 10).trans (show _=some (.slice (some ⟨D.ge,0,none⟩) 19 D.ce) from rfl);have qb4:=(h4.af aj).1;have qo4:=qo ⟨W4,bu W4⟩;have H4:=aJ h4;have HB:=aJ B;have HR:=aJ hR;clear h4 hR B qb qo;go_wp2_with fail;clear qe qb4 qo4
 go_loopw [48] (fun s48 wr=>∃ i:Nat,s48=.int .i64 i∧i≤19∧Hid (Ext W4 wr)∧Hid ((aM.drop i).find? (fun e=>e.op==op && m.may c x th arg e.dP)=R)) (fun s48 _=>19 - (intOf s48).toNat)
 case atStart=>exact⟨0,rfl,nU _,aJ (bu W4),HR⟩
 case round=>
  clear HR;obtain⟨i,rfl,hi,hz,hf⟩:=hrel;have h5:=H4.out.next hz.out;have hE5:=aJ (Ext.next Mj.out hz.out);have yY:=hz;clear hz;skip
  by_cases hlt:i<19
  case neg=>
   have hn:R=none:=by
    have:=hf.out;rw [show i=19 from O_] at this;exact this.symm
   have dl:decide ((i:Int)<19)=false:=dy O_;have HN:=aJ hn;clear hn hf h5;go_wp2;go_ret;exact⟨fun _=>⟨rfl,hE5.out⟩,fun en he=>by rw [HN.out] at he;cases he⟩
  case pos=>
   have dl:decide ((i:Int)<19)=true:=cM O_;have P5:i<aM.length:=hlt;obtain⟨en,Ma⟩:∃ en,aM[i]=en:=⟨_,rfl⟩;have hd:aM.drop i=en::aM.drop (i+1):=by rw [←Ma];exact GR P5
   have he:aM[i]?=some en:=by rw [←Ma];exact fy P5
   clear Ma;obtain⟨Vg,hlb⟩:=VQ (nV he);have hf:=hf.out;rw [hd,DC] at hf;have c0:=h5.ent he (k:=0) rfl;have c1:=h5.ent he (k:=1) rfl;have c2:=h5.ent he (k:=2) rfl;rw [gn] at c0;have h6:=h5.alloc #[en.op,en.label,en.dP] 234;have q6:=(h6.af bp).1
   by_cases hop:en.op=op
   case neg=>
    have dop:(en.op==op)=false:=by simp [hop]
    rw [dop] at hf;simp only [Bool.false_and] at hf;have HF:=aJ hf;have HX:=aJ (Ext.next (Ext.next (bu W4) yY.out) ((bu wr).aE (.cells #[en.op,en.label,en.dP] 234)));clear hf hd he hlb Vg h5 h6;go_wp2
    go_roundw
    case rel=>exact⟨i+1,rfl,O_,HX,HF⟩
    case measure=>simp only [intOf];omega
   case pos=>
    subst hop;have dop:(en.op==en.op)=true:=S_
    have hmay:=Py h6 ht en.op arg dat HB.out.st HB.out.ho Vg;rw [dop] at hf;simp only [Bool.true_and] at hf;obtain⟨q,hq⟩:∃ q,m.may c x th arg en.dP=q:=⟨_,rfl⟩;rw [hq] at hf hmay;have HF:=aJ hf;have H6:=aJ h6;have HM:=aJ hmay;clear hf hd he Vg h5 h6 hq hmay;go_wp2_with fail;refine un HM.out fun W6 e6=>?_
    have h7:=H6.out.next e6;have HX:=aJ (Ext.next (Ext.next yY.out ((bu wr).aE (.cells #[en.op,en.label,en.dP] 234))) e6);clear q6 c0 c1 c2 e6
    cases q with
    | false=>
     have HF:Hid ((aM.drop (i+1)).find? (fun e=>e.op==en.op && m.may c x th arg e.dP)=R):=HF;clear h7;go_wp2
     go_roundw
     case rel=>exact⟨i+1,rfl,O_,HX,HF⟩
     case measure=>simp only [intOf];omega
    | true=>
     have HF:Hid (R=some en):=aJ HF.out.symm;have qt:=(h7.tr ht (i:=0) rfl).trans (show _=some (.bool x.busy) from rfl);rw [gn] at qt;have qf:=h7.jQ (th*658);have qf1:=h7.jQ (th*658+1);have h8:=(h7.adV ht true);have qc:=(h8.tr ht (i:=1) rfl).trans (show _=some (.int .i64 (x.call:Int)) from rfl);obtain⟨A,cp,rfl⟩:=aA h7.FQ;have qk:=(h8.bd.1 24).trans (show _=some (.slice A m.calls.length cp) from rfl);have h9:=h8.adU ht m.calls.length;have H9:=aJ h9;clear h7 h8 h9 H6
     go_upto_region 17 with fail;generalize ((W6.setCell ⟨D.gt,th*658,none⟩ true).setCell ⟨D.gt,th*658+1,none⟩ m.calls.length)=W7 at H9 ⊢;clear qt qf qf1 qc qk;have q9:=fun z:aL W7=>((H9.out.next z.ok).bd.1 9).trans (show _=some (.slice (some ⟨D.gb,0,none⟩) bz.length D.cb) from rfl)
     have ql:=fun z:aL W7=>(H9.out.next z.ok).cI hlb
     have hto:=(fO.1 hlb).1;generalize bz.length=nl at q9 hto;have qe:=fun z:aL W7=>((H9.out.next z.ok).af aj).1
     have fr:=fun z:aL W7=>(H9.out.next z.ok).jQ (th*658+2)
     have fc:=fun z:aL W7=>((H9.out.next z.ok).tr ht (i:=2) rfl).trans (show _=some (.int .i64 (x.pc:Int)) from rfl)
     refine qT 11 fun z7=>?_
     go_upto_region 18 with fail;have gI:=(H9.out.next z7.ok).oI ht (cI en.label);generalize (z7.world.setCell ⟨D.gt,th*658+2,none⟩ (.int .i64 (cI en.label:Int)))=W8 at gI ⊢;clear q9 ql hto qe fr fc;have mF:W8.there D.gt (th*658+3) 48:=fun j hj=>⟨by rw [gI.gm ht hj];rfl,gI.jQ _⟩
     refine wp_region_list ?_;refine iZ (v:=.pointer (some ⟨D.gt,th*658,none⟩)) rfl rfl rfl ?_;refine iZ (v:=z48) rfl rfl (aa7 rfl) ?_;refine iZ (v:=.pointer (some ⟨D.gt,th*658,none⟩)) rfl rfl rfl ?_;refine iZ (v:=.pointer (some ⟨D.gt,th*658+3,none⟩)) rfl rfl rfl ?_;refine wpList_store_mid rfl 39 (.tmp 89) (.tmp 87) rfl D.gt (th*658+3) (List.replicate 48 (Value.int .u64 0)).toArray rfl rfl mF K_ K_ ?_;have lQ:=gI.Ty ht;generalize hW:World.setCells W8 D.gt (th*658+3) (List.replicate 48 (Value.int .u64 0)).toArray.toList=W9;rw [show World.setCells W8 D.gt (th*658+3) (List.replicate 48 (Value.int .u64 0))=W9 from hW] at lQ;clear hW mF gI;simp only [Act.put,JN,Dw,wW];have qs:=lQ.jQ (th*658+51);have qs2:=(lQ.tr ht (ru _)).trans (show _=some v.bk from rfl);have h12:=lQ.ad3 ht;have Oo:=aJ h12;clear lQ h12
     go_upto_region 20 with fail;generalize (World.setCell W9 ⟨D.gt,th*658+51,none⟩ bG)=Wa at Oo ⊢;clear qs qs2;skip;have y6:=(Oo.out.bd.1 24).trans (show _=some (.slice A m.calls.length cp) from rfl);have f6:=Oo.out.bd.2 24;have afe:D.bD<Wa.heap.size:=Has.tu Oo.out aj;have hne:=lN afe;have gj:∀ w',Ext Wa w'→(∀ i,w'.cell? ⟨w.heap.size,i,none⟩=([.int .i64 (th:Int),en.op,arg,dat]:List Value)[i]?)∧w'.cell? ⟨D.bD,23,none⟩=some (.int .i64 m.au):=fun w' e=>⟨((Oo.out.next e).af bp).1,((Oo.out.next e).bd.1 23).trans (show _=some (Value.int .i64 m.au) from rfl)⟩
     have gC:=gj Wa (bu Wa);have H2:=Oo;have dF:=fun w' (e:Ext Wa w')=>dB (Oo.out.FQ) e
     have hsz:=(Has.ext H2.out).size;have gN:∀ w',Ext (Wa.alloc (.cells #[.int .i64 (th:Int),en.op,arg,dat,m.au,.int .i64 (-1),.int .i64 (-1),.int .i64 0,.int .i64 0] 119)) w'→Rd w' (some ⟨Wa.heap.size,0,none⟩) [.int .i64 (th:Int),en.op,arg,dat,m.au,.int .i64 (-1),.int .i64 (-1),.int .i64 0,.int .i64 0]:=fun w' e=>(Rd.made Wa [.int .i64 (th:Int),en.op,arg,dat,m.au,.int .i64 (-1),.int .i64 (-1),.int .i64 0,.int .i64 0] 119).ext e
     have fQ:([.int .i64 (th:Int),en.op,arg,dat,m.au,.int .i64 (-1),.int .i64 (-1),.int .i64 0,.int .i64 0]:List Value).length=1*9:=rfl;have hone:∀ u∈([.int .i64 (th:Int),en.op,arg,dat,m.au,.int .i64 (-1),.int .i64 (-1),.int .i64 0,.int .i64 0]:List Value),u.oneCell'=true:=by intro u hu;simp at hu;rcases hu with rfl | rfl | rfl | rfl | rfl | rfl | rfl | rfl | rfl<;>rfl
     refine tX (Ds (S:=fun w':World=>(∀ i,w'.cell? ⟨w.heap.size,i,none⟩=([.int .i64 (th:Int),en.op,arg,dat]:List Value)[i]?)∧w'.cell? ⟨D.bD,23,none⟩=some (.int .i64 m.au)) K_ gC (fun hHeld=>?_));refine bn 0 ?_;refine bn 1 ?_;refine bn 2 ?_;refine bn 3 ?_;refine bn 5 ?_;refine bn 6 ?_;refine bn 7 ?_;refine bn 8 ?_;refine bn 9 ?_;refine bn 10 ?_;refine bn 11 ?_;refine bn 12 ?_;refine bn 13 ?_;refine bn 14 ?_;refine bn 15 ?_;refine bn 16 ?_;refine bn 17 ?_;refine qB (rs:= [4,18]) K_ S_ ?_;refine mA rfl (fun Kq cr=>?_) ?_
     ·go_simp
      refine cr.out _ _ gC (fun hHeld=>?_);refine eI 18 fun Kq cr=>?_
      go_simp;refine cr.out _ _ (gj _ (((bu Wa).aE _).bh)) (fun hHeld=>?_);refine eI 19 fun Kq cr=>?_
      refine cn _ rfl (.tmp 97) (.tmp 111) 51 rfl w0.heap.size 119 9 72 vW underlying51 (.slice A m.calls.length cp) m.calls.length _ (by simp [Act.eval]) (by first | exact dF _ ((bu Wa).aE _) | exact dF _ (((bu Wa).bh).aE _) | exact dF _ (((bu Wa).aE _).bh)) (some ⟨Wa.heap.size,0,none⟩) 1 1 [.int .i64 (th:Int),en.op,arg,dat,m.au,.int .i64 (-1),.int .i64 (-1),.int .i64 0,.int .i64 0] (by simp [Act.eval]) fQ (by first | exact gN _ (bu _) | exact gN _ (Ext.drawn _ 1)) hone O_ (by simp;omega) ?_;intro v1 w2 bV bl fk;have oO:Wa.grownBy w2 (Value.ownBlock (.slice A m.calls.length cp)):=(by first | exact aD bl | exact aD (bw bl) | exact bw (aD bl));obtain⟨g5,c5,rfl,_,_,_⟩:=bf bV O_;obtain⟨r2,k8⟩:=Oo.out.KS ht (r:=⟨(th:Int),en.op,arg,dat,m.au,-1,-1,0,0⟩) bV oO (fk.imp id fun e=>⟨_,e,S_⟩);have kk:=(r2.bd 24).trans (show _=some (.slice A m.calls.length cp) from rfl);have ff:=r2.bF 24;have hk2:_∧_:=⟨r2.ob bp,(r2.bd 23).trans (show _=some (Value.int .i64 m.au) from rfl)⟩;have kD:_∧_:=⟨(k8.af bp).1,(k8.bd.1 23).trans (show _=some (Value.int .i64 m.au) from rfl)⟩;refine cr.out _ _ hk2 (fun hHeld=>?_);refine bn 20 ?_;refine bn 21 ?_;refine eI 22 fun Kq cr=>?_
      go_simp;refine cr.out _ _ kD (fun hHeld=>?_);refine Be K_ ?_ _;refine GQ ?_
      (try simp only [Exit.then])
      go_wp2;go_ret;exact⟨fun hn=>(by rw [HF.out] at hn;cases hn),fun en' hn=>by rw [HF.out] at hn;cases hn;exact⟨rfl,{v with bk:=bG},_,_,_,_,hlv,jL,k8.drop.drop⟩⟩
     refine mA rfl (fun Kq cr=>?_) tH;go_simp;refine cr.out _ _ (gj _ (((bu Wa).aE _).bh)) (fun hHeld=>?_);refine eI 4 fun Kq cr=>?_
     go_simp;refine cr.out _ _ (gj _ (((bu Wa).aE _).bh)) (fun hHeld=>?_);refine eI 19 fun Kq cr=>?_
     refine cn _ rfl (.tmp 97) (.tmp 111) 51 rfl w0.heap.size 119 9 72 vW underlying51 (.slice A m.calls.length cp) m.calls.length _ (by simp [Act.eval]) (by first | exact dF _ ((bu Wa).aE _) | exact dF _ (((bu Wa).bh).aE _) | exact dF _ (((bu Wa).aE _).bh)) (some ⟨Wa.heap.size,0,none⟩) 1 1 [.int .i64 (th:Int),en.op,arg,dat,m.au,.int .i64 (-1),.int .i64 (-1),.int .i64 0,.int .i64 0] (by simp [Act.eval]) fQ (by first | exact gN _ (bu _) | exact gN _ (Ext.drawn _ 1)) hone O_ (by simp;omega) ?_;intro v1 w2 bV bl fk;have oO:Wa.grownBy w2 (Value.ownBlock (.slice A m.calls.length cp)):=(by first | exact aD bl | exact aD (bw bl) | exact bw (aD bl));obtain⟨g5,c5,rfl,_,_,_⟩:=bf bV O_;obtain⟨r2,k8⟩:=Oo.out.KS ht (r:=⟨(th:Int),en.op,arg,dat,m.au,-1,-1,0,0⟩) bV oO (fk.imp id fun e=>⟨_,e,S_⟩);have kk:=(r2.bd 24).trans (show _=some (.slice A m.calls.length cp) from rfl);have ff:=r2.bF 24;have hk2:_∧_:=⟨r2.ob bp,(r2.bd 23).trans (show _=some (Value.int .i64 m.au) from rfl)⟩;have kD:_∧_:=⟨(k8.af bp).1,(k8.bd.1 23).trans (show _=some (Value.int .i64 m.au) from rfl)⟩;refine cr.out _ _ hk2 (fun hHeld=>?_);refine bn 20 ?_;refine bn 21 ?_;refine eI 22 fun Kq cr=>?_
     go_simp;refine cr.out _ _ kD (fun hHeld=>?_);refine Be K_ ?_ _;refine GQ ?_
     (try simp only [Exit.then])
     go_wp2;go_ret;exact⟨fun hn=>(by rw [HF.out] at hn;cases hn),fun en' hn=>by rw [HF.out] at hn;cases hn;exact⟨rfl,{v with bk:=bG},_,_,_,_,hlv,jL,k8.drop.drop⟩⟩
end
def AX(w:World)(m:RM)(e:Ending)(w':World):Prop:=∃ vc vt vs vw,e=.returned (.agg #[vc,vt,vs,vw])∧Has w w' [.row vw 38 1 m.words.length (m.words.map (Value.int .u64)),.row vs 125 5 m.aG.length (m.aG.flatMap Sh.enc),.row vt 122 7 m.trace.length (m.trace.flatMap Ac.enc),.row vc 119 9 m.calls.length (m.calls.flatMap Cl.enc)]
section
variable{D:Dk}{c:Cf}{th:Nat}{ov:List (RT×Tv)}{m m':RM}{x x':RT}{v v':Tv}{vc vt vs:Value}{lv:List Value}{w0 w w':World}{F G:List En}{a b cc tt l:Nat}{d:Int}{y:Cl}
theorem EH(l:List Cl):(l.flatMap Cl.enc).length=l.length*9:=by induction l with | nil=>rfl | cons x l ih=>rw [sZ,gP,ih,ij];show 9+_=_;omega
theorem EF(l:List Ac):(l.flatMap Ac.enc).length=l.length*7:=by induction l with | nil=>rfl | cons x l ih=>rw [sZ,gP,ih,ij];show 7+_=_;omega
theorem EG(l:List Sh):(l.flatMap Sh.enc).length=l.length*5:=by induction l with | nil=>rfl | cons x l ih=>rw [sZ,gP,ih,ij];show 5+_=_;omega
theorem Kn(h:aW D c th ov m x v vc vt vs lv w0 w F)(hb:m.calls.length<10000000∧m.trace.length<10000000∧m.aG.length<10000000∧m.words.length<10000000):
  Calls prog 16 #[some D.bD] w (AX w m):=by
 obtain⟨Qc,cc,rfl⟩:=aA h.FQ;obtain⟨Qt,ct,rfl⟩:=aA h.FO;obtain⟨Qs,cs,rfl⟩:=aA h.FP;obtain⟨Qw,cw,hw⟩:∃ Qw cw,kN D.gw m.words.length D.cw=.slice Qw m.words.length cw:=⟨_,_,rfl⟩;have gj:∀ w',Ext w w'→((w').cell? ⟨D.bD,24,none⟩=some (.slice Qc m.calls.length cc)∧(w').cell? ⟨D.bD,25,none⟩=some (.slice Qt m.trace.length ct)∧(w').cell? ⟨D.bD,26,none⟩=some (.slice Qs m.aG.length cs)∧(w').cell? ⟨D.bD,7,none⟩=some (.slice Qw m.words.length cw)):=fun w' e=>⟨((h.next e).bd.1 24).trans rfl,((h.next e).bd.1 25).trans rfl,((h.next e).bd.1 26).trans rfl,((h.next e).bd.1 7).trans (ep some hw)⟩
 have oc:=Rd.fM h.FQ;have ot:=Rd.fM h.FO;have os:=Rd.fM h.FP;have ow:=Rd.fM (show w.ownsRow w0.heap.size 38 1 (.slice Qw m.words.length cw) m.words.length (m.words.map (Value.int .u64)) from hw▸h.own _ bp);have uc:=vo Ys m.calls;have ut:=vo Yt m.trace;have us:=vo Yr m.aG;have uw:∀ u∈m.words.map (Value.int .u64),u.oneCell'=true:=fun u hu=>by obtain⟨y,_,rfl⟩:=List.mem_map.1 hu;rfl
 have g0:Has w (w.alloc (.cells uX 58)) [ob w.heap.size 58 uX.toList]:=(Has.start w).alloc uX 58;clear hw h;go_in;go_wp2_with fail;have g0:=g0.drew;refine tX (Ds (S:=fun w':World=>w'.cell? ⟨D.bD,24,none⟩=some (.slice Qc m.calls.length cc)∧w'.cell? ⟨D.bD,25,none⟩=some (.slice Qt m.trace.length ct)∧w'.cell? ⟨D.bD,26,none⟩=some (.slice Qs m.aG.length cs)∧w'.cell? ⟨D.bD,7,none⟩=some (.slice Qw m.words.length cw)) K_ (gj _ g0.ext) (fun hHeld=>?_));refine bn 0 ?_;refine bn 1 ?_;refine bn 2 ?_;refine bn 3 ?_;refine bn 5 ?_;refine bn 6 ?_;refine bn 7 ?_;refine bn 8 ?_;refine bn 10 ?_;refine bn 11 ?_;refine bn 12 ?_;refine bn 13 ?_;refine bn 15 ?_;refine bn 16 ?_;refine bn 17 ?_;refine bn 18 ?_;refine eI 4 fun Kq cr=>?_
 simp only [Act.put,JN];refine lq _ rfl (.const (.slice none 0 0)) (.tmp 6) 51 rfl 119 9 72 vW underlying51 (by simp [Act.eval]) Qc m.calls.length cc (m.calls.flatMap Cl.enc) (by simp [Act.eval]) (EH _) (oc.ext g0.ext) uc O_ ?_;intro Bc dc W1 hown e1;have g1:=Has.add g0 (g0.next e1) rfl hown (bZ _);clear hown;refine cr.out _ _ (gj _ g1.ext) (fun hHeld=>?_);refine eI 9 fun Kq cr=>?_
 simp only [Act.put];refine lq _ rfl (.const (.slice none 0 0)) (.tmp 11) 52 rfl 122 7 56 sN underlying52 (by simp [Act.eval]) Qt m.trace.length ct (m.trace.flatMap Ac.enc) (by simp [Act.eval]) (EF _) (ot.ext g1.ext) ut O_ ?_;intro Bt dt W2 hown e2;have g2:=Has.add g1 (g1.next e2) rfl hown (bZ _);clear hown;refine cr.out _ _ (gj _ g2.ext) (fun hHeld=>?_);refine eI 14 fun Kq cr=>?_
 simp only [Act.put];refine lq _ rfl (.const (.slice none 0 0)) (.tmp 16) 53 rfl 125 5 40 AG underlying53 (by simp [Act.eval]) Qs m.aG.length cs (m.aG.flatMap Sh.enc) (by simp [Act.eval]) (EG _) (os.ext g2.ext) us O_ ?_;intro Bs ds W3 hown e3;have g3:=Has.add g2 (g2.next e3) rfl hown (bZ _);clear hown;refine cr.out _ _ (gj _ g3.ext) (fun hHeld=>?_);refine eI 19 fun Kq cr=>?_
 simp only [Act.put];refine lq _ rfl (.const (.slice none 0 0)) (.tmp 21) 42 rfl 38 1 8 RK underlying42 (by simp [Act.eval]) Qw m.words.length cw (m.words.map (Value.int .u64)) (by simp [Act.eval]) S_ (ow.ext g3.ext) uw O_ ?_;intro Bw dw W4 hown e4;have g4:=Has.add g3 (g3.next e4) rfl hown (bZ _);clear hown;refine cr.out _ _ (gj _ g4.ext) (fun hHeld=>?_);refine bn 20 ?_;refine eI 21 fun Kq cr=>?_
 have k4:=g4.dW iu;have q0:=g4.at_ iu (i:=0) rfl;have q1:=g4.at_ iu (i:=1) rfl;have q2:=g4.at_ iu (i:=2) rfl;have q3:=g4.at_ iu (i:=3) rfl;have gF:=(g4.mid (A:= [_,_,_,_])).oZ (.slice Bc m.calls.length dc) (.slice Bt m.trace.length dt) (.slice Bs m.aG.length ds) (.slice Bw m.words.length dw);go_simp;refine cr.out _ _ (gj _ gF.ext) (fun hHeld=>?_);refine Be K_ ?_ _;refine GQ ?_
 (try simp only [Exit.then])
 go_wp2_with fail;exact DL (Fh rfl _ _ w.heap.size 58 _ (0,0) _ rfl (gF.uG aj) underlying58 rfl K_) rfl ⟨_,_,_,_,rfl,gF.drop⟩
end
section
variable{D:Dk}{c:Cf}{m m':RM}{w0 w w':World}{F:List En}
theorem ES(h:DA D c m w0 w F)(I:RI c m)(hm:m.au<65536){n:Nat}{v:Mv}{b:Bool}(hr:m.nF c n v=some (b,m')):
  cm 51 #[some D.bD,.agg #[v.th,v.op,v.arg,v.dat]] w b fun w'=>DA D c m' w0 w' F:=by
 have h0:=h;obtain⟨ov,vc,vt,vs,lv,h⟩:=h;have hT:ov.length=m.T.length:=by rw [←h.o,mC]
 obtain⟨vth,op,arg,dat⟩:=v;unfold RM.nF at hr;simp only at hr ⊢
 split at hr
 ·rename_i hv
  simp only [Option.some.injEq,Prod.mk.injEq] at hr;obtain⟨rfl,rfl⟩:=hr;refine(Jl (D:=D) (n:=ov.length) (fun w' e=>((h.next e).bd.1 11).trans rfl) O_).mono ?_;exact Ns
 rename_i hv;obtain⟨th,rfl⟩:∃ th:Nat,vth=(th:Int):=⟨vth.toNat,O_⟩;rw [mW] at hr
 split at hr
 ·cases hr
 rename_i t ht;obtain⟨tv,hov,htl,jL,hd⟩:=h.ag ht;have hX:=I.X t (nV ht);have hC:=I.C t (nV ht);have hQ:=I.Q;have hP:=Ni ht
 split at hr
 ·rename_i ho
  subst ho
  split at hr
  ·rename_i hb
   rw [JL] at hr;obtain⟨m2,hr,e⟩:=hr;simp only [Prod.mk.injEq] at e;obtain⟨rfl,rfl⟩:=e;unfold RM.step at hr;rw [ht] at hr;simp only at hr
   split at hr
   ·cases hr
   rename_i m3 x3 h3;simp only [Option.some.injEq] at hr;subst hr;have N:=uu n false I.b hX h3;refine(EO hd htl hb h.l jL h3 I.b hX (hC hb) O_ I.W).mono ?_;rintro e w' ⟨rfl,h5⟩;exact⟨rfl,RN (h.o.trans N.T.symm) h.p h5 htl⟩
  ·rename_i hb
   simp only [Option.some.injEq,Prod.mk.injEq] at hr;obtain⟨rfl,rfl⟩:=hr;refine(EP hd htl (by simpa using hb)).mono ?_;exact Ns
 ·rename_i ho
  have Av:(op==0)=false:=by simpa using ho
  split at hr
  ·rename_i hb
   simp only [Option.some.injEq,Prod.mk.injEq] at hr;obtain⟨rfl,rfl⟩:=hr;refine(ER hd htl Av hb).mono ?_;exact Ns
  ·rename_i hb
   have hnew:=Jm hd htl (arg:=arg) (dat:=dat) Av (by simpa using hb) h.l jL I.b O_ rfl
   split at hr
   ·rename_i hf
    simp only [Option.some.injEq,Prod.mk.injEq] at hr;obtain⟨rfl,rfl⟩:=hr;refine hnew.mono ?_;rintro e w' ⟨h1,_⟩;obtain⟨rfl,e⟩:=h1 hf;exact⟨rfl,h0.next e⟩
   ·rename_i en hf
    simp only [Option.some.injEq,Prod.mk.injEq] at hr;obtain⟨rfl,rfl⟩:=hr;refine hnew.mono ?_;rintro e w' ⟨_,h1⟩;obtain⟨rfl,h5⟩:=h1 en hf;exact⟨rfl,RN (m:={m with calls:=m.calls++ [⟨(th:Int),op,arg,dat,m.au,-1,-1,0,0⟩]}) h.o h.p h5 htl⟩
theorem Jq(h:DA D c m w0 w F)(I:RI c m){n:Nat}{v:Mv}{b:Bool}(hr:m.move c n v=some (b,m')):
  cm 12 #[some D.bD,.agg #[v.th,v.op,v.arg,v.dat]] w b fun w'=>DA D c m' w0 w' F:=by
 have h1:=h.next ((bu w).aE (.cells #[v.th,v.op,v.arg,v.dat] 36));have p1:=h1.mv.1;have I2:=FF I hr;unfold RM.move at hr
 split at hr
 ·rename_i hm
  simp only [Option.some.injEq,Prod.mk.injEq] at hr;obtain⟨rfl,rfl⟩:=hr;have d1:decide ((65536:Int)≤m.au)=true:=cM hm;have H1:=aJ h1;clear h h1 I I2;go_enter func12,ntmps12;go_wp2;go_ret;exact⟨rfl,H1.out⟩
 ·rename_i hm
  rw [JL] at hr;obtain⟨⟨b1,m1⟩,hr,e⟩:=hr;simp only [Prod.mk.injEq] at e;obtain⟨rfl,rfl⟩:=e;have d1:decide ((65536:Int)≤m.au)=false:=dy hm;have Ay:=ES h1 I O_ hr;have bd:=I2.b.mv;simp only at bd;have HM:=aJ Ay;have HI:=aJ I2;clear h h1 I I2 hr Ay;obtain⟨b2,b3⟩:=bd;go_enter func12,ntmps12;go_wp2_with fail;refine un HM.out fun w2 h2=>?_
  obtain⟨q1,q2,q3⟩:=h2.mv;have h3:=aJ (q3 (m1.au+1));clear h2 q3 HM;go_wp2;go_ret;exact⟨rfl,h3.out⟩
theorem DA.alloc(h:DA D c m w0 w F)(cs:Array Value)(t:TypeId):DA D c m w0 (w.alloc (.cells cs t)) (ob w.heap.size t cs.toList::F):=by
 obtain⟨ov,vc,vt,vs,lv,h⟩:=h;refine⟨ov,vc,vt,vs,lv,h.l,h.o,h.p,?_⟩;have h1:=h.h;unfold Q0 at h1 ⊢;rw [←dH,←dH] at h1 ⊢;exact(Has.alloc h1 cs t).back
theorem DA.parts(h:DA D c m w0 w F):∃ H,Has w0 w (H++F):=by
 obtain⟨ov,vc,vt,vs,lv,h⟩:=h;have h1:=h.h;unfold Q0 at h1;rw [←dH,←dH] at h1;exact⟨_,h1⟩
theorem Ji(h:DA D c m w0 w F)(I:RI c m):Calls prog 16 #[some D.bD] w (AX w m):=by
 obtain⟨ov,vc,vt,vs,lv,h⟩:=h;have hT:=I.T;obtain⟨_,_,_⟩:=id I.b.ok;have hQ:=I.Q;have hM:=I.b.mv;have hW:=I.W;obtain⟨x,hx⟩:∃ x,m.T[0]?=some x:=⟨_,fy O_⟩;obtain⟨v,_,_,_,hd⟩:=h.ag hx;unfold iM at hQ;exact Kn hd O_
theorem MU{f:Nat→RM}(h:DA D c (f 0) w0 w F)(I:RI c (f 0)){l:List Mv}(hf:∀ i v,l[i]?=some v→∃ n b,(f i).move c n v=some (b,f (i+1))){a:Option Addr}{k:Nat}(hr:Rd w0 a (l.flatMap jG))(hn:l.length≤65536):
  Calls prog 57 #[some D.bD,.slice a l.length k] w (AX w0 (f l.length)):=by
 have h1:=h.alloc uX 58;have H1:=aJ h1;have HI:=aJ I;have HR:=aJ hr;have HF:=aJ hf;clear h h1 I hr hf;go_in;go_wp2_with fail;generalize (w.alloc (.cells uX 58))=W1 at H1 ⊢;obtain⟨bR,hbR⟩:∃ b,w.heap.size=b:=⟨_,rfl⟩;rw [hbR] at H1 ⊢;clear hbR
 go_loopw [9] (fun s9 wr=>∃ i:Nat,s9=.int .i64 i∧i≤l.length∧Hid (DA D c (f i) w0 wr (ob bR 58 uX.toList::F))∧Hid (RI c (f i))) (fun s9 _=>l.length - (intOf s9).toNat)
 case atStart=>exact⟨0,rfl,nU _,H1,HI⟩
 case round=>
  clear H1 HI;obtain⟨i,rfl,hi,hg,hI⟩:=hrel
  by_cases hlt:i<l.length
  case neg=>
   have dl:decide ((i:Int)<(l.length:Int))=false:=dy O_;obtain rfl:l.length=i:=O_
   have hrun:=Ji hg.out hI.out;go_wp2_with fail;refine hrun.mono ?_;rintro e w3 ⟨vc,vt,vs,vw,rfl,hH⟩;obtain⟨HD,hD⟩:=hg.out.parts;have hJ:=hD.join hH;obtain⟨Bw,cw,rfl⟩:=aA (hH.own _ aj);obtain⟨Bs,cs,rfl⟩:=aA (hH.own _ bp);obtain⟨Bt,ct,rfl⟩:=aA (hH.own _ iU);obtain⟨Bc,cc,rfl⟩:=aA (hH.own _ lA);have q0:=hJ.at_ (b:=bR) (bX (bX aj)) (i:=0) rfl;have q1:=hJ.at_ (b:=bR) (bX (bX aj)) (i:=1) rfl;have q2:=hJ.at_ (b:=bR) (bX (bX aj)) (i:=2) rfl;have q3:=hJ.at_ (b:=bR) (bX (bX aj)) (i:=3) rfl;have fz:=hJ.dW (b:=bR) (bX (bX aj));have HJ:=aJ hJ;clear hJ hH hD hrun;go_wp2_with fail;have hJ:=HJ.out;rw [←dH] at hJ;have hP:=(Has.mid hJ).oZ (.slice Bc (f l.length).calls.length cc) (.slice Bt (f l.length).trace.length ct) (.slice Bs (f l.length).aG.length cs) (.slice Bw (f l.length).words.length cw);refine DL (Fh rfl _ _ bR 58 _ (0,0) _ rfl (hP.uG aj) underlying58 rfl K_) rfl ?_;refine⟨_,_,_,_,rfl,?_⟩;have hQ:Has w0 _ ((_++HD)++F):=hP.drop;rw [dH] at hQ;exact(Has.perm hQ List.perm_append_comm).kI
  case pos=>
   have dl:decide ((i:Int)<(l.length:Int))=true:=cM O_;obtain⟨v,hv⟩:∃ v,l[i]?=some v:=⟨_,fy hlt⟩;have hfl:∀ k u,(jG v)[k]?=some u→(l.flatMap jG)[i*4+k]?=some u:=fun k u hu=>flat_get jG 4 (fun _=>rfl) hv hu
   obtain⟨bm,off,rfl,hbm,hc⟩:=HR.out (by intro e;have:=hfl 0 _ rfl;rw [e] at this;simp at this);obtain⟨HD,hD⟩:=hg.out.parts;have hE:Ext w0 wr:=hD.ext;have fQ:∀ k u,(jG v)[k]?=some u→wr.cell? ⟨bm,off+(i*4+k),none⟩=some u:=fun k u hu=>(hE.cell (p:=⟨bm,off+(i*4+k),none⟩) hbm).trans (hc _ _ (hfl k u hu))
   have c0:=fQ 0 _ rfl;have c1:=fQ 1 _ rfl;have c2:=fQ 2 _ rfl;have c3:=fQ 3 _ rfl;simp only [←ud,gn] at c0 c1 c2 c3;obtain⟨n,b,hm⟩:=HF.out i v hv;have Ay:=Jq (hg.out.next ((bu wr).aE (.cells #[v.th,v.op,v.arg,v.dat] 36))) hI.out hm;have ze:=aJ (FF hI.out hm);clear hv hfl hc fQ hE hm hD hg hI;go_wp2_with fail;refine un Ay fun w4 Ok=>?_
   have J8:=aJ Ok;clear Ay Ok c0 c1 c2 c3;go_wp2
   go_roundw
   case rel=>exact⟨i+1,rfl,O_,J8,ze⟩
   case measure=>simp only [intOf];omega
end
variable{c:Cf}
theorem Jn(ok:bY c.T c.R c.H c.Re c.Ca c.S c.B){nn b s:Nat}(hz:nO c.R c.H c.S c.B nn b s)(w:World):
  Calls prog 10 #[.agg #[c.T,c.R,c.H,c.Re,c.Ca,c.S,c.B]] w fun e w'=>∃ (D:Dk) (F:List En),e=.returned (some D.bD)∧DA D c (RM.new c (cO nn b s 1)) w w' F:=by
 obtain⟨n1,n2,hs1⟩:0<nn∧nn<1000000∧1≤s:=by
  have q1:=hz.slots;have q2:=hz.room;have q3:=hz.low;have q4:=hz.big;unfold bY at ok;omega
 have g0:=(Has.start w).alloc #[c.T,c.R,c.H,c.Re,c.Ca,c.S,c.B] 23;go_in;go_wp2_with fail;generalize (w.alloc (.cells #[c.T,c.R,c.H,c.Re,c.Ca,c.S,c.B] 23))=W0 at g0 ⊢;obtain⟨bC,hbC⟩:∃ b,w.heap.size=b:=⟨_,rfl⟩;rw [hbC] at g0 ⊢;clear hbC;refine(Js _).mono ?_;rintro e w1 ⟨v1,rfl,o1,y1⟩;obtain⟨A1,c1,rfl⟩:=aA o1;replace o1:=aJ o1;replace y1:=aJ y1;go_wp2_with fail;refine(Lg _).mono ?_;rintro e x2 ⟨u2,rfl,p2,f2⟩;obtain⟨B2,d2,rfl⟩:=aA p2;go_wp2_with (at_builtin;refine bN o1.out y1.out p2 f2 (pP++wD++rB++Na) rfl D_ (.tmp 6) (.tmp 7) rfl rfl rfl rfl ?_;intro A2 c2 w2 o2 y2;replace o2:=aJ o2;replace y2:=aJ y2);refine(Le _).mono ?_;rintro e x3 ⟨u3,rfl,p3,f3⟩;obtain⟨B3,d3,rfl⟩:=aA p3;go_wp2_with (at_builtin;refine bN o2.out y2.out p3 f3 aI rfl D_ (.tmp 9) (.tmp 10) rfl rfl rfl rfl ?_;intro A3 c3 w3 o3 y3;replace o3:=aJ o3;replace y3:=aJ y3);refine(Jf _).mono ?_;rintro e w4 ⟨v4,rfl,o4,y4⟩;obtain⟨A4,c4,rfl⟩:=aA o4;replace o4:=aJ o4;replace y4:=aJ y4;go_wp2_with fail;refine(Je _).mono ?_;rintro e x5 ⟨u5,rfl,p5,f5⟩;obtain⟨B5,d5,rfl⟩:=aA p5;go_wp2_with (at_builtin;refine rF o4.out y4.out p5 f5 (e4++e5) rfl D_ (.tmp 13) (.tmp 14) rfl rfl rfl rfl ?_;intro A5 c5 w5 o5 y5;replace o5:=aJ o5;replace y5:=aJ y5);refine(Jd _).mono ?_;rintro e x6 ⟨u6,rfl,p6,f6⟩;obtain⟨B6,d6,rfl⟩:=aA p6;go_wp2_with (at_builtin;refine rF o5.out y5.out p6 f6 (e4++e5++e6) rfl D_ (.tmp 16) (.tmp 17) rfl rfl rfl rfl ?_;intro A6 c6 w6 o6 y6;replace o6:=aJ o6;replace y6:=aJ y6)
 refine(Jc _).mono ?_;rintro e x7 ⟨u7,rfl,p7,f7⟩;obtain⟨B7,d7,rfl⟩:=aA p7;go_wp2_with (at_builtin;refine rF o6.out y6.out p7 f7 (e4++e5++e6++e7) rfl D_ (.tmp 19) (.tmp 20) rfl rfl rfl rfl ?_;intro A7 c7 w7 o7 y7;replace o7:=aJ o7;replace y7:=aJ y7);refine(Jb _).mono ?_;rintro e x8 ⟨u8,rfl,p8,f8⟩;obtain⟨B8,d8,rfl⟩:=aA p8;go_wp2_with (at_builtin;refine rF o7.out y7.out p8 f8 (e4++e5++e6++e7++e8) rfl D_ (.tmp 22) (.tmp 23) rfl rfl rfl rfl ?_;intro A8 c8 w8 o8 y8;replace o8:=aJ o8;replace y8:=aJ y8);refine(Ja _).mono ?_;rintro e x9 ⟨u9,rfl,p9,f9⟩;obtain⟨B9,d9,rfl⟩:=aA p9;go_wp2_with (at_builtin;refine rF o8.out y8.out p9 f9 aM rfl D_ (.tmp 25) (.tmp 26) rfl rfl rfl rfl ?_;intro A9 c9 w9 o9 y9;replace o9:=aJ o9;replace y9:=aJ y9);have g1:=Has.add g0 (g0.next (Ext.next (bu _) y3.out)) rfl o3.out (bZ _);have g2:=Has.add g1 (g1.next y9.out) rfl o9.out (bZ _);have g2:=g2.drew;have gC:∀ i,(w9.drew).cell? ⟨bC,i,none⟩=([c.T,c.R,c.H,c.Re,c.Ca,c.S,c.B]:List Value)[i]?:=Has.ig g2 iU;have hf:∀ W,Calls prog 49 #[.agg #[c.T,c.R,c.H,c.Re,c.Ca,c.S,c.B],.int .i64 1] W (wQ W nn b s 1 fun v=>v):=fun W=>Ad c.T c.R c.H c.Re c.Ca c.S c.B ok nn b s hz 1 hs1 W
 replace ok:=aJ ok;refine Ds (S:=fun w':World=>∀ i,w'.cell? ⟨bC,i,none⟩=([c.T,c.R,c.H,c.Re,c.Ca,c.S,c.B]:List Value)[i]?) K_ gC (fun hHeld=>?_);refine bn 0 ?_;refine bn 1 ?_;refine bn 3 ?_;refine bn 4 ?_;refine eI 2 fun Kq cr=>?_
 go_simp
 with_reducible refine(hf _).mono ?_
 rintro e Ow ⟨gw,rfl,oW,e10⟩;have g3:=Has.add g2 (g2.next e10) rfl oW (bZ _);have g4:=Has.perm g3 (mU _ (iC _ _ _));have vI:∀ i,Ow.cell? ⟨bC,i,none⟩=([c.T,c.R,c.H,c.Re,c.Ca,c.S,c.B]:List Value)[i]?:=Has.ig g4 lA;clear oW e10 g3;go_wp2_with fail;refine cr.out _ _ vI (fun hHeld=>?_);refine eI 5 fun Kq cr=>?_
 have uB:=MX (c:=c) (ws:=cO nn b s 1) ok.out (by rw [iy];exact n1) (by rw [iy];exact n2) (aw:=some ⟨gw,0,none⟩) (kw:=nn) (by rw [iy];exact g4);rw [iy] at uB;go_simp
 with_reducible refine uB.mono ?_
 rintro e WH ⟨D,rfl,hD⟩
 have hk2:∀ i,WH.cell? ⟨bC,i,none⟩=([c.T,c.R,c.H,c.Re,c.Ca,c.S,c.B]:List Value)[i]?:=by
  obtain⟨H,hH⟩:=hD.parts;exact Has.ig hH (bX aj)
 go_wp2_with fail;refine cr.out _ _ hk2 (fun hHeld=>?_);refine bn 6 ?_;refine Be K_ ?_ _
 (try simp only [Exit.then])
 go_wp2;go_ret;exact⟨D,_,rfl,hD⟩
def rL(w:World)(m:RM)(er:Int)(e:Ending)(w':World):Prop:=∃ vc vt vs vw,e=.returned (.tuple #[.agg #[vc,vt,vs,vw],er])∧Has w w' [.row vw 38 1 m.words.length (m.words.map (Value.int .u64)),.row vs 125 5 m.aG.length (m.aG.flatMap Sh.enc),.row vt 122 7 m.trace.length (m.trace.flatMap Ac.enc),.row vc 119 9 m.calls.length (m.calls.flatMap Cl.enc)]
def RM.none:RM:={words:= [],T:= [],states:= [],bS:= [],lists:= [],au:=0,calls:= [],trace:= [],aG:= []}
theorem EN{w w':World}{er:Int}(e:Ext w w'):rL w RM.none er (.returned (.tuple #[.agg #[.slice none 0 0,.slice none 0 0,.slice none 0 0,.slice none 0 0],er])) w':=
 ⟨_,_,_,_,rfl,(((((Has.start w).next e).nil _ _).nil _ _).nil _ _).nil _ _⟩
def tw(c:Cf)(n:Nat):Int:=if bY c.T c.R c.H c.Re c.Ca c.S c.B then(if 65536<n then 3 else 0) else 1
theorem zu(c:Cf)(w:World)(a:Option Addr)(n k:Nat):
  cm 56 #[.agg #[c.T,c.R,c.H,c.Re,c.Ca,c.S,c.B],.slice a n k] w (.int .i64 (tw c n)) fun w'=>Ext w w':=by
 have tD:=fun W=>EU c.T c.R c.H c.Re c.Ca c.S c.B W
 have h1:=(Has.start w).alloc #[c.T,c.R,c.H,c.Re,c.Ca,c.S,c.B] 23;have p1:=h1.all aj
 by_cases ok:bY c.T c.R c.H c.Re c.Ca c.S c.B
 case neg=>
  have e1:tw c n=1:=aK ok;rw [dy ok] at tD;rw [e1];replace tD:=aJ tD;clear ok e1;exact Wo
 case pos=>
  have e1:tw c n=if 65536<n then 3 else 0:=aY ok;rw [cM ok] at tD;rw [e1];replace tD:=aJ tD;clear ok e1
  by_cases hn:65536<n
  case pos=>
   have d1:decide ((65536:Int)<(n:Int))=true:=cM O_;rw [aY hn];exact Wo
  case neg=>
   have d1:decide ((65536:Int)<(n:Int))=false:=dy O_;rw [aK hn];exact Wo
theorem M1(w:World)(c:Cf):Has w ((w.alloc (.cells #[c.T,c.R,c.H,c.Re,c.Ca,c.S,c.B] 23)).alloc (.cells uX 58)) [ob (w.heap.size+1) 58 uX.toList,ob w.heap.size 23 [c.T,c.R,c.H,c.Re,c.Ca,c.S,c.B]]:=SM
variable{w:World}
theorem CY{n:Nat}{er:Int}(hl:tw c n=er)(h0:(er==0)=false)(a:Option Addr)(k:Nat):
  Calls prog 18 #[.agg #[c.T,c.R,c.H,c.Re,c.Ca,c.S,c.B],.slice a n k] w (rL w RM.none er):=by
 have hk:=fun W=>zu c W a n k
 rw [hl] at hk;replace hk:=aJ hk;have h1:=M1 w c;have p1:=h1.all bp;clear hl;go_in;go_wp2_with fail;refine un (hk.out _) fun w2 e2=>?_
 have h2:=h1.next e2;have q0:=h2.at_ aj (i:=0) rfl;have q1:=h2.at_ aj (i:=1) rfl;have q2:=h2.at_ aj (i:=2) rfl;have q3:=h2.at_ aj (i:=3) rfl;have f:=h2.dW aj;clear p1 hk;go_wp2_with fail;have hP:=h2.oZ (.slice none 0 0) (.slice none 0 0) (.slice none 0 0) (.slice none 0 0);refine DL (results_cell_tmp rfl _ _ (w.heap.size+1) rfl _ (run_loadVar_row _ _ _ _ _ _ _ (hP.uG aj) underlying58 rfl K_)) rfl ?_;exact EN hP.ext
theorem MV(ok:bY c.T c.R c.H c.Re c.Ca c.S c.B){nn b s:Nat}(hz:nO c.R c.H c.S c.B nn b s){l:List Mv}{m':RM}(hrun:jM c (RM.new c (cO nn b s 1)) l m')(a:Option Addr)(k:Nat)(hr:Rd w a (l.flatMap jG))(hn:l.length≤65536):
  Calls prog 18 #[.agg #[c.T,c.R,c.H,c.Re,c.Ca,c.S,c.B],.slice a l.length k] w (rL w m' 0):=by
 have hk:=fun W=>zu c W a l.length k
 rw [show tw c l.length=0 by unfold tw;rw [aY ok,aK O_]] at hk;have hm:=fun W=>Jn ok hz W
 have hw1:∀ x∈cO nn b s 1,0≤x∧x≤18446744073709551615:=fun x hx=>by
  have q1:=hz.slots;have q2:=id ok;unfold bY at q2;have:=zm nn b s O_ x hx;omega
 have I:=TN ok hw1 (by rw [iy];have:=hz.big;omega);obtain⟨f,h0,rfl,hf⟩:=hrun;rw [←h0] at hm I;clear h0;have HI:=aJ I;have HF:=aJ hf;replace hk:=aJ hk;replace hm:=aJ hm;have HR:=aJ hr;have h1:=M1 w c;have p1:=h1.all bp;clear ok hw1 I hf hr hz;go_in;go_wp2_with fail;refine un (hk.out _) fun w2 e2=>?_
 have h2:=h1.next e2;have p2:=h2.all bp;clear p1 hk h1;go_wp2_with fail;refine(hm.out _).mono ?_;rintro e w3 ⟨D,F,rfl,hD⟩;have hru:=MU hD HI.out HF.out (HR.out.ext h2.ext) (k:=k) hn;clear p2 hm hD;go_wp2_with fail;refine hru.mono ?_;rintro e w4 ⟨vc,vt,vs,vw,rfl,hH⟩;have hJ:=h2.join hH;obtain⟨Bw,cw,rfl⟩:=aA (hH.own _ aj);obtain⟨Bs,cs,rfl⟩:=aA (hH.own _ bp);obtain⟨Bt,ct,rfl⟩:=aA (hH.own _ iU);obtain⟨Bc,cc,rfl⟩:=aA (hH.own _ lA);have q0:=hJ.at_ iu (i:=0) rfl;have q1:=hJ.at_ iu (i:=1) rfl;have q2:=hJ.at_ iu (i:=2) rfl;have q3:=hJ.at_ iu (i:=3) rfl;have fz:=hJ.dW iu;have HJ:=aJ hJ;clear hJ hH hru h2 e2;go_wp2_with fail;have hP:=(HJ.out.mid (A:= [_,_,_,_])).oZ (.slice Bc (f l.length).calls.length cc) (.slice Bt (f l.length).trace.length ct) (.slice Bs (f l.length).aG.length cs) (.slice Bw (f l.length).words.length cw);change Has w _ [_,_,_,_,_,_] at hP;refine DL (results_cell_tmp rfl _ _ (w.heap.size+1) rfl _ (run_loadVar_row _ _ _ _ _ _ _ (hP.uG aj) underlying58 rfl K_)) rfl ?_;exact⟨_,_,_,_,rfl,(hP.drop.mid (A:= [_,_,_,_])).drop⟩
theorem tg{A:Option Addr}{us:List Value}(h:Rd w A us){i:Nat}(hi:i<us.length):∃ b off,A=some ⟨b,off,none⟩∧∀ (j:Nat) (u:Value),us[j]?=some u→∀ z:aL w,z.world.cell? ⟨b,off+j,none⟩=some u:=by
 obtain⟨b,off,hA,hb,hc⟩:=h (by intro e;subst e;simp at hi);exact⟨b,off,hA,fun j u hu z=>(z.ok.cell (p:=⟨b,off+j,none⟩) hb).trans (hc j u hu)⟩
theorem BX{Pc Qc:Option Addr}{kc jc:Nat}{Pt Qt:Option Addr}{kt jt:Nat}{Ps Qs:Option Addr}{ks js:Nat}{Pw Qw:Option Addr}{kw jw:Nat}{cs:List Cl}{ts:List Ac}{ss:List Sh}{ws:List Int}(rac:Rd w Pc (cs.flatMap Cl.enc))(rbc:Rd w Qc (cs.flatMap Cl.enc))(rat:Rd w Pt (ts.flatMap Ac.enc))(rbt:Rd w Qt (ts.flatMap Ac.enc))(ras:Rd w Ps (ss.flatMap Sh.enc))(rbs:Rd w Qs (ss.flatMap Sh.enc))(raw:Rd w Pw (ws.map (Value.int .u64)))(rbw:Rd w Qw (ws.map (Value.int .u64)))(hb:cs.length≤9223372036854775807∧ts.length≤9223372036854775807∧ss.length≤9223372036854775807∧ws.length≤9223372036854775807):
  cm 14 #[.agg #[.slice Pc cs.length kc,.slice Pt ts.length kt,.slice Ps ss.length ks,.slice Pw ws.length kw],.agg #[.slice Qc cs.length jc,.slice Qt ts.length jt,.slice Qs ss.length js,.slice Qw ws.length jw]] w true fun w'=>Ext w w':=by
 obtain⟨mc,mt,ms,mw⟩:=hb;have h1:=((Has.start w).alloc #[.slice Pc cs.length kc,.slice Pt ts.length kt,.slice Ps ss.length ks,.slice Pw ws.length kw] 58).alloc #[.slice Qc cs.length jc,.slice Qt ts.length jt,.slice Qs ss.length js,.slice Qw ws.length jw] 58;have rac:=aJ (rac.ext h1.ext);have rbc:=aJ (rbc.ext h1.ext);have rat:=aJ (rat.ext h1.ext);have rbt:=aJ (rbt.ext h1.ext);have ras:=aJ (ras.ext h1.ext);have rbs:=aJ (rbs.ext h1.ext);have raw:=aJ (raw.ext h1.ext);have rbw:=aJ (rbw.ext h1.ext);go_enter func14,ntmps14
 go_upto_region 1 with fail;generalize ((w.alloc (.cells #[.slice Pc cs.length kc,.slice Pt ts.length kt,.slice Ps ss.length ks,.slice Pw ws.length kw] 58)).alloc (.cells #[.slice Qc cs.length jc,.slice Qt ts.length jt,.slice Qs ss.length js,.slice Qw ws.length jw] 58))=W2 at*;rw [World.size_alloc] at h1;obtain⟨b2,Ey⟩:∃ b,w.heap.size+1=b:=⟨_,rfl⟩;rw [Ey] at h1
 try rw [Ey]
 obtain⟨b1,F7⟩:∃ b,w.heap.size=b:=⟨_,rfl⟩;rw [F7] at h1
 try rw [F7]
 clear F7 Ey;have HE:=aJ h1.ext;have p0:∀ z:aL W2,z.world.cell? ⟨b1,0,none⟩=some (.slice Pc cs.length kc):=h1.cell (b:=b1) bp rfl;have q0:∀ z:aL W2,z.world.cell? ⟨b2,0,none⟩=some (.slice Qc cs.length jc):=h1.cell (b:=b2) aj rfl;have p1:∀ z:aL W2,z.world.cell? ⟨b1,1,none⟩=some (.slice Pt ts.length kt):=h1.cell (b:=b1) bp rfl;have q1:∀ z:aL W2,z.world.cell? ⟨b2,1,none⟩=some (.slice Qt ts.length jt):=h1.cell (b:=b2) aj rfl;have p2:∀ z:aL W2,z.world.cell? ⟨b1,2,none⟩=some (.slice Ps ss.length ks):=h1.cell (b:=b1) bp rfl;have q2:∀ z:aL W2,z.world.cell? ⟨b2,2,none⟩=some (.slice Qs ss.length js):=h1.cell (b:=b2) aj rfl;have p3:∀ z:aL W2,z.world.cell? ⟨b1,3,none⟩=some (.slice Pw ws.length kw):=h1.cell (b:=b1) bp rfl;have q3:∀ z:aL W2,z.world.cell? ⟨b2,3,none⟩=some (.slice Qw ws.length jw):=h1.cell (b:=b2) aj rfl;clear h1;obtain⟨z0,yY⟩:∃ z:aL W2,W2=z.world:=⟨⟨W2,bu W2⟩,rfl⟩;rw [yY];clear yY;go_wp2
 go_loopw [5] (fun s5 wr=>∃ (z:aL W2) (i:Nat),wr=z.world∧i≤cs.length∧s5=.int .i64 i) (fun s _=>cs.length - (intOf s).toNat)
 case atStart=>exact⟨z0,0,rfl,O_,rfl⟩
 case round=>
  obtain⟨z,i,rfl,hi,rfl⟩:=hrel
  by_cases hlt:i<cs.length
  case pos=>
   obtain⟨x,hx⟩:∃ x,cs[i]?=some x:=⟨_,fy hlt⟩;have hfl:∀ k u,(Cl.enc x)[k]?=some u→(cs.flatMap Cl.enc)[i*9+k]?=some u:=fun k u hu=>flat_get Cl.enc 9 (fun _=>rfl) hx hu
   obtain⟨m1,o1,rfl,j7⟩:=tg rac.out (fO.1 (hfl 0 _ rfl)).1;obtain⟨m2,o2,rfl,pH⟩:=tg rbc.out (fO.1 (hfl 0 _ rfl)).1;have x0:=j7 _ _ (hfl 0 _ rfl);have y0:=pH _ _ (hfl 0 _ rfl);have x1:=j7 _ _ (hfl 1 _ rfl);have y1:=pH _ _ (hfl 1 _ rfl);have x2:=j7 _ _ (hfl 2 _ rfl);have y2:=pH _ _ (hfl 2 _ rfl);have x3:=j7 _ _ (hfl 3 _ rfl);have y3:=pH _ _ (hfl 3 _ rfl);have x4:=j7 _ _ (hfl 4 _ rfl);have y4:=pH _ _ (hfl 4 _ rfl);have x5:=j7 _ _ (hfl 5 _ rfl);have y5:=pH _ _ (hfl 5 _ rfl);have x6:=j7 _ _ (hfl 6 _ rfl);have y6:=pH _ _ (hfl 6 _ rfl);have x7:=j7 _ _ (hfl 7 _ rfl);have y7:=pH _ _ (hfl 7 _ rfl);have x8:=j7 _ _ (hfl 8 _ rfl);have y8:=pH _ _ (hfl 8 _ rfl);simp only [←ud,gn] at x0 y0 x1 y1 x2 y2 x3 y3 x4 y4 x5 y5 x6 y6 x7 y7 x8 y8;have h0:(0:Int)≤(i:Int):=O_
   have h1:(i:Int)<(cs.length:Int):=O_
   exact QO
  case neg=>
   have h2:i=cs.length:=O_
   subst h2;go_wp2
   go_loopw [6] (fun s6 wr=>∃ (z:aL W2) (i:Nat),wr=z.world∧i≤ts.length∧s6=.int .i64 i) (fun s _=>ts.length - (intOf s).toNat)
   case atStart=>exact⟨z,0,rfl,O_,rfl⟩
   case round=>
    obtain⟨z,i,rfl,hi,rfl⟩:=hrel
    by_cases hlt:i<ts.length
    case pos=>
     obtain⟨x,hx⟩:∃ x,ts[i]?=some x:=⟨_,fy hlt⟩;have hfl:∀ k u,(Ac.enc x)[k]?=some u→(ts.flatMap Ac.enc)[i*7+k]?=some u:=fun k u hu=>flat_get Ac.enc 7 (fun _=>rfl) hx hu
     obtain⟨m1,o1,rfl,j7⟩:=tg rat.out (fO.1 (hfl 0 _ rfl)).1;obtain⟨m2,o2,rfl,pH⟩:=tg rbt.out (fO.1 (hfl 0 _ rfl)).1;have x0:=j7 _ _ (hfl 0 _ rfl);have y0:=pH _ _ (hfl 0 _ rfl);have x1:=j7 _ _ (hfl 1 _ rfl);have y1:=pH _ _ (hfl 1 _ rfl);have x2:=j7 _ _ (hfl 2 _ rfl);have y2:=pH _ _ (hfl 2 _ rfl);have x3:=j7 _ _ (hfl 3 _ rfl);have y3:=pH _ _ (hfl 3 _ rfl);have x4:=j7 _ _ (hfl 4 _ rfl);have y4:=pH _ _ (hfl 4 _ rfl);have x5:=j7 _ _ (hfl 5 _ rfl);have y5:=pH _ _ (hfl 5 _ rfl);have x6:=j7 _ _ (hfl 6 _ rfl);have y6:=pH _ _ (hfl 6 _ rfl);simp only [←ud,gn] at x0 y0 x1 y1 x2 y2 x3 y3 x4 y4 x5 y5 x6 y6;have h0:(0:Int)≤(i:Int):=O_
     have h1:(i:Int)<(ts.length:Int):=O_
     exact QO
    case neg=>
     have h2:i=ts.length:=O_
     subst h2;go_wp2
     go_loopw [7] (fun s7 wr=>∃ (z:aL W2) (i:Nat),wr=z.world∧i≤ss.length∧s7=.int .i64 i) (fun s _=>ss.length - (intOf s).toNat)
     case atStart=>exact⟨z,0,rfl,O_,rfl⟩
     case round=>
      obtain⟨z,i,rfl,hi,rfl⟩:=hrel
      by_cases hlt:i<ss.length
      case pos=>
       obtain⟨x,hx⟩:∃ x,ss[i]?=some x:=⟨_,fy hlt⟩;have hfl:∀ k u,(Sh.enc x)[k]?=some u→(ss.flatMap Sh.enc)[i*5+k]?=some u:=fun k u hu=>flat_get Sh.enc 5 (fun _=>rfl) hx hu
       obtain⟨m1,o1,rfl,j7⟩:=tg ras.out (fO.1 (hfl 0 _ rfl)).1;obtain⟨m2,o2,rfl,pH⟩:=tg rbs.out (fO.1 (hfl 0 _ rfl)).1;have x0:=j7 _ _ (hfl 0 _ rfl);have y0:=pH _ _ (hfl 0 _ rfl);have x1:=j7 _ _ (hfl 1 _ rfl);have y1:=pH _ _ (hfl 1 _ rfl);have x2:=j7 _ _ (hfl 2 _ rfl);have y2:=pH _ _ (hfl 2 _ rfl);have x3:=j7 _ _ (hfl 3 _ rfl);have y3:=pH _ _ (hfl 3 _ rfl);have x4:=j7 _ _ (hfl 4 _ rfl);have y4:=pH _ _ (hfl 4 _ rfl);simp only [←ud,gn] at x0 y0 x1 y1 x2 y2 x3 y3 x4 y4;have h0:(0:Int)≤(i:Int):=O_
       have h1:(i:Int)<(ss.length:Int):=O_
       exact QO
      case neg=>
       have h2:i=ss.length:=O_
       subst h2;go_wp2
       go_loopw [8] (fun s8 wr=>∃ (z:aL W2) (i:Nat),wr=z.world∧i≤ws.length∧s8=.int .i64 i) (fun s _=>ws.length - (intOf s).toNat)
       case atStart=>exact⟨z,0,rfl,O_,rfl⟩
       case round=>
        obtain⟨z,i,rfl,hi,rfl⟩:=hrel
        by_cases hlt:i<ws.length
        case pos=>
         obtain⟨x,hx⟩:∃ x,ws[i]?=some x:=⟨_,fy hlt⟩
         have hfl:∀ k u,([Value.int .u64 x]:List Value)[k]?=some u→(ws.map (Value.int .u64))[i+k]?=some u:=fun k u hu=>by
          cases k with
          | zero=>rw [gn,gA,hx];exact hu
          | succ k=>simp at hu
         obtain⟨m1,o1,rfl,j7⟩:=tg raw.out (fO.1 (hfl 0 _ rfl)).1;obtain⟨m2,o2,rfl,pH⟩:=tg rbw.out (fO.1 (hfl 0 _ rfl)).1;have x0:=j7 _ _ (hfl 0 _ rfl);have y0:=pH _ _ (hfl 0 _ rfl);simp only [gn] at x0 y0;have h0:(0:Int)≤(i:Int):=O_
         have h1:(i:Int)<(ws.length:Int):=O_
         exact QO
        case neg=>
         have h2:i=ws.length:=O_
         subst h2;go_wp2;go_ret;exact⟨rfl,Ext.next HE.out z.ok⟩
theorem Ip{l:List Mv}{a:Option Addr}{k:Nat}(hr:Rd w a (l.flatMap jG))(hk:∀ v∈l,Kr v.arg):
  Calls prog 17 #[fI c,.slice a l.length k] w fun e w'=>∃ (S:PM) (m:RM) (er:Int),rI w S er e w'∧Hid (∀ W,Ext w W→Calls prog 18 #[fI c,.slice a l.length k] W (rL W m er))∧S.calls=m.calls∧S.log=m.trace∧S.aG=m.aG∧S.words=m.words:=by
 by_cases ok:bY c.T c.R c.H c.Re c.Ca c.S c.B
 ·obtain⟨nn,b,s,hz,_⟩:=KC ok
  by_cases hn:65536<l.length
  ·refine(Io ok hz a l.length k hn).mono ?_
   intro e w' h;exact⟨PM.none,RM.none,3,h,aJ fun W _=>CY (by unfold tw;rw [aY ok,aY hn]) rfl a k,rfl,rfl,rfl,rfl⟩
  ·refine(O5 ok hz l a k hr hk O_).mono ?_
   rintro e w' ⟨m',pX,hpi,h⟩;have q:=hpi.mr.eq;exact⟨_,m',0,h,aJ fun W e=>MV ok hz pX a k (hr.ext e) O_,(ep RM.calls q).symm,(ep RM.trace q).symm,(ep RM.aG q).symm,(ep RM.words q).symm⟩
 ·refine(O6 ok a l.length k).mono ?_
  intro e w' h;exact⟨PM.none,RM.none,1,h,aJ fun W _=>CY (by unfold tw;rw [aK ok]) rfl a k,rfl,rfl,rfl,rfl⟩
theorem Pn(x:Int)(w:World):cm 9 #[x] w x fun w'=>w'=w:=by
 go_enter func9,ntmps9;exact iB
theorem ux{B:Nat}{v:Value}{e:TypeId}{size n:Nat}{us:List Value}(h:w.ownsRow B e size v n us):n≤9223372036854775807:=by
 rcases h.2 with ⟨_,rfl⟩ | ⟨g,cap,cur,rfl,_,_,h1,h2,_⟩
 ·omega
 ·unfold maxLen at h2;omega
theorem vj{l:List Mv}{a:Option Addr}{k:Nat}(hr:Rd w a (l.flatMap jG))(hk:∀ v∈l,Kr v.arg):
  cm 4 #[fI c,.slice a l.length k] w true fun w'=>Ext w w':=by
 have h1:=(Has.start w).alloc #[c.T,c.R,c.H,c.Re,c.Ca,c.S,c.B] 23;have p1:=h1.all aj;have hp:=Ip (c:=c) (k:=k) (hr.ext h1.ext) hk;unfold fI at hp ⊢;replace hp:=aJ hp;clear hr hk;go_enter func4,ntmps4;go_wp2_with fail;refine hp.out.mono ?_;rintro e w2 ⟨S,m,er,⟨vc,vt,vs,vw,rfl,hH⟩,hd,e1,e2,e3,e4⟩;rw [e1,e2,e3,e4] at hH;have h2:=h1.join hH;obtain⟨Pt,kt,rfl⟩:=aA (hH.own _ aj);obtain⟨Pw,kw,rfl⟩:=aA (hH.own _ bp);obtain⟨Ps,ks,rfl⟩:=aA (hH.own _ iU);obtain⟨Pc,kc,rfl⟩:=aA (hH.own _ lA);have hE:=aJ hH.ext;have h3:=h2.alloc #[.slice Pc m.calls.length kc,.slice Pt m.trace.length kt,.slice Ps m.aG.length ks,.slice Pw m.words.length kw] 58;have p3:=h3.all oJ;clear p1 hp h2 e1 e2 e3 e4 hH h1;have H3:=aJ h3;clear h3;go_wp2_with fail;refine(hd.out _ (Ext.next hE.out ((bu _).aE _))).mono ?_;rintro e w4 ⟨vc2,vt2,vs2,vw2,rfl,hH2⟩;have h4:=H3.out.join hH2;obtain⟨Qw,jw,rfl⟩:=aA (hH2.own _ aj);obtain⟨Qs,js,rfl⟩:=aA (hH2.own _ bp);obtain⟨Qt,jt,rfl⟩:=aA (hH2.own _ iU);obtain⟨Qc,jc,rfl⟩:=aA (hH2.own _ lA);have h5:=h4.alloc #[.slice Qc m.calls.length jc,.slice Qt m.trace.length jt,.slice Qs m.aG.length js,.slice Qw m.words.length jw] 58;have p5:=h5.all aj;have p6:=h5.all oJ;have hs:=BX (kc:=kc) (jc:=jc) (kt:=kt) (jt:=jt) (ks:=ks) (js:=js) (kw:=kw) (jw:=jw) (Rd.fM (h5.own _ xd)) (Rd.fM (h5.own _ iu)) (Rd.fM (h5.own _ xJ)) (Rd.fM (h5.own _ lA)) (Rd.fM (h5.own _ lO)) (Rd.fM (h5.own _ iU)) (Rd.fM (h5.own _ tn)) (Rd.fM (h5.own _ bp)) ⟨ux (h5.own _ xd),ux (h5.own _ xJ),ux (h5.own _ lO),ux (h5.own _ tn)⟩
 have HS:=aJ hs;have H5:=aJ h5.ext;clear hs h5 h4 hH2 p3 H3 hE hd;go_wp2_with (refine(Pn er _).mono ?_;rintro e wn ⟨rfl,hwn⟩;obtain rfl:=hwn);refine un HS.out fun w6 e6=>?_
 have H6:=aJ (Ext.next H5.out e6);clear e6 HS p5 p6;go_wp2;go_ret;exact⟨rfl,H6.out⟩
end Go.Proofs.YtgbhnihkgmpocaaGreat
namespace Go.Proofs.YtgbhnihkgmpocaaGreat
set_option maxRecDepth 100000
set_option maxHeartbeats 4000000
open Go.Proofs.Tryz
open Go.ChangeShapes Go.WideShapes Go.ChangeAt Go.RowKit
theorem fR{n:Int}(h:(Lit.int .i64 n).wf=true):-9223372036854775808≤n∧n≤9223372036854775807:=by
 simp [Lit.wf,IntKind.min,IntKind.max,IntKind.signed,IntKind.bits] at h;omega
section
variable{H:Type}{enc:TypeId×Value→H}{P:Program}
theorem oH{W W':World}(hl:laidOutB P=true)(hb:Below W.heap.size W W'):∀ {ts:List TypeId} {vs:List Value} {ds:List (DataW H)} {ps:List MemPlace},(∀ t∈ts,P.readableRec t=true∧t<P.types.size)→DataW.TrodAll enc P W 0 (fun _=>true) true ts vs ds ps→(∀ x∈ps,x.block<W.heap.size)→
  DataW.TrodAll enc P W' 0 (fun b=>decide (b<W.heap.size)) true ts vs ds ps
 | [],[],[],_,_,h,_=>h
 | t::ts,v::vs,d::ds,ps,hr,h,hlt=>by
  obtain⟨p,q,h1,h2,rfl⟩:=h;exact⟨p,q,Below.trod hl (hr t S_).1 (hr t S_).2 h1 hb (fun x hx=>hlt x (by simp [hx])),oH hl hb (fun t' ht'=>hr t' (by simp [ht'])) h2 (fun x hx=>hlt x (by simp [hx])),rfl⟩
 | [],_::_,_,_,_,h,_=>h.elim
 | [],[],_::_,_,_,h,_=>h.elim
 | _::_,[],_,_,_,h,_=>h.elim
 | _::_,_::_,[],_,_,h,_=>h.elim
theorem tc{W:World}{base:Nat}{sp:Nat→Bool}{held:Bool}:∀ {ts:List TypeId} {vs:List Value} {ds:List (DataW H)} {ps:List MemPlace},DataW.TrodAll enc P W base sp held ts vs ds ps→ds.length=ts.length
 | [],[],[],_,_=>rfl
 | t::ts,v::vs,d::ds,_,h=>by
  obtain⟨p,q,_,h2,_⟩:=h;simp [tc h2]
 | [],_::_,_,_,h=>h.elim
 | [],[],_::_,_,h=>h.elim
 | _::_,[],_,_,h=>h.elim
 | _::_,_::_,[],_,h=>h.elim
end
section
variable{H:Type}{enc:TypeId×Value→H}{P:Program}{W:World}
theorem Qv{w:World}{a:Addr}{u:Value}(h:w.cell? a=some u):a.block<w.heap.size:=by
 rcases Nat.lt_or_ge a.block w.heap.size with hlt | hge
 ·exact hlt
 ·simp [World.cell?,Array.getElem?_eq_none hge] at h
theorem Nf(a:Addr)(i j:Nat):(a.add i).add j=a.add (i+j):=by
 unfold Addr.add
 by_cases hi:i=0<;>by_cases hj:j=0<;>simp [hi,hj,ud]
theorem Is{α:Type}(R:α→List Value→Prop){t e:TypeId}{v:Value}{d:DataW H}{ps:List MemPlace}(ht:P.underlying t=some (.slice e))
  (afm:∀ (fuel:Nat) (cs:List Value) (x:DataW H×List MemPlace),DataW.trod enc P W 0 (fun _=>true) true fuel e cs=some x→∃ a,R a cs) {fuel:Nat}
  (h:DataW.trod enc P W 0 (fun _=>true) true fuel t [v]=some (d,ps)):
  ∃ (A:Option Addr) (n c:Nat) (xs:List α) (css:List (List Value)),v=.slice A n c∧n≤c∧xs.length=n∧css.length=n∧
   (∀ (i:Nat) (a:α) (cs:List Value),xs[i]?=some a→css[i]?=some cs→R a cs)∧(∀ cs∈css,cs.length=P.cellsOf e)∧Rd W A css.flatten∧
   ((d=.nil∧c=0)∨∃ el sp,d=.slice el sp∧el.length=n∧el.length+sp.length=c):=by
 rcases DataW.trod_slice ht h with ⟨h0,hx⟩ | ⟨a,len,cap,elems,rest,n,_,h0,hx,_,hle,_,hlen,hel,hsp,_⟩
 ·injection h0 with h0
  subst h0;injection hx with hd hp;exact⟨none,0,0,[],[],rfl,bZ _,rfl,rfl,fun i a cs h=>(by simp at h),fun cs h=>(by simp at h),Rd.nil _ _,.inl ⟨hd,rfl⟩⟩
 ·injection h0 with h0
  subst h0;injection hx with hd hp;have Ry:=(hsp rfl).1
  have each:∀ i,i<len→∃ y:α×List Value,W.cells? 0 (a.add (i*P.cellsOf e)) (P.cellsOf e)=some y.2∧R y.1 y.2:=by
   intro i hi;have:=hel i hi;obtain⟨y,hy⟩:∃ y,elems[i]?=some y:=⟨_,fy O_⟩;rw [hy] at this;obtain⟨cs,h1,h2⟩:=Option.bind_eq_some_iff.1 this;obtain⟨b,hb⟩:=afm _ _ _ h2;exact⟨(b,cs),h1,hb⟩
  obtain⟨l,j6,DH⟩:∃ l:List (α×List Value),l.length=len∧∀ i y,l[i]?=some y→W.cells? 0 (a.add (i*P.cellsOf e)) (P.cellsOf e)=some y.2∧R y.1 y.2:=by
   clear hel hsp hlen Ry hd hp h hle
   induction len with
   | zero=>exact⟨[],rfl,fun i y h=>by simp at h⟩
   | succ k ih=>
    obtain⟨l,h1,h2⟩:=ih (fun i hi=>each i O_);obtain⟨y,hy⟩:=each k O_;refine⟨l++ [y],by simp [h1],fun i z hz=>?_⟩
    by_cases hi:i<l.length
    ·rw [Bk hi] at hz
     exact h2 i z hz
    ·rw [yw O_] at hz
     obtain⟨hlt,_⟩:=fO.1 hz;have hik:i=k:=by simp at hlt;omega
     subst hik;rw [h1,Nat.sub_self] at hz;simp at hz;subst hz;exact hy
  have afa:∀ cs∈l.map (·.2),cs.length=P.cellsOf e:=by
   intro cs hcs;obtain⟨y,hy,rfl⟩:=List.mem_map.1 hcs;obtain⟨i,hi⟩:=N9 hy;exact(World.cells?_some (DH i y hi).1).2.1
  refine⟨some a,len,cap,l.map (·.1),l.map (·.2),rfl,hle,by simpa using j6,by simpa using j6,?_,afa,?_,.inr ⟨_,_,hd,by simpa using hlen,by simp [hlen,Ry];omega⟩⟩
  ·intro i b cs hb hc
   rw [gA] at hb hc
   cases hy:l[i]? with
   | none=>rw [hy] at hb;cases hb
   | some y=>
    rw [hy] at hb hc;injection hb with hb;injection hc with hc;subst hb hc;exact(DH i y hy).2
  ·have key:∀ j u,(l.map (·.2)).flatten[j]?=some u→W.cell? (a.add j)=some u:=by
    have gen:∀ (m:List (α×List Value)) (k:Nat),(∀ i y,m[i]?=some y→W.cells? 0 (a.add ((k+i)*P.cellsOf e)) (P.cellsOf e)=some y.2)→∀ j u,(m.map (·.2)).flatten[j]?=some u→W.cell? (a.add (k*P.cellsOf e+j))=some u:=by
     intro m
     induction m with
     | nil=>intro k _ j u hu;simp at hu
     | cons y m ih=>
      intro k hm j u hu;have h0:=hm 0 y rfl;rw [gn] at h0;obtain⟨_,hlen0,hc0⟩:=World.cells?_some h0;simp only [rU,List.flatten_cons] at hu
      by_cases hj:j<y.2.length
      ·rw [Bk hj] at hu
       have:=hc0 j O_;rw [hu,Nf] at this;exact this
      ·rw [yw O_] at hu
       have:=ih (k+1) (fun i z hz=>by
        have:=hm (i+1) z (by simpa using hz)
        rwa [show k+(i+1)=k+1+i from O_] at this) _ u hu
       rw [Nat.succ_mul] at this
       rwa [show k*P.cellsOf e+P.cellsOf e+(j - y.2.length)=k*P.cellsOf e+j from O_] at this
    intro j u hu;have:=gen l 0 (fun i y hy=>by rw [rN];exact(DH i y hy).1) j u hu
    rwa [Nat.zero_mul,rN] at this
   intro hne;obtain⟨u,us,U8⟩:=List.exists_cons_of_ne_nil hne;have h0:=key 0 u (by rw [U8];rfl);obtain⟨b,off,spot⟩:=a;have ZR:spot=none:=World.cell?_spot (by simpa [Addr.add] using h0);subst ZR;refine⟨b,off,rfl,?_,fun j u hu=>?_⟩
   ·have:=Qv h0
    simpa [Addr.add] using this
   ·have:=key j u hu
    rwa [Addr.add_lit] at this
theorem iL{e:TypeId}{k:IntKind}(he:P.underlying e=some (.int k))(fuel:Nat)(cs:List Value)(x:DataW H×List MemPlace)(h:DataW.trod enc P W 0 (fun _=>true) true fuel e cs=some x):
  ∃ a:Int,cs= [.int k a]∧(Lit.int k a).wf=true:=by
 cases fuel with
 | zero=>simp [DataW.trod] at h
 | succ n=>
  unfold DataW.trod at h;rw [he] at h
  split at h<;>simp_all
theorem vZ{t:TypeId}{fs:Array Field}(ht:P.underlying t=some (.struct fs)){fuel:Nat}{cs:List Value}{x:DataW H×List MemPlace}(h:DataW.trod enc P W 0 (fun _=>true) true fuel t cs=some x):
  cs.length=P.cellsOf t∧∃ n,∀ (i:Nat) (f:Field),fs[i]?=some f→∃ y,DataW.trod enc P W 0 (fun _=>true) true n f.type ((cs.drop f.offset).take (P.cellsOf f.type))=some y:=by
 obtain⟨xs,n,_,_,hl,hlen,hf⟩:=DataW.trod_struct ht h;refine⟨hl,n,fun i f hi=>?_⟩;have hlt:=(uh.1 hi).1;exact⟨xs[i],(hf i f hi).trans (fy O_)⟩
theorem M4{α:Type}{enc':α→List Value}:∀ {xs:List α} {css:List (List Value)},xs.length=css.length→(∀ (i:Nat) (a:α) (cs:List Value),xs[i]?=some a→css[i]?=some cs→cs=enc' a)→css=xs.map enc'
 | [],[],_,_=>rfl
 | x::xs,cs::css,hl,h=>by
  rw [rU,h 0 x cs rfl rfl,M4 (xs:=xs) (css:=css) (by simpa using hl) fun i a cs ha hc=>h (i+1) a cs (by simpa using ha) (by simpa using hc)]
 | [],_::_,hl,_=>by simp at hl
 | _::_,[],hl,_=>by simp at hl
theorem C9{t e:TypeId}{base:Nat}{v:Value}(ht:P.underlying t=some (.slice e))(h:Value.okWide P W .any base t v):v.cells.toList= [v]:=by
 obtain⟨a0,len,cap,rfl⟩:=okWide_slice ht h
 rfl
end
theorem PN{H:Type}{enc:TypeId×Value→H}{C:Checked}{os:Os}{f:FuncId}{fn:Func}{s:ChangeSpec}{tb:TypeId}
  (own:ownKnob C.prog.godebug=none) (started:os.Started) (noInit:C.prog.inits.idxOf? f=none) (hfn:C.prog.funcs[f]?=some fn)
  (witness:∃ (w:World) (tape:Tape) (i:Input),w.os=os∧(w.forCall tape i).Shaped C.prog∧i.vars= []∧Input.okWide C.prog (w.forCall tape i) .any w.heap.size f i∧
   s.pre6 enc C.prog fn [] false (w.forCall tape i).memory i.args∧({}:Assume).holds C.prog (lone (Frame.enter C.prog f i.args .normal) [] (w.forCall tape i)))
  (hres:fn.resultTypes=#[tb]) (htb:C.prog.underlying tb=some .bool) (hvars:s.vars= [])
  (ZS:∀ ds:List (DataW H),ds.length=fn.params.size→(s.fn H ds).results= [.lit (.bool true)]∧(s.fn H ds).args=ds∧(s.fn H ds).vars= [])
  (hl:laidOutB C.prog=true) (hr:fn.params.toList.all (fun t=>C.prog.readableRec t && decide (t<C.prog.types.size))=true)
  (walk:∀ (W:World) (base:Nat) (args:Array Value) (ds:List (DataW H)) (ps:List MemPlace),(∀ (j:Nat) t v,fn.params[j]?=some t→args[j]?=some v→Value.okWide C.prog W .any base t v)→
   DataW.TrodAll enc C.prog W 0 (fun _=>true) true fn.params.toList args.toList ds ps→(∀ x∈ps,x.block<W.heap.size)→
   (DataW.weightsEach C.prog fn.params.toList ds).all (·≤reachBytes)=true→
   Calls C.prog f args W fun e W'=>e=.returned true∧Below W.heap.size W W'):
  ReturnsInHanded {} C os f .any (s.pre6 enc C.prog fn [] false) (s.post enc C.prog fn false true false false):=by
 refine returnsInHanded_of_change_sized own started noInit hfn witness ?_;intro W base args ds gs before hval hW _ hsz _;have hW':=hW;obtain⟨p,q,hA,hV,rfl,_,_⟩:=hW;rw [hvars] at hV;obtain⟨rfl,rfl⟩:=trodVars_none hV
 have hvt:s.plain.varTypes C.prog= []:=by
  unfold DataSpec.varTypes ChangeSpec.plain;simp [hvars]
 rw [hvt] at hsz;simp only [iN] at hsz hW';have hlt:∀ x∈p,x.block<W.heap.size:=fun x hx=>by simpa using hW'.lt x hx
 refine(walk W base args ds p hval hA hlt hsz).mono fun e W' ⟨he,hb⟩=>?_
 subst he;have hlen:ds.length=fn.params.size:=by rw [tc hA];simp
 obtain⟨s1,s2,s3⟩:=ZS ds hlen
 have hr':∀ t∈fn.params.toList,C.prog.readableRec t=true∧t<C.prog.types.size:=fun t ht=>by
  have:=(Dv.1 hr) t ht;simpa using this
 refine⟨_,rfl,ds,[],p,[],p,[],hW',?_,?_,?_,hb.frame _,fun h=>by cases h⟩
 ·simp only [iN,s1,hres]
  exact⟨[],[],shut_bool htb true,rfl,rfl⟩
 ·simp only [iN,s2]
  exact oH hl hb hr' hA hlt
 ·simp only [iN,s3,hvars]
  rfl
section
variable{H:Type}{enc:TypeId×Value→H}{W:World}
def GN(x:Int):Prop:=-9223372036854775808≤x∧x≤9223372036854775807
theorem Da:prog.cellsOf 3=1:=K_
theorem Qn(fuel:Nat)(cs:List Value)(x:DataW H×List MemPlace)(h:DataW.trod enc prog W 0 (fun _=>true) true fuel 23 cs=some x):
  ∃ T R H' Re Ca S B:Int,cs= [.int .i64 T,.int .i64 R,.int .i64 H',.int .i64 Re,.int .i64 Ca,.int .i64 S,.int .i64 B]∧GN T∧GN R∧GN H'∧GN Re∧GN Ca∧GN S∧GN B:=by
 obtain⟨hl,n,hf⟩:=vZ underlying23 h;rw [show prog.cellsOf 23=7 from K_] at hl
 match cs,hl with
 | [c0,c1,c2,c3,c4,c5,c6],_=>
  obtain⟨y0,h0⟩:=hf 0 _ rfl;obtain⟨y1,h1⟩:=hf 1 _ rfl;obtain⟨y2,h2⟩:=hf 2 _ rfl;obtain⟨y3,h3⟩:=hf 3 _ rfl;obtain⟨y4,h4⟩:=hf 4 _ rfl;obtain⟨y5,h5⟩:=hf 5 _ rfl;obtain⟨y6,h6⟩:=hf 6 _ rfl;simp only [List.getElem_toArray,List.getElem_cons_zero,List.getElem_cons_succ,Da,rO,rR,rP,rQ] at h0 h1 h2 h3 h4 h5 h6;obtain⟨a0,e0,w0⟩:=iL underlying3 _ _ _ h0;obtain⟨a1,e1,w1⟩:=iL underlying3 _ _ _ h1;obtain⟨a2,e2,w2⟩:=iL underlying3 _ _ _ h2;obtain⟨a3,e3,w3⟩:=iL underlying3 _ _ _ h3;obtain⟨a4,e4,w4⟩:=iL underlying3 _ _ _ h4;obtain⟨a5,e5,w5⟩:=iL underlying3 _ _ _ h5;obtain⟨a6,e6,w6⟩:=iL underlying3 _ _ _ h6;injection e0 with e0;injection e1 with e1;injection e2 with e2;injection e3 with e3;injection e4 with e4;injection e5 with e5;injection e6 with e6;subst e0 e1 e2 e3 e4 e5 e6;exact⟨a0,a1,a2,a3,a4,a5,a6,rfl,fR w0,fR w1,fR w2,fR w3,fR w4,fR w5,fR w6⟩
theorem Pg{base:Nat}{v:Value}{d:DataW H}{ps:List MemPlace}(hok:Value.okWide prog W .any base 23 v)
  (h:DataW.Trod enc prog W 0 (fun _=>true) true 23 v d ps):
  ∃ T R H' Re Ca S B:Int,v=.agg #[.int .i64 T,.int .i64 R,.int .i64 H',.int .i64 Re,.int .i64 Ca,.int .i64 S,.int .i64 B]∧GN T∧GN R∧GN H'∧GN Re∧GN Ca∧GN S∧GN B:=by
 obtain⟨cs,rfl,_⟩:=okWide_struct underlying23 hok;obtain⟨fuel,h⟩:=h;obtain⟨T,R,H',Re,Ca,S,B,e,hb⟩:=Qn _ _ _ h;refine⟨T,R,H',Re,Ca,S,B,?_,hb⟩;have:cs.toList=_:=e;rw [←Array.toArray_toList (xs:=cs),this]
end
end Go.Proofs.YtgbhnihkgmpocaaGreat
namespace Go.Proofs.YtgbhnihkgmpocaaGreat
set_option maxRecDepth 100000
set_option maxHeartbeats 4000000
open Go.Proofs.Tryz
open Go.RowKit
theorem ad0:ownKnob prog.godebug=none:=K_
theorem LH:laidOutB prog=true:=K_
end Go.Proofs.YtgbhnihkgmpocaaGreat
namespace Go.Proofs.YtgbhnihkgmpocaaGreat
set_option maxRecDepth 100000
set_option maxHeartbeats 4000000
open Go.Proofs.Tryz
open Go.ChangeShapes Go.WideShapes Go.ChangeAt Go.RowKit
section
variable{H:Type}{enc:TypeId×Value→H}{W:World}
theorem V5(fuel:Nat)(cs:List Value)(x:DataW H×List MemPlace)(h:DataW.trod enc prog W 0 (fun _=>true) true fuel 36 cs=some x):∃ a:Mv,cs=jG a∧Kr a.arg:=by
 obtain⟨hl,n,hf⟩:=vZ underlying36 h;rw [show prog.cellsOf 36=4 from K_] at hl
 match cs,hl with
 | [c0,c1,c2,c3],_=>
  obtain⟨y0,h0⟩:=hf 0 _ rfl;obtain⟨y1,h1⟩:=hf 1 _ rfl;obtain⟨y2,h2⟩:=hf 2 _ rfl;obtain⟨y3,h3⟩:=hf 3 _ rfl;simp only [List.getElem_toArray,List.getElem_cons_zero,List.getElem_cons_succ,Da,show prog.cellsOf 34=1 from K_,rO,rR,rP,rQ] at h0 h1 h2 h3;obtain⟨a0,e0,w0⟩:=iL underlying3 _ _ _ h0;obtain⟨a1,e1,w1⟩:=iL underlying34 _ _ _ h1;obtain⟨a2,e2,w2⟩:=iL underlying3 _ _ _ h2;obtain⟨a3,e3,w3⟩:=iL underlying3 _ _ _ h3;injection e0 with e0;injection e1 with e1;injection e2 with e2;injection e3 with e3;subst e0 e1 e2 e3;have:=fR w2;exact⟨⟨a0,a1,a2,a3⟩,rfl,this.1,by show a2<_;omega⟩
theorem Iu{t:TypeId}{base:Nat}{v:Value}{d:DataW H}{ps:List MemPlace}(ht:prog.underlying t=some (.slice 36))(hok:Value.okWide prog W .any base t v)
  (h:DataW.Trod enc prog W 0 (fun _=>true) true t v d ps):∃ (A:Option Addr) (c:Nat) (l:List Mv),v=.slice A l.length c∧Rd W A (l.flatMap jG)∧∀ x∈l,Kr x.arg:=by
 obtain⟨fuel,h⟩:=h;rw [C9 ht hok] at h;obtain⟨A,n,c,xs,css,rfl,hnc,hx,hc,hR,_,hrd,hd⟩:=Is (fun(x:Mv) cs=>cs=jG x∧Kr x.arg) ht (fun fuel cs x h=>V5 fuel cs x h) h;have e1:=M4 (enc':=jG) (hx.trans hc.symm) (fun i a cs h1 h2=>(hR i a cs h1 h2).1);rw [e1,←List.flatMap_def] at hrd;subst hx;refine⟨A,c,xs,rfl,hrd,fun x hx'=>?_⟩;obtain⟨i,hi⟩:=N9 hx';obtain⟨hlt,_⟩:=fO.1 hi;exact(hR i x css[i] hi (fy O_)).2
end
theorem sC(os:Os)(started:os.Started)(H:Type)(enc:TypeId×Value→H):
  ReturnsInHanded {} Tryz.checked os 4 .any (Rows.poolPlaysSpec.pre6 enc prog Tryz.f4 [] false) (Rows.poolPlaysSpec.post enc prog Tryz.f4 false true false false):=by
 refine PN (C:=Tryz.checked) (tb:=4) ad0 started K_ func4
  (ChangeSpec.witness6 (enc:=enc) (C:=Tryz.checked) false ⟨#[],#[.agg #[.int .i64 0,.int .i64 0,.int .i64 0,.int .i64 0,.int .i64 0,.int .i64 0,.int .i64 0],.slice none 0 0],[]⟩ 8 K_ K_ K_ K_)
  rfl underlying4 rfl ?_ LH K_ ?_
 ·intro ds hds
  match ds,hds with
  | [d1,d2],_=>exact⟨rfl,rfl,rfl⟩
 ·intro W base args ds ps ZP Vy hlt hsz
  have hval:∀ (j:Nat) t v,Tryz.f4.params[j]?=some t→args[j]?=some v→Value.okWide prog W .any base t v:=ZP;have hA:DataW.TrodAll enc prog W 0 (fun _=>true) true Tryz.f4.params.toList args.toList ds ps:=Vy;rw [Tryz.params4] at hA hval;obtain⟨v0,v1,d0,d1,p0,p1,rfl,rfl,rfl,h0,h1⟩:=trodAll_two hA;obtain⟨T,R,H',Re,Ca,S,B,rfl,_⟩:=Pg (hval 0 23 v0 rfl rfl) h0;obtain⟨A,c,l,rfl,hr,hk⟩:=Iu underlying24 (hval 1 24 v1 rfl rfl) h1;exact vj (c:=⟨T,R,H',Re,Ca,S,B⟩) hr hk
theorem poolPlays_holds:Rows.PoolPlaysSaid:=
 OpenClaim.holds_of_wide 4 Tryz.f4 rfl rfl rfl rfl rfl rfl rfl ⟨rfl,rfl,rfl,rfl,rfl⟩ rfl rfl rfl rfl rfl K_ func4 K_
  (of_decide_eq_true K_) (by unfold Func.isWrapper;first | (rw [aY (by decide+kernel)];kernel_rfl) | (rw [aK (by decide+kernel)];exact⟨rfl,rfl⟩))
  (fun os started H enc _=>sC os started H enc)
end Go.Proofs.YtgbhnihkgmpocaaGreat
