/- Part 12 of 16 of the proof of PoolPlays. No condition. -/
import Derived.OrdersIn
import Derived.Sort.CutIn
import Derived.Shelf.Abstract
import Derived.Test.YtgbhnihkgmpocaaGreatM10
namespace Go.Proofs.YtgbhnihkgmpocaaGreat
set_option maxRecDepth 100000
set_option maxHeartbeats 4000000
open Tryz
variable{P:Prop}
theorem aby(x:P:=by
 go_wp2_with fail;have hP:=h2.oZ (.slice none 0 0) (.slice none 0 0) (.slice none 0 0) (.slice none 0 0);refine DL (results_cell_tmp rfl _ _ (w.heap.size+1) rfl _ (run_loadVar_row _ _ _ _ _ _ _ (hP.uG aj) underlying58 rfl K_)) rfl ?_;exact Im hP.ext):P:=x
theorem QB(x:P:=by
 go_wp2_with fail
 go_meet
 case rel=>exact⟨_,_,_,_,rfl,gF⟩):P:=x
theorem zB(x:P:=by
 rw [uj];omega):P:=x
theorem SM(x:P:=by
 have h:=((Has.start w).alloc #[c.T,c.R,c.H,c.Re,c.Ca,c.S,c.B] 23).alloc uX 58;rw [World.size_alloc] at h;exact h):P:=x
theorem Ny(x:P:=by
 rw [uj,uj,hT];omega):P:=x
theorem RZ(x:P:=by
 exact⟨fun i=>by simp only [World.cell?,Has.uG h hm];simp,Has.dW h hm⟩):P:=x
open Go.RowKit
def dK(b u:Nat):Nat→List Int→List Int
 | 0,l=>l
 | k+1,l=>(dK b u k l).set (b+(u+k)) (((u+k:Nat):Int)+2)
def cO(n b S u:Nat):List Int:=
 if 0<u then((dK b u (S - 1 - u) (if u<S then(List.replicate n 0).set 0 ((u:Int)+1) else List.replicate n 0)).set 3 1).set 4 1
 else dK b u (S - 1 - u) (if u<S then(List.replicate n 0).set 0 ((u:Int)+1) else List.replicate n 0)
theorem gT(b u k:Nat)(l:List Int):(dK b u k l).length=l.length:=by
 induction k with
 | zero=>rfl
 | succ k ih=>rw [dK,cW,ih]
theorem BB:(prog.info? 38).map (fun i=>(i.zero,i.size,i.bytes))=some (some (.int .u64 0),1,8):=K_
variable{w:World}
theorem gG{B g n c j:Nat}{l:List Int}(x:Int)(h:w.ownsRow B 38 1 (.slice (some ⟨g,0,none⟩) n c) n (l.map (Value.int .u64))):(w.setCell ⟨g,j,none⟩ (.int .u64 x)).ownsRow B 38 1 (.slice (some ⟨g,0,none⟩) n c) n ((l.set j x).map (Value.int .u64)):=by
 have:=(h.stored j (.int .u64 x)).1
 rwa [tY]
theorem Lb(w:World)(B n:Nat)(hB:B≤w.heap.size)(hn:n≤9223372036854775807)(e:TypeId)(z:Value):(w.alloc (.cells (jg n z) e)).ownsRow B e 1 (.slice (some ⟨w.heap.size,0,none⟩) n n) n (List.replicate n z):=by
 have h:=World.ownsRow_made (base:=B) (e:=e) (size:=1) w (jg n z) n hB (by unfold maxLen;omega) (by simp [jg]);refine⟨S_,.inr ⟨w.heap.size,n,jg n z,rfl,hB,yo _ _,bZ _,by unfold maxLen;omega,by simp [jg],by simp [jg]⟩⟩
theorem ir{w0 w:World}{B g n c j:Nat}{e:TypeId}{size:Nat}{us:List Value}(h:w.ownsRow B e size (.slice (some ⟨g,0,none⟩) n c) n us)(hx:Ext w0 w)(hB:w0.heap.size≤B)(u:Value):Ext w0 (w.setCell ⟨g,j,none⟩ u):=
 hx.only (S:=fun q=>q=g) ((dM.refl _ _).setCell _ _ fun _=>rfl) fun q hq=>by have:=(h.lt g rfl).1;omega
theorem Rp(w:World)(B n:Nat)(hB:B≤w.heap.size)(hn:n≤9223372036854775807)(e:TypeId)(z:Value):
  ∃ w1,w.alloc (.cells (jg n z) e)=w1∧w1.ownsRow B e 1 (.slice (some ⟨w.heap.size,0,none⟩) n n) n (List.replicate n z)∧Ext w w1∧w.heap.size<w1.heap.size:=
 ⟨_,rfl,Lb w B n hB hn e z,(bu w).aE _,S_⟩
def wQ(w:World)(n b S u:Nat)(tup:Value→Value)(e:Ending)(w':World):Prop:=
 ∃ g,e=.returned (tup (.slice (some ⟨g,0,none⟩) n n))∧w'.ownsRow w.heap.size 38 1 (.slice (some ⟨g,0,none⟩) n n) n ((cO n b S u).map (Value.int .u64))∧Ext w w'
structure nO(R H S B:Int)(n b s:Nat):Prop where
 size:b7 R H S B 13=n
 base:b7 R H S B 9=b
 slots:S=s
 room:n=b+4*s
 big:n≤20000
 low:9≤b
theorem KC{T R H Re Ca S B:Int}(hok:bY T R H Re Ca S B):∃ n b s,nO R H S B n b s∧1≤s∧s≤1024:=by
 unfold bY at hok;obtain⟨_,_,hR,pZ,hH,qg,_,_,_,_,hS,mP,hB,xW⟩:=hok;have h9:=jv R H S B hR pZ hH qg hS mP hB xW 9;have Gk:=jv R H S B hR pZ hH qg hS mP hB xW 13;have h:b7 R H S B 13=b7 R H S B 9+4*S:=by simp [b7,cV];omega
 exact⟨(b7 R H S B 13).toNat,(b7 R H S B 9).toNat,S.toNat,⟨O_,O_,O_,O_,O_,O_⟩,O_,O_⟩
theorem I0(T R H Re Ca S B:Int)(hok:bY T R H Re Ca S B)(n b s:Nat)(hsz:nO R H S B n b s)(u:Nat)(hu:u≤s)(w:World):
  Calls prog 30 #[(.agg #[T,R,H,Re,Ca,S,B]),u] w (wQ w n b s u (fun v=>.tuple #[v,.int .i64 0])):=by
 obtain⟨h1,h2,h3,h4,h5,h6⟩:=hsz;subst h3;have mP:1≤s∧s≤1024:=by unfold bY at hok;omega
 have NV:=aJ (fun w=>BR T R H Re Ca s B w);have ace:=aJ (fun w=>fY T R H Re Ca s B hok 9 10 0 rfl O_ O_ (by simp [cV];omega) O_ w);have Wv:=aJ hok;have hmk:=fun W=>nX BB rfl underlying42 (n:Int) O_ O_ O_ W
 simp only [mW] at hmk;have H1:=aJ h1;have H2:=aJ h2;have Xf:decide ((u:Int)<0)=false:=S_
 have Z8:decide (s<u)=false:=by simp;omega
 have hd3:decide ((s:Int)<(u:Int))=false:=by simp;omega
 have hroom:b+4*s≤n:=O_
 have H4:=aJ h4;clear hok h1 h2 h4;go_in;go_wp2_with fail;obtain⟨w0,hw0,hC,hE,hlt⟩:=nI w (.cells (Qr T R H Re Ca s B) 23);rw [hw0];have HE:=aJ hE;obtain⟨c0,c1,c2,c3,c4,c5,c6⟩:=aL.cfg hC;have ltC:=aL.lt hlt;clear hw0 hC hE;refine un (NV.out _) fun w1 e1=>?_
 rw [aY Wv.out,H1.out];obtain⟨k1,rfl⟩:=kB e1;clear e1
 go_upto_region 7 with fail;obtain⟨w2,DG,Av,e2,hlt2⟩:=Rp k1.world w0.heap.size n k1.ok.size O_ 38 (.int .u64 0);rw [DG];obtain⟨k2,rfl⟩:=jD k1 e2;have hgW:=k1.ok.size;generalize k1.world.heap.size=g at*;rw [show List.replicate n (Value.int .u64 0)=(List.replicate n (0:Int)).map (Value.int .u64) from S_] at Av;have JC:=aJ Av;clear DG e2 Av hlt2;go_wp2_with fail;refine un (ace.out _) fun w3 e3=>?_
 rw [H2.out,Int.add_zero];have NZ:=aJ (dB JC.out e3);obtain⟨k3,rfl⟩:=jD k2 e3;clear e3;have hn0:(0:Int)<(n:Int):=O_
 obtain⟨l1,j6⟩:∃ l1:List Int,l1=if u<s then(List.replicate n 0).set 0 ((u:Int)+1) else List.replicate n 0:=⟨_,rfl⟩;have Ww:=aJ j6;have ZY:l1.length=n:=by rw [j6];split<;>simp
 have HLL:=aJ ZY;clear j6 ZY;have hc0:k3.world.cell? ⟨g,0,none⟩=some (.int .u64 0):=(NZ.out.cellAt 0 O_).trans (by rw [gA,uf,aY O_];rfl);have Xd:=NZ.out.frozenAt 0
 by_cases U8:u<s
 case' pos=>
  have U7:(u:Int)<(s:Int):=O_
  go_upto_region 10 with fail;have e4:=ir (j:=0) NZ.out k3.ok (bZ _) (.int .u64 ((u:Int)+1));have Bv:=gG (j:=0) ((u:Int)+1) NZ.out;rw [show(List.replicate n (0:Int)).set 0 ((u:Int)+1)=l1 by rw [Ww.out,aY U8]] at Bv
 case' neg=>
  have U7:(s:Int)≤(u:Int):=O_
  go_upto_region 10 with fail;have e4:=k3.ok;have Bv:=NZ.out;rw [show List.replicate n (0:Int)=l1 by rw [Ww.out,aK U8]] at Bv
 all_goals
  obtain⟨k4,Bz⟩:=kB e4;rw [Bz] at Bv ⊢;have HO4:=aJ Bv;clear Bz e4 Bv hc0 Xd;go_wp2
  go_loopw [11] (fun XR wr=>∃ (k:aL w0) (q i:Nat),wr=k.world∧XR=.int .i64 q∧q=u+i∧i≤s - 1 - u∧k.world.ownsRow w0.heap.size 38 1 (.slice (some ⟨g,0,none⟩) n n) n ((dK b u i l1).map (Value.int .u64))) (fun v _=>s - (intOf v).toNat)
  case atStart=>exact⟨k4,u,0,rfl,rfl,O_,O_,HO4.out⟩
  case round=>
   obtain⟨k,q,i,rfl,rfl,hq,hi,hown⟩:=hrel;have HO:=aJ hown;have HQ:=aJ hq
   by_cases hlt:i<s - 1 - u
   ·first
     | (exfalso;omega)
     | (obtain⟨j,hj⟩:∃ j:Nat,(b:Int)+(q:Int)=(j:Int):=⟨b+q,O_⟩
        have hjn:(j:Int)<(n:Int):=O_
        have hj0:j<n:=O_
        have pY:(q:Int)<(s:Int) - 1:=O_
        have HJ:Hid (j=b+(u+i)):=by show _=_;omega
        obtain⟨x,hx⟩:∃ x,(dK b u i l1)[j]?=some x:=⟨_,fy (by rw [gT,HLL.out];exact hj0)⟩;have hcj:k.world.cell? ⟨g,j,none⟩=some (.int .u64 x):=(HO.out.cellAt j O_).trans (by simp [hx]);have hfj:=HO.out.frozenAt j;clear hq hown hx;go_wp2_with fail;have e5:=ir (j:=j) HO.out k.ok (bZ _) (.int .u64 ((q:Int)+2));have IK:=gG (j:=j) ((q:Int)+2) HO.out;obtain⟨k5,Az⟩:=kB e5;rw [Az] at IK ⊢;have HO5:=aJ IK;clear Az e5 IK hcj hfj
        go_roundw
        case rel=>exact⟨k5,q+1,i+1,rfl,by go_num,by have:=HQ.out;omega,O_,by rw [dK,←HJ.out,←HQ.out];exact HO5.out⟩
        case measure=>simp [intOf];omega)
   ·have hie:Hid (i=s - 1 - u):=by show _=_;omega
    have pY:(s:Int) - 1≤(q:Int):=O_
    obtain⟨l2,DH⟩:∃ l2,l2=dK b u i l1:=⟨_,rfl⟩;have Vh:l2.length=n:=by rw [DH,gT,HLL.out]
    obtain⟨x3,PW⟩:∃ x,l2[3]?=some x:=⟨_,fy O_⟩;obtain⟨x4,hx4⟩:∃ x,l2[4]?=some x:=⟨_,fy O_⟩;rw [←DH] at hown;have JC:=aJ hown;have J8:Hid (l2=dK b u (s - 1 - u) (if u<s then(List.replicate n 0).set 0 ((u:Int)+1) else List.replicate n 0)):=by show _=_;rw [DH,hie.out,←Ww.out]
    have hc3:k.world.cell? ⟨g,3,none⟩=some (.int .u64 x3):=(JC.out.cellAt 3 O_).trans (by simp [PW]);have hc4:k.world.cell? ⟨g,4,none⟩=some (.int .u64 x4):=(JC.out.cellAt 4 O_).trans (by simp [hx4]);have hf3:=JC.out.frozenAt 3;have hf4:=JC.out.frozenAt 4;have hn3:(3:Int)<(n:Int):=O_
    have hn4:(4:Int)<(n:Int):=O_
    clear hq hown DH Vh PW hx4
    by_cases U9:0<u
    ·have ZQ:(0:Int)<(u:Int):=O_
     have HF:Hid (cO n b s u=(l2.set 3 1).set 4 1):=by show _=_;rw [cO,aY U9,J8.out]
     go_wp2
     go_ret2;refine⟨g,rfl,?_,?_⟩
     ·rw [HF.out]
      exact ku (gG 1 (gG 1 JC.out)) HE.out.size
     ·exact Ext.next HE.out (ir (gG 1 JC.out) (ir JC.out k.ok (bZ _) _) (bZ _) _)
    ·first
      | (exfalso;omega)
      | (have ZQ:(u:Int)≤0:=O_
         have HF:Hid (cO n b s u=l2):=by show _=_;rw [cO,aK U9,J8.out]
         go_wp2
         go_ret2;refine⟨g,rfl,?_,Ext.next HE.out k.ok⟩;rw [HF.out];exact ku JC.out HE.out.size)
section
variable{c:Cf}
theorem Ht(b:Nat)(s k:Nat)(hk:k+2≤s)(l:List Int)(h:∀ x∈l,0≤x∧x≤(s:Int)):∀ x∈dK b 1 k l,0≤x∧x≤(s:Int):=by
 induction k with
 | zero=>exact h
 | succ k ih=>
  intro x hx;rw [dK] at hx
  rcases DB hx with hx | rfl
  ·exact ih O_ x hx
  ·omega
theorem zm(n b s:Nat)(hs:1≤s):∀ x∈cO n b s 1,0≤x∧x≤(s:Int):=by
 have h0:∀ x∈(if 1<s then(List.replicate n (0:Int)).set 0 (((1:Nat):Int)+1) else List.replicate n 0),0≤x∧x≤(s:Int):=by
  intro x hx
  by_cases h:1<s
  ·rw [aY h] at hx
   rcases DB hx with hx | rfl
   ·rw [Fm hx];omega
   ·omega
  ·rw [aK h] at hx
   rw [Fm hx];omega
 have h1:∀ x∈dK b 1 (s - 1 - 1) (if 1<s then(List.replicate n (0:Int)).set 0 (((1:Nat):Int)+1) else List.replicate n 0),0≤x∧x≤(s:Int):=by
  by_cases h:2≤s
  ·exact Ht b s _ O_ _ h0
  ·rw [show s - 1 - 1=0 from O_]
   exact h0
 intro x hx;unfold cO at hx;rw [aY O_] at hx
 rcases DB hx with hx | rfl
 ·rcases DB hx with hx | rfl
  ·exact h1 x hx
  ·omega
 ·omega
theorem iy(n b s:Nat):(cO n b s 1).length=n:=by
 unfold cO;rw [aY O_,cW,cW,gT]
 split
 ·rw [cW,uj]
 ·rw [uj]
theorem Mt(n b s:Nat)(hn:5≤n):(cO n b s 1)[3]?=some 1∧(cO n b s 1)[4]?=some 1:=by
 have hl:=iy n b s;unfold cO at hl ⊢;rw [aY O_] at hl ⊢;rw [cW] at hl;refine⟨?_,g9 O_⟩;rw [oG O_];rw [cW] at hl;exact g9 O_
theorem Uj(ok:bY c.T c.R c.H c.Re c.Ca c.S c.B){n b s:Nat}(hz:nO c.R c.H c.S c.B n b s):MR c (MM.new c (cO n b s 1)) (RM.new c (cO n b s 1)):=by
 have ok':=ok;unfold bY at ok';obtain⟨h1,h2,h3,h4,h5,h6⟩:=hz;have hlen:=iy n b s;have hmem:=zm n b s O_;obtain⟨e3,e4⟩:=Mt n b s O_;have hw:∀ a:Int,(MM.new c (cO n b s 1)).pm.w a=(cO n b s 1).getD a.toNat 0:=fun a=>rfl
 refine⟨⟨ok,?_,?_,?_,?_,?_,?_,?_,?_,?_,?_⟩,Int.le_refl _,?_,?_,?_,?_⟩
 ·show((cO n b s 1).length:Int)=_
  rw [hlen,h1]
 ·intro a ha0 Xi
  have Xi:a<((cO n b s 1).length:Int):=Xi;rw [hw];obtain⟨x,hx⟩:∃ x,(cO n b s 1)[a.toNat]?=some x:=⟨_,fy O_⟩;have hb:=hmem x (nV hx);rw [kO,hx]
  show Pw c (kd c a) x
  have hlk:lk x=x - 1:=by unfold lk;omega
  refine⟨hb.1,O_,fun _=>O_,fun _=>⟨O_,O_⟩,fun h=>?_,fun _=>O_⟩
  have AB:a=3∨a=4:=by
   unfold kd at h
   by_cases q1:a<1
   ·rw [aY q1] at h;omega
   rw [aK q1] at h
   by_cases q2:a<2
   ·rw [aY q2] at h;omega
   rw [aK q2] at h
   by_cases q3:a<3
   ·rw [aY q3] at h;omega
   rw [aK q3] at h
   by_cases q5:a<5
   ·omega
   rw [aK O_,aK q5] at h
   exfalso
   revert h
   repeat' split
   all_goals omega
  rcases AB with rfl | rfl
  ·rw [show(3:Int).toNat=3 from rfl,e3] at hx
   injection hx with hx;omega
  ·rw [show(4:Int).toNat=4 from rfl,e4] at hx
   injection hx with hx;omega
 ·show(((List.range c.S.toNat).map _).length:Int)=c.S
  rw [mC,Fk];omega
 ·show((List.replicate c.T.toNat ([]:List Int)).length:Int)=c.T
  exact zB
 ·intro l hl x hx
  rw [Fm hl] at hx
  cases hx
 ·show((List.replicate c.T.toNat (-1:Int)).length:Int)=c.T
  exact zB
 ·intro x hx
  rw [Fm hx];omega
 ·show((List.replicate c.R.toNat ([]:List Int)).length:Int)=c.R
  exact zB
 ·intro l hl x hx
  rw [Fm hl] at hx
  cases hx
 ·show((List.replicate c.T.toNat ((0,0):Int×Int)).length:Int)=c.T
  exact zB
 ·unfold RM.new rm MM.new
  simp only [List.map_map]
  congr 1
  refine wU fun j=>?_
  rw [gA,uf]
  by_cases hj:j<c.S.toNat
  ·rw [aY hj,List.getElem?_range hj];rfl
  ·rw [aK hj,DD (by simpa using hj)];rfl
 ·show((List.replicate c.T.toNat _).length:Int)=c.T
  exact zB
 ·show((List.replicate c.T.toNat _).length:Int)=c.T
  exact zB
 ·intro j s1 t1 g1 g2
  have g1:(List.replicate c.T.toNat (⟨none,false,-1⟩:iQ))[j]?=some s1:=g1;have g2:(List.replicate c.T.toNat RT.new)[j]?=some t1:=g2;rw [uf] at g1 g2
  by_cases hj:j<c.T.toNat
  ·rw [aY hj] at g1 g2
   cases g1;cases g2
   refine⟨?_,?_,rfl⟩
   ·show []=(List.replicate c.T.toNat ([]:List Int)).getD j []
    rw [kO,uf,aY hj];rfl
   ·show -1=(List.replicate c.T.toNat (-1:Int)).getD j (-1)
    rw [kO,uf,aY hj];rfl
  ·rw [aK hj] at g1
   cases g1
theorem T6(ok:bY c.T c.R c.H c.Re c.Ca c.S c.B){n b s:Nat}(hz:nO c.R c.H c.S c.B n b s):PI c (MM.new c (cO n b s 1)) (RM.new c (cO n b s 1)):=by
 refine⟨Uj ok hz,by show(0:Int)≤65536;omega,by show((([]:List Ac).length:Nat):Int)≤0;simp,?_,by show((([]:List Sh).length:Nat):Int)≤200000*0;simp,by show((([]:List Cl).length:Nat):Int)≤0;simp,?_,?_⟩
 ·show((((List.replicate c.R.toNat ([]:List Int)).map List.length).sum:Nat):Int)≤0
  rw [List.map_replicate];simp
 ·intro j l hl
  have hl:(List.replicate c.T.toNat ([]:List Int))[j]?=some l:=hl;rw [uf] at hl
  by_cases hj:j<c.T.toNat
  ·rw [aY hj] at hl
   cases hl
   simp
  ·rw [aK hj] at hl
   cases hl
 ·intro j s1 q g1 g2
  have g1:(List.replicate c.T.toNat (⟨none,false,-1⟩:iQ))[j]?=some s1:=g1;rw [uf] at g1
  by_cases hj:j<c.T.toNat
  ·rw [aY hj] at g1
   cases g1
   cases g2
  ·rw [aK hj] at g1
   cases g1
end
section
variable{w0 w:World}{F A:List En}
theorem Has.Cn(A:List En)(h:Has w0 w (A++F))(e:TypeId)(k:Nat):Has w0 w (A++.row (.slice none 0 0) e k 0 []::F):=(h.nil e k).back
theorem Has.Li(A:List En)(h:Has w0 w (A++F))(n:Nat):Has w0 w (A++(List.replicate n (.row (.slice none 0 0) 3 1 0 [])++F)):=by
 induction n with
 | zero=>exact h
 | succ n ih=>exact Has.Cn A ih _ _
theorem yF(n:Nat):kn (List.replicate n (.slice none 0 0)) (List.replicate n [])=List.replicate n (.row (.slice none 0 0) 3 1 0 []):=by
 unfold kn
 induction n with
 | zero=>rfl
 | succ n ih=>
  rw [yp,yp,yp,List.zip_cons_cons,rU,ih]
  rfl
def WK:Sv:=⟨.nilIface,false,-1⟩
theorem KJ(n:Nat):((List.replicate n WK).zip (List.replicate n ((0,0):Int×Int))).flatMap dO=Ab n:=by
 induction n with
 | zero=>rfl
 | succ n ih=>
  rw [Ab,←ih,Dy,Dy,List.zip_append S_,rT]
  rfl
theorem LR{c:Cf}{T R n nw bM bW gw cw gs cs bA gl ga bH gh ch gi:Nat}{mO:Value}{ws:List Int}(hT:c.T=T)(hR:c.R=R)(hS:c.S=n)(hl:ws.length=nw)
  (h:Has w0 w ([ob bM 106 (yQ bW mO (.slice (some ⟨gs,0,none⟩) T cs)),dA gs cs 114 5 T (Ab T),ob bW 248 [.slice (some ⟨gw,0,none⟩) nw cw,.slice none 0 0,.slice none 0 0,.int .i64 0],dA gw cw 38 1 nw (ws.map (Value.int .u64))]++
   ([ob bA 147 (AO c++ [.slice (some ⟨gl,0,none⟩) n n,.slice (some ⟨ga,0,none⟩) T T]),dA gl n 149 2 n (((List.range n).map yB).flatMap fm),dA ga T 40 1 T (List.replicate T (.slice none 0 0)),ob bH 152 [some bA,c.T,c.R,c.H,c.Re,c.Ca,c.S,c.B,.slice (some ⟨gh,0,none⟩) T ch,.slice (some ⟨gi,0,none⟩) R R,c.ad 8 0,c.ad 9 0,c.ad 2 0,c.ad 11 0],dA gh ch 3 1 T (List.replicate T (.int .i64 (-1))),dA gi R 40 1 R (List.replicate R (.slice none 0 0))]++F))):
  Idle ⟨⟨bW,bM,gw,cw,mO,0,0,0,gs,cs⟩,bA,gl,n,ga,T,bH,gh,ch,gi,R⟩ (0,0,false) c (MM.new c ws).pm (List.replicate T WK) w0 w F:=by
 have h1:Has w0 w ([ob bW 248 [.slice (some ⟨gw,0,none⟩) nw cw,.slice none 0 0,.slice none 0 0,.int .i64 0],dA gw cw 38 1 nw (ws.map (Value.int .u64))]++(ob bM 106 (yQ bW mO (.slice (some ⟨gs,0,none⟩) T cs))::dA gs cs 114 5 T (Ab T)::_)):=h.perm (pW [_,_] [_,_] _);have h2:=Has.Cn [_,_] (Has.Cn [_,_] h1 38 1) 122 7;have h3:=Has.Cn [_,_,_,_,_] (Has.Cn [_,_,_,_,_] h2 119 9) 125 5;have h4:=Has.Li [_,_,_,_,_,_,_,_,_,_,_,_,_,_] (Has.Li [_,_,_,_,_,_,_,_,_,_,_,_,_,_] h3 R) T;refine⟨List.replicate T (.slice none 0 0),List.replicate R (.slice none 0 0),?_,?_,.slice none 0 0,.slice none 0 0,.slice none 0 0,[],rfl,?_⟩
 ·show _=(List.replicate c.T.toNat ([]:List Int)).length
  exact Ny
 ·show _=(List.replicate c.R.toNat ([]:List Int)).length
  rw [uj,uj,hR];omega
 ·have hTn:c.T.toNat=T:=O_
  have hRn:c.R.toNat=R:=O_
  have hSn:c.S.toNat=n:=O_
  have e1:(MM.new c ws).pm.slots=(List.range n).map yB:=by show(List.range c.S.toNat).map _=_;rw [hSn];rfl
  have e2:(MM.new c ws).pm.aO=List.replicate T []:=by show List.replicate c.T.toNat _=_;rw [hTn]
  have e3:(MM.new c ws).pm.held=List.replicate T (-1):=by show List.replicate c.T.toNat _=_;rw [hTn]
  have e4:(MM.new c ws).pm.lists=List.replicate R []:=by show List.replicate c.R.toNat _=_;rw [hRn]
  have e5:(MM.new c ws).pm.told=List.replicate T (0,0):=by show List.replicate c.T.toNat _=_;rw [hTn]
  unfold tB lX dS E7 JS RO DF JZ Ru;rw [e1,e2,e3,e4,e5,KJ,yF,yF];simp only [uj,mC,Fk,List.map_replicate];rw [show(MM.new c ws).pm.words=ws from rfl,hl];rw [show(MM.new c ws).pm.calls= [] from rfl,show(MM.new c ws).pm.log= [] from rfl,show(MM.new c ws).pm.aG= [] from rfl];simp only [dH];exact h4
end
theorem rG.only{w w':World}{b r:Nat}{f:Int→Option Value}{left:Int→Prop}{S:Nat→Prop}(h:rG w b r f left)(o:dM S w w')(hb:¬S b)(hr:¬S r):rG w' b r f left:=by
 have hl:=h.lt;obtain⟨es,cl,si,sn,c0,h1,h2,h3,h4,h5⟩:=h;exact⟨es,cl,si,sn,c0,(o.block b hl.2 hb).trans h1,h2,h3,(o.block r hl.1 hr).trans h4,h5⟩
theorem uK{w w':World}{b r:Nat}{S:Nat→Prop}(o:dM S w w')(hbl:b<w.heap.size)(hrl:r<w.heap.size)(hb:¬S b)(hr:¬S r):gE w' b r=gE w b r:=by
 unfold gE;rw [o.block r hrl hr,o.block b hbl hb]
def nH:List (Nat×(Int→Option Value))→(Int→Option Value)→Int→Option Value
 | [],a=>a
 | x::l,a=>nH l (fun j=>match x.2 j with | some v=>some v | none=>a j)
theorem Er(l:List (Nat×(Int→Option Value)))(x:Nat×(Int→Option Value))(a:Int→Option Value):nH (l++ [x]) a=fun j=>match x.2 j with | some v=>some v | none=>nH l a j:=by
 induction l generalizing a with
 | nil=>rfl
 | cons y l ih=>exact ih _
theorem LN{g n c:Nat}{ks:List (Nat×(Int→Option Value))}(hn:ks.length=n)(hcell:∀ z:aL w,∀ (i b:Nat) (f:Int→Option Value),ks[i]?=some (b,f)→z.world.cell? ⟨g,i,none⟩=some (.map (some b)))(hmap:∀ (i b:Nat) (f:Int→Option Value),ks[i]?=some (b,f)→eY w b f)(hb:n<1000):
  cm 31 #[.slice (some ⟨g,0,none⟩) n c] w (.map (some w.heap.size)) fun w'=>eY w' w.heap.size (nH ks fun _=>none)∧Ext w w':=by
 have JX:=@run_makeMap prog;have xU:=eY.new w;have hE0:Ext w (w.alloc (.map #[] 0)):=(bu w).aE _;have HC:=aJ hcell;have HM:=aJ hmap;have HN:=aJ hn;clear hcell hmap hn;go_enter func31,ntmps31;go_wp2_with fail;obtain⟨c0,hc0⟩:=kB hE0;rw [hc0] at xU ⊢
 go_loopw [11] (fun XR wr=>∃ (z:aL w) (i:Nat),wr=z.world∧XR=.int .i64 i∧i≤n∧Hid (eY z.world w.heap.size (nH (ks.take i) fun _=>none))) (fun XR _=>n - (intOf XR).toNat)
 case atStart=>exact⟨c0,0,rfl,rfl,nU _,xU⟩
 case round=>
  obtain⟨z,i,rfl,rfl,hi,hV⟩:=hrel
  by_cases hlt:i<n
  case neg=>
   have dl:decide ((i:Int)<(n:Int))=false:=dy O_;obtain rfl:i=n:=O_
   rw [Bj (by have:=HN.out;omega)] at hV;go_wp2;go_ret;exact⟨rfl,hV.out,z.ok⟩
  case pos=>
   have dl:decide ((i:Int)<(n:Int))=true:=cM O_;obtain⟨⟨b,f⟩,Oh⟩:∃ x,ks[i]?=some x:=⟨_,fy (by have:=HN.out;omega)⟩;have fQ:=HC.out z i b f Oh;have Hbf:=aJ Oh;have hMz:=(HM.out i b f Oh).ext z.ok;have HbK:Hid (b<w.heap.size):=(HM.out i b f Oh).lt;clear Oh;go_wp2_with (at_range;refine qD rfl _ 90 rfl underlying90 b f rfl hMz ?_;intro w9 P4 he9)
   go_frame;obtain⟨z9,hz9⟩:=kB (Ext.next z.ok he9)
   have HS9:Hid (w.heap.size<z.world.heap.size):=by
    have:=hV.out.lt;exact this
   rw [hz9] at P4 ⊢;have hV9:=hV.out.ext he9;rw [hz9] at hV9;clear hMz fQ he9 hz9;generalize z.world.heap.size=r at P4 HS9 ⊢
   go_loopw [] (fun wr=>∃ (y:aL w) (left:Int→Prop) (h:Int→Option Value),wr=y.world∧Hid (rG y.world b r f left)∧Hid (eY y.world w.heap.size h)∧Hid (∀ j,(f j=none→h j=nH (ks.take i) (fun _=>none) j)∧(f j≠none→¬left j→h j=f j))) (fun wr=>gE wr b r)
   case atStart=>exact⟨z9,_,_,rfl,P4,hV9,fun j=>⟨fun _=>rfl,fun h1 h2=>absurd h1 h2⟩⟩
   case round=>
    clear P4 hV9;obtain⟨y,left,h,rfl,hit,hVh,hrel⟩:=hrel;go_wp2_with (at_next;refine r8 rfl _ rfl b r f left rfl hit.out ?_ ?_)
    ·intro hno
     have HD:Hid (eY y.world w.heap.size (nH (ks.take (i+1)) fun _=>none)):=by
      refine hVh.out.same fun j=>?_
      rw [Fl,Hbf.out]
      show h j=nH (ks.take i++ [(b,f)]) _ j
      rw [Er]
      show h j=match f j with | some v=>some v | none=>_
      obtain⟨h1,h2⟩:=hrel.out j
      cases hf:f j with
      | none=>exact h1 hf
      | some v=>
       rw [h2 (by rw [hf];simp) (hno j),hf]
     clear hno hit hVh hrel;go_wp2
     go_roundw
     case rel=>exact⟨y,i+1,rfl,by go_num,O_,HD⟩
     case measure=>simp [intOf];omega
    ·intro k v w' hf Z0 hlt' P0 Ma
     have Hf:=aJ hf;have Hlt:=aJ hlt';have Hon:=aJ P0;have hVw:=hVh.out.only P0 (fun e=>by have:=HS9.out;omega);have Tw:=aJ Z0;have hEw:Ext w w':=y.ok.only P0 fun q hq=>by rw [hq];exact Nat.le_of_lt HS9.out
     clear hf Z0 hlt' P0 hit hVh;go_wp2_with (at_mapUpdate;refine oU rfl _ _ _ 90 rfl _ _ underlying90 underlying34 w.heap.size h rfl hVw k v rfl rfl ?_;intro Ow Z2 Qa)
     go_frame;have aai:Ext w Ow:=hEw.only Qa fun q hq=>Nat.le_of_eq hq.symm
     have hl:=Tw.out.lt;have Tu:=aJ (Tw.out.only Qa (fun e=>by have:=HbK.out;omega) (fun e=>by have:=HS9.out;omega))
     have Tt:Hid (gE Ow b r<gE y.world b r):=by
      rw [Hid,uK Qa hl.2 hl.1 (fun e=>by have:=HbK.out;omega) (fun e=>by have:=HS9.out;omega)];exact Hlt.out
     have acf:=aJ Z2
     have agq:Hid (∀ j,(f j=none→(if j=k then some v else h j)=nH (ks.take i) (fun _=>none) j)∧(f j≠none→¬(left j∧j≠k)→(if j=k then some v else h j)=f j)):=fun j=>by
      obtain⟨h1,h2⟩:=hrel.out j
      by_cases hj:j=k
      ·rw [aY hj,hj,Hf.out]
       exact⟨(fun e=>by cases e),fun _ _=>rfl⟩
      ·rw [aK hj]
       exact⟨h1,fun e1 e2=>h2 e1 fun e3=>e2 ⟨e3,hj⟩⟩
     obtain⟨y10,hy10⟩:=kB aai;rw [hy10] at Tu Tt acf ⊢;clear Z2 Qa aai hl hEw hVw Tw Hlt hrel Hon hy10;go_wp2
     go_roundw
     case rel=>exact⟨y10,_,_,rfl,Tu,acf,agq⟩
     case measure=>exact Tt.out
theorem LL{b0 b1 b2 b3 b4 b5 ka kh w1 w2 w3 w4 w5 ks F0 Cs kq Ct kl xg kt:Nat}:nH [(b0,(fun j=>if j=12 then some (.func (.func 73) #[] #[some ka]) else if j=11 then some (.func (.func 70) #[] #[some ka]) else if j=10 then some (.func (.func 68) #[] #[some ka]) else none)),(b1,(fun j=>if j=25 then some (.func (.func 76) #[] #[some kh,some w5]) else if j=24 then some (.func (.func 76) #[] #[some kh,some w4]) else if j=23 then some (.func (.func 76) #[] #[some kh,some w3]) else if j=22 then some (.func (.func 76) #[] #[some kh,some w2]) else if j=21 then some (.func (.func 76) #[] #[some kh,some w1]) else if j=20 then some (.func (.func 78) #[] #[some kh]) else none)),(b2,(fun j=>if j=31 then some (.func (.func 89) #[] #[some ks,some Cs]) else if j=30 then some (.func (.func 88) #[] #[some ks,some Cs,some F0]) else none)),(b3,(fun j=>if j=41 then some (.func (.func 91) #[] #[some kq,some Ct]) else if j=40 then some (.func (.func 90) #[] #[some kq,some Ct]) else none)),(b4,(fun j=>if j=52 then some (.func (.func 96) #[] #[some kl,some xg]) else if j=51 then some (.func (.func 94) #[] #[some kl,some xg]) else if j=50 then some (.func (.func 92) #[] #[some kl,some xg]) else none)),(b5,(fun j=>if j=61 then some (.func (.func 101) #[] #[some kt]) else if j=62 then some (.func (.func 99) #[] #[some kt]) else if j=60 then some (.func (.func 97) #[] #[some kt]) else none))] (fun _=>none)=IE ⟨ka,kh,w1,w2,w3,w4,w5,ks,F0,Cs,kq,Ct,kl,xg,kt⟩:=by
 funext j
 by_cases gI:j=10
 ·subst gI;rfl
 by_cases lQ:j=11
 ·subst lQ;rfl
 by_cases h12:j=12
 ·subst h12;rfl
 by_cases qj:j=20
 ·subst qj;rfl
 by_cases k8:j=21
 ·subst k8;rfl
 by_cases pI:j=22
 ·subst pI;rfl
 by_cases h23:j=23
 ·subst h23;rfl
 by_cases uE:j=24
 ·subst uE;rfl
 by_cases tT:j=25
 ·subst tT;rfl
 by_cases jS:j=30
 ·subst jS;rfl
 by_cases qi:j=31
 ·subst qi;rfl
 by_cases Gj:j=40
 ·subst Gj;rfl
 by_cases Gh:j=41
 ·subst Gh;rfl
 by_cases Gg:j=50
 ·subst Gg;rfl
 by_cases Gf:j=51
 ·subst Gf;rfl
 by_cases Ge:j=52
 ·subst Ge;rfl
 by_cases Gb:j=60
 ·subst Gb;rfl
 by_cases F9:j=61
 ·subst F9;rfl
 by_cases F8:j=62
 ·subst F8;rfl
 simp only [nH,IE,aK gI,aK lQ,aK h12,aK qj,aK k8,aK pI,aK h23,aK uE,aK tT,aK jS,aK qi,aK Gj,aK Gh,aK Gg,aK Gf,aK Ge,aK Gb,aK F9,aK F8]
theorem Has.sD{w0 w:World}{H:List En}{b:Nat}{o:Obj}(h:Has w0 w H)(hm:En.obj b o∈H):w.heap[b]?=some o:=(h.own _ hm).2
theorem Mg{w w':World}{f:Int→Option Value}(h:eY w' w.heap.size f)(e:Ext w w'):∃ o,oF o f∧Has w w' [.obj w.heap.size o]:=by
 obtain⟨o,ho,hv⟩:=h.obj;refine⟨o,hv,e,fun x hx=>?_,by simp [En.b]⟩;rw [Bi] at hx;subst hx;exact⟨bZ _,ho⟩
variable{c:Cf}
theorem OW{K:Ky}{T:Nat}{ws:List Int}{w0 w:World}{F:List En}(hT:c.T=T)(hid:Idle K (0,0,false) c (MM.new c ws).pm (List.replicate T WK) w0 w F)(hm:K.au=0:=by rfl):Xo K (0,0,false) c (MM.new c ws) w0 w F:=by
 refine⟨List.replicate T WK,List.replicate T [],⟨hm,?_,?_,?_,?_,?_⟩⟩
 ·show(List.replicate T WK).length=(List.replicate c.T.toNat _).length
  exact Ny
 ·show(List.replicate T _).length=(List.replicate c.T.toNat _).length
  exact Ny
 ·rw [show(List.replicate T ([]:List En)).flatten= [] from S_,mX]
  exact hid
 ·intro t s1 hs1
  have hs1:(List.replicate c.T.toNat (⟨none,false,-1⟩:iQ))[t]?=some s1:=hs1;rw [uf] at hs1
  split at hs1
  ·rename_i ht
   cases hs1
   have ht:t<T:=O_
   exact⟨WK,[],by rw [uf,aY ht],by rw [uf,aY ht],rfl,rfl,rfl⟩
  ·cases hs1
 ·intro t s1 q hs1 hq _
  have hs1:(List.replicate c.T.toNat (⟨none,false,-1⟩:iQ))[t]?=some s1:=hs1;rw [uf] at hs1
  split at hs1
  ·cases hs1;cases hq
  ·cases hs1
theorem O2{n b s:Nat}(ok:bY c.T c.R c.H c.Re c.Ca c.S c.B)(hz:nO c.R c.H c.S c.B n b s):
  Calls prog 7 #[fI c] w fun e w'=>∃ K B bK o F,e=.returned (.tuple #[some K.bM,.int .i64 0])∧K.mO=.map (some bK)∧oF o (IE B)∧En.obj bK o∈F∧(∀ x∈jK K c B,x∈F)∧Xo K (0,0,false) c (MM.new c (cO n b s 1)) w w' F:=by
 obtain⟨T,hT⟩:∃ T:Nat,c.T=T:=⟨c.T.toNat,by unfold bY at ok;omega⟩;obtain⟨R,hR⟩:∃ R:Nat,c.R=R:=⟨c.R.toNat,by unfold bY at ok;omega⟩;obtain⟨N,hS⟩:∃ N:Nat,c.S=N:=⟨c.S.toNat,by unfold bY at ok;omega⟩;have hTb:1≤T∧T≤16:=by unfold bY at ok;omega
 have hNb:1≤N:=by unfold bY at ok;omega
 have hnb:n≤8192∧0<n:=by have:=hz.room;have:=hz.base;have:=hz.slots;have:=hz.low;unfold bY at ok;simp [b7,cV] at*;have:c.R*c.H≤16*8:=ua O_ O_ O_ O_;omega
 have Vk:=fun W=>I0 c.T c.R c.H c.Re c.Ca c.S c.B ok n b s hz 1 (by have:=hz.slots;unfold bY at ok;omega) W
 have P8:=fun W=>Nb (w:=W) ok hT hS
 replace Vk:=aJ Vk;replace P8:=aJ P8;replace hT:=aJ hT;replace hR:=aJ hR;replace hS:=aJ hS;have h1:=(Has.start w).alloc #[c.T,c.R,c.H,c.Re,c.Ca,c.S,c.B] 23;have p1:=h1.all aj;unfold fI;go_in;go_wp2_with fail;refine(P8.out _).mono ?_;rintro e w2 ⟨bA,gl,ga,rfl,hA⟩;have h2:=h1.join hA;clear p1;have p2:=h2.all lA;have pH:∀ z:aL w2,∀ i,i<7→z.world.cell? ⟨bA,i,none⟩=(AO c)[i]?:=fun z i hi=>((h2.iD z).all aj i).trans (Bk (by show i<7;exact hi))
 go_wp2_with fail;refine(Vo ok hT.out hR.out pH).mono ?_;rintro e w3 ⟨bH,vh,gi,bC,rfl,hH⟩;have h3:=(h2.join hH).perm (pW [_,_,_,_] [_,_,_] _);clear p2;have p3:=h3.all tn;go_wp2_with fail;refine(Vk.out _).mono ?_;rintro e w4 ⟨g4,rfl,Bv,e4⟩;have h4:=(h3.join ((Has.start w3).add (H':= []) ((Has.start w3).next e4) rfl Bv (bZ _))).perm (pW [_] [_,_,_,_,_,_] _);clear p3 Bv;go_wp2_with fail;have C0:=Nc (w:=w4) (bA:=bA) (gl:=gl) (n:=N) (cl:=N) (fun z=>((h4.iD z).at_ (i:=7) aj rfl)) O_;refine C0.mono ?_;clear C0;rintro e w5 ⟨ka,b0,rfl,o0,v0,H0⟩;have h5:=(h4.join H0).perm (pW [_,_] [_,_,_,_,_,_] _);go_wp2_with fail;have C1:=Vp (w:=w5) (bA:=bA) (bH:=bH) (fun z=>((h5.iD z).at_ (i:=0) lA rfl));refine C1.mono ?_;clear C1;rintro e w6 ⟨kh,q1,q2,q3,q4,q5,b1,rfl,o1,v1,H1⟩;have h6:=(h5.join H1).perm (pW [_,_,_,_,_,_,_] [_,_,_,_,_,_] _);go_wp2_with fail;have C2:=Kz (w:=w6) (bA:=bA) (bH:=bH) (fun z=>((h6.iD z).at_ (i:=0) lA rfl));refine C2.mono ?_;clear C2;rintro e w7 ⟨ks,F0,Cs,b2,rfl,o2,v2,H2⟩;have h7:=(h6.join H2).perm (pW [_,_,_,_] [_,_,_,_,_,_] _);go_wp2_with fail;have C3:=KO (w:=w7) (bA:=bA) (bH:=bH) (c:=c) (fun z=>((h7.iD z).at_ (i:=0) lA rfl)) (fun z i hi=>((h7.iD z).all aj i).trans (Bk (by show i<7;exact hi))) ok;refine C3.mono ?_;clear C3;rintro e w8 ⟨kq,Ct,kqc,b3,rfl,o3,v3,H3⟩;have h8:=(h7.join H3).perm (pW [_,_,_,_] [_,_,_,_,_,_] _)
 go_wp2_with fail;have C4:=PL (w:=w8) (bA:=bA) (bH:=bH) (c:=c) (fun z=>((h8.iD z).at_ (i:=0) lA rfl)) (fun z i hi=>((h8.iD z).all aj i).trans (Bk (by show i<7;exact hi))) ok;refine C4.mono ?_;clear C4;rintro e w9 ⟨kl,xg,b4,rfl,o4,v4,H4⟩;have h9:=(h8.join H4).perm (pW [_,_,_] [_,_,_,_,_,_] _);go_wp2_with fail;have C5:=Kv (w:=w9) (bA:=bA) (bH:=bH) (fun z=>((h9.iD z).at_ (i:=0) lA rfl));refine C5.mono ?_;clear C5;rintro e Ow ⟨kt,b5,rfl,o5,v5,H5⟩;have gI:=(h9.join H5).perm (pW [_,_] [_,_,_,_,_,_] _);go_wp2_with fail;have lQ:=(gI.alloc #[.map (some b0),.map (some b1),.map (some b2),.map (some b3),.map (some b4),.map (some b5)] 90).perm (pW [_] [_,_,_,_,_,_] _);generalize aae:Ow.alloc (.cells #[.map (some b0),.map (some b1),.map (some b2),.map (some b3),.map (some b4),.map (some b5)] 90)=WH at lQ ⊢;replace aae:=aJ aae;have Ex:=fun z:aL WH=>(lQ.iD z).all xJ
 have C:=LN (w:=WH) (g:=Ow.heap.size) (n:=6) (c:=6) (ks:= [(b0,_),(b1,_),(b2,_),(b3,_),(b4,_),(b5,_)]) rfl (fun z i b f hi=>by
  have hcz:=Ex z i
  rcases i with _ | _ | _ | _ | _ | _ | i<;>simp at hi
  all_goals (obtain⟨rfl,_⟩:=hi;simpa using hcz)) (fun i b f hi=>by
  rcases i with _ | _ | _ | _ | _ | _ | i<;>simp at hi
  ·obtain⟨rfl,rfl⟩:=hi;exact eY.of v0 (lQ.sD S_)
  ·obtain⟨rfl,rfl⟩:=hi;exact eY.of v1 (lQ.sD S_)
  ·obtain⟨rfl,rfl⟩:=hi;exact eY.of v2 (lQ.sD S_)
  ·obtain⟨rfl,rfl⟩:=hi;exact eY.of v3 (lQ.sD S_)
  ·obtain⟨rfl,rfl⟩:=hi;exact eY.of v4 (lQ.sD S_)
  ·obtain⟨rfl,rfl⟩:=hi;exact eY.of v5 (lQ.sD S_)) O_
 rw [LL] at C;refine C.mono ?_;clear C;rintro e w12 ⟨rfl,hV,e12⟩;obtain⟨oK,hoK,hJ⟩:=Mg hV e12;have h12:=(lQ.join hJ).perm (pW [_] [_,_,_,_,_,_] _);have p12:w12.cell? ⟨w.heap.size,0,none⟩=some (.int .i64 c.T):=h12.at_ (i:=0) (t:=23) (cs:= [c.T,c.R,c.H,c.Re,c.Ca,c.S,c.B]) S_ rfl;have C:=Pz (T:=T) (bK:=WH.heap.size) (h12.own (.row (.slice (some ⟨g4,0,none⟩) n n) 38 1 n ((cO n b s 1).map (Value.int .u64))) S_) hnb.1 hTb.1 hTb.2;rw [←hT.out] at C;go_wp2_with fail;refine C.mono ?_;clear C;rintro e w13 ⟨bM,bW,vw,vs,rfl,hM⟩;have Gk:=h12.join hM;go_wp2
 go_ret2;obtain⟨gs,cs5,rfl,_⟩:=bf (Gk.own _ bp) O_;obtain⟨gw,cw5,rfl,_⟩:=bf (Gk.own _ lA) O_;obtain⟨gh,ch5,rfl,_⟩:=bf (Gk.own _ lO) O_;have hid:=LR hT.out hR.out hS.out (iy n b s) Gk;have hps:=OW hT.out hid;refine⟨_,⟨ka,kh,q1,q2,q3,q4,q5,ks,F0,Cs,kq,Ct,kl,xg,kt⟩,WH.heap.size,oK,_,rfl,rfl,hoK,?_,?_,hps⟩
 ·simp
 ·intro x hx
  simp only [jK,Bf,List.not_mem_nil,or_false] at hx
  rcases hx with rfl | rfl | rfl | rfl | rfl | rfl | rfl | rfl | rfl | rfl | rfl | rfl | rfl | rfl | rfl<;>simp
theorem rZ{α:Type}{P:Program}{g:Operand}{ps:Array Tmp}{assign body:Code}{Q:Exit→Act→World→Prop}{a:Act}{w:World}
  {gf:Nat} {lb:Array Value} (hg:a.eval g=.func (.func gf) #[] lb) (eg:∀ args w,(callFunc gf args).run P w=.ok (.enter gf args) w)
  {encs:α→Array Value} (hps:∀ x,(encs x).size=ps.size) {Tr:World→World→Prop} {It:List α→α→World→Prop} {S:List α→World→Prop}
  (hseq:∀ W,Ext w W→Dp P gf lb encs Tr It S W)
  (hTr:∀ A B,Tr A B→∀ k o,w.heap.size≤k→A.heap[k]?=some o→o.isCells=false→B.heap[k]?=some o)
  (hIt:∀ pre x A B,It pre x A→Rec w.heap.size A B→It pre x B) (hS:∀ xs A B,S xs A→Rec w.heap.size A B→S xs B)
  (I:List α→World→Prop) (Ix:Code→List α→World→Prop) (hIe:∀ pre A B,I pre A→Ext A B→I pre B)
  (hIT:∀ pre A B,I pre A→Tr A B→I pre B) (hIR:∀ pre A B,I pre A→Rec w.heap.size A B→I pre B)
  (hXR:∀ c pre A B,Ix c pre A→Rec w.heap.size A B→Ix c pre B) (h0:I [] w) (As:List α→α→Act→World→Prop) (hAR:∀ pre x b A B,As pre x b A→Rec w.heap.size A B→As pre x b B)
  (hassign:∀ (l:Nat) (pre:List α) (x:α) (W:World) (K:Act→World→Prop),I pre W→It pre x W→(∀ b W',KeepsFrom w.heap.size W W'→I pre W'→It pre x W'→As pre x b W'→K b W')→
   assign.wpIn (Fence.wide.inRound l) 0 P (Exit.then K (fun _ _ _=>False)) {tmps:=(ps.zip (encs x)).foldl (fun t (p,v)=>t.setIfInBounds p v) a.tmps,defers:= []} W)
  (hbody:∀ (l:Nat) (pre:List α) (x:α) (b:Act) (W:World),I pre W→It pre x W→As pre x b W→w.heap.size+1<W.heap.size→body.wpIn (Fence.wide.inRound l) 0 P (OO w.heap.size I Ix It pre x W) b W)
  (hdone:∀ (D:Nat) (xs:List α) (W:World),w.heap.size≤D→S xs W→I xs W→W.heap[D]?=some (.deferred (some []))→Q .normal {a with defers:={target:=.collected D,args:=#[]}::a.defers} W)
  (hstop:∀ (D:Nat) (c:Code) (pre:List α) (W:World),w.heap.size≤D→Ix c pre W→W.heap[D]?=some (.deferred (some []))→c.wp P Q {a with defers:={target:=.collected D,args:=#[]}::a.defers} W):
  (Code.rangeFunc g ps assign body).wp P Q a w:=by
 refine wpIn_wide.1 (wpIn_rangeFunc (n:=0) ?_);intro fn _
 show ∃ _ _ _ _ _ _ _ _,(Instr.enterLoop fn a.tmps ps assign body none).run P w=_∧_
 obtain⟨rec,dZ⟩:∃ rec:LoopState→Option Code→Loop,rec=fun st pe=>{state:=st,pending:=pe,fn,tmps:=a.tmps,params:=ps,assign,body,defers:=w.heap.size}:=⟨_,rfl⟩
 obtain⟨W1,hW1⟩:∃ W1,(w.alloc (.deferred (some []))).alloc (.loop (rec .ready none))=W1:=⟨_,rfl⟩
 have hL1:W1.heap[w.heap.size+1]?=some (.loop (rec .ready none)):=by
  rw [←hW1];have:=World.alloc_heap_new (w.alloc (.deferred (some []))) (.loop (rec .ready none));rwa [World.size_alloc] at this
 have hK1:W1.heap[w.heap.size]?=some (.deferred (some [])):=by
  rw [←hW1];exact(Below.heap_alloc _ _ _ S_).trans (World.alloc_heap_new w _)
 have F7:Ext w W1:=by
  rw [←hW1];exact((Below.refl _ w).alloc (bZ _) _).alloc S_ _
 have xP:I [] W1:=hIe _ _ _ h0 F7;refine⟨w.heap.size+1,[{target:=.collected w.heap.size,args:=#[]}],W1,{target:=.fn (.func gf) lb,args:=#[.func (.yield (w.heap.size+1)) #[] #[]]},W1,gf,#[.func (.yield (w.heap.size+1)) #[] #[]]++lb,W1,?_,?_,?_,?_,fun h=>(by cases h),?_⟩
 ·rw [←hW1,dZ];exact run_enterLoop_outer _ _ _ _ _
 ·simp only [resolve,hg]
  simp [go_sem]
 ·intro f' _;trivial
 ·simp [invoke,go_sem,eg]
 ·refine(hseq W1 F7 (w.heap.size+1)
   (fun pre W=>I pre W∧W.heap[w.heap.size+1]?=some (.loop (rec .ready none))∧W.heap[w.heap.size]?=some (.deferred (some [])))
   (fun pre W=>∃ c,Ix c pre W∧W.heap[w.heap.size+1]?=some (.loop (rec .done (some c)))∧W.heap[w.heap.size]?=some (.deferred (some [])))
   (fun s A B hs ht=>⟨hIT s A B hs.1 ht,hTr A B ht _ _ O_ hs.2.1 rfl,hTr A B ht _ _ (bZ _) hs.2.2 rfl⟩)
   ?_ ⟨xP,hL1,hK1⟩).mono ?_
  ·rintro pre x W0 ⟨hi0,hl0,gC⟩ hit0
   have hy:=run_yield (P:=P) (args:=encs x) hl0 (by rw [dZ];exact hps x);rw [dZ] at hy;refine⟨fn,_,assign,body,hy,roundIn_of_wpIn trivial (hassign _ pre x W0 _ hi0 hit0 fun b W hk9 hi hit has=>?_)⟩;have hl:=hk9.same _ _ O_ hl0 rfl;have hk:=hk9.same _ _ (bZ _) gC rfl;have hlt:w.heap.size+1<W.heap.size:=(uh.1 hl).1;refine⟨_,run_beginRound hl (by rw [dZ]),?_⟩;have DH:(W.putObj (w.heap.size+1) (.loop {rec .ready none with state:=.busy})).heap[w.heap.size+1]?=some (.loop {rec .ready none with state:=.busy}):=World.putObj_heap_same hlt;have hk2:(W.putObj (w.heap.size+1) (.loop {rec .ready none with state:=.busy})).heap[w.heap.size]?=some (.deferred (some [])):=(JF O_).trans hk;have iF:Rec w.heap.size W (W.putObj (w.heap.size+1) (.loop {rec .ready none with state:=.busy})):=Rec.mk O_ hl rfl _;refine wpIn_mono (hbody _ pre x b _ (hIR _ _ _ hi iF) (hIt _ _ _ _ hit iF) (hAR _ _ _ _ _ has iF) (by simpa using hlt)) ?_
   have fin:∀ (jump:Option Code) (W3:World),KeepsFrom w.heap.size (W.putObj (w.heap.size+1) (.loop {rec .ready none with state:=.busy})) W3→
     (Instr.endRound (w.heap.size+1) jump).run P W3=.ok jump.isNone (W3.putObj (w.heap.size+1) (.loop (rec (if jump.isNone then .ready else .done) jump)))∧
     Rec w.heap.size W3 (W3.putObj (w.heap.size+1) (.loop (rec (if jump.isNone then .ready else .done) jump)))∧
     (W3.putObj (w.heap.size+1) (.loop (rec (if jump.isNone then .ready else .done) jump))).heap[w.heap.size+1]?=some (.loop (rec (if jump.isNone then .ready else .done) jump))∧
     (W3.putObj (w.heap.size+1) (.loop (rec (if jump.isNone then .ready else .done) jump))).heap[w.heap.size]?=some (.deferred (some [])):=fun jump W3 kD=>by
    have JY:=kD.same _ _ O_ DH rfl;have:=run_endRound (P:=P) jump JY;rw [dZ] at this ⊢;exact⟨this,Rec.mk O_ JY rfl _,World.putObj_heap_same (uh.1 JY).1,(JF O_).trans (kD.same _ _ (bZ _) hk2 rfl)⟩
   rintro e a3 W3 hp
   cases e with
   | normal=>
    obtain⟨kD,hi3,hit3⟩:=hp;obtain⟨hr,JY,IM,Bz⟩:=fin none W3 kD;exact⟨_,_,hr,.inl ⟨rfl,⟨hIR _ _ _ hi3 JY,IM,Bz⟩,hIt _ _ _ _ hit3 JY⟩⟩
   | ret=>
    obtain⟨kD,hi3⟩:=hp;obtain⟨hr,JY,IM,Bz⟩:=fin (some .ret) W3 kD;exact⟨_,_,hr,.inr ⟨rfl,.ret,hXR _ _ _ _ hi3 JY,IM,Bz⟩⟩
   | exit id=>
    obtain⟨kD,hi3⟩:=hp;obtain⟨hr,JY,IM,Bz⟩:=fin (some (.exit id)) W3 kD;exact⟨_,_,hr,.inr ⟨rfl,.exit id,hXR _ _ _ _ hi3 JY,IM,Bz⟩⟩
   | goto t=>
    obtain⟨kD,hi3⟩:=hp;obtain⟨hr,JY,IM,Bz⟩:=fin (some (.goto t)) W3 kD;exact⟨_,_,hr,.inr ⟨rfl,.goto t,hXR _ _ _ _ hi3 JY,IM,Bz⟩⟩
   | panic ch=>exact hp.elim
   | outgrown=>exact hp.elim
  ·rintro e W2 ⟨⟨v,rfl⟩,(⟨xs,hs,hi,hl,hk⟩ | ⟨pre,c,hi,hl,hk⟩)⟩
   ·refine⟨none,_,by have:=run_endLoop (P:=P) hl (by rw [dZ];simp);rw [dZ] at this;exact this,?_⟩
    have hr:=Rec.mk (B:=w.heap.size) (l:=w.heap.size+1) O_ hl rfl (.loop {rec .ready none with state:=.exhausted});rw [dZ] at hr;exact hdone _ xs _ (bZ _) (hS _ _ _ hs hr) (hIR _ _ _ hi hr) ((JF O_).trans hk)
   ·refine⟨some c,_,by have:=run_endLoop (P:=P) hl (by rw [dZ];simp);rw [dZ] at this;exact this,?_⟩
    have hr:=Rec.mk (B:=w.heap.size) (l:=w.heap.size+1) O_ hl rfl (.loop {rec .done (some c) with state:=.exhausted});rw [dZ] at hr;exact wpIn_wide.2 (hstop _ c pre _ (bZ _) (hXR _ _ _ _ hi hr) ((JF O_).trans hk))
def Op.F1:Op→Bool
 | .defer _=>true
 | _=>false
def qN(l:List Oper):Bool:=l.all fun o=>!Op.F1 o.op
section
variable{P:Program}{r:Nat}{n:Nat}
variable{args:Array Value}{w:World}
theorem Aa{row:String}{R:Value→World→Prop}(h:Rows P row args w R):RowsIn (Fence.wide.inRound r) n P row args w R:=fun c cs _=>by
 obtain⟨v,w',hr,hs⟩:=h c cs;exact⟨v,w',hr,stepsIn_wide.2 hs⟩
theorem ye{f:FuncId}{R:Ending→World→Prop}(h:Calls P f args w R):CallsIn (Fence.wide.inRound r) n P f args w R:=CallsIn.inRound r (callsIn_wide.2 h)
theorem xp{o:Oper}{a:Act}{K K':Act→World→Prop}{Q:Exit→Act→World→Prop}(hq:∀ a w,¬Q .outgrown a w)(hd:Op.F1 o.op=false)(hK:∀ a w,K a w→K' a w)
  (h:o.wp P a w K Q∨(o.asks P a w∧LetsOut Q)):o.wpIn (Fence.wide.inRound r) n P a w K' Q:=by
 rcases h with h | ⟨_,a',w',h⟩
 ·refine⟨fun _ _=>trivial,?_⟩
  rw [Oper.semAt_eq _ _ _ (fun c hc=>by rw [hc] at hd;cases hd)];unfold Oper.wp at h;generalize (execOp a.eval o).run P w=res at h
  cases res with
  | ok x w'=>
   cases x<;>simp only [Oper.upon] at h<;>simp only [Oper.uponIn]
   case value v=>exact hK _ _ h
   case skip=>exact hK _ _ h
   case defer d=>exact hK _ _ h
   case enter f args=>
    refine⟨fun h0=>(by cases h0),ye (h.mono fun e w'' he=>?_)⟩
    cases e with
    | returned v=>exact hK _ _ he
    | panicked c=>exact he
    | outgrown=>exact he
   case row=>exact⟨fun h0=>(by cases h0),Aa (h.mono fun v w'' he=>hK _ _ he)⟩
  | halt x w'=>
   cases x<;>simp only [Oper.upon] at h<;>simp only [Oper.uponIn]
   exact h
 ·exact absurd h (hq _ _)
theorem j9{ops:Array Oper}{Q:Exit→Act→World→Prop}(hq:∀ a w,¬Q .outgrown a w):∀ (l:List Oper) (a:Act) (w:World),qN l=true→wpList P ops Q l a w→wpListIn (Fence.wide.inRound r) n P ops Q l a w
 | [],_,_,_,h=>h
 | o::rest,a,w,hd,h=>by
  simp only [qN,List.all_cons,wT,Bool.not_eq_true'] at hd;unfold wpList at h;unfold wpListIn
  split at h
  ·rename_i hw
   rw [aY hw];exact xp hq hd.1 (fun a w h=>j9 hq rest a w (by simpa [qN] using hd.2) h) h
  ·rename_i hw
   rw [aK hw];exact⟨fun _ _=>trivial,j9 hq rest _ _ (by simpa [qN] using hd.2) h⟩
theorem tI{id:Nat}{l:List Oper}{Q:Exit→Act→World→Prop}{a:Act}{w:World}(hq:∀ a w,¬Q .outgrown a w)(hd:qN l=true)(h:wpList P l.toArray Q l a w):(Code.region id l.toArray false).wpIn (Fence.wide.inRound r) n P Q a w:=
 wpIn_region_lit (j9 hq l a w hd h)
end
attribute [local go_sem] Oper.semAt_some
section
variable{K:Ky}{zz:Int×Int×Bool}{c:Cf}{S:PM}{ss:List Sv}{w0 w w':World}{F H:List En}
theorem Iv(l:List Cl):∀ u∈l.flatMap Cl.enc,u.oneCell'=true:=by
 intro u hu;obtain⟨a,_,h⟩:=List.mem_flatMap.1 hu;simp [Cl.enc] at h
 rcases h with rfl | rfl | rfl | rfl | rfl | rfl | rfl | rfl | rfl<;>rfl
theorem Ph(l:List Sh):∀ u∈l.flatMap Sh.enc,u.oneCell'=true:=by
 intro u hu;obtain⟨a,_,h⟩:=List.mem_flatMap.1 hu;simp [Sh.enc] at h
 rcases h with rfl | rfl | rfl | rfl | rfl<;>rfl
theorem Has.RP{B:Nat}(h:Has w0 w H)(r:Rec B w w')(hb:w0.heap.size≤B)(hr:∀ x∈H,∃ v e k n us,x=.row v e k n us):Has w0 w' H:=
 ⟨h.ext.only r.only fun q hq=>O_,fun x hx=>by
  obtain⟨v,e,k,n,us,rfl⟩:=hr x hx;exact r.own (h.own _ hx),h.apart⟩
theorem Has.cl{e:TypeId}{k n:Nat}{v:Value}{us:List Value}(h:Has w0 w H)(hv:w'.ownsRow w.heap.size e k v n us)(x:Ext w w'):Has w0 w' (.row v e k n us::H):=
 h.join (H':= [.row v e k n us]) ⟨x,fun y hy=>by rw [Bi.1 hy];exact hv,by
  cases hb:v.ownBlock with
  | none=>rw [N7 (by exact hb)];exact List.nodup_nil
  | some q=>rw [JM (by exact hb)];simp⟩
abbrev uX:Array Value:=#[.slice none 0 0,.slice none 0 0,.slice none 0 0,.slice none 0 0]
theorem XS{W:World}{p:Nat}(h:W.heap[p]?=some (.cells uX 58 (0,0))):(W.cell? ⟨p,0,none⟩=some (.slice none 0 0)∧W.cell? ⟨p,1,none⟩=some (.slice none 0 0)∧W.cell? ⟨p,2,none⟩=some (.slice none 0 0)∧W.cell? ⟨p,3,none⟩=some (.slice none 0 0))∧(W.frozen? ⟨p,0,none⟩=false∧W.frozen? ⟨p,1,none⟩=false∧W.frozen? ⟨p,2,none⟩=false∧W.frozen? ⟨p,3,none⟩=false):=
 ⟨⟨cellOf h rfl,cellOf h rfl,cellOf h rfl,cellOf h rfl⟩,vN h 0,vN h 1,vN h 2,vN h 3⟩
theorem Ext.oZ{W:World}{p:Nat}(h:Ext w W)(hp:w.heap.size≤p)(a b c d:Value):Ext w ((((W.setCell ⟨p,0,none⟩ a).setCell ⟨p,1,none⟩ b).setCell ⟨p,2,none⟩ c).setCell ⟨p,3,none⟩ d):=
 h.only (S:=fun q=>q=p) (((((dM.refl (fun q=>q=p) W).setCell ⟨p,0,none⟩ a (fun _=>rfl)).setCell ⟨p,1,none⟩ b (fun _=>rfl)).setCell ⟨p,2,none⟩ c (fun _=>rfl)).setCell ⟨p,3,none⟩ d (fun _=>rfl)) fun q hq=>by
  have hq:q=p:=hq;omega
theorem Has.oZ{p:Nat}{t:TypeId}{a0 a1 a2 a3:Value}(h:Has w0 w (ob p t [a0,a1,a2,a3]::H))(a b c d:Value):Has w0 ((((w.setCell ⟨p,0,none⟩ a).setCell ⟨p,1,none⟩ b).setCell ⟨p,2,none⟩ c).setCell ⟨p,3,none⟩ d) (ob p t [a,b,c,d]::H):=(((h.put 0 a).put 1 b).put 2 c).put 3 d
theorem DN(h:Idle K zz c S ss w0 w F)(hn:S.words.length≤100000000000):Calls prog 54 #[some K.bW] w (lM w 38 1 S.words.length (S.words.map (Value.int .u64))):=by
 obtain⟨cv,lv,a,b,l,p,s,ah,q,h⟩:=h;have x0:=h.at_ aj (i:=0) rfl;have hc:=nJ (h.own _ bp) (yN _) hn;clear h;go_in;go_wp2_with fail;refine hc.mono ?_;rintro e w1 ⟨v,rfl,hv,e1⟩;go_wp2;go_ret;exact⟨_,rfl,hv,e1⟩
theorem PF(bW:Nat)(i:Int):Calls prog 55 #[some bW,i] w fun e w'=>∃ bx ay,e=.returned (.func (.func 117) #[] #[some bx,some ay])∧Has w w' [ob ay 3 [i],ob bx 99 [some bW]]:=by
 have h1:=((Has.start w).alloc #[some bW] 99).alloc #[i] 3;rw [show(w.alloc (.cells #[some bW] 99)).heap.size=w.heap.size+1 from S_] at h1;go_in;go_wp2;go_ret;exact⟨_,_,rfl,h1⟩
def ago(f:wO→Nat→Act)(_:List wO)(x:wO)(b:Act)(W:World):Prop:=∃ q,b=f x q∧W.heap[q]?=some (.cells x.2.1.enc.toArray 122 (0,0))
def agn(w:World)(S:PM)(p:Nat)(vc vs vw:Value)(pre:List wO)(W:World):Prop:=∃ v1:Value,(∀ q,v1.ownBlock=some q→∃ x∈pre,x.2.2.ownBlock≠some q)∧Has w W [ob p 58 [vc,v1,vs,vw],.row v1 122 7 pre.length (pre.flatMap fun x=>x.2.1.enc),.row vw 38 1 S.words.length (S.words.map (Value.int .u64)),.row vs 125 5 S.aG.length (S.aG.flatMap Sh.enc),.row vc 119 9 S.calls.length (S.calls.flatMap Cl.enc),ob w.heap.size 58 uX.toList]
theorem KH(h:Idle K zz c S ss w0 w F)(hs:0<ss.length)(hc:S.calls.length≤100000000000)(hh:S.aG.length≤100000000000)(hw:S.words.length≤100000000000)(hl:S.log.length<1000000):
  Calls prog 15 #[some K.bM] w fun e w'=>∃ vc vt vs vw,e=.returned (.agg #[vc,vt,vs,vw])∧Has w w' [.row vt 122 7 S.log.length (S.log.flatMap Ac.enc),.row vw 38 1 S.words.length (S.words.map (Value.int .u64)),.row vs 125 5 S.aG.length (S.aG.flatMap Sh.enc),.row vc 119 9 S.calls.length (S.calls.flatMap Cl.enc)]:=by
 have hw4:=fun W (e:Ext w W)=>DN (h.next e) hw
 obtain⟨cv,lv,a,b,l,p,s,ah,q,h⟩:=h;have hA:∀ W,Ext w W→AF K.bM [some K.bW,zz.1,zz.2.1,.pointer none,.pointer none,zz.2.2,s,K.mO,.slice (some ⟨K.gs,0,none⟩) ss.length K.cs,K.au,mh K.gc K.cc S.calls.length] W:=fun W e=>⟨fun i=>(h.next e).all iu i,fun i=>(h.next e).dW iu i⟩
 have j7:=fun W (e:Ext w W)=>yc ((h.next e).own _ xJ) (Iv _) hc
 have pH:=fun W (e:Ext w W)=>wh ((h.next e).own _ oJ) (Ph _) hh
 have hL:∀ W,Ext w W→W.cell? ⟨K.bW,1,none⟩=some l∧W.ownsRow w0.heap.size 122 7 l S.log.length (S.log.flatMap Ac.enc):=fun W e=>⟨(h.next e).at_ aj (i:=1) rfl,(h.next e).own _ iU⟩
 clear h hw hc hh;have g1:=(Has.start w).alloc #[.slice none 0 0,.slice none 0 0,.slice none 0 0,.slice none 0 0] 58;have p0:=hA _ ((bu w).aE (.cells #[.slice none 0 0,.slice none 0 0,.slice none 0 0,.slice none 0 0] 58));have d0:((ss.length:Int)==0)=false:=by rw [gp];omega
 have HA:=aJ hA;have H1:=aJ j7;have H2:=aJ pH;have H4:=aJ hw4;have HL:=aJ hL;have G1:=aJ g1;clear hA j7 pH hw4 hL g1;refine wv func15 rfl ?_;simp only [ntmps15,List.size_toArray,ij,mB,Nat.reduceAdd,Nat.reduceSub,Array.replicate_succ,Array.replicate_zero,List.push_toArray,List.append_toArray,mX,kY];go_wp2_with fail;have Vx:Ext w (w.alloc (.cells #[.slice none 0 0,.slice none 0 0,.slice none 0 0,.slice none 0 0] 58)):=(bu w).aE _;clear p0;generalize w.alloc (.cells #[.slice none 0 0,.slice none 0 0,.slice none 0 0,.slice none 0 0] 58)=W1 at Vx G1 ⊢;have hD:=Vx.bh;have gD:=aJ G1.out.drew;have hsz:(W1.drew).heap.size=W1.heap.size:=S_
 go_cut [3] from 17 to 35 (fun x wx=>∃ p vc vs vw,x=.pointer (some ⟨p,0,none⟩)∧Hid (Has w wx [ob p 58 [vc,.slice none 0 0,vs,vw],.row vw 38 1 S.words.length (S.words.map (Value.int .u64)),.row vs 125 5 S.aG.length (S.aG.flatMap Sh.enc),.row vc 119 9 S.calls.length (S.calls.flatMap Cl.enc),ob w.heap.size 58 uX.toList]))
 case first=>
  go_region_held3 (AF K.bM [some K.bW,zz.1,zz.2.1,.pointer none,.pointer none,zz.2.2,s,K.mO,.slice (some ⟨K.gs,0,none⟩) ss.length K.cs,K.au,mh K.gc K.cc S.calls.length])
   (first | with_reducible exact HA.out _ hD | with_reducible exact HA.out _ (hD.aE _) | with_reducible exact HA.out _ P9 | with_reducible exact HA.out _ (P9.aE _) | with_reducible exact HA.out _ RG | with_reducible exact HA.out _ (RG.aE _) | with_reducible exact HA.out _ RF | with_reducible exact HA.out _ (RF.aE _) | with_reducible exact HA.out _ (Vx.aE _).bh | with_reducible exact HA.out _ (RF.oZ RG.size _ _ _ _) | with_reducible exact HA.out _ (RF.oZ P9.size _ _ _ _) | with_reducible exact HA.out _ (RF.oZ Vx.size _ _ _ _) | with_reducible exact HA.out _ ((RF.aE _).oZ RF.size _ _ _ _))
   (first
    | (have C:=H1.out _ hD;(with_reducible refine C.mono ?_);clear C;rintro e W2 ⟨v1,rfl,iE,rW⟩;obtain⟨A1,c1,rfl⟩:=aA iE;have P9:=Ext.next hD rW)
    | (have C:=H1.out _ (hD.aE (.cells uX 58));(with_reducible refine C.mono ?_);clear C;rintro e W2 ⟨v1,rfl,iE,rW⟩;obtain⟨A1,c1,rfl⟩:=aA iE;have P9:=Ext.next (hD.aE _) rW;have Ey:=gJ rW (yo _ _);rw [hsz] at Ey)
    | (have C:=H1.out _ (Vx.aE (.cells uX 58)).bh;(with_reducible refine C.mono ?_);clear C;rintro e W2 ⟨v1,rfl,iE,rW⟩;obtain⟨A1,c1,rfl⟩:=aA iE;have P9:=Ext.next (Vx.aE _).bh rW;have Ey:=gJ rW (gJ (bu _).bh (yo W1 _)))
    | (have C:=H2.out _ P9;(with_reducible refine C.mono ?_);clear C;rintro e W3 ⟨v2,rfl,yZ,tS⟩;obtain⟨A2,c2,rfl⟩:=aA yZ;have RG:=Ext.next P9 tS;(first | have hb3:=gJ tS Ey | skip))
    | (have C:=H2.out _ (P9.aE (.cells uX 58));(with_reducible refine C.mono ?_);clear C;rintro e W3 ⟨v2,rfl,yZ,tS⟩;obtain⟨A2,c2,rfl⟩:=aA yZ;have RG:=Ext.next (P9.aE _) tS;have hb3:=gJ tS (yo _ _))
    | (have C:=H4.out _ RG;(with_reducible refine C.mono ?_);clear C;rintro e W4 ⟨v4,rfl,hv4,Mj⟩;obtain⟨A4,c4,rfl⟩:=aA hv4;have RF:=Ext.next RG Mj;(first | (have hb4:=gJ Mj hb3;obtain⟨⟨q0,q1,q2,q3⟩,f0,f1,f2,f3⟩:=XS hb4) | skip))
    | (have C:=H4.out _ (RG.aE (.cells uX 58));(with_reducible refine C.mono ?_);clear C;rintro e W4 ⟨v4,rfl,hv4,Mj⟩;obtain⟨A4,c4,rfl⟩:=aA hv4;have RF:=Ext.next (RG.aE _) Mj;have hb4:=gJ Mj (yo _ _);obtain⟨⟨q0,q1,q2,q3⟩,f0,f1,f2,f3⟩:=XS hb4))
  ·have gF:=(((gD.out.cl iE rW).cl yZ tS).cl hv4 Mj).alloc #[.slice A1 S.calls.length c1,.slice none 0 0,.slice A2 S.aG.length c2,.slice A4 S.words.length c4] 58
   exact QB
  ·have gF:=Has.oZ (((((gD.out.cl iE rW).cl yZ tS).alloc uX 58).cl hv4 Mj).mid (A:= [_])) (.slice A1 S.calls.length c1) (.slice none 0 0) (.slice A2 S.aG.length c2) (.slice A4 S.words.length c4)
   exact QB
  ·have gF:=Has.oZ (((((gD.out.cl iE rW).alloc uX 58).cl yZ tS).cl hv4 Mj).mid (A:= [_,_])) (.slice A1 S.calls.length c1) (.slice none 0 0) (.slice A2 S.aG.length c2) (.slice A4 S.words.length c4)
   exact QB
  ·have gF:=Has.oZ ((((((G1.out.alloc uX 58).drew).cl iE rW).cl yZ tS).cl hv4 Mj).mid (A:= [_,_,_])) (.slice A1 S.calls.length c1) (.slice none 0 0) (.slice A2 S.aG.length c2) (.slice A4 S.words.length c4)
   exact QB
 obtain⟨p,vc,vs,vw,rfl,hH⟩:=hcut;obtain⟨W,hW⟩:∃ W:World,W=wc:=⟨_,rfl⟩;subst hW;have h3:=hH.out;clear hH gD hD hsz Vx G1;have e3:=h3.ext;have p3:=HA.out _ e3;clear H1 H2 H4;go_wp2_with fail;refine(PF K.bW 0).mono ?_;rintro e W5 ⟨bx,ay,rfl,hl5⟩;have h5:=h3.join hl5;have HL5:=aJ fun(Wz:World) (ez:Ext W5 Wz)=>IB (B0:=W5.heap.size) (W:=Wz) (B:=w0.heap.size) (bx:=bx) (ay:=ay) (bW:=K.bW) (vl:=l) (log:=S.log) (fun z=>(h5.next (Ext.next ez z.ok)).at_ bp rfl) (fun z=>(h5.next (Ext.next ez z.ok)).at_ aj rfl) (fun z=>(HL.out _ (h5.next (Ext.next ez z.ok)).ext).1) ((HL.out _ (h5.next ez).ext).2) hl ez.size
 have HP:=aJ h5.drop.drop;clear p3 h3 e3 hl5 h5 HL HA;go_wp2_with fail
 refine rZ (α:=wO) (gf:=117) (lb:=#[some bx,some ay]) rfl (enters_of func117 K_ rfl) (encs:=EL) (fun _=>rfl)
   (hseq:=HL5.out) ?tr ?it ?s (agn w S p vc vs vw) (fun _ _ _=>False) ?ie ?iT ?iR ?xR ?h0
   (ago ?act) ?asx ?assign ?body ?fin ?stop
 case assign=>
  intro l pre x W K hI hit hK;have hb:=World.alloc_heap_new W (.cells x.2.1.enc.toArray 122);have hE:Ext W (W.alloc (.cells x.2.1.enc.toArray 122)):=(bu W).aE _;simp only [EL,Ac.enc] at hb hE ⊢
  gi_wp2
  obtain⟨v1,pY,hI⟩:=hI;refine hK _ _ (Cu (dM.Eh (S:=fun _=>False) hE) fun _ h=>h.elim) ⟨v1,pY,hI.next hE⟩ ⟨dB hit.1 hE,hit.2⟩ ?_;clear hK;generalize W.heap.size=q at hb ⊢;refine⟨q,?_,hb⟩
  first | (symm;apply Eq.refl) | (refine Eq.symm ?_;exact rfl)
 case asx=>
  rintro pre x b A B ⟨q,h1,h2⟩ r;exact⟨q,h1,r.cells h2⟩
 case tr=>exact fun X Y ho k o hk hX _=>gJ ho hX
 case it=>exact fun pre x X Y h hr=>⟨hr.own h.1,h.2⟩
 case s=>exact fun xs X Y h hr=>h
 case ie=>
  rintro pre X Y ⟨v1,pY,h⟩ e;exact⟨v1,pY,h.next e⟩
 case iT=>
  rintro pre X Y ⟨v1,pY,h⟩ e;exact⟨v1,pY,h.next e⟩
 case iR=>
  rintro pre X Y ⟨v1,pY,h⟩ e;refine⟨v1,pY,h.RP e HP.out.ext.size fun x hx=>?_⟩;simp only [Bf,List.not_mem_nil,or_false] at hx
  rcases hx with rfl | rfl | rfl | rfl | rfl | rfl<;>exact⟨_,_,_,_,_,rfl⟩
 case xR=>exact fun _ _ _ _ h _=>h
 case h0=>exact⟨.slice none 0 0,(fun q hq=>by cases hq),(HP.out.nil 122 7).swap⟩
 case stop=>exact fun _ _ _ _ _ h=>h.elim
 case body=>
  rintro l pre x b W6 ⟨v1,pY,hI⟩ hit ⟨q,rfl,hq⟩ hlt;obtain⟨x1,⟨am,ath,ak,aa,ao,an,aw⟩,x3⟩:=x;have hbd:=(fO.1 hit.2.2.1).1;obtain⟨A1,c1,rfl⟩:=aA (hI.own _ bp);have Hq1:=aJ pY;clear pY;simp only [Ac.enc] at hq;have q0:=cellOf (i:=0) hq rfl;have q1:=cellOf (i:=1) hq rfl;have q2:=cellOf (i:=2) hq rfl;have q3:=cellOf (i:=3) hq rfl;have q4:=cellOf (i:=4) hq rfl;have q5:=cellOf (i:=5) hq rfl;have q6:=cellOf (i:=6) hq rfl;have z1:=hI.at_ aj (i:=1) rfl;have HI:=aJ hI;have Tw:=aJ hit;have hown:=hI.own _ bp;have hbytes:(pre.length+1)*56≤140737488355328:=O_
  have jF:=hI.ext.size;clear hI hit hq
  gi_upto_region 6 with fail
  refine tI (fun _ _ h=>h) K_ ?_;have oO:=fun(v':Value) (w':World) (a:w'.ownsRow w.heap.size 122 7 v' (pre.length+1) (pre.flatMap (fun x=>x.2.1.enc)++ [.int .i64 am,.int .i64 ath,.int .i64 ak,.int .i64 aa,.int .u64 ao,.int .u64 an,.int .u64 aw])) (b:W6.grownBy w' (Value.slice A1 pre.length c1).ownBlock) (d:v'.ownBlock=(Value.slice A1 pre.length c1).ownBlock∨v'.ownBlock=some (W6.heap.size+1))=>Has.grow (A:= [_]) HI.out a b (d.imp id fun e=>⟨_,e,pU _⟩)
  have HG:=aJ oO;clear oO;go_wp2_with (at_builtin;refine fP W6 rfl (.tmp 44) (.tmp 46) 52 rfl w.heap.size 122 7 56 sN underlying52 _ _ _ (by simp [Act.eval]) hown _ (by simp [Act.eval]) rfl (by simp [Value.oneCell']) hbytes jF ?_;intro v5 w5 fA eW kF;have g5:=HG.out v5 w5 fA eW kF;have z5:=g5.at_ aj (i:=1) rfl;have f5:=g5.dW aj 1;obtain⟨A5,c5,rfl⟩:=aA fA);have hp5:p<W5.heap.size:=HP.out.tu (by exact aj);have g6:=g5.fW (A:= []) 1 (.slice A5 (pre.length+1) c5);have hOp:dM (fun q=>q=p) w5 (w5.setCell ⟨p,1,none⟩ (.slice A5 (pre.length+1) c5)):=(dM.refl (fun q=>q=p) w5).setCell ⟨p,1,none⟩ _ fun _=>rfl
  have PW:=Tw.out.1.lt
  have hne:x3.ownBlock=none∨x3.ownBlock≠(Value.slice A1 pre.length c1).ownBlock:=by
   by_cases h:x3.ownBlock=none
   ·exact .inl h
   ·refine .inr fun e=>?_
    cases hb:(Value.slice A1 pre.length c1).ownBlock with
    | none=>exact h (e.trans hb)
    | some q9=>
     obtain⟨y,hy,hyn⟩:=Hq1.out q9 hb;rw [Tw.out.2.1] at hy;have:=CS (List.mem_of_mem_take hy);exact hyn (by rw [this];exact e.trans hb)
  refine⟨(Cv hown eW).trans (Cu hOp fun q9 Vb=>by have Vb:q9=p:=Vb;omega),⟨.slice A5 (pre.length+1) c5,?_,?_⟩,⟨nD (Tw.out.1.kept eW hne) hOp fun q9 Vb e9=>by have:=PW q9 Vb;have e9:q9=p:=e9;omega,Tw.out.2⟩⟩
  ·intro q9 Vb
   refine⟨_,ew _ (List.mem_singleton_self _),fun e=>?_⟩;have e:x3.ownBlock=some q9:=e;have:=PW q9 e
   rcases kF with h | h
   ·rw [Vb] at h
    rcases hne with h1 | h1
    ·rw [e] at h1;cases h1
    ·exact h1 (e.trans h)
   ·rw [Vb] at h
    injection h with h;omega
  ·rw [gP,rT]
   exact g6
 case fin=>
  intro D xs W6 hD ⟨v,hS⟩ ⟨v1,_,hI⟩ hdf;subst hS;rw [sK,EJ] at hI;have m0:=hI.at_ aj (i:=0) rfl;have m1:=hI.at_ aj (i:=1) rfl;have m2:=hI.at_ aj (i:=2) rfl;have m3:=hI.at_ aj (i:=3) rfl;have n0:=hI.at_ oJ (i:=0) rfl;have n1:=hI.at_ oJ (i:=1) rfl;have n2:=hI.at_ oJ (i:=2) rfl;have n3:=hI.at_ oJ (i:=3) rfl;have k0:=hI.dW oJ;have hpr:=HP.out.tu (b:=w.heap.size) (t:=58) (cs:=uX.toList) (by exact iu);obtain⟨Bc,cc,rfl⟩:=aA (hI.own _ iu);obtain⟨A1,c1,rfl⟩:=aA (hI.own _ bp);obtain⟨Bs,cs,rfl⟩:=aA (hI.own _ lA);obtain⟨Aw,cw,rfl⟩:=aA (hI.own _ iU);have HI:=aJ hI;have HD:=aJ hdf;clear hI hdf;go_wp2_with fail;have gF:=(HI.out.mid (A:= [_,_,_,_,_])).oZ (.slice Bc S.calls.length cc) (.slice A1 S.log.length c1) (.slice Bs S.aG.length cs) (.slice Aw S.words.length cw);change Has w _ [_,_,_,_,_,_] at gF;have hOn:dM (fun q=>q=w.heap.size) W6 ((((W6.setCell ⟨w.heap.size,0,none⟩ (.slice Bc S.calls.length cc)).setCell ⟨w.heap.size,1,none⟩ (.slice A1 S.log.length c1)).setCell ⟨w.heap.size,2,none⟩ (.slice Bs S.aG.length cs)).setCell ⟨w.heap.size,3,none⟩ (.slice Aw S.words.length cw)):=((((dM.refl (fun q=>q=w.heap.size) W6).setCell ⟨w.heap.size,0,none⟩ _ (fun _=>rfl)).setCell ⟨w.heap.size,1,none⟩ _ (fun _=>rfl)).setCell ⟨w.heap.size,2,none⟩ _ (fun _=>rfl)).setCell ⟨w.heap.size,3,none⟩ _ (fun _=>rfl);have hdf:=(hOn.block D (uh.1 HD.out).1 O_).trans HD.out
  have gR:=gF.RP (Rec.mk (B:=W5.heap.size) hD hdf rfl (.deferred none)) HP.out.ext.size fun x hx=>by
   simp only [Bf,List.not_mem_nil,or_false] at hx
   rcases hx with rfl | rfl | rfl | rfl | rfl | rfl<;>exact⟨_,_,_,_,_,rfl⟩
  refine⟨S_,.inl ⟨_,_,rfl,run_takeDeferred hdf,?_⟩⟩;refine⟨_,Fh rfl _ _ w.heap.size 58 _ (0,0) _ rfl (gR.uG aj) underlying58 rfl K_,?_⟩;exact⟨_,_,_,_,rfl,gR.drop.drop⟩
end
def jG(v:Mv):List Value:= [v.th,v.op,v.arg,v.dat]
def jM(c:Cf)(m0:RM)(l:List Mv)(m':RM):Prop:=∃ f:Nat→RM,f 0=m0∧f l.length=m'∧∀ i v,l[i]?=some v→∃ n b,(f i).move c n v=some (b,f (i+1))
theorem jM.nil{m:RM}:jM c m [] m:=⟨fun _=>m,rfl,rfl,fun i v h=>by simp at h⟩
variable{l:List Mv}
theorem jM.snoc{m0 m m':RM}{n:Nat}{v:Mv}{b:Bool}(h:jM c m0 l m)(hm:m.move c n v=some (b,m')):jM c m0 (l++ [v]) m':=by
 obtain⟨f,h0,h1,hf⟩:=h;refine⟨fun j=>if j≤l.length then f j else m',by simp [h0],by simp only;rw [aK S_],fun i u hi=>?_⟩
 by_cases h:i<l.length
 ·rw [Bk h] at hi
  obtain⟨n1,b1,e⟩:=hf i u hi;exact⟨n1,b1,by simp only [aY (Nat.le_of_lt h),aY (show i+1≤l.length from h)];exact e⟩
 ·have h2:i=l.length:=by
   have:=(fO.1 hi).1;simp at this;omega
  subst h2;rw [yw (bZ _)] at hi;simp at hi;subst hi;exact⟨n,b,by simp only [aY (bZ _),aK (show¬l.length+1≤l.length from O_),h1];exact hm⟩
theorem jM.take{m0 m m':RM}{n i:Nat}{v:Mv}{b:Bool}(h:jM c m0 (l.take i) m)(hv:l[i]?=some v)(hm:m.move c n v=some (b,m')):jM c m0 (l.take (i+1)) m':=by
 rw [Fl,hv];exact h.snoc hm
structure Live(K:Ky)(zz:Int×Int×Bool)(c:Cf)(M:MM)(m:RM)(w0 w:World)(F:List En):Prop where
 pst:Xo K zz c M w0 w F
 pi:PI c M m
 mO:∃ B bK o,K.mO=.map (some bK)∧oF o (IE B)∧En.obj bK o∈F∧∀ x∈jK K c B,x∈F
section
variable{K:Ky}{zz:Int×Int×Bool}{c:Cf}{w0 w w':World}{F:List En}{M:MM}{m:RM}
theorem Live.next(h:Live K zz c M m w0 w F)(e:Ext w w'):Live K zz c M m w0 w' F:=by
 obtain⟨⟨ss,os,B⟩,p,k⟩:=h;exact⟨⟨ss,os,B.mv,B.l1,B.l2,B.idle.next e,B.BS,B.pl⟩,p,k⟩
theorem Live.ext(h:Live K zz c M m w0 w F):Ext w0 w:=by
 obtain⟨⟨ss,os,B⟩,p,k⟩:=h;obtain⟨cv,lv,a,b,l,q,s,ah,r,h⟩:=B.idle;exact h.ext
theorem Live.xh(h:Live K zz c M m w0 w F):Pl M:=by
 obtain⟨⟨ss,os,B⟩,hp,k⟩:=h;intro t s q hs hq;refine⟨fun hrd=>?_,B.pl t s q hs hq⟩;obtain⟨v,L,_,_,_,_,ho⟩:=B.BS t s hs;rw [hq] at ho;obtain⟨k,hi,ho⟩:=ho;rw [hrd,aY rfl] at ho;have WX:(t:Int)<c.T:=by have:=(fO.1 hs).1;have:=hp.mr.l1;omega
 obtain⟨x,hx⟩:∃ x,m.T[t]?=some x:=⟨_,fy (by have:=hp.mr.l2;omega)⟩;obtain⟨_,_,ji⟩:=hp.mr.BS t s x hs hx;rw [hq] at ji;obtain⟨_,_,_,rV⟩:=ji;rw [hrd,aY rfl] at rV;exact Kk ho rV
theorem ID(h:Live K zz c M m w0 w F)(v:Mv)(ha:Kr v.arg):
  cm 11 #[some K.bM,gB v.th v.op v.arg v.dat] w (.bool (M.move c v).1) fun w'=>∃ K' Ob m',K'.bM=K.bM∧(∃ n,m.move c n v=some ((M.move c v).1,m'))∧Live K' Ob c (M.move c v).2 m' w0 w' F:=by
 obtain⟨B,bK,o,k1,k2,k3,k4⟩:=h.mO;obtain⟨n,m',e1,e2⟩:=O7 h.pi ha h.xh;refine(Yx h.pst (UB k4) k2 k3 k1 h.pi v ha).mono ?_;rintro e w' ⟨rfl,mk,Ob,hb,hk,hp⟩;exact⟨rfl,{K with toMk:=mk},Ob,m',hb,⟨n,e1⟩,hp,e2,B,bK,o,by show mk.mO=_;rw [hk,k1],k2,k3,k4⟩
theorem Cr(ok:bY c.T c.R c.H c.Re c.Ca c.S c.B){n b s:Nat}(hz:nO c.R c.H c.S c.B n b s):
  Calls prog 7 #[fI c] w fun e w'=>∃ K zz F,e=.returned (.tuple #[some K.bM,.int .i64 0])∧Live K zz c (MM.new c (cO n b s 1)) (RM.new c (cO n b s 1)) w w' F:=by
 refine(O2 ok hz).mono ?_;rintro e w' ⟨K,B,bK,o,F,rfl,h1,h2,h3,h4,h5⟩;exact⟨K,_,F,rfl,h5,T6 ok hz,B,bK,o,h1,h2,h3,h4⟩
theorem LB(h:Live K zz c M m w0 w F):Calls prog 15 #[some K.bM] w fun e w'=>∃ vc vt vs vw,e=.returned (.agg #[vc,vt,vs,vw])∧Has w w' [.row vt 122 7 M.pm.log.length (M.pm.log.flatMap Ac.enc),.row vw 38 1 M.pm.words.length (M.pm.words.map (Value.int .u64)),.row vs 125 5 M.pm.aG.length (M.pm.aG.flatMap Sh.enc),.row vc 119 9 M.pm.calls.length (M.pm.calls.flatMap Cl.enc)]:=by
 obtain⟨⟨ss,os,B⟩,hp,k⟩:=h;have h1:=hp.lg;have h3:=hp.sh;have h4:=hp.cl;have h5:=hp.mv;have hT:=hp.mr.l1;have hl:=B.l1;have ok:=hp.mr.dX.ok;have hw:=hp.mr.dX.len;unfold bY at ok;have hb:c.R*c.H≤16*8:=ua O_ O_ O_ O_;simp [b7,cV] at hw;exact KH B.idle O_ O_ O_ O_ O_
end
def MM.run(c:Cf)(M:MM)(l:List Mv):MM:=l.foldl (fun M v=>(M.move c v).2) M
theorem MM.KG{M:MM}{i:Nat}{v:Mv}(h:l[i]?=some v):M.run c (l.take (i+1))=((M.run c (l.take i)).move c v).2:=by
 unfold MM.run;rw [Fl,h,List.foldl_append]
 rfl
theorem Dd(no:¬bY c.T c.R c.H c.Re c.Ca c.S c.B):
  cm 28 #[fI c,.int .i64 1] w (.tuple #[.pointer none,.int .i64 1]) fun w'=>Ext w w':=by
 have tD:=fun W=>jm c.T c.R c.H c.Re c.Ca c.S c.B W
 rw [aK no] at tD;have tD:=aJ tD;have h1:=(Has.start w).alloc #[c.T,c.R,c.H,c.Re,c.Ca,c.S,c.B] 23;have p1:=h1.all aj;clear no;unfold fI;go_enter func28,ntmps28;go_wp2_with fail;refine un (tD.out _) fun w2 e2=>?_
 have h2:=h1.next e2;clear p1 tD;go_wp2
 go_ret2;exact⟨rfl,h2.ext⟩
theorem Ef(no:¬bY c.T c.R c.H c.Re c.Ca c.S c.B):
  cm 7 #[fI c] w (.tuple #[.pointer none,.int .i64 1]) fun w'=>Ext w w':=by
 have P8:=fun W=>Dd (w:=W) no
 replace P8:=aJ P8;have h1:=(Has.start w).alloc #[c.T,c.R,c.H,c.Re,c.Ca,c.S,c.B] 23;have p1:=h1.all aj;unfold fI at P8 ⊢;clear no;go_enter func7,ntmps7;go_wp2_with fail;refine un (P8.out _) fun w2 e2=>?_
 have h2:=h1.next e2;clear p1 P8;go_wp2
 go_ret2;exact⟨rfl,h2.ext⟩
def rI(w:World)(S:PM)(er:Int)(e:Ending)(w':World):Prop:=∃ vc vt vs vw,e=.returned (.tuple #[.agg #[vc,vt,vs,vw],er])∧Has w w' [.row vt 122 7 S.log.length (S.log.flatMap Ac.enc),.row vw 38 1 S.words.length (S.words.map (Value.int .u64)),.row vs 125 5 S.aG.length (S.aG.flatMap Sh.enc),.row vc 119 9 S.calls.length (S.calls.flatMap Cl.enc)]
def PM.none:PM:={words:= [],log:= [],slots:= [],aO:= [],held:= [],lists:= [],aG:= [],calls:= [],told:= [],th:=0,now:=0,cur:=0,used:=false}
theorem Im{w w':World}{er:Int}(e:Ext w w'):rI w PM.none er (.returned (.tuple #[.agg #[.slice none 0 0,.slice none 0 0,.slice none 0 0,.slice none 0 0],er])) w':=
 ⟨_,_,_,_,rfl,(((((Has.start w).next e).nil _ _).nil _ _).nil _ _).nil _ _⟩
theorem sL(w:World)(c:Cf):Has w ((w.alloc (.cells #[c.T,c.R,c.H,c.Re,c.Ca,c.S,c.B] 23)).alloc (.cells uX 58)) [ob (w.heap.size+1) 58 uX.toList,ob w.heap.size 23 [c.T,c.R,c.H,c.Re,c.Ca,c.S,c.B]]:=SM
theorem O6(no:¬bY c.T c.R c.H c.Re c.Ca c.S c.B)(a:Option Addr)(n k:Nat):
  Calls prog 17 #[fI c,.slice a n k] w (rI w PM.none 1):=by
 have hn:=fun W=>Ef (w:=W) no
 replace hn:=aJ hn;have h1:=sL w c;have p1:=h1.all bp;unfold fI at hn ⊢;clear no;go_in;go_wp2_with fail;refine un (hn.out _) fun w2 e2=>?_
 have h2:=h1.next e2;have q0:=h2.at_ aj (i:=0) rfl;have q1:=h2.at_ aj (i:=1) rfl;have q2:=h2.at_ aj (i:=2) rfl;have q3:=h2.at_ aj (i:=3) rfl;have f:=h2.dW aj;clear p1 hn;exact aby
theorem Io(ok:bY c.T c.R c.H c.Re c.Ca c.S c.B){nn b s:Nat}(hz:nO c.R c.H c.S c.B nn b s)(a:Option Addr)(n k:Nat)(hn:65536<n):
  Calls prog 17 #[fI c,.slice a n k] w (rI w PM.none 3):=by
 have uB:=fun W=>Cr (w:=W) ok hz
 replace uB:=aJ uB;have h1:=sL w c;have p1:=h1.all bp;have d1:decide ((65536:Int)<(n:Int))=true:=cM O_;unfold fI at uB ⊢;clear ok;go_in;go_wp2_with fail;refine(uB.out _).mono ?_;rintro e w2 ⟨K,zz,F,rfl,hL⟩;have e2:=hL.ext;have h2:=h1.next e2;have q0:=h2.at_ aj (i:=0) rfl;have q1:=h2.at_ aj (i:=1) rfl;have q2:=h2.at_ aj (i:=2) rfl;have q3:=h2.at_ aj (i:=3) rfl;have f:=h2.dW aj;clear p1 uB hL;exact aby
theorem O5(ok:bY c.T c.R c.H c.Re c.Ca c.S c.B){nn b s:Nat}(hz:nO c.R c.H c.S c.B nn b s)(l:List Mv)(a:Option Addr)(k:Nat)(hr:Rd w a (l.flatMap jG))(hk:∀ v∈l,Kr v.arg)(hn:l.length≤65536):
  Calls prog 17 #[fI c,.slice a l.length k] w (fun e w'=>∃ m',jM c (RM.new c (cO nn b s 1)) l m'∧PI c (MM.run c (MM.new c (cO nn b s 1)) l) m'∧rI w (MM.run c (MM.new c (cO nn b s 1)) l).pm 0 e w'):=by
 have uB:=fun W=>Cr (w:=W) ok hz
 replace uB:=aJ uB;have h1:=sL w c;have p1:=h1.all bp;have d1:decide ((65536:Int)<(l.length:Int))=false:=dy O_;generalize hM0:MM.new c (cO nn b s 1)=M0 at uB ⊢;generalize hm0:RM.new c (cO nn b s 1)=m0 at uB ⊢;unfold fI at uB ⊢;have HR:=aJ hr;have HK:=aJ hk;clear ok hM0 hm0 hr hk;go_in;go_wp2_with fail;refine(uB.out _).mono ?_;rintro e w2 ⟨K,zz,F,rfl,hL⟩;have HL:=aJ hL;have H1:=aJ h1;clear p1 uB h1 hL;go_wp2
 go_loopw [25] (fun s25 wr=>∃ (i:Nat) (K':Ky) (Ob:Int×Int×Bool) (m':RM),s25=.int .i64 i∧i≤l.length∧Hid (K'.bM=K.bM)∧Hid (jM c m0 (l.take i) m')∧Hid (Live K' Ob c (MM.run c M0 (l.take i)) m' ((w.alloc (.cells #[c.T,c.R,c.H,c.Re,c.Ca,c.S,c.B] 23)).alloc (.cells uX 58)) wr F)) (fun s25 _=>l.length - (intOf s25).toNat)
 case atStart=>exact⟨0,K,zz,_,rfl,nU _,rfl,jM.nil,HL⟩
 case round=>
  clear HL;obtain⟨i,K',Ob,m',rfl,hi,hb,HRT,HLi⟩:=hrel
  by_cases hlt:i<l.length
  case neg=>
   have dl:decide ((i:Int)<(l.length:Int))=false:=dy O_;rw [Bj O_] at HLi HRT;have HPI:=aJ HLi.out.pi;have hrun:=LB HLi.out;rw [hb.out] at hrun;go_wp2_with fail;refine hrun.mono ?_;rintro e w3 ⟨vc,vt,vs,vw,rfl,hH⟩;have hJ:=(H1.out.next HLi.out.ext).join hH;obtain⟨Bt,ct,rfl⟩:=aA (hH.own _ aj);obtain⟨Bw,cw,rfl⟩:=aA (hH.own _ bp);obtain⟨Bs,cs,rfl⟩:=aA (hH.own _ iU);obtain⟨Bc,cc,rfl⟩:=aA (hH.own _ lA);have q0:=hJ.at_ iu (i:=0) rfl;have q1:=hJ.at_ iu (i:=1) rfl;have q2:=hJ.at_ iu (i:=2) rfl;have q3:=hJ.at_ iu (i:=3) rfl;have f:=hJ.dW iu;have HJ:=aJ hJ;clear hJ hH hrun;go_wp2_with fail;have hP:=(HJ.out.mid (A:= [_,_,_,_])).oZ (.slice Bc (MM.run c M0 l).pm.calls.length cc) (.slice Bt (MM.run c M0 l).pm.log.length ct) (.slice Bs (MM.run c M0 l).pm.aG.length cs) (.slice Bw (MM.run c M0 l).pm.words.length cw);change Has w _ [_,_,_,_,_,_] at hP;refine DL (results_cell_tmp rfl _ _ (w.heap.size+1) rfl _ (run_loadVar_row _ _ _ _ _ _ _ (hP.uG aj) underlying58 rfl K_)) rfl ?_;exact⟨m',HRT.out,HPI.out,_,_,_,_,rfl,(hP.drop.mid (A:= [_,_,_,_])).drop⟩
  case pos=>
   have dl:decide ((i:Int)<(l.length:Int))=true:=cM O_;obtain⟨v,hv⟩:∃ v,l[i]?=some v:=⟨_,fy hlt⟩;have hfl:∀ k u,(jG v)[k]?=some u→(l.flatMap jG)[i*4+k]?=some u:=fun k u hu=>flat_get jG 4 (fun _=>rfl) hv hu
   obtain⟨bm,off,rfl,hbm,hc⟩:=HR.out (by intro e;have:=hfl 0 _ rfl;rw [e] at this;simp at this);have hE:Ext w wr:=Ext.next H1.out.ext HLi.out.ext;have fQ:∀ k u,(jG v)[k]?=some u→wr.cell? ⟨bm,off+(i*4+k),none⟩=some u:=fun k u hu=>(hE.cell (p:=⟨bm,off+(i*4+k),none⟩) hbm).trans (hc _ _ (hfl k u hu))
   have c0:=fQ 0 _ rfl;have c1:=fQ 1 _ rfl;have c2:=fQ 2 _ rfl;have c3:=fQ 3 _ rfl;simp only [←ud,gn] at c0 c1 c2 c3;have hka:=HK.out v (nV hv);have Ay:=ID (HLi.out.next ((bu wr).aE (.cells #[v.th,v.op,v.arg,v.dat] 36))) v hka;rw [hb.out,←MM.KG hv] at Ay;have HV:=aJ hv;clear hv hfl hc fQ hka hE HLi;go_wp2_with fail;refine Ay.mono ?_;rintro e w4 ⟨rfl,K2,zz2,m2,Ey,⟨n2,hn2⟩,Ok⟩;have HR2:=aJ (HRT.out.take HV.out hn2);clear hn2;have J8:=aJ Ok;have HB2:=aJ Ey;clear Ay Ok Ey c0 c1 c2 c3;go_wp2
   go_roundw
   case rel=>exact⟨i+1,K2,zz2,m2,rfl,O_,HB2,HR2,J8⟩
   case measure=>simp only [intOf];omega
structure Dk where
 bD:Nat
 gw:Nat
 cw:Nat
 gk:Nat
 ck:Nat
 gb:Nat
 cb:Nat
 ge:Nat
 ce:Nat
 gt:Nat
 ct:Nat
 gs:Nat
 cs:Nat
 gh:Nat
 ch:Nat
 gl:Nat
 cl:Nat
structure Tv where
 bk:Value
 ca:Value
 nm:Value
 pd:Value
 pf:Value
 full:List Int
@[reducible] def kN(g n c:Nat):Value:=.slice (some ⟨g,0,none⟩) n c
@[reducible] def bG:Value:=.slice none 0 0
def Kf:List Value:=List.replicate 600 (.int .u64 0)++ [bG,bG]
theorem GV:Kf.length=602:=by unfold Kf;rw [gP,uj];rfl
def dJ(p:RT×Tv):List Value:=
 [.bool p.1.busy,.int .i64 p.1.call,.int .i64 p.1.pc]++((List.range 48).map (fun i=>Value.int .u64 (p.1.R i))++([p.2.bk,p.2.ca,.int .i64 p.1.rc,p.2.nm,p.2.pd]++Kf))
theorem gZ(p:RT×Tv):(dJ p).length=658:=by
 unfold dJ;rw [gP,gP,gP,mC,Fk,GV]
 show 3+(48+(5+602))=658
 omega
theorem CW(p:RT×Tv){a:Nat}(h:a<48):(dJ p)[3+a]?=some (.int .u64 (p.1.R a)):=by
 unfold dJ;have hl:((List.range 48).map (fun i=>Value.int .u64 (p.1.R i))).length=48:=by rw [mC,Fk]
 rw [yw (by show 3≤3+a;omega),Bk (by rw [hl];show 3+a - 3<48;omega)];rw [show 3+a - [Value.bool p.1.busy,Value.int .i64 p.1.call,Value.int .i64 p.1.pc].length=a by show 3+a - 3=a;omega,gA,List.getElem?_range h]
 rfl
theorem Oy(R:Nat→Int)(a:Nat)(v:Int)(n:Nat):(List.range n).map (fun i=>Value.int .u64 (cg R a v i))=((List.range n).map (fun i=>Value.int .u64 (R i))).set a (.int .u64 v):=by
 refine wU fun j=>?_
 rw [wV,gA,gA]
 by_cases hj:j<n
 ·rw [List.getElem?_range hj]
  by_cases ha:a=j
  ·subst ha
   rw [aY rfl,aY (by simpa using hj)];simp [cg]
  ·rw [aK ha]
   simp [cg,iS ha]
 ·rw [DD (by simpa using hj)]
  by_cases ha:a=j
  ·subst ha
   rw [aY rfl,aK (by simpa using hj)]
   rfl
  ·rw [aK ha]
   rfl
theorem MS(x:RT)(v:Tv){a:Nat}(y:Int)(h:a<48):dJ (x.set a y,v)=(dJ (x,v)).set (3+a) (.int .u64 y):=by
 unfold dJ RT.set;have hl:((List.range 48).map (fun i=>Value.int .u64 (x.R i))).length=48:=by rw [mC,Fk]
 simp only;rw [Oy,JK _ _ (by show 3≤3+a;omega),List.set_append_left _ _ (by rw [hl];show 3+a - 3<48;omega)];rw [show 3+a - [Value.bool x.busy,Value.int .i64 x.call,Value.int .i64 x.pc].length=a by show 3+a - 3=a;omega]
theorem ru(p:RT×Tv):(dJ p)[51]?=some p.2.bk:=rfl
theorem hU(p:RT×Tv):(dJ p)[52]?=some p.2.ca:=rfl
theorem uF(p:RT×Tv):(dJ p)[54]?=some p.2.nm:=rfl
theorem kS(p:RT×Tv):(dJ p)[55]?=some p.2.pd:=rfl
theorem sM(x:RT)(v:Tv)(b:Bool):dJ ({x with busy:=b},v)=(dJ (x,v)).set 0 (.bool b):=rfl
theorem Jh(x:RT)(v:Tv)(b:Nat):dJ ({x with call:=b},v)=(dJ (x,v)).set 1 (.int .i64 b):=rfl
theorem Qi(x:RT)(v:Tv)(b:Nat):dJ ({x with pc:=b},v)=(dJ (x,v)).set 2 (.int .i64 b):=rfl
theorem vV(x:RT)(v:Tv)(l:List Int)(b:Value):dJ ({x with back:=l},{v with bk:=b})=(dJ (x,v)).set 51 b:=rfl
theorem CV(x:RT)(v:Tv)(l:List Int)(b:Value):dJ ({x with cache:=l},{v with ca:=b})=(dJ (x,v)).set 52 b:=rfl
theorem MQ(x:RT)(v:Tv)(r:Int):dJ ({x with rc:=r},v)=(dJ (x,v)).set 53 (.int .i64 r):=rfl
theorem CU(x:RT)(v:Tv)(l:List Int)(b:Value):dJ ({x with names:=l},{v with nm:=b})=(dJ (x,v)).set 54 b:=rfl
theorem rj(x:RT)(v:Tv)(l:List Int)(b pf:Value)(f:List Int):dJ ({x with pending:=l},{v with pd:=b,pf:=pf,full:=f})=(dJ (x,v)).set 55 b:=rfl
def kL(x:RT)(v:Tv):Prop:=(x.pending= []∧v.full= []∧v.pd=bG∧v.pf=bG)∨∃ (g k k' cp:Nat),v.pf=kN g v.full.length cp∧v.full.length≤cp∧k≤v.full.length∧x.pending=v.full.drop k∧(k<v.full.length→k'=k)∧v.pd=.slice (some ⟨g,k',none⟩) (v.full.length - k) (cp - k)
@[reducible] def eH(v:Value)(l:List Int):En:=.row v 3 1 l.length (l.map (Value.int .i64))
def fq(x:RT)(v:Tv):List En:= [eH v.bk x.back,eH v.ca x.cache,eH v.nm x.names,eH v.pf v.full]
def xY(D:Dk)(c:Cf)(m:RM)(n:Nat)(vc vt vs:Value):List Value:=
 [c.T,c.R,c.H,c.Re,c.Ca,c.S,c.B,kN D.gw m.words.length D.cw,kN D.gk aI.length D.ck,kN D.gb bz.length D.cb,kN D.ge aM.length D.ce,kN D.gt n D.ct,kN D.gs m.states.length D.cs,kN D.gh m.bS.length D.ch,kN D.gl m.lists.length D.cl,.int .u64 0,.int .u64 0,.int .u64 0,.int .u64 0,.int .u64 0,.int .u64 0,.int .u64 0,.int .u64 0,m.au,vc,vt,vs]
def mJ.enc(e:mJ):List Value:= [e.op,e.label,e.dP]
def DK(D:Dk)(c:Cf)(m:RM)(n:Nat)(ov:List (RT×Tv))(vc vt vs:Value)(lv:List Value):List En:=
 [ob D.bD 55 (xY D c m n vc vt vs),dA D.gw D.cw 38 1 m.words.length (m.words.map (Value.int .u64)),dA D.gk D.ck 236 6 aI.length (aI.flatMap eJ.enc),dA D.gb D.cb 3 1 bz.length (bz.map fun(n:Nat)=>Value.int .i64 (n:Int)),dA D.ge D.ce 234 3 aM.length (aM.flatMap mJ.enc),dA D.gt D.ct 44 658 n (ov.flatMap dJ),dA D.gs D.cs 123 1 m.states.length (m.states.map (Value.int .i64)),dA D.gh D.ch 3 1 m.bS.length (m.bS.map (Value.int .i64)),dA D.gl D.cl 40 1 m.lists.length lv,.row vc 119 9 m.calls.length (m.calls.flatMap Cl.enc),.row vt 122 7 m.trace.length (m.trace.flatMap Ac.enc),.row vs 125 5 m.aG.length (m.aG.flatMap Sh.enc)]
def fV(lv:List Value)(l:List (List Int)):List En:=(lv.zip l).map fun x=>eH x.1 x.2
def aW(D:Dk)(c:Cf)(th:Nat)(ov:List (RT×Tv))(m:RM)(x:RT)(v:Tv)(vc vt vs:Value)(lv:List Value)(w0 w:World)(F:List En):Prop:=
 Has w0 w (DK D c m ov.length (ov.set th (x,v)) vc vt vs lv++(fq x v++(fV lv m.lists++F)))
def Dt(D:Dk)(c:Cf)(th:Nat)(ov:List (RT×Tv))(m:RM)(x:RT)(w0 w:World)(F:List En):Prop:=
 ∃ (v:Tv) (vc vt vs:Value) (lv:List Value),lv.length=m.lists.length∧kL x v∧aW D c th ov m x v vc vt vs lv w0 w F
section
variable{D:Dk}{c:Cf}{th:Nat}{ov:List (RT×Tv)}{m m':RM}{x x':RT}{v v':Tv}{vc vt vs:Value}{lv:List Value}{w0 w w':World}{F G:List En}{b i:Nat}{t:TypeId}{cs:List Value}{u:Value}
theorem aW.next(h:aW D c th ov m x v vc vt vs lv w0 w F)(e:Ext w w'):aW D c th ov m x v vc vt vs lv w0 w' F:=Has.next h e
theorem aW.drew(h:aW D c th ov m x v vc vt vs lv w0 w F):aW D c th ov m x v vc vt vs lv w0 w.drew F:=Has.drew h
theorem aW.rest(h:aW D c th ov m x v vc vt vs lv w0 w F)(f:∀ A,Has w0 w (A++F)→Has w0 w' (A++G)):aW D c th ov m x v vc vt vs lv w0 w' G:=by
 unfold aW at h ⊢;rw [←dH,←dH] at h ⊢;exact f _ h
theorem aW.alloc(h:aW D c th ov m x v vc vt vs lv w0 w F)(cs:Array Value)(t:TypeId):aW D c th ov m x v vc vt vs lv w0 (w.alloc (.cells cs t)) (ob w.heap.size t cs.toList::F):=h.rest fun _ h=>(h.alloc cs t).back
theorem aW.drop{y:En}(h:aW D c th ov m x v vc vt vs lv w0 w (y::F)):aW D c th ov m x v vc vt vs lv w0 w F:=h.rest fun _ h=>h.mid.drop
theorem aW.perm(h:aW D c th ov m x v vc vt vs lv w0 w F)(p:F.Perm G):aW D c th ov m x v vc vt vs lv w0 w G:=h.rest fun _ h=>h.perm (ue _ p)
theorem aW.af(h:aW D c th ov m x v vc vt vs lv w0 w F)(hm:ob b t cs∈F):(∀ i,w.cell? ⟨b,i,none⟩=cs[i]?)∧∀ i,w.frozen? ⟨b,i,none⟩=false:=by
 have hm:=bX (A:=DK D c m ov.length (ov.set th (x,v)) vc vt vs lv) (bX (A:=fq x v) (bX (A:=fV lv m.lists) hm));exact RZ
theorem aW.bd(h:aW D c th ov m x v vc vt vs lv w0 w F):(∀ i,w.cell? ⟨D.bD,i,none⟩=(xY D c m ov.length vc vt vs)[i]?)∧∀ i,w.frozen? ⟨D.bD,i,none⟩=false:=by
 have hm:ob D.bD 55 (xY D c m ov.length vc vt vs)∈DK D c m ov.length (ov.set th (x,v)) vc vt vs lv++(fq x v++(fV lv m.lists++F)):=aj;exact RZ
theorem aW.tr(h:aW D c th ov m x v vc vt vs lv w0 w F)(ht:th<ov.length)(hu:(dJ (x,v))[i]?=some u):w.cell? ⟨D.gt,th*658+i,none⟩=some u:=
 Has.ey (g:=D.gt) (c:=D.ct) h oJ (flat_get dJ 658 gZ (g9 ht) hu)
theorem aW.jQ(h:aW D c th ov m x v vc vt vs lv w0 w F)(i:Nat):w.frozen? ⟨D.gt,i,none⟩=false:=Has.gL (g:=D.gt) (c:=D.ct) h oJ i
theorem aW.gm(h:aW D c th ov m x v vc vt vs lv w0 w F)(ht:th<ov.length){a:Nat}(ha:a<48):w.cell? ⟨D.gt,th*658+3+a,none⟩=some (.int .u64 (x.R a)):=by
 rw [ud];exact h.tr ht (CW (x,v) ha)
theorem aW.cI(h:aW D c th ov m x v vc vt vs lv w0 w F){l n:Nat}(hl:bz[l]?=some n):w.cell? ⟨D.gb,l,none⟩=some (.int .i64 n):=
 Has.ey (g:=D.gb) (c:=D.cb) h lA (by rw [gA,hl];rfl)
theorem eJ.Gr(i:eJ):i.enc.length=6:=rfl
theorem aW.code(h:aW D c th ov m x v vc vt vs lv w0 w F){p:Nat}{ins:eJ}(hp:aI[p]?=some ins)(hu:ins.enc[i]?=some u):w.cell? ⟨D.gk,p*6+i,none⟩=some u:=
 Has.ey (g:=D.gk) (c:=D.ck) h iU (flat_get eJ.enc 6 eJ.Gr hp hu)
theorem CX{α:Type}(l:List α)(i:Nat)(p q:α):(l.set i p).modify i (fun _=>q)=l.set i q:=by
 refine wU fun j=>?_
 rw [yq,wV,wV]
 by_cases h:i=j
 ·subst h
  simp only [dL]
  by_cases hl:i<l.length
  ·simp [hl]
  ·simp [hl]
 ·simp only [aK h]
  cases l[j]?<;>rfl
theorem aW.Af(h:aW D c th ov m x v vc vt vs lv w0 w F)(ht:th<ov.length)(he:dJ (x',v')=(dJ (x,v)).set i u)(hi:i<658)(hr:fq x' v'=fq x v):aW D c th ov m x' v' vc vt vs lv w0 (w.setCell ⟨D.gt,th*658+i,none⟩ u) F:=by
 have h2:=Has.fD (A:= [_,_,_,_,_]) h (th*658+i) u;unfold aW;rw [hr];unfold DK
 rw [show(ov.set th (x',v')).flatMap dJ=((ov.set th (x,v)).flatMap dJ).set (th*658+i) u by
  rw [←CX ov th (x,v) (x',v')];exact iK dJ 658 gZ (g9 ht) he hi]
 exact h2
theorem aW.oI(h:aW D c th ov m x v vc vt vs lv w0 w F)(ht:th<ov.length)(n:Nat):aW D c th ov m {x with pc:=n} v vc vt vs lv w0 (w.setCell ⟨D.gt,th*658+2,none⟩ n) F:=h.Af ht (Qi x v n) O_ rfl
theorem aW.Eb(h:aW D c th ov m x v vc vt vs lv w0 w F)(ht:th<ov.length){a:Nat}(ha:a<48)(y:Int):aW D c th ov m (x.set a y) v vc vt vs lv w0 (w.setCell ⟨D.gt,th*658+3+a,none⟩ (.int .u64 y)) F:=by
 rw [ud];exact h.Af ht (MS x v y ha) O_ rfl
end
theorem I8{p:Prop} [Decidable p]{b:Bool}(h:b=true↔p):b=decide p:=by
 rw [Bool.eq_iff_iff,decide_eq_true_iff];exact h
theorem EU(T R H Re Ca S B:Int)(w:World):
  cm 8 #[(.agg #[T,R,H,Re,Ca,S,B])] w (.bool (decide (bY T R H Re Ca S B))) fun w'=>Ext w w':=by
 go_enter func8,ntmps8;go_wp2_with fail
 all_goals
  go_ret;refine⟨lu (I8 ⟨fun h=>?_,fun h=>?_⟩),(bu w).alloc (bZ _) _⟩
  ·first
    | exact absurd h D_
    | (have h':=of_decide_eq_true h;unfold bY;omega)
  ·unfold bY at h
   first
    | exact cM O_
    | (exfalso;omega)
theorem Cc(T R H Re Ca S B:Int)(hok:bY T R H Re Ca S B)(w:World):
  cm 109 #[(.agg #[T,R,H,Re,Ca,S,B])] w (.int .i64 (b7 R H S B 13)) fun w'=>Ext w w':=by
 have qW:=hok;unfold bY at qW;obtain⟨_,_,hR,pZ,hH,qg,_,_,_,_,hS,mP,hB,xW⟩:=qW;have hb:=jv R H S B hR pZ hH qg hS mP hB xW 12
 have Bu:Hid (b7 R H S B 12+S=b7 R H S B 13):=by
  show _=_
  rw [show b7 R H S B 13=b7 R H S B 12+cV R H S B ((12:Nat)+1) from rfl];simp [cV]
 have hba:=fun w=>lJ T R H Re Ca S B 12 w hR pZ hH qg hS mP hB xW 13 rfl O_
 generalize hX:b7 R H S B 12=X at hb Bu hba;have Hba:=aJ hba;clear hok hX hba;go_enter func109,ntmps109;go_wp2_with fail;obtain⟨w0,hw0,hC,hE,hlt⟩:=nI w (.cells (Qr T R H Re Ca S B) 23);rw [hw0];have HE:=aJ hE;obtain⟨c0,c1,c2,c3,c4,c5,c6⟩:=aL.cfg hC;clear hw0 hC hE;refine bT (Ext w0) (Ext.drawn w0 1) K_ K_ ?_
 repeat (go_big_quiet_step (exact oy (oo _) (Hba.out _)))
 refine qA ?_;rintro _ ⟨k4,rfl⟩;go_wp2;go_ret;exact⟨jV Bu.out,Ext.next HE.out k4.ok⟩
theorem xE(u:Nat)(w:World)(hu:u≤100000):cm 110 #[.int .u64 0,u] w (.int .u64 ((u:Int)+1)) fun w'=>w'=w:=by
 go_enter func110,ntmps110;go_wp2;go_ret;exact⟨jV O_,rfl⟩
theorem gV(x:Int)(w:World)(h0:-1≤x)(h1:x≤9223372036854775806):cm 111 #[x,false] w (.int .u64 (x+1)) fun w'=>w'=w:=by
 go_enter func111,ntmps111;exact iB
theorem Ad(T R H Re Ca S B:Int)(hok:bY T R H Re Ca S B)(n b s:Nat)(hsz:nO R H S B n b s)(u:Nat)(hu:u≤s)(w:World):
  Calls prog 49 #[(.agg #[T,R,H,Re,Ca,S,B]),u] w (wQ w n b s u fun v=>v):=by
 obtain⟨h1,h2,h3,h4,h5,h6⟩:=hsz;subst h3;have mP:1≤s∧s≤1024:=by unfold bY at hok;omega
 have NV:=aJ (fun w=>Cc T R H Re Ca s B hok w);have qW:=hok;unfold bY at qW;have Hb9:=aJ (fun w=>lJ T R H Re Ca s B 9 w O_ O_ O_ O_ O_ O_ O_ O_ 10 rfl O_);have Hb3:=aJ (fun w=>lJ T R H Re Ca s B 3 w O_ O_ O_ O_ O_ O_ O_ O_ 4 rfl O_);have Hb4:=aJ (fun w=>lJ T R H Re Ca s B 4 w O_ O_ O_ O_ O_ O_ O_ O_ 5 rfl O_);have Hs3:Hid (b7 R H s B 3=3):=by show _=_;simp [b7,cV]
 have Hs4:Hid (b7 R H s B 4=4):=by show _=_;simp [b7,cV]
 clear qW;have Wv:=aJ hok;have hmk:=fun W=>nX BB rfl underlying42 (n:Int) O_ O_ O_ W
 simp only [mW] at hmk;have H1:=aJ h1;have H2:=aJ h2;have Xf:decide ((u:Int)<0)=false:=S_
 have Z8:decide (s<u)=false:=by simp;omega
 have hd3:decide ((s:Int)<(u:Int))=false:=by simp;omega
 have hroom:b+4*s≤n:=O_
 have H4:=aJ h4;clear hok h1 h2 h4;go_in;go_wp2_with fail;obtain⟨w0,hw0,hC,hE,hlt⟩:=nI w (.cells (Qr T R H Re Ca s B) 23);rw [hw0];have HE:=aJ hE;obtain⟨c0,c1,c2,c3,c4,c5,c6⟩:=aL.cfg hC;have ltC:=aL.lt hlt;clear hw0 hC hE;refine un (NV.out _) fun w1 e1=>?_
 rw [H1.out];obtain⟨k1,rfl⟩:=kB e1;clear e1
 go_upto_region 2 with fail;obtain⟨w2,DG,Av,e2,hlt2⟩:=Rp k1.world w0.heap.size n k1.ok.size O_ 38 (.int .u64 0);rw [DG];obtain⟨k3,rfl⟩:=jD k1 e2;have hgW:=k1.ok.size;generalize k1.world.heap.size=g at*;rw [show List.replicate n (Value.int .u64 0)=(List.replicate n (0:Int)).map (Value.int .u64) from S_] at Av;have NZ:=aJ Av;clear DG e2 Av hlt2;have hn0:(0:Int)<(n:Int):=O_
 obtain⟨l1,j6⟩:∃ l1:List Int,l1=if u<s then(List.replicate n 0).set 0 ((u:Int)+1) else List.replicate n 0:=⟨_,rfl⟩;have Ww:=aJ j6;have ZY:l1.length=n:=by rw [j6];split<;>simp
 have HLL:=aJ ZY;clear j6 ZY;have hc0:k3.world.cell? ⟨g,0,none⟩=some (.int .u64 0):=(NZ.out.cellAt 0 O_).trans (by rw [gA,uf,aY O_];rfl);have Xd:=NZ.out.frozenAt 0
 by_cases U8:u<s
 case' pos=>
  have U7:(u:Int)<(s:Int):=O_
  go_wp2_with fail;refine(xE u _ O_).mono ?_;rintro e wq ⟨rfl,rfl⟩
  go_upto_region 4 with fail;have e4:=ir (j:=0) NZ.out k3.ok (bZ _) (.int .u64 ((u:Int)+1));have Bv:=gG (j:=0) ((u:Int)+1) NZ.out;rw [show(List.replicate n (0:Int)).set 0 ((u:Int)+1)=l1 by rw [Ww.out,aY U8]] at Bv
 case' neg=>
  have U7:(s:Int)≤(u:Int):=O_
  go_upto_region 4 with fail;have e4:=k3.ok;have Bv:=NZ.out;rw [show List.replicate n (0:Int)=l1 by rw [Ww.out,aK U8]] at Bv
 all_goals
  obtain⟨k4,Bz⟩:=kB e4;rw [Bz] at Bv ⊢;have HO4:=aJ Bv;clear Bz e4 Bv hc0 Xd;go_wp2
  go_loopw [6] (fun s6 wr=>∃ (k:aL w0) (q i:Nat),wr=k.world∧s6=.int .i64 q∧q=u+i∧i≤s - 1 - u∧k.world.ownsRow w0.heap.size 38 1 (.slice (some ⟨g,0,none⟩) n n) n ((dK b u i l1).map (Value.int .u64))) (fun v _=>s - (intOf v).toNat)
  case atStart=>exact⟨k4,u,0,rfl,rfl,O_,O_,HO4.out⟩
  case round=>
   obtain⟨k,q,i,rfl,rfl,hq,hi,hown⟩:=hrel;have HO:=aJ hown;have HQ:=aJ hq
   by_cases hlt:i<s - 1 - u
   ·first
     | (exfalso;omega)
     | (obtain⟨j,hj⟩:∃ j:Nat,(b:Int)+(q:Int)=(j:Int):=⟨b+q,O_⟩
        have hjn:(j:Int)<(n:Int):=O_
        have hj0:j<n:=O_
        have pY:(q:Int)+1<(s:Int):=O_
        have hq2:q+1<s:=O_
        have HJ:Hid (j=b+(u+i)):=by show _=_;omega
        obtain⟨x,hx⟩:∃ x,(dK b u i l1)[j]?=some x:=⟨_,fy (by rw [gT,HLL.out];exact hj0)⟩;clear hq hown;go_wp2_with fail;refine un (Hb9.out _) fun wa ea=>?_
        rw [H2.out];have QY:=aJ (dB HO.out ea);obtain⟨ka,rfl⟩:=jD k ea;clear ea;have hcj:ka.world.cell? ⟨g,j,none⟩=some (.int .u64 x):=(QY.out.cellAt j O_).trans (by simp [hx]);have hfj:=QY.out.frozenAt j;clear hx;go_wp2_with fail;refine(gV _ _ O_ O_).mono ?_;rintro e wb ⟨rfl,rfl⟩;rw [show(q:Int)+1+1=(q:Int)+2 from O_];go_wp2_with fail;have e5:=ir (j:=j) QY.out ka.ok (bZ _) (.int .u64 ((q:Int)+2));have IK:=gG (j:=j) ((q:Int)+2) QY.out;obtain⟨k5,Az⟩:=kB e5;rw [Az] at IK ⊢;have HO5:=aJ IK;clear Az e5 IK hcj hfj
        go_roundw
        case rel=>exact⟨k5,q+1,i+1,rfl,by go_num,by have:=HQ.out;omega,O_,by rw [dK,←HJ.out,←HQ.out];exact HO5.out⟩
        case measure=>simp [intOf];omega)
   ·have hie:Hid (i=s - 1 - u):=by show _=_;omega
    have pY:(s:Int)≤(q:Int)+1:=O_
    have hq2:s≤q+1:=O_
    have hqb:(q:Int)≤100000:=O_
    have hq3:decide (q+1<s)=false:=by simp;omega
    obtain⟨l2,DH⟩:∃ l2,l2=dK b u i l1:=⟨_,rfl⟩;have Vh:l2.length=n:=by rw [DH,gT,HLL.out]
    obtain⟨x3,PW⟩:∃ x,l2[3]?=some x:=⟨_,fy O_⟩;obtain⟨x4,hx4⟩:∃ x,l2[4]?=some x:=⟨_,fy O_⟩;rw [←DH] at hown;have JC:=aJ hown;have J8:Hid (l2=dK b u (s - 1 - u) (if u<s then(List.replicate n 0).set 0 ((u:Int)+1) else List.replicate n 0)):=by show _=_;rw [DH,hie.out,←Ww.out]
    have hn3:(3:Int)<(n:Int):=O_
    have hn4:(4:Int)<(n:Int):=O_
    clear hq hown DH Vh
    by_cases U9:0<u
    ·have ZQ:(0:Int)<(u:Int):=O_
     have HF:Hid (cO n b s u=(l2.set 3 1).set 4 1):=by show _=_;rw [cO,aY U9,J8.out]
     go_wp2_with fail;refine un (Hb3.out _) fun wa ea=>?_
     rw [Hs3.out];have QY:=aJ (dB JC.out ea);obtain⟨ka,rfl⟩:=jD k ea;clear ea;have hc3:ka.world.cell? ⟨g,3,none⟩=some (.int .u64 x3):=(QY.out.cellAt 3 O_).trans (by simp [PW]);have hf3:=QY.out.frozenAt 3;go_wp2_with fail;refine(gV 0 _ O_ O_).mono ?_;rintro e wb ⟨rfl,rfl⟩;rw [show(0:Int)+1=1 from rfl]
     go_upto_region 10 with fail;have e5:=ir (j:=3) QY.out ka.ok (bZ _) (.int .u64 1);have IK:=gG (j:=3) 1 QY.out;obtain⟨k5,Az⟩:=kB e5;rw [Az] at IK ⊢;have HO5:=aJ IK;clear Az e5 IK hc3 hf3 PW;go_wp2_with fail;refine un (Hb4.out _) fun wc ec=>?_
     rw [Hs4.out];have HOc:=aJ (dB HO5.out ec);obtain⟨kc,rfl⟩:=jD k5 ec;clear ec;have hc4:kc.world.cell? ⟨g,4,none⟩=some (.int .u64 x4):=(HOc.out.cellAt 4 O_).trans (by rw [gA,oG O_,hx4];rfl);have hf4:=HOc.out.frozenAt 4;clear hx4;go_wp2_with fail;refine(gV 0 _ O_ O_).mono ?_;rintro e wb ⟨rfl,rfl⟩;rw [show(0:Int)+1=1 from rfl];go_wp2;go_ret;refine⟨g,rfl,?_,?_⟩
     ·rw [HF.out]
      exact ku (gG 1 HOc.out) HE.out.size
     ·exact Ext.next HE.out (ir HOc.out kc.ok (bZ _) _)
    ·first
      | (exfalso;omega)
      | (have ZQ:(u:Int)≤0:=O_
         clear PW hx4;have HF:Hid (cO n b s u=l2):=by show _=_;rw [cO,aK U9,J8.out]
         go_wp2;go_ret;refine⟨g,rfl,?_,Ext.next HE.out k.ok⟩;rw [HF.out];exact ku JC.out HE.out.size)
theorem tR(x:Int)(w:World)(h0:-1≤x)(h1:x≤9223372036854775806):cm 111 #[x,true] w (.int .u64 (x+1+4294967296)) fun w'=>w'=w:=by
 go_enter func111,ntmps111;exact iB
theorem CE(x:Int)(w:World)(h0:0≤x)(h1:x≤18446744073709551615):cm 150 #[.int .u64 x] w (.int .u64 (x / 4294967296)) fun w'=>w'=w:=by
 go_enter func150,ntmps150;exact iB
theorem Ah(t x:Int)(w:World)(ht:0≤t)(ht':t≤4294967296)(h0:-1≤x)(h1:x≤2147483647):cm 110 #[.int .u64 t,x] w (.int .u64 (t % 4294967296*4294967296+(x+1))) fun w'=>w'=w:=by
 go_enter func110,ntmps110;exact iB
section
variable{D:Dk}{c:Cf}{th:Nat}{ov:List (RT×Tv)}{m m':RM}{x x':RT}{v v':Tv}{vc vt vs:Value}{lv:List Value}{w0 w w':World}{F G:List En}{k:Nat}{y:Cl}
theorem aW.call(h:aW D c th ov m x v vc vt vs lv w0 w F)(hk:m.calls[k]?=some y):∃ g cp,vc=.slice (some ⟨g,0,none⟩) m.calls.length cp:=by
 obtain⟨g,cp,e,_⟩:=bf (Has.own h _ xd) (by have:=(fO.1 hk).1;omega);exact⟨g,cp,e⟩
variable{g cp:Nat}
theorem aW.cc(h:aW D c th ov m x v (.slice (some ⟨g,0,none⟩) m.calls.length cp) vt vs lv w0 w F)(hk:m.calls[k]?=some y){i:Nat}{u:Value}(hu:y.enc[i]?=some u):w.cell? ⟨g,k*9+i,none⟩=some u:=
 Has.ey (g:=g) (c:=cp) h xd (flat_get Cl.enc 9 (fun _=>rfl) hk hu)
theorem aW.cF(h:aW D c th ov m x v (.slice (some ⟨g,0,none⟩) m.calls.length cp) vt vs lv w0 w F)(i:Nat):w.frozen? ⟨g,i,none⟩=false:=Has.gL (g:=g) (c:=cp) h xd i
theorem aW.fU(h:aW D c th ov m x v (.slice (some ⟨g,0,none⟩) m.calls.length cp) vt vs lv w0 w F)(hk:m.calls[k]?=some y){f:Cl→Cl}{i:Nat}{u:Value}(he:(f y).enc=y.enc.set i u)(hi:i<9):
  aW D c th ov (m.cK k f) x v (.slice (some ⟨g,0,none⟩) (m.cK k f).calls.length cp) vt vs lv w0 (w.setCell ⟨g,k*9+i,none⟩ u) F:=by
 have h2:=Has.fD (A:= [_,_,_,_,_,_,_,_,_]) h (k*9+i) u;unfold aW DK;rw [show(m.cK k f).calls.length=m.calls.length from g8 _ _ _,show(m.cK k f).calls.flatMap Cl.enc=(m.calls.flatMap Cl.enc).set (k*9+i) u from iK Cl.enc 9 (fun _=>rfl) hk he hi];exact h2
theorem vF(h:aW D c th ov m x v vc vt vs lv w0 w F)(ht:th<ov.length){tt l:Nat}(hl:bz[tt]?=some l)(q:Bool):
  cm 151 #[some D.bD,.pointer (some ⟨D.gt,th*658,none⟩),q,tt] w (.tuple #[]) fun w'=>aW D c th ov m (x.jump q l) v vc vt vs lv w0 w' F:=by
 have p1:=(h.bd.1 9).trans (show _=some (kN D.gb bz.length D.cb) from rfl);have p2:=h.cI hl;have p3:=h.jQ (th*658+2);have p4:=h.tr ht (i:=2) rfl;have hto:=(fO.1 hl).1;have d1:decide ((tt:Int)<(bz.length:Int))=true:=cM O_;generalize bz.length=nl at p1 hto d1;have h2:=h.oI ht l;clear hl;go_enter func151,ntmps151
 cases q with
 | false=>
  clear h2;go_wp2_with fail;exact iP ⟨rfl,h⟩
 | true=>
  go_wp2_with fail;exact iP ⟨rfl,h2⟩
theorem aW.ju(h:aW D c th ov m x v vc vt vs lv w0 w F)(ht:th<ov.length){a:Nat}(ha:a<48){z z':Int}(e:z=z'):aW D c th ov m (x.set a z') v vc vt vs lv w0 (w.setCell ⟨D.gt,th*658+3+a,none⟩ (.int .u64 z)) F:=by
 subst e;exact h.Eb ht ha z
theorem aW.LM{l:Nat}{b b':Bool}(h:aW D c th ov m (x.jump b l) v vc vt vs lv w0 w F)(e:b=b'):aW D c th ov m (x.jump b' l) v vc vt vs lv w0 w F:=by
 subst e;exact h
end
end Go.Proofs.YtgbhnihkgmpocaaGreat
