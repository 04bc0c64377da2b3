/- Part 10 of 16 of the proof of PoolPlays. No condition. -/
import Derived.Test.YtgbhnihkgmpocaaGreatM08
namespace Go.Proofs.YtgbhnihkgmpocaaGreat
set_option maxRecDepth 100000
set_option maxHeartbeats 4000000
open Tryz
variable{P:Prop}
theorem yj(x:P:=by
 go_wp2_with fail;refine un dZ fun wz hw=>?_
 obtain rfl:=hw.symm;exact Dm):P:=x
theorem abR(x:P:=by
 rw [show(w1.alloc (.cells #[c.T,c.R,c.H,c.Re,c.Ca,c.S,c.B] 23)).heap.size=w1.heap.size+1 from S_] at n3;have p3:=n3.af bp;have q3:=n3.af aj;go_wp2_with fail;refine un (hx _) fun w4 e4=>?_
 have m4:=n3.next e4;have nB:=m4.af bp;have qm4:=m4.af aj;have n4:=m4.put 3 (.int .i64 (c.ad 7 (u64 key % c.B)));have p4:=n4.af bp;have q4:=n4.af aj;go_wp2_with fail;refine un (h12 _) fun w5 e5=>?_
 have m5:=n4.next e5;have pm5:=m5.af bp;have qm5:=m5.af aj;have n5:=m5.put 5 (.int .i64 (c.ad 12 0));have p5:=n5.af bp;have q5:=n5.af aj;go_wp2_with fail;refine un (Gk _) fun w6 e6=>?_
 have m6:=n5.next e6;have pm6:=m6.af bp;have qm6:=m6.af aj;go_wp2_with fail;go_ret;exact⟨_,[_],rfl,⟨_,_,_,rfl,rfl⟩,jE (jE (m6.put 6 _))⟩):P:=x
theorem sW(x:P:=by
 simp [aM,e4,e5,e6,e7,e8,e9,DC]
 cases P 1<;>rfl):P:=x
theorem abC(x:P:=by
 obtain⟨cv,lv,a,b,l,p,s,ah,q,h⟩:=h;intro i hi;have hz:(ss.zip S.told)[t]?=some (v,u):=by rw [JO];exact⟨hv,hu⟩
 obtain⟨x,hx⟩:∃ x,(dO (v,u))[i]?=some x:=⟨_,fy (by simpa [dO] using hi)⟩;rw [hx];exact h.ey (g:=K.gs) (c:=K.cs) tn (flat_get dO 5 (fun _=>rfl) hz hx)):P:=x
theorem JA(x:P:=by
 go_wp2_with fail;go_ret;exact⟨_,[_],rfl,rfl,jE m2⟩):P:=x
theorem Wj(x:P:=by
 rintro e w2 hm;obtain⟨k,L,rfl,h2,m2⟩:=hm;go_wp2_with fail;go_ret;exact⟨k,L,rfl,h2,(m2.perm dV).drop⟩):P:=x
theorem abg(x:P:=by
 clear jF h;go_enter func11,ntmps11;go_wp2_with fail;refine qE fun PS=>?_
 go_wp2_with fail;refine qZ PS fun PR=>?_
 go_wp2_with fail;go_ret;exact⟨rfl,(h2.iD PR).drop⟩):P:=x
theorem Dm(x:P:=by
 go_wp2_with fail;go_ret;exact⟨rfl,h1.drop⟩):P:=x
theorem S7(x:P:=by
 go_wp2_with fail;refine un hm fun w2 e2=>?_
 have h2:=h1.next e2;have Yl:=h2.at_ (i:=0) (mT hb) rfl;exact Nq):P:=x
theorem SP(x:P:=by
 exact MO (fun n=>m.may c t S.th arg n) gI lQ h12 qj k8 pI h23 uE tT jS qi Gj Gh Gg Gf Ge Gb F9 F8):P:=x
theorem Sm(x:P:=by
 obtain⟨cv,lv,a,b,l,p,s,ah,q,h⟩:=h;exact⟨s,fun i=>h.all iu i,fun i=>h.dW iu i⟩):P:=x
theorem Si(x:P:=by
 rw [aY rfl];exact⟨_,rfl,fun S1 ha hg hd hr=>⟨ha,O_,by rw [hg];exact hk,by rw [hg],by rw [hg],rfl⟩⟩):P:=x
theorem Sf(x:P:=by
 rw [aY rfl];exact⟨_,rfl,fun S1 ha hg hd hr=>⟨ha,by rw [hg],O_,by rw [hg];exact hk,rfl⟩⟩):P:=x
theorem Se(x:P:=by
 rw [aY rfl];exact⟨_,rfl,fun S1 ha hg hd hr=>⟨ha,by rw [hg],O_,rfl⟩⟩):P:=x
theorem Sd(x:P:=by
 unfold LU
 by_cases q:arg<0
 ·simp [q]
 ·simp [q,show c.H≤arg from O_]):P:=x
theorem R9(x:P:=by
 rw [aY rfl];exact⟨_,rfl,fun S1 ha hg hd hr=>⟨ha,rfl,O_,rfl⟩⟩):P:=x
theorem R7(x:P:=by
 obtain⟨cv,lv,a,b,l,p,s,ah,q,h⟩:=h;exact h.gL (g:=K.gs) (c:=K.cs) tn i):P:=x
open Go.RowKit
def mh(g c n:Nat):Value:=if n=0 then .slice none 0 0 else .slice (some ⟨g,0,none⟩) n c
theorem wB{g c n:Nat}(h:0<n):mh g c n=.slice (some ⟨g,0,none⟩) n c:=aK O_
def tB(K:Mk)(zz:Int×Int×Bool)(l a s:Value)(ah:List Int)(S:PM)(ss:List Sv):List En:=
 lX K.bW (.slice (some ⟨K.gw,0,none⟩) S.words.length K.cw) l a S.words S.log ah zz.2.1++
 [ob K.bM 106 [some K.bW,zz.1,zz.2.1,.pointer none,.pointer none,zz.2.2,s,K.mO,.slice (some ⟨K.gs,0,none⟩) ss.length K.cs,K.au,mh K.gc K.cc S.calls.length],.row s 125 5 S.aG.length (S.aG.flatMap Sh.enc),.row (mh K.gc K.cc S.calls.length) 119 9 S.calls.length (S.calls.flatMap Cl.enc),dA K.gs K.cs 114 5 ss.length ((ss.zip S.told).flatMap dO)]
def Et(K:Mk)(zz:Int×Int×Bool)(l a s:Value)(ah:List Int)(S:PM)(ss:List Sv):List En:=
 lX K.bW (.slice (some ⟨K.gw,0,none⟩) S.words.length K.cw) l a S.words S.log ah zz.2.1++
 [ob K.bM 106 [some K.bW,zz.1,zz.2.1,.pointer none,.pointer none,zz.2.2,s,K.mO,.slice (some ⟨K.gs,0,none⟩) ss.length K.cs,K.au,.slice (some ⟨K.gc,0,none⟩) S.calls.length K.cc],.row s 125 5 S.aG.length (S.aG.flatMap Sh.enc),dA K.gc K.cc 119 9 S.calls.length (S.calls.flatMap Cl.enc),dA K.gs K.cs 114 5 ss.length ((ss.zip S.told).flatMap dO)]
def QX(K:Mk)(zz:Int×Int×Bool)(S:PM)(ss:List Sv)(w0 w:World)(F:List En):Prop:=∃ l a s ah,ah.length=S.log.length∧Has w0 w (tB K zz l a s ah S ss++F)
def Idle(K:Ky)(zz:Int×Int×Bool)(c:Cf)(S:PM)(ss:List Sv)(w0 w:World)(F:List En):Prop:=
 ∃ cv lv,cv.length=S.aO.length∧lv.length=S.lists.length∧QX K.toMk zz S ss w0 w (dS K c cv lv S++F)
section
variable{K:Ky}{zz:Int×Int×Bool}{c:Cf}{S S':PM}{ss:List Sv}{w0 w w':World}{F G:List En}{d n b:Nat}{x y:En}{t:TypeId}{cs:List Value}
theorem Idle.old(h:Idle K zz c S ss w0 w F)(hc:0<S.calls.length):∃ (cv lv:List Value),cv.length=S.aO.length∧lv.length=S.lists.length∧∃ l a s ah,ah.length=S.log.length∧Has w0 w (Et K.toMk zz l a s ah S ss++(dS K c cv lv S++F)):=by
 obtain⟨cv,lv,a,b,l,p,s,ah,q,h⟩:=h;unfold tB at h;rw [wB hc] at h;exact⟨cv,lv,a,b,l,p,s,ah,q,h⟩
theorem Idle.Ro{cv lv:List Value}(hc:0<S.calls.length)(a:cv.length=S.aO.length)(b:lv.length=S.lists.length){l p s:Value}{ah:List Int}(q:ah.length=S.log.length)(h:Has w0 w (Et K.toMk zz l p s ah S ss++(dS K c cv lv S++F))):Idle K zz c S ss w0 w F:=by
 refine⟨cv,lv,a,b,l,p,s,ah,q,?_⟩;unfold tB;rw [wB hc];exact h
theorem QX.next{w':World}{K:Mk}(h:QX K zz S ss w0 w F)(e:Ext w w'):QX K zz S ss w0 w' F:=by
 obtain⟨l,a,s,ah,q,h⟩:=h;exact⟨l,a,s,ah,q,h.next e⟩
theorem Idle.next(h:Idle K zz c S ss w0 w F)(e:Ext w w'):Idle K zz c S ss w0 w' F:=by
 obtain⟨cv,lv,a,b,h⟩:=h;exact⟨cv,lv,a,b,h.next e⟩
theorem Idle.drew(h:Idle K zz c S ss w0 w F):Idle K zz c S ss w0 w.drew F:=h.next (bu w).bh
theorem Idle.iD(h:Idle K zz c S ss w0 w F)(z:aL w):Idle K zz c S ss w0 z.world F:=h.next z.ok
theorem Idle.rest(h:Idle K zz c S ss w0 w F)(f:∀ A,Has w0 w (A++F)→Has w0 w' (A++G)):Idle K zz c S ss w0 w' G:=SQ
theorem Idle.drop(h:Idle K zz c S ss w0 w (x::F)):Idle K zz c S ss w0 w F:=h.rest fun _ h=>h.mid.drop
theorem Idle.swap(h:Idle K zz c S ss w0 w (x::y::F)):Idle K zz c S ss w0 w (y::x::F):=h.rest fun _ h=>h.perm (ue _ (iC _ _ _))
theorem Idle.perm(h:Idle K zz c S ss w0 w F)(p:F.Perm G):Idle K zz c S ss w0 w G:=h.rest fun _ h=>h.perm (ue _ p)
theorem Idle.cell{b i:Nat}{t:TypeId}{cs:List Value}{u:Value}(h:Idle K zz c S ss w0 w F)(hm:ob b t cs∈F)(hu:cs[i]?=some u):∀ z:aL w,z.world.cell? ⟨b,i,none⟩=some u:=RS
theorem Idle.at_{b i:Nat}{t:TypeId}{cs:List Value}{u:Value}(h:Idle K zz c S ss w0 w F)(hm:ob b t cs∈F)(hu:cs[i]?=some u):w.cell? ⟨b,i,none⟩=some u:=h.cell hm hu ⟨w,bu w⟩
theorem Idle.dW{b:Nat}{t:TypeId}{cs:List Value}(h:Idle K zz c S ss w0 w F)(hm:ob b t cs∈F)(i:Nat):w.frozen? ⟨b,i,none⟩=false:=by
 obtain⟨cv,lv,a,b,l,p,s,ah,q,h⟩:=h;exact h.dW (bX (bX hm)) i
theorem Idle.put{b:Nat}{t:TypeId}{cs:List Value}(h:Idle K zz c S ss w0 w (ob b t cs::F))(i:Nat)(u:Value):Idle K zz c S ss w0 (w.setCell ⟨b,i,none⟩ u) (ob b t (cs.set i u)::F):=h.rest fun _ h=>h.fW i u
theorem Idle.alloc(h:Idle K zz c S ss w0 w F)(cs:Array Value)(t:TypeId):Idle K zz c S ss w0 (w.alloc (.cells cs t)) (ob w.heap.size t cs.toList::F):=h.rest fun _ h=>(h.alloc cs t).back
theorem Idle.ar(h:Idle K zz c S ss w0 w F):∃ cv:List Value,cv.length=S.aO.length∧(∀ z:aL w,z.world.cell? ⟨K.bA,0,none⟩=some (.int .i64 c.T)∧z.world.cell? ⟨K.bA,1,none⟩=some (.int .i64 c.R)∧z.world.cell? ⟨K.bA,2,none⟩=some (.int .i64 c.H)∧z.world.cell? ⟨K.bA,3,none⟩=some (.int .i64 c.Re)∧z.world.cell? ⟨K.bA,4,none⟩=some (.int .i64 c.Ca)∧z.world.cell? ⟨K.bA,5,none⟩=some (.int .i64 c.S)∧z.world.cell? ⟨K.bA,6,none⟩=some (.int .i64 c.B)∧
  z.world.cell? ⟨K.bA,7,none⟩=some (.slice (some ⟨K.gl,0,none⟩) S.slots.length K.cl)∧z.world.cell? ⟨K.bA,8,none⟩=some (.slice (some ⟨K.ga,0,none⟩) cv.length K.ca)):=abt
theorem zx(h:Idle K zz c S ss w0 w F)(s:Int)(h0:0≤s)(h1:s<S.slots.length):cm 127 #[some K.bA,s] w true fun w'=>w'=w:=abo
theorem AR(h:Idle K zz c S ss w0 w F)(t:Int)(h0:0≤t)(h1:t<S.aO.length):cm 128 #[some K.bA,t] w true fun w'=>w'=w:=abp
theorem Idle.hz(h:Idle K zz c S ss w0 w F):∀ z:aL w,z.world.cell? ⟨K.bH,0,none⟩=some (some K.bA)∧z.world.cell? ⟨K.bH,1,none⟩=some (.int .i64 c.T)∧z.world.cell? ⟨K.bH,2,none⟩=some (.int .i64 c.R)∧z.world.cell? ⟨K.bH,3,none⟩=some (.int .i64 c.H)∧z.world.cell? ⟨K.bH,4,none⟩=some (.int .i64 c.Re)∧
  z.world.cell? ⟨K.bH,6,none⟩=some (.int .i64 c.S)∧z.world.cell? ⟨K.bH,8,none⟩=some (.slice (some ⟨K.gh,0,none⟩) S.held.length K.ch)∧z.world.cell? ⟨K.bH,9,none⟩=some (.slice (some ⟨K.gi,0,none⟩) S.lists.length K.ci)∧
  z.world.cell? ⟨K.bH,10,none⟩=some (.int .i64 (c.ad 8 0))∧z.world.cell? ⟨K.bH,11,none⟩=some (.int .i64 (c.ad 9 0))∧z.world.cell? ⟨K.bH,12,none⟩=some (.int .i64 (c.ad 2 0))∧z.world.cell? ⟨K.bH,13,none⟩=some (.int .i64 (c.ad 11 0)):=abD
theorem Idle.ZZ(h:Idle K zz c S ss w0 w F){t:Nat}{r:Int}(hr:S.held[t]?=some r):∀ z:aL w,z.world.cell? ⟨K.gh,t,none⟩=some (.int .i64 r):=SS
theorem bJ(h:Idle K zz c S ss w0 w F)(ht:S.th<S.held.length):
  cm 77 #[some K.bH,S.th] w S.rc fun w'=>w'=w:=abv
theorem kQ(h:Idle K zz c S ss w0 w F):
  cm 86 #[some K.bH] w (some K.bA) fun w'=>w'=w:=SJ
theorem kG(h:Idle K zz c S ss w0 w F){cs':List Cl}{cu:Nat}{nw:Int}(I:Inv c S.th {S with calls:=cs',cur:=cu,now:=nw})(k:Int):
  cm 82 #[some K.bH,S.th,k] w (.int .i64 (LU c S k)) fun w'=>Ext w w':=by
 have hI:=I.bd;have Bu:=lK I;have hb:-1≤S.rc∧S.rc<c.R:=I.JU;have Xb:(S.held.length:Int)=c.T:=I.he;have htt:=I.tK;have dZ:=bJ h O_;exact abY
theorem afw(h:Idle K zz c S ss w0 w F){cs':List Cl}{cu:Nat}{nw:Int}(I:Inv c S.th {S with calls:=cs',cur:=cu,now:=nw})(k:Int)(hr:0≤S.rc)(h0:0≤k)(h1:k<c.H):
  cm 82 #[some K.bH,S.th,k] w (.int .i64 (S.hz c k)) fun w'=>Ext w w':=by
 have:=kG h I k;exact RU
theorem sj(h:Idle K zz c S ss w0 w F)(t:Int)(hs:0<S.slots.length):Calls prog 69 #[some K.bA,t] w fun e w'=>∃ k,e=.returned (some k)∧w.heap.size≤k∧Idle K zz c S ss w0 w' (gr K k t .new::F):=abN
theorem IX(h:Idle K zz c S ss w0 w F)(t s:Int)(h0:0≤s)(h1:s<S.slots.length)(ht:0≤t)(iV:t<S.aO.length):
  Calls prog 72 #[some K.bA,t,s] w fun e w'=>∃ k,e=.returned (some k)∧w.heap.size≤k∧Idle K zz c S ss w0 w' (nC K k 267 t (.aU s)::F):=by
 have h2:=h.alloc #[some K.bA,s,.int .i64 1,.int .u64 0,t] 267;have ha:=zx h2 s h0 h1;have hb:=AR h2 t ht iV;exact Tg
theorem EE(h:Idle K zz c S ss w0 w F)(t:Int):
  Calls prog 74 #[some K.bA,t] w fun e w'=>∃ k,e=.returned (some k)∧w.heap.size≤k∧Idle K zz c S ss w0 w' (nC K k 268 t ⟨0,0,0⟩::F):=SN
theorem HU(h:Idle K zz c S ss w0 w F)(ht:S.th<S.held.length):
  Calls prog 85 #[some K.bH,S.th] w fun e w'=>∃ k,e=.returned (some k)∧w.heap.size≤k∧Idle K zz c S ss w0 w' (mY K k S.th (.new S.rc)::F):=by
 have h2:=h.alloc #[some K.bH,S.th,S.rc,.int .i64 6,.int .i64 0,.map none,.slice none 0 0,.pointer none] 271;have dZ:=bJ h ht;exact SK
theorem Idle.all(h:Idle K zz c S ss w0 w F)(hm:ob b t cs∈F):∀ i,w.cell? ⟨b,i,none⟩=cs[i]?:=by
 obtain⟨cv,lv,a,b,l,p,s,ah,q,h⟩:=h;exact h.all (bX (bX hm))
theorem Idle.hzA(h:Idle K zz c S ss w0 w F):∀ i,w.cell? ⟨K.bH,i,none⟩=(eE K c S)[i]?:=by
 obtain⟨cv,lv,a,b,l,p,s,ah,q,h⟩:=h;have e:DF K c S S.lists.length∈tB K.toMk zz l p s ah S ss++(dS K c cv lv S++F):=by rw [←b];exact lB
 exact h.all e
theorem Idle.arA(h:Idle K zz c S ss w0 w F):∀ i,w.cell? ⟨K.bA,i,none⟩=(arL K c S)[i]?:=by
 obtain⟨cv,lv,a,b,l,p,s,ah,q,h⟩:=h;have e:E7 K c S S.aO.length∈tB K.toMk zz l p s ah S ss++(dS K c cv lv S++F):=by rw [←a];exact lO
 exact h.all e
theorem Idle.af(h:Idle K zz c S ss w0 w F)(hm:ob b t cs∈F):AF b cs w:=⟨h.all hm,h.dW hm⟩
theorem rz(h:Idle K zz c S ss w0 w F):cm 65 #[some K.bA] w (fI c) fun w'=>Ext w w':=Te
theorem I4{root key:Int}(h:Idle K zz c S ss w0 w F)(ok:bY c.T c.R c.H c.Re c.Ca c.S c.B)(len:(S.words.length:Int)=b7 c.R c.H c.S c.B 13)(ghl:S.th<S.held.length)(hr:0≤S.rc)(ha:0≤root∧root<S.words.length):
  Calls prog 129 #[some K.bH,S.th,root,key] w fun e w'=>∃ k,e=.returned (some k)∧w.heap.size≤k∧Idle K zz c S ss w0 w' (dG K k S.th (.pointer none) (.new root key)::F):=by
 have h1:=h.alloc #[some K.bH,S.th,root,key,.int .i64 1,.int .i64 0,.int .u64 0,.int .i64 0,.int .u64 0,.int .i64 0,.int .i64 0,.pointer none,false,.int .i64 0,false] 276;have hl:=len;have IP:=ghl;have d1:decide (root<0)=false:=dy O_;have d2:decide (b7 c.R c.H c.S c.B 13≤root)=false:=dy O_;have d3:decide (S.rc<0)=false:=dy O_;have hsz:=fun W=>Rf ok W
 go_in;go_wp2_with fail;refine un (kQ h1) fun wz hw=>?_
 obtain rfl:=hw.symm;go_wp2_with fail;refine un (rz h1) fun w2 e2=>?_
 have h2:=h1.next e2;go_wp2_with fail;refine un (hsz _) fun w3 e3=>?_
 have h3:=h2.next e3;have p3:=h3.af aj;go_wp2_with fail;refine un (bJ h3 IP) fun wz hw=>?_
 exact Sa
end
section
variable{K:Ky}{zz:Int×Int×Bool}{c:Cf}{S S':PM}{ss:List Sv}{w0 w w':World}{F G:List En}{d n b kb kb2:Nat}{x y:En}{t:TypeId}{cs:List Value}{m0 op arg dat:Int}
@[reducible] def gB(m0 op arg dat:Int):Value:=.agg #[m0,op,arg,dat]
def Made(K:Ky)(zz:Int×Int×Bool)(c:Cf)(S:PM)(ss:List Sv)(w0:World)(F:List En)(q:Option Tq):Ending→World→Prop:=fun e w'=>
 match q with
 | none=>e=.returned .nilIface∧Idle K zz c S ss w0 w' F
 | some q=>∃ k L,e=.returned (.iface q.ty (some k))∧Ol K c S.th k q L∧Idle K zz c S ss w0 w' (L++F)
theorem jE{a:En}(h:Idle K zz c S ss w0 w (a::x::F)):Idle K zz c S ss w0 w (a::F):=(h.perm (iC _ _ _)).drop
theorem qR{a b:En}(h:Idle K zz c S ss w0 w (a::b::x::F)):Idle K zz c S ss w0 w (a::b::F):=(h.perm (fE (L:= [_])).symm).drop
theorem Idle.sl2(h:Idle K zz c S ss w0 w F){s:Nat}{u:Int×Int}(hu:S.slots[s]?=some u):∀ z:aL w,z.world.cell? ⟨K.gl,s*2,none⟩=some (.int .i64 u.1)∧z.world.cell? ⟨K.gl,s*2+1,none⟩=some (.int .i64 u.2):=by
 obtain⟨cv,lv,a,b,l,p,s',ah,q,h⟩:=h;intro z;have h:=h.iD z;have e0:=h.ey (i:=s*2) (u:=.int .i64 u.1) (g:=K.gl) (c:=K.cl) xd (flat_get (k:=0) fm 2 (fun _=>rfl) hu rfl);have e1:=h.ey (i:=s*2+1) (u:=.int .i64 u.2) (g:=K.gl) (c:=K.cl) xd (flat_get (k:=1) fm 2 (fun _=>rfl) hu rfl);exact⟨e0,e1⟩
theorem BP(h:Idle K zz c S ss w0 w F){s:Nat}{u:Int×Int}(hu:S.slots[s]?=some u):
  cm 71 #[some K.bA,s] w (.tuple #[u.1,u.2,.int .i64 0]) fun w'=>Ext w w':=by
 have hs:=(fO.1 hu).1;have ha:=zx h (s:Int) O_ O_;have c7:=h.arA 7;have hl:=h.sl2 hu ⟨w,bu w⟩;simp only at hl;obtain⟨c0,c1⟩:=hl;have Z8:decide ((s:Int)<(S.slots.length:Int))=true:=by simp;omega
 clear h hu;obtain⟨u1,u2⟩:=u;go_enter func71,ntmps71;go_wp2_with fail;refine un ha fun wz hw=>?_
 obtain rfl:=hw.symm;go_wp2
 go_region_held3 (fun w'=>w'.cell? ⟨K.bA,7,none⟩=some (.slice (some ⟨K.gl,0,none⟩) S.slots.length K.cl)∧w'.cell? ⟨K.gl,s*2,none⟩=some (.int .i64 u1)∧w'.cell? ⟨K.gl,s*2+1,none⟩=some (.int .i64 u2)) (first | exact⟨c7,c0,c1⟩) (fail)
 go_wp2
 go_ret3;exact⟨rfl,(bu _).bh⟩
theorem Ho(h:Idle K zz c S ss w0 w F){s:Int}(hs:¬(0≤s∧s<S.slots.length)):
  cm 71 #[some K.bA,s] w (.tuple #[.int .i64 0,.int .i64 0,.int .i64 2]) fun w'=>w'=w:=by
 have ha:cm 127 #[some K.bA,s] w false fun w'=>w'=w:=by
  have c7:=h.arA 7
  by_cases h0:0≤s
  case' pos=>have d0:=cM h0;have d1:decide (s<(S.slots.length:Int))=false:=dy O_
  case' neg=>have d0:=dy h0
  all_goals
   clear h hs h0;go_enter func127,ntmps127;go_wp2;go_ret;exact⟨rfl,rfl⟩
 clear h hs;go_enter func71,ntmps71;go_wp2_with fail;refine un ha fun wz hw=>?_
 obtain rfl:=hw.symm;go_wp2
 go_ret3;exact⟨rfl,rfl⟩
theorem Zm(h:Idle K zz c S ss w0 w F)(hb:ob kb 82 [some K.bA]∈F)(hs:0<S.slots.length):
  Calls prog 68 #[S.th,gB m0 op arg dat,some kb] w (Made K zz c S ss w0 F (some (.take .new))):=by
 have h1:=h.alloc #[m0,op,arg,dat] 36;have pb:=h1.at_ (i:=0) (mT hb) rfl;have pm:=h1.af aj;go_in;go_wp2_with fail;refine(sj h1 _ hs).mono ?_;rintro e w1 ⟨kt,rfl,_,m1⟩;have m2:=m1.alloc #[some kt] 164;go_wp2;go_ret;exact⟨_,[_,_],rfl,⟨_,rfl⟩,qR m2.swap⟩
theorem U4(h:Idle K zz c S ss w0 w F)(hb:ob kb 82 [some K.bA]∈F):
  Calls prog 73 #[S.th,gB m0 op arg dat,some kb] w (Made K zz c S ss w0 F (some (.flush ⟨0,0,0⟩))):=by
 have h1:=h.alloc #[m0,op,arg,dat] 36;have pb:=h1.at_ (i:=0) (mT hb) rfl;have pm:=h1.af aj;go_in;go_wp2_with fail;refine(EE h1 _).mono ?_;rintro e w1 ⟨kt,rfl,_,m1⟩;go_wp2;go_ret;exact⟨_,[_],rfl,rfl,jE m1⟩
theorem U2(h:Idle K zz c S ss w0 w F)(hb:ob kb 82 [some K.bA]∈F)(hs:¬(0≤arg∧arg<S.slots.length)):
  Calls prog 70 #[S.th,gB m0 op arg dat,some kb] w (Made K zz c S ss w0 F (none)):=by
 have h1:=h.alloc #[m0,op,arg,dat] 36;have pb:=h1.at_ (i:=0) (mT hb) rfl;have pm:=h1.af aj;go_in;go_wp2_with fail;refine un (Ho h1 hs) fun wz hw=>?_
 obtain rfl:=hw.symm;have h2:=h1;have Yl:=h2.at_ (i:=0) (mT hb) rfl;have dN:=h2.af aj;exact Dm
theorem U3(h:Idle K zz c S ss w0 w F)(hb:ob kb 82 [some K.bA]∈F){s:Nat}{u:Int×Int}(hu:S.slots[s]?=some u)(ha:arg=s)(hn:u≠(2,(S.th:Int))):
  Calls prog 70 #[S.th,gB m0 op arg dat,some kb] w (Made K zz c S ss w0 F (none)):=by
 have h1:=h.alloc #[m0,op,arg,dat] 36;have pb:=h1.at_ (i:=0) (mT hb) rfl;have pm:=h1.af aj;subst ha;obtain⟨u1,u2⟩:=u
 have hq:(u1 !=2)=true∨((u1 !=2)=false∧(u2 !=(S.th:Int))=true):=by
  by_cases q:u1=2
  ·refine .inr ⟨by simp [q],?_⟩
   have:u2≠(S.th:Int):=fun r=>hn (by rw [q,r])
   simp [this]
  ·exact .inl (by simp [q])
 clear hn
 rcases hq with q1 | ⟨q1,q2⟩
 all_goals
  go_in;go_wp2_with fail;refine un (BP h1 hu) fun w1 e1=>?_
  have h2:=h1.next e1;have Yl:=h2.at_ (i:=0) (mT hb) rfl;have dN:=h2.af aj;go_wp2;go_ret;exact⟨rfl,h2.drop⟩
theorem U1(h:Idle K zz c S ss w0 w F)(hb:ob kb 82 [some K.bA]∈F){s:Nat}(hu:S.slots[s]?=some (2,(S.th:Int)))(ha:arg=s)(ht:S.th<S.aO.length):
  Calls prog 70 #[S.th,gB m0 op arg dat,some kb] w (Made K zz c S ss w0 F (some (.aU (.aU arg)))):=by
 have h1:=h.alloc #[m0,op,arg,dat] 36;have pb:=h1.at_ (i:=0) (mT hb) rfl;have pm:=h1.af aj;subst ha;have hs:=(fO.1 hu).1;go_in;go_wp2_with fail;refine un (BP h1 hu) fun w1 e1=>?_
 have h2:=h1.next e1;have Yl:=h2.at_ (i:=0) (mT hb) rfl;have dN:=h2.af aj;go_wp2_with fail;refine(IX h2 _ _ O_ O_ O_ O_).mono ?_;rintro e w3 ⟨kt,rfl,_,m3⟩;go_wp2;go_ret;exact⟨_,[_],rfl,rfl,jE m3⟩
end
section
variable{K:Ky}{zz:Int×Int×Bool}{c:Cf}{S S':PM}{ss:List Sv}{w0 w w':World}{F G:List En}{d n b kb kf:Nat}{x y:En}{t:TypeId}{m0 op arg dat nw:Int}{cs:List Cl}{cu:Nat}
theorem Made.drop{q:Option Tq}{e:Ending}(h:Made K zz c S ss w0 (x::F) q e w):Made K zz c S ss w0 F q e w:=by
 cases q with
 | none=>exact⟨h.1,h.2.drop⟩
 | some q=>
  obtain⟨k,L,h1,h2,h3⟩:=h;exact⟨k,L,h1,h2,(h3.perm dV).drop⟩
theorem Zr(h:Idle K zz c S ss w0 w F)(hb:ob kb 85 [some K.bH]∈F)(ht:S.th<S.held.length)(hr:0≤S.rc):
  Calls prog 78 #[S.th,gB m0 op arg dat,some kb] w (Made K zz c S ss w0 F (none)):=by
 have h1:=h.alloc #[m0,op,arg,dat] 36;have pb:=h1.at_ (i:=0) (mT hb) rfl;have pm:=h1.af aj;have z:=h1.hzA 8;have zh:=h1.ZZ (FH ht rfl) ⟨_,bu _⟩;simp only at zh;have d0:decide ((S.th:Int)<0)=false:=dy O_;have d1:decide ((S.held.length:Int)≤(S.th:Int))=false:=by simp;omega
 have d2:decide ((S.th:Int)<(S.held.length:Int))=true:=by simp;omega
 have dr:=cM hr;go_in;exact Dm
theorem Zq(h:Idle K zz c S ss w0 w F)(hb:ob kb 85 [some K.bH]∈F)(ht:S.th<S.held.length)(hr:¬0≤S.rc):
  Calls prog 78 #[S.th,gB m0 op arg dat,some kb] w (Made K zz c S ss w0 F (some (.gm ⟨0,false⟩))):=by
 have h1:=h.alloc #[m0,op,arg,dat] 36;have pb:=h1.at_ (i:=0) (mT hb) rfl;have pm:=h1.af aj;have z:=h1.hzA 8;have zh:=h1.ZZ (FH ht rfl) ⟨_,bu _⟩;simp only at zh;have d0:decide ((S.th:Int)<0)=false:=dy O_;have d1:decide ((S.held.length:Int)≤(S.th:Int))=false:=by simp;omega
 have d2:decide ((S.th:Int)<(S.held.length:Int))=true:=by simp;omega
 have dr:=dy hr;have m2:=h1.alloc #[some K.bH,S.th,.int .i64 0,false] 175;rw [show(w.alloc (.cells #[m0,op,arg,dat] 36)).heap.size=w.heap.size+1 from S_] at m2;go_in;exact JA
theorem aeS(h:Idle K zz c S ss w0 w F)(hb:ob kb 85 [some K.bH]∈F):
  Calls prog 79 #[S.th,gB m0 op arg dat,some kb] w (Made K zz c S ss w0 F (some (.unreg ⟨0,0,none,none⟩))):=by
 have h1:=h.alloc #[m0,op,arg,dat] 36;have pb:=h1.at_ (i:=0) (mT hb) rfl;have pm:=h1.af aj;have m2:=h1.alloc #[some K.bH,S.th,.int .i64 0,.int .i64 0,.pointer none,.pointer none] 179;rw [show(w.alloc (.cells #[m0,op,arg,dat] 36)).heap.size=w.heap.size+1 from S_] at m2;go_in;go_wp2;go_ret;exact⟨_,[_],rfl,.inl ⟨rfl,rfl⟩,jE m2⟩
theorem Zs(h:Idle K zz c S ss w0 w F)(hb:ob kb 85 [some K.bH]∈F):
  Calls prog 80 #[S.th,gB m0 op arg dat,some kb] w (Made K zz c S ss w0 F (some (.post ⟨arg,0,.new,0,0,none⟩))):=by
 have h1:=h.alloc #[m0,op,arg,dat] 36;have pb:=h1.at_ (i:=0) (mT hb) rfl;have pm:=h1.af aj;have m2:=h1.alloc #[some K.bH,S.th,arg,.int .i64 0,.pointer none,.int .u64 0,.int .u64 0,.pointer none] 183;rw [show(w.alloc (.cells #[m0,op,arg,dat] 36)).heap.size=w.heap.size+1 from S_] at m2;go_in;exact JA
theorem UD(h:Idle K zz c S ss w0 w F)(hb:ob kb 85 [some K.bH]∈F)(I:Inv c S.th {S with calls:=cs,cur:=cu,now:=nw})(_:0≤S.rc)(ha:¬(0≤arg∧arg<c.H)):
  Calls prog 81 #[S.th,gB m0 op arg dat,some kb] w (Made K zz c S ss w0 F (none)):=by
 have h1:=h.alloc #[m0,op,arg,dat] 36;have pb:=h1.at_ (i:=0) (mT hb) rfl;have pm:=h1.af aj;have hm:=kG h1 I arg;have e:LU c S arg=-1:=Sd;rw [e] at hm;clear e;go_in;exact S7
theorem UC(h:Idle K zz c S ss w0 w F)(hb:ob kb 85 [some K.bH]∈F)(I:Inv c S.th {S with calls:=cs,cur:=cu,now:=nw})(hr:0≤S.rc)(ha:0≤arg∧arg<c.H)(hz:0≤S.hz c arg):
  Calls prog 81 #[S.th,gB m0 op arg dat,some kb] w (Made K zz c S ss w0 F (some (.read ⟨S.hz c arg,0,0,0⟩))):=by
 have h1:=h.alloc #[m0,op,arg,dat] 36;have pb:=h1.at_ (i:=0) (mT hb) rfl;have pm:=h1.af aj;have hm:=kG h1 I arg
 have e:LU c S arg=S.hz c arg:=by
  unfold LU;rw [aK O_,aK O_,aK O_]
 rw [e] at hm;clear e;have dz:=cM hz;go_in;go_wp2_with fail;refine un hm fun w2 e2=>?_
 have h2:=h1.next e2;have Yl:=h2.at_ (i:=0) (mT hb) rfl;have m2:=h2.alloc #[some K.bH,.int .i64 (S.hz c arg),.int .i64 0,.int .u64 0,.int .i64 0] 187;exact JA
theorem PU(h:Idle K zz c S ss w0 w F)(hb:ob kb 85 [some K.bH]∈F)(I:Inv c S.th {S with calls:=cs,cur:=cu,now:=nw})(_:0≤S.rc)(ha:¬(0≤arg∧arg<c.H)):
  Calls prog 83 #[S.th,gB m0 op arg dat,some kb] w (Made K zz c S ss w0 F (none)):=by
 have h1:=h.alloc #[m0,op,arg,dat] 36;have pb:=h1.at_ (i:=0) (mT hb) rfl;have pm:=h1.af aj;have hm:=kG h1 I arg;have e:LU c S arg=-1:=Sd;rw [e] at hm;clear e;go_in;exact S7
theorem PT(h:Idle K zz c S ss w0 w F)(hb:ob kb 85 [some K.bH]∈F)(I:Inv c S.th {S with calls:=cs,cur:=cu,now:=nw})(hr:0≤S.rc)(ha:0≤arg∧arg<c.H)(hz:0≤S.hz c arg):
  Calls prog 83 #[S.th,gB m0 op arg dat,some kb] w (Made K zz c S ss w0 F (some (.clear (S.hz c arg)))):=by
 have h1:=h.alloc #[m0,op,arg,dat] 36;have pb:=h1.at_ (i:=0) (mT hb) rfl;have pm:=h1.af aj;have hm:=kG h1 I arg
 have e:LU c S arg=S.hz c arg:=by
  unfold LU;rw [aK O_,aK O_,aK O_]
 rw [e] at hm;clear e;have dz:=cM hz;go_in;go_wp2_with fail;refine un hm fun w2 e2=>?_
 have h2:=h1.next e2;have Yl:=h2.at_ (i:=0) (mT hb) rfl;have m2:=h2.alloc #[.int .i64 (S.hz c arg)] 190;exact JA
theorem Zn(h:Idle K zz c S ss w0 w F)(hb:ob kb 85 [some K.bH]∈F)(ht:S.th<S.held.length):
  Calls prog 84 #[S.th,gB m0 op arg dat,some kb] w (Made K zz c S ss w0 F (some (.scan (.new S.rc)))):=by
 have h1:=h.alloc #[m0,op,arg,dat] 36;have pb:=h1.at_ (i:=0) (mT hb) rfl;have pm:=h1.af aj;go_in;go_wp2_with fail;refine(HU h1 ht).mono ?_;rintro e w2 ⟨ks,rfl,_,m2⟩;exact JA
theorem BD{f:FuncId}{t1:TypeId}(h:Idle K zz c S ss w0 w F)(hb:ob kb 85 [some K.bH]∈F)(hf:ob kf t1 [.func (.func f) #[] #[some kb]]∈F)(ht:S.th<S.held.length)(hr:¬0≤S.rc):
  Calls prog 76 #[S.th,gB m0 op arg dat,some kb,some kf] w (Made K zz c S ss w0 F (none)):=by
 have h1:=h.alloc #[m0,op,arg,dat] 36;have pb:=h1.at_ (i:=0) (mT hb) rfl;have pf:=h1.at_ (i:=0) (mT hf) rfl;have pm:=h1.af aj;have dr:decide (S.rc<0)=true:=cM O_;go_in;go_wp2_with fail;refine un (bJ h1 ht) fun wz hw=>?_
 obtain rfl:=hw.symm;exact Dm
theorem BC{f:FuncId}{t1:TypeId}(h:Idle K zz c S ss w0 w F)(hb:ob kb 85 [some K.bH]∈F)(hf:ob kf t1 [.func (.func f) #[] #[some kb]]∈F)(ht:S.th<S.held.length)(hr:0≤S.rc){q:Option Tq}(hc:∀ (args:Array Value) (w:World),(callFunc f args).run prog w=.ok (.enter f args) w)(hI:∀ (W:World) (x:En),Idle K zz c S ss w0 W (x::F)→Calls prog f #[S.th,gB m0 op arg dat,some kb] W (Made K zz c S ss w0 (x::F) q)):
  Calls prog 76 #[S.th,gB m0 op arg dat,some kb,some kf] w (Made K zz c S ss w0 F (q)):=by
 have h1:=h.alloc #[m0,op,arg,dat] 36;have pb:=h1.at_ (i:=0) (mT hb) rfl;have pf:=h1.at_ (i:=0) (mT hf) rfl;have pm:=h1.af aj;have dr:decide (S.rc<0)=false:=dy O_;go_in;go_wp2_with fail;refine un (bJ h1 ht) fun wz hw=>?_
 obtain rfl:=hw.symm;go_wp2_with fail;refine(hI _ _ h1).mono ?_;rintro e w2 hm
 cases q with
 | none=>
  obtain⟨rfl,m2⟩:=hm;go_wp2;go_ret;exact⟨rfl,m2.drop⟩
 | some q=>
  obtain⟨k,L,rfl,h2,m2⟩:=hm;go_wp2;go_ret;exact⟨k,L,rfl,h2,(m2.perm dV).drop⟩
end
@[go_sem] theorem JT{P:Program}(w:World)(a:Addr)(m:Mode):(store a .nilFunc m).run P w=stored P w a .nilFunc m:=run_store P w a _ m rfl
section
variable{K:Ky}{zz:Int×Int×Bool}{c:Cf}{S S':PM}{ss:List Sv}{w0 w w':World}{F G:List En}{d n b kb kf ka:Nat}{x y:En}{t:TypeId}{m0 op arg dat nw:Int}{cs:List Cl}{cu:Nat}
theorem zR{th:Int}(h:Idle K zz c S ss w0 w F)(hb:ob kb 85 [some K.bH]∈F)(ha:ob ka 82 [some K.bA]∈F):
  cm 87 #[th,some kb,some ka] w (.agg #[some K.bH,some K.bA,th,.nilFunc]) fun w'=>Ext w w':=by
 have e:=(bu w).aE (.cells #[.pointer none,.pointer none,.int .i64 0,.nilFunc] 195);have pb:=(h.next e).at_ (i:=0) hb rfl;have pa:=(h.next e).at_ (i:=0) ha rfl;clear h;go_enter func87,ntmps87;go_wp2_with fail;refine DL (Fh rfl _ _ w.heap.size 195 _ (0,0) _ rfl (yo _ _) underlying195 rfl K_) rfl ⟨rfl,(bu w).aE _⟩
theorem Zu(h:Idle K zz c S ss w0 w F)(hb:ob kb 85 [some K.bH]∈F)(hf:ob kf 196 [.func (.func 87) #[] #[some kb,some ka]]∈F)(ht:S.th<S.held.length)(hr:¬0≤S.rc):
  Calls prog 89 #[S.th,gB m0 op arg dat,some kb,some kf] w (Made K zz c S ss w0 F (none)):=by
 have h1:=h.alloc #[m0,op,arg,dat] 36;have pb:=h1.at_ (i:=0) (mT hb) rfl;have pf:=h1.at_ (i:=0) (mT hf) rfl;have pm:=h1.af aj;have dZ:=bJ h1 ht;have dr:decide (S.rc<0)=true:=cM O_;go_in;exact yj
theorem Zt(h:Idle K zz c S ss w0 w F)(hb:ob kb 85 [some K.bH]∈F)(hf:ob kf 196 [.func (.func 87) #[] #[some kb,some ka]]∈F)(ha:ob ka 82 [some K.bA]∈F)(ht:S.th<S.held.length)(hr:0≤S.rc):
  Calls prog 89 #[S.th,gB m0 op arg dat,some kb,some kf] w (Made K zz c S ss w0 F (some (.pop ⟨0,0,0,false,none,0⟩))):=by
 have h1:=h.alloc #[m0,op,arg,dat] 36;have pb:=h1.at_ (i:=0) (mT hb) rfl;have pf:=h1.at_ (i:=0) (mT hf) rfl;have pm:=h1.af aj;have dZ:=bJ h1 ht;have dr:decide (S.rc<0)=false:=dy O_;go_in;go_wp2_with fail;refine un dZ fun wz hw=>?_
 obtain rfl:=hw.symm;go_wp2_with fail;refine un (zR h1 (mT hb) (mT ha)) fun w2 e2=>?_
 have h2:=h1.next e2;have m3:=h2.alloc #[some K.bH,some K.bA,S.th,.nilFunc,.int .u64 0,.int .u64 0,.int .i64 0,false,.pointer none] 202;go_wp2;go_ret;exact⟨_,[_],rfl,rfl,jE m3⟩
theorem UF(h:Idle K zz c S ss w0 w F)(hb:ob kb 85 [some K.bH]∈F)(hf:ob kf 196 [.func (.func 87) #[] #[some kb,some ka]]∈F)(ht:S.th<S.held.length)(hr:¬0≤S.rc):
  Calls prog 88 #[S.th,gB m0 op arg dat,some kb,some kf,some ka] w (Made K zz c S ss w0 F (none)):=by
 have h1:=h.alloc #[m0,op,arg,dat] 36;have pb:=h1.at_ (i:=0) (mT hb) rfl;have pf:=h1.at_ (i:=0) (mT hf) rfl;have pm:=h1.af aj;have dZ:=bJ h1 ht;have dr:decide (S.rc<0)=true:=cM O_;go_in;exact yj
theorem UE(h:Idle K zz c S ss w0 w F)(hb:ob kb 85 [some K.bH]∈F)(hf:ob kf 196 [.func (.func 87) #[] #[some kb,some ka]]∈F)(ha:ob ka 82 [some K.bA]∈F)(ht:S.th<S.held.length)(hr:0≤S.rc)(hs:0<S.slots.length):
  Calls prog 88 #[S.th,gB m0 op arg dat,some kb,some kf,some ka] w (Made K zz c S ss w0 F (some (.push ⟨arg,.new,0,0,0⟩))):=by
 have h1:=h.alloc #[m0,op,arg,dat] 36;have pb:=h1.at_ (i:=0) (mT hb) rfl;have pf:=h1.at_ (i:=0) (mT hf) rfl;have pm:=h1.af aj;have dZ:=bJ h1 ht;have dr:decide (S.rc<0)=false:=dy O_;have k3:∀ (W:World) (G:List En),Idle K zz c S ss w0 W (G++ob w.heap.size 36 [m0,op,arg,dat]::F)→(fun w'=>w'.cell? ⟨kf,0,none⟩=some (.func (.func 87) #[] #[some kb,some ka])∧w'.cell? ⟨ka,0,none⟩=some (.pointer (some ⟨K.bA,0,none⟩))∧w'.cell? ⟨w.heap.size,2,none⟩=some (.int .i64 arg)) W:=fun W G m=>⟨m.at_ (i:=0) (ew _ (mT hf)) rfl,m.at_ (i:=0) (ew _ (mT ha)) rfl,m.at_ (i:=2) (ew _ (gq ..)) rfl⟩
 go_in;go_wp2_with fail;refine un dZ fun wz hw=>?_
 obtain rfl:=hw.symm;go_wp2
 go_region_held3 (fun w'=>w'.cell? ⟨kf,0,none⟩=some (.func (.func 87) #[] #[some kb,some ka])∧w'.cell? ⟨ka,0,none⟩=some (some K.bA)∧w'.cell? ⟨w.heap.size,2,none⟩=some (.int .i64 arg)) (first | exact k3 _ [] h1.drew | exact bB | exact dN | exact jA | exact iq | exact nB | exact mM) (first | ((with_reducible refine un (zR h1.drew (mT hb) (mT ha)) fun dx gx=>?_);have m1:=h1.drew.next gx;have bB:=k3 _ [] m1) | ((with_reducible refine(sj m1 S.th hs).mono ?_);rintro e jP ⟨LK,rfl,_,m2⟩;have dN:=k3 _ [_] m2;have n2:=m2.alloc #[some K.bH,some K.bA,S.th,.nilFunc,arg,some LK,.int .i64 0,.int .u64 0] 199;have jA:=k3 _ [_,_] n2) | ((with_reducible refine(sj h1.drew S.th hs).mono ?_);rintro e zK ⟨xe,rfl,_,m3⟩;have iq:=k3 _ [_] m3) | ((with_reducible refine un (zR m3 (mT (mT hb)) (mT (mT ha))) fun Kh em4=>?_);have m4:=m3.next em4;have nB:=k3 _ [_] m4;have n4:=m4.alloc #[some K.bH,some K.bA,S.th,.nilFunc,arg,some xe,.int .i64 0,.int .u64 0] 199;have mM:=k3 _ [_,_] n4))
 all_goals
  go_wp2;go_ret
 ·exact⟨_,[_,_],rfl,⟨_,_,rfl⟩,qR n2⟩
theorem ZA(h:Idle K zz c S ss w0 w F)(hb:ob kb 85 [some K.bH]∈F)(_:ob kf 204 [some K.bH,c.ad 4 0,c.ad 5 0,c.ad 11 0,c.ad 13 0]∈F)(ht:S.th<S.held.length)(hr:¬0≤S.rc):
  Calls prog 90 #[S.th,gB m0 op arg dat,some kb,some kf] w (Made K zz c S ss w0 F (none)):=by
 have h1:=h.alloc #[m0,op,arg,dat] 36;have pb:=h1.at_ (i:=0) (mT hb) rfl;have pm:=h1.af aj;have dZ:=bJ h1 ht;have dr:decide (S.rc<0)=true:=cM O_;go_in;exact yj
theorem Zz(h:Idle K zz c S ss w0 w F)(hb:ob kb 85 [some K.bH]∈F)(hf:ob kf 204 [some K.bH,c.ad 4 0,c.ad 5 0,c.ad 11 0,c.ad 13 0]∈F)(ht:S.th<S.held.length)(hr:0≤S.rc):
  Calls prog 90 #[S.th,gB m0 op arg dat,some kb,some kf] w (Made K zz c S ss w0 F (some (.enq ⟨arg,0,.new,0,0,0,0⟩))):=by
 have h1:=h.alloc #[m0,op,arg,dat] 36;have pb:=h1.at_ (i:=0) (mT hb) rfl;have pm:=h1.af aj;have dZ:=bJ h1 ht;have dr:decide (S.rc<0)=false:=dy O_;have pq:=h1.af (mT hf);have m2:=h1.alloc #[some K.bH,c.ad 4 0,c.ad 5 0,c.ad 11 0,c.ad 13 0,S.th,arg,.int .i64 0,.pointer none,.int .u64 0,.int .u64 0,.int .u64 0,.int .i64 0] 208;rw [show(w.alloc (.cells #[m0,op,arg,dat] 36)).heap.size=w.heap.size+1 from S_] at m2;go_in;go_wp2_with fail;refine un dZ fun wz hw=>?_
 obtain rfl:=hw.symm;exact JA
theorem ZC(h:Idle K zz c S ss w0 w F)(hb:ob kb 85 [some K.bH]∈F)(_:ob kf 204 [some K.bH,c.ad 4 0,c.ad 5 0,c.ad 11 0,c.ad 13 0]∈F)(ht:S.th<S.held.length)(hr:¬0≤S.rc):
  Calls prog 91 #[S.th,gB m0 op arg dat,some kb,some kf] w (Made K zz c S ss w0 F (none)):=by
 have h1:=h.alloc #[m0,op,arg,dat] 36;have pb:=h1.at_ (i:=0) (mT hb) rfl;have pm:=h1.af aj;have dZ:=bJ h1 ht;have dr:decide (S.rc<0)=true:=cM O_;go_in;exact yj
theorem ZB(h:Idle K zz c S ss w0 w F)(hb:ob kb 85 [some K.bH]∈F)(hf:ob kf 204 [some K.bH,c.ad 4 0,c.ad 5 0,c.ad 11 0,c.ad 13 0]∈F)(ht:S.th<S.held.length)(hr:0≤S.rc):
  Calls prog 91 #[S.th,gB m0 op arg dat,some kb,some kf] w (Made K zz c S ss w0 F (some (.deq ⟨0,0,0,0,0,false,0,0,0,none⟩))):=by
 have h1:=h.alloc #[m0,op,arg,dat] 36;have pb:=h1.at_ (i:=0) (mT hb) rfl;have pm:=h1.af aj;have dZ:=bJ h1 ht;have dr:decide (S.rc<0)=false:=dy O_;have pq:=h1.af (mT hf);have m2:=h1.alloc #[some K.bH,c.ad 4 0,c.ad 5 0,c.ad 11 0,c.ad 13 0,S.th,.int .i64 0,.int .u64 0,.int .u64 0,.int .u64 0,.int .i64 0,false,.int .i64 0,.int .i64 0,.int .i64 0,.pointer none] 212;rw [show(w.alloc (.cells #[m0,op,arg,dat] 36)).heap.size=w.heap.size+1 from S_] at m2;go_in;go_wp2_with fail;refine un dZ fun wz hw=>?_
 obtain rfl:=hw.symm;go_wp2;go_ret;exact⟨_,[_],rfl,⟨rfl,rfl⟩,jE m2⟩
end
section
variable{K:Ky}{zz:Int×Int×Bool}{c:Cf}{S S':PM}{ss:List Sv}{w0 w w':World}{F G:List En}{d n b kb kf ka:Nat}{x y:En}{t:TypeId}{m0 op arg dat nw root key:Int}{cs:List Value}{cu:Nat}
theorem Idle.uG(h:Idle K zz c S ss w0 w F)(hm:ob b t cs∈F):w.heap[b]?=some (.cells cs.toArray t):=by
 obtain⟨cv,lv,a,b,l,p,s,ah,q,h⟩:=h;exact h.uG (bX (bX hm))
theorem Ep(h:Idle K zz c S ss w0 w F)(ok:bY c.T c.R c.H c.Re c.Ca c.S c.B)(len:(S.words.length:Int)=b7 c.R c.H c.S c.B 13)(ghl:S.th<S.held.length)(hr:0≤S.rc)(ha:0≤root∧root<S.words.length):
  Calls prog 95 #[some K.bH,S.th,root,key] w fun e w'=>∃ kf,e=.returned (.agg #[some kf,.pointer none,.int .i64 0,.int .i64 0,.int .i64 0,.int .i64 (-1)])∧Idle K zz c S ss w0 w' (dG K kf S.th (.pointer none) (.new root key)::F):=by
 have n0:=h.alloc #[.pointer none,.pointer none,.int .i64 0,.int .i64 0,.int .i64 0,.int .i64 0] 218;have hf:=I4 (key:=key) n0 ok len ghl hr ha;go_in;go_wp2_with fail;refine hf.mono ?_;rintro e w1 ⟨kf,rfl,_,m1⟩;have m2:=m1.swap;have p2:=m2.af aj;have m3:=(((((m2.put 0 (some kf)).put 1 (.pointer none)).put 2 (.int .i64 0)).put 3 (.int .i64 0)).put 4 (.int .i64 0)).put 5 (.int .i64 (-1));have hk:=m3.uG aj;go_wp2_with fail;refine DL (Fh rfl _ _ w.heap.size 218 _ (0,0) _ rfl hk underlying218 rfl K_) rfl ⟨kf,rfl,m3.drop⟩
theorem oM{eU:Int}(h:Idle K zz c S ss w0 w F)(ok:bY c.T c.R c.H c.Re c.Ca c.S c.B)(len:(S.words.length:Int)=b7 c.R c.H c.S c.B 13)(ghl:S.th<S.held.length)(hr:0≤S.rc)(ha:0≤root∧root<S.words.length):
  Calls prog 93 #[some K.bH,S.th,root,key,eU] w (Made K zz c S ss w0 F (some (.ins ⟨Wk.new root key,eU,none,none,-1⟩))):=by
 have hf:=Ep (key:=key) h ok len ghl hr ha;go_in;go_wp2_with fail;refine hf.mono ?_;rintro e w1 ⟨kf,rfl,m1⟩;have m2:=m1.alloc #[some kf,.pointer none,.int .i64 0,.int .i64 0,.int .i64 0,.int .i64 (-1),eU,.pointer none,.pointer none,.int .i64 (-1)] 274;have p2:=m2.af aj;have q2:=m2.af bp;go_wp2;go_ret;exact⟨_,[_,_],rfl,.inl ⟨rfl,_,_,_,_,_,_,_,.inl ⟨by simp [Wk.new,Fi.new],_,rfl⟩,rfl⟩,m2⟩
theorem Zw(h:Idle K zz c S ss w0 w F)(hb:ob kb 85 [some K.bH]∈F)(hf:ob kf 3 [root]∈F)(ht:S.th<S.held.length)(hr:¬0≤S.rc):
  Calls prog 92 #[S.th,gB m0 op arg dat,some kb,some kf] w (Made K zz c S ss w0 F (none)):=by
 have h1:=h.alloc #[m0,op,arg,dat] 36;have pb:=h1.at_ (i:=0) (mT hb) rfl;have pf:=h1.at_ (i:=0) (mT hf) rfl;have pm:=h1.af aj;have dZ:=bJ h1 ht;have dr:decide (S.rc<0)=true:=cM O_;go_in;exact yj
theorem ZE(h:Idle K zz c S ss w0 w F)(hb:ob kb 85 [some K.bH]∈F)(hf:ob kf 3 [root]∈F)(ht:S.th<S.held.length)(hr:¬0≤S.rc):
  Calls prog 94 #[S.th,gB m0 op arg dat,some kb,some kf] w (Made K zz c S ss w0 F (none)):=by
 have h1:=h.alloc #[m0,op,arg,dat] 36;have pb:=h1.at_ (i:=0) (mT hb) rfl;have pf:=h1.at_ (i:=0) (mT hf) rfl;have pm:=h1.af aj;have dZ:=bJ h1 ht;have dr:decide (S.rc<0)=true:=cM O_;go_in;exact yj
theorem ZG(h:Idle K zz c S ss w0 w F)(hb:ob kb 85 [some K.bH]∈F)(hf:ob kf 3 [root]∈F)(ht:S.th<S.held.length)(hr:¬0≤S.rc):
  Calls prog 96 #[S.th,gB m0 op arg dat,some kb,some kf] w (Made K zz c S ss w0 F (none)):=by
 have h1:=h.alloc #[m0,op,arg,dat] 36;have pb:=h1.at_ (i:=0) (mT hb) rfl;have pf:=h1.at_ (i:=0) (mT hf) rfl;have pm:=h1.af aj;have dZ:=bJ h1 ht;have dr:decide (S.rc<0)=true:=cM O_;go_in;exact yj
theorem Zv(h:Idle K zz c S ss w0 w F)(hb:ob kb 85 [some K.bH]∈F)(hf:ob kf 3 [root]∈F)(ht:S.th<S.held.length)(ok:bY c.T c.R c.H c.Re c.Ca c.S c.B)(len:(S.words.length:Int)=b7 c.R c.H c.S c.B 13)(hr:0≤S.rc)(ha:0≤root∧root<S.words.length):
  Calls prog 92 #[S.th,gB m0 op arg dat,some kb,some kf] w (Made K zz c S ss w0 F (some (.ins ⟨Wk.new root arg,0,none,none,-1⟩))):=by
 have h1:=h.alloc #[m0,op,arg,dat] 36;have pb:=h1.at_ (i:=0) (mT hb) rfl;have pf:=h1.at_ (i:=0) (mT hf) rfl;have pm:=h1.af aj;have dZ:=bJ h1 ht;have dr:decide (S.rc<0)=false:=dy O_;go_in;go_wp2_with fail;refine un dZ fun wz hw=>?_
 obtain rfl:=hw.symm;go_wp2_with fail;refine(oM (key:=arg) (eU:=0) h1 ok len ht hr ha).mono ?_;exact Wj
theorem ZD(h:Idle K zz c S ss w0 w F)(hb:ob kb 85 [some K.bH]∈F)(hf:ob kf 3 [root]∈F)(ht:S.th<S.held.length)(ok:bY c.T c.R c.H c.Re c.Ca c.S c.B)(len:(S.words.length:Int)=b7 c.R c.H c.S c.B 13)(hr:0≤S.rc)(ha:0≤root∧root<S.words.length):
  Calls prog 94 #[S.th,gB m0 op arg dat,some kb,some kf] w (Made K zz c S ss w0 F (some (.del ⟨Wk.new root arg,none⟩))):=by
 have h1:=h.alloc #[m0,op,arg,dat] 36;have pb:=h1.at_ (i:=0) (mT hb) rfl;have pf:=h1.at_ (i:=0) (mT hf) rfl;have pm:=h1.af aj;have dZ:=bJ h1 ht;have dr:decide (S.rc<0)=false:=dy O_;go_in;go_wp2_with fail;refine un dZ fun wz hw=>?_
 obtain rfl:=hw.symm;go_wp2_with fail;refine(Ep (key:=arg) h1 ok len ht hr ha).mono ?_;rintro e w2 ⟨kg,rfl,m1⟩;have m2:=m1.alloc #[some kg,.pointer none,.int .i64 0,.int .i64 0,.int .i64 0,.int .i64 (-1),.pointer none] 221;go_wp2;go_ret;exact⟨_,[_,_],rfl,.inl ⟨.inl rfl,_,_,_,_,_,_,.inl ⟨by simp [Wk.new,Fi.new],_,rfl⟩,rfl⟩,qR m2⟩
theorem ZF(h:Idle K zz c S ss w0 w F)(hb:ob kb 85 [some K.bH]∈F)(hf:ob kf 3 [root]∈F)(ht:S.th<S.held.length)(ok:bY c.T c.R c.H c.Re c.Ca c.S c.B)(len:(S.words.length:Int)=b7 c.R c.H c.S c.B 13)(hr:0≤S.rc)(ha:0≤root∧root<S.words.length):
  Calls prog 96 #[S.th,gB m0 op arg dat,some kb,some kf] w (Made K zz c S ss w0 F (some (.con (Wk.new root arg)))):=by
 have h1:=h.alloc #[m0,op,arg,dat] 36;have pb:=h1.at_ (i:=0) (mT hb) rfl;have pf:=h1.at_ (i:=0) (mT hf) rfl;have pm:=h1.af aj;have dZ:=bJ h1 ht;have dr:decide (S.rc<0)=false:=dy O_;go_in;go_wp2_with fail;refine un dZ fun wz hw=>?_
 obtain rfl:=hw.symm;go_wp2_with fail;refine(Ep (key:=arg) h1 ok len ht hr ha).mono ?_;rintro e w2 ⟨kg,rfl,m1⟩;have m2:=m1.alloc #[some kg,.pointer none,.int .i64 0,.int .i64 0,.int .i64 0,.int .i64 (-1)] 224;go_wp2;go_ret;exact⟨_,[_,_],rfl,.inl ⟨rfl,_,_,_,_,_,.inl ⟨by simp [Wk.new,Fi.new],_,rfl⟩,rfl⟩,qR m2⟩
theorem Wc(ok:bY c.T c.R c.H c.Re c.Ca c.S c.B)(w:World):cm 64 #[fI c] w (.int .i64 0) fun w'=>Ext w w':=by
 have h:=jm c.T c.R c.H c.Re c.Ca c.S c.B w;rw [aY ok] at h;exact h
theorem E5(ok:bY c.T c.R c.H c.Re c.Ca c.S c.B)(k:Int)(w:World):cm 130 #[fI c,k] w (.tuple #[.int .i64 (u64 k % c.B),.int .i64 0]) fun w'=>Ext w w':=by
 have hc:=fun W=>Wc ok W
 have hB:1≤c.B∧c.B≤64:=ok.2.2.2.2.2.2.2.2.2.2.2.2
 have hv:wrap64 ((IntKind.u64.wrap k).tmod c.B)=u64 k % c.B:=by
  have e:IntKind.u64.wrap k=u64 k:=rfl;have h0:0≤u64 k:=Int.emod_nonneg _ D_;have h1:0≤u64 k % c.B:=Int.emod_nonneg _ O_;have h2:u64 k % c.B<c.B:=Int.emod_lt_of_pos _ O_;rw [e,Int.tmod_eq_emod_of_nonneg h0];exact wid O_ O_
 simp only [fI] at hc ⊢;go_enter func130,ntmps130;go_wp2_with fail;refine un (hc _) fun w1 e1=>?_
 have hk:=gJ e1 (yo w (.cells #[c.T,c.R,c.H,c.Re,c.Ca,c.S,c.B] 23));have p6:w1.cell? ⟨w.heap.size,6,none⟩=some (.int .i64 c.B):=by simp [World.cell?,hk]
 go_wp2
 go_ret2;exact⟨by rw [←hv];rfl,((bu w).aE _).next e1⟩
theorem r9(ok:bY c.T c.R c.H c.Re c.Ca c.S c.B)(k:Int)(w:World):cm 98 #[fI c,k] w (.int .i64 (c.ad 7 (u64 k % c.B))) fun w'=>Ext w w':=by
 have hc:=fun W=>E5 ok k W
 have hB:1≤c.B∧c.B≤64:=ok.2.2.2.2.2.2.2.2.2.2.2.2;have hx:Ix c 7 (u64 k % c.B):=⟨Int.emod_nonneg _ O_,by have:=Int.emod_lt_of_pos (u64 k) (show 0<c.B from O_);simpa [cV] using this⟩;have ha:=fun W=>zA ok (n:=7) O_ O_ hx W
 simp only [fI] at hc ha ⊢;go_enter func98,ntmps98;go_wp2_with fail;refine un (hc _) fun w1 e1=>?_
 have hk:=gJ e1 (yo w (.cells #[c.T,c.R,c.H,c.Re,c.Ca,c.S,c.B] 23));have p:∀ i,w1.cell? ⟨w.heap.size,i,none⟩=([c.T,c.R,c.H,c.Re,c.Ca,c.S,c.B]:List Value)[i]?:=fun i=>by simp [World.cell?,hk]
 clear hk;go_wp2_with fail;refine un (ha _) fun w2 e2=>?_
 go_wp2;go_ret;exact⟨rfl,(((bu w).aE _).next e1).next e2⟩
theorem OI(h:Idle K zz c S ss w0 w F)(ok:bY c.T c.R c.H c.Re c.Ca c.S c.B):
  Calls prog 100 #[some K.bH,S.th,key,.agg #[],false] w (Made K zz c S ss w0 F (some (.tab ⟨.new 0 0,c.ad 7 (u64 key % c.B),key,0,0,false,none,0⟩))):=by
 have n0:=h.alloc #[] 228;have hx:=fun W=>r9 ok key W
 have uC:=rz n0;have hS:1≤c.S:=ok.2.2.2.2.2.2.2.2.2.2.1;have h12:=fun W=>zA ok (n:=12) (i:=0) O_ O_ ⟨O_,by simp [cV];omega⟩ W
 have Gk:=fun W=>zA ok (n:=13) (i:=0) O_ O_ ⟨O_,by simp [cV];omega⟩ W
 simp only [fI] at uC hx h12 Gk;go_in;go_wp2_with fail;refine un (kQ n0) fun wz hw=>?_
 obtain rfl:=hw.symm;go_wp2_with fail;refine un uC fun w1 e1=>?_
 have m1:=n0.next e1;have n2:=m1.alloc #[c.T,c.R,c.H,c.Re,c.Ca,c.S,c.B] 23;have p2:=n2.af aj;have n3:=n2.alloc #[.pointer none,some K.bH,S.th,.int .i64 0,key,.int .i64 0,.int .i64 0,.int .i64 0,.int .i64 0,false,.pointer none,.pointer none] 282;exact abR
theorem OB(h:Idle K zz c S ss w0 w F)(ok:bY c.T c.R c.H c.Re c.Ca c.S c.B):
  Calls prog 102 #[some K.bH,S.th,key,.agg #[],true] w (Made K zz c S ss w0 F (some (.tab ⟨.new 0 0,c.ad 7 (u64 key % c.B),key,0,0,true,none,0⟩))):=by
 have n0:=h.alloc #[] 230;have hx:=fun W=>r9 ok key W
 have uC:=rz n0;have hS:1≤c.S:=ok.2.2.2.2.2.2.2.2.2.2.1;have h12:=fun W=>zA ok (n:=12) (i:=0) O_ O_ ⟨O_,by simp [cV];omega⟩ W
 have Gk:=fun W=>zA ok (n:=13) (i:=0) O_ O_ ⟨O_,by simp [cV];omega⟩ W
 simp only [fI] at uC hx h12 Gk;go_in;go_wp2_with fail;refine un (kQ n0) fun wz hw=>?_
 obtain rfl:=hw.symm;go_wp2_with fail;refine un uC fun w1 e1=>?_
 have m1:=n0.next e1;have n2:=m1.alloc #[c.T,c.R,c.H,c.Re,c.Ca,c.S,c.B] 23;have p2:=n2.af aj;have n3:=n2.alloc #[.pointer none,some K.bH,S.th,.int .i64 0,key,.int .i64 0,.int .i64 0,.int .i64 0,.int .i64 0,true,.pointer none,.pointer none] 285;exact abR
theorem ZI(h:Idle K zz c S ss w0 w F)(hb:ob kb 85 [some K.bH]∈F)(ht:S.th<S.held.length)(hr:¬0≤S.rc):
  Calls prog 97 #[S.th,gB m0 op arg dat,some kb] w (Made K zz c S ss w0 F (none)):=by
 have h1:=h.alloc #[m0,op,arg,dat] 36;have pb:=h1.at_ (i:=0) (mT hb) rfl;have pm:=h1.af aj;have dZ:=bJ h1 ht;have dr:decide (S.rc<0)=true:=cM O_;go_in;exact yj
theorem Zy(h:Idle K zz c S ss w0 w F)(hb:ob kb 85 [some K.bH]∈F)(ht:S.th<S.held.length)(hr:¬0≤S.rc):
  Calls prog 99 #[S.th,gB m0 op arg dat,some kb] w (Made K zz c S ss w0 F (none)):=by
 have h1:=h.alloc #[m0,op,arg,dat] 36;have pb:=h1.at_ (i:=0) (mT hb) rfl;have pm:=h1.af aj;have dZ:=bJ h1 ht;have dr:decide (S.rc<0)=true:=cM O_;go_in;exact yj
theorem Zp(h:Idle K zz c S ss w0 w F)(hb:ob kb 85 [some K.bH]∈F)(ht:S.th<S.held.length)(hr:¬0≤S.rc):
  Calls prog 101 #[S.th,gB m0 op arg dat,some kb] w (Made K zz c S ss w0 F (none)):=by
 have h1:=h.alloc #[m0,op,arg,dat] 36;have pb:=h1.at_ (i:=0) (mT hb) rfl;have pm:=h1.af aj;have dZ:=bJ h1 ht;have dr:decide (S.rc<0)=true:=cM O_;go_in;exact yj
theorem Zx(h:Idle K zz c S ss w0 w F)(hb:ob kb 85 [some K.bH]∈F)(ht:S.th<S.held.length)(ok:bY c.T c.R c.H c.Re c.Ca c.S c.B)(hr:0≤S.rc):
  Calls prog 99 #[S.th,gB m0 op arg dat,some kb] w (Made K zz c S ss w0 F (some (.tab ⟨.new 0 0,c.ad 7 (u64 arg % c.B),arg,0,0,false,none,0⟩))):=by
 have h1:=h.alloc #[m0,op,arg,dat] 36;have pb:=h1.at_ (i:=0) (mT hb) rfl;have pm:=h1.af aj;have dZ:=bJ h1 ht;have dr:decide (S.rc<0)=false:=dy O_;go_in;go_wp2_with fail;refine un dZ fun wz hw=>?_
 obtain rfl:=hw.symm;go_wp2_with fail;refine(OI (key:=arg) h1 ok).mono ?_;exact Wj
theorem Zo(h:Idle K zz c S ss w0 w F)(hb:ob kb 85 [some K.bH]∈F)(ht:S.th<S.held.length)(ok:bY c.T c.R c.H c.Re c.Ca c.S c.B)(hr:0≤S.rc):
  Calls prog 101 #[S.th,gB m0 op arg dat,some kb] w (Made K zz c S ss w0 F (some (.tab ⟨.new 0 0,c.ad 7 (u64 arg % c.B),arg,0,0,true,none,0⟩))):=by
 have h1:=h.alloc #[m0,op,arg,dat] 36;have pb:=h1.at_ (i:=0) (mT hb) rfl;have pm:=h1.af aj;have dZ:=bJ h1 ht;have dr:decide (S.rc<0)=false:=dy O_;go_in;go_wp2_with fail;refine un dZ fun wz hw=>?_
 obtain rfl:=hw.symm;go_wp2_with fail;refine(OB (key:=arg) h1 ok).mono ?_;exact Wj
theorem ZH(h:Idle K zz c S ss w0 w F)(hb:ob kb 85 [some K.bH]∈F)(ht:S.th<S.held.length)(ok:bY c.T c.R c.H c.Re c.Ca c.S c.B)(len:(S.words.length:Int)=b7 c.R c.H c.S c.B 13)(hr:0≤S.rc)(ha:0≤c.ad 7 (u64 arg % c.B)∧c.ad 7 (u64 arg % c.B)<S.words.length):
  Calls prog 97 #[S.th,gB m0 op arg dat,some kb] w (Made K zz c S ss w0 F (some (.ins ⟨Wk.new (c.ad 7 (u64 arg % c.B)) arg,dat,none,none,-1⟩))):=by
 have h1:=h.alloc #[m0,op,arg,dat] 36;have pb:=h1.at_ (i:=0) (mT hb) rfl;have pm:=h1.af aj;have dZ:=bJ h1 ht;have dr:decide (S.rc<0)=false:=dy O_;have k4:∀ (W:World) (G:List En),Idle K zz c S ss w0 W (G++ob w.heap.size 36 [m0,op,arg,dat]::F)→(fun w'=>w'.cell? ⟨kb,0,none⟩=some (.pointer (some ⟨K.bH,0,none⟩))∧w'.cell? ⟨w.heap.size,2,none⟩=some (.int .i64 arg)∧w'.cell? ⟨w.heap.size,3,none⟩=some (.int .i64 dat)) W:=fun W G m=>⟨m.at_ (i:=0) (ew _ (mT hb)) rfl,m.at_ (i:=2) (ew _ (gq ..)) rfl,m.at_ (i:=3) (ew _ (gq ..)) rfl⟩
 have k3:=fun(W:World) (m:Idle K zz c S ss w0 W (ob w.heap.size 36 [m0,op,arg,dat]::F))=>k4 W [] m
 have uC:=fun(W:World) (m:Idle K zz c S ss w0 W (ob w.heap.size 36 [m0,op,arg,dat]::F))=>rz m
 have hx:=fun W=>r9 ok arg W
 have hin:=fun(W:World) (m:Idle K zz c S ss w0 W (ob w.heap.size 36 [m0,op,arg,dat]::F))=>oM (key:=arg) (eU:=dat) m ok len ht hr ha
 go_in;go_wp2_with fail;refine un dZ fun wz hw=>?_
 obtain rfl:=hw.symm;go_wp2
 go_region_held3 (fun w'=>w'.cell? ⟨kb,0,none⟩=some (some K.bH)∧w'.cell? ⟨w.heap.size,2,none⟩=some (.int .i64 arg)∧w'.cell? ⟨w.heap.size,3,none⟩=some (.int .i64 dat)) (first | exact k3 _ h1.drew | exact bB | exact dN | exact iq) (first | ((with_reducible refine un (kQ h1.drew) fun wz hw=>?_);obtain rfl:=hw.symm) | ((with_reducible refine un (uC _ h1.drew) fun dx gx=>?_);have m1:=h1.drew.next gx;have bB:=k3 _ m1) | ((with_reducible refine un (hx _) fun jP em2=>?_);have m2:=m1.next em2;have dN:=k3 _ m2) | ((with_reducible refine(hin _ m2).mono ?_);rintro e w5 hm;obtain⟨k,L,rfl,hq,m5⟩:=hm;have iq:=k4 _ _ m5))
 go_wp2;go_ret;exact⟨k,L,rfl,hq,(m5.perm dV).drop⟩
end
theorem DS(q:Tq)(k:Nat)(w:World):(method (prog.types.size+100) q.ty (some k) "Ready").run prog w=.ok (q.fr,.pointer (some ⟨k,0,none⟩)) w:=by
 cases q with
 | tab t=>
  obtain⟨f,r,ky,st,sl,tk,rt,lv⟩:=t
  cases tk<;>kernel_rfl
 | _=>kernel_rfl
theorem GX(q:Tq)(k:Nat)(w:World):(method (prog.types.size+100) q.ty (some k) "Step").run prog w=.ok (q.fs,.pointer (some ⟨k,0,none⟩)) w:=by
 cases q with
 | tab t=>
  obtain⟨f,r,ky,st,sl,tk,rt,lv⟩:=t
  cases tk<;>kernel_rfl
 | _=>kernel_rfl
theorem DT(q:Tq)(args:Array Value)(w:World):(callFunc q.fr args).run prog w=.ok (.enter q.fr args) w:=by
 cases q with
 | tab t=>
  obtain⟨f,r,ky,st,sl,tk,rt,lv⟩:=t
  cases tk<;>kernel_rfl
 | _=>kernel_rfl
theorem GY(q:Tq)(args:Array Value)(w:World):(callFunc q.fs args).run prog w=.ok (.enter q.fs args) w:=by
 cases q with
 | tab t=>
  obtain⟨f,r,ky,st,sl,tk,rt,lv⟩:=t
  cases tk<;>kernel_rfl
 | _=>kernel_rfl
section
variable{K:Ky}{zz:Int×Int×Bool}{c:Cf}{S S':PM}{ss:List Sv}{w0 w w':World}{F G:List En}{d n b k:Nat}{x y:En}
theorem Idle.bm(h:Idle K zz c S ss w0 w F):∃ s:Value,AF K.bM [some K.bW,zz.1,zz.2.1,.pointer none,.pointer none,zz.2.2,s,K.mO,.slice (some ⟨K.gs,0,none⟩) ss.length K.cs,K.au,mh K.gc K.cc S.calls.length] w:=Sm
theorem Idle.nu(h:Idle K zz c S ss w0 w F){t:Nat}{v:Sv}{u:Int×Int}(hv:ss[t]?=some v)(hu:S.told[t]?=some u):∀ i,i<5→w.cell? ⟨K.gs,t*5+i,none⟩=(dO (v,u))[i]?:=abC
theorem Pf(h:Idle K zz c S ss w0 w F)(hc:0<S.calls.length)(t:Nat)(nw:Int)(last:Nat):
  Calls prog 113 #[some K.bW,nw] (((((w.setCell ⟨K.bM,1,none⟩ t).setCell ⟨K.bM,2,none⟩ nw).setCell ⟨K.bM,5,none⟩ false).setCell ⟨K.bM,3,none⟩ (.pointer (some ⟨K.gc,last*9,none⟩))).setCell ⟨K.bM,4,none⟩ (.pointer (some ⟨K.gs,t*5+3,none⟩))).drew
   fun e w'=>e=.returned (.tuple #[])∧aq K c {S with th:=t,now:=nw,cur:=last,used:=false} ss w0 w' F:=by
 obtain⟨cv,lv,a,b,l,p,s,ah,q,h⟩:=h.old hc;have h1:=Has.fW (A:= [_,_,_,_]) h 1 t;have h2:=Has.fW (A:= [_,_,_,_]) h1 2 nw;have h3:=Has.fW (A:= [_,_,_,_]) h2 5 false;have h4:=Has.fW (A:= [_,_,_,_]) h3 3 (.pointer (some ⟨K.gc,last*9,none⟩));have h5:=Has.fW (A:= [_,_,_,_]) h4 4 (.pointer (some ⟨K.gs,t*5+3,none⟩));refine(FR h5.drew nw).mono ?_;rintro e w' ⟨rfl,h6⟩;exact⟨rfl,cv,lv,a,b,l,p,s,ah,q,h6⟩
@[reducible] def J4(K:Ky)(S:PM)(t la:Nat)(W:World):Prop:=W.cell? ⟨K.bM,10,none⟩=some (.slice (some ⟨K.gc,0,none⟩) S.calls.length K.cc)∧W.cell? ⟨K.gs,t*5+2,none⟩=some (.int .i64 la)
theorem Yp(h:Idle K zz c S ss w0 w F)(hc:0<S.calls.length){t la:Nat}{v:Sv}{u:Int×Int}(hv:ss[t]?=some v)(hu:S.told[t]?=some u)(hla:v.last=la)(nw:Int):
  J4 K S t la ((((w.setCell ⟨K.bM,1,none⟩ t).setCell ⟨K.bM,2,none⟩ nw).setCell ⟨K.bM,5,none⟩ false)).drew∧J4 K S t la (((((w.setCell ⟨K.bM,1,none⟩ t).setCell ⟨K.bM,2,none⟩ nw).setCell ⟨K.bM,5,none⟩ false)).setCell ⟨K.bM,3,none⟩ (.pointer (some ⟨K.gc,la*9,none⟩))).drew∧J4 K S t la (((((w.setCell ⟨K.bM,1,none⟩ t).setCell ⟨K.bM,2,none⟩ nw).setCell ⟨K.bM,5,none⟩ false)).setCell ⟨K.bM,4,none⟩ (.pointer (some ⟨K.gs,t*5+3,none⟩))).drew∧J4 K S t la ((((((w.setCell ⟨K.bM,1,none⟩ t).setCell ⟨K.bM,2,none⟩ nw).setCell ⟨K.bM,5,none⟩ false)).setCell ⟨K.bM,3,none⟩ (.pointer (some ⟨K.gc,la*9,none⟩))).setCell ⟨K.bM,4,none⟩ (.pointer (some ⟨K.gs,t*5+3,none⟩))).drew∧J4 K S t la ((((((w.setCell ⟨K.bM,1,none⟩ t).setCell ⟨K.bM,2,none⟩ nw).setCell ⟨K.bM,5,none⟩ false)).setCell ⟨K.bM,4,none⟩ (.pointer (some ⟨K.gs,t*5+3,none⟩))).setCell ⟨K.bM,3,none⟩ (.pointer (some ⟨K.gc,la*9,none⟩))).drew:=by
 have hz:(ss.zip S.told)[t]?=some (v,u):=by rw [JO];exact⟨hv,hu⟩
 obtain⟨cv,lv,a,b,l,p,s,ah,q,h⟩:=h.old hc;have h1:=Has.fW (A:= [_,_,_,_]) h 1 t;have h2:=Has.fW (A:= [_,_,_,_]) h1 2 nw;have h3:=Has.fW (A:= [_,_,_,_]) h2 5 false;have h4:=Has.fW (A:= [_,_,_,_]) h3 3 (.pointer (some ⟨K.gc,la*9,none⟩));have h5:=Has.fW (A:= [_,_,_,_]) h3 4 (.pointer (some ⟨K.gs,t*5+3,none⟩));have h6:=Has.fW (A:= [_,_,_,_]) h4 4 (.pointer (some ⟨K.gs,t*5+3,none⟩));have h7:=Has.fW (A:= [_,_,_,_]) h5 3 (.pointer (some ⟨K.gc,la*9,none⟩));have hs:=flat_get (k:=2) (u:=.int .i64 la) dO 5 (fun _=>rfl) hz (by rw [←hla];rfl);exact⟨⟨h3.drew.at_ (i:=10) iu rfl,h3.drew.ey (g:=K.gs) (c:=K.cs) tn hs⟩,⟨h4.drew.at_ (i:=10) iu rfl,h4.drew.ey (g:=K.gs) (c:=K.cs) tn hs⟩,⟨h5.drew.at_ (i:=10) iu rfl,h5.drew.ey (g:=K.gs) (c:=K.cs) tn hs⟩,⟨h6.drew.at_ (i:=10) iu rfl,h6.drew.ey (g:=K.gs) (c:=K.cs) tn hs⟩,⟨h7.drew.at_ (i:=10) iu rfl,h7.drew.ey (g:=K.gs) (c:=K.cs) tn hs⟩⟩
end
section
variable{K:Ky}{zz:Int×Int×Bool}{c:Cf}{S S':PM}{ss:List Sv}{w0 w w':World}{F G:List En}{d n b kb bK t:Nat}{x y:En}{op arg dat th:Int}{v:Sv}{u:Int×Int}
@[reducible] def Ky.mv(K:Ky)(x:Int):Ky:={K with au:=x}
theorem Idle.vq(h:Idle K zz c S ss w0 w F)(x:Int):Idle (K.mv x) zz c S ss w0 (w.setCell ⟨K.bM,9,none⟩ x) F:=by
 obtain⟨cv,lv,a,b,l,p,s,ah,q,h⟩:=h;exact⟨cv,lv,a,b,l,p,s,ah,q,Has.fW (A:= [_,_,_,_]) h 9 x⟩
theorem Idle.agf(h:Idle K zz c S ss w0 w F){o:Obj}(hm:En.obj b o∈F):w.heap[b]?=some o:=RW
theorem Kc(w:World):(zeroValue 117).run prog w=.ok .nilFunc w:=K_
@[go_sem] theorem acN(fn:Fn)(a b:Array Value)(w:World):(binOp BinOp.eql 117 (.func fn a b) .nilFunc).run prog w=.ok false w:=K_
@[go_sem] theorem VO(w:World):(binOp BinOp.eql 117 .nilFunc .nilFunc).run prog w=.ok true w:=K_
theorem Idle.mO(h:Idle K zz c S ss w0 w F):∀ z:aL w,z.world.cell? ⟨K.bM,7,none⟩=some K.mO:=fun z=>by
 obtain⟨s,p⟩:=(h.iD z).bm;exact p.1 7
theorem Idle.TJ(h:Idle K zz c S ss w0 w F):∀ z:aL w,z.world.cell? ⟨K.bM,8,none⟩=some (.slice (some ⟨K.gs,0,none⟩) ss.length K.cs):=fun z=>by
 obtain⟨s,p⟩:=(h.iD z).bm;exact p.1 8
theorem Idle.look(h:Idle K zz c S ss w0 w F){o:Obj}{f:Int→Option Value}(hm:En.obj bK o∈F)(ho:oF o f)(op:Int):∀ z:aL w,(Instr.lookup 90 (.map (some bK)) op false).run prog z.world=.ok ((f op).getD .nilFunc) z.world:=fun z=>
 eY.lookup (P:=prog) underlying90 underlying34 Kc (eY.of ho ((h.iD z).agf hm)) op false
theorem Uh(h:Idle K zz c S ss w0 w F)(hs:0<ss.length)(hm:65536≤K.au):
  cm 11 #[some K.bM,gB th op arg dat] w false fun w'=>Idle K zz c S ss w0 w' F:=by
 have jF:=h.bm;have h1:=h.alloc #[th,op,arg,dat] 36;have pm:=h1.af aj;obtain⟨s1,p1⟩:=h1.bm;have dn:((ss.length:Int)==0)=false:=by rw [gp];omega
 have dm:=cM hm;clear jF h;go_enter func11,ntmps11;exact Dm
theorem Yu(h:Idle K zz c S ss w0 w F)(hs:0<ss.length)(h0:0≤K.au)(hm:K.au<65536)(ht:th<0∨ss.length≤th):
  cm 11 #[some K.bM,gB th op arg dat] w false fun w'=>Idle (K.mv (K.au+1)) zz c S ss w0 w' F:=by
 have jF:=h.bm;have h1:=h.alloc #[th,op,arg,dat] 36;have pm:=h1.af aj;obtain⟨s1,p1⟩:=h1.bm;have dn:((ss.length:Int)==0)=false:=by rw [gp];omega
 have LV:IntKind.i64.wrap (K.au+1)=K.au+1:=ei O_ O_;have h2:=h1.vq (K.au+1);have dN:=h2.af aj;obtain⟨s2,p2⟩:=h2.bm;have z2:=h2.TJ;have zb:=fun i v (hv:_[i]?=some v)=>h2.cell aj (i:=i) (u:=v) hv
 have dm:decide (65536≤K.au)=false:=dy O_
 by_cases q0:th<0
 case' pos=>have d0:=cM q0
 case' neg=>have d0:=dy q0;have d1:decide ((ss.length:Int)≤th)=true:=cM O_
 all_goals
  clear jF h;go_enter func11,ntmps11;go_wp2_with fail;refine qE fun kz=>?_
  go_wp2;go_ret;exact⟨rfl,(h2.iD kz).drop⟩
theorem Uf(h:Idle K zz c S ss w0 w F)(hv:ss[t]?=some v)(hu:S.told[t]?=some u)(h0:0≤K.au)(hm:K.au<65536)(hi:v.task=.nilIface):
  cm 11 #[some K.bM,gB t 0 arg dat] w false fun w'=>Idle (K.mv (K.au+1)) zz c S ss w0 w' F:=by
 have hs:0<ss.length:=by have:=(fO.1 hv).1;omega
 have jF:=h.bm;have h1:=h.alloc #[.int .i64 (t:Int),.int .i64 0,arg,dat] 36;have pm:=h1.af aj;obtain⟨s1,p1⟩:=h1.bm;have dn:((ss.length:Int)==0)=false:=by rw [gp];omega
 have LV:IntKind.i64.wrap (K.au+1)=K.au+1:=ei O_ O_;have h2:=h1.vq (K.au+1);have dN:=h2.af aj;obtain⟨s2,p2⟩:=h2.bm;have z2:=h2.TJ;have WD:=h2.cell aj (i:=0) rfl;have WC:=h2.cell aj (i:=1) rfl;have WB:=h2.cell aj (i:=2) rfl;have WA:=h2.cell aj (i:=3) rfl;have dm:decide (65536≤K.au)=false:=dy O_;have d0:decide ((t:Int)<0)=false:=dy O_;have htl:=(fO.1 hv).1;have d1:decide ((ss.length:Int)≤(t:Int))=false:=dy O_;have d2:decide ((t:Int)<(ss.length:Int))=true:=cM O_;have Bl:∀ z:aL _,_:=fun z=>((h2.iD z).nu hv hu 0 O_).trans (show _=some v.task from rfl)
 simp only [gn] at Bl;rw [hi] at Bl;exact abg
theorem Ui(h:Idle K zz c S ss w0 w F)(hv:ss[t]?=some v)(hu:S.told[t]?=some u)(h0:0≤K.au)(hm:K.au<65536){ty:TypeId}{pv:Value}(hi:v.task=.iface ty pv)(hop:op≠0):
  cm 11 #[some K.bM,gB t op arg dat] w false fun w'=>Idle (K.mv (K.au+1)) zz c S ss w0 w' F:=by
 have hs:0<ss.length:=by have:=(fO.1 hv).1;omega
 have jF:=h.bm;have h1:=h.alloc #[.int .i64 (t:Int),op,arg,dat] 36;have pm:=h1.af aj;obtain⟨s1,p1⟩:=h1.bm;have dn:((ss.length:Int)==0)=false:=by rw [gp];omega
 have LV:IntKind.i64.wrap (K.au+1)=K.au+1:=ei O_ O_;have h2:=h1.vq (K.au+1);have dN:=h2.af aj;obtain⟨s2,p2⟩:=h2.bm;have z2:=h2.TJ;have WD:=h2.cell aj (i:=0) rfl;have WC:=h2.cell aj (i:=1) rfl;have WB:=h2.cell aj (i:=2) rfl;have WA:=h2.cell aj (i:=3) rfl;have dm:decide (65536≤K.au)=false:=dy O_;have d0:decide ((t:Int)<0)=false:=dy O_;have htl:=(fO.1 hv).1;have d1:decide ((ss.length:Int)≤(t:Int))=false:=dy O_;have d2:decide ((t:Int)<(ss.length:Int))=true:=cM O_;have Bl:∀ z:aL _,_:=fun z=>((h2.iD z).nu hv hu 0 O_).trans (show _=some v.task from rfl)
 simp only [gn] at Bl;rw [hi] at Bl;have xo:(op==0)=false:=gp.2 hop;exact abg
theorem Ug(h:Idle K zz c S ss w0 w F)(hv:ss[t]?=some v)(hu:S.told[t]?=some u)(h0:0≤K.au)(hm:K.au<65536)(hi:v.task=.nilIface)(hop:op≠0)(hk:K.mO=.map (some bK)){o:Obj}{f:Int→Option Value}(hkm:En.obj bK o∈F)(Of:oF o f)(hf:f op=none):
  cm 11 #[some K.bM,gB t op arg dat] w false fun w'=>Idle (K.mv (K.au+1)) zz c S ss w0 w' F:=by
 have hs:0<ss.length:=by have:=(fO.1 hv).1;omega
 have jF:=h.bm;have h1:=h.alloc #[.int .i64 (t:Int),op,arg,dat] 36;have pm:=h1.af aj;obtain⟨s1,p1⟩:=h1.bm;have dn:((ss.length:Int)==0)=false:=by rw [gp];omega
 have LV:IntKind.i64.wrap (K.au+1)=K.au+1:=ei O_ O_;have h2:=h1.vq (K.au+1);have dN:=h2.af aj;obtain⟨s2,p2⟩:=h2.bm;have z2:=h2.TJ;have WD:=h2.cell aj (i:=0) rfl;have WC:=h2.cell aj (i:=1) rfl;have WB:=h2.cell aj (i:=2) rfl;have WA:=h2.cell aj (i:=3) rfl;have dm:decide (65536≤K.au)=false:=dy O_;have d0:decide ((t:Int)<0)=false:=dy O_;have htl:=(fO.1 hv).1;have d1:decide ((ss.length:Int)≤(t:Int))=false:=dy O_;have d2:decide ((t:Int)<(ss.length:Int))=true:=cM O_;have Bl:∀ z:aL _,_:=fun z=>((h2.iD z).nu hv hu 0 O_).trans (show _=some v.task from rfl)
 simp only [gn] at Bl;rw [hi] at Bl;have xo:(op==0)=false:=gp.2 hop;have zk:=h2.mO;have zl:=h2.look (mT hkm) Of op;rw [show(K.mv (K.au+1)).mO=K.mO from rfl,hk] at zk;rw [hf] at zl;simp only [Option.getD_none] at zl;clear jF h;go_enter func11,ntmps11;go_wp2_with fail;refine qE fun PS=>?_
 go_wp2_with fail;refine qZ PS fun PR=>?_
 go_wp2_with fail;refine qZ PR fun Zk=>?_
 go_wp2;go_ret;exact⟨rfl,(h2.iD Zk).drop⟩
theorem Lm(h:Idle K zz c S ss w0 w F)(hv:ss[t]?=some v)(hu:S.told[t]?=some u)(h0:0≤K.au)(hm:K.au<65536)(hi:v.task=.nilIface)(hop:op≠0)(hk:K.mO=.map (some bK)){o:Obj}{f:Int→Option Value}(hkm:En.obj bK o∈F)(Of:oF o f){g:FuncId}{cs:Array Value}(hf:f op=some (.func (.func g) #[] cs))(hc:∀ (args:Array Value) (w:World),(callFunc g args).run prog w=.ok (.enter g args) w)(hmk:∀ (w1:World) (b:En),Idle (K.mv (K.au+1)) zz c S ss w0 w1 (b::F)→Calls prog g (#[.int .i64 t,gB t op arg dat]++cs) w1 (Made (K.mv (K.au+1)) zz c {S with th:=t} ss w0 (b::F) none)):
  cm 11 #[some K.bM,gB t op arg dat] w false fun w'=>Idle (K.mv (K.au+1)) zz c S ss w0 w' F:=by
 have hs:0<ss.length:=by have:=(fO.1 hv).1;omega
 have jF:=h.bm;have h1:=h.alloc #[.int .i64 (t:Int),op,arg,dat] 36;have pm:=h1.af aj;obtain⟨s1,p1⟩:=h1.bm;have dn:((ss.length:Int)==0)=false:=by rw [gp];omega
 have LV:IntKind.i64.wrap (K.au+1)=K.au+1:=ei O_ O_;have h2:=h1.vq (K.au+1);have dN:=h2.af aj;obtain⟨s2,p2⟩:=h2.bm;have z2:=h2.TJ;have WD:=h2.cell aj (i:=0) rfl;have WC:=h2.cell aj (i:=1) rfl;have WB:=h2.cell aj (i:=2) rfl;have WA:=h2.cell aj (i:=3) rfl;have dm:decide (65536≤K.au)=false:=dy O_;have d0:decide ((t:Int)<0)=false:=dy O_;have htl:=(fO.1 hv).1;have d1:decide ((ss.length:Int)≤(t:Int))=false:=dy O_;have d2:decide ((t:Int)<(ss.length:Int))=true:=cM O_;have Bl:∀ z:aL _,_:=fun z=>((h2.iD z).nu hv hu 0 O_).trans (show _=some v.task from rfl)
 simp only [gn] at Bl;rw [hi] at Bl;have xo:(op==0)=false:=gp.2 hop;have zk:=h2.mO;have zl:=h2.look (mT hkm) Of op;rw [show(K.mv (K.au+1)).mO=K.mO from rfl,hk] at zk;rw [hf] at zl;simp only [Option.getD_some] at zl;clear jF h;go_enter func11,ntmps11;go_wp2_with fail;refine qE fun PS=>?_
 go_wp2_with fail;refine qZ PS fun PR=>?_
 go_wp2_with fail;refine qZ PR fun Zk=>?_
 go_wp2_with fail;refine un (hmk _ _ (h2.iD Zk)) fun w3 h4=>?_
 go_wp2;go_ret;exact⟨rfl,h4.drop⟩
end
section
variable{K:Ky}{zz:Int×Int×Bool}{c:Cf}{S S':PM}{ss:List Sv}{w0 w w':World}{F G:List En}{d n b k:Nat}{x y:En}
def Opn(K:Ky)(c:Cf)(S:PM)(ss:List Sv)(w0:World)(F:List En)(nw:Int)(W:World):Prop:=
 W.cell? ⟨K.bM,0,none⟩=some (some K.bW)∧cm 113 #[some K.bW,nw] W (.tuple #[]) fun w'=>aq K c S ss w0 w' F
theorem Yo(h:Idle K zz c S ss w0 w F)(hc:0<S.calls.length)(t:Nat)(nw:Int)(last:Nat):Opn K c {S with th:=t,now:=nw,cur:=last,used:=false} ss w0 F nw (((((((w.setCell ⟨K.bM,1,none⟩ t).setCell ⟨K.bM,2,none⟩ nw).setCell ⟨K.bM,5,none⟩ false)).setCell ⟨K.bM,3,none⟩ (.pointer (some ⟨K.gc,last*9,none⟩)))).setCell ⟨K.bM,4,none⟩ (.pointer (some ⟨K.gs,t*5+3,none⟩))).drew:=by
 refine⟨?_,Pf h hc t nw last⟩;obtain⟨cv,lv,a,b,l,p,s,ah,q,h⟩:=h.old hc;have h1:=Has.fW (A:= [_,_,_,_]) h 1 t;have h2:=Has.fW (A:= [_,_,_,_]) h1 2 nw;have h3:=Has.fW (A:= [_,_,_,_]) h2 5 false;have h4:=Has.fW (A:= [_,_,_,_]) h3 3 (.pointer (some ⟨K.gc,last*9,none⟩));have h5:=Has.fW (A:= [_,_,_,_]) h4 4 (.pointer (some ⟨K.gs,t*5+3,none⟩));exact h5.drew.at_ (i:=0) iu rfl
theorem Yn(h:Idle K zz c S ss w0 w F)(hc:0<S.calls.length)(t:Nat)(nw:Int)(last:Nat):Opn K c {S with th:=t,now:=nw,cur:=last,used:=false} ss w0 F nw (((((((w.setCell ⟨K.bM,1,none⟩ t).setCell ⟨K.bM,2,none⟩ nw).setCell ⟨K.bM,5,none⟩ false)).setCell ⟨K.bM,4,none⟩ (.pointer (some ⟨K.gs,t*5+3,none⟩)))).setCell ⟨K.bM,3,none⟩ (.pointer (some ⟨K.gc,last*9,none⟩))).drew:=by
 obtain⟨cv,lv,a,b,l,p,s,ah,q,h⟩:=h.old hc;have h1:=Has.fW (A:= [_,_,_,_]) h 1 t;have h2:=Has.fW (A:= [_,_,_,_]) h1 2 nw;have h3:=Has.fW (A:= [_,_,_,_]) h2 5 false;have h4:=Has.fW (A:= [_,_,_,_]) h3 4 (.pointer (some ⟨K.gs,t*5+3,none⟩));have h5:=Has.fW (A:= [_,_,_,_]) h4 3 (.pointer (some ⟨K.gc,last*9,none⟩));refine⟨h5.drew.at_ (i:=0) iu rfl,(FR h5.drew nw).mono ?_⟩;rintro e w' ⟨rfl,h6⟩;exact⟨rfl,cv,lv,a,b,l,p,s,ah,q,h6⟩
theorem J9(ss:List Sv)(l:List (Int×Int))(i:Nat)(v:Sv):(ss.set i v).zip l=(ss.zip l).modify i fun p=>(v,p.2):=by
 refine wU fun j=>?_
 simp only [yq,List.zip,List.getElem?_zipWith,wV]
 by_cases h:i=j
 ·subst h
  simp only [dL]
  cases l[i]? with
  | none=>cases ss[i]?<;>simp
  | some v=>
   cases hl:ss[i]? with
   | none=>simp [List.getElem?_eq_none_iff.1 hl]
   | some y=>simp [(fO.1 hl).1]
 ·exact Nt
theorem aq.nu(h:aq K c S ss w0 w F){t:Nat}{v:Sv}{u:Int×Int}(hv:ss[t]?=some v)(hu:S.told[t]?=some u):∀ i,i<5→w.cell? ⟨K.gs,t*5+i,none⟩=(dO (v,u))[i]?:=abC
theorem aq.yD(h:aq K c S ss w0 w F)(i:Nat):w.frozen? ⟨K.gs,i,none⟩=false:=R7
theorem aq.rA(h:aq K c S ss w0 w F)(i:Nat):w.frozen? ⟨K.gc,i,none⟩=false:=by
 obtain⟨cv,lv,a,b,l,p,s,ah,q,h⟩:=h;exact h.gL (g:=K.gc) (c:=K.cc) xJ i
theorem aq.zv(h:aq K c S ss w0 w F){k:Nat}{z:Cl}(hz:S.calls[k]?=some z):∀ i,i<9→w.cell? ⟨K.gc,k*9+i,none⟩=(Cl.enc z)[i]?:=by
 obtain⟨cv,lv,a,b,l,p,s,ah,q,h⟩:=h;intro i hi;obtain⟨x,hx⟩:∃ x,(Cl.enc z)[i]?=some x:=⟨_,fy (by simpa [Cl.enc] using hi)⟩;rw [hx];exact h.ey (g:=K.gc) (c:=K.cc) xJ (flat_get Cl.enc 9 (fun _=>rfl) hz hx)
theorem aq.uv(h:aq K c S ss w0 w F){t:Nat}{v v':Sv}{u:Int×Int}(hv:ss[t]?=some v)(hu:S.told[t]?=some u){i:Nat}{x:Value}(he:dO (v',u)=(dO (v,u)).set i x)(hi:i<5):
  aq K c S (ss.set t v') w0 (w.setCell ⟨K.gs,t*5+i,none⟩ x) F:=by
 obtain⟨cv,lv,a,b,l,p,s,ah,q,h⟩:=h;have hz:(ss.zip S.told)[t]?=some (v,u):=by rw [JO];exact⟨hv,hu⟩
 have h2:=Has.fD (A:= [_,_,_,_,_,_,_]) h (t*5+i) x;refine⟨cv,lv,a,b,l,p,s,ah,q,?_⟩;unfold gy;rw [cW,J9,iK dO 5 (fun _=>rfl) hz (f:=fun p=>(v',p.2)) he hi];exact h2
theorem aq.fU(h:aq K c S ss w0 w F){k:Nat}{z:Cl}(hz:S.calls[k]?=some z)(f:Cl→Cl){i:Nat}{x:Value}(he:Cl.enc (f z)=(Cl.enc z).set i x)(hi:i<9):
  aq K c {S with calls:=S.calls.modify k f} ss w0 (w.setCell ⟨K.gc,k*9+i,none⟩ x) F:=by
 obtain⟨cv,lv,a,b,l,p,s,ah,q,h⟩:=h;have h2:=Has.fD (A:= [_,_,_,_,_,_]) h (k*9+i) x;refine⟨cv,lv,a,b,l,p,s,ah,q,?_⟩;unfold gy;rw [show({S with calls:=S.calls.modify k f}:PM).calls.length=S.calls.length from g8 _ _ _,show({S with calls:=S.calls.modify k f}:PM).calls.flatMap Cl.enc=(S.calls.flatMap Cl.enc).set (k*9+i) x from iK Cl.enc 9 (fun _=>rfl) hz he hi];exact h2
theorem aq.bm(h:aq K c S ss w0 w F):∃ s:Value,AF K.bM [some K.bW,S.th,S.now,.pointer (some ⟨K.gc,S.cur*9,none⟩),.pointer (some ⟨K.gs,S.th*5+3,none⟩),S.used,s,K.mO,.slice (some ⟨K.gs,0,none⟩) ss.length K.cs,K.au,.slice (some ⟨K.gc,0,none⟩) S.calls.length K.cc] w:=Sm
theorem aq.close(h:aq K c S ss w0 w F)(hc:0<S.calls.length):Idle K (S.th,S.now,S.used) c S ss w0 ((w.setCell ⟨K.bM,3,none⟩ (.pointer none)).setCell ⟨K.bM,4,none⟩ (.pointer none)) F:=by
 obtain⟨cv,lv,a,b,l,p,s,ah,q,h⟩:=h;have h1:=Has.fW (A:= [_,_,_,_]) h 3 (.pointer none);have h2:=Has.fW (A:= [_,_,_,_]) h1 4 (.pointer none);exact Idle.Ro hc a b q h2
end
theorem MO{op:Int}(P:Int→Bool)(gI:op≠10)(lQ:op≠11)(h12:op≠12)(qj:op≠20)(k8:op≠21)(pI:op≠22)(h23:op≠23)(uE:op≠24)(tT:op≠25)(jS:op≠30)(qi:op≠31)(Gj:op≠40)(Gh:op≠41)(Gg:op≠50)(Gf:op≠51)(Ge:op≠52)(Gb:op≠60)(F9:op≠61)(F8:op≠62):aM.find? (fun e=>e.op==op && P e.dP)=none:=by
 simp [aM,e4,e5,e6,e7,e8,e9,(iS gI),(iS lQ),(iS h12),(iS qj),(iS k8),(iS pI),(iS h23),(iS uE),(iS tT),(iS jS),(iS qi),(iS Gj),(iS Gh),(iS Gg),(iS Gf),(iS Ge),(iS Gb),(iS F9),(iS F8)]
theorem VD(P:Int→Bool):aM.find? (fun e=>e.op==10 && P e.dP)=if P 0 then some ⟨10,20,0⟩ else none:=by
 simp [aM,e4,e5,e6,e7,e8,e9,DC]
 cases P 0<;>rfl
theorem VC(P:Int→Bool):aM.find? (fun e=>e.op==11 && P e.dP)=if P 4 then some ⟨11,21,4⟩ else none:=by
 simp [aM,e4,e5,e6,e7,e8,e9,DC]
 cases P 4<;>rfl
theorem VB(P:Int→Bool):aM.find? (fun e=>e.op==12 && P e.dP)=if P 0 then some ⟨12,23,0⟩ else none:=by
 simp [aM,e4,e5,e6,e7,e8,e9,DC]
 cases P 0<;>rfl
theorem VA(P:Int→Bool):aM.find? (fun e=>e.op==20 && P e.dP)=if P 2 then some ⟨20,60,2⟩ else none:=by
 simp [aM,e4,e5,e6,e7,e8,e9,DC]
 cases P 2<;>rfl
theorem MJ(P:Int→Bool):aM.find? (fun e=>e.op==21 && P e.dP)=if P 1 then some ⟨21,63,1⟩ else none:=sW
theorem MI(P:Int→Bool):aM.find? (fun e=>e.op==22 && P e.dP)=if P 1 then some ⟨22,70,1⟩ else none:=sW
theorem MH(P:Int→Bool):aM.find? (fun e=>e.op==23 && P e.dP)=if P 3 then some ⟨23,80,3⟩ else none:=by
 simp [aM,e4,e5,e6,e7,e8,e9,DC]
 cases P 3<;>rfl
theorem MG(P:Int→Bool):aM.find? (fun e=>e.op==24 && P e.dP)=if P 3 then some ⟨24,65,3⟩ else none:=by
 simp [aM,e4,e5,e6,e7,e8,e9,DC]
 cases P 3<;>rfl
theorem MF(P:Int→Bool):aM.find? (fun e=>e.op==25 && P e.dP)=if P 1 then some ⟨25,66,1⟩ else none:=sW
theorem ME(P:Int→Bool):aM.find? (fun e=>e.op==30 && P e.dP)=if P 1 then some ⟨30,100,1⟩ else none:=sW
theorem MD(P:Int→Bool):aM.find? (fun e=>e.op==31 && P e.dP)=if P 1 then some ⟨31,110,1⟩ else none:=sW
theorem MC(P:Int→Bool):aM.find? (fun e=>e.op==40 && P e.dP)=if P 1 then some ⟨40,120,1⟩ else none:=sW
theorem MB(P:Int→Bool):aM.find? (fun e=>e.op==41 && P e.dP)=if P 1 then some ⟨41,140,1⟩ else none:=sW
theorem MA(P:Int→Bool):aM.find? (fun e=>e.op==50 && P e.dP)=if P 1 then some ⟨50,180,1⟩ else none:=sW
theorem Mz(P:Int→Bool):aM.find? (fun e=>e.op==51 && P e.dP)=if P 1 then some ⟨51,181,1⟩ else none:=sW
theorem My(P:Int→Bool):aM.find? (fun e=>e.op==52 && P e.dP)=if P 1 then some ⟨52,182,1⟩ else none:=sW
theorem Mx(P:Int→Bool):aM.find? (fun e=>e.op==60 && P e.dP)=if P 1 then some ⟨60,200,1⟩ else none:=sW
theorem Mw(P:Int→Bool):aM.find? (fun e=>e.op==61 && P e.dP)=if P 1 then some ⟨61,210,1⟩ else none:=sW
theorem Mu(P:Int→Bool):aM.find? (fun e=>e.op==62 && P e.dP)=if P 1 then some ⟨62,205,1⟩ else none:=sW
variable{S:PM}
theorem BQ{a t:Int}(h:0≤a)(h':a<S.slots.length):(S.slots.getD a.toNat (0,-1)=(2,t))↔((S.slots.map (·.1)).getD a.toNat 0=2∧(S.slots.map (·.2)).getD a.toNat 0=t):=by
 have hlt:a.toNat<S.slots.length:=O_
 simp only [kO,gA,fy hlt,Bg,Option.getD_some];obtain⟨x,y⟩:=S.slots[a.toNat];simp
variable{c:Cf}
theorem Yz{t:RT}{m:RM}{op arg dat:Int}(hs:m.states=S.slots.map (·.1))(hh:m.bS=S.slots.map (·.2))(hl:(S.slots.length:Int)=c.S)(hrc:t.rc=S.rc)(hk:Kr arg):
  match dh c S op arg dat with
  | none=>aM.find? (fun e=>e.op==op && m.may c t S.th arg e.dP)=none
  | some q=>∃ e,aM.find? (fun e=>e.op==op && m.may c t S.th arg e.dP)=some e∧∀ S1:PM,S1.cj=(1,0)→S1.arg=arg→S1.dat=dat→S1.rc=S.rc→wK c q S1 (cI e.label):=by
 by_cases gI:op=10
 ·subst gI
  rw [show dh c S 10 arg dat=some (.take .new) from rfl];simp only;rw [VD (fun n=>m.may c t S.th arg n)];refine⟨_,rfl,fun S1 ha hg hd hr=>⟨ha,rfl,rfl⟩⟩
 by_cases lQ:op=11
 ·subst lQ
  rw [VC (fun n=>m.may c t S.th arg n)]
  have e:m.may c t S.th arg 4=decide (0≤arg∧arg<c.S∧S.slots.getD arg.toNat (0,-1)=(2,(S.th:Int))):=by
   unfold RM.may;rw [aK D_,aK D_,aK D_,aY rfl,hs,hh]
   congr 1
   refine propext ⟨fun⟨a,b,p⟩=>⟨a,b,(BQ a O_).2 p⟩,fun⟨a,b,p⟩=>⟨a,b,(BQ a O_).1 p⟩⟩
  rw [e];have e2:dh c S 11 arg dat=if 0≤arg∧arg<c.S∧S.slots.getD arg.toNat (0,-1)=(2,(S.th:Int)) then some (.aU (.aU arg)) else none:=rfl;rw [e2]
  by_cases h:0≤arg∧arg<c.S∧S.slots.getD arg.toNat (0,-1)=(2,(S.th:Int))
  ·rw [aY h,cM h]
   exact⟨_,rfl,fun S1 ha hg hd hr=>⟨ha,by rw [hg],by rw [hg];exact h.1,by rw [hg];exact h.2.1,rfl⟩⟩
  ·rw [aK h,dy h]
   rfl
 by_cases h12:op=12
 ·subst h12
  rw [show dh c S 12 arg dat=some (.flush ⟨0,0,0⟩) from rfl];simp only;rw [VB (fun n=>m.may c t S.th arg n)];refine⟨_,rfl,fun S1 ha hg hd hr=>⟨ha,rfl⟩⟩
 by_cases qj:op=20
 ·subst qj
  rw [VA (fun n=>m.may c t S.th arg n)];have e:m.may c t S.th arg 2=decide (S.rc<0):=by unfold RM.may;rw [aK D_,aY rfl,hrc]
  rw [e];have e2:dh c S 20 arg dat=if 0≤S.rc then none else some (.gm ⟨0,false⟩):=rfl;rw [e2]
  by_cases h:0≤S.rc
  ·rw [aY h,dy O_]
   rfl
  ·rw [aK h,cM O_]
   exact⟨_,rfl,fun S1 ha hg hd hr=>⟨ha,rfl,rfl⟩⟩
 have e1:m.may c t S.th arg 1=decide (0≤S.rc):=by unfold RM.may;rw [aY rfl,hrc]
 have e3:m.may c t S.th arg 3=decide (0≤S.rc∧0≤arg∧arg<c.H):=by unfold RM.may;rw [aK D_,aK D_,aY rfl,hrc]
 have e0:dh c S op arg dat=if S.rc<0 then none
   else if op=21 then some (.unreg ⟨0,0,none,none⟩)
   else if op=22 then some (.post ⟨arg,0,.new,0,0,none⟩)
   else if op=23 then if 0≤arg∧arg<c.H then some (.read ⟨S.hz c arg,0,0,0⟩) else none
   else if op=24 then if 0≤arg∧arg<c.H then some (.clear (S.hz c arg)) else none
   else if op=25 then some (.scan (.new S.rc))
   else if op=30 then some (.push ⟨arg,.new,0,0,0⟩)
   else if op=31 then some (.pop ⟨0,0,0,false,none,0⟩)
   else if op=40 then some (.enq ⟨arg,0,.new,0,0,0,0⟩)
   else if op=41 then some (.deq ⟨0,0,0,0,0,false,0,0,0,none⟩)
   else if op=50 then some (.ins ⟨.new (c.ad 6 0) arg,0,none,none,-1⟩)
   else if op=51 then some (.del ⟨.new (c.ad 6 0) arg,none⟩)
   else if op=52 then some (.con (.new (c.ad 6 0) arg))
   else if op=60 then some (.ins ⟨.new (c.ad 7 (u64 arg % c.B)) arg,dat,none,none,-1⟩)
   else if op=61 then some (.tab ⟨.new 0 0,c.ad 7 (u64 arg % c.B),arg,0,0,true,none,0⟩)
   else if op=62 then some (.tab ⟨.new 0 0,c.ad 7 (u64 arg % c.B),arg,0,0,false,none,0⟩)
   else none:=by unfold dh;rw [aK gI,aK lQ,aK h12,aK qj]
 rw [e0];clear e0
 by_cases hc:S.rc<0
 ·rw [aY hc]
  rw [dy O_] at e1;rw [dy O_] at e3;simp only
  by_cases k8:op=21
  ·subst k8
   rw [MJ (fun n=>m.may c t S.th arg n),e1]
   rfl
  by_cases pI:op=22
  ·subst pI
   rw [MI (fun n=>m.may c t S.th arg n),e1]
   rfl
  by_cases h23:op=23
  ·subst h23
   rw [MH (fun n=>m.may c t S.th arg n),e3]
   rfl
  by_cases uE:op=24
  ·subst uE
   rw [MG (fun n=>m.may c t S.th arg n),e3]
   rfl
  by_cases tT:op=25
  ·subst tT
   rw [MF (fun n=>m.may c t S.th arg n),e1]
   rfl
  by_cases jS:op=30
  ·subst jS
   rw [ME (fun n=>m.may c t S.th arg n),e1]
   rfl
  by_cases qi:op=31
  ·subst qi
   rw [MD (fun n=>m.may c t S.th arg n),e1]
   rfl
  by_cases Gj:op=40
  ·subst Gj
   rw [MC (fun n=>m.may c t S.th arg n),e1]
   rfl
  by_cases Gh:op=41
  ·subst Gh
   rw [MB (fun n=>m.may c t S.th arg n),e1]
   rfl
  by_cases Gg:op=50
  ·subst Gg
   rw [MA (fun n=>m.may c t S.th arg n),e1]
   rfl
  by_cases Gf:op=51
  ·subst Gf
   rw [Mz (fun n=>m.may c t S.th arg n),e1]
   rfl
  by_cases Ge:op=52
  ·subst Ge
   rw [My (fun n=>m.may c t S.th arg n),e1]
   rfl
  by_cases Gb:op=60
  ·subst Gb
   rw [Mx (fun n=>m.may c t S.th arg n),e1]
   rfl
  by_cases F9:op=61
  ·subst F9
   rw [Mw (fun n=>m.may c t S.th arg n),e1]
   rfl
  by_cases F8:op=62
  ·subst F8
   rw [Mu (fun n=>m.may c t S.th arg n),e1]
   rfl
  exact SP
 rw [aK hc];rw [cM O_] at e1
 by_cases k8:op=21
 ·subst k8
  rw [MJ (fun n=>m.may c t S.th arg n),e1];exact R9
 rw [aK k8]
 by_cases pI:op=22
 ·subst pI
  rw [MI (fun n=>m.may c t S.th arg n),e1];exact Se
 rw [aK pI]
 by_cases h23:op=23
 ·subst h23
  rw [MH (fun n=>m.may c t S.th arg n),e3];rw [aY rfl]
  by_cases q:0≤arg∧arg<c.H
  ·rw [aY q,cM ⟨O_,q⟩]
   exact⟨_,rfl,fun S1 ha hg hd hr=>⟨ha,by show _=oS.mk (c.ad 9 (S1.rc*c.H+S1.arg)) 0 0 0;rw [hg,hr];rfl,by rw [hg];exact q.1,by rw [hg];exact q.2,O_,rfl⟩⟩
  ·rw [aK q,dy fun r=>q r.2]
   rfl
 rw [aK h23]
 by_cases uE:op=24
 ·subst uE
  rw [MG (fun n=>m.may c t S.th arg n),e3];rw [aY rfl]
  by_cases q:0≤arg∧arg<c.H
  ·rw [aY q,cM ⟨O_,q⟩]
   exact⟨_,rfl,fun S1 ha hg hd hr=>⟨ha,by show _=c.ad 9 (S1.rc*c.H+S1.arg);rw [hg,hr];rfl,by rw [hg];exact q.1,by rw [hg];exact q.2,O_,rfl⟩⟩
  ·rw [aK q,dy fun r=>q r.2]
   rfl
 rw [aK uE]
 by_cases tT:op=25
 ·subst tT
  rw [MF (fun n=>m.may c t S.th arg n),e1];rw [aY rfl];exact⟨_,rfl,fun S1 ha hg hd hr=>⟨ha,by rw [hr],O_,rfl⟩⟩
 rw [aK tT]
 by_cases jS:op=30
 ·subst jS
  rw [ME (fun n=>m.may c t S.th arg n),e1];rw [aY rfl];exact⟨_,rfl,fun S1 ha hg hd hr=>⟨ha,by rw [hg],rfl⟩⟩
 rw [aK jS]
 by_cases qi:op=31
 ·subst qi
  rw [MD (fun n=>m.may c t S.th arg n),e1];exact R9
 rw [aK qi]
 by_cases Gj:op=40
 ·subst Gj
  rw [MC (fun n=>m.may c t S.th arg n),e1];exact Se
 rw [aK Gj]
 by_cases Gh:op=41
 ·subst Gh
  rw [MB (fun n=>m.may c t S.th arg n),e1];rw [aY rfl];exact⟨_,rfl,fun S1 ha hg hd hr=>⟨ha,rfl,rfl,O_,rfl⟩⟩
 rw [aK Gh]
 by_cases Gg:op=50
 ·subst Gg
  rw [MA (fun n=>m.may c t S.th arg n),e1];rw [aY rfl];exact⟨_,rfl,fun S1 ha hg hd hr=>⟨ha,O_,by rw [hg];exact hk,.inl ⟨by rw [hg],rfl⟩⟩⟩
 rw [aK Gg]
 by_cases Gf:op=51
 ·subst Gf
  rw [Mz (fun n=>m.may c t S.th arg n),e1];exact Sf
 rw [aK Gf]
 by_cases Ge:op=52
 ·subst Ge
  rw [My (fun n=>m.may c t S.th arg n),e1];exact Sf
 rw [aK Ge]
 by_cases Gb:op=60
 ·subst Gb
  rw [Mx (fun n=>m.may c t S.th arg n),e1];rw [aY rfl];exact⟨_,rfl,fun S1 ha hg hd hr=>⟨ha,O_,by rw [hg];exact hk,.inr ⟨by rw [hg,hd],rfl⟩⟩⟩
 rw [aK Gb]
 by_cases F9:op=61
 ·subst F9
  rw [Mw (fun n=>m.may c t S.th arg n),e1];exact Si
 rw [aK F9]
 by_cases F8:op=62
 ·subst F8
  rw [Mu (fun n=>m.may c t S.th arg n),e1];exact Si
 rw [aK F8];exact SP
structure N0(c:Cf)(S:PM):Prop where
 ok:bY c.T c.R c.H c.Re c.Ca c.S c.B
 len:(S.words.length:Int)=b7 c.R c.H c.S c.B 13
 wk:∀ a:Int,0≤a→a<S.words.length→Pw c (kd c a) (S.w a)
 sl:(S.slots.length:Int)=c.S
 ca:(S.aO.length:Int)=c.T
 BA:∀ l∈S.aO,∀ x∈l,0≤x∧x<c.S
 he:(S.held.length:Int)=c.T
 xm:∀ x∈S.held,-1≤x∧x<c.R
 li:(S.lists.length:Int)=c.R
 Bo:∀ l∈S.lists,∀ x∈l,0≤x∧x<c.S
 ag:(S.told.length:Int)=c.T
theorem Inv.dX{th:Nat}(I:Inv c th S):N0 c S:=⟨I.ok,I.len,I.wk,I.sl,I.ca,I.BA,I.he,I.xm,I.li,I.Bo,I.ag⟩
theorem N0.inv(G:N0 c S){th:Nat}{now:Int}{cur:Nat}(h:(th:Int)<c.T)(hn:0≤now∧now<65536)(hc:∃ x,S.calls[cur]?=some x∧x.th=th∧x.av=0):Inv c th {S with th:=th,now:=now,cur:=cur,used:=false}:=
 ⟨G.ok,rfl,G.len,G.wk,G.sl,G.ca,G.BA,G.he,G.xm,G.li,G.Bo,G.ag,h,hn,hc⟩
def PM.on(S:PM)(j:Nat)(last:Int):PM:={S with th:=j,cur:=last.toNat}
def Sit(c:Cf)(S:PM)(j:Nat)(s:iQ)(t:RT):Prop:=
 t.cache=S.aO.getD j []∧t.rc=S.held.getD j (-1)∧
 match s.task with
 | none=>t.busy=false
 | some q=>t.busy=true∧t.call=s.last.toNat∧(∃ x,S.calls[s.last.toNat]?=some x∧x.th=j∧x.av=0)∧
  (if s.ready then mS c q (S.on j s.last) t.pc t.R t.back t.names t.pending else wK c q (S.on j s.last) t.pc∧t.R=(fun _=>0)∧t.back= [])
structure MR(c:Cf)(M:MM)(m:RM):Prop where
 dX:N0 c M.pm
 mv:0≤M.au
 eq:m=rm {M.pm with now:=M.au} m.T
 l1:(M.bI.length:Int)=c.T
 l2:(m.T.length:Int)=c.T
 BS:∀ (j:Nat) (s:iQ) (t:RT),M.bI[j]?=some s→m.T[j]?=some t→Sit c M.pm j s t
theorem q8{α:Type}{l l':List α}{j:Nat}(h:l'[j]?=l[j]?)(d:α):l'.getD j d=l.getD j d:=by rw [kO,kO,h]
theorem Sit.fr{S S':PM}{j:Nat}{s:iQ}{t:RT}(h:Sit c S j s t)(h1:S'.aO[j]?=S.aO[j]?)(h2:S'.held[j]?=S.held[j]?)(h3:S'.told[j]?=S.told[j]?)(h4:∀ (k:Nat) (x:Cl),S.calls[k]?=some x→x.th=j→S'.calls[k]?=some x):Sit c S' j s t:=by
 obtain⟨a,b,h⟩:=h;refine⟨a.trans (q8 h1 _).symm,b.trans (q8 h2 _).symm,?_⟩
 cases hq:s.task with
 | none=>rw [hq] at h;exact h
 | some q=>
  rw [hq] at h;obtain⟨hb,hc,⟨x,hx,hx1,hx2⟩,h⟩:=h
  have L:NS (S.on j s.last) (S'.on j s.last):=by
   have hx':=h4 _ x hx hx1;refine⟨q8 h2 _,q8 h1 _,q8 h3 _,?_,?_⟩
   ·show(match S'.calls[s.last.toNat]? with | some x=>x.arg | none=>0)=(match S.calls[s.last.toNat]? with | some x=>x.arg | none=>0)
    rw [hx,hx']
   ·show(match S'.calls[s.last.toNat]? with | some x=>x.dat | none=>0)=(match S.calls[s.last.toNat]? with | some x=>x.dat | none=>0)
    rw [hx,hx']
  refine⟨hb,hc,⟨x,h4 _ x hx hx1,hx1,hx2⟩,?_⟩
  cases hr:s.ready with
  | true=>rw [hr,aY rfl] at h;rw [aY rfl];exact zN L h
  | false=>rw [hr,aK S_] at h;rw [aK S_];exact⟨go_like L h.1,h.2⟩
theorem gU{α:Type}{l:List α}{i:Nat}{x y:α}(h:l[i]?=some y):(l.set i x)[i]?=some x:=by
 rw [g9 (fO.1 h).1]
theorem VE{t:Nat}{last mv:Int}(h1:S.th=t)(h2:S.now=mv)(h3:S.cur=last.toNat):
  {S with calls:=S.calls.modify last.toNat fun x=>{x with en:=mv,ak:=(S.told.getD t (0,0)).1,av:=(S.told.getD t (0,0)).2}}=S.fin:=by
 subst h1 h2;rw [←h3]
 rfl
theorem FB{M:MM}{m:RM}(h:MR c M m){t:Nat}{s:iQ}{q:Tq}(hs:M.bI[t]?=some s)(hq:s.task=some q)(hm:M.au<65536):
  ∃ (n:Nat) (m':RM),m.step c n t=some m'∧MR c (M.step c t q s) {m' with au:=m'.au+1}:=by
 have htl:t<M.bI.length:=(fO.1 hs).1;have WX:(t:Int)<c.T:=by have:=h.l1;omega
 obtain⟨x,hx⟩:∃ x,m.T[t]?=some x:=⟨_,fy (by have:=h.l2;omega)⟩;have ji:=h.BS t s x hs hx;obtain⟨hca,hrc,ji⟩:=ji;rw [hq] at ji;obtain⟨Me,hcall,fQ,rV⟩:=ji;have I:=h.dX.inv (now:=M.au) (cur:=s.last.toNat) WX ⟨h.mv,hm⟩ fQ;obtain⟨S,hS⟩:∃ S,S={M.pm with th:=t,now:=M.au,cur:=s.last.toNat,used:=false}:=⟨_,rfl⟩;rw [←hS] at I
 have hx':x=rt S x.pc x.R x.back x.names x.pending:=by
  subst hS;obtain⟨b,ca,pc,R,bk,cc,rc,nm,pd⟩:=x;simp only at hca hrc Me hcall;subst hca hrc Me hcall
  rfl
 have hm':m=rm S m.T:=by subst hS;exact h.eq
 have L:NS (M.pm.on t s.last) S:=by subst hS;exact⟨rfl,rfl,rfl,rfl,rfl⟩
 have AA:if s.ready then mS c q S x.pc x.R x.back x.names x.pending else wK c q S x.pc∧x.R=(fun _=>0)∧x.back= []:=by
  cases hr:s.ready with
  | true=>rw [hr,aY rfl] at rV;rw [aY rfl];exact zN L rV
  | false=>rw [hr,aK S_] at rV;rw [aK S_];exact⟨go_like L rV.1,rV.2⟩
 obtain⟨b,q',S',cZ,R',eF,cG,cE,n,hd,I',K',hend⟩:=MW (X:=m.T) I AA;have mF:S'.th=t:=I'.me;have Vd:S'.now=M.au:=by rw [K'.now,hS]
 have Ew:S'.cur=s.last.toNat:=by rw [K'.cur,hS]
 obtain⟨y,hy,hy1,hy2⟩:=I'.cl
 have hstep:M.step c t q s=if b then{pm:=S'.fin,bI:=M.bI.set t ⟨none,true,s.last⟩,au:=M.au+1} else{pm:=S',bI:=M.bI.set t ⟨some q',true,s.last⟩,au:=M.au+1}:=by
  have e:M.step c t q s=(let r:=MM.xo c s.ready q S
   if r.1 then{pm:={r.2.2 with calls:=r.2.2.calls.modify s.last.toNat fun x=>{x with en:=M.au,ak:=(r.2.2.told.getD t (0,0)).1,av:=(r.2.2.told.getD t (0,0)).2}},bI:=M.bI.set t ⟨none,true,s.last⟩,au:=M.au+1}
   else{pm:=r.2.2,bI:=M.bI.set t ⟨some r.2.1,true,s.last⟩,au:=M.au+1}):=by rw [hS];rfl
  rw [e,hd];simp only;rw [VE mF Vd Ew]
 have fr:=K'.fr
 have oth:∀ (j:Nat) (s1:iQ) (t1:RT) (S2:PM),j≠t→M.bI[j]?=some s1→m.T[j]?=some t1→S2.aO=S'.aO→S2.held=S'.held→S2.told=S'.told→(∀ k,k≠s.last.toNat→S2.calls[k]?=S'.calls[k]?)→Sit c S2 j s1 t1:=by
  intro j s1 t1 S2 hj h1 h2 e1 e2 e3 e4;have hj':j≠S.th:=by rw [hS];exact hj
  refine(h.BS j s1 t1 h1 h2).fr (by rw [e1,fr.ca j hj',hS]) (by rw [e2,fr.he j hj',hS]) (by rw [e3,fr.ag j hj',hS]) fun k z hz II=>?_
  have hk:k≠s.last.toNat:=by
   rintro rfl;obtain⟨w,hw,hw1,_⟩:=fQ;rw [hw] at hz
   cases hz
   exact hj O_
  rw [e4 k hk,fr.cl k (by rw [hS];exact hk),hS];exact hz
 rcases hend with ⟨rfl,hat2,ng⟩ | ⟨rfl,ng⟩
 ·refine⟨n,{rm S' m.T with T:=m.T.set t (rt S' cZ R' eF cG cE)},?_,?_⟩
  ·unfold RM.step
   rw [hx];simp only;rw [hx',hm',ng]
   rfl
  ·rw [hstep,aK S_]
   refine⟨I'.dX,by show 0≤M.au+1;have:=h.mv;omega,?_,by show((M.bI.set t _).length:Int)=c.T;rw [cW];exact h.l1,by show((m.T.set t _).length:Int)=c.T;rw [cW];exact h.l2,?_⟩
   ·show({rm S' m.T with T:=m.T.set t (rt S' cZ R' eF cG cE),au:=S'.now+1}:RM)=_
    rw [Vd];rfl
   ·intro j s1 t1 h1 h2
    by_cases hj:j=t
    ·subst hj
     have e1:=gU (x:=(⟨some q',true,s.last⟩:iQ)) hs;have e2:=gU (x:=rt S' cZ R' eF cG cE) hx;rw [show(M.bI.set j _)[j]?=some s1 from h1] at e1;rw [show(m.T.set j _)[j]?=some t1 from h2] at e2
     cases e1;cases e2
     have hon:S'.on j s.last=S':=by
      unfold PM.on;rw [←Ew];subst mF
      rfl
     refine⟨by show S'.cache=_;rw [PM.cache,mF],by show S'.rc=_;rw [PM.rc,mF],rfl,Ew,⟨y,by rw [←Ew];exact hy,hy1,hy2⟩,?_⟩;rw [aY rfl,hon];exact hat2
    ·exact oth j s1 t1 S' hj ((kV _ hj _).symm.trans h1) ((kV _ hj _).symm.trans h2) rfl rfl rfl fun _ _=>rfl
 ·refine⟨n,{rm S'.fin m.T with T:=m.T.set t {rt S' cZ R' eF cG cE with busy:=false}},?_,?_⟩
  ·unfold RM.step
   rw [hx];simp only;rw [hx',hm',ng]
   rfl
  ·rw [hstep,aY rfl]
   have G:=I'.dX;refine⟨⟨G.ok,G.len,G.wk,G.sl,G.ca,G.BA,G.he,G.xm,G.li,G.Bo,G.ag⟩,by show 0≤M.au+1;have:=h.mv;omega,?_,by show((M.bI.set t _).length:Int)=c.T;rw [cW];exact h.l1,by show((m.T.set t _).length:Int)=c.T;rw [cW];exact h.l2,?_⟩
   ·show({rm S'.fin m.T with T:=m.T.set t {rt S' cZ R' eF cG cE with busy:=false},au:=S'.now+1}:RM)=_
    rw [Vd];rfl
   ·intro j s1 t1 h1 h2
    by_cases hj:j=t
    ·subst hj
     have e1:=gU (x:=(⟨none,true,s.last⟩:iQ)) hs;have e2:=gU (x:={rt S' cZ R' eF cG cE with busy:=false}) hx;rw [show(M.bI.set j _)[j]?=some s1 from h1] at e1;rw [show(m.T.set j _)[j]?=some t1 from h2] at e2
     cases e1;cases e2
     exact⟨by show S'.cache=_;rw [PM.cache,mF];rfl,by show S'.rc=_;rw [PM.rc,mF];rfl,rfl⟩
    ·refine oth j s1 t1 S'.fin hj ((kV _ hj _).symm.trans h1) ((kV _ hj _).symm.trans h2) rfl rfl rfl fun k hk=>?_
     show(S'.calls.modify S'.cur _)[k]?=_
     rw [yq,Ew]
     cases S'.calls[k]? with
     | none=>rfl
     | some z=>exact ep some (aK (iS hk))
theorem Px{M:MM}{m:RM}(h:MR c M m){v:Mv}(hk:Kr v.arg):∃ (n:Nat) (m':RM),m.move c n v=some ((M.move c v).1,m')∧MR c (M.move c v).2 m':=by
 have Ay:m.au=M.au:=by rw [h.eq];rfl
 have hl:m.T.length=M.bI.length:=by have:=h.l1;have:=h.l2;omega
 have skip:MR c {M with au:=M.au+1} {m with au:=m.au+1}:=by
  refine⟨h.dX,by show 0≤M.au+1;have:=h.mv;omega,?_,h.l1,h.l2,h.BS⟩;rw [h.eq];rfl
 by_cases h1:65536≤M.au
 ·have eM:M.move c v=(false,M):=by unfold MM.move;rw [aY h1]
  exact⟨0,m,by rw [eM];unfold RM.move;rw [Ay,aY h1],by rw [eM];exact h⟩
 have eR:∀ n,m.move c n v=(m.nF c n v).map fun x=>(x.1,{x.2 with au:=x.2.au+1}):=fun n=>by unfold RM.move;rw [Ay,aK h1]
 by_cases h2:v.th<0∨(M.bI.length:Int)≤v.th
 ·have eM:M.move c v=(false,{M with au:=M.au+1}):=by unfold MM.move;rw [aK h1,aY h2]
  refine⟨0,{m with au:=m.au+1},?_,by rw [eM];exact skip⟩;rw [eM,eR];unfold RM.nF;rw [hl,aY h2];rfl
 have ht:v.th.toNat<M.bI.length:=O_
 obtain⟨s,hs⟩:∃ s,M.bI[v.th.toNat]?=some s:=⟨_,fy ht⟩;obtain⟨x,hx⟩:∃ x,m.T[v.th.toNat]?=some x:=⟨_,fy O_⟩;have ji:=h.BS _ s x hs hx
 cases hq:s.task with
 | some q=>
  have hb:x.busy=true:=by
   obtain⟨_,_,ji⟩:=ji;rw [hq] at ji;exact ji.1
  by_cases h3:v.op=0
  ·obtain⟨n,m',e,h'⟩:=FB h hs hq O_
   have eM:M.move c v=(true,M.step c v.th.toNat q s):=by unfold MM.move;rw [aK h1,aK h2,hs];simp only [hq,aY h3]
   refine⟨n,{m' with au:=m'.au+1},?_,by rw [eM];exact h'⟩;rw [eM,eR];unfold RM.nF;rw [hl,aK h2,hx];simp only [h3,dL,hb,e,Bg]
  ·have eM:M.move c v=(false,{M with au:=M.au+1}):=by unfold MM.move;rw [aK h1,aK h2,hs];simp only [hq,aK h3]
   refine⟨0,{m with au:=m.au+1},?_,by rw [eM];exact skip⟩;rw [eM,eR];unfold RM.nF;rw [hl,aK h2,hx];simp only [aK h3,hb,dL,Bg]
 | none=>
  have hb:x.busy=false:=by
   obtain⟨_,_,ji⟩:=ji;rw [hq] at ji;exact ji
  by_cases h3:v.op=0
  ·have eM:M.move c v=(false,{M with au:=M.au+1}):=by unfold MM.move;rw [aK h1,aK h2,hs];simp only [hq,aY h3]
   refine⟨0,{m with au:=m.au+1},?_,by rw [eM];exact skip⟩;rw [eM,eR];unfold RM.nF;rw [hl,aK h2,hx];simp only [aY h3,hb,mD,eu,Bg]
  ·have mF:((v.th.toNat:Nat):Int)=v.th:=O_
   have hmk:=Yz (c:=c) (S:={M.pm with th:=v.th.toNat}) (t:=x) (m:=m) (op:=v.op) (arg:=v.arg) (dat:=v.dat) (by rw [h.eq];rfl) (by rw [h.eq];rfl) h.dX.sl ji.2.1 hk;rw [show(({M.pm with th:=v.th.toNat}:PM).th:Int)=v.th from mF] at hmk
   cases hmt:dh c {M.pm with th:=v.th.toNat} v.op v.arg v.dat with
   | none=>
    rw [hmt] at hmk;have eM:M.move c v=(false,{M with au:=M.au+1}):=by unfold MM.move;rw [aK h1,aK h2,hs];simp only [hq,aK h3,hmt]
    refine⟨0,{m with au:=m.au+1},?_,by rw [eM];exact skip⟩;rw [eM,eR];unfold RM.nF;rw [hl,aK h2,hx];simp only [aK h3,hb,mD,eu];rw [hmk];rfl
   | some q=>
    rw [hmt] at hmk;obtain⟨e,he,ng⟩:=hmk;have Vn:m.calls=M.pm.calls:=by rw [h.eq];rfl
    obtain⟨x',hx'⟩:∃ x',x'={x with busy:=true,call:=m.calls.length,pc:=cI e.label,R:=fun _=>0,back:= []}:=⟨_,rfl⟩;obtain⟨nc,hnc⟩:∃ nc:Cl,nc=⟨v.th,v.op,v.arg,v.dat,M.au,-1,-1,0,0⟩:=⟨_,rfl⟩
    have eM:M.move c v=(true,{pm:={M.pm with calls:=M.pm.calls++ [nc],told:=M.pm.told.set v.th.toNat (1,0)},bI:=M.bI.set v.th.toNat ⟨some q,false,M.pm.calls.length⟩,au:=M.au+1}):=by
     unfold MM.move;rw [aK h1,aK h2,hs];simp only [hq,aK h3,hmt,hnc]
    refine⟨0,{m with T:=m.T.set v.th.toNat x',calls:=m.calls++ [nc],au:=m.au+1},?_,?_⟩
    ·rw [eM,eR];unfold RM.nF;rw [hl,aK h2,hx]
     simp only [aK h3,hb,mD,eu];rw [he,hx',hnc];simp only [Bg,Ay]
    ·have G:=h.dX
     rw [eM];refine⟨⟨G.ok,G.len,G.wk,G.sl,G.ca,G.BA,G.he,G.xm,G.li,G.Bo,by simpa using G.ag⟩,by show 0≤M.au+1;have:=h.mv;omega,?_,by show((M.bI.set _ _).length:Int)=c.T;rw [cW];exact h.l1,by show((m.T.set _ _).length:Int)=c.T;rw [cW];exact h.l2,?_⟩
     ·rw [h.eq];rfl
     ·intro j s1 t1 g1 g2
      by_cases hj:j=v.th.toNat
      ·subst hj
       have e1:=gU (x:=(⟨some q,false,M.pm.calls.length⟩:iQ)) hs;have e2:=gU (x:=x') hx;rw [show(M.bI.set _ _)[v.th.toNat]?=some s1 from g1] at e1;rw [show(m.T.set _ _)[v.th.toNat]?=some t1 from g2] at e2
       cases e1;cases e2
       have F5:((M.pm.calls.length:Nat):Int).toNat=M.pm.calls.length:=O_
       have hnew:(M.pm.calls++ [nc])[M.pm.calls.length]?=some nc:=by rw [yw (bZ _),Nat.sub_self];rfl
       refine⟨by rw [hx'];exact ji.1,by rw [hx'];exact ji.2.1,by rw [hx'],?_,⟨nc,?_,?_,?_⟩,?_⟩
       ·rw [hx',Vn];exact F5.symm
       ·rw [F5];exact hnew
       ·rw [hnc];exact mF.symm
       ·rw [hnc]
       ·rw [aK S_,hx']
        refine⟨ng _ ?_ ?_ ?_ rfl,rfl,rfl⟩
        ·show((M.pm.told.set v.th.toNat (1,0)).getD v.th.toNat (0,0))=(1,0)
         have:=G.ag;have:=h.l1;rw [kO,g9 O_];rfl
        ·show(match (M.pm.calls++ [nc])[((M.pm.calls.length:Nat):Int).toNat]? with | some x=>x.arg | none=>0)=v.arg
         rw [F5,hnew,hnc]
        ·show(match (M.pm.calls++ [nc])[((M.pm.calls.length:Nat):Int).toNat]? with | some x=>x.dat | none=>0)=v.dat
         rw [F5,hnew,hnc]
      ·refine(h.BS j s1 t1 ((kV _ hj _).symm.trans g1) ((kV _ hj _).symm.trans g2)).fr rfl rfl (kV _ hj _) fun k z hz _=>?_
       show(M.pm.calls++ [nc])[k]?=some z
       rw [Bk (fO.1 hz).1];exact hz
end Go.Proofs.YtgbhnihkgmpocaaGreat
