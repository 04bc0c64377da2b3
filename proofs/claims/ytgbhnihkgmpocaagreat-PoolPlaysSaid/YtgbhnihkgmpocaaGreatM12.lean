/- Part 13 of 16 of the proof of PoolPlays. No condition. -/
import Derived.Laws.IdiomCopy
import Derived.Great.BuildSlice
import Derived.Test.YtgbhnihkgmpocaaGreatM11
namespace Go.Proofs.YtgbhnihkgmpocaaGreat
set_option maxRecDepth 100000
set_option maxHeartbeats 4000000
open Tryz
variable{P:Prop}
theorem AY(x:P:=by
 intro a' h1 h2;go_wp2_with fail
 (try simp only [Exit.inBlock,Exit.then])
 refine DL (results_tmp rfl _ _ _) h2 ?_;exact⟨_,by rw [Array.getD_eq_getD_getElem?,h1];rfl,g,(bu w).aE _⟩):P:=x
theorem Nl(x:P:=by
 (try simp only [Exit.inBlock,Exit.then])
 go_ret;exact⟨_,rfl,o3.out,e3.out⟩):P:=x
theorem abr(x:P:=by
 unfold aW DK;rw [f,show xY D c {m with lists:=m.lists.set r l'} ov.length vc vt vs=xY D c m ov.length vc vt vs by unfold xY;simp only [cW],show({m with lists:=m.lists.set r l'}:RM).lists.length=m.lists.length from cW ..];exact h4):P:=x
theorem QG(x:P:=by
 simp only [Option.some.injEq,Prod.mk.injEq] at h;obtain⟨_,rfl⟩:=h;exact same):P:=x
theorem abn(x:P:=by
 simp only [Option.some.injEq,Prod.mk.injEq] at h;obtain⟨rfl,rfl⟩:=h;refine⟨⟨B.ok,TM B.w (X.R _),B.st,B.ho,B.li,B.mv⟩,X,?_,rfl,rfl,rfl,rfl,cW ..⟩;rw [fT hb,hp];simp only [iM,t1];omega):P:=x
theorem NG(x:P:=by
 (try simp only [Exit.inBlock,Exit.then])
 go_ret;exact⟨_,rfl,o4.out,e4.out⟩):P:=x
theorem GI(x:P:=by
 rw [ud];exact t (CW (x,v) ha)):P:=x
open Go.RowKit
section
variable{D:Dk}{c:Cf}{th:Nat}{ov:List (RT×Tv)}{m m':RM}{x x':RT}{v v':Tv}{vc vt vs:Value}{lv:List Value}{w0 w w':World}{F G H:List En}{k i:Nat}{y:Cl}{u v1:Value}
abbrev jl(D:Dk)(c:Cf)(th:Nat)(ov:List (RT×Tv))(m:RM)(x:RT)(v:Tv)(vc vt vs:Value)(lv:List Value):List En:=DK D c m ov.length (ov.set th (x,v)) vc vt vs lv
theorem yx{z:Int}(h:-9223372036854775808≤z)(h':z<9223372036854775808):IntKind.i64.wrap z=z:=by
 simp only [IntKind.wrap,IntKind.bits,IntKind.signed];simp;omega
theorem zH(z:Int):IntKind.i64.wrap z=wrap64 z:=by
 unfold wrap64;simp only [IntKind.wrap,IntKind.bits,IntKind.signed];simp;omega
structure Oq(D:Dk)(c:Cf)(th:Nat)(ov:List (RT×Tv))(m:RM)(x:RT)(v:Tv)(vc vt vs:Value)(lv:List Value)(F:List En)(w:World):Prop where
 bd:∀ i,w.cell? ⟨D.bD,i,none⟩=(xY D c m ov.length vc vt vs)[i]?
 bF:∀ i,w.frozen? ⟨D.bD,i,none⟩=false
 tr:∀ {i:Nat} {u:Value},(dJ (x,v))[i]?=some u→w.cell? ⟨D.gt,th*658+i,none⟩=some u
 rg:∀ {a:Nat},a<48→w.cell? ⟨D.gt,th*658+3+a,none⟩=some (.int .u64 (x.R a))
 tF:∀ i,w.frozen? ⟨D.gt,i,none⟩=false
 ls:∀ {i:Nat} {u:Value},lv[i]?=some u→w.cell? ⟨D.gl,i,none⟩=some u
 lF:∀ i,w.frozen? ⟨D.gl,i,none⟩=false
 st:∀ {s:Nat} {z:Int},m.states[s]?=some z→w.cell? ⟨D.gs,s,none⟩=some (.int .i64 z)
 ob:∀ {b:Nat} {t:TypeId} {cs:List Value},ob b t cs∈F→∀ i,w.cell? ⟨b,i,none⟩=cs[i]?
variable{A:List En}
theorem zq(h:Has w0 w (jl D c th ov m x v vc vt vs lv++(A++F)))(ht:th<ov.length):Oq D c th ov m x v vc vt vs lv F w:=by
 have t:∀ {i:Nat} {u:Value},(dJ (x,v))[i]?=some u→w.cell? ⟨D.gt,th*658+i,none⟩=some u:=fun hu=>Has.ey (g:=D.gt) (c:=D.ct) h oJ (flat_get dJ 658 gZ (g9 ht) hu)
 have hm:Go.Proofs.YtgbhnihkgmpocaaGreat.ob D.bD 55 (xY D c m ov.length vc vt vs)∈jl D c th ov m x v vc vt vs lv++(A++F):=aj;refine⟨fun i=>?_,Has.dW h hm,t,fun ha=>?_,fun i=>Has.gL (g:=D.gt) (c:=D.ct) h oJ i,fun hu=>Has.ey (g:=D.gl) (c:=D.cl) h lO hu,fun i=>Has.gL (g:=D.gl) (c:=D.cl) h lO i,fun hs=>Has.ey (g:=D.gs) (c:=D.cs) h xJ (by rw [gA,hs];rfl),fun hb i=>?_⟩
 ·simp only [World.cell?,Has.uG h hm];simp
 ·exact GI
 ·simp only [World.cell?,Has.uG h (bX (A:=jl D c th ov m x v vc vt vs lv) (bX (A:=A) hb))];simp
theorem aW.rd(h:aW D c th ov m x v vc vt vs lv w0 w F)(ht:th<ov.length):Oq D c th ov m x v vc vt vs lv F w:=by
 unfold aW at h;rw [←dH (fq x v)] at h;exact zq h ht
theorem OE(ht:th<ov.length)(he:dJ (x',v')=(dJ (x,v)).set i u)(hi:i<658):(ov.set th (x',v')).flatMap dJ=((ov.set th (x,v)).flatMap dJ).set (th*658+i) u:=by
 rw [←CX ov th (x,v) (x',v')];exact iK dJ 658 gZ (g9 ht) he hi
theorem jW(h:Has w0 w (jl D c th ov m x v vc vt vs lv++H))(ht:th<ov.length)(he:dJ (x',v')=(dJ (x,v)).set i u)(hi:i<658):Has w0 (w.setCell ⟨D.gt,th*658+i,none⟩ u) (jl D c th ov m x' v' vc vt vs lv++H):=by
 have h2:=Has.fD (A:= [_,_,_,_,_]) h (th*658+i) u;unfold jl DK;rw [OE ht he hi];exact h2
theorem pJ(w:World)(q:Option Nat):w.grownBy w q:=⟨rfl,rfl,rfl,bZ _,fun _ _ _=>rfl⟩
variable{l:List Int}
theorem jy{v:Value}(h:Has w0 w A)(hm:eH v l∈A):w.ownsRow w0.heap.size 3 1 v l.length (l.map (Value.int .i64)):=h.own _ hm
theorem qJ{v:Value}{g cp:Nat}{z:Int}(h:Has w0 w A)(hm:eH v l∈A)(hv:v=kN g l.length cp)(hz:l[i]?=some z):w.cell? ⟨g,i,none⟩=some (.int .i64 z):=by
 subst hv;exact Has.ey (g:=g) (c:=cp) h hm (by rw [gA,hz];rfl)
theorem BZ{v:Value}{g cp:Nat}(h:Has w0 w (A++eH v l::H))(hv:v=kN g l.length cp)(hk:k≤l.length):Has w0 w (A++eH (kN g k cp) (l.take k)::H):=by
 subst hv;have ho:=FN (jy (v:=kN g l.length cp) (l:=l) h (ew A aj)) hk;refine h.zL (x':=eH (kN g k cp) (l.take k)) ?_ (pJ _ _) (.inl rfl)
 show w.ownsRow w0.heap.size 3 1 (kN g k cp) (l.take k).length ((l.take k).map (Value.int .i64))
 rw [Fj,Nat.min_eq_left hk,List.map_take];rw [Nat.mul_one] at ho;exact ho
theorem uV{v:Value}(h:Has w0 w (A++eH v l::H)):Has w0 w (A++eH bG []::H):=
 h.zL (x':=eH bG []) (JG _ _ _ _) (pJ _ _) (.inr (.inl rfl))
theorem yG{v:Value}(h:Has w0 w A)(hm:eH v l∈A)(hl:0<l.length):∃ g cp,v=kN g l.length cp∧l.length≤cp:=by
 obtain⟨g,cp,e,e',_⟩:=bf (jy h hm) hl;exact⟨g,cp,e,e'⟩
theorem aW.Ym(h:aW D c th ov m x v vc vt vs lv w0 w F):w.ownsRow w0.heap.size 3 1 v.bk x.back.length (x.back.map (Value.int .i64)):=jy h (bX (A:=jl D c th ov m x v vc vt vs lv) aj)
theorem aW.aar(h:aW D c th ov m x v vc vt vs lv w0 w F)(hl:0<x.back.length):∃ g cp,v.bk=kN g x.back.length cp∧x.back.length≤cp:=yG h (bX (A:=jl D c th ov m x v vc vt vs lv) aj) hl
theorem aW.atB(h:aW D c th ov m x v vc vt vs lv w0 w F){g cp:Nat}{z:Int}(hv:v.bk=kN g x.back.length cp)(hz:x.back[i]?=some z):w.cell? ⟨g,i,none⟩=some (.int .i64 z):=qJ h (bX (A:=jl D c th ov m x v vc vt vs lv) aj) hv hz
theorem aW.Ya(h:aW D c th ov m x v vc vt vs lv w0 w F)(ht:th<ov.length){r:Int}(ho:w'.ownsRow w0.heap.size 3 1 v1 (x.back.length+1) (x.back.map (Value.int .i64)++ [.int .i64 r]))(hg:w.grownBy w' v.bk.ownBlock)(hb:v1.ownBlock=v.bk.ownBlock∨∃ q,v1.ownBlock=some q∧w.heap.size≤q):
  Oq D c th ov m x v vc vt vs lv F w'∧aW D c th ov m {x with back:=x.back++ [r]} {v with bk:=v1} vc vt vs lv w0 (w'.setCell ⟨D.gt,th*658+51,none⟩ v1) F:=by
 have h2:=Has.grow (A:=jl D c th ov m x v vc vt vs lv) (v':=v1) (m:=(x.back++ [r]).length) (us':=(x.back++ [r]).map (Value.int .i64)) h (by rw [gP,jI];exact ho) hg hb;have h3:Has w0 w' (jl D c th ov m x v vc vt vs lv++(fq {x with back:=x.back++ [r]} {v with bk:=v1}++(fV lv m.lists++F))):=h2;refine⟨zq (A:=fq {x with back:=x.back++ [r]} {v with bk:=v1}++fV lv m.lists) (by rw [dH];exact h3) ht,jW h3 ht (vV x v _ v1) O_⟩
theorem aW.agd(h:aW D c th ov m x v vc vt vs lv w0 w F)(ht:th<ov.length){g cp:Nat}(hv:v.bk=kN g x.back.length cp)(hk:k≤x.back.length):
  aW D c th ov m {x with back:=x.back.take k} {v with bk:=kN g k cp} vc vt vs lv w0 (w.setCell ⟨D.gt,th*658+51,none⟩ (kN g k cp)) F:=
 jW (show Has w0 w (jl D c th ov m x v vc vt vs lv++(fq {x with back:=x.back.take k} {v with bk:=kN g k cp}++(fV lv m.lists++F))) from BZ (A:=jl D c th ov m x v vc vt vs lv) h hv hk) ht (vV x v _ _) O_
theorem aW.Lc(h:aW D c th ov m x v vc vt vs lv w0 w F):w.ownsRow w0.heap.size 3 1 v.ca x.cache.length (x.cache.map (Value.int .i64)):=jy h (bX (A:=jl D c th ov m x v vc vt vs lv) bp)
theorem aW.Mn(h:aW D c th ov m x v vc vt vs lv w0 w F)(hl:0<x.cache.length):∃ g cp,v.ca=kN g x.cache.length cp∧x.cache.length≤cp:=yG h (bX (A:=jl D c th ov m x v vc vt vs lv) bp) hl
theorem aW.atC(h:aW D c th ov m x v vc vt vs lv w0 w F){g cp:Nat}{z:Int}(hv:v.ca=kN g x.cache.length cp)(hz:x.cache[i]?=some z):w.cell? ⟨g,i,none⟩=some (.int .i64 z):=qJ h (bX (A:=jl D c th ov m x v vc vt vs lv) bp) hv hz
theorem aW.X9(h:aW D c th ov m x v vc vt vs lv w0 w F)(ht:th<ov.length){r:Int}(ho:w'.ownsRow w0.heap.size 3 1 v1 (x.cache.length+1) (x.cache.map (Value.int .i64)++ [.int .i64 r]))(hg:w.grownBy w' v.ca.ownBlock)(hb:v1.ownBlock=v.ca.ownBlock∨∃ q,v1.ownBlock=some q∧w.heap.size≤q):
  Oq D c th ov m x v vc vt vs lv F w'∧aW D c th ov m {x with cache:=x.cache++ [r]} {v with ca:=v1} vc vt vs lv w0 (w'.setCell ⟨D.gt,th*658+52,none⟩ v1) F:=by
 have h2:=Has.grow (A:=jl D c th ov m x v vc vt vs lv++ [eH v.bk x.back]) (v':=v1) (m:=(x.cache++ [r]).length) (us':=(x.cache++ [r]).map (Value.int .i64)) h (by rw [gP,jI];exact ho) hg hb;have h3:Has w0 w' (jl D c th ov m x v vc vt vs lv++(fq {x with cache:=x.cache++ [r]} {v with ca:=v1}++(fV lv m.lists++F))):=h2;refine⟨zq (A:=fq {x with cache:=x.cache++ [r]} {v with ca:=v1}++fV lv m.lists) (by rw [dH];exact h3) ht,jW h3 ht (CV x v _ v1) O_⟩
theorem aW.aa0(h:aW D c th ov m x v vc vt vs lv w0 w F)(ht:th<ov.length){g cp:Nat}(hv:v.ca=kN g x.cache.length cp)(hk:k≤x.cache.length):
  aW D c th ov m {x with cache:=x.cache.take k} {v with ca:=kN g k cp} vc vt vs lv w0 (w.setCell ⟨D.gt,th*658+52,none⟩ (kN g k cp)) F:=
 jW (show Has w0 w (jl D c th ov m x v vc vt vs lv++(fq {x with cache:=x.cache.take k} {v with ca:=kN g k cp}++(fV lv m.lists++F))) from BZ (A:=jl D c th ov m x v vc vt vs lv++ [eH v.bk x.back]) h hv hk) ht (CV x v _ _) O_
theorem aW.Pb(h:aW D c th ov m x v vc vt vs lv w0 w F):w.ownsRow w0.heap.size 3 1 v.nm x.names.length (x.names.map (Value.int .i64)):=jy h (bX (A:=jl D c th ov m x v vc vt vs lv) iU)
theorem aW.atN(h:aW D c th ov m x v vc vt vs lv w0 w F){g cp:Nat}{z:Int}(hv:v.nm=kN g x.names.length cp)(hz:x.names[i]?=some z):w.cell? ⟨g,i,none⟩=some (.int .i64 z):=qJ h (bX (A:=jl D c th ov m x v vc vt vs lv) iU) hv hz
theorem aW.X8(h:aW D c th ov m x v vc vt vs lv w0 w F)(ht:th<ov.length){r:Int}(ho:w'.ownsRow w0.heap.size 3 1 v1 (x.names.length+1) (x.names.map (Value.int .i64)++ [.int .i64 r]))(hg:w.grownBy w' v.nm.ownBlock)(hb:v1.ownBlock=v.nm.ownBlock∨∃ q,v1.ownBlock=some q∧w.heap.size≤q):
  Oq D c th ov m x v vc vt vs lv F w'∧aW D c th ov m {x with names:=x.names++ [r]} {v with nm:=v1} vc vt vs lv w0 (w'.setCell ⟨D.gt,th*658+54,none⟩ v1) F:=by
 have h2:=Has.grow (A:=jl D c th ov m x v vc vt vs lv++ [eH v.bk x.back,eH v.ca x.cache]) (v':=v1) (m:=(x.names++ [r]).length) (us':=(x.names++ [r]).map (Value.int .i64)) h (by rw [gP,jI];exact ho) hg hb;have h3:Has w0 w' (jl D c th ov m x v vc vt vs lv++(fq {x with names:=x.names++ [r]} {v with nm:=v1}++(fV lv m.lists++F))):=h2;refine⟨zq (A:=fq {x with names:=x.names++ [r]} {v with nm:=v1}++fV lv m.lists) (by rw [dH];exact h3) ht,jW h3 ht (CU x v _ v1) O_⟩
theorem aW.atP(h:aW D c th ov m x v vc vt vs lv w0 w F){g cp:Nat}{z:Int}(hv:v.pf=kN g v.full.length cp)(hz:v.full[i]?=some z):w.cell? ⟨g,i,none⟩=some (.int .i64 z):=qJ h (bX (A:=jl D c th ov m x v vc vt vs lv) lA) hv hz
theorem aW.Pq(h:aW D c th ov m x v vc vt vs lv w0 w F)(ht:th<ov.length):aW D c th ov m {x with names:= []} {v with nm:=bG} vc vt vs lv w0 (w.setCell ⟨D.gt,th*658+54,none⟩ bG) F:=
 jW (show Has w0 w (jl D c th ov m x v vc vt vs lv++(fq {x with names:= []} {v with nm:=bG}++(fV lv m.lists++F))) from uV (A:=jl D c th ov m x v vc vt vs lv++ [eH v.bk x.back,eH v.ca x.cache]) h) ht (CU x v _ _) O_
theorem aW.FQ(h:aW D c th ov m x v vc vt vs lv w0 w F):w.ownsRow w0.heap.size 119 9 vc m.calls.length (m.calls.flatMap Cl.enc):=h.own _ xd
theorem aW.KS(h:aW D c th ov m x v vc vt vs lv w0 w F)(ht:th<ov.length){r:Cl}(ho:w'.ownsRow w0.heap.size 119 9 v1 (m.calls.length+1) (m.calls.flatMap Cl.enc++r.enc))(hg:w.grownBy w' vc.ownBlock)(hb:v1.ownBlock=vc.ownBlock∨∃ q,v1.ownBlock=some q∧w.heap.size≤q):
  Oq D c th ov m x v vc vt vs lv F w'∧aW D c th ov {m with calls:=m.calls++ [r]} x v v1 vt vs lv w0 (w'.setCell ⟨D.bD,24,none⟩ v1) F:=by
 have h2:=Has.grow (A:= [_,_,_,_,_,_,_,_,_]) (v':=v1) (m:=(m.calls++ [r]).length) (us':=(m.calls++ [r]).flatMap Cl.enc) h (by rw [gP,rT];exact ho) hg hb;have t:∀ {i:Nat} {u:Value},(dJ (x,v))[i]?=some u→w'.cell? ⟨D.gt,th*658+i,none⟩=some u:=fun hu=>Has.ey (g:=D.gt) (c:=D.ct) h2 oJ (flat_get dJ 658 gZ (g9 ht) hu)
 have hm:=h2.uG aj;refine⟨⟨fun i=>?_,Has.dW h2 aj,t,fun ha=>?_,fun i=>Has.gL (g:=D.gt) (c:=D.ct) h2 oJ i,fun hu=>Has.ey (g:=D.gl) (c:=D.cl) h2 lO hu,fun i=>Has.gL (g:=D.gl) (c:=D.cl) h2 lO i,fun hs=>Has.ey (g:=D.gs) (c:=D.cs) h2 xJ (by rw [gA,hs];rfl),fun hb i=>?_⟩,Has.put h2 24 v1⟩
 ·simp only [World.cell?,hm];simp
 ·exact GI
 ·have hF:∀ (A B C:List En) (y e:En),y∈F→y∈A++e::(B++(C++F)):=fun A B C y e h=>ew A (iA _ (ew _ (ew _ h)))
  simp only [World.cell?,Has.uG h2 (bX (A:= [_,_,_,_,_,_,_,_,_]) (iA _ (bX (A:= [_,_]) (bX (A:=fq x v) (bX (A:=fV lv m.lists) hb)))))];simp
theorem aW.FO(h:aW D c th ov m x v vc vt vs lv w0 w F):w.ownsRow w0.heap.size 122 7 vt m.trace.length (m.trace.flatMap Ac.enc):=h.own _ Iy
theorem aW.KR(h:aW D c th ov m x v vc vt vs lv w0 w F)(ht:th<ov.length){r:Ac}(ho:w'.ownsRow w0.heap.size 122 7 v1 (m.trace.length+1) (m.trace.flatMap Ac.enc++r.enc))(hg:w.grownBy w' vt.ownBlock)(hb:v1.ownBlock=vt.ownBlock∨∃ q,v1.ownBlock=some q∧w.heap.size≤q):
  Oq D c th ov m x v vc vt vs lv F w'∧aW D c th ov {m with trace:=m.trace++ [r]} x v vc v1 vs lv w0 (w'.setCell ⟨D.bD,25,none⟩ v1) F:=by
 have h2:=Has.grow (A:= [_,_,_,_,_,_,_,_,_,_]) (v':=v1) (m:=(m.trace++ [r]).length) (us':=(m.trace++ [r]).flatMap Ac.enc) h (by rw [gP,rT];exact ho) hg hb;have t:∀ {i:Nat} {u:Value},(dJ (x,v))[i]?=some u→w'.cell? ⟨D.gt,th*658+i,none⟩=some u:=fun hu=>Has.ey (g:=D.gt) (c:=D.ct) h2 oJ (flat_get dJ 658 gZ (g9 ht) hu)
 have hm:=h2.uG aj;refine⟨⟨fun i=>?_,Has.dW h2 aj,t,fun ha=>?_,fun i=>Has.gL (g:=D.gt) (c:=D.ct) h2 oJ i,fun hu=>Has.ey (g:=D.gl) (c:=D.cl) h2 lO hu,fun i=>Has.gL (g:=D.gl) (c:=D.cl) h2 lO i,fun hs=>Has.ey (g:=D.gs) (c:=D.cs) h2 xJ (by rw [gA,hs];rfl),fun hb i=>?_⟩,Has.put h2 25 v1⟩
 ·simp only [World.cell?,hm];simp
 ·exact GI
 ·have hF:∀ (A B C:List En) (y e:En),y∈F→y∈A++e::(B++(C++F)):=fun A B C y e h=>ew A (iA _ (ew _ (ew _ h)))
  simp only [World.cell?,Has.uG h2 (bX (A:= [_,_,_,_,_,_,_,_,_,_]) (iA _ (bX (A:= [_]) (bX (A:=fq x v) (bX (A:=fV lv m.lists) hb)))))];simp
theorem aW.FP(h:aW D c th ov m x v vc vt vs lv w0 w F):w.ownsRow w0.heap.size 125 5 vs m.aG.length (m.aG.flatMap Sh.enc):=h.own _ lB
theorem aW.TW(h:aW D c th ov m x v vc vt vs lv w0 w F)(ht:th<ov.length){r:Sh}(ho:w'.ownsRow w0.heap.size 125 5 v1 (m.aG.length+1) (m.aG.flatMap Sh.enc++r.enc))(hg:w.grownBy w' vs.ownBlock)(hb:v1.ownBlock=vs.ownBlock∨∃ q,v1.ownBlock=some q∧w.heap.size≤q):
  Oq D c th ov m x v vc vt vs lv F w'∧aW D c th ov {m with aG:=m.aG++ [r]} x v vc vt v1 lv w0 (w'.setCell ⟨D.bD,26,none⟩ v1) F:=by
 have h2:=Has.grow (A:= [_,_,_,_,_,_,_,_,_,_,_]) (v':=v1) (m:=(m.aG++ [r]).length) (us':=(m.aG++ [r]).flatMap Sh.enc) h (by rw [gP,rT];exact ho) hg hb;have t:∀ {i:Nat} {u:Value},(dJ (x,v))[i]?=some u→w'.cell? ⟨D.gt,th*658+i,none⟩=some u:=fun hu=>Has.ey (g:=D.gt) (c:=D.ct) h2 oJ (flat_get dJ 658 gZ (g9 ht) hu)
 have hm:=h2.uG aj;refine⟨⟨fun i=>?_,Has.dW h2 aj,t,fun ha=>?_,fun i=>Has.gL (g:=D.gt) (c:=D.ct) h2 oJ i,fun hu=>Has.ey (g:=D.gl) (c:=D.cl) h2 lO hu,fun i=>Has.gL (g:=D.gl) (c:=D.cl) h2 lO i,fun hs=>Has.ey (g:=D.gs) (c:=D.cs) h2 xJ (by rw [gA,hs];rfl),fun hb i=>?_⟩,Has.put h2 26 v1⟩
 ·simp only [World.cell?,hm];simp
 ·exact GI
 ·have hF:∀ (A B C:List En) (y e:En),y∈F→y∈A++e::(B++(C++F)):=fun A B C y e h=>ew A (iA _ (ew _ (ew _ h)))
  simp only [World.cell?,Has.uG h2 (bX (A:= [_,_,_,_,_,_,_,_,_,_,_]) (iA _ (bX (A:= []) (bX (A:=fq x v) (bX (A:=fV lv m.lists) hb)))))];simp
theorem lU:∀ {lv:List Value} {l:List (List Int)} {r:Nat} {a:Value} {y:List Int},lv[r]?=some a→l[r]?=some y→∃ A B,fV lv l=A++eH a y::B∧∀ a' y',fV (lv.set r a') (l.set r y')=A++eH a' y'::B
 | [],_,_,_,_,h,_=>by simp at h
 | _,[],_,_,_,_,h=>by simp at h
 | a::lv,y::l,0,_,_,h,h'=>by
  simp only [ug,Option.some.injEq] at h h';subst h h';exact⟨[],fV lv l,rfl,fun _ _=>rfl⟩
 | b::lv,z::l,r+1,a,y,h,h'=>by
  rw [yu] at h h';obtain⟨A,B,e,f⟩:=lU h h'
  exact⟨eH b z::A,B,by rw [show fV (b::lv) (z::l)=eH b z::fV lv l from rfl,e];rfl,fun a' y'=>by
   rw [wW,wW,show fV (b::lv.set r a') (z::l.set r y')=eH b z::fV (lv.set r a') (l.set r y') from rfl,f];rfl⟩
theorem Ce{r:Nat}{a:Value}(ha:lv[r]?=some a)(hr:m.lists[r]?=some l):eH a l∈jl D c th ov m x v vc vt vs lv++(fq x v++(fV lv m.lists++F)):=by
 obtain⟨A,B,e,_⟩:=lU ha hr;rw [e];exact bX (A:=jl D c th ov m x v vc vt vs lv) (bX (A:=fq x v) (yt _ (ew _ aj)))
theorem aW.xG(h:aW D c th ov m x v vc vt vs lv w0 w F){r:Nat}{a:Value}{l:List Int}(ha:lv[r]?=some a)(hr:m.lists[r]?=some l):w.ownsRow w0.heap.size 3 1 a l.length (l.map (Value.int .i64)):=jy h (Ce ha hr)
theorem aW.TE(h:aW D c th ov m x v vc vt vs lv w0 w F)(ht:th<ov.length){r:Nat}{a:Value}{l l':List Int}(ha:lv[r]?=some a)(hr:m.lists[r]?=some l)(ho:w'.ownsRow w0.heap.size 3 1 v1 l'.length (l'.map (Value.int .i64)))(hg:w.grownBy w' a.ownBlock)(hb:v1.ownBlock=a.ownBlock∨v1.ownBlock=none∨∃ q,v1.ownBlock=some q∧w.heap.size≤q):
  Oq D c th ov m x v vc vt vs lv F w'∧aW D c th ov {m with lists:=m.lists.set r l'} x v vc vt vs (lv.set r v1) w0 (w'.setCell ⟨D.gl,r,none⟩ v1) F:=by
 obtain⟨A,B,e,f⟩:=lU ha hr;unfold aW at h;rw [e] at h
 have h0:Has w0 w ((jl D c th ov m x v vc vt vs lv++(fq x v++A))++eH a l::(B++F)):=by
  simp only [dH,kY] at h ⊢;exact h
 have h2:=Has.zL (x':=eH v1 l') h0 ho hg hb
 have h3:Has w0 w' (jl D c th ov m x v vc vt vs lv++((fq x v++(A++eH v1 l'::B))++F)):=by
  simp only [dH,kY] at h2 ⊢;exact h2
 refine⟨zq h3 ht,?_⟩;have h5:Has w0 w' (jl D c th ov m x v vc vt vs lv++(fq x v++((A++eH v1 l'::B)++F))):=by rw [dH (fq x v)] at h3;exact h3
 have h4:=Has.fD (A:= [_,_,_,_,_,_,_,_]) h5 r v1;exact abr
end
def wts:List Nat:= [1,1,1,0,0,0,0,0,0,0,0,0,1,1,0,0,0,0,1,1,1,0,0,0,0,0,0,0,0,1,0,0,0,0,0,0,0,0,0,0,1,0,0,0,0,2,2,0,0,0,0,2,2,2,0,1,1,0,3,3,2,0,0,0,0,0,0,0,0,0,0,0,0,0,0,0,0,0,0,0,0,0,0,0,0,0,0,0,0,0,0,0,0,1,0,0,0,0,0,0,2,0,0,0,0,0,0,0,0,0,0,0,0,0,0,0,0,0,0,0,0,0,0,0,2,2,2,1,0,0,0,0,0,0,0,0,0,0,0,1,1,0,2,2,0,0,0,0,0,0,0,6,6,5,5,5,4,0,0,0,0,0,0,0,0,0,0,0,0,0,0,0,0,0,0,0,0,0,0,0,0,0,0,0,0,0,0,0,0,0,0,0,0,0,0,0,0,0,0,0,0,0,0,0,0,0,0,0,0,0,0,0,0,0,0,0,0,0,0,0,0,0,0,0,0,0,0,0,0,0,0,0,0,0,0,0,0,0,0,5,5,4,4,0,0,0,0,0,0,0,0,0,0,0,0,0,0,0,0,0,0,4,4,4,4,3,3,3,3,3,1,1,0,3,3,0,3,3,1,0,0,0,0,0,0,0,2,2,1,0,1,1,1,0,0,4,4,4,4,4,2,2,2,2,2,1,0,0,0,0,6,5,5,1,1,0,2,2,1,1,1,1,0,2,2,2,2,1,1,1,0,0,0,0,4,4,4,4,4,4,2,2,2,2,2,1,1,0,1,0,1,1,0,2,2,2,2,2,2,1,0,0,0,0,0,6,5,5,1,1,0,2,2,1,1,1,1,0,2,2,0,0,0,0,0,0,0,0,0,1,1,0,0,0,0,0,0,0,0,0,0,0,0,0,0,0,0,0,0,0,0,0,1,1,0,0,4,4,0,0,0,0,0,0,0,2,2,0,0,0,0,0,0,0,0,0,0,0,0,0,0,0,0,0,0,0,0,0,0,1,1,0,0,0,0,0,0,0,0,0,0,0,0,0,0,0,0,0,0,0,0,0,0,0,0,0,0,0,0,0,0,0,0,0,1,1,0,0,4,4,0,0,0,0,0,0,0,0,0,0]
def wt(p:Nat):Nat:=wts.getD p 0
def chk(p:Nat)(i:eJ):Bool:=
 (i.k==10 || decide (i.a<48)) && decide (i.b<48) && decide (i.c<48) && decide (i.d.toNat<48) &&
 (i.k==11 || i.k==12 || i.k==13 || i.k==14 || decide (wt (p+1)+(if i.k=30∨i.k=42 then 1 else if i.k=35 then 2 else 0)≤wt p+(if i.k=44 then 2 else if i.k≤3 then 7 else 0))) &&
 (decide (wt (cI i.ag)+(if i.k=12 then wt (p+1)+1 else 0)≤wt p+(if i.k≤3 then 7 else 0)) || !(i.k==3 || i.k==11 || i.k==12 || (23≤i.k && i.k≤26) || (31≤i.k && i.k≤33) || i.k==36 || i.k==37 || i.k==44 || i.k==53)) &&
 (!(i.k≤3) || decide (i.b≤13)) && (!(i.k==46) || (decide (1≤i.b) && decide (i.b≤13))) && decide (0≤i.d+1) && decide (i.d<48) && (!(i.k==3) || decide (0≤i.d))
def M7:List eJ→Nat→Bool
 | [],_=>true
 | i::l,p=>chk p i && M7 l (p+1)
theorem AN:M7 aI 0=true:=by decide+kernel
theorem ry:∀ {l:List eJ} {p j:Nat} {i:eJ},M7 l p=true→l[j]?=some i→chk (p+j) i=true
 | [],_,_,_,_,h=>by simp at h
 | x::l,p,0,i,hc,h=>by
  simp only [M7,wT] at hc;simp only [ug,Option.some.injEq] at h;subst h;exact hc.1
 | x::l,p,j+1,i,hc,h=>by
  simp only [M7,wT] at hc;rw [yu] at h;have:=ry hc.2 h
  rwa [show p+1+j=p+(j+1) from O_] at this
theorem lG:aI.length=499:=by decide+kernel
theorem TB:∀ p,wt p≤6:=by
 intro p;have h:wts.all (fun x=>decide (x≤6))=true:=by decide+kernel
 unfold wt
 by_cases hp:p<wts.length
 ·rw [kO,fy hp]
  exact of_decide_eq_true (Dv.1 h _ (List.getElem_mem hp))
 ·rw [kO,DD O_]
  simp
def tW(l:List (List Int)):Nat:=(l.map List.length).sum
def Bd(l:List Int):Nat:=(l.map fun r=>wt r.toNat+1).sum
def fJ(x:RT):Nat:=x.names.length+2*x.pending.length+Bd x.back
def iM(m:RM):Nat:=m.trace.length+m.aG.length+2*tW m.lists
def oT(x:RT):Nat:=if x.busy then wt x.pc else 0
variable{l:List (List Int)}
theorem rJ{i:Nat}(x:List Int):tW (l.set i x)+(l.getD i []).length≤tW l+x.length:=by
 unfold tW
 induction l generalizing i with
 | nil=>simp
 | cons y l ih=>cases i with
  | zero=>simp;omega
  | succ i=>have:=ih (i:=i);simp at this ⊢;omega
theorem NR{i:Nat}:(l.getD i []).length≤tW l:=by
 unfold tW
 induction l generalizing i with
 | nil=>simp
 | cons y l ih=>cases i with
  | zero=>simp
  | succ i=>have:=ih (i:=i);simp at this ⊢;omega
theorem zG(l:List Int)(r:Int):Bd (l++ [r])=Bd l+(wt r.toNat+1):=by simp [Bd]
theorem LG{α:Type}{l:List α}{r:α}(h:l.getLast?=some r):l=l.dropLast++ [r]:=by
 obtain⟨k,rfl⟩:=GU.1 h;simp
theorem N4{l:List Int}{r:Int}(h:l.getLast?=some r):Bd l=Bd l.dropLast+(wt r.toNat+1):=by
 conv=>lhs;rw [LG h]
 exact zG _ _
theorem Ff{m:RM}{r:Int}{p q:Int→Bool}(hq:∀ x,q x=!p x):tW (m.aV r ((m.bQ r).filter p)).lists+((m.bQ r).filter q).length≤tW m.lists:=by
 have:=rJ (l:=m.lists) (i:=r.toNat) ((m.bQ r).filter p)
 have e:((m.bQ r).filter p).length+((m.bQ r).filter q).length=(m.bQ r).length:=by
  generalize m.bQ r=l
  induction l with
  | nil=>rfl
  | cons x l ih=>
   simp only [List.filter_cons,hq]
   cases p x<;>simp<;>omega
 show tW (m.lists.set r.toNat _)+_≤_
 have e2:(m.bQ r).length=(m.lists.getD r.toNat []).length:=rfl;omega
structure Bm(c:Cf)(m:RM):Prop where
 ok:bY c.T c.R c.H c.Re c.Ca c.S c.B
 w:∀ a∈m.words,0≤a∧a≤18446744073709551615
 st:(m.states.length:Int)=c.S
 ho:(m.bS.length:Int)=c.S
 li:(m.lists.length:Int)=c.R
 mv:0≤m.au∧m.au≤65536
structure Bx(c:Cf)(x:RT):Prop where
 R:∀ a,0≤x.R a∧x.R a≤18446744073709551615
 bk:∀ r∈x.back,0≤r∧r<1000
 rc:-1≤x.rc∧x.rc<c.R
 ca:(x.cache.length:Int)≤64
structure Nm(c:Cf)(m:RM)(x:RT)(q:Nat)(m':RM)(x':RT):Prop where
 bm:Bm c m'
 bx:Bx c x'
 Rm:iM m'+fJ x'+oT x'≤iM m+fJ x+q
 T:m'.T=m.T
 mv:m'.au=m.au
 cl:m'.calls.length=m.calls.length
 ca:x'.call=x.call
 wl:m'.words.length=m.words.length
section
variable{c:Cf}{m m':RM}{x x':RT}{p q th:Nat}{i:eJ}
theorem zM(v:Int):0≤u64 v∧u64 v≤18446744073709551615:=by unfold u64;omega
theorem DO{R:Nat→Int}{v:Int}{a:Nat}(h:∀ a,0≤R a∧R a≤18446744073709551615)(hv:0≤v∧v≤18446744073709551615):∀ j,0≤cg R a v j∧cg R a v j≤18446744073709551615:=fun j=>by
 unfold cg
 split
 ·exact hv
 ·exact h j
theorem fT(hb:x.busy=true):oT x=wt x.pc:=by unfold oT;rw [aY hb]
theorem hG(f:wt (p+1)≤q)(hb:x.busy=true)(hp:x.pc=p+1)(B:Bm c m)(X:Bx c x){a:Nat}{v:Int}(hv:0≤v∧v≤18446744073709551615):Nm c m x q m (x.set a v):=
 ⟨B,⟨DO X.R hv,X.bk,X.rc,X.ca⟩,by
  rw [show oT (x.set a v)=oT x from rfl,show fJ (x.set a v)=fJ x from rfl,fT hb,hp];omega,rfl,rfl,rfl,rfl,rfl⟩
theorem Ai(hb:x.busy=true)(B:Bm c m)(X:Bx c x){l:Nat}(j:wt l≤q):Nm c m x q m {x with pc:=l}:=
 ⟨B,⟨X.R,X.bk,X.rc,X.ca⟩,by
  rw [show oT {x with pc:=l}=wt l from aY hb,show fJ {x with pc:=l}=fJ x from rfl];omega,rfl,rfl,rfl,rfl,rfl⟩
theorem qM(f:wt (p+1)≤q)(hb:x.busy=true)(hp:x.pc=p+1)(B:Bm c m)(X:Bx c x):Nm c m x q m x:=
 ⟨B,X,by rw [fT hb,hp];omega,rfl,rfl,rfl,rfl,rfl⟩
theorem Ck(f:wt (p+1)≤q)(hb:x.busy=true)(hp:x.pc=p+1)(B:Bm c m)(X:Bx c x){l:Nat}(j:wt l≤q)(b:Bool):Nm c m x q m (x.jump b l):=by
 cases b
 ·exact qM f hb hp B X
 ·exact Ai hb B X j
theorem Lh(f:wt (p+1)≤q)(hb:x.busy=true)(hp:x.pc=p+1)(B:Bm c m)(X:Bx c x){k:Nat}{g:Cl→Cl}:Nm c m x q (m.cK k g) x:=
 ⟨⟨B.ok,B.w,B.st,B.ho,B.li,B.mv⟩,X,by
  rw [show iM (m.cK k g)=iM m from rfl,fT hb,hp];omega,rfl,rfl,g8 _ _ _,rfl,rfl⟩
theorem yP(h:Nm c m x q m' x'){l:List Int}(hl:(l.length:Int)≤64):Nm c m x q m' {x' with cache:=l}:=
 ⟨h.bm,⟨h.bx.R,h.bx.bk,h.bx.rc,hl⟩,h.Rm,h.T,h.mv,h.cl,h.ca,h.wl⟩
theorem FY(hc:aI[p]?=some i)(hb:x.busy=true)(hp:x.pc=p+1)(B:Bm c m)(X:Bx c x)(h:loc c cI th i m x=some (m',x')):Nm c m x (wt p) m' x':=by
 have st:=ry AN hc;rw [rN] at st;have hc':=(fO.1 hc).1;rw [lG] at hc';have ok:=B.ok;obtain⟨_,_,hR1,hR2,hH1,hH2,_,_,hC1,hC2,_,_,hB1,hB2⟩:=ok;have hRH:0≤c.R*c.H∧c.R*c.H≤16*8:=⟨wX O_ O_,ua O_ O_ O_ O_⟩;simp only [chk,wT] at st;obtain⟨⟨⟨⟨⟨⟨⟨_,f⟩,j⟩,_⟩,_⟩,_⟩,_⟩,_⟩:=st;unfold loc at h
 split at h
 all_goals (rename_i hk;simp [hk] at f j)
 all_goals try (simp only [Option.some.injEq,Prod.mk.injEq] at h;obtain⟨rfl,rfl⟩:=h)
 all_goals try exact hG O_ hb hp B X (zM _)
 all_goals try exact Ck O_ hb hp B X O_ _
 all_goals try exact Lh O_ hb hp B X
 all_goals try exact qM O_ hb hp B X
 all_goals try exact Ai hb B X O_
 all_goals try (split at h<;>first | (cases h;done) | (simp only [Option.some.injEq,Prod.mk.injEq] at h;obtain⟨rfl,rfl⟩:=h;first | exact hG O_ hb hp B X (zM _) | exact Ck O_ hb hp B X O_ _ | exact qM O_ hb hp B X | exact Ai hb B X O_ | exact yP (qM O_ hb hp B X) (by have:=X.ca;simp only [Dx,gP,ij,mB];omega) | exact yP (hG O_ hb hp B X (zM _)) (by have:=X.ca;simp only [Dx];omega)))
 case h_3=>
  refine⟨B,⟨X.R,fun r hr=>?_,X.rc,X.ca⟩,?_,rfl,rfl,rfl,rfl,rfl⟩
  ·rcases Bh.1 hr with h | h
   ·exact X.bk r h
   ·simp at h;subst h;omega
  ·rw [show ∀ l n,oT {x with back:=l,pc:=n}=wt n from fun _ _=>aY hb]
   simp only [fJ,zG,mW,hp];omega
 case h_4=>
  split at h
  ·cases h
  rename_i r hr;simp only [Option.some.injEq,Prod.mk.injEq] at h;obtain⟨rfl,rfl⟩:=h;refine⟨B,⟨X.R,fun r hr=>X.bk r ((List.dropLast_sublist _).subset hr),X.rc,X.ca⟩,?_,rfl,rfl,rfl,rfl,rfl⟩;rw [show ∀ l n,oT {x with pc:=n,back:=l}=wt n from fun _ _=>aY hb];have:=N4 hr;simp only [fJ];omega
 case h_5=>
  refine⟨⟨B.ok,B.w,B.st,B.ho,B.li,B.mv⟩,⟨X.R,X.bk,X.rc,X.ca⟩,?_,rfl,rfl,g8 _ _ _,rfl,rfl⟩;rw [show oT {x with busy:=false}=0 from rfl,show fJ {x with busy:=false}=fJ x from rfl];simp only [iM,RM.cK];omega
 case h_7=>exact hG O_ hb hp B X (X.R _)
 case h_10=>
  split at h
  ·simp only [Option.some.injEq,Prod.mk.injEq] at h
   obtain⟨rfl,rfl⟩:=h;exact hG O_ hb hp B X (by unfold pk;omega)
  ·cases h
 case h_11=>exact hG O_ hb hp B X (by unfold kZ lk;omega)
 case h_12=>exact hG O_ hb hp B X (by unfold pk lk;omega)
 case h_13=>
  split at h
  ·simp only [Option.some.injEq,Prod.mk.injEq] at h
   obtain⟨rfl,rfl⟩:=h;exact hG O_ hb hp B X (by unfold hd;omega)
  ·cases h
 case h_20=>exact hG O_ hb hp B X (by have:=B.mv;omega)
 case h_21=>
  split at h
  ·simp only [Option.some.injEq,Prod.mk.injEq] at h
   obtain⟨rfl,rfl⟩:=h;refine⟨⟨B.ok,B.w,by simpa [RM.shift] using B.st,by simpa [RM.shift] using B.ho,B.li,B.mv⟩,X,?_,rfl,rfl,rfl,rfl,rfl⟩;rw [fT hb,hp];simp only [iM,RM.shift,gP,ij,mB];omega
  ·cases h
 case h_26=>
  split at h
  ·simp only [Option.some.injEq,Prod.mk.injEq] at h
   obtain⟨rfl,rfl⟩:=h;refine⟨⟨B.ok,B.w,B.st,B.ho,by simpa [RM.aV] using B.li,B.mv⟩,X,?_,rfl,rfl,rfl,rfl,rfl⟩;rw [fT hb,hp];have:=rJ (l:=m.lists) (i:=x.rc.toNat) (m.bQ x.rc++ [wrap64 (x.R i.a)]);rw [show(m.lists.getD x.rc.toNat []).length=(m.bQ x.rc).length from rfl] at this;simp only [iM,RM.aV,gP,ij,mB] at this ⊢;omega
  ·cases h
 case h_30=>
  split at h
  ·rename_i hg
   simp only [Option.some.injEq,Prod.mk.injEq] at h;obtain⟨rfl,rfl⟩:=h;refine⟨B,⟨X.R,X.bk,hg,X.ca⟩,?_,rfl,rfl,rfl,rfl,rfl⟩;rw [show ∀ r,oT {x with rc:=r}=oT x from fun _=>rfl,show ∀ r,fJ {x with rc:=r}=fJ x from fun _=>rfl,fT hb,hp];omega
  ·cases h
 case h_31=>
  split at h
  ·simp only [Option.some.injEq,Prod.mk.injEq] at h
   obtain⟨rfl,rfl⟩:=h;refine⟨⟨B.ok,B.w,B.st,B.ho,by simpa [RM.aV] using B.li,B.mv⟩,X,?_,rfl,rfl,rfl,rfl,rfl⟩;rw [fT hb,hp];generalize wrap64 (x.R i.a)=o;have a1:=rJ (l:=m.lists) (i:=x.rc.toNat) (m.bQ x.rc++m.bQ o);have a2:=rJ (l:=m.lists.set x.rc.toNat (m.bQ x.rc++m.bQ o)) (i:=o.toNat) [];rw [show(m.lists.getD x.rc.toNat []).length=(m.bQ x.rc).length from rfl] at a1
   have a3:(m.bQ o).length≤((m.lists.set x.rc.toNat (m.bQ x.rc++m.bQ o)).getD o.toNat []).length:=by
    rw [kO,wV]
    split
    ·split
     ·simp
     ·rename_i e1 e2
      have:m.bQ o= []:=by unfold RM.bQ;rw [←e1,kO,DD O_];rfl
      rw [this];simp
    ·rw [←kO];exact bZ _
   simp only [iM,RM.aV,gP,mB] at a1 a2 ⊢;omega
  ·cases h
 case h_32=>
  refine⟨B,⟨X.R,X.bk,X.rc,X.ca⟩,?_,rfl,rfl,rfl,rfl,rfl⟩;rw [show ∀ r,oT {x with names:=r}=oT x from fun _=>rfl,fT hb,hp];simp only [fJ,mB];omega
 case h_33=>
  refine⟨B,⟨X.R,X.bk,X.rc,X.ca⟩,?_,rfl,rfl,rfl,rfl,rfl⟩;rw [show ∀ r,oT {x with names:=r}=oT x from fun _=>rfl,fT hb,hp];simp only [fJ,gP,ij,mB];omega
 case h_34=>
  split at h
  ·simp only [Option.some.injEq,Prod.mk.injEq] at h
   obtain⟨rfl,rfl⟩:=h;refine⟨⟨B.ok,B.w,B.st,B.ho,by simpa [RM.aV] using B.li,B.mv⟩,⟨X.R,X.bk,X.rc,X.ca⟩,?_,rfl,rfl,rfl,rfl,rfl⟩;rw [show ∀ r,oT {x with pending:=r}=oT x from fun _=>rfl,fT hb,hp];have:=Ff (m:=m) (r:=x.rc) (p:=fun y=>decide (y∈x.names)) (q:=fun y=>!(decide (y∈x.names))) (fun _=>rfl);simp only [iM,fJ] at this ⊢;simp only [RM.aV] at this ⊢;omega
  ·cases h
 case h_35=>
  split at h
  ·simp only [Option.some.injEq,Prod.mk.injEq] at h
   obtain⟨rfl,rfl⟩:=h;exact Ai hb B X O_
  ·rename_i y l hl
   simp only [Option.some.injEq,Prod.mk.injEq] at h;obtain⟨rfl,rfl⟩:=h;refine⟨B,⟨DO X.R (zM _),X.bk,X.rc,X.ca⟩,?_,rfl,rfl,rfl,rfl,rfl⟩;rw [show ∀ r,oT {x.set i.a (u64 y) with pending:=r}=oT x from fun _=>rfl,fT hb,hp];simp only [fJ,RT.set,hl,ij];omega
 case h_38=>exact hG O_ hb hp B X (by have h1:=Int.emod_nonneg (x.R i.b) (show c.B≠0 from O_);have h2:=Int.emod_lt_of_pos (x.R i.b) (show 0<c.B from O_);omega)
 case h_41=>exact hG O_ hb hp B X O_
 case h_42=>exact hG O_ hb hp B X O_
 case h_45=>cases h
theorem Xr(B:Bm c m)(j:Nat):0≤m.words.getD j 0∧m.words.getD j 0≤18446744073709551615:=by
 rw [kO]
 cases h:m.words[j]? with
 | none=>simp
 | some a=>exact B.w a (nV h)
theorem TM{l:List Int}(h:∀ a∈l,0≤a∧a≤18446744073709551615){j:Nat}{v:Int}(hv:0≤v∧v≤18446744073709551615):∀ a∈l.set j v,0≤a∧a≤18446744073709551615:=fun a ha=>by
 rcases DB ha with h' | rfl
 ·exact h a h'
 ·exact hv
theorem GF(hc:aI[p]?=some i)(hb:x.busy=true)(hp:x.pc=p+1)(B:Bm c m)(X:Bx c x)(h:J3 c cI th i m x=some (m',x')):Nm c m x (wt p+8) m' x':=by
 have st:=ry AN hc;rw [rN] at st;simp only [chk,wT] at st;obtain⟨⟨⟨⟨⟨⟨⟨_,f⟩,j⟩,_⟩,_⟩,_⟩,_⟩,_⟩:=st;unfold J3 at h;dsimp only at h;generalize (wrap64 (x.R i.c)+if i.b=0 then 0 else c.ad i.b 0)=a at h
 split at h
 case isFalse=>cases h
 have t1:∀ (l:List Ac) (a:Ac),(l++ [a]).length=l.length+1:=fun l a=>gP
 split at h
 ·rename_i hk
  simp [hk] at f j;simp only [Option.some.injEq,Prod.mk.injEq] at h;obtain⟨rfl,rfl⟩:=h;refine⟨⟨B.ok,B.w,B.st,B.ho,B.li,B.mv⟩,⟨DO X.R (Xr B _),X.bk,X.rc,X.ca⟩,?_,rfl,rfl,rfl,rfl,rfl⟩;rw [show ∀ a v,oT (x.set a v)=oT x from fun _ _=>rfl,show ∀ a v,fJ (x.set a v)=fJ x from fun _ _=>rfl,fT hb,hp];simp only [iM,t1];omega
 ·rename_i hk
  simp [hk] at f j;exact abn
 ·rename_i hk
  simp [hk] at f j
  split at h
  ·exact abn
  ·simp only [Option.some.injEq,Prod.mk.injEq] at h
   obtain⟨rfl,rfl⟩:=h;refine⟨⟨B.ok,B.w,B.st,B.ho,B.li,B.mv⟩,⟨X.R,X.bk,X.rc,X.ca⟩,?_,rfl,rfl,rfl,rfl,rfl⟩;rw [show oT {x with pc:=cI i.ag}=wt (cI i.ag) from aY hb,show fJ {x with pc:=cI i.ag}=fJ x from rfl];simp only [iM,t1];omega
 ·cases h
theorem uu:∀ (n:Nat) (made:Bool) {m:RM} {x:RT} {m':RM} {x':RT},Bm c m→Bx c x→tM c aI cI th n made m x=some (m',x')→Nm c m x (oT x+if made then 0 else 8) m' x'
 | 0,_,_,_,_,_,_,_,h=>by cases h
 | n+1,made,m,x,m',x',B,X,h=>by
  have id:Nm c m x (oT x+if made then 0 else 8) m x:=⟨B,X,O_,rfl,rfl,rfl,rfl,rfl⟩;unfold tM at h
  split at h
  ·rename_i hb
   split at h
   ·cases h
   ·rename_i i hc
    have B1:Bx c {x with pc:=x.pc+1}:=⟨X.R,X.bk,X.rc,X.ca⟩;have pb:=fT hb
    split at h
    ·cases made with
     | true=>
      simp only [dL,Option.some.injEq,Prod.mk.injEq] at h;obtain⟨rfl,rfl⟩:=h;exact id
     | false=>
      simp only [mD,eu] at h
      split at h
      ·cases h
      ·rename_i m1 x1 ha
       have N1:=GF (x:={x with pc:=x.pc+1}) hc hb rfl B B1 ha;have N2:=uu n true N1.bm N1.bx h;refine⟨N2.bm,N2.bx,?_,N2.T.trans N1.T,N2.mv.trans N1.mv,N2.cl.trans N1.cl,N2.ca.trans N1.ca,N2.wl.trans N1.wl⟩;have e1:=N1.Rm;have e2:=N2.Rm;rw [show fJ {x with pc:=x.pc+1}=fJ x from rfl] at e1;simp at e2 ⊢;omega
    ·split at h
     ·cases h
     ·rename_i m1 x1 ha
      have N1:=FY (x:={x with pc:=x.pc+1}) hc hb rfl B B1 ha;have N2:=uu n made N1.bm N1.bx h;refine⟨N2.bm,N2.bx,?_,N2.T.trans N1.T,N2.mv.trans N1.mv,N2.cl.trans N1.cl,N2.ca.trans N1.ca,N2.wl.trans N1.wl⟩;have e1:=N1.Rm;have e2:=N2.Rm;rw [show fJ {x with pc:=x.pc+1}=fJ x from rfl] at e1;omega
  ·simp only [Option.some.injEq,Prod.mk.injEq] at h
   obtain⟨rfl,rfl⟩:=h;exact id
def Dj(T:List RT):Nat:=(T.map fun t=>fJ t+oT t).sum
variable{T:List RT}
theorem Di{i:Nat}{t:RT}(h:T[i]?=some t)(x:RT):Dj (T.set i x)+(fJ t+oT t)=Dj T+(fJ x+oT x):=by
 unfold Dj
 induction T generalizing i with
 | nil=>simp at h
 | cons y l ih=>cases i with
  | zero=>simp at h;subst h;simp;omega
  | succ i=>have:=ih (i:=i) (by simpa using h);simp at this ⊢;omega
theorem Ni{i:Nat}{t:RT}(h:T[i]?=some t):fJ t+oT t≤Dj T:=by
 unfold Dj
 induction T generalizing i with
 | nil=>simp at h
 | cons y l ih=>cases i with
  | zero=>simp at h;subst h;simp
  | succ i=>have:=ih (i:=i) (by simpa using h);simp at this ⊢;omega
structure RI(c:Cf)(m:RM):Prop where
 b:Bm c m
 T:(m.T.length:Int)=c.T
 X:∀ t∈m.T,Bx c t
 C:∀ t∈m.T,t.busy=true→t.call<m.calls.length
 Q:(iM m+m.calls.length+Dj m.T:Nat)≤8*m.au
 W:m.words.length<1000000
theorem qP{P:RT→Prop}(h:∀ t∈T,P t){i:Nat}{x:RT}(hx:P x):∀ t∈T.set i x,P t:=fun t ht=>by
 rcases DB ht with h' | rfl
 ·exact h t h'
 ·exact hx
theorem Nh(n:Nat):Dj (List.replicate n RT.new)=0:=by
 unfold Dj
 induction n with
 | zero=>rfl
 | succ n ih=>rw [yp,rU,List.sum_cons,ih];rfl
theorem TN(ok:bY c.T c.R c.H c.Re c.Ca c.S c.B){ws:List Int}(hw:∀ a∈ws,0≤a∧a≤18446744073709551615)(LW:ws.length<1000000):RI c (RM.new c ws):=by
 obtain⟨_,_,_,_,_,_,_,_,_,_,_,_,_,_⟩:=id ok
 have hl:∀ n,tW (List.replicate n [])=0:=fun n=>by
  unfold tW
  induction n with
  | zero=>rfl
  | succ n ih=>rw [yp,rU,List.sum_cons,ih];rfl
 have mt:∀ t∈(RM.new c ws).T,t=RT.new:=fun t ht=>Fm ht
 refine⟨⟨ok,hw,?_,?_,?_,by simp [RM.new],by simp [RM.new]⟩,?_,fun t ht=>?_,fun t ht hb=>?_,?_,LW⟩
 ·simp [RM.new];omega
 ·simp [RM.new];omega
 ·simp [RM.new];omega
 ·simp [RM.new];omega
 ·rw [mt t ht]
  exact⟨fun _=>by simp [RT.new],fun r hr=>by simp [RT.new] at hr,by simp [RT.new];omega,by simp [RT.new]⟩
 ·rw [mt t ht] at hb;cases hb
 ·simp [RM.new,iM,hl,Nh]
theorem FF{n:Nat}{v:Mv}{b:Bool}(I:RI c m)(h:m.move c n v=some (b,m')):RI c m':=by
 unfold RM.move at h
 split at h
 ·simp only [Option.some.injEq,Prod.mk.injEq] at h
  obtain⟨_,rfl⟩:=h;exact I
 rename_i hm;have IQ:=I.Q;have Imv:=I.b.mv;rw [JL] at h;obtain⟨⟨b1,m1⟩,h,e⟩:=h;simp only [Prod.mk.injEq] at e;obtain⟨_,rfl⟩:=e
 have same:RI c {m with au:=m.au+1}:=⟨⟨I.b.ok,I.b.w,I.b.st,I.b.ho,I.b.li,by simp only;omega⟩,I.T,I.X,I.C,by
  have e1:iM {m with au:=m.au+1}=iM m:=rfl;simp only [e1];omega,I.W⟩
 unfold RM.nF at h
 split at h
 ·exact QG
 split at h
 ·cases h
 rename_i t ht;have hX:=I.X t (nV ht);have hC:=I.C t (nV ht)
 split at h
 ·split at h
  ·rename_i hb
   rw [JL] at h;obtain⟨m2,h,e⟩:=h;simp only [Prod.mk.injEq] at e;obtain⟨_,rfl⟩:=e;unfold RM.step at h;rw [ht] at h;simp only at h
   split at h
   ·cases h
   ·rename_i m3 x3 h3
    simp only [Option.some.injEq] at h;subst h;have N:=uu n false I.b hX h3;have e1:iM {m3 with T:=m3.T.set v.th.toNat x3,au:=m3.au+1}=iM m3:=rfl;have e2:=Di (T:=m3.T) (i:=v.th.toNat) (t:=t) (by rw [N.T];exact ht) x3;have e3:=N.Rm;have e4:=N.cl;have e5:=N.T;have e6:=N.mv;refine⟨⟨N.bm.ok,N.bm.w,N.bm.st,N.bm.ho,N.bm.li,by simp only;omega⟩,?_,?_,?_,?_,by have:=N.wl;have:=I.W;simp only;omega⟩
    ·simp only [cW,e5];exact I.T
    ·simp only
     exact qP (by rw [e5];exact I.X) N.bx
    ·simp only
     refine qP (P:=fun t=>t.busy=true→t.call<m3.calls.length) (by rw [e5,e4];exact I.C) ?_;rw [N.ca,e4];exact fun _=>hC hb
    ·simp only [e1]
     simp only [mD,eu] at e3;rw [e5] at e2 ⊢;omega
  ·exact QG
 ·split at h
  ·exact QG
  ·split at h
   ·exact QG
   ·rename_i e he
    simp only [Option.some.injEq,Prod.mk.injEq] at h;obtain⟨_,rfl⟩:=h;have hw:=TB (cI e.label);have e2:=Di ht {t with busy:=true,call:=m.calls.length,pc:=cI e.label,R:=fun _=>0,back:= []}
    have e1:fJ {t with busy:=true,call:=m.calls.length,pc:=cI e.label,R:=fun _=>0,back:= []}≤fJ t:=by
     simp [fJ,Bd]
    have e3:oT {t with busy:=true,call:=m.calls.length,pc:=cI e.label,R:=fun _=>0,back:= []}=wt (cI e.label):=rfl;refine⟨⟨I.b.ok,I.b.w,I.b.st,I.b.ho,I.b.li,by simp only;omega⟩,?_,?_,?_,?_,I.W⟩
    ·simp only [cW];exact I.T
    ·simp only
     exact qP I.X ⟨fun _=>S_,fun r hr=>by simp at hr,hX.rc,hX.ca⟩
    ·simp only [gP,ij,mB]
     exact qP (P:=fun t=>t.busy=true→t.call<m.calls.length+(0+1)) (fun t ht hb=>by have:=I.C t ht hb;omega) (fun _=>by simp only;omega)
    ·simp only [gP,ij,mB]
     have e4:∀ (x:List RT) (y:List Cl) (z:Int),iM {m with T:=x,calls:=y,au:=z}=iM m:=fun _ _ _=>rfl
     rw [e4];omega
end
def xq(p:RT×Tv):List En:=fq p.1 p.2
def Q0(D:Dk)(c:Cf)(ov:List (RT×Tv))(m:RM)(vc vt vs:Value)(lv:List Value)(w0 w:World)(F:List En):Prop:=
 Has w0 w (DK D c m ov.length ov vc vt vs lv++(ov.flatMap xq++(fV lv m.lists++F)))
structure N3(D:Dk)(c:Cf)(ov:List (RT×Tv))(m:RM)(vc vt vs:Value)(lv:List Value)(w0 w:World)(F:List En):Prop where
 l:lv.length=m.lists.length
 o:ov.map (·.1)=m.T
 p:∀ p∈ov,kL p.1 p.2
 h:Q0 D c ov m vc vt vs lv w0 w F
def DA(D:Dk)(c:Cf)(m:RM)(w0 w:World)(F:List En):Prop:=∃ ov vc vt vs lv,N3 D c ov m vc vt vs lv w0 w F
theorem vO{α β:Type}(f:α→List β):∀ {l:List α} {i:Nat} {p:α},l[i]?=some p→(l.flatMap f).Perm (f p++(l.eraseIdx i).flatMap f)
 | [],_,_,h=>by simp at h
 | a::l,0,p,h=>by
  simp only [ug,Option.some.injEq] at h;subst h;exact List.Perm.refl _
 | a::l,i+1,p,h=>by
  rw [yu] at h;rw [sZ,List.eraseIdx_cons_succ,sZ];exact((vO f h).append_left _).trans (pW _ _ _)
theorem Jk{α:Type}{l:List α}{i:Nat}{p:α}(h:l[i]?=some p):l.set i p=l:=by
 refine wU fun j=>?_
 rw [wV]
 by_cases hj:i=j
 ·subst hj
  rw [aY rfl,aY (fO.1 h).1,h]
 ·rw [aK hj]
theorem zn{α:Type}:∀ (l:List α) (i:Nat) (p:α),(l.set i p).eraseIdx i=l.eraseIdx i
 | [],_,_=>rfl
 | _::_,0,_=>rfl
 | a::l,i+1,p=>by rw [wW,List.eraseIdx_cons_succ,List.eraseIdx_cons_succ,zn l i p]
theorem Lv{α β:Type}(f:α→β)(l:List α)(i:Nat)(p:α):(l.set i p).map f=(l.map f).set i (f p):=tY
section
variable{D:Dk}{c:Cf}{th:Nat}{ov:List (RT×Tv)}{m m':RM}{x x':RT}{v v':Tv}{vc vt vs JQ WI vs':Value}{lv FW:List Value}{w0 w w':World}{F G H:List En}{k i:Nat}
theorem yH{A R:List En}(hp:ov[th]?=some (x,v)):(A++(ov.flatMap xq++(R++F))).Perm (A++(fq x v++(R++((ov.eraseIdx th).flatMap xq++F)))):=by
 refine ue _ ?_;refine((vO xq hp).append_right _).trans ?_;rw [dH];exact ue _ (pW _ _ _)
theorem Q0.ag(h:Q0 D c ov m vc vt vs lv w0 w F)(hp:ov[th]?=some (x,v)):aW D c th ov m x v vc vt vs lv w0 w ((ov.eraseIdx th).flatMap xq++F):=by
 unfold aW;rw [Jk hp];exact Has.perm h (yH hp)
theorem aW.Qy(h:aW D c th ov m x v vc vt vs lv w0 w ((ov.eraseIdx th).flatMap xq++F))(ht:th<ov.length):Q0 D c (ov.set th (x,v)) m vc vt vs lv w0 w F:=by
 unfold aW at h;unfold Q0;rw [cW];refine Has.perm h ?_;have e:=yH (A:=DK D c m ov.length (ov.set th (x,v)) vc vt vs lv) (R:=fV lv m.lists) (F:=F) (g9 (a:=(x,v)) ht);rw [zn] at e;exact e.symm
theorem N3.ag(h:N3 D c ov m vc vt vs lv w0 w F)(ht:m.T[th]?=some x):∃ v,ov[th]?=some (x,v)∧th<ov.length∧kL x v∧aW D c th ov m x v vc vt vs lv w0 w ((ov.eraseIdx th).flatMap xq++F):=by
 rw [←h.o,gA,JL] at ht;obtain⟨⟨x1,v⟩,hp,e⟩:=ht;simp only at e;subst e;exact⟨v,hp,(fO.1 hp).1,h.p _ (nV hp),h.h.ag hp⟩
theorem RN(o:ov.map (·.1)=m.T)(p:∀ p∈ov,kL p.1 p.2)(hd:Dt D c th ov m x w0 w ((ov.eraseIdx th).flatMap xq++F))(ht:th<ov.length):DA D c {m with T:=m.T.set th x} w0 w F:=by
 obtain⟨v,vc,vt,vs,lv,l,hp,h⟩:=hd;refine⟨ov.set th (x,v),vc,vt,vs,lv,l,by rw [Lv,o],fun q hq=>?_,h.Qy ht⟩
 rcases DB hq with h' | rfl
 ·exact p q h'
 ·exact hp
theorem N3.next(h:N3 D c ov m vc vt vs lv w0 w F)(e:Ext w w'):N3 D c ov m vc vt vs lv w0 w' F:=⟨h.l,h.o,h.p,Has.next h.h e⟩
theorem DA.next(h:DA D c m w0 w F)(e:Ext w w'):DA D c m w0 w' F:=by
 obtain⟨ov,vc,vt,vs,lv,h⟩:=h;exact⟨ov,vc,vt,vs,lv,h.next e⟩
theorem N3.bd(h:N3 D c ov m vc vt vs lv w0 w F):(∀ i,w.cell? ⟨D.bD,i,none⟩=(xY D c m ov.length vc vt vs)[i]?)∧∀ i,w.frozen? ⟨D.bD,i,none⟩=false:=by
 have hm:ob D.bD 55 (xY D c m ov.length vc vt vs)∈DK D c m ov.length ov vc vt vs lv++(ov.flatMap xq++(fV lv m.lists++F)):=aj;exact⟨fun i=>by simp only [World.cell?,Has.uG h.h hm];simp,Has.dW h.h hm⟩
theorem N3.tP(h:N3 D c ov m vc vt vs lv w0 w F)(k:Int):N3 D c ov {m with au:=k} vc vt vs lv w0 (w.setCell ⟨D.bD,23,none⟩ k) F:=⟨h.l,h.o,h.p,Has.put h.h 23 k⟩
theorem DA.mv(h:DA D c m w0 w F):w.cell? ⟨D.bD,23,none⟩=some (.int .i64 m.au)∧w.frozen? ⟨D.bD,23,none⟩=false∧∀ k,DA D c {m with au:=k} w0 (w.setCell ⟨D.bD,23,none⟩ k) F:=by
 obtain⟨ov,vc,vt,vs,lv,h⟩:=h;exact⟨(h.bd.1 23).trans rfl,h.bd.2 23,fun k=>⟨ov,vc,vt,vs,lv,h.tP k⟩⟩
set_option maxRecDepth 100000
theorem aW.Q1(ht:th<ov.length):∀ (n a:Nat) {x:RT} {w:World},a+n≤48→aW D c th ov m x v vc vt vs lv w0 w F→∃ R',(∀ j,a≤j→j<a+n→R' j=0)∧(∀ j,j<a→R' j=x.R j)∧aW D c th ov m {x with R:=R'} v vc vt vs lv w0 (w.setCells D.gt (th*658+3+a) (List.replicate n (.int .u64 0))) F
 | 0,a,x,w,_,h=>⟨x.R,fun j h1 h2=>O_,fun _ _=>rfl,h⟩
 | n+1,a,x,w,hn,h=>by
  obtain⟨R',h1,h2,h3⟩:=aW.Q1 ht n (a+1) O_ (h.Eb ht (a:=a) O_ 0);refine⟨R',fun j hj hj'=>?_,fun j hj=>?_,h3⟩
  ·by_cases e:j=a
   ·subst e
    rw [h2 j O_];simp [RT.set,cg]
   ·exact h1 j O_ O_
  ·rw [h2 j O_]
   simp [RT.set,cg,show j≠a from O_]
theorem EK{R R':Nat→Int}(h:∀ j,j<48→R j=R' j):dJ ({x with R:=R},v)=dJ ({x with R:=R'},v):=by
 unfold dJ;simp only;rw [show(List.range 48).map (fun i=>Value.int .u64 (R i))=(List.range 48).map (fun i=>Value.int .u64 (R' i)) from List.map_congr_left fun j hj=>by rw [h j (List.mem_range.1 hj)]]
theorem aW.Ty(h:aW D c th ov m x v vc vt vs lv w0 w F)(ht:th<ov.length):aW D c th ov m {x with R:=fun _=>0} v vc vt vs lv w0 (w.setCells D.gt (th*658+3) (List.replicate 48 (.int .u64 0))) F:=by
 obtain⟨R',h1,_,h3⟩:=aW.Q1 ht 48 0 O_ h;unfold aW DK at h3 ⊢
 rw [show(ov.set th ({x with R:=fun _=>0},v)).flatMap dJ=(ov.set th ({x with R:=R'},v)).flatMap dJ by
  rw [List.flatMap_def,List.flatMap_def,tY,tY,EK (x:=x) (v:=v) (R:=fun _=>0) (R':=R') fun j hj=>(h1 j (nU _) O_).symm]]
 exact h3
theorem aW.ad3(h:aW D c th ov m x v vc vt vs lv w0 w F)(ht:th<ov.length):aW D c th ov m {x with back:= []} {v with bk:=bG} vc vt vs lv w0 (w.setCell ⟨D.gt,th*658+51,none⟩ bG) F:=
 jW (show Has w0 w (jl D c th ov m x v vc vt vs lv++(fq {x with back:= []} {v with bk:=bG}++(fV lv m.lists++F))) from uV (A:=jl D c th ov m x v vc vt vs lv) h) ht (vV x v _ _) O_
theorem aW.adV(h:aW D c th ov m x v vc vt vs lv w0 w F)(ht:th<ov.length)(b:Bool):aW D c th ov m {x with busy:=b} v vc vt vs lv w0 (w.setCell ⟨D.gt,th*658,none⟩ b) F:=h.Af (i:=0) ht (sM x v b) O_ rfl
theorem aW.adU(h:aW D c th ov m x v vc vt vs lv w0 w F)(ht:th<ov.length)(n:Nat):aW D c th ov m {x with call:=n} v vc vt vs lv w0 (w.setCell ⟨D.gt,th*658+1,none⟩ n) F:=h.Af ht (Jh x v n) O_ rfl
end
def JR:Tv:=⟨bG,bG,bG,bG,bG,[]⟩
def nc(c:Cf)(vw vk vb ve vT vS vH vL:Value):List Value:=
 [c.T,c.R,c.H,c.Re,c.Ca,c.S,c.B,vw,vk,vb,ve,vT,vS,vH,vL,.int .u64 0,.int .u64 0,.int .u64 0,.int .u64 0,.int .u64 0,.int .u64 0,.int .u64 0,.int .u64 0,.int .i64 0,bG,bG,bG]
def Ar(L:List Nat):List Value:=L.map fun(n:Nat)=>Value.int .i64 (n:Int)
def J6(c:Cf)(bD:Nat)(vw vk vb ve vT vS vH vL:Value)(ws:List Int)(L:List Nat)(nT:Nat)(S H:List Int)(nL:Nat):List En:=
 [ob bD 55 (nc c vw vk vb ve vT vS vH vL),.row vw 38 1 ws.length (ws.map (Value.int .u64)),.row vk 236 6 aI.length (aI.flatMap eJ.enc),.row vb 3 1 L.length (Ar L),.row ve 234 3 aM.length (aM.flatMap mJ.enc),.row vT 44 658 nT ((List.replicate nT (RT.new,JR)).flatMap dJ),.row vS 123 1 S.length (S.map (Value.int .i64)),.row vH 3 1 H.length (H.map (Value.int .i64)),.row vL 40 1 nL (List.replicate nL bG)]
section
variable{c:Cf}{w0 w w':World}{F G H:List En}{b:Nat}{t e:TypeId}{cs us us':List Value}{v v1:Value}{k n n' s:Nat}
theorem Has.ig{H:List En}(h:Has w0 w H)(hm:ob b t cs∈H)(i:Nat):w.cell? ⟨b,i,none⟩=cs[i]?:=by simp only [World.cell?,Has.uG h hm];simp
theorem Has.vf{A:List En}(h:Has w0 w (ob b t cs::(A++.row v e k n us::G)))(ho:w'.ownsRow w0.heap.size e k v1 n' us')(hg:w.grownBy w' v.ownBlock)(hb:v1.ownBlock=v.ownBlock∨v1.ownBlock=some (w.heap.size+1))(s:Nat):
  ((∀ i,w'.cell? ⟨b,i,none⟩=cs[i]?)∧∀ i,w'.frozen? ⟨b,i,none⟩=false)∧Has w0 (w'.setCell ⟨b,s,none⟩ v1) (ob b t (cs.set s v1)::(A++.row v1 e k n' us'::G)):=by
 have h2:Has w0 w' (ob b t cs::(A++.row v1 e k n' us'::G)):=Has.grow (A:=ob b t cs::A) h ho hg (hb.imp id fun e=>⟨_,e,O_⟩);exact⟨⟨fun i=>by simp only [World.cell?,Has.uG h2 aj];simp,Has.dW h2 aj⟩,Has.put h2 s v1⟩
theorem Has.Pq(h:Has w0 w H):∀ n,Has w0 w (List.replicate n (eH bG [])++H)
 | 0=>h
 | n+1=>by
  rw [yp,kY];exact Has.nil (Has.Pq h n) 3 1
theorem Fz:∀ n,(List.replicate n (RT.new,JR)).flatMap xq=List.replicate (n*4) (eH bG [])
 | 0=>rfl
 | n+1=>by
  rw [yp,sZ,Fz n,show(n+1)*4=n*4+1+1+1+1 from O_]
  rfl
theorem FG:∀ n,fV (List.replicate n bG) (List.replicate n [])=List.replicate n (eH bG [])
 | 0=>rfl
 | n+1=>by
  rw [yp,yp,yp,←FG n]
  rfl
theorem yT:∀ (is:List eJ) (n:Nat) (L:List Nat),L.length≤(sF is n L).length
 | [],_,_=>bZ _
 | i::is,n,L=>by
  unfold sF;refine sY ?_ (yT is (n+1) _)
  split
  ·simp
  ·exact bZ _
theorem LJ:bz.length≤1000:=by decide+kernel
theorem Qp:(aI.all fun i=>decide (i.a<1000))=true:=by decide+kernel
def uQ(w:World)(b k:Nat):Nat:=match w.cell? ⟨b,k,none⟩ with
 | some (.slice _ n _)=>n
 | _=>0
theorem td{A:Option Addr}{cp:Nat}(h:w.cell? ⟨b,k,none⟩=some (.slice A n cp)):uQ w b k=n:=by
 unfold uQ;rw [h]
theorem Pm{bD:Nat}{vw vk vb ve vT vS vH vL:Value}{ws:List Int}{T R S:Nat}(h:Has w0 w (J6 c bD vw vk vb ve vT vS vH vL ws bz T ((List.range S).map fun i=>if i<1 then 3 else 0) (List.replicate S (-1)) R++F))
  (hT:c.T=T) (hR:c.R=R) (hS:c.S=S) (t1:0<T) (r1:0<R) (s1:0<S) (hw:0<ws.length):∃ D:Dk,D.bD=bD∧DA D c (RM.new c ws) w0 w F:=by
 obtain⟨gw,cw,rfl,_⟩:=bf (h.own _ bp) hw;obtain⟨gk,ck,rfl,_⟩:=bf (h.own _ iU) (by rw [lG];decide);obtain⟨gb,cb,rfl,_⟩:=bf (h.own _ lA) (by decide+kernel);obtain⟨ge,ce,rfl,_⟩:=bf (h.own _ iu) D_;obtain⟨gt,ct,rfl,_⟩:=bf (h.own _ oJ) t1;obtain⟨gs,cs,rfl,_⟩:=bf (h.own _ xJ) (by simpa using s1);obtain⟨gh,ch,rfl,_⟩:=bf (h.own _ tn) (by simpa using s1);obtain⟨gl,cl,rfl,_⟩:=bf (h.own _ lO) r1;refine⟨⟨bD,gw,cw,gk,ck,gb,cb,ge,ce,gt,ct,gs,cs,gh,ch,gl,cl⟩,rfl,List.replicate T (RT.new,JR),bG,bG,bG,List.replicate R bG,?_,?_,?_,?_⟩
 ·simp [RM.new,hR]
 ·simp [RM.new,hT]
 ·intro p hp
  rw [Fm hp];exact Or.inl ⟨rfl,rfl,rfl,rfl⟩
 ·have h2:=(((Has.Pq h (T*4+R)).nil 125 5).nil 122 7).nil 119 9
  have h3:=Has.perm (G:=J6 c bD (kN gw ws.length cw) (kN gk aI.length ck) (kN gb bz.length cb) (kN ge aM.length ce) (kN gt T ct) (kN gs _ cs) (kN gh _ ch) (kN gl R cl) ws bz T _ _ R++(.row bG 119 9 0 []::.row bG 122 7 0 []::.row bG 125 5 0 []::List.replicate (T*4+R) (eH bG [])++F)) h2 (by
   rw [←kY,←kY,←kY];exact pW _ _ _)
  unfold Q0;rw [Fz,show(RM.new c ws).lists=List.replicate R [] by simp [RM.new,hR],FG,←dH (List.replicate _ _),List.replicate_append_replicate];have e1:(RM.new c ws).states=(List.range S).map fun i=>if i<1 then 3 else 0:=by simp [RM.new,hS]
  have e2:(RM.new c ws).bS=List.replicate S (-1):=by simp [RM.new,hS]
  have e3:(RM.new c ws).lists.length=R:=by simp [RM.new,hR]
  unfold DK xY;rw [e1,e2,e3,uj];exact h3
theorem DA.drop{D:Dk}{m:RM}{y:En}(h:DA D c m w0 w (y::F)):DA D c m w0 w F:=by
 obtain⟨ov,vc,vt,vs,lv,h⟩:=h;refine⟨ov,vc,vt,vs,lv,h.l,h.o,h.p,?_⟩;have h1:=h.h;unfold Q0 at h1 ⊢;rw [←dH,←dH] at h1 ⊢;exact(Has.mid h1).drop
end
theorem AE{w w':World}(h:w.grownBy w' none):Ext w w':=⟨h.os,h.tape,h.output,h.size,fun k hk=>h.block k hk S_⟩
variable{ops:Array Oper}{o:Oper}{a:Act}
theorem lq{P:Program}{K:Act→World→Prop}{Q:Exit→Act→World→Prop}{E:Prop}(w:World)(hgd:o.guard=none)(s x:Operand)(t:TypeId)
  (ho:o.op=.call {callee:=.builtin .append,args:=#[s,x],argTypes:=#[t,t]}) (e:TypeId) (size bytes:Nat) (T:Elem P e size bytes) (ht:P.underlying t=some (.slice e)) (hs:a.eval s=.slice none 0 0)
  (A:Option Addr) (m c:Nat) (us:List Value) (hx:a.eval x=.slice A m c) (hl:us.length=m*size) (hr:Rd w A us) (h1:∀ u∈us,u.oneCell'=true) (hbytes:m*bytes≤140737488355328)
  (h:∀ A' c' w',w'.ownsRow w.heap.size e size (.slice A' m c') m us→Ext w w'→K (a.put o.dst (.slice A' m c')) w'):
  if Region.wanted o (yielded ops a.tmps)=true then Oper.wp P o a w K Q else E:=
 cn w hgd s x t ho w.heap.size e size bytes T ht (.slice none 0 0) 0 [] hs (JG _ _ _ _) A m c us hx hl hr h1 (by rw [rN];exact hbytes) (bZ _) (fun v' w' g1 g2 _=>by
  rw [rN,mX] at g1;obtain⟨A',c',e'⟩:=aA g1;rw [e'] at g1 ⊢;exact h A' c' w' g1 (AE g2))
theorem RK:Elem prog 38 1 8:=Elem.of (z:=.int .u64 0) K_ rfl O_ O_
theorem vo{α:Type}{enc:α→List Value}(h:∀ x u,u∈enc x→u.oneCell'=true)(l:List α):∀ u∈l.flatMap enc,u.oneCell'=true:=fun u hu=>by
 obtain⟨x,_,hx⟩:=List.mem_flatMap.1 hu;exact h x u hx
theorem Ys:∀ (x:Cl) u,u∈x.enc→u.oneCell'=true:=fun x u hu=>by simp [Cl.enc] at hu;rcases hu with rfl | rfl | rfl | rfl | rfl | rfl | rfl | rfl | rfl<;>rfl
theorem Yt:∀ (x:Ac) u,u∈x.enc→u.oneCell'=true:=fun x u hu=>by simp [Ac.enc] at hu;rcases hu with rfl | rfl | rfl | rfl | rfl | rfl | rfl<;>rfl
theorem Yr:∀ (x:Sh) u,u∈x.enc→u.oneCell'=true:=fun x u hu=>by simp [Sh.enc] at hu;rcases hu with rfl | rfl | rfl | rfl | rfl<;>rfl
variable{rest:List Oper}
theorem iZ{P:Program}{w w':World}{Q:Exit→Act→World→Prop}{v:Value}{q:Op}(_:o.op=q)(hg:o.guard=none)(he:(execOp a.eval o).run P w=.ok (.value v) w')(h:wpList P ops Q rest (a.put o.dst v) w'):wpList P ops Q (o::rest) a w:=by
 refine wpList_plain hg fun K hK=>?_
 unfold Oper.wp;rw [he];exact hK _ _ h
def OG:Value:=.agg (dJ (RT.new,JR)).toArray
theorem Gt:Elem prog 44 658 5360:=Elem.of (z:=.agg ((dJ (RT.new,JR)).set 53 (.int .i64 0)).toArray) K_ (by simp [Value.cells,gZ]) O_ O_
theorem Gu:Elem prog 123 1 8:=Elem.of (z:=.int .i64 0) K_ rfl O_ O_
theorem Qj:Elem prog 40 1 24:=Elem.of (z:=.slice none 0 0) K_ rfl O_ O_
theorem agh{w:World}(ho:o.op=Op.build 44 #[(6,Operand.const (.int .i64 (-1)))]):(execOp a.eval o).run prog w=.ok (.value OG) w:=by
 obtain⟨dst,op,type,pos,after,guard⟩:=o;obtain rfl:op=_:=ho;refine Eq.trans (b:=Result.ok (.value OG) w) ?_ rfl
 kernel_rfl
theorem agi{w:World}(ho:o.op=Op.buildSlice 47 1 #[(0,Operand.tmp 72)])(h:a.tmps.getD 72 undef=OG):(execOp a.eval o).run prog w=.ok (.value (.slice (some ⟨w.heap.size,0,none⟩) 1 1)) (w.alloc (.cells (dJ (RT.new,JR)).toArray 44)):=by
 have h2:a.eval (.tmp 72)=OG:=h;obtain⟨i,z,hi,hz,hsz,_,hzs,_,_⟩:=Gt
 have hs:OG.cells.size=658:=by
  show(dJ (RT.new,JR)).toArray.size=658
  rw [List.size_toArray,gZ]
 have hf:Instr.fill (fun j=>some (j*i.size,i.size)) ((Array.range (1*i.size)).map (z.cells[·% z.cells.size]!)) (#[(0,OG)]:Array (Nat×Value)).toList=some (dJ (RT.new,JR)).toArray:=by
  rw [hsz];have e:=Great.fill_whole (s:=658) O_ [OG] ((Array.range (1*658)).map (z.cells[·% z.cells.size]!)) (fun v hv=>by rw [Bi.1 hv];exact hs) S_;rw [List.flatMap_singleton] at e;exact e
 have hr:=run_buildSlice (P:=prog) w 47 44 1 #[(0,OG)] _ i z underlying47 hi hz (by rw [hsz];omega) (by rw [hsz];omega) hf;obtain⟨dst,op,type,pos,after,guard⟩:=o;obtain rfl:op=_:=ho;unfold execOp;simp only [List.map_toArray,rU,List.map_nil,h2,Du,hr,Result.andThen_ok,Sem.run_pure]
theorem Yq:∀ u∈(dJ (RT.new,JR)).toArray.toList,u.oneCell'=true:=by
 have:((dJ (RT.new,JR)).all fun u=>u.oneCell')=true:=by decide+kernel
 intro u hu;exact Dv.1 this u (by simpa using hu)
section
variable{c:Cf}{w0 w w':World}{F G:List En}
def J7(c:Cf)(bD bC:Nat)(aw:Option Addr)(kw:Nat)(vw:Value)(gk nk ck:Nat)(ve:Value)(ws:List Int)(F:List En)(w0 w:World)(vb:Value)(L:List Nat)(vT:Value)(nT:Nat)(vS:Value)(S:List Int)(vH:Value)(H:List Int)(vL:Value)(nL:Nat):Prop:=
 Has w0 w (J6 c bD vw (.slice (some ⟨gk,0,none⟩) nk ck) vb ve vT vS vH vL ws L nT S H nL++(ob bC 23 [c.T,c.R,c.H,c.Re,c.Ca,c.S,c.B]::.row (.slice aw ws.length kw) 38 1 ws.length (ws.map (Value.int .u64))::F))
theorem J7.bd{bD bC:Nat}{aw:Option Addr}{kw:Nat}{vw:Value}{gk nk ck:Nat}{ve:Value}{ws:List Int}{vb:Value}{L:List Nat}{vT:Value}{nT:Nat}{vS:Value}{S:List Int}{vH:Value}{H:List Int}{vL:Value}{nL:Nat}(h:J7 c bD bC aw kw vw gk nk ck ve ws F w0 w vb L vT nT vS S vH H vL nL):
  (∀ i,w.cell? ⟨bD,i,none⟩=(nc c vw (.slice (some ⟨gk,0,none⟩) nk ck) vb ve vT vS vH vL)[i]?)∧(∀ i,w.frozen? ⟨bD,i,none⟩=false)∧(∀ i,w.cell? ⟨bC,i,none⟩=([c.T,c.R,c.H,c.Re,c.Ca,c.S,c.B]:List Value)[i]?)∧w0.heap.size≤w.heap.size:=by
 have h2:Has w0 w (ob bD 55 (nc c vw (.slice (some ⟨gk,0,none⟩) nk ck) vb ve vT vS vH vL)::_):=h;refine⟨Has.ig h2 aj,Has.dW h2 aj,?_,h2.ext.size⟩
 ·have h3:Has w0 w (J6 c bD vw (.slice (some ⟨gk,0,none⟩) nk ck) vb ve vT vS vH vL ws L nT S H nL++(ob bC 23 [c.T,c.R,c.H,c.Re,c.Ca,c.S,c.B]::_)):=h
  exact Has.ig h3 (bX aj)
theorem MX(ok:bY c.T c.R c.H c.Re c.Ca c.S c.B){ws:List Int}(hw:0<ws.length)(DG:ws.length<1000000){aw:Option Addr}{kw:Nat}{vk ve:Value}(h:Has w0 w (.row (.slice aw ws.length kw) 38 1 ws.length (ws.map (Value.int .u64))::.row vk 236 6 aI.length (aI.flatMap eJ.enc)::.row ve 234 3 aM.length (aM.flatMap mJ.enc)::F)):
  Calls prog 48 #[.agg #[c.T,c.R,c.H,c.Re,c.Ca,c.S,c.B],.int .i64 1,.slice aw ws.length kw,vk,ve] w fun e w'=>∃ D:Dk,e=.returned (some D.bD)∧DA D c (RM.new c ws) w0 w' F:=by
 obtain⟨gk,ck,hvk,_⟩:=bf (h.own _ bp) D_;obtain⟨nk,hnk⟩:∃ nk,aI.length=nk:=⟨_,rfl⟩;rw [hnk] at hvk;subst hvk;have Ve:nk=aI.length:=hnk.symm;have nkb:nk<1000:=by rw [Ve,lG];decide
 have Hnk:=aJ Ve;clear hnk Ve;obtain⟨ge,ce,hve,_⟩:=bf (h.own _ iU) D_;obtain⟨ne,hne⟩:∃ ne,aM.length=ne:=⟨_,rfl⟩;rw [hne] at hve;subst hve;clear hne
 obtain⟨T,R,S,hT,hR,hS,hB⟩:∃ T R S:Nat,c.T=T∧c.R=R∧c.S=S∧1≤T∧T≤16∧1≤R∧R≤16∧1≤S∧S≤1024:=by
  obtain⟨_,_,_,_,_,_,_,_,_,_,_,_,_,_⟩:=id ok;exact⟨c.T.toNat,c.R.toNat,c.S.toNat,O_,O_,O_,O_,O_,O_,O_,O_,O_⟩
 obtain⟨t1,t2,r1,r2,s1,s2⟩:=hB;have HT:=aJ hT;have HR:=aJ hR;have HS:=aJ hS;have HK:=aJ ok;clear hT hR hS ok;have rd:=Rd.fM (h.own _ aj);have uw:∀ u∈ws.map (Value.int .u64),u.oneCell'=true:=fun u hu=>by obtain⟨y,_,rfl⟩:=List.mem_map.1 hu;rfl
 have h1:=h.alloc #[c.T,c.R,c.H,c.Re,c.Ca,c.S,c.B] 23;have hbc:∃ bC,w.heap.size=bC:=⟨_,rfl⟩;obtain⟨bC,hbC⟩:=hbc;have e0:Ext w (w.alloc (.cells #[c.T,c.R,c.H,c.Re,c.Ca,c.S,c.B] 23)):=(bu w).aE _;clear h;go_in
 go_upto_region 1 with fail;generalize (w.alloc (.cells #[c.T,c.R,c.H,c.Re,c.Ca,c.S,c.B] 23))=Wa at h1 e0 ⊢;rw [hbC] at h1;clear hbC;have g0:=h1.drew;have gC:∀ i,(Wa.drew).cell? ⟨bC,i,none⟩=([c.T,c.R,c.H,c.Re,c.Ca,c.S,c.B]:List Value)[i]?:=Has.ig g0 aj;refine Ds (S:=fun w':World=>∀ i,w'.cell? ⟨bC,i,none⟩=([c.T,c.R,c.H,c.Re,c.Ca,c.S,c.B]:List Value)[i]?) K_ gC (fun hHeld=>?_);refine bn 0 ?_;refine bn 1 ?_;refine bn 3 ?_;refine bn 4 ?_;refine eI 2 fun Kq cr=>?_
 simp only [Act.put,JN];refine lq _ rfl (.const (.slice none 0 0)) (.tmp 19) 42 rfl 38 1 8 RK underlying42 (by simp [Act.eval]) aw ws.length kw (ws.map (Value.int .u64)) (by simp [Act.eval]) S_ (rd.ext (e0.bh)) uw O_ ?_;intro B d W1 hown e1;have g1:=Has.add g0 (g0.next e1) rfl hown (bZ _);clear hown;have vI:∀ i,W1.cell? ⟨bC,i,none⟩=([c.T,c.R,c.H,c.Re,c.Ca,c.S,c.B]:List Value)[i]?:=Has.ig g1 bp;refine cr.out _ _ vI (fun hHeld=>?_);refine bn 5 (v:=.agg #[c.T,c.R,c.H,c.Re,c.Ca,c.S,c.B,.slice B ws.length d,.slice (some ⟨gk,0,none⟩) nk ck,bG,.slice (some ⟨ge,0,none⟩) ne ce,bG,bG,bG,bG,.int .u64 0,.int .u64 0,.int .u64 0,.int .u64 0,.int .u64 0,.int .u64 0,.int .u64 0,.int .u64 0,.int .i64 0,bG,bG,bG]) ?_ (hy:=Or.inl ⟨rfl,fun w _=>K_⟩);refine eI 6 fun Kq cr=>?_
 have g2:=g1.alloc #[c.T,c.R,c.H,c.Re,c.Ca,c.S,c.B,.slice B ws.length d,.slice (some ⟨gk,0,none⟩) nk ck,bG,.slice (some ⟨ge,0,none⟩) ne ce,bG,bG,bG,bG,.int .u64 0,.int .u64 0,.int .u64 0,.int .u64 0,.int .u64 0,.int .u64 0,.int .u64 0,.int .u64 0,.int .i64 0,bG,bG,bG] 55;have hk2:∀ i,(W1.alloc (.cells #[c.T,c.R,c.H,c.Re,c.Ca,c.S,c.B,.slice B ws.length d,.slice (some ⟨gk,0,none⟩) nk ck,bG,.slice (some ⟨ge,0,none⟩) ne ce,bG,bG,bG,bG,.int .u64 0,.int .u64 0,.int .u64 0,.int .u64 0,.int .u64 0,.int .u64 0,.int .u64 0,.int .u64 0,.int .i64 0,bG,bG,bG] 55)).cell? ⟨bC,i,none⟩=([c.T,c.R,c.H,c.Re,c.Ca,c.S,c.B]:List Value)[i]?:=Has.ig g2 iU;go_simp;refine cr.out _ _ hk2 (fun hHeld=>?_);refine bn 7 ?_;refine Be K_ ?_ _
 (try simp only [Exit.then])
 skip;obtain⟨bD,hbD⟩:∃ b,W1.heap.size=b:=⟨_,rfl⟩
 have h3:J7 c bD bC aw kw (.slice B ws.length d) gk nk ck (.slice (some ⟨ge,0,none⟩) ne ce) ws F w0 (W1.alloc (.cells #[c.T,c.R,c.H,c.Re,c.Ca,c.S,c.B,.slice B ws.length d,.slice (some ⟨gk,0,none⟩) nk ck,bG,.slice (some ⟨ge,0,none⟩) ne ce,bG,bG,bG,bG,.int .u64 0,.int .u64 0,.int .u64 0,.int .u64 0,.int .u64 0,.int .u64 0,.int .u64 0,.int .u64 0,.int .i64 0,bG,bG,bG] 55)) bG [] bG 0 bG [] bG [] bG 0:=by
  rw [hbD] at g2;have g3:=(((g2.nil 40 1).nil 3 1).nil 123 1).nil 44 658;have g4:=((Has.mid (A:= [_,_,_,_,_,_,_,_,_]) g3).nil 3 1);have g5:=Has.mid (A:= [_,_,_,_,_,_,_,_,_,_]) g4;have g6:=Has.mid (A:= [_,_,_,_,_,_,_,_]) g5;have g7:=Has.mid (A:= [_,_,_,_,_,_,_,_]) g6;exact g7
 rw [hbD];generalize (W1.alloc (.cells #[c.T,c.R,c.H,c.Re,c.Ca,c.S,c.B,.slice B ws.length d,.slice (some ⟨gk,0,none⟩) nk ck,bG,.slice (some ⟨ge,0,none⟩) ne ce,bG,bG,bG,bG,.int .u64 0,.int .u64 0,.int .u64 0,.int .u64 0,.int .u64 0,.int .u64 0,.int .u64 0,.int .u64 0,.int .i64 0,bG,bG,bG] 55))=W2 at h3 ⊢;obtain⟨vw,hvw⟩:∃ v:Value,.slice B ws.length d=v:=⟨_,rfl⟩;rw [hvw] at h3;obtain⟨ve,hve⟩:∃ v:Value,.slice (some ⟨ge,0,none⟩) ne ce=v:=⟨_,rfl⟩;rw [hve] at h3 ⊢;clear hve;clear g0 g1 g2 gC vI hk2 e0 e1 hbD h1 hHeld uw rd hvw;have H3:=aJ h3;clear h3;go_wp2
 go_loopw [27] (fun s27 wr=>∃ (i:Nat) (vb:Value) (L:List Nat),s27=.int .i64 i∧i≤nk∧Hid (sF (aI.drop i) i L=bz)∧Hid (J7 c bD bC aw kw vw gk nk ck ve ws F w0 wr vb L bG 0 bG [] bG [] bG 0)) (fun s27 _=>nk - (intOf s27).toNat)
 case atStart=>exact⟨0,bG,[],rfl,nU _,rfl,H3⟩
 case round=>
  clear H3;obtain⟨i,vb,L,rfl,hi,hl,hg⟩:=hrel
  by_cases hlt:i<nk
  case neg=>
   have dl:decide ((i:Int)<(nk:Int))=false:=dy O_
   have hL:L=bz:=by
    have h2:=hl.out;rw [List.drop_eq_nil_of_le (by rw [←Hnk.out];omega)] at h2;exact h2
   subst hL;clear hl;go_wp2_with fail;clear dl hlt hi
   go_loopw [14] (fun s14 wr=>∃ (j:Nat) (vT:Value),s14=.int .i64 j∧j≤T∧Hid (J7 c bD bC aw kw vw gk nk ck ve ws F w0 wr vb bz vT j bG [] bG [] bG 0)) (fun s14 _=>T - (intOf s14).toNat)
   case atStart=>exact⟨0,bG,rfl,nU _,hg⟩
   case round=>
    clear hg;obtain⟨j,vT,rfl,hj,hg⟩:=hrel;have qc:=(hg.out.bd.2.2.1 0).trans (show _=some (.int .i64 c.T) from rfl)
    by_cases hlt:j<T
    case neg=>
     have dl:decide ((j:Int)<c.T)=false:=dy (by have:=HT.out;omega);obtain rfl:T=j:=O_
     go_wp2_with fail;clear dl hlt hj qc
     go_loopw [15] (fun s15 wr=>∃ (j:Nat) (vS vH:Value),s15=.int .i64 j∧j≤S∧Hid (J7 c bD bC aw kw vw gk nk ck ve ws F w0 wr vb bz vT T vS ((List.range j).map fun i=>if i<1 then 3 else 0) vH (List.replicate j (-1)) bG 0)) (fun s15 _=>S - (intOf s15).toNat)
     case atStart=>exact⟨0,bG,bG,rfl,nU _,hg⟩
     case round=>
      clear hg;obtain⟨j,vS,vH,rfl,hj,hg⟩:=hrel;have qc:=(hg.out.bd.2.2.1 5).trans (show _=some (.int .i64 c.S) from rfl)
      by_cases hlt:j<S
      case neg=>
       have dl:decide ((j:Int)<c.S)=false:=dy (by have:=HS.out;omega);obtain rfl:S=j:=O_
       go_wp2_with fail;clear dl hlt hj qc
       go_loopw [17] (fun s17 wr=>∃ (j:Nat) (vL:Value),s17=.int .i64 j∧j≤R∧Hid (J7 c bD bC aw kw vw gk nk ck ve ws F w0 wr vb bz vT T vS ((List.range S).map fun i=>if i<1 then 3 else 0) vH (List.replicate S (-1)) vL j)) (fun s17 _=>R - (intOf s17).toNat)
       case atStart=>exact⟨0,bG,rfl,nU _,hg⟩
       case round=>
        clear hg;obtain⟨j,vL,rfl,hj,hg⟩:=hrel;have qc:=(hg.out.bd.2.2.1 1).trans (show _=some (.int .i64 c.R) from rfl)
        by_cases hlt:j<R
        case neg=>
         have dl:decide ((j:Int)<c.R)=false:=dy (by have:=HR.out;omega);obtain rfl:R=j:=O_
         go_wp2;go_ret;obtain⟨D,hD,hA⟩:=Pm hg.out HT.out HR.out HS.out t1 r1 s1 hw;exact⟨D,by rw [hD];rfl,hA.drop.drop⟩
        case pos=>
         have dl:decide ((j:Int)<c.R)=true:=cM (by have:=HR.out;omega);obtain⟨A,cp,rfl⟩:=aA (Has.own hg.out _ lO);have k9:=(hg.out.bd.1 14).trans (show _=some (.slice A j cp) from rfl);have hown:wr.ownsRow w0.heap.size 40 1 (.slice A j cp) j (List.replicate j bG):=Has.own hg.out _ lO;have jF:=hg.out.bd.2.2.2;go_wp2_with (at_builtin;refine fP _ rfl _ _ 49 rfl w0.heap.size 40 1 24 Qj underlying49 _ _ _ rfl hown _ (by first | rfl | simp [Act.eval]) rfl (by simp [Value.oneCell']) O_ jF ?_;intro v5 W5 fA eW kF;obtain⟨⟨kc,kf⟩,hp⟩:=Has.vf (A:= [_,_,_,_,_,_,_]) hg.out fA eW kF 14;have k5:=(kc 14).trans (show _=some (Value.slice A j cp) from rfl);have f5:=kf 14;have HP:=aJ hp;clear hp kc kf;obtain⟨g5,c5,rfl,_⟩:=bf fA O_;clear fA kF eW)
         go_roundw
         case rel=>exact⟨j+1,_,rfl,O_,aJ (by have h9:=HP.out;unfold J7;unfold J6 at h9 ⊢;rw [Dy (n:=j) (a:=bG)];exact h9)⟩
         case measure=>simp only [intOf];omega
      case pos=>
       have dl:decide ((j:Int)<c.S)=true:=cM (by have:=HS.out;omega);obtain⟨A,cp,rfl⟩:=aA (Has.own hg.out _ xJ);obtain⟨A2,c2,rfl⟩:=aA (Has.own hg.out _ tn);obtain⟨S2,DI⟩:∃ S2:List Int,((List.range j).map fun i=>if i<1 then 3 else 0)=S2:=⟨_,rfl⟩;obtain⟨H2,hH2⟩:∃ H2:List Int,List.replicate j (-1)=H2:=⟨_,rfl⟩;rw [DI,hH2] at hg;have sl:S2.length≤1024:=by rw [←DI,mC,Fk];omega
       have DH:H2.length≤1024:=by rw [←hH2,uj];omega
       have HS2:=aJ DI;have HH2:=aJ hH2;clear DI hH2;have k9:=(hg.out.bd.1 12).trans (show _=some (.slice A S2.length cp) from rfl);have hown:wr.ownsRow w0.heap.size 123 1 (.slice A S2.length cp) S2.length (S2.map (Value.int .i64)):=Has.own hg.out _ xJ;have jF:=hg.out.bd.2.2.2
       by_cases hj1:j<1
       case pos=>
        have dj:decide ((j:Int)<1)=true:=cM O_;go_wp2_with (first | (at_builtin;refine fP _ rfl _ _ 48 rfl w0.heap.size 123 1 8 Gu underlying48 _ _ _ rfl hown _ (by first | rfl | simp [Act.eval]) rfl (by simp [Value.oneCell']) O_ jF ?_;intro v5 W5 fA eW kF;obtain⟨⟨kc,kf⟩,hp⟩:=Has.vf (A:= [_,_,_,_,_]) hg.out fA eW kF 12;have k5:=(kc 12).trans (show _=some (Value.slice A S2.length cp) from rfl);have f5:=kf 12;have HP:=aJ hp;clear hp kc kf;obtain⟨g5,c5,rfl,_⟩:=bf fA O_;clear fA kF eW;have kH:=(Has.ig HP.out (b:=bD) aj 13).trans (show _=some (.slice A2 H2.length c2) from rfl);have fH:=Has.dW HP.out (b:=bD) aj 13;clear hown;have hown:World.ownsRow _ w0.heap.size 3 1 (.slice A2 H2.length c2) H2.length (H2.map (Value.int .i64)):=Has.own HP.out _ tn;clear jF;have jF:=HP.out.ext.size) | (at_builtin;refine fP _ rfl _ _ 40 rfl w0.heap.size 3 1 8 jT underlying40 _ _ _ rfl hown _ (by first | rfl | simp [Act.eval]) rfl (by simp [Value.oneCell']) O_ jF ?_;intro v5 W5 fA eW kF;obtain⟨⟨kc,kf⟩,hp⟩:=Has.vf (A:= [_,_,_,_,_,_]) HP.out fA eW kF 13;have k6:=(kc 13).trans (show _=some (Value.slice A2 H2.length c2) from rfl);have f6:=kf 13;have HQ:=aJ hp;clear hp kc kf;obtain⟨g5,c5,rfl,_⟩:=bf fA O_;clear fA kF eW))
        go_roundw
        case rel=>exact⟨j+1,_,_,rfl,O_,aJ (by have h9:=HQ.out;unfold J7;rw [List.range_succ,jI,HS2.out,Dy,HH2.out,List.map_singleton,aY hj1];unfold J6 at h9 ⊢;rw [gP,gP,jI,jI];exact h9)⟩
        case measure=>simp only [intOf];omega
       case neg=>
        have dj:decide ((j:Int)<1)=false:=dy O_;go_wp2_with (first | (at_builtin;refine fP _ rfl _ _ 48 rfl w0.heap.size 123 1 8 Gu underlying48 _ _ _ rfl hown _ (by first | rfl | simp [Act.eval]) rfl (by simp [Value.oneCell']) O_ jF ?_;intro v5 W5 fA eW kF;obtain⟨⟨kc,kf⟩,hp⟩:=Has.vf (A:= [_,_,_,_,_]) hg.out fA eW kF 12;have k5:=(kc 12).trans (show _=some (Value.slice A S2.length cp) from rfl);have f5:=kf 12;have HP:=aJ hp;clear hp kc kf;obtain⟨g5,c5,rfl,_⟩:=bf fA O_;clear fA kF eW;have kH:=(Has.ig HP.out (b:=bD) aj 13).trans (show _=some (.slice A2 H2.length c2) from rfl);have fH:=Has.dW HP.out (b:=bD) aj 13;clear hown;have hown:World.ownsRow _ w0.heap.size 3 1 (.slice A2 H2.length c2) H2.length (H2.map (Value.int .i64)):=Has.own HP.out _ tn;clear jF;have jF:=HP.out.ext.size) | (at_builtin;refine fP _ rfl _ _ 40 rfl w0.heap.size 3 1 8 jT underlying40 _ _ _ rfl hown _ (by first | rfl | simp [Act.eval]) rfl (by simp [Value.oneCell']) O_ jF ?_;intro v5 W5 fA eW kF;obtain⟨⟨kc,kf⟩,hp⟩:=Has.vf (A:= [_,_,_,_,_,_]) HP.out fA eW kF 13;have k6:=(kc 13).trans (show _=some (Value.slice A2 H2.length c2) from rfl);have f6:=kf 13;have HQ:=aJ hp;clear hp kc kf;obtain⟨g5,c5,rfl,_⟩:=bf fA O_;clear fA kF eW))
        go_roundw
        case rel=>exact⟨j+1,_,_,rfl,O_,aJ (by have h9:=HQ.out;unfold J7;rw [List.range_succ,jI,HS2.out,Dy,HH2.out,List.map_singleton,aK hj1];unfold J6 at h9 ⊢;rw [gP,gP,jI,jI];exact h9)⟩
        case measure=>simp only [intOf];omega
    case pos=>
     have dl:decide ((j:Int)<c.T)=true:=cM (by have:=HT.out;omega);obtain⟨A,cp,rfl⟩:=aA (Has.own hg.out _ oJ);have k9:=(hg.out.bd.1 11).trans (show _=some (.slice A j cp) from rfl);have hown:wr.ownsRow w0.heap.size 44 658 (.slice A j cp) j ((List.replicate j (RT.new,JR)).flatMap dJ):=Has.own hg.out _ oJ;have jF:=hg.out.bd.2.2.2;go_wp2_with (first | (refine iZ (q:=Op.build 44 #[(6,Operand.const (.int .i64 (-1)))]) (v:=OG) rfl rfl (agh rfl) ?_) | (refine iZ (q:=Op.buildSlice 47 1 #[(0,Operand.tmp 72)]) (v:=.slice (some ⟨wr.heap.size,0,none⟩) 1 1) (w':=wr.alloc (.cells (dJ (RT.new,JR)).toArray 44)) rfl rfl (agi rfl rfl) ?_) | (at_builtin;refine fP _ rfl _ _ 47 rfl w0.heap.size 44 658 5360 Gt underlying47 _ _ _ rfl hown _ (by first | rfl | simp [Act.eval]) (by rw [List.size_toArray];exact gZ _) Yq O_ jF ?_;intro v5 W5 fA eW kF;obtain⟨⟨kc,kf⟩,hp⟩:=Has.vf (A:= [_,_,_,_]) hg.out fA eW kF 11;have k5:=(kc 11).trans (show _=some (Value.slice A j cp) from rfl);have f5:=kf 11;have HP:=aJ hp;clear hp kc kf;obtain⟨g5,c5,rfl,_⟩:=bf fA O_;clear fA kF eW))
     go_roundw
     case rel=>exact⟨j+1,_,rfl,O_,aJ (by have h9:=HP.out;unfold J7;unfold J6 at h9 ⊢;rw [Dy,rT,List.flatMap_singleton];exact h9)⟩
     case measure=>simp only [intOf];omega
  case pos=>
   have dl:decide ((i:Int)<(nk:Int))=true:=cM O_;have P5:i<aI.length:=by rw [←Hnk.out];exact hlt
   obtain⟨ins,Ma⟩:∃ ins,aI[i]=ins:=⟨_,rfl⟩;have hd:aI.drop i=ins::aI.drop (i+1):=by rw [←Ma];exact GR P5
   have he:aI[i]?=some ins:=by rw [←Ma];exact fy P5
   clear Ma;have hl:=hl.out;rw [hd] at hl;unfold sF at hl;have hal:=of_decide_eq_true (Dv.1 Qp _ (nV he))
   have fQ:∀ j u,ins.enc[j]?=some u→wr.cell? ⟨gk,i*6+j,none⟩=some u:=fun j u hu=>by
    have hg:=hg.out;have e:=Hnk.out;subst e;exact Has.ey (g:=gk) (c:=ck) (e:=236) (k:=6) (n:=aI.length) hg iU (flat_get eJ.enc 6 eJ.Gr he hu)
   have c0:=fQ 0 _ rfl;have c1:=fQ 1 _ rfl;have c2:=fQ 2 _ rfl;have c3:=fQ 3 _ rfl;have c4:=fQ 4 _ rfl;have c5:=fQ 5 _ rfl;simp only [gn] at c0;have h6:=Has.back (A:=J6 c bD vw (.slice (some ⟨gk,0,none⟩) nk ck) vb ve bG bG bG bG ws L 0 [] [] 0) (Has.alloc hg.out #[.int .i64 (ins.k:Int),.int .i64 (ins.a:Int),.int .i64 (ins.b:Int),.int .i64 (ins.c:Int),ins.d,.int .i64 (ins.ag:Int)] 236)
   by_cases hk:ins.k=10
   case neg=>
    have dk:((ins.k:Int)==10)=false:=by simp;omega
    rw [aK hk] at hl;have HL:=aJ hl;have H7:=aJ (show Has _ _ _ from(Has.mid h6).drop);clear hl hd he fQ h6 hg;go_wp2
    go_roundw
    case rel=>exact⟨i+1,vb,L,rfl,O_,HL,H7⟩
    case measure=>simp only [intOf];omega
   case pos=>
    have dk:((ins.k:Int)==10)=true:=by simp [hk]
    rw [aY hk] at hl;have HL:=aJ hl;have H6:=aJ h6;clear hl hd he fQ h6 hg hk
    have hLl:L.length≤1000:=by
     have:=yT (aI.drop (i+1)) (i+1) ((L++List.replicate (ins.a+1 - L.length) 0).set ins.a i);rw [HL.out] at this;have:=LJ;simp at*;omega
    go_wp2_with fail;generalize (wr.alloc (.cells #[.int .i64 (ins.k:Int),.int .i64 (ins.a:Int),.int .i64 (ins.b:Int),.int .i64 (ins.c:Int),ins.d,.int .i64 (ins.ag:Int)] 236))=W3 at H6 ⊢;obtain⟨bx,hbx⟩:∃ b,wr.heap.size=b:=⟨_,rfl⟩;rw [hbx] at H6 ⊢;clear c0 c1 c2 c3 c4 c5 hbx dl dk;obtain⟨wo,hwo⟩:∃ wo:World,wo=wr:=⟨_,rfl⟩;clear hwo
    go_loopw [] (fun wx=>∃ (vb:Value) (j:Nat),L.length+j≤max L.length (ins.a+1)∧Hid (Has w0 wx (J6 c bD vw (.slice (some ⟨gk,0,none⟩) nk ck) vb ve bG bG bG bG ws (L++List.replicate j 0) 0 [] [] 0++(ob bx 236 [.int .i64 (ins.k:Int),.int .i64 (ins.a:Int),.int .i64 (ins.b:Int),.int .i64 (ins.c:Int),ins.d,.int .i64 (ins.ag:Int)]::(ob bC 23 [c.T,c.R,c.H,c.Re,c.Ca,c.S,c.B]::.row (.slice aw ws.length kw) 38 1 ws.length (ws.map (Value.int .u64))::F))))) (fun wx=>ins.a+1 - uQ wx bD 9)
    case atStart=>exact⟨vb,0,O_,by rw [List.replicate_zero,iN];exact H6⟩
    case round=>
     clear H6 vb;obtain⟨vb,j,hj,hx⟩:=hrel;obtain⟨A,cp,rfl⟩:=aA (hx.out.own _ lA);obtain⟨L2,Ok⟩:∃ L2,L++List.replicate j 0=L2:=⟨_,rfl⟩;rw [Ok] at hx;have hn2:L.length+j=L2.length:=by rw [←Ok,gP,uj]
     have J8:=aJ Ok;clear Ok;have q9:=fun z:aL wr=>(Has.ig (hx.out.next z.ok) (b:=bD) aj 9).trans (show _=some (.slice A L2.length cp) from rfl)
     have qb:=fun z:aL wr=>Has.ig (hx.out.next z.ok) (b:=bx) (bX aj)
     by_cases hle:L2.length≤ins.a
     case pos=>
      have dle:decide ((L2.length:Int)≤(ins.a:Int))=true:=cM O_
      go_upto_region 6 with fail;refine qE fun z1=>?_
      have h7:=hx.out.next z1.ok;generalize z1.world=W4 at h7 ⊢;clear q9 qb;have k9:=(Has.ig h7 (b:=bD) aj 9).trans (show _=some (.slice A L2.length cp) from rfl);have hown:W4.ownsRow w0.heap.size 3 1 (.slice A L2.length cp) L2.length (Ar L2):=h7.own _ lA;have jF:=h7.ext.size;go_wp2_with (at_builtin;refine fP _ rfl _ _ 40 rfl w0.heap.size 3 1 8 jT underlying40 _ _ _ rfl hown _ rfl rfl (by simp [Value.oneCell']) O_ jF ?_;intro v5 W5 fA eW kF;obtain⟨⟨kc,kf⟩,hp⟩:=Has.vf (A:= [_,_]) h7 fA eW kF 9;have k5:=(kc 9).trans (show _=some (Value.slice A L2.length cp) from rfl);have f5:=kf 9;have HP:=aJ hp;clear hp kc kf;obtain⟨g5,c5,rfl,_⟩:=bf fA O_;clear fA kF eW)
      go_roundw
      case rel=>exact⟨_,j+1,O_,aJ (by rw [show L++List.replicate (j+1) 0=L2++ [0] by rw [Dy,←dH,J8.out]];have:=HP.out;unfold J6 Ar at this ⊢;rw [jI,gP];exact this)⟩
      case measure=>
       have m1:=td (HP.out.at_ aj (i:=9) rfl);have m2:=td (hx.out.at_ aj (i:=9) rfl);rw [m1,m2];omega
     case neg=>
      have dle:decide ((L2.length:Int)≤(ins.a:Int))=false:=dy O_
      go_upto_region 6 with fail;refine qE fun z1=>?_
      have h7:=hx.out.next z1.ok
      go_upto_region 8 with fail;clear q9 qb;generalize z1.world=W4 at h7 ⊢;obtain⟨g5,c5,hf5,_⟩:=bf (h7.own _ lA) O_;obtain⟨rfl,rfl⟩:A=some ⟨g5,0,none⟩∧cp=c5:=by injection hf5 with a b c;exact⟨a,c⟩
      clear hf5;have q9:=fun z:aL W4=>(Has.ig (h7.next z.ok) (b:=bD) aj 9).trans (show _=some (.slice (some ⟨g5,0,none⟩) L2.length cp) from rfl)
      have qb:=fun z:aL W4=>Has.ig (h7.next z.ok) (b:=bx) (bX aj)
      have y1:ins.a<L2.length:=O_
      have hfr:=fun z:aL W4=>Has.gL (g:=g5) (c:=cp) (e:=3) (k:=1) (n:=L2.length) (us:=Ar L2) (h7.next z.ok) lA ins.a
      obtain⟨u0,U9⟩:∃ u,(Ar L2)[ins.a]?=some u:=⟨_,fy (by unfold Ar;rw [mC];omega)⟩;have hce:=fun z:aL W4=>Has.ey (g:=g5) (c:=cp) (e:=3) (k:=1) (n:=L2.length) (us:=Ar L2) (h7.next z.ok) lA U9
      have H8:=aJ h7;clear h7 hx;refine qT 8 fun z2=>?_
      go_wp2_with fail;have h9:=Has.fD (A:= [_,_,_]) (g:=g5) (c:=cp) (e:=3) (k:=1) (n:=L2.length) (us:=Ar L2) (H8.out.next z2.ok) ins.a i;have H9:=aJ h9;clear h9
      go_roundw
      case rel=>exact⟨i+1,_,L2.set ins.a i,rfl,O_,aJ (by rw [←HL.out,←J8.out,show j=ins.a+1 - L.length from O_]),aJ (by have h9:=H9.out;unfold J7;unfold J6 Ar at h9 ⊢;rw [cW,tY];exact(Has.mid (A:= [_,_,_,_,_,_,_,_,_]) h9).drop)⟩
      case measure=>simp only [intOf];omega
end
def uU(P:Program):List Oper→Act→World→Option (Act×World)
 | [],a,w=>some (a,w)
 | o::rest,a,w=>match o.guard with
  | none=>match (execOp a.eval o).run P w with
   | .ok (.value v) w'=>uU P rest (a.put o.dst v) w'
   | .ok .skip w'=>uU P rest (a.put o.dst undef) w'
   | _=>none
  | some _=>none
theorem uI{P:Program}{Q:Exit→Act→World→Prop}{a':Act}{w':World}(hq:Q .normal a' w'):∀ {l:List Oper} {a:Act} {w:World},uU P l a w=some (a',w')→wpList P ops Q l a w
 | [],a,w,h=>by
  simp only [uU,Option.some.injEq,Prod.mk.injEq] at h;obtain⟨rfl,rfl⟩:=h;exact hq
 | o::rest,a,w,h=>by
  unfold uU at h
  split at h
  ·rename_i hg
   refine wpList_plain hg fun K hK=>?_
   unfold Oper.wp
   split at h
   ·rename_i v w1 hr
    rw [hr];exact hK _ _ (uI hq h)
   ·rename_i w1 hr
    rw [hr];exact hK _ _ (uI hq h)
   ·cases h
  ·cases h
theorem cJ{P:Program}{id:Nat}{Q:Exit→Act→World→Prop}{l:List Oper}{a:Act}{w:World}(d:Nat)(v:Value)(w':World)
  (h:(uU P l a w).map (fun p=>(p.1.tmps[d]?,p.1.defers,p.2))=some (some v,[],w')) (hq:∀ a',a'.tmps[d]?=some v→a'.defers= []→Q .normal a' w'):(Code.region id l.toArray false).wp P Q a w:=by
 refine wp_region_list ?_;rw [List.toList_toArray]
 cases hr:uU P l a w with
 | none=>rw [hr] at h;cases h
 | some p=>
  rw [hr] at h;simp only [Bg,Option.some.injEq,Prod.mk.injEq] at h;obtain⟨h1,h2,h3⟩:=h;have:=hq p.1 h1 h2;rw [←h3] at this;exact uI this hr
def fL(w:World)(l:List eJ)(e:Ending)(w':World):Prop:=∃ v,e=.returned v∧w'.ownsRow w.heap.size 236 6 v l.length (l.flatMap eJ.enc)∧Ext w w'
theorem Mo(l:List eJ):(l.flatMap eJ.enc).length=l.length*6:=by induction l with | nil=>rfl | cons x l ih=>rw [sZ,gP,ih,ij];show 6+_=_;omega
theorem cQ(w:World)(l:List eJ)(hl:l.length≤1000):(w.alloc (.cells (l.flatMap eJ.enc).toArray 236)).ownsRow w.heap.size 236 6 (.slice (some ⟨w.heap.size,0,none⟩) l.length l.length) l.length (l.flatMap eJ.enc):=by
 have:=World.ownsRow_lit (base:=w.heap.size) (e:=236) (size:=6) w (l.flatMap eJ.enc).toArray l.length (bZ _) (by unfold maxLen;omega) (by simpa using Mo l);simpa using this
theorem DY(w:World):Calls prog 155 #[] w (fL w kK):=by
 have g:=cQ w kK D_;go_in
 go_upto_region 1 with fail;refine cJ 0 (.slice (some ⟨w.heap.size,0,none⟩) 18 18) (w.alloc (.cells (kK.flatMap eJ.enc).toArray 236)) K_ ?_;exact AY
theorem yR(label:Nat)(w:World):Calls prog 162 #[.int .i64 (label:Int)] w (fL w (mm label)):=by
 have g:=cQ w (mm label) (by show 8≤1000;decide);go_in
 go_upto_region 1 with fail;refine cJ 2 (.slice (some ⟨w.heap.size,0,none⟩) 8 8) (w.alloc (.cells ((mm label).flatMap eJ.enc).toArray 236)) K_ ?_;exact AY
theorem E4(w:World):Calls prog 158 #[] w (fL w rE):=by
 have g:=cQ w rE D_;go_in
 go_upto_region 1 with fail;refine cJ 0 (.slice (some ⟨w.heap.size,0,none⟩) 13 13) (w.alloc (.cells (rE.flatMap eJ.enc).toArray 236)) K_ ?_;exact AY
theorem Eg(w:World):Calls prog 138 #[] w (fL w mj):=by
 have g:=cQ w mj D_;go_in
 go_upto_region 1 with fail;refine cJ 0 (.slice (some ⟨w.heap.size,0,none⟩) 46 46) (w.alloc (.cells (mj.flatMap eJ.enc).toArray 236)) K_ ?_;exact AY
theorem Ae(w:World):Calls prog 139 #[] w (fL w j8):=by
 have g:=cQ w j8 D_;go_in
 go_upto_region 1 with fail;refine cJ 0 (.slice (some ⟨w.heap.size,0,none⟩) 38 38) (w.alloc (.cells (j8.flatMap eJ.enc).toArray 236)) K_ ?_;exact AY
theorem Jw(w:World):Calls prog 140 #[] w (fL w wF):=by
 have g:=cQ w wF D_;go_in
 go_upto_region 1 with fail;refine cJ 0 (.slice (some ⟨w.heap.size,0,none⟩) 40 40) (w.alloc (.cells (wF.flatMap eJ.enc).toArray 236)) K_ ?_;exact AY
theorem iw(src k:Nat)(w:World):Calls prog 159 #[.int .i64 (src:Int),.int .i64 (k:Int)] w (fL w (cY src k)):=by
 have g:=cQ w (cY src k) (by show 2≤1000;decide);go_in
 go_upto_region 1 with fail;refine cJ 4 (.slice (some ⟨w.heap.size,0,none⟩) 2 2) (w.alloc (.cells ((cY src k).flatMap eJ.enc).toArray 236)) K_ ?_;exact AY
theorem Cx(w:World):Calls prog 146 #[] w (fL w lI):=by
 have g:=cQ w lI D_;go_in
 go_upto_region 1 with fail;refine cJ 0 (.slice (some ⟨w.heap.size,0,none⟩) 34 34) (w.alloc (.cells (lI.flatMap eJ.enc).toArray 236)) K_ ?_;exact AY
theorem EZ(w:World):Calls prog 147 #[] w (fL w rC):=by
 have g:=cQ w rC D_;go_in
 go_upto_region 1 with fail;refine cJ 0 (.slice (some ⟨w.heap.size,0,none⟩) 39 39) (w.alloc (.cells (rC.flatMap eJ.enc).toArray 236)) K_ ?_;exact AY
theorem sA(label:Nat)(w:World):Calls prog 133 #[.int .i64 (label:Int)] w (fL w (gz label)):=by
 have g:=cQ w (gz label) (by show 4≤1000;decide);go_in
 go_upto_region 1 with fail;refine cJ 2 (.slice (some ⟨w.heap.size,0,none⟩) 4 4) (w.alloc (.cells ((gz label).flatMap eJ.enc).toArray 236)) K_ ?_;exact AY
theorem Ii(w:World):Calls prog 106 #[] w (fL w wE):=by
 have g:=cQ w wE D_;go_in
 go_upto_region 1 with fail;refine cJ 0 (.slice (some ⟨w.heap.size,0,none⟩) 17 17) (w.alloc (.cells (wE.flatMap eJ.enc).toArray 236)) K_ ?_;exact AY
theorem K6(w:World):Calls prog 107 #[] w (fL w Dc):=by
 have g:=cQ w Dc D_;go_in
 go_upto_region 1 with fail;refine cJ 0 (.slice (some ⟨w.heap.size,0,none⟩) 30 30) (w.alloc (.cells (Dc.flatMap eJ.enc).toArray 236)) K_ ?_;exact AY
theorem E0(w:World):Calls prog 108 #[] w (fL w rD):=by
 have g:=cQ w rD D_;go_in
 go_upto_region 1 with fail;refine cJ 0 (.slice (some ⟨w.heap.size,0,none⟩) 74 74) (w.alloc (.cells (rD.flatMap eJ.enc).toArray 236)) K_ ?_;exact AY
theorem Qk:Elem prog 236 6 48:=Elem.of (z:=.agg #[.int .i64 0,.int .i64 0,.int .i64 0,.int .i64 0,.int .i64 0,.int .i64 0]) K_ (by simp [Value.cells]) O_ O_
theorem Ql:Elem prog 234 3 24:=Elem.of (z:=.agg #[.int .i64 0,.int .i64 0,.int .i64 0]) K_ (by simp [Value.cells]) O_ O_
theorem Gz{Q:Exit→Act→World→Prop}{w wk wl:World}{e st:TypeId}{size bytes B n1 n2:Nat}{vA vB:Value}{us1 us2:List Value}(T:Elem prog e size bytes)(ht:prog.underlying st=some (.slice e))(hgd:o.guard=none)(s x:Operand)
  (ho:o.op=.call {callee:=.builtin .append,args:=#[s,x],argTypes:=#[st,st]}) (hs:a.eval s=vA) (hx:a.eval x=vB) (oA:wk.ownsRow w.heap.size e size vA n1 us1) (eA:Ext w wk) (oB:wl.ownsRow B e size vB n2 us2) (eB:Ext wk wl) (h1:∀ u∈us2,u.oneCell'=true) (hb:(n1+n2)*bytes≤140737488355328)
  (h:∀ A' c' w',w'.ownsRow w.heap.size e size (.slice A' (n1+n2) c') (n1+n2) (us1++us2)→Ext w w'→wpList prog ops Q rest (a.put o.dst (.slice A' (n1+n2) c')) w'):wpList prog ops Q (o::rest) a wl:=by
 obtain⟨A,c,rfl⟩:=aA oB;have oA:=dB oA eB;have eA:=Ext.next eA eB;refine cN wl hgd s x st ho w.heap.size e size bytes T ht vA n1 us1 hs oA A n2 c us2 hx oB.1 (Rd.fM oB) h1 hb eA.size ?_;intro v' w' g1 g2 _;obtain⟨A',c',rfl⟩:=aA g1;exact h A' c' w' g1 (I7 eA oA (bZ _) g2)
theorem Ub(l:List eJ):∀ u∈l.flatMap eJ.enc,u.oneCell'=true:=fun u hu=>by
 obtain⟨x,_,hx⟩:=List.mem_flatMap.1 hu;simp [eJ.enc] at hx
 rcases hx with rfl | rfl | rfl | rfl | rfl | rfl<;>rfl
theorem Uc(l:List mJ):∀ u∈l.flatMap mJ.enc,u.oneCell'=true:=fun u hu=>by
 obtain⟨x,_,hx⟩:=List.mem_flatMap.1 hu;simp [mJ.enc] at hx
 rcases hx with rfl | rfl | rfl<;>rfl
theorem bN{Q:Exit→Act→World→Prop}{w wk wl:World}{B:Nat}{vA vB:Value}{l1 l2:List eJ}(oA:wk.ownsRow w.heap.size 236 6 vA l1.length (l1.flatMap eJ.enc))(eA:Ext w wk)(oB:wl.ownsRow B 236 6 vB l2.length (l2.flatMap eJ.enc))(eB:Ext wk wl)(l:List eJ)(hl:l1++l2=l)(hb:l.length≤1000)(s x:Operand)(hgd:o.guard=none)
  (ho:o.op=.call {callee:=.builtin .append,args:=#[s,x],argTypes:=#[45,45]}) (hs:a.eval s=vA) (hx:a.eval x=vB)
  (h:∀ A' c' w',w'.ownsRow w.heap.size 236 6 (.slice A' l.length c') l.length (l.flatMap eJ.enc)→Ext w w'→wpList prog ops Q rest (a.put o.dst (.slice A' l.length c')) w'):wpList prog ops Q (o::rest) a wl:=by
 subst hl;refine Gz Qk underlying45 hgd s x ho hs hx oA eA oB eB (Ub l2) (by rw [gP] at hb;omega) ?_;rw [←gP,←rT];exact h
theorem rF{Q:Exit→Act→World→Prop}{w wk wl:World}{B:Nat}{vA vB:Value}{l1 l2:List mJ}(oA:wk.ownsRow w.heap.size 234 3 vA l1.length (l1.flatMap mJ.enc))(eA:Ext w wk)(oB:wl.ownsRow B 234 3 vB l2.length (l2.flatMap mJ.enc))(eB:Ext wk wl)(l:List mJ)(hl:l1++l2=l)(hb:l.length≤1000)(s x:Operand)(hgd:o.guard=none)
  (ho:o.op=.call {callee:=.builtin .append,args:=#[s,x],argTypes:=#[46,46]}) (hs:a.eval s=vA) (hx:a.eval x=vB)
  (h:∀ A' c' w',w'.ownsRow w.heap.size 234 3 (.slice A' l.length c') l.length (l.flatMap mJ.enc)→Ext w w'→wpList prog ops Q rest (a.put o.dst (.slice A' l.length c')) w'):wpList prog ops Q (o::rest) a wl:=by
 subst hl;refine Gz Ql underlying46 hgd s x ho hs hx oA eA oB eB (Uc l2) (by rw [gP] at hb;omega) ?_;rw [←gP,←rT];exact h
theorem Qz{Q:Exit→Act→World→Prop}{w wl:World}{B:Nat}{vB:Value}{l:List eJ}(eA:Ext w wl)(oB:wl.ownsRow B 236 6 vB l.length (l.flatMap eJ.enc))(hb:l.length≤1000)(x:Operand)(hgd:o.guard=none)
  (ho:o.op=.call {callee:=.builtin .append,args:=#[.const (.slice none 0 0),x],argTypes:=#[45,45]}) (hx:a.eval x=vB)
  (h:∀ A' c' w',w'.ownsRow w.heap.size 236 6 (.slice A' l.length c') l.length (l.flatMap eJ.enc)→Ext w w'→wpList prog ops Q rest (a.put o.dst (.slice A' l.length c')) w'):wpList prog ops Q (o::rest) a wl:=
 bN (l1:= []) (vA:=.slice none 0 0) (JG _ _ _ _) eA oB (bu wl) l rfl hb _ x hgd ho rfl hx h
theorem CK(w:World):Calls prog 156 #[] w (fL w nM):=by
 have o1:=cQ w [⟨10,11,0,0,0,0⟩,⟨32,34,0,0,0,17⟩,⟨30,34,0,0,1,0⟩,⟨13,0,0,0,0,0⟩] D_;have e1:=(bu w).aE (.cells (([⟨10,11,0,0,0,0⟩,⟨32,34,0,0,0,17⟩,⟨30,34,0,0,1,0⟩,⟨13,0,0,0,0,0⟩]:List eJ).flatMap eJ.enc).toArray 236);replace o1:=aJ o1;replace e1:=aJ e1;go_in;go_wp2_with fail;refine(yR 17 _).mono ?_;rintro e x2 ⟨u2,rfl,p2,f2⟩;obtain⟨B2,d2,rfl⟩:=aA p2;go_wp2_with (first | (at_builtin;refine bN o2.out e2.out (cQ w2 [⟨13,0,0,0,0,0⟩] D_) ((bu w2).aE _) ([⟨10,11,0,0,0,0⟩,⟨32,34,0,0,0,17⟩,⟨30,34,0,0,1,0⟩,⟨13,0,0,0,0,0⟩]++mm 17++ [⟨13,0,0,0,0,0⟩]) rfl D_ (.tmp 10) (.tmp 12) rfl rfl rfl rfl ?_;intro A3 c3 w3 o3 e3;replace o3:=aJ o3;replace e3:=aJ e3) | (at_builtin;refine bN o1.out e1.out p2 f2 ([⟨10,11,0,0,0,0⟩,⟨32,34,0,0,0,17⟩,⟨30,34,0,0,1,0⟩,⟨13,0,0,0,0,0⟩]++mm 17) rfl D_ (.tmp 7) (.tmp 8) rfl rfl rfl rfl ?_;intro A2 c2 w2 o2 e2;replace o2:=aJ o2;replace e2:=aJ e2));exact Nl
theorem xX(w:World):Calls prog 157 #[] w (fL w mo):=by
 have o1:=cQ w [⟨10,12,0,0,0,0⟩,⟨33,34,0,0,0,19⟩] D_;have e1:=(bu w).aE (.cells (([⟨10,12,0,0,0,0⟩,⟨33,34,0,0,0,19⟩]:List eJ).flatMap eJ.enc).toArray 236);replace o1:=aJ o1;replace e1:=aJ e1;go_in;go_wp2_with fail;refine(yR 18 _).mono ?_;rintro e x2 ⟨u2,rfl,p2,f2⟩;obtain⟨B2,d2,rfl⟩:=aA p2;go_wp2_with (first | (at_builtin;refine bN o2.out e2.out (cQ w2 [⟨34,0,0,0,0,0⟩,⟨11,0,0,0,0,12⟩,⟨10,19,0,0,0,0⟩,⟨13,0,0,0,0,0⟩] D_) ((bu w2).aE _) ([⟨10,12,0,0,0,0⟩,⟨33,34,0,0,0,19⟩]++mm 18++ [⟨34,0,0,0,0,0⟩,⟨11,0,0,0,0,12⟩,⟨10,19,0,0,0,0⟩,⟨13,0,0,0,0,0⟩]) rfl D_ (.tmp 8) (.tmp 13) rfl rfl rfl rfl ?_;intro A3 c3 w3 o3 e3;replace o3:=aJ o3;replace e3:=aJ e3) | (at_builtin;refine bN o1.out e1.out p2 f2 ([⟨10,12,0,0,0,0⟩,⟨33,34,0,0,0,19⟩]++mm 18) rfl D_ (.tmp 5) (.tmp 6) rfl rfl rfl rfl ?_;intro A2 c2 w2 o2 e2;replace o2:=aJ o2;replace e2:=aJ e2));exact Nl
theorem Jv(w:World):Calls prog 137 #[] w (fL w wG):=by
 go_in;go_wp2_with fail;refine(DY _).mono ?_;rintro e w1 ⟨v1,rfl,o1,e1⟩;obtain⟨A1,c1,rfl⟩:=aA o1;replace o1:=aJ o1;replace e1:=aJ e1;go_wp2_with fail;refine(CK _).mono ?_;rintro e x2 ⟨u2,rfl,p2,f2⟩;obtain⟨B2,d2,rfl⟩:=aA p2;go_wp2_with (at_builtin;refine bN o1.out e1.out p2 f2 (kK++nM) rfl D_ (.tmp 3) (.tmp 4) rfl rfl rfl rfl ?_;intro A2 c2 w2 o2 e2;replace o2:=aJ o2;replace e2:=aJ e2);refine(xX _).mono ?_;rintro e x3 ⟨u3,rfl,p3,f3⟩;obtain⟨B3,d3,rfl⟩:=aA p3;go_wp2_with (at_builtin;refine bN o2.out e2.out p3 f3 (kK++nM++mo) rfl D_ (.tmp 6) (.tmp 7) rfl rfl rfl rfl ?_;intro A3 c3 w3 o3 e3;replace o3:=aJ o3;replace e3:=aJ e3);refine(E4 _).mono ?_;rintro e x4 ⟨u4,rfl,p4,f4⟩;obtain⟨B4,d4,rfl⟩:=aA p4;go_wp2_with (at_builtin;refine bN o3.out e3.out p4 f4 (kK++nM++mo++rE) rfl D_ (.tmp 9) (.tmp 10) rfl rfl rfl rfl ?_;intro A4 c4 w4 o4 e4;replace o4:=aJ o4;replace e4:=aJ e4);exact NG
theorem Ju(w:World):Calls prog 131 #[] w (fL w pP):=by
 go_in;go_wp2_with fail;refine(Jv _).mono ?_;rintro e w0 ⟨v0,rfl,o0,e0⟩;obtain⟨A0,c0,rfl⟩:=aA o0;go_wp2_with (at_builtin;refine Qz e0 o0 D_ (.tmp 2) rfl rfl rfl ?_;intro A1 c1 w1 o1 e1;replace o1:=aJ o1;replace e1:=aJ e1);refine(Eg _).mono ?_;rintro e x2 ⟨u2,rfl,p2,f2⟩;obtain⟨B2,d2,rfl⟩:=aA p2;go_wp2_with (at_builtin;refine bN o1.out e1.out p2 f2 (wG++mj) rfl D_ (.tmp 4) (.tmp 5) rfl rfl rfl rfl ?_;intro A2 c2 w2 o2 e2;replace o2:=aJ o2;replace e2:=aJ e2);refine(Ae _).mono ?_;rintro e x3 ⟨u3,rfl,p3,f3⟩;obtain⟨B3,d3,rfl⟩:=aA p3;go_wp2_with (at_builtin;refine bN o2.out e2.out p3 f3 (wG++mj++j8) rfl D_ (.tmp 7) (.tmp 8) rfl rfl rfl rfl ?_;intro A3 c3 w3 o3 e3;replace o3:=aJ o3;replace e3:=aJ e3);refine(Jw _).mono ?_;rintro e x4 ⟨u4,rfl,p4,f4⟩;obtain⟨B4,d4,rfl⟩:=aA p4;go_wp2_with (at_builtin;refine bN o3.out e3.out p4 f4 (wG++mj++j8++wF) rfl D_ (.tmp 10) (.tmp 11) rfl rfl rfl rfl ?_;intro A4 c4 w4 o4 e4;replace o4:=aJ o4;replace e4:=aJ e4);exact NG
theorem E6(w:World):Calls prog 141 #[] w (fL w kT):=by
 have o1:=cQ w [⟨10,150,0,0,0,0⟩,⟨16,2,0,0,0,0⟩,⟨1,3,0,2,0,0⟩,⟨18,4,3,0,0,0⟩,⟨23,3,0,0,0,160⟩] D_;have e1:=(bu w).aE (.cells (([⟨10,150,0,0,0,0⟩,⟨16,2,0,0,0,0⟩,⟨1,3,0,2,0,0⟩,⟨18,4,3,0,0,0⟩,⟨23,3,0,0,0,160⟩]:List eJ).flatMap eJ.enc).toArray 236);replace o1:=aJ o1;replace e1:=aJ e1;go_in;go_wp2_with fail;refine(iw 3 1 _).mono ?_;rintro e x2 ⟨u2,rfl,p2,f2⟩;obtain⟨B2,d2,rfl⟩:=aA p2;go_wp2_with (first | (at_builtin;refine bN o2.out e2.out (cQ w2 [⟨1,9,0,2,0,0⟩,⟨25,9,3,0,0,161⟩,⟨11,0,0,0,0,150⟩,⟨10,160,0,0,0,0⟩,⟨15,6,0,0,0,0⟩,⟨29,7,0,0,0,0⟩,⟨13,0,0,0,0,0⟩] D_) ((bu w2).aE _) ([⟨10,150,0,0,0,0⟩,⟨16,2,0,0,0,0⟩,⟨1,3,0,2,0,0⟩,⟨18,4,3,0,0,0⟩,⟨23,3,0,0,0,160⟩]++cY 3 1++ [⟨1,9,0,2,0,0⟩,⟨25,9,3,0,0,161⟩,⟨11,0,0,0,0,150⟩,⟨10,160,0,0,0,0⟩,⟨15,6,0,0,0,0⟩,⟨29,7,0,0,0,0⟩,⟨13,0,0,0,0,0⟩]) rfl D_ (.tmp 11) (.tmp 19) rfl rfl rfl rfl ?_;intro A3 c3 w3 o3 e3;replace o3:=aJ o3;replace e3:=aJ e3) | (at_builtin;refine bN o1.out e1.out p2 f2 ([⟨10,150,0,0,0,0⟩,⟨16,2,0,0,0,0⟩,⟨1,3,0,2,0,0⟩,⟨18,4,3,0,0,0⟩,⟨23,3,0,0,0,160⟩]++cY 3 1) rfl D_ (.tmp 8) (.tmp 9) rfl rfl rfl rfl ?_;intro A2 c2 w2 o2 e2;replace o2:=aJ o2;replace e2:=aJ e2));exact Nl
theorem IA(w:World):Calls prog 142 #[] w (fL w nK):=by
 have o1:=cQ w [⟨10,161,0,0,0,0⟩,⟨1,5,13,4,0,0⟩,⟨21,10,5,0,0,0⟩] D_;have e1:=(bu w).aE (.cells (([⟨10,161,0,0,0,0⟩,⟨1,5,13,4,0,0⟩,⟨21,10,5,0,0,0⟩]:List eJ).flatMap eJ.enc).toArray 236);replace o1:=aJ o1;replace e1:=aJ e1;go_in;go_wp2_with fail;refine(iw 10 0 _).mono ?_;rintro e x2 ⟨u2,rfl,p2,f2⟩;obtain⟨B2,d2,rfl⟩:=aA p2;go_wp2_with (first | (at_builtin;refine bN o2.out e2.out (cQ w2 [⟨1,9,13,4,0,0⟩,⟨25,9,5,0,0,162⟩,⟨11,0,0,0,0,150⟩,⟨10,162,0,0,0,0⟩,⟨29,11,0,0,0,0⟩,⟨1,12,11,4,0,0⟩,⟨1,9,0,2,0,0⟩,⟨25,9,3,0,0,163⟩,⟨11,0,0,0,0,150⟩,⟨10,163,0,0,0,0⟩,⟨24,5,0,0,0,166⟩,⟨26,12,1,0,0,164⟩,⟨25,12,1,0,0,165⟩,⟨15,6,0,0,0,0⟩,⟨29,7,0,0,0,0⟩,⟨13,0,0,0,0,0⟩,⟨10,165,0,0,0,0⟩,⟨15,6,0,0,1,0⟩,⟨16,7,11,0,0,0⟩,⟨13,0,0,0,0,0⟩] D_) ((bu w2).aE _) ([⟨10,161,0,0,0,0⟩,⟨1,5,13,4,0,0⟩,⟨21,10,5,0,0,0⟩]++cY 10 0++ [⟨1,9,13,4,0,0⟩,⟨25,9,5,0,0,162⟩,⟨11,0,0,0,0,150⟩,⟨10,162,0,0,0,0⟩,⟨29,11,0,0,0,0⟩,⟨1,12,11,4,0,0⟩,⟨1,9,0,2,0,0⟩,⟨25,9,3,0,0,163⟩,⟨11,0,0,0,0,150⟩,⟨10,163,0,0,0,0⟩,⟨24,5,0,0,0,166⟩,⟨26,12,1,0,0,164⟩,⟨25,12,1,0,0,165⟩,⟨15,6,0,0,0,0⟩,⟨29,7,0,0,0,0⟩,⟨13,0,0,0,0,0⟩,⟨10,165,0,0,0,0⟩,⟨15,6,0,0,1,0⟩,⟨16,7,11,0,0,0⟩,⟨13,0,0,0,0,0⟩]) rfl D_ (.tmp 9) (.tmp 30) rfl rfl rfl rfl ?_;intro A3 c3 w3 o3 e3;replace o3:=aJ o3;replace e3:=aJ e3) | (at_builtin;refine bN o1.out e1.out p2 f2 ([⟨10,161,0,0,0,0⟩,⟨1,5,13,4,0,0⟩,⟨21,10,5,0,0,0⟩]++cY 10 0) rfl D_ (.tmp 6) (.tmp 7) rfl rfl rfl rfl ?_;intro A2 c2 w2 o2 e2;replace o2:=aJ o2;replace e2:=aJ e2))
 exact Nl
theorem AV(w:World):Calls prog 143 #[] w (fL w jo):=by
 have o1:=cQ w [⟨10,164,0,0,0,0⟩,⟨46,2,13,4,0,0⟩,⟨16,3,5,0,0,0⟩,⟨19,13,4,0,0,0⟩,⟨23,5,0,0,0,167⟩] D_;have e1:=(bu w).aE (.cells (([⟨10,164,0,0,0,0⟩,⟨46,2,13,4,0,0⟩,⟨16,3,5,0,0,0⟩,⟨19,13,4,0,0,0⟩,⟨23,5,0,0,0,167⟩]:List eJ).flatMap eJ.enc).toArray 236);replace o1:=aJ o1;replace e1:=aJ e1;go_in;go_wp2_with fail;refine(iw 13 2 _).mono ?_;rintro e x2 ⟨u2,rfl,p2,f2⟩;obtain⟨B2,d2,rfl⟩:=aA p2;go_wp2_with (at_builtin;refine bN o1.out e1.out p2 f2 ([⟨10,164,0,0,0,0⟩,⟨46,2,13,4,0,0⟩,⟨16,3,5,0,0,0⟩,⟨19,13,4,0,0,0⟩,⟨23,5,0,0,0,167⟩]++cY 13 2) rfl D_ (.tmp 8) (.tmp 9) rfl rfl rfl rfl ?_;intro A2 c2 w2 o2 e2;replace o2:=aJ o2;replace e2:=aJ e2);refine(iw 10 1 _).mono ?_;rintro e x3 ⟨u3,rfl,p3,f3⟩;obtain⟨B3,d3,rfl⟩:=aA p3;go_wp2_with (first | (at_builtin;refine bN o3.out e3.out (cQ w3 [⟨18,4,10,0,0,0⟩,⟨11,0,0,0,0,161⟩,⟨10,167,0,0,0,0⟩,⟨15,4,0,0,-1,0⟩,⟨15,6,0,0,0,0⟩,⟨16,7,11,0,0,0⟩,⟨13,0,0,0,0,0⟩] D_) ((bu w3).aE _) ([⟨10,164,0,0,0,0⟩,⟨46,2,13,4,0,0⟩,⟨16,3,5,0,0,0⟩,⟨19,13,4,0,0,0⟩,⟨23,5,0,0,0,167⟩]++cY 13 2++cY 10 1++ [⟨18,4,10,0,0,0⟩,⟨11,0,0,0,0,161⟩,⟨10,167,0,0,0,0⟩,⟨15,4,0,0,-1,0⟩,⟨15,6,0,0,0,0⟩,⟨16,7,11,0,0,0⟩,⟨13,0,0,0,0,0⟩]) rfl D_ (.tmp 14) (.tmp 22) rfl rfl rfl rfl ?_;intro A4 c4 w4 o4 e4;replace o4:=aJ o4;replace e4:=aJ e4) | (at_builtin;refine bN o2.out e2.out p3 f3 ([⟨10,164,0,0,0,0⟩,⟨46,2,13,4,0,0⟩,⟨16,3,5,0,0,0⟩,⟨19,13,4,0,0,0⟩,⟨23,5,0,0,0,167⟩]++cY 13 2++cY 10 1) rfl D_ (.tmp 11) (.tmp 12) rfl rfl rfl rfl ?_;intro A3 c3 w3 o3 e3;replace o3:=aJ o3;replace e3:=aJ e3))
 exact NG
theorem BK(w:World):Calls prog 144 #[] w (fL w lH):=by
 have o1:=cQ w [⟨10,166,0,0,0,0⟩,⟨3,3,0,2,10,150⟩,⟨29,14,0,0,0,0⟩,⟨30,4,0,0,4,0⟩,⟨16,20,4,0,0,0⟩,⟨12,0,0,0,0,40⟩,⟨16,3,10,0,0,0⟩,⟨18,4,10,0,0,0⟩,⟨23,10,0,0,0,168⟩] D_;have e1:=(bu w).aE (.cells (([⟨10,166,0,0,0,0⟩,⟨3,3,0,2,10,150⟩,⟨29,14,0,0,0,0⟩,⟨30,4,0,0,4,0⟩,⟨16,20,4,0,0,0⟩,⟨12,0,0,0,0,40⟩,⟨16,3,10,0,0,0⟩,⟨18,4,10,0,0,0⟩,⟨23,10,0,0,0,168⟩]:List eJ).flatMap eJ.enc).toArray 236);replace o1:=aJ o1;replace e1:=aJ e1;go_in;go_wp2_with fail;refine(iw 10 1 _).mono ?_;rintro e x2 ⟨u2,rfl,p2,f2⟩;obtain⟨B2,d2,rfl⟩:=aA p2;go_wp2_with (first | (at_builtin;refine bN o2.out e2.out (cQ w2 [⟨11,0,0,0,0,161⟩,⟨10,168,0,0,0,0⟩,⟨15,6,0,0,0,0⟩,⟨16,7,14,0,0,0⟩,⟨13,0,0,0,0,0⟩] D_) ((bu w2).aE _) ([⟨10,166,0,0,0,0⟩,⟨3,3,0,2,10,150⟩,⟨29,14,0,0,0,0⟩,⟨30,4,0,0,4,0⟩,⟨16,20,4,0,0,0⟩,⟨12,0,0,0,0,40⟩,⟨16,3,10,0,0,0⟩,⟨18,4,10,0,0,0⟩,⟨23,10,0,0,0,168⟩]++cY 10 1++ [⟨11,0,0,0,0,161⟩,⟨10,168,0,0,0,0⟩,⟨15,6,0,0,0,0⟩,⟨16,7,14,0,0,0⟩,⟨13,0,0,0,0,0⟩]) rfl D_ (.tmp 15) (.tmp 21) rfl rfl rfl rfl ?_;intro A3 c3 w3 o3 e3;replace o3:=aJ o3;replace e3:=aJ e3) | (at_builtin;refine bN o1.out e1.out p2 f2 ([⟨10,166,0,0,0,0⟩,⟨3,3,0,2,10,150⟩,⟨29,14,0,0,0,0⟩,⟨30,4,0,0,4,0⟩,⟨16,20,4,0,0,0⟩,⟨12,0,0,0,0,40⟩,⟨16,3,10,0,0,0⟩,⟨18,4,10,0,0,0⟩,⟨23,10,0,0,0,168⟩]++cY 10 1) rfl D_ (.tmp 12) (.tmp 13) rfl rfl rfl rfl ?_;intro A2 c2 w2 o2 e2;replace o2:=aJ o2;replace e2:=aJ e2))
 exact Nl
end Go.Proofs.YtgbhnihkgmpocaaGreat
