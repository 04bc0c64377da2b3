/- Part 3 of 16 of the proof of PoolPlays. No condition. -/
import Derived.Test.YtgbhnihkgmpocaaGreatM01
namespace Go.Proofs.YtgbhnihkgmpocaaGreat
set_option maxRecDepth 100000
set_option maxHeartbeats 4000000
open Tryz
abbrev Bb(f k d:Nat)(w:World)(v:Value)(R:World→Prop):Prop:=cm f #[some k,some d] w v R
variable{P:Prop}
theorem T_4(x:P:=by
 refine mA rfl (fun Kq cr=>?_) ?_
 ·go_simp
  refine cr.out _ _ (gj _ (((bu k1.world).aE _).bh)) (fun hHeld=>?_);refine qB (rs:= [32]) K_ S_ ?_;refine mA rfl (fun Kq cr=>?_) ?_
  ·refine cn _ rfl (.tmp 65) (.tmp 71) 40 rfl w0.heap.size 3 1 8 jT underlying40 (.slice A S.cache.length cc) S.cache.length _ (by simp [Act.eval]) (by first | exact dF _ ((bu k1.world).aE _) | exact dF _ (((bu k1.world).bh).aE _) | exact dF _ (((bu k1.world).aE _).bh)) (some ⟨k1.world.heap.size,0,none⟩) 1 1 [slot] (by simp [Act.eval]) rfl (by first | exact gN _ (bu _) | exact gN _ (Ext.drawn _ 1)) hone O_ (by simp;omega) ?_
   intro v' w2 bV bl fk;have oO:k1.world.grownBy w2 (Value.ownBlock (.slice A S.cache.length cc)):=(by first | exact aD bl | exact aD (bw bl) | exact bw (aD bl));have h2:=Has.grow (A:=A1++dA K.ga K.ca 40 1 cv.length cv::A2) HH1.out (show w2.ownsRow w0.heap.size 3 1 v' (S.cache.length+1) (S.cache.map (Value.int .i64)++ [.int .i64 slot]) from bV) oO (fk.imp id fun e=>⟨_,e,S_⟩);have hk2:=Hk.out _ _ _ h2;rw [dH,kY] at h2;have kk:=h2.ey (g:=K.ga) (c:=K.ca) (i:=S.th) (ew _ (gq ..)) Hcv.out;have ff:=h2.gL (g:=K.ga) (c:=K.ca) (ew _ (gq ..)) S.th;obtain⟨g5,c5,rfl,_,_,_⟩:=bf bV O_;have h3:=Has.fD (A:=A1) h2 S.th (.slice (some ⟨g5,0,none⟩) (S.cache.length+1) c5);have kD:=Hk2.out _ _ _ _ h3;refine cr.out _ _ hk2 (fun hHeld=>?_);refine bn 33 ?_;refine qB (rs:= [34]) K_ S_ ?_;refine mA rfl (fun Kq cr=>?_) ?_
   ·go_simp
    refine cr.out _ _ kD (fun hHeld=>?_);refine Be K_ ?_ _;refine GQ ?_
    (try simp only [Exit.then])
    have hM:=NY.out _ (.slice (some ⟨g5,0,none⟩) (S.cache.length+1) c5) (S.cache++ [slot]) (by rw [gP,jI];exact h3);clear hk2 kD h2 h3 kk ff oO bl fk bV;generalize (w2.setCell ⟨K.ga,S.th,none⟩ (.slice (some ⟨g5,0,none⟩) (S.cache.length+1) c5))=w4 at hM ⊢;have hsh:=vu hM.drew (iA _ hd) slot 1 h0 O_ O_ hb;have RA:w4.cell? ⟨k,0,none⟩=some (some K.bA)∧w4.cell? ⟨k,1,none⟩=some (.int .i64 slot):=⟨hM.at_ (i:=0) aj rfl,hM.at_ (i:=1) aj rfl⟩;go_wp2_with fail
    go_region_held3 (fun w'=>w'.cell? ⟨k,0,none⟩=some (some K.bA)∧w'.cell? ⟨k,1,none⟩=some (.int .i64 slot)) (first | exact RA | exact Az) (first | ((with_reducible refine hsh.mono ?_);rintro e w3 ⟨rfl,h3⟩;have Az:w3.cell? ⟨k,0,none⟩=some (some K.bA)∧w3.cell? ⟨k,1,none⟩=some (.int .i64 slot):=⟨h3.at_ (i:=0) aj rfl,h3.at_ (i:=1) aj rfl⟩))
    have g0:=h3.at_ (i:=0) aj rfl;have g2:=h3.at_ (i:=2) aj rfl;have f2:=h3.dW aj 2;have p1:=h3.put 2 (.int .i64 0);exact GH
   ·exact tH
  ·exact tH
 ·exact tH):P:=x
theorem abN(x:P:=by
 have h1:=h.alloc #[some K.bA,t,.int .i64 1,.int .u64 0,.int .u64 0,.int .i64 0,false] 263;obtain⟨cv,_,ha⟩:=h1.ar;obtain⟨_,_,_,_,_,_,_,h7,_⟩:=ha ⟨_,bu _⟩;simp only at h7
 have h7':w.cell? ⟨K.bA,7,none⟩=some (.slice (some ⟨K.gl,0,none⟩) S.slots.length K.cl):=by
  obtain⟨cv,_,ha⟩:=h.ar;exact(ha ⟨_,bu _⟩).2.2.2.2.2.2.2.1
 have hlt:K.bA<w.heap.size:=by
  obtain⟨cv,lv,a,b,l,p,s,ah,q,h⟩:=h;exact h.tu lO
 have hz:((S.slots.length:Int)==0)=false:=by rw [gp];omega
 go_enter func69,ntmps69;go_wp2_with fail;go_ret;exact⟨_,rfl,bZ _,h1⟩):P:=x
theorem QL(x:P:=by
 go_wp2_with fail;go_ret;exact⟨_,rfl,bZ _,h2⟩):P:=x
theorem QK(x:P:=by
 unfold dS at h;rw [e] at h;simpa only [dH,kY,mX] using h):P:=x
theorem abt(x:P:=by
 obtain⟨cv,lv,a,b,l,p,s,ah,q,h⟩:=h;refine⟨cv,a,fun z=>?_⟩;have h:=h.iD z;exact⟨h.at_ (i:=0) lO rfl,h.at_ (i:=1) lO rfl,h.at_ (i:=2) lO rfl,h.at_ (i:=3) lO rfl,h.at_ (i:=4) lO rfl,h.at_ (i:=5) lO rfl,h.at_ (i:=6) lO rfl,h.at_ (i:=7) lO rfl,h.at_ (i:=8) lO rfl⟩):P:=x
theorem Nj(x:P:=by
 rintro e w' ⟨rfl,h'⟩;exact⟨rfl,aq.of h' a b rfl rfl rfl rfl⟩):P:=x
theorem abq(x:P:=by
 go_wp2_with fail;refine bT (Ext w) (bu w).bh K_ K_ ?_
 repeat (go_big_quiet_step (exact cP (PX _)))
 refine qA ?_;rintro _ ⟨k1,rfl⟩;go_wp2_with fail;go_ret;exact⟨rfl,Hh.out.iD k1⟩):P:=x
theorem abp(x:P:=by
 obtain⟨cv,hc,h⟩:=h.ar;obtain⟨_,_,_,_,_,_,_,_,h8⟩:=h ⟨w,bu w⟩;rw [hc] at h8;have hd:decide (t<(S.aO.length:Int))=true:=by simpa using h1
 have hd0:decide (0≤t)=true:=by simpa using h0
 go_enter func128,ntmps128;exact iB):P:=x
theorem abo(x:P:=by
 obtain⟨cv,_,h⟩:=h.ar;obtain⟨_,_,_,_,_,_,_,h7,_⟩:=h ⟨w,bu w⟩;have hd:decide (s<(S.slots.length:Int))=true:=by simpa using h1
 have hd0:decide (0≤s)=true:=by simpa using h0
 go_enter func127,ntmps127;exact iB):P:=x
theorem QD(x:P:=by
 go_wp2_with fail;go_ret;exact⟨rfl,h2⟩):P:=x
theorem abl(x:P:=by
 obtain⟨g,c',e,hle,_⟩:=bf (hH.own _ (ew _ (iA _ (ew _ (gq ..))))) (Nat.succ_pos m);injection e with e _ e';exact⟨g,e,O_⟩):P:=x
theorem Th(x:P:=by
 go_wp2_with fail;refine un HF2.out fun w2 hm=>?_
 go_wp2_with fail;exact iP ⟨rfl,hm⟩):P:=x
theorem Tg(x:P:=by
 go_enter func72,ntmps72;go_wp2_with fail;refine ha.mono ?_;rintro e w1 ⟨rfl,rfl⟩;go_wp2_with fail;refine hb.mono ?_;rintro e w1 ⟨rfl,rfl⟩;exact QL):P:=x
theorem SX(x:P:=by
 rw [hbq]
 by_cases hq:S.w (c.ad 1 0)=head
 ·rw [aY (cM hq)];exact aY hq
 ·rw [aK (by simp [hq])];exact aK hq):P:=x
theorem SW(x:P:=by
 go_wp2_with fail;refine un hm fun w1 h2=>?_
 go_wp2_with fail;refine un (htl _ h2) fun w1 h3=>?_
 go_wp2_with fail;go_ret;exact⟨rfl,h3⟩):P:=x
theorem SR(x:P:=by
 go_wp2_with fail;refine un hm fun w1 h2=>?_
 go_wp2_with fail;refine G0.mono ?_;rintro e w1 ⟨rfl,rfl⟩;exact QD):P:=x
theorem SQ(x:P:=by
 obtain⟨cv,lv,a,b,l,p,s,ah,q,h⟩:=h;refine⟨cv,lv,a,b,l,p,s,ah,q,?_⟩;rw [←dH] at h ⊢;exact f _ h):P:=x
theorem SN(x:P:=by
 have h2:=h.alloc #[some K.bA,.int .i64 0,.int .i64 0,.int .u64 0,t] 268;go_enter func74,ntmps74;exact QL):P:=x
theorem GH(x:P:=by
 go_wp2_with fail;go_ret;exact⟨rfl,p1⟩):P:=x
theorem Nx(x:P:=by
 go_wp2_with fail;refine un hm fun w1 h2=>?_
 exact QD):P:=x
theorem Nq(x:P:=by
 go_wp2_with fail;go_ret;exact⟨rfl,h2.drop⟩):P:=x
theorem RY(x:P:=by
 have HF2:=aJ (Fin.out _ (-1) hF2 S_);clear hF hF2;exact Th):P:=x
theorem RS(x:P:=by
 obtain⟨cv,lv,a,b,l,p,s,ah,q,h⟩:=h;exact h.cell (bX (bX hm)) hu):P:=x
open Go.RowKit
structure Ky extends Mk where
 bA:Nat
 gl:Nat
 cl:Nat
 ga:Nat
 ca:Nat
 bH:Nat
 gh:Nat
 ch:Nat
 gi:Nat
 ci:Nat
def AO(c:Cf):List Value:= [c.T,c.R,c.H,c.Re,c.Ca,c.S,c.B]
def fI(c:Cf):Value:=.agg #[c.T,c.R,c.H,c.Re,c.Ca,c.S,c.B]
def fm(x:Int×Int):List Value:= [x.1,x.2]
def kn(cv:List Value)(l:List (List Int)):List En:=(cv.zip l).map fun x=>.row x.1 3 1 x.2.length (x.2.map (Value.int .i64))
@[reducible] def E7(K:Ky)(c:Cf)(S:PM)(n:Nat):En:=ob K.bA 147 [c.T,c.R,c.H,c.Re,c.Ca,c.S,c.B,.slice (some ⟨K.gl,0,none⟩) S.slots.length K.cl,.slice (some ⟨K.ga,0,none⟩) n K.ca]
@[reducible] def JS(K:Ky)(S:PM):En:=dA K.gl K.cl 149 2 S.slots.length (S.slots.flatMap fm)
@[reducible] def RO(K:Ky)(cv:List Value):En:=dA K.ga K.ca 40 1 cv.length cv
@[reducible] def DF(K:Ky)(c:Cf)(S:PM)(n:Nat):En:=ob K.bH 152 [some K.bA,c.T,c.R,c.H,c.Re,c.Ca,c.S,c.B,.slice (some ⟨K.gh,0,none⟩) S.held.length K.ch,.slice (some ⟨K.gi,0,none⟩) n K.ci,c.ad 8 0,c.ad 9 0,c.ad 2 0,c.ad 11 0]
@[reducible] def JZ(K:Ky)(S:PM):En:=dA K.gh K.ch 3 1 S.held.length (S.held.map (Value.int .i64))
@[reducible] def Ru(K:Ky)(lv:List Value):En:=dA K.gi K.ci 40 1 lv.length lv
def dS(K:Ky)(c:Cf)(cv lv:List Value)(S:PM):List En:=
 [E7 K c S cv.length,JS K S,RO K cv,DF K c S lv.length,JZ K S,Ru K lv]++(kn cv S.aO++kn lv S.lists)
def aq(K:Ky)(c:Cf)(S:PM)(ss:List Sv)(w0 w:World)(F:List En):Prop:=
 ∃ cv lv,cv.length=S.aO.length∧lv.length=S.lists.length∧fK K.toMk S ss w0 w (dS K c cv lv S++F)
section
variable{K:Ky}{c:Cf}{S S':PM}{ss:List Sv}{w0 w w':World}{F G:List En}{d:Nat}{x y:En}
theorem aq.next(h:aq K c S ss w0 w F)(e:Ext w w'):aq K c S ss w0 w' F:=by
 obtain⟨cv,lv,a,b,h⟩:=h;exact⟨cv,lv,a,b,h.next e⟩
theorem aq.drew(h:aq K c S ss w0 w F):aq K c S ss w0 w.drew F:=h.next (bu w).bh
theorem aq.iD(h:aq K c S ss w0 w F)(z:aL w):aq K c S ss w0 z.world F:=h.next z.ok
theorem aq.rest(h:aq K c S ss w0 w F)(f:∀ A,Has w0 w (A++F)→Has w0 w' (A++G)):aq K c S ss w0 w' G:=SQ
theorem aq.drop(h:aq K c S ss w0 w (x::F)):aq K c S ss w0 w F:=h.rest fun _ h=>h.mid.drop
theorem aq.swap(h:aq K c S ss w0 w (x::y::F)):aq K c S ss w0 w (y::x::F):=h.rest fun _ h=>h.perm (ue _ (iC _ _ _))
theorem aq.perm(h:aq K c S ss w0 w F)(p:F.Perm G):aq K c S ss w0 w G:=h.rest fun _ h=>h.perm (ue _ p)
variable{t:TypeId}{cs:List Value}
theorem aq.cell{b i:Nat}{u:Value}(h:aq K c S ss w0 w F)(hm:ob b t cs∈F)(hu:cs[i]?=some u):∀ z:aL w,z.world.cell? ⟨b,i,none⟩=some u:=RS
theorem aq.at_{b i:Nat}{u:Value}(h:aq K c S ss w0 w F)(hm:ob b t cs∈F)(hu:cs[i]?=some u):w.cell? ⟨b,i,none⟩=some u:=h.cell hm hu ⟨w,bu w⟩
theorem aq.dW{b:Nat}(h:aq K c S ss w0 w F)(hm:ob b t cs∈F)(i:Nat):w.frozen? ⟨b,i,none⟩=false:=by
 obtain⟨cv,lv,a,b,l,p,s,ah,q,h⟩:=h;exact h.dW (bX (bX hm)) i
theorem aq.tu{b:Nat}(h:aq K c S ss w0 w F)(hm:ob b t cs∈F):b<w.heap.size:=by
 obtain⟨cv,lv,a,b,l,p,s,ah,q,h⟩:=h;exact h.tu (bX (bX hm))
theorem aq.put{b:Nat}(h:aq K c S ss w0 w (ob b t cs::F))(i:Nat)(u:Value):aq K c S ss w0 (w.setCell ⟨b,i,none⟩ u) (ob b t (cs.set i u)::F):=h.rest fun _ h=>h.fW i u
theorem aq.alloc(h:aq K c S ss w0 w F)(cs:Array Value)(t:TypeId):aq K c S ss w0 (w.alloc (.cells cs t)) (ob w.heap.size t cs.toList::F):=h.rest fun _ h=>(h.alloc cs t).back
theorem aq.of{cv lv:List Value}(h:fK K.toMk S' ss w0 w' (dS K c cv lv S++F))(a:cv.length=S.aO.length)(b:lv.length=S.lists.length)(e1:S'.aO=S.aO)(e2:S'.lists=S.lists)(e3:S'.slots=S.slots)(e4:S'.held=S.held):aq K c S' ss w0 w' F:=by
 refine⟨cv,lv,by rw [e1];exact a,by rw [e2];exact b,?_⟩;unfold dS E7 JS DF JZ at h ⊢;rw [e1,e2,e3,e4];exact h
theorem Uo(h:aq K c S ss w0 w F)(hd:dk K.toMk d∈F)(hu:S.used=false)(k:Nat)(hk:k<S.words.length)(hl:S.log.length<1000000):
  cm 190 #[some d,k] w (.int .u64 (S.w k)) fun w'=>aq K c (S.load k) ss w0 w' F:=by
 obtain⟨cv,lv,a,b,h⟩:=h;refine(AK h (bX hd) hu k hk hl).mono ?_;exact Nj
theorem PB(h:aq K c S ss w0 w F)(hd:dk K.toMk d∈F)(hu:S.used=false)(k:Nat)(y:Int)(hk:k<S.words.length)(hl:S.log.length<1000000):
  cm 209 #[some d,k,.int .u64 y] w (.tuple #[]) fun w'=>aq K c (S.store k y) ss w0 w' F:=by
 obtain⟨cv,lv,a,b,h⟩:=h;refine(xZ h (bX hd) hu k y hk hl).mono ?_;exact Nj
theorem Un(h:aq K c S ss w0 w F)(hd:dk K.toMk d∈F)(hu:S.used=false)(k:Nat)(o y:Int)(hk:k<S.words.length)(hl:S.log.length<1000000):
  cm 195 #[some d,k,.int .u64 o,.int .u64 y] w (.bool (decide (S.w k=o))) fun w'=>aq K c (S.swap k o y) ss w0 w' F:=by
 obtain⟨cv,lv,a,b,h⟩:=h;refine(AJ h (bX hd) hu k o y hk hl).mono ?_;exact Nj
theorem PC(h:aq K c S ss w0 w F)(hd:dk K.toMk d∈F)(x:Int)(hc:S.cur<S.calls.length):
  cm 228 #[some d,x] w (.tuple #[]) fun w'=>aq K c (S.aB x) ss w0 w' F:=by
 obtain⟨cv,lv,a,b,h⟩:=h;refine(Il h (bX hd) x hc).mono ?_;exact Nj
theorem vz(h:aq K c S ss w0 w F)(hd:dk K.toMk d∈F)(k x:Int)(hc:S.th<S.told.length)(hs:S.told.length=ss.length):
  cm 188 #[some d,.agg #[k,x]] w (.tuple #[]) fun w'=>aq K c (S.tell k x) ss w0 w' F:=by
 obtain⟨cv,lv,a,b,h⟩:=h;refine(E8 h (bX hd) k x hc hs).mono ?_;exact Nj
theorem gK(h:aq K c S ss w0 w F)(hd:dk K.toMk d∈F):cm 229 #[some d] w S.now fun w'=>w'=w:=by
 obtain⟨cv,lv,a,b,h⟩:=h;exact C6 h (bX hd)
theorem aq.ar(h:aq K c S ss w0 w F):∃ cv:List Value,cv.length=S.aO.length∧(∀ z:aL w,z.world.cell? ⟨K.bA,0,none⟩=some (.int .i64 c.T)∧z.world.cell? ⟨K.bA,1,none⟩=some (.int .i64 c.R)∧z.world.cell? ⟨K.bA,2,none⟩=some (.int .i64 c.H)∧z.world.cell? ⟨K.bA,3,none⟩=some (.int .i64 c.Re)∧z.world.cell? ⟨K.bA,4,none⟩=some (.int .i64 c.Ca)∧z.world.cell? ⟨K.bA,5,none⟩=some (.int .i64 c.S)∧z.world.cell? ⟨K.bA,6,none⟩=some (.int .i64 c.B)∧
  z.world.cell? ⟨K.bA,7,none⟩=some (.slice (some ⟨K.gl,0,none⟩) S.slots.length K.cl)∧z.world.cell? ⟨K.bA,8,none⟩=some (.slice (some ⟨K.ga,0,none⟩) cv.length K.ca)):=abt
theorem Dg(h:aq K c S ss w0 w F)(s:Int)(h0:0≤s)(h1:s<S.slots.length):cm 127 #[some K.bA,s] w true fun w'=>w'=w:=abo
theorem nN(h:aq K c S ss w0 w F)(t:Int)(h0:0≤t)(h1:t<S.aO.length):cm 128 #[some K.bA,t] w true fun w'=>w'=w:=abp
theorem jq(h:aq K c S ss w0 w F)(ok:bY c.T c.R c.H c.Re c.Ca c.S c.B)(n:Nat)(r i:Int)(hr:r=n)(hn:1≤n∧n≤13)(h9:n≠9)(hx:Ix c n i):
  cm 191 #[some K.bA,r,i] w (.int .i64 (c.ad n i)) fun w'=>Ext w w':=by
 obtain⟨cv,_,h⟩:=h.ar;obtain⟨h0,h1,h2,h3,h4,h5,h6,_,_⟩:=h ⟨w,bu w⟩;subst hr;have ha:=fY c.T c.R c.H c.Re c.Ca c.S c.B ok (n - 1) n i O_ O_ hx.1 hx.2 O_ w;rw [show b7 c.R c.H c.S c.B (n - 1)+i=c.ad n i from rfl] at ha;go_enter func191,ntmps191;go_wp2_with fail;refine un ha fun w1 e1=>?_
 go_wp2;go_ret;exact⟨rfl,e1⟩
end
section
variable{K:Ky}{c:Cf}{S:PM}{ss:List Sv}{w0 w w':World}{F:List En}{d:Nat}
theorem zU{α:Type}:∀ (l:List α) (i:Nat) (z:α),l.set i z=l.modify i fun _=>z
 | [],i,z=>by cases i<;>rfl
 | x::l,0,z=>by simp
 | x::l,i+1,z=>by simp [zU l i z]
theorem IY{α:Type}(enc:α→List Value)(size:Nat)(hs:∀ x,(enc x).length=size){l:List α}{i:Nat}{z z':α}{k k':Nat}{u u':Value}(h:l[i]?=some z)(he:enc z'=((enc z).set k u).set k' u')(hk:k<size)(hk':k'<size):(l.set i z').flatMap enc=((l.flatMap enc).set (i*size+k) u).set (i*size+k') u':=by
 rw [zU];exact sH enc size hs h he hk hk'
variable{cv lv:List Value}
theorem KA{l a s:Value}{ah:List Int}{i:Nat}{z:Int×Int}(h:Has w0 w (gy K.toMk l a s ah S ss++(dS K c cv lv S++F)))(hz:S.slots[i]?=some z)(x y:Int):
  Has w0 ((w.setCell ⟨K.gl,i*2,none⟩ x).setCell ⟨K.gl,i*2+1,none⟩ y) (gy K.toMk l a s ah {S with slots:=S.slots.set i (x,y)} ss++(dS K c cv lv {S with slots:=S.slots.set i (x,y)}++F)):=by
 have h1:=Has.fD (A:= [_,_,_,_,_,_,_,_,_]) (Has.fD (A:= [_,_,_,_,_,_,_,_,_]) h (i*2) x) (i*2+1) y;have e:(S.slots.set i (x,y)).flatMap fm=((S.slots.flatMap fm).set (i*2) x).set (i*2+1) y:=IY fm 2 (fun _=>rfl) (k:=0) hz rfl O_ O_;unfold dS E7 JS DF JZ;rw [show({S with slots:=S.slots.set i (x,y)}:PM).slots=S.slots.set i (x,y) from rfl,e,cW];exact h1
theorem yA{l a s:Value}{ah:List Int}{i:Nat}{z:Int×Int}(h:Has w0 w (gy K.toMk l a s ah S ss++(dS K c cv lv S++F)))(hz:S.slots[i]?=some z)(y:Int):
  Has w0 (w.setCell ⟨K.gl,i*2+1,none⟩ y) (gy K.toMk l a s ah {S with slots:=S.slots.set i (z.1,y)} ss++(dS K c cv lv {S with slots:=S.slots.set i (z.1,y)}++F)):=by
 have h1:=Has.fD (A:= [_,_,_,_,_,_,_,_,_]) h (i*2+1) y
 have e:(S.slots.set i (z.1,y)).flatMap fm=(S.slots.flatMap fm).set (i*2+1) y:=by
  rw [zU];exact iK fm 2 (fun _=>rfl) hz rfl O_
 unfold dS E7 JS DF JZ;rw [show({S with slots:=S.slots.set i (z.1,y)}:PM).slots=S.slots.set i (z.1,y) from rfl,e,cW];exact h1
theorem FV(h:aq K c S ss w0 w F)(hd:dk K.toMk d∈F)(i:Nat)(tt:Int)(hi:i<S.slots.length)(h0:0≤tt)(h5:tt≤5)(hb:S.aG.length<1000000000000):
  cm 196 #[some K.bA,some d,i,tt] w (.tuple #[]) fun w'=>aq K c (S.shift i tt) ss w0 w' F:=by
 obtain⟨⟨st,ho⟩,hz⟩:∃ z,S.slots[i]?=some z:=⟨_,fy hi⟩
 have hsh:S.shift i tt={S with slots:=S.slots.set i (tt,if tt=0∨tt=3 then -1 else S.th),aG:=S.aG++ [⟨S.now,S.th,i,st,tt⟩]}:=by
  unfold PM.shift;rw [mW,kO,hz]
  rfl
 have d1:decide (tt<0)=false:=by simp;omega
 have d2:decide (5<tt)=false:=by simp;omega
 have di:decide ((i:Int)<(S.slots.length:Int))=true:=by simp;omega
 have afi:=Dg h i O_ O_;obtain⟨cv,lv,ea,eb,l,a,s,ah,q,h⟩:=h;have k7:=h.at_ (i:=7) lO rfl;have z0:=h.ey (i:=i*2) (u:=.int .i64 st) (g:=K.gl) (c:=K.cl) xd (flat_get (k:=0) fm 2 (fun _=>rfl) hz rfl);have z1:=h.ey (i:=i*2+1) (u:=.int .i64 ho) (g:=K.gl) (c:=K.cl) xd (flat_get (k:=1) fm 2 (fun _=>rfl) hz rfl);have f0:=h.gL (g:=K.gl) (c:=K.cl) xd (i*2);have f1:=h.gL (g:=K.gl) (c:=K.cl) xd (i*2+1);have mF:=DW (fK.drew ⟨l,a,s,ah,q,h⟩) (bX hd);have hF:=(KA h hz tt S.th).drew;have g7:=hF.at_ (i:=7) lO rfl;rw [cW] at g7
 have fin:∀ (W:World) (o:Int),Has w0 W (gy K.toMk l a s ah {S with slots:=S.slots.set i (tt,o)} ss++(dS K c cv lv {S with slots:=S.slots.set i (tt,o)}++F))→(if tt=0∨tt=3 then(-1:Int) else S.th)=o→
   cm 202 #[some d,i,st,tt] W (.tuple #[]) fun w'=>aq K c (S.shift i tt) ss w0 w' F:=by
  intro W o hW ho;rw [hsh,ho];refine(ya (S:={S with slots:=S.slots.set i (tt,o)}) ⟨l,a,s,ah,q,hW⟩ (bX hd) i st tt hb).mono ?_;rintro e w' ⟨rfl,h'⟩;exact⟨rfl,cv,lv,ea,eb,h'⟩
 have Fin:=aJ fin;have HF:=aJ hF;clear fin hF
 by_cases e0:tt=0
 case' pos=>subst e0
 case' neg=>by_cases e3:tt=3
 case' pos=>subst e3
 case' neg=>
  have d3:(tt==0)=false:=by simpa using e0
  have d4:(tt==3)=false:=by simpa using e3
 all_goals
  go_enter func196,ntmps196;go_wp2_with fail;refine afi.mono ?_;rintro e w1 ⟨rfl,rfl⟩;go_wp2
  go_region_held3 (fun w'=>w'.cell? ⟨K.bA,7,none⟩=some (.slice (some ⟨K.gl,0,none⟩) S.slots.length K.cl)) (first | exact k7 | exact g7) (first | ((with_reducible refine mF.mono ?_);rintro e w2 ⟨rfl,rfl⟩))
 ·have hF:=HF.out
  generalize ((w1.setCell ⟨K.gl,i*2,none⟩ tt).setCell ⟨K.gl,i*2+1,none⟩ S.th).drew=W at hF g7 ⊢;have HF2:=aJ (Fin.out W S.th hF (aK O_));clear hF;exact Th
 ·have hF:=HF.out
  generalize ((w1.setCell ⟨K.gl,i*2,none⟩ (.int .i64 3)).setCell ⟨K.gl,i*2+1,none⟩ S.th).drew=W at hF g7 ⊢;have xM:({S with slots:=S.slots.set i (3,(S.th:Int))}:PM).slots[i]?=some (3,(S.th:Int)):=g9 hi;have z2:=hF.ey (i:=i*2+1) (u:=.int .i64 S.th) (g:=K.gl) (c:=K.cl) xd (flat_get (k:=1) fm 2 (fun _=>rfl) xM rfl);have f2:=hF.gL (g:=K.gl) (c:=K.cl) xd (i*2+1);have hF2:=yA hF xM (-1);rw [show({S with slots:=S.slots.set i (3,(S.th:Int))}:PM).slots.set i ((3,(S.th:Int)).1,-1)=S.slots.set i (3,-1) from tZ ..] at hF2;exact RY
 ·have hF:=HF.out
  generalize ((w1.setCell ⟨K.gl,i*2,none⟩ (.int .i64 0)).setCell ⟨K.gl,i*2+1,none⟩ S.th).drew=W at hF g7 ⊢;have xM:({S with slots:=S.slots.set i (0,(S.th:Int))}:PM).slots[i]?=some (0,(S.th:Int)):=g9 hi;have z2:=hF.ey (i:=i*2+1) (u:=.int .i64 S.th) (g:=K.gl) (c:=K.cl) xd (flat_get (k:=1) fm 2 (fun _=>rfl) xM rfl);have f2:=hF.gL (g:=K.gl) (c:=K.cl) xd (i*2+1);have hF2:=yA hF xM (-1);rw [show({S with slots:=S.slots.set i (0,(S.th:Int))}:PM).slots.set i ((0,(S.th:Int)).1,-1)=S.slots.set i (0,-1) from tZ ..] at hF2;exact RY
theorem kj:∀ {cv:List Value} {l:List (List Int)} {t:Nat} {v:Value} {x:List Int},cv[t]?=some v→l[t]?=some x→
  ∃ P Q,kn cv l=P++.row v 3 1 x.length (x.map (Value.int .i64))::Q∧∀ v' x',kn (cv.set t v') (l.set t x')=P++.row v' 3 1 x'.length (x'.map (Value.int .i64))::Q
 | [],_,t,_,_,h,_=>by simp at h
 | _::_,[],t,_,_,_,h=>by simp at h
 | v::cv,x::l,0,_,_,h,h'=>by
  simp only [ug,Option.some.injEq] at h h';subst h h';exact⟨[],kn cv l,rfl,fun v' x'=>rfl⟩
 | v::cv,x::l,t+1,_,_,h,h'=>by
  simp only [yu] at h h';obtain⟨P,Q,e,f⟩:=kj h h';refine⟨.row v 3 1 x.length (x.map (Value.int .i64))::P,Q,?_,fun v' x'=>?_⟩
  ·show _::kn cv l=_
   rw [e];rfl
  ·show _::kn (cv.set t v') (l.set t x')=_
   rw [f];rfl
theorem aq.oC(h:aq K c S ss w0 w F)(ht:S.th<S.aO.length):∃ (cv:List Value) (A:Option Addr) (cc:Nat) (A1 A2 A3:List En),S.th<cv.length∧cv.length=S.aO.length∧cv[S.th]?=some (.slice A S.cache.length cc)∧(∀ x∈F,x∈A3)∧E7 K c S S.aO.length∈A1∧
  Has w0 w (A1++dA K.ga K.ca 40 1 cv.length cv::(A2++.row (.slice A S.cache.length cc) 3 1 S.cache.length (S.cache.map (Value.int .i64))::A3))∧
  ∀ (w':World) (v':Value) (l:List Int),Has w0 w' (A1++dA K.ga K.ca 40 1 cv.length (cv.set S.th v')::(A2++.row v' 3 1 l.length (l.map (Value.int .i64))::A3))→aq K c (S.setCache l) ss w0 w' F:=by
 obtain⟨cv,lv,a,b,l,p,s,ah,q,h⟩:=h;have LY:S.th<cv.length:=O_
 obtain⟨v,hv⟩:∃ v,cv[S.th]?=some v:=⟨_,fy LY⟩;have hx:S.aO[S.th]?=some S.cache:=by rw [fy ht,PM.cache,kO,fy ht];rfl
 obtain⟨P,Q,e,f⟩:=kj hv hx
 obtain⟨A,cc,rfl⟩:∃ A cc,v=.slice A S.cache.length cc:=by
  refine iJ h (e:=3) (k:=1) (us:=S.cache.map (Value.int .i64)) (bX ?_);unfold dS;rw [e];simp
 refine⟨cv,A,cc,gy K.toMk l p s ah S ss++ [E7 K c S cv.length,JS K S],[DF K c S lv.length,JZ K S,Ru K lv]++P,Q++(kn lv S.lists++F),LY,a,hv,fun x hx=>by simp [hx],by rw [←a];simp,?_,fun w' v' l' h'=>⟨cv.set S.th v',lv,?_,b,l,p,s,ah,q,?_⟩⟩
 ·exact QK
 ·show(cv.set S.th v').length=(S.aO.set S.th l').length
  rw [cW,cW,a]
 ·unfold dS
  rw [show(S.setCache l').aO=S.aO.set S.th l' from rfl,f,cW];simp only [dH,kY,mX] at h';simp only [dH,kY,mX,RO,cW];exact h'
@[reducible] def gr(K:Ky)(k:Nat)(th:Int)(x:Tk):En:=ob k 263 [some K.bA,th,x.pc,.int .u64 x.head,.int .u64 x.next,x.slot,x.taken]
theorem cz{k:Nat}{th:Int}{x:Tk}(h:aq K c S ss w0 w F)(hk:gr K k th x∈F):cm 183 #[some k] w x.res fun w'=>w'=w:=by
 have k5:=h.at_ (i:=5) hk rfl;have k6:=h.at_ (i:=6) hk rfl;unfold Tk.res
 cases hx:x.taken<;>rw [hx] at k6
 all_goals
  go_enter func183,ntmps183;go_wp2;go_ret;exact⟨rfl,rfl⟩
theorem nr(h:aq K c S ss w0 w F)(t:Int)(hs:0<S.slots.length):Calls prog 69 #[some K.bA,t] w fun e w'=>∃ k,e=.returned (some k)∧w.heap.size≤k∧aq K c S ss w0 w' (gr K k t .new::F):=abN
theorem Gl{k:Nat}{th:Int}{x:Tk}(h:aq K c S ss w0 w (gr K k th x::F))(hd:dk K.toMk d∈F)(i:Nat)(hi:i<S.slots.length)(hb:S.aG.length<1000000000000):
  cm 189 #[some k,some d,i] w true fun w'=>aq K c (S.shift i 2) ss w0 w' (gr K k th {x with slot:=i,taken:=true,pc:=0}::F):=by
 have k2:=h.at_ (i:=2) aj rfl;have k5:=h.at_ (i:=5) aj rfl;have k6:=h.at_ (i:=6) aj rfl;have f2:=h.dW aj 2;have f5:=h.dW aj 5;have f6:=h.dW aj 6;have h1:=((h.put 5 i).put 6 true).put 2 (.int .i64 0);have g0:=h1.at_ (i:=0) aj rfl;have hm:=FV h1 (iA _ hd) i 2 hi O_ O_ hb;go_enter func189,ntmps189;exact Nx
theorem gS{k:Nat}{x:Tk}(h:aq K c S ss w0 w (gr K k S.th x::F))(hd:dk K.toMk d∈F)(hp:x.pc≠0)(ht:S.th<S.aO.length)(hcs:∀ s∈S.cache,0≤s∧s<S.slots.length)(hcb:S.cache.length<100000)(hb:S.aG.length<1000000000000):
  Bb 186 k d w (.bool (x.ready S).1) fun w'=>aq K c (x.ready S).2.2 ss w0 w' (gr K k S.th (x.ready S).2.1::F):=by
 obtain⟨cv,A,cc,A1,A2,A3,LY,fQ,CF,_,_,hH,hback⟩:=h.oC ht;have hx0:(x.pc==0)=false:=by rw [gp];exact hp
 have hk2:=h.at_ (i:=2) aj rfl;have gC:=h.cell (i:=0) aj rfl;have vI:=h.cell (i:=1) aj rfl
 have hb8:∀ z:aL w,z.world.cell? ⟨K.bA,8,none⟩=some (.slice (some ⟨K.ga,0,none⟩) S.aO.length K.ca):=fun z=>by
  obtain⟨V7,e,ha⟩:=h.ar;have:=(ha z).2.2.2.2.2.2.2.2;rw [e] at this;exact this
 have hgt:∀ z:aL w,z.world.cell? ⟨K.ga,S.th,none⟩=some (.slice A S.cache.length cc):=hH.ny (i:=S.th) (ew _ (gq ..)) CF;have J0:decide ((S.th:Int)<(S.aO.length:Int))=true:=by simp;omega
 have PX:∀ z:aL w,Calls prog 128 #[some K.bA,S.th] z.world fun e w'=>e=.returned true∧w'=z.world:=fun z=>nN (h.iD z) S.th O_ O_
 rcases hl:S.cache.getLast? with _ | s
 ·have hn:S.cache.length=0:=by rw [N8.1 hl];rfl
  have hr:x.ready S=(false,x,S):=by unfold Tk.ready;rw [hl]
  rw [hr];rw [hn] at hgt;have Hh:=aJ h;clear hH hback hr hl h;go_enter func186,ntmps186;exact abq
 ·obtain⟨s0,s1⟩:=hcs s (JJ hl)
  obtain⟨i,rfl⟩:∃ i:Nat,s=i:=⟨s.toNat,O_⟩;obtain⟨PV,hini⟩:=GU.1 hl;have xO:S.cache.dropLast=PV:=by rw [hini,List.dropLast_concat]
  have hn:S.cache.length=PV.length+1:=by rw [hini,gP];rfl
  have hr:x.ready S=(true,{x with slot:=i,taken:=true,pc:=0},(S.setCache PV).shift i 2):=by unfold Tk.ready;rw [hl,xO];rfl
  obtain⟨m,hm⟩:∃ m,PV.length=m:=⟨_,rfl⟩;rw [hm] at hn;rw [hr];rw [hn] at hgt CF hH;obtain⟨g,hg,IU⟩:∃ g,A=some ⟨g,0,none⟩∧m+1≤cc:=abl;subst hg;have hs1:(m:Int)≤(cc:Int):=O_
  have hs0:(0:Int)≤(m:Int):=O_
  have PY:m≤cc:=O_
  have hwm:wrap64 (m:Int)=m:=wid O_ O_;have hgm:∀ z:aL w,z.world.cell? ⟨g,m,none⟩=some (.int .i64 i):=hH.ny (c:=cc) (ew _ (iA _ (ew _ (gq ..)))) (by rw [hini,jI,yw (by rw [mC];omega),mC,hm,Nat.sub_self];rfl);have hgf:∀ z:aL w,z.world.frozen? ⟨K.ga,S.th,none⟩=false:=hH.Cb (g:=K.ga) (c:=K.ca) (ew _ (gq ..)) S.th
  have ajf:K.ga≠g:=by
   have h1:=hH.mid (A:=A1);intro e;refine h1.other (b:=K.ga) rfl (ew _ (ew _ (gq ..))) ?_;rw [e];rfl
  have HH:=aJ hH;have NY:=aJ hback;have agt:=aJ hini;have Hm:=aJ hm;clear hH hback hr hl xO hini hm CF;go_enter func186,ntmps186;go_wp2_with fail;refine bT (Ext w) (bu w).bh K_ K_ ?_
  repeat (go_big_quiet_step (exact cP (PX _)))
  refine qA ?_;rintro _ ⟨k1,rfl⟩;go_wp2_with fail;refine qZ k1 fun k2=>?_
  go_wp2_with fail;refine bU (Ext w) 15 (Ext.bh k2.ok) K_ K_ ?_;simp only [rR,rP,rQ,rO]
  repeat (go_big_quiet_step (fail))
  refine qA ?_;rintro _ ⟨k3,rfl⟩;go_wp2_with fail
  have hM:aq K c (S.setCache PV) ss w0 (k3.world.setCell ⟨K.ga,S.th,none⟩ (.slice (some ⟨g,0,none⟩) m cc)) (gr K k S.th x::F):=by
   have h1:=Has.fD (HH.out.iD k3) S.th (.slice (some ⟨g,0,none⟩) m cc);refine NY.out _ (.slice (some ⟨g,0,none⟩) m cc) PV ?_;rw [←kY,←dH] at h1 ⊢;have h2:=(h1.mid.cut (m:=m) O_).back;rw [agt.out,jI,List.take_append_of_le_length (by rw [mC,Hm.out];omega),Bj (by rw [mC,Hm.out];omega)] at h2;rw [Hm.out];exact h2
  refine un (Gl hM hd i (show i<S.slots.length from O_) hb) fun w4 h4=>?_
  go_wp2;go_ret;exact⟨rfl,h4⟩
end
def rm(S:PM)(X:List RT):RM:=⟨S.words,X,S.slots.map (·.1),S.slots.map (·.2),S.lists,S.now,S.calls,S.log,S.aG⟩
def rt(S:PM)(pc:Nat)(R:Nat→Int)(bk nm pd:List Int):RT:=⟨true,S.cur,pc,R,bk,S.cache,S.rc,nm,pd⟩
def St(v:Bool)(S:PM)(X:List RT)(pc:Nat)(R:Nat→Int)(bk nm pd:List Int):Bool×RM×RT:=(v,rm S X,rt S pc R bk nm pd)
def Rn(c:Cf)(th:Nat)(x y:Bool×RM×RT):Prop:=∃ n,∀ f,tM c aI cI th (f+n) x.1 x.2.1 x.2.2=tM c aI cI th f y.1 y.2.1 y.2.2
variable{c:Cf}{th:Nat}
theorem Rn.rfl'(x:Bool×RM×RT):Rn c th x x:=⟨0,fun _=>rfl⟩
theorem Rn.trans{x y z:Bool×RM×RT}(h:Rn c th x y)(h':Rn c th y z):Rn c th x z:=by
 obtain⟨n,hn⟩:=h;obtain⟨k,hk⟩:=h';exact⟨k+n,fun f=>by rw [←ud,hn,hk]⟩
def PM.fin(S:PM):PM:={S with calls:=S.calls.modify S.cur fun x=>{x with en:=S.now,ak:=S.cj.1,av:=S.cj.2}}
def Eo(v:Bool)(S:PM)(X:List RT)(pc:Nat)(R:Nat→Int)(bk nm pd:List Int):Bool×RM×RT:=(v,rm S.fin X,{rt S pc R bk nm pd with busy:=false})
section
variable{c:Cf}{th:Nat}{v:Bool}{S:PM}{X:List RT}{pc n:Nat}{R:Nat→Int}{bk nm pd:List Int}{a b e ag:Nat}{d:Int}
theorem bP{i:eJ}{m':RM}{t':RT}(hc:aI[pc]?=some i)(hk:¬i.k≤3)(hl:loc c cI th i (rm S X) (rt S (pc+1) R bk nm pd)=some (m',t')):Rn c th (St v S X pc R bk nm pd) (v,m',t'):=by
 refine⟨1,fun f=>?_⟩
 show tM c aI cI th (f+1) v (rm S X) (rt S pc R bk nm pd)=tM c aI cI th f v m' t'
 have hl':loc c cI th i (rm S X) {rt S pc R bk nm pd with pc:=pc+1}=some (m',t'):=hl;rw [tM];simp only [rt] at hl' ⊢;simp only [dL,hc,aK hk,hl']
theorem uW{i:eJ}{m':RM}{t':RT}(hc:aI[pc]?=some i)(hk:i.k≤3)(hl:J3 c cI th i (rm S X) (rt S (pc+1) R bk nm pd)=some (m',t')):Rn c th (St false S X pc R bk nm pd) (true,m',t'):=by
 refine⟨1,fun f=>?_⟩
 show tM c aI cI th (f+1) false (rm S X) (rt S pc R bk nm pd)=tM c aI cI th f true m' t'
 have hl':J3 c cI th i (rm S X) {rt S pc R bk nm pd with pc:=pc+1}=some (m',t'):=hl;rw [tM];simp only [rt] at hl' ⊢;simp [hc,aY hk,hl']
theorem OP{i:eJ}(hc:aI[pc]?=some i)(hk:i.k≤3)(f:Nat):tM c aI cI th (f+1) true (rm S X) (rt S pc R bk nm pd)=some (rm S X,rt S pc R bk nm pd):=by
 rw [tM];simp only [rt,dL,hc,aY hk]
theorem FE(f:Nat):tM c aI cI th (f+1) (Eo v S X pc R bk nm pd).1 (Eo v S X pc R bk nm pd).2.1 (Eo v S X pc R bk nm pd).2.2=some ((Eo v S X pc R bk nm pd).2.1,(Eo v S X pc R bk nm pd).2.2):=by
 rw [tM];simp [Eo]
theorem r1(I:Inv c th S)(hc:aI[pc]?=some ⟨1,a,b,e,d,ag⟩)(hb:1≤b∧b≤13){i:Int}(hi:wrap64 (R e)=i)(hx:Ix c b i):
  Rn c th (St false S X pc R bk nm pd) (St true (S.load (c.ad b i)) X (pc+1) (cg R a (S.w (c.ad b i))) bk nm pd):=by
 obtain⟨p,q,_,_⟩:=I.mq hb.1 hb.2 hx;refine uW hc S_ ?_;have e1:(wrap64 ((rt S (pc+1) R bk nm pd).R e)+if b=0 then 0 else c.ad b 0)=c.ad b i:=by rw [aK O_];show wrap64 (R e)+_=_;rw [hi];simp only [Cf.ad];omega
 simp only [J3,e1];rw [show(rm S X).words.length=S.words.length from rfl,aY ⟨p,q⟩];rw [←I.me]
 rfl
theorem r1a(I:Inv c th S)(hc:aI[pc]?=some ⟨1,a,0,e,d,ag⟩){i:Int}(hi:wrap64 (R e)=i)(hx:0≤i∧i<S.words.length):
  Rn c th (St false S X pc R bk nm pd) (St true (S.load i) X (pc+1) (cg R a (S.w i)) bk nm pd):=by
 refine uW hc S_ ?_;have e1:wrap64 ((rt S (pc+1) R bk nm pd).R e)+0=i:=by show wrap64 (R e)+_=_;rw [hi];omega
 simp only [J3,dL,e1];rw [show(rm S X).words.length=S.words.length from rfl,aY hx];rw [←I.me]
 rfl
theorem r2(I:Inv c th S)(hc:aI[pc]?=some ⟨2,a,b,e,d,ag⟩)(hb:1≤b∧b≤13){i u:Int}(hi:wrap64 (R e)=i)(hu:R a=u)(hx:Ix c b i):
  Rn c th (St false S X pc R bk nm pd) (St true (S.store (c.ad b i) u) X (pc+1) R bk nm pd):=by
 obtain⟨p,q,_,_⟩:=I.mq hb.1 hb.2 hx;refine uW hc S_ ?_;have e1:(wrap64 ((rt S (pc+1) R bk nm pd).R e)+if b=0 then 0 else c.ad b 0)=c.ad b i:=by rw [aK O_];show wrap64 (R e)+_=_;rw [hi];simp only [Cf.ad];omega
 simp only [J3,e1];rw [show(rm S X).words.length=S.words.length from rfl,aY ⟨p,q⟩];rw [←I.me,←hu]
 rfl
theorem aa9(I:Inv c th S){j:Nat}{i u w:Int}{t:RT}(hi:(wrap64 (t.R e)+if b=0 then 0 else c.ad b 0)=i)(hu:t.R a=u)(hw:t.R j=w)(hx:0≤i∧i<S.words.length):
  J3 c cI th ⟨3,a,b,e,(j:Int),ag⟩ (rm S X) t=some (rm (S.swap i u w) X,if S.w i=u then t else{t with pc:=cI ag}):=by
 simp only [J3,hi,hu];rw [show(rm S X).words.length=S.words.length from rfl,aY hx];have hw':t.R (j:Int).toNat=w:=hw;simp only [hw']
 by_cases h:S.w i=u
 ·have h':(rm S X).words.getD i.toNat 0=u:=h
  rw [aY h,aY h',h',←I.me];simp [rm,PM.swap,PM.acc,h]
 ·have h':¬(rm S X).words.getD i.toNat 0=u:=h
  rw [aK h,aK h',←I.me];simp only [rm,PM.swap,PM.acc,aK h]
  rfl
theorem r3(I:Inv c th S){j:Nat}(hc:aI[pc]?=some ⟨3,a,b,e,(j:Int),ag⟩)(hb:1≤b∧b≤13){i u w:Int}(hi:wrap64 (R e)=i)(hu:R a=u)(hw:R j=w)(hx:Ix c b i)(hl:cI ag=n):
  Rn c th (St false S X pc R bk nm pd) (St true (S.swap (c.ad b i) u w) X (if S.w (c.ad b i)=u then pc+1 else n) R bk nm pd):=by
 obtain⟨p,q,_,_⟩:=I.mq hb.1 hb.2 hx;refine uW hc S_ ?_;rw [aa9 I (i:=c.ad b i) (u:=u) (w:=w) (by rw [aK O_];show wrap64 (R e)+_=_;rw [hi];simp only [Cf.ad];omega) hu hw ⟨p,q⟩,hl]
 by_cases h:S.w (c.ad b i)=u
 ·rw [aY h,aY h];rfl
 ·rw [aK h,aK h];rfl
theorem r3a(I:Inv c th S){j:Nat}(hc:aI[pc]?=some ⟨3,a,0,e,(j:Int),ag⟩){i u w:Int}(hi:wrap64 (R e)=i)(hu:R a=u)(hw:R j=w)(hx:0≤i∧i<S.words.length)(hl:cI ag=n):
  Rn c th (St false S X pc R bk nm pd) (St true (S.swap i u w) X (if S.w i=u then pc+1 else n) R bk nm pd):=by
 refine uW hc S_ ?_;rw [aa9 I (i:=i) (u:=u) (w:=w) (by rw [aY rfl];show wrap64 (R e)+_=_;rw [hi];omega) hu hw hx,hl]
 by_cases h:S.w i=u
 ·rw [aY h,aY h];rfl
 ·rw [aK h,aK h];rfl
theorem dI(hc:aI[pc]?=some ⟨10,a,b,e,d,ag⟩):Rn c th (St v S X pc R bk nm pd) (St v S X (pc+1) R bk nm pd):=bP hc S_ rfl
theorem tO(hc:aI[pc]?=some ⟨11,a,b,e,d,ag⟩)(hl:cI ag=n):Rn c th (St v S X pc R bk nm pd) (St v S X n R bk nm pd):=bP hc S_ (by subst hl;rfl)
theorem mE(hc:aI[pc]?=some ⟨12,a,b,e,d,ag⟩)(hl:cI ag=n){r:Nat}(hr:pc+1=r):Rn c th (St v S X pc R bk nm pd) (St v S X n R (bk++ [(r:Int)]) nm pd):=bP hc S_ (by subst hl hr;rfl)
theorem xA(hc:aI[pc]?=some ⟨13,a,b,e,d,ag⟩){r:Nat}:Rn c th (St v S X pc R (bk++ [(r:Int)]) nm pd) (St v S X r R bk nm pd):=bP hc S_ (by simp [loc,rt,List.getLast?_append])
theorem mL(I:Inv c th S)(hc:aI[pc]?=some ⟨14,a,b,e,d,ag⟩)(ha:S.cj=(d,if d=2 then wrap64 (R a) else 0)):Rn c th (St v S X pc R bk nm pd) (Eo v S X (pc+1) R bk nm pd):=by
 refine bP hc S_ ?_;obtain⟨x,hx,hx1,hx2⟩:=I.cl;have e1:(rm S X).cK S.cur (fun x=>{x with en:=S.now,ak:=d,av:=if d=2 then wrap64 (R a) else x.av})=rm S.fin X:=?_
 ·exact ep (fun m=>some (m,_)) e1
 simp only [rm,PM.fin,ha,RM.cK]
 congr 1
 refine wU fun j=>?_
 simp only [yq]
 by_cases h:S.cur=j
 ·subst h
  simp only [dL,hx,Option.map_eq_map,Bg,hx2]
 ·simp only [aK h]
theorem yI(hc:aI[pc]?=some ⟨15,a,b,e,d,ag⟩){u:Int}(hu:u64 d=u):Rn c th (St v S X pc R bk nm pd) (St v S X (pc+1) (cg R a u) bk nm pd):=bP hc S_ (by subst hu;rfl)
theorem wY(hc:aI[pc]?=some ⟨16,a,b,e,d,ag⟩){u:Int}(hu:R b=u):Rn c th (St v S X pc R bk nm pd) (St v S X (pc+1) (cg R a u) bk nm pd):=bP hc S_ (by subst hu;rfl)
theorem TS(hc:aI[pc]?=some ⟨17,a,b,e,d,ag⟩){u w:Int}(hu:R b=u)(hw:u64 (u+u64 d)=w):Rn c th (St v S X pc R bk nm pd) (St v S X (pc+1) (cg R a w) bk nm pd):=bP hc S_ (by subst hu hw;rfl)
theorem Ie(hc:aI[pc]?=some ⟨18,a,b,e,d,ag⟩){u:Int}(hu:R b=u):Rn c th (St v S X pc R bk nm pd) (St v S X (pc+1) (cg R a (u64 (lk u))) bk nm pd):=bP hc S_ (by subst hu;rfl)
theorem TR(hc:aI[pc]?=some ⟨19,a,b,e,d,ag⟩){u:Int}(hu:wrap64 (R b)=u)(h:-1≤u∧u<1024):Rn c th (St v S X pc R bk nm pd) (St v S X (pc+1) (cg R a (pk u)) bk nm pd):=bP hc S_ (by subst hu;simp only [loc];rw [aY ⟨h.1,Int.le_trans (Int.le_of_lt h.2) D_⟩];rfl)
theorem r20(hc:aI[pc]?=some ⟨20,a,b,e,d,ag⟩){u:Int}(hu:R b=u):Rn c th (St v S X pc R bk nm pd) (St v S X (pc+1) (cg R a (kZ (lk u))) bk nm pd):=bP hc S_ (by subst hu;rfl)
theorem r21(hc:aI[pc]?=some ⟨21,a,b,e,d,ag⟩){u:Int}(hu:R b=u):Rn c th (St v S X pc R bk nm pd) (St v S X (pc+1) (cg R a (pk (lk u))) bk nm pd):=bP hc S_ (by subst hu;rfl)
theorem r22(hc:aI[pc]?=some ⟨22,a,b,e,d,ag⟩){u s:Int}(hu:R b=u)(hs:wrap64 (R e)=s)(h:-1≤s∧s<1024):Rn c th (St v S X pc R bk nm pd) (St v S X (pc+1) (cg R a (hd u s)) bk nm pd):=bP hc S_ (by subst hu hs;simp only [loc];rw [aY ⟨h.1,Int.le_trans (Int.le_of_lt h.2) D_⟩];rfl)
theorem xy(hc:aI[pc]?=some ⟨23,a,b,e,d,ag⟩){u:Int}(hu:R a=u)(h:lk u<0)(hl:cI ag=n):Rn c th (St v S X pc R bk nm pd) (St v S X n R bk nm pd):=bP hc S_ (by subst hl hu;simp [loc,RT.jump,rt,h])
theorem xz(hc:aI[pc]?=some ⟨23,a,b,e,d,ag⟩){u:Int}(hu:R a=u)(h:0≤lk u):Rn c th (St v S X pc R bk nm pd) (St v S X (pc+1) R bk nm pd):=bP hc S_ (by subst hu;simp [loc,RT.jump,rt,show¬lk (R a)<0 from O_])
theorem Pv{u:Int}(h0:0≤u)(h1:u<8589934592):(u / 4294967296 % 2==1)=Bn u:=by
 unfold Bn
 by_cases h:4294967296≤u
 ·rw [cM h];simp;omega
 ·rw [dy h];simp;omega
theorem r24(hc:aI[pc]?=some ⟨24,a,b,e,d,ag⟩){u:Int}(hu:R a=u)(h0:0≤u)(h1:u<8589934592)(hl:cI ag=n):Rn c th (St v S X pc R bk nm pd) (St v S X (if Bn u then n else pc+1) R bk nm pd):=bP hc S_ (by
 subst hl hu;simp only [loc,rt,Pv h0 h1]
 cases Bn (R a)<;>rfl)
theorem lV(hc:aI[pc]?=some ⟨25,a,b,e,d,ag⟩)(h:R a=R b)(hl:cI ag=n):Rn c th (St v S X pc R bk nm pd) (St v S X n R bk nm pd):=bP hc S_ (by subst hl;simp [loc,RT.jump,rt,h])
theorem lz(hc:aI[pc]?=some ⟨25,a,b,e,d,ag⟩)(h:¬R a=R b):Rn c th (St v S X pc R bk nm pd) (St v S X (pc+1) R bk nm pd):=bP hc S_ (by simp [loc,RT.jump,rt,h])
theorem sB(hc:aI[pc]?=some ⟨26,a,b,e,d,ag⟩){x y:Int}(hx:wrap64 (R a)=x)(hy:wrap64 (R b)=y)(h:x<y)(hl:cI ag=n):Rn c th (St v S X pc R bk nm pd) (St v S X n R bk nm pd):=bP hc S_ (by subst hl hx hy;simp [loc,RT.jump,rt,h])
theorem tN(hc:aI[pc]?=some ⟨26,a,b,e,d,ag⟩){x y:Int}(hx:wrap64 (R a)=x)(hy:wrap64 (R b)=y)(h:¬x<y):Rn c th (St v S X pc R bk nm pd) (St v S X (pc+1) R bk nm pd):=bP hc S_ (by subst hx hy;simp only [loc,RT.jump,rt,h];rfl)
theorem FI(hc:aI[pc]?=some ⟨27,a,b,e,d,ag⟩):Rn c th (St v S X pc R bk nm pd) (St v (S.aB S.now) X (pc+1) R bk nm pd):=bP hc S_ rfl
theorem Rk(hc:aI[pc]?=some ⟨28,a,b,e,d,ag⟩){u:Int}(hu:wrap64 (R a)=u):Rn c th (St v S X pc R bk nm pd) (St v (S.aB u) X (pc+1) R bk nm pd):=bP hc S_ (by subst hu;rfl)
theorem WO(hc:aI[pc]?=some ⟨29,a,b,e,d,ag⟩):Rn c th (St v S X pc R bk nm pd) (St v S X (pc+1) (cg R a S.now) bk nm pd):=bP hc S_ rfl
theorem KI(I:Inv c th S){s:Int}(h:0≤s∧s<c.S)(k:Int):(rm S X).shift th s k=rm (S.shift s k) X:=by
 have hs:=I.sl;have hlt:s.toNat<S.slots.length:=O_
 simp only [RM.shift,rm,PM.shift,tY,I.me,kO,gA,fy hlt,Bg,Option.getD_some]
theorem Ch(I:Inv c th S)(hc:aI[pc]?=some ⟨30,a,b,e,d,ag⟩){s:Int}(hs:wrap64 (R a)=s)(h:0≤s∧s<c.S):Rn c th (St v S X pc R bk nm pd) (St v (S.shift s d) X (pc+1) R bk nm pd):=bP hc S_ (by subst hs;simp only [loc];rw [show(rt S (pc+1) R bk nm pd).R a=R a from rfl,aY h,KI I h];rfl)
theorem adP(hc:aI[pc]?=some ⟨31,a,b,e,d,ag⟩)(h:S.cache.getLast?=none)(hl:cI ag=n):Rn c th (St v S X pc R bk nm pd) (St v S X n R bk nm pd):=bP hc S_ (by subst hl;simp only [loc,rt,h])
theorem adO(I:Inv c th S)(hc:aI[pc]?=some ⟨31,a,b,e,d,ag⟩){x:Int}(h:S.cache.getLast?=some x):Rn c th (St v S X pc R bk nm pd) (St v (S.setCache S.cache.dropLast) X (pc+1) (cg R a (u64 x)) bk nm pd):=bP hc S_ (by
 simp only [loc,rt,h,I.oz];rfl)
theorem X4(hc:aI[pc]?=some ⟨32,a,b,e,d,ag⟩)(h:c.Ca≤S.cache.length)(hl:cI ag=n):Rn c th (St v S X pc R bk nm pd) (St v S X n R bk nm pd):=bP hc S_ (by subst hl;simp only [loc];rw [show(rt S (pc+1) R bk nm pd).cache=S.cache from rfl,aY h];rfl)
theorem X5(I:Inv c th S)(hc:aI[pc]?=some ⟨32,a,b,e,d,ag⟩)(h:¬c.Ca≤S.cache.length){x:Int}(hx:wrap64 (R a)=x):Rn c th (St v S X pc R bk nm pd) (St v (S.setCache (S.cache++ [x])) X (pc+1) R bk nm pd):=bP hc S_ (by
 subst hx;simp only [loc];rw [show(rt S (pc+1) R bk nm pd).cache=S.cache from rfl,aK h];simp only [rt,I.oz];rfl)
theorem adN(hc:aI[pc]?=some ⟨33,a,b,e,d,ag⟩)(h:S.cache.getLast?=none)(hl:cI ag=n):Rn c th (St v S X pc R bk nm pd) (St v S X n R bk nm pd):=bP hc S_ (by subst hl;simp only [loc,rt,h])
theorem adM(hc:aI[pc]?=some ⟨33,a,b,e,d,ag⟩){x:Int}(h:S.cache.getLast?=some x):Rn c th (St v S X pc R bk nm pd) (St v S X (pc+1) (cg R a (u64 x)) bk nm pd):=bP hc S_ (by simp only [loc,rt,h];rfl)
theorem WN(I:Inv c th S)(hc:aI[pc]?=some ⟨34,a,b,e,d,ag⟩)(h:¬S.cache= []):Rn c th (St v S X pc R bk nm pd) (St v (S.setCache S.cache.dropLast) X (pc+1) R bk nm pd):=bP hc S_ (by simp only [loc];rw [show(rt S (pc+1) R bk nm pd).cache=S.cache from rfl,aK h];simp only [rt,I.oz];rfl)
theorem r35(hc:aI[pc]?=some ⟨35,a,b,e,d,ag⟩)(h:0≤S.rc∧S.rc<c.R){x:Int}(hx:wrap64 (R a)=x):Rn c th (St v S X pc R bk nm pd) (St v (S.aV S.rc (S.bQ S.rc++ [x])) X (pc+1) R bk nm pd):=bP hc S_ (by
 subst hx;simp only [loc];rw [show(rt S (pc+1) R bk nm pd).rc=S.rc from rfl,aY h];rfl)
theorem adK(hc:aI[pc]?=some ⟨36,a,b,e,d,ag⟩)(h:0≤S.rc∧S.rc<c.R)(hs:(S.bQ S.rc).length<c.Re)(hl:cI ag=n):Rn c th (St v S X pc R bk nm pd) (St v S X n R bk nm pd):=bP hc S_ (by
 subst hl;simp only [loc];rw [show(rt S (pc+1) R bk nm pd).rc=S.rc from rfl,aY h,show(rm S X).bQ S.rc=S.bQ S.rc from rfl,cM hs];rfl)
theorem adL(hc:aI[pc]?=some ⟨36,a,b,e,d,ag⟩)(h:0≤S.rc∧S.rc<c.R)(hs:¬(S.bQ S.rc).length<c.Re):Rn c th (St v S X pc R bk nm pd) (St v S X (pc+1) R bk nm pd):=bP hc S_ (by
 simp only [loc];rw [show(rt S (pc+1) R bk nm pd).rc=S.rc from rfl,aY h,show(rm S X).bQ S.rc=S.bQ S.rc from rfl,dy hs];rfl)
theorem adI(hc:aI[pc]?=some ⟨37,a,b,e,d,ag⟩)(h:0≤S.rc∧S.rc<c.R)(hs:S.bQ S.rc= [])(hl:cI ag=n):Rn c th (St v S X pc R bk nm pd) (St v S X n R bk nm pd):=bP hc S_ (by
 subst hl;simp only [loc];rw [show(rt S (pc+1) R bk nm pd).rc=S.rc from rfl,aY h,show(rm S X).bQ S.rc=S.bQ S.rc from rfl,cM hs];rfl)
theorem adJ(hc:aI[pc]?=some ⟨37,a,b,e,d,ag⟩)(h:0≤S.rc∧S.rc<c.R)(hs:¬S.bQ S.rc= []):Rn c th (St v S X pc R bk nm pd) (St v S X (pc+1) R bk nm pd):=bP hc S_ (by
 simp only [loc];rw [show(rt S (pc+1) R bk nm pd).rc=S.rc from rfl,aY h,show(rm S X).bQ S.rc=S.bQ S.rc from rfl,dy hs];rfl)
theorem r38(hc:aI[pc]?=some ⟨38,a,b,e,d,ag⟩):Rn c th (St v S X pc R bk nm pd) (St v S X (pc+1) (cg R a (u64 S.rc)) bk nm pd):=bP hc S_ rfl
theorem r39(I:Inv c th S)(hc:aI[pc]?=some ⟨39,a,b,e,d,ag⟩){x:Int}(hx:wrap64 (R a)=x)(hg:-1≤x∧x<c.R):Rn c th (St v S X pc R bk nm pd) (St v (S.hold x) X (pc+1) R bk nm pd):=bP hc S_ (by
 subst hx;simp only [loc];rw [show(rt S (pc+1) R bk nm pd).R a=R a from rfl,aY hg];simp only [rt,I.OS];rfl)
theorem r40(hc:aI[pc]?=some ⟨40,a,b,e,d,ag⟩)(h:0≤S.rc∧S.rc<c.R){x:Int}(hx:wrap64 (R a)=x)(h':0≤x∧x<c.R):Rn c th (St v S X pc R bk nm pd) (St v ((S.aV S.rc (S.bQ S.rc++S.bQ x)).aV x []) X (pc+1) R bk nm pd):=bP hc S_ (by
 subst hx;simp only [loc];rw [show(rt S (pc+1) R bk nm pd).rc=S.rc from rfl,aY ⟨h.1,h.2,h'.1,h'.2⟩];rfl)
theorem r41(hc:aI[pc]?=some ⟨41,a,b,e,d,ag⟩):Rn c th (St v S X pc R bk nm pd) (St v S X (pc+1) R bk [] pd):=bP hc S_ rfl
theorem r42(hc:aI[pc]?=some ⟨42,a,b,e,d,ag⟩){u:Int}(hu:R a=u):Rn c th (St v S X pc R bk nm pd) (St v S X (pc+1) R bk (nm++ [lk u]) pd):=bP hc S_ (by subst hu;rfl)
theorem WM(hc:aI[pc]?=some ⟨43,a,b,e,d,ag⟩)(h:0≤S.rc∧S.rc<c.R):Rn c th (St v S X pc R bk nm pd) (St v (S.aV S.rc ((S.bQ S.rc).filter fun x=>decide (x∈nm))) X (pc+1) R bk nm ((S.bQ S.rc).filter fun x=>!(decide (x∈nm)))):=bP hc S_ (by
 simp only [loc];rw [show(rt S (pc+1) R bk nm pd).rc=S.rc from rfl,aY h];rfl)
theorem adH(hc:aI[pc]?=some ⟨44,a,b,e,d,ag⟩)(hl:cI ag=n):Rn c th (St v S X pc R bk nm []) (St v S X n R bk nm []):=bP hc S_ (by subst hl;rfl)
theorem adG(hc:aI[pc]?=some ⟨44,a,b,e,d,ag⟩){x:Int}:Rn c th (St v S X pc R bk nm (x::pd)) (St v S X (pc+1) (cg R a (u64 x)) bk nm pd):=bP hc S_ rfl
theorem Ib(hc:aI[pc]?=some ⟨45,a,b,e,d,ag⟩):Rn c th (St v S X pc R bk nm pd) (St v S X (pc+1) (cg R a (u64 (S.rc*c.H+d))) bk nm pd):=bP hc S_ rfl
theorem KN(hc:aI[pc]?=some ⟨46,a,b,e,d,ag⟩){u w:Int}(hu:R e=u)(hw:u64 (u+c.ad b 0)=w):Rn c th (St v S X pc R bk nm pd) (St v S X (pc+1) (cg R a w) bk nm pd):=bP hc S_ (by subst hu hw;rfl)
theorem r47(hc:aI[pc]?=some ⟨47,a,b,e,d,ag⟩){u:Int}(hu:R b=u):Rn c th (St v S X pc R bk nm pd) (St v S X (pc+1) (cg R a (u % c.B)) bk nm pd):=bP hc S_ (by subst hu;rfl)
theorem JV(I:Inv c th S)(hc:aI[pc]?=some ⟨48,a,b,e,d,ag⟩){u:Int}(hu:S.arg=u):Rn c th (St v S X pc R bk nm pd) (St v S X (pc+1) (cg R a (u64 u)) bk nm pd):=bP hc S_ (by
 obtain⟨x,hx,_⟩:=I.cl;simp only [PM.arg,hx] at hu;subst hu;simp only [loc];rw [show(rm S X).calls[(rt S (pc+1) R bk nm pd).call]?=some x from hx];rfl)
theorem r49(I:Inv c th S)(hc:aI[pc]?=some ⟨49,a,b,e,d,ag⟩){u:Int}(hu:S.dat=u):Rn c th (St v S X pc R bk nm pd) (St v S X (pc+1) (cg R a (u64 u)) bk nm pd):=bP hc S_ (by
 obtain⟨x,hx,_⟩:=I.cl;simp only [PM.dat,hx] at hu;subst hu;simp only [loc];rw [show(rm S X).calls[(rt S (pc+1) R bk nm pd).call]?=some x from hx];rfl)
theorem r50(hc:aI[pc]?=some ⟨50,a,b,e,d,ag⟩):Rn c th (St v S X pc R bk nm pd) (St v S X (pc+1) (cg R a c.R) bk nm pd):=bP hc S_ rfl
theorem r51(hc:aI[pc]?=some ⟨51,a,b,e,d,ag⟩):Rn c th (St v S X pc R bk nm pd) (St v S X (pc+1) (cg R a (c.R*c.H)) bk nm pd):=bP hc S_ rfl
theorem r52(hc:aI[pc]?=some ⟨52,a,b,e,d,ag⟩){u:Int}(hu:wrap64 (R b)=u):Rn c th (St v S X pc R bk nm pd) (St v S X (pc+1) (cg R a (u64 (S.rc*c.H+u))) bk nm pd):=bP hc S_ (by subst hu;rfl)
theorem adD(hc:aI[pc]?=some ⟨53,a,b,e,d,ag⟩){u:Int}(hu:wrap64 (R a)=u)(h:u<(S.rc+1)*c.H)(hl:cI ag=n):Rn c th (St v S X pc R bk nm pd) (St v S X n R bk nm pd):=bP hc S_ (by subst hl hu;simp [loc,RT.jump,rt,h])
theorem adE(hc:aI[pc]?=some ⟨53,a,b,e,d,ag⟩){u:Int}(hu:wrap64 (R a)=u)(h:¬u<(S.rc+1)*c.H):Rn c th (St v S X pc R bk nm pd) (St v S X (pc+1) R bk nm pd):=bP hc S_ (by subst hu;exact ep (fun q=>some (rm S X,RT.jump (rt S (pc+1) R bk nm pd) q (cI ag))) (dy h))
end
def Part(c:Cf)(th:Nat)(X:List RT)(v0 v1:Bool)(lo:Nat)(S:PM)(pc:Nat)(R:Nat→Int)(bs e0 nm pd:List Int){α:Type}(r:Bool×α×PM)(At:α→PM→Nat→(Nat→Int)→List Int→List Int→List Int→Prop)(Dn:α→(Nat→Int)→Prop):Prop:=
 Inv c th r.2.2∧Kp S r.2.2∧∃ (R':Nat→Int) (cG cE:List Int),(∀ i,i<lo∨35<i→R' i=R i)∧
  ((r.1=false∧∃ (cZ:Nat) (e':List Int),At r.2.1 r.2.2 cZ R' e' cG cE∧Rn c th (St v0 S X pc R (bs++e0) nm pd) (St v1 r.2.2 X cZ R' (bs++e') cG cE))∨
   (r.1=true∧Dn r.2.1 R'∧∀ (b0:List Int) (q:Nat),bs=b0++ [(q:Int)]→Rn c th (St v0 S X pc R (bs++e0) nm pd) (St v1 r.2.2 X q R' b0 cG cE)))
section
variable{c:Cf}{th:Nat}{X:List RT}{v0 v1:Bool}{lo:Nat}{S S':PM}{pc cZ:Nat}{R R':Nat→Int}{bs e0 e' nm pd cG cE:List Int}{α:Type}{x:α}{At:α→PM→Nat→(Nat→Int)→List Int→List Int→List Int→Prop}{Dn:α→(Nat→Int)→Prop}
theorem Part.go(I:Inv c th S')(K:Kp S S')(hr:∀ i,i<lo∨35<i→R' i=R i)(ha:At x S' cZ R' e' cG cE)(h:Rn c th (St v0 S X pc R (bs++e0) nm pd) (St v1 S' X cZ R' (bs++e') cG cE)):
  Part c th X v0 v1 lo S pc R bs e0 nm pd (false,x,S') At Dn:=⟨I,K,R',cG,cE,hr,.inl ⟨rfl,cZ,e',ha,h⟩⟩
theorem Part.done(I:Inv c th S')(K:Kp S S')(hr:∀ i,i<lo∨35<i→R' i=R i)(ha:Dn x R')(h:∀ (b0:List Int) (q:Nat),bs=b0++ [(q:Int)]→Rn c th (St v0 S X pc R (bs++e0) nm pd) (St v1 S' X q R' b0 cG cE)):
  Part c th X v0 v1 lo S pc R bs e0 nm pd (true,x,S') At Dn:=⟨I,K,R',cG,cE,hr,.inr ⟨rfl,ha,h⟩⟩
end
theorem eG(R:Nat→Int)(lo:Nat):∀ i,i<lo∨35<i→R i=R i:=fun _ _=>rfl
theorem eD{R R':Nat→Int}{lo:Nat}(h:∀ i,i<lo∨35<i→R' i=R i){j:Nat}(hj:lo≤j∧j≤35)(v:Int):∀ i,i<lo∨35<i→cg R' j v i=R i:=by
 intro i hi;rw [oV _ _ O_];exact h i hi
theorem Cw{R R' Tm:Nat→Int}{lo lo':Nat}(h:∀ i,i<lo∨35<i→R' i=R i)(h':∀ i,i<lo'∨35<i→Tm i=R' i)(hl:lo≤lo'):∀ i,i<lo∨35<i→Tm i=R i:=
 fun i hi=>(h' i O_).trans (h i hi)
theorem ld{R:Nat→Int}(h:R 47=0):wrap64 (R 47)=0:=by rw [h];exact w0'
theorem wr{R:Nat→Int}{j:Nat}{s:Int}(h:R j=u64 s)(h1:-1≤s)(h2:s<4294967296):wrap64 (R j)=s:=by rw [h];exact wu s O_ O_
variable{X:List RT}{S:PM}{pc:Nat}
theorem Part.cases{v0 v1:Bool}{lo:Nat}{R:Nat→Int}{bs e0 nm pd:List Int}{α:Type}{r:Bool×α×PM}{At:α→PM→Nat→(Nat→Int)→List Int→List Int→List Int→Prop}{Dn:α→(Nat→Int)→Prop}
  (P:Part c th X v0 v1 lo S pc R bs e0 nm pd r At Dn):∃ (k:α) (S':PM) (R':Nat→Int) (cG cE:List Int),Inv c th S'∧Kp S S'∧(∀ i,i<lo∨35<i→R' i=R i)∧
  ((∃ (cZ:Nat) (e':List Int),r=(false,k,S')∧At k S' cZ R' e' cG cE∧Rn c th (St v0 S X pc R (bs++e0) nm pd) (St v1 S' X cZ R' (bs++e') cG cE))∨
   (r=(true,k,S')∧Dn k R'∧∀ (b0:List Int) (q:Nat),bs=b0++ [(q:Int)]→Rn c th (St v0 S X pc R (bs++e0) nm pd) (St v1 S' X q R' b0 cG cE))):=by
 obtain⟨b,k,S'⟩:=r;obtain⟨I,K,R',cG,cE,hR,h⟩:=P;refine⟨k,S',R',cG,cE,I,K,hR,?_⟩
 rcases h with ⟨hb,cZ,e',h1,h2⟩ | ⟨hb,h1,h2⟩
 ·exact .inl ⟨cZ,e',by simp only at hb;rw [hb],h1,h2⟩
 ·exact .inr ⟨by simp only at hb;rw [hb],h1,h2⟩
def Hw(c:Cf)(w:Int):Prop:=0≤w∧w<18446744073709551616∧0≤lk w∧lk w<c.S
def Fw(c:Cf)(w:Int):Prop:=0≤w∧w<18446744073709551616∧lk w<c.S
def Lw(c:Cf)(w:Int):Prop:=0≤w∧w<8589934592∧lk w<c.S
def sS(c:Cf)(k:Tk)(_:PM)(pc:Nat)(R:Nat→Int)(e _ _:List Int):Prop:=
 e= []∧k.taken=false∧((k.pc=1∧pc=5)∨(k.pc=2∧pc=8∧Hw c k.head∧R 31=k.head∧R 32=u64 (lk k.head))∨
  (k.pc=3∧pc=11∧Hw c k.head∧Lw c k.next∧R 31=k.head∧R 32=u64 (lk k.head)∧R 35=hd k.head (lk k.next)))
def Fb(c:Cf)(k:Tk)(R:Nat→Int):Prop:=R 30=u64 k.res∧-1≤k.res∧k.res<c.S
theorem Inv.free(I:Inv c th S):0≤S.w (c.ad 1 0)∧S.w (c.ad 1 0)<18446744073709551616∧lk (S.w (c.ad 1 0))<c.S:=by
 obtain⟨_,_,_,h⟩:=I.mq (r:=1) O_ O_ (I.kC (.inl rfl));exact⟨h.lo,h.hi,h.fr rfl⟩
theorem Inv.Cp(I:Inv c th S){r:Nat}{i:Int}(h1:1≤r)(h2:r≤13)(hr:Cp r)(hx:Ix c r i):Lw c (S.w (c.ad r i)):=by
 obtain⟨_,_,_,h⟩:=I.mq h1 h2 hx;exact⟨h.lo,(h.lw hr).1,(h.lw hr).2⟩
theorem Z6(w s:Int)(hs:-1≤s)(hs':s<c.S)(hc:c.S≤1024):0≤hd w s∧hd w s<18446744073709551616∧lk (hd w s)=s:=by unfold hd lk;omega
theorem FL{s:Int}(hs:-1≤s)(hs':s<1024):0≤pk s∧pk s<8589934592∧lk (pk s)=s:=by unfold pk lk;omega
theorem Inv.pwF(I:Inv c th S)(w:Int){s:Int}(hs:-1≤s)(hs':s<c.S):Pw c (kd c (c.ad 1 0)) (hd w s):=by
 obtain⟨_,_,e,_⟩:=I.mq (r:=1) O_ O_ (I.kC (.inl rfl));obtain⟨h1,h2,h3⟩:=Z6 (c:=c) w s hs hs' (by have:=I.bd;omega);rw [e];exact⟨h1,h2,fun _=>O_,fun h=>absurd rfl h.1,fun h=>O_,fun h=>O_⟩
theorem nq{v:Bool}{R:Nat→Int}{bs nm pd:List Int}(I:Inv c th S):
  Part c th X v v 30 S 0 R bs [] nm pd (Tk.new.ready S) (sS c) (Fb c):=by
 unfold Tk.ready
 cases h:S.cache.getLast? with
 | none=>
  refine Part.go (cG:=nm) (cE:=pd) I (.rfl' S) (eG R 30) (cZ:=5) (e':= []) ⟨rfl,rfl,.inl ⟨rfl,rfl⟩⟩ ?_;exact(dI (cd 0)).trans<| (adP (cd 1) h l15).trans (dI (cd 4))
 | some s=>
  obtain⟨h0,h1⟩:=I.kJ s (JJ h);have hb:=I.bd;have I1:Inv c th (S.setCache S.cache.dropLast):=I.setCache fun x hx=>I.kJ x (List.dropLast_subset _ hx)
  refine Part.done (cG:=nm) (cE:=pd) (I1.shift s 2) ((Kp.setCache S _).trans (Kp.shift _ s 2)) (eD (eG R 30) (j:=30) O_ (u64 s)) ⟨rfl,?_,h1⟩ ?_
  ·show -1≤s
   omega
  ·rintro b0 q rfl
   rw [iN];exact(dI (cd 0)).trans<| (adO I (cd 1) h).trans<| (Ch I1 (cd 2) (wu s O_ O_) ⟨h0,h1⟩).trans (xA (cd 3))
theorem qG{k:Tk}{R:Nat→Int}{bs e nm pd:List Int}(I:Inv c th S)(aZ:R 47=0)(ha:sS c k S pc R e nm pd):
  Part c th X false true 30 S pc R bs e nm pd (k.step c S) (sS c) (Fb c):=by
 obtain⟨rfl,ht,ha⟩:=ha;have hb:=I.bd;have hF:=I.free;have xF:=I.kC (r:=1) (.inl rfl)
 rcases ha with ⟨hp,rfl⟩ | ⟨hp,rfl,hw,qi,h32⟩ | ⟨hp,rfl,hw,hn,qi,h32,h35⟩
 ·rw [Tk.step,aY hp]
  by_cases h:lk (S.w (c.ad 1 0))<0
  ·rw [aY h]
   refine Part.done (R':=cg (cg R 31 (S.w (c.ad 1 0))) 30 (u64 (-1))) (cG:=nm) (cE:=pd) (I.load _) (.load S _) (eD (eD (eG R 30) (j:=31) O_ _) (j:=30) O_ _) ?_ ?_
   ·refine⟨?_,?_⟩
    ·exact(show u64 (-1)=u64 (Tk.res _) by simp [Tk.res,ht])
    ·simp [Tk.res,ht];omega
   ·rintro b0 q rfl
    rw [iN];exact(r1 I (cd 5) O_ (ld aZ) xF).trans<| (xy (cd 6) (u:=S.w (c.ad 1 0)) rfl h l16).trans<| (dI (cd 15)).trans<| (yI (cd 16) rfl).trans (xA (cd 17))
  ·rw [aK h]
   refine Part.go (R':=cg (cg R 31 (S.w (c.ad 1 0))) 32 (u64 (lk (S.w (c.ad 1 0))))) (cG:=nm) (cE:=pd) (I.load _) (.load S _) (eD (eD (eG R 30) (j:=31) O_ _) (j:=32) O_ _) (cZ:=8) (e':= []) ⟨rfl,ht,.inr (.inl ⟨rfl,rfl,⟨hF.1,hF.2.1,Int.not_lt.1 h,hF.2.2⟩,rfl,rfl⟩)⟩ ?_;exact(r1 I (cd 5) O_ (ld aZ) xF).trans<| (xz (cd 6) (u:=S.w (c.ad 1 0)) rfl O_).trans (Ie (cd 7) (u:=S.w (c.ad 1 0)) rfl)
 ·rw [Tk.step,aK O_,aY hp]
  have xS:=I.iO (r:=10) (.inl rfl) hw.2.2.1 hw.2.2.2;have hn:=I.Cp (r:=10) O_ O_ D_ xS;refine Part.go (R':=cg (cg (cg R 33 (S.w (c.ad 10 (lk k.head)))) 33 (u64 (lk (S.w (c.ad 10 (lk k.head)))))) 35 (hd k.head (lk (S.w (c.ad 10 (lk k.head)))))) (cG:=nm) (cE:=pd) (I.load _) (.load S _) (eD (eD (eD (eG R 30) (j:=33) O_ _) (j:=33) O_ _) (j:=35) O_ _) (cZ:=11) (e':= []) ⟨rfl,ht,.inr (.inr ⟨rfl,rfl,hw,hn,qi,h32,rfl⟩)⟩ ?_;exact(r1 I (cd 8) O_ (wr h32 (by have:=hw.2.2.1;omega) (by have:=hw.2.2.2;omega)) xS).trans<| (Ie (cd 9) (u:=S.w (c.ad 10 (lk k.head))) rfl).trans (r22 (cd 10) qi (wu (lk (S.w (c.ad 10 (lk k.head)))) (by have:=eZ (S.w (c.ad 10 (lk k.head)));omega) (by have:=hn.2.2;omega)) ⟨eZ _,by have:=hn.2.2;omega⟩)
 ·rw [Tk.step,aK O_,aK O_]
  have I1:Inv c th (S.swap (c.ad 1 0) k.head (hd k.head (lk k.next))):=I.swap ⟨(I.mq O_ O_ xF).1,(I.mq O_ O_ xF).2.1⟩ fun _=>I.pwF _ (eZ _) hn.2.2
  by_cases h:S.w (c.ad 1 0)=k.head
  ·rw [aY h]
   refine Part.done (cG:=nm) (cE:=pd) (I1.shift _ 2) ((Kp.swap S _ _ _).trans (Kp.shift _ _ 2)) (eD (eG R 30) (j:=30) O_ (u64 (lk k.head))) ⟨rfl,?_,hw.2.2.2⟩ ?_
   ·show -1≤lk k.head
    exact eZ _
   ·rintro b0 q rfl
    rw [iN];have e1:=r3 (X:=X) (bk:=b0++ [(q:Int)]) (nm:=nm) (pd:=pd) (j:=35) I (cd 11) O_ (ld aZ) qi h35 xF l15;rw [aY h] at e1;exact e1.trans<| (wY (cd 12) h32).trans<| (Ch I1 (cd 13) (wu _ (by have:=eZ k.head;omega) (by have:=hw.2.2.2;omega)) ⟨hw.2.2.1,hw.2.2.2⟩).trans (xA (cd 14))
  ·rw [aK h]
   have e1:=r3 (X:=X) (bk:=bs++ []) (nm:=nm) (pd:=pd) (j:=35) I (cd 11) O_ (ld aZ) qi h35 xF l15;rw [aK h] at e1;exact Part.go (cG:=nm) (cE:=pd) I1 (.swap S _ _ _) (eG R 30) (cZ:=5) (e':= []) ⟨rfl,ht,.inl ⟨rfl,rfl⟩⟩ (e1.trans (dI (cd 4)))
section
variable{K:Ky}{c:Cf}{S:PM}{ss:List Sv}{w0 w w':World}{F:List En}{d:Nat}{th:Nat}
theorem uy(h:aq K c S ss w0 w F)(hd:dk K.toMk d∈F)(hu:S.used=false)(a:Int)(h0:0≤a∧a<S.words.length)(hl:S.log.length<1000000):
  cm 190 #[some d,a] w (.int .u64 (S.w a)) fun w'=>aq K c (S.load a) ss w0 w' F:=by
 obtain⟨k,rfl⟩:∃ k:Nat,a=k:=⟨a.toNat,O_⟩;exact Uo h hd hu k O_ hl
theorem Co(h:aq K c S ss w0 w F)(hd:dk K.toMk d∈F)(hu:S.used=false)(a y:Int)(h0:0≤a∧a<S.words.length)(hl:S.log.length<1000000):
  cm 209 #[some d,a,.int .u64 y] w (.tuple #[]) fun w'=>aq K c (S.store a y) ss w0 w' F:=by
 obtain⟨k,rfl⟩:∃ k:Nat,a=k:=⟨a.toNat,O_⟩;exact PB h hd hu k y O_ hl
theorem Ak(h:aq K c S ss w0 w F)(hd:dk K.toMk d∈F)(hu:S.used=false)(a o y:Int)(h0:0≤a∧a<S.words.length)(hl:S.log.length<1000000):
  cm 195 #[some d,a,.int .u64 o,.int .u64 y] w (.bool (decide (S.w a=o))) fun w'=>aq K c (S.swap a o y) ss w0 w' F:=by
 obtain⟨k,rfl⟩:∃ k:Nat,a=k:=⟨a.toNat,O_⟩;exact Un h hd hu k o y O_ hl
theorem vu(h:aq K c S ss w0 w F)(hd:dk K.toMk d∈F)(s t:Int)(hs:0≤s∧s<S.slots.length)(h0:0≤t)(h5:t≤5)(hb:S.aG.length<1000000000000):
  cm 196 #[some K.bA,some d,s,t] w (.tuple #[]) fun w'=>aq K c (S.shift s t) ss w0 w' F:=by
 obtain⟨k,rfl⟩:∃ k:Nat,s=k:=⟨s.toNat,O_⟩;exact FV h hd k t O_ h0 h5 hb
theorem BL{x:Int}(h:lk x<1024):uM x=.tuple #[.int .u32 (x / 4294967296),.int .i64 (lk x),.int .i64 0]:=by
 unfold lk at h;rw [uM,aY O_]
 rfl
theorem BJ{x:Int}(h1:x<8589934592)(h:lk x<1024):nj x=.tuple #[.int .i64 (lk x),.bool (Bn x),.int .i64 0]:=by
 unfold lk at h;rw [nj,aY ⟨h1,O_⟩]
 rfl
theorem qF(x:Int)(w:World)(h0:0≤x)(h1:x<18446744073709551616)(h:lk x<1024):cm 192 #[.int .u64 x] w (.tuple #[.int .u32 (x / 4294967296),.int .i64 (lk x),.int .i64 0]) fun w'=>w'=w:=by
 rw [←BL h];exact DP x w h0 O_
theorem jr(x:Int)(w:World)(h0:0≤x)(h1:x<8589934592)(h:lk x<1024):cm 193 #[.int .u64 x] w (.tuple #[.int .i64 (lk x),.bool (Bn x),.int .i64 0]) fun w'=>w'=w:=by
 rw [←BJ h1 h];exact uL x w h0 O_
def RR(c:Cf)(x:Tk):Prop:=x.pc=1∨(x.pc=2∧Hw c x.head)∨(x.pc=3∧Hw c x.head∧Lw c x.next)
variable{k:Nat}{x:Tk}
theorem G5(h:aq K c S ss w0 w (gr K k th x::F))(hd:dk K.toMk d∈F)(I:Inv c th S)(hu:S.used=false)(hl:S.log.length<1000000)(hp:x.pc=1):
  Bb 187 k d w (.bool (x.step c S).1) fun w'=>aq K c (x.step c S).2.2 ss w0 w' (gr K k th (x.step c S).2.1::F):=by
 obtain⟨pc,head,next,slot,taken⟩:=x;simp only at hp;subst hp;have hI:=I.bd;have xF:=I.kC (r:=1) (.inl rfl);have aF:=I.mq (r:=1) O_ O_ xF;have hF:=I.free;have ha:=jq h I.ok 1 1 0 rfl O_ O_ xF;have Hd:=aJ hd;have k0:=h.at_ (i:=0) aj rfl;have k2:=h.at_ (i:=2) aj rfl;have mH:=fun(w':World) (e:Ext w w')=>uy (h.next e) (iA _ hd) hu (c.ad 1 0) ⟨aF.1,aF.2.1⟩ hl
 have JW:=fun(w':World)=>qF (S.w (c.ad 1 0)) w' hF.1 hF.2.1 O_
 have hstep:Tk.step c ⟨1,head,next,slot,taken⟩ S=if lk (S.w (c.ad 1 0))<0 then(true,⟨0,S.w (c.ad 1 0),next,slot,taken⟩,S.load (c.ad 1 0)) else(false,⟨2,S.w (c.ad 1 0),next,slot,taken⟩,S.load (c.ad 1 0)):=rfl;rw [hstep];generalize S.w (c.ad 1 0)=v at mH JW ⊢;generalize S.load (c.ad 1 0)=S1 at mH ⊢;generalize hL:lk v=lv at JW ⊢;have HL:=aJ hL;clear hL hF hstep aF xF hI
 by_cases hn:lv<0
 case' pos=>have hdn:decide (lv<0)=true:=by simpa using hn
 case' neg=>have hdn:decide (lv<0)=false:=by simpa using hn
 all_goals
  go_enter func187,ntmps187;go_wp2_with fail;refine un ha fun w1 e1=>?_
  go_wp2_with fail;refine un (mH _ e1) fun w2 h2=>?_
  have g2:=h2.at_ (i:=2) aj rfl;have g3:=h2.at_ (i:=3) aj rfl;have f2:=h2.dW aj 2;have f3:=h2.dW aj 3;go_wp2_with fail;refine(JW _).mono ?_;rintro e w3 ⟨rfl,rfl⟩;have p1:=(h2.put 3 (.int .u64 v)).put 2 (.int .i64 2);have p2:=p1.put 2 (.int .i64 0);have q2:=p2.at_ (i:=2) aj rfl;go_wp2;go_ret
 ·exact⟨rfl,p1⟩
 ·exact⟨rfl,p2⟩
theorem G4(h:aq K c S ss w0 w (gr K k th x::F))(hd:dk K.toMk d∈F)(I:Inv c th S)(hu:S.used=false)(hl:S.log.length<1000000)(hp:x.pc=2)(hw:Hw c x.head):
  Bb 187 k d w (.bool (x.step c S).1) fun w'=>aq K c (x.step c S).2.2 ss w0 w' (gr K k th (x.step c S).2.1::F):=by
 obtain⟨pc,head,next,slot,taken⟩:=x;simp only at hp hw;subst hp;have hI:=I.bd;have xS:=I.iO (r:=10) (.inl rfl) hw.2.2.1 hw.2.2.2;have aS:=I.mq (r:=10) O_ O_ xS;have ha:=jq h I.ok 10 10 (lk head) rfl O_ O_ xS;have k0:=h.at_ (i:=0) aj rfl;have k2:=h.at_ (i:=2) aj rfl;have k3:=h.at_ (i:=3) aj rfl;have mH:=fun(w':World) (e:Ext w w')=>uy (h.next e) (iA _ hd) hu (c.ad 10 (lk head)) ⟨aS.1,aS.2.1⟩ hl
 have JW:=fun(w':World)=>qF head w' hw.1 hw.2.1 (by have:=hw.2.2.2;omega)
 have hstep:Tk.step c ⟨2,head,next,slot,taken⟩ S=(false,⟨3,head,S.w (c.ad 10 (lk head)),slot,taken⟩,S.load (c.ad 10 (lk head))):=rfl;rw [hstep];generalize S.w (c.ad 10 (lk head))=v at mH ⊢;generalize S.load (c.ad 10 (lk head))=S1 at mH ⊢;generalize c.ad 10 (lk head)=ad at ha mH;generalize lk head=lv at JW ha;clear hstep aS xS hI hw h;go_enter func187,ntmps187;go_wp2_with fail;refine(JW _).mono ?_;rintro e w3 ⟨rfl,rfl⟩;go_wp2_with fail;refine un ha fun w1 e1=>?_
 go_wp2_with fail;refine un (mH _ e1) fun w2 h2=>?_
 have g2:=h2.at_ (i:=2) aj rfl;have g4:=h2.at_ (i:=4) aj rfl;have f2:=h2.dW aj 2;have f4:=h2.dW aj 4;have p1:=(h2.put 4 (.int .u64 v)).put 2 (.int .i64 3);have q2:=p1.at_ (i:=2) aj rfl;exact GH
theorem G3(h:aq K c S ss w0 w (gr K k th x::F))(hd:dk K.toMk d∈F)(I:Inv c th S)(hu:S.used=false)(hl:S.log.length<1000000)(hb:S.aG.length<1000000000000)(hp:x.pc=3)(hw:Hw c x.head)(hn:Lw c x.next):
  Bb 187 k d w (.bool (x.step c S).1) fun w'=>aq K c (x.step c S).2.2 ss w0 w' (gr K k th (x.step c S).2.1::F):=by
 obtain⟨pc,head,next,slot,taken⟩:=x;simp only at hp hw hn;subst hp;have hI:=I.bd;have mG:=I.sl;have xF:=I.kC (r:=1) (.inl rfl);have aF:=I.mq (r:=1) O_ O_ xF;have ha:=jq h.drew I.ok 1 1 0 rfl O_ O_ xF;have k0:=h.at_ (i:=0) aj rfl;have k2:=h.at_ (i:=2) aj rfl;have k3:=h.at_ (i:=3) aj rfl;have k4:=h.at_ (i:=4) aj rfl;have gj:∀ w',Ext w w'→w'.cell? ⟨k,0,none⟩=some (some K.bA)∧w'.cell? ⟨k,3,none⟩=some (.int .u64 head):=fun w' e=>⟨(h.next e).at_ (i:=0) aj rfl,(h.next e).at_ (i:=3) aj rfl⟩
 have gC:=gj w (bu w);obtain⟨b,hbq⟩:∃ b,b=decide (S.w (c.ad 1 0)=head):=⟨_,rfl⟩;have Rx:=fun(w':World) (e:Ext w w')=>Ak (h.next e) (iA _ hd) hu (c.ad 1 0) head (Go.Proofs.YtgbhnihkgmpocaaGreat.hd head (lk next)) ⟨aF.1,aF.2.1⟩ hl
 have JW:=fun(w':World)=>qF head w' hw.1 hw.2.1 (by have:=hw.2.2.2;omega)
 have F4:=fun(w':World)=>jr next w' hn.1 hn.2.1 (by have:=hn.2.2;omega)
 have Xb:∀ w':World,Calls prog 194 #[.int .u32 ((head / 4294967296+1) % 4294967296),.int .i64 (lk next)] w' fun e w''=>e=.returned (.tuple #[.int .u64 (Go.Proofs.YtgbhnihkgmpocaaGreat.hd head (lk next)),.int .i64 0])∧w''=w':=fun(w':World)=>CD ((head / 4294967296+1) % 4294967296) (lk next) w' O_ O_ (eZ _) (by have:=hn.2.2;omega)
 rw [←hbq] at Rx;have hs3:Tk.step c ⟨3,head,next,slot,taken⟩ S=if b=true then(true,⟨0,head,next,lk head,true⟩,(S.swap (c.ad 1 0) head (Go.Proofs.YtgbhnihkgmpocaaGreat.hd head (lk next))).shift (lk head) 2) else(false,⟨1,head,next,slot,taken⟩,S.swap (c.ad 1 0) head (Go.Proofs.YtgbhnihkgmpocaaGreat.hd head (lk next))):=SX;clear hbq
 cases b
 all_goals
  have Hs:=aJ hs3;clear hs3;go_enter func187,ntmps187;go_wp2_with fail;refine(JW _).mono ?_;rintro e w ⟨rfl,rfl⟩;go_wp2_with fail;refine(F4 _).mono ?_;rintro e w ⟨rfl,rfl⟩;go_wp2_with fail;refine(Xb _).mono ?_;rintro e w ⟨rfl,rfl⟩;go_wp2
  go_region_held3 (fun w'=>w'.cell? ⟨k,0,none⟩=some (some K.bA)∧w'.cell? ⟨k,3,none⟩=some (.int .u64 head)) (first | exact gC | exact Az | exact RA) (first | ((with_reducible refine ha.mono ?_);rintro e w1 ⟨rfl,e1⟩;have e2:=Ext.next (bu w).bh e1;have Az:=gj _ e2) | ((with_reducible refine un (Rx _ (by exact e2)) fun w2 h2=>?_);have RA:w2.cell? ⟨k,0,none⟩=some (some K.bA)∧w2.cell? ⟨k,3,none⟩=some (.int .u64 head):=⟨h2.at_ (i:=0) aj rfl,h2.at_ (i:=3) aj rfl⟩))
 ·have g2:=h2.at_ (i:=2) aj rfl
  have f2:=h2.dW aj 2;have p1:=h2.put 2 (.int .i64 1);have q2:=p1.at_ (i:=2) aj rfl;go_wp2;go_ret;rw [Hs.out];exact⟨rfl,p1⟩
 ·have Vj:=Gl h2 hd (lk head).toNat (by show(lk head).toNat<S.slots.length;have:=hw.2.2;omega) hb
  rw [Int.toNat_of_nonneg hw.2.2.1] at Vj;have Hg:=aJ Vj;clear Vj;go_wp2_with fail;refine un Hg.out fun w4 h4=>?_
  go_wp2;go_ret;rw [Hs.out];exact⟨rfl,h4⟩
theorem iI(h:aq K c S ss w0 w (gr K k th x::F))(hd:dk K.toMk d∈F)(I:Inv c th S)(hu:S.used=false)(hl:S.log.length<1000000)(hb:S.aG.length<1000000000000)(hx:RR c x):
  Bb 187 k d w (.bool (x.step c S).1) fun w'=>aq K c (x.step c S).2.2 ss w0 w' (gr K k th (x.step c S).2.1::F):=by
 rcases hx with hp | ⟨hp,hw⟩ | ⟨hp,hw,hn⟩
 ·exact G5 h hd I hu hl hp
 ·exact G4 h hd I hu hl hp hw
 ·exact G3 h hd I hu hl hb hp hw hn
end
def EC(c:Cf)(p:Pu)(pc:Nat)(R:Nat→Int):Prop:=
 0≤p.slot∧p.slot<c.S∧R 34=u64 p.slot∧((p.pc=1∧pc=23)∨(p.pc=2∧pc=26∧Fw c p.head∧R 31=p.head∧R 33=pk (lk p.head))∨(p.pc=3∧pc=28∧Fw c p.head∧R 31=p.head∧R 35=hd p.head p.slot))
variable{p:Pu}
theorem gi_step{R:Nat→Int}{bk nm pd:List Int}(I:Inv c th S)(aZ:R 47=0)(ha:EC c p pc R):
  Inv c th (p.step c S).2.2∧Kp S (p.step c S).2.2∧(p.step c S).2.2.cache=S.cache∧(p.step c S).2.1.slot=p.slot∧∃ (R':Nat→Int),(∀ i,i<30∨35<i→R' i=R i)∧
   (((p.step c S).1=false∧∃ cZ,EC c (p.step c S).2.1 cZ R'∧Rn c th (St false S X pc R bk nm pd) (St true (p.step c S).2.2 X cZ R' bk nm pd))∨
    ((p.step c S).1=true∧Rn c th (St false S X pc R bk nm pd) (St true (p.step c S).2.2 X 30 R' bk nm pd))):=by
 obtain⟨h0,h1,AB,ha⟩:=ha;have hb:=I.bd;have hF:=I.free;have xF:=I.kC (r:=1) (.inl rfl)
 rcases ha with ⟨hp,rfl⟩ | ⟨hp,rfl,hfw,qi,h33⟩ | ⟨hp,rfl,hfw,qi,h35⟩
 ·rw [Pu.step,aY hp]
  refine⟨I.load _,.load S _,rfl,rfl,cg (cg (cg R 31 (S.w (c.ad 1 0))) 32 (u64 (lk (S.w (c.ad 1 0))))) 33 (pk (lk (S.w (c.ad 1 0)))),eD (eD (eD (eG R 30) (j:=31) O_ _) (j:=32) O_ _) (j:=33) O_ _,.inl ⟨rfl,26,⟨h0,h1,AB,.inr (.inl ⟨rfl,rfl,hF,rfl,rfl⟩)⟩,?_⟩⟩;exact(r1 I (cd 23) O_ (ld aZ) xF).trans<| (Ie (cd 24) (u:=S.w (c.ad 1 0)) rfl).trans (TR (cd 25) (u:=lk (S.w (c.ad 1 0))) (wr (j:=32) rfl (eZ _) O_) ⟨eZ _,O_⟩)
 ·rw [Pu.step,aK O_,aY hp]
  have hl:=hfw.2.2;have xS:=I.iO (r:=10) (.inl rfl) h0 h1;obtain⟨a1,a2,ak,_⟩:=I.mq O_ O_ xS;obtain⟨b1,b2,b3⟩:=FL (eZ p.head) O_;have I1:Inv c th (S.store (c.ad 10 p.slot) (pk (lk p.head))):=I.store ⟨a1,a2⟩ (by rw [ak];exact⟨b1,O_,fun h=>O_,fun _=>⟨b2,O_⟩,fun h=>O_,fun h=>O_⟩);refine⟨I1,.store S _ _,rfl,rfl,cg R 35 (hd p.head p.slot),eD (eG R 30) (j:=35) O_ _,.inl ⟨rfl,28,⟨h0,h1,AB,.inr (.inr ⟨rfl,rfl,hfw,qi,rfl⟩)⟩,?_⟩⟩;exact(r2 I (cd 26) O_ (wr AB O_ O_) h33 xS).trans (r22 (cd 27) qi (wr AB O_ O_) ⟨O_,O_⟩)
 ·rw [Pu.step,aK O_,aK O_]
  have I1:Inv c th (S.swap (c.ad 1 0) p.head (hd p.head p.slot)):=I.swap ⟨(I.mq O_ O_ xF).1,(I.mq O_ O_ xF).2.1⟩ fun _=>I.pwF _ O_ h1
  have e1:=r3 (X:=X) (bk:=bk) (nm:=nm) (pd:=pd) (j:=35) I (cd 28) O_ (ld aZ) qi h35 xF l17
  by_cases h:S.w (c.ad 1 0)=p.head
  ·rw [aY h] at e1
   rw [aY h];exact⟨I1.shift _ 0,(Kp.swap S _ _ _).trans (Kp.shift _ _ 0),rfl,rfl,R,eG R 30,.inr ⟨rfl,e1.trans (Ch I1 (cd 29) (wr AB O_ O_) ⟨h0,h1⟩)⟩⟩
  ·rw [aK h] at e1
   rw [aK h];exact⟨I1,.swap S _ _ _,rfl,rfl,R,eG R 30,.inl ⟨rfl,23,⟨h0,h1,AB,.inl ⟨rfl,rfl⟩⟩,e1.trans (dI (cd 22))⟩⟩
def IZ(c:Cf)(p:Pu)(pc:Nat)(R:Nat→Int):Prop:=
 0≤p.slot∧p.slot<c.S∧R 34=u64 p.slot∧((p.pc=1∧pc=34)∨(p.pc=2∧pc=37∧Fw c p.head∧R 31=p.head∧R 33=pk (lk p.head))∨(p.pc=3∧pc=39∧Fw c p.head∧R 31=p.head∧R 35=hd p.head p.slot))
theorem Mq{R:Nat→Int}{bk nm pd:List Int}(I:Inv c th S)(aZ:R 47=0)(ha:IZ c p pc R):
  Inv c th (p.step c S).2.2∧Kp S (p.step c S).2.2∧(p.step c S).2.2.cache=S.cache∧(p.step c S).2.1.slot=p.slot∧∃ (R':Nat→Int),(∀ i,i<30∨35<i→R' i=R i)∧
   (((p.step c S).1=false∧∃ cZ,IZ c (p.step c S).2.1 cZ R'∧Rn c th (St false S X pc R bk nm pd) (St true (p.step c S).2.2 X cZ R' bk nm pd))∨
    ((p.step c S).1=true∧Rn c th (St false S X pc R bk nm pd) (St true (p.step c S).2.2 X 41 R' bk nm pd))):=by
 obtain⟨h0,h1,AB,ha⟩:=ha;have hb:=I.bd;have hF:=I.free;have xF:=I.kC (r:=1) (.inl rfl)
 rcases ha with ⟨hp,rfl⟩ | ⟨hp,rfl,hfw,qi,h33⟩ | ⟨hp,rfl,hfw,qi,h35⟩
 ·rw [Pu.step,aY hp]
  refine⟨I.load _,.load S _,rfl,rfl,cg (cg (cg R 31 (S.w (c.ad 1 0))) 32 (u64 (lk (S.w (c.ad 1 0))))) 33 (pk (lk (S.w (c.ad 1 0)))),eD (eD (eD (eG R 30) (j:=31) O_ _) (j:=32) O_ _) (j:=33) O_ _,.inl ⟨rfl,37,⟨h0,h1,AB,.inr (.inl ⟨rfl,rfl,hF,rfl,rfl⟩)⟩,?_⟩⟩;exact(r1 I (cd 34) O_ (ld aZ) xF).trans<| (Ie (cd 35) (u:=S.w (c.ad 1 0)) rfl).trans (TR (cd 36) (u:=lk (S.w (c.ad 1 0))) (wr (j:=32) rfl (eZ _) O_) ⟨eZ _,O_⟩)
 ·rw [Pu.step,aK O_,aY hp]
  have hl:=hfw.2.2;have xS:=I.iO (r:=10) (.inl rfl) h0 h1;obtain⟨a1,a2,ak,_⟩:=I.mq O_ O_ xS;obtain⟨b1,b2,b3⟩:=FL (eZ p.head) O_;have I1:Inv c th (S.store (c.ad 10 p.slot) (pk (lk p.head))):=I.store ⟨a1,a2⟩ (by rw [ak];exact⟨b1,O_,fun h=>O_,fun _=>⟨b2,O_⟩,fun h=>O_,fun h=>O_⟩);refine⟨I1,.store S _ _,rfl,rfl,cg R 35 (hd p.head p.slot),eD (eG R 30) (j:=35) O_ _,.inl ⟨rfl,39,⟨h0,h1,AB,.inr (.inr ⟨rfl,rfl,hfw,qi,rfl⟩)⟩,?_⟩⟩;exact(r2 I (cd 37) O_ (wr AB O_ O_) h33 xS).trans (r22 (cd 38) qi (wr AB O_ O_) ⟨O_,O_⟩)
 ·rw [Pu.step,aK O_,aK O_]
  have I1:Inv c th (S.swap (c.ad 1 0) p.head (hd p.head p.slot)):=I.swap ⟨(I.mq O_ O_ xF).1,(I.mq O_ O_ xF).2.1⟩ fun _=>I.pwF _ O_ h1
  have e1:=r3 (X:=X) (bk:=bk) (nm:=nm) (pd:=pd) (j:=35) I (cd 39) O_ (ld aZ) qi h35 xF l18
  by_cases h:S.w (c.ad 1 0)=p.head
  ·rw [aY h] at e1
   rw [aY h];exact⟨I1.shift _ 0,(Kp.swap S _ _ _).trans (Kp.shift _ _ 0),rfl,rfl,R,eG R 30,.inr ⟨rfl,e1.trans (Ch I1 (cd 40) (wr AB O_ O_) ⟨h0,h1⟩)⟩⟩
  ·rw [aK h] at e1
   rw [aK h];exact⟨I1,.swap S _ _ _,rfl,rfl,R,eG R 30,.inl ⟨rfl,34,⟨h0,h1,AB,.inl ⟨rfl,rfl⟩⟩,e1.trans (dI (cd 33))⟩⟩
def JB(c:Cf)(p:Pu)(_:PM)(pc:Nat)(R:Nat→Int)(e _ _:List Int):Prop:=e= []∧EC c p pc R
def QU(_:Pu)(_:Nat→Int):Prop:=True
theorem vg{v:Bool}{R:Nat→Int}{bs nm pd:List Int}{s:Int}(I:Inv c th S)(h0:0≤s)(h1:s<c.S)(AB:R 34=u64 s):
  Part c th X v v 30 S 18 R bs [] nm pd ((Pu.aU s).ready c S) (JB c) QU:=by
 have hb:=I.bd;unfold Pu.ready
 by_cases h:c.Ca≤S.cache.length
 ·rw [aY h]
  exact Part.go (cG:=nm) (cE:=pd) I (.rfl' S) (eG R 30) (cZ:=23) (e':= []) ⟨rfl,h0,h1,AB,.inl ⟨rfl,rfl⟩⟩ ((dI (cd 18)).trans<| (X4 (cd 19) h l17).trans (dI (cd 22)))
 ·rw [aK h]
  have I1:Inv c th (S.setCache (S.cache++ [s])):=I.setCache fun x hx=>by
   rcases Bh.1 hx with hx | hx
   ·exact I.kJ x hx
   ·rw [Bi.1 hx];exact⟨h0,h1⟩
  refine Part.done (cG:=nm) (cE:=pd) (I1.shift s 1) ((Kp.setCache S _).trans (Kp.shift _ s 1)) (eG R 30) trivial ?_;rintro b0 q rfl;rw [iN];exact(dI (cd 18)).trans<| (X5 I (cd 19) h (wr AB O_ O_)).trans<| (Ch I1 (cd 20) (wr AB O_ O_) ⟨h0,h1⟩).trans (xA (cd 21))
theorem FJ{R:Nat→Int}{bs e nm pd:List Int}(I:Inv c th S)(aZ:R 47=0)(ha:JB c p S pc R e nm pd):
  Part c th X false true 30 S pc R bs e nm pd (p.step c S) (JB c) QU:=by
 obtain⟨rfl,ha⟩:=ha;obtain⟨I1,K1,_,_,R',hR,h⟩:=gi_step (X:=X) (bk:=bs++ []) (nm:=nm) (pd:=pd) I aZ ha;refine⟨I1,K1,R',nm,pd,hR,?_⟩
 rcases h with ⟨hb,cZ,h1,h2⟩ | ⟨hb,h2⟩
 ·exact .inl ⟨hb,cZ,[],⟨rfl,h1⟩,h2⟩
 ·refine .inr ⟨hb,trivial,?_⟩
  rintro b0 q rfl;rw [iN] at h2 ⊢;exact h2.trans (xA (cd 30))
def JD(c:Cf)(p:Pu)(S:PM)(pc:Nat)(R:Nat→Int)(e _ _:List Int):Prop:=e= []∧S.cache.getLast?=some p.slot∧IZ c p pc R
theorem vP{v:Bool}{R:Nat→Int}{bs nm pd:List Int}(p:Pu)(I:Inv c th S):
  Part c th X v v 30 S 31 R bs [] nm pd (p.dU S) (JD c) QU:=by
 have hb:=I.bd;unfold Pu.dU
 cases h:S.cache.getLast? with
 | none=>
  refine Part.done (cG:=nm) (cE:=pd) I (.rfl' S) (eG R 30) trivial ?_;rintro b0 q rfl;rw [iN];exact(dI (cd 31)).trans<| (adN (cd 32) h l19).trans<| (dI (cd 43)).trans (xA (cd 44))
 | some s=>
  obtain⟨h0,h1⟩:=I.kJ s (JJ h);exact Part.go (R':=cg R 34 (u64 s)) (cG:=nm) (cE:=pd) I (.rfl' S) (eD (eG R 30) (j:=34) O_ _) (cZ:=34) (e':= []) ⟨rfl,h,h0,h1,rfl,.inl ⟨rfl,rfl⟩⟩ ((dI (cd 31)).trans<| (adM (cd 32) h).trans (dI (cd 33)))
theorem Gm{R:Nat→Int}{bs e nm pd:List Int}(I:Inv c th S)(aZ:R 47=0)(ha:JD c p S pc R e nm pd):
  Part c th X false true 30 S pc R bs e nm pd (p.iW c S) (JD c) QU:=by
 obtain⟨rfl,hl,ha⟩:=ha;have hne:S.cache≠ []:=by rintro h;rw [h] at hl;cases hl
 obtain⟨I1,K1,hc,hs,R',hR,h⟩:=Mq (X:=X) (bk:=bs++ []) (nm:=nm) (pd:=pd) I aZ ha;unfold Pu.iW;generalize p.step c S=r at I1 K1 hc hs h;obtain⟨b,p1,S1⟩:=r;simp only at I1 K1 hc hs h
 rcases h with ⟨rfl,cZ,h1,h2⟩ | ⟨rfl,h2⟩
 ·exact Part.go (cG:=nm) (cE:=pd) I1 K1 hR (cZ:=cZ) (e':= []) ⟨rfl,by rw [hc,hs];exact hl,h1⟩ h2
 ·have I2:Inv c th (S1.setCache S1.cache.dropLast):=I1.setCache fun x hx=>I1.kJ x (List.dropLast_subset _ hx)
  have h3:=h2.trans<| (WN I1 (cd 41) (by rw [hc];exact hne)).trans (tO (cd 42) l12)
  obtain⟨I3,K3,R3,nm3,pd3,hR3,h⟩:=vP (X:=X) (v:=true) (R:=R') (bs:=bs) (nm:=nm) (pd:=pd) p1 I2;refine⟨I3,(K1.trans (Kp.setCache S1 _)).trans K3,R3,nm3,pd3,Cw hR hR3 (bZ _),?_⟩
  rcases h with ⟨hb,cZ,e',h1,h4⟩ | ⟨hb,h1,h4⟩
  ·exact .inl ⟨hb,cZ,e',h1,h3.trans h4⟩
  ·exact .inr ⟨hb,h1,fun b0 q hq=>h3.trans (h4 b0 q hq)⟩
section
variable{K:Ky}{c:Cf}{S:PM}{ss:List Sv}{w0 w w':World}{F:List En}{d:Nat}{th:Nat}
@[reducible] def nC(K:Ky)(k:Nat)(t:TypeId)(th:Int)(p:Pu):En:=ob k t [some K.bA,p.slot,p.pc,.int .u64 p.head,th]
def Tn(c:Cf)(p:Pu):Prop:=0≤p.slot∧p.slot<c.S∧(p.pc=1∨(p.pc=2∧Fw c p.head)∨(p.pc=3∧Fw c p.head))
theorem tA(s:Int)(w:World)(h0:-1≤s)(h1:s<1024):cm 199 #[s,false] w (.tuple #[.int .u64 (pk s),.int .i64 0]) fun w'=>w'=w:=lD s false w h0 h1
theorem Z4(x s:Int)(w:World)(h0:-1≤s)(h1:s<1024):cm 194 #[.int .u32 ((x / 4294967296+1) % 4294967296),s] w (.tuple #[.int .u64 (Go.Proofs.YtgbhnihkgmpocaaGreat.hd x s),.int .i64 0]) fun w'=>w'=w:=
 CD ((x / 4294967296+1) % 4294967296) s w O_ O_ h0 h1
variable{k:Nat}{t:TypeId}{p:Pu}
theorem Yd(h:aq K c S ss w0 w (nC K k t th p::F))(hd:dk K.toMk d∈F)(I:Inv c th S)(hu:S.used=false)(hl:S.log.length<1000000)(hp:p.pc=1):
  Bb 208 k d w (.bool (p.step c S).1) fun w'=>aq K c (p.step c S).2.2 ss w0 w' (nC K k t th (p.step c S).2.1::F):=by
 obtain⟨slot,pc,head⟩:=p;simp only at hp;subst hp;have xF:=I.kC (r:=1) (.inl rfl);have aF:=I.mq (r:=1) O_ O_ xF;have ha:=jq h I.ok 1 1 0 rfl O_ O_ xF;have k0:=h.at_ (i:=0) aj rfl;have k2:=fun(w':World) (e:Ext w w')=>(h.next e).at_ (i:=2) aj rfl
 have mH:=fun(w':World) (e:Ext w w')=>uy (h.next e) (iA _ hd) hu (c.ad 1 0) ⟨aF.1,aF.2.1⟩ hl
 have hs:Pu.step c ⟨slot,1,head⟩ S=(false,⟨slot,2,S.w (c.ad 1 0)⟩,S.load (c.ad 1 0)):=rfl;rw [hs];generalize S.w (c.ad 1 0)=v at mH ⊢;generalize S.load (c.ad 1 0)=S1 at mH ⊢;clear hs;go_enter func208,ntmps208;go_wp2_with fail;refine un ha fun w1 e1=>?_
 have k2':=k2 _ e1;go_wp2_with fail;refine un (mH _ e1) fun w2 h2=>?_
 have g2:=h2.at_ (i:=2) aj rfl;have g3:=h2.at_ (i:=3) aj rfl;have f2:=h2.dW aj 2;have f3:=h2.dW aj 3;have p1:=(h2.put 3 (.int .u64 v)).put 2 (.int .i64 2);exact GH
theorem Yc(h:aq K c S ss w0 w (nC K k t th p::F))(hd:dk K.toMk d∈F)(I:Inv c th S)(hu:S.used=false)(hl:S.log.length<1000000)(hp:p.pc=2)(h0:0≤p.slot)(h1:p.slot<c.S)(hw:Fw c p.head):
  Bb 208 k d w (.bool (p.step c S).1) fun w'=>aq K c (p.step c S).2.2 ss w0 w' (nC K k t th (p.step c S).2.1::F):=by
 obtain⟨slot,pc,head⟩:=p;simp only at hp h0 h1 hw;subst hp;have hI:=I.bd;have xF:=I.kC (r:=1) (.inl rfl);have xS:=I.iO (r:=10) (.inl rfl) h0 h1;have aS:=I.mq (r:=10) O_ O_ xS;have ha:=jq h I.ok 1 1 0 rfl O_ O_ xF;have ha2:=fun(w':World) (e:Ext w w')=>jq (h.next e) I.ok 10 10 slot rfl O_ O_ xS
 have k0:=h.at_ (i:=0) aj rfl;have kE:=fun(w':World) (e:Ext w w')=>(h.next e).at_ (i:=2) aj rfl
 have kE3:=fun(w':World) (e:Ext w w')=>(h.next e).at_ (i:=3) aj rfl
 have gj:∀ w',Ext w w'→w'.cell? ⟨k,0,none⟩=some (some K.bA)∧w'.cell? ⟨k,1,none⟩=some (.int .i64 slot):=fun w' e=>⟨(h.next e).at_ (i:=0) aj rfl,(h.next e).at_ (i:=1) aj rfl⟩
 have hst:=fun(w':World) (e:Ext w w')=>Co (h.next e) (iA _ hd) hu (c.ad 10 slot) (pk (lk head)) ⟨aS.1,aS.2.1⟩ hl
 have JW:=fun(w':World)=>qF head w' hw.1 hw.2.1 (by have:=hw.2.2;omega)
 have hlk:=fun(w':World)=>tA (lk head) w' (eZ _) (by have:=hw.2.2;omega)
 have hs:Pu.step c ⟨slot,2,head⟩ S=(false,⟨slot,3,head⟩,S.store (c.ad 10 slot) (pk (lk head))):=rfl;rw [hs];clear hs;go_enter func208,ntmps208;go_wp2_with fail;refine un ha fun w1 e1=>?_
 have k2:=kE _ e1;have k3:=kE3 _ e1;go_wp2_with fail;refine(JW _).mono ?_;rintro e w1 ⟨rfl,rfl⟩;go_wp2_with fail;refine(hlk _).mono ?_;rintro e w1 ⟨rfl,rfl⟩;have ha3:=ha2 _ (Ext.next e1 (bu w1).bh);have gC:=gj _ e1;go_wp2
 go_region_held3 (fun w'=>w'.cell? ⟨k,0,none⟩=some (some K.bA)∧w'.cell? ⟨k,1,none⟩=some (.int .i64 slot)) (first | exact gC | exact Az | exact RA) (first | ((with_reducible refine ha3.mono ?_);rintro e w3 ⟨rfl,e3⟩;have e4:=Ext.next (Ext.next e1 (bu w1).bh) e3;have Az:=gj _ e4) | ((with_reducible refine un (hst _ (by exact e4)) fun w2 h2=>?_);have RA:w2.cell? ⟨k,0,none⟩=some (some K.bA)∧w2.cell? ⟨k,1,none⟩=some (.int .i64 slot):=⟨h2.at_ (i:=0) aj rfl,h2.at_ (i:=1) aj rfl⟩))
 have g2:=h2.at_ (i:=2) aj rfl;have f2:=h2.dW aj 2;have p1:=h2.put 2 (.int .i64 3);exact GH
theorem Yb(h:aq K c S ss w0 w (nC K k t th p::F))(hd:dk K.toMk d∈F)(I:Inv c th S)(hu:S.used=false)(hl:S.log.length<1000000)(hb:S.aG.length<1000000000000)(hp:p.pc=3)(h0:0≤p.slot)(h1:p.slot<c.S)(hw:Fw c p.head):
  Bb 208 k d w (.bool (p.step c S).1) fun w'=>aq K c (p.step c S).2.2 ss w0 w' (nC K k t th (p.step c S).2.1::F):=by
 obtain⟨slot,pc,head⟩:=p;simp only at hp h0 h1 hw;subst hp;have hI:=I.bd;have mG:=I.sl;have xF:=I.kC (r:=1) (.inl rfl);have aF:=I.mq (r:=1) O_ O_ xF;have ha:=jq h I.ok 1 1 0 rfl O_ O_ xF;have k0:=h.at_ (i:=0) aj rfl;have kE:=fun(w':World) (e:Ext w w')=>(h.next e).at_ (i:=2) aj rfl
 have kE1:=fun(w':World) (e:Ext w w')=>(h.next e).at_ (i:=1) aj rfl
 have kE3:=fun(w':World) (e:Ext w w')=>(h.next e).at_ (i:=3) aj rfl
 obtain⟨b,hbq⟩:∃ b,b=decide (S.w (c.ad 1 0)=head):=⟨_,rfl⟩;have hsw:=fun(w':World) (e:Ext w w')=>Ak (h.next e) (iA _ hd) hu (c.ad 1 0) head (Go.Proofs.YtgbhnihkgmpocaaGreat.hd head slot) ⟨aF.1,aF.2.1⟩ hl
 have JW:=fun(w':World)=>qF head w' hw.1 hw.2.1 (by have:=hw.2.2;omega)
 have Xb:=fun(w':World)=>Z4 head slot w' O_ O_
 rw [←hbq] at hsw;have hs:Pu.step c ⟨slot,3,head⟩ S=if b=true then(true,⟨slot,0,head⟩,(S.swap (c.ad 1 0) head (Go.Proofs.YtgbhnihkgmpocaaGreat.hd head slot)).shift slot 0) else(false,⟨slot,1,head⟩,S.swap (c.ad 1 0) head (Go.Proofs.YtgbhnihkgmpocaaGreat.hd head slot)):=SX;clear hbq
 cases b
 all_goals
  have Hs:=aJ hs;clear hs;go_enter func208,ntmps208;go_wp2_with fail;refine un ha fun w1 e1=>?_
  have k2:=kE _ e1;have k3:=kE3 _ e1;have k1:=kE1 _ e1;go_wp2_with fail;refine(JW _).mono ?_;rintro e w1 ⟨rfl,rfl⟩;go_wp2_with fail;refine(Xb _).mono ?_;rintro e w1 ⟨rfl,rfl⟩;go_wp2_with fail;refine un (hsw _ e1) fun w2 h2=>?_
  have g2:=h2.at_ (i:=2) aj rfl;have f2:=h2.dW aj 2
 ·have p1:=h2.put 2 (.int .i64 1)
  go_wp2;go_ret;rw [Hs.out];exact⟨rfl,p1⟩
 ·have p1:=h2.put 2 (.int .i64 0)
  go_wp2_with fail;generalize w2.setCell ⟨k,2,none⟩ (.int .i64 0)=w4 at p1 ⊢;have hsh:=vu p1.drew (iA _ hd) slot 0 ⟨h0,by show slot<S.slots.length;omega⟩ O_ O_ hb;have gC:w4.cell? ⟨k,0,none⟩=some (some K.bA)∧w4.cell? ⟨k,1,none⟩=some (.int .i64 slot):=⟨p1.at_ (i:=0) aj rfl,p1.at_ (i:=1) aj rfl⟩
  go_region_held3 (fun w'=>w'.cell? ⟨k,0,none⟩=some (some K.bA)∧w'.cell? ⟨k,1,none⟩=some (.int .i64 slot)) (first | exact gC | exact Az) (first | ((with_reducible refine hsh.mono ?_);rintro e w3 ⟨rfl,h3⟩;have Az:w3.cell? ⟨k,0,none⟩=some (some K.bA)∧w3.cell? ⟨k,1,none⟩=some (.int .i64 slot):=⟨h3.at_ (i:=0) aj rfl,h3.at_ (i:=1) aj rfl⟩))
  go_wp2;go_ret;rw [Hs.out];exact⟨rfl,h3⟩
theorem Ci(h:aq K c S ss w0 w (nC K k t th p::F))(hd:dk K.toMk d∈F)(I:Inv c th S)(hu:S.used=false)(hl:S.log.length<1000000)(hb:S.aG.length<1000000000000)(hp:Tn c p):
  Bb 208 k d w (.bool (p.step c S).1) fun w'=>aq K c (p.step c S).2.2 ss w0 w' (nC K k t th (p.step c S).2.1::F):=by
 obtain⟨h0,h1,hp | ⟨hp,hw⟩ | ⟨hp,hw⟩⟩:=hp
 ·exact Yd h hd I hu hl hp
 ·exact Yc h hd I hu hl hp h0 h1 hw
 ·exact Yb h hd I hu hl hb hp h0 h1 hw
theorem CL(h:aq K c S ss w0 w F)(t s:Int)(h0:0≤s)(h1:s<S.slots.length)(ht:0≤t)(iV:t<S.aO.length):
  Calls prog 72 #[some K.bA,t,s] w fun e w'=>∃ k,e=.returned (some k)∧w.heap.size≤k∧aq K c S ss w0 w' (nC K k 267 t (.aU s)::F):=by
 have h2:=h.alloc #[some K.bA,s,.int .i64 1,.int .u64 0,t] 267;have ha:=Dg h2 s h0 h1;have hb:=nN h2 t ht iV;exact Tg
theorem lZ(h:aq K c S ss w0 w (nC K k 267 th p::F))(hd:dk K.toMk d∈F)(I:Inv c th S)(hu:S.used=false)(hl:S.log.length<1000000)(hb:S.aG.length<1000000000000)(hp:Tn c p):
  Bb 207 k d w (.bool (p.step c S).1) fun w'=>aq K c (p.step c S).2.2 ss w0 w' (nC K k 267 th (p.step c S).2.1::F):=by
 have hx0:(p.pc==0)=false:=by rw [gp];obtain⟨_,_,h | ⟨h,_⟩ | ⟨h,_⟩⟩:=hp<;>omega
 have k2:=h.at_ (i:=2) aj rfl;have hm:=Ci h hd I hu hl hb hp;generalize p.step c S=r at hm ⊢;go_enter func207,ntmps207;exact Nx
end
section
variable{K:Ky}{c:Cf}{S:PM}{ss:List Sv}{w0 w w':World}{F:List En}{d:Nat}
variable{k:Nat}{p:Pu}
theorem kX(h:aq K c S ss w0 w (nC K k 267 S.th p::F))(hd:dk K.toMk d∈F)(hp:p.pc≠0)(h0:0≤p.slot∧p.slot<S.slots.length)(ht:S.th<S.aO.length)(hcb:S.cache.length<100000)(hb:S.aG.length<1000000000000):
  Bb 206 k d w (.bool (p.ready c S).1) fun w'=>aq K c (p.ready c S).2.2 ss w0 w' (nC K k 267 S.th (p.ready c S).2.1::F):=by
 obtain⟨slot,pc,head⟩:=p;simp only at hp h0;obtain⟨cv,A,cc,A1,A2,A3,LY,fQ,CF,hF3,Ml,hH,hback⟩:=h.oC ht;have hx0:(pc==0)=false:=by rw [gp];exact hp
 have hk2:=h.at_ (i:=2) aj rfl;have gC:=h.cell (i:=0) aj rfl;have vI:=h.cell (i:=1) aj rfl;have Bz:=h.cell (i:=4) aj rfl
 have hb8:∀ z:aL w,z.world.cell? ⟨K.bA,8,none⟩=some (.slice (some ⟨K.ga,0,none⟩) S.aO.length K.ca)∧z.world.cell? ⟨K.bA,4,none⟩=some (.int .i64 c.Ca):=fun z=>by
  obtain⟨V7,e,ha⟩:=h.ar;have h8:=(ha z).2.2.2.2.2.2.2.2;have h4:=(ha z).2.2.2.2.1;rw [e] at h8;exact⟨h8,h4⟩
 have aab:=fun z=>(hb8 z).1
 have aft:=fun z=>(hb8 z).2
 have hgt:∀ z:aL w,z.world.cell? ⟨K.ga,S.th,none⟩=some (.slice A S.cache.length cc):=hH.ny (i:=S.th) (ew _ (gq ..)) CF
 by_cases hfull:c.Ca≤S.cache.length
 ·have hdf:decide (c.Ca≤(S.cache.length:Int))=true:=by simpa using hfull
  have hr:Pu.ready c ⟨slot,pc,head⟩ S=(false,⟨slot,pc,head⟩,S):=aY hfull;rw [hr];have Hh:=aJ h;clear hH hback hr h hfull;go_enter func206,ntmps206;go_wp2_with fail;refine qE fun k1=>?_
  go_wp2;go_ret;exact⟨rfl,Hh.out.iD k1⟩
 ·have hdf:decide (c.Ca≤(S.cache.length:Int))=false:=by simpa using hfull
  have hr:Pu.ready c ⟨slot,pc,head⟩ S=(true,⟨slot,0,head⟩,(S.setCache (S.cache++ [slot])).shift slot 1):=aK hfull;rw [hr];have HH:=aJ hH;have NY:=aJ hback;have agu:=aJ CF;clear hH hback hr hfull;go_enter func206,ntmps206;go_wp2_with fail;refine qE fun k1=>?_
  go_wp2_with fail
  have HH1:Hid (Has w0 k1.world ((A1++dA K.ga K.ca 40 1 cv.length cv::A2)++.row (.slice A S.cache.length cc) 3 1 S.cache.length (S.cache.map (Value.int .i64))::A3)):=aJ (by
   have:=HH.out.iD k1
   rwa [dH,kY])
  have Hcv:Hid (cv[S.th]?=some (.slice A S.cache.length cc)):=agu;have hown:=HH1.out.own _ (ew _ (gq ..));have dF:∀ w',Ext k1.world w'→w'.ownsRow w0.heap.size 3 1 (.slice A S.cache.length cc) S.cache.length (S.cache.map (Value.int .i64)):=fun w' e=>dB hown e
  have gN:∀ w',Ext (k1.world.alloc (.cells #[slot] 3)) w'→Rd w' (some ⟨k1.world.heap.size,0,none⟩) [slot]:=fun w' e=>(Rd.made k1.world [slot] 3).ext e
  have hone:∀ u∈([slot]:List Value),u.oneCell'=true:=by intro u hu;simp at hu;rw [hu];rfl
  have hsz:=HH1.out.ext.size
  have gj:∀ w',Ext k1.world w'→w'.cell? ⟨k,0,none⟩=some (some K.bA)∧w'.cell? ⟨k,1,none⟩=some (.int .i64 slot)∧w'.cell? ⟨k,4,none⟩=some (.int .i64 S.th)∧w'.cell? ⟨K.bA,8,none⟩=some (.slice (some ⟨K.ga,0,none⟩) S.aO.length K.ca):=fun w' e=>by
   have e':Ext w w':=Ext.next k1.ok e;exact⟨gC ⟨w',e'⟩,vI ⟨w',e'⟩,Bz ⟨w',e'⟩,aab ⟨w',e'⟩⟩
  have Hk:Hid (∀ (w':World) (v:Value) (us:List Value),Has w0 w' ((A1++dA K.ga K.ca 40 1 cv.length cv::A2)++.row v 3 1 (S.cache.length+1) us::A3)→w'.cell? ⟨k,0,none⟩=some (some K.bA)∧w'.cell? ⟨k,1,none⟩=some (.int .i64 slot)∧w'.cell? ⟨k,4,none⟩=some (.int .i64 S.th)∧w'.cell? ⟨K.bA,8,none⟩=some (.slice (some ⟨K.ga,0,none⟩) S.aO.length K.ca)):=aJ (fun w' v us h'=>by
   have hm:=hF3 _ (gq ..);have m3:=fun x (hx:x∈A3)=>ew (A1++dA K.ga K.ca 40 1 cv.length cv::A2) (iA (.row v 3 1 (S.cache.length+1) us) hx)
   exact⟨h'.at_ (i:=0) (m3 _ hm) rfl,h'.at_ (i:=1) (m3 _ hm) rfl,h'.at_ (i:=4) (m3 _ hm) rfl,h'.at_ (i:=8) (yt _ (yt _ Ml)) rfl⟩)
  have Hk2:Hid (∀ (w':World) (v:Value) (us V7:List Value),Has w0 w' (A1++dA K.ga K.ca 40 1 cv.length V7::(A2++.row v 3 1 (S.cache.length+1) us::A3))→w'.cell? ⟨k,0,none⟩=some (some K.bA)∧w'.cell? ⟨k,1,none⟩=some (.int .i64 slot)∧w'.cell? ⟨k,4,none⟩=some (.int .i64 S.th)∧w'.cell? ⟨K.bA,8,none⟩=some (.slice (some ⟨K.ga,0,none⟩) S.aO.length K.ca)):=aJ (fun w' v us V7 h'=>by
   have hm:=hF3 _ (gq ..);have m3:=fun x (hx:x∈A3)=>ew A1 (iA (dA K.ga K.ca 40 1 cv.length V7) (ew A2 (iA (.row v 3 1 (S.cache.length+1) us) hx)))
   exact⟨h'.at_ (i:=0) (m3 _ hm) rfl,h'.at_ (i:=1) (m3 _ hm) rfl,h'.at_ (i:=4) (m3 _ hm) rfl,h'.at_ (i:=8) (yt _ Ml) rfl⟩)
  have aje:=hgt k1;have afj:K.ga<k1.world.heap.size:=HH.out.lt (b:=K.ga) (ew _ (gq ..)) rfl k1;have hgn:=lN afj;have gC:=gj k1.world (bu _);clear hb8 HH hown aab aft hgt CF;refine tX (Ds (S:=fun w':World=>w'.cell? ⟨k,0,none⟩=some (some K.bA)∧w'.cell? ⟨k,1,none⟩=some (.int .i64 slot)∧w'.cell? ⟨k,4,none⟩=some (.int .i64 S.th)∧w'.cell? ⟨K.bA,8,none⟩=some (.slice (some ⟨K.ga,0,none⟩) S.aO.length K.ca)) K_ gC (fun hHeld=>?_));refine bn 0 ?_;refine bn 1 ?_;refine bn 2 ?_;refine bn 3 ?_;refine bn 4 ?_;refine bn 5 ?_;refine bn 6 ?_;refine bn 7 ?_;refine bn 8 ?_;refine bn 9 ?_;refine bn 10 ?_;refine bn 11 ?_;refine bn 12 ?_;refine bn 13 ?_;refine bn 14 ?_;refine bn 15 ?_;refine bn 16 ?_;refine bn 17 ?_;refine bn 18 ?_;refine bn 19 ?_;refine bn 20 ?_;refine bn 21 ?_;refine bn 22 ?_;refine bn 23 ?_;refine bn 24 ?_;refine bn 26 ?_;refine bn 27 ?_;refine bn 28 ?_;refine bn 29 ?_;refine bn 30 ?_;refine qB (rs:= [25,31]) K_ S_ ?_;refine mA rfl (fun Kq cr=>?_) ?_
  ·go_simp
   refine cr.out _ _ gC (fun hHeld=>?_);refine qB (rs:= [31]) K_ S_ ?_;exact T_4
  ·refine mA rfl (fun Kq cr=>?_) tH
   go_simp;refine cr.out _ _ (gj _ (((bu k1.world).aE _).bh)) (fun hHeld=>?_);refine qB (rs:= [25]) K_ S_ ?_;exact T_4
theorem zg(h:aq K c S ss w0 w F)(t:Int):
  Calls prog 74 #[some K.bA,t] w fun e w'=>∃ k,e=.returned (some k)∧w.heap.size≤k∧aq K c S ss w0 w' (nC K k 268 t ⟨0,0,0⟩::F):=SN
theorem aq.wC{s:Int}(h:aq K c S ss w0 w F)(ht:S.th<S.aO.length)(hl:S.cache.getLast?=some s):∃ (g cc m:Nat),S.cache.length=m+1∧m+1≤cc∧K.ga≠g∧
  (∀ z:aL w,z.world.cell? ⟨K.bA,8,none⟩=some (.slice (some ⟨K.ga,0,none⟩) S.aO.length K.ca))∧(∀ z:aL w,z.world.cell? ⟨K.ga,S.th,none⟩=some (.slice (some ⟨g,0,none⟩) (m+1) cc))∧
  (∀ z:aL w,z.world.cell? ⟨g,m,none⟩=some (.int .i64 s))∧(∀ z:aL w,z.world.frozen? ⟨K.ga,S.th,none⟩=false)∧
  (∀ z:aL w,aq K c (S.setCache S.cache.dropLast) ss w0 (z.world.setCell ⟨K.ga,S.th,none⟩ (.slice (some ⟨g,0,none⟩) m cc)) F):=by
 obtain⟨cv,A,cc,A1,A2,A3,LY,fQ,CF,_,_,hH,hback⟩:=h.oC ht;obtain⟨PV,hini⟩:=GU.1 hl;have xO:S.cache.dropLast=PV:=by rw [hini,List.dropLast_concat]
 obtain⟨m,hm⟩:∃ m,PV.length=m:=⟨_,rfl⟩;have hn:S.cache.length=m+1:=by rw [hini,gP,hm];rfl
 rw [hn] at CF hH;obtain⟨g,hg,IU⟩:∃ g,A=some ⟨g,0,none⟩∧m+1≤cc:=abl;subst hg;refine⟨g,cc,m,hn,IU,?_,fun z=>?_,hH.ny (i:=S.th) (ew _ (gq ..)) CF,hH.ny (c:=cc) (ew _ (iA _ (ew _ (gq ..)))) (by rw [hini,jI,yw (by rw [mC];omega),mC,hm,Nat.sub_self];rfl),hH.Cb (g:=K.ga) (c:=K.ca) (ew _ (gq ..)) S.th,fun z=>?_⟩
 ·intro e
  refine hH.mid.other (b:=K.ga) rfl (ew _ (ew _ (gq ..))) ?_;rw [e];rfl
 ·obtain⟨V7,e,ha⟩:=h.ar
  have:=(ha z).2.2.2.2.2.2.2.2;rw [e] at this;exact this
 ·have h1:=Has.fD (hH.iD z) S.th (.slice (some ⟨g,0,none⟩) m cc)
  refine hback _ (.slice (some ⟨g,0,none⟩) m cc) S.cache.dropLast ?_;rw [←kY,←dH] at h1 ⊢;have h2:=(h1.mid.cut (m:=m) O_).back;rw [hini,jI,List.take_append_of_le_length (by rw [mC,hm];omega),Bj (by rw [mC,hm];omega)] at h2;rw [xO,hm];exact h2
theorem zy{s:Int}(h:aq K c S ss w0 w (nC K k 268 S.th p::F))(ht:S.th<S.aO.length)(hl:S.cache.getLast?=some s)(hcb:S.cache.length<100000):
  cm 213 #[some k] w (.tuple #[]) fun w'=>aq K c S ss w0 w' (nC K k 268 S.th ⟨s,1,p.head⟩::F):=by
 obtain⟨g,cc,m,hn,IU,hne,h8,hgt,hgm,_,_⟩:=h.wC ht hl;have gC:=h.cell (i:=0) aj rfl;have Bz:=h.cell (i:=4) aj rfl;have J0:decide ((S.th:Int)<(S.aO.length:Int))=true:=by simp;omega
 have hwm:wrap64 (m:Int)=m:=wid O_ O_;have Hh:=aJ h;clear h hl hn;go_enter func213,ntmps213;go_wp2_with fail;refine qE fun k1=>?_
 have h1:=Hh.out.iD k1;have f1:=h1.dW aj 1;have f2:=h1.dW aj 2;have g1:=h1.at_ (i:=1) aj rfl;have g2:=h1.at_ (i:=2) aj rfl;have p1:=(h1.put 1 s).put 2 (.int .i64 1);go_wp2_with fail;exact iP ⟨rfl,p1⟩
theorem tE(h:aq K c S ss w0 w (nC K k 268 S.th p::F))(ht:S.th<S.aO.length)(hcb:S.cache.length<100000):
  Bb 211 k d w (.bool (p.dU S).1) fun w'=>aq K c (p.dU S).2.2 ss w0 w' (nC K k 268 S.th (p.dU S).2.1::F):=by
 have gC:=h.cell (i:=0) aj rfl;have Bz:=h.cell (i:=4) aj rfl;have PX:∀ z:aL w,Calls prog 128 #[some K.bA,S.th] z.world fun e w'=>e=.returned true∧w'=z.world:=fun z=>nN (h.iD z) S.th O_ O_
 have J0:decide ((S.th:Int)<(S.aO.length:Int))=true:=by simp;omega
 rcases hl:S.cache.getLast? with _ | s
 ·have hn:S.cache.length=0:=by rw [N8.1 hl];rfl
  have hr:p.dU S=(true,p,S):=by unfold Pu.dU;rw [hl]
  rw [hr];obtain⟨cv,A,cc,A1,A2,A3,LY,fQ,CF,_,_,hH,hback⟩:=h.oC ht;have hgt:∀ z:aL w,z.world.cell? ⟨K.ga,S.th,none⟩=some (.slice A S.cache.length cc):=hH.ny (i:=S.th) (ew _ (gq ..)) CF
  have hb8:∀ z:aL w,z.world.cell? ⟨K.bA,8,none⟩=some (.slice (some ⟨K.ga,0,none⟩) S.aO.length K.ca):=fun z=>by
   obtain⟨V7,e,ha⟩:=h.ar;have:=(ha z).2.2.2.2.2.2.2.2;rw [e] at this;exact this
  rw [hn] at hgt;have Hh:=aJ h;clear hH hback hr hl h;go_enter func211,ntmps211;exact abq
 ·have hr:p.dU S=(false,⟨s,1,p.head⟩,S):=by unfold Pu.dU;rw [hl]
  rw [hr];obtain⟨g,cc,m,hn,IU,hne,h8,hgt,_,_,_⟩:=h.wC ht hl;have hz:((m:Int)+1==0)=false:=by rw [gp];omega
  have Xh:=fun z:aL w=>zy (h.iD z) ht hl hcb
  clear hr hl h hn;go_enter func211,ntmps211;go_wp2_with fail;refine bT (Ext w) (bu w).bh K_ K_ ?_
  repeat (go_big_quiet_step (exact cP (PX _)))
  refine qA ?_;rintro _ ⟨k1,rfl⟩;go_wp2_with fail;refine un (Xh k1) fun w1 h2=>?_
  exact QD
theorem vi(c:Cf)(p:Pu)(S:PM):(p.step c S).2.2.aO=S.aO∧(p.step c S).2.2.th=S.th∧(p.step c S).2.2.aG.length≤S.aG.length+1∧(p.step c S).2.2.slots.length=S.slots.length:=by
 unfold Pu.step
 split
 ·exact⟨rfl,rfl,pU _,rfl⟩
 split
 ·exact⟨rfl,rfl,pU _,rfl⟩
 split
 ·refine⟨rfl,rfl,?_,?_⟩
  ·simp only [PM.shift,gP];exact bZ _
  ·simp only [PM.shift,cW];rfl
 ·exact⟨rfl,rfl,pU _,rfl⟩
theorem vQ{s:Int}(h:aq K c S ss w0 w (nC K k 268 S.th p::F))(hd:dk K.toMk d∈F)(I:Inv c S.th S)(hu:S.used=false)(hl:S.log.length<1000000)(hb:S.aG.length<1000000000000)(hp:Tn c p)(ht:S.th<S.aO.length)(hcb:S.cache.length<100000)(hla:S.cache.getLast?=some s):
  Bb 212 k d w (.bool (p.iW c S).1) fun w'=>aq K c (p.iW c S).2.2 ss w0 w' (nC K k 268 S.th (p.iW c S).2.1::F):=by
 have hx0:(p.pc==0)=false:=by rw [gp];obtain⟨_,_,h | ⟨h,_⟩ | ⟨h,_⟩⟩:=hp<;>omega
 have k2:=h.at_ (i:=2) aj rfl;have hm:=Ci h hd I hu hl hb hp;have J0:decide ((S.th:Int)<(S.aO.length:Int))=true:=by simp;omega
 obtain⟨c1,c2,_,_⟩:=vi c p S
 have xj:p.iW c S=match p.step c S with
  | (false,p,S)=>(false,p,S)
  | (true,p,S)=>p.dU (S.setCache S.cache.dropLast):=rfl
 rw [xj];generalize p.step c S=r at hm c1 c2 ⊢;obtain⟨b,p1,S1⟩:=r;simp only at c1 c2 hm;clear xj
 cases b
 ·go_enter func212,ntmps212
  exact Nx
 ·have hca:S1.cache=S.cache:=by unfold PM.cache;rw [c1,c2]
  rw [←c2] at hm ht J0;rw [←c1] at ht J0;rw [←hca] at hla hcb;rw [←c2];have Md:(S1.setCache S1.cache.dropLast).cache=S1.cache.dropLast:=by unfold PM.cache PM.setCache;simp [ht]
  have Xh:=fun(s1:Int) (xO:S1.cache.dropLast.getLast?=some s1) (W:World) (h:aq K c (S1.setCache S1.cache.dropLast) ss w0 W (nC K k 268 S1.th p1::F))=>zy (s:=s1) h (by show S1.th<(S1.aO.set _ _).length;rw [cW];exact ht) (by rw [Md];exact xO) (by rw [Md,Dx];omega)
  have hrd:∀ m,S1.cache.length=m+1→(m=0∧p1.dU (S1.setCache S1.cache.dropLast)=(true,p1,S1.setCache S1.cache.dropLast))∨(m≠0∧∃ s1,S1.cache.dropLast.getLast?=some s1∧p1.dU (S1.setCache S1.cache.dropLast)=(false,⟨s1,1,p1.head⟩,S1.setCache S1.cache.dropLast)):=by
   intro m hm
   rcases xO:S1.cache.dropLast.getLast? with _ | s1
   ·refine .inl ⟨?_,?_⟩
    ·have:=ep List.length (N8.1 xO)
     rw [Dx] at this;simp at this;omega
    ·unfold Pu.dU
     rw [Md,xO]
   ·refine .inr ⟨?_,s1,rfl,?_⟩
    ·rintro rfl
     have:S1.cache.dropLast= []:=by rw [←N6,Dx];omega
     rw [this] at xO
     cases xO
    ·unfold Pu.dU
     rw [Md,xO]
  have Hla:=aJ hla;have Hag:=aJ Xh;have Hrd:=aJ hrd;clear hca h c1 c2 hla Xh hrd Md;simp only;go_enter func212,ntmps212;go_wp2_with fail;refine un hm fun w1 h2=>?_
  obtain⟨g,cc,m,hn,IU,hne,h8,hgt,hgm,hgf,hback⟩:=h2.wC ht Hla.out;have gC:=h2.cell (i:=0) aj rfl;have Bz:=h2.cell (i:=4) aj rfl;have Hb:=aJ hback;have Hn:=aJ hn;have hs1:(m:Int)≤(cc:Int):=O_
  have hs0:(0:Int)≤(m:Int):=O_
  have PY:m≤cc:=O_
  have hwm:wrap64 (m:Int)=m:=wid O_ O_;clear hback hn h2 hm hp hl hb I hu hd hx0 k2;go_wp2_with fail;refine qE fun k1=>?_
  go_wp2_with fail;refine bU (Ext w1) 18 (Ext.bh k1.ok) K_ K_ ?_;simp only [rR,rP,rQ,rO]
  repeat (go_big_quiet_step (fail))
  refine qA ?_;rintro _ ⟨k2,rfl⟩
  rcases Hrd.out m Hn.out with ⟨hm0,hr⟩ | ⟨hm0,s1,xO,hr⟩
  ·have Hr:=aJ hr
   have Hm:=aJ (Hb.out k2);subst hm0;clear hr;go_wp2;go_ret;rw [Hr.out];exact⟨rfl,Hm.out⟩
  ·have xM:((m:Int)==0)=false:=by rw [gp];omega
   have Xh:=Hag.out s1 xO _ (Hb.out k2);have Hr:=aJ hr;clear hr xO;go_wp2_with fail;refine un Xh fun w3 h3=>?_
   go_wp2;go_ret;rw [Hr.out];exact⟨rfl,h3⟩
@[reducible] def WJ(b k:Nat):En:=ob b 164 [some k]
theorem BN{b k:Nat}{th:Int}{x:Tk}(h:aq K c S ss w0 w F)(ht:WJ b k∈F)(hk:gr K k th x∈F)(hd:dk K.toMk d∈F)(hc:S.th<S.told.length)(hs:S.told.length=ss.length):
  cm 185 #[some b,some d,true] w true fun w'=>aq K c (if x.res<0 then S.tell 4 0 else S.tell 2 x.res) ss w0 w' F:=by
 have h1:=h.alloc #[.int .i64 4,.int .i64 0] 112;have t0:=h1.at_ (i:=0) (iA _ ht) rfl;have mG:=cz h1 (iA _ hk)
 by_cases hr:x.res<0
 ·rw [aY hr]
  have Xe:decide (0≤x.res)=false:=by simpa using hr
  generalize x.res=r at mG Xe;have a1:=fun(W:World) (h:aq K c S ss w0 W (ob w.heap.size 112 [.int .i64 4,.int .i64 0]::F))=>vz h (iA _ hd) 4 0 hc hs
  go_enter func185,ntmps185;go_wp2_with fail;refine mG.mono ?_;rintro e w1 ⟨rfl,rfl⟩;have g0:=h1.at_ (i:=0) aj rfl;have g1:=h1.at_ (i:=1) aj rfl;go_wp2_with fail;refine un (a1 _ h1) fun w1 h2=>?_
  exact Nq
 ·rw [aK hr]
  have Xe:decide (0≤x.res)=true:=by simpa using hr
  generalize x.res=r at mG Xe;have a1:=fun(W:World) (h:aq K c S ss w0 W (ob w.heap.size 112 [.int .i64 2,r]::F))=>vz h (iA _ hd) 2 r hc hs
  go_enter func185,ntmps185;go_wp2_with fail;refine mG.mono ?_;rintro e w1 ⟨rfl,rfl⟩;have p1:=h.alloc #[.int .i64 2,r] 112;go_wp2_with fail;refine un (a1 _ p1) fun w1 h2=>?_
  exact Nq
theorem G0{b:Nat}:cm 185 #[some b,some d,false] w false fun w'=>w'=w:=by
 go_enter func185,ntmps185;exact iB
def TkO(r:Bool×Tk×PM):PM:=if r.1 then(if r.2.1.res<0 then r.2.2.tell 4 0 else r.2.2.tell 2 r.2.1.res) else r.2.2
theorem BO{b k:Nat}{x:Tk}(h:aq K c S ss w0 w (gr K k S.th x::F))(ht:WJ b k∈F)(hd:dk K.toMk d∈F)(hp:x.pc≠0)(mF:S.th<S.aO.length)(hcs:∀ s∈S.cache,0≤s∧s<S.slots.length)(hcb:S.cache.length<100000)(hb:S.aG.length<1000000000000)(hc:S.th<S.told.length)(hs:S.told.length=ss.length):
  cm 182 #[some b,some d] w (.bool (x.ready S).1) fun w'=>aq K c (TkO (x.ready S)) ss w0 w' (gr K k S.th (x.ready S).2.1::F):=by
 have t0:=h.at_ (i:=0) (iA _ ht) rfl;have hm:=gS h hd hp mF hcs hcb hb;have hto:(x.ready S).2.2.told=S.told∧(x.ready S).2.2.th=S.th:=by unfold Tk.ready;split<;>exact⟨rfl,rfl⟩
 generalize x.ready S=r at hm hto ⊢;obtain⟨q,x1,S1⟩:=r;simp only at hm hto ⊢;rw [←hto.1,←hto.2] at hc;rw [←hto.1] at hs;clear hto;have htl:=fun(W:World) (h:aq K c S1 ss w0 W (gr K k S.th x1::F))=>BN (d:=d) h (iA _ ht) aj (iA _ hd) hc hs
 cases q
 ·go_enter func182,ntmps182
  exact SR
 ·go_enter func182,ntmps182
  exact SW
theorem DX{b k:Nat}{x:Tk}(h:aq K c S ss w0 w (gr K k S.th x::F))(ht:WJ b k∈F)(hd:dk K.toMk d∈F)(I:Inv c S.th S)(hu:S.used=false)(hl:S.log.length<1000000)(hb:S.aG.length<1000000000000)(hx:RR c x)(hc:S.th<S.told.length)(hs:S.told.length=ss.length):
  cm 184 #[some b,some d] w (.bool (x.step c S).1) fun w'=>aq K c (TkO (x.step c S)) ss w0 w' (gr K k S.th (x.step c S).2.1::F):=by
 have t0:=h.at_ (i:=0) (iA _ ht) rfl;have hm:=iI h hd I hu hl hb hx
 have hto:(x.step c S).2.2.told=S.told∧(x.step c S).2.2.th=S.th:=by
  unfold Tk.step
  split
  ·split<;>exact⟨rfl,rfl⟩
  split
  ·exact⟨rfl,rfl⟩
  split<;>exact⟨rfl,rfl⟩
 generalize x.step c S=r at hm hto ⊢;obtain⟨q,x1,S1⟩:=r;simp only at hm hto ⊢;rw [←hto.1,←hto.2] at hc;rw [←hto.1] at hs;clear hto I hl hb hu hx;have htl:=fun(W:World) (h:aq K c S1 ss w0 W (gr K k S.th x1::F))=>BN (d:=d) h (iA _ ht) aj (iA _ hd) hc hs
 cases q
 ·go_enter func184,ntmps184
  exact SR
 ·go_enter func184,ntmps184
  exact SW
end
end Go.Proofs.YtgbhnihkgmpocaaGreat
