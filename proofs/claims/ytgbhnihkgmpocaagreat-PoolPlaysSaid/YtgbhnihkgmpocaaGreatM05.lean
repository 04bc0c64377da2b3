/- Part 6 of 16 of the proof of PoolPlays. No condition. -/
import Derived.Test.YtgbhnihkgmpocaaGreatM04
namespace Go.Proofs.YtgbhnihkgmpocaaGreat
set_option maxRecDepth 100000
set_option maxHeartbeats 4000000
open Tryz
variable{P:Prop}
theorem T_3(x:P:=by
 go_simp;refine cr.out _ _ (pE _ (((bu _).bh).aE _)) (fun hHeld=>?_);refine eI 17 fun Kq cr=>?_
 refine cn _ rfl (.tmp 68) (.tmp 73) 40 rfl w0.heap.size 3 1 8 jT underlying40 (.slice A1 (S.bQ rc).length c1) (S.bQ rc).length _ (by simp [Act.eval]) (dB o1 (((bu _).bh).aE _)) (some ⟨dx.heap.size,0,none⟩) 1 1 [slot] (by simp [Act.eval]) rfl (hrd _ ((Ext.drawn _ 1))) hone O_ (by simp;omega) ?_;intro v' w2 hown hgrow rV;obtain⟨A5,c5,rfl⟩:=aA hown;obtain⟨q1,q2,q3,q4,q5⟩:=mv.app iE (l':=S.bQ rc++ [slot]) (by rw [gP,jI];exact hown) (bw (aD hgrow)) (rV.imp id fun e=>⟨_,e,S_⟩);have j7:=q3 _ _ iE;refine cr.out _ _ ⟨q1 _ _ _ aj,q2⟩ (fun hHeld=>?_);refine bn 18 ?_;refine eI 19 fun Kq cr=>?_
 go_simp;refine cr.out _ _ ⟨q5.ia.af aj,ic K c S rc (S.bQ rc++ [slot])▸q5.ia.fF⟩ (fun hHeld=>?_);refine Be K_ ?_ _;go_wp2_with fail
 go_meet
 case rel=>exact aJ q5.ia):P:=x
theorem T_5(x:P:=by
 refine Ds (S:=(fun w'=>AF k [Value.pointer (some ⟨K.bH,0,none⟩),S.th,slot,.pointer none] w'∧AF K.bH (eE K c S) w')) K_ (pE _ (bu _).bh) (fun hHeld=>?_);refine bn 0 ?_;refine bn 1 ?_;refine bn 2 ?_;refine bn 3 ?_;refine bn 4 ?_;refine bn 5 ?_;refine bn 6 ?_;refine bn 7 ?_;refine bn 8 ?_;refine bn 9 ?_;refine bn 10 ?_;refine bn 12 ?_;refine bn 13 ?_;refine bn 14 ?_;refine bn 15 ?_;refine qB (rs:= [11,16]) K_ S_ ?_;refine mA rfl (fun Kq cr=>?_) ?_
 ·go_simp
  refine cr.out _ _ (pE _ (bu _).bh) (fun hHeld=>?_);refine eI 16 fun Kq cr=>?_
  exact T_3
 ·refine mA rfl (fun Kq cr=>?_) tH
  go_simp;refine cr.out _ _ (pE _ (((bu _).bh).aE _)) (fun hHeld=>?_);refine eI 11 fun Kq cr=>?_
  exact T_3):P:=x
theorem abJ(x:P:=by
 go_wp2_with fail;refine un (cz h bp) fun wz hw=>?_
 obtain rfl:=hw.symm;go_wp2_with fail;refine un (gK h (mT (mT hd))) fun wz hw=>?_
 obtain rfl:=hw.symm;go_wp2_with fail;refine un (cX h (mT (mT hd)) g) fun ws2 s2=>?_
 exact abe):P:=x
theorem abI(x:P:=by
 have gM:=n1.af aj;have n2:=n1.put 2 (.int .i64 (i+1));have jA:AF k [Value.pointer (some ⟨K.bH,0,none⟩),S.th,.int .i64 (i+1),false] _∧AF K.bH (eE K c S) _:=⟨n2.af aj,n2.fF⟩;go_wp2_with fail
 go_region_held3 (fun w'=>AF k [Value.pointer (some ⟨K.bH,0,none⟩),S.th,.int .i64 (i+1),false] w'∧AF K.bH (eE K c S) w') (first | exact jA) (fail)
 go_wp2_with fail;go_ret;exact⟨rfl,[_],fun _=>rfl,n2.drew⟩):P:=x
theorem abH(x:P:=by
 go_wp2_with fail;refine un (fN 3 h aj rfl g.I.ok O_ O_ x rfl) fun dx gx=>?_
 have m1:=h.next gx;have bB:=m1.af aj;go_wp2_with fail;refine un (bO m1 (mT hd) ax a) fun jP m2=>?_
 have dN:=m2.af aj;have n2:=m2.put 4 (.int .u64 (S.w (c.ad 3 0)));have jA:=n2.af aj;go_wp2_with fail;refine(IJ _ n2).mono ?_;exact QJ):P:=x
theorem QJ(x:P:=by
 rintro e w9 ⟨rfl,L,o,m9⟩;go_wp2_with fail;go_ret;exact⟨rfl,L,o,m9⟩):P:=x
theorem abm(x:P:=by
 have pn5:=n5.af aj;go_wp2_with fail;refine(pX _ Bp n5.swap).mono ?_;rintro e w9 ⟨rfl,L,o,m9⟩;go_wp2_with fail;go_ret;exact⟨rfl,_::L,fun q=>.inr ⟨rfl,_,_,_,rfl,o q,rfl⟩,m9.perm dV⟩):P:=x
theorem abb(x:P:=by
 obtain⟨a,b,_,⟨h,_⟩ | ⟨h,_,hw,_⟩ | ⟨h,_,hw,_⟩⟩:=h
 ·exact⟨a,b,.inl h⟩
 ·exact⟨a,b,.inr (.inl ⟨h,hw⟩)⟩
 ·exact⟨a,b,.inr (.inr ⟨h,hw⟩)⟩):P:=x
theorem Tj(x:P:=by
 go_wp2_with fail;refine hm.mono ?_;rintro e w2 ⟨rfl,L,o,m2⟩;go_wp2_with fail;go_ret;exact⟨rfl,_::L,fun q=>.inr ⟨rfl,_,_,_,rfl,o q,rfl⟩,m2.perm dV⟩):P:=x
theorem NQ(x:P:=by
 go_wp2_with fail;go_ret;exact⟨rfl,[_],fun _=>.inl ⟨_,rfl,rfl,S_⟩,n2.put 3 _⟩):P:=x
theorem S8(x:P:=by
 go_enter func235,ntmps235;go_wp2_with fail;refine un (bO h (mT hd) ax ai) fun dx m1=>?_
 have bB:=m1.af aj;go_wp2_with fail;refine(IJ _ m1).mono ?_;exact QJ):P:=x
theorem SU(x:P:=by
 go_wp2_with fail;refine un (hm) fun dx m1=>?_
 have bB:=m1.af aj;go_wp2_with fail;refine(tC _ m1.swap).mono ?_;exact Fc):P:=x
theorem NB(x:P:=by
 go_wp2_with fail;go_ret;exact⟨rfl,[_],fun q=>(by cases q),m9⟩):P:=x
theorem Nz(x:P:=by
 rw [jd];exact⟨by show S.aG.length≤_;omega,hc⟩):P:=x
theorem Sq(x:P:=by
 go_wp2_with fail;go_ret;exact⟨rfl,[_],fun _=>.inl ⟨_,rfl,rfl,S_⟩,m2.put 3 _⟩):P:=x
theorem Sl(x:P:=by
 go_wp2_with fail;go_ret;exact⟨rfl,[_,_],fun _=>.inl ⟨S_,_,rfl⟩,n1.put 3 _⟩):P:=x
theorem Nr(x:P:=by
 exact⟨by show S.aG.length≤_;omega,hc⟩):P:=x
theorem RV(x:P:=by
 go_wp2_with fail;go_ret;exact⟨rfl,[_],fun q=>(by cases q),m2.drew⟩):P:=x
open Go.RowKit
section
variable{K:Ky}{c:Cf}{S:PM}{ss:List Sv}{w0 w w':World}{F H:List En}{d b n k kt th:Nat}{t:TypeId}{cs:List Value}{rc pc:Int}{names:List Int}{aU:Option Pu}
theorem Gx{f:Int→Option Int}{y:Int}(h:Wy names f):Wy (names++ [y]) (fun j=>if j=y then some ((f y).getD 0+1) else f j):=by
 intro x;obtain⟨h1,h2,h3⟩:=h x;rw [gP];simp only [ij,mB,Bh,Bi]
 by_cases e:x=y
 ·subst e
  simp only [dL,Option.getD_some];exact⟨O_,O_,fun _=>⟨fun q=>O_,fun q=>by simp at q⟩⟩
 ·simp only [e,eu,or_false]
  exact⟨h1,O_,h3⟩
theorem ad5{l:List Int}{P:Int→Prop}{p:Int→Bool}(h:∀ y∈l,P y):∀ y∈l.filter p,P y:=fun y hy=>h y (List.mem_filter.1 hy).1
theorem XM{f:Int→Option Int}(h:aq K c S ss w0 w (tL K k th ⟨rc,3,pc,names,[],aU⟩ (.map (some b)) (.slice none 0 0) (.pointer none)::.fX b f::F))(hd:dk K.toMk d∈F)(g:Gd n c S ss)(hr:0≤(rc:Int)∧(rc:Int)<c.R)(ax:Ax S)(hf:Wy names f)(hnl:(names.length:Int)=pc)(hp:0≤pc∧pc<c.R*c.H)(hlt:pc+1<c.R*c.H):
  b6 220 k d w (Post K c ss w0 F (qx K c th k) (false,⟨rc,3,pc+1,(names++ [lk (S.w (c.ad 9 pc))]),[],aU⟩,S.load (c.ad 9 pc))):=by
 have hI:=g.I.bd;have hL:=g.I.li;have Oi:1≤c.R∧c.R≤16:=⟨hI.2.2.1,hI.2.2.2.1⟩;have p0:=(⟨h.af aj,h.fF⟩:AF k _ _∧AF K.bH (eE K c S) _);have d0:decide ((rc:Int)<0)=false:=dy O_;have WY:=g.I.rh;have xi:=g.I.ixH hp.1 hp.2;obtain⟨ai0,ai1,_,pw⟩:=g.I.mq (r:=9) O_ O_ xi;have ai:=And.intro ai0 ai1;have ha:=aa8 g.I hp;have hlw:=pw.lw D_;have hlk:=eZ (S.w (c.ad 9 pc));have hlo:=pw.lo;have F4:=fun W=>jr (S.w (c.ad 9 pc)) W pw.lo hlw.1 O_
 clear pw;have WZ:=fun(W:World) (S':PM) (h:aq K c S' ss w0 W (tL K k th ⟨rc,3,pc,names,[],aU⟩ (.map (some b)) (.slice none 0 0) (.pointer none)::.fX b f::F))=>h.fX (b:=b) bp
 generalize hy:lk (S.w (c.ad 9 pc))=y at*;have hcy:=hf y;have hw1:IntKind.i64.wrap ((f y).getD 0+1)=(f y).getD 0+1:=ei O_ O_;have DG:IntKind.i64.wrap (pc+1)=pc+1:=ei O_ O_;have hw3:IntKind.i64.wrap (c.R*c.H)=c.R*c.H:=ei O_ O_;have Z3:=Gx (y:=y) hf;obtain⟨hc0,j7,_⟩:=hcy;generalize hz:(f y).getD 0=fz at hw1 hc0 j7 Z3;have dl:decide (pc+1<c.R*c.H)=true:=cM hlt;go_enter func220,ntmps220;go_wp2
 go_region_held3 (Jy p0) (first | exact p0 | exact bB) (first | ((with_reducible refine un (bO h.drew (mT (mT hd)) ax ai) fun dx m1=>?_);have bB:=(⟨m1.af aj,m1.fF⟩:AF k _ _∧AF K.bH (eE K c S) _)) | ((with_reducible refine un (F4 _) fun wz hw=>?_);obtain rfl:=hw.symm))
 have L5:=WZ _ _ m1;have Zf:=L5.lookup (P:=prog) underlying269 underlying3 qC y false;obtain⟨r0,r1,r2⟩:=L5.put (P:=prog) (t:=269) underlying269 underlying3 y (fz+1);simp only [mD,eu,hz] at Zf;have ZT:w0.heap.size≤b:=(m1.LS bp);have m2:aq K c (S.load (c.ad 9 pc)) ss w0 _ (tL K k th ⟨rc,3,pc,names,[],aU⟩ (.map (some b)) (.slice none 0 0) (.pointer none)::.fX b (fun j=>if j=y then some (fz+1) else f j)::F):=m1.Kj (x:=.fX b f) (x':=.fX b (fun j=>if j=y then some (fz+1) else f j)) ⟨ZT,r1⟩ (lW r2) (.inl rfl);generalize hV:tP prog 269 dx b y (fz+1)=V at*;have p2:=m2.af aj;have m3:=m2.put 4 (.int .i64 (pc+1));have p3:=m3.af aj;have z3:=m3.fF;have z3:AF K.bH (eE K c S) _:=z3;go_wp2
 go_region_held3 (fun w'=>AF k [Value.pointer (some ⟨K.bH,0,none⟩),th,rc,.int .i64 3,.int .i64 (pc+1),.map (some b),.slice none 0 0,.pointer none] w'∧AF K.bH (eE K c S) w') (first | exact⟨p3,z3⟩) (fail)
 go_wp2;go_ret;exact⟨rfl,[_,_],fun _=>.name b _ rfl rfl (by show((names++ [y]).length:Int)=pc+1;rw [gP];simp only [ij,mB];omega) Z3,m3.drew⟩
theorem XL{f:Int→Option Int}{rc:Nat}(h:aq K c S ss w0 w (tL K k th ⟨rc,3,pc,names,[],aU⟩ (.map (some b)) (.slice none 0 0) (.pointer none)::.fX b f::F))(hd:dk K.toMk d∈F)(g:Gd n c S ss)(hr:0≤(rc:Int)∧(rc:Int)<c.R)(ht:S.th=th)(hn:n<900000000000)(ax:Ax S)(hf:Wy names f)(hnl:(names.length:Int)=pc)(hp:0≤pc∧pc<c.R*c.H)(hlt:¬pc+1<c.R*c.H):
  b6 220 k d w (Post K c ss w0 F (qx K c th k) (Sc.free c ⟨rc,3,pc+1,(names++ [lk (S.w (c.ad 9 pc))]),((S.bQ rc).filter fun x=>!(decide (x∈(names++ [lk (S.w (c.ad 9 pc))])))),aU⟩ ((S.bQ rc).filter fun x=>!(decide (x∈(names++ [lk (S.w (c.ad 9 pc))])))) ((S.load (c.ad 9 pc)).aV rc ((S.bQ rc).filter fun x=>decide (x∈(names++ [lk (S.w (c.ad 9 pc))])))))):=by
 have hI:=g.I.bd;have hL:=g.I.li;have Oi:1≤c.R∧c.R≤16:=⟨hI.2.2.1,hI.2.2.2.1⟩;have p0:=(⟨h.af aj,h.fF⟩:AF k _ _∧AF K.bH (eE K c S) _);have d0:decide ((rc:Int)<0)=false:=dy O_;have WY:=g.I.rh;have xi:=g.I.ixH hp.1 hp.2;obtain⟨ai0,ai1,_,pw⟩:=g.I.mq (r:=9) O_ O_ xi;have ai:=And.intro ai0 ai1;have ha:=aa8 g.I hp;have hlw:=pw.lw D_;have hlk:=eZ (S.w (c.ad 9 pc));have hlo:=pw.lo;have F4:=fun W=>jr (S.w (c.ad 9 pc)) W pw.lo hlw.1 O_
 clear pw;have WZ:=fun(W:World) (S':PM) (h:aq K c S' ss w0 W (tL K k th ⟨rc,3,pc,names,[],aU⟩ (.map (some b)) (.slice none 0 0) (.pointer none)::.fX b f::F))=>h.fX (b:=b) bp
 generalize hy:lk (S.w (c.ad 9 pc))=y at*;have hcy:=hf y;have hw1:IntKind.i64.wrap ((f y).getD 0+1)=(f y).getD 0+1:=ei O_ O_;have DG:IntKind.i64.wrap (pc+1)=pc+1:=ei O_ O_;have hw3:IntKind.i64.wrap (c.R*c.H)=c.R*c.H:=ei O_ O_;have Z3:=Gx (y:=y) hf;obtain⟨hc0,j7,_⟩:=hcy;generalize hz:(f y).getD 0=fz at hw1 hc0 j7 Z3;have dl:decide (pc+1<c.R*c.H)=false:=dy hlt;have hrl:rc<S.lists.length:=O_
 have hls:=g.I.Ej rc;have hle:=g.li rc;have hca:=hI.2.2.2.2.2.2.2.2.2;have mF:=g.th;have hcb:=g.ca;have hbb:=g.b;have mG:=g.I.sl;have hsp:=fun(W:World) (h:aq K c (S.load (c.ad 9 pc)) ss w0 W (tL K k th ⟨rc,3,pc+1,names++ [y],[],aU⟩ (.map (some b)) (.slice none 0 0) (.pointer none)::.fX b (fun j=>if j=y then some (fz+1) else f j)::F))=>Hp h Z3 rfl hrl (fun y hy=>(hls y hy).1) hle
 have LZ:∀ z∈(S.bQ rc).filter (fun x=>!(decide (x∈names++ [y]))),0≤z∧z<c.S:=ad5 hls;have ZV:((S.bQ rc).filter (fun x=>!(decide (x∈names++ [y])))).length<100000:=Nat.lt_of_le_of_lt (Dz _ _) hle;change ∀ W,_→Calls _ _ _ _ (fun e w2=>_∧∃ pa,aq K c ((S.load (c.ad 9 pc)).aV rc ((S.bQ rc).filter fun x=>decide (x∈names++ [y]))) ss w0 w2 (tL K k th _ _ pa _::.row pa 3 1 ((S.bQ rc).filter fun x=>!(decide (x∈names++ [y]))).length (((S.bQ rc).filter fun x=>!(decide (x∈names++ [y]))).map (Value.int .i64))::_)) at hsp;generalize DI:(S.load (c.ad 9 pc)).aV rc ((S.bQ rc).filter fun x=>decide (x∈names++ [y]))=S2 at hsp ⊢;have e1:th=S2.th:=by rw [←DI];exact ht.symm
 have e2:S2.cache=S.cache:=by rw [←DI];rfl
 have e3:S2.aO=S.aO:=by rw [←DI];rfl
 have e4:S2.slots=S.slots:=by rw [←DI];rfl
 have e5:S2.aG=S.aG:=by rw [←DI];rfl
 generalize (S.bQ rc).filter (fun x=>!(decide (x∈names++ [y])))=pl at hsp LZ ZV ⊢;clear DI hls hle;rw [ht,←e3] at mF;subst e1;rw [←e2] at hcb;rw [←e4] at mG;rw [←e5] at hbb;have afb:∀ z∈pl,0≤z∧z<S2.slots.length:=fun z hz=>⟨(LZ z hz).1,by have:=(LZ z hz).2;omega⟩
 cases pl with
 | nil=>
  go_enter func220,ntmps220;go_wp2
  go_region_held3 (Jy p0) (first | exact p0 | exact bB) (first | ((with_reducible refine un (bO h.drew (mT (mT hd)) ax ai) fun dx m1=>?_);have bB:=(⟨m1.af aj,m1.fF⟩:AF k _ _∧AF K.bH (eE K c S) _)) | ((with_reducible refine un (F4 _) fun wz hw=>?_);obtain rfl:=hw.symm))
  have L5:=WZ _ _ m1;have Zf:=L5.lookup (P:=prog) underlying269 underlying3 qC y false;obtain⟨r0,r1,r2⟩:=L5.put (P:=prog) (t:=269) underlying269 underlying3 y (fz+1);simp only [mD,eu,hz] at Zf;have ZT:w0.heap.size≤b:=(m1.LS bp);have m2:aq K c (S.load (c.ad 9 pc)) ss w0 _ (tL K k S2.th ⟨rc,3,pc,names,[],aU⟩ (.map (some b)) (.slice none 0 0) (.pointer none)::.fX b (fun j=>if j=y then some (fz+1) else f j)::F):=m1.Kj (x:=.fX b f) (x':=.fX b (fun j=>if j=y then some (fz+1) else f j)) ⟨ZT,r1⟩ (lW r2) (.inl rfl);generalize hV:tP prog 269 dx b y (fz+1)=V at*;have p2:=m2.af aj;have m3:=m2.put 4 (.int .i64 (pc+1));have p3:=m3.af aj;have z3:=m3.fF;have z3:AF K.bH (eE K c S) _:=z3;go_wp2
  go_region_held3 (fun w'=>AF k [Value.pointer (some ⟨K.bH,0,none⟩),S2.th,rc,.int .i64 3,.int .i64 (pc+1),.map (some b),.slice none 0 0,.pointer none] w'∧AF K.bH (eE K c S) w') (first | exact⟨p3,z3⟩) (fail)
  go_wp2_with fail;refine(hsp _ m3.drew).mono ?_;rintro e w5 ⟨rfl,pa,m4⟩;obtain⟨A2,c2,rfl⟩:=aA (m4.owns bp);go_wp2_with fail;refine(Mm m4).mono ?_;rintro e w6 ⟨rfl,L,m5⟩;go_wp2;go_ret;exact⟨rfl,L,fun q=>(by cases q),((m5.perm dV).drop.perm dV).drop⟩
 | cons z pl=>
  go_enter func220,ntmps220;go_wp2
  go_region_held3 (Jy p0) (first | exact p0 | exact bB) (first | ((with_reducible refine un (bO h.drew (mT (mT hd)) ax ai) fun dx m1=>?_);have bB:=(⟨m1.af aj,m1.fF⟩:AF k _ _∧AF K.bH (eE K c S) _)) | ((with_reducible refine un (F4 _) fun wz hw=>?_);obtain rfl:=hw.symm))
  have L5:=WZ _ _ m1;have Zf:=L5.lookup (P:=prog) underlying269 underlying3 qC y false;obtain⟨r0,r1,r2⟩:=L5.put (P:=prog) (t:=269) underlying269 underlying3 y (fz+1);simp only [mD,eu,hz] at Zf;have ZT:w0.heap.size≤b:=(m1.LS bp);have m2:aq K c (S.load (c.ad 9 pc)) ss w0 _ (tL K k S2.th ⟨rc,3,pc,names,[],aU⟩ (.map (some b)) (.slice none 0 0) (.pointer none)::.fX b (fun j=>if j=y then some (fz+1) else f j)::F):=m1.Kj (x:=.fX b f) (x':=.fX b (fun j=>if j=y then some (fz+1) else f j)) ⟨ZT,r1⟩ (lW r2) (.inl rfl);generalize hV:tP prog 269 dx b y (fz+1)=V at*;have p2:=m2.af aj;have m3:=m2.put 4 (.int .i64 (pc+1));have p3:=m3.af aj;have z3:=m3.fF;have z3:AF K.bH (eE K c S) _:=z3;go_wp2
  go_region_held3 (fun w'=>AF k [Value.pointer (some ⟨K.bH,0,none⟩),S2.th,rc,.int .i64 3,.int .i64 (pc+1),.map (some b),.slice none 0 0,.pointer none] w'∧AF K.bH (eE K c S) w') (first | exact⟨p3,z3⟩) (fail)
  go_wp2_with fail;refine(hsp _ m3.drew).mono ?_;rintro e w5 ⟨rfl,pa,m4⟩;obtain⟨g5,c5,rfl,hc5,_⟩:=bf (m4.owns bp) (Nat.succ_pos _);go_wp2_with fail;refine(CM (x:=⟨rc,3,pc+1,names++ [y],z::pl,aU⟩) (l:=z::pl) (l0:=z::pl) (j:=0) (j':=0) (cc:=c5) (c':=c5) m4 (mT hd) (fun _=>rfl) rfl O_ hc5 ZV afb hca mF hcb O_).mono ?_;rintro e w6 ⟨rfl,L,o,m5⟩;go_wp2;go_ret;exact⟨rfl,L,o,(m5.perm dV).drop⟩
theorem adj{mv:Value}{gs j j' cc c' kg:Nat}{l0 pending:List Int}{p:Pu}(h:aq K c S ss w0 w (tL K k th ⟨rc,5,pc,names,pending,some p⟩ mv (.slice (some ⟨gs,j',none⟩) pending.length c') (some kg)::dA gs cc 3 1 l0.length (l0.map (Value.int .i64))::nC K kg 267 th p::F))(hd:dk K.toMk d∈F)(g:Gd n c S ss)(hr:0≤rc)(ht:S.th=th)(hn:n<900000000000)(ax:Ax S)(hp:Tn c p)(hl:pending=l0.drop j)(hjn:pending≠ []→j'=j)(hj:j+pending.length=l0.length)(hc:pending.length≤c')(hn0:l0.length<100000)(PZ:∀ x∈pending,0≤x∧x<c.S):
  b6 220 k d w (Post K c ss w0 F (qx K c th k) (Sc.step c ⟨rc,5,pc,names,pending,some p⟩ S)):=by
 subst ht;have hpm:aq K c S ss w0 w (nC K kg 267 S.th p::tL K k S.th ⟨rc,5,pc,names,pending,some p⟩ mv (.slice (some ⟨gs,j',none⟩) pending.length c') (some kg)::dA gs cc 3 1 l0.length (l0.map (Value.int .i64))::F):=h.perm ((mU _ (iC _ _ _)).trans (iC _ _ _));have hm:=lZ hpm (mT (mT hd)) g.I ax.1 ax.2 g.bb hp;obtain⟨q1,q2,q3,q4⟩:=vi c p S;have hI:=g.I.bd;have d0:decide (rc<0)=false:=dy O_;have p0:=h.af aj
 have hst:Sc.step c ⟨rc,5,pc,names,pending,some p⟩ S=match p.step c S with
   | (false,p,S)=>(false,⟨rc,5,pc,names,pending,some p⟩,S)
   | (true,p,S)=>Sc.free c ⟨rc,5,pc,names,pending,some p⟩ pending S:=rfl
 rw [hst];clear hst;have mF:=g.th;have hcb:=g.ca;have hbb:=g.b;have mG:=g.I.sl;generalize p.step c S=r at hm q1 q2 q3 q4 ⊢;obtain⟨b,p1,S1⟩:=r;simp only at hm q1 q2 q3 q4;have e2:S1.cache=S.cache:=by rw [PM.cache,PM.cache,q1,q2]
 cases b
 ·simp only
  go_enter func220,ntmps220;go_wp2_with fail;refine un hm fun w1 m1=>?_
  go_wp2;go_ret;exact⟨rfl,[_,_,_],fun _=>.free mv gs j j' cc c' kg l0 p1 rfl rfl hl hjn hj hc hn0,m1.perm ((iC _ _ _).trans (mU _ (iC _ _ _)))⟩
 ·simp only
  rw [←e2] at hcb;rw [←q1,←q2] at mF;have hfr:=fun(W:World) (h:aq K c S1 ss w0 W _)=>CM (S:=S1) (x:=⟨rc,5,pc,names,pending,some p1⟩) (mv:=mv) (gv:=.pointer (some ⟨kg,0,none⟩)) (cc:=cc) (d:=d) (F:=F) (k:=k) (g:=gs) (c':=c') h hd hjn hl hj hc hn0 (fun y hy=>⟨(PZ y hy).1,by have:=(PZ y hy).2;omega⟩) hI.2.2.2.2.2.2.2.2.2 mF hcb O_
  rw [q2] at hfr;clear hl;go_enter func220,ntmps220;go_wp2_with fail;refine un hm fun w1 m1=>?_
  go_wp2_with fail;refine(hfr _ m1.drop).mono ?_;exact Fc
theorem Ed{p:Pu}{pc:Nat}{R:Nat→Int}(h:EC c p pc R):Tn c p:=abb
theorem D3{x:Sc}{q:Nat}{R:Nat→Int}{e nm pd:List Int}{L:List En}(o:qx K c th k x L)(h:aq K c S ss w0 w (L++F))(hd:dk K.toMk d∈F)(g:Gd n c S ss)(ht:S.th=th)(hn:n<900000000000)(ax:Ax S)(ha:sX c x S q R e nm pd):
  b6 220 k d w (Post K c ss w0 F (qx K c th k) (x.step c S)):=by
 obtain⟨rc,az,pc,names,pending,aU⟩:=x;obtain⟨hrc,h0,ha⟩:=ha;have hrb:=g.I.JU;simp only at hrc ha;have hr:0≤rc∧rc<c.R:=O_
 obtain⟨PZ,_,L0,hp1,hne,_,hs⟩ | ⟨PZ,_,hs,_,L0,hp1,_⟩ | ⟨_,hs,_,hpx,p,hgi,hg⟩:=ha
 ·subst PZ
  have ho:L= [mY K k th ⟨rc,az,pc,names,[],aU⟩]:=by
   cases o with
   | look=>rfl
   | name b f q=>simp only at q;omega
   | free mv gs j j' cc c' kg l0 p q=>simp only at q;omega
  subst ho
  rcases hs with ⟨hs,_⟩ | ⟨hs,_⟩ | ⟨hs,_⟩<;>subst hs
  ·have e:Sc.step c ⟨rc,0,pc,names,[],aU⟩ S=if S.w (c.ad 8 pc)=1 then Sc.next c ⟨rc,0,pc,names,[],aU⟩ (S.load (c.ad 8 pc)) else(false,⟨rc,1,pc,names,[],aU⟩,S.load (c.ad 8 pc)):=rfl
   rw [e]
   by_cases hw:S.w (c.ad 8 pc)=1
   ·rw [aY hw];exact XP h hd g hr ⟨L0,hp1⟩ ax hw
   ·rw [aK hw];exact XQ h hd g hr ⟨L0,hp1⟩ ax hw
  ·have e:Sc.step c ⟨rc,1,pc,names,[],aU⟩ S=if S.w (c.ad 8 pc)=0 then(false,⟨rc,2,pc,names,[],aU⟩,((S.swap (c.ad 8 pc) 0 1).aV rc (S.bQ rc++S.bQ pc)).aV pc []) else Sc.next c ⟨rc,1,pc,names,[],aU⟩ (S.swap (c.ad 8 pc) 0 1):=rfl
   rw [e]
   by_cases hw:S.w (c.ad 8 pc)=0
   ·rw [aY hw]
    have lY:=g.I.li;obtain⟨r,rfl⟩:∃ r:Nat,rc=r:=⟨rc.toNat,O_⟩;obtain⟨p,rfl⟩:∃ p:Nat,pc=p:=⟨pc.toNat,O_⟩;exact XN h hd g hr O_ hp1 (fun q=>hne (by rw [q])) ax hw
   ·rw [aK hw];exact XO h hd g hr ⟨L0,hp1⟩ ax hw
  ·exact adk h hd g hr ⟨L0,hp1⟩ ax
 ·subst PZ hs
  have e:Sc.step c ⟨rc,3,pc,names,[],aU⟩ S=if pc+1<c.R*c.H then(false,⟨rc,3,pc+1,names++ [lk (S.w (c.ad 9 pc))],[],aU⟩,S.load (c.ad 9 pc)) else match Sc.split ⟨rc,3,pc+1,names++ [lk (S.w (c.ad 9 pc))],[],aU⟩ (S.load (c.ad 9 pc)) with
   | (s,S)=>Sc.free c s s.pending S:=rfl
  rw [e]
  cases o with
  | look q=>simp only at q;omega
  | free mv gs j j' cc c' kg l0 p q=>simp only at q;omega
  | name b f q PZ hnl hf=>
   by_cases hlt:pc+1<c.R*c.H
   ·rw [aY hlt];exact XM h hd g hr ax hf hnl ⟨L0,hp1⟩ hlt
   ·rw [aK hlt]
    obtain⟨r,rfl⟩:∃ r:Nat,rc=r:=⟨rc.toNat,O_⟩;exact XL h hd g hr ht hn ax hf hnl ⟨L0,hp1⟩ hlt
 ·subst hs hgi
  cases o with
  | look q=>simp only at q;omega
  | name b f q=>simp only at q;omega
  | free mv gs j j' cc c' kg l0 p' q hp hl hjn hj hc hn0=>
   injection hp with hp;subst hp;exact adj h hd g hr.1 ht hn ax (Ed hg) hl hjn hj hc hn0 hpx
theorem zW{x:Sc}(h:aq K c S ss w0 w (mY K k th x::F))(I:Inv c S.th S)(hr:0≤x.rc∧x.rc<c.R)(hp:x.pending= []):
  b6 219 k d w (Post K c ss w0 F (qx K c th k) (x.ready c S)):=by
 have hI:=I.bd;refine(BU h ⟨hI.2.2.1,hI.2.2.2.1⟩ I.li hr hp).mono ?_;rintro e w1 ⟨rfl,L,o,m⟩;refine⟨rfl,L,o,?_⟩;rw [Sc.ready,jd];exact m
end
section
variable{K:Ky}{c:Cf}{S:PM}{ss:List Sv}{w0 w w':World}{F H:List En}{d b n k kt th:Nat}{t:TypeId}{cs:List Value}
@[reducible] def FD(K:Ky)(k:Nat)(th:Int)(slot:Int)(sp:Value):En:=ob k 339 [some K.bH,th,slot,sp]
def zC(K:Ky)(c:Cf)(th:Int)(k:Nat)(r:Rt)(L:List En):Prop:=∃ s ks Ls,r.scan=some s∧qx K c th ks s Ls∧L=FD K k th r.slot (some ks)::Ls
theorem Ek{r:Nat}{s t':Int}{l:List Int}(hr:r<S.lists.length):((S.shift s t').aV r l).bQ r=l:=by
 simp [PM.bQ,PM.aV,PM.shift,g9 hr]
theorem oX{r:Rt}{q:Nat}{R:Nat→Int}{e nm pd:List Int}{L:List En}(o:zC K c th k r L)(h:aq K c S ss w0 w (L++F))(hd:dk K.toMk d∈F)(g:Gd n c S ss)(ht:S.th=th)(hn:n<900000000000)(ax:Ax S)(ha:mu c r S q R e nm pd):
  b6 233 k d w (Post K c ss w0 F (zC K c th k) (r.step c S)):=by
 obtain⟨slot,scan⟩:=r;obtain⟨s,ks,Ls,hs,os,rfl⟩:=o;obtain⟨s',hs',ha⟩:=ha;simp only at hs hs';rw [hs] at hs';injection hs' with hs';subst hs hs';have h1:aq K c S ss w0 w (Ls++FD K k th slot (some ks)::F):=h.perm dV.symm;have hm:=D3 os h1 (mT hd) g ht hn ax ha;have p0:=h.af (b:=k) aj;have e:Rt.step c ⟨slot,some s⟩ S=((s.step c S).1,⟨slot,some (s.step c S).2.1⟩,(s.step c S).2.2):=rfl;rw [e];generalize s.step c S=r at hm ⊢;clear e;go_enter func233,ntmps233;go_wp2_with fail;refine hm.mono ?_;rintro e w1 ⟨rfl,L,o,m1⟩;go_wp2;go_ret;exact⟨rfl,FD K k th slot (some ks)::L,fun q=>⟨_,_,_,rfl,o q,rfl⟩,m1.perm dV⟩
theorem lT{slot:Int}(h:aq K c S ss w0 w (FD K k S.th slot (.pointer none)::F))(hd:dk K.toMk d∈F)(g:Gd n c S ss)(hn:n<900000000000)(hr:0≤S.rc)(h0:0≤slot∧slot<c.S):
  b6 232 k d w (Post K c ss w0 F (zC K c S.th k) ((Rt.new slot).ready c S)):=by
 have hI:=g.I.bd;have hrb:=g.I.JU;have hL:=g.I.li;have dZ:=ko h g.hl;obtain⟨rc,hrc⟩:∃ r:Nat,S.rc=r:=⟨S.rc.toNat,O_⟩;rw [hrc] at dZ hrb;have hrl:rc<S.lists.length:=O_
 have b1:=g.li rc;have d1:decide ((rc:Int)<0)=false:=dy O_;have d2:decide (slot<0)=false:=dy O_;have d3:decide (c.S≤slot)=false:=dy O_;have d4:decide ((rc:Int)<(S.lists.length:Int))=true:=cM O_;have hN:n≤1000000000000:=O_
 have p0:=(⟨h.af aj,h.fF⟩:AF k _ _∧AF K.bH (eE K c S) _)
 have hsp:(Rt.new slot).ready c S=if((((S.shift slot 5).aV rc (S.bQ rc++ [slot]))).bQ rc).length<c.Re then(true,Rt.new slot,((S.shift slot 5).aV rc (S.bQ rc++ [slot]))) else(((Sc.new rc).ready c ((S.shift slot 5).aV rc (S.bQ rc++ [slot]))).1,⟨slot,some ((Sc.new rc).ready c ((S.shift slot 5).aV rc (S.bQ rc++ [slot]))).2.1⟩,((Sc.new rc).ready c ((S.shift slot 5).aV rc (S.bQ rc++ [slot]))).2.2):=by
  unfold Rt.ready;simp only;rw [←hrc]
  rfl
 rw [hsp];clear hsp;have hle:(((S.shift slot 5).aV rc (S.bQ rc++ [slot])).bQ rc).length=(S.bQ rc).length+1:=by rw [Ek hrl,gP];rfl
 have aaf:((S.shift slot 5).aV rc (S.bQ rc++ [slot])).lists.length=S.lists.length:=by simp [PM.aV,PM.shift]
 by_cases hsh:((S.bQ rc).length:Int)+1<c.Re
 ·rw [aY (by rw [hle];omega)]
  have d5:decide (((S.bQ rc).length:Int)+1<c.Re)=true:=cM hsh;go_enter func232,ntmps232;go_wp2_with fail;refine un dZ fun wz hw=>?_
  obtain rfl:=hw.symm;go_wp2
  go_region_held3 (fun w'=>AF k [Value.pointer (some ⟨K.bH,0,none⟩),S.th,slot,.pointer none] w'∧AF K.bH (eE K c S) w') (first | exact p0) (fail)
  go_wp2
  go_region_held3 (fun w'=>AF k [Value.pointer (some ⟨K.bH,0,none⟩),S.th,slot,.pointer none] w'∧AF K.bH (eE K c S) w') (first | exact p0 | exact bB) (first | ((with_reducible refine un (eN h.drew.drew (mT hd) g.s h0 tw5 hN) fun dx m1=>?_);have bB:=(⟨m1.af aj,m1.fF⟩:AF k _ _∧AF K.bH (eE K c S) _)))
  go_wp2_with fail;obtain⟨lv,hlv,mv⟩:=m1.vals;have hlv:lv.length=S.lists.length:=hlv;obtain⟨v1,iE⟩:∃ v,lv[rc]?=some v:=⟨_,fy O_⟩;have o1:dx.ownsRow w0.heap.size 3 1 v1 (S.bQ rc).length ((S.bQ rc).map (Value.int .i64)):=mv.own iE;obtain⟨A1,c1,rfl⟩:=aA o1;have Qb:=(mv.gi iE).1;have gf1:=(mv.gi iE).2;have hsz:=mv.sz;have gi3:=((mv.next ((bu dx).aE (.cells #[slot] 3))).gi iE).1;have hone:∀ u∈([slot]:List Value),u.oneCell'=true:=by intro u hu;simp at hu;rw [hu];rfl
  have hrd:∀ w',Ext (dx.alloc (.cells #[slot] 3)) w'→Rd w' (some ⟨dx.heap.size,0,none⟩) [slot]:=fun w' e=>(Rd.made dx [slot] 3).ext e
  have pE:∀ w',Ext dx w'→AF k [Value.pointer (some ⟨K.bH,0,none⟩),S.th,slot,.pointer none] w'∧AF K.bH (eE K c S) w':=fun w' e=>(⟨(m1.next e).af aj,(m1.next e).fF⟩:AF k _ _∧AF K.bH (eE K c S) _)
  go_cut [] (fun wx=>Hid (aq K c ((S.shift slot 5).aV rc (S.bQ rc++ [slot])) ss w0 wx (FD K k S.th slot (.pointer none)::F)))
  case first=>exact T_5
  have m2:=hcut.out;clear hcut m1 mv o1 Qb gf1 gi3 hone hrd pE p0 bB;obtain⟨lv,hlv,mv⟩:=m2.vals;rw [aaf] at hlv;obtain⟨v1,iE⟩:∃ v,lv[rc]?=some v:=⟨_,fy O_⟩;have o1:=mv.own iE;rw [hle] at o1;obtain⟨A1,c1,rfl⟩:=aA o1;have Qb:=(mv.gi iE).1;have p2:AF k [Value.pointer (some ⟨K.bH,0,none⟩),S.th,slot,.pointer none] wc∧AF K.bH (eE K c S) wc:=⟨m2.af aj,by have:=m2.fF;rwa [ic] at this⟩;go_wp2
  go_region_held3 (fun w'=>AF k [Value.pointer (some ⟨K.bH,0,none⟩),S.th,slot,.pointer none] w'∧AF K.bH (eE K c S) w'∧w'.cell? ⟨K.gi,rc,none⟩=some (.slice A1 ((S.bQ rc).length+1) c1)) (first | exact⟨p2.1,p2.2,Qb⟩) (fail)
  exact RV
 ·rw [aK (by rw [hle];omega)]
  have d5:decide (((S.bQ rc).length:Int)+1<c.Re)=false:=dy hsh;go_enter func232,ntmps232;go_wp2_with fail;refine un dZ fun wz hw=>?_
  obtain rfl:=hw.symm;go_wp2
  go_region_held3 (fun w'=>AF k [Value.pointer (some ⟨K.bH,0,none⟩),S.th,slot,.pointer none] w'∧AF K.bH (eE K c S) w') (first | exact p0) (fail)
  go_wp2
  go_region_held3 (fun w'=>AF k [Value.pointer (some ⟨K.bH,0,none⟩),S.th,slot,.pointer none] w'∧AF K.bH (eE K c S) w') (first | exact p0 | exact bB) (first | ((with_reducible refine un (eN h.drew.drew (mT hd) g.s h0 tw5 hN) fun dx m1=>?_);have bB:=(⟨m1.af aj,m1.fF⟩:AF k _ _∧AF K.bH (eE K c S) _)))
  go_wp2_with fail;obtain⟨lv,hlv,mv⟩:=m1.vals;have hlv:lv.length=S.lists.length:=hlv;obtain⟨v1,iE⟩:∃ v,lv[rc]?=some v:=⟨_,fy O_⟩;have o1:dx.ownsRow w0.heap.size 3 1 v1 (S.bQ rc).length ((S.bQ rc).map (Value.int .i64)):=mv.own iE;obtain⟨A1,c1,rfl⟩:=aA o1;have Qb:=(mv.gi iE).1;have gf1:=(mv.gi iE).2;have hsz:=mv.sz;have gi3:=((mv.next ((bu dx).aE (.cells #[slot] 3))).gi iE).1;have hone:∀ u∈([slot]:List Value),u.oneCell'=true:=by intro u hu;simp at hu;rw [hu];rfl
  have hrd:∀ w',Ext (dx.alloc (.cells #[slot] 3)) w'→Rd w' (some ⟨dx.heap.size,0,none⟩) [slot]:=fun w' e=>(Rd.made dx [slot] 3).ext e
  have pE:∀ w',Ext dx w'→AF k [Value.pointer (some ⟨K.bH,0,none⟩),S.th,slot,.pointer none] w'∧AF K.bH (eE K c S) w':=fun w' e=>(⟨(m1.next e).af aj,(m1.next e).fF⟩:AF k _ _∧AF K.bH (eE K c S) _)
  go_cut [] (fun wx=>Hid (aq K c ((S.shift slot 5).aV rc (S.bQ rc++ [slot])) ss w0 wx (FD K k S.th slot (.pointer none)::F)))
  case first=>exact T_5
  have m2:=hcut.out;clear hcut m1 mv o1 Qb gf1 gi3 hone hrd pE p0 bB;obtain⟨lv,hlv,mv⟩:=m2.vals;rw [aaf] at hlv;obtain⟨v1,iE⟩:∃ v,lv[rc]?=some v:=⟨_,fy O_⟩;have o1:=mv.own iE;rw [hle] at o1;obtain⟨A1,c1,rfl⟩:=aA o1;have Qb:=(mv.gi iE).1;have p2:AF k [Value.pointer (some ⟨K.bH,0,none⟩),S.th,slot,.pointer none] wc∧AF K.bH (eE K c S) wc:=⟨m2.af aj,by have:=m2.fF;rwa [ic] at this⟩;go_wp2
  go_region_held3 (fun w'=>AF k [Value.pointer (some ⟨K.bH,0,none⟩),S.th,slot,.pointer none] w'∧AF K.bH (eE K c S) w'∧w'.cell? ⟨K.gi,rc,none⟩=some (.slice A1 ((S.bQ rc).length+1) c1)) (first | exact⟨p2.1,p2.2,Qb⟩) (fail)
  have I2:Inv c S.th ((S.shift slot 5).aV rc (S.bQ rc++ [slot])):=(g.I.shift slot 5).aV (l:=S.bQ rc++ [slot]) (by intro x hx;rcases Bh.1 hx with q | q;exact g.I.Ej _ x q;rw [Bi.1 q];exact h0);have IP:=g.hl;have iF:((S.shift slot 5).aV rc (S.bQ rc++ [slot])).rc=rc:=hrc;go_wp2_with fail;refine(uR (S:=((S.shift slot 5).aV rc (S.bQ rc++ [slot]))) m2.drew IP).mono ?_;rintro e w5 ⟨ks,rfl,_,m5⟩;rw [iF] at m5;have p5:=m5.af bp;have m6:=m5.swap.put 3 (some ks);have p6:=m6.af aj;go_wp2_with fail;refine(zW (x:=.new rc) m6.swap I2 ⟨Int.natCast_nonneg rc,hrb.2⟩ rfl).mono ?_;rintro e w7 ⟨rfl,L,o,m7⟩;go_wp2;go_ret;exact⟨rfl,FD K k S.th slot (some ks)::L,fun q=>⟨_,_,_,rfl,o q,rfl⟩,m7.perm dV⟩
end
section
variable{K:Ky}{c:Cf}{S:PM}{ss:List Sv}{w0 w w':World}{F H:List En}{d b n k kt th:Nat}{t:TypeId}{cs:List Value}{p:Pp}{v rv:Value}
theorem qU(g:Gd n c S ss)(hr:0≤S.rc){i:Int}(h0:0≤i)(h1:i<c.H):0≤S.hz c i∧S.hz c i<S.words.length:=g.I.eX (r:=9) O_ O_ (g.I.Br hr h0 h1).1
theorem dQ(I:Inv c S.th S){x:Int}(h:Lw c x):0≤x∧x<8589934592∧lk x<1024:=⟨h.1,h.2.1,by have:=h.2.2;have:=I.bd;omega⟩
theorem Rq(I:Inv c S.th S):Lw c (S.w (c.ad 3 0)):=by
 obtain⟨_,_,_,pw⟩:=I.mq (r:=3) O_ O_ (I.kC S_);exact⟨pw.lo,pw.lw D_⟩
def ppF(pc:Int):Nat:=if pc=0 then 251 else if pc=1 then 253 else if pc=2 then 256 else if pc=3 then 257 else if pc=4 then 258 else if pc=5 then 259 else if pc=6 then 260 else 255
@[reducible] def yK(K:Ky)(k th:Nat)(v rv:Value)(p:Pp):En:=ob k 202 [some K.bH,some K.bA,th,v,.int .u64 p.top,.int .u64 p.behind,p.val,p.named,rv]
def uH(K:Ky)(c:Cf)(th k:Nat)(p:Pp)(L:List En):Prop:=
 (∃ f,L= [yK K k th (.func (.func f) #[some k] #[]) (.pointer none) p]∧f=ppF p.pc∧p.pc≠8)∨
 (p.pc=8∧∃ r kr Lr,p.ret=some r∧zC K c th kr r Lr∧L=yK K k th (.func (.func 233) #[some kr] #[]) (some kr) p::Lr)
theorem KW(h:aq K c S ss w0 w (yK K k th v (.pointer none) p::F))(hd:dk K.toMk d∈F)(g:Gd n c S ss)(hw:Lw c p.top):
  b6 252 k d w (Post K c ss w0 F (uH K c th k) (p.seen S)):=by
 have s1:=h.put 3 (.func (.func 253) #[some k] #[]);have p0:=h.af aj;have p1:=s1.af aj;have hwk:=dQ g.I hw;unfold Pp.seen
 by_cases hr:0≤lk p.top
 ·rw [aY hr]
  have dr:=cM hr;go_enter func252,ntmps252;go_wp2_with fail;refine un (j3 _ _ hwk) fun wz hw=>?_
  obtain rfl:=hw.symm;go_wp2;go_ret;exact⟨rfl,[_],fun _=>.inl ⟨_,rfl,rfl,S_⟩,s1⟩
 ·rw [aK hr]
  have dr:=dy hr;go_enter func252,ntmps252;go_wp2_with fail;refine un (j3 _ _ hwk) fun wz hw=>?_
  obtain rfl:=hw.symm;go_wp2_with fail;refine un (gK s1 (mT hd)) fun wz hw=>?_
  obtain rfl:=hw.symm;go_wp2_with fail;refine un (cX s1 (mT hd) g.s) fun ws2 s2=>?_
  have ps2:=s2.af aj;go_wp2_with fail;refine un (eV s2 (mT hd) g.s.aB) fun ws3 s3=>?_
  have ps3:=s3.af aj;have s4:=s3.put 3 (.func (.func 255) #[some k] #[]);have ps4:=s4.af aj;go_wp2;go_ret;exact⟨rfl,[_],fun _=>.inl ⟨_,rfl,rfl,S_⟩,s4⟩
theorem T4(h:aq K c S ss w0 w (yK K k th v (.pointer none) p::F))(hd:dk K.toMk d∈F)(g:Gd n c S ss)(ax:Ax S):
  b6 251 k d w (Post K c ss w0 F (uH K c th k) (Pp.seen {p with top:=S.w (c.ad 3 0)} (S.load (c.ad 3 0)))):=by
 have x:=g.I.kC (r:=3) S_;have a:=g.I.eX (r:=3) O_ O_ x;have p0:=h.af aj;have hw:Lw c (S.w (c.ad 3 0)):=Rq g.I;have IJ:=fun(W:World) (h:aq K c (S.load (c.ad 3 0)) ss w0 W (yK K k th v (.pointer none) {p with top:=S.w (c.ad 3 0)}::F))=>KW h hd (g.load _) hw
 generalize Pp.seen {p with top:=S.w (c.ad 3 0)} (S.load (c.ad 3 0))=r at IJ ⊢;go_enter func251,ntmps251;exact abH
theorem T3(h:aq K c S ss w0 w (yK K k th v (.pointer none) p::F))(hd:dk K.toMk d∈F)(g:Gd n c S ss)(ax:Ax S)(ht:S.th=th)(hr:0≤S.rc):
  b6 253 k d w (Post K c ss w0 F (uH K c th k) (false,{p with named:=true,pc:=2},S.store (S.hz c 0) p.top)):=by
 subst ht;have hH:=g.I.bd.2.2.2.2.1;have a:=qU g hr (i:=0) O_ O_;have hA:=fun(W:World) (h:aq K c S ss w0 W (yK K k S.th v (.pointer none) p::F))=>jj h g.I 0 hr O_ O_
 have p0:=h.af aj;go_enter func253,ntmps253;go_wp2
 go_region_held3 (mR p0) (first | exact p0 | exact bB | exact dN) (first | ((with_reducible refine un (hA _ h.drew) fun dx gx=>?_);have m1:=h.drew.next gx;have bB:=m1.af aj) | ((with_reducible refine un (cx m1 (mT hd) ax a) fun jP m2=>?_);have dN:=m2.af aj))
 have n2:=m2.put 7 true;have jA:=n2.af aj;exact NQ
theorem KX(h:aq K c S ss w0 w (yK K k th v (.pointer none) p::F))(hd:dk K.toMk d∈F)(g:Gd n c S ss)(ax:Ax S)(ht:S.th=th)(hr:0≤S.rc):
  b6 255 k d w (Post K c ss w0 F (uH K c th k) (true,p,S.store (S.hz c 0) 0)):=by
 subst ht;have hH:=g.I.bd.2.2.2.2.1;have a:=qU g hr (i:=0) O_ O_;have hA:=fun(W:World) (h:aq K c S ss w0 W (yK K k S.th v (.pointer none) p::F))=>jj h g.I 0 hr O_ O_
 have p0:=h.af aj;go_enter func255,ntmps255;go_wp2
 go_region_held3 (mR p0) (first | exact p0 | exact bB | exact dN) (first | ((with_reducible refine un (hA _ h.drew) fun dx gx=>?_);have m1:=h.drew.next gx;have bB:=m1.af aj) | ((with_reducible refine un (cx m1 (mT hd) ax a) fun jP m2=>?_);have dN:=m2.af aj))
 go_wp2;go_ret;exact⟨rfl,[_],fun q=>(by cases q),m2⟩
theorem K4(h:aq K c S ss w0 w (yK K k th v (.pointer none) p::F))(hd:dk K.toMk d∈F)(g:Gd n c S ss)(ax:Ax S)(hq:S.w (c.ad 3 0)=p.top):
  b6 256 k d w (Post K c ss w0 F (uH K c th k) (false,{p with pc:=3},S.load (c.ad 3 0))):=by
 have x:=g.I.kC (r:=3) S_;have a:=g.I.eX (r:=3) O_ O_ x;have p0:=h.af aj;have hb:(S.w (c.ad 3 0) !=p.top)=false:=by simp [hq]
 clear hq;go_enter func256,ntmps256;go_wp2_with fail;refine un (fN 3 h aj rfl g.I.ok O_ O_ x rfl) fun dx gx=>?_
 have m1:=h.next gx;have bB:=m1.af aj;go_wp2_with fail;refine un (bO m1 (mT hd) ax a) fun jP m2=>?_
 have dN:=m2.af aj;exact Sq
theorem KZ(h:aq K c S ss w0 w (yK K k th v (.pointer none) p::F))(hd:dk K.toMk d∈F)(g:Gd n c S ss)(ax:Ax S)(hq:S.w (c.ad 3 0)≠p.top):
  b6 256 k d w (Post K c ss w0 F (uH K c th k) (Pp.seen {p with top:=S.w (c.ad 3 0)} (S.load (c.ad 3 0)))):=by
 have x:=g.I.kC (r:=3) S_;have a:=g.I.eX (r:=3) O_ O_ x;have p0:=h.af aj;have hb:(S.w (c.ad 3 0) !=p.top)=true:=by simp [hq]
 clear hq;have hw:Lw c (S.w (c.ad 3 0)):=Rq g.I;have IJ:=fun(W:World) (h:aq K c (S.load (c.ad 3 0)) ss w0 W (yK K k th v (.pointer none) {p with top:=S.w (c.ad 3 0)}::F))=>KW h hd (g.load _) hw
 generalize Pp.seen {p with top:=S.w (c.ad 3 0)} (S.load (c.ad 3 0))=r at IJ ⊢;go_enter func256,ntmps256;exact abH
theorem KY(h:aq K c S ss w0 w (yK K k th v (.pointer none) p::F))(hd:dk K.toMk d∈F)(g:Gd n c S ss)(ax:Ax S)(hw:Lw c p.top)(h0:0≤lk p.top):
  b6 257 k d w (Post K c ss w0 F (uH K c th k) (false,{p with behind:=S.w (c.ad 13 (lk p.top)),pc:=4},S.load (c.ad 13 (lk p.top)))):=by
 have x:=g.I.iO (r:=13) S_ h0 hw.2.2;have a:=g.I.eX (r:=13) O_ O_ x;have hwk:=dQ g.I hw;have p0:=h.af aj;go_enter func257,ntmps257;go_wp2
 go_region_held3 (fun w'=>w'.cell? ⟨k,4,none⟩=some (.int .u64 p.top)) (first | exact p0.1 4 | exact bB.1 4 | exact dN.1 4 | exact jA.1 4) (first | ((with_reducible refine un (j3 _ _ hwk) fun wz hw=>?_);obtain rfl:=hw.symm) | (have C:=fN 13 h.drew aj rfl g.I.ok O_ O_ x rfl;(with_reducible refine C.mono ?_);clear C;rintro e dx ⟨rfl,gx⟩;have m1:=h.drew.next gx;have bB:=m1.af aj) | ((with_reducible refine un (bO m1 (mT hd) ax a) fun jP m2=>?_);have dN:=m2.af aj;have n2:=m2.put 5 (.int .u64 (S.w (c.ad 13 (lk p.top))));have jA:=n2.af aj))
 exact NQ
theorem T2(h:aq K c S ss w0 w (yK K k th v (.pointer none) p::F))(hd:dk K.toMk d∈F)(g:Gd n c S ss)(ax:Ax S)(hw:Lw c p.top)(h0:0≤lk p.top):
  b6 259 k d w (Post K c ss w0 F (uH K c th k) (false,{p with val:=wrap64 (S.w (c.ad 11 (lk p.top))),pc:=6},S.load (c.ad 11 (lk p.top)))):=by
 have x:=g.I.iO (r:=11) S_ h0 hw.2.2;have a:=g.I.eX (r:=11) O_ O_ x;have hwk:=dQ g.I hw;have p0:=h.af aj;go_enter func259,ntmps259;go_wp2
 go_region_held3 (fun w'=>w'.cell? ⟨k,4,none⟩=some (.int .u64 p.top)) (first | exact p0.1 4 | exact bB.1 4 | exact dN.1 4 | exact jA.1 4) (first | ((with_reducible refine un (j3 _ _ hwk) fun wz hw=>?_);obtain rfl:=hw.symm) | (have C:=fN 11 h.drew aj rfl g.I.ok O_ O_ x rfl;(with_reducible refine C.mono ?_);clear C;rintro e dx ⟨rfl,gx⟩;have m1:=h.drew.next gx;have bB:=m1.af aj) | ((with_reducible refine un (bO m1 (mT hd) ax a) fun jP m2=>?_);have dN:=m2.af aj;have n2:=m2.put 6 (.int .i64 (wrap64 (S.w (c.ad 11 (lk p.top)))));have jA:=n2.af aj) | ((with_reducible refine un (jZ _ _) fun wz hw=>?_);obtain rfl:=hw.symm))
 exact NQ
theorem T0(h:aq K c S ss w0 w (yK K k th v (.pointer none) p::F))(hd:dk K.toMk d∈F)(g:Gd n c S ss)(ax:Ax S)(hw:Lw c p.top)(h0:0≤lk p.top)(hn:n<900000000000):
  b6 258 k d w (Post K c ss w0 F (uH K c th k) (if S.w (c.ad 3 0)=p.top then(false,{p with pc:=5},((S.swap (c.ad 3 0) p.top p.behind).aB S.now).shift (lk p.top) 4) else(false,{p with pc:=0},S.swap (c.ad 3 0) p.top p.behind))):=by
 have x:=g.I.kC (r:=3) S_;have a:=g.I.eX (r:=3) O_ O_ x;have hwk:=dQ g.I hw;have p0:=h.af aj;have hs:0≤lk p.top∧lk p.top<c.S:=⟨h0,hw.2.2⟩;have hN:n≤1000000000000:=O_
 cases hb:decide (S.w (c.ad 3 0)=p.top)
 case false=>
  rw [aK (of_decide_eq_false hb)];go_enter func258,ntmps258;go_wp2
  go_region_held3 (mR p0) (first | exact p0 | exact bB | exact dN) (first | (have C:=fN 3 h.drew aj rfl g.I.ok O_ O_ x rfl;(with_reducible refine C.mono ?_);clear C;rintro e dx ⟨rfl,gx⟩;have m1:=h.drew.next gx;have bB:=m1.af aj) | ((with_reducible refine un (cD m1 (mT hd) ax a hb) fun jP m2=>?_);have dN:=m2.af aj))
  exact Sq
 case true=>
  rw [aY (of_decide_eq_true hb)];go_enter func258,ntmps258;go_wp2
  go_region_held3 (mR p0) (first | exact p0 | exact bB | exact dN) (first | (have C:=fN 3 h.drew aj rfl g.I.ok O_ O_ x rfl;(with_reducible refine C.mono ?_);clear C;rintro e dx ⟨rfl,gx⟩;have m1:=h.drew.next gx;have bB:=m1.af aj) | ((with_reducible refine un (cD m1 (mT hd) ax a hb) fun jP m2=>?_);have dN:=m2.af aj))
  go_wp2_with fail;refine un (gK m2 (mT hd)) fun wz hw=>?_
  obtain rfl:=hw.symm;go_wp2_with fail;refine un (cX m2 (mT hd) g.s.swap) fun zK m3=>?_
  have iq:=m3.af aj;go_wp2
  go_region_held3 (AF k [Value.pointer (some ⟨K.bH,0,none⟩),some K.bA,th,v,.int .u64 p.top,.int .u64 p.behind,p.val,p.named,.pointer none]) (first | exact iq | exact nB) (first | ((with_reducible refine un (j3 _ _ hwk) fun wz hw=>?_);obtain rfl:=hw.symm) | ((with_reducible refine un (eN m3.drew (mT hd) g.s.swap.aB hs Oz hN) fun Kh m4=>?_);have nB:=m4.af aj))
  go_wp2;go_ret;exact⟨rfl,[_],fun _=>.inl ⟨_,rfl,rfl,S_⟩,m4.put 3 _⟩
theorem KV(h:aq K c S ss w0 w (yK K k th v (.pointer none) p::F))(hd:dk K.toMk d∈F)(g:Gd n c S ss)(ax:Ax S)(ht:S.th=th)(hr:0≤S.rc)(hw:Lw c p.top)(h0:0≤lk p.top)(hn:n<800000000000):
  b6 260 k d w (Post K c ss w0 F (uH K c th k) (((Rt.new (lk p.top)).ready c ((S.store (S.hz c 0) 0).tell 2 p.val)).1,{p with ret:=some ((Rt.new (lk p.top)).ready c ((S.store (S.hz c 0) 0).tell 2 p.val)).2.1,pc:=8},((Rt.new (lk p.top)).ready c ((S.store (S.hz c 0) 0).tell 2 p.val)).2.2)):=by
 subst ht;have hH:=g.I.bd.2.2.2.2.1;have a:=qU g hr (i:=0) O_ O_;have hA:=fun(W:World) (h:aq K c S ss w0 W (yK K k S.th v (.pointer none) p::F))=>jj h g.I 0 hr O_ O_
 have hwk:=dQ g.I hw;have p0:=h.af aj;have hs:0≤lk p.top∧lk p.top<c.S:=⟨h0,hw.2.2⟩;have g2:Gd n c ((S.store (S.hz c 0) 0).tell 2 p.val) ss:=(g.store a (g.I.mZ (r:=9) S_ (g.I.Br hr O_ O_).1 (Lw.zero g.I))).tell _ _;have pX:=fun(W:World) (kr:Nat) (h:aq K c ((S.store (S.hz c 0) 0).tell 2 p.val) ss w0 W (FD K kr S.th (lk p.top) (.pointer none)::yK K k S.th (.func (.func 233) #[some kr] #[]) (some kr) p::F))=>lT h (mT hd) g2 O_ hr hs
 generalize (Rt.new (lk p.top)).ready c ((S.store (S.hz c 0) 0).tell 2 p.val)=r at pX ⊢;go_enter func260,ntmps260;go_wp2
 go_region_held3 (mR p0) (first | exact p0 | exact bB | exact dN) (first | ((with_reducible refine un (hA _ h.drew) fun dx gx=>?_);have m1:=h.drew.next gx;have bB:=m1.af aj) | ((with_reducible refine un (cx m1 (mT hd) ax a) fun jP m2=>?_);have dN:=m2.af aj))
 go_wp2_with fail;refine un (eV m2 (mT hd) g.s.store) fun zK m3=>?_
 have iq:=m3.af aj;go_wp2
 go_region_held3 (fun w'=>w'.cell? ⟨k,0,none⟩=some (some K.bH)∧w'.cell? ⟨k,2,none⟩=some (.int .i64 S.th)∧w'.cell? ⟨k,4,none⟩=some (.int .u64 p.top)) (first | exact⟨iq.1 0,iq.1 2,iq.1 4⟩ | exact⟨nB.1 0,nB.1 2,nB.1 4⟩ | exact⟨mM.1 0,mM.1 2,mM.1 4⟩) (first | ((with_reducible refine un (j3 _ _ hwk) fun wz hw=>?_);obtain rfl:=hw.symm) | ((with_reducible refine(fS m3.drew _ _).mono ?_);rintro e Kh ⟨Bp,rfl,_,m4⟩;have nB:=m4.af bp;have n4:=m4.swap.put 8 (some Bp);have mM:=n4.af aj))
 have n5:=n4.put 3 (.func (.func 233) #[some Bp] #[]);exact abm
theorem T1{R:Nat→Int}{pc:Nat}{bk nm pd:List Int}{O:List En}(h:aq K c S ss w0 w (O++F))(o:uH K c th k p O)(hd:dk K.toMk d∈F)(g:Gd n c S ss)(ht:S.th=th)(ax:Ax S)(hn:n<800000000000)(ha:wN c p S pc R bk nm pd):
  b6 241 k d w (Post K c ss w0 F (uH K c th k) (p.step c S)):=by
 obtain⟨r,hr'⟩:∃ r,r=p.step c S:=⟨_,rfl⟩;rw [←hr'];obtain⟨top,behind,val,named,ret,cZ⟩:=p;obtain⟨_,hr,_,_,ha⟩:=ha
 rcases o with ⟨f,rfl,hf,hne⟩ | ⟨hp,rr,kr,Lr,pG,ho,rfl⟩
 ·have p0:=h.af aj
  obtain⟨hp,_⟩ | ⟨hp,_⟩ | ⟨_,_,hw,h0,⟨hp,_⟩ | ⟨hp,_⟩ | ⟨_,⟨hp,_⟩ | ⟨hp,_,_,_⟩ | ⟨hp,_⟩ | ⟨hp,_⟩⟩⟩ | ⟨hp,_⟩:=ha<;>simp only at hp<;>subst hp
  ·replace hf:f=251:=hf
   subst hf;have hm:b6 251 k d w (Post K c ss w0 F (uH K c th k) r):=by rw [hr'];exact T4 h hd g ax
   clear hr';exact sV
  ·replace hf:f=255:=hf
   subst hf;have hm:b6 255 k d w (Post K c ss w0 F (uH K c th k) r):=by rw [hr'];exact KX h hd g ax ht hr
   clear hr';exact sV
  ·replace hf:f=253:=hf
   subst hf;have hm:b6 253 k d w (Post K c ss w0 F (uH K c th k) r):=by rw [hr'];exact T3 h hd g ax ht hr
   clear hr';exact sV
  ·replace hf:f=256:=hf
   subst hf
   have hm:b6 256 k d w (Post K c ss w0 F (uH K c th k) r):=by
    rw [hr'];have e:Pp.step c ⟨top,behind,val,named,ret,2⟩ S=if S.w (c.ad 3 0)=top then(false,⟨top,behind,val,named,ret,3⟩,S.load (c.ad 3 0)) else Pp.seen ⟨S.w (c.ad 3 0),behind,val,named,ret,2⟩ (S.load (c.ad 3 0)):=rfl;rw [e]
    by_cases hq:S.w (c.ad 3 0)=top
    ·rw [aY hq];exact K4 h hd g ax hq
    ·rw [aK hq];exact KZ h hd g ax hq
   clear hr';exact sV
  ·replace hf:f=257:=hf
   subst hf;have hm:b6 257 k d w (Post K c ss w0 F (uH K c th k) r):=by rw [hr'];exact KY h hd g ax hw h0
   clear hr';exact sV
  ·replace hf:f=258:=hf
   subst hf;have hm:b6 258 k d w (Post K c ss w0 F (uH K c th k) r):=by rw [hr'];exact T0 h hd g ax hw h0 O_
   clear hr';exact sV
  ·replace hf:f=259:=hf
   subst hf;have hm:b6 259 k d w (Post K c ss w0 F (uH K c th k) r):=by rw [hr'];exact T2 h hd g ax hw h0
   clear hr';exact sV
  ·replace hf:f=260:=hf
   subst hf;have hm:b6 260 k d w (Post K c ss w0 F (uH K c th k) r):=by rw [hr'];exact KV h hd g ax ht hr hw h0 hn
   clear hr';exact sV
  ·exact absurd rfl hne
 ·simp only at hp pG
  subst hp pG;obtain⟨hp,_⟩ | ⟨hp,_⟩ | ⟨_,_,_,_,⟨hp,_⟩ | ⟨hp,_⟩ | ⟨_,⟨hp,_⟩ | ⟨hp,_⟩ | ⟨hp,_⟩ | ⟨hp,_⟩⟩⟩ | ⟨_,_,_,r2,e,pG,_,hra⟩:=ha<;>try (simp only at hp;omega)
  simp only at pG;injection pG with pG;subst pG;have h1:=h.perm (G:=Lr++_::F) dV.symm;have hm:=oX ho h1 (mT hd) g ht O_ ax hra;have p0:=h.af (b:=k) aj;have e':Pp.step c ⟨top,behind,val,named,some rr,8⟩ S=((rr.step c S).1,⟨top,behind,val,named,some (rr.step c S).2.1,8⟩,(rr.step c S).2.2):=rfl;rw [hr',e'];clear hr' e';generalize rr.step c S=r2 at hm ⊢;go_enter func241,ntmps241;exact Tj
theorem O1(h:aq K c S ss w0 w (yK K k th v (.pointer none) p::F))(hv:v=.nilFunc):
  b6 250 k d w (Post K c ss w0 F (uH K c th k) (false,{p with pc:=0},S)):=by
 subst hv;have p0:=h.af aj;go_enter func250,ntmps250;go_wp2;go_ret;exact⟨rfl,[_],fun _=>.inl ⟨_,rfl,rfl,S_⟩,h.put 3 _⟩
end
section
variable{K:Ky}{c:Cf}{S:PM}{ss:List Sv}{w0 w w':World}{F H:List En}{d b n k kt th:Nat}{t:TypeId}{cs:List Value}{v rv:Value}
theorem aq.hold(h:aq K c S ss w0 w F)(r:Int):aq K c (S.hold r) ss w0 (w.setCell ⟨K.gh,S.th,none⟩ r) F:=by
 obtain⟨cv,lv,a,b,l,p,s,ah,q,h⟩:=h;refine⟨cv,lv,a,b,l,p,s,ah,q,?_⟩;have h1:=Has.fD (A:= [_,_,_,_,_,_,_,_,_,_,_,_]) h S.th r;unfold dS E7 JS DF JZ;simp only [PM.hold,tY,cW];exact h1
theorem aq.Eu(h:aq K c S ss w0 w F)(ht:S.th<S.held.length):w.cell? ⟨K.gh,S.th,none⟩=some (.int .i64 S.rc)∧w.frozen? ⟨K.gh,S.th,none⟩=false:=by
 refine⟨h.ZZ (FH ht rfl) ⟨w,bu w⟩,?_⟩;obtain⟨cv,lv,a,b,l,p,s,ah,q,h⟩:=h;exact h.gL (g:=K.gh) (c:=K.ch) Aj S.th
theorem Cz(K:Ky)(c:Cf)(S:PM)(r:Int):eE K c (S.hold r)=eE K c S:=by simp [eE,PM.hold]
@[reducible] def XZ(K:Ky)(k th:Nat)(i:Int)(seen:Bool):En:=ob k 175 [some K.bH,th,i,seen]
def Tl(K:Ky)(th k:Nat)(r:Rg)(L:List En):Prop:=L= [XZ K k th r.i r.seen]
@[reducible] def OQ(K:Ky)(k:Nat)(r:oS):En:=ob k 187 [some K.bH,r.addr,r.az,.int .u64 r.w,r.pt]
def Om(K:Ky)(k:Nat)(r:oS)(L:List En):Prop:=L= [OQ K k r]
@[reducible] def clE(k:Nat)(a:Int):En:=ob k 190 [a]
def ClO(k:Nat)(a:Int)(L:List En):Prop:=L= [clE k a]
theorem Rg.step_eq(c:Cf)(i:Int)(seen:Bool)(S:PM):Rg.step c ⟨i,seen⟩ S=if seen=true then(if S.w (c.ad 8 i)=0 then(true,⟨i,seen⟩,((S.swap (c.ad 8 i) 0 1).hold i).tell 2 i) else Rg.on c ⟨i,seen⟩ (S.swap (c.ad 8 i) 0 1)) else if S.w (c.ad 8 i)=1 then Rg.on c ⟨i,seen⟩ (S.load (c.ad 8 i)) else(false,⟨i,true⟩,S.load (c.ad 8 i)):=rfl
variable{i:Int}
theorem XX(h:aq K c S ss w0 w (XZ K k S.th i false::F))(hd:dk K.toMk d∈F)(g:Gd n c S ss)(ax:Ax S)(hi:0≤i∧i<c.R)(hw:S.w (c.ad 8 i)≠1):
  b6 215 k d w (Post K c ss w0 F (Tl K S.th k) (false,⟨i,true⟩,S.load (c.ad 8 i))):=by
 have xi:=g.I.IF hi.1 hi.2;have ai:=g.I.eX (r:=8) O_ O_ xi;have ha:=yh g.I hi;have hI:=g.I.bd;have p0:=(⟨h.af aj,h.fF⟩:AF k _ _∧AF K.bH (eE K c S) _);have hw1:IntKind.i64.wrap (i+1)=i+1:=ei O_ O_;have hb:(S.w (c.ad 8 i) !=1)=true:=by simp [hw]
 clear hw;go_enter func215,ntmps215;go_wp2
 go_region_held3 (Jy p0) (first | exact p0 | exact bB) (first | ((with_reducible refine un (bO h.drew (mT hd) ax ai) fun dx m1=>?_);have bB:=(⟨m1.af aj,m1.fF⟩:AF k _ _∧AF K.bH (eE K c S) _)))
 go_wp2;go_ret;exact⟨rfl,[_],fun _=>rfl,m1.put 3 _⟩
theorem XW(h:aq K c S ss w0 w (XZ K k S.th i false::F))(hd:dk K.toMk d∈F)(g:Gd n c S ss)(ax:Ax S)(hi:0≤i∧i<c.R)(hw:S.w (c.ad 8 i)=1):
  b6 215 k d w (Post K c ss w0 F (Tl K S.th k) (Rg.on c ⟨i,false⟩ (S.load (c.ad 8 i)))):=by
 have xi:=g.I.IF hi.1 hi.2;have ai:=g.I.eX (r:=8) O_ O_ xi;have ha:=yh g.I hi;have hI:=g.I.bd;have p0:=(⟨h.af aj,h.fF⟩:AF k _ _∧AF K.bH (eE K c S) _);have hw1:IntKind.i64.wrap (i+1)=i+1:=ei O_ O_;have hb:(S.w (c.ad 8 i) !=1)=false:=by simp [hw]
 clear hw
 by_cases hlt:i+1<c.R
 ·rw [Rg.on,aY hlt]
  have d1:decide (i+1<c.R)=true:=cM hlt;go_enter func215,ntmps215;go_wp2
  go_region_held3 (Jy p0) (first | exact p0 | exact bB) (first | ((with_reducible refine un (bO h.drew (mT hd) ax ai) fun dx m1=>?_);have bB:=(⟨m1.af aj,m1.fF⟩:AF k _ _∧AF K.bH (eE K c S) _)))
  have q3:=m1.cell (i:=3) aj rfl;go_wp2_with fail;refine qE fun z1=>?_
  have m2:=m1.iD z1;have dN:=(⟨m2.af aj,m2.fF⟩:AF k _ _∧AF K.bH (eE K c S) _);go_wp2_with fail;have n1:=m2.put 3 false;exact abI
 ·rw [Rg.on,aK hlt]
  have d1:decide (i+1<c.R)=false:=dy hlt;go_enter func215,ntmps215;go_wp2
  go_region_held3 (Jy p0) (first | exact p0 | exact bB) (first | ((with_reducible refine un (bO h.drew (mT hd) ax ai) fun dx m1=>?_);have bB:=(⟨m1.af aj,m1.fF⟩:AF k _ _∧AF K.bH (eE K c S) _)))
  have q3:=m1.cell (i:=3) aj rfl;go_wp2_with fail;refine qE fun z1=>?_
  have m2:=m1.iD z1;have dN:=(⟨m2.af aj,m2.fF⟩:AF k _ _∧AF K.bH (eE K c S) _);go_wp2_with fail;have n1:=m2.put 3 false;have gM:=n1.af aj;have n2:=n1.put 2 (.int .i64 (i+1));have jA:AF k [Value.pointer (some ⟨K.bH,0,none⟩),S.th,.int .i64 (i+1),false] _∧AF K.bH (eE K c S) _:=⟨n2.af aj,n2.fF⟩;go_wp2
  go_region_held3 (fun w'=>AF k [Value.pointer (some ⟨K.bH,0,none⟩),S.th,.int .i64 (i+1),false] w'∧AF K.bH (eE K c S) w') (first | exact jA) (fail)
  go_wp2_with fail;refine un (eV n2.drew (mT hd) g.s.load) fun w9 m9=>?_
  exact NB
theorem XV(h:aq K c S ss w0 w (XZ K k S.th i true::F))(hd:dk K.toMk d∈F)(g:Gd n c S ss)(ax:Ax S)(hi:0≤i∧i<c.R)(hw:S.w (c.ad 8 i)≠0):
  b6 215 k d w (Post K c ss w0 F (Tl K S.th k) (Rg.on c ⟨i,true⟩ (S.swap (c.ad 8 i) 0 1))):=by
 have xi:=g.I.IF hi.1 hi.2;have ai:=g.I.eX (r:=8) O_ O_ xi;have ha:=yh g.I hi;have hI:=g.I.bd;have p0:=(⟨h.af aj,h.fF⟩:AF k _ _∧AF K.bH (eE K c S) _);have hw1:IntKind.i64.wrap (i+1)=i+1:=ei O_ O_;have hb:decide (S.w (c.ad 8 i)=0)=false:=dy hw;clear hw
 by_cases hlt:i+1<c.R
 ·rw [Rg.on,aY hlt]
  have d1:decide (i+1<c.R)=true:=cM hlt;have q3:=h.cell (i:=3) aj rfl;go_enter func215,ntmps215;go_wp2_with fail;refine qE fun z1=>?_
  have h:=h.iD z1;have p0:=(⟨h.af aj,h.fF⟩:AF k _ _∧AF K.bH (eE K c S) _);go_wp2
  go_region_held3 (Jy p0) (first | exact p0 | exact bB) (first | ((with_reducible refine un (cD h.drew (mT hd) ax ai hb) fun dx m1=>?_);have bB:=(⟨m1.af aj,m1.fF⟩:AF k _ _∧AF K.bH (eE K c S) _)))
  go_wp2_with fail;have n1:=m1.put 3 false;exact abI
 ·rw [Rg.on,aK hlt]
  have d1:decide (i+1<c.R)=false:=dy hlt;have q3:=h.cell (i:=3) aj rfl;go_enter func215,ntmps215;go_wp2_with fail;refine qE fun z1=>?_
  have h:=h.iD z1;have p0:=(⟨h.af aj,h.fF⟩:AF k _ _∧AF K.bH (eE K c S) _);go_wp2
  go_region_held3 (Jy p0) (first | exact p0 | exact bB) (first | ((with_reducible refine un (cD h.drew (mT hd) ax ai hb) fun dx m1=>?_);have bB:=(⟨m1.af aj,m1.fF⟩:AF k _ _∧AF K.bH (eE K c S) _)))
  go_wp2_with fail;have n1:=m1.put 3 false;have gM:=n1.af aj;have n2:=n1.put 2 (.int .i64 (i+1));have jA:AF k [Value.pointer (some ⟨K.bH,0,none⟩),S.th,.int .i64 (i+1),false] _∧AF K.bH (eE K c S) _:=⟨n2.af aj,n2.fF⟩;go_wp2
  go_region_held3 (fun w'=>AF k [Value.pointer (some ⟨K.bH,0,none⟩),S.th,.int .i64 (i+1),false] w'∧AF K.bH (eE K c S) w') (first | exact jA) (fail)
  go_wp2_with fail;refine un (eV n2.drew (mT hd) g.s.swap) fun w9 m9=>?_
  exact NB
theorem XU(h:aq K c S ss w0 w (XZ K k S.th i true::F))(hd:dk K.toMk d∈F)(g:Gd n c S ss)(ax:Ax S)(hi:0≤i∧i<c.R)(hw:S.w (c.ad 8 i)=0):
  b6 215 k d w (Post K c ss w0 F (Tl K S.th k) (true,⟨i,true⟩,((S.swap (c.ad 8 i) 0 1).hold i).tell 2 i)):=by
 have xi:=g.I.IF hi.1 hi.2;have ai:=g.I.eX (r:=8) O_ O_ xi;have ha:=yh g.I hi;have hI:=g.I.bd;have p0:=(⟨h.af aj,h.fF⟩:AF k _ _∧AF K.bH (eE K c S) _);have hw1:IntKind.i64.wrap (i+1)=i+1:=ei O_ O_;have hb:decide (S.w (c.ad 8 i)=0)=true:=cM hw;clear hw;have IP:=g.hl;have d1:decide ((S.th:Int)<(S.held.length:Int))=true:=cM O_;have q3:=h.cell (i:=3) aj rfl;go_enter func215,ntmps215;go_wp2_with fail;refine qE fun z1=>?_
 have h:=h.iD z1;have p0:=(⟨h.af aj,h.fF⟩:AF k _ _∧AF K.bH (eE K c S) _);go_wp2
 go_region_held3 (Jy p0) (first | exact p0 | exact bB) (first | ((with_reducible refine un (cD h.drew (mT hd) ax ai hb) fun dx m1=>?_);have bB:=(⟨m1.af aj,m1.fF⟩:AF k _ _∧AF K.bH (eE K c S) _)))
 go_wp2_with fail;have m2:aq K c ((S.swap (c.ad 8 i) 0 1).hold i) ss w0 _ _:=m1.hold i;obtain⟨gh1,gh2⟩:dx.cell? ⟨K.gh,S.th,none⟩=some (.int .i64 S.rc)∧dx.frozen? ⟨K.gh,S.th,none⟩=false:=m1.Eu IP;have pn:AF k [Value.pointer (some ⟨K.bH,0,none⟩),S.th,i,true] (dx.setCell ⟨K.gh,S.th,none⟩ i)∧AF K.bH (eE K c S) (dx.setCell ⟨K.gh,S.th,none⟩ i):=⟨m2.af aj,by have:=m2.fF;rw [Cz] at this;exact this⟩;have g2:Gs n c ((S.swap (c.ad 8 i) 0 1).hold i) ss:=⟨g.s.sl,g.s.b,g.s.cur,g.s.tt,g.s.t⟩
 go_region_held3 (fun w'=>AF k [Value.pointer (some ⟨K.bH,0,none⟩),S.th,i,true] w'∧AF K.bH (eE K c S) w') (first | exact bB | exact pn) (fail)
 go_wp2_with fail;refine un (eV m2.drew (mT hd) g2) fun w9 m9=>?_
 exact NB
theorem TP{r:Rg}{q:Nat}{R:Nat→Int}{bk nm pd:List Int}{O:List En}(h:aq K c S ss w0 w (O++F))(o:Tl K S.th k r O)(hd:dk K.toMk d∈F)(g:Gd n c S ss)(ax:Ax S)(ha:wM c r S q R bk nm pd):
  b6 215 k d w (Post K c ss w0 F (Tl K S.th k) (r.step c S)):=by
 obtain⟨i,seen⟩:=r;obtain⟨_,_,h0,h1,_⟩:=ha;simp only at h0 h1;unfold Tl at o;subst o;rw [Rg.step_eq]
 cases seen
 ·rw [aK S_]
  by_cases hw:S.w (c.ad 8 i)=1
  ·rw [aY hw];exact XW h hd g ax ⟨h0,h1⟩ hw
  ·rw [aK hw];exact XX h hd g ax ⟨h0,h1⟩ hw
 ·rw [aY rfl]
  by_cases hw:S.w (c.ad 8 i)=0
  ·rw [aY hw];exact XU h hd g ax ⟨h0,h1⟩ hw
  ·rw [aK hw];exact XV h hd g ax ⟨h0,h1⟩ hw
theorem Rj{r:oS}{u:Int}(h:aq K c S ss w0 w (OQ K k r::F))(hd:dk K.toMk d∈F)(g:Gs n c S ss):
  Calls prog 236 #[some k,some d,.int .u64 u] w (Post K c ss w0 F (Om K k) (r.Hv u S)):=by
 have p0:=h.af aj;have n1:=h.put 3 (.int .u64 u);have gM:=n1.af aj;have n2:=n1.put 2 (.int .i64 1);unfold oS.Hv
 by_cases hu:u=0
 ·rw [aY hu]
  have hb:(u !=0)=false:=by simp [hu]
  clear hu;go_in;go_wp2_with fail;refine un (gK n2 (mT hd)) fun wz hw=>?_
  obtain rfl:=hw.symm;go_wp2_with fail;refine un (cX n2 (mT hd) g) fun ws2 s2=>?_
  have ps2:=s2.af aj;go_wp2_with fail;refine un (eV s2 (mT hd) g.aB) fun ws3 s3=>?_
  have ps3:=s3.af aj;go_wp2;go_ret;exact⟨rfl,[_],fun q=>(by cases q),s3⟩
 ·rw [aK hu]
  have hb:(u !=0)=true:=by simp [hu]
  clear hu;go_in;go_wp2;go_ret;exact⟨rfl,[_],fun _=>rfl,n2⟩
variable{addr w1 pt:Int}
theorem adw(h:aq K c S ss w0 w (OQ K k ⟨addr,0,w1,pt⟩::F))(hd:dk K.toMk d∈F)(g:Gd n c S ss)(ax:Ax S):
  b6 235 k d w (Post K c ss w0 F (Om K k) (oS.Hv ⟨addr,0,w1,pt⟩ (S.w (c.ad 2 0)) (S.load (c.ad 2 0)))):=by
 have xi:=g.I.kC (r:=2) S_;have ai:=g.I.eX (r:=2) O_ O_ xi;have p0:=h.af aj;have z0:=h.fF;have IJ:=fun(W:World) (h:aq K c (S.load (c.ad 2 0)) ss w0 W (OQ K k ⟨addr,0,w1,pt⟩::F))=>Rj (u:=(S.w (c.ad 2 0))) h hd g.s.load
 generalize oS.Hv ⟨addr,0,w1,pt⟩ (S.w (c.ad 2 0)) (S.load (c.ad 2 0))=r at IJ ⊢;exact S8
theorem adv(h:aq K c S ss w0 w (OQ K k ⟨addr,1,w1,pt⟩::F))(hd:dk K.toMk d∈F)(_:Gd n c S ss)(ax:Ax S)(ha:0≤addr∧addr<S.words.length):
  b6 235 k d w (Post K c ss w0 F (Om K k) (false,⟨addr,2,w1,pt⟩,S.store addr w1)):=by
 have p0:=h.af aj;go_enter func235,ntmps235;go_wp2
 go_region_held3 (mR p0) (first | exact p0 | exact bB) (first | ((with_reducible refine un (cx h.drew (mT hd) ax ha) fun dx m1=>?_);have bB:=m1.af aj))
 go_wp2;go_ret;exact⟨rfl,[_],fun _=>rfl,m1.put 2 _⟩
theorem X1(h:aq K c S ss w0 w (OQ K k ⟨addr,2,w1,pt⟩::F))(hd:dk K.toMk d∈F)(g:Gd n c S ss)(ax:Ax S)(hw:(S.w (c.ad 2 0))=w1):
  b6 235 k d w (Post K c ss w0 F (Om K k) (false,⟨addr,3,w1,S.now⟩,S.load (c.ad 2 0))):=by
 have xi:=g.I.kC (r:=2) S_;have ai:=g.I.eX (r:=2) O_ O_ xi;have p0:=h.af aj;have z0:=h.fF;have hb:((S.w (c.ad 2 0)) !=w1)=false:=by simp [hw]
 clear hw;go_enter func235,ntmps235;go_wp2_with fail;refine un (bO h (mT hd) ax ai) fun dx m1=>?_
 have bB:=m1.af aj;go_wp2_with fail;refine un (gK m1 (mT hd)) fun wz hw=>?_
 obtain rfl:=hw.symm;have n1:=m1.put 4 S.now;have gM:=n1.af aj;go_wp2;go_ret;exact⟨rfl,[_],fun _=>rfl,n1.put 2 _⟩
theorem X2(h:aq K c S ss w0 w (OQ K k ⟨addr,2,w1,pt⟩::F))(hd:dk K.toMk d∈F)(g:Gd n c S ss)(ax:Ax S)(hw:(S.w (c.ad 2 0))≠w1):
  b6 235 k d w (Post K c ss w0 F (Om K k) (oS.Hv ⟨addr,2,w1,pt⟩ (S.w (c.ad 2 0)) (S.load (c.ad 2 0)))):=by
 have xi:=g.I.kC (r:=2) S_;have ai:=g.I.eX (r:=2) O_ O_ xi;have p0:=h.af aj;have z0:=h.fF;have IJ:=fun(W:World) (h:aq K c (S.load (c.ad 2 0)) ss w0 W (OQ K k ⟨addr,2,w1,pt⟩::F))=>Rj (u:=(S.w (c.ad 2 0))) h hd g.s.load
 generalize oS.Hv ⟨addr,2,w1,pt⟩ (S.w (c.ad 2 0)) (S.load (c.ad 2 0))=r at IJ ⊢;have hb:((S.w (c.ad 2 0)) !=w1)=true:=by simp [hw]
 clear hw;exact S8
theorem adu(h:aq K c S ss w0 w (OQ K k ⟨addr,3,w1,pt⟩::F))(hd:dk K.toMk d∈F)(g:Gd n c S ss)(ax:Ax S)(hw:Lw c w1)(h0:0≤lk w1):
  b6 235 k d w (Post K c ss w0 F (Om K k) (true,⟨addr,3,w1,pt⟩,((S.load (c.ad 11 (lk w1))).aB pt).tell 2 (wrap64 (S.w (c.ad 11 (lk w1)))))):=by
 have hs:0≤lk w1∧lk w1<c.S:=⟨h0,hw.2.2⟩;have xi:=g.I.iO (r:=11) S_ hs.1 hs.2;have ai:=g.I.eX (r:=11) O_ O_ xi;have ha:=RQ g.I hs;have hwk:=dQ g.I hw;have p0:=h.af aj;have z0:=h.fF;go_enter func235,ntmps235;go_wp2_with fail;refine un (jr _ _ hwk.1 hwk.2.1 hwk.2.2) fun wz hw=>?_
 obtain rfl:=hw.symm;go_wp2_with fail;refine un (bO h (mT hd) ax ai) fun dx m1=>?_
 have bB:=m1.af aj;go_wp2_with fail;refine un (jZ _ _) fun wz hw=>?_
 obtain rfl:=hw.symm;go_wp2_with fail;refine un (cX m1 (mT hd) g.s.load) fun jP m2=>?_
 have dN:=m2.af aj;go_wp2_with fail;refine un (eV m2 (mT hd) g.s.load.aB) fun zK m3=>?_
 have iq:=m3.af aj;go_wp2;go_ret;exact⟨rfl,[_],fun q=>(by cases q),m3⟩
theorem TQ{r:oS}{q:Nat}{R:Nat→Int}{bk nm pd:List Int}{O:List En}(h:aq K c S ss w0 w (O++F))(o:Om K k r O)(hd:dk K.toMk d∈F)(g:Gd n c S ss)(ax:Ax S)(ha:pS c r S q R bk nm pd):
  b6 235 k d w (Post K c ss w0 F (Om K k) (r.step c S)):=by
 obtain⟨addr,az,w1,pt⟩:=r;obtain⟨_,_,i,hi,xi,_,ha⟩:=ha;simp only at hi ha;unfold Om at o;subst o;have hA:0≤addr∧addr<S.words.length:=by rw [hi];exact g.I.eX (r:=9) O_ O_ xi
 rcases ha with ⟨hs,_⟩ | ⟨_,hw,h0,⟨hs,_⟩ | ⟨hs,_⟩ | ⟨hs,_⟩⟩<;>subst hs
 ·exact adw h hd g ax
 ·exact adv h hd g ax hA
 ·have e:oS.step c ⟨addr,2,w1,pt⟩ S=if S.w (c.ad 2 0)=w1 then(false,⟨addr,3,w1,S.now⟩,S.load (c.ad 2 0)) else oS.Hv ⟨addr,2,w1,pt⟩ (S.w (c.ad 2 0)) (S.load (c.ad 2 0)):=rfl
  rw [e]
  by_cases hq:S.w (c.ad 2 0)=w1
  ·rw [aY hq];exact X1 h hd g ax hq
  ·rw [aK hq];exact X2 h hd g ax hq
 ·exact adu h hd g ax hw h0
theorem Wb{a:Int}(h:aq K c S ss w0 w (clE k a::F))(hd:dk K.toMk d∈F)(_:Gd n c S ss)(ax:Ax S)(ha:0≤a∧a<S.words.length):
  b6 239 k d w (Post K c ss w0 F (ClO k) (true,a,S.store a 0)):=by
 have p0:=h.af aj;go_enter func239,ntmps239;go_wp2_with fail;refine un (cx h (mT hd) ax ha) fun dx m1=>?_
 have bB:=m1.af aj;go_wp2;go_ret;exact⟨rfl,[_],fun q=>(by cases q),m1⟩
end
theorem aq.kI{K:Ky}{c:Cf}{S:PM}{ss:List Sv}{w0 w:World}{A F:List En}(h:aq K c S ss w0 w (A++F)):aq K c S ss w0 w F:=by
 induction A with
 | nil=>exact h
 | cons x A ih=>exact ih (aq.drop (x:=x) h)
section
variable{c:Cf}{S S1:PM}{ss:List Sv}{n:Nat}
structure Ga(n:Nat)(c:Cf)(S S1:PM)(ss:List Sv):Prop where
 I:Inv c S.th S1
 th:S1.th=S.th
 ca:S1.cache.length<100000
 s:Gs n c S1 ss
 kp:Kp S S1
theorem Ga.mk'(g:Gd n c S ss){m:Nat}(I:Inv c S.th S1)(kp:Kp S S1)(ca:S1.cache.length<100000)(b:S1.aG.length≤S.aG.length+m):Ga (n+m) c S S1 ss:=
 ⟨I,kp.fr.th,ca,⟨I.sl,by have:=g.b;omega,by rw [kp.cur,kp.fr.le];exact g.cur,by rw [kp.fr.th];have:=I.ag;have:=I.tK;omega,by have h1:=g.t;have h2:=g.I.ag;have h3:=I.ag;omega⟩,kp⟩
theorem vM(hca:c.Ca≤64):∀ (l:List Int) (s:Sc) (S:PM),S.th<S.aO.length→(Sc.free c s l S).2.2.aG.length≤S.aG.length+l.length∧(S.cache.length<100000→(Sc.free c s l S).2.2.cache.length<100000)
 | [],s,S,_=>⟨bZ _,fun h=>h⟩
 | x::l,s,S,ht=>by
  obtain⟨h1,h2,_,h4,h5⟩:=nA (.aU x) S hca;rw [zf];generalize (Pu.aU x).ready c S=r at h1 h2 h4 h5 ⊢;obtain⟨b,p,S1⟩:=r;simp only at h1 h2 h4 h5
  cases b
  ·exact⟨by rw [ij];simp only;omega,fun h=>h5 ht h⟩
  ·simp only
   obtain⟨q1,q2⟩:=vM hca l {s with aU:=some p} S1 (by rw [h1,h2];exact ht);exact⟨by rw [ij];omega,fun h=>q2 (h5 ht h)⟩
theorem KD(g:Gd n c S ss){s:Sc}(uA:s.pending.length<100000)(hrc:s.pending= []∨s.az=5):(s.step c S).2.2.aG.length≤S.aG.length+100001∧(s.step c S).2.2.cache.length<100000:=by
 have hca:=g.I.bd.2.2.2.2.2.2.2.2.2;have hc:=g.ca;have ht:=g.th;obtain⟨rc,az,pc,names,pending,aU⟩:=s;unfold Sc.step;simp only
 split
 ·split
  ·exact Nz
  ·exact Nr
 split
 ·split
  ·exact Nr
  ·exact Nz
 split
 ·exact Nz
 split
 ·split
  ·exact Nr
  ·rename_i h5 _
   have hp:pending= []:=hrc.resolve_right (by show¬az=5;omega);subst hp;obtain⟨q1,q2⟩:=vM hca (Sc.split ⟨rc,az,pc+1,names++ [lk (S.w (c.ad 9 pc))],[],aU⟩ (S.load (c.ad 9 pc))).1.pending (Sc.split ⟨rc,az,pc+1,names++ [lk (S.w (c.ad 9 pc))],[],aU⟩ (S.load (c.ad 9 pc))).1 (Sc.split ⟨rc,az,pc+1,names++ [lk (S.w (c.ad 9 pc))],[],aU⟩ (S.load (c.ad 9 pc))).2 ht;refine⟨sY q1 ?_,q2 hc⟩;have hl:=g.li rc;have:=Dz (fun x=>!(decide (x∈names++ [lk (S.w (c.ad 9 pc))]))) (S.bQ rc)
   show S.aG.length+([]++(S.bQ rc).filter fun x=>!(decide (x∈names++ [lk (S.w (c.ad 9 pc))]))).length≤_
   rw [mX];omega
 ·cases aU with
  | none=>exact⟨by show S.aG.length≤_;omega,hc⟩
  | some p=>
   obtain⟨k1,k2,k3,_⟩:=vi c p S;simp only;generalize p.step c S=r at k1 k2 k3 ⊢;obtain⟨b,p1,S1⟩:=r;simp only at k1 k2 k3;have e:S1.cache=S.cache:=by rw [PM.cache,PM.cache,k1,k2]
   cases b
   ·exact⟨by simp only;omega,by simp only;rw [e];exact hc⟩
   ·simp only
    obtain⟨q1,q2⟩:=vM hca pending ⟨rc,az,pc,names,pending,some p1⟩ S1 (by rw [k1,k2];exact ht);exact⟨by have:pending.length<100000:=uA;omega,q2 (by rw [e];exact hc)⟩
theorem KE(g:Gd n c S ss){s:Sc}{pc:Nat}{R:Nat→Int}{e nm pd:List Int}(aZ:R 47=0)(ha:sX c s S pc R e nm pd)(uA:s.pending.length<100000):Ga (n+100001) c S (s.step c S).2.2 ss:=by
 obtain⟨I,kp,_⟩:=uq (X:= []) (bs:= []) g.I aZ ha
 have hrc:s.pending= []∨s.az=5:=by
  obtain⟨_,_,⟨h,_⟩ | ⟨h,_⟩ | ⟨_,h,_⟩⟩:=ha
  ·exact .inl h
  ·exact .inl h
  ·exact .inr h
 obtain⟨q1,q2⟩:=KD g uA hrc;exact Ga.mk' g I kp q2 q1
theorem sk{K:Ky}{th k:Nat}{s:Sc}{L:List En}(o:qx K c th k s L):s.pending.length<100000:=by
 cases o with
 | look _ hp=>rw [hp];simp
 | name b f _ hp=>rw [hp];simp
 | free mv g j j' cc c' kg l0 p _ _ _ _ hj _ hn=>omega
theorem D6(g:Gd n c S ss){K:Ky}{th k:Nat}{r:Rt}{L:List En}(o:zC K c th k r L){pc:Nat}{R:Nat→Int}{e nm pd:List Int}(aZ:R 47=0)(ha:mu c r S pc R e nm pd):Ga (n+100001) c S (r.step c S).2.2 ss:=by
 obtain⟨slot,scan⟩:=r;obtain⟨s,ks,Ls,hs,os,rfl⟩:=o;obtain⟨s',hs',ha⟩:=ha;simp only at hs hs';rw [hs] at hs';injection hs' with hs';subst hs hs';exact KE g aZ ha (sk os)
theorem FC(g:Gd n c S ss){x:Int}(hr:0≤S.rc)(h0:0≤x∧x<c.S):Ga (n+1) c S ((Rt.new x).ready c S).2.2 ss:=by
 obtain⟨I,kp,_⟩:=ki (X:= []) (v:=false) (R:=fun i=>if i=20 then u64 x else 0) (bs:= []) (nm:= []) (pd:= []) g.I hr h0.1 h0.2 S_;refine Ga.mk' g I kp ?_ ?_
 ·have:((Rt.new x).ready c S).2.2.cache=S.cache:=by
   unfold Rt.ready;simp only
   split
   ·rfl
   ·rw [Sc.ready,jd];rfl
  rw [this];exact g.ca
 ·unfold Rt.ready
  simp only
  split
  ·simp [PM.aV,PM.shift]
  ·rw [Sc.ready,jd];simp [PM.aV,PM.shift]
end
section
variable{K:Ky}{c:Cf}{S:PM}{ss:List Sv}{w0 w w':World}{F H:List En}{d b n k kt th:Nat}{t:TypeId}{cs:List Value}{tv rv:Value}{p:Po}
theorem CZ(w:World):cm 230 #[] w (.agg #[.int .i64 1,.int .i64 0]) fun w'=>Ext w w':=by
 go_enter func230,ntmps230;go_wp2_with fail;refine DL (Fh rfl _ _ w.heap.size 112 _ (0,0) _ rfl (yo _ _) underlying112 rfl K_) rfl ⟨rfl,(bu w).aE _⟩
theorem pwC(I:Inv c S.th S){s:Int}(h:0≤s∧s<c.S):Pw c (kd c (c.ad 2 0)) (pk s):=by
 obtain⟨_,_,e,_⟩:=I.mq (r:=2) O_ O_ (I.kC S_);rw [e];have:=I.bd;have h1:lk (pk s)=s:=Cq O_ O_;refine⟨?_,?_,fun h=>O_,fun _=>⟨?_,by rw [h1];exact h.2⟩,fun h=>O_,fun _=>?_⟩<;>(unfold pk;omega)
theorem Ko(I:Inv c S.th S){x:Tk}{pc:Nat}{R:Nat→Int}{e nm pd:List Int}(h:sS c x S pc R e nm pd):(x.step c S).1=true→(x.step c S).2.1.res<c.S:=by
 have hI:=I.bd;obtain⟨_,ht,⟨h,_⟩ | ⟨h,_,hw,_⟩ | ⟨h,_,hw,_⟩⟩:=h
 ·unfold Tk.step
  rw [aY h]
  split<;>intro q
  ·show Tk.res _<_
   unfold Tk.res;rw [aK (by simp [ht])];omega
  ·cases q
 ·unfold Tk.step
  rw [aK O_,aY h];intro q;cases q
 ·unfold Tk.step
  rw [aK O_,aK O_]
  split<;>intro q
  ·exact hw.2.2.2
  ·cases q
@[reducible] def DE(K:Ky)(k:Nat)(th st:Int)(tv rv:Value)(p:Po):En:=ob k 183 [some K.bH,th,p.val,st,tv,.int .u64 p.link,.int .u64 p.dR,rv]
def GL(K:Ky)(c:Cf)(th k:Nat)(p:Po)(L:List En):Prop:=
 (p.az≠4∧∃ kt,L= [DE K k th p.az (some kt) (.pointer none) p,gr K kt th p.take])∨
 (p.az=4∧∃ r kr tv Lr,p.ret=some r∧zC K c th kr r Lr∧L=DE K k th 4 tv (some kr) p::Lr)
variable{val link dR:Int}{take:Tk}{ret:Option Rt}
theorem K7(h:aq K c S ss w0 w (DE K k S.th 0 (some kt) (.pointer none) ⟨val,0,take,link,dR,ret⟩::gr K kt S.th take::F))(hd:dk K.toMk d∈F)(g:Gs n c S ss)(hS:c.S≤1024)(hx:take.res<c.S):
  b6 226 k d w (Post K c ss w0 F (GL K c S.th k) (Po.jJ ⟨val,0,take,link,dR,ret⟩ S)):=by
 have p0:=h.af aj;have n1:=h.put 5 (.int .u64 (pk take.res));have gM:=n1.af aj;have e:Po.jJ ⟨val,0,take,link,dR,ret⟩ S=if take.res<0 then(true,⟨val,0,take,link,dR,ret⟩,(S.aB S.now).tell 4 0) else(false,⟨val,1,take,pk take.res,dR,ret⟩,S):=rfl;rw [e];clear e
 by_cases hr:take.res<0
 ·rw [aY hr]
  have dr:=cM hr;go_enter func226,ntmps226;exact abJ
 ·rw [aK hr]
  have dr:=dy hr;have hk:=fun W=>tA take.res W O_ O_
  go_enter func226,ntmps226;go_wp2_with fail;refine un (cz h bp) fun wz hw=>?_
  obtain rfl:=hw.symm;go_wp2_with fail;refine un (cz h bp) fun wz hw=>?_
  obtain rfl:=hw.symm;go_wp2_with fail;refine un (hk _) fun wz hw=>?_
  obtain rfl:=hw.symm;exact Sl
theorem adZ(h:aq K c S ss w0 w (DE K k S.th 0 (some kt) (.pointer none) ⟨val,0,take,link,dR,ret⟩::gr K kt S.th take::F))(hd:dk K.toMk d∈F)(g:Gd n c S ss)(ax:Ax S)(hx:RR c take)(hn:n<800000000000)(Au:(take.step c S).1=true→(take.step c S).2.1.res<c.S):
  b6 225 k d w (Post K c ss w0 F (GL K c S.th k) (Po.step c ⟨val,0,take,link,dR,ret⟩ S)):=by
 have hm:=iI h.swap (mT hd) g.I ax.1 ax.2 g.bb hx;have g1:=g.DV hx;have xu:=(Gd.yy (c:=c) (S:=S) take).1;have hS:=g.I.bd.2.1;have p0:=h.af aj;have z0:=h.fF;have e:Po.step c ⟨val,0,take,link,dR,ret⟩ S=Po.behind ⟨val,0,take,link,dR,ret⟩ (take.step c S):=rfl;rw [e];clear e;generalize take.step c S=r at hm g1 xu Au ⊢;obtain⟨b,x,S1⟩:=r;simp only at hm g1 xu Au
 cases b
 ·simp only [Po.behind]
  go_enter func225,ntmps225;go_wp2_with fail;refine un (hm) fun dx m1=>?_
  have bB:=m1.af aj;go_wp2;go_ret;exact⟨rfl,[_,_],fun _=>.inl ⟨S_,_,rfl⟩,m1.swap⟩
 ·simp only [Po.behind]
  have tC:=fun(W:World) (h:aq K c S1 ss w0 W (DE K k S1.th 0 (some kt) (.pointer none) ⟨val,0,x,link,dR,ret⟩::gr K kt S1.th x::F))=>K7 h hd g1.s hS (Au rfl)
  rw [xu] at tC;clear Au;generalize Po.jJ ⟨val,0,x,link,dR,ret⟩ S1=r3 at tC ⊢;go_enter func225,ntmps225;exact SU
theorem adY(h:aq K c S ss w0 w (DE K k S.th 1 (some kt) (.pointer none) ⟨val,1,take,link,dR,ret⟩::gr K kt S.th take::F))(hd:dk K.toMk d∈F)(g:Gd n c S ss)(ax:Ax S)(hx:0≤take.res∧take.res<c.S):
  b6 225 k d w (Post K c ss w0 F (GL K c S.th k) (false,⟨val,2,take,link,dR,ret⟩,S.store (c.ad 11 take.res) (u64 val))):=by
 have hI:=g.I.bd;have p0:=(⟨h.af aj,h.fF⟩:AF k _ _∧AF K.bH (eE K c S) _);have xi:=g.I.iO (r:=11) S_ hx.1 hx.2;have a:=g.I.eX (r:=11) O_ O_ xi;have ha:=RQ g.I hx;go_enter func225,ntmps225;go_wp2
 go_region_held3 (Jy p0) (first | exact p0 | exact dN) (first | ((with_reducible refine un (cz h.drew bp) fun wz hw=>?_);obtain rfl:=hw.symm) | ((with_reducible refine un (kA _ _) fun wz hw=>?_);obtain rfl:=hw.symm) | ((with_reducible refine un (cx h.drew (mT (mT hd)) ax a) fun jP m2=>?_);have dN:=(⟨m2.af aj,m2.fF⟩:AF k _ _∧AF K.bH (eE K c S) _)))
 go_wp2;go_ret;exact⟨rfl,[_,_],fun _=>.inl ⟨S_,_,rfl⟩,m2.put 3 _⟩
theorem adX(h:aq K c S ss w0 w (DE K k S.th 2 (some kt) (.pointer none) ⟨val,2,take,link,dR,ret⟩::gr K kt S.th take::F))(hd:dk K.toMk d∈F)(g:Gd n c S ss)(ax:Ax S):
  b6 225 k d w (Post K c ss w0 F (GL K c S.th k) (false,⟨val,3,take,link,S.w (c.ad 2 0),ret⟩,S.load (c.ad 2 0))):=by
 have xi:=g.I.kC (r:=2) S_;have ai:=g.I.eX (r:=2) O_ O_ xi;have p0:=h.af aj;have z0:=h.fF;go_enter func225,ntmps225;go_wp2_with fail;refine un (bO h (mT (mT hd)) ax ai) fun dx m1=>?_
 have bB:=m1.af aj;have n1:=m1.put 6 (.int .u64 (S.w (c.ad 2 0)));have gM:=n1.af aj;exact Sl
theorem Yj(h:aq K c S ss w0 w (DE K k S.th 3 (some kt) (.pointer none) ⟨val,3,take,link,dR,ret⟩::gr K kt S.th take::F))(hd:dk K.toMk d∈F)(g:Gd n c S ss)(ax:Ax S)(hb:decide (S.w (c.ad 2 0)=dR)=false):
  b6 225 k d w (Post K c ss w0 F (GL K c S.th k) (false,⟨val,2,take,link,dR,ret⟩,S.swap (c.ad 2 0) dR link)):=by
 have xi:=g.I.kC (r:=2) S_;have ai:=g.I.eX (r:=2) O_ O_ xi;have hI:=g.I.bd;have p0:=(⟨h.af aj,h.fF⟩:AF k _ _∧AF K.bH (eE K c S) _);go_enter func225,ntmps225;go_wp2
 go_region_held3 (Jy p0) (first | exact p0 | exact bB) (first | ((with_reducible refine un (cD h.drew (mT (mT hd)) ax ai hb) fun dx m1=>?_);have bB:=(⟨m1.af aj,m1.fF⟩:AF k _ _∧AF K.bH (eE K c S) _)))
 go_wp2;go_ret;exact⟨rfl,[_,_],fun _=>.inl ⟨S_,_,rfl⟩,m1.put 3 _⟩
theorem Yk(h:aq K c S ss w0 w (DE K k S.th 3 (some kt) (.pointer none) ⟨val,3,take,link,dR,ret⟩::gr K kt S.th take::F))(hd:dk K.toMk d∈F)(g:Gd n c S ss)(ax:Ax S)(hx:0≤take.res∧take.res<c.S)(hn:n<800000000000)(hw:Lw c dR)(hb:decide (S.w (c.ad 2 0)=dR)=true)(he:lk dR<0):
  b6 225 k d w (Post K c ss w0 F (GL K c S.th k) (true,⟨val,3,take,link,dR,ret⟩,((((S.swap (c.ad 2 0) dR link).aB S.now).tell 1 0).shift take.res 3))):=by
 have xi:=g.I.kC (r:=2) S_;have ai:=g.I.eX (r:=2) O_ O_ xi;have hI:=g.I.bd;have p0:=(⟨h.af aj,h.fF⟩:AF k _ _∧AF K.bH (eE K c S) _);have hN:n+2≤1000000000000:=O_
 have hN1:n+1≤1000000000000:=O_
 have hN:n≤1000000000000:=O_
 have hwk:=dQ g.I hw;have F4:=fun W=>jr dR W hwk.1 hwk.2.1 hwk.2.2
 have de:=cM he;go_enter func225,ntmps225;go_wp2
 go_region_held3 (Jy p0) (first | exact p0 | exact bB) (first | ((with_reducible refine un (cD h.drew (mT (mT hd)) ax ai hb) fun dx m1=>?_);have bB:=(⟨m1.af aj,m1.fF⟩:AF k _ _∧AF K.bH (eE K c S) _)))
 go_wp2_with fail;refine un (gK m1 (mT (mT hd))) fun wz hw=>?_
 obtain rfl:=hw.symm;go_wp2_with fail;refine un (cX m1 (mT (mT hd)) g.s.swap) fun jP m2=>?_
 have dN:=m2.af aj;go_wp2_with fail;refine un (CZ _) fun wd ed=>?_
 have m2:=m2.next ed;go_wp2_with fail;refine un (eV m2 (mT (mT hd)) g.s.swap.aB) fun zK m3=>?_
 have iq:=m3.af aj;have pz3:=(⟨m3.af aj,m3.fF⟩:AF k _ _∧AF K.bH (eE K c S) _);go_wp2
 go_region_held3 (fun w'=>AF k [Value.pointer (some ⟨K.bH,0,none⟩),S.th,val,.int .i64 3,some kt,.int .u64 link,.int .u64 dR,.pointer none] w'∧AF K.bH (eE K c S) w') (first | exact pz3 | exact nB) (first | ((with_reducible refine un (cz m3.drew bp) fun wz hw=>?_);obtain rfl:=hw.symm) | ((with_reducible refine un (eN m3.drew (mT (mT hd)) g.s.swap.aB.tell hx Xz hN) fun Kh m4=>?_);have nB:=(⟨m4.af aj,m4.fF⟩:AF k _ _∧AF K.bH (eE K c S) _)))
 go_wp2_with fail;refine un (F4 _) fun wz hw=>?_
 obtain rfl:=hw.symm;go_wp2;go_ret;exact⟨rfl,[_,_],fun q=>(by cases q),m4⟩
theorem Yi(h:aq K c S ss w0 w (DE K k S.th 3 (some kt) (.pointer none) ⟨val,3,take,link,dR,ret⟩::gr K kt S.th take::F))(hd:dk K.toMk d∈F)(g:Gd n c S ss)(ax:Ax S)(hx:0≤take.res∧take.res<c.S)(hn:n<800000000000)(hr:0≤S.rc)(hw:Lw c dR)(hlk:link=pk take.res)(hb:decide (S.w (c.ad 2 0)=dR)=true)(he:0≤lk dR):
  b6 225 k d w (Post K c ss w0 F (GL K c S.th k) (((Rt.new (lk dR)).ready c (((((S.swap (c.ad 2 0) dR link).aB S.now).tell 1 0).shift take.res 3).shift (lk dR) 4)).1,⟨val,4,take,link,dR,some ((Rt.new (lk dR)).ready c (((((S.swap (c.ad 2 0) dR link).aB S.now).tell 1 0).shift take.res 3).shift (lk dR) 4)).2.1⟩,((Rt.new (lk dR)).ready c (((((S.swap (c.ad 2 0) dR link).aB S.now).tell 1 0).shift take.res 3).shift (lk dR) 4)).2.2)):=by
 have xi:=g.I.kC (r:=2) S_;have ai:=g.I.eX (r:=2) O_ O_ xi;have hI:=g.I.bd;have p0:=(⟨h.af aj,h.fF⟩:AF k _ _∧AF K.bH (eE K c S) _);have hN:n+2≤1000000000000:=O_
 have hN1:n+1≤1000000000000:=O_
 have hN:n≤1000000000000:=O_
 have hwk:=dQ g.I hw;have F4:=fun W=>jr dR W hwk.1 hwk.2.1 hwk.2.2
 have de:decide (lk dR<0)=false:=dy O_;have hs:0≤lk dR∧lk dR<c.S:=⟨he,hw.2.2⟩;have g2:Gd (n+1+1) c (((((S.swap (c.ad 2 0) dR link).aB S.now).tell 1 0).shift take.res 3).shift (lk dR) 4) ss:=((((g.swap (o:=dR) ai (fun _=>by rw [hlk];exact pwC g.I hx)).aB _).tell _ _).shift _ _).shift _ _;have pX:=fun(W:World) (kr:Nat) (h:aq K c (((((S.swap (c.ad 2 0) dR link).aB S.now).tell 1 0).shift take.res 3).shift (lk dR) 4) ss w0 W (FD K kr S.th (lk dR) (.pointer none)::DE K k S.th 4 (some kt) (some kr) ⟨val,4,take,link,dR,ret⟩::gr K kt S.th take::F))=>lT h (mT (mT hd)) g2 O_ hr hs
 clear hlk;generalize (Rt.new (lk dR)).ready c (((((S.swap (c.ad 2 0) dR link).aB S.now).tell 1 0).shift take.res 3).shift (lk dR) 4)=r at pX ⊢;go_enter func225,ntmps225;go_wp2
 go_region_held3 (Jy p0) (first | exact p0 | exact bB) (first | ((with_reducible refine un (cD h.drew (mT (mT hd)) ax ai hb) fun dx m1=>?_);have bB:=(⟨m1.af aj,m1.fF⟩:AF k _ _∧AF K.bH (eE K c S) _)))
 go_wp2_with fail;refine un (gK m1 (mT (mT hd))) fun wz hw=>?_
 obtain rfl:=hw.symm;go_wp2_with fail;refine un (cX m1 (mT (mT hd)) g.s.swap) fun jP m2=>?_
 have dN:=m2.af aj;go_wp2_with fail;refine un (CZ _) fun wd ed=>?_
 have m2:=m2.next ed;go_wp2_with fail;refine un (eV m2 (mT (mT hd)) g.s.swap.aB) fun zK m3=>?_
 have iq:=m3.af aj;have pz3:=(⟨m3.af aj,m3.fF⟩:AF k _ _∧AF K.bH (eE K c S) _);go_wp2
 go_region_held3 (fun w'=>AF k [Value.pointer (some ⟨K.bH,0,none⟩),S.th,val,.int .i64 3,some kt,.int .u64 link,.int .u64 dR,.pointer none] w'∧AF K.bH (eE K c S) w') (first | exact pz3 | exact nB) (first | ((with_reducible refine un (cz m3.drew bp) fun wz hw=>?_);obtain rfl:=hw.symm) | ((with_reducible refine un (eN m3.drew (mT (mT hd)) g.s.swap.aB.tell hx Xz hN) fun Kh m4=>?_);have nB:=(⟨m4.af aj,m4.fF⟩:AF k _ _∧AF K.bH (eE K c S) _)))
 go_wp2_with fail;refine un (F4 _) fun wz hw=>?_
 obtain rfl:=hw.symm;go_wp2_with fail;refine un (eN m4 (mT (mT hd)) g.s.swap.aB.tell.shift hs Oz hN1) fun wm5 m5=>?_
 have pm5:=m5.af aj;go_wp2_with fail;refine(fS m5 _ _).mono ?_;rintro e w6 ⟨kr,rfl,_,m6⟩;have p6:=m6.af bp;have n7:=m6.swap.put 7 (some kr);have p7:=n7.af aj;have n8:=n7.put 3 (.int .i64 4);have p8:=n8.af aj;go_wp2_with fail;refine(pX _ kr n8.swap).mono ?_;rintro e w9 ⟨rfl,L,o,m9⟩;go_wp2;go_ret;exact⟨rfl,_::L,fun q=>.inr ⟨rfl,_,_,_,_,rfl,o q,rfl⟩,((m9.perm (dV.trans (mU _ dV))).swap).drop⟩
theorem adW{r:Rt}{kr q:Nat}{R:Nat→Int}{e nm pd:List Int}{Lr:List En}(h:aq K c S ss w0 w (DE K k S.th 4 tv (some kr) ⟨val,4,take,link,dR,some r⟩::(Lr++F)))(hd:dk K.toMk d∈F)(g:Gd n c S ss)(ax:Ax S)(hn:n<800000000000)(o:zC K c S.th kr r Lr)(ha:mu c r S q R e nm pd):
  b6 225 k d w (Post K c ss w0 F (GL K c S.th k) (Po.step c ⟨val,4,take,link,dR,some r⟩ S)):=by
 have h1:=h.perm (G:=Lr++_::F) dV.symm;have hm:=oX o h1 (mT hd) g rfl O_ ax ha;have p0:=h.af (b:=k) aj;have e':Po.step c ⟨val,4,take,link,dR,some r⟩ S=((r.step c S).1,⟨val,4,take,link,dR,some (r.step c S).2.1⟩,(r.step c S).2.2):=rfl;rw [e'];clear e';generalize r.step c S=r2 at hm ⊢;go_enter func225,ntmps225;go_wp2_with fail;refine hm.mono ?_;rintro e w2 ⟨rfl,L,o,m2⟩;go_wp2;go_ret;exact⟨rfl,_::L,fun q=>.inr ⟨rfl,_,_,_,_,rfl,o q,rfl⟩,m2.perm dV⟩
theorem T5{q:Nat}{R:Nat→Int}{bk nm pd:List Int}{O:List En}(h:aq K c S ss w0 w (O++F))(o:GL K c S.th k p O)(hd:dk K.toMk d∈F)(g:Gd n c S ss)(ax:Ax S)(hn:n<800000000000)(ha:nP c p S q R bk nm pd):
  b6 225 k d w (Post K c ss w0 F (GL K c S.th k) (p.step c S)):=by
 obtain⟨val,st,take,link,dR,ret⟩:=p;obtain⟨_,hr,_,ha⟩:=ha;simp only at ha
 rcases o with ⟨q,kt,rfl⟩ | ⟨q,r,kr,tv,Lr,pG,o,rfl⟩
 ·rcases ha with ⟨hs,_,hx⟩ | ⟨hs,_,_,hx,_,_,hl⟩ | ⟨hs,_,_,hx,_,_,hl⟩ | ⟨hs,_,_,hx,_,_,hl,_,hw⟩ | ⟨hs,_⟩<;>subst hs
  ·exact adZ h hd g ax (uP hx) hn (Ko g.I hx)
  ·exact adY h hd g ax hx
  ·exact adX h hd g ax
  ·by_cases hb:S.w (c.ad 2 0)=dR
   ·by_cases he:lk dR<0
    ·have e:Po.step c ⟨val,3,take,link,dR,ret⟩ S=(true,⟨val,3,take,link,dR,ret⟩,((((S.swap (c.ad 2 0) dR link).aB S.now).tell 1 0).shift take.res 3)):=by
      unfold Po.step;simp only [show¬((3:Int)=0) from D_,show¬((3:Int)=1) from D_,show¬((3:Int)=2) from D_,eu,dL,aY hb,aY he]
     rw [e];exact Yk h hd g ax hx hn hw (cM hb) he
    ·have e:Po.step c ⟨val,3,take,link,dR,ret⟩ S=(((Rt.new (lk dR)).ready c (((((S.swap (c.ad 2 0) dR link).aB S.now).tell 1 0).shift take.res 3).shift (lk dR) 4)).1,⟨val,4,take,link,dR,some ((Rt.new (lk dR)).ready c (((((S.swap (c.ad 2 0) dR link).aB S.now).tell 1 0).shift take.res 3).shift (lk dR) 4)).2.1⟩,((Rt.new (lk dR)).ready c (((((S.swap (c.ad 2 0) dR link).aB S.now).tell 1 0).shift take.res 3).shift (lk dR) 4)).2.2):=by
      unfold Po.step;simp only [show¬((3:Int)=0) from D_,show¬((3:Int)=1) from D_,show¬((3:Int)=2) from D_,eu,dL,aY hb,aK he]
     rw [e];exact Yi h hd g ax hx hn hr hw hl (cM hb) O_
   ·have e:Po.step c ⟨val,3,take,link,dR,ret⟩ S=(false,⟨val,2,take,link,dR,ret⟩,S.swap (c.ad 2 0) dR link):=by
     unfold Po.step;simp only [show¬((3:Int)=0) from D_,show¬((3:Int)=1) from D_,show¬((3:Int)=2) from D_,eu,dL,aK hb]
    rw [e];exact Yj h hd g ax (dy hb)
  ·exact absurd rfl q
 ·simp only at q pG
  subst q pG
  rcases ha with ⟨hs,_⟩ | ⟨hs,_⟩ | ⟨hs,_⟩ | ⟨hs,_⟩ | ⟨_,_,r2,e,pG,_,hra⟩<;>try omega
  injection pG with pG;subst pG;exact adW h hd g ax hn o hra
theorem O4(h:aq K c S ss w0 w (DE K k S.th 0 (.pointer none) (.pointer none) ⟨val,0,take,link,dR,ret⟩::F))(hd:dk K.toMk d∈F)(g:Gd n c S ss)(hn:n<800000000000):
  b6 224 k d w (Post K c ss w0 F (GL K c S.th k) (Po.ready ⟨val,0,take,link,dR,ret⟩ S)):=by
 have hm:=fun(W:World) (kt:Nat) (h:aq K c S ss w0 W (gr K kt S.th .new::DE K k S.th 0 (some kt) (.pointer none) ⟨val,0,take,link,dR,ret⟩::F))=>gS h (mT hd) D_ g.th g.Xm g.ca g.bb
 have g1:=g.zP .new;have xu:=(Gd.yy (c:=c) (S:=S) .new).2;have hS:=g.I.bd.2.1;have mG:0<S.slots.length:=by have:=g.I.sl;have:=g.I.bd;omega
 have Au:(Tk.new.ready S).1=true→(Tk.new.ready S).2.1.res<c.S:=by
  unfold Tk.ready
  split
  ·intro q;cases q
  ·rename_i s hs
   intro _;exact(g.I.kJ s (JJ hs)).2
 have e:Po.ready ⟨val,0,take,link,dR,ret⟩ S=Po.behind ⟨val,0,take,link,dR,ret⟩ (Tk.new.ready S):=rfl;rw [e];clear e;generalize Tk.new.ready S=r at hm g1 xu Au ⊢;obtain⟨b,x,S1⟩:=r;simp only at hm g1 xu Au
 cases b
 ·simp only [Po.behind]
  go_enter func224,ntmps224;go_wp2
  go_region_held3 (fun w'=>w'.cell? ⟨k,0,none⟩=some (some K.bH)∧w'.cell? ⟨K.bH,0,none⟩=some (some K.bA)∧w'.cell? ⟨k,1,none⟩=some (.int .i64 S.th)) (first | exact⟨(h.all aj) 0,(h.fF).1 0,(h.all aj) 1⟩ | exact⟨(m1.all bp) 0,(m1.fF).1 0,(m1.all bp) 1⟩ | exact⟨(n1.all aj) 0,(n1.fF).1 0,(n1.all aj) 1⟩) (first | ((with_reducible refine(nr h.drew _ mG).mono ?_);rintro e dx ⟨Bq,rfl,_,m1⟩;have bB:=m1.af bp;have n1:=m1.swap.put 4 (some Bq);have gM:=n1.af aj))
  go_wp2_with fail;refine un (hm _ Bq n1.swap) fun w5 m5=>?_
  go_wp2;go_ret;exact⟨rfl,[_,_],fun _=>.inl ⟨S_,_,rfl⟩,m5.swap⟩
 ·simp only [Po.behind]
  have tC:=fun(W:World) (kt:Nat) (h:aq K c S1 ss w0 W (DE K k S1.th 0 (some kt) (.pointer none) ⟨val,0,x,link,dR,ret⟩::gr K kt S1.th x::F))=>K7 h hd g1.s hS (Au rfl)
  rw [xu] at tC;clear Au;generalize Po.jJ ⟨val,0,x,link,dR,ret⟩ S1=r3 at tC ⊢;go_enter func224,ntmps224;go_wp2
  go_region_held3 (fun w'=>w'.cell? ⟨k,0,none⟩=some (some K.bH)∧w'.cell? ⟨K.bH,0,none⟩=some (some K.bA)∧w'.cell? ⟨k,1,none⟩=some (.int .i64 S.th)) (first | exact⟨(h.all aj) 0,(h.fF).1 0,(h.all aj) 1⟩ | exact⟨(m1.all bp) 0,(m1.fF).1 0,(m1.all bp) 1⟩ | exact⟨(n1.all aj) 0,(n1.fF).1 0,(n1.all aj) 1⟩) (first | ((with_reducible refine(nr h.drew _ mG).mono ?_);rintro e dx ⟨Bq,rfl,_,m1⟩;have bB:=m1.af bp;have n1:=m1.swap.put 4 (some Bq);have gM:=n1.af aj))
  go_wp2_with fail;refine un (hm _ Bq n1.swap) fun w5 m5=>?_
  go_wp2_with fail;refine(tC _ Bq m5.swap).mono ?_;exact Fc
end
section
variable{c:Cf}{th:Nat}{X:List RT}{v v0 v1 v2:Bool}{S S' S1:PM}{pc cZ:Nat}{R R':Nat→Int}{bk eF nm pd cG cE:List Int}
def Nw(c:Cf)(w:Int):Prop:=Lw c w∧0≤lk w
theorem Inv.nam(I:Inv c th S){r:Nat}(hr:r=4∨r=5):Nw c (S.w (c.ad r 0)):=by
 have x:=I.kC (r:=r) O_;refine⟨I.Cp O_ O_ ?_ x,(I.mq O_ O_ x).2.2.2.ht hr⟩
 rcases hr with rfl | rfl<;>decide
theorem Inv.pwQ(I:Inv c th S){r:Nat}(hr:r=4∨r=5){x:Int}(h:Nw c x):Pw c (kd c (c.ad r 0)) x:=by
 obtain⟨_,_,e,_⟩:=I.mq (r:=r) O_ O_ (I.kC O_);obtain⟨⟨h0,h1,h2⟩,h3⟩:=h;rw [e];exact⟨h0,O_,fun _=>h2,fun _=>⟨h1,h2⟩,fun _=>h3,fun h=>O_⟩
def wR(c:Cf)(p:gO)(S:PM)(pc:Nat)(R:Nat→Int)(bk nm pd:List Int):Prop:=
 R 47=0∧0≤S.rc∧S.arg=p.val∧p.hz=S.hz c 0∧
 ((p.pc=0∧bk= [427]∧sS c p.take S pc R [] nm pd)∨
  (bk= []∧J5 c p.take.res∧R 30=u64 p.take.res∧R 1=u64 (S.rc*c.H+0)∧R 2=p.own∧p.own=pk p.take.res∧
  ((p.pc=1∧pc=431∧R 0=u64 p.val)∨(p.pc=2∧pc=432)∨(p.pc=3∧pc=434)∨(p.pc=9∧pc=453)∨
   (R 3=p.t∧Nw c p.t∧((p.pc=4∧pc=436)∨(p.pc=5∧pc=437)∨(p.pc=8∧pc=451)∨
    (R 5=u64 (lk p.t)∧((p.pc=6∧pc=443)∨(p.pc=7∧pc=448)∨(p.pc=10∧pc=445∧R 6=p.n∧Nw c p.n))))))))
theorem CT{b:Bool}{p:gO}(I:Inv c th S)(aZ:R 47=0)(hr:0≤S.rc)(hv:S.arg=p.val)(hz:p.hz=S.hz c 0)(hd:Fb c p.take R):bt c th X b b S 427 R [] nm pd (p.jJ S) (wR c):=by
 obtain⟨jS,hlo,hhi⟩:=hd;have hb:=I.bd;have tJ:wrap64 (R 30)=p.take.res:=wr jS hlo O_;unfold gO.jJ
 by_cases h:p.take.res<0
 ·rw [aY h]
  have I1:=(I.aB S.now).tell 4 0;exact bt.done I1 ((Kp.aB S _).q.trans (.tell _ 4 0)) (.trans (sB (cd 427) tJ (ld aZ) h aeD)<| .trans (dI (cd 455))<| .trans (FI (cd 456)) (mL (S:=(S.aB S.now).tell 4 0) I1 (cd 457) ((I.aB S.now).cy 4 0)))
 ·rw [aK h]
  exact bt.go (eF:= []) (R':=cg (cg (cg R 0 (u64 p.val)) 1 (u64 (S.rc*c.H+0))) 2 (pk p.take.res)) I (.rfl' S) (.trans (tN (cd 427) tJ (ld aZ) h)<| .trans (JV I (cd 428) hv)<| .trans (Ib (cd 429)) (TR (cd 430) tJ ⟨hlo,O_⟩)) ⟨aZ,hr,hv,hz,.inr ⟨rfl,⟨Int.not_lt.1 h,hhi⟩,jS,rfl,rfl,rfl,.inl ⟨rfl,rfl,rfl⟩⟩⟩
theorem Jg{x:Int}(I:Inv c th S)(aZ:R 47=0)(hr:0≤S.rc)(hv:S.arg=x):bt c th X false false S 425 R [] nm pd (gO.ready c ⟨x,0,.new,0,0,0,0⟩ S) (wR c):=by
 refine bt.behind (.rfl' S) (.trans (dI (cd 425)) (mE (cd 426) Zj (r:=427) rfl)) ?_;unfold gO.ready;obtain⟨k,S',R',cG,cE,I',K',hk,⟨cZ,e',hr',ha,hn⟩ | ⟨hr',ha,hn⟩⟩:=(nq (X:=X) (v:=false) (R:=R) (bs:= [427]) (nm:=nm) (pd:=pd) I).cases
 ·simp only [hr',gO.behind]
  obtain⟨rfl,ha⟩:=ha;exact bt.go I' K'.q hn ⟨(hk 47 O_).trans aZ,by rw [K'.rc];exact hr,K'.arg.trans hv,by show S.hz c 0=S'.hz c 0;simp only [PM.hz,K'.rc],.inl ⟨rfl,rfl,rfl,ha⟩⟩
 ·simp only [hr',gO.behind]
  exact bt.behind K'.q (hn [] 427 rfl) (CT (p:=⟨x,0,k,0,0,0,S.hz c 0⟩) I' ((hk 47 O_).trans aZ) (by rw [K'.rc];exact hr) (K'.arg.trans hv) (by show S.hz c 0=S'.hz c 0;simp only [PM.hz,K'.rc]) ha)
theorem MP{p:gO}(I:Inv c th S)(ha:wR c p S pc R bk nm pd):bt c th X false true S pc R bk nm pd (p.step c S) (wR c):=by
 obtain⟨aZ,hr,hv,hz,ha⟩:=ha;have hb:=I.bd;have xT:=I.kC (r:=5) O_;have aT:=I.eX (r:=5) O_ O_ xT;have nT:=I.nam (r:=5) O_;obtain⟨xH,b0,b1⟩:=I.Br hr (k:=0) O_ O_;have aH:=I.eX (r:=9) O_ O_ xH
 rcases ha with ⟨hs,rfl,ha⟩ | ⟨rfl,hk,jS,h1,h2,ho,ha⟩
 ·unfold gO.step
  rw [aY hs];obtain⟨k,S',R',cG,cE,I',K',hk,⟨cZ,e',hr',ha,hn⟩ | ⟨hr',ha,hn⟩⟩:=(qG (X:=X) (bs:= [427]) I aZ ha).cases
  ·simp only [hr',gO.behind]
   obtain⟨rfl,ha⟩:=ha;exact bt.go I' K'.q hn ⟨(hk 47 O_).trans aZ,by rw [K'.rc];exact hr,K'.arg.trans hv,hz.trans (by simp only [PM.hz,K'.rc]),.inl ⟨hs,rfl,rfl,ha⟩⟩
  ·simp only [hr',gO.behind]
   exact bt.behind K'.q (hn [] 427 rfl) (CT (p:={p with take:=k}) I' ((hk 47 O_).trans aZ) (by rw [K'.rc];exact hr) (K'.arg.trans hv) (hz.trans (by simp only [PM.hz,K'.rc])) ha)
 ·have tJ:=wr jS (by have:=hk.1;omega) (by have:=hk.2;omega)
  have w1:=wr h1 b0 b1;have lo:Lw c p.own:=by rw [ho];exact .pk I (by have:=hk.1;omega) hk.2
  have no:Nw c p.own:=⟨lo,by rw [ho,Cq (by have:=hk.1;omega) (by have:=hk.2;omega)];exact hk.1⟩;have xL:=I.iO (r:=13) O_ hk.1 hk.2
  rcases ha with ⟨hs,rfl,h0⟩ | ⟨hs,rfl⟩ | ⟨hs,rfl⟩ | ⟨hs,rfl⟩ | ⟨h3,nt,ha⟩
  ·simp only [gO.step,hs]
   have xV:=I.iO (r:=11) O_ hk.1 hk.2;exact bt.go (eF:= []) (I.store (I.eX O_ O_ xV) (I.TV O_ xV _)) (Kp.store S _ _).q (r2 I (cd 431) O_ tJ h0 xV) ⟨aZ,hr,hv,hz,.inr ⟨rfl,hk,jS,h1,h2,ho,.inr (.inl ⟨rfl,rfl⟩)⟩⟩
  ·simp only [gO.step,hs]
   exact bt.go (eF:= []) (I.store (I.eX O_ O_ xL) (I.mZ O_ xL (.zero I))) (Kp.store S _ _).q (.trans (r2 I (cd 432) O_ tJ aZ xL) (dI (cd 433))) ⟨aZ,hr,hv,hz,.inr ⟨rfl,hk,jS,h1,h2,ho,.inr (.inr (.inl ⟨rfl,rfl⟩))⟩⟩
  ·simp only [gO.step,hs]
   exact bt.go (eF:= []) (I.load _) (Kp.load S _).q (.trans (r1 I (cd 434) O_ (ld aZ) xT) (dI (cd 435))) ⟨aZ,hr,hv,hz,.inr ⟨rfl,hk,jS,h1,h2,ho,.inr (.inr (.inr (.inr ⟨rfl,nT,.inl ⟨rfl,rfl⟩⟩)))⟩⟩
  ·simp only [gO.step,hs]
   have I1:Inv c th (S.store p.hz 0):=by rw [hz];exact I.store aH (I.mZ O_ xH (.zero I))
   have e1:Rn c th (St false S X 453 R [] nm pd) (St true (S.store p.hz 0) X 454 R [] nm pd):=by rw [hz];exact r2 I (cd 453) O_ w1 aZ xH
   exact bt.done (I1.tell 1 0) ((Kp.store S _ _).q.trans (.tell _ 1 0)) (.trans e1 (mL (S:=(S.store p.hz 0).tell 1 0) (I1.tell 1 0) (cd 454) (I1.cy 1 0)))
  ·have xN:=I.iO (r:=13) O_ nt.2 nt.1.2.2
   have aN:=I.eX (r:=13) O_ O_ xN
   rcases ha with ⟨hs,rfl⟩ | ⟨hs,rfl⟩ | ⟨hs,rfl⟩ | ⟨h5,⟨hs,rfl⟩ | ⟨hs,rfl⟩ | ⟨hs,rfl,h6,nn⟩⟩
   ·simp only [gO.step,hs]
    have I1:Inv c th (S.store p.hz p.t):=by rw [hz];exact I.store aH (I.mZ O_ xH nt.1)
    have e1:Rn c th (St false S X 436 R [] nm pd) (St true (S.store p.hz p.t) X 437 R [] nm pd):=by rw [hz];exact r2 I (cd 436) O_ w1 h3 xH
    exact bt.go (eF:= []) I1 (Kp.store S _ _).q e1 ⟨aZ,hr,hv,hz,.inr ⟨rfl,hk,jS,h1,h2,ho,.inr (.inr (.inr (.inr ⟨h3,nt,.inr (.inl ⟨rfl,rfl⟩)⟩)))⟩⟩
   ·have e1:=r1 (X:=X) (R:=R) (bk:= []) (nm:=nm) (pd:=pd) I (cd 437) O_ (ld aZ) xT
    by_cases h:S.w (c.ad 5 0)=p.t
    ·have e:p.step c S=(false,{p with pc:=6},S.load (c.ad 5 0)):=by unfold gO.step;simp [hs,h]
     rw [e];exact bt.go (eF:= []) (I.load _) (Kp.load S _).q (.trans e1<| .trans (lV (cd 438) (h3.trans h.symm) aeG)<| .trans (dI (cd 441)) (Ie (u:=p.t) (cd 442) h3)) ⟨aZ,hr,hv,hz,.inr ⟨rfl,hk,jS,h1,h2,ho,.inr (.inr (.inr (.inr ⟨h3,nt,.inr (.inr (.inr ⟨rfl,.inl ⟨rfl,rfl⟩⟩))⟩)))⟩⟩
    ·have e:p.step c S=(false,{p with t:=S.w (c.ad 5 0),pc:=4},S.load (c.ad 5 0)):=by unfold gO.step;simp [hs,h]
     rw [e];exact bt.go (eF:= []) (I.load _) (Kp.load S _).q (.trans e1<| .trans (lz (cd 438) fun q=>h (Eq.trans q.symm h3))<| .trans (wY (u:=S.w (c.ad 5 0)) (cd 439) rfl)<| .trans (tO (cd 440) aeH) (dI (cd 435))) ⟨aZ,hr,hv,hz,.inr ⟨rfl,hk,jS,h1,h2,ho,.inr (.inr (.inr (.inr ⟨rfl,nT,.inl ⟨rfl,rfl⟩⟩)))⟩⟩
   ·simp only [gO.step,hs]
    have e1:=r3 (X:=X) (bk:= []) (nm:=nm) (pd:=pd) (j:=2) I (cd 451) O_ (ld aZ) h3 h2 xT aeE;rw [show(if S.w (c.ad 5 0)=p.t then 451+1 else 452)=452 by split<;>rfl] at e1;exact bt.go (eF:= []) (I.swap aT fun _=>I.pwQ O_ no) (Kp.swap S _ _ _).q (.trans e1 (dI (cd 452))) ⟨aZ,hr,hv,hz,.inr ⟨rfl,hk,jS,h1,h2,ho,.inr (.inr (.inr (.inl ⟨rfl,rfl⟩)))⟩⟩
   ·have w5:=wr h5 (eZ _) (by have:=nt.1.2.2;omega)
    have e1:=r1 (X:=X) (R:=R) (bk:= []) (nm:=nm) (pd:=pd) I (cd 443) O_ w5 xN;have hn:=I.Cp (r:=13) O_ O_ D_ xN
    by_cases h:0≤lk (S.w (c.ad 13 (lk p.t)))
    ·have e:p.step c S=(false,{p with n:=S.w (c.ad 13 (lk p.t)),pc:=10},S.load (c.ad 13 (lk p.t))):=by unfold gO.step;simp [hs,h]
     rw [e];exact bt.go (eF:= []) (I.load _) (Kp.load S _).q (.trans e1 (xz (u:=S.w (c.ad 13 (lk p.t))) (cd 444) rfl h)) ⟨aZ,hr,hv,hz,.inr ⟨rfl,hk,jS,h1,h2,ho,.inr (.inr (.inr (.inr ⟨h3,nt,.inr (.inr (.inr ⟨h5,.inr (.inr ⟨rfl,rfl,rfl,hn,h⟩)⟩))⟩)))⟩⟩
    ·have e:p.step c S=(false,{p with n:=S.w (c.ad 13 (lk p.t)),pc:=7},S.load (c.ad 13 (lk p.t))):=by unfold gO.step;simp [hs,h]
     rw [e];exact bt.go (eF:= []) (I.load _) (Kp.load S _).q (.trans e1<| .trans (xy (u:=S.w (c.ad 13 (lk p.t))) (cd 444) rfl O_ aeF) (dI (cd 447))) ⟨aZ,hr,hv,hz,.inr ⟨rfl,hk,jS,h1,h2,ho,.inr (.inr (.inr (.inr ⟨h3,nt,.inr (.inr (.inr ⟨h5,.inr (.inl ⟨rfl,rfl⟩)⟩))⟩)))⟩⟩
   ·have w5:=wr h5 (eZ _) (by have:=nt.1.2.2;omega)
    have e1:=r3 (X:=X) (bk:= []) (nm:=nm) (pd:=pd) (j:=2) I (cd 448) O_ w5 aZ h2 xN UA;have I1:Inv c th (S.swap (c.ad 13 (lk p.t)) 0 p.own):=I.swap aN fun _=>I.mZ O_ xN lo
    by_cases h:S.w (c.ad 13 (lk p.t))=0
    ·have e:p.step c S=(false,{p with pc:=8},((S.swap (c.ad 13 (lk p.t)) 0 p.own).aB S.now).shift p.take.res 3):=by unfold gO.step;simp [hs,h]
     rw [aY h] at e1;rw [e];exact bt.go (eF:= []) ((I1.aB S.now).shift _ 3) (((Kp.swap S _ _ _).trans (Kp.aB _ _)).trans (Kp.shift _ _ _)).q (.trans e1<| .trans (FI (cd 449)) (Ch (I1.aB S.now) (cd 450) tJ hk)) ⟨aZ,hr,(((Kp.swap S _ _ _).trans (Kp.aB _ _)).trans (Kp.shift _ _ _)).arg.trans hv,hz,.inr ⟨rfl,hk,jS,h1,h2,ho,.inr (.inr (.inr (.inr ⟨h3,nt,.inr (.inr (.inl ⟨rfl,rfl⟩))⟩)))⟩⟩
    ·have e:p.step c S=(false,{p with pc:=3},S.swap (c.ad 13 (lk p.t)) 0 p.own):=by unfold gO.step;simp [hs,h]
     rw [aK h] at e1;rw [e];exact bt.go (eF:= []) I1 (Kp.swap S _ _ _).q (.trans e1 (dI (cd 433))) ⟨aZ,hr,hv,hz,.inr ⟨rfl,hk,jS,h1,h2,ho,.inr (.inr (.inl ⟨rfl,rfl⟩))⟩⟩
   ·simp only [gO.step,hs]
    have e1:=r3 (X:=X) (bk:= []) (nm:=nm) (pd:=pd) (j:=6) I (cd 445) O_ (ld aZ) h3 h6 xT UA
    have e2:Rn c th (St false S X 445 R [] nm pd) (St true (S.swap (c.ad 5 0) p.t p.n) X 434 R [] nm pd):=by
     by_cases h:S.w (c.ad 5 0)=p.t
     ·rw [aY h] at e1
      exact .trans e1<| .trans (tO (cd 446) UA) (dI (cd 433))
     ·rw [aK h] at e1
      exact .trans e1 (dI (cd 433))
    exact bt.go (eF:= []) (I.swap aT fun _=>I.pwQ O_ nn) (Kp.swap S _ _ _).q e2 ⟨aZ,hr,hv,hz,.inr ⟨rfl,hk,jS,h1,h2,ho,.inr (.inr (.inl ⟨rfl,rfl⟩))⟩⟩
def zD(c:Cf)(g:Dq)(S:PM)(pc:Nat)(R:Nat→Int)(bk nm pd:List Int):Prop:=
 R 47=0∧0≤S.rc∧g.yY=S.hz c 0∧g.II=S.hz c 1∧R 1=u64 (S.rc*c.H+0)∧R 2=u64 (S.rc*c.H+1)∧
 ((g.pc=12∧S.cj=(2,g.val)∧wrap64 (R 9)=g.val∧∃ r e,g.ret=some r∧bk= [490]++e∧mu c r S pc R e nm pd)∨
  (bk= []∧((g.pc=11∧g.got=false∧S.cj=(3,0)∧((g.dD=0∧pc=496)∨(g.dD=1∧pc=497)))∨
  (g.pc=11∧g.got=true∧Nw c g.h0∧R 6=u64 (lk g.h0)∧wrap64 (R 9)=g.val∧((g.dD=0∧pc=486)∨(g.dD=1∧pc=487)))∨
  (g.got=false∧g.dD=0∧((g.pc=1∧pc=462)∨
   (R 3=g.h0∧Nw c g.h0∧((g.pc=2∧pc=464)∨(g.pc=3∧pc=465)∨(g.pc=4∧pc=470)∨
    (R 5=g.t∧Nw c g.t∧R 6=u64 (lk g.h0)∧((g.pc=5∧pc=472)∨
     (R 7=g.n∧Nw c g.n∧((g.pc=6∧pc=474)∨(g.pc=7∧pc=475)∨(g.pc=8∧pc=492∧g.h0=g.t)∨(g.pc=9∧pc=482∧R 8=u64 (lk g.n))∨(g.pc=10∧pc=483∧wrap64 (R 9)=g.val))))))))))))
theorem Jo{g:Dq}(I:Inv c th S)(aZ:R 47=0)(hr:0≤S.rc)(hg:g.got=false)(fQ:g.dD=0):bt c th X false false S 458 R [] nm pd (g.ready c S) (zD c):=
 bt.go (eF:= []) (R':=cg (cg R 1 (u64 (S.rc*c.H+0))) 2 (u64 (S.rc*c.H+1))) I (.rfl' S) (.trans (dI (cd 458))<| .trans (Ib (cd 459))<| .trans (Ib (cd 460)) (dI (cd 461))) ⟨aZ,hr,rfl,rfl,rfl,rfl,.inr ⟨rfl,.inr (.inr ⟨hg,fQ,.inl ⟨rfl,rfl⟩⟩)⟩⟩
theorem MZ{g:Dq}(I:Inv c th S)(ha:zD c g S pc R bk nm pd):bt c th X false true S pc R bk nm pd (g.step c S) (zD c):=by
 obtain⟨aZ,hr,z0,z1,h1,h2,ha⟩:=ha;have hb:=I.bd;have xQ:=I.kC (r:=4) O_;have aQ:=I.eX (r:=4) O_ O_ xQ;have nQ:=I.nam (r:=4) O_;have xT:=I.kC (r:=5) O_;have aT:=I.eX (r:=5) O_ O_ xT;have nT:=I.nam (r:=5) O_;obtain⟨xH,b0,b1⟩:=I.Br hr (k:=0) O_ O_;obtain⟨DM,b2,b3⟩:=I.Br hr (k:=1) O_ O_;have aH:=I.eX (r:=9) O_ O_ xH;have Wg:=I.eX (r:=9) O_ O_ DM;have w1:=wr h1 b0 b1;have w2:=wr h2 b2 b3
 rcases ha with ⟨hs,ht,h9,r,e,hret,rfl,ha⟩ | ⟨rfl,⟨hs,hg,ht,ha⟩ | ⟨hs,hg,n0,h6,h9,ha⟩ | ⟨hg,fQ,⟨hs,rfl⟩ | ⟨h3,n0,ha⟩⟩⟩
 ·simp only [Dq.step,hs,hret]
  obtain⟨k,S',R',cG,cE,I',K',hk',⟨cZ,e',hr',ha,hn⟩ | ⟨hr',ha,hn⟩⟩:=(nY (X:=X) (bs:= [490]) I aZ ha).cases
  ·simp only [hr']
   exact bt.go I' K'.q hn ⟨(hk' 47 O_).trans aZ,by rw [K'.rc];exact hr,z0.trans (by simp only [PM.hz,K'.rc]),z1.trans (by simp only [PM.hz,K'.rc]),by rw [K'.rc];exact(hk' 1 O_).trans h1,by rw [K'.rc];exact(hk' 2 O_).trans h2,.inl ⟨rfl,K'.cj.trans ht,(ep wrap64 (hk' 9 O_)).trans h9,k,e',rfl,rfl,ha⟩⟩
  ·simp only [hr']
   exact bt.done I' K'.q (.trans (hn [] 490 rfl) (mL I' (cd 490) (by rw [K'.cj,ht,aY rfl,←h9];exact ep (fun x=>((2:Int),wrap64 x)) (hk' 9 O_).symm)))
 ·rcases ha with ⟨fQ,rfl⟩ | ⟨fQ,rfl⟩
  ·have e:g.step c S=(false,{g with dD:=g.dD+1},S.store (c.ad 9 (S.rc*c.H+0)) 0):=by unfold Dq.step;simp [hs,fQ,z0,PM.hz]
   rw [e];exact bt.go (eF:= []) (I.store aH (I.mZ O_ xH (.zero I))) (Kp.store S _ _).q (r2 I (cd 496) O_ w1 aZ xH) ⟨aZ,hr,z0,z1,h1,h2,.inr ⟨rfl,.inl ⟨hs,hg,ht,.inr ⟨by show g.dD+1=1;omega,rfl⟩⟩⟩⟩
  ·have e:g.step c S=(true,{g with dD:=g.dD+1},S.store (c.ad 9 (S.rc*c.H+1)) 0):=by unfold Dq.step;simp [hs,fQ,hg,z1,PM.hz]
   rw [e];have I1:=I.store Wg (I.mZ O_ DM (.zero I));exact bt.done I1 (Kp.store S _ _).q (.trans (r2 I (cd 497) O_ w2 aZ DM) (mL I1 (cd 498) ht))
 ·rcases ha with ⟨fQ,rfl⟩ | ⟨fQ,rfl⟩
  ·have e:g.step c S=(false,{g with dD:=g.dD+1},S.store (c.ad 9 (S.rc*c.H+0)) 0):=by unfold Dq.step;simp [hs,fQ,z0,PM.hz]
   rw [e];exact bt.go (eF:= []) (I.store aH (I.mZ O_ xH (.zero I))) (Kp.store S _ _).q (r2 I (cd 486) O_ w1 aZ xH) ⟨aZ,hr,z0,z1,h1,h2,.inr ⟨rfl,.inr (.inl ⟨hs,hg,n0,h6,h9,.inr ⟨by show g.dD+1=1;omega,rfl⟩⟩)⟩⟩
  ·have I1:Inv c th ((S.store (c.ad 9 (S.rc*c.H+1)) 0).tell 2 g.val):=(I.store Wg (I.mZ O_ DM (.zero I))).tell 2 g.val
   have K1:Kq S ((S.store (c.ad 9 (S.rc*c.H+1)) 0).tell 2 g.val):=(Kp.store S _ _).q.trans (.tell _ _ _);have a1:((S.store (c.ad 9 (S.rc*c.H+1)) 0).tell 2 g.val).cj=(2,g.val):=(I.store Wg (I.mZ O_ DM (.zero I))).cy 2 g.val
   have e:g.step c S=match (Rt.new (lk g.h0)).ready c ((S.store (c.ad 9 (S.rc*c.H+1)) 0).tell 2 g.val) with
     | (b,r,S)=>(b,{g with dD:=g.dD+1,ret:=some r,pc:=12},S):=by unfold Dq.step;simp [hs,fQ,hg,z1,PM.hz]
   have e1:Rn c th (St false S X 487 R [] nm pd) (St true ((S.store (c.ad 9 (S.rc*c.H+1)) 0).tell 2 g.val) X 58 (cg R 20 (u64 (lk g.h0))) [490] nm pd):=
    .trans (r2 I (cd 487) O_ w2 aZ DM)<| .trans (wY (cd 488) h6) (mE (cd 489) WV (r:=490) rfl)
   have eO:((S.store (c.ad 9 (S.rc*c.H+1)) 0).tell 2 g.val).rc=S.rc:=rfl;rw [e];generalize ((S.store (c.ad 9 (S.rc*c.H+1)) 0).tell 2 g.val)=S1 at I1 K1 a1 e1 eO;obtain⟨k,S',R',cG,cE,I',K',hk',⟨cZ,e',hr',ha,hn⟩ | ⟨hr',ha,hn⟩⟩:=(ki (X:=X) (v:=true) (R:=cg R 20 (u64 (lk g.h0))) (bs:= [490]) (nm:=nm) (pd:=pd) I1 (by rw [eO];exact hr) n0.2 n0.1.2.2 rfl).cases
   ·rw [hr']
    have hrc:S'.rc=S.rc:=K'.rc.trans eO;exact bt.go I' (K1.trans K'.q) (e1.trans hn) ⟨(hk' 47 O_).trans aZ,by rw [hrc];exact hr,z0.trans (by simp only [PM.hz,hrc]),z1.trans (by simp only [PM.hz,hrc]),by rw [hrc];exact(hk' 1 O_).trans h1,by rw [hrc];exact(hk' 2 O_).trans h2,.inl ⟨rfl,K'.cj.trans a1,(ep wrap64 (hk' 9 O_)).trans h9,k,e',rfl,rfl,ha⟩⟩
   ·rw [hr']
    exact bt.done I' (K1.trans K'.q) (.trans e1<| .trans (hn [] 490 rfl) (mL I' (cd 490) (by rw [K'.cj,a1,aY rfl,←h9];exact ep (fun x=>((2:Int),wrap64 x)) (hk' 9 O_).symm)))
 ·simp only [Dq.step,hs]
  exact bt.go (eF:= []) (I.load _) (Kp.load S _).q (.trans (r1 I (cd 462) O_ (ld aZ) xQ) (dI (cd 463))) ⟨aZ,hr,z0,z1,h1,h2,.inr ⟨rfl,.inr (.inr ⟨hg,fQ,.inr ⟨rfl,nQ,.inl ⟨rfl,rfl⟩⟩⟩)⟩⟩
 ·have xL:=I.iO (r:=13) O_ n0.2 n0.1.2.2
  rcases ha with ⟨hs,rfl⟩ | ⟨hs,rfl⟩ | ⟨hs,rfl⟩ | ⟨h5,nt,h6,ha⟩
  ·have e:g.step c S=(false,{g with pc:=3},S.store (c.ad 9 (S.rc*c.H+0)) g.h0):=by unfold Dq.step;simp [hs,z0,PM.hz]
   rw [e];exact bt.go (eF:= []) (I.store aH (I.mZ O_ xH n0.1)) (Kp.store S _ _).q (r2 I (cd 464) O_ w1 h3 xH) ⟨aZ,hr,z0,z1,h1,h2,.inr ⟨rfl,.inr (.inr ⟨hg,fQ,.inr ⟨h3,n0,.inr (.inl ⟨rfl,rfl⟩)⟩⟩)⟩⟩
  ·have e1:=r1 (X:=X) (R:=R) (bk:= []) (nm:=nm) (pd:=pd) I (cd 465) O_ (ld aZ) xQ
   by_cases h:S.w (c.ad 4 0)=g.h0
   ·have e:g.step c S=(false,{g with pc:=4},S.load (c.ad 4 0)):=by unfold Dq.step Dq.same;simp [hs,h]
    rw [e];exact bt.go (eF:= []) (I.load _) (Kp.load S _).q (.trans e1<| .trans (lV (cd 466) (h3.trans h.symm) aeC) (dI (cd 469))) ⟨aZ,hr,z0,z1,h1,h2,.inr ⟨rfl,.inr (.inr ⟨hg,fQ,.inr ⟨h3,n0,.inr (.inr (.inl ⟨rfl,rfl⟩))⟩⟩)⟩⟩
   ·have e:g.step c S=(false,{g with pc:=2,h0:=S.w (c.ad 4 0)},S.load (c.ad 4 0)):=by unfold Dq.step Dq.same;simp [hs,h]
    rw [e];exact bt.go (eF:= []) (I.load _) (Kp.load S _).q (.trans e1<| .trans (lz (cd 466) fun q=>h (Eq.trans q.symm h3))<| .trans (wY (u:=S.w (c.ad 4 0)) (cd 467) rfl)<| .trans (tO (cd 468) Zh) (dI (cd 463))) ⟨aZ,hr,z0,z1,h1,h2,.inr ⟨rfl,.inr (.inr ⟨hg,fQ,.inr ⟨rfl,nQ,.inl ⟨rfl,rfl⟩⟩⟩)⟩⟩
  ·simp only [Dq.step,hs]
   exact bt.go (eF:= []) (I.load _) (Kp.load S _).q (.trans (r1 I (cd 470) O_ (ld aZ) xT) (Ie (u:=g.h0) (cd 471) h3)) ⟨aZ,hr,z0,z1,h1,h2,.inr ⟨rfl,.inr (.inr ⟨hg,fQ,.inr ⟨h3,n0,.inr (.inr (.inr ⟨rfl,nT,rfl,.inl ⟨rfl,rfl⟩⟩))⟩⟩)⟩⟩
  ·have w6:=wr h6 (eZ _) (by have:=n0.1.2.2;omega)
   rcases ha with ⟨hs,rfl⟩ | ⟨h7,nn,⟨hs,rfl⟩ | ⟨hs,rfl⟩ | ⟨hs,rfl,heq⟩ | ⟨hs,rfl,h8⟩ | ⟨hs,rfl,h9⟩⟩
   ·have e1:=r1 (X:=X) (R:=R) (bk:= []) (nm:=nm) (pd:=pd) I (cd 472) O_ w6 xL
    have hl:=I.Cp (r:=13) O_ O_ D_ xL
    by_cases h:lk (S.w (c.ad 13 (lk g.h0)))<0
    ·have e:g.step c S=(false,{g with n:=S.w (c.ad 13 (lk g.h0)),pc:=11},((S.load (c.ad 13 (lk g.h0))).aB S.now).tell 3 0):=by unfold Dq.step;simp [hs,h]
     rw [e];have I1:=(I.load (c.ad 13 (lk g.h0))).aB S.now;exact bt.go (eF:= []) (I1.tell 3 0) (((Kp.load S _).trans (Kp.aB _ _)).q.trans (.tell _ 3 0)) (.trans e1<| .trans (xy (u:=S.w (c.ad 13 (lk g.h0))) (cd 473) rfl h aez)<| .trans (dI (cd 494)) (FI (cd 495))) ⟨aZ,hr,z0,z1,h1,h2,.inr ⟨rfl,.inl ⟨rfl,hg,I1.cy 3 0,.inl ⟨fQ,rfl⟩⟩⟩⟩
    ·have e:g.step c S=(false,{g with n:=S.w (c.ad 13 (lk g.h0)),pc:=6},S.load (c.ad 13 (lk g.h0))):=by unfold Dq.step;simp [hs,h]
     rw [e];exact bt.go (eF:= []) (I.load _) (Kp.load S _).q (.trans e1 (xz (u:=S.w (c.ad 13 (lk g.h0))) (cd 473) rfl O_)) ⟨aZ,hr,z0,z1,h1,h2,.inr ⟨rfl,.inr (.inr ⟨hg,fQ,.inr ⟨h3,n0,.inr (.inr (.inr ⟨h5,nt,h6,.inr ⟨rfl,⟨hl,Int.not_lt.1 h⟩,.inl ⟨rfl,rfl⟩⟩⟩))⟩⟩)⟩⟩
   ·have e:g.step c S=(false,{g with pc:=7},S.store (c.ad 9 (S.rc*c.H+1)) g.n):=by unfold Dq.step;simp [hs,z1,PM.hz]
    rw [e];exact bt.go (eF:= []) (I.store Wg (I.mZ O_ DM nn.1)) (Kp.store S _ _).q (r2 I (cd 474) O_ w2 h7 DM) ⟨aZ,hr,z0,z1,h1,h2,.inr ⟨rfl,.inr (.inr ⟨hg,fQ,.inr ⟨h3,n0,.inr (.inr (.inr ⟨h5,nt,h6,.inr ⟨h7,nn,.inr (.inl ⟨rfl,rfl⟩)⟩⟩))⟩⟩)⟩⟩
   ·have e1:=r1 (X:=X) (R:=R) (bk:= []) (nm:=nm) (pd:=pd) I (cd 475) O_ (ld aZ) xQ
    by_cases h:S.w (c.ad 4 0)=g.h0
    ·have e2:=e1.trans<| .trans (lV (cd 476) (h3.trans h.symm) aeB) (dI (cd 479))
     by_cases q:g.h0=g.t
     ·have e:g.step c S=(false,{g with pc:=8},S.load (c.ad 4 0)):=by unfold Dq.step Dq.same;simp [hs,h,q]
      rw [e];exact bt.go (eF:= []) (I.load _) (Kp.load S _).q (.trans e2<| .trans (lV (cd 480) (h3.trans (q.trans h5.symm)) aeA) (dI (cd 491))) ⟨aZ,hr,z0,z1,h1,h2,.inr ⟨rfl,.inr (.inr ⟨hg,fQ,.inr ⟨h3,n0,.inr (.inr (.inr ⟨h5,nt,h6,.inr ⟨h7,nn,.inr (.inr (.inl ⟨rfl,rfl,q⟩))⟩⟩))⟩⟩)⟩⟩
     ·have e:g.step c S=(false,{g with pc:=9},S.load (c.ad 4 0)):=by unfold Dq.step Dq.same;simp [hs,h,q]
      rw [e];exact bt.go (eF:= []) (I.load _) (Kp.load S _).q (.trans e2<| .trans (lz (cd 480) fun r=>q (h3.symm.trans (Eq.trans r h5))) (Ie (u:=g.n) (cd 481) h7)) ⟨aZ,hr,z0,z1,h1,h2,.inr ⟨rfl,.inr (.inr ⟨hg,fQ,.inr ⟨h3,n0,.inr (.inr (.inr ⟨h5,nt,h6,.inr ⟨h7,nn,.inr (.inr (.inr (.inl ⟨rfl,rfl,rfl⟩)))⟩⟩))⟩⟩)⟩⟩
    ·have e:g.step c S=(false,{g with pc:=2,h0:=S.w (c.ad 4 0)},S.load (c.ad 4 0)):=by unfold Dq.step Dq.same;simp [hs,h]
     rw [e];exact bt.go (eF:= []) (I.load _) (Kp.load S _).q (.trans e1<| .trans (lz (cd 476) fun q=>h (Eq.trans q.symm h3))<| .trans (wY (u:=S.w (c.ad 4 0)) (cd 477) rfl)<| .trans (tO (cd 478) Zh) (dI (cd 463))) ⟨aZ,hr,z0,z1,h1,h2,.inr ⟨rfl,.inr (.inr ⟨hg,fQ,.inr ⟨rfl,nQ,.inl ⟨rfl,rfl⟩⟩⟩)⟩⟩
   ·simp only [Dq.step,hs]
    have e1:=r3 (X:=X) (bk:= []) (nm:=nm) (pd:=pd) (j:=7) I (cd 492) O_ (ld aZ) h3 h7 xT Uz
    have e2:Rn c th (St false S X 492 R [] nm pd) (St true (S.swap (c.ad 5 0) g.t g.n) X 462 R [] nm pd):=by
     rw [show g.t=g.h0 from heq.symm]
     by_cases h:S.w (c.ad 5 0)=g.h0
     ·rw [aY h] at e1
      exact .trans e1<| .trans (tO (cd 493) Uz) (dI (cd 461))
     ·rw [aK h] at e1
      exact .trans e1 (dI (cd 461))
    exact bt.go (eF:= []) (I.swap aT fun _=>I.pwQ O_ nn) (Kp.swap S _ _ _).q e2 ⟨aZ,hr,z0,z1,h1,h2,.inr ⟨rfl,.inr (.inr ⟨hg,fQ,.inl ⟨rfl,rfl⟩⟩)⟩⟩
   ·simp only [Dq.step,hs]
    have xV:=I.iO (r:=11) O_ nn.2 nn.1.2.2;exact bt.go (eF:= []) (I.load _) (Kp.load S _).q (r1 I (cd 482) O_ (wr h8 (eZ _) (by have:=nn.1.2.2;omega)) xV) ⟨aZ,hr,z0,z1,h1,h2,.inr ⟨rfl,.inr (.inr ⟨hg,fQ,.inr ⟨h3,n0,.inr (.inr (.inr ⟨h5,nt,h6,.inr ⟨h7,nn,.inr (.inr (.inr (.inr ⟨rfl,rfl,rfl⟩)))⟩⟩))⟩⟩)⟩⟩
   ·have e1:=r3 (X:=X) (bk:= []) (nm:=nm) (pd:=pd) (j:=7) I (cd 483) O_ (ld aZ) h3 h7 xQ Uz
    have I1:Inv c th (S.swap (c.ad 4 0) g.h0 g.n):=I.swap aQ fun _=>I.pwQ O_ nn
    by_cases h:S.w (c.ad 4 0)=g.h0
    ·have e:g.step c S=(false,{g with got:=true,pc:=11},((S.swap (c.ad 4 0) g.h0 g.n).aB S.now).shift (lk g.h0) 4):=by unfold Dq.step;simp [hs,h]
     rw [aY h] at e1;rw [e];exact bt.go (eF:= []) ((I1.aB S.now).shift _ 4) (((Kp.swap S _ _ _).trans (Kp.aB _ _)).trans (Kp.shift _ _ _)).q (.trans e1<| .trans (FI (cd 484)) (Ch (I1.aB S.now) (cd 485) w6 ⟨n0.2,n0.1.2.2⟩)) ⟨aZ,hr,z0,z1,h1,h2,.inr ⟨rfl,.inr (.inl ⟨rfl,rfl,n0,h6,h9,.inl ⟨fQ,rfl⟩⟩)⟩⟩
    ·have e:g.step c S=(false,{g with pc:=1},S.swap (c.ad 4 0) g.h0 g.n):=by unfold Dq.step;simp [hs,h]
     rw [aK h] at e1;rw [e];exact bt.go (eF:= []) I1 (Kp.swap S _ _ _).q (.trans e1 (dI (cd 461))) ⟨aZ,hr,z0,z1,h1,h2,.inr ⟨rfl,.inr (.inr ⟨hg,fQ,.inl ⟨rfl,rfl⟩⟩)⟩⟩
end
end Go.Proofs.YtgbhnihkgmpocaaGreat
