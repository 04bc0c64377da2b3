/- Part 5 of 16 of the proof of PoolPlays. No condition. -/
import Derived.Carry
import Derived.Test.YtgbhnihkgmpocaaGreatM03
namespace Go.Proofs.YtgbhnihkgmpocaaGreat
set_option maxRecDepth 100000
set_option maxHeartbeats 4000000
open Tryz
abbrev b6(f k d:Nat)(w:World)(Q:Ending→World→Prop):Prop:=Calls prog f #[some k,some d] w Q
variable{P:Prop}
theorem Fc(x:P:=by
 rintro e w2 ⟨rfl,L,o,m2⟩;go_wp2_with fail;go_ret;exact⟨rfl,L,o,m2⟩):P:=x
theorem sV(x:P:=by
 go_enter func241,ntmps241;exact GJ):P:=x
theorem QI(x:P:=by
 go_wp2_with fail;refine(jr x w h.1 h.2.1 h.2.2).mono ?_;rintro e w ⟨rfl,rfl⟩;exact iB):P:=x
theorem Wi(x:P:=by
 go_wp2_with fail;refine(By _ m1).mono ?_;rintro e w5 ⟨rfl,L,o,m5⟩;go_wp2_with fail;go_ret;exact⟨rfl,L,o,m5⟩):P:=x
theorem abe(x:P:=by
 have ps2:=s2.af aj;go_wp2_with fail;refine un (eV s2 (mT (mT hd)) g.aB) fun ws3 s3=>?_
 have ps3:=s3.af aj;go_wp2_with fail;go_ret;exact⟨rfl,[_,_],fun q=>(by cases q),s3⟩):P:=x
theorem Tf(x:P:=by
 go_wp2_with fail;refine un (Gy h) fun w1 e1=>?_
 go_wp2_with fail;refine un (zA ok hn h9 hx w1) fun w2 e2=>?_
 go_wp2_with fail;go_ret;exact⟨rfl,e1.next e2⟩):P:=x
theorem Tc(x:P:=by
 go_wp2_with fail;refine un (hm) fun dx m1=>?_
 have bB:=m1.af aj;go_wp2_with fail;refine(OY (p:=⟨val,x,slot,top,0⟩) m1.swap hd g1.s).mono ?_;exact Fc):P:=x
theorem NI(x:P:=by
 go_wp2_with fail;go_ret;exact⟨rfl,[_,_],fun _=>⟨_,_,rfl,rfl⟩,m2.put 3 _⟩):P:=x
theorem S5(x:P:=by
 go_wp2_with fail;refine un (hm) fun dx m1=>?_
 have bB:=m1.af aj;go_wp2_with fail;go_ret;exact⟨rfl,[_,_],fun _=>⟨_,_,rfl,rfl⟩,m1.swap⟩):P:=x
theorem SY(x:P:=by
 go_wp2_with fail;obtain⟨o,ho,hv⟩:=Mi.obj;go_ret;exact⟨_,_,rfl,o,hv,h2.xB ho ((CH.trans DJ fun _ _ h=>h).trans Oj fun _ _ h=>h)⟩):P:=x
theorem GJ(x:P:=by
 go_wp2_with fail;refine hm.mono ?_;exact Fc):P:=x
theorem SC(x:P:=by
 go_wp2_with fail
 go_meet
 case rel=>first | exact⟨_,_,_,rfl,g4⟩ | exact⟨_,_,_,rfl,g4.drew⟩):P:=x
theorem SA(x:P:=by
 go_roundw
 case rel=>exact⟨i+1,_,by go_num,O_,h6⟩
 case measure=>simp [intOf];omega):P:=x
theorem Sw(x:P:=by
 rw [hr'];exact bt.go I' K'.q hn ⟨(hk 47 O_).trans aZ,K'.cj.trans ht,e',rfl,ha⟩):P:=x
theorem Su(x:P:=by
 rw [hr'];exact bt.done I' K'.q (.trans (hn [] 141 rfl) (mL I' (cd 141) (K'.cj.trans ht)))):P:=x
theorem GG(x:P:=by
 exact ei O_ O_):P:=x
open Go.RowKit
section
variable{P:Program}{w0 w w':World}{H H':List En}{b k:Nat}{o o':Obj}{f g:Int→Option Value}
theorem Has.sO(h:Has w0 w H)(o:Obj):Has w0 (w.alloc o) (.obj w.heap.size o::H):=by
 have h1:=h.next ((bu w).aE o);refine⟨h1.ext,fun x hx=>?_,?_⟩
 ·rcases Bf.1 hx with rfl | hx
  ·exact⟨h.ext.size,yo w o⟩
  ·exact h1.own x hx
 ·rw [JM (show En.b (.obj w.heap.size o)=some w.heap.size from rfl),List.nodup_cons]
  refine⟨fun hm=>?_,h1.apart⟩;obtain⟨y,hy,hq⟩:=JH.1 hm;have:=(h.Rs hy _ hq).2;omega
theorem Has.xB(h:Has w0 w (.obj b o::H))(ho:w'.heap[b]?=some o')(on:dM (fun q=>q=b) w w'):Has w0 w' (.obj b o'::H):=
 h.cg (x':=.obj b o') ⟨(h.Rs (gq ..) b rfl).1,ho⟩ ⟨on.os,on.tape,on.output,on.size,fun q hq hne=>on.block q hq fun e=>hne (by rw [e];rfl)⟩ (.inl rfl)
theorem Has.join(h:Has w0 w H)(h':Has w w' H'):Has w0 w' (H'++H):=by
 have h1:=h.next h'.ext;have hs:=h.ext.size;refine⟨h1.ext,fun x hx=>?_,?_⟩
 ·rcases Bh.1 hx with hx | hx
  ·have ho:=h'.own x hx
   cases x with
   | row v e k n us=>exact ku ho O_
   | fX b f=>exact⟨by have:=ho.1;omega,ho.2⟩
   | obj b o=>exact⟨by have:=ho.1;omega,ho.2⟩
  ·exact h1.own x hx
 ·rw [List.filterMap_append,List.nodup_append]
  refine⟨h'.apart,h.apart,fun q hq r hr e=>?_⟩;subst e;obtain⟨x,hx,e1⟩:=JH.1 hq;obtain⟨y,hy,e2⟩:=JH.1 hr;have:=(h'.Rs hx q e1).1;have:=(h.Rs hy q e2).2;omega
end
variable{w:World}
theorem Nc{bA gl n cl:Nat}(c7:∀ z:aL w,z.world.cell? ⟨bA,7,none⟩=some (.slice (some ⟨gl,0,none⟩) n cl))(hn:0<n):
  Calls prog 32 #[some bA] w fun e w'=>∃ ka bK,e=.returned (.map (some bK))∧∃ o,oF o (fun j=>if j=12 then some (.func (.func 73) #[] #[some ka]) else if j=11 then some (.func (.func 70) #[] #[some ka]) else if j=10 then some (.func (.func 68) #[] #[some ka]) else none)∧Has w w' [.obj bK o,ob ka 82 [some bA]]:=by
 have h1:=(Has.start w).alloc #[some bA] 82;have p1:=h1.at_ (i:=0) aj rfl;have c71:(w.alloc (.cells #[some bA] 82)).cell? ⟨bA,7,none⟩=some (.slice (some ⟨gl,0,none⟩) n cl):=c7 ⟨_,(bu w).aE _⟩;have d0:((n:Int)==0)=false:=by rw [gp];omega
 have JX:=@run_makeMap prog;have h2:=h1.sO (.map #[] 0);have xU:=eY.new (w.alloc (.cells #[some bA] 82));have jF:(w.alloc (.cells #[some bA] 82)).heap.size=w.heap.size+1:=S_
 rw [jF] at xU;obtain⟨r1,xP,CH⟩:=xU.put (P:=prog) (t:=90) underlying90 underlying34 10 (.func (.func 68) #[] #[some w.heap.size]);generalize jz prog 90 _ _ 10 (.func (.func 68) #[] #[some w.heap.size])=Q3 at r1 xP CH;obtain⟨r2,ze,DJ⟩:=xP.put (P:=prog) (t:=90) underlying90 underlying34 11 (.func (.func 70) #[] #[some w.heap.size]);generalize jz prog 90 _ _ 11 (.func (.func 70) #[] #[some w.heap.size])=Q2 at r2 ze DJ;obtain⟨r3,Mi,Oj⟩:=ze.put (P:=prog) (t:=90) underlying90 underlying34 12 (.func (.func 73) #[] #[some w.heap.size]);generalize jz prog 90 _ _ 12 (.func (.func 73) #[] #[some w.heap.size])=WG at r3 Mi Oj;rw [jF] at h2;clear c7 hn jF;go_in;exact SY
variable{bA bH:Nat}
theorem uD(hb:∀ z:aL w,z.world.cell? ⟨bH,0,none⟩=some (some bA)):
  cm 86 #[some bH] w (some bA) fun w'=>w'=w:=by
 have h0:=hb ⟨w,bu w⟩;simp only at h0;clear hb;go_enter func86,ntmps86;exact iB
variable{c:Cf}
theorem Wd{bA:Nat}(ha:∀ z:aL w,∀ i,i<7→z.world.cell? ⟨bA,i,none⟩=(AO c)[i]?):cm 65 #[some bA] w (fI c) fun w'=>Ext w w':=by
 have e:=(bu w).aE (.cells #[.int .i64 0,.int .i64 0,.int .i64 0,.int .i64 0,.int .i64 0,.int .i64 0,.int .i64 0] 23);have a0:_=some _:=(ha ⟨_,e⟩ 0 O_).trans rfl;have a1:_=some _:=(ha ⟨_,e⟩ 1 O_).trans rfl;have a2:_=some _:=(ha ⟨_,e⟩ 2 O_).trans rfl;have a3:_=some _:=(ha ⟨_,e⟩ 3 O_).trans rfl;have a4:_=some _:=(ha ⟨_,e⟩ 4 O_).trans rfl;have a5:_=some _:=(ha ⟨_,e⟩ 5 O_).trans rfl;have a6:_=some _:=(ha ⟨_,e⟩ 6 O_).trans rfl;simp only at a0 a1 a2 a3 a4 a5 a6;clear ha;exact abK
theorem Kv(hb:∀ z:aL w,z.world.cell? ⟨bH,0,none⟩=some (some bA)):
  Calls prog 37 #[some bH] w fun e w'=>∃ kt bK,e=.returned (.map (some bK))∧∃ o,oF o (fun j=>if j=61 then some (.func (.func 101) #[] #[some kt]) else if j=62 then some (.func (.func 99) #[] #[some kt]) else if j=60 then some (.func (.func 97) #[] #[some kt]) else none)∧Has w w' [.obj bK o,ob kt 85 [some bH]]:=by
 have h1:=(Has.start w).alloc #[some bH] 85;have p1:=h1.at_ (i:=0) aj rfl;have ha:=uD (w:=w.alloc (.cells #[some bH] 85)) (bA:=bA) (bH:=bH) (fun z=>hb ⟨z.world,Ext.next ((bu w).aE _) z.ok⟩);have JX:=@run_makeMap prog;have h2:=h1.sO (.map #[] 0);have xU:=eY.new (w.alloc (.cells #[some bH] 85));have jF:(w.alloc (.cells #[some bH] 85)).heap.size=w.heap.size+1:=S_
 rw [jF] at xU;obtain⟨r1,xP,CH⟩:=xU.put (P:=prog) (t:=90) underlying90 underlying34 60 (.func (.func 97) #[] #[some w.heap.size]);generalize jz prog 90 _ _ 60 (.func (.func 97) #[] #[some w.heap.size])=Q3 at r1 xP CH;obtain⟨r2,ze,DJ⟩:=xP.put (P:=prog) (t:=90) underlying90 underlying34 62 (.func (.func 99) #[] #[some w.heap.size]);generalize jz prog 90 _ _ 62 (.func (.func 99) #[] #[some w.heap.size])=Q2 at r2 ze DJ;obtain⟨r3,Mi,Oj⟩:=ze.put (P:=prog) (t:=90) underlying90 underlying34 61 (.func (.func 101) #[] #[some w.heap.size]);generalize jz prog 90 _ _ 61 (.func (.func 101) #[] #[some w.heap.size])=WG at r3 Mi Oj;rw [jF] at h2;clear hb jF;go_in;go_wp2_with fail;refine un ha fun wz hw=>?_
 obtain rfl:=hw.symm;exact SY
theorem Kz(hb:∀ z:aL w,z.world.cell? ⟨bH,0,none⟩=some (some bA)):
  Calls prog 34 #[some bH] w fun e w'=>∃ ks F0 Cs bK,e=.returned (.map (some bK))∧∃ o,oF o (fun j=>if j=31 then some (.func (.func 89) #[] #[some ks,some Cs]) else if j=30 then some (.func (.func 88) #[] #[some ks,some Cs,some F0]) else none)∧Has w w' [.obj bK o,ob Cs 196 [.func (.func 87) #[] #[some ks,some F0]],ob F0 82 [some bA],ob ks 85 [some bH]]:=by
 have h1:=(Has.start w).alloc #[some bH] 85;have p1:=h1.at_ (i:=0) aj rfl;have ha:=uD (w:=w.alloc (.cells #[some bH] 85)) (bA:=bA) (bH:=bH) (fun z=>hb ⟨z.world,Ext.next ((bu w).aE _) z.ok⟩);have JX:=@run_makeMap prog;have h2:=h1.alloc #[some bA] 82;have p2:=h2.at_ (i:=0) aj rfl;have h3:=h2.alloc #[.func (.func 87) #[] #[some w.heap.size,.pointer (some ⟨w.heap.size+1,0,none⟩)]] 196;have h4:=h3.sO (.map #[] 0);have hs1:(w.alloc (.cells #[some bH] 85)).heap.size=w.heap.size+1:=S_
 have PY:((w.alloc (.cells #[some bH] 85)).alloc (.cells #[some bA] 82)).heap.size=w.heap.size+1+1:=S_
 rw [hs1] at p2;have xU:=eY.new (((w.alloc (.cells #[some bH] 85)).alloc (.cells #[some bA] 82)).alloc (.cells #[.func (.func 87) #[] #[some w.heap.size,.pointer (some ⟨w.heap.size+1,0,none⟩)]] 196));have jF:(((w.alloc (.cells #[some bH] 85)).alloc (.cells #[some bA] 82)).alloc (.cells #[.func (.func 87) #[] #[some w.heap.size,.pointer (some ⟨w.heap.size+1,0,none⟩)]] 196)).heap.size=w.heap.size+1+1+1:=S_
 rw [jF] at xU;obtain⟨r1,xP,CH⟩:=xU.put (P:=prog) (t:=90) underlying90 underlying34 30 (.func (.func 88) #[] #[some w.heap.size,.pointer (some ⟨w.heap.size+1+1,0,none⟩),.pointer (some ⟨w.heap.size+1,0,none⟩)]);generalize jz prog 90 _ _ 30 (.func (.func 88) #[] #[some w.heap.size,.pointer (some ⟨w.heap.size+1+1,0,none⟩),.pointer (some ⟨w.heap.size+1,0,none⟩)])=Q3 at r1 xP CH;obtain⟨r2,ze,DJ⟩:=xP.put (P:=prog) (t:=90) underlying90 underlying34 31 (.func (.func 89) #[] #[some w.heap.size,.pointer (some ⟨w.heap.size+1+1,0,none⟩)]);generalize jz prog 90 _ _ 31 (.func (.func 89) #[] #[some w.heap.size,.pointer (some ⟨w.heap.size+1+1,0,none⟩)])=Q2 at r2 ze DJ;rw [jF] at h4;rw [hs1,PY] at h4;clear hb jF hs1 PY h2 h3;go_in;go_wp2_with fail;refine un ha fun wz hw=>?_
 obtain rfl:=hw.symm;go_wp2_with fail;obtain⟨o,ho,hv⟩:=ze.obj;go_ret;exact⟨_,_,_,_,rfl,o,hv,h4.xB ho (CH.trans DJ fun _ _ h=>h)⟩
theorem PL(hb:∀ z:aL w,z.world.cell? ⟨bH,0,none⟩=some (some bA))(hc:∀ z:aL w,∀ i,i<7→z.world.cell? ⟨bA,i,none⟩=(AO c)[i]?)(ok:bY c.T c.R c.H c.Re c.Ca c.S c.B):
  Calls prog 36 #[some bH] w fun e w'=>∃ kl xg bK,e=.returned (.map (some bK))∧∃ o,oF o (fun j=>if j=52 then some (.func (.func 96) #[] #[some kl,some xg]) else if j=51 then some (.func (.func 94) #[] #[some kl,some xg]) else if j=50 then some (.func (.func 92) #[] #[some kl,some xg]) else none)∧Has w w' [.obj bK o,ob xg 3 [c.ad 6 0],ob kl 85 [some bH]]:=by
 have h1:=(Has.start w).alloc #[some bH] 85;have p1:=h1.at_ (i:=0) aj rfl;have ha:=uD (w:=w.alloc (.cells #[some bH] 85)) (bA:=bA) (bH:=bH) (fun z=>hb ⟨z.world,Ext.next ((bu w).aE _) z.ok⟩);have JX:=@run_makeMap prog;have uC:=fun(W:World) (e:Ext w W)=>Wd (w:=W) (bA:=bA) (c:=c) (fun z i hi=>hc ⟨z.world,Ext.next e z.ok⟩ i hi)
 have Vt:∀ W:World,cm 66 #[fI c,.agg #[.int .i64 6,.int .i64 0,.int .i64 0]] W (.tuple #[c.ad 6 0,.int .i64 0]) fun w'=>Ext W w':=fun W=>fY c.T c.R c.H c.Re c.Ca c.S c.B ok 5 6 0 rfl O_ O_ (by show(0:Int)<1;omega) O_ W
 have Vt:=aJ Vt;have uC:=aJ uC;go_in;go_wp2_with fail;refine un ha fun wz hw=>?_
 obtain rfl:=hw.symm;go_wp2_with fail;refine un ha fun wz hw=>?_
 obtain rfl:=hw.symm;go_wp2_with fail;refine un (uC.out _ ((bu w).aE _)) fun w2 e2=>?_
 go_wp2_with fail;refine un (Vt.out _) fun w3 e3=>?_
 have h3:=h1.next (Ext.next e2 e3);have p3:=h3.at_ (i:=0) aj rfl;have l3:=h3.tu aj;have h4:=h3.alloc #[c.ad 6 0] 3;have h5:=h4.sO (.map #[] 0);have p4:=h4.at_ (i:=0) bp rfl;have p5:=h4.at_ (i:=0) aj rfl;have xU:=eY.new (w3.alloc (.cells #[c.ad 6 0] 3));have jF:(w3.alloc (.cells #[c.ad 6 0] 3)).heap.size=w3.heap.size+1:=S_
 rw [jF] at xU;obtain⟨r1,xP,CH⟩:=xU.put (P:=prog) (t:=90) underlying90 underlying34 50 (.func (.func 92) #[] #[some w.heap.size,some w3.heap.size]);generalize jz prog 90 _ _ 50 (.func (.func 92) #[] #[some w.heap.size,some w3.heap.size])=Q3 at r1 xP CH;obtain⟨r2,ze,DJ⟩:=xP.put (P:=prog) (t:=90) underlying90 underlying34 51 (.func (.func 94) #[] #[some w.heap.size,some w3.heap.size]);generalize jz prog 90 _ _ 51 (.func (.func 94) #[] #[some w.heap.size,some w3.heap.size])=Q2 at r2 ze DJ;obtain⟨r3,Mi,Oj⟩:=ze.put (P:=prog) (t:=90) underlying90 underlying34 52 (.func (.func 96) #[] #[some w.heap.size,some w3.heap.size]);generalize jz prog 90 _ _ 52 (.func (.func 96) #[] #[some w.heap.size,some w3.heap.size])=WG at r3 Mi Oj;rw [jF] at h5;clear hb hc jF;go_wp2_with fail;obtain⟨o,ho,hv⟩:=Mi.obj;go_ret;exact⟨_,_,_,rfl,o,hv,h5.xB ho ((CH.trans DJ fun _ _ h=>h).trans Oj fun _ _ h=>h)⟩
theorem CI{f:FuncId}{k:Nat}:cm 75 #[.func (.func f) #[] #[some k],some k] w (.func (.func 76) #[] #[some k,some w.heap.size]) fun w'=>w'=w.alloc (.cells #[.func (.func f) #[] #[some k]] 116):=by
 go_enter func75,ntmps75;exact iB
theorem Vp(hb:∀ z:aL w,z.world.cell? ⟨bH,0,none⟩=some (some bA)):
  Calls prog 33 #[some bH] w fun e w'=>∃ kh w1 w2 w3 w4 w5 bK,e=.returned (.map (some bK))∧∃ o,oF o (fun j=>if j=25 then some (.func (.func 76) #[] #[some kh,some w5]) else if j=24 then some (.func (.func 76) #[] #[some kh,some w4]) else if j=23 then some (.func (.func 76) #[] #[some kh,some w3]) else if j=22 then some (.func (.func 76) #[] #[some kh,some w2]) else if j=21 then some (.func (.func 76) #[] #[some kh,some w1]) else if j=20 then some (.func (.func 78) #[] #[some kh]) else none)∧Has w w' [.obj bK o,ob w5 116 [.func (.func 84) #[] #[some kh]],ob w4 116 [.func (.func 83) #[] #[some kh]],ob w3 116 [.func (.func 81) #[] #[some kh]],ob w2 116 [.func (.func 80) #[] #[some kh]],ob w1 116 [.func (.func 79) #[] #[some kh]],ob kh 85 [some bH]]:=by
 have h1:=(Has.start w).alloc #[some bH] 85;have p1:=h1.at_ (i:=0) aj rfl;have F7:(w.alloc (.cells #[some bH] 85)).cell? ⟨bH,0,none⟩=some (some bA):=hb ⟨_,(bu w).aE _⟩;have JX:=@run_makeMap prog;have h2:=h1.sO (.map #[] 0);have xU:=eY.new (w.alloc (.cells #[some bH] 85));have jF:(w.alloc (.cells #[some bH] 85)).heap.size=w.heap.size+1:=S_
 rw [jF] at xU h2;obtain⟨r1,xP,CH⟩:=xU.put (P:=prog) (t:=90) underlying90 underlying34 20 (.func (.func 78) #[] #[some w.heap.size]);generalize jz prog 90 _ _ 20 (.func (.func 78) #[] #[some w.heap.size])=Q3 at r1 xP CH;obtain⟨o1,ho1,iE⟩:=xP.obj;have h3:=h2.xB ho1 CH;clear h2 CH hb;go_in;go_wp2_with fail;refine un CI fun wz hw=>?_
 obtain rfl:=hw.symm;have h4:=(h3.alloc #[.func (.func 79) #[] #[some w.heap.size]] 116).swap;have hJ2:=xP.ext ((bu Q3).aE (.cells #[.func (.func 79) #[] #[some w.heap.size]] 116));obtain⟨r2,ze,DJ⟩:=hJ2.put (P:=prog) (t:=90) underlying90 underlying34 21 (.func (.func 76) #[] #[some w.heap.size,some Q3.heap.size]);generalize jz prog 90 _ _ 21 (.func (.func 76) #[] #[some w.heap.size,some Q3.heap.size])=Q2 at r2 ze DJ;obtain⟨o2,Av,yZ⟩:=ze.obj;have g2:=h4.xB Av DJ;go_wp2_with fail;refine un CI fun wz hw=>?_
 obtain rfl:=hw.symm;have h5:=(g2.alloc #[.func (.func 80) #[] #[some w.heap.size]] 116).swap;have hJ3:=ze.ext ((bu Q2).aE (.cells #[.func (.func 80) #[] #[some w.heap.size]] 116));obtain⟨r3,Mi,Oj⟩:=hJ3.put (P:=prog) (t:=90) underlying90 underlying34 22 (.func (.func 76) #[] #[some w.heap.size,some Q2.heap.size]);generalize jz prog 90 _ _ 22 (.func (.func 76) #[] #[some w.heap.size,some Q2.heap.size])=WG at r3 Mi Oj;obtain⟨o3,ho3,hv3⟩:=Mi.obj;have g3:=h5.xB ho3 Oj;go_wp2_with fail;refine un CI fun wz hw=>?_
 obtain rfl:=hw.symm;have h6:=(g3.alloc #[.func (.func 81) #[] #[some w.heap.size]] 116).swap;have hJ4:=Mi.ext ((bu WG).aE (.cells #[.func (.func 81) #[] #[some w.heap.size]] 116));obtain⟨r4,hI4,hO4⟩:=hJ4.put (P:=prog) (t:=90) underlying90 underlying34 23 (.func (.func 76) #[] #[some w.heap.size,some WG.heap.size]);generalize jz prog 90 _ _ 23 (.func (.func 76) #[] #[some w.heap.size,some WG.heap.size])=wi4 at r4 hI4 hO4;obtain⟨o4,Bv,hv4⟩:=hI4.obj;have g4:=h6.xB Bv hO4;go_wp2_with fail;refine un CI fun wz hw=>?_
 obtain rfl:=hw.symm;have h7:=(g4.alloc #[.func (.func 83) #[] #[some w.heap.size]] 116).swap;have hJ5:=hI4.ext ((bu wi4).aE (.cells #[.func (.func 83) #[] #[some w.heap.size]] 116));obtain⟨r5,hI5,hO5⟩:=hJ5.put (P:=prog) (t:=90) underlying90 underlying34 24 (.func (.func 76) #[] #[some w.heap.size,some wi4.heap.size]);generalize jz prog 90 _ _ 24 (.func (.func 76) #[] #[some w.heap.size,some wi4.heap.size])=wi5 at r5 hI5 hO5;obtain⟨o5,IK,hv5⟩:=hI5.obj;have g5:=h7.xB IK hO5;go_wp2_with fail;refine un CI fun wz hw=>?_
 obtain rfl:=hw.symm;have h8:=(g5.alloc #[.func (.func 84) #[] #[some w.heap.size]] 116).swap;have hJ6:=hI5.ext ((bu wi5).aE (.cells #[.func (.func 84) #[] #[some w.heap.size]] 116));obtain⟨r6,hI6,hO6⟩:=hJ6.put (P:=prog) (t:=90) underlying90 underlying34 25 (.func (.func 76) #[] #[some w.heap.size,some wi5.heap.size]);generalize jz prog 90 _ _ 25 (.func (.func 76) #[] #[some w.heap.size,some wi5.heap.size])=wi6 at r6 hI6 hO6;obtain⟨o6,ho6,hv6⟩:=hI6.obj;have g6:=h8.xB ho6 hO6;go_wp2;go_ret;exact⟨_,_,_,_,_,_,_,rfl,_,hv6,g6⟩
theorem yN(ws:List Int):∀ u∈ws.map (Value.int .u64),u.oneCell'=true:=by
 intro u hu;obtain⟨x,_,rfl⟩:=List.mem_map.1 hu
 rfl
theorem Ul{B n:Nat}{v:Value}{ws:List Int}(h:w.ownsRow B 38 1 v n (ws.map (Value.int .u64)))(hn:n≤8192):
  Calls prog 103 #[v] w fun e w'=>∃ bW vw,e=.returned (.tuple #[some bW,.int .i64 0])∧Has w w' [ob bW 248 [vw,.slice none 0 0,.slice none 0 0,.int .i64 0],.row vw 38 1 n (ws.map (Value.int .u64))]:=by
 have hc:=nJ h (yN ws) O_;obtain⟨A,c,rfl⟩:=aA h;have d1:decide (8192<(n:Int))=false:=dy O_;clear h;go_in;go_wp2_with fail;refine hc.mono ?_;rintro e w1 ⟨vw,rfl,h1,e1⟩;have h2:=(Has.start w).add (H':= []) ((Has.start w).next e1) rfl h1 (bZ _);obtain⟨A',c',rfl⟩:=aA h1;have h3:=h2.alloc #[.slice A' n c',.slice none 0 0,.slice none 0 0,.int .i64 0] 248;go_wp2
 go_ret2;exact⟨_,_,rfl,h3⟩
theorem VR:Elem prog 114 5 48:=Elem.of (z:=.agg #[.nilIface,false,.int .i64 0,.int .i64 0,.int .i64 0]) K_ (by simp [Value.cells]) O_ O_
def Ab:Nat→List Value
 | 0=> []
 | n+1=>Ab n++ [.nilIface,.bool false,.int .i64 (-1),.int .i64 0,.int .i64 0]
@[reducible] def yQ(bW:Nat)(mO vs:Value):List Value:= [some bW,.int .i64 0,.int .i64 0,.pointer none,.pointer none,false,.slice none 0 0,mO,vs,.int .i64 0,.slice none 0 0]
theorem Pz{B n T bK:Nat}{v:Value}{ws:List Int}(h:w.ownsRow B 38 1 v n (ws.map (Value.int .u64)))(hn:n≤8192)(h1:1≤T)(rX:T≤16):
  Calls prog 38 #[T,v,.map (some bK)] w fun e w'=>∃ bM bW vw vs,e=.returned (.tuple #[some bM,.int .i64 0])∧Has w w' [ob bM 106 (yQ bW (.map (some bK)) vs),.row vs 114 5 T (Ab T),ob bW 248 [vw,.slice none 0 0,.slice none 0 0,.int .i64 0],.row vw 38 1 n (ws.map (Value.int .u64))]:=by
 have hc:=Ul h hn;obtain⟨A,c,rfl⟩:=aA h;have d1:decide ((T:Int)<1)=false:=dy O_;have d2:decide ((16:Int)<(T:Int))=false:=dy O_;clear h;go_in;go_wp2_with fail;refine hc.mono ?_;rintro e w1 ⟨bW,vw,rfl,hw⟩;have hB:=(hw.nil 114 5).alloc (yQ bW (.map (some bK)) (.slice none 0 0)).toArray 106;go_wp2_with fail;generalize hb:w1.heap.size=bM at hB ⊢;have hb:=aJ hb;generalize hwA:(w1.alloc (.cells (yQ bW (.map (some bK)) (.slice none 0 0)).toArray 106))=wA at hB ⊢;have hwA:=aJ hwA
 go_loopw [31] (fun s31 wr=>∃ (i:Nat) (vs:Value),s31=.int .i64 i∧i≤T∧Hid (Has w wr [ob bM 106 (yQ bW (.map (some bK)) vs),.row vs 114 5 i (Ab i),ob bW 248 [vw,.slice none 0 0,.slice none 0 0,.int .i64 0],.row vw 38 1 n (ws.map (Value.int .u64))])) (fun s31 _=>T - (intOf s31).toNat)
 case atStart=>exact⟨0,_,rfl,nU _,hB⟩
 case round=>
  obtain⟨i,vs,rfl,hi,hH⟩:=hrel
  by_cases hlt:i<T
  case neg=>
   have dl:decide ((i:Int)<(T:Int))=false:=dy O_;obtain rfl:i=T:=O_
   go_wp2
   go_ret2;exact⟨_,_,_,_,rfl,hH.out⟩
  case pos=>
   have dl:decide ((i:Int)<(T:Int))=true:=cM O_;obtain⟨W,hW⟩:∃ W:World,W=wr:=⟨_,rfl⟩;subst hW;have h5:=hH.out;clear hH hB hwA hb hw hc;obtain⟨A,c5,rfl⟩:=iJ h5 bp;have hM:=h5.cell (i:=8) aj rfl;have mK:W.ownsRow w.heap.size 114 5 (.slice A i c5) i (Ab i):=h5.own _ bp;have WE:=h5.ext.size;have Fp:Rd (W.alloc (.cells #[.nilIface,false,.int .i64 (-1),.int .i64 0,.int .i64 0] 114)) (some ⟨W.heap.size,0,none⟩) [.nilIface,false,.int .i64 (-1),.int .i64 0,.int .i64 0]:=Rd.made W [.nilIface,false,.int .i64 (-1),.int .i64 0,.int .i64 0] 114;have nh:∀ u∈([.nilIface,false,.int .i64 (-1),.int .i64 0,.int .i64 0]:List Value),u.oneCell'=true:=by intro u hu;simp at hu;rcases hu with rfl | rfl | rfl | rfl | rfl<;>rfl
   have xf:=h5.dW aj 8;have xk:=h5.at_ (i:=8) aj rfl;have xlt:=h5.tu aj;have xn:=lN xlt;go_wp2_with (at_builtin;refine cN _ rfl (.tmp 37) (.tmp 39) 104 rfl w.heap.size 114 5 48 VR underlying104 (.slice A i c5) i _ (by simp [Act.eval]) (dB mK ((bu W).aE _)) (some ⟨W.heap.size,0,none⟩) 1 1 [.nilIface,.bool false,.int .i64 (-1),.int .i64 0,.int .i64 0] (by simp [Act.eval]) rfl Fp nh O_ (by simp;omega) ?_;intro v' W2 bV bl fk;have h6:=Has.grow (A:= [_]) h5 (show W2.ownsRow w.heap.size 114 5 v' (i+1) (Ab i++ [.nilIface,.bool false,.int .i64 (-1),.int .i64 0,.int .i64 0]) from bV) (aD bl) (fk.imp id fun e=>⟨_,e,S_⟩);have kk:=h6.at_ (i:=8) aj rfl;have ff:=h6.dW aj 8;obtain⟨g6,c6,rfl,_,_,_⟩:=bf bV O_);have h6:=Has.fW (A:= []) h6 8 (.slice (some ⟨g6,0,none⟩) (i+1) c6);exact SA
theorem Has.wJ{w0 w:World}{H:List En}(h:Has w0 w H)(cs:Array Value)(t:TypeId)(n k:Nat)(hs:cs.size=n*k)(hn:n≤maxLen):Has w0 (w.alloc (.cells cs t)) (dA w.heap.size n t k n cs.toList::H):=by
 have h1:=(h.nil t k).cg (x':=dA w.heap.size n t k n cs.toList) (w':=w.alloc (.cells cs t)) ?_ (World.grownBy_alloc _ _ _) (.inr (.inr ⟨_,rfl,bZ _⟩))
 ·exact h1
 ·exact World.ownsRow_lit w cs n h.ext.size hn hs
def yB(i:Nat):Int×Int:=(if i<1 then 3 else 0,-1)
def lE(L:List Value)(i:Nat):List Value:=((List.range i).map yB).flatMap fm++L.drop (i*2)
theorem jb(i:Nat):(((List.range i).map yB).flatMap fm).length=i*2:=by
 induction i with
 | zero=>rfl
 | succ i ih=>
  rw [List.range_succ,jI,rT,gP,ih]
  show i*2+2=(i+1)*2
  omega
theorem vR{L:List Value}{n i:Nat}(hl:L.length=n*2)(hi:i<n)(u:Value)(x:Int)(hu:.int .i64 x=u)(hx:x=if i<1 then 3 else 0):((lE L i).set (i*2) u).set (i*2+1) (.int .i64 (-1))=lE L (i+1):=by
 unfold lE
 have h2:(L.drop (i*2))=L[i*2]'O_::L[i*2+1]'O_::L.drop ((i+1)*2):=by
  rw [GR O_,GR O_]
  congr 3
  omega
 rw [h2,JK _ _ (by rw [jb];exact bZ _),jb,Nat.sub_self,Dw,JK _ _ (by rw [jb];omega),jb];rw [show i*2+1 - i*2=1 from O_,wW,Dw,List.range_succ,jI,rT,dH,←hu,hx]
 rfl
theorem I5{L:List Value}{n i:Nat}(_:L.length=n*2)(_:i<n):(lE L i)[i*2]?=L[i*2]?∧(lE L i)[i*2+1]?=L[i*2+1]?:=by
 unfold lE;rw [yw (by rw [jb];exact bZ _),yw (by rw [jb];omega),jb,List.getElem?_drop,List.getElem?_drop]
 constructor
 ·congr 1;omega
 ·congr 1;omega
theorem KB:(prog.info? 149).map (fun i=>(i.zero,i.size,i.bytes))=some (some (.agg #[.int .i64 0,.int .i64 0]),2,16):=K_
theorem Iz(n:Nat)(hn:n≤1024):∃ cs:Array Value,cs.size=n*2∧∀ W:World,(Instr.makeSlice 145 n n).run prog W=.ok (.slice (some ⟨W.heap.size,0,none⟩) n n) (W.alloc (.cells cs 149)):=by
 obtain⟨i,hi,hz,hs,hb⟩:=info_parts KB;refine⟨madeCells (#[.int .i64 0,.int .i64 0]) (n*2),size_madeCells _ _,fun W=>?_⟩;have h:=run_make (P:=prog) W 145 149 i _ underlying145 hi hz .i64 .i64 n n O_ (Int.le_refl _) (by rw [hb];omega) O_;rw [hs] at h;exact h
theorem Ke:(prog.info? 40).map (fun i=>(i.zero,i.size,i.bytes))=some (some (.slice none 0 0),1,24):=K_
theorem Nb{T n:Nat}(ok:bY c.T c.R c.H c.Re c.Ca c.S c.B)(hT:c.T=T)(hS:c.S=n):
  Calls prog 28 #[fI c,.int .i64 1] w fun e w'=>∃ bA gl ga,e=.returned (.tuple #[some bA,.int .i64 0])∧Has w w' [ob bA 147 (AO c++ [.slice (some ⟨gl,0,none⟩) n n,.slice (some ⟨ga,0,none⟩) T T]),dA gl n 149 2 n (((List.range n).map yB).flatMap fm),dA ga T 40 1 T (List.replicate T (.slice none 0 0))]:=by
 have tD:=fun W=>jm c.T c.R c.H c.Re c.Ca c.S c.B W
 rw [aY ok] at tD;have ok':=ok;unfold bY at ok';have d1:decide (c.S<1)=false:=dy O_;unfold fI AO;rw [hS] at d1;rw [hT,hS] at tD ok' ⊢;have tD:=aJ tD;obtain⟨M5,hcs,hmkS⟩:=Iz n O_;have IL:=fun W=>nX Ke rfl underlying49 (T:Int) O_ O_ O_ W
 simp only [mW] at IL;have h1:=(Has.start w).alloc #[T,c.R,c.H,c.Re,c.Ca,n,c.B] 23;have p1:=h1.all aj;clear hT hS ok;go_in;go_wp2_with fail;refine un (tD.out _) fun w2 e2=>?_
 have h2:=h1.next e2;have p2:=h2.all aj;clear p1;go_wp2_with fail;have gj:∀ w',Ext w2 w'→∀ i,w'.cell? ⟨w.heap.size,i,none⟩= [Value.int .i64 T,c.R,c.H,c.Re,c.Ca,n,c.B][i]?:=fun w' e=>(h2.next e).all aj
 go_cut [7] (fun s wx=>∃ bA gl ga,s=.pointer (some ⟨bA,0,none⟩)∧Hid (Has w wx [ob bA 147 [T,c.R,c.H,c.Re,c.Ca,n,c.B,.slice (some ⟨gl,0,none⟩) n n,.slice (some ⟨ga,0,none⟩) T T],dA gl n 149 2 n M5.toList,dA ga T 40 1 T (List.replicate T (.slice none 0 0)),ob w.heap.size 23 [T,c.R,c.H,c.Re,c.Ca,n,c.B]]))
 case first=>
  go_region_held3 (fun w'=>∀ i,w'.cell? ⟨w.heap.size,i,none⟩= [Value.int .i64 T,c.R,c.H,c.Re,c.Ca,n,c.B][i]?) (first | exact gj _ ((bu w2).bh) | exact gj _ (((bu w2).aE _).bh) | exact gj _ ((((bu w2).aE _).aE _).bh) | exact gj _ (((((bu w2).aE _).aE _).aE _).bh)) (fail)
  ·have g1:=h2.wJ M5 149 n 2 hcs (by unfold maxLen;omega)
   have hsz:(w2.alloc (.cells M5 149)).heap.size=w2.heap.size+1:=S_
   have g2:=g1.wJ (jg T (.slice none 0 0)) 40 T 1 (by simp [jg]) (by unfold maxLen;omega);rw [hsz] at g2;have g3:=g2.alloc #[T,c.R,c.H,c.Re,c.Ca,n,c.B,.slice (some ⟨w2.heap.size,0,none⟩) n n,.slice (some ⟨w2.heap.size+1,0,none⟩) T T] 147;have g4:=g3.perm (mU _ (iC _ _ _));rw [show(jg T (.slice none 0 0)).toList=List.replicate T (.slice none 0 0) by simp [jg]] at g4;rw [show((w2.alloc (.cells M5 149)).alloc (.cells (jg T (.slice none 0 0)) 40)).heap.size=w2.heap.size+1+1 from S_] at g4;exact SC
  ·have g1:=h2.wJ (jg T (.slice none 0 0)) 40 T 1 (by simp [jg]) (by unfold maxLen;omega)
   have hsz:(w2.alloc (.cells (jg T (.slice none 0 0)) 40)).heap.size=w2.heap.size+1:=S_
   have g2:=g1.wJ M5 149 n 2 hcs (by unfold maxLen;omega);rw [hsz] at g2;have g4:=g2.alloc #[T,c.R,c.H,c.Re,c.Ca,n,c.B,.slice (some ⟨w2.heap.size+1,0,none⟩) n n,.slice (some ⟨w2.heap.size,0,none⟩) T T] 147;rw [show(jg T (.slice none 0 0)).toList=List.replicate T (.slice none 0 0) by simp [jg]] at g4;rw [show((w2.alloc (.cells (jg T (.slice none 0 0)) 40)).alloc (.cells M5 149)).heap.size=w2.heap.size+1+1 from S_] at g4;exact SC
 obtain⟨bA,gl,ga,rfl,hH⟩:=hcut;have h3:=hH.out;clear hH gj p2 h2 hmkS IL tD;obtain⟨W,hW⟩:∃ W:World,W=wc:=⟨_,rfl⟩;subst hW;have q7:=h3.at_ (i:=7) aj rfl;have hfl:M5.toList.length=n*2:=by rw [Array.length_toList];exact hcs
 have Xd:M5.toList=lE M5.toList 0:=by simp [lE]
 rw [Xd] at h3;generalize M5.toList=L at h3 hfl;clear Xd hcs M5;go_wp2_with fail;clear q7
 go_loopw [36] (fun s36 wr=>∃ (i:Nat),s36=.int .i64 i∧i≤n∧Hid (Has w wr [ob bA 147 [T,c.R,c.H,c.Re,c.Ca,n,c.B,.slice (some ⟨gl,0,none⟩) n n,.slice (some ⟨ga,0,none⟩) T T],dA gl n 149 2 n (lE L i),dA ga T 40 1 T (List.replicate T (.slice none 0 0)),ob w.heap.size 23 [T,c.R,c.H,c.Re,c.Ca,n,c.B]])) (fun s36 _=>n - (intOf s36).toNat)
 case atStart=>exact⟨0,rfl,nU _,h3⟩
 case round=>
  obtain⟨i,rfl,hi,hH⟩:=hrel
  by_cases hlt:i<n
  case neg=>
   have dl:decide ((i:Int)<(n:Int))=false:=dy O_;obtain rfl:i=n:=O_
   go_wp2
   go_ret2;have h9:=hH.out;rw [show lE L i=((List.range i).map yB).flatMap fm by unfold lE;rw [List.drop_of_length_le O_,iN]] at h9;exact⟨_,_,_,rfl,(h9.perm (dV (l₁:= [_,_,_]) (l₂:= []))).drop⟩
  case pos=>
   have dl:decide ((i:Int)<(n:Int))=true:=cM O_;obtain⟨W,hW⟩:∃ W:World,W=wr:=⟨_,rfl⟩;subst hW;have h5:=hH.out;clear hH h3;have q7:=h5.cell (i:=7) aj rfl;obtain⟨l0,l1⟩:=I5 hfl hlt;obtain⟨x0,hx0⟩:∃ x,L[i*2]?=some x:=⟨_,fy O_⟩;obtain⟨x1,hx1⟩:∃ x,L[i*2+1]?=some x:=⟨_,fy O_⟩;have c0:=h5.ey (g:=gl) (c:=n) bp (l0.trans hx0);have c1:=h5.ey (g:=gl) (c:=n) bp (l1.trans hx1);have fg:=h5.gL (g:=gl) (c:=n) bp;have h6:=Has.fD (A:= [_]) (Has.fD (A:= [_]) h5 (i*2) (.int .i64 0)) (i*2+1) (.int .i64 (-1));have r7:=h6.cell (i:=7) aj rfl
   by_cases h0:i<1
   case neg=>
    have d0:decide ((i:Int)<1)=false:=dy O_;rw [vR hfl hlt (.int .i64 0) 0 rfl (by rw [aK h0])] at h6;clear q7 l0 l1 hx0 hx1;have q7:=h5.at_ (i:=7) aj rfl;have r7:=h6.at_ (i:=7) aj rfl;go_wp2
    go_roundw
    case rel=>exact⟨i+1,by go_num,O_,h6⟩
    case measure=>simp [intOf];omega
   case pos=>
    have d0:decide ((i:Int)<1)=true:=cM O_;have h7:=Has.fD (A:= [_]) h6 (i*2) (.int .i64 3)
    have e3:(((lE L i).set (i*2) (.int .i64 0)).set (i*2+1) (.int .i64 (-1))).set (i*2) (.int .i64 3)=lE L (i+1):=by
     rw [List.set_comm _ _ O_,tZ];exact vR hfl hlt (.int .i64 3) 3 rfl (by rw [aY h0])
    rw [e3] at h7;have k0:=h6.ey (g:=gl) (c:=n) (i:=i*2) (u:=.int .i64 0) bp (by rw [oG O_,g9 (fO.1 (l0.trans hx0)).1]);have kf:=h6.gL (g:=gl) (c:=n) bp (i*2);clear q7 l0 l1 hx0 hx1 e3 r7;have q7:=h5.at_ (i:=7) aj rfl;have r7:=h6.at_ (i:=7) aj rfl;go_wp2
    go_roundw
    case rel=>exact⟨i+1,by go_num,O_,h7⟩
    case measure=>simp [intOf];omega
theorem KO(hb:∀ z:aL w,z.world.cell? ⟨bH,0,none⟩=some (some bA))(hc:∀ z:aL w,∀ i,i<7→z.world.cell? ⟨bA,i,none⟩=(AO c)[i]?)(ok:bY c.T c.R c.H c.Re c.Ca c.S c.B):
  Calls prog 35 #[some bH] w fun e w'=>∃ kq Ct kc bK,e=.returned (.map (some bK))∧∃ o,oF o (fun j=>if j=41 then some (.func (.func 91) #[] #[some kq,some Ct]) else if j=40 then some (.func (.func 90) #[] #[some kq,some Ct]) else none)∧Has w w' [.obj bK o,ob Ct 204 [some bH,c.ad 4 0,c.ad 5 0,c.ad 11 0,c.ad 13 0],ob kc 23 (AO c),ob kq 85 [some bH]]:=by
 have h1:=(Has.start w).alloc #[some bH] 85;have p1:=h1.at_ (i:=0) aj rfl;have ha:=uD (w:=w.alloc (.cells #[some bH] 85)) (bA:=bA) (bH:=bH) (fun z=>hb ⟨z.world,Ext.next ((bu w).aE _) z.ok⟩);have JX:=@run_makeMap prog;have uC:=fun(W:World) (e:Ext w W)=>Wd (w:=W) (bA:=bA) (c:=c) (fun z i hi=>hc ⟨z.world,Ext.next e z.ok⟩ i hi)
 have uC:=aJ uC;have Vv:∀ W:World,cm 66 #[fI c,.agg #[.int .i64 4,.int .i64 0,.int .i64 0]] W (.tuple #[c.ad 4 0,.int .i64 0]) fun w'=>Ext W w':=fun W=>fY c.T c.R c.H c.Re c.Ca c.S c.B ok 3 4 0 rfl O_ O_ (by show(0:Int)<1;omega) O_ W
 have Vv:=aJ Vv;have Vu:∀ W:World,cm 66 #[fI c,.agg #[.int .i64 5,.int .i64 0,.int .i64 0]] W (.tuple #[c.ad 5 0,.int .i64 0]) fun w'=>Ext W w':=fun W=>fY c.T c.R c.H c.Re c.Ca c.S c.B ok 4 5 0 rfl O_ O_ (by show(0:Int)<1;omega) O_ W
 have Vu:=aJ Vu;have vJ:∀ W:World,cm 66 #[fI c,.agg #[.int .i64 11,.int .i64 0,.int .i64 0]] W (.tuple #[c.ad 11 0,.int .i64 0]) fun w'=>Ext W w':=fun W=>fY c.T c.R c.H c.Re c.Ca c.S c.B ok 10 11 0 rfl O_ O_ (by show(0:Int)<c.S;unfold bY at ok;omega) O_ W
 have vJ:=aJ vJ;have Mh:∀ W:World,cm 66 #[fI c,.agg #[.int .i64 13,.int .i64 0,.int .i64 0]] W (.tuple #[c.ad 13 0,.int .i64 0]) fun w'=>Ext W w':=fun W=>fY c.T c.R c.H c.Re c.Ca c.S c.B ok 12 13 0 rfl O_ O_ (by show(0:Int)<c.S;unfold bY at ok;omega) O_ W
 have Mh:=aJ Mh;go_in;go_wp2_with fail;refine un ha fun wz hw=>?_
 obtain rfl:=hw.symm;go_wp2_with fail;refine un ha fun wz hw=>?_
 obtain rfl:=hw.symm;go_wp2_with fail;refine un (uC.out _ ((bu w).aE _)) fun w2 e2=>?_
 have h2:=h1.next e2;have h3:=h2.alloc #[c.T,c.R,c.H,c.Re,c.Ca,c.S,c.B] 23;have g3:=h3.at_ (i:=0) bp rfl;have h4:=h3.alloc #[some bH,.int .i64 0,.int .i64 0,.int .i64 0,.int .i64 0] 204;have PY:(w2.alloc (.cells #[c.T,c.R,c.H,c.Re,c.Ca,c.S,c.B] 23)).heap.size=w2.heap.size+1:=S_
 rw [PY] at h4;unfold fI;have x4:=h4.all bp;have y4:=h4.all aj;have z4:=h4.at_ (i:=0) iU rfl;have u4:=h4.dW aj;have v4:=h4.dW bp;clear h1 h2 h3 PY p1 ha uC hb hc ok;go_wp2_with fail;refine un (Vv.out _) fun w5 e5=>?_
 clear x4 y4 z4 u4 v4;have k1:=h4.next e5;have x21:=k1.all bp;have y21:=k1.all aj;have z21:=k1.at_ (i:=0) iU rfl;have u21:=k1.dW aj;have v21:=k1.dW bp;have q1:=k1.put 1 (.int .i64 (c.ad 4 0));have x5:=q1.all bp;have y5:=q1.all aj;have z5:=q1.at_ (i:=0) iU rfl;have u5:=q1.dW aj;have v5:=q1.dW bp;go_wp2_with fail;refine un (Vu.out _) fun w6 e6=>?_
 clear x5 y5 z5 u5 v5;have k2:=q1.next e6;have x22:=k2.all bp;have y22:=k2.all aj;have z22:=k2.at_ (i:=0) iU rfl;have u22:=k2.dW aj;have v22:=k2.dW bp;have q2:=k2.put 2 (.int .i64 (c.ad 5 0));have x6:=q2.all bp;have y6:=q2.all aj;have z6:=q2.at_ (i:=0) iU rfl;have u6:=q2.dW aj;have v6:=q2.dW bp;go_wp2_with fail;refine un (vJ.out _) fun w7 e7=>?_
 clear x6 y6 z6 u6 v6;have k3:=q2.next e7;have x23:=k3.all bp;have y23:=k3.all aj;have z23:=k3.at_ (i:=0) iU rfl;have u23:=k3.dW aj;have v23:=k3.dW bp;have q3:=k3.put 3 (.int .i64 (c.ad 11 0));have x7:=q3.all bp;have y7:=q3.all aj;have z7:=q3.at_ (i:=0) iU rfl;have u7:=q3.dW aj;have v7:=q3.dW bp;go_wp2_with fail;refine un (Mh.out _) fun w8 e8=>?_
 clear x7 y7 z7 u7 v7;have k4:=q3.next e8;have x24:=k4.all bp;have y24:=k4.all aj;have z24:=k4.at_ (i:=0) iU rfl;have u24:=k4.dW aj;have v24:=k4.dW bp;have q4:=k4.put 4 (.int .i64 (c.ad 13 0));have x8:=q4.all bp;have y8:=q4.all aj;have z8:=q4.at_ (i:=0) iU rfl;have u8:=q4.dW aj;have v8:=q4.dW bp;have h9:=q4.sO (.map #[] 0);have xU:=eY.new (w8.setCell ⟨w2.heap.size+1,4,none⟩ (.int .i64 (c.ad 13 0)));have jF:(w8.setCell ⟨w2.heap.size+1,4,none⟩ (.int .i64 (c.ad 13 0))).heap.size=w8.heap.size:=S_
 rw [jF] at xU;obtain⟨r1,xP,CH⟩:=xU.put (P:=prog) (t:=90) underlying90 underlying34 40 (.func (.func 90) #[] #[some w.heap.size,.pointer (some ⟨w2.heap.size+1,0,none⟩)]);generalize jz prog 90 _ _ 40 (.func (.func 90) #[] #[some w.heap.size,.pointer (some ⟨w2.heap.size+1,0,none⟩)])=Q3 at r1 xP CH;obtain⟨r2,ze,DJ⟩:=xP.put (P:=prog) (t:=90) underlying90 underlying34 41 (.func (.func 91) #[] #[some w.heap.size,.pointer (some ⟨w2.heap.size+1,0,none⟩)]);generalize jz prog 90 _ _ 41 (.func (.func 91) #[] #[some w.heap.size,.pointer (some ⟨w2.heap.size+1,0,none⟩)])=Q2 at r2 ze DJ;rw [jF] at h9;clear jF;go_wp2_with fail;obtain⟨o,ho,hv⟩:=ze.obj;go_ret;exact⟨_,_,_,_,rfl,o,hv,h9.xB ho (CH.trans DJ fun _ _ h=>h)⟩
theorem Vo{bA T R:Nat}(ok:bY c.T c.R c.H c.Re c.Ca c.S c.B)(hT:c.T=T)(hR:c.R=R)(hc:∀ z:aL w,∀ i,i<7→z.world.cell? ⟨bA,i,none⟩=(AO c)[i]?):
  Calls prog 29 #[some bA] w fun e w'=>∃ bH vh gi bC,e=.returned (some bH)∧Has w w' [ob bH 152 [some bA,c.T,c.R,c.H,c.Re,c.Ca,c.S,c.B,vh,.slice (some ⟨gi,0,none⟩) R R,c.ad 8 0,c.ad 9 0,c.ad 2 0,c.ad 11 0],.row vh 3 1 T (List.replicate T (.int .i64 (-1))),dA gi R 40 1 R (List.replicate R (.slice none 0 0)),ob bC 23 [c.T,c.R,c.H,c.Re,c.Ca,c.S,c.B]]:=by
 obtain⟨cT,cR,cH,cRe,cCa,cS,cB⟩:=c;simp only at hT hR ok;subst hT hR;obtain⟨c,hce⟩:∃ c:Cf,c=⟨(T:Int),(R:Int),cH,cRe,cCa,cS,cB⟩:=⟨_,rfl⟩;have hT:c.T=T:=by rw [hce]
 have hR:c.R=R:=by rw [hce]
 rw [←hce] at hc ⊢;replace ok:bY c.T c.R c.H c.Re c.Ca c.S c.B:=by rw [hce];exact ok
 replace hT:=aJ hT;replace hR:=aJ hR;clear hce;have uC:=fun(W:World) (e:Ext w W)=>Wd (w:=W) (bA:=bA) (c:=c) (fun z i hi=>hc ⟨z.world,Ext.next e z.ok⟩ i hi)
 have tD:=fun W=>jm c.T c.R c.H c.Re c.Ca c.S c.B W
 rw [aY ok] at tD;have Vs:∀ W:World,cm 66 #[fI c,.agg #[.int .i64 8,.int .i64 0,.int .i64 0]] W (.tuple #[c.ad 8 0,.int .i64 0]) fun w'=>Ext W w':=fun W=>fY c.T c.R c.H c.Re c.Ca c.S c.B ok 7 8 0 rfl O_ O_ (by show(0:Int)<c.R;unfold bY at ok;omega) O_ W
 replace Vs:=aJ Vs;have Vr:∀ W:World,cm 66 #[fI c,.agg #[.int .i64 9,.int .i64 0,.int .i64 0]] W (.tuple #[c.ad 9 0,.int .i64 0]) fun w'=>Ext W w':=fun W=>fY c.T c.R c.H c.Re c.Ca c.S c.B ok 8 9 0 rfl O_ O_ (by show(0:Int)<c.R*c.H;exact Int.mul_pos (by unfold bY at ok;omega) (by unfold bY at ok;omega)) (fun _=>rfl) W
 replace Vr:=aJ Vr;have Vw:∀ W:World,cm 66 #[fI c,.agg #[.int .i64 2,.int .i64 0,.int .i64 0]] W (.tuple #[c.ad 2 0,.int .i64 0]) fun w'=>Ext W w':=fun W=>fY c.T c.R c.H c.Re c.Ca c.S c.B ok 1 2 0 rfl O_ O_ (by show(0:Int)<1;omega) O_ W
 replace Vw:=aJ Vw;have vJ:∀ W:World,cm 66 #[fI c,.agg #[.int .i64 11,.int .i64 0,.int .i64 0]] W (.tuple #[c.ad 11 0,.int .i64 0]) fun w'=>Ext W w':=fun W=>fY c.T c.R c.H c.Re c.Ca c.S c.B ok 10 11 0 rfl O_ O_ (by show(0:Int)<c.S;unfold bY at ok;omega) O_ W
 replace vJ:=aJ vJ;have ok2:=ok;unfold bY at ok2;have hR2:=hR.out;have hT2:=hT.out;have IL:=fun W=>nX Ke rfl underlying49 (R:Int) O_ O_ O_ W
 simp only [mW] at IL;have hRb:R≤16:=O_
 have hTb:T≤16:=O_
 clear hR2 hT2 ok2;replace uC:=aJ uC;replace tD:=aJ tD;clear hc;go_in;go_wp2_with fail;refine un (uC.out _ (bu w)) fun w1 e1=>?_
 unfold fI;go_wp2_with fail;refine un (tD.out _) fun w2 e2=>?_
 go_wp2_with fail;refine un (uC.out _ (Ext.next e1 e2)) fun w3 e3=>?_
 unfold fI;have h3:=((Has.start w).next (Ext.next (Ext.next e1 e2) e3)).alloc #[c.T,c.R,c.H,c.Re,c.Ca,c.S,c.B] 23;have p3:=h3.all aj;go_wp2_with fail;generalize w3.heap.size=bC at h3 p3 ⊢;generalize w3.alloc (.cells #[c.T,c.R,c.H,c.Re,c.Ca,c.S,c.B] 23)=W3 at h3 p3 ⊢;have afc:∀ W:World,(Instr.makeSlice 49 c.R c.R).run prog W=.ok (.slice (some ⟨W.heap.size,0,none⟩) R R) (W.alloc (.cells (jg R (.slice none 0 0)) 40)):=fun W=>by rw [hR.out];exact IL W
 clear IL;have gj:∀ w',Ext W3 w'→∀ i,w'.cell? ⟨bC,i,none⟩= [Value.int .i64 c.T,c.R,c.H,c.Re,c.Ca,c.S,c.B][i]?:=fun w' e=>(h3.next e).all aj
 go_region_held3 (fun w':World=>∀ i,w'.cell? ⟨bC,i,none⟩= [Value.int .i64 c.T,c.R,c.H,c.Re,c.Ca,c.S,c.B][i]?) (first | exact gj _ ((bu W3).bh) | exact gj _ (((bu W3).aE _).bh) | exact gj _ ((((bu W3).aE _).aE _).bh)) (fail)
 have g1:=(h3.nil 3 1).wJ (jg R (.slice none 0 0)) 40 R 1 (by simp [jg]) (by unfold maxLen;omega);have g2:=g1.alloc #[some bA,c.T,c.R,c.H,c.Re,c.Ca,c.S,c.B,.slice none 0 0,.slice (some ⟨W3.heap.size,0,none⟩) R R,.int .i64 0,.int .i64 0,.int .i64 0,.int .i64 0] 152;rw [show(jg R (.slice none 0 0)).toList=List.replicate R (.slice none 0 0) by simp [jg]] at g2;have hsz:(W3.alloc (.cells (jg R (.slice none 0 0)) 40)).heap.size=W3.heap.size+1:=S_
 rw [hsz] at g2;have g3:=(g2.perm (mU _ (iC _ _ _))).drew;clear hsz g1 g2 gj afc h3 p3;generalize W3.heap.size+1=bH at g3 ⊢;generalize W3.heap.size=gi at g3 ⊢;generalize ((W3.alloc (.cells (jg R (.slice none 0 0)) 40)).alloc (.cells #[some bA,c.T,c.R,c.H,c.Re,c.Ca,c.S,c.B,.slice none 0 0,.slice (some ⟨gi,0,none⟩) R R,.int .i64 0,.int .i64 0,.int .i64 0,.int .i64 0] 152)).drew=W4 at g3 ⊢;have p4:=g3.all lA;go_wp2_with fail;clear p4
 go_loopw [26] (fun s26 wr=>∃ (i:Nat) (vh:Value),s26=.int .i64 i∧i≤T∧Hid (Has w wr [ob bH 152 [some bA,c.T,c.R,c.H,c.Re,c.Ca,c.S,c.B,vh,.slice (some ⟨gi,0,none⟩) R R,.int .i64 0,.int .i64 0,.int .i64 0,.int .i64 0],.row vh 3 1 i (List.replicate i (.int .i64 (-1))),dA gi R 40 1 R (List.replicate R (.slice none 0 0)),ob bC 23 [c.T,c.R,c.H,c.Re,c.Ca,c.S,c.B]])) (fun s26 _=>T - (intOf s26).toNat)
 case atStart=>exact⟨0,_,rfl,nU _,g3⟩
 case round=>
  obtain⟨i,vh,rfl,hi,hH⟩:=hrel
  by_cases hlt:i<T
  case neg=>
   have dl:decide ((i:Int)<c.T)=false:=dy (by have:=hT.out;omega);obtain rfl:i=T:=O_
   have h5:=hH.out;clear g3 hH;have x0:=h5.all lA;have y0:=h5.all aj;have u0:=h5.dW aj;go_wp2_with fail;refine un (Vs.out _) fun v1 e1v=>?_
   clear x0 y0 u0;have k1:=h5.next e1v;have Ou:=k1.all lA;have y11:=k1.all aj;have u11:=k1.dW aj;have q1:=k1.put 10 (.int .i64 (c.ad 8 0));have x1:=q1.all lA;have y1:=q1.all aj;have u1:=q1.dW aj;go_wp2_with fail;refine un (Vr.out _) fun v2 e2v=>?_
   clear x1 y1 u1;have k2:=q1.next e2v;have TA:=k2.all lA;have y12:=k2.all aj;have u12:=k2.dW aj;have q2:=k2.put 11 (.int .i64 (c.ad 9 0));have x2:=q2.all lA;have y2:=q2.all aj;have u2:=q2.dW aj;go_wp2_with fail;refine un (Vw.out _) fun v3 e3v=>?_
   clear x2 y2 u2;have k3:=q2.next e3v;have Xq:=k3.all lA;have y13:=k3.all aj;have u13:=k3.dW aj;have q3:=k3.put 12 (.int .i64 (c.ad 2 0));have x3:=q3.all lA;have y3:=q3.all aj;have u3:=q3.dW aj;go_wp2_with fail;refine un (vJ.out _) fun v4 e4v=>?_
   clear x3 y3 u3;have k4:=q3.next e4v;have x14:=k4.all lA;have y14:=k4.all aj;have u14:=k4.dW aj;have q4:=k4.put 13 (.int .i64 (c.ad 11 0));have x4:=q4.all lA;have y4:=q4.all aj;have u4:=q4.dW aj;go_wp2;go_ret;exact⟨_,_,_,_,rfl,q4⟩
  case pos=>
   have dl:decide ((i:Int)<c.T)=true:=cM (by have:=hT.out;omega);obtain⟨W,hW⟩:∃ W:World,W=wr:=⟨_,rfl⟩;subst hW;have h5:=hH.out;clear g3 hH;obtain⟨A,c5,rfl⟩:=iJ h5 bp;have hM:=h5.at_ (i:=8) aj rfl;have mK:W.ownsRow w.heap.size 3 1 (.slice A i c5) i (List.replicate i (.int .i64 (-1))):=h5.own _ bp;have WE:=h5.ext.size;have Fp:Rd (W.alloc (.cells #[.int .i64 (-1)] 3)) (some ⟨W.heap.size,0,none⟩) [.int .i64 (-1)]:=Rd.made W [.int .i64 (-1)] 3;have nh:∀ u∈([.int .i64 (-1)]:List Value),u.oneCell'=true:=by intro u hu;simp at hu;rw [hu];rfl
   have xf:=h5.dW aj 8;have xk:=h5.at_ (i:=8) aj rfl;have xlt:=h5.tu aj;have xn:=lN xlt;go_wp2_with (at_builtin;refine cN _ rfl (.tmp 32) (.tmp 33) 40 rfl w.heap.size 3 1 8 jT underlying40 (.slice A i c5) i _ (by simp [Act.eval]) (dB mK ((bu W).aE _)) (some ⟨W.heap.size,0,none⟩) 1 1 [.int .i64 (-1)] (by simp [Act.eval]) rfl Fp nh O_ (by simp;omega) ?_;intro v' W2 bV bl fk;have h6:=Has.grow (A:= [_]) h5 (show W2.ownsRow w.heap.size 3 1 v' (i+1) (List.replicate i (.int .i64 (-1))++ [.int .i64 (-1)]) from bV) (aD bl) (fk.imp id fun e=>⟨_,e,S_⟩);have kk:=h6.at_ (i:=8) aj rfl;have ff:=h6.dW aj 8;obtain⟨g6,c6,rfl,_,_,_⟩:=bf bV O_);have h6:=Has.fW (A:= []) h6 8 (.slice (some ⟨g6,0,none⟩) (i+1) c6);rw [←Dy] at h6;exact SA
section
variable{c:Cf}{th:Nat}{X:List RT}{v v0 v1 v2:Bool}{S S' S1:PM}{pc cZ:Nat}{R R':Nat→Int}{bk eF nm pd cG cE:List Int}
def J5(c:Cf)(s:Int):Prop:=0≤s∧s<c.S
def nP(c:Cf)(p:Po)(S:PM)(pc:Nat)(R:Nat→Int)(bk nm pd:List Int):Prop:=
 R 47=0∧0≤S.rc∧S.arg=p.val∧
 ((p.az=0∧bk= [144]∧sS c p.take S pc R [] nm pd)∨
  (p.az=1∧bk= []∧pc=146∧J5 c p.take.res∧R 30=u64 p.take.res∧R 0=u64 p.val∧p.link=pk p.take.res)∨
  (p.az=2∧bk= []∧pc=149∧J5 c p.take.res∧R 30=u64 p.take.res∧R 1=p.link∧p.link=pk p.take.res)∨
  (p.az=3∧bk= []∧pc=150∧J5 c p.take.res∧R 30=u64 p.take.res∧R 1=p.link∧p.link=pk p.take.res∧R 2=p.dR∧Lw c p.dR)∨
  (p.az=4∧S.cj=(1,0)∧∃ r e,p.ret=some r∧bk= [157]++e∧mu c r S pc R e nm pd))
theorem yL{b:Bool}{p:Po}(I:Inv c th S)(aZ:R 47=0)(hr:0≤S.rc)(hv:S.arg=p.val)(hd:Fb c p.take R):bt c th X b b S 144 R [] nm pd (p.jJ S) (nP c):=by
 obtain⟨jS,hlo,hhi⟩:=hd;have hb:=I.bd;have tJ:wrap64 (R 30)=p.take.res:=wr jS hlo O_;unfold Po.jJ
 by_cases h:p.take.res<0
 ·rw [aY h]
  have I1:=(I.aB S.now).tell 4 0;exact bt.done I1 ((Kp.aB S _).q.trans (.tell _ 4 0)) (.trans (sB (cd 144) tJ (ld aZ) h l71)<| .trans (dI (cd 159))<| .trans (FI (cd 160)) (mL (S:=(S.aB S.now).tell 4 0) I1 (cd 161) ((I.aB S.now).cy 4 0)))
 ·rw [aK h]
  exact bt.go (eF:= []) I (.rfl' S) (.trans (tN (cd 144) tJ (ld aZ) h) (JV I (cd 145) hv)) ⟨aZ,hr,hv,.inr (.inl ⟨rfl,rfl,rfl,⟨Int.not_lt.1 h,hhi⟩,jS,rfl,rfl⟩)⟩
theorem Ee{x:Int}(I:Inv c th S)(aZ:R 47=0)(hr:0≤S.rc)(hv:S.arg=x):bt c th X false false S 142 R [] nm pd ((⟨x,0,.new,0,0,none⟩:Po).ready S) (nP c):=by
 refine bt.behind (.rfl' S) (.trans (dI (cd 142)) (mE (cd 143) Zj (r:=144) rfl)) ?_;unfold Po.ready;obtain⟨k,S',R',cG,cE,I',K',hk,⟨cZ,e',hr',ha,hn⟩ | ⟨hr',ha,hn⟩⟩:=(nq (X:=X) (v:=false) (R:=R) (bs:= [144]) (nm:=nm) (pd:=pd) I).cases
 ·rw [hr']
  obtain⟨rfl,ha⟩:=ha;exact bt.go I' K'.q hn ⟨(hk 47 O_).trans aZ,by rw [K'.rc];exact hr,K'.arg.trans hv,.inl ⟨rfl,rfl,rfl,ha⟩⟩
 ·rw [hr']
  exact bt.behind K'.q (hn [] 144 rfl) (yL (p:=⟨x,0,k,0,0,none⟩) I' ((hk 47 O_).trans aZ) (by rw [K'.rc];exact hr) (K'.arg.trans hv) ha)
theorem Ij{p:Po}(I:Inv c th S)(ha:nP c p S pc R bk nm pd):bt c th X false true S pc R bk nm pd (p.step c S) (nP c):=by
 obtain⟨aZ,hr,hv,ha⟩:=ha;have hb:=I.bd;have xC:=I.kC (r:=2) O_;have aC:=I.eX (r:=2) O_ O_ xC
 rcases ha with ⟨hs,rfl,ha⟩ | ⟨hs,rfl,rfl,hk,jS,h0,hl⟩ | ⟨hs,rfl,rfl,hk,jS,h1,hl⟩ | ⟨hs,rfl,rfl,hk,jS,h1,hl,h2,hw⟩ | ⟨hs,ht,r,e,hret,rfl,ha⟩
 ·unfold Po.step
  rw [aY hs];obtain⟨k,S',R',cG,cE,I',K',hk,⟨cZ,e',hr',ha,hn⟩ | ⟨hr',ha,hn⟩⟩:=(qG (X:=X) (bs:= [144]) I aZ ha).cases
  ·rw [hr']
   obtain⟨rfl,ha⟩:=ha;exact bt.go I' K'.q hn ⟨(hk 47 O_).trans aZ,by rw [K'.rc];exact hr,K'.arg.trans hv,.inl ⟨hs,rfl,rfl,ha⟩⟩
  ·rw [hr']
   exact bt.behind K'.q (hn [] 144 rfl) (yL (p:={p with take:=k}) I' ((hk 47 O_).trans aZ) (by rw [K'.rc];exact hr) (K'.arg.trans hv) ha)
 ·unfold Po.step
  rw [aK O_,aY hs];have xV:=I.iO (r:=11) O_ hk.1 hk.2;have tJ:=wr jS (by have:=hk.1;omega) (by have:=hk.2;omega);exact bt.go (eF:= []) (I.store (I.eX O_ O_ xV) (I.TV O_ xV _)) (Kp.store S _ _).q (.trans (r2 I (cd 146) O_ tJ h0 xV)<| .trans (TR (cd 147) tJ ⟨by have:=hk.1;omega,by have:=hk.2;omega⟩) (dI (cd 148))) ⟨aZ,hr,hv,.inr (.inr (.inl ⟨rfl,rfl,rfl,hk,jS,hl.symm,hl⟩))⟩
 ·unfold Po.step
  rw [aK O_,aK O_,aY hs];exact bt.go (eF:= []) (I.load _) (Kp.load S _).q (r1 I (cd 149) O_ (ld aZ) xC) ⟨aZ,hr,hv,.inr (.inr (.inr (.inl ⟨rfl,rfl,rfl,hk,jS,h1,hl,rfl,I.Cp O_ O_ D_ xC⟩)))⟩
 ·unfold Po.step
  rw [aK O_,aK O_,aK O_,aY hs];have e1:=r3 (X:=X) (bk:= []) (nm:=nm) (pd:=pd) (j:=1) I (cd 150) O_ (ld aZ) h2 h1 xC l72;have tJ:=wr jS (by have:=hk.1;omega) (by have:=hk.2;omega)
  have I1:Inv c th (S.swap (c.ad 2 0) p.dR p.link):=I.swap aC fun _=>by
   obtain⟨_,_,ek,_⟩:=I.mq (r:=2) O_ O_ xC;obtain⟨b1,b2,b3⟩:=FL (s:=p.take.res) (by have:=hk.1;omega) (by have:=hk.2;omega);rw [ek,hl];exact⟨b1,O_,fun h=>O_,fun _=>⟨b2,by rw [b3];exact hk.2⟩,fun h=>O_,fun _=>by have:=hk.2;unfold pk;omega⟩
  by_cases h:S.w (c.ad 2 0)=p.dR
  ·rw [aY h] at e1 ⊢
   have I2:=((I1.aB S.now).tell 1 0).shift p.take.res 3;have K2:Kq S ((((S.swap (c.ad 2 0) p.dR p.link).aB S.now).tell 1 0).shift p.take.res 3):=(((Kp.swap S _ _ _).trans (Kp.aB _ _)).q.trans (.tell _ 1 0)).trans (Kp.shift _ _ _).q;have a2:((((S.swap (c.ad 2 0) p.dR p.link).aB S.now).tell 1 0).shift p.take.res 3).cj=(1,0):=(I1.aB S.now).cy 1 0
   have e2:Rn c th (St false S X 150 R [] nm pd) (St true ((((S.swap (c.ad 2 0) p.dR p.link).aB S.now).tell 1 0).shift p.take.res 3) X 153 R [] nm pd):=
    .trans e1<| .trans (FI (cd 151)) (Ch (S:=((S.swap (c.ad 2 0) p.dR p.link).aB S.now).tell 1 0) ((I1.aB S.now).tell 1 0) (cd 152) tJ hk)
   have iF:0≤((((S.swap (c.ad 2 0) p.dR p.link).aB S.now).tell 1 0).shift p.take.res 3).rc:=hr
   show bt c th X false true S 150 R [] nm pd (if lk p.dR<0 then(true,p,(((S.swap (c.ad 2 0) p.dR p.link).aB S.now).tell 1 0).shift p.take.res 3) else
    match (Rt.new (lk p.dR)).ready c (((((S.swap (c.ad 2 0) p.dR p.link).aB S.now).tell 1 0).shift p.take.res 3).shift (lk p.dR) 4) with
    | (b,r,S)=>(b,{p with ret:=some r,az:=4},S)) (nP c)
   generalize ((((S.swap (c.ad 2 0) p.dR p.link).aB S.now).tell 1 0).shift p.take.res 3)=S2 at I2 K2 a2 e2 iF
   by_cases hn:lk p.dR<0
   ·rw [aY hn]
    exact bt.done I2 K2 (.trans e2<| .trans (xy (cd 153) h2 hn l73)<| .trans (dI (cd 157)) (mL I2 (cd 158) a2))
   ·rw [aK hn]
    have I3:=I2.shift (lk p.dR) 4
    have e3:Rn c th (St false S X 150 R [] nm pd) (St true (S2.shift (lk p.dR) 4) X 58 (cg R 20 (u64 (lk p.dR))) [157] nm pd):=
     .trans e2<| .trans (xz (cd 153) h2 O_)<| .trans (Ie (cd 154) h2)<| .trans (Ch I2 (cd 155) (wu _ O_ (by have:=hw.2.2;omega)) ⟨O_,hw.2.2⟩) (mE (cd 156) WV (r:=157) rfl)
    have K3:=K2.trans (Kp.shift S2 (lk p.dR) 4).q;obtain⟨k,S',R',cG,cE,I',K',hk',⟨cZ,e',hr',ha,hn⟩ | ⟨hr',ha,hn⟩⟩:=(ki (X:=X) (v:=true) (R:=cg R 20 (u64 (lk p.dR))) (bs:= [157]) (nm:=nm) (pd:=pd) I3 iF (Int.not_lt.1 hn) hw.2.2 rfl).cases
    ·rw [hr']
     exact bt.go I' (K3.trans K'.q) (e3.trans hn) ⟨(hk' 47 O_).trans aZ,by rw [K'.rc];exact iF,(K3.trans K'.q).arg.trans hv,.inr (.inr (.inr (.inr ⟨rfl,K'.cj.trans a2,k,e',rfl,rfl,ha⟩)))⟩
    ·rw [hr']
     exact bt.done I' (K3.trans K'.q) (.trans e3<| .trans (hn [] 157 rfl)<| .trans (dI (cd 157)) (mL I' (cd 158) (K'.cj.trans a2)))
  ·rw [aK h] at e1 ⊢
   exact bt.go (eF:= []) I1 (Kp.swap S _ _ _).q (e1.trans (dI (cd 148))) ⟨aZ,hr,hv,.inr (.inr (.inl ⟨rfl,rfl,rfl,hk,jS,h1,hl⟩))⟩
 ·unfold Po.step
  rw [aK O_,aK O_,aK O_,aK O_];simp only [hret];obtain⟨k,S',R',cG,cE,I',K',hk',⟨cZ,e',hr',ha,hn⟩ | ⟨hr',ha,hn⟩⟩:=(nY (X:=X) (bs:= [157]) I aZ ha).cases
  ·rw [hr']
   exact bt.go I' K'.q hn ⟨(hk' 47 O_).trans aZ,by rw [K'.rc];exact hr,K'.arg.trans hv,.inr (.inr (.inr (.inr ⟨hs,K'.cj.trans ht,k,e',rfl,rfl,ha⟩)))⟩
  ·rw [hr']
   exact bt.done I' K'.q (.trans (hn [] 157 rfl)<| .trans (dI (cd 157)) (mL I' (cd 158) (K'.cj.trans ht)))
def pS(c:Cf)(r:oS)(_:PM)(pc:Nat)(R:Nat→Int)(bk _ _:List Int):Prop:=
 R 47=0∧bk= []∧∃ i,r.addr=c.ad 9 i∧Ix c 9 i∧wrap64 (R 0)=i∧
 ((r.az=0∧pc=165)∨(R 1=r.w∧Lw c r.w∧0≤lk r.w∧((r.az=1∧pc=168)∨(r.az=2∧pc=169)∨(r.az=3∧pc=176∧wrap64 (R 3)=r.pt∧R 4=u64 (lk r.w)))))
theorem D9{k:Int}(I:Inv c th S)(aZ:R 47=0)(hr:0≤S.rc)(hv:S.arg=k)(h0:0≤k)(h1:k<c.H):bt c th X false false S 162 R [] nm pd (false,(⟨S.hz c k,0,0,0⟩:oS),S) (pS c):=by
 have hb:=I.bd;obtain⟨xH,b0,b1⟩:=I.Br hr h0 h1;have wk:wrap64 (u64 k)=k:=wu _ O_ O_;have w0:wrap64 (u64 (S.rc*c.H+k))=S.rc*c.H+k:=wu _ O_ O_;exact bt.go (eF:= []) (R':=cg (cg R 0 (u64 k)) 0 (u64 (S.rc*c.H+k))) I (.rfl' S) (.trans (dI (cd 162))<| .trans (JV I (cd 163) hv) (r52 (cd 164) wk)) ⟨aZ,rfl,_,rfl,xH,w0,.inl ⟨rfl,rfl⟩⟩
theorem Cg{r:oS}{u:Int}(I:Inv c th S)(aZ:R 47=0)(h1:R 1=u)(hu:Lw c u)(hc:u<4294967296){i:Int}(ha:r.addr=c.ad 9 i)(hx:Ix c 9 i)(h0:wrap64 (R 0)=i):
  bt c th X true true S 166 R [] nm pd (r.Hv u S) (pS c):=by
 unfold oS.Hv
 by_cases h:u=0
 ·rw [aY h]
  have I1:=(I.aB S.now).tell 3 0;exact bt.done I1 ((Kp.aB S _).q.trans (.tell _ 3 0)) (.trans (dI (cd 166))<| .trans (xy (cd 167) h1 (by rw [h];decide) l83)<| .trans (dI (cd 179))<| .trans (FI (cd 180)) (mL (S:=(S.aB S.now).tell 3 0) I1 (cd 181) ((I.aB S.now).cy 3 0)))
 ·rw [aK h]
  have hp:0≤lk u:=by have:=hu.1;unfold lk;omega
  exact bt.go (eF:= []) I (.rfl' S) (.trans (dI (cd 166)) (xz (cd 167) h1 hp)) ⟨aZ,rfl,i,ha,hx,h0,.inr ⟨h1,hu,hp,.inl ⟨rfl,rfl⟩⟩⟩
theorem Ia{r:oS}(I:Inv c th S)(ha:pS c r S pc R bk nm pd):bt c th X false true S pc R bk nm pd (r.step c S) (pS c):=by
 obtain⟨aZ,rfl,i,ha,hx,h0,hs⟩:=ha;have hb:=I.bd;have xC:=I.kC (r:=2) O_;have hC:=I.Cp (r:=2) O_ O_ D_ xC;have cC:S.w (c.ad 2 0)<4294967296:=(I.mq (r:=2) O_ O_ xC).2.2.2.ce rfl;have aH:=I.eX (r:=9) O_ O_ hx
 rcases hs with ⟨hs,rfl⟩ | ⟨h1,hw,hp,⟨hs,rfl⟩ | ⟨hs,rfl⟩ | ⟨hs,rfl,h3,h4⟩⟩
 ·unfold oS.step
  rw [aY hs];exact bt.behind (Kp.load S _).q (r1 I (cd 165) O_ (ld aZ) xC) (Cg (I.load _) aZ rfl hC cC ha hx h0)
 ·unfold oS.step
  rw [aK O_,aY hs,ha];exact bt.go (eF:= []) (I.store aH (I.mZ O_ hx hw)) (Kp.store S _ _).q (r2 I (cd 168) O_ h0 h1 hx) ⟨aZ,rfl,i,rfl,hx,h0,.inr ⟨h1,hw,hp,.inr (.inl ⟨rfl,rfl⟩)⟩⟩
 ·unfold oS.step
  rw [aK O_,aK O_,aY hs];have e1:=r1 (X:=X) (R:=R) (bk:= []) (nm:=nm) (pd:=pd) I (cd 169) O_ (ld aZ) xC
  by_cases h:S.w (c.ad 2 0)=r.w
  ·rw [aY h]
   exact bt.go (eF:= []) (I.load _) (Kp.load S _).q (.trans e1<| .trans (lV (cd 170) (h1.trans h.symm) l82)<| .trans (dI (cd 173))<| .trans (WO (cd 174)) (Ie (u:=r.w) (cd 175) h1)) ⟨aZ,rfl,i,ha,hx,h0,.inr ⟨h1,hw,hp,.inr (.inr ⟨rfl,rfl,wid I.nw.1 (by have:=I.nw.2;show S.now<_;omega),rfl⟩)⟩⟩
  ·rw [aK h]
   exact bt.behind (Kp.load S _).q (.trans e1<| .trans (lz (cd 170) fun q=>h (Eq.trans q.symm h1))<| .trans (wY (u:=S.w (c.ad 2 0)) (cd 171) rfl) (tO (cd 172) l81)) (Cg (I.load _) aZ rfl hC cC ha hx h0)
 ·unfold oS.step
  rw [aK O_,aK O_,aK O_];have xV:=I.iO (r:=11) O_ hp hw.2.2;have w4:=wr h4 (eZ _) (by have:=hw.2.2;omega);have I1:=((I.load (c.ad 11 (lk r.w))).aB r.pt).tell 2 (wrap64 (S.w (c.ad 11 (lk r.w))));exact bt.done I1 (((Kp.load S _).trans (Kp.aB _ _)).q.trans (.tell _ _ _)) (.trans (r1 I (cd 176) O_ w4 xV)<| .trans (Rk (cd 177) h3) (mL (S:=((S.load (c.ad 11 (lk r.w))).aB r.pt).tell 2 (wrap64 (S.w (c.ad 11 (lk r.w))))) I1 (cd 178) (by rw [((I.load (c.ad 11 (lk r.w))).aB r.pt).cy,aY rfl];rfl)))
def rM(c:Cf)(a:Int)(S:PM)(pc:Nat)(R:Nat→Int)(bk _ _:List Int):Prop:=
 R 47=0∧bk= []∧pc=137∧S.cj=(1,0)∧∃ i,a=c.ad 9 i∧Ix c 9 i∧wrap64 (R 0)=i
theorem C7{k:Int}(I:Inv c th S)(aZ:R 47=0)(ht:S.cj=(1,0))(hr:0≤S.rc)(hv:S.arg=k)(h0:0≤k)(h1:k<c.H):bt c th X false false S 134 R [] nm pd (false,S.hz c k,S) (rM c):=by
 have hb:=I.bd;obtain⟨xH,b0,b1⟩:=I.Br hr h0 h1;have wk:wrap64 (u64 k)=k:=wu _ O_ O_;have w0:wrap64 (u64 (S.rc*c.H+k))=S.rc*c.H+k:=wu _ O_ O_;exact bt.go (eF:= []) (R':=cg (cg R 0 (u64 k)) 0 (u64 (S.rc*c.H+k))) I (.rfl' S) (.trans (dI (cd 134))<| .trans (JV I (cd 135) hv) (r52 (cd 136) wk)) ⟨aZ,rfl,rfl,ht,_,rfl,xH,w0⟩
theorem EW{a:Int}(I:Inv c th S)(ha:rM c a S pc R bk nm pd):bt c th X false true S pc R bk nm pd (true,a,S.store a 0) (rM c):=by
 obtain⟨aZ,rfl,rfl,ht,i,rfl,hx,h0⟩:=ha;have I1:=I.store (I.eX (r:=9) O_ O_ hx) (I.mZ O_ hx (.zero I));exact bt.done I1 (Kp.store S _ _).q (.trans (r2 I (cd 137) O_ h0 aZ hx) (mL I1 (cd 138) ht))
def wL(c:Cf)(s:Sc)(S:PM)(pc:Nat)(R:Nat→Int)(bk nm pd:List Int):Prop:=R 47=0∧S.cj=(1,0)∧∃ e,bk= [141]++e∧sX c s S pc R e nm pd
theorem D0(I:Inv c th S)(aZ:R 47=0)(ht:S.cj=(1,0))(hr:0≤S.rc):bt c th X false false S 139 R [] nm pd ((Sc.new S.rc).ready c S) (wL c):=by
 refine bt.behind (.rfl' S) (.trans (dI (cd 139)) (mE (cd 140) l41 (r:=141) rfl)) ?_;obtain⟨k,S',R',cG,cE,I',K',hk,⟨cZ,e',hr',ha,hn⟩ | ⟨hr',ha,hn⟩⟩:=(uS (X:=X) (v:=false) (R:=R) (bs:= [141]) (nm:=nm) (pd:=pd) I hr).cases
 ·exact Sw
 ·exact Su
theorem Hx{s:Sc}(I:Inv c th S)(ha:wL c s S pc R bk nm pd):bt c th X false true S pc R bk nm pd (s.step c S) (wL c):=by
 obtain⟨aZ,ht,e,rfl,ha⟩:=ha;obtain⟨k,S',R',cG,cE,I',K',hk,⟨cZ,e',hr',ha,hn⟩ | ⟨hr',ha,hn⟩⟩:=(uq (X:=X) (bs:= [141]) I aZ ha).cases
 ·exact Sw
 ·exact Su
def pT(c:Cf)(p:Ps)(S:PM)(pc:Nat)(R:Nat→Int)(bk nm pd:List Int):Prop:=
 R 47=0∧S.arg=p.val∧
 ((p.pc=0∧bk= [380]∧sS c p.take S pc R [] nm pd)∨
  (bk= []∧J5 c p.slot∧R 0=u64 p.slot∧R 3=pk p.slot∧
  ((p.pc=1∧pc=384∧R 1=u64 p.val)∨(p.pc=2∧pc=386)∨(R 2=p.top∧Lw c p.top∧((p.pc=3∧pc=387)∨(p.pc=4∧pc=388))))))
theorem uZ{b:Bool}{p:Ps}(I:Inv c th S)(aZ:R 47=0)(hv:S.arg=p.val)(hd:Fb c p.take R):bt c th X b b S 380 R [] nm pd (p.taken S) (pT c):=by
 obtain⟨jS,hlo,hhi⟩:=hd;have hb:=I.bd;have tJ:wrap64 (R 30)=p.take.res:=wr jS hlo O_;unfold Ps.taken
 by_cases h:p.take.res<0
 ·rw [aY h]
  have I1:=(I.aB S.now).tell 4 0;exact bt.done I1 ((Kp.aB S _).q.trans (.tell _ 4 0)) (.trans (sB (cd 380) tJ (ld aZ) h aeO)<| .trans (dI (cd 392))<| .trans (FI (cd 393)) (mL (S:=(S.aB S.now).tell 4 0) I1 (cd 394) ((I.aB S.now).cy 4 0)))
 ·rw [aK h]
  have w0:wrap64 (u64 p.take.res)=p.take.res:=wu _ O_ O_;exact bt.go (eF:= []) (R':=cg (cg (cg R 0 (u64 p.take.res)) 1 (u64 p.val)) 3 (pk p.take.res)) I (.rfl' S) (.trans (tN (cd 380) tJ (ld aZ) h)<| .trans (wY (cd 381) jS)<| .trans (JV I (cd 382) hv) (TR (cd 383) w0 ⟨hlo,O_⟩)) ⟨aZ,hv,.inr ⟨rfl,⟨Int.not_lt.1 h,hhi⟩,rfl,rfl,.inl ⟨rfl,rfl,rfl⟩⟩⟩
theorem Ec{x:Int}(I:Inv c th S)(aZ:R 47=0)(hv:S.arg=x):bt c th X false false S 378 R [] nm pd ((⟨x,.new,0,0,0⟩:Ps).ready S) (pT c):=by
 refine bt.behind (.rfl' S) (.trans (dI (cd 378)) (mE (cd 379) Zj (r:=380) rfl)) ?_;unfold Ps.ready;obtain⟨k,S',R',cG,cE,I',K',hk,⟨cZ,e',hr',ha,hn⟩ | ⟨hr',ha,hn⟩⟩:=(nq (X:=X) (v:=false) (R:=R) (bs:= [380]) (nm:=nm) (pd:=pd) I).cases
 ·simp only [hr',Ps.behind]
  obtain⟨rfl,ha⟩:=ha;exact bt.go I' K'.q hn ⟨(hk 47 O_).trans aZ,K'.arg.trans hv,.inl ⟨rfl,rfl,rfl,ha⟩⟩
 ·simp only [hr',Ps.behind]
  exact bt.behind K'.q (hn [] 380 rfl) (uZ (p:=⟨x,k,0,0,0⟩) I' ((hk 47 O_).trans aZ) (K'.arg.trans hv) ha)
theorem Ih{p:Ps}(I:Inv c th S)(ha:pT c p S pc R bk nm pd):bt c th X false true S pc R bk nm pd (p.step c S) (pT c):=by
 obtain⟨aZ,hv,ha⟩:=ha;have hb:=I.bd;have xT:=I.kC (r:=3) O_;have aT:=I.eX (r:=3) O_ O_ xT
 rcases ha with ⟨hs,rfl,ha⟩ | ⟨rfl,hk,h0,h3,ha⟩
 ·unfold Ps.step
  rw [aY hs];obtain⟨k,S',R',cG,cE,I',K',hk,⟨cZ,e',hr',ha,hn⟩ | ⟨hr',ha,hn⟩⟩:=(qG (X:=X) (bs:= [380]) I aZ ha).cases
  ·simp only [hr',Ps.behind]
   obtain⟨rfl,ha⟩:=ha;exact bt.go I' K'.q hn ⟨(hk 47 O_).trans aZ,K'.arg.trans hv,.inl ⟨hs,rfl,rfl,ha⟩⟩
  ·simp only [hr',Ps.behind]
   exact bt.behind K'.q (hn [] 380 rfl) (uZ (p:={p with take:=k}) I' ((hk 47 O_).trans aZ) (K'.arg.trans hv) ha)
 ·have w0:=wr h0 (by have:=hk.1;omega) (by have:=hk.2;omega)
  rcases ha with ⟨hs,rfl,h1⟩ | ⟨hs,rfl⟩ | ⟨h2,hw,⟨hs,rfl⟩ | ⟨hs,rfl⟩⟩
  ·unfold Ps.step
   rw [aK O_,aY hs];have xV:=I.iO (r:=11) O_ hk.1 hk.2;exact bt.go (eF:= []) (I.store (I.eX O_ O_ xV) (I.TV O_ xV _)) (Kp.store S _ _).q (.trans (r2 I (cd 384) O_ w0 h1 xV) (dI (cd 385))) ⟨aZ,hv,.inr ⟨rfl,hk,h0,h3,.inr (.inl ⟨rfl,rfl⟩)⟩⟩
  ·unfold Ps.step
   rw [aK O_,aK O_,aY hs];exact bt.go (eF:= []) (I.load _) (Kp.load S _).q (r1 I (cd 386) O_ (ld aZ) xT) ⟨aZ,hv,.inr ⟨rfl,hk,h0,h3,.inr (.inr ⟨rfl,I.Cp O_ O_ D_ xT,.inl ⟨rfl,rfl⟩⟩)⟩⟩
  ·unfold Ps.step
   rw [aK O_,aK O_,aK O_,aY hs];have xL:=I.iO (r:=13) O_ hk.1 hk.2;exact bt.go (eF:= []) (I.store (I.eX O_ O_ xL) (I.mZ O_ xL hw)) (Kp.store S _ _).q (r2 I (cd 387) O_ w0 h2 xL) ⟨aZ,hv,.inr ⟨rfl,hk,h0,h3,.inr (.inr ⟨h2,hw,.inr ⟨rfl,rfl⟩⟩)⟩⟩
  ·unfold Ps.step
   rw [aK O_,aK O_,aK O_,aK O_];have e1:=r3 (X:=X) (bk:= []) (nm:=nm) (pd:=pd) (j:=3) I (cd 388) O_ (ld aZ) h2 h3 xT aeP;have I1:Inv c th (S.swap (c.ad 3 0) p.top (pk p.slot)):=I.swap aT fun _=>I.mZ O_ xT (.pk I (by have:=hk.1;omega) hk.2)
   by_cases h:S.w (c.ad 3 0)=p.top
   ·rw [aY h] at e1 ⊢
    have I2:=(I1.aB S.now).shift p.slot 3;exact bt.done (I2.tell 1 0) ((((Kp.swap S _ _ _).trans (Kp.aB _ _)).trans (Kp.shift _ _ _)).q.trans (.tell _ 1 0)) (.trans e1<| .trans (FI (cd 389))<| .trans (Ch (I1.aB S.now) (cd 390) w0 hk) (mL (S:=(((S.swap (c.ad 3 0) p.top (pk p.slot)).aB S.now).shift p.slot 3).tell 1 0) (I2.tell 1 0) (cd 391) (I2.cy 1 0)))
   ·rw [aK h] at e1 ⊢
    exact bt.go (eF:= []) I1 (Kp.swap S _ _ _).q (e1.trans (dI (cd 385))) ⟨aZ,hv,.inr ⟨rfl,hk,h0,h3,.inr (.inl ⟨rfl,rfl⟩)⟩⟩
def wN(c:Cf)(p:Pp)(S:PM)(pc:Nat)(R:Nat→Int)(bk nm pd:List Int):Prop:=
 R 47=0∧0≤S.rc∧R 4=u64 (S.rc*c.H+0)∧R 5=(if p.named then 1 else 0)∧
 ((p.pc=0∧bk= []∧pc=398)∨(p.pc=7∧bk= []∧pc=422∧S.cj=(3,0))∨
  (bk= []∧R 2=p.top∧Lw c p.top∧0≤lk p.top∧((p.pc=1∧pc=401)∨(p.pc=2∧pc=403)∨
  (R 7=u64 (lk p.top)∧((p.pc=3∧pc=410)∨(p.pc=4∧pc=411∧R 8=p.behind∧Lw c p.behind)∨(p.pc=5∧pc=414)∨(p.pc=6∧pc=415∧wrap64 (R 9)=p.val)))))∨
  (p.pc=8∧S.cj=(2,p.val)∧wrap64 (R 9)=p.val∧∃ r e,p.ret=some r∧bk= [418]++e∧mu c r S pc R e nm pd))
theorem Ik{p:Pp}(I:Inv c th S)(aZ:R 47=0)(h5:R 5=0)(hr:0≤S.rc)(hn:p.named=false):bt c th X false false S 395 R [] nm pd (false,{p with pc:=0},S) (wN c):=
 bt.go (eF:= []) (R':=cg R 4 (u64 (S.rc*c.H+0))) I (.rfl' S) (.trans (dI (cd 395))<| .trans (Ib (cd 396)) (dI (cd 397))) ⟨aZ,hr,rfl,by rw [aK (by simp [hn])];exact h5,.inl ⟨rfl,rfl,rfl⟩⟩
theorem Cj{p:Pp}(I:Inv c th S)(aZ:R 47=0)(hr:0≤S.rc)(h4:R 4=u64 (S.rc*c.H+0))(h5:R 5=(if p.named then 1 else 0))(h2:R 2=p.top)(hw:Lw c p.top)
  (hy:lk p.top<0→Rn c th (St true S X pc R [] nm pd) (St true S X 419 R [] nm pd)) (hn:0≤lk p.top→Rn c th (St true S X pc R [] nm pd) (St true S X 400 R [] nm pd)):
  bt c th X true true S pc R [] nm pd (p.seen S) (wN c):=by
 unfold Pp.seen
 by_cases h:0≤lk p.top
 ·rw [aY h]
  exact bt.go (eF:= []) I (.rfl' S) (.trans (hn h) (dI (cd 400))) ⟨aZ,hr,h4,h5,.inr (.inr (.inl ⟨rfl,h2,hw,h,.inl ⟨rfl,rfl⟩⟩))⟩
 ·rw [aK h]
  have I1:=I.aB S.now;have e1:=Rn.trans (hy O_)<| .trans (dI (cd 419)) (FI (cd 420))
  cases hnm:p.named with
  | true=>
   rw [hnm,aY rfl] at h5;exact bt.go (eF:= []) (I1.tell 3 0) ((Kp.aB S _).q.trans (.tell _ 3 0)) (.trans e1 (lz (S:=(S.aB S.now).tell 3 0) (cd 421) (by rw [h5,aZ];decide))) ⟨aZ,hr,h4,h5,.inr (.inl ⟨rfl,rfl,rfl,I1.cy 3 0⟩)⟩
  | false=>
   rw [hnm,aK S_] at h5;exact bt.done (I1.tell 3 0) ((Kp.aB S _).q.trans (.tell _ 3 0)) (.trans e1<| .trans (lV (cd 421) (by rw [h5,aZ]) aeJ)<| .trans (dI (cd 423)) (mL (S:=(S.aB S.now).tell 3 0) (I1.tell 3 0) (cd 424) (I1.cy 3 0)))
theorem K5{p:Pp}(I:Inv c th S)(ha:wN c p S pc R bk nm pd):bt c th X false true S pc R bk nm pd (p.step c S) (wN c):=by
 obtain⟨aZ,hr,h4,h5,ha⟩:=ha;have hb:=I.bd;have xT:=I.kC (r:=3) O_;have aT:=I.eX (r:=3) O_ O_ xT;have hT:=I.Cp (r:=3) O_ O_ D_ xT;obtain⟨xH,b0,b1⟩:=I.Br hr (k:=0) O_ O_;have aH:=I.eX (r:=9) O_ O_ xH;have w4:=wr h4 b0 b1
 rcases ha with ⟨hs,rfl,rfl⟩ | ⟨hs,rfl,rfl,ht⟩ | ⟨rfl,h2,hw,hp,ha⟩ | ⟨hs,ht,h9,r,e,hret,rfl,ha⟩
 ·unfold Pp.step
  rw [aY hs];exact bt.behind (Kp.load S _).q (r1 I (cd 398) O_ (ld aZ) xT) (Cj (p:={p with top:=S.w (c.ad 3 0)}) (I.load _) aZ hr h4 h5 rfl hT (fun h=>xy (cd 399) rfl h Zi) fun h=>xz (cd 399) rfl h)
 ·unfold Pp.step
  rw [aK O_,aK O_,aK O_,aK O_,aK O_,aK O_,aK O_,aY hs];have I1:=I.store aH (I.mZ O_ xH (.zero I));exact bt.done I1 (Kp.store S _ _).q (.trans (r2 I (cd 422) O_ w4 aZ xH)<| .trans (dI (cd 423)) (mL I1 (cd 424) ht))
 ·have w7:R 7=u64 (lk p.top)→wrap64 (R 7)=lk p.top:=fun h7=>wr h7 (eZ _) (by have:=hw.2.2;omega)
  rcases ha with ⟨hs,rfl⟩ | ⟨hs,rfl⟩ | ⟨h7,⟨hs,rfl⟩ | ⟨hs,rfl,h8,hw8⟩ | ⟨hs,rfl⟩ | ⟨hs,rfl,h9⟩⟩
  ·unfold Pp.step
   rw [aK O_,aY hs];have I1:=I.store aH (I.mZ O_ xH hw);exact bt.go (eF:= []) (R':=cg R 5 (u64 1)) I1 (Kp.store S _ _).q (.trans (r2 I (cd 401) O_ w4 h2 xH) (yI (cd 402) rfl)) ⟨aZ,hr,h4,rfl,.inr (.inr (.inl ⟨rfl,h2,hw,hp,.inr (.inl ⟨rfl,rfl⟩)⟩))⟩
  ·unfold Pp.step
   rw [aK O_,aK O_,aY hs];have e1:=r1 (X:=X) (R:=R) (bk:= []) (nm:=nm) (pd:=pd) I (cd 403) O_ (ld aZ) xT
   by_cases h:S.w (c.ad 3 0)=p.top
   ·rw [aY h]
    exact bt.go (eF:= []) (I.load _) (Kp.load S _).q (.trans e1<| .trans (lV (cd 404) (h.trans h2.symm) aeK)<| .trans (dI (cd 408)) (Ie (u:=p.top) (cd 409) h2)) ⟨aZ,hr,h4,h5,.inr (.inr (.inl ⟨rfl,h2,hw,hp,.inr (.inr ⟨rfl,.inl ⟨rfl,rfl⟩⟩)⟩))⟩
   ·rw [aK h]
    refine bt.behind (Kp.load S _).q (.trans e1<| .trans (lz (cd 404) fun q=>h (Eq.trans q h2)) (wY (u:=S.w (c.ad 3 0)) (cd 405) rfl)) (Cj (p:={p with top:=S.w (c.ad 3 0)}) (I.load _) aZ hr h4 h5 rfl hT (fun h=>xy (cd 406) rfl h Zi) fun h=>.trans (xz (cd 406) rfl h) (tO (cd 407) aeL))
  ·unfold Pp.step
   rw [aK O_,aK O_,aK O_,aY hs];have xL:=I.iO (r:=13) O_ hp hw.2.2;exact bt.go (eF:= []) (I.load _) (Kp.load S _).q (r1 I (cd 410) O_ (w7 h7) xL) ⟨aZ,hr,h4,h5,.inr (.inr (.inl ⟨rfl,h2,hw,hp,.inr (.inr ⟨h7,.inr (.inl ⟨rfl,rfl,rfl,I.Cp O_ O_ D_ xL⟩)⟩)⟩))⟩
  ·unfold Pp.step
   rw [aK O_,aK O_,aK O_,aK O_,aY hs];have e1:=r3 (X:=X) (bk:= []) (nm:=nm) (pd:=pd) (j:=8) I (cd 411) O_ (ld aZ) h2 h8 xT aeM;have I1:Inv c th (S.swap (c.ad 3 0) p.top p.behind):=I.swap aT fun _=>I.mZ O_ xT hw8
   by_cases h:S.w (c.ad 3 0)=p.top
   ·rw [aY h] at e1 ⊢
    exact bt.go (eF:= []) ((I1.aB S.now).shift _ 4) (((Kp.swap S _ _ _).trans (Kp.aB _ _)).trans (Kp.shift _ _ _)).q (.trans e1<| .trans (FI (cd 412)) (Ch (I1.aB S.now) (cd 413) (w7 h7) ⟨hp,hw.2.2⟩)) ⟨aZ,hr,h4,h5,.inr (.inr (.inl ⟨rfl,h2,hw,hp,.inr (.inr ⟨h7,.inr (.inr (.inl ⟨rfl,rfl⟩))⟩)⟩))⟩
   ·rw [aK h] at e1 ⊢
    exact bt.go (eF:= []) I1 (Kp.swap S _ _ _).q (e1.trans (dI (cd 397))) ⟨aZ,hr,h4,h5,.inl ⟨rfl,rfl,rfl⟩⟩
  ·unfold Pp.step
   rw [aK O_,aK O_,aK O_,aK O_,aK O_,aY hs];have xV:=I.iO (r:=11) O_ hp hw.2.2;exact bt.go (eF:= []) (I.load _) (Kp.load S _).q (r1 I (cd 414) O_ (w7 h7) xV) ⟨aZ,hr,h4,h5,.inr (.inr (.inl ⟨rfl,h2,hw,hp,.inr (.inr ⟨h7,.inr (.inr (.inr ⟨rfl,rfl,rfl⟩))⟩)⟩))⟩
  ·unfold Pp.step
   rw [aK O_,aK O_,aK O_,aK O_,aK O_,aK O_,aY hs];have I1:Inv c th ((S.store (S.hz c 0) 0).tell 2 p.val):=(I.store aH (I.mZ O_ xH (.zero I))).tell 2 p.val;have K1:Kq S ((S.store (S.hz c 0) 0).tell 2 p.val):=(Kp.store S _ _).q.trans (.tell _ _ _);have a1:((S.store (S.hz c 0) 0).tell 2 p.val).cj=(2,p.val):=(I.store aH (I.mZ O_ xH (.zero I))).cy 2 p.val
   have e1:Rn c th (St false S X 415 R [] nm pd) (St true ((S.store (S.hz c 0) 0).tell 2 p.val) X 58 (cg R 20 (u64 (lk p.top))) [418] nm pd):=
    .trans (r2 I (cd 415) O_ w4 aZ xH)<| .trans (wY (cd 416) h7) (mE (cd 417) WV (r:=418) rfl)
   obtain⟨k,S',R',cG,cE,I',K',hk',⟨cZ,e',hr',ha,hn⟩ | ⟨hr',ha,hn⟩⟩:=(ki (X:=X) (v:=true) (R:=cg R 20 (u64 (lk p.top))) (bs:= [418]) (nm:=nm) (pd:=pd) I1 hr hp hw.2.2 rfl).cases
   ·rw [hr']
    exact bt.go I' (K1.trans K'.q) (e1.trans hn) ⟨(hk' 47 O_).trans aZ,by rw [K'.rc];exact hr,by rw [K'.rc];exact(hk' 4 O_).trans h4,(hk' 5 O_).trans h5,.inr (.inr (.inr ⟨rfl,K'.cj.trans a1,(ep wrap64 (hk' 9 O_)).trans h9,k,e',rfl,rfl,ha⟩))⟩
   ·rw [hr']
    exact bt.done I' (K1.trans K'.q) (.trans e1<| .trans (hn [] 418 rfl) (mL I' (cd 418) (by rw [K'.cj,a1,aY rfl,←h9];exact ep (fun x=>((2:Int),wrap64 x)) (hk' 9 O_).symm)))
 ·unfold Pp.step
  rw [aK O_,aK O_,aK O_,aK O_,aK O_,aK O_,aK O_,aK O_];simp only [hret];obtain⟨k,S',R',cG,cE,I',K',hk',⟨cZ,e',hr',ha,hn⟩ | ⟨hr',ha,hn⟩⟩:=(nY (X:=X) (bs:= [418]) I aZ ha).cases
  ·rw [hr']
   exact bt.go I' K'.q hn ⟨(hk' 47 O_).trans aZ,by rw [K'.rc];exact hr,by rw [K'.rc];exact(hk' 4 O_).trans h4,(hk' 5 O_).trans h5,.inr (.inr (.inr ⟨hs,K'.cj.trans ht,(ep wrap64 (hk' 9 O_)).trans h9,k,e',rfl,rfl,ha⟩))⟩
  ·rw [hr']
   exact bt.done I' K'.q (.trans (hn [] 418 rfl) (mL I' (cd 418) (by rw [K'.cj,ht,aY rfl,←h9];exact ep (fun x=>((2:Int),wrap64 x)) (hk' 9 O_).symm)))
end
section
variable{K:Ky}{c:Cf}{S:PM}{ss:List Sv}{w0 w w':World}{F H:List En}{d b n k kt f:Nat}{t:TypeId}{cs:List Value}
theorem fN{r:Nat}(z:Int){i:Int}(h:aq K c S ss w0 w F)(hm:ob k t cs∈F)(h1:cs[1]?=some (.pointer (some ⟨K.bA,0,none⟩)))(ok:bY c.T c.R c.H c.Re c.Ca c.S c.B)(hn:1≤r∧r≤13)(h9:r≠9)(hx:Ix c r i)(hz:z=r):
  cm 245 #[.pointer (some ⟨k,0,none⟩),.int .i64 z,.int .i64 i] w (.int .i64 (c.ad r i)) fun w'=>Ext w w':=by
 subst hz;have k1:=h.at_ (i:=1) hm h1;go_enter func245,ntmps245;exact Tf
theorem yC(s:Int)(w:World)(h0:-1≤s)(h1:s<1024):cm 249 #[s] w (.int .u64 (pk s)) fun w'=>w'=w:=by
 go_enter func249,ntmps249;go_wp2_with fail;refine(tA s w h0 h1).mono ?_;rintro e w ⟨rfl,rfl⟩;exact iB
theorem j3(x:Int)(w:World)(h:0≤x∧x<8589934592∧lk x<1024):cm 254 #[.int .u64 x] w (.int .i64 (lk x)) fun w'=>w'=w:=by
 go_enter func254,ntmps254;exact QI
def psF(pc:Int):Nat:=if pc=0 then 242 else if pc=1 then 244 else if pc=2 then 246 else if pc=3 then 247 else 248
@[reducible] def OX(K:Ky)(k th:Nat)(v:Value)(kt:Nat)(p:Ps):En:=ob k 199 [some K.bH,some K.bA,th,v,p.val,some kt,p.slot,.int .u64 p.top]
def Fe(K:Ky)(th k:Nat)(p:Ps)(L:List En):Prop:=∃ f kt,L= [OX K k th (.func (.func f) #[some k] #[]) kt p,gr K kt th p.take]∧f=psF p.pc
variable{v:Value}{th:Nat}{p:Ps}
theorem OY(h:aq K c S ss w0 w (OX K k th v kt p::gr K kt th p.take::F))(hd:dk K.toMk d∈F)(g:Gs n c S ss):
  b6 243 k d w (Post K c ss w0 F (Fe K th k) (p.taken S)):=by
 have s1:=h.put 6 p.take.res;have p0:=h.af aj;have p1:=s1.af aj;unfold Ps.taken
 by_cases hr:p.take.res<0
 ·rw [aY hr]
  have dr:=cM hr;go_enter func243,ntmps243;go_wp2_with fail;refine(cz h bp).mono ?_;rintro e w ⟨rfl,rfl⟩;go_wp2_with fail;refine(gK s1 (mT (mT hd))).mono ?_;rintro e _ ⟨rfl,rfl⟩;go_wp2_with fail;refine un (cX s1 (mT (mT hd)) g) fun ws2 s2=>?_
  exact abe
 ·rw [aK hr]
  have dr:=dy hr;have s2:=s1.put 3 (.func (.func 244) #[some k] #[]);go_enter func243,ntmps243;go_wp2_with fail;refine(cz h bp).mono ?_;rintro e w ⟨rfl,rfl⟩;go_wp2;go_ret;exact⟨rfl,[_,_],fun _=>⟨_,_,rfl,rfl⟩,s2⟩
theorem KU(h:aq K c S ss w0 w (OX K k th (.func (.func 242) #[some k] #[]) kt p::gr K kt th p.take::F))(hd:dk K.toMk d∈F)(g:Gd n c S ss)(ht:S.th=th)(ax:Ax S)(hx:RR c p.take)(hn:n<900000000000)(hp:p.pc=0):
  b6 242 k d w (Post K c ss w0 F (Fe K th k) (p.behind (p.take.step c S))):=by
 obtain⟨val,take,slot,top,pc⟩:=p;simp only at hp hx;subst hp ht;have p0:=h.af aj;have hm:=iI h.swap (mT hd) g.I ax.1 ax.2 g.bb hx;have g1:=g.DV hx;have xu:(take.step c S).2.2.th=S.th:=(Gd.yy take).1;generalize take.step c S=r at hm g1 xu ⊢;obtain⟨b,x,S1⟩:=r;simp only at hm g1 xu
 cases b
 ·simp only [Ps.behind]
  go_enter func242,ntmps242;exact S5
 ·simp only [Ps.behind]
  go_enter func242,ntmps242;exact Tc
theorem OZ(h:aq K c S ss w0 w (OX K k th v kt p::gr K kt th p.take::F))(hd:dk K.toMk d∈F)(g:Gd n c S ss)(ax:Ax S)(h0:0≤p.slot∧p.slot<c.S):
  b6 244 k d w (Post K c ss w0 F (Fe K th k) (false,{p with pc:=2},S.store (c.ad 11 p.slot) (u64 p.val))):=by
 have x:=g.I.iO (r:=11) S_ h0.1 h0.2;have a:=g.I.eX (r:=11) O_ O_ x;have p0:=h.af aj;go_enter func244,ntmps244;go_wp2
 go_region_held3 (mR p0) (first | exact p0 | exact bB | exact dN) (first | (have C:=fN 11 h.drew aj rfl g.I.ok O_ O_ x rfl;(with_reducible refine C.mono ?_);clear C;rintro e dx ⟨rfl,gx⟩;have m1:=h.drew.next gx;have bB:=m1.af aj) | ((with_reducible refine(kA _ _).mono ?_);rintro e _ ⟨rfl,rfl⟩) | ((with_reducible refine un (cx m1 (mT (mT hd)) ax a) fun jP m2=>?_);have dN:=m2.af aj))
 exact NI
theorem TZ(h:aq K c S ss w0 w (OX K k th v kt p::gr K kt th p.take::F))(hd:dk K.toMk d∈F)(g:Gd n c S ss)(ax:Ax S):
  Calls prog 246 #[.pointer (some ⟨k,0,none⟩),.pointer (some ⟨d,0,none⟩)] w (Post K c ss w0 F (Fe K th k) (false,{p with top:=S.w (c.ad 3 0),pc:=3},S.load (c.ad 3 0))):=by
 have x:=g.I.kC (r:=3) S_;have a:=g.I.eX (r:=3) O_ O_ x;have p0:=h.af aj;go_in;go_wp2_with fail;refine un (fN 3 h aj rfl g.I.ok O_ O_ x rfl) fun dx gx=>?_
 have m1:=h.next gx;have bB:=m1.af aj;go_wp2_with fail;refine un (bO m1 (mT (mT hd)) ax a) fun jP m2=>?_
 have dN:=m2.af aj;have n2:=m2.put 7 (.int .u64 (S.w (c.ad 3 0)));have jA:=n2.af aj;go_wp2;go_ret;exact⟨rfl,[_,_],fun _=>⟨_,_,rfl,rfl⟩,n2.put 3 _⟩
theorem Yf(h:aq K c S ss w0 w (OX K k th v kt p::gr K kt th p.take::F))(hd:dk K.toMk d∈F)(g:Gd n c S ss)(ax:Ax S)(h0:0≤p.slot∧p.slot<c.S):
  b6 247 k d w (Post K c ss w0 F (Fe K th k) (false,{p with pc:=4},S.store (c.ad 13 p.slot) p.top)):=by
 have x:=g.I.iO (r:=13) S_ h0.1 h0.2;have a:=g.I.eX (r:=13) O_ O_ x;have p0:=h.af aj;go_enter func247,ntmps247;go_wp2
 go_region_held3 (mR p0) (first | exact p0 | exact bB | exact dN) (first | (have C:=fN 13 h.drew aj rfl g.I.ok O_ O_ x rfl;(with_reducible refine C.mono ?_);clear C;rintro e dx ⟨rfl,gx⟩;have m1:=h.drew.next gx;have bB:=m1.af aj) | ((with_reducible refine un (cx m1 (mT (mT hd)) ax a) fun jP m2=>?_);have dN:=m2.af aj))
 exact NI
theorem TX(h:aq K c S ss w0 w (OX K k th v kt p::gr K kt th p.take::F))(hd:dk K.toMk d∈F)(g:Gd n c S ss)(ax:Ax S)(h0:0≤p.slot∧p.slot<c.S)(hn:n<900000000000):
  b6 248 k d w (Post K c ss w0 F (Fe K th k) (if S.w (c.ad 3 0)=p.top then(true,p,(((S.swap (c.ad 3 0) p.top (pk p.slot)).aB S.now).shift p.slot 3).tell 1 0) else(false,{p with pc:=2},S.swap (c.ad 3 0) p.top (pk p.slot)))):=by
 have x:=g.I.kC (r:=3) S_;have a:=g.I.eX (r:=3) O_ O_ x;have p0:=h.af aj;have hI:=g.I.bd;have hs:=g.I.sl;have hN:n≤1000000000000:=O_
 have hs0:-1≤p.slot:=by have:=h0.1;omega
 have hs1:p.slot<1024:=by have:=h0.2;omega
 cases hb:decide (S.w (c.ad 3 0)=p.top)
 case false=>
  rw [aK (of_decide_eq_false hb)];go_enter func248,ntmps248;go_wp2
  go_region_held3 (mR p0) (first | exact p0 | exact bB | exact dN) (first | (have C:=fN 3 h.drew aj rfl g.I.ok O_ O_ x rfl;(with_reducible refine C.mono ?_);clear C;rintro e dx ⟨rfl,gx⟩;have m1:=h.drew.next gx;have bB:=m1.af aj) | ((with_reducible refine(yC _ _ hs0 hs1).mono ?_);rintro e _ ⟨rfl,rfl⟩) | ((with_reducible refine un (cD m1 (mT (mT hd)) ax a hb) fun jP m2=>?_);have dN:=m2.af aj))
  exact NI
 case true=>
  rw [aY (of_decide_eq_true hb)];go_enter func248,ntmps248;go_wp2
  go_region_held3 (mR p0) (first | exact p0 | exact bB | exact dN) (first | (have C:=fN 3 h.drew aj rfl g.I.ok O_ O_ x rfl;(with_reducible refine C.mono ?_);clear C;rintro e dx ⟨rfl,gx⟩;have m1:=h.drew.next gx;have bB:=m1.af aj) | ((with_reducible refine(yC _ _ hs0 hs1).mono ?_);rintro e _ ⟨rfl,rfl⟩) | ((with_reducible refine un (cD m1 (mT (mT hd)) ax a hb) fun jP m2=>?_);have dN:=m2.af aj))
  go_wp2_with fail;refine(gK m2 (mT (mT hd))).mono ?_;rintro e jP ⟨rfl,rfl⟩;go_wp2_with fail;refine un (cX m2 (mT (mT hd)) g.s.swap) fun zK m3=>?_
  have iq:=m3.af aj;go_wp2
  go_region_held3 (AF k [Value.pointer (some ⟨K.bH,0,none⟩),some K.bA,th,v,p.val,some kt,p.slot,.int .u64 p.top]) (first | exact iq | exact nB) (first | ((with_reducible refine un (eN m3.drew (mT (mT hd)) g.s.swap.aB h0 Xz hN) fun Kh m4=>?_);have nB:=m4.af aj))
  go_wp2_with fail;refine un (eV m4 (mT (mT hd)) g.s.swap.aB.shift) fun wm5 m5=>?_
  have pm5:=m5.af aj;go_wp2;go_ret;exact⟨rfl,[_,_],fun q=>(by cases q),m5⟩
theorem O0(h:aq K c S ss w0 w (OX K k th v kt p::gr K kt th p.take::F))(hd:dk K.toMk d∈F)(g:Gd n c S ss)(ht:S.th=th)(hx:p.take.pc≠0)(hn:n<900000000000):
  b6 240 k d w (Post K c ss w0 F (Fe K th k) (p.ready S)):=by
 obtain⟨val,take,slot,top,pc⟩:=p;simp only at hx;subst ht;have p0:=h.af aj;have s1:=h.put 3 (.func (.func 242) #[some k] #[]);have p1:=s1.af aj;have hm:=gS s1.swap (mT hd) hx g.th g.Xm g.ca g.bb;have g1:=g.zP take;have xu:(take.ready S).2.2.th=S.th:=(Gd.yy (c:=c) take).2;have hr:Ps.ready ⟨val,take,slot,top,pc⟩ S=Ps.behind ⟨val,take,slot,top,0⟩ (take.ready S):=rfl;rw [hr];clear hr;generalize take.ready S=r at hm g1 xu ⊢;obtain⟨b,x,S1⟩:=r;simp only at hm g1 xu
 cases b
 ·simp only [Ps.behind]
  go_enter func240,ntmps240;exact S5
 ·simp only [Ps.behind]
  go_enter func240,ntmps240;exact Tc
theorem TY{R:Nat→Int}{pc th:Nat}{p:Ps}{bk nm pd:List Int}{O:List En}(h:aq K c S ss w0 w (O++F))(o:Fe K th k p O)(hd:dk K.toMk d∈F)(g:Gd n c S ss)(ht:S.th=th)(ax:Ax S)(hn:n<900000000000)(ha:pT c p S pc R bk nm pd):
  b6 241 k d w (Post K c ss w0 F (Fe K th k) (p.step c S)):=by
 obtain⟨f,kt,rfl,hf⟩:=o;have p0:=h.af aj;obtain⟨r,hr⟩:∃ r,r=p.step c S:=⟨_,rfl⟩;rw [←hr];obtain⟨val,take,slot,top,cZ⟩:=p;obtain⟨_,_,⟨hp,_,hx⟩ | ⟨_,h0,_,_,⟨hp,_⟩ | ⟨hp,_⟩ | ⟨_,_,⟨hp,_⟩ | ⟨hp,_⟩⟩⟩⟩:=ha<;>simp only at hp<;>subst hp
 ·replace hf:f=242:=hf
  subst hf;have hm:b6 242 k d w (Post K c ss w0 F (Fe K th k) r):=by rw [hr];exact KU h hd g ht ax (uP hx) hn rfl
  clear hr;exact sV
 ·replace hf:f=244:=hf
  subst hf;have hm:b6 244 k d w (Post K c ss w0 F (Fe K th k) r):=by rw [hr];exact OZ h hd g ax h0
  clear hr;exact sV
 ·replace hf:f=246:=hf
  subst hf;have hm:b6 246 k d w (Post K c ss w0 F (Fe K th k) r):=by rw [hr];exact TZ h hd g ax
  clear hr;exact sV
 ·replace hf:f=247:=hf
  subst hf;have hm:b6 247 k d w (Post K c ss w0 F (Fe K th k) r):=by rw [hr];exact Yf h hd g ax h0
  clear hr;exact sV
 ·replace hf:f=248:=hf
  subst hf;have hm:b6 248 k d w (Post K c ss w0 F (Fe K th k) r):=by rw [hr];exact TX h hd g ax h0 hn
  clear hr;exact sV
end
section
variable{K:Ky}{c:Cf}{S:PM}{ss:List Sv}{w0 w w':World}{F:List En}{lv:List Value}{r:Nat}{v v':Value}{l':List Int}
theorem aq.LS{b:Nat}{f:Int→Option Int}(h:aq K c S ss w0 w F)(hm:En.fX b f∈F):w0.heap.size≤b:=by
 obtain⟨cv,lv,a,b,l,p,s,ah,q,h⟩:=h;exact(h.own _ (bX (bX hm))).1
theorem aq.fF(h:aq K c S ss w0 w F):AF K.bH (eE K c S) w:=by
 obtain⟨cv,lv,a,b,l,p,s,ah,q,h⟩:=h;have e:DF K c S S.lists.length∈gy K.toMk l p s ah S ss++(dS K c cv lv S++F):=by rw [←b];exact lB
 exact⟨h.all e,h.dW e⟩
theorem ic(K:Ky)(c:Cf)(S:PM)(r:Int)(l:List Int):eE K c (S.aV r l)=eE K c S:=by simp [eE,PM.aV]
def iz(K:Ky)(c:Cf)(S:PM)(ss:List Sv)(lv:List Value)(w0 w:World)(F:List En):Prop:=
 ∃ cv:List Value,cv.length=S.aO.length∧lv.length=S.lists.length∧fK K.toMk S ss w0 w (dS K c cv lv S++F)
theorem aq.vals(h:aq K c S ss w0 w F):∃ lv:List Value,lv.length=S.lists.length∧iz K c S ss lv w0 w F:=by
 obtain⟨cv,lv,a,b,h⟩:=h;exact⟨lv,b,cv,a,b,h⟩
theorem iz.ia(h:iz K c S ss lv w0 w F):aq K c S ss w0 w F:=by
 obtain⟨cv,a,b,h⟩:=h;exact⟨cv,lv,a,b,h⟩
theorem iz.next(h:iz K c S ss lv w0 w F)(e:Ext w w'):iz K c S ss lv w0 w' F:=by
 obtain⟨cv,a,b,h⟩:=h;exact⟨cv,a,b,h.next e⟩
theorem iz.gi(h:iz K c S ss lv w0 w F){q:Nat}{u:Value}(hq:lv[q]?=some u):w.cell? ⟨K.gi,q,none⟩=some u∧w.frozen? ⟨K.gi,q,none⟩=false:=by
 obtain⟨cv,a,b,l,p,s,ah,q',h⟩:=h;have hm:Ru K lv∈gy K.toMk l p s ah S ss++(dS K c cv lv S++F):=bX (yt _ (yt _ S_));exact⟨h.ey (g:=K.gi) (c:=K.ci) hm hq,h.gL (g:=K.gi) (c:=K.ci) hm q⟩
theorem PD(hr:r<S.lists.length):S.lists[r]?=some (S.bQ r):=by rw [fy hr,PM.bQ,mW,kO,fy hr];rfl
theorem iz.parts(h:iz K c S ss lv w0 w F)(hv:lv[r]?=some v):∃ (A Q:List En),DF K c S S.lists.length∈A∧Has w0 w (A++.row v 3 1 (S.bQ r).length ((S.bQ r).map (Value.int .i64))::(Q++F))∧Ru K lv∈A∧
  ∀ (w2:World) (v':Value) (l':List Int),Has w0 w2 (A++.row v' 3 1 l'.length (l'.map (Value.int .i64))::(Q++F))→iz K c (S.aV r l') ss (lv.set r v') w0 (w2.setCell ⟨K.gi,r,none⟩ v') F:=by
 obtain⟨cv,a,b,l,p,s,ah,q,h⟩:=h;have hlr:=(fO.1 hv).1;have hr:r<S.lists.length:=O_
 obtain⟨P,Q,e,f⟩:=kj hv (PD hr);refine⟨gy K.toMk l p s ah S ss++ [E7 K c S cv.length,JS K S,RO K cv,DF K c S lv.length,JZ K S,Ru K lv]++(kn cv S.aO++P),Q,by rw [←b];simp,?_,S_,fun w2 v' l' h'=>⟨cv,a,?_,l,p,s,ah,q,?_⟩⟩
 ·exact QK
 ·exact NP
 ·unfold dS
  rw [show(S.aV r l').lists=S.lists.set r l' from ep (fun i=>S.lists.set i l') (mW r),f];have h2:=Has.fD (A:=gy K.toMk l p s ah S ss++ [E7 K c S cv.length,JS K S,RO K cv,DF K c S lv.length,JZ K S]) (g:=K.gi) (c:=K.ci) (H:=kn cv S.aO++P++.row v' 3 1 l'.length (l'.map (Value.int .i64))::(Q++F)) (by simpa only [dH,kY,mX] using h') r v';simp only [dH,kY,mX] at h2;simp only [dH,kY,mX,Ru,cW];exact h2
theorem iz.own(h:iz K c S ss lv w0 w F)(hv:lv[r]?=some v):w.ownsRow w0.heap.size 3 1 v (S.bQ r).length ((S.bQ r).map (Value.int .i64)):=by
 obtain⟨A,Q,_,h,_⟩:=h.parts hv;exact h.own _ (ew _ (gq ..))
theorem iz.sz(h:iz K c S ss lv w0 w F):w0.heap.size≤w.heap.size:=h.ia.sz
theorem iz.app(h:iz K c S ss lv w0 w F)(hv:lv[r]?=some v)(ho:w'.ownsRow w0.heap.size 3 1 v' l'.length (l'.map (Value.int .i64)))(hg:w.grownBy w' v.ownBlock)(rV:v'.ownBlock=v.ownBlock∨∃ q,v'.ownBlock=some q∧w.heap.size≤q):
  (∀ k t cs,ob k t cs∈F→AF k cs w')∧AF K.bH (eE K c S) w'∧(∀ q u,lv[q]?=some u→w'.cell? ⟨K.gi,q,none⟩=some u)∧w'.frozen? ⟨K.gi,r,none⟩=false∧iz K c (S.aV r l') ss (lv.set r v') w0 (w'.setCell ⟨K.gi,r,none⟩ v') F:=by
 obtain⟨A,Q,hz,hH,hl,hb⟩:=h.parts hv;have h2:=hH.grow (us':=l'.map (Value.int .i64)) ho hg rV;refine⟨fun k t cs hm=>?_,?_,fun q u hq=>?_,?_,hb _ _ _ h2⟩
 ·have hm':=ew A (iA (.row v' 3 1 l'.length (l'.map (Value.int .i64))) (ew Q hm))
  exact⟨h2.all hm',h2.dW hm'⟩
 ·exact⟨h2.all (yt _ hz),h2.dW (yt _ hz)⟩
 ·exact h2.ey (g:=K.gi) (c:=K.ci) (yt _ hl) hq
 ·exact h2.gL (g:=K.gi) (c:=K.ci) (yt _ hl) r
theorem iz.aan(h:iz K c S ss lv w0 w F)(hv:lv[r]?=some v):aq K c (S.aV r []) ss w0 (w.setCell ⟨K.gi,r,none⟩ (.slice none 0 0)) F:=by
 obtain⟨A,Q,_,hH,_,hb⟩:=h.parts hv;exact(hb w (.slice none 0 0) [] (hH.mid.drop.nil 3 1).back).ia
end
section
variable{K:Ky}{c:Cf}{S:PM}{ss:List Sv}{w0 w w':World}{F H:List En}{d b n k kt th:Nat}{t:TypeId}{cs:List Value}{rc pc:Int}{names:List Int}{aU:Option Pu}
theorem ei{x:Int}(h:0≤x)(h':x<1000000):IntKind.i64.wrap x=x:=by
 have e:x % 18446744073709551616=x:=Int.emod_eq_of_lt h O_;simp [IntKind.wrap,IntKind.bits,IntKind.signed,e];omega
theorem yh(I:Inv c S.th S){i:Int}(h:0≤i∧i<c.R):IntKind.i64.wrap (c.ad 8 0+i)=c.ad 8 i:=by
 rw [ad8 c i];have:=lK I;have:=I.bd;exact GG
theorem aa8(I:Inv c S.th S){i:Int}(h:0≤i∧i<c.R*c.H):IntKind.i64.wrap (c.ad 9 0+i)=c.ad 9 i:=by
 rw [ad9 c i];have:=lK I;have:=I.rh;exact GG
theorem RQ(I:Inv c S.th S){i:Int}(h:0≤i∧i<c.S):IntKind.i64.wrap (c.ad 11 0+i)=c.ad 11 i:=by
 rw [agl c i];have:=lK I;have:=I.bd;exact GG
theorem Lj{x:Sc}(h:aq K c S ss w0 w (mY K k th x::F))(g:1≤c.R∧c.R≤16)(hL:(S.lists.length:Int)=c.R)(hr:0≤x.rc∧x.rc<c.R)(hp:0≤x.pc∧x.pc<c.R)(PZ:x.pending= []):
  Calls prog 221 #[some k] w (Post K c ss w0 F (qx K c th k) (x.next c S)):=by
 refine(uT h g hL hr ⟨O_,hp.2⟩ PZ).mono ?_;rintro e w1 ⟨rfl,L,o,m⟩;refine⟨rfl,L,o,?_⟩;rw [jd];exact m
theorem XP(h:aq K c S ss w0 w (mY K k th ⟨rc,0,pc,names,[],aU⟩::F))(hd:dk K.toMk d∈F)(g:Gd n c S ss)(hr:0≤(rc:Int)∧(rc:Int)<c.R)(hp:0≤pc∧pc<c.R)(ax:Ax S)(hw:S.w (c.ad 8 pc)=1):
  b6 220 k d w (Post K c ss w0 F (qx K c th k) (Sc.next c ⟨rc,0,pc,names,[],aU⟩ (S.load (c.ad 8 pc)))):=by
 have hI:=g.I.bd;have hL:=g.I.li;have Oi:1≤c.R∧c.R≤16:=⟨hI.2.2.1,hI.2.2.2.1⟩;have p0:=(⟨h.af aj,h.fF⟩:AF k _ _∧AF K.bH (eE K c S) _);have d0:decide ((rc:Int)<0)=false:=dy O_;have xi:=g.I.IF hp.1 hp.2;have ai:=g.I.eX (r:=8) O_ O_ xi;have ha:=yh g.I hp;have By:=fun(W:World) (h:aq K c (S.load (c.ad 8 pc)) ss w0 W (mY K k th ⟨rc,0,pc,names,[],aU⟩::F))=>Lj h Oi hL hr hp rfl
 generalize Sc.next c ⟨rc,0,pc,names,[],aU⟩ (S.load (c.ad 8 pc))=r at By ⊢;have hw1:(S.w (c.ad 8 pc)==1)=true:=beq_iff_eq.2 hw;clear hw;go_enter func220,ntmps220;go_wp2
 go_region_held3 (fun w'=>AF k [Value.pointer (some ⟨K.bH,0,none⟩),th,rc,.int .i64 0,pc,.map none,.slice none 0 0,.pointer none] w'∧AF K.bH (eE K c S) w') (first | exact p0 | exact bB) (first | ((with_reducible refine un (bO h.drew (mT hd) ax ai) fun dx m1=>?_);have bB:=(⟨m1.af aj,m1.fF⟩:AF k _ _∧AF K.bH (eE K c S) _)))
 exact Wi
theorem XQ(h:aq K c S ss w0 w (mY K k th ⟨rc,0,pc,names,[],aU⟩::F))(hd:dk K.toMk d∈F)(g:Gd n c S ss)(hr:0≤(rc:Int)∧(rc:Int)<c.R)(hp:0≤pc∧pc<c.R)(ax:Ax S)(hw:¬S.w (c.ad 8 pc)=1):
  b6 220 k d w (Post K c ss w0 F (qx K c th k) (false,⟨rc,1,pc,names,[],aU⟩,S.load (c.ad 8 pc))):=by
 have hI:=g.I.bd;have hL:=g.I.li;have Oi:1≤c.R∧c.R≤16:=⟨hI.2.2.1,hI.2.2.2.1⟩;have p0:=(⟨h.af aj,h.fF⟩:AF k _ _∧AF K.bH (eE K c S) _);have d0:decide ((rc:Int)<0)=false:=dy O_;have xi:=g.I.IF hp.1 hp.2;have ai:=g.I.eX (r:=8) O_ O_ xi;have ha:=yh g.I hp;have hw1:(S.w (c.ad 8 pc)==1)=false:=gp.2 hw;clear hw;go_enter func220,ntmps220;go_wp2
 go_region_held3 (fun w'=>AF k [Value.pointer (some ⟨K.bH,0,none⟩),th,rc,.int .i64 0,pc,.map none,.slice none 0 0,.pointer none] w'∧AF K.bH (eE K c S) w') (first | exact p0 | exact bB) (first | ((with_reducible refine un (bO h.drew (mT hd) ax ai) fun dx m1=>?_);have bB:=(⟨m1.af aj,m1.fF⟩:AF k _ _∧AF K.bH (eE K c S) _)))
 go_wp2;go_ret;exact⟨rfl,[_],fun _=>.look (.inr (.inl rfl)) rfl,m1.put 3 _⟩
theorem XO(h:aq K c S ss w0 w (mY K k th ⟨rc,1,pc,names,[],aU⟩::F))(hd:dk K.toMk d∈F)(g:Gd n c S ss)(hr:0≤(rc:Int)∧(rc:Int)<c.R)(hp:0≤pc∧pc<c.R)(ax:Ax S)(hw:¬S.w (c.ad 8 pc)=0):
  b6 220 k d w (Post K c ss w0 F (qx K c th k) (Sc.next c ⟨rc,1,pc,names,[],aU⟩ (S.swap (c.ad 8 pc) 0 1))):=by
 have hI:=g.I.bd;have hL:=g.I.li;have Oi:1≤c.R∧c.R≤16:=⟨hI.2.2.1,hI.2.2.2.1⟩;have p0:=(⟨h.af aj,h.fF⟩:AF k _ _∧AF K.bH (eE K c S) _);have d0:decide ((rc:Int)<0)=false:=dy O_;have xi:=g.I.IF hp.1 hp.2;have ai:=g.I.eX (r:=8) O_ O_ xi;have ha:=yh g.I hp;have By:=fun(W:World) (h:aq K c (S.swap (c.ad 8 pc) 0 1) ss w0 W (mY K k th ⟨rc,1,pc,names,[],aU⟩::F))=>Lj h Oi hL hr hp rfl
 generalize Sc.next c ⟨rc,1,pc,names,[],aU⟩ (S.swap (c.ad 8 pc) 0 1)=r at By ⊢;have hb:decide (S.w (c.ad 8 pc)=0)=false:=dy hw;clear hw;go_enter func220,ntmps220;go_wp2
 go_region_held3 (fun w'=>AF k [Value.pointer (some ⟨K.bH,0,none⟩),th,rc,.int .i64 1,pc,.map none,.slice none 0 0,.pointer none] w'∧AF K.bH (eE K c S) w') (first | exact p0 | exact bB) (first | ((with_reducible refine un (cD h.drew (mT hd) ax ai hb) fun dx m1=>?_);have bB:=(⟨m1.af aj,m1.fF⟩:AF k _ _∧AF K.bH (eE K c S) _)))
 exact Wi
theorem adk(h:aq K c S ss w0 w (mY K k th ⟨rc,2,pc,names,[],aU⟩::F))(hd:dk K.toMk d∈F)(g:Gd n c S ss)(hr:0≤(rc:Int)∧(rc:Int)<c.R)(hp:0≤pc∧pc<c.R)(ax:Ax S):
  b6 220 k d w (Post K c ss w0 F (qx K c th k) (Sc.next c ⟨rc,2,pc,names,[],aU⟩ (S.store (c.ad 8 pc) 0))):=by
 have hI:=g.I.bd;have hL:=g.I.li;have Oi:1≤c.R∧c.R≤16:=⟨hI.2.2.1,hI.2.2.2.1⟩;have p0:=(⟨h.af aj,h.fF⟩:AF k _ _∧AF K.bH (eE K c S) _);have d0:decide ((rc:Int)<0)=false:=dy O_;have xi:=g.I.IF hp.1 hp.2;have ai:=g.I.eX (r:=8) O_ O_ xi;have ha:=yh g.I hp;have By:=fun(W:World) (h:aq K c (S.store (c.ad 8 pc) 0) ss w0 W (mY K k th ⟨rc,2,pc,names,[],aU⟩::F))=>Lj h Oi hL hr hp rfl
 generalize Sc.next c ⟨rc,2,pc,names,[],aU⟩ (S.store (c.ad 8 pc) 0)=r at By ⊢;go_enter func220,ntmps220;go_wp2
 go_region_held3 (fun w'=>AF k [Value.pointer (some ⟨K.bH,0,none⟩),th,rc,.int .i64 2,pc,.map none,.slice none 0 0,.pointer none] w'∧AF K.bH (eE K c S) w') (first | exact p0 | exact bB) (first | ((with_reducible refine un (cx h.drew (mT hd) ax ai) fun dx m1=>?_);have bB:=(⟨m1.af aj,m1.fF⟩:AF k _ _∧AF K.bH (eE K c S) _)))
 exact Wi
theorem XN{rc pc:Nat}(h:aq K c S ss w0 w (mY K k th ⟨(rc:Int),1,(pc:Int),names,[],aU⟩::F))(hd:dk K.toMk d∈F)(g:Gd n c S ss)(hr:0≤(rc:Int)∧(rc:Int)<c.R)(hp:pc<S.lists.length)(sG:(pc:Int)<c.R)(hne:pc≠rc)(ax:Ax S)(hw:S.w (c.ad 8 pc)=0):
  b6 220 k d w (Post K c ss w0 F (qx K c th k) (false,⟨(rc:Int),2,(pc:Int),names,[],aU⟩,((S.swap (c.ad 8 pc) 0 1).aV rc (S.bQ rc++S.bQ pc)).aV pc [])):=by
 have hI:=g.I.bd;have hL:=g.I.li;have Oi:1≤c.R∧c.R≤16:=⟨hI.2.2.1,hI.2.2.2.1⟩;have p0:=(⟨h.af aj,h.fF⟩:AF k _ _∧AF K.bH (eE K c S) _);have d0:decide ((rc:Int)<0)=false:=dy O_;have xi:=g.I.IF (Int.natCast_nonneg pc) sG;have ai:=g.I.eX (r:=8) O_ O_ xi;have ha:=yh g.I ⟨Int.natCast_nonneg pc,sG⟩;have hb:decide (S.w (c.ad 8 pc)=0)=true:=cM hw;clear hw;have d1:decide ((rc:Int)<(S.lists.length:Int))=true:=cM O_;have d2:decide ((pc:Int)<(S.lists.length:Int))=true:=cM O_;have b1:=g.li rc;have b2:=g.li pc;have hrl:rc<S.lists.length:=O_
 have P1:rc≠pc:=iS hne;go_enter func220,ntmps220;go_wp2
 go_region_held3 (fun w'=>AF k [Value.pointer (some ⟨K.bH,0,none⟩),th,rc,.int .i64 1,pc,.map none,.slice none 0 0,.pointer none] w'∧AF K.bH (eE K c S) w') (first | exact p0 | exact bB) (first | ((with_reducible refine un (cD h.drew (mT hd) ax ai hb) fun dx m1=>?_);have bB:=(⟨m1.af aj,m1.fF⟩:AF k _ _∧AF K.bH (eE K c S) _)))
 go_wp2_with fail;obtain⟨lv,hlv,mv⟩:=m1.vals;have hlv:lv.length=S.lists.length:=hlv;obtain⟨v1,iE⟩:∃ v,lv[rc]?=some v:=⟨_,fy O_⟩;obtain⟨v2,yZ⟩:∃ v,lv[pc]?=some v:=⟨_,fy O_⟩;have o1:dx.ownsRow w0.heap.size 3 1 v1 (S.bQ rc).length ((S.bQ rc).map (Value.int .i64)):=mv.own iE;have o2:dx.ownsRow w0.heap.size 3 1 v2 (S.bQ pc).length ((S.bQ pc).map (Value.int .i64)):=mv.own yZ;obtain⟨A1,c1,rfl⟩:=aA o1;obtain⟨A2,c2,rfl⟩:=aA o2;have Qb:=(mv.gi iE).1;have gf1:=(mv.gi iE).2;have gi2:=(mv.gi yZ).1;have hz:=m1.fF;have hsz:=mv.sz;have hrd:=Rd.fM o2;have hone:∀ u∈(S.bQ pc).map (Value.int .i64),u.oneCell'=true:=by intro u hu;obtain⟨z,_,rfl⟩:=List.mem_map.1 hu;rfl
 have L0:AF k [Value.pointer (some ⟨K.bH,0,none⟩),th,rc,.int .i64 1,pc,.map none,.slice none 0 0,.pointer none] dx∧AF K.bH (eE K c S) dx∧dx.cell? ⟨K.gi,pc,none⟩=some (.slice A2 (S.bQ pc).length c2):=⟨bB.1,hz,gi2⟩;refine Ds (S:=(fun w'=>AF k [Value.pointer (some ⟨K.bH,0,none⟩),th,rc,.int .i64 1,pc,.map none,.slice none 0 0,.pointer none] w'∧AF K.bH (eE K c S) w'∧w'.cell? ⟨K.gi,pc,none⟩=some (.slice A2 (S.bQ pc).length c2))) K_ L0 (fun hHeld=>?_);refine bn 0 ?_;refine bn 1 ?_;refine bn 2 ?_;refine bn 3 ?_;refine bn 4 ?_;refine bn 5 ?_;refine bn 6 ?_;refine bn 7 ?_;refine bn 8 ?_;refine bn 9 ?_;refine bn 10 ?_;refine bn 11 ?_;refine bn 12 ?_;refine bn 13 ?_;refine bn 14 ?_;refine bn 15 ?_;refine bn 16 ?_;refine bn 18 ?_;refine bn 19 ?_;refine bn 20 ?_;refine bn 21 ?_;refine bn 22 ?_;refine bn 23 ?_;refine bn 24 ?_;refine bn 25 ?_;refine bn 26 ?_;refine bn 27 ?_;refine eI 17 fun Kq cr=>?_
 go_simp;refine cr.out _ _ L0 (fun hHeld=>?_);refine eI 28 fun Kq cr=>?_
 refine cn _ rfl (.tmp 86) (.tmp 96) 40 rfl w0.heap.size 3 1 8 jT underlying40 (.slice A1 (S.bQ rc).length c1) (S.bQ rc).length _ (by simp [Act.eval]) (dB o1 (bu _).bh) A2 (S.bQ pc).length c2 ((S.bQ pc).map (Value.int .i64)) (by simp [Act.eval]) S_ (hrd.ext (bu _).bh) hone O_ (by simp;omega) ?_;intro v' w2 hown hgrow rV;obtain⟨A5,c5,rfl⟩:=aA hown;obtain⟨q1,q2,q3,q4,q5⟩:=mv.app iE (l':=S.bQ rc++S.bQ pc) (by rw [gP,jI];exact hown) (bw hgrow) (rV.imp id fun e=>⟨_,e,bZ _⟩);have j7:=q3 _ _ iE;refine cr.out _ _ ⟨q1 _ _ _ aj,q2,q3 _ _ yZ⟩ (fun hHeld=>?_);refine bn 29 ?_;refine eI 30 fun Kq cr=>?_
 go_simp;refine cr.out _ _ ⟨q5.ia.af aj,ic K c S rc (S.bQ rc++S.bQ pc)▸q5.ia.fF,(q5.gi ((oG P1).trans yZ)).1⟩ (fun hHeld=>?_);refine Be K_ ?_ _;have mg:=q5.aan ((oG P1).trans yZ);have gc2:=(q5.gi ((oG P1).trans yZ)).1;have gf2:=(q5.gi ((oG P1).trans yZ)).2;have pq:AF k [Value.pointer (some ⟨K.bH,0,none⟩),th,rc,.int .i64 1,pc,.map none,.slice none 0 0,.pointer none] (w2.setCell ⟨K.gi,rc,none⟩ (.slice A5 ((S.bQ rc).length+(S.bQ pc).length) c5))∧AF K.bH (eE K c S) (w2.setCell ⟨K.gi,rc,none⟩ (.slice A5 ((S.bQ rc).length+(S.bQ pc).length) c5)):=⟨q5.ia.af aj,ic K c S rc (S.bQ rc++S.bQ pc)▸q5.ia.fF⟩;have pr:AF k [Value.pointer (some ⟨K.bH,0,none⟩),th,rc,.int .i64 1,pc,.map none,.slice none 0 0,.pointer none] ((w2.setCell ⟨K.gi,rc,none⟩ (.slice A5 ((S.bQ rc).length+(S.bQ pc).length) c5)).setCell ⟨K.gi,pc,none⟩ (.slice none 0 0))∧AF K.bH (eE K c S) ((w2.setCell ⟨K.gi,rc,none⟩ (.slice A5 ((S.bQ rc).length+(S.bQ pc).length) c5)).setCell ⟨K.gi,pc,none⟩ (.slice none 0 0)):=⟨mg.af aj,by have:=mg.fF;rwa [ic,ic] at this⟩;clear L0 q1 q2 q3 q4 j7 hHeld Qb gi2 gf1 hz bB p0 m1 mv o1 o2 hrd hown hgrow rV;go_wp2
 go_region_held3 (fun w'=>AF k [Value.pointer (some ⟨K.bH,0,none⟩),th,rc,.int .i64 1,pc,.map none,.slice none 0 0,.pointer none] w'∧AF K.bH (eE K c S) w') (first | exact pq | exact pr) (fail)
 go_wp2;go_ret;exact⟨rfl,[_],fun _=>.look (.inr (.inr rfl)) rfl,(mg.put 3 _).drew⟩
end
end Go.Proofs.YtgbhnihkgmpocaaGreat
