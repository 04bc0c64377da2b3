/- Part 15 of 16 of the proof of PoolPlays. No condition. -/
import Derived.Test.YtgbhnihkgmpocaaGreatM13
namespace Go.Proofs.YtgbhnihkgmpocaaGreat
set_option maxRecDepth 100000
set_option maxHeartbeats 4000000
open Tryz
variable{P:Prop}
theorem T_0(x:P:=by
 go_simp;refine cr.out _ _ (gj _ (((bu W3).aE _).bh)) (fun hHeld=>?_);refine eI 14 fun Kq cr=>?_
 refine cn _ rfl (.tmp 332) (.tmp 341) 40 rfl w0.heap.size 3 1 8 jT underlying40 (.slice A x.names.length cp) x.names.length _ (by simp [Act.eval]) (by first | exact dF _ ((bu W3).aE _) | exact dF _ (((bu W3).bh).aE _) | exact dF _ (((bu W3).aE _).bh)) (some ⟨W3.heap.size,0,none⟩) 1 1 [.int .i64 (x.R a % 4294967296 - 1)] (by simp [Act.eval]) fQ (by first | exact gN _ (bu _) | exact gN _ (Ext.drawn _ 1)) hone O_ (by simp;omega) ?_;intro v1 w2 bV bl fk;have oO:W3.grownBy w2 (Value.ownBlock (.slice A x.names.length cp)):=(by first | exact aD bl | exact aD (bw bl) | exact bw (aD bl));obtain⟨g5,c5,rfl,_,_,_⟩:=bf bV O_;obtain⟨r2,h4⟩:=H2.out.X8 ht (r:=x.R a % 4294967296 - 1) bV (by rw [hca];exact oO) (by rw [hca];exact fk.imp id fun e=>⟨_,e,S_⟩);have kk:=r2.tr (uF (x,v));have ff:=r2.tF (th*658+54);have hk2:(w2).cell? ⟨w.heap.size,1,none⟩=some (.int .i64 (a:Int))∧(w2).cell? ⟨D.gt,th*658+3+a,none⟩=some (.int .u64 (x.R a)):=by have rr:=r2;exact⟨(rr.ob aj 1).trans rfl,rr.rg ha⟩
 have kD:(w2.setCell ⟨D.gt,th*658+54,none⟩ (.slice (some ⟨g5,0,none⟩) (x.names.length+1) c5)).cell? ⟨w.heap.size,1,none⟩=some (.int .i64 (a:Int))∧(w2.setCell ⟨D.gt,th*658+54,none⟩ (.slice (some ⟨g5,0,none⟩) (x.names.length+1) c5)).cell? ⟨D.gt,th*658+3+a,none⟩=some (.int .u64 (x.R a)):=by have rr:=h4.rd ht;exact⟨(rr.ob aj 1).trans rfl,rr.rg ha⟩
 refine cr.out _ _ hk2 (fun hHeld=>?_);refine bn 15 ?_;refine bn 16 ?_;refine eI 17 fun Kq cr=>?_
 go_simp;refine cr.out _ _ kD (fun hHeld=>?_);refine Be K_ ?_ _;refine GQ ?_
 (try simp only [Exit.inBlock,Exit.then])
 go_wp2_with fail;exact iP ⟨rfl,{v with nm:=.slice (some ⟨g5,0,none⟩) (x.names.length+1) c5},⟨rfl,rfl,rfl⟩,h4.drop⟩):P:=x
theorem T_6(x:P:=by
 go_simp;refine cr.out _ _ (gj _ (((bu W3).aE _).bh)) (fun hHeld=>?_);refine eI 27 fun Kq cr=>?_
 refine cn _ rfl (.tmp 197) (.tmp 206) 40 rfl w0.heap.size 3 1 8 jT underlying40 (.slice A li.length cp) li.length _ (by simp [Act.eval]) (by first | exact dF _ ((bu W3).aE _) | exact dF _ (((bu W3).bh).aE _) | exact dF _ (((bu W3).aE _).bh)) (some ⟨W3.heap.size,0,none⟩) 1 1 [.int .i64 (IntKind.i64.wrap (x.R a))] (by simp [Act.eval]) fQ (by first | exact gN _ (bu _) | exact gN _ (Ext.drawn _ 1)) hone O_ (by simp;omega) ?_;intro v1 w2 bV bl fk;have oO:W3.grownBy w2 (Value.ownBlock (.slice A li.length cp)):=(by first | exact aD bl | exact aD (bw bl) | exact bw (aD bl));obtain⟨g5,c5,rfl,_,_,_⟩:=bf bV O_;obtain⟨r2,h4⟩:=H2.out.TE ht (l':=li++ [IntKind.i64.wrap (x.R a)]) hla lY (by rw [gP,jI];exact bV) (by rw [hca];exact oO) (by rw [hca];exact fk.elim .inl fun e=>.inr (.inr ⟨_,e,S_⟩));have kk:=r2.ls hla;have ff:=r2.lF r;have hk2:(w2).cell? ⟨D.bD,14,none⟩=some (.slice (some ⟨D.gl,0,none⟩) m.lists.length D.cl)∧(w2).cell? ⟨D.gt,th*658+53,none⟩=some (Value.int .i64 (r:Int))∧(w2).cell? ⟨w.heap.size,1,none⟩=some (.int .i64 (a:Int))∧(w2).cell? ⟨D.gt,th*658+3+a,none⟩=some (.int .u64 (x.R a)):=by have rr:=r2;exact⟨(rr.bd 14).trans rfl,((rr.tr (i:=53) rfl).trans (show _=some (Value.int .i64 (r:Int)) from by rw [←hr])),(rr.ob aj 1).trans rfl,rr.rg ha⟩
 have kD:(w2.setCell ⟨D.gl,r,none⟩ (.slice (some ⟨g5,0,none⟩) (li.length+1) c5)).cell? ⟨D.bD,14,none⟩=some (.slice (some ⟨D.gl,0,none⟩) m.lists.length D.cl)∧(w2.setCell ⟨D.gl,r,none⟩ (.slice (some ⟨g5,0,none⟩) (li.length+1) c5)).cell? ⟨D.gt,th*658+53,none⟩=some (Value.int .i64 (r:Int))∧(w2.setCell ⟨D.gl,r,none⟩ (.slice (some ⟨g5,0,none⟩) (li.length+1) c5)).cell? ⟨w.heap.size,1,none⟩=some (.int .i64 (a:Int))∧(w2.setCell ⟨D.gl,r,none⟩ (.slice (some ⟨g5,0,none⟩) (li.length+1) c5)).cell? ⟨D.gt,th*658+3+a,none⟩=some (.int .u64 (x.R a)):=by have rr:=h4.rd ht;exact⟨(rr.bd 14).trans (show _=some (.slice (some ⟨D.gl,0,none⟩) (m.lists.set r (li++ [IntKind.i64.wrap (x.R a)])).length D.cl) from rfl) |>.trans (by rw [cW]),((rr.tr (i:=53) rfl).trans (show _=some (Value.int .i64 (r:Int)) from by rw [←hr])),(rr.ob aj 1).trans rfl,rr.rg ha⟩
 refine cr.out _ _ hk2 (fun hHeld=>?_);refine bn 28 ?_;refine eI 29 fun Kq cr=>?_
 go_simp;refine cr.out _ _ kD (fun hHeld=>?_);refine Be K_ ?_ _;refine GQ ?_
 (try simp only [Exit.inBlock,Exit.then])
 go_wp2_with fail;exact iP ⟨rfl,_,(cW ..).trans hlv,by rw [←zH];exact h4.drop⟩):P:=x
theorem T_8(x:P:=by
 go_simp;refine cr.out _ _ (gj _ (((bu W3).aE _).bh)) (fun hHeld=>?_);refine eI 10 fun Kq cr=>?_
 refine cn _ rfl (.tmp 45) (.tmp 50) 40 rfl w0.heap.size 3 1 8 jT underlying40 (.slice A x.back.length cp) x.back.length _ (by simp [Act.eval]) (by first | exact dF _ ((bu W3).aE _) | exact dF _ (((bu W3).bh).aE _) | exact dF _ (((bu W3).aE _).bh)) (some ⟨W3.heap.size,0,none⟩) 1 1 [.int .i64 ((x.pc:Int)+1)] (by simp [Act.eval]) fQ (by first | exact gN _ (bu _) | exact gN _ (Ext.drawn _ 1)) hone O_ (by simp;omega) ?_;intro v1 w2 bV bl fk;have oO:W3.grownBy w2 (Value.ownBlock (.slice A x.back.length cp)):=(by first | exact aD bl | exact aD (bw bl) | exact bw (aD bl));obtain⟨g5,c5,rfl,_,_,_⟩:=bf bV O_;obtain⟨r2,h4⟩:=H2.out.Ya ht (r:=(x.pc:Int)+1) bV (by show W3.grownBy w2 v.bk.ownBlock;rw [hca];exact oO) (by show _=v.bk.ownBlock∨_;rw [hca];exact fk.imp id fun e=>⟨_,e,S_⟩);have kk:=r2.tr (ru (_,v));have ff:=r2.tF (th*658+51);have hk2:(w2).cell? ⟨D.gt,th*658+2,none⟩=some (.int .i64 ((x.pc:Int)+1)):=by have rr:=r2;exact(rr.tr (i:=2) rfl).trans rfl
 have kD:(w2.setCell ⟨D.gt,th*658+51,none⟩ (.slice (some ⟨g5,0,none⟩) (x.back.length+1) c5)).cell? ⟨D.gt,th*658+2,none⟩=some (.int .i64 ((x.pc:Int)+1)):=by have rr:=h4.rd ht;exact(rr.tr (i:=2) rfl).trans rfl
 refine cr.out _ _ hk2 (fun hHeld=>?_);refine bn 11 ?_;refine bn 12 ?_;refine eI 13 fun Kq cr=>?_
 go_simp;refine cr.out _ _ kD (fun hHeld=>?_);refine Be K_ ?_ _;refine GQ ?_
 (try simp only [Exit.inBlock,Exit.then])
 generalize (w2.setCell ⟨D.gt,th*658+51,none⟩ (.slice (some ⟨g5,0,none⟩) (x.back.length+1) c5))=W4 at h4 ⊢;clear kD hHeld;have q9:=fun z:aL W4=>((h4.next z.ok).bd.1 9).trans (show _=some (.slice (some ⟨D.gb,0,none⟩) bz.length D.cb) from rfl)
 have ql:=fun z:aL W4=>(h4.next z.ok).cI hl
 have hto:=(fO.1 hl).1;generalize bz.length=nl at q9 hto;have fr:=fun z:aL W4=>(h4.next z.ok).jQ (th*658+2)
 have fc:=fun z:aL W4=>((h4.next z.ok).tr ht (i:=2) rfl).trans (show _=some (.int .i64 ((x.pc+1:Nat):Int)) from rfl)
 have qb:=fun z:aL W4=>((h4.next z.ok).af aj).1
 have H4:=aJ h4;clear h4;go_wp2_with fail;refine qT 11 fun z2=>?_
 go_wp2_with fail;exact iP ⟨rfl,{v with bk:=.slice (some ⟨g5,0,none⟩) (x.back.length+1) c5},⟨rfl,rfl,rfl⟩,((H4.out.next z2.ok).oI ht l).drop⟩):P:=x
theorem T_9(x:P:=by
 go_simp;refine cr.out _ _ (gj _ (bu W3).bh) (fun hHeld=>?_);refine eI 25 fun Kq cr=>?_
 refine cn _ rfl (.tmp 305) (.tmp 312) 40 rfl w0.heap.size 3 1 8 jT underlying40 (.slice A li.length cp) li.length _ (by simp [Act.eval]) (dB hown (bu _).bh) B lo.length cq (lo.map (Value.int .i64)) (by simp [Act.eval]) S_ (hrd.ext (bu _).bh) hone O_ (by simp;omega) ?_;intro v1 w2 bV bl fk;have oO:W3.grownBy w2 (Value.ownBlock (.slice A li.length cp)):=(by first | exact bl | exact bw bl);obtain⟨A5,c5,rfl⟩:=aA bV;obtain⟨r2,h4⟩:=H2.out.TE ht (l':=li++lo) hla lY (by rw [gP,jI];exact bV) (by rw [hca];exact oO) (by rw [hca];exact fk.elim .inl fun e=>.inr (.inr ⟨_,e,S_⟩));have kk:=r2.ls hla;have ff:=r2.lF r;have hk2:(w2).cell? ⟨D.bD,14,none⟩=some (.slice (some ⟨D.gl,0,none⟩) m.lists.length D.cl)∧(w2).cell? ⟨D.gt,th*658+53,none⟩=some (Value.int .i64 (r:Int)):=by have rr:=r2;exact⟨(rr.bd 14).trans rfl,((rr.tr (i:=53) rfl).trans (show _=some (Value.int .i64 (r:Int)) from by rw [←hr]))⟩
 have kD:(w2.setCell ⟨D.gl,r,none⟩ (.slice A5 (li.length+lo.length) c5)).cell? ⟨D.bD,14,none⟩=some (.slice (some ⟨D.gl,0,none⟩) m.lists.length D.cl)∧(w2.setCell ⟨D.gl,r,none⟩ (.slice A5 (li.length+lo.length) c5)).cell? ⟨D.gt,th*658+53,none⟩=some (Value.int .i64 (r:Int)):=by have rr:=h4.rd ht;exact⟨(rr.bd 14).trans (show _=some (.slice (some ⟨D.gl,0,none⟩) (m.lists.set r (li++lo)).length D.cl) from rfl) |>.trans (by rw [cW]),((rr.tr (i:=53) rfl).trans (show _=some (Value.int .i64 (r:Int)) from by rw [←hr]))⟩
 refine cr.out _ _ hk2 (fun hHeld=>?_);refine bn 26 ?_;refine eI 27 fun Kq cr=>?_
 go_simp;refine cr.out _ _ kD (fun hHeld=>?_);refine Be K_ ?_ _;refine GQ ?_
 (try simp only [Exit.inBlock,Exit.then])
 generalize (w2.setCell ⟨D.gl,r,none⟩ (.slice A5 (li.length+lo.length) c5))=W4 at h4 kD ⊢;obtain⟨b9,hb9⟩:∃ b,(lv.set r (.slice A5 (li.length+lo.length) c5))[o]?=some b:=⟨_,fy (by simp;omega)⟩;obtain⟨l9,hl9⟩:∃ l,(m.lists.set r (li++lo))[o]?=some l:=⟨_,fy (by simp;omega)⟩;have q14:=kD.1;have f7:=(h4.rd ht).lF o;have c7:=(h4.rd ht).ls hb9;have h5:=(h4.TE (w':=W4) ht (v1:=bG) (l':= []) hb9 hl9 (JG _ _ _ _) (pJ _ _) (.inr (.inl rfl))).2;have H5:=aJ h5;clear h5 h4;go_wp2_with fail;exact iP ⟨rfl,_,by simp [hlv],H5.out.drop⟩):P:=x
theorem Sy(x:P:=by
 refine cr.out _ _ gC (fun hHeld=>?_);refine eI 13 fun Kq cr=>?_
 exact T_0):P:=x
open Go.RowKit
section
variable{D:Dk}{c:Cf}{th:Nat}{ov:List (RT×Tv)}{m m':RM}{x x':RT}{v v':Tv}{vc vt vs:Value}{lv:List Value}{w0 w w':World}{F G:List En}{a b cc tt l:Nat}{d:Int}{y:Cl}
theorem YF(h:aW D c th ov m x v vc vt vs lv w0 w F)(ht:th<ov.length)(ha:a<48)(hR:∀ a,0≤x.R a∧x.R a≤18446744073709551615)(hb:x.names.length<10000000):
  jU 154 42 D th a b cc d tt w fun w'=>∃ v',(v'.pd=v.pd∧v'.pf=v.pf∧v'.full=v.full)∧aW D c th ov m ({x with names:=x.names++ [lk (x.R a)]}) v' vc vt vs lv w0 w' F:=by
 obtain⟨A,cp,hca⟩:=aA h.Pb;have hl:=fun W=>gX (x.R a) W (hR a).1 (hR a).2
 have h2:aW D c th ov m x v vc vt vs lv w0 (w.alloc (.cells #[.int .i64 42,a,b,cc,d,tt] 236)) (ob w.heap.size 236 [.int .i64 42,a,b,cc,d,tt]::F):=h.alloc #[.int .i64 42,a,b,cc,d,tt] 236;have pD:=(h2.bd.1 11).trans (show _=some (.slice (some ⟨D.gt,0,none⟩) ov.length D.ct) from rfl);have dt:=jH ht;have qb:=(h2.af aj).1;go_enter func154,ntmps154;go_wp2_with fail;clear pD h;generalize (w.alloc (.cells #[.int .i64 42,a,b,cc,d,tt] 236))=W2 at h2 qb ⊢;clear qb;have r0:=h2.rd ht;have H2:=aJ h2;clear h2 r0;generalize W2=W3 at H2 ⊢;have y6:=(H2.out.tr ht (uF (x,v))).trans (show _=some (.slice A x.names.length cp) from ep some hca);have f6:=H2.out.jQ (th*658+54);have hlt:D.gt<W3.heap.size:=Has.D8 (g:=D.gt) (c:=D.ct) H2.out oJ;have hne:=lN hlt;have gj:∀ w',Ext W3 w'→(w'.cell? ⟨w.heap.size,1,none⟩=some (.int .i64 (a:Int))∧w'.cell? ⟨D.gt,th*658+3+a,none⟩=some (.int .u64 (x.R a))):=fun w' e=>by have rr:=(H2.out.next e).rd ht;exact⟨(rr.ob aj 1).trans rfl,rr.rg ha⟩
 have gC:=gj W3 (bu W3);have dF:=fun w' (e:Ext W3 w')=>dB (hca▸H2.out.Pb) e
 have hsz:=(Has.ext H2.out).size;have gN:∀ w',Ext (W3.alloc (.cells #[.int .i64 (x.R a % 4294967296 - 1)] 3)) w'→Rd w' (some ⟨W3.heap.size,0,none⟩) [.int .i64 (x.R a % 4294967296 - 1)]:=fun w' e=>(Rd.made W3 [.int .i64 (x.R a % 4294967296 - 1)] 3).ext e
 have fQ:([.int .i64 (x.R a % 4294967296 - 1)]:List Value).length=1*1:=rfl;have hone:∀ u∈([.int .i64 (x.R a % 4294967296 - 1)]:List Value),u.oneCell'=true:=by intro u hu;simp at hu;rw [hu];rfl
 have bi:(a:Int)<48:=O_
 refine tX (Ds (S:=fun w':World=>w'.cell? ⟨w.heap.size,1,none⟩=some (.int .i64 (a:Int))∧w'.cell? ⟨D.gt,th*658+3+a,none⟩=some (.int .u64 (x.R a))) K_ gC (fun hHeld=>?_));refine bn 0 ?_;refine bn 1 ?_;refine bn 2 ?_;refine bn 3 ?_;refine bn 5 ?_;refine bn 6 ?_;refine bn 7 ?_;refine bn 8 ?_;refine bn 9 ?_;refine bn 10 ?_;refine bn 11 ?_;refine qB (rs:= [4,12]) K_ S_ ?_;refine mA rfl (fun Kq cr=>?_) ?_
 ·go_simp
  refine cr.out _ _ gC (fun hHeld=>?_);refine eI 12 fun Kq cr=>?_
  go_simp
  with_reducible refine un (hl _) fun wz hw=>?_
  obtain rfl:=hw.symm;go_wp2_with fail;exact Sy
 refine mA rfl (fun Kq cr=>?_) tH;go_simp
 with_reducible refine un (hl _) fun wz hw=>?_
 obtain rfl:=hw.symm;go_wp2_with fail;refine cr.out _ _ gC (fun hHeld=>?_);refine qB (rs:= [4,13]) K_ S_ ?_;refine mA rfl (fun Kq cr=>?_) ?_
 ·go_simp
  exact Sy
 refine mA rfl (fun Kq cr=>?_) tH;go_simp;refine cr.out _ _ (gj _ (((bu W3).aE _).bh)) (fun hHeld=>?_);refine eI 4 fun Kq cr=>?_
 exact T_0
theorem Zd(h:aW D c th ov m x v vc vt vs lv w0 w F)(ht:th<ov.length)(hp:x.pc<1000)(hb:x.back.length<10000000)(hl:bz[tt]?=some l):
  jU 136 12 D th a b cc d tt w fun w'=>∃ v',(v'.pd=v.pd∧v'.pf=v.pf∧v'.full=v.full)∧aW D c th ov m ({x with pc:=l,back:=x.back++ [((x.pc+1:Nat):Int)]}) v' vc vt vs lv w0 w' F:=by
 obtain⟨A,cp,hca⟩:=aA h.Ym;obtain⟨pb,pD,p2,f2,h2⟩:=jB (a:=a) (b:=b) (cc:=cc) (d:=d) (tt:=tt) h ht 12;have dt:=jH ht;have hwp:=ee (n:=x.pc) O_;have qb:=(h2.af aj).1;go_enter func136,ntmps136;go_wp2_with fail;clear pb pD p2 f2 h;generalize ((w.alloc (.cells #[.int .i64 12,a,b,cc,d,tt] 236)).setCell ⟨D.gt,th*658+2,none⟩ (.int .i64 ((x.pc:Int)+1)))=W2 at h2 qb ⊢;have H2:=aJ h2;clear h2 qb;generalize W2=W3 at H2 ⊢;have y6:=(H2.out.tr ht (ru (_,v))).trans (show _=some (.slice A x.back.length cp) from ep some hca);have f6:=H2.out.jQ (th*658+51);have hlt:D.gt<W3.heap.size:=Has.D8 (g:=D.gt) (c:=D.ct) H2.out oJ;have hne:=lN hlt;have gj:∀ w',Ext W3 w'→(w'.cell? ⟨D.gt,th*658+2,none⟩=some (.int .i64 ((x.pc:Int)+1))):=fun w' e=>by have rr:=(H2.out.next e).rd ht;exact(rr.tr (i:=2) rfl).trans rfl
 have gC:=gj W3 (bu W3);have dF:=fun w' (e:Ext W3 w')=>dB ((hca▸H2.out.Ym:W3.ownsRow w0.heap.size 3 1 (.slice A x.back.length cp) x.back.length (x.back.map (Value.int .i64)))) e
 have hsz:=(Has.ext H2.out).size;have gN:∀ w',Ext (W3.alloc (.cells #[.int .i64 ((x.pc:Int)+1)] 3)) w'→Rd w' (some ⟨W3.heap.size,0,none⟩) [.int .i64 ((x.pc:Int)+1)]:=fun w' e=>(Rd.made W3 [.int .i64 ((x.pc:Int)+1)] 3).ext e
 have fQ:([.int .i64 ((x.pc:Int)+1)]:List Value).length=1*1:=rfl;have hone:∀ u∈([.int .i64 ((x.pc:Int)+1)]:List Value),u.oneCell'=true:=by intro u hu;simp at hu;rw [hu];rfl
 refine tX (Ds (S:=fun w':World=>w'.cell? ⟨D.gt,th*658+2,none⟩=some (.int .i64 ((x.pc:Int)+1))) K_ gC (fun hHeld=>?_));refine bn 0 ?_;refine bn 1 ?_;refine bn 2 ?_;refine bn 3 ?_;refine bn 5 ?_;refine bn 6 ?_;refine bn 7 ?_;refine bn 8 ?_;refine qB (rs:= [4,9]) K_ S_ ?_;refine mA rfl (fun Kq cr=>?_) ?_
 ·go_simp
  refine cr.out _ _ gC (fun hHeld=>?_);refine eI 9 fun Kq cr=>?_
  exact T_8
 refine mA rfl (fun Kq cr=>?_) tH;go_simp;refine cr.out _ _ (gj _ (((bu W3).aE _).bh)) (fun hHeld=>?_);refine eI 4 fun Kq cr=>?_
 exact T_8
theorem Zc(h:aW D c th ov m x v vc vt vs lv w0 w F)(ht:th<ov.length)(hp:x.pc<1000){k z:Nat}(hk:x.back.length=k+1)(hkb:k<10000000)(hz:x.back[k]?=some (z:Int)):
  jU 136 13 D th a b cc d tt w fun w'=>∃ v',(v'.pd=v.pd∧v'.pf=v.pf∧v'.full=v.full)∧aW D c th ov m ({x with pc:=z,back:=x.back.take k}) v' vc vt vs lv w0 w' F:=by
 obtain⟨g,cp,hca,Xg⟩:=h.aar O_;have Vm:k≤cp:=O_
 obtain⟨pb,pD,p2,f2,h2⟩:=jB (a:=a) (b:=b) (cc:=cc) (d:=d) (tt:=tt) h ht 13;have dt:=jH ht;have hwp:=ee (n:=x.pc) O_;have qb:=(h2.af aj).1;go_enter func136,ntmps136;go_wp2_with fail;clear pb pD p2 f2 h;generalize ((w.alloc (.cells #[.int .i64 13,a,b,cc,d,tt] 236)).setCell ⟨D.gt,th*658+2,none⟩ (.int .i64 ((x.pc:Int)+1)))=W2 at h2 qb ⊢;clear qb;have qc:=fun y:aL W2=>((h2.next y.ok).tr ht (ru (_,v))).trans (show _=some (.slice (some ⟨g,0,none⟩) (k+1) cp) from by rw [hca,hk])
 have qz:=fun y:aL W2=>(h2.next y.ok).atB hca hz
 have fr:=fun y:aL W2=>(h2.next y.ok).jQ (th*658+2)
 have fc:=fun y:aL W2=>((h2.next y.ok).tr ht (i:=2) rfl).trans (show _=some (.int .i64 ((x.pc+1:Nat):Int)) from rfl)
 have H2:=aJ h2;clear h2;refine qT 15 fun z1=>?_
 go_wp2_with fail;have h3:=(H2.out.next z1.ok).oI ht z;generalize (z1.world.setCell ⟨D.gt,th*658+2,none⟩ (.int .i64 (z:Int)))=W3 at h3 ⊢;clear fr fc qc qz;have qd:=fun y:aL W3=>((h3.next y.ok).tr ht (ru (_,v))).trans (show _=some (.slice (some ⟨g,0,none⟩) (k+1) cp) from by rw [hca,hk])
 have fd:=fun y:aL W3=>(h3.next y.ok).jQ (th*658+51)
 have H3:=aJ h3;clear h3;refine qT 14 fun z2=>?_
 go_wp2_with fail;exact iP ⟨rfl,{v with bk:=kN g k cp},⟨rfl,rfl,rfl⟩,((H3.out.next z2.ok).agd ht hca (k:=k) (by show k≤x.back.length;omega)).drop⟩
theorem YM(h:aW D c th ov m x v vc vt vs lv w0 w F)(ht:th<ov.length)(ha:a<48)(hlv:lv.length=m.lists.length){r:Nat}(hr:x.rc=(r:Int)){li:List Int}(lY:m.lists[r]?=some li)(hb:li.length<10000000):
  jU 154 35 D th a b cc d tt w fun w'=>∃ FW,FW.length=m.lists.length∧aW D c th ov {m with lists:=m.lists.set r (li++ [wrap64 (x.R a)])} (x) v vc vt vs FW w0 w' F:=by
 have hrl:=(fO.1 lY).1;obtain⟨la,hla⟩:∃ la,lv[r]?=some la:=⟨lv[r],fy O_⟩;obtain⟨A,cp,hca⟩:=aA (h.xG hla lY);have h2:aW D c th ov m x v vc vt vs lv w0 (w.alloc (.cells #[.int .i64 35,a,b,cc,d,tt] 236)) (ob w.heap.size 236 [.int .i64 35,a,b,cc,d,tt]::F):=h.alloc #[.int .i64 35,a,b,cc,d,tt] 236;have pD:=(h2.bd.1 11).trans (show _=some (.slice (some ⟨D.gt,0,none⟩) ov.length D.ct) from rfl);have dt:=jH ht;have qb:=(h2.af aj).1;go_enter func154,ntmps154;go_wp2_with fail;clear pD h;generalize (w.alloc (.cells #[.int .i64 35,a,b,cc,d,tt] 236))=W2 at h2 qb ⊢;clear qb;have r0:=h2.rd ht;have H2:=aJ h2;clear h2 r0;generalize W2=W3 at H2 ⊢;have y6:=((H2.out.rd ht).ls hla).trans (ep some hca);have f6:=(H2.out.rd ht).lF r;have hlt:D.gl<W3.heap.size:=Has.D8 (g:=D.gl) (c:=D.cl) H2.out lO;have hne:=lN hlt;have gj:∀ w',Ext W3 w'→(w'.cell? ⟨D.bD,14,none⟩=some (.slice (some ⟨D.gl,0,none⟩) m.lists.length D.cl)∧w'.cell? ⟨D.gt,th*658+53,none⟩=some (Value.int .i64 (r:Int))∧w'.cell? ⟨w.heap.size,1,none⟩=some (.int .i64 (a:Int))∧w'.cell? ⟨D.gt,th*658+3+a,none⟩=some (.int .u64 (x.R a))):=fun w' e=>by have rr:=(H2.out.next e).rd ht;exact⟨(rr.bd 14).trans rfl,((rr.tr (i:=53) rfl).trans (show _=some (Value.int .i64 (r:Int)) from by rw [←hr])),(rr.ob aj 1).trans rfl,rr.rg ha⟩
 have gC:=gj W3 (bu W3);have dF:=fun w' (e:Ext W3 w')=>dB ((hca▸H2.out.xG hla lY:W3.ownsRow w0.heap.size 3 1 (.slice A li.length cp) li.length (li.map (Value.int .i64)))) e
 have hsz:=(Has.ext H2.out).size;have gN:∀ w',Ext (W3.alloc (.cells #[.int .i64 (IntKind.i64.wrap (x.R a))] 3)) w'→Rd w' (some ⟨W3.heap.size,0,none⟩) [.int .i64 (IntKind.i64.wrap (x.R a))]:=fun w' e=>(Rd.made W3 [.int .i64 (IntKind.i64.wrap (x.R a))] 3).ext e
 have fQ:([.int .i64 (IntKind.i64.wrap (x.R a))]:List Value).length=1*1:=rfl;have hone:∀ u∈([.int .i64 (IntKind.i64.wrap (x.R a))]:List Value),u.oneCell'=true:=by intro u hu;simp at hu;rw [hu];rfl
 have bi:(a:Int)<48:=O_
 refine tX (Ds (S:=fun w':World=>w'.cell? ⟨D.bD,14,none⟩=some (.slice (some ⟨D.gl,0,none⟩) m.lists.length D.cl)∧w'.cell? ⟨D.gt,th*658+53,none⟩=some (Value.int .i64 (r:Int))∧w'.cell? ⟨w.heap.size,1,none⟩=some (.int .i64 (a:Int))∧w'.cell? ⟨D.gt,th*658+3+a,none⟩=some (.int .u64 (x.R a))) K_ gC (fun hHeld=>?_));refine bn 0 ?_;refine bn 1 ?_;refine bn 2 ?_;refine bn 3 ?_;refine bn 4 ?_;refine bn 5 ?_;refine bn 6 ?_;refine bn 7 ?_;refine bn 8 ?_;refine bn 9 ?_;refine bn 10 ?_;refine bn 11 ?_;refine bn 12 ?_;refine bn 13 ?_;refine bn 14 ?_;refine bn 15 ?_;refine bn 16 ?_;refine bn 18 ?_;refine bn 19 ?_;refine bn 20 ?_;refine bn 21 ?_;refine bn 22 ?_;refine bn 23 ?_;refine bn 24 ?_;refine bn 25 ?_;refine qB (rs:= [17,26]) K_ S_ ?_;refine mA rfl (fun Kq cr=>?_) ?_
 ·go_simp
  refine cr.out _ _ gC (fun hHeld=>?_);refine eI 26 fun Kq cr=>?_
  exact T_6
 refine mA rfl (fun Kq cr=>?_) tH;go_simp;refine cr.out _ _ (gj _ (((bu W3).aE _).bh)) (fun hHeld=>?_);refine eI 17 fun Kq cr=>?_
 exact T_6
theorem YH(h:aW D c th ov m x v vc vt vs lv w0 w F)(ht:th<ov.length)(ha:a<48)(hlv:lv.length=m.lists.length){r:Nat}(hr:x.rc=(r:Int)){li:List Int}(lY:m.lists[r]?=some li){o:Nat}(ho:wrap64 (x.R a)=(o:Int)){lo:List Int}(hlo:m.lists[o]?=some lo)(hb:li.length+lo.length<10000000):
  jU 154 40 D th a b cc d tt w fun w'=>∃ FW,FW.length=m.lists.length∧aW D c th ov {m with lists:=(m.lists.set r (li++lo)).set o []} (x) v vc vt vs FW w0 w' F:=by
 have hrl:=(fO.1 lY).1;obtain⟨la,hla⟩:∃ la,lv[r]?=some la:=⟨lv[r],fy O_⟩;obtain⟨A,cp,hca⟩:=aA (h.xG hla lY);have hol:=(fO.1 hlo).1;obtain⟨lb,hlb⟩:∃ lb,lv[o]?=some lb:=⟨lv[o],fy O_⟩;obtain⟨B,cq,hcb⟩:=aA (h.xG hlb hlo);have h2:aW D c th ov m x v vc vt vs lv w0 (w.alloc (.cells #[.int .i64 40,a,b,cc,d,tt] 236)) (ob w.heap.size 236 [.int .i64 40,a,b,cc,d,tt]::F):=h.alloc #[.int .i64 40,a,b,cc,d,tt] 236;have pD:=(h2.bd.1 11).trans (show _=some (.slice (some ⟨D.gt,0,none⟩) ov.length D.ct) from rfl);have dt:=jH ht;have qb:=(h2.af aj).1;go_enter func154,ntmps154;go_wp2_with fail;clear pD h;generalize (w.alloc (.cells #[.int .i64 40,a,b,cc,d,tt] 236))=W2 at h2 qb ⊢;clear qb;have r0:=h2.rd ht;have qb:=fun z:aL W2=>((h2.next z.ok).af aj).1
 have ba:decide ((a:Int)<48)=true:=cM O_;have ra:=fun z:aL W2=>(h2.next z.ok).gm ht ha
 clear r0;refine qE fun z1=>?_
 have H2:=aJ (h2.next z1.ok);clear qb ra ba h2;generalize z1.world=W3 at H2 ⊢;have how:IntKind.i64.wrap (x.R a)=(o:Int):=by rw [zH];exact ho
 generalize Oi:wrap64 (x.R a)=ww at ho
 try rw [how]
 have y6:=((H2.out.rd ht).ls hla).trans (ep some hca);have y7:=((H2.out.rd ht).ls hlb).trans (ep some hcb);have f6:=(H2.out.rd ht).lF r;have hlt:D.gl<W3.heap.size:=Has.D8 (g:=D.gl) (c:=D.cl) H2.out lO;have hne:=lN hlt;have gj:∀ w',Ext W3 w'→(w'.cell? ⟨D.bD,14,none⟩=some (.slice (some ⟨D.gl,0,none⟩) m.lists.length D.cl)∧w'.cell? ⟨D.gt,th*658+53,none⟩=some (Value.int .i64 (r:Int))):=fun w' e=>by have rr:=(H2.out.next e).rd ht;exact⟨(rr.bd 14).trans rfl,((rr.tr (i:=53) rfl).trans (show _=some (Value.int .i64 (r:Int)) from by rw [←hr]))⟩
 have gC:=gj W3 (bu W3);have hown:W3.ownsRow w0.heap.size 3 1 (.slice A li.length cp) li.length (li.map (Value.int .i64)):=hca▸H2.out.xG hla lY;have hrd:=Rd.fM (hcb▸H2.out.xG hlb hlo:W3.ownsRow w0.heap.size 3 1 (.slice B lo.length cq) lo.length (lo.map (Value.int .i64)));have hsz:=(Has.ext H2.out).size;have hone:∀ u∈lo.map (Value.int .i64),u.oneCell'=true:=by intro u hu;obtain⟨y,_,rfl⟩:=List.mem_map.1 hu;rfl
 go_wp2_with fail;refine tX (Ds (S:=fun w':World=>w'.cell? ⟨D.bD,14,none⟩=some (.slice (some ⟨D.gl,0,none⟩) m.lists.length D.cl)∧w'.cell? ⟨D.gt,th*658+53,none⟩=some (Value.int .i64 (r:Int))) K_ gC (fun hHeld=>?_));refine bn 0 ?_;refine bn 1 ?_;refine bn 2 ?_;refine bn 3 ?_;refine bn 4 ?_;refine bn 5 ?_;refine bn 6 ?_;refine bn 7 ?_;refine bn 8 ?_;refine bn 9 ?_;refine bn 10 ?_;refine bn 11 ?_;refine bn 12 ?_;refine bn 13 ?_;refine bn 14 ?_;refine bn 15 ?_;refine bn 16 ?_;refine bn 18 ?_;refine bn 19 ?_;refine bn 20 ?_;refine bn 21 ?_;refine bn 22 ?_;refine bn 23 ?_;refine qB (rs:= [17,24]) K_ S_ ?_;refine mA rfl (fun Kq cr=>?_) ?_
 ·go_simp
  refine cr.out _ _ (gj _ (bu W3).bh) (fun hHeld=>?_);refine eI 24 fun Kq cr=>?_
  exact T_9
 refine mA rfl (fun Kq cr=>?_) tH;go_simp;refine cr.out _ _ (gj _ (bu W3).bh) (fun hHeld=>?_);refine eI 17 fun Kq cr=>?_
 exact T_9
theorem Uv(h:aW D c th ov m x v vc vt vs lv w0 w F)(ht:th<ov.length)(hf:c.Ca≤(x.cache.length:Int))(_:x.cache.length<100)(hl:bz[tt]?=some l):
  jU 154 32 D th a b cc d tt w fun w'=>aW D c th ov m ({x with pc:=l}) v vc vt vs lv w0 w' F:=by
 obtain⟨A,cp,hca⟩:=aA h.Lc;have h2:aW D c th ov m x v vc vt vs lv w0 (w.alloc (.cells #[.int .i64 32,a,b,cc,d,tt] 236)) (ob w.heap.size 236 [.int .i64 32,a,b,cc,d,tt]::F):=h.alloc #[.int .i64 32,a,b,cc,d,tt] 236;have pD:=(h2.bd.1 11).trans (show _=some (.slice (some ⟨D.gt,0,none⟩) ov.length D.ct) from rfl);have dt:=jH ht;have qb:=(h2.af aj).1;go_enter func154,ntmps154;go_wp2_with fail;clear pD h;generalize (w.alloc (.cells #[.int .i64 32,a,b,cc,d,tt] 236))=W2 at h2 qb ⊢;clear qb;have r0:=h2.rd ht;have qb:=fun z:aL W2=>((h2.next z.ok).af aj).1
 have qc:=fun z:aL W2=>((h2.next z.ok).tr ht (hU (x,v))).trans (show _=some (.slice A x.cache.length cp) from ep some hca)
 have qa:=fun z:aL W2=>((h2.next z.ok).bd.1 4).trans (show _=some (.int .i64 c.Ca) from rfl)
 refine qE fun z1=>?_
 have h4:=h2.next z1.ok;clear qc qa qb r0 h2;generalize z1.world=W4 at h4 ⊢;go_wp2_with fail;have q9:=fun z:aL W4=>((h4.next z.ok).bd.1 9).trans (show _=some (.slice (some ⟨D.gb,0,none⟩) bz.length D.cb) from rfl)
 have ql:=fun z:aL W4=>(h4.next z.ok).cI hl
 have hto:=(fO.1 hl).1;generalize bz.length=nl at q9 hto;have fr:=fun z:aL W4=>(h4.next z.ok).jQ (th*658+2)
 have fc:=fun z:aL W4=>((h4.next z.ok).tr ht (i:=2) rfl).trans (show _=some (.int .i64 (x.pc:Int)) from rfl)
 have qb:=fun z:aL W4=>((h4.next z.ok).af aj).1
 have H4:=aJ h4;clear h4;refine qT 11 fun z2=>?_
 go_wp2_with fail;exact DL (v:=.tuple #[]) (results_none rfl _ _ _) rfl ⟨rfl,((H4.out.next z2.ok).oI ht l).drop⟩
theorem aW.blocks{g cp:Nat}{b:Nat}{t:TypeId}{cs:List Value}{k:Nat}(h:aW D c th ov m x v (.slice (some ⟨g,0,none⟩) m.calls.length cp) vt vs lv w0 w (ob b t cs::F))(_:m.calls[k]?=some y):g≠b:=fun e=>by
 unfold aW at h
 have h2:Has w0 w (ob b t cs::(jl D c th ov m x v (.slice (some ⟨g,0,none⟩) m.calls.length cp) vt vs lv++(fq x v++(fV lv m.lists++F)))):=by
  have:=h.perm (G:=ob b t cs::(jl D c th ov m x v (.slice (some ⟨g,0,none⟩) m.calls.length cp) vt vs lv++(fq x v++(fV lv m.lists++F)))) (by
   rw [←dH (fq x v),←dH (fq x v),←dH (jl ..),←dH (jl ..)];exact dV)
  exact this
 exact h2.other rfl (y:=dA g cp 119 9 m.calls.length (m.calls.flatMap Cl.enc)) xd (by rw [←e];rfl)
theorem aW.Qx{g cp k:Nat}(h:aW D c th ov m x v (.slice (some ⟨g,0,none⟩) m.calls.length cp) vt vs lv w0 w F)(_:m.calls[k]?=some y):D.gt≠g:=fun e=>by
 have h2:=Has.mid (A:= [_,_,_,_,_]) h;exact Has.other (h:=h2) (b:=D.gt) rfl (y:=dA g cp 119 9 m.calls.length (m.calls.flatMap Cl.enc)) lO (by rw [←e];rfl)
theorem Yw{α:Type}(l:List α)(i:Nat)(f g:α→α):(l.modify i f).modify i g=l.modify i (g∘f):=by
 refine wU fun j=>?_
 simp only [yq]
 by_cases h:i=j
 ·simp only [h,dL];cases l[j]?<;>rfl
 ·simp only [h,eu];cases l[j]?<;>rfl
theorem aW.af2{a:Nat}{d:Int}(hd:¬d=2)(h:aW D c th ov ((m.cK x.call fun y=>{y with en:=m.au}).cK x.call fun y=>{y with ak:=d}) ({x with busy:=false}:RT) v vc vt vs lv w0 w F):aW D c th ov (m.cK x.call fun y=>{y with en:=m.au,ak:=d,av:=if d=2 then wrap64 (x.R a) else y.av}) ({x with busy:=false}:RT) v vc vt vs lv w0 w F:=by
 unfold RM.cK at h ⊢;simp only [Yw] at h;simp only [aK hd];exact h
theorem aW.af1{a:Nat}{d:Int}(hd:d=2)(h:aW D c th ov (((m.cK x.call fun y=>{y with en:=m.au}).cK x.call fun y=>{y with ak:=d}).cK x.call fun y=>{y with av:=wrap64 (x.R a)}) ({x with busy:=false}:RT) v vc vt vs lv w0 w F):aW D c th ov (m.cK x.call fun y=>{y with en:=m.au,ak:=d,av:=if d=2 then wrap64 (x.R a) else y.av}) ({x with busy:=false}:RT) v vc vt vs lv w0 w F:=by
 unfold RM.cK at h ⊢;simp only [Yw] at h;simp only [aY hd];exact h
theorem Qh(h:aW D c th ov m x v vc vt vs lv w0 w F)(ht:th<ov.length)(ha:a<48)(hy:m.calls[x.call]?=some y):
  jU 148 14 D th a b cc d tt w fun w'=>∃ JQ,aW D c th ov (m.cK x.call fun y=>{y with en:=m.au,ak:=d,av:=if d=2 then wrap64 (x.R a) else y.av}) ({x with busy:=false}:RT) v JQ vt vs lv w0 w' F:=by
 obtain⟨M9,hM⟩:∃ M9,M9=(m.cK x.call fun y=>{y with en:=m.au,ak:=d,av:=if d=2 then wrap64 (x.R a) else y.av}):=⟨_,rfl⟩;rw [←hM];have HM:=aJ hM;clear hM;obtain⟨g,cp,rfl⟩:=h.call hy;have h2:aW D c th ov m x v _ vt vs lv w0 (w.alloc (.cells #[.int .i64 14,a,b,cc,d,tt] 236)) (ob w.heap.size 236 [.int .i64 14,a,b,cc,d,tt]::F):=h.alloc #[.int .i64 14,a,b,cc,d,tt] 236;have pD:=(h2.bd.1 11).trans (show _=some (.slice (some ⟨D.gt,0,none⟩) ov.length D.ct) from rfl);have dt:=jH ht;have qb:=(h2.af aj).1;go_enter func148,ntmps148;go_wp2_with fail;clear pD h;generalize (w.alloc (.cells #[.int .i64 14,a,b,cc,d,tt] 236))=W2 at h2 qb ⊢;clear qb;have r0:=h2.rd ht;clear r0;have qc:=fun z:aL W2=>((h2.next z.ok).bd.1 24).trans (show _=some (.slice (some ⟨g,0,none⟩) m.calls.length cp) from rfl)
 have qk:=fun z:aL W2=>((h2.next z.ok).tr ht (i:=1) rfl).trans (show _=some (.int .i64 (x.call:Int)) from rfl)
 have dk:x.call<m.calls.length:=(fO.1 hy).1;refine qE fun z1=>?_
 have h2:=h2.next z1.ok;clear qc qk;generalize z1.world=W3 at h2 ⊢;have a1:=(h2.bd.1 23).trans (show _=some (.int .i64 m.au) from rfl);have a2:=h2.cF (x.call*9+5);have a3:=(h2.cc hy (i:=5) rfl);have a4:=((h2.af aj).1 4).trans (show _=some (.int .i64 d) from rfl);have a5:=h2.cF (x.call*9+7);have a6:=(h2.cc hy (i:=7) rfl);have hne:g≠w.heap.size:=fun e=>h2.blocks hy e
 have Vf:=hne.symm;have h3:=h2.fU hy (f:=fun y=>{y with en:=m.au}) (i:=5) (u:=.int .i64 m.au) rfl O_;have hy3:(m.cK x.call fun y=>{y with en:=m.au}).calls[x.call]?=some ((fun y=>{y with en:=m.au}) y):=by show(m.calls.modify x.call _)[x.call]?=_;rw [N5,hy];rfl
 have h4:=h3.fU hy3 (f:=fun y=>{y with ak:=d}) (i:=7) (u:=.int .i64 d) rfl O_;have hy4:((m.cK x.call fun y=>{y with en:=m.au}).cK x.call fun y=>{y with ak:=d}).calls[x.call]?=some ((fun y=>{y with ak:=d}) ((fun y=>{y with en:=m.au}) y)):=by show((m.cK x.call _).calls.modify x.call _)[x.call]?=_;rw [N5,hy3];rfl
 have a7:=h2.jQ (th*658);have a8:=h2.tr ht (i:=0) rfl;have hgt:D.gt≠g:=h2.Qx hy;have ajd:=hgt.symm;rw [gn] at a8
 rcases(show((d==2)=false∧¬d=2)∨((d==2)=true∧d=2) by by_cases e:d=2<;>simp [e]) with ⟨d0,d1⟩ | ⟨d0,d1⟩
 ·have D1:=aJ d1
  clear d1;have h5:=h4.Af ht (sM x v false) (i:=0) O_ rfl;have H5:=aJ h5;clear h2 h3 h4 h5;go_wp2_with fail;have h7:=(aW.af2 (a:=a) D1.out H5.out).drop;rw [←HM.out] at h7;exact iP ⟨rfl,_,h7⟩
 ·have D1:=aJ d1
  clear d1;have H4:=aJ h4;clear h2 h3 h4;go_wp2_with fail;have h4:=H4.out;generalize ((W3.setCell ⟨g,x.call*9+5,none⟩ m.au).setCell ⟨g,x.call*9+7,none⟩ d)=W5 at h4 ⊢;clear H4 a1 a2 a3 a4 a5 a6 a7 a8;have qb:=fun z:aL W5=>((h4.next z.ok).af aj).1
  have ba:decide ((a:Int)<48)=true:=cM O_;have ra:=fun z:aL W5=>(h4.next z.ok).gm ht ha
  have fr:=fun z:aL W5=>(h4.next z.ok).cF (x.call*9+8)
  have fc:=fun z:aL W5=>(h4.next z.ok).cc hy4 (i:=8) rfl
  have ft:=fun z:aL W5=>(h4.next z.ok).jQ (th*658)
  have fu:=fun z:aL W5=>(h4.next z.ok).tr ht (i:=0) rfl
  simp only [gn] at fu;have H4:=aJ h4;clear h4;refine qT 12 fun z2=>?_
  go_wp2_with fail;have h5:=(H4.out.next z2.ok).fU hy4 (f:=fun y=>{y with av:=wrap64 (x.R a)}) (i:=8) (u:=.int .i64 (wrap64 (x.R a))) rfl O_;have h6:=h5.Af ht (sM x v false) (i:=0) O_ rfl;have h7:=(aW.af1 (a:=a) D1.out h6).drop;rw [←HM.out] at h7;exact iP ⟨rfl,_,h7⟩
theorem Gw{l:List Int}{i:Nat}{y:Int}(p:Int→Bool)(h:l[i]?=some y):(l.take (i+1)).filter p=(l.take i).filter p++if p y then [y] else []:=by
 rw [Fl,h]
 cases hp:p y<;>simp [hp]
theorem aW.ad1(h:aW D c th ov m x v vc vt vs lv w0 w F)(ht:th<ov.length):aW D c th ov m {x with pending:= []} {v with pd:=bG,pf:=bG,full:= []} vc vt vs lv w0 (w.setCell ⟨D.gt,th*658+55,none⟩ bG) F:=
 jW (show Has w0 w (jl D c th ov m x v vc vt vs lv++(fq {x with pending:= []} {v with pd:=bG,pf:=bG,full:= []}++(fV lv m.lists++F))) from uV (A:=jl D c th ov m x v vc vt vs lv++ [eH v.bk x.back,eH v.ca x.cache,eH v.nm x.names]) h) ht (rj x v [] bG bG []) O_
theorem aW.T8(h:aW D c th ov m x v vc vt vs lv w0 w F):w.ownsRow w0.heap.size 3 1 v.pf v.full.length (v.full.map (Value.int .i64)):=jy h (bX (A:=jl D c th ov m x v vc vt vs lv) lA)
theorem aW.X7{v1:Value}(h:aW D c th ov m x v vc vt vs lv w0 w F)(ht:th<ov.length){r:Int}(ho:w'.ownsRow w0.heap.size 3 1 v1 (v.full.length+1) (v.full.map (Value.int .i64)++ [.int .i64 r]))(hg:w.grownBy w' v.pf.ownBlock)(hb:v1.ownBlock=v.pf.ownBlock∨∃ q,v1.ownBlock=some q∧w.heap.size≤q)(l0:List Int):
  Oq D c th ov m x v vc vt vs lv F w'∧aW D c th ov m {x with pending:=l0} {v with pd:=v1,pf:=v1,full:=v.full++ [r]} vc vt vs lv w0 (w'.setCell ⟨D.gt,th*658+55,none⟩ v1) F:=by
 have h2:=Has.grow (A:=jl D c th ov m x v vc vt vs lv++ [eH v.bk x.back,eH v.ca x.cache,eH v.nm x.names]) (v':=v1) (m:=(v.full++ [r]).length) (us':=(v.full++ [r]).map (Value.int .i64)) h (by rw [gP,jI];exact ho) hg hb;have h3:Has w0 w' (jl D c th ov m x v vc vt vs lv++(fq {x with pending:=l0} {v with pd:=v1,pf:=v1,full:=v.full++ [r]}++(fV lv m.lists++F))):=h2;refine⟨zq (A:=fq {x with pending:=l0} {v with pd:=v1,pf:=v1,full:=v.full++ [r]}++fV lv m.lists) (by rw [dH];exact h3) ht,jW h3 ht (rj x v l0 v1 v1 _) O_⟩
theorem aW.aal{u1 v1:Value}{l l':List Int}(h:aW D c th ov m x v vc vt vs lv w0 w (eH u1 l::F))(ho:w'.ownsRow w0.heap.size 3 1 v1 l'.length (l'.map (Value.int .i64)))(hg:w.grownBy w' u1.ownBlock)(hb:v1.ownBlock=u1.ownBlock∨∃ q,v1.ownBlock=some q∧w.heap.size≤q):aW D c th ov m x v vc vt vs lv w0 w' (eH v1 l'::F):=
 h.rest fun A h=>Has.grow (A:=A) h ho hg hb
theorem aW.ad2(h:aW D c th ov m x v vc vt vs lv w0 w F):aW D c th ov m x v vc vt vs lv w0 w (eH bG []::F):=h.rest fun _ h=>(Has.nil h 3 1).back
theorem aW.T9{u1:Value}{l:List Int}(h:aW D c th ov m x v vc vt vs lv w0 w (eH u1 l::F)):w.ownsRow w0.heap.size 3 1 u1 l.length (l.map (Value.int .i64)):=jy h (bX (A:=jl D c th ov m x v vc vt vs lv) (bX (A:=fq x v) (bX (A:=fV lv m.lists) aj)))
theorem aW.aam{u1:Value}{l l':List Int}(h:aW D c th ov m x v vc vt vs lv w0 w (eH u1 l'::F)){r:Nat}{a:Value}(ha:lv[r]?=some a)(hr:m.lists[r]?=some l):
  aW D c th ov {m with lists:=m.lists.set r l'} x v vc vt vs (lv.set r u1) w0 (w.setCell ⟨D.gl,r,none⟩ u1) F:=by
 obtain⟨A,B,e,f⟩:=lU ha hr;unfold aW at h;rw [e] at h
 have h3:Has w0 w (jl D c th ov m x v vc vt vs lv++(fq x v++((A++eH u1 l'::B)++F))):=by
  have p:(jl D c th ov m x v vc vt vs lv++(fq x v++((A++eH a l::B)++eH u1 l'::F))).Perm (eH a l::(jl D c th ov m x v vc vt vs lv++(fq x v++((A++eH u1 l'::B)++F)))):=by
   simp only [dH,kY];rw [←dH (fq x v),←dH (jl ..),←dH (fq x v),←dH (jl ..)];refine dV.trans (mU _ (ue _ ?_));exact dV
  exact(h.perm p).drop
 have h4:=Has.fD (A:= [_,_,_,_,_,_,_,_]) h3 r u1;exact abr
def Wx(D:Dk)(c:Cf)(th:Nat)(ov:List (RT×Tv))(m:RM)(x:RT)(v:Tv)(vc vt vs:Value)(lv:List Value)(w0 w:World)(F:List En)(l:List Int)(i:Nat)(pa ka:Value):Prop:=
 aW D c th ov m {x with pending:=(l.take i).filter (fun y=>!(decide (y∈x.names)))} {v with pd:=pa,pf:=pa,full:=(l.take i).filter (fun y=>!(decide (y∈x.names)))} vc vt vs lv w0 w (eH ka ((l.take i).filter (fun y=>decide (y∈x.names)))::F)
theorem EM(h:aW D c th ov m x v vc vt vs lv w0 w F)(ht:th<ov.length)(hlv:lv.length=m.lists.length){r:Nat}(hr:x.rc=(r:Int)){li:List Int}(lY:m.lists[r]?=some li)(hb:li.length<10000000)(hbn:x.names.length<10000000):
  cm 161 #[some D.bD,.pointer (some ⟨D.gt,th*658,none⟩)] w (.tuple #[]) fun w'=>∃ v' FW,FW.length=m.lists.length∧kL {x with pending:=li.filter (fun y=>!(decide (y∈x.names)))} v'∧
   aW D c th ov {m with lists:=m.lists.set r (li.filter (fun y=>decide (y∈x.names)))} {x with pending:=li.filter (fun y=>!(decide (y∈x.names)))} v' vc vt vs FW w0 w' F:=by
 have hrl:=(fO.1 lY).1;obtain⟨la,hla⟩:∃ la,lv[r]?=some la:=⟨lv[r],fy O_⟩;obtain⟨A,cp,hca⟩:=aA (h.xG hla lY);obtain⟨A2,c2,hnm⟩:=aA h.Pb;have p1:=h.jQ (th*658+55);have p2:=h.tr ht (kS (x,v));have h1:=h.ad1 ht;obtain⟨n,hn⟩:∃ n,x.names.length=n:=⟨_,rfl⟩;obtain⟨k,hk⟩:∃ k,li.length=k:=⟨_,rfl⟩;rw [hk] at hca hb;rw [hn] at hnm hbn;have Hn:=aJ hn;have Hk:=aJ hk;clear hn hk h;go_enter func161,ntmps161;go_wp2_with fail;generalize (w.setCell ⟨D.gt,th*658+55,none⟩ bG)=W1 at h1 ⊢;clear p1 p2;have ql:=fun z:aL W1=>((h1.next z.ok).bd.1 14).trans (show _=some (.slice (some ⟨D.gl,0,none⟩) m.lists.length D.cl) from rfl)
 have qr:=fun z:aL W1=>((h1.next z.ok).tr ht (i:=53) rfl).trans (show _=some (Value.int .i64 (r:Int)) from by rw [←hr])
 have qli:=fun z:aL W1=>(((h1.next z.ok).rd ht).ls hla).trans (ep some hca)
 have H1:=aJ h1;have Hli:=aJ lY;clear h1 lY;refine qE fun k1=>?_
 have H2:Hid (Wx D c th ov m x v vc vt vs lv w0 k1.world F li 0 bG bG):=aJ ((H1.out.next k1.ok).ad2);generalize k1.world=W2 at H2 ⊢;clear ql qr qli H1;go_wp2
 go_loopw [4,24] (fun s4 s24 wr=>∃ (i:Nat) (pa ka:Value),i≤k∧ka=s4∧s24=.int .i64 i∧Hid (Wx D c th ov m x v vc vt vs lv w0 wr F li i pa ka)) (fun _ s _=>k - (intOf s).toNat)
 case atStart=>exact⟨0,_,_,O_,rfl,rfl,H2⟩
 case round=>
  obtain⟨i,pa,ka,hi,rfl,rfl,HI⟩:=hrel;have hI:=HI.out;unfold Wx at hI;obtain⟨kl,hkl⟩:∃ kl,(li.take i).filter (fun y=>decide (y∈x.names))=kl:=⟨_,rfl⟩;obtain⟨pl,uA⟩:∃ pl,(li.take i).filter (fun y=>!(decide (y∈x.names)))=pl:=⟨_,rfl⟩;have hkn:kl.length<10000000:=by rw [←hkl];have:=Dz (fun y=>decide (y∈x.names)) (li.take i);rw [Fj,Hk.out] at this;omega
  have hpn:pl.length<10000000:=by rw [←uA];have:=Dz (fun y=>!(decide (y∈x.names))) (li.take i);rw [Fj,Hk.out] at this;omega
  rw [hkl,uA] at hI;obtain⟨V,hV⟩:∃ V,V=wr:=⟨_,rfl⟩;rw [←hV] at hI ⊢;clear hV HI
  by_cases hlt:i<k
  ·obtain⟨y,hy⟩:∃ y,li[i]?=some y:=⟨_,fy (by rw [Hk.out];exact hlt)⟩
   obtain⟨g,c0,hA,hmc⟩:=bf (hI.xG hla Hli.out) (by rw [Hk.out];omega);rw [hca,Hk.out] at hA;injection hA with Ml hA2 hA3;subst Ml hA3;have qe:=qJ (g:=g) (cp:=cp) hI (Ce hla Hli.out) (by rw [hca,Hk.out]) hy;have q6:=(hI.tr ht (uF (_,_))).trans (show _=some (.slice A2 n c2) from ep some hnm)
   have qn:∀ (j:Nat) (z:Int),x.names[j]?=some z→∃ g2,A2=some ⟨g2,0,none⟩∧V.cell? ⟨g2,j,none⟩=some (.int .i64 z):=fun j z hz=>by
    obtain⟨g2,c3,e,_⟩:=bf hI.Pb (by have:=(fO.1 hz).1;show 0<x.names.length;omega);have e2:v.nm=.slice (some ⟨g2,0,none⟩) n c3:=by rw [←Hn.out];exact e
    rw [hnm] at e2;injection e2 with e3 e4 e5;exact⟨g2,e3,hI.atN (g:=g2) (cp:=c2) (by rw [hnm,e3,←Hn.out]) hz⟩
   obtain⟨A3,c3,rfl⟩:=aA hI.T9;obtain⟨A4,c4,e3⟩:=aA (show V.ownsRow w0.heap.size 3 1 pa pl.length (pl.map (Value.int .i64)) from hI.T8);subst e3;have nS:=aJ hI;have Hy:=aJ hy;have QW:=aJ hkl;have On:=aJ uA;have Hqn:Hid (∀ (j:Nat) (z:Int),x.names[j]?=some z→∃ g2,A2=some ⟨g2,0,none⟩∧V.cell? ⟨g2,j,none⟩=some (.int .i64 z)):=aJ qn;clear hy hkl uA hI qn;go_wp2
   go_loopw [7,33] (fun s7 s33 wr=>∃ j:Nat,wr=V∧j≤n∧s33=.int .i64 j∧s7=.bool (decide (y∈x.names.take j))) (fun _ s _=>n - (intOf s).toNat)
   case atStart=>exact⟨0,rfl,O_,rfl,S_⟩
   case round=>
    obtain⟨j,LV,hj,rfl,rfl⟩:=hrel;have DG:=LV.symm;clear LV;subst DG
    by_cases hjn:j<n
    ·obtain⟨z,hz⟩:∃ z,x.names[j]?=some z:=⟨_,fy (by rw [Hn.out];exact hjn)⟩
     obtain⟨g2,rfl,qz⟩:=Hqn.out _ _ hz
     have By:decide (y∈x.names.take (j+1))=(decide (y∈x.names.take j) || (z==y)):=by
      rw [Fl,hz]
      by_cases e1:y∈x.names.take j
      ·simp [e1]
      ·by_cases e2:z=y
       ·simp [e1,e2]
       ·simp [e1,e2,iS e2]
     have Hnx:=aJ By;have Hz:=aJ hz;clear By hz;obtain⟨q,hq⟩:∃ q,decide (y∈x.names.take j)=q:=⟨_,rfl⟩;rw [hq] at Hnx ⊢;have Hq:=aJ hq;clear hq
     cases q
     all_goals
      go_wp2
      go_roundw
      case rel=>exact⟨j+1,by first | rfl | trivial,O_,by go_num,by rw [Hnx.out];rfl⟩
      case measure=>simp [intOf];omega
    ·obtain rfl:n=j:=O_
     rw [Bj (by rw [Hn.out];exact bZ _)];have WE:=(Has.ext nS.out).size;have Fp:Rd (V.alloc (.cells #[y] 3)) (some ⟨V.heap.size,0,none⟩) [y]:=Rd.made V [y] 3;have nh:∀ u∈([y]:List Value),u.oneCell'=true:=by intro u hu;simp at hu;rw [hu];rfl
     clear qe q6
     by_cases hin:y∈x.names
     ·rw [cM hin]
      have NW:=aJ hin;clear hin;have mK:=nS.out.T9;go_wp2_with (at_builtin;refine cN _ rfl (.tmp 45) (.tmp 47) 40 rfl w0.heap.size 3 1 8 jT underlying40 (.slice A3 kl.length c3) kl.length _ (by simp [Act.eval]) (dB mK ((bu _).aE _)) (some ⟨V.heap.size,0,none⟩) 1 1 [y] (by simp [Act.eval]) rfl Fp nh O_ (by simp;omega) ?_;intro v' w2 bV bl fk);have h3:=nS.out.aal (v1:=v') (l':=kl++ [y]) (by rw [gP,jI];exact bV) (aD bl) (fk.imp id fun e=>⟨_,e,S_⟩);have hK:(li.take (i+1)).filter (fun y=>decide (y∈x.names))=kl++ [y]:=by rw [Gw _ Hy.out,QW.out,cM NW.out];rfl
      have hP:(li.take (i+1)).filter (fun y=>!(decide (y∈x.names)))=pl:=by rw [Gw _ Hy.out,On.out,cM NW.out];simp
      have H3:Hid (Wx D c th ov m x v vc vt vs lv w0 w2 F li (i+1) (.slice A4 pl.length c4) v'):=aJ (by
       unfold Wx;rw [hK,hP];exact h3)
      clear h3 hK hP bV bl fk mK Fp nh;exact Wh
     ·rw [dy hin]
      have NW:=aJ hin;clear hin;have mK:V.ownsRow w0.heap.size 3 1 (.slice A4 pl.length c4) pl.length (pl.map (Value.int .i64)):=nS.out.T8;have q7:=nS.out.tr ht (kS (_,_));have f7:=nS.out.jQ (th*658+55);have l7:D.gt<V.heap.size:=Has.D8 (g:=D.gt) (c:=D.ct) nS.out oJ;have n7:=lN l7;go_wp2_with (at_builtin;refine cN _ rfl (.tmp 53) (.tmp 55) 40 rfl w0.heap.size 3 1 8 jT underlying40 (.slice A4 pl.length c4) pl.length _ (by simp [Act.eval]) (dB mK ((bu _).aE _)) (some ⟨V.heap.size,0,none⟩) 1 1 [.int .i64 y] (by simp [Act.eval]) rfl Fp nh O_ (by simp;omega) ?_;intro v' w2 bV bl fk;obtain⟨r3,h3⟩:=nS.out.X7 ht (r:=y) bV (aD bl) (fk.imp id fun e=>⟨_,e,S_⟩) (pl++ [y]);have kk:=r3.tr (kS (_,_));have ff:=r3.tF (th*658+55);obtain⟨g5,c5,rfl,_,_,_⟩:=bf bV O_);have hK:(li.take (i+1)).filter (fun y=>decide (y∈x.names))=kl:=by rw [Gw _ Hy.out,QW.out,dy NW.out];simp
      have hP:(li.take (i+1)).filter (fun y=>!(decide (y∈x.names)))=pl++ [y]:=by rw [Gw _ Hy.out,On.out,dy NW.out];rfl
      have H3:Hid (Wx D c th ov m x v vc vt vs lv w0 (w2.setCell ⟨D.gt,th*658+55,none⟩ (.slice (some ⟨g5,0,none⟩) (pl.length+1) c5)) F li (i+1) (.slice (some ⟨g5,0,none⟩) (pl.length+1) c5) (.slice A3 kl.length c3)):=aJ (by
       unfold Wx;rw [hK,hP];exact h3)
      clear h3 hK hP bV bl fk mK Fp nh kk ff;exact Wh
  ·obtain rfl:k=i:=O_
   rw [Bj (by rw [Hk.out];exact bZ _)] at hkl uA;have QW:=aJ hkl;have On:=aJ uA;have qr:=fun z:aL V=>((hI.next z.ok).tr ht (i:=53) rfl).trans (show _=some (Value.int .i64 (r:Int)) from by rw [←hr])
   have ql:=fun z:aL V=>((hI.next z.ok).bd.1 14).trans (show _=some (.slice (some ⟨D.gl,0,none⟩) m.lists.length D.cl) from rfl)
   have qli:=fun z:aL V=>((hI.next z.ok).rd ht).ls hla
   have qf:=fun z:aL V=>((hI.next z.ok).rd ht).lF r
   obtain⟨A3,c3,rfl⟩:=aA hI.T9;have nS:=aJ hI;clear hI hkl uA;go_wp2_with fail;refine bU (Ext V) 10 (bu _).bh K_ K_ ?_;simp only [rR,rP,rQ,rO]
   repeat (go_big_quiet_step (fail))
   refine qA ?_;rintro _ ⟨k2,rfl⟩;have h4:=(nS.out.next k2.ok).aam hla Hli.out;have h5:=aJ h4;clear h4;go_wp2_with fail;have HP:V.ownsRow w0.heap.size 3 1 pa pl.length (pl.map (Value.int .i64)):=nS.out.T8;refine iP ⟨rfl,{v with pd:=pa,pf:=pa,full:=pl},lv.set r (.slice A3 kl.length c3),(cW ..).trans hlv,?_,?_⟩
   ·rw [On.out]
    rcases HP.2 with ⟨h1,h0⟩ | ⟨g,cap,cur,hv,_,_,hc,_⟩
    ·have e0:pl= []:=N6.1 h0
     exact .inl ⟨e0,e0,h1,h1⟩
    ·exact .inr ⟨g,0,0,cap,hv,hc,nU _,rfl,fun _=>rfl,by simpa using hv⟩
   ·rw [QW.out,On.out]
    exact h5.out
end
section
variable{D:Dk}{c:Cf}{th:Nat}{ov:List (RT×Tv)}{m m':RM}{x x':RT}{v v':Tv}{vc vt vs:Value}{lv:List Value}{w0 w w':World}{F:List En}{p:Nat}{i:eJ}{y:Cl}{P:Program}{f:FuncId}{args:Array Value}
theorem Dt.drop{e:En}(h:Dt D c th ov m x w0 w (e::F)):Dt D c th ov m x w0 w F:=by
 obtain⟨v,vc,vt,vs,lv,a,b,h⟩:=h;exact⟨v,vc,vt,vs,lv,a,b,h.drop⟩
def LQ(D:Dk)(c:Cf)(th:Nat)(ov:List (RT×Tv))(m:RM)(x:RT)(w0:World)(F:List En):Ending→World→Prop:=fun e w'=>e=.returned (.tuple #[])∧Dt D c th ov m x w0 w' F
theorem nE(hlv:lv.length=m'.lists.length)(jL:kL x' v)(C:Calls P f args w fun e w'=>e=.returned (.tuple #[])∧aW D c th ov m' x' v vc vt vs lv w0 w' F):Calls P f args w (LQ D c th ov m' x' w0 F):=C.mono fun _ _ h=>⟨h.1,v,vc,vt,vs,lv,hlv,jL,h.2⟩
theorem O8(jL:kL x v)(hx:x'.pending=x.pending)(hv:v'.pd=v.pd∧v'.pf=v.pf∧v'.full=v.full):kL x' v':=by
 unfold kL at*;rw [hx,hv.1,hv.2.1,hv.2.2];exact jL
theorem Ud(hlv:lv.length=m'.lists.length)(jL:kL x v)(hx:x'.pending=x.pending)(C:Calls P f args w fun e w'=>e=.returned (.tuple #[])∧∃ v',(v'.pd=v.pd∧v'.pf=v.pf∧v'.full=v.full)∧aW D c th ov m' x' v' vc vt vs lv w0 w' F):Calls P f args w (LQ D c th ov m' x' w0 F):=
 C.mono fun _ _ ⟨h,v',a,b⟩=>⟨h,v',vc,vt,vs,lv,hlv,O8 jL hx a,b⟩
theorem ofC(hlv:lv.length=m'.lists.length)(jL:kL x' v)(C:Calls P f args w fun e w'=>e=.returned (.tuple #[])∧∃ JQ,aW D c th ov m' x' v JQ vt vs lv w0 w' F):Calls P f args w (LQ D c th ov m' x' w0 F):=C.mono fun _ _ ⟨h,JQ,b⟩=>⟨h,v,JQ,vt,vs,lv,hlv,jL,b⟩
theorem ofS(hlv:lv.length=m'.lists.length)(jL:kL x' v)(C:Calls P f args w fun e w'=>e=.returned (.tuple #[])∧∃ vs',aW D c th ov m' x' v vc vt vs' lv w0 w' F):Calls P f args w (LQ D c th ov m' x' w0 F):=C.mono fun _ _ ⟨h,vs',b⟩=>⟨h,v,vc,vt,vs',lv,hlv,jL,b⟩
theorem ofL(hm:m.lists.length=m'.lists.length)(jL:kL x' v)(C:Calls P f args w fun e w'=>e=.returned (.tuple #[])∧∃ FW,FW.length=m.lists.length∧aW D c th ov m' x' v vc vt vs FW w0 w' F):Calls P f args w (LQ D c th ov m' x' w0 F):=C.mono fun _ _ ⟨h,FW,a,b⟩=>⟨h,v,vc,vt,vs,FW,a.trans hm,jL,b⟩
theorem vE{l:List Int}{z:Int}(h:l.getLast?=some z):∃ k,l.length=k+1∧l[k]?=some z∧l.dropLast=l.take k:=by
 obtain⟨t,rfl⟩:=GU.1 h;exact⟨t.length,S_,S_,S_⟩
theorem om{r:Nat}{l:List Int}(h:m.lists[r]?=some l):m.bQ (r:Int)=l:=by
 unfold RM.bQ;rw [mW,kO,h]
 rfl
theorem QV{l:List (List Int)}{r:Nat}{y:List Int}(h:l[r]?=some y):y.length≤tW l:=by
 have:=NR (l:=l) (i:=r);rw [kO,h] at this;exact this
theorem zS(hc:aI[p]?=some i):(i.k=10∨i.a<48)∧i.b<48∧i.c<48∧i.d.toNat<48∧-1≤i.d∧i.d<48∧(i.k≤3→i.b≤13)∧(i.k=46→1≤i.b∧i.b≤13)∧(i.k=3→0≤i.d):=by
 have st:=ry AN hc;simp only [chk,wT,Bool.or_eq_true,decide_eq_true_eq,beq_iff_eq,Bool.not_eq_true',decide_eq_false_iff_not,gp] at st;obtain⟨⟨⟨⟨⟨⟨⟨⟨⟨⟨ha,hb⟩,IU⟩,hd⟩,_⟩,_⟩,h3⟩,h46⟩,d1⟩,d2⟩,d3⟩:=st;exact⟨ha,hb,IU,hd,O_,O_,fun e=>by rcases h3 with h | h<;>omega,fun e=>by rcases h46 with h | h<;>omega,fun e=>by rcases d3 with h | h<;>omega⟩
theorem Aq(hc:aI[p]?=some i):bz[i.ag]?=some (cI i.ag):=by
 have hm:=nV hc;have h1:=Dv.1 PO _ hm;have h2:=of_decide_eq_true (Dv.1 LI _ hm);have h1:=beq_iff_eq.1 h1;rw [←h1,kO,fy h2]
 rfl
theorem Dr:∀ l:List Int,l.length≤Bd l
 | []=>nU _
 | x::l=>by
  have:=Dr l;unfold Bd at*;simp only [rU,List.sum_cons,ij];omega
theorem K8(h:kL x v)(hx:x.pending= []):∃ A q,v.pd=.slice A 0 q:=by
 rcases h with ⟨_,_,h,_⟩ | ⟨g,k,k',cp,_,_,_,h1,_,h2⟩
 ·exact⟨_,_,h⟩
 ·rw [hx] at h1
  have:=ep List.length h1;simp only [mB,List.length_drop] at this;rw [←this] at h2;exact⟨_,_,h2⟩
theorem Iq(h:kL x v){z:Int}{l:List Int}(hx:x.pending=z::l):∃ g k n q cp:Nat,v.pd=.slice (some ⟨g,k,none⟩) (n+1) q∧n+1≤q∧v.pf=kN g v.full.length cp∧v.full[k]?=some z∧(∀ (k1 q1:Nat),(n≠0→k1=k+1)→(q1=q - 1→kL {x' with pending:=l} {v with pd:=.slice (some ⟨g,k1,none⟩) n q1}))∧n=l.length:=by
 rcases h with ⟨h,_⟩ | ⟨g,k,k',cp,h1,h2,h3,h4,h5,h6⟩
 ·rw [hx] at h;cases h
 ·rw [hx] at h4
  have e:=ep List.length h4;simp only [ij,List.length_drop] at e;have hk:=h5 O_;subst hk
  have h7:v.full.drop (k'+1)=l:=by
   rw [←List.tail_drop,←h4];rfl
  refine⟨g,k',l.length,cp - k',cp,by rw [h6,←e],O_,h1,?_,fun k1 q1 vI pY=>?_,rfl⟩
  ·have:=ep (·[0]?) h4
   exact Sr
  ·exact .inr ⟨g,k'+1,k1,cp,h1,h2,by show k'+1≤v.full.length;omega,h7.symm,fun h=>vI (by have h:k'+1<v.full.length:=h;omega),by show _=Value.slice _ (v.full.length - (k'+1)) (cp - (k'+1));rw [pY,show v.full.length - (k'+1)=l.length from O_,show cp - (k'+1)=cp - k' - 1 from O_]⟩
structure Gi(D:Dk)(c:Cf)(th:Nat)(ov:List (RT×Tv))(m:RM)(x:RT)(v:Tv)(vc vt vs:Value)(lv:List Value)(w0 w:World)(F:List En)(y:Cl):Prop where
 h:aW D c th ov m x v vc vt vs lv w0 w F
 ht:th<ov.length
 hlv:lv.length=m.lists.length
 jL:kL x v
 B:Bm c m
 X:Bx c x
 hy:m.calls[x.call]?=some y
 hP:iM m+fJ x<5000000
theorem fw(G:Gi D c th ov m x v vc vt vs lv w0 w F y)(hp:x.pc<1000){a b cc tt:Nat}{d:Int}{k:Int}(hk:k=10∨(30≤k∧k≤45)∨k=52∨k=53)
  (C:∀ w2 bb,aW D c th ov m {x with pc:=x.pc+1} v vc vt vs lv w0 w2 (ob bb 236 [k,a,b,cc,d,tt]::F)→Calls prog 154 #[some D.bD,th,.agg #[k,a,b,cc,d,tt]] w2 (LQ D c th ov m' x' w0 (ob bb 236 [k,a,b,cc,d,tt]::F))):
  Calls prog 136 #[some D.bD,th,.agg #[k,a,b,cc,d,tt]] w (LQ D c th ov m' x' w0 F):=
 PG G.h G.ht hp hk fun w2 bb h2=>(C w2 bb h2).mono fun _ _ h=>⟨h.1,h.2.drop⟩
theorem fwE(G:Gi D c th ov m x v vc vt vs lv w0 w F y)(hp:x.pc<1000){a b cc tt:Nat}{d:Int}(ha:a<48):
  Calls prog 136 #[some D.bD,th,.agg #[.int .i64 14,a,b,cc,d,tt]] w (LQ D c th ov (m.cK x.call fun y=>{y with en:=m.au,ak:=d,av:=if d=2 then wrap64 (x.R a) else y.av}) {x with pc:=x.pc+1,busy:=false} w0 F):=
 PJ (P:=fun w'=>Dt D c th ov (m.cK x.call fun y=>{y with en:=m.au,ak:=d,av:=if d=2 then wrap64 (x.R a) else y.av}) {x with pc:=x.pc+1,busy:=false} w0 w' F) G.h G.ht hp fun w2 bb h2=>by
  have C:=Qh (b:=b) (cc:=cc) (tt:=tt) (d:=d) h2 G.ht ha G.hy;refine C.mono ?_;rintro e w' ⟨e1,JQ,q⟩;exact⟨e1,v,JQ,vt,vs,lv,G.hlv,G.jL,q.drop⟩
theorem IC(G:Gi D c th ov m x v vc vt vs lv w0 w F y)(hi:aI[x.pc]?=some i)(hl:loc c cI th i m {x with pc:=x.pc+1}=some (m',x')):
  Calls prog 136 #[some D.bD,th,.agg #[.int .i64 (i.k:Int),.int .i64 (i.a:Int),.int .i64 (i.b:Int),.int .i64 (i.c:Int),i.d,.int .i64 (i.ag:Int)]] w (LQ D c th ov m' x' w0 F):=by
 obtain⟨ra,rb,rc,rd,d1,d2,_,KN,_⟩:=zS hi;have tl:=Aq hi;have hp:x.pc<1000:=by have:=(fO.1 hi).1;rw [lG] at this;omega
 obtain⟨k,a,b,cc,d,tt⟩:=i;simp only at ra rb rc rd d1 d2 KN tl ⊢;have h:=G.h;have ht:=G.ht;have hlv:=G.hlv;have jL:=G.jL;have ok:=G.B.ok;have hR:=G.X.R;have hP:=G.hP;have Ay:=G.B.mv;have fG:kL {x with pc:=x.pc+1} v:=jL;obtain⟨_,_,o1,o2,o3,o4,_,_,o5,o6,_,_,o7,o8⟩:=id ok;have hRH:0≤c.R*c.H∧c.R*c.H≤16*8:=⟨wX O_ O_,ua O_ O_ O_ O_⟩;have qX:∀ r:Nat,(r:Int)<c.R→∃ li,m.lists[r]?=some li:=fun r hr=>⟨_,fy (by have:=G.B.li;omega)⟩
 have hLs:∀ {r:Nat} {li:List Int},m.lists[r]?=some li→li.length<5000000:=fun hr=>by have:=QV hr;unfold iM at hP;omega
 have hbk:x.back.length<10000000:=by have:=Dr x.back;unfold fJ at hP;omega
 unfold loc at hl
 split at hl
 all_goals (rename_i hk;simp only at hk;try subst hk)
 all_goals try simp only at hl
 case h_1=>
  obtain⟨rfl,rfl⟩:=j4 hl;exact fw G hp O_ fun w2 bb h2=>nE hlv fG (YQ h2 ht)
 case h_2=>
  obtain⟨rfl,rfl⟩:=j4 hl;exact nE hlv fG (Ze h ht hp tl)
 case h_3=>
  obtain⟨rfl,rfl⟩:=j4 hl;exact Ud hlv jL rfl (Zd h ht hp (hbk) tl)
 case h_4=>
  split at hl
  ·cases hl
  ·rename_i r hr
   try simp only at hr
   obtain⟨rfl,rfl⟩:=j4 hl;obtain⟨k,k1,k2,k3⟩:=vE hr;have hb:=G.X.bk r (JJ hr);obtain⟨z,rfl⟩:∃ z:Nat,r=(z:Int):=⟨r.toNat,O_⟩;rw [k3,mW];exact Ud hlv jL rfl (Zc h ht hp k1 (by have:=(hbk);omega) k2)
 case h_5=>
  obtain⟨rfl,rfl⟩:=j4 hl;exact fwE G hp O_
 case h_6=>
  obtain⟨rfl,rfl⟩:=j4 hl;exact nE hlv fG (Zb h ht hp O_)
 case h_7=>
  obtain⟨rfl,rfl⟩:=j4 hl;exact nE hlv fG (Za h ht hp O_ rb)
 case h_8=>
  obtain⟨rfl,rfl⟩:=j4 hl;exact nE hlv fG (Y9 h ht hp O_ rb)
 case h_9=>
  obtain⟨rfl,rfl⟩:=j4 hl;exact nE hlv fG (Y8 h ht hp O_ rb hR)
 case h_11=>
  obtain⟨rfl,rfl⟩:=j4 hl;exact nE hlv fG (Y6 h ht hp O_ rb hR)
 case h_12=>
  obtain⟨rfl,rfl⟩:=j4 hl;exact nE hlv fG (Y5 h ht hp O_ rb hR)
 case h_10=>
  split at hl
  ·rename_i hg
   obtain⟨rfl,rfl⟩:=j4 hl;exact nE hlv fG (Y7 h ht hp O_ rb hg)
  ·cases hl
 case h_13=>
  split at hl
  ·rename_i hg
   obtain⟨rfl,rfl⟩:=j4 hl;exact nE hlv fG (Y4 h ht hp O_ rb rc hR hg)
  ·cases hl
 case h_14=>
  obtain⟨rfl,rfl⟩:=j4 hl;exact nE hlv (by unfold RT.jump;split<;>exact fG) (Y3 h ht hp O_ hR tl)
 case h_15=>
  obtain⟨rfl,rfl⟩:=j4 hl;exact nE hlv (by unfold RT.jump;split<;>exact fG) (Y2 h ht hp O_ hR tl)
 case h_16=>
  obtain⟨rfl,rfl⟩:=j4 hl;exact nE hlv (by unfold RT.jump;split<;>exact fG) (Y1 h ht hp O_ rb tl)
 case h_17=>
  obtain⟨rfl,rfl⟩:=j4 hl;exact nE hlv (by unfold RT.jump;split<;>exact fG) (Y0 h ht hp O_ rb tl)
 case h_18=>
  obtain⟨rfl,rfl⟩:=j4 hl;exact ofC hlv fG (YZ h ht hp G.hy Ay)
 case h_19=>
  obtain⟨rfl,rfl⟩:=j4 hl;exact ofC hlv fG (YY h ht hp O_ G.hy)
 case h_20=>
  obtain⟨rfl,rfl⟩:=j4 hl;exact nE hlv fG (YX h ht hp O_ Ay)
 case h_21=>
  split at hl
  ·rename_i hg
   obtain⟨rfl,rfl⟩:=j4 hl;obtain⟨z,hz⟩:∃ z:Nat,wrap64 (x.R a)=(z:Int):=⟨(wrap64 (x.R a)).toNat,by have:=hg.1;omega⟩;have hst:=G.B.st;have hho:=G.B.ho;obtain⟨fs,xj⟩:∃ f,m.states[z]?=some f:=⟨_,fy (by have:=hg.2;omega)⟩;obtain⟨fh,Og⟩:∃ f,m.bS[z]?=some f:=⟨_,fy (by have:=hg.2;omega)⟩;rw [show wrap64 (({x with pc:=x.pc+1}:RT).R a)=(z:Int) from hz];exact fw G hp O_ fun w2 bb h2=>ofS hlv fG (YP h2 ht O_ hz xj Og (by unfold iM at hP;omega))
  ·cases hl
 case h_22=>
  split at hl
  ·rename_i hr
   simp only [N8] at hr;obtain⟨rfl,rfl⟩:=j4 hl;exact fw G hp O_ fun w2 bb h2=>nE hlv fG (Ux (x:={x with pc:=x.pc+1}) h2 ht hr tl)
  ·rename_i r hr
   try simp only at hr
   obtain⟨rfl,rfl⟩:=j4 hl;obtain⟨k,k1,k2,k3⟩:=vE hr;have hca:=G.X.ca;rw [k3];exact fw G hp O_ fun w2 bb h2=>Ud hlv jL rfl (Uw h2 ht O_ k1 O_ k2)
 case h_23=>
  have hca:=G.X.ca
  split at hl
  ·rename_i hf
   obtain⟨rfl,rfl⟩:=j4 hl;exact fw G hp O_ fun w2 bb h2=>nE hlv fG (Uv (x:={x with pc:=x.pc+1}) h2 ht hf (by show x.cache.length<100;omega) tl)
  ·rename_i hf
   obtain⟨rfl,rfl⟩:=j4 hl;exact fw G hp O_ fun w2 bb h2=>Ud hlv jL rfl (YO h2 ht O_ hf (by show x.cache.length<100;omega))
 case h_24=>
  split at hl
  ·rename_i hr
   simp only [N8] at hr;obtain⟨rfl,rfl⟩:=j4 hl;exact fw G hp O_ fun w2 bb h2=>nE hlv fG (Uu (x:={x with pc:=x.pc+1}) h2 ht hr tl)
  ·rename_i r hr
   try simp only at hr
   obtain⟨rfl,rfl⟩:=j4 hl;obtain⟨k,k1,k2,k3⟩:=vE hr;have hca:=G.X.ca;exact fw G hp O_ fun w2 bb h2=>nE hlv fG (Ut h2 ht O_ k1 O_ k2)
 case h_25=>
  split at hl
  ·cases hl
  ·rename_i hne
   obtain⟨rfl,rfl⟩:=j4 hl;have hca:=G.X.ca;obtain⟨k,hk⟩:∃ k,x.cache.length=k+1:=⟨x.cache.length - 1,by have:=List.length_pos_iff.2 hne;(try simp only at this);omega⟩;rw [show({x with pc:=x.pc+1}:RT).cache.dropLast=x.cache.take k from by rw [List.dropLast_eq_take,hk];rfl];exact fw G hp O_ fun w2 bb h2=>Ud hlv jL rfl (YN h2 ht hk O_)
 case h_26=>
  split at hl
  ·rename_i hg
   obtain⟨rfl,rfl⟩:=j4 hl;obtain⟨r,hr⟩:∃ r:Nat,x.rc=(r:Int):=⟨x.rc.toNat,by have:=hg.1;(try simp only at this);omega⟩;obtain⟨li,lY⟩:=qX r (by have:=hg;(try simp only at this);omega);unfold RM.aV;rw [show m.bQ x.rc=li from by rw [hr];exact om lY,show x.rc.toNat=r from by rw [hr];rfl];exact fw G hp O_ fun w2 bb h2=>ofL (show m.lists.length=(m.lists.set r _).length from(cW ..).symm) fG (YM h2 ht O_ hlv hr lY (by have:=hLs lY;omega))
  ·cases hl
 case h_27=>
  split at hl
  ·rename_i hg
   obtain⟨rfl,rfl⟩:=j4 hl;obtain⟨r,hr⟩:∃ r:Nat,x.rc=(r:Int):=⟨x.rc.toNat,by have:=hg.1;(try simp only at this);omega⟩;obtain⟨li,lY⟩:=qX r (by have:=hg;(try simp only at this);omega);rw [show m.bQ x.rc=li from by rw [hr];exact om lY];exact fw G hp O_ fun w2 bb h2=>nE hlv (by unfold RT.jump;split<;>exact fG) (YL h2 ht hlv hr lY tl)
  ·cases hl
 case h_28=>
  split at hl
  ·rename_i hg
   obtain⟨rfl,rfl⟩:=j4 hl;obtain⟨r,hr⟩:∃ r:Nat,x.rc=(r:Int):=⟨x.rc.toNat,by have:=hg.1;(try simp only at this);omega⟩;obtain⟨li,lY⟩:=qX r (by have:=hg;(try simp only at this);omega);rw [show m.bQ x.rc=li from by rw [hr];exact om lY];exact fw G hp O_ fun w2 bb h2=>nE hlv (by unfold RT.jump;split<;>exact fG) (YK h2 ht hlv hr lY tl)
  ·cases hl
 case h_29=>
  obtain⟨rfl,rfl⟩:=j4 hl;exact fw G hp O_ fun w2 bb h2=>nE hlv fG (YJ h2 ht O_)
 case h_30=>
  split at hl
  ·rename_i hg
   obtain⟨rfl,rfl⟩:=j4 hl;exact fw G hp O_ fun w2 bb h2=>nE hlv fG (YI h2 ht O_)
  ·cases hl
 case h_31=>
  split at hl
  ·rename_i hg
   obtain⟨rfl,rfl⟩:=j4 hl;obtain⟨r,hr⟩:∃ r:Nat,x.rc=(r:Int):=⟨x.rc.toNat,by have:=hg.1;(try simp only at this);omega⟩;obtain⟨li,lY⟩:=qX r (by have:=hg.2.1;(try simp only at this);omega);obtain⟨o,ho⟩:∃ o:Nat,wrap64 (x.R a)=(o:Int):=⟨(wrap64 (x.R a)).toNat,by have:=hg.2.2.1;omega⟩;obtain⟨lo,hlo⟩:=qX o (by have:=hg.2.2.2;omega);unfold RM.aV;rw [show m.bQ x.rc=li from by rw [hr];exact om lY,show x.rc.toNat=r from by rw [hr];rfl,show m.bQ (wrap64 (x.R a))=lo from by rw [ho];exact om hlo,show(wrap64 (x.R a)).toNat=o from by rw [ho];rfl];exact fw G hp O_ fun w2 bb h2=>ofL (show m.lists.length=((m.lists.set r _).set o []).length from by rw [cW,cW]) fG (YH h2 ht O_ hlv hr lY ho hlo (by have:=hLs lY;have:=hLs hlo;omega))
  ·cases hl
 case h_32=>
  obtain⟨rfl,rfl⟩:=j4 hl;exact fw G hp O_ fun w2 bb h2=>Ud hlv jL rfl (YG h2 ht)
 case h_33=>
  obtain⟨rfl,rfl⟩:=j4 hl;exact fw G hp O_ fun w2 bb h2=>Ud hlv jL rfl (YF h2 ht O_ hR (by unfold fJ at hP;show x.names.length<_;omega))
 case h_34=>
  split at hl
  ·rename_i hg
   obtain⟨rfl,rfl⟩:=j4 hl;obtain⟨r,hr⟩:∃ r:Nat,x.rc=(r:Int):=⟨x.rc.toNat,by have:=hg.1;(try simp only at this);omega⟩;obtain⟨li,lY⟩:=qX r (by have:=hg;(try simp only at this);omega);unfold RM.aV;rw [show m.bQ x.rc=li from by rw [hr];exact om lY,show x.rc.toNat=r from by rw [hr];rfl];exact fw G hp O_ fun w2 bb h2=>YE h2 ht fun w3 b3 h3=>(EM h3 ht hlv hr lY (by have:=hLs lY;omega) (by unfold fJ at hP;show x.names.length<_;omega)).mono fun _ _ ⟨q1,v2,lv2,q2,q3,q4⟩=>⟨q1,v2,vc,vt,vs,lv2,q2.trans (show m.lists.length=(m.lists.set r _).length from(cW ..).symm),q3,q4.drop⟩
  ·cases hl
 case h_35=>
  split at hl
  ·rename_i hr
   try simp only at hr
   obtain⟨rfl,rfl⟩:=j4 hl;obtain⟨A,q,hq⟩:=K8 jL hr;exact fw G hp O_ fun w2 bb h2=>nE hlv fG (Us (x:={x with pc:=x.pc+1}) h2 ht hq tl)
  ·rename_i r l0 hr
   try simp only at hr
   obtain⟨rfl,rfl⟩:=j4 hl;obtain⟨g,k,n,q,cp,q1,q2,q3,q4,q5,q6⟩:=Iq jL hr;have hn:n<5000000:=by unfold fJ at hP;rw [hr,ij] at hP;have:=q6;omega
   by_cases pY:q=1
   ·subst pY
    obtain rfl:n=0:=O_
    exact fw G hp O_ fun w2 bb h2=>nE hlv (q5 k 0 (fun e=>absurd rfl e) rfl) (Up h2 ht O_ q1 q3 q4)
   ·exact fw G hp O_ fun w2 bb h2=>nE hlv (q5 (k+1) (q - 1) (fun _=>rfl) rfl) (Uq h2 ht O_ q1 q2 pY O_ q3 q4)
 case h_36=>
  obtain⟨rfl,rfl⟩:=j4 hl;exact fw G hp O_ fun w2 bb h2=>nE hlv fG (YD h2 ht O_ G.X.rc ok ⟨d1,d2⟩)
 case h_37=>
  obtain⟨rfl,rfl⟩:=j4 hl;exact nE hlv fG (YW h ht hp O_ rc ok (KN rfl).1 (KN rfl).2)
 case h_38=>
  obtain⟨rfl,rfl⟩:=j4 hl;exact nE hlv fG (YV h ht hp O_ rb ok hR)
 case h_39=>
  split at hl
  ·cases hl
  ·rename_i y1 hy1
   try simp only at hy1
   obtain⟨rfl,rfl⟩:=j4 hl;exact nE hlv fG (YU h ht hp O_ hy1)
 case h_40=>
  split at hl
  ·cases hl
  ·rename_i y1 hy1
   try simp only at hy1
   obtain⟨rfl,rfl⟩:=j4 hl;exact nE hlv fG (YT h ht hp O_ hy1)
 case h_41=>
  obtain⟨rfl,rfl⟩:=j4 hl;exact nE hlv fG (YS h ht hp O_ O_)
 case h_42=>
  obtain⟨rfl,rfl⟩:=j4 hl;exact nE hlv fG (YR h ht hp O_ O_)
 case h_43=>
  obtain⟨rfl,rfl⟩:=j4 hl;exact fw G hp O_ fun w2 bb h2=>nE hlv fG (YC h2 ht O_ rb G.X.rc ok)
 case h_44=>
  obtain⟨rfl,rfl⟩:=j4 hl;exact fw G hp O_ fun w2 bb h2=>nE hlv (by unfold RT.jump;split<;>exact fG) (YB h2 ht O_ G.X.rc ok tl)
 case h_45=>cases hl
end
section
variable{D:Dk}{c:Cf}{th:Nat}{ov:List (RT×Tv)}{m m':RM}{x x':RT}{v v':Tv}{vc vt vs:Value}{lv:List Value}{w0 w w':World}{F G:List En}{a b cc tt l:Nat}{d:Int}{y:Cl}
theorem aW.wd(h:aW D c th ov m x v vc vt vs lv w0 w F){s:Nat}{z:Int}(hs:m.words[s]?=some z):w.cell? ⟨D.gw,s,none⟩=some (.int .u64 z):=Has.ey (g:=D.gw) (c:=D.cw) h bp (by rw [gA,hs];rfl)
theorem aW.wdF(h:aW D c th ov m x v vc vt vs lv w0 w F)(i:Nat):w.frozen? ⟨D.gw,i,none⟩=false:=Has.gL (g:=D.gw) (c:=D.cw) h bp i
theorem aW.Rl(h:aW D c th ov m x v vc vt vs lv w0 w F)(s:Nat)(z:Int):aW D c th ov {m with words:=m.words.set s z} x v vc vt vs lv w0 (w.setCell ⟨D.gw,s,none⟩ (.int .u64 z)) F:=by
 have h4:=Has.fD (A:= [_]) h s (.int .u64 z);unfold aW DK;rw [show xY D c {m with words:=m.words.set s z} ov.length vc vt vs=xY D c m ov.length vc vt vs by unfold xY;simp only [cW],show({m with words:=m.words.set s z}:RM).words.length=m.words.length from cW ..,show({m with words:=m.words.set s z}:RM).words.map (Value.int .u64)=(m.words.map (Value.int .u64)).set s (.int .u64 z) from tY ..];exact h4
theorem aW.tQ{b:Nat}{t:TypeId}{cs:List Value}(h:aW D c th ov m x v vc vt vs lv w0 w (ob b t cs::F))(i:Nat)(u:Value):aW D c th ov m x v vc vt vs lv w0 (w.setCell ⟨b,i,none⟩ u) (ob b t (cs.set i u)::F):=h.rest fun A h=>Has.fW (A:=A) h i u
theorem aW.apart{b:Nat}{t:TypeId}{cs:List Value}(h:aW D c th ov m x v vc vt vs lv w0 w (ob b t cs::F)):D.bD≠b∧D.gw≠b∧D.gt≠b∧D.gb≠b∧∀ {b':Nat} {t':TypeId} {cs':List Value},ob b' t' cs'∈F→b'≠b:=by
 have h2:Has w0 w (ob b t cs::(jl D c th ov m x v vc vt vs lv++(fq x v++(fV lv m.lists++F)))):=by
  have p:(jl D c th ov m x v vc vt vs lv++(fq x v++(fV lv m.lists++ob b t cs::F))).Perm (ob b t cs::(jl D c th ov m x v vc vt vs lv++(fq x v++(fV lv m.lists++F)))):=by
   rw [←dH (fq x v),←dH (fq x v),←dH (jl ..),←dH (jl ..)];exact dV
  exact Has.perm h p
 exact⟨fun e=>h2.other rfl (y:=ob D.bD 55 (xY D c m ov.length vc vt vs)) aj (by rw [←e];rfl),fun e=>h2.other rfl (y:=dA D.gw D.cw 38 1 m.words.length (m.words.map (Value.int .u64))) bp (by rw [←e];rfl),fun e=>h2.other rfl (y:=dA D.gt D.ct 44 658 ov.length ((ov.set th (x,v)).flatMap dJ)) oJ (by rw [←e];rfl),fun e=>h2.other rfl (y:=dA D.gb D.cb 3 1 bz.length (bz.map fun(n:Nat)=>Value.int .i64 (n:Int))) lA (by rw [←e];rfl),fun hm e=>h2.other rfl (bX (A:=jl D c th ov m x v vc vt vs lv) (bX (A:=fq x v) (bX (A:=fV lv m.lists) hm))) (by rw [←e];rfl)⟩
theorem Fa(h:aW D c th ov m x v vc vt vs lv w0 w F)(ht:th<ov.length)(hp:x.pc<1000){k ad:Nat}(ok:bY c.T c.R c.H c.Re c.Ca c.S c.B)(IU:cc<48)(ajn:b≤13)(had:wrap64 (x.R cc)+(if b=0 then 0 else c.ad b 0)=(ad:Int))(Vq:ad<m.words.length)(LW:m.words.length<1000000)(_:0≤m.au∧m.au≤65536)(ha:a<48){dd:Nat}(RD:k=3→d=(dd:Int))(Z7:dd<48)(hl:bz[tt]?=some l)(WW:m.trace.length<10000000){v0:Int}(LX:m.words[ad]?=some v0)(Mc:(k=1∧m'={m with trace:=m.trace++ [(⟨m.au,th,1,ad,0,0,v0⟩:Ac)]}∧x'=({x with pc:=x.pc+1}:RT).set a v0)∨(k=2∧m'={{m with words:=m.words.set ad (x.R a)} with trace:=m.trace++ [(⟨m.au,th,2,ad,0,x.R a,0⟩:Ac)]}∧x'=({x with pc:=x.pc+1}:RT))∨
   (k=3∧v0=x.R a∧m'={{m with words:=m.words.set ad (x.R dd)} with trace:=m.trace++ [(⟨m.au,th,3,ad,x.R a,x.R dd,v0⟩:Ac)]}∧x'=({x with pc:=x.pc+1}:RT))∨(k=3∧v0≠x.R a∧m'={m with trace:=m.trace++ [(⟨m.au,th,3,ad,x.R a,x.R dd,v0⟩:Ac)]}∧x'={x with pc:=l})):
  cm 135 #[some D.bD,th,.agg #[.int .i64 (k:Int),a,b,cc,d,tt]] w (.tuple #[]) fun w'=>∃ WI,aW D c th ov m' x' v vc WI vs lv w0 w' F:=by
 have h2:aW D c th ov m x v vc vt vs lv w0 (w.alloc (.cells #[.int .i64 (k:Int),a,b,cc,d,tt] 236)) (ob w.heap.size 236 [.int .i64 (k:Int),a,b,cc,d,tt]::F):=h.alloc #[.int .i64 (k:Int),a,b,cc,d,tt] 236;have pD:=(h2.bd.1 11).trans (show _=some (.slice (some ⟨D.gt,0,none⟩) ov.length D.ct) from rfl);have dt:=jH ht;have qb:=(h2.af aj).1;obtain⟨_,_,e1,e2,e3,e4,_,_,_,_,e5,e6,e7,e8⟩:=id ok;go_enter func135,ntmps135;go_wp2_with fail;clear pD h;generalize (w.alloc (.cells #[.int .i64 (k:Int),a,b,cc,d,tt] 236))=W2 at h2 qb ⊢;clear qb;have qb:=fun z:aL W2=>((h2.next z.ok).af aj).1
 have bc:decide ((cc:Int)<48)=true:=cM O_;have rc:=fun z:aL W2=>(h2.next z.ok).gm ht IU
 refine qE fun z1=>?_
 have h3:=h2.next z1.ok;clear h2 qb rc;generalize z1.world=W3 at h3 ⊢;have qb:=(h3.af aj).1;have H3:=aJ h3;clear h3
 go_upto_if 25 with fail
 go_cut [7] (fun s wx=>s=.int .i64 (ad:Int)∧Hid (∃ z:aL W3,wx=z.world))
 case first=>
  by_cases hb:b=0
  ·subst hb
   go_wp2_with fail
   go_meet
   case rel=>exact⟨by rw [←had];simp,aJ ⟨⟨W3,bu W3⟩,rfl⟩⟩
  ·have db:((b:Int)==0)=false:=by simp;omega
   rw [aK hb] at had;have hk:=fun W=>lJ c.T c.R c.H c.Re c.Ca c.S c.B (b - 1) W e1 e2 e3 e4 e5 e6 e7 e8 b O_ O_
   go_wp2_with fail;have qb:=fun z:aL W3=>((H3.out.next z.ok).af aj).1
   have g0:=fun z:aL W3=>((H3.out.next z.ok).bd.1 0).trans (show _=some (Value.int .i64 c.T) from rfl)
   have g1:=fun z:aL W3=>((H3.out.next z.ok).bd.1 1).trans (show _=some (Value.int .i64 c.R) from rfl)
   have g2:=fun z:aL W3=>((H3.out.next z.ok).bd.1 2).trans (show _=some (Value.int .i64 c.H) from rfl)
   have g3:=fun z:aL W3=>((H3.out.next z.ok).bd.1 3).trans (show _=some (Value.int .i64 c.Re) from rfl)
   have g4:=fun z:aL W3=>((H3.out.next z.ok).bd.1 4).trans (show _=some (Value.int .i64 c.Ca) from rfl)
   have g5:=fun z:aL W3=>((H3.out.next z.ok).bd.1 5).trans (show _=some (Value.int .i64 c.S) from rfl)
   have g6:=fun z:aL W3=>((H3.out.next z.ok).bd.1 6).trans (show _=some (Value.int .i64 c.B) from rfl)
   have LV:IntKind.i64.wrap (wrap64 (x.R cc)+b7 c.R c.H c.S c.B (b - 1))=(ad:Int):=by rw [show wrap64 (x.R cc)+b7 c.R c.H c.S c.B (b - 1)=(ad:Int) by rw [←had];unfold Cf.ad;omega];exact yx O_ O_
   refine bT (Ext W3) (bu W3).bh K_ K_ ?_
   repeat (go_big_quiet_step (exact oy (oo _) (hk _)))
   refine qA ?_;rintro _ ⟨z2,rfl⟩;go_wp2_with fail
   go_meet
   case rel=>exact⟨by first | exact ep _ LV | rfl,aJ ⟨z2,rfl⟩⟩
 obtain⟨rfl,hz⟩:=hcut;obtain⟨z3,rfl⟩:=hz.out;have h4:=H3.out.next z3.ok;clear hz H3;generalize z3.world=W4 at h4 ⊢;have a1:=(h4.bd.1 23).trans (show _=some (.int .i64 m.au) from rfl);have h5:aW D c th ov m x v vc vt vs lv w0 (W4.alloc (.cells #[m.au,.int .i64 (th:Int),.int .i64 0,.int .i64 (ad:Int),.int .u64 0,.int .u64 0,.int .u64 0] 122)) (ob W4.heap.size 122 [m.au,.int .i64 (th:Int),.int .i64 0,.int .i64 (ad:Int),.int .u64 0,.int .u64 0,.int .u64 0]::ob w.heap.size 236 [.int .i64 (k:Int),a,b,cc,d,tt]::F):=h4.alloc #[m.au,.int .i64 (th:Int),.int .i64 0,.int .i64 (ad:Int),.int .u64 0,.int .u64 0,.int .u64 0] 122;have a2:=(h5.tr ht (i:=2) rfl).trans (show _=some (.int .i64 (x.pc:Int)) from rfl);have a3:=h5.jQ (th*658+2);have h6:aW D c th ov m ({x with pc:=x.pc+1}:RT) v vc vt vs lv w0 ((W4.alloc (.cells #[m.au,.int .i64 (th:Int),.int .i64 0,.int .i64 (ad:Int),.int .u64 0,.int .u64 0,.int .u64 0] 122)).setCell ⟨D.gt,th*658+2,none⟩ (.int .i64 ((x.pc:Int)+1))) (ob W4.heap.size 122 [m.au,.int .i64 (th:Int),.int .i64 0,.int .i64 (ad:Int),.int .u64 0,.int .u64 0,.int .u64 0]::ob w.heap.size 236 [.int .i64 (k:Int),a,b,cc,d,tt]::F):=h5.oI ht (x.pc+1);have a4:=(h6.af bp).1;have hwp:=ee (n:=x.pc) O_
 go_upto_if 51 with fail;generalize ((W4.alloc (.cells #[m.au,.int .i64 (th:Int),.int .i64 0,.int .i64 (ad:Int),.int .u64 0,.int .u64 0,.int .u64 0] 122)).setCell ⟨D.gt,th*658+2,none⟩ (.int .i64 ((x.pc:Int)+1)))=W5 at h6 ⊢;clear a1 a2 a3 a4 h5 h4
 rcases Mc with ⟨rfl,hm2,hx2⟩ | ⟨rfl,hm2,hx2⟩ | ⟨rfl,hv,hm2,hx2⟩ | ⟨rfl,hv,hm2,hx2⟩
 case' inl=>
  have ab:=(h6.af aj).1;have af:=(h6.af aj).2;have qw:=(h6.bd.1 7).trans (show _=some (.slice (some ⟨D.gw,0,none⟩) m.words.length D.cw) from rfl);have qv:=h6.wd LX;have np:=h6.apart;have n1:=np.1;have n2:=np.2.1;have n3:=np.2.2.2.2 aj;clear np;have h7:=(h6.tQ 2 (.int .i64 1)).tQ 6 (.int .u64 v0);have H6:=aJ h6;clear h6;go_wp2_with fail;clear ab af qw qv;generalize ((W5.setCell ⟨W4.heap.size,2,none⟩ (.int .i64 1)).setCell ⟨W4.heap.size,6,none⟩ (.int .u64 v0))=W6 at h7 ⊢;have ai:=fun z:aL W6=>((h7.next z.ok).af bp).1
  have ab:=fun z:aL W6=>((h7.next z.ok).af aj).1
  have af:=fun z:aL W6=>((h7.next z.ok).af aj).2
  have ba:decide ((a:Int)<48)=true:=cM O_;have ra:=fun z:aL W6=>(h7.next z.ok).gm ht ha
  have fr:=fun z:aL W6=>(h7.next z.ok).jQ (th*658+3+a)
  have H9:=aJ h7;clear h7;refine qT 8 fun y1=>?_
  go_wp2_with fail;have qj:=(H9.out.next y1.ok).Eb ht ha v0;generalize (y1.world.setCell ⟨D.gt,th*658+3+a,none⟩ (.int .u64 v0))=Wf at qj ⊢;obtain⟨mf,tr,hE,hM,hT⟩:∃ (mf:RM) (tr:Ac),Hid (aW D c th ov mf x' v vc vt vs lv w0 Wf (ob W4.heap.size 122 (Ac.enc tr)::ob w.heap.size 236 [.int .i64 ((1:Nat):Int),a,b,cc,d,tt]::F))∧Hid (m'={mf with trace:=mf.trace++ [tr]})∧mf.trace.length<10000000:=⟨m,(⟨m.au,th,1,ad,0,0,v0⟩:Ac),aJ (by rw [hx2];exact qj),aJ hm2,WW⟩;clear qj H9 hm2 hx2
 case' inr.inl=>
  have ab:=(h6.af aj).1;have af:=(h6.af aj).2;have qw:=(h6.bd.1 7).trans (show _=some (.slice (some ⟨D.gw,0,none⟩) m.words.length D.cw) from rfl);have qv:=h6.wd LX;have np:=h6.apart;have n1:=np.1;have n2:=np.2.1;have n3:=np.2.2.2.2 aj;clear np;have h7:=h6.tQ 2 (.int .i64 2);have H6:=aJ h6;clear h6;go_wp2_with fail;clear ab af qw qv;generalize (W5.setCell ⟨W4.heap.size,2,none⟩ (.int .i64 2))=W6 at h7 ⊢;have ba:decide ((a:Int)<48)=true:=cM O_;have ai:=fun z:aL W6=>((h7.next z.ok).af bp).1
  have ab:=fun z:aL W6=>((h7.next z.ok).af aj).1
  have af:=fun z:aL W6=>((h7.next z.ok).af aj).2
  have rr:=fun z:aL W6=>(h7.next z.ok).gm ht ha
  have H9:=aJ h7;refine qT 8 fun y1=>?_
  go_wp2_with fail;have h8:=(H9.out.next y1.ok).tQ 5 (.int .u64 (x.R a));generalize (y1.world.setCell ⟨W4.heap.size,5,none⟩ (.int .u64 (x.R a)))=W7 at h8 ⊢;clear ai ab af rr H9;clear h7;have ai:=fun z:aL W7=>((h8.next z.ok).af bp).1
  have ab:=fun z:aL W7=>((h8.next z.ok).af aj).1
  have af:=fun z:aL W7=>((h8.next z.ok).af aj).2
  have qw:=fun z:aL W7=>((h8.next z.ok).bd.1 7).trans (show _=some (.slice (some ⟨D.gw,0,none⟩) m.words.length D.cw) from rfl)
  have qf:=fun z:aL W7=>(h8.next z.ok).wdF ad
  have qv:=fun z:aL W7=>(h8.next z.ok).wd LX
  have H9:=aJ h8;clear h8;refine qT 8 fun y2=>?_
  go_wp2_with fail;have qj:=(H9.out.next y2.ok).Rl ad (x.R a);generalize (y2.world.setCell ⟨D.gw,ad,none⟩ (.int .u64 (x.R a)))=Wf at qj ⊢;obtain⟨mf,tr,hE,hM,hT⟩:∃ (mf:RM) (tr:Ac),Hid (aW D c th ov mf x' v vc vt vs lv w0 Wf (ob W4.heap.size 122 (Ac.enc tr)::ob w.heap.size 236 [.int .i64 ((2:Nat):Int),a,b,cc,d,tt]::F))∧Hid (m'={mf with trace:=mf.trace++ [tr]})∧mf.trace.length<10000000:=⟨{m with words:=m.words.set ad (x.R a)},(⟨m.au,th,2,ad,0,x.R a,0⟩:Ac),aJ (by rw [hx2];exact qj),aJ hm2,WW⟩;clear qj H9 hm2 hx2
 case' inr.inr.inl=>
  have hq:(v0==x.R a)=true:=by simp [hv]
  have HV:=aJ hv;clear hv;have RD:=RD rfl;subst RD;have ab:=(h6.af aj).1;have af:=(h6.af aj).2;have qw:=(h6.bd.1 7).trans (show _=some (.slice (some ⟨D.gw,0,none⟩) m.words.length D.cw) from rfl);have qv:=h6.wd LX;have np:=h6.apart;have n1:=np.1;have n2:=np.2.1;have n3:=np.2.2.2.2 aj;clear np;have h7:=h6.tQ 2 (.int .i64 3);have H6:=aJ h6;clear h6;go_wp2_with fail;clear ab af qw qv;generalize (W5.setCell ⟨W4.heap.size,2,none⟩ (.int .i64 3))=W6 at h7 ⊢;have ba:decide ((a:Int)<48)=true:=cM O_;have bdd:decide ((dd:Int)<48)=true:=cM O_;have ai:=fun z:aL W6=>((h7.next z.ok).af bp).1
  have ab:=fun z:aL W6=>((h7.next z.ok).af aj).1
  have af:=fun z:aL W6=>((h7.next z.ok).af aj).2
  have rr:=fun z:aL W6=>(h7.next z.ok).gm ht ha
  have H9:=aJ h7;refine qT 8 fun y1=>?_
  go_wp2_with fail;have h8:=(H9.out.next y1.ok).tQ 4 (.int .u64 (x.R a));generalize (y1.world.setCell ⟨W4.heap.size,4,none⟩ (.int .u64 (x.R a)))=W7 at h8 ⊢;clear ai ab af rr H9;clear h7;have ai:=fun z:aL W7=>((h8.next z.ok).af bp).1
  have ab:=fun z:aL W7=>((h8.next z.ok).af aj).1
  have af:=fun z:aL W7=>((h8.next z.ok).af aj).2
  have rr:=fun z:aL W7=>(h8.next z.ok).gm ht Z7
  have qw:=fun z:aL W7=>((h8.next z.ok).bd.1 7).trans (show _=some (.slice (some ⟨D.gw,0,none⟩) m.words.length D.cw) from rfl)
  have qv:=fun z:aL W7=>(h8.next z.ok).wd LX
  have H9:=aJ h8;clear h8;refine qT 8 fun y2=>?_
  go_wp2_with fail;have gI:=((H9.out.next y2.ok).tQ 5 (.int .u64 (x.R dd))).tQ 6 (.int .u64 v0);generalize ((y2.world.setCell ⟨W4.heap.size,5,none⟩ (.int .u64 (x.R dd))).setCell ⟨W4.heap.size,6,none⟩ (.int .u64 v0))=W9 at gI ⊢;clear ai ab af rr qw qv H9;have ai:=fun z:aL W9=>((gI.next z.ok).af bp).1
  have ab:=fun z:aL W9=>((gI.next z.ok).af aj).1
  have af:=fun z:aL W9=>((gI.next z.ok).af aj).2
  have qw:=fun z:aL W9=>((gI.next z.ok).bd.1 7).trans (show _=some (.slice (some ⟨D.gw,0,none⟩) m.words.length D.cw) from rfl)
  have qf:=fun z:aL W9=>(gI.next z.ok).wdF ad
  have qv:=fun z:aL W9=>(gI.next z.ok).wd LX
  have H9:=aJ gI;clear gI;refine qT 8 fun y3=>?_
  go_wp2_with fail;have qj:=(H9.out.next y3.ok).Rl ad (x.R dd);generalize (y3.world.setCell ⟨D.gw,ad,none⟩ (.int .u64 (x.R dd)))=Wf at qj ⊢;obtain⟨mf,tr,hE,hM,hT⟩:∃ (mf:RM) (tr:Ac),Hid (aW D c th ov mf x' v vc vt vs lv w0 Wf (ob W4.heap.size 122 (Ac.enc tr)::ob w.heap.size 236 [.int .i64 ((3:Nat):Int),a,b,cc,.int .i64 (dd:Int),tt]::F))∧Hid (m'={mf with trace:=mf.trace++ [tr]})∧mf.trace.length<10000000:=⟨{m with words:=m.words.set ad (x.R dd)},(⟨m.au,th,3,ad,x.R a,x.R dd,v0⟩:Ac),aJ (by rw [hx2];exact qj),aJ hm2,WW⟩;clear qj H9 hm2 hx2
 case' inr.inr.inr=>
  have hq:(v0==x.R a)=false:=by simp [hv]
  have HV:=aJ hv;clear hv;have RD:=RD rfl;subst RD;have ab:=(h6.af aj).1;have af:=(h6.af aj).2;have qw:=(h6.bd.1 7).trans (show _=some (.slice (some ⟨D.gw,0,none⟩) m.words.length D.cw) from rfl);have qv:=h6.wd LX;have np:=h6.apart;have n1:=np.1;have n2:=np.2.1;have n3:=np.2.2.2.2 aj;clear np;have h7:=h6.tQ 2 (.int .i64 3);have H6:=aJ h6;clear h6;go_wp2_with fail;clear ab af qw qv;generalize (W5.setCell ⟨W4.heap.size,2,none⟩ (.int .i64 3))=W6 at h7 ⊢;have ba:decide ((a:Int)<48)=true:=cM O_;have bdd:decide ((dd:Int)<48)=true:=cM O_;have ai:=fun z:aL W6=>((h7.next z.ok).af bp).1
  have ab:=fun z:aL W6=>((h7.next z.ok).af aj).1
  have af:=fun z:aL W6=>((h7.next z.ok).af aj).2
  have rr:=fun z:aL W6=>(h7.next z.ok).gm ht ha
  have H9:=aJ h7;refine qT 8 fun y1=>?_
  go_wp2_with fail;have h8:=(H9.out.next y1.ok).tQ 4 (.int .u64 (x.R a));generalize (y1.world.setCell ⟨W4.heap.size,4,none⟩ (.int .u64 (x.R a)))=W7 at h8 ⊢;clear ai ab af rr H9;clear h7;have ai:=fun z:aL W7=>((h8.next z.ok).af bp).1
  have ab:=fun z:aL W7=>((h8.next z.ok).af aj).1
  have af:=fun z:aL W7=>((h8.next z.ok).af aj).2
  have rr:=fun z:aL W7=>(h8.next z.ok).gm ht Z7
  have qw:=fun z:aL W7=>((h8.next z.ok).bd.1 7).trans (show _=some (.slice (some ⟨D.gw,0,none⟩) m.words.length D.cw) from rfl)
  have qv:=fun z:aL W7=>(h8.next z.ok).wd LX
  have H9:=aJ h8;clear h8;refine qT 8 fun y2=>?_
  go_wp2_with fail;have gI:=((H9.out.next y2.ok).tQ 5 (.int .u64 (x.R dd))).tQ 6 (.int .u64 v0);generalize ((y2.world.setCell ⟨W4.heap.size,5,none⟩ (.int .u64 (x.R dd))).setCell ⟨W4.heap.size,6,none⟩ (.int .u64 v0))=W9 at gI ⊢;clear ai ab af rr qw qv H9;have q9:=fun z:aL W9=>((gI.next z.ok).bd.1 9).trans (show _=some (.slice (some ⟨D.gb,0,none⟩) bz.length D.cb) from rfl)
  have ql:=fun z:aL W9=>(gI.next z.ok).cI hl
  have hto:=(fO.1 hl).1;generalize bz.length=nl at q9 hto;have fr:=fun z:aL W9=>(gI.next z.ok).jQ (th*658+2)
  have fc:=fun z:aL W9=>((gI.next z.ok).tr ht (i:=2) rfl).trans (show _=some (.int .i64 ((x.pc+1:Nat):Int)) from rfl)
  have ai:=fun z:aL W9=>((gI.next z.ok).af bp).1
  have H9:=aJ gI;clear gI;refine qT 11 fun y3=>?_
  go_wp2_with fail;have qj:=(H9.out.next y3.ok).oI ht l;generalize (y3.world.setCell ⟨D.gt,th*658+2,none⟩ (.int .i64 (l:Int)))=Wf at qj ⊢;obtain⟨mf,tr,hE,hM,hT⟩:∃ (mf:RM) (tr:Ac),Hid (aW D c th ov mf x' v vc vt vs lv w0 Wf (ob W4.heap.size 122 (Ac.enc tr)::ob w.heap.size 236 [.int .i64 ((3:Nat):Int),a,b,cc,.int .i64 (dd:Int),tt]::F))∧Hid (m'={mf with trace:=mf.trace++ [tr]})∧mf.trace.length<10000000:=⟨m,(⟨m.au,th,3,ad,x.R a,x.R dd,v0⟩:Ac),aJ (by rw [hx2];exact qj),aJ hm2,WW⟩;clear qj H9 hm2 hx2
 all_goals
  obtain⟨A,cp,rfl⟩:=aA hE.out.FO;have y6:=(hE.out.bd.1 25).trans (show _=some (.slice A mf.trace.length cp) from rfl);have f6:=hE.out.bd.2 25;have hlt:D.bD<Wf.heap.size:=Has.tu hE.out aj;have hne:=lN hlt;have gj:∀ w',Ext Wf w'→∀ i,w'.cell? ⟨W4.heap.size,i,none⟩=([tr.mv,tr.th,tr.kd,tr.ad,.int .u64 tr.od,.int .u64 tr.nw,.int .u64 tr.sw]:List Value)[i]?:=fun w' e=>((hE.out.next e).af aj).1
  have gC:=gj Wf (bu Wf);have H2:=hE;have dF:=fun w' (e:Ext Wf w')=>dB (hE.out.FO) e
  have hsz:=(Has.ext H2.out).size;have gN:∀ w',Ext (Wf.alloc (.cells #[tr.mv,tr.th,tr.kd,tr.ad,.int .u64 tr.od,.int .u64 tr.nw,.int .u64 tr.sw] 122)) w'→Rd w' (some ⟨Wf.heap.size,0,none⟩) [tr.mv,tr.th,tr.kd,tr.ad,.int .u64 tr.od,.int .u64 tr.nw,.int .u64 tr.sw]:=fun w' e=>(Rd.made Wf [tr.mv,tr.th,tr.kd,tr.ad,.int .u64 tr.od,.int .u64 tr.nw,.int .u64 tr.sw] 122).ext e
  have fQ:([tr.mv,tr.th,tr.kd,tr.ad,.int .u64 tr.od,.int .u64 tr.nw,.int .u64 tr.sw]:List Value).length=1*7:=rfl;have hone:∀ u∈([tr.mv,tr.th,tr.kd,tr.ad,.int .u64 tr.od,.int .u64 tr.nw,.int .u64 tr.sw]:List Value),u.oneCell'=true:=by intro u hu;simp at hu;rcases hu with rfl | rfl | rfl | rfl | rfl | rfl | rfl<;>rfl
  refine tX (Ds (S:=fun w':World=>∀ i,w'.cell? ⟨W4.heap.size,i,none⟩=([tr.mv,tr.th,tr.kd,tr.ad,.int .u64 tr.od,.int .u64 tr.nw,.int .u64 tr.sw]:List Value)[i]?) K_ gC (fun hHeld=>?_));refine bn 0 ?_;refine bn 1 ?_;refine bn 2 ?_;refine bn 3 ?_;refine bn 5 ?_;refine qB (rs:= [4,6]) K_ S_ ?_;refine mA rfl (fun Kq cr=>?_) ?_
  ·go_simp
   refine cr.out _ _ gC (fun hHeld=>?_);refine eI 6 fun Kq cr=>?_
   go_simp;refine cr.out _ _ (gj _ (((bu Wf).aE _).bh)) (fun hHeld=>?_);refine eI 7 fun Kq cr=>?_
   refine cn _ rfl (.tmp 144) (.tmp 146) 52 rfl w0.heap.size 122 7 56 sN underlying52 (.slice A mf.trace.length cp) mf.trace.length _ (by simp [Act.eval]) (by first | exact dF _ ((bu Wf).aE _) | exact dF _ (((bu Wf).bh).aE _) | exact dF _ (((bu Wf).aE _).bh)) (some ⟨Wf.heap.size,0,none⟩) 1 1 [tr.mv,tr.th,tr.kd,tr.ad,.int .u64 tr.od,.int .u64 tr.nw,.int .u64 tr.sw] (by simp [Act.eval]) fQ (by first | exact gN _ (bu _) | exact gN _ (Ext.drawn _ 1)) hone O_ (by simp;omega) ?_;intro v1 w2 bV bl fk;have oO:Wf.grownBy w2 (Value.ownBlock (.slice A mf.trace.length cp)):=(by first | exact aD bl | exact aD (bw bl) | exact bw (aD bl));obtain⟨g5,c5,rfl,_,_,_⟩:=bf bV O_;obtain⟨r2,k8⟩:=hE.out.KR ht (r:=tr) bV oO (fk.imp id fun e=>⟨_,e,S_⟩);have kk:=(r2.bd 25).trans (show _=some (.slice A mf.trace.length cp) from rfl);have ff:=r2.bF 25;have hk2:=r2.ob aj;have kD:=(k8.af aj).1;refine cr.out _ _ hk2 (fun hHeld=>?_);refine bn 8 ?_;refine bn 9 ?_;refine eI 10 fun Kq cr=>?_
   go_simp;refine cr.out _ _ kD (fun hHeld=>?_);refine Be K_ ?_ _;refine GQ ?_
   (try simp only [Exit.inBlock,Exit.then])
   have pI:=k8.drop.drop;rw [←hM.out] at pI;clear k8;exact iP ⟨rfl,_,pI⟩
  refine mA rfl (fun Kq cr=>?_) tH;go_simp;refine cr.out _ _ (gj _ (((bu Wf).aE _).bh)) (fun hHeld=>?_);refine eI 4 fun Kq cr=>?_
  go_simp;refine cr.out _ _ (gj _ (((bu Wf).aE _).bh)) (fun hHeld=>?_);refine eI 7 fun Kq cr=>?_
  refine cn _ rfl (.tmp 144) (.tmp 146) 52 rfl w0.heap.size 122 7 56 sN underlying52 (.slice A mf.trace.length cp) mf.trace.length _ (by simp [Act.eval]) (by first | exact dF _ ((bu Wf).aE _) | exact dF _ (((bu Wf).bh).aE _) | exact dF _ (((bu Wf).aE _).bh)) (some ⟨Wf.heap.size,0,none⟩) 1 1 [tr.mv,tr.th,tr.kd,tr.ad,.int .u64 tr.od,.int .u64 tr.nw,.int .u64 tr.sw] (by simp [Act.eval]) fQ (by first | exact gN _ (bu _) | exact gN _ (Ext.drawn _ 1)) hone O_ (by simp;omega) ?_;intro v1 w2 bV bl fk;have oO:Wf.grownBy w2 (Value.ownBlock (.slice A mf.trace.length cp)):=(by first | exact aD bl | exact aD (bw bl) | exact bw (aD bl));obtain⟨g5,c5,rfl,_,_,_⟩:=bf bV O_;obtain⟨r2,k8⟩:=hE.out.KR ht (r:=tr) bV oO (fk.imp id fun e=>⟨_,e,S_⟩);have kk:=(r2.bd 25).trans (show _=some (.slice A mf.trace.length cp) from rfl);have ff:=r2.bF 25;have hk2:=r2.ob aj;have kD:=(k8.af aj).1;refine cr.out _ _ hk2 (fun hHeld=>?_);refine bn 8 ?_;refine bn 9 ?_;refine eI 10 fun Kq cr=>?_
  go_simp;refine cr.out _ _ kD (fun hHeld=>?_);refine Be K_ ?_ _;refine GQ ?_
  (try simp only [Exit.inBlock,Exit.then])
  have pI:=k8.drop.drop;rw [←hM.out] at pI;clear k8;exact iP ⟨rfl,_,pI⟩
end
end Go.Proofs.YtgbhnihkgmpocaaGreat
