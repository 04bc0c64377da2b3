/- Part 14 of 16 of the proof of PoolPlays. No condition. -/
import Derived.Test.YtgbhnihkgmpocaaGreatM12
namespace Go.Proofs.YtgbhnihkgmpocaaGreat
set_option maxRecDepth 100000
set_option maxHeartbeats 4000000
open Tryz
abbrev jU(f:Nat)(k:Int)(D:Dk)(th a b cc:Nat)(d:Int)(tt:Nat)(w:World)(R:World→Prop):Prop:=cm f #[some D.bD,th,.agg #[.int .i64 k,a,b,cc,d,tt]] w (.tuple #[]) R
variable{P:Prop}
theorem ab2(x:P:=by
 refine mA rfl (fun Kq cr=>?_) ?_
 ·go_simp
  refine cr.out _ _ (gj _ (((bu W3).aE _).bh)) (fun hHeld=>?_);refine qB (rs:= [14]) K_ S_ ?_;refine mA rfl (fun Kq cr=>?_) ?_
  ·refine cn _ rfl (.tmp 111) (.tmp 120) 40 rfl w0.heap.size 3 1 8 jT underlying40 (.slice A x.cache.length cp) x.cache.length _ (by simp [Act.eval]) (by first | exact dF _ ((bu W3).aE _) | exact dF _ (((bu W3).bh).aE _) | exact dF _ (((bu W3).aE _).bh)) (some ⟨W3.heap.size,0,none⟩) 1 1 [.int .i64 (IntKind.i64.wrap (x.R a))] (by simp [Act.eval]) fQ (by first | exact gN _ (bu _) | exact gN _ (Ext.drawn _ 1)) hone O_ (by simp;omega) ?_
   intro v1 w2 bV bl fk;have oO:W3.grownBy w2 (Value.ownBlock (.slice A x.cache.length cp)):=(by first | exact aD bl | exact aD (bw bl) | exact bw (aD bl));obtain⟨g5,c5,rfl,_,_,_⟩:=bf bV O_;obtain⟨r2,h4⟩:=H2.out.X9 ht (r:=IntKind.i64.wrap (x.R a)) bV (by rw [hca];exact oO) (by rw [hca];exact fk.imp id fun e=>⟨_,e,S_⟩);have kk:=r2.tr (hU (x,v));have ff:=r2.tF (th*658+52);have hk2:w2.cell? ⟨w.heap.size,1,none⟩=some (.int .i64 (a:Int))∧w2.cell? ⟨D.gt,th*658+3+a,none⟩=some (.int .u64 (x.R a)):=⟨(r2.ob aj 1).trans rfl,r2.rg ha⟩;have kD:(w2.setCell ⟨D.gt,th*658+52,none⟩ (.slice (some ⟨g5,0,none⟩) (x.cache.length+1) c5)).cell? ⟨w.heap.size,1,none⟩=some (.int .i64 (a:Int))∧(w2.setCell ⟨D.gt,th*658+52,none⟩ (.slice (some ⟨g5,0,none⟩) (x.cache.length+1) c5)).cell? ⟨D.gt,th*658+3+a,none⟩=some (.int .u64 (x.R a)):=by have r:=h4.rd ht;exact⟨(r.ob aj 1).trans rfl,r.rg ha⟩
   refine cr.out _ _ hk2 (fun hHeld=>?_);refine bn 15 ?_;refine bn 16 ?_;refine qB (rs:= [17]) K_ S_ ?_;refine mA rfl (fun Kq cr=>?_) ?_
   ·go_simp
    refine cr.out _ _ kD (fun hHeld=>?_);refine Be K_ ?_ _;refine GQ ?_
    (try simp only [Exit.inBlock,Exit.then])
    go_wp2_with fail;exact iP ⟨rfl,{v with ca:=.slice (some ⟨g5,0,none⟩) (x.cache.length+1) c5},⟨rfl,rfl,rfl⟩,by rw [←zH];exact h4.drop⟩
   ·exact tH
  ·exact tH
 ·exact tH):P:=x
theorem ab1(x:P:=by
 go_simp;refine cr.out _ _ (gj _ (((bu W3).aE _).bh)) (fun hHeld=>?_);refine eI 21 fun Kq cr=>?_
 refine cn _ rfl (.tmp 12) (.tmp 28) 53 rfl w0.heap.size 125 5 40 AG underlying53 (.slice A m.aG.length cp) m.aG.length _ (by simp [Act.eval]) (by first | exact dF _ ((bu W3).aE _) | exact dF _ (((bu W3).bh).aE _) | exact dF _ (((bu W3).aE _).bh)) (some ⟨W3.heap.size,0,none⟩) 1 1 [m.au,.int .i64 (th:Int),.int .i64 (s:Int),fs,tv] (by simp [Act.eval]) fQ (by first | exact gN _ (bu _) | exact gN _ (Ext.drawn _ 1)) hone O_ (by simp;omega) ?_;intro v1 w2 bV bl fk;have oO:W3.grownBy w2 (Value.ownBlock (.slice A m.aG.length cp)):=(by first | exact aD bl | exact aD (bw bl) | exact bw (aD bl));obtain⟨g5,c5,rfl,_,_,_⟩:=bf bV O_;obtain⟨r2,h4⟩:=H2.out.TW ht (r:=⟨m.au,th,s,fs,tv⟩) bV oO (fk.imp id fun e=>⟨_,e,S_⟩);have kk:=(r2.bd 26).trans (show _=some (.slice A m.aG.length cp) from rfl);have ff:=r2.bF 26;have hk2:(w2).cell? ⟨D.bD,23,none⟩=some (.int .i64 m.au)∧(w2).cell? ⟨D.bD,12,none⟩=some (.slice (some ⟨D.gs,0,none⟩) m.states.length D.cs)∧(w2).cell? ⟨D.gs,s,none⟩=some (.int .i64 fs):=⟨(r2.bd 23).trans rfl,(r2.bd 12).trans rfl,r2.st xj⟩;have kD:(w2.setCell ⟨D.bD,26,none⟩ (.slice (some ⟨g5,0,none⟩) (m.aG.length+1) c5)).cell? ⟨D.bD,23,none⟩=some (.int .i64 m.au)∧(w2.setCell ⟨D.bD,26,none⟩ (.slice (some ⟨g5,0,none⟩) (m.aG.length+1) c5)).cell? ⟨D.bD,12,none⟩=some (.slice (some ⟨D.gs,0,none⟩) m.states.length D.cs)∧(w2.setCell ⟨D.bD,26,none⟩ (.slice (some ⟨g5,0,none⟩) (m.aG.length+1) c5)).cell? ⟨D.gs,s,none⟩=some (.int .i64 fs):=⟨(h4.bd.1 23).trans rfl,(h4.bd.1 12).trans rfl,h4.stat xj⟩
 refine cr.out _ _ hk2 (fun hHeld=>?_);refine bn 22 ?_;refine bn 23 ?_;refine eI 24 fun Kq cr=>?_
 go_simp;refine cr.out _ _ kD (fun hHeld=>?_);refine Be K_ ?_ _;go_wp2_with fail
 go_meet
 case rel=>exact aJ ⟨_,h4⟩):P:=x
theorem Wr(x:P:=by
 clear qb;have r0:=h2.rd ht;have qb:=fun z:aL W2=>((h2.next z.ok).af aj).1
 have hto:=(fO.1 hl).1;have q9:=fun z:aL W2=>((h2.next z.ok).bd.1 9).trans (show _=some (.slice (some ⟨D.gb,0,none⟩) bz.length D.cb) from rfl)
 have ql:=fun z:aL W2=>(h2.next z.ok).cI hl
 generalize bz.length=nl at q9 hto;clear hl;have fr:=fun z:aL W2=>(h2.next z.ok).jQ (th*658+2)
 have fc:=fun z:aL W2=>((h2.next z.ok).tr ht (i:=2) rfl).trans (show _=some (.int .i64 ((x.pc:Nat):Int)) from rfl)
 have H2:=aJ h2;clear h2;refine qT 11 fun z1=>?_
 go_wp2_with fail;exact DL (v:=.tuple #[]) (results_none rfl _ _ _) rfl ⟨rfl,((H2.out.next z1.ok).oI ht l).drop⟩):P:=x
theorem Dl(x:P:=by
 go_wp2_with fail;refine iP ⟨rfl,((H2.out.next z1.ok).ju ht ha (by rfl)).drop⟩):P:=x
theorem Np(x:P:=by
 go_wp2_with fail;refine un (vF (H2.out.next z1.ok) ht hl _) fun w3 h3=>?_
 go_wp2_with fail;exact iP ⟨rfl,h3.drop.LM (by rfl)⟩):P:=x
theorem abx(x:P:=by
 clear qb;have qb:=fun z:aL W2=>((h2.next z.ok).af aj).1
 have ba:decide ((a:Int)<48)=true:=cM O_;have bb:decide ((b:Int)<48)=true:=cM O_;have ra:=fun z:aL W2=>(h2.next z.ok).gm ht ha
 have rb:=fun z:aL W2=>(h2.next z.ok).gm ht hb
 have fr:=fun z:aL W2=>(h2.next z.ok).jQ (th*658+3+a)
 have H2:=aJ h2;clear h2;refine bU (Ext W2) 15 (bu W2).bh K_ K_ ?_;simp only [rR,rP,rQ,rO]
 repeat (go_big_quiet_step (first | exact cP (hl _)))
 refine qA ?_;rintro _ ⟨z1,rfl⟩;exact Dl):P:=x
theorem QF(x:P:=by
 (try simp only [Exit.inBlock,Exit.then])
 go_ret;exact⟨_,rfl,o2.out,e2.out⟩):P:=x
theorem NN(x:P:=by
 go_wp2_with fail;exact iP ⟨rfl,((H2.out.next z1.ok).ju ht ha (by rfl)).drop⟩):P:=x
theorem ND(x:P:=by
 refine un (C W2 _ h2) fun w3 hP=>?_
 go_wp2_with fail;exact iP ⟨rfl,hP⟩):P:=x
theorem NA(x:P:=by
 have H2:=aJ h2;clear h2;refine qT 18 fun z1=>?_
 exact Dl):P:=x
open Go.RowKit
def yg(n:Nat):List eJ:= [⟨10,151,0,0,0,0⟩]++(List.range n).flatMap (fun k=>cY 47 k)
theorem zw(n:Nat):yg n++cY 47 n=yg (n+1):=by
 unfold yg;rw [List.range_succ,rT,List.flatMap_singleton,dH]
theorem M8(n:Nat):(yg n).length=1+n*2:=by
 induction n with
 | zero=>rfl
 | succ n ih=>rw [←zw,gP,ih];show 1+n*2+2=_;omega
theorem Em(w:World):Calls prog 145 #[] w (fL w oD):=by
 have o1:=cQ w [⟨10,151,0,0,0,0⟩] D_;have e1:=(bu w).aE (.cells (([⟨10,151,0,0,0,0⟩]:List eJ).flatMap eJ.enc).toArray 236);replace o1:=aJ o1;replace e1:=aJ e1;go_in;go_wp2
 go_loopw [1,2] (fun s1 s2 wr=>∃ (i:Nat) (A:Option Addr) (c:Nat),s2=.int .i64 i∧s1=.slice A (yg i).length c∧i≤3∧Hid (wr.ownsRow w.heap.size 236 6 (.slice A (yg i).length c) (yg i).length ((yg i).flatMap eJ.enc))∧Hid (Ext w wr)) (fun s1 s2 _=>3 - (intOf s2).toNat)
 case atStart=>exact⟨0,_,_,rfl,rfl,O_,o1,e1⟩
 case round=>
  clear o1 e1;obtain⟨i,A,c,rfl,rfl,hi,o1,e1⟩:=hrel
  by_cases hlt:i<3
  case neg=>
   have dl:decide ((i:Int)<3)=false:=dy O_;obtain rfl:3=i:=O_
   go_wp2_with (at_builtin;refine bN o1.out e1.out (cQ wr [⟨13,0,0,0,0,0⟩] D_) ((bu wr).aE _) oD rfl D_ (.tmp 13) (.tmp 15) rfl rfl rfl rfl ?_;intro A2 c2 w2 o2 e2;replace o2:=aJ o2;replace e2:=aJ e2);exact QF
  case pos=>
   have dl:decide ((i:Int)<3)=true:=cM O_;have hb:(yg (i+1)).length≤1000:=by rw [M8];omega
   go_wp2_with fail;refine(iw 47 i _).mono ?_;rintro e x2 ⟨u2,rfl,p2,f2⟩;obtain⟨B2,d2,rfl⟩:=aA p2;go_wp2_with (at_builtin;refine bN o1.out e1.out p2 f2 (yg (i+1)) (zw i) hb (.tmp 9) (.tmp 11) rfl rfl rfl rfl ?_;intro A2 c2 w2 o2 e2;replace o2:=aJ o2;replace e2:=aJ e2)
   go_roundw
   case rel=>exact⟨i+1,A2,c2,rfl,rfl,O_,o2,e2⟩
   case measure=>simp only [intOf];omega
theorem Ld(w:World):Calls prog 132 #[] w (fL w wD):=by
 go_in;go_wp2_with fail;refine(E6 _).mono ?_;rintro e w1 ⟨v1,rfl,o1,e1⟩;obtain⟨A1,c1,rfl⟩:=aA o1;replace o1:=aJ o1;replace e1:=aJ e1;go_wp2_with fail;refine(IA _).mono ?_;rintro e x2 ⟨u2,rfl,p2,f2⟩;obtain⟨B2,d2,rfl⟩:=aA p2;go_wp2_with (at_builtin;refine bN o1.out e1.out p2 f2 (kT++nK) rfl D_ (.tmp 3) (.tmp 4) rfl rfl rfl rfl ?_;intro A2 c2 w2 o2 e2;replace o2:=aJ o2;replace e2:=aJ e2);refine(AV _).mono ?_;rintro e x3 ⟨u3,rfl,p3,f3⟩;obtain⟨B3,d3,rfl⟩:=aA p3;go_wp2_with (at_builtin;refine bN o2.out e2.out p3 f3 (kT++nK++jo) rfl D_ (.tmp 6) (.tmp 7) rfl rfl rfl rfl ?_;intro A3 c3 w3 o3 e3;replace o3:=aJ o3;replace e3:=aJ e3);refine(BK _).mono ?_;rintro e x4 ⟨u4,rfl,p4,f4⟩;obtain⟨B4,d4,rfl⟩:=aA p4;go_wp2_with (at_builtin;refine bN o3.out e3.out p4 f4 (kT++nK++jo++lH) rfl D_ (.tmp 9) (.tmp 10) rfl rfl rfl rfl ?_;intro A4 c4 w4 o4 e4;replace o4:=aJ o4;replace e4:=aJ e4);refine(Em _).mono ?_;rintro e x5 ⟨u5,rfl,p5,f5⟩;obtain⟨B5,d5,rfl⟩:=aA p5;go_wp2_with (at_builtin;refine bN o4.out e4.out p5 f5 (kT++nK++jo++lH++oD) rfl D_ (.tmp 12) (.tmp 13) rfl rfl rfl rfl ?_;intro A5 c5 w5 o5 e5;replace o5:=aJ o5;replace e5:=aJ e5);refine(Cx _).mono ?_;rintro e x6 ⟨u6,rfl,p6,f6⟩;obtain⟨B6,d6,rfl⟩:=aA p6
 go_wp2_with (at_builtin;refine bN o5.out e5.out p6 f6 (kT++nK++jo++lH++oD++lI) rfl D_ (.tmp 15) (.tmp 16) rfl rfl rfl rfl ?_;intro A6 c6 w6 o6 e6;replace o6:=aJ o6;replace e6:=aJ e6);refine(EZ _).mono ?_;rintro e x7 ⟨u7,rfl,p7,f7⟩;obtain⟨B7,d7,rfl⟩:=aA p7;go_wp2_with (at_builtin;refine bN o6.out e6.out p7 f7 (kT++nK++jo++lH++oD++lI++rC) rfl D_ (.tmp 18) (.tmp 19) rfl rfl rfl rfl ?_;intro A7 c7 w7 o7 e7;replace o7:=aJ o7;replace e7:=aJ e7)
 (try simp only [Exit.inBlock,Exit.then])
 go_ret;exact⟨_,rfl,o7.out,e7.out⟩
theorem Jt(w:World):Calls prog 104 #[] w (fL w (pP++wD)):=by
 go_in;go_wp2_with fail;refine(Ju _).mono ?_;rintro e w1 ⟨v1,rfl,o1,e1⟩;obtain⟨A1,c1,rfl⟩:=aA o1;replace o1:=aJ o1;replace e1:=aJ e1;go_wp2_with fail;refine(Ld _).mono ?_;rintro e x2 ⟨u2,rfl,p2,f2⟩;obtain⟨B2,d2,rfl⟩:=aA p2;go_wp2_with (at_builtin;refine bN o1.out e1.out p2 f2 (pP++wD) rfl D_ (.tmp 3) (.tmp 4) rfl rfl rfl rfl ?_;intro A2 c2 w2 o2 e2;replace o2:=aJ o2;replace e2:=aJ e2);exact QF
theorem EY(w:World):Calls prog 105 #[] w (fL w rB):=by
 go_in;go_wp2_with fail;refine(sA 200 _).mono ?_;rintro e w1 ⟨v1,rfl,o1,e1⟩;obtain⟨A1,c1,rfl⟩:=aA o1;replace o1:=aJ o1;replace e1:=aJ e1;go_wp2_with (at_builtin;refine bN o1.out e1.out (cQ w1 [⟨49,16,0,0,0,0⟩,⟨11,0,0,0,0,152⟩] D_) ((bu w1).aE _) (gz 200++ [⟨49,16,0,0,0,0⟩,⟨11,0,0,0,0,152⟩]) rfl D_ (.tmp 3) (.tmp 6) rfl rfl rfl rfl ?_;intro A2 c2 w2 o2 e2;replace o2:=aJ o2;replace e2:=aJ e2);refine(sA 205 _).mono ?_;rintro e x3 ⟨u3,rfl,p3,f3⟩;obtain⟨B3,d3,rfl⟩:=aA p3;go_wp2_with (first | (at_builtin;refine bN o3.out e3.out (cQ w3 [⟨12,0,0,0,0,150⟩,⟨28,7,0,0,0,0⟩,⟨25,6,47,0,0,206⟩,⟨1,18,12,4,0,0⟩,⟨12,0,0,0,0,151⟩,⟨14,18,0,0,2,0⟩,⟨10,206,0,0,0,0⟩,⟨12,0,0,0,0,151⟩,⟨14,0,0,0,6,0⟩] D_) ((bu w3).aE _) (gz 200++ [⟨49,16,0,0,0,0⟩,⟨11,0,0,0,0,152⟩]++gz 205++ [⟨12,0,0,0,0,150⟩,⟨28,7,0,0,0,0⟩,⟨25,6,47,0,0,206⟩,⟨1,18,12,4,0,0⟩,⟨12,0,0,0,0,151⟩,⟨14,18,0,0,2,0⟩,⟨10,206,0,0,0,0⟩,⟨12,0,0,0,0,151⟩,⟨14,0,0,0,6,0⟩]) rfl D_ (.tmp 11) (.tmp 21) rfl rfl rfl rfl ?_;intro A4 c4 w4 o4 e4;replace o4:=aJ o4;replace e4:=aJ e4) | (at_builtin;refine bN o2.out e2.out p3 f3 (gz 200++ [⟨49,16,0,0,0,0⟩,⟨11,0,0,0,0,152⟩]++gz 205) rfl D_ (.tmp 8) (.tmp 9) rfl rfl rfl rfl ?_;intro A3 c3 w3 o3 e3;replace o3:=aJ o3;replace e3:=aJ e3));refine(sA 210 _).mono ?_;rintro e x5 ⟨u5,rfl,p5,f5⟩;obtain⟨B5,d5,rfl⟩:=aA p5
 go_wp2_with (first | (at_builtin;refine bN o5.out e5.out (cQ w5 [⟨10,211,0,0,0,0⟩,⟨12,0,0,0,0,150⟩,⟨25,6,47,0,0,214⟩,⟨20,19,5,0,0,0⟩,⟨3,5,13,4,19,211⟩,⟨27,0,0,0,0,0⟩,⟨1,18,12,4,0,0⟩,⟨3,3,0,2,5,213⟩,⟨30,4,0,0,4,0⟩,⟨16,20,4,0,0,0⟩,⟨12,0,0,0,0,40⟩,⟨10,212,0,0,0,0⟩,⟨12,0,0,0,0,151⟩,⟨14,18,0,0,2,0⟩,⟨10,213,0,0,0,0⟩,⟨12,0,0,0,0,150⟩,⟨11,0,0,0,0,212⟩,⟨10,214,0,0,0,0⟩,⟨28,7,0,0,0,0⟩,⟨12,0,0,0,0,151⟩,⟨14,0,0,0,6,0⟩] D_) ((bu w5).aE _) (gz 200++ [⟨49,16,0,0,0,0⟩,⟨11,0,0,0,0,152⟩]++gz 205++ [⟨12,0,0,0,0,150⟩,⟨28,7,0,0,0,0⟩,⟨25,6,47,0,0,206⟩,⟨1,18,12,4,0,0⟩,⟨12,0,0,0,0,151⟩,⟨14,18,0,0,2,0⟩,⟨10,206,0,0,0,0⟩,⟨12,0,0,0,0,151⟩,⟨14,0,0,0,6,0⟩]++gz 210++ [⟨10,211,0,0,0,0⟩,⟨12,0,0,0,0,150⟩,⟨25,6,47,0,0,214⟩,⟨20,19,5,0,0,0⟩,⟨3,5,13,4,19,211⟩,⟨27,0,0,0,0,0⟩,⟨1,18,12,4,0,0⟩,⟨3,3,0,2,5,213⟩,⟨30,4,0,0,4,0⟩,⟨16,20,4,0,0,0⟩,⟨12,0,0,0,0,40⟩,⟨10,212,0,0,0,0⟩,⟨12,0,0,0,0,151⟩,⟨14,18,0,0,2,0⟩,⟨10,213,0,0,0,0⟩,⟨12,0,0,0,0,150⟩,⟨11,0,0,0,0,212⟩,⟨10,214,0,0,0,0⟩,⟨28,7,0,0,0,0⟩,⟨12,0,0,0,0,151⟩,⟨14,0,0,0,6,0⟩]) rfl D_ (.tmp 26) (.tmp 48) rfl rfl rfl rfl ?_;intro A6 c6 w6 o6 e6;replace o6:=aJ o6;replace e6:=aJ e6) | (at_builtin;refine bN o4.out e4.out p5 f5 (gz 200++ [⟨49,16,0,0,0,0⟩,⟨11,0,0,0,0,152⟩]++gz 205++ [⟨12,0,0,0,0,150⟩,⟨28,7,0,0,0,0⟩,⟨25,6,47,0,0,206⟩,⟨1,18,12,4,0,0⟩,⟨12,0,0,0,0,151⟩,⟨14,18,0,0,2,0⟩,⟨10,206,0,0,0,0⟩,⟨12,0,0,0,0,151⟩,⟨14,0,0,0,6,0⟩]++gz 210) rfl D_ (.tmp 23) (.tmp 24) rfl rfl rfl rfl ?_;intro A5 c5 w5 o5 e5;replace o5:=aJ o5;replace e5:=aJ e5))
 (try simp only [Exit.inBlock,Exit.then])
 go_ret;exact⟨_,rfl,o6.out,e6.out⟩
theorem Js(w:World):Calls prog 39 #[] w (fL w (pP++wD++rB)):=by
 go_in;go_wp2_with fail;refine(Jt _).mono ?_;rintro e w1 ⟨v1,rfl,o1,e1⟩;obtain⟨A1,c1,rfl⟩:=aA o1;replace o1:=aJ o1;replace e1:=aJ e1;go_wp2_with fail;refine(EY _).mono ?_;rintro e x2 ⟨u2,rfl,p2,f2⟩;obtain⟨B2,d2,rfl⟩:=aA p2;go_wp2_with (at_builtin;refine bN o1.out e1.out p2 f2 (pP++wD++rB) rfl D_ (.tmp 1) (.tmp 2) rfl rfl rfl rfl ?_;intro A2 c2 w2 o2 e2;replace o2:=aJ o2;replace e2:=aJ e2);exact QF
theorem Lg(w:World):Calls prog 40 #[] w (fL w Na):=by
 go_in;go_wp2_with fail;refine(Ii _).mono ?_;rintro e w1 ⟨v1,rfl,o1,e1⟩;obtain⟨A1,c1,rfl⟩:=aA o1;replace o1:=aJ o1;replace e1:=aJ e1;go_wp2_with fail;refine(K6 _).mono ?_;rintro e x2 ⟨u2,rfl,p2,f2⟩;obtain⟨B2,d2,rfl⟩:=aA p2;go_wp2_with (at_builtin;refine bN o1.out e1.out p2 f2 (wE++Dc) rfl D_ (.tmp 3) (.tmp 4) rfl rfl rfl rfl ?_;intro A2 c2 w2 o2 e2;replace o2:=aJ o2;replace e2:=aJ e2);exact QF
theorem Le(w:World):Calls prog 41 #[] w (fL w rD):=by
 go_in;go_wp2_with fail;refine(E0 _).mono ?_;rintro e w1 ⟨v1,rfl,o1,e1⟩;obtain⟨A1,c1,rfl⟩:=aA o1;replace o1:=aJ o1;replace e1:=aJ e1;go_wp2_with fail
 (try simp only [Exit.inBlock,Exit.then])
 go_ret;exact⟨_,rfl,o1.out,e1.out⟩
def JE(w:World)(l:List mJ)(e:Ending)(w':World):Prop:=∃ v,e=.returned v∧w'.ownsRow w.heap.size 234 3 v l.length (l.flatMap mJ.enc)∧Ext w w'
theorem Mp(l:List mJ):(l.flatMap mJ.enc).length=l.length*3:=by induction l with | nil=>rfl | cons x l ih=>rw [sZ,gP,ih,ij];show 3+_=_;omega
theorem n9(w:World)(l:List mJ)(hl:l.length≤1000):(w.alloc (.cells (l.flatMap mJ.enc).toArray 234)).ownsRow w.heap.size 234 3 (.slice (some ⟨w.heap.size,0,none⟩) l.length l.length) l.length (l.flatMap mJ.enc):=by
 have:=World.ownsRow_lit (base:=w.heap.size) (e:=234) (size:=3) w (l.flatMap mJ.enc).toArray l.length (bZ _) (by unfold maxLen;omega) (by simpa using Mp l);simpa using this
theorem Jf(w:World):Calls prog 42 #[] w (JE w e4):=by
 have g:=n9 w e4 D_;go_in
 go_upto_region 1 with fail;refine cJ 0 (.slice (some ⟨w.heap.size,0,none⟩) 3 3) (w.alloc (.cells (e4.flatMap mJ.enc).toArray 234)) K_ ?_;exact AY
theorem Je(w:World):Calls prog 43 #[] w (JE w e5):=by
 have g:=n9 w e5 D_;go_in
 go_upto_region 1 with fail;refine cJ 0 (.slice (some ⟨w.heap.size,0,none⟩) 6 6) (w.alloc (.cells (e5.flatMap mJ.enc).toArray 234)) K_ ?_;exact AY
theorem Jd(w:World):Calls prog 44 #[] w (JE w e6):=by
 have g:=n9 w e6 D_;go_in
 go_upto_region 1 with fail;refine cJ 0 (.slice (some ⟨w.heap.size,0,none⟩) 2 2) (w.alloc (.cells (e6.flatMap mJ.enc).toArray 234)) K_ ?_;exact AY
theorem Jc(w:World):Calls prog 45 #[] w (JE w e7):=by
 have g:=n9 w e7 D_;go_in
 go_upto_region 1 with fail;refine cJ 0 (.slice (some ⟨w.heap.size,0,none⟩) 2 2) (w.alloc (.cells (e7.flatMap mJ.enc).toArray 234)) K_ ?_;exact AY
theorem Jb(w:World):Calls prog 46 #[] w (JE w e8):=by
 have g:=n9 w e8 D_;go_in
 go_upto_region 1 with fail;refine cJ 0 (.slice (some ⟨w.heap.size,0,none⟩) 3 3) (w.alloc (.cells (e8.flatMap mJ.enc).toArray 234)) K_ ?_;exact AY
theorem Ja(w:World):Calls prog 47 #[] w (JE w e9):=by
 have g:=n9 w e9 D_;go_in
 go_upto_region 1 with fail;refine cJ 0 (.slice (some ⟨w.heap.size,0,none⟩) 3 3) (w.alloc (.cells (e9.flatMap mJ.enc).toArray 234)) K_ ?_;exact AY
section
variable{D:Dk}{c:Cf}{th:Nat}{ov:List (RT×Tv)}{m m':RM}{x x':RT}{v v':Tv}{vc vt vs:Value}{lv:List Value}{w0 w w':World}{F G:List En}{a b cc tt l:Nat}{d:Int}{y:Cl}
theorem ee{n:Nat}(h:n<1000000):IntKind.i64.wrap ((n:Int)+1)=(n:Int)+1:=by
 have e:((n:Int)+1) % 18446744073709551616=(n:Int)+1:=Int.emod_eq_of_lt O_ O_;simp [IntKind.wrap,IntKind.bits,IntKind.signed,e];omega
theorem jB(h:aW D c th ov m x v vc vt vs lv w0 w F)(ht:th<ov.length)(k:Int):
  (∀ i,(w.alloc (.cells #[k,a,b,cc,d,tt] 236)).cell? ⟨w.heap.size,i,none⟩=([k,a,b,cc,d,tt]:List Value)[i]?)∧(w.alloc (.cells #[k,a,b,cc,d,tt] 236)).cell? ⟨D.bD,11,none⟩=some (.slice (some ⟨D.gt,0,none⟩) ov.length D.ct)∧(w.alloc (.cells #[k,a,b,cc,d,tt] 236)).cell? ⟨D.gt,th*658+2,none⟩=some (.int .i64 x.pc)∧(w.alloc (.cells #[k,a,b,cc,d,tt] 236)).frozen? ⟨D.gt,th*658+2,none⟩=false∧
  aW D c th ov m {x with pc:=x.pc+1} v vc vt vs lv w0 ((w.alloc (.cells #[k,a,b,cc,d,tt] 236)).setCell ⟨D.gt,th*658+2,none⟩ (.int .i64 ((x.pc:Int)+1))) (ob w.heap.size 236 [k,a,b,cc,d,tt]::F):=by
 have h1:=h.alloc #[k,a,b,cc,d,tt] 236;exact⟨(h1.af aj).1,(h1.bd.1 11).trans rfl,h1.tr ht (i:=2) rfl,h1.jQ _,h1.oI ht (x.pc+1)⟩
theorem Zb(h:aW D c th ov m x v vc vt vs lv w0 w F)(ht:th<ov.length)(hp:x.pc<1000)(ha:a<48):
  jU 136 15 D th a b cc d tt w fun w'=>aW D c th ov m (({x with pc:=x.pc+1}:RT).set a (u64 d)) v vc vt vs lv w0 w' F:=by
 obtain⟨pb,pD,p2,f2,h2⟩:=jB (a:=a) (b:=b) (cc:=cc) (d:=d) (tt:=tt) h ht 15;have dt:=jH ht;have hwp:=ee (n:=x.pc) O_;have qb:=(h2.af aj).1;go_enter func136,ntmps136;go_wp2_with fail;clear pb pD p2 f2 h;generalize ((w.alloc (.cells #[.int .i64 15,a,b,cc,d,tt] 236)).setCell ⟨D.gt,th*658+2,none⟩ (.int .i64 ((x.pc:Int)+1)))=W2 at h2 qb ⊢;clear qb;have qb:=fun z:aL W2=>((h2.next z.ok).af aj).1
 have ba:decide ((a:Int)<48)=true:=cM O_;have ra:=fun z:aL W2=>(h2.next z.ok).gm ht ha
 have fr:=fun z:aL W2=>(h2.next z.ok).jQ (th*658+3+a)
 have H2:=aJ h2;clear h2;refine qT 9 fun z1=>?_
 exact Dl
theorem Za(h:aW D c th ov m x v vc vt vs lv w0 w F)(ht:th<ov.length)(hp:x.pc<1000)(ha:a<48)(hb:b<48):
  jU 136 16 D th a b cc d tt w fun w'=>aW D c th ov m (({x with pc:=x.pc+1}:RT).set a (x.R b)) v vc vt vs lv w0 w' F:=by
 obtain⟨pb,pD,p2,f2,h2⟩:=jB (a:=a) (b:=b) (cc:=cc) (d:=d) (tt:=tt) h ht 16;have dt:=jH ht;have hwp:=ee (n:=x.pc) O_;have qb:=(h2.af aj).1;go_enter func136,ntmps136;go_wp2_with fail;clear pb pD p2 f2 h;generalize ((w.alloc (.cells #[.int .i64 16,a,b,cc,d,tt] 236)).setCell ⟨D.gt,th*658+2,none⟩ (.int .i64 ((x.pc:Int)+1)))=W2 at h2 qb ⊢;clear qb;have qb:=fun z:aL W2=>((h2.next z.ok).af aj).1
 have ba:decide ((a:Int)<48)=true:=cM O_;have bb:decide ((b:Int)<48)=true:=cM O_;have ra:=fun z:aL W2=>(h2.next z.ok).gm ht ha
 have rb:=fun z:aL W2=>(h2.next z.ok).gm ht hb
 have fr:=fun z:aL W2=>(h2.next z.ok).jQ (th*658+3+a)
 have H2:=aJ h2;clear h2;refine qT 13 fun z1=>?_
 exact Dl
theorem Y9(h:aW D c th ov m x v vc vt vs lv w0 w F)(ht:th<ov.length)(hp:x.pc<1000)(ha:a<48)(hb:b<48):
  jU 136 17 D th a b cc d tt w fun w'=>aW D c th ov m (({x with pc:=x.pc+1}:RT).set a (u64 (x.R b+u64 d))) v vc vt vs lv w0 w' F:=by
 obtain⟨pb,pD,p2,f2,h2⟩:=jB (a:=a) (b:=b) (cc:=cc) (d:=d) (tt:=tt) h ht 17;have dt:=jH ht;have hwp:=ee (n:=x.pc) O_;have qb:=(h2.af aj).1;go_enter func136,ntmps136;go_wp2_with fail;clear pb pD p2 f2 h;generalize ((w.alloc (.cells #[.int .i64 17,a,b,cc,d,tt] 236)).setCell ⟨D.gt,th*658+2,none⟩ (.int .i64 ((x.pc:Int)+1)))=W2 at h2 qb ⊢;clear qb;have qb:=fun z:aL W2=>((h2.next z.ok).af aj).1
 have ba:decide ((a:Int)<48)=true:=cM O_;have bb:decide ((b:Int)<48)=true:=cM O_;have ra:=fun z:aL W2=>(h2.next z.ok).gm ht ha
 have rb:=fun z:aL W2=>(h2.next z.ok).gm ht hb
 have fr:=fun z:aL W2=>(h2.next z.ok).jQ (th*658+3+a)
 have H2:=aJ h2;clear h2;refine qT 17 fun z1=>?_
 exact Dl
theorem Y8(h:aW D c th ov m x v vc vt vs lv w0 w F)(ht:th<ov.length)(hp:x.pc<1000)(ha:a<48)(hb:b<48)(hR:∀ a,0≤x.R a∧x.R a≤18446744073709551615):
  jU 136 18 D th a b cc d tt w fun w'=>aW D c th ov m (({x with pc:=x.pc+1}:RT).set a (u64 (lk (x.R b)))) v vc vt vs lv w0 w' F:=by
 obtain⟨pb,pD,p2,f2,h2⟩:=jB (a:=a) (b:=b) (cc:=cc) (d:=d) (tt:=tt) h ht 18;have dt:=jH ht;have hwp:=ee (n:=x.pc) O_;have qb:=(h2.af aj).1;have hl:=fun W=>gX (x.R b) W (hR b).1 (hR b).2
 go_enter func136,ntmps136;go_wp2_with fail;clear pb pD p2 f2 h;generalize ((w.alloc (.cells #[.int .i64 18,a,b,cc,d,tt] 236)).setCell ⟨D.gt,th*658+2,none⟩ (.int .i64 ((x.pc:Int)+1)))=W2 at h2 qb ⊢;exact abx
theorem YX(h:aW D c th ov m x v vc vt vs lv w0 w F)(ht:th<ov.length)(hp:x.pc<1000)(ha:a<48)(hm:0≤m.au∧m.au≤65536):
  jU 136 29 D th a b cc d tt w fun w'=>aW D c th ov m (({x with pc:=x.pc+1}:RT).set a (m.au)) v vc vt vs lv w0 w' F:=by
 obtain⟨pb,pD,p2,f2,h2⟩:=jB (a:=a) (b:=b) (cc:=cc) (d:=d) (tt:=tt) h ht 29;have dt:=jH ht;have hwp:=ee (n:=x.pc) O_;have qb:=(h2.af aj).1;go_enter func136,ntmps136;go_wp2_with fail;clear pb pD p2 f2 h;generalize ((w.alloc (.cells #[.int .i64 29,a,b,cc,d,tt] 236)).setCell ⟨D.gt,th*658+2,none⟩ (.int .i64 ((x.pc:Int)+1)))=W2 at h2 qb ⊢;clear qb;have qb:=fun z:aL W2=>((h2.next z.ok).af aj).1
 have ba:decide ((a:Int)<48)=true:=cM O_;have ra:=fun z:aL W2=>(h2.next z.ok).gm ht ha
 have fr:=fun z:aL W2=>(h2.next z.ok).jQ (th*658+3+a)
 have q10:=fun z:aL W2=>((h2.next z.ok).bd.1 23).trans (show _=some (Value.int .i64 m.au) from rfl)
 have H2:=aJ h2;clear h2;refine qT 11 fun z1=>?_
 exact Dl
theorem YS(h:aW D c th ov m x v vc vt vs lv w0 w F)(ht:th<ov.length)(hp:x.pc<1000)(ha:a<48)(hr:0≤c.R∧c.R≤1024):
  jU 136 50 D th a b cc d tt w fun w'=>aW D c th ov m (({x with pc:=x.pc+1}:RT).set a (c.R)) v vc vt vs lv w0 w' F:=by
 obtain⟨pb,pD,p2,f2,h2⟩:=jB (a:=a) (b:=b) (cc:=cc) (d:=d) (tt:=tt) h ht 50;have dt:=jH ht;have hwp:=ee (n:=x.pc) O_;have qb:=(h2.af aj).1;go_enter func136,ntmps136;go_wp2_with fail;clear pb pD p2 f2 h;generalize ((w.alloc (.cells #[.int .i64 50,a,b,cc,d,tt] 236)).setCell ⟨D.gt,th*658+2,none⟩ (.int .i64 ((x.pc:Int)+1)))=W2 at h2 qb ⊢;clear qb;have qb:=fun z:aL W2=>((h2.next z.ok).af aj).1
 have ba:decide ((a:Int)<48)=true:=cM O_;have ra:=fun z:aL W2=>(h2.next z.ok).gm ht ha
 have fr:=fun z:aL W2=>(h2.next z.ok).jQ (th*658+3+a)
 have q1:=fun z:aL W2=>((h2.next z.ok).bd.1 1).trans (show _=some (Value.int .i64 c.R) from rfl)
 have H2:=aJ h2;clear h2;refine qT 12 fun z1=>?_
 exact Dl
theorem YR(h:aW D c th ov m x v vc vt vs lv w0 w F)(ht:th<ov.length)(hp:x.pc<1000)(ha:a<48)(hr:0≤c.R*c.H∧c.R*c.H≤1024):
  jU 136 51 D th a b cc d tt w fun w'=>aW D c th ov m (({x with pc:=x.pc+1}:RT).set a (c.R*c.H)) v vc vt vs lv w0 w' F:=by
 obtain⟨pb,pD,p2,f2,h2⟩:=jB (a:=a) (b:=b) (cc:=cc) (d:=d) (tt:=tt) h ht 51;have dt:=jH ht;have hwp:=ee (n:=x.pc) O_;have qb:=(h2.af aj).1;go_enter func136,ntmps136;go_wp2_with fail;clear pb pD p2 f2 h;generalize ((w.alloc (.cells #[.int .i64 51,a,b,cc,d,tt] 236)).setCell ⟨D.gt,th*658+2,none⟩ (.int .i64 ((x.pc:Int)+1)))=W2 at h2 qb ⊢;clear qb;have qb:=fun z:aL W2=>((h2.next z.ok).af aj).1
 have ba:decide ((a:Int)<48)=true:=cM O_;have ra:=fun z:aL W2=>(h2.next z.ok).gm ht ha
 have fr:=fun z:aL W2=>(h2.next z.ok).jQ (th*658+3+a)
 have q1:=fun z:aL W2=>((h2.next z.ok).bd.1 1).trans (show _=some (Value.int .i64 c.R) from rfl)
 have q2:=fun z:aL W2=>((h2.next z.ok).bd.1 2).trans (show _=some (Value.int .i64 c.H) from rfl)
 exact NA
theorem Y7(h:aW D c th ov m x v vc vt vs lv w0 w F)(ht:th<ov.length)(hp:x.pc<1000)(ha:a<48)(hb:b<48)(hw:-1≤wrap64 (x.R b)∧wrap64 (x.R b)≤2147483647):
  jU 136 19 D th a b cc d tt w fun w'=>aW D c th ov m (({x with pc:=x.pc+1}:RT).set a (pk (wrap64 (x.R b)))) v vc vt vs lv w0 w' F:=by
 obtain⟨pb,pD,p2,f2,h2⟩:=jB (a:=a) (b:=b) (cc:=cc) (d:=d) (tt:=tt) h ht 19;have dt:=jH ht;have hwp:=ee (n:=x.pc) O_;have qb:=(h2.af aj).1;have hl:=fun W=>gV (wrap64 (x.R b)) W O_ O_
 go_enter func136,ntmps136;go_wp2_with fail;clear pb pD p2 f2 h;generalize ((w.alloc (.cells #[.int .i64 19,a,b,cc,d,tt] 236)).setCell ⟨D.gt,th*658+2,none⟩ (.int .i64 ((x.pc:Int)+1)))=W2 at h2 qb ⊢;exact abx
theorem Y6(h:aW D c th ov m x v vc vt vs lv w0 w F)(ht:th<ov.length)(hp:x.pc<1000)(ha:a<48)(hb:b<48)(hR:∀ a,0≤x.R a∧x.R a≤18446744073709551615):
  jU 136 20 D th a b cc d tt w fun w'=>aW D c th ov m (({x with pc:=x.pc+1}:RT).set a (kZ (lk (x.R b)))) v vc vt vs lv w0 w' F:=by
 obtain⟨pb,pD,p2,f2,h2⟩:=jB (a:=a) (b:=b) (cc:=cc) (d:=d) (tt:=tt) h ht 20;have dt:=jH ht;have hwp:=ee (n:=x.pc) O_;have qb:=(h2.af aj).1;have hl:=fun W=>gX (x.R b) W (hR b).1 (hR b).2
 have hb0:=hR b;have hm:=fun W=>tR (x.R b % 4294967296 - 1) W O_ O_
 go_enter func136,ntmps136;go_wp2_with fail;clear pb pD p2 f2 h;generalize ((w.alloc (.cells #[.int .i64 20,a,b,cc,d,tt] 236)).setCell ⟨D.gt,th*658+2,none⟩ (.int .i64 ((x.pc:Int)+1)))=W2 at h2 qb ⊢;clear qb;have qb:=fun z:aL W2=>((h2.next z.ok).af aj).1
 have ba:decide ((a:Int)<48)=true:=cM O_;have bb:decide ((b:Int)<48)=true:=cM O_;have ra:=fun z:aL W2=>(h2.next z.ok).gm ht ha
 have rb:=fun z:aL W2=>(h2.next z.ok).gm ht hb
 have fr:=fun z:aL W2=>(h2.next z.ok).jQ (th*658+3+a)
 have H2:=aJ h2;clear h2;refine bU (Ext W2) 15 (bu W2).bh K_ K_ ?_;simp only [rR,rP,rQ,rO]
 repeat (go_big_quiet_step (first | exact cP (hl _) | exact cP (hm _)))
 refine qA ?_;rintro _ ⟨z1,rfl⟩;go_wp2_with fail;refine iP ⟨rfl,((H2.out.next z1.ok).ju ht ha (by unfold kZ lk;omega)).drop⟩
theorem Y5(h:aW D c th ov m x v vc vt vs lv w0 w F)(ht:th<ov.length)(hp:x.pc<1000)(ha:a<48)(hb:b<48)(hR:∀ a,0≤x.R a∧x.R a≤18446744073709551615):
  jU 136 21 D th a b cc d tt w fun w'=>aW D c th ov m (({x with pc:=x.pc+1}:RT).set a (pk (lk (x.R b)))) v vc vt vs lv w0 w' F:=by
 obtain⟨pb,pD,p2,f2,h2⟩:=jB (a:=a) (b:=b) (cc:=cc) (d:=d) (tt:=tt) h ht 21;have dt:=jH ht;have hwp:=ee (n:=x.pc) O_;have qb:=(h2.af aj).1;have hl:=fun W=>gX (x.R b) W (hR b).1 (hR b).2
 have hb0:=hR b;have hm:=fun W=>gV (x.R b % 4294967296 - 1) W O_ O_
 go_enter func136,ntmps136;go_wp2_with fail;clear pb pD p2 f2 h;generalize ((w.alloc (.cells #[.int .i64 21,a,b,cc,d,tt] 236)).setCell ⟨D.gt,th*658+2,none⟩ (.int .i64 ((x.pc:Int)+1)))=W2 at h2 qb ⊢;clear qb;have qb:=fun z:aL W2=>((h2.next z.ok).af aj).1
 have ba:decide ((a:Int)<48)=true:=cM O_;have bb:decide ((b:Int)<48)=true:=cM O_;have ra:=fun z:aL W2=>(h2.next z.ok).gm ht ha
 have rb:=fun z:aL W2=>(h2.next z.ok).gm ht hb
 have fr:=fun z:aL W2=>(h2.next z.ok).jQ (th*658+3+a)
 have H2:=aJ h2;clear h2;refine bU (Ext W2) 15 (bu W2).bh K_ K_ ?_;simp only [rR,rP,rQ,rO]
 repeat (go_big_quiet_step (first | exact cP (hl _) | exact cP (hm _)))
 refine qA ?_;rintro _ ⟨z1,rfl⟩;go_wp2_with fail;refine iP ⟨rfl,((H2.out.next z1.ok).ju ht ha (by unfold pk lk;omega)).drop⟩
theorem Y4(h:aW D c th ov m x v vc vt vs lv w0 w F)(ht:th<ov.length)(hp:x.pc<1000)(ha:a<48)(hb:b<48)(IU:cc<48)(hR:∀ a,0≤x.R a∧x.R a≤18446744073709551615)(hw:-1≤wrap64 (x.R cc)∧wrap64 (x.R cc)≤2147483647):
  jU 136 22 D th a b cc d tt w fun w'=>aW D c th ov m (({x with pc:=x.pc+1}:RT).set a (hd (x.R b) (wrap64 (x.R cc)))) v vc vt vs lv w0 w' F:=by
 obtain⟨pb,pD,p2,f2,h2⟩:=jB (a:=a) (b:=b) (cc:=cc) (d:=d) (tt:=tt) h ht 22;have dt:=jH ht;have hwp:=ee (n:=x.pc) O_;have qb:=(h2.af aj).1;have hb0:=hR b;have hl:=fun W=>CE (x.R b) W hb0.1 hb0.2
 have hm:=fun W=>Ah (x.R b / 4294967296+1) (wrap64 (x.R cc)) W O_ O_ hw.1 hw.2
 go_enter func136,ntmps136;go_wp2_with fail;clear pb pD p2 f2 h;generalize ((w.alloc (.cells #[.int .i64 22,a,b,cc,d,tt] 236)).setCell ⟨D.gt,th*658+2,none⟩ (.int .i64 ((x.pc:Int)+1)))=W2 at h2 qb ⊢;clear qb;have qb:=fun z:aL W2=>((h2.next z.ok).af aj).1
 have ba:decide ((a:Int)<48)=true:=cM O_;have bb:decide ((b:Int)<48)=true:=cM O_;have bcc:decide ((cc:Int)<48)=true:=cM O_;have ra:=fun z:aL W2=>(h2.next z.ok).gm ht ha
 have rb:=fun z:aL W2=>(h2.next z.ok).gm ht hb
 have rcc:=fun z:aL W2=>(h2.next z.ok).gm ht IU
 have fr:=fun z:aL W2=>(h2.next z.ok).jQ (th*658+3+a)
 have H2:=aJ h2;clear h2;refine bU (Ext W2) 24 (bu W2).bh K_ K_ ?_;simp only [rR,rP,rQ,rO]
 repeat (go_big_quiet_step (first | exact cP (hl _) | exact cP (hm _)))
 refine qA ?_;rintro _ ⟨z1,rfl⟩;exact Dl
theorem Y3(h:aW D c th ov m x v vc vt vs lv w0 w F)(ht:th<ov.length)(hp:x.pc<1000)(ha:a<48)(hR:∀ a,0≤x.R a∧x.R a≤18446744073709551615)(hl:bz[tt]?=some l):
  jU 136 23 D th a b cc d tt w fun w'=>aW D c th ov m (({x with pc:=x.pc+1}:RT).jump (decide (lk (x.R a)<0)) l) v vc vt vs lv w0 w' F:=by
 obtain⟨pb,pD,p2,f2,h2⟩:=jB (a:=a) (b:=b) (cc:=cc) (d:=d) (tt:=tt) h ht 23;have dt:=jH ht;have hwp:=ee (n:=x.pc) O_;have qb:=(h2.af aj).1;have hk:=fun W=>gX (x.R a) W (hR a).1 (hR a).2
 go_enter func136,ntmps136;go_wp2_with fail;clear pb pD p2 f2 h;generalize ((w.alloc (.cells #[.int .i64 23,a,b,cc,d,tt] 236)).setCell ⟨D.gt,th*658+2,none⟩ (.int .i64 ((x.pc:Int)+1)))=W2 at h2 qb ⊢;clear qb;have qb:=fun z:aL W2=>((h2.next z.ok).af aj).1
 have ba:decide ((a:Int)<48)=true:=cM O_;have ra:=fun z:aL W2=>(h2.next z.ok).gm ht ha
 have H2:=aJ h2;clear h2;refine bU (Ext W2) 13 (bu W2).bh K_ K_ ?_;simp only [rR,rP,rQ,rO]
 repeat (go_big_quiet_step (first | exact cP (hk _)))
 refine qA ?_;rintro _ ⟨z1,rfl⟩;go_wp2_with fail;refine un (vF (H2.out.next z1.ok) ht hl _) fun w3 h3=>?_
 go_wp2_with fail;exact iP ⟨rfl,h3.drop.LM (by first | rfl | exact decide_eq_decide.2 (by unfold lk;omega))⟩
theorem Y2(h:aW D c th ov m x v vc vt vs lv w0 w F)(ht:th<ov.length)(hp:x.pc<1000)(ha:a<48)(hR:∀ a,0≤x.R a∧x.R a≤18446744073709551615)(hl:bz[tt]?=some l):
  jU 136 24 D th a b cc d tt w fun w'=>aW D c th ov m (({x with pc:=x.pc+1}:RT).jump (x.R a / 4294967296 % 2==1) l) v vc vt vs lv w0 w' F:=by
 obtain⟨pb,pD,p2,f2,h2⟩:=jB (a:=a) (b:=b) (cc:=cc) (d:=d) (tt:=tt) h ht 24;have dt:=jH ht;have hwp:=ee (n:=x.pc) O_;have qb:=(h2.af aj).1;have hk:=fun W=>Ao (x.R a) W (hR a).1 (hR a).2
 go_enter func136,ntmps136;go_wp2_with fail;clear pb pD p2 f2 h;generalize ((w.alloc (.cells #[.int .i64 24,a,b,cc,d,tt] 236)).setCell ⟨D.gt,th*658+2,none⟩ (.int .i64 ((x.pc:Int)+1)))=W2 at h2 qb ⊢;clear qb;have qb:=fun z:aL W2=>((h2.next z.ok).af aj).1
 have ba:decide ((a:Int)<48)=true:=cM O_;have ra:=fun z:aL W2=>(h2.next z.ok).gm ht ha
 have H2:=aJ h2;clear h2;refine bU (Ext W2) 12 (bu W2).bh K_ K_ ?_;simp only [rR,rP,rQ,rO]
 repeat (go_big_quiet_step (first | exact cP (hk _)))
 refine qA ?_;rintro _ ⟨z1,rfl⟩;exact Np
theorem Y1(h:aW D c th ov m x v vc vt vs lv w0 w F)(ht:th<ov.length)(hp:x.pc<1000)(ha:a<48)(hb:b<48)(hl:bz[tt]?=some l):
  jU 136 25 D th a b cc d tt w fun w'=>aW D c th ov m (({x with pc:=x.pc+1}:RT).jump (x.R a==x.R b) l) v vc vt vs lv w0 w' F:=by
 obtain⟨pb,pD,p2,f2,h2⟩:=jB (a:=a) (b:=b) (cc:=cc) (d:=d) (tt:=tt) h ht 25;have dt:=jH ht;have hwp:=ee (n:=x.pc) O_;have qb:=(h2.af aj).1;go_enter func136,ntmps136;go_wp2_with fail;clear pb pD p2 f2 h;generalize ((w.alloc (.cells #[.int .i64 25,a,b,cc,d,tt] 236)).setCell ⟨D.gt,th*658+2,none⟩ (.int .i64 ((x.pc:Int)+1)))=W2 at h2 qb ⊢;clear qb;have qb:=fun z:aL W2=>((h2.next z.ok).af aj).1
 have ba:decide ((a:Int)<48)=true:=cM O_;have bb:decide ((b:Int)<48)=true:=cM O_;have ra:=fun z:aL W2=>(h2.next z.ok).gm ht ha
 have rb:=fun z:aL W2=>(h2.next z.ok).gm ht hb
 have H2:=aJ h2;clear h2;refine qT 19 fun z1=>?_
 exact Np
theorem Y0(h:aW D c th ov m x v vc vt vs lv w0 w F)(ht:th<ov.length)(hp:x.pc<1000)(ha:a<48)(hb:b<48)(hl:bz[tt]?=some l):
  jU 136 26 D th a b cc d tt w fun w'=>aW D c th ov m (({x with pc:=x.pc+1}:RT).jump (decide (wrap64 (x.R a)<wrap64 (x.R b))) l) v vc vt vs lv w0 w' F:=by
 obtain⟨pb,pD,p2,f2,h2⟩:=jB (a:=a) (b:=b) (cc:=cc) (d:=d) (tt:=tt) h ht 26;have dt:=jH ht;have hwp:=ee (n:=x.pc) O_;have qb:=(h2.af aj).1;go_enter func136,ntmps136;go_wp2_with fail;clear pb pD p2 f2 h;generalize ((w.alloc (.cells #[.int .i64 26,a,b,cc,d,tt] 236)).setCell ⟨D.gt,th*658+2,none⟩ (.int .i64 ((x.pc:Int)+1)))=W2 at h2 qb ⊢;clear qb;have qb:=fun z:aL W2=>((h2.next z.ok).af aj).1
 have ba:decide ((a:Int)<48)=true:=cM O_;have bb:decide ((b:Int)<48)=true:=cM O_;have ra:=fun z:aL W2=>(h2.next z.ok).gm ht ha
 have rb:=fun z:aL W2=>(h2.next z.ok).gm ht hb
 have H2:=aJ h2;clear h2;refine qT 21 fun z1=>?_
 exact Np
theorem YW(h:aW D c th ov m x v vc vt vs lv w0 w F)(ht:th<ov.length)(hp:x.pc<1000)(ha:a<48)(IU:cc<48)(ok:bY c.T c.R c.H c.Re c.Ca c.S c.B)(F7:1≤b)(Ey:b≤13):
  jU 136 46 D th a b cc d tt w fun w'=>aW D c th ov m (({x with pc:=x.pc+1}:RT).set a (u64 (x.R cc+c.ad b 0))) v vc vt vs lv w0 w' F:=by
 obtain⟨pb,pD,p2,f2,h2⟩:=jB (a:=a) (b:=b) (cc:=cc) (d:=d) (tt:=tt) h ht 46;have dt:=jH ht;have hwp:=ee (n:=x.pc) O_;have qb:=(h2.af aj).1;obtain⟨_,_,e1,e2,e3,e4,_,_,_,_,e5,e6,e7,e8⟩:=id ok;have hk:=fun W=>lJ c.T c.R c.H c.Re c.Ca c.S c.B (b - 1) W e1 e2 e3 e4 e5 e6 e7 e8 b O_ O_
 clear e1 e2 e3 e4 e5 e6 e7 e8;go_enter func136,ntmps136;go_wp2_with fail;clear pb pD p2 f2 h;generalize ((w.alloc (.cells #[.int .i64 46,a,b,cc,d,tt] 236)).setCell ⟨D.gt,th*658+2,none⟩ (.int .i64 ((x.pc:Int)+1)))=W2 at h2 qb ⊢;clear qb;have qb:=fun z:aL W2=>((h2.next z.ok).af aj).1
 have ba:decide ((a:Int)<48)=true:=cM O_;have bcc:decide ((cc:Int)<48)=true:=cM O_;have ra:=fun z:aL W2=>(h2.next z.ok).gm ht ha
 have rcc:=fun z:aL W2=>(h2.next z.ok).gm ht IU
 have fr:=fun z:aL W2=>(h2.next z.ok).jQ (th*658+3+a)
 have g0:=fun z:aL W2=>((h2.next z.ok).bd.1 0).trans (show _=some (Value.int .i64 c.T) from rfl)
 have g1:=fun z:aL W2=>((h2.next z.ok).bd.1 1).trans (show _=some (Value.int .i64 c.R) from rfl)
 have g2:=fun z:aL W2=>((h2.next z.ok).bd.1 2).trans (show _=some (Value.int .i64 c.H) from rfl)
 have g3:=fun z:aL W2=>((h2.next z.ok).bd.1 3).trans (show _=some (Value.int .i64 c.Re) from rfl)
 have g4:=fun z:aL W2=>((h2.next z.ok).bd.1 4).trans (show _=some (Value.int .i64 c.Ca) from rfl)
 have g5:=fun z:aL W2=>((h2.next z.ok).bd.1 5).trans (show _=some (Value.int .i64 c.S) from rfl)
 have g6:=fun z:aL W2=>((h2.next z.ok).bd.1 6).trans (show _=some (Value.int .i64 c.B) from rfl)
 have H2:=aJ h2;clear h2;refine bU (Ext W2) 22 (bu W2).bh K_ K_ ?_;simp only [rR,rP,rQ,rO]
 repeat (go_big_quiet_step (exact oy (oo _) (hk _)))
 refine qA ?_;rintro _ ⟨z1,rfl⟩;go_wp2_with fail;refine iP ⟨rfl,((H2.out.next z1.ok).ju ht ha (by show(x.R cc+b7 c.R c.H c.S c.B (b - 1) % 18446744073709551616) % 18446744073709551616=u64 (x.R cc+c.ad b 0);unfold u64 Cf.ad;omega)).drop⟩
theorem YV(h:aW D c th ov m x v vc vt vs lv w0 w F)(ht:th<ov.length)(hp:x.pc<1000)(ha:a<48)(hb:b<48)(ok:bY c.T c.R c.H c.Re c.Ca c.S c.B)(hR:∀ a,0≤x.R a∧x.R a≤18446744073709551615):
  jU 136 47 D th a b cc d tt w fun w'=>aW D c th ov m (({x with pc:=x.pc+1}:RT).set a (x.R b % c.B)) v vc vt vs lv w0 w' F:=by
 obtain⟨pb,pD,p2,f2,h2⟩:=jB (a:=a) (b:=b) (cc:=cc) (d:=d) (tt:=tt) h ht 47;have dt:=jH ht;have hwp:=ee (n:=x.pc) O_;have qb:=(h2.af aj).1;obtain⟨_,_,_,_,_,_,_,_,_,_,_,_,e7,e8⟩:=id ok;go_enter func136,ntmps136;go_wp2_with fail;clear pb pD p2 f2 h;generalize ((w.alloc (.cells #[.int .i64 47,a,b,cc,d,tt] 236)).setCell ⟨D.gt,th*658+2,none⟩ (.int .i64 ((x.pc:Int)+1)))=W2 at h2 qb ⊢;clear qb;have qb:=fun z:aL W2=>((h2.next z.ok).af aj).1
 have ba:decide ((a:Int)<48)=true:=cM O_;have bb:decide ((b:Int)<48)=true:=cM O_;have ra:=fun z:aL W2=>(h2.next z.ok).gm ht ha
 have rb:=fun z:aL W2=>(h2.next z.ok).gm ht hb
 have fr:=fun z:aL W2=>(h2.next z.ok).jQ (th*658+3+a)
 have g6:=fun z:aL W2=>((h2.next z.ok).bd.1 6).trans (show _=some (Value.int .i64 c.B) from rfl)
 have H2:=aJ h2;clear h2;refine qT 20 fun z1=>?_
 go_wp2_with fail;refine iP ⟨rfl,((H2.out.next z1.ok).ju ht ha (by exact Int.tmod_eq_emod_of_nonneg (hR b).1)).drop⟩
theorem Ze(h:aW D c th ov m x v vc vt vs lv w0 w F)(ht:th<ov.length)(hp:x.pc<1000)(hl:bz[tt]?=some l):
  jU 136 11 D th a b cc d tt w fun w'=>aW D c th ov m (({x with pc:=l}:RT)) v vc vt vs lv w0 w' F:=by
 obtain⟨pb,pD,p2,f2,h2⟩:=jB (a:=a) (b:=b) (cc:=cc) (d:=d) (tt:=tt) h ht 11;have dt:=jH ht;have hwp:=ee (n:=x.pc) O_;have qb:=(h2.af aj).1;go_enter func136,ntmps136;go_wp2_with fail;clear pb pD p2 f2 h;generalize ((w.alloc (.cells #[.int .i64 11,a,b,cc,d,tt] 236)).setCell ⟨D.gt,th*658+2,none⟩ (.int .i64 ((x.pc:Int)+1)))=W2 at h2 qb ⊢;clear qb;have qb:=fun z:aL W2=>((h2.next z.ok).af aj).1
 have hto:=(fO.1 hl).1;have q9:=fun z:aL W2=>((h2.next z.ok).bd.1 9).trans (show _=some (.slice (some ⟨D.gb,0,none⟩) bz.length D.cb) from rfl)
 have ql:=fun z:aL W2=>(h2.next z.ok).cI hl
 have dl:decide ((tt:Int)<(bz.length:Int))=true:=cM O_;generalize bz.length=nl at q9 dl hto;clear hl;have fr:=fun z:aL W2=>(h2.next z.ok).jQ (th*658+2)
 have fc:=fun z:aL W2=>((h2.next z.ok).tr ht (i:=2) rfl).trans (show _=some (.int .i64 ((x.pc+1:Nat):Int)) from rfl)
 have H2:=aJ h2;clear h2;refine qT 11 fun z1=>?_
 go_wp2_with fail;refine iP ⟨rfl,((H2.out.next z1.ok).oI ht l).drop⟩
theorem YZ(h:aW D c th ov m x v vc vt vs lv w0 w F)(ht:th<ov.length)(hp:x.pc<1000)(hy:m.calls[x.call]?=some y)(_:0≤m.au∧m.au≤65536):
  jU 136 27 D th a b cc d tt w fun w'=>∃ JQ,aW D c th ov (m.cK x.call fun y=>{y with pt:=m.au}) ({x with pc:=x.pc+1}:RT) v JQ vt vs lv w0 w' F:=by
 obtain⟨pb,pD,p2,f2,h2⟩:=jB (a:=a) (b:=b) (cc:=cc) (d:=d) (tt:=tt) h ht 27;have dt:=jH ht;have hwp:=ee (n:=x.pc) O_;have qb:=(h2.af aj).1;obtain⟨g,cp,rfl⟩:=h.call hy;go_enter func136,ntmps136;go_wp2_with fail;clear pb pD p2 f2 h;generalize ((w.alloc (.cells #[.int .i64 27,a,b,cc,d,tt] 236)).setCell ⟨D.gt,th*658+2,none⟩ (.int .i64 ((x.pc:Int)+1)))=W2 at h2 qb ⊢;clear qb;have qb:=fun z:aL W2=>((h2.next z.ok).af aj).1
 have qc:=fun z:aL W2=>((h2.next z.ok).bd.1 24).trans (show _=some (.slice (some ⟨g,0,none⟩) m.calls.length cp) from rfl)
 have qk:=fun z:aL W2=>((h2.next z.ok).tr ht (i:=1) rfl).trans (show _=some (.int .i64 (x.call:Int)) from rfl)
 have dk:x.call<m.calls.length:=(fO.1 hy).1;have fr:=fun z:aL W2=>(h2.next z.ok).cF (x.call*9+6)
 have fc:=fun z:aL W2=>((h2.next z.ok).cc hy (i:=6) rfl).trans (show _=some (.int .i64 y.pt) from rfl)
 have qm:=fun z:aL W2=>((h2.next z.ok).bd.1 23).trans (show _=some (.int .i64 m.au) from rfl)
 have H2:=aJ h2;clear h2;refine qT 14 fun z1=>?_
 go_wp2_with fail;refine iP ⟨rfl,_,((H2.out.next z1.ok).fU hy (f:=fun y=>{y with pt:=m.au}) rfl O_).drop⟩
theorem YY(h:aW D c th ov m x v vc vt vs lv w0 w F)(ht:th<ov.length)(hp:x.pc<1000)(ha:a<48)(hy:m.calls[x.call]?=some y):
  jU 136 28 D th a b cc d tt w fun w'=>∃ JQ,aW D c th ov (m.cK x.call fun y=>{y with pt:=wrap64 (x.R a)}) ({x with pc:=x.pc+1}:RT) v JQ vt vs lv w0 w' F:=by
 obtain⟨pb,pD,p2,f2,h2⟩:=jB (a:=a) (b:=b) (cc:=cc) (d:=d) (tt:=tt) h ht 28;have dt:=jH ht;have hwp:=ee (n:=x.pc) O_;have qb:=(h2.af aj).1;obtain⟨g,cp,rfl⟩:=h.call hy;go_enter func136,ntmps136;go_wp2_with fail;clear pb pD p2 f2 h;generalize ((w.alloc (.cells #[.int .i64 28,a,b,cc,d,tt] 236)).setCell ⟨D.gt,th*658+2,none⟩ (.int .i64 ((x.pc:Int)+1)))=W2 at h2 qb ⊢;clear qb;have qb:=fun z:aL W2=>((h2.next z.ok).af aj).1
 have ba:decide ((a:Int)<48)=true:=cM O_;have ra:=fun z:aL W2=>(h2.next z.ok).gm ht ha
 have qc:=fun z:aL W2=>((h2.next z.ok).bd.1 24).trans (show _=some (.slice (some ⟨g,0,none⟩) m.calls.length cp) from rfl)
 have qk:=fun z:aL W2=>((h2.next z.ok).tr ht (i:=1) rfl).trans (show _=some (.int .i64 (x.call:Int)) from rfl)
 have dk:x.call<m.calls.length:=(fO.1 hy).1;have fr:=fun z:aL W2=>(h2.next z.ok).cF (x.call*9+6)
 have fc:=fun z:aL W2=>((h2.next z.ok).cc hy (i:=6) rfl).trans (show _=some (.int .i64 y.pt) from rfl)
 have H2:=aJ h2;clear h2;refine qT 18 fun z1=>?_
 go_wp2_with fail;refine iP ⟨rfl,_,((H2.out.next z1.ok).fU hy (f:=fun y=>{y with pt:=wrap64 (x.R a)}) rfl O_).drop⟩
theorem YU(h:aW D c th ov m x v vc vt vs lv w0 w F)(ht:th<ov.length)(hp:x.pc<1000)(ha:a<48)(hy:m.calls[x.call]?=some y):
  jU 136 48 D th a b cc d tt w fun w'=>aW D c th ov m (({x with pc:=x.pc+1}:RT).set a (u64 y.arg)) v vc vt vs lv w0 w' F:=by
 obtain⟨pb,pD,p2,f2,h2⟩:=jB (a:=a) (b:=b) (cc:=cc) (d:=d) (tt:=tt) h ht 48;have dt:=jH ht;have hwp:=ee (n:=x.pc) O_;have qb:=(h2.af aj).1;obtain⟨g,cp,rfl⟩:=h.call hy;go_enter func136,ntmps136;go_wp2_with fail;clear pb pD p2 f2 h;generalize ((w.alloc (.cells #[.int .i64 48,a,b,cc,d,tt] 236)).setCell ⟨D.gt,th*658+2,none⟩ (.int .i64 ((x.pc:Int)+1)))=W2 at h2 qb ⊢;clear qb;have qb:=fun z:aL W2=>((h2.next z.ok).af aj).1
 have ba:decide ((a:Int)<48)=true:=cM O_;have ra:=fun z:aL W2=>(h2.next z.ok).gm ht ha
 have fr:=fun z:aL W2=>(h2.next z.ok).jQ (th*658+3+a)
 have qc:=fun z:aL W2=>((h2.next z.ok).bd.1 24).trans (show _=some (.slice (some ⟨g,0,none⟩) m.calls.length cp) from rfl)
 have qk:=fun z:aL W2=>((h2.next z.ok).tr ht (i:=1) rfl).trans (show _=some (.int .i64 (x.call:Int)) from rfl)
 have dk:x.call<m.calls.length:=(fO.1 hy).1;have qy:=fun z:aL W2=>((h2.next z.ok).cc hy (i:=2) rfl).trans (show _=some (.int .i64 y.arg) from rfl)
 exact NA
theorem YT(h:aW D c th ov m x v vc vt vs lv w0 w F)(ht:th<ov.length)(hp:x.pc<1000)(ha:a<48)(hy:m.calls[x.call]?=some y):
  jU 136 49 D th a b cc d tt w fun w'=>aW D c th ov m (({x with pc:=x.pc+1}:RT).set a (u64 y.dat)) v vc vt vs lv w0 w' F:=by
 obtain⟨pb,pD,p2,f2,h2⟩:=jB (a:=a) (b:=b) (cc:=cc) (d:=d) (tt:=tt) h ht 49;have dt:=jH ht;have hwp:=ee (n:=x.pc) O_;have qb:=(h2.af aj).1;obtain⟨g,cp,rfl⟩:=h.call hy;go_enter func136,ntmps136;go_wp2_with fail;clear pb pD p2 f2 h;generalize ((w.alloc (.cells #[.int .i64 49,a,b,cc,d,tt] 236)).setCell ⟨D.gt,th*658+2,none⟩ (.int .i64 ((x.pc:Int)+1)))=W2 at h2 qb ⊢;clear qb;have qb:=fun z:aL W2=>((h2.next z.ok).af aj).1
 have ba:decide ((a:Int)<48)=true:=cM O_;have ra:=fun z:aL W2=>(h2.next z.ok).gm ht ha
 have fr:=fun z:aL W2=>(h2.next z.ok).jQ (th*658+3+a)
 have qc:=fun z:aL W2=>((h2.next z.ok).bd.1 24).trans (show _=some (.slice (some ⟨g,0,none⟩) m.calls.length cp) from rfl)
 have qk:=fun z:aL W2=>((h2.next z.ok).tr ht (i:=1) rfl).trans (show _=some (.int .i64 (x.call:Int)) from rfl)
 have dk:x.call<m.calls.length:=(fO.1 hy).1;have qy:=fun z:aL W2=>((h2.next z.ok).cc hy (i:=3) rfl).trans (show _=some (.int .i64 y.dat) from rfl)
 exact NA
theorem PG(h:aW D c th ov m x v vc vt vs lv w0 w F)(ht:th<ov.length)(hp:x.pc<1000){k:Int}(hk:k=10∨(30≤k∧k≤45)∨k=52∨k=53){P:World→Prop}
  (C:∀ w2 bb,aW D c th ov m ({x with pc:=x.pc+1}:RT) v vc vt vs lv w0 w2 (ob bb 236 [k,a,b,cc,d,tt]::F)→cm 154 #[some D.bD,th,.agg #[k,a,b,cc,d,tt]] w2 (.tuple #[]) fun w'=>P w'):
  cm 136 #[some D.bD,th,.agg #[k,a,b,cc,d,tt]] w (.tuple #[]) fun w'=>P w':=by
 obtain⟨pb,pD,p2,f2,h2⟩:=jB (a:=a) (b:=b) (cc:=cc) (d:=d) (tt:=tt) h ht k;have dt:=jH ht;have hwp:=ee (n:=x.pc) O_;have qb:=(h2.af aj).1;go_enter func136,ntmps136;go_wp2_with fail;clear pb pD p2 f2 h;generalize ((w.alloc (.cells #[k,a,b,cc,d,tt] 236)).setCell ⟨D.gt,th*658+2,none⟩ (.int .i64 ((x.pc:Int)+1)))=W2 at h2 qb ⊢;exact ND
theorem PJ(h:aW D c th ov m x v vc vt vs lv w0 w F)(ht:th<ov.length)(hp:x.pc<1000){P:World→Prop}
  (C:∀ w2 bb,aW D c th ov m ({x with pc:=x.pc+1}:RT) v vc vt vs lv w0 w2 (ob bb 236 [.int .i64 14,a,b,cc,d,tt]::F)→cm 148 #[some D.bD,th,.agg #[.int .i64 14,a,b,cc,d,tt]] w2 (.tuple #[]) fun w'=>P w'):
  jU 136 14 D th a b cc d tt w fun w'=>P w':=by
 obtain⟨pb,pD,p2,f2,h2⟩:=jB (a:=a) (b:=b) (cc:=cc) (d:=d) (tt:=tt) h ht 14;have dt:=jH ht;have hwp:=ee (n:=x.pc) O_;have qb:=(h2.af aj).1;go_enter func136,ntmps136;go_wp2_with fail;clear pb pD p2 f2 h;generalize ((w.alloc (.cells #[.int .i64 14,a,b,cc,d,tt] 236)).setCell ⟨D.gt,th*658+2,none⟩ (.int .i64 ((x.pc:Int)+1)))=W2 at h2 qb ⊢;exact ND
theorem YQ(h:aW D c th ov m x v vc vt vs lv w0 w F)(ht:th<ov.length):
  jU 154 10 D th a b cc d tt w fun w'=>aW D c th ov m (x) v vc vt vs lv w0 w' F:=by
 have h2:aW D c th ov m x v vc vt vs lv w0 (w.alloc (.cells #[.int .i64 10,a,b,cc,d,tt] 236)) (ob w.heap.size 236 [.int .i64 10,a,b,cc,d,tt]::F):=h.alloc #[.int .i64 10,a,b,cc,d,tt] 236;have pD:=(h2.bd.1 11).trans (show _=some (.slice (some ⟨D.gt,0,none⟩) ov.length D.ct) from rfl);have dt:=jH ht;have qb:=(h2.af aj).1;go_enter func154,ntmps154;go_wp2_with fail;clear pD h;exact iP ⟨rfl,h2.drop⟩
theorem YJ(h:aW D c th ov m x v vc vt vs lv w0 w F)(ht:th<ov.length)(ha:a<48):
  jU 154 38 D th a b cc d tt w fun w'=>aW D c th ov m (x.set a (u64 x.rc)) v vc vt vs lv w0 w' F:=by
 have h2:aW D c th ov m x v vc vt vs lv w0 (w.alloc (.cells #[.int .i64 38,a,b,cc,d,tt] 236)) (ob w.heap.size 236 [.int .i64 38,a,b,cc,d,tt]::F):=h.alloc #[.int .i64 38,a,b,cc,d,tt] 236;have pD:=(h2.bd.1 11).trans (show _=some (.slice (some ⟨D.gt,0,none⟩) ov.length D.ct) from rfl);have dt:=jH ht;have qb:=(h2.af aj).1;go_enter func154,ntmps154;go_wp2_with fail;clear pD h;generalize (w.alloc (.cells #[.int .i64 38,a,b,cc,d,tt] 236))=W2 at h2 qb ⊢;clear qb;have r0:=h2.rd ht;have qb:=fun z:aL W2=>((h2.next z.ok).af aj).1
 have ba:decide ((a:Int)<48)=true:=cM O_;have ra:=fun z:aL W2=>(h2.next z.ok).gm ht ha
 have fr:=fun z:aL W2=>(h2.next z.ok).jQ (th*658+3+a)
 have qr:=fun z:aL W2=>((h2.next z.ok).tr ht (i:=53) rfl).trans (show _=some (.int .i64 x.rc) from rfl)
 have H2:=aJ h2;clear h2;refine qT 11 fun z1=>?_
 exact NN
theorem YI(h:aW D c th ov m x v vc vt vs lv w0 w F)(ht:th<ov.length)(ha:a<48):
  jU 154 39 D th a b cc d tt w fun w'=>aW D c th ov m ({x with rc:=wrap64 (x.R a)}) v vc vt vs lv w0 w' F:=by
 have h2:aW D c th ov m x v vc vt vs lv w0 (w.alloc (.cells #[.int .i64 39,a,b,cc,d,tt] 236)) (ob w.heap.size 236 [.int .i64 39,a,b,cc,d,tt]::F):=h.alloc #[.int .i64 39,a,b,cc,d,tt] 236;have pD:=(h2.bd.1 11).trans (show _=some (.slice (some ⟨D.gt,0,none⟩) ov.length D.ct) from rfl);have dt:=jH ht;have qb:=(h2.af aj).1;go_enter func154,ntmps154;go_wp2_with fail;clear pD h;generalize (w.alloc (.cells #[.int .i64 39,a,b,cc,d,tt] 236))=W2 at h2 qb ⊢;clear qb;have r0:=h2.rd ht;have qb:=fun z:aL W2=>((h2.next z.ok).af aj).1
 have ba:decide ((a:Int)<48)=true:=cM O_;have ra:=fun z:aL W2=>(h2.next z.ok).gm ht ha
 have qr:=fun z:aL W2=>((h2.next z.ok).tr ht (i:=53) rfl).trans (show _=some (.int .i64 x.rc) from rfl)
 have fr:=fun z:aL W2=>(h2.next z.ok).jQ (th*658+53)
 have H2:=aJ h2;clear h2;refine qT 11 fun z1=>?_
 go_wp2_with fail;exact iP ⟨rfl,((H2.out.next z1.ok).Af ht (MQ x v (wrap64 (x.R a))) O_ rfl).drop⟩
theorem YG(h:aW D c th ov m x v vc vt vs lv w0 w F)(ht:th<ov.length):
  jU 154 41 D th a b cc d tt w fun w'=>∃ v',(v'.pd=v.pd∧v'.pf=v.pf∧v'.full=v.full)∧aW D c th ov m ({x with names:= []}) v' vc vt vs lv w0 w' F:=by
 have h2:aW D c th ov m x v vc vt vs lv w0 (w.alloc (.cells #[.int .i64 41,a,b,cc,d,tt] 236)) (ob w.heap.size 236 [.int .i64 41,a,b,cc,d,tt]::F):=h.alloc #[.int .i64 41,a,b,cc,d,tt] 236;have pD:=(h2.bd.1 11).trans (show _=some (.slice (some ⟨D.gt,0,none⟩) ov.length D.ct) from rfl);have dt:=jH ht;have qb:=(h2.af aj).1;have fr:=h2.jQ (th*658+54);have fc:=h2.tr ht (uF (x,v));have h3:=h2.Pq ht;go_enter func154,ntmps154;go_wp2_with fail;exact iP ⟨rfl,{v with nm:=bG},⟨rfl,rfl,rfl⟩,h3.drop⟩
theorem YD(h:aW D c th ov m x v vc vt vs lv w0 w F)(ht:th<ov.length)(ha:a<48)(hrc:-1≤x.rc∧x.rc<c.R)(ok:bY c.T c.R c.H c.Re c.Ca c.S c.B)(hd:-1≤d∧d<48):
  jU 154 45 D th a b cc d tt w fun w'=>aW D c th ov m (x.set a (u64 (x.rc*c.H+d))) v vc vt vs lv w0 w' F:=by
 obtain⟨_,_,e1,e2,e3,e4,_⟩:=id ok;have p0:-8≤x.rc*c.H∧x.rc*c.H≤128:=⟨by have:=JP (show -1≤x.rc from O_) (show 0≤c.H from O_);omega,by have:=JP (show x.rc≤16 from O_) (show 0≤c.H from O_);omega⟩;have hw1:IntKind.i64.wrap (x.rc*c.H)=x.rc*c.H:=yx O_ O_;have DG:IntKind.i64.wrap (x.rc*c.H+d)=x.rc*c.H+d:=yx O_ O_;have h2:aW D c th ov m x v vc vt vs lv w0 (w.alloc (.cells #[.int .i64 45,a,b,cc,d,tt] 236)) (ob w.heap.size 236 [.int .i64 45,a,b,cc,d,tt]::F):=h.alloc #[.int .i64 45,a,b,cc,d,tt] 236;have pD:=(h2.bd.1 11).trans (show _=some (.slice (some ⟨D.gt,0,none⟩) ov.length D.ct) from rfl);have dt:=jH ht;have qb:=(h2.af aj).1;go_enter func154,ntmps154;go_wp2_with fail;clear pD h;generalize (w.alloc (.cells #[.int .i64 45,a,b,cc,d,tt] 236))=W2 at h2 qb ⊢;clear qb;have r0:=h2.rd ht;have qb:=fun z:aL W2=>((h2.next z.ok).af aj).1
 have ba:decide ((a:Int)<48)=true:=cM O_;have ra:=fun z:aL W2=>(h2.next z.ok).gm ht ha
 have fr:=fun z:aL W2=>(h2.next z.ok).jQ (th*658+3+a)
 have qr:=fun z:aL W2=>((h2.next z.ok).tr ht (i:=53) rfl).trans (show _=some (.int .i64 x.rc) from rfl)
 have qh:=fun z:aL W2=>((h2.next z.ok).bd.1 2).trans (show _=some (.int .i64 c.H) from rfl)
 have H2:=aJ h2;clear h2;refine qT 20 fun z1=>?_
 exact NN
theorem YC(h:aW D c th ov m x v vc vt vs lv w0 w F)(ht:th<ov.length)(ha:a<48)(hb:b<48)(hrc:-1≤x.rc∧x.rc<c.R)(ok:bY c.T c.R c.H c.Re c.Ca c.S c.B):
  jU 154 52 D th a b cc d tt w fun w'=>aW D c th ov m (x.set a (u64 (x.rc*c.H+wrap64 (x.R b)))) v vc vt vs lv w0 w' F:=by
 obtain⟨_,_,e1,e2,e3,e4,_⟩:=id ok;have p0:-8≤x.rc*c.H∧x.rc*c.H≤128:=⟨by have:=JP (show -1≤x.rc from O_) (show 0≤c.H from O_);omega,by have:=JP (show x.rc≤16 from O_) (show 0≤c.H from O_);omega⟩;have hw1:IntKind.i64.wrap (x.rc*c.H)=x.rc*c.H:=yx O_ O_;have h2:aW D c th ov m x v vc vt vs lv w0 (w.alloc (.cells #[.int .i64 52,a,b,cc,d,tt] 236)) (ob w.heap.size 236 [.int .i64 52,a,b,cc,d,tt]::F):=h.alloc #[.int .i64 52,a,b,cc,d,tt] 236;have pD:=(h2.bd.1 11).trans (show _=some (.slice (some ⟨D.gt,0,none⟩) ov.length D.ct) from rfl);have dt:=jH ht;have qb:=(h2.af aj).1;go_enter func154,ntmps154;go_wp2_with fail;clear pD h;generalize (w.alloc (.cells #[.int .i64 52,a,b,cc,d,tt] 236))=W2 at h2 qb ⊢;clear qb;have r0:=h2.rd ht;have qb:=fun z:aL W2=>((h2.next z.ok).af aj).1
 have ba:decide ((a:Int)<48)=true:=cM O_;have bb:decide ((b:Int)<48)=true:=cM O_;have ra:=fun z:aL W2=>(h2.next z.ok).gm ht ha
 have rb:=fun z:aL W2=>(h2.next z.ok).gm ht hb
 have fr:=fun z:aL W2=>(h2.next z.ok).jQ (th*658+3+a)
 have qr:=fun z:aL W2=>((h2.next z.ok).tr ht (i:=53) rfl).trans (show _=some (.int .i64 x.rc) from rfl)
 have qh:=fun z:aL W2=>((h2.next z.ok).bd.1 2).trans (show _=some (.int .i64 c.H) from rfl)
 have H2:=aJ h2;clear h2;refine qT 26 fun z1=>?_
 go_wp2_with fail;exact iP ⟨rfl,((H2.out.next z1.ok).ju ht ha (by show(wrap64 (x.rc*c.H+wrap64 (x.R b))) % 18446744073709551616=u64 (x.rc*c.H+wrap64 (x.R b));generalize x.rc*c.H+wrap64 (x.R b)=y;unfold wrap64 u64;omega)).drop⟩
theorem YB(h:aW D c th ov m x v vc vt vs lv w0 w F)(ht:th<ov.length)(ha:a<48)(hrc:-1≤x.rc∧x.rc<c.R)(ok:bY c.T c.R c.H c.Re c.Ca c.S c.B)(hl:bz[tt]?=some l):
  jU 154 53 D th a b cc d tt w fun w'=>aW D c th ov m (x.jump (decide (wrap64 (x.R a)<(x.rc+1)*c.H)) l) v vc vt vs lv w0 w' F:=by
 obtain⟨_,_,e1,e2,e3,e4,_⟩:=id ok;have p1:0≤(x.rc+1)*c.H∧(x.rc+1)*c.H≤136:=⟨wX O_ O_,by have:=JP (show x.rc+1≤17 from O_) (show 0≤c.H from O_);omega⟩;have hw1:IntKind.i64.wrap (x.rc+1)=x.rc+1:=yx O_ O_;have DG:IntKind.i64.wrap ((x.rc+1)*c.H)=(x.rc+1)*c.H:=yx O_ O_;have h2:aW D c th ov m x v vc vt vs lv w0 (w.alloc (.cells #[.int .i64 53,a,b,cc,d,tt] 236)) (ob w.heap.size 236 [.int .i64 53,a,b,cc,d,tt]::F):=h.alloc #[.int .i64 53,a,b,cc,d,tt] 236;have pD:=(h2.bd.1 11).trans (show _=some (.slice (some ⟨D.gt,0,none⟩) ov.length D.ct) from rfl);have dt:=jH ht;have qb:=(h2.af aj).1;go_enter func154,ntmps154;go_wp2_with fail;clear pD h;generalize (w.alloc (.cells #[.int .i64 53,a,b,cc,d,tt] 236))=W2 at h2 qb ⊢;clear qb;have r0:=h2.rd ht;have qb:=fun z:aL W2=>((h2.next z.ok).af aj).1
 have ba:decide ((a:Int)<48)=true:=cM O_;have ra:=fun z:aL W2=>(h2.next z.ok).gm ht ha
 have qr:=fun z:aL W2=>((h2.next z.ok).tr ht (i:=53) rfl).trans (show _=some (.int .i64 x.rc) from rfl)
 have qh:=fun z:aL W2=>((h2.next z.ok).bd.1 2).trans (show _=some (.int .i64 c.H) from rfl)
 have H2:=aJ h2;clear h2;refine qT 24 fun z1=>?_
 exact Np
theorem YL(h:aW D c th ov m x v vc vt vs lv w0 w F)(ht:th<ov.length)(hlv:lv.length=m.lists.length){r:Nat}(hr:x.rc=(r:Int)){li:List Int}(lY:m.lists[r]?=some li)(hl:bz[tt]?=some l):
  jU 154 36 D th a b cc d tt w fun w'=>aW D c th ov m (x.jump (decide ((li.length:Int)<c.Re)) l) v vc vt vs lv w0 w' F:=by
 have hrl:=(fO.1 lY).1;obtain⟨la,hla⟩:∃ la,lv[r]?=some la:=⟨lv[r],fy O_⟩;obtain⟨A,cp,rfl⟩:=aA (h.xG hla lY);have h2:aW D c th ov m x v vc vt vs lv w0 (w.alloc (.cells #[.int .i64 36,a,b,cc,d,tt] 236)) (ob w.heap.size 236 [.int .i64 36,a,b,cc,d,tt]::F):=h.alloc #[.int .i64 36,a,b,cc,d,tt] 236;have pD:=(h2.bd.1 11).trans (show _=some (.slice (some ⟨D.gt,0,none⟩) ov.length D.ct) from rfl);have dt:=jH ht;have qb:=(h2.af aj).1;go_enter func154,ntmps154;go_wp2_with fail;clear pD h;generalize (w.alloc (.cells #[.int .i64 36,a,b,cc,d,tt] 236))=W2 at h2 qb ⊢;clear qb;have r0:=h2.rd ht;have qb:=fun z:aL W2=>((h2.next z.ok).af aj).1
 have qr:=fun z:aL W2=>((h2.next z.ok).tr ht (i:=53) rfl).trans (show _=some (.int .i64 (r:Int)) from by rw [←hr])
 have ql:=fun z:aL W2=>((h2.next z.ok).bd.1 14).trans (show _=some (.slice (some ⟨D.gl,0,none⟩) m.lists.length D.cl) from rfl)
 have qli:=fun z:aL W2=>((h2.next z.ok).rd ht).ls hla
 have qe:=fun z:aL W2=>((h2.next z.ok).bd.1 3).trans (show _=some (.int .i64 c.Re) from rfl)
 have H2:=aJ h2;clear h2;refine qT 21 fun z1=>?_
 exact Np
theorem YK(h:aW D c th ov m x v vc vt vs lv w0 w F)(ht:th<ov.length)(hlv:lv.length=m.lists.length){r:Nat}(hr:x.rc=(r:Int)){li:List Int}(lY:m.lists[r]?=some li)(hl:bz[tt]?=some l):
  jU 154 37 D th a b cc d tt w fun w'=>aW D c th ov m (x.jump (decide (li= [])) l) v vc vt vs lv w0 w' F:=by
 have hrl:=(fO.1 lY).1;obtain⟨la,hla⟩:∃ la,lv[r]?=some la:=⟨lv[r],fy O_⟩;obtain⟨A,cp,rfl⟩:=aA (h.xG hla lY);have h2:aW D c th ov m x v vc vt vs lv w0 (w.alloc (.cells #[.int .i64 37,a,b,cc,d,tt] 236)) (ob w.heap.size 236 [.int .i64 37,a,b,cc,d,tt]::F):=h.alloc #[.int .i64 37,a,b,cc,d,tt] 236;have pD:=(h2.bd.1 11).trans (show _=some (.slice (some ⟨D.gt,0,none⟩) ov.length D.ct) from rfl);have dt:=jH ht;have qb:=(h2.af aj).1;go_enter func154,ntmps154;go_wp2_with fail;clear pD h;generalize (w.alloc (.cells #[.int .i64 37,a,b,cc,d,tt] 236))=W2 at h2 qb ⊢;clear qb;have r0:=h2.rd ht;have qb:=fun z:aL W2=>((h2.next z.ok).af aj).1
 have qr:=fun z:aL W2=>((h2.next z.ok).tr ht (i:=53) rfl).trans (show _=some (.int .i64 (r:Int)) from by rw [←hr])
 have ql:=fun z:aL W2=>((h2.next z.ok).bd.1 14).trans (show _=some (.slice (some ⟨D.gl,0,none⟩) m.lists.length D.cl) from rfl)
 have qli:=fun z:aL W2=>((h2.next z.ok).rd ht).ls hla
 have H2:=aJ h2;clear h2;refine qT 16 fun z1=>?_
 go_wp2_with fail;refine un (vF (H2.out.next z1.ok) ht hl _) fun w3 h3=>?_
 go_wp2_with fail;exact iP ⟨rfl,h3.drop.LM (by cases li<;>rfl)⟩
theorem Ux(h:aW D c th ov m x v vc vt vs lv w0 w F)(ht:th<ov.length)(hc:x.cache= [])(hl:bz[tt]?=some l):
  jU 154 31 D th a b cc d tt w fun w'=>aW D c th ov m ({x with pc:=l}) v vc vt vs lv w0 w' F:=by
 obtain⟨A,cp,hca⟩:=aA h.Lc;rw [hc] at hca;have h2:aW D c th ov m x v vc vt vs lv w0 (w.alloc (.cells #[.int .i64 31,a,b,cc,d,tt] 236)) (ob w.heap.size 236 [.int .i64 31,a,b,cc,d,tt]::F):=h.alloc #[.int .i64 31,a,b,cc,d,tt] 236;have pD:=(h2.bd.1 11).trans (show _=some (.slice (some ⟨D.gt,0,none⟩) ov.length D.ct) from rfl);have dt:=jH ht;have qb:=(h2.af aj).1;have Ag:=(h2.tr ht (hU (x,v))).trans (ep some hca);go_enter func154,ntmps154;go_wp2_with fail;clear Ag;clear pD h;generalize (w.alloc (.cells #[.int .i64 31,a,b,cc,d,tt] 236))=W2 at h2 qb ⊢;exact Wr
theorem Uu(h:aW D c th ov m x v vc vt vs lv w0 w F)(ht:th<ov.length)(hc:x.cache= [])(hl:bz[tt]?=some l):
  jU 154 33 D th a b cc d tt w fun w'=>aW D c th ov m ({x with pc:=l}) v vc vt vs lv w0 w' F:=by
 obtain⟨A,cp,hca⟩:=aA h.Lc;rw [hc] at hca;have h2:aW D c th ov m x v vc vt vs lv w0 (w.alloc (.cells #[.int .i64 33,a,b,cc,d,tt] 236)) (ob w.heap.size 236 [.int .i64 33,a,b,cc,d,tt]::F):=h.alloc #[.int .i64 33,a,b,cc,d,tt] 236;have pD:=(h2.bd.1 11).trans (show _=some (.slice (some ⟨D.gt,0,none⟩) ov.length D.ct) from rfl);have dt:=jH ht;have qb:=(h2.af aj).1;have Ag:=(h2.tr ht (hU (x,v))).trans (ep some hca);go_enter func154,ntmps154;go_wp2_with fail;clear Ag;clear pD h;generalize (w.alloc (.cells #[.int .i64 33,a,b,cc,d,tt] 236))=W2 at h2 qb ⊢;exact Wr
theorem Ut(h:aW D c th ov m x v vc vt vs lv w0 w F)(ht:th<ov.length)(ha:a<48){k:Nat}(hk:x.cache.length=k+1)(hkb:k<100){z:Int}(hz:x.cache[k]?=some z):
  jU 154 33 D th a b cc d tt w fun w'=>aW D c th ov m (x.set a (u64 z)) v vc vt vs lv w0 w' F:=by
 obtain⟨g,cp,hca,Xg⟩:=h.Mn O_;have Vm:k≤cp:=O_
 have h2:aW D c th ov m x v vc vt vs lv w0 (w.alloc (.cells #[.int .i64 33,a,b,cc,d,tt] 236)) (ob w.heap.size 236 [.int .i64 33,a,b,cc,d,tt]::F):=h.alloc #[.int .i64 33,a,b,cc,d,tt] 236;have pD:=(h2.bd.1 11).trans (show _=some (.slice (some ⟨D.gt,0,none⟩) ov.length D.ct) from rfl);have dt:=jH ht;have qb:=(h2.af aj).1;have Ag:=(h2.tr ht (hU (x,v))).trans (show _=some (.slice (some ⟨g,0,none⟩) (k+1) cp) from by rw [hca,hk]);go_enter func154,ntmps154;go_wp2_with fail;clear Ag;clear pD h;generalize (w.alloc (.cells #[.int .i64 33,a,b,cc,d,tt] 236))=W2 at h2 qb ⊢;clear qb;have r0:=h2.rd ht;have qb:=fun z:aL W2=>((h2.next z.ok).af aj).1
 have ba:decide ((a:Int)<48)=true:=cM O_;have ra:=fun z:aL W2=>(h2.next z.ok).gm ht ha
 have fr:=fun z:aL W2=>(h2.next z.ok).jQ (th*658+3+a)
 have qc:=fun z:aL W2=>(((h2.next z.ok).tr ht (hU (x,v)))).trans (show _=some (.slice (some ⟨g,0,none⟩) (k+1) cp) from by rw [hca,hk])
 have qz:=fun y:aL W2=>(h2.next y.ok).atC hca hz
 have H2:=aJ h2;clear h2;refine qT 19 fun z1=>?_
 exact NN
theorem YN(h:aW D c th ov m x v vc vt vs lv w0 w F)(ht:th<ov.length){k:Nat}(hk:x.cache.length=k+1)(hkb:k<100):
  jU 154 34 D th a b cc d tt w fun w'=>∃ v',(v'.pd=v.pd∧v'.pf=v.pf∧v'.full=v.full)∧aW D c th ov m ({x with cache:=x.cache.take k}) v' vc vt vs lv w0 w' F:=by
 obtain⟨g,cp,hca,Xg⟩:=h.Mn O_;have Vm:k≤cp:=O_
 have h2:aW D c th ov m x v vc vt vs lv w0 (w.alloc (.cells #[.int .i64 34,a,b,cc,d,tt] 236)) (ob w.heap.size 236 [.int .i64 34,a,b,cc,d,tt]::F):=h.alloc #[.int .i64 34,a,b,cc,d,tt] 236;have pD:=(h2.bd.1 11).trans (show _=some (.slice (some ⟨D.gt,0,none⟩) ov.length D.ct) from rfl);have dt:=jH ht;have qb:=(h2.af aj).1;go_enter func154,ntmps154;go_wp2_with fail;clear pD h;generalize (w.alloc (.cells #[.int .i64 34,a,b,cc,d,tt] 236))=W2 at h2 qb ⊢;clear qb;have r0:=h2.rd ht;have qb:=fun z:aL W2=>((h2.next z.ok).af aj).1
 have qd:=fun z:aL W2=>(((h2.next z.ok).tr ht (hU (_,v)))).trans (show _=some (.slice (some ⟨g,0,none⟩) (k+1) cp) from by rw [hca,hk])
 have fd:=fun z:aL W2=>(h2.next z.ok).jQ (th*658+52)
 have H2:=aJ h2;clear h2;refine qT 14 fun z1=>?_
 go_wp2_with fail;exact iP ⟨rfl,{v with ca:=kN g k cp},⟨rfl,rfl,rfl⟩,((H2.out.next z1.ok).aa0 ht hca (k:=k) O_).drop⟩
theorem Uw(h:aW D c th ov m x v vc vt vs lv w0 w F)(ht:th<ov.length)(ha:a<48){k:Nat}(hk:x.cache.length=k+1)(hkb:k<100){z:Int}(hz:x.cache[k]?=some z):
  jU 154 31 D th a b cc d tt w fun w'=>∃ v',(v'.pd=v.pd∧v'.pf=v.pf∧v'.full=v.full)∧aW D c th ov m ({x.set a (u64 z) with cache:=x.cache.take k}) v' vc vt vs lv w0 w' F:=by
 obtain⟨g,cp,hca,Xg⟩:=h.Mn O_;have Vm:k≤cp:=O_
 have h2:aW D c th ov m x v vc vt vs lv w0 (w.alloc (.cells #[.int .i64 31,a,b,cc,d,tt] 236)) (ob w.heap.size 236 [.int .i64 31,a,b,cc,d,tt]::F):=h.alloc #[.int .i64 31,a,b,cc,d,tt] 236;have pD:=(h2.bd.1 11).trans (show _=some (.slice (some ⟨D.gt,0,none⟩) ov.length D.ct) from rfl);have dt:=jH ht;have qb:=(h2.af aj).1;have Ag:=(h2.tr ht (hU (x,v))).trans (show _=some (.slice (some ⟨g,0,none⟩) (k+1) cp) from by rw [hca,hk]);go_enter func154,ntmps154;go_wp2_with fail;clear Ag;clear pD h;generalize (w.alloc (.cells #[.int .i64 31,a,b,cc,d,tt] 236))=W2 at h2 qb ⊢;clear qb;have r0:=h2.rd ht;have qb:=fun z:aL W2=>((h2.next z.ok).af aj).1
 have ba:decide ((a:Int)<48)=true:=cM O_;have ra:=fun z:aL W2=>(h2.next z.ok).gm ht ha
 have fr:=fun z:aL W2=>(h2.next z.ok).jQ (th*658+3+a)
 have qc:=fun z:aL W2=>(((h2.next z.ok).tr ht (hU (x,v)))).trans (show _=some (.slice (some ⟨g,0,none⟩) (k+1) cp) from by rw [hca,hk])
 have qz:=fun y:aL W2=>(h2.next y.ok).atC hca hz
 have H2:=aJ h2;clear h2;refine qT 19 fun z1=>?_
 go_wp2_with fail;have h3:=(H2.out.next z1.ok).ju ht ha (show IntKind.u64.wrap z=u64 z from rfl);generalize (z1.world.setCell ⟨D.gt,th*658+3+a,none⟩ (.int .u64 (IntKind.u64.wrap z)))=W3 at h3 ⊢;clear fr qc qz qb ra;have qd:=fun z:aL W3=>(((h3.next z.ok).tr ht (hU (_,v)))).trans (show _=some (.slice (some ⟨g,0,none⟩) (k+1) cp) from by rw [hca,hk])
 have fd:=fun z:aL W3=>(h3.next z.ok).jQ (th*658+52)
 have H3:=aJ h3;clear h3;refine qT 14 fun z2=>?_
 go_wp2_with fail;exact iP ⟨rfl,{v with ca:=kN g k cp},⟨rfl,rfl,rfl⟩,((H3.out.next z2.ok).aa0 ht hca (k:=k) (by show k≤x.cache.length;omega)).drop⟩
theorem Us(h:aW D c th ov m x v vc vt vs lv w0 w F)(ht:th<ov.length){A:Option Addr}{q:Nat}(jL:v.pd=.slice A 0 q)(hl:bz[tt]?=some l):
  jU 154 44 D th a b cc d tt w fun w'=>aW D c th ov m ({x with pc:=l}) v vc vt vs lv w0 w' F:=by
 have h2:aW D c th ov m x v vc vt vs lv w0 (w.alloc (.cells #[.int .i64 44,a,b,cc,d,tt] 236)) (ob w.heap.size 236 [.int .i64 44,a,b,cc,d,tt]::F):=h.alloc #[.int .i64 44,a,b,cc,d,tt] 236;have pD:=(h2.bd.1 11).trans (show _=some (.slice (some ⟨D.gt,0,none⟩) ov.length D.ct) from rfl);have dt:=jH ht;have qb:=(h2.af aj).1;have Ag:=(h2.tr ht (kS (x,v))).trans (show _=some (.slice A 0 q) from ep some jL);go_enter func154,ntmps154;go_wp2_with fail;clear Ag;clear pD h;generalize (w.alloc (.cells #[.int .i64 44,a,b,cc,d,tt] 236))=W2 at h2 qb ⊢;exact Wr
theorem Uq(h:aW D c th ov m x v vc vt vs lv w0 w F)(ht:th<ov.length)(ha:a<48){g k n q cp:Nat}{z:Int}{l0:List Int}(jL:v.pd=.slice (some ⟨g,k,none⟩) (n+1) q)(_:n+1≤q)(pY:¬q=1)(hn:n<10000000)(hpf:v.pf=kN g v.full.length cp)(hz:v.full[k]?=some z):
  jU 154 44 D th a b cc d tt w fun w'=>aW D c th ov m ({x.set a (u64 z) with pending:=l0}) {v with pd:=.slice (some ⟨g,k+1,none⟩) n (q - 1)} vc vt vs lv w0 w' F:=by
 have h2:aW D c th ov m x v vc vt vs lv w0 (w.alloc (.cells #[.int .i64 44,a,b,cc,d,tt] 236)) (ob w.heap.size 236 [.int .i64 44,a,b,cc,d,tt]::F):=h.alloc #[.int .i64 44,a,b,cc,d,tt] 236;have pD:=(h2.bd.1 11).trans (show _=some (.slice (some ⟨D.gt,0,none⟩) ov.length D.ct) from rfl);have dt:=jH ht;have qb:=(h2.af aj).1;have Ag:=(h2.tr ht (kS (x,v))).trans (show _=some (.slice (some ⟨g,k,none⟩) (n+1) q) from ep some jL);go_enter func154,ntmps154;go_wp2_with fail;clear Ag;clear pD h;generalize (w.alloc (.cells #[.int .i64 44,a,b,cc,d,tt] 236))=W2 at h2 qb ⊢;clear qb;have r0:=h2.rd ht;have qb:=fun z:aL W2=>((h2.next z.ok).af aj).1
 have ba:decide ((a:Int)<48)=true:=cM O_;have ra:=fun z:aL W2=>(h2.next z.ok).gm ht ha
 have fr:=fun z:aL W2=>(h2.next z.ok).jQ (th*658+3+a)
 have qp:=fun z:aL W2=>((h2.next z.ok).tr ht (kS (x,v))).trans (show _=some (.slice (some ⟨g,k,none⟩) (n+1) q) from ep some jL)
 have qz:=fun y:aL W2=>(h2.next y.ok).atP hpf hz
 have fd:=fun y:aL W2=>(h2.next y.ok).jQ (th*658+55)
 have H2:=aJ h2;clear h2;refine qT 13 fun z1=>?_
 go_wp2_with fail;have h3:=(H2.out.next z1.ok).ju ht ha (show IntKind.u64.wrap z=u64 z from rfl);have h4:aW D c th ov m {x.set a (u64 z) with pending:=l0} {v with pd:=.slice (some ⟨g,k+1,none⟩) n (q - 1)} vc vt vs lv w0 _ _:=h3.Af ht (rj (x.set a (u64 z)) v l0 (.slice (some ⟨g,k+1,none⟩) n (q - 1)) v.pf v.full) O_ rfl;exact iP ⟨rfl,h4.drop⟩
theorem Up(h:aW D c th ov m x v vc vt vs lv w0 w F)(ht:th<ov.length)(ha:a<48){g k cp:Nat}{z:Int}{l0:List Int}(jL:v.pd=.slice (some ⟨g,k,none⟩) 1 1)(hpf:v.pf=kN g v.full.length cp)(hz:v.full[k]?=some z):
  jU 154 44 D th a b cc d tt w fun w'=>aW D c th ov m ({x.set a (u64 z) with pending:=l0}) {v with pd:=.slice (some ⟨g,k,none⟩) 0 0} vc vt vs lv w0 w' F:=by
 have h2:aW D c th ov m x v vc vt vs lv w0 (w.alloc (.cells #[.int .i64 44,a,b,cc,d,tt] 236)) (ob w.heap.size 236 [.int .i64 44,a,b,cc,d,tt]::F):=h.alloc #[.int .i64 44,a,b,cc,d,tt] 236;have pD:=(h2.bd.1 11).trans (show _=some (.slice (some ⟨D.gt,0,none⟩) ov.length D.ct) from rfl);have dt:=jH ht;have qb:=(h2.af aj).1;have Ag:=(h2.tr ht (kS (x,v))).trans (show _=some (.slice (some ⟨g,k,none⟩) 1 1) from ep some jL);go_enter func154,ntmps154;go_wp2_with fail;clear Ag;clear pD h;generalize (w.alloc (.cells #[.int .i64 44,a,b,cc,d,tt] 236))=W2 at h2 qb ⊢;clear qb;have r0:=h2.rd ht;have qb:=fun z:aL W2=>((h2.next z.ok).af aj).1
 have ba:decide ((a:Int)<48)=true:=cM O_;have ra:=fun z:aL W2=>(h2.next z.ok).gm ht ha
 have fr:=fun z:aL W2=>(h2.next z.ok).jQ (th*658+3+a)
 have qp:=fun z:aL W2=>((h2.next z.ok).tr ht (kS (x,v))).trans (show _=some (.slice (some ⟨g,k,none⟩) 1 1) from ep some jL)
 have qz:=fun y:aL W2=>(h2.next y.ok).atP hpf hz
 have fd:=fun y:aL W2=>(h2.next y.ok).jQ (th*658+55)
 have H2:=aJ h2;clear h2;refine qT 13 fun z1=>?_
 go_wp2_with fail;have h3:=(H2.out.next z1.ok).ju ht ha (show IntKind.u64.wrap z=u64 z from rfl);have h4:aW D c th ov m {x.set a (u64 z) with pending:=l0} {v with pd:=.slice (some ⟨g,k,none⟩) 0 0} vc vt vs lv w0 _ _:=h3.Af ht (rj (x.set a (u64 z)) v l0 (.slice (some ⟨g,k,none⟩) 0 0) v.pf v.full) O_ rfl;exact iP ⟨rfl,h4.drop⟩
theorem aW.stat(h:aW D c th ov m x v vc vt vs lv w0 w F){s:Nat}{st:Int}(hs:m.states[s]?=some st):w.cell? ⟨D.gs,s,none⟩=some (.int .i64 st):=Has.ey (g:=D.gs) (c:=D.cs) h xJ (by rw [gA,hs];rfl)
theorem aW.XK(h:aW D c th ov m x v vc vt vs lv w0 w F)(i:Nat):w.frozen? ⟨D.gs,i,none⟩=false:=Has.gL (g:=D.gs) (c:=D.cs) h xJ i
theorem aW.hol(h:aW D c th ov m x v vc vt vs lv w0 w F){s:Nat}{st:Int}(hs:m.bS[s]?=some st):w.cell? ⟨D.gh,s,none⟩=some (.int .i64 st):=Has.ey (g:=D.gh) (c:=D.ch) h tn (by rw [gA,hs];rfl)
theorem aW.ZX(h:aW D c th ov m x v vc vt vs lv w0 w F)(i:Nat):w.frozen? ⟨D.gh,i,none⟩=false:=Has.gL (g:=D.gh) (c:=D.ch) h tn i
theorem aW.OV(h:aW D c th ov m x v vc vt vs lv w0 w F)(s:Nat)(st:Int):aW D c th ov {m with states:=m.states.set s st} x v vc vt vs lv w0 (w.setCell ⟨D.gs,s,none⟩ st) F:=by
 have h4:=Has.fD (A:= [_,_,_,_,_,_]) h s st;unfold aW DK;rw [show xY D c {m with states:=m.states.set s st} ov.length vc vt vs=xY D c m ov.length vc vt vs by unfold xY;simp only [cW],show({m with states:=m.states.set s st}:RM).states.length=m.states.length from cW ..,show({m with states:=m.states.set s st}:RM).states.map (Value.int .i64)=(m.states.map (Value.int .i64)).set s st from tY ..];exact h4
theorem aW.KQ(h:aW D c th ov m x v vc vt vs lv w0 w F)(s:Nat)(st:Int):aW D c th ov {m with bS:=m.bS.set s st} x v vc vt vs lv w0 (w.setCell ⟨D.gh,s,none⟩ st) F:=by
 have h4:=Has.fD (A:= [_,_,_,_,_,_,_]) h s st;unfold aW DK;rw [show xY D c {m with bS:=m.bS.set s st} ov.length vc vt vs=xY D c m ov.length vc vt vs by unfold xY;simp only [cW],show({m with bS:=m.bS.set s st}:RM).bS.length=m.bS.length from cW ..,show({m with bS:=m.bS.set s st}:RM).bS.map (Value.int .i64)=(m.bS.map (Value.int .i64)).set s st from tY ..];exact h4
theorem aW.TL{s:Nat}{tv fs:Int}(h0:¬(tv=0∨tv=3))(xj:m.states[s]?=some fs)(h:aW D c th ov {{{m with aG:=m.aG++ [(⟨m.au,th,s,fs,tv⟩:Sh)]} with states:=m.states.set s tv} with bS:=m.bS.set s th} x v vc vt vs lv w0 w F):aW D c th ov (m.shift th s tv) x v vc vt vs lv w0 w F:=by
 unfold RM.shift;rw [aK h0,mW,kO,xj];exact h
theorem aW.TK{s:Nat}{tv fs:Int}(h0:tv=0∨tv=3)(xj:m.states[s]?=some fs)(h:aW D c th ov {{{{m with aG:=m.aG++ [(⟨m.au,th,s,fs,tv⟩:Sh)]} with states:=m.states.set s tv} with bS:=m.bS.set s th} with bS:=(m.bS.set s (th:Int)).set s (-1)} x v vc vt vs lv w0 w F):aW D c th ov (m.shift th s tv) x v vc vt vs lv w0 w F:=by
 unfold RM.shift;rw [aY h0,mW,kO,xj];rw [tZ] at h;exact h
theorem Hu(h:aW D c th ov m x v vc vt vs lv w0 w F)(ht:th<ov.length){s:Nat}{tv fs fh:Int}(xj:m.states[s]?=some fs)(Og:m.bS[s]?=some fh)(hb:m.aG.length<10000000):
  cm 160 #[some D.bD,th,s,tv] w (.tuple #[]) fun w'=>∃ vs',aW D c th ov (m.shift th s tv) x v vc vt vs' lv w0 w' F:=by
 have mG:=(fO.1 xj).1;have ai6:=(fO.1 Og).1;obtain⟨A,cp,rfl⟩:=aA h.FP;have H2:=aJ h;clear h;go_enter func160,ntmps160;generalize w=W3 at H2 ⊢;have y6:=(H2.out.bd.1 26).trans (show _=some (.slice A m.aG.length cp) from rfl);have f6:=H2.out.bd.2 26;have hlt:D.bD<W3.heap.size:=Has.tu H2.out aj;have hne:=lN hlt;have gj:∀ w',Ext W3 w'→((w').cell? ⟨D.bD,23,none⟩=some (.int .i64 m.au)∧(w').cell? ⟨D.bD,12,none⟩=some (.slice (some ⟨D.gs,0,none⟩) m.states.length D.cs)∧(w').cell? ⟨D.gs,s,none⟩=some (.int .i64 fs)):=fun w' e=>⟨((H2.out.next e).bd.1 23).trans rfl,((H2.out.next e).bd.1 12).trans rfl,(H2.out.next e).stat xj⟩
 have gC:=gj W3 (bu W3);have dF:=fun w' (e:Ext W3 w')=>dB (H2.out.FP) e
 have hsz:=(Has.ext H2.out).size;have gN:∀ w',Ext (W3.alloc (.cells #[m.au,.int .i64 (th:Int),.int .i64 (s:Int),fs,tv] 125)) w'→Rd w' (some ⟨W3.heap.size,0,none⟩) [m.au,.int .i64 (th:Int),.int .i64 (s:Int),fs,tv]:=fun w' e=>(Rd.made W3 [m.au,.int .i64 (th:Int),.int .i64 (s:Int),fs,tv] 125).ext e
 have fQ:([m.au,.int .i64 (th:Int),.int .i64 (s:Int),fs,tv]:List Value).length=1*5:=rfl;have hone:∀ u∈([m.au,.int .i64 (th:Int),.int .i64 (s:Int),fs,tv]:List Value),u.oneCell'=true:=by intro u hu;simp at hu;rcases hu with rfl | rfl | rfl | rfl | rfl<;>rfl
 go_wp2_with fail
 go_cut [] (fun wx=>Hid (∃ v5,aW D c th ov {m with aG:=m.aG++ [(⟨m.au,th,s,fs,tv⟩:Sh)]} x v vc vt v5 lv w0 wx F))
 case first=>
  refine Ds (S:=fun w':World=>w'.cell? ⟨D.bD,23,none⟩=some (.int .i64 m.au)∧w'.cell? ⟨D.bD,12,none⟩=some (.slice (some ⟨D.gs,0,none⟩) m.states.length D.cs)∧w'.cell? ⟨D.gs,s,none⟩=some (.int .i64 fs)) K_ gC (fun hHeld=>?_);refine bn 0 ?_;refine bn 1 ?_;refine bn 2 ?_;refine bn 3 ?_;refine bn 5 ?_;refine bn 6 ?_;refine bn 7 ?_;refine bn 8 ?_;refine bn 9 ?_;refine bn 10 ?_;refine bn 11 ?_;refine bn 12 ?_;refine bn 13 ?_;refine bn 14 ?_;refine bn 15 ?_;refine bn 16 ?_;refine bn 17 ?_;refine bn 18 ?_;refine bn 19 ?_;refine qB (rs:= [4,20]) K_ S_ ?_;refine mA rfl (fun Kq cr=>?_) ?_
  ·go_simp
   refine cr.out _ _ gC (fun hHeld=>?_);refine eI 20 fun Kq cr=>?_
   exact ab1
  refine mA rfl (fun Kq cr=>?_) tH;go_simp;refine cr.out _ _ (gj _ (((bu W3).aE _).bh)) (fun hHeld=>?_);refine eI 4 fun Kq cr=>?_
  exact ab1
 obtain⟨v5,h4⟩:=hcut.out;clear hcut;obtain⟨W4,hW4⟩:∃ W4:World,W4=wc:=⟨_,rfl⟩;subst hW4;have a1:=(h4.bd.1 12).trans (show _=some (.slice (some ⟨D.gs,0,none⟩) m.states.length D.cs) from rfl);have a2:=h4.stat xj;have a3:=h4.XK s;have h5:=h4.OV s tv;have a4:=(h5.bd.1 13).trans (show _=some (.slice (some ⟨D.gh,0,none⟩) m.bS.length D.ch) from rfl);have a5:=h5.hol (s:=s) Og;have a6:=h5.ZX s;have h6:=h5.KQ s th;have a7:=(h6.bd.1 13).trans (show _=some (.slice (some ⟨D.gh,0,none⟩) (m.bS.set s (th:Int)).length D.ch) from rfl);rw [cW] at a7;have a8:=h6.hol (s:=s) (st:=th) (by show(m.bS.set s (th:Int))[s]?=_;rw [g9 O_]);have a9:=h6.ZX s;have h7:=h6.KQ s (-1);have H6:=aJ h6;have H7:=aJ h7;clear h4 h5 h6 h7
 rcases(show((tv==0)=true∧(tv=0∨tv=3))∨((tv==0)=false∧(tv==3)=true∧(tv=0∨tv=3))∨((tv==0)=false∧(tv==3)=false∧¬(tv=0∨tv=3)) by by_cases h0:tv=0<;>by_cases h3:tv=3<;>simp [h0,h3]) with ⟨h0,h03⟩ | ⟨h0,h3,h03⟩ | ⟨h0,h3,h03⟩
 all_goals
  have H03:=aJ h03;clear h03;go_wp2_with fail
  first | exact iP ⟨rfl,_,aW.TL H03.out xj H6.out⟩ | exact iP ⟨rfl,_,aW.TK H03.out xj H7.out⟩
theorem YP(h:aW D c th ov m x v vc vt vs lv w0 w F)(ht:th<ov.length)(ha:a<48){s:Nat}{fs fh:Int}(hs:wrap64 (x.R a)=(s:Int))(xj:m.states[s]?=some fs)(Og:m.bS[s]?=some fh)(hb:m.aG.length<10000000):
  jU 154 30 D th a b cc d tt w fun w'=>∃ vs',aW D c th ov (m.shift th s d) x v vc vt vs' lv w0 w' F:=by
 have h2:aW D c th ov m x v vc vt vs lv w0 (w.alloc (.cells #[.int .i64 30,a,b,cc,d,tt] 236)) (ob w.heap.size 236 [.int .i64 30,a,b,cc,d,tt]::F):=h.alloc #[.int .i64 30,a,b,cc,d,tt] 236;have pD:=(h2.bd.1 11).trans (show _=some (.slice (some ⟨D.gt,0,none⟩) ov.length D.ct) from rfl);have dt:=jH ht;have qb:=(h2.af aj).1;go_enter func154,ntmps154;go_wp2_with fail;clear pD h;generalize (w.alloc (.cells #[.int .i64 30,a,b,cc,d,tt] 236))=W2 at h2 qb ⊢;clear qb;have r0:=h2.rd ht;have qb:=fun z:aL W2=>((h2.next z.ok).af aj).1
 have ba:decide ((a:Int)<48)=true:=cM O_;have ra:=fun z:aL W2=>(h2.next z.ok).gm ht ha
 have how:IntKind.i64.wrap (x.R a)=(s:Int):=by rw [zH];exact hs
 have H2:=aJ h2;clear h2;refine qT 12 fun z1=>?_
 go_wp2_with fail;refine(Hu (H2.out.next z1.ok) ht xj Og hb).mono ?_;rintro e w3 ⟨rfl,vs2,h3⟩;go_wp2_with fail;exact iP ⟨rfl,vs2,h3.drop⟩
theorem YE(h:aW D c th ov m x v vc vt vs lv w0 w F)(ht:th<ov.length){P:World→Prop}
  (C:∀ w2 bb,aW D c th ov m x v vc vt vs lv w0 w2 (ob bb 236 [.int .i64 43,a,b,cc,d,tt]::F)→cm 161 #[some D.bD,.pointer (some ⟨D.gt,th*658,none⟩)] w2 (.tuple #[]) fun w'=>P w'):
  jU 154 43 D th a b cc d tt w fun w'=>P w':=by
 have h2:aW D c th ov m x v vc vt vs lv w0 (w.alloc (.cells #[.int .i64 43,a,b,cc,d,tt] 236)) (ob w.heap.size 236 [.int .i64 43,a,b,cc,d,tt]::F):=h.alloc #[.int .i64 43,a,b,cc,d,tt] 236;have pD:=(h2.bd.1 11).trans (show _=some (.slice (some ⟨D.gt,0,none⟩) ov.length D.ct) from rfl);have dt:=jH ht;have qb:=(h2.af aj).1;go_enter func154,ntmps154;go_wp2_with fail;clear pD h;generalize (w.alloc (.cells #[.int .i64 43,a,b,cc,d,tt] 236))=W2 at h2 qb ⊢;clear qb;have r0:=h2.rd ht;clear r0;exact ND
theorem YO(h:aW D c th ov m x v vc vt vs lv w0 w F)(ht:th<ov.length)(ha:a<48)(hf:¬c.Ca≤(x.cache.length:Int))(hb:x.cache.length<100):
  jU 154 32 D th a b cc d tt w fun w'=>∃ v',(v'.pd=v.pd∧v'.pf=v.pf∧v'.full=v.full)∧aW D c th ov m ({x with cache:=x.cache++ [wrap64 (x.R a)]}) v' vc vt vs lv w0 w' F:=by
 obtain⟨A,cp,hca⟩:=aA h.Lc;have h2:aW D c th ov m x v vc vt vs lv w0 (w.alloc (.cells #[.int .i64 32,a,b,cc,d,tt] 236)) (ob w.heap.size 236 [.int .i64 32,a,b,cc,d,tt]::F):=h.alloc #[.int .i64 32,a,b,cc,d,tt] 236;have pD:=(h2.bd.1 11).trans (show _=some (.slice (some ⟨D.gt,0,none⟩) ov.length D.ct) from rfl);have dt:=jH ht;have qb:=(h2.af aj).1;go_enter func154,ntmps154;go_wp2_with fail;clear pD h;generalize (w.alloc (.cells #[.int .i64 32,a,b,cc,d,tt] 236))=W2 at h2 qb ⊢;clear qb;have r0:=h2.rd ht;have qb:=fun z:aL W2=>((h2.next z.ok).af aj).1
 have qc:=fun z:aL W2=>((h2.next z.ok).tr ht (hU (x,v))).trans (show _=some (.slice A x.cache.length cp) from ep some hca)
 have qa:=fun z:aL W2=>((h2.next z.ok).bd.1 4).trans (show _=some (.int .i64 c.Ca) from rfl)
 refine qE fun z1=>?_
 have H2:=aJ (h2.next z1.ok);clear qc qa qb r0 h2;generalize z1.world=W3 at H2 ⊢;have y6:=(H2.out.tr ht (hU (x,v))).trans (show _=some (.slice A x.cache.length cp) from ep some hca);have f6:=H2.out.jQ (th*658+52);have hlt:D.gt<W3.heap.size:=Has.D8 (g:=D.gt) (c:=D.ct) H2.out oJ;have hne:=lN hlt;have gj:∀ w',Ext W3 w'→(w'.cell? ⟨w.heap.size,1,none⟩=some (.int .i64 (a:Int))∧w'.cell? ⟨D.gt,th*658+3+a,none⟩=some (.int .u64 (x.R a))):=fun w' e=>by have rr:=(H2.out.next e).rd ht;exact⟨(rr.ob aj 1).trans rfl,rr.rg ha⟩
 have gC:=gj W3 (bu W3);have dF:=fun w' (e:Ext W3 w')=>dB (hca▸H2.out.Lc) e
 have hsz:=(Has.ext H2.out).size;have gN:∀ w',Ext (W3.alloc (.cells #[.int .i64 (IntKind.i64.wrap (x.R a))] 3)) w'→Rd w' (some ⟨W3.heap.size,0,none⟩) [.int .i64 (IntKind.i64.wrap (x.R a))]:=fun w' e=>(Rd.made W3 [.int .i64 (IntKind.i64.wrap (x.R a))] 3).ext e
 have fQ:([.int .i64 (IntKind.i64.wrap (x.R a))]:List Value).length=1*1:=rfl;have hone:∀ u∈([.int .i64 (IntKind.i64.wrap (x.R a))]:List Value),u.oneCell'=true:=by intro u hu;simp at hu;rw [hu];rfl
 have ba:decide ((a:Int)<48)=true:=cM O_;have bi:(a:Int)<48:=O_
 go_wp2_with fail;refine tX (Ds (S:=fun w':World=>w'.cell? ⟨w.heap.size,1,none⟩=some (.int .i64 (a:Int))∧w'.cell? ⟨D.gt,th*658+3+a,none⟩=some (.int .u64 (x.R a))) K_ gC (fun hHeld=>?_));refine bn 0 ?_;refine bn 1 ?_;refine bn 2 ?_;refine bn 3 ?_;refine bn 5 ?_;refine bn 6 ?_;refine bn 7 ?_;refine bn 8 ?_;refine bn 9 ?_;refine bn 10 ?_;refine bn 11 ?_;refine bn 12 ?_;refine qB (rs:= [4,13]) K_ S_ ?_;refine mA rfl (fun Kq cr=>?_) ?_
 ·go_simp
  refine cr.out _ _ gC (fun hHeld=>?_);refine qB (rs:= [13]) K_ S_ ?_;exact ab2
 ·refine mA rfl (fun Kq cr=>?_) tH
  go_simp;refine cr.out _ _ (gj _ (((bu W3).aE _).bh)) (fun hHeld=>?_);refine qB (rs:= [4]) K_ S_ ?_;exact ab2
end
end Go.Proofs.YtgbhnihkgmpocaaGreat
