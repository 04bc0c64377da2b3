/- Part 2 of 16 of the proof of PoolPlays. No condition. -/
import Derived.Deep.RegionLaw
import Derived.Deep.RegionWith
import Derived.RangeFuncNested
import Derived.RangeFuncBound
import Derived.RangeFuncCalls
import Derived.RangeFuncLeaves
import Derived.Deep.Cut
import Derived.OwnWalkIn
import Derived.TacticsInMore
import Derived.Maps.OwnSet
import Derived.Maps.OwnOps
import Derived.Laws.Tables
import Derived.Deep.DeepCutAuto
import Derived.OrdersHeld
import Derived.Deep.RegionHeld
import Derived.Laws.BitsAllLaws
import Derived.Test.YtgbhnihkgmpocaaGreatM00
namespace Go.Proofs.YtgbhnihkgmpocaaGreat
set_option maxRecDepth 100000
set_option maxHeartbeats 4000000
open Tryz
abbrev JF:=@World.putObj_heap_other
abbrev tX:=@wp_region_noPanic
abbrev GQ:=@NoPanic.normal
abbrev Be:=@wpAnyH_done
abbrev Ds:=@wp_region_held_drew
abbrev DL:=@bodyPost_ret
abbrev qB:=@wpAnyH_ready
abbrev tH:=@AllReadyH.nil
abbrev mA:=@AllReadyH.cons
variable{P:Prop}
theorem T_7(x:P:=by
 refine mA rfl (fun Kq cr=>?_) ?_
 ·go_simp
  refine cr.out _ _ (gj _ (((bu w).aE _).bh)) (fun hHeld=>?_);refine qB (rs:= [30]) K_ S_ ?_;refine mA rfl (fun Kq cr=>?_) ?_
  ·refine cn _ rfl (.tmp 27) (.tmp 46) 53 rfl w0.heap.size 125 5 40 AG underlying53 (.slice A S.aG.length c) S.aG.length _ (by simp [Act.eval]) (by first | exact dF _ ((bu w).aE _) | exact dF _ (((bu w).bh).aE _) | exact dF _ (((bu w).aE _).bh)) (some ⟨w.heap.size,0,none⟩) 1 1 [S.now,S.th,sl,fr,ag] (by simp [Act.eval]) fQ (by first | exact gN _ (bu _) | exact gN _ (Ext.drawn _ 1)) hone O_ (by simp;omega) ?_
   intro v' w2 bV bl fk;have oO:w.grownBy w2 (Value.ownBlock (.slice A S.aG.length c)):=(by first | exact aD bl | exact aD (bw bl) | exact bw (aD bl));have h2:=Has.grow (A:= [_,_,_,_,_]) h (show w2.ownsRow w0.heap.size 125 5 v' (S.aG.length+1) (S.aG.flatMap Sh.enc++(⟨S.now,S.th,sl,fr,ag⟩:Sh).enc) from bV) oO (fk.imp id fun e=>⟨_,e,S_⟩);have kk:=h2.at_ (i:=6) iu rfl;have ff:=h2.dW iu 6;obtain⟨g5,c5,rfl,_,_,_⟩:=bf bV O_;have h3:=Has.fW (A:= [_,_,_,_]) h2 6 (.slice (some ⟨g5,0,none⟩) (S.aG.length+1) c5);have hk2:w2.cell? ⟨d,0,none⟩=some (some K.bM)∧w2.cell? ⟨K.bM,2,none⟩=some (.int .i64 S.now)∧w2.cell? ⟨K.bM,1,none⟩=some (.int .i64 S.th):=⟨h2.at_ (i:=0) (Oe hd) rfl,h2.at_ (i:=2) iu rfl,h2.at_ (i:=1) iu rfl⟩;have kD:(w2.setCell ⟨K.bM,6,none⟩ (.slice (some ⟨g5,0,none⟩) (S.aG.length+1) c5)).cell? ⟨d,0,none⟩=some (some K.bM)∧(w2.setCell ⟨K.bM,6,none⟩ (.slice (some ⟨g5,0,none⟩) (S.aG.length+1) c5)).cell? ⟨K.bM,2,none⟩=some (.int .i64 S.now)∧(w2.setCell ⟨K.bM,6,none⟩ (.slice (some ⟨g5,0,none⟩) (S.aG.length+1) c5)).cell? ⟨K.bM,1,none⟩=some (.int .i64 S.th):=⟨h3.at_ (i:=0) (Oe hd) rfl,h3.at_ (i:=2) iu rfl,h3.at_ (i:=1) iu rfl⟩;refine cr.out _ _ hk2 (fun hHeld=>?_);refine bn 31 ?_;refine bn 32 ?_;refine qB (rs:= [33]) K_ S_ ?_;refine mA rfl (fun Kq cr=>?_) ?_
   ·go_simp
    refine cr.out _ _ kD (fun hHeld=>?_);refine Be K_ ?_ _;refine GQ ?_
    (try simp only [Exit.inBlock,Exit.then])
    refine iP ⟨rfl,l,a,.slice (some ⟨g5,0,none⟩) (S.aG.length+1) c5,ah,q,?_⟩;unfold gy;rw [show({S with aG:=S.aG++ [⟨S.now,S.th,sl,fr,ag⟩]}:PM).aG=S.aG++ [⟨S.now,S.th,sl,fr,ag⟩] from rfl,gP,rT];exact h3
   ·exact tH
  ·exact tH
 ·exact tH):P:=x
theorem iB(x:P:=by
 go_wp2_with fail;go_ret;exact⟨rfl,rfl⟩):P:=x
theorem QN(x:P:=by
 have HEE:=HE.out.only (dM.qL hgrow) fun q hq=>by
  have h2:some q=some w.heap.size:=hq;injection h2 with h2;omega
 go_ret;exact⟨v',rfl,hown,HEE⟩):P:=x
theorem QC(x:P:=by
 go_wp2_with fail;go_ret;exact⟨_,rfl,JG _ _ _ _,bu _⟩):P:=x
theorem Nv(x:P:=by
 go_ret3;exact⟨qK (aK O_).symm,rfl⟩):P:=x
theorem Nt(x:P:=by
 simp only [aK h]
 cases ss[j]?<;>cases l[j]?<;>rfl):P:=x
open Go.RowKit
theorem sN:Elem prog 122 7 56:=Elem.of (z:=.agg #[.int .i64 0,.int .i64 0,.int .i64 0,.int .i64 0,.int .u64 0,.int .u64 0,.int .u64 0]) K_ (by simp [Value.cells]) O_ O_
theorem MT:Elem prog 38 1 8:=Elem.of (z:=.int .u64 0) K_ rfl O_ O_
theorem AG:Elem prog 125 5 40:=Elem.of (z:=.agg #[.int .i64 0,.int .i64 0,.int .i64 0,.int .i64 0,.int .i64 0]) K_ (by simp [Value.cells]) O_ O_
theorem vW:Elem prog 119 9 72:=Elem.of (z:=.agg #[.int .i64 0,.int .i64 0,.int .i64 0,.int .i64 0,.int .i64 0,.int .i64 0,.int .i64 0,.int .i64 0,.int .i64 0]) K_ (by simp [Value.cells]) O_ O_
theorem jT:Elem prog 3 1 8:=Elem.of (z:=.int .i64 0) K_ rfl O_ O_
theorem bw{w w':World}{row:Option Nat}(h:w.drew.grownBy w' row):w.grownBy w' row:=⟨h.os,h.tape,h.output,h.size,h.block⟩
def lX(bW:Nat)(vw vl va:Value)(ws:List Int)(log:List Ac)(ah:List Int)(mv:Int):List En:=
 [ob bW 248 [vw,vl,va,mv],.row vw 38 1 ws.length (ws.map (Value.int .u64)),.row vl 122 7 log.length (log.flatMap Ac.enc),.row va 38 1 ah.length (ah.map (Value.int .u64))]
variable{v:Value}{e:TypeId}{us:List Value}
theorem iJ{w0 w:World}{H:List En}{k n:Nat}(h:Has w0 w H)(hm:En.row v e k n us∈H):∃ A c,v=.slice A n c:=aA (h.own _ hm)
variable{w0:World}{bW:Nat}{vw vl va:Value}{ws ah:List Int}{log:List Ac}{mv:Int}{F:List En}{w:World}
theorem tj(h:Has w0 w (lX bW vw vl va ws log ah mv++F)):
  cm 203 #[some bW] w ws.length fun w'=>w'=w:=by
 obtain⟨A,c,rfl⟩:=iJ h bp;have x0:=h.cell (i:=0) aj rfl;have k0:=x0 ⟨w,bu w⟩;simp only at k0;go_enter func203,ntmps203;go_wp2;go_ret;exact⟨jV S_,rfl⟩
theorem pz(h:Has w0 w (lX bW vw vl va ws log ah mv++F))(a:Int)(h0:0≤a)(h1:a<ws.length):
  cm 204 #[some bW,a] w true fun w'=>w'=w:=by
 have hc:decide (a<(ws.length:Int))=true:=by simpa using h1
 have hg:decide (0≤a)=true:=by simpa using h0
 go_enter func204,ntmps204;go_wp2_with fail;refine(tj h).mono ?_;rintro e w1 ⟨rfl,rfl⟩;exact iB
theorem vp(h:Has w0 w (lX bW vw vl va ws log ah mv++F))(a:Ac)(x:Int)(hl:log.length<1000000)(ha:ah.length<1000000):
  cm 205 #[.pointer (some ⟨bW,0,none⟩),.agg a.enc.toArray,.int .u64 x] w (.tuple #[]) fun w'=>∃ Ft Fu,Has w0 w' (lX bW vw Ft Fu ws (log++ [{a with mv:=mv}]) (ah++ [x]) mv++F):=by
 obtain⟨A,c,rfl⟩:=iJ h iU;obtain⟨A',c',rfl⟩:=iJ h lA;have k3:=h.at_ (i:=3) aj rfl;have hlt:=h.tu aj;obtain⟨am,ath,ak,aa,ao,an,aw⟩:=a;rw [show(Ac.enc ⟨am,ath,ak,aa,ao,an,aw⟩).toArray=#[.int .i64 am,.int .i64 ath,.int .i64 ak,.int .i64 aa,.int .u64 ao,.int .u64 an,.int .u64 aw] from rfl];go_enter func205,ntmps205;go_wp2_with fail;have h1:=h.alloc #[mv,ath,ak,aa,.int .u64 ao,.int .u64 an,.int .u64 aw] 122;generalize hb0:w.heap.size=b0 at h1 ⊢;clear hb0 k3 hlt;generalize (w.alloc (.cells #[mv,ath,ak,aa,.int .u64 ao,.int .u64 an,.int .u64 aw] 122))=w1 at h1 ⊢;have d0:=h1.at_ (i:=0) aj rfl;have d1:=h1.at_ (i:=1) aj rfl;have d2:=h1.at_ (i:=2) aj rfl;have d3:=h1.at_ (i:=3) aj rfl;have d4:=h1.at_ (i:=4) aj rfl;have d5:=h1.at_ (i:=5) aj rfl;have d6:=h1.at_ (i:=6) aj rfl;have hbn:b0≠w1.heap.size:=lN (h1.tu aj);have mK:w1.ownsRow w0.heap.size 122 7 (.slice A log.length c) log.length (log.flatMap Ac.enc):=h1.own _ lA;have Fq:∀ w',Ext w1 w'→w'.ownsRow w0.heap.size 122 7 (.slice A log.length c) log.length (log.flatMap Ac.enc):=fun w' e=>dB mK e
 have WE:=h1.ext.size;have Tz:∀ w',Ext (w1.alloc (.cells #[mv,ath,ak,aa,.int .u64 ao,.int .u64 an,.int .u64 aw] 122)) w'→Rd w' (some ⟨w1.heap.size,0,none⟩) [mv,ath,ak,aa,.int .u64 ao,.int .u64 an,.int .u64 aw]:=fun w' e=>(Rd.made w1 [mv,ath,ak,aa,.int .u64 ao,.int .u64 an,.int .u64 aw] 122).ext e
 have xcl:([mv,ath,ak,aa,.int .u64 ao,.int .u64 an,.int .u64 aw]:List Value).length=1*7:=rfl;have nh:∀ u∈([mv,ath,ak,aa,.int .u64 ao,.int .u64 an,.int .u64 aw]:List Value),u.oneCell'=true:=by intro u hu;simp at hu;rcases hu with rfl | rfl | rfl | rfl | rfl | rfl | rfl<;>rfl
 have xf:=h1.dW bp 1;have xk:=h1.at_ (i:=1) bp rfl;have xlt:=h1.tu bp;have xn:=lN xlt
 go_region_law ((refine cn _ rfl (.tmp 15) (.tmp 17) 52 rfl w0.heap.size 122 7 56 sN underlying52 (.slice A log.length c) log.length _ (by simp [Act.eval]) (by first | exact Fq _ ((bu w1).aE _) | exact Fq _ (((bu w1).bh).aE _) | exact Fq _ (((bu w1).aE _).bh)) (some ⟨w1.heap.size,0,none⟩) 1 1 [mv,ath,ak,aa,.int .u64 ao,.int .u64 an,.int .u64 aw] (by simp [Act.eval]) xcl (by first | exact Tz _ (bu _) | exact Tz _ (Ext.drawn _ 1)) nh O_ (by simp;omega) ?_;intro v' w2 bV bl fk;have oO:w1.grownBy w2 (Value.ownBlock (.slice A log.length c)):=(by first | exact aD bl | exact aD (bw bl) | exact bw (aD bl));have h2:=Has.grow (A:= [_,_,_]) h1 (show w2.ownsRow w0.heap.size 122 7 v' (log.length+1) (log.flatMap Ac.enc++(⟨mv,ath,ak,aa,ao,an,aw⟩:Ac).enc) from bV) oO (fk.imp id fun e=>⟨_,e,S_⟩);have kk:=h2.at_ (i:=1) bp rfl;have ff:=h2.dW bp 1;obtain⟨g5,c5,rfl,_,_,_⟩:=bf bV O_))
 all_goals
  clear mK Fq WE Tz xcl nh xf xk xlt xn bl fk oO kk ff bV;have h2:=Has.fW (A:= [_]) h2 1 (.slice (some ⟨g5,0,none⟩) (log.length+1) c5);clear d0 d1 d2 d3 d4 d5 d6 hbn;generalize w2.setCell ⟨bW,1,none⟩ (.slice (some ⟨g5,0,none⟩) (log.length+1) c5)=w3 at h2 ⊢;clear h1;have acV:w3.ownsRow w0.heap.size 38 1 (.slice A' ah.length c') ah.length (ah.map (Value.int .u64)):=h2.own _ iu;have ysz:=h2.ext.size;have yrd:Rd (w3.alloc (.cells #[.int .u64 x] 38)) (some ⟨w3.heap.size,0,none⟩) [.int .u64 x]:=Rd.made w3 [.int .u64 x] 38;have acW:∀ u∈([.int .u64 x]:List Value),u.oneCell'=true:=by intro u hu;simp at hu;rw [hu];rfl
  have yf:=h2.dW bp 2;have yk:=h2.at_ (i:=2) bp rfl;have ylt:=h2.tu bp;have yn:=lN ylt;go_wp2_with (at_builtin;refine cN _ rfl (.tmp 25) (.tmp 27) 42 rfl w0.heap.size 38 1 8 MT underlying42 (.slice A' ah.length c') ah.length _ (by simp [Act.eval]) (dB acV ((bu w3).aE _)) (some ⟨w3.heap.size,0,none⟩) 1 1 [.int .u64 x] (by simp [Act.eval]) rfl yrd acW O_ (by simp;omega) ?_;intro v' w4 bV bl fk;have h3:=Has.grow (A:= [_,_,_,_]) h2 (show w4.ownsRow w0.heap.size 38 1 v' (ah.length+1) (ah.map (Value.int .u64)++ [.int .u64 x]) from bV) (aD bl) (fk.imp id fun e=>⟨_,e,S_⟩);have kk:=h3.at_ (i:=2) bp rfl;have ff:=h3.dW bp 2;obtain⟨g6,c6,rfl,_,_,_⟩:=bf bV O_);have h3:=Has.fW (A:= [_]) h3 2 (.slice (some ⟨g6,0,none⟩) (ah.length+1) c6);generalize w4.setCell ⟨bW,2,none⟩ (.slice (some ⟨g6,0,none⟩) (ah.length+1) c6)=w5 at h3 ⊢;refine iP ⟨rfl,.slice (some ⟨g5,0,none⟩) (log.length+1) c5,.slice (some ⟨g6,0,none⟩) (ah.length+1) c6,?_⟩;have h4:=h3.drop;unfold lX;rw [gP,gP,rT,jI];exact h4
theorem sy{w0 w:World}{H:List En}{k n:Nat}(h:Has w0 w H)(hm:En.row v e k n us∈H)(hn:0<n):∃ g c,v=.slice (some ⟨g,0,none⟩) n c:=by
 obtain⟨g,c,h,_⟩:=bf (h.own _ hm) hn;exact⟨g,c,h⟩
theorem FR(h:Has w0 w (lX bW vw vl va ws log ah mv++F))(mv':Int):
  cm 113 #[some bW,mv'] w (.tuple #[]) fun w'=>Has w0 w' (lX bW vw vl va ws log ah mv'++F):=by
 have k3:=h.at_ (i:=3) aj rfl;have f3:=h.dW aj 3;go_enter func113,ntmps113;go_wp2_with fail;exact iP ⟨rfl,Has.fW (A:= []) h 3 _⟩
theorem Lz(h:Has w0 w (lX bW vw vl va ws log ah mv++F))(th:Int)(k:Nat)(x:Int)(hx:ws[k]?=some x)(hl:log.length<1000000)(ha:ah.length<1000000):
  cm 198 #[some bW,th,k] w (.tuple #[.int .u64 x,.int .i64 0]) fun w'=>∃ Ft Fu,Has w0 w' (lX bW vw Ft Fu ws (log++ [⟨mv,th,1,k,0,0,x⟩]) (ah++ [x]) mv++F):=by
 have hk:k<ws.length:=(fO.1 hx).1;obtain⟨g,c,rfl⟩:=sy h bp O_;have k0:=h.at_ (i:=0) aj rfl;have kx:=h.ey (i:=k) (u:=.int .u64 x) (g:=g) (c:=c) bp (by rw [gA,hx];rfl);have hki:decide ((k:Int)<(ws.length:Int))=true:=by simp;omega
 go_enter func198,ntmps198;go_wp2_with fail;refine(pz h k O_ O_).mono ?_;rintro e w1 ⟨rfl,rfl⟩;go_wp2_with fail;refine(vp h ⟨0,th,1,k,0,0,x⟩ x hl ha).mono ?_;rintro e w1 ⟨rfl,Ft,Fu,h1⟩;go_wp2
 go_ret2;exact⟨rfl,Ft,Fu,h1⟩
theorem Hj(h:Has w0 w (lX bW vw vl va ws log ah mv++F))(th:Int)(k:Nat)(y:Int)(hk:k<ws.length)(hl:log.length<1000000)(ha:ah.length<1000000):
  cm 210 #[some bW,th,k,.int .u64 y] w (.int .i64 0) fun w'=>∃ Ft Fu x,Has w0 w' (lX bW vw Ft Fu (ws.set k y) (log++ [⟨mv,th,2,k,0,y,0⟩]) (ah++ [x]) mv++F):=by
 obtain⟨x,hx⟩:∃ x,ws[k]?=some x:=⟨_,fy hk⟩;obtain⟨g,c,rfl⟩:=sy h bp O_;have k0:=h.at_ (i:=0) aj rfl;have kx:=h.ey (i:=k) (u:=.int .u64 x) (g:=g) (c:=c) bp (by rw [gA,hx];rfl);have hki:decide ((k:Int)<(ws.length:Int))=true:=by simp;omega
 go_enter func210,ntmps210;go_wp2_with fail;refine(pz h k O_ O_).mono ?_;rintro e w1 ⟨rfl,rfl⟩;go_wp2_with fail;refine(vp h ⟨0,th,2,k,0,y,0⟩ x hl ha).mono ?_;rintro e w1 ⟨rfl,Ft,Fu,h1⟩;have j0:=h1.at_ (i:=0) aj rfl;have jx:=h1.ey (i:=k) (u:=.int .u64 x) (g:=g) (c:=c) bp (by rw [gA,hx];rfl);have jf:=h1.gL (g:=g) (c:=c) bp k;go_wp2;go_ret;have h2:=Has.fD (A:= [_]) h1 k (.int .u64 y);refine⟨rfl,Ft,Fu,x,?_⟩;unfold lX;rw [cW,tY];exact h2
theorem Kx(h:Has w0 w (lX bW vw vl va ws log ah mv++F))(th:Int)(k:Nat)(o y x:Int)(hx:ws[k]?=some x)(hl:log.length<1000000)(ha:ah.length<1000000):
  cm 200 #[some bW,th,k,.int .u64 o,.int .u64 y] w (.tuple #[.int .u64 x,.bool (decide (x=o)),.int .i64 0]) fun w'=>∃ Ft Fu,Has w0 w' (lX bW vw Ft Fu (if x=o then ws.set k y else ws) (log++ [⟨mv,th,3,k,o,y,x⟩]) (ah++ [x]) mv++F):=by
 have hk:k<ws.length:=(fO.1 hx).1;obtain⟨g,c,rfl⟩:=sy h bp O_;have k0:=h.at_ (i:=0) aj rfl;have kx:=h.ey (i:=k) (u:=.int .u64 x) (g:=g) (c:=c) bp (by rw [gA,hx];rfl);have hki:decide ((k:Int)<(ws.length:Int))=true:=by simp;omega
 by_cases hxo:x=o
 case' pos=>
  subst hxo;have hd:decide (x=x)=true:=S_
 case' neg=>have hd:decide (x=o)=false:=by simpa using hxo
 all_goals
  go_enter func200,ntmps200;go_wp2_with fail;refine(pz h k O_ O_).mono ?_;rintro e w1 ⟨rfl,rfl⟩;go_wp2_with fail;refine(vp h ⟨0,th,3,k,_,y,x⟩ x hl ha).mono ?_;rintro e w1 ⟨rfl,Ft,Fu,h1⟩;have j0:=h1.at_ (i:=0) aj rfl;have jx:=h1.ey (i:=k) (u:=.int .u64 x) (g:=g) (c:=c) bp (by rw [gA,hx];rfl);have jf:=h1.gL (g:=g) (c:=c) bp k;go_wp2
  go_ret3
 ·refine⟨S_,Ft,Fu,?_⟩
  exact h1
 ·have h2:=Has.fD (A:= [_]) h1 k (.int .u64 y)
  refine⟨S_,Ft,Fu,?_⟩;unfold lX;rw [cW,tY];exact h2
def lM(w:World)(e:TypeId)(k n:Nat)(us:List Value)(en:Ending)(w':World):Prop:=∃ v,en=.returned v∧w'.ownsRow w.heap.size e k v n us∧Ext w w'
theorem yb(w:World):Calls prog 52 #[.slice none 0 0] w (lM w 119 9 0 []):=by
 have hnil:∀ W:World,(binOp BinOp.eql 51 (.slice none 0 0) (.slice none 0 0)).run prog W=.ok true W:=fun W=>by kernel_rfl
 go_in;exact QC
theorem wj(g n c:Nat)(us:List Value)(w:World)(hl:us.length=n*9)(hr:Rd w (some ⟨g,0,none⟩) us)(ho:∀ u∈us,u.oneCell'=true)(hn:n≤100000000000):
  Calls prog 52 #[.slice (some ⟨g,0,none⟩) n c] w (lM w 119 9 n us):=by
 obtain⟨w0,hw0,hB,hE,_⟩:=nI w (.cells #[] 119);have HE:=aJ hE;have RH:=aJ (hr.ext hE)
 have vG:Hid (w0.ownsRow w.heap.size 119 9 (.slice (some ⟨w.heap.size,0,none⟩) 0 0) 0 []):=
  ⟨rfl,.inr ⟨w.heap.size,0,#[],rfl,bZ _,hB,bZ _,by unfold maxLen;omega,rfl,rfl⟩⟩
 have HL:=aJ hl;have HO:=aJ ho;have hnil:∀ W:World,(binOp BinOp.eql 51 (.slice (some ⟨g,0,none⟩) n c) (.slice none 0 0)).run prog W=.ok false W:=fun W=>by kernel_rfl
 clear hl hr hE hB ho;go_in;go_wp2_with (at_builtin;refine cN w0 rfl (.tmp 5) (.tmp 6) 51 rfl w.heap.size 119 9 72 vW underlying51 (.slice (some ⟨w.heap.size,0,none⟩) 0 0) 0 [] (by simp [Act.eval]) vG.out (some ⟨g,0,none⟩) n c us (by simp [Act.eval]) HL.out RH.out HO.out O_ HE.out.size ?_;intro v' w' hown hgrow rV;rw [rN,mX] at hown);exact QN
variable{B n:Nat}
theorem yc(h:w.ownsRow B 119 9 v n us)(ho:∀ u∈us,u.oneCell'=true)(hn:n≤100000000000):Calls prog 52 #[v] w (lM w 119 9 n us):=by
 have hl:=h.1;obtain⟨A,c,rfl⟩:=aA h
 cases A with
 | none=>
  rcases h.2 with ⟨h',h0,_⟩ | ⟨g',cap',cur,h',_⟩
  ·cases h'
   have:us= []:=Oa O_;subst this;exact yb w
  ·cases h'
 | some a=>
  rcases h.2 with ⟨h',_⟩ | ⟨g',cap',cur,h',hh⟩
  ·cases h'
  ·injection h' with h1 h2 h3
   injection h1 with h1;subst h1;exact wj g' n c us w hl (Rd.fM h) ho hn
theorem wg(w:World):Calls prog 53 #[.slice none 0 0] w (lM w 125 5 0 []):=by
 have hnil:∀ W:World,(binOp BinOp.eql 53 (.slice none 0 0) (.slice none 0 0)).run prog W=.ok true W:=fun W=>by kernel_rfl
 go_in;exact QC
theorem tV(g n c:Nat)(us:List Value)(w:World)(hl:us.length=n*5)(hr:Rd w (some ⟨g,0,none⟩) us)(ho:∀ u∈us,u.oneCell'=true)(hn:n≤100000000000):
  Calls prog 53 #[.slice (some ⟨g,0,none⟩) n c] w (lM w 125 5 n us):=by
 obtain⟨w0,hw0,hB,hE,_⟩:=nI w (.cells #[] 125);have HE:=aJ hE;have RH:=aJ (hr.ext hE)
 have vG:Hid (w0.ownsRow w.heap.size 125 5 (.slice (some ⟨w.heap.size,0,none⟩) 0 0) 0 []):=
  ⟨rfl,.inr ⟨w.heap.size,0,#[],rfl,bZ _,hB,bZ _,by unfold maxLen;omega,rfl,rfl⟩⟩
 have HL:=aJ hl;have HO:=aJ ho;have hnil:∀ W:World,(binOp BinOp.eql 53 (.slice (some ⟨g,0,none⟩) n c) (.slice none 0 0)).run prog W=.ok false W:=fun W=>by kernel_rfl
 clear hl hr hE hB ho;go_in;go_wp2_with (at_builtin;refine cN w0 rfl (.tmp 5) (.tmp 6) 53 rfl w.heap.size 125 5 40 AG underlying53 (.slice (some ⟨w.heap.size,0,none⟩) 0 0) 0 [] (by simp [Act.eval]) vG.out (some ⟨g,0,none⟩) n c us (by simp [Act.eval]) HL.out RH.out HO.out O_ HE.out.size ?_;intro v' w' hown hgrow rV;rw [rN,mX] at hown);exact QN
theorem wh(h:w.ownsRow B 125 5 v n us)(ho:∀ u∈us,u.oneCell'=true)(hn:n≤100000000000):Calls prog 53 #[v] w (lM w 125 5 n us):=by
 have hl:=h.1;obtain⟨A,c,rfl⟩:=aA h
 cases A with
 | none=>
  rcases h.2 with ⟨h',h0,_⟩ | ⟨g',cap',cur,h',_⟩
  ·cases h'
   have:us= []:=Oa O_;subst this;exact wg w
  ·cases h'
 | some a=>
  rcases h.2 with ⟨h',_⟩ | ⟨g',cap',cur,h',hh⟩
  ·cases h'
  ·injection h' with h1 h2 h3
   injection h1 with h1;subst h1;exact tV g' n c us w hl (Rd.fM h) ho hn
theorem we(w:World):Calls prog 116 #[.slice none 0 0] w (lM w 38 1 0 []):=by
 have hnil:∀ W:World,(binOp BinOp.eql 42 (.slice none 0 0) (.slice none 0 0)).run prog W=.ok true W:=fun W=>by kernel_rfl
 go_in;exact QC
theorem tU(g n c:Nat)(us:List Value)(w:World)(hl:us.length=n*1)(hr:Rd w (some ⟨g,0,none⟩) us)(ho:∀ u∈us,u.oneCell'=true)(hn:n≤100000000000):
  Calls prog 116 #[.slice (some ⟨g,0,none⟩) n c] w (lM w 38 1 n us):=by
 obtain⟨w0,hw0,hB,hE,_⟩:=nI w (.cells #[] 38);have HE:=aJ hE;have RH:=aJ (hr.ext hE)
 have vG:Hid (w0.ownsRow w.heap.size 38 1 (.slice (some ⟨w.heap.size,0,none⟩) 0 0) 0 []):=
  ⟨rfl,.inr ⟨w.heap.size,0,#[],rfl,bZ _,hB,bZ _,by unfold maxLen;omega,rfl,rfl⟩⟩
 have HL:=aJ hl;have HO:=aJ ho;have hnil:∀ W:World,(binOp BinOp.eql 42 (.slice (some ⟨g,0,none⟩) n c) (.slice none 0 0)).run prog W=.ok false W:=fun W=>by kernel_rfl
 clear hl hr hE hB ho;go_in;go_wp2_with (at_builtin;refine cN w0 rfl (.tmp 5) (.tmp 6) 42 rfl w.heap.size 38 1 8 MT underlying42 (.slice (some ⟨w.heap.size,0,none⟩) 0 0) 0 [] (by simp [Act.eval]) vG.out (some ⟨g,0,none⟩) n c us (by simp [Act.eval]) HL.out RH.out HO.out O_ HE.out.size ?_;intro v' w' hown hgrow rV;rw [rN,mX] at hown);exact QN
theorem nJ(h:w.ownsRow B 38 1 v n us)(ho:∀ u∈us,u.oneCell'=true)(hn:n≤100000000000):Calls prog 116 #[v] w (lM w 38 1 n us):=by
 have hl:=h.1;obtain⟨A,c,rfl⟩:=aA h
 cases A with
 | none=>
  rcases h.2 with ⟨h',h0,_⟩ | ⟨g',cap',cur,h',_⟩
  ·cases h'
   have:us= []:=Oa O_;subst this;exact we w
  ·cases h'
 | some a=>
  rcases h.2 with ⟨h',_⟩ | ⟨g',cap',cur,h',hh⟩
  ·cases h'
  ·injection h' with h1 h2 h3
   injection h1 with h1;subst h1;exact tU g' n c us w hl (Rd.fM h) ho hn
theorem AL(w:World):Calls prog 118 #[.slice none 0 0] w (lM w 122 7 0 []):=by
 have hnil:∀ W:World,(binOp BinOp.eql 52 (.slice none 0 0) (.slice none 0 0)).run prog W=.ok true W:=fun W=>by kernel_rfl
 go_in;exact QC
theorem yd(g n c:Nat)(us:List Value)(w:World)(hl:us.length=n*7)(hr:Rd w (some ⟨g,0,none⟩) us)(ho:∀ u∈us,u.oneCell'=true)(hn:n≤100000000000):
  Calls prog 118 #[.slice (some ⟨g,0,none⟩) n c] w (lM w 122 7 n us):=by
 obtain⟨w0,hw0,hB,hE,_⟩:=nI w (.cells #[] 122);have HE:=aJ hE;have RH:=aJ (hr.ext hE)
 have vG:Hid (w0.ownsRow w.heap.size 122 7 (.slice (some ⟨w.heap.size,0,none⟩) 0 0) 0 []):=
  ⟨rfl,.inr ⟨w.heap.size,0,#[],rfl,bZ _,hB,bZ _,by unfold maxLen;omega,rfl,rfl⟩⟩
 have HL:=aJ hl;have HO:=aJ ho;have hnil:∀ W:World,(binOp BinOp.eql 52 (.slice (some ⟨g,0,none⟩) n c) (.slice none 0 0)).run prog W=.ok false W:=fun W=>by kernel_rfl
 clear hl hr hE hB ho;go_in;go_wp2_with (at_builtin;refine cN w0 rfl (.tmp 5) (.tmp 6) 52 rfl w.heap.size 122 7 56 sN underlying52 (.slice (some ⟨w.heap.size,0,none⟩) 0 0) 0 [] (by simp [Act.eval]) vG.out (some ⟨g,0,none⟩) n c us (by simp [Act.eval]) HL.out RH.out HO.out O_ HE.out.size ?_;intro v' w' hown hgrow rV;rw [rN,mX] at hown);exact QN
theorem AM(h:w.ownsRow B 122 7 v n us)(ho:∀ u∈us,u.oneCell'=true)(hn:n≤100000000000):Calls prog 118 #[v] w (lM w 122 7 n us):=by
 have hl:=h.1;obtain⟨A,c,rfl⟩:=aA h
 cases A with
 | none=>
  rcases h.2 with ⟨h',h0,_⟩ | ⟨g',cap',cur,h',_⟩
  ·cases h'
   have:us= []:=Oa O_;subst this;exact AL w
  ·cases h'
 | some a=>
  rcases h.2 with ⟨h',_⟩ | ⟨g',cap',cur,h',hh⟩
  ·cases h'
  ·injection h' with h1 h2 h3
   injection h1 with h1;subst h1;exact yd g' n c us w hl (Rd.fM h) ho hn
def Rec(B:Nat)(w w':World):Prop:=∃ l o o',B≤l∧w.heap[l]?=some o∧o.isCells=false∧w'=w.putObj l o'
theorem Rec.mk{B l:Nat}{o:Obj}(hl:B≤l)(h:w.heap[l]?=some o)(ho:o.isCells=false)(o':Obj):Rec B w (w.putObj l o'):=⟨l,o,o',hl,h,ho,rfl⟩
theorem Rec.only{B:Nat}{w w':World}(h:Rec B w w'):dM (fun q=>B≤q) w w':=by
 obtain⟨l,o,o',hl,_,_,rfl⟩:=h;exact⟨rfl,rfl,rfl,Nat.le_of_eq (World.putObj_size).symm,fun k _ hn=>JF fun e=>hn (e▸hl)⟩
theorem Rec.cells{B b:Nat}{w w':World}{cs:Array Value}{t:TypeId}{r:Nat×Nat}(h:Rec B w w')(hb:w.heap[b]?=some (.cells cs t r)):w'.heap[b]?=some (.cells cs t r):=by
 obtain⟨l,o,o',hl,ho,hc,rfl⟩:=h;refine(JF fun e=>?_).trans hb;rw [←e,hb] at ho;injection ho with ho;rw [←ho] at hc
 cases hc
theorem Rec.own{B base size n:Nat}{w w':World}(h:Rec B w w')(ho:w.ownsRow base e size v n us):w'.ownsRow base e size v n us:=by
 refine⟨ho.1,?_⟩
 rcases ho.2 with hn | ⟨g,cap,cur,rfl,hb,hg,rest⟩
 ·exact .inl hn
 ·exact .inr ⟨g,cap,cur,rfl,hb,h.cells hg,rest⟩
theorem Cu{B:Nat}{X:Nat→Prop}{W W':World}(o:dM X W W')(h:∀ q,X q→q<B):KeepsFrom B W W':=
 ⟨o.size,fun k _ hB hk _=>(o.block k (uh.1 hk).1 fun hx=>by have:=h k hx;omega).trans hk⟩
theorem Cv{B base size n:Nat}{W W':World}(ho:W.ownsRow base e size v n us)(hg:W.grownBy W' v.ownBlock):KeepsFrom B W W':=by
 refine⟨hg.size,fun k o _ hk hc=>(hg.block k (uh.1 hk).1 fun hx=>?_).trans hk⟩
 rcases ho.2 with ⟨rfl,_⟩ | ⟨g,cap,cur,rfl,_,hgb,_⟩
 ·cases hx
 ·have e2:k=g:=Option.some.inj hx
  rw [e2,hgb] at hk;injection hk with hk;rw [←hk] at hc
  cases hc
def OO{α:Type}(B:Nat)(I:List α→World→Prop)(Ix:Code→List α→World→Prop)(It:List α→α→World→Prop)(pre:List α)(x:α)(W:World):Exit→Act→World→Prop
 | .normal,_,W'=>KeepsFrom B W W'∧I (pre++ [x]) W'∧It pre x W'
 | .ret,_,W'=>KeepsFrom B W W'∧Ix .ret (pre++ [x]) W'
 | .exit id,_,W'=>KeepsFrom B W W'∧Ix (.exit id) (pre++ [x]) W'
 | .goto t,_,W'=>KeepsFrom B W W'∧Ix (.goto t) (pre++ [x]) W'
 | .panic _,_,_=>False
 | .outgrown,_,_=>False
def Dp{α:Type}(P:Program)(gf:Nat)(lb:Array Value)(encs:α→Array Value)(Tr:World→World→Prop)(It:List α→α→World→Prop)(S:List α→World→Prop)(W:World):Prop:=
 ∀ (l:Nat) (J Jx:List α→World→Prop),(∀ pre A B,J pre A→Tr A B→J pre B)→
  (∀ pre x W1,J pre W1→It pre x W1→YieldAt Fence.wide 0 P l (encs x) W1 fun e W'=>(e=.returned true∧J (pre++ [x]) W'∧It pre x W')∨(e=.returned false∧Jx (pre++ [x]) W'))→
  J [] W→CallsIn Fence.wide 0 P gf (#[.func (.yield l) #[] #[]]++lb) W fun e W'=>(∃ v,e=.returned v)∧((∃ xs,S xs W'∧J xs W')∨(∃ pre,Jx pre W'))
theorem wv{P:Program}{f:FuncId}{fn:Func}{c:Code}{args:Array Value}{R:Ending→World→Prop}(hf:P.funcs[f]?=some fn)(hb:fn.body=some c)
  (h:c.wp P (bodyPostM Fence.wide 0 P fn R) {tmps:=args++Array.replicate (fn.ntmps - args.size) undef,defers:= []} w):Calls P f args w R:=
 callsIn_wide.1 (callsIn_of_wp_marks (n:=0) hf hb trivial (wpIn_wide.2 h))
abbrev wO:=Nat×Ac×Value
def EL(x:wO):Array Value:=#[x.1,.agg x.2.1.enc.toArray]
def iX(v:Value)(log:List Ac):List wO:=((List.range log.length).zip log).map fun p=>(p.1,p.2,v)
theorem EI{i:Nat}{a:Ac}(h:log[i]?=some a):(iX v log).take (i+1)=(iX v log).take i++ [(i,a,v)]:=by
 have hl:=(fO.1 h).1
 have hz:((List.range log.length).zip log)[i]?=some (i,a):=by
  rw [JO];exact⟨List.getElem?_range hl,h⟩
 have hx:(iX v log)[i]?=some (i,a,v):=by
  unfold iX;rw [gA,hz]
  rfl
 rw [Fl,hx]
 rfl
theorem sK(v:Value)(log:List Ac):(iX v log).length=log.length:=by unfold iX;simp
theorem I9(v:Value)(log:List Ac):(iX v log).map (fun x=>x.2.1)=log:=by
 unfold iX;rw [List.map_map]
 show((List.range log.length).zip log).map Prod.snd=log
 exact List.map_snd_zip S_
theorem CS{x:wO}(h:x∈iX v log):x.2.2=v:=by
 unfold iX at h;obtain⟨y,_,rfl⟩:=List.mem_map.1 h
 rfl
theorem EJ(v:Value)(log:List Ac):(iX v log).flatMap (fun x=>x.2.1.enc)=log.flatMap Ac.enc:=by
 rw [←List.flatMap_map (f:=fun x:wO=>x.2.1) (g:=Ac.enc),I9]
theorem Pj(log:List Ac):∀ u∈log.flatMap Ac.enc,u.oneCell'=true:=by
 intro u hu;obtain⟨a,_,h⟩:=List.mem_flatMap.1 hu;simp [Ac.enc] at h
 rcases h with rfl | rfl | rfl | rfl | rfl | rfl | rfl<;>rfl
def To(B:Nat)(log:List Ac)(pre:List wO)(x:wO)(W:World):Prop:=W.ownsRow B 122 7 x.2.2 log.length (log.flatMap Ac.enc)∧pre=(iX x.2.2 log).take pre.length∧log[pre.length]?=some x.2.1∧x.1=pre.length
theorem IB{W:World}{B0 B bx ay bW:Nat}{vl:Value}(hx:∀ z:aL W,z.world.cell? ⟨bx,0,none⟩=some (some bW))(hy:∀ z:aL W,z.world.cell? ⟨ay,0,none⟩=some (.int .i64 0))(hw:∀ z:aL W,z.world.cell? ⟨bW,1,none⟩=some vl)
  (ho:W.ownsRow B 122 7 vl log.length (log.flatMap Ac.enc)) (hl:log.length<1000000) (hB:B0≤W.heap.size):
  Dp prog 117 #[some bx,some ay] EL Ext (To B0 log) (fun xs _=>∃ v,xs=iX v log) W:=by
 intro l J Jx hJ hY h0;refine callsIn_wide.2 ?_
 show Calls prog 117 #[.func (.yield l) #[] #[],some bx,some ay] W _
 have hc:=AM ho (Pj log) O_;have x0:=hx ⟨W,bu W⟩;have w0:=hw ⟨W,bu W⟩;simp only at x0 w0;have HJ:=aJ hJ;have HY:=aJ hY;have H0:=aJ h0;have Hy:=aJ hy;clear hx hw hJ hY h0 hy;go_enter func117,ntmps117;go_wp2_with fail;refine hc.mono ?_;rintro e w1 ⟨v,rfl,hv,e1⟩;replace hv:=ku hv hB;have y0:=Hy.out ⟨w1,e1⟩;simp only at y0;have HJ1:=aJ (HJ.out [] W w1 H0.out e1);obtain⟨A,c,rfl⟩:=aA hv;have HV:=aJ hv;have HS:=aJ e1.size;clear hc x0 w0 H0 hv e1 ho Hy;go_wp2
 go_loopw [5] (fun s5 wr=>∃ (i:Nat),s5=.int .i64 i∧i≤log.length∧Hid (J ((iX (.slice A log.length c) log).take i) wr)∧Hid (wr.ownsRow B0 122 7 (.slice A log.length c) log.length (log.flatMap Ac.enc))) (fun s5 _=>log.length - (intOf s5).toNat)
 case atStart=>exact⟨0,rfl,nU _,HJ1,HV⟩
 case round=>
  clear HJ1 HV;obtain⟨i,rfl,hi,HJr,HVr⟩:=hrel
  by_cases hlt:i<log.length
  case neg=>
   have dl:decide ((i:Int)<(log.length:Int))=false:=dy O_;have L7:(iX (.slice A log.length c) log).take i=iX (.slice A log.length c) log:=Bj (by rw [sK];omega);rw [L7] at HJr;clear L7;go_wp2_with fail;refine iP ⟨⟨_,rfl⟩,.inl ⟨_,⟨_,rfl⟩,HJr.out⟩⟩
  case pos=>
   have dl:decide ((i:Int)<(log.length:Int))=true:=cM O_;obtain⟨a,ha⟩:∃ a,log[i]?=some a:=⟨_,fy hlt⟩;obtain⟨g,c',hA,_⟩:=bf HVr.out O_;injection hA with hA _ hc';subst hA hc'
   have RE:∀ k u,a.enc[k]?=some u→wr.cell? ⟨g,i*7+k,none⟩=some u:=fun k u hu=>by
    have hh:=flat_get Ac.enc 7 (fun _=>rfl) ha hu;exact(HVr.out.cellAt (i*7+k) (by have:=HVr.out.1;have:=(fO.1 hh).1;omega)).trans hh
   have Htk:=aJ (EI (v:=.slice (some ⟨g,0,none⟩) log.length c) ha)
   have HIt:Hid (To B0 log ((iX (.slice (some ⟨g,0,none⟩) log.length c) log).take i) (i,a,.slice (some ⟨g,0,none⟩) log.length c) wr):=by
    have P2:((iX (.slice (some ⟨g,0,none⟩) log.length c) log).take i).length=i:=by rw [Fj,sK];omega
    exact⟨HVr.out,by rw [P2],by rw [P2];exact ha,by rw [P2]⟩
   obtain⟨fn,tmps,assign,body,hy,hR⟩:=HY.out _ _ _ HJr.out HIt.out;obtain⟨am,ath,ak,aa,ao,an,aw⟩:=a;have c0:=RE 0 _ rfl;have c1:=RE 1 _ rfl;have c2:=RE 2 _ rfl;have c3:=RE 3 _ rfl;have c4:=RE 4 _ rfl;have c5:=RE 5 _ rfl;have c6:=RE 6 _ rfl;rw [gn] at c0;have Hy:(Instr.yield l #[i,.agg #[am,ath,ak,aa,.int .u64 ao,.int .u64 an,.int .u64 aw]]).run prog wr=.ok (.round l fn tmps assign body) wr:=hy;have HR:=aJ hR;clear hy hR RE HJr HVr
   go_upto_region 5 with fail;refine(wpIn_wide (n:=0)).1 ?_
   gi_wp2
   refine⟨rfl,HR.out.mono ?_⟩;rintro e W3 (⟨rfl,hJ3,hit3⟩ | ⟨rfl,hJx3⟩)
   ·have HV3:=aJ hit3.1
    rw [←Htk.out] at hJ3;have HJ3:=aJ hJ3;clear hit3 hJ3;simp only at HV3
    gi_wp2
    go_wp2
    go_roundw
    case rel=>exact⟨i+1,by rw [show((i:Int)+1)=((i+1:Nat):Int) from rfl],O_,HJ3,HV3⟩
    case measure=>simp only [intOf];omega
   ·gi_wp2
    go_wp2_with fail;refine DL (results_none rfl _ _ _) rfl ?_;exact⟨⟨_,rfl⟩,.inr ⟨_,hJx3⟩⟩
end Go.Proofs.YtgbhnihkgmpocaaGreat
namespace Go.Proofs.YtgbhnihkgmpocaaGreat
set_option maxRecDepth 100000
set_option maxHeartbeats 4000000
open Tryz
open Go.RowKit Go.MapKept
open Go.ChangeMaps (setBlock)
section
variable{P:Program}{t kt et:TypeId}{w:World}{b:Nat}{f:Int→Option Int}
theorem mem_erase{es:Array MapEntry}{j:Nat}{x:MapEntry}(hx:x∈(es.eraseIdxIfInBounds j).toList):x∈es.toList:=by
 have hs':(es.eraseIdxIfInBounds j).toList.Sublist es.toList:=by
  unfold Array.eraseIdxIfInBounds
  split
  ·simp only [Array.toList_eraseIdx];exact List.eraseIdx_sublist _ _
  ·exact List.Sublist.refl _
 exact hs'.subset hx
theorem jY.del(ht:P.underlying t=some (.map kt et))(hk:P.underlying kt=some (.int .i64))(h:jY w b f)(k:Int)(ty:TypeId):
  ∃ w',(Builtin.delete_ #[t,kt] ty #[.map (some b),k]).run P w=.ok (.tuple #[]) w'∧jY w' b (fun j=>if j=k then none else f j)∧dM (fun q=>q=b) w w':=by
 obtain⟨es,cl,hb,hs,h1,h2⟩:=h
 have hks:∀ x∈es.toList,IsKey (.int .i64) x.key:=fun x hx=>by
  obtain⟨k',v',e,_⟩:=h1 x hx;rw [e];exact dY k'
 have qV:∀ o',dM (fun q=>q=b) w {w with heap:=w.heap.setIfInBounds b o'}:=fun o'=>
  ⟨rfl,rfl,rfl,S_,fun q _ hq=>(heap_set (o':=o') hb).2 q hq⟩
 rcases findNow_spec (dY k) es.toList 0 hks with ⟨g1,g2⟩ | ⟨j,e,g1,g2,g3⟩
 ·refine⟨_,by simp [Builtin.delete_,run_underlying ht,Xp hb,run_checkKey hk (dY k),run_findKey hk g1,run_setObj_map _ hb,Result.andThen],⟨es,cl,(heap_set hb).1,hs,fun x hx=>?_,fun k' v' hf=>?_⟩,qV _⟩
  ·exact Sz
  ·by_cases hkk:k'=k
   ·simp only [hkk,dL] at hf
    cases hf
   ·simp only [hkk,eu] at hf
    exact h2 k' v' hf
 ·have Vg:=hs.2.2
  have hj:j<es.size:=by
   have:=(fO.1 g2).1;simpa using this
  have qX:(es.eraseIdxIfInBounds j).toList=es.toList.eraseIdx j:=by
   unfold Array.eraseIdxIfInBounds;rw [dif_pos hj,Array.toList_eraseIdx]
  have hnot:∀ x∈es.toList.eraseIdx j,x.key≠e.key:=fun x hx q=>by
   obtain⟨i,hi1,hi2⟩:=List.mem_eraseIdx_iff_getElem?.1 hx;have hjj:(es.toList.map (·.key))[j]?=some e.key:=by rw [gA,g2];rfl
   have Z1:(es.toList.map (·.key))[i]?=some x.key:=by rw [gA,hi2];rfl
   rw [q,←hjj] at Z1;exact hi1 ((List.getElem?_inj (by rw [mC];exact(fO.1 hi2).1) Vg).1 Z1)
  refine⟨_,by simp [Builtin.delete_,run_underlying ht,Xp hb,run_checkKey hk (dY k),run_findKey hk g1,run_setObj_map _ hb,Result.andThen];rfl,⟨_,cl,(heap_set hb).1,stamped_erase hs _,fun x hx=>?_,fun k' v' hf=>?_⟩,qV _⟩
  ·obtain⟨k',v',e1,e2,e3⟩:=h1 x (mem_erase hx)
   have hne:k'≠k:=fun q=>by
    rw [qX] at hx;exact hnot x hx (by rw [e1,g3,q])
   exact NK
  ·by_cases hkk:k'=k
   ·simp only [hkk,dL] at hf
    cases hf
   ·simp only [hkk,eu] at hf
    obtain⟨x,hx,e1,e2⟩:=h2 k' v' hf;obtain⟨i,hi⟩:=N9 hx;refine⟨x,?_,e1,e2⟩;rw [qX];refine List.mem_eraseIdx_iff_getElem?.2 ⟨i,fun q=>?_,hi⟩;exact SF
end
section
variable{P:Program}{w:World}{ops:Array Oper}{rest:List Oper}{o:Oper}{a:Act}{Q:Exit→Act→World→Prop}
end
theorem qC(w:World):(zeroValue 3).run prog w=.ok (.int .i64 0) w:=K_
def oF(o:Obj)(f:Int→Option Value):Prop:=
 ∃ es clock,o=.map es clock∧Stamped es clock∧(∀ x∈es.toList,∃ k v,x.key=.int .i64 k∧x.val=v∧f k=some v)∧
  (∀ k v,f k=some v→∃ x∈es.toList,x.key=.int .i64 k∧x.val=v)
def eY(w:World)(b:Nat)(f:Int→Option Value):Prop:=
 ∃ es clock,w.heap[b]?=some (.map es clock)∧Stamped es clock∧(∀ x∈es.toList,∃ k v,x.key=.int .i64 k∧x.val=v∧f k=some v)∧
  (∀ k v,f k=some v→∃ x∈es.toList,x.key=.int .i64 k∧x.val=v)
variable{w:World}{b:Nat}
theorem eY.lt{f:Int→Option Value}(h:eY w b f):b<w.heap.size:=by
 obtain⟨es,cl,hb,_⟩:=h;exact pQ hb
theorem eY.of{o:Obj}{f:Int→Option Value}(h:oF o f)(hb:w.heap[b]?=some o):eY w b f:=by
 obtain⟨es,cl,rfl,q⟩:=h;exact⟨es,cl,hb,q⟩
theorem eY.obj{f:Int→Option Value}(h:eY w b f):∃ o,w.heap[b]?=some o∧oF o f:=by
 obtain⟨es,cl,hb,q⟩:=h;exact⟨_,hb,es,cl,rfl,q⟩
theorem eY.block{w w':World}{f:Int→Option Value}(h:eY w b f)(hb:w'.heap[b]?=w.heap[b]?):eY w' b f:=by
 obtain⟨es,cl,h1,h2⟩:=h;exact⟨es,cl,hb.trans h1,h2⟩
theorem eY.ext{w w':World}{f:Int→Option Value}(h:eY w b f)(e:Ext w w'):eY w' b f:=h.block (e.block b h.lt)
theorem eY.only{w w':World}{f:Int→Option Value}{S:Nat→Prop}(h:eY w b f)(o:dM S w w')(hs:¬S b):eY w' b f:=h.block (o.block b h.lt hs)
theorem eY.new(w:World):eY (w.alloc (.map #[] 0)) w.heap.size (fun _=>none):=
 ⟨#[],0,yo w _,stamped_empty 0,fun x hx=>by simp at hx,fun k v h=>by cases h⟩
theorem eY.same{f g:Int→Option Value}(h:eY w b f)(e:∀ k,f k=g k):eY w b g:=by
 have:f=g:=funext e
 rwa [←this]
section
variable{P:Program}{z:Value}{t kt et:TypeId}{w:World}{b:Nat}{f:Int→Option Value}
theorem eY.lookup(ht:P.underlying t=some (.map kt et))(hk:P.underlying kt=some (.int .i64))(hz:∀ w,(zeroValue et).run P w=.ok z w)(h:eY w b f)(k:Int)(ok:Bool):
  (Instr.lookup t (.map (some b)) k ok).run P w=.ok (if ok then .tuple #[(f k).getD z,.bool (f k).isSome] else(f k).getD z) w:=abW
noncomputable def jz(P:Program)(t:TypeId)(w:World)(b:Nat)(k:Int)(v:Value):World:=match (Instr.mapUpdate t (.map (some b)) k v).run P w with
 | .ok _ w'=>w'
 | .halt _ w'=>w'
theorem eY.put(ht:P.underlying t=some (.map kt et))(hk:P.underlying kt=some (.int .i64))(h:eY w b f)(k:Int)(v:Value):
  (Instr.mapUpdate t (.map (some b)) k v).run P w=.ok () (jz P t w b k v)∧eY (jz P t w b k v) b (fun j=>if j=k then some v else f j)∧dM (fun q=>q=b) w (jz P t w b k v):=by
 obtain⟨es,cl,hb,hs,h1,h2⟩:=h
 have hks:∀ x∈es.toList,IsKey (.int .i64) x.key:=fun x hx=>by
  obtain⟨k',v',e,_⟩:=h1 x hx;rw [e];exact dY k'
 have qV:∀ o',dM (fun q=>q=b) w {w with heap:=w.heap.setIfInBounds b o'}:=fun o'=>
  ⟨rfl,rfl,rfl,S_,fun q _ hq=>(heap_set (o':=o') hb).2 q hq⟩
 rcases findNow_spec (dY k) es.toList 0 hks with ⟨g1,g2⟩ | ⟨j,e,g1,g2,g3⟩
 ·have hrun:(Instr.mapUpdate t (.map (some b)) k v).run P w=.ok () {w with heap:=w.heap.setIfInBounds b (.map (es.push ⟨.int .i64 k,v,cl⟩) (cl+1))}:=S4
  have hput:jz P t w b k v={w with heap:=w.heap.setIfInBounds b (.map (es.push ⟨.int .i64 k,v,cl⟩) (cl+1))}:=by rw [jz,hrun]
  exact abO
 ·have hj:es[j]?=some e:=by simpa using g2
  have hrun:(Instr.mapUpdate t (.map (some b)) k v).run P w=.ok () {w with heap:=w.heap.setIfInBounds b (.map (es.modify j fun e'=>{e' with key:=.int .i64 k,val:=v}) cl)}:=abd;have hput:jz P t w b k v={w with heap:=w.heap.setIfInBounds b (.map (es.modify j fun e'=>{e' with key:=.int .i64 k,val:=v}) cl)}:=by rw [jz,hrun]
  rw [hput];have hkey:∀ e',es[j]?=some e'→({e' with key:=.int .i64 k,val:=v}:MapEntry).key=e'.key:=fun e' he'=>by rw [hj] at he';cases he';exact g3.symm
  have L6:∀ i,(es.modify j fun e'=>{e' with key:=.int .i64 k,val:=v})[i]?=if j=i then some {e with key:=.int .i64 k,val:=v} else es[i]?:=fun i=>by
   rw [Array.getElem?_modify]
   by_cases hji:j=i
   ·subst hji
    simp [hj]
   ·simp [hji]
  refine⟨hrun,⟨_,_,(heap_set hb).1,stamped_modify hs _ _ (fun _ _=>rfl) (fun e' _ he'=>hkey e' he'),fun x hx=>?_,fun k' v' hf=>?_⟩,qV _⟩
  ·exact abS
  ·by_cases hkk:k'=k
   ·simp only [hkk,dL] at hf
    injection hf with hf;refine⟨{e with key:=.int .i64 k,val:=v},nV (i:=j) (by rw [Fo,L6,aY rfl]),by rw [hkk],by rw [hf]⟩
   ·exact abE
end
def gE(w:World)(b r:Nat):Nat:=match w.heap[r]?,w.heap[b]? with
 | some (.mapIter _ _ seen _),some (.map es _)=>(leftOf es seen).size
 | _,_=>0
def rG(w:World)(b r:Nat)(f:Int→Option Value)(left:Int→Prop):Prop:=
 ∃ es clock since seen c0,w.heap[b]?=some (.map es clock)∧Stamped es clock∧(∀ x∈es.toList,∃ k v,x.key=.int .i64 k∧x.val=v∧f k=some v)∧
  w.heap[r]?=some (.mapIter (some b) since seen c0)∧(∀ x∈es.toList,x.born<since)∧since≤c0∧since≤clock∧(∀ k,left k→∃ x∈(leftOf es seen).toList,x.key=.int .i64 k)
theorem rG.lt{b r:Nat}{f:Int→Option Value}{left:Int→Prop}(h:rG w b r f left):r<w.heap.size∧b<w.heap.size:=by
 obtain⟨es,cl,si,sn,c0,h1,h2,h3,h4,h5⟩:=h;exact⟨pQ h4,pQ h1⟩
section
variable{P:Program}{w:World}{ops:Array Oper}{rest:List Oper}{o:Oper}{a:Act}{Q:Exit→Act→World→Prop}
theorem qD(hg:o.guard=none)(m:Operand)(t:TypeId)(hop:o.op=Op.range t m){k e:TypeId}(ht:P.underlying t=some (.map k e))(b:Nat)(f:Int→Option Value)(hm:a.eval m=.map (some b))(h:eY w b f)
  (hK:∀ w',rG w' b w.heap.size f (fun k=>f k≠none)→Ext w w'→wpList P ops Q rest (a.put o.dst (some w.heap.size)) w'):wpList P ops Q (o::rest) a w:=by
 refine wpList_plain hg fun K' Xl=>?_
 obtain⟨es,cl,hb,hs,h1,h2⟩:=h;have hrun:=run_range_map (P:=P) w t k e b es cl ht hb;unfold Oper.wp;simp [execOp,hop,hm,hrun,Result.andThen];have he:Ext w (w.alloc (.mapIter (some b) cl #[] cl)):=(bu w).aE _;refine Xl _ _ (hK _ ⟨es,cl,cl,#[],cl,gJ he hb,hs,h1,yo w _,hs.1,bZ _,bZ _,fun k hk=>?_⟩ he)
 cases hf:f k with
 | none=>exact absurd hf hk
 | some v=>
  obtain⟨x,hx,e1,_⟩:=h2 k v hf;exact⟨x,by simpa [leftOf] using hx,e1⟩
theorem r8(hg:o.guard=none)(it:Operand)(hop:o.op=Op.next it false)(b r:Nat)(f:Int→Option Value)(left:Int→Prop)(hit:a.eval it=.pointer (some ⟨r,0,none⟩))(h:rG w b r f left)
  (hDone:(∀ k,¬left k)→wpList P ops Q rest (a.put o.dst (.tuple #[false])) w)
  (hMore:∀ k v w',f k=some v→rG w' b r f (fun z=>left z∧z≠k)→gE w' b r<gE w b r→dM (fun q=>q=r) w w'→(Instr.entry (some r)).run P w'=.ok (.tuple #[k,v]) w'→
   wpList P ops Q rest (a.put o.dst (.tuple #[true,k,v])) w'):wpList P ops Q (o::rest) a w:=by
 refine wpList_plain hg fun K' Xl=>?_
 obtain⟨es,cl,si,sn,c0,hb,hs,h1,hr,hold,hsc,fQ,hl⟩:=h;have hrb:r≠b:=fun e=>by rw [e,hb] at hr;cases hr
 unfold Oper.wp
 rcases run_next_at (P:=P) w o.type r b si c0 sn es cl hr hb hold hsc with ⟨h0,hrun⟩ | ⟨e,he,w1,hw1,hrun⟩
 ·simp [execOp,hop,hit,hrun,Result.andThen]
  refine Xl _ _ (hDone fun k hk=>?_);obtain⟨x,hx,_⟩:=hl k hk;have:(leftOf es sn)=#[]:=Array.eq_empty_of_size_eq_zero h0;rw [this] at hx;simp at hx
 ·obtain⟨xm,_⟩:=mem_left he
  obtain⟨k,v,ek,ev,hf⟩:=h1 e xm;have F6:w1.heap=w.heap:=by rcases hw1 with rfl | rfl<;>rfl
  have eO:w1.heap[r]?=some (.mapIter (some b) si sn c0):=by rw [F6];exact hr
  have qV:=heap_set (o':=.mapIter (some b) si (sn.push e.born) cl) eO;have Ey:(setBlock w1 r (.mapIter (some b) si (sn.push e.born) cl)).heap[b]?=some (.map es cl):=(qV.2 b (iS hrb)).trans (by rw [F6];exact hb);have iF:(setBlock w1 r (.mapIter (some b) si (sn.push e.born) cl)).heap[r]?=some (.mapIter (some b) si (sn.push e.born) cl):=qV.1
  have ZW:dM (fun q=>q=r) w (setBlock w1 r (.mapIter (some b) si (sn.push e.born) cl)):=by
   have h1:dM (fun q=>q=r) w w1:=by
    rcases hw1 with rfl | rfl
    ·exact dM.refl _ _
    ·exact(dM.refl _ _).drew
   refine⟨h1.os,h1.tape,h1.output,by simp [setBlock,F6],fun q hq hne=>?_⟩;exact(qV.2 q hne).trans (by rw [F6])
  have Ma:=run_entry_at (P:=P) _ r b si sn es cl e iF Ey xm hs.2.1;rw [ek,ev] at hrun;rw [ek,ev] at Ma;simp [execOp,hop,hit,hrun,Result.andThen];refine Xl _ _ (hMore k v _ hf ⟨es,cl,si,sn.push e.born,cl,Ey,hs,h1,iF,hold,fQ,fQ,fun z hz=>?_⟩ ?_ ZW Ma)
  ·obtain⟨x,hx,ex⟩:=hl z hz.1
   refine⟨x,?_,ex⟩;obtain⟨hxe,hxs⟩:=mem_left hx;simp only [leftOf,Array.toList_filter,List.mem_filter] at hx ⊢;refine⟨hx.1,?_⟩;rw [contains_push,hxs]
   have:x.born≠e.born:=fun q=>by
    have:=born_inj hs.2.1 hxe xm q;rw [this,ek] at ex;injection ex with _ ex;exact hz.2 ex.symm
   simpa using this
  ·unfold gE
   rw [iF,Ey,hr,hb];exact left_shrinks es sn e he
theorem oU(hg:o.guard=none)(m x v:Operand)(t:TypeId)(hop:o.op=Op.mapUpdate t m x v)
  (k e:TypeId) (ht:P.underlying t=some (.map k e)) (hk:P.underlying k=some (.int .i64)) (b:Nat) (f:Int→Option Value) (hm:a.eval m=.map (some b)) (h:eY w b f) (kk:Int) (vv:Value) (hx:a.eval x=.int .i64 kk) (hv:a.eval v=vv)
  (hK:∀ w',eY w' b (fun j=>if j=kk then some vv else f j)→dM (fun q=>q=b) w w'→wpList P ops Q rest (a.put o.dst undef) w'):
  wpList P ops Q (o::rest) a w:=by
 refine wpList_plain hg fun K' Xl=>?_
 obtain⟨r0,r1,r2⟩:=h.put (P:=P) (t:=t) ht hk kk vv;unfold Oper.wp;simp only [execOp,hop,hm,hx,hv,Du,r0,Result.andThen];exact Xl _ _ (hK _ r1 r2)
end
end Go.Proofs.YtgbhnihkgmpocaaGreat
namespace Go.Proofs.YtgbhnihkgmpocaaGreat
set_option maxRecDepth 100000
set_option maxHeartbeats 4000000
open Tryz
open Go.RowKit
theorem AU(w:World)(old cs:Array Value)(t:TypeId):(w.alloc (.cells old t)).setRow w.heap.size cs=w.alloc (.cells cs t):=by
 show({w with heap:=(w.heap.push (.cells old t)).modify w.heap.size _}:World)={w with heap:=w.heap.push (.cells cs t)}
 congr 1
 apply Array.ext_getElem?;intro i;rw [Array.getElem?_modify]
 by_cases hi:w.heap.size=i
 ·subst hi
  simp
 ·simp only [hi,eu]
  simp only [Array.getElem?_push]
  split
  ·omega
  ·rfl
theorem sQ(w:World)(X Y:Obj):((w.alloc X).alloc Y).heap[w.heap.size+1]?=some Y:=by
 have:=yo (w.alloc X) Y;simpa using this
theorem oQ(w:World)(X:Obj)(old cs:Array Value)(t:TypeId):((w.alloc X).alloc (.cells old t)).setRow (w.heap.size+1) cs=(w.alloc X).alloc (.cells cs t):=by
 have:=AU (w.alloc X) old cs t;simpa using this
variable{P:Program}{w:World}
theorem bE{ops:Array Oper}{rest:List Oper}{o:Oper}{a:Act}{Q:Exit→Act→World→Prop}(hg:o.guard=none)(t:TypeId)(parts:Array (Nat×Operand))(ho:o.op=.build t parts)
  (cells:Array Value) (hf:P.built t (parts.map fun(i,x)=>(i,a.eval x)).toList=some cells)
  (h:wpList P ops Q rest (a.put o.dst (.agg cells)) w):wpList P ops Q (o::rest) a w:=
 wpList_build hg t parts ho (by rw [hf];rfl) (by rw [hf];exact h)
def AW(k:Nat)(T R H Re Ca S B:Int):Prop:=(0<k→1≤T∧T≤16)∧(1<k→1≤R∧R≤16)∧(2<k→3≤H∧H≤8)∧(3<k→1≤Re∧Re≤1024)∧(4<k→0≤Ca∧Ca≤64)∧(5<k→1≤S∧S≤1024)∧(6<k→1≤B∧B≤64)
theorem El(T R H Re Ca S B:Int){k:Nat}(hk:k<7):∃ x lo hi:Int,(#[.int .i64 T,.int .i64 1,.int .i64 16,.int .i64 R,.int .i64 1,.int .i64 16,.int .i64 H,.int .i64 3,.int .i64 8,.int .i64 Re,.int .i64 1,.int .i64 1024,.int .i64 Ca,.int .i64 0,.int .i64 64,.int .i64 S,.int .i64 1,.int .i64 1024,.int .i64 B,.int .i64 1,.int .i64 64]:Array Value).extract (k*3) (k*3+3)=#[.int .i64 x,.int .i64 lo,.int .i64 hi]∧(bY T R H Re Ca S B→lo≤x∧x≤hi)∧(AW k T R H Re Ca S B→lo≤x→x≤hi→Hid (AW (k+1) T R H Re Ca S B)):=by
 unfold bY
 show ∃ x lo hi:Int,_∧_∧(AW k T R H Re Ca S B→lo≤x→x≤hi→AW (k+1) T R H Re Ca S B)
 unfold AW
 rcases(by omega:k=0∨k=1∨k=2∨k=3∨k=4∨k=5∨k=6) with rfl | rfl | rfl | rfl | rfl | rfl | rfl
 ·exact⟨T,1,16,rfl,O_,O_⟩
 ·exact⟨R,1,16,rfl,O_,O_⟩
 ·exact⟨H,3,8,rfl,O_,O_⟩
 ·exact⟨Re,1,1024,rfl,O_,O_⟩
 ·exact⟨Ca,0,64,rfl,O_,O_⟩
 ·exact⟨S,1,1024,rfl,O_,O_⟩
 ·exact⟨B,1,64,rfl,O_,O_⟩
theorem Kg{o:Oper}{a:Act}{K:Act→World→Prop}{Q:Exit→Act→World→Prop}(t:TypeId)(x i:Operand)(ho:o.op=.index t x i)
  (v:Value) (hv:(Instr.index t (a.eval x) (a.eval i)).run P w=.ok v w) (h:K (a.put o.dst v) w):o.wp P a w K Q:=by
 unfold Oper.wp execOp;simp only [ho,Du,hv,Result.andThen_ok];exact h
theorem zI{ops:Array Oper}{rest:List Oper}{o:Oper}{a:Act}{Q:Exit→Act→World→Prop}(hg:o.guard=none)(t:TypeId)(x i:Operand)(ho:o.op=.index t x i)
  (v:Value) (hv:(Instr.index t (a.eval x) (a.eval i)).run P w=.ok v w) (h:wpList P ops Q rest (a.put o.dst v) w):wpList P ops Q (o::rest) a w:=
 wpList_plain hg fun _ hK=>Kg t x i ho v hv (hK _ _ h)
theorem xw(w:World)(cs:Array Value)(k:Nat)(hk:k<7)(u:Array Value)(he:cs.extract (k*3) (k*3+3)=u):(Instr.index 256 (.agg cs) (.int .i64 (k:Int))).run prog w=.ok (.agg u) w:=by
 have hinfo:(prog.info? 255).map (·.size)=some 3:=K_
 obtain⟨inf,h1,h2⟩:=JL.1 hinfo;have hs:(sizeOf 255).run prog w=.ok 3 w:=by simp [sizeOf,typeInfo,h1,h2]
 subst he;simp [Instr.index,asIntOf,run_underlying underlying256,hs,part];intro h;omega
theorem jm(T R H Re Ca S B:Int)(w:World):
  cm 64 #[(.agg #[T,R,H,Re,Ca,S,B])] w (.int .i64 (if bY T R H Re Ca S B then 0 else 1)) fun w'=>Ext w w':=by
 generalize aad:(if bY T R H Re Ca S B then(0:Int) else 1)=cj;have acd:=aJ aad;clear aad;go_enter func64,ntmps64
 go_wp2_with (first
  | (show wpList _ _ _ ({dst:=some 8,op:=Op.build 255 _,type:=_,pos:=_,after:=_,guard:=_}::_) _ _;refine bE rfl _ _ rfl #[T,.int .i64 1,.int .i64 16] K_ ?_)
  | (show wpList _ _ _ ({dst:=some 11,op:=Op.build 255 _,type:=_,pos:=_,after:=_,guard:=_}::_) _ _;refine bE rfl _ _ rfl #[R,.int .i64 1,.int .i64 16] K_ ?_)
  | (show wpList _ _ _ ({dst:=some 14,op:=Op.build 255 _,type:=_,pos:=_,after:=_,guard:=_}::_) _ _;refine bE rfl _ _ rfl #[H,.int .i64 3,.int .i64 8] K_ ?_)
  | (show wpList _ _ _ ({dst:=some 17,op:=Op.build 255 _,type:=_,pos:=_,after:=_,guard:=_}::_) _ _;refine bE rfl _ _ rfl #[Re,.int .i64 1,.int .i64 1024] K_ ?_)
  | (show wpList _ _ _ ({dst:=some 20,op:=Op.build 255 _,type:=_,pos:=_,after:=_,guard:=_}::_) _ _;refine bE rfl _ _ rfl #[Ca,.int .i64 0,.int .i64 64] K_ ?_)
  | (show wpList _ _ _ ({dst:=some 23,op:=Op.build 255 _,type:=_,pos:=_,after:=_,guard:=_}::_) _ _;refine bE rfl _ _ rfl #[S,.int .i64 1,.int .i64 1024] K_ ?_)
  | (show wpList _ _ _ ({dst:=some 26,op:=Op.build 255 _,type:=_,pos:=_,after:=_,guard:=_}::_) _ _;refine bE rfl _ _ rfl #[B,.int .i64 1,.int .i64 64] K_ ?_)
  | (show wpList _ _ _ ({dst:=_,op:=Op.build 256 _,type:=_,pos:=_,after:=_,guard:=_}::_) _ _;refine bE rfl _ _ rfl #[T,.int .i64 1,.int .i64 16,R,.int .i64 1,.int .i64 16,H,.int .i64 3,.int .i64 8,Re,.int .i64 1,.int .i64 1024,Ca,.int .i64 0,.int .i64 64,S,.int .i64 1,.int .i64 1024,B,.int .i64 1,.int .i64 64] K_ ?_)
  | (show wpList _ _ _ ({dst:=_,op:=Op.store 256 _ _,type:=_,pos:=_,after:=_,guard:=_}::_) _ _;refine wpList_store_row rfl _ _ _ rfl (w.heap.size+1) #[T,.int .i64 1,.int .i64 16,R,.int .i64 1,.int .i64 16,H,.int .i64 3,.int .i64 8,Re,.int .i64 1,.int .i64 1024,Ca,.int .i64 0,.int .i64 64,S,.int .i64 1,.int .i64 1024,B,.int .i64 1,.int .i64 64] K_ K_ _ _ (sQ _ _ _) K_ K_ K_ ?_;rw [oQ])
  | (show wpList _ _ _ ({dst:=_,op:=Op.load 256 _,type:=_,pos:=_,after:=_,guard:=_}::_) _ _;refine wpList_load_row rfl _ _ rfl (w.heap.size+1) K_ _ _ _ _ (sQ _ _ _) underlying256 rfl K_ ?_))
 go_loopw [29] (fun s wr=>∃ k:Nat,k≤7∧s=.int .i64 k∧Hid (AW k T R H Re Ca S B)∧Ext w wr) (fun s _=>7 - (intOf s).toNat)
 case atStart=>exact⟨0,O_,rfl,by show AW _ _ _ _ _ _ _ _;simp [AW],((bu w).alloc (bZ _) _).alloc S_ _⟩
 case round=>
  obtain⟨k,hk,rfl,hu,he⟩:=hrel
  by_cases hlt:k<7
  ·obtain⟨x,lo,hi,hrow,hok,hup⟩:=El T R H Re Ca S B hlt
   have Wv:=aJ hok;have Hup:=aJ hup;clear hok hup;go_wp2_with (show wpList _ _ _ ({dst:=_,op:=Op.index 256 _ _,type:=_,pos:=_,after:=_,guard:=_}::_) _ _;refine zI rfl _ _ _ rfl (.agg #[.int .i64 x,.int .i64 lo,.int .i64 hi]) (xw _ _ k hlt _ hrow) ?_)
   all_goals first
    | (go_ret;exact⟨jV ((aK (fun h=>by have:=Wv.out h;omega)).symm.trans acd.out),he.alloc he.size _⟩)
    | (go_roundw
       case rel=>exact⟨k+1,O_,by go_num,Hup.out hu.out O_ O_,he.alloc he.size _⟩
       case measure=>simp [intOf];try omega)
  ·obtain rfl:k=7:=O_
   go_wp2;go_ret;exact⟨jV ((aY (by have:=hu.out;unfold AW at this;unfold bY;omega)).symm.trans acd.out),he⟩
theorem BR(T R H Re Ca S B:Int)(w:World):
  cm 67 #[(.agg #[T,R,H,Re,Ca,S,B])] w (if bY T R H Re Ca S B then .tuple #[.int .i64 (b7 R H S B 13),.int .i64 0] else .tuple #[.int .i64 0,.int .i64 1]) fun w'=>Ext w w':=by
 by_cases hok:bY T R H Re Ca S B
 ·have qW:=hok
  unfold bY at qW;obtain⟨_,_,hR,pZ,hH,qg,_,_,_,_,hS,mP,hB,xW⟩:=qW;rw [aY hok];go_enter func67,ntmps67;go_wp2_with fail;refine un (jm T R H Re Ca S B _) fun w1 e1=>?_
  rw [aY hok];have e1':=Ext.next ((bu w).alloc (bZ _) _) e1;have Mf:=(e1.block w.heap.size S_).trans (yo w _);have hsz:=e1.size;simp only [World.size_alloc] at hsz;have E1:=aJ e1';clear e1 e1';have agv:=aJ Mf;clear Mf;have Wv:=aJ hok;clear hok;go_wp2
  go_loopw [5,6] (fun s5 s6 wr=>∃ k:Nat,k≤13∧s5=.int .i64 (b7 R H S B k)∧s6=.int .i64 ((k:Int)+1)∧Ext w1 wr) (fun _ s _=>14 - (intOf s).toNat)
  case atStart=>exact⟨0,O_,rfl,rfl,bu _⟩
  case round=>
   obtain⟨k,hk,rfl,rfl,he⟩:=hrel;have hb:=jv R H S B hR pZ hH qg hS mP hB xW k;have hm:=lC R H S B ((k:Int)+1) hR pZ hH qg hS mP hB xW;have Bu:Hid (b7 R H S B k+cV R H S B ((k:Int)+1)=b7 R H S B (k+1)):=rfl;obtain⟨c0,c1,c2,c3,c4,c5,c6⟩:=C8 ((he.block w.heap.size O_).trans agv.out);have He:=aJ he;clear he;generalize hX:b7 R H S B k=X at hb Bu;generalize hY:cV R H S B ((k:Int)+1)=Y at hm Bu
   by_cases hlt:k<13
   ·go_wp2_with fail
    refine un (vr T R H Re Ca S B _ _ hR pZ hH qg) fun w2 e2=>?_
    rw [hY];have E2:=aJ (Ext.next He.out e2);clear e2;go_wp2
    go_roundw
    case rel=>exact⟨k+1,O_,by rw [←Bu.out],by go_num,E2.out⟩
    case measure=>simp [intOf];omega
   ·obtain rfl:k=13:=O_
    go_wp2
    go_ret2;rw [hX];exact⟨rfl,Ext.next E1.out He.out⟩
 ·rw [aK hok]
  go_enter func67,ntmps67;go_wp2_with fail;refine un (jm T R H Re Ca S B _) fun w1 e1=>?_
  rw [aK hok];have E1:=aJ (Ext.next ((bu w).alloc (bZ _) _) e1);clear e1;go_wp2
  go_ret2;exact⟨rfl,E1.out⟩
theorem E9(w:World)(X Y:Obj):((w.alloc X).alloc Y).heap[w.heap.size]?=some X:=by
 rw [heap_alloc_old _ _ S_];exact yo w X
theorem results_cell_tmp{fn:Func}{p t:Tmp}{ty:TypeId}(h:fn.results=#[.cell p ty,.tmp t])(tmps:Array Value)(w:World)(g:Nat)(hp:tmps.getD p undef=.pointer (some ⟨g,0,none⟩))(cs:Array Value)
  (hl:(loadVar ty ⟨g,0,none⟩).run P w=.ok (.agg cs) w):(results fn tmps).run P w=.ok (.tuple #[.agg cs,tmps.getD t undef]) w:=by
 have L1:tmps[p]?.getD undef=.pointer (some ⟨g,0,none⟩):=by simpa using hp
 simp [results,h,L1,asAddr,hl]
def oh(r:Int):Int:=if r≤6 then 0 else if r=9 then 2 else 1
def Wu(r:Int)(w:World)(e:Ending)(w':World):Prop:=∃ (s:ByteArray) (kd:Int),e=.returned (.tuple #[.agg #[.string s,kd,.int .i64 (oh r)],true])∧Ext w w'
theorem Ly(r:Int)(w:World)(h1:1≤r)(h2:r≤13):Calls prog 125 #[r] w (Wu r w):=by
 go_in
 go_upto_region 2 with (first
  | (show wpList _ _ _ ({dst:=some 5,op:=Op.build 258 _,type:=_,pos:=_,after:=_,guard:=_}::_) _ _;refine bE rfl _ _ rfl #[.string ⟨#[]⟩,.int .i64 0,.int .i64 0] K_ ?_)
  | (show wpList _ _ _ ({dst:=some 6,op:=Op.build 258 _,type:=_,pos:=_,after:=_,guard:=_}::_) _ _;refine bE rfl _ _ rfl #[.string ⟨#[102,114,101,101]⟩,.int .i64 1,.int .i64 0] K_ ?_)
  | (show wpList _ _ _ ({dst:=some 7,op:=Op.build 258 _,type:=_,pos:=_,after:=_,guard:=_}::_) _ _;refine bE rfl _ _ rfl #[.string ⟨#[99,101,108,108]⟩,.int .i64 2,.int .i64 0] K_ ?_)
  | (show wpList _ _ _ ({dst:=some 8,op:=Op.build 258 _,type:=_,pos:=_,after:=_,guard:=_}::_) _ _;refine bE rfl _ _ rfl #[.string ⟨#[116,111,112]⟩,.int .i64 2,.int .i64 0] K_ ?_)
  | (show wpList _ _ _ ({dst:=some 9,op:=Op.build 258 _,type:=_,pos:=_,after:=_,guard:=_}::_) _ _;refine bE rfl _ _ rfl #[.string ⟨#[104,101,97,100]⟩,.int .i64 2,.int .i64 0] K_ ?_)
  | (show wpList _ _ _ ({dst:=some 10,op:=Op.build 258 _,type:=_,pos:=_,after:=_,guard:=_}::_) _ _;refine bE rfl _ _ rfl #[.string ⟨#[116,97,105,108]⟩,.int .i64 2,.int .i64 0] K_ ?_)
  | (show wpList _ _ _ ({dst:=some 11,op:=Op.build 258 _,type:=_,pos:=_,after:=_,guard:=_}::_) _ _;refine bE rfl _ _ rfl #[.string ⟨#[114,111,111,116]⟩,.int .i64 2,.int .i64 0] K_ ?_)
  | (show wpList _ _ _ ({dst:=some 12,op:=Op.build 258 _,type:=_,pos:=_,after:=_,guard:=_}::_) _ _;refine bE rfl _ _ rfl #[.string ⟨#[98,117,99,107,101,116]⟩,.int .i64 2,.int .i64 1] K_ ?_)
  | (show wpList _ _ _ ({dst:=some 13,op:=Op.build 258 _,type:=_,pos:=_,after:=_,guard:=_}::_) _ _;refine bE rfl _ _ rfl #[.string ⟨#[97,99,116,105,118,101]⟩,.int .i64 4,.int .i64 1] K_ ?_)
  | (show wpList _ _ _ ({dst:=some 14,op:=Op.build 258 _,type:=_,pos:=_,after:=_,guard:=_}::_) _ _;refine bE rfl _ _ rfl #[.string ⟨#[104,97,122,97,114,100]⟩,.int .i64 2,.int .i64 2] K_ ?_)
  | (show wpList _ _ _ ({dst:=some 15,op:=Op.build 258 _,type:=_,pos:=_,after:=_,guard:=_}::_) _ _;refine bE rfl _ _ rfl #[.string ⟨#[115,112,97,114,101]⟩,.int .i64 2,.int .i64 1] K_ ?_)
  | (show wpList _ _ _ ({dst:=some 16,op:=Op.build 258 _,type:=_,pos:=_,after:=_,guard:=_}::_) _ _;refine bE rfl _ _ rfl #[.string ⟨#[118,97,108,117,101]⟩,.int .i64 5,.int .i64 1] K_ ?_)
  | (show wpList _ _ _ ({dst:=some 17,op:=Op.build 258 _,type:=_,pos:=_,after:=_,guard:=_}::_) _ _;refine bE rfl _ _ rfl #[.string ⟨#[100,97,116,97]⟩,.int .i64 5,.int .i64 1] K_ ?_)
  | (show wpList _ _ _ ({dst:=some 18,op:=Op.build 258 _,type:=_,pos:=_,after:=_,guard:=_}::_) _ _;refine bE rfl _ _ rfl #[.string ⟨#[108,105,110,107]⟩,.int .i64 3,.int .i64 1] K_ ?_)
  | (show wpList _ _ _ ({dst:=_,op:=Op.build 288 _,type:=_,pos:=_,after:=_,guard:=_}::_) _ _;refine bE rfl _ _ rfl #[.string ⟨#[]⟩,.int .i64 0,.int .i64 0,.string ⟨#[102,114,101,101]⟩,.int .i64 1,.int .i64 0,.string ⟨#[99,101,108,108]⟩,.int .i64 2,.int .i64 0,.string ⟨#[116,111,112]⟩,.int .i64 2,.int .i64 0,.string ⟨#[104,101,97,100]⟩,.int .i64 2,.int .i64 0,.string ⟨#[116,97,105,108]⟩,.int .i64 2,.int .i64 0,.string ⟨#[114,111,111,116]⟩,.int .i64 2,.int .i64 0,.string ⟨#[98,117,99,107,101,116]⟩,.int .i64 2,.int .i64 1,.string ⟨#[97,99,116,105,118,101]⟩,.int .i64 4,.int .i64 1,.string ⟨#[104,97,122,97,114,100]⟩,.int .i64 2,.int .i64 2,.string ⟨#[115,112,97,114,101]⟩,.int .i64 2,.int .i64 1,.string ⟨#[118,97,108,117,101]⟩,.int .i64 5,.int .i64 1,.string ⟨#[100,97,116,97]⟩,.int .i64 5,.int .i64 1,.string ⟨#[108,105,110,107]⟩,.int .i64 3,.int .i64 1] K_ ?_)
  | (show wpList _ _ _ ({dst:=_,op:=Op.store 288 _ _,type:=_,pos:=_,after:=_,guard:=_}::_) _ _;refine wpList_store_row rfl _ _ _ rfl (w.heap.size+1) #[.string ⟨#[]⟩,.int .i64 0,.int .i64 0,.string ⟨#[102,114,101,101]⟩,.int .i64 1,.int .i64 0,.string ⟨#[99,101,108,108]⟩,.int .i64 2,.int .i64 0,.string ⟨#[116,111,112]⟩,.int .i64 2,.int .i64 0,.string ⟨#[104,101,97,100]⟩,.int .i64 2,.int .i64 0,.string ⟨#[116,97,105,108]⟩,.int .i64 2,.int .i64 0,.string ⟨#[114,111,111,116]⟩,.int .i64 2,.int .i64 0,.string ⟨#[98,117,99,107,101,116]⟩,.int .i64 2,.int .i64 1,.string ⟨#[97,99,116,105,118,101]⟩,.int .i64 4,.int .i64 1,.string ⟨#[104,97,122,97,114,100]⟩,.int .i64 2,.int .i64 2,.string ⟨#[115,112,97,114,101]⟩,.int .i64 2,.int .i64 1,.string ⟨#[118,97,108,117,101]⟩,.int .i64 5,.int .i64 1,.string ⟨#[100,97,116,97]⟩,.int .i64 5,.int .i64 1,.string ⟨#[108,105,110,107]⟩,.int .i64 3,.int .i64 1] K_ K_ _ _ (sQ _ _ _) K_ K_ K_ ?_;rw [oQ]))
 rcases(by omega:r=1∨r=2∨r=3∨r=4∨r=5∨r=6∨r=7∨r=8∨r=9∨r=10∨r=11∨r=12∨r=13) with rfl | rfl | rfl | rfl | rfl | rfl | rfl | rfl | rfl | rfl | rfl | rfl | rfl
 all_goals
  go_wp2;refine DL (results_cell_tmp rfl _ _ w.heap.size rfl _ (run_loadVar_row _ _ _ _ _ _ _ (E9 _ _ _) underlying258 rfl K_)) rfl ?_;exact⟨_,_,rfl,((bu w).alloc (bZ _) _).alloc S_ _⟩
theorem xI(r:Int):oh r=0∨oh r=1∨oh r=2∧r=9:=by
 unfold oh
 split
 ·exact .inl rfl
 ·split
  ·exact .inr (.inr ⟨rfl,by assumption⟩)
  ·exact .inr (.inl rfl)
theorem fY(T R H Re Ca S B:Int)(hok:bY T R H Re Ca S B)(n:Nat)(r i:Int)(hr:r=n+1)(hn:n≤12)(h0:0≤i)(h1:i<cV R H S B r)(h9:r=9→i=0)(w:World):
  cm 66 #[(.agg #[T,R,H,Re,Ca,S,B]),.agg #[r,i,.int .i64 0]] w (.tuple #[.int .i64 (b7 R H S B n+i),.int .i64 0]) fun w'=>Ext w w':=by
 have qW:=hok;unfold bY at qW;obtain⟨_,_,hR,pZ,hH,qg,_,_,_,_,hS,mP,hB,xW⟩:=qW;have hmr:=lC R H S B r hR pZ hH qg hS mP hB xW;have eO:r≤n+1:=O_
 have iF:(n:Int)+1≤r:=O_
 clear hr;have Wv:=aJ hok;have H9:=aJ h9;clear hok h9;generalize hM:cV R H S B r=M at h1 hmr;have HM:=aJ hM;clear hM;have hMi:decide (M≤i)=false:=by simp;omega
 have hH0:decide (H≤0)=false:=by simp;omega
 have RH:decide (R≤0)=false:=by simp;omega
 have hneg:decide (i<0)=false:=by simp;omega
 go_enter func66,ntmps66;go_wp2_with fail;obtain⟨w0,hw0,hX,hY,hE,hlt⟩:=VP w (.cells (Qr T R H Re Ca S B) 23) (.cells #[r,i,.int .i64 0] 157);rw [hw0];have HX:=aJ hX;have HY:=aJ hY;obtain⟨c0,c1,c2,c3,c4,c5,c6⟩:=aL.cfg hX;obtain⟨p0,p1,p2⟩:=aL.EX hY;have n0:=aL.lt (b:=w.heap.size) O_ (w0:=w0);have n1:=aL.lt (b:=w.heap.size+1) O_ (w0:=w0);clear hw0 hX hY;have HE:=aJ hE;clear hE;refine un (jm T R H Re Ca S B _) fun w1 e1=>?_
 rw [aY Wv.out];obtain⟨k1,rfl⟩:=kB e1;clear e1;go_wp2_with fail;refine(Ly r _ O_ O_).mono ?_;rintro e w2 ⟨s,kd,rfl,e2⟩;obtain⟨k2,rfl⟩:=jD k1 e2;clear e2;generalize hO:oh r=o;have HO:=aJ hO;clear hO
 go_upto_region 7 with fail;obtain⟨w3,hw3,hZ,tS,hlt3⟩:=nI k2.world (.cells #[.string s,kd,o] 258);rw [hw3];clear hw3;have E3:=aJ (Ext.next k2.ok tS);clear tS c0 c1 c2 c3 c4 c5 c6 p0 p1 p2 n0 n1;have hsz:=E3.out.size;have hsw:=HE.out.size;generalize hg:k2.world.heap.size=g at*;obtain⟨c0,c1,c2,c3,c4,c5,c6⟩:=aL.cfg (gJ E3.out HX.out);obtain⟨p0,p1,p2⟩:=aL.EX (gJ E3.out HY.out);obtain⟨g0,g1,g2⟩:=aL.EX hZ;have n0:=aL.lt (b:=w.heap.size) O_ (w0:=w3);have n1:=aL.lt (b:=w.heap.size+1) O_ (w0:=w3);have n2:=aL.lt (b:=g) O_ (w0:=w3);clear hZ hlt3 hsz hsw hlt;obtain⟨k3,kD⟩:=LF w3;rw [kD];clear kD;have Rz:∀ w,cm 126 #[(.agg #[T,R,H,Re,Ca,S,B]),r] w M fun w'=>Ext w w':=fun w=>HM.out▸vr T R H Re Ca S B r w hR pZ hH qg
 have ab9:=aJ Rz;clear Rz
 have Mc:o=0∨o=1∨o=2∧i=0:=by
  rcases xI r with ho | ho | ⟨ho,hr9⟩
  ·exact .inl (HO.out.symm.trans ho)
  ·exact .inr (.inl (HO.out.symm.trans ho))
  ·exact .inr (.inr ⟨HO.out.symm.trans ho,H9.out hr9⟩)
 obtain⟨I,hI⟩:∃ I:Int,I=i:=⟨i,rfl⟩;have xU:0≤I:=O_
 have xP:I≤1024:=O_
 have HI:=aJ hI;clear hI
 rcases Mc with rfl | rfl | ⟨rfl,rfl⟩
 all_goals
  refine bT (Ext w3) (Ext.bh k3.ok) K_ K_ ?_
  repeat (go_big_quiet_step (exact oy (oo _) (ab9.out _)))
  refine qA ?_;rintro _ ⟨k4,rfl⟩;go_wp2
  go_loopw [9,10] (fun s9 s10 wr=>∃ (k:Nat) (c:aL w3),k≤n∧s9=.int .i64 (b7 R H S B k+I)∧s10=.int .i64 ((k:Int)+1)∧wr=c.world) (fun _ s _=>n+1 - (intOf s).toNat)
  case atStart=>exact⟨0,k4,O_,by rw [HI.out];simp [b7],rfl,rfl⟩
  case round=>
   obtain⟨k,c,hk,rfl,rfl,rfl⟩:=hrel;have hb:=jv R H S B hR pZ hH qg hS mP hB xW k;have hm:=lC R H S B ((k:Int)+1) hR pZ hH qg hS mP hB xW;have Bu:Hid (b7 R H S B k+cV R H S B ((k:Int)+1)=b7 R H S B (k+1)):=rfl;generalize hX:b7 R H S B k=X at hb Bu;generalize hY:cV R H S B ((k:Int)+1)=Y at hm Bu
   by_cases hlt:k<n
   ·go_wp2_with fail
    refine un (vr T R H Re Ca S B _ _ hR pZ hH qg) fun w5 e5=>?_
    obtain⟨c5',rfl⟩:=jD c e5;rw [hY];clear e5;go_wp2
    go_roundw
    case rel=>exact⟨k+1,c5',O_,by rw [←Bu.out];go_num,by go_num,rfl⟩
    case measure=>simp [intOf];omega
   ·obtain rfl:n=k:=O_
    go_wp2
    go_ret2;rw [hX,HI.out];exact⟨rfl,Ext.next (Ext.next HE.out E3.out) c.ok⟩
end Go.Proofs.YtgbhnihkgmpocaaGreat
namespace Go.Proofs.YtgbhnihkgmpocaaGreat
set_option maxRecDepth 100000
set_option maxHeartbeats 4000000
open Tryz
theorem bn{P:Program}{md:Region.Mode}{ops:Array Oper}{Q:Exit→Act→World→Prop}{S:World→Prop}(i:Nat){oi:Oper}{v:Value}{fuel:Nat}{listed:Array Bool}{a:Act}{w:World}
  (h:wpAnyH P md ops Q S fuel (listed.setIfInBounds i true) (a.put oi.dst v) w) (hi:ops[i]?=some oi:=by rfl) (hs:Region.noSelect ops=true:=by kernel_rfl) (hf:Region.free md ops listed i=true:=by kernel_rfl) (hr:(Region.ready md ops listed).contains i=true:=by kernel_rfl)
  (hQ:∀ c a w,Q (.panic c) (a.put oi.dst v) w→Q (.panic c) a w:=by exact fun _ _ _ h=>h) (hy:YieldsIf P ops S oi v a:=by(refine Or.inl ⟨by rfl,?_⟩;intro w hSw;(try dsimp only at hSw);go_simp;try with_reducible rfl)) (hS:S w:=by assumption):wpAnyH P md ops Q S (fuel+1) listed a w:=
 wpAnyH_take hi hs hf hr hQ hy hS h
theorem eI{P:Program}{ops:Array Oper}{Q:Exit→Act→World→Prop}{md:Region.Mode}{S:World→Prop}{fuel:Nat}{listed:Array Bool}{a:Act}{w:World}(r:Nat){o:Oper}(h:∀ K':Act→World→Prop,Shut (∀ a w,S w→(S w→wpAnyH P md ops Q S fuel (listed.setIfInBounds r true) a w)→K' a w)→if Region.wanted o (yielded ops a.tmps)=true then Oper.wp P o a w K' Q else K' (a.put o.dst undef) w)(hr:Region.ready md ops listed= [r]:=by kernel_rfl)(ho:ops[r]?=some o:=by rfl):wpAnyH P md ops Q S (fuel+1) listed a w:=qB hr S_ (mA ho h tH)
end Go.Proofs.YtgbhnihkgmpocaaGreat
namespace Go.Proofs.YtgbhnihkgmpocaaGreat
set_option maxRecDepth 100000
set_option maxHeartbeats 4000000
open Tryz
open Go.RowKit
structure Mk where
 bW:Nat
 bM:Nat
 gw:Nat
 cw:Nat
 mO:Value
 au:Int
 gc:Nat
 cc:Nat
 gs:Nat
 cs:Nat
structure Sv where
 task:Value
 ready:Bool
 last:Int
def dO(x:Sv×(Int×Int)):List Value:= [x.1.task,x.1.ready,x.1.last,x.2.1,x.2.2]
def gy(K:Mk)(l a s:Value)(ah:List Int)(S:PM)(ss:List Sv):List En:=
 lX K.bW (.slice (some ⟨K.gw,0,none⟩) S.words.length K.cw) l a S.words S.log ah S.now++
 [ob K.bM 106 [some K.bW,S.th,S.now,.pointer (some ⟨K.gc,S.cur*9,none⟩),.pointer (some ⟨K.gs,S.th*5+3,none⟩),S.used,s,K.mO,.slice (some ⟨K.gs,0,none⟩) ss.length K.cs,K.au,.slice (some ⟨K.gc,0,none⟩) S.calls.length K.cc],.row s 125 5 S.aG.length (S.aG.flatMap Sh.enc),dA K.gc K.cc 119 9 S.calls.length (S.calls.flatMap Cl.enc),dA K.gs K.cs 114 5 ss.length ((ss.zip S.told).flatMap dO)]
def fK(K:Mk)(S:PM)(ss:List Sv)(w0 w:World)(F:List En):Prop:=∃ l a s ah,ah.length=S.log.length∧Has w0 w (gy K l a s ah S ss++F)
@[reducible] def dk(K:Mk)(d:Nat):En:=ob d 243 [some K.bM]
theorem bX{A F:List En}{x:En}(h:x∈F):x∈A++F:=ew _ h
section
variable{K:Mk}{S:PM}{ss:List Sv}{w0 w:World}{F:List En}{d:Nat}
theorem fK.drew(h:fK K S ss w0 w F):fK K S ss w0 w.drew F:=by
 obtain⟨l,a,s,ah,e,h⟩:=h;exact⟨l,a,s,ah,e,h.drew⟩
theorem fK.next{w':World}(h:fK K S ss w0 w F)(e:Ext w w'):fK K S ss w0 w' F:=by
 obtain⟨l,a,s,ah,q,h⟩:=h;exact⟨l,a,s,ah,q,h.next e⟩
theorem fK.rest{w':World}{G:List En}(h:fK K S ss w0 w F)(f:∀ A,Has w0 w (A++F)→Has w0 w' (A++G)):fK K S ss w0 w' G:=by
 obtain⟨l,a,s,ah,q,h⟩:=h;exact⟨l,a,s,ah,q,f _ h⟩
theorem fK.tG(h:fK K S ss w0 w F)(hd:dk K d∈F):w.cell? ⟨d,0,none⟩=some (some K.bM):=by
 obtain⟨l,a,s,ah,q,h⟩:=h;exact h.at_ (bX hd) rfl
theorem vn(h:fK K S ss w0 w F)(hd:dk K d∈F)(hu:S.used=false)(k:Nat)(hk:k<S.words.length):
  cm 197 #[some d,k] w true fun w'=>fK K {S with used:=true} ss w0 w' F:=by
 have x0:=h.tG hd;obtain⟨l,a,s,ah,q,h⟩:=h;have y0:=h.at_ (i:=0) iu rfl;have y5:=h.at_ (i:=5) iu rfl;rw [hu] at y5;have f5:=h.dW iu 5;have hki:decide ((S.words.length:Int)≤(k:Int))=false:=by simp;omega
 have gC:decide ((k:Int)<0)=false:=S_
 go_enter func197,ntmps197;go_wp2_with fail;refine(tj h).mono ?_;rintro e w1 ⟨rfl,rfl⟩;go_wp2;go_ret;exact⟨rfl,l,a,s,ah,q,Has.fW (A:= [_,_,_,_]) h 5 true⟩
theorem DW(h:fK K S ss w0 w F)(hd:dk K d∈F):cm 201 #[some d] w S.th fun w'=>w'=w:=by
 have x0:=h.tG hd;obtain⟨l,a,s,ah,q,h⟩:=h;have y1:=h.at_ (i:=1) iu rfl;go_enter func201,ntmps201;exact iB
theorem C6(h:fK K S ss w0 w F)(hd:dk K d∈F):cm 229 #[some d] w S.now fun w'=>w'=w:=by
 have x0:=h.tG hd;obtain⟨l,a,s,ah,q,h⟩:=h;have y2:=h.at_ (i:=2) iu rfl;go_enter func229,ntmps229;exact iB
theorem fK.yV(h:fK K S ss w0 w F)(hd:dk K d∈F):w.cell? ⟨d,0,none⟩=some (some K.bM)∧w.cell? ⟨K.bM,0,none⟩=some (some K.bW)∧w.cell? ⟨K.bM,1,none⟩=some (.int .i64 S.th):=by
 have x0:=h.tG hd;obtain⟨l,a,s,ah,q,h⟩:=h;exact⟨x0,h.at_ (i:=0) iu rfl,h.at_ (i:=1) iu rfl⟩
theorem Xt{S:PM}{k:Nat}(hk:k<S.words.length):S.words[k]?=some (S.w k):=by
 have e:S.words[k]?=some S.words[k]:=fy hk;rw [e,PM.w,mW,kO,e];rfl
theorem AK(h:fK K S ss w0 w F)(hd:dk K d∈F)(hu:S.used=false)(k:Nat)(hk:k<S.words.length)(hl:S.log.length<1000000):
  cm 190 #[some d,k] w (.int .u64 (S.w k)) fun w'=>fK K (S.load k) ss w0 w' F:=by
 go_enter func190,ntmps190;go_wp2_with fail;refine un (vn h hd hu k hk) fun w1 h1=>?_
 have gC:=h1.yV hd;obtain⟨l,a,s,ah,q,h1⟩:=h1;have hc:=Lz h1.drew S.th k (S.w k) (Xt hk) hl (by rw [q];exact hl);go_wp2
 go_region_held3 (fun w'=>w'.cell? ⟨d,0,none⟩=some (some K.bM)∧w'.cell? ⟨K.bM,0,none⟩=some (some K.bW)∧w'.cell? ⟨K.bM,1,none⟩=some (.int .i64 S.th)) (first | exact gC | exact hk2) (first | ((with_reducible refine hc.mono ?_);rintro e w2 ⟨rfl,l',a',h2⟩;have hD:fK K (S.load k) ss w0 w2 F:=⟨l',a',s,_,by simp [PM.load,PM.acc,q],h2⟩;have hk2:=hD.yV hd))
 all_goals
  go_wp2;go_ret;exact⟨rfl,hD⟩
theorem xZ(h:fK K S ss w0 w F)(hd:dk K d∈F)(hu:S.used=false)(k:Nat)(y:Int)(hk:k<S.words.length)(hl:S.log.length<1000000):
  cm 209 #[some d,k,.int .u64 y] w (.tuple #[]) fun w'=>fK K (S.store k y) ss w0 w' F:=by
 go_enter func209,ntmps209;go_wp2_with fail;refine un (vn h hd hu k hk) fun w1 h1=>?_
 have gC:=h1.yV hd;obtain⟨l,a,s,ah,q,h1⟩:=h1;have hc:=Hj h1.drew S.th k y hk hl (by rw [q];exact hl);go_wp2
 go_region_held3 (fun w'=>w'.cell? ⟨d,0,none⟩=some (some K.bM)∧w'.cell? ⟨K.bM,0,none⟩=some (some K.bW)∧w'.cell? ⟨K.bM,1,none⟩=some (.int .i64 S.th)) (first | exact gC | exact hk2) (first | ((with_reducible refine hc.mono ?_);rintro e w2 ⟨rfl,l',a',x,h2⟩;have hD:fK K (S.store k y) ss w0 w2 F:=⟨l',a',s,ah++ [x],by simp [PM.store,PM.acc,q],(by unfold gy;rw [show(S.store k y).words.length=S.words.length by simp [PM.store]];exact h2)⟩;have hk2:=hD.yV hd))
 all_goals exact iP ⟨rfl,hD⟩
theorem AJ(h:fK K S ss w0 w F)(hd:dk K d∈F)(hu:S.used=false)(k:Nat)(o y:Int)(hk:k<S.words.length)(hl:S.log.length<1000000):
  cm 195 #[some d,k,.int .u64 o,.int .u64 y] w (.bool (decide (S.w k=o))) fun w'=>fK K (S.swap k o y) ss w0 w' F:=by
 go_enter func195,ntmps195;go_wp2_with fail;refine un (vn h hd hu k hk) fun w1 h1=>?_
 have gC:=h1.yV hd;obtain⟨l,a,s,ah,q,h1⟩:=h1;have hc:=Kx h1.drew S.th k o y (S.w k) (Xt hk) hl (by rw [q];exact hl);go_wp2
 go_region_held3 (fun w'=>w'.cell? ⟨d,0,none⟩=some (some K.bM)∧w'.cell? ⟨K.bM,0,none⟩=some (some K.bW)∧w'.cell? ⟨K.bM,1,none⟩=some (.int .i64 S.th)) (first | exact gC | exact hk2) (first | ((with_reducible refine hc.mono ?_);rintro e w2 ⟨rfl,l',a',h2⟩;have hD:fK K (S.swap k o y) ss w0 w2 F:=⟨l',a',s,ah++ [S.w k],by simp [PM.swap,PM.acc,q],(by unfold gy;rw [show(S.swap k o y).words.length=S.words.length by unfold PM.swap;simp only;split<;>simp];exact h2)⟩;have hk2:=hD.yV hd))
 all_goals
  go_wp2;go_ret;exact⟨rfl,hD⟩
theorem fK.drop{x:En}(h:fK K S ss w0 w (x::F)):fK K S ss w0 w F:=h.rest fun _ h=>h.mid.drop
theorem fK.Zl{b0:Nat}{kk x:Int}(h:fK K S ss w0 w (ob b0 112 [kk,x]::F))(hd:dk K d∈ob b0 112 [kk,x]::F):w.cell? ⟨d,0,none⟩=some (some K.bM)∧w.cell? ⟨K.bM,4,none⟩=some (.pointer (some ⟨K.gs,S.th*5+3,none⟩))∧w.cell? ⟨b0,0,none⟩=some (.int .i64 kk)∧w.cell? ⟨b0,1,none⟩=some (.int .i64 x):=by
 have x0:=h.tG hd;obtain⟨l,a,s,ah,q,h⟩:=h;exact⟨x0,h.at_ (i:=4) iu rfl,h.at_ (i:=0) lO rfl,h.at_ (i:=1) lO rfl⟩
theorem iK{α:Type}(enc:α→List Value)(size:Nat)(hs:∀ x,(enc x).length=size){f:α→α}{k:Nat}{u:Value}:∀ {l:List α} {i:Nat} {z:α},l[i]?=some z→enc (f z)=(enc z).set k u→k<size→(l.modify i f).flatMap enc=(l.flatMap enc).set (i*size+k) u
 | [],i,z,h,_,_=>by simp at h
 | y::l,0,z,h,he,hk=>by
  simp only [ug,Option.some.injEq] at h;subst h;simp only [List.modify_zero_cons,sZ,Nat.zero_mul,rN];rw [List.set_append_left _ _ (by rw [hs];exact hk),he]
 | y::l,i+1,z,h,he,hk=>by
  simp only [yu] at h;simp only [List.modify_succ_cons,sZ];rw [JK _ _ (by rw [hs,Nat.succ_mul];omega),hs,iK enc size hs h he hk,Nat.succ_mul]
  congr 2
  omega
theorem sH{α:Type}(enc:α→List Value)(size:Nat)(hs:∀ x,(enc x).length=size){f:α→α}{k k':Nat}{u u':Value}:∀ {l:List α} {i:Nat} {z:α},l[i]?=some z→enc (f z)=((enc z).set k u).set k' u'→k<size→k'<size→(l.modify i f).flatMap enc=((l.flatMap enc).set (i*size+k) u).set (i*size+k') u'
 | [],i,z,h,_,_,_=>by simp at h
 | y::l,0,z,h,he,hk,hk'=>by
  simp only [ug,Option.some.injEq] at h;subst h;simp only [List.modify_zero_cons,sZ,Nat.zero_mul,rN];rw [List.set_append_left _ _ (by rw [hs];exact hk),List.set_append_left _ _ (by rw [cW,hs];exact hk'),he]
 | y::l,i+1,z,h,he,hk,hk'=>by
  simp only [yu] at h;simp only [List.modify_succ_cons,sZ];rw [JK _ _ (by rw [hs,Nat.succ_mul];omega),JK _ _ (by rw [hs,Nat.succ_mul];omega),hs,sH enc size hs h he hk hk',Nat.succ_mul]
  congr 2
  ·congr 1;omega
  ·omega
theorem Ot(ss:List Sv)(l:List (Int×Int))(i:Nat)(t:Int×Int):ss.zip (l.set i t)=(ss.zip l).modify i fun p=>(p.1,t):=by
 refine wU fun j=>?_
 simp only [yq,List.zip,List.getElem?_zipWith,wV]
 by_cases h:i=j
 ·subst h
  simp only [dL]
  cases ss[i]? with
  | none=>simp
  | some v=>
   cases hl:l[i]? with
   | none=>simp [List.getElem?_eq_none_iff.1 hl]
   | some y=>simp [(fO.1 hl).1]
 ·exact Nt
theorem Il(h:fK K S ss w0 w F)(hd:dk K d∈F)(x:Int)(hc:S.cur<S.calls.length):
  cm 228 #[some d,x] w (.tuple #[]) fun w'=>fK K (S.aB x) ss w0 w' F:=by
 have x0:=h.tG hd;obtain⟨l,a,s,ah,q,h⟩:=h;have y3:=h.at_ (i:=3) iu rfl;obtain⟨z,hz⟩:∃ z,S.calls[S.cur]?=some z:=⟨_,fy hc⟩;have z6:=h.ey (i:=S.cur*9+6) (u:=.int .i64 z.pt) (g:=K.gc) (c:=K.cc) xJ (flat_get Cl.enc 9 (fun _=>rfl) hz rfl);have f6:=h.gL (g:=K.gc) (c:=K.cc) xJ (S.cur*9+6);go_enter func228,ntmps228;go_wp2_with fail;have h2:=Has.fD (A:= [_,_,_,_,_,_]) h (S.cur*9+6) x;refine iP ⟨rfl,l,a,s,ah,q,?_⟩;unfold gy;rw [show(S.aB x).calls.length=S.calls.length from g8 _ _ _,show(S.aB x).calls.flatMap Cl.enc=(S.calls.flatMap Cl.enc).set (S.cur*9+6) x from iK Cl.enc 9 (fun _=>rfl) hz rfl O_];exact h2
theorem E8(h:fK K S ss w0 w F)(hd:dk K d∈F)(kk x:Int)(hc:S.th<S.told.length)(hs:S.told.length=ss.length):
  cm 188 #[some d,.agg #[kk,x]] w (.tuple #[]) fun w'=>fK K (S.tell kk x) ss w0 w' F:=by
 have x0:=h.tG hd
 have aff:d<w.heap.size:=by
  obtain⟨l,a,s,ah,q,h⟩:=h;exact h.tu (bX hd)
 obtain⟨l,a,s,ah,q,h⟩:=h;have hbl:=h.tu iu;have y4:=h.at_ (i:=4) iu rfl;obtain⟨t,ht⟩:∃ t,S.told[S.th]?=some t:=⟨_,fy hc⟩;obtain⟨v,hv⟩:∃ v,ss[S.th]?=some v:=⟨_,fy O_⟩;have hz:(ss.zip S.told)[S.th]?=some (v,t):=by rw [JO];exact⟨hv,ht⟩
 have hgl:=h.D8 (g:=K.gs) (c:=K.cs) tn;have z3:=h.ey (i:=S.th*5+3) (u:=.int .i64 t.1) (g:=K.gs) (c:=K.cs) tn (flat_get dO 5 (fun _=>rfl) hz rfl);have z4:=h.ey (i:=S.th*5+4) (u:=.int .i64 t.2) (g:=K.gs) (c:=K.cs) tn (flat_get dO 5 (fun _=>rfl) hz rfl);have f3:=h.gL (g:=K.gs) (c:=K.cs) tn (S.th*5+3);have f4:=h.gL (g:=K.gs) (c:=K.cs) tn (S.th*5+4);go_enter func188,ntmps188;go_wp2_with fail;have h1:=h.alloc #[kk,x] 112;generalize hb0:w.heap.size=b0 at h1 ⊢;clear hb0 x0 aff hbl y4 z3 z4 f3 f4 hgl;generalize (w.alloc (.cells #[kk,x] 112))=w1 at h1 ⊢;have Xf:=bX (A:=ob b0 112 [kk,x]::gy K l a s ah S ss) hd;have x0:=h1.at_ (i:=0) Xf rfl;have y4:=h1.at_ (i:=4) oJ rfl;have c0:=h1.at_ (i:=0) aj rfl;have c1:=h1.at_ (i:=1) aj rfl;have z3:=h1.ey (i:=S.th*5+3) (u:=.int .i64 t.1) (g:=K.gs) (c:=K.cs) lO (flat_get dO 5 (fun _=>rfl) hz rfl);have z4:=h1.ey (i:=S.th*5+3+1) (u:=.int .i64 t.2) (g:=K.gs) (c:=K.cs) lO (flat_get (k:=4) dO 5 (fun _=>rfl) hz rfl);have f3:=h1.gL (g:=K.gs) (c:=K.cs) lO (S.th*5+3);have f4:=h1.gL (g:=K.gs) (c:=K.cs) lO (S.th*5+3+1);have gC:w1.cell? ⟨d,0,none⟩=some (some K.bM)∧w1.cell? ⟨K.bM,4,none⟩=some (.pointer (some ⟨K.gs,S.th*5+3,none⟩))∧w1.cell? ⟨b0,0,none⟩=some (.int .i64 kk)∧w1.cell? ⟨b0,1,none⟩=some (.int .i64 x):=⟨x0,y4,c0,c1⟩;have hF:=Has.fD (A:= [_,_,_,_,_,_,_,_]) (Has.fD (A:= [_,_,_,_,_,_,_,_]) h1 (S.th*5+3) kk) (S.th*5+3+1) x
 have hD:fK K (S.tell kk x) ss w0 ((w1.setCell ⟨K.gs,S.th*5+3,none⟩ kk).setCell ⟨K.gs,S.th*5+3+1,none⟩ x).drew (ob b0 112 [kk,x]::F):=by
  refine⟨l,a,s,ah,q,?_⟩
  have e:(ss.zip (S.tell kk x).told).flatMap dO=(((ss.zip S.told).flatMap dO).set (S.th*5+3) kk).set (S.th*5+4) x:=by
   show(ss.zip (S.told.set S.th (kk,x))).flatMap dO=_
   rw [Ot];exact sH dO 5 (fun _=>rfl) hz rfl O_ O_
  refine Has.back (Has.drew ?_);unfold gy;rw [e];exact hF
 have hk2:=hD.Zl (iA _ hd)
 go_region_held3 (fun w'=>w'.cell? ⟨d,0,none⟩=some (some K.bM)∧w'.cell? ⟨K.bM,4,none⟩=some (.pointer (some ⟨K.gs,S.th*5+3,none⟩))∧w'.cell? ⟨b0,0,none⟩=some (.int .i64 kk)∧w'.cell? ⟨b0,1,none⟩=some (.int .i64 x)) (first | exact gC | exact hk2) (fail)
 exact iP ⟨rfl,hD.drop⟩
theorem Oe{a b c e f g i j x:En}(h:x∈F):x∈a::b::c::e::f::g::i::j::F:=by
 simp only [Bf];exact .inr (.inr (.inr (.inr (.inr (.inr (.inr (.inr h)))))))
theorem ya(h:fK K S ss w0 w F)(hd:dk K d∈F)(sl fr ag:Int)(hb:S.aG.length<1000000000000):
  cm 202 #[some d,sl,fr,ag] w (.tuple #[]) fun w'=>fK K {S with aG:=S.aG++ [⟨S.now,S.th,sl,fr,ag⟩]} ss w0 w' F:=by
 have x0:=h.tG hd;obtain⟨l,a,s,ah,q,h⟩:=h;obtain⟨A,c,rfl⟩:=iJ h oJ;have y6:=h.at_ (i:=6) iu rfl;have f6:=h.dW iu 6;have hlt:=h.tu iu;have hne:=lN hlt
 have gj:∀ w',Ext w w'→w'.cell? ⟨d,0,none⟩=some (some K.bM)∧w'.cell? ⟨K.bM,2,none⟩=some (.int .i64 S.now)∧w'.cell? ⟨K.bM,1,none⟩=some (.int .i64 S.th):=fun w' e=>
  ⟨(h.next e).at_ (i:=0) (bX hd) rfl,(h.next e).at_ (i:=2) iu rfl,(h.next e).at_ (i:=1) iu rfl⟩
 have gC:=gj w (bu w);have hown:w.ownsRow w0.heap.size 125 5 (.slice A S.aG.length c) S.aG.length (S.aG.flatMap Sh.enc):=h.own _ oJ;have dF:∀ w',Ext w w'→w'.ownsRow w0.heap.size 125 5 (.slice A S.aG.length c) S.aG.length (S.aG.flatMap Sh.enc):=fun w' e=>dB hown e
 have hsz:=h.ext.size;have gN:∀ w',Ext (w.alloc (.cells #[S.now,S.th,sl,fr,ag] 125)) w'→Rd w' (some ⟨w.heap.size,0,none⟩) [S.now,S.th,sl,fr,ag]:=fun w' e=>(Rd.made w [S.now,S.th,sl,fr,ag] 125).ext e
 have fQ:([S.now,S.th,sl,fr,ag]:List Value).length=1*5:=rfl;have hone:∀ u∈([S.now,S.th,sl,fr,ag]:List Value),u.oneCell'=true:=by intro u hu;simp at hu;rcases hu with rfl | rfl | rfl | rfl | rfl<;>rfl
 go_enter func202,ntmps202;go_wp2_with fail;refine tX (Ds (S:=fun w':World=>w'.cell? ⟨d,0,none⟩=some (some K.bM)∧w'.cell? ⟨K.bM,2,none⟩=some (.int .i64 S.now)∧w'.cell? ⟨K.bM,1,none⟩=some (.int .i64 S.th)) K_ gC (fun hHeld=>?_));refine bn 0 ?_;refine bn 1 ?_;refine bn 2 ?_;refine bn 3 ?_;refine bn 4 ?_;refine bn 5 ?_;refine bn 6 ?_;refine bn 7 ?_;refine bn 8 ?_;refine bn 9 ?_;refine bn 11 ?_;refine bn 12 ?_;refine bn 13 ?_;refine bn 14 ?_;refine bn 15 ?_;refine bn 16 ?_;refine bn 17 ?_;refine bn 18 ?_;refine bn 19 ?_;refine bn 20 ?_;refine bn 21 ?_;refine bn 22 ?_;refine bn 23 ?_;refine bn 24 ?_;refine bn 25 ?_;refine bn 26 ?_;refine bn 27 ?_;refine bn 28 ?_;refine qB (rs:= [10,29]) K_ S_ ?_;refine mA rfl (fun Kq cr=>?_) ?_
 ·go_simp
  refine cr.out _ _ gC (fun hHeld=>?_);refine qB (rs:= [29]) K_ S_ ?_;exact T_7
 ·refine mA rfl (fun Kq cr=>?_) tH
  go_simp;refine cr.out _ _ (gj _ (((bu w).aE _).bh)) (fun hHeld=>?_);refine qB (rs:= [10]) K_ S_ ?_;exact T_7
end
theorem GC(x:Int)(h0:0≤x)(h1:x≤18446744073709551615):bits .and .u64 x 4294967295=x % 4294967296:=by
 rw [u64_and x 4294967295 h0 O_ O_ O_];rw [show(4294967295:Int).toNat=2 ^ 32 - 1 from rfl,Nat.and_two_pow_sub_one_eq_mod];rw [show(2:Nat) ^ 32=4294967296 from rfl];omega
theorem Nd(x:Int)(h0:0≤x)(h1:x<8589934592):(bits .and .u64 x 4294967296 !=0)=decide (4294967296≤x):=by
 rw [u64_and x 4294967296 h0 O_ O_ O_];rw [show(4294967296:Int).toNat=2 ^ 32 from rfl];have hd:=Nat.and_div_two_pow (a:=x.toNat) (b:=2 ^ 32) (n:=32);have hm:=Nat.and_mod_two_pow (a:=x.toNat) (b:=2 ^ 32) (n:=32);rw [show(2:Nat) ^ 32 / 2 ^ 32=1 from rfl,Nat.and_one_is_mod] at hd;rw [show(2:Nat) ^ 32 % 2 ^ 32=0 from rfl,Nat.and_zero] at hm;generalize x.toNat &&& 2 ^ 32=y at hd hm;rw [show(2:Nat) ^ 32=4294967296 from rfl] at hd hm
 by_cases h:4294967296≤x
 ·have:y≠0:=O_
  simp [this,h]
 ·have:y=0:=O_
  simp [this,h]
def nj(x:Int):Value:=if x<8589934592∧x % 4294967296≤2147483647 then .tuple #[.int .i64 (x % 4294967296 - 1),.bool (decide (4294967296≤x)),.int .i64 0] else .tuple #[.int .i64 0,false,.int .i64 10]
theorem uL(x:Int)(w:World)(h0:0≤x)(h1:x≤18446744073709551615):
  cm 193 #[.int .u64 x] w (nj x) fun w'=>w'=w:=by
 have hl:=GC x h0 h1
 by_cases hx:x<8589934592
 ·have hm:=Nd x h0 hx
  go_enter func193,ntmps193;go_wp2_with fail
  ·exact Nv
  ·go_ret3
   exact⟨qK (aY ⟨hx,by assumption⟩).symm,rfl⟩
 ·go_enter func193,ntmps193
  go_wp2_with fail;exact Nv
theorem gX(x:Int)(w:World)(h0:0≤x)(h1:x≤18446744073709551615):
  cm 149 #[.int .u64 x] w (.int .i64 (x % 4294967296 - 1)) fun w'=>w'=w:=by
 go_enter func149,ntmps149;exact iB
theorem Ao(x:Int)(w:World)(h0:0≤x)(h1:x≤18446744073709551615):
  cm 152 #[.int .u64 x] w (.bool (x / 4294967296 % 2==1)) fun w'=>w'=w:=by
 go_enter func152,ntmps152;exact iB
def uM(x:Int):Value:=if x % 4294967296≤2147483647 then .tuple #[.int .u32 (x / 4294967296),.int .i64 (x % 4294967296 - 1),.int .i64 0] else .tuple #[.int .u32 0,.int .i64 0,.int .i64 10]
theorem DP(x:Int)(w:World)(h0:0≤x)(h1:x≤18446744073709551615):
  cm 192 #[.int .u64 x] w (uM x) fun w'=>w'=w:=by
 have hl:=GC x h0 h1;have hx:x / 4294967296≤4294967295:=O_
 have hx0:0≤x / 4294967296:=O_
 go_enter func192,ntmps192;go_wp2_with fail;refine(uL (x % 4294967296) _ O_ O_).mono ?_;rintro e w1 ⟨rfl,rfl⟩
 by_cases hlt:x % 4294967296≤2147483647
 ·rw [show nj (x % 4294967296)=_ from aY ⟨O_,O_⟩,show x % 4294967296 % 4294967296=x % 4294967296 from O_]
  go_wp2
  go_ret3;exact⟨qK (aY hlt).symm,rfl⟩
 ·rw [show nj (x % 4294967296)=_ from aK O_]
  go_wp2_with fail;exact Nv
theorem Pd(x:Int)(h0:0≤x)(h1:x<4294967296):bits .or .u64 x 4294967296=x+4294967296:=by
 rw [u64_or x 4294967296 h0 O_ O_ O_];rw [show(4294967296:Int).toNat=2 ^ 32 from rfl];have h:=Nat.two_pow_add_eq_or_of_lt (i:=32) (b:=x.toNat) O_ 1;rw [Nat.mul_one,Nat.or_comm] at h;rw [←h];omega
theorem Ua(t x:Int)(ht:0≤t)(iV:t<4294967296)(h0:0≤x)(h1:x<4294967296):bits .or .u64 (t*4294967296) x=t*4294967296+x:=by
 rw [u64_or (t*4294967296) x O_ O_ h0 O_];have h:=Nat.two_pow_add_eq_or_of_lt (i:=32) (b:=x.toNat) O_ t.toNat;rw [show(2:Nat) ^ 32=4294967296 from rfl] at h;rw [show(t*4294967296).toNat=4294967296*t.toNat from O_,←h];omega
theorem lD(s:Int)(m:Bool)(w:World)(h0:-1≤s)(h1:s<1024):
  cm 199 #[s,m] w (.tuple #[.int .u64 (if m then kZ s else pk s),.int .i64 0]) fun w'=>w'=w:=by
 have ho:=Pd (s+1) O_ O_
 cases m<;>
 ·go_enter func199,ntmps199
  go_wp2
  go_ret2;refine⟨qK ?_,rfl⟩;simp [pk,kZ]
theorem kA(v:Int)(w:World):cm 227 #[v] w (.int .u64 (u64 v)) fun w'=>w'=w:=by
 go_enter func227,ntmps227;go_wp2;go_ret;exact⟨jV rfl,rfl⟩
theorem jZ(v:Int)(w:World):cm 237 #[.int .u64 v] w (.int .i64 (wrap64 v)) fun w'=>w'=w:=by
 go_enter func237,ntmps237;go_wp2;go_ret;exact⟨jV rfl,rfl⟩
theorem CD(t s:Int)(w:World)(ht:0≤t)(iV:t<4294967296)(h0:-1≤s)(h1:s<1024):
  cm 194 #[.int .u32 t,s] w (.tuple #[.int .u64 (t*4294967296+(s+1)),.int .i64 0]) fun w'=>w'=w:=by
 have ho:bits .or .u64 (t*4294967296) (pk s)=t*4294967296+(s+1):=Ua t (s+1) ht iV O_ O_;go_enter func194,ntmps194;go_wp2_with fail;refine(lD s false _ h0 h1).mono ?_;rintro e w1 ⟨rfl,rfl⟩;go_wp2
 go_ret2;exact⟨qK S_,rfl⟩
theorem wu(x:Int)(h:-9223372036854775808≤x)(h':x<9223372036854775808):wrap64 (u64 x)=x:=by unfold wrap64 u64;omega
theorem w0':wrap64 0=0:=by unfold wrap64;omega
theorem wid{x:Int}(h:0≤x)(h':x<9223372036854775808):wrap64 x=x:=by unfold wrap64;omega
theorem eZ(w:Int):-1≤lk w:=by unfold lk;omega
theorem Cq{s:Int}(h:-1≤s)(h':s<1024):lk (pk s)=s:=by unfold lk pk;omega
theorem oV(R:Nat→Int){i j:Nat}(v:Int)(h:j≠i):cg R i v j=R j:=by unfold cg;rw [aK h]
def kd(c:Cf)(a:Int):Nat:=
 if a<1 then 1 else if a<2 then 2 else if a<3 then 3 else if a<4 then 4 else if a<5 then 5 else if a<6 then 6
 else if a<6+c.B then 7 else if a<6+c.B+c.R then 8 else if a<6+c.B+c.R+c.R*c.H then 9
 else if a<6+c.B+c.R+c.R*c.H+c.S then 10 else if a<6+c.B+c.R+c.R*c.H+2*c.S then 11
 else if a<6+c.B+c.R+c.R*c.H+3*c.S then 12 else 13
def Cp(r:Nat):Prop:=r≠1∧r≠8∧r≠11∧r≠12
instance (r:Nat):Decidable (Cp r):=by unfold Cp;infer_instance
structure Pw(c:Cf)(r:Nat)(w:Int):Prop where
 lo:0≤w
 hi:w<18446744073709551616
 fr:r=1→lk w<c.S
 lw:Cp r→w<8589934592∧lk w<c.S
 ht:r=4∨r=5→0≤lk w
 ce:r=2→w<4294967296
def Ix(c:Cf)(r:Nat)(i:Int):Prop:=0≤i∧i<cV c.R c.H c.S c.B r
theorem GD{c:Cf}(ok:bY c.T c.R c.H c.Re c.Ca c.S c.B){r:Nat}{i:Int}(h1:1≤r)(h2:r≤13)(hi:Ix c r i):
  0≤c.ad r i∧c.ad r i<b7 c.R c.H c.S c.B 13∧kd c (c.ad r i)=r:=by
 obtain⟨h,h'⟩:=hi;obtain⟨_,_,hR,_,hH,_,_,_,_,_,hS,_,hB,_⟩:=ok;have hm:1*3≤c.R*c.H:=ua O_ O_ O_ O_;generalize hM:c.R*c.H=M at hm;have:r=1∨r=2∨r=3∨r=4∨r=5∨r=6∨r=7∨r=8∨r=9∨r=10∨r=11∨r=12∨r=13:=O_
 have hk:∀ x:Int,kd c x=if x<1 then 1 else if x<2 then 2 else if x<3 then 3 else if x<4 then 4 else if x<5 then 5 else if x<6 then 6
   else if x<6+c.B then 7 else if x<6+c.B+c.R then 8 else if x<6+c.B+c.R+M then 9
   else if x<6+c.B+c.R+M+c.S then 10 else if x<6+c.B+c.R+M+2*c.S then 11
   else if x<6+c.B+c.R+M+3*c.S then 12 else 13:=fun x=>by rw [←hM];rfl
 rcases this with rfl | rfl | rfl | rfl | rfl | rfl | rfl | rfl | rfl | rfl | rfl | rfl | rfl<;>
  ·simp only [cV] at h'
   simp [hM] at h';simp [Cf.ad,b7,cV,hM];refine⟨O_,O_,?_⟩;rw [hk]
   repeat (first | rw [aY O_] | rw [aK O_])
def PM.arg(S:PM):Int:=match S.calls[S.cur]? with | some x=>x.arg | none=>0
def PM.dat(S:PM):Int:=match S.calls[S.cur]? with | some x=>x.dat | none=>0
def PM.cj(S:PM):Int×Int:=S.told.getD S.th (0,0)
structure Inv(c:Cf)(th:Nat)(S:PM):Prop where
 ok:bY c.T c.R c.H c.Re c.Ca c.S c.B
 me:S.th=th
 len:(S.words.length:Int)=b7 c.R c.H c.S c.B 13
 wk:∀ a:Int,0≤a→a<S.words.length→Pw c (kd c a) (S.w a)
 sl:(S.slots.length:Int)=c.S
 ca:(S.aO.length:Int)=c.T
 BA:∀ l∈S.aO,∀ x∈l,0≤x∧x<c.S
 he:(S.held.length:Int)=c.T
 xm:∀ x∈S.held,-1≤x∧x<c.R
 li:(S.lists.length:Int)=c.R
 Bo:∀ l∈S.lists,∀ x∈l,0≤x∧x<c.S
 ag:(S.told.length:Int)=c.T
 tK:(th:Int)<c.T
 nw:0≤S.now∧S.now<65536
 cl:∃ x,S.calls[S.cur]?=some x∧x.th=th∧x.av=0
structure Fr(S S':PM):Prop where
 th:S'.th=S.th
 ca:∀ j,j≠S.th→S'.aO[j]?=S.aO[j]?
 he:∀ j,j≠S.th→S'.held[j]?=S.held[j]?
 ag:∀ j,j≠S.th→S'.told[j]?=S.told[j]?
 cl:∀ k,k≠S.cur→S'.calls[k]?=S.calls[k]?
 le:S'.calls.length=S.calls.length
 cur:S'.cur=S.cur
theorem Fr.rfl'(S:PM):Fr S S:=⟨rfl,fun _ _=>rfl,fun _ _=>rfl,fun _ _=>rfl,fun _ _=>rfl,rfl,rfl⟩
theorem Fr.trans{S S1 S2:PM}(h:Fr S S1)(h':Fr S1 S2):Fr S S2:=
 ⟨h'.th.trans h.th,fun j q=>(h'.ca j (by rw [h.th];exact q)).trans (h.ca j q),fun j q=>(h'.he j (by rw [h.th];exact q)).trans (h.he j q),fun j q=>(h'.ag j (by rw [h.th];exact q)).trans (h.ag j q),fun k q=>(h'.cl k (by rw [h.cur];exact q)).trans (h.cl k q),h'.le.trans h.le,h'.cur.trans h.cur⟩
theorem Fr.same{S S':PM}(h1:S'.th=S.th)(h2:S'.aO=S.aO)(h3:S'.held=S.held)(h4:S'.told=S.told)(h5:S'.calls=S.calls)(h6:S'.cur=S.cur):Fr S S':=
 ⟨h1,fun j _=>by rw [h2],fun j _=>by rw [h3],fun j _=>by rw [h4],fun k _=>by rw [h5],by rw [h5],h6⟩
structure Kp(S S':PM):Prop where
 rc:S'.rc=S.rc
 cj:S'.cj=S.cj
 arg:S'.arg=S.arg
 dat:S'.dat=S.dat
 now:S'.now=S.now
 cur:S'.cur=S.cur
 fr:Fr S S'
theorem Kp.rfl'(S:PM):Kp S S:=⟨rfl,rfl,rfl,rfl,rfl,rfl,.rfl' S⟩
theorem Kp.trans{S S1 S2:PM}(h:Kp S S1)(h':Kp S1 S2):Kp S S2:=⟨h'.rc.trans h.rc,h'.cj.trans h.cj,h'.arg.trans h.arg,h'.dat.trans h.dat,h'.now.trans h.now,h'.cur.trans h.cur,h.fr.trans h'.fr⟩
theorem Kp.load(S:PM)(a:Int):Kp S (S.load a):=⟨rfl,rfl,rfl,rfl,rfl,rfl,.same rfl rfl rfl rfl rfl rfl⟩
theorem Kp.store(S:PM)(a v:Int):Kp S (S.store a v):=⟨rfl,rfl,rfl,rfl,rfl,rfl,.same rfl rfl rfl rfl rfl rfl⟩
theorem Kp.swap(S:PM)(a o v:Int):Kp S (S.swap a o v):=⟨rfl,rfl,rfl,rfl,rfl,rfl,.same rfl rfl rfl rfl rfl rfl⟩
theorem Kp.shift(S:PM)(s t:Int):Kp S (S.shift s t):=⟨rfl,rfl,rfl,rfl,rfl,rfl,.same rfl rfl rfl rfl rfl rfl⟩
theorem kV{α:Type}(l:List α){i j:Nat}(h:j≠i)(x:α):(l.set i x)[j]?=l[j]?:=oG (iS h)
theorem Kp.setCache(S:PM)(l:List Int):Kp S (S.setCache l):=⟨rfl,rfl,rfl,rfl,rfl,rfl,rfl,fun _ h=>kV _ h _,fun _ _=>rfl,fun _ _=>rfl,fun _ _=>rfl,rfl,rfl⟩
theorem Kp.aV(S:PM)(r:Int)(l:List Int):Kp S (S.aV r l):=⟨rfl,rfl,rfl,rfl,rfl,rfl,.same rfl rfl rfl rfl rfl rfl⟩
theorem Kp.aB(S:PM)(x:Int):Kp S (S.aB x):=by
 refine⟨rfl,rfl,?_,?_,rfl,rfl,rfl,fun _ _=>rfl,fun _ _=>rfl,fun _ _=>rfl,fun k h=>?_,?_,rfl⟩
 ·simp only [PM.arg,PM.aB,N5]
  cases S.calls[S.cur]?<;>rfl
 ·simp only [PM.dat,PM.aB,N5]
  cases S.calls[S.cur]?<;>rfl
 ·simp only [PM.aB,yq,aK (iS h)]
  cases S.calls[k]?<;>rfl
 ·simp only [PM.aB,g8]
namespace Inv
variable{c:Cf}{th:Nat}{S:PM}
theorem bd(I:Inv c th S):1≤c.S∧c.S≤1024∧1≤c.R∧c.R≤16∧3≤c.H∧c.H≤8∧1≤c.B∧c.B≤64∧0≤c.Ca∧c.Ca≤64:=by
 obtain⟨_,_,_,_,_,_,_,_,_,_,_,_,_,_⟩:=I.ok;exact⟨by assumption,by assumption,by assumption,by assumption,by assumption,by assumption,by assumption,by assumption,by assumption,by assumption⟩
theorem rh(I:Inv c th S):3≤c.R*c.H∧c.R*c.H≤128:=by
 obtain⟨_,_,_,_,_,_,_,_,_⟩:=I.bd;have h:1*3≤c.R*c.H:=ua O_ O_ O_ O_;have h':c.R*c.H≤16*8:=ua O_ O_ O_ O_;omega
theorem mq(I:Inv c th S){r:Nat}{i:Int}(h1:1≤r)(h2:r≤13)(hi:Ix c r i):0≤c.ad r i∧c.ad r i<S.words.length∧kd c (c.ad r i)=r∧Pw c r (S.w (c.ad r i)):=by
 obtain⟨p,q,s⟩:=GD I.ok h1 h2 hi;have hl:=I.len;have q':c.ad r i<S.words.length:=O_
 refine⟨p,q',s,?_⟩;have:=I.wk _ p q'
 rwa [s] at this
theorem kC(_:Inv c th S){r:Nat}(h:r=1∨r=2∨r=3∨r=4∨r=5∨r=6):Ix c r 0:=by
 rcases h with rfl | rfl | rfl | rfl | rfl | rfl<;>exact⟨D_,by simp [cV]⟩
theorem ixB(_:Inv c th S){i:Int}(h:0≤i)(h':i<c.B):Ix c 7 i:=⟨h,by simpa [cV] using h'⟩
theorem IF(_:Inv c th S){i:Int}(h:0≤i)(h':i<c.R):Ix c 8 i:=⟨h,by simpa [cV] using h'⟩
theorem ixH(_:Inv c th S){i:Int}(h:0≤i)(h':i<c.R*c.H):Ix c 9 i:=⟨h,by simpa [cV] using h'⟩
theorem iO(_:Inv c th S){r:Nat}(hr:r=10∨r=11∨r=12∨r=13){i:Int}(h:0≤i)(h':i<c.S):Ix c r i:=by
 rcases hr with rfl | rfl | rfl | rfl<;>exact⟨h,by simpa [cV] using h'⟩
theorem load(I:Inv c th S)(a:Int):Inv c th (S.load a):=⟨I.ok,I.me,I.len,I.wk,I.sl,I.ca,I.BA,I.he,I.xm,I.li,I.Bo,I.ag,I.tK,I.nw,I.cl⟩
theorem Xs(S:PM)(a b v:Int)(ha:0≤a)(oP:a<S.words.length)(hb:0≤b):(S.words.set a.toNat v).getD b.toNat 0=if b=a then v else S.w b:=by
 simp only [PM.w,kO,wV]
 by_cases h:b=a
 ·subst h;rw [aY rfl,aY O_,aY rfl];rfl
 ·rw [aK h,aK O_]
theorem put(I:Inv c th S){a v:Int}(h:0≤a∧a<S.words.length)(hv:Pw c (kd c a) v):∀ b:Int,0≤b→b<(S.words.set a.toNat v).length→Pw c (kd c b) ((S.words.set a.toNat v).getD b.toNat 0):=by
 intro b hb hb';rw [cW] at hb';rw [Xs S a b v h.1 h.2 hb]
 by_cases e:b=a
 ·subst e;rw [aY rfl];exact hv
 ·rw [aK e];exact I.wk b hb hb'
theorem store(I:Inv c th S){a v:Int}(h:0≤a∧a<S.words.length)(hv:Pw c (kd c a) v):Inv c th (S.store a v):=
 ⟨I.ok,I.me,by simpa [PM.store] using I.len,I.put h hv,I.sl,I.ca,I.BA,I.he,I.xm,I.li,I.Bo,I.ag,I.tK,I.nw,I.cl⟩
theorem swap(I:Inv c th S){a o v:Int}(h:0≤a∧a<S.words.length)(hv:S.w a=o→Pw c (kd c a) v):Inv c th (S.swap a o v):=by
 by_cases e:S.w a=o
 ·refine⟨I.ok,I.me,?_,?_,I.sl,I.ca,I.BA,I.he,I.xm,I.li,I.Bo,I.ag,I.tK,I.nw,I.cl⟩
  ·simpa [PM.swap,e] using I.len
  ·have:=I.put h (hv e);simp only [PM.swap,aY e];exact this
 ·refine⟨I.ok,I.me,?_,?_,I.sl,I.ca,I.BA,I.he,I.xm,I.li,I.Bo,I.ag,I.tK,I.nw,I.cl⟩
  ·simpa only [PM.swap,aK e] using I.len
  ·have:=I.wk;simp only [PM.swap,aK e];exact this
theorem shift(I:Inv c th S)(s t:Int):Inv c th (S.shift s t):=⟨I.ok,I.me,I.len,I.wk,by simpa [PM.shift] using I.sl,I.ca,I.BA,I.he,I.xm,I.li,I.Bo,I.ag,I.tK,I.nw,I.cl⟩
theorem aB(I:Inv c th S)(x:Int):Inv c th (S.aB x):=by
 refine⟨I.ok,I.me,I.len,I.wk,I.sl,I.ca,I.BA,I.he,I.xm,I.li,I.Bo,I.ag,I.tK,I.nw,?_⟩;obtain⟨y,h,h1,h2⟩:=I.cl;refine⟨{y with pt:=x},?_,h1,h2⟩;simp only [PM.aB,N5,h,Option.map_eq_map,Bg]
theorem tell(I:Inv c th S)(k v:Int):Inv c th (S.tell k v):=⟨I.ok,I.me,I.len,I.wk,I.sl,I.ca,I.BA,I.he,I.xm,I.li,I.Bo,by simpa [PM.tell] using I.ag,I.tK,I.nw,I.cl⟩
theorem mem_set{α:Type}{P:α→Prop}{l:List α}(h:∀ x∈l,P x){y:α}(hy:P y)(i:Nat):∀ x∈l.set i y,P x:=by
 intro x hx
 rcases DB hx with h' | rfl
 ·exact h x h'
 ·exact hy
theorem setCache(I:Inv c th S){l:List Int}(hl:∀ x∈l,0≤x∧x<c.S):Inv c th (S.setCache l):=⟨I.ok,I.me,I.len,I.wk,I.sl,by simpa [PM.setCache] using I.ca,mem_set I.BA hl _,I.he,I.xm,I.li,I.Bo,I.ag,I.tK,I.nw,I.cl⟩
theorem hold(I:Inv c th S){r:Int}(hr:-1≤r∧r<c.R):Inv c th (S.hold r):=⟨I.ok,I.me,I.len,I.wk,I.sl,I.ca,I.BA,by simpa [PM.hold] using I.he,mem_set I.xm hr _,I.li,I.Bo,I.ag,I.tK,I.nw,I.cl⟩
theorem aV(I:Inv c th S){r:Int}{l:List Int}(hl:∀ x∈l,0≤x∧x<c.S):Inv c th (S.aV r l):=⟨I.ok,I.me,I.len,I.wk,I.sl,I.ca,I.BA,I.he,I.xm,by simpa [PM.aV] using I.li,mem_set I.Bo hl _,I.ag,I.tK,I.nw,I.cl⟩
theorem vK{α:Type}{l:List α}{i:Nat}{d:α}(h:i<l.length):l.getD i d∈l:=by
 rw [kO,fy h];exact List.getElem_mem h
theorem kJ(I:Inv c th S):∀ x∈S.cache,0≤x∧x<c.S:=by
 have:=I.ca;have:=I.tK;have:=I.me;exact I.BA _ (vK O_)
theorem JU(I:Inv c th S):-1≤S.rc∧S.rc<c.R:=by
 have:=I.he;have:=I.tK;have:=I.me;exact I.xm _ (vK O_)
theorem Ej(I:Inv c th S)(r:Int):∀ x∈S.bQ r,0≤x∧x<c.S:=by
 intro x hx
 by_cases h:r.toNat<S.lists.length
 ·exact I.Bo _ (vK h) x hx
 ·simp [PM.bQ,DD (Nat.le_of_not_lt h)] at hx
theorem oz(I:Inv c th S)(l:List Int):(S.setCache l).cache=l:=by
 have:=I.ca;have:=I.tK;have:=I.me;have h:S.th<S.aO.length:=O_
 simp only [PM.cache,PM.setCache,kO,g9 h];rfl
theorem OS(I:Inv c th S)(r:Int):(S.hold r).rc=r:=by
 have:=I.he;have:=I.tK;have:=I.me;have h:S.th<S.held.length:=O_
 simp only [PM.rc,PM.hold,kO,g9 h];rfl
theorem cy(I:Inv c th S)(k v:Int):(S.tell k v).cj=(k,v):=by
 have:=I.ag;have:=I.tK;have:=I.me;have h:S.th<S.told.length:=O_
 simp only [PM.cj,PM.tell,kO,g9 h];rfl
end Inv
end Go.Proofs.YtgbhnihkgmpocaaGreat
