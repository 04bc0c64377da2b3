/- Part 1 of 16 of the proof of PoolPlays. No condition. -/
import Derived.KernelRfl
import Derived.WalkKit
import Derived.WalkSpells
import Derived.WalkLawsBesides
import Derived.Deep.QuietTactic
import Derived.BigQuiet
import Derived.Deep.Draws
import Derived.Maps.AppendAt
import Derived.Lib.Hide
import Derived.Deep.RegionHeld3
import Derived.IntWalk
import Derived.StillTail
import Derived.MapKept
import Derived.Maps.RangeRun
import Derived.Maps.RangeWalk
import Derived.Test.YtgbhnihkgmpocaaGreatProg
namespace Go.Proofs.YtgbhnihkgmpocaaGreat
set_option maxRecDepth 100000
set_option maxHeartbeats 4000000
theorem O_{P:Prop}(x:P:=by omega):P:=x
theorem S_{P:Prop}(x:P:=by simp):P:=x
theorem D_{P:Prop}(x:P:=by decide):P:=x
theorem K_{P:Prop}(x:P:=by kernel_rfl):P:=x
abbrev aJ:=@Lib.hid
abbrev fy:=@List.getElem?_eq_getElem
abbrev fO:=@List.getElem?_eq_some_iff
abbrev cM:=@decide_eq_true
abbrev dy:=@decide_eq_false
abbrev aK:=@if_neg
abbrev aY:=@if_pos
abbrev gP:=@List.length_append
abbrev iA:=@List.mem_cons_of_mem
abbrev kO:=@List.getD_eq_getElem?_getD
abbrev dH:=@List.append_assoc
abbrev ew:=@List.mem_append_right
abbrev cW:=@List.length_set
abbrev dV:=@List.perm_middle
abbrev bZ:=@Nat.le_refl
abbrev g9:=@List.getElem?_set_self
abbrev gq:=@List.mem_cons_self
abbrev gA:=@List.getElem?_map
abbrev g8:=@List.length_modify
abbrev gp:=@beq_eq_false_iff_ne
abbrev ij:=@List.length_cons
abbrev jI:=@List.map_append
abbrev uj:=@List.length_replicate
abbrev pW:=@List.perm_append_comm_assoc
abbrev iN:=@List.append_nil
abbrev gn:=@Nat.add_zero
abbrev kY:=@List.cons_append
abbrev nV:=@List.mem_of_getElem?
abbrev iC:=@List.Perm.swap
abbrev eu:=@if_false
abbrev mD:=@Bool.false_eq_true
abbrev ep:=@congrArg
abbrev mX:=@List.nil_append
abbrev uh:=@Array.getElem?_eq_some_iff
abbrev oG:=@List.getElem?_set_ne
abbrev mW:=@Int.toNat_natCast
abbrev dL:=@if_true
abbrev ug:=@List.getElem?_cons_zero
abbrev rT:=@List.flatMap_append
abbrev rR:=@List.take_succ_cons
abbrev mC:=@List.length_map
abbrev uf:=@List.getElem?_replicate
abbrev DC:=@List.find?_cons
abbrev rQ:=@List.drop_succ_cons
abbrev yw:=@List.getElem?_append_right
abbrev mB:=@List.length_nil
abbrev ue:=@List.Perm.append_left
abbrev Fo:=@Array.getElem?_toList
abbrev yu:=@List.getElem?_cons_succ
abbrev Bk:=@List.getElem?_append_left
abbrev mU:=@List.Perm.cons
abbrev sZ:=@List.flatMap_cons
abbrev lN:=@Nat.ne_of_lt
abbrev DB:=@List.mem_or_eq_of_mem_set
abbrev Bj:=@List.take_of_length_le
abbrev yt:=@List.mem_append_left
abbrev yq:=@List.getElem?_modify
abbrev rP:=@List.take_zero
abbrev wW:=@List.set_cons_succ
abbrev rO:=@List.drop_zero
abbrev JP:=@Int.mul_le_mul_of_nonneg_right
abbrev yp:=@List.replicate_succ
abbrev JO:=@List.getElem?_zip_eq_some
abbrev wV:=@List.getElem?_set
abbrev wU:=@List.ext_getElem?
abbrev ud:=@Nat.add_assoc
abbrev Bi:=@List.mem_singleton
abbrev Fm:=@List.eq_of_mem_replicate
abbrev Dz:=@List.length_filter_le
abbrev ua:=@Int.mul_le_mul
abbrev wT:=@Bool.and_eq_true
abbrev JN:=@List.setIfInBounds_toArray
abbrev nU:=@Nat.zero_le
abbrev pU:=@Nat.le_succ
abbrev Dy:=@List.replicate_succ'
abbrev Dx:=@List.length_dropLast
abbrev Oa:=@List.eq_nil_of_length_eq_zero
abbrev rN:=@Nat.zero_add
abbrev JM:=@List.filterMap_cons_some
abbrev Dw:=@List.set_cons_zero
abbrev Bh:=@List.mem_append
abbrev N9:=@List.getElem?_of_mem
abbrev sY:=@Nat.le_trans
abbrev JL:=@Option.map_eq_some_iff
abbrev N8:=@List.getLast?_eq_none_iff
abbrev Bg:=@Option.map_some
abbrev tZ:=@List.set_set
abbrev JK:=@List.set_append_right
abbrev tY:=@List.map_set
abbrev N7:=@List.filterMap_cons_none
abbrev Dv:=@List.all_eq_true
abbrev JJ:=@List.mem_of_getLast?
abbrev N6:=@List.length_eq_zero_iff
abbrev N5:=@List.getElem?_modify_eq
abbrev Fl:=@List.take_add_one
abbrev Fk:=@List.length_range
abbrev Fj:=@List.length_take
abbrev JI:=@Nat.lt_of_lt_of_le
abbrev JH:=@List.mem_filterMap
abbrev Bf:=@List.mem_cons
abbrev rU:=@List.map_cons
abbrev DD:=@List.getElem?_eq_none
abbrev GU:=@List.getLast?_eq_some_iff
abbrev GR:=@List.drop_eq_getElem_cons
abbrev wX:=@Int.mul_nonneg
open Tryz
abbrev Du:=@Sem.run_bind
abbrev iS:=@Ne.symm
abbrev JG:=@World.ownsRow_nil
abbrev Xp:=@MapKept.run_getObj_map
abbrev yo:=@heap_alloc_new
abbrev qA:=@wpQuiet_nil
abbrev cm(f:Nat)(a:Array Value)(w:World)(v:Value)(R:World→Prop):Prop:=Calls prog f a w fun e w'=>e=.returned v∧R w'
theorem abW{P:Prop}(x:P:=by
 obtain⟨es,cl,hb,hs,h1,h2⟩:=h
 have hks:∀ x∈es.toList,IsKey (.int .i64) x.key:=fun x hx=>by
  obtain⟨k',v',e,_⟩:=h1 x hx;rw [e];exact dY k'
 rcases findNow_spec (dY k) es.toList 0 hks with ⟨g1,g2⟩ | ⟨j,e,g1,g2,g3⟩
 ·have hf:f k=none:=by
   cases hf:f k with
   | none=>rfl
   | some v=>
    obtain⟨x,hx,e1,_⟩:=h2 k v hf;exact absurd e1 (g2 x hx)
  have e1:=run_findKey (w:=w) hk g1;simp only [Instr.lookup,Du,run_underlying ht,Xp hb,run_checkKey hk (dY k),Result.andThen,hf]
  cases ok
  ·simp [e1,hz]
  ·simp [e1,hz]
 ·have he:e∈es.toList:=nV g2
  obtain⟨k',v',e1,e2,e3⟩:=h1 e he;have:k'=k:=by rw [e1] at g3;injection g3
  subst this;have e4:=run_findKey (w:=w) hk g1;simp only [Instr.lookup,Du,run_underlying ht,Xp hb,run_checkKey hk (dY k'),Result.andThen]
  cases ok
  ·simp [e4,e2,e3]
  ·simp [e4,e2,e3]):P:=x
theorem abS{P:Prop}(x:P:=by
 obtain⟨i,hi⟩:=N9 hx;rw [Fo,L6] at hi
 by_cases hji:j=i
 ·rw [aY hji] at hi
  injection hi with hi;subst hi;exact⟨k,v,rfl,rfl,S_⟩
 ·rw [aK hji] at hi
  have hxm:x∈es.toList:=nV (i:=i) (by rw [Fo];exact hi);obtain⟨k',v',e1,e2,e3⟩:=h1 x hxm
  have hne:k'≠k:=by
   intro q;have hkk:x.key=e.key:=by rw [e1,g3,q]
   have Vg:=hs.2.2;have hjj:(es.toList.map (·.key))[j]?=some e.key:=by rw [gA,g2];rfl
   have Z1:(es.toList.map (·.key))[i]?=some x.key:=by rw [gA,Fo,hi];rfl
   rw [hkk,←hjj] at Z1;exact hji ((List.getElem?_inj (by rw [mC];exact(fO.1 g2).1) Vg).1 Z1.symm)
  exact NK):P:=x
theorem abO{P:Prop}(x:P:=by
 rw [hput];refine⟨hrun,⟨_,_,(heap_set hb).1,stamped_push hs g2,fun x hx=>?_,fun k' v' hf=>?_⟩,qV _⟩
 ·simp only [Array.toList_push,Bh,Bi] at hx
  rcases hx with hx | rfl
  ·exact Sz
  ·exact⟨k,v,rfl,rfl,S_⟩
 ·by_cases hkk:k'=k
  ·simp only [hkk,dL] at hf
   injection hf with hf;exact⟨⟨.int .i64 k,v,cl⟩,S_,by rw [hkk],by rw [hf]⟩
  ·simp only [hkk,eu] at hf
   obtain⟨x,hx,e1,e2⟩:=h2 k' v' hf;exact⟨x,by simp [hx],e1,e2⟩):P:=x
theorem abE{P:Prop}(x:P:=by
 simp only [hkk,eu] at hf;obtain⟨x,hx,e1,e2⟩:=h2 k' v' hf;obtain⟨i,hi⟩:=N9 hx
 have hji:j≠i:=by
  intro q;exact SF
 exact⟨x,nV (i:=i) (by rw [Fo,L6,aK hji,←Fo];exact hi),e1,e2⟩):P:=x
theorem abd{P:Prop}(x:P:=by
 simp [Instr.mapUpdate,run_underlying ht,Xp hb,run_checkKey hk (dY k),run_findKey hk g1,hj,g3,run_keyThatStays (dY k),run_setObj_map _ hb,Result.andThen]):P:=x
theorem NK{P:Prop}(x:P:=by
 exact⟨k',v',e1,e2,by simp only [hne,eu];exact e3⟩):P:=x
theorem S4{P:Prop}(x:P:=by
 simp [Instr.mapUpdate,run_underlying ht,Xp hb,run_checkKey hk (dY k),run_findKey hk g1,run_setObj_map _ hb,Result.andThen]):P:=x
theorem SV{P:Prop}(x:P:=by
 go_wp2_with fail
 all_goals
  go_ret;refine⟨jV ?_,(bu w).alloc (bZ _) _⟩
  simp_all [cV]
  try omega):P:=x
theorem SF{P:Prop}(x:P:=by
 subst q;rw [g2] at hi;injection hi with hi;subst hi;rw [e1] at g3;injection g3 with _ g3;exact hkk g3):P:=x
theorem Sz{P:Prop}(x:P:=by
 obtain⟨k',v',e1,e2,e3⟩:=h1 x hx;have hne:k'≠k:=fun q=>g2 x hx (by rw [e1,q])
 exact NK):P:=x
open Go.RowKit
theorem lu{a b:Bool}(h:a=b):Ending.returned (.bool a)=.returned (.bool b):=by rw [h]
theorem jV{k:IntKind}{a b:Int}(h:a=b):Ending.returned (.int k a)=.returned (.int k b):=by rw [h]
theorem qK{a b:Value}(h:a=b):Ending.returned a=.returned b:=by rw [h]
abbrev Ext(w w':World):Prop:=Below w.heap.size w w'
theorem bu(w:World):Ext w w:=Below.refl _ _
theorem Ext.drawn(w:World)(k:Nat):Ext w (w.drewN k):=by
 refine⟨rfl,rfl,rfl,?_,fun _ _=>rfl⟩;exact bZ _
theorem Ext.next{a b c:World}(h:Ext a b)(k:Ext b c):Ext a c:=Below.trans h (k.mono h.size)
structure dM(S:Nat→Prop)(w w':World):Prop where
 os:w'.os=w.os
 tape:w'.tape=w.tape
 output:w'.output=w.output
 size:w.heap.size≤w'.heap.size
 block:∀ k,k<w.heap.size→¬S k→w'.heap[k]?=w.heap[k]?
theorem dM.refl(S:Nat→Prop)(w:World):dM S w w:=⟨rfl,rfl,rfl,bZ _,fun _ _ _=>rfl⟩
theorem dM.mono{S S':Nat→Prop}{a b:World}(h:dM S a b)(hs:∀ k,k<a.heap.size→S k→S' k):dM S' a b:=
 ⟨h.os,h.tape,h.output,h.size,fun k hk hn=>h.block k hk fun hh=>hn (hs k hk hh)⟩
theorem dM.trans{S S':Nat→Prop}{a b c:World}(h:dM S a b)(k:dM S' b c)(hs:∀ i,i<a.heap.size→S' i→S i):dM S a c:=
 ⟨k.os.trans h.os,k.tape.trans h.tape,k.output.trans h.output,sY h.size k.size,fun i hi hn=>(k.block i (JI hi h.size) fun hh=>hn (hs i hi hh)).trans (h.block i hi hn)⟩
theorem dM.Eh{S:Nat→Prop}{a b:World}(h:Ext a b):dM S a b:=⟨h.os,h.tape,h.output,h.size,fun k hk _=>h.block k hk⟩
theorem dM.qL{a b:World}{row:Option Nat}(h:a.grownBy b row):dM (fun k=>some k=row) a b:=⟨h.os,h.tape,h.output,h.size,fun k hk hn=>h.block k hk hn⟩
theorem dM.setCell{S:Nat→Prop}{a b:World}(h:dM S a b)(p:Addr)(u:Value)(hp:p.block<a.heap.size→S p.block):dM S a (b.setCell p u):=
 ⟨h.os,h.tape,h.output,by simpa using h.size,fun k hk hn=>by
  have hne:k≠p.block:=fun e=>hn (e▸hp (e▸hk))
  exact(Below.heap_setCell b p u k hne).trans (h.block k hk hn)⟩
theorem dM.alloc{S:Nat→Prop}{a b:World}(h:dM S a b)(o:Obj):dM S a (b.alloc o):=
 ⟨h.os,h.tape,h.output,sY h.size S_,fun k hk hn=>(heap_alloc_old b o (JI hk h.size)).trans (h.block k hk hn)⟩
theorem dM.drew{S:Nat→Prop}{a b:World}(h:dM S a b):dM S a b.drew:=⟨h.os,h.tape,h.output,h.size,h.block⟩
theorem dM.drewN{S:Nat→Prop}{a b:World}(h:dM S a b)(n:Nat):dM S a (b.drewN n):=h.trans (dM.Eh (S:=S) (Ext.drawn b n)) fun _ _ hs=>hs
theorem dM.below{S:Nat→Prop}{B:Nat}{a b:World}(h:dM S a b)(hB:B≤a.heap.size)(hs:∀ k,S k→B≤k):Below B a b:=
 ⟨h.os,h.tape,h.output,h.size,fun k hk=>h.block k O_ fun hh=>by have:=hs k hh;omega⟩
theorem nD{S:Nat→Prop}{a b:World}{base:Nat}{e:TypeId}{size n:Nat}{v:Value}{us:List Value}(h:a.ownsRow base e size v n us)(o:dM S a b)(hs:∀ k,v.ownBlock=some k→¬S k):b.ownsRow base e size v n us:=by
 refine⟨h.1,?_⟩
 rcases h.2 with hn | ⟨g,cap,cur,rfl,hb,hg,rest⟩
 ·exact .inl hn
 ·exact .inr ⟨g,cap,cur,rfl,hb,(o.block g (uh.1 hg).1 (hs g rfl)).trans hg,rest⟩
variable{cs:Array Value}{t:TypeId}
theorem cellOf{w:World}{b i:Nat}{u:Value}(h:w.heap[b]?=some (.cells cs t (0,0)))(hu:cs[i]?=some u):w.cell? ⟨b,i,none⟩=some u:=(cell_of_row w b i cs t (0,0) h).trans hu
theorem vN{w:World}{b:Nat}(h:w.heap[b]?=some (.cells cs t (0,0)))(i:Nat):w.frozen? ⟨b,i,none⟩=false:=by simp [World.frozen?,h]
def Rd(w:World)(A:Option Addr)(us:List Value):Prop:=
 us≠ []→∃ b off,A=some ⟨b,off,none⟩∧b<w.heap.size∧∀ j u,us[j]?=some u→w.cell? ⟨b,off+j,none⟩=some u
theorem Rd.nil(w:World)(A:Option Addr):Rd w A []:=fun h=>absurd rfl h
variable{us:List Value}
theorem Rd.ext{w w':World}{A:Option Addr}(h:Rd w A us)(e:Ext w w'):Rd w' A us:=fun hne=>by
 obtain⟨b,off,hA,hb,hc⟩:=h hne;exact⟨b,off,hA,JI hb e.size,fun j u hu=>(e.cell (p:=⟨b,off+j,none⟩) hb).trans (hc j u hu)⟩
variable{base:Nat}{e:TypeId}
theorem Rd.fM{w:World}{size n c:Nat}{A:Option Addr}(h:w.ownsRow base e size (.slice A n c) n us):Rd w A us:=by
 intro hne
 rcases h.2 with ⟨_,h0⟩ | ⟨g,cap,cur,hv,_,hg,_⟩
 ·have:=h.1;rw [h0,Nat.zero_mul] at this;exact absurd (Oa this) hne
 ·injection hv with hA _ _
  subst hA;refine⟨g,0,rfl,(uh.1 hg).1,fun j u hu=>?_⟩;have:=h.cells (g:=g) rfl j u hu;simpa [Addr.add_lit] using this
variable{v:Value}
theorem aA{w:World}{size n:Nat}(h:w.ownsRow base e size v n us):∃ A c,v=.slice A n c:=by
 rcases h.2 with ⟨h1,h0⟩ | ⟨g,cap,cur,hv,_⟩
 ·subst h0;exact⟨_,_,h1⟩
 ·exact⟨_,_,hv⟩
theorem bf{w:World}{size n:Nat}(h:w.ownsRow base e size v n us)(hn:0<n):∃ g c,v=.slice (some ⟨g,0,none⟩) n c∧n≤c∧base≤g∧g<w.heap.size:=by
 rcases h.2 with ⟨h1,h0⟩ | ⟨g,cap,cur,hv,hb,hg,hc,_⟩
 ·omega
 ·exact⟨g,cap,hv,hc,hb,(uh.1 hg).1⟩
theorem FN{w:World}{size n m g c:Nat}(h:w.ownsRow base e size (.slice (some ⟨g,0,none⟩) n c) n us)(hm:m≤n):w.ownsRow base e size (.slice (some ⟨g,0,none⟩) m c) m (us.take (m*size)):=by
 have hle:m*size≤n*size:=Nat.mul_le_mul_right _ hm;refine⟨by rw [Fj,h.1];omega,?_⟩
 rcases h.2 with ⟨h1,h0⟩ | ⟨g',cap,cur,hv,hb,hg,hc,hmx,hsz,tC⟩
 ·cases h1
 ·injection hv with h1 h2 h3
  injection h1 with h1;injection h1 with h1;subst h1 h3;refine .inr ⟨g,c,cur,rfl,hb,hg,O_,hmx,hsz,?_⟩;rw [←tC,List.take_take,Nat.min_eq_left hle]
def Elem(P:Program)(e:TypeId)(size bytes:Nat):Prop:=
 ∃ i z,P.info? e=some i∧i.zero=some z∧i.size=size∧i.bytes=bytes∧z.cells.size=size∧0<size∧0<bytes
variable{P:Program}
theorem Elem.of{z:Value}{size bytes:Nat}(h:(P.info? e).map (fun i=>(i.zero,i.size,i.bytes))=some (some z,size,bytes))(hz:z.cells.size=size)(h0:0<size)(h1:0<bytes):Elem P e size bytes:=by
 obtain⟨i,a,b,c,d⟩:=info_parts h;exact⟨i,z,a,b,c,d,hz,h0,h1⟩
theorem aD{w w':World}{o:Obj}{row:Option Nat}(h:(w.alloc o).grownBy w' row):w.grownBy w' row:=
 ⟨h.os,h.tape,h.output,sY S_ h.size,fun k hk hr=>(h.block k (by simp;omega) hr).trans (heap_alloc_old w o hk)⟩
variable{ops:Array Oper}
theorem fP{rest:List Oper}{o:Oper}{a:Act}{Q:Exit→Act→World→Prop}(w:World)(hgd:o.guard=none)(s x:Operand)(t:TypeId)
  (ho:o.op=.call {callee:=.builtin .append,args:=#[s,x],argTypes:=#[t,t]})
  (base:Nat) (e:TypeId) (size bytes:Nat) (T:Elem P e size bytes) (ht:P.underlying t=some (.slice e))
  (v:Value) (n:Nat) (xs:List Value) (hs:a.eval s=v) (hown:w.ownsRow base e size v n xs)
  (cs:Array Value) (hx:a.eval x=.slice (some ⟨w.heap.size,0,none⟩) 1 1) (hc:cs.size=size) (h1:∀ u∈cs.toList,u.oneCell'=true)
  (hbytes:(n+1)*bytes≤140737488355328) (hbase:base≤w.heap.size)
  (h:∀ v' w',w'.ownsRow base e size v' (n+1) (xs++cs.toList)→w.grownBy w' v.ownBlock→(v'.ownBlock=v.ownBlock∨v'.ownBlock=some (w.heap.size+1))→wpList P ops Q rest (a.put o.dst v') w'):
  wpList P ops Q (o::rest) a (w.alloc (.cells cs e)):=by
 obtain⟨i,z,hi,hz,hsz,hby,hzs,h0,hb0⟩:=T
 have h63:n+1≤maxLen:=by
  have:(n+1)*1≤(n+1)*bytes:=Nat.mul_le_mul_left _ hb0;unfold maxLen;omega
 refine wpList_append_own_at _ hgd s x t ho base e i z size bytes ht hi hz hsz hby hzs h0 v n xs hs (hown.alloc _) ⟨w.heap.size,0,none⟩ 1 1 cs.toList hx (by simp [hc]) ?_ h1 h63 hbytes (by simp;omega) ?_
 ·intro j u hu
  rw [Addr.add_lit,World.cell?_alloc_at _ _ _ _ S_];simpa using hu
 ·intro v' w' h2 h3 _ h5
  refine h v' w' h2 (aD h3) ?_;simpa using h5
theorem tf(w:World)(base:Nat)(t ty e:TypeId)(size bytes:Nat)(T:Elem P e size bytes)(ht:P.underlying t=some (.slice e))
  (v:Value) (n:Nat) (xs:List Value) (hown:w.ownsRow base e size v n xs) (A:Option Addr) (m c:Nat) (us:List Value) (hl:us.length=m*size) (hr:Rd w A us) (h1:∀ u∈us,u.oneCell'=true)
  (hbytes:(n+m)*bytes≤140737488355328) (hbase:base≤w.heap.size):
  ∃ v' w',(Builtin.append_ #[t,t] ty #[v,.slice A m c]).run P w=.ok v' w'∧w'.ownsRow base e size v' (n+m) (xs++us)∧w.grownBy w' v.ownBlock∧(v'.ownBlock=v.ownBlock∨v'.ownBlock=some w.heap.size):=by
 obtain⟨i,z,hi,hz,hsz,hby,hzs,h0,hb0⟩:=T
 have h63:n+m≤maxLen:=by
  have:(n+m)*1≤(n+m)*bytes:=Nat.mul_le_mul_left _ hb0;unfold maxLen;omega
 cases A with
 | none=>
  have hu:us= []:=Classical.byContradiction fun hne=>by obtain⟨b,off,hA,_⟩:=hr hne;cases hA
  subst hu
  have hm:m=0:=by
   rcases Nat.eq_zero_or_pos m with h | h
   ·exact h
   ·have:=Nat.mul_pos h h0;rw [←hl] at this;simp at this
  subst hm;refine⟨v,w,?_,by simpa using hown,⟨rfl,rfl,rfl,bZ _,fun _ _ _=>rfl⟩,.inl rfl⟩
  rcases hown.2 with ⟨rfl,rfl⟩ | ⟨g,cap,cur,rfl,_,_,hnc,_⟩
  ·simp [Builtin.append_,run_underlying ht,sizeOf,typeInfo,hi,Builtin.lenOf,Builtin.firstCells]
  ·simp [Builtin.append_,run_underlying ht,sizeOf,typeInfo,hi,Builtin.lenOf,Builtin.firstCells,hnc,storeCells]
 | some a=>
  have Ex:∀ j u,us[j]?=some u→w.cell? (a.add j)=some u:=fun j u hu=>by
   obtain⟨b,off,hA,_,hc⟩:=hr (by intro e;subst e;simp at hu);injection hA with hA;subst hA;rw [Addr.add_lit];exact hc j u hu
  obtain⟨v',w',hrun,h2,h3,_,h5⟩:=run_append_own_at (P:=P) w base t ty e i z size bytes ht hi hz hsz hby hzs h0 v n xs hown a m c us hl Ex h1 h63 hbytes hbase;exact⟨v',w',hrun,h2,h3,h5⟩
theorem cN{rest:List Oper}{o:Oper}{a:Act}{Q:Exit→Act→World→Prop}(w:World)(hgd:o.guard=none)(s x:Operand)(t:TypeId)
  (ho:o.op=.call {callee:=.builtin .append,args:=#[s,x],argTypes:=#[t,t]})
  (base:Nat) (e:TypeId) (size bytes:Nat) (T:Elem P e size bytes) (ht:P.underlying t=some (.slice e))
  (v:Value) (n:Nat) (xs:List Value) (hs:a.eval s=v) (hown:w.ownsRow base e size v n xs)
  (A:Option Addr) (m c:Nat) (us:List Value) (hx:a.eval x=.slice A m c) (hl:us.length=m*size) (hr:Rd w A us) (h1:∀ u∈us,u.oneCell'=true)
  (hbytes:(n+m)*bytes≤140737488355328) (hbase:base≤w.heap.size)
  (h:∀ v' w',w'.ownsRow base e size v' (n+m) (xs++us)→w.grownBy w' v.ownBlock→(v'.ownBlock=v.ownBlock∨v'.ownBlock=some w.heap.size)→wpList P ops Q rest (a.put o.dst v') w'):
  wpList P ops Q (o::rest) a w:=by
 refine wpList_plain hgd fun K hK=>?_
 obtain⟨v',w',hrun,h2,h3,h5⟩:=tf (P:=P) w base t o.type e size bytes T ht v n xs hown A m c us hl hr h1 hbytes hbase;unfold Oper.wp execOp;simp only [ho,resolve,invoke,builtin,Du,Sem.run_pure,Result.andThen_ok,List.map_toArray,rU,List.map_nil,hs,hx,hrun];exact hK _ _ (h v' w' h2 h3 h5)
theorem cn{o:Oper}{a:Act}{K:Act→World→Prop}{Q:Exit→Act→World→Prop}{E:Prop}(w:World)(hgd:o.guard=none)(s x:Operand)(t:TypeId)
  (ho:o.op=.call {callee:=.builtin .append,args:=#[s,x],argTypes:=#[t,t]})
  (base:Nat) (e:TypeId) (size bytes:Nat) (T:Elem P e size bytes) (ht:P.underlying t=some (.slice e))
  (v:Value) (n:Nat) (xs:List Value) (hs:a.eval s=v) (hown:w.ownsRow base e size v n xs)
  (A:Option Addr) (m c:Nat) (us:List Value) (hx:a.eval x=.slice A m c) (hl:us.length=m*size) (hr:Rd w A us) (h1:∀ u∈us,u.oneCell'=true)
  (hbytes:(n+m)*bytes≤140737488355328) (hbase:base≤w.heap.size)
  (h:∀ v' w',w'.ownsRow base e size v' (n+m) (xs++us)→w.grownBy w' v.ownBlock→(v'.ownBlock=v.ownBlock∨v'.ownBlock=some w.heap.size)→K (a.put o.dst v') w'):
  if Region.wanted o (yielded ops a.tmps)=true then Oper.wp P o a w K Q else E:=by
 have hw:Region.wanted o (yielded ops a.tmps)=true:=by simp [Region.wanted,hgd]
 rw [aY hw];obtain⟨v',w',hrun,h2,h3,h5⟩:=tf (P:=P) w base t o.type e size bytes T ht v n xs hown A m c us hl hr h1 hbytes hbase;unfold Oper.wp execOp;simp only [ho,resolve,invoke,builtin,Du,Sem.run_pure,Result.andThen_ok,List.map_toArray,rU,List.map_nil,hs,hx,hrun];exact h v' w' h2 h3 h5
theorem Rd.made(w:World)(cs:List Value)(e:TypeId):Rd (w.alloc (.cells cs.toArray e)) (some ⟨w.heap.size,0,none⟩) cs:=fun _=>
 ⟨w.heap.size,0,rfl,S_,fun j u hu=>by rw [World.cell?_alloc_at _ _ _ _ rfl];simpa using hu⟩
def aba(P:Program)(e:TypeId)(z:Value)(bytes:Nat):Prop:=(P.info? e).map (fun i=>(i.zero,i.size,i.bytes))=some (some z,1,bytes)
variable{f:FuncId}{args:Array Value}
theorem un{w:World}{R:World→Prop}{K:Ending→World→Prop}(h:Calls P f args w fun e w'=>e=.returned v∧R w')(k:∀ w',R w'→K (.returned v) w'):Calls P f args w K:=h.mono fun _ _ ⟨e,r⟩=>e▸k _ r
theorem iP{fn:Func}{R:Ending→World→Prop}{a:Act}{w:World}(hR:R (.returned (.tuple #[])) w)(h:fn.results=#[]:=by rfl)(hd:a.defers= []:=by rfl):bodyPost P fn R .normal a w:=bodyPost_end (v:=.tuple #[]) (results_none h _ _ _) hd hR
theorem j4{α β:Type}{a c:α}{b d:β}(h:some (a,b)=some (c,d)):a=c∧b=d:=by simpa using h
theorem jH{a b:Nat}(h:a<b):decide ((a:Int)<(b:Int))=true:=cM O_
instance(k:Nat):CoeDep (Option (Option Nat)) (some (some k)) (Option Value):=⟨some (.pointer (some ⟨k,0,none⟩))⟩
instance:Coe Int Value:=⟨fun x=>.int .i64 x⟩
instance:Coe Nat Value:=⟨fun x=>.int .i64 x⟩
instance:Coe Bool Value:=⟨fun x=>.bool x⟩
instance(k:Nat):CoeDep (Option Nat) (some k) Value:=⟨.pointer (some ⟨k,0,none⟩)⟩
structure zF(S:World→Prop) where
 world:World
 ok:S world
theorem EV{S:World→Prop}{w:World}(h:S w):∃ c:zF S,w=c.world:=⟨⟨w,h⟩,rfl⟩
def Ts(S:World→Prop):Prop:=∀ w w',S w→Ext w w'→S w'
instance (w0:World):Nonempty (zF (Ext w0)):=⟨⟨w0,bu w0⟩⟩
theorem oo(w0:World):Ts (Ext w0):=fun _ _ h e=>Ext.next h e
theorem Ext.bh{a b:World}(h:Ext a b):Ext a b.drew:=Ext.next h (Ext.drawn b 1)
theorem Ext.aE{a b:World}(h:Ext a b)(o:Obj):Ext a (b.alloc o):=h.alloc h.size o
variable{id:Nat}
theorem bT{Q:Exit→Act→World→Prop}{a:Act}{w:World}{l:List Oper}(S:World→Prop)(hS:S w.drew)(hm:P.follows .mixedOrders=true)(hB:Region.lexB .any l.toArray=true)
  (h:wpQuiet P l.toArray (fun w'=>∃ c:zF S,w'=c.world) (fun a'=>∀ w',(∃ c:zF S,w'=c.world)→Q .normal a' w') l a):(Code.region id l.toArray true).wp P Q a w:=
 wp_region_quiet (C:=fun w'=>∃ c:zF S,w'=c.world) hm hB ⟨⟨w.drew,hS⟩,rfl⟩ (by simpa using h)
theorem oy{S:World→Prop}{c:zF S}{v:Value}(hS:Ts S)
  (h:Calls P f args c.world fun e w'=>e=.returned v∧Ext c.world w'):Calls P f args c.world fun e w''=>e=.returned v∧∃ c':zF S,w''=c'.world:=
 h.mono fun _ _ ⟨he,hx⟩=>⟨he,⟨_,hS _ _ c.ok hx⟩,rfl⟩
theorem cP{S:World→Prop}{c:zF S}{v:Value}
  (h:Calls P f args c.world fun e w'=>e=.returned v∧w'=c.world):Calls P f args c.world fun e w''=>e=.returned v∧∃ c':zF S,w''=c'.world:=
 h.mono fun _ _ ⟨he,hx⟩=>⟨he,c,hx⟩
abbrev aL(w0:World):=zF (Ext w0)
variable{w0:World}
theorem aL.size(c:aL w0):w0.heap.size≤c.world.heap.size:=c.ok.size
theorem aL.block(c:aL w0){b:Nat}{o:Obj}(h:w0.heap[b]?=some o):c.world.heap[b]?=some o:=(c.ok.block b (uh.1 h).1).trans h
theorem pQ{w:World}{b:Nat}{o:Obj}(h:w.heap[b]?=some o):b<w.heap.size:=(uh.1 h).1
theorem aL.cells{b i:Nat}{u:Value}(h:w0.heap[b]?=some (.cells cs t (0,0)))(hu:cs[i]?=some u):∀ c:aL w0,c.world.cell? ⟨b,i,none⟩=some u:=fun c=>cellOf (c.block h) hu
theorem aL.free{b:Nat}(h:w0.heap[b]?=some (.cells cs t (0,0)))(i:Nat):∀ c:aL w0,c.world.frozen? ⟨b,i,none⟩=false:=fun c=>vN (c.block h) i
theorem aL.lt{b:Nat}(h:b<w0.heap.size):∀ c:aL w0,b<c.world.heap.size:=fun c=>by have:=c.size;omega
theorem jD(c:aL w0){w:World}(e:Ext c.world w):∃ c':aL w0,w=c'.world:=EV (Ext.next c.ok e)
theorem LF(w0:World):∃ c:aL w0,w0=c.world:=EV (bu w0)
theorem kB{w0 w:World}(e:Ext w0 w):∃ c:aL w0,w=c.world:=EV e
def jg(n:Nat)(z:Value):Array Value:=Array.replicate n z
theorem nX{t e:TypeId}{z:Value}{bytes:Nat}(T:aba P e z bytes)(II:z.cells=#[z])(ht:P.underlying t=some (.slice e))(n:Int)(h0:0≤n)(hb:(bytes:Int)*n≤281474976710656)(h63:n≤9223372036854775807)(w:World):
  (Instr.makeSlice t n n).run P w=.ok (.slice (some ⟨w.heap.size,0,none⟩) n.toNat n.toNat) (w.alloc (.cells (jg n.toNat z) e)):=by
 obtain⟨i,hi,hz,hs,hby⟩:=info_parts T;rw [run_make w t e i z ht hi hz .i64 .i64 n n h0 (Int.le_refl _) (by rw [hby];exact hb) h63,hs,II,Nat.mul_one]
 congr 3
 apply Array.toList_inj.1;rw [toList_madeCells_one];simp [jg]
theorem dB{w w':World}{B:Nat}{size n:Nat}(h:w.ownsRow B e size v n us)(x:Ext w w'):w'.ownsRow B e size v n us:=nD h (dM.Eh (S:=fun _=>False) x) fun _ _ f=>f
theorem Ext.only{w a b:World}{S:Nat→Prop}(h:Ext w a)(o:dM S a b)(hs:∀ q,S q→w.heap.size≤q):Ext w b:=Below.trans h (o.below h.size hs)
variable{B B':Nat}
theorem ku{w:World}{size n:Nat}(h:w.ownsRow B e size v n us)(hb:B'≤B):w.ownsRow B' e size v n us:=by
 refine⟨h.1,?_⟩
 rcases h.2 with hn | ⟨g,cap,cur,rfl,hg,rest⟩
 ·exact .inl hn
 ·exact .inr ⟨g,cap,cur,rfl,sY hb hg,rest⟩
theorem Pa{w:World}{v v':Value}{e e':TypeId}{size size' n n':Nat}{us us':List Value}(h:w.ownsRow B e size v n us)(k:w.ownsRow B' e' size' v' n' us')(hne:e≠e'):∀ q,v.ownBlock=some q→v'.ownBlock≠some q:=by
 intro q hq e'
 rcases h.2 with ⟨rfl,_⟩ | ⟨g1,c1,r1,rfl,_,hg1,_⟩
 ·cases hq
 ·rcases k.2 with ⟨rfl,_⟩ | ⟨g2,c2,r2,rfl,_,Xc,_⟩
  ·cases e'
  ·injection hq with hq
   injection e' with e';subst hq e';rw [hg1] at Xc;injection Xc with Xc;injection Xc with _ Xc;exact hne Xc
theorem vm{w w':World}{v v':Value}{e e':TypeId}{size size' n n':Nat}{us us':List Value}(h:w.ownsRow B e size v n us)(k:w.ownsRow B' e' size' v' n' us')(hne:e≠e')(hg:w.grownBy w' v.ownBlock):w'.ownsRow B' e' size' v' n' us':=by
 refine nD k (dM.qL hg) fun q hq hs=>Pa h k hne q hs.symm hq
theorem I7{w0 w w':World}{B:Nat}{size n:Nat}(hx:Ext w0 w)(h:w.ownsRow B e size v n us)(hB:w0.heap.size≤B)(hg:w.grownBy w' v.ownBlock):Ext w0 w':=
 hx.only (dM.qL hg) fun q hq=>by have:=(h.lt q hq.symm).1;omega
def lenOf:Value→Nat
 | .slice _ n _=>n
 | _=>0
theorem nI(w:World)(X:Obj):∃ w0,w.alloc X=w0∧w0.heap[w.heap.size]?=some X∧Ext w w0∧w.heap.size<w0.heap.size:=
 ⟨_,rfl,yo w X,(bu w).aE X,S_⟩
theorem VP(w:World)(X Y:Obj):∃ w0,(w.alloc X).alloc Y=w0∧w0.heap[w.heap.size]?=some X∧w0.heap[w.heap.size+1]?=some Y∧Ext w w0∧w.heap.size+1<w0.heap.size:=
 ⟨_,rfl,by rw [heap_alloc_old _ _ S_];exact yo w X,by have:=yo (w.alloc X) Y;simpa using this,((bu w).aE X).aE Y,S_⟩
theorem gJ{a b:World}(h:Ext a b){k:Nat}{o:Obj}(hk:a.heap[k]?=some o):b.heap[k]?=some o:=(h.block k (uh.1 hk).1).trans hk
theorem aL.EX{b:Nat}{x y z:Value}(h:w0.heap[b]?=some (.cells #[x,y,z] t (0,0))):
  (∀ c:aL w0,c.world.cell? ⟨b,0,none⟩=some x)∧(∀ c:aL w0,c.world.cell? ⟨b,1,none⟩=some y)∧(∀ c:aL w0,c.world.cell? ⟨b,2,none⟩=some z):=⟨aL.cells h rfl,aL.cells h rfl,aL.cells h rfl⟩
abbrev Qr(T R H Re Ca S B:Int):Array Value:=#[T,R,H,Re,Ca,S,B]
theorem aL.cfg{b:Nat}{T R H Re Ca S B:Int}(h:w0.heap[b]?=some (.cells #[T,R,H,Re,Ca,S,B] t (0,0))):
  (∀ c:aL w0,c.world.cell? ⟨b,0,none⟩=some (.int .i64 T))∧(∀ c:aL w0,c.world.cell? ⟨b,1,none⟩=some (.int .i64 R))∧(∀ c:aL w0,c.world.cell? ⟨b,2,none⟩=some (.int .i64 H))∧
  (∀ c:aL w0,c.world.cell? ⟨b,3,none⟩=some (.int .i64 Re))∧(∀ c:aL w0,c.world.cell? ⟨b,4,none⟩=some (.int .i64 Ca))∧(∀ c:aL w0,c.world.cell? ⟨b,5,none⟩=some (.int .i64 S))∧(∀ c:aL w0,c.world.cell? ⟨b,6,none⟩=some (.int .i64 B)):=
 ⟨aL.cells h rfl,aL.cells h rfl,aL.cells h rfl,aL.cells h rfl,aL.cells h rfl,aL.cells h rfl,aL.cells h rfl⟩
theorem iG{C:World→Prop}{Q Q':Act→Prop}(h:∀ a,Q a→Q' a):∀ {l:List Oper} {a:Act},wpQuiet P ops C Q l a→wpQuiet P ops C Q' l a
 | [],a,hh=>h a hh
 | o::rest,a,hh=>by
  unfold wpQuiet at hh ⊢
  by_cases hw:Region.wanted o (yielded ops a.tmps)=true
  ·rw [aY hw] at hh ⊢
   exact Oper.quiet_mono (fun b hb=>iG h hb) hh
  ·rw [aK hw] at hh ⊢
   exact iG h hh
theorem qE{Q:Exit→Act→World→Prop}{a a':Act}{w:World}{l:List Oper}(k:∀ z:zF (Ext w),Q .normal a' z.world)
  (h:wpQuiet P l.toArray (fun w'=>∃ c:zF (Ext w),w'=c.world) (fun b=>b=a') l a:=by((repeat (go_big_quiet_step (fail)));exact qA rfl))
  (hm:P.follows .mixedOrders=true:=by kernel_rfl) (hB:Region.lexB .any l.toArray=true:=by kernel_rfl):(Code.region id l.toArray true).wp P Q a w:=
 bT (Ext w) (bu w).bh hm hB (iG (fun _ e _ ⟨z,e'⟩=>e▸e'▸k z) h)
theorem qZ{Q:Exit→Act→World→Prop}{a a':Act}{w:World}{l:List Oper}(y:zF (Ext w))(k:∀ z:zF (Ext w),Q .normal a' z.world)
  (h:wpQuiet P l.toArray (fun w'=>∃ c:zF (Ext w),w'=c.world) (fun b=>b=a') l a:=by((repeat (go_big_quiet_step (fail)));exact qA rfl))
  (hm:P.follows .mixedOrders=true:=by kernel_rfl) (hB:Region.lexB .any l.toArray=true:=by kernel_rfl):(Code.region id l.toArray true).wp P Q a y.world:=
 bT (Ext w) (Ext.bh y.ok) hm hB (iG (fun _ e _ ⟨z,e'⟩=>e▸e'▸k z) h)
section
variable{P:Program}{ops:Array Oper}{md:Region.Mode}{C:World→Prop}
def qY(P:Program)(md:Region.Mode)(ops:Array Oper)(C:World→Prop)(n:Nat)(L:Array Bool→Act→Prop):Nat→Array Bool→Act→Prop
 | 0,seen,a=>L seen a
 | f+1,seen,a=>Region.ready md ops seen≠ []∧∀ i∈Region.ready md ops seen,i<n∧qOp P ops C i (qY P md ops C n L f (seen.setIfInBounds i true)) a
theorem Df{n g:Nat}{L:Array Bool→Act→Prop}{Q':Exit→Act→World→Prop}(hL:∀ seen a w,C w→L seen a→wpAny P md ops Q' g seen a w)(f:Nat):
  ∀ (seen:Array Bool) (a:Act) (w:World),C w→qY P md ops C n L f seen a→wpAny P md ops Q' (f+g) seen a w:=by
 induction f with
 | zero=>intro seen a w hw h;rw [rN];exact hL _ _ _ hw h
 | succ f ih=>
  intro seen a w hw h;rw [Nat.add_right_comm];exact⟨fun h0=>absurd h0 h.1,fun i hi=>wpOp_of_qOp hw (fun a' w' hw' h'=>ih _ a' w' hw' h') (h.2 i hi).2⟩
def GM(md:Region.Mode)(ops:Array Oper)(i:Nat)(oi:Oper)(seen:Array Bool):Prop:=
 ∀ j oj,ops[j]?=some oj→j≠i→seen.getD j true=false→(∀ e∈oj.after,Region.binds md e=true→e.on≠i)→oi.apart ops oj=true
theorem GM.set{i j:Nat}{oi:Oper}{seen:Array Bool}(h:GM md ops i oi seen)(hj:seen.getD j true=false):GM md ops i oi (seen.setIfInBounds j true):=fun k ok hk hki hun hno=>by
 refine h k ok hk hki ?_ hno
 rcases Nat.decEq j k with Xa | Xa
 ·rwa [getD_set_ne true Xa] at hun
 ·exact Xa▸hj
theorem Cm{i:Nat}{oj:Oper}{seen:Array Bool}(hi:seen.getD i true=false)(hall:∀ e∈oj.after,Region.binds md e=true→seen.getD e.on false=true):∀ e∈oj.after,Region.binds md e=true→e.on≠i:=fun e he hb heq=>by
 have h1:=hall e he hb;rw [heq,getD_both hi] at h1
 cases h1
theorem Ev{n i:Nat}{oi:Oper}{v:Value}{L:Array Bool→Act→Prop}(hi:ops[i]?=some oi)(hsel:∀ (j:Nat) (o:Oper) cs b,ops[j]?=some o→o.op≠.select cs b)
  (hs:Region.sinkB md ops n=true) (hc:Region.chainB md ops n=true) (hn:n<ops.size) (hin:i<n) (hdone:∀ seen a,L seen a→∀ j∈Region.ready md ops seen,n≤j) (f:Nat):
  ∀ (seen:Array Bool) (a:Act),HeadInv md ops n seen→GM md ops i oi seen→i∈Region.ready md ops seen→YieldsIn P ops C oi v a→
   qY P md ops C n L f (seen.setIfInBounds i true) (a.put oi.dst v)→qY P md ops C n L (f+1) seen a:=by
 induction f with
 | zero=>
  intro seen a inv _ hr hy H;have hun:=(mem_ready.1 hr).1;refine⟨fun h=>(by rw [h] at hr;cases hr),fun j hj=>?_⟩;have hjn:j<n:=Nat.lt_of_not_le fun h=>tail_waits hs hc hn inv _ i rfl hin hun j h hj
  refine⟨hjn,?_⟩
  rcases Nat.decEq j i with hji | hji
  ·exact absurd (hdone _ _ H j (ready_mono hj hji)) (Nat.not_le_of_lt hjn)
  ·exact hji▸hy.qOp hi H
 | succ f ih=>
  intro seen a inv L3 hr hy H;have hun:=(mem_ready.1 hr).1;refine⟨fun h=>(by rw [h] at hr;cases hr),fun j hj=>?_⟩;have hjn:j<n:=Nat.lt_of_not_le fun h=>tail_waits hs hc hn inv _ i rfl hin hun j h hj
  refine⟨hjn,?_⟩
  rcases Nat.decEq j i with hji | hji
  ·obtain⟨L4,oj,hoj,hall⟩:=mem_ready.1 hj
   have hap:=L3 j oj hoj hji L4 (Cm hun hall);have h2:=qOp_put hoj hap (fun cs b=>hsel i oi cs b hi) (fun cs b=>hsel j oj cs b hoj) hy (H.2 j (ready_mono hj hji)).2;refine qOp_mono (fun a' h3=>ih _ a' (inv.set hj hjn) (L3.set L4) (ready_mono hr (iS hji)) h3.1 ?_) h2;rw [Array.setIfInBounds_comm _ _ hji];exact h3.2
  ·exact hji▸hy.qOp hi H
theorem Mb{n g:Nat}{Lq:Act→Prop}(hsel:Region.noSelect ops=true)(hs:Region.sinkB md ops n=true)(hc:Region.chainB md ops n=true)(hn:n<ops.size)(l:List Oper):
  ∀ (k:Nat) (seen:Array Bool) (a:Act),(∀ j,j<l.length→l[j]?=ops[k+j]?)→k+l.length=n→HeadInv md ops n seen→Region.lexHead md ops g l.length k seen=true→wpQuiet P ops C Lq l a→
   qY P md ops C n (fun seen' a'=>Region.seqB md ops g n seen'=true∧Lq a') l.length seen a:=by
 induction l with
 | nil=>
  intro k seen a _ hk _ hB h;have hk':k=n:=by simpa using hk
  exact hk'▸⟨by simpa [Region.lexHead] using hB,h⟩
 | cons o l ih=>
  intro k seen a hl hk inv hB h;have h0:ops[k]?=some o:=by simpa using (hl 0 S_).symm
  simp only [ij,Region.lexHead,wT] at hB;have hkn:k<n:=by simp only [ij] at hk;omega
  have hr':k∈Region.ready md ops seen:=by simpa using hB.1.1
  have hq:qOp P ops C k (wpQuiet P ops C Lq l) a:=by unfold qOp;simp only [h0];exact h
  obtain⟨v,hy,hK⟩:=yieldsIn_of_qOp h0 hq;refine Ev h0 (Region.noSelect_spec hsel) hs hc hn hkn (fun seen' a' hL=>seqB_ready hL.1) l.length seen a inv (Region.free_spec h0 hB.1.2) hr' hy ?_;refine ih (k+1) _ _ (fun j hj=>?_) (by simp only [ij] at hk;omega) (inv.set hr' hkn) hB.2 hK;have:=hl (j+1) (by simp;omega);simpa [ud,Nat.add_comm 1 j] using this
theorem bU{id:Nat}{Q:Exit→Act→World→Prop}{a:Act}{w:World}{l:List Oper}(S:World→Prop)(n:Nat)(hS:S w.drew)(hm:P.follows .mixedOrders=true)(hB:Region.lexTailB .any l.toArray n=true)
  (h:wpQuiet P l.toArray (fun w'=>∃ c:zF S,w'=c.world) (fun a'=>∀ w',(∃ c:zF S,w'=c.world)→wpList P l.toArray Q (l.drop n) a' w') (l.take n) a):(Code.region id l.toArray true).wp P Q a w:=by
 simp only [Region.lexTailB,wT,decide_eq_true_eq] at hB;obtain⟨⟨⟨⟨hsel,hn⟩,hs⟩,hc⟩,hlex⟩:=hB;have hn':n<l.length:=by simpa using hn
 have htl:(l.take n).length=n:=by simp;omega
 have aeU:HeadInv .any l.toArray n (Array.replicate l.toArray.size false):=
  ⟨S_,fun j oj _ hl=>(by rw [getD_replicate_false] at hl;cases hl),fun t _ ht=>getD_in (by simpa using ht) (getD_replicate_false _ _)⟩
 have H:=Mb (md:=.any) (g:=l.toArray.size - n) hsel hs hc hn (l.take n) 0 _ a (fun j hj=>by
  have hj':j<n:=by rw [htl] at hj;exact hj
  simp [hj']) (by simpa using htl) aeU (by rw [htl];exact hlex) h
 refine wp_region_any hm ?_
 have L7:=Df (Q':=Q) (g:=l.toArray.size - n) (fun seen a' w' hw hL=>by
  have hd:(l.drop n).length=l.toArray.size - n:=S_
  have:=wpAny_of_seq (l.drop n) n seen a' w' (fun j=>S_) (by rw [hd];exact hL.1) (hL.2 w' hw)
  rwa [hd] at this) _ _ _ _ (⟨⟨w.drew,hS⟩,rfl⟩:∃ c:zF S,w.drew=c.world) H
 rw [htl] at L7
 rwa [show n+(l.toArray.size - n)=l.toArray.size from by simp;omega] at L7
end
theorem qT{Q:Exit→Act→World→Prop}{a a':Act}{w:World}{l l1 l2:List Oper}(n:Nat)(k:∀ z:zF (Ext w),wpList P l.toArray Q l2 a' z.world)(h1:l.take n=l1:=by(simp only [rR,rP];rfl))(h2:l.drop n=l2:=by(simp only [rQ,rO];rfl))
  (h:wpQuiet P l.toArray (fun w'=>∃ c:zF (Ext w),w'=c.world) (fun b=>b=a') l1 a:=by((repeat (go_big_quiet_step (fail)));exact qA rfl))
  (hm:P.follows .mixedOrders=true:=by kernel_rfl) (hB:Region.lexTailB .any l.toArray n=true:=by kernel_rfl):(Code.region id l.toArray true).wp P Q a w:=
 bU (Ext w) n (bu w).bh hm hB (by subst h1 h2;exact iG (fun _ e _ ⟨z,e'⟩=>e▸e'▸k z) h)
end Go.Proofs.YtgbhnihkgmpocaaGreat
namespace Go.Proofs.YtgbhnihkgmpocaaGreat
set_option maxRecDepth 100000
set_option maxHeartbeats 4000000
open Tryz
open Go.RowKit Go.MapKept
open Go.ChangeMaps (setBlock)
def jY(w:World)(b:Nat)(f:Int→Option Int):Prop:=
 ∃ es clock,w.heap[b]?=some (.map es clock)∧Stamped es clock∧(∀ x∈es.toList,∃ k v,x.key=.int .i64 k∧x.val=.int .i64 v∧f k=some v)∧
  (∀ k v,f k=some v→∃ x∈es.toList,x.key=.int .i64 k∧x.val=.int .i64 v)
theorem jY.lt{w:World}{b:Nat}{f:Int→Option Int}(h:jY w b f):b<w.heap.size:=by
 obtain⟨es,cl,hb,_⟩:=h;exact pQ hb
theorem jY.block{w w':World}{b:Nat}{f:Int→Option Int}(h:jY w b f)(hb:w'.heap[b]?=w.heap[b]?):jY w' b f:=by
 obtain⟨es,cl,h1,h2⟩:=h;exact⟨es,cl,hb.trans h1,h2⟩
theorem jY.only{w w':World}{b:Nat}{f:Int→Option Int}{S:Nat→Prop}(h:jY w b f)(o:dM S w w')(hs:¬S b):jY w' b f:=h.block (o.block b h.lt hs)
theorem jY.new(w:World):jY (w.alloc (.map #[] 0)) w.heap.size (fun _=>none):=
 ⟨#[],0,yo w _,stamped_empty 0,fun x hx=>by simp at hx,fun k v h=>by cases h⟩
theorem jY.same{w:World}{b:Nat}{f g:Int→Option Int}(h:jY w b f)(e:∀ k,f k=g k):jY w b g:=by
 have:f=g:=funext e
 rwa [←this]
theorem dY(k:Int):IsKey (.int .i64) k:=by simp [IsKey]
section
variable{P:Program}{t kt et:TypeId}{w:World}{b:Nat}{f:Int→Option Int}
theorem jY.lookup(ht:P.underlying t=some (.map kt et))(hk:P.underlying kt=some (.int .i64))(hz:∀ w,(zeroValue et).run P w=.ok (.int .i64 0) w)(h:jY w b f)(k:Int)(ok:Bool):
  (Instr.lookup t (.map (some b)) k ok).run P w=.ok (if ok then .tuple #[.int .i64 ((f k).getD 0),.bool (f k).isSome] else .int .i64 ((f k).getD 0)) w:=abW
noncomputable def tP(P:Program)(t:TypeId)(w:World)(b:Nat)(k v:Int):World:=match (Instr.mapUpdate t (.map (some b)) k v).run P w with
 | .ok _ w'=>w'
 | .halt _ w'=>w'
theorem jY.put(ht:P.underlying t=some (.map kt et))(hk:P.underlying kt=some (.int .i64))(h:jY w b f)(k v:Int):
  (Instr.mapUpdate t (.map (some b)) k v).run P w=.ok () (tP P t w b k v)∧jY (tP P t w b k v) b (fun j=>if j=k then some v else f j)∧dM (fun q=>q=b) w (tP P t w b k v):=by
 obtain⟨es,cl,hb,hs,h1,h2⟩:=h
 have hks:∀ x∈es.toList,IsKey (.int .i64) x.key:=fun x hx=>by
  obtain⟨k',v',e,_⟩:=h1 x hx;rw [e];exact dY k'
 have qV:∀ o',dM (fun q=>q=b) w {w with heap:=w.heap.setIfInBounds b o'}:=fun o'=>
  ⟨rfl,rfl,rfl,S_,fun q _ hq=>(heap_set (o':=o') hb).2 q hq⟩
 rcases findNow_spec (dY k) es.toList 0 hks with ⟨g1,g2⟩ | ⟨j,e,g1,g2,g3⟩
 ·have hrun:(Instr.mapUpdate t (.map (some b)) k v).run P w=.ok () {w with heap:=w.heap.setIfInBounds b (.map (es.push ⟨.int .i64 k,v,cl⟩) (cl+1))}:=S4
  have hput:tP P t w b k v={w with heap:=w.heap.setIfInBounds b (.map (es.push ⟨.int .i64 k,v,cl⟩) (cl+1))}:=by rw [tP,hrun]
  exact abO
 ·have hj:es[j]?=some e:=by simpa using g2
  have hrun:(Instr.mapUpdate t (.map (some b)) k v).run P w=.ok () {w with heap:=w.heap.setIfInBounds b (.map (es.modify j fun e'=>{e' with key:=.int .i64 k,val:=.int .i64 v}) cl)}:=abd;have hput:tP P t w b k v={w with heap:=w.heap.setIfInBounds b (.map (es.modify j fun e'=>{e' with key:=.int .i64 k,val:=.int .i64 v}) cl)}:=by rw [tP,hrun]
  rw [hput];have hkey:∀ e',es[j]?=some e'→({e' with key:=.int .i64 k,val:=.int .i64 v}:MapEntry).key=e'.key:=fun e' he'=>by rw [hj] at he';cases he';exact g3.symm
  have L6:∀ i,(es.modify j fun e'=>{e' with key:=.int .i64 k,val:=.int .i64 v})[i]?=if j=i then some {e with key:=.int .i64 k,val:=.int .i64 v} else es[i]?:=fun i=>by
   rw [Array.getElem?_modify]
   by_cases hji:j=i
   ·subst hji
    simp [hj]
   ·simp [hji]
  refine⟨hrun,⟨_,_,(heap_set hb).1,stamped_modify hs _ _ (fun _ _=>rfl) (fun e' _ he'=>hkey e' he'),fun x hx=>?_,fun k' v' hf=>?_⟩,qV _⟩
  ·exact abS
  ·by_cases hkk:k'=k
   ·simp only [hkk,dL] at hf
    injection hf with hf;refine⟨{e with key:=.int .i64 k,val:=.int .i64 v},nV (i:=j) (by rw [Fo,L6,aY rfl]),by rw [hkk],by rw [hf]⟩
   ·exact abE
end
section
variable{P:Program}{w:World}{ops:Array Oper}{rest:List Oper}{o:Oper}{a:Act}{Q:Exit→Act→World→Prop}
end
end Go.Proofs.YtgbhnihkgmpocaaGreat
namespace Go.Proofs.YtgbhnihkgmpocaaGreat
set_option maxRecDepth 100000
set_option maxHeartbeats 4000000
open Tryz
open Go.RowKit
inductive En where
 | row (v:Value) (e:TypeId) (k n:Nat) (us:List Value)
 | fX (b:Nat) (f:Int→Option Int)
 | obj (b:Nat) (o:Obj)
@[reducible] def ob(b:Nat)(t:TypeId)(cs:List Value):En:=.row (.slice (some ⟨b,0,none⟩) 1 1) t cs.length 1 cs
@[reducible] def dA(g c:Nat)(e:TypeId)(k n:Nat)(us:List Value):En:=.row (.slice (some ⟨g,0,none⟩) n c) e k n us
def En.b:En→Option Nat
 | .row v ..=>v.ownBlock
 | .fX b _=>some b
 | .obj b _=>some b
def En.own(w:World)(base:Nat):En→Prop
 | .row v e k n us=>w.ownsRow base e k v n us
 | .fX b f=>base≤b∧jY w b f
 | .obj b o=>base≤b∧w.heap[b]?=some o
variable{base:Nat}
theorem En.T7{w:World}:∀ {x:En},x.own w base→∀ q,x.b=some q→base≤q∧q<w.heap.size
 | .row ..,h=>World.ownsRow.lt h
 | .fX ..,h=>fun q hq=>by injection hq with hq;subst hq;exact⟨h.1,h.2.lt⟩
 | .obj ..,h=>fun q hq=>by injection hq with hq;subst hq;exact⟨h.1,pQ h.2⟩
theorem En.vm{w w':World}{row:Option Nat}(hg:w.grownBy w' row):∀ {x:En},x.own w base→(x.b=none∨x.b≠row)→x.own w' base
 | .row ..,h,hne=>World.ownsRow.kept h hg hne
 | .fX ..,h,hne=>⟨h.1,h.2.block (hg.block _ h.2.lt (hne.resolve_left (by simp [En.b])))⟩
 | .obj ..,h,hne=>⟨h.1,(hg.block _ (pQ h.2) (hne.resolve_left (by simp [En.b]))).trans h.2⟩
theorem En.nD{w w':World}{S:Nat→Prop}(o:dM S w w'):∀ {x:En},x.own w base→(∀ q,x.b=some q→¬S q)→x.own w' base
 | .row ..,h,hs=>Go.Proofs.YtgbhnihkgmpocaaGreat.nD h o hs
 | .fX ..,h,hs=>⟨h.1,h.2.only o (hs _ rfl)⟩
 | .obj ..,h,hs=>⟨h.1,(o.block _ (pQ h.2) (hs _ rfl)).trans h.2⟩
theorem CJ{w w':World}(e:Ext w w'):w.grownBy w' none:=⟨e.os,e.tape,e.output,e.size,fun k hk _=>e.block k hk⟩
theorem En.own.Ir{w w':World}{x:En}(h:x.own w base)(e:Ext w w'):x.own w' base:=En.vm (CJ e) h (by cases x.b<;>simp)
section
variable{x y z u v x5 x6 x7:En}{H:List En}
theorem aj:x∈x::H:=gq ..
theorem bp:y∈x::y::H:=iA _ aj
theorem iU:z∈x::y::z::H:=iA _ bp
theorem lA:u∈x::y::z::u::H:=iA _ iU
theorem iu:v∈x::y::z::u::v::H:=iA _ lA
theorem oJ:x5∈x::y::z::u::v::x5::H:=iA _ iu
theorem xJ:x6∈x::y::z::u::v::x5::x6::H:=iA _ oJ
theorem tn:x7∈x::y::z::u::v::x5::x6::x7::H:=iA _ xJ
theorem lO{x8:En}:x8∈x::y::z::u::v::x5::x6::x7::x8::H:=iA _ tn
theorem xd{x8 x9:En}:x9∈x::y::z::u::v::x5::x6::x7::x8::x9::H:=iA _ lO
theorem Iy{x8 x9 Oc:En}:Oc∈x::y::z::u::v::x5::x6::x7::x8::x9::Oc::H:=iA _ xd
theorem lB{x8 x9 Oc Ou:En}:Ou∈x::y::z::u::v::x5::x6::x7::x8::x9::Oc::Ou::H:=iA _ Iy
theorem Aj{x8 x9 Oc Ou TA:En}:TA∈x::y::z::u::v::x5::x6::x7::x8::x9::Oc::Ou::TA::H:=iA _ lB
theorem Ei{x8 x9 Oc Ou TA Xq:En}:Xq∈x::y::z::u::v::x5::x6::x7::x8::x9::Oc::Ou::TA::Xq::H:=iA _ Aj
theorem Iw{x8 x9 Oc Ou TA Xq x14:En}:x14∈x::y::z::u::v::x5::x6::x7::x8::x9::Oc::Ou::TA::Xq::x14::H:=iA _ Ei
end
structure Has(w0 w:World)(H:List En):Prop where
 ext:Ext w0 w
 own:∀ x∈H,x.own w w0.heap.size
 apart:(H.filterMap En.b).Nodup
section
variable{w0 w w':World}{H G:List En}{x y z:En}{b g n c k i:Nat}{t e:TypeId}{cs us:List Value}{u:Value}
theorem Has.start(w:World):Has w w []:=⟨bu w,fun x hx=>(by cases hx),List.nodup_nil⟩
theorem Has.next(h:Has w0 w H)(e:Ext w w'):Has w0 w' H:=⟨Ext.next h.ext e,fun x hx=>(h.own x hx).Ir e,h.apart⟩
theorem Has.iD(h:Has w0 w H)(z:aL w):Has w0 z.world H:=h.next z.ok
theorem Has.drew(h:Has w0 w H):Has w0 w.drew H:=h.next (bu w).bh
theorem Has.perm(h:Has w0 w H)(p:H.Perm G):Has w0 w G:=⟨h.ext,fun x hx=>h.own x (p.mem_iff.2 hx),(p.filterMap En.b).nodup_iff.1 h.apart⟩
theorem Has.swap(h:Has w0 w (x::y::H)):Has w0 w (y::x::H):=h.perm (iC _ _ _)
variable{A:List En}
theorem Has.mid(h:Has w0 w (A++x::H)):Has w0 w (x::A++H):=h.perm dV
theorem Has.back(h:Has w0 w (x::A++H)):Has w0 w (A++x::H):=h.perm dV.symm
theorem Has.drop(h:Has w0 w (x::H)):Has w0 w H:=⟨h.ext,fun y hy=>h.own y (iA _ hy),by
 have:=h.apart
 cases hx:x.b with
 | none=>rwa [N7 hx] at this
 | some q=>rw [JM hx] at this;exact(List.nodup_cons.1 this).2⟩
theorem Has.kI(h:Has w0 w (A++H)):Has w0 w H:=by
 induction A with
 | nil=>exact h
 | cons x A ih=>exact ih h.drop
theorem Has.Rs(h:Has w0 w H)(hx:x∈H):∀ q,x.b=some q→w0.heap.size≤q∧q<w.heap.size:=En.T7 (h.own x hx)
theorem Has.new(h:Has w0 w H)(hb:x.b=none)(ho:x.own w w0.heap.size):Has w0 w (x::H):=
 ⟨h.ext,fun y hy=>by
  rcases Bf.1 hy with rfl | hy
  ·exact ho
  ·exact h.own y hy,by rw [N7 hb];exact h.apart⟩
theorem Has.nil(h:Has w0 w H)(e:TypeId)(k:Nat):Has w0 w (.row (.slice none 0 0) e k 0 []::H):=h.new rfl (JG _ _ _ _)
theorem Has.other(h:Has w0 w (x::H))(hb:x.b=some b)(hy:y∈H):y.b≠some b:=fun e=>by
 have:=h.apart;rw [JM hb,List.nodup_cons] at this;exact this.1 (JH.2 ⟨y,hy,e⟩)
theorem Has.cg(h:Has w0 w (x::H)){x':En}(ho:x'.own w' w0.heap.size)(hg:w.grownBy w' x.b)(hb:x'.b=x.b∨x'.b=none∨∃ q,x'.b=some q∧w.heap.size≤q):Has w0 w' (x'::H):=by
 have hkeep:∀ y∈H,y.own w' w0.heap.size:=fun y hy=>En.vm hg (h.own y (iA _ hy)) (by
  cases hx:x.b with
  | none=>cases y.b<;>simp
  | some q=>exact .inr (h.other hx hy))
 refine⟨h.ext.only (dM.qL hg) fun q hq=>(h.Rs (gq ..) q hq.symm).1,fun y hy=>?_,?_⟩
 ·rcases Bf.1 hy with rfl | hy
  ·exact ho
  ·exact hkeep y hy
 ·have hd:=h.drop.apart
  cases hx:x'.b with
  | none=>rwa [N7 hx]
  | some q=>
   rw [JM hx];refine List.nodup_cons.2 ⟨fun hm=>?_,hd⟩;obtain⟨y,hy,hyq⟩:=JH.1 hm
   rcases hb with e | e | ⟨q',e,hq⟩
   ·exact h.other (e.symm.trans hx) hy hyq
   ·rw [hx] at e;cases e
   ·rw [hx] at e
    injection e with e;subst e;have:=(h.drop.Rs hy _ hyq).2;omega
theorem Has.X6(h:Has w0 w (dA g c e k n us::H))(i:Nat)(u:Value):Has w0 (w.setCell ⟨g,i,none⟩ u) (dA g c e k n (us.set i u)::H):=by
 have h1:=World.ownsRow.stored (h.own _ (gq ..)) i u;exact h.cg h1.1 h1.2 (.inl rfl)
theorem Has.put(h:Has w0 w (ob b t cs::H))(i:Nat)(u:Value):Has w0 (w.setCell ⟨b,i,none⟩ u) (ob b t (cs.set i u)::H):=by
 have:=h.X6 i u;unfold ob
 rwa [cW]
theorem Has.alloc(h:Has w0 w H)(cs:Array Value)(t:TypeId):Has w0 (w.alloc (.cells cs t)) (ob w.heap.size t cs.toList::H):=by
 have h1:=(h.nil t cs.size).cg (x':=ob w.heap.size t cs.toList) (w':=w.alloc (.cells cs t)) ?_ (World.grownBy_alloc _ _ _) (.inr (.inr ⟨_,rfl,bZ _⟩))
 ·exact h1
 ·exact World.ownsRow_lit w cs 1 h.ext.size (by unfold maxLen;omega) S_
theorem Has.cut{m:Nat}(h:Has w0 w (dA g c e k n us::H))(hm:m≤n):Has w0 w (dA g c e k m (us.take (m*k))::H):=
 ⟨h.ext,fun y hy=>by
  rcases Bf.1 hy with rfl | hy
  ·exact FN (h.own _ (gq ..)) hm
  ·exact h.own y (iA _ hy),h.apart⟩
theorem Has.ny(h:Has w0 w H)(hm:dA g c e k n us∈H)(hu:us[i]?=some u):∀ z:aL w,z.world.cell? ⟨g,i,none⟩=some u:=fun z=>by
 have h1:World.ownsRow _ _ _ _ _ _ _:=(h.iD z).own _ hm;have hl:=h1.1;have hi:=(fO.1 hu).1;exact(h1.cellAt i (by rw [←hl];exact hi)).trans hu
theorem Has.cell(h:Has w0 w H)(hm:ob b t cs∈H)(hu:cs[i]?=some u):∀ z:aL w,z.world.cell? ⟨b,i,none⟩=some u:=h.ny hm hu
theorem Has.Cb(h:Has w0 w H)(hm:dA g c e k n us∈H)(i:Nat):∀ z:aL w,z.world.frozen? ⟨g,i,none⟩=false:=fun z=>World.ownsRow.frozenAt ((h.iD z).own _ hm) i
theorem Has.free(h:Has w0 w H)(hm:ob b t cs∈H)(i:Nat):∀ z:aL w,z.world.frozen? ⟨b,i,none⟩=false:=h.Cb hm i
theorem Has.lt(h:Has w0 w H)(hm:x∈H)(hb:x.b=some b):∀ z:aL w,b<z.world.heap.size:=fun z=>((h.iD z).Rs hm b hb).2
theorem Has.at_(h:Has w0 w H)(hm:ob b t cs∈H)(hu:cs[i]?=some u):w.cell? ⟨b,i,none⟩=some u:=h.cell hm hu ⟨w,bu w⟩
theorem Has.dW(h:Has w0 w H)(hm:ob b t cs∈H)(i:Nat):w.frozen? ⟨b,i,none⟩=false:=h.free hm i ⟨w,bu w⟩
theorem Has.tu(h:Has w0 w H)(hm:ob b t cs∈H):b<w.heap.size:=h.lt hm rfl ⟨w,bu w⟩
theorem Has.ey(h:Has w0 w H)(hm:dA g c e k n us∈H)(hu:us[i]?=some u):w.cell? ⟨g,i,none⟩=some u:=h.ny hm hu ⟨w,bu w⟩
theorem Has.gL(h:Has w0 w H)(hm:dA g c e k n us∈H)(i:Nat):w.frozen? ⟨g,i,none⟩=false:=h.Cb hm i ⟨w,bu w⟩
theorem Has.D8(h:Has w0 w H)(hm:dA g c e k n us∈H):g<w.heap.size:=h.lt hm rfl ⟨w,bu w⟩
theorem Has.uG(h:Has w0 w H)(hm:ob b t cs∈H):w.heap[b]?=some (.cells cs.toArray t (0,0)):=by
 have h1:World.ownsRow _ _ _ _ _ _ _:=h.own _ hm
 rcases h1.2 with ⟨h',_⟩ | ⟨g',cap',cur,h',_,hg,_,_,hs,ht⟩
 ·cases h'
 ·injection h' with h1 h2 h3
  injection h1 with h1;injection h1 with h1;subst h1 h3;rw [Nat.one_mul] at hs ht;rw [Bj (by rw [Array.length_toList,hs];exact bZ _)] at ht
  show w.heap[b]?=_
  have ht':cs=cur.toList:=ht.symm;subst ht';simpa using hg
theorem Has.zL{x':En}(h:Has w0 w (A++x::H))(ho:x'.own w' w0.heap.size)(hg:w.grownBy w' x.b)(hb:x'.b=x.b∨x'.b=none∨∃ q,x'.b=some q∧w.heap.size≤q):Has w0 w' (A++x'::H):=(h.mid.cg ho hg hb).back
theorem Has.fW(h:Has w0 w (A++ob b t cs::H))(i:Nat)(u:Value):Has w0 (w.setCell ⟨b,i,none⟩ u) (A++ob b t (cs.set i u)::H):=(h.mid.put i u).back
theorem Has.fD(h:Has w0 w (A++dA g c e k n us::H))(i:Nat)(u:Value):Has w0 (w.setCell ⟨g,i,none⟩ u) (A++dA g c e k n (us.set i u)::H):=(h.mid.X6 i u).back
theorem Has.grow{v v':Value}{m:Nat}{us':List Value}(h:Has w0 w (A++.row v e k n us::H))(ho:w'.ownsRow w0.heap.size e k v' m us')(hg:w.grownBy w' v.ownBlock)(hb:v'.ownBlock=v.ownBlock∨∃ q,v'.ownBlock=some q∧w.heap.size≤q):Has w0 w' (A++.row v' e k m us'::H):=
 h.zL (x':=.row v' e k m us') ho hg (hb.imp id .inr)
theorem Has.add{H':List En}{B:Nat}{v:Value}(h:Has w0 w H)(h':Has w0 w' H')(hb:H'.filterMap En.b=H.filterMap En.b)(ho:w'.ownsRow B e k v n us)(hB:w.heap.size≤B):Has w0 w' (.row v e k n us::H'):=by
 have hs:=h.ext.size;refine⟨h'.ext,fun z hz=>?_,?_⟩
 ·rcases Bf.1 hz with rfl | hz
  ·exact ku ho O_
  ·exact h'.own z hz
 ·cases hv:v.ownBlock with
  | none=>rw [N7 (by exact hv)];exact h'.apart
  | some q=>
   rw [JM (by exact hv),List.nodup_cons];refine⟨fun hm=>?_,h'.apart⟩;rw [hb] at hm;obtain⟨y,hy,hq⟩:=JH.1 hm;have h1:=(h.Rs hy q hq).2;have h2:=(ho.lt q hv).1;omega
end
def bY(T R H Re Ca S B:Int):Prop:=1≤T∧T≤16∧1≤R∧R≤16∧3≤H∧H≤8∧1≤Re∧Re≤1024∧0≤Ca∧Ca≤64∧1≤S∧S≤1024∧1≤B∧B≤64
instance (T R H Re Ca S B:Int):Decidable (bY T R H Re Ca S B):=by unfold bY;infer_instance
def cV(R H S B r:Int):Int:=if r=7 then B else if r=8 then R else if r=9 then R*H else if 10≤r∧r≤13 then S else 1
theorem vr(T R H Re Ca S B r:Int)(w:World)(hR:1≤R)(pZ:R≤16)(hH:3≤H)(qg:H≤8):
  cm 126 #[(.agg #[T,R,H,Re,Ca,S,B]),r] w (.int .i64 (cV R H S B r)) fun w'=>Ext w w':=by
 have hm:0≤R*H:=wX O_ O_
 have hm':R*H≤128:=by
  have:=ua pZ qg O_ O_;simpa using this
 go_enter func126,ntmps126;exact SV
theorem Cd(T R H Re Ca S B r:Int)(w:World)(hR:1≤R)(pZ:R≤16)(hH:3≤H)(qg:H≤8):
  cm 134 #[(.agg #[T,R,H,Re,Ca,S,B]),r] w (.int .i64 (cV R H S B r)) fun w'=>Ext w w':=by
 have hm:0≤R*H:=wX O_ O_
 have hm':R*H≤128:=by
  have:=ua pZ qg O_ O_;simpa using this
 go_enter func134,ntmps134;exact SV
theorem lC(R H S B r:Int)(hR:1≤R)(pZ:R≤16)(hH:3≤H)(qg:H≤8)(hS:1≤S)(mP:S≤1024)(hB:1≤B)(xW:B≤64):1≤cV R H S B r∧cV R H S B r≤1024:=by
 have hm:1*3≤R*H:=ua O_ O_ O_ O_;have hm':R*H≤16*8:=ua pZ qg O_ O_;unfold cV
 split
 ·omega
 ·split
  ·omega
  ·split
   ·omega
   ·split<;>omega
theorem C8{w:World}{b:Nat}{t:TypeId}{T R H Re Ca S B:Int}(h:w.heap[b]?=some (.cells #[T,R,H,Re,Ca,S,B] t (0,0))):
  w.cell? ⟨b,0,none⟩=some (.int .i64 T)∧w.cell? ⟨b,1,none⟩=some (.int .i64 R)∧w.cell? ⟨b,2,none⟩=some (.int .i64 H)∧w.cell? ⟨b,3,none⟩=some (.int .i64 Re)∧w.cell? ⟨b,4,none⟩=some (.int .i64 Ca)∧w.cell? ⟨b,5,none⟩=some (.int .i64 S)∧w.cell? ⟨b,6,none⟩=some (.int .i64 B):=
 ⟨cellOf h rfl,cellOf h rfl,cellOf h rfl,cellOf h rfl,cellOf h rfl,cellOf h rfl,cellOf h rfl⟩
def b7(R H S B:Int):Nat→Int
 | 0=>0
 | n+1=>b7 R H S B n+cV R H S B ((n:Int)+1)
theorem jv(R H S B:Int)(hR:1≤R)(pZ:R≤16)(hH:3≤H)(qg:H≤8)(hS:1≤S)(mP:S≤1024)(hB:1≤B)(xW:B≤64):∀ n:Nat,(n:Int)≤b7 R H S B n∧b7 R H S B n≤1024*n
 | 0=>by simp [b7]
 | n+1=>by
  have h1:=jv R H S B hR pZ hH qg hS mP hB xW n;have h2:=lC R H S B ((n:Int)+1) hR pZ hH qg hS mP hB xW;simp only [b7];omega
theorem lJ(T R H Re Ca S B:Int)(n:Nat)(w:World)(hR:1≤R)(pZ:R≤16)(hH:3≤H)(qg:H≤8)(hS:1≤S)(mP:S≤1024)(hB:1≤B)(xW:B≤64)(r:Int)(hr:r=n+1)(hn:n≤20):
  cm 112 #[(.agg #[T,R,H,Re,Ca,S,B]),r] w (.int .i64 (b7 R H S B n)) fun w'=>Ext w w':=by
 have eO:r≤n+1:=O_
 have iF:(n:Int)+1≤r:=O_
 clear hr;go_enter func112,ntmps112;go_wp2
 go_loopw [5,6] (fun s5 s6 wr=>∃ k:Nat,k≤n∧s5=.int .i64 (b7 R H S B k)∧s6=.int .i64 ((k:Int)+1)∧Ext (w.alloc (.cells #[T,R,H,Re,Ca,S,B] 23)) wr) (fun _ s _=>n+1 - (intOf s).toNat)
 case atStart=>exact⟨0,O_,rfl,rfl,bu _⟩
 case round=>
  obtain⟨k,hk,rfl,rfl,he⟩:=hrel;have Mf:=(he.block w.heap.size S_).trans (yo w _);have hb:=jv R H S B hR pZ hH qg hS mP hB xW k;have hm:=lC R H S B ((k:Int)+1) hR pZ hH qg hS mP hB xW;have Bu:Hid (b7 R H S B k+cV R H S B ((k:Int)+1)=b7 R H S B (k+1)):=rfl;obtain⟨c0,c1,c2,c3,c4,c5,c6⟩:=C8 Mf;have He:=aJ he;clear he Mf;generalize hX:b7 R H S B k=X at hb Bu;generalize hY:cV R H S B ((k:Int)+1)=Y at hm Bu
  by_cases hlt:k<n
  ·go_wp2_with fail
   refine un (Cd T R H Re Ca S B _ _ hR pZ hH qg) fun w1 e1=>?_
   rw [hY];have E1:=aJ (Ext.next He.out e1);clear e1;go_wp2
   go_roundw
   case rel=>exact⟨k+1,O_,by rw [←Bu.out],by go_num,E1.out⟩
   case measure=>simp [intOf];omega
  ·obtain rfl:n=k:=O_
   go_wp2;go_ret;exact⟨jV hX.symm,Ext.next ((bu w).alloc (bZ _) _) He.out⟩
structure Cl where
 th:Int
 op:Int
 arg:Int
 dat:Int
 bg:Int
 en:Int
 pt:Int
 ak:Int
 av:Int
structure Ac where
 mv:Int
 th:Int
 kd:Int
 ad:Int
 od:Int
 nw:Int
 sw:Int
structure Sh where
 mv:Int
 th:Int
 sl:Int
 fr:Int
 ag:Int
def Cl.enc(x:Cl):List Value:= [x.th,x.op,x.arg,x.dat,x.bg,x.en,x.pt,x.ak,x.av]
def Ac.enc(x:Ac):List Value:= [x.mv,x.th,x.kd,x.ad,.int .u64 x.od,.int .u64 x.nw,.int .u64 x.sw]
def Sh.enc(x:Sh):List Value:= [x.mv,x.th,x.sl,x.fr,x.ag]
section
variable{α:Type}(enc:α→List Value)(size:Nat)
theorem flat_get(hs:∀ x,(enc x).length=size){xs:List α}{i k:Nat}{x:α}{u:Value}(hx:xs[i]?=some x)(hu:(enc x)[k]?=some u):(xs.flatMap enc)[i*size+k]?=some u:=by
 induction xs generalizing i with
 | nil=>simp at hx
 | cons y ys ih=>
  have hk:k<size:=by rw [←hs x];exact(fO.1 hu).1
  rw [sZ]
  cases i with
  | zero=>
   simp only [ug,Option.some.injEq] at hx;subst hx;rw [Nat.zero_mul,rN,Bk (by rw [hs];exact hk)];exact hu
  | succ i=>
   rw [yw (by rw [hs,Nat.succ_mul];omega),hs,Nat.succ_mul];have:=ih (i:=i) (by simpa using hx)
   rwa [show i*size+size+k - size=i*size+k from O_]
variable{enc size}
end
theorem Cl.size(x:Cl):x.enc.length=9:=rfl
theorem Ac.size(x:Ac):x.enc.length=7:=rfl
theorem Sh.size(x:Sh):x.enc.length=5:=rfl
structure Cf where
 T:Int
 R:Int
 H:Int
 Re:Int
 Ca:Int
 S:Int
 B:Int
def Cf.ad(c:Cf)(r:Nat)(i:Int):Int:=b7 c.R c.H c.S c.B (r - 1)+i
def lk(w:Int):Int:=w % 4294967296 - 1
def Bn(w:Int):Bool:=decide (4294967296≤w)
def pk(s:Int):Int:=s+1
def kZ(s:Int):Int:=s+1+4294967296
def hd(old s:Int):Int:=(old / 4294967296+1) % 4294967296*4294967296+(s+1)
def u64(v:Int):Int:=v % 18446744073709551616
structure PM where
 words:List Int
 log:List Ac
 slots:List (Int×Int)
 aO:List (List Int)
 held:List Int
 lists:List (List Int)
 aG:List Sh
 calls:List Cl
 told:List (Int×Int)
 th:Nat
 now:Int
 cur:Nat
 used:Bool
namespace PM
def w(S:PM)(a:Int):Int:=S.words.getD a.toNat 0
def acc(S:PM)(k a old new dR:Int):PM:={S with used:=true,log:=S.log++ [⟨S.now,S.th,k,a,old,new,dR⟩]}
def load(S:PM)(a:Int):PM:=S.acc 1 a 0 0 (S.w a)
def store(S:PM)(a v:Int):PM:={S.acc 2 a 0 v 0 with words:=S.words.set a.toNat v}
def swap(S:PM)(a old v:Int):PM:={S.acc 3 a old v (S.w a) with words:=if S.w a=old then S.words.set a.toNat v else S.words}
def shift(S:PM)(s ag:Int):PM:={S with slots:=S.slots.set s.toNat (ag,if ag=0∨ag=3 then -1 else S.th),aG:=S.aG++ [⟨S.now,S.th,s,(S.slots.getD s.toNat (0,0)).1,ag⟩]}
def aB(S:PM)(x:Int):PM:={S with calls:=S.calls.modify S.cur fun c=>{c with pt:=x}}
def tell(S:PM)(k v:Int):PM:={S with told:=S.told.set S.th (k,v)}
def cache(S:PM):List Int:=S.aO.getD S.th []
def setCache(S:PM)(l:List Int):PM:={S with aO:=S.aO.set S.th l}
def rc(S:PM):Int:=S.held.getD S.th (-1)
def hold(S:PM)(r:Int):PM:={S with held:=S.held.set S.th r}
def bQ(S:PM)(r:Int):List Int:=S.lists.getD r.toNat []
def aV(S:PM)(r:Int)(l:List Int):PM:={S with lists:=S.lists.set r.toNat l}
def hz(S:PM)(c:Cf)(k:Int):Int:=c.ad 9 (S.rc*c.H+k)
end PM
structure Tk where
 pc:Int
 head:Int
 next:Int
 slot:Int
 taken:Bool
def Tk.new:Tk:=⟨1,0,0,0,false⟩
def Tk.got(k:Tk)(s:Int)(S:PM):Bool×Tk×PM:=(true,{k with slot:=s,taken:=true,pc:=0},S.shift s 2)
def Tk.ready(k:Tk)(S:PM):Bool×Tk×PM:=
 match S.cache.getLast? with
 | none=>(false,k,S)
 | some s=>k.got s (S.setCache S.cache.dropLast)
def Tk.step(c:Cf)(k:Tk)(S:PM):Bool×Tk×PM:=
 if k.pc=1 then
  if lk (S.w (c.ad 1 0))<0 then(true,{k with head:=S.w (c.ad 1 0),pc:=0},S.load (c.ad 1 0))
  else(false,{k with head:=S.w (c.ad 1 0),pc:=2},S.load (c.ad 1 0))
 else if k.pc=2 then(false,{k with next:=S.w (c.ad 10 (lk k.head)),pc:=3},S.load (c.ad 10 (lk k.head)))
 else if S.w (c.ad 1 0)=k.head then k.got (lk k.head) (S.swap (c.ad 1 0) k.head (hd k.head (lk k.next)))
 else(false,{k with pc:=1},S.swap (c.ad 1 0) k.head (hd k.head (lk k.next)))
def Tk.res(k:Tk):Int:=if k.taken then k.slot else -1
structure Pu where
 slot:Int
 pc:Int
 head:Int
def Pu.step(c:Cf)(p:Pu)(S:PM):Bool×Pu×PM:=
 if p.pc=1 then(false,{p with head:=S.w (c.ad 1 0),pc:=2},S.load (c.ad 1 0))
 else if p.pc=2 then(false,{p with pc:=3},S.store (c.ad 10 p.slot) (pk (lk p.head)))
 else if S.w (c.ad 1 0)=p.head then(true,{p with pc:=0},(S.swap (c.ad 1 0) p.head (hd p.head p.slot)).shift p.slot 0)
 else(false,{p with pc:=1},S.swap (c.ad 1 0) p.head (hd p.head p.slot))
def Pu.aU(s:Int):Pu:=⟨s,1,0⟩
def Pu.ready(c:Cf)(p:Pu)(S:PM):Bool×Pu×PM:=
 if c.Ca≤S.cache.length then(false,p,S) else(true,{p with pc:=0},(S.setCache (S.cache++ [p.slot])).shift p.slot 1)
def Pu.dU(p:Pu)(S:PM):Bool×Pu×PM:=
 match S.cache.getLast? with
 | none=>(true,p,S)
 | some s=>(false,{p with slot:=s,pc:=1},S)
def Pu.iW(c:Cf)(p:Pu)(S:PM):Bool×Pu×PM:=
 match p.step c S with
 | (false,p,S)=>(false,p,S)
 | (true,p,S)=>p.dU (S.setCache S.cache.dropLast)
structure Sc where
 rc:Int
 az:Int
 pc:Int
 names:List Int
 pending:List Int
 aU:Option Pu
def Sc.new(r:Int):Sc:=⟨r,6,0,[],[],none⟩
def Sc.next(c:Cf)(s:Sc)(S:PM):Bool×Sc×PM:=
 let n:=if s.pc+1=s.rc then s.pc+2 else s.pc+1
 if n<c.R then(false,{s with pc:=n,az:=0},S)
 else if S.bQ s.rc= [] then(true,{s with pc:=0,names:= [],az:=6},S)
 else(false,{s with pc:=0,names:= [],az:=3},S)
def Sc.ready(c:Cf)(s:Sc)(S:PM):Bool×Sc×PM:=Sc.next c {s with pc:=-1} S
def Sc.free(c:Cf)(s:Sc):List Int→PM→Bool×Sc×PM
 | [],S=>(true,{s with az:=6,pending:= []},S)
 | x::l,S=>match (Pu.aU x).ready c S with
  | (false,p,S)=>(false,{s with az:=5,pending:=l,aU:=some p},S)
  | (true,p,S)=>Sc.free c {s with aU:=some p} l S
def Sc.split(s:Sc)(S:PM):Sc×PM:=
 ({s with pending:=s.pending++(S.bQ s.rc).filter fun x=>!(decide (x∈s.names))},S.aV s.rc ((S.bQ s.rc).filter fun x=>decide (x∈s.names)))
def Sc.step(c:Cf)(s:Sc)(S:PM):Bool×Sc×PM:=
 if s.az=0 then
  if S.w (c.ad 8 s.pc)=1 then s.next c (S.load (c.ad 8 s.pc)) else(false,{s with az:=1},S.load (c.ad 8 s.pc))
 else if s.az=1 then
  if S.w (c.ad 8 s.pc)=0 then(false,{s with az:=2},(((S.swap (c.ad 8 s.pc) 0 1).aV s.rc (S.bQ s.rc++S.bQ s.pc)).aV s.pc []))
  else s.next c (S.swap (c.ad 8 s.pc) 0 1)
 else if s.az=2 then s.next c (S.store (c.ad 8 s.pc) 0)
 else if s.az=3 then
  if s.pc+1<c.R*c.H then(false,{s with names:=s.names++ [lk (S.w (c.ad 9 s.pc))],pc:=s.pc+1},S.load (c.ad 9 s.pc))
  else match Sc.split {s with names:=s.names++ [lk (S.w (c.ad 9 s.pc))],pc:=s.pc+1} (S.load (c.ad 9 s.pc)) with
   | (s,S)=>Sc.free c s s.pending S
 else match s.aU with
  | none=>(true,s,S)
  | some p=>match p.step c S with
   | (false,p,S)=>(false,{s with aU:=some p},S)
   | (true,p,S)=>Sc.free c {s with aU:=some p} s.pending S
structure Rt where
 slot:Int
 scan:Option Sc
def Rt.new(s:Int):Rt:=⟨s,none⟩
def Rt.ready(c:Cf)(r:Rt)(S:PM):Bool×Rt×PM:=
 let S:=(S.shift r.slot 5).aV S.rc (S.bQ S.rc++ [r.slot])
 if(S.bQ S.rc).length<c.Re then(true,r,S)
 else match (Sc.new S.rc).ready c S with
  | (b,s,S)=>(b,{r with scan:=some s},S)
def Rt.step(c:Cf)(r:Rt)(S:PM):Bool×Rt×PM:=
 match r.scan with
 | none=>(true,r,S)
 | some s=>match s.step c S with
  | (b,s,S)=>(b,{r with scan:=some s},S)
structure Rg where
 i:Int
 seen:Bool
def Rg.on(c:Cf)(r:Rg)(S:PM):Bool×Rg×PM:=if r.i+1<c.R then(false,⟨r.i+1,false⟩,S) else(true,⟨r.i+1,false⟩,S.tell 4 0)
def Rg.step(c:Cf)(r:Rg)(S:PM):Bool×Rg×PM:=
 if r.seen then
  if S.w (c.ad 8 r.i)=0 then(true,r,((S.swap (c.ad 8 r.i) 0 1).hold r.i).tell 2 r.i) else r.on c (S.swap (c.ad 8 r.i) 0 1)
 else if S.w (c.ad 8 r.i)=1 then r.on c (S.load (c.ad 8 r.i)) else(false,{r with seen:=true},S.load (c.ad 8 r.i))
structure Ur where
 k:Int
 az:Int
 scan:Option Sc
 flush:Option Pu
def Ur.empty(u:Ur)(S:PM):Bool×Ur×PM:=
 match (Pu.mk 0 0 0).dU S with
 | (b,p,S)=>(false,{u with flush:=some p,az:=if b then 3 else 2},S)
def Ur.step(c:Cf)(u:Ur)(S:PM):Bool×Ur×PM:=
 if u.az=0 then
  let S':=S.store (S.hz c u.k) 0
  if u.k+1<c.H then(false,{u with k:=u.k+1},S')
  else match (Sc.new S'.rc).ready c S' with
   | (false,s,S)=>(false,{u with k:=u.k+1,scan:=some s,az:=1},S)
   | (true,s,S)=>Ur.empty {u with k:=u.k+1,scan:=some s,az:=1} S
 else if u.az=1 then match u.scan with
  | none=>(true,u,S)
  | some s=>match s.step c S with
   | (false,s,S)=>(false,{u with scan:=some s},S)
   | (true,s,S)=>Ur.empty {u with scan:=some s} S
 else if u.az=2 then match u.flush with
  | none=>(true,u,S)
  | some p=>match p.iW c S with
   | (b,p,S)=>(false,{u with flush:=some p,az:=if b then 3 else 2},S)
 else(true,u,(S.store (c.ad 8 S.rc) 0).hold (-1))
structure Po where
 val:Int
 az:Int
 take:Tk
 link:Int
 dR:Int
 ret:Option Rt
def Po.jJ(p:Po)(S:PM):Bool×Po×PM:=if p.take.res<0 then(true,p,(S.aB S.now).tell 4 0) else(false,{p with link:=pk p.take.res,az:=1},S)
def Po.behind(p:Po):Bool×Tk×PM→Bool×Po×PM
 | (false,k,S)=>(false,{p with take:=k},S)
 | (true,k,S)=>Po.jJ {p with take:=k} S
def Po.ready(p:Po)(S:PM):Bool×Po×PM:=p.behind (Tk.new.ready S)
def Po.step(c:Cf)(p:Po)(S:PM):Bool×Po×PM:=
 if p.az=0 then p.behind (p.take.step c S)
 else if p.az=1 then(false,{p with az:=2},S.store (c.ad 11 p.take.res) (u64 p.val))
 else if p.az=2 then(false,{p with dR:=S.w (c.ad 2 0),az:=3},S.load (c.ad 2 0))
 else if p.az=3 then
  if S.w (c.ad 2 0)=p.dR then
   let S1:=(((S.swap (c.ad 2 0) p.dR p.link).aB S.now).tell 1 0).shift p.take.res 3
   if lk p.dR<0 then(true,p,S1)
   else match (Rt.new (lk p.dR)).ready c (S1.shift (lk p.dR) 4) with
    | (b,r,S)=>(b,{p with ret:=some r,az:=4},S)
  else(false,{p with az:=2},S.swap (c.ad 2 0) p.dR p.link)
 else match p.ret with
  | none=>(true,p,S)
  | some r=>match r.step c S with
   | (b,r,S)=>(b,{p with ret:=some r},S)
structure oS where
 addr:Int
 az:Int
 w:Int
 pt:Int
def oS.Hv(r:oS)(v:Int)(S:PM):Bool×oS×PM:=if v=0 then(true,{r with w:=v,az:=1},(S.aB S.now).tell 3 0) else(false,{r with w:=v,az:=1},S)
def oS.step(c:Cf)(r:oS)(S:PM):Bool×oS×PM:=
 if r.az=0 then r.Hv (S.w (c.ad 2 0)) (S.load (c.ad 2 0))
 else if r.az=1 then(false,{r with az:=2},S.store r.addr r.w)
 else if r.az=2 then
  if S.w (c.ad 2 0)=r.w then(false,{r with pt:=S.now,az:=3},S.load (c.ad 2 0)) else r.Hv (S.w (c.ad 2 0)) (S.load (c.ad 2 0))
 else(true,r,((S.load (c.ad 11 (lk r.w))).aB r.pt).tell 2 (wrap64 (S.w (c.ad 11 (lk r.w)))))
structure Ps where
 val:Int
 take:Tk
 slot:Int
 top:Int
 pc:Int
def Ps.taken(p:Ps)(S:PM):Bool×Ps×PM:=if p.take.res<0 then(true,{p with slot:=p.take.res},(S.aB S.now).tell 4 0) else(false,{p with slot:=p.take.res,pc:=1},S)
def Ps.behind(p:Ps):Bool×Tk×PM→Bool×Ps×PM
 | (false,k,S)=>(false,{p with take:=k},S)
 | (true,k,S)=>Ps.taken {p with take:=k} S
def Ps.ready(p:Ps)(S:PM):Bool×Ps×PM:=Ps.behind {p with pc:=0} (p.take.ready S)
def Ps.step(c:Cf)(p:Ps)(S:PM):Bool×Ps×PM:=
 if p.pc=0 then p.behind (p.take.step c S)
 else if p.pc=1 then(false,{p with pc:=2},S.store (c.ad 11 p.slot) (u64 p.val))
 else if p.pc=2 then(false,{p with top:=S.w (c.ad 3 0),pc:=3},S.load (c.ad 3 0))
 else if p.pc=3 then(false,{p with pc:=4},S.store (c.ad 13 p.slot) p.top)
 else if S.w (c.ad 3 0)=p.top then(true,p,(((S.swap (c.ad 3 0) p.top (pk p.slot)).aB S.now).shift p.slot 3).tell 1 0)
 else(false,{p with pc:=2},S.swap (c.ad 3 0) p.top (pk p.slot))
structure Pp where
 top:Int
 behind:Int
 val:Int
 named:Bool
 ret:Option Rt
 pc:Int
def Pp.seen(p:Pp)(S:PM):Bool×Pp×PM:=if 0≤lk p.top then(false,{p with pc:=1},S) else(!p.named,{p with pc:=7},(S.aB S.now).tell 3 0)
def Pp.step(c:Cf)(p:Pp)(S:PM):Bool×Pp×PM:=
 if p.pc=0 then Pp.seen {p with top:=S.w (c.ad 3 0)} (S.load (c.ad 3 0))
 else if p.pc=1 then(false,{p with named:=true,pc:=2},S.store (S.hz c 0) p.top)
 else if p.pc=2 then
  if S.w (c.ad 3 0)=p.top then(false,{p with pc:=3},S.load (c.ad 3 0)) else Pp.seen {p with top:=S.w (c.ad 3 0)} (S.load (c.ad 3 0))
 else if p.pc=3 then(false,{p with behind:=S.w (c.ad 13 (lk p.top)),pc:=4},S.load (c.ad 13 (lk p.top)))
 else if p.pc=4 then
  if S.w (c.ad 3 0)=p.top then(false,{p with pc:=5},((S.swap (c.ad 3 0) p.top p.behind).aB S.now).shift (lk p.top) 4)
  else(false,{p with pc:=0},S.swap (c.ad 3 0) p.top p.behind)
 else if p.pc=5 then(false,{p with val:=wrap64 (S.w (c.ad 11 (lk p.top))),pc:=6},S.load (c.ad 11 (lk p.top)))
 else if p.pc=6 then
  match (Rt.new (lk p.top)).ready c ((S.store (S.hz c 0) 0).tell 2 p.val) with
  | (b,r,S)=>(b,{p with ret:=some r,pc:=8},S)
 else if p.pc=7 then(true,p,S.store (S.hz c 0) 0)
 else match p.ret with
  | none=>(true,p,S)
  | some r=>match r.step c S with
   | (b,r,S)=>(b,{p with ret:=some r},S)
structure gO where
 val:Int
 pc:Int
 take:Tk
 own:Int
 t:Int
 n:Int
 hz:Int
def gO.jJ(p:gO)(S:PM):Bool×gO×PM:=if p.take.res<0 then(true,p,(S.aB S.now).tell 4 0) else(false,{p with own:=pk p.take.res,pc:=1},S)
def gO.behind(p:gO):Bool×Tk×PM→Bool×gO×PM
 | (false,k,S)=>(false,{p with take:=k},S)
 | (true,k,S)=>gO.jJ {p with take:=k} S
def gO.ready(c:Cf)(p:gO)(S:PM):Bool×gO×PM:=gO.behind {p with hz:=S.hz c 0} (Tk.new.ready S)
def gO.step(c:Cf)(p:gO)(S:PM):Bool×gO×PM:=
 if p.pc=0 then p.behind (p.take.step c S)
 else if p.pc=1 then(false,{p with pc:=2},S.store (c.ad 11 p.take.res) (u64 p.val))
 else if p.pc=2 then(false,{p with pc:=3},S.store (c.ad 13 p.take.res) 0)
 else if p.pc=3 then(false,{p with t:=S.w (c.ad 5 0),pc:=4},S.load (c.ad 5 0))
 else if p.pc=4 then(false,{p with pc:=5},S.store p.hz p.t)
 else if p.pc=5 then
  if S.w (c.ad 5 0)=p.t then(false,{p with pc:=6},S.load (c.ad 5 0)) else(false,{p with t:=S.w (c.ad 5 0),pc:=4},S.load (c.ad 5 0))
 else if p.pc=6 then(false,{p with n:=S.w (c.ad 13 (lk p.t)),pc:=if 0≤lk (S.w (c.ad 13 (lk p.t))) then 10 else 7},S.load (c.ad 13 (lk p.t)))
 else if p.pc=7 then
  if S.w (c.ad 13 (lk p.t))=0 then(false,{p with pc:=8},((S.swap (c.ad 13 (lk p.t)) 0 p.own).aB S.now).shift p.take.res 3)
  else(false,{p with pc:=3},S.swap (c.ad 13 (lk p.t)) 0 p.own)
 else if p.pc=8 then(false,{p with pc:=9},S.swap (c.ad 5 0) p.t p.own)
 else if p.pc=9 then(true,p,(S.store p.hz 0).tell 1 0)
 else(false,{p with pc:=3},S.swap (c.ad 5 0) p.t p.n)
structure Dq where
 pc:Int
 h0:Int
 t:Int
 n:Int
 val:Int
 got:Bool
 yY:Int
 II:Int
 dD:Int
 ret:Option Rt
def Dq.ready(c:Cf)(g:Dq)(S:PM):Bool×Dq×PM:=(false,{g with yY:=S.hz c 0,II:=S.hz c 1,pc:=1},S)
def Dq.same(c:Cf)(g:Dq)(next:Int)(S:PM):Bool×Dq×PM:=
 if S.w (c.ad 4 0)=g.h0 then(false,{g with pc:=next},S.load (c.ad 4 0)) else(false,{g with pc:=2,h0:=S.w (c.ad 4 0)},S.load (c.ad 4 0))
def Dq.step(c:Cf)(g:Dq)(S:PM):Bool×Dq×PM:=
 if g.pc=1 then(false,{g with h0:=S.w (c.ad 4 0),pc:=2},S.load (c.ad 4 0))
 else if g.pc=2 then(false,{g with pc:=3},S.store g.yY g.h0)
 else if g.pc=3 then g.same c 4 S
 else if g.pc=4 then(false,{g with t:=S.w (c.ad 5 0),pc:=5},S.load (c.ad 5 0))
 else if g.pc=5 then
  if lk (S.w (c.ad 13 (lk g.h0)))<0 then(false,{g with n:=S.w (c.ad 13 (lk g.h0)),pc:=11},((S.load (c.ad 13 (lk g.h0))).aB S.now).tell 3 0)
  else(false,{g with n:=S.w (c.ad 13 (lk g.h0)),pc:=6},S.load (c.ad 13 (lk g.h0)))
 else if g.pc=6 then(false,{g with pc:=7},S.store g.II g.n)
 else if g.pc=7 then g.same c (if g.h0=g.t then 8 else 9) S
 else if g.pc=8 then(false,{g with pc:=1},S.swap (c.ad 5 0) g.t g.n)
 else if g.pc=9 then(false,{g with val:=wrap64 (S.w (c.ad 11 (lk g.n))),pc:=10},S.load (c.ad 11 (lk g.n)))
 else if g.pc=10 then
  if S.w (c.ad 4 0)=g.h0 then(false,{g with got:=true,pc:=11},((S.swap (c.ad 4 0) g.h0 g.n).aB S.now).shift (lk g.h0) 4)
  else(false,{g with pc:=1},S.swap (c.ad 4 0) g.h0 g.n)
 else if g.pc=11 then
  let S':=S.store (if g.dD=0 then g.yY else g.II) 0
  if g.dD+1<2 then(false,{g with dD:=g.dD+1},S')
  else if g.got then match (Rt.new (lk g.h0)).ready c (S'.tell 2 g.val) with
   | (b,r,S)=>(b,{g with dD:=g.dD+1,ret:=some r,pc:=12},S)
  else(true,{g with dD:=g.dD+1},S')
 else match g.ret with
  | none=>(true,g,S)
  | some r=>match r.step c S with
   | (b,r,S)=>(b,{g with ret:=some r},S)
structure Fi where
 root:Int
 key:Int
 pc:Int
 p:Int
 w:Int
 cur:Int
 x:Int
 k:Int
 looked:Int
 ret:Option Rt
 found:Bool
 pt:Int
 done:Bool
def Fi.new(root key:Int):Fi:=⟨root,key,1,0,0,0,0,0,0,none,false,0,false⟩
def bare(w:Int):Int:=pk (lk w)
def Fi.fin(f:Fi)(found:Bool)(pt:Int)(S:PM):Bool×Fi×PM:=(true,{f with found:=found,pt:=pt,done:=true,pc:=0},S)
def Fi.out(f:Fi)(S:PM):Bool×Fi×PM:=
 let f:={f with w:=bare f.x,cur:=lk (bare f.x)}
 if f.cur<0 then f.fin false f.looked S else(false,{f with pc:=12},S)
def Fi.decide(c:Cf)(f:Fi)(S:PM):Bool×Fi×PM:=
 let S':=S.load f.p
 if S.w f.p≠f.w then(false,{f with pc:=1},S')
 else if Bn f.x then(false,{f with pc:=11},S')
 else if f.k=f.key then f.fin true f.looked S'
 else if f.key<f.k then f.fin false S.now S'
 else if lk f.x<0 then Fi.fin {f with p:=c.ad 13 f.cur,w:=f.x,cur:=-1} false f.looked S'
 else(false,{f with p:=c.ad 13 f.cur,w:=f.x,pc:=9},S')
def Fi.step(c:Cf)(f:Fi)(S:PM):Bool×Fi×PM:=
 if f.pc=1 then
  let f:={f with p:=f.root,w:=S.w f.root,cur:=lk (S.w f.root),pc:=2}
  if f.cur<0 then f.fin false S.now (S.load f.root) else(false,f,S.load f.root)
 else if f.pc=2 then(false,{f with pc:=3},S.store (S.hz c 1) f.w)
 else if f.pc=3 then(false,{f with pc:=if S.w f.p=f.w then 4 else 1},S.load f.p)
 else if f.pc=4 then(false,{f with x:=S.w (c.ad 13 f.cur),pc:=5},S.load (c.ad 13 f.cur))
 else if f.pc=5 then(false,{f with pc:=6},S.store (S.hz c 0) (bare f.x))
 else if f.pc=6 then(false,{f with looked:=S.now,pc:=if S.w (c.ad 13 f.cur)=f.x then 7 else 1},S.load (c.ad 13 f.cur))
 else if f.pc=7 then(false,{f with k:=wrap64 (S.w (c.ad 11 f.cur)),pc:=8},S.load (c.ad 11 f.cur))
 else if f.pc=8 then f.decide c S
 else if f.pc=9 then(false,{f with pc:=10},S.store (S.hz c 2) (pk f.cur))
 else if f.pc=10∨f.pc=12 then(false,{f with cur:=lk f.x,pc:=4},S.store (S.hz c 1) (bare f.x))
 else if f.pc=11 then
  if S.w f.p=f.w then match (Rt.new f.cur).ready c ((S.swap f.p f.w (bare f.x)).shift f.cur 4) with
   | (false,r,S')=>(false,{f with looked:=S.now,ret:=some r,pc:=13},S')
   | (true,r,S')=>Fi.out {f with looked:=S.now,ret:=some r,pc:=13} S'
  else(false,{f with pc:=1},S.swap f.p f.w (bare f.x))
 else match f.ret with
  | none=>(true,f,S)
  | some r=>match r.step c S with
   | (false,r,S)=>(false,{f with ret:=some r},S)
   | (true,r,S)=>Fi.out {f with ret:=some r} S
def gu(c:Cf)(k:Int)(S:PM):Bool×Int×PM:=(decide (k+1=3),k+1,S.store (S.hz c k) 0)
structure Wk where
 f:Fi
 lv:Int
 az:Int
 cj:Int
 full:Int
def Wk.new(root key:Int):Wk:=⟨Fi.new root key,0,0,0,-1⟩
def Wk.anew(w:Wk)(az:Int)(S:PM):Bool×Wk×PM:=(false,{w with f:=Fi.new w.f.root w.f.key,az:=az},S)
def Wk.jk(w:Wk)(kind:Int)(S:PM):Bool×Wk×PM:=(false,{w with cj:=kind,lv:=0,az:=11},S)
def Wk.left(c:Cf)(w:Wk)(S:PM):Bool×Wk×PM:=
 match gu c w.lv S with
 | (false,k,S)=>(false,{w with lv:=k},S)
 | (true,k,S)=>(true,{w with lv:=k},(if 0≤w.full then S.aB w.full else S).tell w.cj 0)
def Wk.iY(c:Cf)(w:Wk)(S:PM):Bool×Wk×PM:=
 if w.az=11 then w.left c S
 else match w.f.step c S with
  | (false,f,S)=>(false,{w with f:=f},S)
  | (true,f,S)=>Wk.jk {w with f:=f} (if f.found then 5 else 6) (S.aB f.pt)
structure De where
 wk:Wk
 part:Option Rt
def De.lift(d:De):Bool×Wk×PM→Bool×De×PM
 | (b,w,S)=>(b,{d with wk:=w},S)
def De.step(c:Cf)(d:De)(S:PM):Bool×De×PM:=
 if d.wk.az=0 then match d.wk.f.step c S with
  | (false,f,S)=>(false,{d with wk:={d.wk with f:=f}},S)
  | (true,f,S)=>if f.found then(false,{d with wk:={d.wk with f:=f,az:=7}},S) else d.lift (Wk.jk {d.wk with f:=f} 6 (S.aB f.pt))
 else if d.wk.az=7 then
  let S':=S.swap (c.ad 13 d.wk.f.cur) d.wk.f.x (kZ (lk d.wk.f.x))
  if S.w (c.ad 13 d.wk.f.cur)=d.wk.f.x then(false,{d with wk:={d.wk with az:=8}},S'.aB S.now) else d.lift (d.wk.anew 0 S')
 else if d.wk.az=8 then
  let S':=S.swap d.wk.f.p d.wk.f.w d.wk.f.x
  if S.w d.wk.f.p=d.wk.f.w then match (Rt.new d.wk.f.cur).ready c (S'.shift d.wk.f.cur 4) with
   | (false,r,S)=>(false,{wk:={d.wk with az:=9},part:=some r},S)
   | (true,r,S)=>De.lift {d with part:=some r} (Wk.jk {d.wk with az:=9} 5 S)
  else d.lift (d.wk.anew 10 S')
 else if d.wk.az=9 then match d.part with
  | none=>(true,d,S)
  | some r=>match r.step c S with
   | (false,r,S)=>(false,{d with part:=some r},S)
   | (true,r,S)=>De.lift {d with part:=some r} (d.wk.jk 5 S)
 else if d.wk.az=10 then match d.wk.f.step c S with
  | (false,f,S)=>(false,{d with wk:={d.wk with f:=f}},S)
  | (true,f,S)=>d.lift (Wk.jk {d.wk with f:=f} 5 S)
 else d.lift (d.wk.left c S)
structure In where
 wk:Wk
 eU:Int
 take:Option Tk
 aU:Option Pu
 slot:Int
def In.lift(d:In):Bool×Wk×PM→Bool×In×PM
 | (b,w,S)=>(b,{d with wk:=w},S)
def In.taken(d:In)(k:Tk)(S:PM):Bool×In×PM:=
 if k.res<0 then In.lift {d with take:=some k,slot:=k.res} (Wk.jk {d.wk with full:=S.now} 4 S)
 else(false,{d with take:=some k,slot:=k.res,wk:={d.wk with az:=2}},S)
def In.iH(d:In):Bool×Tk×PM→Bool×In×PM
 | (false,k,S)=>(false,{d with take:=some k},S)
 | (true,k,S)=>d.taken k S
def In.eo(c:Cf)(d:In)(S:PM):Bool×In×PM:=
 if d.wk.f.found then
  if d.slot<0 then d.lift (d.wk.jk 6 (S.aB d.wk.f.pt))
  else match (Pu.aU d.slot).ready c (S.aB d.wk.f.pt) with
   | (false,p,S)=>(false,{d with aU:=some p,wk:={d.wk with az:=6}},S)
   | (true,p,S)=>In.lift {d with aU:=some p} (Wk.jk {d.wk with az:=6} 6 S)
 else if 0≤d.slot then(false,{d with wk:={d.wk with az:=4}},S)
 else In.iH {d with wk:={d.wk with az:=1}} (Tk.new.ready S)
def In.step(c:Cf)(d:In)(S:PM):Bool×In×PM:=
 if d.wk.az=0 then match d.wk.f.step c S with
  | (false,f,S)=>(false,{d with wk:={d.wk with f:=f}},S)
  | (true,f,S)=>In.eo c {d with wk:={d.wk with f:=f}} S
 else if d.wk.az=1 then match d.take with
  | none=>(true,d,S)
  | some k=>d.iH (k.step c S)
 else if d.wk.az=2 then(false,{d with wk:={d.wk with az:=3}},S.store (c.ad 11 d.slot) (u64 d.wk.f.key))
 else if d.wk.az=3 then(false,{d with wk:={d.wk with az:=4}},S.store (c.ad 12 d.slot) (u64 d.eU))
 else if d.wk.az=4 then(false,{d with wk:={d.wk with az:=5}},S.store (c.ad 13 d.slot) d.wk.f.w)
 else if d.wk.az=5 then
  let S':=S.swap d.wk.f.p d.wk.f.w (pk d.slot)
  if S.w d.wk.f.p=d.wk.f.w then d.lift (d.wk.jk 5 ((S'.aB S.now).shift d.slot 3)) else d.lift (d.wk.anew 0 S')
 else if d.wk.az=6 then match d.aU with
  | none=>(true,d,S)
  | some p=>match p.step c S with
   | (false,p,S)=>(false,{d with aU:=some p},S)
   | (true,p,S)=>In.lift {d with aU:=some p} (d.wk.jk 6 S)
 else d.lift (d.wk.left c S)
structure Tb where
 f:Fi
 root:Int
 key:Int
 az:Int
 slot:Int
 take:Bool
 ret:Option Rt
 lv:Int
def Tb.find(t:Tb)(az:Int)(S:PM):Bool×Tb×PM:=(false,{t with f:=Fi.new t.root t.key,az:=az},S)
def Tb.out(t:Tb)(S:PM):Bool×Tb×PM:=(false,{t with lv:=0,az:=6},S)
def Tb.found(t:Tb)(S:PM):Bool×Tb×PM:=
 let t:={t with slot:=t.f.cur}
 let S:=if t.f.found && t.take then S else S.aB t.f.pt
 if t.f.found then(false,{t with az:=if t.take then 1 else 2},S) else t.out (S.tell 6 0)
def Tb.step(c:Cf)(t:Tb)(S:PM):Bool×Tb×PM:=
 if t.az=0 then match t.f.step c S with
  | (false,f,S)=>(false,{t with f:=f},S)
  | (true,f,S)=>Tb.found {t with f:=f} S
 else if t.az=1 then
  let S':=S.swap (c.ad 13 t.slot) t.f.x (kZ (lk t.f.x))
  if S.w (c.ad 13 t.slot)=t.f.x then(false,{t with az:=2},S'.aB S.now) else t.find 0 S'
 else if t.az=2 then
  let S':=(S.load (c.ad 12 t.slot)).tell 2 (wrap64 (S.w (c.ad 12 t.slot)))
  if t.take then(false,{t with az:=3},S') else t.out S'
 else if t.az=3 then
  let S':=S.swap t.f.p t.f.w t.f.x
  if S.w t.f.p=t.f.w then match (Rt.new t.slot).ready c (S'.shift t.slot 4) with
   | (false,r,S)=>(false,{t with ret:=some r,az:=4},S)
   | (true,r,S)=>Tb.out {t with ret:=some r,az:=4} S
  else t.find 5 S'
 else if t.az=4 then match t.ret with
  | none=>(true,t,S)
  | some r=>match r.step c S with
   | (false,r,S)=>(false,{t with ret:=some r},S)
   | (true,r,S)=>Tb.out {t with ret:=some r} S
 else if t.az=5 then match t.f.step c S with
  | (false,f,S)=>(false,{t with f:=f},S)
  | (true,f,S)=>Tb.out {t with f:=f} S
 else match gu c t.lv S with
  | (b,k,S)=>(b,{t with lv:=k},S)
structure eJ where
 k:Nat
 a:Nat
 b:Nat
 c:Nat
 d:Int
 ag:Nat
 deriving DecidableEq
def eJ.enc(i:eJ):List Value:= [i.k,i.a,i.b,i.c,i.d,i.ag]
structure RT where
 busy:Bool
 call:Nat
 pc:Nat
 R:Nat→Int
 back:List Int
 cache:List Int
 rc:Int
 names:List Int
 pending:List Int
structure RM where
 words:List Int
 T:List RT
 states:List Int
 bS:List Int
 lists:List (List Int)
 au:Int
 calls:List Cl
 trace:List Ac
 aG:List Sh
def cg(R:Nat→Int)(i:Nat)(v:Int):Nat→Int:=fun j=>if j=i then v else R j
def RT.set(t:RT)(i:Nat)(v:Int):RT:={t with R:=cg t.R i v}
def RT.jump(t:RT)(b:Bool)(l:Nat):RT:=if b then{t with pc:=l} else t
def RM.bQ(m:RM)(r:Int):List Int:=m.lists.getD r.toNat []
def RM.aV(m:RM)(r:Int)(l:List Int):RM:={m with lists:=m.lists.set r.toNat l}
def RM.cK(m:RM)(k:Nat)(f:Cl→Cl):RM:={m with calls:=m.calls.modify k f}
def RM.shift(m:RM)(th:Nat)(s ag:Int):RM:=
 {m with aG:=m.aG++ [⟨m.au,th,s,m.states.getD s.toNat 0,ag⟩],states:=m.states.set s.toNat ag,bS:=m.bS.set s.toNat (if ag=0∨ag=3 then -1 else th)}
def loc(c:Cf)(cI:Nat→Nat)(th:Nat)(i:eJ)(m:RM)(t:RT):Option (RM×RT):=
 match i.k with
 | 10=>some (m,t)
 | 11=>some (m,{t with pc:=cI i.ag})
 | 12=>some (m,{t with back:=t.back++ [(t.pc:Int)],pc:=cI i.ag})
 | 13=>match t.back.getLast? with
  | none=>none
  | some x=>some (m,{t with pc:=x.toNat,back:=t.back.dropLast})
 | 14=>some (m.cK t.call fun x=>{x with en:=m.au,ak:=i.d,av:=if i.d=2 then wrap64 (t.R i.a) else x.av},{t with busy:=false})
 | 15=>some (m,t.set i.a (u64 i.d))
 | 16=>some (m,t.set i.a (t.R i.b))
 | 17=>some (m,t.set i.a (u64 (t.R i.b+u64 i.d)))
 | 18=>some (m,t.set i.a (u64 (lk (t.R i.b))))
 | 19=>if -1≤wrap64 (t.R i.b)∧wrap64 (t.R i.b)≤2147483647 then some (m,t.set i.a (pk (wrap64 (t.R i.b)))) else none
 | 20=>some (m,t.set i.a (kZ (lk (t.R i.b))))
 | 21=>some (m,t.set i.a (pk (lk (t.R i.b))))
 | 22=>if -1≤wrap64 (t.R i.c)∧wrap64 (t.R i.c)≤2147483647 then some (m,t.set i.a (hd (t.R i.b) (wrap64 (t.R i.c)))) else none
 | 23=>some (m,t.jump (decide (lk (t.R i.a)<0)) (cI i.ag))
 | 24=>some (m,t.jump (t.R i.a / 4294967296 % 2==1) (cI i.ag))
 | 25=>some (m,t.jump (t.R i.a==t.R i.b) (cI i.ag))
 | 26=>some (m,t.jump (decide (wrap64 (t.R i.a)<wrap64 (t.R i.b))) (cI i.ag))
 | 27=>some (m.cK t.call fun x=>{x with pt:=m.au},t)
 | 28=>some (m.cK t.call fun x=>{x with pt:=wrap64 (t.R i.a)},t)
 | 29=>some (m,t.set i.a m.au)
 | 30=>if 0≤wrap64 (t.R i.a)∧wrap64 (t.R i.a)<c.S then some (m.shift th (wrap64 (t.R i.a)) i.d,t) else none
 | 31=>match t.cache.getLast? with
  | none=>some (m,{t with pc:=cI i.ag})
  | some x=>some (m,{t.set i.a (u64 x) with cache:=t.cache.dropLast})
 | 32=>if c.Ca≤t.cache.length then some (m,{t with pc:=cI i.ag}) else some (m,{t with cache:=t.cache++ [wrap64 (t.R i.a)]})
 | 33=>match t.cache.getLast? with
  | none=>some (m,{t with pc:=cI i.ag})
  | some x=>some (m,t.set i.a (u64 x))
 | 34=>if t.cache= [] then none else some (m,{t with cache:=t.cache.dropLast})
 | 35=>if 0≤t.rc∧t.rc<c.R then some (m.aV t.rc (m.bQ t.rc++ [wrap64 (t.R i.a)]),t) else none
 | 36=>if 0≤t.rc∧t.rc<c.R then some (m,t.jump (decide ((m.bQ t.rc).length<c.Re)) (cI i.ag)) else none
 | 37=>if 0≤t.rc∧t.rc<c.R then some (m,t.jump (decide (m.bQ t.rc= [])) (cI i.ag)) else none
 | 38=>some (m,t.set i.a (u64 t.rc))
 | 39=>if -1≤wrap64 (t.R i.a)∧wrap64 (t.R i.a)<c.R then some (m,{t with rc:=wrap64 (t.R i.a)}) else none
 | 40=>if 0≤t.rc∧t.rc<c.R∧0≤wrap64 (t.R i.a)∧wrap64 (t.R i.a)<c.R then some ((m.aV t.rc (m.bQ t.rc++m.bQ (wrap64 (t.R i.a)))).aV (wrap64 (t.R i.a)) [],t) else none
 | 41=>some (m,{t with names:= []})
 | 42=>some (m,{t with names:=t.names++ [lk (t.R i.a)]})
 | 43=>if 0≤t.rc∧t.rc<c.R then some (m.aV t.rc ((m.bQ t.rc).filter fun x=>decide (x∈t.names)),{t with pending:=(m.bQ t.rc).filter fun x=>!(decide (x∈t.names))}) else none
 | 44=>match t.pending with
  | []=>some (m,{t with pc:=cI i.ag})
  | x::l=>some (m,{t.set i.a (u64 x) with pending:=l})
 | 45=>some (m,t.set i.a (u64 (t.rc*c.H+i.d)))
 | 46=>some (m,t.set i.a (u64 (t.R i.c+c.ad i.b 0)))
 | 47=>some (m,t.set i.a (t.R i.b % c.B))
 | 48=>match m.calls[t.call]? with
  | none=>none
  | some x=>some (m,t.set i.a (u64 x.arg))
 | 49=>match m.calls[t.call]? with
  | none=>none
  | some x=>some (m,t.set i.a (u64 x.dat))
 | 50=>some (m,t.set i.a c.R)
 | 51=>some (m,t.set i.a (c.R*c.H))
 | 52=>some (m,t.set i.a (u64 (t.rc*c.H+wrap64 (t.R i.b))))
 | 53=>some (m,t.jump (decide (wrap64 (t.R i.a)<(t.rc+1)*c.H)) (cI i.ag))
 | _=>none
def J3(c:Cf)(cI:Nat→Nat)(th:Nat)(i:eJ)(m:RM)(t:RT):Option (RM×RT):=
 let a:=wrap64 (t.R i.c)+if i.b=0 then 0 else c.ad i.b 0
 let v:=m.words.getD a.toNat 0
 if 0≤a∧a<m.words.length then
  match i.k with
  | 1=>some ({m with trace:=m.trace++ [⟨m.au,th,1,a,0,0,v⟩]},t.set i.a v)
  | 2=>some ({m with trace:=m.trace++ [⟨m.au,th,2,a,0,t.R i.a,0⟩],words:=m.words.set a.toNat (t.R i.a)},t)
  | 3=>if v=t.R i.a then some ({m with trace:=m.trace++ [⟨m.au,th,3,a,t.R i.a,t.R i.d.toNat,v⟩],words:=m.words.set a.toNat (t.R i.d.toNat)},t)
   else some ({m with trace:=m.trace++ [⟨m.au,th,3,a,t.R i.a,t.R i.d.toNat,v⟩]},{t with pc:=cI i.ag})
  | _=>none
 else none
def tM(c:Cf)(code:List eJ)(cI:Nat→Nat)(th:Nat):Nat→Bool→RM→RT→Option (RM×RT)
 | 0,_,_,_=>none
 | n+1,made,m,t=>
  if t.busy then
   match code[t.pc]? with
   | none=>none
   | some i=>
    if i.k≤3 then
     if made then some (m,t)
     else match J3 c cI th i m {t with pc:=t.pc+1} with
      | none=>none
      | some (m,t)=>tM c code cI th n true m t
    else match loc c cI th i m {t with pc:=t.pc+1} with
     | none=>none
     | some (m,t)=>tM c code cI th n made m t
  else some (m,t)
structure mJ where
 op:Int
 label:Nat
 dP:Int
def RM.may(c:Cf)(m:RM)(t:RT)(th arg dP:Int):Bool:=
 if dP=1 then decide (0≤t.rc)
 else if dP=2 then decide (t.rc<0)
 else if dP=3 then decide (0≤t.rc∧0≤arg∧arg<c.H)
 else if dP=4 then decide (0≤arg∧arg<c.S∧m.states.getD arg.toNat 0=2∧m.bS.getD arg.toNat 0=th)
 else true
def kK:List eJ:= [⟨10,10,0,0,0,0⟩,⟨31,30,0,0,0,15⟩,⟨30,30,0,0,2,0⟩,⟨13,0,0,0,0,0⟩,⟨10,15,0,0,0,0⟩,⟨1,31,1,47,0,0⟩,⟨23,31,0,0,0,16⟩,⟨18,32,31,0,0,0⟩,⟨1,33,10,32,0,0⟩,⟨18,33,33,0,0,0⟩,⟨22,35,31,33,0,0⟩,⟨3,31,1,47,35,15⟩,⟨16,30,32,0,0,0⟩,⟨30,30,0,0,2,0⟩,⟨13,0,0,0,0,0⟩,⟨10,16,0,0,0,0⟩,⟨15,30,0,0,-1,0⟩,⟨13,0,0,0,0,0⟩]
def mm(label:Nat):List eJ:= [⟨10,label,0,0,0,0⟩,⟨1,31,1,47,0,0⟩,⟨18,32,31,0,0,0⟩,⟨19,33,32,0,0,0⟩,⟨2,33,10,34,0,0⟩,⟨22,35,31,34,0,0⟩,⟨3,31,1,47,35,label⟩,⟨30,34,0,0,0,0⟩]
def nM:List eJ:= [⟨10,11,0,0,0,0⟩,⟨32,34,0,0,0,17⟩,⟨30,34,0,0,1,0⟩,⟨13,0,0,0,0,0⟩]++mm 17++ [⟨13,0,0,0,0,0⟩]
def mo:List eJ:= [⟨10,12,0,0,0,0⟩,⟨33,34,0,0,0,19⟩]++mm 18++ [⟨34,0,0,0,0,0⟩,⟨11,0,0,0,0,12⟩,⟨10,19,0,0,0,0⟩,⟨13,0,0,0,0,0⟩]
def rE:List eJ:= [⟨10,20,0,0,0,0⟩,⟨12,0,0,0,0,10⟩,⟨26,30,47,0,0,22⟩,⟨14,30,0,0,2,0⟩,⟨10,22,0,0,0,0⟩,⟨14,0,0,0,4,0⟩,⟨10,21,0,0,0,0⟩,⟨48,34,0,0,0,0⟩,⟨12,0,0,0,0,11⟩,⟨14,0,0,0,1,0⟩,⟨10,23,0,0,0,0⟩,⟨12,0,0,0,0,12⟩,⟨14,0,0,0,1,0⟩]
def wG:List eJ:=kK++nM++mo++rE
def mj:List eJ:= [⟨10,40,0,0,0,0⟩,⟨30,20,0,0,5,0⟩,⟨35,20,0,0,0,0⟩,⟨36,0,0,0,0,42⟩,⟨11,0,0,0,0,41⟩,⟨10,42,0,0,0,0⟩,⟨13,0,0,0,0,0⟩,⟨10,41,0,0,0,0⟩,⟨15,21,0,0,-1,0⟩,⟨50,22,0,0,0,0⟩,⟨38,23,0,0,0,0⟩,⟨15,24,0,0,0,0⟩,⟨15,25,0,0,1,0⟩,⟨10,43,0,0,0,0⟩,⟨17,21,21,0,1,0⟩,⟨25,21,23,0,0,43⟩,⟨26,21,22,0,0,44⟩,⟨11,0,0,0,0,45⟩,⟨10,44,0,0,0,0⟩,⟨1,26,8,21,0,0⟩,⟨25,26,25,0,0,43⟩,⟨3,24,8,21,25,43⟩,⟨40,21,0,0,0,0⟩,⟨2,24,8,21,0,0⟩,⟨11,0,0,0,0,43⟩,⟨10,45,0,0,0,0⟩,⟨37,0,0,0,0,49⟩,⟨41,0,0,0,0,0⟩,⟨51,22,0,0,0,0⟩,⟨15,21,0,0,0,0⟩,⟨10,46,0,0,0,0⟩,⟨26,21,22,0,0,47⟩,⟨11,0,0,0,0,48⟩,⟨10,47,0,0,0,0⟩,⟨1,26,9,21,0,0⟩,⟨42,26,0,0,0,0⟩,⟨17,21,21,0,1,0⟩,⟨11,0,0,0,0,46⟩,⟨10,48,0,0,0,0⟩,⟨43,0,0,0,0,0⟩,⟨10,50,0,0,0,0⟩,⟨44,34,0,0,0,49⟩,⟨12,0,0,0,0,11⟩,⟨11,0,0,0,0,50⟩,⟨10,49,0,0,0,0⟩,⟨13,0,0,0,0,0⟩]
def j8:List eJ:= [⟨10,60,0,0,0,0⟩,⟨15,0,0,0,-1,0⟩,⟨50,1,0,0,0,0⟩,⟨15,2,0,0,0,0⟩,⟨15,3,0,0,1,0⟩,⟨10,61,0,0,0,0⟩,⟨17,0,0,0,1,0⟩,⟨26,0,1,0,0,62⟩,⟨14,0,0,0,4,0⟩,⟨10,62,0,0,0,0⟩,⟨1,4,8,0,0,0⟩,⟨25,4,3,0,0,61⟩,⟨3,2,8,0,3,61⟩,⟨39,0,0,0,0,0⟩,⟨14,0,0,0,2,0⟩,⟨10,63,0,0,0,0⟩,⟨15,2,0,0,0,0⟩,⟨45,0,0,0,0,0⟩,⟨10,64,0,0,0,0⟩,⟨2,2,9,0,0,0⟩,⟨17,0,0,0,1,0⟩,⟨53,0,0,0,0,64⟩,⟨12,0,0,0,0,41⟩,⟨12,0,0,0,0,12⟩,⟨38,0,0,0,0,0⟩,⟨15,2,0,0,0,0⟩,⟨2,2,8,0,0,0⟩,⟨15,0,0,0,-1,0⟩,⟨39,0,0,0,0,0⟩,⟨14,0,0,0,1,0⟩,⟨10,65,0,0,0,0⟩,⟨48,0,0,0,0,0⟩,⟨52,0,0,0,0,0⟩,⟨2,47,9,0,0,0⟩,⟨14,0,0,0,1,0⟩,⟨10,66,0,0,0,0⟩,⟨12,0,0,0,0,41⟩,⟨14,0,0,0,1,0⟩]
def wF:List eJ:= [⟨10,70,0,0,0,0⟩,⟨12,0,0,0,0,10⟩,⟨26,30,47,0,0,71⟩,⟨48,0,0,0,0,0⟩,⟨2,0,11,30,0,0⟩,⟨19,1,30,0,0,0⟩,⟨10,72,0,0,0,0⟩,⟨1,2,2,47,0,0⟩,⟨3,2,2,47,1,72⟩,⟨27,0,0,0,0,0⟩,⟨30,30,0,0,3,0⟩,⟨23,2,0,0,0,73⟩,⟨18,20,2,0,0,0⟩,⟨30,20,0,0,4,0⟩,⟨12,0,0,0,0,40⟩,⟨10,73,0,0,0,0⟩,⟨14,0,0,0,1,0⟩,⟨10,71,0,0,0,0⟩,⟨27,0,0,0,0,0⟩,⟨14,0,0,0,4,0⟩,⟨10,80,0,0,0,0⟩,⟨48,0,0,0,0,0⟩,⟨52,0,0,0,0,0⟩,⟨1,1,2,47,0,0⟩,⟨10,81,0,0,0,0⟩,⟨23,1,0,0,0,83⟩,⟨2,1,9,0,0,0⟩,⟨1,2,2,47,0,0⟩,⟨25,1,2,0,0,82⟩,⟨16,1,2,0,0,0⟩,⟨11,0,0,0,0,81⟩,⟨10,82,0,0,0,0⟩,⟨29,3,0,0,0,0⟩,⟨18,4,1,0,0,0⟩,⟨1,5,11,4,0,0⟩,⟨28,3,0,0,0,0⟩,⟨14,5,0,0,2,0⟩,⟨10,83,0,0,0,0⟩,⟨27,0,0,0,0,0⟩,⟨14,0,0,0,3,0⟩]
def pP:List eJ:=wG++mj++j8++wF
def wE:List eJ:= [⟨10,100,0,0,0,0⟩,⟨12,0,0,0,0,10⟩,⟨26,30,47,0,0,102⟩,⟨16,0,30,0,0,0⟩,⟨48,1,0,0,0,0⟩,⟨19,3,0,0,0,0⟩,⟨2,1,11,0,0,0⟩,⟨10,101,0,0,0,0⟩,⟨1,2,3,47,0,0⟩,⟨2,2,13,0,0,0⟩,⟨3,2,3,47,3,101⟩,⟨27,0,0,0,0,0⟩,⟨30,0,0,0,3,0⟩,⟨14,0,0,0,1,0⟩,⟨10,102,0,0,0,0⟩,⟨27,0,0,0,0,0⟩,⟨14,0,0,0,4,0⟩]
def Dc:List eJ:= [⟨10,110,0,0,0,0⟩,⟨45,4,0,0,0,0⟩,⟨10,111,0,0,0,0⟩,⟨1,2,3,47,0,0⟩,⟨23,2,0,0,0,114⟩,⟨10,112,0,0,0,0⟩,⟨2,2,9,4,0,0⟩,⟨15,5,0,0,1,0⟩,⟨1,6,3,47,0,0⟩,⟨25,6,2,0,0,113⟩,⟨16,2,6,0,0,0⟩,⟨23,2,0,0,0,114⟩,⟨11,0,0,0,0,112⟩,⟨10,113,0,0,0,0⟩,⟨18,7,2,0,0,0⟩,⟨1,8,13,7,0,0⟩,⟨3,2,3,47,8,111⟩,⟨27,0,0,0,0,0⟩,⟨30,7,0,0,4,0⟩,⟨1,9,11,7,0,0⟩,⟨2,47,9,4,0,0⟩,⟨16,20,7,0,0,0⟩,⟨12,0,0,0,0,40⟩,⟨14,9,0,0,2,0⟩,⟨10,114,0,0,0,0⟩,⟨27,0,0,0,0,0⟩,⟨25,5,47,0,0,115⟩,⟨2,47,9,4,0,0⟩,⟨10,115,0,0,0,0⟩,⟨14,0,0,0,3,0⟩]
def Na:List eJ:=wE++Dc
def rD:List eJ:= [⟨10,120,0,0,0,0⟩,⟨12,0,0,0,0,10⟩,⟨26,30,47,0,0,126⟩,⟨48,0,0,0,0,0⟩,⟨45,1,0,0,0,0⟩,⟨19,2,30,0,0,0⟩,⟨2,0,11,30,0,0⟩,⟨2,47,13,30,0,0⟩,⟨10,121,0,0,0,0⟩,⟨1,3,5,47,0,0⟩,⟨10,122,0,0,0,0⟩,⟨2,3,9,1,0,0⟩,⟨1,4,5,47,0,0⟩,⟨25,3,4,0,0,123⟩,⟨16,3,4,0,0,0⟩,⟨11,0,0,0,0,122⟩,⟨10,123,0,0,0,0⟩,⟨18,5,3,0,0,0⟩,⟨1,6,13,5,0,0⟩,⟨23,6,0,0,0,124⟩,⟨3,3,5,47,6,121⟩,⟨11,0,0,0,0,121⟩,⟨10,124,0,0,0,0⟩,⟨3,47,13,5,2,121⟩,⟨27,0,0,0,0,0⟩,⟨30,30,0,0,3,0⟩,⟨3,3,5,47,2,125⟩,⟨10,125,0,0,0,0⟩,⟨2,47,9,1,0,0⟩,⟨14,0,0,0,1,0⟩,⟨10,126,0,0,0,0⟩,⟨27,0,0,0,0,0⟩,⟨14,0,0,0,4,0⟩,⟨10,140,0,0,0,0⟩,⟨45,1,0,0,0,0⟩,⟨45,2,0,0,1,0⟩,⟨10,141,0,0,0,0⟩,⟨1,3,4,47,0,0⟩,⟨10,142,0,0,0,0⟩,⟨2,3,9,1,0,0⟩,⟨1,4,4,47,0,0⟩,⟨25,3,4,0,0,143⟩,⟨16,3,4,0,0,0⟩,⟨11,0,0,0,0,142⟩,⟨10,143,0,0,0,0⟩,⟨1,5,5,47,0,0⟩,⟨18,6,3,0,0,0⟩,⟨1,7,13,6,0,0⟩,⟨23,7,0,0,0,146⟩,⟨2,7,9,2,0,0⟩,⟨1,4,4,47,0,0⟩,⟨25,3,4,0,0,144⟩,⟨16,3,4,0,0,0⟩,⟨11,0,0,0,0,142⟩,⟨10,144,0,0,0,0⟩,⟨25,3,5,0,0,145⟩,⟨18,8,7,0,0,0⟩,⟨1,9,11,8,0,0⟩,⟨3,3,4,47,7,141⟩,⟨27,0,0,0,0,0⟩,⟨30,6,0,0,4,0⟩,⟨2,47,9,1,0,0⟩,⟨2,47,9,2,0,0⟩,⟨16,20,6,0,0,0⟩,⟨12,0,0,0,0,40⟩,⟨14,9,0,0,2,0⟩,⟨10,145,0,0,0,0⟩,⟨3,3,5,47,7,141⟩,⟨11,0,0,0,0,141⟩,⟨10,146,0,0,0,0⟩,⟨27,0,0,0,0,0⟩,⟨2,47,9,1,0,0⟩,⟨2,47,9,2,0,0⟩,⟨14,0,0,0,3,0⟩]
def cY(src k:Nat):List eJ:= [⟨45,8,0,0,k,0⟩,⟨2,src,9,8,0,0⟩]
def kT:List eJ:= [⟨10,150,0,0,0,0⟩,⟨16,2,0,0,0,0⟩,⟨1,3,0,2,0,0⟩,⟨18,4,3,0,0,0⟩,⟨23,3,0,0,0,160⟩]++cY 3 1++ [⟨1,9,0,2,0,0⟩,⟨25,9,3,0,0,161⟩,⟨11,0,0,0,0,150⟩,⟨10,160,0,0,0,0⟩,⟨15,6,0,0,0,0⟩,⟨29,7,0,0,0,0⟩,⟨13,0,0,0,0,0⟩]
def nK:List eJ:= [⟨10,161,0,0,0,0⟩,⟨1,5,13,4,0,0⟩,⟨21,10,5,0,0,0⟩]++cY 10 0++ [⟨1,9,13,4,0,0⟩,⟨25,9,5,0,0,162⟩,⟨11,0,0,0,0,150⟩,⟨10,162,0,0,0,0⟩,⟨29,11,0,0,0,0⟩,⟨1,12,11,4,0,0⟩,⟨1,9,0,2,0,0⟩,⟨25,9,3,0,0,163⟩,⟨11,0,0,0,0,150⟩,⟨10,163,0,0,0,0⟩,⟨24,5,0,0,0,166⟩,⟨26,12,1,0,0,164⟩,⟨25,12,1,0,0,165⟩,⟨15,6,0,0,0,0⟩,⟨29,7,0,0,0,0⟩,⟨13,0,0,0,0,0⟩,⟨10,165,0,0,0,0⟩,⟨15,6,0,0,1,0⟩,⟨16,7,11,0,0,0⟩,⟨13,0,0,0,0,0⟩]
def jo:List eJ:= [⟨10,164,0,0,0,0⟩,⟨46,2,13,4,0,0⟩,⟨16,3,5,0,0,0⟩,⟨19,13,4,0,0,0⟩,⟨23,5,0,0,0,167⟩]++cY 13 2++cY 10 1++ [⟨18,4,10,0,0,0⟩,⟨11,0,0,0,0,161⟩,⟨10,167,0,0,0,0⟩,⟨15,4,0,0,-1,0⟩,⟨15,6,0,0,0,0⟩,⟨16,7,11,0,0,0⟩,⟨13,0,0,0,0,0⟩]
def lH:List eJ:= [⟨10,166,0,0,0,0⟩,⟨3,3,0,2,10,150⟩,⟨29,14,0,0,0,0⟩,⟨30,4,0,0,4,0⟩,⟨16,20,4,0,0,0⟩,⟨12,0,0,0,0,40⟩,⟨16,3,10,0,0,0⟩,⟨18,4,10,0,0,0⟩,⟨23,10,0,0,0,168⟩]++cY 10 1++ [⟨11,0,0,0,0,161⟩,⟨10,168,0,0,0,0⟩,⟨15,6,0,0,0,0⟩,⟨16,7,14,0,0,0⟩,⟨13,0,0,0,0,0⟩]
def oD:List eJ:= [⟨10,151,0,0,0,0⟩]++cY 47 0++cY 47 1++cY 47 2++ [⟨13,0,0,0,0,0⟩]
def lI:List eJ:= [⟨10,152,0,0,0,0⟩,⟨15,17,0,0,-1,0⟩,⟨10,170,0,0,0,0⟩,⟨12,0,0,0,0,150⟩,⟨25,6,47,0,0,171⟩,⟨28,7,0,0,0,0⟩,⟨26,17,47,0,0,172⟩,⟨16,34,17,0,0,0⟩,⟨12,0,0,0,0,11⟩,⟨10,172,0,0,0,0⟩,⟨12,0,0,0,0,151⟩,⟨14,0,0,0,6,0⟩,⟨10,171,0,0,0,0⟩,⟨26,17,47,0,0,173⟩,⟨11,0,0,0,0,174⟩,⟨10,173,0,0,0,0⟩,⟨12,0,0,0,0,10⟩,⟨26,30,47,0,0,175⟩,⟨16,17,30,0,0,0⟩,⟨2,1,11,17,0,0⟩,⟨2,16,12,17,0,0⟩,⟨10,174,0,0,0,0⟩,⟨2,3,13,17,0,0⟩,⟨19,15,17,0,0,0⟩,⟨3,3,0,2,15,170⟩,⟨27,0,0,0,0,0⟩,⟨30,17,0,0,3,0⟩,⟨12,0,0,0,0,151⟩,⟨14,0,0,0,5,0⟩,⟨10,175,0,0,0,0⟩,⟨29,19,0,0,0,0⟩,⟨12,0,0,0,0,151⟩,⟨28,19,0,0,0,0⟩,⟨14,0,0,0,4,0⟩]
def rC:List eJ:= [⟨10,180,0,0,0,0⟩,⟨46,0,6,47,0,0⟩,⟨48,1,0,0,0,0⟩,⟨15,16,0,0,0,0⟩,⟨11,0,0,0,0,152⟩,⟨10,181,0,0,0,0⟩,⟨46,0,6,47,0,0⟩,⟨48,1,0,0,0,0⟩,⟨10,183,0,0,0,0⟩,⟨12,0,0,0,0,150⟩,⟨25,6,47,0,0,186⟩,⟨20,15,5,0,0,0⟩,⟨3,5,13,4,15,183⟩,⟨27,0,0,0,0,0⟩,⟨3,3,0,2,5,185⟩,⟨30,4,0,0,4,0⟩,⟨16,20,4,0,0,0⟩,⟨12,0,0,0,0,40⟩,⟨10,184,0,0,0,0⟩,⟨12,0,0,0,0,151⟩,⟨14,0,0,0,5,0⟩,⟨10,185,0,0,0,0⟩,⟨12,0,0,0,0,150⟩,⟨11,0,0,0,0,184⟩,⟨10,186,0,0,0,0⟩,⟨28,7,0,0,0,0⟩,⟨12,0,0,0,0,151⟩,⟨14,0,0,0,6,0⟩,⟨10,182,0,0,0,0⟩,⟨46,0,6,47,0,0⟩,⟨48,1,0,0,0,0⟩,⟨12,0,0,0,0,150⟩,⟨28,7,0,0,0,0⟩,⟨16,18,6,0,0,0⟩,⟨12,0,0,0,0,151⟩,⟨25,18,47,0,0,187⟩,⟨14,0,0,0,5,0⟩,⟨10,187,0,0,0,0⟩,⟨14,0,0,0,6,0⟩]
def wD:List eJ:=kT++nK++jo++lH++oD++lI++rC
def gz(label:Nat):List eJ:= [⟨10,label,0,0,0,0⟩,⟨48,1,0,0,0,0⟩,⟨47,0,1,0,0,0⟩,⟨46,0,7,0,0,0⟩]
def rB:List eJ:=gz 200++ [⟨49,16,0,0,0,0⟩,⟨11,0,0,0,0,152⟩]++gz 205++ [⟨12,0,0,0,0,150⟩,⟨28,7,0,0,0,0⟩,⟨25,6,47,0,0,206⟩,⟨1,18,12,4,0,0⟩,⟨12,0,0,0,0,151⟩,⟨14,18,0,0,2,0⟩,⟨10,206,0,0,0,0⟩,⟨12,0,0,0,0,151⟩,⟨14,0,0,0,6,0⟩]++gz 210++ [⟨10,211,0,0,0,0⟩,⟨12,0,0,0,0,150⟩,⟨25,6,47,0,0,214⟩,⟨20,19,5,0,0,0⟩,⟨3,5,13,4,19,211⟩,⟨27,0,0,0,0,0⟩,⟨1,18,12,4,0,0⟩,⟨3,3,0,2,5,213⟩,⟨30,4,0,0,4,0⟩,⟨16,20,4,0,0,0⟩,⟨12,0,0,0,0,40⟩,⟨10,212,0,0,0,0⟩,⟨12,0,0,0,0,151⟩,⟨14,18,0,0,2,0⟩,⟨10,213,0,0,0,0⟩,⟨12,0,0,0,0,150⟩,⟨11,0,0,0,0,212⟩,⟨10,214,0,0,0,0⟩,⟨28,7,0,0,0,0⟩,⟨12,0,0,0,0,151⟩,⟨14,0,0,0,6,0⟩]
def aI:List eJ:=pP++wD++rB++Na++rD
def e4:List mJ:= [⟨10,20,0⟩,⟨11,21,4⟩,⟨12,23,0⟩]
def e5:List mJ:= [⟨20,60,2⟩,⟨21,63,1⟩,⟨22,70,1⟩,⟨23,80,3⟩,⟨24,65,3⟩,⟨25,66,1⟩]
def e6:List mJ:= [⟨30,100,1⟩,⟨31,110,1⟩]
def e7:List mJ:= [⟨40,120,1⟩,⟨41,140,1⟩]
def e8:List mJ:= [⟨50,180,1⟩,⟨51,181,1⟩,⟨52,182,1⟩]
def e9:List mJ:= [⟨60,200,1⟩,⟨61,210,1⟩,⟨62,205,1⟩]
def aM:List mJ:=e4++e5++e6++e7++e8++e9
def sF:List eJ→Nat→List Nat→List Nat
 | [],_,l=>l
 | i::is,n,l=>sF is (n+1) (if i.k=10 then(l++List.replicate (i.a+1 - l.length) 0).set i.a n else l)
def bz:List Nat:=sF aI 0 []
def cI:Nat→Nat
 | 10=>0
 | 11=>18
 | 12=>31
 | 15=>4
 | 16=>15
 | 17=>22
 | 18=>33
 | 19=>43
 | 20=>45
 | 21=>51
 | 22=>49
 | 23=>55
 | 40=>58
 | 41=>65
 | 42=>63
 | 43=>71
 | 44=>76
 | 45=>83
 | 46=>88
 | 47=>91
 | 48=>96
 | 49=>102
 | 50=>98
 | 60=>104
 | 61=>109
 | 62=>113
 | 63=>119
 | 64=>122
 | 65=>134
 | 66=>139
 | 70=>142
 | 71=>159
 | 72=>148
 | 73=>157
 | 80=>162
 | 81=>166
 | 82=>173
 | 83=>179
 | 100=>378
 | 101=>385
 | 102=>392
 | 110=>395
 | 111=>397
 | 112=>400
 | 113=>408
 | 114=>419
 | 115=>423
 | 120=>425
 | 121=>433
 | 122=>435
 | 123=>441
 | 124=>447
 | 125=>452
 | 126=>455
 | 140=>458
 | 141=>461
 | 142=>463
 | 143=>469
 | 144=>479
 | 145=>491
 | 146=>494
 | 150=>182
 | 151=>253
 | 152=>261
 | 160=>192
 | 161=>196
 | 162=>204
 | 163=>210
 | 164=>221
 | 165=>217
 | 166=>237
 | 167=>232
 | 168=>249
 | 170=>263
 | 171=>273
 | 172=>270
 | 173=>276
 | 174=>282
 | 175=>290
 | 180=>295
 | 181=>300
 | 182=>323
 | 183=>303
 | 184=>313
 | 185=>316
 | 186=>319
 | 187=>332
 | 200=>334
 | 205=>340
 | 206=>350
 | 210=>353
 | 211=>357
 | 212=>368
 | 213=>371
 | 214=>374
 | _=>0
theorem PO:(aI.all fun i=>bz.getD i.ag 0==cI i.ag)=true:=by decide+kernel
theorem LI:(aI.all fun i=>decide (i.ag<bz.length))=true:=by decide+kernel
theorem Qg:(aM.all fun e=>bz.getD e.label 0==cI e.label && decide (e.label<bz.length))=true:=by decide+kernel
theorem Zj:cI 10=0:=rfl
theorem l11:cI 11=18:=rfl
theorem l12:cI 12=31:=rfl
theorem l15:cI 15=4:=rfl
theorem l16:cI 16=15:=rfl
theorem l17:cI 17=22:=rfl
theorem l18:cI 18=33:=rfl
theorem l19:cI 19=43:=rfl
theorem l22:cI 22=49:=rfl
theorem WV:cI 40=58:=rfl
theorem l41:cI 41=65:=rfl
theorem l42:cI 42=63:=rfl
theorem l43:cI 43=71:=rfl
theorem l44:cI 44=76:=rfl
theorem l45:cI 45=83:=rfl
theorem l46:cI 46=88:=rfl
theorem l47:cI 47=91:=rfl
theorem l48:cI 48=96:=rfl
theorem l49:cI 49=102:=rfl
theorem l50:cI 50=98:=rfl
theorem l61:cI 61=109:=rfl
theorem l62:cI 62=113:=rfl
theorem l64:cI 64=122:=rfl
theorem l71:cI 71=159:=rfl
theorem l72:cI 72=148:=rfl
theorem l73:cI 73=157:=rfl
theorem l81:cI 81=166:=rfl
theorem l82:cI 82=173:=rfl
theorem l83:cI 83=179:=rfl
theorem aeP:cI 101=385:=rfl
theorem aeO:cI 102=392:=rfl
theorem aeM:cI 111=397:=rfl
theorem aeL:cI 112=400:=rfl
theorem aeK:cI 113=408:=rfl
theorem Zi:cI 114=419:=rfl
theorem aeJ:cI 115=423:=rfl
theorem UA:cI 121=433:=rfl
theorem aeH:cI 122=435:=rfl
theorem aeG:cI 123=441:=rfl
theorem aeF:cI 124=447:=rfl
theorem aeE:cI 125=452:=rfl
theorem aeD:cI 126=455:=rfl
theorem Uz:cI 141=461:=rfl
theorem Zh:cI 142=463:=rfl
theorem aeC:cI 143=469:=rfl
theorem aeB:cI 144=479:=rfl
theorem aeA:cI 145=491:=rfl
theorem aez:cI 146=494:=rfl
theorem qQ:cI 150=182:=rfl
theorem xK:cI 151=253:=rfl
theorem Zg:cI 152=261:=rfl
theorem aex:cI 160=192:=rfl
theorem Uy:cI 161=196:=rfl
theorem aew:cI 162=204:=rfl
theorem aev:cI 163=210:=rfl
theorem aeu:cI 164=221:=rfl
theorem aet:cI 165=217:=rfl
theorem aes:cI 166=237:=rfl
theorem aer:cI 167=232:=rfl
theorem aeq:cI 168=249:=rfl
theorem aeo:cI 170=263:=rfl
theorem aen:cI 171=273:=rfl
theorem aem:cI 172=270:=rfl
theorem ael:cI 173=276:=rfl
theorem aek:cI 174=282:=rfl
theorem aej:cI 175=290:=rfl
theorem aei:cI 183=303:=rfl
theorem aeh:cI 184=313:=rfl
theorem aeg:cI 185=316:=rfl
theorem aef:cI 186=319:=rfl
theorem aee:cI 187=332:=rfl
theorem aed:cI 206=350:=rfl
theorem aec:cI 211=357:=rfl
theorem aeb:cI 212=368:=rfl
theorem aea:cI 213=371:=rfl
theorem ad7:cI 214=374:=rfl
theorem We:aI.length=499:=by decide +kernel
theorem cd (n:Nat) (h:Nat.blt n 499=true:=by rfl):aI[n]?=some (aI.getD n ⟨0,0,0,0,0,0⟩):=by
 have h:n<499:=Nat.le_of_ble_eq_true h;rw [kO,fy (by rw [We];exact h)];rfl
inductive Tq where
 | take (k:Tk)
 | aU (p:Pu)
 | flush (p:Pu)
 | gm (r:Rg)
 | unreg (u:Ur)
 | post (p:Po)
 | read (r:oS)
 | clear (a:Int)
 | scan (s:Sc)
 | push (p:Ps)
 | pop (p:Pp)
 | enq (p:gO)
 | deq (g:Dq)
 | con (w:Wk)
 | del (d:De)
 | ins (d:In)
 | tab (t:Tb)
def up{α:Type}(f:α→Tq):Bool×α×PM→Bool×Tq×PM
 | (b,x,S)=>(b,f x,S)
def eP:Bool×Tk×PM→Bool×Tq×PM
 | (false,k,S)=>(false,.take k,S)
 | (true,k,S)=>(true,.take k,if k.res<0 then S.tell 4 0 else S.tell 2 k.res)
def Tq.ready(c:Cf)(q:Tq)(S:PM):Bool×Tq×PM:=
 match q with
 | take k=>eP (k.ready S)
 | aU p=>up .aU (p.ready c S)
 | flush p=>up .flush (p.dU S)
 | post p=>up .post (p.ready S)
 | scan s=>up .scan (s.ready c S)
 | push p=>up .push (p.ready S)
 | pop p=>(false,.pop {p with pc:=0},S)
 | enq p=>up .enq (p.ready c S)
 | deq g=>up .deq (g.ready c S)
 | tab t=>up .tab (t.find 0 S)
 | q=>(false,q,S)
def Tq.step(c:Cf)(q:Tq)(S:PM):Bool×Tq×PM:=
 match q with
 | take k=>eP (k.step c S)
 | aU p=>up .aU (p.step c S)
 | flush p=>up .flush (p.iW c S)
 | gm r=>up .gm (r.step c S)
 | unreg u=>up .unreg (u.step c S)
 | post p=>up .post (p.step c S)
 | read r=>up .read (r.step c S)
 | clear a=>(true,.clear a,S.store a 0)
 | scan s=>up .scan (s.step c S)
 | push p=>up .push (p.step c S)
 | pop p=>up .pop (p.step c S)
 | enq p=>up .enq (p.step c S)
 | deq g=>up .deq (g.step c S)
 | con w=>up .con (w.iY c S)
 | del d=>up .del (d.step c S)
 | ins d=>up .ins (d.step c S)
 | tab t=>up .tab (t.step c S)
structure iQ where
 task:Option Tq
 ready:Bool
 last:Int
structure MM where
 pm:PM
 bI:List iQ
 au:Int
def dh(c:Cf)(S:PM)(op arg dat:Int):Option Tq:=
 if op=10 then some (.take .new)
 else if op=11 then if 0≤arg∧arg<c.S∧S.slots.getD arg.toNat (0,-1)=(2,(S.th:Int)) then some (.aU (.aU arg)) else none
 else if op=12 then some (.flush ⟨0,0,0⟩)
 else if op=20 then if 0≤S.rc then none else some (.gm ⟨0,false⟩)
 else if S.rc<0 then none
 else if op=21 then some (.unreg ⟨0,0,none,none⟩)
 else if op=22 then some (.post ⟨arg,0,.new,0,0,none⟩)
 else if op=23 then if 0≤arg∧arg<c.H then some (.read ⟨S.hz c arg,0,0,0⟩) else none
 else if op=24 then if 0≤arg∧arg<c.H then some (.clear (S.hz c arg)) else none
 else if op=25 then some (.scan (.new S.rc))
 else if op=30 then some (.push ⟨arg,.new,0,0,0⟩)
 else if op=31 then some (.pop ⟨0,0,0,false,none,0⟩)
 else if op=40 then some (.enq ⟨arg,0,.new,0,0,0,0⟩)
 else if op=41 then some (.deq ⟨0,0,0,0,0,false,0,0,0,none⟩)
 else if op=50 then some (.ins ⟨.new (c.ad 6 0) arg,0,none,none,-1⟩)
 else if op=51 then some (.del ⟨.new (c.ad 6 0) arg,none⟩)
 else if op=52 then some (.con (.new (c.ad 6 0) arg))
 else if op=60 then some (.ins ⟨.new (c.ad 7 (u64 arg % c.B)) arg,dat,none,none,-1⟩)
 else if op=61 then some (.tab ⟨.new 0 0,c.ad 7 (u64 arg % c.B),arg,0,0,true,none,0⟩)
 else if op=62 then some (.tab ⟨.new 0 0,c.ad 7 (u64 arg % c.B),arg,0,0,false,none,0⟩)
 else none
structure Mv where
 th:Int
 op:Int
 arg:Int
 dat:Int
def MM.step(c:Cf)(M:MM)(t:Nat)(q:Tq)(s:iQ):MM:=
 let S:={M.pm with th:=t,now:=M.au,cur:=s.last.toNat,used:=false}
 let r:=if s.ready then(false,q,S) else q.ready c S
 let r:=if r.1 then r else r.2.1.step c r.2.2
 if r.1 then{pm:={r.2.2 with calls:=r.2.2.calls.modify s.last.toNat fun x=>{x with en:=M.au,ak:=(r.2.2.told.getD t (0,0)).1,av:=(r.2.2.told.getD t (0,0)).2}},bI:=M.bI.set t ⟨none,true,s.last⟩,au:=M.au+1}
 else{pm:=r.2.2,bI:=M.bI.set t ⟨some r.2.1,true,s.last⟩,au:=M.au+1}
def MM.move(c:Cf)(M:MM)(v:Mv):Bool×MM:=
 if 65536≤M.au then(false,M)
 else if v.th<0∨M.bI.length≤v.th then(false,{M with au:=M.au+1})
 else match M.bI[v.th.toNat]? with
  | none=>(false,M)
  | some s=>match s.task with
   | some q=>if v.op=0 then(true,M.step c v.th.toNat q s) else(false,{M with au:=M.au+1})
   | none=>if v.op=0 then(false,{M with au:=M.au+1}) else
    match dh c {M.pm with th:=v.th.toNat} v.op v.arg v.dat with
    | none=>(false,{M with au:=M.au+1})
    | some q=>(true,{pm:={M.pm with calls:=M.pm.calls++ [⟨v.th,v.op,v.arg,v.dat,M.au,-1,-1,0,0⟩],told:=M.pm.told.set v.th.toNat (1,0)},bI:=M.bI.set v.th.toNat ⟨some q,false,M.pm.calls.length⟩,au:=M.au+1})
def MM.new(c:Cf)(words:List Int):MM:=
 {pm:={words:=words,log:= [],slots:=(List.range c.S.toNat).map fun i=>(if i<1 then 3 else 0,-1),aO:=List.replicate c.T.toNat [],held:=List.replicate c.T.toNat (-1),lists:=List.replicate c.R.toNat [],aG:= [],calls:= [],told:=List.replicate c.T.toNat (0,0),th:=0,now:=0,cur:=0,used:=false},bI:=List.replicate c.T.toNat ⟨none,false,-1⟩,au:=0}
def RT.new:RT:=⟨false,0,0,fun _=>0,[],[],-1,[],[]⟩
def RM.new(c:Cf)(words:List Int):RM:=
 {words:=words,T:=List.replicate c.T.toNat RT.new,states:=(List.range c.S.toNat).map fun i=>if i<1 then 3 else 0,bS:=List.replicate c.S.toNat (-1),lists:=List.replicate c.R.toNat [],au:=0,calls:= [],trace:= [],aG:= []}
def RM.step(c:Cf)(n:Nat)(m:RM)(t:Nat):Option RM:=
 match m.T[t]? with
 | none=>none
 | some x=>match tM c aI cI t n false m x with
  | none=>none
  | some (m,x)=>some {m with T:=m.T.set t x}
def RM.nF(c:Cf)(n:Nat)(m:RM)(v:Mv):Option (Bool×RM):=
 if v.th<0∨m.T.length≤v.th then some (false,m)
 else match m.T[v.th.toNat]? with
  | none=>none
  | some t=>if v.op=0 then(if t.busy then(m.step c n v.th.toNat).map fun m=>(true,m) else some (false,m))
   else if t.busy then some (false,m)
   else match aM.find? fun e=>e.op==v.op && m.may c t v.th v.arg e.dP with
    | none=>some (false,m)
    | some e=>some (true,{m with T:=m.T.set v.th.toNat {t with busy:=true,call:=m.calls.length,pc:=cI e.label,R:=fun _=>0,back:= []},calls:=m.calls++ [⟨v.th,v.op,v.arg,v.dat,m.au,-1,-1,0,0⟩]})
def RM.move(c:Cf)(n:Nat)(m:RM)(v:Mv):Option (Bool×RM):=
 if 65536≤m.au then some (false,m) else(m.nF c n v).map fun x=>(x.1,{x.2 with au:=x.2.au+1})
end Go.Proofs.YtgbhnihkgmpocaaGreat
