/- A part of the proof. -/
import Derived.Test.YtmidbhnhcbpneaaGreatDoorM3
import Derived.Test.YtmidbhnhcbpneaaGreatDoorM8
import Derived.Test.YtmidbhnhcbpneaaGreatDoorM6
import Derived.Lib.IndexLaws
set_option linter.unusedVariables false
set_option linter.unusedSimpArgs false
set_option maxRecDepth 8000
set_option maxHeartbeats 8000000
section
namespace Go.Proofs.YtmidbhnhcbpneaaGreatDoor.Top
open Go Go.RowKit Go.Lt YtmidbhnhcbpneaaGreatDoor.Lit YtmidbhnhcbpneaaGreatDoor.Dec
open YtmidbhnhcbpneaaGreatDoor.Circ (T3 enc3 RdT Sl Cv Ae)
theorem AgX (P:Program) (w:World) (a:Addr) (m:Mode) (f:Fn) (s c:Array Value):(store a (.func f s c) m).run P w=stored P w a (.func f s c) m:=run_store P w a _ m rfl
theorem AmA {W0 W:World} {B n:Nat} (b:Below B W0 W) (h:B<=n) (y0 y1 y2 y3 y4 y5 y6 y7 y8:Value):
  Below B W0 (((((((((W.setCell ⟨n,0,none⟩ y0).setCell ⟨n,1,none⟩ y1).setCell ⟨n,2,none⟩ y2).setCell ⟨n,3,none⟩ y3).setCell ⟨n,4,none⟩ y4).setCell ⟨n,5,none⟩ y5).setCell ⟨n,6,none⟩ y6).setCell ⟨n,7,none⟩ y7).setCell ⟨n,8,none⟩ y8):=
 ((((((((b.setCell (p:=⟨n,0,none⟩) h y0).setCell (p:=⟨n,1,none⟩) h y1).setCell (p:=⟨n,2,none⟩) h y2).setCell (p:=⟨n,3,none⟩) h y3).setCell (p:=⟨n,4,none⟩) h y4).setCell (p:=⟨n,5,none⟩) h y5).setCell (p:=⟨n,6,none⟩) h y6).setCell (p:=⟨n,7,none⟩) h y7).setCell (p:=⟨n,8,none⟩) h y8
theorem ApI (w:World) (c1 c2 c3 c4:Array Value) (t1 t2 t3 t4:TypeId):∃ W,((((w.alloc (.cells c1 t1)).alloc (.cells c2 t2)).alloc (.cells c3 t3)).alloc (.cells c4 t4))=W/\
  Blk W w.heap.size t1 c1/\Blk W (w.heap.size+1) t2 c2/\Blk W (w.heap.size+1+1) t3 c3/\Blk W (w.heap.size+1+1+1) t4 c4/\W.heap.size=w.heap.size+1+1+1+1/\Below w.heap.size w W:=by
 refine⟨_,rfl,?_,?_,?_,?_,by simp,?_⟩
 ·exact(((Blk.new2 rfl).alloc _).alloc _).alloc _
 ·exact((Blk.new2 (by simp)).alloc _).alloc _
 ·exact(Blk.new2 (by simp)).alloc _
 ·exact Blk.new2 (by simp)
 exact((((Below.refl _ w).alloc (Nl _) _).alloc (by simp) _).alloc (by simp;omega) _).alloc (by simp;omega) _
def AfV (h:Hd) (s:ByteArray) (p:Nat) (w:World) (e:Ending) (w':World):Prop:=
 ((∃c v q,Ec h (rest s p)=some (c,rest s q)/\q<=s.size/\Fi w.heap.size w' v c/\v.sym=Ap/\v.com= .empty/\e= .returned (.tuple #[.agg (Ae h.m v),.int .i64 q,.int .i64 0]))∨(Ec h (rest s p)=none/\∃(m':Int) (v':Cv) (a c:Int),c≠0/\e= .returned (.tuple #[.agg (Ae m' v'),.int .i64 a,.int .i64 c])))/\Below w.heap.size w w'
theorem Aja {h:Hd} {s:ByteArray} {p n0 rg co:Nat} {w W7 W:World} {tmps:Array Value} {a c:Int} (hn0:w.heap.size=n0) (hbl:Below n0 w W7) (hwz:n0<=W7.heap.size) (hf:Fr (λq=>q=rg∨q=co) W7 W) (hrg:n0+1+1+1<rg) (hco:n0+1+1+1<co)
  (b1:Blk W7 (n0+1) 31 #[.int .i64 0,.slice none 0 0,.slice none 0 0,.slice none 0 0,.slice none 0 0,.slice none 0 0,.slice none 0 0,.slice none 0 0,.string ⟨#[]⟩]) (b2:Blk W7 (n0+1+1) 3 #[.int .i64 0]) (b3:Blk W7 (n0+1+1+1) 32 #[.int .i64 0]) (hno:Ec h (rest s p)=none) (hc:c≠0)
  (h6:tmps[6]?=some (.pointer (some ⟨n0+1,0,none⟩))) (h7:tmps[7]?=some (.pointer (some ⟨n0+1+1,0,none⟩))) (h8:tmps[8]?=some (.pointer (some ⟨n0+1+1+1,0,none⟩))):Leaves Tryz.prog Tryz.f45 tmps (AfV h s p w) [AhY (n0+1+1) (n0+1+1+1)] (.panicking [{v:=Vn a c,recovered:=false}]) W:=by
 have m:=hf.blk b1 (by omega);refine Yj (by omega) (hf.blk b2 (by omega)) (hf.blk b3 (by omega)) (λS j=>?_);have r:=j.fr.blk m (by omega);have x:=j.ca.cell 0;have y:=j.ce.cell 0;obtain⟨z,D,E,F,I,J,M,N,O⟩:=c9c (r);refine⟨.tuple #[.agg #[.int .i64 0,.slice none 0 0,.slice none 0 0,.slice none 0 0,.slice none 0 0,.slice none 0 0,.slice none 0 0,.slice none 0 0,.string ⟨#[]⟩],.int .i64 a,.int .i64 c],?_,.inr ⟨hno,0,Vj,_,_,hc,rfl⟩,?_⟩
 ·simp[results,Tryz.results45,go_sem,h6,h7,h8,z,D,E,F,I,J,M,N,O,x,y]
 have R:=j.fr.below (B:=n0) (by have:=hf.size;have:=b3.lt;omega) (λk l=>by rcases l with rfl|rfl<;>omega);have h2:=hf.below (B:=n0) (by have:=b3.lt;omega) (λk l=>by rcases l with rfl|rfl<;>omega);rw[hn0]
 exact(hbl.trans h2).trans R
structure Mv (s:ByteArray) (h:Hd) (rg co p:Nat) (v:Cv) (c:Cir) (W7 W:World):Prop where
 le:p<=s.size
 rdr:Rdr W rg s p
 o:Blk W co 31 (Ae h.m v)
 own:Fi W7.heap.size W v c
 fr:Fr (λq=>q=rg∨q=co) W7 W
theorem Bb (w:World) (c:Array Value) (t:TypeId):∃ W,w.alloc (.cells c t)=W/\Blk W w.heap.size t c/\Below w.heap.size w W:=
 ⟨_,rfl,Blk.new2 rfl,(Below.refl _ w).alloc (Nl _) _⟩
theorem Jo {a b c:Nat} (h1:a≠b) (h2:a≠c):¬ (a=b∨a=c):=λh=>h.elim h1 h2
theorem Mv.ins {s:ByteArray} {h:Hd} {rg co q:Nat} {s1:Sl} {li:List Nat} {W7 w1:World} (hq:q<=s.size) (r:Rdr w1 rg s q) (o:Blk w1 co 31 (Ae h.m Vj)) (own:w1.ownsRow W7.heap.size 3 1 (sv s1) h.i (nvs li)) (g:Fr (λq=>q=rg) W7 w1) (hne:rg≠co) (hl:li.length=h.i):
  Mv s h rg co q ⟨s1,Ap,Ap,Ap,Ap,Ap,Ap,.empty⟩ ⟨h.m,li,[],[],[],[],[]⟩ W7 (w1.setCell ⟨co,1,none⟩ (sv s1)):=by
 have j:=(Fr.refl (λq=>q=co) w1).set (p:=⟨co,1,none⟩) rfl (sv s1);refine⟨hq,r.far (p:=⟨co,1,none⟩) hne _,by simpa using o.set_ 1 (sv s1),?_,(Fr.more (S':=λq=>q=rg∨q=co) g (λ_ _ h=> .inl h)).set (p:=⟨co,1,none⟩) (.inr rfl) _⟩;refine Fi.fr (W:=w1) (S:=λq=>q=co) ⟨by rw[hl];exact own,Bd,Bd,Bd,Bd,Bd⟩ j (λk l=> .inr (by subst l;exact⟨31,_,o,by decide,by decide,by decide⟩))
theorem Mv.latch {s:ByteArray} {h:Hd} {rg co q q' k lC:Nat} {lA:Option Addr} {s1:Sl} {li:List Nat} {l:List N3} {x:N3} {W7 wr Wc w6:World} {o:Obj} {v6:Value} (hA:Mv s h rg co q ⟨s1,⟨lA,k,lC⟩,Ap,Ap,Ap,Ap,Ap,.empty⟩ ⟨h.m,li,l,[],[],[],[]⟩ W7 wr)
  (hl:l.length=k) (hc:co<W7.heap.size) (hr:rg<W7.heap.size) (hne:rg≠co) (fw:Fr (λq=>q=rg) wr Wc) (fa:Fr (λq=>q=rg∨q=co) W7 Wc) (hq:q'<=s.size) (r:Rdr Wc rg s q') (hown:w6.ownsRow W7.heap.size 59 3 v6 (k+1) (Iv l++ [.int .i64 (x.a:Nat),.int .i64 (x.b:Nat),.int .i64 (x.c:Nat)]))
  (hb:Below W7.heap.size Wc w6) (hg:(Wc.alloc o).grownBy w6 (sv ⟨lA,k,lC⟩).ownBlock):∃ j:Sl,v6=sv j/\w6.cell? ⟨co,2,none⟩=some (.slice lA k lC)/\w6.frozen? ⟨co,2,none⟩=false/\Mv s h rg co q' ⟨s1,j,Ap,Ap,Ap,Ap,Ap,.empty⟩ ⟨h.m,li,l++ [x],[],[],[],[]⟩ W7 (w6.setCell ⟨co,2,none⟩ (sv j)):=by
 obtain⟨j,rfl,J⟩:=Be hown;have F:=hA.o;have E:=fw.blk F (λe=>hne e.symm);have y:=E.below hb hc;have I:Fi W7.heap.size Wc _ _:=hA.own.fr fw (λk z=> .inr (by subst z;exact⟨106,_,hA.rdr,by decide,by decide,by decide⟩));have D:=I.pushLat hg (s:=j) (x:=x) hl.symm hown;have B:=(Fr.refl (λq=>q=co) w6).set (p:=⟨co,2,none⟩) rfl (sv j);refine⟨j,rfl,y.cell 2,y.frozen 2,hq,(r.below hb hr).far (p:=⟨co,2,none⟩) hne _,by simpa using y.set_ 2 (sv j),?_,(fa.thenB hb).set (p:=⟨co,2,none⟩) (.inr rfl) _⟩;exact Fi.fr D B (λk z=> .inr (by subst z;exact⟨31,_,y,by decide,by decide,by decide⟩))
theorem Df {P:Program} {fn:Func} {R:Ending->World->Prop} {i:Nat} {v:Value} (hr:∀ t:Array Value,results fn (t.setIfInBounds i v)=results fn t):∀ (ds:List Deferred) (u:FrameMode) (w:World) (t:Array Value),Leaves P fn (t.setIfInBounds i v) R ds u w->Leaves P fn t R ds u w
 | [],.returning,w,t,h=>by
  obtain⟨x,l,h2⟩:=h
  exact⟨x,by rw[<-hr t];exact l,h2⟩
 | [],.panicking c,w,t,h=>h
 | [],.run,w,t,h=>h
 |d::ds,u,w,t,h=>by
  obtain⟨q,m,j,f,args,l,h2,p⟩:=h;refine⟨q,m,j,f,args,l,h2,p.mono (λe r y h=>?_)⟩
  cases e with
  |returned x=>exact Df hr ds _ _ _ h
  |panicked c=>exact Df hr ds _ _ _ h
  |outgrown=>exact h
theorem Gd {i:Nat} {v:Value} (t:Array Value) (h6:i≠6) (h7:i≠7) (h8:i≠8):results Tryz.f45 (t.setIfInBounds i v)=results Tryz.f45 t:=by
 simp[results,Tryz.results45,Array.getElem?_setIfInBounds,h6,h7,h8]
theorem Mv.three {s:ByteArray} {h:Hd} {rg co q q':Nat} {s1 s2 a b c:Sl} {li lo lb lc:List Nat} {l:List N3} {W7 wr W:World} (hA:Mv s h rg co q ⟨s1,s2,Ap,Ap,Ap,Ap,Ap,.empty⟩ ⟨h.m,li,l,[],[],[],[]⟩ W7 wr) (hne:rg≠co)
  (fw:Fr (λq=>q=rg) wr W) (fa:Fr (λq=>q=rg∨q=co) W7 W) (r:Rdr W rg s q') (hq:q'<=s.size) (o3:W.ownsRow W7.heap.size 3 1 (sv a) lo.length (nvs lo)) (o7:W.ownsRow W7.heap.size 3 1 (sv b) lb.length (nvs lb)) (o11:W.ownsRow W7.heap.size 3 1 (sv c) lc.length (nvs lc)):
  Mv s h rg co q' ⟨s1,s2,a,b,c,Ap,Ap,.empty⟩ ⟨h.m,li,l,lo,lb,lc,[]⟩ W7 (((W.setCell ⟨co,3,none⟩ (sv a)).setCell ⟨co,4,none⟩ (sv b)).setCell ⟨co,5,none⟩ (sv c)):=by
 have x:=fw.blk hA.o (λe=>hne e.symm);have y:Fi W7.heap.size W _ _:=hA.own.fr fw (λk j=> .inr (by subst j;exact⟨106,_,hA.rdr,by decide,by decide,by decide⟩));have z:=((((Fr.refl (λq=>q=co) W).set (p:=⟨co,3,none⟩) rfl (sv a)).set (p:=⟨co,4,none⟩) rfl (sv b)).set (p:=⟨co,5,none⟩) rfl (sv c));refine⟨hq,((r.far (p:=⟨co,3,none⟩) hne _).far (p:=⟨co,4,none⟩) hne _).far (p:=⟨co,5,none⟩) hne _,?_,?_,((fa.set (p:=⟨co,3,none⟩) (.inr rfl) _).set (p:=⟨co,4,none⟩) (.inr rfl) _).set (p:=⟨co,5,none⟩) (.inr rfl) _⟩
 ·have:=((x.set_ 3 (sv a)).set_ 4 (sv b)).set_ 5 (sv c)
  simpa using this
 exact Fi.fr (v:=⟨s1,s2,a,b,c,Ap,Ap,.empty⟩) (c:=⟨h.m,li,l,lo,lb,lc,[]⟩) ⟨y.ins,y.lat,o3,o7,o11,Bd⟩ z (λk j=> .inr (by subst j;exact⟨31,_,x,by decide,by decide,by decide⟩))
theorem Mv.gate {s:ByteArray} {h:Hd} {rg co q q' k lC:Nat} {lA:Option Addr} {s1 s2 sa sb sc:Sl} {li lo lb lc:List Nat} {ll l:List N3} {x:N3} {W7 wr Wc w6:World} {o:Obj} {v6:Value} (hA:Mv s h rg co q ⟨s1,s2,sa,sb,sc,⟨lA,k,lC⟩,Ap,.empty⟩ ⟨h.m,li,ll,lo,lb,lc,l⟩ W7 wr)
  (hl:l.length=k) (hc:co<W7.heap.size) (hr:rg<W7.heap.size) (hne:rg≠co) (fw:Fr (λq=>q=rg) wr Wc) (fa:Fr (λq=>q=rg∨q=co) W7 Wc) (hq:q'<=s.size) (r:Rdr Wc rg s q') (hown:w6.ownsRow W7.heap.size 62 3 v6 (k+1) (Iv l++ [.int .i64 (x.a:Nat),.int .i64 (x.b:Nat),.int .i64 (x.c:Nat)]))
  (hb:Below W7.heap.size Wc w6) (hg:(Wc.alloc o).grownBy w6 (sv ⟨lA,k,lC⟩).ownBlock):∃ j:Sl,v6=sv j/\w6.cell? ⟨co,6,none⟩=some (.slice lA k lC)/\w6.frozen? ⟨co,6,none⟩=false/\Mv s h rg co q' ⟨s1,s2,sa,sb,sc,j,Ap,.empty⟩ ⟨h.m,li,ll,lo,lb,lc,l++ [x]⟩ W7 (w6.setCell ⟨co,6,none⟩ (sv j)):=by
 obtain⟨j,rfl,J⟩:=Be hown;have F:=hA.o;have E:=fw.blk F (λe=>hne e.symm);have y:=E.below hb hc;have I:Fi W7.heap.size Wc _ _:=hA.own.fr fw (λk z=> .inr (by subst z;exact⟨106,_,hA.rdr,by decide,by decide,by decide⟩));have D:=I.pushGat hg (s:=j) (x:=x) hl.symm hown;have B:=(Fr.refl (λq=>q=co) w6).set (p:=⟨co,6,none⟩) rfl (sv j);refine⟨j,rfl,y.cell 6,y.frozen 6,hq,(r.below hb hr).far (p:=⟨co,6,none⟩) hne _,by simpa using y.set_ 6 (sv j),?_,(fa.thenB hb).set (p:=⟨co,6,none⟩) (.inr rfl) _⟩;exact Fi.fr D B (λk z=> .inr (by subst z;exact⟨31,_,y,by decide,by decide,by decide⟩))
def Aql (s:ByteArray) (h:Hd) (rg co q5:Nat) (s1 s2 sa sb sc:Sl) (li lo lb lc:List Nat) (ll:List N3) (W7:World) (k:Nat) (W:World):Prop:=
 ∃l q sl,Gl (Mf (2*h.m+1)) (rest s q5) k l (rest s q)/\Mv s h rg co q ⟨s1,s2,sa,sb,sc,sl,Ap,.empty⟩ ⟨h.m,li,ll,lo,lb,lc,l⟩ W7 W
theorem AdY {s:ByteArray} {rg p base n:Nat} {v:Value} {xs:List Value} {a b:World} (g:Fr (λq=>q=rg) a b) (r:Rdr a rg s p) (ho:a.ownsRow base 3 1 v n xs):b.ownsRow base 3 1 v n xs:=
 g.own ho (λk j e=>Ba ho r (by decide) (by rw[j,<-e]))
theorem AmD {n0:Nat} {W:World} {x0 x1 x2 x3 x4 x5 x6 x7 x8 xa xc:Value} (b1:Blk W (n0+1) 31 #[x0,x1,x2,x3,x4,x5,x6,x7,x8]) (b2:Blk W (n0+1+1) 3 #[xa]) (b3:Blk W (n0+1+1+1) 32 #[xc]) (m:Int) (v:Cv) (a c:Int) {W9:World}
  (hW:W9=((((((((((W.setCell ⟨n0+1,0,none⟩ (.int .i64 m)).setCell ⟨n0+1,1,none⟩ (sv v.ins)).setCell ⟨n0+1,2,none⟩ (sv v.lat)).setCell ⟨n0+1,3,none⟩ (sv v.outs)).setCell ⟨n0+1,4,none⟩ (sv v.bads)).setCell ⟨n0+1,5,none⟩ (sv v.cons)).setCell ⟨n0+1,6,none⟩ (sv v.gat)).setCell ⟨n0+1,7,none⟩ (sv v.sym)).setCell ⟨n0+1,8,none⟩ (.string v.com)).setCell ⟨n0+1+1,0,none⟩ (.int .i64 a)).setCell ⟨n0+1+1+1,0,none⟩ (.int .i64 c)):
  Blk W9 (n0+1) 31 (Ae m v)/\Blk W9 (n0+1+1) 3 #[.int .i64 a]/\Blk W9 (n0+1+1+1) 32 #[.int .i64 c]/\Fr (λq=>q=n0+1∨q=n0+1+1∨q=n0+1+1+1) W W9:=by
 subst hW
 exact⟨((Xj b1 _ _ _ _ _ _ _ _ _).far (p:=⟨n0+1+1,0,none⟩) (show n0+1≠n0+1+1 by omega) _).far (p:=⟨n0+1+1+1,0,none⟩) (show n0+1≠n0+1+1+1 by omega) _,
  ((AiY b2 (by omega) _ _ _ _ _ _ _ _ _).set_ 0 _).far (p:=⟨n0+1+1+1,0,none⟩) (show n0+1+1≠n0+1+1+1 by omega) _,
  ((AiY b3 (by omega) _ _ _ _ _ _ _ _ _).far (p:=⟨n0+1+1,0,none⟩) (show n0+1+1+1≠n0+1+1 by omega) _).set_ 0 _,
  ((fr9 (Fr.refl (λq=>q=n0+1∨q=n0+1+1∨q=n0+1+1+1) W) (.inl rfl) _ _ _ _ _ _ _ _ _).set (p:=⟨n0+1+1,0,none⟩) (.inr (.inl rfl)) _).set (p:=⟨n0+1+1+1,0,none⟩) (.inr (.inr rfl)) _⟩
theorem Alp {n0:Nat} {W:World} {tmps:Array Value} {m:Int} {v:Cv} {a c:Int} (b1:Blk W (n0+1) 31 (Ae m v)) (b2:Blk W (n0+1+1) 3 #[.int .i64 a]) (b3:Blk W (n0+1+1+1) 32 #[.int .i64 c])
  (h6:tmps[6]?=some (.pointer (some ⟨n0+1,0,none⟩))) (h7:tmps[7]?=some (.pointer (some ⟨n0+1+1,0,none⟩))) (h8:tmps[8]?=some (.pointer (some ⟨n0+1+1+1,0,none⟩))):
  (results Tryz.f45 tmps).run Tryz.prog W= .ok (.tuple #[.agg (Ae m v),.int .i64 a,.int .i64 c]) W:=by
 have j:=b2.cell 0;have l:=b3.cell 0;obtain⟨p,q,r,x,y,z,h,B,D⟩:=c9c (b1);simp[results,Tryz.results45,go_sem,h6,h7,h8,p,q,r,x,y,z,h,B,D,j,l]
theorem Mv.end_ {s:ByteArray} {h:Hd} {p rg co q n0:Nat} {v:Cv} {c:Cir} {w W7 W W9:World} {tmps:Array Value} (hA:Mv s h rg co q v c W7 W) (hn0:w.heap.size=n0) (hbl:Below n0 w W7) (hz:n0+1+1+1<W7.heap.size) (nrg:n0+1+1+1<rg) (nco:n0+1+1+1<co) (hs:v.sym=Ap) (hcm:v.com= .empty) (hall:Ec h (rest s p)=some (c,rest s q))
  (b1:Blk W9 (n0+1) 31 (Ae h.m v)) (b2:Blk W9 (n0+1+1) 3 #[.int .i64 q]) (b3:Blk W9 (n0+1+1+1) 32 #[.int .i64 0]) (hf:Fr (λq=>q=n0+1∨q=n0+1+1∨q=n0+1+1+1) W W9)
  (h6:tmps[6]?=some (.pointer (some ⟨n0+1,0,none⟩))) (h7:tmps[7]?=some (.pointer (some ⟨n0+1+1,0,none⟩))) (h8:tmps[8]?=some (.pointer (some ⟨n0+1+1+1,0,none⟩))):∃ x,(results Tryz.f45 tmps).run Tryz.prog W9= .ok x W9/\AfV h s p w (.returned x) W9:=by
 refine⟨_,Alp b1 b2 b3 h6 h7 h8,.inl ⟨c,v,q,hall,hA.le,?_,hs,hcm,rfl⟩,?_⟩
 ·exact(hA.own.fr hf (λk j=> .inl (by rcases j with rfl|rfl|rfl<;>omega))).base (by omega)
 have l:=hA.fr.below (B:=n0) (by omega) (λk j=>by rcases j with rfl|rfl<;>omega);have h2:=hf.below (B:=n0) (by have:=hA.fr.size;omega) (λk j=>by rcases j with rfl|rfl|rfl<;>omega);rw[hn0]
 exact(hbl.trans l).trans h2
def ApT (s:ByteArray) (h:Hd) (rg co q1:Nat) (s1:Sl) (li:List Nat) (W7:World) (k:Nat) (W:World):Prop:=
 ∃l q sl,Gl (Eh (2*h.m+1)) (rest s q1) k l (rest s q)/\Mv s h rg co q ⟨s1,sl,Ap,Ap,Ap,Ap,Ap,.empty⟩ ⟨h.m,li,l,[],[],[],[]⟩ W7 W
theorem AfZ (h:Hd) (s:ByteArray) (p:Nat) (w:World) (hp:p<=s.size) (hs:s.size<=2000000) (ht:Nq h):
  Calls Tryz.prog 45 #[.string s,.int .i64 p,.agg (Bt h)] w (AfV h s p w):=by
 have eK:=Ab (ApI w (Bt h) #[.int .i64 0,.slice none 0 0,.slice none 0 0,.slice none 0 0,.slice none 0 0,.slice none 0 0,.slice none 0 0,.slice none 0 0,.string ⟨#[]⟩] #[.int .i64 0] #[.int .i64 0] 47 31 3 32)
 have i1:¬ (p:Int)<0:=by omega
 have i2:¬ (p:Int)>s.size:=by omega
 go_enter_defers Tryz.func45,Tryz.ntmps45
 go_upto_region 4 with fail
 obtain⟨W4,dT,b0,b1,b2,b3,fR,dY⟩:=eK.o;clear eK;rw[dT];clear dT
 have z:w.heap.size<=W4.heap.size:=by omega
 generalize eC:w.heap.size=n0 at*;clear i1 i2;have m1:=b0.cell 1
 apply Ed [_,_,_,undef,_,_,_,undef,undef,undef,undef] [25,26,27,28,29,30,31,9,10] (λvs D g wz=>(Below W4.heap.size W4.drew wz)/\(D 0->g 25=Bl vs 0)/\(D 1->g 26=Bl vs 1)/\(D 2->g 27=Bl vs 2)/\(D 3->∃b,W4.heap.size<=b/\g 28= .pointer (some ⟨b,0,none⟩)/\Blk wz b 106 #[.string s,.int .i64 p])/\(D 4->g 29=Bl vs 4)/\(D 5->g 30=Bl vs 5)/\(D 6->g 31=Bl vs 6)/\(D 7->∃b x,W4.heap.size<=b/\g 9= .pointer (some ⟨b,0,none⟩)/\Blk wz b 104 #[x])/\(D 8->∃b x0 x1 x2 x3 x4 x5 x6 x7 x8,W4.heap.size<=b/\g 10= .pointer (some ⟨b,0,none⟩)/\Blk wz b 31 #[x0,x1,x2,x3,x4,x5,x6,x7,x8])/\(D 9->∃b d,W4.heap.size<=b/\g 9= .pointer (some ⟨b,0,none⟩)/\g 28= .pointer (some ⟨d,0,none⟩)/\Blk wz b 104 #[.pointer (some ⟨d,0,none⟩)])/\(D 10->∃b,W4.heap.size<=b/\g 10= .pointer (some ⟨b,0,none⟩)/\Blk wz b 31 (Ae h.m Vj))/\True) 11 121 (by kernel_rfl) (by kernel_rfl) rfl rfl (by kernel_rfl)
 case h0=>exact⟨Below.refl _ _,nt0,nt0,nt0,nt0,nt0,nt0,nt0,nt0,nt0,nt0,nt0,trivial⟩
 case hstep=>
  refine⟨⟨⟨⟨⟨⟨⟨⟨⟨⟨⟨trivial,?s0⟩,?s1⟩,?s2⟩,?s3⟩,?s4⟩,?s5⟩,?s6⟩,?s7⟩,?s8⟩,?s9⟩,?s10⟩
  case s0=>
   refine sst λD g wz az y J K B=>?_;obtain⟨X,f0,f1,f2,f3,f4,f5,f6,f7,f8,f9,I,_⟩:=J;have e0:=y.u 0;go_simp;exact B.o _ _ ⟨X,λ_=>Aj.trans rfl,kp f1,kp f2,kp f3,kp f4,kp f5,kp f6,kp f7,kp f8,kp f9,kp I,trivial⟩
  case s1=>
   refine sst λD g wz az y J K B=>?_;obtain⟨X,f0,f1,f2,f3,f4,f5,f6,f7,f8,f9,I,_⟩:=J;have e1:=y.u 1;go_simp;exact B.o _ _ ⟨X,kp f0,λ_=>Aj.trans rfl,kp f2,kp f3,kp f4,kp f5,kp f6,kp f7,kp f8,kp f9,kp I,trivial⟩
  case s2=>
   refine sst λD g wz az y J K B=>?_;obtain⟨X,f0,f1,f2,f3,f4,f5,f6,f7,f8,f9,I,_⟩:=J;have fC:=y.t 25 (f0 (y.d 0));have gD:=fC;rw[Array.getD_eq_getD_getElem?]at gD;have fD:=y.t 26 (f1 (y.d 1));have gE:=fD;rw[Array.getD_eq_getD_getElem?]at gE;go_simp;exact B.o _ _ ⟨X,kp f0,kp f1,λ_=>Aj.trans rfl,kp f3,kp f4,kp f5,kp f6,kp f7,kp f8,kp f9,kp I,trivial⟩
  case s3=>
   refine sst λD g wz az y J K B=>?_;obtain⟨X,f0,f1,f2,f3,f4,f5,f6,f7,f8,f9,I,_⟩:=J;have hV:=y.t 27 (f2 (y.d 2));go_simp;exact B.o _ _ ⟨X.alloc X.size _,kp f0,kp f1,kp f2,λ_=>⟨_,X.size,Aj,Blk.new2 rfl⟩,kp f4,kp f5,kp f6,kp (λh=>let⟨b,x,u0,u1,u2⟩:=(f7 h);⟨b,x,u0,u1,u2.alloc _⟩),kp (λh=>let⟨b,x0,x1,x2,x3,x4,x5,x6,x7,x8,u0,u1,u2⟩:=(f8 h);⟨b,x0,x1,x2,x3,x4,x5,x6,x7,x8,u0,u1,u2.alloc _⟩),kp (λh=>absurd (y.l _ 3 (h)) y.new),kp (λh=>absurd (y.l _ 3 (h)) y.new),trivial⟩
  case s4=>
   refine sst λD g wz az y J K B=>?_;obtain⟨X,f0,f1,f2,f3,f4,f5,f6,f7,f8,f9,I,_⟩:=J;have e5:=y.u 5;go_simp;exact B.o _ _ ⟨X,kp f0,kp f1,kp f2,kp f3,λ_=>Aj.trans rfl,kp f5,kp f6,kp f7,kp f8,kp f9,kp I,trivial⟩
  case s5=>
   refine sst λD g wz az y J K B=>?_;obtain⟨X,f0,f1,f2,f3,f4,f5,f6,f7,f8,f9,I,_⟩:=J;have cz:=(X.cell (p:=⟨n0,1,none⟩) b0.lt).trans m1;have hX:=y.t 29 (f4 (y.d 4));go_simp;exact B.o _ _ ⟨X,kp f0,kp f1,kp f2,kp f3,kp f4,λ_=>Aj.trans rfl,kp f6,kp f7,kp f8,kp f9,kp I,trivial⟩
  case s6=>
   refine sst λD g wz az y J K B=>?_;obtain⟨X,f0,f1,f2,f3,f4,f5,f6,f7,f8,f9,I,_⟩:=J;have fF:=y.t 30 (f5 (y.d 5));have gF:=fF;rw[Array.getD_eq_getD_getElem?]at gF;go_simp;exact B.o _ _ ⟨X,kp f0,kp f1,kp f2,kp f3,kp f4,kp f5,λ_=>Aj.trans rfl,kp f7,kp f8,kp f9,kp I,trivial⟩
  case s7=>
   refine sst λD g wz az y J K B=>?_;obtain⟨X,f0,f1,f2,f3,f4,f5,f6,f7,f8,f9,I,_⟩:=J;go_simp;exact B.o _ _ ⟨X.alloc X.size _,kp f0,kp f1,kp f2,kp (λh=>let⟨b,u0,u1,u2⟩:=(f3 h);⟨b,u0,u1,u2.alloc _⟩),kp f4,kp f5,kp f6,λ_=>⟨_,_,X.size,Aj,Blk.new2 rfl⟩,kp (λh=>let⟨b,x0,x1,x2,x3,x4,x5,x6,x7,x8,u0,u1,u2⟩:=(f8 h);⟨b,x0,x1,x2,x3,x4,x5,x6,x7,x8,u0,u1,u2.alloc _⟩),kp (λh=>absurd (y.l _ 7 (h)) y.new),kp (λh=>absurd (y.l _ 7 (h)) y.new),trivial⟩
  case s8=>
   refine sst λD g wz az y J K B=>?_;obtain⟨X,f0,f1,f2,f3,f4,f5,f6,f7,f8,f9,I,_⟩:=J;go_simp;exact B.o _ _ ⟨X.alloc X.size _,kp f0,kp f1,kp f2,kp (λh=>let⟨b,u0,u1,u2⟩:=(f3 h);⟨b,u0,u1,u2.alloc _⟩),kp f4,kp f5,kp f6,kp (λh=>let⟨b,x,u0,u1,u2⟩:=(f7 h);⟨b,x,u0,u1,u2.alloc _⟩),λ_=>⟨_,_,_,_,_,_,_,_,_,_,X.size,Aj,Blk.new2 rfl⟩,kp (λh=>absurd (y.l _ 8 (h)) y.new),kp (λh=>absurd (y.l _ 8 (h)) y.new),trivial⟩
  case s9=>
   refine sst λD g wz az y J K B=>?_;obtain⟨X,f0,f1,f2,f3,f4,f5,f6,f7,f8,f9,I,_⟩:=J;have d3:=f3 (y.d 3);have d7:=f7 (y.d 7);have d8:=f8 (y.d 8);obtain⟨b,x,bB,g9,A⟩:=d7;obtain⟨d,hZ,bW,bd⟩:=d3;have ck:=A.cell 0;have zk:=A.frozen 0;have e9:=(y.get 9).trans g9
   try simp only[Bl,List.toList_toArray]at e9
   have fE:=(y.get 28).trans bW
   try simp only[Bl,List.toList_toArray]at fE
   go_simp;exact B.o undef _ ⟨X.setCell (p:=⟨b,0,none⟩) bB _,kp f0,kp f1,kp f2,kp (λh=>let⟨b',u0,u1,u2⟩:=f3 h;⟨b',u0,u1,u2.far (p:=⟨b,0,none⟩) (Af u2 A (by decide)) _⟩),kp f4,kp f5,kp f6,λh=>⟨b,_,bB,g9,A.set_ 0 _⟩,kp (λh=>let⟨b',x0,x1,x2,x3,x4,x5,x6,x7,x8,u0,u1,u2⟩:=f8 h;⟨b',x0,x1,x2,x3,x4,x5,x6,x7,x8,u0,u1,u2.far (p:=⟨b,0,none⟩) (Af u2 A (by decide)) _⟩),λ_=>⟨b,d,bB,g9,bW,A.set_ 0 _⟩,kp (λh=>absurd (y.l _ 9 (h)) y.new),trivial⟩
  case s10=>
   refine sst λD g wz az y J K B=>?_;obtain⟨X,f0,f1,f2,f3,f4,f5,f6,f7,f8,f9,I,_⟩:=J;have d3:=f3 (y.d 3);have d7:=f7 (y.d 7);have d8:=f8 (y.d 8);have d9:=f9 (y.d 9);obtain⟨b,x0,x1,x2,x3,x4,x5,x6,x7,x8,bB,bJ,A⟩:=d8;have hN:=(A).cell 0;have gJ:=(A).frozen 0;have eY:=(A).cell 1;have gK:=(A).frozen 1;have eZ:=(A).cell 2;have gL:=(A).frozen 2;have fA:=(A).cell 3;have gM:=(A).frozen 3;have hP:=(A).cell 4;have gN:=(A).frozen 4;have hR:=(A).cell 5;have gO:=(A).frozen 5;have hS:=(A).cell 6;have gP:=(A).frozen 6;have hT:=(A).cell 7;have gQ:=(A).frozen 7;have hU:=(A).cell 8;have gR:=(A).frozen 8;have dP:=(y.get 10).trans bJ
   try simp only[Bl,List.toList_toArray]at dP
   have hY:=y.t 31 (f6 (y.d 6));go_simp;exact B.o undef _ ⟨AmA X bB _ _ _ _ _ _ _ _ _,kp f0,kp f1,kp f2,kp (λh=>let⟨b',u0,u1,u2⟩:=f3 h;⟨b',u0,u1,AiY u2 (Af u2 A (by decide)) _ _ _ _ _ _ _ _ _⟩),kp f4,kp f5,kp f6,kp (λh=>let⟨b',x,u0,u1,u2⟩:=f7 h;⟨b',x,u0,u1,AiY u2 (Af u2 A (by decide)) _ _ _ _ _ _ _ _ _⟩),λh=>⟨b,_,_,_,_,_,_,_,_,_,bB,bJ,Xj A _ _ _ _ _ _ _ _ _⟩,kp (λh=>let⟨b',d,u0,u1,u2,u3⟩:=f9 h;⟨b',d,u0,u1,u2,AiY u3 (Af u3 A (by decide)) _ _ _ _ _ _ _ _ _⟩),λ_=>⟨b,bB,bJ,Xj A _ _ _ _ _ _ _ _ _⟩,trivial⟩
 case hdone=>
  rintro g w8 D hD ⟨X,f0,f1,f2,f3,f4,f5,f6,f7,f8,f9,I,_⟩;have d3:=f3 (hD _);have d7:=f7 (hD _);have d8:=f8 (hD _);have d9:=f9 (hD _);have fB:=I (hD _);clear hD D f0 f1 f2 f3 f4 f5 f6 f7 f8 f9 I;simp only[Fw,List.foldl_cons,List.foldl_nil,List.setIfInBounds_toArray,List.set_cons_succ,List.set_cons_zero];obtain⟨ca,rg,fL,g9,bW,dC⟩:=d9;obtain⟨gC,fP,bX,dE⟩:=d3;obtain⟨co,fM,bJ,dD⟩:=fB
  obtain rfl:rg=gC:=by rw[bW]at bX;simpa using bX
  rw[g9,bJ];clear d7 d8 g9 bW bX bJ m1;obtain⟨W6,fK⟩:∃ W6,W6=w8:=⟨_,rfl⟩;subst fK;have fO:∀ (fn:Fn) (first cap:Array Value) (w:World),(Instr.makeFunc fn first cap).run Tryz.prog w= .ok (.func fn first cap) w:=λ_ _ _ _=>rfl;have fQ:=AgX Tryz.prog
  go_upto_region 7 with fail
  obtain⟨W7,dU,dM,cA⟩:=Bb W6 #[.func (.func 84) #[] #[.pointer (some ⟨ca,0,none⟩),.pointer (some ⟨n0,0,none⟩)]] 153;rw[dU];clear dU fO fQ;have aF:=Ab ((((Dr.refl W4).drew.below W4.heap.size).trans X).trans (cA.mono X.size));have c0:=Ab (b0.below aF.o b0.lt);have c1:=Ab (b1.below aF.o b1.lt);have c2:=Ab (b2.below aF.o b2.lt);have c3:=Ab (b3.below aF.o b3.lt);have U:=Ab (dC.below cA dC.lt);have N:=Ab (dE.below cA dE.lt);have M:=Ab (dD.below cA dD.lt);have aM:=Ab dM;have dA:=Ab (dY.trans (aF.o.mono z));have fS:n0<=W7.heap.size:=Nat.le_trans z aF.o.size
  have eN:n0+1+1+1<rg:=by omega
  have eM:n0+1+1+1<co:=by omega
  generalize W6.heap.size=cl at*;have aO:=Ab (λ(W:World) (q many:Nat) (f:Fr (λq=>q=rg∨q=co) W7 W) (a:q<=s.size) (m:many<=16777216) (b:Rdr W rg s q)=>AjS rg ca n0 cl s q many h W a hs ht.m m b (f.blk U.o (Jo (Af U.o N.o (by decide)) (Af U.o M.o (by decide)))) (f.blk c0.o (Jo (Af c0.o N.o (by decide)) (Af c0.o M.o (by decide)))) (f.blk aM.o (Jo (Af aM.o N.o (by decide)) (Af aM.o M.o (by decide)))));have aL:=Ab (λ(W:World) (q:Nat) (cs:Txt) (f:Fr (λq=>q=rg∨q=co) W7 W) (a:q<=s.size) (b:Rdr W rg s q)=>AfI rg ca n0 s q h cs W a hs ht.m b (f.blk U.o (Jo (Af U.o N.o (by decide)) (Af U.o M.o (by decide)))) (f.blk c0.o (Jo (Af c0.o N.o (by decide)) (Af c0.o M.o (by decide)))));have HC:=Ab (λ(W:World) (f:Fr (λq=>q=rg∨q=co) W7 W)=>(f.blk aM.o (Jo (Af aM.o N.o (by decide)) (Af aM.o M.o (by decide)))).cell 0);have HH:=Ab (λ(W:World) (f:Fr (λq=>q=rg∨q=co) W7 W)=>f.blk c0.o (Jo (Af c0.o N.o (by decide)) (Af c0.o M.o (by decide))));have HS:=Ab (λ(W:World) (f:Fr (λq=>q=rg∨q=co) W7 W) (tmps:Array Value) (a c:Int) (F:Ec h (rest s p)=none) (hc:c≠0) (h6:tmps[6]?=some (.pointer (some ⟨n0+1,0,none⟩))) (h7:tmps[7]?=some (.pointer (some ⟨n0+1+1,0,none⟩))) (h8:tmps[8]?=some (.pointer (some ⟨n0+1+1+1,0,none⟩)))=>Aja (a:=a) (c:=c) eC dA.o fS f eN eM c1.o c2.o c3.o F hc h6 h7 h8);have fW:¬ ca=n0+1:=Af U.o c1.o (by decide);have iB:¬ n0+1=ca:=λe=>fW e.symm;have Z:rg≠co:=Af N.o M.o (by decide);clear b0 b1 b2 b3 X dY fR dC dE dD dM cA fL fP fM z aF;have H1:=Ab (aO.o W7 p h.i (Fr.refl _ _) hp ht.i N.o);have m2:=(HH.o W7 (Fr.refl _ _)).cell 2
  go_wp2_with fail
  refine H1.o.mono ?_;rintro e w1 (⟨li,q1,v1,h1,cS,rfl,cL,r1,g1⟩|⟨h1,a,c,hc,rfl,g1⟩)
  case inr=>
   have F:=Ab (Akp h1);have g2:=Ab (Fr.more (S':=λq=>q=rg∨q=co) g1 (λ_ _ h=> .inl h));go_wp2;exact HS.o _ g2.o _ _ _ F.o hc (by rfl) (by rfl) (by rfl)
  obtain⟨⟨A1,N1,C1⟩,rfl,eH⟩:=Be cL;dsimp only at eH;subst eH;have o1:=Ab (g1.blk M.o (λe=>Z e.symm));have ck:=o1.o.cell 1;have zk:=o1.o.frozen 1;have hA:Hid (Mv s h rg co q1 ⟨⟨A1,h.i,C1⟩,Ap,Ap,Ap,Ap,Ap,Ap,.empty⟩ ⟨h.m,li,[],[],[],[],[]⟩ W7 (w1.setCell ⟨co,1,none⟩ (.slice A1 h.i C1))):=Ab (Mv.ins cS r1 o1.o cL g1 Z (El _ _ _ h1));have cH:=(HH.o _ hA.o.fr).cell 3;have aK:=Ab h1;clear h1;clear H1 m2 cL r1 g1 cS
  go_upto_region 8 with fail
  go_wp2_with fail
  obtain⟨W8,dV⟩:∃ W8,w1.setCell ⟨co,1,none⟩ (.slice A1 h.i C1)=W8:=⟨_,rfl⟩;rw[dV]at hA ⊢;clear dV ck zk cH o1;have cB:=Ab M.o.lt;have cF:=Ab N.o.lt
  go_loopw [41] (λc wr=>∃ k:Nat,k<=h.l/\c= .int .i64 k/\Hid (ApT s h rg co q1 ⟨A1,h.i,C1⟩ li W7 k wr)) (λc _=>h.l-(intOf c).toNat)
  case atStart=>exact⟨0,Nat.zero_le _,rfl,Ab ⟨[],q1,Ap,Gl.zero _,hA.o⟩⟩
  case round=>
   obtain⟨k,hk,rfl,hM⟩:=hrel;obtain⟨l,q,sl,E,j⟩:=hM.o;clear hM hA;obtain⟨lA,lN,lC⟩:=sl;obtain rfl:lN=k:=(Et j.own.lat).trans E.len;replace E:=Ab E;replace j:=Ab j
   by_cases aI:lN<h.l
   ·have eB:(lN:Int)<h.l:=by omega
    have fN:=ht.l
    go_upto_region 11 with fail
    obtain⟨Wa,bZ,aP,aT⟩:=Bb wr #[.int .i64 0,.int .i64 0,.int .i64 0] 59;rw[bZ];clear bZ;have aQ:=Ab (j.o.fr.thenB (aT.mono j.o.fr.size));have cM:=Ab (j.o.rdr.below aT j.o.rdr.lt);have lx:=j.o.fr.size;have dG:=Ab (Fr.of_below (S:=λq=>q=rg) aT);have aA:wr.heap.size≠rg:=Af aP cM.o (by decide);replace aP:=Ab aP;clear aT;generalize bC:wr.heap.size=x at*;have H1:=Ab (aL.o Wa q [32] aQ.o j.o.le cM.o);have f1:=HC.o Wa aQ.o
    go_wp2_with fail
    refine H1.o.mono ?_;rintro e w1 (⟨n1,b1,p1,h1,cS,rfl,r1,g1⟩|⟨h1,a,c,hc,rfl,g1⟩)
    case inr=>
     have F:=Ab (Xp aK.o (E.o.fail (Hg _) (Akd h1) aI));have gx:=Ab (aQ.o.trans g1.two);go_wp2;exact HS.o _ gx.o _ _ _ F.o hc (by rfl) (by rfl) (by rfl)
    clear H1 f1;have y1:=Ab (g1.blk aP.o aA);have eY:=y1.o.cell 0;have iR:=y1.o.frozen 0;have eX:=Ab (y1.o.set_ 0 (.int .i64 (n1:Nat)));have cP:=Ab ((aQ.o.trans g1.two).setNew (p:=⟨x,0,none⟩) lx (.int .i64 (n1:Nat)));have fJ:=Ab ((dG.o.trans g1).setNew (p:=⟨x,0,none⟩) (Nat.le_of_eq bC) (.int .i64 (n1:Nat)));have gA:=Ab (r1.far (p:=⟨x,0,none⟩) (show rg≠x from λe=>aA e.symm) (.int .i64 (n1:Nat)));replace h1:=Ab h1;clear y1 g1 r1;have H2:=Ab (aL.o _ p1 [32,10] cP.o cS gA.o);have f2:=HC.o _ cP.o
    go_wp2_with fail
    refine H2.o.mono ?_;rintro e w2 (⟨n2,b2,p2,h2,eD,rfl,r2,g2⟩|⟨h2,a,c,hc,rfl,g2⟩)
    case inr=>
     have F:=Ab (Xp aK.o (E.o.fail (Hg _) (Akh h1.o h2) aI));have gx:=Ab (cP.o.trans g2.two);go_wp2;exact HS.o _ gx.o _ _ _ F.o hc (by rfl) (by rfl) (by rfl)
    clear H2 f2;have dZ:=(Alw h2).elim (λ_ h=>Jb h);have y2:=Ab (g2.blk eX.o aA);have eZ:=y2.o.cell 1;have iS:=y2.o.frozen 1;have cN:=Ab (y2.o.set_ 1 (.int .i64 (n2:Nat)));have bH:=Ab ((cP.o.trans g2.two).setNew (p:=⟨x,1,none⟩) lx (.int .i64 (n2:Nat)));have cQ:=Ab ((fJ.o.trans g2).setNew (p:=⟨x,1,none⟩) (Nat.le_of_eq bC) (.int .i64 (n2:Nat)));have eS:=Ab (r2.far (p:=⟨x,1,none⟩) (show rg≠x from λe=>aA e.symm) (.int .i64 (n2:Nat)));replace h2:=Ab h2;clear y2 g2 r2;simp only[List.mem_cons,List.not_mem_nil,or_false]at dZ
    rcases dZ with rfl|rfl
    ·have H3:=Ab (aL.o _ p2 [10] bH.o eD eS.o);have f3:=HC.o _ bH.o
     go_wp2_with fail
     refine H3.o.mono ?_;rintro e w3 (⟨n3,b3,p3,h3,bO,rfl,r3,g3⟩|⟨h3,a,c,hc,rfl,g3⟩)
     case inr=>
      have F:=Ab (Xp aK.o (E.o.fail (Hg _) (Akj h1.o h2.o h3) aI));have gx:=Ab (bH.o.trans g3.two);go_wp2;exact HS.o _ gx.o _ _ _ F.o hc (by rfl) (by rfl) (by rfl)
     clear H3 f3;have y3:=Ab (g3.blk cN.o aA);have fA:=y3.o.cell 2;have iT:=y3.o.frozen 2;have dF:=Ab (y3.o.set_ 2 (.int .i64 (n3:Nat)));have aD:=Ab ((bH.o.trans g3.two).setNew (p:=⟨x,2,none⟩) lx (.int .i64 (n3:Nat)));have bI:=Ab ((cQ.o.trans g3).setNew (p:=⟨x,2,none⟩) (Nat.le_of_eq bC) (.int .i64 (n3:Nat)));have gB:=Ab (r3.far (p:=⟨x,2,none⟩) (show rg≠x from λe=>aA e.symm) (.int .i64 (n3:Nat)));replace h3:=Ab h3;clear y3 g3 r3;have oL:=Ab (j.o.own.fr bI.o (λk hk=> .inr (by subst hk;exact⟨106,_,j.o.rdr,by decide,by decide,by decide⟩)));have oG:=Ab oL.o.lat;rw[E.o.len]at oG;have cC:=(bI.o.blk j.o.o (λe=>Z e.symm)).cell 2;have bQ:=dF.o.cell 0;have bR:=dF.o.cell 1;have bS:=dF.o.cell 2;have O:=Ab aD.o.size;have aV:=Ab (show lN+1<=maxLen by unfold maxLen;omega);have aX:=Ab (show(lN+1)*24<=140737488355328 by omega)
     go_wp2_with (at_builtin;refine Ah rfl _ _ _ rfl Tryz.underlying27 Ro rfl (by decide) rfl (by first|rfl|simp[go_sem]) oG.o (Below.refl _ _) O.o rfl (by simp[Value.oneCell']) aV.o aX.o ?_;intro v6 w6 R aW aC;obtain⟨s6,rfl,c6,z6,aE⟩:=Mv.latch (x:=⟨n1,n2,n3⟩) j.o E.o.len cB.o cF.o Z bI.o aD.o bO gB.o R aW aC;replace aE:=Ab aE;clear R aW aC)
     clear cC bQ bR bS oL oG O aV aX;go_roundw
     case rel=>exact⟨lN+1,aI,by go_num,Ab ⟨l++ [_],_,s6,Gl.step (Hg _) E.o (Afp h1.o h2.o h3.o),aE.o⟩⟩
     case measure=>simp[intOf];omega
    have oL:=Ab (j.o.own.fr cQ.o (λk hk=> .inr (by subst hk;exact⟨106,_,j.o.rdr,by decide,by decide,by decide⟩)));have oG:=Ab oL.o.lat;rw[E.o.len]at oG;have cC:=(cQ.o.blk j.o.o (λe=>Z e.symm)).cell 2;have bQ:=cN.o.cell 0;have bR:=cN.o.cell 1;have bS:=cN.o.cell 2;have O:=Ab bH.o.size;have aV:=Ab (show lN+1<=maxLen by unfold maxLen;omega);have aX:=Ab (show(lN+1)*24<=140737488355328 by omega)
    go_wp2_with (at_builtin;refine Ah rfl _ _ _ rfl Tryz.underlying27 Ro rfl (by decide) rfl (by first|rfl|simp[go_sem]) oG.o (Below.refl _ _) O.o rfl (by simp[Value.oneCell']) aV.o aX.o ?_;intro v6 w6 R aW aC;obtain⟨s6,rfl,c6,z6,aE⟩:=Mv.latch (x:=⟨n1,n2,0⟩) j.o E.o.len cB.o cF.o Z cQ.o bH.o eD eS.o R aW aC;replace aE:=Ab aE;clear R aW aC)
    clear cC bQ bR bS oL oG O aV aX;go_roundw
    case rel=>exact⟨lN+1,aI,by go_num,Ab ⟨l++ [_],_,s6,Gl.step (Hg _) E.o (AjE h1.o h2.o),aE.o⟩⟩
    case measure=>simp[intOf];omega
   obtain rfl:lN=h.l:=by omega
   have aH:=Ab (Gl.done (λ_=>rfl) E.o);clear E aI hk
   go_wp2_with fail
   refine wp_region_held_drew (S:=λW'=>W'.cell? ⟨n0,4,none⟩=some (.int .i64 (h.o:Nat))/\W'.cell? ⟨n0,6,none⟩=some (.int .i64 (h.b:Nat))/\W'.cell? ⟨n0,7,none⟩=some (.int .i64 (h.c:Nat))) (by kernel_rfl) (⟨(HH.o _ j.o.fr).cell 4,(HH.o _ j.o.fr).cell 6,(HH.o _ j.o.fr).cell 7⟩) (λY=>?_);refine tk 0 (hQ:=by exact λc a w h=>Df (λt=>Gd t (by decide) (by decide) (by decide)) _ _ _ _ h) (h:=tk 1 (hQ:=by exact λc a w h=>Df (λt=>Gd t (by decide) (by decide) (by decide)) _ _ _ _ h) (h:=tk 2 (hQ:=by exact λc a w h=>Df (λt=>Gd t (by decide) (by decide) (by decide)) _ _ _ _ h) (h:=tk 4 (hQ:=by exact λc a w h=>Df (λt=>Gd t (by decide) (by decide) (by decide)) _ _ _ _ h) (h:=tk 5 (hQ:=by exact λc a w h=>Df (λt=>Gd t (by decide) (by decide) (by decide)) _ _ _ _ h) (h:=tk 6 (hQ:=by exact λc a w h=>Df (λt=>Gd t (by decide) (by decide) (by decide)) _ _ _ _ h) (h:=tk 8 (hQ:=by exact λc a w h=>Df (λt=>Gd t (by decide) (by decide) (by decide)) _ _ _ _ h) (h:=tk 9 (hQ:=by exact λc a w h=>Df (λt=>Gd t (by decide) (by decide) (by decide)) _ _ _ _ h) (h:=tk 10 (hQ:=by exact λc a w h=>Df (λt=>Gd t (by decide) (by decide) (by decide)) _ _ _ _ h) (h:=?_)))))))));refine rd1 3 λK B=>?_;go_simp;have H3:=Ab (aO.o _ q h.o j.o.fr.drew j.o.le ht.o (j.o.rdr.dr (Dr.refl _).drew))
   go_wp2_with fail
   refine H3.o.mono ?_;rintro e w3 (⟨l3,q3,v3,h3,bO,rfl,aY,r3,g3⟩|⟨h3,a,c,hc,rfl,g3⟩)
   case inr=>
    have F:=Ab (Ajs aK.o aH.o h3);have gx:=Ab (j.o.fr.drew.trans g3.two);go_wp2;exact HS.o _ gx.o _ _ _ F.o hc (by rfl) (by rfl) (by rfl)
   clear H3;have aD:=Ab (j.o.fr.drew.trans g3.two);have bI:=Ab ((Fr.refl (λq=>q=rg) wr).drew.trans g3);obtain⟨⟨A3,N3,D3⟩,rfl,eI⟩:=Be aY;dsimp only at eI;subst eI;replace aY:=Ab aY;replace r3:=Ab r3;replace h3:=Ab h3;replace g3:=Ab g3;replace bO:=Ab bO;refine B.o _ _ (⟨(HH.o _ aD.o).cell 4,(HH.o _ aD.o).cell 6,(HH.o _ aD.o).cell 7⟩) (λY=>?_);refine tk 12 (hQ:=by exact λc a w h=>Df (λt=>Gd t (by decide) (by decide) (by decide)) _ _ _ _ h) (h:=?_);refine rd1 7 λK B=>?_;go_simp;have H7:=Ab (aO.o _ q3 h.b aD.o bO.o ht.b r3.o)
   go_wp2_with fail
   refine H7.o.mono ?_;rintro e w7 (⟨l7,q7,v7,h7,cT,rfl,aZ,r7,g7⟩|⟨h7,a,c,hc,rfl,g7⟩)
   case inr=>
    have F:=Ab (AiQ aK.o aH.o h3.o h7);have gx:=Ab (aD.o.trans g7.two);go_wp2;exact HS.o _ gx.o _ _ _ F.o hc (by rfl) (by rfl) (by rfl)
   clear H7;have aU:=Ab (aD.o.trans g7.two);have dS:=Ab (bI.o.trans g7);obtain⟨⟨A7,N7,D7⟩,rfl,eJ⟩:=Be aZ;dsimp only at eJ;subst eJ;replace aZ:=Ab aZ;replace r7:=Ab r7;replace h7:=Ab h7;replace g7:=Ab g7;replace cT:=Ab cT;refine B.o _ _ (⟨(HH.o _ aU.o).cell 4,(HH.o _ aU.o).cell 6,(HH.o _ aU.o).cell 7⟩) (λY=>?_);clear B K
   try simp only[Act.put,pt]
   refine rd1 11 λK B=>?_;go_simp;have dI:=Ab (aO.o _ q7 h.c aU.o cT.o ht.c r7.o)
   go_wp2_with fail
   refine dI.o.mono ?_;rintro e eW (⟨eL,dH,iD,aS,cE,rfl,aJ,cV,aR⟩|⟨aS,a,c,hc,rfl,aR⟩)
   case inr=>
    have F:=Ab (AjO aK.o aH.o h3.o h7.o aS);have gx:=Ab (aU.o.trans aR.two);go_wp2;exact HS.o _ gx.o _ _ _ F.o hc (by rfl) (by rfl) (by rfl)
   clear dI;have aN:=Ab (aU.o.trans aR.two);have aB:=Ab (dS.o.trans aR);obtain⟨⟨bF,hE,bG⟩,rfl,dB⟩:=Be aJ;dsimp only at dB;subst dB;replace aJ:=Ab aJ;replace cV:=Ab cV;replace aS:=Ab aS;replace aR:=Ab aR;replace cE:=Ab cE;refine B.o _ _ (⟨(HH.o _ aN.o).cell 4,(HH.o _ aN.o).cell 6,(HH.o _ aN.o).cell 7⟩) (λY=>?_);clear B K
   try simp only[Act.put,pt]
   refine rd1 13 λK B=>?_;have k3:=(aB.o.blk j.o.o (λe=>Z e.symm)).cell 3;have k4:=(aB.o.blk j.o.o (λe=>Z e.symm)).cell 4;have k5:=(aB.o.blk j.o.o (λe=>Z e.symm)).cell 5;have fT:=(aB.o.blk j.o.o (λe=>Z e.symm)).frozen 3;have fU:=(aB.o.blk j.o.o (λe=>Z e.symm)).frozen 4;have fV:=(aB.o.blk j.o.o (λe=>Z e.symm)).frozen 5;go_simp;have bT:=Ab (aN.o.set (p:=⟨co,3,none⟩) (.inr rfl) (.slice A3 h.o D3));refine B.o _ _ (⟨(HH.o _ bT.o).cell 4,(HH.o _ bT.o).cell 6,(HH.o _ bT.o).cell 7⟩) (λY=>?_);refine tk 14 (hQ:=by exact λc a w h=>Df (λt=>Gd t (by decide) (by decide) (by decide)) _ _ _ _ h) (h:=?_);refine rd1 15 λK B=>?_;go_simp;have bU:=Ab (bT.o.set (p:=⟨co,4,none⟩) (.inr rfl) (.slice A7 h.b D7));refine B.o _ _ (⟨(HH.o _ bU.o).cell 4,(HH.o _ bU.o).cell 6,(HH.o _ bU.o).cell 7⟩) (λY=>?_);refine tk 16 (hQ:=by exact λc a w h=>Df (λt=>Gd t (by decide) (by decide) (by decide)) _ _ _ _ h) (h:=?_);refine rd1 17 λK B=>?_;go_simp;have cO:=Ab (bU.o.set (p:=⟨co,5,none⟩) (.inr rfl) (.slice bF h.c bG));refine B.o _ _ (⟨(HH.o _ cO.o).cell 4,(HH.o _ cO.o).cell 6,(HH.o _ cO.o).cell 7⟩) (λY=>?_);clear B K
   try simp only[Act.put,pt]
   refine wpAnyH_done (by kernel_rfl) ?_ _;have o3:=Ab (AdY aR.o r7.o (AdY g7.o r3.o (Az aY.o j.o.fr.size)));have o7:=Ab (AdY aR.o r7.o (Az aZ.o aD.o.size));have eO:=Ab (Az aJ.o aU.o.size);have hB:Hid (Mv s h rg co dH ⟨⟨A1,h.i,C1⟩,⟨lA,h.l,lC⟩,⟨A3,h.o,D3⟩,⟨A7,h.b,D7⟩,⟨bF,h.c,bG⟩,Ap,Ap,.empty⟩ ⟨h.m,li,l,l3,l7,eL,[]⟩ W7 (((eW.setCell ⟨co,3,none⟩ (.slice A3 h.o D3)).setCell ⟨co,4,none⟩ (.slice A7 h.b D7)).setCell ⟨co,5,none⟩ (.slice bF h.c bG))):=Ab (Mv.three j.o Z aB.o aN.o cV.o cE.o (by rw[El _ _ _ h3.o];exact o3.o) (by rw[El _ _ _ h7.o];exact o7.o) (by rw[El _ _ _ aS.o];exact eO.o));have cH:=(HH.o _ hB.o.fr).cell 5
   go_wp2_with fail
   obtain⟨W9,dW⟩:∃ W9,(((eW.setCell ⟨co,3,none⟩ (.slice A3 h.o D3)).setCell ⟨co,4,none⟩ (.slice A7 h.b D7)).setCell ⟨co,5,none⟩ (.slice bF h.c bG))=W9:=⟨_,rfl⟩;rw[dW]at hB ⊢;clear dW cH k3 k4 k5 fT fU fV bT bU cO o3 o7 eO aY aZ aJ r3 r7 cV g3 g7 aR aD aU aN bI dS aB bO cT Y;generalize iA:(⟨lA,h.l,lC⟩:Sl)=s2 at hB;clear j
   go_loopw [88] (λc wr=>∃ k:Nat,k<=h.a/\c= .int .i64 k/\Hid (Aql s h rg co dH ⟨A1,h.i,C1⟩ s2 ⟨A3,h.o,D3⟩ ⟨A7,h.b,D7⟩ ⟨bF,h.c,bG⟩ li l3 l7 eL l W7 k wr)) (λc _=>h.a-(intOf c).toNat)
   case atStart=>exact⟨0,Nat.zero_le _,rfl,Ab ⟨[],dH,Ap,Gl.zero _,hB.o⟩⟩
   case round=>
    obtain⟨k,hk,rfl,hM⟩:=hrel;obtain⟨gl,q,sl,E,j⟩:=hM.o;clear hM hB;obtain⟨lA,lN,lC⟩:=sl;obtain rfl:lN=k:=(Et j.own.gat).trans E.len;replace E:=Ab E;replace j:=Ab j
    by_cases aI:lN<h.a
    ·have eB:(lN:Int)<h.a:=by omega
     have fN:=ht.a
     go_upto_region 21 with fail
     obtain⟨Wa,bZ,aP,aT⟩:=Bb wr #[.int .i64 0,.int .i64 0,.int .i64 0] 62;rw[bZ];clear bZ;have aQ:=Ab (j.o.fr.thenB (aT.mono j.o.fr.size));have cM:=Ab (j.o.rdr.below aT j.o.rdr.lt);have lx:=j.o.fr.size;have dG:=Ab (Fr.of_below (S:=λq=>q=rg) aT);have aA:wr.heap.size≠rg:=Af aP cM.o (by decide);replace aP:=Ab aP;clear aT;generalize bC:wr.heap.size=x at*;have dJ:=Ab (aL.o _ q [32] aQ.o j.o.le cM.o);have fG:=HC.o _ aQ.o
     go_wp2_with fail
     refine dJ.o.mono ?_;rintro e iE (⟨cG,hG,fY,bA,eE,rfl,eP,bK⟩|⟨bA,a,c,hc,rfl,bK⟩)
     case inr=>
      have F:=Ab (Wn aK.o aH.o h3.o h7.o aS.o (E.o.fail (Mh _) (AkH bA) aI));have gx:=Ab (aQ.o.trans bK.two);go_wp2;exact HS.o _ gx.o _ _ _ F.o hc (by rfl) (by rfl) (by rfl)
     clear dJ fG;have cW:=Ab (bK.blk aP.o aA);have gG:=cW.o.cell 0;have gX:=cW.o.frozen 0;have dN:=Ab (cW.o.set_ 0 (.int .i64 (cG:Nat)));have bD:=Ab ((aQ.o.trans bK.two).setNew (p:=⟨x,0,none⟩) lx (.int .i64 (cG:Nat)));have dQ:=Ab ((dG.o.trans bK).setNew (p:=⟨x,0,none⟩) (Nat.le_of_eq bC) (.int .i64 (cG:Nat)));have eT:=Ab (eP.far (p:=⟨x,0,none⟩) (show rg≠x from λe=>aA e.symm) (.int .i64 (cG:Nat)));replace bA:=Ab bA;clear cW bK eP;have dK:=Ab (aL.o _ fY [32] bD.o eE eT.o);have fH:=HC.o _ bD.o
     go_wp2_with fail
     refine dK.o.mono ?_;rintro e iF (⟨cJ,hJ,fZ,bN,eF,rfl,eQ,bL⟩|⟨bN,a,c,hc,rfl,bL⟩)
     case inr=>
      have F:=Ab (Wn aK.o aH.o h3.o h7.o aS.o (E.o.fail (Mh _) (AlG bA.o bN) aI));have gx:=Ab (bD.o.trans bL.two);go_wp2;exact HS.o _ gx.o _ _ _ F.o hc (by rfl) (by rfl) (by rfl)
     clear dK fH;have cX:=Ab (bL.blk dN.o aA);have gH:=cX.o.cell 1;have gY:=cX.o.frozen 1;have dO:=Ab (cX.o.set_ 1 (.int .i64 (cJ:Nat)));have bE:=Ab ((bD.o.trans bL.two).setNew (p:=⟨x,1,none⟩) lx (.int .i64 (cJ:Nat)));have dR:=Ab ((dQ.o.trans bL).setNew (p:=⟨x,1,none⟩) (Nat.le_of_eq bC) (.int .i64 (cJ:Nat)));have eU:=Ab (eQ.far (p:=⟨x,1,none⟩) (show rg≠x from λe=>aA e.symm) (.int .i64 (cJ:Nat)));replace bN:=Ab bN;clear cX bL eQ;have dL:=Ab (aL.o _ fZ [10] bE.o eF eU.o);have fI:=HC.o _ bE.o
     go_wp2_with fail
     refine dL.o.mono ?_;rintro e iG (⟨cK,hL,iC,bY,eG,rfl,eR,bM⟩|⟨bY,a,c,hc,rfl,bM⟩)
     case inr=>
      have F:=Ab (Wn aK.o aH.o h3.o h7.o aS.o (E.o.fail (Mh _) (Alu bA.o bN.o bY) aI));have gx:=Ab (bE.o.trans bM.two);go_wp2;exact HS.o _ gx.o _ _ _ F.o hc (by rfl) (by rfl) (by rfl)
     clear dL fI;have cY:=Ab (bM.blk dO.o aA);have gI:=cY.o.cell 2;have gZ:=cY.o.frozen 2;have bP:=Ab (cY.o.set_ 2 (.int .i64 (cK:Nat)));have cZ:=Ab ((bE.o.trans bM.two).setNew (p:=⟨x,2,none⟩) lx (.int .i64 (cK:Nat)));have bV:=Ab ((dR.o.trans bM).setNew (p:=⟨x,2,none⟩) (Nat.le_of_eq bC) (.int .i64 (cK:Nat)));have eV:=Ab (eR.far (p:=⟨x,2,none⟩) (show rg≠x from λe=>aA e.symm) (.int .i64 (cK:Nat)));replace bY:=Ab bY;clear cY bM eR;have oL:=Ab (j.o.own.fr bV.o (λk hk=> .inr (by subst hk;exact⟨106,_,j.o.rdr,by decide,by decide,by decide⟩)));have oG:=Ab oL.o.gat;rw[E.o.len]at oG;have cC:=(bV.o.blk j.o.o (λe=>Z e.symm)).cell 6;have bQ:=bP.o.cell 0;have bR:=bP.o.cell 1;have bS:=bP.o.cell 2;have O:=Ab cZ.o.size;have aV:=Ab (show lN+1<=maxLen by unfold maxLen;omega);have aX:=Ab (show(lN+1)*24<=140737488355328 by omega)
     go_wp2_with (at_builtin;refine Ah rfl _ _ _ rfl Tryz.underlying28 Vo rfl (by decide) rfl (by first|rfl|simp[go_sem]) oG.o (Below.refl _ _) O.o rfl (by simp[Value.oneCell']) aV.o aX.o ?_;intro v6 w6 R aW aC;obtain⟨s6,rfl,c6,z6,aE⟩:=Mv.gate (x:=⟨cG,cJ,cK⟩) j.o E.o.len cB.o cF.o Z bV.o cZ.o eG eV.o R aW aC;replace aE:=Ab aE;clear R aW aC)
     clear cC bQ bR bS oL oG O aV aX;go_roundw
     case rel=>exact⟨lN+1,aI,by go_num,Ab ⟨gl++ [_],_,s6,Gl.step (Mh _) E.o (AmC bA.o bN.o bY.o),aE.o⟩⟩
     case measure=>simp[intOf];omega
    obtain rfl:lN=h.a:=by omega
    have eA:=Ab (Gl.done (λ_=>rfl) E.o);have dX:=Ab (Ajg aK.o aH.o h3.o h7.o aS.o eA.o);have d1:=Ab (j.o.fr.blk c1.o (Jo (by omega) (by omega)));have d2:=Ab (j.o.fr.blk c2.o (Jo (by omega) (by omega)));have d3:=Ab (j.o.fr.blk c3.o (Jo (by omega) (by omega)));have da:=(j.o.fr.blk U.o (Jo (Af U.o N.o (by decide)) (Af U.o M.o (by decide)))).cell 0;obtain⟨e0,e1,e2,e3,e4,e5,e6,e7,e8⟩:=c9c (j.o.o);have r0:=(j.o.rdr).cell 0;have r1:=(j.o.rdr).cell 1;have x0:=(d1.o).cell 0;have iH:=(d1.o).frozen 0;have x1:=(d1.o).cell 1;have iI:=(d1.o).frozen 1;have x2:=(d1.o).cell 2;have iJ:=(d1.o).frozen 2;have x3:=(d1.o).cell 3;have iK:=(d1.o).frozen 3;have x4:=(d1.o).cell 4;have iL:=(d1.o).frozen 4;have x5:=(d1.o).cell 5;have iM:=(d1.o).frozen 5;have x6:=(d1.o).cell 6;have iN:=(d1.o).frozen 6;have x7:=(d1.o).cell 7;have iO:=(d1.o).frozen 7;have x8:=(d1.o).cell 8;have iP:=(d1.o).frozen 8;have y0:=(d2.o).cell 0;have iQ:=(d2.o).frozen 0;have z0:=(d3.o).cell 0;have iU:=(d3.o).frozen 0
    go_wp2_with fail
    apply Cu [_,_,_,_,_,undef,undef,undef] [wr.drew,_,_,_] [some 116,some 117,some 118,some 119,some 120,none,none,none] (λws D wz=>(¬D 5->wz=Bc ws 0)/\(D 5->¬D 6->wz=Bc ws 1)/\(D 6->¬D 7->wz=Bc ws 2)/\(D 7->wz=Bc ws 3)/\True) 8 121 (by kernel_rfl) (by kernel_rfl) rfl rfl rfl (by kernel_rfl)
    case h0=>exact⟨λ_=>rfl,λh=>absurd h (by decide),λh=>absurd h (by decide),λh=>absurd h (by decide),trivial⟩
    case hstep=>
     refine⟨⟨⟨⟨⟨⟨⟨⟨trivial,?s0⟩,?s1⟩,?s2⟩,?s3⟩,?s4⟩,?s5⟩,?s6⟩,?s7⟩
     case s0=>
      refine fst λD wz az y J K B=>?_;obtain⟨q0,q1,q2,q3,_⟩:=hd4 J;clear J;have z:=q0.o (λh=>y.new (y.l _ 0 (h)));simp only[Bc]at z;subst z;have dP:=y.u 10;go_simp;exact B.o _ ⟨kB q0.o,kC q1.o,kC q2.o,kp q3.o,trivial⟩
     case s5=>
      refine fst λD wz az y J K B=>?_;obtain⟨q0,q1,q2,q3,_⟩:=hd4 J;clear J;have z:=q0.o (y.new);simp only[Bc]at z;subst z;have e6:=y.u 6;have gS:=y.r 0 116;go_simp;exact B.o _ ⟨λh2=>absurd (.inl rfl) h2,λ_ _=>nW1,λh1 _=>absurd h1 (λe=>e.elim (λe=>absurd e (by decide)) (λe=>(λh=>y.new (y.l _ 5 (h))) e)),λh1=>absurd h1 (λe=>e.elim (λe=>absurd e (by decide)) (λe=>(λh=>y.new (y.l _ 5 (h))) e)),trivial⟩
     case s1=>
      refine fst λD wz az y J K B=>?_;obtain⟨q0,q1,q2,q3,_⟩:=hd4 J;clear J;have e9:=y.u 9
      by_cases d0:D 5
      rotate_left
      ·have z:=q0.o d0;simp only[Bc]at z;subst z;go_simp;exact B.o _ ⟨kB q0.o,kC q1.o,kC q2.o,kp q3.o,trivial⟩
      have z:=q1.o d0 (λh=>y.new (y.l _ 1 (h)));simp only[Bc]at z;subst z;go_simp;exact B.o _ ⟨kB q0.o,kC q1.o,kC q2.o,kp q3.o,trivial⟩
     case s2|s3=>
      refine Bh (λD w h=>⟨kB h.1,kC h.2.1,kC h.2.2.1,kp h.2.2.2.1,trivial⟩) (λD wz az y K B=>?_)
      try have gT:=y.r 1 117
      try have gU:=y.r 2 118
      go_simp;exact B.o
     case s4=>
      refine fst λD wz az y J K B=>?_;obtain⟨q0,q1,q2,q3,_⟩:=hd4 J;clear J;have gV:=y.r 3 119
      by_cases d0:D 5
      rotate_left
      ·have z:=q0.o d0;simp only[Bc]at z;subst z;go_simp;exact B.o _ ⟨kB q0.o,kC q1.o,kC q2.o,kp q3.o,trivial⟩
      have z:=q1.o d0 (λh=>y.new (y.l _ 4 (h)));simp only[Bc]at z;subst z;go_simp;exact B.o _ ⟨kB q0.o,kC q1.o,kC q2.o,kp q3.o,trivial⟩
     case s6=>
      refine fst λD wz az y J K B=>?_;obtain⟨q0,q1,q2,q3,_⟩:=hd4 J;clear J;have z:=q1.o (y.d 5) (y.new);simp only[Bc]at z;subst z;have e7:=y.u 7;have gW:=y.r 4 120;go_simp;exact B.o _ ⟨λh2=>absurd (.inr (y.d 5)) h2,λ_ h2=>absurd (.inl rfl) h2,λ_ _=>nW2,λh1=>absurd h1 (λe=>e.elim (λe=>absurd e (by decide)) (λe=>(λh=>y.new (y.l _ 6 (h))) e)),trivial⟩
     case s7=>
      refine fst λD wz az y J K B=>?_;obtain⟨q0,q1,q2,q3,_⟩:=hd4 J;clear J;have z:=q2.o (y.d 6) (y.new);simp only[Bc]at z;subst z;have e8:=y.u 8;go_simp;exact B.o _ ⟨λh2=>absurd (.inr (y.d 5)) h2,λ_ h2=>absurd (.inr (y.d 6)) h2,λ_ h2=>absurd (.inl rfl) h2,λ_=>nW3,trivial⟩
    case hdone=>
     rintro w9 D hD ⟨q0,q1,q2,q3,_⟩;obtain rfl:=q3 (hD _);clear hD q0 q1 q2 q3 D;simp only[Bc,Cf,List.setIfInBounds_toArray,List.set_cons_succ,List.set_cons_zero];go_wp2;obtain⟨oc,oa,oe,fX⟩:=AmD d1.o d2.o d3.o h.m ⟨⟨A1,h.i,C1⟩,s2,⟨A3,h.o,D3⟩,⟨A7,h.b,D7⟩,⟨bF,h.c,bG⟩,⟨lA,h.a,lC⟩,Ap,.empty⟩ q 0 rfl;exact Il (Mv.end_ j.o eC dA.o (by have:=c3.o.lt;omega) eN eM rfl rfl dX.o (oc.dr (Dr.refl _).drew) (oa.dr (Dr.refl _).drew) (oe.dr (Dr.refl _).drew) fX.drew (by rfl) (by rfl) (by rfl))
theorem Aki {l:Txt} (h:Lib.indexByte l 10= -1):Le l=none:=by
 have:=Lib.indexByte_none h
 unfold Le;rw[if_neg];intro m;obtain⟨k,j⟩:=List.mem_iff_getElem?.1 m;exact this k j
theorem Aiq:∀ {l:Txt} {o:Nat},Lib.indexByte l 10=o->o<l.length/\Le l=some (l.take o,l.drop (o+1))
 | [],o,h=>by simp[Lib.indexByte]at h
 |b::l,o,h=>by
  unfold Lib.indexByte at h
  split at h
  ·rename_i j
   have j:b=10:=by simpa using j
   obtain rfl:o=0:=by omega
   subst j
   exact⟨by simp,by simp[Le]⟩
  rename_i j
  have j:b≠10:=by simpa using j
  split at h
  ·omega
  rename_i hi
  have m:=Lib.indexByte_ge l 10
  have hi:¬ Lib.indexByte l 10= -1:=by simpa using hi
  obtain⟨o',p⟩:∃ o':Nat,Lib.indexByte l 10=o':=⟨(Lib.indexByte l 10).toNat,by omega⟩;obtain⟨q,h2⟩:=Aiq p
  obtain rfl:o=o'+1:=by omega
  refine⟨by simp;omega,?_⟩;unfold Le at h2 ⊢
  split at h2
  ·rename_i hm
   injection h2 with h2;injection h2 with h3 h4;rw[if_pos (List.mem_cons_of_mem _ hm),List.takeWhile_cons_of_pos (by simpa using j),List.dropWhile_cons_of_pos (by simpa using j),h3,h4];rfl
  cases h2
theorem Pp (s:ByteArray) (p q:Nat):(s.extract p q).data.toList=(s.data.toList.drop p).take (q-p):=by
 have h:(s.extract p q).data=s.data.extract p q:=by
  rw[ByteArray.data_extract]
 rw[h,Array.toList_extract]
def AoN (s:ByteArray) (p:Nat) (w:World) (e:Ending) (w':World):Prop:=
 w'=w/\((∃nb q,Le (rest s p)=some (nb.data.toList,rest s q)/\p<q/\q<=s.size/\e= .returned (.tuple #[.string nb,.int .i64 (q:Nat),.int .i64 0]))∨(Le (rest s p)=none/\∃nb c,c≠0/\e= .returned (.tuple #[.string nb,.int .i64 0,.int .i64 c])))
theorem AgI (s:ByteArray) (p:Nat) (w:World) (hp:p<=s.size) (hs:s.size<=2000000):
  Calls Tryz.prog 89 #[.string s,.int .i64 p] w (AoN s p w):=by
 have I:=Ab (λW=>Ud s p W hp hs)
 have R:(s.size:Int)<=2000000:=by omega
 have O:(p:Int)<=s.size:=by omega
 have F:=Ab (Tryz.strings_IndexByte (s.extract p s.size) 10)
 have x:(s.extract p s.size).data.toList=rest s p:=by
  rw[Pp];unfold rest;exact List.take_of_length_le (by simp)
 have j:(rest s p).length=s.size-p:=by unfold rest;simp
 obtain⟨r,z⟩:∃ r,Lib.indexByte (s.extract p s.size).data.toList 10=r:=⟨_,rfl⟩
 have l:Lib.indexByte (rest s p) 10=r:=by rw[<-x];exact z
 have m:=Ab (show ∀w,Calls Tryz.prog 63 #[.string (s.extract p s.size),.int .u8 10] w λe J=>e= .returned (.int .i64 r)/\w=J from λw=>(F.o w).mono (λe J h=>⟨by rw[h.1];exact congrArg _ (congrArg _ z),h.2.symm⟩));clear F z;have q:=Lib.indexByte_ge (rest s p) 10;rw[l]at q
 by_cases U:r<0
 ·have y:=Ab (Aki (show Lib.indexByte (rest s p) 10= -1 by omega));clear l x j
  go_enter Tryz.func89,Tryz.ntmps89
  go_wp2_with fail
  refine(I.o _).mono ?_;rintro e B ⟨rfl,rfl⟩
  go_wp2_with fail
  refine(m.o _).mono ?_;rintro e B ⟨rfl,rfl⟩
  go_wp2_with fail
  go_ret3
  exact⟨rfl,.inr ⟨y.o,_,_,by decide,rfl⟩⟩
 obtain⟨o,rfl⟩:∃ o:Nat,r=o:=⟨r.toNat,by omega⟩;obtain⟨M,h2⟩:=Aiq l;rw[j]at M
 have D:(rest s p).drop (o+1)=rest s (p+o+1):=by unfold rest;rw[List.drop_drop];rfl
 have E:(s.extract p (p+o)).data.toList=(rest s p).take o:=by rw[Pp];unfold rest;rw[show p+o-p=o by omega]
 rw[D,<-E]at h2;replace h2:=Ab h2
 have N:(p:Int)+o+1<=s.size:=by omega
 have S:∀ W,(Instr.slice 9 (.string s) (some (.int .i64 (p:Int))) (some (.int .i64 ((p:Int)+o))) none).run Tryz.prog W= .ok (.string (s.extract p (p+o))) W:=λW=>by
  have:=run_slice_string (P:=Tryz.prog) W 9 s .i64 .i64 (p:Int) ((p:Int)+o) Tryz.underlying9 (by omega) (by omega) (by omega)
  rw[show((p:Int)).toNat=p by omega,show((p:Int)+o).toNat=p+o by omega]at this;exact this
 clear l x j D E
 go_enter Tryz.func89,Tryz.ntmps89
 go_wp2_with fail
 refine(I.o _).mono ?_;rintro e B ⟨rfl,rfl⟩
 go_wp2_with fail
 refine(m.o _).mono ?_;rintro e B ⟨rfl,rfl⟩
 go_wp2_with fail
 go_ret3
 exact⟨rfl,.inl ⟨_,p+o+1,h2.o,by omega,by omega,rfl⟩⟩
end Go.Proofs.YtmidbhnhcbpneaaGreatDoor.Top
end
