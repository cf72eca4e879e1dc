/- A part of the proof. -/
import Derived.Test.YtmidbhnhcbpneaaGreatDoorM3
import Derived.Test.YtmidbhnhcbpneaaGreatDoorM10
import Derived.Test.YtmidbhnhcbpneaaGreatDoorM9
import Derived.Test.YtmidbhnhcbpneaaGreatDoorM8
set_option linter.unusedVariables false
set_option linter.unusedSimpArgs false
set_option maxRecDepth 8000
set_option maxHeartbeats 8000000
section
namespace Go.Proofs.YtmidbhnhcbpneaaGreatDoor.Top
open Go Go.RowKit Go.Lt YtmidbhnhcbpneaaGreatDoor.Lit YtmidbhnhcbpneaaGreatDoor.Dec
open YtmidbhnhcbpneaaGreatDoor.Circ (T3 enc3 RdT Sl Cv Ae)
theorem Qd (w:World) (c1 c2:Array Value) (t1 t2:TypeId):∃ W,((w.alloc (.cells c1 t1)).alloc (.cells c2 t2))=W/\
  Blk W w.heap.size t1 c1/\Blk W (w.heap.size+1) t2 c2/\W.heap.size=w.heap.size+1+1/\Below w.heap.size w W:=by
 refine⟨_,rfl,(Blk.new2 rfl).alloc _,Blk.new2 (by simp),by simp,((Below.refl _ w).alloc (Nl _) _).alloc (by simp) _⟩
theorem Wj {w:World} {t:TypeId} {a:Value} {g:Nat} (hg:w.heap.size=g):RdS (w.alloc (.cells #[a] t)) (some ⟨g,0,none⟩) 1 1 [a]:=by
 subst hg;refine⟨rfl,.inr ⟨_,rfl,by simp,λk u j=>?_⟩⟩
 have:(⟨w.heap.size,0,none⟩:Addr).add k=⟨w.heap.size,k,none⟩:=by unfold Addr.add;split<;>simp_all
 rw[this,World.cell?_alloc_new]
 simpa using j
theorem Nk (nx:Nat) (k n2:Nat) (w:World) (hk:k<=1000000000) (hn2:n2=k+2) (hg:Blk w nx 3 #[.int .i64 k]):
  Calls Tryz.prog 113 #[.pointer (some ⟨nx,0,none⟩)] w λe p=>e= .returned (.int .i64 (n2:Nat))/\p=w.setCell ⟨nx,0,none⟩ (.int .i64 (n2:Nat)):=by
 have q:=hg.cell 0;have x:=hg.frozen 0
 have m:(k:Int)<=1000000000:=by omega
 have l:(n2:Int)=(k:Int)+2:=by omega
 rw[l];have j:=hg.set_ 0 (.int .i64 ((k:Int)+2));have r:=j.cell 0;clear l hg j hk hn2
 go_enter Tryz.func113,Tryz.ntmps113
 go_wp2;go_ret
 exact⟨rfl,rfl⟩
def AhU (tg:Nat) (s:ByteArray) (p:Nat) (h:Hd) (w:World) (e:Ending) (w':World):Prop:=
 Fr (λq=>q=tg) w w'/\∃v,e= .returned (.agg (Ae h.m v))/\((∃c q,Hc h (rest s p)=some (c,rest s q)/\TxS w' tg s (some q)/\Fi w.heap.size w' v c/\v.sym=Ap/\v.com= .empty)∨(Hc h (rest s p)=none/\TxS w' tg s none))
theorem Aon {st:Option Nat} {p:Nat} {e:Int} (h:(e=0/\st=some p)∨(e≠0/\st=none)) (h0:¬ e=0):st=none:=by
 rcases h with⟨h,_⟩|⟨_,h⟩
 ·exact absurd h h0
 exact h
structure Hq (s:ByteArray) (h:Hd) (tg co nx next:Nat) (st:Option Nat) (v:Cv) (c:Cir) (W7 W:World):Prop where
 txs:TxS W tg s st
 o:Blk W co 31 (Ae h.m v)
 nxt:Blk W nx 3 #[.int .i64 (next:Nat)]
 own:Fi W7.heap.size W v c
 fr:Fr (λq=>q=tg∨q=co∨q=nx) W7 W
structure Apart (tg co nx n:Nat):Prop where
 t:tg<n
 c:co<n
 x:nx<n
 tc:tg≠co
 tx:tg≠nx
 cx:co≠nx
section
variable {s:ByteArray} {h:Hd} {tg co nx next:Nat} {st:Option Nat} {v:Cv} {c:Cir} {W7 W:World}
theorem Fi.low {B:Nat} {W W':World} {v:Cv} {c:Cir} {S:Nat->Prop} (h:Fi B W v c) (hf:Fr S W W') (hS:∀ k,S k->k<B):Fi B W' v c:=h.fr hf (λk j=> .inl (hS k j))
theorem Hq.below {W':World} (hB:Hq s h tg co nx next st v c W7 W) (ha:Apart tg co nx W7.heap.size) (hb:Below W.heap.size W W'):Hq s h tg co nx next st v c W7 W':=by
 have j:=hB.fr.size
 have:=ha.t
 have:=ha.c
 have:=ha.x
 exact⟨hB.txs.below hb (by omega),hB.o.below hb (by omega),hB.nxt.below hb (by omega),hB.own.below hb,hB.fr.thenB (hb.mono j)⟩
theorem Hq.lit (hB:Hq s h tg co nx next st v c W7 W) (ha:Apart tg co nx W7.heap.size) (n2:Nat):Hq s h tg co nx n2 st v c W7 (W.setCell ⟨nx,0,none⟩ (.int .i64 (n2:Nat))):=by
 have j:=(Fr.refl (λq=>q=nx) W).set (p:=⟨nx,0,none⟩) rfl (.int .i64 (n2:Nat))
 exact⟨hB.txs.fr j ha.tx,hB.o.far (p:=⟨nx,0,none⟩) ha.cx _,hB.nxt.set_ 0 _,hB.own.low j (λk l=>by rw[l];exact ha.x),hB.fr.set (p:=⟨nx,0,none⟩) (.inr (.inr rfl)) _⟩
theorem Hq.text {st':Option Nat} {W':World} (hB:Hq s h tg co nx next st v c W7 W) (ha:Apart tg co nx W7.heap.size) (hf:Fr (λq=>q=tg) W W') (hx:TxS W' tg s st'):Hq s h tg co nx next st' v c W7 W':=
 ⟨hx,hf.blk hB.o (λe=>ha.tc e.symm),hf.blk hB.nxt (λe=>ha.tx e.symm),hB.own.low hf (λk j=>by rw[j];exact ha.t),hB.fr.trans (Fr.more hf (λ_ _ h=> .inl h))⟩
theorem Hq.put {w6:World} {v':Cv} {c':Cir} {i:Nat} {u:Value} (hB:Hq s h tg co nx next st v c W7 W) (ha:Apart tg co nx W7.heap.size) (hb:Below W7.heap.size W w6) (hown:Fi W7.heap.size w6 v' c') (hc:(Ae (h.m:Int) v).setIfInBounds i u=Ae h.m v'):
  w6.cell? ⟨co,i,none⟩=(Ae (h.m:Int) v)[i]?/\w6.frozen? ⟨co,i,none⟩=false/\Hq s h tg co nx next st v' c' W7 (w6.setCell ⟨co,i,none⟩ u):=by
 have j:=hB.o.below hb ha.c;have l:=(Fr.refl (λq=>q=co) w6).set (p:=⟨co,i,none⟩) rfl u
 exact⟨j.cell i,j.frozen i,(hB.txs.below hb ha.t).fr l ha.tc,by rw[<-hc];exact j.set_ i u,(hB.nxt.below hb ha.x).far (p:=⟨co,i,none⟩) (λe=>ha.cx e.symm) _,hown.low l (λk r=>by rw[r];exact ha.c),(hB.fr.thenB hb).set (p:=⟨co,i,none⟩) (.inr (.inl rfl)) _⟩
end
def ApD (s:ByteArray) (h:Hd) (p:Nat) (st:Option Nat) (v:Cv) (c:Cir):Prop:=(∃q,st=some q/\Hc h (rest s p)=some (c,rest s q)/\v.sym=Ap/\v.com= .empty)∨(st=none/\Hc h (rest s p)=none)
theorem AdN {s:ByteArray} {h:Hd} {p tg co nx next n0:Nat} {st:Option Nat} {v:Cv} {c:Cir} {w W7 W l:World} {tmps:Array Value} {x0 x1 x2 x3 x4 x5 x6 x7 x8:Value} (hB:Hq s h tg co nx next st v c W7 W) (ha:Apart tg co nx W7.heap.size) (hn0:w.heap.size=n0) (hbl:Below n0 w W7) (n1:n0+1<W7.heap.size) (hco:n0+1<co) (hnx:n0+1<nx) (htl:tg<n0) (hst:ApD s h p st v c)
  (b1:Blk W (n0+1) 31 #[x0,x1,x2,x3,x4,x5,x6,x7,x8]) (hW:l=(((((((((W.setCell ⟨n0+1,0,none⟩ (.int .i64 h.m)).setCell ⟨n0+1,1,none⟩ (sv v.ins)).setCell ⟨n0+1,2,none⟩ (sv v.lat)).setCell ⟨n0+1,3,none⟩ (sv v.outs)).setCell ⟨n0+1,4,none⟩ (sv v.bads)).setCell ⟨n0+1,5,none⟩ (sv v.cons)).setCell ⟨n0+1,6,none⟩ (sv v.gat)).setCell ⟨n0+1,7,none⟩ (sv v.sym)).setCell ⟨n0+1,8,none⟩ (.string v.com)))
  (h4:tmps[4]?=some (.pointer (some ⟨n0+1,0,none⟩))):bodyPost Tryz.prog Tryz.f86 (AhU tg s p h w) .ret {tmps:=tmps,defers:=[]} l:=by
 subst hW;have B:=Xj b1 (.int .i64 h.m) (sv v.ins) (sv v.lat) (sv v.outs) (sv v.bads) (sv v.cons) (sv v.gat) (sv v.sym) (.string v.com);have r:=fr9 (Fr.refl (λq=>q=n0+1) W) rfl (.int .i64 h.m) (sv v.ins) (sv v.lat) (sv v.outs) (sv v.bads) (sv v.cons) (sv v.gat) (sv v.sym) (.string v.com);generalize (((((((((W.setCell ⟨n0+1,0,none⟩ (.int .i64 h.m)).setCell ⟨n0+1,1,none⟩ (sv v.ins)).setCell ⟨n0+1,2,none⟩ (sv v.lat)).setCell ⟨n0+1,3,none⟩ (sv v.outs)).setCell ⟨n0+1,4,none⟩ (sv v.bads)).setCell ⟨n0+1,5,none⟩ (sv v.cons)).setCell ⟨n0+1,6,none⟩ (sv v.gat)).setCell ⟨n0+1,7,none⟩ (sv v.sym)).setCell ⟨n0+1,8,none⟩ (.string v.com))=l at*;obtain⟨D,E,d2,F,I,J,M,N,O⟩:=c9c B;have j:=hB.txs.fr r (by omega);have X:=hB.fr.size
 have y:Fr (λq=>q=tg) w l:=by
  have R:Fr (λq=>q=tg) w W7:=Fr.of_below (by rw[hn0];exact hbl);have S:=R.then hB.fr (λi hi z=>by rcases z with h|h|h;all_goals first|exact h|omega);exact S.then r (λi hi z=>by omega)
 refine bodyPost_ret (v:= .agg (Ae h.m v)) ?_ rfl ⟨y,v,rfl,?_⟩
 ·simp[results,Tryz.results86,go_sem,h4,D,E,d2,F,I,J,M,N,O]
 rcases hst with⟨q,rfl,x,h2,U⟩|⟨rfl,x⟩
 ·exact .inl ⟨c,q,x,j,(hB.own.low r (λk Y=>by omega)).base (by omega),h2,U⟩
 exact .inr ⟨x,j⟩
def Agq (s:ByteArray) (top:Nat) (st:Option Nat) (n:Nat) (st':Option Nat):Prop:=(∃p q,st=some p/\Gi top (rest s p)=some (n,rest s q)/\st'=some q)∨((∀p,st=some p->Gi top (rest s p)=none)/\n=0/\st'=none)
theorem AmF.get {tg top:Nat} {s:ByteArray} {st:Option Nat} {w w':World} {e:Ending} (h:AmF tg s st top w e w'):Fr (λq=>q=tg) w w'/\∃n st',e= .returned (.int .i64 (n:Nat))/\TxS w' tg s st'/\Agq s top st n st':=by
 obtain⟨m,⟨p,n,q,j,h2,l,r⟩|⟨j,h2,l⟩⟩:=h
 ·exact⟨m,n,some q,l,r,.inl ⟨p,q,j,h2,rfl⟩⟩
 exact⟨m,0,none,h2,l,.inr ⟨j,rfl,rfl⟩⟩
def Aee (s:ByteArray) (cs:Txt) (st:Option Nat) (b:UInt8) (st':Option Nat):Prop:=(∃p,st=some p/\Dv cs (rest s p)=some (b,rest s (p+1))/\st'=some (p+1))∨((∀p,st=some p->Dv cs (rest s p)=none)/\b=0/\st'=none)
theorem Amk.get {tg:Nat} {s:ByteArray} {cs:Txt} {st:Option Nat} {w w':World} {e:Ending} (h:Amk tg s st cs w e w'):Fr (λq=>q=tg) w w'/\∃b st',e= .returned (.int .u8 (bt b))/\TxS w' tg s st'/\Aee s cs st b st':=by
 obtain⟨m,⟨p,b,j,_,h2,l,r⟩|⟨j,h2,l⟩⟩:=h
 ·exact⟨m,b,some (p+1),l,r,.inl ⟨p,j,h2,rfl⟩⟩
 exact⟨m,0,none,h2,l,.inr ⟨j,rfl,rfl⟩⟩
def Yz (s:ByteArray) (h:Hd) (p k:Nat) (l:List N3) (st:Option Nat):Prop:=(∃q,st=some q/\Og (Cz (2*h.m+1)) (2+2*h.i) (rest s p) k l (rest s q))∨(st=none/\Hc h (rest s p)=none)
section
variable {s:ByteArray} {h:Hd} {p k n n2 n3 top:Nat} {l:List N3} {st st1 st2 st3 st4:Option Nat} {b b4:UInt8}
theorem Aee.mem (h:Aee s [32,10] st b st1):b=32∨b=10∨b=0:=by
 rcases h with⟨p,_,h,_⟩|⟨_,h,_⟩
 ·have:=Jb h
  simp only[List.mem_cons,List.not_mem_nil,or_false]at this
  rcases this with h|h
  ·exact .inl h
  exact .inr (.inl h)
 exact .inr (.inr h)
theorem AeY {t u:Txt} {b:UInt8} (h:Dv [32,10] t=some (b,u)):b≠0:=by
 have:=Jb h
 simp only[List.mem_cons,List.not_mem_nil,or_false]at this
 rcases this with rfl|rfl<;>decide
theorem Yz.stop (hL:Yz s h p k l st) (hk:k<h.l) (hd:Agq s (2*h.m+1) st n st1) (hs:Aee s [32,10] st1 0 st2):Hc h (rest s p)=none:=by
 rcases hL with⟨q,rfl,x⟩|⟨_,r⟩
 ·refine AhA (x.fail (Ki _) ?_ hk)
  rcases hd with⟨B,E,j,h2,rfl⟩|⟨j,_,_⟩
  ·injection j with j;subst j
   rcases hs with⟨D,y,z,_⟩|⟨y,_,_⟩
   ·exact absurd rfl (AeY z)
   exact Ahg h2 (y _ rfl)
  exact AgW (j _ rfl)
 exact r
theorem Yz.two (hL:Yz s h p k l st) (hn2:n2=2*h.i+2*k+2) (hd:Agq s (2*h.m+1) st n st1) (hs:Aee s [32,10] st1 10 st2):Yz s h p (k+1) (l++ [⟨n2,n,0⟩]) st2:=by
 rcases hs with⟨B,rfl,y,rfl⟩|⟨_,x,_⟩
 ·rcases hd with⟨z,D,rfl,h2,j⟩|⟨_,_,j⟩
  ·injection j with j;subst j
   rcases hL with⟨q,j,r⟩|⟨j,_⟩
   ·injection j with j;subst j;refine .inl ⟨_,rfl,r.step (Ki _) ?_⟩;rw[show 2+2*h.i+2*k=n2 by omega];exact Age h2 y
   cases j
  cases j
 exact absurd x (by decide)
theorem Yz.three (hL:Yz s h p k l st) (hk:k<h.l) (hn2:n2=2*h.i+2*k+2) (hd:Agq s (2*h.m+1) st n st1) (hs:Aee s [32,10] st1 32 st2) (hd3:Agq s (2*h.m+1) st2 n3 st3) (hs4:Aee s [10] st3 b4 st4):Yz s h p (k+1) (l++ [⟨n2,n,n3⟩]) st4:=by
 have B:2+2*h.i+2*k=n2:=by omega
 rcases hs with⟨M,rfl,D,rfl⟩|⟨_,F,_⟩
 ·rcases hd with⟨O,S,rfl,h2,j⟩|⟨_,_,j⟩
  ·injection j with j;subst j
   rcases hL with⟨q,j,z⟩|⟨j,_⟩
   ·injection j with j;subst j;have x:Bv (2*h.m+1) [10] (rest s (M+1))=none->Yz s h p (k+1) (l++ [⟨n2,n,n3⟩]) none:=λJ=> .inr ⟨rfl,AhA (z.fail (Ki _) (by rw[B];exact Ahf h2 D J) hk)⟩
    rcases hd3 with⟨R,U,y,E,rfl⟩|⟨y,_,rfl⟩
    ·injection y with y;subst y
     rcases hs4 with⟨N,r,I,rfl⟩|⟨r,_,rfl⟩
     ·injection r with r;subst r;refine .inl ⟨_,rfl,z.step (Ki _) ?_⟩;rw[B];refine AdA (b:=b4) h2 D ?_;unfold Bv;rw[E];simp only[Option.bind_some];rw[I];rfl
     refine x ?_;unfold Bv;rw[E];simp only[Option.bind_some];rw[r _ rfl];rfl
    rcases hs4 with⟨N,r,_,_⟩|⟨_,_,rfl⟩
    ·cases r
    refine x ?_;unfold Bv;rw[y _ rfl];rfl
   cases j
  cases j
 exact absurd F (by decide)
end
theorem Aee.none_ {s:ByteArray} {st st':Option Nat} (h:Aee s [32,10] st 0 st'):st'=none:=by
 rcases h with⟨p,_,h,_⟩|⟨_,_,h⟩
 ·exact absurd rfl (AeY h)
 exact h
theorem Hq.latch {s:ByteArray} {h:Hd} {tg co nx next k lC:Nat} {lA:Option Addr} {st:Option Nat} {s1:Sl} {li:List Nat} {l:List N3} {x:N3} {W7 Wc w6:World} {o:Obj} {v6:Value} (hB:Hq s h tg co nx next st ⟨s1,⟨lA,k,lC⟩,Ap,Ap,Ap,Ap,Ap,.empty⟩ ⟨h.m,li,l,[],[],[],[]⟩ W7 Wc) (ha:Apart tg co nx W7.heap.size) (hl:l.length=k)
  (hown:w6.ownsRow W7.heap.size 59 3 v6 (k+1) (Iv l++ [.int .i64 (x.a:Nat),.int .i64 (x.b:Nat),.int .i64 (x.c:Nat)])) (hb:Below W7.heap.size Wc w6) (hg:(Wc.alloc o).grownBy w6 (sv ⟨lA,k,lC⟩).ownBlock):
  ∃j:Sl,v6=sv j/\w6.cell? ⟨co,2,none⟩=some (.slice lA k lC)/\w6.frozen? ⟨co,2,none⟩=false/\Hq s h tg co nx next st ⟨s1,j,Ap,Ap,Ap,Ap,Ap,.empty⟩ ⟨h.m,li,l++ [x],[],[],[],[]⟩ W7 (w6.setCell ⟨co,2,none⟩ (sv j)):=by
 obtain⟨j,rfl,z⟩:=Be hown;have r:=hB.own.pushLat hg (s:=j) (x:=x) hl.symm hown;obtain⟨q,y,p⟩:=hB.put ha hb (i:=2) (u:=sv j) r rfl
 exact⟨j,rfl,q,y,p⟩
theorem Pi {S:Nat->Prop} {a b:World} (f:Fr S a b) {base size n:Nat} {e:TypeId} {v:Value} {xs:List Value} (ho:a.ownsRow base e size v n xs) (hS:∀ k,S k->k<base):b.ownsRow base e size v n xs:=f.own ho (λg l j=>by
 rcases ho.2 with⟨rfl,_⟩|⟨q,m,p,rfl,hle,_⟩
 ·simp[Value.ownBlock]at l
 simp[Value.ownBlock]at l;have:=hS g j;omega)
def Agj (s:ByteArray) (top many:Nat) (st:Option Nat) (l:List Nat) (st':Option Nat):Prop:=(∃p q,st=some p/\Bi top many (rest s p)=some (l,rest s q)/\st'=some q)∨((∀p,st=some p->Bi top many (rest s p)=none)/\st'=none)
theorem Alc.get {tg top many:Nat} {s:ByteArray} {st:Option Nat} {w w':World} {e:Ending} (h:Alc tg s st top many w e w'):Fr (λq=>q=tg) w w'/\∃l v st',e= .returned v/\w'.ownsRow w.heap.size 3 1 v l.length (nvs l)/\TxS w' tg s st'/\Agj s top many st l st':=by
 obtain⟨m,l,v,rfl,r,⟨p,q,j,h2,x⟩|⟨j,h2⟩⟩:=h
 ·exact⟨m,l,v,some q,rfl,r,x,.inl ⟨p,q,j,h2,rfl⟩⟩
 exact⟨m,l,v,none,rfl,r,h2,.inr ⟨j,rfl⟩⟩
def Agu (s:ByteArray) (least top:Nat) (st:Option Nat) (n:Nat) (st':Option Nat):Prop:=(∃p q,st=some p/\Do least top (rest s p)=some (n,rest s q)/\st'=some q)∨((∀p,st=some p->Do least top (rest s p)=none)/\n=0/\st'=none)
theorem Amp.get {tg least top:Nat} {s:ByteArray} {st:Option Nat} {w w':World} {e:Ending} (h:Amp tg s st least top w e w'):Fr (λq=>q=tg) w w'/\∃n st',e= .returned (.int .i64 (n:Nat))/\TxS w' tg s st'/\Agu s least top st n st':=by
 obtain⟨m,⟨p,n,q,j,h2,l,r⟩|⟨j,h2,l⟩⟩:=h
 ·exact⟨m,n,some q,l,r,.inl ⟨p,q,j,h2,rfl⟩⟩
 exact⟨m,0,none,h2,l,.inr ⟨j,rfl,rfl⟩⟩
theorem Agu.le {s:ByteArray} {least top n:Nat} {st st':Option Nat} (h:Agu s least top st n st'):n<=top:=by
 rcases h with⟨p,q,_,h,_⟩|⟨_,rfl,_⟩
 ·exact(AlF h).2
 exact Nat.zero_le _
structure Apu (s:ByteArray) (h:Hd) (p:Nat) (l:List N3) (lo lb lc:List Nat) (q5:Nat) (t2 t3 t4:Txt):Prop where
 lat:Cz (2*h.m+1) h.l (2+2*h.i) (rest s p)=some (l,t2)
 outs:Bi (2*h.m+1) h.o t2=some (lo,t3)
 bads:Bi (2*h.m+1) h.b t3=some (lb,t4)
 cons:Bi (2*h.m+1) h.c t4=some (lc,rest s q5)
def AdS (s:ByteArray) (h:Hd) (p:Nat) (l:List N3) (lo lb lc:List Nat) (k:Nat) (g:List N3) (st:Option Nat):Prop:=
 (∃q q5 t2 t3 t4,st=some q/\Apu s h p l lo lb lc q5 t2 t3 t4/\Og Ib (2+2*h.i+2*h.l) (rest s q5) k g (rest s q))∨(st=none/\Hc h (rest s p)=none)
section
variable {s:ByteArray} {h:Hd} {p k n2 d d2:Nat} {l g:List N3} {lo lb lc:List Nat} {st st1 st2 st3:Option Nat}
theorem Yz.gats (hL:Yz s h p h.l l st) (B:Agj s (2*h.m+1) h.o st lo st1) (y:Agj s (2*h.m+1) h.b st1 lb st2) (x:Agj s (2*h.m+1) h.c st2 lc st3):AdS s h p l lo lb lc 0 [] st3:=by
 rcases hL with⟨q,rfl,F⟩|⟨rfl,D⟩
 ·have r:=F.done (λ_ _=>rfl)
  rcases B with⟨z,J,j,B,rfl⟩|⟨j,rfl⟩
  ·injection j with j;subst j
   rcases y with⟨z,I,j,y,rfl⟩|⟨j,rfl⟩
   ·injection j with j;subst j
    rcases x with⟨z,E,j,x,rfl⟩|⟨j,rfl⟩
    ·injection j with j;subst j;exact .inl ⟨_,E,_,_,_,rfl,⟨r,B,y,x⟩,Og.zero _ _⟩
    exact .inr ⟨rfl,AnT r B y (j _ rfl)⟩
   rcases x with⟨z,E,h2,x,rfl⟩|⟨_,rfl⟩
   ·cases h2
   exact .inr ⟨rfl,AnR r B (j _ rfl)⟩
  rcases y with⟨z,I,h2,y,rfl⟩|⟨_,rfl⟩
  ·cases h2
  rcases x with⟨z,E,h2,x,rfl⟩|⟨_,rfl⟩
  ·cases h2
  exact .inr ⟨rfl,AmX r (j _ rfl)⟩
 rcases B with⟨z,J,j,B,rfl⟩|⟨_,rfl⟩
 ·cases j
 rcases y with⟨z,I,h2,y,rfl⟩|⟨_,rfl⟩
 ·cases h2
 rcases x with⟨z,E,h2,x,rfl⟩|⟨_,rfl⟩
 ·cases h2
 exact .inr ⟨rfl,D⟩
theorem AdS.stop (hG:AdS s h p l lo lb lc k g st) (hk:k<h.a) (hn2:n2=2*h.i+2*h.l+2*k+2) (j:Agu s 1 n2 st d st1) (h2:Agu s 0 (n2-d) st1 d2 none):Hc h (rest s p)=none:=by
 rcases hG with⟨q,D,E,F,I,rfl,x,y⟩|⟨_,r⟩
 ·refine AnK x.lat x.outs x.bads x.cons (y.fail Yi ?_ hk);rw[show 2+2*h.i+2*h.l+2*k=n2 by omega]
  rcases j with⟨z,B,m,j,rfl⟩|⟨j,_⟩
  ·injection m with m;subst m
   rcases h2 with⟨_,_,_,_,m⟩|⟨h2,_⟩
   ·cases m
   exact AiR j (h2 _ rfl)
  exact Ajm (j _ rfl)
 exact r
theorem AdS.step {q2:Nat} (hG:AdS s h p l lo lb lc k g st) (hn2:n2=2*h.i+2*h.l+2*k+2) (m:Agu s 1 n2 st d st1) (h2:Agu s 0 (n2-d) st1 d2 (some q2)):AdS s h p l lo lb lc (k+1) (g++ [⟨n2,n2-d,n2-d-d2⟩]) (some q2):=by
 rcases h2 with⟨F,_,rfl,h2,j⟩|⟨_,_,j⟩
 ·injection j with j;subst j
  rcases m with⟨E,I,rfl,m,j⟩|⟨_,_,j⟩
  ·injection j with j;subst j
   rcases hG with⟨q,y,z,B,D,j,x,r⟩|⟨j,_⟩
   ·injection j with j;subst j;refine .inl ⟨_,y,z,B,D,rfl,x,r.step Yi ?_⟩;rw[show 2+2*h.i+2*h.l+2*k=n2 by omega];exact AjL m h2
   cases j
  cases j
 cases j
theorem AdS.end_ {sl1 sl2 sa sb sc sg:Sl} (hG:AdS s h p l lo lb lc h.a g st):ApD s h p st ⟨sl1,sl2,sa,sb,sc,sg,Ap,.empty⟩ ⟨h.m,evens h.i 2,l,lo,lb,lc,g⟩:=by
 rcases hG with⟨q,y,z,B,D,rfl,r,x⟩|⟨rfl,j⟩
 ·exact .inl ⟨q,rfl,Ana r.lat r.outs r.bads r.cons (x.done (λ_ _=>rfl)),rfl,rfl⟩
 exact .inr ⟨rfl,j⟩
end
theorem Hq.three {s:ByteArray} {h:Hd} {tg co nx next:Nat} {st:Option Nat} {s1 s2 a b c:Sl} {li lo lb lc:List Nat} {l:List N3} {W7 W:World} (hB:Hq s h tg co nx next st ⟨s1,s2,Ap,Ap,Ap,Ap,Ap,.empty⟩ ⟨h.m,li,l,[],[],[],[]⟩ W7 W) (ha:Apart tg co nx W7.heap.size)
  (o3:W.ownsRow W7.heap.size 3 1 (sv a) lo.length (nvs lo)) (o7:W.ownsRow W7.heap.size 3 1 (sv b) lb.length (nvs lb)) (o11:W.ownsRow W7.heap.size 3 1 (sv c) lc.length (nvs lc)):
  Hq s h tg co nx next st ⟨s1,s2,a,b,c,Ap,Ap,.empty⟩ ⟨h.m,li,l,lo,lb,lc,[]⟩ W7 (((W.setCell ⟨co,3,none⟩ (sv a)).setCell ⟨co,4,none⟩ (sv b)).setCell ⟨co,5,none⟩ (sv c)):=by
 have r:∀ (W:World) (i:Nat) (u:Value) {v:Value} {n:Nat} {xs:List Value},W.ownsRow W7.heap.size 3 1 v n xs->(W.setCell ⟨co,i,none⟩ u).ownsRow W7.heap.size 3 1 v n xs:=λW i u _ _ _ h=>Pi ((Fr.refl (λq=>q=co) W).set (p:=⟨co,i,none⟩) rfl u) h (λk x=>by rw[x];exact ha.c);obtain⟨_,_,j⟩:=hB.put ha (Below.refl _ _) (v':=⟨s1,s2,a,Ap,Ap,Ap,Ap,.empty⟩) (c':=⟨h.m,li,l,lo,[],[],[]⟩) (i:=3) (u:=sv a) ⟨hB.own.ins,hB.own.lat,o3,Bd,Bd,Bd⟩ rfl;obtain⟨_,_,h2⟩:=j.put ha (Below.refl _ _) (v':=⟨s1,s2,a,b,Ap,Ap,Ap,.empty⟩) (c':=⟨h.m,li,l,lo,lb,[],[]⟩) (i:=4) (u:=sv b) ⟨j.own.ins,j.own.lat,j.own.outs,r _ _ _ o7,Bd,Bd⟩ rfl
 exact(h2.put ha (Below.refl _ _) (v':=⟨s1,s2,a,b,c,Ap,Ap,.empty⟩) (c':=⟨h.m,li,l,lo,lb,lc,[]⟩) (i:=5) (u:=sv c) ⟨h2.own.ins,h2.own.lat,h2.own.outs,h2.own.bads,r _ _ _ (r _ _ _ o11),Bd⟩ rfl).2.2
theorem Hq.gate {s:ByteArray} {h:Hd} {tg co nx next k lC:Nat} {lA:Option Addr} {st:Option Nat} {s1 s2 sa sb sc:Sl} {li lo lb lc:List Nat} {ll l:List N3} {x:N3} {W7 Wc w6:World} {o:Obj} {v6:Value} (hB:Hq s h tg co nx next st ⟨s1,s2,sa,sb,sc,⟨lA,k,lC⟩,Ap,.empty⟩ ⟨h.m,li,ll,lo,lb,lc,l⟩ W7 Wc) (ha:Apart tg co nx W7.heap.size) (hl:l.length=k)
  (hown:w6.ownsRow W7.heap.size 62 3 v6 (k+1) (Iv l++ [.int .i64 (x.a:Nat),.int .i64 (x.b:Nat),.int .i64 (x.c:Nat)])) (hb:Below W7.heap.size Wc w6) (hg:(Wc.alloc o).grownBy w6 (sv ⟨lA,k,lC⟩).ownBlock):
  ∃j:Sl,v6=sv j/\w6.cell? ⟨co,6,none⟩=some (.slice lA k lC)/\w6.frozen? ⟨co,6,none⟩=false/\Hq s h tg co nx next st ⟨s1,s2,sa,sb,sc,j,Ap,.empty⟩ ⟨h.m,li,ll,lo,lb,lc,l++ [x]⟩ W7 (w6.setCell ⟨co,6,none⟩ (sv j)):=by
 obtain⟨j,rfl,z⟩:=Be hown;have r:=hB.own.pushGat hg (s:=j) (x:=x) hl.symm hown;obtain⟨q,y,p⟩:=hB.put ha hb (i:=6) (u:=sv j) r rfl
 exact⟨j,rfl,q,y,p⟩
def ApY (s:ByteArray) (h:Hd) (p tg co nx:Nat) (s1 s2 sa sb sc:Sl) (ll:List N3) (lo lb lc:List Nat) (W7:World) (k:Nat) (W:World):Prop:=
 ∃st l sl,Hq s h tg co nx (2*h.i+2*h.l+2*k) st ⟨s1,s2,sa,sb,sc,sl,Ap,.empty⟩ ⟨h.m,evens h.i 2,ll,lo,lb,lc,l⟩ W7 W/\l.length=k/\AdS s h p ll lo lb lc k l st
def Aqb (s:ByteArray) (h:Hd) (p tg co nx:Nat) (s1:Sl) (W7:World) (k:Nat) (W:World):Prop:=
 ∃st l sl,Hq s h tg co nx (2*h.i+2*k) st ⟨s1,sl,Ap,Ap,Ap,Ap,Ap,.empty⟩ ⟨h.m,evens h.i 2,l,[],[],[],[]⟩ W7 W/\l.length=k/\Yz s h p k l st
theorem AeQ (tg:Nat) (h:Hd) (s:ByteArray) (p:Nat) (w:World) (hs:s.size<=2000000) (ht:Nq h) (hg:TxS w tg s (some p)):
  Calls Tryz.prog 86 #[.iface 156 (.pointer (some ⟨tg,0,none⟩)),.agg (Bt h)] w (AhU tg s p h w):=by
 obtain⟨W2,cL,b0,b1,fA,dB⟩:=Qd w (Bt h) #[.int .i64 0,.slice none 0 0,.slice none 0 0,.slice none 0 0,.slice none 0 0,.slice none 0 0,.slice none 0 0,.slice none 0 0,.string ⟨#[]⟩] 47 31;replace cL:=Ab cL
 have gR:(h.m:Int)<=16777216:=by have:=ht.m;omega
 have cP:tg<w.heap.size:=by obtain⟨_,_,hx⟩:=hg.tx;exact hx.lt
 go_enter Tryz.func86,Tryz.ntmps86
 go_upto_region 1 with fail
 rw[cL.o];clear cL
 have dJ:w.heap.size<=W2.heap.size:=by omega
 generalize dH:w.heap.size=n0 at*;have m1:=b0.cell 1
 apply Ed [_,_,_,_,_,_,_,undef,undef,undef,undef,_] [13,14,15,16,17,18,19,5,6,7] (λvs D g wz=>(Below W2.heap.size W2.drew wz)/\(D 0->g 13=Bl vs 0)/\(D 1->g 14=Bl vs 1)/\(D 2->g 15=Bl vs 2)/\(D 3->g 16=Bl vs 3)/\(D 4->g 17=Bl vs 4)/\(D 5->g 18=Bl vs 5)/\(D 6->g 19=Bl vs 6)/\(D 7->∃b x0 x1 x2 x3 x4 x5 x6 x7 x8,W2.heap.size<=b/\g 5= .pointer (some ⟨b,0,none⟩)/\Blk wz b 31 #[x0,x1,x2,x3,x4,x5,x6,x7,x8])/\(D 8->∃b x,W2.heap.size<=b/\g 6= .pointer (some ⟨b,0,none⟩)/\Blk wz b 3 #[x])/\(D 9->∃b,W2.heap.size<=b/\g 5= .pointer (some ⟨b,0,none⟩)/\Blk wz b 31 (Ae h.m Vj))/\(D 10->∃b,W2.heap.size<=b/\g 6= .pointer (some ⟨b,0,none⟩)/\Blk wz b 3 #[.int .i64 (0:Nat)])/\(D 11->g 7=Bl vs 11)/\True) 12 120 (by kernel_rfl) (by kernel_rfl) rfl rfl (by kernel_rfl)
 case h0=>exact⟨Below.refl _ _,nt0,nt0,nt0,nt0,nt0,nt0,nt0,nt0,nt0,nt0,nt0,nt0,trivial⟩
 case hstep=>
  refine⟨⟨⟨⟨⟨⟨⟨⟨⟨⟨⟨⟨trivial,?s0⟩,?s1⟩,?s2⟩,?s3⟩,?s4⟩,?s5⟩,?s6⟩,?s7⟩,?s8⟩,?s9⟩,?s10⟩,?s11⟩
  case s0=>
   refine sst λD g wz az R hI K y=>?_;obtain⟨hb,f0,f1,f2,f3,f4,f5,f6,f7,f8,f9,U,O,_⟩:=hI;have e3:=R.u 3;go_simp;exact y.o _ _ ⟨hb,λ_=>Aj.trans rfl,kp f1,kp f2,kp f3,kp f4,kp f5,kp f6,kp f7,kp f8,kp f9,kp U,kp O,trivial⟩
  case s1=>
   refine sst λD g wz az R hI K y=>?_;obtain⟨hb,f0,f1,f2,f3,f4,f5,f6,f7,f8,f9,U,O,_⟩:=hI;have cz:=(hb.cell (p:=⟨n0,1,none⟩) b0.lt).trans m1;have gG:=R.t 13 (f0 (R.d 0));go_simp;exact y.o _ _ ⟨hb,kp f0,λ_=>Aj.trans rfl,kp f2,kp f3,kp f4,kp f5,kp f6,kp f7,kp f8,kp f9,kp U,kp O,trivial⟩
  case s2=>
   refine sst λD g wz az R hI K y=>?_;obtain⟨hb,f0,f1,f2,f3,f4,f5,f6,f7,f8,f9,U,O,_⟩:=hI;have eW:=R.t 14 (f1 (R.d 1));have fI:=eW;rw[Array.getD_eq_getD_getElem?]at fI;go_simp;exact y.o _ _ ⟨hb,kp f0,kp f1,λ_=>Aj.trans rfl,kp f3,kp f4,kp f5,kp f6,kp f7,kp f8,kp f9,kp U,kp O,trivial⟩
  case s3=>
   refine sst λD g wz az R hI K y=>?_;obtain⟨hb,f0,f1,f2,f3,f4,f5,f6,f7,f8,f9,U,O,_⟩:=hI;have e3:=R.u 3;go_simp;exact y.o _ _ ⟨hb,kp f0,kp f1,kp f2,λ_=>Aj.trans rfl,kp f4,kp f5,kp f6,kp f7,kp f8,kp f9,kp U,kp O,trivial⟩
  case s4=>
   refine sst λD g wz az R hI K y=>?_;obtain⟨hb,f0,f1,f2,f3,f4,f5,f6,f7,f8,f9,U,O,_⟩:=hI;have cz:=(hb.cell (p:=⟨n0,1,none⟩) b0.lt).trans m1;have gI:=R.t 16 (f3 (R.d 3));go_simp;exact y.o _ _ ⟨hb,kp f0,kp f1,kp f2,kp f3,λ_=>Aj.trans rfl,kp f5,kp f6,kp f7,kp f8,kp f9,kp U,kp O,trivial⟩
  case s5=>
   refine sst λD g wz az R hI K y=>?_;obtain⟨hb,f0,f1,f2,f3,f4,f5,f6,f7,f8,f9,U,O,_⟩:=hI;have gJ:=R.t 17 (f4 (R.d 4));go_simp;exact y.o _ _ ⟨hb,kp f0,kp f1,kp f2,kp f3,kp f4,λ_=>Aj.trans rfl,kp f6,kp f7,kp f8,kp f9,kp U,kp O,trivial⟩
  case s6=>
   refine sst λD g wz az R hI K y=>?_;obtain⟨hb,f0,f1,f2,f3,f4,f5,f6,f7,f8,f9,U,O,_⟩:=hI;have gK:=R.t 18 (f5 (R.d 5));go_simp;exact y.o _ _ ⟨hb,kp f0,kp f1,kp f2,kp f3,kp f4,kp f5,λ_=>Aj.trans rfl,kp f7,kp f8,kp f9,kp U,kp O,trivial⟩
  case s7=>
   refine sst λD g wz az R hI K y=>?_;obtain⟨hb,f0,f1,f2,f3,f4,f5,f6,f7,f8,f9,U,O,_⟩:=hI;go_simp;exact y.o _ _ ⟨hb.alloc hb.size _,kp f0,kp f1,kp f2,kp f3,kp f4,kp f5,kp f6,λ_=>⟨_,_,_,_,_,_,_,_,_,_,hb.size,Aj,Blk.new2 rfl⟩,kp (λh=>let⟨b',x,u0,u1,u2⟩:=f8 h;⟨b',x,u0,u1,u2.alloc _⟩),kp (λh=>absurd (R.l _ 7 (h)) R.new),kp (λh=>absurd (R.l _ 7 (h)) R.new),kp O,trivial⟩
  case s8=>
   refine sst λD g wz az R hI K y=>?_;obtain⟨hb,f0,f1,f2,f3,f4,f5,f6,f7,f8,f9,U,O,_⟩:=hI;go_simp;exact y.o _ _ ⟨hb.alloc hb.size _,kp f0,kp f1,kp f2,kp f3,kp f4,kp f5,kp f6,kp (λh=>let⟨b',x0,x1,x2,x3,x4,x5,x6,x7,x8,u0,u1,u2⟩:=f7 h;⟨b',x0,x1,x2,x3,x4,x5,x6,x7,x8,u0,u1,u2.alloc _⟩),λ_=>⟨_,_,hb.size,Aj,Blk.new2 rfl⟩,kp (λh=>absurd (R.l _ 8 (h)) R.new),kp (λh=>absurd (R.l _ 8 (h)) R.new),kp O,trivial⟩
  case s9=>
   refine sst λD g wz az R hI K y=>?_;obtain⟨hb,f0,f1,f2,f3,f4,f5,f6,f7,f8,f9,U,O,_⟩:=hI;have d7:=f7 (R.d 7);have d8:=f8 (R.d 8);obtain⟨b,x0,x1,x2,x3,x4,x5,x6,x7,x8,aO,g5,bb⟩:=d7;have eV:=(bb).cell 0;have dU:=(bb).frozen 0;have fY:=(bb).cell 1;have fL:=(bb).frozen 1;have fZ:=(bb).cell 2;have fM:=(bb).frozen 2;have gB:=(bb).cell 3;have fN:=(bb).frozen 3;have gD:=(bb).cell 4;have fO:=(bb).frozen 4;have dS:=(bb).cell 5;have fP:=(bb).frozen 5;have gE:=(bb).cell 6;have fQ:=(bb).frozen 6;have gF:=(bb).cell 7;have fR:=(bb).frozen 7;have dT:=(bb).cell 8;have fS:=(bb).frozen 8;have e5:=(R.get 5).trans g5
   try simp only[Bl,List.toList_toArray]at e5
   have gH:=R.t 15 (f2 (R.d 2));go_simp;exact y.o undef _ ⟨AmA hb aO _ _ _ _ _ _ _ _ _,kp f0,kp f1,kp f2,kp f3,kp f4,kp f5,kp f6,λh=>⟨b,_,_,_,_,_,_,_,_,_,aO,g5,Xj bb _ _ _ _ _ _ _ _ _⟩,kp (λh=>let⟨b',x,u0,u1,u2⟩:=f8 h;⟨b',x,u0,u1,AiY u2 (Af u2 bb (by decide)) _ _ _ _ _ _ _ _ _⟩),λ_=>⟨b,aO,g5,Xj bb _ _ _ _ _ _ _ _ _⟩,kp (λh=>absurd (R.l _ 9 (h)) R.new),kp O,trivial⟩
  case s10=>
   refine sst λD g wz az R hI K y=>?_;obtain⟨hb,f0,f1,f2,f3,f4,f5,f6,f7,f8,f9,U,O,_⟩:=hI;have d7:=f7 (R.d 7);have d8:=f8 (R.d 8);have d9:=f9 (R.d 9);obtain⟨b,x,aO,g6,bb⟩:=d8;have eV:=(bb).cell 0;have dU:=(bb).frozen 0;have e6:=(R.get 6).trans g6
   try simp only[Bl,List.toList_toArray]at e6
   go_simp;exact y.o undef _ ⟨hb.setCell (p:=⟨b,0,none⟩) aO _,kp f0,kp f1,kp f2,kp f3,kp f4,kp f5,kp f6,kp (λh=>let⟨b',x0,x1,x2,x3,x4,x5,x6,x7,x8,u0,u1,u2⟩:=f7 h;⟨b',x0,x1,x2,x3,x4,x5,x6,x7,x8,u0,u1,u2.far (p:=⟨b,0,none⟩) (Af u2 bb (by decide)) _⟩),λh=>⟨b,_,aO,g6,bb.set_ 0 _⟩,kp (λh=>let⟨b',u0,u1,u2⟩:=f9 h;⟨b',u0,u1,u2.far (p:=⟨b,0,none⟩) (Af u2 bb (by decide)) _⟩),λ_=>⟨b,aO,g6,bb.set_ 0 _⟩,kp O,trivial⟩
  case s11=>
   refine sst λD g wz az R hI K y=>?_;obtain⟨hb,f0,f1,f2,f3,f4,f5,f6,f7,f8,f9,U,O,_⟩:=hI;have d7:=f7 (R.d 7);have d8:=f8 (R.d 8);have d9:=f9 (R.d 9);have dV:=U (R.d 10);have gL:=R.t 19 (f6 (R.d 6));go_simp;exact y.o _ _ ⟨hb,kp f0,kp f1,kp f2,kp f3,kp f4,kp f5,kp f6,kp f7,kp f8,kp f9,kp U,λ_=>Aj.trans rfl,trivial⟩
 case hdone=>
  rintro g w8 D hD ⟨hb,f0,f1,f2,f3,f4,f5,f6,f7,f8,f9,U,O,_⟩;have d7:=f7 (hD _);have d8:=f8 (hD _);have d9:=f9 (hD _);have dV:=U (hD _);have dP:=O (hD _);simp only[Bl]at dP;clear hD D f0 f1 f2 f3 f4 f5 f6 f7 f8 f9 U O;simp only[Fw,List.foldl_cons,List.foldl_nil,List.setIfInBounds_toArray,List.set_cons_succ,List.set_cons_zero];rw[dP];clear dP;obtain⟨co,gM,g5,bO⟩:=d9;obtain⟨nx,gT,g6,cJ⟩:=dV;rw[g5,g6];clear d7 d8 g5 g6 m1;obtain⟨W7,eZ⟩:∃ W7,W7=w8:=⟨_,rfl⟩;subst eZ;have bK:=Ab (((Dr.refl W2).drew.below W2.heap.size).trans hb);have c0:=Ab (b0.below bK.o b0.lt);have c1:=Ab (b1.below bK.o b1.lt);have E:Apart tg co nx W7.heap.size:=⟨by have:=bO.lt;omega,bO.lt,cJ.lt,by omega,by omega,Af bO cJ (by decide)⟩;have n1:n0+1<W7.heap.size:=c1.o.lt
  have dK:n0+1<co:=by omega
  have dL:n0+1<nx:=by omega
  have bC:Hid (Hq s h tg co nx 0 (some p) Vj ⟨h.m,[],[],[],[],[],[]⟩ W7 W7):=Ab ⟨hg.below (dB.trans (bK.o.mono dJ)) cP,bO,cJ,Fi.nil _ _ _,Fr.refl _ _⟩;have bY:=Ab (dB.trans (bK.o.mono dJ));have HH:=Ab (λ(W:World) (f:Fr (λq=>q=tg∨q=co∨q=nx) W7 W)=>f.blk c0.o (λe=>by rcases e with e|e|e<;>omega));have HR:=Ab (λ(W:World) (f:Fr (λq=>q=tg∨q=co∨q=nx) W7 W)=>f.blk c1.o (λe=>by rcases e with e|e|e<;>omega));clear b0 b1 hb dB fA bO cJ hg dJ;have gS:∀ (fn:Fn) (first cap:Array Value) (w:World),(Instr.makeFunc fn first cap).run Tryz.prog w= .ok (.func fn first cap) w:=λ_ _ _ _=>rfl
  have eF:IntKind.i64.wrap (IntKind.i64.wrap (2*(h.m:Int))+1)=((2*h.m+1:Nat):Int):=by rw[IntWalk.i64_in (2*(h.m:Int)) (by omega),IntWalk.i64_in (2*(h.m:Int)+1) (by omega)];omega
  rw[eF];clear eF
  have aJ:2*h.m+1<=1000000000:=by have:=ht.m;omega
  replace aJ:=Ab aJ;generalize bE:2*h.m+1=top at*;replace bE:=Ab bE;have cH:=(HH.o W7 (Fr.refl _ _)).cell 2;have md:=Afx tg;have ms:=AkM tg;have hE:=AnW tg;have me:=AnL tg
  go_wp2_with fail
  have gP:=ht.i
  go_loopw [23] (λc wr=>∃ k:Nat,k<=h.i/\c= .int .i64 k/\Hid (∃s1:Sl,s1.n=k/\Hq s h tg co nx (2*k) (some p) ⟨s1,Ap,Ap,Ap,Ap,Ap,Ap,.empty⟩ ⟨h.m,evens k 2,[],[],[],[],[]⟩ W7 wr)) (λc _=>h.i-(intOf c).toNat)
  case atStart=>exact⟨0,Nat.zero_le _,rfl,Ab ⟨Ap,rfl,bC.o⟩⟩
  case round=>
   obtain⟨k,hk,rfl,hM⟩:=hrel;obtain⟨⟨A,N,C⟩,hN,B⟩:=hM.o;dsimp only at hN;subst hN;clear hM bC
   by_cases aI:N<h.i
   ·have cS:(N:Int)<h.i:=by omega
    replace B:=Ab (B.below E ((Dr.refl wr).drew.below _));obtain⟨n2,X⟩:∃ n2,n2=2*N+2:=⟨_,rfl⟩;replace X:=Ab X;have aE:=Ab (show N+1<=maxLen by unfold maxLen;omega);have aH:=Ab (show(N+1)*8<=140737488355328 by omega);have dY:=Ab (show 2*N<=1000000000 by omega)
    go_upto_region 5 with fail
    refine wp_region_held_drew (S:=λW'=>True) (by kernel_rfl) (trivial) (λj=>?_);generalize wr.drew=W0 at*;refine tk 0 (h:=tk 2 (h:=?_));refine wpAnyH_ready (rs:=[1,3]) (by kernel_rfl) (by simp) ?_;refine AllReadyH.cons rfl (λK y=>?_) (AllReadyH.cons rfl (λK y=>?_) AllReadyH.nil)
    ·
     have cz:=B.o.o.cell 1;go_simp;refine y.o _ _ (trivial) (λj=>?_);clear y K
     try simp only[Act.put,pt]
     refine rd1 3 λK y=>?_;go_simp;have H3:=Ab (Nk nx (2*N) n2 _ dY.o X.o B.o.nxt)
     go_wp2_with fail
     refine H3.o.mono ?_;rintro e w3 ⟨rfl,rfl⟩
     try go_wp2_with fail
     clear H3;replace B:=Ab (B.o.lit E n2);refine y.o _ _ (trivial) (λj=>?_);clear y K
     try simp only[Act.put,pt]
     refine rd1 4 λK y=>?_;go_simp;replace B:=Ab (B.o.below E ((Below.refl _ _).alloc (Nl _) (Obj.cells #[.int .i64 (n2:Nat)] 3)));refine y.o _ _ (trivial) (λj=>?_);clear y K
     try simp only[Act.put,pt]
     refine rd1 5 λK y=>?_;have F:=Ab B.o.fr.size;have oI:=Ab B.o.own.ins;rw[show(evens N 2).length=N by simp[evens]]at oI;refine Ej (news:=[.int .i64 (n2:Nat)]) rfl (.tmp 26) (.tmp 29) 26 rfl Tryz.underlying26 Dh rfl (by decide) rfl rfl oI.o F.o (Wj (by simp)) (by simp[Value.oneCell']) aE.o aH.o ?_;intro v6 w6 z M;have Z:=Ab ((Below.refl W7.heap.size _).grown M F.o (λi hi=>(oI.o.lt i hi).1));obtain⟨⟨A6,N6,D6⟩,rfl,bA⟩:=Be z;dsimp only at bA;subst bA;obtain⟨c6,z6,I⟩:=B.o.put E Z.o (v':=⟨⟨A6,N+1,D6⟩,Ap,Ap,Ap,Ap,Ap,Ap,.empty⟩) (c':=⟨h.m,evens N 2++ [n2],[],[],[],[],[]⟩) (i:=1) (u:= .slice A6 (N+1) D6) ⟨by unfold nvs;rw[List.map_append,List.length_append,Fh];exact z,Bd,Bd,Bd,Bd,Bd⟩ rfl;replace I:=Ab I;clear z M Z;refine y.o _ _ (trivial) (λj=>?_);refine tk 6 (h:=?_);refine rd1 7 λK y=>?_;go_simp;refine y.o _ _ (trivial) (λj=>?_);clear y K
     try simp only[Act.put,pt]
     refine wpAnyH_done (by kernel_rfl) ?_ _;have aZ:=Ab (show ∃s1:Sl,s1.n=N+1/\Hq s h tg co nx (2*(N+1)) (some p) ⟨s1,Ap,Ap,Ap,Ap,Ap,Ap,.empty⟩ ⟨h.m,evens (N+1) 2,[],[],[],[],[]⟩ W7 _ from⟨⟨A6,N+1,D6⟩,rfl,by rw[Jw N 1 2];have:=I.o;rw[X.o]at this;rw[show 2*(N+1)=2*N+2 by omega];simpa[evens,Nat.add_comm] using this⟩);clear I B;go_wp2;go_roundw
     case rel=>exact⟨N+1,aI,by go_num,aZ⟩
     case measure=>simp[intOf];omega
    
    go_simp;have H3:=Ab (Nk nx (2*N) n2 _ dY.o X.o B.o.nxt)
    go_wp2_with fail
    refine H3.o.mono ?_;rintro e w3 ⟨rfl,rfl⟩
    try go_wp2_with fail
    clear H3;replace B:=Ab (B.o.lit E n2);refine y.o _ _ (trivial) (λj=>?_);clear y K
    try simp only[Act.put,pt]
    refine wpAnyH_ready (rs:=[1,4]) (by kernel_rfl) (by simp) ?_;refine AllReadyH.cons rfl (λK y=>?_) (AllReadyH.cons rfl (λK y=>?_) AllReadyH.nil)
    ·
     have cz:=B.o.o.cell 1;go_simp;refine y.o _ _ (trivial) (λj=>?_);clear y K
     try simp only[Act.put,pt]
     refine rd1 4 λK y=>?_;go_simp;replace B:=Ab (B.o.below E ((Below.refl _ _).alloc (Nl _) (Obj.cells #[.int .i64 (n2:Nat)] 3)));refine y.o _ _ (trivial) (λj=>?_);clear y K
     try simp only[Act.put,pt]
     refine rd1 5 λK y=>?_;have F:=Ab B.o.fr.size;have oI:=Ab B.o.own.ins;rw[show(evens N 2).length=N by simp[evens]]at oI;refine Ej (news:=[.int .i64 (n2:Nat)]) rfl (.tmp 26) (.tmp 29) 26 rfl Tryz.underlying26 Dh rfl (by decide) rfl rfl oI.o F.o (Wj (by simp)) (by simp[Value.oneCell']) aE.o aH.o ?_;intro v6 w6 z M;have Z:=Ab ((Below.refl W7.heap.size _).grown M F.o (λi hi=>(oI.o.lt i hi).1));obtain⟨⟨A6,N6,D6⟩,rfl,bA⟩:=Be z;dsimp only at bA;subst bA;obtain⟨c6,z6,I⟩:=B.o.put E Z.o (v':=⟨⟨A6,N+1,D6⟩,Ap,Ap,Ap,Ap,Ap,Ap,.empty⟩) (c':=⟨h.m,evens N 2++ [n2],[],[],[],[],[]⟩) (i:=1) (u:= .slice A6 (N+1) D6) ⟨by unfold nvs;rw[List.map_append,List.length_append,Fh];exact z,Bd,Bd,Bd,Bd,Bd⟩ rfl;replace I:=Ab I;clear z M Z;refine y.o _ _ (trivial) (λj=>?_);refine tk 6 (h:=?_);refine rd1 7 λK y=>?_;go_simp;refine y.o _ _ (trivial) (λj=>?_);clear y K
     try simp only[Act.put,pt]
     refine wpAnyH_done (by kernel_rfl) ?_ _;have aZ:=Ab (show ∃s1:Sl,s1.n=N+1/\Hq s h tg co nx (2*(N+1)) (some p) ⟨s1,Ap,Ap,Ap,Ap,Ap,Ap,.empty⟩ ⟨h.m,evens (N+1) 2,[],[],[],[],[]⟩ W7 _ from⟨⟨A6,N+1,D6⟩,rfl,by rw[Jw N 1 2];have:=I.o;rw[X.o]at this;rw[show 2*(N+1)=2*N+2 by omega];simpa[evens,Nat.add_comm] using this⟩);clear I B;go_wp2;go_roundw
     case rel=>exact⟨N+1,aI,by go_num,aZ⟩
     case measure=>simp[intOf];omega
    
    go_simp;replace B:=Ab (B.o.below E ((Below.refl _ _).alloc (Nl _) (Obj.cells #[.int .i64 (n2:Nat)] 3)));refine y.o _ _ (trivial) (λj=>?_);clear y K
    try simp only[Act.put,pt]
    refine rd1 1 λK y=>?_;have cz:=B.o.o.cell 1;go_simp;refine y.o _ _ (trivial) (λj=>?_);clear y K
    try simp only[Act.put,pt]
    refine rd1 5 λK y=>?_;have F:=Ab B.o.fr.size;have oI:=Ab B.o.own.ins;rw[show(evens N 2).length=N by simp[evens]]at oI;refine Ej (news:=[.int .i64 (n2:Nat)]) rfl (.tmp 26) (.tmp 29) 26 rfl Tryz.underlying26 Dh rfl (by decide) rfl rfl oI.o F.o (Wj (by simp)) (by simp[Value.oneCell']) aE.o aH.o ?_;intro v6 w6 z M;have Z:=Ab ((Below.refl W7.heap.size _).grown M F.o (λi hi=>(oI.o.lt i hi).1));obtain⟨⟨A6,N6,D6⟩,rfl,bA⟩:=Be z;dsimp only at bA;subst bA;obtain⟨c6,z6,I⟩:=B.o.put E Z.o (v':=⟨⟨A6,N+1,D6⟩,Ap,Ap,Ap,Ap,Ap,Ap,.empty⟩) (c':=⟨h.m,evens N 2++ [n2],[],[],[],[],[]⟩) (i:=1) (u:= .slice A6 (N+1) D6) ⟨by unfold nvs;rw[List.map_append,List.length_append,Fh];exact z,Bd,Bd,Bd,Bd,Bd⟩ rfl;replace I:=Ab I;clear z M Z;refine y.o _ _ (trivial) (λj=>?_);refine tk 6 (h:=?_);refine rd1 7 λK y=>?_;go_simp;refine y.o _ _ (trivial) (λj=>?_);clear y K
    try simp only[Act.put,pt]
    refine wpAnyH_done (by kernel_rfl) ?_ _;have aZ:=Ab (show ∃s1:Sl,s1.n=N+1/\Hq s h tg co nx (2*(N+1)) (some p) ⟨s1,Ap,Ap,Ap,Ap,Ap,Ap,.empty⟩ ⟨h.m,evens (N+1) 2,[],[],[],[],[]⟩ W7 _ from⟨⟨A6,N+1,D6⟩,rfl,by rw[Jw N 1 2];have:=I.o;rw[X.o]at this;rw[show 2*(N+1)=2*N+2 by omega];simpa[evens,Nat.add_comm] using this⟩);clear I B;go_wp2;go_roundw
    case rel=>exact⟨N+1,aI,by go_num,aZ⟩
    case measure=>simp[intOf];omega
   obtain rfl:N=h.i:=by omega
   replace B:=Ab B;have eU:=(HH.o wr B.o.fr).cell 3;clear aI hk cH
   go_wp2_with fail
   clear eU;generalize gV:(⟨A,h.i,C⟩:Sl)=s1 at B;have gQ:=ht.l
   go_loopw [35] (λc wr=>∃ k:Nat,k<=h.l/\c= .int .i64 k/\Hid (Aqb s h p tg co nx s1 W7 k wr)) (λc _=>h.l-(intOf c).toNat)
   case atStart=>exact⟨0,Nat.zero_le _,rfl,Ab ⟨some p,[],Ap,B.o,rfl,.inl ⟨p,rfl,Og.zero _ _⟩⟩⟩
   case round=>
    obtain⟨k,hk,rfl,hM⟩:=hrel;obtain⟨st,l,⟨lA,lN,lC⟩,aB,dG,aU⟩:=hM.o;clear hM B;obtain rfl:lN=k:=(Et aB.own.lat).trans dG
    by_cases aI:lN<h.l
    ·have cS:(lN:Int)<h.l:=by omega
     obtain⟨n2,X⟩:∃ n2,n2=2*h.i+2*lN+2:=⟨_,rfl⟩;have H3:=Ab (Nk nx _ n2 wr (by omega) X aB.nxt);have aM:=Ab (aB.lit E n2);replace X:=Ab X;have aA:=Ab dG;clear aB dG
     go_upto_region 9 with fail
     go_wp2_with fail
     refine H3.o.mono ?_;rintro e w3 ⟨rfl,rfl⟩;clear H3;have tx:=Ab aM.o.txs;have HD:=Ab (Re tg s (st) top _ hs tx.o aJ.o)
     go_wp2_with fail
     refine HD.o.mono ?_;clear HD;intro e w4 hD;obtain⟨aY,n4,st4,rfl,bG,aN⟩:=hD.get;clear hD;replace bG:=Ab bG;replace aN:=Ab (show Agq s (2*h.m+1) (st) n4 st4 by rw[bE.o];exact aN);replace aY:=Ab aY;have aF:=Ab (aM.o.text E aY.o bG.o)
     go_upto_region 10 with fail
     obtain⟨W8,bX,aR,bF⟩:=Bb w4 #[.int .i64 (n2:Nat),.int .i64 (n4:Nat),.int .i64 0] 59;rw[bX];clear bX;have aO:=Ab aF.o.fr.size;have hA:=Ab (show w4.heap.size=w4.heap.size from rfl)
     have aW:w4.heap.size≠tg:=by have:=aO.o;have:=E.t;omega
     have f8:Hid (Fr (λq=>q=tg) w4 W8):=Ab (Fr.of_below bF);have bH:=Ab (bG.o.below bF (Nat.lt_of_lt_of_le E.t aO.o));replace aR:=Ab aR;clear bF tx aM;generalize bB:w4.heap.size=x at*;replace bB:=Ab bB;have HG:=Ab (Sj tg s (st4) [32,10] _ hs bH.o)
     go_wp2_with fail
     refine HG.o.mono ?_;clear HG;intro e w5 hD;obtain⟨aT,b5,cQ,rfl,aX,aD⟩:=hD.get;clear hD;replace aX:=Ab aX;replace aD:=Ab aD;replace aT:=Ab aT;have f5:=Ab (f8.o.trans aT.o);have aQ:=Ab (aT.o.blk aR.o aW);clear aT
     rcases aD.o.mem with rfl|rfl|rfl
     ·have HD:=Ab (Re tg s (cQ) top _ hs aX.o aJ.o)
      go_wp2_with fail
      refine HD.o.mono ?_;clear HD;intro e w6 hD;obtain⟨bU,n6,eH,rfl,dN,dC⟩:=hD.get;clear hD;replace dN:=Ab dN;replace dC:=Ab (show Agq s (2*h.m+1) (cQ) n6 eH by rw[bE.o];exact dC);replace bU:=Ab bU;have f6:=Ab (f5.o.trans bU.o);have cX:=Ab (bU.o.blk aQ.o aW);clear bU;have c6:=cX.o.cell 2;have z6:=cX.o.frozen 2;have eY:=Ab (f6.o.setNew (p:=⟨x,2,none⟩) (Nat.le_of_eq bB.o) (.int .i64 (n6:Nat)));have dR:=Ab (cX.o.set_ 2 (.int .i64 (n6:Nat)));have eJ:=Ab (dN.o.fr (Fr.set (Fr.refl (λq=>q=x) w6) (p:=⟨x,2,none⟩) rfl (.int .i64 (n6:Nat))) (λe=>aW e.symm));have HG:=Ab (Sj tg s (eH) [10] _ hs eJ.o)
      go_wp2_with fail
      refine HG.o.mono ?_;clear HG;intro e w7 hD;obtain⟨bV,b7,hG,rfl,dO,dD⟩:=hD.get;clear hD;replace dO:=Ab dO;replace dD:=Ab dD;replace bV:=Ab bV;have f7:=Ab (eY.o.trans bV.o);have cY:=Ab (bV.o.blk dR.o aW);clear bV;clear c6 z6;have J:=Ab (aF.o.text E f7.o dO.o);have oG:=Ab J.o.own.lat;rw[aA.o]at oG;have cC:=J.o.o.cell 2;have bP:=cY.o.cell 0;have bQ:=cY.o.cell 1;have bR:=cY.o.cell 2;have F:=Ab J.o.fr.size;have aE:=Ab (show lN+1<=maxLen by unfold maxLen;omega);have aH:=Ab (show(lN+1)*24<=140737488355328 by omega)
      go_wp2_with (at_builtin;refine Ah rfl _ _ _ rfl Tryz.underlying27 Ro rfl (by decide) rfl (by first|rfl|simp[go_sem]) oG.o (Below.refl _ _) F.o rfl (by simp[Value.oneCell']) aE.o aH.o ?_;intro v6 w6 z Z M;obtain⟨s6,rfl,c6,z6,I⟩:=Hq.latch (x:=⟨n2,n4,n6⟩) J.o E aA.o z Z M;replace I:=Ab I;clear z Z M)
      clear cC bP bQ bR oG F aE aH;go_roundw
      case rel=>exact⟨lN+1,aI,by go_num,Ab ⟨_,l++ [_],s6,by rw[show 2*h.i+2*(lN+1)=n2 by rw[X.o];omega];exact I.o,by rw[List.length_append,aA.o];rfl,aU.three aI X.o aN.o aD.o dC.o dD.o⟩⟩
      case measure=>simp[intOf];omega
     ·have J:=Ab (aF.o.text E f5.o aX.o);have oG:=Ab J.o.own.lat;rw[aA.o]at oG;have cC:=J.o.o.cell 2;have bP:=aQ.o.cell 0;have bQ:=aQ.o.cell 1;have bR:=aQ.o.cell 2;have F:=Ab J.o.fr.size;have aE:=Ab (show lN+1<=maxLen by unfold maxLen;omega);have aH:=Ab (show(lN+1)*24<=140737488355328 by omega)
      go_wp2_with (at_builtin;refine Ah rfl _ _ _ rfl Tryz.underlying27 Ro rfl (by decide) rfl (by first|rfl|simp[go_sem]) oG.o (Below.refl _ _) F.o rfl (by simp[Value.oneCell']) aE.o aH.o ?_;intro v6 w6 z Z M;obtain⟨s6,rfl,c6,z6,I⟩:=Hq.latch (x:=⟨n2,n4,0⟩) J.o E aA.o z Z M;replace I:=Ab I;clear z Z M)
      clear cC bP bQ bR oG F aE aH;go_roundw
      case rel=>exact⟨lN+1,aI,by go_num,Ab ⟨_,l++ [_],s6,by rw[show 2*h.i+2*(lN+1)=n2 by rw[X.o];omega];exact I.o,by rw[List.length_append,aA.o];rfl,aU.two X.o aN.o aD.o⟩⟩
      case measure=>simp[intOf];omega
     obtain rfl:=aD.o.none_;have J:=Ab (aF.o.text E f5.o aX.o);have dI:=Ab (show Hc h (rest s p)=none from aU.stop aI aN.o aD.o);have r:=Ab (HR.o _ J.o.fr);have x0:=(r.o).cell 0;have eK:=(r.o).frozen 0;have x1:=(r.o).cell 1;have eL:=(r.o).frozen 1;have x2:=(r.o).cell 2;have eM:=(r.o).frozen 2;have x3:=(r.o).cell 3;have eN:=(r.o).frozen 3;have x4:=(r.o).cell 4;have eO:=(r.o).frozen 4;have x5:=(r.o).cell 5;have eP:=(r.o).frozen 5;have x6:=(r.o).cell 6;have eQ:=(r.o).frozen 6;have x7:=(r.o).cell 7;have eR:=(r.o).frozen 7;have x8:=(r.o).cell 8;have eS:=(r.o).frozen 8;obtain⟨y0,y1,y2,y3,y4,y5,y6,y7,y8⟩:=c9c (J.o.o);go_wp2;refine AdN J.o E dH bY.o n1 dK dL cP (.inr ⟨rfl,dI.o⟩) r.o rfl ?_;rfl
    obtain rfl:lN=h.l:=by omega
    go_wp2_with fail
    refine wp_region_held_drew (S:=λW'=>W'.cell? ⟨n0,4,none⟩=some (.int .i64 (h.o:Nat))/\W'.cell? ⟨n0,6,none⟩=some (.int .i64 (h.b:Nat))/\W'.cell? ⟨n0,7,none⟩=some (.int .i64 (h.c:Nat))) (by kernel_rfl) (⟨(HH.o _ aB.fr).cell 4,(HH.o _ aB.fr).cell 6,(HH.o _ aB.fr).cell 7⟩) (λj=>?_);refine tk 0 (h:=tk 1 (h:=tk 2 (h:=tk 3 (h:=tk 5 (h:=tk 6 (h:=tk 7 (h:=tk 8 (h:=tk 10 (h:=tk 11 (h:=tk 12 (h:=tk 13 (h:=?_))))))))))));refine rd1 4 λK y=>?_;have bC:=Ab (aB.below E ((Dr.refl wr).drew.below _));go_simp;have H4:=Ab (AaP tg s st top h.o _ hs bC.o.txs aJ.o ht.o)
    go_wp2_with fail
    refine H4.o.mono ?_;clear H4;intro e w4 hD;obtain⟨aY,l4,v4,st4,rfl,aC,bG,aN⟩:=hD.get;clear hD;replace aC:=Ab (Az aC bC.o.fr.size);replace aN:=Ab (show Agj s (2*h.m+1) h.o (st) l4 st4 by rw[bE.o];exact aN);have aF:=Ab (bC.o.text E aY bG);replace aY:=Ab aY;clear bG;obtain⟨⟨A4,N4,D4⟩,rfl,eD⟩:=Be aC.o;dsimp only at eD;subst eD;refine y.o _ _ (⟨(HH.o _ aF.o.fr).cell 4,(HH.o _ aF.o.fr).cell 6,(HH.o _ aF.o.fr).cell 7⟩) (λj=>?_);refine tk 15 (h:=?_);refine rd1 9 λK y=>?_;go_simp;have H9:=Ab (AaP tg s st4 top h.b _ hs aF.o.txs aJ.o ht.b)
    go_wp2_with fail
    refine H9.o.mono ?_;clear H9;intro e w9 hD;obtain⟨bW,l9,v9,dM,rfl,aL,cE,cM⟩:=hD.get;clear hD;replace aL:=Ab (Az aL aF.o.fr.size);replace cM:=Ab (show Agj s (2*h.m+1) h.b (st4) l9 dM by rw[bE.o];exact cM);have bD:=Ab (aF.o.text E bW cE);replace bW:=Ab bW;clear cE;obtain⟨⟨A9,N9,D9⟩,rfl,eE⟩:=Be aL.o;dsimp only at eE;subst eE;replace aC:=Ab (Pi bW.o aC.o (λk hk=>by rw[hk];exact E.t));refine y.o _ _ (⟨(HH.o _ bD.o.fr).cell 4,(HH.o _ bD.o.fr).cell 6,(HH.o _ bD.o.fr).cell 7⟩) (λj=>?_);clear y K
    try simp only[Act.put,pt]
    refine rd1 14 λK y=>?_;go_simp;have dQ:=Ab (AaP tg s dM top h.c _ hs bD.o.txs aJ.o ht.c)
    go_wp2_with fail
    refine dQ.o.mono ?_;clear dQ;intro e fH hD;obtain⟨aP,bN,hL,cV,rfl,aK,cW,bL⟩:=hD.get;clear hD;replace aK:=Ab (Az aK bD.o.fr.size);replace bL:=Ab (show Agj s (2*h.m+1) h.c (dM) bN cV by rw[bE.o];exact bL);have Y:=Ab (bD.o.text E aP cW);replace aP:=Ab aP;clear cW;obtain⟨⟨cF,fX,cG⟩,rfl,cT⟩:=Be aK.o;dsimp only at cT;subst cT;replace aC:=Ab (Pi aP.o aC.o (λk hk=>by rw[hk];exact E.t));replace aL:=Ab (Pi aP.o aL.o (λk hk=>by rw[hk];exact E.t));refine y.o _ _ (⟨(HH.o _ Y.o.fr).cell 4,(HH.o _ Y.o.fr).cell 6,(HH.o _ Y.o.fr).cell 7⟩) (λj=>?_);clear y K
    try simp only[Act.put,pt]
    refine rd1 16 λK y=>?_;have k3:=Y.o.o.cell 3;have k4:=Y.o.o.cell 4;have k5:=Y.o.o.cell 5;have fD:=Y.o.o.frozen 3;have fE:=Y.o.o.frozen 4;have fF:=Y.o.o.frozen 5;go_simp;have bS:=Ab (Y.o.fr.set (p:=⟨co,3,none⟩) (.inr (.inl rfl)) (.slice A4 l4.length D4));refine y.o _ _ (⟨(HH.o _ bS.o).cell 4,(HH.o _ bS.o).cell 6,(HH.o _ bS.o).cell 7⟩) (λj=>?_);refine tk 17 (h:=?_);refine rd1 18 λK y=>?_;go_simp;have bT:=Ab (bS.o.set (p:=⟨co,4,none⟩) (.inr (.inl rfl)) (.slice A9 l9.length D9));refine y.o _ _ (⟨(HH.o _ bT.o).cell 4,(HH.o _ bT.o).cell 6,(HH.o _ bT.o).cell 7⟩) (λj=>?_);refine tk 19 (h:=?_);refine rd1 20 λK y=>?_;go_simp;have cK:=Ab (bT.o.set (p:=⟨co,5,none⟩) (.inr (.inl rfl)) (.slice cF bN.length cG));refine y.o _ _ (⟨(HH.o _ cK.o).cell 4,(HH.o _ cK.o).cell 6,(HH.o _ cK.o).cell 7⟩) (λj=>?_);clear y K
    try simp only[Act.put,pt]
    refine wpAnyH_done (by kernel_rfl) ?_ _;have hB:=Ab (Y.o.three (a:=⟨A4,l4.length,D4⟩) (b:=⟨A9,l9.length,D9⟩) (c:=⟨cF,bN.length,cG⟩) E aC.o aL.o aK.o);have dX:=Ab (aU.gats aN.o cM.o bL.o);have cH:=(HH.o _ hB.o.fr).cell 5
    go_wp2_with fail
    obtain⟨W9,eA⟩:∃ W9,(((fH.setCell ⟨co,3,none⟩ (.slice A4 l4.length D4)).setCell ⟨co,4,none⟩ (.slice A9 l9.length D9)).setCell ⟨co,5,none⟩ (.slice cF bN.length cG))=W9:=⟨_,rfl⟩;unfold sv at hB;dsimp only at hB;rw[eA]at hB ⊢;clear eA cH k3 k4 k5 fD fE fF bS bT cK aC aL aK aY bW aP bC aF bD Y aN cM bL j;generalize gZ:(⟨lA,h.l,lC⟩:Sl)=s2 at hB;generalize gW:(⟨A4,l4.length,D4⟩:Sl)=sa at hB;generalize gX:(⟨A9,l9.length,D9⟩:Sl)=sb at hB;generalize gY:(⟨cF,bN.length,cG⟩:Sl)=sc at hB;clear aB;have gO:=ht.a
    go_loopw [83] (λc wr=>∃ k:Nat,k<=h.a/\c= .int .i64 k/\Hid (ApY s h p tg co nx s1 s2 sa sb sc l l4 l9 bN W7 k wr)) (λc _=>h.a-(intOf c).toNat)
    case atStart=>exact⟨0,Nat.zero_le _,rfl,Ab ⟨cV,[],Ap,hB.o,rfl,dX.o⟩⟩
    case round=>
     obtain⟨k,hk,rfl,hM⟩:=hrel;obtain⟨fG,g,⟨gA,gN,gC⟩,aB,dF,aV⟩:=hM.o;clear hM hB dX;obtain rfl:gN=k:=(Et aB.own.gat).trans dF
     by_cases aI:gN<h.a
     ·have cS:(gN:Int)<h.a:=by omega
      obtain⟨n2,X⟩:∃ n2,n2=2*h.i+2*h.l+2*gN+2:=⟨_,rfl⟩;have H3:=Ab (Nk nx _ n2 wr (by omega) X aB.nxt);have aM:=Ab (aB.lit E n2);have fU:=Ab (show n2<=1000000000 by omega)
      have fT:(n2:Int)<=1000000000:=by omega
      replace X:=Ab X;have aA:=Ab dF;clear aB dF
      go_upto_region 21 with fail
      go_wp2_with fail
      refine H3.o.mono ?_;rintro e w3 ⟨rfl,rfl⟩;clear H3
      go_upto_region 22 with fail
      obtain⟨W3,dZ⟩:∃ W3,wr.setCell ⟨nx,0,none⟩ (.int .i64 (n2:Nat))=W3:=⟨_,rfl⟩
      have hz:(wr.setCell ⟨nx,0,none⟩ (.int .i64 (n2:Nat))).heap.size=wr.heap.size:=by simp
      rw[dZ]at aM hz ⊢;clear dZ;obtain⟨W8,bX,aR,bF⟩:=Bb W3 #[.int .i64 (n2:Nat),.int .i64 0,.int .i64 0] 62;rw[bX];clear bX;rw[hz]at aR
      have aW:wr.heap.size≠tg:=by have:=aM.o.fr.size;have:=E.t;omega
      have f8:Hid (Fr (λq=>q=tg) W3 W8):=Ab (Fr.of_below bF);have bH:=Ab (aM.o.txs.below bF (Nat.lt_of_lt_of_le E.t aM.o.fr.size));replace aR:=Ab aR;clear bF;generalize bB:wr.heap.size=x at*;clear bB;have bB:=Ab hz;clear hz;refine wp_region_held_drew (S:=λW'=>W'.cell? ⟨x,0,none⟩=some (.int .i64 (n2:Nat))) (by kernel_rfl) (aR.o.cell 0) (λj=>?_);refine tk 0 (h:=tk 1 (h:=tk 2 (h:=tk 3 (h:=tk 4 (h:=?_)))));refine rd1 5 λK y=>?_;go_simp;have H5:=Ab (Abv tg s fG 1 n2 _ hs (TxS.fr (S:=λq=>q≠tg) bH.o (Fr.of_below ((Dr.refl _).drew.below _)) (λh=>h rfl)) (by omega) (by omega))
      go_wp2_with fail
      refine H5.o.mono ?_;clear H5;intro e w5 hD;obtain⟨aT,n5,cQ,rfl,aX,aD⟩:=hD.get;clear hD;have eB:=aD.le;replace aX:=Ab aX;replace aD:=Ab aD;have f5:=Ab (f8.o.drew.trans aT);have aQ:=Ab (aT.blk (aR.o.dr (Dr.refl _).drew) aW);clear aT
      have fB:IntKind.i64.wrap ((n2:Int)-(n5:Int))=((n2-n5:Nat):Int):=by rw[IntWalk.i64_in ((n2:Int)-(n5:Int)) (by omega)];omega
      refine y.o _ _ (aQ.o.cell 0) (λj=>?_);refine tk 6 (h:=tk 7 (h:=?_));refine rd1 8 λK y=>?_;have dS:=aQ.o.cell 1;have fJ:=aQ.o.frozen 1;go_simp;have eX:=Ab (f5.o.setNew (p:=⟨x,1,none⟩) (Nat.le_of_eq bB.o) (.int .i64 (n2-n5:Nat)));have bI:=Ab (aQ.o.set_ 1 (.int .i64 (n2-n5:Nat)));have eI:=Ab (aX.o.fr (Fr.set (Fr.refl (λq=>q=x) w5) (p:=⟨x,1,none⟩) rfl (.int .i64 (n2-n5:Nat))) (λe=>aW e.symm));refine y.o _ _ (bI.o.cell 0) (λj=>?_);clear y K
      try simp only[Act.put,pt]
      refine wpAnyH_done (by kernel_rfl) ?_ _;clear j dS fJ
      go_upto_region 23 with fail
      generalize w5.setCell ⟨x,1,none⟩ (.int .i64 ((n2-n5:Nat):Int))=W5 at*;obtain⟨r5,bM⟩:∃ r5,r5=n2-n5:=⟨_,rfl⟩;rw[<-bM]at bI ⊢
      have fW:r5<=1000000000:=by omega
      have fV:(r5:Int)<=1000000000:=by omega
      replace bM:=Ab bM;clear fB eB;refine wp_region_held_drew (S:=λW'=>W'.cell? ⟨x,1,none⟩=some (.int .i64 (r5:Nat))) (by kernel_rfl) (bI.o.cell 1) (λj=>?_);refine tk 0 (h:=tk 1 (h:=tk 2 (h:=tk 3 (h:=tk 4 (h:=?_)))));refine rd1 5 λK y=>?_;go_simp;have H8:=Ab (Abv tg s cQ 0 r5 _ hs (TxS.fr (S:=λq=>q≠tg) eI.o (Fr.of_below ((Dr.refl _).drew.below _)) (λh=>h rfl)) (by omega) (by omega))
      go_wp2_with fail
      refine H8.o.mono ?_;clear H8;intro e w8 hD;obtain⟨dA,n8,hJ,rfl,bH,bZ⟩:=hD.get;clear hD;have eC:=bZ.le;replace bH:=Ab bH;replace bZ:=Ab bZ;have f8:=Ab (eX.o.drew.trans dA);have bJ:=Ab (dA.blk (bI.o.dr (Dr.refl _).drew) aW);clear dA
      have fC:IntKind.i64.wrap ((r5:Int)-(n8:Int))=((r5-n8:Nat):Int):=by rw[IntWalk.i64_in ((r5:Int)-(n8:Int)) (by omega)];omega
      refine y.o _ _ (bJ.o.cell 1) (λj=>?_);refine tk 6 (h:=tk 7 (h:=?_));refine rd1 8 λK y=>?_;have dT:=bJ.o.cell 2;have fK:=bJ.o.frozen 2;go_simp;have dW:=Ab (f8.o.setNew (p:=⟨x,2,none⟩) (Nat.le_of_eq bB.o) (.int .i64 (r5-n8:Nat)));have aS:=Ab (bJ.o.set_ 2 (.int .i64 (r5-n8:Nat)));have cB:=Ab (bH.o.fr (Fr.set (Fr.refl (λq=>q=x) w8) (p:=⟨x,2,none⟩) rfl (.int .i64 (r5-n8:Nat))) (λe=>aW e.symm));refine y.o _ _ (aS.o.cell 1) (λj=>?_);clear y K
      try simp only[Act.put,pt]
      refine wpAnyH_done (by kernel_rfl) ?_ _;clear j dT fK
      go_upto_region 24 with fail
      generalize w8.setCell ⟨x,2,none⟩ (.int .i64 ((r5-n8:Nat):Int))=eT at*;obtain⟨r8,cO⟩:∃ r8,r8=r5-n8:=⟨_,rfl⟩;rw[<-cO]at aS ⊢;replace cO:=Ab cO;clear fC eC;obtain⟨pe,ee,gU,eG,cA⟩:=cB.o.get;have HE:=Ab (Abm tg s pe ee eT eG)
      go_wp2_with fail
      refine HE.o.mono ?_;rintro e w9 ⟨rfl,cN⟩;clear HE eG;have f9:=Ab (dW.o.thenB (cN.below _));have cZ:=Ab (aS.o.dr cN);have cE:=Ab (cB.o.fr (S:=λq=>q≠tg) (Fr.of_below (cN.below _)) (λh=>h rfl));clear cN dW aS cB
      by_cases dE:ee=0
      ·obtain rfl:=Aah cA dE;subst dE;clear cA
       go_upto_region 25 with fail
       have J:=Ab (aM.o.text E f9.o cE.o);have oG:=Ab J.o.own.gat;rw[aA.o]at oG;have cC:=J.o.o.cell 6;have bP:=cZ.o.cell 0;have bQ:=cZ.o.cell 1;have bR:=cZ.o.cell 2;have F:=Ab J.o.fr.size;have aE:=Ab (show gN+1<=maxLen by unfold maxLen;omega);have aH:=Ab (show(gN+1)*24<=140737488355328 by omega)
       go_wp2_with (at_builtin;refine Ah rfl _ _ _ rfl Tryz.underlying28 Vo rfl (by decide) rfl (by first|rfl|simp[go_sem]) oG.o (Below.refl _ _) F.o rfl (by simp[Value.oneCell']) aE.o aH.o ?_;intro v6 w6 z Z M;obtain⟨s6,rfl,c6,z6,I⟩:=Hq.gate (x:=⟨n2,r5,r8⟩) J.o E aA.o z Z M;replace I:=Ab I;clear z Z M)
       clear cC bP bQ bR oG F aE aH;go_roundw
       case rel=>exact⟨gN+1,aI,by go_num,Ab ⟨_,g++ [_],s6,by rw[show 2*h.i+2*h.l+2*(gN+1)=n2 by rw[X.o];omega];exact I.o,by rw[List.length_append,aA.o];rfl,by rw[cO.o,bM.o];exact aV.step X.o aD.o (by rw[<-bM.o];exact bZ.o)⟩⟩
       case measure=>simp[intOf];omega
      obtain rfl:=Aon cA dE;have J:=Ab (aM.o.text E f9.o cE.o);have dI:=Ab (show Hc h (rest s p)=none from aV.stop aI X.o aD.o (by rw[<-bM.o];exact bZ.o));have r:=Ab (HR.o _ J.o.fr);have x0:=(r.o).cell 0;have eK:=(r.o).frozen 0;have x1:=(r.o).cell 1;have eL:=(r.o).frozen 1;have x2:=(r.o).cell 2;have eM:=(r.o).frozen 2;have x3:=(r.o).cell 3;have eN:=(r.o).frozen 3;have x4:=(r.o).cell 4;have eO:=(r.o).frozen 4;have x5:=(r.o).cell 5;have eP:=(r.o).frozen 5;have x6:=(r.o).cell 6;have eQ:=(r.o).frozen 6;have x7:=(r.o).cell 7;have eR:=(r.o).frozen 7;have x8:=(r.o).cell 8;have eS:=(r.o).frozen 8;obtain⟨y0,y1,y2,y3,y4,y5,y6,y7,y8⟩:=c9c (J.o.o);go_wp2;refine AdN J.o E dH bY.o n1 dK dL cP (.inr ⟨rfl,dI.o⟩) r.o rfl ?_;rfl
     obtain rfl:gN=h.a:=by omega
     have J:=Ab aB;have r:=Ab (HR.o _ J.o.fr);have x0:=(r.o).cell 0;have eK:=(r.o).frozen 0;have x1:=(r.o).cell 1;have eL:=(r.o).frozen 1;have x2:=(r.o).cell 2;have eM:=(r.o).frozen 2;have x3:=(r.o).cell 3;have eN:=(r.o).frozen 3;have x4:=(r.o).cell 4;have eO:=(r.o).frozen 4;have x5:=(r.o).cell 5;have eP:=(r.o).frozen 5;have x6:=(r.o).cell 6;have eQ:=(r.o).frozen 6;have x7:=(r.o).cell 7;have eR:=(r.o).frozen 7;have x8:=(r.o).cell 8;have eS:=(r.o).frozen 8;obtain⟨y0,y1,y2,y3,y4,y5,y6,y7,y8⟩:=c9c (J.o.o);go_wp2;exact AdN J.o E dH bY.o n1 dK dL cP aV.end_ r.o rfl (by rfl)
def Acp (law:Hd->Txt->Option (Cir×Txt)) (h:Hd) (s:ByteArray) (p:Nat) (w:World) (e:Ending) (w':World):Prop:=
 ((∃c v q,law h (rest s p)=some (c,rest s q)/\q<=s.size/\Fi w.heap.size w' v c/\v.sym=Ap/\v.com= .empty/\e= .returned (.tuple #[.agg (Ae h.m v),.int .i64 q,.int .i64 0]))∨(law h (rest s p)=none/\∃(m':Int) (v':Cv) (a c:Int),c≠0/\e= .returned (.tuple #[.agg (Ae m' v'),.int .i64 a,.int .i64 c])))/\Below w.heap.size w w'
theorem AhU.get {tg p:Nat} {s:ByteArray} {h:Hd} {w w':World} {e:Ending} (hC:AhU tg s p h w e w'):Fr (λq=>q=tg) w w'/\∃v st,e= .returned (.agg (Ae h.m v))/\TxS w' tg s st/\((∃c q,st=some q/\Hc h (rest s p)=some (c,rest s q)/\Fi w.heap.size w' v c/\v.sym=Ap/\v.com= .empty)∨(st=none/\Hc h (rest s p)=none)):=by
 obtain⟨l,v,rfl,⟨c,q,j,h2,r,x,y⟩|⟨j,h2⟩⟩:=hC
 ·exact⟨l,v,some q,rfl,h2,.inl ⟨c,q,rfl,j,r,x,y⟩⟩
 exact⟨l,v,none,rfl,h2,.inr ⟨rfl,j⟩⟩
theorem Acw {s:ByteArray} {h:Hd} {p n0:Nat} {w W j:World} {tmps:Array Value} {x0 x1 x2 x3 x4 x5 x6 x7 x8 y0 y1 y2 y3 y4 y5 y6 y7 y8:Value} {a c:Int} (hn0:w.heap.size=n0) (hb:Below n0 w W) (b1:Blk W (n0+1) 31 #[x0,x1,x2,x3,x4,x5,x6,x7,x8])
  (hW:j=(((((((((W.setCell ⟨n0+1,0,none⟩ y0).setCell ⟨n0+1,1,none⟩ y1).setCell ⟨n0+1,2,none⟩ y2).setCell ⟨n0+1,3,none⟩ y3).setCell ⟨n0+1,4,none⟩ y4).setCell ⟨n0+1,5,none⟩ y5).setCell ⟨n0+1,6,none⟩ y6).setCell ⟨n0+1,7,none⟩ y7).setCell ⟨n0+1,8,none⟩ y8))
  (hP:Fr (λq=>q=n0+1) W j->((∃c' v q,Hc h (rest s p)=some (c',rest s q)/\q<=s.size/\Fi n0 j v c'/\v.sym=Ap/\v.com= .empty/\Ending.returned (.tuple #[.agg #[y0,y1,y2,y3,y4,y5,y6,y7,y8],.int .i64 a,.int .i64 c])= .returned (.tuple #[.agg (Ae h.m v),.int .i64 q,.int .i64 0]))∨(Hc h (rest s p)=none/\c≠0/\∃(r:Int) (v':Cv),Value.agg #[y0,y1,y2,y3,y4,y5,y6,y7,y8]= .agg (Ae r v'))))
  (h6:tmps[6]?=some (.pointer (some ⟨n0+1,0,none⟩))) (h7:tmps[7]?=some (.int .i64 a)) (h8:tmps[8]?=some (.int .i64 c)):bodyPost Tryz.prog Tryz.f46 (Acp Hc h s p w) .ret {tmps:=tmps,defers:=[]} j:=by
 subst hW;have y:=Xj b1 y0 y1 y2 y3 y4 y5 y6 y7 y8;have x:=fr9 (Fr.refl (λq=>q=n0+1) W) rfl y0 y1 y2 y3 y4 y5 y6 y7 y8;generalize (((((((((W.setCell ⟨n0+1,0,none⟩ y0).setCell ⟨n0+1,1,none⟩ y1).setCell ⟨n0+1,2,none⟩ y2).setCell ⟨n0+1,3,none⟩ y3).setCell ⟨n0+1,4,none⟩ y4).setCell ⟨n0+1,5,none⟩ y5).setCell ⟨n0+1,6,none⟩ y6).setCell ⟨n0+1,7,none⟩ y7).setCell ⟨n0+1,8,none⟩ y8)=j at*;obtain⟨z,D,E,F,I,J,M,N,O⟩:=c9c (y)
 have l:Below w.heap.size w j:=by rw[hn0];exact hb.trans (x.below (B:=n0) (by have:=b1.lt;omega) (λk U=>by omega))
 refine bodyPost_ret (v:= .tuple #[.agg #[y0,y1,y2,y3,y4,y5,y6,y7,y8],.int .i64 a,.int .i64 c]) ?_ rfl ⟨?_,l⟩
 ·simp[results,Tryz.results46,go_sem,h6,h7,h8,z,D,E,F,I,J,M,N,O]
 rcases hP x with h|⟨h,R,r,v',S⟩
 ·rw[hn0];exact .inl h
 exact .inr ⟨h,r,v',_,_,R,by rw[S]⟩
theorem Afw (h:Hd) (s:ByteArray) (p:Nat) (w:World) (hp:p<=s.size) (hs:s.size<=2000000) (ht:Nq h):
  Calls Tryz.prog 46 #[.string s,.int .i64 p,.agg (Bt h)] w (Acp Hc h s p w):=by
 obtain⟨W2,D,b0,b1,aA,Y⟩:=Qd w (Bt h) #[.int .i64 0,.slice none 0 0,.slice none 0 0,.slice none 0 0,.slice none 0 0,.slice none 0 0,.slice none 0 0,.slice none 0 0,.string ⟨#[]⟩] 47 31;replace D:=Ab D
 have i1:¬ (p:Int)<0:=by omega
 have i2:¬ (p:Int)>s.size:=by omega
 go_enter Tryz.func46,Tryz.ntmps46
 go_upto_region 3 with fail
 rw[D.o];clear D i1 i2;generalize Z:w.heap.size=n0 at*
 go_upto_region 4 with fail
 obtain⟨W3,S,R,E⟩:=Bb W2 #[.string s,.int .i64 p,.int .i64 0] 158;rw[S];clear S;have c0:=Ab (b0.below E b0.lt);have c1:=Ab (b1.below E b1.lt);have J:=Ab (Y.trans (E.mono (by omega)));rw[aA]at R;obtain⟨O,hT⟩:∃ O,O=n0+1+1:=⟨_,rfl⟩;rw[<-hT]at R ⊢
 have aW:n0+1<O:=by omega
 clear b0 b1 Y E aA hT;have HC:=Ab (AeQ O h s p W3 hs ht ⟨hp,R⟩);obtain⟨x0,x1,x2,x3,x4,x5,x6,x7⟩:=c8c (c0.o);have aF:=R.lt;clear R
 go_wp2_with fail
 refine HC.o.mono ?_;clear HC x0 x1 x2 x3 x4 x5 x6 x7;intro e w4 hC;obtain⟨N,v,st,rfl,aC,A⟩:=hC.get;clear hC
 go_upto_region 5 with fail
 obtain⟨W5,U,bc,y⟩:=Bb w4 (Ae h.m v) 31;have x:=U;unfold Ae at x;rw[x];clear U x;have M:=Ab ((N.blk c1.o (by omega)).below y (N.blk c1.o (by omega)).lt);have aB:O<w4.heap.size:=Nat.lt_of_lt_of_le aF N.size;have aH:=aC.below y aB;have aI:=Ab ((J.o.trans (N.below (B:=n0) (by omega) (λk hk=>by omega))).trans (y.mono (by have:=N.size;omega)))
 have l:=Ab (show(∃c q,st=some q/\Hc h (rest s p)=some (c,rest s q)/\Fi n0 W5 v c/\v.sym=Ap/\v.com= .empty)∨(st=none/\Hc h (rest s p)=none) from by
  rcases A with⟨c,q,r,h2,h3,h4,h5⟩|r
  ·exact .inl ⟨c,q,r,h2,(h3.below y).base (by omega),h4,h5⟩
  exact .inr r)
 have aV:n0+1<w4.heap.size:=by omega
 clear c0 c1 J A aC N y aF;generalize aJ:w4.heap.size=co at*;clear aJ;obtain⟨pe,ee,aL,aD,z⟩:=aH.get;have HE:=Ab (Abm O s pe ee W5 aD)
 go_wp2_with fail
 refine HE.o.mono ?_;rintro e w6 ⟨rfl,F⟩;clear HE aD aH;have j:=Ab (M.o.dr F);have dc:=Ab (bc.dr F);have X:=Ab (aI.o.trans (F.below _))
 by_cases I:ee=0
 ·obtain rfl:=Aah z I;subst I
  rcases l.o with⟨c,q,r,h2,h3,h4,h5⟩|⟨r,_⟩
  ·injection r with r;subst r;have aE:=Ab (h3.below (F.below _));have x0:=(j.o).cell 0;have aM:=(j.o).frozen 0;have x1:=(j.o).cell 1;have aN:=(j.o).frozen 1;have x2:=(j.o).cell 2;have aO:=(j.o).frozen 2;have x3:=(j.o).cell 3;have aP:=(j.o).frozen 3;have x4:=(j.o).cell 4;have aQ:=(j.o).frozen 4;have x5:=(j.o).cell 5;have aR:=(j.o).frozen 5;have x6:=(j.o).cell 6;have aS:=(j.o).frozen 6;have x7:=(j.o).cell 7;have aT:=(j.o).frozen 7;have x8:=(j.o).cell 8;have aU:=(j.o).frozen 8;obtain⟨y0,y1,y2,y3,y4,y5,y6,y7,y8⟩:=c9c (dc.o);clear z l h3 M bc;go_wp2;refine Acw Z X.o j.o rfl ?_ (by rfl) (by rfl) (by rfl);intro f9;exact .inl ⟨c,v,pe,h2,aL,aE.o.fr f9 (λk hk=> .inr (by subst hk;exact⟨31,_,j.o,by decide,by decide,by decide⟩)),h4,h5,by unfold Ae;rw[h4,h5]⟩
  cases r
 obtain rfl:=Aon z I
 rcases l.o with⟨c,q,r,_⟩|⟨_,aK⟩
 ·cases r
 clear l M bc;have x0:=(j.o).cell 0;have aM:=(j.o).frozen 0;have x1:=(j.o).cell 1;have aN:=(j.o).frozen 1;have x2:=(j.o).cell 2;have aO:=(j.o).frozen 2;have x3:=(j.o).cell 3;have aP:=(j.o).frozen 3;have x4:=(j.o).cell 4;have aQ:=(j.o).frozen 4;have x5:=(j.o).cell 5;have aR:=(j.o).frozen 5;have x6:=(j.o).cell 6;have aS:=(j.o).frozen 6;have x7:=(j.o).cell 7;have aT:=(j.o).frozen 7;have x8:=(j.o).cell 8;have aU:=(j.o).frozen 8;go_wp2;refine Acw Z X.o j.o rfl ?_ (by rfl) (by rfl) (by rfl);intro f9;exact .inr ⟨aK,I,0,Vj,rfl⟩
end Go.Proofs.YtmidbhnhcbpneaaGreatDoor.Top
end
