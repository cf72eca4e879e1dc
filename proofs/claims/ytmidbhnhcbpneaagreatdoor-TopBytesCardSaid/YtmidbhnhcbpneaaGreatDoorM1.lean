/- A part of the proof. -/
import Derived.WalkKit
import Derived.Deep.QuietTactic
import Derived.BigQuiet
import Derived.WalkLawsBesides
import Derived.Deep.RegionHeld
import Derived.ProofKit
import Derived.OpenShut
import Derived.Deep.Grids
import Derived.Laws.OwnMore
import Derived.Deep.Draws
import Derived.Laws.Rows
set_option linter.unusedVariables false
set_option linter.unusedSimpArgs false
set_option maxRecDepth 8000
set_option maxHeartbeats 8000000
section
section
namespace Go.RowKit
theorem Hid.o {p:Prop} (h:Hid p):p:=h
end Go.RowKit
namespace Go
theorem Shut.o {p:Prop} (h:Shut p):p:=h
theorem Nl (n:Nat):n<=n:=Nat.le_refl n
end Go
end
namespace Go.Lt
open Go.RowKit
theorem Ab {p:Prop} (h:p):Hid p:=h
theorem add_block (a:Addr) (n:Nat):(a.add n).block=a.block:=by
 by_cases h:n=0<;>simp[Addr.add,h]
def Rd (w:World) (A:Option Addr) (n:Nat) (xs:List Value):Prop:=
 xs.length=n/\∀k,k<n->∃ad u,A=some ad/\ad.block<w.heap.size/\xs[k]?=some u/\w.cell? (ad.add k)=some u
section
variable {w w':World} {A:Option Addr} {n:Nat} {xs:List Value}
theorem Rd.nil (w:World) (A:Option Addr):Rd w A 0 []:=⟨rfl,λ_ h=>absurd h (Nat.not_lt_zero _)⟩
theorem Rd.keep (h:Rd w A n xs) (hs:w.heap.size<=w'.heap.size) (hc:∀ p:Addr,p.block<w.heap.size->w'.cell? p=w.cell? p):Rd w' A n xs:=
 ⟨h.1,λk r=>by
  obtain⟨j,u,l,h2,m,q⟩:=h.2 k r
  exact⟨j,u,l,Nat.lt_of_lt_of_le h2 hs,m,(hc _ (by rw[add_block];exact h2)).trans q⟩⟩
theorem Rd.below {B:Nat} (h:Rd w A n xs) (hb:Below B w w') (hB:w.heap.size<=B):Rd w' A n xs:=
 h.keep hb.size λ_ j=>hb.cell (Nat.lt_of_lt_of_le j hB)
theorem Rd.get {α:Type} {f:α->Value} {l:List α} (h:Rd w A n (l.map f)) {k:Nat} (hk:k<n):
  ∃m x,A=some m/\m.block<w.heap.size/\l[k]?=some x/\w.cell? (m.add k)=some (f x):=by
 obtain⟨m,u,q,h2,j,r⟩:=h.2 k hk;rw[List.getElem?_map]at j
 cases p:l[k]? with
 |none=>rw[p]at j;cases j
 |some x=>rw[p]at j;injection j with j;subst j;exact⟨m,x,q,h2,rfl,r⟩
theorem Rd.len {α:Type} {f:α->Value} {l:List α} (h:Rd w A n (l.map f)):l.length=n:=by have:=h.1;simpa using this
theorem Rd.of_own {base:Nat} {e:TypeId} {v:Value} (h:w.ownsRow base e 1 v n xs):∃ A c,v= .slice A n c/\n<=c/\c<=maxLen/\Rd w A n xs:=by
 obtain⟨q,h2⟩:=h;rw[Nat.mul_one]at q
 rcases h2 with⟨rfl,rfl⟩|⟨g,j,r,rfl,x,z,p,m,y,l⟩
 ·exact⟨none,0,rfl,Nat.le_refl _,Nat.zero_le _,q,λk B=>absurd B (Nat.not_lt_zero _)⟩
 refine⟨some ⟨g,0,none⟩,j,rfl,p,m,q,λk B=>?_⟩;have D:xs[k]?=some (xs[k]'(by omega)):=List.getElem?_eq_getElem _
 exact⟨_,_,rfl,(Array.getElem?_eq_some_iff.1 z).1,D,World.ownsRow.cells (v:= .slice (some ⟨g,0,none⟩) n j) ⟨by rw[Nat.mul_one];exact q,.inr ⟨g,j,r,rfl,x,z,p,m,y,l⟩⟩ rfl k _ D⟩
end
def Dr (w w':World):Prop:=∃ m,w'=w.drewN m
theorem Dr.refl (w:World):Dr w w:=⟨0,rfl⟩
theorem Dr.trans {a b c:World} (h:Dr a b) (k:Dr b c):Dr a c:=by
 obtain⟨m,rfl⟩:=h;obtain⟨n,rfl⟩:=k;exact⟨m+n,World.drewN_drewN ..⟩
theorem Dr.more {a b:World} (h:Dr a b) (n:Nat):Dr a (b.drewN n):=h.trans ⟨n,rfl⟩
theorem Dr.drew {a b:World} (h:Dr a b):Dr a b.drew:=h.trans ⟨1,rfl⟩
theorem Dr.cell {a b:World} (h:Dr a b) (p:Addr):b.cell? p=a.cell? p:=by obtain⟨m,rfl⟩:=h;rfl
theorem Dr.frozen {a b:World} (h:Dr a b) (p:Addr):b.frozen? p=a.frozen? p:=by obtain⟨m,rfl⟩:=h;rfl
theorem Dr.own {a b:World} {base size n:Nat} {e:TypeId} {v:Value} {xs:List Value} (h:Dr a b) (ho:a.ownsRow base e size v n xs):b.ownsRow base e size v n xs:=by obtain⟨m,rfl⟩:=h;exact ho
theorem Dr.heap {a b:World} (h:Dr a b):b.heap=a.heap:=by obtain⟨m,rfl⟩:=h;rfl
theorem Dr.below {a b:World} (h:Dr a b) (B:Nat):Below B a b:=by obtain⟨m,rfl⟩:=h;exact⟨rfl,rfl,rfl,Nat.le_refl _,λ_ _=>rfl⟩
theorem Dr.rd {a b:World} {A:Option Addr} {n:Nat} {xs:List Value} (h:Dr a b) (hr:Rd a A n xs):Rd b A n xs:=by obtain⟨m,rfl⟩:=h;exact hr
section
variable {P:Program} {f:FuncId} {args:Array Value} {w:World} {n:Nat} {v:Value}
theorem AeS (h:Calls P f args (w.drewN n) λe w'=>e= .returned v/\Dr (w.drewN n) w'):Calls P f args (w.drewN n) λe j=>e= .returned v/\∃m,j=w.drewN m:=
 h.mono λ_ _ ⟨he,m,hm⟩=>⟨he,n+m,by rw[hm,World.drewN_drewN]⟩
theorem Vp (h:Calls P f args (w.drewN n) λe w'=>e= .returned v/\w.drewN n=w'):Calls P f args (w.drewN n) λe j=>e= .returned v/\∃m,j=w.drewN m:=
 h.mono λ_ _ ⟨he,hm⟩=>⟨he,n,hm.symm⟩
end
section
variable {P:Program} {w w0:World} {base e size bytes n:Nat} {z v:Value} {xs news:List Value}
theorem Yk {ops:Array Oper} {rest:List Oper} {o:Oper} {a:Act} {Q:Exit->Act->World->Prop} (hgd:o.guard=none) (s x:Operand) (t:TypeId)
  (ho:o.op= .call {callee:= .builtin .append,args:= #[s,x],argTypes:= #[t,t]})
  (ht:P.underlying t=some (.slice e)) (hi:(P.info? e).map (λi=>(i.zero,i.size,i.bytes))=some (some z,size,bytes)) (hzs:z.cells.size=size) (hsz:0<size)
  (hs:a.eval s=v) (hx:a.eval x= .slice (some ⟨w.heap.size,0,none⟩) 1 1) (hown:w.ownsRow base e size v n xs) (hb:Below base w0 w) (hbase:base<=w0.heap.size)
  (hl:news.length=size) (h1:∀ u∈news,u.oneCell'=true) (h63:n+1<=maxLen) (hby:(n+1)*bytes<=140737488355328)
  (h:∀ v' w',w'.ownsRow base e size v' (n+1) (xs++news)->Below base w0 w'->wpList P ops Q rest (a.put o.dst v') w'):
  wpList P ops Q (o::rest) a (w.alloc (.cells news.toArray e)):=by
 obtain⟨i,l,B,m,p⟩:=info_parts hi;refine wpList_append_own _ hgd s x t ho base e i z size bytes ht l B m p hzs hsz v n xs hs (hown.alloc _) ⟨w.heap.size,0,none⟩ 1 1 news hx (by omega) ?_ h1 h63 hby ?_ ?_
 ·intro j u y
  have:(⟨w.heap.size,0,none⟩:Addr).add j=⟨w.heap.size,j,none⟩:=by unfold Addr.add;split<;>simp_all
  rw[this,World.cell?_alloc_new]
  simpa using y
 ·have:=hb.size;simp;omega
 intro v' w' h2 q _;refine h v' w' h2 ((hb.alloc (by have:=hb.size;omega) _).grown q (by have:=hb.size;simp;omega) ?_);intro k r
 exact(hown.lt k r).1
end
section
variable {w w':World} {A:Option Addr} {n m:Nat} {xs:List Value}
theorem Rd.take_ (h:Rd w A n xs) (hm:m<=n):Rd w A m (xs.take m):=
 ⟨by rw[List.length_take,h.1];omega,λk r=>by
  obtain⟨j,u,l,h2,p,q⟩:=h.2 k (by omega)
  exact⟨j,u,l,h2,by rw[List.getElem?_take,if_pos r];exact p,q⟩⟩
theorem Rd.addr (h:Rd w A n xs) (hn:0<n):∃ j,A=some j/\j.block<w.heap.size:=by
 obtain⟨j,u,l,h2,_⟩:=h.2 0 hn
 exact⟨j,l,h2⟩
theorem Rd.none (h:Rd w none n xs):n=0:=by
 rcases Nat.eq_zero_or_pos n with j|j
 ·exact j
 obtain⟨m,l,_⟩:=h.addr j;cases l
theorem Jx {base size:Nat} {e:TypeId} {v:Value} (h:w.ownsRow base e size v n xs):
  (v= .slice .none 0 0/\n=0)∨∃g j,v= .slice (some ⟨g,0,.none⟩) n j/\base<=g/\g<w.heap.size/\n<=j/\j<=maxLen:=by
 rcases h.2 with m|⟨g,j,l,p,h2,q,r,x,_⟩
 ·exact .inl m
 exact .inr ⟨g,j,p,h2,(Array.getElem?_eq_some_iff.1 q).1,r,x⟩
theorem Au {base size:Nat} {e:TypeId} {v:Value} (h:w.ownsRow base e size v n xs) (hb:Below w.heap.size w w'):w'.ownsRow base e size v n xs:=
 h.kept (row:= .none) ⟨hb.os,hb.tape,hb.output,hb.size,λk j _=>hb.block k j⟩ (by cases v.ownBlock<;>simp)
end
theorem Ajj {α β:Type} (f:α->β) (l:List α) (k:Nat) (x:α) (h:l[k]?=some x):(l.take (k+1)).map f=(l.take k).map f++ [f x]:=by
 rw[List.take_add_one,h];simp
section
variable {P:Program} {w w0:World} {base e bytes n m c:Nat} {z v:Value} {A:Option Addr} {xs news:List Value}
theorem Od {ops:Array Oper} {rest:List Oper} {o:Oper} {a:Act} {Q:Exit->Act->World->Prop} (hgd:o.guard=none) (s x:Operand) (t:TypeId)
  (ho:o.op= .call {callee:= .builtin .append,args:= #[s,x],argTypes:= #[t,t]})
  (ht:P.underlying t=some (.slice e)) (hi:(P.info? e).map (λi=>(i.zero,i.size,i.bytes))=some (some z,1,bytes)) (hzs:z.cells.size=1)
  (hs:a.eval s=v) (hx:a.eval x= .slice A m c) (hown:w.ownsRow base e 1 v n xs) (hb:Below base w0 w) (hbase:base<=w.heap.size)
  (hr:Rd w A m news) (h1:∀ u∈news,u.oneCell'=true) (h63:n+m<=maxLen) (hby:(n+m)*bytes<=140737488355328)
  (h:∀ v' w',w'.ownsRow base e 1 v' (n+m) (xs++news)->Below base w0 w'->wpList P ops Q rest (a.put o.dst v') w'):
  wpList P ops Q (o::rest) a w:=by
 obtain⟨i,p,Y,B,D⟩:=info_parts hi
 rcases A with _|F
 ·have U:=hr.none;subst U;have X:news= []:=List.eq_nil_of_length_eq_zero hr.1;subst X;refine wpList_plain hgd λK O=>?_
  have r:(Builtin.append_ #[t,t] o.type #[v,.slice .none 0 c]).run P w= .ok v w:=by
   rcases hown.2 with⟨rfl,rfl⟩|⟨g,J,M,rfl,_,_,y,_⟩
   ·simp[Builtin.append_,run_underlying ht,sizeOf,typeInfo,p,Builtin.lenOf,Builtin.firstCells]
   simp[Builtin.append_,run_underlying ht,sizeOf,typeInfo,p,Builtin.lenOf,Builtin.firstCells,y,storeCells]
  unfold Oper.wp;simp only[execOp,ho,resolve,invoke,builtin,Sem.run_bind,Sem.run_pure,Result.andThen_ok,List.map_toArray,List.map_cons,List.map_nil,hs,hx,r];exact O _ _ (h v w (by simpa using hown) hb)
 refine wpList_append_own _ hgd s x t ho base e i z 1 bytes ht p Y B D hzs (by omega) v n xs hs hown F m c news hx (by rw[hr.1];omega) ?_ h1 h63 hby hbase ?_
 ·intro j u E
  have R:j<m:=by rw[<-hr.1];exact(List.getElem?_eq_some_iff.1 E).1
  obtain⟨I,Z,l,_,q,N⟩:=hr.2 j R;injection l with l;subst l;rw[E]at q;injection q with q;subst q;exact N
 intro v' w' h2 q _;exact h v' w' h2 (hb.grown q hbase λk S=>(hown.lt k S).1)
end
end Go.Lt
end
section
namespace Go.Lt
open Go.RowKit Go.ChangeShapes Go.WideShapes Go.Deep
section
variable {H:Type} {enc:TypeId×Value->H} {P:Program} {w:World} {base:Nat} {held:Bool}
theorem AeR {x:Addr} {n:Nat} {xs:List Value} (hl:xs.length=n) (hc:∀ k u,xs[k]?=some u->w.cell? (x.add k)=some u):Rd w (some x) n xs:=
 ⟨hl,λk m=>by
  have l:xs[k]?=some (xs[k]'(by omega)):=List.getElem?_eq_getElem _;have j:=hc k _ l;refine⟨x,_,rfl,?_,l,j⟩
  have:=World.block_lt_of_cell? w _ j
  rwa [add_block]at this⟩
end
end Go.Lt
end
section
namespace Go.Lt
open Go.RowKit
def Blk (w:World) (g:Nat) (t:TypeId) (cs:Array Value):Prop:=w.heap[g]?=some (.cells cs t (0,0))
section
variable {w w':World} {g:Nat} {t:TypeId} {cs:Array Value}
theorem Blk.lt (h:Blk w g t cs):g<w.heap.size:=by
 rcases Nat.lt_or_ge g w.heap.size with l|j
 ·exact l
 unfold Blk at h;rw[Array.getElem?_eq_none j]at h;cases h
theorem Blk.cell (h:Blk w g t cs) (i:Nat):w.cell? ⟨g,i,none⟩=cs[i]?:=cell_of_row w g i cs t (0,0) h
theorem Blk.frozen (h:Blk w g t cs) (i:Nat):w.frozen? ⟨g,i,none⟩=false:=by
 unfold Blk at h;simp[World.frozen?,h]
theorem Blk.new (w:World) (t:TypeId) (cs:Array Value):Blk (w.alloc (.cells cs t)) w.heap.size t cs:=heap_alloc_new w _
theorem Blk.alloc (h:Blk w g t cs) (o:Obj):Blk (w.alloc o) g t cs:=(Below.heap_alloc w o g h.lt).trans h
theorem Blk.set_ (h:Blk w g t cs) (i:Nat) (u:Value):Blk (w.setCell ⟨g,i,none⟩ u) g t (cs.setIfInBounds i u):=by
 unfold Blk at h ⊢;simp[World.setCell,Array.getElem?_modify,h]
theorem Blk.far (h:Blk w g t cs) {p:Addr} (hp:g≠p.block) (u:Value):Blk (w.setCell p u) g t cs:=(Below.heap_setCell w p u g hp).trans h
theorem Blk.below {B:Nat} (h:Blk w g t cs) (hb:Below B w w') (hg:g<B):Blk w' g t cs:=(hb.block g hg).trans h
theorem Blk.grown {row:Option Nat} (h:Blk w g t cs) (hb:w.grownBy w' row) (hg:some g≠row):Blk w' g t cs:=(hb.block g h.lt hg).trans h
theorem Blk.dr (h:Blk w g t cs) (hd:Dr w w'):Blk w' g t cs:=by obtain⟨m,rfl⟩:=hd;exact h
theorem Ba {base:Nat} {e:TypeId} {size n:Nat} {v:Value} {xs:List Value} (h:w.ownsRow base e size v n xs) (hg:Blk w g t cs) (hne:e≠t):some g≠v.ownBlock:=by
 rcases h.2 with⟨rfl,_⟩|⟨m,j,l,rfl,_,q,_⟩
 ·simp[Value.ownBlock]
 intro p
 have:g=m:=by simpa[Value.ownBlock] using p
 subst this;unfold Blk at hg;rw[q]at hg;injection hg with hg;injection hg with _ ht;exact hne ht
theorem Dw {base:Nat} {e:TypeId} {size n:Nat} {v:Value} {xs:List Value} (h:w.ownsRow base e size v n xs) (hg:g<base):some g≠v.ownBlock:=by
 rcases h.2 with⟨rfl,_⟩|⟨m,j,l,rfl,q,_⟩
 ·simp[Value.ownBlock]
 intro p
 have:g=m:=by simpa[Value.ownBlock] using p
 omega
end
section
variable {P:Program} {w w0:World} {base e size bytes n:Nat} {z v:Value} {xs news:List Value}
theorem Ah {ops:Array Oper} {rest:List Oper} {o:Oper} {a:Act} {Q:Exit->Act->World->Prop} (hgd:o.guard=none) (s x:Operand) (t:TypeId)
  (ho:o.op= .call {callee:= .builtin .append,args:= #[s,x],argTypes:= #[t,t]})
  (ht:P.underlying t=some (.slice e)) (hi:(P.info? e).map (λi=>(i.zero,i.size,i.bytes))=some (some z,size,bytes)) (hzs:z.cells.size=size) (hsz:0<size)
  (hs:a.eval s=v) (hx:a.eval x= .slice (some ⟨w.heap.size,0,none⟩) 1 1) (hown:w.ownsRow base e size v n xs) (hb:Below base w0 w) (hbase:base<=w0.heap.size)
  (hl:news.length=size) (h1:∀ u∈news,u.oneCell'=true) (h63:n+1<=maxLen) (hby:(n+1)*bytes<=140737488355328)
  (h:∀ v' w',w'.ownsRow base e size v' (n+1) (xs++news)->Below base w0 w'->(w.alloc (.cells news.toArray e)).grownBy w' v.ownBlock->wpList P ops Q rest (a.put o.dst v') w'):
  wpList P ops Q (o::rest) a (w.alloc (.cells news.toArray e)):=by
 obtain⟨i,l,B,m,p⟩:=info_parts hi;refine wpList_append_own _ hgd s x t ho base e i z size bytes ht l B m p hzs hsz v n xs hs (hown.alloc _) ⟨w.heap.size,0,none⟩ 1 1 news hx (by omega) ?_ h1 h63 hby ?_ ?_
 ·intro j u y
  have:(⟨w.heap.size,0,none⟩:Addr).add j=⟨w.heap.size,j,none⟩:=by unfold Addr.add;split<;>simp_all
  rw[this,World.cell?_alloc_new]
  simpa using y
 ·have:=hb.size;simp;omega
 intro v' w' h2 q _;refine h v' w' h2 ((hb.alloc (by have:=hb.size;omega) _).grown q (by have:=hb.size;simp;omega) ?_) q;intro k r
 exact(hown.lt k r).1
end
def RdS (w:World) (A:Option Addr) (n size:Nat) (xs:List Value):Prop:=
 xs.length=n*size/\(n=0∨∃ad,A=some ad/\ad.block<w.heap.size/\∀k u,xs[k]?=some u->w.cell? (ad.add k)=some u)
theorem RdS.below {w w':World} {A:Option Addr} {n size B:Nat} {xs:List Value} (h:RdS w A n size xs) (hb:Below B w w') (hB:w.heap.size<=B):RdS w' A n size xs:=by
 obtain⟨l,h2⟩:=h;refine⟨l,?_⟩
 rcases h2 with h2|⟨j,m,p,q⟩
 ·exact .inl h2
 exact .inr ⟨j,m,Nat.lt_of_lt_of_le p hb.size,λk u r=>(hb.cell (by rw[add_block];omega)).trans (q k u r)⟩
theorem Mt {α:Type} (enc:α->List Value) (s:Nat) (hs:∀ x,(enc x).length=s) (l:List α):(l.flatMap enc).length=l.length*s:=by
 induction l with
 |nil=>simp
 |cons x l j=>rw[List.flatMap_cons,List.length_append,hs,j,List.length_cons,Nat.succ_mul,Nat.add_comm]
theorem flat_get {α:Type} (enc:α->List Value) (s:Nat) (hs:∀ x,(enc x).length=s) (h0:0<s) (l:List α):∀ k,(l.flatMap enc)[k]?=(l[k/s]?).bind λx=>(enc x)[k%s]?:=by
 induction l with
 |nil=>intro k;simp
 |cons x l q=>
  intro k;rw[List.flatMap_cons]
  by_cases j:k<s
  ·rw[List.getElem?_append_left (by rw[hs];exact j),Nat.div_eq_of_lt j,Nat.mod_eq_of_lt j];rfl
  have m:k/s=(k-s)/s+1:=Nat.div_eq_sub_div h0 (by omega);have p:k%s=(k-s)%s:=Nat.mod_eq_sub_mod (by omega);rw[List.getElem?_append_right (by rw[hs];omega),hs,q (k-s),m,p,List.getElem?_cons_succ]
section
variable {P:Program} {w w0:World} {base e bytes n m c size:Nat} {z v:Value} {A:Option Addr} {xs news:List Value}
theorem Gq {ops:Array Oper} {rest:List Oper} {o:Oper} {a:Act} {Q:Exit->Act->World->Prop} (hgd:o.guard=none) (s x:Operand) (t:TypeId)
  (ho:o.op= .call {callee:= .builtin .append,args:= #[s,x],argTypes:= #[t,t]})
  (ht:P.underlying t=some (.slice e)) (hi:(P.info? e).map (λi=>(i.zero,i.size,i.bytes))=some (some z,size,bytes)) (hzs:z.cells.size=size) (hsz:0<size)
  (hs:a.eval s=v) (hx:a.eval x= .slice A m c) (hown:w.ownsRow base e size v n xs) (hb:Below base w0 w) (hbase:base<=w.heap.size)
  (hr:RdS w A m size news) (h1:∀ u∈news,u.oneCell'=true) (h63:n+m<=maxLen) (hby:(n+m)*bytes<=140737488355328)
  (h:∀ v' y,y.ownsRow base e size v' (n+m) (xs++news)->Below base w0 y->w.grownBy y v.ownBlock->wpList P ops Q rest (a.put o.dst v') y):
  wpList P ops Q (o::rest) a w:=by
 obtain⟨i,p,Y,M,N⟩:=info_parts hi
 have q:m=0->wpList P ops Q (o::rest) a w∨∃j,A=some j:=by
  intro F
  rcases A with _|j
  ·left
   subst F;have X:news= []:=List.eq_nil_of_length_eq_zero (by rw[hr.1];simp);subst X;refine wpList_plain hgd λK S=>?_
   have B:(Builtin.append_ #[t,t] o.type #[v,.slice .none 0 c]).run P w= .ok v w:=by
    rcases hown.2 with⟨rfl,rfl⟩|⟨g,cap,O,rfl,_,_,J,_⟩
    ·simp[Builtin.append_,run_underlying ht,sizeOf,typeInfo,p,Builtin.lenOf,Builtin.firstCells]
    simp[Builtin.append_,run_underlying ht,sizeOf,typeInfo,p,Builtin.lenOf,Builtin.firstCells,J,storeCells]
   unfold Oper.wp;simp only[execOp,ho,resolve,invoke,builtin,Sem.run_bind,Sem.run_pure,Result.andThen_ok,List.map_toArray,List.map_cons,List.map_nil,hs,hx,B];exact S _ _ (h v w (by simpa using hown) hb (World.grownBy.refl _ _))
  exact .inr ⟨j,rfl⟩
 have r:wpList P ops Q (o::rest) a w∨∃j,A=some j/\∀k u,news[k]?=some u->w.cell? (j.add k)=some u:=by
  rcases hr.2 with F|⟨j,D,_,R⟩
  ·rcases q F with I|⟨j,I⟩
   ·exact .inl I
   refine .inr ⟨j,I,λk u E=>?_⟩
   have:news= []:=List.eq_nil_of_length_eq_zero (by rw[hr.1,F];simp)
   rw[this]at E;cases E
  exact .inr ⟨j,D,R⟩
 rcases r with U|⟨j,rfl,l⟩
 ·exact U
 refine wpList_append_own _ hgd s x t ho base e i z size bytes ht p Y M N hzs hsz v n xs hs hown j m c news hx (by rw[hr.1]) l h1 h63 hby hbase ?_;intro v' y h2 D _;exact h v' y h2 (hb.grown D hbase λk E=>(hown.lt k E).1) D
end
section
variable {w:World} {base e size n cap g:Nat} {xs:List Value}
theorem Uw (h:w.ownsRow base e size (.slice (some ⟨g,0,none⟩) n cap) n xs) (j:Nat) (u:Value):(w.setCell ⟨g,j,none⟩ u).ownsRow base e size (.slice (some ⟨g,0,none⟩) n cap) n (xs.set j u):=by
 obtain⟨r,h2⟩:=h;refine⟨by simpa using r,?_⟩
 rcases h2 with⟨m,_⟩|⟨E,c',l,D,p,q,y,x,z,B⟩
 ·cases m
 injection D with h4 _ h5;injection h4 with h4;injection h4 with h4 _ _;subst h4 h5;refine .inr ⟨g,cap,l.setIfInBounds j u,rfl,p,?_,y,x,by simpa using z,?_⟩
 ·simp[World.setCell,Array.getElem?_modify,q]
 rw[Array.toList_setIfInBounds,List.take_set,B]
theorem Lv (h:w.ownsRow base e size (.slice (some ⟨g,0,none⟩) n cap) n xs) (j:Nat):w.frozen? ⟨g,j,none⟩=false:=by
 rcases h.2 with⟨m,_⟩|⟨r,c',l,q,x,p,z,y,B,D⟩
 ·cases m
 injection q with h4 _ h5;injection h4 with h4;injection h4 with h4 _ _;subst h4;simp[World.frozen?,p]
theorem Jp (h:w.ownsRow base e size (.slice (some ⟨g,0,none⟩) n cap) n xs) {j:Nat} {u:Value} (hj:xs[j]?=some u):w.cell? ⟨g,j,none⟩=some u:=by
 have:=World.ownsRow.cells h rfl j u hj
 rwa [show(⟨g,0,none⟩:Addr).add j=⟨g,j,none⟩ by unfold Addr.add;split<;>simp_all]at this
end
end Go.Lt
end
