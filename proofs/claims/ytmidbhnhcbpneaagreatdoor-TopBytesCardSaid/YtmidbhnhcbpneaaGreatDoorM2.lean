/- A part of the proof. -/
import Derived.Test.YtmidbhnhcbpneaaGreatDoorM1
import Derived.Deep.RegionHeld
import Derived.Maps.AppendAt
import Derived.OwnWalk
set_option linter.unusedVariables false
set_option linter.unusedSimpArgs false
set_option maxRecDepth 8000
set_option maxHeartbeats 8000000
section
namespace Go.Lt
open Go.RowKit
section
variable {P:Program} {ops:Array Oper} {Q:Exit->Act->World->Prop}
def Sx (listed:Array Bool):Nat:=listed.toList.countP (λb=> !b)
theorem Tw {listed:Array Bool} {i:Nat} (h:listed.getD i true=false):∃ hi:i<listed.toList.length,listed.toList[i]=false:=by
 by_cases hi:i<listed.size
 ·refine⟨by simpa using hi,?_⟩
  simpa[Array.getD,hi] using h
 simp[Array.getD,hi]at h
theorem Sb {listed:Array Bool} {i:Nat} (h:listed.getD i true=false):Sx (listed.setIfInBounds i true)+1=Sx listed:=by
 obtain⟨hi,h2⟩:=Tw h;unfold Sx;rw[Array.toList_setIfInBounds,List.countP_set hi,h2];have j:0<listed.toList.countP (λb=> !b):=List.countP_pos_iff.2 ⟨false,by rw[<-h2];exact List.getElem_mem _,rfl⟩;simp only[Bool.not_false,Bool.not_true,if_true,Bool.false_eq_true,if_false];omega
theorem Wt {listed:Array Bool} {i:Nat} (h:listed.getD i true=false):0<Sx listed:=by
 have:=Sb h;omega
theorem AaG {listed:Array Bool} (hwf:∀ (j:Nat) o,ops[j]?=some o->∀e∈o.after,e.on<j) (hs:listed.size=ops.size) (hr:Region.ready .any ops listed= []):∀ j,listed.getD j true=true:=by
 intro j
 induction j using Nat.strongRecOn with
 |_ j ih=>
  cases q:listed.getD j true with
  |true=>rfl
  |false=>
   have l:j<ops.size:=by
    obtain⟨hi,_⟩:=Tw q;rw[<-hs];simpa using hi
   have m:ops[j]?=some ops[j]:=Array.getElem?_eq_getElem l
   have:j∈Region.ready .any ops listed:=mem_ready.2 ⟨q,_,m,λe p _=>by
    have r:=ih e.on (hwf j _ m e p)
    have h2:e.on<listed.size:=by have:=hwf j _ m e p;omega
    simpa[Array.getD,h2] using r⟩
   rw[hr]at this;cases this
theorem AaS {listed:Array Bool} {i:Nat} (j:Nat):(listed.setIfInBounds i true).getD j true=true↔j=i∨listed.getD j true=true:=by
 by_cases l:j<listed.size
 ·by_cases hi:j=i
  ·subst hi;simp[Array.getD,l]
  simp[Array.getD,l,hi,Array.getElem_setIfInBounds,Ne.symm hi]
 simp[Array.getD,l]
theorem AcW (I:(Nat->Prop)->Act->World->Prop) (hwf:∀ (j:Nat) o,ops[j]?=some o->∀e∈o.after,e.on<j)
  (hstep:∀ D a w i o,ops[i]?=some o->(∀e∈o.after,Region.binds .any e=true->D e.on)->I D a w->wpOp P ops Q i (λp r=>I (λj=>j=i∨D j) p r) a w)
  (hdone:∀ D a w,(∀j,D j)->I D a w->Q .normal a w):
  ∀(fuel:Nat) (listed:Array Bool) (a:Act) (w:World),listed.size=ops.size->Sx listed<=fuel->I (λj=>listed.getD j true=true) a w->wpAny P .any ops Q fuel listed a w
 |0,listed,a,w,hs,hf,hI=>by
  have m:Region.ready .any ops listed= []:=by
   cases h:Region.ready .any ops listed with
   |nil=>rfl
   |cons i rs=>
    have hi:i∈Region.ready .any ops listed:=by rw[h];simp
    have:=Wt (mem_ready.1 hi).1
    omega
  exact⟨m,hdone _ a w (AaG hwf hs m) hI⟩
 |fuel+1,listed,a,w,hs,hf,hI=>by
  refine⟨λm=>hdone _ a w (AaG hwf hs m) hI,λi hi=>?_⟩;obtain⟨E,o,F,z⟩:=mem_ready.1 hi;refine wpOp_mono (λp r q=>?_) (hstep _ a w i o F (λe B y=>?_) hI)
  ·refine AcW I hwf hstep hdone fuel _ p r (by simpa using hs) (by have:=Sb E;omega) ?_;have l:(λj=>(listed.setIfInBounds i true).getD j true=true)=λj=>j=i∨listed.getD j true=true:=funext λj=>propext (AaS j);rw[l];exact q
  have x:=z e B y
  have h2:e.on<listed.size:=by
   rcases Nat.lt_or_ge e.on listed.size with h|h
   ·exact h
   simp[Array.getD,Nat.not_lt.2 h]at x
  simpa[Array.getD,h2] using x
theorem AbR {id:Nat} {a:Act} {w:World} (I:(Nat->Prop)->Act->World->Prop) (hm:P.follows .mixedOrders=true)
  (hwf:(ops.toList.zipIdx.all λp=>p.1.after.all λe=>decide (e.on<p.2))=true)
  (h0:I (λj=>ops.size<=j) a w.drew)
  (hstep:∀ D a w i o,ops[i]?=some o->(∀e∈o.after,Region.binds .any e=true->D e.on)->I D a w->wpOp P ops Q i (λr B=>I (λj=>j=i∨D j) r B) a w)
  (hdone:∀ D a w,(∀j,D j)->I D a w->Q .normal a w):(Code.region id ops true).wp P Q a w:=by
 refine wp_region_any hm (AcW I (λj o q e y=>?_) hstep hdone ops.size _ a _ (by simp) (by unfold Sx;simp[List.countP_replicate]) ?_)
 ·have z:j<ops.size:=(Array.getElem?_eq_some_iff.1 q).1
  have h:(o,j)∈ops.toList.zipIdx:=by
   rw[List.mem_iff_getElem?]
   exact⟨j,by rw[List.getElem?_zipIdx,Array.getElem?_toList,q];simp⟩
  have x:=List.all_eq_true.1 hwf _ h;have h2:=Array.all_eq_true_iff_forall_mem.1 x e y
  simpa using h2
 have l:(λj=>(Array.replicate ops.size false).getD j true=true)=λj=>ops.size<=j:=funext λj=>propext (by
  by_cases m:j<ops.size
  ·simp[Array.getD,m]
  simp[Array.getD,m];omega)
 rw[l];exact h0
end
section
variable {P:Program} {w:World} {base e bytes m c size g:Nat} {z:Value} {A:Option Addr} {news:List Value}
end
section
variable {P:Program} {w:World} {base e bytes n m c size:Nat} {z v:Value} {A:Option Addr} {xs news:List Value}
theorem AaO (t ty:TypeId) (ht:P.underlying t=some (.slice e)) (hi:(P.info? e).map (λi=>(i.zero,i.size,i.bytes))=some (some z,size,bytes)) (hzs:z.cells.size=size) (hsz:0<size)
  (hown:w.ownsRow base e size v n xs) (hbase:base<=w.heap.size) (hr:RdS w A m size news) (h1:∀ u∈news,u.oneCell'=true) (h63:n+m<=maxLen) (hby:(n+m)*bytes<=140737488355328):
  ∃v' x,(Builtin.append_ #[t,t] ty #[v,.slice A m c]).run P w= .ok v' x/\x.ownsRow base e size v' (n+m) (xs++news)/\w.grownBy x v.ownBlock:=by
 obtain⟨i,p,O,B,D⟩:=info_parts hi
 have q:(∃j,A=some j/\∀k u,news[k]?=some u->w.cell? (j.add k)=some u)∨(A=none/\m=0):=by
  rcases hr.2 with F|⟨j,y,_,M⟩
  ·rcases A with _|j
   ·exact .inr ⟨rfl,F⟩
   refine .inl ⟨j,rfl,λk u E=>?_⟩
   have:news= []:=List.eq_nil_of_length_eq_zero (by rw[hr.1,F];simp)
   rw[this]at E;cases E
  exact .inl ⟨j,y,M⟩
 rcases q with⟨j,rfl,l⟩|⟨rfl,rfl⟩
 ·obtain⟨v',x,r,h2,y,_,_⟩:=run_append_own_at (P:=P) w base t ty e i z size bytes ht p O B D hzs hsz v n xs hown j m c news hr.1 l h1 h63 hby hbase
  exact⟨v',x,r,h2,y⟩
 have N:news= []:=List.eq_nil_of_length_eq_zero (by rw[hr.1];simp);subst N;refine⟨v,w,?_,by simpa using hown,World.grownBy.refl _ _⟩
 rcases hown.2 with⟨rfl,rfl⟩|⟨g,I,J,rfl,_,_,h,_⟩
 ·simp[Builtin.append_,run_underlying ht,sizeOf,typeInfo,p,Builtin.lenOf,Builtin.firstCells]
 simp[Builtin.append_,run_underlying ht,sizeOf,typeInfo,p,Builtin.lenOf,Builtin.firstCells,h,storeCells]
theorem Ej {ops:Array Oper} {o:Oper} {a:Act} {K:Act->World->Prop} {Q:Exit->Act->World->Prop} {E:Prop} (hgd:o.guard=none) (s x:Operand) (t:TypeId)
  (ho:o.op= .call {callee:= .builtin .append,args:= #[s,x],argTypes:= #[t,t]})
  (ht:P.underlying t=some (.slice e)) (hi:(P.info? e).map (λi=>(i.zero,i.size,i.bytes))=some (some z,size,bytes)) (hzs:z.cells.size=size) (hsz:0<size)
  (hs:a.eval s=v) (hx:a.eval x= .slice A m c) (hown:w.ownsRow base e size v n xs) (hbase:base<=w.heap.size) (hr:RdS w A m size news) (h1:∀ u∈news,u.oneCell'=true) (h63:n+m<=maxLen) (hby:(n+m)*bytes<=140737488355328)
  (h:∀ v' l,l.ownsRow base e size v' (n+m) (xs++news)->w.grownBy l v.ownBlock->K (a.put o.dst v') l):
  if Region.wanted o (yielded ops a.tmps)=true then Oper.wp P o a w K Q else E:=by
 have q:Region.wanted o (yielded ops a.tmps)=true:=by simp[Region.wanted,hgd]
 rw[if_pos q];obtain⟨v',l,j,h2,p⟩:=AaO (c:=c) t o.type ht hi hzs hsz hown hbase hr h1 h63 hby;unfold Oper.wp execOp;simp only[ho,resolve,invoke,builtin,Sem.run_bind,Sem.run_pure,Result.andThen_ok,List.map_toArray,List.map_cons,List.map_nil,hs,hx,j];exact h v' l h2 p
end
theorem Wh {w:World} {A:Option Addr} {n:Nat} {xs:List Value} (h:Rd w A n xs):RdS w A n 1 xs:=by
 refine⟨by rw[h.1,Nat.mul_one],?_⟩
 rcases Nat.eq_zero_or_pos n with m|m
 ·exact .inl m
 obtain⟨x,q,h2⟩:=h.addr m;refine .inr ⟨x,q,h2,λk u r=>?_⟩
 have p:k<n:=by have:=(List.getElem?_eq_some_iff.1 r).1;rw[h.1]at this;exact this
 obtain⟨y,B,j,_,l,z⟩:=h.2 k p;rw[q]at j;injection j with j;subst j;rw[r]at l;injection l with l;subst l;exact z
theorem Alq (w:World) (t:TypeId) (a b:Value):RdS (w.alloc (.cells #[a,b] t)) (some ⟨w.heap.size,0,none⟩) 2 1 [a,b]:=by
 refine⟨rfl,.inr ⟨_,rfl,by simp,λk u j=>?_⟩⟩
 have:(⟨w.heap.size,0,none⟩:Addr).add k=⟨w.heap.size,k,none⟩:=by unfold Addr.add;split<;>simp_all
 rw[this,World.cell?_alloc_new]
 simpa using j
theorem AjA {P:Program} {w:World} {ops:Array Oper} {o:Oper} {a:Act} {K:Act->World->Prop} {Q:Exit->Act->World->Prop} {E:Prop} (hgd:o.guard=none) (l c:Operand) (t:TypeId) (hop:o.op=Op.makeSlice t l c)
  (e:TypeId) {z:Value} {size bytes:Nat} (ht:P.underlying t=some (.slice e)) (hi:(P.info? e).map (λi=>(i.zero,i.size,i.bytes))=some (some z,size,bytes))
  (kl kc:IntKind) (n:Nat) (hl:a.eval l= .int kl n) (hc:a.eval c= .int kc n) (b2:bytes*n<=281474976710656) (b3:n<=maxLen)
  (h:∀ m,m.ownsRow w.heap.size e size (.slice (some ⟨w.heap.size,0,none⟩) n n) n (madeCells z.cells (n*size)).toList->Below w.heap.size w m->K (a.put o.dst (.slice (some ⟨w.heap.size,0,none⟩) n n)) m):
  if Region.wanted o (yielded ops a.tmps)=true then Oper.wp P o a w K Q else E:=by
 obtain⟨i,p,y,q,r⟩:=info_parts hi
 have x:Region.wanted o (yielded ops a.tmps)=true:=by simp[Region.wanted,hgd]
 rw[if_pos x];obtain⟨m,j,B,D⟩:=run_make_full (P:=P) w w.heap.size t e i z size ht p y q kl kc n (by rw[r];exact b2) b3 (Nl _);unfold Oper.wp;simp[execOp,hop,hl,hc,j,Result.andThen];exact h m B ((Below.refl w.heap.size w).grown D (Nl _) (by simp))
theorem keepCell {w w':World} {p:Addr} {u:Value} (hb:Below w.heap.size w w') (h:w.cell? p=some u):w'.cell? p=some u:=(hb.cell (World.block_lt_of_cell? _ _ h)).trans h
section
variable {P:Program} {ops:Array Oper} {Q:Exit->Act->World->Prop}
def Hw (ops:Array Oper) (i j:Nat):Bool:=((ops[i]?).map λo=>o.after.toList.any λe=>Region.binds .any e&&e.on==j).getD false
theorem Aam {id:Nat} {a:Act} {w:World} (I:(Nat->Prop)->Act->World->Prop) (hm:P.follows .mixedOrders=true)
  (hwf:(ops.toList.zipIdx.all λp=>p.1.after.all λe=>decide (e.on<p.2))=true)
  (h0:I (λj=>ops.size<=j) a w.drew)
  (hstep:∀ D a w i,i<ops.size->(∀j,Hw ops i j=true->D j)->I D a w->wpOp P ops Q i (λq h=>I (λj=>j=i∨D j) q h) a w)
  (hdone:∀ D a w,(∀j,D j)->I D a w->Q .normal a w):(Code.region id ops true).wp P Q a w:=by
 refine AbR I hm hwf h0 (λD a w i o m y x=>hstep D a w i (Array.getElem?_eq_some_iff.1 m).1 (λj l=>?_) x) hdone;unfold Hw at l;rw[m]at l;simp only[Option.map_some,Option.getD_some]at l;rw[List.any_eq_true]at l;obtain⟨e,z,h2⟩:=l;rw[Bool.and_eq_true,beq_iff_eq]at h2;obtain⟨r,rfl⟩:=h2;exact y e (Array.mem_toList_iff.1 z) r
def Su (base:Nat) (e:TypeId) (x:Value) (w:World):Prop:=∃ g,x= .slice (some ⟨g,0,none⟩) 0 0/\base<=g/\Blk w g e #[]
theorem Su.step {base:Nat} {e:TypeId} {x:Value} {w w':World} (h:Su base e x w) (hb:Below w.heap.size w w'):Su base e x w':=by
 obtain⟨g,l,h2,j⟩:=h
 exact⟨g,l,h2,j.below hb j.lt⟩
theorem Su.own {base:Nat} {e:TypeId} {size:Nat} {x:Value} {w:World} (h:Su base e x w):w.ownsRow base e size x 0 []:=by
 obtain⟨g,rfl,h2,j⟩:=h
 exact⟨by simp,.inr ⟨g,0,#[],rfl,h2,j,Nl _,Nat.zero_le _,by simp,by simp⟩⟩
theorem Su.new (w:World) (base:Nat) (e:TypeId) (h:base<=w.heap.size):Su base e (.slice (some ⟨w.heap.size,0,none⟩) 0 0) (w.alloc (.cells #[] e)):=⟨_,rfl,h,Blk.new _ _ _⟩
theorem Eg {w:World} {b1 b2 e1 e2 s1 s2 n1 n2:Nat} {v1 v2:Value} {xs1 xs2:List Value} (h1:w.ownsRow b1 e1 s1 v1 n1 xs1) (h2:w.ownsRow b2 e2 s2 v2 n2 xs2) (hne:e1≠e2):v1.ownBlock=none∨v1.ownBlock≠v2.ownBlock:=by
 rcases h1.2 with⟨rfl,_⟩|⟨q,y,m,rfl,_,l,_⟩
 ·exact .inl rfl
 right
 rcases h2.2 with⟨rfl,_⟩|⟨r,z,p,rfl,_,j,_⟩
 ·simp[Value.ownBlock]
 intro x
 have:q=r:=by simpa[Value.ownBlock] using x
 subst this;rw[l]at j;injection j with j;injection j with _ ht;exact hne ht
end
section
variable {P:Program} {ops:Array Oper} {Q:Exit->Act->World->Prop}
theorem Nm {listed:Array Bool} (hwf:∀ (j:Nat) o,ops[j]?=some o->∀e∈o.after,Region.binds .any e=true->e.on<j) (hs:listed.size=ops.size) (hr:Region.ready .any ops listed= []):∀ j,listed.getD j true=true:=by
 intro j
 induction j using Nat.strongRecOn with
 |_ j ih=>
  cases r:listed.getD j true with
  |true=>rfl
  |false=>
   have l:j<ops.size:=by
    obtain⟨hi,_⟩:=Tw r;rw[<-hs];simpa using hi
   have m:ops[j]?=some ops[j]:=Array.getElem?_eq_getElem l
   have:j∈Region.ready .any ops listed:=mem_ready.2 ⟨r,_,m,λe q p=>by
    have x:=ih e.on (hwf j _ m e q p)
    have h2:e.on<listed.size:=by have:=hwf j _ m e q p;omega
    simpa[Array.getD,h2] using x⟩
   rw[hr]at this;cases this
theorem AbK (I:(Nat->Prop)->Act->World->Prop) (hwf:∀ (j:Nat) o,ops[j]?=some o->∀e∈o.after,Region.binds .any e=true->e.on<j)
  (hstep:∀ D a w i o,ops[i]?=some o->¬D i->(∀e∈o.after,Region.binds .any e=true->D e.on)->I D a w->wpOp P ops Q i (λp r=>I (λj=>j=i∨D j) p r) a w)
  (hdone:∀ D a w,(∀j,D j)->I D a w->Q .normal a w):
  ∀(fuel:Nat) (listed:Array Bool) (a:Act) (w:World),listed.size=ops.size->Sx listed<=fuel->I (λj=>listed.getD j true=true) a w->wpAny P .any ops Q fuel listed a w
 |0,listed,a,w,hs,hf,hI=>by
  have m:Region.ready .any ops listed= []:=by
   cases h:Region.ready .any ops listed with
   |nil=>rfl
   |cons i rs=>
    have hi:i∈Region.ready .any ops listed:=by rw[h];simp
    have:=Wt (mem_ready.1 hi).1
    omega
  exact⟨m,hdone _ a w (Nm hwf hs m) hI⟩
 |fuel+1,listed,a,w,hs,hf,hI=>by
  refine⟨λm=>hdone _ a w (Nm hwf hs m) hI,λi hi=>?_⟩;obtain⟨y,o,F,B⟩:=mem_ready.1 hi;refine wpOp_mono (λp r q=>?_) (hstep _ a w i o F (by rw[y];simp) (λe E z=>?_) hI)
  ·refine AbK I hwf hstep hdone fuel _ p r (by simpa using hs) (by have:=Sb y;omega) ?_;have l:(λj=>(listed.setIfInBounds i true).getD j true=true)=λj=>j=i∨listed.getD j true=true:=funext λj=>propext (AaS j);rw[l];exact q
  have x:=B e E z
  have h2:e.on<listed.size:=by
   rcases Nat.lt_or_ge e.on listed.size with h|h
   ·exact h
   simp[Array.getD,Nat.not_lt.2 h]at x
  simpa[Array.getD,h2] using x
theorem Mc {id:Nat} {a:Act} {w:World} (I:(Nat->Prop)->Act->World->Prop) (hm:P.follows .mixedOrders=true)
  (hwf:(ops.toList.zipIdx.all λp=>p.1.after.all λe=> !Region.binds .any e||decide (e.on<p.2))=true)
  (h0:I (λj=>ops.size<=j) a w.drew)
  (hstep:∀ D a w i,i<ops.size->¬D i->(∀j,Hw ops i j=true->D j)->I D a w->wpOp P ops Q i (λx N=>I (λj=>j=i∨D j) x N) a w)
  (hdone:∀ D a w,(∀j,D j)->I D a w->Q .normal a w):(Code.region id ops true).wp P Q a w:=by
 refine wp_region_any hm (AbK I (λj o q e r B=>?_) (λD a w i o q J E h=>hstep D a w i (Array.getElem?_eq_some_iff.1 q).1 J (λj l=>?_) h) hdone ops.size _ a _ (by simp) (by unfold Sx;simp[List.countP_replicate]) ?_)
 ·have F:j<ops.size:=(Array.getElem?_eq_some_iff.1 q).1
  have M:(o,j)∈ops.toList.zipIdx:=by
   rw[List.mem_iff_getElem?]
   exact⟨j,by rw[List.getElem?_zipIdx,Array.getElem?_toList,q];simp⟩
  have y:=List.all_eq_true.1 hwf _ M;have h2:=Array.all_eq_true_iff_forall_mem.1 y e r
  simpa[B] using h2
 ·unfold Hw at l;rw[q]at l;simp only[Option.map_some,Option.getD_some]at l;rw[List.any_eq_true]at l;obtain⟨e,r,h2⟩:=l;rw[Bool.and_eq_true,beq_iff_eq]at h2;obtain⟨z,rfl⟩:=h2;exact E e (Array.mem_toList_iff.1 r) z
 have m:(λj=>(Array.replicate ops.size false).getD j true=true)=λj=>ops.size<=j:=funext λj=>propext (by
  by_cases l:j<ops.size
  ·simp[Array.getD,l]
  simp[Array.getD,l];omega)
 rw[m];exact h0
end
theorem kp {i j:Nat} {D:Nat->Prop} {F:Prop} (f:D j->F) (hne:j≠i:=by decide):j=i∨D j->F:=λh=>h.elim (λe=>absurd e hne) f
theorem nt0 {n j:Nat} {F:Prop} (hne:¬ n<=j:=by decide):n<=j->F:=λh=>absurd h hne
section
variable {P:Program} {ops:Array Oper} {Q:Exit->Act->World->Prop}
def AbV (g:Nat->Value) (dst:Option Tmp) (v:Value):Nat->Value:=
 match dst with
 |some d=>λi=>if i=d then v else g i
 |none=>g
structure Ko (n:Nat) (az:Act) (g:Nat->Value):Prop where
 size:az.tmps.size=n
 get:∀ i,az.tmps.getD i undef=g i
def Amq (P:Program) (ops:Array Oper) (Q:Exit->Act->World->Prop) (n i:Nat) (g:Nat->Value) (wz:World) (K:(Nat->Value)->World->Prop):Prop:=
 ∀o,ops[i]?=some o->∀(az:Act),Ko n az g->∀K':Act->World->Prop,(∀v w',K (AbV g o.dst v) w'->K' (az.put o.dst v) w')->
  if Region.wanted o (yielded ops az.tmps)=true then Oper.wp P o az wz K' Q else K' (az.put o.dst undef) wz
theorem Ko.eval {n i:Nat} {az:Act} {g:Nat->Value} (h:Ko n az g) {v:Value} (hv:g i=v):az.eval (.tmp i)=v:=(h.get i).trans hv
theorem Di {n i:Nat} {o:Oper} {g:Nat->Value} {wz:World} {K:(Nat->Value)->World->Prop} (ho:ops[i]?=some o) (hgd:o.guard=none)
  (h:∀ (l:Act),Ko n l g->∀m:Act->World->Prop,(∀v w',K (AbV g o.dst v) w'->m (l.put o.dst v) w')->Oper.wp P o l wz m Q):Amq P ops Q n i g wz K:=by
 intro o' j l q m p;rw[ho]at j;injection j with j;subst j;rw[if_pos (by simp[Region.wanted,hgd])];exact h l q m p
theorem Ot {t:Array Value} {d i:Nat} {v:Value} (h:d<t.size):(t.setIfInBounds d v).getD i undef=if i=d then v else t.getD i undef:=by
 by_cases hi:i=d
 ·subst hi;simp[Array.getD,h]
 rw[if_neg hi]
 by_cases j:i<t.size
 ·simp[Array.getD,j,Array.getElem_setIfInBounds,Ne.symm hi]
 simp[Array.getD,j]
theorem AcZ {n:Nat} {az:Act} {g:Nat->Value} (hs:Ko n az g) {dst:Option Tmp} (hd:∀ d,dst=some d->d<n) (v:Value):Ko n (az.put dst v) (AbV g dst v):=by
 cases dst with
 |none=>exact hs
 |some d=>
  refine⟨by simp[Act.put,hs.size],λi=>?_⟩
  show(az.tmps.setIfInBounds d v).getD i undef=if i=d then v else g i
  rw[Ot (by rw[hs.size];exact hd d rfl),hs.get]
def Adt (ops:Array Oper) (S:List Nat) (n:Nat):Bool:=S.all (λs=>decide (s<n))&&ops.toList.all λo=>match o.dst with|none=>true|some d=>S.contains d
def Fw (t:Array Value) (S:List Nat) (g:Nat->Value):Array Value:=S.foldl (λt s=>t.setIfInBounds s (g s)) t
theorem Yr (S:List Nat) (g:Nat->Value):∀ t:Array Value,(Fw t S g).size=t.size:=by
 induction S with
 |nil=>intro t;rfl
 |cons s S j=>intro t;unfold Fw at j ⊢;rw[List.foldl_cons,j];simp
theorem AaN (S:List Nat) (g:Nat->Value):∀ (t:Array Value) (i:Nat),(∀s∈S,s<t.size)->(Fw t S g).getD i undef=if i∈S then g i else t.getD i undef:=by
 induction S with
 |nil=>intro t i _;simp[Fw]
 |cons s S p=>
  intro t i h;have l:Fw t (s::S) g=Fw (t.setIfInBounds s (g s)) S g:=rfl;rw[l,p _ i (λx m=>by simpa using h x (List.mem_cons_of_mem _ m)),Ot (h s List.mem_cons_self)]
  by_cases hi:i∈S
  ·simp[hi]
  by_cases j:i=s
  ·subst j;simp[hi]
  simp[hi,j]
theorem Lz {a b:Array Value} (hs:a.size=b.size) (h:∀ i,a.getD i undef=b.getD i undef):a=b:=by
 apply Array.ext hs
 intro i j h2
 have:=h i
 simpa[Array.getD,j,h2] using this
theorem Za {id:Nat} {a:Act} {w:World} (S:List Nat) (J:(Nat->Prop)->(Nat->Value)->World->Prop) (Y:P.follows .mixedOrders=true)
  (hwf:(ops.toList.zipIdx.all λp=>p.1.after.all λe=> !Region.binds .any e||decide (e.on<p.2))=true)
  (n:Nat) (hn:a.tmps.size=n) (hS:Adt ops S n=true)
  (h0:J (λj=>ops.size<=j) (λi=>a.tmps.getD i undef) w.drew)
  (hstep:∀ D g r i,i<ops.size->¬D i->(∀j,Hw ops i j=true->D j)->J D g r->Amq P ops Q n i g r (λg' M=>J (λj=>j=i∨D j) g' M))
  (hdone:∀ D g M,(∀j,D j)->J D g M->Q .normal ⟨Fw a.tmps S g,a.defers⟩ M):(Code.region id ops true).wp P Q a w:=by
 unfold Adt at hS;rw[Bool.and_eq_true,List.all_eq_true,List.all_eq_true]at hS;obtain⟨U,X⟩:=hS
 have E:∀ s∈S,s<n:=λs z=>by simpa using U s z
 have m:∀ (i:Nat) (o:Oper),ops[i]?=some o->∀d,o.dst=some d->d∈S:=λi o B d F=>by
  have N:=X o (Array.mem_toList_iff.2 (Array.mem_of_getElem? B));rw[F]at N
  simpa using N
 refine Mc (λD x r=>∃ g,Ko n x g/\x.defers=a.defers/\(∀i,i∉S->g i=a.tmps.getD i undef)/\J D g r) Y hwf ⟨_,⟨hn,λ_=>rfl⟩,rfl,λ_ _=>rfl,h0⟩ ?_ ?_
 ·rintro D x r i hi Z F ⟨g,z,y,l,O⟩;have B:ops[i]?=some ops[i]:=Array.getElem?_eq_getElem hi;refine wpOp_step B (λK' hK=>hstep D g r i hi Z F O _ B x z K' (λv M R=>hK _ _ ⟨AbV g ops[i].dst v,AcZ z (λd F=>E d (m i _ B d F)) v,?_,?_,R⟩))
  ·cases I:ops[i].dst<;>exact y
  intro q A
  cases I:ops[i].dst with
  |none=>exact l q A
  |some d=>
   have Y:d∈S:=m i _ B d I
   show(if q=d then v else g q)=_
   rw[if_neg (λe:q=d=>A (by rw[e];exact Y))];exact l q A
 rintro D x r hD ⟨g,z,y,l,O⟩
 have he:x=⟨Fw a.tmps S g,a.defers⟩:=by
  obtain⟨t,df⟩:=x
  have N:t=Fw a.tmps S g:=Lz (by rw[Yr,hn];exact z.size) (λi=>by
   rw[AaN S g _ i (λs h=>by rw[hn];exact E s h)];have h2:=z.get i
   by_cases hi:i∈S
   ·rw[if_pos hi];exact h2
   rw[if_neg hi,<-l i hi];exact h2)
  have h2:df=a.defers:=y;rw[N,h2]
 rw[he];exact hdone D g r hD O
end
section
variable {P:Program} {w:World} {base e bytes m c size g:Nat} {z:Value} {A:Option Addr} {news:List Value}
end
end Go.Lt
end
