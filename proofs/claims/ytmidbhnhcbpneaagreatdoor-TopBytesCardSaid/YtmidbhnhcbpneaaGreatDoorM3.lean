/- A part of the proof. -/
import Derived.Test.YtmidbhnhcbpneaaGreatDoorM2
import Derived.OrdersHeld
import Derived.Deep.RegionHeld
import Derived.KernelRfl
import Derived.Lib.ItoaNum
import Derived.Lib.Atoi
set_option linter.unusedVariables false
set_option linter.unusedSimpArgs false
set_option maxRecDepth 8000
set_option maxHeartbeats 8000000
section
namespace Go.Lt
open Go.RowKit
def Bl:List Value->Nat->Value
 | [],_=>undef
 |v::_,0=>v
 |_::vs,n+1=>Bl vs n
def Cf:Array Value->List (Option Tmp)->List Value->Array Value
 |t,some d::ds,v::vs=>Cf (t.setIfInBounds d v) ds vs
 |t,none::ds,_::vs=>Cf t ds vs
 |t,_,_=>t
def Cj (ops:Array Oper) (j:Nat):Option Tmp:=(ops[j]?).bind (·.dst)
def Ju:List (Option Tmp)->Nat->Bool
 | [],_=>true
 |none::ds,n=>Ju ds n
 |some d::ds,n=>decide (d<n)&& !ds.contains (some d)&&Ju ds n
def Als (ops:Array Oper) (ds:List (Option Tmp)) (n:Nat):Bool:=(ops.toList.map (·.dst)==ds)&&Ju ds n
def Akn (ops:Array Oper) (s:Nat):Bool:=ops.toList.all λo=>o.dst != some s
section
variable {P:Program} {ops:Array Oper} {Q:Exit->Act->World->Prop}
structure Ng (ops:Array Oper) (n:Nat) (a:Act) (vs:List Value) (i:Nat) (D:Nat->Prop) (az:Act):Prop where
 new:¬ D i
 dep:∀ j,Hw ops i j=true->D j
 size:az.tmps.size=n
 get:∀ j d,D j->Cj ops j=some d->az.tmps.getD d undef=Bl vs j
 o:∀ s,Akn ops s=true->az.tmps.getD s undef=Bl a.tmps.toList s
 df:az.defers=a.defers
 low:∀ j k,D j->Hw ops j k=true->D k
theorem Ng.at_ {n i:Nat} {a az:Act} {vs:List Value} {D:Nat->Prop} (h:Ng ops n a vs i D az) (j d:Nat) (h1:Hw ops i j=true) (h2:Cj ops j=some d):az.tmps.getD d undef=Bl vs j:=h.get j d (h.dep j h1) h2
def Aal (P:Program) (ops:Array Oper) (Q:Exit->Act->World->Prop) (n:Nat) (a:Act) (vs:List Value) (I:(Nat->Prop)->World->Prop) (i:Nat):Prop:=
 ∀o,ops[i]?=some o->∀D wz az,Ng ops n a vs i D az->I D wz->∀K:Act->World->Prop,(∀w',I (λj=>j=i∨D j) w'->K (az.put o.dst (Bl vs i)) w')->
  if Region.wanted o (yielded ops az.tmps)=true then Oper.wp P o az wz K Q else K (az.put o.dst undef) wz
def Abn (p:Nat->Prop):Nat->Prop
 |0=>True
 |n+1=>Abn p n/\p n
theorem Abn.get {p:Nat->Prop}:∀ {n:Nat},Abn p n->∀i,i<n->p i
 |0,_,i,h=>absurd h (Nat.not_lt_zero i)
 |n+1,h,i,hi=>by
  rcases Nat.lt_or_ge i n with j|j
  ·exact Abn.get h.1 i j
  rw[show i=n by omega];exact h.2
section
variable {n i j:Nat} {a:Act} {vs:List Value} {I:(Nat->Prop)->World->Prop} {o:Oper} {b:Bool}
theorem AcP (ho:ops[i]?=some o) (hgd:o.guard=none)
  (h:∀ D p m,Ng ops n a vs i D m->I D p->∀K:Act->World->Prop,(∀w',I (λj=>j=i∨D j) w'->K (m.put o.dst (Bl vs i)) w')->Oper.wp P o m p K Q):Aal P ops Q n a vs I i:=by
 intro o' l D p m x q K r;rw[ho]at l;injection l with l;subst l;rw[if_pos (by simp[Region.wanted,hgd])];exact h D p m x q K r
end
theorem Rq:∀ (ds:List (Option Tmp)) (vs:List Value) (t:Array Value),(Cf t ds vs).size=t.size
 | [],_,_=>by simp[Cf]
 |none::ds,[],_=>by simp[Cf]
 |some d::ds,[],_=>by simp[Cf]
 |none::ds,v::vs,t=>by simp only[Cf];exact Rq ds vs t
 |some d::ds,v::vs,t=>by simp only[Cf];rw[Rq ds vs];simp
theorem Pu {s:Nat}:∀ (ds:List (Option Tmp)) (vs:List Value) (t:Array Value),some s∉ds->(Cf t ds vs).getD s undef=t.getD s undef
 | [],_,_,_=>by simp[Cf]
 |none::ds,[],_,_=>by simp[Cf]
 |some d::ds,[],_,_=>by simp[Cf]
 |none::ds,v::vs,t,h=>by simp only[Cf];exact Pu ds vs t (λe=>h (List.mem_cons_of_mem _ e))
 |some d::ds,v::vs,t,h=>by
  simp only[Cf];rw[Pu ds vs _ (λe=>h (List.mem_cons_of_mem _ e))];have j:¬ s=d:=λe=>h (by rw[e];exact List.mem_cons_self)
  by_cases l:s<t.size
  ·simp[Array.getD,l,Array.getElem_setIfInBounds,Ne.symm j]
  simp[Array.getD,l]
theorem Wi {n:Nat}:∀ (ds:List (Option Tmp)) (vs:List Value) (t:Array Value) (j s:Nat),Ju ds n=true->t.size=n->ds.length=vs.length->ds[j]?=some (some s)->(Cf t ds vs).getD s undef=Bl vs j
 | [],vs,t,j,s,_,_,_,h=>by simp at h
 |none::ds,[],t,j,s,_,_,hl,h=>by simp at hl
 |some d::ds,[],t,j,s,_,_,hl,h=>by simp at hl
 |none::ds,v::vs,t,0,s,_,_,_,h=>by simp at h
 |none::ds,v::vs,t,j+1,s,hf,ht,hl,h=>by
  simp only[Cf,Bl];exact Wi ds vs t j s (by simpa[Ju] using hf) ht (by simpa using hl) (by simpa using h)
 |some d::ds,v::vs,t,0,s,hf,ht,hl,h=>by
  have l:d=s:=by simpa using h
  subst l;simp only[Ju,Bool.and_eq_true,decide_eq_true_eq,Bool.not_eq_true']at hf;simp only[Cf,Bl];rw[Pu ds vs _ (λe=>by have:=hf.1.2;rw[List.contains_iff_mem.2 e]at this;cases this)];simp[Array.getD,ht,hf.1.1]
 |some d::ds,v::vs,t,j+1,s,hf,ht,hl,h=>by
  simp only[Ju,Bool.and_eq_true,decide_eq_true_eq,Bool.not_eq_true']at hf;simp only[Cf,Bl];exact Wi ds vs _ j s hf.2 (by simp[ht]) (by simpa using hl) (by simpa using h)
theorem Abf {rid:Nat} {a:Act} {w:World} (vs:List Value) (ds:List (Option Tmp)) (I:(Nat->Prop)->World->Prop) (N n:Nat) (hm:P.follows .mixedOrders=true)
  (hwf:(ops.toList.zipIdx.all λp=>p.1.after.all λe=> !Region.binds .any e||decide (e.on<p.2))=true)
  (hn:a.tmps.size=n) (hN:ops.size=N) (hvs:vs.length=N) (hds:Als ops ds n=true)
  (h0:I (λj=>N<=j) w.drew)
  (hstep:Abn (Aal P ops Q n a vs I) N)
  (hdone:∀ w',(∀D,(∀j,D j)->I D w'->Q .normal ⟨Cf a.tmps ds vs,a.defers⟩ w')):(Code.region rid ops true).wp P Q a w:=by
 subst hN;unfold Als at hds;rw[Bool.and_eq_true,beq_iff_eq]at hds;obtain⟨aA,S⟩:=hds
 have aF:ds.length=vs.length:=by rw[<-aA,hvs];simp
 have q:∀ j,Cj ops j=((ds[j]?).bind id):=λj=>by
  rw[<-aA,List.getElem?_map,Array.getElem?_toList];unfold Cj
  cases ops[j]?<;>rfl
 have aC:∀ j d,Cj ops j=some d->d<n:=λj d h=>by
  have X:∀ (l:List (Option Tmp)),Ju l n=true->∀(j:Nat) (d:Tmp),((l[j]?).bind id)=some d->d<n:=by
   intro l
   induction l with
   |nil=>intro _ j d h;simp at h
   |cons x l ih=>
    intro M j d h
    cases x with
    |none=>
     cases j with
     |zero=>simp at h
     |succ j=>exact ih (by simpa[Ju] using M) j d (by simpa using h)
    |some y=>
     simp only[Ju,Bool.and_eq_true,decide_eq_true_eq]at M
     cases j with
     |zero=>
      have:y=d:=by simpa using h
      rw[<-this];exact M.1.1
     |succ j=>exact ih M.2 j d (by simpa using h)
  exact X ds S j d (by rw[<-q j];exact h)
 have aD:∀ j k d,Cj ops j=some d->Cj ops k=some d->j=k:=by
  have X:∀ (l:List (Option Tmp)),Ju l n=true->∀(j k:Nat) (d:Tmp),((l[j]?).bind id)=some d->((l[k]?).bind id)=some d->j=k:=by
   intro l
   induction l with
   |nil=>intro _ j k d h;simp at h
   |cons x l ih=>
    intro M j k d O h2
    have aB:∀ k:Nat,((l[k]?).bind id)=some d->some d∈l:=λk h=>by
     cases hk:l[k]? with
     |none=>rw[hk]at h;simp at h
     |some y=>rw[hk]at h;have:y=some d:=h;rw[<-this];exact List.mem_of_getElem? hk
    cases x with
    |none=>
     cases j with
     |zero=>simp at O
     |succ j=>
      cases k with
      |zero=>simp at h2
      |succ k=>rw[ih (by simpa[Ju] using M) j k d (by simpa using O) (by simpa using h2)]
    |some y=>
     simp only[Ju,Bool.and_eq_true,decide_eq_true_eq,Bool.not_eq_true']at M
     cases j with
     |zero=>
      have hy:y=d:=by simpa using O
      cases k with
      |zero=>rfl
      |succ k=>
       have:=aB k (by simpa using h2)
       rw[<-hy]at this;rw[List.contains_iff_mem.2 this]at M;cases M.1.2
     |succ j=>
      cases k with
      |zero=>
       have hy:y=d:=by simpa using h2
       have:=aB j (by simpa using O)
       rw[<-hy]at this;rw[List.contains_iff_mem.2 this]at M;cases M.1.2
      |succ k=>rw[ih M.2 j k d (by simpa using O) (by simpa using h2)]
  intro j k d O h2;exact X ds S j k d (by rw[<-q j];exact O) (by rw[<-q k];exact h2)
 refine Mc (λD J wz=>J.tmps.size=n/\J.defers=a.defers/\(∀j d,D j->Cj ops j=some d->J.tmps.getD d undef=Bl vs j)/\(∀s,(∀j,Cj ops j≠some s)->J.tmps.getD s undef=a.tmps.getD s undef)/\(∀j k,D j->Hw ops j k=true->D k)/\I D wz) hm hwf ⟨hn,rfl,λj d m A=>?_,λ_ _=>rfl,λj k m A=>?_,h0⟩ ?_ ?_
 ·have:Cj ops j=none:=by unfold Cj;rw[Array.getElem?_eq_none m];rfl
  rw[this]at A;cases A
 ·have:Hw ops j k=false:=by unfold Hw;rw[Array.getElem?_eq_none m];rfl
  rw[this]at A;cases A
 ·rintro D J wz i hi aH A ⟨B,Z,r,z,U,hI⟩;have ho:ops[i]?=some ops[i]:=Array.getElem?_eq_getElem hi
  have E:Cj ops i=ops[i].dst:=by unfold Cj;rw[ho];rfl
  refine wpOp_step ho (λK' hK=>hstep.get i hi _ ho D wz J ⟨aH,A,B,r,λs Y=>?_,Z,U⟩ hI K' (λw' aI=>hK _ _ ⟨?_,?_,?_,?_,?_,aI⟩))
  ·have O:∀ j,Cj ops j≠some s:=λj e=>by
    unfold Cj at e
    cases m:ops[j]? with
    |none=>rw[m]at e;cases e
    |some o=>
     rw[m]at e;unfold Akn at Y
     have:=List.all_eq_true.1 Y o (Array.mem_toList_iff.2 (Array.mem_of_getElem? m))
     have e':o.dst=some s:=e;rw[e']at this;simp at this
   rw[z s O]
   have X:∀ (l:List Value) (s:Nat),(l.toArray).getD s undef=Bl l s:=by
    intro l
    induction l with
    |nil=>intro s;simp[Array.getD,Bl]
    |cons x l ih=>
     intro s
     cases s with
     |zero=>simp[Array.getD,Bl]
     |succ s=>rw[Bl,<-ih s];simp[Array.getD]
   have h2:=X a.tmps.toList s
   simpa using h2
  ·unfold Act.put;cases ops[i].dst<;>simp[B]
  ·cases ops[i].dst<;>exact Z
  ·intro j d m F
   rcases m with rfl|m
   ·rw[E]at F;rw[F]
    show(J.tmps.setIfInBounds d _).getD d undef=_
    rw[Ot (by rw[B];exact aC j d (by rw[E,F])),if_pos rfl]
   have aJ:j≠i:=λe=>aH (e▸m)
   cases R:ops[i].dst with
   |none=>exact r j d m F
   |some d'=>
    show(J.tmps.setIfInBounds d' _).getD d undef=_
    rw[Ot (by rw[B];exact aC i d' (by rw[E,R])),if_neg (λe:d=d'=>aJ (aD j i d F (by rw[E,R,e])))];exact r j d m F
  ·intro s Y
   cases R:ops[i].dst with
   |none=>exact z s Y
   |some d'=>
    show(J.tmps.setIfInBounds d' _).getD s undef=_
    rw[Ot (by rw[B];exact aC i d' (by rw[E,R])),if_neg (λe:s=d'=>Y i (by rw[E,R,e]))];exact z s Y
  intro j k m aE
  rcases m with rfl|m
  ·exact .inr (A k aE)
  exact .inr (U j k m aE)
 rintro D J wz hD ⟨B,Z,r,z,U,hI⟩
 have he:J=⟨Cf a.tmps ds vs,a.defers⟩:=by
  obtain⟨t,df⟩:=J
  have O:t=Cf a.tmps ds vs:=Lz (by rw[Rq,hn];exact B) (λs=>by
   by_cases Y:∃ j,Cj ops j=some s
   ·obtain⟨j,m⟩:=Y;have h2:=r j s (hD j) m
    have h3:ds[j]?=some (some s):=by
     have:=q j
     rw[m]at this
     cases hk:ds[j]? with
     |none=>rw[hk]at this;simp at this
     |some y=>rw[hk]at this;have e:y=some s:=this.symm;rw[e]
    rw[Wi ds vs a.tmps j s S hn aF h3];exact h2
   have h2:=z s (λj e=>Y ⟨j,e⟩)
   rw[Pu ds vs a.tmps (λe=>by
    obtain⟨j,m⟩:=List.getElem?_of_mem e
    exact Y ⟨j,by rw[q j,m];rfl⟩)]
   exact h2)
  have h2:df=a.defers:=Z;rw[O,h2]
 rw[he];exact hdone wz D hD hI
def Bc:List World->Nat->World
 | [],_=>default
 |w::_,0=>w
 |_::ws,n+1=>Bc ws n
theorem nW1 {a b:World} {l:List World}:b=Bc (a::b::l) 1:=rfl
theorem nW2 {a b c:World} {l:List World}:c=Bc (a::b::c::l) 2:=rfl
theorem nW3 {a b c d:World} {l:List World}:d=Bc (a::b::c::d::l) 3:=rfl
theorem Cu {rid:Nat} {a:Act} {w:World} (vs:List Value) (ws:List World) (ds:List (Option Tmp)) (I:List World->(Nat->Prop)->World->Prop) (N n:Nat) (hm:P.follows .mixedOrders=true)
  (hwf:(ops.toList.zipIdx.all λp=>p.1.after.all λe=> !Region.binds .any e||decide (e.on<p.2))=true)
  (hn:a.tmps.size=n) (hN:ops.size=N) (hvs:vs.length=N) (hds:Als ops ds n=true)
  (h0:I ws (λj=>N<=j) w.drew)
  (hstep:Abn (Aal P ops Q n a vs (I ws)) N)
  (hdone:∀ w',(∀D,(∀j,D j)->I ws D w'->Q .normal ⟨Cf a.tmps ds vs,a.defers⟩ w')):(Code.region rid ops true).wp P Q a w:=
 Abf vs ds (I ws) N n hm hwf hn hN hvs hds h0 hstep hdone
theorem Aj {g:Nat->Value} {d:Nat} {v:Value}:AbV g (some d) v d=v:=by simp[AbV]
structure Qz (ops:Array Oper) (n:Nat) (a:Act) (i:Nat) (D:Nat->Prop) (g:Nat->Value) (az:Act):Prop where
 new:¬ D i
 dep:∀ j,Hw ops i j=true->D j
 size:az.tmps.size=n
 get:∀ s,az.tmps.getD s undef=g s
 o:∀ s,Akn ops s=true->az.tmps.getD s undef=Bl a.tmps.toList s
 df:az.defers=a.defers
 low:∀ j k,D j->Hw ops j k=true->D k
def Ade (P:Program) (ops:Array Oper) (Q:Exit->Act->World->Prop) (n:Nat) (a:Act) (J:(Nat->Prop)->(Nat->Value)->World->Prop) (i:Nat):Prop:=
 ∀o,ops[i]?=some o->∀D g wz az,Qz ops n a i D g az->J D g wz->∀K:Act->World->Prop,(∀v w',J (λj=>j=i∨D j) (AbV g o.dst v) w'->K (az.put o.dst v) w')->
  if Region.wanted o (yielded ops az.tmps)=true then Oper.wp P o az wz K Q else K (az.put o.dst undef) wz
section
variable {n i j:Nat} {a:Act} {J:(Nat->Prop)->(Nat->Value)->World->Prop} {o:Oper} {b:Bool}
theorem AfT (ho:ops[i]?=some o) (hgd:o.guard=none)
  (h:∀ D g p m,Qz ops n a i D g m->J D g p->∀K:Act->World->Prop,(∀v w',J (λj=>j=i∨D j) (AbV g o.dst v) w'->K (m.put o.dst v) w')->Oper.wp P o m p K Q):Ade P ops Q n a J i:=by
 intro o' l D g p m x q K r;rw[ho]at l;injection l with l;subst l;rw[if_pos (by simp[Region.wanted,hgd])];exact h D g p m x q K r
end
theorem Ed {rid:Nat} {a:Act} {w:World} (vs:List Value) (S:List Nat) (J:List Value->(Nat->Prop)->(Nat->Value)->World->Prop) (N n:Nat) (hm:P.follows .mixedOrders=true)
  (hwf:(ops.toList.zipIdx.all λp=>p.1.after.all λe=> !Region.binds .any e||decide (e.on<p.2))=true)
  (hn:a.tmps.size=n) (hN:ops.size=N) (hS:Adt ops S n=true)
  (h0:J vs (λj=>N<=j) (λi=>a.tmps.getD i undef) w.drew)
  (hstep:Abn (Ade P ops Q n a (J vs)) N)
  (hdone:∀ g w',(∀D,(∀j,D j)->J vs D g w'->Q .normal ⟨Fw a.tmps S g,a.defers⟩ w')):(Code.region rid ops true).wp P Q a w:=by
 subst hN;have R:=hS;unfold Adt at R;rw[Bool.and_eq_true,List.all_eq_true,List.all_eq_true]at R;obtain⟨aC,aD⟩:=R
 have Z:∀ s∈S,s<n:=λs I=>by simpa using aC s I
 have M:∀ (i:Nat) (o:Oper),ops[i]?=some o->∀d,o.dst=some d->d∈S:=λi o U d z=>by
  have Y:=aD o (Array.mem_toList_iff.2 (Array.mem_of_getElem? U));rw[z]at Y
  simpa using Y
 have aF:∀ (l:List Value) (s:Nat),(l.toArray).getD s undef=Bl l s:=by
  intro l
  induction l with
  |nil=>intro s;simp[Array.getD,Bl]
  |cons x l ih=>
   intro s
   cases s with
   |zero=>simp[Array.getD,Bl]
   |succ s=>rw[Bl,<-ih s];simp[Array.getD]
 refine Mc (λD O wz=>∃ g,Ko n O g/\O.defers=a.defers/\(∀s,(∀j,Cj ops j≠some s)->g s=a.tmps.getD s undef)/\(∀i,i∉S->g i=a.tmps.getD i undef)/\(∀j k,D j->Hw ops j k=true->D k)/\J vs D g wz) hm hwf ⟨_,⟨hn,λ_=>rfl⟩,rfl,λ_ _=>rfl,λ_ _=>rfl,λj k F z=>?_,h0⟩ ?_ ?_
 ·have:Hw ops j k=false:=by unfold Hw;rw[Array.getElem?_eq_none F];rfl
  rw[this]at z;cases z
 ·rintro D O wz i hi aE z ⟨g,I,E,r,m,y,hJ⟩;have U:ops[i]?=some ops[i]:=Array.getElem?_eq_getElem hi;refine wpOp_step U (λK' hK=>hstep.get i hi _ U D g wz O ⟨aE,z,I.size,I.get,λs aA=>?_,E,y⟩ hJ K' (λv w' aB=>hK _ _ ⟨AbV g ops[i].dst v,AcZ I (λd z=>Z d (M i _ U d z)) v,?_,?_,?_,?_,aB⟩))
  ·have Y:∀ j,Cj ops j≠some s:=λj e=>by
    unfold Cj at e
    cases F:ops[j]? with
    |none=>rw[F]at e;cases e
    |some o=>
     rw[F]at e;unfold Akn at aA
     have:=List.all_eq_true.1 aA o (Array.mem_toList_iff.2 (Array.mem_of_getElem? F))
     have e':o.dst=some s:=e;rw[e']at this;simp at this
   rw[I.get s,r s Y];have h2:=aF a.tmps.toList s
   simpa using h2
  ·cases B:ops[i].dst<;>exact E
  ·intro q X
   cases B:ops[i].dst with
   |none=>exact r q X
   |some d=>
    show(if q=d then v else g q)=_
    rw[if_neg (λe:q=d=>X i (by unfold Cj;rw[U];rw[e];exact B))];exact r q X
  ·intro q X
   cases B:ops[i].dst with
   |none=>exact m q X
   |some d=>
    have hm:d∈S:=M i _ U d B
    show(if q=d then v else g q)=_
    rw[if_neg (λe:q=d=>X (by rw[e];exact hm))];exact m q X
  intro j k F A
  rcases F with rfl|F
  ·exact .inr (z k A)
  exact .inr (y j k F A)
 rintro D O wz hD ⟨g,I,E,r,m,y,hJ⟩
 have he:O=⟨Fw a.tmps S g,a.defers⟩:=by
  obtain⟨t,df⟩:=O
  have Y:t=Fw a.tmps S g:=Lz (by rw[Yr,hn];exact I.size) (λi=>by
   rw[AaN S g _ i (λs h=>by rw[hn];exact Z s h)];have h2:=I.get i
   by_cases hi:i∈S
   ·rw[if_pos hi];exact h2
   rw[if_neg hi,<-m i hi];exact h2)
  have h2:df=a.defers:=E;rw[Y,h2]
 rw[he];exact hdone g wz D hD hJ
end
end Go.Lt
end
section
namespace Go.Proofs.YtmidbhnhcbpneaaGreatDoor.Top
open Go Go.RowKit Go.Lt
theorem pt:(∀{α:Type} (xs:List α) (i:Nat) (h:i<xs.toArray.size),xs.toArray[i]=xs[i]'h)/\(∀{α:Type} (a:α) (l:List α) (i:Nat) (h:i+1<(a::l).length),(a::l)[i+1]=l[i]'(Nat.lt_of_succ_lt_succ h))/\
  (∀{α:Type} (a:α) (l:List α) (h:0<(a::l).length),(a::l)[0]=a)/\(∀{α:Type} (xs:List α) (i:Nat) (a:α),xs.toArray.setIfInBounds i a=(xs.set i a).toArray)/\(∀{α:Type} (a:α) (xs:List α) (b:α),(a::xs).set 0 b=b::xs)/\(∀{α:Type} (a:α) (xs:List α) (n:Nat) (b:α),(a::xs).set (n+1) b=a::xs.set n b):=
 ⟨λ_ _ _=>rfl,λ_ _ _ _=>rfl,λ_ _ _=>rfl,λ_ _ _=>by simp,λ_ _ _=>rfl,λ_ _ _ _=>rfl⟩
section
variable {P:Program} {md:Region.Mode} {ops:Array Oper} {Q:Exit->Act->World->Prop} {S:World->Prop}
theorem tk (i:Nat) {oi:Oper} {v:Value} {fuel:Nat} {listed l':Array Bool} {a a':Act} {w:World}
  (hi:ops[i]?=some oi:=by rfl) (hs:Region.noSelect ops=true:=by kernel_rfl) (hf:Region.free md ops listed i=true:=by kernel_rfl) (hr:(Region.ready md ops listed).contains i=true:=by kernel_rfl)
  (hw:Region.wanted oi (yielded ops a.tmps)=true:=by kernel_rfl) (hy:∀ w,S w->(execOp a.eval oi).run P w= .ok (.value v) w:=by intro l j;(try dsimp only at j);go_simp;(try with_reducible rfl))
  (hQ:∀ c b w,Q (.panic c) (b.put oi.dst v) w->Q (.panic c) b w:=by exact λ_ _ _ h=>h)
  (hS:S w:=by assumption) (hl:listed.setIfInBounds i true=l':=by(try simp only[pt]);rfl) (ha:a.put oi.dst v=a':=by(try simp only[Act.put,pt]);rfl) (h:wpAnyH P md ops Q S fuel l' a' w):wpAnyH P md ops Q S (fuel+1) listed a w:=
 wpAnyH_take hi hs hf hr hQ (.inl ⟨hw,hy⟩) hS (by rw[hl,ha];exact h)
theorem tn (i:Nat) {oi:Oper} {fuel:Nat} {listed l':Array Bool} {a a':Act} {w:World}
  (hi:ops[i]?=some oi:=by rfl) (hs:Region.noSelect ops=true:=by kernel_rfl) (hf:Region.free md ops listed i=true:=by kernel_rfl) (hr:(Region.ready md ops listed).contains i=true:=by kernel_rfl)
  (hw:Region.wanted oi (yielded ops a.tmps)=false:=by kernel_rfl) (hQ:∀ c b w,Q (.panic c) (b.put oi.dst undef) w->Q (.panic c) b w:=by exact λ_ _ _ h=>h)
  (hS:S w:=by assumption) (hl:listed.setIfInBounds i true=l':=by(try simp only[pt]);rfl) (ha:a.put oi.dst undef=a':=by(try simp only[Act.put,pt]);rfl) (h:wpAnyH P md ops Q S fuel l' a' w):wpAnyH P md ops Q S (fuel+1) listed a w:=
 wpAnyH_take hi hs hf hr hQ (.inr ⟨hw,rfl⟩) hS (by rw[hl,ha];exact h)
theorem rd1 (i:Nat) {o:Oper} {fuel:Nat} {listed:Array Bool} {a:Act} {w:World}
  (h:∀ K':Act->World->Prop,Shut (∀a w,S w->(S w->wpAnyH P md ops Q S fuel (listed.setIfInBounds i true) a w)->K' a w)->if Region.wanted o (yielded ops a.tmps)=true then Oper.wp P o a w K' Q else K' (a.put o.dst undef) w)
  (ho:ops[i]?=some o:=by rfl) (hr:Region.ready md ops listed= [i]:=by kernel_rfl):wpAnyH P md ops Q S (fuel+1) listed a w:=
 wpAnyH_ready hr (by simp) (AllReadyH.cons ho h AllReadyH.nil)
end
end Go.Proofs.YtmidbhnhcbpneaaGreatDoor.Top
end
section
namespace Go.Lt
open Go.RowKit
section
variable {P:Program} {ops:Array Oper} {Q:Exit->Act->World->Prop} {n i j k:Nat} {a az:Act} {vs:List Value} {D:Nat->Prop} {I:(Nat->Prop)->World->Prop} {o:Oper} {g:Nat->Value} {p:Prop}
theorem kB (q:¬ D j->p):¬ (j=i∨D j)->p:=λh=>q λe=>h (.inr e)
theorem kC (q:D j->¬D k->p) (hne:j≠i:=by decide):(j=i∨D j)->¬(k=i∨D k)->p:=λl h2=>q (l.elim (λe=>absurd e hne) id) λe=>h2 (.inr e)
theorem Ng.r (h:Ng ops n a vs i D az) (j d:Nat) {v:Value} (h1:Hw ops i j=true:=by decide+kernel) (h2:Cj ops j=some d:=by rfl) (hv:Bl vs j=v:=by(try simp only[Bl,List.toList_toArray]);rfl):az.tmps.getD d undef=v:=(h.at_ j d h1 h2).trans hv
theorem Ng.u (h:Ng ops n a vs i D az) (s:Nat) {v:Value} (h1:Akn ops s=true:=by kernel_rfl) (hv:Bl a.tmps.toList s=v:=by(try simp only[Bl,List.toList_toArray]);rfl):az.tmps.getD s undef=v:=(h.o s h1).trans hv
theorem Ng.l (h:Ng ops n a vs i D az) (j k:Nat) (hj:D j) (h1:Hw ops j k=true:=by kernel_rfl):D k:=h.low j k hj h1
theorem Ng.d (h:Ng ops n a vs i D az) (j:Nat) (h1:Hw ops i j=true:=by kernel_rfl):D j:=h.dep j h1
theorem Qz.t (h:Qz ops n a i D g az) (s:Nat) {u v:Value} (e:g s=u) (hv:u=v:=by(try simp only[Bl,List.toList_toArray]);rfl):az.tmps.getD s undef=v:=((h.get s).trans e).trans hv
theorem Qz.u (h:Qz ops n a i D g az) (s:Nat) {v:Value} (h1:Akn ops s=true:=by kernel_rfl) (hv:Bl a.tmps.toList s=v:=by(try simp only[Bl,List.toList_toArray]);rfl):az.tmps.getD s undef=v:=(h.o s h1).trans hv
theorem Qz.l (h:Qz ops n a i D g az) (j k:Nat) (hj:D j) (h1:Hw ops j k=true:=by kernel_rfl):D k:=h.low j k hj h1
theorem Qz.d (h:Qz ops n a i D g az) (j:Nat) (h1:Hw ops i j=true:=by kernel_rfl):D j:=h.dep j h1
theorem Bh (hm:∀ D w,I D w->I (λj=>j=i∨D j) w)
  (h:∀ D l az,Ng ops n a vs i D az->∀K:Act->World->Prop,Shut (K (az.put o.dst (Bl vs i)) l)->Oper.wp P o az l K Q) (ho:ops[i]?=some o:=by rfl) (hgd:o.guard=none:=by rfl):Aal P ops Q n a vs I i:=
 AcP ho hgd λD l az q m K p=>h D l az q K (p l (hm D l m))
end
section
variable {a b c d e f g:Prop}
theorem hd1 (h:a/\g):Hid a/\g:=h
theorem hd2 (h:a/\b/\g):Hid a/\Hid b/\g:=h
theorem hd3 (h:a/\b/\c/\g):Hid a/\Hid b/\Hid c/\g:=h
theorem hd4 (h:a/\b/\c/\d/\g):Hid a/\Hid b/\Hid c/\Hid d/\g:=h
theorem hd5 (h:a/\b/\c/\d/\e/\g):Hid a/\Hid b/\Hid c/\Hid d/\Hid e/\g:=h
theorem hd6 (h:a/\b/\c/\d/\e/\f/\g):Hid a/\Hid b/\Hid c/\Hid d/\Hid e/\Hid f/\g:=h
end
end Go.Lt
end
section
namespace Go.Proofs.YtmidbhnhcbpneaaGreatDoor.Dec
open Go
theorem AkY {α:Type} {P:List α->Prop} (nil:P []) (append_singleton:∀ l c,P l->P (l++ [c])) (l:List α):P l:=by
 have h:∀ r:List α,P r.reverse:=by
  intro r
  induction r with
  |nil=>exact nil
  |cons a r j=>rw[List.reverse_cons];exact append_singleton _ _ j
 have:=h l.reverse
 rwa [List.reverse_reverse]at this
def isD (c:UInt8):Bool:=decide (48<=c.toNat/\c.toNat<=57)
theorem Si {c:UInt8}:isD c=true↔48<=c.toNat/\c.toNat<=57:=by simp[isD]
def dlen (l:List UInt8):Nat:=(l.takeWhile isD).length
def decV (l:List UInt8):Nat:=l.foldl (λa c=>10*a+(c.toNat-48)) 0
theorem AcM (l:List UInt8) (c:UInt8):decV (l++ [c])=10*decV l+(c.toNat-48):=by unfold decV;rw[List.foldl_append];rfl
theorem Vb (l:List UInt8):dlen l<=l.length:=by
 unfold dlen;exact(List.takeWhile_prefix isD).length_le
theorem AiC (l:List UInt8):l.take (dlen l)=l.takeWhile isD:=by
 unfold dlen
 induction l with
 |nil=>rfl
 |cons a l j=>
  rw[List.takeWhile_cons];split
  ·rw[List.length_cons,List.take_succ_cons,j]
  rfl
theorem Aay (l:List UInt8):∀ c∈l.take (dlen l),isD c=true:=by
 rw[AiC];intro c j;exact List.all_eq_true.1 List.all_takeWhile c j
theorem AnC (l:List UInt8) (k:Nat) (h:∀ c∈l.take k,isD c=true) (hk:k<=l.length) (hs:∀ c,l[k]?=some c->isD c=false):dlen l=k:=by
 induction l generalizing k with
 |nil=>simp at hk;subst hk;rfl
 |cons a l p=>
  cases k with
  |zero=>
   have:=hs a rfl
   unfold dlen;rw[List.takeWhile_cons,if_neg (by rw[this];simp)];rfl
  |succ k=>
   have m:=h a (by simp);have h2:=p k (λc j=>h c (by simp[j])) (by simpa using hk) (λc j=>hs c (by simpa using j));unfold dlen at h2 ⊢;rw[List.takeWhile_cons,if_pos m,List.length_cons,h2]
theorem Anr (l:List UInt8) (h:∀ c∈l,isD c=true):decV l<10^l.length:=by
 induction l using AkY with
 |nil=>simp[decV]
 |append_singleton l c ih=>
  have m:=ih λc j=>h c (by simp[j]);have h2:=Si.1 (h c (by simp));rw[AcM,List.length_append,List.length_singleton,Nat.pow_succ];omega
theorem Qy (d:Nat) (h:d<10):(UInt8.ofNat (48+d)).toNat=48+d:=by
 rw[UInt8.toNat_ofNat'];omega
theorem Abe (u:Nat):∀ c∈Lib.decDigits u,isD c=true:=by
 induction u using Nat.strongRecOn with
 |_ u ih=>
  rw[Lib.decDigits];split
  ·rename_i h
   intro c j;rw[List.mem_singleton]at j;subst j;rw[Si,Qy _ h];omega
  rename_i h
  intro c j;rw[List.mem_append,List.mem_singleton]at j
  rcases j with j|rfl
  ·exact ih (u/10) (by omega) c j
  rw[Si,Qy _ (by omega)];omega
theorem AfX (u:Nat):Lib.decDigits u≠ []:=by
 rw[Lib.decDigits]
 split<;>simp
theorem Ama (u:Nat):decV (Lib.decDigits u)=u:=by
 induction u using Nat.strongRecOn with
 |_ u ih=>
  rw[Lib.decDigits];split
  ·rename_i h
   simp only[decV,List.foldl_cons,List.foldl_nil,Qy _ h];omega
  rename_i h
  rw[AcM,ih (u/10) (by omega),Qy _ (by omega)];omega
theorem AlC (u:Nat):(Lib.decDigits u).head? =some 48->u=0:=by
 induction u using Nat.strongRecOn with
 |_ u ih=>
  rw[Lib.decDigits];split
  ·rename_i h
   intro e
   have e:UInt8.ofNat (48+u)=48:=by simpa using e
   have:=congrArg UInt8.toNat e
   rw[Qy _ h]at this;have m:(48:UInt8).toNat=48:=rfl;omega
  rename_i h
  intro e
  have:(Lib.decDigits (u/10)).head? =some 48:=by
   cases j:Lib.decDigits (u/10) with
   |nil=>exact absurd j (AfX _)
   |cons a l=>rw[j]at e;simpa using e
  have:=ih (u/10) (by omega) this
  omega
theorem Nc (k u:Nat) (h:u<10^(k+1)):(Lib.decDigits u).length<=k+1:=by
 induction k generalizing u with
 |zero=>rw[Lib.decDigits,dif_pos (by simpa using h)];simp
 |succ k j=>
  rw[Lib.decDigits];split
  ·simp
  rw[List.length_append,List.length_singleton]
  have:=j (u/10) (by rw[Nat.pow_succ]at h;omega)
  omega
def Bq (l:List UInt8):Nat×Nat×Nat:=
 if l= [] then(0,0,3)
 else if dlen l=0∨(l.head? =some 48/\1<dlen l) then(0,0,2)
 else if 9<dlen l then(0,0,5)
 else(decV (l.take (dlen l)),dlen l,0)
theorem Ze (l:List UInt8):(Bq l).1<1000000000/\(Bq l).2.1<=9/\(Bq l).2.2<=5:=by
 unfold Bq;split
 ·simp
 split
 ·simp
 split
 ·simp
 rename_i h
 refine⟨?_,by simpa using h,by simp⟩;have j:=Anr _ (Aay l)
 have h2:(l.take (dlen l)).length<=9:=by rw[List.length_take];omega
 exact Nat.lt_of_lt_of_le j (Nat.le_trans (Nat.pow_le_pow_right (by omega) h2) (by decide))
theorem Aab (l:List UInt8) (h:∀ c∈l,isD c=true):∀ a,Lib.decFrom a l=some (l.foldl (λa c=>10*a+(c.toNat-48)) a):=by
 induction l with
 |nil=>intro a;rfl
 |cons c l p=>
  intro a;have h2:=Si.1 (h c (by simp))
  have m:Lib.digitVal c=some (c.toNat-48):=by
   unfold Lib.digitVal;rw[if_pos h2]
  rw[Lib.decFrom,m];simp only[List.foldl_cons];rw[<-p (λc j=>h c (by simp[j])),Nat.mul_comm a 10]
theorem Aek (l:List UInt8) (hl:l≠ []) (h:∀ c∈l,isD c=true):Lib.atoi l=some (decV l:Int):=by
 cases l with
 |nil=>exact absurd rfl hl
 |cons c r=>
  have h2:=Si.1 (h c (by simp))
  have j:(c==45)=false:=by
   rw[beq_eq_false_iff_ne];rintro rfl;have:(45:UInt8).toNat=45:=rfl;omega
  have m:(c==43)=false:=by
   rw[beq_eq_false_iff_ne];rintro rfl;have:(43:UInt8).toNat=43:=rfl;omega
  unfold Lib.atoi;simp only[j,m];unfold Lib.decNat;simp only[List.isEmpty_cons];rw[Aab _ h];rfl
end Go.Proofs.YtmidbhnhcbpneaaGreatDoor.Dec
end
section
namespace Go.Proofs.YtmidbhnhcbpneaaGreatDoor.Top
open Go YtmidbhnhcbpneaaGreatDoor.Dec
structure N3 where
 a:Nat
 b:Nat
 c:Nat
 deriving DecidableEq
structure Hd where
 bin:Bool
 m:Nat
 i:Nat
 l:Nat
 o:Nat
 a:Nat
 b:Nat
 c:Nat
 deriving DecidableEq
structure Cir where
 max:Nat
 ins:List Nat
 lat:List N3
 outs:List Nat
 bads:List Nat
 cons:List Nat
 gat:List N3
 deriving DecidableEq
abbrev Txt:=List UInt8
def Gi (top:Nat) (l:Txt):Option (Nat×Txt):=
 if(Bq l).2.2=0/\(Bq l).1<=top then some ((Bq l).1,l.drop (Bq l).2.1) else none
def Dv (cs:Txt):Txt->Option (UInt8×Txt)
 | []=>none
 |b::t=>if b∈cs then some (b,t) else none
def Bv (top:Nat) (cs l:Txt):Option (Nat×UInt8×Txt):=(Gi top l).bind λp=>(Dv cs p.2).bind λq=>some (p.1,q.1,q.2)
def Bi (top:Nat):Nat->Txt->Option (List Nat×Txt)
 |0,l=>some ([],l)
 |n+1,l=>(Bv top [10] l).bind λp=>(Bi top n p.2.2).bind λq=>some (p.1::q.1,q.2)
def Gw (top:Nat) (l:Txt):Option (N3×Txt):=
 (Bv top [32] l).bind λp=>(Bv top [32,10] p.2.2).bind λq=>
  if q.2.1=32 then(Bv top [10] q.2.2).bind λr=>some (⟨p.1,q.1,r.1⟩,r.2.2) else some (⟨p.1,q.1,0⟩,q.2.2)
def Eh (top:Nat):Nat->Txt->Option (List N3×Txt)
 |0,l=>some ([],l)
 |n+1,l=>(Gw top l).bind λp=>(Eh top n p.2).bind λq=>some (p.1::q.1,q.2)
def Ma (top:Nat) (l:Txt):Option (N3×Txt):=
 (Bv top [32] l).bind λp=>(Bv top [32] p.2.2).bind λq=>(Bv top [10] q.2.2).bind λr=>some (⟨p.1,q.1,r.1⟩,r.2.2)
def Mf (top:Nat):Nat->Txt->Option (List N3×Txt)
 |0,l=>some ([],l)
 |n+1,l=>(Ma top l).bind λp=>(Mf top n p.2).bind λq=>some (p.1::q.1,q.2)
def Ec (h:Hd) (l:Txt):Option (Cir×Txt):=
 (Bi (2*h.m+1) h.i l).bind λi=>(Eh (2*h.m+1) h.l i.2).bind λx=>(Bi (2*h.m+1) h.o x.2).bind λo=>
 (Bi (2*h.m+1) h.b o.2).bind λb=>(Bi (2*h.m+1) h.c b.2).bind λc=>(Mf (2*h.m+1) h.a c.2).bind λg=>
 some (⟨h.m,i.1,x.1,o.1,b.1,c.1,g.1⟩,g.2)
def Gp:List Txt->Txt
 | []=>[]
 | [w]=>w
 |w::v::r=>w++32::Gp (v::r)
def By (ns:List Nat):Txt:=Gp (ns.map Lib.decDigits)++ [10]
def Jz (x:N3):Txt:=if x.c=0 then By [x.a,x.b] else By [x.a,x.b,x.c]
def Nn (x:N3):Txt:=By [x.a,x.b,x.c]
def Bw (l:List Nat):Txt:=l.flatMap λn=>By [n]
def Ew (c:Cir):Txt:=Bw c.ins++c.lat.flatMap Jz++Bw c.outs++Bw c.bads++Bw c.cons++c.gat.flatMap Nn
def Db (c:Cir) (bin:Bool):Hd:=⟨bin,c.max,c.ins.length,c.lat.length,c.outs.length,c.gat.length,c.bads.length,c.cons.length⟩
theorem Amd (d t:Txt) (hd:∀ c∈d,isD c=true) (ht:∀ c,t[0]?=some c->isD c=false):dlen (d++t)=d.length:=by
 refine AnC _ _ (λc j=>?_) (by simp) (λc j=>?_)
 ·rw[List.take_left']at j
  ·exact hd c j
  rfl
 rw[List.getElem?_append_right (Nat.le_refl _),Nat.sub_self]at j;exact ht c j
theorem Akx (u:Nat) (t:Txt) (h:u<1000000000) (ht:∀ c,t[0]?=some c->isD c=false):Bq (Lib.decDigits u++t)=(u,(Lib.decDigits u).length,0):=by
 have p:=Amd _ t (Abe u) ht;have x:(Lib.decDigits u).length<=9:=Nc 8 u (by omega);have j:=AfX u;have q:0<(Lib.decDigits u).length:=List.length_pos_iff.2 j
 have l:Lib.decDigits u++t≠ []:=by simp[j]
 unfold Bq;rw[if_neg l,if_neg,if_neg (by omega),p,List.take_left' rfl,Ama];rw[p];rintro(h1|⟨h1,h2⟩)
 ·omega
 have r:(Lib.decDigits u).head? =some 48:=by
  rw[List.head?_append]at h1
  cases m:(Lib.decDigits u).head? with
  |none=>exact absurd (List.head?_eq_none_iff.1 m) j
  |some y=>rw[m]at h1;exact h1
 have:=AlC u r
 subst this;rw[Lib.decDigits_one (by omega)]at h2;simp at h2
theorem AfN {top u:Nat} {t:Txt} (h:u<=top) (ht:top<1000000000) (h0:∀ c,t[0]?=some c->isD c=false):Gi top (Lib.decDigits u++t)=some (u,t):=by
 unfold Gi;rw[Akx u t (by omega) h0];simp only;rw[if_pos ⟨trivial,h⟩,List.drop_left' rfl]
theorem Eq {top u:Nat} {t cs:Txt} {b:UInt8} (h:u<=top) (ht:top<1000000000) (hb:isD b=false) (j:b∈cs):Bv top cs (Lib.decDigits u++b::t)=some (u,b,t):=by
 unfold Bv;rw[AfN h ht (λc j=>by simp at j;rw[<-j];exact hb)];simp only[Option.bind_some,Dv,if_pos j]
theorem Im {top:Nat} (ht:top<1000000000):∀ (l:List Nat) (t:Txt),(∀n∈l,n<=top)->Bi top l.length (Bw l++t)=some (l,t)
 | [],t,_=>rfl
 |n::l,t,h=>by
  have e:Bw (n::l)++t=Lib.decDigits n++10::(Bw l++t):=by
   unfold Bw By;simp[Gp]
  rw[e]
  show(Bv top [10] _).bind _=_
  rw[Eq (h n List.mem_cons_self) ht (by decide) (by decide)];simp only[Option.bind_some];rw[Im ht l t (λm j=>h m (List.mem_cons_of_mem _ j))];rfl
theorem Agf {top:Nat} (ht:top<1000000000) (x:N3) (t:Txt) (h:x.a<=top/\x.b<=top/\x.c<=top):Gw top (Jz x++t)=some (x,t):=by
 obtain⟨a,b,c⟩:=x;obtain⟨j,h2,l⟩:=h;unfold Jz Gw;simp only at j h2 l ⊢
 by_cases m:c=0
 ·subst m
  have e:By [a,b]++t=Lib.decDigits a++32::(Lib.decDigits b++10::t):=by unfold By;simp[Gp]
  rw[if_pos rfl,e,Eq j ht (by decide) (by decide)];simp only[Option.bind_some];rw[Eq h2 ht (by decide) (by decide)];rfl
 have e:By [a,b,c]++t=Lib.decDigits a++32::(Lib.decDigits b++32::(Lib.decDigits c++10::t)):=by unfold By;simp[Gp]
 rw[if_neg m,e,Eq j ht (by decide) (by decide)];simp only[Option.bind_some];rw[Eq h2 ht (by decide) (by decide)];simp only[Option.bind_some,if_true];rw[Eq l ht (by decide) (by decide)];rfl
theorem Uy {top:Nat} (ht:top<1000000000):∀ (l:List N3) (t:Txt),(∀x∈l,x.a<=top/\x.b<=top/\x.c<=top)->Eh top l.length (l.flatMap Jz++t)=some (l,t)
 | [],t,_=>rfl
 |x::l,t,h=>by
  rw[List.flatMap_cons,List.append_assoc]
  show(Gw top _).bind _=_
  rw[Agf ht x _ (h x List.mem_cons_self)];simp only[Option.bind_some];rw[Uy ht l t (λm j=>h m (List.mem_cons_of_mem _ j))];rfl
theorem AjG {top:Nat} (ht:top<1000000000) (x:N3) (t:Txt) (h:x.a<=top/\x.b<=top/\x.c<=top):Ma top (Nn x++t)=some (x,t):=by
 obtain⟨a,b,c⟩:=x;obtain⟨j,h2,l⟩:=h;unfold Nn Ma;simp only at j h2 l ⊢
 have e:By [a,b,c]++t=Lib.decDigits a++32::(Lib.decDigits b++32::(Lib.decDigits c++10::t)):=by unfold By;simp[Gp]
 rw[e,Eq j ht (by decide) (by decide)];simp only[Option.bind_some];rw[Eq h2 ht (by decide) (by decide)];simp only[Option.bind_some];rw[Eq l ht (by decide) (by decide)];rfl
theorem Aax {top:Nat} (ht:top<1000000000):∀ (l:List N3) (t:Txt),(∀x∈l,x.a<=top/\x.b<=top/\x.c<=top)->Mf top l.length (l.flatMap Nn++t)=some (l,t)
 | [],t,_=>rfl
 |x::l,t,h=>by
  rw[List.flatMap_cons,List.append_assoc]
  show(Ma top _).bind _=_
  rw[AjG ht x _ (h x List.mem_cons_self)];simp only[Option.bind_some];rw[Aax ht l t (λm j=>h m (List.mem_cons_of_mem _ j))];rfl
structure Afy (c:Cir):Prop where
 max:c.max<=16777216
 ins:∀ n∈c.ins,n<=2*c.max+1
 lat:∀ x∈c.lat,x.a<=2*c.max+1/\x.b<=2*c.max+1/\x.c<=2*c.max+1
 outs:∀ n∈c.outs,n<=2*c.max+1
 bads:∀ n∈c.bads,n<=2*c.max+1
 cons:∀ n∈c.cons,n<=2*c.max+1
 gat:∀ x∈c.gat,x.a<=2*c.max+1/\x.b<=2*c.max+1/\x.c<=2*c.max+1
theorem Ahe (c:Cir) (h:Afy c) (b:Bool) (t:Txt):Ec (Db c b) (Ew c++t)=some (c,t):=by
 have j:2*c.max+1<1000000000:=by have:=h.max;omega
 unfold Ec Ew Db;simp only[List.append_assoc];rw[Im j _ _ h.ins];simp only[Option.bind_some];rw[Uy j _ _ h.lat];simp only[Option.bind_some];rw[Im j _ _ h.outs];simp only[Option.bind_some];rw[Im j _ _ h.bads];simp only[Option.bind_some];rw[Im j _ _ h.cons];simp only[Option.bind_some];rw[Aax j _ _ h.gat];rfl
def Kr (k:Nat):Nat:=if k<7 then 16777216 else 0
def Ev (k:Nat):Txt:=if k=8 then[10] else if 4<=k then[32,10] else[32]
def Ft:Nat->Nat->Txt->Option (List Nat×Txt)
 |0,_,l=>some ([],l)
 |n+1,k,l=>(Bv (Kr k) (Ev k) l).bind λp=>if p.2.1=10 then some ([p.1],p.2.2) else(Ft n (k+1) p.2.2).bind λq=>some (p.1::q.1,q.2)
def Hk:Txt:=[97,97,103,32]
def Dy:Txt:=[97,105,103,32]
def Ans (bin:Bool) (ns:List Nat):Hd:=⟨bin,ns.getD 0 0,ns.getD 1 0,ns.getD 2 0,ns.getD 3 0,ns.getD 4 0,ns.getD 5 0,ns.getD 6 0⟩
def Jf (h:Hd):Bool:=decide (h.i+h.l+h.a<=h.m)&&(!h.bin||decide (h.m<=h.i+h.l+h.a))
def Jr (l:Txt):Option (Hd×Txt):=
 if l.take 4=Hk∨l.take 4=Dy then
  (Ft 9 0 (l.drop 4)).bind λq=>if Jf (Ans (decide (l.take 4=Dy)) q.1)=true then some (Ans (decide (l.take 4=Dy)) q.1,q.2) else none
 else none
def Bm (h:Hd):List Nat:=[h.m,h.i,h.l,h.o,h.a]++(if h.b≠0∨h.c≠0 then[h.b] else[])++(if h.c≠0 then[h.c] else[])
def Fl (h:Hd):Txt:=(if h.bin then Dy else Hk)++By (Bm h)
structure Nq (h:Hd):Prop where
 m:h.m<=16777216
 i:h.i<=16777216
 l:h.l<=16777216
 o:h.o<=16777216
 a:h.a<=16777216
 b:h.b<=16777216
 c:h.c<=16777216
theorem Ahs (k:Nat):Kr k<1000000000:=by unfold Kr;split<;>omega
theorem Yu:∀ (ns:List Nat) (n k:Nat) (t:Txt),ns≠ []->k+ns.length<=7->4<k+ns.length->ns.length<=n->(∀x∈ns,x<=16777216)->Ft n k (Gp (ns.map Lib.decDigits)++10::t)=some (ns,t)
 | [],_,_,_,h,_,_,_,_=>absurd rfl h
 | [x],n+1,k,t,_,h7,h4,hn,hx=>by
  have m:k<7:=by simp at h7;omega
  have l:4<=k:=by simp at h4;omega
  show(Bv (Kr k) (Ev k) (Lib.decDigits x++10::t)).bind _=_
  have j:x<=Kr k:=by unfold Kr;rw[if_pos m];exact hx x List.mem_cons_self
  have p:(10:UInt8)∈Ev k:=by unfold Ev;rw[if_neg (by omega),if_pos l];decide
  rw[Eq j (Ahs k) (by decide) p];rfl
 |x::y::r,n+1,k,t,_,h7,h4,hn,hx=>by
  have m:k<7:=by simp at h7;omega
  have e:Gp ((x::y::r).map Lib.decDigits)++10::t=Lib.decDigits x++32::(Gp ((y::r).map Lib.decDigits)++10::t):=by
   simp[Gp]
  rw[e]
  show(Bv (Kr k) (Ev k) _).bind _=_
  have j:x<=Kr k:=by unfold Kr;rw[if_pos m];exact hx x List.mem_cons_self
  have p:(32:UInt8)∈Ev k:=by unfold Ev;rw[if_neg (by omega)];split<;>decide
  rw[Eq j (Ahs k) (by decide) p];simp only[Option.bind_some];rw[if_neg (by decide),Yu (y::r) n (k+1) t (by simp) (by simp at h7 ⊢;omega) (by simp at h4 ⊢;omega) (by simp at hn ⊢;omega) (λz q=>hx z (List.mem_cons_of_mem _ q))];rfl
theorem AnU (h:Hd):Ans h.bin (Bm h)=h:=by
 obtain⟨q,m,i,l,o,a,b,c⟩:=h;unfold Bm Ans;simp only
 by_cases p:c=0
 ·subst p
  by_cases j:b=0
  ·subst j;simp
  simp[j]
 simp[p]
theorem Aav (h:Hd):5<=(Bm h).length/\(Bm h).length<=7:=by
 unfold Bm;simp only[List.length_append,List.length_cons,List.length_nil]
 split<;>split<;>simp
theorem Ajq (h:Hd) (ht:Nq h) (hk:Jf h=true) (t:Txt):Jr (Fl h++t)=some (h,t):=by
 have q:=Aav h
 have j:∀ x∈Bm h,x<=16777216:=λx j=>by
  unfold Bm at j;simp only[List.mem_append,List.mem_cons,List.not_mem_nil,or_false]at j
  have:=ht.m;have:=ht.i;have:=ht.l;have:=ht.o;have:=ht.a;have:=ht.b;have:=ht.c
  rcases j with((rfl|rfl|rfl|rfl|rfl)|j)|j
  ·assumption
  ·assumption
  ·assumption
  ·assumption
  ·assumption
  ·split at j
   ·simp at j;omega
   simp at j
  split at j
  ·simp at j;omega
  simp at j
 have D:=Yu (Bm h) 9 0 t (λe=>by rw[e]at q;simp at q) (by omega) (by omega) (by omega) j
 have e:Fl h++t=(if h.bin then Dy else Hk)++(Gp ((Bm h).map Lib.decDigits)++10::t):=by
  unfold Fl By;simp
 have p:=AnU h;rw[e];unfold Jr
 cases B:h.bin with
 |true=>
  rw[B]at p;have r:(Dy++(Gp ((Bm h).map Lib.decDigits)++10::t)).take 4=Dy:=rfl;have y:(Dy++(Gp ((Bm h).map Lib.decDigits)++10::t)).drop 4=Gp ((Bm h).map Lib.decDigits)++10::t:=rfl;simp only[if_true];rw[r,y,if_pos (.inr rfl),D];simp only[Option.bind_some,decide_true];rw[p,if_pos hk]
 |false=>
  rw[B]at p;have r:(Hk++(Gp ((Bm h).map Lib.decDigits)++10::t)).take 4=Hk:=rfl;have y:(Hk++(Gp ((Bm h).map Lib.decDigits)++10::t)).drop 4=Gp ((Bm h).map Lib.decDigits)++10::t:=rfl;simp only[Bool.false_eq_true,if_false];rw[r,y,if_pos (.inl rfl),D]
  have z:decide (Hk=Dy)=false:=by decide
  simp only[Option.bind_some,z];rw[p,if_pos hk]
def My (n:Nat):Txt:=if h:n<128 then[UInt8.ofNat n] else UInt8.ofNat (128+n%128)::My (n/128)
termination_by n
decreasing_by omega
def Ke:Nat->Nat->Txt->Option (Nat×Txt)
 |0,_,_=>none
 |f+1,k,l=>
  match l with
  | []=>none
  |b::t=>
   if k=4/\15<b.toNat then none
   else if 0<k/\b.toNat=0 then none
   else if b.toNat<128 then some (b.toNat,t)
   else(Ke f (k+1) t).bind λp=>some (b.toNat-128+128*p.1,p.2)
theorem Aey:∀ (f k n:Nat) (t:Txt),f+k=5->0<f->n*128^k<4294967296->(0<k->0<n)->Ke f k (My n++t)=some (n,t)
 |0,k,n,t,_,h,_,_=>absurd h (by omega)
 |f+1,k,n,t,hf,_,hn,h0=>by
  unfold My
  by_cases h:n<128
  ·rw[dif_pos h]
   have l:(UInt8.ofNat n).toNat=n:=by simp;omega
   show(if k=4/\15<(UInt8.ofNat n).toNat then none else if 0<k/\(UInt8.ofNat n).toNat=0 then none else if(UInt8.ofNat n).toNat<128 then some ((UInt8.ofNat n).toNat,t) else _)=_
   rw[l,if_neg,if_neg (by omega),if_pos h];rintro⟨q,h15⟩;subst q
   have:128^4=268435456:=by decide
   omega
  rw[dif_neg h]
  have l:(UInt8.ofNat (128+n%128)).toNat=128+n%128:=by simp;omega
  have x:k≠4:=λq=>by
   subst q
   have:128^4=268435456:=by decide
   omega
  show(if k=4/\15<(UInt8.ofNat (128+n%128)).toNat then none else if 0<k/\(UInt8.ofNat (128+n%128)).toNat=0 then none else if(UInt8.ofNat (128+n%128)).toNat<128 then some ((UInt8.ofNat (128+n%128)).toNat,My (n/128)++t) else(Ke f (k+1) (My (n/128)++t)).bind λp=>some ((UInt8.ofNat (128+n%128)).toNat-128+128*p.1,p.2))=_
  have m:0<f:=by omega
  have j:n/128*128^(k+1)<4294967296:=by
   have r:n/128*128^(k+1)=(n/128*128)*128^k:=by rw[Nat.pow_succ,Nat.mul_assoc,Nat.mul_comm (128^k) 128]
   have h2:n/128*128<=n:=Nat.div_mul_le_self n 128;rw[r];exact Nat.lt_of_le_of_lt (Nat.mul_le_mul_right _ h2) hn
  rw[l,if_neg (by omega),if_neg (by omega),if_neg (by omega),Aey f (k+1) (n/128) t (by omega) m j (λ_=>by omega)];simp only[Option.bind_some,Option.some.injEq,Prod.mk.injEq,and_true];omega
def Do (least top:Nat) (l:Txt):Option (Nat×Txt):=(Ke 5 0 l).bind λp=>if least<=p.1/\p.1<=top then some p else none
theorem Aaa {least top n:Nat} {t:Txt} (h1:least<=n) (h2:n<=top) (h3:n<4294967296):Do least top (My n++t)=some (n,t):=by
 unfold Do;rw[Aey 5 0 n t rfl (by omega) (by simpa using h3) (λh=>absurd h (by omega))];simp only[Option.bind_some];rw[if_pos ⟨h1,h2⟩]
def Fv (top lit:Nat) (l:Txt):Option (N3×Txt):=
 (Bv top [32,10] l).bind λq=>if q.2.1=32 then(Bv top [10] q.2.2).bind λr=>some (⟨lit,q.1,r.1⟩,r.2.2) else some (⟨lit,q.1,0⟩,q.2.2)
def Cz (top:Nat):Nat->Nat->Txt->Option (List N3×Txt)
 |0,_,l=>some ([],l)
 |n+1,lit,l=>(Fv top lit l).bind λp=>(Cz top n (lit+2) p.2).bind λq=>some (p.1::q.1,q.2)
def Ly (lit:Nat) (l:Txt):Option (N3×Txt):=
 (Do 1 lit l).bind λp=>(Do 0 (lit-p.1) p.2).bind λq=>some (⟨lit,lit-p.1,lit-p.1-q.1⟩,q.2)
def Ib:Nat->Nat->Txt->Option (List N3×Txt)
 |0,_,l=>some ([],l)
 |n+1,lit,l=>(Ly lit l).bind λp=>(Ib n (lit+2) p.2).bind λq=>some (p.1::q.1,q.2)
def evens (n lit:Nat):List Nat:=(List.range n).map λk=>lit+2*k
def Hc (h:Hd) (l:Txt):Option (Cir×Txt):=
 (Cz (2*h.m+1) h.l (2+2*h.i) l).bind λx=>(Bi (2*h.m+1) h.o x.2).bind λo=>
 (Bi (2*h.m+1) h.b o.2).bind λb=>(Bi (2*h.m+1) h.c b.2).bind λc=>(Ib h.a (2+2*h.i+2*h.l) c.2).bind λg=>
 some (⟨h.m,evens h.i 2,x.1,o.1,b.1,c.1,g.1⟩,g.2)
def Hh (x:N3):Txt:=Lib.decDigits x.b++(if x.c=0 then[] else 32::Lib.decDigits x.c)++ [10]
def Jv (x:N3):Txt:=My (x.a-x.b)++My (x.b-x.c)
def Sp (c:Cir):Txt:=c.lat.flatMap Hh++Bw c.outs++Bw c.bads++Bw c.cons++c.gat.flatMap Jv
structure AbH (c:Cir):Prop where
 top:Afy c
 ins:c.ins=evens c.ins.length 2
 lat:c.lat.map N3.a=evens c.lat.length (2+2*c.ins.length)
 gat:c.gat.map N3.a=evens c.gat.length (2+2*c.ins.length+2*c.lat.length)
 low:∀ g∈c.gat,g.c<=g.b/\g.b<g.a
theorem AbD (n lit:Nat):evens (n+1) lit=lit::evens n (lit+2):=by
 unfold evens;rw[List.range_succ_eq_map,List.map_cons,List.map_map]
 congr 1
 apply List.map_congr_left
 intro k _
 show lit+2*(k+1)=lit+2+2*k
 omega
theorem Sw {top:Nat} (ht:top<1000000000):∀ (l:List N3) (lit:Nat) (t:Txt),l.map N3.a=evens l.length lit->(∀x∈l,x.b<=top/\x.c<=top)->Cz top l.length lit (l.flatMap Hh++t)=some (l,t)
 | [],_,t,_,_=>rfl
 |⟨a,b,c⟩::l,lit,t,he,h=>by
  rw[List.length_cons,AbD,List.map_cons]at he;injection he with he1 he2;simp only at he1;subst he1;obtain⟨h2,p⟩:=h _ List.mem_cons_self;simp only at h2 p;have j:=Sw ht l (a+2) t he2 (λm r=>h m (List.mem_cons_of_mem _ r));rw[List.flatMap_cons,List.append_assoc];generalize l.flatMap Hh++t=u at j ⊢
  show(Fv top a _).bind _=_
  unfold Hh Fv;simp only
  by_cases q:c=0
  ·subst q
   have e:Lib.decDigits b++(if(0:Nat)=0 then[] else 32::Lib.decDigits 0)++ [10]++u=Lib.decDigits b++10::u:=by simp
   rw[e,Eq h2 ht (by decide) (by decide)];simp only[Option.bind_some];rw[if_neg (by decide)];simp only[Option.bind_some];rw[j];rfl
  have e:Lib.decDigits b++(if c=0 then[] else 32::Lib.decDigits c)++ [10]++u=Lib.decDigits b++32::(Lib.decDigits c++10::u):=by rw[if_neg q];simp
  rw[e,Eq h2 ht (by decide) (by decide)];simp only[Option.bind_some,if_true];rw[Eq p ht (by decide) (by decide)];simp only[Option.bind_some];rw[j];rfl
theorem Yg:∀ (l:List N3) (lit:Nat) (t:Txt),l.map N3.a=evens l.length lit->(∀x∈l,x.c<=x.b/\x.b<x.a/\x.a<4294967296)->Ib l.length lit (l.flatMap Jv++t)=some (l,t)
 | [],_,t,_,_=>rfl
 |⟨a,b,c⟩::l,lit,t,he,h=>by
  rw[List.length_cons,AbD,List.map_cons]at he;injection he with he1 he2;simp only at he1;subst he1;obtain⟨p,h2,q⟩:=h _ List.mem_cons_self;simp only at p h2 q;have j:=Yg l (a+2) t he2 (λm r=>h m (List.mem_cons_of_mem _ r));rw[List.flatMap_cons,List.append_assoc];generalize l.flatMap Jv++t=u at j ⊢
  show(Ly a _).bind _=_
  unfold Jv Ly;simp only;rw[List.append_assoc,Aaa (by omega) (by omega) (by omega)];simp only[Option.bind_some];rw[Aaa (by omega) (by omega) (by omega)];simp only[Option.bind_some];rw[j];simp only[Option.bind_some]
  congr 3
  congr 1
  ·omega
  omega
theorem AmG (c:Cir) (h:AbH c) (b:Bool) (t:Txt):Hc (Db c b) (Sp c++t)=some (c,t):=by
 have l:2*c.max+1<1000000000:=by have:=h.top.max;omega
 unfold Hc Sp Db;simp only[List.append_assoc];rw[Sw l _ _ _ h.lat (λx j=>⟨(h.top.lat x j).2.1,(h.top.lat x j).2.2⟩)];simp only[Option.bind_some];rw[Im l _ _ h.top.outs];simp only[Option.bind_some];rw[Im l _ _ h.top.bads];simp only[Option.bind_some];rw[Im l _ _ h.top.cons];simp only[Option.bind_some];rw[Yg _ _ _ h.gat (λx j=>⟨(h.low x j).1,(h.low x j).2,by have:=(h.top.gat x j).1;have:=h.top.max;omega⟩)];simp only[Option.bind_some];rw[<-h.ins]
structure Sy where
 k:UInt8
 i:Nat
 name:Txt
 deriving DecidableEq
def kinds:Txt:=[105,108,111,98,99]
def countK (h:Hd) (k:UInt8):Nat:=if k=105 then h.i else if k=108 then h.l else if k=111 then h.o else if k=98 then h.b else if k=99 then h.c else 0
def Le (l:Txt):Option (Txt×Txt):=
 if 10∈l then some (l.takeWhile (· != 10),(l.dropWhile (· != 10)).drop 1) else none
def Jq (h:Hd):Txt->Option (Sy×Txt)
 | []=>none
 |k::t=>
  if k∈kinds then
   (Gi 999999999 t).bind λp=>if p.1<countK h k then
    (Dv [32] p.2).bind λq=>(Le q.2).bind λr=>if r.1≠ []/\r.1.length<=64 then some (⟨k,p.1,r.1⟩,r.2) else none
   else none
  else none
def Fj (h:Hd):Nat->List (UInt8×Nat)->Txt->Option (List Sy×Txt)
 |0,_,_=>none
 |f+1,seen,l=>
  if l= [] then some ([],[])
  else if l.take 2= [99,10] then some ([],l.drop 2)
  else(Jq h l).bind λp=>if(p.1.k,p.1.i)∈seen then none else(Fj h f ((p.1.k,p.1.i)::seen) p.2).bind λq=>some (p.1::q.1,q.2)
def Kx (x:Sy):Txt:=x.k::(Lib.decDigits x.i++32::(x.name++ [10]))
def Gb (l:List Sy) (com:Txt):Txt:=l.flatMap Kx++(if com= [] then[] else 99::10::com)
structure Or (h:Hd) (x:Sy):Prop where
 k:x.k∈kinds
 i:x.i<countK h x.k
 small:x.i<1000000000
 ne:x.name≠ []
 line:∀ b∈x.name,b≠10
 len:x.name.length<=64
theorem Akg (n t:Txt) (hn:∀ b∈n,b≠10):Le (n++10::t)=some (n,t):=by
 have l:(n++10::t).takeWhile (· != 10)=n:=by
  rw[List.takeWhile_append_of_pos (λb j=>by simpa using hn b j)]
  simp
 have h2:(n++10::t).dropWhile (· != 10)=10::t:=by
  rw[List.dropWhile_append_of_pos (λb j=>by simpa using hn b j)]
  simp
 unfold Le;rw[if_pos (by simp),l,h2];rfl
theorem Amn (h:Hd) (x:Sy) (t:Txt) (hx:Or h x):Jq h (Kx x++t)=some (x,t):=by
 obtain⟨k,i,j⟩:=x
 have e:Kx ⟨k,i,j⟩++t=k::(Lib.decDigits i++32::(j++10::t)):=by unfold Kx;simp
 rw[e]
 show(if k∈kinds then _ else _)=_
 rw[if_pos hx.k,AfN (by have:=hx.small;simp only at this;omega) (by omega) (λc l=>by simp at l;rw[<-l];decide)];simp only[Option.bind_some];rw[if_pos hx.i];simp only[Dv,List.mem_singleton,if_true,Option.bind_some];rw[Akg j t hx.line];simp only[Option.bind_some];rw[if_pos ⟨hx.ne,hx.len⟩]
theorem AiV (x:Sy) (t:Txt):(Kx x++t).take 2≠ [99,10]:=by
 intro e;have m:=AfX x.i
 cases l:Lib.decDigits x.i with
 |nil=>exact m l
 |cons d r=>
  have j:=Abe x.i d (by rw[l];exact List.mem_cons_self);unfold Kx at e;rw[l]at e;simp at e;rw[e.2]at j;exact absurd j (by decide)
theorem AcN (h:Hd) (com:Txt):∀ (l:List Sy) (f:Nat) (seen:List (UInt8×Nat)),l.length<f->(∀x∈l,Or h x)->(l.map λx=>(x.k,x.i)).Nodup->(∀x∈l,(x.k,x.i)∉seen)->Fj h f seen (Gb l com)=some (l,com)
 | [],0,_,hf,_,_,_=>absurd hf (by simp)
 | [],f+1,seen,_,_,_,_=>by
  unfold Fj Gb
  by_cases m:com= []
  ·subst m;simp
  simp[m]
 |x::l,0,_,hf,_,_,_=>absurd hf (by simp)
 |x::l,f+1,seen,hf,hx,hn,hs=>by
  have e:Gb (x::l) com=Kx x++Gb l com:=by unfold Gb;simp
  have j:Kx x++Gb l com≠ []:=by unfold Kx;simp
  rw[e]
  show(if _= [] then _ else if _=_ then _ else _)=_
  rw[if_neg j,if_neg (AiV x _),Amn h x _ (hx x List.mem_cons_self)];simp only[Option.bind_some];rw[if_neg (hs x List.mem_cons_self)];rw[List.map_cons,List.nodup_cons]at hn;rw[AcN h com l f _ (by simp at hf;omega) (λy hy=>hx y (List.mem_cons_of_mem _ hy)) hn.2 (λy hy e=>?_)]
  ·rfl
  rcases List.mem_cons.1 e with e|e
  ·exact hn.1 (List.mem_map.2 ⟨y,hy,e⟩)
  exact hs y (List.mem_cons_of_mem _ hy) e
structure Bp where
 c:Cir
 sym:List Sy
 com:Txt
 deriving DecidableEq
def Io (h:Hd) (l:Txt):Option (Cir×Txt):=if h.bin then Hc h l else Ec h l
def Np (l:Txt):Option Bp:=
 (Jr l).bind λh=>(Io h.1 h.2).bind λb=>(Fj h.1 (b.2.length+1) [] b.2).bind λt=>some ⟨b.1,t.1,t.2⟩
def Km (x:Bp) (bin:Bool):Txt:=Fl (Db x.c bin)++((if bin then Sp x.c else Ew x.c)++Gb x.sym x.com)
structure Qm (x:Bp) (bin:Bool):Prop where
 top:Afy x.c
 hd:Nq (Db x.c bin)
 fit:Jf (Db x.c bin)=true
 norm:bin=true->AbH x.c
 sym:∀ y∈x.sym,Or (Db x.c bin) y
 one:(x.sym.map λy=>(y.k,y.i)).Nodup
theorem AlJ (x:Sy):1<=(Kx x).length:=by unfold Kx;simp
theorem AiJ (l:List Sy) (com:Txt):l.length<=(Gb l com).length:=by
 induction l with
 |nil=>simp
 |cons x l j=>
  have e:Gb (x::l) com=Kx x++Gb l com:=by unfold Gb;simp
  rw[e,List.length_append,List.length_cons]
  have:=AlJ x
  omega
theorem Aiw (x:Bp) (bin:Bool) (h:Qm x bin):Np (Km x bin)=some x:=by
 unfold Np Km;rw[Ajq _ h.hd h.fit];simp only[Option.bind_some]
 have j:Io (Db x.c bin) ((if bin then Sp x.c else Ew x.c)++Gb x.sym x.com)=some (x.c,Gb x.sym x.com):=by
  unfold Io
  cases bin with
  |true=>exact AmG x.c (h.norm rfl) true _
  |false=>exact Ahe x.c h.top false _
 rw[j];simp only[Option.bind_some];rw[AcN _ x.com x.sym _ [] (by have:=AiJ x.sym x.com;omega) h.sym h.one (λy hy=>List.not_mem_nil)];rfl
def Dd (c:Cir):List Nat:=c.ins++c.lat.map N3.a++c.gat.map N3.a
def Ch (c:Cir):List Nat:=c.outs++c.bads++c.cons++c.lat.map N3.b++c.gat.flatMap λg=>[g.b,g.c]
def Gj (g:List N3) (told:List Nat) (x:Nat):Bool:=(List.range g.length).any λi=> !told.contains i&&decide (((g.getD i ⟨0,0,0⟩).a)/2=x/2)
def De (g:List N3) (told:List Nat) (i:Nat):Bool:= !told.contains i&& !Gj g told (g.getD i ⟨0,0,0⟩).b&& !Gj g told (g.getD i ⟨0,0,0⟩).c
def Hy (g:List N3) (told:List Nat):Option Nat:=(List.range g.length).find? (De g told)
def Fg (g:List N3):Nat->List Nat->List Nat
 |0,told=>told
 |f+1,told=>match Hy g told with|none=>told|some i=>Fg g f (told++ [i])
def Aw (g:List N3):List Nat:=Fg g g.length []
structure Ag (c:Cir):Prop where
 max:c.max<=16777216
 own:∀ x∈Dd c,2<=x/\x%2=0/\x<=2*c.max
 used:∀ x∈Ch c,x<=2*c.max+1
 res:∀ x∈c.lat,x.c=0∨x.c=1∨x.c=x.a
 one:(Dd c).Nodup
 def_:∀ x∈Ch c,1<x->x-x%2∈Dd c
 all:(Aw c.gat).length=c.gat.length
theorem Nr {c:Cir} {x:Nat} (h:x∈c.ins):x∈Dd c:=by unfold Dd;simp[h]
theorem Em {c:Cir} {x:N3} (h:x∈c.lat):x.a∈Dd c:=by unfold Dd;simp only[List.mem_append,List.mem_map];exact .inl (.inr ⟨x,h,rfl⟩)
theorem Nf {c:Cir} {x:N3} (h:x∈c.gat):x.a∈Dd c:=by unfold Dd;simp only[List.mem_append,List.mem_map];exact .inr ⟨x,h,rfl⟩
theorem Hu {c:Cir} {x:Nat} (h:x∈c.outs):x∈Ch c:=by unfold Ch;simp[h]
theorem Ez {c:Cir} {x:Nat} (h:x∈c.bads):x∈Ch c:=by unfold Ch;simp[h]
theorem Ey {c:Cir} {x:Nat} (h:x∈c.cons):x∈Ch c:=by unfold Ch;simp[h]
theorem Fo {c:Cir} {x:N3} (h:x∈c.lat):x.b∈Ch c:=by
 unfold Ch;simp only[List.mem_append,List.mem_map];exact .inl (.inr ⟨x,h,rfl⟩)
theorem Bg {c:Cir} {x:N3} (h:x∈c.gat):x.b∈Ch c/\x.c∈Ch c:=by
 unfold Ch;simp only[List.mem_append,List.mem_flatMap]
 exact⟨.inr ⟨x,h,by simp⟩,.inr ⟨x,h,by simp⟩⟩
theorem Ag.inTop {c:Cir} (h:Ag c):Afy c:=by
 refine⟨h.max,λn l=>?_,λx j=>⟨?_,?_,?_⟩,λn l=>h.used n (Hu l),λn l=>h.used n (Ez l),λn l=>h.used n (Ey l),λx j=>⟨?_,h.used _ (Bg j).1,h.used _ (Bg j).2⟩⟩
 ·have:=h.own n (Nr l);omega
 ·have:=h.own _ (Em j);omega
 ·exact h.used _ (Fo j)
 ·have:=h.own _ (Em j)
  rcases h.res x j with e|e|e<;>omega
 have:=h.own _ (Nf j);omega
theorem Rx {g:List N3} {told:List Nat} {i:Nat} (h:Hy g told=some i):i<g.length/\i∉told/\De g told i=true:=by
 have j:=List.mem_of_find?_eq_some h;have h2:=List.find?_some h;refine⟨List.mem_range.1 j,?_,h2⟩;unfold De at h2;simp only[Bool.and_eq_true,Bool.not_eq_true']at h2;intro l
 have:=h2.1.1
 rw[List.contains_iff_mem.2 l]at this;cases this
theorem AcH (g:List N3):∀ (f:Nat) (told:List Nat),told.Nodup->(∀i∈told,i<g.length)->(Fg g f told).Nodup/\∀i∈Fg g f told,i<g.length
 |0,told,h1,h2=>⟨h1,h2⟩
 |f+1,told,h1,h2=>by
  unfold Fg
  cases m:Hy g told with
  |none=>exact⟨h1,h2⟩
  |some i=>
   obtain⟨a,b,_⟩:=Rx m;refine AcH g f (told++ [i]) ?_ (λj l=>?_)
   ·rw[List.nodup_append];refine⟨h1,by simp,λx p y hy=>?_⟩;rw[List.mem_singleton]at hy;subst hy;exact λe=>b (e▸p)
   rcases List.mem_append.1 l with l|l
   ·exact h2 j l
   rw[List.mem_singleton]at l;omega
theorem Ge (g:List N3):(Aw g).Nodup/\∀i∈Aw g,i<g.length:=AcH g g.length [] List.nodup_nil (λi hi=>by cases hi)
theorem AbF (g:List N3):∀ (f:Nat) (told:List Nat),∃r,Fg g f told=told++r
 |0,told=>⟨[],by simp[Fg]⟩
 |f+1,told=>by
  unfold Fg
  cases l:Hy g told with
  |none=>exact⟨[],by simp⟩
  |some i=>
   obtain⟨r,j⟩:=AbF g f (told++ [i])
   exact⟨i::r,by simp only;rw[j];simp⟩
def Told (g:List N3) (l:List Nat):Prop:=∀ k i,l[k]?=some i->De g (l.take k) i=true
theorem Xs (g:List N3):∀ (f:Nat) (told:List Nat),Told g told->Told g (Fg g f told)
 |0,told,h=>h
 |f+1,told,h=>by
  unfold Fg
  cases q:Hy g told with
  |none=>exact h
  |some i=>
   refine Xs g f (told++ [i]) (λk j l=>?_)
   by_cases m:k<told.length
   ·rw[List.getElem?_append_left m]at l;rw[List.take_append_of_le_length (by omega)];exact h k j l
   by_cases p:k=told.length
   ·subst p;rw[List.getElem?_append_right (Nat.le_refl _),Nat.sub_self]at l;injection l with l;subst l;rw[List.take_append_of_le_length (Nat.le_refl _),List.take_length]
    exact(Rx q).2.2
   rw[List.getElem?_eq_none (by simp;omega)]at l;cases l
theorem Aaj (g:List N3):Told g (Aw g):=Xs g g.length [] (λk i j=>by simp at j)
theorem Acn (g:List N3) (h:∀ k,k<g.length->De g (List.range k) k=true):∀ (f k:Nat),f+k=g.length->Fg g f (List.range k)=List.range g.length
 |0,k,hk=>by unfold Fg;rw[show k=g.length by omega]
 |f+1,k,hk=>by
  have j:k<g.length:=by omega
  have m:Hy g (List.range k)=some k:=by
   unfold Hy;rw[show List.range g.length=List.range k++(List.range (g.length-k)).map (k+ ·) by rw[<-List.range_add];congr 1;omega,List.find?_append]
   have l:(List.range k).find? (De g (List.range k))=none:=by
    rw[List.find?_eq_none];intro i hi;unfold De;rw[List.contains_iff_mem.2 hi]
    simp
   rw[l]
   have h2:g.length-k=(g.length-k-1)+1:=by omega
   rw[h2,List.range_succ_eq_map];simp[h k j]
  unfold Fg;rw[m];simp only;rw[show List.range k++ [k]=List.range (k+1) from(List.range_succ).symm];exact Acn g h f (k+1) (by omega)
theorem Amu (g:List N3) (h:∀ k,k<g.length->De g (List.range k) k=true):Aw g=List.range g.length:=Acn g h g.length 0 rfl
end Go.Proofs.YtmidbhnhcbpneaaGreatDoor.Top
end
