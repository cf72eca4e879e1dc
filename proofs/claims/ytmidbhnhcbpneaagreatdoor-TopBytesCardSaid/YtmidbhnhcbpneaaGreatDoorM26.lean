/- A part of the proof. -/
import Derived.Test.YtmidbhnhcbpneaaGreatDoorM2
set_option linter.unusedVariables false
set_option linter.unusedSimpArgs false
set_option maxRecDepth 8000
set_option maxHeartbeats 8000000
section
namespace Go.Mir
open Go.RowKit Go.Lt
structure Ren where
 b:Nat->Nat
 size:Nat->Nat
 k:Nat->Nat
 z:Nat->Nat
structure Ext (β:Ren) (n:Nat) (β':Ren):Prop where
 b:∀ i,i<n->β'.b i=β.b i
 size:∀ i,i<n->β'.size i=β.size i
 k:∀ i,i<n->β'.k i=β.k i
 z:∀ i,i<n->β'.z i=β.z i
theorem Ext.refl (β:Ren) (n:Nat):Ext β n β:=⟨λ_ _=>rfl,λ_ _=>rfl,λ_ _=>rfl,λ_ _=>rfl⟩
theorem Ext.trans {β β' β'':Ren} {n m:Nat} (h:Ext β n β') (h':Ext β' m β'') (hn:n<=m):Ext β n β'':=
 ⟨λi hi=>(h'.b i (by omega)).trans (h.b i hi),λi hi=>(h'.size i (by omega)).trans (h.size i hi),λi hi=>(h'.k i (by omega)).trans (h.k i hi),λi hi=>(h'.z i (by omega)).trans (h.z i hi)⟩
inductive VR (β:Ren) (n:Nat):Value->Value->Prop
 |bool (b:Bool):VR β n (.bool b) (.bool b)
 |int (k:IntKind) (x:Int):VR β n (.int k x) (.int k x)
 |float (k:FloatKind) (x:Nat):VR β n (.float k x) (.float k x)
 |string (s:ByteArray):VR β n (.string s) (.string s)
 |nilPtr:VR β n (.pointer none) (.pointer none)
 |ptr (b o:Nat) (h:b<n):VR β n (.pointer (some ⟨b,o,none⟩)) (.pointer (some ⟨β.b b,o,none⟩))
 |nilSlice:VR β n (.slice none 0 0) (.slice none 0 0)
 |slice (b o l c o' c':Nat) (h:b<n) (hc:c<=c') (hs:o'+c'*β.z b<=β.size b) (ho:o'=o∨(l=0/\c=0/\0<β.k b)):
  VR β n (.slice (some ⟨b,o,none⟩) l c) (.slice (some ⟨β.b b,o',none⟩) l c')
 |nilMap:VR β n (.map none) (.map none)
 |map (r:Nat) (h:r<n):VR β n (.map (some r)) (.map (some (β.b r)))
 |nilFunc:VR β n .nilFunc .nilFunc
 |yield (l:Nat) (h:l<n):VR β n (.func (.yield l) #[] #[]) (.func (.yield (β.b l)) #[] #[])
 |func (fn:FuncId) (fs fs' cs cs':Array Value) (h1:fs'.size=fs.size) (h2:cs'.size=cs.size)
  (h3:∀ (i:Nat) (x y:Value),fs[i]?=some x->fs'[i]?=some y->VR β n x y) (h4:∀ (i:Nat) (x y:Value),cs[i]?=some x->cs'[i]?=some y->VR β n x y):
  VR β n (.func (.func fn) fs cs) (.func (.func fn) fs' cs')
 |nilIface:VR β n .nilIface .nilIface
 |iface (t:TypeId) (v v':Value) (h:VR β n v v'):VR β n (.iface t v) (.iface t v')
 |agg (cs cs':Array Value) (h1:cs'.size=cs.size) (h2:∀ (i:Nat) (x y:Value),cs[i]?=some x->cs'[i]?=some y->VR β n x y):VR β n (.agg cs) (.agg cs')
 |tuple (cs cs':Array Value) (h1:cs'.size=cs.size) (h2:∀ (i:Nat) (x y:Value),cs[i]?=some x->cs'[i]?=some y->VR β n x y):VR β n (.tuple cs) (.tuple cs')
theorem VR.ext {β β':Ren} {n m:Nat} {v v':Value} (h:VR β n v v') (he:Ext β n β') (hn:n<=m):VR β' m v v':=by
 induction h with
 |bool b=>exact .bool b
 |int k x=>exact .int k x
 |float k x=>exact .float k x
 |string s=>exact .string s
 |nilPtr=>exact .nilPtr
 |ptr b o h=>rw[<-he.b b h];exact .ptr b o (by omega)
 |nilSlice=>exact .nilSlice
 |slice b o l c o' c' h hc hs ho=>
  rw[<-he.b b h];exact .slice b o l c o' c' (by omega) hc (by rw[he.z b h,he.size b h];exact hs) (by rw[he.k b h];exact ho)
 |nilMap=>exact .nilMap
 |map r h=>rw[<-he.b r h];exact .map r (by omega)
 |nilFunc=>exact .nilFunc
 |yield l h=>rw[<-he.b l h];exact .yield l (by omega)
 |func B D y p j q h2 I J E F=>exact .func B D y p j q h2 E F
 |nilIface=>exact .nilIface
 |iface t v v' h ih=>exact .iface t v v' ih
 |agg p j q h2 ih=>exact .agg p j q ih
 |tuple p j q h2 ih=>exact .tuple p j q ih
structure VRs (β:Ren) (n:Nat) (cs cs':Array Value):Prop where
 size:cs'.size=cs.size
 at_:∀ (i:Nat) (x y:Value),cs[i]?=some x->cs'[i]?=some y->VR β n x y
theorem VRs.ext {β β':Ren} {n m:Nat} {v v':Array Value} (h:VRs β n v v') (he:Ext β n β') (hn:n<=m):VRs β' m v v':=⟨h.size,λi x y j h2=>(h.at_ i x y j h2).ext he hn⟩
theorem VRs.get {β:Ren} {n:Nat} {cs cs':Array Value} (h:VRs β n cs cs') {i:Nat} {x:Value} (hx:cs[i]?=some x):∃ y,cs'[i]?=some y/\VR β n x y:=by
 have hi:i<cs'.size:=by rw[h.size];exact(Array.getElem?_eq_some_iff.1 hx).1
 exact⟨cs'[i],Array.getElem?_eq_getElem hi,h.at_ i _ _ hx (Array.getElem?_eq_getElem hi)⟩
theorem VRs.none {β:Ren} {n:Nat} {cs cs':Array Value} (h:VRs β n cs cs') {i:Nat} (hx:cs[i]?=none):cs'[i]?=none:=by
 rw[Array.getElem?_eq_none_iff]at*;rw[h.size];exact hx
theorem VRs.empty (β:Ren) (n:Nat):VRs β n #[] #[]:=⟨rfl,λi x y h=>by simp at h⟩
theorem VRs.push {β:Ren} {n:Nat} {cs cs':Array Value} {v v':Value} (h:VRs β n cs cs') (hv:VR β n v v'):VRs β n (cs.push v) (cs'.push v'):=by
 refine⟨by simp[h.size],λi x y j h2=>?_⟩;rw[Array.getElem?_push]at j h2;rw[h.size]at h2
 split at j
 ·rename_i hi
  rw[if_pos hi]at h2
  cases j;cases h2;exact hv
 rename_i hi
 rw[if_neg hi]at h2;exact h.at_ i _ _ j h2
theorem VRs.set {β:Ren} {n:Nat} {cs cs':Array Value} {v v':Value} (h:VRs β n cs cs') (hv:VR β n v v') (j:Nat):VRs β n (cs.setIfInBounds j v) (cs'.setIfInBounds j v'):=by
 refine⟨by simp[h.size],λi x y l h2=>?_⟩;rw[Array.getElem?_setIfInBounds]at l h2;rw[h.size]at h2
 split at l
 ·rename_i hi
  rw[if_pos hi]at h2
  split at l
  ·rename_i hj
   rw[if_pos hj]at h2
   cases l;cases h2;exact hv
  cases l
 rename_i hi
 rw[if_neg hi]at h2;exact h.at_ i _ _ l h2
theorem VRs.append {β:Ren} {n:Nat} {as as' bs bs':Array Value} (h:VRs β n as as') (h':VRs β n bs bs'):VRs β n (as++bs) (as'++bs'):=by
 refine⟨by simp[h.size,h'.size],λi x y j h2=>?_⟩;rw[Array.getElem?_append]at j h2;rw[h.size]at h2
 split at j
 ·rename_i hi
  rw[if_pos hi]at h2;exact h.at_ i _ _ j h2
 rename_i hi
 rw[if_neg hi]at h2;exact h'.at_ _ _ _ j h2
theorem VRs.same {β:Ren} {n:Nat} {cs:Array Value} (h:∀ x∈cs,VR β n x x):VRs β n cs cs:=
 ⟨rfl,λi x y j h2=>by rw[j]at h2;cases h2;exact h x (Array.mem_of_getElem? j)⟩
theorem VRs.extract {β:Ren} {n:Nat} {as as':Array Value} (h:VRs β n as as') (a b:Nat):VRs β n (as.extract a b) (as'.extract a b):=by
 refine⟨by simp[h.size],λi x y j h2=>?_⟩;rw[Array.getElem?_extract]at j h2;rw[h.size]at h2
 split at j
 ·rename_i hi
  rw[if_pos hi]at h2;exact h.at_ _ _ _ j h2
 cases j
theorem VRs.map {β:Ren} {n:Nat} {γ:Type} {xs:Array γ} {f g:γ->Value} (h:∀ x∈xs,VR β n (f x) (g x)):VRs β n (xs.map f) (xs.map g):=by
 refine⟨by simp,λi x y j h2=>?_⟩;rw[Array.getElem?_map]at j h2
 cases l:xs[i]? with
 |none=>rw[l]at j;cases j
 |some u=>
  rw[l]at j h2
  cases j;cases h2
  exact h u (Array.mem_of_getElem? l)
theorem VR.toAgg {β:Ren} {n:Nat} {cs cs':Array Value} (h:VRs β n cs cs'):VR β n (.agg cs) (.agg cs'):= .agg _ _ h.size h.at_
theorem VR.toTuple {β:Ren} {n:Nat} {cs cs':Array Value} (h:VRs β n cs cs'):VR β n (.tuple cs) (.tuple cs'):= .tuple _ _ h.size h.at_
theorem VR.cells {β:Ren} {n:Nat} {v v':Value} (h:VR β n v v'):VRs β n v.cells v'.cells:=by
 have j:∀ {x y:Value},VR β n x y->VRs β n #[x] #[y]:=λ{x y} h=>by simpa using (VRs.empty β n).push h
 cases h with
 |agg q m p h2=>exact⟨p,h2⟩
 |bool b=>exact j (.bool b)
 |int k x=>exact j (.int k x)
 |float k x=>exact j (.float k x)
 |string s=>exact j (.string s)
 |nilPtr=>exact j .nilPtr
 |ptr b o h=>exact j (.ptr b o h)
 |nilSlice=>exact j .nilSlice
 |slice b o l c o' c' h hc hs ho=>exact j (.slice b o l c o' c' h hc hs ho)
 |nilMap=>exact j .nilMap
 |map r h=>exact j (.map r h)
 |nilFunc=>exact j .nilFunc
 |yield l h=>exact j (.yield l h)
 |func B D z q m p h2 E F=>exact j (.func B D z q m p h2 E F)
 |nilIface=>exact j .nilIface
 |iface t v v' h=>exact j (.iface t v v' h)
 |tuple q m p h2=>exact j (.tuple q m p h2)
theorem VR.oneCell {β:Ren} {n:Nat} {v v':Value} (h:VR β n v v'):v'.oneCell'=v.oneCell':=by cases h<;>rfl
def flat:Nat->Value->Bool
 |_,.bool _|_,.int _ _|_,.float _ _|_,.string _|_,.pointer none|_,.slice none 0 0|_,.map none|_,.nilFunc|_,.nilIface=>true
 |n+1,.agg cs=>cs.toList.all (flat n)
 |n+1,.tuple cs=>cs.toList.all (flat n)
 |n+1,.func (.func _) fs cs=>fs.isEmpty&&cs.isEmpty
 |n+1,.iface _ v=>flat n v
 |_,_=>false
theorem Dt {β:Ren} {m:Nat}:∀ (n:Nat) (v:Value),flat n v=true->VR β m v v:=by
 intro n
 induction n with
 |zero=>
  intro v h;unfold flat at h
  split at h<;>first|(cases h;done)|constructor|skip
  all_goals simp_all
 |succ n q=>
  intro v h
  cases v with
  |agg j=>
   have h:j.toList.all (flat n)=true:=h;exact .toAgg (.same λx p=>q x (List.all_eq_true.1 h x (by simpa using p)))
  |tuple j=>
   have h:j.toList.all (flat n)=true:=h;exact .toTuple (.same λx p=>q x (List.all_eq_true.1 h x (by simpa using p)))
  |func r y j=>
   cases r with
   |func f=>
    have h:(y.isEmpty&&j.isEmpty)=true:=h;simp at h;obtain⟨rfl,rfl⟩:=h;exact .func f _ _ _ _ rfl rfl (by simp) (by simp)
   |_=>simp[flat]at h
  |iface t v=>exact .iface _ _ _ (q v h)
  |pointer a=>cases a with
   |none=>exact .nilPtr
   |some a=>simp[flat]at h
  |slice a l c=>cases a with
   |none=>cases l<;>cases c<;>first|exact .nilSlice|(simp[flat]at h)
   |some a=>simp[flat]at h
  |map a=>cases a with
   |none=>exact .nilMap
   |some a=>simp[flat]at h
  |bool b=>exact .bool b
  |int k x=>exact .int k x
  |float k x=>exact .float k x
  |string s=>exact .string s
  |nilFunc=>exact .nilFunc
  |nilIface=>exact .nilIface
  |_=>simp[flat]at h
theorem Kh {β:Ren} {m:Nat}:∀ (n:Nat) (v v':Value),flat n v=true->VR β m v v'->v'=v:=by
 intro n
 induction n with
 |zero=>
  intro v v' h r
  cases r<;>first|rfl|(simp[flat]at h)
 |succ n x=>
  intro v v' h r
  cases r with
  |agg p q l h2=>
   have h:p.toList.all (flat n)=true:=h
   congr 1
   refine Array.ext l λi hi j=>?_;exact x _ _ (List.all_eq_true.1 h _ (by simp)) (h2 i _ _ (Array.getElem?_eq_getElem j) (Array.getElem?_eq_getElem hi))
  |tuple p q l h2=>
   have h:p.toList.all (flat n)=true:=h
   congr 1
   refine Array.ext l λi hi j=>?_;exact x _ _ (List.all_eq_true.1 h _ (by simp)) (h2 i _ _ (Array.getElem?_eq_getElem j) (Array.getElem?_eq_getElem hi))
  |func B y z p q l h2 D E=>
   have h:(y.isEmpty&&p.isEmpty)=true:=h;simp at h;obtain⟨rfl,rfl⟩:=h;simp at l h2;rw[l,h2]
  |iface t v v' r=>rw[x _ _ h r]
  |_=>first|rfl|(simp[flat]at h)
def BR (P:Program) (β:Ren) (n i:Nat) (wB:World):Obj->Prop
 | .cells c e f=>f=(0,0)/\∃c',wB.heap[β.b i]?=some (.cells c' e (0,0))/\c'.size=β.size i/\c.size<=c'.size/\c.size=β.k i/\P.cellsOf e=β.z i/\∀(j:Nat) (x y:Value),c[j]?=some x->c'[j]?=some y->VR β n x y
 | .map es clk=>∃ es':Array MapEntry,wB.heap[β.b i]?=some (.map es' clk)/\es'.size=es.size/\∀(j:Nat) (x y:MapEntry),es[j]?=some x->es'[j]?=some y->y.key=x.key/\y.born=x.born/\flat 8 x.key=true/\VR β n x.val y.val
 | .loop r=>∃ r':Loop,wB.heap[β.b i]?=some (.loop r')/\r'.state=r.state/\r'.pending=r.pending/\r'.params=r.params/\r'.assign=r.assign/\r'.body=r.body/\r'.tmps.size=r.tmps.size/\∀t:Nat,VR β n (r.tmps.getD t undef) (r'.tmps.getD t undef)
 | .deferred c=>c=some []/\wB.heap[β.b i]?=some (.deferred (some []))
 | .mapIter m _ _ _=>∃ a b c,wB.heap[β.b i]?=some (.mapIter (m.map β.b) a b c)/\∀q,m=some q->q<n
 | .coro none=>True
 |_=>False
def live:Obj->Bool
 | .cells .. | .map .. | .loop _| .deferred _| .mapIter .. =>true
 |_=>false
structure WR (P:Program) (β:Ren) (wA wB:World):Prop where
 rel:∀ (i:Nat) (o:Obj),wA.heap[i]?=some o->BR P β wA.heap.size i wB o
 inj:∀ (i j:Nat) (x y:Obj),wA.heap[i]?=some x->wA.heap[j]?=some y->live x=true->live y=true->β.b i=β.b j->i=j
 tape:wA.tape=λ_ _=>0
theorem BR.ext {P:Program} {β β':Ren} {n m i:Nat} {wB wB':World} {o:Obj} (h:BR P β n i wB o) (he:Ext β n β') (hi:i<n) (hn:n<=m) (hb:∀ x,wB.heap[β.b i]?=some x->wB'.heap[β.b i]?=some x):BR P β' m i wB' o:=by
 unfold BR at*
 cases o with
 |cells c e f=>
  obtain⟨M,c',l,h2,p,D,E,F⟩:=h
  exact⟨M,c',by rw[he.b i hi];exact hb _ l,by rw[he.size i hi];exact h2,p,by rw[he.k i hi];exact D,by rw[he.z i hi];exact E,λj x y J hy=>(F j x y J hy).ext he hn⟩
 |map es clk=>
  obtain⟨B,l,h2,p⟩:=h
  exact⟨B,by rw[he.b i hi];exact hb _ l,h2,λj x y J hy=>by obtain⟨a,b,c,d⟩:=p j x y J hy;exact⟨a,b,c,d.ext he hn⟩⟩
 |loop r=>
  obtain⟨R,l,h2,p,D,E,F,I,N⟩:=h
  exact⟨R,by rw[he.b i hi];exact hb _ l,h2,p,D,E,F,I,λt=>(N t).ext he hn⟩
 |deferred c=>exact⟨h.1,by rw[he.b i hi];exact hb _ h.2⟩
 |mapIter m x y z=>
  obtain⟨a,b,c,l,h2⟩:=h;refine⟨a,b,c,?_,λq O=>Nat.lt_of_lt_of_le (h2 q O) hn⟩;rw[he.b i hi];refine(hb _ l).trans ?_
  cases m with
  |none=>rfl
  |some q=>rw[Option.map_some,Option.map_some,he.b q (h2 q rfl)]
 |_=>first|exact h|(split at h<;>simp_all)
section
variable {P:Program} {α α' γ γ':Type}
def St (w w':World):Prop:=w'.os=w.os/\w'.tape=w.tape/\w'.output=w.output
theorem St.refl (w:World):St w w:=⟨rfl,rfl,rfl⟩
theorem St.trans {a b c:World} (h:St a b) (k:St b c):St a c:=⟨k.1.trans h.1,k.2.1.trans h.2.1,k.2.2.trans h.2.2⟩
structure Fr (β:Ren) (wA wB:World) (β':Ren) (wA' wB':World):Prop where
 keep:∀ j:Nat,j<wB.heap.size->(∀(i:Nat) (o:Obj),wA.heap[i]?=some o->live o=true->β.b i≠j)->wB'.heap[j]?=wB.heap[j]?
 src:∀ (i:Nat) (o:Obj),wA'.heap[i]?=some o->live o=true->wB.heap.size<=β'.b i∨∃(i0:Nat) (o0:Obj),wA.heap[i0]?=some o0/\live o0=true/\β.b i0=β'.b i
 size:wB.heap.size<=wB'.heap.size
 st:St wB wB'
theorem Fr.refl (β:Ren) (wA wB:World):Fr β wA wB β wA wB:=⟨λ_ _ _=>rfl,λi o h j=> .inr ⟨i,o,h,j,rfl⟩,Nl _,.refl _⟩
theorem Fr.trans {β β1 β2:Ren} {wA wA1 wA2 wB wB1 wB2:World} (h:Fr β wA wB β1 wA1 wB1) (k:Fr β1 wA1 wB1 β2 wA2 wB2):Fr β wA wB β2 wA2 wB2:=by
 refine⟨λj y z=>?_,λi o hi p=>?_,Nat.le_trans h.size k.size,h.st.trans k.st⟩
 ·rw[k.keep j (Nat.lt_of_lt_of_le y h.size) (λi o hi p e=>?_),h.keep j y z]
  rcases h.src i o hi p with l|⟨q,r,l,h2,m⟩
  ·omega
  exact z q r l h2 (m.trans e)
 rcases k.src i o hi p with l|⟨q,r,l,h2,m⟩
 ·exact .inl (Nat.le_trans h.size l)
 rcases h.src q r l h2 with x|⟨E,F,x,B,D⟩
 ·exact .inl (by omega)
 exact .inr ⟨E,F,x,B,D.trans m⟩
def Sim (P:Program) (R:Ren->Nat->α->α'->Prop) (β:Ren) (wA wB:World) (eA:Sem α) (eB:Sem α'):Prop:=
 WR P β wA wB->∀v wA',eA.run P wA= .ok v wA'->∃β' v' wB',eB.run P wB= .ok v' wB'/\Ext β wA.heap.size β'/\wA.heap.size<=wA'.heap.size/\WR P β' wA' wB'/\Fr β wA wB β' wA' wB'/\R β' wA'.heap.size v v'
def EqR:Ren->Nat->α->α->Prop:=λ_ _ a b=>a=b
theorem Sim.bind {R:Ren->Nat->α->α'->Prop} {R':Ren->Nat->γ->γ'->Prop} {β:Ren} {wA wB:World} {eA:Sem α} {eB:Sem α'} {fA:α->Sem γ} {fB:α'->Sem γ'} (h:Sim P R β wA wB eA eB)
  (hf:∀ β' wA' wB' v v',Ext β wA.heap.size β'->wA.heap.size<=wA'.heap.size->R β' wA'.heap.size v v'->Sim P R' β' wA' wB' (fA v) (fB v')):Sim P R' β wA wB (eA >>= fA) (eB >>= fB):=by
 intro E u m j;rw[Sem.run_bind]at j
 cases l:eA.run P wA with
 |halt x w=>rw[l]at j;cases j
 |ok v wA1=>
  rw[l]at j;obtain⟨β1,v',p,y,h2,r,z,D,B⟩:=h E v wA1 l;obtain⟨β2,O,q,F,I,S,J,N,M⟩:=hf β1 wA1 p v v' h2 r B z u m j
  exact⟨β2,O,q,by rw[Sem.run_bind,y];exact F,h2.trans I r,by omega,J,D.trans N,M⟩
theorem Sim.pure {R:Ren->Nat->α->α'->Prop} {β:Ren} {wA wB:World} {a:α} {b:α'} (h:R β wA.heap.size a b):Sim P R β wA wB (Pure.pure a) (Pure.pure b):=by
 intro j v m l;cases l
 exact⟨β,b,wB,rfl,.refl _ _,Nl _,j,.refl _ _ _,h⟩
theorem Sim.halt {R:Ren->Nat->α->α'->Prop} {β:Ren} {wA wB:World} {eA:Sem α} {eB:Sem α'} (h:∀ v w,eA.run P wA≠ .ok v w):Sim P R β wA wB eA eB:=λ_ v w j=>absurd j (h v w)
theorem Sim.stuck {R:Ren->Nat->α->α'->Prop} {β:Ren} {wA wB:World} {s:String} {eB:Sem α'}:Sim P R β wA wB (stuck s) eB:=Sim.halt λv w h=>by cases h
theorem Sim.unsupported {R:Ren->Nat->α->α'->Prop} {β:Ren} {wA wB:World} {s:Unsupported} {eB:Sem α'}:Sim P R β wA wB (unsupported s) eB:=Sim.halt λv w h=>by cases h
def Hx (P:Program) (e:Sem α):Prop:=∀ w v w',e.run P w= .ok v w'->w'=w/\∀x,e.run P x= .ok v x
theorem Sim.still {e:Sem α} (h:Hx P e) {β:Ren} {wA wB:World}:Sim P EqR β wA wB e e:=by
 intro j v m l;obtain⟨rfl,h2⟩:=h _ _ _ l
 exact⟨β,v,wB,h2 wB,.refl _ _,Nl _,j,.refl _ _ _,rfl⟩
theorem Dg (a:α):Hx P (Pure.pure a:Sem α):=λw v j h=>by cases h;exact⟨rfl,λ_=>rfl⟩
theorem Fb {e:Sem α} {f:α->Sem γ} (h:Hx P e) (hf:∀ a,Hx P (f a)):Hx P (e >>= f):=by
 intro w u p j;rw[Sem.run_bind]at j
 cases l:e.run P w with
 |halt x y=>rw[l]at j;cases j
 |ok v w1=>
  rw[l]at j;obtain⟨rfl,h2⟩:=h _ _ _ l;obtain⟨rfl,m⟩:=hf v _ _ _ j
  exact⟨rfl,λx=>by rw[Sem.run_bind,h2 x];exact m x⟩
theorem Ck (s:String):Hx P (stuck s:Sem α):=λw v j h=>by cases h
theorem Nu (s:Unsupported):Hx P (unsupported s:Sem α):=λw v j h=>by cases h
theorem Td:Hx P program:=λw v j h=>by cases h;exact⟨rfl,λ_=>rfl⟩
theorem Mr (t:TypeId):Hx P (typeInfo t):=Fb Td λp=>by
 split
 ·exact Dg _
 exact Ck _
theorem Ay (t:TypeId):Hx P (underlying t):=Fb Td λp=>by
 split
 ·exact Dg _
 exact Ck _
theorem Bo (t:TypeId):Hx P (sizeOf t):=Fb (Mr t) λi=>Dg _
theorem Ie (t:TypeId):Hx P (zeroValue t):=Fb (Mr t) λi=>by
 split
 ·exact Dg _
 exact Nu _
theorem Nv (t:TypeId):Hx P (isAgg t):=Fb (Ay t) λd=>by
 split<;>exact Dg _
theorem Te (v:Value):Hx P (asIntOf v):=by
 unfold asIntOf;split
 ·exact Dg _
 ·exact Nu _
 exact Ck _
theorem Ye (v:Value):Hx P (asInt v):=Fb (Te v) λ_=>Dg _
def Hf (P:Program):Sem α->Option α
 | .pure a=>some a
 | .program k=>Hf P (k P)
 | .mark _ k=>Hf P k
 | .choose q k=>if q.forced then Hf P (k 0) else none
 |_=>none
theorem Xr {e:Sem α}:∀ {v:α},Hf P e=some v->∀w,e.run P w= .ok v w:=by
 induction e with
 |pure a=>intro v h w;cases h;rfl
 |program k ih=>intro v h w;exact ih P h w
 |mark m k ih=>intro v h w;exact ih h w
 |choose q k ih=>
  intro v h w;unfold Hf at h
  split at h
  ·rename_i hq
   simp only[Sem.run,hq,if_true];exact ih 0 h w
  cases h
 |_=>intro v h;cases h
end
section
variable {P:Program} {β:Ren} {wA wB:World}
theorem Sim.load {b o:Nat} {p':Addr} (hb:b<wA.heap.size) (hp:p'=⟨β.b b,o,none⟩):Sim P VR β wA wB (load ⟨b,o,none⟩) (load p'):=by
 subst hp;intro r v B p;rw[run_load]at p;obtain⟨ob,l⟩:∃ ob,wA.heap[b]?=some ob:=⟨_,Array.getElem?_eq_getElem hb⟩;have hrel:=r.rel b ob l
 cases ob with
 |cells c e f=>
  obtain⟨D,c',z,h2,E,F,I,h⟩:=hrel
  have j:wA.cell? ⟨b,o,none⟩=c[o]?:=by simp[World.cell?,l]
  have m:wB.cell? ⟨β.b b,o,none⟩=c'[o]?:=by simp[World.cell?,z]
  rw[j]at p
  cases q:c[o]? with
  |none=>rw[q]at p;simp[World.farLoad,l]at p
  |some x=>
   rw[q]at p;simp only[Result.ok.injEq]at p;obtain⟨rfl,rfl⟩:=p
   have y:o<c'.size:=by have:=(Array.getElem?_eq_some_iff.1 q).1;omega
   refine⟨β,c'[o],wB,?_,.refl _ _,Nl _,r,.refl _ _ _,h o _ _ q (Array.getElem?_eq_getElem y)⟩;rw[run_load,m,Array.getElem?_eq_getElem y]
 |view a t=>exact absurd hrel (by simp[BR])
 |_=>
  have j:wA.cell? ⟨b,o,none⟩=none:=by simp[World.cell?,l]
  rw[j]at p;simp[World.farLoad,l]at p
theorem Dk (w:World) (p:Addr) (v:Value) (j:Nat):(w.setCell p v).heap[j]?=if p.block=j then(w.heap[j]?).map (λo=>match o with| .cells c e f=> .cells (if p.spot.isSome then c else c.setIfInBounds p.off v) e f|o=>o) else w.heap[j]?:=by
 unfold World.setCell;simp only[Array.getElem?_modify]
 congr 2
theorem Sim.store {b o:Nat} {p':Addr} {v v':Value} (hb:b<wA.heap.size) (hp:p'=⟨β.b b,o,none⟩) (hv:VR β wA.heap.size v v'):Sim P EqR β wA wB (store ⟨b,o,none⟩ v) (store p' v'):=by
 subst hp;intro F u aA p
 have E:v.oneCell'=true:=by
  cases v<;>first|rfl|(simp[Go.store,Sem.run]at p)
 rw[run_store P wA _ v _ E]at p;obtain⟨ob,l⟩:∃ ob,wA.heap[b]?=some ob:=⟨_,Array.getElem?_eq_getElem hb⟩;have hrel:=F.rel b ob l
 cases ob with
 |cells c e f=>
  obtain⟨rfl,c',J,h2,h3,h4,h5,h6⟩:=hrel
  have m:wA.cell? ⟨b,o,none⟩=c[o]?:=by simp[World.cell?,l]
  have B:wB.cell? ⟨β.b b,o,none⟩=c'[o]?:=by simp[World.cell?,J]
  have N:wA.frozen? ⟨b,o,none⟩=false:=by simp[World.frozen?,l]
  have I:wB.frozen? ⟨β.b b,o,none⟩=false:=by simp[World.frozen?,J]
  rw[m]at p
  cases q:c[o]? with
  |none=>rw[q]at p;simp[World.farStore,l]at p
  |some x=>
   rw[q]at p;simp only[N,Bool.false_eq_true,if_false,Result.ok.injEq,true_and]at p;subst p
   have ho:o<c'.size:=by have:=(Array.getElem?_eq_some_iff.1 q).1;omega
   refine⟨β,(),wB.setCell ⟨β.b b,o,none⟩ v',?_,.refl _ _,by simp[World.setCell],?_,?_,rfl⟩
   ·rw[run_store P wB _ v' _ (by rw[hv.oneCell];exact E),B,Array.getElem?_eq_getElem ho];simp[I]
   ·have Y:(wA.setCell ⟨b,o,none⟩ v).heap.size=wA.heap.size:=by simp[World.setCell]
    have h:∀ (j:Nat) (y:Obj),(wA.setCell ⟨b,o,none⟩ v).heap[j]?=some y->∃z:Obj,wA.heap[j]?=some z/\live z=live y:=by
     intro j y hy;rw[Dk]at hy
     split at hy
     ·rename_i r
      simp only at r;subst r;rw[l]at hy;simp at hy
      exact⟨_,l,by rw[<-hy];rfl⟩
     exact⟨y,hy,rfl⟩
    refine⟨λi y hy=>?_,λi j x y q hy S D M=>?_,F.tape⟩
    ·rw[Y];rw[Dk]at hy
     split at hy
     ·rename_i r
      simp only at r;subst r;rw[l]at hy;simp only[Option.map_some,Option.isSome_none,Bool.false_eq_true,if_false,Option.some.injEq]at hy;subst hy;refine⟨rfl,c'.setIfInBounds o v',?_,by simp[h2],by simp[h3],by simp[h4],h5,λj x y q hy=>?_⟩
      ·rw[Dk,if_pos rfl,J]
       simp
      rw[Array.getElem?_setIfInBounds]at q hy
      by_cases e:o=j
      ·have X:o<c.size:=(Array.getElem?_eq_some_iff.1 ‹c[o]?=some _›).1;rw[if_pos e,if_pos X]at q;rw[if_pos e,if_pos ho]at hy;cases q;cases hy;exact hv
      rw[if_neg e]at q hy;exact h6 j x y q hy
     rename_i r
     simp only at r;have p:=F.rel i y hy
     by_cases D:live y=true
     ·have U:β.b b≠β.b i:=λe=>r (F.inj b i _ _ l hy rfl D e);refine p.ext (.refl _ _) (Array.getElem?_eq_some_iff.1 hy).1 (Nl _) λx q=>?_;rw[Dk,if_neg (by simpa using U)];exact q
     cases y<;>first|(simp[live]at D;done)|(simp only[BR]at p ⊢;(try (split at p<;>simp_all)))
    obtain⟨x0,Z,O⟩:=h i x q;obtain⟨y0,A,R⟩:=h j y hy;exact F.inj i j x0 y0 Z A (by rw[O];exact S) (by rw[R];exact D) M
   refine⟨λj r hn=>?_,λi o2 hi hl=>?_,by simp[World.setCell],⟨rfl,rfl,rfl⟩⟩
   ·rw[Dk,if_neg (hn b _ l rfl)]
   rw[Dk]at hi
   split at hi
   ·rename_i r
    simp only at r;subst r;exact .inr ⟨b,_,l,rfl,rfl⟩
   exact .inr ⟨i,o2,hi,hl,rfl⟩
 |view a t=>exact absurd hrel (by simp[BR])
 |_=>
  have m:wA.cell? ⟨b,o,none⟩=none:=by simp[World.cell?,l]
  rw[m]at p;simp[World.farStore,l]at p
def Ren.more (β:Ren) (i b size k z:Nat):Ren:=⟨λj=>if j=i then b else β.b j,λj=>if j=i then size else β.size j,λj=>if j=i then k else β.k j,λj=>if j=i then z else β.z j⟩
theorem Ren.ext_more (β:Ren) (i b size k z:Nat):Ext β i (β.more i b size k z):=
 ⟨λj l=>if_neg (by omega),λj l=>if_neg (by omega),λj l=>if_neg (by omega),λj l=>if_neg (by omega)⟩
theorem Bz {α:Type} {xs:Array α} {i:Nat} {x y:α} (h:(xs.push x)[i]?=some y):(i=xs.size/\y=x)∨xs[i]?=some y:=by
 rw[Array.getElem?_push]at h
 split at h
 ·rename_i hi;cases h;exact .inl ⟨hi,rfl⟩
 exact .inr h
theorem WR.more {o:Obj} {wB':World} {b size k z:Nat} (hW:WR P β wA wB) (hb:∀ j x,wB.heap[j]?=some x->(∃i y,wA.heap[i]?=some y/\live y=true/\β.b i=j)->wB'.heap[j]?=some x)
  (hnew:∀ i y,wA.heap[i]?=some y->live y=true->β.b i≠b) (ho:BR P (β.more wA.heap.size b size k z) (wA.heap.size+1) wA.heap.size wB' o):
  WR P (β.more wA.heap.size b size k z) {wA with heap:=wA.heap.push o} wB':=by
 have l:∀ i,i<wA.heap.size->(β.more wA.heap.size b size k z).b i=β.b i:=λi hi=>if_neg (by omega);have q:(β.more wA.heap.size b size k z).b wA.heap.size=b:=if_pos rfl;refine⟨λi y hy=>?_,λi j x y F hy B p m=>?_,hW.tape⟩
 ·simp only[Array.size_push]
  rcases Bz hy with⟨rfl,rfl⟩|hy
  ·exact ho
  have hi:=(Array.getElem?_eq_some_iff.1 hy).1;have E:=hW.rel i y hy
  by_cases p:live y=true
  ·exact E.ext (Ren.ext_more _ _ _ _ _ _) hi (by omega) λx F=>hb _ x F ⟨i,y,hy,p,rfl⟩
  cases y<;>first|(simp[live]at p;done)|(simp only[BR]at E ⊢;(try (split at E<;>simp_all)))
 rcases Bz F with⟨I,M⟩|r<;>rcases Bz hy with⟨J,N⟩|h
 ·rw[I,J]
 ·have D:j<wA.heap.size:=(Array.getElem?_eq_some_iff.1 h).1;rw[I,q,l j D]at m;exact absurd m.symm (hnew j y h p)
 ·have hi:i<wA.heap.size:=(Array.getElem?_eq_some_iff.1 r).1;rw[J,q,l i hi]at m;exact absurd m (hnew i x r B)
 have D:j<wA.heap.size:=(Array.getElem?_eq_some_iff.1 h).1;have hi:i<wA.heap.size:=(Array.getElem?_eq_some_iff.1 r).1;rw[l i hi,l j D]at m;exact hW.inj i j x y r h B p m
theorem WR.there (hW:WR P β wA wB) {i:Nat} {y:Obj} (hy:wA.heap[i]?=some y) (hl:live y=true):β.b i<wB.heap.size:=by
 have l:=hW.rel i y hy
 cases y with
 |cells c e f=>obtain⟨_,c',j,_⟩:=l;exact(Array.getElem?_eq_some_iff.1 j).1
 |map es clk=>obtain⟨p,j,_⟩:=l;exact(Array.getElem?_eq_some_iff.1 j).1
 |loop r=>obtain⟨q,j,_⟩:=l;exact(Array.getElem?_eq_some_iff.1 j).1
 |deferred c=>exact(Array.getElem?_eq_some_iff.1 l.2).1
 |mapIter m x y z=>obtain⟨a,b,c,j,_⟩:=l;exact(Array.getElem?_eq_some_iff.1 j).1
 |_=>simp[live]at hl
theorem Zg (oA oB:Obj) (size:Nat) (kz:Nat×Nat):Fr β wA wB (β.more wA.heap.size wB.heap.size size kz.1 kz.2) {wA with heap:=wA.heap.push oA} {wB with heap:=wB.heap.push oB}:=by
 refine⟨λj m _=>?_,λi o hi l=>?_,by simp,⟨rfl,rfl,rfl⟩⟩
 ·simp only[Array.getElem?_push];rw[if_neg (by omega)]
 rcases Bz hi with⟨rfl,rfl⟩|hi
 ·exact .inl (by simp[Ren.more])
 have:i<wA.heap.size:=(Array.getElem?_eq_some_iff.1 hi).1
 exact .inr ⟨i,o,hi,l,by simp[Ren.more,show i≠wA.heap.size by omega]⟩
theorem Sim.newRow {c c':Array Value} {e:TypeId} (h:VRs β wA.heap.size c c'):
  Sim P (λβ n a a'=>a=⟨wA.heap.size,0,none⟩/\a'=⟨β.b wA.heap.size,0,none⟩/\wA.heap.size<n/\β.size wA.heap.size=c.size/\β.k wA.heap.size=c.size/\β.z wA.heap.size=P.cellsOf e) β wA wB (Go.newRow e c) (Go.newRow e c'):=by
 intro m v B p;have q:(Go.newRow e c).run P wA= .ok ⟨wA.heap.size,0,none⟩ {wA with heap:=wA.heap.push (.cells c e)}:=rfl;rw[q]at p;cases p;refine⟨β.more wA.heap.size wB.heap.size c'.size c.size (P.cellsOf e),⟨wB.heap.size,0,none⟩,{wB with heap:=wB.heap.push (.cells c' e)},rfl,Ren.ext_more _ _ _ _ _ _,by simp,?_,Zg _ _ _ (_,_),?_⟩
 ·refine m.more (λj x l _=>?_) (λi y hy r=>?_) ⟨rfl,c',?_,by simp[Ren.more],by rw[h.size];exact Nl _,by simp[Ren.more],by simp[Ren.more],λj x y l hy=>?_⟩
  ·have:=(Array.getElem?_eq_some_iff.1 l).1
   simp only[Array.getElem?_push];rw[if_neg (by omega)];exact l
  ·have:=m.there hy r;omega
  ·simp[Ren.more]
  exact(h.at_ j x y l hy).ext (Ren.ext_more _ _ _ _ _ _) (by omega)
 refine⟨rfl,by simp[Ren.more],by simp,by simp[Ren.more,h.size],by simp[Ren.more],by simp[Ren.more]⟩
end
end Go.Mir
end
section
namespace Go.Mir
open Go.RowKit Go.Lt Go.Instr
variable {P:Program} {β:Ren} {wA wB:World}
theorem Ik (b o i:Nat):(⟨b,o,none⟩:Addr).add i=⟨b,o+i,none⟩:=by
 unfold Addr.add;split
 ·rename_i h;simp[h]
 rfl
theorem Sim.still' {α:Type} {e:Sem α} (h:Hx P e):Sim P (λ_ _ a b=>b=a/\∀w,e.run P w= .ok a w) β wA wB e e:=by
 intro j v m l;obtain⟨rfl,h2⟩:=h _ _ _ l
 exact⟨β,v,wB,h2 wB,.refl _ _,Nl _,j,.refl _ _ _,rfl,h2⟩
theorem Sim.loadCellsFrom {b o:Nat}:∀ (n i:Nat) (acc acc':Array Value) (β:Ren) (wA wB:World),b<wA.heap.size->VRs β wA.heap.size acc acc'->
  Sim P VRs β wA wB (loadCellsFrom ⟨b,o,none⟩ i n acc) (loadCellsFrom ⟨β.b b,o,none⟩ i n acc')
 |0,i,acc,acc',β,wA,wB,hb,h=>Sim.pure h
 |n+1,i,acc,acc',β,wA,wB,hb,h=>by
  unfold Go.loadCellsFrom;rw[Ik,Ik];refine Sim.bind (Sim.load hb rfl) λβ' wA' wB' v v' he hs hv=>?_;rw[show β.b b=β'.b b from(he.b b hb).symm];exact Sim.loadCellsFrom n (i+1) _ _ β' wA' wB' (by omega) ((h.ext he hs).push hv)
theorem Sim.loadCells {b o:Nat} (n:Nat) (hb:b<wA.heap.size):Sim P VRs β wA wB (loadCells ⟨b,o,none⟩ n) (loadCells ⟨β.b b,o,none⟩ n):=Sim.loadCellsFrom n 0 _ _ β wA wB hb (.empty _ _)
theorem Sim.loadVar {b o:Nat} (t:TypeId) (hb:b<wA.heap.size):Sim P VR β wA wB (loadVar t ⟨b,o,none⟩) (loadVar t ⟨β.b b,o,none⟩):=by
 unfold Go.loadVar;refine Sim.bind (Sim.still (Nv t)) λβ1 wA1 wB1 v v' he hs hv=>?_;cases hv;rw[show β.b b=β1.b b from(he.b b hb).symm];cases v
 ·exact Sim.load (by omega) rfl
 refine Sim.bind (Sim.still (Bo t)) λβ2 wA2 wB2 n n' he2 hs2 hn=>?_;cases hn;rw[show β1.b b=β2.b b from(he2.b b (by omega)).symm];refine Sim.bind (Sim.loadCells n (by omega)) λβ3 wA3 wB3 c c' he3 hs3 hc=>?_;exact Sim.pure (.toAgg hc)
theorem Sim.loadAt {v v':Value} (t:TypeId) (h:VR β wA.heap.size v v'):Sim P VR β wA wB (loadAt t v) (loadAt t v'):=by
 cases h with
 |ptr b o hb=>exact Sim.loadVar t hb
 |_=>exact Sim.stuck
theorem Sim.storeCells {b o:Nat}:∀ (l l':List Value) (i:Nat) (β:Ren) (wA wB:World),b<wA.heap.size->VRs β wA.heap.size l.toArray l'.toArray->
  Sim P EqR β wA wB (storeCells ⟨b,o,none⟩ l i) (storeCells ⟨β.b b,o,none⟩ l' i)
 | [],l',i,β,wA,wB,hb,h=>by
  have:l'= []:=by have:=h.size;simpa using this
  subst this;exact Sim.pure rfl
 |v::l,[],i,β,wA,wB,hb,h=>by have:=h.size;simp at this
 |v::l,v'::l',i,β,wA,wB,hb,h=>by
  unfold Go.storeCells;rw[Ik,Ik];refine Sim.bind (Sim.store hb rfl (h.at_ 0 v v' (by simp) (by simp))) λβ' wA' wB' u u' he hs hu=>?_;rw[show β.b b=β'.b b from(he.b b hb).symm];refine Sim.storeCells l l' (i+1) β' wA' wB' (by omega) (VRs.ext ⟨?_,λj x y m hy=>h.at_ (j+1) x y (by simpa using m) (by simpa using hy)⟩ he hs)
  have:=h.size
  simpa using this
theorem Sim.storeVar {b o:Nat} {v v':Value} (t:TypeId) (hb:b<wA.heap.size) (h:VR β wA.heap.size v v'):Sim P EqR β wA wB (storeVar t ⟨b,o,none⟩ v) (storeVar t ⟨β.b b,o,none⟩ v'):=by
 unfold Go.storeVar;refine Sim.bind (Sim.still (Bo t)) λβ1 wA1 wB1 n n' he hs hn=>?_;cases hn;rw[show β.b b=β1.b b from(he.b b hb).symm];have j:=h.cells.ext he hs;rw[j.size];split
 ·exact Sim.stuck
 exact Sim.storeCells _ _ 0 β1 wA1 wB1 (by omega) (by simpa using j)
theorem Sim.storeAt {v v' u u':Value} (t:TypeId) (h:VR β wA.heap.size v v') (hu:VR β wA.heap.size u u'):Sim P EqR β wA wB (storeAt t v u) (storeAt t v' u'):=by
 cases h with
 |ptr b o hb=>exact Sim.storeVar t hb hu
 |_=>exact Sim.stuck
theorem Fu {t:TypeId} {n:Nat} {w w':World} (h:(sizeOf t).run P w= .ok n w'):n=P.cellsOf t:=by
 unfold Go.sizeOf typeInfo at h;simp only[Sem.run_bind,run_program,Result.andThen_ok]at h;unfold Program.cellsOf
 cases hi:P.info? t with
 |none=>simp[hi]at h
 |some i=>simp[hi]at h;simp[h.1]
theorem Es {t:TypeId} {d:TypeDesc} {w w':World} (h:(underlying t).run P w= .ok d w'):P.underlying t=some d:=by
 unfold Go.underlying at h;simp only[Sem.run_bind,run_program,Result.andThen_ok]at h
 cases hi:P.underlying t with
 |none=>simp[hi]at h
 |some i=>simp[hi]at h;simp[h.1]
def Zr (P:Program) (s:TypeId) (f:Nat):Bool:=
 match P.underlying s with
 |some (.struct fs)=>match fs[f]? with
  |some x=>P.cellsOf x.type != 0
  |none=>false
 |_=>false
theorem Sim.fieldAt {v v':Value} (s:TypeId) (f:Nat) (hok:Zr P s f=true) (h:VR β wA.heap.size v v'):Sim P VR β wA wB (fieldAt s v f) (fieldAt s v' f):=by
 unfold Instr.fieldAt;refine Sim.bind (Sim.still' (Ay s)) λβ1 wA1 wB1 d d' he hs p=>?_;obtain⟨rfl,p⟩:=p;have z:=Es (p wA);unfold Zr at hok;rw[z]at hok
 cases d' with
 |struct fs=>
  dsimp only at hok ⊢
  cases r:fs[f]? with
  |none=>rw[r]at hok;cases hok
  |some x=>
   rw[r]at hok;dsimp only at hok ⊢;have y:=h.ext he hs
   cases y with
   |ptr b o hb=>
    refine Sim.bind (R:=λβ n a a'=>a=⟨b,o,none⟩/\a'=⟨β.b b,o,none⟩/\b<n) (Sim.pure ⟨rfl,rfl,hb⟩) λβ2 wA2 wB2 a a' he2 hs2 ha=>?_;obtain⟨rfl,rfl,l⟩:=ha;unfold fieldPlace;refine Sim.bind (R:=λβ n a a'=>a=⟨b,o+x.offset,none⟩/\a'=⟨β.b b,o+x.offset,none⟩/\b<n) ?_ λβ4 wA4 wB4 a a' he4 hs4 ha=>?_
    ·refine Sim.bind (Sim.still' (Bo x.type)) λβ3 wA3 wB3 n n' he3 hs3 q=>?_;obtain⟨rfl,q⟩:=q
     have:=Fu (q wA)
     have j:¬ n'=0:=by rw[this];simpa using hok
     rw[if_neg j,if_neg j,Ik,Ik];refine Sim.pure ?_
     exact⟨rfl,by rw[he3.b b l],by omega⟩
    obtain⟨rfl,rfl,m⟩:=ha;exact Sim.pure (.ptr b _ m)
   |_=>exact Sim.stuck
 |_=>exact Sim.stuck
theorem Sim.alloc (t:TypeId) (j:∀ v,(P.info? t).bind (·.zero)=some v->∀β n,VR β n v v):Sim P VR β wA wB (alloc t true (.tuple #[])) (alloc t true (.tuple #[])):=by
 unfold Instr.alloc;refine Sim.bind (Sim.still' (Ie t)) λβ1 wA1 wB1 z z' he hs p=>?_;obtain⟨rfl,p⟩:=p
 have q:(P.info? t).bind (·.zero)=some z':=by
  have:=p wA
  unfold zeroValue typeInfo at this;simp only[Sem.run_bind,run_program,Result.andThen_ok]at this
  cases hi:P.info? t with
  |none=>simp[hi]at this
  |some i=>
   simp only[hi,Sem.run_pure,Result.andThen_ok]at this
   cases j:i.zero with
   |none=>simp[j]at this
   |some u=>simp[j]at this;simp[j,this]
 refine Sim.bind (R:=λβ n a a'=>a=⟨wA1.heap.size,0,none⟩/\a'=⟨β.b wA1.heap.size,0,none⟩/\wA1.heap.size<n) ?_ λβ2 wA2 wB2 a a' he2 hs2 ha=>?_
 ·intro h v w B;obtain⟨β',v',wB',r,h2,l,x,y,m⟩:=Sim.newRow (e:=t) (j z' q β1 wA1.heap.size).cells h v w B
  exact⟨β',v',wB',r,h2,l,x,y,m.1,m.2.1,m.2.2.1⟩
 obtain⟨rfl,rfl,l⟩:=ha;exact Sim.pure (.ptr _ _ l)
theorem Sim.box {v v':Value} (t:TypeId) (h:VR β wA.heap.size v v'):Sim P VR β wA wB (box t v) (box t v'):=by
 unfold Instr.box;refine Sim.bind (R:=λβ n a a'=>a=⟨wA.heap.size,0,none⟩/\a'=⟨β.b wA.heap.size,0,none⟩/\wA.heap.size<n) ?_ λβ2 wA2 wB2 a a' he2 hs2 ha=>?_
 ·intro r v w x;obtain⟨β',v',wB',m,h2,j,p,q,l⟩:=Sim.newRow (e:=t) h.cells r v w x
  exact⟨β',v',wB',m,h2,j,p,q,l.1,l.2.1,l.2.2.1⟩
 obtain⟨rfl,rfl,j⟩:=ha;exact Sim.pure (.ptr _ _ j)
variable {P:Program} {β:Ren} {wA wB:World} {α:Type}
def Rc (P:Program) (e:Sem α):Prop:=∀ w v w',e.run P w≠ .ok v w'
theorem If {γ:Type} {e:Sem α} {f:α->Sem γ} (h:∀ a,Rc P (f a)):Rc P (e >>= f):=by
 intro w v m j;rw[Sem.run_bind]at j
 cases l:e.run P w with
 |halt x y=>rw[l]at j;cases j
 |ok u w1=>rw[l]at j;exact h u _ _ _ j
theorem Ny (v:Value):Rc P (goPanic v:Sem α):=λw v j h=>by cases h
theorem Ee (e:RuntimeError):Rc P (runtimePanic e:Sem α):=by
 unfold runtimePanic;refine If λp=>?_
 cases e<;>dsimp only<;>first|exact Ny _|(refine If λ_=>?_)|skip
 all_goals first|exact Ny _|(refine If λ_=>?_)|skip
 all_goals first|exact Ny _|(refine If λ_=>?_)|skip
theorem Jj (k:IntKind) (x y:Int) (c:BoundsCode):Rc P (boundsPanic k x y c:Sem α):=by
 unfold boundsPanic;dsimp only;split
 ·exact If λs=>Ee _
 exact If λs=>Ee _
theorem Sim.never {α':Type} {R:Ren->Nat->α->α'->Prop} {eA:Sem α} {eB:Sem α'} (h:Rc P eA):Sim P R β wA wB eA eB:=Sim.halt λv w=>h wA v w
def Rz (t:TypeId) (k:IntKind) (i:Int) (base:Option Addr) (len:Nat) (elem:TypeId):Sem Value:=do
 let d <-underlying t
 match base with
  |some a=>
   if 0<=i/\i< ↑len then do
    let n <-sizeOf elem
    pure (Value.pointer (some (a.add (i.toNat*n))))
   else
    if(decide (len<=1)&&match d with
      |TypeDesc.array len elem=>true
      |x=>false)=true then
     unsupported
      (Unsupported.noEntry "op/indexAddr.an index out of range at an array of length 0 or 1 (ledger 616)")
    else boundsPanic k i (↑len) BoundsCode.index
  |none=>boundsPanic k i 0 BoundsCode.index
theorem Sim.idxSome (t:TypeId) (k:IntKind) (i:Int) (b o o' len:Nat) (e:TypeId) (hb:b<wA.heap.size) (ho:o'=o∨len=0):
  Sim P VR β wA wB (Rz t k i (some ⟨b,o,none⟩) len e) (Rz t k i (some ⟨β.b b,o',none⟩) len e):=by
 unfold Rz;refine Sim.bind (Sim.still (Ay t)) λβ5 wA5 wB5 d d' he5 hs5 hd=>?_;cases hd;dsimp only;split
 ·rename_i hi
  refine Sim.bind (Sim.still (Bo e)) λβ6 wA6 wB6 z z' he6 hs6 hz=>?_;cases hz;have j:o'=o:=ho.resolve_right (by omega);subst j;rw[Ik,Ik,show β.b b=β6.b b from by rw[he6.b b (by omega),he5.b b hb]];exact Sim.pure (.ptr b _ (by omega))
 refine Sim.never ?_
 have l:Rc P (Go.unsupported (Unsupported.noEntry "op/indexAddr.an index out of range at an array of length 0 or 1 (ledger 616)"):Sem Value):=λw v m h=>by cases h
 (repeat' split)<;>first|exact l|exact Jj _ _ _ _
theorem Sim.idxNone (t:TypeId) (k:IntKind) (i:Int) (len:Nat) (e:TypeId):Sim P VR β wA wB (Rz t k i none len e) (Rz t k i none len e):=by
 unfold Rz;refine Sim.bind (Sim.still (Ay t)) λβ5 wA5 wB5 d d' he5 hs5 hd=>?_;exact Sim.never (Jj _ _ _ _)
theorem Er (s:String):Rc P (stuck s:Sem α):=λw v j h=>by cases h
theorem Ih {γ:Type} {e:Sem α} {f:α->Sem γ} (h:Rc P e):Rc P (e >>= f):=by
 intro w v m j;rw[Sem.run_bind]at j
 cases l:e.run P w with
 |halt x y=>rw[l]at j;cases j
 |ok u w1=>exact h _ _ _ l
theorem Sim.indexAt {x x' y y':Value} (t:TypeId) (h:VR β wA.heap.size x x') (hi:VR β wA.heap.size y y'):Sim P VR β wA wB (indexAt t x y) (indexAt t x' y'):=by
 unfold Instr.indexAt
 cases hi with
 |int k i=>
  refine Sim.bind (Sim.still (Te _)) λβ1 wA1 wB1 p p' he hs hp=>?_;cases hp;obtain⟨k,i⟩:=p;dsimp only;have j:=h.ext he hs;refine Sim.bind (Sim.still (Ay t)) λβ2 wA2 wB2 d d' he2 hs2 hd=>?_;cases hd;have h2:=j.ext he2 hs2
  cases d with
  |array len e=>
   cases h2 with
   |ptr b o hb=>exact Sim.idxSome t k i b o o len e hb (.inl rfl)
   |_=>exact Sim.never (Ih (Er _))
  |slice e=>
   cases h2 with
   |nilSlice=>exact Sim.idxNone t k i 0 e
   |slice b o l c o' c' hb hc hz ho=>exact Sim.idxSome t k i b o o' l e hb (ho.imp_right (·.1))
   |_=>exact Sim.never (Ih (Er _))
  |_=>exact Sim.never (Ih (Er _))
 |ptr b o hb=>exact Sim.halt λv w h=>by simp[asIntOf,Sem.run_bind]at h
 |_=>exact Sim.halt λv w h=>by simp[asIntOf,Sem.run_bind]at h
theorem Sim.part {c c':Array Value} (t:TypeId) (o:Nat) (h:VRs β wA.heap.size c c'):Sim P VR β wA wB (part t c o) (part t c' o):=by
 unfold Go.part;refine Sim.bind (Sim.still (Nv t)) λβ1 wA1 wB1 v v' he hs j=>?_;cases j;have l:=h.ext he hs;cases v
 ·simp only[Bool.false_eq_true,if_false]
  cases m:c[o]? with
  |none=>exact Sim.stuck
  |some x=>
   obtain⟨y,hy,j⟩:=l.get m;rw[hy];exact Sim.pure j
 simp only[if_true];refine Sim.bind (Sim.still (Bo t)) λβ2 wA2 wB2 n n' he2 hs2 hn=>?_;cases hn;exact Sim.pure (.toAgg ((l.ext he2 hs2).extract _ _))
theorem Sim.field {x x':Value} (t:TypeId) (f:Nat) (h:VR β wA.heap.size x x'):Sim P VR β wA wB (field t x f) (field t x' f):=by
 unfold Instr.field;refine Sim.bind (Sim.still (Ay t)) λβ1 wA1 wB1 d d' he hs hd=>?_;cases hd;have j:=h.ext he hs
 cases d with
 |struct fs=>
  dsimp only
  cases l:fs[f]? with
  |none=>exact Sim.stuck
  |some u=>
   dsimp only
   cases j with
   |agg cs cs' h2 h3=>
    refine Sim.bind (R:=VRs) (Sim.pure ⟨h2,h3⟩) λβ2 wA2 wB2 c c' he2 hs2 hc=>?_;exact Sim.part _ _ hc
   |_=>exact Sim.halt λv w h=>by simp[asAgg,stuck,Sem.run_bind]at h
 |_=>exact Sim.stuck
theorem Sim.extract {x x':Value} (i:Nat) (h:VR β wA.heap.size x x'):Sim P VR β wA wB (extract x i) (extract x' i):=by
 cases h with
 |tuple cs cs' h1 h2=>
  unfold Instr.extract;dsimp only
  cases l:cs[i]? with
  |none=>exact Sim.stuck
  |some y=>
   obtain⟨m,hy,j⟩:=VRs.get ⟨h1,h2⟩ l;rw[hy];exact Sim.pure j
 |_=>exact Sim.stuck
theorem Sim.makeInterface {x x':Value} (t:TypeId) (h:VR β wA.heap.size x x'):Sim P VR β wA wB (makeInterface t x) (makeInterface t x'):=by
 unfold Instr.makeInterface;refine Sim.bind (Sim.still (Ay t)) λβ1 wA1 wB1 d d' he hs hd=>?_;cases hd;have j:=h.ext he hs
 cases d<;>first|exact Sim.stuck|exact Sim.pure (.iface _ _ _ j)
theorem Sim.makeFunc {fs fs' cs cs':Array Value} (fn:FuncId) (h:VRs β wA.heap.size fs fs') (h':VRs β wA.heap.size cs cs'):Sim P VR β wA wB (makeFunc (.func fn) fs cs) (makeFunc (.func fn) fs' cs'):=
 Sim.pure (.func fn _ _ _ _ h.size h'.size h.at_ h'.at_)
theorem Sim.makeMap (t:TypeId):Sim P VR β wA wB (Instr.makeMap t none) (Instr.makeMap t none):=by
 intro m v z p;have q:(Instr.makeMap t none).run P wA= .ok (.map (some wA.heap.size)) {wA with heap:=wA.heap.push (.map #[] 0)}:=rfl;rw[q]at p;cases p;refine⟨β.more wA.heap.size wB.heap.size 0 0 0,.map (some wB.heap.size),{wB with heap:=wB.heap.push (.map #[] 0)},rfl,Ren.ext_more _ _ _ _ _ _,by simp,?_,Zg _ _ _ (_,_),?_⟩
 ·refine m.more (λj x l _=>?_) (λi y hy r=>?_) ⟨#[],?_,rfl,λj x y l hy=>by simp at l⟩
  ·have:=(Array.getElem?_eq_some_iff.1 l).1
   simp only[Array.getElem?_push];rw[if_neg (by omega)];exact l
  ·have:=m.there hy r;omega
  simp[Ren.more]
 have:VR (β.more wA.heap.size wB.heap.size 0 0 0) (wA.heap.size+1) (.map (some wA.heap.size)) (.map (some ((β.more wA.heap.size wB.heap.size 0 0 0).b wA.heap.size))):= .map _ (by omega)
 simpa[Ren.more] using this
variable {P:Program} {β:Ren} {wA wB:World} {α:Type}
theorem Kg {v:Value} {y:Nat} {c:BoundsCode} {w w':World} {n:Nat} (h:(sliceBound v y c).run P w= .ok n w'):w'=w/\n<=y/\∀j c' x,y<=j->(sliceBound v j c').run P x= .ok n x:=by
 unfold sliceBound at h ⊢
 cases v with
 |int k i=>
  simp only[asIntOf,Sem.run_bind,Sem.run_pure,Result.andThen_ok]at h ⊢
  split at h
  ·rename_i hi
   simp only[Sem.run_pure,Result.ok.injEq]at h;obtain⟨rfl,rfl⟩:=h;refine⟨rfl,by omega,λj c' x hy=>?_⟩;rw[if_pos (by omega)];rfl
  exact absurd h (Jj _ _ _ _ _ _ _)
 |pointer a=>cases a<;>simp[asIntOf]at h
 |_=>simp[asIntOf]at h
theorem Qq {len c c':Nat} {lo hi:Option Value} {w w':World} {l h m:Nat} (hr:(sliceBounds true len c lo hi none).run P w= .ok (l,h,m) w') (hlc:len<=c) (hc:c<=c'):
  w'=w/\m=c/\l<=h/\h<=c/\∀x,(sliceBounds true len c' lo hi none).run P x= .ok (l,h,c') x:=by
 unfold sliceBounds at hr ⊢;dsimp only at hr ⊢
 cases hi with
 |none=>
  cases lo with
  |none=>
   simp only[pure_bind,Sem.run_pure,Result.ok.injEq,Prod.mk.injEq]at hr ⊢;obtain⟨⟨rfl,rfl,rfl⟩,rfl⟩:=hr
   exact⟨rfl,rfl,Nat.zero_le _,hlc,λx=>by simp⟩
  |some v=>
   simp only[pure_bind,Sem.run_bind]at hr ⊢
   cases j:(sliceBound v len (if(none:Option Value).isSome=true then BoundsCode.slice3C else BoundsCode.sliceB)).run P w with
   |halt a b=>rw[j]at hr;cases hr
   |ok n w1=>
    rw[j]at hr;simp only[Result.andThen_ok,Sem.run_pure,Result.ok.injEq,Prod.mk.injEq]at hr;obtain⟨⟨rfl,rfl,rfl⟩,rfl⟩:=hr;obtain⟨rfl,q,h2⟩:=Kg j
    exact⟨rfl,rfl,q,hlc,λx=>by rw[h2 _ _ x (Nl _)];rfl⟩
 |some u=>
  simp only[Sem.run_bind,pure_bind]at hr ⊢
  cases j:(sliceBound u c (if True then BoundsCode.sliceAcap else BoundsCode.sliceAlen)).run P w with
  |halt a b=>rw[j]at hr;cases hr
  |ok n w1=>
   rw[j]at hr;obtain⟨rfl,q,h2⟩:=Kg j;simp only[Result.andThen_ok]at hr
   cases lo with
   |none=>
    simp only[pure_bind,Sem.run_pure,Result.ok.injEq,Prod.mk.injEq]at hr ⊢;obtain⟨⟨rfl,rfl,rfl⟩,rfl⟩:=hr
    exact⟨rfl,rfl,Nat.zero_le _,q,λx=>by rw[h2 _ _ x hc];rfl⟩
   |some v=>
    simp only[Sem.run_bind]at hr ⊢
    cases p:(sliceBound v n (if(none:Option Value).isSome=true then BoundsCode.slice3C else BoundsCode.sliceB)).run P w1 with
    |halt a b=>rw[p]at hr;cases hr
    |ok n2 w2=>
     rw[p]at hr;obtain⟨rfl,r,y⟩:=Kg p;simp only[Result.andThen_ok,Sem.run_pure,Result.ok.injEq,Prod.mk.injEq]at hr;obtain⟨⟨rfl,rfl,rfl⟩,rfl⟩:=hr;refine⟨rfl,rfl,r,q,λx=>?_⟩;rw[h2 _ _ x hc];simp only[Result.andThen_ok];rw[y _ _ x (Nl _)];rfl
abbrev at_ (w:World) (i:Nat):Option Obj:=w.heap[i]?
def Abw (P:Program) (h:Nat->Option Obj) (t:TypeId):Value->Bool
 | .slice none 0 0=>match P.underlying t with
  |some (.slice _)=>true
  |_=>false
 | .slice (some a) l c=>match P.underlying t,h a.block with
  |some (.slice e),some (.cells cs e' _)=>(P.cellsOf e==P.cellsOf e')&&(cs.size != 0||c==0)&&decide (l<=c)
  |_,_=>false
 |_=>false
theorem Sim.slice {x x':Value} {lo hi:Option Value} (t:TypeId) (hok:Abw P (at_ wA) t x=true) (h:VR β wA.heap.size x x'):Sim P VR β wA wB (Instr.slice t x lo hi none) (Instr.slice t x' lo hi none):=by
 intro S v aD j;unfold Instr.slice at j ⊢;rw[Sem.run_bind]at j
 cases O:(underlying t).run P wA with
 |halt a b=>rw[O]at j;cases j
 |ok d w1=>
  rw[O]at j;have A:=Es O;obtain⟨rfl,M⟩:=Ay t _ _ _ O;simp only[Result.andThen_ok]at j
  cases h with
  |nilSlice=>
   cases d with
   |slice e=>
    simp only[Sem.run_bind]at j
    cases D:(sliceBounds true 0 0 lo hi none).run P w1 with
    |halt a b=>rw[D]at j;cases j
    |ok q w2=>
     obtain⟨l,h,m⟩:=q;rw[D]at j;obtain⟨rfl,rfl,h1,h2,R⟩:=Qq (c':=0) D (Nl _) (Nl _);simp only[Result.andThen_ok,Sem.run_bind]at j
     cases N:(sizeOf e).run P w2 with
     |halt a b=>rw[N]at j;cases j
     |ok z w3=>
      rw[N]at j;obtain⟨rfl,J⟩:=Bo e _ _ _ N
      have hl:l=0:=by omega
      have hh:h=0:=by omega
      subst hl hh;simp only[Result.andThen_ok,if_true,Sem.run_pure,Result.ok.injEq]at j;obtain⟨rfl,rfl⟩:=j;refine⟨β,.slice none 0 0,wB,?_,.refl _ _,Nl _,S,.refl _ _ _,.nilSlice⟩;rw[Sem.run_bind,M];simp only[Result.andThen_ok,Sem.run_bind,R,J,if_true,Sem.run_pure]
   |_=>exact absurd j (Er _ _ _ _)
  |slice b o l0 c o' c' D hc N ho=>
   unfold Abw at hok;simp only[at_]at hok;rw[A]at hok
   cases d with
   |slice e=>
    cases I:w1.heap[b]? with
    |none=>rw[I]at hok;cases hok
    |some ob=>
     rw[I]at hok
     cases ob with
     |cells cs e' f=>
      simp only[Bool.and_eq_true,beq_iff_eq,Bool.or_eq_true,bne_iff_ne,decide_eq_true_eq]at hok;obtain⟨⟨U,r⟩,Y⟩:=hok;obtain⟨_,aC,g1,g2,g3,g4,g5,g6⟩:=S.rel b _ I;simp only[Sem.run_bind]at j
      cases E:(sliceBounds true l0 c lo hi none).run P w1 with
      |halt a b=>rw[E]at j;cases j
      |ok q w2=>
       obtain⟨l,h,m⟩:=q;rw[E]at j;obtain⟨rfl,rfl,h1,h2,R⟩:=Qq (c':=c') E Y hc;simp only[Result.andThen_ok,Sem.run_bind]at j
       cases y:(sizeOf e).run P w2 with
       |halt a b=>rw[y]at j;cases j
       |ok z w3=>
        rw[y]at j;have aB:=Fu y;obtain⟨rfl,J⟩:=Bo e _ _ _ y
        have aA:z=β.z b:=by rw[aB,U,g5]
        simp only[Result.andThen_ok,Sem.run_pure,Result.ok.injEq]at j;obtain⟨rfl,rfl⟩:=j;refine⟨β,.slice (if c'=l then some ⟨β.b b,o',none⟩ else some ((⟨β.b b,o',none⟩:Addr).add (l*z))) (h-l) (c'-l),wB,?_,.refl _ _,Nl _,S,.refl _ _ _,?_⟩
        ·rw[Sem.run_bind,M];simp only[Result.andThen_ok,Sem.run_bind,R,J,Sem.run_pure,Option.map_some]
        have p:∀ n,n<=c'->o'+n*z+(c'-n)*β.z b<=β.size b:=by
         intro n hn;rw[aA,Nat.add_assoc,<-Nat.add_mul,show n+(c'-n)=c' by omega];exact N
        by_cases F:m=l
        ·subst F;rw[if_pos rfl]
         have X:h-m=0:=by omega
         rw[X,Nat.sub_self]
         have B:∀ o2,(m=0->o2=o')->(o2=o∨((0:Nat)=0/\(0:Nat)=0/\0<β.k b)):=by
          intro o2 h0
          rcases r with r|r
          ·exact .inr ⟨rfl,rfl,by omega⟩
          rw[h0 r];exact ho.imp_right λq=>⟨rfl,rfl,q.2.2⟩
         split
         ·rename_i hcl
          rw[hcl,Nat.sub_self];exact .slice b o 0 0 o' 0 D (Nl _) (by have:=p 0 (Nat.zero_le _);omega) (B _ λ_=>rfl)
         rename_i hcl
         rw[Ik];exact .slice b o 0 0 (o'+m*z) (c'-m) D (Nat.zero_le _) (p m hc) (B _ λh=>by rw[h];simp)
        have Z:o'=o:=ho.resolve_right (λq=>F (by omega));subst Z;rw[if_neg F,if_neg (by omega)];simp only[Option.map_some,Ik];exact .slice b _ _ _ _ _ D (by omega) (p l (by omega)) (.inl rfl)
     |_=>cases hok
   |_=>cases hok
  |_=>simp[Abw]at hok
variable {P:Program} {β:Ren} {wA wB:World} {α:Type}
theorem AbW (n:Nat):Hx P (askRoom n):=λw v j h=>by
 rw[run_askRoom]at h;cases h
 exact⟨rfl,λx=>run_askRoom P x n⟩
def Gu (P:Program) (t:TypeId):Bool:=
 match (P.info? t).bind (·.zero) with
 |some v=>flat 8 v
 |none=>false
theorem Ame {t:TypeId} {v:Value} {w w':World} (h:(zeroValue t).run P w= .ok v w'):(P.info? t).bind (·.zero)=some v:=by
 unfold zeroValue typeInfo at h;simp only[Sem.run_bind,run_program,Result.andThen_ok]at h
 cases hi:P.info? t with
 |none=>simp[hi]at h
 |some i=>
  simp only[hi,Sem.run_pure,Result.andThen_ok]at h
  cases j:i.zero with
  |none=>simp[j]at h
  |some u=>simp[j]at h;simp[j,h]
theorem Ws {t:TypeId} {v:Value} {w w':World} (hok:Gu P t=true) (h:(zeroValue t).run P w= .ok v w') (β:Ren) (n:Nat):VR β n v v:=by
 have:=Ame h
 unfold Gu at hok;rw[this]at hok;exact Dt 8 v hok
theorem Aei {β:Ren} {n:Nat} {zero:Array Value} (h:VRs β n zero zero) (m:Nat):VRs β n ((Array.range m).map (λx=>zero[x%zero.size]!)) ((Array.range m).map (λx=>zero[x%zero.size]!)):=by
 refine VRs.map λx _=>?_
 by_cases j:x%zero.size<zero.size
 ·rw[getElem!_pos zero _ j];exact h.at_ _ _ _ (Array.getElem?_eq_getElem j) (Array.getElem?_eq_getElem j)
 rw[getElem!_neg zero _ j];exact .bool _
theorem Sim.newSlice {c c':Array Value} {e:TypeId} {l m:Nat} (h:VRs β wA.heap.size c c') (hm:m*P.cellsOf e<=c.size):
  Sim P VR β wA wB (Go.newRow e c >>= λa=>Pure.pure (Value.slice (some a) l m)) (Go.newRow e c' >>= λa=>Pure.pure (Value.slice (some a) l m)):=by
 refine Sim.bind (Sim.newRow h) λβ1 wA1 wB1 a a' he hs ha=>?_;obtain⟨rfl,rfl,j,h2,q,p⟩:=ha;exact Sim.pure (.slice _ _ _ _ _ _ j (Nl _) (by rw[p,h2];omega) (.inl rfl))
theorem Sim.makeSlice (t:TypeId) (x y:Int) (k k':IntKind) (hok:∀ e,P.underlying t=some (.slice e)->Gu P e=true):Sim P VR β wA wB (makeSlice t (.int k x) (.int k' y)) (makeSlice t (.int k x) (.int k' y)):=by
 unfold Instr.makeSlice;refine Sim.bind (Sim.still' (Ay t)) λβ1 wA1 wB1 d d' he hs q=>?_;obtain⟨rfl,q⟩:=q;have r:=Es (q wA)
 cases d' with
 |slice e=>
  have h:=hok e r;dsimp only;refine Sim.bind (Sim.still (Ye _)) λβ2 wA2 wB2 l l' he2 hs2 hl=>?_;cases hl;refine Sim.bind (Sim.still (Ye _)) λβ3 wA3 wB3 c c' he3 hs3 hc=>?_;cases hc;refine Sim.bind (Sim.still (Mr _)) λβ4 wA4 wB4 i i' he4 hs4 hi=>?_;cases hi;split
  ·refine Sim.never ?_
   (repeat' split)<;>first|exact Ih (Ee _)|exact If λ_=>Ih (Ee _)
  refine Sim.bind (Sim.still (AbW _)) λβ5 wA5 wB5 u u' he5 hs5 r=>?_;refine Sim.bind (Sim.still' (Bo _)) λβ6 wA6 wB6 z z' he6 hs6 m=>?_;obtain⟨rfl,m⟩:=m;have p:=Fu (m wA);split
  ·simp only[pure_bind];exact Sim.newSlice (Aei (.empty _ _) _) (by simp[p])
  refine Sim.bind (Sim.still' (Ie _)) λβ7 wA7 wB7 v v' he7 hs7 j=>?_;obtain⟨rfl,j⟩:=j;simp only[pure_bind];exact Sim.newSlice (Aei (Ws h (j wA) _ _).cells _) (by simp[p])
 |_=>exact Sim.stuck
theorem Cf {β:Ren} {n:Nat} (off:Nat):∀ (l l':List Value) (k:Nat) (m cs':Array Value),VRs β n m cs'->VRs β n l.toArray l'.toArray->
  VRs β n ((l.zipIdx k).foldl (λm p=>m.setIfInBounds (off+p.2) p.1) m) ((l'.zipIdx k).foldl (λm p=>m.setIfInBounds (off+p.2) p.1) cs')
 | [],l',k,m,cs',h,hl=>by
  have:l'= []:=by have:=hl.size;simpa using this
  subst this;exact h
 |v::l,[],k,m,cs',h,hl=>by have:=hl.size;simp at this
 |v::l,v'::l',k,m,cs',h,hl=>by
  rw[List.zipIdx_cons,List.zipIdx_cons,List.foldl_cons,List.foldl_cons];refine Cf off l l' (k+1) _ _ (h.set (hl.at_ 0 v v' (by simp) (by simp)) _) ⟨?_,λj x y q hy=>hl.at_ (j+1) x y (by simpa using q) (by simpa using hy)⟩
  have:=hl.size
  simpa using this
theorem Abr {β:Ren} {n:Nat} {place:Nat->Option (Nat×Nat)} {ρ ρ':Operand->Value}:∀ (l:List (Nat×Operand)) (j cs' r:Array Value),VRs β n j cs'->(∀p∈l,VR β n (ρ p.2) (ρ' p.2))->
  fill place j (l.map λp=>(p.1,ρ p.2))=some r->∃z,fill place cs' (l.map λp=>(p.1,ρ' p.2))=some z/\VRs β n r z/\r.size=j.size
 | [],j,cs',r,h,hp,hf=>by
  cases hf
  exact⟨cs',rfl,h,rfl⟩
 |p::l,j,cs',r,h,hp,hf=>by
  obtain⟨i,x⟩:=p;rw[List.map_cons]at hf ⊢;unfold fill at hf ⊢;have E:=(hp (i,x) List.mem_cons_self).cells
  cases m:place i with
  |none=>rw[m]at hf;cases hf
  |some q=>
   obtain⟨y,size⟩:=q;rw[m]at hf;dsimp only at hf ⊢;rw[E.size,h.size]
   split at hf
   ·cases hf
   rename_i hc
   rw[if_neg hc];have D:=Cf (β:=β) (n:=n) y (ρ x).cells.toList (ρ' x).cells.toList 0 j cs' h (by simpa using E);rw[<-Array.foldl_toList,Array.toList_zipIdx]at hf ⊢;obtain⟨z,F,h2,I⟩:=Abr l _ _ r D (λp B=>hp p (List.mem_cons_of_mem _ B)) hf;refine⟨z,F,h2,I.trans ?_⟩
   have:∀ (l:List (Value×Nat)) (j:Array Value),(l.foldl (λj p=>j.setIfInBounds (y+p.2) p.1) j).size=j.size:=by
    intro l
    induction l with
    |nil=>intro j;rfl
    |cons p l J=>intro j;rw[List.foldl_cons,J];simp
   exact this _ _
theorem Sim.buildSlice {ρ ρ':Operand->Value} (t:TypeId) (len:Nat) (ps:Array (Nat×Operand)) (hok:∀ e,P.underlying t=some (.slice e)->Gu P e=true) (h:∀ p∈ps.toList,VR β wA.heap.size (ρ p.2) (ρ' p.2)):
  Sim P VR β wA wB (buildSlice t len (ps.map λ(i,x)=>(i,ρ x))) (buildSlice t len (ps.map λ(i,x)=>(i,ρ' x))):=by
 unfold Instr.buildSlice;refine Sim.bind (Sim.still' (Ay t)) λβ1 wA1 wB1 d d' he hs F=>?_;obtain⟨rfl,F⟩:=F;have O:=Es (F wA)
 cases d' with
 |slice e=>
  have R:=hok e O;dsimp only;refine Sim.bind (Sim.still' (Bo _)) λβ6 wA6 wB6 z z' he6 hs6 y=>?_;obtain⟨rfl,y⟩:=y;have J:=Fu (y wA);have I:∀ β' m,Ext β wA.heap.size β'->wA.heap.size<=m->∀p∈ps.toList,VR β' m (ρ p.2) (ρ' p.2):=λβ' m E h2 p hp=>(h p hp).ext E h2
  have D:∀ β' q wB',Ext β wA.heap.size β'->wA.heap.size<=q.heap.size->∀j,VRs β' q.heap.size j j->
    Sim P VR β' q wB' (match fill (λi=>some (i*z',z')) ((Array.range (len*z')).map λx=>j[x%j.size]!) (ps.map λ(i,x)=>(i,ρ x)).toList with
     |some l=>do
      let a <-Go.newRow e l
      Pure.pure (Value.slice (some a) len len)
     |x=>Go.stuck "buildSlice: a part of the wrong size") (match fill (λi=>some (i*z',z')) ((Array.range (len*z')).map λx=>j[x%j.size]!) (ps.map λ(i,x)=>(i,ρ' x)).toList with
     |some l=>do
      let a <-Go.newRow e l
      Pure.pure (Value.slice (some a) len len)
     |x=>Go.stuck "buildSlice: a part of the wrong size"):=by
   intro β' q wB' E h2 j B;rw[Array.toList_map,Array.toList_map]
   cases N:fill (λi=>some (i*z',z')) ((Array.range (len*z')).map λx=>j[x%j.size]!) (ps.toList.map λ(i,x)=>(i,ρ x)) with
   |none=>exact Sim.stuck
   |some l=>
    obtain⟨Y,S,U,X⟩:=Abr (ρ:=ρ) (ρ':=ρ') ps.toList _ _ l (Aei B (len*z')) (I β' _ E h2) N;have M:fill (λi=>some (i*z',z')) ((Array.range (len*z')).map λx=>j[x%j.size]!) (ps.toList.map λ(i,x)=>(i,ρ' x))=some Y:=S;rw[M];exact Sim.newSlice U (by rw[X,<-J];simp)
  split
  ·exact Sim.never (Ih λw v Z h=>by cases h)
  split
  ·simp only[pure_bind];exact D _ _ _ (he.trans he6 hs) (by omega) _ (.empty _ _)
  refine Sim.bind (Sim.still' (Ie _)) λβ7 wA7 wB7 v v' he7 hs7 r=>?_;obtain⟨rfl,r⟩:=r;simp only[pure_bind];exact D _ _ _ ((he.trans he6 hs).trans he7 (by omega)) (by omega) _ (Ws R (r wA) _ _).cells
 |_=>exact Sim.stuck
theorem AaL {γ δ:Type} (f:γ->Sem δ) (h:∀ x,Hx P (f x)):∀ (l:List γ),Hx P (l.mapM f)
 | []=>by rw[List.mapM_nil];exact Dg _
 |x::l=>by
  rw[List.mapM_cons];exact Fb (h x) λa=>Fb (AaL f h l) λ_=>Dg _
theorem Sim.build {ρ ρ':Operand->Value} (t:TypeId) (ps:Array (Nat×Operand)) (hok:Gu P t=true) (h:∀ p∈ps.toList,VR β wA.heap.size (ρ p.2) (ρ' p.2)):
  Sim P VR β wA wB (build t (ps.map λ(i,x)=>(i,ρ x))) (build t (ps.map λ(i,x)=>(i,ρ' x))):=by
 unfold Instr.build;refine Sim.bind (Sim.still' (Ie _)) λβ1 wA1 wB1 v v' he hs r=>?_;obtain⟨rfl,r⟩:=r;have y:=λβ' m=>(Ws hok (r wA) β' m).cells;refine Sim.bind (Sim.still (Ay t)) λβ2 wA2 wB2 d d' he2 hs2 hd=>?_;cases hd;have q:=he.trans he2 hs
 have E:∀ β' B wB' l,Ext β wA.heap.size β'->wA.heap.size<=B.heap.size->∀s:String,
   Sim P VR β' B wB' (match fill l v'.cells (ps.map λ(i,x)=>(i,ρ x)).toList with
    |some j=>Pure.pure (Value.agg j)
    |x=>Go.stuck s) (match fill l v'.cells (ps.map λ(i,x)=>(i,ρ' x)).toList with
    |some j=>Pure.pure (Value.agg j)
    |x=>Go.stuck s):=by
  intro β' B wB' l I h2 s;rw[Array.toList_map,Array.toList_map]
  cases J:fill l v'.cells (ps.toList.map λ(i,x)=>(i,ρ x)) with
  |none=>exact Sim.stuck
  |some j=>
   obtain⟨O,M,N,R⟩:=Abr (ρ:=ρ) (ρ':=ρ') ps.toList _ _ j (y β' _) (λp D=>(h p D).ext I h2) J;have F:fill l v'.cells (ps.toList.map λ(i,x)=>(i,ρ' x))=some O:=M;rw[F];exact Sim.pure (.toAgg N)
 cases d with
 |struct fs=>
  dsimp only;refine Sim.bind (Sim.still ?_) λβ3 wA3 wB3 pl pl' he3 hs3 D=>?_
  ·rw[Array.mapM_eq_mapM_toList];exact Fb (AaL _ (λf=>Fb (Bo _) λ_=>Dg _) _) λ_=>Dg _
  cases D;exact E _ _ _ _ (q.trans he3 (by omega)) (by omega) _
 |array n e=>
  dsimp only;refine Sim.bind (Sim.still (Bo _)) λβ3 wA3 wB3 z z' he3 hs3 D=>?_;cases D;exact E _ _ _ _ (q.trans he3 (by omega)) (by omega) _
 |_=>exact Sim.stuck
end Go.Mir
end
