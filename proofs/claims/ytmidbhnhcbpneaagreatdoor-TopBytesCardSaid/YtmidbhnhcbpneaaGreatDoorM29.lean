/- A part of the proof. -/
import Derived.Test.YtmidbhnhcbpneaaGreatDoorM28
import Derived.LoopNIn
import Derived.Scope
import Derived.Test.YtmidbhnhcbpneaaGreatDoorM2
set_option linter.unusedVariables false
set_option linter.unusedSimpArgs false
set_option maxRecDepth 8000
set_option maxHeartbeats 8000000
section
namespace Go.Mir
open Go.RowKit Go.Lt Go.Instr Go.Builtin
abbrev Qk:=Dc->Array Oper->Ac->AS->Res (Ac×AS)
def Aew (P:Program) (drw:Qk) (call:Dc) (rd:Bool) (id:Nat) (ops:Array Oper) (draw:Bool) (a:Ac) (w:AS):Res (Ex×Ac×AS):=
 match (match draw with
  |true=>drw call ops a w
  |false=>AhQ P call rd ops ops.toList a w) with
 | .ok (a',w')=> .ok (.normal,a',w')
 | .no l=> .no (id::l)
def Aog (D l:Nat) (a:Ac) (w':AS):Res (Ex×Ac×AS):=
 match w'.at l,Nat.blt l 1000000 with
 |some (.loop r'),true=>match r'.state with
  | .busy=> .no [1006]
  |_=>match r'.pending with
   |none=> .ok (.normal,{a with defers:={target:= .collected D,args:= #[]}::a.defers},w'.put l (.loop {r' with state:= .exhausted}))
   |some .ret=> .ok (.ret,{a with defers:={target:= .collected D,args:= #[]}::a.defers},w'.put l (.loop {r' with state:= .exhausted}))
   |some (.exit id)=> .ok (.exit id,{a with defers:={target:= .collected D,args:= #[]}::a.defers},w'.put l (.loop {r' with state:= .exhausted}))
   |_=> .no [1007]
 |_,_=> .no [1008]
def Ac.row (a:Ac):Array Value:=((List.range a.n).map λt=>a.eval (.tmp t)).toArray
def Aes (call:Dc) (gf:FuncId) (lb:Array Value) (ps:Array Tmp) (assign body:Code) (a:Ac) (w:AS):Res (Ex×Ac×AS):=
 match call (.fn gf) (#[.func (.yield (w.n+1)) #[] #[]]++lb) ((w.push (.deferred (some []))).push (.loop {state:= .ready,pending:=none,fn:=0,tmps:=a.row,params:=ps,assign,body,defers:=w.n})) with
 | .ok (_,w')=>Aog w.n (w.n+1) a w'
 | .no l=> .no l
def Zh (P:Program) (call:Dc) (rd:Bool) (g:Value) (ps:Array Tmp) (assign body:Code) (a:Ac) (w:AS):Res (Ex×Ac×AS):=
 match g with
 | .func (.func gf) fs lb=>match fs.isEmpty&&Rv P gf&& !rd&&Nat.blt w.n 900000 with
  |true=>Aes call gf lb ps assign body a w
  |false=> .no [1009]
 |_=> .no [1002]
def Amj (t:Value) (x y:Res (Ex×Ac×AS)):Res (Ex×Ac×AS):=
 match t with
 | .bool true=>x
 | .bool false=>y
 |_=> .no [1001]
def Ahp (id:Nat) (r:Res (Ex×Ac×AS)):Res (Ex×Ac×AS):=
 match r with
 | .ok (.exit i,a',w')=>match Nat.beq i id with
  |true=> .ok (.normal,a',w')
  |false=> .ok (.exit i,a',w')
 |r=>r
def Hm (P:Program) (drw:Qk) (call:Dc) (rd:Bool):Nat->Code->Ac->AS->Res (Ex×Ac×AS)
 |0,_,_,_=> .no [1000]
 |n+1,c,a,w=>
  match c with
  | .skip=> .ok (.normal,a,w)
  | .label _=> .ok (.normal,a,w)
  | .region id ops draw=>Aew P drw call rd id ops draw a w
  | .seq x y=>
   match Hm P drw call rd n x a w with
   | .ok (.normal,a',w')=>Hm P drw call rd n y a' w'
   |r=>r
  | .cond c x y=>match okX c with
   |true=>Amj (a.eval c) (Hm P drw call rd n x a w) (Hm P drw call rd n y a w)
   |false=> .no [1011]
  | .block id c=>Ahp id (Hm P drw call rd n c a w)
  | .loop c=>
   match Hm P drw call rd n c a w with
   | .ok (.normal,a',w')=>Hm P drw call rd n (.loop c) a' w'
   |r=>r
  | .exit id=> .ok (.exit id,a,w)
  | .ret=> .ok (.ret,a,w)
  | .scope c=>match rd with
   |false=>Hm P drw call rd n c a w
   |true=> .no [1013]
  | .rangeFunc g ps assign body=>match okX g with
   |true=>Zh P call rd (a.eval g) ps assign body a w
   |false=> .no [1012]
  |_=> .no [1005]
section
variable {P:Program} {β:Ren} {r:Option Nat} {n:Nat}
def Ex.is:Ex->Exit
 | .normal=> .normal
 | .exit id=> .exit id
 | .ret=> .ret
def Xo (P:Program) (drw:Qk):Prop:=
 ∀(call:Dc),Gf P call->∀(r:Option Nat) (n:Nat) (Q:Exit->Act->World->Prop) (id:Nat) (ops:Array Oper) (a a':Ac) (s s':AS) (β:Ren) (b:Act) (w:World),drw call ops a s= .ok (a',s')->WR P β s.den w->AR β s.n a b->
  (∀β' b' w',Out P β s w β' s' w'->AR β' s'.n a' b'->Q .normal b' w')->(Code.region id ops true).wpIn (FR r) n P Q b w
def Adz (P:Program) (β:Ren) (s:AS) (w:World) (ex:Ex) (a':Ac) (s':AS):Exit->Act->World->Prop:=
 λe b' w'=>e=ex.is/\∃β',Out P β s w β' s' w'/\AR β' s'.n a' b'
theorem Adz.before {β β1:Ren} {s s1 s':AS} {w w1:World} {ex:Ex} {a':Ac} {e:Exit} {b':Act} {w':World} (h:Adz P β1 s1 w1 ex a' s' e b' w') (ho:Out P β s w β1 s1 w1):Adz P β s w ex a' s' e b' w':=by
 obtain⟨j,β',h2,l⟩:=h
 exact⟨j,β',ho.trans h2,l⟩
theorem Out.push {s:AS} {w:World} (hW:WR P β s.den w) (hs:s.n<1000000) (oA oB:Obj) (z k e:Nat) (h:BR P (β.more s.n w.heap.size z k e) (s.n+1) s.n {w with heap:=w.heap.push oB} oA):
  Out P β s w (β.more s.n w.heap.size z k e) (s.push oA) {w with heap:=w.heap.push oB}:=by
 have m:=hW.more (o:=oA) (wB':={w with heap:=w.heap.push oB}) (b:=w.heap.size) (size:=z) (k:=k) (z:=e) (λj x p _=>by
  have:=(Array.getElem?_eq_some_iff.1 p).1
  simp only[Array.getElem?_push];rw[if_neg (by omega)]
  exact p) (λi y hy q=>by have:=hW.there hy q;omega) (by rw[s.size];exact h)
 rw[s.size]at m;have l:=Zg (β:=β) (wA:=s.den) (wB:=w) oA oB z (k,e);rw[s.size]at l;refine⟨Ren.ext_more _ _ _ _ _ _,by simp[AS.push],?_,?_⟩
 ·rw[s.den_push hs];exact m
 rw[s.den_push hs];exact l
theorem Out.turn {s:AS} {w:World} {l:Nat} {x y o o':Obj} (hW:WR P β s.den w) (hl:l<1000000) (hx:s.at l=some x) (hlx:live x=true) (hy:w.heap[β.b l]?=some y) (h:BR P β s.n l {w with heap:=w.heap.setIfInBounds (β.b l) o'} o):
  Out P β s w β (s.put l o) {w with heap:=w.heap.setIfInBounds (β.b l) o'}:=by
 have R:l<s.n:=Decidable.byContradiction λS=>by rw[s.at_none S]at hx;cases hx
 have D:s.den.heap[l]?=some x:=by rw[s.heap];exact hx
 have aA:=(Array.getElem?_eq_some_iff.1 hy).1
 have E:∀ (i:Nat) (z:Obj),(s.put l o).den.heap[i]?=some z->(i=l/\z=o)∨(i≠l/\s.den.heap[i]?=some z):=by
  intro i z r;rw[(s.put l o).heap,s.at_put R hl]at r
  split at r
  ·rename_i e
   cases r;exact .inl ⟨e,rfl⟩
  rename_i e
  exact .inr ⟨e,by rw[s.heap];exact r⟩
 have B:∀ (i:Nat) (z:Obj),(s.put l o).den.heap[i]?=some z->live z=true->∃M,s.den.heap[i]?=some M/\live M=true:=by
  intro i z r m
  rcases E i z r with⟨rfl,rfl⟩|⟨_,h2⟩
  ·exact⟨x,D,hlx⟩
  exact⟨z,h2,m⟩
 have Z:(s.put l o).den.heap.size=s.den.heap.size:=by rw[(s.put l o).size,s.size];rfl
 refine⟨.refl _ _,Nl _,⟨λi z r=>?_,λi j p q hp hq N O hb=>?_,rfl⟩,⟨λj hj S=>?_,λi z r m=>?_,by simp,⟨rfl,rfl,rfl⟩⟩⟩
 ·rw[Z]
  rcases E i z r with⟨rfl,rfl⟩|⟨hi,h2⟩
  ·rw[s.size];exact h
  have Y:=hW.rel i z h2
  by_cases m:live z=true
  ·refine Y.ext (.refl _ _) (Array.getElem?_eq_some_iff.1 h2).1 (Nl _) λu hu=>?_;simp only[Array.getElem?_setIfInBounds];rw[if_neg (λe=>hi (hW.inj l i _ _ D h2 hlx m e).symm)];exact hu
  cases z<;>first|(simp[live]at m;done)|(simp only[BR]at Y ⊢;(try (split at Y<;>simp_all)))
 ·obtain⟨p2,U,F⟩:=B i p hp N;obtain⟨q2,X,I⟩:=B j q hq O;exact hW.inj i j p2 q2 U X F I hb
 ·simp only[Array.getElem?_setIfInBounds];rw[if_neg (S l _ D hlx)]
 obtain⟨M,A,J⟩:=B i z r m;exact .inr ⟨i,M,A,J,rfl⟩
theorem Yp {F:Fence} {c:Code} {Q Q':Exit->Act->World->Prop} (h:∀ e b w,Q e b w->Q' e b w):∀ (k:Nat) {b:Act} {w:World},Code.roundsIn F n P c Q k b w->Code.roundsIn F n P c Q' k b w
 |0,b,w,hr=>hr
 |k+1,b,w,hr=>wpIn_mono hr λe b' l j=>by cases e<;>first|exact Yp h k j|exact h _ _ _ j
theorem Anl {a:Ac} {b:Act} {m:Nat} (hA:AR β m a b) (t:Nat):VR β m (a.row.getD t undef) (b.tmps.getD t undef):=by
 have l:a.row.getD t undef=if t<a.n then a.eval (.tmp t) else undef:=by
  unfold Ac.row
  by_cases j:t<a.n
  ·rw[if_pos j];simp[Array.getD,j]
  rw[if_neg j];simp[Array.getD,j]
 rw[l]
 by_cases j:t<a.n
 ·rw[if_pos j];exact hA.tm t
 rw[if_neg j]
 have:b.tmps.getD t undef=undef:=by simp[Array.getD,hA.size,j]
 rw[this];exact .toTuple (.empty _ _)
theorem AbY {call:Dc} (hn:∀ (f:FuncId) (fn:Func),P.funcs[f]?=some fn->(fn.name== "runtime.NumGoroutine")=false) (hcall:Gf P call) {g:Operand} {ps:Array Tmp} {assign body:Code} {a a':Ac} {s s':AS} {ex:Ex} {b:Act} {w:World}
  (hok:okX g=true) (j:Zh P call false (a.eval g) ps assign body a s= .ok (ex,a',s')) (hW:WR P β s.den w) (hA:AR β s.n a b):(Code.rangeFunc g ps assign body).wpIn (FR none) n P (Adz P β s w ex a' s') b w:=by
 have hg:=hA.eval hok;unfold Zh at j
 split at j
 case h_2=>cases j
 rename_i gf fs lb hgv
 rw[hgv]at hg;generalize aJ:b.eval g=bg at hg
 cases hg with
 |func _ _ aF _ B h1 h2 h3 h4=>
 split at j
 case h_2=>cases j
 rename_i hcond
 simp only[Bool.and_eq_true]at hcond;obtain⟨⟨⟨aM,X⟩,_⟩,aD⟩:=hcond
 have aS:s.n<900000:=by rcases Cg s.n 900000 with q|q;exact q.2;rw[q.1]at aD;cases aD
 have e1:aF= #[]:=Array.eq_empty_of_size_eq_zero (by rw[h1];simpa using aM);subst e1;unfold Aes at j
 split at j
 case h_2=>cases j
 rename_i v0 s2 hcl
 refine wpIn_rangeFunc λR _=>?_;have o1:=Out.push (β:=β) hW (by omega) (.deferred (some [])) (.deferred (some [])) 0 0 0 ⟨rfl,by simp[Ren.more]⟩;obtain⟨rA,p⟩:∃ rA:Loop,rA={state:= .ready,pending:=none,fn:=0,tmps:=a.row,params:=ps,assign,body,defers:=s.n}:=⟨_,rfl⟩;obtain⟨rB,x⟩:∃ rB:Loop,rB={state:= .ready,pending:=none,fn:=R,tmps:=b.tmps,params:=ps,assign,body,defers:=w.heap.size}:=⟨_,rfl⟩;rw[<-p]at hcl
 have o2:=Out.push (P:=P) o1.wr (by simp[AS.push];omega) (.loop rA) (.loop rB) 0 0 0 ⟨rB,by simp only[Ren.more,if_true];exact Array.getElem?_push_size,by rw[p,x],by rw[p,x],by rw[p,x],by rw[p,x],by rw[p,x],by rw[p,x];simp[Ac.row,hA.size],λt=>by
  rw[p,x]
  exact((Anl hA t).ext o1.ext o1.le).ext (Ren.ext_more _ _ _ _ _ _) (by simp[AS.push])⟩
 have m:=o1.trans o2;obtain⟨D,aC⟩:∃ D,D=(s.push (.deferred (some []))).push (.loop rA):=⟨_,rfl⟩;rw[<-aC]at hcl m
 have aR:D.n=s.n+2:=by rw[aC];rfl
 generalize aE:(Ren.more (Ren.more β s.n w.heap.size 0 0 0) (s.push (Obj.deferred (some []))).n _ 0 0 0)=β1 at m
 have U:β1.b (s.n+1)=w.heap.size+1:=by rw[<-aE];simp[Ren.more,AS.push]
 have aI:β1.b s.n=w.heap.size:=by rw[<-aE];simp[Ren.more,AS.push]
 obtain⟨W1,S⟩:∃ W1:World,W1={({w with heap:=w.heap.push (.deferred (some []))}:World) with heap:=(w.heap.push (.deferred (some []))).push (.loop rB)}:=⟨_,rfl⟩
 have m:Out P β s w β1 D W1:=by rw[S];exact m
 have F:VRs β1 D.n (#[.func (.yield (s.n+1)) #[] #[]]++lb) (#[.func (.yield (w.heap.size+1)) #[] #[]]++B):=by
  refine VRs.append ?_ (VRs.ext ⟨h2,h4⟩ m.ext m.le);have hy:VR β1 D.n (.func (.yield (s.n+1)) #[] #[]) (.func (.yield (β1.b (s.n+1))) #[] #[]):= .yield _ (by omega);rw[U]at hy
  simpa using (VRs.empty β1 D.n).push hy
 have hc:=hcall.fn gf _ D v0 s2 X hcl β1 W1 _ m.wr F
 have aQ:∀ (e:Ending) (N:World),(∃β' v',e= .returned v'/\Out P β1 D W1 β' s2 N/\VR β' s2.n v0 v')->rangePost (FR none) n P (w.heap.size+1) (Adz P β s w ex a' s') {b with defers:=[{target:= .collected w.heap.size,args:= #[]}]++b.defers} e N:=by
  rintro e N ⟨β2,v',rfl,O,hv⟩;unfold Aog at j
  split at j
  case h_2=>cases j
  rename_i r2 hat hlt
  have aN:s.n+1<1000000:=by omega
  have aO:s2.den.heap[s.n+1]?=some (.loop r2):=by rw[s2.heap];exact hat
  obtain⟨M,g1,g2,g3,g4,g5,g6,aH,g7⟩:=O.wr.rel _ _ aO
  have I:β2.b (s.n+1)=w.heap.size+1:=by rw[O.ext.b _ (by omega),U]
  have aL:β2.b s.n=w.heap.size:=by rw[O.ext.b _ (by omega),aI]
  have aA:r2.state≠ .busy:=by
   intro hb;rw[hb]at j;cases j
  have j:(match r2.pending with
   |none=>Res.ok (Ex.normal,{a with defers:={target:= .collected s.n,args:= #[]}::a.defers},s2.put (s.n+1) (.loop {r2 with state:= .exhausted}))
   |some .ret=> .ok (.ret,{a with defers:={target:= .collected s.n,args:= #[]}::a.defers},s2.put (s.n+1) (.loop {r2 with state:= .exhausted}))
   |some (.exit id)=> .ok (.exit id,{a with defers:={target:= .collected s.n,args:= #[]}::a.defers},s2.put (s.n+1) (.loop {r2 with state:= .exhausted}))
   |_=> .no [1007])= .ok (ex,a',s'):=by
   split at j
   ·rename_i hb;exact absurd hb aA
   exact j
  have J:N.heap[w.heap.size+1]?=some (.loop M):=by rw[<-I];exact g1
  have Y:(Instr.endLoop (w.heap.size+1)).run P N= .ok r2.pending {N with heap:=N.heap.setIfInBounds (w.heap.size+1) (.loop {M with state:= .exhausted})}:=by
   have aP:M.state≠ .busy:=by rw[g2];exact aA
   unfold Instr.endLoop Instr.getLoop;simp only[Sem.run_bind,getObj,Sem.run,J,Result.andThen_ok,Sem.run_pure]
   have:(M.state==LoopState.busy)=false:=by
    cases h:M.state<;>first|rfl|exact absurd h aP
   simp[this,setObj,Sem.run,J,g3]
  have ot:=Out.turn (o:= .loop {r2 with state:= .exhausted}) (o':= .loop {M with state:= .exhausted}) O.wr aN hat rfl (by rw[I];exact J) ⟨{M with state:= .exhausted},by
   simp[Array.getElem?_setIfInBounds,(Array.getElem?_eq_some_iff.1 g1).1],rfl,g3,g4,g5,g6,aH,λt=>by have:=g7 t;rw[s2.size]at this;exact this⟩
  rw[I]at ot;have l:=(m.trans O).trans ot
  have z:AR β2 (s2.put (s.n+1) (.loop {r2 with state:= .exhausted})).n {a with defers:={target:= .collected s.n,args:= #[]}::a.defers} {b with defers:=[{target:= .collected w.heap.size,args:= #[]}]++b.defers}:=by
   have y:=hA.ext l.ext l.le;have E:DR β2 (s2.put (s.n+1) (.loop {r2 with state:= .exhausted})).n ⟨.collected s.n,#[]⟩ ⟨.collected (β2.b s.n),#[]⟩:= .col _ (by have:=l.le;have:=m.le;have:=O.le;show s.n<s2.n;omega);rw[aL]at E
   exact⟨y.size,y.small,y.tm,.cons E y.df⟩
  refine⟨r2.pending,_,Y,?_⟩;generalize s2.put (s.n+1) (.loop {r2 with state:= .exhausted})=s3 at j l z
  cases hp:r2.pending with
  |none=>
   rw[hp]at j;cases j
   exact⟨rfl,β2,l,z⟩
  |some c=>
   rw[hp]at j
   cases c<;>first|(cases j;done)|skip
   ·cases j;exact wpIn_exit ⟨rfl,β2,l,z⟩
   cases j;exact wpIn_ret ⟨rfl,β2,l,z⟩
 have aK:=Abh (r:=none) (n:=n-1) (hc.mono aQ)
 have aB:(resolve b.eval (rangeCall g (w.heap.size+1)) 0).run P W1= .ok {target:= .fn (.func gf) B,args:= #[.func (.yield (w.heap.size+1)) #[] #[]]} W1:=by
  simp only[resolve,aJ];simp[Deferred.ofValue,Act.eval]
 have A:(invoke (.fn (.func gf) B) #[.func (.yield (w.heap.size+1)) #[] #[]]).run P W1= .ok (.enter gf (#[.func (.yield (w.heap.size+1)) #[] #[]]++B)) W1:=by
  simp only[invoke];exact Qb _ W1 hn X
 have Z:(Instr.enterLoop R b.tmps ps assign body none).run P w= .ok (w.heap.size+1,[{target:= .collected w.heap.size,args:= #[]}]) W1:=by
  rw[S,x];exact run_enterLoop_outer _ _ _ _ _
 exact⟨w.heap.size+1,[{target:= .collected w.heap.size,args:= #[]}],W1,_,W1,gf,_,W1,Z,aB,λf _=>Abo _ f,A,AbG none n,aK⟩
theorem Qn {drw:Qk} (hdrw:Xo P drw) {call:Dc} (hn:∀ (f:FuncId) (fn:Func),P.funcs[f]?=some fn->(fn.name== "runtime.NumGoroutine")=false) (hcall:Gf P call) {rd:Bool} (hrd:rd=false->r=none):
  ∀(k:Nat),(∀(c:Code) (β:Ren) (a p:Ac) (s q:AS) (z:Ex) (b:Act) (w:World),Hm P drw call rd k c a s= .ok (z,p,q)->WR P β s.den w->AR β s.n a b->c.wpIn (FR r) n P (Adz P β s w z p q) b w)/\
   (∀(c:Code) (β:Ren) (a p:Ac) (s q:AS) (z:Ex) (b:Act) (w:World),Hm P drw call rd k (.loop c) a s= .ok (z,p,q)->WR P β s.den w->AR β s.n a b->Code.roundsIn (FR r) n P c (Adz P β s w z p q) k b w):=by
 intro k
 induction k with
 |zero=>exact⟨λc β a p s q z b w j=>(by cases j),λc β a p s q z b w j=>(by cases j)⟩
 |succ k Y=>
 obtain⟨D,X⟩:=Y
 have I:∀ (c:Code) (β:Ren) (a p:Ac) (s q:AS) (z:Ex) (b:Act) (w:World),Hm P drw call rd (k+1) (.loop c) a s= .ok (z,p,q)->WR P β s.den w->AR β s.n a b->Code.roundsIn (FR r) n P c (Adz P β s w z p q) (k+1) b w:=by
  intro c β a p s q z b w j F E;unfold Hm at j;dsimp only at j
  split at j
  ·rename_i a1 s1 h1
   refine wpIn_mono (D c β a a1 s s1 .normal b w h1 F E) ?_;rintro e M R ⟨rfl,β1,B,m⟩
   have:=X c β1 a1 p s1 q z M R j B.wr m
   exact Yp (λe b' U h=>h.before B) k this
  rename_i hno
  refine wpIn_mono (D c β a p s q z b w j F E) ?_;rintro e M R ⟨rfl,β1,B,m⟩
  cases z with
  |normal=>exact absurd j (hno p q)
  |exit id=>exact⟨rfl,β1,B,m⟩
  |ret=>exact⟨rfl,β1,B,m⟩
 refine⟨?_,I⟩;intro c β a p s q z b w j F E;have S:=j;unfold Hm at j
 cases c with
 |skip=>cases j;exact wpIn_skip ⟨rfl,β,.refl F,E⟩
 |label l=>cases j;exact wpIn_label ⟨rfl,β,.refl F,E⟩
 |region id ops draw=>
  dsimp only at j;unfold Aew at j
  split at j
  case h_2=>cases j
  rename_i a1 s1 h1
  cases j
  split at h1
  ·exact hdrw call hcall r n _ id ops _ _ _ _ β b w h1 F E λβ' b' U B hA'=>⟨rfl,β',B,hA'⟩
  refine wpIn_region ?_
  have:=Xx (n:=n) (Q:=Adz P β s w .normal p q) hn hcall hrd ops.toList 0 β a p s q b w (by simp) h1 F E λβ' b' U B hA'=>⟨rfl,β',B,hA'⟩
  rw[List.range_eq_range',<-Array.length_toList];exact this
 |seq x y=>
  dsimp only at j
  split at j
  ·rename_i a1 s1 h1
   refine wpIn_seq (wpIn_mono (D x β a a1 s s1 .normal b w h1 F E) ?_);rintro e M R ⟨rfl,β1,B,m⟩;exact wpIn_mono (D y β1 a1 p s1 q z M R j B.wr m) λe b' U h=>h.before B
  rename_i hno
  refine wpIn_seq (wpIn_mono (D x β a p s q z b w j F E) ?_);rintro e M R ⟨rfl,β1,B,m⟩
  cases z with
  |normal=>exact absurd j (hno p q)
  |exit id=>exact⟨rfl,β1,B,m⟩
  |ret=>exact⟨rfl,β1,B,m⟩
 |cond c x y=>
  dsimp only at j
  split at j
  case h_2=>cases j
  rename_i hok
  have J:=E.eval hok;unfold Amj at j
  split at j
  ·rename_i ht
   rw[ht]at J;generalize N:b.eval c=t at J;cases J;exact wpIn_cond_true N (D x β a p s q z b w j F E)
  ·rename_i ht
   rw[ht]at J;generalize N:b.eval c=t at J;cases J;exact wpIn_cond_false N (D y β a p s q z b w j F E)
  cases j
 |block id c=>
  dsimp only at j;unfold Ahp at j
  split at j
  ·rename_i i a1 s1 h1
   refine wpIn_block (wpIn_mono (D c β a a1 s s1 (.exit i) b w h1 F E) ?_);rintro e M R ⟨rfl,β1,B,m⟩
   show if i=id then _ else _
   split at j
   ·rename_i hb
    cases j;rw[if_pos (Nat.eq_of_beq_eq_true hb)]
    exact⟨rfl,β1,B,m⟩
   rename_i hb
   cases j;rw[if_neg (Nat.ne_of_beq_eq_false hb)]
   exact⟨rfl,β1,B,m⟩
  rename_i hno
  refine wpIn_block (wpIn_mono (D c β a p s q z b w j F E) ?_);rintro e M R ⟨rfl,β1,B,m⟩
  cases z with
  |normal=>exact⟨rfl,β1,B,m⟩
  |exit i=>exact absurd j (hno i p q)
  |ret=>exact⟨rfl,β1,B,m⟩
 |loop c=>exact wpIn_loop_rounds (k+1) (I c β a p s q z b w S F E)
 |exit id=>cases j;exact wpIn_exit ⟨rfl,β,.refl F,E⟩
 |ret=>cases j;exact wpIn_ret ⟨rfl,β,.refl F,E⟩
 |scope c=>
  dsimp only at j
  cases rd with
  |true=>cases j
  |false=>
   have O:=hrd rfl;subst O;refine wpIn_wide.2 (wp_scope_straight (wp_mono (wpIn_wide.1 (D c β a p s q z b w j F E)) ?_));rintro e b' U h;obtain⟨rfl,_⟩:=id h
   cases z<;>exact h
 |rangeFunc g ps assign body=>
  dsimp only at j
  split at j
  case h_2=>cases j
  rename_i hok
  cases rd with
  |true=>
   unfold Zh at j
   split at j
   ·split at j
    ·rename_i J;simp at J
    cases j
   cases j
  |false=>
   have O:=hrd rfl;subst O;exact AbY hn hcall hok j F E
 |_=>cases j
end
abbrev AmK:=FuncId->Array Value->Option Value
def Kz:Nat->List Value->Tm
 |_,[]=> .nil
 |i,v::r=>Tr.set fuel (Kz (i+1) r) i v
def Kk (P:Program) (a:Ac) (s:AS):List ResultVar->Option (List Value)
 | []=>some []
 | .tmp t::r=>match Kk P a s r with
  |some l=>some (a.eval (.tmp t)::l)
  |none=>none
 | .cell x t::r=>match a.eval (.tmp x),Kk P a s r with
  | .pointer (some p),some l=>match Ob P (loadVar t p) s with
   |some (v,_)=>some (v::l)
   |none=>none
  |_,_=>none
def AcO (l:List Value):Value:=
 match l with
 | [v]=>v
 |l=> .tuple l.toArray
def Ji:Ex->Option Code
 | .normal=>none
 | .ret=>some .ret
 | .exit id=>some (.exit id)
def Agy:Value->Bool
 | .pointer (some _)=>true
 |_=>false
def Aoh (idle g:FuncId) (cp args:Array Value):Bool:=
 Nat.beq g idle&&cp.isEmpty&&Nat.beq args.size 2&&args.toList.all Agy
def Aie (idle:FuncId) (ds:List Deferred) (s:AS):Res AS:=
 match ds with
 | []=> .ok s
 | [d]=>match d.target with
  | .collected D=>match s.at D,Nat.blt D 1000000 with
   |some (.deferred _),true=> .ok (s.put D dead)
   |_,_=> .no [4000]
  | .fn (.func g) cp=>match Aoh idle g cp d.args with
   |true=> .ok s
   |false=> .no [4001]
  |_=> .no [4002]
 |_=> .no [4003]
def Aii (P:Program) (idle:FuncId) (f:FuncId) (fn:Func) (r:Res (Ex×Ac×AS)):Res (Value×AS):=
 match r with
 | .ok (ex,a,s)=>match ex with
  | .exit _=> .no [f,2003]
  |_=>match Aie idle a.defers s with
   | .ok s'=>match Kk P a s' fn.results.toList with
    |some l=> .ok (AcO l,s')
    |none=> .no [f,2004]
   | .no l=> .no (f::l)
 | .no l=> .no (f::l)
def AgK (P:Program) (drw:Qk) (call:Dc) (idle f:FuncId) (fn:Option Func) (args:Array Value) (s:AS):Res (Value×AS):=
 match fn with
 |none=> .no [f,2001]
 |some fn=>match fn.body,Nat.ble args.size fn.ntmps&&Nat.blt fn.ntmps 1000000 with
  |some c,true=>Aii P idle f fn (Hm P drw call false 100000 c ⟨fn.ntmps,Kz 0 args.toList,[]⟩ s)
  |_,_=> .no [f,2002]
def Uo:Option Code->LoopState
 |none=> .ready
 |some _=> .done
def AbE (l:Nat) (r:Res (Ex×Ac×AS)):Res (Value×AS):=
 match r with
 | .ok (ex,_,s)=>match s.at l with
  |some (.loop r)=> .ok (.bool (Ji ex).isNone,s.put l (.loop {r with state:=Uo (Ji ex),pending:=Ji ex}))
  |_=> .no [3001]
 | .no l=> .no (3333::l)
def Yo (P:Program) (drw:Qk) (call:Dc) (l:Nat) (body:Code) (a:Ac) (s:AS):Res (Value×AS):=
 match s.at l with
 |some (.loop r)=>match r.state with
  | .ready=>AbE l (Hm P drw call true 100000 body a (s.put l (.loop {r with state:= .busy})))
  |_=> .no [3002]
 |_=> .no [3003]
def Ada (P:Program) (drw:Qk) (call:Dc) (l:Nat) (args:Array Value) (s:AS):Res (Value×AS):=
 match s.at l,Nat.blt l 1000000 with
 |some (.loop r),true=>match Nat.beq args.size r.params.size&&Nat.blt r.tmps.size 1000000 with
  |true=>
   match Hm P drw call true 100000 r.assign ((r.params.toList.zip args.toList).foldl (λa p=>a.put (some p.1) p.2) ⟨r.tmps.size,Kz 0 r.tmps.toList,[]⟩) s with
   | .ok (.normal,a,s1)=>Yo P drw call l r.body a s1
   | .ok _=> .no [3004]
   | .no l=> .no (3334::l)
  |false=> .no [3005]
 |_,_=> .no [3007]
def Alo (v:Value) (args:Array Value) (s:AS):Res (Value×AS):=
 match args.toList.all (flat 8)&&flat 8 v with
 |true=> .ok (v,s)
 |false=> .no [5000]
def Tq (P:Program) (drw:Qk) (idle:FuncId) (orac:AmK):Nat->Dc
 |0,_,_,_=> .no [2000]
 |n+1,.fn f,args,s=>
  match orac f args with
  |some v=>Alo v args s
  |none=>AgK P drw (Tq P drw idle orac n) idle f P.funcs[f]? args s
 |n+1,.yield l,args,s=>Ada P drw (Tq P drw idle orac n) l args s
section
variable {P:Program} {β:Ren}
theorem Ti:∀ (l:List Value) (i t:Nat),i+l.length<1000000->Tr.get fuel (Kz i l) t=if i<=t then l[t-i]? else none
 | [],i,t,h=>by simp[Kz,Tr.get_nil]
 |v::r,i,t,h=>by
  unfold Kz;rw[List.length_cons]at h;rw[Tr.get_set fuel _ i t v (by unfold fuel;omega),Ti r (i+1) t (by omega)]
  by_cases j:t=i
  ·subst j
   simp
  rw[if_neg j]
  by_cases hi:i<=t
  ·rw[if_pos hi,if_pos (by omega),show t-i=(t-(i+1))+1 by omega,List.getElem?_cons_succ]
  rw[if_neg hi,if_neg (by omega)]
theorem AlM {m n:Nat} {args args':Array Value} (h:VRs β m args args') (hn:n<1000000) (hle:args.size<=n):AR β m ⟨n,Kz 0 args.toList,[]⟩ {tmps:=args'++Array.replicate (n-args'.size) undef,defers:=[]}:=by
 refine⟨by simp[h.size];omega,hn,λt=>?_,.nil⟩
 have p:(Ac.eval ⟨n,Kz 0 args.toList,[]⟩ (.tmp t))=(args[t]?).getD undef:=by
  show(match Tr.get fuel (Kz 0 args.toList) t with
   |some v=>v
   |none=>undef)=_
  rw[Ti _ 0 t (by simp;omega)];simp only[Nat.zero_le,if_true,Nat.sub_zero,Array.getElem?_toList]
  cases args[t]?<;>rfl
 rw[p]
 have l:(args'++Array.replicate (n-args'.size) undef).getD t undef=(args'[t]?).getD undef:=by
  rw[Array.getD_eq_getD_getElem?,Array.getElem?_append];split
  ·rfl
  rename_i hlt
  rw[Array.getElem?_replicate,(Array.getElem?_eq_none_iff.2 (by omega):args'[t]?=none)]
  split<;>rfl
 rw[l]
 cases j:args[t]? with
 |none=>
  rw[h.none j];exact .toTuple (.empty _ _)
 |some x=>
  obtain⟨y,hy,q⟩:=h.get j;rw[hy];exact q
theorem AoR {m:Nat} {row row':Array Value} (hs:row'.size=row.size) (hn:row.size<1000000) (h:∀ t:Nat,VR β m (row.getD t undef) (row'.getD t undef)):AR β m ⟨row.size,Kz 0 row.toList,[]⟩ {tmps:=row',defers:=[]}:=by
 refine⟨hs,hn,λt=>?_,.nil⟩
 have j:(Ac.eval ⟨row.size,Kz 0 row.toList,[]⟩ (.tmp t))=row.getD t undef:=by
  show(match Tr.get fuel (Kz 0 row.toList) t with
   |some v=>v
   |none=>undef)=_
  rw[Ti _ 0 t (by simpa using hn)];simp only[Nat.zero_le,if_true,Nat.sub_zero,Array.getElem?_toList,Array.getD_eq_getD_getElem?]
  cases row[t]?<;>rfl
 rw[j];exact h t
theorem Acu {m:Nat}:∀ (ps:List Tmp) (vs vs':List Value) (a:Ac) (b:Act),VRs β m vs.toArray vs'.toArray->AR β m a b->AR β m ((ps.zip vs).foldl (λa p=>a.put (some p.1) p.2) a) {tmps:=(ps.zip vs').foldl (λt p=>t.setIfInBounds p.1 p.2) b.tmps,defers:=b.defers}
 | [],vs,vs',a,b,h,hA=>hA
 |p::ps,[],vs',a,b,h,hA=>by
  have:vs'= []:=by have:=h.size;simpa using this
  subst this;exact hA
 |p::ps,v::vs,[],a,b,h,hA=>by have:=h.size;simp at this
 |p::ps,v::vs,v'::vs',a,b,h,hA=>by
  simp only[List.zip_cons_cons,List.foldl_cons];exact Acu ps vs vs' _ (b.put (some p) v') ⟨by have:=h.size;simpa using this,λi x y j hy=>h.at_ (i+1) x y (by simpa using j) (by simpa using hy)⟩ (hA.put (some p) (h.at_ 0 v v' (by simp) (by simp)))
theorem Ig {b:Addr}:∀ (n i:Nat) (acc v:Array Value) (w w':World),(loadCellsFrom b i n acc).run P w= .ok v w'->w'=w
 |0,i,acc,v,w,w',h=>by cases h;rfl
 |n+1,i,acc,v,w,w',h=>by
  unfold Go.loadCellsFrom at h;rw[Sem.run_bind,run_load]at h
  cases j:w.cell? (b.add i) with
  |some u=>rw[j]at h;exact Ig n (i+1) _ v w w' h
  |none=>
   rw[j]at h
   cases l:w.farLoad P (b.add i) (Mode.plain== .atomic) with
   |error e=>simp only[l]at h;cases h
   |ok q=>obtain⟨u,z⟩:=q;simp only[l]at h;exact Ig n (i+1) _ v w w' h
theorem Uz {t:TypeId} {p:Addr} {v:Value} {w w':World} (h:(loadVar t p).run P w= .ok v w'):w'=w:=by
 unfold Go.loadVar at h;rw[Sem.run_bind]at h
 cases j:(isAgg t).run P w with
 |halt a b=>rw[j]at h;cases h
 |ok x w1=>
  rw[j]at h;obtain⟨rfl,_⟩:=Nv t _ _ _ j;simp only[Result.andThen_ok]at h;cases x
  ·simp only[Bool.false_eq_true,if_false]at h;rw[run_load]at h
   split at h
   ·cases h;rfl
   split at h
   ·cases h;rfl
   cases h
  simp only[if_true]at h;rw[Sem.run_bind]at h
  cases h2:(sizeOf t).run P w1 with
  |halt a b=>rw[h2]at h;cases h
  |ok z w2=>
   rw[h2]at h;obtain⟨rfl,_⟩:=Bo t _ _ _ h2;simp only[Result.andThen_ok]at h;rw[Sem.run_bind]at h
   cases l:(loadCells p z).run P w2 with
   |halt a b=>rw[l]at h;cases h
   |ok c w3=>
    rw[l]at h;cases h;exact Ig z 0 _ _ _ _ l
theorem Pt {a:Ac} {b:Act} {s:AS} {w:World} (hW:WR P β s.den w) (hA:AR β s.n a b):∀ (l:List ResultVar) (vs:List Value),Kk P a s l=some vs->
  ∃j,(l.mapM (fun| .tmp t=>pure (b.tmps.getD t undef)| .cell x t=>do loadVar t (<-asAddr (b.tmps.getD x undef)):ResultVar->Sem Value)).run P w= .ok j w/\VRs β s.n vs.toArray j.toArray
 | [],vs,h=>by
  cases h
  exact⟨[],rfl,.empty _ _⟩
 | .tmp t::r,vs,h=>by
  unfold Kk at h
  split at h
  case h_2=>cases h
  rename_i l hl
  cases h;obtain⟨j,y,h2⟩:=Pt hW hA r l hl;refine⟨b.tmps.getD t undef::j,?_,?_⟩
  ·rw[List.mapM_cons];simp only[pure_bind,Sem.run_bind,y,Result.andThen_ok];rfl
  have:=VRs.append ((VRs.empty β s.n).push (hA.tm t)) h2
  simpa using this
 | .cell x t::r,vs,h=>by
  unfold Kk at h
  split at h
  case h_2=>cases h
  rename_i p l hp hl
  split at h
  case h_2=>cases h
  rename_i v s1 hr
  cases h;obtain⟨j,y,h2⟩:=Pt hW hA r l hl;have F:=hA.tm x;rw[hp]at F;generalize B:b.tmps.getD x undef=U at F
  cases F with
  |ptr bb o hb=>
   obtain⟨β',v',N,J,q,M,X,Y,I⟩:=Sim.loadVar (P:=P) t (by rw[s.size];exact hb) hW _ _ (Iy hr);have S:=Uz J;subst S
   have E:VR β s.n v v':=by
    have hle:s1.n<=s.n:=by
     have:=Uz (Iy hr)
     have O:=congrArg (λw=>w.heap.size) this;simp only[AS.size]at O;omega
    have R:s.n<=s1.n:=by rw[s.size,s1.size]at M;exact M
    rw[s.size]at q;rw[s1.size]at I
    have D:s1.n=s.n:=by omega
    rw[D]at I;exact VR.ext I ⟨λi hi=>(q.b i hi).symm,λi hi=>(q.size i hi).symm,λi hi=>(q.k i hi).symm,λi hi=>(q.z i hi).symm⟩ (Nl _)
   have m:(do loadVar t (<-asAddr (b.tmps.getD x undef)):Sem Value).run P N= .ok v' N:=by
    rw[B];simp only[asAddr,pure_bind];exact J
   refine⟨v'::j,?_,?_⟩
   ·rw[List.mapM_cons,Sem.run_bind];dsimp only;rw[m];simp only[Sem.run_bind,y,Result.andThen_ok];rfl
   have:=VRs.append ((VRs.empty β s.n).push E) h2
   simpa using this
theorem Afz {fn:Func} {a:Ac} {b:Act} {s:AS} {w:World} {vs:List Value} (hW:WR P β s.den w) (hA:AR β s.n a b) (h:Kk P a s fn.results.toList=some vs):∃ v',(results fn b.tmps).run P w= .ok v' w/\VR β s.n (AcO vs) v':=by
 obtain⟨j,q,h2⟩:=Pt hW hA _ vs h
 have p:results fn b.tmps=(do
   let vs <-Functor.map List.toArray (fn.results.toList.mapM (fun| .tmp t=>pure (b.tmps.getD t undef)| .cell x t=>do loadVar t (<-asAddr (b.tmps.getD x undef)):ResultVar->Sem Value))
   pure (if h:vs.size=1 then vs[0] else .tuple vs)):=by
  unfold results;rw[Array.mapM_eq_mapM_toList];rfl
 rw[p]
 have y:∀ (l:List Value),(if h:l.toArray.size=1 then l.toArray[0] else .tuple l.toArray)=AcO l:=by
  intro l
  match l with
  | []=>rfl
  | [v]=>rfl
  |v::u::r=>simp[AcO]
 refine⟨AcO j,?_,?_⟩
 ·rw[Sem.run_bind,Sem.run_map,q];simp only[Result.andThen_ok];rw[<-y j];rfl
 have m:j.length=vs.length:=by have:=h2.size;simpa using this
 match vs,j,m,h2 with
 | [],[],_,h2=>exact .toTuple h2
 | [v],[v'],_,h2=>exact h2.at_ 0 v v' (by simp) (by simp)
 |v::u::r,v'::u'::r',_,h2=>exact .toTuple h2
end
structure Env (P:Program) (drw:Qk) (idle:FuncId) (orac:AmK):Prop where
 names:∀ (f:FuncId) (fn:Func),P.funcs[f]?=some fn->(fn.name== "runtime.NumGoroutine")=false
 draws:Xo P drw
 orac:∀ (f:FuncId) (args:Array Value) (v:Value),orac f args=some v->∀w,Calls P f args w λe w'=>e= .returned v/\Below w.heap.size w w'
 idleOk:Rv P idle=true
 idle:∀ (pa pb:Addr) (w:World),CallsDIn Fence.wide (0-1) P idle #[.pointer (some pa),.pointer (some pb)] .returning w λe u' w'=>e= .returned (.tuple #[])/\u'= .returning/\w'=w
section
variable {P:Program} {β:Ren} {drw:Qk} {idle:FuncId} {orac:AmK}
theorem Out.below {s:AS} {w w':World} (hW:WR P β s.den w) (hb:Below w.heap.size w w'):Out P β s w β s w':=by
 refine⟨.refl _ _,Nl _,⟨λi o l=>?_,hW.inj,hW.tape⟩,⟨λj q _=>hb.block j q,λi o l m=> .inr ⟨i,o,l,m,rfl⟩,hb.size,⟨hb.os,hb.tape,hb.output⟩⟩⟩;have p:=hW.rel i o l
 by_cases m:live o=true
 ·exact p.ext (.refl _ _) (Array.getElem?_eq_some_iff.1 l).1 (Nl _) λx r=>by
   rw[hb.block _ (hW.there l m)];exact r
 cases o<;>first|(simp[live]at m;done)|(simp only[BR]at p ⊢;(try (split at p<;>simp_all)))
theorem Aky {m:Nat} {args args':Array Value} (h:VRs β m args args') (hf:args.toList.all (flat 8)=true):args'=args:=by
 refine Array.ext h.size λi hi j=>?_;exact Kh 8 _ _ (List.all_eq_true.1 hf _ (by simp)) (h.at_ i _ _ (Array.getElem?_eq_getElem j) (Array.getElem?_eq_getElem hi))
theorem Afm (E:Env P drw idle orac) {fn:Func} {b:Act} {s s':AS} {w:World} {ds:List Deferred} {R:Ending->World->Prop} (hW:WR P β s.den w) (hds:DL β s.n ds b.defers) (hev:Aie idle ds s= .ok s')
  (hres:∀ w2,Out P β s w β s' w2->∃v',(results fn b.tmps).run P w2= .ok v' w2/\R (.returned v') w2):LeavesInM Fence.wide 0 P fn b.tmps R b.defers .returning w:=by
 unfold Aie at hev;generalize b.defers=bd at hds
 split at hev
 ·cases hev;cases hds;exact hres w (.refl hW)
 ·rename_i d
  cases hds with
  |cons S X=>
   cases X
   cases S with
   |fn g args args' hargs=>
    dsimp only at hev
    split at hev
    case h_2=>cases hev
    rename_i hid
    cases hev;unfold Aoh at hid;simp only[Bool.and_eq_true]at hid;obtain⟨⟨⟨N,_⟩,O⟩,p⟩:=hid;have U:g=idle:=Nat.eq_of_beq_eq_true N;subst U;have j:args.size=2:=Nat.eq_of_beq_eq_true O;obtain⟨F,J,rfl⟩:=Wr j;obtain⟨I,M,rfl⟩:=Wr (hargs.size.trans j);have Z:=hargs.at_ 0 F I (by simp) (by simp);have hy:=hargs.at_ 1 J M (by simp) (by simp);simp at p
    have B:∀ u m,VR β s.n u m->Agy u=true->∃l,m= .pointer (some l):=by
     intro u m Y x
     cases Y<;>first|exact⟨_,rfl⟩|(simp[Agy]at x)
    obtain⟨l,rfl⟩:=B F I Z p.1;obtain⟨y,rfl⟩:=B J M hy p.2;refine⟨by simp,.inr ⟨λh=>(by cases h),.func g,#[],g,#[.pointer (some l),.pointer (some y)],rfl,?_,λ_ _=>trivial,(E.idle l y w).mono ?_⟩⟩
    ·simp only[invoke]
     have:=Qb (P:=P) #[.pointer (some l),.pointer (some y)] w E.names E.idleOk
     simpa using this
    rintro e m w' ⟨rfl,rfl,rfl⟩;exact hres w' (.refl hW)
   |col D hD=>
    dsimp only at hev
    split at hev
    case h_2=>cases hev
    rename_i c hat hlt
    cases hev
    have r:D<1000000:=by rcases Cg D 1000000 with q|q;exact q.2;rw[q.1]at hlt;cases hlt
    obtain⟨rfl,z⟩:=hW.rel D _ (by rw[s.heap];exact hat);have A:=Out.turn (o:=dead) (o':= .deferred none) hW r hat rfl z trivial;refine⟨by simp,.inl ⟨β.b D,_,rfl,?_,hres _ A⟩⟩;simp[Instr.takeDeferred,getObj,setObj,Sem.run,Sem.run_bind,z]
 cases hev
theorem Ado (E:Env P drw idle orac) {call:Dc} (hcall:Gf P call) {f:FuncId} {args args':Array Value} {s s':AS} {v:Value} {w:World} (hev:AgK P drw call idle f P.funcs[f]? args s= .ok (v,s')) (hW:WR P β s.den w) (hargs:VRs β s.n args args'):
  Calls P f args' w λe D=>∃ β' v',e= .returned v'/\Out P β s w β' s' D/\VR β' s'.n v v':=by
 unfold AgK at hev
 cases h:P.funcs[f]? with
 |none=>rw[h]at hev;cases hev
 |some x=>
  rw[h]at hev;dsimp only at hev
  split at hev
  case h_2=>cases hev
  rename_i c hb hn
  simp only[Bool.and_eq_true]at hn;have hle:args.size<=x.ntmps:=Nat.le_of_ble_eq_true hn.1
  have B:x.ntmps<1000000:=by rcases Cg x.ntmps 1000000 with q|q;exact q.2;rw[q.1]at hn;cases hn.2
  have J:=AlM hargs B hle;unfold Aii at hev
  split at hev
  case h_2=>cases hev
  rename_i ex a s1 hcode
  refine callsIn_wide.1 (callsIn_of_wp_marks (n:=0) h hb trivial (wpIn_mono ((Qn (r:=none) (n:=0) E.draws E.names hcall (λ_=>rfl) 100000).1 c β _ a s s1 ex _ w hcode hW J) ?_));rintro e F O ⟨rfl,β1,I,y⟩
  have j:∀ p,Aie idle a.defers s1= .ok p->(match Kk P a p x.results.toList with
    |some l=>Res.ok (AcO l,p)
    |none=> .no [f,2004])= .ok (v,s')->LeavesInM Fence.wide 0 P x F.tmps (λe D=>∃ β' v',e= .returned v'/\Out P β s w β' s' D/\VR β' s'.n v v') F.defers .returning O:=by
   intro p h2 z;refine Afm E I.wr y.df h2 λR m=>?_
   split at z
   case h_2=>cases z
   rename_i l hl
   cases z;obtain⟨v',M,N⟩:=Afz m.wr (y.ext m.ext m.le) hl
   exact⟨v',M,β1,v',rfl,I.trans m,N⟩
  cases ex with
  |exit id=>cases hev
  |normal=>
   dsimp only at hev
   split at hev
   case h_2=>cases hev
   rename_i p h2
   exact j p h2 hev
  |ret=>
   dsimp only at hev
   split at hev
   case h_2=>cases hev
   rename_i p h2
   exact j p h2 hev
theorem Aec {s:AS} {w:World} {l:Nat} {q:Loop} (hW:WR P β s.den w) (h:s.at l=some (.loop q)):∃ q':Loop,w.heap[β.b l]?=some (.loop q')/\q'.state=q.state/\q'.pending=q.pending/\q'.params=q.params/\q'.assign=q.assign/\q'.body=q.body/\q'.tmps.size=q.tmps.size/\∀t:Nat,VR β s.n (q.tmps.getD t undef) (q'.tmps.getD t undef):=by
 have:=hW.rel l _ (by rw[s.heap];exact h)
 rw[s.size]at this;exact this
theorem AbN (E:Env P drw idle orac) {call:Dc} (hcall:Gf P call) {l:Nat} {args args':Array Value} {s s':AS} {v:Value} {w:World} (hev:Ada P drw call l args s= .ok (v,s')) (hW:WR P β s.den w) (hargs:VRs β s.n args args') (r:Option Nat) (n:Nat):
  ∃fn tmps assign body,(Instr.yield (β.b l) args').run P w= .ok (.round (β.b l) fn tmps assign body) w/\RoundIn (FR r) n P (β.b l) fn tmps assign body w λe w'=>∃ β' v',e= .returned v'/\Out P β s w β' s' w'/\VR β' s'.n v v':=by
 unfold Ada at hev
 split at hev
 case h_2=>cases hev
 rename_i q hat hl
 have J:l<1000000:=by rcases Cg l 1000000 with z|z;exact z.2;rw[z.1]at hl;cases hl
 obtain⟨I,g1,g2,g3,g4,g5,g6,g7,g8⟩:=Aec hW hat
 split at hev
 case h_2=>cases hev
 rename_i hc
 simp only[Bool.and_eq_true]at hc;have aA:args.size=q.params.size:=Nat.eq_of_beq_eq_true hc.1
 have aB:q.tmps.size<1000000:=by rcases Cg q.tmps.size 1000000 with z|z;exact z.2;rw[z.1]at hc;cases hc.2
 have S:=AoR g7 aB g8;have U:=Acu q.params.toList args.toList args'.toList _ _ (by simpa using hargs) S;refine⟨I.fn,(I.params.zip args').foldl (λt p=>t.setIfInBounds p.1 p.2) I.tmps,I.assign,I.body,?_,?_⟩
 ·unfold Instr.yield Instr.getLoop;simp only[Sem.run_bind,getObj,Sem.run,g1,Result.andThen_ok,Sem.run_pure];rw[if_neg (by rw[hargs.size,aA,g4];simp)];rfl
 refine roundIn_of_wpIn (Abo r _) ?_;rw[Apn]
 split at hev
 ·rename_i a1 s1 h1
  rw[<-g5]at h1
  have hz:(I.params.zip args').foldl (λt p=>t.setIfInBounds p.1 p.2) I.tmps=(q.params.toList.zip args'.toList).foldl (λt p=>t.setIfInBounds p.1 p.2) I.tmps:=by
   rw[g4,<-Array.foldl_toList,Array.toList_zip]
  rw[hz];refine wpIn_mono ((Qn (r:=some (β.b l)) (n:=n) E.draws E.names hcall (λh=>(by cases h)) 100000).1 I.assign β _ a1 s s1 .normal _ w h1 hW U) ?_;rintro e b1 w1 ⟨rfl,β1,y,X⟩
  show ∃w₂,_
  unfold Yo at hev
  split at hev
  case h_2=>cases hev
  rename_i q1 hat1
  have A:l<s.n:=Decidable.byContradiction λhn=>by rw[s.at_none hn]at hat;cases hat
  have m:β1.b l=β.b l:=y.ext.b l A;obtain⟨p',O,e2,e3,e4,e5,e6,e7,e8⟩:=Aec y.wr hat1;rw[m]at O
  split at hev
  case h_2=>cases hev
  rename_i hst
  have N:=Out.turn (o:= .loop {q1 with state:= .busy}) (o':= .loop {p' with state:= .busy}) y.wr J hat1 rfl (by rw[m];exact O) ⟨{p' with state:= .busy},by
   rw[m]
   simp[Array.getElem?_setIfInBounds,(Array.getElem?_eq_some_iff.1 O).1],rfl,e3,e4,e5,e6,e7,e8⟩
  rw[m]at N;refine⟨{w1 with heap:=w1.heap.setIfInBounds (β.b l) (.loop {p' with state:= .busy})},?_,?_⟩
  ·unfold Instr.beginRound Instr.getLoop;simp only[Sem.run_bind,getObj,Sem.run,O,Result.andThen_ok,Sem.run_pure,setObj];rw[e2,hst];rfl
  unfold AbE at hev
  split at hev
  case h_2=>cases hev
  rename_i ex a3 s3 h3
  split at hev
  case h_2=>cases hev
  rename_i q3 hat3
  cases hev;have Y:=X.ext N.ext N.le;rw[g6];refine wpIn_mono ((Qn (r:=some (β.b l)) (n:=n) E.draws E.names hcall (λh=>(by cases h)) 100000).1 q.body β1 a1 a3 _ s3 ex b1 _ h3 N.wr Y) ?_;rintro e b3 w3 ⟨rfl,β3,F,aC⟩
  have M:l<(s1.put l (.loop {q1 with state:= .busy})).n:=by have:=y.le;show l<s1.n;omega
  have D:β3.b l=β.b l:=by rw[F.ext.b l M,m]
  obtain⟨t',R,t2,t3,t4,t5,t6,t7,t8⟩:=Aec F.wr hat3;rw[D]at R
  have o4:=Out.turn (o:= .loop {q3 with state:=Uo (Ji ex),pending:=Ji ex}) (o':= .loop {t' with state:=Uo (Ji ex),pending:=Ji ex}) F.wr J hat3 rfl (by rw[D];exact R) ⟨{t' with state:=Uo (Ji ex),pending:=Ji ex},by
   rw[D]
   simp[Array.getElem?_setIfInBounds,(Array.getElem?_eq_some_iff.1 R).1],rfl,rfl,t4,t5,t6,t7,t8⟩
  rw[D]at o4;have B:=((y.trans N).trans F).trans o4
  have x:∀ j,j=Ji ex->(Instr.endRound (β.b l) j).run P w3= .ok (.bool j.isNone) {w3 with heap:=w3.heap.setIfInBounds (β.b l) (.loop {t' with state:=Uo (Ji ex),pending:=Ji ex})}:=by
   rintro j rfl;unfold Instr.endRound Instr.getLoop;simp only[Sem.run_bind,getObj,Sem.run,R,Result.andThen_ok,Sem.run_pure,setObj]
   cases ex<;>rfl
  have Z:VR β3 s3.n (.bool (Ji ex).isNone) (.bool (Ji ex).isNone):= .bool _
  cases ex with
  |normal=>exact⟨_,_,x none rfl,β3,_,rfl,B,Z⟩
  |exit id=>exact⟨_,_,x (some (.exit id)) rfl,β3,_,rfl,B,Z⟩
  |ret=>exact⟨_,_,x (some .ret) rfl,β3,_,rfl,B,Z⟩
 ·cases hev
 cases hev
theorem Vf (E:Env P drw idle orac):∀ n:Nat,Gf P (Tq P drw idle orac n)
 |0=>⟨λf args s v j _ h=>(by cases h),λl args s v j h=>(by cases h)⟩
 |n+1=>by
  have p:=Vf E n;refine⟨λf args s v j hen h β w args' hW hargs=>?_,λl args s v j h β w args' hW hargs r m=>?_⟩
  ·unfold Tq at h
   split at h
   ·rename_i u hu
    unfold Alo at h
    split at h
    case h_2=>cases h
    rename_i hf
    simp only[Bool.and_eq_true]at hf;cases h;rw[Aky hargs hf.1];refine(E.orac f args v hu w).mono ?_;rintro e x ⟨rfl,q⟩
    exact⟨β,v,rfl,Out.below hW q,Dt 8 _ hf.2⟩
   exact Ado E p h hW hargs
  exact AbN E p h hW hargs r m
end
inductive Kd where
 |free|read|eff
def kindOf:Op->Kd
 | .load .. | .lookup .. | .slice .. => .read
 | .alloc _| .box .. | .buildSlice .. | .makeSlice .. | .makeMap .. | .move _| .assign _| .pick .. | .nilCheck _| .binOp .. | .unOp .. | .convert .. | .makeInterface .. | .makeFunc .. | .fieldAddr .. | .field .. | .indexAddr .. | .index .. | .extract .. | .build .. => .free
 | .call {callee:= .builtin b,..}=>match b with
  | .len=> .read
  | .min| .max=> .free
  |_=> .eff
 |_=> .eff
structure Ky where
 i:Nat
 val:Value
 ml:List Nat
 eff:Bool
structure Dr where
 ds:List Ky
 cs:List AS
 s:AS
def Cj (ops:Array Oper) (i:Nat):Option Tmp:=(ops[i]?).bind (·.dst)
def find (ds:List Ky) (i:Nat):Option Ky:=
 match ds with
 | []=>none
 |d::r=>match Nat.beq d.i i with
  |true=>some d
  |false=>find r i
def Vq (ops:Array Oper) (i t:Nat):Bool:=
 match Cj ops i with
 |some t'=>Nat.beq t' t
 |none=>false
def Lb (ops:Array Oper) (ds:List Ky) (t:Nat):Option Ky:=
 match ds with
 | []=>none
 |d::r=>match Vq ops d.i t with
  |true=>some d
  |false=>Lb ops r t
def rho (ops:Array Oper) (a:Ac) (ds:List Ky):Operand->Value
 | .tmp t=>match Lb ops ds t with
  |some d=>d.val
  |none=>a.eval (.tmp t)
 |x=>a.eval x
def big:Nat:=900000
def dummy:AS:=⟨big,.nil,0⟩
def AbZ (f:Value->Option (List Nat)):List Value->Option (List Nat)
 | []=>some []
 |v::r=>match f v,AbZ f r with
  |some a,some b=>some (a++b)
  |_,_=>none
def ments:Nat->Value->Option (List Nat)
 |_,.pointer (some a)=>some [a.block]
 |_,.slice (some a) _ _=>some [a.block]
 |_,.map (some r)=>some [r]
 |f+1,.func (.func _) fs cs=>AbZ (ments f) (fs.toList++cs.toList)
 |f+1,.agg cs=>AbZ (ments f) cs.toList
 |f+1,.tuple cs=>AbZ (ments f) cs.toList
 |f+1,.iface _ v=>ments f v
 |_,.bool _=>some []
 |_,.int _ _=>some []
 |_,.float _ _=>some []
 |_,.string _=>some []
 |_,.pointer none=>some []
 |_,.slice none _ _=>some []
 |_,.map none=>some []
 |_,.nilFunc=>some []
 |_,.nilIface=>some []
 |_,_=>none
def Yw (g:Value->Value->Bool):List Value->List Value->Bool
 | [],[]=>true
 |x::xs,y::ys=>g x y&&Yw g xs ys
 |_,_=>false
def eqV:Nat->Value->Value->Bool
 |0,_,_=>false
 |f+1,u,v=>match u,v with
  | .bool a,.bool b=>a==b
  | .int k a,.int j b=>decide (k=j)&&decide (a=b)
  | .float k a,.float j b=>decide (k=j)&&decide (a=b)
  | .string a,.string b=>decide (a.data.toList=b.data.toList)
  | .pointer a,.pointer b=>decide (a=b)
  | .slice a l c,.slice b m d=>decide (a=b)&&(Nat.beq l m&&Nat.beq c d)
  | .map a,.map b=>decide (a=b)
  | .nilFunc,.nilFunc=>true
  | .nilIface,.nilIface=>true
  | .func g fs cs,.func h gs ds=>decide (g=h)&&(Yw (eqV f) fs.toList gs.toList&&Yw (eqV f) cs.toList ds.toList)
  | .agg cs,.agg ds=>Yw (eqV f) cs.toList ds.toList
  | .tuple cs,.tuple ds=>Yw (eqV f) cs.toList ds.toList
  | .iface t v,.iface u w=>Nat.beq t u&&eqV f v w
  |_,_=>false
def AjQ (acc:List Nat) (o:Oper):Nat:=
 o.after.toList.foldl (λs e=>match Region.binds .any e with
  |true=>s ||| 2^e.on ||| acc.getD e.on 0
  |false=>s) 0
def befores:List Oper->List Nat->List Nat
 | [],acc=>acc
 |o::r,acc=>befores r (acc++ [AjQ acc o])
def before (bs:List Nat) (i j:Nat):Bool:=(bs.getD i 0).testBit j
def Apc (ops:Array Oper) (i:Nat):Bool:=
 match ops[i]? with
 |some o=>match kindOf o.op with
  | .eff=>true
  |_=>false
 |none=>false
def AcX (bs:List Nat) (n:Nat):List Nat->List Nat->List Nat
 | [],done=>done++(List.range n).filter λi=> !done.contains i
 |e::es,done=>AcX bs n es (done++((List.range n).filter λi=> !done.contains i&&before bs e i)++ [e])
def Bu (ops:Array Oper):List Nat:=befores ops.toList []
def Adp (ops:Array Oper) (bs:List Nat):List Nat:=AcX bs ops.size ((List.range ops.size).filter (Apc ops)) []
def Aac (o:Oper):List Nat:=o.op.operands.toList.filterMap fun| .tmp t=>some t|_=>none
def Amg (ops:Array Oper) (bs:List Nat) (n:Nat):Bool:=
 (List.range ops.size).all λi=>match ops[i]? with
  |none=>false
  |some o=>(o.after.toList.all λe=> !Region.binds .any e||(Nat.blt e.on i&&before bs i e.on))&&
   ((List.range ops.size).all λj=>match Cj ops j with
     |none=>true
     |some t=>Nat.blt t n&&(!(Aac o).contains t||before bs i j||before bs j i)&&(Nat.beq i j|| !Vq ops i t))&&
   (match o.guard with
    |none=>true
    |some (j,_)=>before bs i j&&(Cj ops j).isSome)
def Ra (ds:List Ky) (o:Oper):Option Bool:=
 match o.guard with
 |none=>some true
 |some (j,b)=>match find ds j with
  |some d=>match d.val with
   | .bool c=>some (c==b)
   | .tuple _=>some false
   |_=>none
  |none=>none
def Vt (bs:List Nat) (i:Nat):List Ky->Nat
 | []=>0
 |d::r=>match d.eff&&before bs i d.i with
  |true=>Vt bs i r+1
  |false=>Vt bs i r
def Hi (o:Oper) (ρ:Operand->Value):Option (List Nat):=AbZ (ments 8) ((Aac o).map λt=>ρ (.tmp t))
def AoH (l k:List Nat):Bool:=l.all λb=>k.any (Nat.beq b)
def ltL (n:Nat) (l:List Nat):Bool:=l.all λb=>Nat.blt b n
def readAll (P:Program) (o:Oper) (ρ:Operand->Value) (v:Value) (l ml:List Nat):List AS->Bool
 | []=>true
 |c::r=>(match evA P o ρ c with
  |some (u,_)=>ltL c.n l&&(ltL c.n ml&&eqV 8 u v)
  |none=>false)&&readAll P o ρ v l ml r
def AlP (P:Program) (ops:Array Oper) (a:Ac) (bs:List Nat) (i:Nat) (o:Oper) (s:Dr):Res Dr:=
 match s.cs with
 | []=> .no [i,60]
 |c::_=>match evA P o (rho ops a s.ds) c,Hi o (rho ops a s.ds) with
  |some (v,_),some l=>match ments 8 v with
   |some ml=>match readAll P o (rho ops a s.ds) v l ml (s.cs.take (Nat.sub s.cs.length (Vt bs i s.ds))) with
    |true=> .ok ⟨⟨i,v,ml,false⟩::s.ds,s.cs,s.s⟩
    |false=> .no [i,61]
   |none=> .no [i,62]
  |_,_=> .no [i,6]
def Xa (m:Nat):Value->Option Value
 | .pointer (some a)=>match Nat.beq a.block big,a.spot with
  |true,none=>some (.pointer (some ⟨m,a.off,none⟩))
  |_,_=>none
 | .slice (some a) l c=>match Nat.beq a.block big,a.spot with
  |true,none=>some (.slice (some ⟨m,a.off,none⟩) l c)
  |_,_=>none
 | .map (some r)=>match Nat.beq r big with
  |true=>some (.map (some m))
  |false=>none
 |_=>none
def newObj (k:List Nat):Obj->Bool
 | .cells c _ _=>match AbZ (ments 8) c.toList with
  |some l=>AoH l k
  |none=>false
 | .map es _=>es.isEmpty
 |_=>false
def Ala (P:Program) (ops:Array Oper) (a:Ac) (i:Nat) (o:Oper) (s:Dr):Res Dr:=
 match evA P o (rho ops a s.ds) dummy,Hi o (rho ops a s.ds) with
 |some (v,s'),some l=>match Nat.beq s'.n big with
  |true=>match ments 8 v with
   |some ml=>match AoH ml l with
    |true=> .ok ⟨⟨i,v,ml,false⟩::s.ds,s.cs,s.s⟩
    |false=> .no [i,71]
   |none=> .no [i,72]
  |false=>match Nat.beq s'.n (Nat.succ big),s'.at big,Xa s.s.n v with
   |true,some ob,some v'=>match newObj l ob&&ltL s.s.n l&&Nat.blt s.s.n big with
    |true=> .ok ⟨⟨i,v',[s.s.n],false⟩::s.ds,s.cs,s.s.push ob⟩
    |false=> .no [i,73]
   |_,_,_=> .no [i,74]
 |_,_=> .no [i,7]
def Qa (bs:List Nat) (e:Nat):List Ky->Bool
 | []=>true
 |d::r=>before bs e d.i&&(match d.eff with
  |true=>true
  |false=>Qa bs e r)
def Aok (P:Program) (call:Dc) (ops:Array Oper) (bs:List Nat) (a:Ac) (i:Nat) (o:Oper) (s:Dr):Res Dr:=
 match Qa bs i s.ds,Hi o (rho ops a s.ds) with
 |true,some l=>match ltL s.s.n l with
  |true=>match Ael P call o (rho ops a s.ds) s.s with
   | .ok (v,s')=>match ments 8 v,Nat.ble s.s.n s'.n with
    |some ml,true=> .ok ⟨⟨i,v,ml,true⟩::s.ds,s'::s.cs,s'⟩
    |_,_=> .no [i,81]
   | .no l=> .no (i::l)
  |false=> .no [i,82]
 |_,_=> .no [i,8]
def AlH (P:Program) (call:Dc) (ops:Array Oper) (bs:List Nat) (a:Ac) (i:Nat) (o:Oper) (s:Dr):Res Dr:=
 match kindOf o.op with
 | .eff=>Aok P call ops bs a i o s
 | .read=>AlP P ops a bs i o s
 | .free=>Ala P ops a i o s
def behind (bs:List Nat) (i:Nat) (ds:List Ky):Bool:=
 ((List.range i).all λj=> !before bs i j||(find ds j).isSome)&&(find ds i).isNone
def Ip (P:Program) (call:Dc) (ops:Array Oper) (bs:List Nat) (a:Ac) (i:Nat) (s:Dr):Res Dr:=
 match ops[i]? with
 |none=> .no [i,3]
 |some o=>match behind bs i s.ds&&o.op.operands.toList.all okX,Ra s.ds o with
  |true,some true=>AlH P call ops bs a i o s
  |true,some false=> .ok ⟨⟨i,undef,[],false⟩::s.ds,s.cs,s.s⟩
  |_,_=> .no [i,9]
def Ea (P:Program) (call:Dc) (ops:Array Oper) (bs:List Nat) (a:Ac):List Nat->Dr->Res Dr
 | [],s=> .ok s
 |i::r,s=>match Ip P call ops bs a i s with
  | .ok s'=>Ea P call ops bs a r s'
  | .no l=> .no l
def Ym (ops:Array Oper) (a:Ac):List Ky->Ac
 | []=>a
 |d::r=>(Ym ops a r).put (Cj ops d.i) d.val
def Aqk (n:Nat) (ds:List Ky):Bool:=(List.range n).all λi=>(find ds i).isSome
def Ain (P:Program) (call:Dc) (ops:Array Oper) (bs:List Nat) (a:Ac) (s:AS):Res (Ac×AS):=
 match Amg ops bs a.n&&Nat.blt s.n big with
 |true=>match Ea P call ops bs a (Adp ops bs) ⟨[],[s],s⟩ with
  | .ok r=>match Aqk ops.size r.ds&&Nat.blt r.s.n big with
   |true=> .ok (Ym ops a r.ds,r.s)
   |false=> .no [100]
  | .no l=> .no l
 |false=> .no [101]
def Wq (P:Program):Qk:=λcall ops a s=>Ain P call ops (Bu ops) a s
section
variable {P:Program} {ops:Array Oper} {Q:Exit->Act->World->Prop} {F:Fence} {n:Nat}
theorem Yh (I:(Nat->Prop)->Act->World->Prop) (hwf:∀ (j:Nat) o,ops[j]?=some o->∀e∈o.after,Region.binds .any e=true->e.on<j)
  (hstep:∀ D a w i o,ops[i]?=some o->¬D i->(∀e∈o.after,Region.binds .any e=true->D e.on)->I D a w->wpOpIn F n P ops Q i (λp r=>I (λj=>j=i∨D j) p r) a w)
  (hdone:∀ D a w,(∀j,D j)->I D a w->Q .normal a w):
  ∀(fuel:Nat) (listed:Array Bool) (a:Act) (w:World),listed.size=ops.size->Sx listed<=fuel->I (λj=>listed.getD j true=true) a w->wpAnyIn F n P .any ops Q fuel listed a w
 |0,listed,a,w,hs,hf,hI=>by
  have m:Region.ready .any ops listed= []:=by
   cases h:Region.ready .any ops listed with
   |nil=>rfl
   |cons i rs=>
    have hi:i∈Region.ready .any ops listed:=by rw[h];simp
    have:=Wt (mem_ready.1 hi).1
    omega
  exact⟨m,hdone _ a w (Nm hwf hs m) hI⟩
 |fuel+1,listed,a,w,hs,hf,hI=>by
  refine⟨λm=>hdone _ a w (Nm hwf hs m) hI,λi hi=>?_⟩;obtain⟨y,o,J,B⟩:=mem_ready.1 hi;refine wpOpIn_mono (λp r q=>?_) (hstep _ a w i o J (by rw[y];simp) (λe E z=>?_) hI)
  ·refine Yh I hwf hstep hdone fuel _ p r (by simpa using hs) (by have:=Sb y;omega) ?_;have l:(λj=>(listed.setIfInBounds i true).getD j true=true)=λj=>j=i∨listed.getD j true=true:=funext λj=>propext (AaS j);rw[l];exact q
  have x:=B e E z
  have h2:e.on<listed.size:=by
   rcases Nat.lt_or_ge e.on listed.size with h|h
   ·exact h
   simp[Array.getD,Nat.not_lt.2 h]at x
  simpa[Array.getD,h2] using x
theorem Yx {id:Nat} {a:Act} {w:World} (I:(Nat->Prop)->Act->World->Prop) (hm:P.follows .mixedOrders=true)
  (hwf:∀ (j:Nat) o,ops[j]?=some o->∀e∈o.after,Region.binds .any e=true->e.on<j)
  (h0:I (λj=>ops.size<=j) a {w with drawn:=w.drawn+1})
  (hstep:∀ D a w i o,ops[i]?=some o->¬D i->(∀e∈o.after,Region.binds .any e=true->D e.on)->I D a w->wpOpIn F n P ops Q i (λp q=>I (λj=>j=i∨D j) p q) a w)
  (hdone:∀ D a w,(∀j,D j)->I D a w->Q .normal a w):(Code.region id ops true).wpIn F n P Q a w:=by
 refine wpIn_region_any hm (Yh I hwf hstep hdone ops.size _ a _ (by simp) (by unfold Sx;simp[List.countP_replicate]) ?_)
 have l:(λj=>(Array.replicate ops.size false).getD j true=true)=λj=>ops.size<=j:=funext λj=>propext (by
  by_cases m:j<ops.size
  ·simp[Array.getD,m]
  simp[Array.getD,m];omega)
 rw[l];exact h0
end
section
variable {γ γ':Ren} {n m:Nat}
structure Same (γ γ':Ren) (i:Nat):Prop where
 b:γ'.b i=γ.b i
 size:γ'.size i=γ.size i
 k:γ'.k i=γ.k i
 z:γ'.z i=γ.z i
theorem Kl {f:Value->Option (List Nat)}:∀ {xs:List Value} {l:List Nat},AbZ f xs=some l->∀x∈xs,∃m,f x=some m/\∀b∈m,b∈l
 | [],l,h,x,j=>by cases j
 |v::r,l,h,x,j=>by
  unfold AbZ at h
  split at h
  case h_2=>cases h
  rename_i a b ha hb
  cases h
  rcases List.mem_cons.1 j with rfl|j
  ·exact⟨a,ha,λc p=>List.mem_append_left _ p⟩
  obtain⟨m,q,h2⟩:=Kl hb x j
  exact⟨m,q,λc p=>List.mem_append_right _ (h2 c p)⟩
theorem Qu {f:Value->Option (List Nat)} {p:Nat->Prop}:∀ {xs:List Value} {l:List Nat},AbZ f xs=some l->(∀x∈xs,∀lx,f x=some lx->∀b∈lx,p b)->∀b∈l,p b
 | [],l,h,hp,b,j=>by cases h;cases j
 |v::r,l,h,hp,b,j=>by
  unfold AbZ at h
  split at h
  case h_2=>cases h
  rename_i a c ha hc
  cases h
  rcases List.mem_append.1 j with j|j
  ·exact hp v (by simp) a ha b j
  exact Qu hc (λx m=>hp x (by simp[m])) b j
def Fits (γ:Ren) (n:Nat) (v v':Value):Prop:=∀ (f:Nat) (l:List Nat),ments f v=some l->(∀b∈l,b<n)/\∀(γ':Ren) (m:Nat),(∀b∈l,b<m/\Same γ γ' b)->VR γ' m v v'
theorem VR.fits {v v':Value} (h:VR γ n v v'):Fits γ n v v':=by
 induction h with
 |bool b=>exact λf l j=>⟨by cases f<;>(simp[ments]at j;simp[*]),λγ' m h=> .bool b⟩
 |int k x=>exact λf l j=>⟨by cases f<;>(simp[ments]at j;simp[*]),λγ' m h=> .int k x⟩
 |float k x=>exact λf l j=>⟨by cases f<;>(simp[ments]at j;simp[*]),λγ' m h=> .float k x⟩
 |string s=>exact λf l j=>⟨by cases f<;>(simp[ments]at j;simp[*]),λγ' m h=> .string s⟩
 |nilPtr=>exact λf l j=>⟨by cases f<;>(simp[ments]at j;simp[*]),λγ' m h=> .nilPtr⟩
 |nilSlice=>exact λf l j=>⟨by cases f<;>(simp[ments]at j;simp[*]),λγ' m h=> .nilSlice⟩
 |nilMap=>exact λf l j=>⟨by cases f<;>(simp[ments]at j;simp[*]),λγ' m h=> .nilMap⟩
 |nilFunc=>exact λf l j=>⟨by cases f<;>(simp[ments]at j;simp[*]),λγ' m h=> .nilFunc⟩
 |nilIface=>exact λf l j=>⟨by cases f<;>(simp[ments]at j;simp[*]),λγ' m h=> .nilIface⟩
 |ptr b o h=>
  intro f l j
  have j:l= [b]:=by cases f<;>(simp[ments]at j;simp[*])
  subst j;refine⟨by simpa using h,λγ' m hs=>?_⟩;obtain⟨B,h2⟩:=hs b (by simp);rw[<-h2.b];exact .ptr b o B
 |slice b o l c o' c' h hc hs ho=>
  intro f l j
  have j:l= [b]:=by cases f<;>(simp[ments]at j;simp[*])
  subst j;refine⟨by simpa using h,λγ' m hm=>?_⟩;obtain⟨B,h2⟩:=hm b (by simp);rw[<-h2.b];exact .slice b o _ c o' c' B hc (by rw[h2.z,h2.size];exact hs) (by rw[h2.k];exact ho)
 |map r h=>
  intro f l j
  have j:l= [r]:=by cases f<;>(simp[ments]at j;simp[*])
  subst j;refine⟨by simpa using h,λγ' m hm=>?_⟩;obtain⟨B,h2⟩:=hm r (by simp);rw[<-h2.b];exact .map r B
 |yield l h=>intro f k j;cases f<;>simp[ments]at j
 |func X Y O N F B h2 Z A R S=>
  intro f l j
  cases f with
  |zero=>simp[ments]at j
  |succ f=>
   simp only[ments]at j
   have E:∀ x y,((∃i:Nat,Y[i]?=some x/\O[i]?=some y)∨(∃i:Nat,N[i]?=some x/\F[i]?=some y))->Fits γ n x y/\∃q,ments f x=some q/\∀b∈q,b∈l:=by
    rintro x y (⟨i,p,hy⟩|⟨i,p,hy⟩)
    ·exact⟨R i x y p hy,Kl j x (by simp[Array.mem_toList_iff,Array.mem_of_getElem? p])⟩
    exact⟨S i x y p hy,Kl j x (by simp[Array.mem_toList_iff,Array.mem_of_getElem? p])⟩
   refine⟨Qu j λx p q D=>?_,λγ' m hm=>?_⟩
   ·rcases List.mem_append.1 p with p|p
    ·obtain⟨i,hi⟩:=Array.mem_iff_getElem?.1 (Array.mem_toList_iff.1 p);obtain⟨y,hy,_⟩:=VRs.get ⟨B,Z⟩ hi
     exact((E x y (.inl ⟨i,hi,hy⟩)).1 f q D).1
    obtain⟨i,hi⟩:=Array.mem_iff_getElem?.1 (Array.mem_toList_iff.1 p);obtain⟨y,hy,_⟩:=VRs.get ⟨h2,A⟩ hi
    exact((E x y (.inr ⟨i,hi,hy⟩)).1 f q D).1
   refine .func X _ _ _ _ B h2 (λi x y p hy=>?_) (λi x y p hy=>?_)
   ·obtain⟨U,q,J,M⟩:=E x y (.inl ⟨i,p,hy⟩)
    exact(U f q J).2 γ' m λb I=>hm b (M b I)
   obtain⟨U,q,J,M⟩:=E x y (.inr ⟨i,p,hy⟩)
   exact(U f q J).2 γ' m λb I=>hm b (M b I)
 |iface t v v' h ih=>
  intro f l j
  cases f with
  |zero=>simp[ments]at j
  |succ f=>
   simp only[ments]at j
   exact⟨(ih f l j).1,λγ' m hm=> .iface t _ _ ((ih f l j).2 γ' m hm)⟩
 |agg N F B h2 ih=>
  intro f l j
  cases f with
  |zero=>simp[ments]at j
  |succ f=>
   simp only[ments]at j;refine⟨Qu j λx p q D=>?_,λγ' m hm=> .agg _ _ B λi x y p hy=>?_⟩
   ·obtain⟨i,hi⟩:=Array.mem_iff_getElem?.1 (Array.mem_toList_iff.1 p);obtain⟨y,hy,_⟩:=VRs.get ⟨B,h2⟩ hi
    exact(ih i x y hi hy f q D).1
   obtain⟨q,J,M⟩:=Kl j x (by simp[Array.mem_toList_iff,Array.mem_of_getElem? p])
   exact(ih i x y p hy f q J).2 γ' m λb I=>hm b (M b I)
 |tuple N F B h2 ih=>
  intro f l j
  cases f with
  |zero=>simp[ments]at j
  |succ f=>
   simp only[ments]at j;refine⟨Qu j λx p q D=>?_,λγ' m hm=> .tuple _ _ B λi x y p hy=>?_⟩
   ·obtain⟨i,hi⟩:=Array.mem_iff_getElem?.1 (Array.mem_toList_iff.1 p);obtain⟨y,hy,_⟩:=VRs.get ⟨B,h2⟩ hi
    exact(ih i x y hi hy f q D).1
   obtain⟨q,J,M⟩:=Kl j x (by simp[Array.mem_toList_iff,Array.mem_of_getElem? p])
   exact(ih i x y p hy f q J).2 γ' m λb I=>hm b (M b I)
end
theorem Afd {g:Value->Value->Bool} (hg:∀ u v,g u v=true->u=v):∀ (xs ys:List Value),Yw g xs ys=true->xs=ys
 | [],[],h=>rfl
 | [],_::_,h=>by cases h
 |_::_,[],h=>by cases h
 |x::xs,y::ys,h=>by
  simp only[Yw,Bool.and_eq_true]at h;rw[hg x y h.1,Afd hg xs ys h.2]
theorem AoW:∀ (f:Nat) (u v:Value),eqV f u v=true->u=v:=by
 intro f
 induction f with
 |zero=>intro u v h;cases h
 |succ f p=>
  intro u v h;have j:∀ l m:Array Value,Yw (eqV f) l.toList m.toList=true->l=m:=λl m h=>Array.ext' (Afd p _ _ h)
  cases u<;>cases v<;>simp only[eqV,Bool.and_eq_true,decide_eq_true_eq,beq_iff_eq,Bool.false_eq_true]at h<;>first|(exact h.elim;done)|skip
  case bool.bool=>rw[h]
  case int.int=>rw[h.1,h.2]
  case float.float=>rw[h.1,h.2]
  case string.string a b=>exact congrArg Value.string (ByteArray.ext (Array.ext' h))
  case pointer.pointer=>rw[h]
  case slice.slice=>rw[h.1,Nat.eq_of_beq_eq_true h.2.1,Nat.eq_of_beq_eq_true h.2.2]
  case map.map=>rw[h]
  case func.func=>rw[h.1,j _ _ h.2.1,j _ _ h.2.2]
  case agg.agg=>rw[j _ _ h]
  case tuple.tuple=>rw[j _ _ h]
  case iface.iface=>rw[Nat.eq_of_beq_eq_true h.1,p _ _ h.2]
  all_goals rfl
end Go.Mir
end
