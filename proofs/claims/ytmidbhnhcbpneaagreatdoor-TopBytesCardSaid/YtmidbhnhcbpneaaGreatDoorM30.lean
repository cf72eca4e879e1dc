/- A part of the proof. -/
import Derived.Test.YtmidbhnhcbpneaaGreatDoorM29
set_option linter.unusedVariables false
set_option linter.unusedSimpArgs false
set_option linter.unusedSectionVars false
set_option maxRecDepth 8000
set_option maxHeartbeats 8000000
section
namespace Go.Mir
open Go.RowKit Go.Lt Go.Instr Go.Builtin
section
variable {ops:Array Oper} {bs:List Nat} {n:Nat}
structure Stat (ops:Array Oper) (bs:List Nat) (n:Nat):Prop where
 lt:∀ (i:Nat) o,ops[i]?=some o->∀e∈o.after,Region.binds .any e=true->e.on<i/\before bs i e.on=true
 dst:∀ (i:Nat) o (j t:Nat),ops[i]?=some o->Cj ops j=some t->t<n/\(t∈Aac o->before bs i j=true∨before bs j i=true)/\(Cj ops i=some t->i=j)
 grd:∀ (i:Nat) o j b,ops[i]?=some o->o.guard=some (j,b)->before bs i j=true/\∃t,Cj ops j=some t
theorem Oc {j t:Nat} (h:Cj ops j=some t):j<ops.size:=by
 unfold Cj at h
 rcases Nat.lt_or_ge j ops.size with l|l
 ·exact l
 rw[Array.getElem?_eq_none l]at h;cases h
theorem Ou {i t:Nat}:Vq ops i t=true↔Cj ops i=some t:=by
 unfold Vq
 cases h:Cj ops i with
 |none=>simp
 |some j=>exact⟨λh=>by rw[Nat.eq_of_beq_eq_true h],λh=>by injection h with e;subst e;exact Nat.beq_refl _⟩
theorem Hr {a b:Nat}:Nat.beq a b=true↔a=b:=⟨Nat.eq_of_beq_eq_true,λh=>by subst h;exact Nat.beq_refl a⟩
theorem Ph {a b:Nat}:Nat.blt a b=true↔a<b:=by
 rcases Cg a b with⟨j,h2⟩|⟨j,h2⟩<;>simp[j,h2]
theorem Anc (h:Amg ops bs n=true):Stat ops bs n:=by
 unfold Amg at h;rw[List.all_eq_true]at h
 have p:∀ (i:Nat) o,ops[i]?=some o->_:=λi o m=>by
  have l:=h i (List.mem_range.2 (Array.getElem?_eq_some_iff.1 m).1);rw[m]at l;simp only[Bool.and_eq_true]at l;exact l
 refine⟨λi o m e x r=>?_,λi o j t m q=>?_,λi o j b m y=>?_⟩
 ·have l:=List.all_eq_true.1 (p i o m).1.1 e (Array.mem_toList_iff.2 x);simp only[r,Bool.not_true,Bool.false_or,Bool.and_eq_true,Ph]at l;exact l
 ·have l:=List.all_eq_true.1 (p i o m).1.2 j (List.mem_range.2 (Oc q));rw[q]at l;simp only[Bool.and_eq_true,Bool.or_eq_true,Bool.not_eq_true',Ph,Hr]at l;refine⟨l.1.1,λz=>?_,λhi=>?_⟩
  ·rcases l.1.2 with(h2|h2)|h2
   ·simp[List.contains_iff_mem,z]at h2
   ·exact .inl h2
   exact .inr h2
  rcases l.2 with h2|h2
  ·exact h2
  rw[Ou.2 hi]at h2;cases h2
 have l:=(p i o m).2;rw[y]at l;simp only[Bool.and_eq_true,Option.isSome_iff_exists]at l;exact l
theorem Aeq {acc:List Nat} {j:Nat}:∀ (l:List Edge) (s:Nat),(l.foldl (λs e=>match Region.binds .any e with
  |true=>s ||| 2^e.on ||| acc.getD e.on 0
  |false=>s) s).testBit j=true->s.testBit j=true∨∃e∈l,Region.binds .any e=true/\(e.on=j∨(acc.getD e.on 0).testBit j=true)
 | [],s,h=> .inl h
 |e::l,s,h=>by
  rw[List.foldl_cons]at h
  rcases Aeq l _ h with m|⟨q,m,h2⟩
  ·cases p:Region.binds .any e with
   |false=>rw[p]at m;exact .inl m
   |true=>
    rw[p]at m;simp only[Nat.testBit_or,Bool.or_eq_true,Nat.testBit_two_pow,decide_eq_true_eq]at m
    rcases m with(m|m)|m
    ·exact .inl m
    ·exact .inr ⟨e,by simp,p,.inl m⟩
    exact .inr ⟨e,by simp,p,.inr m⟩
  exact .inr ⟨q,by simp[m],h2⟩
theorem Xw:∀ (l:List Oper) (acc:List Nat),∃r,befores l acc=acc++r/\r.length=l.length
 | [],acc=>⟨[],by simp[befores]⟩
 |o::l,acc=>by
  obtain⟨r,j,h2⟩:=Xw l (acc++ [AjQ acc o])
  exact⟨AjQ acc o::r,by rw[befores,j];simp,by simp[h2]⟩
theorem Aan:∀ (l:List Oper) (acc:List Nat) (k:Nat) (o:Oper),l[k]?=some o->∃pre,(∀e j,(pre.getD e 0).testBit j=true->((befores l acc).getD e 0).testBit j=true)/\(befores l acc).getD (acc.length+k) 0=AjQ pre o
 | [],acc,k,o,h=>by simp at h
 |o'::l,acc,0,o,h=>by
  simp only[List.getElem?_cons_zero,Option.some.injEq]at h;subst h;obtain⟨r,m,h2⟩:=Xw l (acc++ [AjQ acc o']);refine⟨acc,λe j p=>?_,?_⟩
  ·rw[befores,m]
   rcases Nat.lt_or_ge e acc.length with q|q
   ·simpa[List.getD_eq_getElem?_getD,List.getElem?_append_left,q] using p
   rw[List.getD_eq_getElem?_getD,List.getElem?_eq_none q]at p;simp at p
  rw[befores,m];simp[List.getD_eq_getElem?_getD]
 |o'::l,acc,k+1,o,h=>by
  rw[List.getElem?_cons_succ]at h;obtain⟨pre,m,h2⟩:=Aan l (acc++ [AjQ acc o']) k o h;refine⟨pre,m,?_⟩;rw[<-h2,befores]
  congr 1
  simp
  omega
theorem Yt {i j:Nat} {o:Oper} (ho:ops[i]?=some o) (h:before (Bu ops) i j=true):∃ e∈o.after,Region.binds .any e=true/\(e.on=j∨before (Bu ops) e.on j=true):=by
 obtain⟨pre,m,h2⟩:=Aan ops.toList [] i o (by simpa using ho);unfold before Bu at h ⊢;rw[show i=([]:List Nat).length+i by simp,h2]at h
 rcases Aeq _ _ h with l|⟨e,l,p,q⟩
 ·simp at l
 exact⟨e,Array.mem_toList_iff.1 l,p,q.imp_right (m e.on j)⟩
theorem AeV {D:Nat->Prop} {i:Nat} {o:Oper} (hlt:∀ (j:Nat) o,ops[j]?=some o->∀e∈o.after,Region.binds .any e=true->e.on<j) (hc:∀ k,k<ops.size->D k->∀j,before (Bu ops) k j=true->D j) (ho:ops[i]?=some o) (hd:∀ e∈o.after,Region.binds .any e=true->D e.on):∀ j,before (Bu ops) i j=true->D j:=by
 intro j h;obtain⟨e,l,h2,m⟩:=Yt ho h;have hi:=(Array.getElem?_eq_some_iff.1 ho).1
 have:=hlt i o ho e l h2
 rcases m with rfl|m
 ·exact hd e l h2
 exact hc e.on (by omega) (hd e l h2) j m
end
section
theorem Pa {ds:List Ky} {i:Nat} {d:Ky} (h:find ds i=some d):d∈ds/\d.i=i:=by
 induction ds with
 |nil=>cases h
 |cons l r j=>
  unfold find at h
  split at h
  ·rename_i hb
   cases h
   exact⟨by simp,Nat.eq_of_beq_eq_true hb⟩
  exact⟨by simp[(j h).1],(j h).2⟩
theorem Nj {ds:List Ky} {i:Nat} (d:Ky) (j:d∈ds) (hi:d.i=i):(find ds i).isSome=true:=by
 induction ds with
 |nil=>cases j
 |cons m r l=>
  unfold find;split
  ·rfl
  rename_i hb
  rcases List.mem_cons.1 j with rfl|j
  ·rw[hi,Nat.beq_refl]at hb;cases hb
  exact l j
theorem Yl {ops:Array Oper} {ds:List Ky} {t:Nat} {d:Ky} (h:Lb ops ds t=some d):d∈ds/\Cj ops d.i=some t:=by
 induction ds with
 |nil=>cases h
 |cons l r j=>
  unfold Lb at h
  split at h
  ·rename_i hb
   cases h
   exact⟨by simp,Ou.1 hb⟩
  exact⟨by simp[(j h).1],(j h).2⟩
theorem Yb {ops:Array Oper} {ds:List Ky} {t:Nat} (h:Lb ops ds t=none):∀ d∈ds,Cj ops d.i≠some t:=by
 induction ds with
 |nil=>simp
 |cons m r l=>
  unfold Lb at h
  split at h
  ·cases h
  rename_i hb
  intro d j
  rcases List.mem_cons.1 j with rfl|j
  ·intro e;rw[Ou.2 e]at hb;cases hb
  exact l h d j
end
section
variable {P:Program} {call:Dc} {ops:Array Oper} {bs:List Nat} {a:Ac}
inductive Came (P:Program) (call:Dc) (ops:Array Oper) (bs:List Nat) (a:Ac) (i:Nat) (o:Oper) (s:Dr):Dr->Prop
 |skip (hg:Ra s.ds o=some false):Came P call ops bs a i o s ⟨⟨i,undef,[],false⟩::s.ds,s.cs,s.s⟩
 |still (v:Value) (s':AS) (l ml:List Nat) (hg:Ra s.ds o=some true) (h:evA P o (rho ops a s.ds) dummy=some (v,s')) (hn:s'.n=big) (hl:Hi o (rho ops a s.ds)=some l) (hm:ments 8 v=some ml)
  (hs:∀ b∈ml,b∈l):Came P call ops bs a i o s ⟨⟨i,v,ml,false⟩::s.ds,s.cs,s.s⟩
 |make (v:Value) (s':AS) (l:List Nat) (ob:Obj) (v':Value) (hg:Ra s.ds o=some true) (h:evA P o (rho ops a s.ds) dummy=some (v,s')) (hn:s'.n=big+1) (hl:Hi o (rho ops a s.ds)=some l)
  (hat:s'.at big=some ob) (hv:Xa s.s.n v=some v') (hob:newObj l ob=true) (hlt:∀ b∈l,b<s.s.n) (hb:s.s.n<big):Came P call ops bs a i o s ⟨⟨i,v',[s.s.n],false⟩::s.ds,s.cs,s.s.push ob⟩
 |read (v:Value) (l ml:List Nat) (hk:kindOf o.op= .read) (hg:Ra s.ds o=some true) (hl:Hi o (rho ops a s.ds)=some l) (hm:ments 8 v=some ml)
  (hall:∀ c∈s.cs.take (s.cs.length-Vt bs i s.ds),∃s',evA P o (rho ops a s.ds) c=some (v,s')/\(∀b∈l,b<c.n)/\∀b∈ml,b<c.n):Came P call ops bs a i o s ⟨⟨i,v,ml,false⟩::s.ds,s.cs,s.s⟩
 |eff (v:Value) (s':AS) (l ml:List Nat) (hg:Ra s.ds o=some true) (hsince:Qa bs i s.ds=true) (hl:Hi o (rho ops a s.ds)=some l) (hlt:∀ b∈l,b<s.s.n)
  (h:Ael P call o (rho ops a s.ds) s.s= .ok (v,s')) (hm:ments 8 v=some ml) (hle:s.s.n<=s'.n):Came P call ops bs a i o s ⟨⟨i,v,ml,true⟩::s.ds,s'::s.cs,s'⟩
theorem AaI {l k:List Nat} (h:AoH l k=true):∀ b∈l,b∈k:=by
 intro b j;obtain⟨c,m,h2⟩:=List.any_eq_true.1 (List.all_eq_true.1 h b j);rw[Hr]at h2;subst h2;exact m
theorem Adx {n:Nat} {l:List Nat} (h:ltL n l=true):∀ b∈l,b<n:=λb j=>Ph.1 (List.all_eq_true.1 h b j)
theorem Yc {o:Oper} {ρ:Operand->Value} {v:Value} {l ml:List Nat}:∀ {cs:List AS},readAll P o ρ v l ml cs=true->∀c∈cs,∃s',evA P o ρ c=some (v,s')/\(∀b∈l,b<c.n)/\∀b∈ml,b<c.n
 | [],h,c,m=>by cases m
 |c'::r,h,c,m=>by
  unfold readAll at h;rw[Bool.and_eq_true]at h
  rcases List.mem_cons.1 m with rfl|m
  ·have j:=h.1
   split at j
   ·rename_i u s' hu
    simp only[Bool.and_eq_true]at j;rw[AoW _ _ _ j.2.2]at hu
    exact⟨s',hu,Adx j.1,Adx j.2.1⟩
   cases j
  exact Yc h.2 c m
theorem came {i:Nat} {s s':Dr} (h:Ip P call ops bs a i s= .ok s'):∃ o,ops[i]?=some o/\behind bs i s.ds=true/\(∀x∈o.op.operands.toList,okX x=true)/\Came P call ops bs a i o s s':=by
 unfold Ip at h
 split at h
 case h_1=>cases h
 rename_i o ho
 refine⟨o,ho,?_⟩
 split at h
 ·rename_i hb hg
  rw[Bool.and_eq_true]at hb;refine⟨hb.1,λx j=>List.all_eq_true.1 hb.2 x j,?_⟩;unfold AlH at h
  split at h
  ·unfold Aok at h
   split at h
   case h_2=>cases h
   rename_i l hs hl
   split at h
   case h_2=>cases h
   rename_i hlt
   split at h
   case h_2=>cases h
   rename_i v s2 hv
   split at h
   case h_2=>cases h
   rename_i ml hm hle
   cases h;exact .eff v s2 l ml hg hs hl (Adx hlt) hv hm (Nat.le_of_ble_eq_true hle)
  ·rename_i hk
   unfold AlP at h
   split at h
   case h_1=>cases h
   rename_i c cs hcs
   split at h
   case h_2=>cases h
   rename_i v s2 l hv hl
   split at h
   case h_2=>cases h
   rename_i ml hm
   split at h
   case h_2=>cases h
   rename_i hall
   cases h;exact .read v l ml hk hg hl hm (Yc hall)
  unfold Ala at h
  split at h
  case h_2=>cases h
  rename_i v s2 l hv hl
  split at h
  ·rename_i hn
   split at h
   case h_2=>cases h
   rename_i ml hm
   split at h
   case h_2=>cases h
   rename_i hs
   cases h;exact .still v s2 l ml hg hv (Nat.eq_of_beq_eq_true hn) hl hm (AaI hs)
  split at h
  case h_2=>cases h
  rename_i ob v' hn hat hnv
  split at h
  case h_2=>cases h
  rename_i hob
  cases h;simp only[Bool.and_eq_true]at hob;exact .make v s2 l ob v' hg hv (Nat.eq_of_beq_eq_true hn) hl hat hnv hob.1.1 (Adx hob.1.2) (Ph.1 hob.2)
 ·rename_i hb hg
  rw[Bool.and_eq_true]at hb;cases h
  exact⟨hb.1,λx j=>List.all_eq_true.1 hb.2 x j,.skip hg⟩
 cases h
theorem Bj {i:Nat} {L:List Nat} {s r:Dr}:Ea P call ops bs a (i::L) s= .ok r↔∃s',Ip P call ops bs a i s= .ok s'/\Ea P call ops bs a L s'= .ok r:=by
 constructor
 ·intro h;unfold Ea at h
  split at h
  ·rename_i s' h1
   exact⟨s',h1,h⟩
  cases h
 rintro⟨s',h1,h2⟩;unfold Ea;rw[h1];exact h2
theorem Jm {A B:List Nat} {r:Dr}:∀ {s:Dr},Ea P call ops bs a (A++B) s= .ok r↔∃s',Ea P call ops bs a A s= .ok s'/\Ea P call ops bs a B s'= .ok r:=by
 induction A with
 |nil=>intro s;exact⟨λh=>⟨s,rfl,h⟩,λ⟨s',h1,h2⟩=>by cases h1;exact h2⟩
 |cons i A q=>
  intro s;rw[List.cons_append,Bj];constructor
  ·rintro⟨m,h1,h2⟩;obtain⟨p,j,l⟩:=q.1 h2
   exact⟨p,Bj.2 ⟨m,h1,j⟩,l⟩
  rintro⟨p,h1,h2⟩;obtain⟨m,j,l⟩:=Bj.1 h1
  exact⟨m,j,q.2 ⟨p,l,h2⟩⟩
theorem Came.n_le {i:Nat} {o:Oper} {s s':Dr} (h:Came P call ops bs a i o s s'):s.s.n<=s'.s.n:=by
 cases h with
 |skip=>exact Nl _
 |still=>exact Nl _
 |make=>exact Nat.le_succ _
 |read=>exact Nl _
 |eff v s' l ml hg hsince hl hlt h hm hle=>exact hle
theorem Gv {L:List Nat} {r:Dr}:∀ {s:Dr},Ea P call ops bs a L s= .ok r->s.s.n<=r.s.n:=by
 induction L with
 |nil=>intro s h;cases h;exact Nl _
 |cons i L m=>
  intro s h;obtain⟨p,j,h2⟩:=Bj.1 h;obtain⟨o,_,_,_,l⟩:=came j;exact Nat.le_trans l.n_le (m h2)
structure AbM (bs:List Nat) (s:Dr):Prop where
 ml:∀ d∈s.ds,ments 8 d.val=some d.ml
 bef:∀ d∈s.ds,∀j,j<d.i->before bs d.i j=true->(find s.ds j).isSome=true
 once:∀ d∈s.ds,∀e∈s.ds,d.i=e.i->d=e
theorem Came.ds {i:Nat} {o:Oper} {s s':Dr} (h:Came P call ops bs a i o s s'):∃ d,s'.ds=d::s.ds/\d.i=i/\ments 8 d.val=some d.ml/\((d.eff=false/\s'.cs=s.cs)∨(d.eff=true/\s'.cs=s'.s::s.cs)):=by
 cases h with
 |skip=>exact⟨_,rfl,rfl,rfl,.inl ⟨rfl,rfl⟩⟩
 |still v s' l ml hg h hn hl hm hs=>exact⟨_,rfl,rfl,hm,.inl ⟨rfl,rfl⟩⟩
 |make v s' l ob v' hg h hn hl hat hv hob hlt hb=>
  refine⟨_,rfl,rfl,?_,.inl ⟨rfl,rfl⟩⟩;unfold Xa at hv
  split at hv
  ·split at hv
   ·cases hv;rfl
   cases hv
  ·split at hv
   ·cases hv;rfl
   cases hv
  ·split at hv
   ·cases hv;rfl
   cases hv
  cases hv
 |read v l ml hk hg hl hm hall=>exact⟨_,rfl,rfl,hm,.inl ⟨rfl,rfl⟩⟩
 |eff v s' l ml hg hsince hl hlt h hm hle=>exact⟨_,rfl,rfl,hm,.inr ⟨rfl,rfl⟩⟩
theorem AbM.step {i:Nat} {s s':Dr} (hd:AbM bs s) (h:Ip P call ops bs a i s= .ok s'):AbM bs s':=by
 obtain⟨o,M,B,N,J⟩:=came h;obtain⟨d,z,h2,I,_⟩:=J.ds;unfold behind at B;rw[Bool.and_eq_true,Option.isNone_iff_eq_none]at B
 have m:∀ e∈s.ds,e.i≠i:=λe l hi=>by have:=Nj e l hi;rw[B.2]at this;cases this
 have p:∀ j,(find s.ds j).isSome=true->(find s'.ds j).isSome=true:=λj y=>by
  obtain⟨e,l⟩:=Option.isSome_iff_exists.1 y;exact Nj e (by rw[z];exact List.mem_cons_of_mem _ (Pa l).1) (Pa l).2
 refine⟨λe l=>?_,λe l j y q=>?_,λe l g E hi=>?_⟩
 ·rw[z]at l
  rcases List.mem_cons.1 l with rfl|l
  ·exact I
  exact hd.ml e l
 ·rw[z]at l
  rcases List.mem_cons.1 l with rfl|l
  ·rw[h2]at y q
   have:=List.all_eq_true.1 B.1 j (List.mem_range.2 y)
   rw[q]at this;exact p j (by simpa using this)
  exact p j (hd.bef e l j y q)
 rw[z]at l E
 rcases List.mem_cons.1 l with F|x
 ·rcases List.mem_cons.1 E with D|r
  ·rw[F,D]
  exact absurd (by rw[<-hi,F,h2]) (m g r)
 rcases List.mem_cons.1 E with D|r
 ·exact absurd (by rw[hi,D,h2]) (m e x)
 exact hd.once e x g r hi
theorem AbM.all {L:List Nat} {r:Dr}:∀ {s:Dr},AbM bs s->Ea P call ops bs a L s= .ok r->AbM bs r:=by
 induction L with
 |nil=>intro s j h;cases h;exact j
 |cons i L m=>
  intro s j h;obtain⟨p,l,h2⟩:=Bj.1 h;exact m (j.step l) h2
theorem Oh {L:List Nat} {r:Dr}:∀ {s:Dr},Ea P call ops bs a L s= .ok r->(∀d∈s.ds,d∈r.ds)/\∀d∈r.ds,d∈s.ds∨d.i∈L:=by
 induction L with
 |nil=>intro s h;cases h;exact⟨λd l=>l,λd l=> .inl l⟩
 |cons i L D=>
  intro s h;obtain⟨E,q,h2⟩:=Bj.1 h;obtain⟨o,_,_,_,B⟩:=came q;obtain⟨d,p,x,_⟩:=B.ds;obtain⟨y,z⟩:=D h2;refine⟨λe m=>y e (by rw[p];exact List.mem_cons_of_mem _ m),λe m=>?_⟩
  rcases z e m with j|j
  ·rw[p]at j
   rcases List.mem_cons.1 j with rfl|j
   ·exact .inr (by simp[x])
   exact .inl j
  exact .inr (List.mem_cons_of_mem _ j)
end
section
variable {P:Program} {α γ':Type}
def Ld (P:Program) (e:Sem α):Prop:=∀ w v w',e.run P w= .ok v w'->w'=w
theorem Bn {e:Sem α} (h:Hx P e):Ld P e:=λw v l j=>(h w v l j).1
theorem Ef (a:α):Ld P (Pure.pure a:Sem α):=Bn (Dg a)
theorem Cb {e:Sem α} {f:α->Sem γ'} (h:Ld P e) (hf:∀ a,Ld P (f a)):Ld P (e >>= f):=by
 intro w u m j;rw[Sem.run_bind]at j
 cases l:e.run P w with
 |halt x y=>rw[l]at j;cases j
 |ok v w1=>
  rw[l]at j;rw[hf v _ _ _ j,h _ _ _ l]
theorem AeD {e:Sem α} (h:Rc P e):Ld P e:=λw v l j=>absurd j (h _ _ _)
theorem Adm (r:Nat):Ld P (getObj r):=by
 intro w v l j;simp only[getObj,Sem.run]at j
 (repeat' split at j)<;>cases j<;>rfl
theorem AaY (p:Addr):Ld P (load p):=by
 intro w v l j;simp only[load,Sem.run]at j
 (repeat' split at j)<;>cases j<;>rfl
theorem Lf (p:Addr):∀ (n i:Nat) (acc:Array Value),Ld P (loadCellsFrom p i n acc)
 |0,i,acc=>Ef _
 |n+1,i,acc=>Cb (AaY _) λv=>Lf p n _ _
theorem AbU (t:TypeId) (p:Addr):Ld P (loadVar t p):=Cb (Bn (Nv t)) λc=>by
 cases c
 ·exact AaY _
 exact Cb (Bn (Bo t)) λn=>Cb (Lf _ _ _ _) λc=>Ef _
theorem AdX (t:TypeId) (v:Value):Ld P (loadAt t v):=Cb (by
 unfold sureAddr;split
 ·exact Ef _
 exact Bn (Ck _)) λp=>AbU t p
theorem Wu (v:Value) (y:Nat) (c:BoundsCode):Ld P (sliceBound v y c):=λw v j h=>(Kg h).1
theorem Ix (b:Bool) (l c:Nat) (lo hi mx:Option Value):Ld P (sliceBounds b l c lo hi mx):=by
 cases mx<;>cases hi<;>cases lo<;>(unfold sliceBounds;dsimp only;repeat' (first|exact Ef _|exact Wu _ _ _|exact Bn (Ck _)|refine Cb ?_ λq=>?_))
theorem AdW (v:Value):Ld P (asAddr v):=by
 unfold asAddr;split
 ·exact Ef _
 ·exact AeD (Ee _)
 exact Bn (Ck _)
theorem AfJ (t:TypeId) (x:Value) (lo hi mx:Option Value):Ld P (Instr.slice t x lo hi mx):=by
 unfold Instr.slice;refine Cb (Bn (Ay t)) λd=>?_;split
 ·split
  ·exact Bn (Ck _)
  exact Cb (Ix _ _ _ _ _ _) λq=>Ef _
 ·exact Cb (Ix _ _ _ _ _ _) λq=>Cb (Bn (Bo _)) λn=>Ef _
 ·refine Cb (AdW _) λp=>Cb (Bn (Ay _)) λd=>?_;split
  ·exact Cb (Ix _ _ _ _ _ _) λq=>Cb (Bn (Bo _)) λn=>Ef _
  exact Bn (Ck _)
 exact Bn (Ck _)
theorem AiA (ts:Array TypeId) (t:TypeId) (xs:Array Value):Ld P (len_ ts t xs):=by
 unfold len_;split
 ·refine Cb (Bn (Ay _)) λd=>?_
  (repeat' split)<;>first
   |exact Ef _
   |exact Bn (Ck _)
   |(refine Cb (Bn (Ay _)) λd=>?_;split<;>first|exact Ef _|exact Bn (Ck _))
   |(refine Cb (Adm _) λd=>?_;split<;>first|exact Ef _|exact Bn (Ck _))
 exact Bn (Ck _)
theorem AiX {β:Ren} {o:Oper} {ρ ρ':Operand->Value} {v:Value} {s s':AS} {wB:World} (hk:kindOf o.op= .read) (hW:WR P β s.den wB) (h:∀ x∈o.op.operands.toList,VR β s.den.heap.size (ρ x) (ρ' x)) (hev:evA P o ρ s=some (v,s')):s'.den=s.den:=by
 unfold evA at hev
 cases j:o.op with
 |load t x=>
  rw[j]at hev;exact AdX _ _ _ _ _ (Iy hev)
 |lookup t m k ok=>
  rw[j]at hev h;obtain⟨q,h2⟩:=Ct hev
  have p:Aae P (at_ s.den) t (ρ m) (ρ k)=true:=by
   have:at_ s.den=s.at:=funext λi=>s.heap i
   rw[this];exact q
  exact(Aau hW (h m (by simp[Op.operands])) (h k (by simp[Op.operands])) p (Iy h2)).1
 |slice t x lo hi mx=>
  rw[j]at hev;obtain⟨q,h2⟩:=Ct hev;unfold Abi at h2
  split at h2
  case h_2=>cases h2
  unfold Adb at h2
  split at h2
  ·unfold Qw at h2
   split at h2
   ·split at h2
    ·cases h2;rfl
    cases h2
   cases h2
  obtain⟨z,y⟩:=Ct h2;exact AfJ _ _ _ _ _ _ _ _ (Iy y)
 |call c=>
  rw[j]at hev hk;obtain⟨l,args,r⟩:=c
  cases l with
  |builtin b=>
   cases b<;>first|(cases hk;done)|skip
   dsimp only at hev;unfold Wp Agk at hev;dsimp only at hev
   split at hev
   ·exact AiA _ _ _ _ _ _ (Iy hev)
   cases hev
  |_=>cases hk
 |_=>rw[j]at hk;cases hk
end
section
variable {P:Program} {β γ γ':Ren} {wA wB wB':World}
theorem WR.keep_ren (hW:WR P β wA wB) (he:Ext β wA.heap.size γ) (hk:∀ (j:Nat) (x:Obj),wB.heap[j]?=some x->wB'.heap[j]?=some x):WR P γ wA wB':=by
 refine⟨λi y hy=>?_,λi j x y m hy p l r=>?_,hW.tape⟩
 ·have q:=hW.rel i y hy;have hi:=(Array.getElem?_eq_some_iff.1 hy).1
  by_cases l:live y=true
  ·exact q.ext he hi (Nl _) λx m=>hk _ _ m
  cases y<;>first|(simp[live]at l;done)|(simp only[BR]at q ⊢;(try (split at q<;>simp_all)))
 refine hW.inj i j x y m hy p l ?_;rw[<-he.b i (Array.getElem?_eq_some_iff.1 m).1,<-he.b j (Array.getElem?_eq_some_iff.1 hy).1];exact r
theorem Out.shift {s S:AS} {w w' w'':World} (h:Out P β s w γ S w') (he:Ext γ S.n γ') (hk:∀ j:Nat,j<w'.heap.size->w''.heap[j]?=w'.heap[j]?) (hs:w'.heap.size<=w''.heap.size) (hst:St w' w''):Out P β s w γ' S w'':=by
 refine⟨h.ext.trans he h.le,h.le,h.wr.keep_ren (by rw[S.size];exact he) (λj x m=>?_),⟨λj p r=>?_,λi o hi q=>?_,Nat.le_trans h.fr.size hs,h.fr.st.trans hst⟩⟩
 ·rw[hk j (Array.getElem?_eq_some_iff.1 m).1];exact m
 ·rw[hk j (by have:=h.fr.size;omega)];exact h.fr.keep j p r
 have l:i<S.n:=by rw[<-S.size];exact(Array.getElem?_eq_some_iff.1 hi).1
 rw[he.b i l];exact h.fr.src i o hi q
theorem BR.fit {l:List Nat} {n m x:Nat} {ob:Obj} (hob:newObj l ob=true) (h:BR P γ n x wB ob) (hl:∀ y∈l,y<m/\Same γ γ' y) (hx:Same γ γ' x) (hk:wB'.heap[γ.b x]?=wB.heap[γ.b x]?):BR P γ' m x wB' ob:=by
 unfold newObj at hob
 cases ob with
 |cells c e f=>
  dsimp only at hob
  split at hob
  case h_2=>cases hob
  rename_i lc hc
  obtain⟨E,c',r,h2,B,F,I,J⟩:=h;refine⟨E,c',by rw[hx.b,hk];exact r,by rw[hx.size];exact h2,B,by rw[hx.k];exact F,by rw[hx.z];exact I,λj u v p D=>?_⟩;obtain⟨S,O,R⟩:=Kl hc u (by simp[Array.mem_of_getElem? p])
  exact((J j u v p D).fits 8 S O).2 γ' m λb M=>hl b (AaI hob b (R b M))
 |map es clk=>
  obtain⟨q,r,h2,B⟩:=h
  have N:es= #[]:=by simpa using hob
  subst N
  exact⟨q,by rw[hx.b,hk];exact r,h2,λj u v p D=>by simp at p⟩
 |_=>cases hob
theorem Aeo {l:List Nat} {ob:Obj} (h:newObj l ob=true):live ob=true:=by
 cases ob<;>first|rfl|cases h
theorem Ren.more_self (γ:Ren) (n:Nat):γ.more n (γ.b n) (γ.size n) (γ.k n) (γ.z n)=γ:=by
 have e:∀ f:Nat->Nat,(λj=>if j=n then f n else f j)=f:=λf=>funext λj=>by split<;>simp_all
 unfold Ren.more;rw[e γ.b,e γ.size,e γ.k,e γ.z]
theorem Out.settle {s S:AS} {w w':World} {ob:Obj} (h:Out P β s w γ S w') (hs:S.n<1000000) (hge:w.heap.size<=γ.b S.n) (hnew:∀ (i:Nat) (y:Obj),S.den.heap[i]?=some y->live y=true->γ.b i≠γ.b S.n)
  (ho:BR P γ (S.n+1) S.n w' ob):Out P β s w γ (S.push ob) w':=by
 have m:=h.wr.more (o:=ob) (wB':=w') (b:=γ.b S.n) (size:=γ.size S.n) (k:=γ.k S.n) (z:=γ.z S.n) (λj x q _=>q) hnew (by rw[S.size,Ren.more_self];exact ho);rw[S.size,Ren.more_self,<-S.den_push hs]at m;refine⟨h.ext,Nat.le_trans h.le (Nat.le_succ _),m,⟨h.fr.keep,λi o hi p=>?_,h.fr.size,h.fr.st⟩⟩;rw[S.den_push hs]at hi
 rcases Bz hi with⟨l,r⟩|hi
 ·rw[S.size]at l;subst l;exact .inl hge
 exact h.fr.src i o hi p
theorem AfC (i:Nat) (h:i<big):dummy.at i=some dead:=by
 unfold AS.at dummy
 have:Nat.blt i big=true:=Ph.2 h
 simp[this,Tr.get_nil]
theorem Afq (γ:Ren) (w:World):WR P γ dummy.den w:=by
 have m:∀ (i:Nat) (o:Obj),dummy.den.heap[i]?=some o->o=dead:=λi o h=>by
  rw[dummy.heap]at h
  have hi:i<big:=by
   rcases Nat.lt_or_ge i big with hi|hi
   ·exact hi
   rw[AS.at_none _ (by show ¬i<big;omega)]at h;cases h
  rw[AfC i hi]at h
  exact(Option.some.inj h).symm
 exact⟨λi o h=>by rw[m i o h];trivial,λi j x y q hy l p r=>(by rw[m i x q]at l;cases l),rfl⟩
theorem To {i:Nat} {o:Obj} (h:dummy.den.heap[i]?=some o):live o=false:=by
 rw[dummy.heap]at h
 have hi:i<big:=by
  rcases Nat.lt_or_ge i big with hi|hi
  ·exact hi
  rw[AS.at_none _ (by show ¬i<big;omega)]at h;cases h
 rw[AfC i hi]at h;cases h;rfl
end
section
variable {ops:Array Oper}
theorem AcL (hlt:∀ (j:Nat) o,ops[j]?=some o->∀e∈o.after,Region.binds .any e=true->e.on<j):∀ (i j:Nat),i<ops.size->before (Bu ops) i j=true->j<i:=by
 intro i
 induction i using Nat.strongRecOn with
 |_ i ih=>
  intro j hi h;obtain⟨e,m,h2,l⟩:=Yt (Array.getElem?_eq_getElem hi) h
  have:=hlt i _ (Array.getElem?_eq_getElem hi) e m h2
  rcases l with rfl|l
  ·exact this
  exact Nat.lt_trans (ih e.on this j (by omega) l) this
theorem Tf {o:Oper} {t:Nat}:t∈Aac o↔Operand.tmp t∈o.op.operands.toList:=by
 unfold Aac;rw[List.mem_filterMap];constructor
 ·rintro⟨x,hx,h⟩
  cases x<;>first|(cases h;exact hx)|cases h
 intro h
 exact⟨_,h,rfl⟩
end
section
variable {P:Program} {call:Dc} {ops:Array Oper} {a:Ac} {β0:Ren} {s0:AS} {w0:World} {b0:Act} {r:Dr}
def AfQ:List Ky->Nat
 | []=>0
 |d::r=>match d.eff with
  |true=>AfQ r+1
  |false=>AfQ r
structure Lay (P:Program) (call:Dc) (ops:Array Oper) (a:Ac) (β0:Ren) (s0:AS) (w0:World) (b0:Act) (r:Dr) (L:List Nat) (sm:Dr) (γ:Ren) (F D:Nat->Prop) (b:Act) (w:World):Prop where
 chain:Ea P call ops (Bu ops) a L sm= .ok r
 dsok:AbM (Bu ops) sm
 o:Out P β0 s0 w0 γ sm.s w
 val:∀ d∈r.ds,D d.i->∀t,Cj ops d.i=some t->VR γ big d.val (b.tmps.getD t undef)
 ml:∀ d∈r.ds,D d.i->∀x∈d.ml,x<sm.s.n∨F x
 new:∀ A i B si si',L=A++i::B->Ea P call ops (Bu ops) a A sm= .ok si->Ip P call ops (Bu ops) a i si= .ok si'->D i->
  si'.cs=si.cs/\(si'.s=si.s∨∃ob l,si'.s=si.s.push ob/\si.s.n<big/\F si.s.n/\newObj l ob=true/\(∀y∈l,(y<sm.s.n∨F y)/\y<si.s.n)/\BR P γ big si.s.n w ob)
 frs:∀ x,F x->w0.heap.size<=γ.b x/\γ.b x<w.heap.size/\∀(i:Nat) (o:Obj),sm.s.den.heap[i]?=some o->live o=true->γ.b i≠γ.b x
 inj:∀ x y,F x->F y->γ.b x=γ.b y->x=y
 src:∀ x,F x->∃A i B si si' ob,L=A++i::B/\Ea P call ops (Bu ops) a A sm= .ok si/\Ip P call ops (Bu ops) a i si= .ok si'/\D i/\si.s.n=x/\si'.s=si.s.push ob
 size:b.tmps.size=b0.tmps.size
 dfr:b.defers=b0.defers
 old:∀ t,(∀j,D j->Cj ops j≠some t)->b.tmps.getD t undef=b0.tmps.getD t undef
 here:∀ i,i<ops.size->i∈L∨D i
 closed:∀ k,k<ops.size->D k->∀j,before (Bu ops) k j=true->D j
 done:∀ d∈sm.ds,D d.i
 cnt:sm.cs.length=AfQ sm.ds+1
variable {L A B:List Nat} {sm si si':Dr} {γ:Ren} {F D:Nat->Prop} {b:Act} {w:World} {i:Nat} {o:Oper}
theorem ApJ {s s':Dr} (h:Ip P call ops (Bu ops) a i s= .ok s'):s.s.n<=s'.s.n:=by
 obtain⟨o,_,_,_,j⟩:=came h;exact j.n_le
theorem Lay.settle (h:Lay P call ops a β0 s0 w0 b0 r (i::L) sm γ F D b w) (hi:D i):∃ m,Ip P call ops (Bu ops) a i sm= .ok m/\m.cs=sm.cs/\Lay P call ops a β0 s0 w0 b0 r L m γ (λx=>F x/\m.s.n<=x) D b w:=by
 obtain⟨m,J,h2⟩:=Bj.1 h.chain;obtain⟨R,O⟩:=h.new [] i L sm m rfl rfl J hi;have hle:=ApJ J
 have hF:∀ x,(x<sm.s.n∨F x)->x<m.s.n∨(F x/\m.s.n<=x):=λx q=>by
  rcases Nat.lt_or_ge x m.s.n with E|E
  ·exact .inl E
  rcases q with q|q
  ·omega
  exact .inr ⟨q,E⟩
 refine⟨m,J,R,h2,h.dsok.step J,?_,h.val,λd Y hD x q=>hF x (h.ml d Y hD x q),?_,?_,λx y q hy=>h.inj x y q.1 hy.1,?_,h.size,h.dfr,h.old,λk p=>?_,h.closed,?_,?_⟩
 ·rcases O with e|⟨ob,l,e,hb,z,N,E,M⟩
  ·rw[e];exact h.o
  rw[e];obtain⟨g1,g2,Z⟩:=h.frs _ z;exact h.o.settle (Nat.lt_of_lt_of_le (by omega) (show big<=1000000 by decide)) g1 Z (M.fit N (λy hy=>⟨Nat.lt_succ_of_lt (E y hy).2,rfl,rfl,rfl,rfl⟩) ⟨rfl,rfl,rfl,rfl⟩ rfl)
 ·intro A k B sk U hL hA p hD;obtain⟨S,k2⟩:=h.new (i::A) k B sk U (by rw[hL];rfl) (Bj.2 ⟨m,J,hA⟩) p hD;refine⟨S,k2.imp_right ?_⟩;rintro⟨ob,l,e,hb,z,N,E,M⟩
  exact⟨ob,l,e,hb,⟨z,Gv hA⟩,N,λy hy=>⟨hF y (E y hy).1,(E y hy).2⟩,M⟩
 ·rintro x ⟨q,I⟩;obtain⟨g1,g2,Z⟩:=h.frs x q;refine⟨g1,g2,λk o p E=>?_⟩
  rcases O with e|⟨ob,l,e,hb,z,N,_,M⟩
  ·rw[e]at p;exact Z k o p E
  rw[e,AS.den_push _ (Nat.lt_of_lt_of_le (by omega) (show big<=1000000 by decide))]at p
  rcases Bz p with⟨X,e2⟩|p
  ·rw[AS.size]at X;subst X;intro aA
   have:=h.inj _ _ z q aA
   rw[e]at I;simp only[AS.push]at I;omega
  exact Z k o p E
 ·rintro x ⟨q,I⟩;obtain⟨A,k,B,sk,U,ob,S,k2,k3,k4,k5,k6⟩:=h.src x q
  cases A with
  |nil=>
   cases S;cases k2;rw[J]at k3;cases k3;rw[k6]at I;simp only[AS.push]at I;omega
  |cons j A=>
   simp only[List.cons_append,List.cons.injEq]at S;obtain⟨rfl,S⟩:=S;obtain⟨s1,k7,k8⟩:=Bj.1 k2;rw[J]at k7;cases k7
   exact⟨A,k,B,sk,U,ob,S,k8,k3,k4,k5,k6⟩
 ·rcases h.here k p with p|p
  ·rcases List.mem_cons.1 p with rfl|p
   ·exact .inr hi
   exact .inl p
  exact .inr p
 ·intro d Y;obtain⟨o,_,_,_,hc⟩:=came J;obtain⟨d',X,e2,_⟩:=hc.ds;rw[X]at Y
  rcases List.mem_cons.1 Y with rfl|Y
  ·rw[e2];exact hi
  exact h.done d Y
 obtain⟨o,_,_,_,hc⟩:=came J;obtain⟨d',X,e2,_,e3⟩:=hc.ds
 rcases e3 with⟨e3,_⟩|⟨_,e4⟩
 ·rw[R,X,AfQ,e3];exact h.cnt
 rw[R]at e4
 have:=congrArg List.length e4
 simp at this
theorem Lay.settles {A:List Nat}:∀ {sm:Dr} {F:Nat->Prop},Lay P call ops a β0 s0 w0 b0 r (A++L) sm γ F D b w->(∀i∈A,D i)->∃sm' l,Ea P call ops (Bu ops) a A sm= .ok sm'/\sm'.cs=sm.cs/\(∀x,l x->F x)/\Lay P call ops a β0 s0 w0 b0 r L sm' γ l D b w:=by
 induction A with
 |nil=>intro sm F h m;exact⟨sm,F,rfl,rfl,λx p=>p,h⟩
 |cons i A B=>
  intro sm F h m;obtain⟨N,q,h2,y⟩:=Lay.settle (L:=A++L) h (m i (by simp));obtain⟨O,l,E,I,J,M⟩:=B y λj z=>m j (by simp[z])
  exact⟨O,l,Bj.2 ⟨N,q,E⟩,I.trans h2,λx p=>(J x p).1,M⟩
theorem Lay.oper (h:Lay P call ops a β0 s0 w0 b0 r L sm γ F D b w) {n:Nat} (hs:Stat ops (Bu ops) n) (hAR:AR β0 s0.n a b0) (hbig:r.s.n<big) (hL:L=A++i::B) (hA:Ea P call ops (Bu ops) a A sm= .ok si) (h1:Ip P call ops (Bu ops) a i si= .ok si')
  (U:ops[i]?=some o) (hi:¬ D i) (hbef:∀ j,before (Bu ops) i j=true->D j):
  ∀x∈o.op.operands.toList,okX x=true->VR γ big (rho ops a si.ds x) (b.eval x)/\∀E,ments 8 (rho ops a si.ds x)=some E->∀y∈E,y<sm.s.n∨F y:=by
 have hB:Ea P call ops (Bu ops) a B si'= .ok r:=by
  have:=h.chain
  rw[hL]at this;obtain⟨s1,O,Z⟩:=Jm.1 this;rw[hA]at O;cases O;obtain⟨s2,q,k4⟩:=Bj.1 Z;rw[h1]at q;cases q;exact k4
 obtain⟨o',aB,p,_,hc⟩:=came h1;obtain⟨d',e1,e2,_⟩:=hc.ds;have M:∀ d∈si.ds,d∈r.ds:=λd R=>(Oh hB).1 d (by rw[e1];exact List.mem_cons_of_mem _ R);have I:AbM (Bu ops) si:=h.dsok.all hA;unfold behind at p;rw[Bool.and_eq_true,Option.isNone_iff_eq_none]at p;have J:∀ (j:Nat) o,ops[j]?=some o->∀e∈o.after,Region.binds .any e=true->e.on<j:=λj o U e he hb=>(hs.lt j o U e he hb).1;have aA:=(Array.getElem?_eq_some_iff.1 U).1;have aC:sm.s.n<big:=Nat.lt_of_le_of_lt (Gv h.chain) hbig;have hle:=h.o.le;intro x hx X
 cases x with
 |tmp t=>
  have ht:=Tf.2 hx
  cases z:Lb ops si.ds t with
  |some d=>
   obtain⟨O,Z⟩:=Yl z
   have S:D d.i:=by
    rcases(hs.dst i o d.i t U Z).2.1 ht with q|q
    ·exact hbef _ q
    have:=I.bef d O i (AcL J _ _ (Oc Z) q) q
    rw[p.2]at this;cases this
   have hr:rho ops a si.ds (.tmp t)=d.val:=by simp only[rho,z]
   rw[hr];refine⟨h.val d (M d O) S t Z,λE l y hy=>?_⟩;rw[I.ml d O]at l;cases l;exact h.ml d (M d O) S y hy
  |none=>
   have hr:rho ops a si.ds (.tmp t)=a.eval (.tmp t):=by simp only[rho,z]
   rw[hr]
   have Y:b.tmps.getD t undef=b0.tmps.getD t undef:=h.old t λj hj R=>by
    rcases(hs.dst i o j t U R).2.1 ht with q|q
    ·have k4:=List.all_eq_true.1 p.1 j (List.mem_range.2 (AcL J _ _ aA q));rw[q]at k4;obtain⟨e,he⟩:=Option.isSome_iff_exists.1 (by simpa using k4);obtain⟨k5,k6⟩:=Pa he;exact Yb z e k5 (by rw[k6];exact R)
    exact hi (h.closed j (Oc R) hj i q)
   have N:=hAR.tm t;have hb:b.eval (.tmp t)=b0.tmps.getD t undef:=Y;rw[hb];refine⟨N.ext h.o.ext (by omega),λE l y hy=> .inl ?_⟩
   have:=(N.fits 8 E l).1 y hy
   omega
 |const v=>
  have N:∀ m,VR γ m v v:=λm=>Dt 8 v X
  exact⟨N big,λE l y hy=>absurd (((N 0).fits 8 E l).1 y hy) (Nat.not_lt_zero y)⟩
 |func f=>
  have N:∀ m,VR γ m (.func (.func f) #[] #[]) (.func (.func f) #[] #[]):=λm=> .func f #[] #[] #[] #[] rfl rfl (λi x y h=>by simp at h) (λi x y h=>by simp at h)
  exact⟨N big,λE l y hy=>absurd (((N 0).fits 8 E l).1 y hy) (Nat.not_lt_zero y)⟩
 |global g=>cases X
end
section
theorem Agz {A B j B':List Nat} {i:Nat} (h:A++i::B=j++i::B') (hA:i∉A) (hA':i∉j):A=j/\B=B':=by
 induction A generalizing j with
 |nil=>
  cases j with
  |nil=>simpa using h
  |cons x j=>simp at h;exact absurd (by simp[h.1]) hA'
 |cons x A p=>
  cases j with
  |nil=>simp at h;exact absurd (by simp[h.1]) hA
  |cons y j=>
   simp only[List.cons_append,List.cons.injEq]at h;obtain⟨l,h2⟩:=p h.2 (λm=>hA (by simp[m])) (λm=>hA' (by simp[m]))
   exact⟨by rw[h.1,l],h2⟩
theorem AiF {A B j B':List Nat} {i k:Nat} (h:A++i::B=j++k::B') (hne:i≠k):(∃C,j=A++i::C)∨∃C,A=j++k::C:=by
 induction A generalizing j with
 |nil=>
  cases j with
  |nil=>simp at h;exact absurd h.1 hne
  |cons y j=>simp at h;exact .inl ⟨j,by simp[h.1]⟩
 |cons x A m=>
  cases j with
  |nil=>simp at h;exact .inr ⟨A,by simp[h.1]⟩
  |cons y j=>
   simp only[List.cons_append,List.cons.injEq]at h
   rcases m h.2 with⟨C,l⟩|⟨C,l⟩
   ·exact .inl ⟨C,by simp[h.1,l]⟩
   exact .inr ⟨C,by simp[h.1,l]⟩
theorem Uj (b:Act) (dst:Option Tmp) (v:Value) (t:Nat):(b.put dst v).tmps.getD t undef=if dst=some t/\t<b.tmps.size then v else b.tmps.getD t undef:=by
 cases dst with
 |none=>simp[Act.put]
 |some d=>
  show(b.tmps.setIfInBounds d v).getD t undef=_
  rw[Acs]
  by_cases h:t=d
  ·subst h;simp
  rw[if_neg (λe=>h e.1),if_neg (λe=>h (Option.some.inj e.1).symm)]
theorem AeT (b:Act) (dst:Option Tmp) (v:Value):(b.put dst v).tmps.size=b.tmps.size:=by
 cases dst<;>simp[Act.put]
theorem put_defers (b:Act) (dst:Option Tmp) (v:Value):(b.put dst v).defers=b.defers:=by
 cases dst<;>rfl
variable {P:Program} {call:Dc} {ops:Array Oper} {a:Ac} {β0:Ren} {s0:AS} {w0:World} {b0:Act} {r:Dr}
variable {L A B:List Nat} {sm si si':Dr} {γ γ':Ren} {F F' D:Nat->Prop} {b:Act} {w w':World} {i:Nat} {o:Oper} {d:Ky} {v':Value}
theorem Acy {A:List Nat}:∀ {sm si:Dr},Ea P call ops (Bu ops) a A sm= .ok si->∀j∈A,∃d∈si.ds,d.i=j:=by
 induction A with
 |nil=>intro sm si h j l;cases l
 |cons k A x=>
  intro sm si h j l;obtain⟨y,q,h2⟩:=Bj.1 h
  rcases List.mem_cons.1 l with rfl|l
  ·obtain⟨o,_,_,_,r⟩:=came q;obtain⟨d,m,p,_⟩:=r.ds
   exact⟨d,(Oh h2).1 d (by rw[m];simp),p⟩
  exact x h2 j l
theorem Lr {A:List Nat} (hA:Ea P call ops (Bu ops) a A sm= .ok si) (h1:Ip P call ops (Bu ops) a i si= .ok si'):i∉A:=by
 intro m;obtain⟨d,l,hi⟩:=Acy hA i m;obtain⟨o,_,j,_,_⟩:=came h1;unfold behind at j;rw[Bool.and_eq_true,Option.isNone_iff_eq_none]at j
 have:=Nj d l hi
 rw[j.2]at this;cases this
theorem Lay.rest (h:Lay P call ops a β0 s0 w0 b0 r L sm γ F D b w) (hL:L=A++i::B) (hA:Ea P call ops (Bu ops) a A sm= .ok si) (h1:Ip P call ops (Bu ops) a i si= .ok si'):Ea P call ops (Bu ops) a B si'= .ok r:=by
 have:=h.chain
 rw[hL]at this;obtain⟨q,j,m⟩:=Jm.1 this;rw[hA]at j;cases j;obtain⟨x,l,p⟩:=Bj.1 m;rw[h1]at l;cases l;exact p
theorem Lay.add (h:Lay P call ops a β0 s0 w0 b0 r L sm γ F D b w) {n:Nat} (hs:Stat ops (Bu ops) n) (hn:b0.tmps.size=n) (hL:L=A++i::B) (hA:Ea P call ops (Bu ops) a A sm= .ok si) (h1:Ip P call ops (Bu ops) a i si= .ok si')
  (ho:ops[i]?=some o) (hi:¬ D i) (hbef:∀ j,before (Bu ops) i j=true->D j) (hds:si'.ds=d::si.ds) (hdi:d.i=i)
  (hout:Out P β0 s0 w0 γ' sm.s w') (hF:∀ x,F x->F' x) (hγ:∀ x,(x<sm.s.n∨F x)->Same γ γ' x) (hv:VR γ' big d.val v') (hml:∀ x∈d.ml,x<sm.s.n∨F' x)
  (hnew:si'.cs=si.cs/\(si'.s=si.s∨∃ob l,si'.s=si.s.push ob/\si.s.n<big/\F' si.s.n/\newObj l ob=true/\(∀y∈l,(y<sm.s.n∨F' y)/\y<si.s.n)/\BR P γ' big si.s.n w' ob))
  (hheap:∀ x,F x->w'.heap[γ.b x]?=w.heap[γ.b x]?)
  (hfrs:∀ x,F' x->w0.heap.size<=γ'.b x/\γ'.b x<w'.heap.size/\∀(i:Nat) (o:Obj),sm.s.den.heap[i]?=some o->live o=true->γ'.b i≠γ'.b x)
  (hinj:∀ x y,F' x->F' y->γ'.b x=γ'.b y->x=y) (hsrc:∀ x,F' x->F x∨(x=si.s.n/\∃ob,si'.s=si.s.push ob)):
  Lay P call ops a β0 s0 w0 b0 r L sm γ' F' (λj=>j=i∨D j) (b.put o.dst v') w':=by
 have hB:=h.rest hL hA h1;have hr:AbM (Bu ops) r:=h.dsok.all h.chain;have R:d∈r.ds:=(Oh hB).1 d (by rw[hds];simp)
 have p:Cj ops i=o.dst:=by unfold Cj;rw[ho];rfl
 have aA:=Lr hA h1;refine⟨h.chain,h.dsok,hout,λe z m t M=>?_,λe z m x I=>?_,λY k Z sk N O q J m=>?_,hfrs,hinj,λx I=>?_,by rw[AeT];exact h.size,by rw[put_defers];exact h.dfr,λt M=>?_,λk J=>(h.here k J).imp_right .inr,λk J m j X=>?_,λe z=> .inr (h.done e z),h.cnt⟩
 ·rw[Uj]
  rcases m with m|m
  ·have:e=d:=hr.once e z d R (m.trans hdi.symm)
   subst this;rw[m,p]at M;rw[if_pos ⟨M,by rw[h.size,hn];exact(hs.dst i o i t ho (by rw[p];exact M)).1⟩];exact hv
  have aB:¬ (o.dst=some t/\t<b.tmps.size):=by
   rintro⟨h2,_⟩
   have:=(hs.dst i o e.i t ho M).2.2 (by rw[p];exact h2)
   rw[<-this]at m;exact hi m
  rw[if_neg aB];obtain⟨S,U⟩:=(h.val e z m t M).fits 8 e.ml (hr.ml e z);exact U γ' big λx I=>⟨S x I,hγ x (h.ml e z m x I)⟩
 ·rcases m with m|m
  ·have:e=d:=hr.once e z d R (m.trans hdi.symm)
   subst this;exact hml x I
  exact(h.ml e z m x I).imp_right (hF x)
 ·rcases m with rfl|m
  ·obtain⟨rfl,_⟩:=Agz (hL.symm.trans O) aA (Lr q J);rw[hA]at q;cases q;rw[h1]at J;cases J;exact hnew
  obtain⟨S,U⟩:=h.new Y k Z sk N O q J m;refine⟨S,U.imp_right ?_⟩;rintro⟨ob,l,e,hb,hFn,E,hl,hbr⟩
  exact⟨ob,l,e,hb,hF _ hFn,E,λy hy=>⟨(hl y hy).1.imp_right (hF y),(hl y hy).2⟩,hbr.fit E (λy hy=>⟨Nat.lt_trans (hl y hy).2 hb,hγ y (hl y hy).1⟩) (hγ _ (.inr hFn)) (hheap _ hFn)⟩
 ·rcases hsrc x I with I|⟨rfl,ob,E⟩
  ·obtain⟨Y,k,Z,sk,N,ob,S,U,k3,k4,k5,k6⟩:=h.src x I
   exact⟨Y,k,Z,sk,N,ob,S,U,k3,.inr k4,k5,k6⟩
  exact⟨A,i,B,si,si',ob,hL,hA,h1,.inl rfl,rfl,E⟩
 ·rw[Uj,if_neg]
  ·exact h.old t λj X=>M j (.inr X)
  rintro⟨h2,_⟩;exact M i (.inl rfl) (by rw[p];exact h2)
 rcases m with rfl|m
 ·exact .inr (hbef j X)
 exact .inr (h.closed k J m j X)
end
section
variable {P:Program} {call:Dc} {ops:Array Oper} {a:Ac} {β0:Ren} {s0:AS} {w0:World} {b0:Act} {r:Dr}
variable {L A B:List Nat} {sm si si':Dr} {γ:Ren} {F D:Nat->Prop} {b:Act} {w:World} {i n:Nat} {o:Oper}
variable {Q:Exit->Act->World->Prop} {rr:Option Nat} {m:Nat}
def AiU (P:Program) (call:Dc) (ops:Array Oper) (a:Ac) (β0:Ren) (s0:AS) (w0:World) (b0:Act) (r:Dr) (D:Nat->Prop) (b:Act) (w:World):Prop:=
 ∃L sm γ F,Lay P call ops a β0 s0 w0 b0 r L sm γ F D b w/\∃rest,sm.cs=sm.s::rest
def AoZ:Value->Option Bool
 | .bool c=>some c
 |_=>none
theorem Adj {t:Nat} {tmps:Array Value} {j:Nat} {u:Value} (hd:Cj ops j=some t) (h:VR γ m u (tmps.getD t undef)):yielded ops tmps j=AoZ u:=by
 unfold yielded;unfold Cj at hd;rw[hd,Option.bind_some]
 have p:tmps.getD t undef=(tmps[t]?).getD undef:=by
  by_cases h:t<tmps.size<;>simp[Array.getD,h]
 rw[p]at h
 cases l:tmps[t]? with
 |none=>
  rw[l]at h;have h:VR γ m u undef:=h;cases h;rfl
 |some q=>
  rw[l]at h;have h:VR γ m u q:=h
  cases h<;>rfl
theorem Lay.guard (h:Lay P call ops a β0 s0 w0 b0 r L sm γ F D b w) (hs:Stat ops (Bu ops) n) (hL:L=A++i::B) (hA:Ea P call ops (Bu ops) a A sm= .ok si) (h1:Ip P call ops (Bu ops) a i si= .ok si')
  (ho:ops[i]?=some o) (hbef:∀ j,before (Bu ops) i j=true->D j) {c:Bool} (hg:Ra si.ds o=some c):Region.wanted o (yielded ops b.tmps)=c:=by
 unfold Ra at hg;unfold Region.wanted
 cases m:o.guard with
 |none=>rw[m]at hg;cases hg;rfl
 |some g=>
  obtain⟨j,l⟩:=g;rw[m]at hg;dsimp only at hg ⊢
  split at hg
  case h_2=>cases hg
  rename_i d hd
  obtain⟨I,q⟩:=Pa hd;obtain⟨J,t,x⟩:=hs.grd i o j l ho m
  have p:d∈r.ds:=(Oh (h.rest hL hA h1)).1 d (by
   obtain⟨o',_,_,_,z⟩:=came h1;obtain⟨M,y,_⟩:=z.ds;rw[y]
   exact List.mem_cons_of_mem _ I)
  have E:=h.val d p (by rw[q];exact hbef j J) t (by rw[q];exact x);rw[Adj x E]
  split at hg
  ·rename_i c' hc'
   cases hg;rw[hc']
   cases c'<;>cases l<;>rfl
  ·rename_i hc'
   cases hg;rw[hc'];rfl
  cases hg
theorem Qt {o:Oper} {ρ:Operand->Value} {s:AS} {x:Value×AS} (h:evA P o ρ s=some x):∀ c,o.op≠ .defer c:=by
 intro c j;unfold evA at h;rw[j]at h;cases h
theorem Aak {ρ:Operand->Value} {l:List Nat} {p:Nat->Prop} (hl:Hi o ρ=some l) (h:∀ x∈o.op.operands.toList,∀j,ments 8 (ρ x)=some j->∀y∈j,p y):∀ y∈l,p y:=by
 refine Qu hl λv r j m=>?_;obtain⟨t,q,rfl⟩:=List.mem_map.1 r;exact h (.tmp t) (Tf.1 q) j m
section
variable (h:Lay P call ops a β0 s0 w0 b0 r L sm γ F D b w) (hhd:∃ rest,sm.cs=sm.s::rest) (hs:Stat ops (Bu ops) n) (hAR:AR β0 s0.n a b0) (hn:b0.tmps.size=n) (hbig:r.s.n<big) (hL:L=A++i::B) (hA:Ea P call ops (Bu ops) a A sm= .ok si)
 (h1:Ip P call ops (Bu ops) a i si= .ok si') (ho:ops[i]?=some o) (hi:¬ D i) (hbef:∀ j,before (Bu ops) i j=true->D j) (hok:∀ x∈o.op.operands.toList,okX x=true)
include h hhd hs hAR hn hbig hL hA h1 ho hi hbef hok
theorem Lay.skip (e:si'=⟨⟨i,undef,[],false⟩::si.ds,si.cs,si.s⟩):AiU P call ops a β0 s0 w0 b0 r (λj=>j=i∨D j) (b.put o.dst undef) w:=by
 refine⟨L,sm,γ,F,h.add hs hn hL hA h1 ho hi hbef (d:=⟨i,undef,[],false⟩) (by rw[e]) rfl h.o (λx l=>l) (λx l=>⟨rfl,rfl,rfl,rfl⟩) (.toTuple (.empty _ _)) (λx l=>by cases l) ⟨by rw[e],.inl (by rw[e])⟩ (λx l=>rfl) h.frs h.inj (λx l=> .inl l),hhd⟩
theorem Lay.still {v:Value} {s':AS} {l ml:List Nat} (hev:evA P o (rho ops a si.ds) dummy=some (v,s')) (hns:s'.n=big) (M:Hi o (rho ops a si.ds)=some l) (B:ments 8 v=some ml) (hsub:∀ b∈ml,b∈l)
  (e:si'=⟨⟨i,v,ml,false⟩::si.ds,si.cs,si.s⟩) {next:Act->World->Prop} (hnext:∀ b' w',AiU P call ops a β0 s0 w0 b0 r (λj=>j=i∨D j) b' w'->next b' w'):o.wpIn (FR rr) m P b w next Q:=by
 have q:=h.oper hs hAR hbig hL hA h1 ho hi hbef;have I:dummy.den.heap.size=big:=dummy.size;obtain⟨β',v',wB',R,E,S,A,J,O⟩:=Un (Afq γ w) (λx B=>by rw[I];exact(q x B (hok x B)).1) hev;rw[I]at E S;rw[s'.size,hns]at O
 have p:∀ j:Nat,j<w.heap.size->wB'.heap[j]?=w.heap[j]?:=λj U=>J.keep j U λi o hi M=>by rw[To hi]at M;cases M
 have y:Ext β' big γ:=⟨λi hi=>(E.b i hi).symm,λi hi=>(E.size i hi).symm,λi hi=>(E.k i hi).symm,λi hi=>(E.z i hi).symm⟩;refine Pn (Qt hev) R (hnext _ _ ⟨L,sm,γ,F,?_,hhd⟩);refine h.add hs hn hL hA h1 ho hi hbef (d:=⟨i,v,ml,false⟩) (by rw[e]) rfl (h.o.shift (.refl _ _) p J.size J.st) (λx q=>q) (λx q=>⟨rfl,rfl,rfl,rfl⟩) (O.ext y (Nl _)) (λx N=>?_) ⟨by rw[e],.inl (by rw[e])⟩ (λx q=>p _ (h.frs x q).2.1) (λx q=>?_) h.inj (λx q=> .inl q)
 ·exact Aak M (λx B=>(q x B (hok x B)).2) x (hsub x N)
 obtain⟨X,Y,Z⟩:=h.frs x q
 exact⟨X,Nat.lt_of_lt_of_le Y J.size,Z⟩
end
end
section
variable {P:Program} {β γ γ':Ren} {wB wB':World}
theorem BR.fit2 {l:List Nat} {n m x x':Nat} {ob:Obj} (hob:newObj l ob=true) (h:BR P γ n x wB ob) (hl:∀ y∈l,y<m/\Same γ γ' y) (e1:γ'.b x'=γ.b x) (e2:γ'.size x'=γ.size x) (e3:γ'.k x'=γ.k x) (e4:γ'.z x'=γ.z x):BR P γ' m x' wB ob:=by
 unfold newObj at hob
 cases ob with
 |cells c e f=>
  dsimp only at hob
  split at hob
  case h_2=>cases hob
  rename_i lc hc
  obtain⟨D,c',h1,h2,r,E,F,I⟩:=h;refine⟨D,c',by rw[e1];exact h1,by rw[e2];exact h2,r,by rw[e3];exact E,by rw[e4];exact F,λj u v p B=>?_⟩;obtain⟨R,N,O⟩:=Kl hc u (by simp[Array.mem_of_getElem? p])
  exact((I j u v p B).fits 8 R N).2 γ' m λb J=>hl b (AaI hob b (O b J))
 |map es clk=>
  obtain⟨q,h1,h2,r⟩:=h
  have M:es= #[]:=by simpa using hob
  subst M
  exact⟨q,by rw[e1];exact h1,h2,λj u v p B=>by simp at p⟩
 |_=>cases hob
theorem Agm {m M N:Nat} {v vv v':Value} (h:Xa m v=some vv) (hv:VR β N v v') (hm:m<M) (e1:γ'.b m=β.b big) (e2:γ'.size m=β.size big) (e3:γ'.k m=β.k big) (e4:γ'.z m=β.z big):VR γ' M vv v':=by
 unfold Xa at h
 cases hv with
 |ptr b o hb=>
  dsimp only at h
  split at h
  ·rename_i hbb _
   rw[Hr]at hbb;subst hbb;cases h;rw[<-e1];exact .ptr m o hm
  cases h
 |slice b o l c o' c' hb hc hs ho=>
  dsimp only at h
  split at h
  ·rename_i hbb _
   rw[Hr]at hbb;subst hbb;cases h;rw[<-e1];exact .slice m o l c o' c' hm hc (by rw[e4,e2];exact hs) (by rw[e3];exact ho)
  cases h
 |map q hq=>
  dsimp only at h
  split at h
  ·rename_i hbb
   rw[Hr]at hbb;subst hbb;cases h;rw[<-e1];exact .map m hm
  cases h
 |_=>cases h
end
section
variable {P:Program} {call:Dc} {ops:Array Oper} {a:Ac} {β0:Ren} {s0:AS} {w0:World} {b0:Act} {r:Dr}
variable {L A B:List Nat} {sm si si':Dr} {γ:Ren} {F D:Nat->Prop} {b:Act} {w:World} {i n:Nat} {o:Oper}
variable {Q:Exit->Act->World->Prop} {rr:Option Nat} {m:Nat}
theorem Lay.fresh (h:Lay P call ops a β0 s0 w0 b0 r L sm γ F D b w) (hL:L=A++i::B) (hA:Ea P call ops (Bu ops) a A sm= .ok si) (h1:Ip P call ops (Bu ops) a i si= .ok si') (hi:¬ D i) {ob:Obj} (e:si'.s=si.s.push ob):¬ F si.s.n:=by
 intro y;obtain⟨S,k,U,Y,R,M,z,x,E,I,X,J⟩:=h.src _ y;have m:i≠k:=λe=>hi (e▸I)
 rcases AiF (hL.symm.trans z) m with⟨C,rfl⟩|⟨C,rfl⟩
 ·obtain⟨N,j,p⟩:=Jm.1 x;rw[hA]at j;cases j;obtain⟨O,l,q⟩:=Bj.1 p;rw[h1]at l;cases l
  have:=Gv q
  rw[e]at this;simp only[AS.push]at this;omega
 obtain⟨N,j,p⟩:=Jm.1 hA;rw[x]at j;cases j;obtain⟨O,l,q⟩:=Bj.1 p;rw[E]at l;cases l
 have:=Gv q
 rw[J]at this;simp only[AS.push]at this;omega
theorem AaJ {ρ:Operand->Value} {l:List Nat} {k:Nat} {ds:List Ky} (hl:Hi o (rho ops a ds)=some l) (hlt:∀ y∈l,y<k) (hx:∀ x∈o.op.operands.toList,okX x=true->VR γ big (rho ops a ds x) (b.eval x)) (hok:∀ x∈o.op.operands.toList,okX x=true):
  ∀x∈o.op.operands.toList,VR γ k (rho ops a ds x) (b.eval x):=by
 intro x j
 cases x with
 |tmp t=>
  obtain⟨q,m,p⟩:=Kl hl (rho ops a ds (.tmp t)) (List.mem_map.2 ⟨t,Tf.2 j,rfl⟩)
  exact((hx _ j (hok _ j)).fits 8 q m).2 γ k λy hy=>⟨hlt y (p y hy),rfl,rfl,rfl,rfl⟩
 |const v=>exact Dt 8 v (hok _ j)
 |func f=>exact .func f #[] #[] #[] #[] rfl rfl (λi x y h=>by simp at h) (λi x y h=>by simp at h)
 |global g=>exact absurd (hok _ j) (by simp[okX])
section
variable (h:Lay P call ops a β0 s0 w0 b0 r L sm γ F D b w) (hhd:∃ rest,sm.cs=sm.s::rest) (hs:Stat ops (Bu ops) n) (hAR:AR β0 s0.n a b0) (hn:b0.tmps.size=n) (hbig:r.s.n<big) (hL:L=A++i::B) (hA:Ea P call ops (Bu ops) a A sm= .ok si)
 (h1:Ip P call ops (Bu ops) a i si= .ok si') (ho:ops[i]?=some o) (hi:¬ D i) (hbef:∀ j,before (Bu ops) i j=true->D j) (hok:∀ x∈o.op.operands.toList,okX x=true)
include h hhd hs hAR hn hbig hL hA h1 ho hi hbef hok
theorem Lay.make {v vv:Value} {s':AS} {l:List Nat} {ob:Obj} (hev:evA P o (rho ops a si.ds) dummy=some (v,s')) (hns:s'.n=big+1) (N:Hi o (rho ops a si.ds)=some l) (hat:s'.at big=some ob) (hv:Xa si.s.n v=some vv) (hob:newObj l ob=true)
  (hlt:∀ b∈l,b<si.s.n) (hb:si.s.n<big) (e:si'=⟨⟨i,vv,[si.s.n],false⟩::si.ds,si.cs,si.s.push ob⟩) {next:Act->World->Prop} (hnext:∀ b' w',AiU P call ops a β0 s0 w0 b0 r (λj=>j=i∨D j) b' w'->next b' w'):o.wpIn (FR rr) m P b w next Q:=by
 have B:=h.oper hs hAR hbig hL hA h1 ho hi hbef;have aA:dummy.den.heap.size=big:=dummy.size;obtain⟨β',v',wB',g1,g2,g3,g4,g5,g6⟩:=Un (Afq γ w) (λx hm=>by rw[aA];exact(B x hm (hok x hm)).1) hev;rw[aA]at g2 g3;rw[s'.size,hns]at g6
 have M:∀ j:Nat,j<w.heap.size->wB'.heap[j]?=w.heap[j]?:=λj R=>g5.keep j R λi o hi N=>by rw[To hi]at N;cases N
 have Z:=Aeo hob
 have J:s'.den.heap[big]?=some ob:=by rw[s'.heap];exact hat
 have hle:=Gv hA;have aF:=h.fresh hL hA h1 hi (ob:=ob) (by rw[e]);obtain⟨γ',O⟩:∃ γ',γ'=γ.more si.s.n (β'.b big) (β'.size big) (β'.k big) (β'.z big):=⟨_,rfl⟩
 have p:∀ x,x≠si.s.n->Same γ γ' x:=λx S=>by
  rw[O]
  exact⟨if_neg S,if_neg S,if_neg S,if_neg S⟩
 have A:γ'.b si.s.n=β'.b big:=by rw[O];exact if_pos rfl
 have e2:γ'.size si.s.n=β'.size big:=by rw[O];exact if_pos rfl
 have e3:γ'.k si.s.n=β'.k big:=by rw[O];exact if_pos rfl
 have e4:γ'.z si.s.n=β'.z big:=by rw[O];exact if_pos rfl
 have I:∀ x,x<sm.s.n->x≠si.s.n:=λx B=>by omega
 have E:∀ x,F x->x≠si.s.n:=λx B e=>aF (e▸B);have aB:Ext γ sm.s.n γ':=⟨λi hi=>(p i (I i hi)).b,λi hi=>(p i (I i hi)).size,λi hi=>(p i (I i hi)).k,λi hi=>(p i (I i hi)).z⟩
 have aI:w.heap.size<=β'.b big:=by
  rcases g5.src big ob J Z with k|⟨i0,o0,k1,k2,_⟩
  ·exact k
  rw[To k1]at k2;cases k2
 have aC:β'.b big<wB'.heap.size:=g4.there J Z
 have aE:BR P β' (big+1) big wB' ob:=by have:=g4.rel big ob J;rw[s'.size,hns]at this;exact this
 have aJ:=h.o.fr.size;refine Pn (Qt hev) g1 (hnext _ _ ⟨L,sm,γ',λx=>F x∨x=si.s.n,?_,hhd⟩);refine h.add hs hn hL hA h1 ho hi hbef (d:=⟨i,vv,[si.s.n],false⟩) (by rw[e]) rfl (h.o.shift aB M g5.size g5.st) (λx B=> .inl B) (λx B=>p x (B.elim (I x) (E x))) (Agm hv g6 hb A e2 e3 e4) (λx aD=>?_) ⟨by rw[e],.inr ⟨ob,l,by rw[e],hb,.inr rfl,hob,λy hy=>⟨?_,hlt y hy⟩,aE.fit2 hob (λy hy=>⟨Nat.lt_trans (hlt y hy) hb,?_⟩) A e2 e3 e4⟩⟩ (λx B=>M _ (h.frs x B).2.1) (λx B=>?_) (λx y B hy U=>?_) (λx B=>B.imp_right λB=>⟨B,ob,by rw[e]⟩)
 ·simp only[List.mem_singleton]at aD;exact .inr (.inr aD)
 ·exact(Aak N (λx hm=>(B x hm (hok x hm)).2) y hy).imp_right .inl
 ·have q:=p y (Nat.ne_of_lt (hlt y hy));have X:=Nat.lt_trans (hlt y hy) hb
  exact⟨q.b.trans (g2.b y X).symm,q.size.trans (g2.size y X).symm,q.k.trans (g2.k y X).symm,q.z.trans (g2.z y X).symm⟩
 ·have Y:∀ (j:Nat) (o:Obj),sm.s.den.heap[j]?=some o->live o=true->γ'.b j=γ.b j/\γ.b j<w.heap.size:=λj o R N=>by
   have aH:j<sm.s.n:=by rw[<-sm.s.size];exact(Array.getElem?_eq_some_iff.1 R).1
   exact⟨(p j (I j aH)).b,h.o.wr.there R N⟩
  rcases B with B|B
  ·obtain⟨k1,k2,k3⟩:=h.frs x B;rw[(p x (E x B)).b]
   exact⟨k1,Nat.lt_of_lt_of_le k2 g5.size,λj o R N=>by rw[(Y j o R N).1];exact k3 j o R N⟩
  subst B;rw[A]
  exact⟨by omega,aC,λj o R N=>by
   obtain⟨q1,q2⟩:=Y j o R N;rw[q1]
   omega⟩
 rcases B with B|B<;>rcases hy with hy|hy
 ·rw[(p x (E x B)).b,(p y (E y hy)).b]at U;exact h.inj x y B hy U
 ·subst hy;rw[(p x (E x B)).b,A]at U
  have:=(h.frs x B).2.1
  omega
 ·subst B;rw[(p y (E y hy)).b,A]at U
  have:=(h.frs y hy).2.1
  omega
 rw[B,hy]
end
end
section
variable {P:Program} {call:Dc} {ops:Array Oper} {a:Ac} {β0:Ren} {s0:AS} {w0:World} {b0:Act} {r:Dr}
variable {L A B:List Nat} {sm si si':Dr} {γ:Ren} {F D:Nat->Prop} {b:Act} {w:World} {i n:Nat} {o:Oper}
variable {Q:Exit->Act->World->Prop} {rr:Option Nat} {m:Nat}
theorem AhO (bs:List Nat) (i:Nat):∀ ds:List Ky,Vt bs i ds<=AfQ ds
 | []=>Nl _
 |d::r=>by
  have:=AhO bs i r
  unfold Vt AfQ
  cases h:d.eff with
  |true=>cases before bs i d.i<;>simp<;>omega
  |false=>simpa using this
theorem AfD {A:List Nat}:∀ {sm si:Dr},Ea P call ops (Bu ops) a A sm= .ok si->
  (∀D k M B m,A=D++k::M->Ea P call ops (Bu ops) a D sm= .ok B->Ip P call ops (Bu ops) a k B= .ok m->before (Bu ops) i k=true->m.cs=B.cs)->
  (Vt (Bu ops) i si.ds=Vt (Bu ops) i sm.ds/\∃E,si.cs=E++sm.cs)/\(Qa (Bu ops) i si.ds=true->(∀k∈A,before (Bu ops) i k=true)/\Qa (Bu ops) i sm.ds=true):=by
 induction A with
 |nil=>intro sm si h O;cases h;exact⟨⟨rfl,[],rfl⟩,λh=>⟨λk I=>(by cases I),h⟩⟩
 |cons k A ih=>
  intro sm si h O;obtain⟨J,h1,h2⟩:=Bj.1 h;obtain⟨⟨Y,E,X⟩,Z⟩:=ih h2 λD j M B m e N y F=>O (k::D) j M B m (by rw[e];rfl) (Bj.2 ⟨J,h1,N⟩) y F;have I:=O [] k A sm J rfl rfl h1;obtain⟨o,_,_,_,R⟩:=came h1;obtain⟨d,S,U,_,p⟩:=R.ds
  have z:J.s::sm.cs≠sm.cs:=λe=>by have:=congrArg List.length e;simp at this
  refine⟨?_,λl=>?_⟩
  ·rw[Y,S]
   rcases p with⟨p,r⟩|⟨p,r⟩
   ·have q:Vt (Bu ops) i (d::sm.ds)=Vt (Bu ops) i sm.ds:=by
     simp only[Vt,p,Bool.false_and]
    exact⟨q,E,by rw[X,r]⟩
   refine⟨?_,E++ [J.s],by rw[X,r];simp⟩
   have:before (Bu ops) i d.i=false:=by
    cases F:before (Bu ops) i d.i with
    |false=>rfl
    |true=>
     rw[U]at F
     have:=I F
     rw[r]at this;exact absurd this z
   simp only[Vt,this,Bool.and_false]
  obtain⟨g4,x⟩:=Z l;rw[S]at x;unfold Qa at x;rw[Bool.and_eq_true,U]at x;refine⟨λj y=>?_,?_⟩
  ·rcases List.mem_cons.1 y with rfl|y
   ·exact x.1
   exact g4 j y
  rcases p with⟨p,r⟩|⟨p,r⟩
  ·have:=x.2
   rw[p]at this;exact this
  have:=I x.1
  rw[r]at this;exact absurd this z
section
variable (h:Lay P call ops a β0 s0 w0 b0 r L sm γ F D b w) (hhd:∃ rest,sm.cs=sm.s::rest) (hs:Stat ops (Bu ops) n) (hAR:AR β0 s0.n a b0) (hn:b0.tmps.size=n) (hbig:r.s.n<big) (hL:L=A++i::B) (hA:Ea P call ops (Bu ops) a A sm= .ok si)
 (h1:Ip P call ops (Bu ops) a i si= .ok si') (ho:ops[i]?=some o) (hi:¬ D i) (hbef:∀ j,before (Bu ops) i j=true->D j) (hok:∀ x∈o.op.operands.toList,okX x=true)
include h hhd hs hAR hn hbig hL hA h1 ho hi hbef hok
theorem Lay.since:∀ m k p l j,A=m++k::p->Ea P call ops (Bu ops) a m sm= .ok l->Ip P call ops (Bu ops) a k l= .ok j->before (Bu ops) i k=true->j.cs=l.cs:=λm k p l j e q x r=>
 (h.new m k (p++i::B) l j (by rw[hL,e];simp) q x (hbef k r)).1
theorem Lay.read {v:Value} {l ml:List Nat} (S:kindOf o.op= .read) (hl:Hi o (rho ops a si.ds)=some l) (hm:ments 8 v=some ml)
  (hall:∀ c∈si.cs.take (si.cs.length-Vt (Bu ops) i si.ds),∃s',evA P o (rho ops a si.ds) c=some (v,s')/\(∀b∈l,b<c.n)/\∀b∈ml,b<c.n)
  (e:si'=⟨⟨i,v,ml,false⟩::si.ds,si.cs,si.s⟩) {next:Act->World->Prop} (hnext:∀ b' w',AiU P call ops a β0 s0 w0 b0 r (λj=>j=i∨D j) b' w'->next b' w'):o.wpIn (FR rr) m P b w next Q:=by
 have y:=h.oper hs hAR hbig hL hA h1 ho hi hbef;obtain⟨⟨q1,ex,q2⟩,_⟩:=AfD (i:=i) hA (h.since hhd hs hAR hn hbig hL hA h1 ho hi hbef hok);obtain⟨rest,p⟩:=hhd
 have M:sm.s∈si.cs.take (si.cs.length-Vt (Bu ops) i si.ds):=by
  rw[q1,q2,p,List.mem_iff_getElem?];refine⟨ex.length,?_⟩;have aA:=AhO (Bu ops) i sm.ds;have B:=h.cnt;rw[p]at B;simp only[List.length_cons]at B;rw[List.getElem?_take_of_lt (by simp only[List.length_append,List.length_cons];omega),List.getElem?_append_right (Nl _)]
  simp
 obtain⟨s',E,X,U⟩:=hall _ M
 have N:∀ x∈o.op.operands.toList,VR γ sm.s.den.heap.size (rho ops a si.ds x) (b.eval x):=by
  rw[sm.s.size];exact AaJ (ρ:=rho ops a si.ds) hl X (λx hm S=>(y x hm S).1) hok
 have J:=AiX S h.o.wr N E;obtain⟨β',v',wB',g1,I,g3,g4,O,R⟩:=Un h.o.wr N E;rw[J]at g3 g4 O R;rw[sm.s.size]at I R;have q:Ext β' sm.s.n γ:=⟨λi hi=>(I.b i hi).symm,λi hi=>(I.size i hi).symm,λi hi=>(I.k i hi).symm,λi hi=>(I.z i hi).symm⟩;have o1:Out P γ sm.s w β' sm.s wB':=⟨I,Nl _,g4,O⟩;have Y:sm.s.n<big:=Nat.lt_of_le_of_lt (Gv h.chain) hbig;refine Pn (Qt E) g1 (hnext _ _ ⟨L,sm,γ,F,?_,rest,p⟩);refine h.add hs hn hL hA h1 ho hi hbef (d:=⟨i,v,ml,false⟩) (by rw[e]) rfl ((h.o.trans o1).shift q (λj hj=>rfl) (Nl _) ⟨rfl,rfl,rfl⟩) (λx y=>y) (λx y=>⟨rfl,rfl,rfl,rfl⟩) ((R.ext q (Nl _)).ext (.refl _ _) (Nat.le_of_lt Y)) (λx Z=> .inl (U x Z)) ⟨by rw[e],.inl (by rw[e])⟩ (λx y=>?_) (λx y=>?_) h.inj (λx y=> .inl y)
 ·obtain⟨k1,A,k3⟩:=h.frs x y;exact O.keep _ A k3
 obtain⟨k1,A,k3⟩:=h.frs x y
 exact⟨k1,Nat.lt_of_lt_of_le A O.size,k3⟩
theorem Lay.eff (hnm:∀ (f:FuncId) (fn:Func),P.funcs[f]?=some fn->(fn.name== "runtime.NumGoroutine")=false) (hcall:Gf P call) {v:Value} {s':AS} {l ml:List Nat} (hsince:Qa (Bu ops) i si.ds=true) (hl:Hi o (rho ops a si.ds)=some l) (hlt:∀ b∈l,b<si.s.n)
  (hev:Ael P call o (rho ops a si.ds) si.s= .ok (v,s')) (hm:ments 8 v=some ml) (e:si'=⟨⟨i,v,ml,true⟩::si.ds,s'::si.cs,s'⟩)
  {next:Act->World->Prop} (hnext:∀ b' w',AiU P call ops a β0 s0 w0 b0 r (λj=>j=i∨D j) b' w'->next b' w'):o.wpIn (FR rr) m P b w next Q:=by
 have aK:∀ k∈A,D k:=λk N=>hbef k (((AfD (i:=i) hA (h.since hhd hs hAR hn hbig hL hA h1 ho hi hbef hok)).2 hsince).1 k N);have aR:=Lr hA h1;obtain⟨s2,F',q1,q2,q3,p⟩:=Lay.settles (L:=i::B) (hL▸h) aK;rw[hA]at q1;cases q1;have E:=p.oper hs hAR hbig (A:=[]) (i:=i) (B:=B) rfl rfl h1 ho hi hbef;have aQ:=AaJ (ρ:=rho ops a si.ds) hl hlt (λx hm N=>(E x hm N).1) hok;refine AaK hnm hcall hev p.o.wr (λx hm _=>aQ x hm) (Uh hev) λβ' v' w' o1 hv=>hnext _ _ ?_;have hB:Ea P call ops (Bu ops) a B si'= .ok r:=h.rest hL hA h1;have hr:AbM (Bu ops) r:=h.dsok.all h.chain
 have aE:si'.ds=⟨i,v,ml,true⟩::si.ds:=by rw[e]
 have S:si'.s=s':=by rw[e]
 have aD:(⟨i,v,ml,true⟩:Ky)∈r.ds:=(Oh hB).1 _ (by rw[aE];simp)
 have J:Cj ops i=o.dst:=by unfold Cj;rw[ho];rfl
 have aH:s'.n<big:=by
  have:=Gv hB
  rw[S]at this;omega
 have hle:=o1.le
 have hF:∀ x,F' x->s'.n<=x:=λx E=>by
  obtain⟨A2,k,B2,sk,Z,ob,M,X,k3,k4,k5,k6⟩:=p.src x E
  cases A2 with
  |nil=>
   simp only[List.nil_append,List.cons.injEq]at M;exact absurd (M.1▸k4) hi
  |cons j A2=>
   simp only[List.cons_append,List.cons.injEq]at M;obtain⟨rfl,M⟩:=M;obtain⟨s1,k7,k8⟩:=Bj.1 X;rw[h1]at k7;cases k7
   have:=Gv k8
   rw[S,k5]at this;exact this
 obtain⟨γ',aJ⟩:∃ γ':Ren,γ'=⟨λx=>if x<s'.n then β'.b x else γ.b x,λx=>if x<s'.n then β'.size x else γ.size x,λx=>if x<s'.n then β'.k x else γ.k x,λx=>if x<s'.n then β'.z x else γ.z x⟩:=⟨_,rfl⟩
 have R:∀ x,x<s'.n->Same β' γ' x:=λx E=>by rw[aJ];exact⟨if_pos E,if_pos E,if_pos E,if_pos E⟩
 have aM:∀ x,s'.n<=x->Same γ γ' x:=λx E=>by
  have:¬ x<s'.n:=by omega
  rw[aJ];exact⟨if_neg this,if_neg this,if_neg this,if_neg this⟩
 have aA:Ext β' s'.n γ':=⟨λi hi=>(R i hi).b,λi hi=>(R i hi).size,λi hi=>(R i hi).k,λi hi=>(R i hi).z⟩
 have F:∀ x,(x<si.s.n∨F' x)->Same γ γ' x:=λx E=>by
  rcases E with E|E
  ·have q:=R x (by omega)
   exact⟨q.b.trans (o1.ext.b x E),q.size.trans (o1.ext.size x E),q.k.trans (o1.ext.k x E),q.z.trans (o1.ext.z x E)⟩
  exact aM x (hF x E)
 have aB:∀ x,F' x->w'.heap[γ.b x]?=w.heap[γ.b x]?:=λx E=>by
  obtain⟨M,X,k3⟩:=p.frs x E;exact o1.fr.keep _ X k3
 have aF:∀ x,(x<si.s.n∨F' x)->x<s'.n∨F' x:=λx E=>E.imp_left λE=>by omega
 refine⟨B,si',γ',F',⟨hB,p.dsok.step h1,by rw[S];exact(p.o.trans o1).shift aA (λj Y=>rfl) (Nl _) ⟨rfl,rfl,rfl⟩,λd O I t ht=>?_,λd O I x E=>?_,λA2 k B2 sk Z aL aC N I=>?_,λx E=>?_,λx y E hy aI=>?_,λx E=>?_,by rw[AeT];exact p.size,by rw[put_defers];exact p.dfr,λt ht=>?_,λk N=>?_,λk N I j Y=>?_,λd O=>?_,?_⟩,si.cs,by rw[e]⟩
 ·rw[Uj]
  rcases I with I|I
  ·have:d=⟨i,v,ml,true⟩:=hr.once d O _ aD I
   subst this;rw[J]at ht;rw[if_pos ⟨ht,by rw[h.size,hn];exact(hs.dst i o i t ho (by rw[J];exact ht)).1⟩]
   exact(hv.ext aA (Nl _)).ext (.refl _ _) (Nat.le_of_lt aH)
  have aP:¬ (o.dst=some t/\t<b.tmps.size):=by
   rintro⟨h2,_⟩
   have:=(hs.dst i o d.i t ho ht).2.2 (by rw[J];exact h2)
   rw[<-this]at I;exact hi I
  rw[if_neg aP];obtain⟨M,X⟩:=(p.val d O I t ht).fits 8 d.ml (hr.ml d O);exact X γ' big λx E=>⟨M x E,F x (p.ml d O I x E)⟩
 ·rw[S]
  rcases I with I|I
  ·have:d=⟨i,v,ml,true⟩:=hr.once d O _ aD I
   subst this;exact .inl ((hv.fits 8 ml hm).1 x E)
  exact aF x (p.ml d O I x E)
 ·rcases I with rfl|I
  ·exact absurd (Acy (Bj.2 ⟨si',h1,aC⟩) k (by simp)) (λ⟨d,O,hdi⟩=>by
    obtain⟨_,_,U,_,_⟩:=came N;unfold behind at U;rw[Bool.and_eq_true,Option.isNone_iff_eq_none]at U
    have:=Nj d O hdi
    rw[U.2]at this
    cases this)
  obtain⟨M,X⟩:=p.new (i::A2) k B2 sk Z (by rw[aL];rfl) (Bj.2 ⟨si',h1,aC⟩) N I;refine⟨M,X.imp_right ?_⟩;rintro⟨ob,l2,e2,hb,hFn,hob,hl3,hbr⟩
  exact⟨ob,l2,e2,hb,hFn,hob,λy hy=>⟨by rw[S];exact aF y (hl3 y hy).1,(hl3 y hy).2⟩,hbr.fit hob (λy hy=>⟨Nat.lt_trans (hl3 y hy).2 hb,F y (hl3 y hy).1⟩) (F _ (.inr hFn)) (aB _ hFn)⟩
 ·obtain⟨M,X,k3⟩:=p.frs x E;rw[(F x (.inr E)).b];refine⟨M,Nat.lt_of_lt_of_le X o1.fr.size,λj ob Y aO=>?_⟩;rw[S]at Y
  have aN:j<s'.n:=by rw[<-s'.size];exact(Array.getElem?_eq_some_iff.1 Y).1
  rw[(R j aN).b]
  rcases o1.fr.src j ob Y aO with q|⟨i0,o0,q1,q2,q3⟩
  ·omega
  rw[<-q3];exact k3 i0 o0 q1 q2
 ·rw[(F x (.inr E)).b,(F y (.inr hy)).b]at aI;exact p.inj x y E hy aI
 ·obtain⟨A2,k,B2,sk,Z,ob,M,X,k3,k4,k5,k6⟩:=p.src x E
  cases A2 with
  |nil=>
   simp only[List.nil_append,List.cons.injEq]at M;exact absurd (M.1▸k4) hi
  |cons j A2=>
   simp only[List.cons_append,List.cons.injEq]at M;obtain⟨rfl,M⟩:=M;obtain⟨s1,k7,k8⟩:=Bj.1 X;rw[h1]at k7;cases k7
   exact⟨A2,k,B2,sk,Z,ob,M,k8,k3,.inr k4,k5,k6⟩
 ·rw[Uj,if_neg]
  ·exact p.old t λj Y=>ht j (.inr Y)
  rintro⟨h2,_⟩;exact ht i (.inl rfl) (by rw[J];exact h2)
 ·rcases p.here k N with N|N
  ·rcases List.mem_cons.1 N with rfl|N
   ·exact .inr (.inl rfl)
   exact .inl N
  exact .inr (.inr N)
 ·rcases I with rfl|I
  ·exact .inr (hbef j Y)
  exact .inr (p.closed k N I j Y)
 ·rw[aE]at O
  rcases List.mem_cons.1 O with rfl|O
  ·exact .inl rfl
  exact .inr (p.done d O)
 rw[e]
 show(s'::si.cs).length=AfQ (⟨i,v,ml,true⟩::si.ds)+1
 simp only[List.length_cons,AfQ,p.cnt]
end
end
end Go.Mir
end
