/- A part of the proof. -/
import Derived.Test.YtmidbhnhcbpneaaGreatDoorM27
import Derived.Test.YtmidbhnhcbpneaaGreatDoorM2
import Derived.RangeFuncLeaves
import Derived.RangeFuncCalls
import Derived.OrdersIn
import Derived.TacticsIn
set_option linter.unusedVariables false
set_option linter.unusedSimpArgs false
set_option maxRecDepth 8000
set_option maxHeartbeats 8000000
section
namespace Go.Mir
open Go.RowKit Go.Lt Go.Instr Go.Builtin
inductive Tr (α:Type) where
 |nil
 |node (v:Option α) (l r:Tr α)
def hf (k:Nat):Nat:=Nat.div (Nat.sub k 1) 2
def od (k:Nat):Bool:=Nat.beq (Nat.mod (Nat.sub k 1) 2) 0
theorem AfL (k:Nat):hf k=(k-1)/2:=rfl
theorem Amt (k:Nat):od k=Nat.beq ((k-1)%2) 0:=rfl
section
variable {α:Type}
def nth:List α->Nat->Option α
 | [],_=>none
 |x::r,k=>match Nat.beq k 0 with
  |true=>some x
  |false=>nth r (Nat.sub k 1)
def AlN:List α->Nat->α->List α
 | [],_,_=>[]
 |x::r,k,y=>match Nat.beq k 0 with
  |true=>y::r
  |false=>x::AlN r (Nat.sub k 1) y
def Tr.get:Nat->Tr α->Nat->Option α
 |0,_,_=>none
 |_+1,.nil,_=>none
 |f+1,.node v l r,k=>match Nat.beq k 0 with
  |true=>v
  |false=>match od k with
   |true=>Tr.get f l (hf k)
   |false=>Tr.get f r (hf k)
def Tr.set:Nat->Tr α->Nat->α->Tr α
 |0,t,_,_=>t
 |f+1,.nil,k,x=>match Nat.beq k 0 with
  |true=> .node (some x) .nil .nil
  |false=>match od k with
   |true=> .node none (Tr.set f .nil (hf k) x) .nil
   |false=> .node none .nil (Tr.set f .nil (hf k) x)
 |f+1,.node v l r,k,x=>match Nat.beq k 0 with
  |true=> .node (some x) l r
  |false=>match od k with
   |true=> .node v (Tr.set f l (hf k) x) r
   |false=> .node v l (Tr.set f r (hf k) x)
theorem Tr.get_nil (f k:Nat):Tr.get f (.nil:Tr α) k=none:=by cases f<;>rfl
theorem Kb (k:Nat):(Nat.beq k 0=true/\k=0)∨(Nat.beq k 0=false/\k≠0):=by cases k<;>simp[Nat.beq]
theorem Agl:∀ (l:List α) (k:Nat),nth l k=l[k]?
 | [],k=>by simp[nth]
 |x::r,0=>rfl
 |x::r,k+1=>by
  show nth r k=_
  rw[Agl r k];rfl
theorem Aia:∀ (l:List α) (k:Nat) (y:α),AlN l k y=l.set k y
 | [],k,y=>rfl
 |x::r,0,y=>rfl
 |x::r,k+1,y=>by
  show x::AlN r k y=_
  rw[Aia r k y];rfl
theorem Tr.get_set:∀ (f:Nat) (t:Tr α) (k j:Nat) (x:α),k+1<2^f->Tr.get f (Tr.set f t k x) j=if j=k then some x else Tr.get f t j
 |0,t,k,j,x,h=>by simp at h
 |f+1,t,k,j,x,h=>by
  have F:k≠0->hf k+1<2^f:=by intro J;rw[Nat.pow_succ]at h;rw[AfL];omega
  have z:∀ (v:Option α) (l r:Tr α),Tr.get (f+1) (match Nat.beq k 0 with
   |true=> .node (some x) l r
   |false=>match od k with
    |true=> .node v (Tr.set f l (hf k) x) r
    |false=> .node v l (Tr.set f r (hf k) x)) j=if j=k then some x else Tr.get (f+1) (.node v l r) j:=by
   intro v l r
   rcases Kb k with⟨y,rfl⟩|⟨y,h2⟩
   ·rw[y];simp only[Tr.get]
    rcases Kb j with⟨m,rfl⟩|⟨m,D⟩
    ·rw[m];simp
    rw[m,if_neg D]
   rw[y];dsimp only
   rcases Kb ((k-1)%2) with⟨B,I⟩|⟨B,I⟩<;>rw[<-Amt]at B
   ·rw[B];simp only[Tr.get]
    rcases Kb j with⟨m,rfl⟩|⟨m,D⟩
    ·rw[m,if_neg (by omega)]
    rw[m];dsimp only
    rcases Kb ((j-1)%2) with⟨q,E⟩|⟨q,E⟩<;>rw[<-Amt]at q
    ·rw[q];dsimp only;rw[Tr.get_set f l _ _ x (F h2)]
     by_cases p:j=k
     ·subst p;simp
     rw[if_neg p,if_neg (by rw[AfL,AfL];omega)]
    rw[q];dsimp only;rw[if_neg (by intro e;subst e;omega)]
   rw[B];simp only[Tr.get]
   rcases Kb j with⟨m,rfl⟩|⟨m,D⟩
   ·rw[m,if_neg (by omega)]
   rw[m];dsimp only
   rcases Kb ((j-1)%2) with⟨q,E⟩|⟨q,E⟩<;>rw[<-Amt]at q
   ·rw[q];dsimp only;rw[if_neg (by intro e;subst e;omega)]
   rw[q];dsimp only;rw[Tr.get_set f r _ _ x (F h2)]
   by_cases p:j=k
   ·subst p;simp
   rw[if_neg p,if_neg (by rw[AfL,AfL];omega)]
  cases t with
  |nil=>
   have y:Tr.set (f+1) (.nil:Tr α) k x=(match Nat.beq k 0 with
    |true=> .node (some x) .nil .nil
    |false=>match od k with
     |true=> .node none (Tr.set f .nil (hf k) x) .nil
     |false=> .node none .nil (Tr.set f .nil (hf k) x)):=rfl
   rw[y,z none .nil .nil]
   congr 1
   simp only[Tr.get]
   cases Nat.beq j 0<;>first|rfl|(cases od j<;>simp[Tr.get_nil])
  |node v l r=>exact z v l r
end
def fuel:Nat:=20
structure AS where
 n:Nat
 t:Tr Obj
 d:Nat
def dead:Obj:= .coro none
def AS.at (s:AS) (i:Nat):Option Obj:=
 match Nat.blt i s.n with
 |true=>match Tr.get fuel s.t i with
  |some o=>some o
  |none=>some dead
 |false=>none
def AS.den (s:AS):World:={heap:=Array.ofFn (n:=s.n) λi=>((s.at i.1).getD dead),tape:=λ_ _=>0,drawn:=s.d,os:=default,output:= #[]}
theorem Cg (i n:Nat):(Nat.blt i n=true/\i<n)∨(Nat.blt i n=false/\¬i<n):=by
 have h:(Nat.blt i n=true)=(i<n):=Nat.blt_eq
 cases j:Nat.blt i n with
 |true=>exact .inl ⟨rfl,by rw[j]at h;exact h.mp rfl⟩
 |false=>exact .inr ⟨rfl,λl=>by rw[j]at h;exact absurd (h.mpr l) (by simp)⟩
theorem AS.at_some (s:AS) {i:Nat} (h:i<s.n):∃ o,s.at i=some o:=by
 unfold AS.at
 rcases Cg i s.n with⟨j,h2⟩|⟨j,h2⟩
 ·rw[j]
  cases l:Tr.get fuel s.t i with
  |none=>exact⟨dead,rfl⟩
  |some o=>exact⟨o,rfl⟩
 exact absurd h h2
theorem AS.at_none (s:AS) {i:Nat} (h:¬ i<s.n):s.at i=none:=by
 unfold AS.at
 rcases Cg i s.n with⟨j,h2⟩|⟨j,h2⟩
 ·exact absurd h2 h
 rw[j]
theorem AS.heap (s:AS) (i:Nat):s.den.heap[i]?=s.at i:=by
 unfold AS.den;simp only
 by_cases h:i<s.n
 ·obtain⟨o,j⟩:=s.at_some h;rw[Array.getElem?_ofFn,dif_pos h,j];rfl
 rw[Array.getElem?_ofFn,dif_neg h,s.at_none h]
theorem AS.size (s:AS):s.den.heap.size=s.n:=by simp[AS.den]
def AS.put (s:AS) (i:Nat) (o:Obj):AS:={s with t:=Tr.set fuel s.t i o}
def AS.push (s:AS) (o:Obj):AS:={s with n:=s.n+1,t:=Tr.set fuel s.t s.n o}
theorem AS.at_put (s:AS) {i:Nat} (hi:i<s.n) (hn:i<1000000) (o:Obj) (j:Nat):(s.put i o).at j=if j=i then some o else s.at j:=by
 unfold AS.at AS.put;dsimp only;rw[Tr.get_set fuel s.t i j o (by unfold fuel;omega)]
 by_cases l:j=i
 ·subst l
  rcases Cg j s.n with⟨m,h2⟩|⟨m,h2⟩
  ·rw[m,if_pos rfl,if_pos rfl]
  exact absurd hi h2
 rw[if_neg l,if_neg l]
theorem AS.at_push (s:AS) (hn:s.n<1000000) (o:Obj) (j:Nat):(s.push o).at j=if j=s.n then some o else s.at j:=by
 unfold AS.at AS.push;dsimp only;rw[Tr.get_set fuel s.t s.n j o (by unfold fuel;omega)]
 rcases Cg j s.n with⟨p,h2⟩|⟨p,h2⟩
 ·have l:Nat.blt j (s.n+1)=true:=by
   rcases Cg j (s.n+1) with h|h
   ·exact h.1
   omega
  have m:¬ j=s.n:=by omega
  rw[p,l,if_neg m,if_neg m]
 by_cases q:j=s.n
 ·subst q
  have l:Nat.blt s.n (s.n+1)=true:=by
   rcases Cg s.n (s.n+1) with h|h
   ·exact h.1
   omega
  rw[l,if_pos rfl,if_pos rfl]
 have l:Nat.blt j (s.n+1)=false:=by
  rcases Cg j (s.n+1) with h|h
  ·omega
  exact h.1
 simp only[p,l,if_neg q]
theorem AS.den_put (s:AS) {i:Nat} (hi:i<s.n) (hn:i<1000000) (o:Obj):(s.put i o).den={s.den with heap:=s.den.heap.setIfInBounds i o}:=by
 show World.mk _ _ _ _ _=World.mk _ _ _ _ _
 congr 1
 apply Array.ext_getElem?
 intro j;rw[show(Array.ofFn (n:=(s.put i o).n) λm=>(((s.put i o).at m.1).getD dead))=(s.put i o).den.heap from rfl,(s.put i o).heap,s.at_put hi hn,Array.getElem?_setIfInBounds,s.heap]
 by_cases l:i=j
 ·subst l;simp[s.size,hi]
 rw[if_neg (λe=>l e.symm),if_neg l]
theorem AS.den_push (s:AS) (hn:s.n<1000000) (o:Obj):(s.push o).den={s.den with heap:=s.den.heap.push o}:=by
 show World.mk _ _ _ _ _=World.mk _ _ _ _ _
 congr 1
 apply Array.ext_getElem?
 intro j;rw[show(Array.ofFn (n:=(s.push o).n) λl=>(((s.push o).at l.1).getD dead))=(s.push o).den.heap from rfl,(s.push o).heap,s.at_push hn,Array.getElem?_push,s.heap,s.size]
def Ob (P:Program) {α:Type}:Sem α->AS->Option (α×AS)
 | .pure a,s=>some (a,s)
 | .load _ a k,s=>match a.spot,s.at a.block with
  |none,some (.cells c _ _)=>match nth c.toList a.off with
   |some v=>Ob P (k v) s
   |none=>none
  |_,_=>none
 | .store _ a v k,s=>match a.spot,s.at a.block,v.oneCell',Nat.blt a.block 1000000 with
  |none,some (.cells c e (0,0)),true,true=>match nth c.toList a.off with
   |some _=>Ob P k (s.put a.block (.cells ⟨AlN c.toList a.off v⟩ e (0,0)))
   |none=>none
  |_,_,_,_=>none
 | .new o k,s=>match Nat.blt s.n 1000000 with
  |true=>Ob P (k s.n) (s.push o)
  |false=>none
 | .getObj r k,s=>match s.at r with
  |some (.map es c)=>Ob P (k (.map es c)) s
  |some (.mapIter m a b c)=>Ob P (k (.mapIter m a b c)) s
  |_=>none
 | .setObj r o k,s=>match s.at r,Nat.blt r 1000000 with
  |some (.map _ _),true=>Ob P k (s.put r o)
  |_,_=>none
 | .choose q k,s=>match q.forced with
  |true=>Ob P (k 0) s
  |false=>Ob P (k (q.cut 0)) {s with d:=s.d+1}
 | .program k,s=>Ob P (k P) s
 | .mark _ k,s=>Ob P k s
 |_,_=>none
theorem Iy {P:Program} {α:Type} {e:Sem α}:∀ {s l:AS} {v:α},Ob P e s=some (v,l)->e.run P s.den= .ok v l.den:=by
 induction e with
 |pure a=>intro s l v h;cases h;rfl
 |load m a k ih=>
  intro s l v h;unfold Ob at h
  split at h
  ·rename_i c e f hs ho
   split at h
   ·rename_i x hx
    rw[Agl,Array.getElem?_toList]at hx
    have B:s.den.cell? a=some x:=by
     unfold World.cell?;rw[s.heap,ho];simp[hs,hx]
    simp only[Sem.run,B];exact ih x h
   cases h
  cases h
 |store m a x k ih=>
  intro s l v h;unfold Ob at h
  split at h
  ·rename_i c e hs ho h1 hb
   split at h
   ·rename_i y0 hoff
    rw[Agl,Array.getElem?_toList]at hoff;have F:a.off<c.size:=(Array.getElem?_eq_some_iff.1 hoff).1
    have D:(⟨AlN c.toList a.off x⟩:Array Value)=c.setIfInBounds a.off x:=by
     rw[Aia]
     apply Array.ext'
     simp
    rw[D]at h
    have p:a.block<1000000:=by rcases Cg a.block 1000000 with q|q;exact q.2;rw[q.1]at hb;cases hb
    have y:a.block<s.n:=Decidable.byContradiction λE=>by rw[s.at_none E]at ho;cases ho
    have B:s.den.cell? a=some c[a.off]:=by
     unfold World.cell?;rw[s.heap,ho];simp[hs,F]
    have J:s.den.frozen? a=false:=by
     unfold World.frozen?;rw[s.heap,ho]
     simp
    have z:s.den.setCell a x=(s.put a.block (.cells (c.setIfInBounds a.off x) e (0,0))).den:=by
     rw[s.den_put y p]
     show World.mk _ _ _ _ _=World.mk _ _ _ _ _
     congr 1
     apply Array.ext_getElem?
     intro j;rw[Array.getElem?_modify,Array.getElem?_setIfInBounds,s.heap,s.size]
     by_cases I:a.block=j
     ·subst I;simp[ho,hs,y]
     simp[I]
    have:=ih h
    rw[<-z]at this
    cases x<;>first|(simp[Value.oneCell']at h1;done)|(simp only[Sem.run,B,J,Bool.false_eq_true,if_false];exact this)
   cases h
  cases h
 |new o k ih=>
  intro s l v h;unfold Ob at h
  split at h
  ·rename_i hb
   have p:s.n<1000000:=by rcases Cg s.n 1000000 with q|q;exact q.2;rw[q.1]at hb;cases hb
   have:=ih _ h
   rw[s.den_push p]at this;simp only[Sem.run,s.size];exact this
  cases h
 |getObj r k ih=>
  intro s l v h;unfold Ob at h
  split at h
  ·rename_i es c ho
   simp only[Sem.run,s.heap,ho];exact ih _ h
  ·rename_i ho
   simp only[Sem.run,s.heap,ho];exact ih _ h
  cases h
 |setObj r o k ih=>
  intro s l v h;unfold Ob at h
  split at h
  ·rename_i es c ho hb
   have p:r<1000000:=by rcases Cg r 1000000 with q|q;exact q.2;rw[q.1]at hb;cases hb
   have y:r<s.n:=Decidable.byContradiction λE=>by rw[s.at_none E]at ho;cases ho
   have:=ih h
   rw[s.den_put y p]at this;simp only[Sem.run,s.heap,ho];exact this
  cases h
 |choose q k ih=>
  intro s l v h;unfold Ob at h
  split at h
  ·rename_i hq
   simp only[Sem.run,hq,if_true];exact ih 0 h
  rename_i hq
  simp only[Sem.run,hq,Bool.false_eq_true,if_false];exact ih _ h
 |program k ih=>intro s l v h;exact ih P h
 |mark m k ih=>intro s l v h;exact ih h
 |_=>intro s l v h;cases h
def Jd (P:Program) (e:Sem Value) (s:AS):Option (Value×AS):=Ob P e s
def Afh (P:Program) (e:Sem Unit) (s:AS):Option (Value×AS):=
 match Ob P e s with
 |some (_,s')=>some (undef,s')
 |none=>none
def Qw (P:Program) (e:Sem Value) (s:AS):Option (Value×AS):=
 match Hf P e with
 |some v=>match flat 8 v with
  |true=>some (v,s)
  |false=>none
 |none=>none
def Wd (P:Program) (t xt ty:TypeId) (x y:Value) (s:AS):Option (Value×AS):=
 match AkJ P s.at t xt x y with
 |true=>
  match Ob P (append_ #[t,xt] ty #[x,y]) s with
  |some (v,s')=>match x,y with
   | .slice base l c,.slice _ n _=>match Nat.ble (l+n) c with
    |true=>some (v,s')
    |false=>match AhF s'.at s.n with
     |true=>match base with
      |none=>some (v,s')
      |some a=>match Nat.blt a.block 1000000&&Nat.blt a.block s'.n with
       |true=>some (v,s'.put a.block dead)
       |false=>none
     |false=>none
   |_,_=>none
  |none=>none
 |false=>none
def Alz (c x y:Value) (s:AS):Option (Value×AS):=
 match c with
 | .bool true=>some (x,s)
 | .bool false=>some (y,s)
 |_=>none
def onB (b:Bool) (r:Option (Value×AS)):Option (Value×AS):=
 match b with
 |true=>r
 |false=>none
def Aol (x:Value) (s:AS):Option (Value×AS):=
 match x with
 | .pointer (some a)=>some (.pointer (some a),s)
 | .func (.func f) fs cs=>some (.func (.func f) fs cs,s)
 |_=>none
def Ail (r:Option Bool) (s:AS):Option (Value×AS):=
 match r with
 |some b=>some (.bool b,s)
 |none=>none
def Aod (P:Program) (op:BinOp) (t:TypeId) (ox oy:Operand) (x y:Value) (s:AS):Option (Value×AS):=
 match flat 8 x&&flat 8 y with
 |true=>Qw P (do eqGuard op t ox oy x y;binOp op t x y) s
 |false=>Ail (AhH op (P.underlying t) x y) s
def Xv (P:Program) (t:TypeId) (l c:Value) (s:AS):Option (Value×AS):=
 match l,c with
 | .int k x,.int k' y=>onB (Xc P t) (Jd P (Instr.makeSlice t (.int k x) (.int k' y)) s)
 |_,_=>none
def Adb (P:Program) (t:TypeId) (x:Value) (lo hi:Option Value) (s:AS):Option (Value×AS):=
 match flat 8 x with
 |true=>Qw P (Instr.sliceAt t x lo hi none) s
 |false=>onB (Abw P s.at t x) (Jd P (Instr.slice t x lo hi none) s)
def Abi (P:Program) (t:TypeId) (x:Value) (lo hi:Option Value) (mx:Option Operand) (s:AS):Option (Value×AS):=
 match mx with
 |none=>Adb P t x lo hi s
 |some _=>none
def AbB (P:Program) (fn:Fn) (fs cs:Array Value) (s:AS):Option (Value×AS):=
 match fn with
 | .func f=>Jd P (Instr.makeFunc (.func f) fs cs) s
 |_=>none
def AcQ (P:Program) (t:TypeId) (r:Option Operand) (s:AS):Option (Value×AS):=
 match r with
 |none=>Jd P (Instr.makeMap t none) s
 |some _=>none
def Adu (r:Option Next) (s:AS):Option (Value×AS):=
 match r with
 |some (.value v)=>onB (flat 8 v) (some (v,s))
 |_=>none
def Aik (P:Program) (o:Oper) (c:Call) (ρ:Operand->Value) (s:AS):Option (Value×AS):=
 onB (c.operands.toList.all λx=>flat 8 (ρ x)) (Adu (Hf P (execOp ρ o)) s)
def AkI (P:Program) (o:Oper) (c:Call) (ρ:Operand->Value) (s:AS):Option (Value×AS):=
 match c.args.toList,c.argTypes.toList with
 | [x,y],[t,xt]=>Wd P t xt o.type (ρ x) (ρ y) s
 |_,_=>none
def AhR (P:Program) (o:Oper) (c:Call) (ρ:Operand->Value) (s:AS):Option (Value×AS):=
 match c.args.toList,c.argTypes.toList with
 | [x,y],[t,xt]=>onB (Abs (ρ x)) (Jd P (copy_ #[t,xt] o.type #[ρ x,ρ y]) s)
 |_,_=>none
def Agk (P:Program) (o:Oper) (c:Call) (ρ:Operand->Value) (s:AS):Option (Value×AS):=
 match c.args.toList,c.argTypes.toList with
 | [x],[t]=>Jd P (len_ #[t] o.type #[ρ x]) s
 |_,_=>none
def Wp (P:Program) (o:Oper) (c:Call) (ρ:Operand->Value) (s:AS):Option (Value×AS):=
 match c.callee with
 | .builtin .append=>AkI P o c ρ s
 | .builtin .copy=>AhR P o c ρ s
 | .builtin .len=>Agk P o c ρ s
 |_=>Aik P o c ρ s
def isMap (P:Program) (t:TypeId):Bool:=
 match P.underlying t with
 |some (.map _ _)=>true
 |_=>false
def Ahk (h:Nat->Option Obj) (x:Value) (isS:Bool) (s:AS):Option (Value×AS):=
 match x,isS with
 | .pointer (some ⟨r,0,none⟩),false=>match h r with
  |some (.mapIter (some m) _ _ _)=>match h m with
   |some (.map es _)=>onB es.isEmpty (some (.tuple #[.bool false],s))
   |_=>none
  |_=>none
 |_,_=>none
def evA (P:Program) (o:Oper) (ρ:Operand->Value) (s:AS):Option (Value×AS):=
 match o.op with
 | .move x=>some (ρ x,s)
 | .assign x=>some (ρ x,s)
 | .pick c x y=>Alz (ρ c) (ρ x) (ρ y) s
 | .alloc t=>onB (Gu P t) (Jd P (Instr.alloc t true (.tuple #[])) s)
 | .box t x=>Jd P (Instr.box t (ρ x)) s
 | .build t ps=>onB (Gu P t) (Jd P (Instr.build t (ps.map λ(i,x)=>(i,ρ x))) s)
 | .buildSlice t sz ps=>onB (Xc P t) (Jd P (Instr.buildSlice t sz (ps.map λ(i,x)=>(i,ρ x))) s)
 | .load t x=>Jd P (Instr.loadAt t (ρ x)) s
 | .store t x y=>Afh P (Instr.storeAt t (ρ x) (ρ y)) s
 | .nilCheck x=>Aol (ρ x) s
 | .binOp op t x y _=>Aod P op t x y (ρ x) (ρ y) s
 | .unOp op _ x=>onB (flat 8 (ρ x)) (Qw P (Op.unary op (ρ x)) s)
 | .convert src dst x=>onB (flat 8 (ρ x)) (Qw P (convert src dst (ρ x)) s)
 | .makeInterface t x=>Jd P (Instr.makeInterface t (ρ x)) s
 | .makeFunc fn fs cs=>AbB P fn (fs.map ρ) (cs.map ρ) s
 | .makeMap t r=>AcQ P t r s
 | .makeSlice t l c=>Xv P t (ρ l) (ρ c) s
 | .slice t x lo hi mx=>onB (Px ρ lo&&Px ρ hi) (Abi P t (ρ x) (lo.map ρ) (hi.map ρ) mx s)
 | .fieldAddr t x f=>onB (Zr P t f) (Jd P (Instr.fieldAt t (ρ x) f) s)
 | .field t x f=>Jd P (Instr.field t (ρ x) f) s
 | .indexAddr t x i=>Jd P (Instr.indexAt t (ρ x) (ρ i)) s
 | .index t x i=>onB (flat 8 (ρ x)&&flat 8 (ρ i)) (Qw P (Instr.index t (ρ x) (ρ i)) s)
 | .lookup t m k ok=>onB (Aae P s.at t (ρ m) (ρ k)) (Jd P (Instr.lookup t (ρ m) (ρ k) ok) s)
 | .mapUpdate t m k x=>onB (Ach P s.at t (ρ m) (ρ k)) (Afh P (Instr.mapUpdate t (ρ m) (ρ k) (ρ x)) s)
 | .insert t m k x=>onB (Ach P s.at t (ρ m) (ρ k)) (Afh P (Instr.mapUpdate t (ρ m) (ρ k) (ρ x)) s)
 | .extract x i=>Jd P (Instr.extract (ρ x) i) s
 | .call c=>Wp P o c ρ s
 | .range t x=>onB (isMap P t) (Jd P (Instr.range t (ρ x)) s)
 | .next x isS=>Ahk s.at (ρ x) isS s
 |_=>none
section
variable {P:Program} {β:Ren} {wB:World}
theorem Xh (s:AS):at_ s.den=s.at:=funext s.heap
theorem Ct {b:Bool} {r:Option (Value×AS)} {x:Value×AS} (h:onB b r=some x):b=true/\r=some x:=by
 cases b
 ·cases h
 exact⟨rfl,h⟩
theorem Cp {e:Sem Value} {s s':AS} {v:Value} (h:Jd P e s=some (v,s')):Md P e s.den=some (v,s'.den):=by
 unfold Md;rw[Iy h]
theorem Xe {e:Sem Unit} {s s':AS} {v:Value} (h:Afh P e s=some (v,s')):AdJ P e s.den=some (v,s'.den):=by
 unfold Afh at h
 split at h
 ·rename_i u s2 hr
  cases h;unfold AdJ;rw[Iy hr]
 cases h
theorem Mb {e:Sem Value} {s s':AS} {v:Value} (h:Qw P e s=some (v,s')):Po P e s.den=some (v,s'.den):=by
 unfold Qw at h;unfold Po
 split at h
 ·rename_i u hu
  rw[hu];dsimp only
  split at h
  ·rename_i hf
   cases h;rw[if_pos hf]
  cases h
 cases h
theorem Agc {t xt ty:TypeId} {x y v:Value} {s s':AS} (h:Wd P t xt ty x y s=some (v,s')):Rh P t xt ty x y s.den=some (v,s'.den):=by
 unfold Wd at h;unfold Rh;rw[Xh]
 split at h
 case h_2=>cases h
 rename_i hok
 rw[if_pos hok]
 split at h
 case h_2=>cases h
 rename_i u s1 hr
 rw[Iy hr];dsimp only
 split at h
 case h_2=>cases h
 rename_i base l c xb n xc
 dsimp only
 split at h
 ·rename_i hle
  cases h;rw[if_pos (Nat.le_of_ble_eq_true hle)]
 rename_i hle
 have j:¬ l+n<=c:=λp=>by rw[Nat.ble_eq_true_of_le p]at hle;cases hle
 rw[if_neg j,Xh,s.size]
 split at h
 case h_2=>cases h
 rename_i hnew
 rw[if_pos hnew]
 split at h
 ·cases h;rfl
 rename_i a
 split at h
 ·rename_i hb
  simp only[Bool.and_eq_true]at hb
  have m:a.block<1000000:=by rcases Cg a.block 1000000 with q|q;exact q.2;rw[q.1]at hb;cases hb.1
  have h2:a.block<s1.n:=by rcases Cg a.block s1.n with q|q;exact q.2;rw[q.1]at hb;cases hb.2
  cases h;dsimp only;rw[s1.den_put h2 m];rfl
 cases h
def walks:Op->Bool
 | .range .. | .next .. =>true
 |_=>false
theorem AnJ {o:Oper} {ρ:Operand->Value} {v:Value} {s s':AS} (hw:walks o.op=false) (h:evA P o ρ s=some (v,s')):Ais P o ρ s.den=some (v,s'.den):=by
 unfold evA at h;unfold Ais
 cases j:o.op with
 |move x=>rw[j]at h;cases h;rfl
 |assign x=>rw[j]at h;cases h;rfl
 |pick c x y=>
  rw[j]at h;dsimp only at h ⊢;unfold Alz at h
  split at h
  ·rename_i hc;cases h;rw[hc]
  ·rename_i hc;cases h;rw[hc]
  cases h
 |alloc t=>
  rw[j]at h;obtain⟨p,h2⟩:=Ct h;dsimp only;rw[if_pos p];exact Cp h2
 |box t x=>rw[j]at h;exact Cp h
 |build t ps=>
  rw[j]at h;obtain⟨p,h2⟩:=Ct h;dsimp only;rw[if_pos p];exact Cp h2
 |buildSlice t sz ps=>
  rw[j]at h;obtain⟨p,h2⟩:=Ct h;dsimp only;rw[if_pos p];exact Cp h2
 |load t x=>rw[j]at h;exact Cp h
 |store t x y=>rw[j]at h;exact Xe h
 |nilCheck x=>
  rw[j]at h;dsimp only at h ⊢;unfold Aol at h
  split at h
  ·rename_i hc;cases h;rw[hc]
  ·rename_i hc;cases h;rw[hc]
  cases h
 |binOp op t x y ty=>
  rw[j]at h;dsimp only at h ⊢;unfold Aod at h
  split at h
  ·rename_i hc
   rw[if_pos hc];exact Mb h
  rename_i hc
  rw[if_neg (by rw[hc];simp)];unfold Ail at h
  split at h
  ·rename_i b hb
   cases h;rw[hb]
  cases h
 |unOp op t x=>
  rw[j]at h;obtain⟨p,h2⟩:=Ct h;dsimp only;rw[if_pos p];exact Mb h2
 |convert a b x=>
  rw[j]at h;obtain⟨p,h2⟩:=Ct h;dsimp only;rw[if_pos p];exact Mb h2
 |makeInterface t x=>rw[j]at h;exact Cp h
 |makeFunc fn fs cs=>
  rw[j]at h;dsimp only at h ⊢;unfold AbB at h
  cases fn<;>first|exact Cp h|cases h
 |makeMap t r=>
  rw[j]at h;dsimp only at h ⊢;unfold AcQ at h
  cases r<;>first|exact Cp h|cases h
 |makeSlice t l c=>
  rw[j]at h;dsimp only at h ⊢;unfold Xv at h
  split at h
  ·rename_i p h2
   obtain⟨z,B⟩:=Ct h;rw[p,h2];dsimp only;rw[if_pos z];exact Cp B
  cases h
 |slice t x lo hi mx=>
  rw[j]at h;obtain⟨p,h2⟩:=Ct h;unfold Abi at h2
  cases mx with
  |some m=>cases h2
  |none=>
   dsimp only at h2 ⊢;simp only[Bool.and_eq_true]at p;unfold Adb at h2
   split at h2
   ·rename_i hf
    rw[if_pos (by simp[hf,p.1,p.2])];exact Mb h2
   rename_i hf
   obtain⟨z,B⟩:=Ct h2;rw[if_neg (by simp[hf]),Xh,if_pos (by simp[z,p.1,p.2])];exact Cp B
 |fieldAddr t x f=>
  rw[j]at h;obtain⟨p,h2⟩:=Ct h;dsimp only;rw[if_pos p];exact Cp h2
 |field t x f=>rw[j]at h;exact Cp h
 |indexAddr t x i=>rw[j]at h;exact Cp h
 |index t x i=>
  rw[j]at h;obtain⟨p,h2⟩:=Ct h;dsimp only;rw[if_pos p];exact Mb h2
 |lookup t m k ok=>
  rw[j]at h;obtain⟨p,h2⟩:=Ct h;dsimp only;rw[Xh,if_pos p];exact Cp h2
 |mapUpdate t m k x=>
  rw[j]at h;obtain⟨p,h2⟩:=Ct h;dsimp only;rw[Xh,if_pos p];exact Xe h2
 |insert t m k x=>
  rw[j]at h;obtain⟨p,h2⟩:=Ct h;dsimp only;rw[Xh,if_pos p];exact Xe h2
 |extract x i=>rw[j]at h;exact Cp h
 |call c=>
  rw[j]at h;dsimp only at h ⊢;obtain⟨F,args,q⟩:=c;unfold Wp at h;dsimp only at h ⊢
  split at h
  ·unfold AkI at h
   split at h
   ·rename_i x y t xt p h2
    have D:args= #[x,y]:=by apply Array.ext';exact p
    have E:q= #[t,xt]:=by apply Array.ext';exact h2
    subst D E;exact Agc h
   cases h
  ·unfold AhR at h
   split at h
   ·rename_i x y t xt p h2
    have D:args= #[x,y]:=by apply Array.ext';exact p
    have E:q= #[t,xt]:=by apply Array.ext';exact h2
    subst D E;obtain⟨z,B⟩:=Ct h;have I:=Cp B;dsimp only;rw[if_pos ⟨rfl,rfl,z⟩];exact I
   cases h
  ·unfold Agk at h
   split at h
   ·rename_i x t p h2
    have D:args= #[x]:=by apply Array.ext';exact p
    have E:q= #[t]:=by apply Array.ext';exact h2
    subst D E;exact Cp h
   cases h
  rename_i hn1 hn2 hn3
  unfold Aik at h;obtain⟨p,h2⟩:=Ct h
  have M:(Call.operands ⟨F,args,q⟩).all (λx=>flat 8 (ρ x))=true:=by rw[<-Array.all_toList];exact p
  have J:Adu (Hf P (execOp ρ o)) s=some (v,s')->(match Hf P (execOp ρ o) with
   |some (.value v)=>if flat 8 v then some (v,s.den) else none
   |_=>none)=some (v,s'.den):=by
   intro h;unfold Adu at h
   split at h
   ·rename_i u hu
    obtain⟨z,B⟩:=Ct h;cases B;rw[if_pos z]
   cases h
  split
  ·exact absurd rfl hn1
  ·exact absurd rfl hn2
  ·exact absurd rfl hn3
  rw[if_pos M];exact J h2
 |range t x=>rw[j]at hw;cases hw
 |next x b=>rw[j]at hw;cases hw
 |_=>rw[j]at h;cases h
theorem Sim.range {wA:World} {x x':Value} (t:TypeId) (hm:isMap P t=true) (h:VR β wA.heap.size x x'):Sim P VR β wA wB (Instr.range t x) (Instr.range t x'):=by
 unfold Instr.range;refine Sim.bind (Sim.still' (Ay t)) λβ1 wA1 wB1 d d' he hs N=>?_;obtain⟨rfl,N⟩:=N;have A:=Es (N wA);unfold isMap at hm;rw[A]at hm;have X:=h.ext he hs
 have B:∀ (q M:Option Nat) (a b:Nat) (c:Array Nat) (J b':Nat) (β2:Ren) (l m:World),(M=q.map β2.b)->(∀r,q=some r->r<l.heap.size)->
   Sim P VR β2 l m (newObj (.mapIter q a c b) >>= λr=>Pure.pure (.pointer (some ⟨r,0,none⟩))) (newObj (.mapIter M J c b') >>= λr=>Pure.pure (.pointer (some ⟨r,0,none⟩))):=by
  intro q M a b c J b' β2 l m Z I F v w D;have e:(newObj (.mapIter q a c b) >>= λr=>(Pure.pure (.pointer (some ⟨r,0,none⟩)):Sem Value)).run P l= .ok (.pointer (some ⟨l.heap.size,0,none⟩)) {l with heap:=l.heap.push (.mapIter q a c b)}:=rfl;rw[e]at D;cases D;refine⟨β2.more l.heap.size m.heap.size 0 0 0,.pointer (some ⟨m.heap.size,0,none⟩),{m with heap:=m.heap.push (.mapIter M J c b')},rfl,Ren.ext_more _ _ _ _ _ _,by simp,?_,Zg _ _ _ (_,_),?_⟩
  ·refine F.more (λj x R _=>?_) (λi y hy Y=>by have:=F.there hy Y;omega) ⟨J,c,b',?_,λr D=>Nat.lt_succ_of_lt (I r D)⟩
   ·have:=(Array.getElem?_eq_some_iff.1 R).1
    simp only[Array.getElem?_push];rw[if_neg (by omega)];exact R
   simp only[Ren.more,if_true,Array.getElem?_push_size];rw[Z]
   cases q with
   |none=>rfl
   |some r=>
    have:=I r rfl
    simp[show r≠l.heap.size by omega]
  have:VR (β2.more l.heap.size m.heap.size 0 0 0) (l.heap.size+1) (.pointer (some ⟨l.heap.size,0,none⟩)) (.pointer (some ⟨(β2.more l.heap.size m.heap.size 0 0 0).b l.heap.size,0,none⟩)):= .ptr _ _ (by omega)
  simpa[Ren.more] using this
 cases d' with
 |map K E=>
  cases X with
  |nilMap=>exact B none none 0 0 #[] 0 0 β1 wA1 wB1 rfl (λr h=>by cases h)
  |map r D=>
   dsimp only;intro F v w p;obtain⟨ob,z⟩:∃ ob,wA1.heap[r]?=some ob:=⟨_,Array.getElem?_eq_getElem D⟩
   cases ob with
   |map es clk=>
    obtain⟨S,U,g2⟩:=F.map z
    have O:=B (some r) (some (β1.b r)) clk clk #[] clk clk β1 wA1 wB1 rfl (λq h=>by cases h;exact D) F v w (by
     rw[<-p]
     simp only[Sem.run_bind,Ii z,Result.andThen_ok,pure_bind])
    obtain⟨β',v',wB',k1,k2⟩:=O;refine⟨β',v',wB',?_,k2⟩;rw[<-k1];simp only[Sem.run_bind,Ii U,Result.andThen_ok,pure_bind]
   |cells c e f=>simp[getObj,Sem.run,z,Sem.run_bind]at p
   |_=>simp[getObj,Sem.run,z,Sem.run_bind]at p
  |_=>exact Sim.never (Ih (Er _))
 |_=>cases hm
theorem Akc {s s':AS} {x x' v:Value} {isS:Bool} (ty:TypeId) (hW:WR P β s.den wB) (h:VR β s.den.heap.size x x') (hev:Ahk s.at x isS s=some (v,s')):
  s'=s/\(Instr.next x' isS ty).run P wB= .ok v wB/\flat 8 v=true:=by
 unfold Ahk at hev
 split at hev
 case h_2=>cases hev
 rename_i r
 split at hev
 case h_2=>cases hev
 rename_i m a b c hr
 split at hev
 case h_2=>cases hev
 rename_i es clk hm
 obtain⟨E,h2⟩:=Ct hev;cases h2
 have p:es= #[]:=by simpa using E
 subst p
 cases h with
 |ptr r0 o hb=>
  obtain⟨q,c',b',z,F⟩:=hW.rel r _ (by rw[s.heap];exact hr);obtain⟨l,B,D⟩:=hW.map (by rw[s.heap];exact hm)
  have j:l= #[]:=by have:=D.size;simpa using this
  subst j;refine⟨rfl,?_,rfl⟩
  have y:(getObj (β.b r)).run P wB= .ok (.mapIter (some (β.b m)) q c' b') wB:=by simp[getObj,Sem.run,z]
  simp[Instr.next,Sem.run_bind,y,Ii B,run_choose,Question.forced]
theorem Un {o:Oper} {ρ ρ':Operand->Value} {v:Value} {s s':AS} (hW:WR P β s.den wB) (h:∀ x∈o.op.operands.toList,VR β s.den.heap.size (ρ x) (ρ' x)) (hev:evA P o ρ s=some (v,s')):Goes P β s.den wB (execOp ρ' o) v s'.den:=by
 cases m:walks o.op with
 |false=>exact AgP hW h (AnJ m hev)
 |true=>
  unfold evA at hev;unfold execOp
  cases j:o.op with
  |range t x=>
   rw[j]at hev h;obtain⟨l,h2⟩:=Ct hev;exact Dj hW (Cp h2) (Sim.range t l (h x (by simp[Op.operands])))
  |next x b=>
   rw[j]at hev h;obtain⟨rfl,l,h2⟩:=Akc o.type hW (h x (by simp[Op.operands])) hev;exact Ek hW (by rw[Sem.run_bind,l];rfl) (Dt 8 _ h2)
  |_=>rw[j]at m;cases m
end
inductive Res (α:Type) where
 |ok (a:α)
 |no (l:List Nat)
inductive Ex where
 |normal
 |exit (id:Nat)
 |ret
inductive Tgt where
 |fn (f:FuncId)
 |yield (l:Nat)
abbrev Dc:=Tgt->Array Value->AS->Res (Value×AS)
abbrev Tm:=Tr Value
structure Ac where
 n:Nat
 tm:Tm
 defers:List Deferred
def Ac.eval (a:Ac):Operand->Value
 | .tmp t=>match Tr.get fuel a.tm t with
  |some v=>v
  |none=>undef
 | .const v=>v
 | .func f=> .func (.func f) #[] #[]
 | .global g=> .tuple #[]
def Ac.put (a:Ac) (dst:Option Tmp) (v:Value):Ac:=
 match dst with
 |some d=>match Nat.blt d a.n with
  |true=>{a with tm:=Tr.set fuel a.tm d v}
  |false=>a
 |none=>a
def okX:Operand->Bool
 | .global _=>false
 | .const v=>flat 8 v
 |_=>true
def Rv (P:Program) (f:FuncId):Bool:=
 match P.funcs[f]? with
 |some fn=>fn.body.isSome
 |none=>false
def target (P:Program) (o:Oper) (ρ:Operand->Value):Option (Tgt×Array Value):=
 match o.op with
 | .call c=>match c.callee with
  | .value f=>match ρ f with
   | .func (.func g) fs cs=>match Rv P g with
    |true=>some (.fn g,fs++c.args.map ρ++cs)
    |false=>none
   | .func (.yield l) fs cs=>match fs.isEmpty&&cs.isEmpty with
    |true=>some (.yield l,c.args.map ρ)
    |false=>none
   |_=>none
  |_=>none
 |_=>none
def Aor (r:Option (Value×AS)):Res (Value×AS):=
 match r with
 |some r=> .ok r
 |none=> .no []
def AlZ (P:Program) (call:Dc) (o:Oper) (ρ:Operand->Value) (s:AS):Res (Value×AS):=
 match target P o ρ with
 |some (f,args)=>call f args s
 |none=>Aor (evA P o ρ s)
def Ael (P:Program) (call:Dc) (o:Oper) (ρ:Operand->Value) (s:AS):Res (Value×AS):=
 match o.op.operands.toList.all okX with
 |true=>AlZ P call o ρ s
 |false=> .no [1]
def Ahu (o:Oper) (ρ:Operand->Value):Option Deferred:=
 match o.op with
 | .defer c=>match c.callee with
  | .value f=>match ρ f with
   | .func (.func g) fs cs=>match fs.isEmpty&&cs.isEmpty&&c.operands.toList.all okX with
    |true=>some {target:= .fn (.func g) #[],args:=c.args.map ρ}
    |false=>none
   |_=>none
  |_=>none
 |_=>none
def AdD (ops:Array Oper) (a:Ac) (o:Oper):Bool:=
 match o.guard with
 |none=>true
 |some (j,b)=>match (ops[j]?).bind (·.dst) with
  |some t=>match a.eval (.tmp t) with
   | .bool c=>c==b
   |_=>false
  |none=>false
def Apg (P:Program) (call:Dc) (o:Oper) (a:Ac) (s:AS):Res (Ac×AS):=
 match Ael P call o a.eval s with
 | .ok (v,s')=> .ok (a.put o.dst v,s')
 | .no l=> .no l
def AkR (P:Program) (call:Dc) (rd:Bool) (o:Oper) (a:Ac) (s:AS):Res (Ac×AS):=
 match Ahu o a.eval,rd with
 |some d,false=> .ok ({a with defers:=d::a.defers}.put o.dst undef,s)
 |_,_=>Apg P call o a s
def AgH (P:Program) (call:Dc) (rd:Bool) (ops:Array Oper) (o:Oper) (a:Ac) (s:AS):Res (Ac×AS):=
 match AdD ops a o with
 |true=>AkR P call rd o a s
 |false=> .ok (a.put o.dst undef,s)
def AhQ (P:Program) (call:Dc) (rd:Bool) (ops:Array Oper):List Oper->Ac->AS->Res (Ac×AS)
 | [],a,s=> .ok (a,s)
 |o::rest,a,s=>
  match AgH P call rd ops o a s with
  | .ok (a',s')=>AhQ P call rd ops rest a' s'
  | .no l=> .no (rest.length::l)
section
variable {P:Program} {β:Ren}
structure Out (P:Program) (β:Ren) (s:AS) (w:World) (β':Ren) (s':AS) (w':World):Prop where
 ext:Ext β s.n β'
 le:s.n<=s'.n
 wr:WR P β' s'.den w'
 fr:Fr β s.den w β' s'.den w'
theorem Out.refl {s:AS} {w:World} (h:WR P β s.den w):Out P β s w β s w:=⟨.refl _ _,Nl _,h,.refl _ _ _⟩
theorem Out.trans {β β1 β2:Ren} {s s1 s2:AS} {w w1 w2:World} (h:Out P β s w β1 s1 w1) (k:Out P β1 s1 w1 β2 s2 w2):Out P β s w β2 s2 w2:=
 ⟨h.ext.trans k.ext h.le,Nat.le_trans h.le k.le,k.wr,h.fr.trans k.fr⟩
inductive DR (β:Ren) (n:Nat):Deferred->Deferred->Prop
 |fn (f:FuncId) (args args':Array Value) (h:VRs β n args args'):DR β n ⟨.fn (.func f) #[],args⟩ ⟨.fn (.func f) #[],args'⟩
 |col (r:Nat) (h:r<n):DR β n ⟨.collected r,#[]⟩ ⟨.collected (β.b r),#[]⟩
inductive DL (β:Ren) (n:Nat):List Deferred->List Deferred->Prop
 |nil:DL β n [] []
 |cons {d d':Deferred} {l l':List Deferred} (h:DR β n d d') (hl:DL β n l l'):DL β n (d::l) (d'::l')
theorem DR.ext {β β':Ren} {n m:Nat} {d d':Deferred} (h:DR β n d d') (he:Ext β n β') (hn:n<=m):DR β' m d d':=by
 cases h with
 |fn f args args' h=>exact .fn f _ _ (h.ext he hn)
 |col r h=>rw[<-he.b r h];exact .col r (by omega)
theorem DL.ext {β β':Ren} {n m:Nat} {d d':List Deferred} (h:DL β n d d') (he:Ext β n β') (hn:n<=m):DL β' m d d':=by
 induction h with
 |nil=>exact .nil
 |cons h l j=>exact .cons (h.ext he hn) j
structure AR (β:Ren) (n:Nat) (a:Ac) (b:Act):Prop where
 size:b.tmps.size=a.n
 small:a.n<1000000
 tm:∀ t:Nat,VR β n (a.eval (.tmp t)) (b.tmps.getD t undef)
 df:DL β n a.defers b.defers
theorem AR.ext {β β':Ren} {n m:Nat} {a:Ac} {b:Act} (h:AR β n a b) (he:Ext β n β') (hn:n<=m):AR β' m a b:=
 ⟨h.size,h.small,λt=>(h.tm t).ext he hn,h.df.ext he hn⟩
theorem AR.eval {β:Ren} {n:Nat} {a:Ac} {b:Act} (h:AR β n a b) {x:Operand} (hx:okX x=true):VR β n (a.eval x) (b.eval x):=by
 cases x with
 |tmp t=>exact h.tm t
 |const v=>exact Dt 8 v hx
 |func f=>exact .func f #[] #[] #[] #[] rfl rfl (λi x y h=>by simp at h) (λi x y h=>by simp at h)
 |global g=>cases hx
theorem Acs {t:Array Value} {d i:Nat} {v:Value}:(t.setIfInBounds d v).getD i undef=if i=d/\d<t.size then v else t.getD i undef:=by
 by_cases l:d<t.size
 ·rw[Ot l]
  by_cases hi:i=d<;>simp[hi,l]
 rw[if_neg (λh=>l h.2)]
 have:t.setIfInBounds d v=t:=by
  apply Array.ext_getElem?
  intro j;rw[Array.getElem?_setIfInBounds];split
  ·rename_i e
   subst e
   try rw[if_neg l]
   exact(Array.getElem?_eq_none_iff.2 (by omega)).symm
  rfl
 rw[this]
theorem AR.put {β:Ren} {n:Nat} {a:Ac} {b:Act} {v v':Value} (h:AR β n a b) (dst:Option Tmp) (hv:VR β n v v'):AR β n (a.put dst v) (b.put dst v'):=by
 cases dst with
 |none=>exact h
 |some d=>
  unfold Ac.put Act.put;dsimp only
  rcases Cg d a.n with⟨p,h2⟩|⟨p,h2⟩
  ·rw[p];refine⟨by simp[h.size],h.small,λt=>?_,h.df⟩
   show VR β n (match Tr.get fuel (Tr.set fuel a.tm d v) t with
    |some v=>v
    |none=>undef) ((b.tmps.setIfInBounds d v').getD t undef)
   rw[Tr.get_set fuel a.tm d t v (by have:=h.small;unfold fuel;omega),Acs,h.size]
   by_cases m:t=d
   ·rw[if_pos m,if_pos ⟨m,h2⟩];exact hv
   rw[if_neg m,if_neg (λe=>m e.1)];exact h.tm t
  rw[p]
  have l:b.tmps.setIfInBounds d v'=b.tmps:=by
   apply Array.ext_getElem?
   intro j;rw[Array.getElem?_setIfInBounds];split
   ·rename_i e
    subst e
    try rw[if_neg (by rw[h.size];exact h2)]
    exact(Array.getElem?_eq_none_iff.2 (by rw[h.size];omega)).symm
   rfl
  rw[l];exact h
def FR:Option Nat->Fence
 |none=>Fence.wide
 |some l=>Fence.wide.inRound l
theorem Abo (r:Option Nat) (f:FuncId):(FR r).fn f:=by cases r<;>trivial
theorem AbG (r:Option Nat) (n:Nat):(FR r).depth.isSome=true->1<=n:=by cases r<;>(intro h;cases h)
theorem Apn (r:Option Nat) (l:Nat):(FR r).inRound l=FR (some l):=by cases r<;>rfl
theorem Abh {r:Option Nat} {n:Nat} {f:FuncId} {args:Array Value} {w:World} {R:Ending->World->Prop} (h:Calls P f args w R):CallsIn (FR r) n P f args w R:=by
 cases r with
 |none=>exact callsIn_wide.2 h
 |some l=>exact CallsIn.inRound l (callsIn_wide.2 h)
structure Gf (P:Program) (call:Dc):Prop where
 fn:∀ (f:FuncId) (args:Array Value) (s:AS) (v:Value) (s':AS),Rv P f=true->call (.fn f) args s= .ok (v,s')->∀(β:Ren) (w:World) (args':Array Value),WR P β s.den w->VRs β s.n args args'->
  Calls P f args' w λe w'=>∃ β' v',e= .returned v'/\Out P β s w β' s' w'/\VR β' s'.n v v'
 yield:∀ (l:Nat) (args:Array Value) (s:AS) (v:Value) (s':AS),call (.yield l) args s= .ok (v,s')->∀(β:Ren) (w:World) (args':Array Value),WR P β s.den w->VRs β s.n args args'->∀(r:Option Nat) (n:Nat),
  ∃fn tmps assign body,(Instr.yield (β.b l) args').run P w= .ok (.round (β.b l) fn tmps assign body) w/\RoundIn (FR r) n P (β.b l) fn tmps assign body w λe w'=>∃ β' v',e= .returned v'/\Out P β s w β' s' w'/\VR β' s'.n v v'
variable {Q:Exit->Act->World->Prop} {r:Option Nat} {n:Nat}
theorem Pn {o:Oper} {b:Act} {w w':World} {v:Value} {next:Act->World->Prop} (hd:∀ c,o.op≠ .defer c) (h:(execOp b.eval o).run P w= .ok (.value v) w'∨((execOp b.eval o).run P w= .ok .skip w'/\v=undef)) (hn:next (b.put o.dst v) w'):o.wpIn (FR r) n P b w next Q:=by
 refine⟨λf _=>Abo r f,?_⟩;rw[Oper.semAt_eq _ _ o hd]
 rcases h with h|⟨h,rfl⟩<;>rw[h]<;>exact hn
theorem Qb {f:FuncId} (args:Array Value) (w:World) (hn:∀ (f:FuncId) (j:Func),P.funcs[f]?=some j->(j.name== "runtime.NumGoroutine")=false) (h:Rv P f=true):(callFunc f args).run P w= .ok (.enter f args) w:=by
 unfold Rv at h
 cases l:P.funcs[f]? with
 |none=>rw[l]at h;cases h
 |some j=>
  rw[l]at h;dsimp only at h
  have m:j.body.isNone=false:=by cases m:j.body<;>simp[m]at h ⊢
  unfold callFunc;rw[Sem.run_bind];simp only[run_program,Result.andThen_ok,l,hn f j l,Bool.false_eq_true,if_false,m];rfl
theorem AaK {call:Dc} (hn:∀ (f:FuncId) (M:Func),P.funcs[f]?=some M->(M.name== "runtime.NumGoroutine")=false) (hcall:Gf P call) {o:Oper} {ρ:Operand->Value} {s s':AS} {v:Value} (hev:Ael P call o ρ s= .ok (v,s')) {b:Act} {w:World}
  (hW:WR P β s.den w) (hx:∀ x∈o.op.operands.toList,okX x=true->VR β s.n (ρ x) (b.eval x)) (hd:∀ c,o.op≠ .defer c) {next:Act->World->Prop} (hnext:∀ β' v' h,Out P β s w β' s' h->VR β' s'.n v v'->next (b.put o.dst v') h):o.wpIn (FR r) n P b w next Q:=by
 unfold Ael at hev
 split at hev
 case h_2=>cases hev
 rename_i hall
 have m:∀ x∈o.op.operands.toList,VR β s.n (ρ x) (b.eval x):=λx z=>hx x z (List.all_eq_true.1 hall x z);unfold AlZ at hev
 split at hev
 ·rename_i tg args ht
  unfold target at ht
  split at ht
  case h_2=>cases ht
  rename_i c hop
  split at ht
  case h_2=>cases ht
  rename_i f hcal
  have I:=m f (by rw[hop];simp[Op.operands,Call.operands,hcal]);have j:VRs β s.n (c.args.map ρ) (c.args.map b.eval):= .map λx z=>m x (by rw[hop];simp[Op.operands,Call.operands,hcal,z]);refine⟨λf _=>Abo r f,?_⟩;rw[Oper.semAt_eq _ _ o hd];generalize F:b.eval f=Z at I
  split at ht
  ·rename_i g fs cs hg
   split at ht
   case h_2=>cases ht
   rename_i hen
   cases ht;rw[hg]at I
   cases I with
   |func _ _ O _ N D h2 E R=>
    have y:(execOp b.eval o).run P w= .ok (.enter g (O++c.args.map b.eval++N)) w:=by
     unfold execOp;rw[hop];simp only[resolve,hcal,Deferred.ofValue,F,pure_bind,invoke];exact Qb _ w hn hen
    rw[y];refine⟨AbG r n,Abh ((hcall.fn g _ s v s' hen hev β w _ hW ((VRs.append ⟨D,E⟩ j).append ⟨h2,R⟩)).mono ?_)⟩;rintro e h ⟨β',v',rfl,S,U⟩;exact hnext β' v' h S U
  ·rename_i l fs cs hg
   split at ht
   case h_2=>cases ht
   cases ht;rw[hg]at I
   cases I with
   |yield _ hl=>
    obtain⟨M,J,p,B,D,h2⟩:=hcall.yield l _ s v s' hev β w _ hW j r (n-1)
    have y:(execOp b.eval o).run P w= .ok (.round (β.b l) M J p B) w:=by
     unfold execOp;rw[hop];simp only[resolve,hcal,Deferred.ofValue,F,pure_bind,invoke]
     simpa using D
    rw[y];refine⟨AbG r n,h2.mono ?_⟩;rintro e h ⟨β',v',rfl,S,U⟩;exact hnext β' v' h S U
  cases ht
 unfold Aor at hev
 split at hev
 case h_2=>cases hev
 rename_i q hq
 cases hev;obtain⟨β',v',wB',D,h2,E,R,Y,X⟩:=Un hW (λx z=>by rw[s.size];exact m x z) hq;rw[s.size]at h2 E;rw[s'.size]at E X;exact Pn hd D (hnext β' v' wB' ⟨h2,E,R,Y⟩ X)
theorem Uh {call:Dc} {o:Oper} {ρ:Operand->Value} {s:AS} {x:Value×AS} (h:Ael P call o ρ s= .ok x):∀ c,o.op≠ .defer c:=by
 intro c j;unfold Ael at h
 split at h
 case h_2=>cases h
 unfold AlZ target evA at h;rw[j]at h;cases h
theorem AjJ {ops:Array Oper} {a:Ac} {b:Act} {m:Nat} (hA:AR β m a b) (o:Oper):Region.wanted o (yielded ops b.tmps)=AdD ops a o:=by
 unfold Region.wanted AdD
 cases o.guard with
 |none=>rfl
 |some g=>
  obtain⟨j,q⟩:=g;dsimp only;unfold yielded
  cases y:(ops[j]?).bind (·.dst) with
  |none=>rfl
  |some t=>
   dsimp only;have l:=hA.tm t
   have r:b.tmps.getD t undef=(b.tmps[t]?).getD undef:=by
    by_cases h:t<b.tmps.size<;>simp[Array.getD,h]
   rw[r]at l;rw[Option.bind_some];generalize a.eval (.tmp t)=u at l
   cases p:b.tmps[t]? with
   |none=>
    rw[p]at l;have l:VR β m u undef:=l;cases l;rfl
   |some x=>
    rw[p]at l;have l:VR β m u x:=l
    cases l<;>rfl
theorem Aeb {call:Dc} (hn:∀ (f:FuncId) (fn:Func),P.funcs[f]?=some fn->(fn.name== "runtime.NumGoroutine")=false) (hcall:Gf P call) {rd:Bool} (hrd:rd=false->r=none) {ops:Array Oper} {o:Oper} {a a':Ac} {s s':AS} (hev:AgH P call rd ops o a s= .ok (a',s')) {b:Act} {w:World}
  (hW:WR P β s.den w) (hA:AR β s.n a b) {next:Act->World->Prop} (hnext:∀ β' b' w',Out P β s w β' s' w'->AR β' s'.n a' b'->next b' w'):
  if Region.wanted o (yielded ops b.tmps) then o.wpIn (FR r) n P b w next Q else(∀f,o.about P w b.eval=some f->(FR r).fn f)/\next (b.put o.dst undef) w:=by
 rw[AjJ hA];unfold AgH at hev;have l:VR β s.n undef undef:= .toTuple (.empty _ _)
 split at hev
 ·rename_i hw
  rw[if_pos hw];unfold AkR at hev
  split at hev
  ·rename_i d hd
   have I:=hrd rfl;subst I;cases hev;unfold Ahu at hd
   split at hd
   case h_2=>cases hd
   rename_i c hop
   split at hd
   case h_2=>cases hd
   rename_i f hcal
   split at hd
   case h_2=>cases hd
   rename_i g fs cs hg
   split at hd
   case h_2=>cases hd
   rename_i hcond
   cases hd;simp only[Bool.and_eq_true]at hcond;obtain⟨⟨E,h⟩,p⟩:=hcond;have j:∀ x∈c.operands.toList,VR β s.n (a.eval x) (b.eval x):=λx F=>hA.eval (List.all_eq_true.1 p x F);have D:=j f (by simp[Call.operands,hcal]);have m:VRs β s.n (c.args.map a.eval) (c.args.map b.eval):= .map λx F=>j x (by simp[Call.operands,hcal,F]);generalize z:b.eval f=R at D;rw[hg]at D
   cases D with
   |func _ _ y _ q N h2 S U=>
    have J:y= #[]:=Array.eq_empty_of_size_eq_zero (by rw[N];simpa using E);have M:q= #[]:=Array.eq_empty_of_size_eq_zero (by rw[h2];simpa using h);subst J M;refine⟨λf _=>Abo _ f,?_⟩
    have B:(o.semAt (FR none).round b.eval).run P w= .ok (.defer ⟨.fn (.func g) #[],c.args.map b.eval⟩) w:=by
     show(o.semAt none b.eval).run P w=_
     rw[Oper.semAt_none];unfold execOp;rw[hop];simp only[resolve,hcal,Deferred.ofValue,z,pure_bind]
     simp
    rw[B];exact hnext β _ w (.refl hW) (AR.put (a:={a with defers:=_::a.defers}) (b:={b with defers:=_::b.defers}) ⟨hA.size,hA.small,hA.tm,.cons (.fn g _ _ m) hA.df⟩ o.dst l)
  unfold Apg at hev
  split at hev
  case h_2=>cases hev
  rename_i v s1 hop
  cases hev;refine AaK hn hcall hop hW (λx _ O=>hA.eval O) (Uh hop) λβ' v' w' ho hv=>hnext β' _ w' ho ((hA.ext ho.ext ho.le).put o.dst hv)
 rename_i hw
 rw[if_neg (by rw[hw];simp)];cases hev
 exact⟨λf _=>Abo r f,hnext β _ w (.refl hW) (hA.put o.dst l)⟩
theorem Xx {call:Dc} (hn:∀ (f:FuncId) (fn:Func),P.funcs[f]?=some fn->(fn.name== "runtime.NumGoroutine")=false) (hcall:Gf P call) {rd:Bool} (hrd:rd=false->r=none) {ops:Array Oper}:∀ (l:List Oper) (k:Nat) (β:Ren) (a a':Ac) (s s':AS) (b:Act) (w:World),ops.toList.drop k=l->
  AhQ P call rd ops l a s= .ok (a',s')->WR P β s.den w->AR β s.n a b->(∀β' b' w',Out P β s w β' s' w'->AR β' s'.n a' b'->Q .normal b' w')->wpOpsIn (FR r) n P ops Q (List.range' k l.length) b w
 | [],k,β,a,a',s,s',b,w,hl,hev,hW,hA,hQ=>by
  cases hev;exact hQ β b w (.refl hW) hA
 |o::l,k,β,a,a',s,s',b,w,hl,hev,hW,hA,hQ=>by
  unfold AhQ at hev
  split at hev
  case h_2=>cases hev
  rename_i a1 s1 h1
  have m:ops[k]?=some o:=by
   rw[<-Array.getElem?_toList]
   have:=congrArg (λx=>x[0]?) hl
   simpa using this
  have j:ops.toList.drop (k+1)=l:=by
   have:=congrArg List.tail hl
   simpa using this
  rw[List.length_cons,List.range'_succ,wpOpsIn_cons];unfold wpOpIn;rw[m];dsimp only;exact Aeb hn hcall hrd h1 hW hA λβ' b' w' ho hA'=>Xx hn hcall hrd l (k+1) β' a1 a' s1 s' b' w' j hev ho.wr hA' λβ2 b2 w2 ho2 hA2=>hQ β2 b2 w2 (ho.trans ho2) hA2
end
end Go.Mir
end
