/- A part of the proof. -/
import Derived.Test.YtmidbhnhcbpneaaGreatDoorM5
import Derived.Lib.EndianBits
import Derived.Test.YtmidbhnhcbpneaaGreatDoorM3
import Derived.Test.YtmidbhnhcbpneaaGreatDoorM6
import Derived.BigQuiet
import Derived.Deep.CutRange
set_option linter.unusedVariables false
set_option linter.unusedSimpArgs false
set_option maxRecDepth 8000
set_option maxHeartbeats 8000000
section
namespace Go.Proofs.YtmidbhnhcbpneaaGreatDoor.Top
open Go Go.RowKit Go.Lt YtmidbhnhcbpneaaGreatDoor.Lit YtmidbhnhcbpneaaGreatDoor.Dec
abbrev Dq (s:ByteArray) (p:Nat):Txt:=s.data.toList.drop p
def Aoc (s:ByteArray) (p:Nat) (w:World) (e:Ending) (w':World):Prop:=
 w'=w/\((∃n q,Ke 5 0 (Dq s p)=some (n,Dq s q)/\q<=s.size/\n<4294967296/\e= .returned (.tuple #[.int .u32 (n:Nat),.int .i64 q,.int .i64 0]))∨(Ke 5 0 (Dq s p)=none/\∃c:Int,c≠0/\c<=5/\e= .returned (.tuple #[.int .u32 0,.int .i64 0,.int .i64 c])))
theorem Vr {s:ByteArray} {p n q:Nat} {w:World} {e:Ending} (h:Ke 5 0 (Dq s p)=some (n,Dq s q)) (hq:q<=s.size) (hn:n<4294967296) {x y z:Value} (he:e= .returned (.tuple #[x,y,z])) (hx:x= .int .u32 (n:Nat)) (hy:y= .int .i64 (q:Nat)) (hz:z= .int .i64 0):Aoc s p w e w:=by
 subst hx hy hz
 exact⟨rfl,.inl ⟨n,q,h,hq,hn,he⟩⟩
theorem int_eq {k:IntKind} {a b:Int} (h:a=b):Value.int k a= .int k b:=by rw[h]
structure Vk (s:ByteArray) (p k acc:Nat):Prop where
 lt:k<5
 small:acc<128^k
 le:p+k<=s.size
 more:Ke 5 0 (Dq s p)=(Ke (5-k) k (Dq s (p+k))).map λr=>(acc+128^k*r.1,r.2)
theorem Mk {s:ByteArray} {p:Nat} (h:p<s.size):∃ b,s.data.toList[p]?=some b/\Dq s p=b::Dq s (p+1):=by
 have j:p<s.data.toList.length:=by rw[Ff];exact h
 exact⟨_,List.getElem?_eq_getElem j,List.drop_eq_getElem_cons j⟩
theorem Wk {k:Nat} (hk:k<5) (b:UInt8) (t:Txt):Ke (5-k) k (b::t)=if k=4/\15<b.toNat then none else if 0<k/\b.toNat=0 then none else if b.toNat<128 then some (b.toNat,t) else(Ke (5-(k+1)) (k+1) t).bind λp=>some (b.toNat-128+128*p.1,p.2):=by
 rw[show 5-k=(5-(k+1))+1 by omega];rfl
section
variable {s:ByteArray} {p k acc:Nat} {b:UInt8}
theorem Vk.end_ (h:Vk s p k acc) (he:p+k=s.size):Ke 5 0 (Dq s p)=none:=by
 have:Dq s (p+k)= []:=List.drop_eq_nil_of_le (by rw[Ff];omega)
 rw[h.more,this,show 5-k=(4-k)+1 by have:=h.lt;omega];rfl
theorem Vk.no (h:Vk s p k acc) (hr:Dq s (p+k)=b::Dq s (p+k+1)) (j:(k=4/\15<b.toNat)∨(0<k/\b.toNat=0)):Ke 5 0 (Dq s p)=none:=by
 rw[h.more,hr,Wk h.lt]
 rcases j with j|j
 ·rw[if_pos j];rfl
 by_cases l:k=4/\15<b.toNat
 ·rw[if_pos l];rfl
 rw[if_neg l,if_pos j];rfl
theorem Vk.yes (h:Vk s p k acc) (hr:Dq s (p+k)=b::Dq s (p+k+1)) (h4:¬ (k=4/\15<b.toNat)) (h0:¬ (0<k/\b.toNat=0)) (hb:b.toNat<128):Ke 5 0 (Dq s p)=some (acc+128^k*(b.toNat%128),Dq s (p+k+1)):=by
 rw[h.more,hr,Wk h.lt,if_neg h4,if_neg h0,if_pos hb,Nat.mod_eq_of_lt hb];rfl
theorem Vk.go (h:Vk s p k acc) (hr:Dq s (p+k)=b::Dq s (p+k+1)) (hlt:p+k<s.size) (h4:¬ (k=4/\15<b.toNat)) (h0:¬ (0<k/\b.toNat=0)) (hb:¬ b.toNat<128):Vk s p (k+1) (acc+128^k*(b.toNat%128)):=by
 have l:=b.toNat_lt
 have m:k+1<5:=by
  have:=h.lt
  rcases Nat.lt_or_ge (k+1) 5 with j|j
  ·exact j
  exact absurd ⟨show k=4 by omega,show 15<b.toNat by omega⟩ h4
 refine⟨m,?_,by omega,?_⟩
 ·have j:b.toNat%128<=127:=by omega
  have h2:=Nat.mul_le_mul_left (128^k) j;have x:=h.small;rw[Nat.pow_succ];omega
 rw[h.more,hr,Wk h.lt,if_neg h4,if_neg h0,if_neg hb,show p+(k+1)=p+k+1 by omega]
 have q:b.toNat-128=b.toNat%128:=by have:b.toNat<256:=l;omega
 rw[q]
 cases Ke (5-(k+1)) (k+1) (Dq s (p+k+1)) with
 |none=>rfl
 |some r=>
  simp only[Option.bind_some,Option.map_some,Option.some.injEq,Prod.mk.injEq,and_true];rw[Nat.pow_succ,Nat.mul_add,Nat.mul_assoc,Nat.add_assoc]
end
theorem Afv (b:UInt8):bits .and .u8 (bt b) 127=((b.toNat%128:Nat):Int):=by
 have h:=bits_mask .u8 8 (by decide) wraps_u8 7 (by decide) (bt b) (by unfold bt;omega) (by have:=AeG b;unfold bt at *;omega);rw[show(2:Int)^7-1=127 by decide,show(2:Int)^7=128 by decide]at h;rw[h];unfold bt;omega
theorem ApM {acc m:Nat} (ha:acc<1) (hm:m<128):bits .or .u32 (acc:Int) ((m:Int)*1)=((acc+1*m:Nat):Int):=by
 have h:=bits_join_low .u32 32 (by decide) wraps_u32 0 (acc:Int) ((m:Int)*1) (by omega) (by rw[show(2:Int)^0=1 by decide];omega) (by rw[show(2:Int)^32=4294967296 by decide];omega) (by omega) (by rw[show(2:Int)^0=1 by decide];omega) (by rw[show(2:Int)^32=4294967296 by decide];omega);rw[h];omega
theorem AoC {acc m:Nat} (ha:acc<1) (hm:m<128):acc+1*m<4294967296:=by omega
theorem ApL {acc m:Nat} (ha:acc<128) (hm:m<128):bits .or .u32 (acc:Int) ((m:Int)*128)=((acc+128*m:Nat):Int):=by
 have h:=bits_join_low .u32 32 (by decide) wraps_u32 7 (acc:Int) ((m:Int)*128) (by omega) (by rw[show(2:Int)^7=128 by decide];omega) (by rw[show(2:Int)^32=4294967296 by decide];omega) (by omega) (by rw[show(2:Int)^7=128 by decide];omega) (by rw[show(2:Int)^32=4294967296 by decide];omega);rw[h];omega
theorem AoL {acc m:Nat} (ha:acc<128) (hm:m<128):acc+128*m<4294967296:=by omega
theorem ApH {acc m:Nat} (ha:acc<16384) (hm:m<128):bits .or .u32 (acc:Int) ((m:Int)*16384)=((acc+16384*m:Nat):Int):=by
 have h:=bits_join_low .u32 32 (by decide) wraps_u32 14 (acc:Int) ((m:Int)*16384) (by omega) (by rw[show(2:Int)^14=16384 by decide];omega) (by rw[show(2:Int)^32=4294967296 by decide];omega) (by omega) (by rw[show(2:Int)^14=16384 by decide];omega) (by rw[show(2:Int)^32=4294967296 by decide];omega);rw[h];omega
theorem Aou {acc m:Nat} (ha:acc<16384) (hm:m<128):acc+16384*m<4294967296:=by omega
theorem App {acc m:Nat} (ha:acc<2097152) (hm:m<128):bits .or .u32 (acc:Int) ((m:Int)*2097152)=((acc+2097152*m:Nat):Int):=by
 have h:=bits_join_low .u32 32 (by decide) wraps_u32 21 (acc:Int) ((m:Int)*2097152) (by omega) (by rw[show(2:Int)^21=2097152 by decide];omega) (by rw[show(2:Int)^32=4294967296 by decide];omega) (by omega) (by rw[show(2:Int)^21=2097152 by decide];omega) (by rw[show(2:Int)^32=4294967296 by decide];omega);rw[h];omega
theorem AoK {acc m:Nat} (ha:acc<2097152) (hm:m<128):acc+2097152*m<4294967296:=by omega
theorem Apz {acc m:Nat} (ha:acc<268435456) (hm:m<16):bits .or .u32 (acc:Int) ((m:Int)*268435456)=((acc+268435456*m:Nat):Int):=by
 have h:=bits_join_low .u32 32 (by decide) wraps_u32 28 (acc:Int) ((m:Int)*268435456) (by omega) (by rw[show(2:Int)^28=268435456 by decide];omega) (by rw[show(2:Int)^32=4294967296 by decide];omega) (by omega) (by rw[show(2:Int)^28=268435456 by decide];omega) (by rw[show(2:Int)^32=4294967296 by decide];omega);rw[h];omega
theorem AoG {acc m:Nat} (ha:acc<268435456) (hm:m<16):acc+268435456*m<4294967296:=by omega
theorem Ajz (s:ByteArray) (p:Nat) (w:World) (hp:p<=s.size) (hs:s.size<=2000000):
  Calls Tryz.prog 417 #[.string s,.int .i64 p] w (Aoc s p w):=by
 have HO:=Ab (λW=>Ud s p W hp hs)
 have aB:(p:Int)<=s.size:=by omega
 have aC:(s.size:Int)<=2000000:=by omega
 go_enter Tryz.func417,Tryz.ntmps417
 go_wp2_with fail
 refine(HO.o _).mono ?_;rintro e w' ⟨rfl,rfl⟩
 go_wp2_with fail
 go_loop [7,13] (λn t=>∃ k acc:Nat,k<5/\t= .int .i64 k/\n= .int .u32 acc/\Hid (Vk s p k acc)) (λn t=>5-(intOf t).toNat)
 case atStart=>exact⟨0,0,by decide,rfl,rfl,Ab ⟨by decide,by decide,hp,by cases Ke 5 0 (Dq s p)<;>simp⟩⟩
 case round=>
  obtain⟨k,acc,hk,rfl,rfl,M⟩:=hrel
  rcases(show k=0∨k=1∨k=2∨k=3∨k=4 by omega) with rfl|rfl|rfl|rfl|rfl
  ·by_cases X:p+0=s.size
   ·have Z:(p:Int)=s.size:=by omega
    have E:=Ab (M.o.end_ X);clear X;go_wp2
    go_ret3
    exact⟨rfl,.inr ⟨E.o,3,by decide,by decide,rfl⟩⟩
   have hle:=M.o.le
   have z:p+0<s.size:=by omega
   have Z:¬ (p:Int)=s.size:=by omega
   have e3:(p:Int)<s.size:=by omega
   obtain⟨b,U,O⟩:=Mk z
   have N:∀ W,(Instr.index 9 (.string s) (.int .i64 ((p:Int)))).run Tryz.prog W= .ok (.int .u8 (bt b)) W:=λW=>by
    have:=Da (P:=Tryz.prog) Tryz.underlying9 s (p+0) b U W
    rwa [show((p+0:Nat):Int)=(p:Int) by omega]at this
   have D:=Afv b;have y:=b.toNat_lt;have x:=M.o.small;have q:bt b=(b.toNat:Int):=rfl;rw[q]at N D;clear U hle;replace O:=Ab O;obtain⟨m,B⟩:∃ m,b.toNat%128=m:=⟨_,rfl⟩;rw[B]at D
   have r:m<128:=by omega
   have q1:(m:Int)%4294967296=m:=by omega
   have q2:(m:Int)*1%4294967296=(m:Int)*1:=by omega
   have q3:=ApM (by simpa using x) r;rw[Int.mul_one]at q3;have A:=Ab (show acc+1*m<4294967296 from AoC (by simpa using x) r);clear x
   by_cases j:b.toNat<128
   ·have R:(b.toNat:Int)<128:=by omega
    have l:=Ab (M.o.yes O.o (λh=>absurd h.1 (by decide)) (λh=>absurd h.1 (by decide)) j);rw[B]at l;replace B:=Ab B;clear q r y j;have F:Ke 5 0 (Dq s p)=some (acc+1*m,Dq s (p+0+1)):=l.o;replace F:=Ab F;clear l;go_wp2
    go_ret3
    refine Vr F.o z A.o rfl (int_eq ?_) (int_eq ?_) rfl
    ·omega
    omega
   have R:¬ (b.toNat:Int)<128:=by omega
   have I:=Ab (M.o.go O.o z (λh=>absurd h.1 (by decide)) (λh=>absurd h.1 (by decide)) j);rw[B]at I;replace B:=Ab B;clear q r y j;have J:Vk s p 1 (acc+1*m):=I.o;replace J:=Ab J;clear I;go_wp2
   go_round
   case rel=>exact⟨1,_,by decide,rfl,rfl,Ab (by have:=J.o;rwa [Nat.one_mul]at this)⟩
   case measure=>simp[intOf]
  ·by_cases X:p+1=s.size
   ·have Z:(p:Int)+1=s.size:=by omega
    have E:=Ab (M.o.end_ X);clear X;go_wp2
    go_ret3
    exact⟨rfl,.inr ⟨E.o,3,by decide,by decide,rfl⟩⟩
   have hle:=M.o.le
   have z:p+1<s.size:=by omega
   have Z:¬ (p:Int)+1=s.size:=by omega
   have e3:(p:Int)+1<s.size:=by omega
   obtain⟨b,U,O⟩:=Mk z
   have N:∀ W,(Instr.index 9 (.string s) (.int .i64 ((p:Int)+1))).run Tryz.prog W= .ok (.int .u8 (bt b)) W:=λW=>by
    have:=Da (P:=Tryz.prog) Tryz.underlying9 s (p+1) b U W
    rwa [show((p+1:Nat):Int)=(p:Int)+1 by omega]at this
   have D:=Afv b;have y:=b.toNat_lt;have x:=M.o.small;have q:bt b=(b.toNat:Int):=rfl;rw[q]at N D;clear U hle;replace O:=Ab O
   by_cases S:b.toNat=0
   ·have i1:(b.toNat:Int)=0:=by omega
    have E:=Ab (M.o.no O.o (.inr ⟨by decide,S⟩))
    skip
    clear S q D x y;go_wp2
    go_ret3
    exact⟨rfl,.inr ⟨E.o,2,by decide,by decide,rfl⟩⟩
   have j0:¬ (b.toNat:Int)=0:=by omega
   have Y:=Ab S;clear S;obtain⟨m,B⟩:∃ m,b.toNat%128=m:=⟨_,rfl⟩;rw[B]at D
   have r:m<128:=by omega
   have q1:(m:Int)%4294967296=m:=by omega
   have q2:(m:Int)*128%4294967296=(m:Int)*128:=by omega
   have q3:=ApL (by simpa using x) r
   skip
   have A:=Ab (show acc+128*m<4294967296 from AoL (by simpa using x) r);clear x
   by_cases j:b.toNat<128
   ·have R:(b.toNat:Int)<128:=by omega
    have l:=Ab (M.o.yes O.o (λh=>absurd h.1 (by decide)) (λh=>Y.o h.2) j);rw[B]at l;replace B:=Ab B;clear q r y j;have F:Ke 5 0 (Dq s p)=some (acc+128*m,Dq s (p+1+1)):=l.o;replace F:=Ab F;clear l;go_wp2
    go_ret3
    refine Vr F.o z A.o rfl (int_eq ?_) (int_eq ?_) rfl
    ·omega
    omega
   have R:¬ (b.toNat:Int)<128:=by omega
   have I:=Ab (M.o.go O.o z (λh=>absurd h.1 (by decide)) (λh=>Y.o h.2) j);rw[B]at I;replace B:=Ab B;clear q r y j;have J:Vk s p 2 (acc+128*m):=I.o;replace J:=Ab J;clear I;go_wp2
   go_round
   case rel=>exact⟨2,_,by decide,rfl,rfl,Ab (J.o)⟩
   case measure=>simp[intOf]
  ·by_cases X:p+2=s.size
   ·have Z:(p:Int)+2=s.size:=by omega
    have E:=Ab (M.o.end_ X);clear X;go_wp2
    go_ret3
    exact⟨rfl,.inr ⟨E.o,3,by decide,by decide,rfl⟩⟩
   have hle:=M.o.le
   have z:p+2<s.size:=by omega
   have Z:¬ (p:Int)+2=s.size:=by omega
   have e3:(p:Int)+2<s.size:=by omega
   obtain⟨b,U,O⟩:=Mk z
   have N:∀ W,(Instr.index 9 (.string s) (.int .i64 ((p:Int)+2))).run Tryz.prog W= .ok (.int .u8 (bt b)) W:=λW=>by
    have:=Da (P:=Tryz.prog) Tryz.underlying9 s (p+2) b U W
    rwa [show((p+2:Nat):Int)=(p:Int)+2 by omega]at this
   have D:=Afv b;have y:=b.toNat_lt;have x:=M.o.small;have q:bt b=(b.toNat:Int):=rfl;rw[q]at N D;clear U hle;replace O:=Ab O
   by_cases S:b.toNat=0
   ·have i1:(b.toNat:Int)=0:=by omega
    have E:=Ab (M.o.no O.o (.inr ⟨by decide,S⟩))
    skip
    clear S q D x y;go_wp2
    go_ret3
    exact⟨rfl,.inr ⟨E.o,2,by decide,by decide,rfl⟩⟩
   have j0:¬ (b.toNat:Int)=0:=by omega
   have Y:=Ab S;clear S;obtain⟨m,B⟩:∃ m,b.toNat%128=m:=⟨_,rfl⟩;rw[B]at D
   have r:m<128:=by omega
   have q1:(m:Int)%4294967296=m:=by omega
   have q2:(m:Int)*16384%4294967296=(m:Int)*16384:=by omega
   have q3:=ApH (by simpa using x) r
   skip
   have A:=Ab (show acc+16384*m<4294967296 from Aou (by simpa using x) r);clear x
   by_cases j:b.toNat<128
   ·have R:(b.toNat:Int)<128:=by omega
    have l:=Ab (M.o.yes O.o (λh=>absurd h.1 (by decide)) (λh=>Y.o h.2) j);rw[B]at l;replace B:=Ab B;clear q r y j;have F:Ke 5 0 (Dq s p)=some (acc+16384*m,Dq s (p+2+1)):=l.o;replace F:=Ab F;clear l;go_wp2
    go_ret3
    refine Vr F.o z A.o rfl (int_eq ?_) (int_eq ?_) rfl
    ·omega
    omega
   have R:¬ (b.toNat:Int)<128:=by omega
   have I:=Ab (M.o.go O.o z (λh=>absurd h.1 (by decide)) (λh=>Y.o h.2) j);rw[B]at I;replace B:=Ab B;clear q r y j;have J:Vk s p 3 (acc+16384*m):=I.o;replace J:=Ab J;clear I;go_wp2
   go_round
   case rel=>exact⟨3,_,by decide,rfl,rfl,Ab (J.o)⟩
   case measure=>simp[intOf]
  ·by_cases X:p+3=s.size
   ·have Z:(p:Int)+3=s.size:=by omega
    have E:=Ab (M.o.end_ X);clear X;go_wp2
    go_ret3
    exact⟨rfl,.inr ⟨E.o,3,by decide,by decide,rfl⟩⟩
   have hle:=M.o.le
   have z:p+3<s.size:=by omega
   have Z:¬ (p:Int)+3=s.size:=by omega
   have e3:(p:Int)+3<s.size:=by omega
   obtain⟨b,U,O⟩:=Mk z
   have N:∀ W,(Instr.index 9 (.string s) (.int .i64 ((p:Int)+3))).run Tryz.prog W= .ok (.int .u8 (bt b)) W:=λW=>by
    have:=Da (P:=Tryz.prog) Tryz.underlying9 s (p+3) b U W
    rwa [show((p+3:Nat):Int)=(p:Int)+3 by omega]at this
   have D:=Afv b;have y:=b.toNat_lt;have x:=M.o.small;have q:bt b=(b.toNat:Int):=rfl;rw[q]at N D;clear U hle;replace O:=Ab O
   by_cases S:b.toNat=0
   ·have i1:(b.toNat:Int)=0:=by omega
    have E:=Ab (M.o.no O.o (.inr ⟨by decide,S⟩))
    skip
    clear S q D x y;go_wp2
    go_ret3
    exact⟨rfl,.inr ⟨E.o,2,by decide,by decide,rfl⟩⟩
   have j0:¬ (b.toNat:Int)=0:=by omega
   have Y:=Ab S;clear S;obtain⟨m,B⟩:∃ m,b.toNat%128=m:=⟨_,rfl⟩;rw[B]at D
   have r:m<128:=by omega
   have q1:(m:Int)%4294967296=m:=by omega
   have q2:(m:Int)*2097152%4294967296=(m:Int)*2097152:=by omega
   have q3:=App (by simpa using x) r
   skip
   have A:=Ab (show acc+2097152*m<4294967296 from AoK (by simpa using x) r);clear x
   by_cases j:b.toNat<128
   ·have R:(b.toNat:Int)<128:=by omega
    have l:=Ab (M.o.yes O.o (λh=>absurd h.1 (by decide)) (λh=>Y.o h.2) j);rw[B]at l;replace B:=Ab B;clear q r y j;have F:Ke 5 0 (Dq s p)=some (acc+2097152*m,Dq s (p+3+1)):=l.o;replace F:=Ab F;clear l;go_wp2
    go_ret3
    refine Vr F.o z A.o rfl (int_eq ?_) (int_eq ?_) rfl
    ·omega
    omega
   have R:¬ (b.toNat:Int)<128:=by omega
   have I:=Ab (M.o.go O.o z (λh=>absurd h.1 (by decide)) (λh=>Y.o h.2) j);rw[B]at I;replace B:=Ab B;clear q r y j;have J:Vk s p 4 (acc+2097152*m):=I.o;replace J:=Ab J;clear I;go_wp2
   go_round
   case rel=>exact⟨4,_,by decide,rfl,rfl,Ab (J.o)⟩
   case measure=>simp[intOf]
  by_cases X:p+4=s.size
  ·have Z:(p:Int)+4=s.size:=by omega
   have E:=Ab (M.o.end_ X);clear X;go_wp2
   go_ret3
   exact⟨rfl,.inr ⟨E.o,3,by decide,by decide,rfl⟩⟩
  have hle:=M.o.le
  have z:p+4<s.size:=by omega
  have Z:¬ (p:Int)+4=s.size:=by omega
  have e3:(p:Int)+4<s.size:=by omega
  obtain⟨b,U,O⟩:=Mk z
  have N:∀ W,(Instr.index 9 (.string s) (.int .i64 ((p:Int)+4))).run Tryz.prog W= .ok (.int .u8 (bt b)) W:=λW=>by
   have:=Da (P:=Tryz.prog) Tryz.underlying9 s (p+4) b U W
   rwa [show((p+4:Nat):Int)=(p:Int)+4 by omega]at this
  have D:=Afv b;have y:=b.toNat_lt;have x:=M.o.small;have q:bt b=(b.toNat:Int):=rfl;rw[q]at N D;clear U hle;replace O:=Ab O
  by_cases S:15<b.toNat
  ·have i1:(b.toNat:Int)>15:=by omega
   have E:=Ab (M.o.no O.o (.inl ⟨rfl,S⟩))
   skip
   clear S q D x y;go_wp2
   go_ret3
   exact⟨rfl,.inr ⟨E.o,5,by decide,by decide,rfl⟩⟩
  have aD:¬ (b.toNat:Int)>15:=by omega
  have aA:=Ab S;clear S
  by_cases S:b.toNat=0
  ·have i1:(b.toNat:Int)=0:=by omega
   have E:=Ab (M.o.no O.o (.inr ⟨by decide,S⟩))
   have i4:¬ (b.toNat:Int)>15:=by omega
   clear S q D x y;go_wp2
   go_ret3
   exact⟨rfl,.inr ⟨E.o,2,by decide,by decide,rfl⟩⟩
  have j0:¬ (b.toNat:Int)=0:=by omega
  have Y:=Ab S;clear S;obtain⟨m,B⟩:∃ m,b.toNat%128=m:=⟨_,rfl⟩;rw[B]at D
  have r:m<16:=by have:=aA.o;omega
  have q1:(m:Int)%4294967296=m:=by omega
  have q2:(m:Int)*268435456%4294967296=(m:Int)*268435456:=by omega
  have q3:=Apz (by simpa using x) r
  skip
  have A:=Ab (show acc+268435456*m<4294967296 from AoG (by simpa using x) r);clear x
  by_cases j:b.toNat<128
  ·have R:(b.toNat:Int)<128:=by omega
   have l:=Ab (M.o.yes O.o (λh=>aA.o h.2) (λh=>Y.o h.2) j);rw[B]at l;replace B:=Ab B;clear q r y j;have F:Ke 5 0 (Dq s p)=some (acc+268435456*m,Dq s (p+4+1)):=l.o;replace F:=Ab F;clear l;go_wp2
   go_ret3
   refine Vr F.o z A.o rfl (int_eq ?_) (int_eq ?_) rfl
   ·omega
   omega
  have R:¬ (b.toNat:Int)<128:=by omega
  have I:=Ab (M.o.go O.o z (λh=>aA.o h.2) (λh=>Y.o h.2) j);rw[B]at I;replace B:=Ab B;clear q r y j;exact absurd I.o.lt (by decide)
abbrev Tx (w:World) (tg:Nat) (s:ByteArray) (p e:Int):Prop:=Blk w tg 158 #[.string s,.int .i64 p,.int .i64 e]
def TxS (w:World) (tg:Nat) (s:ByteArray):Option Nat->Prop
 |some p=>p<=s.size/\Tx w tg s p 0
 |none=>∃ (p:Nat) (e:Int),p<=s.size/\e≠0/\Tx w tg s p e
theorem TxS.get {w:World} {tg:Nat} {s:ByteArray} {st:Option Nat} (h:TxS w tg s st):∃ (p:Nat) (e:Int),p<=s.size/\Tx w tg s p e/\((e=0/\st=some p)∨(e≠0/\st=none)):=by
 cases st with
 |some p=>exact⟨p,0,h.1,h.2,.inl ⟨rfl,rfl⟩⟩
 |none=>obtain⟨p,e,j,h2,l⟩:=h;exact⟨p,e,j,l,.inr ⟨h2,rfl⟩⟩
theorem Aah {st:Option Nat} {p:Nat} {e:Int} (h:(e=0/\st=some p)∨(e≠0/\st=none)) (h0:e=0):st=some p:=by
 rcases h with h|h
 ·exact h.2
 exact absurd h0 h.1
theorem Adl {st:Option Nat} {p p':Nat} {e:Int} {X:Prop} (h:(e=0/\st=some p)∨(e≠0/\st=none)) (h0:¬ e=0) (hp:st=some p'):X:=by
 rcases h with h|h
 ·exact absurd h.1 h0
 rw[h.2]at hp;cases hp
theorem Pz {α:Type} {st:Option Nat} {p p':Nat} {e:Int} {f:Nat->Option α} (h:(e=0/\st=some p)∨(e≠0/\st=none)) (hp:st=some p') (hf:f p=none):f p'=none:=by
 rcases h with h|h
 ·rw[h.2]at hp;injection hp with hp;rw[<-hp];exact hf
 rw[h.2]at hp;cases hp
def AlA (tg:Nat) (nx e0 e:Int) (w:World) (r:Ending) (w':World):Prop:=
 (e0=0/\e=0/\r= .returned (.bool true)/\w'=w.setCell ⟨tg,1,none⟩ (.int .i64 nx))∨(e0=0/\e≠0/\r= .returned (.bool false)/\w'=w.setCell ⟨tg,2,none⟩ (.int .i64 e))∨(e0≠0/\r= .returned (.bool false)/\w'=w)
theorem Gg (tg:Nat) (s:ByteArray) (p nx e0 e:Int) (w:World) (hg:Tx w tg s p e0):
  Calls Tryz.prog 418 #[.pointer (some ⟨tg,0,none⟩),.int .i64 nx,.int .i64 e] w (AlA tg nx e0 e w):=by
 have q:=hg.cell 1;have r:=hg.cell 2;have x:=hg.frozen 1;have y:=hg.frozen 2
 by_cases j:e0=0
 ·subst j
  by_cases l:e=0
  ·subst l
   go_enter Tryz.func418,Tryz.ntmps418
   go_wp2;go_ret;exact .inl ⟨rfl,rfl,rfl,rfl⟩
  have h2:(e != 0)=true:=by rw[bne_iff_ne];exact l
  have m:(e==0)=false:=by rw[beq_eq_false_iff_ne];exact l
  go_enter Tryz.func418,Tryz.ntmps418
  go_wp2;go_ret;exact .inr (.inl ⟨rfl,l,rfl,rfl⟩)
 have h2:(e0 != 0)=true:=by rw[bne_iff_ne];exact j
 have m:(e0==0)=false:=by rw[beq_eq_false_iff_ne];exact j
 go_enter Tryz.func418,Tryz.ntmps418
 go_wp2;go_ret;exact .inr (.inr ⟨j,rfl,rfl⟩)
theorem Ho {tg:Nat} {s:ByteArray} {p:Nat} {nx:Nat} {e0 e:Int} {w w':World} {r:Ending} (h:AlA tg nx e0 e w r w') (hg:Tx w tg s p e0) (hp:p<=s.size) (hn:e=0->nx<=s.size):
  ∃b,r= .returned (.bool b)/\(b=true↔e0=0/\e=0)/\TxS w' tg s (if e0=0/\e=0 then some nx else none)/\Fr (λq=>q=tg) w w':=by
 rcases h with⟨j,l,rfl,rfl⟩|⟨j,l,rfl,rfl⟩|⟨j,rfl,rfl⟩
 ·exact⟨true,rfl,by simp[j,l],by rw[if_pos ⟨j,l⟩];subst j;exact⟨hn l,hg.set_ 1 _⟩,(Fr.refl (λq=>q=tg) w).set (p:=⟨tg,1,none⟩) rfl _⟩
 ·exact⟨false,rfl,by simp[l],by rw[if_neg (λh=>l h.2)];subst j;exact⟨p,e,hp,l,hg.set_ 2 _⟩,(Fr.refl (λq=>q=tg) w).set (p:=⟨tg,2,none⟩) rfl _⟩
 exact⟨false,rfl,by simp[j],by rw[if_neg (λh=>j h.1)];exact⟨p,e0,hp,j,hg⟩,Fr.refl _ _⟩
theorem Abm (tg:Nat) (s:ByteArray) (p e:Int) (w:World) (hg:Tx w tg s p e):
  Calls Tryz.prog 87 #[.pointer (some ⟨tg,0,none⟩)] w λr j=>r= .returned (.tuple #[.int .i64 p,.int .i64 e])/\Dr w j:=by
 have l:=hg.cell 1;have m:=hg.cell 2
 go_enter Tryz.func87,Tryz.ntmps87
 go_wp2
 go_quiet (fail)
 go_wp2
 go_ret2
 exact⟨rfl,⟨_,rfl⟩⟩
def AmF (tg:Nat) (s:ByteArray) (st:Option Nat) (top:Nat) (w:World) (e:Ending) (w':World):Prop:=
 Fr (λq=>q=tg) w w'/\((∃p n q,st=some p/\Gi top (rest s p)=some (n,rest s q)/\e= .returned (.int .i64 (n:Nat))/\TxS w' tg s (some q))∨((∀p,st=some p->Gi top (rest s p)=none)/\e= .returned (.int .i64 0)/\TxS w' tg s none))
theorem Re (tg:Nat) (s:ByteArray) (st:Option Nat) (top:Nat) (w:World) (hs:s.size<=2000000) (hg:TxS w tg s st) (ht:top<=1000000000):
  Calls Tryz.prog 415 #[.pointer (some ⟨tg,0,none⟩),.int .i64 top] w (AmF tg s st top w):=by
 obtain⟨p,e0,hp,U,he⟩:=hg.get;clear hg;have HN:=Ab (λW=>Pj s p W hp hs);unfold Xk at HN;have aD:=Ze (rest s p);have j:=Ab (show Gi top (rest s p)=if(Bq (rest s p)).2.2=0/\(Bq (rest s p)).1<=top then some ((Bq (rest s p)).1,(rest s p).drop (Bq (rest s p)).2.1) else none from rfl)
 have m:p+(Bq (rest s p)).2.1<=s.size:=by
  have h1:(Bq (rest s p)).2.1<=(rest s p).length:=by
   unfold Bq
   repeat' split
   all_goals first|exact Nat.zero_le _|exact Vb _
  rw[List.length_drop,Ff]at h1;omega
 generalize hR:Bq (rest s p)=R at*;obtain⟨n,d,c⟩:=R;simp only at HN j aD m;clear hR;obtain⟨q,O⟩:∃ q,q=if c=0 then p+d else 0:=⟨_,rfl⟩;rw[<-O]at HN;have aB:=U.cell 0;have aC:=U.cell 1;have Z:=U.lt;replace U:=Ab U
 have aH:(n:Int)<1000000000:=by omega
 have aF:(c:Int)<=5:=by omega
 have aI:(q:Int)<=2000000:=by rw[O];split<;>omega
 replace O:=Ab O;replace m:=Ab m;replace he:=Ab he;replace hp:=Ab hp;clear aD
 go_enter Tryz.func415,Tryz.ntmps415
 go_upto_region 1 with fail
 refine wp_region_held_drew (S:=λW'=>W'.cell? ⟨tg,0,none⟩=some (.string s)/\W'.cell? ⟨tg,1,none⟩=some (.int .i64 p)) (by kernel_rfl) (⟨aB,aC⟩) (λz=>?_);refine tk 0 (h:=tk 1 (h:=tk 2 (h:=tk 3 (h:=tk 4 (h:=tk 5 (h:=tk 6 (h:=tk 7 (h:=?_))))))));refine rd1 8 λK hK=>?_;go_simp
 go_wp2_with fail
 refine(HN.o _).mono ?_;rintro e w2 ⟨rfl,aA⟩;have I:=Ab (((Dr.refl w).drew.below w.heap.size).trans aA);clear aA
 try go_wp2_with fail
 refine hK.o _ _ (⟨(U.o.below I.o Z).cell 0,(U.o.below I.o Z).cell 1⟩) (λz=>?_);refine tk 9 (h:=tk 10 (h:=tk 11 (h:=tk 12 (h:=tk 13 (h:=tk 14 (h:=tk 15 (h:=?_)))))));refine wpAnyH_done (by kernel_rfl) ?_ _;clear z aB aC HN;have y:=Ab (U.o.below I.o Z);have J:=Ab (Fr.of_below (S:=λq=>q=tg) I.o)
 by_cases hc:c=0
 ·subst hc;have M:q=p+d:=O.o
  by_cases hn:n<=top
  ·have aE:¬ (n:Int)>top:=by omega
   have D:=Ab (show Gi top (rest s p)=some (n,rest s q) by
    rw[j.o,if_pos ⟨rfl,hn⟩,M];unfold rest;rw[List.drop_drop])
   have aJ:=Ab (show q<=s.size by rw[M];exact m.o);clear O j M
   go_wp2_with fail
   refine(Gg tg s p q e0 0 w2 y.o).mono ?_;intro r w3 F;obtain⟨b,rfl,A,l,x⟩:=Ho F y.o hp.o (λ_=>aJ.o)
   cases b with
   |true=>
    have X:e0=0:=(A.1 rfl).1;rw[if_pos ⟨X,rfl⟩]at l;go_wp2;go_ret
    exact⟨J.o.trans x,.inl ⟨p,n,q,Aah he.o X,D.o,rfl,l⟩⟩
   |false=>
    have X:¬ e0=0:=λX=>by have:=A.2 ⟨X,rfl⟩;cases this
    rw[if_neg (λh=>X h.1)]at l;go_wp2;go_ret
    exact⟨J.o.trans x,.inr ⟨λp' E=>Adl he.o X E,rfl,l⟩⟩
  have aE:(n:Int)>top:=by omega
  have D:=Ab (show Gi top (rest s p)=none by rw[j.o,if_neg (λh=>hn h.2)]);clear M O j
  go_wp2_with fail
  refine(Gg tg s p q e0 5 w2 y.o).mono ?_;intro r w3 F;obtain⟨b,rfl,A,l,x⟩:=Ho F y.o hp.o (λh=>absurd h (by decide));rw[if_neg (λh=>absurd h.2 (by decide))]at l
  have Y:b=false:=by cases b with|true=>exact absurd (A.1 rfl).2 (by decide)|false=>rfl
  subst Y;go_wp2;go_ret
  exact⟨J.o.trans x,.inr ⟨λp' E=>Pz (f:=λp=>Gi top (rest s p)) he.o E D.o,rfl,l⟩⟩
 have N:¬ (c:Int)=0:=by omega
 have aK:((c:Int)==0)=false:=by rw[beq_eq_false_iff_ne];exact N
 have D:=Ab (show Gi top (rest s p)=none by rw[j.o,if_neg (λh=>hc h.1)]);have B:=Ab N;clear O j hc aF aI aH
 go_wp2_with fail
 refine(Gg tg s p q e0 c w2 y.o).mono ?_;intro r w3 F;obtain⟨b,rfl,A,l,x⟩:=Ho F y.o hp.o (λh=>absurd h B.o);rw[if_neg (λh=>B.o h.2)]at l
 have Y:b=false:=by cases b with|true=>exact absurd (A.1 rfl).2 B.o|false=>rfl
 subst Y;go_wp2;go_ret
 exact⟨J.o.trans x,.inr ⟨λp' E=>Pz (f:=λp=>Gi top (rest s p)) he.o E D.o,rfl,l⟩⟩
def Amk (tg:Nat) (s:ByteArray) (st:Option Nat) (cs:Txt) (w:World) (e:Ending) (w':World):Prop:=
 Fr (λq=>q=tg) w w'/\((∃p b,st=some p/\p<s.size/\Dv cs (rest s p)=some (b,rest s (p+1))/\e= .returned (.int .u8 (bt b))/\TxS w' tg s (some (p+1)))∨((∀p,st=some p->Dv cs (rest s p)=none)/\e= .returned (.int .u8 0)/\TxS w' tg s none))
theorem Sj (tg:Nat) (s:ByteArray) (st:Option Nat) (cs:Txt) (w:World) (hs:s.size<=2000000) (hg:TxS w tg s st):
  Calls Tryz.prog 416 #[.pointer (some ⟨tg,0,none⟩),.string ⟨cs.toArray⟩] w (Amk tg s st cs w):=by
 obtain⟨p,e0,hp,M,F⟩:=hg.get;clear hg;have N:=M.cell 0;have O:=M.cell 1;have aL:=M.lt
 have aK:(s.size:Int)<=2000000:=by omega
 have aJ:(p:Int)<=s.size:=by omega
 replace M:=Ab M;replace F:=Ab F;have X:=Ab hp
 by_cases U:p<s.size
 ·obtain⟨b,hb,A⟩:=Ol U;have aF:=λW=>Da (P:=Tryz.prog) Tryz.underlying9 s p b hb W;have hI:=Ab (Tryz.strings_IndexByte ⟨cs.toArray⟩ (bt b));rw[Pm]at hI;have D:=Ab (show Dv cs (rest s p)=if b∈cs then some (b,rest s (p+1)) else none by rw[A];rfl)
  have aH:(p:Int)<s.size:=by omega
  have aD:((p:Int)==(s.size:Int))=false:=by rw[beq_eq_false_iff_ne];omega
  have aB:¬ (p:Int)=s.size:=by omega
  clear hb A;obtain⟨h1,h2⟩:=Ov cs b;obtain⟨r,A⟩:∃ r,Lib.indexByte cs b=r:=⟨_,rfl⟩;have aA:=Ab (show ∀w,Calls Tryz.prog 63 #[.string ⟨cs.toArray⟩,.int .u8 (bt b)] w λe w'=>e= .returned (.int .i64 r)/\w=w' from λw=>((A▸hI.o) w).mono (λe w' h=>⟨h.1,h.2.symm⟩));rw[A]at h1 h2;clear A hI;have aI:=AeG b;generalize hB:bt b=B at*;replace hB:=Ab hB
  by_cases Z:b∈cs
  ·have Y:¬ r<0:=λh=>h1.1 h Z;have aE:decide (r<0)=false:=decide_eq_false Y;have y:=Ab (show Dv cs (rest s p)=some (b,rest s (p+1)) by rw[D.o,if_pos Z]);clear D h1 Z;replace h2:=Ab h2
   go_enter Tryz.func416,Tryz.ntmps416
   go_wp2
   go_quiet (fail)
   go_wp2_with fail
   refine wp_region_held_drew (S:=λW'=>W'.cell? ⟨tg,0,none⟩=some (.string s)/\W'.cell? ⟨tg,1,none⟩=some (.int .i64 p)) (by kernel_rfl) (⟨N,O⟩) (λj=>?_);refine tk 0 (h:=tk 1 (h:=tk 2 (h:=tk 3 (h:=tk 4 (h:=tk 5 (h:=tk 6 (h:=tk 7 (h:=tk 8 (h:=tk 9 (h:=?_))))))))));refine rd1 10 λK hK=>?_;go_simp
   go_wp2_with fail
   refine(aA.o _).mono ?_;rintro e w2 ⟨rfl,rfl⟩
   try go_wp2_with fail
   refine hK.o _ _ (⟨N,O⟩) (λj=>?_);refine tk 11 (h:=tk 12 (h:=?_));refine wpAnyH_done (by kernel_rfl) ?_ _;clear j;go_wp2
   go_quiet (fail)
   go_wp2_with fail
   refine(Gg tg s p (p+1) e0 0 _ (M.o.dr ⟨_,rfl⟩)).mono ?_;intro r w3 z;obtain⟨b1,rfl,m,l,x⟩:=Ho (nx:=p+1) (by rw[Int.natCast_add];exact z) (M.o.dr ⟨_,rfl⟩) X.o (λ_=>U);have E:=Ab ((Fr.of_below (S:=λq=>q=tg) (Dr.below (a:=w) ⟨_,rfl⟩ _)).trans x);replace F:=F.o;clear z x
   cases b1 with
   |true=>
    have I:e0=0:=(m.1 rfl).1;rw[if_pos ⟨I,rfl⟩]at l;replace I:=Ab I;replace F:=Ab F;go_wp2;go_ret
    exact⟨E.o,.inl ⟨p,b,Aah F.o I.o,U,y.o,by rw[hB.o];rfl,l⟩⟩
   |false=>
    have I:¬ e0=0:=λI=>by have:=m.2 ⟨I,rfl⟩;cases this
    rw[if_neg (λh=>I h.1)]at l;replace I:=Ab I;replace F:=Ab F;go_wp2;go_ret
    exact⟨E.o,.inr ⟨λp' J=>Adl F.o I.o J,rfl,l⟩⟩
  have Y:r<0:=h1.2 Z;have aE:decide (r<0)=true:=decide_eq_true Y;have y:=Ab (show Dv cs (rest s p)=none by rw[D.o,if_neg Z]);clear D h1 Z;replace h2:=Ab h2
  go_enter Tryz.func416,Tryz.ntmps416
  go_wp2
  go_quiet (fail)
  go_wp2_with fail
  refine wp_region_held_drew (S:=λW'=>W'.cell? ⟨tg,0,none⟩=some (.string s)/\W'.cell? ⟨tg,1,none⟩=some (.int .i64 p)) (by kernel_rfl) (⟨N,O⟩) (λj=>?_);refine tk 0 (h:=tk 1 (h:=tk 2 (h:=tk 3 (h:=tk 4 (h:=tk 5 (h:=tk 6 (h:=tk 7 (h:=tk 8 (h:=tk 9 (h:=?_))))))))));refine rd1 10 λK hK=>?_;go_simp
  go_wp2_with fail
  refine(aA.o _).mono ?_;rintro e w2 ⟨rfl,rfl⟩
  try go_wp2_with fail
  refine hK.o _ _ (⟨N,O⟩) (λj=>?_);refine tk 11 (h:=tk 12 (h:=?_));refine wpAnyH_done (by kernel_rfl) ?_ _;clear j
  go_wp2_with fail
  refine(Gg tg s p (p+1) e0 2 _ (M.o.dr ⟨_,rfl⟩)).mono ?_;intro r w3 z;obtain⟨b1,rfl,m,l,x⟩:=Ho (nx:=p+1) (by rw[Int.natCast_add];exact z) (M.o.dr ⟨_,rfl⟩) X.o (λh=>absurd h (by decide));have E:=Ab ((Fr.of_below (S:=λq=>q=tg) (Dr.below (a:=w) ⟨_,rfl⟩ _)).trans x);rw[if_neg (λh=>absurd h.2 (by decide))]at l
  have R:b1=false:=by cases b1 with|true=>exact absurd (m.1 rfl).2 (by decide)|false=>rfl
  subst R;clear z x m;go_wp2;go_ret
  exact⟨E.o,.inr ⟨λp' J=>Pz (f:=λp=>Dv cs (rest s p)) F.o J y.o,rfl,l⟩⟩
 have aC:p=s.size:=by omega
 have y:=Ab (show Dv cs (rest s p)=none by rw[Up (by omega)];rfl)
 have aD:((p:Int)==(s.size:Int))=true:=by rw[beq_iff_eq];omega
 have aB:(p:Int)=s.size:=by omega
 clear aC
 go_enter Tryz.func416,Tryz.ntmps416
 go_wp2
 go_quiet (fail)
 go_wp2_with fail
 refine(Gg tg s p (s.size+1) e0 3 _ (M.o.dr ⟨_,rfl⟩)).mono ?_;intro r w3 z;obtain⟨b1,rfl,m,l,x⟩:=Ho (nx:=s.size+1) (by rw[Int.natCast_add];exact z) (M.o.dr ⟨_,rfl⟩) X.o (λh=>absurd h (by decide));have E:=Ab ((Fr.of_below (S:=λq=>q=tg) (Dr.below (a:=w) ⟨_,rfl⟩ _)).trans x);rw[if_neg (λh=>absurd h.2 (by decide))]at l
 have R:b1=false:=by cases b1 with|true=>exact absurd (m.1 rfl).2 (by decide)|false=>rfl
 subst R;clear z x m;go_wp2;go_ret
 exact⟨E.o,.inr ⟨λp' J=>Pz (f:=λp=>Dv cs (rest s p)) F.o J y.o,rfl,l⟩⟩
end Go.Proofs.YtmidbhnhcbpneaaGreatDoor.Top
end
section
namespace Go.Proofs.YtmidbhnhcbpneaaGreatDoor.Top
open Go YtmidbhnhcbpneaaGreatDoor.Dec
section
variable {many:Nat->Nat->Txt->Option (List N3×Txt)} {one:Nat->Txt->Option (N3×Txt)}
structure Og (many:Nat->Nat->Txt->Option (List N3×Txt)) (lit:Nat) (t0:Txt) (k:Nat) (l:List N3) (t:Txt):Prop where
 len:l.length=k
 more:∀ m,many (k+m) lit t0=(many m (lit+2*k) t).map λr=>(l++r.1,r.2)
theorem Og.zero (lit:Nat) (t:Txt):Og many lit t 0 [] t:=⟨rfl,λm=>by rw[Nat.zero_add];show many m lit t=(many m lit t).map _;cases many m lit t<;>rfl⟩
theorem Og.step (hs:∀ m lit t,many (m+1) lit t=(one lit t).bind λp=>(many m (lit+2) p.2).bind λq=>some (p.1::q.1,q.2)) {lit:Nat} {t0 t t':Txt} {k:Nat} {l:List N3} {x:N3} (h:Og many lit t0 k l t) (h1:one (lit+2*k) t=some (x,t')):Og many lit t0 (k+1) (l++ [x]) t':=by
 refine⟨by rw[List.length_append,h.len];rfl,λm=>?_⟩;rw[show k+1+m=k+(m+1) by omega,h.more (m+1),hs,h1];simp only[Option.bind_some];rw[show lit+2*k+2=lit+2*(k+1) by omega]
 cases many m (lit+2*(k+1)) t'<;>simp
theorem Og.fail (hs:∀ m lit t,many (m+1) lit t=(one lit t).bind λp=>(many m (lit+2) p.2).bind λq=>some (p.1::q.1,q.2)) {lit:Nat} {t0 t:Txt} {k:Nat} {l:List N3} (h:Og many lit t0 k l t) (h1:one (lit+2*k) t=none) {m:Nat} (hm:k<m):many m lit t0=none:=by
 obtain⟨d,rfl⟩:∃ d,m=k+(d+1):=⟨m-k-1,by omega⟩;rw[h.more,hs,h1];rfl
theorem Og.done (h0:∀ lit t,many 0 lit t=some ([],t)) {lit:Nat} {t0 t:Txt} {k:Nat} {l:List N3} (h:Og many lit t0 k l t):many k lit t0=some (l,t):=by
 have:=h.more 0
 rw[Nat.add_zero,h0]at this;rw[this]
 simp
end
theorem Ki (top:Nat):∀ m lit t,Cz top (m+1) lit t=(Fv top lit t).bind λp=>(Cz top m (lit+2) p.2).bind λq=>some (p.1::q.1,q.2):=λ_ _ _=>rfl
theorem Yi:∀ m lit t,Ib (m+1) lit t=(Ly lit t).bind λp=>(Ib m (lit+2) p.2).bind λq=>some (p.1::q.1,q.2):=λ_ _ _=>rfl
theorem AgW {top lit:Nat} {t:Txt} (h:Gi top t=none):Fv top lit t=none:=by unfold Fv Bv;rw[h];rfl
theorem Ahg {top lit n:Nat} {t t1:Txt} (h:Gi top t=some (n,t1)) (h2:Dv [32,10] t1=none):Fv top lit t=none:=by
 unfold Fv Bv;rw[h];simp only[Option.bind_some];rw[h2];rfl
theorem Ahf {top lit n:Nat} {t t1 t2:Txt} (h:Gi top t=some (n,t1)) (h2:Dv [32,10] t1=some (32,t2)) (h3:Bv top [10] t2=none):Fv top lit t=none:=by
 unfold Fv;rw[show Bv top [32,10] t=some (n,32,t2) by unfold Bv;rw[h];simp only[Option.bind_some];rw[h2];rfl];simp only[Option.bind_some,if_true];rw[h3];rfl
theorem Age {top lit n:Nat} {t t1 t2:Txt} (h:Gi top t=some (n,t1)) (h2:Dv [32,10] t1=some (10,t2)):Fv top lit t=some (⟨lit,n,0⟩,t2):=by
 unfold Fv;rw[show Bv top [32,10] t=some (n,10,t2) by unfold Bv;rw[h];simp only[Option.bind_some];rw[h2];rfl];simp only[Option.bind_some];rw[if_neg (by decide)]
theorem AdA {top lit n r:Nat} {b:UInt8} {t t1 t2 t3:Txt} (h:Gi top t=some (n,t1)) (h2:Dv [32,10] t1=some (32,t2)) (h3:Bv top [10] t2=some (r,b,t3)):Fv top lit t=some (⟨lit,n,r⟩,t3):=by
 unfold Fv;rw[show Bv top [32,10] t=some (n,32,t2) by unfold Bv;rw[h];simp only[Option.bind_some];rw[h2];rfl];simp only[Option.bind_some,if_true];rw[h3];rfl
theorem Ajm {lit:Nat} {t:Txt} (h:Do 1 lit t=none):Ly lit t=none:=by unfold Ly;rw[h];rfl
theorem AiR {lit n:Nat} {t t1:Txt} (h:Do 1 lit t=some (n,t1)) (h2:Do 0 (lit-n) t1=none):Ly lit t=none:=by
 unfold Ly;rw[h];simp only[Option.bind_some];rw[h2];rfl
theorem AjL {lit n m:Nat} {t t1 t2:Txt} (h:Do 1 lit t=some (n,t1)) (h2:Do 0 (lit-n) t1=some (m,t2)):Ly lit t=some (⟨lit,lit-n,lit-n-m⟩,t2):=by
 unfold Ly;rw[h];simp only[Option.bind_some];rw[h2];rfl
theorem AlF {least top n:Nat} {t t1:Txt} (h:Do least top t=some (n,t1)):least<=n/\n<=top:=by
 unfold Do at h;obtain⟨p,j,h⟩:=Option.bind_eq_some_iff.1 h
 split at h
 ·rename_i hc;injection h with h;rw[h]at hc;exact hc
 cases h
section
variable {h:Hd} {t t2 t3 t4 t5 t6:Txt} {o b c:List Nat} {x g:List N3}
theorem Ana (h2:Cz (2*h.m+1) h.l (2+2*h.i) t=some (x,t2)) (h3:Bi (2*h.m+1) h.o t2=some (o,t3)) (h4:Bi (2*h.m+1) h.b t3=some (b,t4)) (h5:Bi (2*h.m+1) h.c t4=some (c,t5)) (h6:Ib h.a (2+2*h.i+2*h.l) t5=some (g,t6)):Hc h t=some (⟨h.m,evens h.i 2,x,o,b,c,g⟩,t6):=by
 unfold Hc;rw[h2];simp only[Option.bind_some];rw[h3];simp only[Option.bind_some];rw[h4];simp only[Option.bind_some];rw[h5];simp only[Option.bind_some];rw[h6];rfl
theorem AhA (h2:Cz (2*h.m+1) h.l (2+2*h.i) t=none):Hc h t=none:=by unfold Hc;rw[h2];rfl
theorem AmX (h2:Cz (2*h.m+1) h.l (2+2*h.i) t=some (x,t2)) (h3:Bi (2*h.m+1) h.o t2=none):Hc h t=none:=by unfold Hc;rw[h2];simp only[Option.bind_some];rw[h3];rfl
theorem AnR (h2:Cz (2*h.m+1) h.l (2+2*h.i) t=some (x,t2)) (h3:Bi (2*h.m+1) h.o t2=some (o,t3)) (h4:Bi (2*h.m+1) h.b t3=none):Hc h t=none:=by unfold Hc;rw[h2];simp only[Option.bind_some];rw[h3];simp only[Option.bind_some];rw[h4];rfl
theorem AnT (h2:Cz (2*h.m+1) h.l (2+2*h.i) t=some (x,t2)) (h3:Bi (2*h.m+1) h.o t2=some (o,t3)) (h4:Bi (2*h.m+1) h.b t3=some (b,t4)) (h5:Bi (2*h.m+1) h.c t4=none):Hc h t=none:=by unfold Hc;rw[h2];simp only[Option.bind_some];rw[h3];simp only[Option.bind_some];rw[h4];simp only[Option.bind_some];rw[h5];rfl
theorem AnK (h2:Cz (2*h.m+1) h.l (2+2*h.i) t=some (x,t2)) (h3:Bi (2*h.m+1) h.o t2=some (o,t3)) (h4:Bi (2*h.m+1) h.b t3=some (b,t4)) (h5:Bi (2*h.m+1) h.c t4=some (c,t5)) (h6:Ib h.a (2+2*h.i+2*h.l) t5=none):Hc h t=none:=by
 unfold Hc;rw[h2];simp only[Option.bind_some];rw[h3];simp only[Option.bind_some];rw[h4];simp only[Option.bind_some];rw[h5];simp only[Option.bind_some];rw[h6];rfl
end
end Go.Proofs.YtmidbhnhcbpneaaGreatDoor.Top
end
section
namespace Go.Proofs.YtmidbhnhcbpneaaGreatDoor.Top
open Go Go.RowKit Go.Lt YtmidbhnhcbpneaaGreatDoor.Lit YtmidbhnhcbpneaaGreatDoor.Dec
def Amp (tg:Nat) (s:ByteArray) (st:Option Nat) (least top:Nat) (w:World) (e:Ending) (w':World):Prop:=
 Fr (λq=>q=tg) w w'/\((∃p n q,st=some p/\Do least top (rest s p)=some (n,rest s q)/\e= .returned (.int .i64 (n:Nat))/\TxS w' tg s (some q))∨((∀p,st=some p->Do least top (rest s p)=none)/\e= .returned (.int .i64 0)/\TxS w' tg s none))
theorem AkN {least top n:Nat} {l t:Txt} (h:Ke 5 0 l=some (n,t)):Do least top l=if least<=n/\n<=top then some (n,t) else none:=by unfold Do;rw[h];rfl
theorem Abv (tg:Nat) (s:ByteArray) (st:Option Nat) (least top:Nat) (w:World) (hs:s.size<=2000000) (hg:TxS w tg s st) (ht:least<=1000000000) (ht2:top<=1000000000):
  Calls Tryz.prog 414 #[.pointer (some ⟨tg,0,none⟩),.int .i64 least,.int .i64 top] w (Amp tg s st least top w):=by
 obtain⟨p,e0,A,hx,X⟩:=hg.get;clear hg;have E:=hx.cell 0;have F:=hx.cell 1;have aJ:=hx.lt;have y:=Ab (hx.dr (Dr.refl w).drew);have O:=Ab (Fr.of_below (S:=λq=>q=tg) ((Dr.refl w).drew.below w.heap.size));replace X:=Ab X;have HN:=Ab (λW=>Ajz s p W A hs);replace A:=Ab A;clear hx;obtain⟨g7,R⟩:∃ g,Ke 5 0 (Dq s p)=g:=⟨_,rfl⟩
 cases g7 with
 |none=>
  have J:=Ab (λW=>(HN.o W).mono (R':=λe w'=>w'=W/\∃c:Int,c≠0/\c<=5/\e= .returned (.tuple #[.int .u32 0,.int .i64 0,.int .i64 c])) (λe w' h=>⟨h.1,h.2.elim (λ⟨n,q,h1,_⟩=>by rw[R]at h1;cases h1) (λh=>h.2)⟩));have U:=Ab (show Do least top (rest s p)=none by unfold Do;rw[show Ke 5 0 (rest s p)=none from R];rfl);clear HN R
  go_enter Tryz.func414,Tryz.ntmps414
  go_upto_region 1 with fail
  refine wp_region_held_drew (S:=λW'=>W'.cell? ⟨tg,0,none⟩=some (.string s)/\W'.cell? ⟨tg,1,none⟩=some (.int .i64 p)) (by kernel_rfl) (⟨E,F⟩) (λm=>?_);refine tk 0 (h:=tk 1 (h:=tk 2 (h:=tk 3 (h:=tk 4 (h:=tk 5 (h:=tk 6 (h:=tk 7 (h:=?_))))))));refine rd1 8 λK hK=>?_;go_simp
  go_wp2_with fail
  refine(J.o _).mono ?_;rintro e w2 ⟨rfl,c,z,aE,rfl⟩
  try go_wp2_with fail
  refine hK.o _ _ (⟨E,F⟩) (λm=>?_);refine tk 9 (h:=tk 10 (h:=tk 11 (h:=tk 12 (h:=tk 13 (h:=tk 14 (h:=tk 15 (h:=?_)))))));refine wpAnyH_done (by kernel_rfl) ?_ _;clear m E F J
  have aF:(c==0)=false:=by rw[beq_eq_false_iff_ne];exact z
  replace z:=Ab z;have aD:¬ c=0:=z.o
  go_wp2_with fail
  refine(Gg tg s p (0:Nat) e0 c _ y.o).mono ?_;intro r w3 l;obtain⟨b,rfl,D,j,x⟩:=Ho l y.o A.o (λh=>absurd h z.o);rw[if_neg (λh=>z.o h.2)]at j
  have N:b=false:=by cases b with|true=>exact absurd (D.1 rfl).2 z.o|false=>rfl
  subst N;clear D l;go_wp2;go_ret
  exact⟨O.o.trans x,.inr ⟨λp' B=>Pz (f:=λp=>Do least top (rest s p)) X.o B U.o,rfl,j⟩⟩
 |some r=>
  have J:=Ab (λW=>(HN.o W).mono (R':=λe w'=>w'=W/\∃n q,Ke 5 0 (Dq s p)=some (n,Dq s q)/\q<=s.size/\n<4294967296/\e= .returned (.tuple #[.int .u32 (n:Nat),.int .i64 q,.int .i64 0])) (λe w' h=>⟨h.1,h.2.elim id (λ⟨h1,_⟩=>by rw[R]at h1;cases h1)⟩));clear HN R
  go_enter Tryz.func414,Tryz.ntmps414
  go_upto_region 1 with fail
  refine wp_region_held_drew (S:=λW'=>W'.cell? ⟨tg,0,none⟩=some (.string s)/\W'.cell? ⟨tg,1,none⟩=some (.int .i64 p)) (by kernel_rfl) (⟨E,F⟩) (λm=>?_);refine tk 0 (h:=tk 1 (h:=tk 2 (h:=tk 3 (h:=tk 4 (h:=tk 5 (h:=tk 6 (h:=tk 7 (h:=?_))))))));refine rd1 8 λK hK=>?_;go_simp
  go_wp2_with fail
  refine(J.o _).mono ?_;rintro e w2 ⟨rfl,n,q,h7,aA,Z,rfl⟩
  try go_wp2_with fail
  refine hK.o _ _ (⟨E,F⟩) (λm=>?_);refine tk 9 (h:=tk 10 (h:=tk 11 (h:=tk 12 (h:=tk 13 (h:=tk 14 (h:=tk 15 (h:=?_)))))));refine wpAnyH_done (by kernel_rfl) ?_ _;clear m E F J;have I:=Ab (AkN (least:=least) (top:=top) (show Ke 5 0 (rest s p)=some (n,rest s q) from h7))
  have aH:(n:Int)<4294967296:=by omega
  have aI:(n:Int)%4294967296=n:=by omega
  replace aA:=Ab aA
  by_cases Y:n<least
  ·have i1:(n:Int)<least:=by omega
   have d1:decide ((n:Int)<least)=true:=decide_eq_true i1;have U:=Ab (show Do least top (rest s p)=none by rw[I.o,if_neg (by omega)]);clear I Y h7 Z
   go_wp2_with fail
   refine(Gg tg s p q e0 5 _ y.o).mono ?_;intro r w3 l;obtain⟨b,rfl,D,j,x⟩:=Ho l y.o A.o (λh=>absurd h (by decide));rw[if_neg (λh=>absurd h.2 (by decide))]at j
   have N:b=false:=by cases b with|true=>exact absurd (D.1 rfl).2 (by decide)|false=>rfl
   subst N;clear D l;go_wp2;go_ret
   exact⟨O.o.trans x,.inr ⟨λp' B=>Pz (f:=λp=>Do least top (rest s p)) X.o B U.o,rfl,j⟩⟩
  have i1:¬ (n:Int)<least:=by omega
  have d1:decide ((n:Int)<least)=false:=decide_eq_false i1
  by_cases aB:n>top
  ·have i2:(n:Int)>top:=by omega
   have U:=Ab (show Do least top (rest s p)=none by rw[I.o,if_neg (by omega)]);clear I Y aB h7 Z
   go_wp2_with fail
   refine(Gg tg s p q e0 5 _ y.o).mono ?_;intro r w3 l;obtain⟨b,rfl,D,j,x⟩:=Ho l y.o A.o (λh=>absurd h (by decide));rw[if_neg (λh=>absurd h.2 (by decide))]at j
   have N:b=false:=by cases b with|true=>exact absurd (D.1 rfl).2 (by decide)|false=>rfl
   subst N;clear D l;go_wp2;go_ret
   exact⟨O.o.trans x,.inr ⟨λp' B=>Pz (f:=λp=>Do least top (rest s p)) X.o B U.o,rfl,j⟩⟩
  have i2:¬ (n:Int)>top:=by omega
  have aC:=Ab (show Do least top (rest s p)=some (n,rest s q) by rw[I.o,if_pos (by omega)]);clear I Y aB h7 Z
  go_wp2_with fail
  refine(Gg tg s p q e0 0 _ y.o).mono ?_;intro r w3 l;obtain⟨b,rfl,D,j,x⟩:=Ho l y.o A.o (λ_=>aA.o)
  cases b with
  |true=>
   have M:e0=0:=(D.1 rfl).1;rw[if_pos ⟨M,rfl⟩]at j;clear D l;replace M:=Ab M;go_wp2;go_ret
   exact⟨O.o.trans x,.inl ⟨p,n,q,Aah X.o M.o,aC.o,rfl,j⟩⟩
  |false=>
   have M:¬ e0=0:=λM=>by have:=D.2 ⟨M,rfl⟩;cases this
   rw[if_neg (λh=>M h.1)]at j;clear D l;replace M:=Ab M;go_wp2;go_ret
   exact⟨O.o.trans x,.inr ⟨λp' B=>Adl X.o M.o B,rfl,j⟩⟩
theorem Afx (tg:Nat) (W:World):(method 563 156 (.pointer (some ⟨tg,0,none⟩)) "latchet/binary.digits").run Tryz.prog W= .ok (415,.pointer (some ⟨tg,0,none⟩)) W:=by kernel_rfl
theorem AkM (tg:Nat) (W:World):(method 563 156 (.pointer (some ⟨tg,0,none⟩)) "latchet/binary.sign").run Tryz.prog W= .ok (416,.pointer (some ⟨tg,0,none⟩)) W:=by kernel_rfl
theorem AnW (tg:Nat) (W:World):(method 563 156 (.pointer (some ⟨tg,0,none⟩)) "latchet/binary.delta").run Tryz.prog W= .ok (414,.pointer (some ⟨tg,0,none⟩)) W:=by kernel_rfl
theorem AnL (tg:Nat) (W:World):(method 563 156 (.pointer (some ⟨tg,0,none⟩)) "latchet/binary.ended").run Tryz.prog W= .ok (87,.pointer (some ⟨tg,0,none⟩)) W:=by kernel_rfl
def Alc (tg:Nat) (s:ByteArray) (st:Option Nat) (top many:Nat) (w:World) (e:Ending) (w':World):Prop:=
 Fr (λq=>q=tg) w w'/\∃l v,e= .returned v/\w'.ownsRow w.heap.size 3 1 v l.length (nvs l)/\((∃p q,st=some p/\Bi top many (rest s p)=some (l,rest s q)/\TxS w' tg s (some q))∨((∀p,st=some p->Bi top many (rest s p)=none)/\TxS w' tg s none))
def All (tg:Nat) (s:ByteArray) (st:Option Nat) (top:Nat) (w:World) (v:Value) (k:Nat) (W:World):Prop:=
 Fr (λq=>q=tg) w W/\∃l,W.ownsRow w.heap.size 3 1 v k (nvs l)/\l.length=k/\((∃p q,st=some p/\Jc s p top k l q/\TxS W tg s (some q))∨(st=none/\k=0/\TxS W tg s none))
theorem TxS.tx {w:World} {tg:Nat} {s:ByteArray} {st:Option Nat} (h:TxS w tg s st):∃ p e,Tx w tg s p e:=by
 obtain⟨p,e,_,j,_⟩:=h.get;exact⟨p,e,j⟩
theorem TxS.fr {w w':World} {tg:Nat} {s:ByteArray} {st:Option Nat} {S:Nat->Prop} (h:TxS w tg s st) (hf:Fr S w w') (hS:¬ S tg):TxS w' tg s st:=by
 cases st with
 |some p=>exact⟨h.1,hf.blk h.2 hS⟩
 |none=>obtain⟨p,e,j,h2,l⟩:=h;exact⟨p,e,j,h2,hf.blk l hS⟩
theorem TxS.below {w w':World} {tg B:Nat} {s:ByteArray} {st:Option Nat} (h:TxS w tg s st) (hb:Below B w w') (ht:tg<B):TxS w' tg s st:=by
 cases st with
 |some p=>exact⟨h.1,h.2.below hb ht⟩
 |none=>obtain⟨p,e,j,h2,l⟩:=h;exact⟨p,e,j,h2,l.below hb ht⟩
theorem All.start {tg:Nat} {s:ByteArray} {st:Option Nat} {top:Nat} {w:World} (h:TxS w tg s st):All tg s st top w (.slice none 0 0) 0 w:=by
 refine⟨Fr.refl _ _,[],Bd,rfl,?_⟩
 cases st with
 |some p=>exact .inl ⟨p,p,rfl,Jc.zero h.1,h⟩
 |none=>exact .inr ⟨rfl,rfl,h⟩
theorem AaP (tg:Nat) (s:ByteArray) (st:Option Nat) (top many:Nat) (w:World) (hs:s.size<=2000000) (hg:TxS w tg s st) (ht:top<=1000000000) (hm:many<=16777216):
  Calls Tryz.prog 114 #[.iface 156 (.pointer (some ⟨tg,0,none⟩)),.int .i64 top,.int .i64 many] w (Alc tg s st top many w):=by
 have aP:(many:Int)<=16777216:=by omega
 have aF:=Ab (All.start (top:=top) hg)
 have aE:tg<w.heap.size:=by obtain⟨_,_,h⟩:=hg.tx;exact h.lt
 clear hg
 go_enter Tryz.func114,Tryz.ntmps114
 go_wp2
 go_loopw [7,10] (λv t wr=>∃ k:Nat,k<=many/\t= .int .i64 k/\Hid (All tg s st top w v k wr)) (λv t _=>many-(intOf t).toNat)
 case atStart=>exact⟨0,Nat.zero_le _,rfl,aF⟩
 case round=>
  obtain⟨k,hk,rfl,hM⟩:=hrel;clear aF
  by_cases aC:k<many
  ·have aO:(k:Int)<many:=by omega
   obtain⟨Y,l,j,aB,X⟩:=hM.o;clear hM
   obtain⟨R,z,hx⟩:∃ R,((∃p q,st=some p/\Jc s p top k l q/\R=some q)∨(st=none/\k=0/\R=none))/\TxS wr tg s R:=by
    rcases X with⟨p,q,D,h2,A⟩|⟨D,h2,A⟩
    ·exact⟨some q,.inl ⟨p,q,D,h2,rfl⟩,A⟩
    exact⟨none,.inr ⟨D,h2,rfl⟩,A⟩
   clear X;replace z:=Ab z;replace Y:=Ab Y;have HD:=Ab (Re tg s R top wr hs hx ht);replace j:=Ab j;clear hx;have md:=Afx tg;have ms:=AkM tg
   go_wp2_with fail
   refine HD.o.mono ?_;rintro e w1 ⟨I,(⟨p,n,q,r,D,rfl,O⟩|⟨D,rfl,O⟩)⟩
   ·have HS:=Ab (Sj tg s (some q) [10] w1 hs O);have E:=Ab (Y.o.trans I);have x:=Ab (I.own j.o (λg hg e=>Dw j.o aE (by rw[hg,e])));replace D:=Ab D;clear I O HD
    go_wp2_with fail
    refine HS.o.mono ?_;rintro e w2 ⟨y,(⟨p2,b,N,aN,h2,rfl,B⟩|⟨h2,rfl,B⟩)⟩
    ·have aH:b=10:=by simpa using Jb h2
     subst aH;injection N with N;subst N;have hl:=Ab (Zx D.o h2);have J:=y.own x.o (λg hg e=>Dw x.o aE (by rw[hg,e]));have F:=Ab (E.o.trans y);have aL:=Ab F.o.size
     obtain⟨U,cU,hU⟩:∃ U cU,u7= .slice U k cU:=by obtain⟨U,cU,h,_⟩:=Rd.of_own J;exact⟨U,cU,h⟩
     subst hU;have aJ:=Ab (show k+1<=maxLen by unfold maxLen;omega);have aK:=Ab (show(k+1)*8<=140737488355328 by omega);replace B:=Ab B;clear y h2 HS j x E Y
     go_wp2_with (at_builtin;refine Yk rfl _ _ _ rfl Tryz.underlying26 Dh rfl (by decide) rfl (by first|rfl|simp[go_sem]) J (Below.refl _ w2) aL.o rfl (by simp[Value.oneCell']) aJ.o aK.o ?_;intro v6 w6 M aA)
     have aI:=Ab (show All tg s st top w v6 (k+1) w6 from⟨F.o.thenB aA,l++ [n],by unfold nvs;rw[List.map_append];exact M,by rw[List.length_append,aB];rfl,by
      rcases z.o with⟨p0,q0,S,e2,Z⟩|⟨_,_,Z⟩
      ·rw[Z]at r;injection r with r;subst r;exact .inl ⟨p0,q+1,S,e2.step hl.o B.o.1,B.o.below aA aE⟩
      rw[Z]at r;cases r⟩)
     clear M aA;go_roundw
     case rel=>exact⟨k+1,aC,by go_num,aI⟩
     case measure=>simp[intOf];omega
    have aD:=Ab (show ∀p,st=some p->Bi top many (rest s p)=none from λp0 m=>by
     rcases z.o with⟨p1,q1,S,e2,Z⟩|⟨S,_,_⟩
     ·rw[Z]at r;injection r with r;subst r;rw[S]at m;injection m with m;subst m;exact e2.fail (Oq D.o (h2 _ rfl)) many aC
     rw[S]at m;cases m)
    have F:=Ab (E.o.trans y);clear h2 y E HS j x;go_wp2;go_ret
    exact⟨F.o,[],_,rfl,Bd,.inr ⟨aD.o,B⟩⟩
   have HS:=Ab (Sj tg s none [10] w1 hs O)
   have aD:=Ab (show ∀p,st=some p->Bi top many (rest s p)=none from λp0 m=>by
    rcases z.o with⟨p1,q1,S,e2,Z⟩|⟨S,_,_⟩
    ·rw[S]at m;injection m with m;subst m;exact e2.fail (Oo (D q1 Z)) many aC
    rw[S]at m;cases m)
   have E:=Ab (Y.o.trans I);clear D I O HD j Y
   go_wp2_with fail
   refine HS.o.mono ?_;rintro e w2 ⟨y,(⟨p2,b,N,_⟩|⟨h2,rfl,B⟩)⟩
   ·cases N
   have F:=Ab (E.o.trans y);clear h2 y E HS;go_wp2;go_ret
   exact⟨F.o,[],_,rfl,Bd,.inr ⟨aD.o,B⟩⟩
  have aM:k=many:=by omega
  subst aM;go_wp2;go_ret;obtain⟨Y,l,j,aB,X⟩:=hM.o;refine⟨Y,l,_,rfl,by rw[aB];exact j,?_⟩
  rcases X with⟨p,q,D,h2,A⟩|⟨D,h2,A⟩
  ·exact .inl ⟨p,q,D,h2.done,A⟩
  exact .inr ⟨λp hp=>(by rw[D]at hp;cases hp),A⟩
end Go.Proofs.YtmidbhnhcbpneaaGreatDoor.Top
end
