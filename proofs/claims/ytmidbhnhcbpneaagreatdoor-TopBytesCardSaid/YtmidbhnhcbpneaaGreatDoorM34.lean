/- A part of the proof. -/
import Derived.Test.YtmidbhnhcbpneaaGreatDoorM33
import Derived.Test.YtmidbhnhcbpneaaGreatDoorM9
set_option linter.unusedVariables false
set_option linter.unusedSimpArgs false
set_option maxRecDepth 8000
set_option maxHeartbeats 8000000
section
namespace Go.Proofs.YtmidbhnhcbpneaaGreatDoor.Top
open Go Go.RowKit Go.Lt Go.Mir YtmidbhnhcbpneaaGreatDoor.Dec
theorem AkS {p:Int->Int->Nat->Bool} {r:Res (Value×AS)} (h:Aep p r=true):∃ (a b c d f g h:Int) (l l1 l2 l3:Nat) (A A1 A2 A3:Option Addr) (k k1 k2 k3:Nat) (s:AS),
  r= .ok (.tuple #[.agg #[.int .i64 a,.int .i64 b,.int .i64 c,.int .i64 d,.int .i64 f,.slice A1 l1 k1,.slice A2 l2 k2],.agg #[.int .i64 g,.int .i64 h,.slice A l k,.slice A3 l3 k3]],s)/\p a b l=true:=by
 unfold Aep at h
 split at h
 case h_2=>cases h
 rename_i rs s
 split at h
 case h_2=>cases h
 rename_i cs ds hrs
 split at h
 case h_2=>cases h
 rename_i hcs hds
 exact⟨_,_,_,_,_,_,_,_,_,_,_,_,_,_,_,_,_,_,_,s,by rw[show rs= #[.agg cs,.agg ds] from Array.ext' hrs,Array.ext' hcs,Array.ext' hds],h⟩
theorem Ue {β:Go.Mir.Ren} {n:Nat} {q:IntKind} {a:Int} {v:Value} (h:VR β n (.int q a) v):v= .int q a:=by cases h;rfl
theorem Vu {β:Go.Mir.Ren} {n l c:Nat} {A:Option Addr} {v:Value} (h:VR β n (.slice A l c) v):∃ A' c',v= .slice A' l c':=by
 cases h with
 |nilSlice=>exact⟨_,_,rfl⟩
 |slice b0 o l c o' c' hb hc hs hoo=>exact⟨_,_,rfl⟩
theorem Apk {xs:Array Value} (h:xs.size=7):∃ x0 x1 x2 x3 x4 x5 x6,xs= #[x0,x1,x2,x3,x4,x5,x6]:=by
 obtain⟨l⟩:=xs
 match l,h with
 | [x0,x1,x2,x3,x4,x5,x6],_=>exact⟨x0,x1,x2,x3,x4,x5,x6,rfl⟩
theorem ApA {xs:Array Value} (h:xs.size=4):∃ x0 x1 x2 x3,xs= #[x0,x1,x2,x3]:=by
 obtain⟨l⟩:=xs
 match l,h with
 | [x0,x1,x2,x3],_=>exact⟨x0,x1,x2,x3,rfl⟩
theorem Api {xs:Array Value} (h:xs.size=2):∃ x0 x1,xs= #[x0,x1]:=by
 obtain⟨l⟩:=xs
 match l,h with
 | [x0,x1],_=>exact⟨x0,x1,rfl⟩
theorem AeU {p:Int->Int->Nat->Bool} {t:ByteArray} {k:Nat} (hev:Aep p (Tq Tryz.prog (Wq Tryz.prog) 42 orac 40 (.fn 22) #[.string t,opts k] nowhere)=true) (w:World):
  Calls Tryz.prog 22 #[.string t,opts k] w λe M=>Below w.heap.size w M/\∃(a b c d f g h:Int) (l F I J:Nat) (A z B D:Option Addr) (k y m E:Nat),e= .returned (.tuple #[.agg #[.int .i64 a,.int .i64 b,.int .i64 c,.int .i64 d,.int .i64 f,.slice z F y,.slice B I m],.agg #[.int .i64 g,.int .i64 h,.slice A l k,.slice D J E]])/\p a b l=true:=by
 obtain⟨a,b,c,d,f,g,h',l,F,I,J,A,z,B,D,k0,y,m,E,s,h,S⟩:=AkS hev
 let β:Go.Mir.Ren:=⟨id,id,id,id⟩
 refine((Vf env 40).fn _ _ nowhere _ s (by kernel_rfl) h β w _ (AfU _ β w) (.same λx r=>?_)).mono ?_
 ·rcases List.mem_cons.1 (Array.mem_toList_iff.2 r) with rfl|r
  ·exact .string _
  rcases List.mem_cons.1 r with rfl|r
  ·exact Dt 8 _ rfl
  cases r
 rintro e M ⟨β',v',rfl,q,U⟩
 refine⟨⟨q.fr.st.1,q.fr.st.2.1,q.fr.st.2.2,q.fr.size,λj R=>q.fr.keep j R λi o hi _=>by
  rw[nowhere.heap,AS.at_none _ (by show ¬i<0;omega)]at hi
  cases hi⟩,?_⟩
 cases U with
 |tuple _ cs' h1 h2=>
  obtain⟨u,v,rfl⟩:=Api h1;have N:=h2 0 _ _ rfl rfl;have O:=h2 1 _ _ rfl rfl
  cases N with
  |agg _ es y m=>
   cases O with
   |agg _ fs m1 m2=>
    obtain⟨u0,u1,u2,u3,u4,u5,u6,rfl⟩:=Apk y;obtain⟨v0,v1,v2,v3,rfl⟩:=ApA m1;obtain rfl:=Ue (m 0 _ _ rfl rfl);obtain rfl:=Ue (m 1 _ _ rfl rfl);obtain rfl:=Ue (m 2 _ _ rfl rfl);obtain rfl:=Ue (m 3 _ _ rfl rfl);obtain rfl:=Ue (m 4 _ _ rfl rfl);obtain⟨Y,c1,rfl⟩:=Vu (m 5 _ _ rfl rfl);obtain⟨Z,c2,rfl⟩:=Vu (m 6 _ _ rfl rfl);obtain rfl:=Ue (m2 0 _ _ rfl rfl);obtain rfl:=Ue (m2 1 _ _ rfl rfl);obtain⟨X,c0,rfl⟩:=Vu (m2 2 _ _ rfl rfl);obtain⟨B3,c3,rfl⟩:=Vu (m2 3 _ _ rfl rfl)
    exact⟨_,_,_,_,_,_,_,_,_,_,_,_,_,_,_,_,_,_,_,rfl,S⟩
end Go.Proofs.YtmidbhnhcbpneaaGreatDoor.Top
end
section
namespace Go.Proofs.YtmidbhnhcbpneaaGreatDoor.Top
open Go Go.RowKit Go.Lt YtmidbhnhcbpneaaGreatDoor.Lit YtmidbhnhcbpneaaGreatDoor.Dec
theorem Agi (w:World):Calls Tryz.prog 6 #[] w λe X=>e= .returned (.bool true)/\Below w.heap.size w X:=by
 have J:=Ab (λW=>AeU Aka W);have h2:=Ab (λW=>AeU AiL W)
 go_enter Tryz.func6,Tryz.ntmps6
 go_wp2_with fail
 refine(J.o _).mono ?_;rintro e r ⟨q,a,b,c,d,f,g,h',l,l1,l2,l3,A,Y,Z,A3,k0,k1,k2,k3,rfl,y⟩;simp only[Bool.and_eq_true,decide_eq_true_eq]at y;obtain⟨rfl,rfl⟩:=y
 go_wp2_with fail
 refine(h2.o _).mono ?_;rintro e x ⟨p,a2,b2,c2,d2,f2,g2,M,l',R,S,U,B,B1,B2,B3,m0,m1,m2,m3,rfl,z⟩;simp only[Bool.and_eq_true,decide_eq_true_eq]at z;obtain⟨rfl,rfl⟩:=z;have m:∀ (w:World) (o:Obj),(w.alloc o).heap=w.heap.push o:=λ_ _=>rfl;have E:=p.block r.heap.size (by simp only[m,Array.size_push];omega);have F:=p.size;simp only[m,Array.size_push,Array.getElem?_push,Nat.ne_of_lt (Nat.lt_succ_self r.heap.size),if_true,if_false]at E F
 have O:r.heap.size<x.heap.size:=by omega
 have c0:∀ h D:Obj,((x.alloc h).alloc D).cell? ⟨r.heap.size,0,none⟩=some (.int .i64 2):=λh D=>by
  simp[World.cell?,m,Array.getElem?_push,E,show ¬r.heap.size=x.heap.size by omega,show ¬r.heap.size=x.heap.size+1 by omega]
 have c1:∀ h D:Obj,((x.alloc h).alloc D).cell? ⟨r.heap.size,1,none⟩=some (.int .i64 1):=λh D=>by
  simp[World.cell?,m,Array.getElem?_push,E,show ¬r.heap.size=x.heap.size by omega,show ¬r.heap.size=x.heap.size+1 by omega]
 go_wp2_with fail
 go_ret;have q1:=q.size;refine⟨rfl,⟨p.os.trans q.os,p.tape.trans q.tape,p.output.trans q.output,by simp only[m,Array.size_push];omega,λj N=>?_⟩⟩;have I:=p.block j (by simp only[m,Array.size_push];omega);simp only[m,Array.getElem?_push,Array.size_push,if_neg (show ¬j=x.heap.size by omega),if_neg (show ¬j=x.heap.size+1 by omega),if_neg (show ¬j=r.heap.size by omega),if_neg (show ¬j=r.heap.size+1 by omega)]at I ⊢;rw[I];exact q.block j N
end Go.Proofs.YtmidbhnhcbpneaaGreatDoor.Top
end
