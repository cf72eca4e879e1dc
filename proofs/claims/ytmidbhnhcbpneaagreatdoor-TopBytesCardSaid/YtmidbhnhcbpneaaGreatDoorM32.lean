/- A part of the proof. -/
import Derived.Test.YtmidbhnhcbpneaaGreatDoorM31
set_option linter.unusedVariables false
set_option linter.unusedSimpArgs false
set_option maxRecDepth 8000
set_option maxHeartbeats 8000000
section
namespace Go.Proofs.YtmidbhnhcbpneaaGreatDoor.Top
open Go Go.RowKit Go.Lt Go.Mir YtmidbhnhcbpneaaGreatDoor.Dec
def Aep (p:Int->Int->Nat->Bool):Res (Value×AS)->Bool
 | .ok (.tuple rs,_)=>match rs.toList with
  | [.agg cs,.agg ds]=>match cs.toList,ds.toList with
   | [.int .i64 a,.int .i64 b,.int .i64 _,.int .i64 _,.int .i64 _,.slice _ _ _,.slice _ _ _],[.int .i64 _,.int .i64 _,.slice _ l _,.slice _ _ _]=>p a b l
   |_,_=>false
  |_=>false
 |_=>false
def opts (k:Nat):Value:= .agg #[.int .i64 (k:Nat),.int .i64 3,.int .i64 0,.int .u64 0,.int .i64 268435456,.int .i64 0,.int .i64 0,.float .f64 0,.float .f64 0]
def Apv:ByteArray:=⟨#[97,97,103,32,49,32,48,32,49,32,48,32,48,32,49,10,50,32,51,10,50,10]⟩
def Apd:ByteArray:=⟨#[97,97,103,32,49,32,48,32,49,32,48,32,48,32,49,10,50,32,50,10,50,10]⟩
theorem Aka:Aep (λa b l=>decide (a=2)&&decide (b=1)) (Tq Tryz.prog (Wq Tryz.prog) 42 orac 40 (.fn 22) #[.string Apv,opts 0] nowhere)=true:=by kernel_rfl
end Go.Proofs.YtmidbhnhcbpneaaGreatDoor.Top
end
