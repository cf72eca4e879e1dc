/- A part of the proof. -/
import Derived.Test.YtmidbhnhcbpneaaGreatDoorM32
set_option linter.unusedVariables false
set_option linter.unusedSimpArgs false
set_option maxRecDepth 8000
set_option maxHeartbeats 8000000
section
namespace Go.Proofs.YtmidbhnhcbpneaaGreatDoor.Top
open Go Go.RowKit Go.Lt Go.Mir YtmidbhnhcbpneaaGreatDoor.Dec
theorem AiL:Aep (λa b l=>decide (a=4)&&decide (l=2)) (Tq Tryz.prog (Wq Tryz.prog) 42 orac 40 (.fn 22) #[.string Apd,opts 1] nowhere)=true:=by kernel_rfl
end Go.Proofs.YtmidbhnhcbpneaaGreatDoor.Top
end
