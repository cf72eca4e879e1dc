/- A part of the proof. -/
import Derived.Test.YtmidbhnhcbpneaaGreatDoorM2
set_option linter.unusedVariables false
set_option linter.unusedSimpArgs false
set_option maxRecDepth 8000
set_option maxHeartbeats 8000000
section
namespace Go.Lt
open Go.RowKit
section
variable {P:Program} {ops:Array Oper} {Q:Exit->Act->World->Prop}
end
end Go.Lt
end
