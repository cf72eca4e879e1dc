/- A part of the proof. -/
import Derived.Test.YtmidbhnhcbpneaaGreatDoorM36
import Derived.Test.YtmidbhnhcbpneaaGreatDoorM37
import GoSem.ClaimSeven
set_option linter.unusedVariables false
set_option linter.unusedSimpArgs false
set_option maxRecDepth 8000
set_option maxHeartbeats 8000000
section
namespace Go.Proofs.YtmidbhnhcbpneaaGreatDoor.topBytes
open Go
theorem band {a b:Bool} (ha:a=true) (hb:b=true):(a&&b)=true:=by rw[ha,hb];rfl
set_option maxRecDepth 100000 in
theorem closed:joinedFacts Tryz.prog 3 Tryz.f3 SP Rows.topBytesRow=true:=by
 unfold joinedFacts;exact band (band (band (band (band (band (band (band (band (band (band (band (band (band (band (band (band (band (band (band (band (band (band (band (band (band (band (band (band (band (band (jf0) jf1) jf2) jf3) jf4) jf5) jf6) jf7) jf8) jf9) ApP) ApV) ApR) Aqh) ApX) Aqp) Aqe) Aqj) Aqm) ApO) Aqd) ApW) Aqi) ApQ) ApZ) ApS) Aqg) Aqq) ApU) Aqc) Aqa) Aqn
theorem AoE:Rows.topBytesRow.wfByText (OpenSpec.ofChange Rows.topBytesSpec)=true:=by kernel_rfl
theorem AoM:Tryz.prog.mainIs=some (true,"26899a63cba3a21d7c9bdbb363dde9af534180b94d9957242df2a4a185aa07ee".toList):=by kernel_rfl
theorem Aov:false=Rows.topBytesRow.goesBy Tryz.prog:=by kernel_rfl
end Go.Proofs.YtmidbhnhcbpneaaGreatDoor.topBytes
end
