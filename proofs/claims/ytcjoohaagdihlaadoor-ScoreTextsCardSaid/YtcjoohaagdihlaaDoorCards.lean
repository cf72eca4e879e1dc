/-
  DERIVED. GIVEN WITH THE SEED: THE CARDS: each row of YtcjoohaagdihlaaDoorRows.lean that lists a variable, with what it lists TIED to the program's text (the seventh form; the later family's looks); each row that meets fmt, with fmt's text TOLD by the authors' own Lean function (tested against real Go, not proved from fmt's source: count such statements apart). THE CARD IS WHAT COUNTS. Prove the row's statement (the work); the ties are given (YtcjoohaagdihlaaDoorTie.lean); close each card by the builder's one call (the guide's Derived/Test/ToyasCard.lean, 'card_holds'). Laid BY PROGRAM, IN A SANDBOX (cutbox-door.mjs). By AI agents, Wed Nov 11 2026. No macro, syntax, notation, axiom, sorry.
-/
import Derived.Test.YtcjoohaagdihlaaDoorRows
import GoSem.ClaimSeven
namespace Go.Proofs.YtcjoohaagdihlaaDoor
namespace Rows

/-- THE TIED CARD OF 'latchetlaw32.CubeStarts'. -/
def cubeStartsCard : Claim7 := { stood := { row := cubeStartsRow, standIns := [], harness := (true, "e09937a10b897c3b3abb9fe3cd3ef3fe5caede71b52976dfd95ea0a7c8139f41"), looks := true }, kinds := [], alts := [], laidByText := true, laidKinds := [.data], laidTests := true, laidLooks := .later }
def CubeStartsCardSaid : Prop := Claim7.holds Tryd.pinned (.plain (OpenSpec.ofChange cubeStartsSpec)) cubeStartsCard

/-- THE TIED CARD OF 'latchetlaw32.CubeTexts'. -/
def cubeTextsCard : Claim7 := { stood := { row := cubeTextsRow, standIns := [], harness := (true, "e09937a10b897c3b3abb9fe3cd3ef3fe5caede71b52976dfd95ea0a7c8139f41"), looks := true }, kinds := [], alts := [], laidByText := true, laidKinds := [.data], laidTests := true, laidLooks := .later }
def CubeTextsCardSaid : Prop := Claim7.holds Tryd.pinned (.plain (OpenSpec.ofChange cubeTextsSpec)) cubeTextsCard

/-- THE TIED CARD OF 'latchetlaw44.FaultLists'. -/
def faultListsCard : Claim7 := { stood := { row := faultListsRow, standIns := [], harness := (true, "e09937a10b897c3b3abb9fe3cd3ef3fe5caede71b52976dfd95ea0a7c8139f41"), looks := true }, kinds := [], alts := [], laidByText := true, laidKinds := [.data, .data, .data], laidTests := true, laidLooks := .later }
def FaultListsCardSaid : Prop := Claim7.holds Tryd.pinned (.plain (OpenSpec.ofChange faultListsSpec)) faultListsCard

/-- THE TIED CARD OF 'latchetlaw44.FaultSame'. -/
def faultSameCard : Claim7 := { stood := { row := faultSameRow, standIns := [], harness := (true, "e09937a10b897c3b3abb9fe3cd3ef3fe5caede71b52976dfd95ea0a7c8139f41"), looks := true }, kinds := [], alts := [], laidByText := true, laidKinds := [.data, .data, .data], laidTests := true, laidLooks := .later }
def FaultSameCardSaid : Prop := Claim7.holds Tryd.pinned (.plain (OpenSpec.ofChange faultSameSpec)) faultSameCard

/-- THE TIED CARD OF 'latchetlaw44.FaultInjects'. -/
def faultInjectsCard : Claim7 := { stood := { row := faultInjectsRow, standIns := [], harness := (true, "e09937a10b897c3b3abb9fe3cd3ef3fe5caede71b52976dfd95ea0a7c8139f41"), looks := true }, kinds := [], alts := [], laidByText := true, laidKinds := [.data, .data, .data], laidTests := true, laidLooks := .later }
def FaultInjectsCardSaid : Prop := Claim7.holds Tryd.pinned (.plain (OpenSpec.ofChange faultInjectsSpec)) faultInjectsCard

/-- THE TIED CARD OF 'latchetlaw05.ScoreTexts'. -/
def scoreTextsCard : Claim7 := { stood := { row := scoreTextsRow, standIns := [], harness := (true, "e09937a10b897c3b3abb9fe3cd3ef3fe5caede71b52976dfd95ea0a7c8139f41"), looks := true }, kinds := [], alts := [], laidByText := true, laidKinds := [.data, .data, .data], laidTests := true, laidLooks := .later }
def ScoreTextsCardSaid : Prop := Claim7.holds Tryd.pinned (.plain (OpenSpec.ofChange scoreTextsSpec)) scoreTextsCard

/-- THE TIED CARD OF 'latchetlaw32.CubeTells'. -/
def cubeTellsCard : Claim7 := { stood := { row := cubeTellsRow, standIns := [], harness := (true, "e09937a10b897c3b3abb9fe3cd3ef3fe5caede71b52976dfd95ea0a7c8139f41"), looks := true }, kinds := [], alts := [], laidByText := true, laidKinds := [.data], laidTests := true, laidLooks := .later }
def CubeTellsCardSaid : Prop := Claim7.holds Tryd.pinned (.plain (OpenSpec.ofChange cubeTellsSpec)) cubeTellsCard

/-- THE TIED CARD OF 'latchetlaw02.LitTells'. -/
def litTellsCard : Claim7 := { stood := { row := litTellsRow, standIns := [], harness := (true, "e09937a10b897c3b3abb9fe3cd3ef3fe5caede71b52976dfd95ea0a7c8139f41"), looks := true }, kinds := [], alts := [], laidByText := true, laidKinds := [.data, .data, .data, .sentinel, .sentinel], laidTests := true, laidLooks := .later }
def LitTellsCardSaid : Prop := Claim7.holds Tryd.pinned (.plain (OpenSpec.ofChange litTellsSpec)) litTellsCard

/-- THE TIED CARD OF 'latchetlaw02.LitTexts'. -/
def litTextsCard : Claim7 := { stood := { row := litTextsRow, standIns := [], harness := (true, "e09937a10b897c3b3abb9fe3cd3ef3fe5caede71b52976dfd95ea0a7c8139f41"), looks := true }, kinds := [], alts := [], laidByText := true, laidKinds := [.data, .data, .data, .sentinel, .sentinel], laidTests := true, laidLooks := .later }
def LitTextsCardSaid : Prop := Claim7.holds Tryd.pinned (.plain (OpenSpec.ofChange litTextsSpec)) litTextsCard

/-- THE TIED CARD OF 'latchetlaw44.FaultTexts'. -/
def faultTextsCard : Claim7 := { stood := { row := faultTextsRow, standIns := [], harness := (true, "e09937a10b897c3b3abb9fe3cd3ef3fe5caede71b52976dfd95ea0a7c8139f41"), looks := true }, kinds := [], alts := [], laidByText := true, laidKinds := [.data, .data, .data, .sentinel, .sentinel], laidTests := true, laidLooks := .later }
def FaultTextsCardSaid : Prop := Claim7.holds Tryd.pinned (.plain (OpenSpec.ofChange faultTextsSpec)) faultTextsCard

/-- THE TIED CARD OF 'latchetlaw02.LitLists'. -/
def litListsCard : Claim7 := { stood := { row := litListsRow, standIns := [], harness := (true, "e09937a10b897c3b3abb9fe3cd3ef3fe5caede71b52976dfd95ea0a7c8139f41"), looks := true }, kinds := [], alts := [], laidByText := true, laidKinds := [.data, .data, .data, .sentinel, .sentinel], laidTests := true, laidLooks := .later }
def LitListsCardSaid : Prop := Claim7.holds Tryd.pinned (.plain (OpenSpec.ofChange litListsSpec)) litListsCard

/-- THE SECOND FORM's CARD OF 'latchetlaw32.CubeStarts'. -/
def cubeStartsUptoCard : Claim7 := { stood := { row := cubeStartsUptoRow, standIns := [], harness := (true, "e09937a10b897c3b3abb9fe3cd3ef3fe5caede71b52976dfd95ea0a7c8139f41"), looks := true }, kinds := [], alts := [], laidByText := true, laidKinds := [.data], laidTests := true, laidLooks := .later }
def CubeStartsUptoCardSaid : Prop := Claim7.holds Tryd.pinned (.plain (OpenSpec.upto cubeStartsSpec)) cubeStartsUptoCard

/-- THE SECOND FORM's CARD OF 'latchetlaw32.CubeTexts'. -/
def cubeTextsUptoCard : Claim7 := { stood := { row := cubeTextsUptoRow, standIns := [], harness := (true, "e09937a10b897c3b3abb9fe3cd3ef3fe5caede71b52976dfd95ea0a7c8139f41"), looks := true }, kinds := [], alts := [], laidByText := true, laidKinds := [.data], laidTests := true, laidLooks := .later }
def CubeTextsUptoCardSaid : Prop := Claim7.holds Tryd.pinned (.plain (OpenSpec.upto cubeTextsSpec)) cubeTextsUptoCard

/-- THE SECOND FORM's CARD OF 'latchetlaw44.FaultLists'. -/
def faultListsUptoCard : Claim7 := { stood := { row := faultListsUptoRow, standIns := [], harness := (true, "e09937a10b897c3b3abb9fe3cd3ef3fe5caede71b52976dfd95ea0a7c8139f41"), looks := true }, kinds := [], alts := [], laidByText := true, laidKinds := [.data, .data, .data], laidTests := true, laidLooks := .later }
def FaultListsUptoCardSaid : Prop := Claim7.holds Tryd.pinned (.plain (OpenSpec.upto faultListsSpec)) faultListsUptoCard

/-- THE SECOND FORM's CARD OF 'latchetlaw44.FaultSame'. -/
def faultSameUptoCard : Claim7 := { stood := { row := faultSameUptoRow, standIns := [], harness := (true, "e09937a10b897c3b3abb9fe3cd3ef3fe5caede71b52976dfd95ea0a7c8139f41"), looks := true }, kinds := [], alts := [], laidByText := true, laidKinds := [.data, .data, .data], laidTests := true, laidLooks := .later }
def FaultSameUptoCardSaid : Prop := Claim7.holds Tryd.pinned (.plain (OpenSpec.upto faultSameSpec)) faultSameUptoCard

/-- THE SECOND FORM's CARD OF 'latchetlaw44.FaultInjects'. -/
def faultInjectsUptoCard : Claim7 := { stood := { row := faultInjectsUptoRow, standIns := [], harness := (true, "e09937a10b897c3b3abb9fe3cd3ef3fe5caede71b52976dfd95ea0a7c8139f41"), looks := true }, kinds := [], alts := [], laidByText := true, laidKinds := [.data, .data, .data], laidTests := true, laidLooks := .later }
def FaultInjectsUptoCardSaid : Prop := Claim7.holds Tryd.pinned (.plain (OpenSpec.upto faultInjectsSpec)) faultInjectsUptoCard

/-- THE SECOND FORM's CARD OF 'latchetlaw05.ScoreTexts'. -/
def scoreTextsUptoCard : Claim7 := { stood := { row := scoreTextsUptoRow, standIns := [], harness := (true, "e09937a10b897c3b3abb9fe3cd3ef3fe5caede71b52976dfd95ea0a7c8139f41"), looks := true }, kinds := [], alts := [], laidByText := true, laidKinds := [.data, .data, .data], laidTests := true, laidLooks := .later }
def ScoreTextsUptoCardSaid : Prop := Claim7.holds Tryd.pinned (.plain (OpenSpec.upto scoreTextsSpec)) scoreTextsUptoCard

/-- THE SECOND FORM's CARD OF 'latchetlaw32.CubeTells'. -/
def cubeTellsUptoCard : Claim7 := { stood := { row := cubeTellsUptoRow, standIns := [], harness := (true, "e09937a10b897c3b3abb9fe3cd3ef3fe5caede71b52976dfd95ea0a7c8139f41"), looks := true }, kinds := [], alts := [], laidByText := true, laidKinds := [.data], laidTests := true, laidLooks := .later }
def CubeTellsUptoCardSaid : Prop := Claim7.holds Tryd.pinned (.plain (OpenSpec.upto cubeTellsSpec)) cubeTellsUptoCard

/-- THE SECOND FORM's CARD OF 'latchetlaw02.LitTells'. -/
def litTellsUptoCard : Claim7 := { stood := { row := litTellsUptoRow, standIns := [], harness := (true, "e09937a10b897c3b3abb9fe3cd3ef3fe5caede71b52976dfd95ea0a7c8139f41"), looks := true }, kinds := [], alts := [], laidByText := true, laidKinds := [.data, .data, .data, .sentinel, .sentinel], laidTests := true, laidLooks := .later }
def LitTellsUptoCardSaid : Prop := Claim7.holds Tryd.pinned (.plain (OpenSpec.upto litTellsSpec)) litTellsUptoCard

/-- THE SECOND FORM's CARD OF 'latchetlaw02.LitTexts'. -/
def litTextsUptoCard : Claim7 := { stood := { row := litTextsUptoRow, standIns := [], harness := (true, "e09937a10b897c3b3abb9fe3cd3ef3fe5caede71b52976dfd95ea0a7c8139f41"), looks := true }, kinds := [], alts := [], laidByText := true, laidKinds := [.data, .data, .data, .sentinel, .sentinel], laidTests := true, laidLooks := .later }
def LitTextsUptoCardSaid : Prop := Claim7.holds Tryd.pinned (.plain (OpenSpec.upto litTextsSpec)) litTextsUptoCard

/-- THE SECOND FORM's CARD OF 'latchetlaw44.FaultTexts'. -/
def faultTextsUptoCard : Claim7 := { stood := { row := faultTextsUptoRow, standIns := [], harness := (true, "e09937a10b897c3b3abb9fe3cd3ef3fe5caede71b52976dfd95ea0a7c8139f41"), looks := true }, kinds := [], alts := [], laidByText := true, laidKinds := [.data, .data, .data, .sentinel, .sentinel], laidTests := true, laidLooks := .later }
def FaultTextsUptoCardSaid : Prop := Claim7.holds Tryd.pinned (.plain (OpenSpec.upto faultTextsSpec)) faultTextsUptoCard

/-- THE SECOND FORM's CARD OF 'latchetlaw02.LitLists'. -/
def litListsUptoCard : Claim7 := { stood := { row := litListsUptoRow, standIns := [], harness := (true, "e09937a10b897c3b3abb9fe3cd3ef3fe5caede71b52976dfd95ea0a7c8139f41"), looks := true }, kinds := [], alts := [], laidByText := true, laidKinds := [.data, .data, .data, .sentinel, .sentinel], laidTests := true, laidLooks := .later }
def LitListsUptoCardSaid : Prop := Claim7.holds Tryd.pinned (.plain (OpenSpec.upto litListsSpec)) litListsUptoCard
end Rows
end Go.Proofs.YtcjoohaagdihlaaDoor
