/-
  NARROWER THAN 'FOR EVERY INPUT', by the rows' own cells (each row's printed sentence says how): CubeStarts: laid · CubeTexts: laid · FaultLists: laid · FaultSame: laid · FaultInjects: laid · ScoreTexts: laid · CubeTells: laid · LitTells: laid · LitTexts: laid · FaultTexts: laid · LitLists: laid.
  DERIVED. THE GIVEN ROWS OF THIS SEAT. 11 by the template 'for every input the law returns true; each argument reads behind the call as it read before'; 0 by the template 'total and deterministic' (their statements: YtcjoohaagdihlaaDoorTotals.lean).
  GIVEN WITH THE SEED: the statements are not yours to turn. If you find one false, say at which input.
  Laid BY PROGRAM, IN A SANDBOX (cutbox-rows.mjs): the forced cells as the released guide's own fill.sh prints them over the translation 55f7b6015957be1c… (all of the seat's roots in one cut). By AI agents, Wed Nov 11 2026. No macro, syntax, notation, axiom, sorry.
-/
import Derived.Test.YtcjoohaagdihlaaDoorChecked
import GoSem.Claim
import GoSem.ClaimJoined
import GoSem.ClaimMapViews
import Derived.JoinedTies
import Derived.KernelRfl
namespace Go.Proofs.YtcjoohaagdihlaaDoor
/- THE CELL 'sum', in the pinned program and in every row, IS THE sha256 OF THE DUMP (.gsa) THAT YtcjoohaagdihlaaDoorProg.lean LOADS. Nothing in Lean hashes anything: it is a label: what it is worth is what the hold of that sum in a sandbox is worth. -/
noncomputable def Tryd.pinned : Pinned := { name := "ytcjoohaagdihlaadoor", sum := "55f7b6015957be1cd559c012312609bbee3e3d5496bcd2518c12804524b0d0fb", checked := Tryd.checked }
namespace Rows
def none {H : Type} : Left H := { results := [], args := [] }

/- WHAT THE LISTED PACKAGE-LEVEL VARIABLES READ AS WHEN THE CALL BEGINS. Each datum BY PROGRAM (the guide's laid-datum.mjs) off the statement by which the dump's own 'gosem.cut.vars' lays the variable. In a bare row this is a premise. The card (YtcjoohaagdihlaaDoorCards.lean) ties it to the program's text. -/
def laid_latchet_tri_signs {H : Type} : DataW H := .agg [.lit (.int .u8 48), .lit (.int .u8 49), .lit (.int .u8 120)]
def laid_math_bits_deBruijn32tab {H : Type} : DataW H := .agg [.lit (.int .u8 0), .lit (.int .u8 1), .lit (.int .u8 28), .lit (.int .u8 2), .lit (.int .u8 29), .lit (.int .u8 14), .lit (.int .u8 24), .lit (.int .u8 3), .lit (.int .u8 30), .lit (.int .u8 22), .lit (.int .u8 20), .lit (.int .u8 15), .lit (.int .u8 25), .lit (.int .u8 17), .lit (.int .u8 4), .lit (.int .u8 8), .lit (.int .u8 31), .lit (.int .u8 27), .lit (.int .u8 13), .lit (.int .u8 23), .lit (.int .u8 21), .lit (.int .u8 19), .lit (.int .u8 16), .lit (.int .u8 7), .lit (.int .u8 26), .lit (.int .u8 12), .lit (.int .u8 18), .lit (.int .u8 6), .lit (.int .u8 11), .lit (.int .u8 5), .lit (.int .u8 10), .lit (.int .u8 9)]
def laid_math_bits_deBruijn64tab {H : Type} : DataW H := .agg [.lit (.int .u8 0), .lit (.int .u8 1), .lit (.int .u8 56), .lit (.int .u8 2), .lit (.int .u8 57), .lit (.int .u8 49), .lit (.int .u8 28), .lit (.int .u8 3), .lit (.int .u8 61), .lit (.int .u8 58), .lit (.int .u8 42), .lit (.int .u8 50), .lit (.int .u8 38), .lit (.int .u8 29), .lit (.int .u8 17), .lit (.int .u8 4), .lit (.int .u8 62), .lit (.int .u8 47), .lit (.int .u8 59), .lit (.int .u8 36), .lit (.int .u8 45), .lit (.int .u8 43), .lit (.int .u8 51), .lit (.int .u8 22), .lit (.int .u8 53), .lit (.int .u8 39), .lit (.int .u8 33), .lit (.int .u8 30), .lit (.int .u8 24), .lit (.int .u8 18), .lit (.int .u8 12), .lit (.int .u8 5), .lit (.int .u8 63), .lit (.int .u8 55), .lit (.int .u8 48), .lit (.int .u8 27), .lit (.int .u8 60), .lit (.int .u8 41), .lit (.int .u8 37), .lit (.int .u8 16), .lit (.int .u8 46), .lit (.int .u8 35), .lit (.int .u8 44), .lit (.int .u8 21), .lit (.int .u8 52), .lit (.int .u8 32), .lit (.int .u8 23), .lit (.int .u8 11), .lit (.int .u8 54), .lit (.int .u8 26), .lit (.int .u8 40), .lit (.int .u8 15), .lit (.int .u8 34), .lit (.int .u8 20), .lit (.int .u8 31), .lit (.int .u8 10), .lit (.int .u8 25), .lit (.int .u8 14), .lit (.int .u8 19), .lit (.int .u8 9), .lit (.int .u8 13), .lit (.int .u8 8), .lit (.int .u8 7), .lit (.int .u8 6)]
def laid_internal_strconv_uint64pow10 {H : Type} : DataW H := .agg [.lit (.int .u64 1), .lit (.int .u64 10), .lit (.int .u64 100), .lit (.int .u64 1000), .lit (.int .u64 10000), .lit (.int .u64 100000), .lit (.int .u64 1000000), .lit (.int .u64 10000000), .lit (.int .u64 100000000), .lit (.int .u64 1000000000), .lit (.int .u64 10000000000), .lit (.int .u64 100000000000), .lit (.int .u64 1000000000000), .lit (.int .u64 10000000000000), .lit (.int .u64 100000000000000), .lit (.int .u64 1000000000000000), .lit (.int .u64 10000000000000000), .lit (.int .u64 100000000000000000), .lit (.int .u64 1000000000000000000), .lit (.int .u64 10000000000000000000)]
def laid_strconv_ErrRange {H : Type} : DataW H := .iface "*errors.errorString" (.ptr (.agg [.lit (.string [118, 97, 108, 117, 101, 32, 111, 117, 116, 32, 111, 102, 32, 114, 97, 110, 103, 101])]))
def laid_strconv_ErrSyntax {H : Type} : DataW H := .iface "*errors.errorString" (.ptr (.agg [.lit (.string [105, 110, 118, 97, 108, 105, 100, 32, 115, 121, 110, 116, 97, 120])]))

/-- 'latchetlaw32.CubeStarts': WHATEVER THE INPUT: true; the input reads as it did. -/
def cubeStartsSpec : ChangeSpec := { name := "cubeStarts", fn := fun _ => fun
  | [d1, d2] => { results := [.lit (.bool true)], args := [d1, d2] }
  | _ => none }
def cubeStartsRow : OpenClaim := { program := "ytcjoohaagdihlaadoor", sum := "55f7b6015957be1cd559c012312609bbee3e3d5496bcd2518c12804524b0d0fb", func := "latchet/latchetlaw32.CubeStarts", spec := "cubeStarts", named := ["latchet/tri.signs"], plainKeys := false, apart := false, laid := [("latchet/tri.signs", laid_latchet_tri_signs)] }
def CubeStartsSaid : Prop := cubeStartsRow.holds Tryd.pinned (OpenSpec.ofChange cubeStartsSpec)

/-- ITS FALSE NEIGHBOUR: 'it returns false'. Refute it at one input. -/
def cubeStartsWrong : ChangeSpec := { name := "cubeStarts", fn := fun _ => fun
  | [d1, d2] => { results := [.lit (.bool false)], args := [d1, d2] }
  | _ => none }
def CubeStartsWrongFalsely : Prop := cubeStartsRow.holds Tryd.pinned (OpenSpec.ofChange cubeStartsWrong)

/-- 'latchetlaw32.CubeTexts': WHATEVER THE INPUT: true; the input reads as it did. -/
def cubeTextsSpec : ChangeSpec := { name := "cubeTexts", fn := fun _ => fun
  | [d1, d2, d3] => { results := [.lit (.bool true)], args := [d1, d2, d3] }
  | _ => none }
def cubeTextsRow : OpenClaim := { program := "ytcjoohaagdihlaadoor", sum := "55f7b6015957be1cd559c012312609bbee3e3d5496bcd2518c12804524b0d0fb", func := "latchet/latchetlaw32.CubeTexts", spec := "cubeTexts", named := ["latchet/tri.signs"], plainKeys := false, apart := false, laid := [("latchet/tri.signs", laid_latchet_tri_signs)] }
def CubeTextsSaid : Prop := cubeTextsRow.holds Tryd.pinned (OpenSpec.ofChange cubeTextsSpec)

/-- ITS FALSE NEIGHBOUR: 'it returns false'. Refute it at one input. -/
def cubeTextsWrong : ChangeSpec := { name := "cubeTexts", fn := fun _ => fun
  | [d1, d2, d3] => { results := [.lit (.bool false)], args := [d1, d2, d3] }
  | _ => none }
def CubeTextsWrongFalsely : Prop := cubeTextsRow.holds Tryd.pinned (OpenSpec.ofChange cubeTextsWrong)

/-- 'latchetlaw44.FaultLists': WHATEVER THE INPUT: true; the input reads as it did. -/
def faultListsSpec : ChangeSpec := { name := "faultLists", fn := fun _ => fun
  | [d1, d2, d3] => { results := [.lit (.bool true)], args := [d1, d2, d3] }
  | _ => none }
def faultListsRow : OpenClaim := { program := "ytcjoohaagdihlaadoor", sum := "55f7b6015957be1cd559c012312609bbee3e3d5496bcd2518c12804524b0d0fb", func := "latchet/latchetlaw44.FaultLists", spec := "faultLists", unfollowed := true, recurses := true, named := ["internal/strconv.uint64pow10", "math/bits.deBruijn32tab", "math/bits.deBruijn64tab"], plainKeys := false, apart := false, laid := [("math/bits.deBruijn32tab", laid_math_bits_deBruijn32tab), ("math/bits.deBruijn64tab", laid_math_bits_deBruijn64tab), ("internal/strconv.uint64pow10", laid_internal_strconv_uint64pow10)] }
def FaultListsSaid : Prop := faultListsRow.holds Tryd.pinned (OpenSpec.ofChange faultListsSpec)

/-- ITS FALSE NEIGHBOUR: 'it returns false'. Refute it at one input. -/
def faultListsWrong : ChangeSpec := { name := "faultLists", fn := fun _ => fun
  | [d1, d2, d3] => { results := [.lit (.bool false)], args := [d1, d2, d3] }
  | _ => none }
def FaultListsWrongFalsely : Prop := faultListsRow.holds Tryd.pinned (OpenSpec.ofChange faultListsWrong)

/-- 'latchetlaw44.FaultSame': WHATEVER THE INPUT: true; the input reads as it did. -/
def faultSameSpec : ChangeSpec := { name := "faultSame", fn := fun _ => fun
  | [d1, d2, d3, d4] => { results := [.lit (.bool true)], args := [d1, d2, d3, d4] }
  | _ => none }
def faultSameRow : OpenClaim := { program := "ytcjoohaagdihlaadoor", sum := "55f7b6015957be1cd559c012312609bbee3e3d5496bcd2518c12804524b0d0fb", func := "latchet/latchetlaw44.FaultSame", spec := "faultSame", unfollowed := true, recurses := true, named := ["internal/strconv.uint64pow10", "math/bits.deBruijn32tab", "math/bits.deBruijn64tab"], plainKeys := false, apart := false, laid := [("math/bits.deBruijn32tab", laid_math_bits_deBruijn32tab), ("math/bits.deBruijn64tab", laid_math_bits_deBruijn64tab), ("internal/strconv.uint64pow10", laid_internal_strconv_uint64pow10)] }
def FaultSameSaid : Prop := faultSameRow.holds Tryd.pinned (OpenSpec.ofChange faultSameSpec)

/-- ITS FALSE NEIGHBOUR: 'it returns false'. Refute it at one input. -/
def faultSameWrong : ChangeSpec := { name := "faultSame", fn := fun _ => fun
  | [d1, d2, d3, d4] => { results := [.lit (.bool false)], args := [d1, d2, d3, d4] }
  | _ => none }
def FaultSameWrongFalsely : Prop := faultSameRow.holds Tryd.pinned (OpenSpec.ofChange faultSameWrong)

/-- 'latchetlaw44.FaultInjects': WHATEVER THE INPUT: true; the input reads as it did. -/
def faultInjectsSpec : ChangeSpec := { name := "faultInjects", fn := fun _ => fun
  | [d1, d2, d3] => { results := [.lit (.bool true)], args := [d1, d2, d3] }
  | _ => none }
def faultInjectsRow : OpenClaim := { program := "ytcjoohaagdihlaadoor", sum := "55f7b6015957be1cd559c012312609bbee3e3d5496bcd2518c12804524b0d0fb", func := "latchet/latchetlaw44.FaultInjects", spec := "faultInjects", unfollowed := true, recurses := true, named := ["internal/strconv.uint64pow10", "math/bits.deBruijn32tab", "math/bits.deBruijn64tab"], plainKeys := false, apart := false, laid := [("math/bits.deBruijn32tab", laid_math_bits_deBruijn32tab), ("math/bits.deBruijn64tab", laid_math_bits_deBruijn64tab), ("internal/strconv.uint64pow10", laid_internal_strconv_uint64pow10)] }
def FaultInjectsSaid : Prop := faultInjectsRow.holds Tryd.pinned (OpenSpec.ofChange faultInjectsSpec)

/-- ITS FALSE NEIGHBOUR: 'it returns false'. Refute it at one input. -/
def faultInjectsWrong : ChangeSpec := { name := "faultInjects", fn := fun _ => fun
  | [d1, d2, d3] => { results := [.lit (.bool false)], args := [d1, d2, d3] }
  | _ => none }
def FaultInjectsWrongFalsely : Prop := faultInjectsRow.holds Tryd.pinned (OpenSpec.ofChange faultInjectsWrong)

/-- 'latchetlaw05.ScoreTexts': WHATEVER THE INPUT: true; the input reads as it did. -/
def scoreTextsSpec : ChangeSpec := { name := "scoreTexts", fn := fun _ => fun
  | [d1, d2] => { results := [.lit (.bool true)], args := [d1, d2] }
  | _ => none }
def scoreTextsRow : OpenClaim := { program := "ytcjoohaagdihlaadoor", sum := "55f7b6015957be1cd559c012312609bbee3e3d5496bcd2518c12804524b0d0fb", func := "latchet/latchetlaw05.ScoreTexts", spec := "scoreTexts", inPlace := ["internal/bytealg.IndexByteString", "math.Float64frombits", "math.Float64bits", "internal/abi.NoEscape", "internal/bytealg.MakeNoZero"], named := ["internal/strconv.uint64pow10", "math/bits.deBruijn32tab", "math/bits.deBruijn64tab"], plainKeys := false, apart := false, laid := [("math/bits.deBruijn32tab", laid_math_bits_deBruijn32tab), ("math/bits.deBruijn64tab", laid_math_bits_deBruijn64tab), ("internal/strconv.uint64pow10", laid_internal_strconv_uint64pow10)] }
def ScoreTextsSaid : Prop := scoreTextsRow.holds Tryd.pinned (OpenSpec.ofChange scoreTextsSpec)

/-- ITS FALSE NEIGHBOUR: 'it returns false'. Refute it at one input. -/
def scoreTextsWrong : ChangeSpec := { name := "scoreTexts", fn := fun _ => fun
  | [d1, d2] => { results := [.lit (.bool false)], args := [d1, d2] }
  | _ => none }
def ScoreTextsWrongFalsely : Prop := scoreTextsRow.holds Tryd.pinned (OpenSpec.ofChange scoreTextsWrong)

/-- 'latchetlaw32.CubeTells': WHATEVER THE INPUT: true; the input reads as it did. -/
def cubeTellsSpec : ChangeSpec := { name := "cubeTells", fn := fun _ => fun
  | [d1, d2, d3] => { results := [.lit (.bool true)], args := [d1, d2, d3] }
  | _ => none }
def cubeTellsRow : OpenClaim := { program := "ytcjoohaagdihlaadoor", sum := "55f7b6015957be1cd559c012312609bbee3e3d5496bcd2518c12804524b0d0fb", func := "latchet/latchetlaw32.CubeTells", spec := "cubeTells", recurses := true, named := ["latchet/tri.signs"], plainKeys := false, apart := false, laid := [("latchet/tri.signs", laid_latchet_tri_signs)] }
def CubeTellsSaid : Prop := cubeTellsRow.holds Tryd.pinned (OpenSpec.ofChange cubeTellsSpec)

/-- ITS FALSE NEIGHBOUR: 'it returns false'. Refute it at one input. -/
def cubeTellsWrong : ChangeSpec := { name := "cubeTells", fn := fun _ => fun
  | [d1, d2, d3] => { results := [.lit (.bool false)], args := [d1, d2, d3] }
  | _ => none }
def CubeTellsWrongFalsely : Prop := cubeTellsRow.holds Tryd.pinned (OpenSpec.ofChange cubeTellsWrong)

/-- 'latchetlaw02.LitTells': WHATEVER THE INPUT: true; the input reads as it did. -/
def litTellsSpec : ChangeSpec := { name := "litTells", fn := fun _ => fun
  | [d1, d2, d3] => { results := [.lit (.bool true)], args := [d1, d2, d3] }
  | _ => none }
def litTellsRow : OpenClaim := { program := "ytcjoohaagdihlaadoor", sum := "55f7b6015957be1cd559c012312609bbee3e3d5496bcd2518c12804524b0d0fb", func := "latchet/latchetlaw02.LitTells", spec := "litTells", unfollowed := true, recurses := true, named := ["strconv.ErrSyntax", "strconv.ErrRange", "internal/strconv.uint64pow10", "math/bits.deBruijn32tab", "math/bits.deBruijn64tab"], plainKeys := false, apart := false, laid := [("math/bits.deBruijn32tab", laid_math_bits_deBruijn32tab), ("math/bits.deBruijn64tab", laid_math_bits_deBruijn64tab), ("internal/strconv.uint64pow10", laid_internal_strconv_uint64pow10), ("strconv.ErrRange", laid_strconv_ErrRange), ("strconv.ErrSyntax", laid_strconv_ErrSyntax)] }
def LitTellsSaid : Prop := litTellsRow.holds Tryd.pinned (OpenSpec.ofChange litTellsSpec)

/-- ITS FALSE NEIGHBOUR: 'it returns false'. Refute it at one input. -/
def litTellsWrong : ChangeSpec := { name := "litTells", fn := fun _ => fun
  | [d1, d2, d3] => { results := [.lit (.bool false)], args := [d1, d2, d3] }
  | _ => none }
def LitTellsWrongFalsely : Prop := litTellsRow.holds Tryd.pinned (OpenSpec.ofChange litTellsWrong)

/-- 'latchetlaw02.LitTexts': WHATEVER THE INPUT: true; the input reads as it did. -/
def litTextsSpec : ChangeSpec := { name := "litTexts", fn := fun _ => fun
  | [d1, d2] => { results := [.lit (.bool true)], args := [d1, d2] }
  | _ => none }
def litTextsRow : OpenClaim := { program := "ytcjoohaagdihlaadoor", sum := "55f7b6015957be1cd559c012312609bbee3e3d5496bcd2518c12804524b0d0fb", func := "latchet/latchetlaw02.LitTexts", spec := "litTexts", unfollowed := true, recurses := true, named := ["strconv.ErrSyntax", "strconv.ErrRange", "internal/strconv.uint64pow10", "math/bits.deBruijn32tab", "math/bits.deBruijn64tab"], plainKeys := false, apart := false, laid := [("math/bits.deBruijn32tab", laid_math_bits_deBruijn32tab), ("math/bits.deBruijn64tab", laid_math_bits_deBruijn64tab), ("internal/strconv.uint64pow10", laid_internal_strconv_uint64pow10), ("strconv.ErrRange", laid_strconv_ErrRange), ("strconv.ErrSyntax", laid_strconv_ErrSyntax)] }
def LitTextsSaid : Prop := litTextsRow.holds Tryd.pinned (OpenSpec.ofChange litTextsSpec)

/-- ITS FALSE NEIGHBOUR: 'it returns false'. Refute it at one input. -/
def litTextsWrong : ChangeSpec := { name := "litTexts", fn := fun _ => fun
  | [d1, d2] => { results := [.lit (.bool false)], args := [d1, d2] }
  | _ => none }
def LitTextsWrongFalsely : Prop := litTextsRow.holds Tryd.pinned (OpenSpec.ofChange litTextsWrong)

/-- 'latchetlaw44.FaultTexts': WHATEVER THE INPUT: true; the input reads as it did. -/
def faultTextsSpec : ChangeSpec := { name := "faultTexts", fn := fun _ => fun
  | [d1, d2] => { results := [.lit (.bool true)], args := [d1, d2] }
  | _ => none }
def faultTextsRow : OpenClaim := { program := "ytcjoohaagdihlaadoor", sum := "55f7b6015957be1cd559c012312609bbee3e3d5496bcd2518c12804524b0d0fb", func := "latchet/latchetlaw44.FaultTexts", spec := "faultTexts", inPlace := ["internal/bytealg.IndexByteString", "internal/bytealg.IndexString"], unfollowed := true, recurses := true, named := ["internal/bytealg.MaxLen", "strconv.ErrSyntax", "strconv.ErrRange", "internal/strconv.uint64pow10", "math/bits.deBruijn32tab", "math/bits.deBruijn64tab"], plainKeys := false, apart := false, laid := [("math/bits.deBruijn32tab", laid_math_bits_deBruijn32tab), ("math/bits.deBruijn64tab", laid_math_bits_deBruijn64tab), ("internal/strconv.uint64pow10", laid_internal_strconv_uint64pow10), ("strconv.ErrRange", laid_strconv_ErrRange), ("strconv.ErrSyntax", laid_strconv_ErrSyntax)] }
def FaultTextsSaid : Prop := faultTextsRow.holds Tryd.pinned (OpenSpec.ofChange faultTextsSpec)

/-- ITS FALSE NEIGHBOUR: 'it returns false'. Refute it at one input. -/
def faultTextsWrong : ChangeSpec := { name := "faultTexts", fn := fun _ => fun
  | [d1, d2] => { results := [.lit (.bool false)], args := [d1, d2] }
  | _ => none }
def FaultTextsWrongFalsely : Prop := faultTextsRow.holds Tryd.pinned (OpenSpec.ofChange faultTextsWrong)

/-- 'latchetlaw02.LitLists': WHATEVER THE INPUT: true; the input reads as it did. -/
def litListsSpec : ChangeSpec := { name := "litLists", fn := fun _ => fun
  | [d1, d2] => { results := [.lit (.bool true)], args := [d1, d2] }
  | _ => none }
def litListsRow : OpenClaim := { program := "ytcjoohaagdihlaadoor", sum := "55f7b6015957be1cd559c012312609bbee3e3d5496bcd2518c12804524b0d0fb", func := "latchet/latchetlaw02.LitLists", spec := "litLists", unfollowed := true, recurses := true, named := ["strconv.ErrSyntax", "strconv.ErrRange", "internal/strconv.uint64pow10", "math/bits.deBruijn32tab", "math/bits.deBruijn64tab"], plainKeys := false, apart := false, laid := [("math/bits.deBruijn32tab", laid_math_bits_deBruijn32tab), ("math/bits.deBruijn64tab", laid_math_bits_deBruijn64tab), ("internal/strconv.uint64pow10", laid_internal_strconv_uint64pow10), ("strconv.ErrRange", laid_strconv_ErrRange), ("strconv.ErrSyntax", laid_strconv_ErrSyntax)] }
def LitListsSaid : Prop := litListsRow.holds Tryd.pinned (OpenSpec.ofChange litListsSpec)

/-- ITS FALSE NEIGHBOUR: 'it returns false'. Refute it at one input. -/
def litListsWrong : ChangeSpec := { name := "litLists", fn := fun _ => fun
  | [d1, d2] => { results := [.lit (.bool false)], args := [d1, d2] }
  | _ => none }
def LitListsWrongFalsely : Prop := litListsRow.holds Tryd.pinned (OpenSpec.ofChange litListsWrong)

/- THE SECOND FORM. 'bulk': how many values and letters a reading holds, each counted each time it is reached (what is shared counts as often as it is met; a slice's spare places count too). A statement '..UptoSaid' is the law's where the arguments, and the package variables that the reading takes, are together of bulk at most 1048576: NARROWER than '..Said'. Prove '..Said' where nothing that the law and all that it calls make is longer than what came in: it says more and counts as full. Else prove '..UptoSaid'. A law counts once. -/
mutual
def uptoBulk {H : Type} : DataW H → Nat
  | .lit (.string bytes) => bytes.length + 1
  | .lit _ => 1
  | .nil => 1
  | .ptr d => uptoBulk d + 1
  | .slice elems spare => uptoBulkAll elems + uptoBulkAll spare + 1
  | .agg parts => uptoBulkAll parts + 1
  | .iface _ d => uptoBulk d + 1
  | .map entries => uptoBulkEntries entries + 1
  | .held _ => 1
def uptoBulkAll {H : Type} : List (DataW H) → Nat
  | [] => 0
  | d :: r => uptoBulk d + uptoBulkAll r
def uptoBulkEntries {H : Type} : List (Lit × DataW H) → Nat
  | [] => 0
  | x :: r => uptoBulkEntry x + uptoBulkEntries r
def uptoBulkEntry {H : Type} : Lit × DataW H → Nat
  | (.string bytes, d) => bytes.length + uptoBulk d + 1
  | (_, d) => uptoBulk d + 1
 end
def uptoSmall : (H : Type) → List (DataW H) → Bool := fun _ ds => decide (uptoBulkAll ds ≤ 1048576)
def OpenSpec.upto (s : _root_.Go.ChangeSpec) : _root_.Go.OpenSpec := { _root_.Go.OpenSpec.ofChange s with cond := some uptoSmall }

/-- 'latchetlaw32.CubeStarts', WHERE WHAT IT READS IS OF BULK AT MOST 1048576: true; the input reads as it did. -/
def cubeStartsUptoRow : OpenClaim := { program := "ytcjoohaagdihlaadoor", sum := "55f7b6015957be1cd559c012312609bbee3e3d5496bcd2518c12804524b0d0fb", func := "latchet/latchetlaw32.CubeStarts", spec := "cubeStarts", named := ["latchet/tri.signs"], plainKeys := false, apart := false, laid := [("latchet/tri.signs", laid_latchet_tri_signs)], narrowed := true }
def CubeStartsUptoSaid : Prop := cubeStartsUptoRow.holds Tryd.pinned (OpenSpec.upto cubeStartsSpec)

/-- 'latchetlaw32.CubeTexts', WHERE WHAT IT READS IS OF BULK AT MOST 1048576: true; the input reads as it did. -/
def cubeTextsUptoRow : OpenClaim := { program := "ytcjoohaagdihlaadoor", sum := "55f7b6015957be1cd559c012312609bbee3e3d5496bcd2518c12804524b0d0fb", func := "latchet/latchetlaw32.CubeTexts", spec := "cubeTexts", named := ["latchet/tri.signs"], plainKeys := false, apart := false, laid := [("latchet/tri.signs", laid_latchet_tri_signs)], narrowed := true }
def CubeTextsUptoSaid : Prop := cubeTextsUptoRow.holds Tryd.pinned (OpenSpec.upto cubeTextsSpec)

/-- 'latchetlaw44.FaultLists', WHERE WHAT IT READS IS OF BULK AT MOST 1048576: true; the input reads as it did. -/
def faultListsUptoRow : OpenClaim := { program := "ytcjoohaagdihlaadoor", sum := "55f7b6015957be1cd559c012312609bbee3e3d5496bcd2518c12804524b0d0fb", func := "latchet/latchetlaw44.FaultLists", spec := "faultLists", unfollowed := true, recurses := true, named := ["internal/strconv.uint64pow10", "math/bits.deBruijn32tab", "math/bits.deBruijn64tab"], plainKeys := false, apart := false, laid := [("math/bits.deBruijn32tab", laid_math_bits_deBruijn32tab), ("math/bits.deBruijn64tab", laid_math_bits_deBruijn64tab), ("internal/strconv.uint64pow10", laid_internal_strconv_uint64pow10)], narrowed := true }
def FaultListsUptoSaid : Prop := faultListsUptoRow.holds Tryd.pinned (OpenSpec.upto faultListsSpec)

/-- 'latchetlaw44.FaultSame', WHERE WHAT IT READS IS OF BULK AT MOST 1048576: true; the input reads as it did. -/
def faultSameUptoRow : OpenClaim := { program := "ytcjoohaagdihlaadoor", sum := "55f7b6015957be1cd559c012312609bbee3e3d5496bcd2518c12804524b0d0fb", func := "latchet/latchetlaw44.FaultSame", spec := "faultSame", unfollowed := true, recurses := true, named := ["internal/strconv.uint64pow10", "math/bits.deBruijn32tab", "math/bits.deBruijn64tab"], plainKeys := false, apart := false, laid := [("math/bits.deBruijn32tab", laid_math_bits_deBruijn32tab), ("math/bits.deBruijn64tab", laid_math_bits_deBruijn64tab), ("internal/strconv.uint64pow10", laid_internal_strconv_uint64pow10)], narrowed := true }
def FaultSameUptoSaid : Prop := faultSameUptoRow.holds Tryd.pinned (OpenSpec.upto faultSameSpec)

/-- 'latchetlaw44.FaultInjects', WHERE WHAT IT READS IS OF BULK AT MOST 1048576: true; the input reads as it did. -/
def faultInjectsUptoRow : OpenClaim := { program := "ytcjoohaagdihlaadoor", sum := "55f7b6015957be1cd559c012312609bbee3e3d5496bcd2518c12804524b0d0fb", func := "latchet/latchetlaw44.FaultInjects", spec := "faultInjects", unfollowed := true, recurses := true, named := ["internal/strconv.uint64pow10", "math/bits.deBruijn32tab", "math/bits.deBruijn64tab"], plainKeys := false, apart := false, laid := [("math/bits.deBruijn32tab", laid_math_bits_deBruijn32tab), ("math/bits.deBruijn64tab", laid_math_bits_deBruijn64tab), ("internal/strconv.uint64pow10", laid_internal_strconv_uint64pow10)], narrowed := true }
def FaultInjectsUptoSaid : Prop := faultInjectsUptoRow.holds Tryd.pinned (OpenSpec.upto faultInjectsSpec)

/-- 'latchetlaw05.ScoreTexts', WHERE WHAT IT READS IS OF BULK AT MOST 1048576: true; the input reads as it did. -/
def scoreTextsUptoRow : OpenClaim := { program := "ytcjoohaagdihlaadoor", sum := "55f7b6015957be1cd559c012312609bbee3e3d5496bcd2518c12804524b0d0fb", func := "latchet/latchetlaw05.ScoreTexts", spec := "scoreTexts", inPlace := ["internal/bytealg.IndexByteString", "math.Float64frombits", "math.Float64bits", "internal/abi.NoEscape", "internal/bytealg.MakeNoZero"], named := ["internal/strconv.uint64pow10", "math/bits.deBruijn32tab", "math/bits.deBruijn64tab"], plainKeys := false, apart := false, laid := [("math/bits.deBruijn32tab", laid_math_bits_deBruijn32tab), ("math/bits.deBruijn64tab", laid_math_bits_deBruijn64tab), ("internal/strconv.uint64pow10", laid_internal_strconv_uint64pow10)], narrowed := true }
def ScoreTextsUptoSaid : Prop := scoreTextsUptoRow.holds Tryd.pinned (OpenSpec.upto scoreTextsSpec)

/-- 'latchetlaw32.CubeTells', WHERE WHAT IT READS IS OF BULK AT MOST 1048576: true; the input reads as it did. -/
def cubeTellsUptoRow : OpenClaim := { program := "ytcjoohaagdihlaadoor", sum := "55f7b6015957be1cd559c012312609bbee3e3d5496bcd2518c12804524b0d0fb", func := "latchet/latchetlaw32.CubeTells", spec := "cubeTells", recurses := true, named := ["latchet/tri.signs"], plainKeys := false, apart := false, laid := [("latchet/tri.signs", laid_latchet_tri_signs)], narrowed := true }
def CubeTellsUptoSaid : Prop := cubeTellsUptoRow.holds Tryd.pinned (OpenSpec.upto cubeTellsSpec)

/-- 'latchetlaw02.LitTells', WHERE WHAT IT READS IS OF BULK AT MOST 1048576: true; the input reads as it did. -/
def litTellsUptoRow : OpenClaim := { program := "ytcjoohaagdihlaadoor", sum := "55f7b6015957be1cd559c012312609bbee3e3d5496bcd2518c12804524b0d0fb", func := "latchet/latchetlaw02.LitTells", spec := "litTells", unfollowed := true, recurses := true, named := ["strconv.ErrSyntax", "strconv.ErrRange", "internal/strconv.uint64pow10", "math/bits.deBruijn32tab", "math/bits.deBruijn64tab"], plainKeys := false, apart := false, laid := [("math/bits.deBruijn32tab", laid_math_bits_deBruijn32tab), ("math/bits.deBruijn64tab", laid_math_bits_deBruijn64tab), ("internal/strconv.uint64pow10", laid_internal_strconv_uint64pow10), ("strconv.ErrRange", laid_strconv_ErrRange), ("strconv.ErrSyntax", laid_strconv_ErrSyntax)], narrowed := true }
def LitTellsUptoSaid : Prop := litTellsUptoRow.holds Tryd.pinned (OpenSpec.upto litTellsSpec)

/-- 'latchetlaw02.LitTexts', WHERE WHAT IT READS IS OF BULK AT MOST 1048576: true; the input reads as it did. -/
def litTextsUptoRow : OpenClaim := { program := "ytcjoohaagdihlaadoor", sum := "55f7b6015957be1cd559c012312609bbee3e3d5496bcd2518c12804524b0d0fb", func := "latchet/latchetlaw02.LitTexts", spec := "litTexts", unfollowed := true, recurses := true, named := ["strconv.ErrSyntax", "strconv.ErrRange", "internal/strconv.uint64pow10", "math/bits.deBruijn32tab", "math/bits.deBruijn64tab"], plainKeys := false, apart := false, laid := [("math/bits.deBruijn32tab", laid_math_bits_deBruijn32tab), ("math/bits.deBruijn64tab", laid_math_bits_deBruijn64tab), ("internal/strconv.uint64pow10", laid_internal_strconv_uint64pow10), ("strconv.ErrRange", laid_strconv_ErrRange), ("strconv.ErrSyntax", laid_strconv_ErrSyntax)], narrowed := true }
def LitTextsUptoSaid : Prop := litTextsUptoRow.holds Tryd.pinned (OpenSpec.upto litTextsSpec)

/-- 'latchetlaw44.FaultTexts', WHERE WHAT IT READS IS OF BULK AT MOST 1048576: true; the input reads as it did. -/
def faultTextsUptoRow : OpenClaim := { program := "ytcjoohaagdihlaadoor", sum := "55f7b6015957be1cd559c012312609bbee3e3d5496bcd2518c12804524b0d0fb", func := "latchet/latchetlaw44.FaultTexts", spec := "faultTexts", inPlace := ["internal/bytealg.IndexByteString", "internal/bytealg.IndexString"], unfollowed := true, recurses := true, named := ["internal/bytealg.MaxLen", "strconv.ErrSyntax", "strconv.ErrRange", "internal/strconv.uint64pow10", "math/bits.deBruijn32tab", "math/bits.deBruijn64tab"], plainKeys := false, apart := false, laid := [("math/bits.deBruijn32tab", laid_math_bits_deBruijn32tab), ("math/bits.deBruijn64tab", laid_math_bits_deBruijn64tab), ("internal/strconv.uint64pow10", laid_internal_strconv_uint64pow10), ("strconv.ErrRange", laid_strconv_ErrRange), ("strconv.ErrSyntax", laid_strconv_ErrSyntax)], narrowed := true }
def FaultTextsUptoSaid : Prop := faultTextsUptoRow.holds Tryd.pinned (OpenSpec.upto faultTextsSpec)

/-- 'latchetlaw02.LitLists', WHERE WHAT IT READS IS OF BULK AT MOST 1048576: true; the input reads as it did. -/
def litListsUptoRow : OpenClaim := { program := "ytcjoohaagdihlaadoor", sum := "55f7b6015957be1cd559c012312609bbee3e3d5496bcd2518c12804524b0d0fb", func := "latchet/latchetlaw02.LitLists", spec := "litLists", unfollowed := true, recurses := true, named := ["strconv.ErrSyntax", "strconv.ErrRange", "internal/strconv.uint64pow10", "math/bits.deBruijn32tab", "math/bits.deBruijn64tab"], plainKeys := false, apart := false, laid := [("math/bits.deBruijn32tab", laid_math_bits_deBruijn32tab), ("math/bits.deBruijn64tab", laid_math_bits_deBruijn64tab), ("internal/strconv.uint64pow10", laid_internal_strconv_uint64pow10), ("strconv.ErrRange", laid_strconv_ErrRange), ("strconv.ErrSyntax", laid_strconv_ErrSyntax)], narrowed := true }
def LitListsUptoSaid : Prop := litListsUptoRow.holds Tryd.pinned (OpenSpec.upto litListsSpec)

end Rows
end Go.Proofs.YtcjoohaagdihlaaDoor
