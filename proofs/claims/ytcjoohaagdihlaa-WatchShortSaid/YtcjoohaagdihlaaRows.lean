/-
  No cell of these rows narrows 'for every input' (looked for: loops, veiled, ifaces, maps, wideKeys, modest, calm, conditions, laid).
  DERIVED. THE GIVEN ROWS OF THIS SEAT. 10 by the template 'for every input the law returns true; each argument reads behind the call as it read before'; 0 by the template 'total and deterministic' (their statements: YtcjoohaagdihlaaTotals.lean).
  GIVEN WITH THE SEED: the statements are not yours to turn. If you find one false, say at which input.
  Laid BY PROGRAM, IN A SANDBOX (cutbox-rows.mjs): the forced cells as the released guide's own fill.sh prints them over the translation dbc381a2fec79d28… (all of the seat's roots in one cut). By AI agents, Wed Nov 11 2026. No macro, syntax, notation, axiom, sorry.
-/
import Derived.Test.YtcjoohaagdihlaaChecked
import GoSem.Claim
import GoSem.ClaimJoined
import GoSem.ClaimMapViews
import Derived.JoinedTies
import Derived.KernelRfl
namespace Go.Proofs.Ytcjoohaagdihlaa
/- THE CELL 'sum', in the pinned program and in every row, IS THE sha256 OF THE DUMP (.gsa) THAT YtcjoohaagdihlaaProg.lean LOADS. Nothing in Lean hashes anything: it is a label: what it is worth is what the hold of that sum in a sandbox is worth. -/
noncomputable def Try.pinned : Pinned := { name := "ytcjoohaagdihlaa", sum := "dbc381a2fec79d28ee2fbd501042621bebef4c8a981638a3836c1b0b25203215", checked := Try.checked }
namespace Rows
def none {H : Type} : Left H := { results := [], args := [] }

/-- 'latchetlaw05.ScoreOrders': WHATEVER THE INPUT: true; the input reads as it did. -/
def scoreOrdersSpec : ChangeSpec := { name := "scoreOrders", fn := fun _ => fun
  | [d1, d2, d3] => { results := [.lit (.bool true)], args := [d1, d2, d3] }
  | _ => none }
def scoreOrdersRow : OpenClaim := { program := "ytcjoohaagdihlaa", sum := "dbc381a2fec79d28ee2fbd501042621bebef4c8a981638a3836c1b0b25203215", func := "latchet/latchetlaw05.ScoreOrders", spec := "scoreOrders", inPlace := ["math.Float64frombits", "math.Float64bits"], apart := false }
def ScoreOrdersSaid : Prop := scoreOrdersRow.holds Try.pinned (OpenSpec.ofChange scoreOrdersSpec)

/-- ITS FALSE NEIGHBOUR: 'it returns false'. Refute it at one input. -/
def scoreOrdersWrong : ChangeSpec := { name := "scoreOrders", fn := fun _ => fun
  | [d1, d2, d3] => { results := [.lit (.bool false)], args := [d1, d2, d3] }
  | _ => none }
def ScoreOrdersWrongFalsely : Prop := scoreOrdersRow.holds Try.pinned (OpenSpec.ofChange scoreOrdersWrong)

/-- 'latchetlaw05.ScoreScales': WHATEVER THE INPUT: true; the input reads as it did. -/
def scoreScalesSpec : ChangeSpec := { name := "scoreScales", fn := fun _ => fun
  | [d] => { results := [.lit (.bool true)], args := [d] }
  | _ => none }
def scoreScalesRow : OpenClaim := { program := "ytcjoohaagdihlaa", sum := "dbc381a2fec79d28ee2fbd501042621bebef4c8a981638a3836c1b0b25203215", func := "latchet/latchetlaw05.ScoreScales", spec := "scoreScales", inPlace := ["math.Float64frombits", "math.Float64bits"], unfollowed := true, recurses := true, apart := false }
def ScoreScalesSaid : Prop := scoreScalesRow.holds Try.pinned (OpenSpec.ofChange scoreScalesSpec)

/-- ITS FALSE NEIGHBOUR: 'it returns false'. Refute it at one input. -/
def scoreScalesWrong : ChangeSpec := { name := "scoreScales", fn := fun _ => fun
  | [d] => { results := [.lit (.bool false)], args := [d] }
  | _ => none }
def ScoreScalesWrongFalsely : Prop := scoreScalesRow.holds Try.pinned (OpenSpec.ofChange scoreScalesWrong)

/-- 'latchetlaw24.LearnTells': WHATEVER THE INPUT: true; the input reads as it did. -/
def learnTellsSpec : ChangeSpec := { name := "learnTells", fn := fun _ => fun
  | [d1, d2] => { results := [.lit (.bool true)], args := [d1, d2] }
  | _ => none }
def learnTellsRow : OpenClaim := { program := "ytcjoohaagdihlaa", sum := "dbc381a2fec79d28ee2fbd501042621bebef4c8a981638a3836c1b0b25203215", func := "latchet/latchetlaw24.LearnTells", spec := "learnTells", unfollowed := true, recurses := true, apart := false }
def LearnTellsSaid : Prop := learnTellsRow.holds Try.pinned (OpenSpec.ofChange learnTellsSpec)

/-- ITS FALSE NEIGHBOUR: 'it returns false'. Refute it at one input. -/
def learnTellsWrong : ChangeSpec := { name := "learnTells", fn := fun _ => fun
  | [d1, d2] => { results := [.lit (.bool false)], args := [d1, d2] }
  | _ => none }
def LearnTellsWrongFalsely : Prop := learnTellsRow.holds Try.pinned (OpenSpec.ofChange learnTellsWrong)

/-- 'latchetlaw24.LearnSound': WHATEVER THE INPUT: true; the input reads as it did. -/
def learnSoundSpec : ChangeSpec := { name := "learnSound", fn := fun _ => fun
  | [d1, d2] => { results := [.lit (.bool true)], args := [d1, d2] }
  | _ => none }
def learnSoundRow : OpenClaim := { program := "ytcjoohaagdihlaa", sum := "dbc381a2fec79d28ee2fbd501042621bebef4c8a981638a3836c1b0b25203215", func := "latchet/latchetlaw24.LearnSound", spec := "learnSound", unfollowed := true, recurses := true, apart := false }
def LearnSoundSaid : Prop := learnSoundRow.holds Try.pinned (OpenSpec.ofChange learnSoundSpec)

/-- ITS FALSE NEIGHBOUR: 'it returns false'. Refute it at one input. -/
def learnSoundWrong : ChangeSpec := { name := "learnSound", fn := fun _ => fun
  | [d1, d2] => { results := [.lit (.bool false)], args := [d1, d2] }
  | _ => none }
def LearnSoundWrongFalsely : Prop := learnSoundRow.holds Try.pinned (OpenSpec.ofChange learnSoundWrong)

/-- 'latchetlaw33.StoreKeeps': WHATEVER THE INPUT: true; the input reads as it did. -/
def storeKeepsSpec : ChangeSpec := { name := "storeKeeps", fn := fun _ => fun
  | [d1, d2] => { results := [.lit (.bool true)], args := [d1, d2] }
  | _ => none }
def storeKeepsRow : OpenClaim := { program := "ytcjoohaagdihlaa", sum := "dbc381a2fec79d28ee2fbd501042621bebef4c8a981638a3836c1b0b25203215", func := "latchet/latchetlaw33.StoreKeeps", spec := "storeKeeps", unfollowed := true, recurses := true, apart := false }
def StoreKeepsSaid : Prop := storeKeepsRow.holds Try.pinned (OpenSpec.ofChange storeKeepsSpec)

/-- ITS FALSE NEIGHBOUR: 'it returns false'. Refute it at one input. -/
def storeKeepsWrong : ChangeSpec := { name := "storeKeeps", fn := fun _ => fun
  | [d1, d2] => { results := [.lit (.bool false)], args := [d1, d2] }
  | _ => none }
def StoreKeepsWrongFalsely : Prop := storeKeepsRow.holds Try.pinned (OpenSpec.ofChange storeKeepsWrong)

/-- 'latchetlaw33.StorePlays': WHATEVER THE INPUT: true; the input reads as it did. -/
def storePlaysSpec : ChangeSpec := { name := "storePlays", fn := fun _ => fun
  | [d1, d2, d3] => { results := [.lit (.bool true)], args := [d1, d2, d3] }
  | _ => none }
def storePlaysRow : OpenClaim := { program := "ytcjoohaagdihlaa", sum := "dbc381a2fec79d28ee2fbd501042621bebef4c8a981638a3836c1b0b25203215", func := "latchet/latchetlaw33.StorePlays", spec := "storePlays", unfollowed := true, recurses := true, apart := false }
def StorePlaysSaid : Prop := storePlaysRow.holds Try.pinned (OpenSpec.ofChange storePlaysSpec)

/-- ITS FALSE NEIGHBOUR: 'it returns false'. Refute it at one input. -/
def storePlaysWrong : ChangeSpec := { name := "storePlays", fn := fun _ => fun
  | [d1, d2, d3] => { results := [.lit (.bool false)], args := [d1, d2, d3] }
  | _ => none }
def StorePlaysWrongFalsely : Prop := storePlaysRow.holds Try.pinned (OpenSpec.ofChange storePlaysWrong)

/-- 'latchetlaw33.StoreNone': WHATEVER THE INPUT: true; the input reads as it did. -/
def storeNoneSpec : ChangeSpec := { name := "storeNone", fn := fun _ => fun
  | [d1, d2, d3] => { results := [.lit (.bool true)], args := [d1, d2, d3] }
  | _ => none }
def storeNoneRow : OpenClaim := { program := "ytcjoohaagdihlaa", sum := "dbc381a2fec79d28ee2fbd501042621bebef4c8a981638a3836c1b0b25203215", func := "latchet/latchetlaw33.StoreNone", spec := "storeNone", unfollowed := true, recurses := true, apart := false }
def StoreNoneSaid : Prop := storeNoneRow.holds Try.pinned (OpenSpec.ofChange storeNoneSpec)

/-- ITS FALSE NEIGHBOUR: 'it returns false'. Refute it at one input. -/
def storeNoneWrong : ChangeSpec := { name := "storeNone", fn := fun _ => fun
  | [d1, d2, d3] => { results := [.lit (.bool false)], args := [d1, d2, d3] }
  | _ => none }
def StoreNoneWrongFalsely : Prop := storeNoneRow.holds Try.pinned (OpenSpec.ofChange storeNoneWrong)

/-- 'latchetlaw25.WatchShort': WHATEVER THE INPUT: true; the input reads as it did. -/
def watchShortSpec : ChangeSpec := { name := "watchShort", fn := fun _ => fun
  | [d] => { results := [.lit (.bool true)], args := [d] }
  | _ => none }
def watchShortRow : OpenClaim := { program := "ytcjoohaagdihlaa", sum := "dbc381a2fec79d28ee2fbd501042621bebef4c8a981638a3836c1b0b25203215", func := "latchet/latchetlaw25.WatchShort", spec := "watchShort", unfollowed := true, recurses := true, apart := false }
def WatchShortSaid : Prop := watchShortRow.holds Try.pinned (OpenSpec.ofChange watchShortSpec)

/-- ITS FALSE NEIGHBOUR: 'it returns false'. Refute it at one input. -/
def watchShortWrong : ChangeSpec := { name := "watchShort", fn := fun _ => fun
  | [d] => { results := [.lit (.bool false)], args := [d] }
  | _ => none }
def WatchShortWrongFalsely : Prop := watchShortRow.holds Try.pinned (OpenSpec.ofChange watchShortWrong)

/-- 'latchetlaw25.WatchKeeps': WHATEVER THE INPUT: true; the input reads as it did. -/
def watchKeepsSpec : ChangeSpec := { name := "watchKeeps", fn := fun _ => fun
  | [d1, d2] => { results := [.lit (.bool true)], args := [d1, d2] }
  | _ => none }
def watchKeepsRow : OpenClaim := { program := "ytcjoohaagdihlaa", sum := "dbc381a2fec79d28ee2fbd501042621bebef4c8a981638a3836c1b0b25203215", func := "latchet/latchetlaw25.WatchKeeps", spec := "watchKeeps", unfollowed := true, recurses := true, apart := false }
def WatchKeepsSaid : Prop := watchKeepsRow.holds Try.pinned (OpenSpec.ofChange watchKeepsSpec)

/-- ITS FALSE NEIGHBOUR: 'it returns false'. Refute it at one input. -/
def watchKeepsWrong : ChangeSpec := { name := "watchKeeps", fn := fun _ => fun
  | [d1, d2] => { results := [.lit (.bool false)], args := [d1, d2] }
  | _ => none }
def WatchKeepsWrongFalsely : Prop := watchKeepsRow.holds Try.pinned (OpenSpec.ofChange watchKeepsWrong)

/-- 'latchetlaw25.WatchNone': WHATEVER THE INPUT: true; the input reads as it did. -/
def watchNoneSpec : ChangeSpec := { name := "watchNone", fn := fun _ => fun
  | [d1, d2] => { results := [.lit (.bool true)], args := [d1, d2] }
  | _ => none }
def watchNoneRow : OpenClaim := { program := "ytcjoohaagdihlaa", sum := "dbc381a2fec79d28ee2fbd501042621bebef4c8a981638a3836c1b0b25203215", func := "latchet/latchetlaw25.WatchNone", spec := "watchNone", unfollowed := true, recurses := true, apart := false }
def WatchNoneSaid : Prop := watchNoneRow.holds Try.pinned (OpenSpec.ofChange watchNoneSpec)

/-- ITS FALSE NEIGHBOUR: 'it returns false'. Refute it at one input. -/
def watchNoneWrong : ChangeSpec := { name := "watchNone", fn := fun _ => fun
  | [d1, d2] => { results := [.lit (.bool false)], args := [d1, d2] }
  | _ => none }
def WatchNoneWrongFalsely : Prop := watchNoneRow.holds Try.pinned (OpenSpec.ofChange watchNoneWrong)

/- THE SECOND FORM. 'bulk': how many values and letters a reading holds, each counted each time it is reached (what is shared counts as often as it is met; a slice's spare places count too). A statement '..UptoSaid' is the law's where the arguments, and the package variables that the reading takes, are together of bulk at most 1048576: NARROWER than '..Said'. Prove '..Said' where nothing that the law and all that it calls make is longer than what came in: it says more and counts as full. Else prove '..UptoSaid'. A law counts once. -/
mutual
def uptoBulk {H : Type} : DataW H → Nat
  | .lit (.string bytes) => bytes.length + 1
  | .lit _ => 1
  | .nil => 1
  | .ptr d => uptoBulk d + 1
  | .slice elems spare => uptoBulkAll elems + uptoBulkAll spare + 1
  | .agg parts => uptoBulkAll parts + 1
  | .iface _ d => uptoBulk d + 1
  | .map entries => uptoBulkEntries entries + 1
  | .held _ => 1
def uptoBulkAll {H : Type} : List (DataW H) → Nat
  | [] => 0
  | d :: r => uptoBulk d + uptoBulkAll r
def uptoBulkEntries {H : Type} : List (Lit × DataW H) → Nat
  | [] => 0
  | x :: r => uptoBulkEntry x + uptoBulkEntries r
def uptoBulkEntry {H : Type} : Lit × DataW H → Nat
  | (.string bytes, d) => bytes.length + uptoBulk d + 1
  | (_, d) => uptoBulk d + 1
 end
def uptoSmall : (H : Type) → List (DataW H) → Bool := fun _ ds => decide (uptoBulkAll ds ≤ 1048576)
def OpenSpec.upto (s : _root_.Go.ChangeSpec) : _root_.Go.OpenSpec := { _root_.Go.OpenSpec.ofChange s with cond := some uptoSmall }

/-- 'latchetlaw05.ScoreOrders', WHERE WHAT IT READS IS OF BULK AT MOST 1048576: true; the input reads as it did. -/
def scoreOrdersUptoRow : OpenClaim := { program := "ytcjoohaagdihlaa", sum := "dbc381a2fec79d28ee2fbd501042621bebef4c8a981638a3836c1b0b25203215", func := "latchet/latchetlaw05.ScoreOrders", spec := "scoreOrders", inPlace := ["math.Float64frombits", "math.Float64bits"], apart := false, narrowed := true }
def ScoreOrdersUptoSaid : Prop := scoreOrdersUptoRow.holds Try.pinned (OpenSpec.upto scoreOrdersSpec)

/-- 'latchetlaw05.ScoreScales', WHERE WHAT IT READS IS OF BULK AT MOST 1048576: true; the input reads as it did. -/
def scoreScalesUptoRow : OpenClaim := { program := "ytcjoohaagdihlaa", sum := "dbc381a2fec79d28ee2fbd501042621bebef4c8a981638a3836c1b0b25203215", func := "latchet/latchetlaw05.ScoreScales", spec := "scoreScales", inPlace := ["math.Float64frombits", "math.Float64bits"], unfollowed := true, recurses := true, apart := false, narrowed := true }
def ScoreScalesUptoSaid : Prop := scoreScalesUptoRow.holds Try.pinned (OpenSpec.upto scoreScalesSpec)

/-- 'latchetlaw24.LearnTells', WHERE WHAT IT READS IS OF BULK AT MOST 1048576: true; the input reads as it did. -/
def learnTellsUptoRow : OpenClaim := { program := "ytcjoohaagdihlaa", sum := "dbc381a2fec79d28ee2fbd501042621bebef4c8a981638a3836c1b0b25203215", func := "latchet/latchetlaw24.LearnTells", spec := "learnTells", unfollowed := true, recurses := true, apart := false, narrowed := true }
def LearnTellsUptoSaid : Prop := learnTellsUptoRow.holds Try.pinned (OpenSpec.upto learnTellsSpec)

/-- 'latchetlaw24.LearnSound', WHERE WHAT IT READS IS OF BULK AT MOST 1048576: true; the input reads as it did. -/
def learnSoundUptoRow : OpenClaim := { program := "ytcjoohaagdihlaa", sum := "dbc381a2fec79d28ee2fbd501042621bebef4c8a981638a3836c1b0b25203215", func := "latchet/latchetlaw24.LearnSound", spec := "learnSound", unfollowed := true, recurses := true, apart := false, narrowed := true }
def LearnSoundUptoSaid : Prop := learnSoundUptoRow.holds Try.pinned (OpenSpec.upto learnSoundSpec)

/-- 'latchetlaw33.StoreKeeps', WHERE WHAT IT READS IS OF BULK AT MOST 1048576: true; the input reads as it did. -/
def storeKeepsUptoRow : OpenClaim := { program := "ytcjoohaagdihlaa", sum := "dbc381a2fec79d28ee2fbd501042621bebef4c8a981638a3836c1b0b25203215", func := "latchet/latchetlaw33.StoreKeeps", spec := "storeKeeps", unfollowed := true, recurses := true, apart := false, narrowed := true }
def StoreKeepsUptoSaid : Prop := storeKeepsUptoRow.holds Try.pinned (OpenSpec.upto storeKeepsSpec)

/-- 'latchetlaw33.StorePlays', WHERE WHAT IT READS IS OF BULK AT MOST 1048576: true; the input reads as it did. -/
def storePlaysUptoRow : OpenClaim := { program := "ytcjoohaagdihlaa", sum := "dbc381a2fec79d28ee2fbd501042621bebef4c8a981638a3836c1b0b25203215", func := "latchet/latchetlaw33.StorePlays", spec := "storePlays", unfollowed := true, recurses := true, apart := false, narrowed := true }
def StorePlaysUptoSaid : Prop := storePlaysUptoRow.holds Try.pinned (OpenSpec.upto storePlaysSpec)

/-- 'latchetlaw33.StoreNone', WHERE WHAT IT READS IS OF BULK AT MOST 1048576: true; the input reads as it did. -/
def storeNoneUptoRow : OpenClaim := { program := "ytcjoohaagdihlaa", sum := "dbc381a2fec79d28ee2fbd501042621bebef4c8a981638a3836c1b0b25203215", func := "latchet/latchetlaw33.StoreNone", spec := "storeNone", unfollowed := true, recurses := true, apart := false, narrowed := true }
def StoreNoneUptoSaid : Prop := storeNoneUptoRow.holds Try.pinned (OpenSpec.upto storeNoneSpec)

/-- 'latchetlaw25.WatchShort', WHERE WHAT IT READS IS OF BULK AT MOST 1048576: true; the input reads as it did. -/
def watchShortUptoRow : OpenClaim := { program := "ytcjoohaagdihlaa", sum := "dbc381a2fec79d28ee2fbd501042621bebef4c8a981638a3836c1b0b25203215", func := "latchet/latchetlaw25.WatchShort", spec := "watchShort", unfollowed := true, recurses := true, apart := false, narrowed := true }
def WatchShortUptoSaid : Prop := watchShortUptoRow.holds Try.pinned (OpenSpec.upto watchShortSpec)

/-- 'latchetlaw25.WatchKeeps', WHERE WHAT IT READS IS OF BULK AT MOST 1048576: true; the input reads as it did. -/
def watchKeepsUptoRow : OpenClaim := { program := "ytcjoohaagdihlaa", sum := "dbc381a2fec79d28ee2fbd501042621bebef4c8a981638a3836c1b0b25203215", func := "latchet/latchetlaw25.WatchKeeps", spec := "watchKeeps", unfollowed := true, recurses := true, apart := false, narrowed := true }
def WatchKeepsUptoSaid : Prop := watchKeepsUptoRow.holds Try.pinned (OpenSpec.upto watchKeepsSpec)

/-- 'latchetlaw25.WatchNone', WHERE WHAT IT READS IS OF BULK AT MOST 1048576: true; the input reads as it did. -/
def watchNoneUptoRow : OpenClaim := { program := "ytcjoohaagdihlaa", sum := "dbc381a2fec79d28ee2fbd501042621bebef4c8a981638a3836c1b0b25203215", func := "latchet/latchetlaw25.WatchNone", spec := "watchNone", unfollowed := true, recurses := true, apart := false, narrowed := true }
def WatchNoneUptoSaid : Prop := watchNoneUptoRow.holds Try.pinned (OpenSpec.upto watchNoneSpec)

end Rows
end Go.Proofs.Ytcjoohaagdihlaa
