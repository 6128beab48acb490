/-
  No cell of these rows narrows 'for every input' (looked for: loops, veiled, ifaces, maps, wideKeys, modest, calm, conditions, laid).
  DERIVED. THE GIVEN ROWS OF THIS SEAT. 19 by the template 'for every input the law returns true; each argument reads behind the call as it read before'; 0 by the template 'total and deterministic' (their statements: YtkmamebaichboaaTotals.lean).
  GIVEN WITH THE SEED: the statements are not yours to turn. If you find one false, say at which input.
  Laid BY PROGRAM, IN A SANDBOX (cutbox-rows.mjs): the forced cells as the released guide's own fill.sh prints them over the translation 8ce9cce4d45ccd91… (all of the seat's roots in one cut). By AI agents, Wed Nov 11 2026. No macro, syntax, notation, axiom, sorry.
-/
import Derived.Test.YtkmamebaichboaaChecked
import GoSem.Claim
import GoSem.ClaimJoined
import GoSem.ClaimMapViews
import Derived.JoinedTies
import Derived.KernelRfl
namespace Go.Proofs.Ytkmamebaichboaa
/- THE CELL 'sum', in the pinned program and in every row, IS THE sha256 OF THE DUMP (.gsa) THAT YtkmamebaichboaaProg.lean LOADS. Nothing in Lean hashes anything: it is a label: what it is worth is what the hold of that sum in a sandbox is worth. -/
noncomputable def Try.pinned : Pinned := { name := "ytkmamebaichboaa", sum := "8ce9cce4d45ccd91df1975bce2c5ec8683b0ade20fc170242c7eef0ccd251009", checked := Try.checked }
namespace Rows
def none {H : Type} : Left H := { results := [], args := [] }

/-- 'septumlaw10.TableOld': WHATEVER THE INPUT: true; the input reads as it did. -/
def tableOldSpec : ChangeSpec := { name := "tableOld", fn := fun _ => fun
  | [d1, d2, d3, d4] => { results := [.lit (.bool true)], args := [d1, d2, d3, d4] }
  | _ => none }
def tableOldRow : OpenClaim := { program := "ytkmamebaichboaa", sum := "8ce9cce4d45ccd91df1975bce2c5ec8683b0ade20fc170242c7eef0ccd251009", func := "septum/septumlaw10.TableOld", spec := "tableOld", unfollowed := true, recurses := true, apart := false }
def TableOldSaid : Prop := tableOldRow.holds Try.pinned (OpenSpec.ofChange tableOldSpec)

/-- ITS FALSE NEIGHBOUR: 'it returns false'. Refute it at one input. -/
def tableOldWrong : ChangeSpec := { name := "tableOld", fn := fun _ => fun
  | [d1, d2, d3, d4] => { results := [.lit (.bool false)], args := [d1, d2, d3, d4] }
  | _ => none }
def TableOldWrongFalsely : Prop := tableOldRow.holds Try.pinned (OpenSpec.ofChange tableOldWrong)

/-- 'septumlaw02.FrameAgain': WHATEVER THE INPUT: true; the input reads as it did. -/
def frameAgainSpec : ChangeSpec := { name := "frameAgain", fn := fun _ => fun
  | [d1, d2, d3] => { results := [.lit (.bool true)], args := [d1, d2, d3] }
  | _ => none }
def frameAgainRow : OpenClaim := { program := "ytkmamebaichboaa", sum := "8ce9cce4d45ccd91df1975bce2c5ec8683b0ade20fc170242c7eef0ccd251009", func := "septum/septumlaw02.FrameAgain", spec := "frameAgain", unfollowed := true, recurses := true, apart := false }
def FrameAgainSaid : Prop := frameAgainRow.holds Try.pinned (OpenSpec.ofChange frameAgainSpec)

/-- ITS FALSE NEIGHBOUR: 'it returns false'. Refute it at one input. -/
def frameAgainWrong : ChangeSpec := { name := "frameAgain", fn := fun _ => fun
  | [d1, d2, d3] => { results := [.lit (.bool false)], args := [d1, d2, d3] }
  | _ => none }
def FrameAgainWrongFalsely : Prop := frameAgainRow.holds Try.pinned (OpenSpec.ofChange frameAgainWrong)

/-- 'septumlaw03.TicketTurns': WHATEVER THE INPUT: true; the input reads as it did. -/
def ticketTurnsSpec : ChangeSpec := { name := "ticketTurns", fn := fun _ => fun
  | [d1, d2, d3] => { results := [.lit (.bool true)], args := [d1, d2, d3] }
  | _ => none }
def ticketTurnsRow : OpenClaim := { program := "ytkmamebaichboaa", sum := "8ce9cce4d45ccd91df1975bce2c5ec8683b0ade20fc170242c7eef0ccd251009", func := "septum/septumlaw03.TicketTurns", spec := "ticketTurns", unfollowed := true, recurses := true, apart := false }
def TicketTurnsSaid : Prop := ticketTurnsRow.holds Try.pinned (OpenSpec.ofChange ticketTurnsSpec)

/-- ITS FALSE NEIGHBOUR: 'it returns false'. Refute it at one input. -/
def ticketTurnsWrong : ChangeSpec := { name := "ticketTurns", fn := fun _ => fun
  | [d1, d2, d3] => { results := [.lit (.bool false)], args := [d1, d2, d3] }
  | _ => none }
def TicketTurnsWrongFalsely : Prop := ticketTurnsRow.holds Try.pinned (OpenSpec.ofChange ticketTurnsWrong)

/-- 'septumlaw03.TicketCalls': WHATEVER THE INPUT: true; the input reads as it did. -/
def ticketCallsSpec : ChangeSpec := { name := "ticketCalls", fn := fun _ => fun
  | [d1, d2, d3] => { results := [.lit (.bool true)], args := [d1, d2, d3] }
  | _ => none }
def ticketCallsRow : OpenClaim := { program := "ytkmamebaichboaa", sum := "8ce9cce4d45ccd91df1975bce2c5ec8683b0ade20fc170242c7eef0ccd251009", func := "septum/septumlaw03.TicketCalls", spec := "ticketCalls", unfollowed := true, recurses := true, apart := false }
def TicketCallsSaid : Prop := ticketCallsRow.holds Try.pinned (OpenSpec.ofChange ticketCallsSpec)

/-- ITS FALSE NEIGHBOUR: 'it returns false'. Refute it at one input. -/
def ticketCallsWrong : ChangeSpec := { name := "ticketCalls", fn := fun _ => fun
  | [d1, d2, d3] => { results := [.lit (.bool false)], args := [d1, d2, d3] }
  | _ => none }
def TicketCallsWrongFalsely : Prop := ticketCallsRow.holds Try.pinned (OpenSpec.ofChange ticketCallsWrong)

/-- 'septumlaw03.TicketWaits': WHATEVER THE INPUT: true; the input reads as it did. -/
def ticketWaitsSpec : ChangeSpec := { name := "ticketWaits", fn := fun _ => fun
  | [d] => { results := [.lit (.bool true)], args := [d] }
  | _ => none }
def ticketWaitsRow : OpenClaim := { program := "ytkmamebaichboaa", sum := "8ce9cce4d45ccd91df1975bce2c5ec8683b0ade20fc170242c7eef0ccd251009", func := "septum/septumlaw03.TicketWaits", spec := "ticketWaits", unfollowed := true, recurses := true, apart := false }
def TicketWaitsSaid : Prop := ticketWaitsRow.holds Try.pinned (OpenSpec.ofChange ticketWaitsSpec)

/-- ITS FALSE NEIGHBOUR: 'it returns false'. Refute it at one input. -/
def ticketWaitsWrong : ChangeSpec := { name := "ticketWaits", fn := fun _ => fun
  | [d] => { results := [.lit (.bool false)], args := [d] }
  | _ => none }
def TicketWaitsWrongFalsely : Prop := ticketWaitsRow.holds Try.pinned (OpenSpec.ofChange ticketWaitsWrong)

/-- 'septumlaw08.RingPlays': WHATEVER THE INPUT: true; the input reads as it did. -/
def ringPlaysSpec : ChangeSpec := { name := "ringPlays", fn := fun _ => fun
  | [d1, d2, d3] => { results := [.lit (.bool true)], args := [d1, d2, d3] }
  | _ => none }
def ringPlaysRow : OpenClaim := { program := "ytkmamebaichboaa", sum := "8ce9cce4d45ccd91df1975bce2c5ec8683b0ade20fc170242c7eef0ccd251009", func := "septum/septumlaw08.RingPlays", spec := "ringPlays", unfollowed := true, recurses := true, apart := false }
def RingPlaysSaid : Prop := ringPlaysRow.holds Try.pinned (OpenSpec.ofChange ringPlaysSpec)

/-- ITS FALSE NEIGHBOUR: 'it returns false'. Refute it at one input. -/
def ringPlaysWrong : ChangeSpec := { name := "ringPlays", fn := fun _ => fun
  | [d1, d2, d3] => { results := [.lit (.bool false)], args := [d1, d2, d3] }
  | _ => none }
def RingPlaysWrongFalsely : Prop := ringPlaysRow.holds Try.pinned (OpenSpec.ofChange ringPlaysWrong)

/-- 'septumlaw08.RingTwo': WHATEVER THE INPUT: true; the input reads as it did. -/
def ringTwoSpec : ChangeSpec := { name := "ringTwo", fn := fun _ => fun
  | [d1, d2, d3] => { results := [.lit (.bool true)], args := [d1, d2, d3] }
  | _ => none }
def ringTwoRow : OpenClaim := { program := "ytkmamebaichboaa", sum := "8ce9cce4d45ccd91df1975bce2c5ec8683b0ade20fc170242c7eef0ccd251009", func := "septum/septumlaw08.RingTwo", spec := "ringTwo", unfollowed := true, recurses := true, apart := false }
def RingTwoSaid : Prop := ringTwoRow.holds Try.pinned (OpenSpec.ofChange ringTwoSpec)

/-- ITS FALSE NEIGHBOUR: 'it returns false'. Refute it at one input. -/
def ringTwoWrong : ChangeSpec := { name := "ringTwo", fn := fun _ => fun
  | [d1, d2, d3] => { results := [.lit (.bool false)], args := [d1, d2, d3] }
  | _ => none }
def RingTwoWrongFalsely : Prop := ringTwoRow.holds Try.pinned (OpenSpec.ofChange ringTwoWrong)

/-- 'septumlaw02.FrameTwo': WHATEVER THE INPUT: true; the input reads as it did. -/
def frameTwoSpec : ChangeSpec := { name := "frameTwo", fn := fun _ => fun
  | [d1, d2] => { results := [.lit (.bool true)], args := [d1, d2] }
  | _ => none }
def frameTwoRow : OpenClaim := { program := "ytkmamebaichboaa", sum := "8ce9cce4d45ccd91df1975bce2c5ec8683b0ade20fc170242c7eef0ccd251009", func := "septum/septumlaw02.FrameTwo", spec := "frameTwo", unfollowed := true, recurses := true, apart := false }
def FrameTwoSaid : Prop := frameTwoRow.holds Try.pinned (OpenSpec.ofChange frameTwoSpec)

/-- ITS FALSE NEIGHBOUR: 'it returns false'. Refute it at one input. -/
def frameTwoWrong : ChangeSpec := { name := "frameTwo", fn := fun _ => fun
  | [d1, d2] => { results := [.lit (.bool false)], args := [d1, d2] }
  | _ => none }
def FrameTwoWrongFalsely : Prop := frameTwoRow.holds Try.pinned (OpenSpec.ofChange frameTwoWrong)

/-- 'septumlaw02.FrameOver': WHATEVER THE INPUT: true; the input reads as it did. -/
def frameOverSpec : ChangeSpec := { name := "frameOver", fn := fun _ => fun
  | [d1, d2] => { results := [.lit (.bool true)], args := [d1, d2] }
  | _ => none }
def frameOverRow : OpenClaim := { program := "ytkmamebaichboaa", sum := "8ce9cce4d45ccd91df1975bce2c5ec8683b0ade20fc170242c7eef0ccd251009", func := "septum/septumlaw02.FrameOver", spec := "frameOver", unfollowed := true, recurses := true, apart := false }
def FrameOverSaid : Prop := frameOverRow.holds Try.pinned (OpenSpec.ofChange frameOverSpec)

/-- ITS FALSE NEIGHBOUR: 'it returns false'. Refute it at one input. -/
def frameOverWrong : ChangeSpec := { name := "frameOver", fn := fun _ => fun
  | [d1, d2] => { results := [.lit (.bool false)], args := [d1, d2] }
  | _ => none }
def FrameOverWrongFalsely : Prop := frameOverRow.holds Try.pinned (OpenSpec.ofChange frameOverWrong)

/-- 'septumlaw04.SeqBack': WHATEVER THE INPUT: true; the input reads as it did. -/
def seqBackSpec : ChangeSpec := { name := "seqBack", fn := fun _ => fun
  | [d1, d2] => { results := [.lit (.bool true)], args := [d1, d2] }
  | _ => none }
def seqBackRow : OpenClaim := { program := "ytkmamebaichboaa", sum := "8ce9cce4d45ccd91df1975bce2c5ec8683b0ade20fc170242c7eef0ccd251009", func := "septum/septumlaw04.SeqBack", spec := "seqBack", unfollowed := true, recurses := true, apart := false }
def SeqBackSaid : Prop := seqBackRow.holds Try.pinned (OpenSpec.ofChange seqBackSpec)

/-- ITS FALSE NEIGHBOUR: 'it returns false'. Refute it at one input. -/
def seqBackWrong : ChangeSpec := { name := "seqBack", fn := fun _ => fun
  | [d1, d2] => { results := [.lit (.bool false)], args := [d1, d2] }
  | _ => none }
def SeqBackWrongFalsely : Prop := seqBackRow.holds Try.pinned (OpenSpec.ofChange seqBackWrong)

/-- 'septumlaw04.SeqCounts': WHATEVER THE INPUT: true; the input reads as it did. -/
def seqCountsSpec : ChangeSpec := { name := "seqCounts", fn := fun _ => fun
  | [d1, d2, d3] => { results := [.lit (.bool true)], args := [d1, d2, d3] }
  | _ => none }
def seqCountsRow : OpenClaim := { program := "ytkmamebaichboaa", sum := "8ce9cce4d45ccd91df1975bce2c5ec8683b0ade20fc170242c7eef0ccd251009", func := "septum/septumlaw04.SeqCounts", spec := "seqCounts", unfollowed := true, recurses := true, apart := false }
def SeqCountsSaid : Prop := seqCountsRow.holds Try.pinned (OpenSpec.ofChange seqCountsSpec)

/-- ITS FALSE NEIGHBOUR: 'it returns false'. Refute it at one input. -/
def seqCountsWrong : ChangeSpec := { name := "seqCounts", fn := fun _ => fun
  | [d1, d2, d3] => { results := [.lit (.bool false)], args := [d1, d2, d3] }
  | _ => none }
def SeqCountsWrongFalsely : Prop := seqCountsRow.holds Try.pinned (OpenSpec.ofChange seqCountsWrong)

/-- 'septumlaw08.RingCosts': WHATEVER THE INPUT: true; the input reads as it did. -/
def ringCostsSpec : ChangeSpec := { name := "ringCosts", fn := fun _ => fun
  | [d1, d2, d3] => { results := [.lit (.bool true)], args := [d1, d2, d3] }
  | _ => none }
def ringCostsRow : OpenClaim := { program := "ytkmamebaichboaa", sum := "8ce9cce4d45ccd91df1975bce2c5ec8683b0ade20fc170242c7eef0ccd251009", func := "septum/septumlaw08.RingCosts", spec := "ringCosts", unfollowed := true, recurses := true, apart := false }
def RingCostsSaid : Prop := ringCostsRow.holds Try.pinned (OpenSpec.ofChange ringCostsSpec)

/-- ITS FALSE NEIGHBOUR: 'it returns false'. Refute it at one input. -/
def ringCostsWrong : ChangeSpec := { name := "ringCosts", fn := fun _ => fun
  | [d1, d2, d3] => { results := [.lit (.bool false)], args := [d1, d2, d3] }
  | _ => none }
def RingCostsWrongFalsely : Prop := ringCostsRow.holds Try.pinned (OpenSpec.ofChange ringCostsWrong)

/-- 'septumlaw04.SeqTurns': WHATEVER THE INPUT: true; the input reads as it did. -/
def seqTurnsSpec : ChangeSpec := { name := "seqTurns", fn := fun _ => fun
  | [d1, d2] => { results := [.lit (.bool true)], args := [d1, d2] }
  | _ => none }
def seqTurnsRow : OpenClaim := { program := "ytkmamebaichboaa", sum := "8ce9cce4d45ccd91df1975bce2c5ec8683b0ade20fc170242c7eef0ccd251009", func := "septum/septumlaw04.SeqTurns", spec := "seqTurns", unfollowed := true, recurses := true, apart := false }
def SeqTurnsSaid : Prop := seqTurnsRow.holds Try.pinned (OpenSpec.ofChange seqTurnsSpec)

/-- ITS FALSE NEIGHBOUR: 'it returns false'. Refute it at one input. -/
def seqTurnsWrong : ChangeSpec := { name := "seqTurns", fn := fun _ => fun
  | [d1, d2] => { results := [.lit (.bool false)], args := [d1, d2] }
  | _ => none }
def SeqTurnsWrongFalsely : Prop := seqTurnsRow.holds Try.pinned (OpenSpec.ofChange seqTurnsWrong)

/-- 'septumlaw02.FrameSteps': WHATEVER THE INPUT: true; the input reads as it did. -/
def frameStepsSpec : ChangeSpec := { name := "frameSteps", fn := fun _ => fun
  | [d1, d2] => { results := [.lit (.bool true)], args := [d1, d2] }
  | _ => none }
def frameStepsRow : OpenClaim := { program := "ytkmamebaichboaa", sum := "8ce9cce4d45ccd91df1975bce2c5ec8683b0ade20fc170242c7eef0ccd251009", func := "septum/septumlaw02.FrameSteps", spec := "frameSteps", unfollowed := true, recurses := true, apart := false }
def FrameStepsSaid : Prop := frameStepsRow.holds Try.pinned (OpenSpec.ofChange frameStepsSpec)

/-- ITS FALSE NEIGHBOUR: 'it returns false'. Refute it at one input. -/
def frameStepsWrong : ChangeSpec := { name := "frameSteps", fn := fun _ => fun
  | [d1, d2] => { results := [.lit (.bool false)], args := [d1, d2] }
  | _ => none }
def FrameStepsWrongFalsely : Prop := frameStepsRow.holds Try.pinned (OpenSpec.ofChange frameStepsWrong)

/-- 'septumlaw02.FrameRuns': WHATEVER THE INPUT: true; the input reads as it did. -/
def frameRunsSpec : ChangeSpec := { name := "frameRuns", fn := fun _ => fun
  | [d1, d2] => { results := [.lit (.bool true)], args := [d1, d2] }
  | _ => none }
def frameRunsRow : OpenClaim := { program := "ytkmamebaichboaa", sum := "8ce9cce4d45ccd91df1975bce2c5ec8683b0ade20fc170242c7eef0ccd251009", func := "septum/septumlaw02.FrameRuns", spec := "frameRuns", unfollowed := true, recurses := true, apart := false }
def FrameRunsSaid : Prop := frameRunsRow.holds Try.pinned (OpenSpec.ofChange frameRunsSpec)

/-- ITS FALSE NEIGHBOUR: 'it returns false'. Refute it at one input. -/
def frameRunsWrong : ChangeSpec := { name := "frameRuns", fn := fun _ => fun
  | [d1, d2] => { results := [.lit (.bool false)], args := [d1, d2] }
  | _ => none }
def FrameRunsWrongFalsely : Prop := frameRunsRow.holds Try.pinned (OpenSpec.ofChange frameRunsWrong)

/-- 'septumlaw08.RingSizes': WHATEVER THE INPUT: true; the input reads as it did. -/
def ringSizesSpec : ChangeSpec := { name := "ringSizes", fn := fun _ => fun
  | [d1, d2] => { results := [.lit (.bool true)], args := [d1, d2] }
  | _ => none }
def ringSizesRow : OpenClaim := { program := "ytkmamebaichboaa", sum := "8ce9cce4d45ccd91df1975bce2c5ec8683b0ade20fc170242c7eef0ccd251009", func := "septum/septumlaw08.RingSizes", spec := "ringSizes", unfollowed := true, recurses := true, apart := false }
def RingSizesSaid : Prop := ringSizesRow.holds Try.pinned (OpenSpec.ofChange ringSizesSpec)

/-- ITS FALSE NEIGHBOUR: 'it returns false'. Refute it at one input. -/
def ringSizesWrong : ChangeSpec := { name := "ringSizes", fn := fun _ => fun
  | [d1, d2] => { results := [.lit (.bool false)], args := [d1, d2] }
  | _ => none }
def RingSizesWrongFalsely : Prop := ringSizesRow.holds Try.pinned (OpenSpec.ofChange ringSizesWrong)

/-- 'septumlaw09.BlockSizes': WHATEVER THE INPUT: true; the input reads as it did. -/
def blockSizesSpec : ChangeSpec := { name := "blockSizes", fn := fun _ => fun
  | [d1, d2, d3] => { results := [.lit (.bool true)], args := [d1, d2, d3] }
  | _ => none }
def blockSizesRow : OpenClaim := { program := "ytkmamebaichboaa", sum := "8ce9cce4d45ccd91df1975bce2c5ec8683b0ade20fc170242c7eef0ccd251009", func := "septum/septumlaw09.BlockSizes", spec := "blockSizes", unfollowed := true, recurses := true, apart := false }
def BlockSizesSaid : Prop := blockSizesRow.holds Try.pinned (OpenSpec.ofChange blockSizesSpec)

/-- ITS FALSE NEIGHBOUR: 'it returns false'. Refute it at one input. -/
def blockSizesWrong : ChangeSpec := { name := "blockSizes", fn := fun _ => fun
  | [d1, d2, d3] => { results := [.lit (.bool false)], args := [d1, d2, d3] }
  | _ => none }
def BlockSizesWrongFalsely : Prop := blockSizesRow.holds Try.pinned (OpenSpec.ofChange blockSizesWrong)

/-- 'septumlaw07.DeltaLong': WHATEVER THE INPUT: true; the input reads as it did. -/
def deltaLongSpec : ChangeSpec := { name := "deltaLong", fn := fun _ => fun
  | [d] => { results := [.lit (.bool true)], args := [d] }
  | _ => none }
def deltaLongRow : OpenClaim := { program := "ytkmamebaichboaa", sum := "8ce9cce4d45ccd91df1975bce2c5ec8683b0ade20fc170242c7eef0ccd251009", func := "septum/septumlaw07.DeltaLong", spec := "deltaLong", unfollowed := true, recurses := true, apart := false }
def DeltaLongSaid : Prop := deltaLongRow.holds Try.pinned (OpenSpec.ofChange deltaLongSpec)

/-- ITS FALSE NEIGHBOUR: 'it returns false'. Refute it at one input. -/
def deltaLongWrong : ChangeSpec := { name := "deltaLong", fn := fun _ => fun
  | [d] => { results := [.lit (.bool false)], args := [d] }
  | _ => none }
def DeltaLongWrongFalsely : Prop := deltaLongRow.holds Try.pinned (OpenSpec.ofChange deltaLongWrong)

/-- 'septumlaw06.QueueOdd': WHATEVER THE INPUT: true; the input reads as it did. -/
def queueOddSpec : ChangeSpec := { name := "queueOdd", fn := fun _ => fun
  | [d1, d2, d3] => { results := [.lit (.bool true)], args := [d1, d2, d3] }
  | _ => none }
def queueOddRow : OpenClaim := { program := "ytkmamebaichboaa", sum := "8ce9cce4d45ccd91df1975bce2c5ec8683b0ade20fc170242c7eef0ccd251009", func := "septum/septumlaw06.QueueOdd", spec := "queueOdd", unfollowed := true, recurses := true, apart := false }
def QueueOddSaid : Prop := queueOddRow.holds Try.pinned (OpenSpec.ofChange queueOddSpec)

/-- ITS FALSE NEIGHBOUR: 'it returns false'. Refute it at one input. -/
def queueOddWrong : ChangeSpec := { name := "queueOdd", fn := fun _ => fun
  | [d1, d2, d3] => { results := [.lit (.bool false)], args := [d1, d2, d3] }
  | _ => none }
def QueueOddWrongFalsely : Prop := queueOddRow.holds Try.pinned (OpenSpec.ofChange queueOddWrong)

/- THE SECOND FORM. 'bulk': how many values and letters a reading holds, each counted each time it is reached (what is shared counts as often as it is met; a slice's spare places count too). A statement '..UptoSaid' is the law's where the arguments, and the package variables that the reading takes, are together of bulk at most 1048576: NARROWER than '..Said'. Prove '..Said' where nothing that the law and all that it calls make is longer than what came in: it says more and counts as full. Else prove '..UptoSaid'. A law counts once. -/
mutual
def uptoBulk {H : Type} : DataW H → Nat
  | .lit (.string bytes) => bytes.length + 1
  | .lit _ => 1
  | .nil => 1
  | .ptr d => uptoBulk d + 1
  | .slice elems spare => uptoBulkAll elems + uptoBulkAll spare + 1
  | .agg parts => uptoBulkAll parts + 1
  | .iface _ d => uptoBulk d + 1
  | .map entries => uptoBulkEntries entries + 1
  | .held _ => 1
def uptoBulkAll {H : Type} : List (DataW H) → Nat
  | [] => 0
  | d :: r => uptoBulk d + uptoBulkAll r
def uptoBulkEntries {H : Type} : List (Lit × DataW H) → Nat
  | [] => 0
  | x :: r => uptoBulkEntry x + uptoBulkEntries r
def uptoBulkEntry {H : Type} : Lit × DataW H → Nat
  | (.string bytes, d) => bytes.length + uptoBulk d + 1
  | (_, d) => uptoBulk d + 1
 end
def uptoSmall : (H : Type) → List (DataW H) → Bool := fun _ ds => decide (uptoBulkAll ds ≤ 1048576)
def OpenSpec.upto (s : _root_.Go.ChangeSpec) : _root_.Go.OpenSpec := { _root_.Go.OpenSpec.ofChange s with cond := some uptoSmall }

/-- 'septumlaw10.TableOld', WHERE WHAT IT READS IS OF BULK AT MOST 1048576: true; the input reads as it did. -/
def tableOldUptoRow : OpenClaim := { program := "ytkmamebaichboaa", sum := "8ce9cce4d45ccd91df1975bce2c5ec8683b0ade20fc170242c7eef0ccd251009", func := "septum/septumlaw10.TableOld", spec := "tableOld", unfollowed := true, recurses := true, apart := false, narrowed := true }
def TableOldUptoSaid : Prop := tableOldUptoRow.holds Try.pinned (OpenSpec.upto tableOldSpec)

/-- 'septumlaw02.FrameAgain', WHERE WHAT IT READS IS OF BULK AT MOST 1048576: true; the input reads as it did. -/
def frameAgainUptoRow : OpenClaim := { program := "ytkmamebaichboaa", sum := "8ce9cce4d45ccd91df1975bce2c5ec8683b0ade20fc170242c7eef0ccd251009", func := "septum/septumlaw02.FrameAgain", spec := "frameAgain", unfollowed := true, recurses := true, apart := false, narrowed := true }
def FrameAgainUptoSaid : Prop := frameAgainUptoRow.holds Try.pinned (OpenSpec.upto frameAgainSpec)

/-- 'septumlaw03.TicketTurns', WHERE WHAT IT READS IS OF BULK AT MOST 1048576: true; the input reads as it did. -/
def ticketTurnsUptoRow : OpenClaim := { program := "ytkmamebaichboaa", sum := "8ce9cce4d45ccd91df1975bce2c5ec8683b0ade20fc170242c7eef0ccd251009", func := "septum/septumlaw03.TicketTurns", spec := "ticketTurns", unfollowed := true, recurses := true, apart := false, narrowed := true }
def TicketTurnsUptoSaid : Prop := ticketTurnsUptoRow.holds Try.pinned (OpenSpec.upto ticketTurnsSpec)

/-- 'septumlaw03.TicketCalls', WHERE WHAT IT READS IS OF BULK AT MOST 1048576: true; the input reads as it did. -/
def ticketCallsUptoRow : OpenClaim := { program := "ytkmamebaichboaa", sum := "8ce9cce4d45ccd91df1975bce2c5ec8683b0ade20fc170242c7eef0ccd251009", func := "septum/septumlaw03.TicketCalls", spec := "ticketCalls", unfollowed := true, recurses := true, apart := false, narrowed := true }
def TicketCallsUptoSaid : Prop := ticketCallsUptoRow.holds Try.pinned (OpenSpec.upto ticketCallsSpec)

/-- 'septumlaw03.TicketWaits', WHERE WHAT IT READS IS OF BULK AT MOST 1048576: true; the input reads as it did. -/
def ticketWaitsUptoRow : OpenClaim := { program := "ytkmamebaichboaa", sum := "8ce9cce4d45ccd91df1975bce2c5ec8683b0ade20fc170242c7eef0ccd251009", func := "septum/septumlaw03.TicketWaits", spec := "ticketWaits", unfollowed := true, recurses := true, apart := false, narrowed := true }
def TicketWaitsUptoSaid : Prop := ticketWaitsUptoRow.holds Try.pinned (OpenSpec.upto ticketWaitsSpec)

/-- 'septumlaw08.RingPlays', WHERE WHAT IT READS IS OF BULK AT MOST 1048576: true; the input reads as it did. -/
def ringPlaysUptoRow : OpenClaim := { program := "ytkmamebaichboaa", sum := "8ce9cce4d45ccd91df1975bce2c5ec8683b0ade20fc170242c7eef0ccd251009", func := "septum/septumlaw08.RingPlays", spec := "ringPlays", unfollowed := true, recurses := true, apart := false, narrowed := true }
def RingPlaysUptoSaid : Prop := ringPlaysUptoRow.holds Try.pinned (OpenSpec.upto ringPlaysSpec)

/-- 'septumlaw08.RingTwo', WHERE WHAT IT READS IS OF BULK AT MOST 1048576: true; the input reads as it did. -/
def ringTwoUptoRow : OpenClaim := { program := "ytkmamebaichboaa", sum := "8ce9cce4d45ccd91df1975bce2c5ec8683b0ade20fc170242c7eef0ccd251009", func := "septum/septumlaw08.RingTwo", spec := "ringTwo", unfollowed := true, recurses := true, apart := false, narrowed := true }
def RingTwoUptoSaid : Prop := ringTwoUptoRow.holds Try.pinned (OpenSpec.upto ringTwoSpec)

/-- 'septumlaw02.FrameTwo', WHERE WHAT IT READS IS OF BULK AT MOST 1048576: true; the input reads as it did. -/
def frameTwoUptoRow : OpenClaim := { program := "ytkmamebaichboaa", sum := "8ce9cce4d45ccd91df1975bce2c5ec8683b0ade20fc170242c7eef0ccd251009", func := "septum/septumlaw02.FrameTwo", spec := "frameTwo", unfollowed := true, recurses := true, apart := false, narrowed := true }
def FrameTwoUptoSaid : Prop := frameTwoUptoRow.holds Try.pinned (OpenSpec.upto frameTwoSpec)

/-- 'septumlaw02.FrameOver', WHERE WHAT IT READS IS OF BULK AT MOST 1048576: true; the input reads as it did. -/
def frameOverUptoRow : OpenClaim := { program := "ytkmamebaichboaa", sum := "8ce9cce4d45ccd91df1975bce2c5ec8683b0ade20fc170242c7eef0ccd251009", func := "septum/septumlaw02.FrameOver", spec := "frameOver", unfollowed := true, recurses := true, apart := false, narrowed := true }
def FrameOverUptoSaid : Prop := frameOverUptoRow.holds Try.pinned (OpenSpec.upto frameOverSpec)

/-- 'septumlaw04.SeqBack', WHERE WHAT IT READS IS OF BULK AT MOST 1048576: true; the input reads as it did. -/
def seqBackUptoRow : OpenClaim := { program := "ytkmamebaichboaa", sum := "8ce9cce4d45ccd91df1975bce2c5ec8683b0ade20fc170242c7eef0ccd251009", func := "septum/septumlaw04.SeqBack", spec := "seqBack", unfollowed := true, recurses := true, apart := false, narrowed := true }
def SeqBackUptoSaid : Prop := seqBackUptoRow.holds Try.pinned (OpenSpec.upto seqBackSpec)

/-- 'septumlaw04.SeqCounts', WHERE WHAT IT READS IS OF BULK AT MOST 1048576: true; the input reads as it did. -/
def seqCountsUptoRow : OpenClaim := { program := "ytkmamebaichboaa", sum := "8ce9cce4d45ccd91df1975bce2c5ec8683b0ade20fc170242c7eef0ccd251009", func := "septum/septumlaw04.SeqCounts", spec := "seqCounts", unfollowed := true, recurses := true, apart := false, narrowed := true }
def SeqCountsUptoSaid : Prop := seqCountsUptoRow.holds Try.pinned (OpenSpec.upto seqCountsSpec)

/-- 'septumlaw08.RingCosts', WHERE WHAT IT READS IS OF BULK AT MOST 1048576: true; the input reads as it did. -/
def ringCostsUptoRow : OpenClaim := { program := "ytkmamebaichboaa", sum := "8ce9cce4d45ccd91df1975bce2c5ec8683b0ade20fc170242c7eef0ccd251009", func := "septum/septumlaw08.RingCosts", spec := "ringCosts", unfollowed := true, recurses := true, apart := false, narrowed := true }
def RingCostsUptoSaid : Prop := ringCostsUptoRow.holds Try.pinned (OpenSpec.upto ringCostsSpec)

/-- 'septumlaw04.SeqTurns', WHERE WHAT IT READS IS OF BULK AT MOST 1048576: true; the input reads as it did. -/
def seqTurnsUptoRow : OpenClaim := { program := "ytkmamebaichboaa", sum := "8ce9cce4d45ccd91df1975bce2c5ec8683b0ade20fc170242c7eef0ccd251009", func := "septum/septumlaw04.SeqTurns", spec := "seqTurns", unfollowed := true, recurses := true, apart := false, narrowed := true }
def SeqTurnsUptoSaid : Prop := seqTurnsUptoRow.holds Try.pinned (OpenSpec.upto seqTurnsSpec)

/-- 'septumlaw02.FrameSteps', WHERE WHAT IT READS IS OF BULK AT MOST 1048576: true; the input reads as it did. -/
def frameStepsUptoRow : OpenClaim := { program := "ytkmamebaichboaa", sum := "8ce9cce4d45ccd91df1975bce2c5ec8683b0ade20fc170242c7eef0ccd251009", func := "septum/septumlaw02.FrameSteps", spec := "frameSteps", unfollowed := true, recurses := true, apart := false, narrowed := true }
def FrameStepsUptoSaid : Prop := frameStepsUptoRow.holds Try.pinned (OpenSpec.upto frameStepsSpec)

/-- 'septumlaw02.FrameRuns', WHERE WHAT IT READS IS OF BULK AT MOST 1048576: true; the input reads as it did. -/
def frameRunsUptoRow : OpenClaim := { program := "ytkmamebaichboaa", sum := "8ce9cce4d45ccd91df1975bce2c5ec8683b0ade20fc170242c7eef0ccd251009", func := "septum/septumlaw02.FrameRuns", spec := "frameRuns", unfollowed := true, recurses := true, apart := false, narrowed := true }
def FrameRunsUptoSaid : Prop := frameRunsUptoRow.holds Try.pinned (OpenSpec.upto frameRunsSpec)

/-- 'septumlaw08.RingSizes', WHERE WHAT IT READS IS OF BULK AT MOST 1048576: true; the input reads as it did. -/
def ringSizesUptoRow : OpenClaim := { program := "ytkmamebaichboaa", sum := "8ce9cce4d45ccd91df1975bce2c5ec8683b0ade20fc170242c7eef0ccd251009", func := "septum/septumlaw08.RingSizes", spec := "ringSizes", unfollowed := true, recurses := true, apart := false, narrowed := true }
def RingSizesUptoSaid : Prop := ringSizesUptoRow.holds Try.pinned (OpenSpec.upto ringSizesSpec)

/-- 'septumlaw09.BlockSizes', WHERE WHAT IT READS IS OF BULK AT MOST 1048576: true; the input reads as it did. -/
def blockSizesUptoRow : OpenClaim := { program := "ytkmamebaichboaa", sum := "8ce9cce4d45ccd91df1975bce2c5ec8683b0ade20fc170242c7eef0ccd251009", func := "septum/septumlaw09.BlockSizes", spec := "blockSizes", unfollowed := true, recurses := true, apart := false, narrowed := true }
def BlockSizesUptoSaid : Prop := blockSizesUptoRow.holds Try.pinned (OpenSpec.upto blockSizesSpec)

/-- 'septumlaw07.DeltaLong', WHERE WHAT IT READS IS OF BULK AT MOST 1048576: true; the input reads as it did. -/
def deltaLongUptoRow : OpenClaim := { program := "ytkmamebaichboaa", sum := "8ce9cce4d45ccd91df1975bce2c5ec8683b0ade20fc170242c7eef0ccd251009", func := "septum/septumlaw07.DeltaLong", spec := "deltaLong", unfollowed := true, recurses := true, apart := false, narrowed := true }
def DeltaLongUptoSaid : Prop := deltaLongUptoRow.holds Try.pinned (OpenSpec.upto deltaLongSpec)

/-- 'septumlaw06.QueueOdd', WHERE WHAT IT READS IS OF BULK AT MOST 1048576: true; the input reads as it did. -/
def queueOddUptoRow : OpenClaim := { program := "ytkmamebaichboaa", sum := "8ce9cce4d45ccd91df1975bce2c5ec8683b0ade20fc170242c7eef0ccd251009", func := "septum/septumlaw06.QueueOdd", spec := "queueOdd", unfollowed := true, recurses := true, apart := false, narrowed := true }
def QueueOddUptoSaid : Prop := queueOddUptoRow.holds Try.pinned (OpenSpec.upto queueOddSpec)

end Rows
end Go.Proofs.Ytkmamebaichboaa
