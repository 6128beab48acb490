/-
  NARROWER THAN 'FOR EVERY INPUT', by the rows' own cells (each row's printed sentence says how): CallNames: laid · CallChecks: laid · CallCaps: laid · CallObjects: laid.
  DERIVED. THE GIVEN ROWS OF THIS SEAT. 4 by the template 'for every input the law returns true; each argument reads behind the call as it read before'; 0 by the template 'total and deterministic' (their statements: YtkmpajdiedpfhaaDoorTotals.lean).
  GIVEN WITH THE SEED: the statements are not yours to turn. If you find one false, say at which input.
  Laid BY PROGRAM, IN A SANDBOX (cutbox-rows.mjs): the forced cells as the released guide's own fill.sh prints them over the translation 5542633f6be00ea4… (all of the seat's roots in one cut). By AI agents, Wed Nov 11 2026. No macro, syntax, notation, axiom, sorry.
-/
import Derived.Test.YtkmpajdiedpfhaaDoorChecked
import GoSem.Claim
import GoSem.ClaimJoined
import GoSem.ClaimMapViews
import Derived.JoinedTies
import Derived.KernelRfl
namespace Go.Proofs.YtkmpajdiedpfhaaDoor
/- THE CELL 'sum', in the pinned program and in every row, IS THE sha256 OF THE DUMP (.gsa) THAT YtkmpajdiedpfhaaDoorProg.lean LOADS. Nothing in Lean hashes anything: it is a label: what it is worth is what the hold of that sum in a sandbox is worth. -/
noncomputable def Tryd.pinned : Pinned := { name := "ytkmpajdiedpfhaadoor", sum := "5542633f6be00ea4f09eb7a66aaf6afb236aba7e2810a680c16de5c05fd0d839", checked := Tryd.checked }
namespace Rows
def none {H : Type} : Left H := { results := [], args := [] }

/- WHAT THE LISTED PACKAGE-LEVEL VARIABLES READ AS WHEN THE CALL BEGINS. Each datum BY PROGRAM (the guide's laid-datum.mjs) off the statement by which the dump's own 'gosem.cut.vars' lays the variable. In a bare row this is a premise. The card (YtkmpajdiedpfhaaDoorCards.lean) ties it to the program's text. -/
def laid_septum_call_names {H : Type} : DataW H := .agg [.lit (.string [110, 111, 112]), .lit (.string [121, 105, 101, 108, 100]), .lit (.string [115, 108, 101, 101, 112]), .lit (.string [112, 114, 105, 111, 114, 105, 116, 121]), .lit (.string [115, 117, 115, 112, 101, 110, 100]), .lit (.string [114, 101, 115, 117, 109, 101]), .lit (.string [108, 111, 99, 107]), .lit (.string [117, 110, 108, 111, 99, 107]), .lit (.string [97, 99, 113, 117, 105, 114, 101]), .lit (.string [114, 101, 108, 101, 97, 115, 101]), .lit (.string [115, 101, 110, 100]), .lit (.string [114, 101, 99, 101, 105, 118, 101]), .lit (.string [99, 111, 117, 110, 116]), .lit (.string [115, 101, 116]), .lit (.string [99, 108, 101, 97, 114]), .lit (.string [97, 119, 97, 105, 116]), .lit (.string [116, 97, 107, 101]), .lit (.string [103, 105, 118, 101]), .lit (.string [119, 114, 105, 116, 101]), .lit (.string [114, 101, 97, 100]), .lit (.string [112, 111, 115, 116]), .lit (.string [102, 101, 116, 99, 104]), .lit (.string [114, 101, 115, 101, 116]), .lit (.string [99, 108, 111, 99, 107])]

/-- 'septumlaw24.CallNames': WHATEVER THE INPUT: true; the input reads as it did. -/
def callNamesSpec : ChangeSpec := { name := "callNames", fn := fun _ => fun
  | [d] => { results := [.lit (.bool true)], args := [d] }
  | _ => none }
def callNamesRow : OpenClaim := { program := "ytkmpajdiedpfhaadoor", sum := "5542633f6be00ea4f09eb7a66aaf6afb236aba7e2810a680c16de5c05fd0d839", func := "septum/septumlaw24.CallNames", spec := "callNames", named := ["septum/call.names"], apart := false, laid := [("septum/call.names", laid_septum_call_names)] }
def CallNamesSaid : Prop := callNamesRow.holds Tryd.pinned (OpenSpec.ofChange callNamesSpec)

/-- ITS FALSE NEIGHBOUR: 'it returns false'. Refute it at one input. -/
def callNamesWrong : ChangeSpec := { name := "callNames", fn := fun _ => fun
  | [d] => { results := [.lit (.bool false)], args := [d] }
  | _ => none }
def CallNamesWrongFalsely : Prop := callNamesRow.holds Tryd.pinned (OpenSpec.ofChange callNamesWrong)

/-- 'septumlaw24.CallChecks': WHATEVER THE INPUT: true; the input reads as it did. -/
def callChecksSpec : ChangeSpec := { name := "callChecks", fn := fun _ => fun
  | [d1, d2, d3] => { results := [.lit (.bool true)], args := [d1, d2, d3] }
  | _ => none }
def callChecksRow : OpenClaim := { program := "ytkmpajdiedpfhaadoor", sum := "5542633f6be00ea4f09eb7a66aaf6afb236aba7e2810a680c16de5c05fd0d839", func := "septum/septumlaw24.CallChecks", spec := "callChecks", named := ["septum/call.names"], apart := false, laid := [("septum/call.names", laid_septum_call_names)] }
def CallChecksSaid : Prop := callChecksRow.holds Tryd.pinned (OpenSpec.ofChange callChecksSpec)

/-- ITS FALSE NEIGHBOUR: 'it returns false'. Refute it at one input. -/
def callChecksWrong : ChangeSpec := { name := "callChecks", fn := fun _ => fun
  | [d1, d2, d3] => { results := [.lit (.bool false)], args := [d1, d2, d3] }
  | _ => none }
def CallChecksWrongFalsely : Prop := callChecksRow.holds Tryd.pinned (OpenSpec.ofChange callChecksWrong)

/-- 'septumlaw24.CallCaps': WHATEVER THE INPUT: true; the input reads as it did. -/
def callCapsSpec : ChangeSpec := { name := "callCaps", fn := fun _ => fun
  | [d1, d2, d3] => { results := [.lit (.bool true)], args := [d1, d2, d3] }
  | _ => none }
def callCapsRow : OpenClaim := { program := "ytkmpajdiedpfhaadoor", sum := "5542633f6be00ea4f09eb7a66aaf6afb236aba7e2810a680c16de5c05fd0d839", func := "septum/septumlaw24.CallCaps", spec := "callCaps", named := ["septum/call.names"], apart := false, laid := [("septum/call.names", laid_septum_call_names)] }
def CallCapsSaid : Prop := callCapsRow.holds Tryd.pinned (OpenSpec.ofChange callCapsSpec)

/-- ITS FALSE NEIGHBOUR: 'it returns false'. Refute it at one input. -/
def callCapsWrong : ChangeSpec := { name := "callCaps", fn := fun _ => fun
  | [d1, d2, d3] => { results := [.lit (.bool false)], args := [d1, d2, d3] }
  | _ => none }
def CallCapsWrongFalsely : Prop := callCapsRow.holds Tryd.pinned (OpenSpec.ofChange callCapsWrong)

/-- 'septumlaw24.CallObjects': WHATEVER THE INPUT: true; the input reads as it did. -/
def callObjectsSpec : ChangeSpec := { name := "callObjects", fn := fun _ => fun
  | [d1, d2] => { results := [.lit (.bool true)], args := [d1, d2] }
  | _ => none }
def callObjectsRow : OpenClaim := { program := "ytkmpajdiedpfhaadoor", sum := "5542633f6be00ea4f09eb7a66aaf6afb236aba7e2810a680c16de5c05fd0d839", func := "septum/septumlaw24.CallObjects", spec := "callObjects", named := ["septum/call.names"], apart := false, laid := [("septum/call.names", laid_septum_call_names)] }
def CallObjectsSaid : Prop := callObjectsRow.holds Tryd.pinned (OpenSpec.ofChange callObjectsSpec)

/-- ITS FALSE NEIGHBOUR: 'it returns false'. Refute it at one input. -/
def callObjectsWrong : ChangeSpec := { name := "callObjects", fn := fun _ => fun
  | [d1, d2] => { results := [.lit (.bool false)], args := [d1, d2] }
  | _ => none }
def CallObjectsWrongFalsely : Prop := callObjectsRow.holds Tryd.pinned (OpenSpec.ofChange callObjectsWrong)

/- THE SECOND FORM. 'bulk': how many values and letters a reading holds, each counted each time it is reached (what is shared counts as often as it is met; a slice's spare places count too). A statement '..UptoSaid' is the law's where the arguments, and the package variables that the reading takes, are together of bulk at most 1048576: NARROWER than '..Said'. Prove '..Said' where nothing that the law and all that it calls make is longer than what came in: it says more and counts as full. Else prove '..UptoSaid'. A law counts once. -/
mutual
def uptoBulk {H : Type} : DataW H → Nat
  | .lit (.string bytes) => bytes.length + 1
  | .lit _ => 1
  | .nil => 1
  | .ptr d => uptoBulk d + 1
  | .slice elems spare => uptoBulkAll elems + uptoBulkAll spare + 1
  | .agg parts => uptoBulkAll parts + 1
  | .iface _ d => uptoBulk d + 1
  | .map entries => uptoBulkEntries entries + 1
  | .held _ => 1
def uptoBulkAll {H : Type} : List (DataW H) → Nat
  | [] => 0
  | d :: r => uptoBulk d + uptoBulkAll r
def uptoBulkEntries {H : Type} : List (Lit × DataW H) → Nat
  | [] => 0
  | x :: r => uptoBulkEntry x + uptoBulkEntries r
def uptoBulkEntry {H : Type} : Lit × DataW H → Nat
  | (.string bytes, d) => bytes.length + uptoBulk d + 1
  | (_, d) => uptoBulk d + 1
 end
def uptoSmall : (H : Type) → List (DataW H) → Bool := fun _ ds => decide (uptoBulkAll ds ≤ 1048576)
def OpenSpec.upto (s : _root_.Go.ChangeSpec) : _root_.Go.OpenSpec := { _root_.Go.OpenSpec.ofChange s with cond := some uptoSmall }

/-- 'septumlaw24.CallNames', WHERE WHAT IT READS IS OF BULK AT MOST 1048576: true; the input reads as it did. -/
def callNamesUptoRow : OpenClaim := { program := "ytkmpajdiedpfhaadoor", sum := "5542633f6be00ea4f09eb7a66aaf6afb236aba7e2810a680c16de5c05fd0d839", func := "septum/septumlaw24.CallNames", spec := "callNames", named := ["septum/call.names"], apart := false, laid := [("septum/call.names", laid_septum_call_names)], narrowed := true }
def CallNamesUptoSaid : Prop := callNamesUptoRow.holds Tryd.pinned (OpenSpec.upto callNamesSpec)

/-- 'septumlaw24.CallChecks', WHERE WHAT IT READS IS OF BULK AT MOST 1048576: true; the input reads as it did. -/
def callChecksUptoRow : OpenClaim := { program := "ytkmpajdiedpfhaadoor", sum := "5542633f6be00ea4f09eb7a66aaf6afb236aba7e2810a680c16de5c05fd0d839", func := "septum/septumlaw24.CallChecks", spec := "callChecks", named := ["septum/call.names"], apart := false, laid := [("septum/call.names", laid_septum_call_names)], narrowed := true }
def CallChecksUptoSaid : Prop := callChecksUptoRow.holds Tryd.pinned (OpenSpec.upto callChecksSpec)

/-- 'septumlaw24.CallCaps', WHERE WHAT IT READS IS OF BULK AT MOST 1048576: true; the input reads as it did. -/
def callCapsUptoRow : OpenClaim := { program := "ytkmpajdiedpfhaadoor", sum := "5542633f6be00ea4f09eb7a66aaf6afb236aba7e2810a680c16de5c05fd0d839", func := "septum/septumlaw24.CallCaps", spec := "callCaps", named := ["septum/call.names"], apart := false, laid := [("septum/call.names", laid_septum_call_names)], narrowed := true }
def CallCapsUptoSaid : Prop := callCapsUptoRow.holds Tryd.pinned (OpenSpec.upto callCapsSpec)

/-- 'septumlaw24.CallObjects', WHERE WHAT IT READS IS OF BULK AT MOST 1048576: true; the input reads as it did. -/
def callObjectsUptoRow : OpenClaim := { program := "ytkmpajdiedpfhaadoor", sum := "5542633f6be00ea4f09eb7a66aaf6afb236aba7e2810a680c16de5c05fd0d839", func := "septum/septumlaw24.CallObjects", spec := "callObjects", named := ["septum/call.names"], apart := false, laid := [("septum/call.names", laid_septum_call_names)], narrowed := true }
def CallObjectsUptoSaid : Prop := callObjectsUptoRow.holds Tryd.pinned (OpenSpec.upto callObjectsSpec)

end Rows
end Go.Proofs.YtkmpajdiedpfhaaDoor
