/-
  No cell of these rows narrows 'for every input' (looked for: loops, veiled, ifaces, maps, wideKeys, modest, calm, conditions, laid).
  DERIVED. THE GIVEN ROWS OF THIS SEAT. 9 by the template 'for every input the law returns true; each argument reads behind the call as it read before'; 0 by the template 'total and deterministic' (their statements: YtalegacniijpkaaTotals.lean).
  GIVEN WITH THE SEED: the statements are not yours to turn. If you find one false, say at which input.
  Laid BY PROGRAM, IN A SANDBOX (cutbox-rows.mjs): the forced cells as the released guide's own fill.sh prints them over the translation 11bfd61dffebdc9c… (all of the seat's roots in one cut). By AI agents, Wed Nov 11 2026. No macro, syntax, notation, axiom, sorry.
-/
import Derived.Test.YtalegacniijpkaaChecked
import GoSem.Claim
import GoSem.ClaimJoined
import GoSem.ClaimMapViews
import Derived.JoinedTies
import Derived.KernelRfl
namespace Go.Proofs.Ytalegacniijpkaa
/- THE CELL 'sum', in the pinned program and in every row, IS THE sha256 OF THE DUMP (.gsa) THAT YtalegacniijpkaaProg.lean LOADS. Nothing in Lean hashes anything: it is a label: what it is worth is what the hold of that sum in a sandbox is worth. -/
noncomputable def Try.pinned : Pinned := { name := "ytalegacniijpkaa", sum := "11bfd61dffebdc9c25c5c60f380c8fdd234cbc9becbe379448d86ffe89e6d5d9", checked := Try.checked }
namespace Rows
def none {H : Type} : Left H := { results := [], args := [] }

/-- 'septumlaw01.WordSizes': WHATEVER THE INPUT: true; the input reads as it did. -/
def wordSizesSpec : ChangeSpec := { name := "wordSizes", fn := fun _ => fun
  | [d] => { results := [.lit (.bool true)], args := [d] }
  | _ => none }
def wordSizesRow : OpenClaim := { program := "ytalegacniijpkaa", sum := "11bfd61dffebdc9c25c5c60f380c8fdd234cbc9becbe379448d86ffe89e6d5d9", func := "septum/septumlaw01.WordSizes", spec := "wordSizes", apart := false }
def WordSizesSaid : Prop := wordSizesRow.holds Try.pinned (OpenSpec.ofChange wordSizesSpec)

/-- ITS FALSE NEIGHBOUR: 'it returns false'. Refute it at one input. -/
def wordSizesWrong : ChangeSpec := { name := "wordSizes", fn := fun _ => fun
  | [d] => { results := [.lit (.bool false)], args := [d] }
  | _ => none }
def WordSizesWrongFalsely : Prop := wordSizesRow.holds Try.pinned (OpenSpec.ofChange wordSizesWrong)

/-- 'septumlaw28.WindowTicks': WHATEVER THE INPUT: true; the input reads as it did. -/
def windowTicksSpec : ChangeSpec := { name := "windowTicks", fn := fun _ => fun
  | [d1, d2] => { results := [.lit (.bool true)], args := [d1, d2] }
  | _ => none }
def windowTicksRow : OpenClaim := { program := "ytalegacniijpkaa", sum := "11bfd61dffebdc9c25c5c60f380c8fdd234cbc9becbe379448d86ffe89e6d5d9", func := "septum/septumlaw28.WindowTicks", spec := "windowTicks", apart := false }
def WindowTicksSaid : Prop := windowTicksRow.holds Try.pinned (OpenSpec.ofChange windowTicksSpec)

/-- ITS FALSE NEIGHBOUR: 'it returns false'. Refute it at one input. -/
def windowTicksWrong : ChangeSpec := { name := "windowTicks", fn := fun _ => fun
  | [d1, d2] => { results := [.lit (.bool false)], args := [d1, d2] }
  | _ => none }
def WindowTicksWrongFalsely : Prop := windowTicksRow.holds Try.pinned (OpenSpec.ofChange windowTicksWrong)

/-- 'septumlaw28.WindowNil': WHATEVER THE INPUT: true; the input reads as it did. -/
def windowNilSpec : ChangeSpec := { name := "windowNil", fn := fun _ => fun
  | [d] => { results := [.lit (.bool true)], args := [d] }
  | _ => none }
def windowNilRow : OpenClaim := { program := "ytalegacniijpkaa", sum := "11bfd61dffebdc9c25c5c60f380c8fdd234cbc9becbe379448d86ffe89e6d5d9", func := "septum/septumlaw28.WindowNil", spec := "windowNil", apart := false }
def WindowNilSaid : Prop := windowNilRow.holds Try.pinned (OpenSpec.ofChange windowNilSpec)

/-- ITS FALSE NEIGHBOUR: 'it returns false'. Refute it at one input. -/
def windowNilWrong : ChangeSpec := { name := "windowNil", fn := fun _ => fun
  | [d] => { results := [.lit (.bool false)], args := [d] }
  | _ => none }
def WindowNilWrongFalsely : Prop := windowNilRow.holds Try.pinned (OpenSpec.ofChange windowNilWrong)

/-- 'septumlaw28.WindowFrame': WHATEVER THE INPUT: true; the input reads as it did. -/
def windowFrameSpec : ChangeSpec := { name := "windowFrame", fn := fun _ => fun
  | [d1, d2, d3] => { results := [.lit (.bool true)], args := [d1, d2, d3] }
  | _ => none }
def windowFrameRow : OpenClaim := { program := "ytalegacniijpkaa", sum := "11bfd61dffebdc9c25c5c60f380c8fdd234cbc9becbe379448d86ffe89e6d5d9", func := "septum/septumlaw28.WindowFrame", spec := "windowFrame", apart := false }
def WindowFrameSaid : Prop := windowFrameRow.holds Try.pinned (OpenSpec.ofChange windowFrameSpec)

/-- ITS FALSE NEIGHBOUR: 'it returns false'. Refute it at one input. -/
def windowFrameWrong : ChangeSpec := { name := "windowFrame", fn := fun _ => fun
  | [d1, d2, d3] => { results := [.lit (.bool false)], args := [d1, d2, d3] }
  | _ => none }
def WindowFrameWrongFalsely : Prop := windowFrameRow.holds Try.pinned (OpenSpec.ofChange windowFrameWrong)

/-- 'septumlaw28.WindowAt': WHATEVER THE INPUT: true; the input reads as it did. -/
def windowAtSpec : ChangeSpec := { name := "windowAt", fn := fun _ => fun
  | [d1, d2, d3] => { results := [.lit (.bool true)], args := [d1, d2, d3] }
  | _ => none }
def windowAtRow : OpenClaim := { program := "ytalegacniijpkaa", sum := "11bfd61dffebdc9c25c5c60f380c8fdd234cbc9becbe379448d86ffe89e6d5d9", func := "septum/septumlaw28.WindowAt", spec := "windowAt", apart := false }
def WindowAtSaid : Prop := windowAtRow.holds Try.pinned (OpenSpec.ofChange windowAtSpec)

/-- ITS FALSE NEIGHBOUR: 'it returns false'. Refute it at one input. -/
def windowAtWrong : ChangeSpec := { name := "windowAt", fn := fun _ => fun
  | [d1, d2, d3] => { results := [.lit (.bool false)], args := [d1, d2, d3] }
  | _ => none }
def WindowAtWrongFalsely : Prop := windowAtRow.holds Try.pinned (OpenSpec.ofChange windowAtWrong)

/-- 'septumlaw01.WordPlays': WHATEVER THE INPUT: true; the input reads as it did. -/
def wordPlaysSpec : ChangeSpec := { name := "wordPlays", fn := fun _ => fun
  | [d1, d2] => { results := [.lit (.bool true)], args := [d1, d2] }
  | _ => none }
def wordPlaysRow : OpenClaim := { program := "ytalegacniijpkaa", sum := "11bfd61dffebdc9c25c5c60f380c8fdd234cbc9becbe379448d86ffe89e6d5d9", func := "septum/septumlaw01.WordPlays", spec := "wordPlays", apart := false }
def WordPlaysSaid : Prop := wordPlaysRow.holds Try.pinned (OpenSpec.ofChange wordPlaysSpec)

/-- ITS FALSE NEIGHBOUR: 'it returns false'. Refute it at one input. -/
def wordPlaysWrong : ChangeSpec := { name := "wordPlays", fn := fun _ => fun
  | [d1, d2] => { results := [.lit (.bool false)], args := [d1, d2] }
  | _ => none }
def WordPlaysWrongFalsely : Prop := wordPlaysRow.holds Try.pinned (OpenSpec.ofChange wordPlaysWrong)

/-- 'septumlaw01.WordKeeps': WHATEVER THE INPUT: true; the input reads as it did. -/
def wordKeepsSpec : ChangeSpec := { name := "wordKeeps", fn := fun _ => fun
  | [d1, d2] => { results := [.lit (.bool true)], args := [d1, d2] }
  | _ => none }
def wordKeepsRow : OpenClaim := { program := "ytalegacniijpkaa", sum := "11bfd61dffebdc9c25c5c60f380c8fdd234cbc9becbe379448d86ffe89e6d5d9", func := "septum/septumlaw01.WordKeeps", spec := "wordKeeps", apart := false }
def WordKeepsSaid : Prop := wordKeepsRow.holds Try.pinned (OpenSpec.ofChange wordKeepsSpec)

/-- ITS FALSE NEIGHBOUR: 'it returns false'. Refute it at one input. -/
def wordKeepsWrong : ChangeSpec := { name := "wordKeeps", fn := fun _ => fun
  | [d1, d2] => { results := [.lit (.bool false)], args := [d1, d2] }
  | _ => none }
def WordKeepsWrongFalsely : Prop := wordKeepsRow.holds Try.pinned (OpenSpec.ofChange wordKeepsWrong)

/-- 'septumlaw01.WordNil': WHATEVER THE INPUT: true; the input reads as it did. -/
def wordNilSpec : ChangeSpec := { name := "wordNil", fn := fun _ => fun
  | [d] => { results := [.lit (.bool true)], args := [d] }
  | _ => none }
def wordNilRow : OpenClaim := { program := "ytalegacniijpkaa", sum := "11bfd61dffebdc9c25c5c60f380c8fdd234cbc9becbe379448d86ffe89e6d5d9", func := "septum/septumlaw01.WordNil", spec := "wordNil", apart := false }
def WordNilSaid : Prop := wordNilRow.holds Try.pinned (OpenSpec.ofChange wordNilSpec)

/-- ITS FALSE NEIGHBOUR: 'it returns false'. Refute it at one input. -/
def wordNilWrong : ChangeSpec := { name := "wordNil", fn := fun _ => fun
  | [d] => { results := [.lit (.bool false)], args := [d] }
  | _ => none }
def WordNilWrongFalsely : Prop := wordNilRow.holds Try.pinned (OpenSpec.ofChange wordNilWrong)

/-- 'septumlaw01.WordApart': WHATEVER THE INPUT: true; the input reads as it did. -/
def wordApartSpec : ChangeSpec := { name := "wordApart", fn := fun _ => fun
  | [d1, d2, d3] => { results := [.lit (.bool true)], args := [d1, d2, d3] }
  | _ => none }
def wordApartRow : OpenClaim := { program := "ytalegacniijpkaa", sum := "11bfd61dffebdc9c25c5c60f380c8fdd234cbc9becbe379448d86ffe89e6d5d9", func := "septum/septumlaw01.WordApart", spec := "wordApart", apart := false }
def WordApartSaid : Prop := wordApartRow.holds Try.pinned (OpenSpec.ofChange wordApartSpec)

/-- ITS FALSE NEIGHBOUR: 'it returns false'. Refute it at one input. -/
def wordApartWrong : ChangeSpec := { name := "wordApart", fn := fun _ => fun
  | [d1, d2, d3] => { results := [.lit (.bool false)], args := [d1, d2, d3] }
  | _ => none }
def WordApartWrongFalsely : Prop := wordApartRow.holds Try.pinned (OpenSpec.ofChange wordApartWrong)

/- THE SECOND FORM. 'bulk': how many values and letters a reading holds, each counted each time it is reached (what is shared counts as often as it is met; a slice's spare places count too). A statement '..UptoSaid' is the law's where the arguments, and the package variables that the reading takes, are together of bulk at most 1048576: NARROWER than '..Said'. Prove '..Said' where nothing that the law and all that it calls make is longer than what came in: it says more and counts as full. Else prove '..UptoSaid'. A law counts once. -/
mutual
def uptoBulk {H : Type} : DataW H → Nat
  | .lit (.string bytes) => bytes.length + 1
  | .lit _ => 1
  | .nil => 1
  | .ptr d => uptoBulk d + 1
  | .slice elems spare => uptoBulkAll elems + uptoBulkAll spare + 1
  | .agg parts => uptoBulkAll parts + 1
  | .iface _ d => uptoBulk d + 1
  | .map entries => uptoBulkEntries entries + 1
  | .held _ => 1
def uptoBulkAll {H : Type} : List (DataW H) → Nat
  | [] => 0
  | d :: r => uptoBulk d + uptoBulkAll r
def uptoBulkEntries {H : Type} : List (Lit × DataW H) → Nat
  | [] => 0
  | x :: r => uptoBulkEntry x + uptoBulkEntries r
def uptoBulkEntry {H : Type} : Lit × DataW H → Nat
  | (.string bytes, d) => bytes.length + uptoBulk d + 1
  | (_, d) => uptoBulk d + 1
 end
def uptoSmall : (H : Type) → List (DataW H) → Bool := fun _ ds => decide (uptoBulkAll ds ≤ 1048576)
def OpenSpec.upto (s : _root_.Go.ChangeSpec) : _root_.Go.OpenSpec := { _root_.Go.OpenSpec.ofChange s with cond := some uptoSmall }

/-- 'septumlaw01.WordSizes', WHERE WHAT IT READS IS OF BULK AT MOST 1048576: true; the input reads as it did. -/
def wordSizesUptoRow : OpenClaim := { program := "ytalegacniijpkaa", sum := "11bfd61dffebdc9c25c5c60f380c8fdd234cbc9becbe379448d86ffe89e6d5d9", func := "septum/septumlaw01.WordSizes", spec := "wordSizes", apart := false, narrowed := true }
def WordSizesUptoSaid : Prop := wordSizesUptoRow.holds Try.pinned (OpenSpec.upto wordSizesSpec)

/-- 'septumlaw28.WindowTicks', WHERE WHAT IT READS IS OF BULK AT MOST 1048576: true; the input reads as it did. -/
def windowTicksUptoRow : OpenClaim := { program := "ytalegacniijpkaa", sum := "11bfd61dffebdc9c25c5c60f380c8fdd234cbc9becbe379448d86ffe89e6d5d9", func := "septum/septumlaw28.WindowTicks", spec := "windowTicks", apart := false, narrowed := true }
def WindowTicksUptoSaid : Prop := windowTicksUptoRow.holds Try.pinned (OpenSpec.upto windowTicksSpec)

/-- 'septumlaw28.WindowNil', WHERE WHAT IT READS IS OF BULK AT MOST 1048576: true; the input reads as it did. -/
def windowNilUptoRow : OpenClaim := { program := "ytalegacniijpkaa", sum := "11bfd61dffebdc9c25c5c60f380c8fdd234cbc9becbe379448d86ffe89e6d5d9", func := "septum/septumlaw28.WindowNil", spec := "windowNil", apart := false, narrowed := true }
def WindowNilUptoSaid : Prop := windowNilUptoRow.holds Try.pinned (OpenSpec.upto windowNilSpec)

/-- 'septumlaw28.WindowFrame', WHERE WHAT IT READS IS OF BULK AT MOST 1048576: true; the input reads as it did. -/
def windowFrameUptoRow : OpenClaim := { program := "ytalegacniijpkaa", sum := "11bfd61dffebdc9c25c5c60f380c8fdd234cbc9becbe379448d86ffe89e6d5d9", func := "septum/septumlaw28.WindowFrame", spec := "windowFrame", apart := false, narrowed := true }
def WindowFrameUptoSaid : Prop := windowFrameUptoRow.holds Try.pinned (OpenSpec.upto windowFrameSpec)

/-- 'septumlaw28.WindowAt', WHERE WHAT IT READS IS OF BULK AT MOST 1048576: true; the input reads as it did. -/
def windowAtUptoRow : OpenClaim := { program := "ytalegacniijpkaa", sum := "11bfd61dffebdc9c25c5c60f380c8fdd234cbc9becbe379448d86ffe89e6d5d9", func := "septum/septumlaw28.WindowAt", spec := "windowAt", apart := false, narrowed := true }
def WindowAtUptoSaid : Prop := windowAtUptoRow.holds Try.pinned (OpenSpec.upto windowAtSpec)

/-- 'septumlaw01.WordPlays', WHERE WHAT IT READS IS OF BULK AT MOST 1048576: true; the input reads as it did. -/
def wordPlaysUptoRow : OpenClaim := { program := "ytalegacniijpkaa", sum := "11bfd61dffebdc9c25c5c60f380c8fdd234cbc9becbe379448d86ffe89e6d5d9", func := "septum/septumlaw01.WordPlays", spec := "wordPlays", apart := false, narrowed := true }
def WordPlaysUptoSaid : Prop := wordPlaysUptoRow.holds Try.pinned (OpenSpec.upto wordPlaysSpec)

/-- 'septumlaw01.WordKeeps', WHERE WHAT IT READS IS OF BULK AT MOST 1048576: true; the input reads as it did. -/
def wordKeepsUptoRow : OpenClaim := { program := "ytalegacniijpkaa", sum := "11bfd61dffebdc9c25c5c60f380c8fdd234cbc9becbe379448d86ffe89e6d5d9", func := "septum/septumlaw01.WordKeeps", spec := "wordKeeps", apart := false, narrowed := true }
def WordKeepsUptoSaid : Prop := wordKeepsUptoRow.holds Try.pinned (OpenSpec.upto wordKeepsSpec)

/-- 'septumlaw01.WordNil', WHERE WHAT IT READS IS OF BULK AT MOST 1048576: true; the input reads as it did. -/
def wordNilUptoRow : OpenClaim := { program := "ytalegacniijpkaa", sum := "11bfd61dffebdc9c25c5c60f380c8fdd234cbc9becbe379448d86ffe89e6d5d9", func := "septum/septumlaw01.WordNil", spec := "wordNil", apart := false, narrowed := true }
def WordNilUptoSaid : Prop := wordNilUptoRow.holds Try.pinned (OpenSpec.upto wordNilSpec)

/-- 'septumlaw01.WordApart', WHERE WHAT IT READS IS OF BULK AT MOST 1048576: true; the input reads as it did. -/
def wordApartUptoRow : OpenClaim := { program := "ytalegacniijpkaa", sum := "11bfd61dffebdc9c25c5c60f380c8fdd234cbc9becbe379448d86ffe89e6d5d9", func := "septum/septumlaw01.WordApart", spec := "wordApart", apart := false, narrowed := true }
def WordApartUptoSaid : Prop := wordApartUptoRow.holds Try.pinned (OpenSpec.upto wordApartSpec)

end Rows
end Go.Proofs.Ytalegacniijpkaa
