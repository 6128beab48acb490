/-
  No cell of these rows narrows 'for every input' (looked for: loops, veiled, ifaces, maps, wideKeys, modest, calm, conditions, laid).
  DERIVED. THE GIVEN ROWS OF THIS SEAT. 7 by the template 'for every input the law returns true; each argument reads behind the call as it read before'; 0 by the template 'total and deterministic' (their statements: YtkmpajdiedpfhaaTotals.lean).
  GIVEN WITH THE SEED: the statements are not yours to turn. If you find one false, say at which input.
  Laid BY PROGRAM, IN A SANDBOX (cutbox-rows.mjs): the forced cells as the released guide's own fill.sh prints them over the translation 90dd609e606f1b3a… (all of the seat's roots in one cut). By AI agents, Wed Nov 11 2026. No macro, syntax, notation, axiom, sorry.
-/
import Derived.Test.YtkmpajdiedpfhaaChecked
import GoSem.Claim
import GoSem.ClaimJoined
import GoSem.ClaimMapViews
import Derived.JoinedTies
import Derived.KernelRfl
namespace Go.Proofs.Ytkmpajdiedpfhaa
/- THE CELL 'sum', in the pinned program and in every row, IS THE sha256 OF THE DUMP (.gsa) THAT YtkmpajdiedpfhaaProg.lean LOADS. Nothing in Lean hashes anything: it is a label: what it is worth is what the hold of that sum in a sandbox is worth. -/
noncomputable def Try.pinned : Pinned := { name := "ytkmpajdiedpfhaa", sum := "90dd609e606f1b3ab63647b17f7830c0ce518529813d5045c885684b75a2fde8", checked := Try.checked }
namespace Rows
def none {H : Type} : Left H := { results := [], args := [] }

/-- 'septumlaw11.ConfigLeads': WHATEVER THE INPUT: true; the input reads as it did. -/
def configLeadsSpec : ChangeSpec := { name := "configLeads", fn := fun _ => fun
  | [d1, d2, d3] => { results := [.lit (.bool true)], args := [d1, d2, d3] }
  | _ => none }
def configLeadsRow : OpenClaim := { program := "ytkmpajdiedpfhaa", sum := "90dd609e606f1b3ab63647b17f7830c0ce518529813d5045c885684b75a2fde8", func := "septum/septumlaw11.ConfigLeads", spec := "configLeads", unfollowed := true, recurses := true, apart := false }
def ConfigLeadsSaid : Prop := configLeadsRow.holds Try.pinned (OpenSpec.ofChange configLeadsSpec)

/-- ITS FALSE NEIGHBOUR: 'it returns false'. Refute it at one input. -/
def configLeadsWrong : ChangeSpec := { name := "configLeads", fn := fun _ => fun
  | [d1, d2, d3] => { results := [.lit (.bool false)], args := [d1, d2, d3] }
  | _ => none }
def ConfigLeadsWrongFalsely : Prop := configLeadsRow.holds Try.pinned (OpenSpec.ofChange configLeadsWrong)

/-- 'septumlaw11.ConfigChains': WHATEVER THE INPUT: true; the input reads as it did. -/
def configChainsSpec : ChangeSpec := { name := "configChains", fn := fun _ => fun
  | [d1, d2, d3, d4] => { results := [.lit (.bool true)], args := [d1, d2, d3, d4] }
  | _ => none }
def configChainsRow : OpenClaim := { program := "ytkmpajdiedpfhaa", sum := "90dd609e606f1b3ab63647b17f7830c0ce518529813d5045c885684b75a2fde8", func := "septum/septumlaw11.ConfigChains", spec := "configChains", unfollowed := true, recurses := true, apart := false }
def ConfigChainsSaid : Prop := configChainsRow.holds Try.pinned (OpenSpec.ofChange configChainsSpec)

/-- ITS FALSE NEIGHBOUR: 'it returns false'. Refute it at one input. -/
def configChainsWrong : ChangeSpec := { name := "configChains", fn := fun _ => fun
  | [d1, d2, d3, d4] => { results := [.lit (.bool false)], args := [d1, d2, d3, d4] }
  | _ => none }
def ConfigChainsWrongFalsely : Prop := configChainsRow.holds Try.pinned (OpenSpec.ofChange configChainsWrong)

/-- 'septumlaw11.ConfigValid': WHATEVER THE INPUT: true; the input reads as it did. -/
def configValidSpec : ChangeSpec := { name := "configValid", fn := fun _ => fun
  | [d] => { results := [.lit (.bool true)], args := [d] }
  | _ => none }
def configValidRow : OpenClaim := { program := "ytkmpajdiedpfhaa", sum := "90dd609e606f1b3ab63647b17f7830c0ce518529813d5045c885684b75a2fde8", func := "septum/septumlaw11.ConfigValid", spec := "configValid", unfollowed := true, recurses := true, apart := false }
def ConfigValidSaid : Prop := configValidRow.holds Try.pinned (OpenSpec.ofChange configValidSpec)

/-- ITS FALSE NEIGHBOUR: 'it returns false'. Refute it at one input. -/
def configValidWrong : ChangeSpec := { name := "configValid", fn := fun _ => fun
  | [d] => { results := [.lit (.bool false)], args := [d] }
  | _ => none }
def ConfigValidWrongFalsely : Prop := configValidRow.holds Try.pinned (OpenSpec.ofChange configValidWrong)

/-- 'septumlaw26.HistOrder': WHATEVER THE INPUT: true; the input reads as it did. -/
def histOrderSpec : ChangeSpec := { name := "histOrder", fn := fun _ => fun
  | [d] => { results := [.lit (.bool true)], args := [d] }
  | _ => none }
def histOrderRow : OpenClaim := { program := "ytkmpajdiedpfhaa", sum := "90dd609e606f1b3ab63647b17f7830c0ce518529813d5045c885684b75a2fde8", func := "septum/septumlaw26.HistOrder", spec := "histOrder", unfollowed := true, recurses := true, apart := false }
def HistOrderSaid : Prop := histOrderRow.holds Try.pinned (OpenSpec.ofChange histOrderSpec)

/-- ITS FALSE NEIGHBOUR: 'it returns false'. Refute it at one input. -/
def histOrderWrong : ChangeSpec := { name := "histOrder", fn := fun _ => fun
  | [d] => { results := [.lit (.bool false)], args := [d] }
  | _ => none }
def HistOrderWrongFalsely : Prop := histOrderRow.holds Try.pinned (OpenSpec.ofChange histOrderWrong)

/-- 'septumlaw26.HistKeeps': WHATEVER THE INPUT: true; the input reads as it did. -/
def histKeepsSpec : ChangeSpec := { name := "histKeeps", fn := fun _ => fun
  | [d1, d2] => { results := [.lit (.bool true)], args := [d1, d2] }
  | _ => none }
def histKeepsRow : OpenClaim := { program := "ytkmpajdiedpfhaa", sum := "90dd609e606f1b3ab63647b17f7830c0ce518529813d5045c885684b75a2fde8", func := "septum/septumlaw26.HistKeeps", spec := "histKeeps", unfollowed := true, recurses := true, apart := false }
def HistKeepsSaid : Prop := histKeepsRow.holds Try.pinned (OpenSpec.ofChange histKeepsSpec)

/-- ITS FALSE NEIGHBOUR: 'it returns false'. Refute it at one input. -/
def histKeepsWrong : ChangeSpec := { name := "histKeeps", fn := fun _ => fun
  | [d1, d2] => { results := [.lit (.bool false)], args := [d1, d2] }
  | _ => none }
def HistKeepsWrongFalsely : Prop := histKeepsRow.holds Try.pinned (OpenSpec.ofChange histKeepsWrong)

/-- 'septumlaw11.ConfigClones': WHATEVER THE INPUT: true; the input reads as it did. -/
def configClonesSpec : ChangeSpec := { name := "configClones", fn := fun _ => fun
  | [d] => { results := [.lit (.bool true)], args := [d] }
  | _ => none }
def configClonesRow : OpenClaim := { program := "ytkmpajdiedpfhaa", sum := "90dd609e606f1b3ab63647b17f7830c0ce518529813d5045c885684b75a2fde8", func := "septum/septumlaw11.ConfigClones", spec := "configClones", unfollowed := true, recurses := true, apart := false }
def ConfigClonesSaid : Prop := configClonesRow.holds Try.pinned (OpenSpec.ofChange configClonesSpec)

/-- ITS FALSE NEIGHBOUR: 'it returns false'. Refute it at one input. -/
def configClonesWrong : ChangeSpec := { name := "configClones", fn := fun _ => fun
  | [d] => { results := [.lit (.bool false)], args := [d] }
  | _ => none }
def ConfigClonesWrongFalsely : Prop := configClonesRow.holds Try.pinned (OpenSpec.ofChange configClonesWrong)

/-- 'septumlaw26.HistEqual': WHATEVER THE INPUT: true; the input reads as it did. -/
def histEqualSpec : ChangeSpec := { name := "histEqual", fn := fun _ => fun
  | [d1, d2] => { results := [.lit (.bool true)], args := [d1, d2] }
  | _ => none }
def histEqualRow : OpenClaim := { program := "ytkmpajdiedpfhaa", sum := "90dd609e606f1b3ab63647b17f7830c0ce518529813d5045c885684b75a2fde8", func := "septum/septumlaw26.HistEqual", spec := "histEqual", unfollowed := true, recurses := true, apart := false }
def HistEqualSaid : Prop := histEqualRow.holds Try.pinned (OpenSpec.ofChange histEqualSpec)

/-- ITS FALSE NEIGHBOUR: 'it returns false'. Refute it at one input. -/
def histEqualWrong : ChangeSpec := { name := "histEqual", fn := fun _ => fun
  | [d1, d2] => { results := [.lit (.bool false)], args := [d1, d2] }
  | _ => none }
def HistEqualWrongFalsely : Prop := histEqualRow.holds Try.pinned (OpenSpec.ofChange histEqualWrong)

/- THE SECOND FORM. 'bulk': how many values and letters a reading holds, each counted each time it is reached (what is shared counts as often as it is met; a slice's spare places count too). A statement '..UptoSaid' is the law's where the arguments, and the package variables that the reading takes, are together of bulk at most 1048576: NARROWER than '..Said'. Prove '..Said' where nothing that the law and all that it calls make is longer than what came in: it says more and counts as full. Else prove '..UptoSaid'. A law counts once. -/
mutual
def uptoBulk {H : Type} : DataW H → Nat
  | .lit (.string bytes) => bytes.length + 1
  | .lit _ => 1
  | .nil => 1
  | .ptr d => uptoBulk d + 1
  | .slice elems spare => uptoBulkAll elems + uptoBulkAll spare + 1
  | .agg parts => uptoBulkAll parts + 1
  | .iface _ d => uptoBulk d + 1
  | .map entries => uptoBulkEntries entries + 1
  | .held _ => 1
def uptoBulkAll {H : Type} : List (DataW H) → Nat
  | [] => 0
  | d :: r => uptoBulk d + uptoBulkAll r
def uptoBulkEntries {H : Type} : List (Lit × DataW H) → Nat
  | [] => 0
  | x :: r => uptoBulkEntry x + uptoBulkEntries r
def uptoBulkEntry {H : Type} : Lit × DataW H → Nat
  | (.string bytes, d) => bytes.length + uptoBulk d + 1
  | (_, d) => uptoBulk d + 1
 end
def uptoSmall : (H : Type) → List (DataW H) → Bool := fun _ ds => decide (uptoBulkAll ds ≤ 1048576)
def OpenSpec.upto (s : _root_.Go.ChangeSpec) : _root_.Go.OpenSpec := { _root_.Go.OpenSpec.ofChange s with cond := some uptoSmall }

/-- 'septumlaw11.ConfigLeads', WHERE WHAT IT READS IS OF BULK AT MOST 1048576: true; the input reads as it did. -/
def configLeadsUptoRow : OpenClaim := { program := "ytkmpajdiedpfhaa", sum := "90dd609e606f1b3ab63647b17f7830c0ce518529813d5045c885684b75a2fde8", func := "septum/septumlaw11.ConfigLeads", spec := "configLeads", unfollowed := true, recurses := true, apart := false, narrowed := true }
def ConfigLeadsUptoSaid : Prop := configLeadsUptoRow.holds Try.pinned (OpenSpec.upto configLeadsSpec)

/-- 'septumlaw11.ConfigChains', WHERE WHAT IT READS IS OF BULK AT MOST 1048576: true; the input reads as it did. -/
def configChainsUptoRow : OpenClaim := { program := "ytkmpajdiedpfhaa", sum := "90dd609e606f1b3ab63647b17f7830c0ce518529813d5045c885684b75a2fde8", func := "septum/septumlaw11.ConfigChains", spec := "configChains", unfollowed := true, recurses := true, apart := false, narrowed := true }
def ConfigChainsUptoSaid : Prop := configChainsUptoRow.holds Try.pinned (OpenSpec.upto configChainsSpec)

/-- 'septumlaw11.ConfigValid', WHERE WHAT IT READS IS OF BULK AT MOST 1048576: true; the input reads as it did. -/
def configValidUptoRow : OpenClaim := { program := "ytkmpajdiedpfhaa", sum := "90dd609e606f1b3ab63647b17f7830c0ce518529813d5045c885684b75a2fde8", func := "septum/septumlaw11.ConfigValid", spec := "configValid", unfollowed := true, recurses := true, apart := false, narrowed := true }
def ConfigValidUptoSaid : Prop := configValidUptoRow.holds Try.pinned (OpenSpec.upto configValidSpec)

/-- 'septumlaw26.HistOrder', WHERE WHAT IT READS IS OF BULK AT MOST 1048576: true; the input reads as it did. -/
def histOrderUptoRow : OpenClaim := { program := "ytkmpajdiedpfhaa", sum := "90dd609e606f1b3ab63647b17f7830c0ce518529813d5045c885684b75a2fde8", func := "septum/septumlaw26.HistOrder", spec := "histOrder", unfollowed := true, recurses := true, apart := false, narrowed := true }
def HistOrderUptoSaid : Prop := histOrderUptoRow.holds Try.pinned (OpenSpec.upto histOrderSpec)

/-- 'septumlaw26.HistKeeps', WHERE WHAT IT READS IS OF BULK AT MOST 1048576: true; the input reads as it did. -/
def histKeepsUptoRow : OpenClaim := { program := "ytkmpajdiedpfhaa", sum := "90dd609e606f1b3ab63647b17f7830c0ce518529813d5045c885684b75a2fde8", func := "septum/septumlaw26.HistKeeps", spec := "histKeeps", unfollowed := true, recurses := true, apart := false, narrowed := true }
def HistKeepsUptoSaid : Prop := histKeepsUptoRow.holds Try.pinned (OpenSpec.upto histKeepsSpec)

/-- 'septumlaw11.ConfigClones', WHERE WHAT IT READS IS OF BULK AT MOST 1048576: true; the input reads as it did. -/
def configClonesUptoRow : OpenClaim := { program := "ytkmpajdiedpfhaa", sum := "90dd609e606f1b3ab63647b17f7830c0ce518529813d5045c885684b75a2fde8", func := "septum/septumlaw11.ConfigClones", spec := "configClones", unfollowed := true, recurses := true, apart := false, narrowed := true }
def ConfigClonesUptoSaid : Prop := configClonesUptoRow.holds Try.pinned (OpenSpec.upto configClonesSpec)

/-- 'septumlaw26.HistEqual', WHERE WHAT IT READS IS OF BULK AT MOST 1048576: true; the input reads as it did. -/
def histEqualUptoRow : OpenClaim := { program := "ytkmpajdiedpfhaa", sum := "90dd609e606f1b3ab63647b17f7830c0ce518529813d5045c885684b75a2fde8", func := "septum/septumlaw26.HistEqual", spec := "histEqual", unfollowed := true, recurses := true, apart := false, narrowed := true }
def HistEqualUptoSaid : Prop := histEqualUptoRow.holds Try.pinned (OpenSpec.upto histEqualSpec)

end Rows
end Go.Proofs.Ytkmpajdiedpfhaa
