/-
  DERIVED. GIVEN WITH THE SEED: THE CARDS: each row of YtkmpajdiedpfhaaDoorRows.lean that lists a variable, with what it lists TIED to the program's text (the seventh form; the later family's looks); each row that meets fmt, with fmt's text TOLD by the authors' own Lean function (tested against real Go, not proved from fmt's source: count such statements apart). THE CARD IS WHAT COUNTS. Prove the row's statement (the work); the ties are given (YtkmpajdiedpfhaaDoorTie.lean); close each card by the builder's one call (the guide's Derived/Test/ToyasCard.lean, 'card_holds'). Laid BY PROGRAM, IN A SANDBOX (cutbox-door.mjs). By AI agents, Wed Nov 11 2026. No macro, syntax, notation, axiom, sorry.
-/
import Derived.Test.YtkmpajdiedpfhaaDoorRows
import GoSem.ClaimSeven
namespace Go.Proofs.YtkmpajdiedpfhaaDoor
namespace Rows

/-- THE TIED CARD OF 'septumlaw24.CallNames'. -/
def callNamesCard : Claim7 := { stood := { row := callNamesRow, standIns := [], harness := (true, "8687583869c97d37e3f09028b4fd5b51c50842e3e9a55dd5d615795842f9874d"), looks := false }, kinds := [], alts := [], laidByText := true, laidKinds := [.data], laidTests := true, laidLooks := .later }
def CallNamesCardSaid : Prop := Claim7.holds Tryd.pinned (.plain (OpenSpec.ofChange callNamesSpec)) callNamesCard

/-- THE TIED CARD OF 'septumlaw24.CallChecks'. -/
def callChecksCard : Claim7 := { stood := { row := callChecksRow, standIns := [], harness := (true, "8687583869c97d37e3f09028b4fd5b51c50842e3e9a55dd5d615795842f9874d"), looks := false }, kinds := [], alts := [], laidByText := true, laidKinds := [.data], laidTests := true, laidLooks := .later }
def CallChecksCardSaid : Prop := Claim7.holds Tryd.pinned (.plain (OpenSpec.ofChange callChecksSpec)) callChecksCard

/-- THE TIED CARD OF 'septumlaw24.CallCaps'. -/
def callCapsCard : Claim7 := { stood := { row := callCapsRow, standIns := [], harness := (true, "8687583869c97d37e3f09028b4fd5b51c50842e3e9a55dd5d615795842f9874d"), looks := false }, kinds := [], alts := [], laidByText := true, laidKinds := [.data], laidTests := true, laidLooks := .later }
def CallCapsCardSaid : Prop := Claim7.holds Tryd.pinned (.plain (OpenSpec.ofChange callCapsSpec)) callCapsCard

/-- THE TIED CARD OF 'septumlaw24.CallObjects'. -/
def callObjectsCard : Claim7 := { stood := { row := callObjectsRow, standIns := [], harness := (true, "8687583869c97d37e3f09028b4fd5b51c50842e3e9a55dd5d615795842f9874d"), looks := false }, kinds := [], alts := [], laidByText := true, laidKinds := [.data], laidTests := true, laidLooks := .later }
def CallObjectsCardSaid : Prop := Claim7.holds Tryd.pinned (.plain (OpenSpec.ofChange callObjectsSpec)) callObjectsCard

/-- THE SECOND FORM's CARD OF 'septumlaw24.CallNames'. -/
def callNamesUptoCard : Claim7 := { stood := { row := callNamesUptoRow, standIns := [], harness := (true, "8687583869c97d37e3f09028b4fd5b51c50842e3e9a55dd5d615795842f9874d"), looks := false }, kinds := [], alts := [], laidByText := true, laidKinds := [.data], laidTests := true, laidLooks := .later }
def CallNamesUptoCardSaid : Prop := Claim7.holds Tryd.pinned (.plain (OpenSpec.upto callNamesSpec)) callNamesUptoCard

/-- THE SECOND FORM's CARD OF 'septumlaw24.CallChecks'. -/
def callChecksUptoCard : Claim7 := { stood := { row := callChecksUptoRow, standIns := [], harness := (true, "8687583869c97d37e3f09028b4fd5b51c50842e3e9a55dd5d615795842f9874d"), looks := false }, kinds := [], alts := [], laidByText := true, laidKinds := [.data], laidTests := true, laidLooks := .later }
def CallChecksUptoCardSaid : Prop := Claim7.holds Tryd.pinned (.plain (OpenSpec.upto callChecksSpec)) callChecksUptoCard

/-- THE SECOND FORM's CARD OF 'septumlaw24.CallCaps'. -/
def callCapsUptoCard : Claim7 := { stood := { row := callCapsUptoRow, standIns := [], harness := (true, "8687583869c97d37e3f09028b4fd5b51c50842e3e9a55dd5d615795842f9874d"), looks := false }, kinds := [], alts := [], laidByText := true, laidKinds := [.data], laidTests := true, laidLooks := .later }
def CallCapsUptoCardSaid : Prop := Claim7.holds Tryd.pinned (.plain (OpenSpec.upto callCapsSpec)) callCapsUptoCard

/-- THE SECOND FORM's CARD OF 'septumlaw24.CallObjects'. -/
def callObjectsUptoCard : Claim7 := { stood := { row := callObjectsUptoRow, standIns := [], harness := (true, "8687583869c97d37e3f09028b4fd5b51c50842e3e9a55dd5d615795842f9874d"), looks := false }, kinds := [], alts := [], laidByText := true, laidKinds := [.data], laidTests := true, laidLooks := .later }
def CallObjectsUptoCardSaid : Prop := Claim7.holds Tryd.pinned (.plain (OpenSpec.upto callObjectsSpec)) callObjectsUptoCard
end Rows
end Go.Proofs.YtkmpajdiedpfhaaDoor
