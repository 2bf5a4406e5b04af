/-
  DERIVED. GIVEN WITH THE SEED: THE CARDS: each row of YtipeleefbaalpaaDoorRows.lean that lists a variable, with what it lists TIED to the program's text (the seventh form; the later family's looks); each row that meets fmt, with fmt's text TOLD by the authors' own Lean function (tested against real Go, not proved from fmt's source: count such statements apart). THE CARD IS WHAT COUNTS. Prove the row's statement (the work); the ties are given (YtipeleefbaalpaaDoorTie.lean); close each card by the builder's one call (the guide's Derived/Test/ToyasCard.lean, 'card_holds'). Laid BY PROGRAM, IN A SANDBOX (cutbox-door.mjs). By AI agents, Wed Nov 11 2026. No macro, syntax, notation, axiom, sorry.
-/
import Derived.Test.YtipeleefbaalpaaDoorRows
import GoSem.ClaimSeven
namespace Go.Proofs.YtipeleefbaalpaaDoor
namespace Rows

/-- THE TIED CARD OF 'sextonlaw06.PanelSets'. -/
def panelSetsCard : Claim7 := { stood := { row := panelSetsRow, standIns := [], harness := (true, "082313d55e6ca0f011ce28eeed967629ad340ff4bbae5418a351a0c27011e5a7"), looks := false }, kinds := [], alts := [], laidByText := true, laidKinds := [.data, .data], laidTests := true, laidLooks := .later }
def PanelSetsCardSaid : Prop := Claim7.holds Tryd.pinned (.plain (OpenSpec.ofChange panelSetsSpec)) panelSetsCard

/-- THE TIED CARD OF 'sextonlaw06.PanelMeets'. -/
def panelMeetsCard : Claim7 := { stood := { row := panelMeetsRow, standIns := [], harness := (true, "082313d55e6ca0f011ce28eeed967629ad340ff4bbae5418a351a0c27011e5a7"), looks := false }, kinds := [], alts := [], laidByText := true, laidKinds := [.data, .data], laidTests := true, laidLooks := .later }
def PanelMeetsCardSaid : Prop := Claim7.holds Tryd.pinned (.plain (OpenSpec.ofChange panelMeetsSpec)) panelMeetsCard

/-- THE SECOND FORM's CARD OF 'sextonlaw06.PanelSets'. -/
def panelSetsUptoCard : Claim7 := { stood := { row := panelSetsUptoRow, standIns := [], harness := (true, "082313d55e6ca0f011ce28eeed967629ad340ff4bbae5418a351a0c27011e5a7"), looks := false }, kinds := [], alts := [], laidByText := true, laidKinds := [.data, .data], laidTests := true, laidLooks := .later }
def PanelSetsUptoCardSaid : Prop := Claim7.holds Tryd.pinned (.plain (OpenSpec.upto panelSetsSpec)) panelSetsUptoCard

/-- THE SECOND FORM's CARD OF 'sextonlaw06.PanelMeets'. -/
def panelMeetsUptoCard : Claim7 := { stood := { row := panelMeetsUptoRow, standIns := [], harness := (true, "082313d55e6ca0f011ce28eeed967629ad340ff4bbae5418a351a0c27011e5a7"), looks := false }, kinds := [], alts := [], laidByText := true, laidKinds := [.data, .data], laidTests := true, laidLooks := .later }
def PanelMeetsUptoCardSaid : Prop := Claim7.holds Tryd.pinned (.plain (OpenSpec.upto panelMeetsSpec)) panelMeetsUptoCard
end Rows
end Go.Proofs.YtipeleefbaalpaaDoor
