/-
  DERIVED. GIVEN WITH THE SEED: THE CARDS: each row of YtcpmhehklicpfaaGreatDoorRows.lean that lists a variable, with what it lists TIED to the program's text (the seventh form; the later family's looks); each row that meets fmt, with fmt's text TOLD by the authors' own Lean function (tested against real Go, not proved from fmt's source: count such statements apart). THE CARD IS WHAT COUNTS. Prove the row's statement (the work); the ties are given (YtcpmhehklicpfaaGreatDoorTie.lean); close each card by the builder's one call (the guide's Derived/Test/ToyasCard.lean, 'card_holds'). Laid BY PROGRAM, IN A SANDBOX (cutbox-door.mjs). By AI agents, Wed Nov 11 2026. No macro, syntax, notation, axiom, sorry.
-/
import Derived.Test.YtcpmhehklicpfaaGreatDoorRows
import GoSem.ClaimSeven
namespace Go.Proofs.YtcpmhehklicpfaaGreatDoor
namespace Rows

/-- THE TIED CARD OF 'sextonlaw27.RingNil'. -/
def ringNilCard : Claim7 := { stood := { row := ringNilRow, standIns := [], harness := (true, "6e138b2724071163c8e2b97c96a751fd2ccf7a903642327e0e608682ea315797"), looks := true }, kinds := [], alts := [], laidByText := true, laidKinds := [.data], laidTests := true, laidLooks := .later }
def RingNilCardSaid : Prop := Claim7.holds Tryz.pinned (.plain (OpenSpec.ofChange ringNilSpec)) ringNilCard

/-- THE SECOND FORM's CARD OF 'sextonlaw27.RingNil'. -/
def ringNilUptoCard : Claim7 := { stood := { row := ringNilUptoRow, standIns := [], harness := (true, "6e138b2724071163c8e2b97c96a751fd2ccf7a903642327e0e608682ea315797"), looks := true }, kinds := [], alts := [], laidByText := true, laidKinds := [.data], laidTests := true, laidLooks := .later }
def RingNilUptoCardSaid : Prop := Claim7.holds Tryz.pinned (.plain (OpenSpec.upto ringNilSpec)) ringNilUptoCard
end Rows
end Go.Proofs.YtcpmhehklicpfaaGreatDoor
