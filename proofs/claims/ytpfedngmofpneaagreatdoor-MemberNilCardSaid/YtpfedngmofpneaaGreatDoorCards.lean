/-
  DERIVED. GIVEN WITH THE SEED: THE CARDS: each row of YtpfedngmofpneaaGreatDoorRows.lean that lists a variable, with what it lists TIED to the program's text (the seventh form; the later family's looks); each row that meets fmt, with fmt's text TOLD by the authors' own Lean function (tested against real Go, not proved from fmt's source: count such statements apart). THE CARD IS WHAT COUNTS. Prove the row's statement (the work); the ties are given (YtpfedngmofpneaaGreatDoorTie.lean); close each card by the builder's one call (the guide's Derived/Test/ToyasCard.lean, 'card_holds'). Laid BY PROGRAM, IN A SANDBOX (cutbox-door.mjs). By AI agents, Wed Nov 11 2026. No macro, syntax, notation, axiom, sorry.
-/
import Derived.Test.YtpfedngmofpneaaGreatDoorRows
import GoSem.ClaimSeven
namespace Go.Proofs.YtpfedngmofpneaaGreatDoor
namespace Rows

/-- THE TIED CARD OF 'sextonlaw24.MemberNil'. -/
def memberNilCard : Claim7 := { stood := { row := memberNilRow, standIns := [], harness := (true, "1cea60f91197914c7426b1db2b99737fb211600ff18b6f9befc05dd5fc6e43a0"), looks := true }, kinds := [], alts := [], laidByText := true, laidKinds := [.data], laidTests := true, laidLooks := .later }
def MemberNilCardSaid : Prop := Claim7.holds Tryz.pinned (.plain (OpenSpec.ofChange memberNilSpec)) memberNilCard

/-- THE SECOND FORM's CARD OF 'sextonlaw24.MemberNil'. -/
def memberNilUptoCard : Claim7 := { stood := { row := memberNilUptoRow, standIns := [], harness := (true, "1cea60f91197914c7426b1db2b99737fb211600ff18b6f9befc05dd5fc6e43a0"), looks := true }, kinds := [], alts := [], laidByText := true, laidKinds := [.data], laidTests := true, laidLooks := .later }
def MemberNilUptoCardSaid : Prop := Claim7.holds Tryz.pinned (.plain (OpenSpec.upto memberNilSpec)) memberNilUptoCard
end Rows
end Go.Proofs.YtpfedngmofpneaaGreatDoor
