/- The table of sixteen numbers that the package poly keeps, as the reckoner takes it; what the program follows. -/
import Derived.Test.YtcpmhehklicpfaaGreatDoorChecked
import Derived.Test.YtcpmhehklicpfaaGreatDoorEvKnown
import Derived.KernelRfl
namespace Go.Proofs.YtcpmhehklicpfaaGreatDoor.Ev
open Go
def nibZ : List Int := [0, 498536548, 997073096, 651767980, 1994146192, 1802195444, 1303535960, 1342533948, 3988292384, 4027552580, 3604390888, 3412177804, 2607071920, 2262029012, 2685067896, 3183342108]
def nibs : List (Nat × List AV × TypeId) := [(0, nibZ.map (AV.int .u32), 0)]
theorem fol1 : Tryz.prog.follows .mixedOrders = true := by kernel_rfl
theorem fol2 : Tryz.prog.follows .rangeFuncRecover = true := by kernel_rfl
theorem okNibs : okGs nibs = true := by decide +kernel
def C0 : Ctx := ⟨nibs, []⟩
theorem knows0 : Knows Tryz.prog C0 := ⟨okNibs, rfl, fun x h => by cases h⟩
end Go.Proofs.YtcpmhehklicpfaaGreatDoor.Ev
