/- The table of sixteen numbers that the package poly keeps, as the reckoner takes it; what the program follows. -/
import Derived.Test.YtpfedngmofpneaaGreatDoorChecked
import Derived.Test.YtpfedngmofpneaaGreatDoorEvKnown
import Derived.KernelRfl
namespace Go.Proofs.YtpfedngmofpneaaGreatDoor.Ev
open Go
def nibZ : List Int := [0, 498536548, 997073096, 651767980, 1994146192, 1802195444, 1303535960, 1342533948, 3988292384, 4027552580, 3604390888, 3412177804, 2607071920, 2262029012, 2685067896, 3183342108]
def nibs : List (Nat × List AV × TypeId) := [(0, nibZ.map (AV.int .u32), 0)]
/-- What comes in: a struct of two numbers and a string; the second number lies between lo and hi. -/
def doIn (lo hi : Int) : AV := .agg [.rng .i64 (-9223372036854775808) 9223372036854775807, .rng .i64 lo hi, .opq]
theorem fol1 : Tryz.prog.follows .mixedOrders = true := by kernel_rfl
theorem fol2 : Tryz.prog.follows .rangeFuncRecover = true := by kernel_rfl
theorem okNibs : okGs nibs = true := by decide +kernel
def C0 : Ctx := ⟨nibs, []⟩
theorem knows0 : Knows Tryz.prog C0 := ⟨okNibs, rfl, fun x h => by cases h⟩
end Go.Proofs.YtpfedngmofpneaaGreatDoor.Ev
