/- A call that is reckoned for itself. -/
import Derived.Test.YtpfedngmofpneaaGreatDoorEvNib
namespace Go.Proofs.YtpfedngmofpneaaGreatDoor.Ev
open Go
def l0 : List AV := [AV.str           [1, 0, 1, 1, 4, 0, 6, 0, 0, 0, 0, 0, 1, 8, 0, 6, 0, 0, 0, 0, 0, 1, 13, 0, 18, 1, 0, 1, 3, 2, 0, 7, 0, 0, 0, 0,             0, 0, 1, 4, 0, 1, 97, 188, 152, 97, 18]]
def v0 : AV := AV.tuple       [AV.agg           [AV.int IntKind.i64 (Int.ofNat 1), AV.int IntKind.i64 (Int.ofNat 0), AV.int IntKind.i64 (Int.ofNat 0),             AV.int IntKind.i64 (Int.ofNat 1), AV.int IntKind.i64 (Int.ofNat 0), AV.int IntKind.i64 (Int.ofNat 0),             AV.int IntKind.i64 (Int.ofNat 0), AV.int IntKind.i64 (Int.ofNat 1), AV.slice none 0 0, AV.slice none 0 0,             AV.int IntKind.i64 (Int.ofNat 0), AV.int IntKind.i64 (Int.ofNat 0), AV.int IntKind.i64 (Int.ofNat 0),             AV.int IntKind.i64 (Int.ofNat 0), AV.str [1, 0, 1, 3, 2, 0, 7, 0, 0, 0, 0, 0, 0, 1, 4, 0, 1, 97]],         AV.int IntKind.i64 (Int.ofNat 0)]
set_option maxRecDepth 1000000 in
theorem c0 : KnownS Tryz.prog nibs 20 l0 v0 := known_of (C := C0) (n := 100000) fol1 fol2 knows0 (by decide +kernel) (by decide +kernel)
end Go.Proofs.YtpfedngmofpneaaGreatDoor.Ev
