/- Calls that are reckoned for themselves. -/
import Derived.Test.YtcpmhehklicpfaaGreatDoorEvNib
namespace Go.Proofs.YtcpmhehklicpfaaGreatDoor.Ev
open Go
def l4 : List AV := [AV.str [1, 0, 1, 1, 4, 0, 6, 0, 0, 0, 0, 0, 1, 8, 0, 6, 0, 0, 0, 0, 0, 3, 13, 0, 18, 1, 0, 1, 3, 2, 0, 7, 0, 0, 0, 0, 0, 0, 1, 4, 0, 1, 97, 60, 81, 49, 60]]
def v4 : AV := AV.tuple [AV.str [1, 0, 1, 1, 4, 0, 6, 0, 0, 0, 0, 0, 1, 8, 0, 6, 0, 0, 0, 0, 0, 3, 13, 0, 18, 1, 0, 1, 3, 2, 0, 7, 0, 0, 0, 0, 0, 0, 1, 4, 0, 1, 97], AV.int IntKind.i64 (Int.ofNat 0)]
set_option maxRecDepth 1000000 in
theorem c4 : KnownS Tryz.prog nibs 236 l4 v4 := known_of (C := C0) (n := 100000) fol1 fol2 knows0 (by decide +kernel) (by decide +kernel)
def l5 : List AV := [AV.str [1, 0, 1, 2, 4, 0, 6, 0, 0, 0, 0, 0, 1, 8, 0, 6, 0, 0, 0, 0, 0, 3, 13, 0, 25, 2, 0, 7, 1, 0, 0, 0, 0, 0, 1, 3, 0, 12, 1, 1, 0, 0, 0, 0, 0, 0, 0, 0, 0, 1, 240, 45, 124, 127]]
def v5 : AV := AV.tuple [AV.str [1, 0, 1, 2, 4, 0, 6, 0, 0, 0, 0, 0, 1, 8, 0, 6, 0, 0, 0, 0, 0, 3, 13, 0, 25, 2, 0, 7, 1, 0, 0, 0, 0, 0, 1, 3, 0, 12, 1, 1, 0, 0, 0, 0, 0, 0, 0, 0, 0, 1], AV.int IntKind.i64 (Int.ofNat 0)]
set_option maxRecDepth 1000000 in
theorem c5 : KnownS Tryz.prog nibs 236 l5 v5 := known_of (C := C0) (n := 100000) fol1 fol2 knows0 (by decide +kernel) (by decide +kernel)
def l6 : List AV := [AV.str [1, 0, 1, 3, 9, 0, 6, 0, 0, 0, 0, 0, 0, 9, 0, 6, 0, 0, 0, 0, 0, 0, 9, 0, 6, 0, 0, 0, 0, 0, 0, 10, 0, 36, 0, 0, 0, 0, 0, 0, 0, 0, 0, 0, 0, 3, 0, 0, 0, 0, 0, 1, 1, 0, 1, 3, 2, 0, 7, 0, 0, 0, 0, 0, 0, 1, 4, 0, 1, 97, 205, 55, 119, 38]]
def v6 : AV := AV.tuple [AV.str [1, 0, 1, 3, 9, 0, 6, 0, 0, 0, 0, 0, 0, 9, 0, 6, 0, 0, 0, 0, 0, 0, 9, 0, 6, 0, 0, 0, 0, 0, 0, 10, 0, 36, 0, 0, 0, 0, 0, 0, 0, 0, 0, 0, 0, 3, 0, 0, 0, 0, 0, 1, 1, 0, 1, 3, 2, 0, 7, 0, 0, 0, 0, 0, 0, 1, 4, 0, 1, 97], AV.int IntKind.i64 (Int.ofNat 0)]
set_option maxRecDepth 1000000 in
theorem c6 : KnownS Tryz.prog nibs 236 l6 v6 := known_of (C := C0) (n := 100000) fol1 fol2 knows0 (by decide +kernel) (by decide +kernel)
def l7 : List AV := [AV.str [1, 0, 1, 4, 4, 0, 6, 0, 0, 0, 0, 0, 1, 9, 0, 6, 0, 0, 0, 0, 0, 0, 9, 0, 6, 0, 0, 0, 0, 0, 0, 9, 0, 6, 0, 0, 0, 0, 0, 0, 144, 20, 175, 228]]
def v7 : AV := AV.tuple [AV.str [1, 0, 1, 4, 4, 0, 6, 0, 0, 0, 0, 0, 1, 9, 0, 6, 0, 0, 0, 0, 0, 0, 9, 0, 6, 0, 0, 0, 0, 0, 0, 9, 0, 6, 0, 0, 0, 0, 0, 0], AV.int IntKind.i64 (Int.ofNat 0)]
set_option maxRecDepth 1000000 in
theorem c7 : KnownS Tryz.prog nibs 236 l7 v7 := known_of (C := C0) (n := 100000) fol1 fol2 knows0 (by decide +kernel) (by decide +kernel)
end Go.Proofs.YtcpmhehklicpfaaGreatDoor.Ev
