/- Calls that are reckoned for themselves. -/
import Derived.Test.YtcpmhehklicpfaaGreatDoorEvNib
namespace Go.Proofs.YtcpmhehklicpfaaGreatDoor.Ev
open Go
def l0 : List AV := [AV.str [1, 0, 1, 4, 4, 0, 6, 0, 0, 0, 0, 0, 1, 9, 0, 6, 0, 0, 0, 0, 0, 0, 9, 0, 6, 0, 0, 0, 0, 0, 0, 9, 0, 6, 0, 0, 0, 0, 0, 0]]
def v0 : AV := AV.str [1, 0, 1, 4, 4, 0, 6, 0, 0, 0, 0, 0, 1, 9, 0, 6, 0, 0, 0, 0, 0, 0, 9, 0, 6, 0, 0, 0, 0, 0, 0, 9, 0, 6, 0, 0, 0, 0, 0, 0, 144, 20, 175, 228]
set_option maxRecDepth 1000000 in
theorem c0 : KnownS Tryz.prog nibs 204 l0 v0 := known_of (C := C0) (n := 100000) fol1 fol2 knows0 (by decide +kernel) (by decide +kernel)
def l1 : List AV := [AV.str [1, 0, 1, 1, 4, 0, 6, 0, 0, 0, 0, 0, 1, 8, 0, 6, 0, 0, 0, 0, 0, 3, 13, 0, 18, 1, 0, 1, 3, 2, 0, 7, 0, 0, 0, 0, 0, 0, 1, 4, 0, 1, 97]]
def v1 : AV := AV.str [1, 0, 1, 1, 4, 0, 6, 0, 0, 0, 0, 0, 1, 8, 0, 6, 0, 0, 0, 0, 0, 3, 13, 0, 18, 1, 0, 1, 3, 2, 0, 7, 0, 0, 0, 0, 0, 0, 1, 4, 0, 1, 97, 60, 81, 49, 60]
set_option maxRecDepth 1000000 in
theorem c1 : KnownS Tryz.prog nibs 204 l1 v1 := known_of (C := C0) (n := 100000) fol1 fol2 knows0 (by decide +kernel) (by decide +kernel)
def l2 : List AV := [AV.str [1, 0, 1, 3, 9, 0, 6, 0, 0, 0, 0, 0, 0, 9, 0, 6, 0, 0, 0, 0, 0, 0, 9, 0, 6, 0, 0, 0, 0, 0, 0, 10, 0, 36, 0, 0, 0, 0, 0, 0, 0, 0, 0, 0, 0, 3, 0, 0, 0, 0, 0, 1, 1, 0, 1, 3, 2, 0, 7, 0, 0, 0, 0, 0, 0, 1, 4, 0, 1, 97]]
def v2 : AV := AV.str [1, 0, 1, 3, 9, 0, 6, 0, 0, 0, 0, 0, 0, 9, 0, 6, 0, 0, 0, 0, 0, 0, 9, 0, 6, 0, 0, 0, 0, 0, 0, 10, 0, 36, 0, 0, 0, 0, 0, 0, 0, 0, 0, 0, 0, 3, 0, 0, 0, 0, 0, 1, 1, 0, 1, 3, 2, 0, 7, 0, 0, 0, 0, 0, 0, 1, 4, 0, 1, 97, 205, 55, 119, 38]
set_option maxRecDepth 1000000 in
theorem c2 : KnownS Tryz.prog nibs 204 l2 v2 := known_of (C := C0) (n := 100000) fol1 fol2 knows0 (by decide +kernel) (by decide +kernel)
def l3 : List AV := [AV.str [1, 0, 1, 2, 4, 0, 6, 0, 0, 0, 0, 0, 1, 8, 0, 6, 0, 0, 0, 0, 0, 3, 13, 0, 25, 2, 0, 7, 1, 0, 0, 0, 0, 0, 1, 3, 0, 12, 1, 1, 0, 0, 0, 0, 0, 0, 0, 0, 0, 1]]
def v3 : AV := AV.str [1, 0, 1, 2, 4, 0, 6, 0, 0, 0, 0, 0, 1, 8, 0, 6, 0, 0, 0, 0, 0, 3, 13, 0, 25, 2, 0, 7, 1, 0, 0, 0, 0, 0, 1, 3, 0, 12, 1, 1, 0, 0, 0, 0, 0, 0, 0, 0, 0, 1, 240, 45, 124, 127]
set_option maxRecDepth 1000000 in
theorem c3 : KnownS Tryz.prog nibs 204 l3 v3 := known_of (C := C0) (n := 100000) fol1 fol2 knows0 (by decide +kernel) (by decide +kernel)
end Go.Proofs.YtcpmhehklicpfaaGreatDoor.Ev
