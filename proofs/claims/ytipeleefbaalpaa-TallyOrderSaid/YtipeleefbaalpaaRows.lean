/-
  No cell of these rows narrows 'for every input' (looked for: loops, veiled, ifaces, maps, wideKeys, modest, calm, conditions, laid).
  DERIVED. THE GIVEN ROWS OF THIS SEAT. 12 by the template 'for every input the law returns true; each argument reads behind the call as it read before'; 0 by the template 'total and deterministic' (their statements: YtipeleefbaalpaaTotals.lean).
  GIVEN WITH THE SEED: the statements are not yours to turn. If you find one false, say at which input.
  Laid BY PROGRAM, IN A SANDBOX (cutbox-rows.mjs): the forced cells as the released guide's own fill.sh prints them over the translation d1ee8ac1a3a62311… (all of the seat's roots in one cut). By AI agents, Wed Nov 11 2026. No macro, syntax, notation, axiom, sorry.
-/
import Derived.Test.YtipeleefbaalpaaChecked
import GoSem.Claim
import GoSem.ClaimJoined
import GoSem.ClaimMapViews
import Derived.JoinedTies
import Derived.KernelRfl
namespace Go.Proofs.Ytipeleefbaalpaa
/- THE CELL 'sum', in the pinned program and in every row, IS THE sha256 OF THE DUMP (.gsa) THAT YtipeleefbaalpaaProg.lean LOADS. Nothing in Lean hashes anything: it is a label: what it is worth is what the hold of that sum in a sandbox is worth. -/
noncomputable def Try.pinned : Pinned := { name := "ytipeleefbaalpaa", sum := "d1ee8ac1a3a623110c6719bbae8237188f2c18d395eca9131b666698741f2af4", checked := Try.checked }
namespace Rows
def none {H : Type} : Left H := { results := [], args := [] }

/-- 'sextonlaw20.NonceOlds': WHATEVER THE INPUT: true; the input reads as it did. -/
def nonceOldsSpec : ChangeSpec := { name := "nonceOlds", fn := fun _ => fun
  | [d1, d2, d3] => { results := [.lit (.bool true)], args := [d1, d2, d3] }
  | _ => none }
def nonceOldsRow : OpenClaim := { program := "ytipeleefbaalpaa", sum := "d1ee8ac1a3a623110c6719bbae8237188f2c18d395eca9131b666698741f2af4", func := "sexton/sextonlaw20.NonceOlds", spec := "nonceOlds", apart := false }
def NonceOldsSaid : Prop := nonceOldsRow.holds Try.pinned (OpenSpec.ofChange nonceOldsSpec)

/-- ITS FALSE NEIGHBOUR: 'it returns false'. Refute it at one input. -/
def nonceOldsWrong : ChangeSpec := { name := "nonceOlds", fn := fun _ => fun
  | [d1, d2, d3] => { results := [.lit (.bool false)], args := [d1, d2, d3] }
  | _ => none }
def NonceOldsWrongFalsely : Prop := nonceOldsRow.holds Try.pinned (OpenSpec.ofChange nonceOldsWrong)

/-- 'sextonlaw20.NonceMerges': WHATEVER THE INPUT: true; the input reads as it did. -/
def nonceMergesSpec : ChangeSpec := { name := "nonceMerges", fn := fun _ => fun
  | [d1, d2] => { results := [.lit (.bool true)], args := [d1, d2] }
  | _ => none }
def nonceMergesRow : OpenClaim := { program := "ytipeleefbaalpaa", sum := "d1ee8ac1a3a623110c6719bbae8237188f2c18d395eca9131b666698741f2af4", func := "sexton/sextonlaw20.NonceMerges", spec := "nonceMerges", apart := false }
def NonceMergesSaid : Prop := nonceMergesRow.holds Try.pinned (OpenSpec.ofChange nonceMergesSpec)

/-- ITS FALSE NEIGHBOUR: 'it returns false'. Refute it at one input. -/
def nonceMergesWrong : ChangeSpec := { name := "nonceMerges", fn := fun _ => fun
  | [d1, d2] => { results := [.lit (.bool false)], args := [d1, d2] }
  | _ => none }
def NonceMergesWrongFalsely : Prop := nonceMergesRow.holds Try.pinned (OpenSpec.ofChange nonceMergesWrong)

/-- 'sextonlaw20.NonceJoins': WHATEVER THE INPUT: true; the input reads as it did. -/
def nonceJoinsSpec : ChangeSpec := { name := "nonceJoins", fn := fun _ => fun
  | [d1, d2, d3] => { results := [.lit (.bool true)], args := [d1, d2, d3] }
  | _ => none }
def nonceJoinsRow : OpenClaim := { program := "ytipeleefbaalpaa", sum := "d1ee8ac1a3a623110c6719bbae8237188f2c18d395eca9131b666698741f2af4", func := "sexton/sextonlaw20.NonceJoins", spec := "nonceJoins", apart := false }
def NonceJoinsSaid : Prop := nonceJoinsRow.holds Try.pinned (OpenSpec.ofChange nonceJoinsSpec)

/-- ITS FALSE NEIGHBOUR: 'it returns false'. Refute it at one input. -/
def nonceJoinsWrong : ChangeSpec := { name := "nonceJoins", fn := fun _ => fun
  | [d1, d2, d3] => { results := [.lit (.bool false)], args := [d1, d2, d3] }
  | _ => none }
def NonceJoinsWrongFalsely : Prop := nonceJoinsRow.holds Try.pinned (OpenSpec.ofChange nonceJoinsWrong)

/-- 'sextonlaw20.NonceBegins': WHATEVER THE INPUT: true; the input reads as it did. -/
def nonceBeginsSpec : ChangeSpec := { name := "nonceBegins", fn := fun _ => fun
  | [d1, d2, d3] => { results := [.lit (.bool true)], args := [d1, d2, d3] }
  | _ => none }
def nonceBeginsRow : OpenClaim := { program := "ytipeleefbaalpaa", sum := "d1ee8ac1a3a623110c6719bbae8237188f2c18d395eca9131b666698741f2af4", func := "sexton/sextonlaw20.NonceBegins", spec := "nonceBegins", apart := false }
def NonceBeginsSaid : Prop := nonceBeginsRow.holds Try.pinned (OpenSpec.ofChange nonceBeginsSpec)

/-- ITS FALSE NEIGHBOUR: 'it returns false'. Refute it at one input. -/
def nonceBeginsWrong : ChangeSpec := { name := "nonceBegins", fn := fun _ => fun
  | [d1, d2, d3] => { results := [.lit (.bool false)], args := [d1, d2, d3] }
  | _ => none }
def NonceBeginsWrongFalsely : Prop := nonceBeginsRow.holds Try.pinned (OpenSpec.ofChange nonceBeginsWrong)

/-- 'sextonlaw21.TallyOrder': WHATEVER THE INPUT: true; the input reads as it did. -/
def tallyOrderSpec : ChangeSpec := { name := "tallyOrder", fn := fun _ => fun
  | [d] => { results := [.lit (.bool true)], args := [d] }
  | _ => none }
def tallyOrderRow : OpenClaim := { program := "ytipeleefbaalpaa", sum := "d1ee8ac1a3a623110c6719bbae8237188f2c18d395eca9131b666698741f2af4", func := "sexton/sextonlaw21.TallyOrder", spec := "tallyOrder", unfollowed := true, recurses := true, apart := false }
def TallyOrderSaid : Prop := tallyOrderRow.holds Try.pinned (OpenSpec.ofChange tallyOrderSpec)

/-- ITS FALSE NEIGHBOUR: 'it returns false'. Refute it at one input. -/
def tallyOrderWrong : ChangeSpec := { name := "tallyOrder", fn := fun _ => fun
  | [d] => { results := [.lit (.bool false)], args := [d] }
  | _ => none }
def TallyOrderWrongFalsely : Prop := tallyOrderRow.holds Try.pinned (OpenSpec.ofChange tallyOrderWrong)

/-- 'sextonlaw06.PanelReaches': WHATEVER THE INPUT: true; the input reads as it did. -/
def panelReachesSpec : ChangeSpec := { name := "panelReaches", fn := fun _ => fun
  | [d1, d2] => { results := [.lit (.bool true)], args := [d1, d2] }
  | _ => none }
def panelReachesRow : OpenClaim := { program := "ytipeleefbaalpaa", sum := "d1ee8ac1a3a623110c6719bbae8237188f2c18d395eca9131b666698741f2af4", func := "sexton/sextonlaw06.PanelReaches", spec := "panelReaches", unfollowed := true, recurses := true, apart := false }
def PanelReachesSaid : Prop := panelReachesRow.holds Try.pinned (OpenSpec.ofChange panelReachesSpec)

/-- ITS FALSE NEIGHBOUR: 'it returns false'. Refute it at one input. -/
def panelReachesWrong : ChangeSpec := { name := "panelReaches", fn := fun _ => fun
  | [d1, d2] => { results := [.lit (.bool false)], args := [d1, d2] }
  | _ => none }
def PanelReachesWrongFalsely : Prop := panelReachesRow.holds Try.pinned (OpenSpec.ofChange panelReachesWrong)

/-- 'sextonlaw06.PanelGrows': WHATEVER THE INPUT: true; the input reads as it did. -/
def panelGrowsSpec : ChangeSpec := { name := "panelGrows", fn := fun _ => fun
  | [d1, d2, d3] => { results := [.lit (.bool true)], args := [d1, d2, d3] }
  | _ => none }
def panelGrowsRow : OpenClaim := { program := "ytipeleefbaalpaa", sum := "d1ee8ac1a3a623110c6719bbae8237188f2c18d395eca9131b666698741f2af4", func := "sexton/sextonlaw06.PanelGrows", spec := "panelGrows", unfollowed := true, recurses := true, apart := false }
def PanelGrowsSaid : Prop := panelGrowsRow.holds Try.pinned (OpenSpec.ofChange panelGrowsSpec)

/-- ITS FALSE NEIGHBOUR: 'it returns false'. Refute it at one input. -/
def panelGrowsWrong : ChangeSpec := { name := "panelGrows", fn := fun _ => fun
  | [d1, d2, d3] => { results := [.lit (.bool false)], args := [d1, d2, d3] }
  | _ => none }
def PanelGrowsWrongFalsely : Prop := panelGrowsRow.holds Try.pinned (OpenSpec.ofChange panelGrowsWrong)

/-- 'sextonlaw06.PanelWho': WHATEVER THE INPUT: true; the input reads as it did. -/
def panelWhoSpec : ChangeSpec := { name := "panelWho", fn := fun _ => fun
  | [d1, d2, d3] => { results := [.lit (.bool true)], args := [d1, d2, d3] }
  | _ => none }
def panelWhoRow : OpenClaim := { program := "ytipeleefbaalpaa", sum := "d1ee8ac1a3a623110c6719bbae8237188f2c18d395eca9131b666698741f2af4", func := "sexton/sextonlaw06.PanelWho", spec := "panelWho", unfollowed := true, recurses := true, apart := false }
def PanelWhoSaid : Prop := panelWhoRow.holds Try.pinned (OpenSpec.ofChange panelWhoSpec)

/-- ITS FALSE NEIGHBOUR: 'it returns false'. Refute it at one input. -/
def panelWhoWrong : ChangeSpec := { name := "panelWho", fn := fun _ => fun
  | [d1, d2, d3] => { results := [.lit (.bool false)], args := [d1, d2, d3] }
  | _ => none }
def PanelWhoWrongFalsely : Prop := panelWhoRow.holds Try.pinned (OpenSpec.ofChange panelWhoWrong)

/-- 'sextonlaw06.PanelTurns': WHATEVER THE INPUT: true; the input reads as it did. -/
def panelTurnsSpec : ChangeSpec := { name := "panelTurns", fn := fun _ => fun
  | [d1, d2] => { results := [.lit (.bool true)], args := [d1, d2] }
  | _ => none }
def panelTurnsRow : OpenClaim := { program := "ytipeleefbaalpaa", sum := "d1ee8ac1a3a623110c6719bbae8237188f2c18d395eca9131b666698741f2af4", func := "sexton/sextonlaw06.PanelTurns", spec := "panelTurns", unfollowed := true, recurses := true, apart := false }
def PanelTurnsSaid : Prop := panelTurnsRow.holds Try.pinned (OpenSpec.ofChange panelTurnsSpec)

/-- ITS FALSE NEIGHBOUR: 'it returns false'. Refute it at one input. -/
def panelTurnsWrong : ChangeSpec := { name := "panelTurns", fn := fun _ => fun
  | [d1, d2] => { results := [.lit (.bool false)], args := [d1, d2] }
  | _ => none }
def PanelTurnsWrongFalsely : Prop := panelTurnsRow.holds Try.pinned (OpenSpec.ofChange panelTurnsWrong)

/-- 'sextonlaw21.TallyForgets': WHATEVER THE INPUT: true; the input reads as it did. -/
def tallyForgetsSpec : ChangeSpec := { name := "tallyForgets", fn := fun _ => fun
  | [d1, d2] => { results := [.lit (.bool true)], args := [d1, d2] }
  | _ => none }
def tallyForgetsRow : OpenClaim := { program := "ytipeleefbaalpaa", sum := "d1ee8ac1a3a623110c6719bbae8237188f2c18d395eca9131b666698741f2af4", func := "sexton/sextonlaw21.TallyForgets", spec := "tallyForgets", unfollowed := true, recurses := true, apart := false }
def TallyForgetsSaid : Prop := tallyForgetsRow.holds Try.pinned (OpenSpec.ofChange tallyForgetsSpec)

/-- ITS FALSE NEIGHBOUR: 'it returns false'. Refute it at one input. -/
def tallyForgetsWrong : ChangeSpec := { name := "tallyForgets", fn := fun _ => fun
  | [d1, d2] => { results := [.lit (.bool false)], args := [d1, d2] }
  | _ => none }
def TallyForgetsWrongFalsely : Prop := tallyForgetsRow.holds Try.pinned (OpenSpec.ofChange tallyForgetsWrong)

/-- 'sextonlaw21.TallySteps': WHATEVER THE INPUT: true; the input reads as it did. -/
def tallyStepsSpec : ChangeSpec := { name := "tallySteps", fn := fun _ => fun
  | [d1, d2] => { results := [.lit (.bool true)], args := [d1, d2] }
  | _ => none }
def tallyStepsRow : OpenClaim := { program := "ytipeleefbaalpaa", sum := "d1ee8ac1a3a623110c6719bbae8237188f2c18d395eca9131b666698741f2af4", func := "sexton/sextonlaw21.TallySteps", spec := "tallySteps", unfollowed := true, recurses := true, apart := false }
def TallyStepsSaid : Prop := tallyStepsRow.holds Try.pinned (OpenSpec.ofChange tallyStepsSpec)

/-- ITS FALSE NEIGHBOUR: 'it returns false'. Refute it at one input. -/
def tallyStepsWrong : ChangeSpec := { name := "tallySteps", fn := fun _ => fun
  | [d1, d2] => { results := [.lit (.bool false)], args := [d1, d2] }
  | _ => none }
def TallyStepsWrongFalsely : Prop := tallyStepsRow.holds Try.pinned (OpenSpec.ofChange tallyStepsWrong)

/-- 'sextonlaw21.TallyNil': WHATEVER THE INPUT: true; the input reads as it did. -/
def tallyNilSpec : ChangeSpec := { name := "tallyNil", fn := fun _ => fun
  | [d] => { results := [.lit (.bool true)], args := [d] }
  | _ => none }
def tallyNilRow : OpenClaim := { program := "ytipeleefbaalpaa", sum := "d1ee8ac1a3a623110c6719bbae8237188f2c18d395eca9131b666698741f2af4", func := "sexton/sextonlaw21.TallyNil", spec := "tallyNil", unfollowed := true, recurses := true, apart := false }
def TallyNilSaid : Prop := tallyNilRow.holds Try.pinned (OpenSpec.ofChange tallyNilSpec)

/-- ITS FALSE NEIGHBOUR: 'it returns false'. Refute it at one input. -/
def tallyNilWrong : ChangeSpec := { name := "tallyNil", fn := fun _ => fun
  | [d] => { results := [.lit (.bool false)], args := [d] }
  | _ => none }
def TallyNilWrongFalsely : Prop := tallyNilRow.holds Try.pinned (OpenSpec.ofChange tallyNilWrong)

/- THE SECOND FORM. 'bulk': how many values and letters a reading holds, each counted each time it is reached (what is shared counts as often as it is met; a slice's spare places count too). A statement '..UptoSaid' is the law's where the arguments, and the package variables that the reading takes, are together of bulk at most 1048576: NARROWER than '..Said'. Prove '..Said' where nothing that the law and all that it calls make is longer than what came in: it says more and counts as full. Else prove '..UptoSaid'. A law counts once. -/
mutual
def uptoBulk {H : Type} : DataW H → Nat
  | .lit (.string bytes) => bytes.length + 1
  | .lit _ => 1
  | .nil => 1
  | .ptr d => uptoBulk d + 1
  | .slice elems spare => uptoBulkAll elems + uptoBulkAll spare + 1
  | .agg parts => uptoBulkAll parts + 1
  | .iface _ d => uptoBulk d + 1
  | .map entries => uptoBulkEntries entries + 1
  | .held _ => 1
def uptoBulkAll {H : Type} : List (DataW H) → Nat
  | [] => 0
  | d :: r => uptoBulk d + uptoBulkAll r
def uptoBulkEntries {H : Type} : List (Lit × DataW H) → Nat
  | [] => 0
  | x :: r => uptoBulkEntry x + uptoBulkEntries r
def uptoBulkEntry {H : Type} : Lit × DataW H → Nat
  | (.string bytes, d) => bytes.length + uptoBulk d + 1
  | (_, d) => uptoBulk d + 1
 end
def uptoSmall : (H : Type) → List (DataW H) → Bool := fun _ ds => decide (uptoBulkAll ds ≤ 1048576)
def OpenSpec.upto (s : _root_.Go.ChangeSpec) : _root_.Go.OpenSpec := { _root_.Go.OpenSpec.ofChange s with cond := some uptoSmall }

/-- 'sextonlaw20.NonceOlds', WHERE WHAT IT READS IS OF BULK AT MOST 1048576: true; the input reads as it did. -/
def nonceOldsUptoRow : OpenClaim := { program := "ytipeleefbaalpaa", sum := "d1ee8ac1a3a623110c6719bbae8237188f2c18d395eca9131b666698741f2af4", func := "sexton/sextonlaw20.NonceOlds", spec := "nonceOlds", apart := false, narrowed := true }
def NonceOldsUptoSaid : Prop := nonceOldsUptoRow.holds Try.pinned (OpenSpec.upto nonceOldsSpec)

/-- 'sextonlaw20.NonceMerges', WHERE WHAT IT READS IS OF BULK AT MOST 1048576: true; the input reads as it did. -/
def nonceMergesUptoRow : OpenClaim := { program := "ytipeleefbaalpaa", sum := "d1ee8ac1a3a623110c6719bbae8237188f2c18d395eca9131b666698741f2af4", func := "sexton/sextonlaw20.NonceMerges", spec := "nonceMerges", apart := false, narrowed := true }
def NonceMergesUptoSaid : Prop := nonceMergesUptoRow.holds Try.pinned (OpenSpec.upto nonceMergesSpec)

/-- 'sextonlaw20.NonceJoins', WHERE WHAT IT READS IS OF BULK AT MOST 1048576: true; the input reads as it did. -/
def nonceJoinsUptoRow : OpenClaim := { program := "ytipeleefbaalpaa", sum := "d1ee8ac1a3a623110c6719bbae8237188f2c18d395eca9131b666698741f2af4", func := "sexton/sextonlaw20.NonceJoins", spec := "nonceJoins", apart := false, narrowed := true }
def NonceJoinsUptoSaid : Prop := nonceJoinsUptoRow.holds Try.pinned (OpenSpec.upto nonceJoinsSpec)

/-- 'sextonlaw20.NonceBegins', WHERE WHAT IT READS IS OF BULK AT MOST 1048576: true; the input reads as it did. -/
def nonceBeginsUptoRow : OpenClaim := { program := "ytipeleefbaalpaa", sum := "d1ee8ac1a3a623110c6719bbae8237188f2c18d395eca9131b666698741f2af4", func := "sexton/sextonlaw20.NonceBegins", spec := "nonceBegins", apart := false, narrowed := true }
def NonceBeginsUptoSaid : Prop := nonceBeginsUptoRow.holds Try.pinned (OpenSpec.upto nonceBeginsSpec)

/-- 'sextonlaw21.TallyOrder', WHERE WHAT IT READS IS OF BULK AT MOST 1048576: true; the input reads as it did. -/
def tallyOrderUptoRow : OpenClaim := { program := "ytipeleefbaalpaa", sum := "d1ee8ac1a3a623110c6719bbae8237188f2c18d395eca9131b666698741f2af4", func := "sexton/sextonlaw21.TallyOrder", spec := "tallyOrder", unfollowed := true, recurses := true, apart := false, narrowed := true }
def TallyOrderUptoSaid : Prop := tallyOrderUptoRow.holds Try.pinned (OpenSpec.upto tallyOrderSpec)

/-- 'sextonlaw06.PanelReaches', WHERE WHAT IT READS IS OF BULK AT MOST 1048576: true; the input reads as it did. -/
def panelReachesUptoRow : OpenClaim := { program := "ytipeleefbaalpaa", sum := "d1ee8ac1a3a623110c6719bbae8237188f2c18d395eca9131b666698741f2af4", func := "sexton/sextonlaw06.PanelReaches", spec := "panelReaches", unfollowed := true, recurses := true, apart := false, narrowed := true }
def PanelReachesUptoSaid : Prop := panelReachesUptoRow.holds Try.pinned (OpenSpec.upto panelReachesSpec)

/-- 'sextonlaw06.PanelGrows', WHERE WHAT IT READS IS OF BULK AT MOST 1048576: true; the input reads as it did. -/
def panelGrowsUptoRow : OpenClaim := { program := "ytipeleefbaalpaa", sum := "d1ee8ac1a3a623110c6719bbae8237188f2c18d395eca9131b666698741f2af4", func := "sexton/sextonlaw06.PanelGrows", spec := "panelGrows", unfollowed := true, recurses := true, apart := false, narrowed := true }
def PanelGrowsUptoSaid : Prop := panelGrowsUptoRow.holds Try.pinned (OpenSpec.upto panelGrowsSpec)

/-- 'sextonlaw06.PanelWho', WHERE WHAT IT READS IS OF BULK AT MOST 1048576: true; the input reads as it did. -/
def panelWhoUptoRow : OpenClaim := { program := "ytipeleefbaalpaa", sum := "d1ee8ac1a3a623110c6719bbae8237188f2c18d395eca9131b666698741f2af4", func := "sexton/sextonlaw06.PanelWho", spec := "panelWho", unfollowed := true, recurses := true, apart := false, narrowed := true }
def PanelWhoUptoSaid : Prop := panelWhoUptoRow.holds Try.pinned (OpenSpec.upto panelWhoSpec)

/-- 'sextonlaw06.PanelTurns', WHERE WHAT IT READS IS OF BULK AT MOST 1048576: true; the input reads as it did. -/
def panelTurnsUptoRow : OpenClaim := { program := "ytipeleefbaalpaa", sum := "d1ee8ac1a3a623110c6719bbae8237188f2c18d395eca9131b666698741f2af4", func := "sexton/sextonlaw06.PanelTurns", spec := "panelTurns", unfollowed := true, recurses := true, apart := false, narrowed := true }
def PanelTurnsUptoSaid : Prop := panelTurnsUptoRow.holds Try.pinned (OpenSpec.upto panelTurnsSpec)

/-- 'sextonlaw21.TallyForgets', WHERE WHAT IT READS IS OF BULK AT MOST 1048576: true; the input reads as it did. -/
def tallyForgetsUptoRow : OpenClaim := { program := "ytipeleefbaalpaa", sum := "d1ee8ac1a3a623110c6719bbae8237188f2c18d395eca9131b666698741f2af4", func := "sexton/sextonlaw21.TallyForgets", spec := "tallyForgets", unfollowed := true, recurses := true, apart := false, narrowed := true }
def TallyForgetsUptoSaid : Prop := tallyForgetsUptoRow.holds Try.pinned (OpenSpec.upto tallyForgetsSpec)

/-- 'sextonlaw21.TallySteps', WHERE WHAT IT READS IS OF BULK AT MOST 1048576: true; the input reads as it did. -/
def tallyStepsUptoRow : OpenClaim := { program := "ytipeleefbaalpaa", sum := "d1ee8ac1a3a623110c6719bbae8237188f2c18d395eca9131b666698741f2af4", func := "sexton/sextonlaw21.TallySteps", spec := "tallySteps", unfollowed := true, recurses := true, apart := false, narrowed := true }
def TallyStepsUptoSaid : Prop := tallyStepsUptoRow.holds Try.pinned (OpenSpec.upto tallyStepsSpec)

/-- 'sextonlaw21.TallyNil', WHERE WHAT IT READS IS OF BULK AT MOST 1048576: true; the input reads as it did. -/
def tallyNilUptoRow : OpenClaim := { program := "ytipeleefbaalpaa", sum := "d1ee8ac1a3a623110c6719bbae8237188f2c18d395eca9131b666698741f2af4", func := "sexton/sextonlaw21.TallyNil", spec := "tallyNil", unfollowed := true, recurses := true, apart := false, narrowed := true }
def TallyNilUptoSaid : Prop := tallyNilUptoRow.holds Try.pinned (OpenSpec.upto tallyNilSpec)

end Rows
end Go.Proofs.Ytipeleefbaalpaa
