/- The small case that each law of this layer asks: two bids of three nodes; true, whatever the world. -/
import Derived.Test.YtipeleefbaalpaaReached
import Derived.Test.YtipeleefbaalpaaTallyRun
import Derived.Below
import Derived.Deep.Draws
import Derived.Deep.AppendLies
import Derived.Maps.AppendAt
import Derived.OwnWalk
import Derived.Laws.BytesArg
import Derived.Laws.MakeOwn
import Derived.Laws.OwnMore
import Derived.Deep.OwnRows
import Derived.Tactics
import Derived.Lib.ConvBytes
import Derived.Laws.Slices
import Derived.WalkKit
import Derived.KernelRfl
import Derived.RowKit3
import Derived.Deep.LoopGhost
import Derived.Deep.QuietTactic
import Derived.BigQuiet
import Derived.WideLaws
import Derived.Deep.DeepCutAuto
import Derived.Deep.CutBlock
import Derived.Deep.RegionHeld3
import Derived.Laws.Rows
import Derived.Lib.AppendStr
import Derived.ArgAppend
import Derived.Laws.IdiomCopy
import Derived.OrdersHeld
import Derived.Laws.BitsLemmas
import Derived.RowKit
import Derived.StillTailTactics
import Derived.Deep.DeepMust
import Derived.Outline
import Derived.Test.YtipeleefbaalpaaWMore
namespace Go.Proofs.Ytipeleefbaalpaa.Ty
open Go.ChangeMaps Go.MapKept
open Go.RowKit Go.Shelf Go.Maps Go.Sort Go.Proofs.YtipeleefbaalpaaW.PrintWords Go.Proofs.YtipeleefbaalpaaW.PrintLast Go.Proofs.YtipeleefbaalpaaW.PrintMore Go.Proofs.Ytipeleefbaalpaa.Ext
abbrev twoL : List Bid := [(0, 2, 5), (2, 2, 7)]
theorem two_best {b : Bid} {c : Int} (h : BestIs twoL b c) : b = (2, 2, 7) ∧ c = 0 := by
  refine h.unique (.inr ⟨by simp, ⟨by simp, fun c hc hne => ?_⟩, rfl⟩)
  simp only [twoL, List.mem_cons, List.mem_nil_iff, or_false] at hc
  rcases hc with rfl | rfl
  · decide
  · exact absurd rfl hne
theorem one_best {b : Bid} {c : Int} (h : BestIs [(0, 2, 5)] b c) : b = (0, 2, 5) ∧ c = 0 := by
  refine h.unique (.inr ⟨by simp, ⟨by simp, fun c hc hne => ?_⟩, rfl⟩)
  simp only [List.mem_cons, List.mem_nil_iff, or_false] at hc
  exact absurd hc hne
set_option maxRecDepth 100000 in
set_option maxHeartbeats 4000000 in
theorem two_ok (w : World) : Calls Try.prog 29 #[] w fun e w' => e = .returned (.bool true) ∧ Below w.heap.size w w' := by
  go_enter Try.func29, Try.ntmps29
  go_wp2_with (first
    | (
      go_at_call 28
      refine (run_new 3 w w (Below.refl _ _) (by decide)).mono ?_
      rintro e w1 ⟨p, B, rfl, hR1, _, _, _⟩)
    | (
      go_at_call 30
      refine (run_add hR1 (0, 2, 5) (by decide)).mono ?_
      rintro e w2 ⟨rfl, hR2, _⟩
      change Run w w2 p B 3 [(0, 2, 5)] at hR2
      simp only [show addE 3 [] (0, 2, 5) = (true, 0) by decide]
      clear hR1)
    | (
      go_at_call 30
      refine (run_add hR2 (2, 2, 7) (by decide)).mono ?_
      rintro e w3 ⟨rfl, hR3, _⟩
      change Run w w3 p B 3 twoL at hR3
      simp only [show addE 3 [(0, 2, 5)] (2, 2, 7) = (true, 0) by decide]
      clear hR2)
    | (
      go_at_call 31
      refine (run_best hR3).mono ?_
      rintro e w4 ⟨b, c, rfl, hb, hR4, _⟩
      obtain ⟨rfl, rfl⟩ := two_best hb
      simp only [bidV]
      have hlt := hR4.at_.2.1.lt
      clear hR3 hb)
    | (
      go_at_call 45
      refine (run_enough (hR4.alloc _)).mono ?_
      rintro e w5 ⟨rfl, hR5, hg5⟩
      have hx5 : w5.cell? ⟨w4.heap.size, 0, none⟩ = some (.int .i64 2) := hg5.cell ((cell_new _ _ _ _ _).trans rfl) (by simp)
      simp only [show decide ((List.length twoL : Int) > 3 / 2) = true by decide]
      clear hR4 hg5)
    | (
      go_at_call 46
      refine (run_forget hR5 2 (by decide)).mono ?_
      rintro e w6 ⟨rfl, hR6, hg6⟩
      change Run w w6 p B 3 [(0, 2, 5)] at hR6
      have hx6 := hg6.cell hx5 (fun e => Nat.lt_irrefl _ (Option.some.inj e ▸ hlt))
      simp only [show forgetE 3 twoL 2 = (true, 0) by decide]
      clear hR5 hg6)
    | (
      go_at_call 31
      refine (run_best hR6).mono ?_
      rintro e w7 ⟨b, c, rfl, hb, hR7, hg7⟩
      obtain ⟨rfl, rfl⟩ := one_best hb
      have hx7 := hg7.cell hx6 (by simp)
      have hx8 := fun o => cell_alloc hx7 o
      simp only [bidV]
      clear hR6 hb hg7)
    | (
      go_at_call 45
      refine (run_enough (hR7.alloc _)).mono ?_
      rintro e w8 ⟨rfl, hR8, _⟩
      simp only [show decide ((List.length [((0, 2, 5) : Bid)] : Int) > 3 / 2) = false by decide]
      clear hR7))
  go_ret
  exact ⟨rfl, hR8.below⟩
end Go.Proofs.Ytipeleefbaalpaa.Ty
