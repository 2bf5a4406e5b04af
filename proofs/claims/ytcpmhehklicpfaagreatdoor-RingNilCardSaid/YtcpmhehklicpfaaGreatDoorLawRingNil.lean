/- The row and the tied card of RingNil: for every input the law returns true and leaves its argument alone, where the package poly's table reads as its initialiser lays it, which the card ties to the program's text. -/
import Derived.Test.YtcpmhehklicpfaaGreatDoorRows
import Derived.Test.YtcpmhehklicpfaaGreatDoorCards
import Derived.Test.YtcpmhehklicpfaaGreatDoorTie
import Derived.Test.YtcpmhehklicpfaaGreatDoorLawFacts
import Derived.Test.YtcpmhehklicpfaaGreatDoorLawCard
import Derived.Test.YtcpmhehklicpfaaGreatDoorEvKW
import Derived.Deep.Slices
import Derived.Lib.SmallJoins
import Derived.WalkKit
import Derived.ProofKit
import Derived.OpenShut
import Derived.ShutString
import Derived.ChangeOld
import Derived.Below
import Derived.Carry
import Derived.SizedLaws
import Derived.LaidMore
import Derived.Stop.Joined
import Derived.Lib.LaidTab
import Derived.Stop.LaidErr
import Derived.MakeChecks
import Derived.SevenTiedAt
namespace Go.Proofs.YtcpmhehklicpfaaGreatDoor.ringNil
open Go.ChangeShapes Go.WideShapes Go.ChangeAt Go.RowKit Go.Joins Go.Deep
set_option linter.unusedVariables false
theorem own : ownKnob Tryz.prog.godebug = none := by kernel_rfl
theorem laidOut : laidOutB Tryz.prog = true := by kernel_rfl
def laid1 : List (String × DataW Unit) := [("sexton/poly.nibbles", Rows.laid_sexton_poly_nibbles)]
theorem g0 : Tryz.prog.globalNamed "sexton/poly.nibbles" = some 0 := by kernel_rfl
/-- The door's own heap meets the condition. -/
theorem door_met (os : Os) (args : Array Value) : laidMetH Tryz.prog laid1 ((World.doorLaid Tryz.prog 400 os).forCall (fun _ _ => 0) ⟨#[], args, []⟩).memory :=
  laidMetH_of_parts3 (fuel := 8) (laidMet_of_run' 8 (by kernel_rfl) (by kernel_rfl)) (by kernel_rfl) (by kernel_rfl)
theorem block_of {W : World} {b i : Nat} {v : Value} (h : W.cell? ⟨b, i, none⟩ = some v) : ∃ cs e f, W.heap[b]? = some (.cells cs e f) ∧ cs[i]? = some v := by
  unfold World.cell? at h
  split at h
  · rename_i c e f ho
    exact ⟨c, e, f, ho, by simpa using h⟩
  · cases h
theorem nib_of_laid {W : World} (h : laidMetH Tryz.prog laid1 W) : ∀ g ∈ Ev.nibs, Ev.LaidAt W Tryz.prog g := by
  rw [MakeChecks.laidMetH_plain _ _ _ (by kernel_rfl)] at h
  have hT : Lib.TabIs Tryz.prog W "sexton/poly.nibbles" .u32 Ev.nibZ :=
    Lib.tabIs_of_head (n := 16) (t := 365) (e := 322) g0 (by kernel_rfl) (by kernel_rfl) (by kernel_rfl) (by kernel_rfl) (by kernel_rfl) h
  have hc : ∀ j, j < 16 → W.cell? ⟨0, j, none⟩ = some (.int .u32 (Ev.nibZ.getD j 0)) := fun j hj => by
    have := hT.cell g0 j (by simpa [Ev.nibZ] using hj)
    rw [this]
  intro g hg
  obtain rfl : g = (0, Ev.nibZ.map (Ev.AV.int .u32), 0) := by simpa [Ev.nibs] using hg
  obtain ⟨cs, e, f, hb, _⟩ := block_of (hc 0 (by omega))
  have hcs : ∀ j, j < 16 → cs[j]? = some (.int .u32 (Ev.nibZ.getD j 0)) := fun j hj => by
    obtain ⟨cs', e', f', hb', h'⟩ := block_of (hc j hj)
    rw [hb] at hb'; cases hb'
    exact h'
  have hsz : 16 ≤ cs.size := by have := (Array.getElem?_eq_some_iff.1 (hcs 15 (by omega))).1; omega
  refine ⟨cs, e, f, hb, Ev.VRs.iff.2 ⟨by simp [Ev.nibZ]; omega, fun i a v ha hv => ?_⟩⟩
  have hi : i < 16 := by have := (List.getElem?_eq_some_iff.1 ha).1; simpa [Ev.nibZ] using this
  have hl : (Ev.nibZ.map (Ev.AV.int .u32)).length = 16 := by simp [Ev.nibZ]
  rw [hl, List.getElem?_take_of_lt hi, Array.getElem?_toList, hcs i hi] at hv
  cases hv
  rw [List.getElem?_map] at ha
  have hz : Ev.nibZ[i]? = some (Ev.nibZ.getD i 0) := by
    rw [List.getD_eq_getElem?_getD]
    have : i < Ev.nibZ.length := by simpa [Ev.nibZ] using hi
    simp [this]
  rw [hz] at ha
  cases ha
  simp only [Ev.VR]
theorem anys : ∀ {l : List Value} {n : Nat}, l.length = n → Ev.VRs Ev.glob (List.replicate n Ev.AV.any) l
  | [], _, rfl => Ev.VRs.nil
  | _ :: _, _, rfl => Ev.VRs.cons (by simp only [Ev.VR]) (anys rfl)
theorem walk {W : World} (hL : laidMetH Tryz.prog laid1 W) {cs : Array Value} {x : Value} (hc : cs.size = 14) :
    Calls Tryz.prog 3 #[.agg cs, x] W (fun e W' => e = .returned (.bool true) ∧ Below W.heap.size W W') := by
  refine Ev.known_calls Ev.k1 ?_ (nib_of_laid hL)
  refine Ev.VRs.cons ?_ (Ev.VRs.cons (by simp only [Ev.VR]) Ev.VRs.nil)
  simp only [Ev.VR]
  exact ⟨_, rfl, anys (n := 14) (by simpa using hc)⟩
set_option maxRecDepth 100000 in
theorem lifted (os : Os) (started : os.Started) (H : Type) (enc : TypeId × Value → H) :
    ReturnsInHanded {} Tryz.checked os 3 .any (fun w args => (Rows.ringNilSpec.pre enc Tryz.prog Tryz.f3 [] false w args ∧ laidMetH Tryz.prog laid1 w) ∧ sizedMet enc Tryz.prog Tryz.f3 (OpenSpec.ofChange Rows.ringNilSpec) false w args)
      (Rows.ringNilSpec.post enc Tryz.prog Tryz.f3 false true false false) := by
  refine returnsInHanded_of_change_and (C := Tryz.checked) (X := fun w _ => laidMetH Tryz.prog laid1 w) (fun _ _ _ hh h => h.of_heap hh) own started (by kernel_rfl) Tryz.func3
    (ChangeSpec.witness_shaped (enc := enc) (C := Tryz.checked) (os := os) (X := fun w _ => laidMetH Tryz.prog laid1 w) false (World.doorLaid Tryz.prog 400 os) #[.agg #[.int .i64 0, .int .i64 0, .int .i64 0, .int .i64 0, .int .i64 0, .int .i64 0, .int .i64 0, .int .i64 0, .int .i64 0, .string ⟨#[]⟩, .string ⟨#[]⟩, .int .i64 0, .int .i64 0, .string ⟨#[]⟩], .int .i64 0] 8 rfl (World.shaped_of_RefB (by kernel_rfl) (by kernel_rfl)) (by kernel_rfl) (by kernel_rfl) (by kernel_rfl) (door_met os _)) ?_
  intro W base args ds gs before hval0 hW _ _ hL _
  have hval : ∀ (j : Nat) t v, Tryz.f3.params[j]? = some t → args[j]? = some v → Value.okWide Tryz.prog W .any base t v := hval0
  have hW' := hW
  obtain ⟨p, q, hA0, hV, rfl, hfz, hnd⟩ := hW
  have hA : DataW.TrodAll enc Tryz.prog W 0 (fun _ => true) true Tryz.f3.params.toList args.toList ds p := hA0
  rw [Tryz.params3] at hA hval
  obtain ⟨v0, vs0, d0, ds0, p0, q0, hargs, rfl, rfl, h0, r0⟩ := trodAll_cons hA
  obtain ⟨v1, vs1, d1, ds1, p1, q1, hargs1, rfl, rfl, h1, r1⟩ := trodAll_cons r0
  obtain ⟨rfl, rfl, rfl⟩ := trodAll_nil r1
  obtain rfl : args = #[v0, v1] := by cases args; simp_all
  obtain ⟨rfl, rfl⟩ := trodVars_none hV
  obtain ⟨cs, rfl, hcs⟩ := okWide_struct Tryz.underlying27 (hval 0 27 v0 rfl rfl)
  have hc : cs.size = 14 := hcs.trans (of_decide_eq_true (by kernel_rfl))
  have lt0 : ∀ x ∈ p0, x.block < W.heap.size := by obtain ⟨m, hm⟩ := h0; exact DataW.trod_lt m _ _ _ hm
  have lt1 : ∀ x ∈ p1, x.block < W.heap.size := by obtain ⟨m, hm⟩ := h1; exact DataW.trod_lt m _ _ _ hm
  clear hA0 hval0
  refine (walk hL hc).mono fun e W' ⟨he, bel⟩ => ?_
  subst he
  exact ⟨_, rfl, _, _, _, [], _, [], hW', trodAll_mk1 (shut_bool Tryz.underlying4 _), trodAll_mk2 (Below.trod laidOut (by kernel_rfl) (of_decide_eq_true (by kernel_rfl)) h0 bel lt0) (Below.trod laidOut (by kernel_rfl) (of_decide_eq_true (by kernel_rfl)) h1 bel lt1), rfl, bel.frame _, fun h => by cases h⟩
theorem over : Rows.ringNilRow.holds Tryz.pinned (OpenSpec.ofChange Rows.ringNilSpec) :=
  OpenClaim.holds_of_wide 3 Tryz.f3 rfl rfl rfl rfl rfl rfl rfl ⟨rfl, rfl, rfl, rfl, rfl⟩ rfl rfl rfl rfl rfl (by kernel_rfl) Tryz.func3 facts
    (of_decide_eq_true (by kernel_rfl)) (by unfold Func.isWrapper; first | (rw [if_pos (by decide +kernel)]; kernel_rfl) | (rw [if_neg (by decide +kernel)]; exact ⟨rfl, rfl⟩))
    (fun os started H enc _ => lifted os started H enc)
theorem proved : Rows.RingNilSaid := over
theorem card_proved : Rows.RingNilCardSaid :=
  Claim7.holds_tied_plain_at .later [] [.data] true (true, "6e138b2724071163c8e2b97c96a751fd2ccf7a903642327e0e608682ea315797") true
    proved (fun _ h => by cases h) cw (fun _ h => by cases h) ringNil_row_tie rfl ⟨rfl, rfl⟩ cm rfl
    (fun f fn hf hfn => by
      obtain rfl : f = 3 := (Option.some.inj (cf.symm.trans hf)).symm
      obtain rfl : fn = Tryz.f3 := (Option.some.inj (Tryz.func3.symm.trans hfn)).symm
      exact ⟨ck, fun j t ht => by
        rw [Tryz.params3] at ht
        have hm : t ∈ [27, 3] := by simpa using Array.mem_of_getElem? ht
        exact (show Tryz.prog.wantsStandIn t = false by simpa using List.all_eq_true.1 ca t hm)⟩)
    cg
#print axioms card_proved
end Go.Proofs.YtcpmhehklicpfaaGreatDoor.ringNil
namespace Go.Proofs.YtcpmhehklicpfaaGreatDoor
/-- The card, under a short name, for the claim. -/
theorem ringNil_holds : Rows.RingNilCardSaid := ringNil.card_proved
end Go.Proofs.YtcpmhehklicpfaaGreatDoor
