/- The row and the tied card of MemberNil: for every input the law returns true and leaves its argument alone, where the package poly's table reads as its initialiser lays it, which the card ties to the program's text. -/
import Derived.Test.YtpfedngmofpneaaGreatDoorRows
import Derived.Test.YtpfedngmofpneaaGreatDoorCards
import Derived.Test.YtpfedngmofpneaaGreatDoorTie
import Derived.Test.YtpfedngmofpneaaGreatDoorLawFacts
import Derived.Test.YtpfedngmofpneaaGreatDoorEvK1
import Derived.Test.YtpfedngmofpneaaGreatDoorEvK2
import Derived.Test.YtpfedngmofpneaaGreatDoorEvK3
import Derived.Deep.Slices
import Derived.Lib.SmallJoins
import Derived.WalkKit
import Derived.ProofKit
import Derived.OpenShut
import Derived.ShutString
import Derived.ChangeOld
import Derived.Below
import Derived.Carry
import Derived.SizedLaws
import Derived.LaidMore
import Derived.Stop.Joined
import Derived.Lib.LaidTab
import Derived.Stop.LaidErr
import Derived.MakeChecks
import Derived.SevenTiedAt
namespace Go.Proofs.YtpfedngmofpneaaGreatDoor.memberNil
open Go.ChangeShapes Go.WideShapes Go.ChangeAt Go.RowKit Go.Joins Go.Deep
set_option linter.unusedVariables false
theorem own : ownKnob Tryz.prog.godebug = none := by kernel_rfl
theorem laidOut : laidOutB Tryz.prog = true := by kernel_rfl
def laid1 : List (String × DataW Unit) := [("sexton/poly.nibbles", Rows.laid_sexton_poly_nibbles)]
theorem g0 : Tryz.prog.globalNamed "sexton/poly.nibbles" = some 0 := by kernel_rfl
/-- The door's own heap meets the condition. -/
theorem door_met (os : Os) (args : Array Value) : laidMetH Tryz.prog laid1 ((World.doorLaid Tryz.prog 400 os).forCall (fun _ _ => 0) ⟨#[], args, []⟩).memory :=
  laidMetH_of_parts3 (fuel := 8) (laidMet_of_run' 8 (by kernel_rfl) (by kernel_rfl)) (by kernel_rfl) (by kernel_rfl)
theorem block_of {W : World} {b i : Nat} {v : Value} (h : W.cell? ⟨b, i, none⟩ = some v) : ∃ cs e f, W.heap[b]? = some (.cells cs e f) ∧ cs[i]? = some v := by
  unfold World.cell? at h
  split at h
  · rename_i c e f ho
    exact ⟨c, e, f, ho, by simpa using h⟩
  · cases h
theorem nib_of_laid {W : World} (h : laidMetH Tryz.prog laid1 W) : ∀ g ∈ Ev.nibs, Ev.LaidAt W Tryz.prog g := by
  rw [MakeChecks.laidMetH_plain _ _ _ (by kernel_rfl)] at h
  have hT : Lib.TabIs Tryz.prog W "sexton/poly.nibbles" .u32 Ev.nibZ :=
    Lib.tabIs_of_head (n := 16) (t := 323) (e := 273) g0 (by kernel_rfl) (by kernel_rfl) (by kernel_rfl) (by kernel_rfl) (by kernel_rfl) h
  have hc : ∀ j, j < 16 → W.cell? ⟨0, j, none⟩ = some (.int .u32 (Ev.nibZ.getD j 0)) := fun j hj => by
    have := hT.cell g0 j (by simpa [Ev.nibZ] using hj)
    rw [this]
  intro g hg
  obtain rfl : g = (0, Ev.nibZ.map (Ev.AV.int .u32), 0) := by simpa [Ev.nibs] using hg
  obtain ⟨cs, e, f, hb, _⟩ := block_of (hc 0 (by omega))
  have hcs : ∀ j, j < 16 → cs[j]? = some (.int .u32 (Ev.nibZ.getD j 0)) := fun j hj => by
    obtain ⟨cs', e', f', hb', h'⟩ := block_of (hc j hj)
    rw [hb] at hb'; cases hb'
    exact h'
  have hsz : 16 ≤ cs.size := by have := (Array.getElem?_eq_some_iff.1 (hcs 15 (by omega))).1; omega
  refine ⟨cs, e, f, hb, Ev.VRs.iff.2 ⟨by simp [Ev.nibZ]; omega, fun i a v ha hv => ?_⟩⟩
  have hi : i < 16 := by have := (List.getElem?_eq_some_iff.1 ha).1; simpa [Ev.nibZ] using this
  have hl : (Ev.nibZ.map (Ev.AV.int .u32)).length = 16 := by simp [Ev.nibZ]
  rw [hl, List.getElem?_take_of_lt hi, Array.getElem?_toList, hcs i hi] at hv
  cases hv
  rw [List.getElem?_map] at ha
  have hz : Ev.nibZ[i]? = some (Ev.nibZ.getD i 0) := by
    rw [List.getD_eq_getElem?_getD]
    have : i < Ev.nibZ.length := by simpa [Ev.nibZ] using hi
    simp [this]
  rw [hz] at ha
  cases ha
  simp only [Ev.VR]
theorem open_cells3 {H : Type} {P : Program} {enc : TypeId × Value → H} {w : World} {base : Nat} {spare : Nat → Bool} {held : Bool} {n : Nat} {cs : List Value} {x : DataW H × List MemPlace} {t : TypeId} {f0 f1 f2 : Field} (hs : P.underlying t = some (.struct #[f0, f1, f2])) (hone : oneCellFields P #[f0, f1, f2] = true) (hC : P.cellsOf t = 3)
    (h : DataW.trod enc P w base spare held n t cs = some x) :
    ∃ (v0 v1 v2 : Value) (y0 y1 y2 : DataW H × List MemPlace) (m : Nat), cs = [v0, v1, v2] ∧ x.2 = y0.2 ++ (y1.2 ++ y2.2) ∧ DataW.trod enc P w base spare held m f0.type [v0] = some y0 ∧ DataW.trod enc P w base spare held m f1.type [v1] = some y1 ∧ DataW.trod enc P w base spare held m f2.type [v2] = some y2 := by
  obtain ⟨y0, y1, y2, m, rfl, hl, h0, h1, h2⟩ := trod_struct3 hs h
  obtain ⟨o0, k0⟩ := hone_of hone 0 f0 rfl
  obtain ⟨o1, k1⟩ := hone_of hone 1 f1 rfl
  obtain ⟨o2, k2⟩ := hone_of hone 2 f2 rfl
  match cs, hl.trans hC with
  | [c0, c1, c2], _ => exact ⟨c0, c1, c2, y0, y1, y2, m, rfl, rfl, by simpa [o0, k0] using h0, by simpa [o1, k1] using h1, by simpa [o2, k2] using h2⟩
theorem wide {n : Int} (h : (Lit.int .i64 n).wf = true) : -9223372036854775808 ≤ n ∧ n ≤ 9223372036854775807 := by
  simp [Lit.wf, IntKind.min, IntKind.max, IntKind.signed, IntKind.bits] at h
  omega
theorem walk {W : World} (hL : laidMetH Tryz.prog laid1 W) {a0 a1 : Int} {s : ByteArray} (w0 : (Lit.int .i64 a0).wf = true) (w1 : (Lit.int .i64 a1).wf = true) :
    Calls Tryz.prog 3 #[.agg #[.int .i64 a0, .int .i64 a1, .string s]] W (fun e W' => e = .returned (.bool true) ∧ Below W.heap.size W W') := by
  have w0 := wide w0
  have w1 := wide w1
  have ha : ∀ lo hi, lo ≤ a1 → a1 ≤ hi → Ev.VRs Ev.glob [Ev.doIn lo hi] (#[Value.agg #[.int .i64 a0, .int .i64 a1, .string s]] : Array Value).toList := fun lo hi h1 h2 => by
    refine Ev.VRs.cons ?_ Ev.VRs.nil
    simp only [Ev.doIn, Ev.VR]
    refine ⟨_, rfl, Ev.VRs.cons ?_ (Ev.VRs.cons ?_ (Ev.VRs.cons ?_ Ev.VRs.nil))⟩
    · simp only [Ev.VR]; exact ⟨a0, rfl, w0.1, w0.2⟩
    · simp only [Ev.VR]; exact ⟨a1, rfl, h1, h2⟩
    · simp only [Ev.VR]; exact ⟨s, rfl⟩
  by_cases h1 : a1 ≤ 0
  · exact Ev.known_calls Ev.k1 (ha _ _ w1.1 h1) (nib_of_laid hL)
  · by_cases h2 : a1 ≤ 1099511627776
    · exact Ev.known_calls Ev.k2 (ha _ _ (by omega) h2) (nib_of_laid hL)
    · exact Ev.known_calls Ev.k3 (ha _ _ (by omega) w1.2) (nib_of_laid hL)
set_option maxRecDepth 100000 in
theorem lifted (os : Os) (started : os.Started) (H : Type) (enc : TypeId × Value → H) :
    ReturnsInHanded {} Tryz.checked os 3 .any (fun w args => (Rows.memberNilSpec.pre enc Tryz.prog Tryz.f3 [] false w args ∧ laidMetH Tryz.prog laid1 w) ∧ sizedMet enc Tryz.prog Tryz.f3 (OpenSpec.ofChange Rows.memberNilSpec) false w args)
      (Rows.memberNilSpec.post enc Tryz.prog Tryz.f3 false true false false) := by
  refine returnsInHanded_of_change_and (C := Tryz.checked) (X := fun w _ => laidMetH Tryz.prog laid1 w) (fun _ _ _ hh h => h.of_heap hh) own started (by kernel_rfl) Tryz.func3
    (ChangeSpec.witness_shaped (enc := enc) (C := Tryz.checked) (os := os) (X := fun w _ => laidMetH Tryz.prog laid1 w) false (World.doorLaid Tryz.prog 400 os) #[.agg #[.int .i64 0, .int .i64 0, .string ⟨#[]⟩]] 8 rfl (World.shaped_of_RefB (by kernel_rfl) (by kernel_rfl)) (by kernel_rfl) (by kernel_rfl) (by kernel_rfl) (door_met os _)) ?_
  intro W base args ds gs before hval0 hW _ _ hL _
  have hval : ∀ (j : Nat) t v, Tryz.f3.params[j]? = some t → args[j]? = some v → Value.okWide Tryz.prog W .any base t v := hval0
  have hW' := hW
  obtain ⟨p, q, hA0, hV, rfl, hfz, hnd⟩ := hW
  have hA : DataW.TrodAll enc Tryz.prog W 0 (fun _ => true) true Tryz.f3.params.toList args.toList ds p := hA0
  rw [Tryz.params3] at hA hval
  obtain ⟨v0, vs0, d0, ds0, p0, q0, hargs, rfl, rfl, h0, r0⟩ := trodAll_cons hA
  obtain ⟨rfl, rfl, rfl⟩ := trodAll_nil r0
  obtain rfl : args = #[v0] := by cases args; simp_all
  obtain ⟨rfl, rfl⟩ := trodVars_none hV
  obtain ⟨cs, rfl, _⟩ := okWide_struct Tryz.underlying23 (hval 0 23 v0 rfl rfl)
  have h0' := h0
  obtain ⟨fuel, hd⟩ := h0
  obtain ⟨c0, c1, c2, y0, y1, y2, m, hcs, hx, e0, e1, e2⟩ := open_cells3 Tryz.underlying23 (by kernel_rfl) (by kernel_rfl) hd
  obtain ⟨a0, u0, rfl, w0⟩ := DataW.trod_int Tryz.underlying3 e0
  obtain ⟨a1, u1, rfl, w1⟩ := DataW.trod_int Tryz.underlying3 e1
  obtain ⟨s, u2, rfl, _⟩ := DataW.trod_string Tryz.underlying9 e2
  obtain rfl : p0 = [] := by simpa using hx
  obtain rfl : cs = #[.int .i64 a0, .int .i64 a1, .string s] := by
    have : cs.toList = [c0, c1, c2] := hcs
    simp at u0 u1 u2
    subst u0 u1 u2
    cases cs; simp_all
  clear hA0 hval0
  refine (walk hL w0 w1).mono fun e W' ⟨he, bel⟩ => ?_
  subst he
  exact ⟨_, rfl, _, _, _, [], _, [], hW', trodAll_mk1 (shut_bool Tryz.underlying4 _), trodAll_mk1 (Below.trod laidOut (by kernel_rfl) (of_decide_eq_true (by kernel_rfl)) h0' bel (by simp)), rfl, bel.frame _, fun h => by cases h⟩
theorem over : Rows.memberNilRow.holds Tryz.pinned (OpenSpec.ofChange Rows.memberNilSpec) :=
  OpenClaim.holds_of_wide 3 Tryz.f3 rfl rfl rfl rfl rfl rfl rfl ⟨rfl, rfl, rfl, rfl, rfl⟩ rfl rfl rfl rfl rfl (by kernel_rfl) Tryz.func3 facts
    (of_decide_eq_true (by kernel_rfl)) (by unfold Func.isWrapper; first | (rw [if_pos (by decide +kernel)]; kernel_rfl) | (rw [if_neg (by decide +kernel)]; exact ⟨rfl, rfl⟩))
    (fun os started H enc _ => lifted os started H enc)
theorem proved : Rows.MemberNilSaid := over
theorem card_proved : Rows.MemberNilCardSaid :=
  Claim7.holds_tied_plain_at .later [] [.data] true (true, "1cea60f91197914c7426b1db2b99737fb211600ff18b6f9befc05dd5fc6e43a0") true
    proved (fun _ h => by cases h) (by kernel_rfl) (fun _ h => by cases h) memberNil_row_tie rfl ⟨rfl, rfl⟩ (by kernel_rfl) rfl
    (fun f fn hf hfn => by
      obtain rfl : f = 3 := Option.some.inj ((show Tryz.prog.funcNamed "sexton/sextonlaw24.MemberNil" = some 3 by kernel_rfl).symm.trans hf) |>.symm
      obtain rfl : fn = Tryz.f3 := (Option.some.inj (Tryz.func3.symm.trans hfn)).symm
      exact ⟨by kernel_rfl, fun j t ht => by
        rw [Tryz.params3] at ht
        have hm : t ∈ [23] := by simpa using Array.mem_of_getElem? ht
        have hall : ([23].all fun u => !Tryz.prog.wantsStandIn u) = true := by kernel_rfl
        exact (show Tryz.prog.wantsStandIn t = false by simpa using List.all_eq_true.1 hall t hm)⟩)
    (by kernel_rfl)
#print axioms card_proved
end Go.Proofs.YtpfedngmofpneaaGreatDoor.memberNil
namespace Go.Proofs.YtpfedngmofpneaaGreatDoor
/-- The card, under a short name, for the claim. -/
theorem memberNil_holds : Rows.MemberNilCardSaid := memberNil.card_proved
end Go.Proofs.YtpfedngmofpneaaGreatDoor
