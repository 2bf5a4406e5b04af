/- Out of the program's own print, by wip/myprint.py over the kit's print.py: functions as plain Lean, their contracts. -/
import Derived.Test.YtipeleefbaalpaaDoorPPanelMeetsx0
import Derived.Test.YtipeleefbaalpaaDoorPPanelMeetsx1
namespace Go.Proofs.YtipeleefbaalpaaDoor.PPanelMeets
open Go.RowKit Go.Proofs.YtipeleefbaalpaaDoor.Ext Go.Proofs.YtipeleefbaalpaaDoorW.PrintWords Go.Proofs.YtipeleefbaalpaaDoorW.PrintLast Go.Proofs.YtipeleefbaalpaaDoorW.PrintMore
attribute [local go_sem] max2_int min2_int max_two min_two max_three min_three max_four min_four   -- for this text's walks alone
set_option linter.unusedVariables false
set_option linter.unusedSimpArgs false

/-! ### sextonlaw06_PanelMeets: function 4 -/
mutual
def sextonlaw06_PanelMeets.j0 : Nat → Int → Int → Int → Bool → Bool → Option (Bool)
  | 0, _, _, _, _, _ => none
  | k + 1, x0, x1, x2, x9, x44 => if x44 = true then ((sextonlaw06_five.f k).bind fun t128 => (some t128)) else ((panel_Nodes.f k x0 x1).bind fun bt129 => ((panel_Nodes.f k x0 x2).bind fun bt133 => (if bt129.2 = 0 then (sextonlaw06_PanelMeets.j1 k x0 x9 bt129.1 bt133.1 (bt133.2 != 0)) else (sextonlaw06_PanelMeets.j1 k x0 x9 bt129.1 bt133.1 true))))
def sextonlaw06_PanelMeets.j1 : Nat → Int → Bool → List Int → List Int → Bool → Option (Bool)
  | 0, _, _, _, _, _ => none
  | k + 1, x0, x9, x11, x13, x63 => if x63 = true then (some false) else (sextonlaw06_PanelMeets.l0 k x0 x9 x13 false false x11 (x11.length : Int) 0)
def sextonlaw06_PanelMeets.l0 : Nat → Int → Bool → List Int → Bool → Bool → List Int → Int → Int → Option (Bool)
  | 0, _, _, _, _, _, _, _, _ => none
  | k + 1, x0, x9, x13, x15, x16, x64, x65, x66 => if x66 < x65 then (if 0 ≤ x66 then (if x66 < (x64.length : Int) then ((panel_Replica.f k x0 (rd x64 x66)).bind fun bt140 => (if bt140.2 = 0 then (if x15 = true then (sextonlaw06_PanelMeets.j3 k x0 x9 x13 true x16 (rd x64 x66) x64 x65 x66) else (sextonlaw06_PanelMeets.j3 k x0 x9 x13 bt140.1 x16 (rd x64 x66) x64 x65 x66)) else (some false))) else (none)) else (none)) else (if x15 = true then (if x9 = true then (if x16 = true then ((sextonlaw06_five.f k).bind fun t137 => (some t137)) else (some false)) else ((sextonlaw06_five.f k).bind fun t138 => (some t138))) else (some false))
def sextonlaw06_PanelMeets.j3 : Nat → Int → Bool → List Int → Bool → Bool → Int → List Int → Int → Int → Option (Bool)
  | 0, _, _, _, _, _, _, _, _, _ => none
  | k + 1, x0, x9, x13, x15, x16, x18, x64, x65, x66 => sextonlaw06_PanelMeets.l1 k x0 x9 x13 x15 x16 x18 x64 x65 x66 x13 (x13.length : Int) 0
def sextonlaw06_PanelMeets.l1 : Nat → Int → Bool → List Int → Bool → Bool → Int → List Int → Int → Int → List Int → Int → Int → Option (Bool)
  | 0, _, _, _, _, _, _, _, _, _, _, _, _ => none
  | k + 1, x0, x9, x13, x15, x16, x18, x64, x65, x66, x82, x83, x84 => if x84 < x83 then (if 0 ≤ x84 then (if x84 < (x82.length : Int) then (if x16 = true then (sextonlaw06_PanelMeets.l1 k x0 x9 x13 x15 true x18 x64 x65 x66 x82 x83 (wrap64 (x84 + 1))) else (sextonlaw06_PanelMeets.l1 k x0 x9 x13 x15 (x18 == (rd x82 x84)) x18 x64 x65 x66 x82 x83 (wrap64 (x84 + 1)))) else (none)) else (none)) else (sextonlaw06_PanelMeets.l0 k x0 x9 x13 x15 x16 x64 x65 (wrap64 (x66 + 1)))
end
def sextonlaw06_PanelMeets.f (k : Nat) (a0 : Int) (a1 : Int) (a2 : Int) : Option (Bool) := (panel_Enough.f k a0 a1).bind fun bt124 => ((panel_Enough.f k a0 a2).bind fun bt126 => (if bt124.2 = 0 then (if bt126.2 = 0 then (sextonlaw06_PanelMeets.j0 k a0 a1 a2 bt126.1 (!bt124.1)) else (sextonlaw06_PanelMeets.j0 k a0 a1 a2 bt126.1 true)) else (sextonlaw06_PanelMeets.j0 k a0 a1 a2 bt126.1 true)))
theorem sextonlaw06_PanelMeets.mono_l : ∀ k, (∀ y0 y1 y2 y3 y4, LeO (sextonlaw06_PanelMeets.j0 k y0 y1 y2 y3 y4) (sextonlaw06_PanelMeets.j0 (k + 1) y0 y1 y2 y3 y4)) ∧ (∀ y0 y1 y2 y3 y4, LeO (sextonlaw06_PanelMeets.j1 k y0 y1 y2 y3 y4) (sextonlaw06_PanelMeets.j1 (k + 1) y0 y1 y2 y3 y4)) ∧ (∀ y0 y1 y2 y3 y4 y5 y6 y7, LeO (sextonlaw06_PanelMeets.l0 k y0 y1 y2 y3 y4 y5 y6 y7) (sextonlaw06_PanelMeets.l0 (k + 1) y0 y1 y2 y3 y4 y5 y6 y7)) ∧ (∀ y0 y1 y2 y3 y4 y5 y6 y7 y8, LeO (sextonlaw06_PanelMeets.j3 k y0 y1 y2 y3 y4 y5 y6 y7 y8) (sextonlaw06_PanelMeets.j3 (k + 1) y0 y1 y2 y3 y4 y5 y6 y7 y8)) ∧ (∀ y0 y1 y2 y3 y4 y5 y6 y7 y8 y9 y10 y11, LeO (sextonlaw06_PanelMeets.l1 k y0 y1 y2 y3 y4 y5 y6 y7 y8 y9 y10 y11) (sextonlaw06_PanelMeets.l1 (k + 1) y0 y1 y2 y3 y4 y5 y6 y7 y8 y9 y10 y11))
  | 0 => ⟨fun _ _ _ _ _ r h => by simp [sextonlaw06_PanelMeets.j0] at h, fun _ _ _ _ _ r h => by simp [sextonlaw06_PanelMeets.j1] at h, fun _ _ _ _ _ _ _ _ r h => by simp [sextonlaw06_PanelMeets.l0] at h, fun _ _ _ _ _ _ _ _ _ r h => by simp [sextonlaw06_PanelMeets.j3] at h, fun _ _ _ _ _ _ _ _ _ _ _ _ r h => by simp [sextonlaw06_PanelMeets.l1] at h⟩
  | k + 1 => by
    obtain ⟨ih0, ih1, ih2, ih3, ih4⟩ := sextonlaw06_PanelMeets.mono_l k
    refine ⟨?_, ?_, ?_, ?_, ?_⟩
    · intro y0 y1 y2 y3 y4
      unfold sextonlaw06_PanelMeets.j0
      repeat' first
      | (with_reducible exact ih0 _ _ _ _ _)
      | (with_reducible exact ih1 _ _ _ _ _)
      | (with_reducible exact ih2 _ _ _ _ _ _ _ _)
      | (with_reducible exact ih3 _ _ _ _ _ _ _ _ _)
      | (with_reducible exact ih4 _ _ _ _ _ _ _ _ _ _ _ _)
      | (with_reducible exact panel_Enough.mono _ _ _)
      | (with_reducible exact panel_Nodes.mono _ _ _)
      | (with_reducible exact panel_Replica.mono _ _ _)
      | (with_reducible exact sextonlaw06_five.mono _)
      | (with_reducible exact LeO.refl _)
      | (with_reducible exact LeO.none _)
      | (with_reducible refine LeO.ite ?_ ?_)
      | (with_reducible refine LeO.bind ?_ (fun _ => ?_))
      | exact ih0 _ _ _ _ _
      | exact ih1 _ _ _ _ _
      | exact ih2 _ _ _ _ _ _ _ _
      | exact ih3 _ _ _ _ _ _ _ _ _
      | exact ih4 _ _ _ _ _ _ _ _ _ _ _ _
      | exact panel_Enough.mono _ _ _
      | exact panel_Nodes.mono _ _ _
      | exact panel_Replica.mono _ _ _
      | exact sextonlaw06_five.mono _
      | exact LeO.none _
      | refine LeO.ite ?_ ?_
      | refine LeO.bind ?_ (fun _ => ?_)
    · intro y0 y1 y2 y3 y4
      unfold sextonlaw06_PanelMeets.j1
      repeat' first
      | (with_reducible exact ih0 _ _ _ _ _)
      | (with_reducible exact ih1 _ _ _ _ _)
      | (with_reducible exact ih2 _ _ _ _ _ _ _ _)
      | (with_reducible exact ih3 _ _ _ _ _ _ _ _ _)
      | (with_reducible exact ih4 _ _ _ _ _ _ _ _ _ _ _ _)
      | (with_reducible exact panel_Enough.mono _ _ _)
      | (with_reducible exact panel_Nodes.mono _ _ _)
      | (with_reducible exact panel_Replica.mono _ _ _)
      | (with_reducible exact sextonlaw06_five.mono _)
      | (with_reducible exact LeO.refl _)
      | (with_reducible exact LeO.none _)
      | (with_reducible refine LeO.ite ?_ ?_)
      | (with_reducible refine LeO.bind ?_ (fun _ => ?_))
      | exact ih0 _ _ _ _ _
      | exact ih1 _ _ _ _ _
      | exact ih2 _ _ _ _ _ _ _ _
      | exact ih3 _ _ _ _ _ _ _ _ _
      | exact ih4 _ _ _ _ _ _ _ _ _ _ _ _
      | exact panel_Enough.mono _ _ _
      | exact panel_Nodes.mono _ _ _
      | exact panel_Replica.mono _ _ _
      | exact sextonlaw06_five.mono _
      | exact LeO.none _
      | refine LeO.ite ?_ ?_
      | refine LeO.bind ?_ (fun _ => ?_)
    · intro y0 y1 y2 y3 y4 y5 y6 y7
      unfold sextonlaw06_PanelMeets.l0
      repeat' first
      | (with_reducible exact ih0 _ _ _ _ _)
      | (with_reducible exact ih1 _ _ _ _ _)
      | (with_reducible exact ih2 _ _ _ _ _ _ _ _)
      | (with_reducible exact ih3 _ _ _ _ _ _ _ _ _)
      | (with_reducible exact ih4 _ _ _ _ _ _ _ _ _ _ _ _)
      | (with_reducible exact panel_Enough.mono _ _ _)
      | (with_reducible exact panel_Nodes.mono _ _ _)
      | (with_reducible exact panel_Replica.mono _ _ _)
      | (with_reducible exact sextonlaw06_five.mono _)
      | (with_reducible exact LeO.refl _)
      | (with_reducible exact LeO.none _)
      | (with_reducible refine LeO.ite ?_ ?_)
      | (with_reducible refine LeO.bind ?_ (fun _ => ?_))
      | exact ih0 _ _ _ _ _
      | exact ih1 _ _ _ _ _
      | exact ih2 _ _ _ _ _ _ _ _
      | exact ih3 _ _ _ _ _ _ _ _ _
      | exact ih4 _ _ _ _ _ _ _ _ _ _ _ _
      | exact panel_Enough.mono _ _ _
      | exact panel_Nodes.mono _ _ _
      | exact panel_Replica.mono _ _ _
      | exact sextonlaw06_five.mono _
      | exact LeO.none _
      | refine LeO.ite ?_ ?_
      | refine LeO.bind ?_ (fun _ => ?_)
    · intro y0 y1 y2 y3 y4 y5 y6 y7 y8
      unfold sextonlaw06_PanelMeets.j3
      repeat' first
      | (with_reducible exact ih0 _ _ _ _ _)
      | (with_reducible exact ih1 _ _ _ _ _)
      | (with_reducible exact ih2 _ _ _ _ _ _ _ _)
      | (with_reducible exact ih3 _ _ _ _ _ _ _ _ _)
      | (with_reducible exact ih4 _ _ _ _ _ _ _ _ _ _ _ _)
      | (with_reducible exact panel_Enough.mono _ _ _)
      | (with_reducible exact panel_Nodes.mono _ _ _)
      | (with_reducible exact panel_Replica.mono _ _ _)
      | (with_reducible exact sextonlaw06_five.mono _)
      | (with_reducible exact LeO.refl _)
      | (with_reducible exact LeO.none _)
      | (with_reducible refine LeO.ite ?_ ?_)
      | (with_reducible refine LeO.bind ?_ (fun _ => ?_))
      | exact ih0 _ _ _ _ _
      | exact ih1 _ _ _ _ _
      | exact ih2 _ _ _ _ _ _ _ _
      | exact ih3 _ _ _ _ _ _ _ _ _
      | exact ih4 _ _ _ _ _ _ _ _ _ _ _ _
      | exact panel_Enough.mono _ _ _
      | exact panel_Nodes.mono _ _ _
      | exact panel_Replica.mono _ _ _
      | exact sextonlaw06_five.mono _
      | exact LeO.none _
      | refine LeO.ite ?_ ?_
      | refine LeO.bind ?_ (fun _ => ?_)
    · intro y0 y1 y2 y3 y4 y5 y6 y7 y8 y9 y10 y11
      unfold sextonlaw06_PanelMeets.l1
      repeat' first
      | (with_reducible exact ih0 _ _ _ _ _)
      | (with_reducible exact ih1 _ _ _ _ _)
      | (with_reducible exact ih2 _ _ _ _ _ _ _ _)
      | (with_reducible exact ih3 _ _ _ _ _ _ _ _ _)
      | (with_reducible exact ih4 _ _ _ _ _ _ _ _ _ _ _ _)
      | (with_reducible exact panel_Enough.mono _ _ _)
      | (with_reducible exact panel_Nodes.mono _ _ _)
      | (with_reducible exact panel_Replica.mono _ _ _)
      | (with_reducible exact sextonlaw06_five.mono _)
      | (with_reducible exact LeO.refl _)
      | (with_reducible exact LeO.none _)
      | (with_reducible refine LeO.ite ?_ ?_)
      | (with_reducible refine LeO.bind ?_ (fun _ => ?_))
      | exact ih0 _ _ _ _ _
      | exact ih1 _ _ _ _ _
      | exact ih2 _ _ _ _ _ _ _ _
      | exact ih3 _ _ _ _ _ _ _ _ _
      | exact ih4 _ _ _ _ _ _ _ _ _ _ _ _
      | exact panel_Enough.mono _ _ _
      | exact panel_Nodes.mono _ _ _
      | exact panel_Replica.mono _ _ _
      | exact sextonlaw06_five.mono _
      | exact LeO.none _
      | refine LeO.ite ?_ ?_
      | refine LeO.bind ?_ (fun _ => ?_)
theorem sextonlaw06_PanelMeets.mono : ∀ a0 a1 a2 k, LeO (sextonlaw06_PanelMeets.f k a0 a1 a2) (sextonlaw06_PanelMeets.f (k + 1) a0 a1 a2) := by
  intro a0 a1 a2 k
  obtain ⟨ih0, ih1, ih2, ih3, ih4⟩ := sextonlaw06_PanelMeets.mono_l k
  unfold sextonlaw06_PanelMeets.f
  repeat' first
      | (with_reducible exact ih0 _ _ _ _ _)
      | (with_reducible exact ih1 _ _ _ _ _)
      | (with_reducible exact ih2 _ _ _ _ _ _ _ _)
      | (with_reducible exact ih3 _ _ _ _ _ _ _ _ _)
      | (with_reducible exact ih4 _ _ _ _ _ _ _ _ _ _ _ _)
      | (with_reducible exact panel_Enough.mono _ _ _)
      | (with_reducible exact panel_Nodes.mono _ _ _)
      | (with_reducible exact panel_Replica.mono _ _ _)
      | (with_reducible exact sextonlaw06_five.mono _)
      | (with_reducible exact LeO.refl _)
      | (with_reducible exact LeO.none _)
      | (with_reducible refine LeO.ite ?_ ?_)
      | (with_reducible refine LeO.bind ?_ (fun _ => ?_))
      | exact ih0 _ _ _ _ _
      | exact ih1 _ _ _ _ _
      | exact ih2 _ _ _ _ _ _ _ _
      | exact ih3 _ _ _ _ _ _ _ _ _
      | exact ih4 _ _ _ _ _ _ _ _ _ _ _ _
      | exact panel_Enough.mono _ _ _
      | exact panel_Nodes.mono _ _ _
      | exact panel_Replica.mono _ _ _
      | exact sextonlaw06_five.mono _
      | exact LeO.none _
      | refine LeO.ite ?_ ?_
      | refine LeO.bind ?_ (fun _ => ?_)
set_option maxHeartbeats 8000000 in
set_option maxRecDepth 100000 in
theorem sextonlaw06_PanelMeets.calls (k : Nat) (a0 : Int) (a1 : Int) (a2 : Int) (r : Bool) (w : World) (hT : Tab w) (h : sextonlaw06_PanelMeets.f k a0 a1 a2 = some r) :
    Calls Tryd.prog 4 #[.int .i64 a0, .int .i64 a1, .int .i64 a2] w fun e w' => e = .returned (.bool r) ∧ Below w.heap.size w w' := by
  have HB := Aside0.mk (Below.refl w.heap.size w)
  have H : ((panel_Enough.f k a0 a1).bind fun bt124 => ((panel_Enough.f k a0 a2).bind fun bt126 => (if bt124.2 = 0 then (if bt126.2 = 0 then (sextonlaw06_PanelMeets.j0 k a0 a1 a2 bt126.1 (!bt124.1)) else (sextonlaw06_PanelMeets.j0 k a0 a1 a2 bt126.1 true)) else (sextonlaw06_PanelMeets.j0 k a0 a1 a2 bt126.1 true)))) = some r := h
  clear h
  replace H := Option.bind_eq_some_iff.mp H
  obtain ⟨⟨t124, t125⟩, A40, H⟩ := H
  replace H : ((panel_Enough.f k a0 a2).bind fun bt126 => (if t125 = 0 then (if bt126.2 = 0 then (sextonlaw06_PanelMeets.j0 k a0 a1 a2 bt126.1 (!t124)) else (sextonlaw06_PanelMeets.j0 k a0 a1 a2 bt126.1 true)) else (sextonlaw06_PanelMeets.j0 k a0 a1 a2 bt126.1 true))) = some r := H
  have A4 := Aside0.mk A40
  clear A40
  replace H := Option.bind_eq_some_iff.mp H
  obtain ⟨⟨t126, t127⟩, A50, H⟩ := H
  replace H : (if t125 = 0 then (if t127 = 0 then (sextonlaw06_PanelMeets.j0 k a0 a1 a2 t126 (!t124)) else (sextonlaw06_PanelMeets.j0 k a0 a1 a2 t126 true)) else (sextonlaw06_PanelMeets.j0 k a0 a1 a2 t126 true)) = some r := H
  have A5 := Aside0.mk A50
  clear A50
  have HC6 := Aside0.mk H
  clear H
  go_enter Tryd.func4, Tryd.ntmps4
  go_upto_region 3 with (first | ((with_reducible refine gate_callee (f := 5) rfl ?_); refine goesL_ (some 26) rfl rfl Tryd.func5 (by kernel_rfl) rfl #[.int .i64 a0, .int .i64 a1] rfl (by (try simp only [List.map_toArray, List.map_cons, List.map_nil]); first | done | rfl | (simp only [List.length_drop, List.length_take]; rfl)) ?_; (with_reducible refine (panel_Enough.calls k a0 a1 t124 t125 _ A4.out).mono ?_); rintro e w' ⟨rfl, ⟨nd, rfl⟩⟩; refine ⟨_, rfl, ?_⟩) | ((with_reducible refine gate_callee (f := 5) rfl ?_); refine goesL_ (some 32) rfl rfl Tryd.func5 (by kernel_rfl) rfl #[.int .i64 a0, .int .i64 a2] rfl (by (try simp only [List.map_toArray, List.map_cons, List.map_nil]); first | done | rfl | (simp only [List.length_drop, List.length_take]; rfl)) ?_; (with_reducible refine (panel_Enough.calls k a0 a2 t126 t127 _ A5.out).mono ?_); rintro e w' ⟨rfl, ⟨nd, rfl⟩⟩; refine ⟨_, rfl, ?_⟩))
  (try simp only [Act.put, List.setIfInBounds_toArray, List.set_cons_zero, List.set_cons_succ])
  go_cut [44] (fun v44 wc => ∃ (kq : Nat) (x44_5 : Bool), v44 = .bool x44_5 ∧ Aside0 (sextonlaw06_PanelMeets.j0 kq a0 a1 a2 t126 x44_5 = some r) ∧ Aside0 (kq ≤ k) ∧ Aside0 (Below w.heap.size w wc))
  case first =>
    have H := HC6.out
    clear HC6
    by_cases c7 : t125 = 0
    · rw [if_pos c7] at H
      have c7b0 : (t125 == 0) = true := beq_iff_eq.mpr c7
      have c7b1 : (t125 != 0) = false := bne_eq_false_iff_eq.mpr c7
      clear c7
      (first | rw [c7b0] | (simp only [i64_w, i32_w]; rw [c7b0]) | skip)
      by_cases c8 : t127 = 0
      · rw [if_pos c8] at H
        have c8b0 : (t127 == 0) = true := beq_iff_eq.mpr c8
        have c8b1 : (t127 != 0) = false := bne_eq_false_iff_eq.mpr c8
        clear c8
        have H' := Aside0.mk H
        clear H
        go_wp2
        go_meet
        case rel => exact ⟨_, (!t124), (by first | rfl | (simp; done) | (simp [*]; done)), H', ⟨by first | omega | exact Nat.le_refl _⟩, ⟨by repeat (first | (with_reducible first | exact HB.out | apply below_alloc | apply pw_below_drewN | apply below_drew1) | exact HB.out)⟩⟩
      · rw [if_neg c8] at H
        have c8b0 : (t127 == 0) = false := beq_eq_false_iff_ne.mpr c8
        have c8b1 : (t127 != 0) = true := bne_iff_ne.mpr c8
        have H' := Aside0.mk H
        clear H
        go_wp2
        go_meet
        case rel => exact ⟨_, (true), (by first | rfl | (simp; done) | (simp [*]; done)), H', ⟨by first | omega | exact Nat.le_refl _⟩, ⟨by repeat (first | (with_reducible first | exact HB.out | apply below_alloc | apply pw_below_drewN | apply below_drew1) | exact HB.out)⟩⟩
    · rw [if_neg c7] at H
      have c7b0 : (t125 == 0) = false := beq_eq_false_iff_ne.mpr c7
      have c7b1 : (t125 != 0) = true := bne_iff_ne.mpr c7
      (first | rw [c7b0] | (simp only [i64_w, i32_w]; rw [c7b0]) | skip)
      have H' := Aside0.mk H
      clear H
      go_wp2
      go_meet
      case rel => exact ⟨_, (true), (by first | rfl | (simp; done) | (simp [*]; done)), H', ⟨by first | omega | exact Nat.le_refl _⟩, ⟨by repeat (first | (with_reducible first | exact HB.out | apply below_alloc | apply pw_below_drewN | apply below_drew1) | exact HB.out)⟩⟩
  case rest =>
    clear HC6
    try clear p2
    try clear c4
    try clear c5
    try clear c7
    try clear c7b0
    try clear c7b1
    try clear c8
    try clear c8b0
    try clear c8b1
    obtain ⟨kq, x44_5, rfl, HA, HJ5, HB⟩ := hcut
    cases kq with
    | zero => exact absurd HA.out (by simp [sextonlaw06_PanelMeets.j0])
    | succ kj5 =>
      have H := HA.out
      clear HA
      simp only [sextonlaw06_PanelMeets.j0] at H
      by_cases c9 : x44_5 = true
      · subst c9
        have H1 : ((sextonlaw06_five.f kj5).bind fun t128 => (some t128)) = some r := by rw [if_pos rfl] at H; exact H
        clear H
        have H := H1
        clear H1
        replace H := Option.bind_eq_some_iff.mp H
        obtain ⟨t128, A100, H⟩ := H
        replace H : (some t128) = some r := H
        have A10 := Aside0.mk A100
        clear A100
        obtain rfl := Option.some.inj H
        go_wp2_with (first | ((with_reducible refine gate_callee (f := 8) rfl ?_); refine goesL_ (some 45) rfl rfl Tryd.func8 (by kernel_rfl) rfl #[] rfl (by (try simp only [List.map_toArray, List.map_cons, List.map_nil]); first | done | rfl | (simp only [List.length_drop, List.length_take]; rfl)) ?_; (with_reducible refine (sextonlaw06_five.calls kj5  t128 _ A10.out).mono ?_); rintro e w11 ⟨rfl, hb⟩; refine ⟨_, rfl, ?_⟩; have n0_ := Aside0.mk (below_step (by repeat (first | (with_reducible first | exact HB.out | apply below_alloc | apply pw_below_drewN | apply below_drew1) | exact HB.out)) hb); clear HB; have HB := n0_; clear n0_; (try clear hb); (try clear hb2); (try clear hk); (try clear hi)))
        go_ret
        exact ⟨by first | rfl | (simp [errW_none, errW_some] <;> rfl) | (simp [*, errW_none, errW_some] <;> rfl), by repeat (first | (with_reducible first | exact HB.out | apply below_alloc | apply pw_below_drewN | apply below_drew1) | exact HB.out)⟩
      · replace c9 := Bool.eq_false_iff.mpr c9
        subst c9
        have H1 : ((panel_Nodes.f kj5 a0 a1).bind fun bt129 => ((panel_Nodes.f kj5 a0 a2).bind fun bt133 => (if bt129.2 = 0 then (sextonlaw06_PanelMeets.j1 kj5 a0 t126 bt129.1 bt133.1 (bt133.2 != 0)) else (sextonlaw06_PanelMeets.j1 kj5 a0 t126 bt129.1 bt133.1 true)))) = some r := by rw [if_neg (show ¬ (false = true) by decide)] at H; exact H
        clear H
        have H := H1
        clear H1
        replace H := Option.bind_eq_some_iff.mp H
        obtain ⟨⟨t129, t130⟩, A120, H⟩ := H
        replace H : ((panel_Nodes.f kj5 a0 a2).bind fun bt133 => (if t130 = 0 then (sextonlaw06_PanelMeets.j1 kj5 a0 t126 t129 bt133.1 (bt133.2 != 0)) else (sextonlaw06_PanelMeets.j1 kj5 a0 t126 t129 bt133.1 true))) = some r := H
        have A12 := Aside0.mk A120
        clear A120
        replace H := Option.bind_eq_some_iff.mp H
        obtain ⟨⟨t133, t134⟩, A130, H⟩ := H
        replace H : (if t130 = 0 then (sextonlaw06_PanelMeets.j1 kj5 a0 t126 t129 t133 (t134 != 0)) else (sextonlaw06_PanelMeets.j1 kj5 a0 t126 t129 t133 true)) = some r := H
        have A13 := Aside0.mk A130
        clear A130
        have HC14 := Aside0.mk H
        clear H
        go_upto_region 7 with (first | ((with_reducible refine gate_callee (f := 6) rfl ?_); refine goesL_ (some 49) rfl rfl Tryd.func6 (by kernel_rfl) rfl #[.int .i64 a0, .int .i64 a1] rfl (by (try simp only [List.map_toArray, List.map_cons, List.map_nil]); first | done | rfl | (simp only [List.length_drop, List.length_take]; rfl)) ?_; (with_reducible refine (panel_Nodes.calls kj5 a0 a1 t129 t130 _ (by repeat (first | exact hT | (with_reducible apply tab_drewN) | (with_reducible apply tab_alloc) | exact tab_up hT HB.out)) A12.out).mono ?_); rintro e w15 ⟨v131, rfl, ho0, hb⟩; refine ⟨_, rfl, ?_⟩; have n0_ := Aside0.mk (Kd.R_lower ho0 (below_size (by repeat (first | (with_reducible first | exact HB.out | apply below_alloc | apply pw_below_drewN | apply below_drew1) | exact HB.out)))); have n1_ := Aside0.mk (below_step (by repeat (first | (with_reducible first | exact HB.out | apply below_alloc | apply pw_below_drewN | apply below_drew1) | exact HB.out)) hb); clear HB; have HO132 := n0_; have HB := n1_; clear n0_ n1_; (try clear hb); (try clear hb2); (try clear hk); (try clear hi); (try clear ho0)) | ((with_reducible refine gate_callee (f := 6) rfl ?_); refine goesL_ (some 55) rfl rfl Tryd.func6 (by kernel_rfl) rfl #[.int .i64 a0, .int .i64 a2] rfl (by (try simp only [List.map_toArray, List.map_cons, List.map_nil]); first | done | rfl | (simp only [List.length_drop, List.length_take]; rfl)) ?_; (with_reducible refine (panel_Nodes.calls kj5 a0 a2 t133 t134 _ (by repeat (first | exact hT | (with_reducible apply tab_drewN) | (with_reducible apply tab_alloc) | exact tab_up hT HB.out)) A13.out).mono ?_); rintro e w16 ⟨v135, rfl, ho0, hb⟩; refine ⟨_, rfl, ?_⟩; have n0_ := Aside0.mk (Kd.R_elder' (by (with_reducible repeat (first | apply Kd.R_alloc | apply Kd.R_drewN | apply Kd.R_drew)); exact HO132.out) (Kd.R_base ho0) hb); have n1_ := Aside0.mk (Kd.R_lower (Kd.R_new' ho0 (Kd.R_lt (by (with_reducible repeat (first | apply Kd.R_alloc | apply Kd.R_drewN | apply Kd.R_drew)); exact HO132.out))) (below_size (by repeat (first | (with_reducible first | exact HB.out | apply below_alloc | apply pw_below_drewN | apply below_drew1) | exact HB.out)))); have n2_ := Aside0.mk (below_step (by repeat (first | (with_reducible first | exact HB.out | apply below_alloc | apply pw_below_drewN | apply below_drew1) | exact HB.out)) hb); clear HO132; clear HB; have HO132 := n0_; have HO136 := n1_; have HB := n2_; clear n0_ n1_ n2_; (try clear hb); (try clear hb2); (try clear hk); (try clear hi); (try clear ho0)))
        (try simp only [Act.put, List.setIfInBounds_toArray, List.set_cons_zero, List.set_cons_succ])
        go_cut [63] (fun v63 wc => ∃ (kq : Nat) (x63_13 : Bool), v63 = .bool x63_13 ∧ Aside0 (sextonlaw06_PanelMeets.j1 kq a0 t126 t129 t133 x63_13 = some r) ∧ Aside0 (kq ≤ kj5) ∧ Aside0 (Kd.R (Kd.int .i64) 3 wc w.heap.size (fun k_ => some k_ ≠ (v135 : Value).ownBlock) v131 t129) ∧ Aside0 (Kd.R (Kd.int .i64) 3 wc w.heap.size (fun k_ => some k_ ≠ (v131 : Value).ownBlock) v135 t133) ∧ Aside0 (Below w.heap.size w wc))
        case first =>
          have H := HC14.out
          clear HC14
          by_cases c17 : t130 = 0
          · rw [if_pos c17] at H
            have c17b0 : (t130 == 0) = true := beq_iff_eq.mpr c17
            have c17b1 : (t130 != 0) = false := bne_eq_false_iff_eq.mpr c17
            clear c17
            (first | rw [c17b0] | (simp only [i64_w, i32_w]; rw [c17b0]) | skip)
            have H' := Aside0.mk H
            clear H
            go_wp2
            go_meet
            case rel => exact ⟨_, ((t134 != 0)), (by first | rfl | (simp; done) | (simp [*]; done)), H', ⟨by have := HJ5.out; first | omega | exact Nat.le_refl _⟩, ⟨by (with_reducible repeat (first | apply Kd.R_alloc | apply Kd.R_drewN | apply Kd.R_drew)); exact Kd.R_mono HO132.out (fun _ hk => hk.2)⟩, ⟨by (with_reducible repeat (first | apply Kd.R_alloc | apply Kd.R_drewN | apply Kd.R_drew)); exact Kd.R_mono HO136.out (fun _ hk => hk.2)⟩, ⟨by repeat (first | (with_reducible first | exact HB.out | apply below_alloc | apply pw_below_drewN | apply below_drew1) | exact HB.out)⟩⟩
          · rw [if_neg c17] at H
            have c17b0 : (t130 == 0) = false := beq_eq_false_iff_ne.mpr c17
            have c17b1 : (t130 != 0) = true := bne_iff_ne.mpr c17
            (first | rw [c17b0] | (simp only [i64_w, i32_w]; rw [c17b0]) | skip)
            have H' := Aside0.mk H
            clear H
            go_wp2
            go_meet
            case rel => exact ⟨_, (true), (by first | rfl | (simp; done) | (simp [*]; done)), H', ⟨by have := HJ5.out; first | omega | exact Nat.le_refl _⟩, ⟨by (with_reducible repeat (first | apply Kd.R_alloc | apply Kd.R_drewN | apply Kd.R_drew)); exact Kd.R_mono HO132.out (fun _ hk => hk.2)⟩, ⟨by (with_reducible repeat (first | apply Kd.R_alloc | apply Kd.R_drewN | apply Kd.R_drew)); exact Kd.R_mono HO136.out (fun _ hk => hk.2)⟩, ⟨by repeat (first | (with_reducible first | exact HB.out | apply below_alloc | apply pw_below_drewN | apply below_drew1) | exact HB.out)⟩⟩
        case rest =>
          clear HC14
          try clear c1
          try clear p2
          try clear c4
          try clear c5
          try clear c6
          try clear c7
          try clear c7b0
          try clear c7b1
          try clear c8
          try clear c8b0
          try clear c8b1
          try clear c9
          try clear c17
          try clear c17b0
          try clear c17b1
          try clear p2
          obtain ⟨kq, x63_13, rfl, HA, HJ13, HO_11, HO_13, HB⟩ := hcut
          cases kq with
          | zero => exact absurd HA.out (by simp [sextonlaw06_PanelMeets.j1])
          | succ kj13 =>
            have H := HA.out
            clear HA
            simp only [sextonlaw06_PanelMeets.j1] at H
            by_cases c18 : x63_13 = true
            · subst c18
              have H1 : (some false) = some r := by rw [if_pos rfl] at H; exact H
              clear H
              have H := H1
              clear H1
              obtain rfl := Option.some.inj H
              go_wp2
              go_ret
              exact ⟨by first | rfl | (simp [errW_none, errW_some] <;> rfl) | (simp [*, errW_none, errW_some] <;> rfl), by repeat (first | (with_reducible first | exact HB.out | apply below_alloc | apply pw_below_drewN | apply below_drew1) | exact HB.out)⟩
            · replace c18 := Bool.eq_false_iff.mpr c18
              subst c18
              have H1 : (sextonlaw06_PanelMeets.l0 kj13 a0 t126 t133 false false t129 (t129.length : Int) 0) = some r := by rw [if_neg (show ¬ (false = true) by decide)] at H; exact H
              clear H
              have H := H1
              clear H1
              have H' := Aside0.mk H
              clear H
              obtain ⟨Ao19, co19, eo19⟩ := Kd.R_slice HO_11.out
              subst eo19
              go_wp2
              go_loopg [15, 16, 66] kj13 (fun kq v15 v16 v66 w' => ∃ (x15_3 : Bool) (x16_3 : Bool) (x66_3 : Int), v15 = .bool x15_3 ∧ v16 = .bool x16_3 ∧ v66 = .int .i64 x66_3 ∧ Aside0 (sextonlaw06_PanelMeets.l0 kq a0 t126 t133 x15_3 x16_3 t129 (t129.length : Int) x66_3 = some r) ∧ Aside0 (kq ≤ kj13) ∧ Aside0 (Kd.R (Kd.int .i64) 3 w' w.heap.size (fun k_ => some k_ ≠ ((.slice Ao19 t129.length co19) : Value).ownBlock) v135 t133) ∧ Aside0 (Kd.R (Kd.int .i64) 3 w' w.heap.size (fun k_ => some k_ ≠ (v135 : Value).ownBlock) (.slice Ao19 t129.length co19) t129) ∧ Aside0 (Below w.heap.size w w'))
              case atStart => exact ⟨(false), (false), (0), (by first | rfl | (simp; done) | (simp [*]; done)), (by first | rfl | (simp; done) | (simp [*]; done)), (by first | rfl | (simp; done) | (simp [*]; done)), H', ⟨Nat.le_refl _⟩, ⟨by (with_reducible repeat (first | apply Kd.R_alloc | apply Kd.R_drewN | apply Kd.R_drew)); exact HO_13.out⟩, ⟨by (with_reducible repeat (first | apply Kd.R_alloc | apply Kd.R_drewN | apply Kd.R_drew)); exact HO_11.out⟩, ⟨by repeat (first | (with_reducible first | exact HB.out | apply below_alloc | apply pw_below_drewN | apply below_drew1) | exact HB.out)⟩⟩
              case round =>
                clear H'
                try clear c1
                try clear p2
                try clear c4
                try clear c5
                try clear c6
                try clear c7
                try clear c7b0
                try clear c7b1
                try clear c8
                try clear c8b0
                try clear c8b1
                try clear c9
                try clear c17
                try clear c17b0
                try clear c17b1
                try clear c18
                try clear p2
                obtain ⟨x15_3, x16_3, x66_3, rfl, rfl, rfl, HA, HK3, HO_13, HO_64, HB⟩ := hrel
                cases gk with
                | zero => exact absurd HA.out (by simp [sextonlaw06_PanelMeets.l0])
                | succ k3 =>
                  have H := HA.out
                  clear HA
                  simp only [sextonlaw06_PanelMeets.l0] at H
                  by_cases c20 : x66_3 < (t129.length : Int)
                  · rw [if_pos c20] at H
                    have c20b0 : decide (x66_3 < (t129.length : Int)) = true := decide_eq_true c20
                    clear c20
                    by_cases c21 : 0 ≤ x66_3
                    · rw [if_pos c21] at H
                      have c21b0 : decide (0 ≤ x66_3) = true := decide_eq_true c21
                      clear c21
                      by_cases c22 : x66_3 < (t129.length : Int)
                      · rw [if_pos c22] at H
                        have c22b0 : decide (x66_3 < (t129.length : Int)) = true := decide_eq_true c22
                        clear c22
                        replace H := Option.bind_eq_some_iff.mp H
                        obtain ⟨⟨t140, t141⟩, A230, H⟩ := H
                        replace H : (if t141 = 0 then (if x15_3 = true then (sextonlaw06_PanelMeets.j3 k3 a0 t126 t133 true x16_3 (rd t129 x66_3) t129 (t129.length : Int) x66_3) else (sextonlaw06_PanelMeets.j3 k3 a0 t126 t133 t140 x16_3 (rd t129 x66_3) t129 (t129.length : Int) x66_3)) else (some false)) = some r := H
                        have A23 := Aside0.mk A230
                        clear A230
                        by_cases c24 : t141 = 0
                        · rw [if_pos c24] at H
                          have c24b0 : (t141 == 0) = true := beq_iff_eq.mpr c24
                          have c24b1 : (t141 != 0) = false := bne_eq_false_iff_eq.mpr c24
                          clear c24
                          have HC25 := Aside0.mk H
                          clear H
                          have p139 : 0 ≤ (x66_3 : Int) := of_decide_eq_true (by first | (with_reducible assumption) | assumption)
                          have q139 : x66_3 < (t129.length : Int) := of_decide_eq_true (by first | (with_reducible assumption) | assumption)
                          obtain ⟨ad139, e139, hx139_0⟩ := Kd.at_int (Kd.R_reads' HO_64.out).2.2 x66_3 p139 q139
                          cases e139
                          replace p139 := eq_true p139
                          replace q139 := eq_true q139
                          go_upto_region 17 with (first | ((with_reducible refine gate_callee (f := 11) rfl ?_); refine goesL_ (some 73) rfl rfl Tryd.func11 (by kernel_rfl) rfl #[.int .i64 a0, .int .i64 (rd t129 x66_3)] rfl (by (try simp only [List.map_toArray, List.map_cons, List.map_nil]); first | done | rfl | (simp only [List.length_drop, List.length_take]; rfl)) ?_; (with_reducible refine (panel_Replica.calls k3 a0 (rd t129 x66_3) t140 t141 _ A23.out).mono ?_); rintro e w' ⟨rfl, ⟨nd, rfl⟩⟩; refine ⟨_, rfl, ?_⟩))
                          (try simp only [Act.put, List.setIfInBounds_toArray, List.set_cons_zero, List.set_cons_succ])
                          go_cut [15] (fun v15 wc => ∃ (kq : Nat) (x15_24 : Bool), v15 = .bool x15_24 ∧ Aside0 (sextonlaw06_PanelMeets.j3 kq a0 t126 t133 x15_24 x16_3 (rd t129 x66_3) t129 (t129.length : Int) x66_3 = some r) ∧ Aside0 (kq ≤ k3) ∧ Aside0 (Kd.R (Kd.int .i64) 3 wc w.heap.size (fun k_ => some k_ ≠ ((.slice (some ad139) t129.length co19) : Value).ownBlock) v135 t133) ∧ Aside0 (Kd.R (Kd.int .i64) 3 wc w.heap.size (fun k_ => some k_ ≠ (v135 : Value).ownBlock) (.slice (some ad139) t129.length co19) t129) ∧ Aside0 (Below w.heap.size w wc))
                          case first =>
                            have H := HC25.out
                            clear HC25
                            by_cases c26 : x15_3 = true
                            · subst c26
                              have H1 : (sextonlaw06_PanelMeets.j3 k3 a0 t126 t133 true x16_3 (rd t129 x66_3) t129 (t129.length : Int) x66_3) = some r := by rw [if_pos rfl] at H; exact H
                              clear H
                              have H := H1
                              clear H1
                              have H' := Aside0.mk H
                              clear H
                              go_wp2
                              go_meet
                              case rel => exact ⟨_, (true), (by first | rfl | (simp; done) | (simp [*]; done)), H', ⟨by have := HJ5.out; have := HJ13.out; have := HK3.out; first | omega | exact Nat.le_refl _⟩, ⟨by (with_reducible repeat (first | apply Kd.R_alloc | apply Kd.R_drewN | apply Kd.R_drew)); exact HO_13.out⟩, ⟨by (with_reducible repeat (first | apply Kd.R_alloc | apply Kd.R_drewN | apply Kd.R_drew)); exact HO_64.out⟩, ⟨by repeat (first | (with_reducible first | exact HB.out | apply below_alloc | apply pw_below_drewN | apply below_drew1) | exact HB.out)⟩⟩
                            · replace c26 := Bool.eq_false_iff.mpr c26
                              subst c26
                              have H1 : (sextonlaw06_PanelMeets.j3 k3 a0 t126 t133 t140 x16_3 (rd t129 x66_3) t129 (t129.length : Int) x66_3) = some r := by rw [if_neg (show ¬ (false = true) by decide)] at H; exact H
                              clear H
                              have H := H1
                              clear H1
                              have H' := Aside0.mk H
                              clear H
                              go_wp2
                              go_meet
                              case rel => exact ⟨_, (t140), (by first | rfl | (simp; done) | (simp [*]; done)), H', ⟨by have := HJ5.out; have := HJ13.out; have := HK3.out; first | omega | exact Nat.le_refl _⟩, ⟨by (with_reducible repeat (first | apply Kd.R_alloc | apply Kd.R_drewN | apply Kd.R_drew)); exact HO_13.out⟩, ⟨by (with_reducible repeat (first | apply Kd.R_alloc | apply Kd.R_drewN | apply Kd.R_drew)); exact HO_64.out⟩, ⟨by repeat (first | (with_reducible first | exact HB.out | apply below_alloc | apply pw_below_drewN | apply below_drew1) | exact HB.out)⟩⟩
                          case rest =>
                            clear HC25
                            try clear c1
                            try clear p1
                            try clear q1
                            try clear hx1
                            try clear c2
                            try clear p2
                            try clear c4
                            try clear c5
                            try clear c6
                            try clear c7
                            try clear c7b0
                            try clear c7b1
                            try clear c8
                            try clear c8b0
                            try clear c8b1
                            try clear c9
                            try clear c11
                            try clear p13
                            try clear q13
                            try clear hx13
                            try clear c17
                            try clear c17b0
                            try clear c17b1
                            try clear c18
                            try clear c20
                            try clear c20b0
                            try clear c21
                            try clear c21b0
                            try clear c22
                            try clear c22b0
                            try clear c24
                            try clear c24b0
                            try clear c24b1
                            try clear c26
                            try clear hx139_0
                            try clear p139
                            try clear p2
                            try clear q139
                            obtain ⟨kq, x15_24, rfl, HA, HJ24, HO_13, HO_64, HB⟩ := hcut
                            cases kq with
                            | zero => exact absurd HA.out (by simp [sextonlaw06_PanelMeets.j3])
                            | succ kj24 =>
                              have H := HA.out
                              clear HA
                              simp only [sextonlaw06_PanelMeets.j3] at H
                              have H' := Aside0.mk H
                              clear H
                              obtain ⟨Ao27, co27, eo27⟩ := Kd.R_slice HO_13.out
                              subst eo27
                              go_wp2
                              go_loopg [16, 84] kj24 (fun kq v16 v84 w' => ∃ (x16_5 : Bool) (x84_5 : Int), v16 = .bool x16_5 ∧ v84 = .int .i64 x84_5 ∧ Aside0 (sextonlaw06_PanelMeets.l1 kq a0 t126 t133 x15_24 x16_5 (rd t129 x66_3) t129 (t129.length : Int) x66_3 t133 (t133.length : Int) x84_5 = some r) ∧ Aside0 (kq ≤ kj24) ∧ Aside0 (Kd.R (Kd.int .i64) 3 w' w.heap.size (fun k_ => some k_ ≠ ((.slice (some ad139) t129.length co19) : Value).ownBlock) (.slice Ao27 t133.length co27) t133) ∧ Aside0 (Kd.R (Kd.int .i64) 3 w' w.heap.size (fun k_ => some k_ ≠ ((.slice Ao27 t133.length co27) : Value).ownBlock ∧ some k_ ≠ ((.slice Ao27 t133.length co27) : Value).ownBlock) (.slice (some ad139) t129.length co19) t129) ∧ Aside0 (Kd.R (Kd.int .i64) 3 w' w.heap.size (fun k_ => some k_ ≠ ((.slice (some ad139) t129.length co19) : Value).ownBlock) (.slice Ao27 t133.length co27) t133) ∧ Aside0 (Below w.heap.size w w'))
                              case atStart => exact ⟨(x16_3), (0), (by first | rfl | (simp; done) | (simp [*]; done)), (by first | rfl | (simp; done) | (simp [*]; done)), H', ⟨Nat.le_refl _⟩, ⟨by (with_reducible repeat (first | apply Kd.R_alloc | apply Kd.R_drewN | apply Kd.R_drew)); exact HO_13.out⟩, ⟨by (with_reducible repeat (first | apply Kd.R_alloc | apply Kd.R_drewN | apply Kd.R_drew)); exact Kd.R_mono HO_64.out (fun _ hk => ⟨hk, hk⟩)⟩, ⟨by (with_reducible repeat (first | apply Kd.R_alloc | apply Kd.R_drewN | apply Kd.R_drew)); exact HO_13.out⟩, ⟨by repeat (first | (with_reducible first | exact HB.out | apply below_alloc | apply pw_below_drewN | apply below_drew1) | exact HB.out)⟩⟩
                              case round =>
                                clear H'
                                try clear c1
                                try clear p1
                                try clear q1
                                try clear hx1
                                try clear c2
                                try clear p2
                                try clear c4
                                try clear c5
                                try clear c6
                                try clear c7
                                try clear c7b0
                                try clear c7b1
                                try clear c8
                                try clear c8b0
                                try clear c8b1
                                try clear c9
                                try clear c11
                                try clear p13
                                try clear q13
                                try clear hx13
                                try clear c17
                                try clear c17b0
                                try clear c17b1
                                try clear c18
                                try clear c20
                                try clear c20b0
                                try clear c21
                                try clear c21b0
                                try clear c22
                                try clear c22b0
                                try clear c24
                                try clear c24b0
                                try clear c24b1
                                try clear c26
                                try clear hx139_0
                                try clear p1
                                try clear p13
                                try clear p139
                                try clear p2
                                try clear q1
                                try clear q13
                                try clear q139
                                obtain ⟨x16_5, x84_5, rfl, rfl, HA, HK5, HO_13, HO_64, HO_82, HB⟩ := hrel
                                cases gk with
                                | zero => exact absurd HA.out (by simp [sextonlaw06_PanelMeets.l1])
                                | succ k5 =>
                                  have H := HA.out
                                  clear HA
                                  simp only [sextonlaw06_PanelMeets.l1] at H
                                  by_cases c28 : x84_5 < (t133.length : Int)
                                  · rw [if_pos c28] at H
                                    have c28b0 : decide (x84_5 < (t133.length : Int)) = true := decide_eq_true c28
                                    clear c28
                                    by_cases c29 : 0 ≤ x84_5
                                    · rw [if_pos c29] at H
                                      have c29b0 : decide (0 ≤ x84_5) = true := decide_eq_true c29
                                      clear c29
                                      by_cases c30 : x84_5 < (t133.length : Int)
                                      · rw [if_pos c30] at H
                                        have c30b0 : decide (x84_5 < (t133.length : Int)) = true := decide_eq_true c30
                                        clear c30
                                        by_cases c31 : x16_5 = true
                                        · subst c31
                                          have H1 : (sextonlaw06_PanelMeets.l1 k5 a0 t126 t133 x15_24 true (rd t129 x66_3) t129 (t129.length : Int) x66_3 t133 (t133.length : Int) (wrap64 (x84_5 + 1))) = some r := by rw [if_pos rfl] at H; exact H
                                          clear H
                                          have H := H1
                                          clear H1
                                          have H' := Aside0.mk H
                                          clear H
                                          have p142 : 0 ≤ (x84_5 : Int) := of_decide_eq_true (by first | (with_reducible assumption) | assumption)
                                          have q142 : x84_5 < (t133.length : Int) := of_decide_eq_true (by first | (with_reducible assumption) | assumption)
                                          obtain ⟨ad142, e142, hx142_0⟩ := Kd.at_int (Kd.R_reads' HO_82.out).2.2 x84_5 p142 q142
                                          cases e142
                                          replace p142 := eq_true p142
                                          replace q142 := eq_true q142
                                          go_wp2
                                          go_roundg k5
                                          case measure => have := HJ5.out; have := HJ13.out; have := HK3.out; have := HJ24.out; have := HK5.out; omega
                                          case rel => exact ⟨(true), (wrap64 (x84_5 + 1)), (by first | rfl | (simp; done) | (simp [*]; done)), (by first | rfl | (simp; done) | (simp [*]; done)), H', ⟨by have := HJ5.out; have := HJ13.out; have := HK3.out; have := HJ24.out; have := HK5.out; omega⟩, ⟨by (with_reducible repeat (first | apply Kd.R_alloc | apply Kd.R_drewN | apply Kd.R_drew)); exact HO_13.out⟩, ⟨by (with_reducible repeat (first | apply Kd.R_alloc | apply Kd.R_drewN | apply Kd.R_drew)); exact HO_64.out⟩, ⟨by (with_reducible repeat (first | apply Kd.R_alloc | apply Kd.R_drewN | apply Kd.R_drew)); exact HO_82.out⟩, ⟨by repeat (first | (with_reducible first | exact HB.out | apply below_alloc | apply pw_below_drewN | apply below_drew1) | exact HB.out)⟩⟩
                                        · replace c31 := Bool.eq_false_iff.mpr c31
                                          subst c31
                                          have H1 : (sextonlaw06_PanelMeets.l1 k5 a0 t126 t133 x15_24 ((rd t129 x66_3) == (rd t133 x84_5)) (rd t129 x66_3) t129 (t129.length : Int) x66_3 t133 (t133.length : Int) (wrap64 (x84_5 + 1))) = some r := by rw [if_neg (show ¬ (false = true) by decide)] at H; exact H
                                          clear H
                                          have H := H1
                                          clear H1
                                          have H' := Aside0.mk H
                                          clear H
                                          have p142 : 0 ≤ (x84_5 : Int) := of_decide_eq_true (by first | (with_reducible assumption) | assumption)
                                          have q142 : x84_5 < (t133.length : Int) := of_decide_eq_true (by first | (with_reducible assumption) | assumption)
                                          obtain ⟨ad142, e142, hx142_0⟩ := Kd.at_int (Kd.R_reads' HO_82.out).2.2 x84_5 p142 q142
                                          cases e142
                                          replace p142 := eq_true p142
                                          replace q142 := eq_true q142
                                          go_wp2
                                          go_roundg k5
                                          case measure => have := HJ5.out; have := HJ13.out; have := HK3.out; have := HJ24.out; have := HK5.out; omega
                                          case rel => exact ⟨(((rd t129 x66_3) == (rd t133 x84_5))), (wrap64 (x84_5 + 1)), (by first | rfl | (simp; done) | (simp [*]; done)), (by first | rfl | (simp; done) | (simp [*]; done)), H', ⟨by have := HJ5.out; have := HJ13.out; have := HK3.out; have := HJ24.out; have := HK5.out; omega⟩, ⟨by (with_reducible repeat (first | apply Kd.R_alloc | apply Kd.R_drewN | apply Kd.R_drew)); exact HO_13.out⟩, ⟨by (with_reducible repeat (first | apply Kd.R_alloc | apply Kd.R_drewN | apply Kd.R_drew)); exact HO_64.out⟩, ⟨by (with_reducible repeat (first | apply Kd.R_alloc | apply Kd.R_drewN | apply Kd.R_drew)); exact HO_82.out⟩, ⟨by repeat (first | (with_reducible first | exact HB.out | apply below_alloc | apply pw_below_drewN | apply below_drew1) | exact HB.out)⟩⟩
                                      · rw [if_neg c30] at H
                                        exact absurd H (by simp)
                                    · rw [if_neg c29] at H
                                      exact absurd H (by simp)
                                  · rw [if_neg c28] at H
                                    have c28b0 : decide (x84_5 < (t133.length : Int)) = false := decide_eq_false c28
                                    clear c28
                                    have H' := Aside0.mk H
                                    clear H
                                    go_wp2
                                    go_roundg k5
                                    case measure => have := HJ5.out; have := HJ13.out; have := HK3.out; have := HJ24.out; have := HK5.out; omega
                                    case rel => exact ⟨(x15_24), (x16_5), (wrap64 (x66_3 + 1)), (by first | rfl | (simp; done) | (simp [*]; done)), (by first | rfl | (simp; done) | (simp [*]; done)), (by first | rfl | (simp; done) | (simp [*]; done)), H', ⟨by have := HJ5.out; have := HJ13.out; have := HK3.out; have := HJ24.out; have := HK5.out; omega⟩, ⟨by (with_reducible repeat (first | apply Kd.R_alloc | apply Kd.R_drewN | apply Kd.R_drew)); exact HO_13.out⟩, ⟨by (with_reducible repeat (first | apply Kd.R_alloc | apply Kd.R_drewN | apply Kd.R_drew)); exact Kd.R_mono HO_64.out (fun _ hk => hk.1)⟩, ⟨by repeat (first | (with_reducible first | exact HB.out | apply below_alloc | apply pw_below_drewN | apply below_drew1) | exact HB.out)⟩⟩
                        · rw [if_neg c24] at H
                          have c24b0 : (t141 == 0) = false := beq_eq_false_iff_ne.mpr c24
                          have c24b1 : (t141 != 0) = true := bne_iff_ne.mpr c24
                          obtain rfl := Option.some.inj H
                          have p139 : 0 ≤ (x66_3 : Int) := of_decide_eq_true (by first | (with_reducible assumption) | assumption)
                          have q139 : x66_3 < (t129.length : Int) := of_decide_eq_true (by first | (with_reducible assumption) | assumption)
                          obtain ⟨ad139, e139, hx139_0⟩ := Kd.at_int (Kd.R_reads' HO_64.out).2.2 x66_3 p139 q139
                          cases e139
                          replace p139 := eq_true p139
                          replace q139 := eq_true q139
                          go_wp2_with (first | ((with_reducible refine gate_callee (f := 11) rfl ?_); refine goesL_ (some 73) rfl rfl Tryd.func11 (by kernel_rfl) rfl #[.int .i64 a0, .int .i64 (rd t129 x66_3)] rfl (by (try simp only [List.map_toArray, List.map_cons, List.map_nil]); first | done | rfl | (simp only [List.length_drop, List.length_take]; rfl)) ?_; (with_reducible refine (panel_Replica.calls k3 a0 (rd t129 x66_3) t140 t141 _ A23.out).mono ?_); rintro e w' ⟨rfl, ⟨nd, rfl⟩⟩; refine ⟨_, rfl, ?_⟩))
                          go_ret
                          exact ⟨by first | rfl | (simp [errW_none, errW_some] <;> rfl) | (simp [*, errW_none, errW_some] <;> rfl), by repeat (first | (with_reducible first | exact HB.out | apply below_alloc | apply pw_below_drewN | apply below_drew1) | exact HB.out)⟩
                      · rw [if_neg c22] at H
                        exact absurd H (by simp)
                    · rw [if_neg c21] at H
                      exact absurd H (by simp)
                  · rw [if_neg c20] at H
                    have c20b0 : decide (x66_3 < (t129.length : Int)) = false := decide_eq_false c20
                    clear c20
                    by_cases c32 : x15_3 = true
                    · subst c32
                      have H1 : (if t126 = true then (if x16_3 = true then ((sextonlaw06_five.f k3).bind fun t137 => (some t137)) else (some false)) else ((sextonlaw06_five.f k3).bind fun t138 => (some t138))) = some r := by rw [if_pos rfl] at H; exact H
                      clear H
                      have H := H1
                      clear H1
                      by_cases c33 : t126 = true
                      · subst c33
                        have H1 : (if x16_3 = true then ((sextonlaw06_five.f k3).bind fun t137 => (some t137)) else (some false)) = some r := by rw [if_pos rfl] at H; exact H
                        clear H
                        have H := H1
                        clear H1
                        by_cases c34 : x16_3 = true
                        · subst c34
                          have H1 : ((sextonlaw06_five.f k3).bind fun t137 => (some t137)) = some r := by rw [if_pos rfl] at H; exact H
                          clear H
                          have H := H1
                          clear H1
                          replace H := Option.bind_eq_some_iff.mp H
                          obtain ⟨t137, A350, H⟩ := H
                          replace H : (some t137) = some r := H
                          have A35 := Aside0.mk A350
                          clear A350
                          obtain rfl := Option.some.inj H
                          go_wp2_with (first | (go_at_call 8; (with_reducible refine (sextonlaw06_five.calls k3  t137 _ A35.out).mono ?_); rintro e w36 ⟨rfl, hb⟩; have n0_ := Aside0.mk (Kd.R_below (by (with_reducible repeat (first | apply Kd.R_alloc | apply Kd.R_drewN | apply Kd.R_drew)); exact HO_13.out) hb); have n1_ := Aside0.mk (Kd.R_below (by (with_reducible repeat (first | apply Kd.R_alloc | apply Kd.R_drewN | apply Kd.R_drew)); exact HO_64.out) hb); have n2_ := Aside0.mk (below_step (by repeat (first | (with_reducible first | exact HB.out | apply below_alloc | apply pw_below_drewN | apply below_drew1) | exact HB.out)) hb); clear HO_13; clear HO_64; clear HB; have HO_13 := n0_; have HO_64 := n1_; have HB := n2_; clear n0_ n1_ n2_; (try clear hb); (try clear hb2); (try clear hk); (try clear hi)))
                          go_ret
                          exact ⟨by first | rfl | (simp [errW_none, errW_some] <;> rfl) | (simp [*, errW_none, errW_some] <;> rfl), by repeat (first | (with_reducible first | exact HB.out | apply below_alloc | apply pw_below_drewN | apply below_drew1) | exact HB.out)⟩
                        · replace c34 := Bool.eq_false_iff.mpr c34
                          subst c34
                          have H1 : (some false) = some r := by rw [if_neg (show ¬ (false = true) by decide)] at H; exact H
                          clear H
                          have H := H1
                          clear H1
                          obtain rfl := Option.some.inj H
                          go_wp2
                          go_ret
                          exact ⟨by first | rfl | (simp [errW_none, errW_some] <;> rfl) | (simp [*, errW_none, errW_some] <;> rfl), by repeat (first | (with_reducible first | exact HB.out | apply below_alloc | apply pw_below_drewN | apply below_drew1) | exact HB.out)⟩
                      · replace c33 := Bool.eq_false_iff.mpr c33
                        subst c33
                        have H1 : ((sextonlaw06_five.f k3).bind fun t138 => (some t138)) = some r := by rw [if_neg (show ¬ (false = true) by decide)] at H; exact H
                        clear H
                        have H := H1
                        clear H1
                        replace H := Option.bind_eq_some_iff.mp H
                        obtain ⟨t138, A370, H⟩ := H
                        replace H : (some t138) = some r := H
                        have A37 := Aside0.mk A370
                        clear A370
                        obtain rfl := Option.some.inj H
                        go_wp2_with (first | (go_at_call 8; (with_reducible refine (sextonlaw06_five.calls k3  t138 _ A37.out).mono ?_); rintro e w38 ⟨rfl, hb⟩; have n0_ := Aside0.mk (Kd.R_below (by (with_reducible repeat (first | apply Kd.R_alloc | apply Kd.R_drewN | apply Kd.R_drew)); exact HO_13.out) hb); have n1_ := Aside0.mk (Kd.R_below (by (with_reducible repeat (first | apply Kd.R_alloc | apply Kd.R_drewN | apply Kd.R_drew)); exact HO_64.out) hb); have n2_ := Aside0.mk (below_step (by repeat (first | (with_reducible first | exact HB.out | apply below_alloc | apply pw_below_drewN | apply below_drew1) | exact HB.out)) hb); clear HO_13; clear HO_64; clear HB; have HO_13 := n0_; have HO_64 := n1_; have HB := n2_; clear n0_ n1_ n2_; (try clear hb); (try clear hb2); (try clear hk); (try clear hi)))
                        go_ret
                        exact ⟨by first | rfl | (simp [errW_none, errW_some] <;> rfl) | (simp [*, errW_none, errW_some] <;> rfl), by repeat (first | (with_reducible first | exact HB.out | apply below_alloc | apply pw_below_drewN | apply below_drew1) | exact HB.out)⟩
                    · replace c32 := Bool.eq_false_iff.mpr c32
                      subst c32
                      have H1 : (some false) = some r := by rw [if_neg (show ¬ (false = true) by decide)] at H; exact H
                      clear H
                      have H := H1
                      clear H1
                      obtain rfl := Option.some.inj H
                      go_wp2
                      go_ret
                      exact ⟨by first | rfl | (simp [errW_none, errW_some] <;> rfl) | (simp [*, errW_none, errW_some] <;> rfl), by repeat (first | (with_reducible first | exact HB.out | apply below_alloc | apply pw_below_drewN | apply below_drew1) | exact HB.out)⟩

/-- THE ONE PURE STATEMENT of sextonlaw06_PanelMeets: yours. -/
def sextonlaw06_PanelMeets.Pure : Prop := ∀ (a0 : Int) (a1 : Int) (a2 : Int), (Lit.int .i64 a0).wf = true → (Lit.int .i64 a1).wf = true → (Lit.int .i64 a2).wf = true → ∃ k, sextonlaw06_PanelMeets.f k a0 a1 a2 = some true
theorem sextonlaw06_PanelMeets.walk (P : sextonlaw06_PanelMeets.Pure) (a0 : Int) (a1 : Int) (a2 : Int) (w : World) (hT : Tab w) (w0 : (Lit.int .i64 a0).wf = true) (w1 : (Lit.int .i64 a1).wf = true) (w2 : (Lit.int .i64 a2).wf = true) :
    Calls Tryd.prog 4 #[.int .i64 a0, .int .i64 a1, .int .i64 a2] w fun e w' => e = .returned (.bool true) ∧ Below w.heap.size w w' := by
  obtain ⟨k, h⟩ := P a0 a1 a2 w0 w1 w2
  refine (sextonlaw06_PanelMeets.calls k a0 a1 a2 true w hT h).mono ?_
  rintro e w' ⟨rfl, hd⟩
  exact ⟨rfl, hd⟩

end Go.Proofs.YtipeleefbaalpaaDoor.PPanelMeets
