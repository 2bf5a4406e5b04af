/- Out of the program's own print, by wip/myprint.py over the kit's print.py: functions as plain Lean, their contracts. -/
import Derived.Test.YtipeleefbaalpaaPPanelWhox0
import Derived.Test.YtipeleefbaalpaaPPanelWhox1
import Derived.Test.YtipeleefbaalpaaPPanelWhox2
namespace Go.Proofs.Ytipeleefbaalpaa.PPanelWho
open Go.RowKit Go.Proofs.Ytipeleefbaalpaa.Ext Go.Proofs.YtipeleefbaalpaaW.PrintWords Go.Proofs.YtipeleefbaalpaaW.PrintLast Go.Proofs.YtipeleefbaalpaaW.PrintMore
attribute [local go_sem] max2_int min2_int max_two min_two max_three min_three max_four min_four   -- for this text's walks alone
set_option linter.unusedVariables false
set_option linter.unusedSimpArgs false

/-! ### sextonlaw06_PanelWho: function 10 -/
mutual
def sextonlaw06_PanelWho.j0 : Nat → Int → Int → Int → Int → Int → Bool → Int → Int → Int → Int → Bool → Option (Bool)
  | 0, _, _, _, _, _, _, _, _, _, _, _ => none
  | k + 1, x0, x1, x2, x7, x8, x9, x10, x11, x12, x17, x59 => if x59 = true then (some false) else (if x17 < 0 then (if x8 = 1 then (if x10 = 1 then (if x12 = 1 then (if x7 = 0 then (if x9 = true then (some false) else (if x11 = 0 then ((sextonlaw06_five.f k).bind fun t129 => (some t129)) else (some false))) else (some false)) else (some false)) else (some false)) else (some false)) else (if x8 = 0 then (if x7 = x17 then (if x1 ≥ 0 then (if ((x10 == 0) != (decide (x1 < x0))) = true then (sextonlaw06_PanelWho.j1 k x0 x2 x11 x12 true) else (sextonlaw06_PanelWho.j1 k x0 x2 x11 x12 (x9 != (decide (x1 ≤ x7))))) else (if ((x10 == 0) != false) = true then (sextonlaw06_PanelWho.j1 k x0 x2 x11 x12 true) else (sextonlaw06_PanelWho.j1 k x0 x2 x11 x12 (x9 != false)))) else (sextonlaw06_PanelWho.j1 k x0 x2 x11 x12 true)) else (sextonlaw06_PanelWho.j1 k x0 x2 x11 x12 true)))
def sextonlaw06_PanelWho.j1 : Nat → Int → Int → Int → Int → Bool → Option (Bool)
  | 0, _, _, _, _, _ => none
  | k + 1, x0, x2, x11, x12, x116 => if x116 = true then (some false) else ((sextonref06_Primary.f k x0 x2).bind fun t130 => (if ((x12 == 0) == (decide (t130 ≥ 0))) = true then (if t130 < 0 then (if x11 = 0 then ((sextonlaw06_five.f k).bind fun t131 => (some t131)) else (if x11 = t130 then ((sextonlaw06_five.f k).bind fun t132 => (some t132)) else (some false))) else (if x11 = t130 then ((sextonlaw06_five.f k).bind fun t133 => (some t133)) else (some false))) else (some false)))
end
def sextonlaw06_PanelWho.f (k : Nat) (a0 : Int) (a1 : Int) (a2 : Int) : Option (Bool) := (panel_Faults.f k a0).bind fun bt118 => ((panel_Replica.f k a0 a1).bind fun bt120 => ((panel_Primary.f k a0 a2).bind fun bt122 => ((panel_Turn.f k a0 a2 a1).bind fun bt124 => ((sextonref06_Turn.f k a0 a2 a1).bind fun bt126 => ((sextonref06_Faults.f k a0).bind fun t128 => (if bt124.1 = bt126.1 then (sextonlaw06_PanelWho.j0 k a0 a1 a2 bt118.1 bt118.2 bt120.1 bt120.2 bt122.1 bt122.2 t128 (bt124.2 != bt126.2)) else (sextonlaw06_PanelWho.j0 k a0 a1 a2 bt118.1 bt118.2 bt120.1 bt120.2 bt122.1 bt122.2 t128 true)))))))
theorem sextonlaw06_PanelWho.mono_l : ∀ k, (∀ y0 y1 y2 y3 y4 y5 y6 y7 y8 y9 y10, LeO (sextonlaw06_PanelWho.j0 k y0 y1 y2 y3 y4 y5 y6 y7 y8 y9 y10) (sextonlaw06_PanelWho.j0 (k + 1) y0 y1 y2 y3 y4 y5 y6 y7 y8 y9 y10)) ∧ (∀ y0 y1 y2 y3 y4, LeO (sextonlaw06_PanelWho.j1 k y0 y1 y2 y3 y4) (sextonlaw06_PanelWho.j1 (k + 1) y0 y1 y2 y3 y4))
  | 0 => ⟨fun _ _ _ _ _ _ _ _ _ _ _ r h => by simp [sextonlaw06_PanelWho.j0] at h, fun _ _ _ _ _ r h => by simp [sextonlaw06_PanelWho.j1] at h⟩
  | k + 1 => by
    obtain ⟨ih0, ih1⟩ := sextonlaw06_PanelWho.mono_l k
    refine ⟨?_, ?_⟩
    · intro y0 y1 y2 y3 y4 y5 y6 y7 y8 y9 y10
      unfold sextonlaw06_PanelWho.j0
      repeat' first
      | (with_reducible exact ih0 _ _ _ _ _ _ _ _ _ _ _)
      | (with_reducible exact ih1 _ _ _ _ _)
      | (with_reducible exact panel_Faults.mono _ _)
      | (with_reducible exact panel_Primary.mono _ _ _)
      | (with_reducible exact panel_Replica.mono _ _ _)
      | (with_reducible exact panel_Turn.mono _ _ _ _)
      | (with_reducible exact sextonlaw06_five.mono _)
      | (with_reducible exact sextonref06_Faults.mono _ _)
      | (with_reducible exact sextonref06_Primary.mono _ _ _)
      | (with_reducible exact sextonref06_Turn.mono _ _ _ _)
      | (with_reducible exact LeO.refl _)
      | (with_reducible exact LeO.none _)
      | (with_reducible refine LeO.ite ?_ ?_)
      | (with_reducible refine LeO.bind ?_ (fun _ => ?_))
      | exact ih0 _ _ _ _ _ _ _ _ _ _ _
      | exact ih1 _ _ _ _ _
      | exact panel_Faults.mono _ _
      | exact panel_Primary.mono _ _ _
      | exact panel_Replica.mono _ _ _
      | exact panel_Turn.mono _ _ _ _
      | exact sextonlaw06_five.mono _
      | exact sextonref06_Faults.mono _ _
      | exact sextonref06_Primary.mono _ _ _
      | exact sextonref06_Turn.mono _ _ _ _
      | exact LeO.none _
      | refine LeO.ite ?_ ?_
      | refine LeO.bind ?_ (fun _ => ?_)
    · intro y0 y1 y2 y3 y4
      unfold sextonlaw06_PanelWho.j1
      repeat' first
      | (with_reducible exact ih0 _ _ _ _ _ _ _ _ _ _ _)
      | (with_reducible exact ih1 _ _ _ _ _)
      | (with_reducible exact panel_Faults.mono _ _)
      | (with_reducible exact panel_Primary.mono _ _ _)
      | (with_reducible exact panel_Replica.mono _ _ _)
      | (with_reducible exact panel_Turn.mono _ _ _ _)
      | (with_reducible exact sextonlaw06_five.mono _)
      | (with_reducible exact sextonref06_Faults.mono _ _)
      | (with_reducible exact sextonref06_Primary.mono _ _ _)
      | (with_reducible exact sextonref06_Turn.mono _ _ _ _)
      | (with_reducible exact LeO.refl _)
      | (with_reducible exact LeO.none _)
      | (with_reducible refine LeO.ite ?_ ?_)
      | (with_reducible refine LeO.bind ?_ (fun _ => ?_))
      | exact ih0 _ _ _ _ _ _ _ _ _ _ _
      | exact ih1 _ _ _ _ _
      | exact panel_Faults.mono _ _
      | exact panel_Primary.mono _ _ _
      | exact panel_Replica.mono _ _ _
      | exact panel_Turn.mono _ _ _ _
      | exact sextonlaw06_five.mono _
      | exact sextonref06_Faults.mono _ _
      | exact sextonref06_Primary.mono _ _ _
      | exact sextonref06_Turn.mono _ _ _ _
      | exact LeO.none _
      | refine LeO.ite ?_ ?_
      | refine LeO.bind ?_ (fun _ => ?_)
theorem sextonlaw06_PanelWho.mono : ∀ a0 a1 a2 k, LeO (sextonlaw06_PanelWho.f k a0 a1 a2) (sextonlaw06_PanelWho.f (k + 1) a0 a1 a2) := by
  intro a0 a1 a2 k
  obtain ⟨ih0, ih1⟩ := sextonlaw06_PanelWho.mono_l k
  unfold sextonlaw06_PanelWho.f
  repeat' first
      | (with_reducible exact ih0 _ _ _ _ _ _ _ _ _ _ _)
      | (with_reducible exact ih1 _ _ _ _ _)
      | (with_reducible exact panel_Faults.mono _ _)
      | (with_reducible exact panel_Primary.mono _ _ _)
      | (with_reducible exact panel_Replica.mono _ _ _)
      | (with_reducible exact panel_Turn.mono _ _ _ _)
      | (with_reducible exact sextonlaw06_five.mono _)
      | (with_reducible exact sextonref06_Faults.mono _ _)
      | (with_reducible exact sextonref06_Primary.mono _ _ _)
      | (with_reducible exact sextonref06_Turn.mono _ _ _ _)
      | (with_reducible exact LeO.refl _)
      | (with_reducible exact LeO.none _)
      | (with_reducible refine LeO.ite ?_ ?_)
      | (with_reducible refine LeO.bind ?_ (fun _ => ?_))
      | exact ih0 _ _ _ _ _ _ _ _ _ _ _
      | exact ih1 _ _ _ _ _
      | exact panel_Faults.mono _ _
      | exact panel_Primary.mono _ _ _
      | exact panel_Replica.mono _ _ _
      | exact panel_Turn.mono _ _ _ _
      | exact sextonlaw06_five.mono _
      | exact sextonref06_Faults.mono _ _
      | exact sextonref06_Primary.mono _ _ _
      | exact sextonref06_Turn.mono _ _ _ _
      | exact LeO.none _
      | refine LeO.ite ?_ ?_
      | refine LeO.bind ?_ (fun _ => ?_)
set_option maxHeartbeats 8000000 in
set_option maxRecDepth 100000 in
theorem sextonlaw06_PanelWho.calls (k : Nat) (a0 : Int) (a1 : Int) (a2 : Int) (r : Bool) (w : World) (h : sextonlaw06_PanelWho.f k a0 a1 a2 = some r) :
    Calls Try.prog 10 #[.int .i64 a0, .int .i64 a1, .int .i64 a2] w fun e w' => e = .returned (.bool r) ∧ Below w.heap.size w w' := by
  have HB := Aside0.mk (Below.refl w.heap.size w)
  have H : ((panel_Faults.f k a0).bind fun bt118 => ((panel_Replica.f k a0 a1).bind fun bt120 => ((panel_Primary.f k a0 a2).bind fun bt122 => ((panel_Turn.f k a0 a2 a1).bind fun bt124 => ((sextonref06_Turn.f k a0 a2 a1).bind fun bt126 => ((sextonref06_Faults.f k a0).bind fun t128 => (if bt124.1 = bt126.1 then (sextonlaw06_PanelWho.j0 k a0 a1 a2 bt118.1 bt118.2 bt120.1 bt120.2 bt122.1 bt122.2 t128 (bt124.2 != bt126.2)) else (sextonlaw06_PanelWho.j0 k a0 a1 a2 bt118.1 bt118.2 bt120.1 bt120.2 bt122.1 bt122.2 t128 true)))))))) = some r := h
  clear h
  replace H := Option.bind_eq_some_iff.mp H
  obtain ⟨⟨t118, t119⟩, A40, H⟩ := H
  replace H : ((panel_Replica.f k a0 a1).bind fun bt120 => ((panel_Primary.f k a0 a2).bind fun bt122 => ((panel_Turn.f k a0 a2 a1).bind fun bt124 => ((sextonref06_Turn.f k a0 a2 a1).bind fun bt126 => ((sextonref06_Faults.f k a0).bind fun t128 => (if bt124.1 = bt126.1 then (sextonlaw06_PanelWho.j0 k a0 a1 a2 t118 t119 bt120.1 bt120.2 bt122.1 bt122.2 t128 (bt124.2 != bt126.2)) else (sextonlaw06_PanelWho.j0 k a0 a1 a2 t118 t119 bt120.1 bt120.2 bt122.1 bt122.2 t128 true))))))) = some r := H
  have A4 := Aside0.mk A40
  clear A40
  replace H := Option.bind_eq_some_iff.mp H
  obtain ⟨⟨t120, t121⟩, A50, H⟩ := H
  replace H : ((panel_Primary.f k a0 a2).bind fun bt122 => ((panel_Turn.f k a0 a2 a1).bind fun bt124 => ((sextonref06_Turn.f k a0 a2 a1).bind fun bt126 => ((sextonref06_Faults.f k a0).bind fun t128 => (if bt124.1 = bt126.1 then (sextonlaw06_PanelWho.j0 k a0 a1 a2 t118 t119 t120 t121 bt122.1 bt122.2 t128 (bt124.2 != bt126.2)) else (sextonlaw06_PanelWho.j0 k a0 a1 a2 t118 t119 t120 t121 bt122.1 bt122.2 t128 true)))))) = some r := H
  have A5 := Aside0.mk A50
  clear A50
  replace H := Option.bind_eq_some_iff.mp H
  obtain ⟨⟨t122, t123⟩, A60, H⟩ := H
  replace H : ((panel_Turn.f k a0 a2 a1).bind fun bt124 => ((sextonref06_Turn.f k a0 a2 a1).bind fun bt126 => ((sextonref06_Faults.f k a0).bind fun t128 => (if bt124.1 = bt126.1 then (sextonlaw06_PanelWho.j0 k a0 a1 a2 t118 t119 t120 t121 t122 t123 t128 (bt124.2 != bt126.2)) else (sextonlaw06_PanelWho.j0 k a0 a1 a2 t118 t119 t120 t121 t122 t123 t128 true))))) = some r := H
  have A6 := Aside0.mk A60
  clear A60
  replace H := Option.bind_eq_some_iff.mp H
  obtain ⟨⟨t124, t125⟩, A70, H⟩ := H
  replace H : ((sextonref06_Turn.f k a0 a2 a1).bind fun bt126 => ((sextonref06_Faults.f k a0).bind fun t128 => (if t124 = bt126.1 then (sextonlaw06_PanelWho.j0 k a0 a1 a2 t118 t119 t120 t121 t122 t123 t128 (t125 != bt126.2)) else (sextonlaw06_PanelWho.j0 k a0 a1 a2 t118 t119 t120 t121 t122 t123 t128 true)))) = some r := H
  have A7 := Aside0.mk A70
  clear A70
  replace H := Option.bind_eq_some_iff.mp H
  obtain ⟨⟨t126, t127⟩, A80, H⟩ := H
  replace H : ((sextonref06_Faults.f k a0).bind fun t128 => (if t124 = t126 then (sextonlaw06_PanelWho.j0 k a0 a1 a2 t118 t119 t120 t121 t122 t123 t128 (t125 != t127)) else (sextonlaw06_PanelWho.j0 k a0 a1 a2 t118 t119 t120 t121 t122 t123 t128 true))) = some r := H
  have A8 := Aside0.mk A80
  clear A80
  replace H := Option.bind_eq_some_iff.mp H
  obtain ⟨t128, A90, H⟩ := H
  replace H : (if t124 = t126 then (sextonlaw06_PanelWho.j0 k a0 a1 a2 t118 t119 t120 t121 t122 t123 t128 (t125 != t127)) else (sextonlaw06_PanelWho.j0 k a0 a1 a2 t118 t119 t120 t121 t122 t123 t128 true)) = some r := H
  have A9 := Aside0.mk A90
  clear A90
  have HC10 := Aside0.mk H
  clear H
  go_enter Try.func10, Try.ntmps10
  go_upto_region 7 with (first | ((with_reducible refine gate_callee (f := 38) rfl ?_); refine goesL_ (some 21) rfl rfl Try.func38 (by kernel_rfl) rfl #[.int .i64 a0] rfl (by (try simp only [List.map_toArray, List.map_cons, List.map_nil]); first | done | rfl | (simp only [List.length_drop, List.length_take]; rfl)) ?_; (with_reducible refine (panel_Faults.calls k a0 t118 t119 _ A4.out).mono ?_); rintro e w' ⟨rfl, ⟨nd, rfl⟩⟩; refine ⟨_, rfl, ?_⟩) | ((with_reducible refine gate_callee (f := 39) rfl ?_); refine goesL_ (some 27) rfl rfl Try.func39 (by kernel_rfl) rfl #[.int .i64 a0, .int .i64 a1] rfl (by (try simp only [List.map_toArray, List.map_cons, List.map_nil]); first | done | rfl | (simp only [List.length_drop, List.length_take]; rfl)) ?_; (with_reducible refine (panel_Replica.calls k a0 a1 t120 t121 _ A5.out).mono ?_); rintro e w' ⟨rfl, ⟨nd, rfl⟩⟩; refine ⟨_, rfl, ?_⟩) | ((with_reducible refine gate_callee (f := 40) rfl ?_); refine goesL_ (some 33) rfl rfl Try.func40 (by kernel_rfl) rfl #[.int .i64 a0, .int .i64 a2] rfl (by (try simp only [List.map_toArray, List.map_cons, List.map_nil]); first | done | rfl | (simp only [List.length_drop, List.length_take]; rfl)) ?_; (with_reducible refine (panel_Primary.calls k a0 a2 t122 t123 _ A6.out).mono ?_); rintro e w' ⟨rfl, ⟨nd, rfl⟩⟩; refine ⟨_, rfl, ?_⟩) | ((with_reducible refine gate_callee (f := 41) rfl ?_); refine goesL_ (some 40) rfl rfl Try.func41 (by kernel_rfl) rfl #[.int .i64 a0, .int .i64 a2, .int .i64 a1] rfl (by (try simp only [List.map_toArray, List.map_cons, List.map_nil]); first | done | rfl | (simp only [List.length_drop, List.length_take]; rfl)) ?_; (with_reducible refine (panel_Turn.calls k a0 a2 a1 t124 t125 _ A7.out).mono ?_); rintro e w' ⟨rfl, ⟨nd, rfl⟩⟩; refine ⟨_, rfl, ?_⟩) | ((with_reducible refine gate_callee (f := 42) rfl ?_); refine goesL_ (some 47) rfl rfl Try.func42 (by kernel_rfl) rfl #[.int .i64 a0, .int .i64 a2, .int .i64 a1] rfl (by (try simp only [List.map_toArray, List.map_cons, List.map_nil]); first | done | rfl | (simp only [List.length_drop, List.length_take]; rfl)) ?_; (with_reducible refine (sextonref06_Turn.calls k a0 a2 a1 t126 t127 _ A8.out).mono ?_); rintro e w' ⟨rfl, ⟨nd, rfl⟩⟩; refine ⟨_, rfl, ?_⟩) | ((with_reducible refine gate_callee (f := 43) rfl ?_); refine goesL_ (some 51) rfl rfl Try.func43 (by kernel_rfl) rfl #[.int .i64 a0] rfl (by (try simp only [List.map_toArray, List.map_cons, List.map_nil]); first | done | rfl | (simp only [List.length_drop, List.length_take]; rfl)) ?_; (with_reducible refine (sextonref06_Faults.calls k a0 t128 _ A9.out).mono ?_); rintro e w' ⟨rfl, ⟨nd, rfl⟩⟩; refine ⟨_, rfl, ?_⟩))
  (try simp only [Act.put, List.setIfInBounds_toArray, List.set_cons_zero, List.set_cons_succ])
  go_cut [59] (fun v59 wc => ∃ (kq : Nat) (x59_9 : Bool), v59 = .bool x59_9 ∧ Aside0 (sextonlaw06_PanelWho.j0 kq a0 a1 a2 t118 t119 t120 t121 t122 t123 t128 x59_9 = some r) ∧ Aside0 (kq ≤ k) ∧ Aside0 (Below w.heap.size w wc))
  case first =>
    have H := HC10.out
    clear HC10
    by_cases c11 : t124 = t126
    · rw [if_pos c11] at H
      have c11b0 : (t124 == t126) = true := beq_iff_eq.mpr c11
      have c11b1 : (t124 != t126) = false := bne_eq_false_iff_eq.mpr c11
      clear c11
      (first | rw [c11b0] | (simp only [i64_w, i32_w]; rw [c11b0]) | skip)
      have H' := Aside0.mk H
      clear H
      go_wp2
      go_meet
      case rel => exact ⟨_, ((t125 != t127)), (by first | rfl | (simp; done) | (simp [*]; done)), H', ⟨by first | omega | exact Nat.le_refl _⟩, ⟨by repeat (first | (with_reducible first | exact HB.out | apply below_alloc | apply pw_below_drewN | apply below_drew1) | exact HB.out)⟩⟩
    · rw [if_neg c11] at H
      have c11b0 : (t124 == t126) = false := beq_eq_false_iff_ne.mpr c11
      have c11b1 : (t124 != t126) = true := bne_iff_ne.mpr c11
      (first | rw [c11b0] | (simp only [i64_w, i32_w]; rw [c11b0]) | skip)
      have H' := Aside0.mk H
      clear H
      go_wp2
      go_meet
      case rel => exact ⟨_, (true), (by first | rfl | (simp; done) | (simp [*]; done)), H', ⟨by first | omega | exact Nat.le_refl _⟩, ⟨by repeat (first | (with_reducible first | exact HB.out | apply below_alloc | apply pw_below_drewN | apply below_drew1) | exact HB.out)⟩⟩
  case rest =>
    clear HC10
    try clear c1
    try clear p2
    try clear c3
    try clear c4
    try clear c10
    try clear c11
    try clear c11b0
    try clear c11b1
    obtain ⟨kq, x59_9, rfl, HA, HJ9, HB⟩ := hcut
    cases kq with
    | zero => exact absurd HA.out (by simp [sextonlaw06_PanelWho.j0])
    | succ kj9 =>
      have H := HA.out
      clear HA
      simp only [sextonlaw06_PanelWho.j0] at H
      by_cases c12 : x59_9 = true
      · subst c12
        have H1 : (some false) = some r := by rw [if_pos rfl] at H; exact H
        clear H
        have H := H1
        clear H1
        obtain rfl := Option.some.inj H
        go_wp2
        go_ret
        exact ⟨by first | rfl | (simp [errW_none, errW_some] <;> rfl) | (simp [*, errW_none, errW_some] <;> rfl), by repeat (first | (with_reducible first | exact HB.out | apply below_alloc | apply pw_below_drewN | apply below_drew1) | exact HB.out)⟩
      · replace c12 := Bool.eq_false_iff.mpr c12
        subst c12
        have H1 : (if t128 < 0 then (if t119 = 1 then (if t121 = 1 then (if t123 = 1 then (if t118 = 0 then (if t120 = true then (some false) else (if t122 = 0 then ((sextonlaw06_five.f kj9).bind fun t129 => (some t129)) else (some false))) else (some false)) else (some false)) else (some false)) else (some false)) else (if t119 = 0 then (if t118 = t128 then (if a1 ≥ 0 then (if ((t121 == 0) != (decide (a1 < a0))) = true then (sextonlaw06_PanelWho.j1 kj9 a0 a2 t122 t123 true) else (sextonlaw06_PanelWho.j1 kj9 a0 a2 t122 t123 (t120 != (decide (a1 ≤ t118))))) else (if ((t121 == 0) != false) = true then (sextonlaw06_PanelWho.j1 kj9 a0 a2 t122 t123 true) else (sextonlaw06_PanelWho.j1 kj9 a0 a2 t122 t123 (t120 != false)))) else (sextonlaw06_PanelWho.j1 kj9 a0 a2 t122 t123 true)) else (sextonlaw06_PanelWho.j1 kj9 a0 a2 t122 t123 true))) = some r := by rw [if_neg (show ¬ (false = true) by decide)] at H; exact H
        clear H
        have H := H1
        clear H1
        by_cases c13 : t128 < 0
        · rw [if_pos c13] at H
          have c13b0 : decide (t128 < 0) = true := decide_eq_true c13
          clear c13
          by_cases c14 : t119 = 1
          · rw [if_pos c14] at H
            have c14b0 : (t119 == 1) = true := beq_iff_eq.mpr c14
            have c14b1 : (t119 != 1) = false := bne_eq_false_iff_eq.mpr c14
            clear c14
            by_cases c15 : t121 = 1
            · rw [if_pos c15] at H
              have c15b0 : (t121 == 1) = true := beq_iff_eq.mpr c15
              have c15b1 : (t121 != 1) = false := bne_eq_false_iff_eq.mpr c15
              clear c15
              by_cases c16 : t123 = 1
              · rw [if_pos c16] at H
                have c16b0 : (t123 == 1) = true := beq_iff_eq.mpr c16
                have c16b1 : (t123 != 1) = false := bne_eq_false_iff_eq.mpr c16
                clear c16
                by_cases c17 : t118 = 0
                · rw [if_pos c17] at H
                  have c17b0 : (t118 == 0) = true := beq_iff_eq.mpr c17
                  have c17b1 : (t118 != 0) = false := bne_eq_false_iff_eq.mpr c17
                  clear c17
                  by_cases c18 : t120 = true
                  · subst c18
                    have H1 : (some false) = some r := by rw [if_pos rfl] at H; exact H
                    clear H
                    have H := H1
                    clear H1
                    obtain rfl := Option.some.inj H
                    go_wp2
                    go_ret
                    exact ⟨by first | rfl | (simp [errW_none, errW_some] <;> rfl) | (simp [*, errW_none, errW_some] <;> rfl), by repeat (first | (with_reducible first | exact HB.out | apply below_alloc | apply pw_below_drewN | apply below_drew1) | exact HB.out)⟩
                  · replace c18 := Bool.eq_false_iff.mpr c18
                    subst c18
                    have H1 : (if t122 = 0 then ((sextonlaw06_five.f kj9).bind fun t129 => (some t129)) else (some false)) = some r := by rw [if_neg (show ¬ (false = true) by decide)] at H; exact H
                    clear H
                    have H := H1
                    clear H1
                    by_cases c19 : t122 = 0
                    · rw [if_pos c19] at H
                      have c19b0 : (t122 == 0) = true := beq_iff_eq.mpr c19
                      have c19b1 : (t122 != 0) = false := bne_eq_false_iff_eq.mpr c19
                      clear c19
                      replace H := Option.bind_eq_some_iff.mp H
                      obtain ⟨t129, A200, H⟩ := H
                      replace H : (some t129) = some r := H
                      have A20 := Aside0.mk A200
                      clear A200
                      obtain rfl := Option.some.inj H
                      go_wp2_with (first | (go_at_call 37; (with_reducible refine (sextonlaw06_five.calls kj9  t129 _ A20.out).mono ?_); rintro e w21 ⟨rfl, hb⟩; have n0_ := Aside0.mk (below_step (by repeat (first | (with_reducible first | exact HB.out | apply below_alloc | apply pw_below_drewN | apply below_drew1) | exact HB.out)) hb); clear HB; have HB := n0_; clear n0_; (try clear hb); (try clear hb2); (try clear hk); (try clear hi)))
                      go_ret
                      exact ⟨by first | rfl | (simp [errW_none, errW_some] <;> rfl) | (simp [*, errW_none, errW_some] <;> rfl), by repeat (first | (with_reducible first | exact HB.out | apply below_alloc | apply pw_below_drewN | apply below_drew1) | exact HB.out)⟩
                    · rw [if_neg c19] at H
                      have c19b0 : (t122 == 0) = false := beq_eq_false_iff_ne.mpr c19
                      have c19b1 : (t122 != 0) = true := bne_iff_ne.mpr c19
                      obtain rfl := Option.some.inj H
                      go_wp2
                      go_ret
                      exact ⟨by first | rfl | (simp [errW_none, errW_some] <;> rfl) | (simp [*, errW_none, errW_some] <;> rfl), by repeat (first | (with_reducible first | exact HB.out | apply below_alloc | apply pw_below_drewN | apply below_drew1) | exact HB.out)⟩
                · rw [if_neg c17] at H
                  have c17b0 : (t118 == 0) = false := beq_eq_false_iff_ne.mpr c17
                  have c17b1 : (t118 != 0) = true := bne_iff_ne.mpr c17
                  obtain rfl := Option.some.inj H
                  go_wp2
                  go_ret
                  exact ⟨by first | rfl | (simp [errW_none, errW_some] <;> rfl) | (simp [*, errW_none, errW_some] <;> rfl), by repeat (first | (with_reducible first | exact HB.out | apply below_alloc | apply pw_below_drewN | apply below_drew1) | exact HB.out)⟩
              · rw [if_neg c16] at H
                have c16b0 : (t123 == 1) = false := beq_eq_false_iff_ne.mpr c16
                have c16b1 : (t123 != 1) = true := bne_iff_ne.mpr c16
                obtain rfl := Option.some.inj H
                go_wp2
                go_ret
                exact ⟨by first | rfl | (simp [errW_none, errW_some] <;> rfl) | (simp [*, errW_none, errW_some] <;> rfl), by repeat (first | (with_reducible first | exact HB.out | apply below_alloc | apply pw_below_drewN | apply below_drew1) | exact HB.out)⟩
            · rw [if_neg c15] at H
              have c15b0 : (t121 == 1) = false := beq_eq_false_iff_ne.mpr c15
              have c15b1 : (t121 != 1) = true := bne_iff_ne.mpr c15
              obtain rfl := Option.some.inj H
              go_wp2
              go_ret
              exact ⟨by first | rfl | (simp [errW_none, errW_some] <;> rfl) | (simp [*, errW_none, errW_some] <;> rfl), by repeat (first | (with_reducible first | exact HB.out | apply below_alloc | apply pw_below_drewN | apply below_drew1) | exact HB.out)⟩
          · rw [if_neg c14] at H
            have c14b0 : (t119 == 1) = false := beq_eq_false_iff_ne.mpr c14
            have c14b1 : (t119 != 1) = true := bne_iff_ne.mpr c14
            obtain rfl := Option.some.inj H
            go_wp2
            go_ret
            exact ⟨by first | rfl | (simp [errW_none, errW_some] <;> rfl) | (simp [*, errW_none, errW_some] <;> rfl), by repeat (first | (with_reducible first | exact HB.out | apply below_alloc | apply pw_below_drewN | apply below_drew1) | exact HB.out)⟩
        · rw [if_neg c13] at H
          have c13b0 : decide (t128 < 0) = false := decide_eq_false c13
          clear c13
          have HC22 := Aside0.mk H
          clear H
          go_upto_region 11 with (fail)
          go_cut [116] (fun v116 wc => ∃ (kq : Nat) (x116_21 : Bool), v116 = .bool x116_21 ∧ Aside0 (sextonlaw06_PanelWho.j1 kq a0 a2 t122 t123 x116_21 = some r) ∧ Aside0 (kq ≤ kj9) ∧ Aside0 (Below w.heap.size w wc))
          case first =>
            have H := HC22.out
            clear HC22
            by_cases c23 : t119 = 0
            · rw [if_pos c23] at H
              have c23b0 : (t119 == 0) = true := beq_iff_eq.mpr c23
              have c23b1 : (t119 != 0) = false := bne_eq_false_iff_eq.mpr c23
              clear c23
              (first | rw [c23b0] | (simp only [i64_w, i32_w]; rw [c23b0]) | skip)
              by_cases c24 : t118 = t128
              · rw [if_pos c24] at H
                have c24b0 : (t118 == t128) = true := beq_iff_eq.mpr c24
                have c24b1 : (t118 != t128) = false := bne_eq_false_iff_eq.mpr c24
                clear c24
                by_cases c25 : a1 ≥ 0
                · rw [if_pos c25] at H
                  have c25b0 : decide (0 ≤ a1) = true := decide_eq_true c25
                  clear c25
                  by_cases c26 : ((t121 == 0) != (decide (a1 < a0))) = true
                  · rw [if_pos c26] at H
                    have c26b0 : ((t121 == 0) != (decide (a1 < a0))) = true := c26
                    (try (have c26b1 : decide ((t121 == 0) = (decide (a1 < a0))) = false := by simpa using c26))
                    (try (have c26b2 : ((t121 == 0) == (decide (a1 < a0))) = false := by simpa using c26))
                    (try (have c26b3 : ¬ ((t121 == 0) = (decide (a1 < a0))) := by simpa using c26))
                    clear c26
                    have H' := Aside0.mk H
                    clear H
                    go_wp2
                    go_meet
                    case rel => exact ⟨_, (true), (by first | rfl | (simp; done) | (simp [*]; done)), H', ⟨by have := HJ9.out; first | omega | exact Nat.le_refl _⟩, ⟨by repeat (first | (with_reducible first | exact HB.out | apply below_alloc | apply pw_below_drewN | apply below_drew1) | exact HB.out)⟩⟩
                  · rw [if_neg c26] at H
                    have c26b0 : ((t121 == 0) != (decide (a1 < a0))) = false := by simpa using c26
                    (try (have c26b1 : decide ((t121 == 0) = (decide (a1 < a0))) = true := by simpa using c26))
                    (try (have c26b2 : ((t121 == 0) == (decide (a1 < a0))) = true := by simpa using c26))
                    clear c26
                    have H' := Aside0.mk H
                    clear H
                    go_wp2
                    go_meet
                    case rel => exact ⟨_, ((t120 != (decide (a1 ≤ t118)))), (by first | rfl | (simp; done) | (simp [*]; done)), H', ⟨by have := HJ9.out; first | omega | exact Nat.le_refl _⟩, ⟨by repeat (first | (with_reducible first | exact HB.out | apply below_alloc | apply pw_below_drewN | apply below_drew1) | exact HB.out)⟩⟩
                · rw [if_neg c25] at H
                  have c25b0 : decide (0 ≤ a1) = false := decide_eq_false c25
                  clear c25
                  by_cases c27 : ((t121 == 0) != false) = true
                  · rw [if_pos c27] at H
                    have c27b0 : ((t121 == 0) != false) = true := c27
                    (try (have c27b1 : decide ((t121 == 0) = false) = false := by simpa using c27))
                    (try (have c27b2 : ((t121 == 0) == false) = false := by simpa using c27))
                    (try (have c27b3 : ¬ ((t121 == 0) = false) := by simpa using c27))
                    clear c27
                    have H' := Aside0.mk H
                    clear H
                    go_wp2
                    go_meet
                    case rel => exact ⟨_, (true), (by first | rfl | (simp; done) | (simp [*]; done)), H', ⟨by have := HJ9.out; first | omega | exact Nat.le_refl _⟩, ⟨by repeat (first | (with_reducible first | exact HB.out | apply below_alloc | apply pw_below_drewN | apply below_drew1) | exact HB.out)⟩⟩
                  · rw [if_neg c27] at H
                    have c27b0 : ((t121 == 0) != false) = false := by simpa using c27
                    (try (have c27b1 : decide ((t121 == 0) = false) = true := by simpa using c27))
                    (try (have c27b2 : ((t121 == 0) == false) = true := by simpa using c27))
                    clear c27
                    have H' := Aside0.mk H
                    clear H
                    go_wp2
                    go_meet
                    case rel => exact ⟨_, ((t120 != false)), (by first | rfl | (simp; done) | (simp [*]; done)), H', ⟨by have := HJ9.out; first | omega | exact Nat.le_refl _⟩, ⟨by repeat (first | (with_reducible first | exact HB.out | apply below_alloc | apply pw_below_drewN | apply below_drew1) | exact HB.out)⟩⟩
              · rw [if_neg c24] at H
                have c24b0 : (t118 == t128) = false := beq_eq_false_iff_ne.mpr c24
                have c24b1 : (t118 != t128) = true := bne_iff_ne.mpr c24
                have H' := Aside0.mk H
                clear H
                go_wp2
                go_meet
                case rel => exact ⟨_, (true), (by first | rfl | (simp; done) | (simp [*]; done)), H', ⟨by have := HJ9.out; first | omega | exact Nat.le_refl _⟩, ⟨by repeat (first | (with_reducible first | exact HB.out | apply below_alloc | apply pw_below_drewN | apply below_drew1) | exact HB.out)⟩⟩
            · rw [if_neg c23] at H
              have c23b0 : (t119 == 0) = false := beq_eq_false_iff_ne.mpr c23
              have c23b1 : (t119 != 0) = true := bne_iff_ne.mpr c23
              (first | rw [c23b0] | (simp only [i64_w, i32_w]; rw [c23b0]) | skip)
              have H' := Aside0.mk H
              clear H
              go_wp2
              go_meet
              case rel => exact ⟨_, (true), (by first | rfl | (simp; done) | (simp [*]; done)), H', ⟨by have := HJ9.out; first | omega | exact Nat.le_refl _⟩, ⟨by repeat (first | (with_reducible first | exact HB.out | apply below_alloc | apply pw_below_drewN | apply below_drew1) | exact HB.out)⟩⟩
          case rest =>
            clear HC22
            try clear c1
            try clear c2
            try clear p2
            try clear c3
            try clear c4
            try clear c10
            try clear c11
            try clear c11b0
            try clear c11b1
            try clear c12
            try clear c13
            try clear c13b0
            try clear c14
            try clear c14b0
            try clear c14b1
            try clear c15
            try clear c15b0
            try clear c15b1
            try clear c16
            try clear c16b0
            try clear c16b1
            try clear c17
            try clear c17b0
            try clear c17b1
            try clear c18
            try clear c19
            try clear c19b0
            try clear c19b1
            try clear c23
            try clear c23b0
            try clear c23b1
            try clear c24
            try clear c24b0
            try clear c24b1
            try clear c25
            try clear c25b0
            try clear c26
            try clear c26b0
            try clear c26b1
            try clear c26b2
            try clear c27
            try clear c27b0
            try clear c27b1
            try clear c27b2
            try clear p2
            obtain ⟨kq, x116_21, rfl, HA, HJ21, HB⟩ := hcut
            cases kq with
            | zero => exact absurd HA.out (by simp [sextonlaw06_PanelWho.j1])
            | succ kj21 =>
              have H := HA.out
              clear HA
              simp only [sextonlaw06_PanelWho.j1] at H
              by_cases c28 : x116_21 = true
              · subst c28
                have H1 : (some false) = some r := by rw [if_pos rfl] at H; exact H
                clear H
                have H := H1
                clear H1
                obtain rfl := Option.some.inj H
                go_wp2
                go_ret
                exact ⟨by first | rfl | (simp [errW_none, errW_some] <;> rfl) | (simp [*, errW_none, errW_some] <;> rfl), by repeat (first | (with_reducible first | exact HB.out | apply below_alloc | apply pw_below_drewN | apply below_drew1) | exact HB.out)⟩
              · replace c28 := Bool.eq_false_iff.mpr c28
                subst c28
                have H1 : ((sextonref06_Primary.f kj21 a0 a2).bind fun t130 => (if ((t123 == 0) == (decide (t130 ≥ 0))) = true then (if t130 < 0 then (if t122 = 0 then ((sextonlaw06_five.f kj21).bind fun t131 => (some t131)) else (if t122 = t130 then ((sextonlaw06_five.f kj21).bind fun t132 => (some t132)) else (some false))) else (if t122 = t130 then ((sextonlaw06_five.f kj21).bind fun t133 => (some t133)) else (some false))) else (some false))) = some r := by rw [if_neg (show ¬ (false = true) by decide)] at H; exact H
                clear H
                have H := H1
                clear H1
                replace H := Option.bind_eq_some_iff.mp H
                obtain ⟨t130, A290, H⟩ := H
                replace H : (if ((t123 == 0) == (decide (t130 ≥ 0))) = true then (if t130 < 0 then (if t122 = 0 then ((sextonlaw06_five.f kj21).bind fun t131 => (some t131)) else (if t122 = t130 then ((sextonlaw06_five.f kj21).bind fun t132 => (some t132)) else (some false))) else (if t122 = t130 then ((sextonlaw06_five.f kj21).bind fun t133 => (some t133)) else (some false))) else (some false)) = some r := H
                have A29 := Aside0.mk A290
                clear A290
                by_cases c30 : ((t123 == 0) == (decide (t130 ≥ 0))) = true
                · rw [if_pos c30] at H
                  have c30b0 : ((t123 == 0) == (decide (t130 ≥ 0))) = true := c30
                  (try (have c30b1 : decide ((t123 == 0) = (decide (t130 ≥ 0))) = true := by simpa using c30))
                  (try (have c30b2 : ((t123 == 0) == (decide (t130 ≥ 0))) = true := by simpa using c30))
                  clear c30
                  by_cases c31 : t130 < 0
                  · rw [if_pos c31] at H
                    have c31b0 : decide (t130 < 0) = true := decide_eq_true c31
                    clear c31
                    by_cases c32 : t122 = 0
                    · rw [if_pos c32] at H
                      have c32b0 : (t122 == 0) = true := beq_iff_eq.mpr c32
                      have c32b1 : (t122 != 0) = false := bne_eq_false_iff_eq.mpr c32
                      clear c32
                      replace H := Option.bind_eq_some_iff.mp H
                      obtain ⟨t131, A330, H⟩ := H
                      replace H : (some t131) = some r := H
                      have A33 := Aside0.mk A330
                      clear A330
                      obtain rfl := Option.some.inj H
                      go_wp2_with (first | ((with_reducible refine gate_callee (f := 44) rfl ?_); refine goesL_ (some 119) rfl rfl Try.func44 (by kernel_rfl) rfl #[.int .i64 a0, .int .i64 a2] rfl (by (try simp only [List.map_toArray, List.map_cons, List.map_nil]); first | done | rfl | (simp only [List.length_drop, List.length_take]; rfl)) ?_; (with_reducible refine (sextonref06_Primary.calls kj21 a0 a2 t130 _ A29.out).mono ?_); rintro e w' ⟨rfl, ⟨nd, rfl⟩⟩; refine ⟨_, rfl, ?_⟩) | (go_at_call 37; (with_reducible refine (sextonlaw06_five.calls kj21  t131 _ A33.out).mono ?_); rintro e w34 ⟨rfl, hb⟩; have n0_ := Aside0.mk (below_step (by repeat (first | (with_reducible first | exact HB.out | apply below_alloc | apply pw_below_drewN | apply below_drew1) | exact HB.out)) hb); clear HB; have HB := n0_; clear n0_; (try clear hb); (try clear hb2); (try clear hk); (try clear hi)))
                      go_ret
                      exact ⟨by first | rfl | (simp [errW_none, errW_some] <;> rfl) | (simp [*, errW_none, errW_some] <;> rfl), by repeat (first | (with_reducible first | exact HB.out | apply below_alloc | apply pw_below_drewN | apply below_drew1) | exact HB.out)⟩
                    · rw [if_neg c32] at H
                      have c32b0 : (t122 == 0) = false := beq_eq_false_iff_ne.mpr c32
                      have c32b1 : (t122 != 0) = true := bne_iff_ne.mpr c32
                      by_cases c35 : t122 = t130
                      · rw [if_pos c35] at H
                        have c35b0 : (t122 == t130) = true := beq_iff_eq.mpr c35
                        have c35b1 : (t122 != t130) = false := bne_eq_false_iff_eq.mpr c35
                        clear c35
                        replace H := Option.bind_eq_some_iff.mp H
                        obtain ⟨t132, A360, H⟩ := H
                        replace H : (some t132) = some r := H
                        have A36 := Aside0.mk A360
                        clear A360
                        obtain rfl := Option.some.inj H
                        go_wp2_with (first | ((with_reducible refine gate_callee (f := 44) rfl ?_); refine goesL_ (some 119) rfl rfl Try.func44 (by kernel_rfl) rfl #[.int .i64 a0, .int .i64 a2] rfl (by (try simp only [List.map_toArray, List.map_cons, List.map_nil]); first | done | rfl | (simp only [List.length_drop, List.length_take]; rfl)) ?_; (with_reducible refine (sextonref06_Primary.calls kj21 a0 a2 t130 _ A29.out).mono ?_); rintro e w' ⟨rfl, ⟨nd, rfl⟩⟩; refine ⟨_, rfl, ?_⟩) | (go_at_call 37; (with_reducible refine (sextonlaw06_five.calls kj21  t132 _ A36.out).mono ?_); rintro e w37 ⟨rfl, hb⟩; have n0_ := Aside0.mk (below_step (by repeat (first | (with_reducible first | exact HB.out | apply below_alloc | apply pw_below_drewN | apply below_drew1) | exact HB.out)) hb); clear HB; have HB := n0_; clear n0_; (try clear hb); (try clear hb2); (try clear hk); (try clear hi)))
                        go_ret
                        exact ⟨by first | rfl | (simp [errW_none, errW_some] <;> rfl) | (simp [*, errW_none, errW_some] <;> rfl), by repeat (first | (with_reducible first | exact HB.out | apply below_alloc | apply pw_below_drewN | apply below_drew1) | exact HB.out)⟩
                      · rw [if_neg c35] at H
                        have c35b0 : (t122 == t130) = false := beq_eq_false_iff_ne.mpr c35
                        have c35b1 : (t122 != t130) = true := bne_iff_ne.mpr c35
                        obtain rfl := Option.some.inj H
                        go_wp2_with (first | ((with_reducible refine gate_callee (f := 44) rfl ?_); refine goesL_ (some 119) rfl rfl Try.func44 (by kernel_rfl) rfl #[.int .i64 a0, .int .i64 a2] rfl (by (try simp only [List.map_toArray, List.map_cons, List.map_nil]); first | done | rfl | (simp only [List.length_drop, List.length_take]; rfl)) ?_; (with_reducible refine (sextonref06_Primary.calls kj21 a0 a2 t130 _ A29.out).mono ?_); rintro e w' ⟨rfl, ⟨nd, rfl⟩⟩; refine ⟨_, rfl, ?_⟩))
                        go_ret
                        exact ⟨by first | rfl | (simp [errW_none, errW_some] <;> rfl) | (simp [*, errW_none, errW_some] <;> rfl), by repeat (first | (with_reducible first | exact HB.out | apply below_alloc | apply pw_below_drewN | apply below_drew1) | exact HB.out)⟩
                  · rw [if_neg c31] at H
                    have c31b0 : decide (t130 < 0) = false := decide_eq_false c31
                    clear c31
                    by_cases c38 : t122 = t130
                    · rw [if_pos c38] at H
                      have c38b0 : (t122 == t130) = true := beq_iff_eq.mpr c38
                      have c38b1 : (t122 != t130) = false := bne_eq_false_iff_eq.mpr c38
                      clear c38
                      replace H := Option.bind_eq_some_iff.mp H
                      obtain ⟨t133, A390, H⟩ := H
                      replace H : (some t133) = some r := H
                      have A39 := Aside0.mk A390
                      clear A390
                      obtain rfl := Option.some.inj H
                      go_wp2_with (first | ((with_reducible refine gate_callee (f := 44) rfl ?_); refine goesL_ (some 119) rfl rfl Try.func44 (by kernel_rfl) rfl #[.int .i64 a0, .int .i64 a2] rfl (by (try simp only [List.map_toArray, List.map_cons, List.map_nil]); first | done | rfl | (simp only [List.length_drop, List.length_take]; rfl)) ?_; (with_reducible refine (sextonref06_Primary.calls kj21 a0 a2 t130 _ A29.out).mono ?_); rintro e w' ⟨rfl, ⟨nd, rfl⟩⟩; refine ⟨_, rfl, ?_⟩) | (go_at_call 37; (with_reducible refine (sextonlaw06_five.calls kj21  t133 _ A39.out).mono ?_); rintro e w40 ⟨rfl, hb⟩; have n0_ := Aside0.mk (below_step (by repeat (first | (with_reducible first | exact HB.out | apply below_alloc | apply pw_below_drewN | apply below_drew1) | exact HB.out)) hb); clear HB; have HB := n0_; clear n0_; (try clear hb); (try clear hb2); (try clear hk); (try clear hi)))
                      go_ret
                      exact ⟨by first | rfl | (simp [errW_none, errW_some] <;> rfl) | (simp [*, errW_none, errW_some] <;> rfl), by repeat (first | (with_reducible first | exact HB.out | apply below_alloc | apply pw_below_drewN | apply below_drew1) | exact HB.out)⟩
                    · rw [if_neg c38] at H
                      have c38b0 : (t122 == t130) = false := beq_eq_false_iff_ne.mpr c38
                      have c38b1 : (t122 != t130) = true := bne_iff_ne.mpr c38
                      obtain rfl := Option.some.inj H
                      go_wp2_with (first | ((with_reducible refine gate_callee (f := 44) rfl ?_); refine goesL_ (some 119) rfl rfl Try.func44 (by kernel_rfl) rfl #[.int .i64 a0, .int .i64 a2] rfl (by (try simp only [List.map_toArray, List.map_cons, List.map_nil]); first | done | rfl | (simp only [List.length_drop, List.length_take]; rfl)) ?_; (with_reducible refine (sextonref06_Primary.calls kj21 a0 a2 t130 _ A29.out).mono ?_); rintro e w' ⟨rfl, ⟨nd, rfl⟩⟩; refine ⟨_, rfl, ?_⟩))
                      go_ret
                      exact ⟨by first | rfl | (simp [errW_none, errW_some] <;> rfl) | (simp [*, errW_none, errW_some] <;> rfl), by repeat (first | (with_reducible first | exact HB.out | apply below_alloc | apply pw_below_drewN | apply below_drew1) | exact HB.out)⟩
                · rw [if_neg c30] at H
                  have c30b0 : ((t123 == 0) == (decide (t130 ≥ 0))) = false := by simpa using c30
                  (try (have c30b1 : decide ((t123 == 0) = (decide (t130 ≥ 0))) = false := by simpa using c30))
                  (try (have c30b2 : ((t123 == 0) == (decide (t130 ≥ 0))) = false := by simpa using c30))
                  (try (have c30b3 : ¬ ((t123 == 0) = (decide (t130 ≥ 0))) := by simpa using c30))
                  clear c30
                  obtain rfl := Option.some.inj H
                  go_wp2_with (first | ((with_reducible refine gate_callee (f := 44) rfl ?_); refine goesL_ (some 119) rfl rfl Try.func44 (by kernel_rfl) rfl #[.int .i64 a0, .int .i64 a2] rfl (by (try simp only [List.map_toArray, List.map_cons, List.map_nil]); first | done | rfl | (simp only [List.length_drop, List.length_take]; rfl)) ?_; (with_reducible refine (sextonref06_Primary.calls kj21 a0 a2 t130 _ A29.out).mono ?_); rintro e w' ⟨rfl, ⟨nd, rfl⟩⟩; refine ⟨_, rfl, ?_⟩))
                  go_ret
                  exact ⟨by first | rfl | (simp [errW_none, errW_some] <;> rfl) | (simp [*, errW_none, errW_some] <;> rfl), by repeat (first | (with_reducible first | exact HB.out | apply below_alloc | apply pw_below_drewN | apply below_drew1) | exact HB.out)⟩

/-- THE ONE PURE STATEMENT of sextonlaw06_PanelWho: yours. -/
def sextonlaw06_PanelWho.Pure : Prop := ∀ (a0 : Int) (a1 : Int) (a2 : Int), (Lit.int .i64 a0).wf = true → (Lit.int .i64 a1).wf = true → (Lit.int .i64 a2).wf = true → ∃ k, sextonlaw06_PanelWho.f k a0 a1 a2 = some true
theorem sextonlaw06_PanelWho.walk (P : sextonlaw06_PanelWho.Pure) (a0 : Int) (a1 : Int) (a2 : Int) (w : World) (w0 : (Lit.int .i64 a0).wf = true) (w1 : (Lit.int .i64 a1).wf = true) (w2 : (Lit.int .i64 a2).wf = true) :
    Calls Try.prog 10 #[.int .i64 a0, .int .i64 a1, .int .i64 a2] w fun e w' => e = .returned (.bool true) ∧ Below w.heap.size w w' := by
  obtain ⟨k, h⟩ := P a0 a1 a2 w0 w1 w2
  refine (sextonlaw06_PanelWho.calls k a0 a1 a2 true w h).mono ?_
  rintro e w' ⟨rfl, hd⟩
  exact ⟨rfl, hd⟩

end Go.Proofs.Ytipeleefbaalpaa.PPanelWho
