/- What panel.Reached answers, for every number of nodes and every list of acks: it returns; the greatest number that enough have, or ErrArg. No condition. -/
import Derived.Test.YtipeleefbaalpaaShelf
import Derived.Below
import Derived.Deep.Draws
import Derived.Deep.AppendLies
import Derived.Maps.AppendAt
import Derived.OwnWalk
import Derived.Laws.BytesArg
import Derived.Laws.MakeOwn
import Derived.Laws.OwnMore
import Derived.Deep.OwnRows
import Derived.Tactics
import Derived.Lib.ConvBytes
import Derived.Laws.Slices
import Derived.WalkKit
import Derived.KernelRfl
import Derived.RowKit3
import Derived.Deep.LoopGhost
import Derived.Deep.QuietTactic
import Derived.BigQuiet
import Derived.WideLaws
import Derived.Deep.DeepCutAuto
import Derived.Deep.CutBlock
import Derived.Deep.RegionHeld3
import Derived.Laws.Rows
import Derived.Lib.AppendStr
import Derived.ArgAppend
import Derived.Laws.IdiomCopy
import Derived.OrdersHeld
import Derived.Laws.BitsLemmas
import Derived.RowKit
import Derived.Lib.OwnBridge
import Derived.Lib.Hide
import Derived.Test.YtipeleefbaalpaaWMore
namespace Go.Proofs.Ytipeleefbaalpaa.Ext
open Go.RowKit Go.Shelf Go.Sort Go.Proofs.YtipeleefbaalpaaW.PrintWords Go.Proofs.YtipeleefbaalpaaW.PrintLast Go.Proofs.YtipeleefbaalpaaW.PrintMore

def badB (a : Int) : Bool := decide (a < 0) || decide (1099511627776 < a)
def panelI (n : Int) : Bool := n == 1 || n == 3 || n == 5 || n == 7
def sorted (l : List Int) : List Int := l.mergeSort fun x y => decide (x ≤ y)
def reachedB (n : Int) (l : List Int) : Int × Int :=
  if panelI n && ((l.length : Int) == n) && !(l.any badB) then (rd (sorted l) (n / 2), 0) else (0, 1)
/-- The same words as a printed function's. -/
def panel_Reached.f (a0 : Int) (l1 : List Int) : Option (Int × Int) := some (reachedB a0 l1)

theorem bad_at (w : World) : PredAt Try.prog 61 #[] (Value.int .i64) badB w := fun W x hb => by
  show Calls Try.prog 61 #[.int .i64 x] W _
  by_cases h1 : x < 0
  · have h1' : decide (x < 0) = true := decide_eq_true h1
    go_enter Try.func61, Try.ntmps61
    go_wp2
    go_ret
    exact ⟨by simp [badB, h1], 0, rfl⟩
  · have h1' : decide (x < 0) = false := decide_eq_false h1
    by_cases h2 : 1099511627776 < x
    · have h2' : decide (1099511627776 < x) = true := decide_eq_true h2
      go_enter Try.func61, Try.ntmps61
      go_wp2
      go_ret
      exact ⟨by simp [badB, h2], 0, rfl⟩
    · have h2' : decide (1099511627776 < x) = false := decide_eq_false h2
      go_enter Try.func61, Try.ntmps61
      go_wp2
      go_ret
      exact ⟨by simp [badB, h1, h2], 0, rfl⟩
theorem panel_cases {n : Int} (h : panelI n = true) : n = 1 ∨ n = 3 ∨ n = 5 ∨ n = 7 := by
  simp [panelI] at h; omega
theorem asked_ok (n : Int) (w : World) (h : panelI n = true) : Calls Try.prog 65 #[.int .i64 0, .int .i64 n, .int .i64 0] w fun e w' => e = .returned (.int .i64 0) ∧ w' = w := by
  rcases panel_cases h with rfl | rfl | rfl | rfl
  all_goals
    go_enter Try.func65, Try.ntmps65
    go_wp2
    go_ret
    exact ⟨rfl, rfl⟩
theorem asked_bad (n : Int) (w : World) (h : panelI n = false) : Calls Try.prog 65 #[.int .i64 0, .int .i64 n, .int .i64 0] w fun e w' => e = .returned (.int .i64 1) ∧ w' = w := by
  simp only [panelI, Bool.or_eq_false_iff] at h
  obtain ⟨⟨⟨h1, h3⟩, h5⟩, h7⟩ := h
  have n1 : (n != 1) = true := by rw [bne, h1]; rfl
  have n3 : (n != 3) = true := by rw [bne, h3]; rfl
  have n5 : (n != 5) = true := by rw [bne, h5]; rfl
  have n7 : (n != 7) = true := by rw [bne, h7]; rfl
  go_enter Try.func65, Try.ntmps65
  go_wp2
  go_ret
  exact ⟨rfl, rfl⟩
theorem faults_ok (n : Int) (w : World) (h : panelI n = true) : Calls Try.prog 38 #[.int .i64 n] w fun e w' => e = .returned (.tuple #[.int .i64 (n / 2), .int .i64 0]) ∧ w = w' := by
  have hn : 0 ≤ n ∧ n ≤ 7 := by rcases panel_cases h with rfl | rfl | rfl | rfl <;> decide
  obtain ⟨h0, h9⟩ := hn
  have ha := fun w => asked_ok n w h
  clear h
  go_enter Try.func38, Try.ntmps38
  go_wp2_with (go_at_call 65; refine (ha _).mono ?_; rintro e w' ⟨rfl, rfl⟩)
  go_ret2
  exact ⟨rfl, rfl⟩
theorem faults_bad (n : Int) (w : World) (h : panelI n = false) : Calls Try.prog 38 #[.int .i64 n] w fun e w' => e = .returned (.tuple #[.int .i64 0, .int .i64 1]) ∧ w = w' := by
  have ha := fun w => asked_bad n w h
  clear h
  go_enter Try.func38, Try.ntmps38
  go_wp2_with (go_at_call 65; refine (ha _).mono ?_; rintro e w' ⟨rfl, rfl⟩)
  go_ret2
  exact ⟨rfl, rfl⟩
theorem reads_cells {w : World} {A : Option Addr} {l : List Int} (h : Kd.C (Kd.int .i64) w A l.length l) (hl : 0 < l.length) :
    ∃ b off, A = some ⟨b, off, none⟩ ∧ ∀ j, j < l.length → w.cell? ⟨b, off + j, none⟩ = some (.int .i64 (l.getD j 0)) := by
  have r := Kd.reads_of_C (d := (0 : Int)) h
  obtain ⟨ad, rfl, hc⟩ := r.2.2 hl
  obtain ⟨b, off, spot⟩ := ad
  have hspot : spot = none := by simpa [Addr.add] using World.cell?_spot (hc 0 hl)
  subst hspot
  exact ⟨b, off, rfl, fun j hj => by rw [← Go.WideShapes.add_plain]; exact hc j hj⟩
theorem sorted_at {w w1 w2 : World} {g n : Nat} {os : Array Obj} {l : List Int} {i : Int} (h0 : 0 ≤ i) (h1 : i < (l.length : Int)) (hb : RowKit.Below w.heap.size w w1) (hg : w.heap.size ≤ g) (hH : Holds (Value.int .i64) w1 g 0 l.toArray) (hlt : g < w1.heap.size)
    (hw : w2 = grow (putRow (Value.int .i64) (Sort.ahead w1 n) g 0 (l.mergeSort fun x y => decide (x ≤ y)).toArray) os) :
    w2.cell? ⟨g, i.toNat, none⟩ = some (.int .i64 (rd (sorted l) i)) ∧ RowKit.Below w.heap.size w w2 := by
  subst hw
  have hl : (sorted l).length = l.length := by unfold sorted; exact List.length_mergeSort _
  refine ⟨?_, ?_⟩
  · have hh := holds_putRow (Value.int .i64) (Sort.ahead w1 n) g 0 l.toArray (sorted l).toArray hH (by simpa using hl)
    have hi := (hh i.toNat (by simp; omega)).1
    rw [Nat.zero_add] at hi
    rw [cell?_grow _ _ _ (by simpa using hlt)]
    refine hi.trans ?_
    have : i.toNat < (sorted l).length := by omega
    simp [YtipeleefbaalpaaW.PrintWords.rd, getElem!_pos, this]
  · have h2 := Lib.below_putRow (enc := Value.int .i64) (q := n) (d := (l.mergeSort fun x y => decide (x ≤ y)).toArray) hb hg
    exact h2.trans ⟨rfl, rfl, rfl, by simp [grow], fun i hi => heap_grow_old _ os (Nat.lt_of_lt_of_le hi h2.size)⟩
/-- The way on which all is right. -/
theorem reached_ok (a0 : Int) (b off c1 : Nat) (l1 : List Int) (w : World) (hp : panelI a0 = true) (hl : (l1.length : Int) = a0) (hb : l1.any badB = false)
    (hc : ∀ j, j < l1.length → w.cell? ⟨b, off + j, none⟩ = some (.int .i64 (l1.getD j 0))) :
    Calls Try.prog 35 #[.int .i64 a0, .slice (some ⟨b, off, none⟩) l1.length c1] w fun e w' => e = .returned (.tuple #[.int .i64 (rd (sorted l1) (a0 / 2)), .int .i64 0]) ∧ Below w.heap.size w w' := by
  have hn : 1 ≤ a0 ∧ a0 ≤ 7 := by rcases panel_cases hp with rfl | rfl | rfl | rfl <;> decide
  obtain ⟨n1, n7⟩ := hn
  have hfa := faults_ok a0 w hp
  clear hp
  have eg : ∀ args w, (callFunc 61 args).run Try.prog w = .ok (.enter 61 args) w := enters_of Try.func61 (by kernel_rfl) rfl
  have hco := Try.slices_ContainsFunc (Value.int .i64) badB 61 #[] eg b off l1.length c1 l1 w (bad_at w) (Nat.le_refl _) (by omega) (fun j hj => by rw [hc j hj]; simp [List.getD, hj, getElem!_pos])
  rw [List.take_length, hb] at hco
  have hcl := fun q => Try.slices_Clone_int b off l1.length c1 l1 (w.drewN q) (Nat.le_refl _) (by omega) hc
  clear hc
  have hne : ((l1.length : Int) != a0) = false := by simp [hl]
  have hi0 : 0 ≤ a0 / 2 := by omega
  have hi1 : a0 / 2 < (l1.length : Int) := by omega
  have HL := Lib.hid hl
  clear hl hb
  go_enter Try.func35, Try.ntmps35
  go_wp2_with (first
    | (go_at_call 38; refine hfa.mono ?_; rintro e w' ⟨rfl, rfl⟩)
    | (go_at_call 62; refine hco.mono ?_; rintro e w' ⟨rfl, q, rfl⟩)
    | (go_at_call 63; refine (hcl _).mono ?_; rintro e w1 ⟨v1, rfl, hown, hnn, hbel⟩
       have hbel : RowKit.Below w.heap.size w w1 := (pw_below_drewN (Below.refl _ w) q).trans hbel
       obtain ⟨g, cap, rfl, hbg, hlt, _, hcm, hlen, hH⟩ := Lib.holds_of_ownsRow hown hnn
       have hso := Try.slices_Sort_int g 0 cap (l1.take l1.length) w1 hH hlt (by have := HL.out; simp; omega)
       rw [hlen, List.take_length] at hso
       rw [List.take_length] at hH
       have X : Aside0 (RowKit.Below w.heap.size w w1 ∧ w.heap.size ≤ g ∧ Holds (Value.int .i64) w1 g 0 l1.toArray ∧ g < w1.heap.size) := ⟨hbel, hbg, hH, hlt⟩
       clear hown hbel hH hnn hbg hlt)
    | (go_at_call 64; refine hso.mono ?_; rintro e w2 ⟨rfl, n, os, hw2⟩
       obtain ⟨hcell, hbel2⟩ := sorted_at hi0 hi1 X.out.1 X.out.2.1 X.out.2.2.1 X.out.2.2.2 hw2
       have Y := Aside0.mk hbel2
       clear hw2 hbel2))
  go_ret2
  exact ⟨rfl, Y.out⟩
theorem panel_Reached.calls (a0 : Int) (A1 : Option Addr) (c1 : Nat) (l1 : List Int) (r1 : Int) (r2 : Int) (w : World) (hr1 : Kd.C (Kd.int .i64) w A1 l1.length l1) (_hc1 : l1.length ≤ c1) (h : panel_Reached.f a0 l1 = some (r1, r2)) :
    Calls Try.prog 35 #[.int .i64 a0, .slice A1 l1.length c1] w fun e w' => e = .returned (.tuple #[.int .i64 r1, .int .i64 r2]) ∧ RowKit.Below w.heap.size w w' := by
  have hR : reachedB a0 l1 = (r1, r2) := Option.some.inj h
  clear h
  unfold reachedB at hR
  cases hp : panelI a0
  · rw [hp] at hR
    obtain ⟨rfl, rfl⟩ : 0 = r1 ∧ 1 = r2 := by simpa using hR
    have hfa := faults_bad a0 w hp
    clear hp hR hr1
    go_enter Try.func35, Try.ntmps35
    go_wp2_with (go_at_call 38; refine hfa.mono ?_; rintro e w' ⟨rfl, rfl⟩)
    go_ret2
    exact ⟨rfl, Below.refl _ _⟩
  · rw [hp] at hR
    have hfa := faults_ok a0 w hp
    by_cases hl : (l1.length : Int) = a0
    · have hpos : 0 < l1.length := by rcases panel_cases hp with e | e | e | e <;> omega
      obtain ⟨b, off, rfl, hc⟩ := reads_cells hr1 hpos
      cases hb : l1.any badB
      · rw [hb] at hR
        have e2 : ((l1.length : Int) == a0) = true := by simp [hl]
        rw [e2] at hR
        obtain ⟨rfl, rfl⟩ : rd (sorted l1) (a0 / 2) = r1 ∧ 0 = r2 := by simpa using hR
        exact reached_ok a0 b off c1 l1 w hp hl hb hc
      · rw [hb] at hR
        obtain ⟨rfl, rfl⟩ : 0 = r1 ∧ 1 = r2 := by simpa using hR
        have eg : ∀ args w, (callFunc 61 args).run Try.prog w = .ok (.enter 61 args) w := enters_of Try.func61 (by kernel_rfl) rfl
        have hco := Try.slices_ContainsFunc (Value.int .i64) badB 61 #[] eg b off l1.length c1 l1 w (bad_at w) (Nat.le_refl _) (by have := hr1.2.1; omega) (fun j hj => by rw [hc j hj]; simp [List.getD, hj, getElem!_pos])
        rw [List.take_length, hb] at hco
        have hne : ((l1.length : Int) != a0) = false := by simp [hl]
        clear hc hl hb hp hR hr1
        go_enter Try.func35, Try.ntmps35
        go_wp2_with (first
          | (go_at_call 38; refine hfa.mono ?_; rintro e w' ⟨rfl, rfl⟩)
          | (go_at_call 62; refine hco.mono ?_; rintro e w' ⟨rfl, q, rfl⟩))
        go_ret2
        exact ⟨rfl, pw_below_drewN (Below.refl _ w) q⟩
    · have e2 : ((l1.length : Int) == a0) = false := by simpa using hl
      rw [e2] at hR
      obtain ⟨rfl, rfl⟩ : 0 = r1 ∧ 1 = r2 := by simpa using hR
      have hne : ((l1.length : Int) != a0) = true := by simpa using hl
      clear e2 hl hp hR hr1
      go_enter Try.func35, Try.ntmps35
      go_wp2_with (go_at_call 38; refine hfa.mono ?_; rintro e w' ⟨rfl, rfl⟩)
      go_ret2
      exact ⟨rfl, Below.refl _ _⟩
end Go.Proofs.Ytipeleefbaalpaa.Ext
