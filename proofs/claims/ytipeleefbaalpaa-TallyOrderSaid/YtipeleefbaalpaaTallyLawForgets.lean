/- Two tallies side by side; TallyForgets' walk. -/
import Derived.Test.YtipeleefbaalpaaReached
import Derived.Test.YtipeleefbaalpaaTallyInts
import Derived.Below
import Derived.Deep.Draws
import Derived.Deep.AppendLies
import Derived.Maps.AppendAt
import Derived.OwnWalk
import Derived.Laws.BytesArg
import Derived.Laws.MakeOwn
import Derived.Laws.OwnMore
import Derived.Deep.OwnRows
import Derived.Tactics
import Derived.Lib.ConvBytes
import Derived.Laws.Slices
import Derived.WalkKit
import Derived.KernelRfl
import Derived.RowKit3
import Derived.Deep.LoopGhost
import Derived.Deep.QuietTactic
import Derived.BigQuiet
import Derived.WideLaws
import Derived.Deep.DeepCutAuto
import Derived.Deep.CutBlock
import Derived.Deep.RegionHeld3
import Derived.Laws.Rows
import Derived.Lib.AppendStr
import Derived.ArgAppend
import Derived.Laws.IdiomCopy
import Derived.OrdersHeld
import Derived.Laws.BitsLemmas
import Derived.RowKit
import Derived.StillTailTactics
import Derived.Deep.DeepMust
import Derived.Outline
import Derived.Test.YtipeleefbaalpaaWMore
namespace Go.Proofs.Ytipeleefbaalpaa.Ty
open Go.ChangeMaps Go.MapKept
open Go.RowKit Go.Shelf Go.Maps Go.Sort Go.Proofs.YtipeleefbaalpaaW.PrintWords Go.Proofs.YtipeleefbaalpaaW.PrintLast Go.Proofs.YtipeleefbaalpaaW.PrintMore Go.Proofs.Ytipeleefbaalpaa.Ext
structure Two (W w : World) (p B q C : Nat) (n : Int) (l m : List Bid) : Prop where
  x : Run W w p B n l
  y : Run W w q C n m
  pq : p ≠ q
  pC : p ≠ C
  Bq : B ≠ q
  BC : B ≠ C
section
variable {W w w' : World} {p B q C : Nat} {n : Int} {l m l' m' : List Bid}
theorem Two.onx (h : Two W w p B q C n l m) (hR : Run W w' p B n l') (hg : w.grownBy w' (some B)) : Two W w' p B q C n l' m :=
  ⟨hR, h.y.kept hg (fun e => h.Bq (Option.some.inj e).symm) (fun e => h.BC (Option.some.inj e).symm) (fun k e => by cases e; exact h.x.hB), h.pq, h.pC, h.Bq, h.BC⟩
theorem Two.ony (h : Two W w p B q C n l m) (hR : Run W w' q C n m') (hg : w.grownBy w' (some C)) : Two W w' p B q C n l m' :=
  ⟨h.x.kept hg (fun e => h.pC (Option.some.inj e)) (fun e => h.BC (Option.some.inj e)) (fun k e => by cases e; exact h.y.hB), hR, h.pq, h.pC, h.Bq, h.BC⟩
theorem Two.kept (h : Two W w p B q C n l m) (hg : w.grownBy w' none) : Two W w' p B q C n l m :=
  ⟨h.x.kept hg (by simp) (by simp) (by simp), h.y.kept hg (by simp) (by simp) (by simp), h.pq, h.pC, h.Bq, h.BC⟩
theorem Two.alloc (h : Two W w p B q C n l m) (o : Obj) : Two W (w.alloc o) p B q C n l m := h.kept (World.grownBy_alloc w o none)
theorem Two.made (h : Run W w p B n l) (hR : Run W w' q C n m) (hg : w.grownBy w' none) (h1 : w.heap.size ≤ q) (h2 : w.heap.size ≤ C) : Two W w' p B q C n l m := by
  have a := h.at_.2.1.lt
  have b := (Array.getElem?_eq_some_iff.1 h.at_.1).1
  exact ⟨h.kept hg (by simp) (by simp) (by simp), hR, by omega, by omega, by omega, by omega⟩
end
theorem drawn_grown {w w' : World} (h : Drawn0 w w') : w.grownBy w' none := by
  obtain ⟨⟨n, rfl⟩⟩ := h
  exact ⟨rfl, rfl, rfl, Nat.le_refl _, fun _ _ _ => rfl⟩
theorem forget_ins (b : Bid) : ∀ L : List Bid, (∀ c ∈ L, c.1 ≠ b.1) → forgetL (insB b L) b.1 = L
  | [], _ => by simp [insB, forgetL]
  | y :: r, h => by
    have hy : ¬ y.1 = b.1 := h y (by simp)
    have ih := forget_ins b r (fun c hc => h c (by simp [hc]))
    have hr : forgetL (y :: r) b.1 = y :: r := by
      unfold forgetL
      rw [List.filter_eq_self]
      intro c hc
      simp [h c hc]
    unfold insB
    split
    · have : forgetL (b :: y :: r) b.1 = forgetL (y :: r) b.1 := by simp [forgetL]
      rw [this, hr]
    · have : forgetL (y :: insB b r) b.1 = y :: forgetL (insB b r) b.1 := by simp [forgetL, hy]
      rw [this, ih]
theorem forget_none {L : List Bid} {i : Int} (h : ∀ c ∈ L, c.1 ≠ i) : forgetL L i = L := by
  unfold forgetL
  rw [List.filter_eq_self]
  intro c hc
  simp [h c hc]
/-- What a bid of a node that has none does, and what forgetting it does then. -/
theorem add_new {L : List Bid} {b : Bid} (h : ∀ c ∈ L, c.1 ≠ b.1) : hasL L b.1 = false ∧ hasL (addL L b) b.1 = true ∧ forgetL (addL L b) b.1 = L ∧ (addL L b).length = L.length + 1 := by
  refine ⟨?_, ?_, ?_, ?_⟩
  · cases e : hasL L b.1
    · rfl
    · obtain ⟨c, hc, hcb⟩ := has_mem.1 e
      exact absurd hcb (h c hc)
  · exact has_mem.2 ⟨b, add_mem.2 (.inl rfl), rfl⟩
  · unfold addL
    rw [forget_none h, forget_ins b L h]
  · rw [add_len, forget_none h]
/-- The rows of an argument. -/
def In (w : World) (A : Option Addr) (bl : List Bid) : Prop := ∀ i (hi : i < bl.length), ∃ g o, A = some ⟨g, o, none⟩ ∧ w.cell? ⟨g, o + i * 3, none⟩ = some (.int .i64 bl[i].1) ∧ w.cell? ⟨g, o + i * 3 + 1, none⟩ = some (.int .i64 bl[i].2.1) ∧ w.cell? ⟨g, o + i * 3 + 2, none⟩ = some (.int .i64 bl[i].2.2) ∧ (Lit.int .i64 bl[i].1).wf = true
set_option maxRecDepth 100000 in
set_option maxHeartbeats 8000000 in
theorem law_forgets (w : World) (A : Option Addr) (cap : Nat) (bl : List Bid) (b : Bid) (hin : In w A bl) (hwb : (Lit.int .i64 b.1).wf = true) :
    Calls Try.prog 12 #[.slice A bl.length cap, bidV b] w fun e w' => e = .returned (.bool true) ∧ Below w.heap.size w w' := by
  obtain ⟨b0, b1, b2⟩ := b
  simp only [bidV] at *
  obtain ⟨wA, hA⟩ : ∃ wA, w.alloc (.cells #[.int .i64 b0, .int .i64 b1, .int .i64 b2] 51) = wA := ⟨_, rfl⟩
  have hbA : Below w.heap.size w wA := by rw [← hA]; exact (Below.refl _ _).alloc (Nat.le_refl _) _
  have a0 : wA.cell? ⟨w.heap.size, 0, none⟩ = some (.int .i64 b0) := by rw [← hA]; exact cell_new _ _ _ _ _
  have a1 : wA.cell? ⟨w.heap.size, 1, none⟩ = some (.int .i64 b1) := by rw [← hA]; exact cell_new _ _ _ _ _
  have a2 : wA.cell? ⟨w.heap.size, 2, none⟩ = some (.int .i64 b2) := by rw [← hA]; exact cell_new _ _ _ _ _
  have hN := run_new 7 wA wA (Below.refl _ _) (by decide)
  by_cases hbig : (100 : Int) < (bl.length : Int)
  · go_enter Try.func12, Try.ntmps12
    go_wp2_with (first
      | (
        go_at_call 28
        refine hN.mono ?_
        rintro e w1 ⟨p, B, rfl, hR1, _, _, _⟩
        clear hN)
      | (
        go_at_call 28
        refine (run_new 7 wA w1 hR1.below (by decide)).mono ?_
        rintro e w2 ⟨q, C, rfl, hR2, _, _, _⟩)
      | (
        go_at_call 29
        refine (two_ok _).mono ?_
        rintro e w3 ⟨rfl, hb3⟩))
    go_ret
    exact ⟨rfl, hbA.trans ((hR2.below.trans (hb3.mono hR2.below.size)).mono hbA.size)⟩
  · go_enter Try.func12, Try.ntmps12
    go_wp2_with (first
      | (
        go_at_call 28
        refine hN.mono ?_
        rintro e w1 ⟨p, B, rfl, hR1, _, _, _⟩
        clear hN)
      | (
        go_at_call 28
        refine (run_new 7 wA w1 hR1.below (by decide)).mono ?_
        rintro e w2 ⟨q, C, rfl, hR2, hg2, hq2, hC2⟩
        have hT := Two.made hR1 hR2 hg2 hq2 hC2
        clear hR1 hR2 hg2 hq2 hC2))
    go_loopw [66] (fun v wr => ∃ (k : Nat) (L : List Bid), k ≤ bl.length ∧ v = .int .i64 (k : Int) ∧ Two wA wr p B q C 7 L L ∧ ∀ c ∈ L, c.1 ≠ b0) (fun v _ => bl.length - (Go.RowKit.intOf v).toNat)
    case atStart => exact ⟨0, [], Nat.zero_le _, rfl, hT, by simp⟩
    case round =>
      clear hT
      obtain ⟨k, L, hk, rfl, hT, hno⟩ := hrel
      have c0 := pw_cell_below hT.x.below a0
      by_cases hlt : k < bl.length
      · obtain ⟨g, o, rfl, e0, e1, e2, hwf⟩ := hin k hlt
        have hBB := hbA.trans (hT.x.below.mono hbA.size)
        have f0 := pw_cell_below hBB e0
        have f1 := pw_cell_below hBB e1
        have f2 := pw_cell_below hBB e2
        have d0 := fun ob => cell_alloc c0 ob
        have i0 : (0 : Int) ≤ (k : Int) := by omega
        have i1 : (k : Int) < (bl.length : Int) := by omega
        generalize hx : bl[k] = x at *
        obtain ⟨x0, x1, x2⟩ := x
        by_cases hbe : x0 = b0
        · subst hbe
          go_wp2
          exact ⟨⟨k + 1, L, by omega, by simp, hT.alloc _, hno⟩, by simp only [Go.RowKit.intOf]; omega⟩
        · have hTA := hT.alloc (.cells #[.int .i64 x0, .int .i64 x1, .int .i64 x2] 51)
          have hlt1 := hT.x.at_.2.1.lt
          go_wp2_with (first
            | (
              go_at_call 30
              refine (run_add hTA.x (x0, x1, x2) hwf).mono ?_
              rintro e u1 ⟨rfl, hR1, hg1⟩
              have hT1 := hTA.onx hR1 hg1
              have q0 : u1.cell? ⟨wr.heap.size, 0, none⟩ = some (.int .i64 x0) := hg1.cell ((cell_new _ _ _ _ _).trans rfl) (fun e => Nat.lt_irrefl _ (Option.some.inj e ▸ hlt1))
              have q1 : u1.cell? ⟨wr.heap.size, 1, none⟩ = some (.int .i64 x1) := hg1.cell ((cell_new _ _ _ _ _).trans rfl) (fun e => Nat.lt_irrefl _ (Option.some.inj e ▸ hlt1))
              have q2 : u1.cell? ⟨wr.heap.size, 2, none⟩ = some (.int .i64 x2) := hg1.cell ((cell_new _ _ _ _ _).trans rfl) (fun e => Nat.lt_irrefl _ (Option.some.inj e ▸ hlt1))
              clear hTA)
            | (
              go_at_call 30
              refine (run_add hT1.y (x0, x1, x2) hwf).mono ?_
              rintro e u2 ⟨rfl, hR2, hg2⟩
              have hT2 := hT1.ony hR2 hg2
              clear hT1))
          refine ⟨⟨k + 1, addS 7 L (x0, x1, x2), by omega, by simp, hT2, fun c hc => ?_⟩, by simp only [Go.RowKit.intOf]; omega⟩
          unfold addS at hc
          split at hc
          · rcases add_mem.1 hc with rfl | ⟨hc, _⟩
            · exact hbe
            · exact hno c hc
          · exact hno c hc
      · have c1 := pw_cell_below hT.x.below a1
        have c2 := pw_cell_below hT.x.below a2
        have n1 : ¬ ((k : Int) < (bl.length : Int)) := by omega
        have hnew := add_new (L := L) (b := (b0, b1, b2)) hno
        obtain ⟨s1, s2, s3, s4⟩ := hnew
        cases hok : addOk 7 (b0, b1, b2)
        · have eE : addE 7 L (b0, b1, b2) = (false, 1) := by simp [addE, hok]
          have eS : addS 7 L (b0, b1, b2) = L := by simp [addS, hok]
          go_wp2_with (first
            | (
              go_at_call 30
              refine (run_add hT.x (b0, b1, b2) hwb).mono ?_
              rintro e u1 ⟨rfl, hR1, hg1⟩
              rw [eS] at hR1
              rw [eE]
              have hT1 := hT.onx hR1 hg1)
            | (go_at_call 32; (with_reducible refine (run_count hT1.x).mono ?_); rintro e w' ⟨rfl, rfl⟩)
            | (go_at_call 32; (with_reducible refine (run_count hT1.y).mono ?_); rintro e w' ⟨rfl, rfl⟩)
            | (
              go_at_call 29
              refine (two_ok _).mono ?_
              rintro e w3 ⟨rfl, hb3⟩))
          go_ret
          exact ⟨rfl, hbA.trans ((hT1.x.below.trans (hb3.mono hT1.x.below.size)).mono hbA.size)⟩
        · have eE : addE 7 L (b0, b1, b2) = (true, 0) := by simp [addE, hok, s1]
          have eS : addS 7 L (b0, b1, b2) = addL L (b0, b1, b2) := by simp [addS, hok]
          have hin7 : inB 7 b0 = true := by simp only [addOk, Bool.and_eq_true] at hok; exact hok.1.1
          have fE : forgetE 7 (addL L (b0, b1, b2)) b0 = (true, 0) := by simp [forgetE, hin7, s2]
          have fS : forgetS 7 (addL L (b0, b1, b2)) b0 = L := by simp [forgetS, hin7, s3]
          have hlen7 := hT.y.len
          have hnl : (nodesL L).length < 1000 := by simp [nodesL]; omega
          have fin : ∀ u v : World, Two wA u p B q C 7 L L → Below u.heap.size u v → Below w.heap.size w v := fun u v h hb => hbA.trans ((h.x.below.trans (hb.mono h.x.below.size)).mono hbA.size)
          have g0 : ∀ m : Nat, ((((m : Nat) : Int) > 7 / 2) ↔ 3 < m) := fun m => by constructor <;> intro h <;> omega
          cases hen0 : decide ((L.length : Int) > 7 / 2)
          · cases hen1 : decide (((addL L (b0, b1, b2)).length : Int) > 7 / 2)
            · go_wp2_with (first
                | (
                  go_at_call 30
                  refine (run_add hT.x (b0, b1, b2) hwb).mono ?_
                  rintro e u1 ⟨rfl, hR1, hg1⟩
                  rw [eS] at hR1
                  rw [eE]
                  have hT1 := hT.onx hR1 hg1
                  have z0 := pw_cell_below hR1.below a0
                  clear hT hR1 hg1)
                | (
                  go_at_call 45
                  refine (run_enough hT1.x).mono ?_
                  rintro e u2 ⟨rfl, _, hg2⟩
                  rw [hen1]
                  have hT2 := hT1.kept hg2
                  have z1 := pw_cell_below hT2.x.below a0
                  clear hT1 hg2)
                | (
                  go_at_call 46
                  refine (run_forget hT2.x b0 hwb).mono ?_
                  rintro e u3 ⟨rfl, hR3, hg3⟩
                  rw [fS] at hR3
                  rw [fE]
                  have hT3 := hT2.onx hR3 hg3
                  clear hT2 hR3 hg3)
                | (
                  go_at_call 31
                  refine (run_best hT3.x).mono ?_
                  rintro e u4 ⟨⟨p0, p1, p2⟩, c4, rfl, hb4, _, hg4⟩
                  have hT4 := hT3.kept hg4
                  simp only [bidV]
                  clear hT3 hg4)
                | (
                  go_at_call 31
                  refine (run_best (hT4.alloc _).y).mono ?_
                  rintro e u5 ⟨b5, c5, rfl, hb5, _, hg5⟩
                  obtain ⟨rfl, rfl⟩ := hb4.unique hb5
                  have hT5 := (hT4.alloc _).kept hg5
                  have y0 : u5.cell? ⟨u4.heap.size, 0, none⟩ = some (.int .i64 p0) := hg5.cell ((cell_new _ _ _ _ _).trans rfl) (by simp)
                  have y1 : u5.cell? ⟨u4.heap.size, 1, none⟩ = some (.int .i64 p1) := hg5.cell ((cell_new _ _ _ _ _).trans rfl) (by simp)
                  have y2 : u5.cell? ⟨u4.heap.size, 2, none⟩ = some (.int .i64 p2) := hg5.cell ((cell_new _ _ _ _ _).trans rfl) (by simp)
                  have y0' := fun ob => cell_alloc y0 ob
                  have y1' := fun ob => cell_alloc y1 ob
                  have y2' := fun ob => cell_alloc y2 ob
                  simp only [bidV]
                  clear hT4 hg5 hb4 hb5)
                | (
                  go_at_call 47
                  refine (run_nodes (hT5.alloc _).x).mono ?_
                  rintro e u6 ⟨v6, rfl, hv6, _, _, hg6⟩
                  have hT6 := (hT5.alloc _).kept hg6
                  clear hT5 hg6)
                | (
                  go_at_call 47
                  refine (run_nodes hT6.y).mono ?_
                  rintro e u7 ⟨v7, rfl, hv7, _, _, hg7⟩
                  have hT7 := hT6.kept hg7
                  have hv6' := hv6.kept hg7 (Classical.em _)
                  clear hT6 hg7 hv6)
                | (
                  go_at_call 21
                  refine (ints_call _ _ _ _ _ _ _ hv6' hv7 hnl hnl).mono ?_
                  rintro e u8 ⟨rfl, hd8⟩
                  rw [show decide (nodesL L = nodesL L) = true by simp]
                  have hT8 := hT7.kept (drawn_grown hd8)
                  clear hT7 hd8 hv6' hv7)
                | (
                  go_at_call 45
                  refine (run_enough hT8.x).mono ?_
                  rintro e u9 ⟨rfl, _, hg9⟩
                  rw [hen0]
                  have hT9 := hT8.kept hg9
                  clear hT8 hg9)
                | (
                  go_at_call 45
                  refine (run_enough hT9.y).mono ?_
                  rintro e u10 ⟨rfl, _, hg10⟩
                  rw [hen0]
                  have hT10 := hT9.kept hg10
                  clear hT9 hg10)
                | (
                  go_at_call 45
                  refine (run_enough hT10.y).mono ?_
                  rintro e u11 ⟨rfl, _, hg11⟩
                  rw [hen0]
                  have hT11 := hT10.kept hg11
                  clear hT10 hg11)
                | (
                  go_at_call 29
                  refine (two_ok _).mono ?_
                  rintro e u12 ⟨rfl, hb12⟩))
              go_ret
              exact ⟨rfl, fin _ _ hT11 hb12⟩
            · go_wp2_with (first
                | (
                  go_at_call 30
                  refine (run_add hT.x (b0, b1, b2) hwb).mono ?_
                  rintro e u1 ⟨rfl, hR1, hg1⟩
                  rw [eS] at hR1
                  rw [eE]
                  have hT1 := hT.onx hR1 hg1
                  have z0 := pw_cell_below hR1.below a0
                  clear hT hR1 hg1)
                | (
                  go_at_call 45
                  refine (run_enough hT1.x).mono ?_
                  rintro e u2 ⟨rfl, _, hg2⟩
                  rw [hen1]
                  have hT2 := hT1.kept hg2
                  have z1 := pw_cell_below hT2.x.below a0
                  clear hT1 hg2)
                | (
                  go_at_call 46
                  refine (run_forget hT2.x b0 hwb).mono ?_
                  rintro e u3 ⟨rfl, hR3, hg3⟩
                  rw [fS] at hR3
                  rw [fE]
                  have hT3 := hT2.onx hR3 hg3
                  clear hT2 hR3 hg3)
                | (
                  go_at_call 31
                  refine (run_best hT3.x).mono ?_
                  rintro e u4 ⟨⟨p0, p1, p2⟩, c4, rfl, hb4, _, hg4⟩
                  have hT4 := hT3.kept hg4
                  simp only [bidV]
                  clear hT3 hg4)
                | (
                  go_at_call 31
                  refine (run_best (hT4.alloc _).y).mono ?_
                  rintro e u5 ⟨b5, c5, rfl, hb5, _, hg5⟩
                  obtain ⟨rfl, rfl⟩ := hb4.unique hb5
                  have hT5 := (hT4.alloc _).kept hg5
                  have y0 : u5.cell? ⟨u4.heap.size, 0, none⟩ = some (.int .i64 p0) := hg5.cell ((cell_new _ _ _ _ _).trans rfl) (by simp)
                  have y1 : u5.cell? ⟨u4.heap.size, 1, none⟩ = some (.int .i64 p1) := hg5.cell ((cell_new _ _ _ _ _).trans rfl) (by simp)
                  have y2 : u5.cell? ⟨u4.heap.size, 2, none⟩ = some (.int .i64 p2) := hg5.cell ((cell_new _ _ _ _ _).trans rfl) (by simp)
                  have y0' := fun ob => cell_alloc y0 ob
                  have y1' := fun ob => cell_alloc y1 ob
                  have y2' := fun ob => cell_alloc y2 ob
                  simp only [bidV]
                  clear hT4 hg5 hb4 hb5)
                | (
                  go_at_call 47
                  refine (run_nodes (hT5.alloc _).x).mono ?_
                  rintro e u6 ⟨v6, rfl, hv6, _, _, hg6⟩
                  have hT6 := (hT5.alloc _).kept hg6
                  clear hT5 hg6)
                | (
                  go_at_call 47
                  refine (run_nodes hT6.y).mono ?_
                  rintro e u7 ⟨v7, rfl, hv7, _, _, hg7⟩
                  have hT7 := hT6.kept hg7
                  have hv6' := hv6.kept hg7 (Classical.em _)
                  clear hT6 hg7 hv6)
                | (
                  go_at_call 21
                  refine (ints_call _ _ _ _ _ _ _ hv6' hv7 hnl hnl).mono ?_
                  rintro e u8 ⟨rfl, hd8⟩
                  rw [show decide (nodesL L = nodesL L) = true by simp]
                  have hT8 := hT7.kept (drawn_grown hd8)
                  clear hT7 hd8 hv6' hv7)
                | (
                  go_at_call 45
                  refine (run_enough hT8.x).mono ?_
                  rintro e u9 ⟨rfl, _, hg9⟩
                  rw [hen0]
                  have hT9 := hT8.kept hg9
                  clear hT8 hg9)
                | (
                  go_at_call 45
                  refine (run_enough hT9.y).mono ?_
                  rintro e u10 ⟨rfl, _, hg10⟩
                  rw [hen0]
                  have hT10 := hT9.kept hg10
                  clear hT9 hg10)
                | (
                  go_at_call 45
                  refine (run_enough hT10.y).mono ?_
                  rintro e u11 ⟨rfl, _, hg11⟩
                  rw [hen0]
                  have hT11 := hT10.kept hg11
                  clear hT10 hg11)
                | (
                  go_at_call 29
                  refine (two_ok _).mono ?_
                  rintro e u12 ⟨rfl, hb12⟩))
              go_ret
              exact ⟨rfl, fin _ _ hT10 hb12⟩
          · have hen1 : decide (((addL L (b0, b1, b2)).length : Int) > 7 / 2) = true := by
              have := of_decide_eq_true hen0
              exact decide_eq_true (by omega)
            go_wp2_with (first
              | (
                go_at_call 30
                refine (run_add hT.x (b0, b1, b2) hwb).mono ?_
                rintro e u1 ⟨rfl, hR1, hg1⟩
                rw [eS] at hR1
                rw [eE]
                have hT1 := hT.onx hR1 hg1
                have z0 := pw_cell_below hR1.below a0
                clear hT hR1 hg1)
              | (
                go_at_call 45
                refine (run_enough hT1.x).mono ?_
                rintro e u2 ⟨rfl, _, hg2⟩
                rw [hen1]
                have hT2 := hT1.kept hg2
                have z1 := pw_cell_below hT2.x.below a0
                clear hT1 hg2)
              | (
                go_at_call 46
                refine (run_forget hT2.x b0 hwb).mono ?_
                rintro e u3 ⟨rfl, hR3, hg3⟩
                rw [fS] at hR3
                rw [fE]
                have hT3 := hT2.onx hR3 hg3
                clear hT2 hR3 hg3)
              | (
                go_at_call 31
                refine (run_best hT3.x).mono ?_
                rintro e u4 ⟨⟨p0, p1, p2⟩, c4, rfl, hb4, _, hg4⟩
                have hT4 := hT3.kept hg4
                simp only [bidV]
                clear hT3 hg4)
              | (
                go_at_call 31
                refine (run_best (hT4.alloc _).y).mono ?_
                rintro e u5 ⟨b5, c5, rfl, hb5, _, hg5⟩
                obtain ⟨rfl, rfl⟩ := hb4.unique hb5
                have hT5 := (hT4.alloc _).kept hg5
                have y0 : u5.cell? ⟨u4.heap.size, 0, none⟩ = some (.int .i64 p0) := hg5.cell ((cell_new _ _ _ _ _).trans rfl) (by simp)
                have y1 : u5.cell? ⟨u4.heap.size, 1, none⟩ = some (.int .i64 p1) := hg5.cell ((cell_new _ _ _ _ _).trans rfl) (by simp)
                have y2 : u5.cell? ⟨u4.heap.size, 2, none⟩ = some (.int .i64 p2) := hg5.cell ((cell_new _ _ _ _ _).trans rfl) (by simp)
                have y0' := fun ob => cell_alloc y0 ob
                have y1' := fun ob => cell_alloc y1 ob
                have y2' := fun ob => cell_alloc y2 ob
                simp only [bidV]
                clear hT4 hg5 hb4 hb5)
              | (
                go_at_call 47
                refine (run_nodes (hT5.alloc _).x).mono ?_
                rintro e u6 ⟨v6, rfl, hv6, _, _, hg6⟩
                have hT6 := (hT5.alloc _).kept hg6
                clear hT5 hg6)
              | (
                go_at_call 47
                refine (run_nodes hT6.y).mono ?_
                rintro e u7 ⟨v7, rfl, hv7, _, _, hg7⟩
                have hT7 := hT6.kept hg7
                have hv6' := hv6.kept hg7 (Classical.em _)
                clear hT6 hg7 hv6)
              | (
                go_at_call 21
                refine (ints_call _ _ _ _ _ _ _ hv6' hv7 hnl hnl).mono ?_
                rintro e u8 ⟨rfl, hd8⟩
                rw [show decide (nodesL L = nodesL L) = true by simp]
                have hT8 := hT7.kept (drawn_grown hd8)
                clear hT7 hd8 hv6' hv7)
              | (
                go_at_call 45
                refine (run_enough hT8.x).mono ?_
                rintro e u9 ⟨rfl, _, hg9⟩
                rw [hen0]
                have hT9 := hT8.kept hg9
                clear hT8 hg9)
              | (
                go_at_call 45
                refine (run_enough hT9.y).mono ?_
                rintro e u10 ⟨rfl, _, hg10⟩
                rw [hen0]
                have hT10 := hT9.kept hg10
                clear hT9 hg10)
              | (
                go_at_call 45
                refine (run_enough hT10.y).mono ?_
                rintro e u11 ⟨rfl, _, hg11⟩
                rw [hen0]
                have hT11 := hT10.kept hg11
                clear hT10 hg11)
              | (
                go_at_call 29
                refine (two_ok _).mono ?_
                rintro e u12 ⟨rfl, hb12⟩))
            go_ret
            exact ⟨rfl, fin _ _ hT10 hb12⟩
end Go.Proofs.Ytipeleefbaalpaa.Ty
