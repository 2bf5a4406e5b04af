/- TallyOrder's walk. -/
import Derived.Test.YtipeleefbaalpaaReached
import Derived.Test.YtipeleefbaalpaaTallyKeeps
import Derived.OpenShut
import Derived.Below
import Derived.Deep.Draws
import Derived.Deep.AppendLies
import Derived.Maps.AppendAt
import Derived.OwnWalk
import Derived.Laws.BytesArg
import Derived.Laws.MakeOwn
import Derived.Laws.OwnMore
import Derived.Deep.OwnRows
import Derived.Tactics
import Derived.Lib.ConvBytes
import Derived.Laws.Slices
import Derived.WalkKit
import Derived.KernelRfl
import Derived.RowKit3
import Derived.Deep.LoopGhost
import Derived.Deep.QuietTactic
import Derived.BigQuiet
import Derived.WideLaws
import Derived.Deep.DeepCutAuto
import Derived.Deep.CutBlock
import Derived.Deep.RegionHeld3
import Derived.Laws.Rows
import Derived.Lib.AppendStr
import Derived.ArgAppend
import Derived.Laws.IdiomCopy
import Derived.OrdersHeld
import Derived.Laws.BitsLemmas
import Derived.RowKit
import Derived.StillTailTactics
import Derived.Deep.DeepMust
import Derived.Outline
import Derived.Test.YtipeleefbaalpaaWMore
namespace Go.Proofs.Ytipeleefbaalpaa.Ty
open Go.ChangeMaps Go.MapKept
open Go.RowKit Go.Shelf Go.Maps Go.Sort Go.Proofs.YtipeleefbaalpaaW.PrintWords Go.Proofs.YtipeleefbaalpaaW.PrintLast Go.Proofs.YtipeleefbaalpaaW.PrintMore Go.Proofs.Ytipeleefbaalpaa.Ext
theorem Two.onrow {W w w' : World} {p B q C : Nat} {n : Int} {l m : List Bid} {v : Value} {K : List Bid} (h : Two W w p B q C n l m) (hr : Row W w v K) (hg : w.grownBy w' v.ownBlock) : Two W w' p B q C n l m := by
  obtain ⟨a1, a2⟩ := hr.apart_tally h.x.at_
  obtain ⟨b1, b2⟩ := hr.apart_tally h.y.at_
  have h3 : ∀ k, v.ownBlock = some k → W.heap.size ≤ k := fun k e => (hr.lt k e).1
  exact ⟨h.x.kept hg a1 a2 h3, h.y.kept hg b1 b2 h3, h.pq, h.pC, h.Bq, h.BC⟩
theorem setCell_grown (w : World) (g i : Nat) (u : Value) : w.grownBy (w.setCell ⟨g, i, none⟩ u) (some g) :=
  ⟨rfl, rfl, rfl, by simp [World.setCell], fun k _ hne => Below.heap_setCell _ _ _ _ (fun e => hne (by rw [e]))⟩
theorem set3_grown (w : World) (g i j k : Nat) (u v x : Value) : w.grownBy (((w.setCell ⟨g, i, none⟩ u).setCell ⟨g, j, none⟩ v).setCell ⟨g, k, none⟩ x) (some g) :=
  ((setCell_grown _ _ _ _).trans (setCell_grown _ _ _ _)).trans (setCell_grown _ _ _ _)
theorem rising_ext {a b : List Bid} (ha : Rising a) (hb : Rising b) (h : ∀ c, c ∈ a ↔ c ∈ b) : a = b := by
  have h1 : a.Nodup := ha.imp (fun {x y} hab e => by subst e; omega)
  have h2 : b.Nodup := hb.imp (fun {x y} hab e => by subst e; omega)
  exact ((List.perm_ext_iff_of_nodup h1 h2).2 h).eq_of_pairwise (fun x y _ _ p q => by omega) ha hb
theorem better_f (a b : Bid) : PBetter.sextonref21_Better.f a.1 a.2.1 a.2.2 b.1 b.2.1 b.2.2 = some (betterB a b) := by
  unfold PBetter.sextonref21_Better.f betterB
  by_cases h1 : a.2.1 = b.2.1
  · by_cases h2 : a.2.2 = b.2.2
    · simp [h1, h2]
    · simp [h1, h2]
  · simp [h1]
theorem Row.added {W w : World} {v : Value} {K : List Bid} {x : Bid} (h : w.ownsRow W.heap.size 51 3 v (K.length + 1) (rowB K ++ cellsB x)) : Row W w v (K ++ [x]) := by
  show w.ownsRow _ _ _ _ _ _
  rw [rowB_add, List.length_append]
  exact h
set_option maxRecDepth 100000 in
set_option maxHeartbeats 8000000 in
theorem law_order (w : World) (A : Option Addr) (cap : Nat) (bl : List Bid) (hin : In w A bl) :
    Calls Try.prog 7 #[.slice A bl.length cap] w fun e w' => e = .returned (.bool true) ∧ Below w.heap.size w w' := by
  obtain ⟨i0, hi, hz0, hz1, hz2⟩ := bid_info
  have hN := run_new 7 w w (Below.refl _ _) (by decide)
  by_cases hbig : (100 : Int) < (bl.length : Int)
  · go_enter Try.func7, Try.ntmps7
    go_wp2_with (first
      | (
        go_at_call 28
        refine hN.mono ?_
        rintro e w1 ⟨p, B, rfl, hR1, _, _, _⟩
        clear hN)
      | (
        go_at_call 28
        refine (run_new 7 w w1 hR1.below (by decide)).mono ?_
        rintro e w2 ⟨q, C, rfl, hR2, _, _, _⟩)
      | (
        go_at_call 29
        refine (two_ok _).mono ?_
        rintro e w3 ⟨rfl, hb3⟩))
    go_ret
    exact ⟨rfl, hR2.below.trans (hb3.mono hR2.below.size)⟩
  · go_enter Try.func7, Try.ntmps7
    go_wp2_with (first
      | (
        go_at_call 28
        refine hN.mono ?_
        rintro e w1 ⟨p, B, rfl, hR1, _, _, _⟩
        clear hN)
      | (
        go_at_call 28
        refine (run_new 7 w w1 hR1.below (by decide)).mono ?_
        rintro e w2 ⟨q, C, rfl, hR2, hg2, hq2, hC2⟩
        have hT := Two.made hR1 hR2 hg2 hq2 hC2
        clear hR1 hR2 hg2 hq2 hC2))
    go_loopw [7, 67] (fun kv v wr => ∃ (k : Nat) (LA K : List Bid), k ≤ bl.length ∧ v = .int .i64 (k : Int) ∧ Two w wr p B q C 7 LA [] ∧ Row w wr kv K ∧ Keeps LA K) (fun _ v _ => bl.length - (Go.RowKit.intOf v).toNat)
    case atStart => exact ⟨0, [], [], Nat.zero_le _, rfl, hT, Row.nil _ _, Keeps.nil⟩
    case round =>
      clear hT
      obtain ⟨k, LA, K, hk, rfl, hT, hrow, hK⟩ := hrel
      by_cases hlt : k < bl.length
      · obtain ⟨g, o, rfl, e0, e1, e2, hwf⟩ := hin k hlt
        have hBB := hT.x.below
        have f0 := pw_cell_below hBB e0
        have f1 := pw_cell_below hBB e1
        have f2 := pw_cell_below hBB e2
        have j0 : (0 : Int) ≤ (k : Int) := by omega
        have j1 : (k : Int) < (bl.length : Int) := by omega
        have hlen := (hK.perm hT.x.good.1).length_eq
        have hK7 : K.length ≤ 7 := by rw [hlen]; exact hT.x.len
        clear hlen
        generalize hx : bl[k] = x at *
        obtain ⟨x0, x1, x2⟩ := x
        have hTA := hT.alloc (.cells #[.int .i64 x0, .int .i64 x1, .int .i64 x2] 51)
        have hrA : Row w (wr.alloc (.cells #[.int .i64 x0, .int .i64 x1, .int .i64 x2] 51)) _ K := hrow.none (World.grownBy_alloc _ _ _)
        have hlt1 := hT.x.at_.2.1.lt
        cases hok : addOk 7 (x0, x1, x2)
        · have eE : addE 7 LA (x0, x1, x2) = (false, 1) := by simp [addE, hok]
          have eS : addS 7 LA (x0, x1, x2) = LA := by simp [addS, hok]
          go_wp2_with (
              go_at_call 30
              refine (run_add hTA.x (x0, x1, x2) hwf).mono ?_
              rintro e u1 ⟨rfl, hR1, hg1⟩
              have hr1 := hrA.map hTA.x.at_ hg1
              rw [eS] at hR1
              rw [eE]
              have hT1 := hTA.onx hR1 hg1
              clear hTA hrA)
          refine ⟨⟨k + 1, LA, K, by omega, by simp, hT1, hr1, hK⟩, by simp only [Go.RowKit.intOf]; omega⟩
        · cases hhas : hasL LA x0
          · have eE : addE 7 LA (x0, x1, x2) = (true, 0) := by simp [addE, hok, hhas]
            have eS : addS 7 LA (x0, x1, x2) = addL LA (x0, x1, x2) := by simp [addS, hok]
            go_wp2_with (first
              | (
                go_at_call 30
                refine (run_add hTA.x (x0, x1, x2) hwf).mono ?_
                rintro e u1 ⟨rfl, hR1, hg1⟩
                have hr1 := hrA.map hTA.x.at_ hg1
                rw [eS] at hR1
                rw [eE]
                have hT1 := hTA.onx hR1 hg1
                have q0 : u1.cell? ⟨wr.heap.size, 0, none⟩ = some (.int .i64 x0) := hg1.cell ((cell_new _ _ _ _ _).trans rfl) (fun e => Nat.lt_irrefl _ (Option.some.inj e ▸ hlt1))
                have q1 : u1.cell? ⟨wr.heap.size, 1, none⟩ = some (.int .i64 x1) := hg1.cell ((cell_new _ _ _ _ _).trans rfl) (fun e => Nat.lt_irrefl _ (Option.some.inj e ▸ hlt1))
                have q2 : u1.cell? ⟨wr.heap.size, 2, none⟩ = some (.int .i64 x2) := hg1.cell ((cell_new _ _ _ _ _).trans rfl) (fun e => Nat.lt_irrefl _ (Option.some.inj e ▸ hlt1))
                have hrB : Row w (u1.alloc (.cells #[.int .i64 x0, .int .i64 x1, .int .i64 x2] 51)) _ K := hr1.none (World.grownBy_alloc _ _ _)
                have hTB := hT1.alloc (.cells #[.int .i64 x0, .int .i64 x1, .int .i64 x2] 51)
                clear hTA hrA)
              | (at_builtin; refine wpList_append_own _ rfl _ _ 46 rfl w.heap.size 51 i0 (.agg #[.int .i64 0, .int .i64 0, .int .i64 0]) 3 24 Try.underlying46 hi hz0 hz1 hz2 rfl (by decide) _ _ _ rfl hrB ⟨u1.heap.size, 0, none⟩ 1 1 (cellsB (x0, x1, x2)) rfl rfl (cells_new _ (x0, x1, x2) _) (by simp [Value.oneCell', cellsB]) (by unfold maxLen; omega) (by omega) (by have := hT1.x.below.size; simp; omega) ?_; intro v' u3 hown3 hg3 hnil3))
            have hg3' : (u1.alloc (.cells #[.int .i64 x0, .int .i64 x1, .int .i64 x2] 51)).grownBy u3 u7.ownBlock := hg3
            refine ⟨⟨k + 1, addL LA (x0, x1, x2), K ++ [(x0, x1, x2)], by omega, by simp, hTB.onrow hrB hg3', Row.added hown3, hK.new hhas hok⟩, by simp only [Go.RowKit.intOf]; omega⟩
          · have eE : addE 7 LA (x0, x1, x2) = (false, 0) := by simp [addE, hok, hhas]
            have eS : addS 7 LA (x0, x1, x2) = addL LA (x0, x1, x2) := by simp [addS, hok]
            have hKn : K ≠ [] := by
              intro e
              subst e
              obtain ⟨y, hy, _⟩ := has_mem.1 hhas
              have := (hK.mem y).2 hy
              simp at this
            rcases hrow.form with ⟨_, e⟩ | ⟨gb, cb, rfl, hgb, hgb2, _⟩
            · exact absurd e hKn
            go_wp2_with (
                go_at_call 30
                refine (run_add hTA.x (x0, x1, x2) hwf).mono ?_
                rintro e u1 ⟨rfl, hR1, hg1⟩
                have hr1 := hrA.map hTA.x.at_ hg1
                rw [eS] at hR1
                rw [eE]
                have hT1 := hTA.onx hR1 hg1
                have q0 : u1.cell? ⟨wr.heap.size, 0, none⟩ = some (.int .i64 x0) := hg1.cell ((cell_new _ _ _ _ _).trans rfl) (fun e => Nat.lt_irrefl _ (Option.some.inj e ▸ hlt1))
                have q1 : u1.cell? ⟨wr.heap.size, 1, none⟩ = some (.int .i64 x1) := hg1.cell ((cell_new _ _ _ _ _).trans rfl) (fun e => Nat.lt_irrefl _ (Option.some.inj e ▸ hlt1))
                have q2 : u1.cell? ⟨wr.heap.size, 2, none⟩ = some (.int .i64 x2) := hg1.cell ((cell_new _ _ _ _ _).trans rfl) (fun e => Nat.lt_irrefl _ (Option.some.inj e ▸ hlt1))
                have hsz1 := hg1.size
                clear hTA hrA)
            go_loopw [90] (fun v w3 => ∃ j : Nat, j ≤ K.length ∧ v = .int .i64 (j : Int) ∧ Two w w3 p B q C 7 (addL LA (x0, x1, x2)) [] ∧ Row w w3 (.slice (some ⟨gb, 0, none⟩) K.length cb) (KK (x0, x1, x2) K j) ∧
              w3.cell? ⟨wr.heap.size, 0, none⟩ = some (.int .i64 x0) ∧ w3.cell? ⟨wr.heap.size, 1, none⟩ = some (.int .i64 x1) ∧ w3.cell? ⟨wr.heap.size, 2, none⟩ = some (.int .i64 x2)) (fun v _ => K.length - (Go.RowKit.intOf v).toNat)
            case atStart => exact ⟨0, Nat.zero_le _, rfl, hT1, by rw [KK_zero]; exact hr1, q0, q1, q2⟩
            case round =>
              clear hT1 hr1 q0 q1 q2 hrow hBB f0 f1 f2 e0 e1 e2
              obtain ⟨j, hj, rfl, hT3, hr3, q0, q1, q2⟩ := hrel
              by_cases hjl : j < K.length
              · have hjk : j < (KK (x0, x1, x2) K j).length := by rw [KK_len]; exact hjl
                have hat := KK_at (x0, x1, x2) K j hjl hjk
                generalize hy : K[j] = y at hat
                obtain ⟨k0, k1, k2⟩ := y
                obtain ⟨e0, e1, e2⟩ := rows_cells hr3 j hjk
                rw [hat] at e0 e1 e2
                have t0 := fun ob => cell_alloc q0 ob
                have t1 := fun ob => cell_alloc q1 ob
                have t2 := fun ob => cell_alloc q2 ob
                have j0 : (0 : Int) ≤ (j : Int) := by omega
                have j1 : (j : Int) < (K.length : Int) := by omega
                by_cases hkx : k0 = x0
                · subst hkx
                  have hrC : Row w (wr.alloc (.cells #[.int .i64 k0, .int .i64 k1, .int .i64 k2] 51 (0, 0))) _ _ := hr3.none (World.grownBy_alloc _ _ _)
                  obtain ⟨s0, s1, s2⟩ := rows_cells hrC j hjk
                  obtain ⟨z0, z1, z2⟩ : (wr.alloc (.cells #[.int .i64 k0, .int .i64 k1, .int .i64 k2] 51 (0, 0))).frozen? ⟨gb, j * 3, none⟩ = false ∧ (wr.alloc (.cells #[.int .i64 k0, .int .i64 k1, .int .i64 k2] 51 (0, 0))).frozen? ⟨gb, j * 3 + 1, none⟩ = false ∧ (wr.alloc (.cells #[.int .i64 k0, .int .i64 k1, .int .i64 k2] 51 (0, 0))).frozen? ⟨gb, j * 3 + 2, none⟩ = false := by
                    rcases hrC.form with ⟨e, _⟩ | ⟨g', c', e, _, _, hfr⟩
                    · cases e
                    · obtain ⟨rfl, _⟩ : gb = g' ∧ True := by
                        have := (Value.slice.inj e).1
                        simpa using this
                      exact ⟨hfr _ (by omega), hfr _ (by omega), hfr _ (by omega)⟩
                  have hset := hrC.set j hjk (k0, x1, x2)
                  have hstep : KK (k0, x1, x2) K (j + 1) = (KK (k0, x1, x2) K j).set j (k0, x1, x2) := by
                    rw [KK_succ _ _ _ hjl, hy]
                    simp [replB]
                  rw [← hstep] at hset
                  go_wp2
                  have hgr := set3_grown (wr.alloc (.cells #[.int .i64 k0, .int .i64 k1, .int .i64 k2] 51 (0, 0))) gb (j * 3) (j * 3 + 1) (j * 3 + 2) (.int .i64 k0) (.int .i64 x1) (.int .i64 x2)
                  exact ⟨⟨j + 1, by omega, by simp, (hT3.alloc _).onrow hrC hgr, hset, hgr.cell (t0 _) (fun e => Nat.lt_irrefl _ (Option.some.inj e ▸ hgb2)), hgr.cell (t1 _) (fun e => Nat.lt_irrefl _ (Option.some.inj e ▸ hgb2)), hgr.cell (t2 _) (fun e => Nat.lt_irrefl _ (Option.some.inj e ▸ hgb2))⟩, by simp only [Go.RowKit.intOf]; omega⟩
                · go_wp2
                  exact ⟨⟨j + 1, by omega, by simp, hT3.alloc _, by rw [KK_same _ _ _ hjl (by rw [hy]; exact hkx)]; exact hr3.none (World.grownBy_alloc _ _ _), t0 _, t1 _, t2 _⟩, by simp only [Go.RowKit.intOf]; omega⟩
              · obtain rfl : j = K.length := by omega
                rw [KK_all] at hr3
                go_wp2
                exact ⟨⟨k + 1, addL LA (x0, x1, x2), K.map (replB (x0, x1, x2)), by omega, by simp, hT3, hr3, hK.repl hhas hok⟩, by simp only [Go.RowKit.intOf]; omega⟩
      · clear hin
        have n1 : ¬ ((k : Int) < (bl.length : Int)) := by omega
        obtain ⟨A0, cb, rfl⟩ : ∃ A0 cb, u7 = .slice A0 K.length cb := by
          rcases hrow.form with ⟨e, e2⟩ | ⟨g, c, e, _⟩
          · exact ⟨none, 0, by rw [e, e2]; rfl⟩
          · exact ⟨_, c, e⟩
        have hK7 : K.length ≤ 7 := by rw [(hK.perm hT.x.good.1).length_eq]; exact hT.x.len
        go_wp2
        go_loopw [108] (fun v w3 => ∃ (i : Nat) (LB : List Bid), i ≤ K.length ∧ v = .int .i64 (i : Int) ∧ Two w w3 p B q C 7 LA LB ∧ Row w w3 (.slice A0 K.length cb) K ∧ ∀ c, c ∈ LB ↔ c ∈ K.drop (K.length - i)) (fun v _ => K.length - (Go.RowKit.intOf v).toNat)
        case atStart => exact ⟨0, [], Nat.zero_le _, rfl, hT, hrow, by simp⟩
        case round =>
          clear hT hrow
          obtain ⟨i, LB, hi', rfl, hT, hrow, hmem⟩ := hrel
          by_cases hil : i < K.length
          · rcases hrow.form with ⟨_, e⟩ | ⟨g, c, e, hgb, hgb2, _⟩
            · subst e; simp at hil
            · obtain ⟨rfl, rfl⟩ : A0 = some ⟨g, 0, none⟩ ∧ cb = c := by simpa using e
              have hjl : K.length - 1 - i < K.length := by omega
              obtain ⟨e0, e1, e2⟩ := rows_cells hrow (K.length - 1 - i) hjl
              have hdrop : K.drop (K.length - (i + 1)) = K[K.length - 1 - i] :: K.drop (K.length - i) := by
                rw [show K.length - (i + 1) = K.length - 1 - i by omega, List.drop_eq_getElem_cons hjl, show K.length - 1 - i + 1 = K.length - i by omega]
              have hxk := hK.ok _ (List.getElem_mem hjl)
              generalize K[K.length - 1 - i] = x at hdrop hxk e0 e1 e2
              obtain ⟨x0, x1, x2⟩ := x
              have hwf : (Lit.int .i64 x0).wf = true := by
                simp only [addOk, inB, Bool.and_eq_true, decide_eq_true_eq] at hxk
                have := wf_wrap .i64 x0
                rwa [show IntKind.i64.wrap x0 = x0 by rw [IntKind.wrap_i64]; omega] at this
              have a1 : wrap64 (wrap64 ((K.length : Int) - 1) - (i : Int)) = ((K.length - 1 - i : Nat) : Int) := by unfold wrap64; omega
              have a2 : (0 : Int) ≤ ((K.length - 1 - i : Nat) : Int) := by omega
              have a3 : ((K.length - 1 - i : Nat) : Int) < (K.length : Int) := by omega
              go_wp2_with (
                  go_at_call 30
                  refine (run_add hT.y (x0, x1, x2) hwf).mono ?_
                  rintro e u1 ⟨rfl, hR1, hg1⟩)
              have hT1 := hT.ony hR1 hg1
              have eS : addS 7 LB (x0, x1, x2) = addL LB (x0, x1, x2) := by simp [addS, hxk]
              rw [eS] at hT1
              refine ⟨⟨i + 1, addL LB (x0, x1, x2), by omega, by simp, hT1, hrow.map hT.y.at_ hg1, fun c => ?_⟩, by simp only [Go.RowKit.intOf]; omega⟩
              have hd : (K.drop (K.length - (i + 1))).Pairwise (fun a b => a.1 ≠ b.1) := List.Pairwise.sublist (List.drop_sublist _ _) hK.dist
              rw [hdrop] at hd ⊢
              rw [add_mem, List.mem_cons, hmem c]
              have := (List.pairwise_cons.1 hd).1
              constructor
              · rintro (h | ⟨h, _⟩)
                · exact .inl h
                · exact .inr h
              · rintro (h | h)
                · exact .inl h
                · exact .inr ⟨h, fun e => this c h e.symm⟩
          · obtain rfl : i = K.length := by omega
            have hLB : LB = LA := rising_ext hT.y.good.1 hT.x.good.1 (fun c => by rw [hmem c, Nat.sub_self, List.drop_zero, hK.mem c])
            subst hLB
            have hlen := (hK.perm hT.x.good.1).length_eq.symm
            obtain ⟨cc, hcc, hcK⟩ : ∃ cc : Int, (∀ b c, BestIs LB b c → c = cc) ∧ (decide (cc = 0) = decide ((0 : Int) < (K.length : Int))) := by
              by_cases hne : LB = []
              · refine ⟨6, fun b c h => ?_, ?_⟩
                · rcases h with ⟨_, _, h⟩ | ⟨h, _⟩
                  · exact h
                  · exact absurd hne h
                · rw [← hlen, hne]; rfl
              · refine ⟨0, fun b c h => ?_, ?_⟩
                · rcases h with ⟨h, _⟩ | ⟨_, _, h⟩
                  · exact absurd h hne
                  · exact h
                · have := List.length_pos_iff.2 hne
                  have h2 : (0 : Int) < (K.length : Int) := by omega
                  simp only [h2, decide_true]
            cases hK0 : decide ((0 : Int) < (K.length : Int))
            · have hKl : K.length = 0 := by have := of_decide_eq_false hK0; omega
              obtain rfl : K = [] := List.eq_nil_of_length_eq_zero hKl
              have hLn : LB = [] := List.eq_nil_of_length_eq_zero hlen
              clear hmem hcK hcc hK0 hKl
              go_wp2_with (first
                | (
                  go_at_call 31
                  refine (run_best hT.x).mono ?_
                  rintro e u4 ⟨⟨p0, p1, p2⟩, c4, rfl, hb4, _, hg4⟩
                  obtain ⟨rfl, rfl, rfl, rfl⟩ : p0 = 0 ∧ p1 = 0 ∧ p2 = 0 ∧ c4 = 6 := by
                    rcases hb4 with ⟨_, h, h'⟩ | ⟨h, _⟩
                    · simp only [Prod.mk.injEq] at h
                      exact ⟨h.1, h.2.1, h.2.2, h'⟩
                    · exact absurd hLn h
                  have hT4 := hT.kept hg4
                  have hr4 := hrow.none hg4
                  simp only [bidV]
                  clear hT hrow hg4)
                | (
                  go_at_call 31
                  refine (run_best (hT4.alloc _).y).mono ?_
                  rintro e u5 ⟨b5, c5, rfl, hb5, _, hg5⟩
                  obtain ⟨rfl, rfl⟩ := hb4.unique hb5
                  have hT5 := ((hT4.alloc _).kept hg5).alloc (.cells #[.int .i64 0, .int .i64 0, .int .i64 0] 51)
                  have hr5 := ((hr4.none (World.grownBy_alloc _ _ _)).none hg5).none (World.grownBy_alloc u5 (.cells #[.int .i64 0, .int .i64 0, .int .i64 0] 51) none)
                  have y0 : u5.cell? ⟨u4.heap.size, 0, none⟩ = some (.int .i64 0) := hg5.cell ((cell_new _ _ _ _ _).trans rfl) (by simp)
                  have y1 : u5.cell? ⟨u4.heap.size, 1, none⟩ = some (.int .i64 0) := hg5.cell ((cell_new _ _ _ _ _).trans rfl) (by simp)
                  have y2 : u5.cell? ⟨u4.heap.size, 2, none⟩ = some (.int .i64 0) := hg5.cell ((cell_new _ _ _ _ _).trans rfl) (by simp)
                  have y0' := fun ob => cell_alloc y0 ob
                  have y1' := fun ob => cell_alloc y1 ob
                  have y2' := fun ob => cell_alloc y2 ob
                  simp only [bidV]
                  clear hT4 hr4 hg5 hb5)
                | (go_at_call 32; (with_reducible refine (run_count hT5.x).mono ?_); rintro e w' ⟨rfl, rfl⟩; rw [hlen])
                | (go_at_call 32; (with_reducible refine (run_count hT5.y).mono ?_); rintro e w' ⟨rfl, rfl⟩; rw [hlen]))
              refine wp_loop_rounds 1 ?_
              rw [rounds_succ]
              go_wp2_with (
                go_at_call 29
                refine (two_ok _).mono ?_
                rintro e w9 ⟨rfl, hb9⟩)
              go_ret
              exact ⟨rfl, hT5.x.below.trans (hb9.mono hT5.x.below.size)⟩
            · rw [hK0] at hcK
              obtain rfl : cc = 0 := of_decide_eq_true hcK
              have h0K : 0 < K.length := by have := of_decide_eq_true hK0; omega
              clear hcK hK0
              clear hmem
              go_wp2_with (first
                | (
                  go_at_call 31
                  refine (run_best hT.x).mono ?_
                  rintro e u4 ⟨⟨p0, p1, p2⟩, c4, rfl, hb4, _, hg4⟩
                  obtain rfl := hcc _ _ hb4
                  have hT4 := hT.kept hg4
                  have hr4 := hrow.none hg4
                  simp only [bidV]
                  clear hT hrow hg4)
                | (
                  go_at_call 31
                  refine (run_best (hT4.alloc _).y).mono ?_
                  rintro e u5 ⟨b5, c5, rfl, hb5, _, hg5⟩
                  obtain ⟨rfl, rfl⟩ := hb4.unique hb5
                  have hT5 := ((hT4.alloc _).kept hg5).alloc (.cells #[.int .i64 p0, .int .i64 p1, .int .i64 p2] 51)
                  have hr5 := ((hr4.none (World.grownBy_alloc _ _ _)).none hg5).none (World.grownBy_alloc u5 (.cells #[.int .i64 p0, .int .i64 p1, .int .i64 p2] 51) none)
                  have y0 : u5.cell? ⟨u4.heap.size, 0, none⟩ = some (.int .i64 p0) := hg5.cell ((cell_new _ _ _ _ _).trans rfl) (by simp)
                  have y1 : u5.cell? ⟨u4.heap.size, 1, none⟩ = some (.int .i64 p1) := hg5.cell ((cell_new _ _ _ _ _).trans rfl) (by simp)
                  have y2 : u5.cell? ⟨u4.heap.size, 2, none⟩ = some (.int .i64 p2) := hg5.cell ((cell_new _ _ _ _ _).trans rfl) (by simp)
                  have y0' := fun ob => cell_alloc y0 ob
                  have y1' := fun ob => cell_alloc y1 ob
                  have y2' := fun ob => cell_alloc y2 ob
                  simp only [bidV]
                  clear hT4 hr4 hg5 hb5)
                | (go_at_call 32; (with_reducible refine (run_count hT5.x).mono ?_); rintro e w' ⟨rfl, rfl⟩; rw [hlen])
                | (go_at_call 32; (with_reducible refine (run_count hT5.y).mono ?_); rintro e w' ⟨rfl, rfl⟩; rw [hlen]))
              have hbest : ∀ c ∈ K, c ≠ (p0, p1, p2) → betterB (p0, p1, p2) c = true := by
                rcases hb4 with ⟨_, _, h⟩ | ⟨_, h, _⟩
                · cases h
                · exact fun c hc => h.2 c ((hK.mem c).1 hc)
              clear hb4 hcc
              go_loopw [164] (fun v w3 => ∃ i : Nat, i ≤ K.length ∧ v = .int .i64 (i : Int) ∧ Two w w3 p B q C 7 LB LB ∧ Row w w3 (.slice A0 K.length cb) K ∧
                w3.cell? ⟨u4.heap.size, 0, none⟩ = some (.int .i64 p0) ∧ w3.cell? ⟨u4.heap.size, 1, none⟩ = some (.int .i64 p1) ∧ w3.cell? ⟨u4.heap.size, 2, none⟩ = some (.int .i64 p2)) (fun v _ => K.length - (Go.RowKit.intOf v).toNat)
              case atStart => exact ⟨0, Nat.zero_le _, rfl, hT5, hr5, y0' _, y1' _, y2' _⟩
              case round =>
                clear hT5 hr5 y0 y1 y2 y0' y1' y2'
                obtain ⟨i, hi', rfl, hT, hrow, y0, y1, y2⟩ := hrel
                by_cases hil : i < K.length
                · rcases hrow.form with ⟨_, e⟩ | ⟨g, c, e, hgb, hgb2, _⟩
                  · subst e; simp at hil
                  · obtain ⟨rfl, rfl⟩ : A0 = some ⟨g, 0, none⟩ ∧ cb = c := by simpa using e
                    obtain ⟨e0, e1, e2⟩ := rows_cells hrow i hil
                    have hxb := hbest _ (List.getElem_mem hil)
                    generalize K[i] = x at hxb e0 e1 e2
                    obtain ⟨x0, x1, x2⟩ := x
                    have a2 : (0 : Int) ≤ (i : Int) := by omega
                    have a3 : (i : Int) < (K.length : Int) := by omega
                    go_wp2
                    have hTA := hT.alloc (.cells #[.int .i64 x0, .int .i64 x1, .int .i64 x2] 51)
                    have hrA := hrow.none (World.grownBy_alloc wr (.cells #[.int .i64 x0, .int .i64 x1, .int .i64 x2] 51) none)
                    have k0 := (cell_new wr #[.int .i64 x0, .int .i64 x1, .int .i64 x2] 51 (0, 0) 0).trans rfl
                    have k1 := (cell_new wr #[.int .i64 x0, .int .i64 x1, .int .i64 x2] 51 (0, 0) 1).trans rfl
                    have k2 := (cell_new wr #[.int .i64 x0, .int .i64 x1, .int .i64 x2] 51 (0, 0) 2).trans rfl
                    have z0 := cell_alloc y0 (.cells #[.int .i64 x0, .int .i64 x1, .int .i64 x2] 51 (0, 0))
                    have z1 := cell_alloc y1 (.cells #[.int .i64 x0, .int .i64 x1, .int .i64 x2] 51 (0, 0))
                    have z2 := cell_alloc y2 (.cells #[.int .i64 x0, .int .i64 x1, .int .i64 x2] 51 (0, 0))
                    clear hT hrow y0 y1 y2 e0 e1 e2
                    by_cases hxp : (x0, x1, x2) = (p0, p1, p2)
                    · obtain ⟨rfl, rfl, rfl⟩ : x0 = p0 ∧ x1 = p1 ∧ x2 = p2 := by simpa using hxp
                      clear hxp hxb
                      refine start_ (n := 11) (S := fun w' => w'.cell? ⟨wr.heap.size, 0, none⟩ = some (.int .i64 x0) ∧ w'.cell? ⟨wr.heap.size, 1, none⟩ = some (.int .i64 x1) ∧ w'.cell? ⟨wr.heap.size, 2, none⟩ = some (.int .i64 x2) ∧ w'.cell? ⟨u4.heap.size, 0, none⟩ = some (.int .i64 x0) ∧ w'.cell? ⟨u4.heap.size, 1, none⟩ = some (.int .i64 x1) ∧ w'.cell? ⟨u4.heap.size, 2, none⟩ = some (.int .i64 x2)) (ds := []) (up 11 0) (by kernel_rfl) rfl rfl ⟨k0, k1, k2, z0, z1, z2⟩ (fun hHeld => ?_)
                      refine take_ (i := 0) (N := some 168) (v := ?_) (a' := ?_) (up 11 (0 + 1)) rfl rfl (by kernel_rfl) (fun _ _ _ h => h) (Or.inl ⟨by rfl, ?_⟩) hHeld ?_ ?_
                      rotate_left
                      · rintro w' ⟨s0, s1, s2, s3, s4, s5⟩
                        go_simp
                        with_reducible rfl
                      rotate_left
                      · simp only [Act.put, List.setIfInBounds_toArray, List.set_cons_zero, List.set_cons_succ]; rfl
                      refine take_ (i := 1) (N := some 169) (v := ?_) (a' := ?_) (up 11 (1 + 1)) rfl rfl (by kernel_rfl) (fun _ _ _ h => h) (Or.inl ⟨by rfl, ?_⟩) hHeld ?_ ?_
                      rotate_left
                      · rintro w' ⟨s0, s1, s2, s3, s4, s5⟩
                        go_simp
                        with_reducible rfl
                      rotate_left
                      · simp only [Act.put, List.setIfInBounds_toArray, List.set_cons_zero, List.set_cons_succ]; rfl
                      refine pure_ (i := 2) (N := some 170) (v := ?_) (a' := ?_) (up 11 (2 + 1)) rfl rfl (by kernel_rfl) (fun _ _ _ h => h) (Or.inl ⟨by rfl, ?_⟩) ?_ ?_
                      rotate_left
                      · intro w'
                        go_simp
                        with_reducible rfl
                      rotate_left
                      · simp only [Act.put, List.setIfInBounds_toArray, List.set_cons_zero, List.set_cons_succ]; rfl
                      refine pure_ (i := 3) (N := some 171) (v := ?_) (a' := ?_) (up 11 (3 + 1)) rfl rfl (by kernel_rfl) (fun _ _ _ h => h) (Or.inl ⟨by rfl, ?_⟩) ?_ ?_
                      rotate_left
                      · intro w'
                        go_simp
                        with_reducible rfl
                      rotate_left
                      · simp only [Act.put, List.setIfInBounds_toArray, List.set_cons_zero, List.set_cons_succ]; rfl
                      refine pure_ (i := 4) (N := some 172) (v := undef) (a' := ?_) (up 11 (4 + 1)) rfl rfl (by kernel_rfl) (fun _ _ _ h => h) (Or.inr ⟨by rfl, rfl⟩) ?_ ?_
                      rotate_left
                      · simp only [Act.put, List.setIfInBounds_toArray, List.set_cons_zero, List.set_cons_succ]; rfl
                      refine pure_ (i := 5) (N := some 173) (v := undef) (a' := ?_) (up 11 (5 + 1)) rfl rfl (by kernel_rfl) (fun _ _ _ h => h) (Or.inr ⟨by rfl, rfl⟩) ?_ ?_
                      rotate_left
                      · simp only [Act.put, List.setIfInBounds_toArray, List.set_cons_zero, List.set_cons_succ]; rfl
                      refine pure_ (i := 6) (N := some 174) (v := undef) (a' := ?_) (up 11 (6 + 1)) rfl rfl (by kernel_rfl) (fun _ _ _ h => h) (Or.inr ⟨by rfl, rfl⟩) ?_ ?_
                      rotate_left
                      · simp only [Act.put, List.setIfInBounds_toArray, List.set_cons_zero, List.set_cons_succ]; rfl
                      refine pure_ (i := 7) (N := some 175) (v := undef) (a' := ?_) (up 11 (7 + 1)) rfl rfl (by kernel_rfl) (fun _ _ _ h => h) (Or.inr ⟨by rfl, rfl⟩) ?_ ?_
                      rotate_left
                      · simp only [Act.put, List.setIfInBounds_toArray, List.set_cons_zero, List.set_cons_succ]; rfl
                      refine pure_ (i := 8) (N := some 176) (v := undef) (a' := ?_) (up 11 (8 + 1)) rfl rfl (by kernel_rfl) (fun _ _ _ h => h) (Or.inr ⟨by rfl, rfl⟩) ?_ ?_
                      rotate_left
                      · simp only [Act.put, List.setIfInBounds_toArray, List.set_cons_zero, List.set_cons_succ]; rfl
                      refine pure_ (i := 9) (N := some 177) (v := undef) (a' := ?_) (up 11 (9 + 1)) rfl rfl (by kernel_rfl) (fun _ _ _ h => h) (Or.inr ⟨by rfl, rfl⟩) ?_ ?_
                      rotate_left
                      · simp only [Act.put, List.setIfInBounds_toArray, List.set_cons_zero, List.set_cons_succ]; rfl
                      refine pure_ (i := 10) (N := some 178) (v := ?_) (a' := ?_) (up 11 (10 + 1)) rfl rfl (by kernel_rfl) (fun _ _ _ h => h) (Or.inl ⟨by rfl, ?_⟩) ?_ ?_
                      rotate_left
                      · intro w'
                        go_simp
                        with_reducible rfl
                      rotate_left
                      · simp only [Act.put, List.setIfInBounds_toArray, List.set_cons_zero, List.set_cons_succ]; rfl
                      refine done_ (by kernel_rfl) ?_
                      go_wp2
                      exact ⟨⟨i + 1, by omega, by simp, hTA.kept (grown_drew (World.grownBy.refl _ _)), hrA.none (grown_drew (World.grownBy.refl _ _)), z0, z1, z2⟩, by simp only [Go.RowKit.intOf]; omega⟩
                    · have hbt := hxb hxp
                      have hbf := better_f (p0, p1, p2) (x0, x1, x2)
                      rw [hbt] at hbf
                      have hne : ¬ (x0 = p0 ∧ x1 = p1 ∧ x2 = p2) := fun h => hxp (by rw [h.1, h.2.1, h.2.2])
                      refine start_ (n := 11) (S := fun w' => w'.cell? ⟨wr.heap.size, 0, none⟩ = some (.int .i64 x0) ∧ w'.cell? ⟨wr.heap.size, 1, none⟩ = some (.int .i64 x1) ∧ w'.cell? ⟨wr.heap.size, 2, none⟩ = some (.int .i64 x2) ∧ w'.cell? ⟨u4.heap.size, 0, none⟩ = some (.int .i64 p0) ∧ w'.cell? ⟨u4.heap.size, 1, none⟩ = some (.int .i64 p1) ∧ w'.cell? ⟨u4.heap.size, 2, none⟩ = some (.int .i64 p2)) (ds := []) (up 11 0) (by kernel_rfl) rfl rfl ⟨k0, k1, k2, z0, z1, z2⟩ (fun hHeld => ?_)
                      refine take_ (i := 0) (N := some 168) (v := ?_) (a' := ?_) (up 11 (0 + 1)) rfl rfl (by kernel_rfl) (fun _ _ _ h => h) (Or.inl ⟨by rfl, ?_⟩) hHeld ?_ ?_
                      rotate_left
                      · rintro w' ⟨s0, s1, s2, s3, s4, s5⟩
                        go_simp
                        with_reducible rfl
                      rotate_left
                      · simp only [Act.put, List.setIfInBounds_toArray, List.set_cons_zero, List.set_cons_succ]; rfl
                      refine take_ (i := 1) (N := some 169) (v := ?_) (a' := ?_) (up 11 (1 + 1)) rfl rfl (by kernel_rfl) (fun _ _ _ h => h) (Or.inl ⟨by rfl, ?_⟩) hHeld ?_ ?_
                      rotate_left
                      · rintro w' ⟨s0, s1, s2, s3, s4, s5⟩
                        go_simp
                        with_reducible rfl
                      rotate_left
                      · simp only [Act.put, List.setIfInBounds_toArray, List.set_cons_zero, List.set_cons_succ]; rfl
                      refine pure_ (i := 2) (N := some 170) (v := .bool true) (a' := ?_) (up 11 3) rfl rfl (by kernel_rfl) (fun _ _ _ h => h) (Or.inl ⟨by rfl, ?_⟩) ?_ ?_
                      · intro w'
                        go_simp
                        simpa using hne
                      rotate_left
                      · simp only [Act.put, List.setIfInBounds_toArray, List.set_cons_zero, List.set_cons_succ]; rfl
                      refine pure_ (i := 3) (N := some 171) (v := ?_) (a' := ?_) (up 11 (3 + 1)) rfl rfl (by kernel_rfl) (fun _ _ _ h => h) (Or.inl ⟨by rfl, ?_⟩) ?_ ?_
                      rotate_left
                      · intro w'
                        go_simp
                        with_reducible rfl
                      rotate_left
                      · simp only [Act.put, List.setIfInBounds_toArray, List.set_cons_zero, List.set_cons_succ]; rfl
                      refine take_ (i := 4) (N := some 172) (v := ?_) (a' := ?_) (up 11 (4 + 1)) rfl rfl (by kernel_rfl) (fun _ _ _ h => h) (Or.inl ⟨by rfl, ?_⟩) hHeld ?_ ?_
                      rotate_left
                      · rintro w' ⟨s0, s1, s2, s3, s4, s5⟩
                        go_simp
                        with_reducible rfl
                      rotate_left
                      · simp only [Act.put, List.setIfInBounds_toArray, List.set_cons_zero, List.set_cons_succ]; rfl
                      refine take_ (i := 6) (N := some 174) (v := ?_) (a' := ?_) #[true, true, true, true, true, false, true, false, false, false, false] rfl rfl (by kernel_rfl) (fun _ _ _ h => h) (Or.inl ⟨by rfl, ?_⟩) hHeld ?_ ?_
                      rotate_left
                      · rintro w' ⟨s0, s1, s2, s3, s4, s5⟩
                        go_simp
                        with_reducible rfl
                      rotate_left
                      · simp only [Act.put, List.setIfInBounds_toArray, List.set_cons_zero, List.set_cons_succ]; rfl
                      refine one_ (i := 5) (N := some 173) (up 11 7) rfl rfl (by kernel_rfl) (by decide) (fun K' hK' => ?_)
                      refine goes_ Try.func34 (by kernel_rfl) rfl #[.agg #[.int .i64 p0, .int .i64 p1, .int .i64 p2]] (by rfl) rfl rfl (by (try simp only [List.map_toArray, List.map_cons, List.map_nil]); first | done | rfl) ?_
                      with_reducible refine (PTallySteps.sextonlaw21_ref.calls p0 p1 p2 p0 p1 p2 _ rfl).mono ?_
                      rintro e v5 ⟨rfl, hb5⟩
                      refine ⟨_, rfl, ?_⟩
                      refine hK'.out _ _ ⟨pw_cell_below hb5 hHeld.1, pw_cell_below hb5 hHeld.2.1, pw_cell_below hb5 hHeld.2.2.1, pw_cell_below hb5 hHeld.2.2.2.1, pw_cell_below hb5 hHeld.2.2.2.2.1, pw_cell_below hb5 hHeld.2.2.2.2.2⟩ (fun hHeld => ?_)
                      clear hK' K'
                      refine norm_ (a' := ?_) ?_ ?_
                      rotate_left
                      · show Act.put _ (some 173) _ = _
                        simp only [Act.put, List.setIfInBounds_toArray, List.set_cons_zero, List.set_cons_succ]
                        rfl
                      refine one_ (i := 7) (N := some 175) (up 11 8) rfl rfl (by kernel_rfl) (by decide) (fun K' hK' => ?_)
                      refine goes_ Try.func34 (by kernel_rfl) rfl #[.agg #[.int .i64 x0, .int .i64 x1, .int .i64 x2]] (by rfl) rfl rfl (by (try simp only [List.map_toArray, List.map_cons, List.map_nil]); first | done | rfl) ?_
                      with_reducible refine (PTallySteps.sextonlaw21_ref.calls x0 x1 x2 x0 x1 x2 _ rfl).mono ?_
                      rintro e v7 ⟨rfl, hb7⟩
                      refine ⟨_, rfl, ?_⟩
                      refine hK'.out _ _ ⟨pw_cell_below hb7 hHeld.1, pw_cell_below hb7 hHeld.2.1, pw_cell_below hb7 hHeld.2.2.1, pw_cell_below hb7 hHeld.2.2.2.1, pw_cell_below hb7 hHeld.2.2.2.2.1, pw_cell_below hb7 hHeld.2.2.2.2.2⟩ (fun hHeld => ?_)
                      clear hK' K'
                      refine norm_ (a' := ?_) ?_ ?_
                      rotate_left
                      · show Act.put _ (some 175) _ = _
                        simp only [Act.put, List.setIfInBounds_toArray, List.set_cons_zero, List.set_cons_succ]
                        rfl
                      refine one_ (i := 8) (N := some 176) (up 11 9) rfl rfl (by kernel_rfl) (by decide) (fun K' hK' => ?_)
                      refine goes_ Try.func33 (by kernel_rfl) rfl #[.agg #[.int .i64 p0, .int .i64 p1, .int .i64 p2], .agg #[.int .i64 x0, .int .i64 x1, .int .i64 x2]] (by rfl) rfl rfl (by (try simp only [List.map_toArray, List.map_cons, List.map_nil]); first | done | rfl) ?_
                      with_reducible refine (PBetter.sextonref21_Better.calls p0 p1 p2 x0 x1 x2 true _ hbf).mono ?_
                      rintro e v8 ⟨rfl, hb8⟩
                      refine ⟨_, rfl, ?_⟩
                      refine hK'.out _ _ ⟨pw_cell_below hb8 hHeld.1, pw_cell_below hb8 hHeld.2.1, pw_cell_below hb8 hHeld.2.2.1, pw_cell_below hb8 hHeld.2.2.2.1, pw_cell_below hb8 hHeld.2.2.2.2.1, pw_cell_below hb8 hHeld.2.2.2.2.2⟩ (fun hHeld => ?_)
                      clear hK' K'
                      refine norm_ (a' := ?_) ?_ ?_
                      rotate_left
                      · show Act.put _ (some 176) _ = _
                        simp only [Act.put, List.setIfInBounds_toArray, List.set_cons_zero, List.set_cons_succ]
                        rfl
                      refine pure_ (i := 9) (N := some 177) (v := ?_) (a' := ?_) (up 11 (9 + 1)) rfl rfl (by kernel_rfl) (fun _ _ _ h => h) (Or.inl ⟨by rfl, ?_⟩) ?_ ?_
                      rotate_left
                      · intro w'
                        go_simp
                        with_reducible rfl
                      rotate_left
                      · simp only [Act.put, List.setIfInBounds_toArray, List.set_cons_zero, List.set_cons_succ]; rfl
                      refine pure_ (i := 10) (N := some 178) (v := ?_) (a' := ?_) (up 11 (10 + 1)) rfl rfl (by kernel_rfl) (fun _ _ _ h => h) (Or.inl ⟨by rfl, ?_⟩) ?_ ?_
                      rotate_left
                      · intro w'
                        go_simp
                        with_reducible rfl
                      rotate_left
                      · simp only [Act.put, List.setIfInBounds_toArray, List.set_cons_zero, List.set_cons_succ]; rfl
                      refine done_ (by kernel_rfl) ?_
                      go_wp2
                      have hgv := (grown_drew (World.grownBy.refl (wr.alloc (.cells #[.int .i64 x0, .int .i64 x1, .int .i64 x2] 51)) none)).trans ((grown_below hb5).trans ((grown_below hb7).trans (grown_below hb8)))
                      exact ⟨⟨i + 1, by omega, by simp, hTA.kept hgv, hrA.none hgv, hHeld.2.2.2.1, hHeld.2.2.2.2.1, hHeld.2.2.2.2.2⟩, by simp only [Go.RowKit.intOf]; omega⟩
                · have n2 : ¬ ((i : Int) < (K.length : Int)) := by omega
                  go_wp2_with (
                    go_at_call 29
                    refine (two_ok _).mono ?_
                    rintro e w9 ⟨rfl, hb9⟩)
                  go_ret
                  exact ⟨rfl, hT.x.below.trans (hb9.mono hT.x.below.size)⟩
end Go.Proofs.Ytipeleefbaalpaa.Ty
