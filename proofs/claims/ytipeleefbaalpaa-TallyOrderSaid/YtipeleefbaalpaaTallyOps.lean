/- What a tally's small operations do: contracts of New, has, Add, Forget, Count, Clear, for every tally that reads as a rising list of bids. -/
import Derived.Test.YtipeleefbaalpaaReached
import Derived.Test.YtipeleefbaalpaaTallyBase
import Derived.Below
import Derived.Deep.Draws
import Derived.Deep.AppendLies
import Derived.Maps.AppendAt
import Derived.OwnWalk
import Derived.Laws.BytesArg
import Derived.Laws.MakeOwn
import Derived.Laws.OwnMore
import Derived.Deep.OwnRows
import Derived.Tactics
import Derived.Lib.ConvBytes
import Derived.Laws.Slices
import Derived.WalkKit
import Derived.KernelRfl
import Derived.RowKit3
import Derived.Deep.LoopGhost
import Derived.Deep.QuietTactic
import Derived.BigQuiet
import Derived.WideLaws
import Derived.Deep.DeepCutAuto
import Derived.Deep.CutBlock
import Derived.Deep.RegionHeld3
import Derived.Laws.Rows
import Derived.Lib.AppendStr
import Derived.ArgAppend
import Derived.Laws.IdiomCopy
import Derived.OrdersHeld
import Derived.Laws.BitsLemmas
import Derived.RowKit
import Derived.StillTailTactics
import Derived.Deep.DeepMust
import Derived.Outline
import Derived.Test.YtipeleefbaalpaaWMore
namespace Go.Proofs.Ytipeleefbaalpaa.Ty
open Go.RowKit Go.Shelf Go.Maps Go.Proofs.YtipeleefbaalpaaW.PrintWords Go.Proofs.YtipeleefbaalpaaW.PrintLast Go.Proofs.YtipeleefbaalpaaW.PrintMore Go.Proofs.Ytipeleefbaalpaa.Ext
/-- A tally stands at block p, its map in block B; it is of n nodes, and its bids are the list l. -/
def TallyAt (w : World) (p B : Nat) (n : Int) (l : List Bid) : Prop :=
  w.heap[p]? = some (.cells #[.int .i64 n, .map (some B)] 97 (0, 0)) ∧ w.ownsMap Try.prog 3 bidR B l.length (mapD l) ∧ p ≠ B
theorem cells_of {w : World} {p B : Nat} {n : Int} {l : List Bid} (h : TallyAt w p B n l) : w.cell? ⟨p, 0, none⟩ = some (.int .i64 n) ∧ w.cell? ⟨p, 1, none⟩ = some (.map (some B)) := by
  obtain ⟨h, _, _⟩ := h
  simp [World.cell?, h]
theorem tally_kept {w w' : World} {p B : Nat} {n : Int} {l : List Bid} {row : Option Nat} (h : TallyAt w p B n l) (hg : w.grownBy w' row) (h1 : some p ≠ row) (h2 : some B ≠ row) : TallyAt w' p B n l := by
  obtain ⟨a, b, c⟩ := h
  exact ⟨(hg.block p (Array.getElem?_eq_some_iff.1 a).1 h1).trans a, b.kept hg h2, c⟩
theorem TallyAt.drew {w : World} {p B : Nat} {n : Int} {l : List Bid} (h : TallyAt w p B n l) : TallyAt w.drew p B n l := ⟨h.1, h.2.1.drew, h.2.2⟩
theorem heap_new (w : World) (o : Obj) : (w.alloc o).heap[w.heap.size]? = some o := (MapKept.heap_alloc w o).1
theorem new_ok (n : Int) (w : World) (hp : panelI n = true) :
    Calls Try.prog 28 #[.int .i64 n] w fun e w' => ∃ p B, e = .returned (.tuple #[.pointer (some ⟨p, 0, none⟩), .int .i64 0]) ∧ TallyAt w' p B n [] ∧ w.heap.size ≤ p ∧ w.heap.size ≤ B ∧ Below w.heap.size w w' := by
  have hf := fun w => faults_ok n w hp
  have hmm := @run_makeMap Try.prog
  clear hp
  go_enter Try.func28, Try.ntmps28
  go_wp2_with (go_at_call 38; refine (hf _).mono ?_; rintro e w' ⟨rfl, rfl⟩)
  go_ret2
  refine ⟨_, _, rfl, ⟨?_, ?_, ?_⟩, by simp, Nat.le_refl _, ((Below.refl _ _).alloc (Nat.le_refl _) _).alloc (by simp) _⟩
  · have h := heap_new (w.alloc (.map #[] 0)) (.cells #[.int .i64 n, .map (some w.heap.size)] 97 (0, 0))
    rwa [World.size_alloc] at h
  · exact (World.ownsMap_made w _ _ _).alloc _
  · simp
theorem has_in (w : World) (p : Nat) (n i : Int) (c0 : w.cell? ⟨p, 0, none⟩ = some (.int .i64 n)) :
    Calls Try.prog 55 #[.pointer (some ⟨p, 0, none⟩), .int .i64 i] w fun e w' => e = .returned (.bool (decide (0 ≤ i) && decide (i < n))) ∧ w = w' := by
  by_cases h1 : 0 ≤ i
  · have h1' : decide (0 ≤ i) = true := decide_eq_true h1
    by_cases h2 : i < n
    · have h2' : decide (i < n) = true := decide_eq_true h2
      go_enter Try.func55, Try.ntmps55
      go_wp2
      go_ret
      exact ⟨by simp [h1, h2], rfl⟩
    · have h2' : decide (i < n) = false := decide_eq_false h2
      go_enter Try.func55, Try.ntmps55
      go_wp2
      go_ret
      exact ⟨by simp, rfl⟩
  · have h1' : decide (0 ≤ i) = false := decide_eq_false h1
    go_enter Try.func55, Try.ntmps55
    go_wp2
    go_ret
    exact ⟨by simp, rfl⟩
theorem has_nil (w : World) (i : Int) :
    Calls Try.prog 55 #[.pointer none, .int .i64 i] w fun e w' => e = .returned (.bool false) ∧ w = w' := by
  go_enter Try.func55, Try.ntmps55
  go_wp2
  go_ret
  exact ⟨rfl, rfl⟩
def bigB (x : Int) : Bool := decide (0 ≤ x) && decide (x ≤ 1099511627776)
theorem big_any (x : Int) (w : World) : Calls Try.prog 56 #[.int .i64 x] w fun e w' => e = .returned (.bool (bigB x)) ∧ w = w' := by
  by_cases h1 : 0 ≤ x
  · have h1' : decide (0 ≤ x) = true := decide_eq_true h1
    go_enter Try.func56, Try.ntmps56
    go_wp2
    go_ret
    exact ⟨by simp [bigB, h1], rfl⟩
  · have h1' : decide (0 ≤ x) = false := decide_eq_false h1
    go_enter Try.func56, Try.ntmps56
    go_wp2
    go_ret
    exact ⟨by simp [bigB]; omega, rfl⟩
def inB (n i : Int) : Bool := decide (0 ≤ i) && decide (i < n)
/-- What a bid must be to be taken. -/
def addOk (n : Int) (b : Bid) : Bool := inB n b.1 && bigB b.2.1 && bigB b.2.2
theorem add_bad (w : World) (p : Nat) (n : Int) (b : Bid) (c0 : w.cell? ⟨p, 0, none⟩ = some (.int .i64 n)) (h : addOk n b = false) :
    Calls Try.prog 30 #[.pointer (some ⟨p, 0, none⟩), bidV b] w fun e w' => e = .returned (.tuple #[.bool false, .int .i64 1]) ∧ Below w.heap.size w w' := by
  obtain ⟨b0, b1, b2⟩ := b
  have hh := fun w' (hb : Below w.heap.size w w') => has_in w' p n b0 (pw_cell_below hb c0)
  have hb1 := fun w => big_any b1 w
  have hb2 := fun w => big_any b2 w
  unfold addOk at h
  simp only [bidV] at *
  cases e0 : inB n b0
  · unfold inB at e0
    rw [e0] at hh
    clear h e0 c0
    go_enter Try.func30, Try.ntmps30
    go_wp2_with (go_at_call 55; refine (hh _ (by repeat (first | exact Below.refl _ _ | apply below_alloc | apply pw_below_drewN))).mono ?_; rintro e w' ⟨rfl, rfl⟩)
    go_ret2
    exact ⟨rfl, (Below.refl _ _).alloc (Nat.le_refl _) _⟩
  · rw [e0] at h
    unfold inB at e0
    rw [e0] at hh
    clear e0 c0
    cases e1 : bigB b1
    · rw [e1] at hb1
      clear h e1
      go_enter Try.func30, Try.ntmps30
      go_wp2_with (first
        | (go_at_call 55; refine (hh _ (by repeat (first | exact Below.refl _ _ | apply below_alloc | apply pw_below_drewN))).mono ?_; rintro e w' ⟨rfl, rfl⟩)
        | (go_at_call 56; (with_reducible refine (hb1 _).mono ?_); rintro e w' ⟨rfl, rfl⟩))
      go_ret2
      exact ⟨rfl, (Below.refl _ _).alloc (Nat.le_refl _) _⟩
    · rw [e1] at h hb1
      have e2 : bigB b2 = false := by simpa using h
      rw [e2] at hb2
      clear h e1 e2
      go_enter Try.func30, Try.ntmps30
      go_wp2_with (first
        | (go_at_call 55; refine (hh _ (by repeat (first | exact Below.refl _ _ | apply below_alloc | apply pw_below_drewN))).mono ?_; rintro e w' ⟨rfl, rfl⟩)
        | (go_at_call 56; (with_reducible refine (hb1 _).mono ?_); rintro e w' ⟨rfl, rfl⟩)
        | (go_at_call 56; (with_reducible refine (hb2 _).mono ?_); rintro e w' ⟨rfl, rfl⟩))
      go_ret2
      exact ⟨rfl, (Below.refl _ _).alloc (Nat.le_refl _) _⟩
theorem cell_new (w : World) (cs : Array Value) (t : TypeId) (f : Nat × Nat) (i : Nat) : (w.alloc (.cells cs t f)).cell? ⟨w.heap.size, i, none⟩ = cs[i]? := by
  have hh := heap_new w (.cells cs t f)
  simp only [World.cell?, hh]
  rfl
theorem cell_alloc {w : World} {a : Addr} {v : Value} (h : w.cell? a = some v) (o : Obj) : (w.alloc o).cell? a = some v := (World.cell?_alloc_some w a o (by simp [h])).trans h
theorem grown_drew {w w' : World} {row : Option Nat} (h : w.grownBy w' row) : w.grownBy w'.drew row := ⟨h.os, h.tape, h.output, h.size, h.block⟩
/-- A tally behind a store into its map. -/
theorem tally_put {w w3 w4 : World} {p B : Nat} {n : Int} {l l' : List Bid} {m : Nat} (hT : TallyAt w p B n l) (hg : w.grownBy w3 none) (hown : w4.ownsMap Try.prog 3 bidR B m (mapD l')) (hg' : w3.grownBy w4 (some B)) :
    TallyAt w4 p B n l' ∧ w.grownBy w4 (some B) := by
  have hh := (hg.but (some B)).trans hg'
  obtain ⟨a, b, c⟩ := hT
  refine ⟨⟨(hh.block p (Array.getElem?_eq_some_iff.1 a).1 (by simpa using c)).trans a, ?_, c⟩, hh⟩
  have := tight hown
  rwa [map_size] at this
theorem still_tail {P : Program} {id : Nat} {Q : Exit → Act → World → Prop} {a : Act} {w : World} {l : List Oper} (n : Nat) (hm : P.follows .mixedOrders = true) (hB : Region.lexTailB .any l.toArray n = true)
    (h : wpStill P l.toArray w.drew (fun a' => wpList P l.toArray Q (l.drop n) a' w.drew) (l.take n) a) : (Code.region id l.toArray true).wp P Q a w := wp_region_still_tail n hm hB h
/-- The first i of n operations have come up. -/
def up (n i : Nat) : Array Bool := (List.replicate i true ++ List.replicate (n - i) false).toArray
theorem zeroBid (w : World) : (zeroValue 51).run Try.prog w = .ok (bidV (0, 0, 0)) w := by kernel_rfl
theorem law : Keyed Try.prog 3 := int_keyed Try.underlying3
/-- What the machine's look-up finds. -/
theorem look_at {w : World} {B n : Nat} {l : List Bid} (hown : w.ownsMap Try.prog 3 bidR B n (mapD l)) {i : Int} (hw : (Lit.int .i64 i).wf = true) :
    (Instr.lookup 95 (.map (some B)) (.int .i64 i) true).run Try.prog w = .ok (.tuple #[bidV (atL l i), .bool (hasL l i)]) w := by
  obtain ⟨v, ps, hrun, hv⟩ := hown.look_ok law Try.underlying95 (zeroBid _) (bidR_mk (0, 0, 0)) (key := .int .i64 i) (kl := keyL i) (keyOf_int_mk Try.underlying3 hw)
  rw [map_has] at hrun
  obtain ⟨z, rfl, hz⟩ := bidR_inv hv
  rw [map_atL] at hz
  have := bidD_inj (Prod.mk.inj hz).1
  subst this
  exact hrun
set_option maxRecDepth 100000 in
set_option maxHeartbeats 1000000 in
theorem add_ok (w : World) (p B : Nat) (n : Int) (l : List Bid) (b : Bid) (hT : TallyAt w p B n l) (h : addOk n b = true) (hw : (Lit.int .i64 b.1).wf = true) (hl : l.length < 1000) :
    Calls Try.prog 30 #[.pointer (some ⟨p, 0, none⟩), bidV b] w fun e w' => e = .returned (.tuple #[.bool (!hasL l b.1), .int .i64 0]) ∧ TallyAt w' p B n (addL l b) ∧ w.grownBy w' (some B) := by
  obtain ⟨c0, c1⟩ := cells_of hT
  simp only [addOk, Bool.and_eq_true] at h
  obtain ⟨⟨e0, e1⟩, e2⟩ := h
  have hh := fun w' (hb : Below w.heap.size w w') => has_in w' p n b.1 (pw_cell_below hb c0)
  have hb1 := fun w => big_any b.2.1 w
  have hb2 := fun w => big_any b.2.2 w
  unfold inB at e0
  rw [e0] at hh
  rw [e1] at hb1
  rw [e2] at hb2
  have hn := (tally_kept hT (World.grownBy_alloc w (.cells #[.int .i64 b.1, .int .i64 b.2.1, .int .i64 b.2.2] 51 (0, 0)) none) (by simp) (by simp)).drew
  obtain ⟨d0, d1⟩ := cells_of hn
  have look : ∀ w' : World, w'.ownsMap Try.prog 3 bidR B l.length (mapD l) → _ := fun w' h => look_at h hw
  obtain ⟨b0, b1, b2⟩ := b
  generalize atL l b0 = z at look
  simp only [bidV] at *
  have HT := Aside0.mk hT
  have HN := Aside0.mk hn
  clear e0 e1 e2 hT hn c0 c1
  go_enter Try.func30, Try.ntmps30
  go_wp2_with (first
    | (go_at_call 55; refine (hh _ (by repeat (first | exact Below.refl _ _ | apply below_alloc | apply pw_below_drewN))).mono ?_; rintro e w' ⟨rfl, rfl⟩)
    | (go_at_call 56; (with_reducible refine (hb1 _).mono ?_); rintro e w' ⟨rfl, rfl⟩)
    | (go_at_call 56; (with_reducible refine (hb2 _).mono ?_); rintro e w' ⟨rfl, rfl⟩))
  refine start_ (n := 13) (S := fun w' => w'.cell? ⟨p, 1, none⟩ = some (.map (some B)) ∧ w'.cell? ⟨w.heap.size, 0, none⟩ = some (.int .i64 b0) ∧ w'.ownsMap Try.prog 3 bidR B l.length (mapD l)) (ds := [11]) (up 13 0) (by kernel_rfl) rfl rfl ⟨d1, by rw [World.cell?_drew, cell_new]; rfl, HN.out.2.1⟩ (fun hHeld => ?_)
  refine pure_ (i := 0) (N := some 26) (v := ?_) (a' := ?_) (up 13 (0 + 1)) rfl rfl (by kernel_rfl) (fun _ _ _ h => h) (Or.inl ⟨by rfl, ?_⟩) ?_ ?_
  rotate_left
  · intro w'
    go_simp
    with_reducible rfl
  rotate_left
  · simp only [Act.put, List.setIfInBounds_toArray, List.set_cons_zero, List.set_cons_succ]; rfl
  refine pure_ (i := 1) (N := some 27) (v := ?_) (a' := ?_) (up 13 (1 + 1)) rfl rfl (by kernel_rfl) (fun _ _ _ h => h) (Or.inl ⟨by rfl, ?_⟩) ?_ ?_
  rotate_left
  · intro w'
    go_simp
    with_reducible rfl
  rotate_left
  · simp only [Act.put, List.setIfInBounds_toArray, List.set_cons_zero, List.set_cons_succ]; rfl
  refine pure_ (i := 2) (N := some 28) (v := ?_) (a' := ?_) (up 13 (2 + 1)) rfl rfl (by kernel_rfl) (fun _ _ _ h => h) (Or.inl ⟨by rfl, ?_⟩) ?_ ?_
  rotate_left
  · intro w'
    go_simp
    with_reducible rfl
  rotate_left
  · simp only [Act.put, List.setIfInBounds_toArray, List.set_cons_zero, List.set_cons_succ]; rfl
  refine take_ (i := 3) (N := some 29) (v := ?_) (a' := ?_) (up 13 4) rfl rfl (by kernel_rfl) (fun _ _ _ h => h) (Or.inl ⟨by rfl, ?_⟩) hHeld ?_ ?_
  rotate_left
  · rintro w' ⟨s0, s1, s2⟩
    go_simp
    with_reducible rfl
  rotate_left
  · simp only [Act.put, List.setIfInBounds_toArray, List.set_cons_zero, List.set_cons_succ]; rfl
  refine pure_ (i := 4) (N := some 30) (v := ?_) (a' := ?_) (up 13 (4 + 1)) rfl rfl (by kernel_rfl) (fun _ _ _ h => h) (Or.inl ⟨by rfl, ?_⟩) ?_ ?_
  rotate_left
  · intro w'
    go_simp
    with_reducible rfl
  rotate_left
  · simp only [Act.put, List.setIfInBounds_toArray, List.set_cons_zero, List.set_cons_succ]; rfl
  refine take_ (i := 5) (N := some 31) (v := ?_) (a' := ?_) (up 13 6) rfl rfl (by kernel_rfl) (fun _ _ _ h => h) (Or.inl ⟨by rfl, ?_⟩) hHeld ?_ ?_
  rotate_left
  · rintro w' ⟨s0, s1, s2⟩
    go_simp
    with_reducible rfl
  rotate_left
  · simp only [Act.put, List.setIfInBounds_toArray, List.set_cons_zero, List.set_cons_succ]; rfl
  refine take_ (i := 6) (N := some 32) (v := ?_) (a' := ?_) (up 13 7) rfl rfl (by kernel_rfl) (fun _ _ _ h => h) (Or.inl ⟨by rfl, ?_⟩) hHeld ?_ ?_
  rotate_left
  · rintro w' ⟨s0, s1, s2⟩
    have hr := look w' s2
    go_simp
    with_reducible rfl
  rotate_left
  · simp only [Act.put, List.setIfInBounds_toArray, List.set_cons_zero, List.set_cons_succ]; rfl
  refine pure_ (i := 7) (N := some 25) (v := ?_) (a' := ?_) (up 13 (7 + 1)) rfl rfl (by kernel_rfl) (fun _ _ _ h => h) (Or.inl ⟨by rfl, ?_⟩) ?_ ?_
  rotate_left
  · intro w'
    go_simp
    with_reducible rfl
  rotate_left
  · simp only [Act.put, List.setIfInBounds_toArray, List.set_cons_zero, List.set_cons_succ]; rfl
  refine pure_ (i := 8) (N := some 33) (v := ?_) (a' := ?_) (up 13 (8 + 1)) rfl rfl (by kernel_rfl) (fun _ _ _ h => h) (Or.inl ⟨by rfl, ?_⟩) ?_ ?_
  rotate_left
  · intro w'
    go_simp
    with_reducible rfl
  rotate_left
  · simp only [Act.put, List.setIfInBounds_toArray, List.set_cons_zero, List.set_cons_succ]; rfl
  refine pure_ (i := 9) (N := some 34) (v := ?_) (a' := ?_) (up 13 (9 + 1)) rfl rfl (by kernel_rfl) (fun _ _ _ h => h) (Or.inl ⟨by rfl, ?_⟩) ?_ ?_
  rotate_left
  · intro w'
    go_simp
    with_reducible rfl
  rotate_left
  · simp only [Act.put, List.setIfInBounds_toArray, List.set_cons_zero, List.set_cons_succ]; rfl
  refine one_ (i := 10) (N := some 6) (up 13 11) rfl rfl (by kernel_rfl) (by decide) (fun K hK => ?_)
  go_simp
  refine hK.out _ _ ⟨cell_alloc hHeld.1 _, cell_alloc hHeld.2.1 _, hHeld.2.2.alloc _⟩ (fun hHeld => ?_)
  clear hK K
  refine last_ (i := 11) (N := none) (up 13 12) rfl rfl (by kernel_rfl) (by decide) (fun K hK => ?_)
  go_simp
  refine hK.out _ _ ?_
  clear hK K
  refine pure_ (i := 12) (N := some 7) (v := ?_) (a' := ?_) (up 13 (12 + 1)) rfl rfl (by kernel_rfl) (fun _ _ _ h => h) (Or.inl ⟨by rfl, ?_⟩) ?_ ?_
  rotate_left
  · intro w'
    go_simp
    with_reducible rfl
  rotate_left
  · simp only [Act.put, List.setIfInBounds_toArray, List.set_cons_zero, List.set_cons_succ]; rfl
  refine done_ (by kernel_rfl) ?_
  go_wp2
  refine (fun H : ∀ w3 : World, w3.cell? ⟨p, 1, none⟩ = some (.map (some B)) → w3.ownsMap Try.prog 3 bidR B l.length (mapD l) → (∀ i v, (#[Value.int .i64 b0, .int .i64 b1, .int .i64 b2] : Array Value)[i]? = some v → w3.cell? ⟨w.heap.size, i, none⟩ = some v) → w.grownBy w3 none → Code.wp Try.prog _ _ _ w3 => H _ ?_ ?_ ?_ ?_) ?_
  · exact cell_alloc d1 _
  · exact (HN.out.2.1.alloc _).drew
  · intro i v hv
    exact cell_alloc ((cell_new _ _ _ _ _).trans hv) _
  · exact grown_drew ((World.grownBy_alloc w _ _).trans (World.grownBy_alloc (w.alloc _) _ _))
  · intro w3 f1 f2 f3 f4
    have f30 := f3 0 _ rfl
    have f31 := f3 1 _ rfl
    have f32 := f3 2 _ rfl
    refine still_tail 7 (by kernel_rfl) (by kernel_rfl) ?_
    simp only [List.take_succ_cons, List.take_zero, List.drop_succ_cons, List.drop_zero]
    repeat still_step
    try refine wpStill_nil ?_
    refine wpList_mapUpdate_own _ rfl _ _ _ 95 rfl 3 51 law Try.underlying95 bidR B l.length (mapD l) rfl f2.drew (by unfold maxLen; omega) _ _ (keyL b0) rfl rfl (keyOf_int_mk Try.underlying3 hw) (bidD (b0, b1, b2)) [] (bidR_mk (b0, b1, b2)) ?_
    intro w4 hown hg
    rw [map_put l (b0, b1, b2)] at hown
    have hres := tally_put HT.out (grown_drew f4) hown hg
    clear f2 f3 f4 hown hg HT HN look hHeld
    go_wp2
    go_ret2
    exact ⟨rfl, hres⟩
end Go.Proofs.Ytipeleefbaalpaa.Ty
