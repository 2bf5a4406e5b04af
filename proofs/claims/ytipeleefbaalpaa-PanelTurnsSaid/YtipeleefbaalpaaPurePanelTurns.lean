/- Every replica's turn comes, once in as many views as there are replicas; no witness's ever does: for all numbers of nodes and views; no condition. -/
import Derived.Test.YtipeleefbaalpaaPPanelWhox1
import Derived.Test.YtipeleefbaalpaaWSized
/-- The printed row names this word without its seat's prefix. -/
theorem Go.Proofs.Ytipeleefbaalpaa.PrintWords.sized_ints : type_of% @Go.Proofs.YtipeleefbaalpaaW.PrintWords.sized_ints := @Go.Proofs.YtipeleefbaalpaaW.PrintWords.sized_ints
namespace Go.Proofs.Ytipeleefbaalpaa.Pure
open Go.RowKit Go.Proofs.Ytipeleefbaalpaa.PPanelWho Go.Proofs.YtipeleefbaalpaaW.PrintWords Go.Proofs.YtipeleefbaalpaaW.PrintLast Go.Proofs.YtipeleefbaalpaaW.PrintMore Go.Proofs.Ytipeleefbaalpaa.Ext

theorem rd_at (l : List Int) (j : Nat) (h : j < l.length) : rd l (j : Int) = l[j] := by
  simp [rd, List.getD, h]
theorem w_succ (j : Nat) (h : j < 140737488351233) : wrap64 ((j : Int) + 1) = ((j + 1 : Nat) : Int) := by
  unfold wrap64; omega
theorem pred_of (k n : Nat) (h : n < k) : ∃ m, k = m + 1 := ⟨k - 1, by omega⟩

theorem mid_count (s : List Int) (hs : s.Pairwise (· ≤ ·)) (f : Nat) (hf : f < s.length) : s.length - f ≤ s.countP (fun x => decide (s[f] ≤ x)) := by
  have h1 : (s.drop f).countP (fun x => decide (s[f] ≤ x)) = (s.drop f).length := by
    rw [List.countP_eq_length]
    intro a ha
    obtain ⟨i, hi, rfl⟩ := List.getElem_of_mem ha
    rw [List.getElem_drop]
    rw [List.length_drop] at hi
    rcases Nat.eq_zero_or_pos i with rfl | h0
    · simp
    · exact decide_eq_true (List.pairwise_iff_getElem.1 hs f (f + i) hf (by omega) (by omega))
  have h2 : s.countP (fun x => decide (s[f] ≤ x)) = (s.take f).countP (fun x => decide (s[f] ≤ x)) + (s.drop f).countP (fun x => decide (s[f] ≤ x)) := by
    rw [← List.countP_append, List.take_append_drop]
  rw [h2, h1, List.length_drop]; omega
theorem mid_max (s : List Int) (hs : s.Pairwise (· ≤ ·)) (f : Nat) (hf : f < s.length) (a : Int) (ha : s[f] < a) : s.countP (fun x => decide (a ≤ x)) ≤ s.length - (f + 1) := by
  have h1 : (s.take (f + 1)).countP (fun x => decide (a ≤ x)) = 0 := by
    rw [List.countP_eq_zero]
    intro x hx
    obtain ⟨i, hi, rfl⟩ := List.getElem_of_mem hx
    rw [List.getElem_take]
    rw [List.length_take] at hi
    have : s[i] ≤ s[f] := by
      rcases Nat.lt_or_ge i f with h | h
      · exact List.pairwise_iff_getElem.1 hs i f (by omega) hf h
      · have : i = f := by omega
        subst this; omega
    simp; omega
  have h2 : s.countP (fun x => decide (a ≤ x)) = (s.take (f + 1)).countP (fun x => decide (a ≤ x)) + (s.drop (f + 1)).countP (fun x => decide (a ≤ x)) := by
    rw [← List.countP_append, List.take_append_drop]
  have h3 := List.countP_le_length (p := fun x => decide (a ≤ x)) (l := s.drop (f + 1))
  rw [List.length_drop] at h3
  rw [h2, h1]; omega
theorem sorted_pw (l : List Int) : (sorted l).Pairwise (· ≤ ·) := by
  have := List.pairwise_mergeSort (le := fun x y : Int => decide (x ≤ y)) (fun a b c h1 h2 => by simp at *; omega) (fun a b => by simp; omega) l
  exact this.imp (fun h => by simpa using h)
theorem sorted_perm (l : List Int) : (sorted l).Perm l := List.mergeSort_perm _ _
theorem sorted_len (l : List Int) : (sorted l).length = l.length := (sorted_perm l).length_eq
theorem sorted_five : sorted [4, 9, 2, 7, 1] = [1, 2, 4, 7, 9] := by simp [sorted, List.mergeSort, List.MergeSort.Internal.splitInTwo]
theorem sorted_count (l : List Int) (p : Int → Bool) : (sorted l).countP p = l.countP p := (sorted_perm l).countP_eq p
/-- The middle one of an odd number: enough have it, not enough have more, and it is one of them. -/
theorem mid_all (l : List Int) (f : Nat) (h : l.length = 2 * f + 1) : ∃ m : Int, rd (sorted l) (f : Int) = m ∧ m ∈ l ∧ f + 1 ≤ l.countP (fun x => decide (m ≤ x)) ∧ ∀ a : Int, m < a → l.countP (fun x => decide (a ≤ x)) ≤ f := by
  have hl := sorted_len l
  have hf : f < (sorted l).length := by omega
  refine ⟨(sorted l)[f], rd_at _ _ hf, (sorted_perm l).mem_iff.1 (List.getElem_mem hf), ?_, fun a ha => ?_⟩
  · have := mid_count (sorted l) (sorted_pw l) f hf
    rw [sorted_count] at this; omega
  · have := mid_max (sorted l) (sorted_pw l) f hf a ha
    rw [sorted_count] at this; omega

theorem panel_nat {n : Int} (h : panelI n = true) : ∃ f : Nat, f ≤ 3 ∧ n = 2 * (f : Int) + 1 ∧ n / 2 = f := by
  rcases panel_cases h with rfl | rfl | rfl | rfl
  · exact ⟨0, by decide⟩
  · exact ⟨1, by decide⟩
  · exact ⟨2, by decide⟩
  · exact ⟨3, by decide⟩
theorem panel_not {n : Int} (h : panelI n = false) : n ≠ 1 ∧ n ≠ 3 ∧ n ≠ 5 ∧ n ≠ 7 := by
  simp [panelI] at h; omega
theorem asked0_eq (n : Int) (k : Nat) : panel_asked.f k 0 n 0 = some (if panelI n then 0 else 1) := by
  unfold panel_asked.f
  rw [if_neg (by decide)]
  cases h : panelI n
  · obtain ⟨h1, h3, h5, h7⟩ := panel_not h
    rw [if_neg h1, if_neg h3, if_neg h5, if_neg h7]; rfl
  · rcases panel_cases h with rfl | rfl | rfl | rfl <;> rfl
def viewB (v : Int) : Bool := decide (0 ≤ v) && decide (v ≤ 1099511627776)
theorem asked1_eq (n v : Int) (k : Nat) : panel_asked.f (k + 1) 1 n v = some (if panelI n && viewB v then 0 else 1) := by
  unfold panel_asked.f
  rw [if_pos rfl]
  cases h : panelI n
  · obtain ⟨h1, h3, h5, h7⟩ := panel_not h
    simp only [panel_asked.j0]
    rw [if_neg h1, if_neg h3, if_neg h5, if_neg h7, if_neg h1, if_neg h3, if_neg h5, if_neg h7]; rfl
  · have hv : viewB v = (if v < 0 then false else decide (v ≤ 1099511627776)) := by
      unfold viewB; split
      · have : ¬ 0 ≤ v := by omega
        simp [this]
      · have : 0 ≤ v := by omega
        simp [this]
    rw [hv]
    rcases panel_cases h with rfl | rfl | rfl | rfl
    all_goals
      simp only [panel_asked.j0]
      by_cases h0 : v < 0
      · simp [h0]
      · by_cases h9 : v ≤ 1099511627776
        · have : ¬ v > 1099511627776 := by omega
          simp [h0, h9]
        · have : v > 1099511627776 := by omega
          simp [h0, h9]
theorem faults_eq (n : Int) (k : Nat) : panel_Faults.f k n = some (if panelI n then (n / 2, 0) else (0, 1)) := by
  unfold panel_Faults.f
  rw [asked0_eq]
  cases h : panelI n
  · rfl
  · rcases panel_cases h with rfl | rfl | rfl | rfl <;> decide +kernel
theorem round_eq {n : Int} (h : panelI n = true) : wrap64 (wrap64 (Int.tdiv n 2) + 1) = n / 2 + 1 := by
  rcases panel_cases h with rfl | rfl | rfl | rfl <;> decide +kernel
theorem round_pos {n : Int} (h : panelI n = true) : 1 ≤ n / 2 + 1 ∧ n / 2 + 1 ≤ 4 := by
  rcases panel_cases h with rfl | rfl | rfl | rfl <;> decide
def primaryB (n v : Int) : Int × Int := if panelI n && viewB v then (v % (n / 2 + 1), 0) else (0, 1)
theorem primary_eq (n v : Int) (k : Nat) : panel_Primary.f (k + 1) n v = some (primaryB n v) := by
  unfold panel_Primary.f primaryB
  rw [asked1_eq]
  cases h : panelI n
  · rfl
  · cases h2 : viewB v
    · rfl
    · have hv : 0 ≤ v := by simp [viewB] at h2; omega
      have hr := round_pos h
      simp only [Option.bind_some, Bool.and_self, if_true, round_eq h]
      rw [if_neg (by omega), Int.tmod_eq_emod_of_nonneg hv]

theorem reached_five : reachedB 5 [4, 9, 2, 7, 1] = (4, 0) := by
  unfold reachedB
  rw [sorted_five]
  decide +kernel
theorem five_ok (k : Nat) : sextonlaw06_five.f (k + 1) = some true := by
  unfold sextonlaw06_five.f panel_Reached.f
  rw [faults_eq, primary_eq, reached_five]
  decide +kernel

def replicaB (n node : Int) : Bool × Int := if panelI n && decide (0 ≤ node ∧ node < n) then (decide (node ≤ n / 2), 0) else (false, 1)
theorem replica_eq (n node : Int) (k : Nat) : panel_Replica.f k n node = some (replicaB n node) := by
  unfold panel_Replica.f replicaB
  rw [faults_eq]
  cases h : panelI n
  · rfl
  · simp only [Option.bind_some, if_true, Bool.true_and]
    by_cases h0 : node < 0
    · have e : ¬ (0 ≤ node ∧ node < n) := by omega
      rw [if_pos h0]; simp [e]
    · by_cases h1 : node ≥ n
      · have e : ¬ (0 ≤ node ∧ node < n) := by omega
        rw [if_neg h0, if_pos h1]; simp [e]
      · have e : 0 ≤ node ∧ node < n := by omega
        rw [if_neg h0, if_neg h1]; simp [e]
/-- How far the next view is. -/
def byI (n view node : Int) : Int := (node - view % (n / 2 + 1) + (n / 2 + 1) - 1) % (n / 2 + 1) + 1
def turnOk (n view node : Int) : Bool := panelI n && decide (0 ≤ node ∧ node ≤ n / 2) && viewB view
def turnB (n view node : Int) : Int × Int :=
  if turnOk n view node then (if view + byI n view node ≤ 1099511627776 then (view + byI n view node, 0) else (0, 6)) else (0, 1)
theorem by_facts {n view node : Int} (h : turnOk n view node = true) : 1 ≤ byI n view node ∧ byI n view node ≤ n / 2 + 1 ∧ (view + byI n view node) % (n / 2 + 1) = node ∧ (∀ v, view < v → v < view + byI n view node → v % (n / 2 + 1) ≠ node) ∧ 0 ≤ view ∧ view ≤ 1099511627776 ∧ 0 ≤ node ∧ node ≤ n / 2 := by
  simp only [turnOk, viewB, Bool.and_eq_true, decide_eq_true_eq] at h
  obtain ⟨⟨hp, h0, h1⟩, h2, h3⟩ := h
  unfold byI
  rcases panel_cases hp with rfl | rfl | rfl | rfl
  all_goals
    refine ⟨by omega, by omega, by omega, fun v a b => by omega, h2, h3, h0, h1⟩
theorem turn_eq (n view node : Int) (k : Nat) : panel_Turn.f (k + 1) n view node = some (turnB n view node) := by
  unfold panel_Turn.f
  rw [replica_eq]
  unfold replicaB turnB
  cases hok : turnOk n view node
  · simp only [Bool.false_eq_true, if_false, Option.bind_some]
    cases hp : panelI n
    · simp [panel_Turn.j0]
    · simp only [turnOk, hp, Bool.true_and] at hok
      by_cases h1 : 0 ≤ node ∧ node < n
      · simp only [Bool.true_and, decide_eq_true h1, if_true]
        by_cases h2 : node ≤ n / 2
        · have e2 : 0 ≤ node ∧ node ≤ n / 2 := ⟨h1.1, h2⟩
          simp only [decide_eq_true e2, Bool.true_and, viewB] at hok
          rw [if_pos (decide_eq_true h2)]
          by_cases h3 : view < 0
          · rw [if_pos h3]; simp [panel_Turn.j0]
          · have h4 : view > 1099511627776 := by simp at hok; omega
            rw [if_neg h3, decide_eq_true h4]; simp [panel_Turn.j0]
        · rw [if_neg (by simpa using h2)]; simp [panel_Turn.j0]
      · simp only [Bool.true_and, decide_eq_false h1, Bool.false_eq_true, if_false]
        rw [if_neg (by decide)]
        simp [panel_Turn.j0]
  · obtain ⟨b1, b2, _, _, v0, v9, n0, n1⟩ := by_facts hok
    have hp : panelI n = true := by
      simp only [turnOk, Bool.and_eq_true] at hok; exact hok.1.1
    have hr := round_pos hp
    have hn : node < n := by rcases panel_cases hp with e | e | e | e <;> subst e <;> omega
    have e1 : 0 ≤ node ∧ node < n := ⟨n0, hn⟩
    simp only [hp, decide_eq_true e1, decide_eq_true n1, Bool.and_self, if_true, Option.bind_some]
    have h3 : ¬ view < 0 := by omega
    have h4 : ¬ view > 1099511627776 := by omega
    rw [if_neg h3, decide_eq_false h4]
    simp only [panel_Turn.j0, Bool.false_eq_true, if_false, round_eq hp]
    have q0 := Int.emod_nonneg view (b := n / 2 + 1) (by omega)
    have q1 := Int.emod_lt_of_pos view (b := n / 2 + 1) (by omega)
    rw [Int.tmod_eq_emod_of_nonneg v0]
    have w1 : wrap64 (node - view % (n / 2 + 1)) = node - view % (n / 2 + 1) := by unfold wrap64; omega
    have w2 : wrap64 (node - view % (n / 2 + 1) + (n / 2 + 1)) = node - view % (n / 2 + 1) + (n / 2 + 1) := by unfold wrap64; omega
    have w3 : wrap64 (node - view % (n / 2 + 1) + (n / 2 + 1) - 1) = node - view % (n / 2 + 1) + (n / 2 + 1) - 1 := by unfold wrap64; omega
    rw [w1, w2, w3, Int.tmod_eq_emod_of_nonneg (by omega)]
    have hby : (node - view % (n / 2 + 1) + (n / 2 + 1) - 1) % (n / 2 + 1) + 1 = byI n view node := rfl
    rw [hby]
    have w4 : wrap64 (byI n view node) = byI n view node := by unfold wrap64; omega
    rw [w4]
    have w5 : wrap64 (1099511627776 - byI n view node) = 1099511627776 - byI n view node := by unfold wrap64; omega
    have w6 : wrap64 (view + byI n view node) = view + byI n view node := by unfold wrap64; omega
    rw [w5, w6, if_neg (by omega)]
    by_cases h9 : view + byI n view node ≤ 1099511627776
    · rw [if_neg (by omega), if_pos h9]
    · rw [if_pos (by omega), if_neg h9]

theorem primary_calls (n v : Int) (w : World) : Calls Try.prog 40 #[.int .i64 n, .int .i64 v] w fun e w' => e = .returned (.tuple #[.int .i64 (primaryB n v).1, .int .i64 (primaryB n v).2]) ∧ Drawn0 w w' :=
  panel_Primary.calls 1 n v _ _ w (primary_eq n v 0)
theorem turn_calls (n v p : Int) (w : World) : Calls Try.prog 41 #[.int .i64 n, .int .i64 v, .int .i64 p] w fun e w' => e = .returned (.tuple #[.int .i64 (turnB n v p).1, .int .i64 (turnB n v p).2]) ∧ Drawn0 w w' :=
  panel_Turn.calls 1 n v p _ _ w (turn_eq n v p 0)
theorem faults_calls (n : Int) (w : World) (r : Int × Int) (h : (if panelI n then (n / 2, (0 : Int)) else (0, 1)) = r) : Calls Try.prog 38 #[.int .i64 n] w fun e w' => e = .returned (.tuple #[.int .i64 r.1, .int .i64 r.2]) ∧ Drawn0 w w' :=
  panel_Faults.calls 0 n _ _ w (by rw [faults_eq, h])
theorem five_calls (w : World) : Calls Try.prog 37 #[] w fun e w' => e = .returned (.bool true) ∧ Below w.heap.size w w' :=
  sextonlaw06_five.calls 1 true w (five_ok 0)
/-- A turn's numbers, as the law asks of them. -/
theorem turn_facts {n view p : Int} (hp : panelI n = true) (v0 : 0 ≤ view) (v9 : view ≤ 549755813888) (p0 : 0 ≤ p) (p1 : p ≤ n / 2) :
    ∃ t : Int, turnB n view p = (t, 0) ∧ view < t ∧ t ≤ view + n / 2 + 1 ∧ t % (n / 2 + 1) = p := by
  have hr := round_pos hp
  have hok : turnOk n view p = true := by
    simp only [turnOk, viewB, hp, Bool.true_and, Bool.and_eq_true, decide_eq_true_eq]; omega
  obtain ⟨b1, b2, hm, _, _, _, _, _⟩ := by_facts hok
  refine ⟨view + byI n view p, ?_, by omega, by omega, hm⟩
  unfold turnB
  rw [hok, if_pos rfl, if_pos (by omega)]
/-- Views that stand nearer than a round have different primaries. -/
theorem apart_mod {n view : Int} {i j : Nat} (hp : panelI n = true) (hi : (i : Int) ≤ n / 2) (hj : j < i) : (view + j) % (n / 2 + 1) ≠ (view + i) % (n / 2 + 1) := by
  rcases panel_cases hp with rfl | rfl | rfl | rfl <;> omega
def Seen (n view : Int) (B : Nat) (i : Nat) (wr : World) : Prop :=
  ∀ p : Nat, p < 7 → wr.frozen? ⟨B, p, none⟩ = false ∧ ((∀ j : Nat, j < i → (view + j) % (n / 2 + 1) ≠ (p : Int)) → wr.cell? ⟨B, p, none⟩ = some (.bool false))
theorem seen_start (n view : Int) (w : World) (nd : Nat) : Seen n view w.heap.size 0 ((w.drewN nd).alloc (Obj.cells #[Value.bool false, Value.bool false, Value.bool false, Value.bool false, Value.bool false, Value.bool false, Value.bool false] 74)) := by
  intro p hp
  have e : ((w.drewN nd).alloc (Obj.cells #[Value.bool false, Value.bool false, Value.bool false, Value.bool false, Value.bool false, Value.bool false, Value.bool false] 74)).heap[w.heap.size]? = some (Obj.cells #[Value.bool false, Value.bool false, Value.bool false, Value.bool false, Value.bool false, Value.bool false, Value.bool false] 74) := by simp [World.alloc]
  refine ⟨by simp only [World.frozen?, e]; simp, fun _ => ?_⟩
  simp only [World.cell?, e]
  have : p = 0 ∨ p = 1 ∨ p = 2 ∨ p = 3 ∨ p = 4 ∨ p = 5 ∨ p = 6 := by omega
  rcases this with rfl | rfl | rfl | rfl | rfl | rfl | rfl <;> rfl
theorem seen_next {n view p : Int} {B i n1 n2 : Nat} {wr : World} (hs : Seen n view B i wr) (hpd : p = (view + i) % (n / 2 + 1)) (p0 : 0 ≤ p) : Seen n view B (i + 1) (((wr.drewN n1).setCell ⟨B, p.toNat, none⟩ (.bool true)).drewN n2) := by
  intro q hq
  obtain ⟨h1, h2⟩ := hs q hq
  refine ⟨by simp only [World.frozen?_drewN, World.frozen?_setCell]; exact h1, fun hne => ?_⟩
  have h3 := hne i (by omega)
  rw [← hpd] at h3
  have h4 : (⟨B, p.toNat, none⟩ : Addr) ≠ ⟨B, q, none⟩ := by
    intro e
    have := congrArg Addr.off e
    simp only at this
    omega
  show ((wr.drewN n1).setCell ⟨B, p.toNat, none⟩ (.bool true)).cell? ⟨B, q, none⟩ = _
  refine (World.cell?_setCell_other (wr.drewN n1) _ _ _ h4).trans ?_
  exact h2 fun j hj => hne j (by omega)
theorem prim_at {n view : Int} {i : Nat} (hp : panelI n = true) (v0 : 0 ≤ view) (v9 : view ≤ 549755813888) (hi : (i : Int) ≤ n / 2) :
    ∃ p : Int, p = (view + i) % (n / 2 + 1) ∧ 0 ≤ p ∧ p ≤ n / 2 ∧ primaryB n (view + i) = (p, 0) := by
  have hr := round_pos hp
  have q0 := Int.emod_nonneg (view + i) (b := n / 2 + 1) (by omega)
  have q1 := Int.emod_lt_of_pos (view + i) (b := n / 2 + 1) (by omega)
  refine ⟨_, rfl, q0, by omega, ?_⟩
  have hv : viewB (view + i) = true := by simp only [viewB, Bool.and_eq_true, decide_eq_true_eq]; omega
  unfold primaryB
  rw [hp, hv]; rfl
theorem seen_at {n view p : Int} {B i : Nat} {wr : World} (hp : panelI n = true) (hs : Seen n view B i wr) (hi : (i : Int) ≤ n / 2) (hpd : p = (view + i) % (n / 2 + 1)) (p0 : 0 ≤ p) (p1 : p ≤ n / 2) :
    wr.frozen? ⟨B, p.toNat, none⟩ = false ∧ wr.cell? ⟨B, p.toNat, none⟩ = some (.bool false) := by
  have hr := round_pos hp
  obtain ⟨h1, h2⟩ := hs p.toNat (by omega)
  refine ⟨h1, h2 fun j hj e => ?_⟩
  have := apart_mod (view := view) hp hi hj
  rw [← hpd] at this
  omega
theorem turns_bad (n view : Int) (w : World) (h : ¬ (panelI n = true ∧ 0 ≤ view ∧ view ≤ 549755813888)) :
    Calls Try.prog 11 #[.int .i64 n, .int .i64 view] w fun e w' => e = .returned (.bool true) ∧ Below w.heap.size w w' := by
  cases hp : panelI n
  · have hf := fun w => faults_calls n w (0, 1) (by rw [hp]; rfl)
    clear hp h
    go_enter Try.func11, Try.ntmps11
    go_wp2_with (first
      | (go_at_call 38; refine (hf _).mono ?_; rintro e w' ⟨rfl, ⟨nd, rfl⟩⟩)
      | (go_at_call 37; refine (five_calls _).mono ?_; rintro e w' ⟨rfl, hb⟩))
    go_ret
    exact ⟨rfl, (pw_below_drewN (Below.refl _ w) nd).trans hb⟩
  · have hf := fun w => faults_calls n w (n / 2, 0) (by rw [hp]; rfl)
    by_cases h1 : view < 0
    · have h1' : decide (view < 0) = true := decide_eq_true h1
      clear hp h h1
      go_enter Try.func11, Try.ntmps11
      go_wp2_with (first
        | (go_at_call 38; refine (hf _).mono ?_; rintro e w' ⟨rfl, ⟨nd, rfl⟩⟩)
        | (go_at_call 37; refine (five_calls _).mono ?_; rintro e w' ⟨rfl, hb⟩))
      go_ret
      exact ⟨rfl, (pw_below_drewN (Below.refl _ w) nd).trans hb⟩
    · have h1' : decide (view < 0) = false := decide_eq_false h1
      have h2' : decide (549755813888 < view) = true := decide_eq_true (by have : ¬ (0 ≤ view ∧ view ≤ 549755813888) := fun e => h ⟨hp, e⟩; omega)
      clear hp h h1
      go_enter Try.func11, Try.ntmps11
      go_wp2_with (first
        | (go_at_call 38; refine (hf _).mono ?_; rintro e w' ⟨rfl, ⟨nd, rfl⟩⟩)
        | (go_at_call 37; refine (five_calls _).mono ?_; rintro e w' ⟨rfl, hb⟩))
      go_ret
      exact ⟨rfl, (pw_below_drewN (Below.refl _ w) nd).trans hb⟩
theorem turns_ok (n view : Int) (w : World) (hp : panelI n = true) (v0 : 0 ≤ view) (v9 : view ≤ 549755813888) :
    Calls Try.prog 11 #[.int .i64 n, .int .i64 view] w fun e w' => e = .returned (.bool true) ∧ Below w.heap.size w w' := by
  have hf := fun w => faults_calls n w (n / 2, 0) (by rw [hp]; rfl)
  have hr := round_pos hp
  obtain ⟨f, hf3, hn, hn2⟩ := panel_nat hp
  have HP := Aside0.mk hp
  have HN := Aside0.mk hn2
  have r0 : 0 ≤ n / 2 := by omega
  have r3 : n / 2 ≤ 3 := by omega
  have h1' : decide (view < 0) = false := decide_eq_false (by omega)
  have h2' : decide (549755813888 < view) = false := decide_eq_false (by omega)
  clear hp hr hn hn2
  go_enter Try.func11, Try.ntmps11
  go_wp2_with (first
    | (go_at_call 38; refine (hf _).mono ?_; rintro e w' ⟨rfl, ⟨nd, rfl⟩⟩)
    | (go_at_call 37; refine (five_calls _).mono ?_; rintro e w' ⟨rfl, hb⟩))
  clear h1' h2'
  have HB := Aside0.mk ((pw_below_drewN (Below.refl w.heap.size w) nd).alloc (Nat.le_refl _) (Obj.cells #[Value.bool false, Value.bool false, Value.bool false, Value.bool false, Value.bool false, Value.bool false, Value.bool false] 74))
  go_loopw [8] (fun v wr => ∃ i : Nat, (i : Int) ≤ n / 2 + 1 ∧ v = .int .i64 (view + i) ∧ Aside0 (Seen n view w.heap.size i wr) ∧ Aside0 (Below w.heap.size w wr)) (fun v _ => (view + n / 2 + 1 - intOf v).toNat)
  case atStart => exact ⟨0, by omega, by simp, ⟨seen_start _ _ _ nd⟩, HB⟩
  case round =>
    obtain ⟨i, hi, rfl, hs, hb⟩ := hrel
    clear HB
    by_cases hlt : (i : Int) ≤ n / 2
    · obtain ⟨p, hpd, p0, p1, hpr⟩ := prim_at (view := view) (i := i) HP.out v0 v9 hlt
      obtain ⟨t, ht, t1, t2, t3⟩ := turn_facts HP.out v0 v9 p0 p1
      have hpc := fun w => primary_calls n (view + i) w
      have htc := fun w => turn_calls n view p w
      rw [hpr] at hpc
      rw [ht] at htc
      obtain ⟨hfz, hcell⟩ := seen_at HP.out hs.out hlt hpd p0 p1
      have HPD := Aside0.mk hpd
      have e3 : (t % (n / 2 + 1) != p) = false := by rw [t3]; simp
      clear hpd hpr ht t3 hf
      go_wp2_with (first
        | (go_at_call 40; refine (hpc _).mono ?_; rintro e w' ⟨rfl, ⟨n1, rfl⟩⟩)
        | (go_at_call 41; refine (htc _).mono ?_; rintro e w' ⟨rfl, ⟨n2, rfl⟩⟩))
      go_roundw
      case rel => exact ⟨i + 1, by omega, by congr 1; omega, ⟨seen_next hs.out HPD.out p0⟩, ⟨pw_below_drewN ((pw_below_drewN hb.out n1).setCell (Nat.le_refl _) _) n2⟩⟩
      case measure => simp [intOf]; omega
    · have hge : ¬ view + (i : Int) ≤ view + n / 2 := by omega
      clear hf
      go_wp2_with (go_at_call 37; refine (five_calls _).mono ?_; rintro e w' ⟨rfl, hb2⟩)
      go_ret
      exact ⟨rfl, below_step hb.out hb2⟩
theorem sextonlaw06_PanelTurns.walk (n view : Int) (w : World) : Calls Try.prog 11 #[.int .i64 n, .int .i64 view] w fun e w' => e = .returned (.bool true) ∧ Below w.heap.size w w' := by
  by_cases h : panelI n = true ∧ 0 ≤ view ∧ view ≤ 549755813888
  · exact turns_ok n view w h.1 h.2.1 h.2.2
  · exact turns_bad n view w h

end Go.Proofs.Ytipeleefbaalpaa.Pure
