/- Which panels there are, who is a replica, and whose turn each view is: for all numbers the program answers as the reference does; no condition. -/
import Derived.Test.YtipeleefbaalpaaPPanelWhox3
import Derived.Test.YtipeleefbaalpaaWSized
/-- The printed row names this word without its seat's prefix. -/
theorem Go.Proofs.Ytipeleefbaalpaa.PrintWords.sized_ints : type_of% @Go.Proofs.YtipeleefbaalpaaW.PrintWords.sized_ints := @Go.Proofs.YtipeleefbaalpaaW.PrintWords.sized_ints
namespace Go.Proofs.Ytipeleefbaalpaa.Pure
open Go.RowKit Go.Proofs.Ytipeleefbaalpaa.PPanelWho Go.Proofs.YtipeleefbaalpaaW.PrintWords Go.Proofs.YtipeleefbaalpaaW.PrintLast Go.Proofs.YtipeleefbaalpaaW.PrintMore Go.Proofs.Ytipeleefbaalpaa.Ext

theorem rd_at (l : List Int) (j : Nat) (h : j < l.length) : rd l (j : Int) = l[j] := by
  simp [rd, List.getD, h]
theorem w_succ (j : Nat) (h : j < 140737488351233) : wrap64 ((j : Int) + 1) = ((j + 1 : Nat) : Int) := by
  unfold wrap64; omega
theorem pred_of (k n : Nat) (h : n < k) : ∃ m, k = m + 1 := ⟨k - 1, by omega⟩

theorem mid_count (s : List Int) (hs : s.Pairwise (· ≤ ·)) (f : Nat) (hf : f < s.length) : s.length - f ≤ s.countP (fun x => decide (s[f] ≤ x)) := by
  have h1 : (s.drop f).countP (fun x => decide (s[f] ≤ x)) = (s.drop f).length := by
    rw [List.countP_eq_length]
    intro a ha
    obtain ⟨i, hi, rfl⟩ := List.getElem_of_mem ha
    rw [List.getElem_drop]
    rw [List.length_drop] at hi
    rcases Nat.eq_zero_or_pos i with rfl | h0
    · simp
    · exact decide_eq_true (List.pairwise_iff_getElem.1 hs f (f + i) hf (by omega) (by omega))
  have h2 : s.countP (fun x => decide (s[f] ≤ x)) = (s.take f).countP (fun x => decide (s[f] ≤ x)) + (s.drop f).countP (fun x => decide (s[f] ≤ x)) := by
    rw [← List.countP_append, List.take_append_drop]
  rw [h2, h1, List.length_drop]; omega
theorem mid_max (s : List Int) (hs : s.Pairwise (· ≤ ·)) (f : Nat) (hf : f < s.length) (a : Int) (ha : s[f] < a) : s.countP (fun x => decide (a ≤ x)) ≤ s.length - (f + 1) := by
  have h1 : (s.take (f + 1)).countP (fun x => decide (a ≤ x)) = 0 := by
    rw [List.countP_eq_zero]
    intro x hx
    obtain ⟨i, hi, rfl⟩ := List.getElem_of_mem hx
    rw [List.getElem_take]
    rw [List.length_take] at hi
    have : s[i] ≤ s[f] := by
      rcases Nat.lt_or_ge i f with h | h
      · exact List.pairwise_iff_getElem.1 hs i f (by omega) hf h
      · have : i = f := by omega
        subst this; omega
    simp; omega
  have h2 : s.countP (fun x => decide (a ≤ x)) = (s.take (f + 1)).countP (fun x => decide (a ≤ x)) + (s.drop (f + 1)).countP (fun x => decide (a ≤ x)) := by
    rw [← List.countP_append, List.take_append_drop]
  have h3 := List.countP_le_length (p := fun x => decide (a ≤ x)) (l := s.drop (f + 1))
  rw [List.length_drop] at h3
  rw [h2, h1]; omega
theorem sorted_pw (l : List Int) : (sorted l).Pairwise (· ≤ ·) := by
  have := List.pairwise_mergeSort (le := fun x y : Int => decide (x ≤ y)) (fun a b c h1 h2 => by simp at *; omega) (fun a b => by simp; omega) l
  exact this.imp (fun h => by simpa using h)
theorem sorted_perm (l : List Int) : (sorted l).Perm l := List.mergeSort_perm _ _
theorem sorted_len (l : List Int) : (sorted l).length = l.length := (sorted_perm l).length_eq
theorem sorted_five : sorted [4, 9, 2, 7, 1] = [1, 2, 4, 7, 9] := by simp [sorted, List.mergeSort, List.MergeSort.Internal.splitInTwo]
theorem sorted_count (l : List Int) (p : Int → Bool) : (sorted l).countP p = l.countP p := (sorted_perm l).countP_eq p
/-- The middle one of an odd number: enough have it, not enough have more, and it is one of them. -/
theorem mid_all (l : List Int) (f : Nat) (h : l.length = 2 * f + 1) : ∃ m : Int, rd (sorted l) (f : Int) = m ∧ m ∈ l ∧ f + 1 ≤ l.countP (fun x => decide (m ≤ x)) ∧ ∀ a : Int, m < a → l.countP (fun x => decide (a ≤ x)) ≤ f := by
  have hl := sorted_len l
  have hf : f < (sorted l).length := by omega
  refine ⟨(sorted l)[f], rd_at _ _ hf, (sorted_perm l).mem_iff.1 (List.getElem_mem hf), ?_, fun a ha => ?_⟩
  · have := mid_count (sorted l) (sorted_pw l) f hf
    rw [sorted_count] at this; omega
  · have := mid_max (sorted l) (sorted_pw l) f hf a ha
    rw [sorted_count] at this; omega

theorem panel_nat {n : Int} (h : panelI n = true) : ∃ f : Nat, f ≤ 3 ∧ n = 2 * (f : Int) + 1 ∧ n / 2 = f := by
  rcases panel_cases h with rfl | rfl | rfl | rfl
  · exact ⟨0, by decide⟩
  · exact ⟨1, by decide⟩
  · exact ⟨2, by decide⟩
  · exact ⟨3, by decide⟩
theorem panel_not {n : Int} (h : panelI n = false) : n ≠ 1 ∧ n ≠ 3 ∧ n ≠ 5 ∧ n ≠ 7 := by
  simp [panelI] at h; omega
theorem asked0_eq (n : Int) (k : Nat) : panel_asked.f k 0 n 0 = some (if panelI n then 0 else 1) := by
  unfold panel_asked.f
  rw [if_neg (by decide)]
  cases h : panelI n
  · obtain ⟨h1, h3, h5, h7⟩ := panel_not h
    rw [if_neg h1, if_neg h3, if_neg h5, if_neg h7]; rfl
  · rcases panel_cases h with rfl | rfl | rfl | rfl <;> rfl
def viewB (v : Int) : Bool := decide (0 ≤ v) && decide (v ≤ 1099511627776)
theorem asked1_eq (n v : Int) (k : Nat) : panel_asked.f (k + 1) 1 n v = some (if panelI n && viewB v then 0 else 1) := by
  unfold panel_asked.f
  rw [if_pos rfl]
  cases h : panelI n
  · obtain ⟨h1, h3, h5, h7⟩ := panel_not h
    simp only [panel_asked.j0]
    rw [if_neg h1, if_neg h3, if_neg h5, if_neg h7, if_neg h1, if_neg h3, if_neg h5, if_neg h7]; rfl
  · have hv : viewB v = (if v < 0 then false else decide (v ≤ 1099511627776)) := by
      unfold viewB; split
      · have : ¬ 0 ≤ v := by omega
        simp [this]
      · have : 0 ≤ v := by omega
        simp [this]
    rw [hv]
    rcases panel_cases h with rfl | rfl | rfl | rfl
    all_goals
      simp only [panel_asked.j0]
      by_cases h0 : v < 0
      · simp [h0]
      · by_cases h9 : v ≤ 1099511627776
        · have : ¬ v > 1099511627776 := by omega
          simp [h0, h9]
        · have : v > 1099511627776 := by omega
          simp [h0, h9]
theorem faults_eq (n : Int) (k : Nat) : panel_Faults.f k n = some (if panelI n then (n / 2, 0) else (0, 1)) := by
  unfold panel_Faults.f
  rw [asked0_eq]
  cases h : panelI n
  · rfl
  · rcases panel_cases h with rfl | rfl | rfl | rfl <;> decide +kernel
theorem round_eq {n : Int} (h : panelI n = true) : wrap64 (wrap64 (Int.tdiv n 2) + 1) = n / 2 + 1 := by
  rcases panel_cases h with rfl | rfl | rfl | rfl <;> decide +kernel
theorem round_pos {n : Int} (h : panelI n = true) : 1 ≤ n / 2 + 1 ∧ n / 2 + 1 ≤ 4 := by
  rcases panel_cases h with rfl | rfl | rfl | rfl <;> decide
def primaryB (n v : Int) : Int × Int := if panelI n && viewB v then (v % (n / 2 + 1), 0) else (0, 1)
theorem primary_eq (n v : Int) (k : Nat) : panel_Primary.f (k + 1) n v = some (primaryB n v) := by
  unfold panel_Primary.f primaryB
  rw [asked1_eq]
  cases h : panelI n
  · rfl
  · cases h2 : viewB v
    · rfl
    · have hv : 0 ≤ v := by simp [viewB] at h2; omega
      have hr := round_pos h
      simp only [Option.bind_some, Bool.and_self, if_true, round_eq h]
      rw [if_neg (by omega), Int.tmod_eq_emod_of_nonneg hv]

theorem reached_five : reachedB 5 [4, 9, 2, 7, 1] = (4, 0) := by
  unfold reachedB
  rw [sorted_five]
  decide +kernel
theorem five_ok (k : Nat) : sextonlaw06_five.f (k + 1) = some true := by
  unfold sextonlaw06_five.f panel_Reached.f
  rw [faults_eq, primary_eq, reached_five]
  decide +kernel

theorem ref_faults_eq (n : Int) : Ev (fun k => sextonref06_Faults.f k n) (if panelI n then n / 2 else -1) := by
  cases h : panelI n
  · obtain ⟨h1, h3, h5, h7⟩ := panel_not h
    unfold sextonref06_Faults.f
    have w0 : ¬ n = wrap64 (wrap64 (2 * 0) + 1) := by rw [show wrap64 (wrap64 (2 * 0) + 1) = 1 from by decide +kernel]; exact h1
    have w1 : ¬ n = wrap64 (wrap64 (2 * 1) + 1) := by rw [show wrap64 (wrap64 (2 * 1) + 1) = 3 from by decide +kernel]; exact h3
    have w2 : ¬ n = wrap64 (wrap64 (2 * 2) + 1) := by rw [show wrap64 (wrap64 (2 * 2) + 1) = 5 from by decide +kernel]; exact h5
    have w3 : ¬ n = wrap64 (wrap64 (2 * 3) + 1) := by rw [show wrap64 (wrap64 (2 * 3) + 1) = 7 from by decide +kernel]; exact h7
    refine Ev.step (f := fun k => sextonref06_Faults.l0 k n 1) (fun k => by simp only [sextonref06_Faults.l0]; rw [if_pos (by decide), if_neg w0, show wrap64 (0 + 1) = 1 from by decide +kernel]) ?_
    refine Ev.step (f := fun k => sextonref06_Faults.l0 k n 2) (fun k => by simp only [sextonref06_Faults.l0]; rw [if_pos (by decide), if_neg w1, show wrap64 (1 + 1) = 2 from by decide +kernel]) ?_
    refine Ev.step (f := fun k => sextonref06_Faults.l0 k n 3) (fun k => by simp only [sextonref06_Faults.l0]; rw [if_pos (by decide), if_neg w2, show wrap64 (2 + 1) = 3 from by decide +kernel]) ?_
    refine Ev.step (f := fun k => sextonref06_Faults.l0 k n 4) (fun k => by simp only [sextonref06_Faults.l0]; rw [if_pos (by decide), if_neg w3, show wrap64 (3 + 1) = 4 from by decide +kernel]) ?_
    exact Ev.step (f := fun _ => some (-1)) (fun k => by simp only [sextonref06_Faults.l0]; rw [if_neg (by decide)]) (Ev.now _)
  · rcases panel_cases h with rfl | rfl | rfl | rfl
    · exact Ev.of (fun k => sextonref06_Faults.mono 1 k) (k := 6) (by decide +kernel)
    · exact Ev.of (fun k => sextonref06_Faults.mono 3 k) (k := 6) (by decide +kernel)
    · exact Ev.of (fun k => sextonref06_Faults.mono 5 k) (k := 6) (by decide +kernel)
    · exact Ev.of (fun k => sextonref06_Faults.mono 7 k) (k := 6) (by decide +kernel)

def replicaB (n node : Int) : Bool × Int := if panelI n && decide (0 ≤ node ∧ node < n) then (decide (node ≤ n / 2), 0) else (false, 1)
theorem replica_eq (n node : Int) (k : Nat) : panel_Replica.f k n node = some (replicaB n node) := by
  unfold panel_Replica.f replicaB
  rw [faults_eq]
  cases h : panelI n
  · rfl
  · simp only [Option.bind_some, if_true, Bool.true_and]
    by_cases h0 : node < 0
    · have e : ¬ (0 ≤ node ∧ node < n) := by omega
      rw [if_pos h0]; simp [e]
    · by_cases h1 : node ≥ n
      · have e : ¬ (0 ≤ node ∧ node < n) := by omega
        rw [if_neg h0, if_pos h1]; simp [e]
      · have e : 0 ≤ node ∧ node < n := by omega
        rw [if_neg h0, if_neg h1]; simp [e]
/-- How far the next view is. -/
def byI (n view node : Int) : Int := (node - view % (n / 2 + 1) + (n / 2 + 1) - 1) % (n / 2 + 1) + 1
def turnOk (n view node : Int) : Bool := panelI n && decide (0 ≤ node ∧ node ≤ n / 2) && viewB view
def turnB (n view node : Int) : Int × Int :=
  if turnOk n view node then (if view + byI n view node ≤ 1099511627776 then (view + byI n view node, 0) else (0, 6)) else (0, 1)
theorem by_facts {n view node : Int} (h : turnOk n view node = true) : 1 ≤ byI n view node ∧ byI n view node ≤ n / 2 + 1 ∧ (view + byI n view node) % (n / 2 + 1) = node ∧ (∀ v, view < v → v < view + byI n view node → v % (n / 2 + 1) ≠ node) ∧ 0 ≤ view ∧ view ≤ 1099511627776 ∧ 0 ≤ node ∧ node ≤ n / 2 := by
  simp only [turnOk, viewB, Bool.and_eq_true, decide_eq_true_eq] at h
  obtain ⟨⟨hp, h0, h1⟩, h2, h3⟩ := h
  unfold byI
  rcases panel_cases hp with rfl | rfl | rfl | rfl
  all_goals
    refine ⟨by omega, by omega, by omega, fun v a b => by omega, h2, h3, h0, h1⟩
theorem turn_eq (n view node : Int) (k : Nat) : panel_Turn.f (k + 1) n view node = some (turnB n view node) := by
  unfold panel_Turn.f
  rw [replica_eq]
  unfold replicaB turnB
  cases hok : turnOk n view node
  · simp only [Bool.false_eq_true, if_false, Option.bind_some]
    cases hp : panelI n
    · simp [panel_Turn.j0]
    · simp only [turnOk, hp, Bool.true_and] at hok
      by_cases h1 : 0 ≤ node ∧ node < n
      · simp only [Bool.true_and, decide_eq_true h1, if_true]
        by_cases h2 : node ≤ n / 2
        · have e2 : 0 ≤ node ∧ node ≤ n / 2 := ⟨h1.1, h2⟩
          simp only [decide_eq_true e2, Bool.true_and, viewB] at hok
          rw [if_pos (decide_eq_true h2)]
          by_cases h3 : view < 0
          · rw [if_pos h3]; simp [panel_Turn.j0]
          · have h4 : view > 1099511627776 := by simp at hok; omega
            rw [if_neg h3, decide_eq_true h4]; simp [panel_Turn.j0]
        · rw [if_neg (by simpa using h2)]; simp [panel_Turn.j0]
      · simp only [Bool.true_and, decide_eq_false h1, Bool.false_eq_true, if_false]
        rw [if_neg (by decide)]
        simp [panel_Turn.j0]
  · obtain ⟨b1, b2, _, _, v0, v9, n0, n1⟩ := by_facts hok
    have hp : panelI n = true := by
      simp only [turnOk, Bool.and_eq_true] at hok; exact hok.1.1
    have hr := round_pos hp
    have hn : node < n := by rcases panel_cases hp with e | e | e | e <;> subst e <;> omega
    have e1 : 0 ≤ node ∧ node < n := ⟨n0, hn⟩
    simp only [hp, decide_eq_true e1, decide_eq_true n1, Bool.and_self, if_true, Option.bind_some]
    have h3 : ¬ view < 0 := by omega
    have h4 : ¬ view > 1099511627776 := by omega
    rw [if_neg h3, decide_eq_false h4]
    simp only [panel_Turn.j0, Bool.false_eq_true, if_false, round_eq hp]
    have q0 := Int.emod_nonneg view (b := n / 2 + 1) (by omega)
    have q1 := Int.emod_lt_of_pos view (b := n / 2 + 1) (by omega)
    rw [Int.tmod_eq_emod_of_nonneg v0]
    have w1 : wrap64 (node - view % (n / 2 + 1)) = node - view % (n / 2 + 1) := by unfold wrap64; omega
    have w2 : wrap64 (node - view % (n / 2 + 1) + (n / 2 + 1)) = node - view % (n / 2 + 1) + (n / 2 + 1) := by unfold wrap64; omega
    have w3 : wrap64 (node - view % (n / 2 + 1) + (n / 2 + 1) - 1) = node - view % (n / 2 + 1) + (n / 2 + 1) - 1 := by unfold wrap64; omega
    rw [w1, w2, w3, Int.tmod_eq_emod_of_nonneg (by omega)]
    have hby : (node - view % (n / 2 + 1) + (n / 2 + 1) - 1) % (n / 2 + 1) + 1 = byI n view node := rfl
    rw [hby]
    have w4 : wrap64 (byI n view node) = byI n view node := by unfold wrap64; omega
    rw [w4]
    have w5 : wrap64 (1099511627776 - byI n view node) = 1099511627776 - byI n view node := by unfold wrap64; omega
    have w6 : wrap64 (view + byI n view node) = view + byI n view node := by unfold wrap64; omega
    rw [w5, w6, if_neg (by omega)]
    by_cases h9 : view + byI n view node ≤ 1099511627776
    · rw [if_neg (by omega), if_pos h9]
    · rw [if_pos (by omega), if_neg h9]
theorem ref_turn_l (view node f b : Int) (hf0 : 0 ≤ f) (hf : f ≤ 3) (b2 : b ≤ f + 1) (hm : (view + b) % (f + 1) = node) (hn : ∀ v, view < v → v < view + b → v % (f + 1) ≠ node) (v0 : 0 ≤ view) (v9 : view ≤ 1099511627776) (d : Nat) :
    ∀ v : Int, view < v → v ≤ view + b → (view + b - v).toNat = d → Ev (fun k => sextonref06_Turn.l0 k view node f v) (if view + b ≤ 1099511627776 then (view + b, 0) else (0, 6)) := by
  induction d with
  | zero =>
    intro v h1 h2 hd
    have hv : v = view + b := by omega
    subst hv
    refine Ev.step (f := fun k => sextonref06_Turn.j2 k view node f (view + b) (decide (view + b ≤ 1099511627776))) (fun k => ?_) ?_
    · simp only [sextonref06_Turn.l0]
      rw [if_pos (by unfold wrap64; omega)]
    · refine Ev.step (f := fun _ => some _) (fun k => ?_) (Ev.now _)
      simp only [sextonref06_Turn.j2]
      have w1 : wrap64 (f + 1) = f + 1 := by unfold wrap64; omega
      by_cases h9 : view + b ≤ 1099511627776
      · rw [decide_eq_true h9, if_pos rfl, if_pos h9, w1, if_neg (by omega), Int.tmod_eq_emod_of_nonneg (by omega), if_pos hm]
      · rw [decide_eq_false h9, if_neg (by decide), if_neg h9]
  | succ d ih =>
    intro v h1 h2 hd
    refine Ev.step (f := fun k => sextonref06_Turn.j2 k view node f v (decide (v ≤ 1099511627776))) (fun k => ?_) ?_
    · simp only [sextonref06_Turn.l0]
      rw [if_pos (by unfold wrap64; omega)]
    · have w1 : wrap64 (f + 1) = f + 1 := by unfold wrap64; omega
      by_cases h9 : v ≤ 1099511627776
      · refine Ev.step (fun k => ?_) (ih (v + 1) (by omega) (by omega) (by omega))
        simp only [sextonref06_Turn.j2]
        have w2 : wrap64 (v + 1) = v + 1 := by unfold wrap64; omega
        rw [decide_eq_true h9, if_pos rfl, w1, if_neg (by omega), Int.tmod_eq_emod_of_nonneg (by omega), if_neg (hn v h1 (by omega)), w2]
      · have h8 : ¬ view + b ≤ 1099511627776 := by omega
        rw [if_neg h8]
        refine Ev.step (f := fun _ => some (0, 6)) (fun k => ?_) (Ev.now _)
        simp only [sextonref06_Turn.j2]
        rw [decide_eq_false h9, if_neg (by decide)]
theorem ref_turn_eq (n view node : Int) : Ev (fun k => sextonref06_Turn.f k n view node) (turnB n view node) := by
  unfold sextonref06_Turn.f
  refine Ev.bind (ref_faults_eq n) ?_
  unfold turnB
  have bad : ∀ (f : Int), Ev (fun k => sextonref06_Turn.j0 k view node f true) (0, 1) := fun f => Ev.step (f := fun _ => some (0, 1)) (fun k => rfl) (Ev.now _)
  cases hok : turnOk n view node
  · simp only [Bool.false_eq_true, if_false]
    cases hp : panelI n
    · exact bad _
    · have hr := round_pos hp
      have e0 : ¬ n / 2 < 0 := by omega
      simp only [if_true, e0, if_false]
      simp only [turnOk, hp, Bool.true_and, viewB, Bool.and_eq_false_iff, decide_eq_false_iff_not] at hok
      by_cases h1 : view < 0
      · simp only [h1, if_true]; exact bad _
      · by_cases h2 : view > 1099511627776
        · simp only [h1, h2, if_true, if_false]; exact bad _
        · by_cases h3 : node < 0
          · simp only [h1, h2, h3, if_true, if_false]; exact bad _
          · have h4 : node > n / 2 := by omega
            simp only [h1, h2, h3, if_false, decide_eq_true h4]; exact bad _
  · obtain ⟨b1, b2, hm, hn, v0, v9, n0, n1⟩ := by_facts hok
    have hp : panelI n = true := by
      simp only [turnOk, Bool.and_eq_true] at hok; exact hok.1.1
    have hr := round_pos hp
    have e0 : ¬ n / 2 < 0 := by omega
    have h1 : ¬ view < 0 := by omega
    have h2 : ¬ view > 1099511627776 := by omega
    have h3 : ¬ node < 0 := by omega
    have h4 : ¬ node > n / 2 := by omega
    simp only [hp, if_true, e0, h1, h2, h3, if_false, decide_eq_false h4]
    refine Ev.step (f := fun k => sextonref06_Turn.l0 k view node (n / 2) (view + 1)) (fun k => ?_) (ref_turn_l view node (n / 2) (byI n view node) (by omega) (by omega) b2 hm hn v0 v9 _ (view + 1) (by omega) (by omega) rfl)
    have w1 : wrap64 (view + 1) = view + 1 := by unfold wrap64; omega
    simp only [sextonref06_Turn.j0, Bool.false_eq_true, if_false, w1]

theorem ref_primary_eq (n v : Int) : Ev (fun k => sextonref06_Primary.f k n v) (if panelI n && viewB v then v % (n / 2 + 1) else -1) := by
  unfold sextonref06_Primary.f
  refine Ev.bind (ref_faults_eq n) ?_
  cases hp : panelI n
  · exact Ev.now _
  · have hr := round_pos hp
    have e0 : ¬ n / 2 < 0 := by omega
    simp only [if_true, e0, if_false, Bool.true_and]
    by_cases h1 : v < 0
    · have e : viewB v = false := by simp [viewB]; omega
      rw [e]; simp only [h1, if_true]; exact Ev.now _
    · by_cases h2 : v > 1099511627776
      · have e : viewB v = false := by simp [viewB]; omega
        rw [e]; simp only [h1, h2, if_true, if_false]; exact Ev.now _
      · have e : viewB v = true := by simp [viewB]; omega
        have w1 : wrap64 (n / 2 + 1) = n / 2 + 1 := by unfold wrap64; omega
        have w2 : ¬ n / 2 + 1 = 0 := by omega
        rw [e]
        simp only [h1, h2, if_false, w1, w2, if_true, Int.tmod_eq_emod_of_nonneg (show 0 ≤ v by omega)]
        exact Ev.now _
theorem PanelWho : sextonlaw06_PanelWho.Pure := by
  intro n node view _ _ _
  refine Ev.rounds ?_
  unfold sextonlaw06_PanelWho.f
  have five : Ev (fun k => (sextonlaw06_five.f k).bind fun t => some t) true := Ev.step (f := fun _ => some true) (fun k => by rw [five_ok]; rfl) (Ev.now _)
  refine Ev.bind (a := if panelI n then (n / 2, 0) else (0, 1)) ⟨0, fun k _ => faults_eq n k⟩ ?_
  refine Ev.bind (a := replicaB n node) ⟨0, fun k _ => replica_eq n node k⟩ ?_
  refine Ev.bind (a := primaryB n view) (Ev.step (fun k => primary_eq n view k) (Ev.now _)) ?_
  refine Ev.bind (a := turnB n view node) (Ev.step (fun k => turn_eq n view node k) (Ev.now _)) ?_
  refine Ev.bind (ref_turn_eq n view node) ?_
  refine Ev.bind (ref_faults_eq n) ?_
  simp only [if_true, bne_self_eq_false]
  unfold replicaB primaryB
  cases hp : panelI n
  · refine Ev.step (fun k => ?_) five
    simp only [sextonlaw06_PanelWho.j0, Bool.false_eq_true, if_false, Bool.false_and]
    rfl
  · have hr := round_pos hp
    have e0 : ¬ n / 2 < 0 := by omega
    have tail : ∀ b, b = false → Ev (fun k => sextonlaw06_PanelWho.j1 k n view (if panelI n && viewB view then (view % (n / 2 + 1), (0 : Int)) else (0, 1)).1 (if panelI n && viewB view then (view % (n / 2 + 1), (0 : Int)) else (0, 1)).2 b) true := by
      intro b hb
      subst hb
      refine Ev.step (f := fun k => (sextonref06_Primary.f k n view).bind _) (fun k => by simp only [sextonlaw06_PanelWho.j1, Bool.false_eq_true, if_false]; rfl) ?_
      refine Ev.bind (ref_primary_eq n view) ?_
      rw [hp]
      cases hv : viewB view
      · simpa using five
      · have q0 := Int.emod_nonneg view (b := n / 2 + 1) (by omega)
        have q1 : ¬ view % (n / 2 + 1) < 0 := by omega
        simp only [Bool.and_self, if_true, q1, if_false]
        simpa [q0] using five
    rw [hp] at tail
    simp only [if_true, Bool.true_and] at tail ⊢
    by_cases h1 : node ≥ 0
    · have hd : decide (0 ≤ node ∧ node < n) = decide (node < n) := by
        have : 0 ≤ node := h1
        simp [this]
      rw [hd]
      by_cases h2 : node < n
      · refine Ev.step (fun k => ?_) (tail false rfl)
        simp only [sextonlaw06_PanelWho.j0, Bool.false_eq_true, if_false, e0, if_true, h1, decide_eq_true h2]
        simp
      · have h3 : ¬ node ≤ n / 2 := by
          rcases panel_cases hp with e | e | e | e <;> subst e <;> omega
        refine Ev.step (fun k => ?_) (tail false rfl)
        simp only [sextonlaw06_PanelWho.j0, Bool.false_eq_true, if_false, e0, if_true, h1, decide_eq_false h2, decide_eq_false h3]
        simp
    · have h2 : ¬ (0 ≤ node ∧ node < n) := by omega
      refine Ev.step (fun k => ?_) (tail false rfl)
      simp only [sextonlaw06_PanelWho.j0, Bool.false_eq_true, if_false, e0, if_true, h1]
      simp

end Go.Proofs.Ytipeleefbaalpaa.Pure
