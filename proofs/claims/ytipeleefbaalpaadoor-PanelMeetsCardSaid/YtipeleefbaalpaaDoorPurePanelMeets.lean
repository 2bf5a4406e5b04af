/- Enough and enough have a node in common, and each that is enough has a replica in it: for every number of nodes and all sets; the library's table of zero bits lies as its initialiser laid it. -/
import Derived.Test.YtipeleefbaalpaaDoorPPanelMeetsx2
import Derived.Test.YtipeleefbaalpaaDoorWSized
/-- The printed row names this word without its seat's prefix. -/
theorem Go.Proofs.YtipeleefbaalpaaDoor.PrintWords.sized_ints : type_of% @Go.Proofs.YtipeleefbaalpaaDoorW.PrintWords.sized_ints := @Go.Proofs.YtipeleefbaalpaaDoorW.PrintWords.sized_ints
namespace Go.Proofs.YtipeleefbaalpaaDoor.Pure
open Go.RowKit Go.Proofs.YtipeleefbaalpaaDoor.PPanelMeets Go.Proofs.YtipeleefbaalpaaDoorW.PrintWords Go.Proofs.YtipeleefbaalpaaDoorW.PrintLast Go.Proofs.YtipeleefbaalpaaDoorW.PrintMore Go.Proofs.YtipeleefbaalpaaDoor.Ext

theorem rd_at (l : List Int) (j : Nat) (h : j < l.length) : rd l (j : Int) = l[j] := by
  simp [rd, List.getD, h]
theorem w_succ (j : Nat) (h : j < 140737488351233) : wrap64 ((j : Int) + 1) = ((j + 1 : Nat) : Int) := by
  unfold wrap64; omega
theorem pred_of (k n : Nat) (h : n < k) : ∃ m, k = m + 1 := ⟨k - 1, by omega⟩

theorem mid_count (s : List Int) (hs : s.Pairwise (· ≤ ·)) (f : Nat) (hf : f < s.length) : s.length - f ≤ s.countP (fun x => decide (s[f] ≤ x)) := by
  have h1 : (s.drop f).countP (fun x => decide (s[f] ≤ x)) = (s.drop f).length := by
    rw [List.countP_eq_length]
    intro a ha
    obtain ⟨i, hi, rfl⟩ := List.getElem_of_mem ha
    rw [List.getElem_drop]
    rw [List.length_drop] at hi
    rcases Nat.eq_zero_or_pos i with rfl | h0
    · simp
    · exact decide_eq_true (List.pairwise_iff_getElem.1 hs f (f + i) hf (by omega) (by omega))
  have h2 : s.countP (fun x => decide (s[f] ≤ x)) = (s.take f).countP (fun x => decide (s[f] ≤ x)) + (s.drop f).countP (fun x => decide (s[f] ≤ x)) := by
    rw [← List.countP_append, List.take_append_drop]
  rw [h2, h1, List.length_drop]; omega
theorem mid_max (s : List Int) (hs : s.Pairwise (· ≤ ·)) (f : Nat) (hf : f < s.length) (a : Int) (ha : s[f] < a) : s.countP (fun x => decide (a ≤ x)) ≤ s.length - (f + 1) := by
  have h1 : (s.take (f + 1)).countP (fun x => decide (a ≤ x)) = 0 := by
    rw [List.countP_eq_zero]
    intro x hx
    obtain ⟨i, hi, rfl⟩ := List.getElem_of_mem hx
    rw [List.getElem_take]
    rw [List.length_take] at hi
    have : s[i] ≤ s[f] := by
      rcases Nat.lt_or_ge i f with h | h
      · exact List.pairwise_iff_getElem.1 hs i f (by omega) hf h
      · have : i = f := by omega
        subst this; omega
    simp; omega
  have h2 : s.countP (fun x => decide (a ≤ x)) = (s.take (f + 1)).countP (fun x => decide (a ≤ x)) + (s.drop (f + 1)).countP (fun x => decide (a ≤ x)) := by
    rw [← List.countP_append, List.take_append_drop]
  have h3 := List.countP_le_length (p := fun x => decide (a ≤ x)) (l := s.drop (f + 1))
  rw [List.length_drop] at h3
  rw [h2, h1]; omega
theorem sorted_pw (l : List Int) : (sorted l).Pairwise (· ≤ ·) := by
  have := List.pairwise_mergeSort (le := fun x y : Int => decide (x ≤ y)) (fun a b c h1 h2 => by simp at *; omega) (fun a b => by simp; omega) l
  exact this.imp (fun h => by simpa using h)
theorem sorted_perm (l : List Int) : (sorted l).Perm l := List.mergeSort_perm _ _
theorem sorted_len (l : List Int) : (sorted l).length = l.length := (sorted_perm l).length_eq
theorem sorted_five : sorted [4, 9, 2, 7, 1] = [1, 2, 4, 7, 9] := by simp [sorted, List.mergeSort, List.MergeSort.Internal.splitInTwo]
theorem sorted_count (l : List Int) (p : Int → Bool) : (sorted l).countP p = l.countP p := (sorted_perm l).countP_eq p
/-- The middle one of an odd number: enough have it, not enough have more, and it is one of them. -/
theorem mid_all (l : List Int) (f : Nat) (h : l.length = 2 * f + 1) : ∃ m : Int, rd (sorted l) (f : Int) = m ∧ m ∈ l ∧ f + 1 ≤ l.countP (fun x => decide (m ≤ x)) ∧ ∀ a : Int, m < a → l.countP (fun x => decide (a ≤ x)) ≤ f := by
  have hl := sorted_len l
  have hf : f < (sorted l).length := by omega
  refine ⟨(sorted l)[f], rd_at _ _ hf, (sorted_perm l).mem_iff.1 (List.getElem_mem hf), ?_, fun a ha => ?_⟩
  · have := mid_count (sorted l) (sorted_pw l) f hf
    rw [sorted_count] at this; omega
  · have := mid_max (sorted l) (sorted_pw l) f hf a ha
    rw [sorted_count] at this; omega

theorem panel_nat {n : Int} (h : panelI n = true) : ∃ f : Nat, f ≤ 3 ∧ n = 2 * (f : Int) + 1 ∧ n / 2 = f := by
  rcases panel_cases h with rfl | rfl | rfl | rfl
  · exact ⟨0, by decide⟩
  · exact ⟨1, by decide⟩
  · exact ⟨2, by decide⟩
  · exact ⟨3, by decide⟩
theorem panel_not {n : Int} (h : panelI n = false) : n ≠ 1 ∧ n ≠ 3 ∧ n ≠ 5 ∧ n ≠ 7 := by
  simp [panelI] at h; omega
theorem asked0_eq (n : Int) (k : Nat) : panel_asked.f k 0 n 0 = some (if panelI n then 0 else 1) := by
  unfold panel_asked.f
  rw [if_neg (by decide)]
  cases h : panelI n
  · obtain ⟨h1, h3, h5, h7⟩ := panel_not h
    rw [if_neg h1, if_neg h3, if_neg h5, if_neg h7]; rfl
  · rcases panel_cases h with rfl | rfl | rfl | rfl <;> rfl
def viewB (v : Int) : Bool := decide (0 ≤ v) && decide (v ≤ 1099511627776)
theorem asked1_eq (n v : Int) (k : Nat) : panel_asked.f (k + 1) 1 n v = some (if panelI n && viewB v then 0 else 1) := by
  unfold panel_asked.f
  rw [if_pos rfl]
  cases h : panelI n
  · obtain ⟨h1, h3, h5, h7⟩ := panel_not h
    simp only [panel_asked.j0]
    rw [if_neg h1, if_neg h3, if_neg h5, if_neg h7, if_neg h1, if_neg h3, if_neg h5, if_neg h7]; rfl
  · have hv : viewB v = (if v < 0 then false else decide (v ≤ 1099511627776)) := by
      unfold viewB; split
      · have : ¬ 0 ≤ v := by omega
        simp [this]
      · have : 0 ≤ v := by omega
        simp [this]
    rw [hv]
    rcases panel_cases h with rfl | rfl | rfl | rfl
    all_goals
      simp only [panel_asked.j0]
      by_cases h0 : v < 0
      · simp [h0]
      · by_cases h9 : v ≤ 1099511627776
        · have : ¬ v > 1099511627776 := by omega
          simp [h0, h9]
        · have : v > 1099511627776 := by omega
          simp [h0, h9]
theorem faults_eq (n : Int) (k : Nat) : panel_Faults.f k n = some (if panelI n then (n / 2, 0) else (0, 1)) := by
  unfold panel_Faults.f
  rw [asked0_eq]
  cases h : panelI n
  · rfl
  · rcases panel_cases h with rfl | rfl | rfl | rfl <;> decide +kernel
theorem round_eq {n : Int} (h : panelI n = true) : wrap64 (wrap64 (Int.tdiv n 2) + 1) = n / 2 + 1 := by
  rcases panel_cases h with rfl | rfl | rfl | rfl <;> decide +kernel
theorem round_pos {n : Int} (h : panelI n = true) : 1 ≤ n / 2 + 1 ∧ n / 2 + 1 ≤ 4 := by
  rcases panel_cases h with rfl | rfl | rfl | rfl <;> decide
def primaryB (n v : Int) : Int × Int := if panelI n && viewB v then (v % (n / 2 + 1), 0) else (0, 1)
theorem primary_eq (n v : Int) (k : Nat) : panel_Primary.f (k + 1) n v = some (primaryB n v) := by
  unfold panel_Primary.f primaryB
  rw [asked1_eq]
  cases h : panelI n
  · rfl
  · cases h2 : viewB v
    · rfl
    · have hv : 0 ≤ v := by simp [viewB] at h2; omega
      have hr := round_pos h
      simp only [Option.bind_some, Bool.and_self, if_true, round_eq h]
      rw [if_neg (by omega), Int.tmod_eq_emod_of_nonneg hv]

theorem reached_five : reachedB 5 [4, 9, 2, 7, 1] = (4, 0) := by
  unfold reachedB
  rw [sorted_five]
  decide +kernel
theorem five_ok (k : Nat) : sextonlaw06_five.f (k + 1) = some true := by
  unfold sextonlaw06_five.f panel_Reached.f
  rw [faults_eq, primary_eq, reached_five]
  decide +kernel

def nodesN (n s : Nat) : List Int := ((List.range n).filter fun i => s.testBit i).map fun i : Nat => (i : Int)
def setCheck (n top : Nat) : Bool := (List.range top).all fun s => decide (panel_Nodes.l0 9 [] (s : Int) = some (nodesN n s, 0)) && decide (bits_OnesCount.f (s : Int) = some ((nodesN n s).length : Int))
theorem set_check1 : setCheck 1 2 = true := by decide +kernel
theorem set_check3 : setCheck 3 8 = true := by decide +kernel
theorem set_check5 : setCheck 5 32 = true := by decide +kernel
theorem set_check7 : setCheck 7 128 = true := by decide +kernel
def topI (n : Int) : Nat := if n = 1 then 2 else if n = 3 then 8 else if n = 5 then 32 else 128
theorem set_facts {n : Int} (hp : panelI n = true) (s : Nat) (h : s < topI n) : panel_Nodes.l0 9 [] (s : Int) = some (nodesN n.toNat s, 0) ∧ bits_OnesCount.f (s : Int) = some ((nodesN n.toNat s).length : Int) := by
  have key : ∀ m top : Nat, setCheck m top = true → s < top → panel_Nodes.l0 9 [] (s : Int) = some (nodesN m s, 0) ∧ bits_OnesCount.f (s : Int) = some ((nodesN m s).length : Int) := by
    intro m top hc hs
    have := List.all_eq_true.1 hc s (List.mem_range.2 hs)
    simp only [Bool.and_eq_true, decide_eq_true_eq] at this
    exact this
  rcases panel_cases hp with rfl | rfl | rfl | rfl
  · exact key 1 2 set_check1 h
  · exact key 3 8 set_check3 h
  · exact key 5 32 set_check5 h
  · exact key 7 128 set_check7 h
theorem shl_top {n : Int} (hp : panelI n = true) : shl .i64 1 n = (topI n : Int) ∧ topI n ≤ 128 ∧ 0 ≤ n ∧ n ≤ 7 := by
  rcases panel_cases hp with rfl | rfl | rfl | rfl <;> decide +kernel
def setOk (n s : Int) : Bool := panelI n && decide (0 ≤ s ∧ s < (topI n : Int))
def enoughB (n s : Int) : Bool × Int := if setOk n s then (decide (((nodesN n.toNat s.toNat).length : Int) > n / 2), 0) else (false, 1)
theorem u64_nat (s : Nat) (h : s < 128) : IntKind.u64.wrap (s : Int) = (s : Int) := by rw [IntKind.wrap_u64]; omega
theorem enough_eq (n s : Int) (k : Nat) : panel_Enough.f k n s = some (enoughB n s) := by
  unfold panel_Enough.f enoughB setOk
  rw [faults_eq]
  cases hp : panelI n
  · rfl
  · obtain ⟨h1, h2, h3, h4⟩ := shl_top hp
    simp only [Option.bind_some, if_true, Bool.true_and]
    by_cases h0 : s < 0
    · have e : ¬ (0 ≤ s ∧ s < (topI n : Int)) := by omega
      rw [if_pos h0, if_neg (by simpa using e)]
    · rw [if_neg h0, if_pos h3, h1]
      by_cases h9 : s ≥ (topI n : Int)
      · have e : ¬ (0 ≤ s ∧ s < (topI n : Int)) := by omega
        rw [if_pos h9, if_neg (by simpa using e)]
      · have e : 0 ≤ s ∧ s < (topI n : Int) := by omega
        obtain ⟨m, rfl⟩ : ∃ m : Nat, s = m := ⟨s.toNat, by omega⟩
        rw [if_neg h9, if_pos (by simpa using e), u64_nat m (by omega), (set_facts hp m (by omega)).2]
        simp
def nodesB (n s : Int) : List Int × Int := if setOk n s then (nodesN n.toNat s.toNat, 0) else ([], 1)
theorem nodes_eq (n s : Int) : Ev (fun k => panel_Nodes.f k n s) (nodesB n s) := by
  unfold panel_Nodes.f nodesB
  refine Ev.bind (a := enoughB n s) ⟨0, fun k _ => enough_eq n s k⟩ ?_
  unfold enoughB
  cases h : setOk n s
  · exact Ev.now _
  · simp only [setOk, Bool.and_eq_true, decide_eq_true_eq] at h
    obtain ⟨hp, h0, h9⟩ := h
    obtain ⟨_, h2, _, _⟩ := shl_top hp
    obtain ⟨m, rfl⟩ : ∃ m : Nat, s = m := ⟨s.toNat, by omega⟩
    simp only [if_true]
    rw [u64_nat m (by omega)]
    have hf := (set_facts hp m (by omega)).1
    rw [Int.toNat_natCast]
    exact Ev.of (fun k => panel_Nodes.mono_l k _ _) hf

theorem count_apart {α : Type} (p q : α → Bool) : ∀ l : List α, (∀ x ∈ l, p x = true → q x = true → False) → l.countP p + l.countP q ≤ l.length
  | [], _ => by simp
  | x :: r, h => by
    have ih := count_apart p q r (fun y hy => h y (List.mem_cons_of_mem _ hy))
    simp only [List.countP_cons, List.length_cons]
    have hx := h x (List.mem_cons_self ..)
    cases hp : p x <;> cases hq : q x
    · simp; omega
    · simp; omega
    · simp; omega
    · exact absurd (hx hp hq) not_false
theorem nodes_len (n s : Nat) : (nodesN n s).length = (List.range n).countP (fun i => s.testBit i) := by
  unfold nodesN; rw [List.length_map, List.countP_eq_length_filter]
theorem mem_nodes {n s : Nat} {x : Int} : x ∈ nodesN n s ↔ ∃ i : Nat, i < n ∧ s.testBit i = true ∧ x = i := by
  unfold nodesN
  simp only [List.mem_map, List.mem_filter, List.mem_range]
  constructor
  · rintro ⟨i, ⟨h1, h2⟩, rfl⟩; exact ⟨i, h1, h2, rfl⟩
  · rintro ⟨i, h1, h2, rfl⟩; exact ⟨i, ⟨h1, h2⟩, rfl⟩
/-- Enough and enough have a node in common. -/
theorem common_node {f a b : Nat} (ha : f < (nodesN (2 * f + 1) a).length) (hb : f < (nodesN (2 * f + 1) b).length) :
    (nodesN (2 * f + 1) a).any (fun x => (nodesN (2 * f + 1) b).any fun y => x == y) = true := by
  rcases Bool.eq_false_or_eq_true ((nodesN (2 * f + 1) a).any fun x => (nodesN (2 * f + 1) b).any fun y => x == y) with h | h
  · exact h
  · exfalso
    rw [nodes_len] at ha hb
    have := count_apart (fun i => a.testBit i) (fun i => b.testBit i) (List.range (2 * f + 1)) (fun i hi h1 h2 => by
      have hi := List.mem_range.1 hi
      have q := List.any_eq_false.1 h (i : Int) (mem_nodes.2 ⟨i, hi, h1, rfl⟩)
      apply q
      exact List.any_eq_true.2 ⟨(i : Int), mem_nodes.2 ⟨i, hi, h2, rfl⟩, by simp⟩)
    rw [List.length_range] at this
    omega
/-- Enough have a replica in them. -/
theorem has_replica {f a : Nat} (hf : f ≤ 3) (ha : f < (nodesN (2 * f + 1) a).length) : (nodesN (2 * f + 1) a).any (fun x => decide (x ≤ (f : Int))) = true := by
  rcases Bool.eq_false_or_eq_true ((nodesN (2 * f + 1) a).any fun x => decide (x ≤ (f : Int))) with h | h
  · exact h
  · exfalso
    rw [nodes_len] at ha
    have h2 := count_apart (fun i => a.testBit i) (fun i => decide (i ≤ f)) (List.range (2 * f + 1)) (fun i hi h1 h2 => by
      have hi := List.mem_range.1 hi
      have q := List.any_eq_false.1 h (i : Int) (mem_nodes.2 ⟨i, hi, h1, rfl⟩)
      simp at h2 q
      omega)
    have h3 : (List.range (2 * f + 1)).countP (fun i => decide (i ≤ f)) = f + 1 := by
      have : f = 0 ∨ f = 1 ∨ f = 2 ∨ f = 3 := by omega
      rcases this with rfl | rfl | rfl | rfl <;> decide
    rw [List.length_range, h3] at h2
    omega
theorem meets_in (n : Int) (y rp : Bool) (m : List Int) (c18 : Int) (l : List Int) (i : Nat) (hm : m.length ≤ 7) (hi : i < l.length) (hl : l.length ≤ 7) (r : Bool) (d : Nat) : ∀ (j : Nat) (c : Bool), j ≤ m.length → m.length - j = d →
    (∀ c', c' = (c || (m.drop j).any fun z => c18 == z) → Ev (fun k => sextonlaw06_PanelMeets.l0 k n y m rp c' l (l.length : Int) ((i + 1 : Nat) : Int)) r) →
    Ev (fun k => sextonlaw06_PanelMeets.l1 k n y m rp c c18 l (l.length : Int) (i : Int) m (m.length : Int) (j : Int)) r := by
  induction d with
  | zero =>
    intro j c hj hd H
    refine Ev.step (fun k => ?_) (H c (by rw [List.drop_of_length_le (by omega)]; simp))
    simp only [sextonlaw06_PanelMeets.l1]
    rw [if_neg (by omega), w_succ i (by omega)]
  | succ d ih =>
    intro j c hj hd H
    have hlt : j < m.length := by omega
    rw [List.drop_eq_getElem_cons hlt, List.any_cons] at H
    refine Ev.step (fun k => ?_) (ih (j + 1) (c || c18 == m[j]) (by omega) (by omega) (fun c' hc' => H c' (by rw [hc', Bool.or_assoc])))
    simp only [sextonlaw06_PanelMeets.l1]
    rw [if_pos (by omega), if_pos (by omega), if_pos (by omega), rd_at m j hlt, w_succ j (by omega)]
    cases c
    · rw [if_neg (by decide)]; rfl
    · rw [if_pos rfl]; rfl
theorem meets_out (n : Int) (y : Bool) (l m : List Int) (hp : panelI n = true) (hl : l.length ≤ 7) (hm : m.length ≤ 7) (hin : ∀ x ∈ l, 0 ≤ x ∧ x < n) (d : Nat) : ∀ (i : Nat) (a c : Bool), i ≤ l.length → l.length - i = d →
    (a || (l.drop i).any fun x => decide (x ≤ n / 2)) = true → (y = true → (c || (l.drop i).any fun x => m.any fun z => x == z) = true) →
    Ev (fun k => sextonlaw06_PanelMeets.l0 k n y m a c l (l.length : Int) (i : Int)) true := by
  have five : Ev (fun k => (sextonlaw06_five.f k).bind fun t => some t) true := Ev.step (f := fun _ => some true) (fun k => by rw [five_ok]; rfl) (Ev.now _)
  induction d with
  | zero =>
    intro i a c hi hd h1 h2
    rw [List.drop_of_length_le (by omega)] at h1 h2
    have ha : a = true := by simpa using h1
    subst ha
    refine Ev.step (fun k => ?_) five
    simp only [sextonlaw06_PanelMeets.l0]
    rw [if_neg (by omega), if_pos trivial]
    cases y
    · rfl
    · have hc : c = true := by simpa using h2 rfl
      subst hc; rfl
  | succ d ih =>
    intro i a c hi hd h1 h2
    have hlt : i < l.length := by omega
    rw [List.drop_eq_getElem_cons hlt] at h1 h2
    simp only [List.any_cons] at h1 h2
    obtain ⟨x0, x1⟩ := hin l[i] (List.getElem_mem hlt)
    have hrep : ∀ k, panel_Replica.f k n l[i] = some (decide (l[i] ≤ n / 2), 0) := by
      intro k
      unfold panel_Replica.f
      rw [faults_eq, hp]
      simp only [Option.bind_some, if_true]
      rw [if_neg (by omega), if_neg (by omega)]
    refine Ev.step (f := fun k => sextonlaw06_PanelMeets.j3 k n y m (a || decide (l[i] ≤ n / 2)) c l[i] l (l.length : Int) (i : Int)) (fun k => ?_) ?_
    · simp only [sextonlaw06_PanelMeets.l0]
      rw [if_pos (by omega), if_pos (by omega), if_pos (by omega), rd_at l i hlt, hrep]
      cases a
      · simp
      · simp
    · refine Ev.step (fun k => by simp only [sextonlaw06_PanelMeets.j3]; rfl) (meets_in n y _ m l[i] l i hm hlt hl true m.length 0 c (by omega) (by omega) (fun c' hc' => ?_))
      refine ih (i + 1) _ c' (by omega) (by omega) (by rw [← h1, Bool.or_assoc]) (fun hy => ?_)
      rw [hc', List.drop_zero, Bool.or_assoc]
      exact h2 hy
theorem nodes_short (n s : Nat) : (nodesN n s).length ≤ n := by
  unfold nodesN
  rw [List.length_map]
  exact Nat.le_trans (List.length_filter_le _ _) (by simp)
theorem PanelMeets : sextonlaw06_PanelMeets.Pure := by
  intro n a b _ _ _
  refine Ev.rounds ?_
  unfold sextonlaw06_PanelMeets.f
  have five : Ev (fun k => (sextonlaw06_five.f k).bind fun t => some t) true := Ev.step (f := fun _ => some true) (fun k => by rw [five_ok]; rfl) (Ev.now _)
  have over : ∀ x1 x2 x9, Ev (fun k => sextonlaw06_PanelMeets.j0 k n x1 x2 x9 true) true := fun x1 x2 x9 => Ev.step (fun k => by simp only [sextonlaw06_PanelMeets.j0, if_true]) five
  refine Ev.bind (a := enoughB n a) ⟨0, fun k _ => enough_eq n a k⟩ ?_
  refine Ev.bind (a := enoughB n b) ⟨0, fun k _ => enough_eq n b k⟩ ?_
  cases ha : setOk n a
  · have e : enoughB n a = (false, 1) := by unfold enoughB; rw [ha]; rfl
    rw [e]; exact over _ _ _
  · cases hb : setOk n b
    · have e : enoughB n b = (false, 1) := by unfold enoughB; rw [hb]; rfl
      have e2 : (enoughB n a).2 = 0 := by unfold enoughB; rw [ha]; rfl
      rw [e, e2]; exact over _ _ _
    · have hp : panelI n = true := by simp only [setOk, Bool.and_eq_true] at ha; exact ha.1
      obtain ⟨f, hf, hn, h2⟩ := panel_nat hp
      have hnf : n.toNat = 2 * f + 1 := by omega
      unfold enoughB
      rw [ha, hb, hnf, h2]
      simp only [if_true]
      by_cases hea : ((nodesN (2 * f + 1) a.toNat).length : Int) > (f : Int)
      · simp only [decide_eq_true hea, Bool.not_true]
        refine Ev.step (f := fun k => (panel_Nodes.f k n a).bind fun x => (panel_Nodes.f k n b).bind fun z => _) (fun k => by simp only [sextonlaw06_PanelMeets.j0, Bool.false_eq_true, if_false]; rfl) ?_
        refine Ev.bind (nodes_eq n a) (Ev.bind (nodes_eq n b) ?_)
        unfold nodesB
        rw [ha, hb, hnf]
        simp only [if_true]
        have la := nodes_short (2 * f + 1) a.toNat
        have lb := nodes_short (2 * f + 1) b.toNat
        refine Ev.step (fun k => by simp only [sextonlaw06_PanelMeets.j1, bne_self_eq_false, Bool.false_eq_true, if_false]; rfl) (meets_out n _ (nodesN (2 * f + 1) a.toNat) (nodesN (2 * f + 1) b.toNat) hp (by omega) (by omega) (fun x hx => ?_) _ 0 false false (by omega) rfl ?_ (fun hy => ?_))
        · obtain ⟨i, hi, _, rfl⟩ := mem_nodes.1 hx
          omega
        · rw [List.drop_zero, Bool.false_or, h2]
          exact has_replica hf (by omega)
        · rw [List.drop_zero, Bool.false_or]
          have : ((nodesN (2 * f + 1) b.toNat).length : Int) > (f : Int) := by simpa using hy
          exact common_node (by omega) (by omega)
      · simp only [decide_eq_false hea, Bool.not_false]
        exact over _ _ _

end Go.Proofs.YtipeleefbaalpaaDoor.Pure
