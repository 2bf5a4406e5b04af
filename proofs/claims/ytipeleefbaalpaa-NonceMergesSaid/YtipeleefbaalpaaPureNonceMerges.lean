/- What merging two vectors gives, whose nonces grew, and which covers which: for all vectors a, b the program's Merge and Covers answer as the reference does; no condition. -/
import Derived.Test.YtipeleefbaalpaaPNonceMergesx3
import Derived.Test.YtipeleefbaalpaaWSized
/-- The printed row names this word without its seat's prefix. -/
theorem Go.Proofs.Ytipeleefbaalpaa.PrintWords.sized_ints : type_of% @Go.Proofs.YtipeleefbaalpaaW.PrintWords.sized_ints := @Go.Proofs.YtipeleefbaalpaaW.PrintWords.sized_ints
namespace Go.Proofs.Ytipeleefbaalpaa.Pure
open Go.RowKit Go.Proofs.Ytipeleefbaalpaa.PNonceMerges Go.Proofs.YtipeleefbaalpaaW.PrintWords Go.Proofs.YtipeleefbaalpaaW.PrintLast Go.Proofs.YtipeleefbaalpaaW.PrintMore

theorem rd_at (l : List Int) (j : Nat) (h : j < l.length) : rd l (j : Int) = l[j] := by
  simp [rd, List.getD, h]
theorem w_succ (j : Nat) (h : j < 140737488351233) : wrap64 ((j : Int) + 1) = ((j + 1 : Nat) : Int) := by
  unfold wrap64; omega
theorem pred_of (k n : Nat) (h : n < k) : ∃ m, k = m + 1 := ⟨k - 1, by omega⟩

def okB (x : Int) : Bool := decide (0 ≤ x) && decide (x ≤ 1099511627776)
def panelB (n : Nat) : Bool := n == 1 || n == 3 || n == 5 || n == 7
def rightB (l : List Int) : Bool := panelB l.length && l.all okB
theorem nonce_panel_eq (n : Nat) : nonce_panel.f (n : Int) = some (panelB n) := by
  have h : n = 0 ∨ n = 1 ∨ n = 2 ∨ n = 3 ∨ n = 4 ∨ n = 5 ∨ n = 6 ∨ n = 7 ∨ 8 ≤ n := by omega
  rcases h with rfl | rfl | rfl | rfl | rfl | rfl | rfl | rfl | h
  all_goals first
    | rfl
    | (unfold nonce_panel.f
       rw [if_pos (by omega), if_neg (by omega)]
       have e : panelB n = false := by simp [panelB]; omega
       rw [e])
theorem nonce_check_l (l : List Int) (hl : l.length ≤ 140737488351232) (d : Nat) : ∀ (k j : Nat) (b : Bool), j ≤ l.length → l.length - j = d → d < k →
    nonce_Check.l0 k b l (l.length : Int) (j : Int) = some (if b && (l.drop j).all okB then 0 else 4) := by
  induction d with
  | zero =>
    intro k j b hj hd hk
    obtain ⟨k, rfl⟩ := pred_of k _ hk
    simp only [nonce_Check.l0]
    rw [if_neg (by omega), List.drop_of_length_le (by omega)]
    cases b <;> simp
  | succ d ih =>
    intro k j b hj hd hk
    obtain ⟨k, rfl⟩ := pred_of k _ hk
    have hlt : j < l.length := by omega
    have hi := fun b => ih k (j + 1) b (by omega) (by omega) (by omega)
    simp only [nonce_Check.l0]
    rw [if_pos (by omega), if_pos (by omega), if_pos (by omega), rd_at l j hlt, w_succ j (by omega), hi, hi, List.drop_eq_getElem_cons hlt, List.all_cons]
    cases b
    · simp
    · by_cases h : l[j] ≥ 0
      · have h' : decide (0 ≤ l[j]) = true := decide_eq_true h
        rw [if_pos rfl, if_pos h]; simp [okB, h]
      · rw [if_pos rfl, if_neg h]; have : ¬ 0 ≤ l[j] := h; simp [okB, this]
theorem nonce_check_eq (l : List Int) (hl : l.length ≤ 140737488351232) (k : Nat) (hk : l.length < k) :
    nonce_Check.f k l = some (if rightB l then 0 else 4) := by
  unfold nonce_Check.f
  rw [nonce_panel_eq]
  simp only [Option.bind_some]
  have := nonce_check_l l hl l.length k 0 (panelB l.length) (by omega) (by omega) hk
  simp only [List.drop_zero] at this
  exact this

def bothB (a b : List Int) : Bool := rightB a && rightB b && (a.length == b.length)
theorem nonce_both_eq (a b : List Int) (ha : a.length ≤ 140737488351232) (hb : b.length ≤ 140737488351232) (k : Nat) (hk : a.length + b.length < k) :
    nonce_both.f k a b = some (if bothB a b then 0 else 4) := by
  unfold nonce_both.f
  rw [nonce_check_eq a ha k (by omega), nonce_check_eq b hb k (by omega)]
  unfold bothB
  cases rightB a
  · simp
  · cases rightB b
    · simp
    · by_cases h : a.length = b.length
      · simp [h]
      · have h' : ¬ ((a.length : Int) = (b.length : Int)) := by omega
        simp [h, h']

theorem ref20_panel_eq (n : Nat) : sextonref20_Panel.f (n : Int) = some (panelB n) := by
  unfold sextonref20_Panel.f panelB
  by_cases h1 : n = 1
  · subst h1; rfl
  · by_cases h3 : n = 3
    · subst h3; rfl
    · by_cases h5 : n = 5
      · subst h5; rfl
      · rw [if_neg (by omega), if_neg (by omega), if_neg (by omega)]
        by_cases h7 : n = 7
        · subst h7; rfl
        · have e : ((n : Int) == 7) = false := by simp; omega
          rw [e]; simp [h1, h3, h5, h7]
theorem ref20_right_l (l : List Int) (hl : l.length ≤ 140737488351232) (d : Nat) : ∀ (k j : Nat), j ≤ l.length → l.length - j = d → d < k →
    sextonref20_Right.l0 k l l (l.length : Int) (j : Int) = some (panelB l.length && (l.drop j).all okB) := by
  induction d with
  | zero =>
    intro k j hj hd hk
    obtain ⟨k, rfl⟩ := pred_of k _ hk
    simp only [sextonref20_Right.l0]
    rw [if_neg (by omega), List.drop_of_length_le (by omega), ref20_panel_eq]
    simp
  | succ d ih =>
    intro k j hj hd hk
    obtain ⟨k, rfl⟩ := pred_of k _ hk
    have hlt : j < l.length := by omega
    have hi := ih k (j + 1) (by omega) (by omega) (by omega)
    simp only [sextonref20_Right.l0]
    rw [if_pos (by omega), if_pos (by omega), if_pos (by omega), rd_at l j hlt, w_succ j (by omega), hi, List.drop_eq_getElem_cons hlt, List.all_cons]
    by_cases h : l[j] < 0
    · have : ¬ 0 ≤ l[j] := by omega
      rw [if_pos h]; simp [okB, this]
    · rw [if_neg h]
      by_cases h2 : l[j] > 1099511627776
      · have : ¬ l[j] ≤ 1099511627776 := by omega
        rw [if_pos h2]; simp [okB, this]
      · have a1 : 0 ≤ l[j] := by omega
        have a2 : l[j] ≤ 1099511627776 := by omega
        rw [if_neg h2]; simp [okB, a1, a2]
theorem ref20_right_eq (l : List Int) (hl : l.length ≤ 140737488351232) (k : Nat) (hk : l.length < k) :
    sextonref20_Right.f k l = some (rightB l) := by
  unfold sextonref20_Right.f
  have := ref20_right_l l hl l.length k 0 (by omega) (by omega) hk
  simp only [List.drop_zero] at this
  exact this

theorem three_ok (k : Nat) (hk : 9 ≤ k) : sextonlaw20_three.f k = some true :=
  at_rounds (fun k => sextonlaw20_three.mono k) hk (by decide +kernel : sextonlaw20_three.f 9 = some true)

theorem ints_l (a b : List Int) (ha : a.length ≤ 140737488351232) (d : Nat) : ∀ (k j : Nat), j ≤ a.length → j ≤ b.length → a.length - j = d → d < k →
    sextonplain_Ints.l0 k a b (a.length : Int) (j : Int) = some (decide (a.drop j = b.drop j)) := by
  induction d with
  | zero =>
    intro k j hj hb hd hk
    obtain ⟨k, rfl⟩ := pred_of k _ hk
    simp only [sextonplain_Ints.l0]
    rw [if_neg (by omega), List.drop_of_length_le (l := a) (by omega)]
    by_cases h : a.length = b.length
    · rw [List.drop_of_length_le (l := b) (by omega)]; simp [h]
    · have e : ([] : List Int) ≠ b.drop j := by
        intro e
        have := congrArg List.length e
        simp at this; omega
      have e2 : ((a.length : Int) == (b.length : Int)) = false := by simp; omega
      rw [e2]; simp [e]
  | succ d ih =>
    intro k j hj hb hd hk
    obtain ⟨k, rfl⟩ := pred_of k _ hk
    have hlt : j < a.length := by omega
    simp only [sextonplain_Ints.l0]
    rw [if_pos (by omega)]
    by_cases h : j < b.length
    · rw [if_neg (by omega), if_pos (by omega), if_pos (by omega), if_pos (by omega), rd_at a j hlt, rd_at b j h, List.drop_eq_getElem_cons hlt, List.drop_eq_getElem_cons h]
      by_cases e : a[j] = b[j]
      · rw [if_pos e, w_succ j (by omega), ih k (j + 1) (by omega) (by omega) (by omega) (by omega)]
        simp [-List.getElem_cons_drop, e]
      · rw [if_neg e]; simp [-List.getElem_cons_drop, e]
    · rw [if_pos (by omega), List.drop_eq_getElem_cons hlt, List.drop_of_length_le (l := b) (by omega)]
      simp [-List.getElem_cons_drop]
theorem ints_eq (a b : List Int) (ha : a.length ≤ 140737488351232) (k : Nat) (hk : a.length < k) :
    sextonplain_Ints.f k a b = some (decide (a = b)) := by
  unfold sextonplain_Ints.f
  have := ints_l a b ha a.length k 0 (by omega) (by omega) (by omega) hk
  simp only [List.drop_zero] at this
  exact this

def grewFrom : Nat → List Int → List Int → List Int
  | i, x :: xs, y :: ys => if y > x then (i : Int) :: grewFrom (i + 1) xs ys else grewFrom (i + 1) xs ys
  | _, _, _ => []
def mergeB (a b : List Int) : List Int × List Int × Int :=
  if bothB a b then (List.zipWith mx a b, grewFrom 0 a b, 0) else ([], [], 4)
theorem both_len {a b : List Int} (h : bothB a b = true) : a.length = b.length ∧ a.length ≤ 7 := by
  simp only [bothB, Bool.and_eq_true, beq_iff_eq] at h
  refine ⟨h.2, ?_⟩
  have := h.1.1
  simp [rightB, panelB] at this
  omega
theorem nonce_merge_l (a b : List Int) (hab : a.length = b.length) (ha : a.length ≤ 7) (d : Nat) : ∀ (k j : Nat) (out g : List Int), j ≤ a.length → out.length = a.length → g.length ≤ j → a.length - j = d → d < k →
    nonce_Merge.l0 k a b out g (a.length : Int) (j : Int) = some (out.take j ++ List.zipWith mx (a.drop j) (b.drop j), g ++ grewFrom j (a.drop j) (b.drop j), 0) := by
  induction d with
  | zero =>
    intro k j out g hj ho hg hd hk
    obtain ⟨k, rfl⟩ := pred_of k _ hk
    simp only [nonce_Merge.l0]
    rw [if_neg (by omega), List.drop_of_length_le (l := a) (by omega), List.take_of_length_le (by omega)]
    simp [grewFrom]
  | succ d ih =>
    intro k j out g hj ho hg hd hk
    obtain ⟨k, rfl⟩ := pred_of k _ hk
    have hlt : j < a.length := by omega
    have hltb : j < b.length := by omega
    simp only [nonce_Merge.l0]
    rw [if_pos (by omega), if_pos (by omega), if_pos (by omega), if_pos (by omega), if_pos (by omega), rd_at a j hlt, rd_at b j hltb, w_succ j (by omega)]
    simp only [Option.bind_some]
    rw [List.drop_eq_getElem_cons hlt, List.drop_eq_getElem_cons hltb]
    have ht : ∀ v : Int, (out.set (j : Int).toNat v).take (j + 1) = out.take j ++ [v] := by
      intro v
      rw [Int.toNat_natCast, List.take_succ_eq_append_getElem (by simp; omega), List.take_set_of_le (Nat.le_refl j)]
      simp
    by_cases h : b[j] > a[j]
    · rw [if_pos h, if_pos (by omega), ih k (j + 1) _ _ (by omega) (by simp; omega) (by simp; omega) (by omega) (by omega), ht]
      simp [-List.getElem_cons_drop, grewFrom, h]
    · rw [if_neg h, ih k (j + 1) _ _ (by omega) (by simp; omega) (by omega) (by omega) (by omega), ht]
      simp [-List.getElem_cons_drop, grewFrom, h]
theorem nonce_merge_eq (a b : List Int) (ha : a.length ≤ 140737488351232) (hb : b.length ≤ 140737488351232) (k : Nat) (hk : a.length + b.length < k) :
    nonce_Merge.f k a b = some (mergeB a b) := by
  unfold nonce_Merge.f mergeB
  rw [nonce_both_eq a b ha hb k hk]
  cases h : bothB a b
  · simp
  · obtain ⟨h1, h2⟩ := both_len h
    simp only [Option.bind_some, if_true]
    rw [if_pos (by omega), if_pos (by omega)]
    have := nonce_merge_l a b h1 h2 a.length k 0 (List.replicate (a.length : Int).toNat 0) [] (by omega) (by simp) (by simp) (by omega) (by omega)
    simpa using this

theorem ref20_merge_l (a b : List Int) (hab : a.length = b.length) (ha : a.length ≤ 7) (d : Nat) : ∀ (k j : Nat) (out g : List Int), j ≤ a.length → out.length ≤ j → g.length ≤ j → a.length - j = d → d < k →
    sextonref20_Merge.l0 k b out g a (a.length : Int) (j : Int) = some (out ++ List.zipWith mx (a.drop j) (b.drop j), g ++ grewFrom j (a.drop j) (b.drop j), 0) := by
  induction d with
  | zero =>
    intro k j out g hj ho hg hd hk
    obtain ⟨k, rfl⟩ := pred_of k _ hk
    simp only [sextonref20_Merge.l0]
    rw [if_neg (by omega), List.drop_of_length_le (l := a) (by omega)]
    simp [grewFrom]
  | succ d ih =>
    intro k j out g hj ho hg hd hk
    obtain ⟨k, rfl⟩ := pred_of k _ hk
    have hlt : j < a.length := by omega
    have hltb : j < b.length := by omega
    simp only [sextonref20_Merge.l0]
    rw [if_pos (by omega), if_pos (by omega), if_pos (by omega), if_pos (by omega), rd_at a j hlt, rd_at b j hltb, w_succ j (by omega)]
    rw [List.drop_eq_getElem_cons hlt, List.drop_eq_getElem_cons hltb]
    by_cases h : b[j] > a[j]
    · rw [if_pos h, if_pos (by omega), if_pos (by omega), ih k (j + 1) _ _ (by omega) (by simp; omega) (by simp; omega) (by omega) (by omega)]
      simp [-List.getElem_cons_drop, grewFrom, mx, h]
    · rw [if_neg h, if_pos (by omega), ih k (j + 1) _ _ (by omega) (by simp; omega) (by omega) (by omega) (by omega)]
      simp [-List.getElem_cons_drop, grewFrom, mx, h]
theorem ref20_merge_eq (a b : List Int) (ha : a.length ≤ 140737488351232) (hb : b.length ≤ 140737488351232) (k : Nat) (hk : a.length + b.length + 2 < k) :
    sextonref20_Merge.f k a b = some (mergeB a b) := by
  obtain ⟨m, rfl⟩ := pred_of k _ hk
  unfold sextonref20_Merge.f mergeB
  rw [ref20_right_eq a ha _ (by omega), ref20_right_eq b hb _ (by omega)]
  simp only [Option.bind_some, sextonref20_Merge.j0]
  cases h : bothB a b
  · unfold bothB at h
    cases ha' : rightB a
    · simp
    · cases hb' : rightB b
      · simp
      · rw [ha', hb'] at h
        have e : ((a.length : Int) != (b.length : Int)) = true := by simp at h ⊢; omega
        rw [e]; simp
  · obtain ⟨h1, h2⟩ := both_len h
    unfold bothB at h
    simp only [Bool.and_eq_true] at h
    have e : ((a.length : Int) != (b.length : Int)) = false := by simp; omega
    rw [h.1.1, h.1.2, e]
    simp only [if_true, Bool.false_eq_true, if_false]
    have := ref20_merge_l a b h1 h2 a.length m 0 [] [] (by omega) (by simp) (by simp) (by omega) (by omega)
    simpa using this

def coversB (a b : List Int) : Bool × Int := if bothB a b then (decide ((grewFrom 0 a b).length = 0), 0) else (false, 4)
theorem nonce_covers_eq (a b : List Int) (ha : a.length ≤ 140737488351232) (hb : b.length ≤ 140737488351232) (k : Nat) (hk : a.length + b.length < k) :
    nonce_Covers.f k a b = some (coversB a b) := by
  unfold nonce_Covers.f coversB
  rw [nonce_merge_eq a b ha hb k hk]
  unfold mergeB
  cases h : bothB a b
  · simp
  · simp
    by_cases e : grewFrom 0 a b = [] <;> simp [e]

theorem grew_len (a b : List Int) : ∀ i, (grewFrom i a b).length ≤ a.length := by
  induction a generalizing b with
  | nil => intro i; simp [grewFrom]
  | cons x xs ih =>
    intro i
    cases b with
    | nil => simp [grewFrom]
    | cons y ys =>
      simp only [grewFrom]
      have := ih ys (i + 1)
      by_cases h : y > x
      · rw [if_pos h]; simp; omega
      · rw [if_neg h]; simp; omega
theorem merge_small (a b : List Int) : (mergeB a b).1.length ≤ 7 ∧ (mergeB a b).2.1.length ≤ 7 := by
  unfold mergeB
  cases h : bothB a b
  · simp
  · obtain ⟨h1, h2⟩ := both_len h
    have := grew_len a b 0
    simp; omega
theorem NonceMerges : sextonlaw20_NonceMerges.Pure := by
  intro a b _ ha _ _ hb _
  refine ⟨a.length + b.length + 12, ?_⟩
  unfold sextonlaw20_NonceMerges.f
  obtain ⟨s1, s2⟩ := merge_small a b
  rw [nonce_merge_eq a b (by omega) (by omega) _ (by omega), ref20_merge_eq a b (by omega) (by omega) _ (by omega), nonce_covers_eq a b (by omega) (by omega) _ (by omega)]
  simp only [Option.bind_some]
  rw [ints_eq _ _ (by omega) _ (by omega), ints_eq _ _ (by omega) _ (by omega), three_ok _ (by omega)]
  unfold mergeB coversB
  cases h : bothB a b
  · simp
  · simp
    by_cases e : grewFrom 0 a b = [] <;> simp [e]

end Go.Proofs.Ytipeleefbaalpaa.Pure
