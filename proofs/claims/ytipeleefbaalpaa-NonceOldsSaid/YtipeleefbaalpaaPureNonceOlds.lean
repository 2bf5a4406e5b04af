/- What the vectors' oldness is: for all vectors v, said and every node, nonce.Old answers as the reference does; no condition. -/
import Derived.Test.YtipeleefbaalpaaPNonceOldsx3
import Derived.Test.YtipeleefbaalpaaWSized
/-- The printed row names this word without its seat's prefix. -/
theorem Go.Proofs.Ytipeleefbaalpaa.PrintWords.sized_ints : type_of% @Go.Proofs.YtipeleefbaalpaaW.PrintWords.sized_ints := @Go.Proofs.YtipeleefbaalpaaW.PrintWords.sized_ints
namespace Go.Proofs.Ytipeleefbaalpaa.Pure
open Go.RowKit Go.Proofs.Ytipeleefbaalpaa.PNonceOlds Go.Proofs.YtipeleefbaalpaaW.PrintWords Go.Proofs.YtipeleefbaalpaaW.PrintLast Go.Proofs.YtipeleefbaalpaaW.PrintMore

theorem rd_at (l : List Int) (j : Nat) (h : j < l.length) : rd l (j : Int) = l[j] := by
  simp [rd, List.getD, h]
theorem w_succ (j : Nat) (h : j < 140737488351233) : wrap64 ((j : Int) + 1) = ((j + 1 : Nat) : Int) := by
  unfold wrap64; omega
theorem pred_of (k n : Nat) (h : n < k) : ∃ m, k = m + 1 := ⟨k - 1, by omega⟩

def okB (x : Int) : Bool := decide (0 ≤ x) && decide (x ≤ 1099511627776)
def panelB (n : Nat) : Bool := n == 1 || n == 3 || n == 5 || n == 7
def rightB (l : List Int) : Bool := panelB l.length && l.all okB
theorem nonce_panel_eq (n : Nat) : nonce_panel.f (n : Int) = some (panelB n) := by
  have h : n = 0 ∨ n = 1 ∨ n = 2 ∨ n = 3 ∨ n = 4 ∨ n = 5 ∨ n = 6 ∨ n = 7 ∨ 8 ≤ n := by omega
  rcases h with rfl | rfl | rfl | rfl | rfl | rfl | rfl | rfl | h
  all_goals first
    | rfl
    | (unfold nonce_panel.f
       rw [if_pos (by omega), if_neg (by omega)]
       have e : panelB n = false := by simp [panelB]; omega
       rw [e])
theorem nonce_check_l (l : List Int) (hl : l.length ≤ 140737488351232) (d : Nat) : ∀ (k j : Nat) (b : Bool), j ≤ l.length → l.length - j = d → d < k →
    nonce_Check.l0 k b l (l.length : Int) (j : Int) = some (if b && (l.drop j).all okB then 0 else 4) := by
  induction d with
  | zero =>
    intro k j b hj hd hk
    obtain ⟨k, rfl⟩ := pred_of k _ hk
    simp only [nonce_Check.l0]
    rw [if_neg (by omega), List.drop_of_length_le (by omega)]
    cases b <;> simp
  | succ d ih =>
    intro k j b hj hd hk
    obtain ⟨k, rfl⟩ := pred_of k _ hk
    have hlt : j < l.length := by omega
    have hi := fun b => ih k (j + 1) b (by omega) (by omega) (by omega)
    simp only [nonce_Check.l0]
    rw [if_pos (by omega), if_pos (by omega), if_pos (by omega), rd_at l j hlt, w_succ j (by omega), hi, hi, List.drop_eq_getElem_cons hlt, List.all_cons]
    cases b
    · simp
    · by_cases h : l[j] ≥ 0
      · have h' : decide (0 ≤ l[j]) = true := decide_eq_true h
        rw [if_pos rfl, if_pos h]; simp [okB, h]
      · rw [if_pos rfl, if_neg h]; have : ¬ 0 ≤ l[j] := h; simp [okB, this]
theorem nonce_check_eq (l : List Int) (hl : l.length ≤ 140737488351232) (k : Nat) (hk : l.length < k) :
    nonce_Check.f k l = some (if rightB l then 0 else 4) := by
  unfold nonce_Check.f
  rw [nonce_panel_eq]
  simp only [Option.bind_some]
  have := nonce_check_l l hl l.length k 0 (panelB l.length) (by omega) (by omega) hk
  simp only [List.drop_zero] at this
  exact this

def bothB (a b : List Int) : Bool := rightB a && rightB b && (a.length == b.length)
theorem nonce_both_eq (a b : List Int) (ha : a.length ≤ 140737488351232) (hb : b.length ≤ 140737488351232) (k : Nat) (hk : a.length + b.length < k) :
    nonce_both.f k a b = some (if bothB a b then 0 else 4) := by
  unfold nonce_both.f
  rw [nonce_check_eq a ha k (by omega), nonce_check_eq b hb k (by omega)]
  unfold bothB
  cases rightB a
  · simp
  · cases rightB b
    · simp
    · by_cases h : a.length = b.length
      · simp [h]
      · have h' : ¬ ((a.length : Int) = (b.length : Int)) := by omega
        simp [h, h']

theorem ref20_panel_eq (n : Nat) : sextonref20_Panel.f (n : Int) = some (panelB n) := by
  unfold sextonref20_Panel.f panelB
  by_cases h1 : n = 1
  · subst h1; rfl
  · by_cases h3 : n = 3
    · subst h3; rfl
    · by_cases h5 : n = 5
      · subst h5; rfl
      · rw [if_neg (by omega), if_neg (by omega), if_neg (by omega)]
        by_cases h7 : n = 7
        · subst h7; rfl
        · have e : ((n : Int) == 7) = false := by simp; omega
          rw [e]; simp [h1, h3, h5, h7]
theorem ref20_right_l (l : List Int) (hl : l.length ≤ 140737488351232) (d : Nat) : ∀ (k j : Nat), j ≤ l.length → l.length - j = d → d < k →
    sextonref20_Right.l0 k l l (l.length : Int) (j : Int) = some (panelB l.length && (l.drop j).all okB) := by
  induction d with
  | zero =>
    intro k j hj hd hk
    obtain ⟨k, rfl⟩ := pred_of k _ hk
    simp only [sextonref20_Right.l0]
    rw [if_neg (by omega), List.drop_of_length_le (by omega), ref20_panel_eq]
    simp
  | succ d ih =>
    intro k j hj hd hk
    obtain ⟨k, rfl⟩ := pred_of k _ hk
    have hlt : j < l.length := by omega
    have hi := ih k (j + 1) (by omega) (by omega) (by omega)
    simp only [sextonref20_Right.l0]
    rw [if_pos (by omega), if_pos (by omega), if_pos (by omega), rd_at l j hlt, w_succ j (by omega), hi, List.drop_eq_getElem_cons hlt, List.all_cons]
    by_cases h : l[j] < 0
    · have : ¬ 0 ≤ l[j] := by omega
      rw [if_pos h]; simp [okB, this]
    · rw [if_neg h]
      by_cases h2 : l[j] > 1099511627776
      · have : ¬ l[j] ≤ 1099511627776 := by omega
        rw [if_pos h2]; simp [okB, this]
      · have a1 : 0 ≤ l[j] := by omega
        have a2 : l[j] ≤ 1099511627776 := by omega
        rw [if_neg h2]; simp [okB, a1, a2]
theorem ref20_right_eq (l : List Int) (hl : l.length ≤ 140737488351232) (k : Nat) (hk : l.length < k) :
    sextonref20_Right.f k l = some (rightB l) := by
  unfold sextonref20_Right.f
  have := ref20_right_l l hl l.length k 0 (by omega) (by omega) hk
  simp only [List.drop_zero] at this
  exact this

def oldB (v : List Int) (i : Int) (s : List Int) : Bool × Int :=
  if bothB v s then (if 0 ≤ i ∧ i < v.length then (decide (rd s i < rd v i), 0) else (false, 1)) else (false, 4)
theorem nonce_old_eq (v : List Int) (i : Int) (s : List Int) (ha : v.length ≤ 140737488351232) (hb : s.length ≤ 140737488351232) (k : Nat) (hk : v.length + s.length < k) :
    nonce_Old.f k v i s = some (oldB v i s) := by
  unfold nonce_Old.f oldB
  rw [nonce_both_eq v s ha hb k hk]
  cases h : bothB v s
  · simp
  · have hlen : v.length = s.length := by simp [bothB] at h; exact h.2
    simp only [Option.bind_some, if_true]
    by_cases h0 : i < 0
    · rw [if_pos h0, if_neg (by omega)]
    · rw [if_neg h0]
      by_cases h1 : i ≥ (v.length : Int)
      · rw [if_pos h1, if_neg (by omega)]
      · rw [if_neg h1, if_pos (by omega), if_pos (by omega), if_pos (by omega), if_pos (by omega)]

theorem ref20_old_eq (v : List Int) (i : Int) (s : List Int) (ha : v.length ≤ 140737488351232) (hb : s.length ≤ 140737488351232) (k : Nat) (hk : v.length + s.length < k) :
    sextonref20_Old.f k v i s = some (oldB v i s) := by
  obtain ⟨m, rfl⟩ := pred_of k _ hk
  unfold sextonref20_Old.f oldB
  rw [ref20_right_eq v ha _ (by omega), ref20_right_eq s hb _ (by omega)]
  simp only [Option.bind_some, sextonref20_Old.j0]
  unfold bothB
  cases rightB v
  · simp
  · cases rightB s
    · simp
    · by_cases h : v.length = s.length
      · have e : ((v.length : Int) != (s.length : Int)) = false := by simp [h]
        rw [e]
        simp only [if_true, Bool.true_and, h, beq_self_eq_true, Bool.false_eq_true, if_false]
        by_cases h0 : i < 0
        · rw [if_pos h0, if_neg (by omega)]
        · rw [if_neg h0]
          by_cases h1 : i ≥ (s.length : Int)
          · rw [if_pos h1, if_neg (by omega)]
          · rw [if_neg h1, if_pos (by omega), if_pos (by omega), if_pos (by omega), if_pos (by omega)]
      · have e : ((v.length : Int) != (s.length : Int)) = true := by simp; omega
        rw [e]; simp [h]

theorem three_ok (k : Nat) (hk : 9 ≤ k) : sextonlaw20_three.f k = some true :=
  at_rounds (fun k => sextonlaw20_three.mono k) hk (by decide +kernel : sextonlaw20_three.f 9 = some true)

theorem NonceOlds : sextonlaw20_NonceOlds.Pure := by
  intro v i s _ hv _ _ _ hs _
  refine ⟨v.length + s.length + 9, ?_⟩
  unfold sextonlaw20_NonceOlds.f
  rw [nonce_old_eq v i s (by omega) (by omega) _ (by omega), ref20_old_eq v i s (by omega) (by omega) _ (by omega), three_ok _ (by omega)]
  simp

end Go.Proofs.Ytipeleefbaalpaa.Pure
