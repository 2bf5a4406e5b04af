/- How the reckoner's values and memory stand to the machine's. -/
import Derived.Test.YtcpmhehklicpfaaGreatDoorEvRun
import Derived.Laws.Sem
import Derived.AtR
namespace Go.Proofs.YtcpmhehklicpfaaGreatDoor.Ev
open Go
set_option linter.unusedVariables false
namespace Tr
variable {α : Type}
theorem get_put : ∀ (f : Nat) (t : Tr α) (n : Nat) (x : Option α), n < f → ∀ m, (put f t n x).get m = if m = n then x else t.get m := by
  intro f
  induction f with
  | zero => intro t n x h; omega
  | succ f ih =>
    intro t n x h m
    cases t with
    | lf =>
      simp only [put]
      by_cases h0 : n = 0
      · subst h0
        simp only [if_true, get]
        split <;> rename_i hm
        · simp
        · split <;> simp
      · rw [if_neg h0]
        by_cases h1 : n % 2 = 1
        · rw [if_pos h1]
          simp only [get]
          rw [ih _ (n / 2) x (by omega) (m / 2)]
          by_cases hm : m = 0
          · subst hm; rw [if_pos rfl, if_neg (by omega)]
          · rw [if_neg hm]
            by_cases hm1 : m % 2 = 1
            · rw [if_pos hm1]
              by_cases e : m = n
              · rw [if_pos e, if_pos (by omega)]
              · rw [if_neg e, if_neg (by omega)]; simp [get]
            · rw [if_neg hm1, if_neg (by omega)]
        · rw [if_neg h1]
          simp only [get]
          rw [ih _ (n / 2 - 1) x (by omega) (m / 2 - 1)]
          by_cases hm : m = 0
          · subst hm; rw [if_pos rfl, if_neg (by omega)]
          · rw [if_neg hm]
            by_cases hm1 : m % 2 = 1
            · rw [if_pos hm1, if_neg (by omega)]
            · rw [if_neg hm1]
              by_cases e : m = n
              · rw [if_pos e, if_pos (by omega)]
              · rw [if_neg e, if_neg (by omega)]; simp [get]
    | nd l v r =>
      simp only [put]
      by_cases h0 : n = 0
      · subst h0
        simp only [if_true, get]
        by_cases hm : m = 0
        · simp [hm]
        · simp [hm]
      · rw [if_neg h0]
        by_cases h1 : n % 2 = 1
        · rw [if_pos h1]
          simp only [get]
          rw [ih l (n / 2) x (by omega) (m / 2)]
          by_cases hm : m = 0
          · subst hm; rw [if_pos rfl, if_neg (by omega)]; simp
          · simp only [if_neg hm]
            by_cases hm1 : m % 2 = 1
            · simp only [if_pos hm1]
              by_cases e : m = n
              · rw [if_pos e, if_pos (by omega)]
              · rw [if_neg e, if_neg (by omega)]
            · simp only [if_neg hm1]; rw [if_neg (by omega)]
        · rw [if_neg h1]
          simp only [get]
          rw [ih r (n / 2 - 1) x (by omega) (m / 2 - 1)]
          by_cases hm : m = 0
          · subst hm; rw [if_pos rfl, if_neg (by omega)]; simp
          · simp only [if_neg hm]
            by_cases hm1 : m % 2 = 1
            · simp only [if_pos hm1]; rw [if_neg (by omega)]
            · simp only [if_neg hm1]
              by_cases e : m = n
              · rw [if_pos e, if_pos (by omega)]
              · rw [if_neg e, if_neg (by omega)]
theorem get_set (t : Tr α) (n : Nat) (x : Option α) (m : Nat) : (t.set n x).get m = if m = n then x else t.get m := get_put _ t n x (by omega) m
end Tr
/-- Where the reckoner's blocks lie: the machine's block, and how many elements more it has than are known; 'fz': the machine's blocks that stay, and their cells. -/
structure Io where
  at' : Nat → Option (Nat × Nat)
  fz : Nat → Option (Array Value)
instance : CoeFun Io (fun _ => Nat → Option (Nat × Nat)) := ⟨Io.at'⟩
mutual
def VR (ι : Io) : AV → Value → Prop
  | .bool b, v => v = .bool b
  | .int k n, v => v = .int k n
  | .str s, v => v = .string ⟨⟨s.map Nat.toUInt8⟩⟩ ∧ ∀ n ∈ s, n < 256
  | .ptr none, v => v = .pointer none
  | .ptr (some (k, o)), v => ∃ b e, ι k = some (b, e) ∧ v = .pointer (some ⟨b, o, none⟩)
  | .slice none n c, v => v = .slice none n c ∧ n = 0 ∧ c = 0
  | .slice (some (k, o)) n c, v => ∃ b e, ι k = some (b, e) ∧ v = .slice (some ⟨b, o, none⟩) n (c + e)
  | .empty, v => ∃ a c, v = .slice (some a) 0 c
  | .any, _ => True
  | .opq, v => ∃ s, v = .string s
  | .rng k lo hi, v => ∃ n, v = .int k n ∧ lo ≤ n ∧ n ≤ hi
  | .map none, v => v = .map none
  | .map (some k), v => ∃ b e, ι k = some (b, e) ∧ v = .map (some b)
  | .chan none, v => v = .chan none
  | .chan (some k), v => ∃ b e, ι k = some (b, e) ∧ v = .chan (some b)
  | .func f x y, v => ∃ xs ys, v = .func (.func f) xs ys ∧ VRs ι x xs.toList ∧ VRs ι y ys.toList
  | .yield l, v => ∃ b e, ι l = some (b, e) ∧ v = .func (.yield b) #[] #[]
  | .nilFunc, v => v = .nilFunc
  | .iface t x, v => ∃ y, v = .iface t y ∧ VR ι x y
  | .nilIface, v => v = .nilIface
  | .agg l, v => ∃ xs, v = .agg xs ∧ VRs ι l xs.toList
  | .tuple l, v => ∃ xs, v = .tuple xs ∧ VRs ι l xs.toList
  | .lst rows, v => ∃ a cap, v = .slice a rows.length cap ∧ (rows.length ≤ cap ∧ (a = none → cap = 0)) ∧ (rows = [] ∨ ∃ b off cs sz, a = some ⟨b, off, none⟩ ∧ ι.fz b = some cs ∧ VRrows ι sz rows (cs.toList.drop off))
  | .lptr c, v => ∃ b off cs, v = .pointer (some ⟨b, off, none⟩) ∧ ι.fz b = some cs ∧ VRs ι c ((cs.toList.drop off).take c.length)
  | .zero, v => ∃ a, v = .slice a 0 0
def VRs (ι : Io) : List AV → List Value → Prop
  | [], vs => vs = []
  | a :: l, vs => ∃ v r, vs = v :: r ∧ VR ι a v ∧ VRs ι l r
def VRrows (ι : Io) (sz : Nat) : List (List AV) → List Value → Prop
  | [], _ => True
  | r :: l, vs => r.length = sz ∧ VRs ι r (vs.take sz) ∧ VRrows ι sz l (vs.drop sz)
end
structure Io.le (ι ι' : Io) : Prop where
  at' : ∀ k p, ι k = some p → ι' k = some p
  fz : ∀ b c, ι.fz b = some c → ι'.fz b = some c
instance {ι ι' : Io} : CoeFun (Io.le ι ι') (fun _ => ∀ k p, ι k = some p → ι' k = some p) := ⟨Io.le.at'⟩
mutual
theorem VR.mono {ι ι' : Io} (h : Io.le ι ι') : ∀ (a : AV) (v : Value), VR ι a v → VR ι' a v
  | .bool b, v, hv => hv
  | .int k n, v, hv => hv
  | .str s, v, hv => hv
  | .ptr none, v, hv => hv
  | .ptr (some (k, o)), v, hv => by simp only [VR] at hv ⊢; obtain ⟨b, e, h1, h2⟩ := hv; exact ⟨b, e, h _ _ h1, h2⟩
  | .slice none n c, v, hv => hv
  | .slice (some (k, o)) n c, v, hv => by simp only [VR] at hv ⊢; obtain ⟨b, e, h1, h2⟩ := hv; exact ⟨b, e, h _ _ h1, h2⟩
  | .empty, v, hv => hv
  | .any, v, hv => hv
  | .opq, v, hv => hv
  | .rng k lo hi, v, hv => hv
  | .map none, v, hv => hv
  | .map (some k), v, hv => by simp only [VR] at hv ⊢; obtain ⟨b, e, h1, h2⟩ := hv; exact ⟨b, e, h _ _ h1, h2⟩
  | .chan none, v, hv => hv
  | .chan (some k), v, hv => by simp only [VR] at hv ⊢; obtain ⟨b, e, h1, h2⟩ := hv; exact ⟨b, e, h _ _ h1, h2⟩
  | .func f x y, v, hv => by
    simp only [VR] at hv ⊢
    obtain ⟨xs, ys, h1, h2, h3⟩ := hv
    exact ⟨xs, ys, h1, VRs.mono h x _ h2, VRs.mono h y _ h3⟩
  | .yield l, v, hv => by simp only [VR] at hv ⊢; obtain ⟨b, e, h1, h2⟩ := hv; exact ⟨b, e, h _ _ h1, h2⟩
  | .nilFunc, v, hv => hv
  | .iface t x, v, hv => by simp only [VR] at hv ⊢; obtain ⟨y, h1, h2⟩ := hv; exact ⟨y, h1, VR.mono h x _ h2⟩
  | .nilIface, v, hv => hv
  | .agg l, v, hv => by simp only [VR] at hv ⊢; obtain ⟨xs, h1, h2⟩ := hv; exact ⟨xs, h1, VRs.mono h l _ h2⟩
  | .tuple l, v, hv => by simp only [VR] at hv ⊢; obtain ⟨xs, h1, h2⟩ := hv; exact ⟨xs, h1, VRs.mono h l _ h2⟩
  | .lst rows, v, hv => by
    simp only [VR] at hv ⊢
    obtain ⟨a, cap, h1, h0, h2⟩ := hv
    refine ⟨a, cap, h1, h0, ?_⟩
    rcases h2 with h2 | ⟨b, off, cs, sz, h3, h4, h5⟩
    · exact .inl h2
    · exact .inr ⟨b, off, cs, sz, h3, h.fz _ _ h4, VRrows.mono h sz rows _ h5⟩
  | .lptr c, v, hv => by
    simp only [VR] at hv ⊢
    obtain ⟨b, off, cs, h1, h2, h3⟩ := hv
    exact ⟨b, off, cs, h1, h.fz _ _ h2, VRs.mono h c _ h3⟩
  | .zero, v, hv => hv
theorem VRs.mono {ι ι' : Io} (h : Io.le ι ι') : ∀ (l : List AV) (vs : List Value), VRs ι l vs → VRs ι' l vs
  | [], vs, hv => hv
  | a :: l, vs, hv => by
    simp only [VRs] at hv ⊢
    obtain ⟨v, r, h1, h2, h3⟩ := hv
    exact ⟨v, r, h1, VR.mono h a v h2, VRs.mono h l r h3⟩
theorem VRrows.mono {ι ι' : Io} (h : Io.le ι ι') (sz : Nat) : ∀ (l : List (List AV)) (vs : List Value), VRrows ι sz l vs → VRrows ι' sz l vs
  | [], vs, hv => by simp only [VRrows]
  | r :: l, vs, hv => by
    simp only [VRrows] at hv ⊢
    exact ⟨hv.1, VRs.mono h r _ hv.2.1, VRrows.mono h sz l _ hv.2.2⟩
end
section lists
variable {ι : Io}
theorem VRs.nil : VRs ι [] [] := by simp [VRs]
theorem VRs.cons {a : AV} {l : List AV} {v : Value} {r : List Value} (h : VR ι a v) (hr : VRs ι l r) : VRs ι (a :: l) (v :: r) := by
  simp only [VRs]; exact ⟨v, r, rfl, h, hr⟩
theorem VRs.iff : ∀ {l : List AV} {vs : List Value}, VRs ι l vs ↔ l.length = vs.length ∧ ∀ (i : Nat) (a : AV) (v : Value), l[i]? = some a → vs[i]? = some v → VR ι a v
  | [], vs => by
    simp only [VRs]
    constructor
    · rintro rfl; simp
    · rintro ⟨h, _⟩; simpa using h.symm
  | a :: l, [] => by simp [VRs]
  | a :: l, v :: r => by
    simp only [VRs, List.cons.injEq]
    constructor
    · rintro ⟨v', r', ⟨rfl, rfl⟩, h1, h2⟩
      obtain ⟨h3, h4⟩ := VRs.iff.1 h2
      refine ⟨by simp [h3], fun i x y hx hy => ?_⟩
      cases i with
      | zero => simp at hx hy; subst hx hy; exact h1
      | succ i => simp at hx hy; exact h4 i x y hx hy
    · rintro ⟨h1, h2⟩
      exact ⟨v, r, ⟨rfl, rfl⟩, h2 0 a v rfl rfl, VRs.iff.2 ⟨by simpa using h1, fun i x y hx hy => h2 (i + 1) x y (by simpa using hx) (by simpa using hy)⟩⟩
theorem VRs.len {l : List AV} {vs : List Value} (h : VRs ι l vs) : l.length = vs.length := (VRs.iff.1 h).1
theorem VRs.at {l : List AV} {vs : List Value} (h : VRs ι l vs) {i : Nat} {a : AV} (ha : l[i]? = some a) : ∃ v, vs[i]? = some v ∧ VR ι a v := by
  obtain ⟨h1, h2⟩ := VRs.iff.1 h
  have hi : i < l.length := (List.getElem?_eq_some_iff.1 ha).1
  exact ⟨vs[i]'(by omega), by simp [show i < vs.length by omega], h2 i a _ ha (by simp [show i < vs.length by omega])⟩
theorem VRs.append {l m : List AV} {vs us : List Value} (h : VRs ι l vs) (k : VRs ι m us) : VRs ι (l ++ m) (vs ++ us) := by
  induction l generalizing vs with
  | nil => simp only [VRs] at h; subst h; exact k
  | cons a l ih => simp only [VRs] at h; obtain ⟨v, r, rfl, h1, h2⟩ := h; exact VRs.cons h1 (ih h2)
theorem VRs.take {l : List AV} {vs : List Value} (h : VRs ι l vs) (n : Nat) : VRs ι (l.take n) (vs.take n) := by
  induction l generalizing vs n with
  | nil => simp only [VRs] at h; subst h; simp [VRs]
  | cons a l ih =>
    simp only [VRs] at h; obtain ⟨v, r, rfl, h1, h2⟩ := h
    cases n with
    | zero => simp [VRs]
    | succ n => exact VRs.cons h1 (ih h2 n)
theorem VRs.drop {l : List AV} {vs : List Value} (h : VRs ι l vs) (n : Nat) : VRs ι (l.drop n) (vs.drop n) := by
  induction n generalizing l vs with
  | zero => exact h
  | succ n ih =>
    cases l with
    | nil => simp only [VRs] at h; subst h; simp [VRs]
    | cons a l => simp only [VRs] at h; obtain ⟨v, r, rfl, h1, h2⟩ := h; exact ih h2
theorem VRs.repl {l : List AV} {vs : List Value} (h : VRs ι l vs) : ∀ n, VRs ι (repl n l) ((List.replicate n vs).flatten)
  | 0 => by simp [Ev.repl, VRs]
  | n + 1 => by rw [List.replicate_succ, List.flatten_cons]; exact h.append (VRs.repl h n)
theorem VRrows.len {sz : Nat} : ∀ {l : List (List AV)} {vs : List Value}, VRrows ι sz l vs → ∀ r ∈ l, r.length = sz
  | [], _, _, r, hr => by cases hr
  | a :: l, vs, h, r, hr => by
    simp only [VRrows] at h
    rcases List.mem_cons.1 hr with rfl | hr
    · exact h.1
    · exact VRrows.len h.2.2 r hr
theorem VRrows.take {sz : Nat} : ∀ {l : List (List AV)} {vs : List Value} (n : Nat), VRrows ι sz l vs → VRrows ι sz (l.take n) vs
  | [], _, n, _ => by simp [VRrows]
  | a :: l, vs, 0, h => by simp [VRrows]
  | a :: l, vs, n + 1, h => by
    simp only [VRrows, List.take_succ_cons] at h ⊢
    exact ⟨h.1, h.2.1, VRrows.take n h.2.2⟩
theorem VRrows.drop {sz : Nat} : ∀ {l : List (List AV)} {vs : List Value} (n : Nat), VRrows ι sz l vs → VRrows ι sz (l.drop n) (vs.drop (n * sz))
  | [], _, n, _ => by simp [VRrows]
  | a :: l, vs, 0, h => by simpa using h
  | a :: l, vs, n + 1, h => by
    simp only [VRrows] at h
    have := VRrows.drop n h.2.2
    rw [List.drop_drop] at this
    rw [List.drop_succ_cons, show (n + 1) * sz = sz + n * sz by rw [Nat.add_mul]; omega]
    exact this
theorem VRrows.at {sz : Nat} {l : List (List AV)} {vs : List Value} (h : VRrows ι sz l vs) {i : Nat} {r : List AV} (hr : l[i]? = some r) : r.length = sz ∧ VRs ι r ((vs.drop (i * sz)).take sz) := by
  have h1 := VRrows.drop i h
  have hi : i < l.length := (List.getElem?_eq_some_iff.1 hr).1
  have e : l.drop i = r :: l.drop (i + 1) := by
    rw [List.drop_eq_getElem_cons hi]
    have := (List.getElem?_eq_some_iff.1 hr).2
    rw [this]
  rw [e] at h1
  simp only [VRrows] at h1
  exact ⟨h1.1, h1.2.1⟩
theorem VRrows.flat {sz : Nat} : ∀ {l : List (List AV)} {vs : List Value} {c : List AV} {n : Nat}, VRrows ι sz l vs → rowsA n l = some c → (l = [] ∨ n = sz) ∧ c.length = l.length * n ∧ VRs ι c (vs.take (l.length * n))
  | [], vs, c, n, h, hc => by simp only [rowsA] at hc; cases hc; exact ⟨.inl rfl, by simp, by simp [VRs]⟩
  | a :: l, vs, c, n, h, hc => by
    simp only [VRrows] at h
    simp only [rowsA] at hc
    split at hc
    · rename_i ha
      split at hc
      · rename_i m hm
        cases hc
        have hn : n = sz := by rw [← ha]; exact h.1
        subst hn
        obtain ⟨_, h2, h3⟩ := VRrows.flat h.2.2 hm
        refine ⟨.inr rfl, by simp [ha, h2, Nat.add_mul]; omega, ?_⟩
        have := h.2.1.append h3
        rw [List.length_cons, show (l.length + 1) * n = n + l.length * n by rw [Nat.add_mul]; omega, List.take_add]
        exact this
      · cases hc
    · cases hc
end lists
end Go.Proofs.YtcpmhehklicpfaaGreatDoor.Ev
