/- Calls that ran from one memory to another: reckoned one by one. -/
import Derived.Test.YtcpmhehklicpfaaGreatDoorEvKnown
namespace Go.Proofs.YtcpmhehklicpfaaGreatDoor.Ev
open Go Go.RowKit
set_option linter.unusedVariables false
def entsEq : List AEnt → List AEnt → Bool
  | [], [] => true
  | a :: l, b :: m => AV.eqv a.key b.key && (AV.eqv a.val b.val && (a.born == b.born && entsEq l m))
  | _, _ => false
def objEq : AObj → AObj → Bool
  | .cells c e o h, .cells c' e' o' h' => AV.eqvs c c' && (e == e' && (o == o' && h == h'))
  | .map es k, .map es' k' => entsEq es es' && k == k'
  | .strIter s p, .strIter s' p' => s == s' && p == p'
  | .chan n b, .chan n' b' => n == n' && AV.eqvs b b'
  | .noDefs, .noDefs => true
  | _, _ => false
def slotEq : Option AObj → Option AObj → Bool
  | none, none => true
  | some a, some b => objEq a b
  | _, _ => false
def trEq : Tr AObj → Tr AObj → Bool
  | .lf, .lf => true
  | .nd l v r, .nd l' v' r' => trEq l l' && (slotEq v v' && trEq r r')
  | _, _ => false
def stEq (s s' : St) : Bool := s.nx == s'.nx && trEq s.hp s'.hp
theorem entsEq_eq : ∀ (l m : List AEnt), entsEq l m = true → l = m
  | [], [], _ => rfl
  | ⟨k, v, n⟩ :: l, ⟨k', v', n'⟩ :: m, h => by
    simp only [entsEq, Bool.and_eq_true, beq_iff_eq] at h
    obtain ⟨h1, h2, rfl, h4⟩ := h
    rw [eqv_eq _ _ h1, eqv_eq _ _ h2, entsEq_eq l m h4]
  | [], _ :: _, h => by cases h
  | _ :: _, [], h => by cases h
theorem objEq_eq (a b : AObj) (h : objEq a b = true) : a = b := by
  cases a <;> cases b <;> first | (cases h; done) | skip
  · simp only [objEq, Bool.and_eq_true, beq_iff_eq] at h
    obtain ⟨h1, rfl, rfl, rfl⟩ := h
    rw [eqvs_eq _ _ h1]
  · simp only [objEq, Bool.and_eq_true, beq_iff_eq] at h
    obtain ⟨h1, rfl⟩ := h
    rw [entsEq_eq _ _ h1]
  · simp only [objEq, Bool.and_eq_true, beq_iff_eq] at h
    obtain ⟨rfl, rfl⟩ := h
    rfl
  · simp only [objEq, Bool.and_eq_true, beq_iff_eq] at h
    obtain ⟨rfl, h1⟩ := h
    rw [eqvs_eq _ _ h1]
  · rfl
theorem slotEq_eq (a b : Option AObj) (h : slotEq a b = true) : a = b := by
  cases a <;> cases b <;> first | rfl | (cases h; done) | (rw [objEq_eq _ _ h])
theorem trEq_eq : ∀ (a b : Tr AObj), trEq a b = true → a = b
  | .lf, .lf, _ => rfl
  | .nd l v r, .nd l' v' r', h => by
    simp only [trEq, Bool.and_eq_true] at h
    rw [trEq_eq l l' h.1, slotEq_eq v v' h.2.1, trEq_eq r r' h.2.2]
  | .lf, .nd _ _ _, h => by cases h
  | .nd _ _ _, .lf, h => by cases h
theorem stEq_eq (a b : St) (h : stEq a b = true) : a = b := by
  obtain ⟨hp, nx⟩ := a
  obtain ⟨hp', nx'⟩ := b
  simp only [stEq, Bool.and_eq_true, beq_iff_eq] at h
  obtain ⟨rfl, h2⟩ := h
  rw [trEq_eq _ _ h2]
/-- Blocks laid anew. -/
def sets : List (Nat × Option AObj) → Tr AObj → Tr AObj
  | [], t => t
  | (n, o) :: r, t => sets r (t.set n o)
theorem Step.less {P : Program} {ι ι' : Io} {s s' s'' : St} {w w' : World} (h : Step P ι s.obj s.nx w ι' s'.obj s'.nx w') (h1 : ∀ k o, s''.obj k = some o → s'.obj k = some o) (h2 : s'.nx ≤ s''.nx) (h3 : ∀ k c e o, s.obj k = some (.cells c e o true) → s''.obj k = some (.cells c e o true)) : Step P ι s.obj s.nx w ι' s''.obj s''.nx w' :=
  ⟨h.rel.sub h1, h.le, fun k p hk => (h.new k p hk).imp id fun ⟨a, b⟩ => ⟨a, Nat.lt_of_lt_of_le b h2⟩, Nat.le_trans h.nx h2, h.size, h.frame, fun k o b x hk hi => h.img k o b x (h1 k o hk) hi, h.os, h.tape, h.output, fun k c e o b x hk hi => ⟨h3 k c e o hk, (h.hard k c e o b x hk hi).2⟩, h.fzn⟩
/-- Every block of the first lies in the second. -/
def trSub : Tr AObj → Tr AObj → Bool
  | .lf, _ => true
  | .nd l none r, .lf => trSub l .lf && trSub r .lf
  | .nd _ (some _) _, .lf => false
  | .nd l none r, .nd l' _ r' => trSub l l' && trSub r r'
  | .nd l (some a) r, .nd l' v r' => (match v with | some b => objEq a b | none => false) && (trSub l l' && trSub r r')
def isHard : Option AObj → Bool
  | some (.cells _ _ _ true) => true
  | _ => false
/-- What is only read in the first lies in the second. -/
def trHard : Tr AObj → Tr AObj → Bool
  | .lf, _ => true
  | .nd l v r, .lf => !isHard v && (trHard l .lf && trHard r .lf)
  | .nd l v r, .nd l' v' r' => (!isHard v || slotEq v v') && (trHard l l' && trHard r r')
theorem trSub_get : ∀ (a b : Tr AObj), trSub a b = true → ∀ k o, a.get k = some o → b.get k = some o
  | .lf, _, _, k, o, h => by simp [Tr.get] at h
  | .nd l none r, .lf, h, k, o, hk => by
    simp only [trSub, Bool.and_eq_true] at h
    simp only [Tr.get] at hk
    split at hk
    · cases hk
    · split at hk
      · exact absurd (trSub_get l .lf h.1 _ _ hk) (by simp [Tr.get])
      · exact absurd (trSub_get r .lf h.2 _ _ hk) (by simp [Tr.get])
  | .nd _ (some _) _, .lf, h, k, o, hk => by cases h
  | .nd l none r, .nd l' v r', h, k, o, hk => by
    simp only [trSub, Bool.and_eq_true] at h
    simp only [Tr.get] at hk ⊢
    split at hk
    · cases hk
    · rename_i h0
      rw [if_neg h0]
      split at hk
      · rename_i h1; rw [if_pos h1]; exact trSub_get l l' h.1 _ _ hk
      · rename_i h1; rw [if_neg h1]; exact trSub_get r r' h.2 _ _ hk
  | .nd l (some a) r, .nd l' v r', h, k, o, hk => by
    simp only [trSub, Bool.and_eq_true] at h
    obtain ⟨h2, h3, h4⟩ := h
    simp only [Tr.get] at hk ⊢
    split at hk
    · rename_i h0
      rw [if_pos h0]
      cases hk
      split at h2
      · rename_i b; rw [objEq_eq _ _ h2]
      · cases h2
    · rename_i h0
      rw [if_neg h0]
      split at hk
      · rename_i h1; rw [if_pos h1]; exact trSub_get l l' h3 _ _ hk
      · rename_i h1; rw [if_neg h1]; exact trSub_get r r' h4 _ _ hk
theorem trHard_get : ∀ (a b : Tr AObj), trHard a b = true → ∀ k o, isHard (some o) = true → a.get k = some o → b.get k = some o
  | .lf, _, _, k, o, _, h => by simp [Tr.get] at h
  | .nd l v r, .lf, h, k, o, ho, hk => by
    simp only [trHard, Bool.and_eq_true] at h
    simp only [Tr.get] at hk
    split at hk
    · subst hk; rw [ho] at h; simp at h
    · split at hk
      · exact absurd (trHard_get l .lf h.2.1 _ _ ho hk) (by simp [Tr.get])
      · exact absurd (trHard_get r .lf h.2.2 _ _ ho hk) (by simp [Tr.get])
  | .nd l v r, .nd l' v' r', h, k, o, ho, hk => by
    simp only [trHard, Bool.and_eq_true] at h
    simp only [Tr.get] at hk ⊢
    split at hk
    · rename_i h0
      rw [if_pos h0]
      subst hk
      rw [ho] at h
      simp only [Bool.not_true, Bool.false_or] at h
      exact (slotEq_eq _ _ h.1).symm
    · rename_i h0
      rw [if_neg h0]
      split at hk
      · rename_i h1; rw [if_pos h1]; exact trHard_get l l' h.2.1 _ _ ho hk
      · rename_i h1; rw [if_neg h1]; exact trHard_get r r' h.2.2 _ _ ho hk
/-- The place of a block in a list of blocks; the last counts. -/
def setAt : List (Nat × Option AObj) → Nat → Option (Option AObj)
  | [], _ => none
  | (n, o) :: r, k => match setAt r k with | some x => some x | none => if k = n then some o else none
theorem sets_get : ∀ (q : List (Nat × Option AObj)) (t : Tr AObj) (k : Nat), (sets q t).get k = (match setAt q k with | some x => x | none => t.get k)
  | [], t, k => rfl
  | (n, o) :: r, t, k => by
    simp only [sets, setAt]
    rw [sets_get r]
    cases setAt r k with
    | some x => rfl
    | none =>
      simp only
      rw [Tr.get_set]
      split <;> rfl
/-- A call that ran: from a memory, of which no more than this counted, by the blocks that it turned. -/
structure Run where
  f : FuncId
  a : List AV
  s : St
  v : AV
  q : List (Nat × Option AObj)
  nx : Nat
def Run.s' (x : Run) : St := ⟨sets x.q x.s.hp, x.nx⟩
def lookR : List Run → FuncId → List AV → St → Option (AV × St)
  | [], _, _, _ => none
  | x :: r, f, a, s => if x.f = f then (if (AV.eqvs x.a a && (x.s.nx == s.nx && trSub x.s.hp s.hp)) = true then some (x.v, ⟨sets x.q s.hp, x.nx⟩) else lookR r f a s) else lookR r f a s
/-- Turned are blocks that were known, and new ones. -/
def Run.ok (x : Run) : Bool := x.q.all fun p => (x.s.hp.get p.1).isSome || (decide (x.s.nx ≤ p.1) && decide (p.1 < x.nx))
def Ran (P : Program) (x : Run) : Prop := x.s.nx ≤ x.nx ∧ x.ok = true ∧ TaskS P (.call x.f x.a) x.s (.val x.v) x.s'
theorem setAt_mem : ∀ (q : List (Nat × Option AObj)) (k : Nat) (y : Option AObj), setAt q k = some y → ∃ p ∈ q, p.1 = k
  | [], k, y, h => by cases h
  | (n, o) :: r, k, y, h => by
    simp only [setAt] at h
    split at h
    · rename_i x hx
      obtain ⟨p, h1, h2⟩ := setAt_mem r k x hx
      exact ⟨p, List.mem_cons_of_mem _ h1, h2⟩
    · split at h
      · rename_i e; exact ⟨(n, o), List.mem_cons_self .., e.symm⟩
      · cases h
/-- What lay beside is as it was. -/
theorem Step.beside {P : Program} {ι ι' : Io} {h g h' g' : Hp} {n n' : Nat} {w w' : World} (hr : Rel P ι g w) (st : Step P ι h n w ι' h' n' w') (hs : ∀ k o, h k = some o → g k = some o)
    (hg : ∀ k o, g' k = some o → h' k = some o ∨ (h k = none ∧ g k = some o)) (hd : ∀ k o, g k = some o → h' k = some o ∨ h k = none → (∃ c e p, o = .cells c e p true) → g' k = some o) : Step P ι g n w ι' g' n' w' := by
  have far : ∀ k o b x, h k = none → g k = some o → ι k = some (b, x) → (∀ k0 o0 x0, h k0 = some o0 → ι k0 ≠ some (b, x0)) := fun k o b x h1 h2 h3 k0 o0 x0 e1 e2 => by
    have := hr.inj k k0 _ _ b x x0 h2 (hs _ _ e1) h3 e2
    subst this
    rw [h1] at e1; cases e1
  have same : ∀ k o, h k = none → g k = some o → ∃ b x p, ι k = some (b, x) ∧ ι' k = some (b, x) ∧ b < w.heap.size ∧ w.heap[b]? = some p ∧ w'.heap[b]? = some p ∧ ObjR P ι x o p := fun k o h1 h2 => by
    obtain ⟨b, x, p, e1, e2, e3⟩ := hr.live k o h2
    have hlt : b < w.heap.size := (Array.getElem?_eq_some_iff.1 e2).1
    exact ⟨b, x, p, e1, st.le _ _ e1, hlt, e2, (st.frame b hlt (far k o b x h1 h2 e1)).trans e2, e3⟩
  have mixed : ∀ k k' o o' b x x', h' k = some o → h k' = none → g k' = some o' → ι' k = some (b, x) → ι' k' = some (b, x') → False := fun k k' o o' b x x' e1 e2 e3 e4 e5 => by
    obtain ⟨b', y, p, q1, q2, q3, _⟩ := same k' o' e2 e3
    rw [q2] at e5; cases e5
    rcases st.img k o b x e1 e4 with ⟨k0, o0, x0, r1, r2⟩ | r
    · exact far k' o' b x' e2 e3 q1 k0 o0 x0 r1 r2
    · omega
  refine ⟨⟨fun k o e => ?_, fun k k' o o' b x x' e e' i i' => ?_, st.rel.fz, fun k o b x e hfr hi => ?_⟩, st.le, st.new, st.nx, st.size, fun b hb hn => st.frame b hb (fun k o x hk => hn k o x (hs _ _ hk)), fun k o b x e hi => ?_, st.os, st.tape, st.output, fun k c e o b x hk hi => ?_, fun b c hb => ?_⟩
  · rcases hg k o e with e | ⟨e1, e2⟩
    · exact st.rel.live k o e
    · obtain ⟨b, x, p, q1, q2, q3, q4, q5, q6⟩ := same k o e1 e2
      exact ⟨b, x, p, q2, q5, q6.mono st.le⟩
  · rcases hg k o e with e | ⟨e1, e2⟩ <;> rcases hg k' o' e' with e' | ⟨e1', e2'⟩
    · exact st.rel.inj k k' o o' b x x' e e' i i'
    · exact (mixed k k' o o' b x x' e e1' e2' i i').elim
    · exact (mixed k' k o' o b x' x e' e1 e2 i' i).elim
    · obtain ⟨b1, x1, p1, q1, q2, _⟩ := same k o e1 e2
      obtain ⟨b2, x2, p2, r1, r2, _⟩ := same k' o' e1' e2'
      rw [q2] at i; cases i
      rw [r2] at i'; cases i'
      exact hr.inj k k' o o' b x x' e2 e2' q1 r1
  · rcases hg k o e with e | ⟨e1, e2⟩
    · exact st.rel.sep k o b x e hfr hi
    · obtain ⟨b1, x1, p1, q1, q2, q3, _⟩ := same k o e1 e2
      rw [q2] at hi; cases hi
      cases hc : ι'.fz b with
      | none => rfl
      | some c =>
        rcases st.fzn b c hc with h1 | ⟨k0, o0, x0, r1, _, r2⟩ | h1
        · rw [hr.sep k o b x e2 hfr q1] at h1; cases h1
        · exact (far k o b x e1 e2 q1 k0 o0 x0 r1 r2).elim
        · omega
  · rcases hg k o e with e | ⟨e1, e2⟩
    · rcases st.img k o b x e hi with ⟨k0, o0, x0, r1, r2⟩ | r
      · exact .inl ⟨k0, o0, x0, hs _ _ r1, r2⟩
      · exact .inr r
    · obtain ⟨b1, x1, p1, q1, q2, _⟩ := same k o e1 e2
      rw [q2] at hi; cases hi
      exact .inl ⟨k, o, x, e2, q1⟩
  · cases hk' : h k with
    | none =>
      obtain ⟨b1, x1, p1, q1, q2, q3, q4, q5, _⟩ := same k _ hk' hk
      rw [q1] at hi; cases hi
      exact ⟨hd k _ hk (.inr hk') ⟨_, _, _, rfl⟩, q5.trans q4.symm⟩
    | some o1 =>
      have := hs _ _ hk'
      rw [hk] at this; cases this
      obtain ⟨r1, r2⟩ := st.hard k c e o b x hk' hi
      exact ⟨hd k _ hk (.inl r1) ⟨_, _, _, rfl⟩, r2⟩
  · rcases st.fzn b c hb with h1 | ⟨k0, o0, x0, r1, r2, r3⟩ | h1
    · exact .inl h1
    · exact .inr (.inl ⟨k0, o0, x0, hs _ _ r1, r2, r3⟩)
    · exact .inr (.inr h1)
theorem Run.at {P : Program} {x : Run} (hx : Ran P x) {s : St} (hn : x.s.nx = s.nx) (hsub : ∀ k o, x.s.hp.get k = some o → s.hp.get k = some o) : s.nx ≤ (⟨sets x.q s.hp, x.nx⟩ : St).nx ∧ TaskS P (.call x.f x.a) s (.val x.v) ⟨sets x.q s.hp, x.nx⟩ := by
  obtain ⟨h1, hok, h2⟩ := hx
  refine ⟨by rw [← hn]; exact h1, ?_⟩
  simp only [TaskS] at h2 ⊢
  intro kd ι w as cs hcs hgl has hr hfr
  obtain ⟨ι', w', u, fr, q1, q2, q3⟩ := h2 kd ι w as cs hcs hgl has (hr.sub (h := x.s.obj) hsub) (fun k e1 e2 => hfr k (by rw [← hn]; exact e1) e2)
  refine ⟨ι', w', u, fr, ?_, q2, q3⟩
  rw [← hn]
  refine Step.beside hr q1 hsub (fun k o e => ?_) (fun k o e e' _ => ?_)
  · simp only [St.obj, Run.s', sets_get] at e ⊢
    cases hq : setAt x.q k with
    | some y => rw [hq] at e; exact .inl e
    | none =>
      rw [hq] at e
      cases hk : x.s.hp.get k with
      | none => exact .inr ⟨rfl, e⟩
      | some o1 => rw [hsub _ _ hk] at e; exact .inl e
  · simp only [St.obj, Run.s', sets_get] at e e' ⊢
    cases hq : setAt x.q k with
    | some y =>
      rw [hq] at e'
      rcases e' with e' | e'
      · exact e'
      · obtain ⟨p, hp, rfl⟩ := setAt_mem _ _ _ hq
        have := List.all_eq_true.1 hok p hp
        simp only [Bool.or_eq_true, Bool.and_eq_true, decide_eq_true_eq] at this
        rcases this with h3 | ⟨h3, h4⟩
        · rw [e'] at h3; cases h3
        · obtain ⟨b, y, o1, r1, _⟩ := hr.live p.1 o e
          rw [hfr p.1 (by rw [← hn]; exact h3) h4] at r1; cases r1
    | none => exact e
theorem lookR_ran {P : Program} : ∀ (rs : List Run), (∀ x ∈ rs, Ran P x) → ∀ f a s v s', lookR rs f a s = some (v, s') → s.nx ≤ s'.nx ∧ TaskS P (.call f a) s (.val v) s'
  | [], _, f, a, s, v, s', h => by cases h
  | x :: r, hr, f, a, s, v, s', h => by
    simp only [lookR] at h
    split at h
    · rename_i hf
      split at h
      · rename_i ha
        simp only [Bool.and_eq_true, beq_iff_eq] at ha
        cases h
        have h1 := eqvs_eq _ _ ha.1
        subst hf h1
        exact Run.at (hr _ (List.mem_cons_self ..)) ha.2.1 (trSub_get _ _ ha.2.2)
      · exact lookR_ran r (fun y hy => hr y (List.mem_cons_of_mem _ hy)) f a s v s' h
    · exact lookR_ran r (fun y hy => hr y (List.mem_cons_of_mem _ hy)) f a s v s' h
section
variable (P : Program) (C : Ctx) (rs : List Run)
def evR : Nat → Task → St → Option (Res × St)
  | 0 => fun _ _ => none
  | n + 1 => fun t s =>
    match t with
    | .call g args =>
      (match lookR rs g args s with
       | some (v, s') => some (.val v, s')
       | none =>
         (match lookK C.kn g args with
          | some v => if hasGs C.gs s then some (.val v, s) else none
          | none => evF P (evR n) (.call g args) s))
    | t => evF P (evR n) t s
end
section
variable {P : Program} {C : Ctx} {rs : List Run}
theorem goodR (hm : P.follows .mixedOrders = true) (hx : P.follows .rangeFuncRecover = true) (K : Knows P C) (hr : ∀ x ∈ rs, Ran P x) : ∀ n, Good P (evR P C rs n)
  | 0 => fun t s r s' h => by cases h
  | n + 1 => fun t s r s' h => by
    have hg := goodR hm hx K hr n
    simp only [evR] at h
    cases t with
    | code c f => exact task_code hm hg h
    | ops draw ops l acc f => exact task_ops hg h
    | call g args =>
      simp only at h
      split at h
      · rename_i v s1 hv
        cases h
        exact lookR_ran rs hr _ _ _ _ _ hv
      · split at h
        · rename_i v hv
          split at h
          · rename_i hs
            cases h
            refine ⟨Nat.le_refl _, ?_⟩
            simp only [TaskS]
            have hmem := lookK_mem _ _ _ _ hv
            have hfl := List.all_eq_true.1 K.kn _ hmem
            simp only [Bool.and_eq_true] at hfl
            intro kd ι w as cs hcs hgl has hr hfr
            obtain ⟨w', u, fr, h1, h2, h3, h4, h5, h6⟩ := K.all _ hmem kd w as cs hcs (flats_VR _ hfl.1 _ has) (hasGs_laid K.gs hs hgl hr)
            exact ⟨ι, w', u, fr, step_below hr h2, flat_VR _ hfl.2 _ h1, h3, h4, h5, h6⟩
          · cases h
        · exact task_call hg h
    | defs l => exact task_defs hg h
    | round l args => exact task_round hx hg h
/-- What is left may be less than what lies. -/
def ranB (x : Run) : Option (Res × St) → Bool
  | some (.val u, s') => AV.eqv u x.v && (s'.nx == x.s'.nx && (trSub x.s'.hp s'.hp && (trHard x.s.hp x.s'.hp && x.ok)))
  | _ => false
theorem ran_of (hm : P.follows .mixedOrders = true) (hx : P.follows .rangeFuncRecover = true) (K : Knows P C) (hr : ∀ x ∈ rs, Ran P x) {n : Nat} {x : Run} (h : ranB x (evR P C rs n (.call x.f x.a) x.s) = true) : Ran P x := by
  unfold ranB at h
  split at h
  · rename_i u s' hs
    simp only [Bool.and_eq_true, beq_iff_eq] at h
    obtain ⟨h1, h2, h3, h4, h5⟩ := h
    have h1 := eqv_eq _ _ h1
    subst h1
    obtain ⟨g1, g2⟩ := goodR hm hx K hr n _ _ _ _ hs
    refine ⟨by rw [h2] at g1; exact g1, h5, ?_⟩
    simp only [TaskS] at g2 ⊢
    intro kd ι w as cs hcs hgl has hrel hfr
    obtain ⟨ι', w', u, fr, q1, q2, q3⟩ := g2 kd ι w as cs hcs hgl has hrel (fun k e1 e2 => hfr k e1 (by omega))
    exact ⟨ι', w', u, fr, q1.less (fun k o hk => trSub_get _ _ h3 k o hk) (by omega) (fun k c e o hk => trHard_get _ _ h4 k _ rfl hk), q2, q3⟩
  · cases h
/-- A call reckoned from nothing but what is laid, where some runs are known. -/
theorem knownR_of (hm : P.follows .mixedOrders = true) (hx : P.follows .rangeFuncRecover = true) (K : Knows P C) (hr : ∀ x ∈ rs, Ran P x) {n : Nat} {f : FuncId} {l : List AV} {v : AV} (hf : v.flat = true) (h : yields v (evR P C rs n (.call f l) (laid C.gs)) = true) : KnownS P C.gs f l v := by
  unfold yields at h
  split at h
  · rename_i u s' hs
    have := eqv_eq _ _ h
    subst this
    obtain ⟨_, hc⟩ := goodR hm hx K hr n _ _ _ _ hs
    simp only [TaskS] at hc
    intro kd w as cs hcs ha hl
    have hg : ∀ g ∈ C.gs, g.1 < 64 := fun g hg => by
      have := List.all_eq_true.1 K.gs g hg
      simp only [Bool.and_eq_true, decide_eq_true_eq] at this
      exact this.1
    have hnx : (laid C.gs).nx = 64 := laid_nx C.gs _
    obtain ⟨ι', w', u, fr, st, hu, hst, hk, hgo, hfn⟩ := hc kd glob w as cs hcs (fun g hg => ⟨0, by simp [glob, hg]⟩) ha (laid_rel hg hl) (fun k h1 h2 => by rw [hnx] at h1; simp [glob]; omega)
    refine ⟨w', u, fr, flat_VR _ hf _ hu, ⟨st.os, st.tape, st.output, st.size, fun k hk => ?_⟩, hst, hk, hgo, hfn⟩
    by_cases e : ∃ j o x, (laid C.gs).obj j = some o ∧ glob j = some (k, x)
    · obtain ⟨j, o, x, h1, h2⟩ := e
      have h3 : ∃ c e, o = .cells c e false true := by
        rcases laid_obj C.gs _ j o h1 with h | ⟨g, _, _, h⟩
        · simp [St.obj, Tr.get] at h
        · exact ⟨_, _, h⟩
      obtain ⟨c, e, rfl⟩ := h3
      exact (st.hard j c e false k x h1 h2).2
    · exact st.frame k hk fun j o x h1 h2 => e ⟨j, o, x, h1, h2⟩
  · cases h
end
end Go.Proofs.YtcpmhehklicpfaaGreatDoor.Ev
