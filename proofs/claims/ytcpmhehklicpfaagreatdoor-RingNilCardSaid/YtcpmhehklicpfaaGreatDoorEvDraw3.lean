/- A region that draws its order: one operation more. -/
import Derived.Test.YtcpmhehklicpfaaGreatDoorEvDraw2
namespace Go.Proofs.YtcpmhehklicpfaaGreatDoor.Ev
open Go
set_option linter.unusedVariables false
section
variable {P : Program}
theorem Rel.sub {ι : Io} {h X : Hp} {w : World} (hr : Rel P ι X w) (hs : ∀ k o, h k = some o → X k = some o) : Rel P ι h w :=
  ⟨fun k o e => hr.live k o (hs k o e), fun k k' o o' b x x' e e' => hr.inj k k' o o' b x x' (hs k o e) (hs k' o' e'), hr.fz, fun k o b x e => hr.sep k o b x (hs k o e)⟩
/-- Steps one behind the other, whose numbers lie within. -/
theorem Step.within {ι ι₁ ι₂ : Io} {h h₁ h₂ : Hp} {n n₁ n₂ N : Nat} {w w₁ w₂ : World} (a : Step P ι h n w ι₁ h₁ N w₁) (b : Step P ι₁ h₁ n₁ w₁ ι₂ h₂ n₂ w₂) (hn : n ≤ n₁) (hN : n₂ ≤ N) : Step P ι h n w ι₂ h₂ N w₂ := by
  refine ⟨b.rel, a.le.trans b.le, ?_, a.nx, Nat.le_trans a.size b.size, ?_, ?_, b.os.trans a.os, b.tape.trans a.tape, b.output.trans a.output, fun k c e o p x h1 h2 => by
    obtain ⟨q1, q2⟩ := a.hard k c e o p x h1 h2
    obtain ⟨r1, r2⟩ := b.hard k c e o p x q1 (a.le _ _ h2)
    exact ⟨r1, r2.trans q2⟩, fun d c hd => by
    rcases b.fzn d c hd with h1 | ⟨k, o, x, h1, hfr, h2⟩ | h1
    · exact a.fzn d c h1
    · rcases a.img k o d x h1 h2 with ⟨k0, o0, x0, h3, h4⟩ | h3
      · refine .inr (.inl ⟨k0, o0, x0, h3, ?_, h4⟩)
        cases hf0 : o0.free with
        | true => rfl
        | false =>
          cases o0 with
          | cells c0 e0 p0 hard =>
            cases hard with
            | false => cases hf0
            | true =>
              obtain ⟨g1, _⟩ := a.hard k0 c0 e0 p0 d x0 h3 h4
              have := a.rel.inj k k0 _ _ d x x0 h1 g1 h2 (a.le _ _ h4)
              subst this
              rw [h1] at g1; cases g1; cases hfr
          | _ => cases hf0
      · exact .inr (.inr h3)
    · exact .inr (.inr (Nat.le_trans a.size h1))⟩
  · intro k p hk
    rcases b.new k p hk with h1 | ⟨h1, h2⟩
    · exact a.new k p h1
    · exact .inr ⟨by omega, by omega⟩
  · intro c hc hno
    have e1 := a.frame c hc hno
    rw [← e1]
    refine b.frame c (Nat.lt_of_lt_of_le hc a.size) ?_
    intro k o x hk hi
    rcases a.img k o c x hk hi with ⟨k0, o0, x0, h1, h2⟩ | h3
    · exact hno k0 o0 x0 h1 h2
    · omega
  · intro k o c x hk hi
    rcases b.img k o c x hk hi with ⟨k0, o0, x0, h1, h2⟩ | h3
    · exact a.img k0 o0 c x0 h1 h2
    · exact .inr (Nat.le_trans a.size h3)
/-- A step beside blocks that it does not know. -/
theorem Step.extend {ι ι' : Io} {h h' X X' : Hp} {n n' : Nat} {w w' : World} (R : Nat → Prop) (hX : ∀ k, ¬ R k → X k = h k) (hR : ∀ k, R k → h k = none) (hX' : ∀ k, ¬ R k → X' k = h' k) (hR' : ∀ k, R k → X' k = X k)
    (hr : Rel P ι X w) (st : Step P ι h n w ι' h' n' w') : Step P ι X n w ι' X' n' w' := by
  have sub : ∀ k o, h k = some o → ¬ R k ∧ X k = some o := fun k o e => by
    have : ¬ R k := fun r => by rw [hR k r] at e; cases e
    exact ⟨this, by rw [hX k this]; exact e⟩
  have keep : ∀ k o b x, R k → X k = some o → ι k = some (b, x) → w'.heap[b]? = w.heap[b]? := fun k o b x r e hi => by
    obtain ⟨b', x', p, g1, g2, _⟩ := hr.live k o e
    rw [hi] at g1; cases g1
    refine st.frame b (Array.getElem?_eq_some_iff.1 g2).1 fun k1 o1 x1 e1 hi1 => ?_
    obtain ⟨s1, s2⟩ := sub k1 o1 e1
    have := hr.inj k k1 o o1 b x x1 e s2 hi hi1
    subst this; exact s1 r
  have at_ : ∀ k o b x, X k = some o → ι' k = some (b, x) → ι k = some (b, x) ∧ b < w.heap.size := fun k o b x e hi => by
    obtain ⟨b', x', p, g1, g2, _⟩ := hr.live k o e
    have := st.le _ _ g1
    rw [hi] at this; cases this
    exact ⟨g1, (Array.getElem?_eq_some_iff.1 g2).1⟩
  have mix : ∀ k k' o o' b x x', R k → X k = some o → ι' k = some (b, x) → h' k' = some o' → ι' k' = some (b, x') → False := fun k k' o o' b x x' r e hi e' hi' => by
    obtain ⟨g1, g2⟩ := at_ k o b x e hi
    rcases st.img k' o' b x' e' hi' with ⟨k0, o0, x0, a1, a2⟩ | a1
    · obtain ⟨s1, s2⟩ := sub k0 o0 a1
      have := hr.inj k k0 o o0 b x x0 e s2 g1 a2
      subst this; exact s1 r
    · omega
  refine ⟨⟨?_, ?_, st.rel.fz, ?_⟩, st.le, st.new, st.nx, st.size, ?_, ?_, st.os, st.tape, st.output, ?_, fun b c hb => by
    rcases st.fzn b c hb with h1 | ⟨k, o, x, h1, hf, h2⟩ | h1
    · exact .inl h1
    · exact .inr (.inl ⟨k, o, x, (sub k o h1).2, hf, h2⟩)
    · exact .inr (.inr h1)⟩
  · intro k o e
    by_cases r : R k
    · rw [hR' k r] at e
      obtain ⟨b, x, p, g1, g2, g3⟩ := hr.live k o e
      exact ⟨b, x, p, st.le _ _ g1, by rw [keep k o b x r e g1]; exact g2, g3.mono st.le⟩
    · rw [hX' k r] at e; exact st.rel.live k o e
  · intro k k' o o' b x x' e e' hi hi'
    by_cases r : R k <;> by_cases r' : R k'
    · rw [hR' k r] at e; rw [hR' k' r'] at e'
      exact hr.inj k k' o o' b x x' e e' (at_ k o b x e hi).1 (at_ k' o' b x' e' hi').1
    · rw [hR' k r] at e; rw [hX' k' r'] at e'
      exact (mix k k' o o' b x x' r e hi e' hi').elim
    · rw [hR' k' r'] at e'; rw [hX' k r] at e
      exact (mix k' k o' o b x' x r' e' hi' e hi).elim
    · rw [hX' k r] at e; rw [hX' k' r'] at e'
      exact st.rel.inj k k' o o' b x x' e e' hi hi'
  · intro k o b x e hfree hi
    by_cases r : R k
    · rw [hR' k r] at e
      obtain ⟨g1, g2⟩ := at_ k o b x e hi
      cases hz : ι'.fz b with
      | none => rfl
      | some c =>
        rcases st.fzn b c hz with h1 | ⟨k1, o1, x1, h1, _, h2⟩ | h1
        · rw [hr.sep k o b x e hfree g1] at h1; cases h1
        · obtain ⟨s1, s2⟩ := sub k1 o1 h1
          have := hr.inj k k1 o o1 b x x1 e s2 g1 h2
          subst this; exact absurd r s1
        · omega
    · rw [hX' k r] at e; exact st.rel.sep k o b x e hfree hi
  · intro b hb hno
    exact st.frame b hb fun k o x e => hno k o x (sub k o e).2
  · intro k o b x e hi
    by_cases r : R k
    · rw [hR' k r] at e
      exact .inl ⟨k, o, x, e, (at_ k o b x e hi).1⟩
    · rw [hX' k r] at e
      rcases st.img k o b x e hi with ⟨k0, o0, x0, a1, a2⟩ | a1
      · exact .inl ⟨k0, o0, x0, (sub k0 o0 a1).2, a2⟩
      · exact .inr a1
  · intro k c e o b x hk hi
    by_cases r : R k
    · exact ⟨by rw [hR' k r]; exact hk, keep k _ b x r hk hi⟩
    · rw [hX k r] at hk
      obtain ⟨g1, g2⟩ := st.hard k c e o b x hk hi
      exact ⟨by rw [hX' k r]; exact g1, g2⟩
/-- A new block, in any memory. -/
theorem step_newX {ι : Io} {X : Hp} {n : Nat} {w w' : World} {o : AObj} {p : Obj} {x : Nat} (hr : Rel P ι X w) (hf : ι n = none) (hp : ObjR P ι x o p)
    (hh : w'.heap = w.heap.push p) (h1 : w'.os = w.os) (h2 : w'.tape = w.tape) (h3 : w'.output = w.output) :
    ∃ ι', Step P ι X n w ι' (fun k => if k = n then some o else X k) (n + 1) w' ∧ ι' n = some (w.heap.size, x) := by
  have hsn : X n = none := by
    cases e : X n with
    | none => rfl
    | some y => obtain ⟨b, x, p, e1, _⟩ := hr.live _ _ e; rw [hf] at e1; cases e1
  have hle : Io.le ι (ι.put n (w.heap.size, x)) := Io.put_le hf
  have lt : ∀ k y b z, X k = some y → ι k = some (b, z) → b < w.heap.size := fun k y b z h h' => by
    obtain ⟨b', z', q, e1, e2, _⟩ := hr.live k y h
    rw [h'] at e1; cases e1
    exact (Array.getElem?_eq_some_iff.1 e2).1
  refine ⟨ι.put n (w.heap.size, x), ⟨⟨?_, ?_, ?_, ?_⟩, hle, ?_, Nat.le_succ _, ?_, ?_, ?_, h1, h2, h3, ?_, fun _ _ h => .inl h⟩, by simp [Io.put]⟩
  · intro k y hk
    by_cases e : k = n
    · subst e
      simp at hk; subst hk
      exact ⟨w.heap.size, x, p, by simp [Io.put], by rw [hh]; simp, hp.mono hle⟩
    · rw [if_neg e] at hk
      obtain ⟨b, z, q, e1, e2, e3⟩ := hr.live k y hk
      exact ⟨b, z, q, by simp [Io.put, e, e1], by rw [hh, Array.getElem?_push]; simp [show b ≠ w.heap.size from fun e' => by subst e'; simp at e2, e2], e3.mono hle⟩
  · intro k k' y y' b z z' hk hk' hi hi'
    rw [Io.put_at] at hi hi'
    by_cases e : k = n <;> by_cases e' : k' = n
    · rw [e, e']
    · rw [if_neg e'] at hk'; simp only [e] at hi; simp only [if_neg e'] at hi'; simp at hi
      have := lt _ _ _ _ hk' hi'; omega
    · rw [if_neg e] at hk; simp only [e'] at hi'; simp only [if_neg e] at hi; simp at hi'
      have := lt _ _ _ _ hk hi; omega
    · rw [if_neg e] at hk; rw [if_neg e'] at hk'; simp only [if_neg e] at hi; simp only [if_neg e'] at hi'
      exact hr.inj k k' y y' b z z' hk hk' hi hi'
  · intro b c hb
    obtain ⟨e, lo, hi, h4⟩ := hr.fz b c hb
    have hlt := (Array.getElem?_eq_some_iff.1 h4).1
    exact ⟨e, lo, hi, by rw [hh, Array.getElem?_push, if_neg (by omega)]; exact h4⟩
  · intro k y b z hk hfree hi
    rw [Io.put_at] at hi
    by_cases e : k = n
    · rw [if_pos e] at hi; cases hi
      cases hz : ι.fz w.heap.size with
      | none => exact hz
      | some c =>
        obtain ⟨_, _, _, h4⟩ := hr.fz _ c hz
        exact absurd (Array.getElem?_eq_some_iff.1 h4).1 (Nat.lt_irrefl _)
    · rw [if_neg e] at hk hi
      exact hr.sep k y b z hk hfree hi
  · intro k q hk
    rw [Io.put_at] at hk
    by_cases e : k = n
    · subst e; exact .inr ⟨Nat.le_refl _, Nat.lt_succ_self _⟩
    · simp only [if_neg e] at hk; exact .inl hk
  · rw [hh]; simp
  · intro b hb _
    rw [hh, Array.getElem?_push]; simp [show b ≠ w.heap.size by omega]
  · intro k y b z hk hi
    rw [Io.put_at] at hi
    by_cases e : k = n
    · subst e; simp at hi; exact .inr (by omega)
    · rw [if_neg e] at hk; simp only [if_neg e] at hi; exact .inl ⟨k, y, z, hk, hi⟩
  · intro k c e oo b z hk hi
    have hkn : k ≠ n := fun e => by rw [e, hsn] at hk; cases hk
    have hlt := lt _ _ _ _ hk hi
    exact ⟨by simp only [if_neg hkn]; exact hk, by rw [hh, Array.getElem?_push]; simp [show b ≠ w.heap.size by omega]⟩
section facts
variable {ops : Array Oper} {f0 f' : Fr} {s0 s' : St} {tr : List Ent} {bs : List (List Nat)}
theorem Drawn.le_end (H : Drawn P ops f0 s0 tr f' s' bs) {i : Nat} (hi : i ≤ ops.size) : (stAt tr s' i).nx ≤ s'.nx := by
  have := H.nx hi (Nat.le_refl _)
  rwa [H.end_.1] at this
/-- Blocks stay where no operation turns memory. -/
theorem Drawn.up (H : Drawn P ops f0 s0 tr f' s' bs) {m : Nat} (wf : ∀ k, (stAt tr s' m).nx ≤ k → k < s'.nx → (stAt tr s' m).obj k = none) : ∀ (i : Nat), m ≤ i → i ≤ ops.size → (∀ j e, m ≤ j → j < i → tr[j]? = some e → isE P e = false) →
    (∀ k, (stAt tr s' i).nx ≤ k → k < s'.nx → (stAt tr s' i).obj k = none) ∧ (∀ k o, (stAt tr s' m).obj k = some o → (stAt tr s' i).obj k = some o) ∧
    ∀ j o, m ≤ j → j < i → AlE P tr s' j o → (stAt tr s' i).obj (stAt tr s' j).nx = some o := by
  intro i
  induction i with
  | zero => intro hm _ _; have : m = 0 := by omega
            subst this; exact ⟨wf, fun _ _ h => h, fun j o h1 h2 => by omega⟩
  | succ i ih =>
    intro hm hi hno
    rcases Nat.lt_or_ge i m with h | h
    · have : m = i + 1 := by omega
      subst this; exact ⟨wf, fun _ _ h => h, fun j o h1 h2 => by omega⟩
    · obtain ⟨op, hop⟩ := H.op_of (i := i) (by omega)
      obtain ⟨e, he, _⟩ := H.ent hop
      obtain ⟨w1, w2, w3⟩ := ih h (by omega) (fun j e a b c => hno j e a (by omega) c)
      have same : stAt tr s' (i + 1) = stAt tr s' i → isA P e = false → (∀ k, (stAt tr s' (i + 1)).nx ≤ k → k < s'.nx → (stAt tr s' (i + 1)).obj k = none) ∧ (∀ k o, (stAt tr s' m).obj k = some o → (stAt tr s' (i + 1)).obj k = some o) ∧
          ∀ j o, m ≤ j → j < i + 1 → AlE P tr s' j o → (stAt tr s' (i + 1)).obj (stAt tr s' j).nx = some o := fun hs hA => by
        rw [hs]
        refine ⟨w1, w2, fun j o a b c => ?_⟩
        rcases Nat.lt_or_ge j i with g | g
        · exact w3 j o a g c
        · have : j = i := by omega
          subst this
          obtain ⟨e', c1, c2, _⟩ := c
          rw [he] at c1; cases c1; rw [hA] at c2; cases c2
      rcases H.kinds he with ⟨h0, _, h1, _⟩ | ⟨_, _, h0, _, h1⟩ | ⟨h1, _, h2, ob, mk, _, _, h3⟩ | ⟨h1, _, h2, _⟩
      · exact same h1 (by simp [isA, h0])
      · exact same h1 (by simp [isA, h0])
      · have hlt : (stAt tr s' i).nx < s'.nx := by
          have := H.le_end (i := i + 1) hi
          rw [h3] at this; exact this
        rw [h3]
        refine ⟨fun k a b => ?_, fun k o hk => ?_, fun j o a b c => ?_⟩
        · rw [St.nx_new] at a
          rw [St.obj_new, if_neg (by omega)]; exact w1 k (by omega) b
        · have := w2 k o hk
          rw [St.obj_new]
          by_cases e : k = (stAt tr s' i).nx
          · rw [e, w1 _ (Nat.le_refl _) hlt] at this; cases this
          · rw [if_neg e]; exact this
        · rw [St.obj_new]
          rcases Nat.lt_or_ge j i with g | g
          · have := w3 j o a g c
            by_cases e : (stAt tr s' j).nx = (stAt tr s' i).nx
            · rw [e, w1 _ (Nat.le_refl _) hlt] at this; cases this
            · rw [if_neg e]; exact this
          · have : j = i := by omega
            subst this
            rw [if_pos rfl]
            exact congrArg some (al_one H ⟨e, he, by simp [isA, h1, h2], h3⟩ c)
      · have := hno i e h (Nat.lt_succ_self _) he
        simp [isE, h1, h2] at this
end facts
section step
variable {ops : Array Oper} {f0 f' : Fr} {s0 s' : St} {tr : List Ent} {bs : List (List Nat)} {ι0 ι : Io} {a0 a : Act} {w0 w : World} {D : Nat → Prop} {m : Nat} {X : Hp}
/-- One more that neither turns memory nor makes a block. -/
theorem Inv.more (H : Drawn P ops f0 s0 tr f' s' bs) (I : Inv P ops f0 f' s0 s' tr ι0 a0 w0 D m X ι a w) {i : Nat} {e : Ent} {u : Value} (he : tr[i]? = some e) (hn : ¬ D i) (hr : ∀ d ∈ e.o.after, Region.binds .any d = true → D d.on)
    (hE : isE P e = false) (hA : isA P e = false) (hu : VR ι e.v u) : Inv P ops f0 f' s0 s' tr ι0 a0 w0 (fun j => D j ∨ j = i) m X ι (a.put e.o.dst u) w := by
  obtain ⟨z1, z2, z3⟩ := I.slots H (Io.le.refl ι) he hn hu
  refine ⟨I.st, I.mle, I.mE, fun j e' he' hE' => ?_, I.x1, fun j o hj hD hal => ?_, fun k o hk => ?_, I.wf, fun k a b => ?_, I.gl, z1, z2, z3, by rw [put_defers]; exact I.df, fun j o ho hD d hd hb => ?_, fun j hD => ?_⟩
  · have hji : j ≠ i := fun h => by subst h; rw [he] at he'; cases he'; rw [hE] at hE'; cases hE'
    rw [← I.eD j e' he' hE']; simp [hji]
  · rcases hD with hD | rfl
    · exact I.x2 j o hj hD hal
    · obtain ⟨e', c1, c2, _⟩ := hal
      rw [he] at c1; cases c1; rw [hA] at c2; cases c2
  · rcases I.x3 k o hk with h | ⟨j, h1, h2, h3⟩
    · exact .inl h
    · exact .inr ⟨j, h1, .inl h2, h3⟩
  · rcases I.fresh k a b with h | ⟨j, o, h1, h2, h3⟩
    · exact .inl h
    · exact .inr ⟨j, o, h1, .inl h2, h3⟩
  · rcases hD with hD | rfl
    · exact .inl (I.cl j o ho hD d hd hb)
    · have := (H.ent_o he).1
      rw [ho] at this; cases this
      exact .inl (hr d hd hb)
  · rcases hD with hD | rfl
    · exact I.dom j hD
    · rw [← H.len]; exact (List.getElem?_eq_some_iff.1 he).1
theorem Inv.reads (H : Drawn P ops f0 s0 tr f' s' bs) (I : Inv P ops f0 f' s0 s' tr ι0 a0 w0 D m X ι a w) {i : Nat} {e : Ent} (he : tr[i]? = some e) (hn : ¬ D i) (hb : ∀ j ∈ bs.getD i [], D j) (hrun : e.run = true) (hk : kindOf P e.o.op = .q)
    (hv : qA P (frAt tr f' i).ev (stAt tr s' i).obj e.o.op = some e.v) : qA P (frAt tr f' i).ev X e.o.op = some e.v := by
  cases hm : readsMem e.o.op with
  | false => rw [← hv]; exact qA_pure hm
  | true =>
    have h := H.reads
    unfold readsOk at h
    rw [List.all_eq_true] at h
    have h1 := h i (List.mem_range.2 (List.getElem?_eq_some_iff.1 he).1)
    rw [he] at h1
    simp only [hrun, hk, hm, decide_true, Bool.and_self, Bool.not_true, Bool.false_or, List.all_eq_true] at h1
    have h2 := h1 m (List.mem_range.2 (by rw [H.len]; exact Nat.lt_succ_of_le I.mle))
    have c2 : inWindow P bs tr m i = true := by
      unfold inWindow
      rw [List.all_eq_true]
      intro j hj
      cases hy : tr[j]? with
      | none => rfl
      | some y =>
        cases hE : isE P y with
        | false => simp [hE]
        | true =>
          have hd := I.eD j y hy hE
          by_cases hjm : j < m
          · have hDj := hd.2 hjm
            have : i ∉ bs.getD j [] := fun hi => hn (H.closed I.cl j hDj i hi)
            simp only [hE, if_pos hjm, Bool.not_true, Bool.false_or, Bool.not_eq_true']
            simpa using this
          · have : j ∉ bs.getD i [] := fun hj' => hjm (hd.1 (hb j hj'))
            simp only [hE, if_neg hjm, Bool.not_true, Bool.false_or, Bool.not_eq_true']
            simpa using this
    simp only [c2, Bool.not_true, Bool.or_false] at h2
    rw [Bool.or_eq_true] at h2
    have h2 := h2.resolve_left (by
      rcases I.mE with g | ⟨y, g0, g1, g2⟩
      · simp [g]
      · simp [g1, g2])
    rw [(H.ent_o he).2.2] at h2
    split at h2
    · rename_i v hq
      have := eqv_eq _ _ h2
      subst this
      exact qA_mono I.x1 hq
    · cases h2
end step
end
end Go.Proofs.YtcpmhehklicpfaaGreatDoor.Ev
