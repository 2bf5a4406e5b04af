/- What the reckoner's tasks say; code. -/
import Derived.Test.YtcpmhehklicpfaaGreatDoorEvCall
namespace Go.Proofs.YtcpmhehklicpfaaGreatDoor.Ev
open Go
set_option linter.unusedVariables false
section
variable {P : Program}
/-- How a piece of code is left. -/
def Lands (P : Program) (m : Machine) (b : Frame) (a' : Act) (k : List Item) (cs : List Frame) (w' : World) : AX → Prop
  | .normal => Steps P m (lone (b.atR a' k) cs w')
  | .ret => ∃ k₁, Steps P m (lone (b.atR a' (.code .ret :: k₁)) cs w')
  | .exit id => ∃ k₁, exitTo id k₁ = exitTo id k ∧ Steps P m (lone (b.atR a' (.code (.exit id) :: k₁)) cs w')
def CodeS (P : Program) (c : Code) (f : Fr) (s : St) (x : AX) (f' : Fr) (s' : St) : Prop :=
  f.df.length ≤ f'.df.length ∧ ∀ (b : Frame) (ι : Io) (a : Act) (w : World) (k : List Item) (cs : List Frame), CsOk P b.kind b.roundOf cs → FR P ι f a → Rel P ι s.obj w → Fresh ι s.nx s'.nx → (b.roundOf = none ∨ f'.df.length = f.df.length) →
    ∃ ι' a' w', Step P ι s.obj s.nx w ι' s'.obj s'.nx w' ∧ FR P ι' f' a' ∧ Lands P (lone (b.atR a (.code c :: k)) cs w) b a' k cs w' x
def CallS (P : Program) (g : FuncId) (l : List AV) (s : St) (v : AV) (s' : St) : Prop :=
  ∀ (kd : CallKind) (ι : Io) (w : World) (as : Array Value) (cs : List Frame), CsOk P kd none cs → Glob ι → VRs ι l as.toList → Rel P ι s.obj w → Fresh ι s.nx s'.nx →
    ∃ ι' w' u fr, Step P ι s.obj s.nx w ι' s'.obj s'.nx w' ∧ VR ι' v u ∧ Steps P (lone (Frame.enter P g as kd) cs w) (lone fr cs w') ∧ fr.kind = kd ∧ fr.going P w' (.returned u) ∧ fr.fn = g
def DefsS (P : Program) (l : List AD) (s s' : St) : Prop :=
  ∀ (fr : Frame) (ι : Io) (w : World) (cs : List Frame), fr.mode = .returning → Glob ι → DefsR P ι l fr.defers → Rel P ι s.obj w → Fresh ι s.nx s'.nx →
    ∃ ι' w', Step P ι s.obj s.nx w ι' s'.obj s'.nx w' ∧ Steps P (lone fr cs w) (lone { fr with defers := [] } cs w')
def RoundS (P : Program) (r : Nat) (l : List AV) (s : St) (v : AV) (s' : St) : Prop :=
  ∀ (ι : Io) (w : World) (as : Array Value) (c : Frame) (cs : List Frame), Glob ι → VRs ι l as.toList → Rel P ι s.obj w → Fresh ι s.nx s'.nx →
    ∃ ι' w' u b x g tmps asg body, Step P ι s.obj s.nx w ι' s'.obj s'.nx w' ∧ VR ι' v u ∧ ι r = some (b, x) ∧ (Instr.yield b as).run P w = .ok (.round b g tmps asg body) w ∧
      Steps P (lone (Frame.round b g tmps asg body .normal) (c :: cs) w) (lone (c.finish u) cs w')
def TaskS (P : Program) : Task → St → Res → St → Prop
  | .code c f, s, .at x f', s' => CodeS P c f s x f' s'
  | .ops draw ops l acc f, s, .at .normal f', s' => ∃ tr, TraceOk P ops l f s tr f' s' ∧ (draw = false ∨ drawOk P ops (acc.reverse ++ tr) s' = true)
  | .call g l, s, .val v, s' => CallS P g l s v s'
  | .defs l, s, .val _, s' => DefsS P l s s'
  | .round r l, s, .val v, s' => RoundS P r l s v s'
  | _, _, _, _ => False
def Good (P : Program) (rec : Task → St → Option (Res × St)) : Prop := ∀ t s r s', rec t s = some (r, s') → s.nx ≤ s'.nx ∧ TaskS P t s r s'
theorem Lands.head {m m' : Machine} {b : Frame} {a' : Act} {k : List Item} {cs : List Frame} {w' : World} {x : AX} (h : Steps P m m') (hl : Lands P m' b a' k cs w' x) : Lands P m b a' k cs w' x := by
  cases x with
  | normal => exact h.trans hl
  | ret => obtain ⟨k₁, h1⟩ := hl; exact ⟨k₁, h.trans h1⟩
  | exit id => obtain ⟨k₁, h0, h1⟩ := hl; exact ⟨k₁, h0, h.trans h1⟩
theorem steps_shift {m m' m1 e : Machine} (h : step P m = .next m1) (h' : step P m' = .next m1) (hs : Steps P m e) (hne : e ≠ m) : Steps P m' e := by
  obtain ⟨n, hn⟩ := hs
  cases n with
  | zero => simp only [runN] at hn; cases hn; exact absurd rfl hne
  | succ n =>
    refine ⟨n + 1, ?_⟩
    simp only [runN, h] at hn
    simp only [runN, h']
    exact hn
theorem lone_todo {fr fr' : Frame} {cs cs' : List Frame} {w w' : World} (h : lone fr cs w = lone fr' cs' w') : fr.todo = fr'.todo := by
  have := congrArg Machine.gs h
  simp [lone] at this
  exact congrArg Frame.todo this.1
theorem FR.refl_code {c : Code} {f : Fr} {s : St} {x : AX} (h : ∀ (b : Frame) (a : Act) (w : World) (k : List Item) (cs : List Frame), (b.roundOf = none ∨ True) → Lands P (lone (b.atR a (.code c :: k)) cs w) b a k cs w x) : CodeS P c f s x f s :=
  ⟨Nat.le_refl _, fun b ι a w k cs _ hf hr _ _ => ⟨ι, a, w, Step.refl hr, hf, h b a w k cs (.inr trivial)⟩⟩
theorem code_seq {x y : Code} {f f1 f' : Fr} {s s1 s' : St} {e : AX} (h1 : CodeS P x f s .normal f1 s1) (n1 : s.nx ≤ s1.nx) (h2 : CodeS P y f1 s1 e f' s') (n2 : s1.nx ≤ s'.nx) : CodeS P (.seq x y) f s e f' s' := by
  refine ⟨Nat.le_trans h1.1 h2.1, fun b ι a w k cs hcs hf hr hfr hd => ?_⟩
  have l1 := h1.1; have l2 := h2.1
  obtain ⟨ι1, a1, w1, s1', f1', t1⟩ := h1.2 b ι a w (.code y :: k) cs hcs hf hr (hfr.left n2) (hd.imp id fun h => by omega)
  obtain ⟨ι2, a2, w2, s2', f2', t2⟩ := h2.2 b ι1 a1 w1 k cs hcs f1' s1'.rel (hfr.right s1') (hd.imp id fun h => by omega)
  exact ⟨ι2, a2, w2, s1'.trans s2', f2', t2.head (.head stepR_seq t1)⟩
theorem code_seq_left {x y : Code} {f f' : Fr} {s s' : St} {e : AX} (h1 : CodeS P x f s e f' s') (he : e ≠ .normal) : CodeS P (.seq x y) f s e f' s' := by
  refine ⟨h1.1, fun b ι a w k cs hcs hf hr hfr hd => ?_⟩
  obtain ⟨ι1, a1, w1, s1', f1', t1⟩ := h1.2 b ι a w (.code y :: k) cs hcs hf hr hfr hd
  refine ⟨ι1, a1, w1, s1', f1', ?_⟩
  cases e with
  | normal => exact absurd rfl he
  | ret => obtain ⟨k₁, h⟩ := t1; exact ⟨k₁, .head stepR_seq h⟩
  | exit id => obtain ⟨k₁, h0, h⟩ := t1; exact ⟨k₁, h0, .head stepR_seq h⟩
theorem code_cond {c : Operand} {x y : Code} {t : Bool} {f f' : Fr} {s s' : St} {e : AX} (hc : f.ev c = some (.bool t)) (h : CodeS P (if t then x else y) f s e f' s') : CodeS P (.cond c x y) f s e f' s' := by
  refine ⟨h.1, fun b ι a w k cs hcs hf hr hfr hd => ?_⟩
  obtain ⟨ι1, a1, w1, s1', f1', t1⟩ := h.2 b ι a w k cs hcs hf hr hfr hd
  have hv := ev_R hf c _ hc
  simp only [VR] at hv
  exact ⟨ι1, a1, w1, s1', f1', t1.head (.one (stepR_cond hv))⟩
theorem code_block {id : Nat} {c : Code} {f f' : Fr} {s s' : St} {e : AX} (h : CodeS P c f s e f' s') : CodeS P (.block id c) f s (match e with | .exit j => if j = id then .normal else .exit j | e => e) f' s' := by
  refine ⟨h.1, fun b ι a w k cs hcs hf hr hfr hd => ?_⟩
  obtain ⟨ι1, a1, w1, s1', f1', t1⟩ := h.2 b ι a w (.inBlock id :: k) cs hcs hf hr hfr hd
  refine ⟨ι1, a1, w1, s1', f1', ?_⟩
  cases e with
  | normal => exact Steps.head stepR_block (Steps.trans t1 (.one stepR_inBlock))
  | ret => obtain ⟨k₁, h⟩ := t1; exact ⟨k₁, .head stepR_block h⟩
  | exit j =>
    obtain ⟨k₁, h0, h⟩ := t1
    simp only [exitTo] at h0
    by_cases hj : j = id
    · subst hj
      simp only [beq_self_eq_true, if_true] at h0
      simp only [if_true]
      exact Steps.head stepR_block (Steps.trans h (.one (stepR_exit h0)))
    · have : (id == j) = false := by simp [Ne.symm hj]
      rw [this] at h0
      simp only [if_neg hj]
      exact ⟨k₁, h0, .head stepR_block h⟩
theorem code_loop {c : Code} {f f1 f' : Fr} {s s1 s' : St} {e : AX} (h1 : CodeS P c f s .normal f1 s1) (n1 : s.nx ≤ s1.nx) (h2 : CodeS P (.loop c) f1 s1 e f' s') (n2 : s1.nx ≤ s'.nx) : CodeS P (.loop c) f s e f' s' := by
  refine ⟨Nat.le_trans h1.1 h2.1, fun b ι a w k cs hcs hf hr hfr hd => ?_⟩
  have l1 := h1.1; have l2 := h2.1
  obtain ⟨ι1, a1, w1, s1', f1', t1⟩ := h1.2 b ι a w (.inLoop c :: k) cs hcs hf hr (hfr.left n2) (hd.imp id fun h => by omega)
  obtain ⟨ι2, a2, w2, s2', f2', t2⟩ := h2.2 b ι1 a1 w1 k cs hcs f1' s1'.rel (hfr.right s1') (hd.imp id fun h => by omega)
  refine ⟨ι2, a2, w2, s1'.trans s2', f2', Lands.head (.head stepR_loop t1) ?_⟩
  cases e with
  | normal =>
    refine steps_shift stepR_loop stepR_inLoop t2 fun h => ?_
    have := congrArg List.length (lone_todo h)
    simp [Frame.atR] at this
  | ret =>
    obtain ⟨k₁, h⟩ := t2
    exact ⟨k₁, steps_shift stepR_loop stepR_inLoop h fun h => by have := lone_todo h; simp [Frame.atR] at this⟩
  | exit id =>
    obtain ⟨k₁, h0, h⟩ := t2
    exact ⟨k₁, h0, steps_shift stepR_loop stepR_inLoop h fun h => by have := lone_todo h; simp [Frame.atR] at this⟩
theorem code_loop_left {c : Code} {f f' : Fr} {s s' : St} {e : AX} (h1 : CodeS P c f s e f' s') (he : e ≠ .normal) : CodeS P (.loop c) f s e f' s' := by
  refine ⟨h1.1, fun b ι a w k cs hcs hf hr hfr hd => ?_⟩
  obtain ⟨ι1, a1, w1, s1', f1', t1⟩ := h1.2 b ι a w (.inLoop c :: k) cs hcs hf hr hfr hd
  refine ⟨ι1, a1, w1, s1', f1', ?_⟩
  cases e with
  | normal => exact absurd rfl he
  | ret => obtain ⟨k₁, h⟩ := t1; exact ⟨k₁, .head stepR_loop h⟩
  | exit id => obtain ⟨k₁, h0, h⟩ := t1; exact ⟨k₁, h0, .head stepR_loop h⟩
theorem stepR_scope {b : Frame} {a : Act} {k : List Item} {cs : List Frame} {w : World} {c : Code} : step P (lone (b.atR a (.code (.scope c) :: k)) cs w) = .next (lone (b.atR a (.code c :: .inScope c :: k)) cs w) :=
  step_lone_go (by simp [stepG, stepG.exec, Frame.atR])
theorem stepR_inScope {b : Frame} {a : Act} {k : List Item} {cs : List Frame} {w : World} {c : Code} : step P (lone (b.atR a (.inScope c :: k)) cs w) = .next (lone (b.atR a k) cs w) :=
  step_lone_go (by simp [stepG, stepG.exec, Frame.atR])
theorem code_scope {c : Code} {f f' : Fr} {s s' : St} {e : AX} (h1 : CodeS P c f s e f' s') : CodeS P (.scope c) f s e f' s' := by
  refine ⟨h1.1, fun b ι a w k cs hcs hf hr hfr hd => ?_⟩
  obtain ⟨ι1, a1, w1, s1', f1', t1⟩ := h1.2 b ι a w (.inScope c :: k) cs hcs hf hr hfr hd
  refine ⟨ι1, a1, w1, s1', f1', ?_⟩
  cases e with
  | normal => exact Steps.head stepR_scope (Steps.trans t1 (.one stepR_inScope))
  | ret => obtain ⟨k₁, h⟩ := t1; exact ⟨k₁, .head stepR_scope h⟩
  | exit id => obtain ⟨k₁, h0, h⟩ := t1; exact ⟨k₁, h0, .head stepR_scope h⟩
theorem code_region (hm : P.follows .mixedOrders = true) {id : Nat} {ops : Array Oper} {draw : Bool} {f f' : Fr} {s s' : St} {tr : List Ent} (h : TraceOk P ops ops.toList f s tr f' s') (hd : draw = false ∨ drawOk P ops tr s' = true) : CodeS P (.region id ops draw) f s .normal f' s' := by
  refine ⟨h.df, fun b ι a w k cs hcs hf hr hfr hro => ?_⟩
  cases draw with
  | false =>
    obtain ⟨ι1, a1, w1, s1', f1', t1⟩ := seq_sound h 0 rfl b ι a w k cs hcs hf hr hfr hro
    refine ⟨ι1, a1, w1, s1', f1', Steps.head stepR_region ?_⟩
    rw [List.range_eq_range']
    simpa using t1
  | true =>
    obtain ⟨bs, H⟩ := Drawn.of h (hd.resolve_left (by simp))
    obtain ⟨ι1, a1, w1, s1', f1', t1⟩ := draw_sound H hm (k := k) id hcs hf hr hfr
    exact ⟨ι1, a1, w1, s1', f1', t1⟩
end
end Go.Proofs.YtcpmhehklicpfaaGreatDoor.Ev
