/- Frames; a region's operations one behind the other. -/
import Derived.Test.YtcpmhehklicpfaaGreatDoorEvE5
import Derived.Defers
namespace Go.Proofs.YtcpmhehklicpfaaGreatDoor.Ev
open Go
set_option linter.unusedVariables false
section
variable {P : Program}
def ADR (P : Program) (ι : Io) : AD → Deferred → Prop
  | .call f l, d => ∃ fv cap, d.target = .fn fv cap ∧ ∃ as : Array Value, VRs ι l as.toList ∧ ∀ w, (invoke d.target d.args).run P w = .ok (.enter f as) w
  | .coll r, d => ∃ b x, ι r = some (b, x) ∧ d = { target := .collected b, args := #[] }
def DefsR (P : Program) (ι : Io) : List AD → List Deferred → Prop
  | [], ds => ds = []
  | a :: l, ds => ∃ d r, ds = d :: r ∧ ADR P ι a d ∧ DefsR P ι l r
theorem ADR.mono {ι ι' : Io} (h : Io.le ι ι') {a : AD} {d : Deferred} (hd : ADR P ι a d) : ADR P ι' a d := by
  cases a with
  | call f l => obtain ⟨fv, cap, h0, as, h1, h2⟩ := hd; exact ⟨fv, cap, h0, as, h1.mono h, h2⟩
  | coll r => obtain ⟨b, x, h1, h2⟩ := hd; exact ⟨b, x, h _ _ h1, h2⟩
theorem DefsR.mono {ι ι' : Io} (h : Io.le ι ι') : ∀ {l : List AD} {ds : List Deferred}, DefsR P ι l ds → DefsR P ι' l ds
  | [], _, hd => hd
  | a :: l, ds, hd => by obtain ⟨d, r, h1, h2, h3⟩ := hd; exact ⟨d, r, h1, h2.mono h, DefsR.mono h h3⟩
/-- The package's own variables lie where they lie. -/
def Glob (ι : Io) : Prop := ∀ g, g < 64 → ∃ x, ι g = some (g, x)
structure FR (P : Program) (ι : Io) (f : Fr) (a : Act) : Prop where
  gl : Glob ι
  tm : TmR ι f.tm f.nt a.tmps
  df : DefsR P ι f.df a.defers
theorem FR.mono {ι ι' : Io} (h : Io.le ι ι') {f : Fr} {a : Act} (hf : FR P ι f a) : FR P ι' f a := ⟨fun g hg => by obtain ⟨x, hx⟩ := hf.gl g hg; exact ⟨x, h _ _ hx⟩, hf.tm.mono h, hf.df.mono h⟩
theorem put_defers (a : Act) (d : Option Tmp) (u : Value) : (a.put d u).defers = a.defers := by cases d <;> rfl
theorem TmR.set {ι : Io} {tm : Tr AV} {nt : Nat} {tmps : Array Value} (h : TmR ι tm nt tmps) {d : Tmp} {v : AV} {u : Value} (hd : d < nt) (hv : VR ι v u) : TmR ι (tm.set d (some v)) nt (tmps.setIfInBounds d u) := by
  refine ⟨by simp [h.1], fun t x hx => ?_⟩
  rw [Tr.get_set] at hx
  by_cases e : t = d
  · subst e
    rw [if_pos rfl] at hx; cases hx
    have : t < tmps.size := by rw [h.1]; exact hd
    exact ⟨hd, by simp [Array.getD_eq_getD_getElem?, this, hv]⟩
  · rw [if_neg e] at hx
    have := h.2 t x hx
    simp only [Array.getD_eq_getD_getElem?] at this ⊢
    rw [Array.getElem?_setIfInBounds_ne (Ne.symm e)]
    exact this
theorem FR.put {ι : Io} {f f' : Fr} {a : Act} (hf : FR P ι f a) {d : Option Tmp} {v : AV} {u : Value} (hp : f.put d v = some f') (hv : VR ι v u) : FR P ι f' (a.put d u) := by
  cases d with
  | none => simp only [Fr.put] at hp; cases hp; exact hf
  | some d =>
    simp only [Fr.put] at hp
    split at hp
    · rename_i hd; cases hp; exact ⟨hf.gl, hf.tm.set hd hv, hf.df⟩
    · cases hp
/-- What an operand of the frame stands for. -/
theorem ev_R {ι : Io} {f : Fr} {a : Act} (hf : FR P ι f a) (o : Operand) (v : AV) (h : f.ev o = some v) : VR ι v (a.eval o) := by
  cases o with
  | tmp t => exact (hf.tm.2 t v h).2
  | const c => exact ofVal_VR 4 c v h
  | global g =>
    simp only [Fr.ev] at h
    split at h
    · rename_i hg
      cases h
      obtain ⟨x, hx⟩ := hf.gl g hg
      simp only [VR]
      exact ⟨g, x, hx, rfl⟩
    · cases h
  | func k =>
    simp only [Fr.ev] at h; cases h
    simp only [VR]
    exact ⟨#[], #[], rfl, VRs.nil, VRs.nil⟩
def OpsR (ι : Io) (f : Fr) (a : Act) (o : Oper) : Prop := ∀ x ∈ o.op.operands, ∀ v, f.ev x = some v → VR ι v (a.eval x)
/-- Who called: nobody who panics. -/
def CsOk (P : Program) (kd : CallKind) (ro : Option Nat) (cs : List Frame) : Prop :=
  (kd = .normal ∧ (ro = none ∨ P.follows .rangeFuncRecover = true)) ∨ (kd = .deferred ∧ ro = none ∧ ∃ c r, cs = c :: r ∧ c.mode = .returning)
def Fresh (ι : Io) (n m : Nat) : Prop := ∀ k, n ≤ k → k < m → ι k = none
theorem Fresh.left {ι : Io} {n m p : Nat} (h : Fresh ι n p) (hm : m ≤ p) : Fresh ι n m := fun k h1 h2 => h k h1 (Nat.lt_of_lt_of_le h2 hm)
theorem Fresh.right {ι ι' : Io} {h h' : Hp} {n m p : Nat} {w w' : World} (hf : Fresh ι n p) (st : Step P ι h n w ι' h' m w') : Fresh ι' m p := fun k h1 h2 => by
  cases e : ι' k with
  | none => rfl
  | some q =>
    have := st.nx
    rcases st.new k q e with h3 | ⟨_, h4⟩
    · rw [hf k (by omega) h2] at h3; cases h3
    · omega
/-! ### The machine's steps at an operation -/
section steps
variable {b : Frame} {a : Act} {k : List Item} {cs : List Frame} {w w' : World} {ops : Array Oper} {i : Nat} {rest : List Nat} {o : Oper}
theorem fin_op (ho : ops[i]? = some o) (v : Value) : (b.atR a (.inRegion ops (i :: rest) :: k)).finish v = b.atR (a.put o.dst v) (.inRegion ops rest :: k) := by
  rw [Frame.finish_atR, ho]; rfl
theorem step_value (ho : ops[i]? = some o) (hw : Region.wanted o (yielded ops a.tmps) = true) {v : Value} (hd : ∀ c, o.op ≠ .defer c) (hr : (execOp a.eval o).run P w = .ok (.value v) w') :
    step P (lone (b.atR a (.inRegion ops (i :: rest) :: k)) cs w) = .next (lone (b.atR (a.put o.dst v) (.inRegion ops rest :: k)) cs w') := by
  have hg := stepGR_op (P := P) (b := b) (k := k) (cs := cs) (w := w) (rest := rest) ho hw
  rw [Oper.semAt_eq _ _ _ hd] at hg
  refine step_lone_go ?_
  rw [hg, ← fin_op ho]; simp [stepG.apply, hr]
theorem step_skip_op (ho : ops[i]? = some o) (hw : Region.wanted o (yielded ops a.tmps) = true) (hd : ∀ c, o.op ≠ .defer c) (hr : (execOp a.eval o).run P w = .ok .skip w') :
    step P (lone (b.atR a (.inRegion ops (i :: rest) :: k)) cs w) = .next (lone (b.atR (a.put o.dst undef) (.inRegion ops rest :: k)) cs w') := by
  have hg := stepGR_op (P := P) (b := b) (k := k) (cs := cs) (w := w) (rest := rest) ho hw
  rw [Oper.semAt_eq _ _ _ hd] at hg
  refine step_lone_go ?_
  rw [hg, ← fin_op ho]; simp [stepG.apply, hr]
theorem step_unwanted (ho : ops[i]? = some o) (hw : Region.wanted o (yielded ops a.tmps) = false) :
    step P (lone (b.atR a (.inRegion ops (i :: rest) :: k)) cs w) = .next (lone (b.atR (a.put o.dst undef) (.inRegion ops rest :: k)) cs w) := by
  have hs := stepR_op_skip (P := P) (b := b) (a := a) (k := k) (cs := cs) (w := w) (ops := ops) (i := i) (rest := rest) (by simp [ho, hw])
  simpa [ho] using hs
theorem step_defer_op (hro : b.roundOf = none) (ho : ops[i]? = some o) (hw : Region.wanted o (yielded ops a.tmps) = true) {d : Deferred} (hr : (execOp a.eval o).run P w = .ok (.defer d) w') :
    step P (lone (b.atR a (.inRegion ops (i :: rest) :: k)) cs w) = .next (lone (b.atR (({ a with defers := d :: a.defers } : Act).put o.dst undef) (.inRegion ops rest :: k)) cs w') := by
  have hg := stepGR_op (P := P) (b := b) (k := k) (cs := cs) (w := w) (rest := rest) ho hw
  rw [hro, Oper.semAt_none] at hg
  refine step_lone_go ?_
  have : ({ b.atR a (.inRegion ops (i :: rest) :: k) with defers := d :: a.defers } : Frame).finish undef = b.atR (({ a with defers := d :: a.defers } : Act).put o.dst undef) (.inRegion ops rest :: k) := by
    have := Frame.finish_atR b ({ a with defers := d :: a.defers } : Act) ops i rest k undef
    rw [ho] at this; exact this
  rw [hg]; simp only [stepG.apply, Sem.runT_eq, hr, GStep.bare_after]
  exact congrArg (fun fr => GStep.go { frame := fr, callers := cs, status := .running, dying := none } w') this
theorem step_enter_op (ho : ops[i]? = some o) (hw : Region.wanted o (yielded ops a.tmps) = true) (hd : ∀ c, o.op ≠ .defer c) {g : FuncId} {args : Array Value} (hr : (execOp a.eval o).run P w = .ok (.enter g args) w') :
    step P (lone (b.atR a (.inRegion ops (i :: rest) :: k)) cs w) = .next (lone (Frame.enter P g args .normal) (b.atR a (.inRegion ops (i :: rest) :: k) :: cs) w') := by
  have hg := stepGR_op (P := P) (b := b) (k := k) (cs := cs) (w := w) (rest := rest) ho hw
  rw [Oper.semAt_eq _ _ _ hd] at hg
  exact step_lone_go (by rw [hg]; simp [stepG.apply, hr, Frame.atR])
theorem step_round_op (ho : ops[i]? = some o) (hw : Region.wanted o (yielded ops a.tmps) = true) (hd : ∀ c, o.op ≠ .defer c) {l : Nat} {g : FuncId} {tmps : Array Value} {asg body : Code} (hr : (execOp a.eval o).run P w = .ok (.round l g tmps asg body) w') :
    step P (lone (b.atR a (.inRegion ops (i :: rest) :: k)) cs w) = .next (lone (Frame.round l g tmps asg body .normal) (b.atR a (.inRegion ops (i :: rest) :: k) :: cs) w') := by
  have hg := stepGR_op (P := P) (b := b) (k := k) (cs := cs) (w := w) (rest := rest) ho hw
  rw [Oper.semAt_eq _ _ _ hd] at hg
  exact step_lone_go (by rw [hg]; simp [stepG.apply, hr, Frame.atR])
theorem step_recover_op (hcs : CsOk P b.kind b.roundOf cs) (ho : ops[i]? = some o) (hw : Region.wanted o (yielded ops a.tmps) = true) (hd : ∀ c, o.op ≠ .defer c) (hr : (execOp a.eval o).run P w = .ok .recover w') :
    step P (lone (b.atR a (.inRegion ops (i :: rest) :: k)) cs w) = .next (lone (b.atR (a.put o.dst .nilIface) (.inRegion ops rest :: k)) cs w') := by
  have hg := stepGR_op (P := P) (b := b) (k := k) (cs := cs) (w := w) (rest := rest) ho hw
  rw [Oper.semAt_eq _ _ _ hd] at hg
  refine step_lone_go ?_
  have ht : tryRecover (b.atR a (.inRegion ops (i :: rest) :: k)) cs = none := by
    rcases hcs with ⟨h1, _⟩ | ⟨h1, _, c, r, rfl, h2⟩
    · simp [tryRecover, Frame.atR, h1]
    · simp [tryRecover, Frame.atR, h1, h2]
  rw [hg, ← fin_op ho]
  simp only [stepG.apply, Sem.runT_eq, hr, GStep.bare_after]
  rcases hcs with ⟨h1, h2⟩ | ⟨h1, h2, _⟩
  · rcases h2 with h2 | h2
    · have e : (b.atR a (.inRegion ops (i :: rest) :: k)).roundOf = none := h2
      simp only [e, ht]; rfl
    · cases e : (b.atR a (.inRegion ops (i :: rest) :: k)).roundOf with
      | none => simp only [ht]; rfl
      | some l => simp only [h2, if_true, ht]; rfl
  · have e : (b.atR a (.inRegion ops (i :: rest) :: k)).roundOf = none := h2
    simp only [e, ht]; rfl
end steps
end
end Go.Proofs.YtcpmhehklicpfaaGreatDoor.Ev
