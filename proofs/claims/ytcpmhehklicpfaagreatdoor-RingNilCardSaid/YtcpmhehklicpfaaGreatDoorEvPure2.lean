/- Operators and conversions. -/
import Derived.Test.YtcpmhehklicpfaaGreatDoorEvPure
namespace Go.Proofs.YtcpmhehklicpfaaGreatDoor.Ev
open Go
set_option linter.unusedVariables false
section
variable {P : Program} {ι : Io} {h : Hp} {w : World}
theorem guard_none {op : BinOp} {t : TypeId} {X Y : Operand} {a b : Value} (h1 : ¬ (a = .nilIface ∧ b = .nilIface)) (h2 : ∀ u v, ¬ (a = .agg u ∧ b = .agg v)) (w : World) : (eqGuard op t X Y a b).run P w = .ok () w := by
  cases op <;> simp only [eqGuard] <;> first
    | rfl
    | (simp only [Bool.not_true, Bool.false_eq_true, if_false]
       split
       · exact absurd ⟨rfl, rfl⟩ h1
       · exact absurd ⟨rfl, rfl⟩ (h2 _ _)
       · rfl)
theorem guard_nil {op : BinOp} {t : TypeId} {X Y : Operand} (hc : (isConst X || isConst Y) = true) (w : World) : (eqGuard op t X Y .nilIface .nilIface).run P w = .ok () w := by
  cases op <;> simp only [eqGuard] <;> first
    | rfl
    | (simp only [Bool.not_true, Bool.false_eq_true, if_false]
       rw [if_pos]
       · rfl
       · cases X <;> cases Y <;> simp_all [isConst])
theorem run_guard {op : BinOp} {t : TypeId} {X Y : Operand} {x y : AV} {x' y' : Value} (hg : guardOk P t (isConst X || isConst Y) x y = true) (hx : VR ι x x') (hy : VR ι y y') (hx0 : x ≠ .any) (hy0 : y ≠ .any) (w : World) :
    (eqGuard op t X Y x' y').run P w = .ok () w := by
  by_cases h1 : x' = .nilIface ∧ y' = .nilIface
  · obtain ⟨rfl, rfl⟩ := h1
    refine guard_nil ?_ w
    cases x <;> first | (exact absurd rfl hx0) | skip
    all_goals first | skip | skip
    all_goals first
      | (simp only [VR] at hx; done)
      | (rename_i a; rcases a with _ | ⟨a1, a2⟩ <;> simp [VR] at hx; done)
      | (rename_i a _ _; rcases a with _ | ⟨a1, a2⟩ <;> simp [VR] at hx; done)
      | (simp [VR] at hx; done)
      | skip
    cases y <;> first | (exact absurd rfl hy0) | skip
    all_goals first
      | (rename_i a; rcases a with _ | ⟨a1, a2⟩ <;> simp [VR] at hy; done)
      | (rename_i a _ _; rcases a with _ | ⟨a1, a2⟩ <;> simp [VR] at hy; done)
      | (simp [VR] at hy; done)
      | skip
    simpa [guardOk] using hg
  · by_cases h2 : ∃ u v, x' = .agg u ∧ y' = .agg v
    · obtain ⟨u, v, rfl, rfl⟩ := h2
      refine run_eqGuard_agg w op t X Y u v ?_
      cases x <;> first | (exact absurd rfl hx0) | skip
      all_goals first
        | (rename_i a; rcases a with _ | ⟨a1, a2⟩ <;> simp [VR] at hx; done)
        | (rename_i a _ _; rcases a with _ | ⟨a1, a2⟩ <;> simp [VR] at hx; done)
        | (simp [VR] at hx; done)
        | skip
      cases y <;> first | (exact absurd rfl hy0) | skip
      all_goals first
        | (rename_i a; rcases a with _ | ⟨a1, a2⟩ <;> simp [VR] at hy; done)
        | (rename_i a _ _; rcases a with _ | ⟨a1, a2⟩ <;> simp [VR] at hy; done)
        | (simp [VR] at hy; done)
        | skip
      simpa [guardOk] using hg
    · exact guard_none h1 (fun u v e => h2 ⟨u, v, e⟩) w
theorem eqA_any {n : Nat} {t : TypeId} {y : AV} : eqA P n t .any y = none := by
  cases n with
  | zero => rfl
  | succ n => unfold eqA; split <;> first | rfl | contradiction
theorem eqA_any' {n : Nat} {t : TypeId} {x : AV} : eqA P n t x .any = none := by
  cases n with
  | zero => rfl
  | succ n => unfold eqA; split <;> first | rfl | contradiction
/-- Values that the machine compares by their type. -/
def eqShape : Value → Value → Bool
  | .bool _, .bool _ => true
  | .pointer _, .pointer _ => true
  | .nilIface, .nilIface => true
  | .nilIface, .iface _ _ => true
  | .iface _ _, .nilIface => true
  | .slice _ _ _, .slice _ _ _ => true
  | .map _, .map _ => true
  | .nilFunc, .nilFunc => true
  | .nilFunc, .func _ _ _ => true
  | .func _ _ _, .nilFunc => true
  | .agg _, .agg _ => true
  | _, _ => false
theorem binOp_shape {t : TypeId} {a b : Value} (hs : eqShape a b = true) (w : World) (c : Bool) (hc : (Op.equalIn 10000 t a b).run P w = .ok c w) :
    (binOp .eql t a b).run P w = .ok (.bool c) w ∧ (binOp .neq t a b).run P w = .ok (.bool !c) w := by
  cases a <;> cases b <;> first
    | (simp [eqShape] at hs; done)
    | (refine ⟨?_, ?_⟩ <;> (simp only [binOp]; simp [Op.equal, Op.maxDepth, hc]))
theorem eqA_shape {n : Nat} {t : TypeId} {x y : AV} {b : Bool} {x' y' : Value} (h : eqA P n t x y = some b) (hx : VR ι x x') (hy : VR ι y y') (hi : ∀ k i j m, ¬ (x = .int k i ∧ y = .int j m)) (hs : ∀ u v, ¬ (x = .str u ∧ y = .str v)) : eqShape x' y' = true := by
  cases n with
  | zero => simp [eqA] at h
  | succ n =>
    unfold eqA at h
    split at h <;> first | (cases h; done) | skip
    case _ => simp only [VR] at hx hy; subst hx hy; rfl
    case _ => exact absurd ⟨rfl, rfl⟩ (hi _ _ _ _)
    case _ => exact absurd ⟨rfl, rfl⟩ (hs _ _)
    case _ => simp only [VR] at hx hy; subst hx hy; rfl
    case _ => rename_i p _; obtain ⟨k, o⟩ := p; simp only [VR] at hx hy; obtain ⟨b, e, h1, rfl⟩ := hy; subst hx; rfl
    case _ => rename_i p _; obtain ⟨k, o⟩ := p; simp only [VR] at hx hy; obtain ⟨b, e, h1, rfl⟩ := hx; subst hy; rfl
    case _ => rename_i p q _; obtain ⟨k, o⟩ := p; obtain ⟨k2, o2⟩ := q; simp only [VR] at hx hy; obtain ⟨b, e, h1, rfl⟩ := hx; obtain ⟨b, e, h1, rfl⟩ := hy; rfl
    case _ => simp only [VR] at hx hy; subst hx hy; rfl
    case _ => simp only [VR] at hx hy; subst hx; obtain ⟨z, rfl, _⟩ := hy; rfl
    case _ => simp only [VR] at hx hy; subst hy; obtain ⟨z, rfl, _⟩ := hx; rfl
    case _ =>
      rename_i bb _ _ _
      cases bb with
      | none => simp only [VR] at hx hy; obtain ⟨rfl, _⟩ := hx; obtain ⟨rfl, _⟩ := hy; rfl
      | some p => obtain ⟨k, o⟩ := p; simp only [VR] at hx hy; obtain ⟨rfl, _⟩ := hx; obtain ⟨b, e, h1, rfl⟩ := hy; rfl
    case _ => simp only [VR] at hx hy; obtain ⟨rfl, _⟩ := hx; obtain ⟨a, c, rfl⟩ := hy; rfl
    case _ => rename_i p _ _ _ _ _; obtain ⟨k, o⟩ := p; simp only [VR] at hx hy; obtain ⟨rfl, _⟩ := hy; obtain ⟨b, e, h1, rfl⟩ := hx; rfl
    case _ => simp only [VR] at hx hy; obtain ⟨rfl, _⟩ := hy; obtain ⟨a, c, rfl⟩ := hx; rfl
    case _ => simp only [VR] at hx hy; obtain ⟨rfl, _⟩ := hy; obtain ⟨a, c, rfl, _⟩ := hx; rfl
    case _ =>
      rename_i bb _
      cases bb with
      | none => simp only [VR] at hx hy; subst hx hy; rfl
      | some p => simp only [VR] at hx hy; subst hx; obtain ⟨b, e, h1, rfl⟩ := hy; rfl
    case _ => simp only [VR] at hx hy; subst hy; obtain ⟨b, e, h1, rfl⟩ := hx; rfl
    case _ => simp only [VR] at hx hy; subst hx hy; rfl
    case _ => simp only [VR] at hx hy; subst hx; obtain ⟨xs, ys, rfl, _⟩ := hy; rfl
    case _ => simp only [VR] at hx hy; subst hy; obtain ⟨xs, ys, rfl, _⟩ := hx; rfl
    case _ => simp only [VR] at hx hy; obtain ⟨cs, rfl, hc⟩ := hx; obtain ⟨ds, rfl, hd'⟩ := hy; rfl
theorem rngBin_int {op : BinOp} {k : IntKind} {lo hi b n : Int} {v : AV} (h : rngBin op lo hi b = some v) (h1 : lo ≤ n) (h2 : n ≤ hi) : intBin op k n b = some v ∧ op ≠ .shl ∧ op ≠ .shr := by
  unfold rngBin at h
  split at h
  all_goals first
    | (cases h; done)
    | (split at h
       · cases h; refine ⟨?_, by simp, by simp⟩; simp only [intBin]; congr 2; simp; omega
       · split at h
         · cases h; refine ⟨?_, by simp, by simp⟩; simp only [intBin]; congr 2; simp; omega
         · cases h)
theorem run_binA {op : BinOp} {t : TypeId} {X Y : Operand} {x y v : AV} {x' y' : Value} (hv : binA P op t (isConst X || isConst Y) x y = some v) (hx : VR ι x x') (hy : VR ι y y') (w : World) :
    ∃ u, (do eqGuard op t X Y x' y'; binOp op t x' y' : Sem Value).run P w = .ok u w ∧ ∀ ι, VR ι v u := by
  unfold binA at hv
  split at hv
  · rename_i k a k' b
    simp only [VR] at hx hy
    subst hx hy
    have hg := guard_none (P := P) (op := op) (t := t) (X := X) (Y := Y) (a := .int k a) (b := .int k' b) (by rintro ⟨e, _⟩; cases e) (by rintro u v ⟨e, _⟩; cases e) w
    split at hv
    · split at hv
      · cases hv
      · rename_i hb
        cases hv
        refine ⟨_, by simp only [Sem.run_bind, hg, Result.andThen_ok]; simp only [binOp, Op.shift, if_neg hb]; rfl, fun ι => by simp only [VR]⟩
    · split at hv
      · cases hv
      · rename_i hb
        cases hv
        refine ⟨_, by simp only [Sem.run_bind, hg, Result.andThen_ok]; simp only [binOp, Op.shift, if_neg hb]; rfl, fun ι => by simp only [VR]⟩
    · rename_i h1 h2
      split at hv
      · rename_i hk
        subst hk
        obtain ⟨u, hu, hr⟩ := run_intBin (P := P) t (fun e => h1 e) (fun e => h2 e) hv w
        exact ⟨u, by simp only [Sem.run_bind, hg, Result.andThen_ok]; exact hu, hr⟩
      · cases hv
  · rename_i a b
    simp only [VR] at hx hy
    obtain ⟨rfl, ha⟩ := hx
    obtain ⟨rfl, hb⟩ := hy
    have hg := guard_none (P := P) (op := op) (t := t) (X := X) (Y := Y) (a := .string (bsOf a)) (b := .string (bsOf b)) (by rintro ⟨e, _⟩; cases e) (by rintro u v ⟨e, _⟩; cases e) w
    obtain ⟨u, hu, hr⟩ := run_strBin (P := P) t ha hb hv w
    exact ⟨u, by simp only [Sem.run_bind, hg, Result.andThen_ok]; exact hu, hr⟩
  · rename_i k lo hi k' b
    simp only [VR] at hx hy
    obtain ⟨n, rfl, n1, n2⟩ := hx
    subst hy
    have hg := guard_none (P := P) (op := op) (t := t) (X := X) (Y := Y) (a := .int k n) (b := .int k' b) (by rintro ⟨e, _⟩; cases e) (by rintro u v ⟨e, _⟩; cases e) w
    split at hv
    · rename_i hk
      subst hk
      obtain ⟨g1, g2, g3⟩ := rngBin_int (k := k) hv n1 n2
      obtain ⟨u, hu, hr⟩ := run_intBin (P := P) t g2 g3 g1 w
      exact ⟨u, by simp only [Sem.run_bind, hg, Result.andThen_ok]; exact hu, hr⟩
    · cases hv
  · rename_i hi hs _
    split at hv
    · rename_i hg
      have key : ∀ b, eqA P 6 t x y = some b → (eqGuard op t X Y x' y').run P w = .ok () w ∧ (binOp .eql t x' y').run P w = .ok (.bool b) w ∧ (binOp .neq t x' y').run P w = .ok (.bool !b) w := fun b hb => by
        have hx0 : x ≠ .any := fun e => by subst e; rw [eqA_any] at hb; cases hb
        have hy0 : y ≠ .any := fun e => by subst e; rw [eqA_any'] at hb; cases hb
        have hsh := eqA_shape hb hx hy (fun k i j m ⟨e1, e2⟩ => hi _ _ _ _ e1 e2) (fun u v ⟨e1, e2⟩ => hs _ _ e1 e2)
        exact ⟨run_guard hg hx hy hx0 hy0 w, binOp_shape hsh w b (run_eqA 6 10000 t x y b x' y' (by omega) hb hx hy)⟩
      split at hv
      · split at hv
        · rename_i b hb
          cases hv
          obtain ⟨h1, h2, h3⟩ := key b hb
          exact ⟨_, by simp only [Sem.run_bind, h1, Result.andThen_ok]; exact h2, fun ι => by simp only [VR]⟩
        · cases hv
      · split at hv
        · rename_i b hb
          cases hv
          obtain ⟨h1, h2, h3⟩ := key b hb
          exact ⟨_, by simp only [Sem.run_bind, h1, Result.andThen_ok]; exact h3, fun ι => by simp only [VR]⟩
        · cases hv
      · cases hv
    · cases hv
theorem run_unA {op : UnOp} {x v : AV} {x' : Value} (hv : unA op x = some v) (hx : VR ι x x') (w : World) : ∃ u, (Op.unary op x').run P w = .ok u w ∧ ∀ ι, VR ι v u := by
  unfold unA at hv
  split at hv
  · cases hv; simp only [VR] at hx; subst hx
    exact ⟨_, rfl, fun ι => by simp only [VR]⟩
  · simp only [VR] at hx; subst hx
    simp only [intBin] at hv
    cases hv
    refine ⟨_, rfl, fun ι => ?_⟩
    simp only [VR]
    congr 2
  · cases hv; simp only [VR] at hx; subst hx
    exact ⟨_, rfl, fun ι => by simp only [VR]⟩
  · cases hv
end
end Go.Proofs.YtcpmhehklicpfaaGreatDoor.Ev
