/- Calls, as an operation makes them. -/
import Derived.Test.YtcpmhehklicpfaaGreatDoorEvDraw5
import Derived.Test.YtcpmhehklicpfaaGreatDoorEvComm
import Derived.RangeFuncRecord
import Derived.RangeFuncIn
namespace Go.Proofs.YtcpmhehklicpfaaGreatDoor.Ev
open Go
set_option linter.unusedVariables false
section
variable {P : Program} {ι : Io} {ρ : Operand → Option AV} {σ : Operand → Value}
theorem callA_enter {g : FuncId} {args : List AV} {x : ANext} (h : callA P g args = some x) : x = .enter g args ∧ ∀ (as : Array Value) w, (callFunc g as).run P w = .ok (.enter g as) w := by
  unfold callA at h
  split at h
  · rename_i fn hfn
    split at h
    · rename_i body hb
      split at h
      · cases h
      · rename_i hname
        cases h
        refine ⟨rfl, fun as w => ?_⟩
        simp only [callFunc, Sem.run_bind, run_program, Result.andThen_ok, hfn]
        simp [hname, hb]
    · cases h
  · cases h
/-- What a call leads to. -/
theorem run_callA {o : Oper} {s s' : St} {nxt : ANext} (hp : eA P ρ s o.op = some (nxt, s')) (hx : ∀ x ∈ o.op.operands, ∀ u, ρ x = some u → VR ι u (σ x)) (w : World) :
    (∀ g l, nxt = .enter g l → s' = s ∧ ∃ as : Array Value, VRs ι l as.toList ∧ (execOp σ o).run P w = .ok (.enter g as) w) ∧
    (∀ r l, nxt = .round r l → s' = s ∧ ∃ b x, ι r = some (b, x) ∧ ∃ as : Array Value, VRs ι l as.toList ∧ (execOp σ o).run P w = (Instr.yield b as).run P w) ∧
    (nxt = .recover → s' = s ∧ (execOp σ o).run P w = .ok .recover w) := by
  obtain ⟨dst, op, ty, pos, after, guard⟩ := o
  simp only at hp hx
  cases op <;> simp only [eA] at hp <;> first | (cases hp; done) | skip
  case call c =>
    split at hp
    · rename_i args ha
      have hargs := evs_VRs (ι := ι) (σ := σ) c.args.toList args ha fun x hx' => hx x (by show x ∈ c.operands; unfold Call.operands; exact Array.mem_append.2 (.inr (Array.mem_toList_iff.1 hx')))
      split at hp
      · rename_i hcal
        cases hp
        refine ⟨fun g l h => (by cases h), fun r l h => (by cases h), fun _ => ⟨rfl, ?_⟩⟩
        simp [execOp, resolve, hcal, invoke, builtin]
      · rename_i b hcal
        split at hp
        · cases hp
          exact ⟨fun g l h => (by cases h), fun r l h => (by cases h), fun h => (by cases h)⟩
        · cases hp
      · rename_i gg hcal
        have hgo : ∀ v, ρ gg = some v → VR ι v (σ gg) := fun v hv => hx gg (by show gg ∈ c.operands; unfold Call.operands; rw [hcal]; exact Array.mem_append.2 (.inl (by simp))) v hv
        split at hp
        · rename_i g0 first captured hg
          split at hp
          · rename_i x hc
            cases hp
            obtain ⟨rfl, hcf⟩ := callA_enter hc
            refine ⟨fun g l h => ?_, fun r l h => (by cases h), fun h => (by cases h)⟩
            cases h
            refine ⟨rfl, ?_⟩
            have hgv := hgo _ hg
            simp only [VR] at hgv
            obtain ⟨xs, ys, hs, h1, h2⟩ := hgv
            refine ⟨xs ++ c.args.map σ ++ ys, ?_, ?_⟩
            · rw [Array.toList_append, Array.toList_append, Array.toList_map]
              exact (h1.append hargs).append h2
            · simp only [execOp, resolve, hcal, hs, Deferred.ofValue, invoke, Sem.run_bind, Sem.run_pure, Result.andThen_ok, hcf]
          · cases hp
        · rename_i l hg
          cases hp
          refine ⟨fun g l h => (by cases h), fun r l h => ?_, fun h => (by cases h)⟩
          cases h
          refine ⟨rfl, ?_⟩
          have hgv := hgo _ hg
          simp only [VR] at hgv
          obtain ⟨b, x, hb, hs⟩ := hgv
          refine ⟨b, x, hb, c.args.map σ, by rw [Array.toList_map]; exact hargs, ?_⟩
          simp only [execOp, resolve, hcal, hs, Deferred.ofValue, invoke, Sem.run_bind, Sem.run_pure, Result.andThen_ok]
          simp
        · cases hp
      · cases hp
    · cases hp
  case select cs bl =>
    cases bl
    · simp only at hp
      refine ⟨fun g l h => ?_, fun r l h => ?_, fun h => ?_⟩ <;> subst h <;> exfalso <;>
      · repeat' (first | (cases hp) | split at hp)
    · simp only at hp; cases hp
  case next it isS =>
    cases isS
    · simp only at hp; cases hp
    simp only at hp
    refine ⟨fun g l h => ?_, fun r l h => ?_, fun h => ?_⟩ <;> subst h <;> exfalso <;>
    · repeat' (first | (cases hp) | split at hp)
  all_goals
    refine ⟨fun g l h => ?_, fun r l h => ?_, fun h => ?_⟩ <;> subst h <;> exfalso <;>
    · repeat' (first | (cases hp) | split at hp)
end
end Go.Proofs.YtcpmhehklicpfaaGreatDoor.Ev
