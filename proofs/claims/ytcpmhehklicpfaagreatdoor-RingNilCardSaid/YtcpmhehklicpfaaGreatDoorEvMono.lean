/- What a quiet operation yields, in a greater memory; and where memory is not read. -/
import Derived.Test.YtcpmhehklicpfaaGreatDoorEvSeq
namespace Go.Proofs.YtcpmhehklicpfaaGreatDoor.Ev
open Go
set_option linter.unusedVariables false
section
variable {P : Program} {ρ : Operand → Option AV} {h h' : Hp}
theorem loadA_mono (hh : ∀ k o, h k = some o → h' k = some o) {t : TypeId} {a : Nat × Nat} {v : AV} (hv : loadA P h t a = some v) : loadA P h' t a = some v := by
  unfold loadA at hv ⊢
  split at hv
  · rename_i hk; rw [hh _ _ hk]; exact hv
  · cases hv
theorem firstA_mono (hh : ∀ k o, h k = some o → h' k = some o) {sz n : Nat} {x : AV} {l : List AV} (hv : firstA h sz n x = some l) : firstA h' sz n x = some l := by
  unfold firstA at hv ⊢
  split at hv
  · split at hv
    · rename_i hk; rw [hh _ _ hk]; exact hv
    · cases hv
  · exact hv
  · exact hv
  · exact hv
  · exact hv
  · exact hv
  · cases hv
theorem convQ_mono (hh : ∀ k o, h k = some o → h' k = some o) {s d : TypeId} {x v : AV} (hv : convQ P h s d x = some v) : convQ P h' s d x = some v := by
  unfold convQ at hv ⊢
  split at hv
  · exact hv
  · exact hv
  · split at hv
    · split at hv
      · rename_i _ l hl
        simp only [firstA_mono hh hl]
        exact hv
      · cases hv
    · cases hv
  · exact hv
  · split at hv
    · split at hv
      · rename_i _ l hl
        simp only [firstA_mono hh hl]
        exact hv
      · cases hv
    · cases hv
  · cases hv
theorem sliceA_mono (hh : ∀ k o, h k = some o → h' k = some o) {t : TypeId} {x v : AV} {lo hi mx : Option AV} (hv : sliceA P h t x lo hi mx = some v) : sliceA P h' t x lo hi mx = some v := by
  unfold sliceA at hv ⊢
  split at hv
  · exact hv
  · exact hv
  · exact hv
  · exact hv
  · exact hv
  · split at hv
    · rename_i a1 a2 a3 _ _ _ hh1 hh2 hk
      simp only [hh1, hh2, hh _ _ hk]
      exact hv
    · cases hv
  · cases hv
theorem lookA_mono (hh : ∀ k o, h k = some o → h' k = some o) {t : TypeId} {m k v : AV} {ok : Bool} (hv : lookA P h t m k ok = some v) : lookA P h' t m k ok = some v := by
  unfold lookA at hv ⊢
  split at hv
  · split at hv
    · rename_i hk
      simp only [hk, if_true]
      cases m with
      | map r =>
        cases r with
        | none => exact hv
        | some r =>
          simp only at hv ⊢
          cases e : h r with
          | none => rw [e] at hv; simp at hv
          | some o => rw [e] at hv; rw [hh _ _ e]; exact hv
      | _ => simp at hv
    · cases hv
  · cases hv
theorem qBuiltin_mono (hh : ∀ k o, h k = some o → h' k = some o) {b : Builtin} {t : Option TypeId} {l : List AV} {v : AV} (hv : qBuiltin P h b t l = some v) : qBuiltin P h' b t l = some v := by
  unfold qBuiltin at hv ⊢
  split at hv
  · split at hv
    · exact hv
    · exact hv
    · exact hv
    · exact hv
    · exact hv
    · exact hv
    · exact hv
    · split at hv
      · rename_i hk; simp only [hh _ _ hk]; exact hv
      · cases hv
    · split at hv
      · rename_i hk; simp only [hh _ _ hk]; exact hv
      · cases hv
    · cases hv
  · split at hv
    · exact hv
    · split at hv
      · rename_i hk; simp only [hh _ _ hk]; exact hv
      · cases hv
    · cases hv
  · exact hv
  · exact hv
  · cases hv
theorem qA_mono (hh : ∀ k o, h k = some o → h' k = some o) {o : Op} {v : AV} (hv : qA P ρ h o = some v) : qA P ρ h' o = some v := by
  cases o
  case load t a =>
    simp only [qA] at hv ⊢
    split at hv
    · exact loadA_mono hh hv
    · exact hv
    · cases hv
  case convert a b x =>
    simp only [qA] at hv ⊢
    split at hv
    · exact convQ_mono hh hv
    · cases hv
  case slice t x lo hi mx =>
    simp only [qA] at hv ⊢
    split at hv
    · exact sliceA_mono hh hv
    · cases hv
  case lookup t m k ok =>
    simp only [qA] at hv ⊢
    split at hv
    · exact lookA_mono hh hv
    · cases hv
  case call c =>
    simp only [qA] at hv ⊢
    split at hv
    · exact qBuiltin_mono hh hv
    · cases hv
  case makeFunc fn a b => cases fn <;> exact hv
  all_goals exact hv
theorem qA_pure {o : Op} (hr : readsMem o = false) : qA P ρ h o = qA P ρ h' o := by
  cases o
  case makeFunc fn a b => cases fn <;> rfl
  all_goals first | rfl | (simp [readsMem] at hr; done)
mutual
theorem eqv_eq : ∀ (a b : AV), AV.eqv a b = true → a = b
  | .bool a, b, h => by cases b <;> simp [AV.eqv] at h; subst h; rfl
  | .int j a, b, h => by cases b <;> simp [AV.eqv] at h; obtain ⟨rfl, rfl⟩ := h; rfl
  | .str a, b, h => by cases b <;> simp [AV.eqv] at h; subst h; rfl
  | .ptr a, b, h => by cases b <;> simp [AV.eqv] at h; subst h; rfl
  | .slice a n c, b, h => by cases b <;> simp [AV.eqv] at h; obtain ⟨⟨rfl, rfl⟩, rfl⟩ := h; rfl
  | .empty, b, h => by cases b <;> simp [AV.eqv] at h; rfl
  | .any, b, h => by cases b <;> simp [AV.eqv] at h; rfl
  | .opq, b, h => by cases b <;> simp [AV.eqv] at h; rfl
  | .rng j a c, b, h => by cases b <;> simp [AV.eqv] at h; obtain ⟨⟨rfl, rfl⟩, rfl⟩ := h; rfl
  | .map a, b, h => by cases b <;> simp [AV.eqv] at h; subst h; rfl
  | .chan a, b, h => by cases b <;> simp [AV.eqv] at h; subst h; rfl
  | .func f a c, b, h => by
    cases b <;> simp [AV.eqv] at h
    obtain ⟨⟨rfl, h1⟩, h2⟩ := h
    rw [eqvs_eq _ _ h1, eqvs_eq _ _ h2]
  | .yield a, b, h => by cases b <;> simp [AV.eqv] at h; subst h; rfl
  | .nilFunc, b, h => by cases b <;> simp [AV.eqv] at h; rfl
  | .iface t a, b, h => by
    cases b <;> simp [AV.eqv] at h
    obtain ⟨rfl, h1⟩ := h
    rw [eqv_eq _ _ h1]
  | .nilIface, b, h => by cases b <;> simp [AV.eqv] at h; rfl
  | .agg a, b, h => by cases b <;> simp [AV.eqv] at h; rw [eqvs_eq _ _ h]
  | .tuple a, b, h => by cases b <;> simp [AV.eqv] at h; rw [eqvs_eq _ _ h]
  | .lst a, b, h => by cases b <;> simp [AV.eqv] at h; rw [eqvss_eq _ _ h]
  | .lptr a, b, h => by cases b <;> simp [AV.eqv] at h; rw [eqvs_eq _ _ h]
  | .zero, b, h => by cases b <;> simp [AV.eqv] at h; rfl
theorem eqvs_eq : ∀ (a b : List AV), AV.eqvs a b = true → a = b
  | [], b, h => by cases b <;> simp [AV.eqvs] at h; rfl
  | x :: a, b, h => by
    cases b <;> simp [AV.eqvs] at h
    obtain ⟨h1, h2⟩ := h
    rw [eqv_eq _ _ h1, eqvs_eq _ _ h2]
theorem eqvss_eq : ∀ (a b : List (List AV)), AV.eqvss a b = true → a = b
  | [], b, h => by cases b <;> simp [AV.eqvss] at h; rfl
  | x :: a, b, h => by
    cases b <;> simp [AV.eqvss] at h
    obtain ⟨h1, h2⟩ := h
    rw [eqvs_eq _ _ h1, eqvss_eq _ _ h2]
end
mutual
theorem eqv_refl : ∀ (a : AV), AV.eqv a a = true
  | .bool a | .int j a | .str a | .ptr a | .slice a n c | .empty | .any | .opq | .rng j a c | .map a | .chan a | .yield a | .nilFunc | .nilIface | .zero => by simp [AV.eqv]
  | .func f a c => by simp [AV.eqv, eqvs_refl a, eqvs_refl c]
  | .iface t a => by simp [AV.eqv, eqv_refl a]
  | .agg a => by simp [AV.eqv, eqvs_refl a]
  | .tuple a => by simp [AV.eqv, eqvs_refl a]
  | .lst a => by simp [AV.eqv, eqvss_refl a]
  | .lptr a => by simp [AV.eqv, eqvs_refl a]
theorem eqvs_refl : ∀ (a : List AV), AV.eqvs a a = true
  | [] => by simp [AV.eqvs]
  | x :: a => by simp [AV.eqvs, eqv_refl x, eqvs_refl a]
theorem eqvss_refl : ∀ (a : List (List AV)), AV.eqvss a a = true
  | [] => by simp [AV.eqvss]
  | x :: a => by simp [AV.eqvss, eqvs_refl x, eqvss_refl a]
end
end
end Go.Proofs.YtcpmhehklicpfaaGreatDoor.Ev
