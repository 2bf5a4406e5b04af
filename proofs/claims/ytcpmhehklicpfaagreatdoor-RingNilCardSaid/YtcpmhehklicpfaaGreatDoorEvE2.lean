/- Maps written, texts ranged over, slices appended to. -/
import Derived.Test.YtcpmhehklicpfaaGreatDoorEvE
namespace Go.Proofs.YtcpmhehklicpfaaGreatDoor.Ev
open Go
set_option linter.unusedVariables false
section
variable {P : Program} {ι : Io} {h : Hp} {w : World} {ρ : Operand → Option AV} {σ : Operand → Value}
theorem EntsR.at : ∀ {es : List AEnt} {xs : List MapEntry} {i : Nat} {e : AEnt}, EntsR ι es xs → es[i]? = some e → ∃ x, xs[i]? = some x ∧ VR ι e.key x.key ∧ VR ι e.val x.val ∧ e.born = x.born
  | [], xs, i, e, h, he => by simp at he
  | a :: es, xs, 0, e, h, he => by obtain ⟨x, r, rfl, h1, h2, h3, h4⟩ := h; simp at he; subst he; exact ⟨x, rfl, h1, h2, h3⟩
  | a :: es, xs, i + 1, e, h, he => by obtain ⟨x, r, rfl, h1, h2, h3, h4⟩ := h; simp at he; simpa using EntsR.at h4 he
theorem EntsR.set : ∀ {es : List AEnt} {xs : List MapEntry} {i : Nat} {k v : AV} {k' v' : Value}, EntsR ι es xs → VR ι k k' → VR ι v v' → EntsR ι (setEnt es i k v) (xs.modify i fun e => { e with key := k', val := v' })
  | [], xs, i, k, v, k', v', h, hk, hv => by simp only [EntsR] at h; subst h; simp [setEnt, EntsR]
  | a :: es, xs, 0, k, v, k', v', h, hk, hv => by obtain ⟨x, r, rfl, h1, h2, h3, h4⟩ := h; exact ⟨_, _, rfl, hk, hv, h3, h4⟩
  | a :: es, xs, i + 1, k, v, k', v', h, hk, hv => by obtain ⟨x, r, rfl, h1, h2, h3, h4⟩ := h; exact ⟨_, _, rfl, h1, h2, h3, EntsR.set h4 hk hv⟩
theorem EntsR.push : ∀ {es : List AEnt} {xs : List MapEntry} {e : AEnt} {x : MapEntry}, EntsR ι es xs → VR ι e.key x.key → VR ι e.val x.val → e.born = x.born → EntsR ι (es ++ [e]) (xs ++ [x])
  | [], xs, e, x, h, h1, h2, h3 => by simp only [EntsR] at h; subst h; exact ⟨x, [], rfl, h1, h2, h3, rfl⟩
  | a :: es, xs, e, x, h, h1, h2, h3 => by obtain ⟨y, r, rfl, g1, g2, g3, g4⟩ := h; exact ⟨_, _, rfl, g1, g2, g3, EntsR.push g4 h1 h2 h3⟩
theorem findA_spec {k : AV} : ∀ (es : List AEnt) (j i : Nat) (v : AV), findA k es j = some (some (i, v)) → ∃ m e, i = j + m ∧ es[m]? = some e ∧ e.val = v ∧ e.key = k ∧ ((∃ kd n, k = .int kd n) ∨ ∃ s, k = .str s)
  | [], j, i, v, h => by simp [findA] at h
  | e :: es, j, i, v, h => by
    unfold findA at h
    split at h
    · rename_i kd a kd' b he
      split at h
      · rename_i hj
        split at h
        · rename_i hab
          cases h
          exact ⟨0, e, rfl, rfl, rfl, by rw [he, hj, hab], .inl ⟨kd, a, rfl⟩⟩
        · obtain ⟨m, e', h1, h2, h3⟩ := findA_spec es (j + 1) i v h
          exact ⟨m + 1, e', by omega, by simpa using h2, h3⟩
      · cases h
    · rename_i a b he
      split at h
      · rename_i hab
        cases h
        exact ⟨0, e, rfl, rfl, rfl, by rw [he, hab], .inr ⟨a, rfl⟩⟩
      · obtain ⟨m, e', h1, h2, h3⟩ := findA_spec es (j + 1) i v h
        exact ⟨m + 1, e', by omega, by simpa using h2, h3⟩
    · cases h
theorem run_setMap {b : Nat} {o o' : Obj} (hb : w.heap[b]? = some o) (hc : ∀ c e f, o ≠ .cells c e f) : (setObj b o').run P w = .ok () { w with heap := w.heap.setIfInBounds b o' } := by
  cases o <;> first | exact (hc _ _ _ rfl).elim | simp only [setObj, Sem.run, hb]
theorem else_setObj (b : Nat) (o : Obj) (w : World) : Else b w { w with heap := w.heap.setIfInBounds b o } :=
  ⟨by simp, fun c hc => by simp [Array.getElem?_setIfInBounds_ne (Ne.symm hc)], rfl, rfl, rfl⟩
theorem heap_setObj {b : Nat} {o o' : Obj} (hb : w.heap[b]? = some o) : (w.heap.setIfInBounds b o')[b]? = some o' := by
  have := (Array.getElem?_eq_some_iff.1 hb).1
  simp [this]
theorem run_mapPut {s s' : St} {t : TypeId} {m k v : AV} {m' k' v' : Value} (hr : Rel P ι s.obj w) (hp : mapPut P s t m k v = some s') (hm : VR ι m m') (hk : VR ι k k') (hv : VR ι v v') :
    ∃ w', (Instr.mapUpdate t m' k' v').run P w = .ok () w' ∧ Step P ι s.obj s.nx w ι s'.obj s'.nx w' := by
  unfold mapPut at hp
  split at hp
  · rename_i kt e r hu
    simp only [VR] at hm
    obtain ⟨b, y, hb, rfl⟩ := hm
    split at hp
    · rename_i es clock hh
      obtain ⟨b', y', xs, q1, q2, q3⟩ := mapOf_rel hr hh
      rw [hb] at q1; cases q1
      split at hp
      · rename_i hkk
        split at hp
        · rename_i i val hf
          cases hp
          obtain ⟨r', f1, f2⟩ := run_findKey (P := P) hkk hk hf q3 w
          obtain ⟨u, rfl, _⟩ := f2
          obtain ⟨mm, ent, e1, e2, e3, e4, e5⟩ := findA_spec es 0 i val hf
          rw [Nat.zero_add] at e1; subst e1
          obtain ⟨x, x1, x2, x3, x4⟩ := q3.at e2
          have hkey : x.key = k' ∧ Instr.sameBits 10000 k' k' = true := by
            rw [e4] at x2
            rcases e5 with ⟨kd, n, rfl⟩ | ⟨sx, rfl⟩
            · simp only [VR] at x2 hk; rw [x2, hk]; exact ⟨rfl, by simp [Instr.sameBits]⟩
            · simp only [VR] at x2 hk; rw [x2.1, hk.1]; exact ⟨rfl, by simp only [Instr.sameBits]; rw [beq_toListBytes]; simp⟩
          have hx1 : xs[i]? = some x := by simpa using x1
          have hstay : (Instr.keyThatStays (((xs[i]?).map (·.key)).getD k') k').run P w = .ok k' w := by
            simp only [hx1, Option.map_some, Option.getD_some, hkey.1, Instr.keyThatStays, hkey.2, if_true, Sem.run_pure]
          refine ⟨{ w with heap := w.heap.setIfInBounds b (.map (xs.modify i fun e => { e with key := k', val := v' }) clock) }, ?_, step_set hr hh hb (p := .map (xs.modify i fun e => { e with key := k', val := v' }) clock) ⟨_, rfl, ?_⟩ (heap_setObj q2) (else_setObj _ _ _).size (else_setObj _ _ _).blk rfl rfl rfl⟩
          · simp only [Instr.mapUpdate, Sem.run_bind, run_under hu, Result.andThen_ok, run_getMap q2, run_checkKey hkk hk, f1, hstay]
            exact run_setMap q2 (by simp)
          · rw [Array.toList_modify]
            exact q3.set hk hv
        · rename_i hf
          cases hp
          obtain ⟨r', f1, f2⟩ := run_findKey (P := P) hkk hk hf q3 w
          simp only [foundR] at f2
          subst f2
          refine ⟨{ w with heap := w.heap.setIfInBounds b (.map (xs.push { key := k', val := v', born := clock }) (clock + 1)) }, ?_, step_set hr hh hb (p := .map (xs.push { key := k', val := v', born := clock }) (clock + 1)) ⟨_, rfl, ?_⟩ (heap_setObj q2) (else_setObj _ _ _).size (else_setObj _ _ _).blk rfl rfl rfl⟩
          · simp only [Instr.mapUpdate, Sem.run_bind, run_under hu, Result.andThen_ok, run_getMap q2, run_checkKey hkk hk, f1]
            exact run_setMap q2 (by simp)
          · rw [Array.toList_push]
            exact q3.push hk hv rfl
        · cases hp
      · cases hp
    · cases hp
  · cases hp
end
end Go.Proofs.YtcpmhehklicpfaaGreatDoor.Ev
