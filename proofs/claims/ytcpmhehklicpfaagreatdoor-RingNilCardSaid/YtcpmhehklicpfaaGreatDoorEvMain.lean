/- A law's function that yields true, reckoned. -/
import Derived.Test.YtcpmhehklicpfaaGreatDoorEvTask5
import Derived.Below
namespace Go.Proofs.YtcpmhehklicpfaaGreatDoor.Ev
open Go Go.RowKit
set_option linter.unusedVariables false
section
variable {P : Program}
def yieldsTrue : Option (Res × St) → Bool
  | some (.val (.bool b), _) => b
  | _ => false
theorem yieldsTrue_spec {x : Option (Res × St)} (h : yieldsTrue x = true) : ∃ s, x = some (.val (.bool true), s) := by
  unfold yieldsTrue at h
  split at h
  · subst h; exact ⟨_, rfl⟩
  · cases h
/-- The package's own variables. -/
def glob : Io := ⟨fun g => if g < 64 then some (g, 0) else none, fun _ => none⟩
/-- Blocks that are only read, from the first on. -/
def laid (gs : List (Nat × List AV × TypeId)) : St := gs.foldl (fun s g => s.set g.1 (.cells g.2.1 g.2.2 false true)) ⟨.lf, 64⟩
theorem laid_obj : ∀ (gs : List (Nat × List AV × TypeId)) (s : St) (k : Nat) (o : AObj), (gs.foldl (fun s g => s.set g.1 (.cells g.2.1 g.2.2 false true)) s).obj k = some o → s.obj k = some o ∨ ∃ g ∈ gs, k = g.1 ∧ o = .cells g.2.1 g.2.2 false true
  | [], s, k, o, h => .inl h
  | g :: gs, s, k, o, h => by
    rcases laid_obj gs _ k o h with h1 | ⟨g', h1, h2⟩
    · rw [St.obj_set] at h1
      by_cases e : k = g.1
      · rw [if_pos e] at h1; cases h1
        exact .inr ⟨g, List.mem_cons_self .., e, rfl⟩
      · rw [if_neg e] at h1; exact .inl h1
    · exact .inr ⟨g', List.mem_cons_of_mem _ h1, h2⟩
theorem laid_nx : ∀ (gs : List (Nat × List AV × TypeId)) (s : St), (gs.foldl (fun s g => s.set g.1 (.cells g.2.1 g.2.2 false true)) s).nx = s.nx
  | [], _ => rfl
  | _ :: gs, s => laid_nx gs _
/-- How a variable that is only read must lie. -/
def LaidAt (w : World) (P : Program) (g : Nat × List AV × TypeId) : Prop := ∃ cs e f, w.heap[g.1]? = some (.cells cs e f) ∧ VRs glob g.2.1 (cs.toList.take g.2.1.length)
theorem laid_rel {gs : List (Nat × List AV × TypeId)} {w : World} (hg : ∀ g ∈ gs, g.1 < 64) (h : ∀ g ∈ gs, LaidAt w P g) : Rel P glob (laid gs).obj w := by
  have ho : ∀ k o, (laid gs).obj k = some o → ∃ g ∈ gs, k = g.1 ∧ o = .cells g.2.1 g.2.2 false true := fun k o e => by
    rcases laid_obj gs _ k o e with h1 | h1
    · simp [St.obj, Tr.get] at h1
    · exact h1
  refine ⟨fun k o e => ?_, fun k k' o o' b x x' e e' hi hi' => ?_, fun b c e => ?_, fun k o b x e _ hi => ?_⟩
  · obtain ⟨g, hgm, rfl, rfl⟩ := ho k o e
    obtain ⟨cs, e, f, h1, h2⟩ := h g hgm
    refine ⟨g.1, 0, _, by simp [glob, hg g hgm], h1, cs, e, f.1, f.2, rfl, h2, fun h => (by cases h), fun _ => rfl, fun h => (by cases h)⟩
  · simp only [glob] at hi hi'
    split at hi
    · split at hi'
      · cases hi; cases hi'; rfl
      · cases hi'
    · cases hi
  · cases e
  · rfl
/-- A function that is reckoned to yield true, and turns nothing that lay. -/
theorem calls_true (hm : P.follows .mixedOrders = true) (hx : P.follows .rangeFuncRecover = true) {n : Nat} {f : FuncId} {l : List AV} {as : Array Value} {gs : List (Nat × List AV × TypeId)} {w : World} (ha : VRs glob l as.toList) (hg : ∀ g ∈ gs, g.1 < 64) (hl : ∀ g ∈ gs, LaidAt w P g)
    (h : yieldsTrue (evN P n (.call f l) (laid gs)) = true) : Calls P f as w (fun e w' => e = .returned (.bool true) ∧ Below w.heap.size w w') := by
  obtain ⟨s', hs⟩ := yieldsTrue_spec h
  obtain ⟨_, hc⟩ := good hm hx n _ _ _ _ hs
  simp only [TaskS] at hc
  intro cs
  have hnx : (laid gs).nx = 64 := laid_nx gs _
  obtain ⟨ι', w', u, fr, st, hu, hst, hk, hgo, hfn⟩ := hc .normal glob w as cs (.inl ⟨rfl, .inl rfl⟩) (fun g hg => ⟨0, by simp [glob, hg]⟩) ha (laid_rel hg hl) (fun k h1 h2 => by rw [hnx] at h1; simp [glob]; omega)
  simp only [VR] at hu
  subst hu
  refine ⟨.returned (.bool true), w', fr, ⟨rfl, st.os, st.tape, st.output, st.size, fun k hk => ?_⟩, hst, hfn, hgo.1, hgo.2.1, hk, hgo.2.2⟩
  by_cases e : ∃ j o x, (laid gs).obj j = some o ∧ glob j = some (k, x)
  · obtain ⟨j, o, x, h1, h2⟩ := e
    have h3 : ∃ c e, o = .cells c e false true := by
      rcases laid_obj gs _ j o h1 with h | ⟨g, _, _, h⟩
      · simp [St.obj, Tr.get] at h
      · exact ⟨_, _, h⟩
    obtain ⟨c, e, rfl⟩ := h3
    exact (st.hard j c e false k x h1 h2).2
  · exact st.frame k hk fun j o x h1 h2 => e ⟨j, o, x, h1, h2⟩
end
end Go.Proofs.YtcpmhehklicpfaaGreatDoor.Ev
