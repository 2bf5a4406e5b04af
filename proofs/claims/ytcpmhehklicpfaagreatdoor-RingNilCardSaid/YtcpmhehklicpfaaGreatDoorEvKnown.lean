/- Calls that are known: reckoned once, for themselves. -/
import Derived.Test.YtcpmhehklicpfaaGreatDoorEvMain
namespace Go.Proofs.YtcpmhehklicpfaaGreatDoor.Ev
open Go Go.RowKit
set_option linter.unusedVariables false
mutual
/-- No block is named in it. -/
def AV.flat : AV → Bool
  | .ptr a => a.isNone
  | .slice a _ _ => a.isNone
  | .map a => a.isNone
  | .chan a => a.isNone
  | .func _ a c => AV.flats a && AV.flats c
  | .yield _ => false
  | .iface _ a => AV.flat a
  | .agg l => AV.flats l
  | .tuple l => AV.flats l
  | .lst _ => false
  | .lptr _ => false
  | _ => true
def AV.flats : List AV → Bool
  | [] => true
  | a :: l => AV.flat a && AV.flats l
end
mutual
theorem flat_VR {ι ι' : Io} : ∀ (a : AV), AV.flat a = true → ∀ v, VR ι a v → VR ι' a v
  | .bool b, _, v, hv => hv
  | .int k n, _, v, hv => hv
  | .str s, _, v, hv => hv
  | .ptr none, _, v, hv => hv
  | .ptr (some _), h, v, hv => by simp [AV.flat] at h
  | .slice none n c, _, v, hv => hv
  | .slice (some _) n c, h, v, hv => by simp [AV.flat] at h
  | .empty, _, v, hv => hv
  | .any, _, v, hv => hv
  | .opq, _, v, hv => hv
  | .rng k lo hi, _, v, hv => hv
  | .map none, _, v, hv => hv
  | .map (some _), h, v, hv => by simp [AV.flat] at h
  | .chan none, _, v, hv => hv
  | .chan (some _), h, v, hv => by simp [AV.flat] at h
  | .func f x y, h, v, hv => by
    simp only [AV.flat, Bool.and_eq_true] at h
    simp only [VR] at hv ⊢
    obtain ⟨xs, ys, h1, h2, h3⟩ := hv
    exact ⟨xs, ys, h1, flats_VR x h.1 _ h2, flats_VR y h.2 _ h3⟩
  | .yield l, h, v, hv => by simp [AV.flat] at h
  | .nilFunc, _, v, hv => hv
  | .iface t x, h, v, hv => by
    simp only [AV.flat] at h
    simp only [VR] at hv ⊢
    obtain ⟨y, h1, h2⟩ := hv
    exact ⟨y, h1, flat_VR x h _ h2⟩
  | .nilIface, _, v, hv => hv
  | .zero, _, v, hv => hv
  | .lst _, h, v, hv => by simp [AV.flat] at h
  | .lptr _, h, v, hv => by simp [AV.flat] at h
  | .agg l, h, v, hv => by
    simp only [AV.flat] at h
    simp only [VR] at hv ⊢
    obtain ⟨xs, h1, h2⟩ := hv
    exact ⟨xs, h1, flats_VR l h _ h2⟩
  | .tuple l, h, v, hv => by
    simp only [AV.flat] at h
    simp only [VR] at hv ⊢
    obtain ⟨xs, h1, h2⟩ := hv
    exact ⟨xs, h1, flats_VR l h _ h2⟩
theorem flats_VR {ι ι' : Io} : ∀ (l : List AV), AV.flats l = true → ∀ vs, VRs ι l vs → VRs ι' l vs
  | [], _, vs, hv => hv
  | a :: l, h, vs, hv => by
    simp only [AV.flats, Bool.and_eq_true] at h
    simp only [VRs] at hv ⊢
    obtain ⟨v, r, h1, h2, h3⟩ := hv
    exact ⟨v, r, h1, flat_VR a h.1 _ h2, flats_VR l h.2 _ h3⟩
end
/-- What is known: the blocks that are only read; calls and what they yield. -/
structure Ctx where
  gs : List (Nat × List AV × TypeId)
  kn : List (FuncId × List AV × AV)
def lookK : List (FuncId × List AV × AV) → FuncId → List AV → Option AV
  | [], _, _ => none
  | x :: r, f, a => if x.1 = f then (if AV.eqvs x.2.1 a = true then some x.2.2 else lookK r f a) else lookK r f a
def hasGs (gs : List (Nat × List AV × TypeId)) (s : St) : Bool :=
  gs.all fun g => match s.obj g.1 with | some (.cells c _ false true) => AV.eqvs c g.2.1 | _ => false
def okGs (gs : List (Nat × List AV × TypeId)) : Bool := gs.all fun g => decide (g.1 < 64) && AV.flats g.2.1
def okKn (kn : List (FuncId × List AV × AV)) : Bool := kn.all fun x => AV.flats x.2.1 && x.2.2.flat
section
variable (P : Program) (C : Ctx)
def evK : Nat → Task → St → Option (Res × St)
  | 0 => fun _ _ => none
  | n + 1 => fun t s =>
    match t with
    | .call g args =>
      (match lookK C.kn g args with
       | some v => if hasGs C.gs s then some (.val v, s) else none
       | none => evF P (evK n) (.call g args) s)
    | t => evF P (evK n) t s
end
section
variable {P : Program} {C : Ctx}
def KnownS (P : Program) (gs : List (Nat × List AV × TypeId)) (g : FuncId) (l : List AV) (v : AV) : Prop :=
  ∀ (kd : CallKind) (w : World) (as : Array Value) (cs : List Frame), CsOk P kd none cs → VRs glob l as.toList → (∀ g ∈ gs, LaidAt w P g) →
    ∃ w' u fr, VR glob v u ∧ Below w.heap.size w w' ∧ Steps P (lone (Frame.enter P g as kd) cs w) (lone fr cs w') ∧ fr.kind = kd ∧ fr.going P w' (.returned u) ∧ fr.fn = g
structure Knows (P : Program) (C : Ctx) : Prop where
  gs : okGs C.gs = true
  kn : okKn C.kn = true
  all : ∀ x ∈ C.kn, KnownS P C.gs x.1 x.2.1 x.2.2
theorem step_below {ι : Io} {h : Hp} {n : Nat} {w w' : World} (hr : Rel P ι h w) (hb : Below w.heap.size w w') : Step P ι h n w ι h n w' :=
  ⟨⟨fun k o e => by
      obtain ⟨b, x, p, h1, h2, h3⟩ := hr.live k o e
      exact ⟨b, x, p, h1, by rw [hb.block b (Array.getElem?_eq_some_iff.1 h2).1]; exact h2, h3⟩, hr.inj, fun b c e => by
      obtain ⟨t, lo, hi, h4⟩ := hr.fz b c e
      exact ⟨t, lo, hi, by rw [hb.block b (Array.getElem?_eq_some_iff.1 h4).1]; exact h4⟩, hr.sep⟩,
    Io.le.refl _, fun _ _ h => .inl h, Nat.le_refl _, hb.size, fun b hlt _ => hb.block b hlt, fun k o b x h1 h2 => .inl ⟨k, o, x, h1, h2⟩, hb.os, hb.tape, hb.output, fun k c e o b x h1 h2 => by
      obtain ⟨b', x', p, e1, e2, _⟩ := hr.live _ _ h1
      rw [h2] at e1; cases e1
      exact ⟨h1, hb.block b (Array.getElem?_eq_some_iff.1 e2).1⟩, fun _ _ h => .inl h⟩
theorem lookK_mem : ∀ (kn : List (FuncId × List AV × AV)) (f : FuncId) (a : List AV) (v : AV), lookK kn f a = some v → (f, a, v) ∈ kn
  | [], f, a, v, h => by cases h
  | x :: r, f, a, v, h => by
    simp only [lookK] at h
    split at h
    · rename_i hf
      split at h
      · rename_i ha
        cases h
        have := eqvs_eq _ _ ha
        subst hf this
        exact List.mem_cons_self ..
      · exact List.mem_cons_of_mem _ (lookK_mem r f a v h)
    · exact List.mem_cons_of_mem _ (lookK_mem r f a v h)
theorem hasGs_laid {gs : List (Nat × List AV × TypeId)} {s : St} (hg : okGs gs = true) (h : hasGs gs s = true) {ι : Io} {w : World} (hgl : Glob ι) (hr : Rel P ι s.obj w) : ∀ g ∈ gs, LaidAt w P g := fun g hm => by
  have h1 := List.all_eq_true.1 h g hm
  have h2 := List.all_eq_true.1 hg g hm
  simp only [Bool.and_eq_true, decide_eq_true_eq] at h2
  split at h1
  · rename_i c e hk
    have := eqvs_eq _ _ h1
    subst this
    obtain ⟨b, x, p, q1, q2, cs, e', lo, hi, rfl, q3, _⟩ := hr.live _ _ hk
    obtain ⟨y, hy⟩ := hgl g.1 h2.1
    rw [hy] at q1; cases q1
    exact ⟨cs, e', (lo, hi), q2, flats_VR _ h2.2 _ q3⟩
  · cases h1
theorem goodK (hm : P.follows .mixedOrders = true) (hx : P.follows .rangeFuncRecover = true) (K : Knows P C) : ∀ n, Good P (evK P C n)
  | 0 => fun t s r s' h => by cases h
  | n + 1 => fun t s r s' h => by
    have hg := goodK hm hx K n
    simp only [evK] at h
    cases t with
    | code c f => exact task_code hm hg h
    | ops draw ops l acc f => exact task_ops hg h
    | call g args =>
      simp only at h
      split at h
      · rename_i v hv
        split at h
        · rename_i hs
          cases h
          refine ⟨Nat.le_refl _, ?_⟩
          simp only [TaskS]
          have hmem := lookK_mem _ _ _ _ hv
          have hfl := List.all_eq_true.1 K.kn _ hmem
          simp only [Bool.and_eq_true] at hfl
          intro kd ι w as cs hcs hgl has hr hfr
          obtain ⟨w', u, fr, h1, h2, h3, h4, h5, h6⟩ := K.all _ hmem kd w as cs hcs (flats_VR _ hfl.1 _ has) (hasGs_laid K.gs hs hgl hr)
          exact ⟨ι, w', u, fr, step_below hr h2, flat_VR _ hfl.2 _ h1, h3, h4, h5, h6⟩
        · cases h
      · exact task_call hg h
    | defs l => exact task_defs hg h
    | round l args => exact task_round hx hg h
def yields (v : AV) : Option (Res × St) → Bool
  | some (.val u, _) => AV.eqv u v
  | _ => false
/-- A call reckoned from nothing but what is laid. -/
theorem known_of (hm : P.follows .mixedOrders = true) (hx : P.follows .rangeFuncRecover = true) (K : Knows P C) {n : Nat} {f : FuncId} {l : List AV} {v : AV} (hf : v.flat = true) (h : yields v (evK P C n (.call f l) (laid C.gs)) = true) : KnownS P C.gs f l v := by
  unfold yields at h
  split at h
  · rename_i u s' hs
    have := eqv_eq _ _ h
    subst this
    obtain ⟨_, hc⟩ := goodK hm hx K n _ _ _ _ hs
    simp only [TaskS] at hc
    intro kd w as cs hcs ha hl
    have hg : ∀ g ∈ C.gs, g.1 < 64 := fun g hg => by
      have := List.all_eq_true.1 K.gs g hg
      simp only [Bool.and_eq_true, decide_eq_true_eq] at this
      exact this.1
    have hnx : (laid C.gs).nx = 64 := laid_nx C.gs _
    obtain ⟨ι', w', u, fr, st, hu, hst, hk, hgo, hfn⟩ := hc kd glob w as cs hcs (fun g hg => ⟨0, by simp [glob, hg]⟩) ha (laid_rel hg hl) (fun k h1 h2 => by rw [hnx] at h1; simp [glob]; omega)
    refine ⟨w', u, fr, flat_VR _ hf _ hu, ⟨st.os, st.tape, st.output, st.size, fun k hk => ?_⟩, hst, hk, hgo, hfn⟩
    by_cases e : ∃ j o x, (laid C.gs).obj j = some o ∧ glob j = some (k, x)
    · obtain ⟨j, o, x, h1, h2⟩ := e
      have h3 : ∃ c e, o = .cells c e false true := by
        rcases laid_obj C.gs _ j o h1 with h | ⟨g, _, _, h⟩
        · simp [St.obj, Tr.get] at h
        · exact ⟨_, _, h⟩
      obtain ⟨c, e, rfl⟩ := h3
      exact (st.hard j c e false k x h1 h2).2
    · exact st.frame k hk fun j o x h1 h2 => e ⟨j, o, x, h1, h2⟩
  · cases h
theorem known_calls {gs : List (Nat × List AV × TypeId)} {f : FuncId} {l : List AV} {w : World} {as : Array Value} (h : KnownS P gs f l (.bool true)) (ha : VRs glob l as.toList) (hl : ∀ g ∈ gs, LaidAt w P g) :
    Calls P f as w (fun e w' => e = .returned (.bool true) ∧ Below w.heap.size w w') := by
  intro cs
  obtain ⟨w', u, fr, h1, h2, h3, h4, h5, h6⟩ := h .normal w as cs (.inl ⟨rfl, .inl rfl⟩) ha hl
  simp only [VR] at h1
  subst h1
  exact ⟨.returned (.bool true), w', fr, ⟨rfl, h2⟩, h3, h6, h5.1, h5.2.1, h4, h5.2.2⟩
end
end Go.Proofs.YtcpmhehklicpfaaGreatDoor.Ev
