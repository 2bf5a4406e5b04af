/- Memory: how blocks stand to each other, and what a run turns. -/
import Derived.Test.YtcpmhehklicpfaaGreatDoorEvRel
import Derived.Laws.Cells
import Derived.Laws.Entries
import Derived.Laws.World
namespace Go.Proofs.YtcpmhehklicpfaaGreatDoor.Ev
open Go
set_option linter.unusedVariables false
def EntsR (ι : Io) : List AEnt → List MapEntry → Prop
  | [], xs => xs = []
  | e :: l, xs => ∃ x r, xs = x :: r ∧ VR ι e.key x.key ∧ VR ι e.val x.val ∧ e.born = x.born ∧ EntsR ι l r
def TmR (ι : Io) (tm : Tr AV) (nt : Nat) (tmps : Array Value) : Prop := tmps.size = nt ∧ ∀ t v, tm.get t = some v → t < nt ∧ VR ι v (tmps.getD t undef)
def ObjR (P : Program) (ι : Io) (x : Nat) : AObj → Obj → Prop
  | .cells c e opn hard, o => ∃ cs e' lo hi, o = .cells cs e' (lo, hi) ∧ VRs ι c (cs.toList.take c.length) ∧ (hard = false → e' = e ∧ cs.size = c.length + x * P.cellsOf e) ∧ (opn = false → x = 0) ∧ (hard = false → ∀ i, i < cs.size → ¬ (lo ≤ i ∧ i < hi))
  | .map es clock, o => ∃ xs, o = .map xs clock ∧ EntsR ι es xs.toList
  | .strIter s pos, o => o = .stringIter ⟨⟨s.map Nat.toUInt8⟩⟩ pos ∧ ∀ n ∈ s, n < 256
  | .chan cap buf, o => ∃ b sent rcvd, o = .chan cap b false sent rcvd false ∧ VRs ι buf b.toList
  | .loop L, o => ∃ M : Loop, o = .loop M ∧ M.state = L.state ∧ M.pending = L.pend ∧ M.params = L.params ∧ M.assign = L.assign ∧ M.body = L.body ∧ TmR ι L.tm L.nt M.tmps
  | .noDefs, o => o = .deferred (some [])
theorem EntsR.mono {ι ι' : Io} (h : Io.le ι ι') : ∀ {l : List AEnt} {xs : List MapEntry}, EntsR ι l xs → EntsR ι' l xs
  | [], _, hx => hx
  | e :: l, xs, hx => by
    obtain ⟨x, r, h1, h2, h3, h4, h5⟩ := hx
    exact ⟨x, r, h1, h2.mono h, h3.mono h, h4, EntsR.mono h h5⟩
theorem TmR.mono {ι ι' : Io} (h : Io.le ι ι') {tm : Tr AV} {nt : Nat} {tmps : Array Value} (ht : TmR ι tm nt tmps) : TmR ι' tm nt tmps := ⟨ht.1, fun t v hv => ⟨(ht.2 t v hv).1, (ht.2 t v hv).2.mono h⟩⟩
theorem ObjR.mono {P : Program} {ι ι' : Io} (h : Io.le ι ι') {x : Nat} {o : AObj} {p : Obj} (ho : ObjR P ι x o p) : ObjR P ι' x o p := by
  cases o with
  | cells c e opn hard => obtain ⟨cs, e', lo, hi, h1, h2, h3⟩ := ho; exact ⟨cs, e', lo, hi, h1, h2.mono h, h3⟩
  | map es clock => obtain ⟨xs, h1, h2⟩ := ho; exact ⟨xs, h1, h2.mono h⟩
  | strIter s pos => exact ho
  | chan a b => obtain ⟨bf, s, r, h1, h2⟩ := ho; exact ⟨bf, s, r, h1, h2.mono h⟩
  | loop L => obtain ⟨M, h1, h2, h3, h4, h5, h6, h7⟩ := ho; exact ⟨M, h1, h2, h3, h4, h5, h6, h7.mono h⟩
  | noDefs => exact ho
/-- It may be turned. -/
def AObj.free : AObj → Bool
  | .cells _ _ _ true => false
  | _ => true
structure Rel (P : Program) (ι : Io) (h : Hp) (w : World) : Prop where
  live : ∀ k o, h k = some o → ∃ b x p, ι k = some (b, x) ∧ w.heap[b]? = some p ∧ ObjR P ι x o p
  inj : ∀ k k' o o' b x x', h k = some o → h k' = some o' → ι k = some (b, x) → ι k' = some (b, x') → k = k'
  fz : ∀ b c, ι.fz b = some c → ∃ e lo hi, w.heap[b]? = some (.cells c e (lo, hi))
  sep : ∀ k o b x, h k = some o → o.free = true → ι k = some (b, x) → ι.fz b = none
/-- What a run from one memory to another may have turned. -/
structure Step (P : Program) (ι : Io) (h : Hp) (nx : Nat) (w : World) (ι' : Io) (h' : Hp) (nx' : Nat) (w' : World) : Prop where
  rel : Rel P ι' h' w'
  le : Io.le ι ι'
  new : ∀ k p, ι' k = some p → ι k = some p ∨ (nx ≤ k ∧ k < nx')
  nx : nx ≤ nx'
  size : w.heap.size ≤ w'.heap.size
  frame : ∀ b, b < w.heap.size → (∀ k o x, h k = some o → ι k ≠ some (b, x)) → w'.heap[b]? = w.heap[b]?
  img : ∀ k o b x, h' k = some o → ι' k = some (b, x) → (∃ k0 o0 x0, h k0 = some o0 ∧ ι k0 = some (b, x0)) ∨ w.heap.size ≤ b
  os : w'.os = w.os
  tape : w'.tape = w.tape
  output : w'.output = w.output
  hard : ∀ k c e o b x, h k = some (.cells c e o true) → ι k = some (b, x) → h' k = some (.cells c e o true) ∧ w'.heap[b]? = w.heap[b]?
  fzn : ∀ b c, ι'.fz b = some c → ι.fz b = some c ∨ (∃ k o x, h k = some o ∧ o.free = true ∧ ι k = some (b, x)) ∨ w.heap.size ≤ b
theorem Io.le.refl (ι : Io) : Io.le ι ι := ⟨fun _ _ h => h, fun _ _ h => h⟩
theorem Io.le.trans {a b c : Io} (h : Io.le a b) (k : Io.le b c) : Io.le a c := ⟨fun x p hx => k.at' x p (h.at' x p hx), fun x p hx => k.fz x p (h.fz x p hx)⟩
/-- A block more. -/
def Io.put (ι : Io) (n : Nat) (p : Nat × Nat) : Io := ⟨fun k => if k = n then some p else ι k, ι.fz⟩
theorem Io.put_at (ι : Io) (n : Nat) (p : Nat × Nat) (k : Nat) : (ι.put n p) k = if k = n then some p else ι k := rfl
theorem Io.put_le {ι : Io} {n : Nat} {p : Nat × Nat} (h : ι n = none) : Io.le ι (ι.put n p) := ⟨fun k q hk => by
  have : k ≠ n := fun e => by subst e; rw [h] at hk; cases hk
  rw [Io.put_at, if_neg this]; exact hk, fun _ _ h => h⟩
theorem Step.refl {P : Program} {ι : Io} {h : Hp} {nx : Nat} {w : World} (hr : Rel P ι h w) : Step P ι h nx w ι h nx w :=
  ⟨hr, Io.le.refl _, fun _ _ h => .inl h, Nat.le_refl _, Nat.le_refl _, fun _ _ _ => rfl, fun k o b x h1 h2 => .inl ⟨k, o, x, h1, h2⟩, rfl, rfl, rfl, fun _ _ _ _ _ _ h _ => ⟨h, rfl⟩, fun _ _ h => .inl h⟩
theorem Step.trans {P : Program} {ι ι₁ ι₂ : Io} {h h₁ h₂ : Hp} {n n₁ n₂ : Nat} {w w₁ w₂ : World} (a : Step P ι h n w ι₁ h₁ n₁ w₁) (b : Step P ι₁ h₁ n₁ w₁ ι₂ h₂ n₂ w₂) : Step P ι h n w ι₂ h₂ n₂ w₂ := by
  refine ⟨b.rel, a.le.trans b.le, ?_, Nat.le_trans a.nx b.nx, Nat.le_trans a.size b.size, ?_, ?_, b.os.trans a.os, b.tape.trans a.tape, b.output.trans a.output, fun k c e o p x h1 h2 => by
    obtain ⟨q1, q2⟩ := a.hard k c e o p x h1 h2
    obtain ⟨r1, r2⟩ := b.hard k c e o p x q1 (a.le _ _ h2)
    exact ⟨r1, r2.trans q2⟩, fun d c hd => by
    rcases b.fzn d c hd with h1 | ⟨k, o, x, h1, hfr, h2⟩ | h1
    · exact a.fzn d c h1
    · rcases a.img k o d x h1 h2 with ⟨k0, o0, x0, h3, h4⟩ | h3
      · refine .inr (.inl ⟨k0, o0, x0, h3, ?_, h4⟩)
        cases hf0 : o0.free with
        | true => rfl
        | false =>
          cases o0 with
          | cells c0 e0 p0 hard =>
            cases hard with
            | false => cases hf0
            | true =>
              obtain ⟨g1, _⟩ := a.hard k0 c0 e0 p0 d x0 h3 h4
              have := a.rel.inj k k0 _ _ d x x0 h1 g1 h2 (a.le _ _ h4)
              subst this
              rw [h1] at g1; cases g1; cases hfr
          | _ => cases hf0
      · exact .inr (.inr h3)
    · exact .inr (.inr (Nat.le_trans a.size h1))⟩
  · intro k p hk
    have := a.nx; have := b.nx
    rcases b.new k p hk with h1 | ⟨h1, h2⟩
    · rcases a.new k p h1 with h3 | ⟨h3, h4⟩
      · exact .inl h3
      · exact .inr ⟨h3, by omega⟩
    · exact .inr ⟨by omega, h2⟩
  · intro c hc hno
    have e1 := a.frame c hc hno
    rw [← e1]
    refine b.frame c (Nat.lt_of_lt_of_le hc a.size) ?_
    intro k o x hk hi
    rcases a.img k o c x hk hi with ⟨k0, o0, x0, h1, h2⟩ | h3
    · exact hno k0 o0 x0 h1 h2
    · omega
  · intro k o c x hk hi
    rcases b.img k o c x hk hi with ⟨k0, o0, x0, h1, h2⟩ | h3
    · exact a.img k0 o0 c x0 h1 h2
    · exact .inr (Nat.le_trans a.size h3)
theorem St.obj_set (s : St) (k : Nat) (o : AObj) (m : Nat) : (s.set k o).obj m = if m = k then some o else s.obj m := Tr.get_set _ _ _ _
theorem St.obj_kill (s : St) (k : Nat) (m : Nat) : (s.kill k).obj m = if m = k then none else s.obj m := Tr.get_set _ _ _ _
theorem St.obj_new (s : St) (o : AObj) (m : Nat) : (s.new o).obj m = if m = s.nx then some o else s.obj m := Tr.get_set _ _ _ _
@[simp] theorem St.nx_set (s : St) (k : Nat) (o : AObj) : (s.set k o).nx = s.nx := rfl
@[simp] theorem St.nx_kill (s : St) (k : Nat) : (s.kill k).nx = s.nx := rfl
@[simp] theorem St.nx_new (s : St) (o : AObj) : (s.new o).nx = s.nx + 1 := rfl
/-- A new block. -/
theorem step_new {P : Program} {ι : Io} {s : St} {w w' : World} {o : AObj} {p : Obj} {x : Nat} (hr : Rel P ι s.obj w) (hf : ι s.nx = none) (hp : ObjR P ι x o p)
    (hh : w'.heap = w.heap.push p) (h1 : w'.os = w.os) (h2 : w'.tape = w.tape) (h3 : w'.output = w.output) :
    ∃ ι', Step P ι s.obj s.nx w ι' (s.new o).obj (s.new o).nx w' ∧ ι' s.nx = some (w.heap.size, x) := by
  have hsn : s.obj s.nx = none := by
    cases e : s.obj s.nx with
    | none => rfl
    | some y => obtain ⟨b, x, p, e1, _⟩ := hr.live _ _ e; rw [hf] at e1; cases e1
  have hle : Io.le ι (ι.put s.nx (w.heap.size, x)) := Io.put_le hf
  refine ⟨ι.put s.nx (w.heap.size, x), ⟨⟨?_, ?_, ?_, ?_⟩, hle, ?_, Nat.le_succ _, ?_, ?_, ?_, h1, h2, h3, ?_, fun _ _ h => .inl h⟩, by simp [Io.put]⟩
  · intro k y hk
    rw [St.obj_new] at hk
    by_cases e : k = s.nx
    · subst e
      simp at hk; subst hk
      exact ⟨w.heap.size, x, p, by simp [Io.put], by rw [hh]; simp, hp.mono hle⟩
    · rw [if_neg e] at hk
      obtain ⟨b, z, q, e1, e2, e3⟩ := hr.live k y hk
      exact ⟨b, z, q, by simp [Io.put, e, e1], by rw [hh, Array.getElem?_push]; simp [show b ≠ w.heap.size from fun e' => by subst e'; simp at e2, e2], e3.mono hle⟩
  · intro k k' y y' b z z' hk hk' hi hi'
    have lt : ∀ k y b z, s.obj k = some y → ι k = some (b, z) → b < w.heap.size := fun k y b z h h' => by
      obtain ⟨b', z', q, e1, e2, _⟩ := hr.live k y h
      rw [h'] at e1; cases e1
      exact (Array.getElem?_eq_some_iff.1 e2).1
    rw [St.obj_new] at hk hk'
    rw [Io.put_at] at hi hi'
    by_cases e : k = s.nx <;> by_cases e' : k' = s.nx
    · rw [e, e']
    · rw [if_neg e'] at hk'; simp only [e] at hi; simp only [if_neg e'] at hi'; simp at hi
      have := lt _ _ _ _ hk' hi'; omega
    · rw [if_neg e] at hk; simp only [e'] at hi'; simp only [if_neg e] at hi; simp at hi'
      have := lt _ _ _ _ hk hi; omega
    · rw [if_neg e] at hk; rw [if_neg e'] at hk'; simp only [if_neg e] at hi; simp only [if_neg e'] at hi'
      exact hr.inj k k' y y' b z z' hk hk' hi hi'
  · intro b c hb
    obtain ⟨e, lo, hi, h4⟩ := hr.fz b c hb
    have hlt := (Array.getElem?_eq_some_iff.1 h4).1
    exact ⟨e, lo, hi, by rw [hh, Array.getElem?_push, if_neg (by omega)]; exact h4⟩
  · intro k y b z hk hfree hi
    rw [St.obj_new] at hk
    rw [Io.put_at] at hi
    by_cases e : k = s.nx
    · rw [if_pos e] at hi; cases hi
      cases hz : ι.fz w.heap.size with
      | none => exact hz
      | some c =>
        obtain ⟨_, _, _, h4⟩ := hr.fz _ c hz
        exact absurd (Array.getElem?_eq_some_iff.1 h4).1 (Nat.lt_irrefl _)
    · rw [if_neg e] at hk hi
      exact hr.sep k y b z hk hfree hi
  · intro k q hk
    rw [Io.put_at] at hk
    by_cases e : k = s.nx
    · subst e; exact .inr ⟨Nat.le_refl _, Nat.lt_succ_self _⟩
    · simp only [if_neg e] at hk; exact .inl hk
  · rw [hh]; simp
  · intro b hb _
    rw [hh, Array.getElem?_push]; simp [show b ≠ w.heap.size by omega]
  · intro k y b z hk hi
    rw [St.obj_new] at hk
    rw [Io.put_at] at hi
    by_cases e : k = s.nx
    · subst e; simp at hi; exact .inr (by omega)
    · rw [if_neg e] at hk; simp only [if_neg e] at hi; exact .inl ⟨k, y, z, hk, hi⟩
  · intro k c e oo b z hk hi
    have hkn : k ≠ s.nx := fun e => by rw [e, hsn] at hk; cases hk
    obtain ⟨b', z', q, e1, e2, _⟩ := hr.live _ _ hk
    rw [hi] at e1; cases e1
    have hlt := (Array.getElem?_eq_some_iff.1 e2).1
    exact ⟨by rw [St.obj_new, if_neg hkn]; exact hk, by rw [hh, Array.getElem?_push]; simp [show b ≠ w.heap.size by omega]⟩
/-- A block turned. -/
theorem step_set {P : Program} {ι : Io} {s : St} {w w' : World} {k b x : Nat} {o0 o : AObj} {p : Obj} (hr : Rel P ι s.obj w) (h0 : s.obj k = some o0) (hi : ι k = some (b, x)) (hp : ObjR P ι x o p)
    (hb : w'.heap[b]? = some p) (hs : w'.heap.size = w.heap.size) (hh : ∀ c, c ≠ b → w'.heap[c]? = w.heap[c]?) (h1 : w'.os = w.os) (h2 : w'.tape = w.tape) (h3 : w'.output = w.output) (hno : ∀ c e o, o0 ≠ .cells c e o true := by intros; simp) :
    Step P ι s.obj s.nx w ι (s.set k o).obj (s.set k o).nx w' := by
  have hfree0 : o0.free = true := by
    cases o0 with
    | cells c e o hard => cases hard with
      | false => rfl
      | true => exact absurd rfl (hno c e o)
    | _ => rfl
  have hfz := hr.sep k o0 b x h0 hfree0 hi
  refine ⟨⟨?_, ?_, ?_, ?_⟩, Io.le.refl _, fun _ _ h => .inl h, Nat.le_refl _, by omega, ?_, ?_, h1, h2, h3, ?_, fun _ _ h => .inl h⟩
  · intro m y hm
    rw [St.obj_set] at hm
    by_cases e : m = k
    · subst e; simp at hm; subst hm; exact ⟨b, x, p, hi, hb, hp⟩
    · rw [if_neg e] at hm
      obtain ⟨c, z, q, e1, e2, e3⟩ := hr.live m y hm
      refine ⟨c, z, q, e1, ?_, e3⟩
      rw [hh c (fun e' => ?_)]; exact e2
      subst e'; exact e (hr.inj m k y o0 c z x hm h0 e1 hi)
  · intro m m' y y' c z z' hm hm' e1 e2
    rw [St.obj_set] at hm hm'
    have hs : ∀ m y, (if m = k then some o else s.obj m) = some y → ∃ y', s.obj m = some y' := fun m y h => by
      by_cases e : m = k
      · subst e; exact ⟨_, h0⟩
      · rw [if_neg e] at h; exact ⟨_, h⟩
    obtain ⟨u, hu⟩ := hs m y hm
    obtain ⟨u', hu'⟩ := hs m' y' hm'
    exact hr.inj m m' u u' c z z' hu hu' e1 e2
  · intro d c hd
    obtain ⟨e, lo, hi', h4⟩ := hr.fz d c hd
    exact ⟨e, lo, hi', by rw [hh d (fun e' => by subst e'; exact absurd (hd.symm.trans hfz) (by simp))]; exact h4⟩
  · intro m y d z hm hfr e1
    rw [St.obj_set] at hm
    by_cases e : m = k
    · subst e; rw [hi] at e1; cases e1; exact hfz
    · rw [if_neg e] at hm; exact hr.sep m y d z hm hfr e1
  · intro c hc hno
    exact hh c fun e => by subst e; exact hno k o0 x h0 hi
  · intro m y c z hm e1
    rw [St.obj_set] at hm
    by_cases e : m = k
    · subst e; exact .inl ⟨_, o0, z, h0, e1⟩
    · rw [if_neg e] at hm; exact .inl ⟨m, y, z, hm, e1⟩
  · intro m c e oo c' z hm e1
    have hmk : m ≠ k := fun e' => by rw [e', h0] at hm; cases hm; exact hno _ _ _ rfl
    exact ⟨by rw [St.obj_set, if_neg hmk]; exact hm, hh c' fun e' => hmk (hr.inj m k _ o0 c' z x hm h0 e1 (by rw [e']; exact hi))⟩
/-- A block forgotten. -/
theorem rel_kill {P : Program} {ι : Io} {s : St} {w : World} (hr : Rel P ι s.obj w) (k : Nat) : Rel P ι (s.kill k).obj w := by
  have hs : ∀ m y, (s.kill k).obj m = some y → s.obj m = some y := fun m y h => by
    rw [St.obj_kill] at h; by_cases e : m = k
    · simp [e] at h
    · rwa [if_neg e] at h
  exact ⟨fun m y h => hr.live m y (hs m y h), fun m m' y y' b x x' h h' => hr.inj m m' y y' b x x' (hs _ _ h) (hs _ _ h'), hr.fz, fun m y b x h => hr.sep m y b x (hs _ _ h)⟩
theorem step_kill {P : Program} {ι : Io} {s : St} {w : World} (hr : Rel P ι s.obj w) (k : Nat) (hno : ∀ c e o, s.obj k ≠ some (.cells c e o true)) : Step P ι s.obj s.nx w ι (s.kill k).obj (s.kill k).nx w := by
  refine ⟨rel_kill hr k, Io.le.refl _, fun _ _ h => .inl h, Nat.le_refl _, Nat.le_refl _, fun _ _ _ => rfl, fun m y b x h1 h2 => .inl ⟨m, y, x, ?_, h2⟩, rfl, rfl, rfl, fun m c e o b x h1 h2 => ⟨by rw [St.obj_kill, if_neg (fun e' => hno c e o (by rw [← e']; exact h1))]; exact h1, rfl⟩, fun _ _ h => .inl h⟩
  rw [St.obj_kill] at h1; by_cases e : m = k
  · simp [e] at h1
  · rwa [if_neg e] at h1
theorem Rel.drew {P : Program} {ι : Io} {h : Hp} {w w' : World} (hr : Rel P ι h w) (hh : w'.heap = w.heap) : Rel P ι h w' :=
  ⟨fun k o e => by obtain ⟨b, x, p, h1, h2, h3⟩ := hr.live k o e; exact ⟨b, x, p, h1, by rw [hh]; exact h2, h3⟩, hr.inj, fun b c e => by rw [hh]; exact hr.fz b c e, hr.sep⟩
theorem step_drew {P : Program} {ι : Io} {h : Hp} {nx : Nat} {w w' : World} (hr : Rel P ι h w) (hh : w'.heap = w.heap) (h1 : w'.os = w.os) (h2 : w'.tape = w.tape) (h3 : w'.output = w.output) :
    Step P ι h nx w ι h nx w' :=
  ⟨hr.drew hh, Io.le.refl _, fun _ _ h => .inl h, Nat.le_refl _, by rw [hh]; exact Nat.le_refl _, fun _ _ _ => by rw [hh], fun k o b x h1 h2 => .inl ⟨k, o, x, h1, h2⟩, h1, h2, h3, fun k c e o b x g _ => ⟨g, by rw [hh]⟩, fun _ _ h => .inl h⟩
end Go.Proofs.YtcpmhehklicpfaaGreatDoor.Ev
