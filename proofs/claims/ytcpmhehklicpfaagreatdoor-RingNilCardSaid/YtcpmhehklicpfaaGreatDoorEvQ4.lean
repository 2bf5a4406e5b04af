/- Structs built; each quiet operation. -/
import Derived.Test.YtcpmhehklicpfaaGreatDoorEvQ3
namespace Go.Proofs.YtcpmhehklicpfaaGreatDoor.Ev
open Go
set_option linter.unusedVariables false
section
variable {P : Program} {ι : Io} {h : Hp} {w : World} {ρ : Operand → Option AV} {σ : Operand → Value}
theorem VR.cells {v : AV} {u : Value} (hv : VR ι v u) (ha : v ≠ .any) : VRs ι v.cells u.cells.toList := by
  cases v with
  | agg l => simp only [VR] at hv; obtain ⟨xs, rfl, h⟩ := hv; exact h
  | any => exact absurd rfl ha
  | opq => have h := hv; simp only [VR] at hv; obtain ⟨s, rfl⟩ := hv; exact VRs.cons h VRs.nil
  | rng k lo hi => have h := hv; simp only [VR] at hv; obtain ⟨n, rfl, _⟩ := hv; exact VRs.cons h VRs.nil
  | ptr a => cases a with
    | none => simp only [VR] at hv; subst hv; exact VRs.cons (by simp only [VR]) VRs.nil
    | some p => obtain ⟨k, o⟩ := p; have h := hv; simp only [VR] at hv; obtain ⟨b, e, _, rfl⟩ := hv; exact VRs.cons h VRs.nil
  | slice a n c => cases a with
    | none => have h := hv; simp only [VR] at hv; obtain ⟨rfl, _⟩ := hv; exact VRs.cons h VRs.nil
    | some p => obtain ⟨k, o⟩ := p; have h := hv; simp only [VR] at hv; obtain ⟨b, e, _, rfl⟩ := hv; exact VRs.cons h VRs.nil
  | map a => cases a with
    | none => have h := hv; simp only [VR] at hv; subst hv; exact VRs.cons h VRs.nil
    | some k => have h := hv; simp only [VR] at hv; obtain ⟨b, e, _, rfl⟩ := hv; exact VRs.cons h VRs.nil
  | chan a => cases a with
    | none => have h := hv; simp only [VR] at hv; subst hv; exact VRs.cons h VRs.nil
    | some k => have h := hv; simp only [VR] at hv; obtain ⟨b, e, _, rfl⟩ := hv; exact VRs.cons h VRs.nil
  | bool b => have h := hv; simp only [VR] at hv; subst hv; exact VRs.cons h VRs.nil
  | int k n => have h := hv; simp only [VR] at hv; subst hv; exact VRs.cons h VRs.nil
  | str s => have h := hv; simp only [VR] at hv; obtain ⟨rfl, _⟩ := hv; exact VRs.cons h VRs.nil
  | empty => have h := hv; simp only [VR] at hv; obtain ⟨a, c, rfl⟩ := hv; exact VRs.cons h VRs.nil
  | func f a c => have h := hv; simp only [VR] at hv; obtain ⟨xs, ys, rfl, _⟩ := hv; exact VRs.cons h VRs.nil
  | yield l => have h := hv; simp only [VR] at hv; obtain ⟨b, e, _, rfl⟩ := hv; exact VRs.cons h VRs.nil
  | nilFunc => have h := hv; simp only [VR] at hv; subst hv; exact VRs.cons h VRs.nil
  | iface t x => have h := hv; simp only [VR] at hv; obtain ⟨y, rfl, _⟩ := hv; exact VRs.cons h VRs.nil
  | nilIface => have h := hv; simp only [VR] at hv; subst hv; exact VRs.cons h VRs.nil
  | tuple l => have h := hv; simp only [VR] at hv; obtain ⟨xs, rfl, _⟩ := hv; exact VRs.cons h VRs.nil
  | lst l => have h := hv; simp only [VR] at hv; obtain ⟨xs, _, rfl, _⟩ := hv; exact VRs.cons h VRs.nil
  | lptr l => have h := hv; simp only [VR] at hv; obtain ⟨_, _, _, rfl, _⟩ := hv; exact VRs.cons h VRs.nil
  | zero => have h := hv; simp only [VR] at hv; obtain ⟨_, rfl⟩ := hv; exact VRs.cons h VRs.nil
theorem fold_set (off : Nat) : ∀ (vs : List Value) (k : Nat) (cs : Array Value), off + k + vs.length ≤ cs.size →
    ((vs.zipIdx k).foldl (fun cs (x : Value × Nat) => cs.setIfInBounds (off + x.2) x.1) cs).toList = cs.toList.take (off + k) ++ (vs ++ cs.toList.drop (off + k + vs.length))
  | [], k, cs, h => by simp
  | v :: r, k, cs, h => by
    simp only [List.zipIdx_cons, List.foldl_cons]
    rw [fold_set off r (k + 1) (cs.setIfInBounds (off + k) v) (by simp only [Array.size_setIfInBounds]; simp only [List.length_cons] at h; omega)]
    have hlt : off + k < cs.toList.length := by simp only [List.length_cons] at h; simp; omega
    simp only [Array.toList_setIfInBounds, List.length_cons]
    rw [show off + (k + 1) = (off + k) + 1 by omega]
    rw [List.take_add_one, List.take_set_of_le (by omega), List.getElem?_set_self hlt, List.drop_set_of_lt (by omega)]
    simp only [Option.toList_some, List.append_assoc, List.cons_append, List.nil_append]
    rw [show off + k + 1 + r.length = off + k + (r.length + 1) by omega]
theorem splice_some {α : Type} {l m vs : List α} {off : Nat} (hs : splice l off vs = some m) : off + vs.length ≤ l.length ∧ m = l.take off ++ (vs ++ l.drop (off + vs.length)) := by
  unfold splice at hs
  split at hs
  · cases hs; exact ⟨by assumption, rfl⟩
  · cases hs
theorem run_fill {place : Nat → Option (Nat × Nat)} : ∀ (ps : List (Nat × AV)) (qs : List (Nat × Value)) (c c' : List AV) (cs : Array Value), fillA place c ps = some c' → VRs ι c cs.toList →
    ps.map (·.1) = qs.map (·.1) → VRs ι (ps.map (·.2)) (qs.map (·.2)) → (∀ x ∈ ps, x.2 ≠ .any) → ∃ cs', Instr.fill place cs qs = some cs' ∧ VRs ι c' cs'.toList
  | [], qs, c, c', cs, h, hc, h1, h2, _ => by
    simp only [fillA] at h; cases h
    have : qs = [] := by simpa using h1.symm
    subst this
    exact ⟨cs, rfl, hc⟩
  | (i, v) :: ps, [], c, c', cs, h, hc, h1, h2, _ => by simp at h1
  | (i, v) :: ps, (j, u) :: qs, c, c', cs, h, hc, h1, h2, h3 => by
    simp only [List.map_cons, List.cons.injEq] at h1
    obtain ⟨rfl, h1⟩ := h1
    simp only [List.map_cons, VRs, List.cons.injEq] at h2
    obtain ⟨u', r', ⟨rfl, rfl⟩, hu, h2⟩ := h2
    unfold fillA at h
    split at h
    · rename_i off size hp
      split at h
      · rename_i hl
        split at h
        · rename_i c1 hs
          have hcu := hu.cells (h3 (i, v) (by simp))
          obtain ⟨hb, rfl⟩ := splice_some hs
          have e1 := hc.len
          have e2 := hcu.len
          have hsz : u.cells.size = size := by rw [← hl, e2]; simp
          have hbb : off + u.cells.size ≤ cs.size := by
            have : c.length = cs.size := by rw [e1]; simp
            rw [hsz, ← hl]; omega
          have hcs := fold_set off u.cells.toList 0 cs (by simpa using hbb)
          have hrel : VRs ι (c.take off ++ (v.cells ++ c.drop (off + v.cells.length))) ((u.cells.zipIdx.foldl (fun cs (x : Value × Nat) => cs.setIfInBounds (off + x.2) x.1) cs).toList) := by
            rw [← Array.foldl_toList, Array.toList_zipIdx, hcs, e2]
            exact (hc.take off).append (hcu.append (hc.drop _))
          obtain ⟨cs', h4, h5⟩ := run_fill ps qs _ _ _ h hrel h1 h2 (fun x hx => h3 x (by simp [hx]))
          refine ⟨cs', ?_, h5⟩
          simp only [Instr.fill, hp]
          rw [if_neg (by simp [hsz, hbb]; omega)]
          exact h4
        · cases h
      · cases h
    · cases h
theorem run_places : ∀ (fs : List Field) (l : List (Nat × Nat)), placesA P fs = some l → ((fs.mapM fun f => do pure (f.offset, ← sizeOf f.type) : Sem (List (Nat × Nat)))).run P w = .ok l w
  | [], l, h => by simp only [placesA] at h; cases h; rfl
  | f :: r, l, h => by
    simp only [placesA] at h
    split at h
    · rename_i n hn
      split at h
      · rename_i l' hl
        cases h
        have := run_places r l' hl
        simp only [List.mapM_cons, Sem.run_bind, run_szT hn, Result.andThen_ok, Sem.run_pure, this]
      · cases h
    · cases h
theorem zr_any {t : TypeId} {z : AV} (hz : zrT P t = some z) : z ≠ .any := by
  obtain ⟨v, h1, h2⟩ := run_zrT hz (default : World)
  intro e
  subst e
  unfold zrT at hz
  split at hz
  · split at hz
    · rename_i v hv
      have : ∀ n v, ofVal n v ≠ some .any := by
        intro n v h
        cases n with
        | zero => simp [ofVal] at h
        | succ n => unfold ofVal at h; split at h <;> first | (cases h; done) | (split at h <;> cases h)
      exact this _ _ hz
    · cases hz
  · cases hz
theorem run_buildA {t : TypeId} {ps : List (Nat × AV)} {qs : Array (Nat × Value)} {v : AV} (hv : buildA P t ps = some v) (h1 : ps.map (·.1) = qs.toList.map (·.1)) (h2 : VRs ι (ps.map (·.2)) (qs.toList.map (·.2))) (h3 : ∀ x ∈ ps, x.2 ≠ .any) (w : World) :
    ∃ u, (Instr.build t qs).run P w = .ok u w ∧ VR ι v u := by
  unfold buildA at hv
  split at hv
  · cases hv
  · rename_i z hz
    obtain ⟨zv, hz1, hz2⟩ := run_zrT hz w
    have hzc := (hz2 ι).cells (zr_any hz)
    split at hv
    · rename_i fs hu
      split at hv
      · rename_i l hl
        split at hv
        · rename_i c hc
          cases hv
          obtain ⟨cs', h4, h5⟩ := run_fill ps qs.toList _ _ _ hc hzc h1 h2 h3
          have hp : (fs.mapM fun f => do pure (f.offset, ← sizeOf f.type) : Sem (Array (Nat × Nat))).run P w = .ok l.toArray w := by
            rw [Array.mapM_eq_mapM_toList]
            simp only [Sem.run_map, run_places _ _ hl, Result.andThen_ok]
          refine ⟨.agg cs', ?_, by simp only [VR]; exact ⟨_, rfl, h5⟩⟩
          have he : (fun i : Nat => l.toArray[i]?) = fun i : Nat => l[i]? := by funext i; simp
          simp only [Instr.build, Sem.run_bind, hz1, Result.andThen_ok, run_under hu, hp, he, h4, Sem.run_pure]
        · cases hv
      · cases hv
    · rename_i n e hu
      split at hv
      · rename_i sz hsz
        split at hv
        · rename_i c hc
          cases hv
          obtain ⟨cs', h4, h5⟩ := run_fill ps qs.toList _ _ _ hc hzc h1 h2 h3
          refine ⟨.agg cs', ?_, by simp only [VR]; exact ⟨_, rfl, h5⟩⟩
          simp only [Instr.build, Sem.run_bind, hz1, Result.andThen_ok, run_under hu, run_szT hsz, h4, Sem.run_pure]
        · cases hv
      · cases hv
    · cases hv
theorem evp_any : ∀ (l : List (Nat × Operand)) (vs : List (Nat × AV)), evp ρ l = some vs → ∀ x ∈ vs, x.2 ≠ .any
  | [], vs, h => by simp only [evp] at h; cases h; simp
  | (i, x) :: r, vs, h => by
    simp only [evp] at h
    split at h
    · cases h
    · rename_i v hne hv
      split at h
      · rename_i l hl
        cases h
        intro y hy
        rcases List.mem_cons.1 hy with rfl | hy
        · exact fun e => hne e
        · exact evp_any r l hl y hy
      · cases h
    · cases h
theorem evo_R {x : Option Operand} {v : Option AV} (he : evo ρ x = some v) (hx : ∀ y, x = some y → ∀ u, ρ y = some u → VR ι u (σ y)) :
    (∀ u, v = some u → ∃ u', x.map σ = some u' ∧ VR ι u u') ∧ (v = none → x.map σ = none) := by
  cases x with
  | none => simp only [evo] at he; cases he; exact ⟨(fun u h => by cases h), fun _ => rfl⟩
  | some y =>
    simp only [evo] at he
    split at he
    · rename_i u hu
      cases he
      exact ⟨(fun u' h => by cases h; exact ⟨σ y, rfl, hx y rfl _ hu⟩), fun h => by cases h⟩
    · cases he
theorem run_qA {o : Oper} {v : AV} (hr : Rel P ι h w) (hv : qA P ρ h o.op = some v) (hx : ∀ x ∈ o.op.operands, ∀ u, ρ x = some u → VR ι u (σ x)) :
    ∃ u, (execOp σ o).run P w = .ok (.value u) w ∧ VR ι v u := by
  have wrap : ∀ (s : Sem Value), (∃ u, s.run P w = .ok u w ∧ VR ι v u) → ∃ u, ((do pure (.value (← s)) : Sem Next)).run P w = .ok (.value u) w ∧ VR ι v u := by
    rintro s ⟨u, h1, h2⟩
    exact ⟨u, by simp only [Sem.run_bind, h1, Result.andThen_ok, Sem.run_pure], h2⟩
  obtain ⟨dst, op, ty, pos, after, guard⟩ := o
  simp only at hv hx
  cases op <;> simp only [qA] at hv <;> first | (cases hv; done) | skip
  case move x => exact ⟨σ x, rfl, hx x (by simp [Op.operands]) v hv⟩
  case assign x => exact ⟨σ x, rfl, hx x (by simp [Op.operands]) v hv⟩
  case pick c a b =>
    have hc := hx c (by simp [Op.operands])
    split at hv
    · rename_i hh
      have := hc _ hh
      simp only [VR] at this
      exact ⟨σ a, by simp [execOp, this, asBool], hx a (by simp [Op.operands]) v hv⟩
    · rename_i hh
      have := hc _ hh
      simp only [VR] at this
      exact ⟨σ b, by simp [execOp, this, asBool], hx b (by simp [Op.operands]) v hv⟩
    · cases hv
  case build t ps =>
    split at hv
    · rename_i l hl
      have hps : ∀ x ∈ ps.toList, ∀ v, ρ x.2 = some v → VR ι v (σ x.2) := fun x hx' => hx x.2 (by simp only [Op.operands]; simp only [List.mem_toArray, List.mem_map]; exact ⟨x, hx', rfl⟩)
      obtain ⟨h1, h2⟩ := evp_VRs ps.toList l hl hps
      refine wrap _ (run_buildA (qs := ps.map fun (i, x) => (i, σ x)) hv ?_ ?_ (evp_any _ _ hl) w)
      · rw [h1]; simp
      · have : ((ps.map fun (i, x) => (i, σ x)).toList.map (·.2)) = ps.toList.map fun x => σ x.2 := by simp
        rw [this]; exact h2
    · cases hv
  case load t a =>
    have ha := hx a (by simp [Op.operands])
    split at hv
    · rename_i p hp
      obtain ⟨k, o⟩ := p
      have := ha _ hp
      simp only [VR] at this
      obtain ⟨b, e, hb, hs⟩ := this
      obtain ⟨b', y, hb', u, h1, h2⟩ := run_loadA hv hr
      rw [hb] at hb'; cases hb'
      exact wrap _ ⟨u, by simp only [Instr.loadAt, hs, Instr.sureAddr, Sem.run_bind, Sem.run_pure, Result.andThen_ok]; exact h1, h2⟩
    · rename_i c hp
      have := ha _ hp
      simp only [VR] at this
      obtain ⟨b, off, cs, hs, hb, hc⟩ := this
      obtain ⟨e, lo, hi, hw⟩ := hr.fz _ _ hb
      obtain ⟨u, h1, h2⟩ := run_loadL hv hw hc
      exact wrap _ ⟨u, by simp only [Instr.loadAt, hs, Instr.sureAddr, Sem.run_bind, Sem.run_pure, Result.andThen_ok]; exact h1, h2⟩
    · cases hv
  case nilCheck x =>
    have ha := hx x (by simp [Op.operands])
    split at hv
    · rename_i p hp
      cases hv
      obtain ⟨k, o⟩ := p
      have hR := ha _ hp
      have := hR
      simp only [VR] at this
      obtain ⟨b, e, hb, hs⟩ := this
      exact ⟨σ x, by simp [execOp, hs], hR⟩
    · rename_i p hp
      cases hv
      have hR := ha _ hp
      have := hR
      simp only [VR] at this
      obtain ⟨b, e, _, hs, _⟩ := this
      exact ⟨σ x, by simp [execOp, hs], hR⟩
    · rename_i g a b hp
      cases hv
      have hR := ha _ hp
      have := hR
      simp only [VR] at this
      obtain ⟨xs, ys, hs, _⟩ := this
      exact ⟨σ x, by simp [execOp, hs], hR⟩
    · rename_i l hp
      cases hv
      have hR := ha _ hp
      have := hR
      simp only [VR] at this
      obtain ⟨b, e, _, hs⟩ := this
      exact ⟨σ x, by simp [execOp, hs], hR⟩
    · cases hv
  case binOp op t x y ty2 =>
    split at hv
    · rename_i a b ha hb
      obtain ⟨u, h1, h2⟩ := run_binA hv (hx x (by simp [Op.operands]) _ ha) (hx y (by simp [Op.operands]) _ hb) w
      exact wrap _ ⟨u, h1, h2 ι⟩
    · cases hv
  case unOp op t x =>
    split at hv
    · rename_i a ha
      obtain ⟨u, h1, h2⟩ := run_unA (P := P) hv (hx x (by simp [Op.operands]) _ ha) w
      exact wrap _ ⟨u, h1, h2 ι⟩
    · cases hv
  case convert a b x =>
    split at hv
    · rename_i y hy
      exact wrap _ (run_convQ hr hv (hx x (by simp [Op.operands]) _ hy))
    · cases hv
  case makeInterface t x =>
    split at hv
    · cases hv
    · rename_i d y hne hu hy
      cases hv
      refine wrap _ ⟨.iface t (σ x), ?_, by simp only [VR]; exact ⟨_, rfl, hx x (by simp [Op.operands]) _ hy⟩⟩
      simp only [Instr.makeInterface, Sem.run_bind, run_under hu, Result.andThen_ok]
      cases d <;> first | exact (hne _ rfl).elim | rfl
    · cases hv
  case makeFunc fn first captured =>
    cases fn <;> simp only at hv <;> first | (cases hv; done) | skip
    rename_i g
    split at hv
    · rename_i a b ha hb
      cases hv
      refine wrap _ ⟨.func (.func g) (first.map σ) (captured.map σ), rfl, ?_⟩
      simp only [VR]
      refine ⟨_, _, rfl, ?_, ?_⟩
      · rw [Array.toList_map]; exact evs_VRs _ _ ha fun x hx' => hx x (by simp [Op.operands]; exact .inl (by simpa using hx'))
      · rw [Array.toList_map]; exact evs_VRs _ _ hb fun x hx' => hx x (by simp [Op.operands]; exact .inr (by simpa using hx'))
    · cases hv
  case slice t x lo hi mx =>
    split at hv
    · rename_i y lo' hi' mx' hy hlo hhi hmx
      obtain ⟨a1, a2⟩ := evo_R (ι := ι) (σ := σ) hlo fun z hz => hx z (by simp [Op.operands, hz])
      obtain ⟨b1, b2⟩ := evo_R (ι := ι) (σ := σ) hhi fun z hz => hx z (by simp [Op.operands, hz])
      obtain ⟨c1, c2⟩ := evo_R (ι := ι) (σ := σ) hmx fun z hz => hx z (by simp [Op.operands, hz])
      exact wrap _ (run_sliceA hr hv (hx x (by simp [Op.operands]) _ hy) a1 a2 b1 b2 c1 c2)
    · cases hv
  case fieldAddr t x i =>
    split at hv
    · rename_i y hy
      exact wrap _ (run_fieldAtA hv (hx x (by simp [Op.operands]) _ hy) w)
    · cases hv
  case field t x i =>
    split at hv
    · rename_i y hy
      exact wrap _ (run_fieldA hv (hx x (by simp [Op.operands]) _ hy) w)
    · cases hv
  case indexAddr t x i =>
    split at hv
    · rename_i y j hy hj
      exact wrap _ (run_idxA hv (hx x (by simp [Op.operands]) _ hy) (hx i (by simp [Op.operands]) _ hj) w)
    · cases hv
  case index t x i =>
    split at hv
    · rename_i y j hy hj
      exact wrap _ (run_indexA hv (hx x (by simp [Op.operands]) _ hy) (hx i (by simp [Op.operands]) _ hj) w)
    · cases hv
  case lookup t m k ok =>
    split at hv
    · rename_i y j hy hj
      exact wrap _ (run_lookA hr hv (hx m (by simp [Op.operands]) _ hy) (hx k (by simp [Op.operands]) _ hj))
    · cases hv
  case extract x i =>
    split at hv
    · rename_i l hl
      have := hx x (by simp [Op.operands]) _ hl
      simp only [VR] at this
      obtain ⟨xs, hs, hxs⟩ := this
      obtain ⟨u, h1, h2⟩ := hxs.at hv
      have h1' : xs[i]? = some u := by simpa using h1
      exact wrap _ ⟨u, by simp [Instr.extract, hs, h1'], h2⟩
    · cases hv
  case call c =>
    split at hv
    · rename_i b l hb hl
      have := evs_VRs c.args.toList l hl fun x hx' => hx x (by show x ∈ c.operands; unfold Call.operands; exact Array.mem_append.2 (.inr (Array.mem_toList_iff.1 hx')))
      obtain ⟨u, h1, h2⟩ := run_builtinQ (ty := ty) (cs := c.args.map fun | .const _ => true | _ => false) hr hv this
      refine ⟨u, ?_, h2⟩
      have e : (c.args.toList.map σ).toArray = c.args.map σ := by rw [← Array.toList_map, Array.toArray_toList]
      rw [e] at h1
      simp only [execOp, resolve, hb, Sem.run_bind, Sem.run_pure, Result.andThen_ok, invoke]
      exact h1
    · cases hv
end
end Go.Proofs.YtcpmhehklicpfaaGreatDoor.Ev
