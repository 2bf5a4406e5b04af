/- Quiet operations. -/
import Derived.Test.YtcpmhehklicpfaaGreatDoorEvQ2
import Derived.Laws.BytesString
namespace Go.Proofs.YtcpmhehklicpfaaGreatDoor.Ev
open Go
set_option linter.unusedVariables false
section
variable {P : Program} {ι : Io} {h : Hp} {w : World} {ρ : Operand → Option AV} {σ : Operand → Value}
theorem evs_VRs : ∀ (l : List Operand) (vs : List AV), evs ρ l = some vs → (∀ x ∈ l, ∀ v, ρ x = some v → VR ι v (σ x)) → VRs ι vs (l.map σ)
  | [], vs, h, _ => by simp only [evs] at h; cases h; exact VRs.nil
  | x :: r, vs, h, hx => by
    simp only [evs] at h
    split at h
    · rename_i v hv
      split at h
      · rename_i l hl
        cases h
        exact VRs.cons (hx x (by simp) v hv) (evs_VRs r l hl fun y hy => hx y (by simp [hy]))
      · cases h
    · cases h
theorem evp_VRs : ∀ (l : List (Nat × Operand)) (vs : List (Nat × AV)), evp ρ l = some vs → (∀ x ∈ l, ∀ v, ρ x.2 = some v → VR ι v (σ x.2)) →
    vs.map (·.1) = l.map (·.1) ∧ VRs ι (vs.map (·.2)) (l.map fun x => σ x.2)
  | [], vs, h, _ => by simp only [evp] at h; cases h; exact ⟨rfl, VRs.nil⟩
  | (i, x) :: r, vs, h, hx => by
    simp only [evp] at h
    split at h
    · cases h
    · rename_i v _ hv
      split at h
      · rename_i l hl
        cases h
        obtain ⟨h1, h2⟩ := evp_VRs r l hl fun y hy => hx y (by simp [hy])
        exact ⟨by simp [h1], VRs.cons (hx (i, x) (by simp) v hv) h2⟩
      · cases h
    · cases h
/-- A slice's first cells. -/
theorem run_firstA' {size n : Nat} {x : AV} {x' : Value} {l : List AV} (hr : Rel P ι h w) (hf : firstA h size n x = some l) (hx : VR ι x x') :
    ∃ cs, (∀ w' : World, w'.heap = w.heap → (Builtin.firstCells size n x').run P w' = .ok cs w') ∧ VRs ι l cs.toList := by
  unfold firstA at hf
  split at hf
  · rename_i a m c
    obtain ⟨k, o⟩ := a
    split at hf
    · rename_i c e opn hard hk
      obtain ⟨b, y, cs, e', lo, hi, q1, q2, q3, ⟨q4, _⟩, _⟩ := cellsOf_rel hr hk
      simp only [VR] at hx
      obtain ⟨b', y', p1, rfl⟩ := hx
      rw [q1] at p1; cases p1
      obtain ⟨h1, h2⟩ := q3.cut hf
      rw [take_drop_take _ _ _ _ h1] at h2
      refine ⟨cs.extract o (o + n * size), ?_, ?_⟩
      · intro w' hw'
        simp only [Builtin.firstCells]
        exact run_cells (by rw [hw']; exact q2) (by omega)
      · rw [Array.toList_extract, List.extract_eq_take_drop, show o + n * size - o = n * size by omega]
        exact h2
    · cases hf
  · cases hf
    simp only [VR] at hx
    obtain ⟨rfl, _⟩ := hx
    exact ⟨#[], fun _ _ => rfl, VRs.nil⟩
  · split at hf
    · rename_i hn
      cases hf
      simp only [VR] at hx
      obtain ⟨a, c, rfl⟩ := hx
      subst hn
      refine ⟨#[], fun w' _ => ?_, VRs.nil⟩
      simp [Builtin.firstCells, loadCells, loadCellsFrom]
    · cases hf
  · rename_i b
    cases hf
    simp only [VR] at hx
    obtain ⟨rfl, hb⟩ := hx
    refine ⟨_, fun _ _ => rfl, ?_⟩
    have e : ((bsOf b).extract 0 n) = bsOf (b.take n) := by rw [bs_extract]; simp
    simp only [e]
    simp only [Array.toList_map]
    generalize hm : b.take n = m
    have hm' : ∀ x ∈ m, x < 256 := fun x hx => hb x (List.mem_of_mem_take (hm ▸ hx))
    clear hm
    induction m with
    | nil => exact VRs.nil
    | cons x m ih =>
      refine VRs.cons ?_ (ih fun y hy => hm' y (by simp [hy]))
      simp only [byteA, VR]
      congr 1
      have := hm' x (by simp)
      simp [Nat.toUInt8, UInt8.toNat_ofNat']
      omega
  · split at hf
    · rename_i hn
      cases hf
      simp only [VR] at hx
      obtain ⟨a, rfl⟩ := hx
      subst hn
      refine ⟨#[], fun w' _ => ?_, VRs.nil⟩
      cases a <;> simp [Builtin.firstCells, loadCells, loadCellsFrom]
    · cases hf
  · rename_i rows
    split at hf
    · rename_i hnr
      simp only [VR] at hx
      obtain ⟨a, cap, rfl, _, h1⟩ := hx
      rcases h1 with h1 | ⟨b, off, cs, sz, rfl, h2, h3⟩
      · subst h1
        simp only [List.take_nil, rowsA] at hf
        cases hf
        have h0 : n = 0 := by simpa using hnr
        subst h0
        refine ⟨#[], fun w' _ => ?_, VRs.nil⟩
        cases a <;> simp [Builtin.firstCells, loadCells, loadCellsFrom]
      · obtain ⟨e, lo, hi, hw⟩ := hr.fz _ _ h2
        obtain ⟨_, h5, h6⟩ := (h3.take n).flat hf
        have hnl : (rows.take n).length = n := by simp; omega
        rw [hnl] at h5 h6
        have hlen := h6.len
        simp only [List.length_take, List.length_drop, Array.length_toList] at hlen
        refine ⟨cs.extract off (off + n * size), fun w' hw' => ?_, ?_⟩
        · simp only [Builtin.firstCells]
          by_cases h0 : n * size = 0
          · rw [h0]
            simp [loadCells, loadCellsFrom]
            omega
          · exact run_cells (by rw [hw']; exact hw) (by omega)
        · rw [Array.toList_extract, List.extract_eq_take_drop, show off + n * size - off = n * size by omega]
          exact h6
    · cases hf
  · cases hf
theorem run_firstA {size n : Nat} {x : AV} {x' : Value} {l : List AV} (hr : Rel P ι h w) (hf : firstA h size n x = some l) (hx : VR ι x x') :
    ∃ cs, (Builtin.firstCells size n x').run P w = .ok cs w ∧ VRs ι l cs.toList := by
  obtain ⟨cs, h1, h2⟩ := run_firstA' hr hf hx
  exact ⟨cs, h1 w rfl, h2⟩
theorem bytesOf_VRs : ∀ (l : List AV) (b : List Nat) (vs : List Value), bytesOf l = some b → VRs ι l vs → ∃ ns : List Int, vs = ns.map (Value.int .u8) ∧ ns = b.map Int.ofNat ∧ ∀ n ∈ b, n < 256
  | [], b, vs, h, hv => by simp only [bytesOf] at h; cases h; simp only [VRs] at hv; subst hv; exact ⟨[], rfl, rfl, by simp⟩
  | a :: r, b, vs, h, hv => by
    simp only [VRs] at hv
    obtain ⟨v, r', rfl, h1, h2⟩ := hv
    unfold bytesOf at h
    split at h
    · rename_i e; cases e
    · rename_i n r0 e
      cases e
      split at h
      · rename_i hn
        split at h
        · rename_i l hl
          cases h
          obtain ⟨ns, e1, e2, e3⟩ := bytesOf_VRs r l r' hl h2
          simp only [VR] at h1
          subst h1
          refine ⟨n :: ns, by simp [e1], ?_, ?_⟩
          · subst e2; simp only [List.map_cons]; congr 1; simp; omega
          · intro m hm
            rcases List.mem_cons.1 hm with rfl | hm
            · omega
            · exact e3 m hm
        · cases h
      · cases h
    · cases h
theorem run_lenA {x : AV} {x' : Value} {n : Nat} (hl : lenA x = some n) (hx : VR ι x x') (w : World) : (Builtin.lenOf x').run P w = .ok n w := by
  unfold lenA at hl
  split at hl
  · rename_i a m c
    cases hl
    cases a with
    | none => simp only [VR] at hx; obtain ⟨rfl, _⟩ := hx; rfl
    | some p => obtain ⟨k, o⟩ := p; simp only [VR] at hx; obtain ⟨b, y, _, rfl⟩ := hx; rfl
  · cases hl; simp only [VR] at hx; obtain ⟨a, c, rfl⟩ := hx; rfl
  · rename_i b; cases hl; simp only [VR] at hx; obtain ⟨rfl, _⟩ := hx; simp [Builtin.lenOf, ByteArray.size]
  · cases hl; simp only [VR] at hx; obtain ⟨a, rfl⟩ := hx; rfl
  · cases hl; simp only [VR] at hx; obtain ⟨a, cap, rfl, _⟩ := hx; rfl
  · cases hl
theorem push_all : ∀ (b : List Nat) (s : ByteArray), (b.map Int.ofNat).foldl (fun r n => r.push (UInt8.ofNat n.toNat)) s = s ++ bsOf b
  | [], s => by
    apply ByteArray.ext
    simp [bsOf]
  | x :: b, s => by
    simp only [List.map_cons, List.foldl_cons]
    rw [push_all b]
    apply ByteArray.ext
    simp [bsOf, ByteArray.push, Nat.toUInt8]
theorem run_convQ {src dst : TypeId} {x v : AV} {x' : Value} (hr : Rel P ι h w) (hv : convQ P h src dst x = some v) (hx : VR ι x x') : ∃ u, (convert src dst x').run P w = .ok u w ∧ VR ι v u := by
  unfold convQ at hv
  split at hv
  · rename_i k0 k k1 n hd hs
    cases hv
    simp only [VR] at hx; subst hx
    exact ⟨_, by simp only [convert, Sem.run_bind, run_under hd, run_under hs, Result.andThen_ok, Conv.intToInt, Sem.run_pure]; rfl, by simp only [VR]⟩
  · rename_i b hd hs
    cases hv
    simp only [VR] at hx
    obtain ⟨rfl, hb⟩ := hx
    exact ⟨_, by simp only [convert, Sem.run_bind, run_under hd, run_under hs, Result.andThen_ok, Sem.run_pure]; rfl, by simp only [VR]; exact ⟨trivial, hb⟩⟩
  · rename_i e a n c hs hd
    split at hv
    · rename_i he
      split at hv
      · rename_i l hl
        split at hv
        · rename_i b hb
          cases hv
          obtain ⟨cs, h1, h2⟩ := run_firstA hr hl hx
          obtain ⟨ns, e1, e2, e3⟩ := bytesOf_VRs l b _ hb h2
          cases a with
          | none =>
            simp only [VR] at hx
            obtain ⟨rfl, rfl, rfl⟩ := hx
            rw [run_convert_bytes_string w _ _ e none 0 0 hs he hd]
            refine ⟨_, rfl, ?_⟩
            simp only [Builtin.firstCells, Sem.run_pure] at h1
            cases h1
            simp at e1
            subst e1
            have : b = [] := by simpa using e2.symm
            subst this
            simp only [VR]
            exact ⟨rfl, by simp⟩
          | some p =>
            obtain ⟨k, o⟩ := p
            simp only [VR] at hx
            obtain ⟨p, y, hp, rfl⟩ := hx
            rw [run_convert_bytes_string w _ _ e _ _ _ hs he hd]
            simp only [Builtin.firstCells, Nat.mul_one] at h1
            have h3 : (loadCells ⟨p, o, none⟩ n).run P w = .ok (ns.map (Value.int .u8)).toArray w := by rw [h1, ← e1]
            rw [run_bytesToString w _ _ _ ns h3, e2, push_all]
            refine ⟨_, rfl, ?_⟩
            simp only [VR]
            refine ⟨?_, e3⟩
            congr 1
        · cases hv
      · cases hv
    · cases hv
  · rename_i e hs hd
    split at hv
    · rename_i he
      cases hv
      simp only [VR] at hx
      obtain ⟨a, c, rfl⟩ := hx
      rw [run_convert_bytes_string w _ _ e _ _ _ hs he hd]
      refine ⟨_, run_bytesToString w a 0 c [] (by simp [loadCells, loadCellsFrom]), ?_⟩
      simp only [VR]
      exact ⟨rfl, by simp⟩
    · cases hv
  · rename_i e rows hs hd
    split at hv
    · rename_i he
      split at hv
      · rename_i l hl
        split at hv
        · rename_i b hb
          cases hv
          obtain ⟨cs, h1, h2⟩ := run_firstA hr hl hx
          obtain ⟨ns, e1, e2, e3⟩ := bytesOf_VRs l b _ hb h2
          simp only [VR] at hx
          obtain ⟨a, cap, rfl, _, hx⟩ := hx
          rw [run_convert_bytes_string w _ _ e a rows.length cap hs he hd]
          refine ⟨.string (bsOf b), ?_, by simp only [VR]; exact ⟨trivial, e3⟩⟩
          cases a with
          | none =>
            have h0 : rows = [] := by
              rcases hx with hx | ⟨_, _, _, _, h, _⟩
              · exact hx
              · cases h
            subst h0
            simp only [firstA, List.length_nil, Nat.le_refl, if_true, List.take_nil, rowsA] at hl
            cases hl
            simp only [bytesOf] at hb
            cases hb
            rfl
          | some p =>
            simp only [Builtin.firstCells, Nat.mul_one] at h1
            have h3 : (loadCells p rows.length).run P w = .ok (ns.map (Value.int .u8)).toArray w := by rw [h1, ← e1]
            rw [run_bytesToString w _ _ _ ns h3, e2, push_all]
            congr 1
        · cases hv
      · cases hv
    · cases hv
  · cases hv
theorem run_builtinQ {b : Builtin} {ts : Array TypeId} {ty : TypeId} {cs : Array Bool} {args : List AV} {args' : List Value} {v : AV} (hr : Rel P ι h w) (hv : qBuiltin P h b ts[0]? args = some v) (ha : VRs ι args args') :
    ∃ u, (builtin b ts ty cs args'.toArray).run P w = .ok (.value u) w ∧ VR ι v u := by
  unfold qBuiltin at hv
  split at hv
  · rename_i t x ht
    simp only [VRs] at ha
    obtain ⟨x', _, rfl, hx, rfl⟩ := ha
    have key : ∀ (n : Nat), (Builtin.len_ ts ty #[x']).run P w = .ok (.int .i64 n) w → v = .int .i64 n → ∃ u, (builtin .len ts ty cs [x'].toArray).run P w = .ok (.value u) w ∧ VR ι v u := fun n h1 h2 => by
      subst h2
      exact ⟨.int .i64 n, by simp [builtin, h1], by simp only [VR]⟩
    split at hv
    · rename_i bb hu
      cases hv
      simp only [VR] at hx; obtain ⟨rfl, _⟩ := hx
      have hsz : (bsOf bb).size = bb.length := by simp [ByteArray.size]
      exact key _ (by simp only [bsOf] at hsz; simp [Builtin.len_, ht, run_under hu, goInt, hsz]) rfl
    · rename_i n _ hu
      cases hv
      exact key _ (by simp [Builtin.len_, ht, run_under hu, goInt]) rfl
    · rename_i e a n c hu
      cases hv
      cases a with
      | none => simp only [VR] at hx; obtain ⟨rfl, _⟩ := hx; exact key _ (by simp [Builtin.len_, ht, run_under hu, goInt]) rfl
      | some p => obtain ⟨k, o⟩ := p; simp only [VR] at hx; obtain ⟨b, y, _, rfl⟩ := hx; exact key _ (by simp [Builtin.len_, ht, run_under hu, goInt]) rfl
    · rename_i e hu
      cases hv
      simp only [VR] at hx; obtain ⟨a, c, rfl⟩ := hx
      exact key 0 (by simp [Builtin.len_, ht, run_under hu, goInt]) rfl
    · rename_i e hu
      cases hv
      simp only [VR] at hx; obtain ⟨a, rfl⟩ := hx
      exact key 0 (by simp [Builtin.len_, ht, run_under hu, goInt]) rfl
    · rename_i e rows hu
      cases hv
      simp only [VR] at hx; obtain ⟨a, cap, rfl, _⟩ := hx
      exact key _ (by simp [Builtin.len_, ht, run_under hu, goInt]) rfl
    · rename_i hu
      cases hv
      simp only [VR] at hx; subst hx
      exact key 0 (by simp [Builtin.len_, ht, run_under hu, goInt]) rfl
    · rename_i k e r hu
      split at hv
      · rename_i es clock hk
        cases hv
        simp only [VR] at hx
        obtain ⟨b, y, hb, rfl⟩ := hx
        obtain ⟨b', y', xs, q1, q2, q3⟩ := mapOf_rel hr hk
        rw [hb] at q1; cases q1
        have hlen : ∀ (es : List AEnt) (l : List MapEntry), EntsR ι es l → es.length = l.length := by
          intro es
          induction es with
          | nil => intro l hl; simp only [EntsR] at hl; subst hl; rfl
          | cons e es ih => intro l hl; obtain ⟨x, r, rfl, _, _, _, h5⟩ := hl; simp [ih r h5]
        have := hlen _ _ q3
        refine key _ ?_ rfl
        simp [Builtin.len_, ht, run_under hu, goInt, run_getMap q2, this]
      · cases hv
    · rename_i e r hu
      split at hv
      · rename_i cap buf hk
        cases hv
        simp only [VR] at hx
        obtain ⟨b, y, hb, rfl⟩ := hx
        obtain ⟨b', y', p, q1, q2, bf, sn, rc, rfl, q3⟩ := hr.live _ _ hk
        rw [hb] at q1; cases q1
        have := q3.len
        refine key _ ?_ rfl
        have hg : (getObj b).run P w = .ok (.chan cap bf false sn rc false) w := by simp [getObj, Sem.run, q2]
        simp [Builtin.len_, ht, run_under hu, goInt, hg, this]
      · cases hv
    · cases hv
  · rename_i t x ht
    simp only [VRs] at ha
    obtain ⟨x', _, rfl, hx, rfl⟩ := ha
    have key : ∀ (n : Nat), (Builtin.cap_ ts ty #[x']).run P w = .ok (.int .i64 n) w → v = .int .i64 n → ∃ u, (builtin .cap ts ty cs [x'].toArray).run P w = .ok (.value u) w ∧ VR ι v u := fun n h1 h2 => by
      subst h2
      exact ⟨.int .i64 n, by simp [builtin, h1], by simp only [VR]⟩
    split at hv
    · rename_i e l n hu
      cases hv
      simp only [VR] at hx; obtain ⟨rfl, rfl, rfl⟩ := hx
      exact key _ (by simp [Builtin.cap_, ht, run_under hu, goInt]) rfl
    · rename_i e a l n hu
      obtain ⟨k, o⟩ := a
      split at hv
      · rename_i c e' hard hk
        cases hv
        simp only [VR] at hx
        obtain ⟨b, y, hb, rfl⟩ := hx
        obtain ⟨b', y', cs', e0, lo, hi, q1, _, _, _, q2, _⟩ := cellsOf_rel hr hk
        rw [hb] at q1; cases q1
        obtain rfl := q2 rfl
        exact key _ (by simp [Builtin.cap_, ht, run_under hu, goInt]) rfl
      · cases hv
    · cases hv
  · rename_i k a k' b ht
    cases hv
    simp only [VRs] at ha
    obtain ⟨x', _, rfl, hx, y', _, rfl, hy, rfl⟩ := ha
    simp only [VR] at hx hy
    subst hx hy
    exact ⟨_, by simp [builtin, Builtin.min_, Builtin.min2]; rfl, by simp only [VR]⟩
  · rename_i k a k' b ht
    cases hv
    simp only [VRs] at ha
    obtain ⟨x', _, rfl, hx, y', _, rfl, hy, rfl⟩ := ha
    simp only [VR] at hx hy
    subst hx hy
    exact ⟨_, by simp [builtin, Builtin.max_, Builtin.max2]; rfl, by simp only [VR]⟩
  · cases hv
end
end Go.Proofs.YtcpmhehklicpfaaGreatDoor.Ev
