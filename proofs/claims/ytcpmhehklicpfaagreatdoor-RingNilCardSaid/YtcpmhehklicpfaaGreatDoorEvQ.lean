/- Places, parts, slices, look-ups. -/
import Derived.Test.YtcpmhehklicpfaaGreatDoorEvPure2
namespace Go.Proofs.YtcpmhehklicpfaaGreatDoor.Ev
open Go
set_option linter.unusedVariables false
section
variable {P : Program} {ι : Io} {h : Hp} {w : World}
theorem addr_add' (b o i : Nat) : Addr.add ⟨b, o, none⟩ i = ⟨b, o + i, none⟩ := addr_add b o i
theorem run_asInt {k : IntKind} {n : Int} (w : World) : (asIntOf (.int k n)).run P w = .ok (k, n) w := rfl
theorem run_bnd {x : Option AV} {x' : Option Value} {d most n : Nat} (hb : bnd x d most = some n) (hx : ∀ v, x = some v → ∃ v', x' = some v' ∧ VR ι v v') (hx0 : x = none → x' = none) :
    (x = none ∧ x' = none ∧ n = d) ∨ ∃ k i, x' = some (.int k i) ∧ 0 ≤ i ∧ i ≤ (most : Int) ∧ i.toNat = n := by
  unfold bnd at hb
  split at hb
  · cases hb; exact .inl ⟨rfl, hx0 rfl, rfl⟩
  · rename_i k i
    split at hb
    · rename_i hi
      cases hb
      obtain ⟨v', rfl, hv⟩ := hx _ rfl
      simp only [VR] at hv; subst hv
      exact .inr ⟨k, i, rfl, hi.1, hi.2, rfl⟩
    · cases hb
  · cases hb
/-- The bounds of a slice of two indexes. -/
theorem run_bounds {lo hi : Option AV} {lo' hi' : Option Value} {isS : Bool} {len cap c l h : Nat} (hh : bnd hi len cap = some h) (hl : bnd lo 0 h = some l) (hc : cap ≤ c)
    (h1 : ∀ v, lo = some v → ∃ v', lo' = some v' ∧ VR ι v v') (h2 : lo = none → lo' = none) (h3 : ∀ v, hi = some v → ∃ v', hi' = some v' ∧ VR ι v v') (h4 : hi = none → hi' = none) (w : World) :
    (Instr.sliceBounds isS len c lo' hi' none).run P w = .ok (l, h, c) w := by
  rcases run_bnd hh h3 h4 with ⟨_, rfl, rfl⟩ | ⟨k, i, rfl, a1, a2, rfl⟩ <;> rcases run_bnd hl h1 h2 with ⟨_, rfl, rfl⟩ | ⟨k', i', rfl, b1, b2, rfl⟩
  · rfl
  · simp only [Instr.sliceBounds, Sem.run_bind, Sem.run_pure, Result.andThen_ok, Instr.sliceBound, run_asInt, Sem.run_ite]
    rw [if_pos ⟨b1, b2⟩]
    rfl
  · simp only [Instr.sliceBounds, Sem.run_bind, Sem.run_pure, Result.andThen_ok, Instr.sliceBound, run_asInt, Sem.run_ite]
    rw [if_pos ⟨a1, by omega⟩]
    rfl
  · simp only [Instr.sliceBounds, Sem.run_bind, Sem.run_pure, Result.andThen_ok, Instr.sliceBound, run_asInt, Sem.run_ite]
    rw [if_pos ⟨a1, by omega⟩]
    simp only [Result.andThen_ok, Sem.run_pure]
    rw [if_pos ⟨b1, b2⟩]
    rfl
theorem bs_extract (b : List Nat) (l h : Nat) : (bsOf b).extract l h = bsOf ((b.take h).drop l) := by
  apply ByteArray.ext
  simp only [ByteArray.data_extract]
  apply Array.ext'
  simp only [Array.toList_extract, List.extract_eq_take_drop, List.map_drop, List.map_take]
  rw [List.drop_take]
theorem run_sliceA {hp : Hp} {t : TypeId} {x v : AV} {x' : Value} {lo hi mx : Option AV} {lo' hi' mx' : Option Value} (hr : Rel P ι hp w) (hv : sliceA P hp t x lo hi mx = some v) (hx : VR ι x x')
    (h1 : ∀ v, lo = some v → ∃ v', lo' = some v' ∧ VR ι v v') (h2 : lo = none → lo' = none) (h3 : ∀ v, hi = some v → ∃ v', hi' = some v' ∧ VR ι v v') (h4 : hi = none → hi' = none)
    (h5 : ∀ v, mx = some v → ∃ v', mx' = some v' ∧ VR ι v v') (h6 : mx = none → mx' = none) : ∃ u, (Instr.sliceAt t x' lo' hi' mx').run P w = .ok u w ∧ VR ι v u := by
  unfold sliceA at hv
  split at hv
  · rename_i b hu
    split at hv
    · rename_i h hh
      split at hv
      · rename_i l hl
        cases hv
        obtain rfl := h6 rfl
        simp only [VR] at hx
        obtain ⟨rfl, hb⟩ := hx
        have hsz : (bsOf b).size = b.length := by simp [ByteArray.size]
        refine ⟨.string (bsOf ((b.take h).drop l)), ?_, ?_⟩
        · simp only [Instr.sliceAt, Sem.run_bind, run_under hu, Result.andThen_ok, Instr.slice, Option.isSome_none, Bool.false_eq_true, if_false, Sem.run_pure]
          have := run_bounds (P := P) (isS := false) hh hl (Nat.le_refl _) h1 h2 h3 h4 w
          rw [← hsz] at this
          simp only [this, Result.andThen_ok, Sem.run_pure, bs_extract]
        · simp only [VR]
          exact ⟨trivial, fun n hn => hb n (List.mem_of_mem_take (List.mem_of_mem_drop hn))⟩
      · cases hv
    · cases hv
  · rename_i e a len cap hu
    split at hv
    · rename_i h sz hh hsz
      split at hv
      · rename_i l hl
        obtain rfl := h6 rfl
        split at hv
        · split at hv
          · rename_i hc
            cases hv
            simp only [VR] at hx
            obtain ⟨rfl, rfl, rfl⟩ := hx
            have hb := run_bounds (P := P) (isS := true) hh hl (Nat.le_refl _) h1 h2 h3 h4 w
            have hh0 : h = 0 := by
              rcases run_bnd hh h3 h4 with ⟨_, _, e⟩ | ⟨k, i, _, a1, a2, e⟩ <;> omega
            subst hh0
            have hl0 : l = 0 := by
              rcases run_bnd hl h1 h2 with ⟨_, _, e⟩ | ⟨k, i, _, a1, a2, e⟩ <;> omega
            subst hl0
            refine ⟨.slice none 0 0, ?_, by simp [VR]⟩
            simp only [Instr.sliceAt, Sem.run_bind, run_under hu, Result.andThen_ok, Instr.slice, hb, run_szT hsz, Sem.run_pure]
            simp
          · cases hv
        · rename_i b o
          simp only [VR] at hx
          obtain ⟨p, y, hp, rfl⟩ := hx
          have hb := run_bounds (P := P) (isS := true) (c := cap + y) hh hl (by omega) h1 h2 h3 h4 w
          have hle : h ≤ cap ∨ h = len := by
            rcases run_bnd hh h3 h4 with ⟨_, _, e⟩ | ⟨k, i, _, a1, a2, e⟩
            · exact .inr e
            · left; omega
          split at hv
          · rename_i hlt
            cases hv
            simp only [Instr.sliceAt, Sem.run_bind, run_under hu, Result.andThen_ok, Instr.slice, hb, run_szT hsz, Sem.run_pure]
            refine ⟨_, rfl, ?_⟩
            simp only [VR]
            refine ⟨p, y, hp, ?_⟩
            by_cases e : cap + y = l
            · rcases hlt with hlt | rfl
              · omega
              · simp [addr_add']
            · rw [if_neg e]
              simp only [Option.map_some, addr_add']
              congr 1
              rcases hlt with hlt | rfl
              · omega
              · omega
          · rename_i hlt
            split at hv
            · rename_i hhl
              cases hv
              simp only [Instr.sliceAt, Sem.run_bind, run_under hu, Result.andThen_ok, Instr.slice, hb, run_szT hsz, Sem.run_pure]
              refine ⟨_, rfl, ?_⟩
              simp only [VR]
              rw [hhl, Nat.sub_self]
              split
              · exact ⟨_, _, rfl⟩
              · exact ⟨_, _, rfl⟩
            · cases hv
      · cases hv
    · cases hv
  · rename_i e a len cap m hu
    split at hv
    · rename_i m' sz hm hsz
      split at hv
      · rename_i hi
        split at hv
        · rename_i h hh
          split at hv
          · rename_i l hl
            cases hv
            rcases run_bnd hm (x' := mx') h5 h6 with ⟨e1, _⟩ | ⟨km, im, e1, m1, m2, m3⟩
            · cases e1
            rcases run_bnd hh (x' := hi') h3 h4 with ⟨e2, _⟩ | ⟨kh, ih, e2, a1, a2, a3⟩
            · cases e2
            subst e1 e2
            have key : ∀ (A : Option Addr) (n c : Nat), cap ≤ c → x' = .slice A n c → ∃ u, (Instr.sliceAt t x' lo' (some (.int kh ih)) (some (.int km im))).run P w = .ok u w ∧ VR ι .any u := by
              intro A n c hc hx'
              subst hx'
              have hb : (Instr.sliceBounds true n c lo' (some (.int kh ih)) (some (.int km im))).run P w = .ok (l, h, m') w := by
                simp only [Instr.sliceBounds, Sem.run_bind, Instr.sliceBound, run_asInt, Sem.run_ite, Result.andThen_ok]
                rw [if_pos ⟨m1, by omega⟩]
                simp only [Result.andThen_ok, Sem.run_pure]
                rw [if_pos ⟨a1, by omega⟩]
                simp only [Result.andThen_ok]
                rcases run_bnd hl h1 h2 with ⟨_, rfl, rfl⟩ | ⟨k', i', rfl, b1, b2, rfl⟩
                · simp only [Sem.run_pure, Result.andThen_ok]; subst m3; subst a3; rfl
                · simp only [Sem.run_bind, run_asInt, Sem.run_ite, Result.andThen_ok]
                  rw [if_pos ⟨b1, by omega⟩]
                  simp only [Sem.run_pure, Result.andThen_ok]; subst m3; subst a3; rfl
              exact ⟨_, by simp only [Instr.sliceAt, Sem.run_bind, run_under hu, Result.andThen_ok, Instr.slice, hb, run_szT hsz, Sem.run_pure]; rfl, by simp only [VR]⟩
            rcases a with _ | ⟨b, o⟩
            · simp only [VR] at hx
              obtain ⟨rfl, rfl, rfl⟩ := hx
              exact key _ _ _ (Nat.le_refl _) rfl
            · simp only [VR] at hx
              obtain ⟨p, y, hp, rfl⟩ := hx
              exact key _ _ _ (by omega) rfl
          · cases hv
        · cases hv
      · cases hv
    · cases hv
  · rename_i e rows hu
    split at hv
    · rename_i h sz hh hsz
      split at hv
      · rename_i l hl
        obtain rfl := h6 rfl
        split at hv
        · rename_i hok
          cases hv
          simp only [VR] at hx
          obtain ⟨a, cap, rfl, hcap, hx⟩ := hx
          have hb := run_bounds (P := P) (isS := true) (c := cap) hh hl hcap.1 h1 h2 h3 h4 w
          have hhl : h ≤ rows.length := by
            rcases run_bnd hh h3 h4 with ⟨_, _, e⟩ | ⟨k, i, _, a1, a2, e⟩ <;> omega
          have hlh : l ≤ h := by
            rcases run_bnd hl h1 h2 with ⟨_, _, e⟩ | ⟨k, i, _, a1, a2, e⟩ <;> omega
          have hlen : ((rows.take h).drop l).length = h - l := by simp; omega
          refine ⟨.slice (if cap = l then a else a.map (·.add (l * sz))) (h - l) (cap - l), ?_, ?_⟩
          · simp only [Instr.sliceAt, Sem.run_bind, run_under hu, Result.andThen_ok, Instr.slice, hb, run_szT hsz, Sem.run_pure]
          · simp only [VR]
            refine ⟨_, _, by rw [hlen], ⟨by rw [hlen]; omega, fun ha => ?_⟩, ?_⟩
            · have : a = none := by
                cases a with
                | none => rfl
                | some a => split at ha <;> cases ha
              have := hcap.2 this
              omega
            by_cases he : (rows.take h).drop l = []
            · exact .inl he
            · right
              have hlt : l < h := by
                rcases Nat.lt_or_ge l h with g | g
                · exact g
                · exact absurd (List.eq_nil_of_length_eq_zero (by omega)) he
              rcases hx with hx | ⟨b, off, cs, rsz, rfl, e1, e2⟩
              · subst hx; simp at hhl; omega
              · have hsz' : rsz = sz := by
                  cases rows with
                  | nil => simp at hhl; omega
                  | cons r rs =>
                    have := e2.len r (by simp)
                    simp only [rowOk, decide_eq_true_eq] at hok
                    omega
                subst hsz'
                refine ⟨b, off + l * rsz, cs, rsz, ?_, e1, ?_⟩
                · rw [if_neg (by omega)]; simp [addr_add']
                · rw [← List.drop_drop]
                  exact (e2.take h).drop l
        · cases hv
      · cases hv
    · cases hv
  · rename_i e rows m hu
    split at hv
    · rename_i m' sz hm hsz
      split at hv
      · rename_i hi
        split at hv
        · rename_i h hh
          split at hv
          · rename_i l hl
            simp only [VR] at hx
            obtain ⟨A, c, rfl, hcap, hx⟩ := hx
            rcases run_bnd hm (x' := mx') h5 h6 with ⟨e1, _⟩ | ⟨km, im, e1, m1, m2, m3⟩
            · cases e1
            rcases run_bnd hh (x' := hi') h3 h4 with ⟨e2, _⟩ | ⟨kh, ih, e2, a1, a2, a3⟩
            · cases e2
            subst e1 e2
            have hb : (Instr.sliceBounds true rows.length c lo' (some (.int kh ih)) (some (.int km im))).run P w = .ok (l, h, m') w := by
              simp only [Instr.sliceBounds, Sem.run_bind, Instr.sliceBound, run_asInt, Sem.run_ite, Result.andThen_ok]
              rw [if_pos ⟨m1, by omega⟩]
              simp only [Result.andThen_ok, Sem.run_pure]
              rw [if_pos ⟨a1, by omega⟩]
              simp only [Result.andThen_ok]
              rcases run_bnd hl h1 h2 with ⟨_, rfl, rfl⟩ | ⟨k', i', rfl, b1, b2, rfl⟩
              · simp only [Sem.run_pure, Result.andThen_ok]; subst m3; subst a3; rfl
              · simp only [Sem.run_bind, run_asInt, Sem.run_ite, Result.andThen_ok]
                rw [if_pos ⟨b1, by omega⟩]
                simp only [Sem.run_pure, Result.andThen_ok]; subst m3; subst a3; rfl
            have hrun : (Instr.sliceAt t (.slice A rows.length c) lo' (some (.int kh ih)) (some (.int km im))).run P w = .ok (.slice (if m' = l then A else A.map (·.add (l * sz))) (h - l) (m' - l)) w := by
              simp only [Instr.sliceAt, Sem.run_bind, run_under hu, Result.andThen_ok, Instr.slice, hb, run_szT hsz, Sem.run_pure]
            split at hv
            · rename_i hm0
              cases hv
              subst hm0
              have hz : h = 0 := by omega
              subst hz
              have hl0 : l = 0 := by
                rcases run_bnd hl h1 h2 with ⟨_, _, e⟩ | ⟨k, i, _, a1, a2, e⟩ <;> omega
              subst hl0
              exact ⟨_, hrun, by simp only [VR]; exact ⟨_, rfl⟩⟩
            · cases hv
              exact ⟨_, hrun, by simp only [VR]⟩
          · cases hv
        · cases hv
      · cases hv
    · cases hv
  · rename_i n e b o hu
    split at hv
    · rename_i h sz c e' hard hh hsz hcell
      split at hv
      · rename_i l hl
        obtain rfl := h6 rfl
        cases hv
        simp only [VR] at hx
        obtain ⟨p, y, hp, rfl⟩ := hx
        have hb := run_bounds (P := P) (isS := false) hh hl (Nat.le_refl _) h1 h2 h3 h4 w
        simp only [Instr.sliceAt, Sem.run_bind, run_under hu, Result.andThen_ok, Instr.sureAddr, Sem.run_pure, hb, run_szT hsz]
        refine ⟨_, rfl, ?_⟩
        obtain ⟨p', y', cs, e0, lo0, hi0, q1, _, _, _, q2, _⟩ := cellsOf_rel hr hcell
        rw [hp] at q1
        cases q1
        obtain rfl := q2 rfl
        simp only [VR]
        refine ⟨p, 0, hp, ?_⟩
        by_cases e1 : n = l
        · rw [if_pos e1, if_pos e1]; rfl
        · rw [if_neg e1, if_neg e1, addr_add']; rfl
      · cases hv
    · cases hv
  · cases hv
end
end Go.Proofs.YtcpmhehklicpfaaGreatDoor.Ev
