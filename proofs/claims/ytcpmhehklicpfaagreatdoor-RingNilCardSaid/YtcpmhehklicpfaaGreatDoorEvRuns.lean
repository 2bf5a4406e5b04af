/- The machine's small parts, at values that stand so to the reckoner's. -/
import Derived.Test.YtcpmhehklicpfaaGreatDoorEvSt
namespace Go.Proofs.YtcpmhehklicpfaaGreatDoor.Ev
open Go
set_option linter.unusedVariables false
section
variable {P : Program} {ι : Io} {h : Hp} {w : World}
theorem mapM_VRs {n : Nat} (ih : ∀ v a, ofVal n v = some a → VR ι a v) : ∀ (vs : List Value) (l : List AV), vs.mapM (ofVal n) = some l → VRs ι l vs
  | [], l, h => by simp at h; subst h; simp [VRs]
  | v :: r, l, h => by
    simp only [List.mapM_cons, Option.bind_eq_bind, Option.pure_def, Option.bind_eq_some_iff] at h
    obtain ⟨a, h1, m, h2, h3⟩ := h
    cases h3
    exact VRs.cons (ih v a h1) (mapM_VRs ih r m h2)
theorem ofVal_VR : ∀ (n : Nat) (v : Value) (a : AV), ofVal n v = some a → VR ι a v
  | 0, v, a, h => by simp [ofVal] at h
  | n + 1, v, a, h => by
    unfold ofVal at h
    split at h
    · cases h; simp [VR]
    · cases h; simp [VR]
    · cases h
      simp only [VR]
      rename_i s
      refine ⟨?_, fun n hn => ?_⟩
      · have : (s.data.toList.map UInt8.toNat).map Nat.toUInt8 = s.data.toList := by
          rw [List.map_map]
          conv => rhs; rw [← List.map_id s.data.toList]
          apply List.map_congr_left
          intro x _
          simp
        rw [this]
      · obtain ⟨x, _, rfl⟩ := List.mem_map.1 hn; exact x.toNat_lt
    · cases h; simp [VR]
    · cases h; simp [VR]
    · cases h; simp [VR]
    · cases h; simp [VR]
    · cases h; simp [VR]
    · cases h; simp [VR]
    · split at h
      · rename_i h1; cases h; simp only [VR]; exact ⟨_, rfl, ofVal_VR n _ _ h1⟩
      · cases h
    · split at h
      · rename_i h1; cases h; simp only [VR]; exact ⟨_, rfl, mapM_VRs (ofVal_VR n) _ _ h1⟩
      · cases h
    · split at h
      · rename_i h1; cases h; simp only [VR]; exact ⟨_, rfl, mapM_VRs (ofVal_VR n) _ _ h1⟩
      · cases h
    · cases h
theorem run_under {t : TypeId} {d : TypeDesc} (h : P.underlying t = some d) (w : World) : (underlying t).run P w = .ok d w := run_underlying h w
theorem run_szT {t : TypeId} {n : Nat} (h : szT P t = some n) (w : World) : (sizeOf t).run P w = .ok n w := by
  unfold szT at h
  split at h
  · rename_i i hi; cases h; simp [sizeOf, typeInfo, hi]
  · cases h
theorem szT_cells {t : TypeId} {n : Nat} (h : szT P t = some n) : P.cellsOf t = n := by
  unfold szT at h
  split at h
  · rename_i i hi; cases h; simp [Program.cellsOf, hi]
  · cases h
theorem run_zrT' {t : TypeId} {z : AV} (h : zrT P t = some z) : ∃ v, (∀ w, (zeroValue t).run P w = .ok v w) ∧ ∀ ι, VR ι z v := by
  unfold zrT at h
  split at h
  · rename_i i hi
    split at h
    · rename_i v hv; exact ⟨v, fun w => by simp [zeroValue, typeInfo, hi, hv], fun ι => ofVal_VR 4 v z h⟩
    · cases h
  · cases h
theorem run_zrT {t : TypeId} {z : AV} (h : zrT P t = some z) (w : World) : ∃ v, (zeroValue t).run P w = .ok v w ∧ ∀ ι, VR ι z v := by
  obtain ⟨v, h1, h2⟩ := run_zrT' h
  exact ⟨v, h1 w, h2⟩
theorem run_agT {t : TypeId} {b : Bool} (h : agT P t = some b) (w : World) : (isAgg t).run P w = .ok b w := by
  unfold agT at h
  split at h <;> first | cases h | skip
  · rename_i hu; simp [isAgg, run_under hu]
  · rename_i hu; simp [isAgg, run_under hu]
  · rename_i d h1 h2 hu
    simp only [isAgg, Sem.run_bind, run_under hu, Result.andThen_ok]
    rfl
theorem cut_some {α : Type} {l m : List α} {off n : Nat} (h : cut l off n = some m) : off + n ≤ l.length ∧ m = (l.drop off).take n := by
  unfold cut at h
  split at h
  · cases h; exact ⟨by assumption, rfl⟩
  · cases h
theorem VRs.cut {l m : List AV} {vs : List Value} {off n : Nat} (h : VRs ι l vs) (hc : Ev.cut l off n = some m) : off + n ≤ l.length ∧ VRs ι m ((vs.drop off).take n) := by
  obtain ⟨h1, rfl⟩ := cut_some hc
  exact ⟨h1, (h.drop off).take n⟩
theorem take_drop_take {α : Type} (l : List α) (k off n : Nat) (h : off + n ≤ k) : ((l.take k).drop off).take n = (l.drop off).take n := by
  rw [List.drop_take, List.take_take, Nat.min_eq_left (by omega)]
theorem run_partA {t : TypeId} {c : List AV} {off : Nat} {v : AV} (h : partA P t c off = some v) {cs : Array Value} (hc : VRs ι c (cs.toList.take c.length)) (w : World) :
    ∃ u, (part t cs off).run P w = .ok u w ∧ VR ι v u := by
  unfold partA at h
  split at h
  · rename_i ha
    split at h
    · rename_i n hn
      split at h
      · rename_i l hl
        cases h
        obtain ⟨h1, h2⟩ := hc.cut hl
        rw [take_drop_take _ _ _ _ h1] at h2
        refine ⟨.agg (cs.extract off (off + n)), by simp [part, run_agT ha, run_szT hn], ?_⟩
        simp only [VR]
        refine ⟨_, rfl, ?_⟩
        rw [Array.toList_extract, List.extract_eq_take_drop, show off + n - off = n by omega]
        exact h2
      · cases h
    · cases h
  · rename_i ha
    obtain ⟨u, h1, h2⟩ := hc.at h
    have hlt : off < c.length := (List.getElem?_eq_some_iff.1 h).1
    rw [List.getElem?_take_of_lt hlt] at h1
    refine ⟨u, ?_, h2⟩
    have : cs[off]? = some u := by simpa using h1
    simp [part, run_agT ha, this]
  · cases h
theorem cellsOf_rel (hr : Rel P ι h w) {k : Nat} {c : List AV} {e : TypeId} {opn hard : Bool} (hk : h k = some (.cells c e opn hard)) :
    ∃ b x cs e' lo hi, ι k = some (b, x) ∧ w.heap[b]? = some (.cells cs e' (lo, hi)) ∧ VRs ι c (cs.toList.take c.length) ∧ (c.length ≤ cs.size ∧ (hard = false → e' = e ∧ cs.size = c.length + x * P.cellsOf e)) ∧ (opn = false → x = 0) ∧ (hard = false → ∀ i, i < cs.size → ¬ (lo ≤ i ∧ i < hi)) := by
  obtain ⟨b, x, p, h1, h2, cs, e', lo, hi, rfl, h3, h4⟩ := hr.live _ _ hk
  have h5 := h3.len
  exact ⟨b, x, cs, e', lo, hi, h1, h2, h3, ⟨by simp at h5; omega, h4.1⟩, h4.2⟩
theorem addr_add (b o i : Nat) : (⟨b, o, none⟩ : Addr).add i = ⟨b, o + i, none⟩ := by
  unfold Addr.add; split
  · simp [*]
  · rfl
theorem cell_at {b i : Nat} {cs : Array Value} {e : TypeId} {f : Nat × Nat} (hb : w.heap[b]? = some (.cells cs e f)) : w.cell? ⟨b, i, none⟩ = cs[i]? := by simp [World.cell?, hb]
theorem run_cells {b off n : Nat} {cs : Array Value} {e : TypeId} {f : Nat × Nat} (hb : w.heap[b]? = some (.cells cs e f)) (hn : off + n ≤ cs.size) :
    (loadCells ⟨b, off, none⟩ n).run P w = .ok (cs.extract off (off + n)) w := by
  have := run_loadCells_list (P := P) w ⟨b, off, none⟩ (cs.extract off (off + n)).toList (fun j v hj => by
    rw [addr_add, cell_at hb]
    have hj' : j < n := by have := (List.getElem?_eq_some_iff.1 hj).1; simp at this; omega
    rw [Array.toList_extract, List.extract_eq_take_drop, List.getElem?_take_of_lt (by omega), List.getElem?_drop] at hj
    simpa using hj)
  have hl : (cs.extract off (off + n)).toList.length = n := by simp; omega
  rw [hl] at this
  rwa [Array.toArray_toList] at this
theorem run_loadA {t : TypeId} {k o : Nat} {v : AV} (hl : loadA P h t (k, o) = some v) (hr : Rel P ι h w) :
    ∃ b x, ι k = some (b, x) ∧ ∃ u, (loadVar t ⟨b, o, none⟩).run P w = .ok u w ∧ VR ι v u := by
  unfold loadA at hl
  split at hl
  · rename_i c e opn hard hk
    obtain ⟨b, x, cs, e', lo, hi, h1, h2, h3, ⟨h4, _⟩, _⟩ := cellsOf_rel hr hk
    refine ⟨b, x, h1, ?_⟩
    obtain ⟨u, h5, h6⟩ := run_partA hl h3 w
    refine ⟨u, ?_, h6⟩
    rw [← h5]
    unfold partA at hl
    split at hl
    · rename_i ha
      split at hl
      · rename_i n hn
        split at hl
        · rename_i l hcut
          have := (cut_some hcut).1
          simp [loadVar, part, run_agT ha, run_szT hn, run_cells h2 (show o + n ≤ cs.size by omega)]
        · cases hl
      · cases hl
    · rename_i ha
      have hlt : o < c.length := (List.getElem?_eq_some_iff.1 hl).1
      have hc : w.cell? ⟨b, o, none⟩ = some cs[o] := by rw [cell_at h2, Array.getElem?_eq_getElem (by omega)]
      simp [loadVar, part, run_agT ha, hc, show o < cs.size by omega]
    · cases hl
  · cases hl
/-- A load of what stays. -/
theorem run_loadL {t : TypeId} {c : List AV} {v : AV} {b off : Nat} {cs : Array Value} {e : TypeId} {f : Nat × Nat} (hl : partA P t c 0 = some v) (hw : w.heap[b]? = some (.cells cs e f)) (hc : VRs ι c ((cs.toList.drop off).take c.length)) :
    ∃ u, (loadVar t ⟨b, off, none⟩).run P w = .ok u w ∧ VR ι v u := by
  have hlen := hc.len
  simp only [List.length_take, List.length_drop, Array.length_toList] at hlen
  unfold partA at hl
  split at hl
  · rename_i ha
    split at hl
    · rename_i n hn
      split at hl
      · rename_i l hcut
        cases hl
        obtain ⟨h1, h2⟩ := hc.cut hcut
        rw [take_drop_take _ _ _ _ h1, List.drop_zero] at h2
        have hload : (loadCells ⟨b, off, none⟩ n).run P w = .ok (cs.extract off (off + n)) w := by
          by_cases h0 : n = 0
          · subst h0
            simp [loadCells, loadCellsFrom]
            omega
          · exact run_cells hw (by omega)
        refine ⟨.agg (cs.extract off (off + n)), by simp [loadVar, run_agT ha, run_szT hn, hload], ?_⟩
        simp only [VR]
        refine ⟨_, rfl, ?_⟩
        rw [Array.toList_extract, List.extract_eq_take_drop, show off + n - off = n by omega]
        exact h2
      · cases hl
    · cases hl
  · rename_i ha
    obtain ⟨u, h1, h2⟩ := hc.at hl
    have hlt : 0 < c.length := (List.getElem?_eq_some_iff.1 hl).1
    rw [List.getElem?_take_of_lt hlt, List.getElem?_drop] at h1
    have hcell : w.cell? ⟨b, off, none⟩ = some u := by rw [cell_at hw]; simpa using h1
    refine ⟨u, ?_, h2⟩
    simp [loadVar, run_agT ha, hcell]
  · cases hl
end
end Go.Proofs.YtcpmhehklicpfaaGreatDoor.Ev
