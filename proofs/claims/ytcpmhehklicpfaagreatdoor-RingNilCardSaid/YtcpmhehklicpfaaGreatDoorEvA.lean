/- Operations that make a block. -/
import Derived.Test.YtcpmhehklicpfaaGreatDoorEvQ4
namespace Go.Proofs.YtcpmhehklicpfaaGreatDoor.Ev
open Go
set_option linter.unusedVariables false
theorem repl_eq {α : Type} (n : Nat) (l : List α) : repl n l = (List.replicate n l).flatten := by
  induction n with
  | zero => rfl
  | succ n ih => rw [List.replicate_succ, List.flatten_cons, ← ih]; rfl
theorem repl_snoc {α : Type} (n : Nat) (l : List α) : (List.replicate (n + 1) l).flatten = (List.replicate n l).flatten ++ l := by
  rw [List.replicate_succ', List.flatten_append]; simp
theorem zrow (zs : Array Value) (h : 0 < zs.size) : ∀ n, ((Array.range (n * zs.size)).map (fun i => zs[i % zs.size]!)).toList = (List.replicate n zs.toList).flatten
  | 0 => by simp
  | n + 1 => by
    have ih := zrow zs h n
    simp only [Array.toList_map, Array.toList_range] at ih ⊢
    rw [repl_snoc, ← ih, Nat.succ_mul, List.range_add, List.map_append, List.map_map]
    congr 1
    apply List.ext_getElem?
    intro i
    by_cases hi : i < zs.size
    · simp only [List.getElem?_map, List.getElem?_range hi, Option.map_some, Function.comp]
      rw [Nat.add_comm (n * zs.size) i, Nat.add_mul_mod_self_right, Nat.mod_eq_of_lt hi]
      simp [hi]
    · rw [List.getElem?_eq_none (by simp; omega), List.getElem?_eq_none (by simp; omega)]
section
variable {P : Program} {ι : Io} {h : Hp} {w : World} {ρ : Operand → Option AV} {σ : Operand → Value}
theorem bytes_row : ∀ (s : List Nat), (∀ n ∈ s, n < 256) → VRs ι (s.map byteA) ((bsOf s).data.map fun b => Value.int .u8 b.toNat).toList := by
  intro s hs
  simp only [Array.toList_map]
  induction s with
  | nil => exact VRs.nil
  | cons x m ih =>
    refine VRs.cons ?_ (ih fun y hy => hs y (by simp [hy]))
    simp only [byteA, VR]
    congr 1
    have := hs x (by simp)
    simp [Nat.toUInt8, UInt8.toNat_ofNat']
    omega
/-- What a new block is, and what its maker yields. -/
structure Made (P : Program) (ι : Io) (w : World) (o : AObj) (mk : Nat → AV) (w' : World) (u : Value) : Prop where
  ex : ∃ p x, w'.heap = w.heap.push p ∧ ObjR P ι x o p ∧ ∀ (ι' : Io) (k : Nat), ι' k = some (w.heap.size, x) → VR ι' (mk k) u
  os : w'.os = w.os
  tape : w'.tape = w.tape
  output : w'.output = w.output
theorem cells_obj {c : List AV} {cs : Array Value} {e : TypeId} (hc : VRs ι c cs.toList) (hard : Bool) : ObjR P ι 0 (.cells c e false hard) (.cells cs e (0, 0)) :=
  ⟨cs, e, 0, 0, rfl, by rw [hc.len, List.take_length]; exact hc, fun _ => ⟨rfl, by have := hc.len; simp at this; omega⟩, fun _ => rfl, fun _ i _ h => by omega⟩
theorem made_row {c : List AV} {cs : Array Value} {e : TypeId} (hc : VRs ι c cs.toList) {mk : Nat → AV} {u : Value} (hm : ∀ (ι' : Io) (k : Nat), ι' k = some (w.heap.size, 0) → VR ι' (mk k) u) :
    Made P ι w (.cells c e false false) mk { w with heap := w.heap.push (.cells cs e) } u :=
  ⟨⟨_, 0, rfl, cells_obj hc false, hm⟩, rfl, rfl, rfl⟩
theorem run_aA {o : Oper} {ob : AObj} {mk : Nat → AV} (hv : aA P ρ o.op = some (ob, mk)) (hx : ∀ x ∈ o.op.operands, ∀ u, ρ x = some u → VR ι u (σ x)) (w : World) :
    ∃ u w', (execOp σ o).run P w = .ok (.value u) w' ∧ Made P ι w ob mk w' u := by
  have wrap : ∀ (s : Sem Value), (∃ u w', s.run P w = .ok u w' ∧ Made P ι w ob mk w' u) → ∃ u w', ((do pure (.value (← s)) : Sem Next)).run P w = .ok (.value u) w' ∧ Made P ι w ob mk w' u := by
    rintro s ⟨u, w', h1, h2⟩
    exact ⟨u, w', by simp only [Sem.run_bind, h1, Result.andThen_ok, Sem.run_pure], h2⟩
  have ptr : ∀ (ι' : Io) (k : Nat), ι' k = some (w.heap.size, 0) → VR ι' (.ptr (some (k, 0))) (.pointer (some ⟨w.heap.size, 0, none⟩)) := fun ι' k hk => by simp only [VR]; exact ⟨_, _, hk, rfl⟩
  obtain ⟨dst, op, ty, pos, after, guard⟩ := o
  simp only at hv hx
  cases op <;> simp only [aA] at hv <;> first | (cases hv; done) | skip
  case alloc e =>
    split at hv
    · rename_i z hz
      cases hv
      obtain ⟨zv, hz1, hz2⟩ := run_zrT hz w
      exact wrap _ ⟨_, _, by simp only [Instr.alloc, Sem.run_bind, hz1, Result.andThen_ok, newVar, newRow, run_newObj, Sem.run_pure], made_row ((hz2 ι).cells (zr_any hz)) ptr⟩
    · cases hv
  case box e x =>
    split at hv
    · cases hv
    · rename_i v hne hvx
      cases hv
      have := hx x (by simp [Op.operands]) _ hvx
      exact wrap _ ⟨_, _, by simp only [Instr.box, Sem.run_bind, newVar, newRow, run_newObj, Result.andThen_ok, Sem.run_pure], made_row (this.cells hne) ptr⟩
    · cases hv
  case buildSlice t len ps =>
    split at hv
    · rename_i e hu
      split at hv
      · rename_i sz z l hsz hz hl
        split at hv
        · rename_i hc
          split at hv
          · rename_i c hf
            cases hv
            obtain ⟨zv, hz1, hz2⟩ := run_zrT hz w
            have hzc := (hz2 ι).cells (zr_any hz)
            have hzs : zv.cells.size = sz := by have := hzc.len; simp at this; omega
            have hrow : VRs ι (repl len z.cells) ((Array.range (len * sz)).map (fun i => zv.cells[i % zv.cells.size]!)).toList := by
              rw [← hzs, zrow _ (by omega), repl_eq, ← repl_eq]
              exact hzc.repl len
            have hps : ∀ x ∈ ps.toList, ∀ v, ρ x.2 = some v → VR ι v (σ x.2) := fun x hx' => hx x.2 (by simp only [Op.operands]; simp only [List.mem_toArray, List.mem_map]; exact ⟨x, hx', rfl⟩)
            obtain ⟨h1, h2⟩ := evp_VRs ps.toList l hl hps
            obtain ⟨cs', h4, h5⟩ := run_fill l (ps.map fun (i, x) => (i, σ x)).toList _ _ _ hf hrow (by rw [h1]; simp) (by
              have : ((ps.map fun (i, x) => (i, σ x)).toList.map (·.2)) = ps.toList.map fun x => σ x.2 := by simp
              rw [this]; exact h2) (evp_any _ _ hl)
            refine wrap _ ⟨_, _, ?_, made_row h5 (u := .slice (some ⟨w.heap.size, 0, none⟩) len len) (fun ι' k hk => by simp only [VR]; exact ⟨_, _, hk, rfl⟩)⟩
            simp only [Instr.buildSlice, Sem.run_bind, run_under hu, Result.andThen_ok, run_szT hsz]
            have hn : ¬ len * sz > 2 ^ 24 := by have := hc.1; omega
            rw [if_neg hn]
            by_cases h0 : len * sz = 0
            · rw [if_pos h0]
              simp only [Sem.run_bind, Sem.run_pure, Result.andThen_ok]
              have e0 : ((Array.range (len * sz)).map (fun i => (#[] : Array Value)[i % (#[] : Array Value).size]!)) = ((Array.range (len * sz)).map (fun i => zv.cells[i % zv.cells.size]!)) := by rw [h0]; simp
              rw [e0, h4]
              simp only [newRow, Sem.run_bind, run_newObj, Result.andThen_ok, Sem.run_pure]
            · rw [if_neg h0]
              simp only [Sem.run_bind, hz1, Sem.run_pure, Result.andThen_ok, h4, newRow, run_newObj]
          · cases hv
        · cases hv
      · cases hv
    · cases hv
  case makeMap t r =>
    split at hv
    · rename_i k e hu hr
      cases hv
      have : r = none := by
        cases r with
        | none => rfl
        | some y => simp only [evo] at hr; split at hr <;> cases hr
      subst this
      exact wrap _ ⟨.map (some w.heap.size), { w with heap := w.heap.push (.map #[] 0) }, by simp only [Instr.makeMap, Option.map_none, Sem.run_bind, run_newObj, Result.andThen_ok, Sem.run_pure], ⟨⟨_, 0, rfl, ⟨#[], rfl, rfl⟩, fun ι' k hk => by simp only [VR]; exact ⟨_, _, hk, rfl⟩⟩, rfl, rfl, rfl⟩⟩
    · rename_i k e kk n hu hr
      cases hv
      cases r with
      | none => simp only [evo] at hr; cases hr
      | some y =>
        simp only [evo] at hr
        split at hr
        · rename_i u hu'
          cases hr
          have := hx y (by simp [Op.operands]) _ hu'
          simp only [VR] at this
          exact wrap _ ⟨.map (some w.heap.size), { w with heap := w.heap.push (.map #[] 0) }, by simp only [Instr.makeMap, Option.map_some, this, Sem.run_bind, run_under hu, asInt, run_asInt, run_newObj, Result.andThen_ok, Sem.run_pure], ⟨⟨_, 0, rfl, ⟨#[], rfl, rfl⟩, fun ι' k hk => by simp only [VR]; exact ⟨_, _, hk, rfl⟩⟩, rfl, rfl, rfl⟩⟩
        · cases hr
    · cases hv
  case makeChan t sz =>
    split at hv
    · rename_i d e k n hu hn
      split at hv
      · rename_i i hi
        split at hv
        · rename_i hb
          cases hv
          have hnv := hx sz (by simp [Op.operands]) _ hn
          simp only [VR] at hnv
          have hti : (typeInfo e).run P w = .ok i w := by simp [typeInfo, hi]
          have hle : ¬ (n < 0 ∨ n > IntKind.i64.max ∨ (i.bytes : Int) * n > 2 ^ 48 - 112) := by
            have h1 : (i.bytes : Int) * n ≤ 100000 * 1000000 := Int.mul_le_mul (by omega) hb.2.1 hb.1 (by omega)
            have h2 : IntKind.i64.max = 9223372036854775807 := rfl
            omega
          exact wrap _ ⟨.chan (some w.heap.size), { w with heap := w.heap.push (.chan n.toNat #[] false 0 0 false) }, by simp only [Instr.makeChan, hnv, asInt, run_asInt, Sem.run_bind, Sem.run_pure, run_under hu, Result.andThen_ok, hti]; rw [if_neg hle]; simp only [Sem.run_bind, run_newObj, Sem.run_pure, Result.andThen_ok], ⟨⟨_, 0, rfl, ⟨#[], 0, 0, rfl, VRs.nil⟩, fun ι' k hk => by simp only [VR]; exact ⟨_, _, hk, rfl⟩⟩, rfl, rfl, rfl⟩⟩
        · cases hv
      · cases hv
    · cases hv
  case makeSlice t l c =>
    split at hv
    · rename_i e hu
      split at hv
      · rename_i sz z kl l' kc c' inf hsz hz hl hc hi
        split at hv
        · rename_i hcond
          cases hv
          obtain ⟨c1, c2, c3, c4, c5, c7⟩ := hcond
          have h1 := hx l (by simp [Op.operands]) _ hl
          have h2 := hx c (by simp [Op.operands]) _ hc
          simp only [VR] at h1 h2
          obtain ⟨zv, hz1, hz2⟩ := run_zrT hz w
          have hzc := (hz2 ι).cells (zr_any hz)
          have hzs : zv.cells.size = sz := by have := hzc.len; simp at this; omega
          have hrow : VRs ι (repl c'.toNat z.cells) ((Array.range (c'.toNat * sz)).map (fun i => zv.cells[i % zv.cells.size]!)).toList := by
            rw [← hzs, zrow _ (by omega), repl_eq, ← repl_eq]
            exact hzc.repl _
          have wr : ∀ n : Int, 0 ≤ n → n ≤ 1000000 → IntKind.i64.wrap n = n := fun n a b => by
            simp only [IntKind.wrap, IntKind.bits, IntKind.signed]
            simp
            omega
          have hti : ∀ w, (typeInfo e).run P w = .ok inf w := fun w => by simp [typeInfo, hi]
          refine wrap _ ⟨_, _, ?_, made_row hrow (u := .slice (some ⟨w.heap.size, 0, none⟩) l'.toNat c'.toNat) (fun ι' k hk => by simp only [VR]; exact ⟨_, _, hk, rfl⟩)⟩
          have hmul : (inf.bytes : Int) * c' ≤ 100000 * 1000000 := Int.mul_le_mul (by omega) c3 (by omega) (by omega)
          have hcond : ¬ (((decide (c' < 0) || decide ((inf.bytes : Int) * c' > 2 ^ 48)) || decide (l' < 0) || decide (l' > c')) = true) := by
            simp only [Bool.or_eq_true, decide_eq_true_eq]
            omega
          simp only [Instr.makeSlice, Sem.run_bind, run_under hu, Result.andThen_ok, asInt, h1, h2, run_asInt, Sem.run_pure, hti, wr l' c1 (by omega), wr c' (by omega) c3]
          rw [if_neg hcond]
          simp only [Sem.run_bind, run_askRoom, run_szT hsz, Result.andThen_ok]
          by_cases h0 : c'.toNat * sz = 0
          · rw [if_pos h0]
            have e0 : ((Array.range (c'.toNat * sz)).map (fun i => (#[] : Array Value)[i % (#[] : Array Value).size]!)) = ((Array.range (c'.toNat * sz)).map (fun i => zv.cells[i % zv.cells.size]!)) := by rw [h0]; simp
            simp only [Sem.run_pure, Result.andThen_ok, e0, newRow, Sem.run_bind, run_newObj]
          · rw [if_neg h0]
            simp only [Sem.run_bind, hz1, Sem.run_pure, Result.andThen_ok, newRow, run_newObj]
        · cases hv
      · cases hv
    · cases hv
  case range t x =>
    split at hv
    · rename_i b hu hb
      cases hv
      have := hx x (by simp [Op.operands]) _ hb
      simp only [VR] at this
      obtain ⟨hs, hall⟩ := this
      exact wrap _ ⟨.pointer (some ⟨w.heap.size, 0, none⟩), { w with heap := w.heap.push (.stringIter (bsOf b) 0) }, by simp only [Instr.range, hs, Sem.run_bind, run_under hu, Result.andThen_ok, Sem.run_pure, run_newObj], ⟨⟨_, 0, rfl, ⟨rfl, hall⟩, ptr⟩, rfl, rfl, rfl⟩⟩
    · cases hv
  case convert a b x =>
    split at hv
    · rename_i e s hua hub hs
      split at hv
      · rename_i hue hsz
        cases hv
        have := hx x (by simp [Op.operands]) _ hs
        simp only [VR] at this
        obtain ⟨hsx, hall⟩ := this
        have hC : P.cellsOf e = 1 := szT_cells hsz
        have hsize : (bsOf s).size = s.length := by simp [ByteArray.size]
        obtain ⟨cap, hcap, hchoose⟩ : ∃ cap, s.length ≤ cap ∧ (choose (.appendCap (bsOf s).size 0 e)).run P w = .ok cap { w with drawn := w.drawn + 1 } := by
          refine ⟨_, ?_, by rw [run_choose]; rfl⟩
          simp only [Question.cut, hsize]
          omega
        have hbytes := bytes_row (ι := ι) s hall
        obtain ⟨cs, hcs⟩ : ∃ cs, ((bsOf s).data.map fun b => Value.int .u8 b.toNat) ++ Array.replicate (cap - (bsOf s).size) (Value.int .u8 0) = cs := ⟨_, rfl⟩
        have hcsz : cs.size = cap := by rw [← hcs]; simp [hsize]; omega
        have hct : VRs ι (s.map byteA) (cs.toList.take (s.map byteA).length) := by
          rw [← hcs, Array.toList_append, List.take_append_of_le_length (by simp), List.take_of_length_le (by simp)]
          exact hbytes
        refine wrap _ ⟨.slice (some ⟨w.heap.size, 0, none⟩) s.length cap, { w with drawn := w.drawn + 1, heap := w.heap.push (.cells cs e (cs.size, cs.size + 1)) }, ?_, ⟨⟨_, cap - s.length, rfl, ⟨cs, e, cs.size, cs.size + 1, rfl, hct, fun _ => ⟨rfl, ?_⟩, ?_, fun _ i h1 h2 => by omega⟩, fun ι' k hk => ?_⟩, rfl, rfl, rfl⟩⟩
        · simp only [convert, Sem.run_bind, run_under hua, run_under hub, Result.andThen_ok, hsx, run_under hue, Conv.stringToBytes, hchoose, hcs, newRow, run_newObj, Sem.run_pure, markStringish, run_shape]
          simp [World.shape?, World.freeze, hsize]
          refine Array.ext_getElem? fun i => ?_
          rw [Array.getElem?_modify, Array.getElem?_push, Array.getElem?_push]
          by_cases hi : i = w.heap.size
          · subst hi; simp
          · rw [if_neg (fun e => hi e.symm), if_neg hi]; simp [hi]
        · rw [hcsz, hC]; simp; omega
        · intro h; cases h
        · simp only [VR]
          refine ⟨_, _, hk, ?_⟩
          congr 1
          omega
      · cases hv
    · cases hv
end
end Go.Proofs.YtcpmhehklicpfaaGreatDoor.Ev
