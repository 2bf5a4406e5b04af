/- A row of bids that came in, opened. -/
import Derived.Test.YtipeleefbaalpaaTallyLawForgets
import Derived.Deep.Slices
import Derived.Lib.SmallJoins
import Derived.OpenShut
namespace Go.Proofs.Ytipeleefbaalpaa.Ty
open Go.ChangeShapes Go.WideShapes Go.ChangeAt Go.RowKit Go.Joins Go.Deep
theorem open_cells3 {H : Type} {P : Program} {enc : TypeId × Value → H} {w : World} {base : Nat} {spare : Nat → Bool} {held : Bool} {n : Nat} {cs : List Value} {x : DataW H × List MemPlace} {t : TypeId} {f0 f1 f2 : Field} (hs : P.underlying t = some (.struct #[f0, f1, f2])) (hone : oneCellFields P #[f0, f1, f2] = true) (hC : P.cellsOf t = 3)
    (h : DataW.trod enc P w base spare held n t cs = some x) :
    ∃ (v0 v1 v2 : Value) (y0 y1 y2 : DataW H × List MemPlace) (m : Nat), cs = [v0, v1, v2] ∧ DataW.trod enc P w base spare held m f0.type [v0] = some y0 ∧ DataW.trod enc P w base spare held m f1.type [v1] = some y1 ∧ DataW.trod enc P w base spare held m f2.type [v2] = some y2 := by
  obtain ⟨y0, y1, y2, m, _, hl, h0, h1, h2⟩ := trod_struct3 hs h
  obtain ⟨o0, k0⟩ := hone_of hone 0 f0 rfl
  obtain ⟨o1, k1⟩ := hone_of hone 1 f1 rfl
  obtain ⟨o2, k2⟩ := hone_of hone 2 f2 rfl
  match cs, hl.trans hC with
  | [c0, c1, c2], _ => exact ⟨c0, c1, c2, y0, y1, y2, m, rfl, by simpa [o0, k0] using h0, by simpa [o1, k1] using h1, by simpa [o2, k2] using h2⟩
theorem open_bid {H : Type} {enc : TypeId × Value → H} {w : World} {base : Nat} {spare : Nat → Bool} {held : Bool} {n : Nat} {cs : List Value} {x : DataW H × List MemPlace} (h : DataW.trod enc Try.prog w base spare held n 51 cs = some x) :
    ∃ b : Bid, cs = [.int .i64 b.1, .int .i64 b.2.1, .int .i64 b.2.2] ∧ (Lit.int .i64 b.1).wf = true := by
  obtain ⟨v0, v1, v2, y0, y1, y2, m, rfl, g0, g1, g2⟩ := open_cells3 Try.underlying51 (by kernel_rfl) (by kernel_rfl) h
  obtain ⟨b0, e0, _, w0⟩ := DataW.trod_int Try.underlying3 g0
  obtain ⟨b1, e1, _, _⟩ := DataW.trod_int Try.underlying3 g1
  obtain ⟨b2, e2, _, _⟩ := DataW.trod_int Try.underlying3 g2
  simp at e0 e1 e2
  subst e0 e1 e2
  exact ⟨(b0, b1, b2), rfl, w0⟩
theorem plain_addr {w : World} {a : Addr} {v : Value} (h : w.cell? (a.add (0 * 3)) = some v) : ∃ g o, a = ⟨g, o, none⟩ := by
  obtain ⟨g, o, spot⟩ := a
  have hs : spot = none := by simpa [Addr.add] using World.cell?_spot h
  subst hs
  exact ⟨g, o, rfl⟩
set_option maxRecDepth 10000 in
theorem open_bids {H : Type} {enc : TypeId × Value → H} {w : World} {base : Nat} {spare : Nat → Bool} {held : Bool} {n : Nat} {A : Option Addr} {len cap : Nat} {x : DataW H × List MemPlace}
    (h : DataW.trod enc Try.prog w base spare held n 46 [.slice A len cap] = some x) : ∃ bl : List Bid, bl.length = len ∧ In w A bl := by
  rcases open_slice Try.underlying46 h with ⟨h0, _⟩ | ⟨a, len', cap', m, n', D, Pl, h0, hb, hl, hm, hmm, rfl, hx⟩
  · obtain ⟨rfl, rfl, rfl⟩ : A = none ∧ len = 0 ∧ cap = 0 := by simpa using h0
    exact ⟨[], rfl, fun i hi => by simp at hi⟩
  · obtain ⟨rfl, rfl, rfl⟩ : A = some a ∧ len = len' ∧ cap = cap' := by simpa using h0
    have hlm : len ≤ m := by rw [hmm]; split <;> omega
    have hc : Try.prog.cellsOf 51 = 3 := by kernel_rfl
    rw [hc] at hx
    have each : ∀ i, i < len → ∃ b : Bid, w.cell? (a.add (i * 3)) = some (.int .i64 b.1) ∧ w.cell? (a.add (i * 3 + 1)) = some (.int .i64 b.2.1) ∧ w.cell? (a.add (i * 3 + 2)) = some (.int .i64 b.2.2) ∧ (Lit.int .i64 b.1).wf = true := fun i hi => by
      obtain ⟨cs', h1, h2⟩ := hx i (by omega)
      obtain ⟨b, rfl, hw⟩ := open_bid h2
      obtain ⟨_, _, hcell⟩ := World.cells?_some h1
      have e0 := hcell 0 (by omega)
      have e1 := hcell 1 (by omega)
      have e2 := hcell 2 (by omega)
      rw [add_add] at e0 e1 e2
      exact ⟨b, e0, e1, e2, hw⟩
    obtain ⟨q, hq⟩ := choose_lt each
    refine ⟨(List.range len).map q, by simp, fun i hi => ?_⟩
    have hi' : i < len := by simpa using hi
    obtain ⟨g, o, rfl⟩ := plain_addr (hq 0 (by omega)).1
    obtain ⟨e0, e1, e2, hw⟩ := hq i hi'
    refine ⟨g, o, rfl, ?_⟩
    simp only [Go.WideShapes.add_plain] at e0 e1 e2
    simp only [List.getElem_map, List.getElem_range]
    exact ⟨e0, e1, e2, hw⟩
end Go.Proofs.Ytipeleefbaalpaa.Ty
