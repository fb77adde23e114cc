/- From arguments to words: slices of rows of pairs. -/
import Derived.Test.YtinmjgaaehdicaaRowP
import Derived.Test.YtinmjgaaehdicaaMgL
import Derived.Laws.IdiomArrays
namespace Go.Proofs.Ytinmjgaaehdicaa
open Go.RowKit Go.ChangeShapes Go.WideShapes Go.Deep

section
variable {w : World} {base : Nat} {spare : Nat → Bool} {held : Bool} {H : Type} {enc : TypeId × Value → H}
theorem prows_of_trod {a : Option Addr} {len cap : Nat} {d : DataW H} {ps : List MemPlace} (h : DataW.Trod enc Try.prog w base spare held 78 (.slice a len cap) d ps) : ∃ ls : List (List (Nat × Nat)), ls.length = len ∧ RowsAt IsP w (.slice a len cap) ls := by
  obtain ⟨fuel, hf⟩ := h
  rcases open_slice Try.underlying78 hf with ⟨h0, -⟩ | ⟨a', len', cap', m, n, D, Pl, hcs, -, hl, hm, hmm, -, hi⟩
  · simp [Value.cells] at h0
    obtain ⟨rfl, rfl, rfl⟩ := h0
    exact ⟨[], rfl, none, 0, rfl, Nat.le_refl _, by simp [maxLen], fun i l h => by simp at h⟩
  · simp [Value.cells] at hcs
    obtain ⟨rfl, rfl, rfl⟩ := hcs
    have hC : Try.prog.cellsOf 54 = 1 := by kernel_rfl
    obtain ⟨pl, hpl, hr⟩ := list_of (α := List (Nat × Nat)) len (fun i l => ∃ b c, w.cell? (a'.add i) = some (.slice b l.length c) ∧ IsP w (.slice b l.length c) l) (fun i hil => by
      have him : i < m := by rw [hmm]; split <;> omega
      obtain ⟨cs', hc, ht'⟩ := hi i him
      obtain ⟨b, l, c, rfl, hI⟩ := pairs_of_cells ht'
      rw [hC] at hc
      obtain ⟨-, -, hat⟩ := World.cells?_some hc
      have h1 := hat 0 (by omega)
      rw [Nat.mul_one, show (a'.add i).add 0 = a'.add i from rfl] at h1
      exact ⟨l, b, c, h1, hI⟩)
    subst hpl
    refine ⟨pl, rfl, some a', cap, rfl, hl, hm, fun i l hil => ?_⟩
    obtain ⟨b, c, hc, hI⟩ := hr i l hil
    have hsp : a'.spot = none := by
      have h0 : 0 < pl.length := by have := (List.getElem?_eq_some_iff.1 hil).1; omega
      obtain ⟨b0, c0, h1, -⟩ := hr 0 pl[0] (List.getElem?_eq_getElem h0)
      exact spot_none h1
    obtain ⟨g, o, sp⟩ := a'
    cases hsp
    exact ⟨g, o, _, rfl, by rwa [addr_add] at hc, hI⟩
set_option maxRecDepth 100000 in
theorem parr_of_trod {r : Reach} {b2 : Nat} {w2 : World} {v : Value} {d : DataW H} {ps : List MemPlace} (hv : Value.okWide Try.prog w2 r b2 83 v) (h : DataW.Trod enc Try.prog w base spare held 83 v d ps) :
    ∃ (a0 a1 a2 : Option Addr) (c0 c1 c2 : Nat) (l0 l1 l2 : List (Nat × Nat)), v = .agg #[.slice a0 l0.length c0, .slice a1 l1.length c1, .slice a2 l2.length c2] ∧ IsP w (.slice a0 l0.length c0) l0 ∧ IsP w (.slice a1 l1.length c1) l1 ∧ IsP w (.slice a2 l2.length c2) l2 := by
  simp only [Value.okWide, Try.underlying83] at hv
  obtain ⟨cs, rfl, hs, -⟩ := hv
  have hC : Try.prog.cellsOf 83 = 3 := by kernel_rfl
  rw [hC] at hs
  obtain ⟨x, y, z, rfl⟩ : ∃ x y z, cs = #[x, y, z] := by
    obtain ⟨l⟩ := cs
    match l, hs with
    | [x, y, z], _ => exact ⟨x, y, z, rfl⟩
  obtain ⟨fuel, hf⟩ := h
  obtain ⟨y0, y1, y2, n, -, h0, h1, h2⟩ := ChangeShapes.trod_array3 Try.underlying83 (by kernel_rfl) (by simpa [Value.cells] using hf)
  obtain ⟨a0, l0, c0, e0, i0⟩ := pairs_of_cells h0
  obtain ⟨a1, l1, c1, e1, i1⟩ := pairs_of_cells h1
  obtain ⟨a2, l2, c2, e2, i2⟩ := pairs_of_cells h2
  cases e0; cases e1; cases e2
  exact ⟨a0, a1, a2, c0, c1, c2, l0, l1, l2, rfl, i0, i1, i2⟩
end
end Go.Proofs.Ytinmjgaaehdicaa
