/- From arguments to words: slices of rows of pairs. -/
import Derived.Test.YtinmjgaaehdicaaRowP
import Derived.Test.YtinmjgaaehdicaaMgL
namespace Go.Proofs.Ytinmjgaaehdicaa
open Go.RowKit Go.ChangeShapes Go.WideShapes Go.Deep

section
variable {w : World} {base : Nat} {spare : Nat → Bool} {held : Bool} {H : Type} {enc : TypeId × Value → H}
theorem prows_of_trod {a : Option Addr} {len cap : Nat} {d : DataW H} {ps : List MemPlace} (h : DataW.Trod enc Try.prog w base spare held 78 (.slice a len cap) d ps) : ∃ ls : List (List (Nat × Nat)), ls.length = len ∧ RowsAt IsP w (.slice a len cap) ls := by
  obtain ⟨fuel, hf⟩ := h
  rcases open_slice Try.underlying78 hf with ⟨h0, -⟩ | ⟨a', len', cap', m, n, D, Pl, hcs, -, hl, hm, hmm, -, hi⟩
  · simp [Value.cells] at h0
    obtain ⟨rfl, rfl, rfl⟩ := h0
    exact ⟨[], rfl, none, 0, rfl, Nat.le_refl _, by simp [maxLen], fun i l h => by simp at h⟩
  · simp [Value.cells] at hcs
    obtain ⟨rfl, rfl, rfl⟩ := hcs
    have hC : Try.prog.cellsOf 54 = 1 := by kernel_rfl
    obtain ⟨pl, hpl, hr⟩ := list_of (α := List (Nat × Nat)) len (fun i l => ∃ b c, w.cell? (a'.add i) = some (.slice b l.length c) ∧ IsP w (.slice b l.length c) l) (fun i hil => by
      have him : i < m := by rw [hmm]; split <;> omega
      obtain ⟨cs', hc, ht'⟩ := hi i him
      obtain ⟨b, l, c, rfl, hI⟩ := pairs_of_cells ht'
      rw [hC] at hc
      obtain ⟨-, -, hat⟩ := World.cells?_some hc
      have h1 := hat 0 (by omega)
      rw [Nat.mul_one, show (a'.add i).add 0 = a'.add i from rfl] at h1
      exact ⟨l, b, c, h1, hI⟩)
    subst hpl
    refine ⟨pl, rfl, some a', cap, rfl, hl, hm, fun i l hil => ?_⟩
    obtain ⟨b, c, hc, hI⟩ := hr i l hil
    have hsp : a'.spot = none := by
      have h0 : 0 < pl.length := by have := (List.getElem?_eq_some_iff.1 hil).1; omega
      obtain ⟨b0, c0, h1, -⟩ := hr 0 pl[0] (List.getElem?_eq_getElem h0)
      exact spot_none h1
    obtain ⟨g, o, sp⟩ := a'
    cases hsp
    exact ⟨g, o, _, rfl, by rwa [addr_add] at hc, hI⟩
end
end Go.Proofs.Ytinmjgaaehdicaa
