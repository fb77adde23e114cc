/- from [][]api.Ref that came in to the words of the walk. -/
import Derived.Test.YtjnhkepgoghogaaDoorRowV
import Derived.Test.YtjnhkepgoghogaaDoorRsW
namespace Go.Proofs.YtjnhkepgoghogaaDoor
open Go.RowKit Go.ChangeShapes Go.WideShapes Go.Deep

section
variable {H : Type} {enc : TypeId × Value → H} {w : World} {base : Nat} {spare : Nat → Bool} {held : Bool}
theorem rrows_of_trod {a : Option Addr} {len cap : Nat} {d : DataW H} {ps : List MemPlace} (h : DataW.Trod enc Tryd.prog w base spare held 56 (.slice a len cap) d ps) : ∃ ls : List IdsL, ls.length = len ∧ RowsR w (.slice a len cap) ls := by
  obtain ⟨fuel, hf⟩ := h
  rcases open_slice Tryd.underlying56 hf with ⟨h0, -⟩ | ⟨a', len', cap', m, n, D, Pl, hcs, -, hl, hm, hmm, -, hi⟩
  · simp [Value.cells] at h0
    obtain ⟨rfl, rfl, rfl⟩ := h0
    exact ⟨[], rfl, none, 0, rfl, Nat.le_refl _, by simp [maxLen], fun i l h => by simp at h⟩
  · simp [Value.cells] at hcs
    obtain ⟨rfl, rfl, rfl⟩ := hcs
    have hC : Tryd.prog.cellsOf 38 = 1 := by kernel_rfl
    obtain ⟨pl, hpl, hr⟩ := list_of (α := IdsL) len (fun i l => ∃ b c, w.cell? (a'.add i) = some (.slice b l.length c) ∧ IsR w (.slice b l.length c) l ∧ ∀ p ∈ l, p.2 < 18446744073709551616) (fun i hil => by
      have him : i < m := by rw [hmm]; split <;> omega
      obtain ⟨cs', hc, ht'⟩ := hi i him
      obtain ⟨b, l, c, rfl, hI⟩ := refs_of_cells ht'
      rw [hC] at hc
      obtain ⟨-, -, hat⟩ := World.cells?_some hc
      have h1 := hat 0 (by omega)
      rw [Nat.mul_one, show (a'.add i).add 0 = a'.add i from rfl] at h1
      exact ⟨l, b, c, h1, hI⟩)
    subst hpl
    refine ⟨pl, rfl, some a', cap, rfl, hl, hm, fun i l hil => ?_⟩
    obtain ⟨b, c, hc, hI⟩ := hr i l hil
    have hsp : a'.spot = none := by
      have h0 : 0 < pl.length := by have := (List.getElem?_eq_some_iff.1 hil).1; omega
      obtain ⟨b0, c0, h1, -⟩ := hr 0 pl[0] (List.getElem?_eq_getElem h0)
      exact spot_none h1
    obtain ⟨g, o, sp⟩ := a'
    cases hsp
    exact ⟨g, o, _, _, rfl, by rwa [addr_add] at hc, hI⟩
end
end Go.Proofs.YtjnhkepgoghogaaDoor
