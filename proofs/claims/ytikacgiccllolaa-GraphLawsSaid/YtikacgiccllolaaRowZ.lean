/- from [3]int that came in to the words of the walks. -/
import Derived.Test.YtikacgiccllolaaRowG
import Derived.Laws.IdiomArrays
namespace Go.Proofs.Ytikacgiccllolaa
open Go.RowKit Go.ChangeShapes Go.WideShapes Go.Deep

section
variable {H : Type} {enc : TypeId × Value → H} {w : World} {base : Nat} {spare : Nat → Bool} {held : Bool}
set_option maxRecDepth 100000 in
theorem zarr_of_trod {r : Reach} {b2 : Nat} {w2 : World} {v : Value} {d : DataW H} {ps : List MemPlace} (hv : Value.okWide Try.prog w2 r b2 51 v) (h : DataW.Trod enc Try.prog w base spare held 51 v d ps) :
    ∃ x y z : Int, v = .agg #[.int .i64 x, .int .i64 y, .int .i64 z] := by
  simp only [Value.okWide, Try.underlying51] at hv
  obtain ⟨cs, rfl, hs, -⟩ := hv
  have hC : Try.prog.cellsOf 51 = 3 := by kernel_rfl
  rw [hC] at hs
  obtain ⟨x, y, z, rfl⟩ : ∃ x y z, cs = #[x, y, z] := by
    obtain ⟨l⟩ := cs
    match l, hs with
    | [x, y, z], _ => exact ⟨x, y, z, rfl⟩
  obtain ⟨fuel, hf⟩ := h
  obtain ⟨y0, y1, y2, n, -, h0, h1, h2⟩ := ChangeShapes.trod_array3 Try.underlying51 (by kernel_rfl) (by simpa [Value.cells] using hf)
  obtain ⟨k0, e0, -, -⟩ := DataW.trod_int Try.underlying3 h0
  obtain ⟨k1, e1, -, -⟩ := DataW.trod_int Try.underlying3 h1
  obtain ⟨k2, e2, -, -⟩ := DataW.trod_int Try.underlying3 h2
  cases e0; cases e1; cases e2
  exact ⟨k0, k1, k2, rfl⟩
end
end Go.Proofs.Ytikacgiccllolaa
