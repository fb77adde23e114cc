/- from []byte that came in to the words of the walk. -/
import Derived.Test.YtjnhkepgoghogaaGreatDoorRowKit
namespace Go.Proofs.YtjnhkepgoghogaaGreatDoor
open Go.RowKit Go.ChangeShapes Go.WideShapes Go.Deep

section
variable {H : Type} {enc : TypeId × Value → H} {w : World} {base : Nat} {spare : Nat → Bool} {held : Bool}
theorem bytesIn_of_trod {a : Option Addr} {len cap : Nat} {d : DataW H} {ps : List MemPlace} (h : DataW.Trod enc Tryz.prog w base spare held 33 (.slice a len cap) d ps) : ∃ l : List UInt8, l.length = len ∧ IsB w (.slice a len cap) l := by
  obtain ⟨fuel, hf⟩ := h
  obtain ⟨a', c', bs, he, hB⟩ := isB_of_trod Tryz.underlying33 Tryz.underlying5 (by kernel_rfl) hf
  cases he
  exact ⟨bs, rfl, hB⟩
end
end Go.Proofs.YtjnhkepgoghogaaGreatDoor
