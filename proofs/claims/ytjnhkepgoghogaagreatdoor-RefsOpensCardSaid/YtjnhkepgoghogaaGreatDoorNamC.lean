/- strings.Split at "/", name.parts. -/
import Derived.Test.YtjnhkepgoghogaaGreatDoorNamA
import Derived.Test.YtjnhkepgoghogaaGreatDoorShelfN
import Derived.Shelf.Strings.Split
namespace Go.Proofs.YtjnhkepgoghogaaGreatDoor
open Go.RowKit Go.ChangeMaps Go.MapKept
set_option linter.unusedSimpArgs false

def strokeB : ByteArray := ⟨#[47]⟩
def piecesOf (s : ByteArray) : List ByteArray := Lib.splitB strokeB 0 (Lib.countB s strokeB) s
theorem pieces_len (s : ByteArray) : (piecesOf s).length = Lib.countB s strokeB + 1 := Lib.splitB_all strokeB (by decide) 0 _ s rfl
theorem indexB_stroke (x : ByteArray) : Lib.indexB x strokeB = Lib.indexByte x.data.toList 47 := Lib.index_one _ _
set_option maxHeartbeats 1000000 in
theorem split_any (s : ByteArray) (hs : s.size < 4294967281) (w : World) :
    Calls Tryz.prog 78 #[.string s, .string ⟨#[47]⟩] w fun e w' => e = .returned (.slice (some ⟨w.heap.size, 0, none⟩) (piecesOf s).length (piecesOf s).length) ∧ w' = w.alloc (.cells ((piecesOf s).map Value.string).toArray 9) := by
  have hI : ∀ (x : ByteArray) (c : Array Value), x.size ≤ s.size → Calls Tryz.prog 95 #[.string x, .string strokeB] (w.alloc (.cells c 9)) fun e w' => e = .returned (.int .i64 (Lib.indexB x strokeB)) ∧ w' = w.alloc (.cells c 9) := fun x c _ => by
    rw [indexB_stroke]
    exact Any.strings_Index_one { Tryz.splitL with } x 47 _
  have hC : Calls Tryz.prog 94 #[.string s, .string strokeB] w fun e w' => e = .returned (.int .i64 (Lib.countB s strokeB)) ∧ w' = w := by
    refine (Any.strings_Count_one { Tryz.splitL with } s 47 w).mono fun e w' ⟨he, hw⟩ => ⟨?_, hw⟩
    rw [he]
    show _ = Ending.returned (Value.int .i64 ((Lib.count s.data.toList [47] : Nat) : Int))
    rw [Lib.count_one]
    rfl
  have hle := Lib.countB_le strokeB (by decide) s.size s (Nat.le_refl _)
  have c := Any.strings_genSplit_core { Tryz.splitL with } Tryz.splitL.i9 s strokeB 0 (-1) (Lib.countB s strokeB + 1) w hs (by decide) (by decide) hI hC (by decide) (by decide) (by rw [if_pos (by decide)]; omega)
  rw [Nat.add_sub_cancel] at c
  have e2 : Lib.cellsOf (Lib.splitB strokeB 0 (Lib.countB s strokeB) s) (Lib.countB s strokeB + 1) = ((piecesOf s).map Value.string).toArray := by rw [← pieces_len s]; exact Lib.cellsOf_full _
  rw [e2, ← pieces_len s] at c
  have hc : Calls Tryz.prog 86 #[.string s, .string ⟨#[47]⟩, .int .i64 0, .int .i64 (-1)] w fun e w' => e = .returned (.slice (some ⟨w.heap.size, 0, none⟩) (piecesOf s).length (piecesOf s).length) ∧ w' = w.alloc (.cells ((piecesOf s).map Value.string).toArray 9) := c
  clear c hI hC hle e2
  go_enter Tryz.func78, Tryz.ntmps78
  go_wp2_with fail
  refine hc.mono ?_
  rintro e w' ⟨rfl, rfl⟩
  go_wp2_with fail
  go_ret
  exact ⟨rfl, rfl⟩
/-- A path's names. -/
def partsOf (s : ByteArray) : List ByteArray := if s = ⟨#[]⟩ then [] else piecesOf s
set_option maxHeartbeats 1000000 in
theorem parts_any (s : ByteArray) (hs : s.size < 4294967281) (w : World) :
    Calls Tryz.prog 76 #[.string s] w fun e w' => (∃ a c, e = .returned (.slice a (partsOf s).length c) ∧ (partsOf s = [] ∨ ∃ g, a = some ⟨g, 0, none⟩ ∧ w.heap.size ≤ g ∧ w'.heap[g]? = some (.cells ((partsOf s).map Value.string).toArray 9 (0, 0)))) ∧ Kept (fun _ => False) w w' := by
  by_cases h0 : s = ⟨#[]⟩
  · subst h0
    go_enter Tryz.func76, Tryz.ntmps76
    go_wp2_with fail
    go_ret
    exact ⟨⟨none, 0, rfl, .inl rfl⟩, Kept.refl _ _⟩
  · have h0b : s.toList.isEmpty = false := by
      have h := (Lib.bytes_beq_false_iff s ⟨#[]⟩).2 h0
      rw [show ByteArray.toList ⟨#[]⟩ = [] from by kernel_rfl] at h
      cases hl : s.toList <;> simp_all
    have hp : partsOf s = piecesOf s := if_neg h0
    rw [hp]
    go_enter Tryz.func76, Tryz.ntmps76
    go_wp2_with fail
    refine (split_any s hs w).mono ?_
    rintro e w' ⟨rfl, rfl⟩
    go_wp2_with fail
    go_ret
    exact ⟨⟨_, _, rfl, .inr ⟨_, rfl, Nat.le_refl _, heap_alloc_new _ _⟩⟩, (Kept.refl _ _).alloc _⟩
end Go.Proofs.YtjnhkepgoghogaaGreatDoor
