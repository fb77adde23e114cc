/- What a round of a range over a function keeps: the cells that its own box does not own. -/
import Derived.Test.YtjnhkepgoghogaaGreatDoorRangeV
import Derived.RangeFuncNested
namespace Go.Proofs.YtjnhkepgoghogaaGreatDoor
open Go.RowKit

/-- What a block of a box holds. -/
def Owned (box : Nat) (W : World) (k : Nat) : Prop := ∃ v, W.cell? ⟨box, 0, none⟩ = some v ∧ v.ownBlock = some k
/-- What a round keeps: all cells at or beyond B that the box does not own. -/
structure KeepX (box B : Nat) (W W' : World) : Prop where
  size : W.heap.size ≤ W'.heap.size
  block : ∀ k o, B ≤ k → W.heap[k]? = some o → o.isCells = true → ¬ Owned box W k → W'.heap[k]? = some o
  own : ∀ k, Owned box W' k → Owned box W k ∨ W.heap.size ≤ k
theorem KeepX.trans {box B : Nat} {W1 W2 W3 : World} (h : KeepX box B W1 W2) (k : KeepX box B W2 W3) : KeepX box B W1 W3 where
  size := Nat.le_trans h.size k.size
  block := fun i o hi ho hc hn => k.block i o hi (h.block i o hi ho hc hn) hc (fun hw => by
    rcases h.own i hw with h1 | h1
    · exact hn h1
    · have := (Array.getElem?_eq_some_iff.1 ho).1; omega)
  own := fun i hw => by
    rcases k.own i hw with h1 | h1
    · exact h.own i h1
    · exact .inr (Nat.le_trans h.size h1)
theorem KeepX.of_kept {box B : Nat} {W W' : World} (h : Kept (fun _ => False) W W') (hb : box < W.heap.size) : KeepX box B W W' where
  size := h.size
  block := fun k o _ ho _ _ => (h.block k (Array.getElem?_eq_some_iff.1 ho).1 (fun f => f)).trans ho
  own := fun k ⟨v, hv, hk⟩ => by
    left
    refine ⟨v, ?_, hk⟩
    rwa [World.cell?_of_block (w := W) (w' := W') (a := ⟨box, 0, none⟩) (h.block box hb (fun f => f))] at hv
theorem keepX_b {box B : Nat} {w : World} (hb : box < w.heap.size) (W : World) (l : Nat) (o o' : Obj) (hl : w.heap.size ≤ l) (h : W.heap[l]? = some o) (hc : o.isCells = false) (_ : o.isWalk = false) : KeepX box B W (W.putObj l o') := by
  have hg := grownBy_putObj' W l o'
  refine ⟨hg.size, fun k u _ hu huc _ => ?_, fun k ⟨v, hv, hk⟩ => .inl ⟨v, ?_, hk⟩⟩
  · have hne : k ≠ l := fun e => by subst e; rw [hu] at h; cases h; rw [hc] at huc; cases huc
    exact (hg.block k (Array.getElem?_eq_some_iff.1 hu).1 (fun e => hne (Option.some.inj e))).trans hu
  · have hlt : l < W.heap.size := (Array.getElem?_eq_some_iff.1 h).1
    rwa [World.cell?_of_block (w := W) (w' := W.putObj l o') (a := ⟨box, 0, none⟩) (hg.block box (by show box < _; omega) (fun e => by cases e; omega))] at hv


/-- .. and these blocks, whatever they hold. -/
structure KeepZ (S : Nat → Prop) (box B : Nat) (W W' : World) : Prop where
  x : KeepX box B W W'
  same : ∀ k, S k → W'.heap[k]? = W.heap[k]?
theorem KeepZ.trans {S : Nat → Prop} {box B : Nat} {W1 W2 W3 : World} (h : KeepZ S box B W1 W2) (k : KeepZ S box B W2 W3) : KeepZ S box B W1 W3 := ⟨h.x.trans k.x, fun i hi => (k.same i hi).trans (h.same i hi)⟩
theorem keepZ_b {S : Nat → Prop} {box B : Nat} {w : World} (hb : box < w.heap.size) (hS : ∀ k, S k → k < w.heap.size) (W : World) (l : Nat) (o o' : Obj) (hl : w.heap.size ≤ l) (h : W.heap[l]? = some o) (hc : o.isCells = false) (hw : o.isWalk = false) : KeepZ S box B W (W.putObj l o') :=
  ⟨keepX_b hb W l o o' hl h hc hw, fun k hk => World.putObj_heap_other (by have := hS k hk; omega)⟩
theorem KeepZ.of_kept {S : Nat → Prop} {box B : Nat} {W W' : World} (h : Kept (fun _ => False) W W') (hb : box < W.heap.size) (hS : ∀ k, S k → k < W.heap.size) : KeepZ S box B W W' := ⟨KeepX.of_kept h hb, fun k hk => h.block k (hS k hk) (fun f => f)⟩
end Go.Proofs.YtjnhkepgoghogaaGreatDoor
