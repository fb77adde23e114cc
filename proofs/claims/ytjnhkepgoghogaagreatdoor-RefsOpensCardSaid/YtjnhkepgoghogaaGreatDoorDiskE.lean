/- disk: Copy. -/
import Derived.Test.YtjnhkepgoghogaaGreatDoorDiskD
import Derived.Test.YtjnhkepgoghogaaGreatDoorIter
namespace Go.Proofs.YtjnhkepgoghogaaGreatDoor
open Go.RowKit Go.ChangeMaps Go.MapKept

theorem Kept.grownBy {w w' : World} (h : Kept (fun _ => False) w w') (row : Option Nat) : w.grownBy w' row := ⟨h.os, h.tape, h.output, h.size, fun k hk _ => h.block k hk (fun f => f)⟩

theorem getA_of_mem {α β : Type} [DecidableEq α] {l : List (α × β)} (h : NodupA l) {k : α} {v : β} (hm : (k, v) ∈ l) : getA k l = some v := by
  induction l with
  | nil => cases hm
  | cons p l ih =>
    simp only [NodupA, List.map_cons, List.nodup_cons, List.mem_map] at h
    rcases List.mem_cons.1 hm with rfl | hm
    · simp [getA]
    · have : p.1 ≠ k := fun e => h.1 ⟨(k, v), hm, e.symm⟩
      simp [getA, this, ih h.2 hm]

/-- What a copy has when these entries have come. -/
structure CopyRel (D : DM) (vis : List MapEntry) (files2 : List (ByteArray × List UInt8)) : Prop where
  got : ∀ s x, getA s files2 = some x → getA s D.files = some x ∧ ∃ e ∈ vis, e.key = .string s
  all : ∀ e ∈ vis, ∀ s, e.key = .string s → (getA s files2).isSome = true
  len : files2.length = vis.length

theorem CopyRel.step {D : DM} {vis : List MapEntry} {files2 : List (ByteArray × List UInt8)} (h : CopyRel D vis files2) {e : MapEntry} {s : ByteArray} {x : List UInt8} (he : e.key = .string s) (hx : getA s D.files = some x) (hnew : ∀ y ∈ vis, y.key ≠ e.key) :
    CopyRel D (vis ++ [e]) (putA s x files2) := by
  have hnone : getA s files2 = none := by
    cases hg : getA s files2 with
    | none => rfl
    | some y =>
      obtain ⟨_, e', he', hk'⟩ := h.got s y hg
      exact absurd (hk'.trans he.symm) (hnew e' he')
  refine ⟨fun t y hy => ?_, fun e' he' t ht => ?_, ?_⟩
  · by_cases hts : t = s
    · subst hts
      rw [getA_putA_same] at hy
      cases hy
      exact ⟨hx, e, by simp, he⟩
    · rw [getA_putA_ne hts] at hy
      obtain ⟨h1, e', h2, h3⟩ := h.got t y hy
      exact ⟨h1, e', by simp [h2], h3⟩
  · rcases List.mem_append.1 he' with he' | he'
    · by_cases hts : t = s
      · subst hts; rw [getA_putA_same]; rfl
      · rw [getA_putA_ne hts]; exact h.all e' he' t ht
    · rw [List.mem_singleton.1 he', he] at ht
      cases ht
      rw [getA_putA_same]; rfl
  · rw [length_putA, hnone, h.len]; simp

/-- The same files, told in whatever order. -/
structure DM.Same (D D' : DM) : Prop where
  files : ∀ s, getA s D.files = getA s D'.files
  len : D.files.length = D'.files.length

section
variable {w : World} {b m : Nat} {es : Array MapEntry} {clock : Nat} {D : DM}

/-- A new disk. -/
structure NewDisk (w : World) (D' : DM) (w' : World) (b' m' : Nat) (es' : Array MapEntry) (clock' : Nat) : Prop where
  disk : DiskAt w' b' m' es' clock' D'
  new : ∀ k, diskF b' m' es' k → w.heap.size ≤ k
  kept : Kept (fun _ => False) w w'

end
end Go.Proofs.YtjnhkepgoghogaaGreatDoor
