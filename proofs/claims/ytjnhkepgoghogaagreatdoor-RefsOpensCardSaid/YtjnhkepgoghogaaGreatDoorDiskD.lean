/- slices.Clone at bytes; disk: New, Read, Size, Writes, Cut, Cutting, Mend. -/
import Derived.Test.YtjnhkepgoghogaaGreatDoorDiskM
namespace Go.Proofs.YtjnhkepgoghogaaGreatDoor
open Go.RowKit Go.ChangeMaps Go.MapKept

/-- A fresh slice of bytes: nothing that was there has turned, and its block is new. -/
structure FreshB (w : World) (v : Value) (bs : List UInt8) (w' : World) : Prop where
  own : OwnB w' v bs
  kept : Kept (fun _ => False) w w'
  new : ∀ g, v.ownBlock = some g → w.heap.size ≤ g

theorem FreshB.nil (w : World) : FreshB w (.slice none 0 0) [] w := ⟨World.ownsRow_nil _ _ _ _, Kept.refl _ _, fun g hg => by cases hg⟩

set_option maxRecDepth 100000 in
theorem clone_any (w : World) (v : Value) (bs : List UInt8) (hv : IsB w v bs) (hlen : bs.length ≤ 140737488355328) :
    Calls Tryz.prog 38 #[v] w fun e w' => ∃ v', e = .returned v' ∧ FreshB w v' bs w' ∧ (v' = .slice none 0 0 ↔ v.ownBlock = none) := by
  obtain ⟨a, c, rfl, hc, hcm, hsrc⟩ := id hv
  cases a with
  | none =>
    have hb : bs = [] := by
      rcases hsrc with h | ⟨g, o, h, _⟩
      · exact h
      · cases h
    subst hb
    have hnil := @Lib.run_eql_slice_nil Tryz.prog
    go_enter Tryz.func38, Tryz.ntmps38
    go_wp2
    go_ret
    exact ⟨_, rfl, FreshB.nil w, by simp [Value.ownBlock]⟩
  | some ad =>
    clear hsrc
    have hnil := @Lib.run_eql_slice_nil Tryz.prog
    have hk : Kept (fun _ => False) w (w.alloc (.cells #[] 5)) := (Kept.refl _ w).alloc _
    obtain ⟨v', w', ha, hO, hg, hb, hn⟩ := run_append_bytes (w.alloc (.cells #[] 5)) _ (.slice (some ad) bs.length c) [] bs (empty_new w) (hv.keptF hk (fun _ _ h => h)) (by simpa using hlen)
    go_enter Tryz.func38, Tryz.ntmps38
    go_wp2_with (at_builtin; refine wpList_append_run rfl (.tmp 5) (.tmp 6) #[33, 33] rfl _ _ _ _ rfl rfl ha ?_)
    go_ret
    refine ⟨v', rfl, ⟨hO, ?_, fun g hgo => ?_⟩, ?_⟩
    · refine hk.trans (Kept.grown (F := fun k => w.heap.size ≤ k) (Kept.refl _ _) hg ?_) (fun i hi hf => by omega)
      intro k hk _
      simp only [Value.ownBlock, Option.some.injEq] at hk
      omega
    · rcases hb g hgo with h1 | ⟨h1, _⟩
      · simp only [Value.ownBlock, Option.some.injEq] at h1; omega
      · rw [h1]; simp
    · rw [hn]; simp [Value.ownBlock]

section
variable {w : World} {b m : Nat} {es : Array MapEntry} {clock : Nat} {D : DM} {s : ByteArray}

theorem new_any (w : World) : Calls Tryz.prog 6 #[] w fun e w' => ∃ b m, e = .returned (.pointer (some ⟨b, 0, none⟩)) ∧ w.heap.size ≤ b ∧ w.heap.size ≤ m ∧ DiskAt w' b m #[] 0 ⟨[], 0, 0, false⟩ ∧ Kept (fun _ => False) w w' := by
  have hmm := @run_makeMap Tryz.prog
  go_enter Tryz.func6, Tryz.ntmps6
  go_wp2
  go_ret
  refine ⟨w.heap.size + 1, w.heap.size, rfl, by omega, by omega, ⟨?_, ?_, stamped_empty 0, trivial, fun e he => by simp at he, ⟨by simp, by simp, by simp, by simp, by simp, by simp [NodupA]⟩⟩, ((Kept.refl _ w).alloc _).alloc _⟩
  · simpa using heap_alloc_new (w.alloc (.map #[] 0)) (.cells #[.map (some w.heap.size), .int .i64 0, .int .i64 0, .bool false] 59)
  · rw [Below.heap_alloc _ _ _ (by simp)]; exact heap_alloc_new w _

def DM.cutAt (D : DM) (n : Int) : DM := { D with left := n, cut := true }
def DM.mend (D : DM) : DM := { D with left := 0, cut := false }

/-- What Read answers: the bytes in new memory, or that there is no such file. -/
def ReadEnd (w : World) (D : DM) (s : ByteArray) (e : Ending) (w' : World) : Prop :=
  ∃ v, e = .returned (.tuple #[v, .int .i64 (if (getA s D.files).isSome then 0 else 4)]) ∧ FreshB w v (D.bytes s) w' ∧ (getA s D.files = none → v = .slice none 0 0)

theorem read_any (h : DiskAt w b m es clock D) (s : ByteArray) : Calls Tryz.prog 13 #[.pointer (some ⟨b, 0, none⟩), .string s] w (ReadEnd w D s) := by
  obtain ⟨old, hl0, hold, -, ho⟩ := h.lookW s true
  have c0 := h.c0
  have hle := DM.bytes_le h.ok s
  have hB := hold.isB
  cases hg : getA s D.files with
  | none =>
    rw [hg] at hl0
    obtain rfl := ho hg
    have HG := Lib.hid hg; clear hg
    have hl1 := hl0 w h.map
    clear hl0
    go_enter Tryz.func13, Tryz.ntmps13
    go_wp2
    go_ret2
    exact ⟨_, by rw [HG.out]; rfl, by unfold DM.bytes; rw [HG.out]; exact FreshB.nil w, fun _ => rfl⟩
  | some x =>
    rw [hg] at hl0
    have HG := Lib.hid hg; clear hg
    have hl1 := hl0 w h.map
    clear hl0
    go_enter Tryz.func13, Tryz.ntmps13
    go_wp2_with (go_at_call 38; refine (clone_any _ old (D.bytes s) hB (by omega)).mono ?_; rintro e w' ⟨v', rfl, hf, -⟩)
    go_ret2
    exact ⟨v', by rw [HG.out]; rfl, hf, fun e => by rw [HG.out] at e; cases e⟩

end
end Go.Proofs.YtjnhkepgoghogaaGreatDoor
