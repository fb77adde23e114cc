/- bytes turned into a string; bytes.Equal. -/
import Derived.Test.YtjnhkepgoghogaaGreatDoorBytes
namespace Go.Proofs.YtjnhkepgoghogaaGreatDoor
open Go.RowKit Go.ChangeMaps Go.MapKept

theorem foldl_bytes : ∀ (bs : List UInt8) (s : ByteArray), (bs.map (fun b => (b.toNat : Int))).foldl (fun r n => r.push (UInt8.ofNat n.toNat)) s = ⟨s.data ++ bs.toArray⟩
  | [], s => by simp
  | b :: bs, s => by
    simp only [List.map_cons, List.foldl_cons]
    rw [foldl_bytes bs]
    simp [ByteArray.push]

/-- 'string(b)'. -/
theorem run_string_bytes {w : World} {a : Option Addr} {n c : Nat} {bs : List UInt8} (h : IsB w (.slice a n c) bs) :
    (convert 33 9 (.slice a n c)).run Tryz.prog w = .ok (.string ⟨bs.toArray⟩) w := by
  rw [run_convert_bytes_string w _ _ _ a n c Tryz.underlying33 Tryz.underlying5 Tryz.underlying9]
  obtain ⟨a', c', hv, h1, h2, h3⟩ := h
  cases hv
  cases a with
  | none =>
    have : bs = [] := by
      rcases h3 with h3 | ⟨g, o, h3, _⟩
      · exact h3
      · cases h3
    subst this
    simp [Conv.bytesToString]
    rfl
  | some ad =>
    have hcells : (loadCells ad bs.length).run Tryz.prog w = .ok ((bs.map (fun b => (b.toNat : Int))).map (Value.int .u8)).toArray w := by
      rcases h3 with rfl | ⟨g, o, h3, _, h4⟩
      · simp [loadCells, loadCellsFrom]
      · cases h3
        have := run_loadCells_list (P := Tryz.prog) w ⟨g, o, none⟩ (bytesV bs) (fun j v hv => by rw [addr_add]; exact h4 j v hv)
        rw [bytesV_length] at this
        rw [this]
        simp [bytesV]
    rw [run_bytesToString w ad bs.length c _ hcells, foldl_bytes]
    simp

theorem str_eq (xs ys : List UInt8) : ((⟨xs.toArray⟩ : ByteArray) == ⟨ys.toArray⟩) = decide (xs = ys) := by
  by_cases h : xs = ys
  · subst h; simp [(bytes_beq _ _).2 rfl]
  · have h2 : ((⟨xs.toArray⟩ : ByteArray) == ⟨ys.toArray⟩) = false := by
      cases e : ((⟨xs.toArray⟩ : ByteArray) == ⟨ys.toArray⟩)
      · rfl
      · have := (bytes_beq _ _).1 e
        simp only [ByteArray.mk.injEq] at this
        exact absurd (by simpa using congrArg Array.toList this) h
    rw [h2]; simp [h]

theorem equal_any (w : World) (v1 v2 : Value) (xs ys : List UInt8) (h1 : IsB w v1 xs) (h2 : IsB w v2 ys) :
    Calls Tryz.prog 14 #[v1, v2] w fun e w' => e = .returned (.bool (decide (xs = ys))) ∧ w = w' := by
  obtain ⟨a1, c1, rfl, _⟩ := id h1
  obtain ⟨a2, c2, rfl, _⟩ := id h2
  have r1 := run_string_bytes h1
  have r2 := run_string_bytes h2
  have HE := Lib.hid (str_eq xs ys)
  go_enter Tryz.func14, Tryz.ntmps14
  go_wp2
  go_ret
  refine ⟨?_, rfl⟩
  rw [← HE.out]
  simp [beq_toListBytes]

/-- .. within a region that draws, of equal bytes. -/
theorem equal_quiet {w : World} {v1 v2 : Value} {xs : List UInt8} (h1 : IsB w v1 xs) (h2 : IsB w v2 xs) (n : Nat) :
    Calls Tryz.prog 14 #[v1, v2] (w.drewN n) fun e w' => e = .returned (.bool true) ∧ w' = w.drewN n :=
  (equal_any (w.drewN n) v1 v2 xs xs (h1.keptF ((Kept.refl (fun _ => False) w).drewN n) (fun _ _ h => h)) (h2.keptF ((Kept.refl (fun _ => False) w).drewN n) (fun _ _ h => h))).mono fun _ _ ⟨h, k⟩ => ⟨by simpa using h, k.symm⟩
end Go.Proofs.YtjnhkepgoghogaaGreatDoor
