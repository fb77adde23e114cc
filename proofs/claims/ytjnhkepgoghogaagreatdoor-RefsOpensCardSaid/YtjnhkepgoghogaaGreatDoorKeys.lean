/- slices.Sorted(maps.Keys(..)) over a disk's files. -/
import Derived.Test.YtjnhkepgoghogaaGreatDoorShelf
import Derived.Test.YtjnhkepgoghogaaGreatDoorDiskM
import Derived.OwnWalkIn
import Derived.TacticsInMore
namespace Go.Proofs.YtjnhkepgoghogaaGreatDoor
open Go.RowKit Go.Maps Go.Sort Go.Shelf

theorem sorts_files (m : Nat) : AnyZ.SortsIn Tryz.prog Tryz.sortedF_ren Fence.wide m :=
  ⟨fun blk off cap ss W hH hblk hsz => callsIn_wide.2 (AnyM.slices_Sort_string Tryz.sortF blk off cap ss W hH hblk hsz),
   fun p cap W => callsIn_wide.2 (AnyM.slices_Sort_string_none Tryz.sortF p cap W)⟩

theorem sort_perm {l l' : List (List UInt8)} (h : l.Perm l') : l.mergeSort (fun x y => decide (x ≤ y)) = l'.mergeSort (fun x y => decide (x ≤ y)) := by
  have hs : ∀ m : List (List UInt8), List.Pairwise (fun a b => decide (a ≤ b) = true) (m.mergeSort (fun x y => decide (x ≤ y))) := fun m =>
    List.pairwise_mergeSort (fun a b c h1 h2 => by simp only [decide_eq_true_eq] at *; exact List.le_trans h1 h2) (fun a b => by simp only [Bool.or_eq_true, decide_eq_true_eq]; exact List.le_total a b) m
  refine List.Perm.eq_of_pairwise (le := fun a b => decide (a ≤ b) = true) (fun a b _ _ h1 h2 => ?_) (hs l) (hs l') (((List.mergeSort_perm l _).trans h).trans (List.mergeSort_perm l' _).symm)
  simp only [decide_eq_true_eq] at h1 h2
  exact List.le_antisymm h1 h2

/-- The keys of a list of pairs, as rows of bytes, rising. -/
def namesOf {β : Type} (l : List (ByteArray × β)) : List (List UInt8) := (l.map (·.1.data.toList)).mergeSort (fun x y => decide (x ≤ y))

/-- A slice of strings of the call's own. -/
def OwnS (w : World) (v : Value) (xs : List (List UInt8)) : Prop := w.ownsRow 0 9 1 v xs.length (xs.map encStr)

theorem keys_perm {w : World} {b m : Nat} {es : Array MapEntry} {clock : Nat} {D : DM} (h : DiskAt w b m es clock D) :
    ∃ D0 : DataW Unit, w.ownsMap Tryz.prog 9 (fun _ => some (.nil, [])) m es.size D0 ∧ Maps.size D0 = D.files.length ∧ (strKeys D0).Perm (D.files.map (·.1.data.toList)) := by
  have hU : ∀ e ∈ es.toList, ∃ p ∈ D.files, e.key = .string p.1 := fun e he => by
    obtain ⟨p, hp, hk, _⟩ := h.rel.mem e he
    exact ⟨p, hp, hk⟩
  have hrd : ∀ e ∈ es.toList, WideElems.rd (H := Unit) Tryz.prog 9 (fun _ => some (.nil, [])) e = some (.string (match e.key with | .string s => s.data.toList | _ => []), .nil) := fun e he => by
    obtain ⟨p, hp, hk⟩ := hU e he
    have hl : p.1.size ≤ maxLen := by
      have := (h.ok.names p hp).1
      unfold maxLen
      simp [mayB] at this
      omega
    have hkey : keyOf Tryz.prog 9 e.key = some (.string p.1.data.toList) := by
      rw [hk]
      simp [keyOf, mapKey, Tryz.underlying9, hl]
    simp only [WideElems.rd, hkey, Option.bind_some, Option.map_some]
    rw [hk]
  have hlen : es.toList.length = D.files.length := h.rel.length
  have hcnt := h.ok.count
  refine ⟨_, ⟨es, clock, h.map, ⟨by rw [← Array.length_toList, hlen]; unfold maxLen; omega, h.stamped, fun e he => ⟨_, hrd e he⟩⟩, Nat.le_refl _, rfl⟩, ?_, ?_⟩
  · rw [Maps.size_eq, length_sorted, List.length_map, hlen]
  · show ((((es.toList.map _).foldr DataW.insert [])).map fun p => strOf p.1).Perm _
    refine (List.Perm.map _ (WideShapes.sorted_perm _)).trans ?_
    rw [List.map_map]
    have e1 : es.toList.map ((fun p => strOf p.1) ∘ WideElems.rg (H := Unit) Tryz.prog 9 (fun _ => some (.nil, []))) = D.files.map (·.1.data.toList) := by
      have : ∀ (l : List MapEntry) (m : List (ByteArray × List UInt8)) (R : Value → List UInt8 → Prop), RelM Value.string R l m → (∀ e ∈ l, e ∈ es.toList) → l.map ((fun p => strOf p.1) ∘ WideElems.rg (H := Unit) Tryz.prog 9 (fun _ => some (.nil, []))) = m.map (·.1.data.toList) := by
        intro l
        induction l with
        | nil => intro m R hr _; cases m with
          | nil => rfl
          | cons _ _ => exact hr.elim
        | cons e l ih =>
          intro m R hr hmem
          cases m with
          | nil => exact hr.elim
          | cons p m =>
            simp only [List.map_cons, Function.comp]
            rw [WideElems.rg_of (hrd e (hmem e (by simp))), hr.1.1]
            congr 1
            exact ih m R hr.2 (fun x hx => hmem x (by simp [hx]))
      exact this es.toList D.files _ h.rel (fun e he => he)
    rw [e1]

end Go.Proofs.YtjnhkepgoghogaaGreatDoor
