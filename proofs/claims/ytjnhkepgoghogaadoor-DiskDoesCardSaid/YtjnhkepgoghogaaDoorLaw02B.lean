/- espalierlaw02.alike: two disks with the same files. -/
import Derived.Test.YtjnhkepgoghogaaDoorDiskH
import Derived.Test.YtjnhkepgoghogaaDoorKeys
import Derived.Test.YtjnhkepgoghogaaDoorEqual
namespace Go.Proofs.YtjnhkepgoghogaaDoor
open Go.RowKit Go.ChangeMaps Go.MapKept

theorem DM.Same.refl (D : DM) : DM.Same D D := ⟨fun _ => rfl, rfl⟩
theorem DM.Same.symm {D D' : DM} (h : DM.Same D D') : DM.Same D' D := ⟨fun s => (h.files s).symm, h.len.symm⟩
theorem DM.Same.trans {D D' D'' : DM} (h : DM.Same D D') (k : DM.Same D' D'') : DM.Same D D'' := ⟨fun s => (h.files s).trans (k.files s), h.len.trans k.len⟩
theorem DM.Same.bytes {D D' : DM} (h : DM.Same D D') (s : ByteArray) : D.bytes s = D'.bytes s := by unfold DM.bytes; rw [h.files s]

theorem mem_keys {β : Type} {l : List (ByteArray × β)} {s : ByteArray} : s ∈ l.map (·.1) ↔ (getA s l).isSome = true := by
  constructor
  · intro h
    obtain ⟨p, hp, rfl⟩ := List.mem_map.1 h
    cases hg : getA p.1 l with
    | some x => rfl
    | none => exact absurd rfl (getA_none hg p hp)
  · intro h
    obtain ⟨x, hx⟩ := Option.isSome_iff_exists.1 h
    exact List.mem_map.2 ⟨_, getA_mem hx, rfl⟩

theorem names_same {D D' : DM} (h : DM.Same D D') (hn : NodupA D.files) (hn' : NodupA D'.files) : namesOf D.files = namesOf D'.files := by
  refine sort_perm ?_
  have : (D.files.map (·.1)).Perm (D'.files.map (·.1)) := (List.perm_ext_iff_of_nodup hn hn').2 fun s => by rw [mem_keys, mem_keys, h.files s]
  have h2 := this.map (fun s : ByteArray => s.data.toList)
  rw [List.map_map, List.map_map] at h2
  exact h2

theorem names_mem {D : DM} {x : List UInt8} (h : x ∈ namesOf D.files) : (getA (⟨x.toArray⟩ : ByteArray) D.files).isSome = true := by
  have h1 : x ∈ D.files.map (·.1.data.toList) := (List.mergeSort_perm _ _).mem_iff.1 h
  obtain ⟨p, hp, rfl⟩ := List.mem_map.1 h1
  have : (⟨p.1.data.toList.toArray⟩ : ByteArray) = p.1 := by simp
  rw [this]
  exact mem_keys.1 (List.mem_map.2 ⟨p, hp, rfl⟩)

theorem OwnS.form {w : World} {v : Value} {xs : List (List UInt8)} (h : OwnS w v xs) : ∃ a c, v = .slice a xs.length c ∧ xs.length ≤ c ∧ c ≤ maxLen ∧ (xs = [] ∨ ∃ g, a = some ⟨g, 0, none⟩ ∧ ∀ i x, xs[i]? = some x → w.cell? ⟨g, i, none⟩ = some (.string ⟨x.toArray⟩)) := by
  rcases h.2 with ⟨rfl, h0⟩ | ⟨g, cap, cur, rfl, _, hg, hn, hc, hs, ht⟩
  · have : xs = [] := List.length_eq_zero_iff.1 h0
    subst this
    exact ⟨none, 0, rfl, Nat.le_refl _, by simp [maxLen], .inl rfl⟩
  · refine ⟨_, cap, rfl, hn, hc, .inr ⟨g, rfl, fun i x hx => ?_⟩⟩
    rw [cell_of_row w g i cur 9 (0, 0) hg]
    have h2 : (xs.map encStr)[i]? = some (encStr x) := by rw [List.getElem?_map, hx]; rfl
    rw [← ht, List.getElem?_take] at h2
    split at h2
    · simpa using h2
    · cases h2

end Go.Proofs.YtjnhkepgoghogaaDoor
