/- names and ids as a list of pairs; changes that are laid over it. -/
import Derived.Test.YtjnhkepgoghogaaDoorDiskE
namespace Go.Proofs.YtjnhkepgoghogaaDoor

theorem nodup_of_map {α β : Type} (f : α → β) : ∀ {l : List α}, (l.map f).Nodup → l.Nodup
  | [], _ => List.nodup_nil
  | x :: l, h => by
    rw [List.map_cons, List.nodup_cons] at h
    exact List.nodup_cons.2 ⟨fun hm => h.1 (List.mem_map_of_mem hm), nodup_of_map f h.2⟩

section
variable {α β : Type} [DecidableEq α]
theorem getA_cons (k : α) (p : α × β) (l : List (α × β)) : getA k (p :: l) = if p.1 = k then some p.2 else getA k l := rfl
theorem mem_iff_getA {l : List (α × β)} (h : NodupA l) (k : α) (v : β) : (k, v) ∈ l ↔ getA k l = some v := ⟨getA_of_mem h, getA_mem⟩
theorem perm_of_get {l l' : List (α × β)} (h : NodupA l) (h' : NodupA l') (hg : ∀ k, getA k l = getA k l') : l.Perm l' := by
  refine (List.perm_ext_iff_of_nodup (nodup_of_map _ h) (nodup_of_map _ h')).2 ?_
  rintro ⟨k, v⟩
  rw [mem_iff_getA h, mem_iff_getA h', hg]
omit [DecidableEq α] in
theorem NodupA.perm {l l' : List (α × β)} (h : NodupA l) (hp : l.Perm l') : NodupA l' := (hp.map _).nodup_iff.1 h
theorem get_of_perm {l l' : List (α × β)} (h : NodupA l) (hp : l.Perm l') (k : α) : getA k l = getA k l' := by
  have h' := h.perm hp
  cases hg : getA k l' with
  | some v => exact (mem_iff_getA h k v).1 (hp.mem_iff.2 ((mem_iff_getA h' k v).2 hg))
  | none =>
    cases hg2 : getA k l with
    | none => rfl
    | some v =>
      have := (mem_iff_getA h' k v).1 (hp.mem_iff.1 ((mem_iff_getA h k v).2 hg2))
      rw [hg] at this; cases this
theorem getA_of_not_mem {l : List (α × β)} {k : α} (h : k ∉ l.map (·.1)) : getA k l = none := by
  cases hg : getA k l with
  | none => rfl
  | some v => exact absurd (List.mem_map.2 ⟨_, getA_mem hg, rfl⟩) h
theorem mem_of_getA {l : List (α × β)} {k : α} {v : β} (h : getA k l = some v) : k ∈ l.map (·.1) := List.mem_map.2 ⟨_, getA_mem h, rfl⟩
theorem getA_append (k : α) (l l' : List (α × β)) : getA k (l ++ l') = match getA k l with | some v => some v | none => getA k l' := by
  induction l with
  | nil => rfl
  | cons p l ih =>
    rw [List.cons_append, getA_cons, getA_cons]
    by_cases h : p.1 = k
    · rw [if_pos h, if_pos h]
    · rw [if_neg h, if_neg h]; exact ih
end

/-- Names with their ids. -/
abbrev IdsL := List (ByteArray × Nat)
def layOne (l : IdsL) (c : ByteArray × Nat) : IdsL := if c.2 = 0 then delA c.1 l else putA c.1 c.2 l
def layL (l cs : IdsL) : IdsL := cs.foldl layOne l
theorem layOne_nodup {l : IdsL} (h : NodupA l) (c : ByteArray × Nat) : NodupA (layOne l c) := by
  unfold layOne
  split
  · exact h.del _
  · exact h.put _ _
theorem layL_nodup {l : IdsL} (h : NodupA l) (cs : IdsL) : NodupA (layL l cs) := by
  induction cs generalizing l with
  | nil => exact h
  | cons c cs ih => exact ih (layOne_nodup h c)
theorem getA_layOne {l : IdsL} (h : NodupA l) (c : ByteArray × Nat) (k : ByteArray) : getA k (layOne l c) = if k = c.1 then (if c.2 = 0 then none else some c.2) else getA k l := by
  unfold layOne
  by_cases hk : k = c.1
  · subst hk
    rw [if_pos rfl]
    split
    · exact getA_delA_same h
    · exact getA_putA_same _ _ _
  · rw [if_neg hk]
    split
    · exact getA_delA_ne hk _
    · exact getA_putA_ne hk _ _
theorem layL_snoc (l cs : IdsL) (c : ByteArray × Nat) : layL l (cs ++ [c]) = layOne (layL l cs) c := by simp [layL]
theorem getA_layL {l cs : IdsL} (h : NodupA l) (hc : NodupA cs) (k : ByteArray) : getA k (layL l cs) = match getA k cs with | none => getA k l | some n => if n = 0 then none else some n := by
  induction cs generalizing l with
  | nil => rfl
  | cons c cs ih =>
    have hc' := hc
    simp only [NodupA, List.map_cons, List.nodup_cons] at hc'
    show getA k (layL (layOne l c) cs) = _
    rw [ih (layOne_nodup h c) hc'.2, getA_layOne h, getA_cons]
    by_cases hk : c.1 = k
    · subst hk
      rw [if_pos rfl, if_pos rfl, getA_of_not_mem hc'.1]
    · rw [if_neg hk, if_neg (Ne.symm hk)]
/-- What the changes lay, told by what is found. -/
theorem layL_perm {l l' cs : IdsL} (h : NodupA l) (hc : NodupA cs) (h' : NodupA l') (hg : ∀ k, getA k l' = match getA k cs with | none => getA k l | some n => if n = 0 then none else some n) : l'.Perm (layL l cs) :=
  perm_of_get h' (layL_nodup h cs) (fun k => by rw [hg, getA_layL h hc])
theorem layL_perm2 {l l' cs : IdsL} (h : NodupA l) (hc : NodupA cs) (hp : l.Perm l') : (layL l cs).Perm (layL l' cs) :=
  perm_of_get (layL_nodup h cs) (layL_nodup (h.perm hp) cs) (fun k => by rw [getA_layL h hc, getA_layL (h.perm hp) hc, get_of_perm h hp])

end Go.Proofs.YtjnhkepgoghogaaDoor
