/- refs: the list that is told. -/
import Derived.Test.YtjnhkepgoghogaaGreatDoorRsK
import Derived.Test.YtjnhkepgoghogaaGreatDoorKeys
namespace Go.Proofs.YtjnhkepgoghogaaGreatDoor

/-- The refs as they are told: rising. -/
def allOf (S : IdsL) : IdsL := (namesOf S).map fun x => (strB x, (getA (strB x) S).getD 0)
theorem namesOf_perm {β : Type} {l l' : List (ByteArray × β)} (h : l.Perm l') : namesOf l = namesOf l' := sort_perm (h.map _)
theorem allOf_perm {S T : IdsL} (h : NodupA S) (hp : S.Perm T) : allOf S = allOf T := by
  unfold allOf
  rw [namesOf_perm hp]
  exact List.map_congr_left (fun x _ => by rw [get_of_perm h hp])
theorem allOf_self {S : IdsL} (h : NodupA S) : (allOf S).Perm S := by
  unfold allOf namesOf
  refine ((List.mergeSort_perm _ _).map _).trans ?_
  rw [List.map_map]
  have : ∀ l : IdsL, (∀ p ∈ l, p ∈ S) → l.map ((fun x => (strB x, (getA (strB x) S).getD 0)) ∘ fun p => p.1.data.toList) = l := by
    intro l
    induction l with
    | nil => intro _; rfl
    | cons p l ih =>
      intro hs
      rw [List.map_cons, ih (fun q hq => hs q (by simp [hq]))]
      simp only [Function.comp, strB_data]
      rw [getA_of_mem h (show (p.1, p.2) ∈ S from hs p (by simp))]
      rfl
  rw [this S (fun _ h => h)]
theorem allOf_nodup {S : IdsL} (h : NodupA S) : NodupA (allOf S) := h.perm (allOf_self h).symm
theorem allOf_eq {S T : IdsL} (h : NodupA S) (h' : NodupA T) : allOf S = allOf T ↔ S.Perm T :=
  ⟨fun e => ((allOf_self h).symm.trans (e ▸ List.Perm.refl _)).trans (allOf_self h'), allOf_perm h⟩
theorem allOf_length {S : IdsL} : (allOf S).length = S.length := by unfold allOf namesOf; simp

end Go.Proofs.YtjnhkepgoghogaaGreatDoor
