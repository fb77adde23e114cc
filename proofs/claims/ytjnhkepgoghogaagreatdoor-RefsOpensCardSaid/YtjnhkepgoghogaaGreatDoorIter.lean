/- a range over a map, entry by entry. -/
import Derived.Test.YtjnhkepgoghogaaGreatDoorBase
import Derived.Maps.RangeRun
namespace Go.Proofs.YtjnhkepgoghogaaGreatDoor
open Go.RowKit Go.ChangeMaps Go.MapKept

/-- How many steps an iterator at block r has made. -/
def iterSeen (w : World) (r : Nat) : Nat := match w.heap[r]? with | some (.mapIter _ _ seen _) => seen.size | _ => 0

/-- An iterator at block r over the map at m with these entries, behind these. -/
structure IterAt (w : World) (r m : Nat) (es : Array MapEntry) (clock : Nat) (vis : List MapEntry) : Prop where
  at_ : ∃ c, clock ≤ c ∧ w.heap[r]? = some (.mapIter (some m) clock (vis.map (·.born)).toArray c)
  sub : ∀ e ∈ vis, e ∈ es.toList
  nodup : (vis.map (·.born)).Nodup

theorem run_range_map {P : Program} {T K E m : TypeId} {es : Array MapEntry} {clock : Nat} (hT : P.underlying T = some (.map K E)) (w : World) (hm : w.heap[m]? = some (.map es clock)) :
    (Instr.range T (.map (some m))).run P w = .ok (.pointer (some ⟨w.heap.size, 0, none⟩)) (w.alloc (.mapIter (some m) clock #[] clock)) := by
  simp only [Instr.range, Sem.run_bind, run_underlying hT, Result.andThen, MapKept.run_getObj_map hm, Sem.run_pure]
  rfl

theorem IterAt.start {w : World} {m : Nat} {es : Array MapEntry} {clock : Nat} : IterAt (w.alloc (.mapIter (some m) clock #[] clock)) w.heap.size m es clock [] :=
  ⟨⟨clock, Nat.le_refl _, by show (w.heap.push _)[w.heap.size]? = _; simp⟩, fun e he => (by cases he), by simp⟩

theorem IterAt.seen {w : World} {r m : Nat} {es : Array MapEntry} {clock : Nat} {vis : List MapEntry} (h : IterAt w r m es clock vis) : iterSeen w r = vis.length := by
  obtain ⟨c, _, hr⟩ := h.at_
  unfold iterSeen
  rw [hr]; simp

theorem IterAt.lt {w : World} {r m : Nat} {es : Array MapEntry} {clock : Nat} {vis : List MapEntry} (h : IterAt w r m es clock vis) : r < w.heap.size := by
  obtain ⟨c, _, hr⟩ := h.at_
  exact (Array.getElem?_eq_some_iff.1 hr).1

theorem IterAt.kept {w w' : World} {r m : Nat} {es : Array MapEntry} {clock : Nat} {vis : List MapEntry} (h : IterAt w r m es clock vis) (hk : w'.heap[r]? = w.heap[r]?) : IterAt w' r m es clock vis := by
  obtain ⟨⟨c, hc, hr⟩, h2, h3⟩ := h
  exact ⟨⟨c, hc, hk.trans hr⟩, h2, h3⟩

theorem born_inj {es : Array MapEntry} {clock : Nat} (hs : Stamped es clock) {x y : MapEntry} (hx : x ∈ es.toList) (hy : y ∈ es.toList) (h : x.born = y.born) : x = y := by
  have hn := hs.2.1
  obtain ⟨i, hi, rfl⟩ := List.mem_iff_getElem.1 hx
  obtain ⟨j, hj, rfl⟩ := List.mem_iff_getElem.1 hy
  have : i = j := by
    have h1 : (es.toList.map (·.born))[i]'(by simpa using hi) = (es.toList.map (·.born))[j]'(by simpa using hj) := by simpa using h
    have hi' : i < (es.toList.map (·.born)).length := by simpa using hi
    have hj' : j < (es.toList.map (·.born)).length := by simpa using hj
    rcases Nat.lt_trichotomy i j with hlt | heq | hlt
    · exact absurd h1 (List.pairwise_iff_getElem.1 hn i j hi' hj' hlt)
    · exact heq
    · exact absurd h1.symm (List.pairwise_iff_getElem.1 hn j i hj' hi' hlt)
  subst this; rfl

/-- One step: nothing is left, or one of those that are left comes. -/
theorem IterAt.next {P : Program} {w : World} {r m : Nat} {es : Array MapEntry} {clock : Nat} {vis : List MapEntry} (h : IterAt w r m es clock vis) (hm : w.heap[m]? = some (.map es clock)) (hs : Stamped es clock) (ty : TypeId) :
    ((∀ e ∈ es.toList, e ∈ vis) ∧ (Instr.next (.pointer (some ⟨r, 0, none⟩)) false ty).run P w = .ok (.tuple #[.bool false]) w) ∨
    ∃ e ∈ es.toList, (∀ x ∈ vis, x.born ≠ e.born) ∧ ∃ w', (Instr.next (.pointer (some ⟨r, 0, none⟩)) false ty).run P w = .ok (.tuple #[.bool true, e.key, e.val]) w' ∧ (Instr.entry (.pointer (some ⟨r, 0, none⟩))).run P w' = .ok (.tuple #[e.key, e.val]) w' ∧
      IterAt w' r m es clock (vis ++ [e]) ∧ Kept (· = r) w w' ∧ w'.heap.size = w.heap.size := by
  obtain ⟨⟨c, hc, hr⟩, hsub, hnd⟩ := h
  have hrm : r ≠ m := by intro e; subst e; rw [hr] at hm; cases hm
  rcases run_next_at (P := P) w ty r m clock c (vis.map (·.born)).toArray es clock hr hm hs.1 hc with ⟨h0, hrun⟩ | ⟨e, he, w1, hw1, hrun⟩
  · left
    refine ⟨fun e he => ?_, hrun⟩
    have hemp : leftOf es (vis.map (·.born)).toArray = #[] := Array.eq_empty_of_size_eq_zero h0
    unfold leftOf at hemp
    rw [Array.filter_eq_empty_iff] at hemp
    have := hemp e (by simpa using he)
    simp only [List.contains_toArray, Bool.not_eq_true', Bool.not_eq_false, List.contains_iff_mem, List.mem_map] at this
    obtain ⟨x, hx, hxb⟩ := this
    rw [← born_inj hs (hsub x hx) he hxb]; exact hx
  · right
    unfold leftOf at he
    simp only [Array.toList_filter, List.mem_filter, List.contains_toArray, Bool.not_eq_true'] at he
    obtain ⟨he1, he2⟩ := he
    have hnew : ∀ x ∈ vis, x.born ≠ e.born := by
      intro x hx hb
      have : (vis.map (·.born)).contains e.born = true := List.contains_iff_mem.2 (List.mem_map.2 ⟨x, hx, hb⟩)
      rw [this] at he2; cases he2
    have hk1 : Kept (fun _ => False) w w1 := by
      rcases hw1 with rfl | rfl
      · exact Kept.refl _ _
      · exact (Kept.refl _ _).drew
    have hlt : r < w1.heap.size := Nat.lt_of_lt_of_le (Array.getElem?_eq_some_iff.1 hr).1 hk1.size
    have hr' : (setBlock w1 r (.mapIter (some m) clock ((vis.map (·.born)).toArray.push e.born) clock)).heap[r]? = some (.mapIter (some m) clock ((vis.map (·.born)).toArray.push e.born) clock) := by
      simp [ChangeMaps.setBlock, hlt]
    have hm' : (setBlock w1 r (.mapIter (some m) clock ((vis.map (·.born)).toArray.push e.born) clock)).heap[m]? = some (.map es clock) := by
      rw [heap_setBlock_ne (Ne.symm hrm)]
      rcases hw1 with rfl | rfl
      · exact hm
      · exact hm
    refine ⟨e, he1, hnew, _, hrun, run_entry_at (P := P) _ r m clock _ es clock e hr' hm' he1 hs.2.1, ⟨⟨clock, Nat.le_refl _, ?_⟩, ?_, ?_⟩, ?_, ?_⟩
    · rw [hr']; simp
    · intro x hx
      rcases List.mem_append.1 hx with hx | hx
      · exact hsub x hx
      · rw [List.mem_singleton.1 hx]; exact he1
    · rw [List.map_append, List.nodup_append]
      refine ⟨hnd, by simp, ?_⟩
      intro a ha b hb hab
      simp only [List.map_cons, List.map_nil, List.mem_singleton] at hb
      obtain ⟨x, hx, rfl⟩ := List.mem_map.1 ha
      exact hnew x hx (hab.trans hb)
    · exact (hk1.mono (G := (· = r)) (fun _ _ hf => hf.elim)).setBlock (fun _ => rfl) _
    · rcases hw1 with rfl | rfl <;> simp [ChangeMaps.setBlock]

theorem nodup_sub_len {α : Type} [DecidableEq α] : ∀ {l l' : List α}, l.Nodup → (∀ x ∈ l, x ∈ l') → l.length ≤ l'.length
  | [], _, _, _ => Nat.zero_le _
  | x :: l, l', hn, hs => by
    have hx := hs x (by simp)
    have h1 := nodup_sub_len (l := l) (l' := l'.erase x) (List.nodup_cons.1 hn).2 (fun y hy => by
      refine (List.mem_erase_of_ne ?_).2 (hs y (by simp [hy]))
      intro e; subst e; exact (List.nodup_cons.1 hn).1 hy)
    rw [List.length_erase_of_mem hx] at h1
    have h2 : 0 < l'.length := List.length_pos_of_mem hx
    simp only [List.length_cons]; omega

theorem IterAt.le {w : World} {r m : Nat} {es : Array MapEntry} {clock : Nat} {vis : List MapEntry} (h : IterAt w r m es clock vis) : vis.length ≤ es.size := by
  have := nodup_sub_len (l := vis.map (·.born)) (l' := es.toList.map (·.born)) h.nodup (fun x hx => by
    obtain ⟨e, he, rfl⟩ := List.mem_map.1 hx
    exact List.mem_map.2 ⟨e, h.sub e he, rfl⟩)
  simpa using this

theorem IterAt.all_len {w : World} {r m : Nat} {es : Array MapEntry} {clock : Nat} {vis : List MapEntry} (h : IterAt w r m es clock vis) (hs : Stamped es clock) (ha : ∀ e ∈ es.toList, e ∈ vis) : vis.length = es.size := by
  have h1 := h.le
  have := nodup_sub_len (l := es.toList.map (·.born)) (l' := vis.map (·.born)) hs.2.1 (fun x hx => by
    obtain ⟨e, he, rfl⟩ := List.mem_map.1 hx
    exact List.mem_map.2 ⟨e, ha e he, rfl⟩)
  simp at this
  omega

theorem key_inj {es : Array MapEntry} {clock : Nat} (hs : Stamped es clock) {x y : MapEntry} (hx : x ∈ es.toList) (hy : y ∈ es.toList) (h : x.key = y.key) : x = y := by
  have hn := hs.2.2
  obtain ⟨i, hi, rfl⟩ := List.mem_iff_getElem.1 hx
  obtain ⟨j, hj, rfl⟩ := List.mem_iff_getElem.1 hy
  have h1 : (es.toList.map (·.key))[i]'(by simpa using hi) = (es.toList.map (·.key))[j]'(by simpa using hj) := by simpa using h
  have hi' : i < (es.toList.map (·.key)).length := by simpa using hi
  have hj' : j < (es.toList.map (·.key)).length := by simpa using hj
  have : i = j := by
    rcases Nat.lt_trichotomy i j with hlt | heq | hlt
    · exact absurd h1 (List.pairwise_iff_getElem.1 hn i j hi' hj' hlt)
    · exact heq
    · exact absurd h1.symm (List.pairwise_iff_getElem.1 hn j i hj' hi' hlt)
  subst this; rfl
end Go.Proofs.YtjnhkepgoghogaaGreatDoor
