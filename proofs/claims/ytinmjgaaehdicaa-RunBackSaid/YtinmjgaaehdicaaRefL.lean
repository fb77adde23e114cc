/- run against the document's answer: the plain law. -/
import Derived.Test.YtinmjgaaehdicaaRefS
import Derived.Test.YtinmjgaaehdicaaSeqE
namespace Go.Proofs.Ytinmjgaaehdicaa

theorem ixOf_none_iff (x : Nat) (l : List (Nat × Nat)) : ixOf x l = none ↔ ∀ p ∈ l, p.1 ≠ x := by
  induction l with
  | nil => simp [ixOf]
  | cons p l ih =>
    unfold ixOf
    by_cases h : p.1 = x
    · rw [if_pos h]; simp [h]
    · rw [if_neg h, Option.map_eq_none_iff, ih]
      simp [h]
theorem ixI_nonneg (x : Nat) (l : List (Nat × Nat)) : 0 ≤ ixI x l ↔ ∃ p ∈ l, p.1 = x := by
  unfold ixI
  have h := ixOf_none_iff x l
  cases hO : ixOf x l with
  | none =>
    have h2 := h.1 hO
    simp only []
    constructor
    · intro h3; omega
    · rintro ⟨p, hp, e⟩; exact absurd e (h2 p hp)
  | some k =>
    simp only []
    constructor
    · intro _
      apply Classical.byContradiction
      intro h3
      have := h.2 (fun p hp e => h3 ⟨p, hp, e⟩)
      rw [this] at hO; cases hO
    · intro _; omega

theorem takeWhile_lt (l : List (Nat × Nat)) (x : Nat) : ∀ p ∈ l.takeWhile (fun q => decide (q.1 < x)), p.1 < x := by
  induction l with
  | nil => intro p hp; simp at hp
  | cons q l ih =>
    intro p hp
    by_cases h : q.1 < x
    · rw [List.takeWhile_cons_of_pos (by simpa using h)] at hp
      rcases List.mem_cons.1 hp with rfl | hp
      · exact h
      · exact ih p hp
    · rw [List.takeWhile_cons_of_neg (by simpa using h)] at hp
      simp at hp
theorem dropWhile_ge {l : List (Nat × Nat)} (hs : l.Pairwise (fun x y => x.1 < y.1)) (x : Nat) : ∀ p ∈ l.dropWhile (fun q => decide (q.1 < x)), x ≤ p.1 := by
  induction l with
  | nil => intro p hp; simp at hp
  | cons q l ih =>
    obtain ⟨h1, h2⟩ := List.pairwise_cons.1 hs
    intro p hp
    by_cases h : q.1 < x
    · rw [List.dropWhile_cons_of_pos (by simpa using h)] at hp
      exact ih h2 p hp
    · rw [List.dropWhile_cons_of_neg (by simpa using h)] at hp
      rcases List.mem_cons.1 hp with rfl | hp
      · omega
      · have := h1 p hp; omega
theorem putR_new {l : List (Nat × Nat)} (hs : l.Pairwise (fun x y => x.1 < y.1)) (p : Nat × Nat) (hn : ixOf p.1 l = none) : (putR l p).Pairwise (fun x y => x.1 < y.1) ∧ (putR l p).Perm (p :: l) := by
  unfold putR
  rw [if_pos hn]
  have hne := (ixOf_none_iff _ _).1 hn
  have hT := takeWhile_lt l p.1
  have hD := dropWhile_ge hs p.1
  have hTD := List.takeWhile_append_dropWhile (p := fun q : Nat × Nat => decide (q.1 < p.1)) (l := l)
  have hmem : ∀ q ∈ l.dropWhile (fun q => decide (q.1 < p.1)), q ∈ l := fun q hq => by rw [← hTD]; exact List.mem_append_right _ hq
  have hs' := hs
  rw [← hTD, List.pairwise_append] at hs'
  constructor
  · rw [List.pairwise_append]
    refine ⟨hs'.1, List.pairwise_cons.2 ⟨fun q hq => ?_, hs'.2.1⟩, fun a ha b hb => ?_⟩
    · have h1 := hD q hq
      have h2 := hne q (hmem q hq)
      omega
    · rcases List.mem_cons.1 hb with rfl | hb
      · exact hT a ha
      · exact hs'.2.2 a ha b hb
  · refine List.perm_middle.trans ?_
    rw [hTD]
theorem foldR (l acc : List (Nat × Nat)) (hs : acc.Pairwise (fun x y => x.1 < y.1)) :
    (l.foldl putR acc).Pairwise (fun x y => x.1 < y.1) ∧ ((((acc ++ l).map (·.1)).Nodup ∧ (l.foldl putR acc).Perm (acc ++ l)) ∨ (¬ ((acc ++ l).map (·.1)).Nodup ∧ (l.foldl putR acc).length < acc.length + l.length)) := by
  induction l generalizing acc with
  | nil =>
    refine ⟨hs, .inl ⟨?_, by simp⟩⟩
    rw [List.append_nil, List.Nodup, List.pairwise_map]
    exact hs.imp (fun h => by omega)
  | cons p l ih =>
    rw [List.foldl_cons]
    by_cases hn : ixOf p.1 acc = none
    · obtain ⟨h1, h2⟩ := putR_new hs p hn
      have hp2 : (putR acc p ++ l).Perm (acc ++ p :: l) := (h2.append_right l).trans (by
        rw [List.cons_append]
        exact (List.perm_middle (a := p) (l₁ := acc) (l₂ := l)).symm)
      have hl2 : (putR acc p).length = acc.length + 1 := by rw [h2.length_eq]; simp
      obtain ⟨h3, h4⟩ := ih (putR acc p) h1
      refine ⟨h3, ?_⟩
      have hnd := (hp2.map (·.1)).nodup_iff
      rcases h4 with ⟨h4, h5⟩ | ⟨h4, h5⟩
      · exact .inl ⟨hnd.1 h4, h5.trans hp2⟩
      · refine .inr ⟨fun h => h4 (hnd.2 h), ?_⟩
        rw [List.length_cons]; omega
    · have hp : putR acc p = acc := by unfold putR; rw [if_neg hn]
      rw [hp]
      obtain ⟨h3, h4⟩ := ih acc hs
      refine ⟨h3, .inr ⟨fun hnd => ?_, ?_⟩⟩
      · apply hn
        rw [ixOf_none_iff]
        intro q hq e
        rw [List.map_append, List.nodup_append] at hnd
        exact hnd.2.2 q.1 (List.mem_map_of_mem hq) p.1 (by simp) e
      · rcases h4 with ⟨-, h5⟩ | ⟨-, h5⟩
        · have := h5.length_eq
          rw [List.length_append] at this
          rw [List.length_cons]; omega
        · rw [List.length_cons]; omega
theorem sortedR_spec (l : List (Nat × Nat)) : (sortedR l).Pairwise (fun x y => x.1 < y.1) ∧ ((sortedR l).length = l.length ↔ (l.map (·.1)).Nodup) ∧ ((l.map (·.1)).Nodup → sortedR l = sortedP l) := by
  obtain ⟨h1, h2⟩ := foldR l [] List.Pairwise.nil
  simp only [List.nil_append, List.length_nil, Nat.zero_add] at h2
  refine ⟨h1, ?_, fun hn => ?_⟩
  · rcases h2 with ⟨h3, h4⟩ | ⟨h3, h4⟩
    · exact ⟨fun _ => h3, fun _ => h4.length_eq⟩
    · refine ⟨fun h5 => ?_, fun h5 => absurd h5 h3⟩
      unfold sortedR at h5
      omega
  · rcases h2 with ⟨-, h4⟩ | ⟨h3, -⟩
    · exact (sorted_eq h4 h1).2
    · exact absurd hn h3

/-- What RunMakes asks of Make. -/
theorem make_spec (m : List (Nat × Nat)) (hl : m.length ≤ 200) (hb : ∀ p ∈ m, p.1 < 18446744073709551616 ∧ p.2 < 18446744073709551616) :
    (0 ≤ ixI 0 m ∧ makeOf m = ([], 2)) ∨ (¬ 0 ≤ ixI 0 m ∧ (sortedR m).length ≠ m.length ∧ makeOf m = ([], 5)) ∨
    (¬ 0 ≤ ixI 0 m ∧ (sortedR m).length = m.length ∧ makeOf m = (bytesOf (sortedR m), 0) ∧ eachOf (bytesOf (sortedR m)) = sortedR m) := by
  obtain ⟨hs, hL, hE⟩ := sortedR_spec m
  have hI := ixI_nonneg 0 m
  unfold makeOf
  rw [if_neg (by omega)]
  by_cases h0 : ∃ p ∈ m, p.1 = 0
  · rw [if_pos h0]; exact .inl ⟨hI.2 h0, rfl⟩
  · rw [if_neg h0]
    have hI' : ¬ 0 ≤ ixI 0 m := fun h => h0 (hI.1 h)
    by_cases h1 : (m.map (·.1)).Nodup
    · rw [if_neg (by simpa using h1), ← hE h1]
      refine .inr (.inr ⟨hI', hL.2 h1, rfl, ?_⟩)
      have hr : Rising 0 (sortedR m) := Rising.of_strict hs (fun p hp => by
        have hp' : p ∈ m := by rw [hE h1] at hp; exact (sortedP_perm m).mem_iff.1 hp
        exact ⟨Nat.pos_of_ne_zero (fun e => h0 ⟨p, hp', e⟩), hb p hp'⟩)
      unfold eachOf
      rw [pairsOf_bytesOf _ hr (by have := sortedR_length m; omega)]
      rfl
    · rw [if_pos h1]
      exact .inr (.inl ⟨hI', fun e => h1 (hL.1 e), rfl⟩)
end Go.Proofs.Ytinmjgaaehdicaa
