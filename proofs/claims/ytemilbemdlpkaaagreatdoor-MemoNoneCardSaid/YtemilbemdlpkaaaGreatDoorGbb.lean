/- A stable merge of pairs: the plain law. -/
import Derived.Test.YtemilbemdlpkaaaGreatDoorGaz
namespace Go.Proofs.YtemilbemdlpkaaaGreatDoor

def leP (x y : Nat × Nat) : Prop := x.1 ≤ y.1
/-- C is X, sorted, alike keys in their order. -/
structure StP (X C : List (Nat × Nat)) : Prop where
  sorted : C.Pairwise leP
  keep : ∀ k, C.filter (fun p => decide (p.1 = k)) = X.filter (fun p => decide (p.1 = k))
  len : C.length = X.length
theorem StP.mem {X C : List (Nat × Nat)} (h : StP X C) (p : Nat × Nat) : p ∈ C ↔ p ∈ X := by
  have h1 : p ∈ C.filter (fun q => decide (q.1 = p.1)) ↔ p ∈ X.filter (fun q => decide (q.1 = p.1)) := by rw [h.keep]
  simpa using h1
theorem StP.refl {X : List (Nat × Nat)} (h : X.Pairwise leP) : StP X X := ⟨h, fun _ => rfl, rfl⟩
theorem StP.of_perm_keep {X Y C : List (Nat × Nat)} (h : StP Y C) (hk : ∀ k, Y.filter (fun p => decide (p.1 = k)) = X.filter (fun p => decide (p.1 = k))) (hl : Y.length = X.length) : StP X C := ⟨h.sorted, fun k => (h.keep k).trans (hk k), h.len.trans hl⟩
theorem filter_nil {l : List (Nat × Nat)} {k : Nat} (h : ∀ p ∈ l, p.1 ≠ k) : l.filter (fun p => decide (p.1 = k)) = [] := by
  rw [List.filter_eq_nil_iff]
  intro p hp
  simpa using h p hp

/-- Two halves that are merged. -/
theorem StP.halves {A1 A2 B1 B2 C1 C2 : List (Nat × Nat)} (h1 : StP (A1 ++ B1) C1) (h2 : StP (A2 ++ B2) C2) (hA : (A1 ++ A2).Pairwise leP) (hB : (B1 ++ B2).Pairwise leP) (hab : ∀ p ∈ A1, ∀ q ∈ B2, p.1 ≤ q.1) (hba : ∀ p ∈ B1, ∀ q ∈ A2, p.1 < q.1) : StP (A1 ++ A2 ++ (B1 ++ B2)) (C1 ++ C2) := by
  have hA' := List.pairwise_append.1 hA
  have hB' := List.pairwise_append.1 hB
  refine ⟨?_, fun k => ?_, ?_⟩
  · rw [List.pairwise_append]
    refine ⟨h1.sorted, h2.sorted, fun p hp q hq => ?_⟩
    have hp' := (h1.mem p).1 hp
    have hq' := (h2.mem q).1 hq
    rcases List.mem_append.1 hp' with hp' | hp' <;> rcases List.mem_append.1 hq' with hq' | hq'
    · exact hA'.2.2 p hp' q hq'
    · exact hab p hp' q hq'
    · exact Nat.le_of_lt (hba p hp' q hq')
    · exact hB'.2.2 p hp' q hq'
  · rw [List.filter_append, h1.keep, h2.keep]
    simp only [List.filter_append, List.append_assoc]
    by_cases hb : ∀ p ∈ B1, p.1 ≠ k
    · rw [filter_nil hb]; simp
    · have ha : ∀ q ∈ A2, q.1 ≠ k := by
        intro q hq e
        apply hb
        intro p hp e2
        have := hba p hp q hq
        omega
      rw [filter_nil ha]; simp
  · simp only [List.length_append, h1.len, h2.len]; omega
/-- One before many. -/
theorem StP.one_left {x : Nat × Nat} {B1 B2 : List (Nat × Nat)} (hB : (B1 ++ B2).Pairwise leP) (h1 : ∀ p ∈ B1, p.1 < x.1) (h2 : ∀ p ∈ B2, x.1 ≤ p.1) : StP (x :: (B1 ++ B2)) (B1 ++ x :: B2) := by
  have := StP.halves (A1 := []) (A2 := [x]) (B1 := B1) (B2 := B2) (C1 := B1) (C2 := x :: B2) (StP.refl (List.pairwise_append.1 hB).1) (StP.refl (List.pairwise_cons.2 ⟨fun p hp => h2 p hp, (List.pairwise_append.1 hB).2.1⟩)) (by simp) hB (fun p hp => by simp at hp) (fun p hp q hq => by rw [List.mem_singleton.1 hq]; exact h1 p hp)
  simpa using this
/-- One behind many. -/
theorem StP.one_right {x : Nat × Nat} {A1 A2 : List (Nat × Nat)} (hA : (A1 ++ A2).Pairwise leP) (h1 : ∀ p ∈ A1, p.1 ≤ x.1) (h2 : ∀ p ∈ A2, x.1 < p.1) : StP (A1 ++ A2 ++ [x]) (A1 ++ x :: A2) := by
  have hA' := List.pairwise_append.1 hA
  have := StP.halves (A1 := A1) (A2 := A2) (B1 := [x]) (B2 := []) (C1 := A1 ++ [x]) (C2 := A2) (StP.refl (by
    rw [List.pairwise_append]
    exact ⟨hA'.1, by simp, fun p hp q hq => by rw [List.mem_singleton.1 hq]; exact h1 p hp⟩)) (by simpa using StP.refl hA'.2.1) hA (by simp) (fun p hp q hq => by simp at hq) (fun p hp q hq => by rw [List.mem_singleton.1 hp]; exact h2 q hq)
  simpa using this
/-- A part of a stable sort that is sorted on. -/
theorem StP.trans {X Y C : List (Nat × Nat)} (h : StP Y C) (k : ∀ k, Y.filter (fun p => decide (p.1 = k)) = X.filter (fun p => decide (p.1 = k))) (hl : Y.length = X.length) : StP X C := h.of_perm_keep k hl

/-- A number of places below which a test says no: binary search's law. -/
theorem below_mono {l : List (Nat × Nat)} (h : l.Pairwise leP) {i j : Nat} (hi : i ≤ j) (hj : j < l.length) : (l[i]'(by omega)).1 ≤ l[j].1 := by
  rcases Nat.lt_or_ge i j with hlt | hge
  · exact List.pairwise_iff_getElem.1 h i j (by omega) hj hlt
  · obtain rfl : i = j := by omega
    exact Nat.le_refl _
theorem sorted_le {l : List (Nat × Nat)} (h : l.Pairwise leP) {i j : Nat} (hij : i ≤ j) (hj : j < l.length) : (l[i]'(by omega)).1 ≤ l[j].1 := by
  rcases Nat.lt_or_ge i j with h1 | h1
  · exact (List.pairwise_iff_getElem.1 h) i j (by omega) hj h1
  · obtain rfl : i = j := by omega
    exact Nat.le_refl _
end Go.Proofs.YtemilbemdlpkaaaGreatDoor

/- Blocks of pairs that are sorted: plain law. -/
namespace Go.Proofs.YtemilbemdlpkaaaGreatDoor

theorem split3 (C : List (Nat × Nat)) (a t : Nat) (h : a + t ≤ C.length) : ∃ P A Q, C = P ++ (A ++ Q) ∧ P.length = a ∧ A.length = t :=
  ⟨C.take a, (C.drop a).take t, (C.drop a).drop t, by rw [List.take_append_drop, List.take_append_drop], by rw [List.length_take]; omega, by rw [List.length_take, List.length_drop]; omega⟩
theorem split4 (C : List (Nat × Nat)) (a t u : Nat) (h : a + t + u ≤ C.length) : ∃ P A B Q, C = P ++ (A ++ (B ++ Q)) ∧ P.length = a ∧ A.length = t ∧ B.length = u := by
  obtain ⟨P, A, R, rfl, h1, h2⟩ := split3 C a t (by omega)
  simp only [List.length_append] at h
  obtain ⟨P', B, Q, rfl, h3, h4⟩ := split3 R 0 u (by omega)
  obtain rfl := List.length_eq_zero_iff.1 h3
  exact ⟨P, A, B, Q, rfl, h1, h2, h4⟩

/-- C has X's pairs, alike keys in their order. -/
structure KeepP (X C : List (Nat × Nat)) : Prop where
  keep : ∀ k, C.filter (fun p => decide (p.1 = k)) = X.filter (fun p => decide (p.1 = k))
  len : C.length = X.length
theorem KeepP.upd {X P A Q C : List (Nat × Nat)} (h : KeepP X (P ++ (A ++ Q))) (hs : StP A C) : KeepP X (P ++ (C ++ Q)) :=
  ⟨fun k => by rw [← h.keep k]; simp only [List.filter_append, hs.keep], by rw [← h.len]; simp only [List.length_append, hs.len]⟩

/-- The blocks of s below u are sorted. -/
def SBu (s u : Nat) (C : List (Nat × Nat)) : Prop := ∀ i j (x y : Nat × Nat), C[i]? = some x → C[j]? = some y → i < j → j < u → i / s = j / s → x.1 ≤ y.1
theorem SBu.none (s : Nat) (C : List (Nat × Nat)) : SBu s 0 C := fun _ _ _ _ _ _ _ h => absurd h (Nat.not_lt_zero _)
theorem div_sep {s q i j : Nat} (hi : i < s * q) (hj : s * q ≤ j) (hs : 0 < s) : i / s ≠ j / s := by
  have h1 : i / s < q := Nat.div_lt_of_lt_mul hi
  have h2 : q ≤ j / s := (Nat.le_div_iff_mul_le hs).2 (by rw [Nat.mul_comm]; exact hj)
  omega
theorem SBu.upd {s u u' q : Nat} {P A Q C : List (Nat × Nat)} (h : SBu s u (P ++ (A ++ Q))) (hs : 0 < s) (hC : C.Pairwise leP) (hl : C.length = A.length) (ha : P.length = s * q) (hu : P.length ≤ u) (hu' : u' ≤ P.length + A.length ∨ (∃ q', P.length + A.length = s * q') ∧ u' ≤ u) : SBu s u' (P ++ (C ++ Q)) := by
  intro i j x y hx hy hij hj hd
  rcases Nat.lt_or_ge j P.length with h1 | h1
  · rw [List.getElem?_append_left (by omega)] at hx hy
    exact h i j x y (by rw [List.getElem?_append_left (by omega)]; exact hx) (by rw [List.getElem?_append_left (by omega)]; exact hy) hij (by omega) hd
  · rcases Nat.lt_or_ge i P.length with h2 | h2
    · exact absurd hd (div_sep (q := q) (by omega) (by omega) hs)
    · rw [List.getElem?_append_right (by omega)] at hx hy
      rcases Nat.lt_or_ge j (P.length + A.length) with h3 | h3
      · rw [List.getElem?_append_left (by omega)] at hx hy
        obtain ⟨k1, e1⟩ := List.getElem?_eq_some_iff.1 hx
        obtain ⟨k2, e2⟩ := List.getElem?_eq_some_iff.1 hy
        have := sorted_le hC (show i - P.length ≤ j - P.length by omega) k2
        rw [e1, e2] at this
        exact this
      · rcases hu' with h4 | ⟨⟨q', h4⟩, h5⟩
        · omega
        · rcases Nat.lt_or_ge i (P.length + A.length) with h6 | h6
          · exact absurd hd (div_sep (q := q') (by omega) (by omega) hs)
          · rw [List.getElem?_append_right (by omega)] at hx hy
            refine h i j x y ?_ ?_ hij (by omega) hd
            · rw [List.getElem?_append_right (by omega), List.getElem?_append_right (by omega), ← hl]; exact hx
            · rw [List.getElem?_append_right (by omega), List.getElem?_append_right (by omega), ← hl]; exact hy
theorem SBu.sorted {s u q : Nat} {P A Q : List (Nat × Nat)} (h : SBu s u (P ++ (A ++ Q))) (hs : 0 < s) (ha : P.length = s * q) (hl : A.length ≤ s) (hu : P.length + A.length ≤ u) : A.Pairwise leP := by
  rw [List.pairwise_iff_getElem]
  intro i j hi hj hij
  refine h (P.length + i) (P.length + j) A[i] A[j] ?_ ?_ (by omega) (by omega) ?_
  · rw [List.getElem?_append_right (by omega), show P.length + i - P.length = i from by omega, List.getElem?_append_left hi, List.getElem?_eq_getElem hi]
  · rw [List.getElem?_append_right (by omega), show P.length + j - P.length = j from by omega, List.getElem?_append_left hj, List.getElem?_eq_getElem hj]
  · rw [ha, Nat.mul_add_div hs, Nat.mul_add_div hs, Nat.div_eq_of_lt (by omega), Nat.div_eq_of_lt (by omega)]
/-- The last block is no longer than a half. -/
theorem SBu.tail {s a q : Nat} {C : List (Nat × Nat)} (h2 : SBu (2 * s) a C) (h1 : SBu s C.length C) (hs : 0 < s) (ha : a = 2 * s * q) (hn : C.length ≤ a + s) : SBu (2 * s) C.length C := by
  intro i j x y hx hy hij hj hd
  rcases Nat.lt_or_ge j a with h3 | h3
  · exact h2 i j x y hx hy hij h3 hd
  · rcases Nat.lt_or_ge i a with h4 | h4
    · exact absurd hd (div_sep (q := q) (by omega) (by omega) (by omega))
    · refine h1 i j x y hx hy hij hj ?_
      have e : 2 * s * q = s * (2 * q) := by rw [Nat.mul_comm 2 s, Nat.mul_assoc]
      obtain ⟨i', rfl⟩ : ∃ i', i = s * (2 * q) + i' := ⟨i - s * (2 * q), by omega⟩
      obtain ⟨j', rfl⟩ : ∃ j', j = s * (2 * q) + j' := ⟨j - s * (2 * q), by omega⟩
      rw [Nat.mul_add_div hs, Nat.mul_add_div hs, Nat.div_eq_of_lt (by omega), Nat.div_eq_of_lt (by omega)]
theorem SBu.all {s : Nat} {C : List (Nat × Nat)} (h : SBu s C.length C) (hs : C.length ≤ s) : C.Pairwise leP := by
  rw [List.pairwise_iff_getElem]
  intro i j hi hj hij
  exact h i j C[i] C[j] (List.getElem?_eq_getElem hi) (List.getElem?_eq_getElem hj) hij hj (by rw [Nat.div_eq_of_lt (by omega), Nat.div_eq_of_lt (by omega)])
end Go.Proofs.YtemilbemdlpkaaaGreatDoor
