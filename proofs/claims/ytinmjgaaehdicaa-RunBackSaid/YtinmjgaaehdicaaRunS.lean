/- run: a byte that is turned, less or more (the plain law). -/
import Derived.Test.YtinmjgaaehdicaaRunL
namespace Go.Proofs.Ytinmjgaaehdicaa

theorem wordFrom_inj (xs ys : List UInt8) (a b : Nat) (hl : xs.length = ys.length) (h8 : xs.length ≤ 8) (ha : a < 256 ^ (8 - xs.length)) (hb : b < 256 ^ (8 - xs.length)) (h : wordFrom a xs = wordFrom b ys) : a = b ∧ xs = ys := by
  induction xs generalizing ys a b with
  | nil =>
    cases ys with
    | nil => exact ⟨h, rfl⟩
    | cons y ys => simp at hl
  | cons x xs ih =>
    cases ys with
    | nil => simp at hl
    | cons y ys =>
      have hx := x.toNat_lt
      have hy := y.toNat_lt
      simp only [List.length_cons] at h8 ha hb hl
      have hP : 256 ^ (8 - xs.length) = 256 ^ (8 - (xs.length + 1)) * 256 := by rw [← Nat.pow_succ]; congr 1; omega
      have hQ : 256 ^ (8 - xs.length) ≤ 256 ^ 8 := Nat.pow_le_pow_right (by omega) (by omega)
      have hQ2 : (256 : Nat) ^ 8 = 18446744073709551616 := by decide
      have ea : a * 256 % 18446744073709551616 = a * 256 := Nat.mod_eq_of_lt (by omega)
      have eb : b * 256 % 18446744073709551616 = b * 256 := Nat.mod_eq_of_lt (by omega)
      obtain ⟨h1, rfl⟩ := ih ys (a * 256 % 18446744073709551616 + x.toNat) (b * 256 % 18446744073709551616 + y.toNat) (by omega) (by omega) (by omega) (by omega) h
      rw [ea, eb] at h1
      exact ⟨by omega, by rw [UInt8.toNat_inj.1 (show x.toNat = y.toNat by omega)]⟩

theorem pairsOf_byte (n : Nat) (hn : n < 128) (rest : List UInt8) : pairsOf (UInt8.ofNat n :: rest) = if rest.length ≠ 16 * n + 8 then ([], false) else pairsEnd (UInt8.ofNat n :: rest) (pairsGo n ⟨rest, 0⟩ 0 []) := by
  have hu := uint_read n rest (by omega)
  rw [uintB_small hn] at hu
  simp only [List.cons_append, List.nil_append] at hu
  unfold pairsOf
  rw [hu]
  simp only []
  by_cases h : rest.length ≠ 16 * n + 8
  · rw [if_pos (.inr h), if_pos h]
  · rw [if_neg (by omega), if_neg h]

/-- What a run that is whole has at its end. -/
theorem pairsOf_ends (n : Nat) (hn : n < 128) (rest : List UInt8) (h : (pairsOf (UInt8.ofNat n :: rest)).2 = true) : rest.length = 16 * n + 8 ∧ wordFrom 0 (rest.drop (16 * n)) = hashB (UInt8.ofNat n :: rest.take (16 * n)) := by
  rw [pairsOf_byte n hn] at h
  split at h
  · cases h
  · rename_i hl
    have hl : rest.length = 16 * n + 8 := by omega
    refine ⟨hl, ?_⟩
    obtain ⟨q, hq⟩ : ∃ q, pairsGo n ⟨rest, 0⟩ 0 [] = q := ⟨_, rfl⟩
    rw [hq] at h
    cases q with
    | none => cases h
    | some q =>
      obtain ⟨l', r⟩ := q
      have hr := pairsGo_rest n rest 0 [] (by omega) l' r hq
      subst hr
      unfold pairsEnd at h
      simp only [Bool.and_eq_true, decide_eq_true_eq] at h
      have h1 := h.1
      have h8 : (rest.drop (16 * n)).length = 8 := by rw [List.length_drop]; omega
      unfold RM.word at h1
      rw [if_pos rfl, if_neg (by simp only []; omega)] at h1
      simp only [] at h1
      rw [List.take_of_length_le (by omega)] at h1
      rw [h1]
      congr 1
      have : (UInt8.ofNat n :: rest).length - 8 = 16 * n + 1 := by simp only [List.length_cons]; omega
      rw [this, List.take_succ_cons]

theorem bytesOf_short (l : List (Nat × Nat)) (hl : l.length < 128) : bytesOf l = UInt8.ofNat l.length :: (bodyB l ++ wordB (hashB (UInt8.ofNat l.length :: bodyB l))) := by
  unfold bytesOf bytesHead
  rw [uintB_small hl]
  simp
theorem bytesOf_length (l : List (Nat × Nat)) (hl : l.length < 128) : (bytesOf l).length = 16 * l.length + 9 := by
  rw [bytesOf_short l hl]
  simp only [List.length_cons, List.length_append, bodyB_length, wordB_length]

/-- A byte less. -/
theorem pairsOf_less (l : List (Nat × Nat)) (hl : l.length < 128) : (pairsOf ((bytesOf l).take ((bytesOf l).length - 1))).2 = false := by
  have hL := bytesOf_length l hl
  rw [hL, bytesOf_short l hl, show 16 * l.length + 9 - 1 = (16 * l.length + 7) + 1 from by omega, List.take_succ_cons, pairsOf_byte _ hl, if_pos]
  rw [List.length_take, List.length_append, bodyB_length, wordB_length]
  omega
/-- A byte more. -/
theorem pairsOf_more (l : List (Nat × Nat)) (hl : l.length < 128) (x : UInt8) : (pairsOf (bytesOf l ++ [x])).2 = false := by
  rw [bytesOf_short l hl, List.cons_append, pairsOf_byte _ hl, if_pos]
  simp only [List.length_append, bodyB_length, wordB_length, List.length_cons, List.length_nil]
  omega

/-- A byte that is turned, behind the first. -/
theorem pairsOf_turned (l : List (Nat × Nat)) (hl : l.length < 128) (k : Nat) (hk0 : 0 < k) (hk : k < (bytesOf l).length) (x : UInt8) (hx : (bytesOf l)[k] ≠ x) : (pairsOf ((bytesOf l).set k x)).2 = false := by
  have hL := bytesOf_length l hl
  have hB : bytesOf l = UInt8.ofNat l.length :: (bodyB l ++ wordB (hashB (UInt8.ofNat l.length :: bodyB l))) := bytesOf_short l hl
  generalize hb : bytesOf l = b at *
  subst hB
  cases k with
  | zero => omega
  | succ k =>
    simp only [List.set_cons_succ, List.getElem_cons_succ] at hx ⊢
    cases hq : (pairsOf (UInt8.ofNat l.length :: (bodyB l ++ wordB (hashB (UInt8.ofNat l.length :: bodyB l))).set k x)).2 with
    | false => rfl
    | true =>
      exfalso
      obtain ⟨-, h⟩ := pairsOf_ends _ hl _ hq
      have hbl := bodyB_length l
      have hk2 : k < 16 * l.length + 8 := by omega
      by_cases hkb : k < 16 * l.length
      · rw [List.set_append_left _ _ (by omega), List.drop_append_of_le_length (by simp; omega), List.drop_eq_nil_of_le (by simp; omega), List.nil_append, wordFrom_wordB _ (hashB_lt _), List.take_append_of_le_length (by simp; omega), List.take_of_length_le (by simp; omega)] at h
        rw [List.getElem_append_left (by omega)] at hx
        have e1 : bodyB l = (bodyB l).take k ++ (bodyB l)[k] :: (bodyB l).drop (k + 1) := by
          rw [← List.drop_eq_getElem_cons (by omega), List.take_append_drop]
        have e2 : (bodyB l).set k x = (bodyB l).take k ++ x :: (bodyB l).drop (k + 1) := List.set_eq_take_append_cons_drop ▸ by rw [if_pos (by omega)]
        rw [e2] at h
        conv at h => lhs; rw [e1]
        exact hx (hash_turned (UInt8.ofNat l.length :: (bodyB l).take k) ((bodyB l).drop (k + 1)) _ _ h)
      · rw [List.set_append_right _ _ (by omega), List.drop_append_of_le_length (by omega), List.drop_eq_nil_of_le (by omega), List.nil_append, List.take_append_of_le_length (by omega), List.take_of_length_le (by omega)] at h
        rw [List.getElem_append_right (by omega)] at hx
        have h1 := wordFrom_wordB (hashB (UInt8.ofNat l.length :: bodyB l)) (hashB_lt _)
        have h2 := (wordFrom_inj _ _ 0 0 (by simp) (by simp [wordB_length]) (by simp [wordB_length]) (by simp [wordB_length]) (h.trans h1.symm)).2
        apply hx
        have h3 := congrArg (fun z => z[k - (bodyB l).length]?) h2
        have hlt : k - (bodyB l).length < (wordB (hashB (UInt8.ofNat l.length :: bodyB l))).length := by rw [wordB_length]; omega
        rw [List.getElem?_set_self hlt, List.getElem?_eq_getElem hlt] at h3
        exact (Option.some.inj h3).symm
end Go.Proofs.Ytinmjgaaehdicaa
