/- What is read, by the code and by the document: the plain law. -/
import Derived.Test.YtinmjgaaehdicaaRefT
import Derived.Test.YtinmjgaaehdicaaRunS
namespace Go.Proofs.Ytinmjgaaehdicaa

theorem numFrom_canon (l : List UInt8) (i x : Nat) (hi : i ≤ 9) (h : (numFrom i x l).2.2 = 0) : ∃ m, (numFrom i x l).1 = x + m * 2 ^ (7 * i) ∧ l.take ((numFrom i x l).2.1 - i) = uintB m ∧ (0 < i → 0 < m) := by
  induction l generalizing i x with
  | nil => simp [numFrom] at h
  | cons c l ih =>
    unfold numFrom at h ⊢
    have hcl := c.toNat_lt
    split at h
    · simp at h
    · rename_i hc
      rw [if_neg hc]
      split at h
      · rename_i hs
        rw [if_pos hs]
        refine ⟨c.toNat, by rw [Nat.mod_eq_of_lt hs], ?_, fun h0 => Nat.pos_of_ne_zero (fun e => hc (.inr ⟨h0, e⟩))⟩
        rw [uintB_small hs]
        simp
      · rename_i hs
        rw [if_neg hs]
        have h9 : i ≤ 8 := by
          rcases Nat.lt_or_ge 8 i with h | h
          · exact absurd (.inl ⟨by omega, by omega⟩) hc
          · exact h
        obtain ⟨m, h1, h2, h3⟩ := ih (i + 1) _ (by omega) h
        have hb := numFrom_bounds l (i + 1) (x + c.toNat % 128 * 2 ^ (7 * i)) (by omega) h
        have hm := h3 (by omega)
        refine ⟨c.toNat % 128 + 128 * m, ?_, ?_, fun _ => by omega⟩
        · rw [h1, show 7 * (i + 1) = 7 * i + 7 from by omega, Nat.pow_add, Nat.add_mul, Nat.add_assoc]
          congr 2
          rw [Nat.mul_comm 128 m, Nat.mul_assoc, Nat.mul_comm 128, Nat.mul_comm]
        · rw [uintB_big (by omega)]
          have e1 : (c.toNat % 128 + 128 * m) % 128 + 128 = c.toNat := by omega
          have e2 : (c.toNat % 128 + 128 * m) / 128 = m := by omega
          rw [e1, e2, ← h2]
          obtain ⟨d, hd⟩ : ∃ d, (numFrom (i + 1) (x + c.toNat % 128 * 2 ^ (7 * i)) l).2.1 = i + 1 + d + 1 := ⟨(numFrom (i + 1) (x + c.toNat % 128 * 2 ^ (7 * i)) l).2.1 - (i + 2), by omega⟩
          rw [hd, show i + 1 + d + 1 - i = (d + 1) + 1 from by omega, show i + 1 + d + 1 - (i + 1) = d + 1 from by omega, List.take_succ_cons]
          simp

theorem wordB_wordFrom (l : List UInt8) (h : l.length = 8) : wordB (wordFrom 0 l) = l := by
  have h1 := wordFrom_wordB (wordFrom 0 l) (wordFrom_lt 0 l (by omega))
  exact (wordFrom_inj _ _ 0 0 (by rw [wordB_length, h]) (by rw [wordB_length]; omega) (by rw [wordB_length]; simp) (by rw [wordB_length]; simp) h1).2

theorem wordsP_length (n : Nat) (L : List UInt8) : (wordsP n L).length = n := by
  induction n generalizing L with
  | zero => rfl
  | succ n ih => simp [wordsP, ih]
theorem bodyB_wordsP (n : Nat) (L : List UInt8) (h : 16 * n ≤ L.length) : bodyB (wordsP n L) = L.take (16 * n) := by
  induction n generalizing L with
  | zero => simp [wordsP, bodyB]
  | succ n ih =>
    have h1 := ih (L.drop 16) (by rw [List.length_drop]; omega)
    have e : bodyB (wordsP (n + 1) L) = (wordB (wordFrom 0 (L.take 8)) ++ wordB (wordFrom 0 ((L.drop 8).take 8))) ++ bodyB (wordsP n (L.drop 16)) := rfl
    rw [e, h1, wordB_wordFrom _ (by rw [List.length_take]; omega), wordB_wordFrom _ (by rw [List.length_take, List.length_drop]; omega)]
    rw [show 16 * (n + 1) = 8 + (8 + 16 * n) from by omega, List.take_add, List.take_add, List.drop_drop, List.append_assoc]

theorem word_ok (L : List UInt8) (h : 8 ≤ L.length) : (RM.mk L 0).word = (wordFrom 0 (L.take 8), ⟨L.drop 8, 0⟩) := by
  unfold RM.word
  rw [if_pos rfl, if_neg (by simp only []; omega)]
theorem pairsGo_words (n : Nat) (L : List UInt8) (last : Nat) (acc : List (Nat × Nat)) (h : 16 * n ≤ L.length) :
    pairsGo n ⟨L, 0⟩ last acc = if risesB last (wordsP n L) = true then some (acc ++ wordsP n L, ⟨L.drop (16 * n), 0⟩) else none := by
  induction n generalizing L last acc with
  | zero => simp [pairsGo, wordsP, risesB]
  | succ n ih =>
    unfold pairsGo
    rw [word_ok L (by omega)]
    simp only []
    rw [word_ok (L.drop 8) (by rw [List.length_drop]; omega)]
    simp only [List.drop_drop]
    have hw : wordsP (n + 1) L = (wordFrom 0 (L.take 8), wordFrom 0 ((L.drop 8).take 8)) :: wordsP n (L.drop 16) := rfl
    rw [hw]
    unfold risesB
    by_cases hle : wordFrom 0 (L.take 8) ≤ last
    · rw [if_pos hle, if_neg (by simp; omega)]
    · rw [if_neg hle, ih (L.drop 16) _ _ (by rw [List.length_drop]; omega)]
      have hd : decide (last < wordFrom 0 (L.take 8)) = true := by simp; omega
      rw [hd, Bool.true_and]
      rw [List.drop_drop, List.append_assoc, List.singleton_append, show 16 + 16 * n = 16 * (n + 1) from by omega]

theorem read_same (bs : List UInt8) : (pairsOf bs).2 = (readR bs).2 ∧ ((readR bs).2 = true → (readR bs).1 = (pairsOf bs).1) := by
  have hu : (RM.mk bs 0).uint = if (numB bs).2.2 = 0 then ((numB bs).1, ⟨bs.drop (numB bs).2.1, 0⟩) else (0, ⟨bs, (numB bs).2.2⟩) := by
    unfold RM.uint
    rw [if_pos rfl]
  have hbd := numFrom_bounds bs 0 0 (by omega)
  have hcn := numFrom_canon bs 0 0 (by omega)
  change (numB bs).2.2 = 0 → _ < (numB bs).2.1 ∧ (numB bs).2.1 ≤ 0 + bs.length ∧ (numB bs).2.1 ≤ 10 at hbd
  change (numB bs).2.2 = 0 → ∃ m, (numB bs).1 = 0 + m * 2 ^ (7 * 0) ∧ bs.take ((numB bs).2.1 - 0) = uintB m ∧ (0 < 0 → 0 < m) at hcn
  unfold pairsOf readR
  rw [hu]
  obtain ⟨⟨n, k, er⟩, hq⟩ : ∃ q, numB bs = q := ⟨_, rfl⟩
  rw [hq] at hbd hcn ⊢
  simp only at hbd hcn ⊢
  clear hq hu
  by_cases he : er = 0
  · obtain ⟨hk0, hkl, -⟩ := hbd he
    obtain ⟨m, hm1, hm2, -⟩ := hcn he
    have hmn : n = m := by simpa using hm1
    subst hmn
    rw [Nat.sub_zero] at hm2
    rw [if_pos he]
    simp only []
    by_cases hc : 65536 < n ∨ (bs.drop k).length ≠ 16 * n + 8
    · rw [if_pos hc, if_pos (by rw [List.length_drop] at hc; omega)]
      exact ⟨rfl, fun h => by cases h⟩
    · rw [if_neg hc, if_neg (by rw [List.length_drop] at hc; omega)]
      have hLl : (bs.drop k).length = 16 * n + 8 := by omega
      have hbl : bs.length = k + (16 * n + 8) := by rw [List.length_drop] at hLl; omega
      rw [pairsGo_words n _ 0 [] (by omega)]
      by_cases hr : risesB 0 (wordsP n (bs.drop k)) = true
      · rw [if_pos hr, if_pos hr]
        have hT : ((bs.drop k).drop (16 * n)).length = 8 := by rw [List.length_drop]; omega
        have hhead : bytesHead (wordsP n (bs.drop k)) = bs.take (bs.length - 8) := by
          unfold bytesHead
          rw [wordsP_length, bodyB_wordsP _ _ (by omega), ← hm2, show bs.length - 8 = k + 16 * n from by omega, List.take_add]
        have hsp : bs = bs.take (bs.length - 8) ++ (bs.drop k).drop (16 * n) := by
          conv => lhs; rw [← List.take_append_drop (bs.length - 8) bs]
          rw [List.drop_drop, show k + 16 * n = bs.length - 8 from by omega]
        have hbo : bytesOf (wordsP n (bs.drop k)) = bs.take (bs.length - 8) ++ wordB (hashB (bs.take (bs.length - 8))) := by
          unfold bytesOf
          rw [hhead]
        have hiff : bytesOf (wordsP n (bs.drop k)) = bs ↔ wordFrom 0 ((bs.drop k).drop (16 * n)) = hashB (bs.take (bs.length - 8)) := by
          rw [hbo]
          constructor
          · intro e
            have e2 := e.trans hsp
            have e3 := List.append_cancel_left e2
            rw [← e3, wordFrom_wordB _ (hashB_lt _)]
          · intro e
            conv => rhs; rw [hsp]
            rw [← e, wordB_wordFrom _ hT]
        unfold pairsEnd
        simp only [List.nil_append]
        rw [word_ok ((bs.drop k).drop (16 * n)) (by omega), List.take_of_length_le (by omega)]
        have hst : (RM.mk (((bs.drop k).drop (16 * n)).drop 8) 0).stop = 0 := by
          unfold RM.stop
          rw [if_pos rfl, if_pos (List.drop_eq_nil_of_le (by omega))]
        simp only [hst, decide_true, Bool.and_true]
        exact ⟨by simp only [hiff], fun _ => trivial⟩
      · rw [if_neg hr, if_neg hr]
        exact ⟨rfl, fun h => by cases h⟩
  · rw [if_neg he, if_pos (show er ≠ 0 ∨ 65536 < n ∨ bs.length ≠ k + 16 * n + 8 from .inl he)]
    simp only []
    refine ⟨?_, fun h => by cases h⟩
    split
    · rfl
    · unfold pairsGo pairsEnd
      have hw : (RM.mk bs er).word = (0, ⟨bs, er⟩) := by unfold RM.word; rw [if_neg he]
      simp only []
      rw [hw]
      have hst : (RM.mk bs er).stop = er := by unfold RM.stop; rw [if_neg he]
      simp only [hst, he, decide_false, Bool.and_false]
end Go.Proofs.Ytinmjgaaehdicaa
