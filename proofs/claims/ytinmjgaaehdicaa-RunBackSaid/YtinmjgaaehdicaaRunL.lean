/- run: the plain law of its bytes. -/
import Derived.Test.YtinmjgaaehdicaaRunB
namespace Go.Proofs.Ytinmjgaaehdicaa

theorem mul_odd (a b : Nat) (ha : a < 18446744073709551616) (hb : b < 18446744073709551616) (h : a * 1099511628211 % 18446744073709551616 = b * 1099511628211 % 18446744073709551616) : a = b := by
  have h2 : (a * 1099511628211 % 18446744073709551616) * 14886173955864302971 % 18446744073709551616 = (b * 1099511628211 % 18446744073709551616) * 14886173955864302971 % 18446744073709551616 := by rw [h]
  have e : ∀ c : Nat, (c * 1099511628211 % 18446744073709551616) * 14886173955864302971 % 18446744073709551616 = c % 18446744073709551616 := by
    intro c
    rw [Nat.mul_mod, Nat.mod_mod, ← Nat.mul_mod, Nat.mul_assoc, Nat.mul_mod, show 1099511628211 * 14886173955864302971 % 18446744073709551616 = 1 from by decide, Nat.mul_one, Nat.mod_mod]
  rw [e, e, Nat.mod_eq_of_lt ha, Nat.mod_eq_of_lt hb] at h2
  exact h2

theorem xor_lt64 (h : Nat) (x : UInt8) (hh : h < 18446744073709551616) : h ^^^ x.toNat < 18446744073709551616 :=
  Nat.xor_lt_two_pow (n := 64) (by omega) (by have := x.toNat_lt; omega)

theorem xor_cancel {a b c : Nat} (h : a ^^^ c = b ^^^ c) : a = b := by
  have := congrArg (· ^^^ c) h
  simpa [Nat.xor_assoc] using this

theorem hashStep_inj {h h' : Nat} (x : UInt8) (hh : h < 18446744073709551616) (hh' : h' < 18446744073709551616) (e : hashStep h x = hashStep h' x) : h = h' :=
  xor_cancel (mul_odd _ _ (xor_lt64 h x hh) (xor_lt64 h' x hh') e)
theorem hashStep_byte {h : Nat} {x y : UInt8} (hh : h < 18446744073709551616) (e : hashStep h x = hashStep h y) : x = y := by
  have h1 := mul_odd _ _ (xor_lt64 h x hh) (xor_lt64 h y hh) e
  rw [Nat.xor_comm h, Nat.xor_comm h] at h1
  exact UInt8.toNat_inj.1 (xor_cancel h1)
theorem hashFrom_inj {h h' : Nat} (l : List UInt8) (hh : h < 18446744073709551616) (hh' : h' < 18446744073709551616) (e : hashFrom h l = hashFrom h' l) : h = h' := by
  induction l generalizing h h' with
  | nil => exact e
  | cons x l ih => exact hashStep_inj x hh hh' (ih (hashStep_lt _ _) (hashStep_lt _ _) e)
/-- A byte that is turned is seen. -/
theorem hash_turned (pre post : List UInt8) (x y : UInt8) (e : hashB (pre ++ x :: post) = hashB (pre ++ y :: post)) : x = y := by
  unfold hashB hashFrom at e
  rw [List.foldl_append, List.foldl_append, List.foldl_cons, List.foldl_cons] at e
  have hp := hashFrom_lt 14695981039346656037 pre (by omega)
  exact hashStep_byte hp (hashFrom_inj post (hashStep_lt _ _) (hashStep_lt _ _) e)

theorem wordFrom_wordB (x : Nat) (hx : x < 18446744073709551616) : wordFrom 0 (wordB x) = x := by
  unfold wordB wordFrom
  rw [show List.range 8 = [0, 1, 2, 3, 4, 5, 6, 7] from rfl]
  simp only [List.map_cons, List.map_nil, List.foldl_cons, List.foldl_nil, UInt8.toNat_ofNat']
  omega

theorem word_read (x : Nat) (hx : x < 18446744073709551616) (rest : List UInt8) : (RM.mk (wordB x ++ rest) 0).word = (x, ⟨rest, 0⟩) := by
  have h8 := wordB_length x
  unfold RM.word
  rw [if_pos rfl, if_neg (by simp only [List.length_append]; omega)]
  simp only []
  rw [List.take_append_of_le_length (by omega), List.take_of_length_le (by omega), wordFrom_wordB x hx, List.drop_append_of_le_length (by omega), List.drop_eq_nil_of_le (by omega), List.nil_append]

/-- Pairs that rise, each behind a number. -/
def Rising : Nat → List (Nat × Nat) → Prop
  | _, [] => True
  | last, p :: l => last < p.1 ∧ p.1 < 18446744073709551616 ∧ p.2 < 18446744073709551616 ∧ Rising p.1 l

theorem pairsGo_read (l : List (Nat × Nat)) (rest : List UInt8) (last : Nat) (acc : List (Nat × Nat)) (h : Rising last l) : pairsGo l.length ⟨bodyB l ++ rest, 0⟩ last acc = some (acc ++ l, ⟨rest, 0⟩) := by
  induction l generalizing last acc with
  | nil => simp [pairsGo, bodyB]
  | cons p l ih =>
    obtain ⟨h1, h2, h3, h4⟩ := h
    have hb : bodyB (p :: l) ++ rest = wordB p.1 ++ (wordB p.2 ++ (bodyB l ++ rest)) := by unfold bodyB; simp
    show pairsGo (l.length + 1) _ _ _ = _
    unfold pairsGo
    rw [hb, word_read p.1 h2]
    simp only []
    rw [word_read p.2 h3]
    simp only []
    rw [if_neg (by omega), ih p.1 _ h4]
    simp

/-- Whatever is read: what is left behind the pairs is the rest. -/
theorem pairsGo_rest (n : Nat) (bs : List UInt8) (last : Nat) (acc : List (Nat × Nat)) (h : 16 * n ≤ bs.length) : ∀ l r, pairsGo n ⟨bs, 0⟩ last acc = some (l, r) → r = ⟨bs.drop (16 * n), 0⟩ := by
  induction n generalizing bs last acc with
  | zero => intro l r e; simp [pairsGo] at e; simp [e.2.symm]
  | succ n ih =>
    intro l r e
    unfold pairsGo at e
    have hw1 : (RM.mk bs 0).word.2 = ⟨bs.drop 8, 0⟩ := by unfold RM.word; rw [if_pos rfl, if_neg (by simp only []; omega)]
    have hw2 : (RM.mk (bs.drop 8) 0).word.2 = ⟨bs.drop 16, 0⟩ := by unfold RM.word; rw [if_pos rfl, if_neg (by simp only [List.length_drop]; omega)]; simp [List.drop_drop]
    rw [hw1, hw2] at e
    split at e
    · cases e
    · rw [ih (bs.drop 16) _ _ (by rw [List.length_drop]; omega) l r e, List.drop_drop]
      congr 2
      omega

theorem numFrom_uint (x : Nat) (rest : List UInt8) : ∀ (i acc : Nat), i ≤ 8 → x < 2 ^ (7 * (9 - i)) → (0 < i → 0 < x) → numFrom i acc (uintB x ++ rest) = (acc + x * 2 ^ (7 * i), i + (uintB x).length, 0) := by
  induction x using Nat.strongRecOn with
  | _ x ih =>
    intro i acc hi hx hpos
    by_cases h : x < 128
    · rw [uintB_small h]
      have hc : (UInt8.ofNat x).toNat = x := by rw [UInt8.toNat_ofNat']; omega
      simp only [List.cons_append, List.nil_append, List.length_cons, List.length_nil]
      unfold numFrom
      rw [hc, if_neg (by omega), if_pos h, Nat.mod_eq_of_lt h]
    · rw [uintB_big h]
      have hc : (UInt8.ofNat (x % 128 + 128)).toNat = x % 128 + 128 := by rw [UInt8.toNat_ofNat']; omega
      simp only [List.cons_append, List.length_cons]
      unfold numFrom
      rw [hc, if_neg (by omega), if_neg (by omega)]
      have hi7 : i ≤ 7 := by
        apply Classical.byContradiction
        intro hn
        obtain rfl : i = 8 := by omega
        simp at hx; omega
      have hP : 2 ^ (7 * (9 - i)) = 2 ^ (7 * (9 - (i + 1))) * 128 := by rw [show 7 * (9 - i) = 7 * (9 - (i + 1)) + 7 from by omega, Nat.pow_add]
      rw [ih (x / 128) (by omega) (i + 1) _ (by omega) (by rw [Nat.div_lt_iff_lt_mul (by omega)]; omega) (by omega)]
      have hP2 : 2 ^ (7 * (i + 1)) = 128 * 2 ^ (7 * i) := by rw [Nat.mul_add, Nat.pow_add]; omega
      have hx2 : x = x % 128 + 128 * (x / 128) := by omega
      refine Prod.ext ?_ (Prod.ext ?_ rfl)
      · simp only []
        rw [hP2, show (x % 128 + 128) % 128 = x % 128 from by omega, ← Nat.mul_assoc, Nat.add_assoc, ← Nat.add_mul, Nat.mul_comm (x / 128) 128, ← hx2]
      · simp only []; omega

theorem uint_read (x : Nat) (rest : List UInt8) (hx : x < 9223372036854775808) : (RM.mk (uintB x ++ rest) 0).uint = (x, ⟨rest, 0⟩) := by
  have h := numFrom_uint x rest 0 0 (by omega) (by simpa using hx) (by omega)
  simp only [Nat.mul_zero, Nat.pow_zero, Nat.mul_one, Nat.zero_add] at h
  unfold RM.uint numB
  rw [if_pos rfl]
  simp only []
  rw [h]
  simp only [if_true]
  rw [List.drop_append_of_le_length (Nat.le_refl _), List.drop_length, List.nil_append]

theorem pairsOf_bytesOf (l : List (Nat × Nat)) (h : Rising 0 l) (hl : l.length ≤ 65536) : pairsOf (bytesOf l) = (l, true) := by
  have hb : bytesOf l = uintB l.length ++ (bodyB l ++ wordB (hashB (bytesHead l))) := by unfold bytesOf bytesHead; simp
  have hu := uint_read l.length (bodyB l ++ wordB (hashB (bytesHead l))) (by omega)
  unfold pairsOf
  rw [hb, hu]
  simp only []
  rw [if_neg (by rw [List.length_append, bodyB_length, wordB_length]; omega), pairsGo_read l _ 0 [] h]
  unfold pairsEnd
  simp only [List.nil_append]
  have hw : (RM.mk (wordB (hashB (bytesHead l))) 0).word = (hashB (bytesHead l), ⟨[], 0⟩) := by
    have := word_read (hashB (bytesHead l)) (hashB_lt _) []
    rwa [List.append_nil] at this
  rw [hw]
  have hT : (uintB l.length ++ (bodyB l ++ wordB (hashB (bytesHead l)))).take ((uintB l.length ++ (bodyB l ++ wordB (hashB (bytesHead l)))).length - 8) = bytesHead l := by
    have e : uintB l.length ++ (bodyB l ++ wordB (hashB (bytesHead l))) = bytesHead l ++ wordB (hashB (bytesHead l)) := by unfold bytesHead; simp
    rw [e, List.length_append, wordB_length, Nat.add_sub_cancel, List.take_append_of_le_length (Nat.le_refl _), List.take_length]
  rw [hT]
  simp [RM.stop]
end Go.Proofs.Ytinmjgaaehdicaa
