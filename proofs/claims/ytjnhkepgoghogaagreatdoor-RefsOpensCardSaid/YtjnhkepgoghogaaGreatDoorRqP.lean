/- Refs, the plain law: the document's Open is the program's. -/
import Derived.Test.YtjnhkepgoghogaaGreatDoorRqL
import Derived.Test.YtjnhkepgoghogaaGreatDoorRsE
namespace Go.Proofs.YtjnhkepgoghogaaGreatDoor

/-! ### numbers and words back to their bytes -/
theorem numFrom_canon : ∀ (l : List UInt8) (i a x k : Nat), numFrom i a l = (x, k, 0) → ∃ y, x = a + y * 2 ^ (7 * i) ∧ i < k ∧ l.take (k - i) = uintB y ∧ (0 < i → 0 < y)
  | [], i, a, x, k, h => by simp [numFrom] at h
  | c :: l, i, a, x, k, h => by
    unfold numFrom at h
    by_cases h1 : (i = 9 ∧ 1 < c.toNat) ∨ (0 < i ∧ c.toNat = 0)
    · rw [if_pos h1] at h; simp at h
    rw [if_neg h1] at h
    have hc := c.toNat_lt
    by_cases h2 : c.toNat < 128
    · rw [if_pos h2] at h
      injection h with h3 h4
      injection h4 with h4 _
      subst h3 h4
      refine ⟨c.toNat, by rw [Nat.mod_eq_of_lt h2], by omega, ?_, fun hi => by omega⟩
      rw [show i + 1 - i = 1 by omega, uintB_small h2]
      simp
    · rw [if_neg h2] at h
      obtain ⟨y, hy, hk, ht, hp⟩ := numFrom_canon l (i + 1) _ x k h
      have hy0 := hp (by omega)
      refine ⟨c.toNat % 128 + 128 * y, ?_, by omega, ?_, fun _ => by omega⟩
      · rw [hy, show 7 * (i + 1) = 7 + 7 * i by omega, Nat.pow_add, Nat.add_mul, ← Nat.mul_assoc, Nat.mul_right_comm 128 y, Nat.mul_comm 128 (2 ^ (7 * i)), Nat.add_assoc, show (2 : Nat) ^ 7 = 128 from rfl]
        congr 2
        rw [Nat.mul_comm y 128, Nat.mul_assoc, Nat.mul_comm y, ← Nat.mul_assoc, Nat.mul_comm 128]
      · rw [show k - i = (k - (i + 1)) + 1 by omega, List.take_succ_cons, ht, uintB_big (x := c.toNat % 128 + 128 * y) (by omega)]
        congr 1
        · apply UInt8.toNat_inj.1
          simp
          omega
        · congr 1
          omega
theorem numB_canon {l : List UInt8} {x k : Nat} (h : numB l = (x, k, 0)) : l.take k = uintB x ∧ 0 < k ∧ k ≤ l.length := by
  obtain ⟨y, hy, hk, ht, -⟩ := numFrom_canon l 0 0 x k h
  obtain rfl : x = y := by simpa using hy
  have h2 := (numFrom_le 0 0 l).1
  rw [show numFrom 0 0 l = numB l from rfl, h] at h2
  exact ⟨by simpa using ht, hk, by simpa using h2⟩
theorem wordB_wordFrom : ∀ (l : List UInt8), l.length = 8 → wordB (wordFrom 0 l) = l
  | [a, b, c, d, e, f, g, h], _ => by
    have ha := a.toNat_lt
    have hb := b.toNat_lt
    have hc := c.toNat_lt
    have hd := d.toNat_lt
    have he := e.toNat_lt
    have hf := f.toNat_lt
    have hg := g.toNat_lt
    have hh := h.toNat_lt
    have key : wordFrom 0 [a, b, c, d, e, f, g, h] = (((((((a.toNat * 256 + b.toNat) * 256 + c.toNat) * 256 + d.toNat) * 256 + e.toNat) * 256 + f.toNat) * 256 + g.toNat) * 256 + h.toNat) := by
      unfold wordFrom
      simp only [List.foldl_cons, List.foldl_nil]
      omega
    unfold wordB
    rw [key, show List.range 8 = [0, 1, 2, 3, 4, 5, 6, 7] from rfl]
    simp only [List.map_cons, List.map_nil]
    congr 1
    · apply UInt8.toNat_inj.1; simp <;> omega
    congr 1
    · apply UInt8.toNat_inj.1; simp <;> omega
    congr 1
    · apply UInt8.toNat_inj.1; simp <;> omega
    congr 1
    · apply UInt8.toNat_inj.1; simp <;> omega
    congr 1
    · apply UInt8.toNat_inj.1; simp <;> omega
    congr 1
    · apply UInt8.toNat_inj.1; simp <;> omega
    congr 1
    · apply UInt8.toNat_inj.1; simp <;> omega
    congr 1
    · apply UInt8.toNat_inj.1; simp <;> omega
/-! ### a journal's file -/
/-- The payload that stands ahead in bytes. -/
def payAt (bs : List UInt8) : List UInt8 := (bs.drop (numB bs).2.1).take (numB bs).1
/-- The document's Read. -/
def rfGo : Nat → List UInt8 → List (List UInt8) → Nat → List (List UInt8) × Nat × Bool
  | 0, _, recs, sz => (recs, sz, false)
  | f + 1, bs, recs, sz =>
    if bs = [] then (recs, sz, false)
    else if (numB bs).2.2 = 110 then (recs, sz, false)
    else if (numB bs).2.2 ≠ 0 ∨ 262144 < (numB bs).1 then (recs, sz, true)
    else if bs.length - (numB bs).2.1 < (numB bs).1 + 8 then (recs, sz, false)
    else if recB (payAt bs) ≠ bs.take (recB (payAt bs)).length then (recs, sz, true)
    else rfGo f (bs.drop (recB (payAt bs)).length) (recs ++ [payAt bs]) (sz + (recB (payAt bs)).length)
/-- A whole record's bytes. -/
theorem rec_split {bs : List UInt8} {n k : Nat} (h : numB bs = (n, k, 0)) (hl : k + n + 8 ≤ bs.length) :
    (payAt bs).length = n ∧ (recB (payAt bs)).length = k + n + 8 ∧ (recB (payAt bs) = bs.take (recB (payAt bs)).length ↔ wordFrom 0 ((bs.drop (k + n)).take 8) = hashB (payAt bs)) := by
  obtain ⟨hc, hk, hkl⟩ := numB_canon h
  have hp : payAt bs = (bs.drop k).take n := by unfold payAt; rw [h]
  have hpl : (payAt bs).length = n := by rw [hp, List.length_take, List.length_drop]; omega
  have hkn : (uintB n).length = k := by rw [← hc, List.length_take]; omega
  have hrl : (recB (payAt bs)).length = k + n + 8 := by
    rw [recB_eq, List.length_append, List.length_append, hpl, hkn, wordB_len8]
  refine ⟨hpl, hrl, ?_⟩
  have hsplit : bs.take (k + n + 8) = uintB n ++ payAt bs ++ (bs.drop (k + n)).take 8 := by
    rw [List.take_add, List.take_add, hc, hp]
  have h8 : ((bs.drop (k + n)).take 8).length = 8 := by rw [List.length_take, List.length_drop]; omega
  rw [hrl, hsplit, recB_eq, hpl]
  constructor
  · intro e
    have e2 := List.append_cancel_left e
    rw [← e2]
    exact wordFrom_of_wordB _ (hashB_lt _)
  · intro e
    rw [← e, wordB_wordFrom _ h8]
theorem rfGo_jGo : ∀ (f : Nat) (bs : List UInt8) (recs : List (List UInt8)) (sz : Nat), match jGo f bs recs sz with | some (r, s) => rfGo f bs recs sz = (r, s, false) | none => (rfGo f bs recs sz).2.2 = true
  | 0, _, _, _ => rfl
  | f + 1, bs, recs, sz => by
    unfold jGo rfGo
    by_cases h0 : bs = []
    · rw [if_pos h0, if_pos h0]
    rw [if_neg h0, if_neg h0]
    obtain ⟨⟨n, k, e⟩, hn⟩ : ∃ q, numB bs = q := ⟨_, rfl⟩
    by_cases he : e = 0
    · subst he
      obtain ⟨hc, hk, hkl⟩ := numB_canon hn
      simp only [hn]
      rw [if_neg (show ¬ (0 : Int) = 110 by decide)]
      by_cases hm : 262144 < n
      · have ht : (RM.mk bs 0).text 262144 = (⟨#[]⟩, ⟨bs, 3⟩) := by
          unfold RM.text
          rw [if_pos rfl]
          simp only [hn, if_true]
          rw [if_pos hm]
        rw [ht, RM.word_err _ (by simp)]
        rw [if_neg (by simp), if_pos (by simp)]
        simp only
        rw [if_pos (Or.inr hm)]
      by_cases hs : bs.length - k < n
      · have ht : (RM.mk bs 0).text 262144 = (⟨#[]⟩, ⟨bs, 110⟩) := by
          unfold RM.text
          rw [if_pos rfl]
          simp only [hn, if_true]
          rw [if_neg hm, if_pos hs]
        rw [ht, RM.word_err _ (by simp), if_pos rfl]
        simp only
        rw [if_neg (by simp [hm]), if_pos (by omega)]
      have ht : (RM.mk bs 0).text 262144 = (strB ((bs.drop k).take n), ⟨(bs.drop k).drop n, 0⟩) := by
        unfold RM.text
        rw [if_pos rfl]
        simp only [hn, if_true]
        rw [if_neg hm, if_neg hs]
      have hpay : payAt bs = (bs.drop k).take n := by unfold payAt; rw [hn]
      rw [ht, ← hpay]
      simp only
      by_cases h8 : bs.length - k < n + 8
      · have hw : (RM.mk ((bs.drop k).drop n) 0).word = (0, ⟨(bs.drop k).drop n, 110⟩) := by
          unfold RM.word
          rw [if_pos rfl, if_pos (by simp only [List.length_drop]; omega)]
        rw [hw, if_pos rfl]
        simp only
        rw [if_neg (by simp [hm]), if_pos h8]
      · obtain ⟨hpl, hrl, hiff⟩ := rec_split hn (by omega)
        have hw : (RM.mk ((bs.drop k).drop n) 0).word = (wordFrom 0 ((bs.drop (k + n)).take 8), ⟨(bs.drop (k + n)).drop 8, 0⟩) := by
          unfold RM.word
          rw [if_pos rfl, if_neg (by simp only [List.length_drop]; omega), List.drop_drop]
        rw [hw]
        simp only
        rw [if_neg (show ¬ (0 : Int) = 110 by decide), txB_strB, if_neg (show ¬ ((0 : Int) ≠ 0 ∨ 262144 < n) by simp [hm]), if_neg h8]
        by_cases hx : wordFrom 0 ((bs.drop (k + n)).take 8) = hashB (payAt bs)
        · rw [if_neg (by simp [hx]), if_neg (by simpa using hiff.2 hx), hrl, List.drop_drop]
          have e1 : bs.length - (bs.drop (k + n + 8)).length = k + n + 8 := by rw [List.length_drop]; omega
          rw [e1]
          exact rfGo_jGo f _ _ _
        · rw [if_pos (Or.inr hx), if_pos (fun e => hx (hiff.1 e))]
    · have ht : (RM.mk bs 0).text 262144 = (⟨#[]⟩, ⟨bs, e⟩) := by
        unfold RM.text
        rw [if_pos rfl]
        simp only [hn]
        rw [if_neg he]
      rw [ht, RM.word_err _ (by simpa using he)]
      simp only [hn]
      by_cases h110 : e = 110
      · rw [if_pos h110, if_pos h110]
      · rw [if_neg h110, if_neg h110, if_pos (Or.inl he), if_pos (Or.inl he)]
/-- The document's Read of a file. -/
def rfOf (b : List UInt8) : List (List UInt8) × Nat × Bool := rfGo b.length b [] 0

/-! ### a record -/
/-- A change of the document's read: the name, the id. -/
def chgAt (rest : List UInt8) : ByteArray × Nat := (strB (payAt rest), wordFrom 0 ((rest.drop ((numB rest).2.1 + (numB rest).1)).take 8))
def chgBad (L l : IdsL) (c : ByteArray × Nat) : Prop := c.1 = ⟨#[]⟩ ∨ (pathOf c.1).1 ≠ 0 ∨ (∃ x ∈ l, x.1 = c.1) ∨ (c.2 = 0 ∧ getL c.1 L = 0)
instance (L l : IdsL) (c : ByteArray × Nat) : Decidable (chgBad L l c) := by unfold chgBad; infer_instance
def rdGo (L : IdsL) : Nat → List UInt8 → IdsL → Option (List UInt8 × IdsL)
  | 0, rest, l => some (rest, l)
  | n + 1, rest, l =>
    if (numB rest).2.2 ≠ 0 ∨ 200 < (numB rest).1 ∨ rest.length < (numB rest).2.1 + (numB rest).1 + 8 then none
    else if chgBad L l (chgAt rest) then none
    else rdGo L n (rest.drop ((numB rest).2.1 + (numB rest).1 + 8)) (l ++ [chgAt rest])
def rdEnd (L : IdsL) : Option (List UInt8 × IdsL) → Option IdsL
  | none => none
  | some (rest, l) => if rest = [] ∧ (l.foldl withL L).length ≤ 64 then some (l.foldl withL L) else none
/-- The document's read. -/
def rdR (L : IdsL) (b : List UInt8) : Option IdsL :=
  if (numB b).2.2 ≠ 0 ∨ (numB b).1 = 0 ∨ b.length < (numB b).1 then none else rdEnd L (rdGo L (numB b).1 (b.drop (numB b).2.1) [])
theorem foldl_withL {S : IdsL} (h : NodupA S) : ∀ l : IdsL, l.foldl withL (allOf S) = allOf (layL S l)
  | [] => rfl
  | c :: l => by
    rw [List.foldl_cons, withL_allOf h, foldl_withL (layOne_nodup h c) l]
    rfl
theorem isSome_getA (k : ByteArray) : ∀ l : IdsL, (getA k l).isSome = true ↔ ∃ x ∈ l, x.1 = k
  | [] => by simp [getA]
  | p :: l => by
    rw [getA_cons]
    by_cases h : p.1 = k
    · simp [h]
    · rw [if_neg h, isSome_getA k l]
      simp [h]
theorem rdGo_recGo {S : IdsL} (h : NodupA S) (hz : ∀ p ∈ S, p.2 ≠ 0) : ∀ (n : Nat) (rest : List UInt8) (l : IdsL), recGo S n ⟨rest, 0⟩ l = (rdGo (allOf S) n rest l).map (fun q => (⟨q.1, 0⟩, q.2))
  | 0, rest, l => rfl
  | n + 1, rest, l => by
    unfold recGo rdGo
    obtain ⟨⟨m, k, e⟩, hn⟩ : ∃ q, numB rest = q := ⟨_, rfl⟩
    have hget : ∀ s, getL s (allOf S) = 0 ↔ getA s S = none := fun s => by
      rw [getL_allOf h]
      cases hg : getA s S with
      | none => simp
      | some v => have := hz _ (getA_mem hg); simpa using this
    by_cases he : e = 0
    · subst he
      obtain ⟨hc, hk, hkl⟩ := numB_canon hn
      by_cases hm : 200 < m
      · have ht : (RM.mk rest 0).text 200 = (⟨#[]⟩, ⟨rest, 3⟩) := by
          unfold RM.text
          rw [if_pos rfl]
          simp only [hn, if_true]
          rw [if_pos hm]
        rw [ht, RM.word_err _ (by simp), if_pos (by simp)]
        simp only [hn]
        rw [if_pos (Or.inr (Or.inl hm))]
        rfl
      by_cases hs : rest.length - k < m
      · have ht : (RM.mk rest 0).text 200 = (⟨#[]⟩, ⟨rest, 110⟩) := by
          unfold RM.text
          rw [if_pos rfl]
          simp only [hn, if_true]
          rw [if_neg hm, if_pos hs]
        rw [ht, RM.word_err _ (by simp), if_pos (by simp)]
        simp only [hn]
        rw [if_pos (Or.inr (Or.inr (by omega)))]
        rfl
      have hpay : payAt rest = (rest.drop k).take m := by unfold payAt; rw [hn]
      have ht : (RM.mk rest 0).text 200 = (strB (payAt rest), ⟨(rest.drop k).drop m, 0⟩) := by
        unfold RM.text
        rw [if_pos rfl, hpay]
        simp only [hn, if_true]
        rw [if_neg hm, if_neg hs]
      rw [ht]
      simp only [hn]
      by_cases h8 : rest.length < k + m + 8
      · have hw : (RM.mk ((rest.drop k).drop m) 0).word = (0, ⟨(rest.drop k).drop m, 110⟩) := by
          unfold RM.word
          rw [if_pos rfl, if_pos (by simp only [List.length_drop]; omega)]
        rw [hw, if_pos (by simp), if_pos (Or.inr (Or.inr h8))]
        rfl
      have hw : (RM.mk ((rest.drop k).drop m) 0).word = (wordFrom 0 ((rest.drop (k + m)).take 8), ⟨rest.drop (k + m + 8), 0⟩) := by
        unfold RM.word
        rw [if_pos rfl, if_neg (by simp only [List.length_drop]; omega), List.drop_drop, List.drop_drop]
      have hcg : chgAt rest = (strB (payAt rest), wordFrom 0 ((rest.drop (k + m)).take 8)) := by unfold chgAt; rw [hn]
      rw [hw, if_neg (show ¬ ((0 : Int) ≠ 0 ∨ 200 < m ∨ rest.length < k + m + 8) by simp [hm, h8]), hcg]
      simp only
      generalize strB (payAt rest) = s
      generalize wordFrom 0 ((rest.drop (k + m)).take 8) = id
      have hbad : chgBad (allOf S) l (s, id) ↔ ((0 : Int) ≠ 0 ∨ (getA s l).isSome = true ∨ mayOf s ≠ 0) ∨ (id = 0 ∧ getA s S = none) := by
        unfold chgBad
        simp only
        rw [isSome_getA, hget]
        have hmay : mayOf s ≠ 0 ↔ s = ⟨#[]⟩ ∨ (pathOf s).1 ≠ 0 := by
          unfold mayOf
          by_cases h1 : (pathOf s).1 ≠ 0
          · rw [if_pos h1]; exact ⟨fun _ => .inr h1, fun _ => h1⟩
          · rw [if_neg h1]
            by_cases h2 : s = ⟨#[]⟩
            · rw [if_pos h2]; exact ⟨fun _ => .inl h2, fun _ => by decide⟩
            · rw [if_neg h2]; simp [h2, h1]
        rw [hmay]
        constructor
        · rintro (h1 | h1 | h1 | h1)
          · exact .inl (.inr (.inr (.inl h1)))
          · exact .inl (.inr (.inr (.inr h1)))
          · exact .inl (.inr (.inl h1))
          · exact .inr h1
        · rintro ((h1 | h1 | h1 | h1) | h1)
          · exact absurd rfl h1
          · exact .inr (.inr (.inl h1))
          · exact .inl h1
          · exact .inr (.inl h1)
          · exact .inr (.inr (.inr h1))
      by_cases hb : chgBad (allOf S) l (s, id)
      · rw [if_pos hb]
        rcases hbad.1 hb with h1 | h1
        · rw [if_pos h1]; rfl
        · by_cases h2 : (0 : Int) ≠ 0 ∨ (getA s l).isSome = true ∨ mayOf s ≠ 0
          · rw [if_pos h2]; rfl
          · rw [if_neg h2, if_pos h1]; rfl
      · rw [if_neg hb, if_neg (fun h1 => hb (hbad.2 (.inl h1))), if_neg (fun h1 => hb (hbad.2 (.inr h1)))]
        exact rdGo_recGo h hz n _ _
    · have ht : (RM.mk rest 0).text 200 = (⟨#[]⟩, ⟨rest, e⟩) := by
        unfold RM.text
        rw [if_pos rfl]
        simp only [hn]
        rw [if_neg he]
      rw [ht, RM.word_err _ (by simpa using he), if_pos (Or.inl (by simpa using he))]
      simp only [hn]
      rw [if_pos (Or.inl he)]
      rfl
theorem rdGo_len (L : IdsL) : ∀ (n : Nat) (rest : List UInt8) (l : IdsL) {rest' : List UInt8} {l' : IdsL}, rdGo L n rest l = some (rest', l') → n ≤ rest.length ∧ l'.length = l.length + n
  | 0, rest, l, rest', l', e => by rw [rdGo] at e; cases e; exact ⟨Nat.zero_le _, rfl⟩
  | n + 1, rest, l, rest', l', e => by
    rw [rdGo] at e
    by_cases h1 : (numB rest).2.2 ≠ 0 ∨ 200 < (numB rest).1 ∨ rest.length < (numB rest).2.1 + (numB rest).1 + 8
    · rw [if_pos h1] at e; cases e
    rw [if_neg h1] at e
    by_cases h2 : chgBad L l (chgAt rest)
    · rw [if_pos h2] at e; cases e
    rw [if_neg h2] at e
    obtain ⟨h3, h4⟩ := rdGo_len L n _ _ e
    rw [List.length_drop] at h3
    rw [List.length_append, List.length_singleton] at h4
    have h5 : ¬ rest.length < (numB rest).2.1 + (numB rest).1 + 8 := fun h => h1 (.inr (.inr h))
    exact ⟨by omega, by omega⟩
theorem rdR_recR {S : IdsL} (h : NodupA S) (hz : ∀ p ∈ S, p.2 ≠ 0) (b : List UInt8) : rdR (allOf S) b = (recR S b).map allOf := by
  unfold rdR recR RM.uint
  rw [if_pos rfl]
  obtain ⟨⟨n, k, e⟩, hn⟩ : ∃ q, numB b = q := ⟨_, rfl⟩
  simp only [hn]
  by_cases he : e = 0
  · subst he
    simp only [if_true]
    rw [rdGo_recGo h hz]
    by_cases h0 : n = 0
    · subst h0
      rw [if_pos (Or.inr (Or.inl rfl))]
      simp only [rdGo, Option.map_some, recEnd]
      rw [if_neg (fun e => e.2.1 rfl)]
      rfl
    · cases hg : rdGo (allOf S) n (b.drop k) [] with
      | none =>
        simp only [Option.map_none, recEnd, rdEnd]
        split <;> rfl
      | some q =>
        obtain ⟨rest, l⟩ := q
        obtain ⟨h3, h4⟩ := rdGo_len _ _ _ _ hg
        rw [List.length_drop] at h3
        rw [if_neg (show ¬ ((0 : Int) ≠ 0 ∨ n = 0 ∨ b.length < n) by simp [h0]; omega)]
        simp only [Option.map_some, recEnd, rdEnd]
        rw [foldl_withL h, allOf_length]
        have hl : l ≠ [] := fun e => by rw [e] at h4; simp at h4; omega
        have hst : (RM.mk rest 0).stop = 0 ↔ rest = [] := by
          unfold RM.stop
          rw [if_pos rfl]
          by_cases hr : rest = []
          · simp [hr]
          · simp [hr]
        by_cases hr : rest = [] ∧ (layL S l).length ≤ 64
        · rw [if_pos hr, if_pos ⟨hst.2 hr.1, hl, hr.2⟩]; rfl
        · rw [if_neg hr, if_neg (fun e => hr ⟨hst.1 e.1, e.2.2⟩)]; rfl
  · rw [if_pos (Or.inl he), if_neg he]
    simp only [recGo, recEnd]
    rw [if_neg (fun h => by have := h.1; unfold RM.stop at this; simp only at this; rw [if_neg he] at this; exact he this)]
    rfl
/-- What stands in refs that are read. -/
structure ReadOk (S : IdsL) : Prop where
  nodup : NodupA S
  names : ∀ p ∈ S, mayOf p.1 = 0 ∧ p.2 ≠ 0
  most : S.length ≤ 64
theorem recGo_may {S : IdsL} : ∀ (n : Nat) (r : RM) (met : IdsL) {r' : RM} {met' : IdsL}, (∀ p ∈ met, mayOf p.1 = 0) → recGo S n r met = some (r', met') → ∀ p ∈ met', mayOf p.1 = 0
  | 0, r, met, r', met', h, e => by rw [recGo] at e; cases e; exact h
  | n + 1, r, met, r', met', h, e => by
    rw [recGo] at e
    by_cases h1 : (r.text 200).2.word.2.err ≠ 0 ∨ (getA (r.text 200).1 met).isSome = true ∨ mayOf (r.text 200).1 ≠ 0
    · rw [if_pos h1] at e; cases e
    rw [if_neg h1] at e
    by_cases h2 : (r.text 200).2.word.1 = 0 ∧ getA (r.text 200).1 S = none
    · rw [if_pos h2] at e; cases e
    rw [if_neg h2] at e
    refine recGo_may n _ _ (fun p hp => ?_) e
    rcases List.mem_append.1 hp with hp | hp
    · exact h p hp
    · rw [List.mem_singleton.1 hp]
      by_cases h3 : mayOf (r.text 200).1 = 0
      · exact h3
      · exact absurd (.inr (.inr h3)) h1
theorem ReadOk.next {S T : IdsL} (h : ReadOk S) {b : List UInt8} (hr : recR S b = some T) : ReadOk T := by
  unfold recR at hr
  cases hg : recGo S (RM.mk b 0).uint.1 (RM.mk b 0).uint.2 [] with
  | none => rw [hg] at hr; cases hr
  | some q =>
    obtain ⟨r, met⟩ := q
    rw [hg] at hr
    simp only [recEnd] at hr
    split at hr
    · rename_i hc
      cases hr
      have hn := recGo_nodup _ _ _ (by simp [NodupA]) hg
      have hm := recGo_may _ _ _ (by simp) hg
      refine ⟨layL_nodup h.nodup _, fun p hp => ?_, hc.2.2⟩
      have hgp : getA p.1 (layL S met) = some p.2 := getA_of_mem (layL_nodup h.nodup met) hp
      rw [getA_layL h.nodup hn] at hgp
      cases hq : getA p.1 met with
      | none => rw [hq] at hgp; exact h.names p (getA_mem hgp)
      | some x =>
        rw [hq] at hgp
        simp only at hgp
        split at hgp
        · cases hgp
        · rename_i hx
          cases hgp
          exact ⟨hm _ (getA_mem hq), hx⟩
    · cases hr
theorem ReadOk.replay {recs : List (List UInt8)} : ∀ {S : IdsL}, ReadOk S → (∀ T, List.foldlM recR S recs = some T → ReadOk T) ∧ List.foldlM rdR (allOf S) recs = (List.foldlM recR S recs).map allOf := by
  induction recs with
  | nil => intro S h; exact ⟨fun T e => by cases e; exact h, rfl⟩
  | cons p recs ih =>
    intro S h
    rw [List.foldlM_cons, List.foldlM_cons, rdR_recR h.nodup (fun q hq => (h.names q hq).2)]
    cases hr : recR S p with
    | none => exact ⟨fun T e => (by cases e), rfl⟩
    | some S' => exact ih (h.next hr)
theorem ReadOk.nil : ReadOk [] := ⟨by simp [NodupA], by simp, by simp⟩
/-- The document's Open. -/
def roOf (b : List UInt8) : Option (IdsL × Nat) := if (rfOf b).2.2 = true then none else (List.foldlM rdR [] (rfOf b).1).map (fun L => (L, (rfOf b).2.1))
/-- .. against the program's. -/
theorem roOf_eq (b : List UInt8) : roOf b = match jOpen b with | none => none | some (recs, sz) => (replay recs).map (fun S => (allOf S, sz)) := by
  have h := rfGo_jGo b.length b [] 0
  unfold roOf rfOf jOpen
  cases hj : jGo b.length b [] 0 with
  | none => rw [hj] at h; simp only at h ⊢; rw [if_pos h]
  | some q =>
    obtain ⟨recs, sz⟩ := q
    rw [hj] at h
    simp only at h ⊢
    rw [h, if_neg (by simp)]
    have h2 := (ReadOk.nil.replay (recs := recs)).2
    rw [show allOf [] = [] from List.length_eq_zero_iff.1 (by rw [allOf_length]; rfl)] at h2
    simp only
    rw [h2]
    unfold Proofs.YtjnhkepgoghogaaGreatDoor.replay
    cases List.foldlM recR [] recs <;> rfl
end Go.Proofs.YtjnhkepgoghogaaGreatDoor
