/- octet and journal: the plain model of a text that is read, of a journal's file. -/
import Derived.Test.YtemilbemdlpkaaaGreatDoorGah
import Derived.Test.YtemilbemdlpkaaaGreatDoorGad
namespace Go.Proofs.YtemilbemdlpkaaaGreatDoor
theorem nodup_of_map {α β : Type} (f : α → β) : ∀ {l : List α}, (l.map f).Nodup → l.Nodup
  | [], _ => List.nodup_nil
  | x :: l, h => by
    rw [List.map_cons, List.nodup_cons] at h
    exact List.nodup_cons.2 ⟨fun hm => h.1 (List.mem_map_of_mem hm), nodup_of_map f h.2⟩

section
variable {α β : Type} [DecidableEq α]
theorem getA_cons (k : α) (p : α × β) (l : List (α × β)) : getA k (p :: l) = if p.1 = k then some p.2 else getA k l := rfl
theorem mem_iff_getA {l : List (α × β)} (h : NodupA l) (k : α) (v : β) : (k, v) ∈ l ↔ getA k l = some v := ⟨getA_of_mem h, getA_mem⟩
theorem perm_of_get {l l' : List (α × β)} (h : NodupA l) (h' : NodupA l') (hg : ∀ k, getA k l = getA k l') : l.Perm l' := by
  refine (List.perm_ext_iff_of_nodup (nodup_of_map _ h) (nodup_of_map _ h')).2 ?_
  rintro ⟨k, v⟩
  rw [mem_iff_getA h, mem_iff_getA h', hg]
omit [DecidableEq α] in
theorem NodupA.perm {l l' : List (α × β)} (h : NodupA l) (hp : l.Perm l') : NodupA l' := (hp.map _).nodup_iff.1 h
theorem get_of_perm {l l' : List (α × β)} (h : NodupA l) (hp : l.Perm l') (k : α) : getA k l = getA k l' := by
  have h' := h.perm hp
  cases hg : getA k l' with
  | some v => exact (mem_iff_getA h k v).1 (hp.mem_iff.2 ((mem_iff_getA h' k v).2 hg))
  | none =>
    cases hg2 : getA k l with
    | none => rfl
    | some v =>
      have := (mem_iff_getA h' k v).1 (hp.mem_iff.1 ((mem_iff_getA h k v).2 hg2))
      rw [hg] at this; cases this
theorem getA_of_not_mem {l : List (α × β)} {k : α} (h : k ∉ l.map (·.1)) : getA k l = none := by
  cases hg : getA k l with
  | none => rfl
  | some v => exact absurd (List.mem_map.2 ⟨_, getA_mem hg, rfl⟩) h
theorem mem_of_getA {l : List (α × β)} {k : α} {v : β} (h : getA k l = some v) : k ∈ l.map (·.1) := List.mem_map.2 ⟨_, getA_mem h, rfl⟩
theorem getA_append (k : α) (l l' : List (α × β)) : getA k (l ++ l') = match getA k l with | some v => some v | none => getA k l' := by
  induction l with
  | nil => rfl
  | cons p l ih =>
    rw [List.cons_append, getA_cons, getA_cons]
    by_cases h : p.1 = k
    · rw [if_pos h, if_pos h]
    · rw [if_neg h, if_neg h]; exact ih
end

theorem strB_data (s : ByteArray) : strB s.data.toList = s := by unfold strB; simp

theorem numFrom_uintB (n : Nat) : ∀ (x i a : Nat) (rest : List UInt8), x < 2 ^ (7 * n) → 0 < n → i + n ≤ 9 → (0 < i → 0 < x) → numFrom i a (uintB x ++ rest) = (a + x * 2 ^ (7 * i), i + (uintB x).length, 0) := by
  induction n with
  | zero => intro x i a rest _ h; omega
  | succ n ih =>
    intro x i a rest hx _ hi h0
    by_cases hs : x < 128
    · rw [uintB_small hs]
      have ht : (UInt8.ofNat x).toNat = x := by simp; omega
      rw [List.cons_append, List.nil_append]
      unfold numFrom
      rw [ht, if_neg (by omega), if_pos hs, Nat.mod_eq_of_lt hs]
      rfl
    · rw [uintB_big hs]
      have ht : (UInt8.ofNat (x % 128 + 128)).toNat = x % 128 + 128 := by simp; omega
      have hn0 : 0 < n := by
        rcases Nat.eq_zero_or_pos n with rfl | h1
        · simp at hx; omega
        · exact h1
      rw [List.cons_append]
      unfold numFrom
      rw [ht, if_neg (by omega), if_neg (by omega), ih (x / 128) (i + 1) _ rest (by rw [Nat.div_lt_iff_lt_mul (by omega), show 2 ^ (7 * n) * 128 = 2 ^ (7 * (n + 1)) from by rw [Nat.mul_add, Nat.pow_add]]; exact hx) hn0 (by omega) (fun _ => by omega)]
      have e1 : 2 ^ (7 * (i + 1)) = 128 * 2 ^ (7 * i) := by rw [Nat.mul_add, Nat.pow_add, Nat.mul_comm]
      have e2 : x * 2 ^ (7 * i) = (128 * (x / 128) + x % 128) * 2 ^ (7 * i) := by rw [Nat.div_add_mod]
      have e3 : (x % 128 + 128) % 128 = x % 128 := by omega
      have e4 : (128 * (x / 128)) * 2 ^ (7 * i) = x / 128 * (128 * 2 ^ (7 * i)) := by rw [Nat.mul_comm 128 (x / 128), Nat.mul_assoc]
      rw [e1, e2, e3, Nat.add_mul, e4, List.length_cons]
      simp only [Prod.mk.injEq, and_true]
      constructor <;> omega
theorem numB_uintB (x : Nat) (hx : x < 9223372036854775808) (rest : List UInt8) : numB (uintB x ++ rest) = (x, (uintB x).length, 0) := by
  have h := numFrom_uintB 9 x 0 0 rest (by omega) (by omega) (by omega) (by omega)
  unfold numB
  rw [h]
  simp
theorem numFrom_short (n : Nat) : ∀ (x i a : Nat) (q : List UInt8), x < 2 ^ (7 * n) → 0 < n → i + n ≤ 9 → q <+: uintB x → q.length < (uintB x).length → numFrom i a q = (0, 0, 110) := by
  induction n with
  | zero => intro x i a q _ h; omega
  | succ n ih =>
    intro x i a q hx _ hi hp hl
    cases q with
    | nil => rfl
    | cons c q =>
      by_cases hs : x < 128
      · rw [uintB_small hs] at hl; simp at hl
      · rw [uintB_big hs] at hp hl
        have ht : (UInt8.ofNat (x % 128 + 128)).toNat = x % 128 + 128 := by simp; omega
        have hn0 : 0 < n := by
          rcases Nat.eq_zero_or_pos n with rfl | h1
          · simp at hx; omega
          · exact h1
        obtain ⟨rfl, hp2⟩ := List.cons_prefix_cons.1 hp
        unfold numFrom
        rw [ht, if_neg (by omega), if_neg (by omega)]
        exact ih (x / 128) (i + 1) _ q (by rw [Nat.div_lt_iff_lt_mul (by omega), show 2 ^ (7 * n) * 128 = 2 ^ (7 * (n + 1)) from by rw [Nat.mul_add, Nat.pow_add]]; exact hx) hn0 (by omega) hp2 (by simpa using hl)
theorem numB_short (x : Nat) (hx : x < 9223372036854775808) (q : List UInt8) (hp : q <+: uintB x) (hl : q.length < (uintB x).length) : numB q = (0, 0, 110) :=
  numFrom_short 9 x 0 0 q (by omega) (by omega) (by omega) hp hl

/-- The next text. -/
def RM.text (r : RM) (most : Nat) : ByteArray × RM :=
  if r.err = 0 then
    (if (numB r.bs).2.2 = 0 then
      (if most < (numB r.bs).1 then (⟨#[]⟩, { r with err := 3 })
       else if r.bs.length - (numB r.bs).2.1 < (numB r.bs).1 then (⟨#[]⟩, { r with err := 110 })
       else (strB ((r.bs.drop (numB r.bs).2.1).take (numB r.bs).1), { r with bs := (r.bs.drop (numB r.bs).2.1).drop (numB r.bs).1 }))
     else (⟨#[]⟩, { r with err := (numB r.bs).2.2 }))
  else (⟨#[]⟩, r)
theorem wordB_len8 (x : Nat) : (wordB x).length = 8 := by simp [wordB]
theorem wordFrom_of_wordB (x : Nat) (hx : x < 18446744073709551616) : wordFrom 0 (wordB x) = x := by
  unfold wordB wordFrom
  rw [show List.range 8 = [0, 1, 2, 3, 4, 5, 6, 7] from rfl]
  simp only [List.map_cons, List.map_nil, List.foldl_cons, List.foldl_nil, UInt8.toNat_ofNat']
  omega
theorem RM.word_at (x : Nat) (hx : x < 18446744073709551616) (rest : List UInt8) : (RM.mk (wordB x ++ rest) 0).word = (x, ⟨rest, 0⟩) := by
  have h8 := wordB_len8 x
  unfold RM.word
  rw [if_pos rfl, if_neg (by simp only [List.length_append]; omega)]
  simp only []
  rw [List.take_append_of_le_length (by omega), List.take_of_length_le (by omega), wordFrom_of_wordB x hx, List.drop_append_of_le_length (by omega), List.drop_eq_nil_of_le (by omega), List.nil_append]
theorem RM.uint_at (x : Nat) (hx : x < 9223372036854775808) (rest : List UInt8) : (RM.mk (uintB x ++ rest) 0).uint = (x, ⟨rest, 0⟩) := by
  unfold RM.uint
  rw [if_pos rfl]
  simp only []
  rw [numB_uintB x hx, if_pos rfl]
  simp
theorem RM.text_at (s : ByteArray) (most : Nat) (hs : s.size ≤ most) (hm : most < 9223372036854775808) (rest : List UInt8) : (RM.mk (textB s ++ rest) 0).text most = (s, ⟨rest, 0⟩) := by
  have hl := txB_length s
  unfold RM.text textB
  rw [if_pos rfl]
  simp only []
  rw [List.append_assoc, numB_uintB s.size (by omega), if_pos rfl, if_neg (by omega)]
  simp only [List.length_append, List.drop_left]
  rw [if_neg (by omega), List.take_append_of_le_length (by omega), List.take_of_length_le (by omega), List.drop_append_of_le_length (by omega), List.drop_eq_nil_of_le (by omega), List.nil_append]
  simp [txB]; exact strB_data s
theorem RM.word_err (r : RM) (h : r.err ≠ 0) : r.word = (0, r) := by unfold RM.word; rw [if_neg h]
theorem RM.text_err (r : RM) (h : r.err ≠ 0) (most : Nat) : r.text most = (⟨#[]⟩, r) := by unfold RM.text; rw [if_neg h]
theorem RM.word_len (r : RM) : r.word.2.bs.length ≤ r.bs.length := by
  unfold RM.word
  split
  · split
    · exact Nat.le_refl _
    · simp
  · exact Nat.le_refl _
theorem RM.text_len (r : RM) (most : Nat) : (r.text most).2.bs.length + (r.text most).1.size ≤ r.bs.length ∧ ((r.text most).2.err = 0 → r.err = 0 ∧ (r.text most).2.bs.length < r.bs.length ∧ (r.text most).1.size ≤ most) := by
  have hnum := numFrom_le 0 0 r.bs
  rw [show numFrom 0 0 r.bs = numB r.bs from rfl] at hnum
  obtain ⟨n1, n2⟩ := hnum
  unfold RM.text
  by_cases he : r.err = 0
  · rw [if_pos he]
    by_cases h2 : (numB r.bs).2.2 = 0
    · rw [if_pos h2]
      have n3 := n2 h2
      split
      · exact ⟨by simp [ByteArray.size], fun h => (by cases h)⟩
      · split
        · exact ⟨by simp [ByteArray.size], fun h => (by cases h)⟩
        · simp only [strB_size, List.length_drop, List.length_take]
          exact ⟨by omega, fun _ => ⟨he, by omega, by omega⟩⟩
    · rw [if_neg h2]
      exact ⟨by simp [ByteArray.size], fun h => absurd h h2⟩
  · rw [if_neg he]
    exact ⟨by simp [ByteArray.size], fun h => absurd h he⟩

/-! ### a journal's file -/
def jGo : Nat → List UInt8 → List (List UInt8) → Nat → Option (List (List UInt8) × Nat)
  | 0, _, recs, sz => some (recs, sz)
  | f + 1, bs, recs, sz =>
    if bs = [] then some (recs, sz)
    else if ((RM.mk bs 0).text 262144).2.word.2.err = 110 then some (recs, sz)
    else if ((RM.mk bs 0).text 262144).2.word.2.err ≠ 0 ∨ ((RM.mk bs 0).text 262144).2.word.1 ≠ hashB (txB ((RM.mk bs 0).text 262144).1) then none
    else jGo f ((RM.mk bs 0).text 262144).2.word.2.bs (recs ++ [txB ((RM.mk bs 0).text 262144).1]) (sz + (bs.length - ((RM.mk bs 0).text 262144).2.word.2.bs.length))
def jOpen (bs : List UInt8) : Option (List (List UInt8) × Nat) := jGo bs.length bs [] 0
theorem jGo_nil (f : Nat) (recs : List (List UInt8)) (sz : Nat) : jGo f [] recs sz = some (recs, sz) := by cases f <;> simp [jGo]
theorem recB_ne (p : List UInt8) : recB p ≠ [] := by
  intro h
  have : (wordB (hashB p)).length = 8 := wordB_len8 _
  unfold recB at h
  rw [List.append_eq_nil_iff] at h
  rw [h.2] at this
  cases this
theorem jGo_rec (f : Nat) (p rest : List UInt8) (hp : p.length ≤ 262144) (recs : List (List UInt8)) (sz : Nat) : jGo (f + 1) (recB p ++ rest) recs sz = jGo f rest (recs ++ [p]) (sz + (recB p).length) := by
  have hb := recB_ne p
  unfold jGo
  rw [if_neg (by simp [hb])]
  have e1 : recB p ++ rest = textB (strB p) ++ (wordB (hashB p) ++ rest) := by unfold recB; rw [List.append_assoc]
  have e2 : (recB p ++ rest).length - rest.length = (recB p).length := by simp
  rw [e1, RM.text_at (strB p) 262144 (by rw [strB_size]; exact hp) (by omega), RM.word_at (hashB p) (hashB_lt p)]
  simp only []
  rw [if_neg (by simp), if_neg (by simp [txB_strB]), txB_strB, ← e1, e2]
  cases f with
  | zero => simp [jGo]
  | succ f => rfl
theorem jGo_part (f : Nat) (p q : List UInt8) (hp : p.length ≤ 262144) (hq : q <+: recB p) (hl : q.length < (recB p).length) (recs : List (List UInt8)) (sz : Nat) : jGo f q recs sz = some (recs, sz) := by
  cases f with
  | zero => rfl
  | succ f =>
    unfold jGo
    by_cases hn : q = []
    · rw [if_pos hn]
    rw [if_neg hn]
    have key : ((RM.mk q 0).text 262144).2.word.2.err = 110 := by
      rw [recB_eq] at hq hl
      by_cases h1 : q.length < (uintB p.length).length
      · have hq1 : q <+: uintB p.length := List.prefix_of_prefix_length_le hq ⟨p ++ wordB (hashB p), by simp⟩ (by omega)
        have e := numB_short p.length (by omega) q hq1 h1
        have : (RM.mk q 0).text 262144 = (⟨#[]⟩, ⟨q, 110⟩) := by
          unfold RM.text
          rw [if_pos rfl]
          simp only []
          rw [e]
          simp
        rw [this]
        rfl
      · obtain ⟨q1, rfl⟩ : ∃ q1, q = uintB p.length ++ q1 := by
          obtain ⟨t, ht⟩ := List.prefix_of_prefix_length_le (l₁ := uintB p.length) (l₂ := q) ⟨p ++ wordB (hashB p), by simp⟩ hq (by omega)
          exact ⟨t, ht.symm⟩
        rw [List.append_assoc] at hq
        have hq1 := (List.prefix_append_right_inj _).1 hq
        have e := numB_uintB p.length (by omega) q1
        by_cases h2 : q1.length < p.length
        · have : (RM.mk (uintB p.length ++ q1) 0).text 262144 = (⟨#[]⟩, ⟨uintB p.length ++ q1, 110⟩) := by
            unfold RM.text
            rw [if_pos rfl]
            simp only []
            rw [e]
            simp only [if_true]
            rw [if_neg (by omega), if_pos (by simp only [List.length_append]; omega)]
          rw [this]
          rfl
        · obtain ⟨q2, rfl⟩ : ∃ q2, q1 = p ++ q2 := by
            obtain ⟨t, ht⟩ := List.prefix_of_prefix_length_le (l₁ := p) (l₂ := q1) ⟨wordB (hashB p), rfl⟩ hq1 (by omega)
            exact ⟨t, ht.symm⟩
          have h8 : q2.length < 8 := by
            have := wordB_len8 (hashB p)
            simp only [List.length_append] at hl
            omega
          have e3 : uintB p.length ++ (p ++ q2) = textB (strB p) ++ q2 := by unfold textB; rw [strB_size, txB_strB, List.append_assoc]
          rw [e3, RM.text_at (strB p) 262144 (by rw [strB_size]; exact hp) (by omega)]
          unfold RM.word
          simp [h8]
    rw [if_pos key]
theorem jGo_all (p q : List UInt8) (hp : p.length ≤ 262144) (hq : q <+: recB p) (hl : q.length < (recB p).length) : ∀ (l : List (List UInt8)) (f : Nat) (recs : List (List UInt8)) (sz : Nat), (∀ x ∈ l, x.length ≤ 262144) → l.length ≤ f → jGo f ((l.map recB).flatten ++ q) recs sz = some (recs ++ l, sz + (l.map recB).flatten.length)
  | [], f, recs, sz, _, _ => by simpa using jGo_part f p q hp hq hl recs sz
  | x :: l, f + 1, recs, sz, h, hf => by
    rw [List.map_cons, List.flatten_cons, List.append_assoc, jGo_rec f x _ (h x (by simp)), jGo_all p q hp hq hl l f _ _ (fun y hy => h y (by simp [hy])) (by simpa using hf)]
    simp only [List.append_assoc, List.singleton_append, List.length_append, Option.some.injEq, Prod.mk.injEq, true_and]
    omega
  | x :: l, 0, _, _, _, hf => by simp at hf
theorem recB_flat_len (l : List (List UInt8)) : l.length ≤ (l.map recB).flatten.length := by
  induction l with
  | nil => simp
  | cons x l ih =>
    have := List.length_pos_iff.2 (recB_ne x)
    rw [List.map_cons, List.flatten_cons, List.length_append, List.length_cons]
    omega
theorem jOpen_part (l : List (List UInt8)) (p q : List UInt8) (h : ∀ x ∈ l, x.length ≤ 262144) (hp : p.length ≤ 262144) (hq : q <+: recB p) (hl : q.length < (recB p).length) : jOpen ((l.map recB).flatten ++ q) = some (l, (l.map recB).flatten.length) := by
  unfold jOpen
  rw [jGo_all p q hp hq hl l _ [] 0 h (by have := recB_flat_len l; simp only [List.length_append]; omega)]
  simp
theorem jOpen_whole (l : List (List UInt8)) (h : ∀ x ∈ l, x.length ≤ 262144) : jOpen (l.map recB).flatten = some (l, (l.map recB).flatten.length) := by
  have := jOpen_part l [] [] h (by simp) List.nil_prefix (List.length_pos_iff.2 (recB_ne []))
  rwa [List.append_nil] at this
end Go.Proofs.YtemilbemdlpkaaaGreatDoor
