/- run: pairs that are read rise. -/
import Derived.Test.YtemilbemdlpkaaaGreatDoorPaw
import Derived.Test.YtemilbemdlpkaaaGreatDoorPbc
namespace Go.Proofs.YtemilbemdlpkaaaGreatDoor
open Go.RowKit Go.Shelf Go.Lib

theorem pairsGo_rising (n : Nat) (r : RM) (last : Nat) (acc : List (Nat × Nat)) : ∀ l r', pairsGo n r last acc = some (l, r') → ∃ l2, l = acc ++ l2 ∧ l2.length = n ∧ Rising last l2 := by
  induction n generalizing r last acc with
  | zero => intro l r' h; simp [pairsGo] at h; exact ⟨[], by simp [h.1], rfl, trivial⟩
  | succ n ih =>
    intro l r' h
    unfold pairsGo at h
    split at h
    · cases h
    · obtain ⟨l2, rfl, h1, h2⟩ := ih _ _ _ l r' h
      exact ⟨(r.word.1, r.word.2.word.1) :: l2, by simp, by simp [h1], by omega, r.word_lt, r.word.2.word_lt, h2⟩
theorem pairsOf_rising (bs : List UInt8) (h : (pairsOf bs).2 = true) : Rising 0 (pairsOf bs).1 ∧ (pairsOf bs).1.length ≤ 65536 := by
  unfold pairsOf at *
  split at h
  · cases h
  · rename_i hc
    rw [if_neg hc]
    obtain ⟨q, hq⟩ : ∃ q, pairsGo (RM.mk bs 0).uint.1 (RM.mk bs 0).uint.2 0 [] = q := ⟨_, rfl⟩
    rw [hq] at h ⊢
    cases q with
    | none => cases h
    | some q =>
      obtain ⟨l, r⟩ := q
      obtain ⟨l2, rfl, h1, h2⟩ := pairsGo_rising _ _ _ _ l r hq
      simp only [pairsEnd]
      exact ⟨h2, by omega⟩

theorem Rising.strict {l : List (Nat × Nat)} {last : Nat} (h : Rising last l) : l.Pairwise (fun x y => x.1 < y.1) ∧ ∀ p ∈ l, last < p.1 ∧ p.1 < 18446744073709551616 ∧ p.2 < 18446744073709551616 := by
  induction l generalizing last with
  | nil => exact ⟨List.Pairwise.nil, fun p hp => by simp at hp⟩
  | cons q l ih =>
    obtain ⟨h1, h2, h3, h4⟩ := h
    obtain ⟨i1, i2⟩ := ih h4
    refine ⟨List.Pairwise.cons (fun p hp => (i2 p hp).1) i1, fun p hp => ?_⟩
    rcases List.mem_cons.1 hp with rfl | hp
    · exact ⟨h1, h2, h3⟩
    · have := i2 p hp
      exact ⟨by omega, this.2⟩
theorem Rising.of_strict {l : List (Nat × Nat)} {last : Nat} (h : l.Pairwise (fun x y => x.1 < y.1)) (hb : ∀ p ∈ l, last < p.1 ∧ p.1 < 18446744073709551616 ∧ p.2 < 18446744073709551616) : Rising last l := by
  induction l generalizing last with
  | nil => trivial
  | cons q l ih =>
    obtain ⟨h1, h2⟩ := List.pairwise_cons.1 h
    have hq := hb q (by simp)
    exact ⟨hq.1, hq.2.1, hq.2.2, ih h2 (fun p hp => ⟨h1 p hp, (hb p (by simp [hp])).2⟩)⟩
end Go.Proofs.YtemilbemdlpkaaaGreatDoor

/- run: a byte that is turned, less or more (the plain law). -/
namespace Go.Proofs.YtemilbemdlpkaaaGreatDoor

theorem wordFrom_inj (xs ys : List UInt8) (a b : Nat) (hl : xs.length = ys.length) (h8 : xs.length ≤ 8) (ha : a < 256 ^ (8 - xs.length)) (hb : b < 256 ^ (8 - xs.length)) (h : wordFrom a xs = wordFrom b ys) : a = b ∧ xs = ys := by
  induction xs generalizing ys a b with
  | nil =>
    cases ys with
    | nil => exact ⟨h, rfl⟩
    | cons y ys => simp at hl
  | cons x xs ih =>
    cases ys with
    | nil => simp at hl
    | cons y ys =>
      have hx := x.toNat_lt
      have hy := y.toNat_lt
      simp only [List.length_cons] at h8 ha hb hl
      have hP : 256 ^ (8 - xs.length) = 256 ^ (8 - (xs.length + 1)) * 256 := by rw [← Nat.pow_succ]; congr 1; omega
      have hQ : 256 ^ (8 - xs.length) ≤ 256 ^ 8 := Nat.pow_le_pow_right (by omega) (by omega)
      have hQ2 : (256 : Nat) ^ 8 = 18446744073709551616 := by decide
      have ea : a * 256 % 18446744073709551616 = a * 256 := Nat.mod_eq_of_lt (by omega)
      have eb : b * 256 % 18446744073709551616 = b * 256 := Nat.mod_eq_of_lt (by omega)
      obtain ⟨h1, rfl⟩ := ih ys (a * 256 % 18446744073709551616 + x.toNat) (b * 256 % 18446744073709551616 + y.toNat) (by omega) (by omega) (by omega) (by omega) h
      rw [ea, eb] at h1
      exact ⟨by omega, by rw [UInt8.toNat_inj.1 (show x.toNat = y.toNat by omega)]⟩

theorem pairsOf_byte (n : Nat) (hn : n < 128) (rest : List UInt8) : pairsOf (UInt8.ofNat n :: rest) = if rest.length ≠ 16 * n + 8 then ([], false) else pairsEnd (UInt8.ofNat n :: rest) (pairsGo n ⟨rest, 0⟩ 0 []) := by
  have hu := uint_read n rest (by omega)
  rw [uintB_small hn] at hu
  simp only [List.cons_append, List.nil_append] at hu
  unfold pairsOf
  rw [hu]
  simp only []
  by_cases h : rest.length ≠ 16 * n + 8
  · rw [if_pos (.inr h), if_pos h]
  · rw [if_neg (by omega), if_neg h]

/-- What a run that is whole has at its end. -/
theorem pairsOf_ends (n : Nat) (hn : n < 128) (rest : List UInt8) (h : (pairsOf (UInt8.ofNat n :: rest)).2 = true) : rest.length = 16 * n + 8 ∧ wordFrom 0 (rest.drop (16 * n)) = hashB (UInt8.ofNat n :: rest.take (16 * n)) := by
  rw [pairsOf_byte n hn] at h
  split at h
  · cases h
  · rename_i hl
    have hl : rest.length = 16 * n + 8 := by omega
    refine ⟨hl, ?_⟩
    obtain ⟨q, hq⟩ : ∃ q, pairsGo n ⟨rest, 0⟩ 0 [] = q := ⟨_, rfl⟩
    rw [hq] at h
    cases q with
    | none => cases h
    | some q =>
      obtain ⟨l', r⟩ := q
      have hr := pairsGo_rest n rest 0 [] (by omega) l' r hq
      subst hr
      unfold pairsEnd at h
      simp only [Bool.and_eq_true, decide_eq_true_eq] at h
      have h1 := h.1
      have h8 : (rest.drop (16 * n)).length = 8 := by rw [List.length_drop]; omega
      unfold RM.word at h1
      rw [if_pos rfl, if_neg (by simp only []; omega)] at h1
      simp only [] at h1
      rw [List.take_of_length_le (by omega)] at h1
      rw [h1]
      congr 1
      have : (UInt8.ofNat n :: rest).length - 8 = 16 * n + 1 := by simp only [List.length_cons]; omega
      rw [this, List.take_succ_cons]

theorem bytesOf_short (l : List (Nat × Nat)) (hl : l.length < 128) : bytesOf l = UInt8.ofNat l.length :: (bodyB l ++ wordB (hashB (UInt8.ofNat l.length :: bodyB l))) := by
  unfold bytesOf bytesHead
  rw [uintB_small hl]
  simp
theorem bytesOf_length (l : List (Nat × Nat)) (hl : l.length < 128) : (bytesOf l).length = 16 * l.length + 9 := by
  rw [bytesOf_short l hl]
  simp only [List.length_cons, List.length_append, bodyB_length, wordB_length]

/-- A byte less. -/
theorem pairsOf_less (l : List (Nat × Nat)) (hl : l.length < 128) : (pairsOf ((bytesOf l).take ((bytesOf l).length - 1))).2 = false := by
  have hL := bytesOf_length l hl
  rw [hL, bytesOf_short l hl, show 16 * l.length + 9 - 1 = (16 * l.length + 7) + 1 from by omega, List.take_succ_cons, pairsOf_byte _ hl, if_pos]
  rw [List.length_take, List.length_append, bodyB_length, wordB_length]
  omega
/-- A byte more. -/
theorem pairsOf_more (l : List (Nat × Nat)) (hl : l.length < 128) (x : UInt8) : (pairsOf (bytesOf l ++ [x])).2 = false := by
  rw [bytesOf_short l hl, List.cons_append, pairsOf_byte _ hl, if_pos]
  simp only [List.length_append, bodyB_length, wordB_length, List.length_cons, List.length_nil]
  omega

/-- A byte that is turned, behind the first. -/
theorem pairsOf_turned (l : List (Nat × Nat)) (hl : l.length < 128) (k : Nat) (hk0 : 0 < k) (hk : k < (bytesOf l).length) (x : UInt8) (hx : (bytesOf l)[k] ≠ x) : (pairsOf ((bytesOf l).set k x)).2 = false := by
  have hL := bytesOf_length l hl
  have hB : bytesOf l = UInt8.ofNat l.length :: (bodyB l ++ wordB (hashB (UInt8.ofNat l.length :: bodyB l))) := bytesOf_short l hl
  generalize hb : bytesOf l = b at *
  subst hB
  cases k with
  | zero => omega
  | succ k =>
    simp only [List.set_cons_succ, List.getElem_cons_succ] at hx ⊢
    cases hq : (pairsOf (UInt8.ofNat l.length :: (bodyB l ++ wordB (hashB (UInt8.ofNat l.length :: bodyB l))).set k x)).2 with
    | false => rfl
    | true =>
      exfalso
      obtain ⟨-, h⟩ := pairsOf_ends _ hl _ hq
      have hbl := bodyB_length l
      have hk2 : k < 16 * l.length + 8 := by omega
      by_cases hkb : k < 16 * l.length
      · rw [List.set_append_left _ _ (by omega), List.drop_append_of_le_length (by simp; omega), List.drop_eq_nil_of_le (by simp; omega), List.nil_append, wordFrom_wordB _ (hashB_lt _), List.take_append_of_le_length (by simp; omega), List.take_of_length_le (by simp; omega)] at h
        rw [List.getElem_append_left (by omega)] at hx
        have e1 : bodyB l = (bodyB l).take k ++ (bodyB l)[k] :: (bodyB l).drop (k + 1) := by
          rw [← List.drop_eq_getElem_cons (by omega), List.take_append_drop]
        have e2 : (bodyB l).set k x = (bodyB l).take k ++ x :: (bodyB l).drop (k + 1) := List.set_eq_take_append_cons_drop ▸ by rw [if_pos (by omega)]
        rw [e2] at h
        conv at h => lhs; rw [e1]
        exact hx (hash_turned (UInt8.ofNat l.length :: (bodyB l).take k) ((bodyB l).drop (k + 1)) _ _ h)
      · rw [List.set_append_right _ _ (by omega), List.drop_append_of_le_length (by omega), List.drop_eq_nil_of_le (by omega), List.nil_append, List.take_append_of_le_length (by omega), List.take_of_length_le (by omega)] at h
        rw [List.getElem_append_right (by omega)] at hx
        have h1 := wordFrom_wordB (hashB (UInt8.ofNat l.length :: bodyB l)) (hashB_lt _)
        have h2 := (wordFrom_inj _ _ 0 0 (by simp) (by simp [wordB_length]) (by simp [wordB_length]) (by simp [wordB_length]) (h.trans h1.symm)).2
        apply hx
        have h3 := congrArg (fun z => z[k - (bodyB l).length]?) h2
        have hlt : k - (bodyB l).length < (wordB (hashB (UInt8.ofNat l.length :: bodyB l))).length := by rw [wordB_length]; omega
        rw [List.getElem?_set_self hlt, List.getElem?_eq_getElem hlt] at h3
        exact (Option.some.inj h3).symm
end Go.Proofs.YtemilbemdlpkaaaGreatDoor

/- run: what more than one law of it uses. -/
namespace Go.Proofs.YtemilbemdlpkaaaGreatDoor
open Go.RowKit Go.Shelf

theorem make_wakes : Hid (makeOf [(7, 0), (3, 9)] = (bytesOf [(3, 9), (7, 0)], 0)) := Lib.hid (by
  obtain ⟨h1, h2⟩ := sorted_eq (l := [(7, 0), (3, 9)]) (l' := [(3, 9), (7, 0)]) (List.Perm.swap _ _ _) (by simp)
  unfold makeOf
  rw [if_neg (by simp), if_neg (by simp), if_neg (by simp), ← h2])
theorem rising_wakes : Rising 0 [(3, 9), (7, 0)] := ⟨by omega, by omega, by omega, by omega, by omega, by omega, trivial⟩
theorem check_wakes : checkOf (bytesOf [(3, 9), (7, 0)]) = (2, 0) := by
  unfold checkOf
  rw [pairsOf_bytesOf _ rising_wakes (by simp)]
  rfl
theorem length_wakes : (bytesOf [(3, 9), (7, 0)]).length ≤ 1000 := by rw [bytesOf_length _ (by simp)]; simp

theorem IsP.take {w : World} {a : Option Addr} {c : Nat} {l : List (Nat × Nat)} (h : IsP w (.slice a l.length c) l) (k : Nat) : IsP w (.slice a (min l.length k) c) (l.take k) := by
  obtain ⟨a', c', he, h1, h2, h3, h4⟩ := h
  cases he
  refine ⟨a, c, by rw [List.length_take, Nat.min_comm], by rw [List.length_take]; omega, h2, fun p hp => h3 p (List.mem_of_mem_take hp), ?_⟩
  rcases h4 with rfl | ⟨g, o, rfl, hg, hc⟩
  · left; simp
  · right
    refine ⟨g, o, rfl, hg, fun i x hx => hc i x ?_⟩
    have e : flatP l = flatP (l.take k) ++ flatP (l.drop k) := by rw [← flatP_append, List.take_append_drop]
    rw [e, List.getElem?_append_left (List.getElem?_eq_some_iff.1 hx).1]
    exact hx
theorem IsP.kept {w w' : World} {v : Value} {l : List (Nat × Nat)} (h : IsP w v l) (hk : Kept (fun _ => False) w w') : IsP w' v l := by
  obtain ⟨a, c, rfl, h1, h2, h3, h4⟩ := h
  refine ⟨a, c, rfl, h1, h2, h3, ?_⟩
  rcases h4 with h4 | ⟨g, o, rfl, hg, hc⟩
  · exact .inl h4
  · exact .inr ⟨g, o, rfl, Nat.lt_of_lt_of_le hg hk.size, fun i x hx => hk.cell (hc i x hx) (fun f => f)⟩
/-- Pairs behind a row of our own. -/
theorem OwnP.app {b : Nat} {w : World} {v : Value} {l : List (Nat × Nat)} (h : OwnP b w v l) (hk0 : b ≤ w.heap.size) {a : Option Addr} {n c : Nat} {m : List (Nat × Nat)} (hm : IsP w (.slice a n c) m) (hl : l.length + m.length ≤ 1000000000000) :
    ∃ v' w', (Builtin.append_ #[22, 22] 22 #[v, .slice a n c]).run Tryz.prog w = .ok v' w' ∧ OwnP b w' v' (l ++ m) ∧ Kept (fun k => b ≤ k) w w' ∧ Kept (fun k => v.ownBlock = some k) w w' := by
  obtain ⟨i0, hi, hz0, hz1, hz2⟩ := info_parts Tryz.info68
  obtain ⟨a', c', he, h1, h2, h3, h4⟩ := hm
  cases he
  rcases h4 with rfl | ⟨g, o, rfl, hg, hc⟩
  · obtain ⟨va, vc, rfl, hv1, hv2⟩ := h.form
    exact ⟨_, w, run_append_none _ _ _ i0 Tryz.underlying22 hi va l.length vc hv1 a c w, by simpa using h, Kept.refl _ _, Kept.refl _ _⟩
  · obtain ⟨v', w', hrun, ho2, hg2, -, hb2⟩ := run_append_own_at (P := Tryz.prog) w b 22 22 68 i0 _ 2 16 Tryz.underlying22 hi hz0 hz1 hz2 rfl (by decide) _ _ _ h ⟨g, o, none⟩ m.length c (flatP m) (flatP_length m) (fun j u hu => by rw [addr_add]; exact hc j u hu) (by
      intro u hu
      simp only [flatP, List.mem_flatMap] at hu
      obtain ⟨p, -, hu⟩ := hu
      simp [encP] at hu; rcases hu with rfl | rfl <;> rfl) (by unfold maxLen; omega) (by omega) hk0
    refine ⟨v', w', hrun, ?_, Kept.grown (F := fun k => b ≤ k) (Kept.refl _ _) hg2 (fun k hk _ => (World.ownsRow.lt h k hk).1), Kept.grown (F := fun k => v.ownBlock = some k) (Kept.refl _ _) hg2 (fun k hk _ => hk)⟩
    unfold OwnP
    rw [flatP_append, List.length_append]
    exact ho2
theorem NewB.appAny {w0 w : World} {v : Value} {bs ys : List UInt8} (h : NewB w0 w v bs) (hk0 : w0.heap.size ≤ w.heap.size) {a : Option Addr} {n c : Nat} (hy : IsB w (.slice a n c) ys) (hl : bs.length + ys.length ≤ 140737488355328) :
    ∃ v' w', (Builtin.append_ #[25, 25] 25 #[v, .slice a n c]).run Tryz.prog w = .ok v' w' ∧ NewB w0 w' v' (bs ++ ys) ∧ Kept (fun k => w0.heap.size ≤ k) w w' ∧ Kept (fun k => v.ownBlock = some k) w w' := by
  by_cases hne : ys = []
  · subst hne
    obtain ⟨i0, hi, hz0, hz1, hz2⟩ := info_parts Tryz.info5
    obtain ⟨a', c', he, h1, h2, h3⟩ := hy
    cases he
    obtain ⟨va, vc, rfl, hv1, hv2⟩ := h.form
    exact ⟨_, w, run_append_none _ _ _ i0 Tryz.underlying25 hi va bs.length vc hv1 a c w, by simpa using h, Kept.refl _ _, Kept.refl _ _⟩
  · exact h.app hk0 hy hne hl
theorem makeOf_cases (m : List (Nat × Nat)) (hl : m.length ≤ 65536) (hb : ∀ p ∈ m, p.1 < 18446744073709551616 ∧ p.2 < 18446744073709551616) :
    (∃ k : Int, k ≠ 0 ∧ makeOf m = ([], k)) ∨ ∃ s, Rising 0 s ∧ s.length = m.length ∧ makeOf m = (bytesOf s, 0) := by
  unfold makeOf
  rw [if_neg (by omega)]
  by_cases h0 : ∃ p ∈ m, p.1 = 0
  · rw [if_pos h0]; exact .inl ⟨2, by omega, rfl⟩
  · rw [if_neg h0]
    by_cases h1 : (m.map (·.1)).Nodup
    · rw [if_neg (by simpa using h1)]
      have hp := sortedP_perm m
      have hs := strict_of (sortedP_le m) ((hp.map _).nodup_iff.2 h1)
      refine .inr ⟨sortedP m, Rising.of_strict hs (fun p hpm => ?_), hp.length_eq, rfl⟩
      have hpm' := hp.mem_iff.1 hpm
      exact ⟨Nat.pos_of_ne_zero (fun e => h0 ⟨p, hpm', e⟩), hb p hpm'⟩
    · rw [if_pos h1]; exact .inl ⟨5, by omega, rfl⟩

theorem emptyP (w : World) : OwnP w.heap.size (w.alloc (.cells #[] 68)) (.slice (some ⟨w.heap.size, 0, none⟩) 0 0) [] :=
  ⟨rfl, .inr ⟨w.heap.size, 0, #[], rfl, Nat.le_refl _, World.alloc_heap_new _ _, Nat.le_refl _, by simp [maxLen], rfl, rfl⟩⟩
theorem emptyB (w : World) : NewB w (w.alloc (.cells #[] 5)) (.slice (some ⟨w.heap.size, 0, none⟩) 0 0) [] :=
  ⟨rfl, .inr ⟨w.heap.size, 0, #[], rfl, Nat.le_refl _, World.alloc_heap_new _ _, Nat.le_refl _, by simp [maxLen], rfl, rfl⟩⟩

theorem NewB.cellAt {w0 w : World} {g c : Nat} {n : Nat} {bs : List UInt8} (h : NewB w0 w (.slice (some ⟨g, 0, .none⟩) n c) bs) (k : Nat) (hk : k < bs.length) : w.cell? ⟨g, k, .none⟩ = some (.int .u8 (bs[k].toNat : Int)) := by
  rcases h.2 with ⟨e, -⟩ | ⟨g', c', cur, e, hb, hg, hn, hm, hs, ht⟩
  · cases e
  · cases e
    rw [cell_of_row w g k cur 5 (0, 0) hg]
    have h1 : (bytesV bs)[k]? = some (.int .u8 (bs[k].toNat : Int)) := by simp [bytesV, hk]
    rw [← ht, List.getElem?_take, if_pos (by omega)] at h1
    simpa using h1
theorem NewB.set {w0 w : World} {g c n : Nat} {bs : List UInt8} (h : NewB w0 w (.slice (some ⟨g, 0, .none⟩) n c) bs) (k : Nat) (y : UInt8) : NewB w0 (w.setCell ⟨g, k, .none⟩ (.int .u8 (y.toNat : Int))) (.slice (some ⟨g, 0, .none⟩) n c) (bs.set k y) := by
  obtain ⟨h1, h2⟩ := h
  refine ⟨by simp, ?_⟩
  rcases h2 with ⟨e, -⟩ | ⟨g', c', cur, e, hb, hg, hn, hm, hs, ht⟩
  · cases e
  · cases e
    refine .inr ⟨g, c, cur.setIfInBounds k (.int .u8 (y.toNat : Int)), by simp, hb, heap_setCell_row hg _, by simpa using hn, hm, by simpa using hs, ?_⟩
    simp only [Array.toList_setIfInBounds, List.length_set]
    rw [List.take_set, ht]
    simp [bytesV, List.map_set]
theorem check_is {w : World} {a : Option Addr} {n c : Nat} {bs : List UInt8} (h : IsB w (.slice a n c) bs) (hlen : bs.length ≤ 100000000000000) :
    Calls Tryz.prog 95 #[.slice a n c] w fun e w' => e = .returned (.tuple #[.int .i64 (checkOf bs).1, .int .i64 (checkOf bs).2]) ∧ Kept (fun _ => False) w w' := by
  obtain rfl : n = bs.length := by obtain ⟨_, _, e, _⟩ := h; cases e; rfl
  exact check_any w a c bs h hlen
theorem checkOf_ok {bs : List UInt8} (h : (pairsOf bs).2 = true) : ∃ k : Int, checkOf bs = (k, 0) := by unfold checkOf; rw [if_pos h]; exact ⟨_, rfl⟩
theorem checkOf_no {bs : List UInt8} (h : (pairsOf bs).2 = false) : checkOf bs = (0, 8) := by unfold checkOf; rw [if_neg (by simp [h])]
end Go.Proofs.YtemilbemdlpkaaaGreatDoor
