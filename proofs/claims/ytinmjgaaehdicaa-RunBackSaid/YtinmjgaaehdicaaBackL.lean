/- The plain law of RunBack. -/
import Derived.Test.YtinmjgaaehdicaaMerge
import Derived.Test.YtinmjgaaehdicaaSrc
namespace Go.Proofs.Ytinmjgaaehdicaa
open Go.RowKit Go.ChangeMaps Go.MapKept

theorem sortedR_key (l : List (Nat × Nat)) (x : Nat) : (sortedR l).find? (fun p => decide (p.1 = x)) = l.find? (fun p => decide (p.1 = x)) := by
  obtain ⟨h1, h2⟩ := sortedR_mem l [] List.Pairwise.nil
  change (sortedR l).Pairwise _ at h1
  change ∀ p, p ∈ sortedR l ↔ _ at h2
  simp only [List.nil_append] at h2
  cases hf : l.find? (fun p => decide (p.1 = x)) with
  | none =>
    refine List.find?_eq_none.2 (fun p hp hx => ?_)
    have := List.mem_of_find?_eq_some ((h2 p).1 hp)
    exact List.find?_eq_none.1 hf p this hx
  | some p =>
    have hpx : p.1 = x := by simpa using List.find?_some hf
    have hp : p ∈ sortedR l := (h2 p).2 (by rw [hpx]; exact hf)
    cases hg : (sortedR l).find? (fun p => decide (p.1 = x)) with
    | none => exact absurd (by simpa using hpx) (List.find?_eq_none.1 hg p hp)
    | some q =>
      have hqx : q.1 = x := by simpa using List.find?_some hg
      have hq := (h2 q).1 (List.mem_of_find?_eq_some hg)
      rw [hqx, hf] at hq
      exact hq.symm
theorem findIn_sorted (l : List (Nat × Nat)) (x : Nat) : findIn (sortedR l) x = findIn l x := by
  unfold findIn
  rw [sortedR_key]
theorem sortedR_strict (l : List (Nat × Nat)) : (sortedR l).Pairwise (fun x y => x.1 < y.1) := (sortedR_mem l [] List.Pairwise.nil).1
theorem sortedR_mem' (l : List (Nat × Nat)) (p : Nat × Nat) : p ∈ sortedR l ↔ l.find? (fun q => decide (q.1 = p.1)) = some p := by
  have := (sortedR_mem l [] List.Pairwise.nil).2 p
  rw [List.nil_append] at this
  exact this
theorem sortedR_same {l : List (Nat × Nat)} (h : l.Pairwise (fun x y => x.1 < y.1)) : sortedR l = l := by
  refine strict_ext (sortedR_strict l) h (fun p => ?_)
  have := (sortedR_mem [] l h).2 p
  rw [List.append_nil, List.foldl_nil] at this
  rw [sortedR_mem', this]
theorem sortedR_parts (l m : List (Nat × Nat)) : sortedR (sortedR l ++ m) = sortedR (l ++ m) := by
  refine strict_ext (sortedR_strict _) (sortedR_strict _) (fun p => ?_)
  rw [sortedR_mem', sortedR_mem', List.find?_append, List.find?_append, sortedR_key]
theorem sortedR_rising {l : List (Nat × Nat)} (h : ∀ p ∈ l, 0 < p.1 ∧ p.1 < 18446744073709551616 ∧ p.2 < 18446744073709551616) : Rising 0 (sortedR l) :=
  Rising.of_strict (sortedR_strict l) (fun p hp => h p (List.mem_of_find?_eq_some ((sortedR_mem' l p).1 hp)))

def findFirst (x : Nat) : List (List (Nat × Nat)) → Nat × Int
  | [] => (0, 4)
  | l :: ls => if (findIn l x).2 = 0 then findIn l x else findFirst x ls
theorem findIn_append (l m : List (Nat × Nat)) (x : Nat) : findIn (l ++ m) x = if (findIn l x).2 = 0 then findIn l x else findIn m x := by
  unfold findIn
  rw [List.find?_append]
  cases l.find? (fun p => decide (p.1 = x)) <;> simp
theorem findIn_nil (x : Nat) : findIn [] x = (0, 4) := rfl
theorem findFirst_three (A B C : List (Nat × Nat)) (x : Nat) : findIn (sortedR (A ++ B ++ C)) x = findFirst x [A, B, C] := by
  rw [findIn_sorted, List.append_assoc, findIn_append, findIn_append]
  show _ = if (findIn A x).2 = 0 then findIn A x else if (findIn B x).2 = 0 then findIn B x else if (findIn C x).2 = 0 then findIn C x else (0, 4)
  have : findIn C x = if (findIn C x).2 = 0 then findIn C x else (0, 4) := by
    have := findIn_append C [] x
    rwa [List.append_nil, findIn_nil] at this
  rw [← this]
theorem findIn_err (l : List (Nat × Nat)) (x : Nat) : (findIn l x).2 = 0 ∨ findIn l x = (0, 4) := by
  unfold findIn
  split
  · exact .inl rfl
  · exact .inr rfl

theorem makeOf_rising {A : List (Nat × Nat)} (h : Rising 0 A) (hl : A.length ≤ 65536) : makeOf A = (bytesOf A, 0) := by
  obtain ⟨hs, hb⟩ := h.strict
  have hn : (A.map (·.1)).Nodup := by
    unfold List.Nodup
    rw [List.pairwise_map]
    exact hs.imp (fun h => Nat.ne_of_lt h)
  unfold makeOf
  rw [if_neg (by omega), if_neg (fun ⟨p, hp, e⟩ => by have := (hb p hp).1; omega), if_neg (by simpa using hn), (sorted_eq (l := A) (l' := A) (List.Perm.refl _) hs).2.symm]

structure BackS (A B C AB ABC : List (Nat × Nat)) : Prop where
  make : makeOf A = (bytesOf A, 0)
  one : mergeOf [bytesOf A] = (bytesOf A, 0)
  two : mergeOf [bytesOf A, bytesOf B] = (bytesOf AB, 0)
  three : mergeOf [bytesOf A, bytesOf B, bytesOf C] = (bytesOf ABC, 0)
  parts : mergeOf [bytesOf AB, bytesOf C] = (bytesOf ABC, 0)
  pA : pairsOf (bytesOf A) = (A, true)
  pB : pairsOf (bytesOf B) = (B, true)
  pC : pairsOf (bytesOf C) = (C, true)
  pAB : pairsOf (bytesOf AB) = (AB, true)
  pABC : pairsOf (bytesOf ABC) = (ABC, true)
  lAB : AB.length ≤ 200
  lABC : ABC.length ≤ 200
theorem back_spec {A B C : List (Nat × Nat)} (hA : Rising 0 A) (hB : Rising 0 B) (hC : Rising 0 C) (lA : A.length ≤ 60) (lB : B.length ≤ 60) (lC : C.length ≤ 60) : BackS A B C (sortedR (A ++ B)) (sortedR (A ++ B ++ C)) := by
  obtain ⟨sA, bA⟩ := hA.strict
  obtain ⟨sB, bB⟩ := hB.strict
  obtain ⟨sC, bC⟩ := hC.strict
  have pA := pairsOf_bytesOf A hA (by omega)
  have pB := pairsOf_bytesOf B hB (by omega)
  have pC := pairsOf_bytesOf C hC (by omega)
  have l2 : (sortedR (A ++ B)).length ≤ 120 := by have := sortedR_length (A ++ B); rw [List.length_append] at this; omega
  have l3 : (sortedR (A ++ B ++ C)).length ≤ 180 := by have := sortedR_length (A ++ B ++ C); rw [List.length_append, List.length_append] at this; omega
  have pAB := pairsOf_bytesOf (sortedR (A ++ B)) (sortedR_rising (fun p hp => by
    rcases List.mem_append.1 hp with h | h
    · exact bA p h
    · exact bB p h)) (by omega)
  have pABC := pairsOf_bytesOf (sortedR (A ++ B ++ C)) (sortedR_rising (fun p hp => by
    rcases List.mem_append.1 hp with h | h
    · rcases List.mem_append.1 h with h | h
      · exact bA p h
      · exact bB p h
    · exact bC p h)) (by omega)
  refine ⟨makeOf_rising hA (by omega), ?_, ?_, ?_, ?_, pA, pB, pC, pAB, pABC, by omega, by omega⟩
  · have e1 : allOk [bytesOf A] = true := by simp [allOk, pA]
    have e2 : allP [bytesOf A] = A := by simp [allP, pA]
    unfold mergeOf
    rw [if_pos e1, e2, sortedR_same sA, if_neg (by omega)]
  · have e1 : allOk [bytesOf A, bytesOf B] = true := by simp [allOk, pA, pB]
    have e2 : allP [bytesOf A, bytesOf B] = A ++ B := by simp [allP, pA, pB]
    unfold mergeOf
    rw [if_pos e1, e2, if_neg (by omega)]
  · have e1 : allOk [bytesOf A, bytesOf B, bytesOf C] = true := by simp [allOk, pA, pB, pC]
    have e2 : allP [bytesOf A, bytesOf B, bytesOf C] = A ++ B ++ C := by simp [allP, pA, pB, pC]
    unfold mergeOf
    rw [if_pos e1, e2, if_neg (by omega)]
  · have e1 : allOk [bytesOf (sortedR (A ++ B)), bytesOf C] = true := by simp [allOk, pAB, pC]
    have e2 : allP [bytesOf (sortedR (A ++ B)), bytesOf C] = sortedR (A ++ B) ++ C := by simp [allP, pAB, pC]
    unfold mergeOf
    rw [if_pos e1, e2, sortedR_parts, if_neg (by omega)]

/-- What the walk asks. -/
structure BackB (A : List (Nat × Nat)) (Ls : List (List (Nat × Nat))) (bA bB bC bAB bABC : List UInt8) (x : Nat) : Prop where
  make : makeOf A = (bA, 0)
  one : mergeOf [bA] = (bA, 0)
  two : mergeOf [bA, bB] = (bAB, 0)
  three : mergeOf [bA, bB, bC] = (bABC, 0)
  parts : mergeOf [bAB, bC] = (bABC, 0)
  each : eachOf bA = A
  pairs : (pairsOf bA).1.length = A.length
  n : Ls.length = 3
  find : ∀ (i : Nat) (b : List UInt8) (l : List (Nat × Nat)), [bA, bB, bC][i]? = some b → Ls[i]? = some l → findOf b x = findIn l x
  all : findOf bABC x = findFirst x Ls
  len : bA.length ≤ 100000 ∧ bB.length ≤ 100000 ∧ bC.length ≤ 100000 ∧ bAB.length ≤ 100000 ∧ bABC.length ≤ 100000
  bnd : ∀ p ∈ A, p.1 < 18446744073709551616 ∧ p.2 < 18446744073709551616
theorem bytesOf_200 {l : List (Nat × Nat)} (h : l.length ≤ 200) : (bytesOf l).length ≤ 100000 := by
  have := uintB_len l.length 3 (by omega) (by omega)
  unfold bytesOf bytesHead
  rw [List.length_append, List.length_append, bodyB_length, wordB_length]
  omega
theorem back_b {A B C : List (Nat × Nat)} (hA : Rising 0 A) (hB : Rising 0 B) (hC : Rising 0 C) (lA : A.length ≤ 60) (lB : B.length ≤ 60) (lC : C.length ≤ 60) (x : Nat) : ∃ bAB bABC, BackB A [A, B, C] (bytesOf A) (bytesOf B) (bytesOf C) bAB bABC x := by
  have h := back_spec hA hB hC lA lB lC
  have hf : ∀ l, pairsOf (bytesOf l) = (l, true) → findOf (bytesOf l) x = findIn l x := fun l hl => by unfold findOf; rw [hl]; rfl
  refine ⟨_, _, h.make, h.one, h.two, h.three, h.parts, by unfold eachOf; rw [h.pA]; rfl, by rw [h.pA], rfl, ?_, by rw [hf _ h.pABC, findFirst_three], ⟨bytesOf_200 (by omega), bytesOf_200 (by omega), bytesOf_200 (by omega), bytesOf_200 h.lAB, bytesOf_200 h.lABC⟩, fun p hp => (hA.strict.2 p hp).2⟩
  intro i b l hb hl
  match i with
  | 0 => cases hb; cases hl; exact hf _ h.pA
  | 1 => cases hb; cases hl; exact hf _ h.pB
  | 2 => cases hb; cases hl; exact hf _ h.pC
  | i + 3 => simp at hb

/-- New memory with slices of bytes. -/
theorem rows_new (W : World) (T : TypeId) (us : List Value) (bss : List (List UInt8)) (hl : us.length = bss.length) (hn : bss.length ≤ 1000) (h : ∀ (i : Nat) (u : Value) (bs : List UInt8), us[i]? = some u → bss[i]? = some bs → IsB W u bs) :
    RowsAt IsB (W.alloc (.cells us.toArray T)) (.slice (some ⟨W.heap.size, 0, none⟩) bss.length bss.length) bss := by
  have hk : Kept (fun _ => False) W (W.alloc (.cells us.toArray T)) := (Kept.refl _ _).alloc _
  refine ⟨_, _, rfl, Nat.le_refl _, by unfold maxLen; omega, fun i bs hi => ?_⟩
  have hil := (List.getElem?_eq_some_iff.1 hi).1
  have hu : us[i]? = some us[i] := List.getElem?_eq_getElem (by omega)
  refine ⟨W.heap.size, 0, us[i], rfl, ?_, (h i _ bs hu hi).keptF hk (fun _ _ f => f)⟩
  rw [World.cell?_alloc_new, Nat.zero_add]
  simp
theorem merge_new (W : World) (us : List Value) (bss : List (List UInt8)) (r : List UInt8) (n : Nat) (hn : bss.length = n) (hl : us.length = bss.length) (h3 : n ≤ 3) (h : ∀ (i : Nat) (u : Value) (bs : List UInt8), us[i]? = some u → bss[i]? = some bs → IsB W u bs) (hb : ∀ bs ∈ bss, bs.length ≤ 100000) (hm : mergeOf bss = (r, 0)) :
    Calls Try.prog 42 #[.slice (some ⟨W.heap.size, 0, none⟩) n n] (W.alloc (.cells us.toArray 22)) fun e w' => ∃ v, e = .returned (.tuple #[v, .int .i64 0]) ∧ FreshB W v r w' := by
  subst hn
  have hr := rows_new W 22 us bss hl (by omega) h
  have hk : Kept (fun _ => False) W (W.alloc (.cells us.toArray 22)) := (Kept.refl _ _).alloc _
  have hL : (allP bss).length ≤ 65536 * bss.length := by
    clear hm hr h hl hb h3
    induction bss with
    | nil => simp [allP]
    | cons b l ih =>
      have e : allP (b :: l) = (pairsOf b).1 ++ allP l := by simp [allP]
      have : (pairsOf b).1.length ≤ 65536 := pairsOf_len b
      rw [e, List.length_append, List.length_cons]
      omega
  refine (merge_any _ _ bss hr (fun b hbb => by have := hb b hbb; omega) (by omega)).mono ?_
  rintro e w' ⟨v, rfl, hf⟩
  rw [hm] at hf ⊢
  exact ⟨v, rfl, hf.after hk⟩
/-- One pair more, and where the row lies then. -/
theorem OwnP.push2 {b : Nat} {w : World} {v : Value} {l : List (Nat × Nat)} (h : OwnP b w v l) (hk0 : b ≤ w.heap.size) (a : Addr) (p : Nat × Nat) (h0 : w.cell? a = some (.int .u64 p.1)) (h1 : w.cell? (a.add 1) = some (.int .u64 p.2)) (hl : l.length + 1 ≤ 1000000000000) :
    ∃ v' w', (Builtin.append_ #[54, 54] 54 #[v, .slice (some a) 1 1]).run Try.prog w = .ok v' w' ∧ OwnP b w' v' (l ++ [p]) ∧ w.grownBy w' v.ownBlock ∧ (v'.ownBlock = v.ownBlock ∨ v'.ownBlock = some w.heap.size) := by
  obtain ⟨i0, hi, hz0, hz1, hz2⟩ := info_parts Try.info75
  obtain ⟨v', w', hrun, ho2, hg2, -, hb2⟩ := run_append_own_at (P := Try.prog) w b 54 54 75 i0 _ 2 16 Try.underlying54 hi hz0 hz1 hz2 rfl (by decide) _ _ _ h a 1 1 (encP p) rfl (by
    intro j u hu
    match j, hu with
    | 0, hu => cases hu; exact h0
    | 1, hu => cases hu; exact h1
    | j + 2, hu => simp [encP] at hu) (by intro u hu; simp [encP] at hu; rcases hu with rfl | rfl <;> rfl) (by unfold maxLen; omega) (by omega) hk0
  refine ⟨v', w', hrun, ?_, hg2, hb2⟩
  unfold OwnP
  rw [flatP_append, List.length_append, show flatP [p] = encP p from by simp [flatP]]
  exact ho2
end Go.Proofs.Ytinmjgaaehdicaa
