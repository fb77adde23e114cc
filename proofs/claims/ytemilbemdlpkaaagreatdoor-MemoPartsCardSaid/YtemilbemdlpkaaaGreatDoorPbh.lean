/- The plain law of run.Merge: a stable sort with the first of each key is the document's Sorted. -/
import Derived.Test.YtemilbemdlpkaaaGreatDoorPbb
import Derived.Test.YtemilbemdlpkaaaGreatDoorPbg
import Derived.Test.YtemilbemdlpkaaaGreatDoorPbd
import Derived.Test.YtemilbemdlpkaaaGreatDoorPbe
namespace Go.Proofs.YtemilbemdlpkaaaGreatDoor
open Go.RowKit

theorem find_filter (l : List (Nat × Nat)) (k : Nat) : l.find? (fun q => decide (q.1 = k)) = (l.filter (fun q => decide (q.1 = k))).head? := by
  induction l with
  | nil => rfl
  | cons x l ih =>
    by_cases h : x.1 = k
    · rw [List.find?_cons_of_pos (by simpa using h), List.filter_cons_of_pos (by simpa using h)]; rfl
    · rw [List.find?_cons_of_neg (by simpa using h), List.filter_cons_of_neg (by simpa using h), ih]

theorem compactFrom_spec (l : List (Nat × Nat)) : ∀ k, (∀ p ∈ l, k ≤ p.1) → l.Pairwise leP → (compactFrom k l).Pairwise (fun x y => x.1 < y.1) ∧ (∀ p ∈ compactFrom k l, k < p.1) ∧ ∀ p, p ∈ compactFrom k l ↔ p.1 ≠ k ∧ l.find? (fun q => decide (q.1 = p.1)) = some p := by
  induction l with
  | nil => intro k _ _; simp [compactFrom]
  | cons x l ih =>
    intro k hk hs
    obtain ⟨hx, hl⟩ := List.pairwise_cons.1 hs
    unfold compactFrom
    by_cases h : x.1 = k
    · rw [if_pos h]
      obtain ⟨i1, i2, i3⟩ := ih k (fun p hp => hk p (List.mem_cons_of_mem _ hp)) hl
      refine ⟨i1, i2, fun p => ?_⟩
      rw [i3]
      constructor
      · rintro ⟨h1, h2⟩
        exact ⟨h1, by rw [List.find?_cons_of_neg (by simp; omega)]; exact h2⟩
      · rintro ⟨h1, h2⟩
        exact ⟨h1, by rwa [List.find?_cons_of_neg (by simp; omega)] at h2⟩
    · rw [if_neg h]
      have hkx := hk x (List.mem_cons_self)
      obtain ⟨i1, i2, i3⟩ := ih x.1 (fun p hp => hx p hp) hl
      refine ⟨List.pairwise_cons.2 ⟨fun p hp => i2 p hp, i1⟩, fun p hp => ?_, fun p => ?_⟩
      · rcases List.mem_cons.1 hp with rfl | hp
        · omega
        · have := i2 p hp; omega
      · rw [List.mem_cons, i3]
        constructor
        · rintro (rfl | ⟨h1, h2⟩)
          · exact ⟨h, by simp⟩
          · have hm := List.mem_of_find?_eq_some h2
            have := hx p hm
            exact ⟨by simp only [leP] at this; omega, by rw [List.find?_cons_of_neg (by simp; omega)]; exact h2⟩
        · rintro ⟨h1, h2⟩
          by_cases hp : x.1 = p.1
          · rw [List.find?_cons_of_pos (by simpa using hp)] at h2
            exact .inl (Option.some.inj h2).symm
          · exact .inr ⟨fun e => hp e.symm, by rwa [List.find?_cons_of_neg (by simpa using hp)] at h2⟩

theorem compactP_spec (l : List (Nat × Nat)) (hs : l.Pairwise leP) : (compactP l).Pairwise (fun x y => x.1 < y.1) ∧ ∀ p, p ∈ compactP l ↔ l.find? (fun q => decide (q.1 = p.1)) = some p := by
  match l, hs with
  | [], _ => simp [compactP]
  | x :: l, hs =>
    obtain ⟨hx, hl⟩ := List.pairwise_cons.1 hs
    obtain ⟨i1, i2, i3⟩ := compactFrom_spec l x.1 (fun p hp => hx p hp) hl
    unfold compactP
    refine ⟨List.pairwise_cons.2 ⟨fun p hp => i2 p hp, i1⟩, fun p => ?_⟩
    rw [List.mem_cons, i3]
    constructor
    · rintro (rfl | ⟨h1, h2⟩)
      · simp
      · rw [List.find?_cons_of_neg (by simp; omega)]; exact h2
    · intro h2
      by_cases hp : x.1 = p.1
      · rw [List.find?_cons_of_pos (by simpa using hp)] at h2
        exact .inl (Option.some.inj h2).symm
      · exact .inr ⟨fun e => hp e.symm, by rwa [List.find?_cons_of_neg (by simpa using hp)] at h2⟩

theorem sortedR_mem (l : List (Nat × Nat)) : ∀ acc : List (Nat × Nat), acc.Pairwise (fun x y => x.1 < y.1) → (l.foldl putR acc).Pairwise (fun x y => x.1 < y.1) ∧ ∀ p, p ∈ l.foldl putR acc ↔ (acc ++ l).find? (fun q => decide (q.1 = p.1)) = some p := by
  induction l with
  | nil =>
    intro acc hs
    refine ⟨hs, fun p => ?_⟩
    rw [List.append_nil, List.foldl_nil]
    constructor
    · intro hp
      induction acc with
      | nil => simp at hp
      | cons x acc ih =>
        obtain ⟨hx, hl⟩ := List.pairwise_cons.1 hs
        rcases List.mem_cons.1 hp with rfl | hp
        · simp
        · have := hx p hp
          rw [List.find?_cons_of_neg (by simp; omega)]
          exact ih hl hp
    · exact List.mem_of_find?_eq_some
  | cons x l ih =>
    intro acc hs
    rw [List.foldl_cons]
    by_cases hn : ixOf x.1 acc = none
    · obtain ⟨h1, h2⟩ := putR_new hs x hn
      obtain ⟨i1, i2⟩ := ih (putR acc x) h1
      refine ⟨i1, fun p => ?_⟩
      rw [i2, List.find?_append, List.find?_append]
      have hne := (ixOf_none_iff _ _).1 hn
      have : (putR acc x).find? (fun q => decide (q.1 = p.1)) = (acc.find? (fun q => decide (q.1 = p.1))).or ([x].find? (fun q => decide (q.1 = p.1))) := by
        by_cases hx : x.1 = p.1
        · rw [show acc.find? (fun q => decide (q.1 = p.1)) = none from List.find?_eq_none.2 (fun q hq => by have := hne q hq; simp; omega)]
          rw [List.find?_cons_of_pos (by simpa using hx)]
          cases hf : (putR acc x).find? (fun q => decide (q.1 = p.1)) with
          | none => exact absurd (List.find?_eq_none.1 hf x (h2.mem_iff.2 List.mem_cons_self)) (by simpa using hx)
          | some q =>
            have hq := List.mem_of_find?_eq_some hf
            have hqk := List.find?_some hf
            simp only [decide_eq_true_eq] at hqk
            rcases List.mem_cons.1 (h2.mem_iff.1 hq) with rfl | hq
            · rfl
            · exact absurd (hqk.trans hx.symm) (hne q hq)
        · rw [List.find?_cons_of_neg (by simpa using hx), List.find?_nil, Option.or_none]
          cases hf : acc.find? (fun q => decide (q.1 = p.1)) with
          | none =>
            refine List.find?_eq_none.2 (fun q hq => ?_)
            rcases List.mem_cons.1 (h2.mem_iff.1 hq) with rfl | hq
            · simpa using hx
            · exact List.find?_eq_none.1 hf q hq
          | some q =>
            have hq := List.mem_of_find?_eq_some hf
            have hqk := List.find?_some hf
            cases hf2 : (putR acc x).find? (fun q => decide (q.1 = p.1)) with
            | none => exact absurd hqk (List.find?_eq_none.1 hf2 q (h2.mem_iff.2 (List.mem_cons_of_mem _ hq)))
            | some r =>
              have hr := List.mem_of_find?_eq_some hf2
              have hrk := List.find?_some hf2
              simp only [decide_eq_true_eq] at hqk hrk
              rcases List.mem_cons.1 (h2.mem_iff.1 hr) with rfl | hr
              · exact absurd hrk hx
              · congr 1
                obtain ⟨i, hi, rfl⟩ := List.getElem_of_mem hq
                obtain ⟨j, hj, rfl⟩ := List.getElem_of_mem hr
                have hh := List.pairwise_iff_getElem.1 hs
                rcases Nat.lt_trichotomy i j with h | h | h
                · have := hh i j hi hj h; omega
                · subst h; rfl
                · have := hh j i hj hi h; omega
      rw [this, Option.or_assoc, ← List.find?_append, List.singleton_append]
    · have hpe : putR acc x = acc := by unfold putR; rw [if_neg hn]
      rw [hpe]
      obtain ⟨i1, i2⟩ := ih acc hs
      refine ⟨i1, fun p => ?_⟩
      rw [i2, List.find?_append, List.find?_append]
      by_cases hx : x.1 = p.1
      · cases hf : acc.find? (fun q => decide (q.1 = p.1)) with
        | none => exact absurd ((ixOf_none_iff _ _).2 (fun q hq => by have := List.find?_eq_none.1 hf q hq; simp at this; omega)) hn
        | some q => rfl
      · rw [List.find?_cons_of_neg (by simpa using hx)]

theorem strict_ext {A B : List (Nat × Nat)} (hA : A.Pairwise (fun x y => x.1 < y.1)) (hB : B.Pairwise (fun x y => x.1 < y.1)) (h : ∀ p, p ∈ A ↔ p ∈ B) : A = B := by
  induction A generalizing B with
  | nil =>
    cases B with
    | nil => rfl
    | cons y B => exact absurd ((h y).2 List.mem_cons_self) (by simp)
  | cons x A ih =>
    cases B with
    | nil => exact absurd ((h x).1 List.mem_cons_self) (by simp)
    | cons y B =>
      obtain ⟨ha, hA⟩ := List.pairwise_cons.1 hA
      obtain ⟨hb, hB2⟩ := List.pairwise_cons.1 hB
      have hxy : x = y := by
        rcases List.mem_cons.1 ((h x).1 List.mem_cons_self) with e | h1
        · exact e
        · rcases List.mem_cons.1 ((h y).2 List.mem_cons_self) with e | h2
          · exact e.symm
          · have := ha y h2; have := hb x h1; omega
      subst hxy
      refine congrArg _ (ih hA hB2 (fun p => ?_))
      constructor
      · intro hp
        rcases List.mem_cons.1 ((h p).1 (List.mem_cons_of_mem _ hp)) with rfl | h1
        · have := ha p hp; omega
        · exact h1
      · intro hp
        rcases List.mem_cons.1 ((h p).2 (List.mem_cons_of_mem _ hp)) with rfl | h1
        · have := hb p hp; omega
        · exact h1

/-- A stable sort with the first pair of each key is the document's Sorted. -/
theorem compact_sorted {X C : List (Nat × Nat)} (h : StP X C) : compactP C = sortedR X := by
  obtain ⟨h1, h2⟩ := compactP_spec C h.sorted
  obtain ⟨h3, h4⟩ := sortedR_mem X [] List.Pairwise.nil
  refine strict_ext h1 h3 (fun p => ?_)
  have h5 := h4 p
  change p ∈ sortedR X ↔ _ at h5
  rw [h2, h5, List.nil_append, find_filter, find_filter, h.keep]
end Go.Proofs.YtemilbemdlpkaaaGreatDoor

/- Slices whose elements are slices: rows that came in, rows of our own. -/
namespace Go.Proofs.YtemilbemdlpkaaaGreatDoor
open Go.RowKit Go.ChangeMaps Go.MapKept

/-- A slice value whose elements are slices that read as these lists. -/
def RowsAt {α : Type} (I : World → Value → List α → Prop) (w : World) (v : Value) (ls : List (List α)) : Prop :=
  ∃ a c, v = .slice a ls.length c ∧ ls.length ≤ c ∧ c ≤ maxLen ∧ ∀ (i : Nat) (l : List α), ls[i]? = some l → ∃ g o u, a = some ⟨g, o, none⟩ ∧ w.cell? ⟨g, o + i, none⟩ = some u ∧ I w u l
theorem RowsAt.kept {α : Type} {I : World → Value → List α → Prop} {w w' : World} {v : Value} {ls : List (List α)} (h : RowsAt I w v ls) (hk : Kept (fun _ => False) w w') (hI : ∀ u l, I w u l → I w' u l) : RowsAt I w' v ls := by
  obtain ⟨a, c, e, h1, h2, h3⟩ := h
  refine ⟨a, c, e, h1, h2, fun i l hi => ?_⟩
  obtain ⟨g, o, u, e2, h4, h5⟩ := h3 i l hi
  exact ⟨g, o, u, e2, hk.cell h4 (fun f => f), hI u l h5⟩
theorem Tryz.info25 : (Tryz.prog.info? 25).map (fun i => (i.zero, i.size, i.bytes)) = some (some (.slice none 0 0), 1, 24) := by kernel_rfl

/-- Where a slice of bytes lies: in an old block, or in a block of bytes. -/
def BK (n0 : Nat) (w : World) (u : Value) (bs : List UInt8) : Prop := bs = [] ∨ ∀ k, u.ownBlock = some k → k < n0 ∨ ∃ cur f, w.heap[k]? = some (.cells cur 5 f)
theorem BK.kept {n0 : Nat} {w w' : World} {u : Value} {bs : List UInt8} {F : Nat → Prop} (h : BK n0 w u bs) (hk : Kept F w w') (hF : ∀ k, F k → n0 ≤ k ∧ ∀ cur f, w.heap[k]? ≠ some (.cells cur 5 f)) : BK n0 w' u bs :=
  h.imp id fun h k e => by
    rcases h k e with h1 | ⟨cur, f, h1⟩
    · exact .inl h1
    · exact .inr ⟨cur, f, (hk.block k (Array.getElem?_eq_some_iff.1 h1).1 (fun hf => (hF k hf).2 cur f h1)).trans h1⟩
theorem IsB.keptK {n0 : Nat} {w w' : World} {u : Value} {bs : List UInt8} {F : Nat → Prop} (h : IsB w u bs) (hb : BK n0 w u bs) (hk : Kept F w w') (hF : ∀ k, F k → n0 ≤ k ∧ ∀ cur f, w.heap[k]? ≠ some (.cells cur 5 f)) : IsB w' u bs := by
  rcases hb with rfl | hb
  · obtain ⟨a, c, e, h1, h2, -⟩ := h
    exact ⟨a, c, e, h1, h2, .inl rfl⟩
  · exact h.keptF hk (fun g e hf => by
      rcases hb g e with h1 | ⟨cur, f, h1⟩
      · have := (hF g hf).1; omega
      · exact (hF g hf).2 cur f h1)
theorem FreshB.bk {w w' : World} {v : Value} {bs : List UInt8} (h : FreshB w v bs w') (n0 : Nat) : BK n0 w' v bs := .inr fun k e => by
  rcases h.own.2 with ⟨rfl, -⟩ | ⟨g, cap, cur, rfl, -, hg, -⟩
  · cases e
  · cases e; exact .inr ⟨cur, _, hg⟩

theorem IsP.keptF {F : Nat → Prop} {w w' : World} {v : Value} {l : List (Nat × Nat)} (h : IsP w v l) (hk : Kept F w w') (hF : ∀ g, v.ownBlock = some g → ¬ F g) : IsP w' v l := by
  obtain ⟨a, c, e, h1, h2, h3, h4⟩ := h
  refine ⟨a, c, e, h1, h2, h3, ?_⟩
  rcases h4 with h4 | ⟨g, o, rfl, hg, hc⟩
  · exact .inl h4
  · subst e
    exact .inr ⟨g, o, rfl, Nat.lt_of_lt_of_le hg hk.size, fun i x hx => hk.cell (hc i x hx) (hF g rfl)⟩
/-- The block that a row of our own of pairs lies in. -/
theorem OwnP.blockF {n0 : Nat} {w : World} {v : Value} {l : List (Nat × Nat)} (h : OwnP n0 w v l) : ∀ k, v.ownBlock = some k → n0 ≤ k ∧ ∀ t cur f, t ≠ 68 → w.heap[k]? ≠ some (.cells cur t f) := fun k e => by
  rcases h.2 with ⟨rfl, -⟩ | ⟨g, cap, cur, rfl, hb, hg, -⟩
  · cases e
  · cases e
    exact ⟨hb, fun t cur' f ht hh => by rw [hg] at hh; cases hh; exact ht rfl⟩

/-- A row of our own whose elements are slices of bytes. -/
def OwnR (n0 : Nat) (w : World) (v : Value) (bss : List (List UInt8)) : Prop :=
  ∃ us : List Value, w.ownsRow n0 25 1 v us.length us ∧ us.length = bss.length ∧ ∀ (i : Nat) (u : Value) (bs : List UInt8), us[i]? = some u → bss[i]? = some bs → IsB w u bs ∧ BK n0 w u bs
theorem OwnR.nil (n0 : Nat) (w : World) : OwnR n0 w (.slice none 0 0) [] := ⟨[], World.ownsRow_nil _ _ _ _, rfl, fun i u bs h => by simp at h⟩
theorem OwnR.form {n0 : Nat} {w : World} {v : Value} {bss : List (List UInt8)} (h : OwnR n0 w v bss) : ∃ a c, v = .slice a bss.length c ∧ bss.length ≤ c ∧ c ≤ maxLen := by
  obtain ⟨us, h1, h2, -⟩ := h
  rcases h1.2 with ⟨rfl, h0⟩ | ⟨g, cap, cur, rfl, _, _, hn, hm, _⟩
  · exact ⟨none, 0, by rw [← h2, h0], by omega, by simp [maxLen]⟩
  · exact ⟨_, cap, by rw [h2], by omega, hm⟩
theorem OwnR.blockF {n0 : Nat} {w : World} {v : Value} {bss : List (List UInt8)} (h : OwnR n0 w v bss) : ∀ k, v.ownBlock = some k → n0 ≤ k ∧ ∀ t cur f, t ≠ 25 → w.heap[k]? ≠ some (.cells cur t f) := fun k e => by
  obtain ⟨us, h1, -⟩ := h
  rcases h1.2 with ⟨rfl, -⟩ | ⟨g, cap, cur, rfl, hb, hg, -⟩
  · cases e
  · cases e
    exact ⟨hb, fun t cur' f ht hh => by rw [hg] at hh; cases hh; exact ht rfl⟩
theorem OwnR.kept {n0 : Nat} {w w' : World} {v : Value} {bss : List (List UInt8)} {F : Nat → Prop} (h : OwnR n0 w v bss) (hk : Kept F w w') (hF : ∀ k, F k → n0 ≤ k ∧ ∀ t cur f, t ≠ 68 → w.heap[k]? ≠ some (.cells cur t f)) : OwnR n0 w' v bss := by
  obtain ⟨us, h1, h2, h3⟩ := h
  refine ⟨us, ?_, h2, fun i u bs hu hb => ?_⟩
  · refine ownsRow_keptF h1 hk (fun g hg e hf => ?_)
    rcases h1.2 with ⟨rfl, -⟩ | ⟨g', cap, cur, rfl, hb, hg', -⟩
    · cases e
    · cases e
      exact (hF _ hf).2 25 cur _ (by decide) hg'
  · obtain ⟨i1, i2⟩ := h3 i u bs hu hb
    have hF2 : ∀ k, F k → n0 ≤ k ∧ ∀ cur f, w.heap[k]? ≠ some (.cells cur 5 f) := fun k hf => ⟨(hF k hf).1, fun cur f => (hF k hf).2 _ cur f (by decide)⟩
    exact ⟨i1.keptK i2 hk hF2, i2.kept hk hF2⟩
theorem OwnR.keptN {n0 : Nat} {w w' : World} {v : Value} {bss : List (List UInt8)} (h : OwnR n0 w v bss) (hk : Kept (fun _ => False) w w') : OwnR n0 w' v bss := h.kept hk (fun _ f => f.elim)
theorem OwnR.rows {n0 : Nat} {w : World} {v : Value} {bss : List (List UInt8)} (h : OwnR n0 w v bss) : RowsAt IsB w v bss := by
  obtain ⟨a, c, e, hc, hm⟩ := h.form
  obtain ⟨us, h1, h2, h3⟩ := h
  refine ⟨a, c, e, hc, hm, fun i bs hi => ?_⟩
  have hil := (List.getElem?_eq_some_iff.1 hi).1
  obtain ⟨u, hu⟩ : ∃ u, us[i]? = some u := ⟨_, List.getElem?_eq_getElem (by omega)⟩
  rcases h1.2 with ⟨rfl, h0⟩ | ⟨g, cap, cur, rfl, hb, hg, hn, hmx, hs, ht⟩
  · omega
  · simp only [Value.slice.injEq] at e
    obtain ⟨rfl, -, -⟩ := e
    refine ⟨g, 0, u, rfl, ?_, (h3 i u bs hu hi).1⟩
    rw [Nat.zero_add, cell_of_row w g i cur _ _ hg]
    rw [← ht, List.getElem?_take] at hu
    split at hu
    · simpa using hu
    · cases hu
/-- One slice of bytes more. -/
theorem OwnR.push {n0 : Nat} {w : World} {v : Value} {bss : List (List UInt8)} (h : OwnR n0 w v bss) (hk0 : n0 ≤ w.heap.size) (a : Addr) (u : Value) (bs : List UInt8) (h0 : w.cell? a = some u) (hI : IsB w u bs) (hB : BK n0 w u bs) (hl : bss.length + 1 ≤ 1000000000) :
    ∃ v' w', (Builtin.append_ #[44, 44] 44 #[v, .slice (some a) 1 1]).run Tryz.prog w = .ok v' w' ∧ OwnR n0 w' v' (bss ++ [bs]) ∧ Kept (fun k => v.ownBlock = some k) w w' := by
  have hF := h.blockF
  obtain ⟨us, h1, h2, h3⟩ := h
  obtain ⟨i0, hi, hz0, hz1, hz2⟩ := info_parts Tryz.info25
  obtain ⟨v', w', hrun, ho2, hg2, -, hb2⟩ := run_append_own_at (P := Tryz.prog) w n0 44 44 25 i0 _ 1 24 Tryz.underlying44 hi hz0 hz1 hz2 rfl (by decide) _ _ _ h1 a 1 1 [u] rfl (by
    intro j x hx
    match j, hx with
    | 0, hx => cases hx; exact h0
    | j + 1, hx => simp at hx) (by intro x hx; rw [List.mem_singleton.1 hx]; obtain ⟨_, _, rfl, -⟩ := hI; rfl) (by unfold maxLen; omega) (by omega) hk0
  have hk := Kept.grown (F := fun k => v.ownBlock = some k) (Kept.refl _ _) hg2 (fun k hk _ => hk)
  have hF2 : ∀ k, v.ownBlock = some k → n0 ≤ k ∧ ∀ cur f, w.heap[k]? ≠ some (.cells cur 5 f) := fun k e => ⟨(hF k e).1, fun cur f => (hF k e).2 _ cur f (by decide)⟩
  refine ⟨v', w', hrun, ⟨us ++ [u], by rw [List.length_append]; exact ho2, by simp [h2], fun i x b hx hb => ?_⟩, hk⟩
  have : IsB w x b ∧ BK n0 w x b := by
    by_cases hlt : i < us.length
    · rw [List.getElem?_append_left hlt] at hx
      rw [List.getElem?_append_left (by omega)] at hb
      exact h3 i x b hx hb
    · have hil : i < us.length + 1 := by have := (List.getElem?_eq_some_iff.1 hx).1; simpa using this
      obtain rfl : i = us.length := by omega
      rw [List.getElem?_concat_length] at hx
      rw [h2, List.getElem?_concat_length] at hb
      cases hx; cases hb
      exact ⟨hI, hB⟩
  exact ⟨this.1.keptK this.2 hk hF2, this.2.kept hk hF2⟩
/-- A row and its pairs more. -/
theorem push_both {n0 : Nat} {W : World} {av rv : Value} {pl : List (Nat × Nat)} {bss : List (List UInt8)} (ho : OwnP n0 W av pl) (hr : OwnR n0 W rv bss) (hn : n0 ≤ W.heap.size) (hb : bss.length ≤ 1000) (hpl : pl.length ≤ 100000)
    {ba : Option Addr} {bn bc : Nat} {bs : List UInt8} (hB : IsB W (.slice ba bn bc) bs) (hK : BK n0 W (.slice ba bn bc) bs) {la : Option Addr} {ln lc : Nat} {l : List (Nat × Nat)} (hP : IsP W (.slice la ln lc) l) (hNP : NewP n0 W (.slice la ln lc)) (hl : l.length ≤ 3000) :
    ∃ rv' wR av' wE, (Builtin.append_ #[44, 44] 44 #[rv, .slice (some ⟨W.heap.size, 0, none⟩) 1 1]).run Tryz.prog (W.alloc (.cells #[.slice ba bn bc] 25)) = .ok rv' wR ∧
      (Builtin.append_ #[22, 22] 22 #[av, .slice la ln lc]).run Tryz.prog wR = .ok av' wE ∧ OwnP n0 wE av' (pl ++ l) ∧ OwnR n0 wE rv' (bss ++ [bs]) ∧ Kept (fun i => n0 ≤ i) W wE := by
  obtain ⟨wA, hwA⟩ : ∃ wA, W.alloc (.cells #[.slice ba bn bc] 25) = wA := ⟨_, rfl⟩
  have hkA : Kept (fun _ => False) W wA := by rw [← hwA]; exact (Kept.refl _ _).alloc _
  have hA0 : wA.cell? ⟨W.heap.size, 0, none⟩ = some (.slice ba bn bc) := by rw [← hwA, World.cell?_alloc_new]; rfl
  have hnA : n0 ≤ wA.heap.size := Nat.le_trans hn hkA.size
  have hrA := hr.keptN hkA
  obtain ⟨rv', wR, hrun1, hrowR, hkR⟩ := hrA.push hnA ⟨W.heap.size, 0, none⟩ (.slice ba bn bc) bs hA0 (hB.keptF hkA (fun _ _ f => f)) (hK.kept hkA (fun _ f => f.elim)) (by omega)
  have hF := hrA.blockF
  have hoR : OwnP n0 wR av pl := by
    have h1 := ho.kept hkA (fun _ f => f.elim)
    refine ownsRow_keptF h1 hkR (fun j hj e hf => ?_)
    rcases h1.2 with ⟨rfl, -⟩ | ⟨g, cap, cur, rfl, -, hg, -⟩
    · cases e
    · cases e; exact (hF _ hf).2 _ cur (0, 0) (by decide) hg
  have hPR : IsP wR (.slice la ln lc) l := (hP.kept hkA).keptF hkR (fun j e hf => by
    obtain ⟨-, cur, f, h2⟩ := (hNP.kept hkA) j e
    exact (hF _ hf).2 _ cur f (by decide) h2)
  have hnR : n0 ≤ wR.heap.size := Nat.le_trans hnA hkR.size
  obtain ⟨av', wE, hrun2, hoE, -, hkE⟩ := hoR.app hnR hPR (by omega)
  refine ⟨rv', wR, av', wE, by rw [hwA]; exact hrun1, hrun2, hoE, hrowR.kept hkE hoR.blockF, ?_⟩
  exact ((hkA.mono (fun _ _ f => f.elim)).trans hkR (fun i _ hi => (hF i hi).1)).trans hkE (fun i _ hi => (hoR.blockF i hi).1)
end Go.Proofs.YtemilbemdlpkaaaGreatDoor
