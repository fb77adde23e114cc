/- []api.Ref: rows of names and ids; espalierlaw08.cut, alike. -/
import Derived.Test.YtjnhkepgoghogaaDoorRsA
import Derived.Test.YtjnhkepgoghogaaDoorRsM
import Derived.Test.YtjnhkepgoghogaaDoorPhase
namespace Go.Proofs.YtjnhkepgoghogaaDoor
open Go.RowKit Go.ChangeMaps Go.MapKept
set_option linter.unusedSimpArgs false

def encR (p : ByteArray × Nat) : List Value := [.string p.1, .int .u64 p.2]
def flatR (l : IdsL) : List Value := l.flatMap encR
theorem Tryd.info48 : (Tryd.prog.info? 48).map (fun i => (i.zero, i.size, i.bytes)) = some (some (.agg #[.string { data := #[] }, .int .u64 0]), 2, 24) := by kernel_rfl
theorem flatR_length (l : IdsL) : (flatR l).length = l.length * 2 := by
  induction l with
  | nil => rfl
  | cons p l ih => simp only [flatR, List.flatMap_cons, List.length_append, List.length_cons] at *; rw [ih]; simp [encR]; omega
theorem flatR_append (l m : IdsL) : flatR (l ++ m) = flatR l ++ flatR m := by simp [flatR]
theorem flatR_get (l : IdsL) (k : Nat) (hk : k < l.length) : (flatR l)[k * 2]? = some (.string l[k].1) ∧ (flatR l)[k * 2 + 1]? = some (.int .u64 l[k].2) := by
  induction l generalizing k with
  | nil => simp at hk
  | cons p l ih =>
    cases k with
    | zero => simp [flatR, encR]
    | succ k =>
      have := ih k (by simpa using hk)
      simp only [flatR, List.flatMap_cons, List.getElem_cons_succ] at this ⊢
      rw [List.getElem?_append_right (by simp [encR]; omega), List.getElem?_append_right (by simp [encR]; omega), show (k + 1) * 2 - (encR p).length = k * 2 from by simp [encR]; omega, show (k + 1) * 2 + 1 - (encR p).length = k * 2 + 1 from by simp [encR]; omega]
      exact this
/-- A row of refs of our own. -/
def OwnR (b : Nat) (w : World) (v : Value) (l : IdsL) : Prop := w.ownsRow b 48 2 v l.length (flatR l)
/-- A slice that reads as refs. -/
def IsR (w : World) (v : Value) (l : IdsL) : Prop :=
  ∃ a c, v = .slice a l.length c ∧ l.length ≤ c ∧ c ≤ maxLen ∧ (l = [] ∨ ∃ g o, a = some ⟨g, o, none⟩ ∧ g < w.heap.size ∧ ∀ i x, (flatR l)[i]? = some x → w.cell? ⟨g, o + i, none⟩ = some x)
theorem OwnR.form {b : Nat} {w : World} {v : Value} {l : IdsL} (h : OwnR b w v l) : ∃ a c, v = .slice a l.length c ∧ l.length ≤ c ∧ c ≤ maxLen := by
  rcases h.2 with ⟨rfl, h0⟩ | ⟨g, cap, cur, rfl, _, _, hn, hm, _⟩
  · exact ⟨none, 0, by rw [h0], by omega, by simp [maxLen]⟩
  · exact ⟨_, cap, rfl, hn, hm⟩
theorem rowKeptF {b : Nat} {w w' : World} {t k : Nat} {v : Value} {n : Nat} {l : List Value} {F : Nat → Prop} (h : w.ownsRow b t k v n l) (hk : Kept F w w') (hF : ∀ g, b ≤ g → v.ownBlock = some g → ¬ F g) : w'.ownsRow b t k v n l := by
  refine ⟨h.1, ?_⟩
  rcases h.2 with h2 | ⟨g, cap, cur, rfl, h3, h4, h5⟩
  · exact .inl h2
  · exact .inr ⟨g, cap, cur, rfl, h3, (hk.block g (Array.getElem?_eq_some_iff.1 h4).1 (hF g h3 rfl)).trans h4, h5⟩
theorem OwnR.kept {b : Nat} {w w' : World} {v : Value} {l : IdsL} {F : Nat → Prop} (h : OwnR b w v l) (hk : Kept F w w') (hF : ∀ k, b ≤ k → ¬ F k) : OwnR b w' v l := rowKeptF h hk (fun g hg _ => hF g hg)
theorem OwnR.keptN {b : Nat} {w w' : World} {v : Value} {l : IdsL} (h : OwnR b w v l) (hk : Kept (fun _ => False) w w') : OwnR b w' v l := rowKeptF h hk (fun _ _ _ f => f)
theorem OwnR.mono {b b' : Nat} {w : World} {v : Value} {l : IdsL} (h : OwnR b w v l) (hb : b' ≤ b) : OwnR b' w v l := by
  refine ⟨h.1, ?_⟩
  rcases h.2 with h2 | ⟨g, cap, cur, rfl, h3, h4⟩
  · exact .inl h2
  · exact .inr ⟨g, cap, cur, rfl, by omega, h4⟩
theorem OwnR.nil (b : Nat) (w : World) : OwnR b w (.slice none 0 0) [] := World.ownsRow_nil _ _ _ _
theorem OwnR.isR {b : Nat} {w : World} {v : Value} {l : IdsL} (h : OwnR b w v l) : IsR w v l := by
  obtain ⟨a, c, hv, h1, h2⟩ := h.form
  refine ⟨a, c, hv, h1, h2, ?_⟩
  rcases h.2 with ⟨_, h0⟩ | ⟨g, cap, cur, e, _, hg, _, _, _, ht⟩
  · exact .inl (List.length_eq_zero_iff.1 h0)
  · rw [hv] at e
    cases e
    refine .inr ⟨g, 0, rfl, (Array.getElem?_eq_some_iff.1 hg).1, fun i x hx => ?_⟩
    rw [Nat.zero_add, cell_of_row w g i cur _ _ hg]
    rw [← ht, List.getElem?_take] at hx
    split at hx
    · simpa using hx
    · cases hx
theorem IsR.at {w : World} {a : Option Addr} {n c : Nat} {l : IdsL} (h : IsR w (.slice a n c) l) {k : Nat} (hk : k < l.length) : ∃ g o, a = some ⟨g, o, none⟩ ∧ g < w.heap.size ∧ w.cell? ⟨g, o + k * 2, none⟩ = some (.string l[k].1) ∧ w.cell? ⟨g, o + k * 2 + 1, none⟩ = some (.int .u64 l[k].2) := by
  obtain ⟨a', c', e, -, -, h4⟩ := h
  cases e
  rcases h4 with rfl | ⟨g, o, rfl, hg, hc⟩
  · simp at hk
  · obtain ⟨h1, h2⟩ := flatR_get l k hk
    exact ⟨g, o, rfl, hg, hc _ _ h1, by rw [Nat.add_assoc]; exact hc _ _ h2⟩
theorem IsR.keptS {w w' : World} {v : Value} {l : IdsL} {F : Nat → Prop} (h : IsR w v l) (hk : Kept F w w') (hF : l ≠ [] → ∀ g, v.ownBlock = some g → ¬ F g) : IsR w' v l := by
  obtain ⟨a, c, rfl, h1, h2, h4⟩ := h
  refine ⟨a, c, rfl, h1, h2, ?_⟩
  by_cases hl : l = []
  · exact .inl hl
  rcases h4 with h4 | ⟨g, o, rfl, hg, hc⟩
  · exact .inl h4
  · exact .inr ⟨g, o, rfl, Nat.lt_of_lt_of_le hg hk.size, fun i x hx => hk.cell (hc i x hx) (hF hl g rfl)⟩
theorem IsR.keptN {w w' : World} {v : Value} {l : IdsL} (h : IsR w v l) (hk : Kept (fun _ => False) w w') : IsR w' v l := h.keptS hk (fun _ _ _ f => f)
theorem IsR.take {w : World} {a : Option Addr} {c : Nat} {l : IdsL} (h : IsR w (.slice a l.length c) l) (k : Nat) (hk : k ≤ l.length) : IsR w (.slice a k c) (l.take k) := by
  obtain ⟨a', c', he, h1, h2, h4⟩ := h
  cases he
  refine ⟨a, c, by rw [List.length_take, Nat.min_eq_left hk], by rw [List.length_take]; omega, h2, ?_⟩
  rcases h4 with rfl | ⟨g, o, rfl, hg, hc⟩
  · left; simp
  · right
    refine ⟨g, o, rfl, hg, fun i x hx => hc i x ?_⟩
    have e : flatR l = flatR (l.take k) ++ flatR (l.drop k) := by rw [← flatR_append, List.take_append_drop]
    rw [e, List.getElem?_append_left (List.getElem?_eq_some_iff.1 hx).1]
    exact hx
/-- One ref more behind a row of our own. -/
theorem OwnR.push {b : Nat} {w : World} {v : Value} {l : IdsL} (h : OwnR b w v l) (hk0 : b ≤ w.heap.size) (a : Addr) (p : ByteArray × Nat) (h0 : w.cell? a = some (.string p.1)) (h1 : w.cell? (a.add 1) = some (.int .u64 p.2)) (hl : l.length + 1 ≤ 1000000000000) :
    ∃ v' w', (Builtin.append_ #[38, 38] 38 #[v, .slice (some a) 1 1]).run Tryd.prog w = .ok v' w' ∧ OwnR b w' v' (l ++ [p]) ∧ w.grownBy w' v.ownBlock ∧ (v'.ownBlock = v.ownBlock ∨ v'.ownBlock = some w.heap.size) := by
  obtain ⟨i0, hi, hz0, hz1, hz2⟩ := info_parts Tryd.info48
  obtain ⟨v', w', hrun, ho2, hg2, -, hb2⟩ := run_append_own_at (P := Tryd.prog) w b 38 38 48 i0 _ 2 24 Tryd.underlying38 hi hz0 hz1 hz2 rfl (by decide) _ _ _ h a 1 1 (encR p) rfl (by
    intro j u hu
    match j, hu with
    | 0, hu => cases hu; exact h0
    | 1, hu => cases hu; exact h1
    | j + 2, hu => simp [encR] at hu) (by intro u hu; simp [encR] at hu; rcases hu with rfl | rfl <;> rfl) (by unfold maxLen; omega) (by omega) hk0
  refine ⟨v', w', hrun, ?_, hg2, hb2⟩
  unfold OwnR
  rw [flatR_append, List.length_append, show flatR [p] = encR p from by simp [flatR]]
  exact ho2
/-- A ref's box. -/
theorem ref_new (w : World) (s : ByteArray) (n : Nat) : ∃ w2, w.alloc (.cells #[.string s, .int .u64 n] 48) = w2 ∧ Kept (fun _ => False) w w2 ∧ w2.heap.size = w.heap.size + 1 ∧ w2.heap[w.heap.size]? = some (.cells #[.string s, .int .u64 n] 48 (0, 0)) :=
  ⟨_, rfl, (Kept.refl _ _).alloc _, by simp, heap_alloc_new _ _⟩
end Go.Proofs.YtjnhkepgoghogaaDoor
