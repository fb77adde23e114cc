/- what pieces do, whole and cut: plain lists. -/
import Derived.Test.YtikacgiccllolaaGreatDiskM
namespace Go.Proofs.YtikacgiccllolaaGreat

theorem pieces_free (s : ByteArray) (n : Nat) : ∀ (bs : List UInt8) (D : DM), bs.length ≤ n → D.cut = false →
    (DM.pieces s bs D).1 = 0 ∧ (DM.pieces s bs D).2.cut = false ∧ (DM.pieces s bs D).2.writes = D.writes + ((bs.length + 31) / 32 : Nat) ∧ (DM.pieces s bs D).2.bytes s = D.bytes s ++ bs := by
  induction n with
  | zero =>
    intro bs D h hc
    obtain rfl : bs = [] := List.length_eq_zero_iff.1 (by omega)
    rw [DM.pieces_nil]
    simp [hc]
  | succ n ih =>
    intro bs D h hc
    by_cases hb : bs = []
    · subst hb
      rw [DM.pieces_nil]
      simp [hc]
    · have hr : D.raw = some { D with writes := D.writes + 1 } := by unfold DM.raw; rw [hc]; simp
      have hl : 0 < bs.length := List.length_pos_iff.2 hb
      rw [DM.pieces_step (k := 32) hb hr (.inl rfl)]
      have hd : (bs.drop 32).length = bs.length - 32 := List.length_drop
      have hby : ({ D with writes := D.writes + 1 } : DM).bytes s = D.bytes s := rfl
      rw [hby]
      obtain ⟨h1, h2, h3, h4⟩ := ih (bs.drop 32) (({ D with writes := D.writes + 1 } : DM).put s (D.bytes s ++ bs.take 32)) (by omega) hc
      refine ⟨h1, h2, ?_, ?_⟩
      · rw [h3, hd]
        show D.writes + 1 + _ = _
        omega
      · rw [h4, DM.bytes_put, List.append_assoc, List.take_append_drop]

theorem pieces_cut (s : ByteArray) (k : Nat) : ∀ (bs : List UInt8) (D : DM), D.cut = true → D.left = k → k < (bs.length + 31) / 32 →
    (DM.pieces s bs D).1 = 6 ∧ (DM.pieces s bs D).2.bytes s = D.bytes s ++ bs.take (32 * k) := by
  induction k with
  | zero =>
    intro bs D hc hl hk
    have hb : bs ≠ [] := by intro e; subst e; simp at hk
    have hr : D.raw = none := by unfold DM.raw; rw [hc, hl]; simp
    rw [DM.pieces_no hb hr]
    simp
  | succ k ih =>
    intro bs D hc hl hk
    have hb : bs ≠ [] := by intro e; subst e; simp at hk
    have hr : D.raw = some { D with left := D.left - 1, writes := D.writes + 1 } := by unfold DM.raw; rw [hc, hl]; simp; omega
    rw [DM.pieces_step (k := 32) hb hr (.inl rfl)]
    have hby : ({ D with left := D.left - 1, writes := D.writes + 1 } : DM).bytes s = D.bytes s := rfl
    rw [hby]
    obtain ⟨h1, h2⟩ := ih (bs.drop 32) (({ D with left := D.left - 1, writes := D.writes + 1 } : DM).put s (D.bytes s ++ bs.take 32)) hc (by show D.left - 1 = _; rw [hl]; omega) (by rw [List.length_drop]; omega)
    refine ⟨h1, ?_⟩
    rw [h2, DM.bytes_put, List.append_assoc]
    congr 1
    rw [← List.take_add]
    congr 1
    omega

theorem pieces_len (s : ByteArray) (n : Nat) : ∀ (bs : List UInt8) (D : DM), bs.length ≤ n → (DM.pieces s bs D).2.files.length ≤ (if (getA s D.files).isSome then D.files.length else D.files.length + 1) := by
  induction n with
  | zero =>
    intro bs D h
    obtain rfl : bs = [] := List.length_eq_zero_iff.1 (by omega)
    rw [DM.pieces_nil]
    split <;> simp
  | succ n ih =>
    intro bs D h
    by_cases hb : bs = []
    · subst hb
      rw [DM.pieces_nil]
      split <;> simp
    · cases hr : D.raw with
      | none => rw [DM.pieces_no hb hr]; split <;> simp
      | some D' =>
        have hfi : D'.files = D.files := by
          unfold DM.raw at hr
          split at hr
          · split at hr <;> cases hr; rfl
          · cases hr; rfl
        have hl : 0 < bs.length := List.length_pos_iff.2 hb
        rw [DM.pieces_step (k := 32) hb hr (.inl rfl)]
        have h1 := ih (bs.drop 32) (D'.put s (D'.bytes s ++ bs.take 32)) (by rw [List.length_drop]; omega)
        rw [DM.get_put] at h1
        simp only [Option.isSome_some, if_true] at h1
        refine Nat.le_trans h1 ?_
        show (putA s _ D'.files).length ≤ _
        rw [length_putA, hfi]
        split <;> omega

theorem append_len (D : DM) (s : ByteArray) (bs : List UInt8) : (D.append s bs).2.files.length ≤ D.files.length + 1 := by
  unfold DM.append
  split
  · simp
  · split
    · simp
    · split
      · simp
      · split
        · cases hr : D.raw with
          | none => simp
          | some D' =>
            have hfi : D'.files = D.files := by
              unfold DM.raw at hr
              split at hr
              · split at hr <;> cases hr; rfl
              · cases hr; rfl
            show (putA s _ D'.files).length ≤ _
            rw [length_putA, hfi]
            split <;> omega
        · refine Nat.le_trans (pieces_len s bs.length bs D (Nat.le_refl _)) ?_
          split <;> omega

/-- An append to an uncut disk that has room. -/
theorem append_free {D : DM} {s : ByteArray} (bs : List UInt8) (hm : mayB s = true) (hc : D.cut = false) (hn : D.files.length < 256) (hb : (D.bytes s).length + bs.length ≤ 4194304) :
    (D.append s bs).1 = 0 ∧ (D.append s bs).2.cut = false ∧ (D.append s bs).2.bytes s = D.bytes s ++ bs ∧ (D.append s bs).2.writes = D.writes + (if bs = [] ∧ getA s D.files = none then 1 else ((bs.length + 31) / 32 : Nat) : Int) ∧
      getA s (D.append s bs).2.files = some (D.bytes s ++ bs) := by
  unfold DM.append
  rw [if_neg (by rw [hm]; simp), if_neg (by omega), if_neg (by omega)]
  by_cases h : bs = [] ∧ getA s D.files = none
  · rw [if_pos h]
    have hr : D.raw = some { D with writes := D.writes + 1 } := by unfold DM.raw; rw [hc]; simp
    simp only [hr]
    have h0 : D.bytes s = [] := by unfold DM.bytes; rw [h.2]; rfl
    refine ⟨trivial, hc, ?_, by rw [if_pos h]; rfl, ?_⟩
    · rw [DM.bytes_put, h0, h.1]; rfl
    · rw [DM.get_put, h0, h.1]; rfl
  · rw [if_neg h]
    obtain ⟨h1, h2, h3, h4⟩ := pieces_free s bs.length bs D (Nat.le_refl _) hc
    refine ⟨h1, h2, h4, by rw [if_neg h]; exact h3, ?_⟩
    cases hg : getA s (DM.pieces s bs D).2.files with
    | some x => unfold DM.bytes at h4 ⊢; rw [hg] at h4; rw [← h4]; rfl
    | none =>
      exfalso
      have h5 : (DM.pieces s bs D).2.bytes s = [] := by unfold DM.bytes; rw [hg]; rfl
      rw [h4] at h5
      have h6 : bs = [] := (List.append_eq_nil_iff.1 h5).2
      subst h6
      rw [DM.pieces_nil] at hg
      exact h ⟨rfl, hg⟩

/-- An append to a disk that is cut within it. -/
theorem append_cut {D : DM} {s : ByteArray} (bs X : List UInt8) {k : Nat} (hm : mayB s = true) (hc : D.cut = true) (hl : D.left = k) (hg : getA s D.files = some X) (hk : k < (bs.length + 31) / 32) (hb : X.length + bs.length ≤ 4194304) :
    (D.append s bs).1 = 6 ∧ (D.append s bs).2.bytes s = X ++ bs.take (32 * k) := by
  have hX : D.bytes s = X := by unfold DM.bytes; rw [hg]; rfl
  have h := pieces_cut s k bs D hc hl hk
  rw [hX] at h
  unfold DM.append
  rw [if_neg (by rw [hm]; simp), if_neg (by rw [hg]; simp), if_neg (by rw [hX]; omega), if_neg (by rw [hg]; simp)]
  exact h

theorem bytes_some {D : DM} {s : ByteArray} (h : D.bytes s ≠ []) : (getA s D.files).isSome = true := by
  unfold DM.bytes at h
  cases hg : getA s D.files with
  | some x => rfl
  | none => rw [hg] at h; exact absurd rfl h
end Go.Proofs.YtikacgiccllolaaGreat
