/- two disks that are alike stay alike, whatever is done to both. -/
import Derived.Test.YtjnhkepgoghogaaDoorRfdG
import Derived.Test.YtjnhkepgoghogaaDoorLaw02B
namespace Go.Proofs.YtjnhkepgoghogaaDoor
open Go.RowKit Go.ChangeMaps Go.MapKept

def LikeP (x y : Int × DM) (D : DM) (n : Int) : Prop := x.1 = y.1 ∧ DM.Like x.2 y.2 ∧ y.2.writes ≤ D.writes + n
theorem like_raw {R D : DM} (h : DM.Like R D) : (R.raw = none ∧ D.raw = none) ∨ ∃ R' D', R.raw = some R' ∧ D.raw = some D' ∧ DM.Like R' D' ∧ R'.files = R.files ∧ D'.files = D.files ∧ D'.writes = D.writes + 1 := by
  obtain ⟨h1, h2, h3, h4⟩ := h
  unfold DM.raw
  rw [h4, h3, h2]
  by_cases hc : D.cut = true
  · rw [if_pos hc, if_pos hc]
    by_cases hl : D.left = 0
    · rw [if_pos hl, if_pos hl]; exact .inl ⟨rfl, rfl⟩
    · rw [if_neg hl, if_neg hl]
      exact .inr ⟨_, _, rfl, rfl, ⟨⟨h1.files, h1.len⟩, rfl, rfl, rfl⟩, rfl, rfl, rfl⟩
  · rw [if_neg hc, if_neg hc]
    exact .inr ⟨_, _, rfl, rfl, ⟨⟨h1.files, h1.len⟩, rfl, rfl, rfl⟩, rfl, rfl, rfl⟩
theorem like_put {X Y : DM} (h : DM.Like X Y) (s : ByteArray) (x : List UInt8) : DM.Like (X.put s x) (Y.put s x) := by
  refine ⟨⟨fun t => ?_, ?_⟩, h.writes, h.left, h.cut⟩
  · simp only [DM.put]
    by_cases e : t = s
    · subst e; rw [getA_putA_same, getA_putA_same]
    · rw [getA_putA_ne e, getA_putA_ne e]; exact h.same.files t
  · simp only [DM.put, length_putA, h.same.files s, h.same.len]
theorem like_del {X Y : DM} (h : DM.Like X Y) (hX : NodupA X.files) (hY : NodupA Y.files) (s : ByteArray) : DM.Like (X.del s) (Y.del s) := by
  refine ⟨⟨fun t => ?_, ?_⟩, h.writes, h.left, h.cut⟩
  · simp only [DM.del]
    by_cases e : t = s
    · subst e; rw [getA_delA_same hX, getA_delA_same hY]
    · rw [getA_delA_ne e, getA_delA_ne e]; exact h.same.files t
  · simp only [DM.del, length_delA, h.same.files s, h.same.len]
theorem like_pieces (s : ByteArray) (n : Nat) : ∀ (bs : List UInt8) (R D : DM), bs.length ≤ n → DM.Like R D → LikeP (DM.pieces s bs R) (DM.pieces s bs D) D bs.length := by
  induction n with
  | zero =>
    intro bs R D hb h
    have : bs = [] := List.length_eq_zero_iff.1 (by omega)
    subst this
    rw [DM.pieces_nil, DM.pieces_nil]
    exact ⟨rfl, h, by simp⟩
  | succ n ih =>
    intro bs R D hb h
    by_cases he : bs = []
    · subst he
      rw [DM.pieces_nil, DM.pieces_nil]
      exact ⟨rfl, h, by simp⟩
    · have hl : 0 < bs.length := List.length_pos_iff.2 he
      rcases like_raw h with ⟨h1, h2⟩ | ⟨R', D', h1, h2, h3, h4, h5, h6⟩
      · rw [DM.pieces_no he h1, DM.pieces_no he h2]
        exact ⟨rfl, h, by simp only []; omega⟩
      · rw [DM.pieces_step he h1 (k := 32) (.inl rfl), DM.pieces_step he h2 (k := 32) (.inl rfl)]
        have hby : R'.bytes s = D'.bytes s := h3.same.bytes s
        rw [hby]
        obtain ⟨i1, i2, i3⟩ := ih (bs.drop 32) _ _ (by rw [List.length_drop]; omega) (like_put h3 s (D'.bytes s ++ bs.take 32))
        refine ⟨i1, i2, ?_⟩
        have : (D'.put s (D'.bytes s ++ bs.take 32)).writes = D.writes + 1 := h6
        rw [this, List.length_drop] at i3
        omega
theorem like_append {R D : DM} (h : DM.Like R D) (s : ByteArray) (bs : List UInt8) : LikeP (R.append s bs) (D.append s bs) D (bs.length + 1) := by
  have hby := h.same.bytes s
  have hl := h.same.len
  have hf := h.same.files s
  unfold DM.append
  by_cases hm : mayB s = false
  · rw [if_pos hm, if_pos hm]; exact ⟨rfl, h, by simp only []; omega⟩
  rw [if_neg hm, if_neg hm, hf, hl, hby]
  split
  · exact ⟨rfl, h, by simp only []; omega⟩
  split
  · exact ⟨rfl, h, by simp only []; omega⟩
  split
  · rcases like_raw h with ⟨h1, h2⟩ | ⟨R', D', h1, h2, h3, h4, h5, h6⟩
    · rw [h1, h2]; exact ⟨rfl, h, by simp only []; omega⟩
    · rw [h1, h2]
      exact ⟨rfl, like_put h3 s [], by show D'.writes ≤ _; omega⟩
  · obtain ⟨i1, i2, i3⟩ := like_pieces s bs.length bs R D (Nat.le_refl _) h
    exact ⟨i1, i2, by omega⟩
theorem like_truncate {R D : DM} (h : DM.Like R D) (s : ByteArray) (n : Int) : LikeP (R.truncate s n) (D.truncate s n) D 1 := by
  have hby := h.same.bytes s
  have hf := h.same.files s
  unfold DM.truncate
  rw [hf, hby]
  split
  · exact ⟨rfl, h, by simp only []; omega⟩
  split
  · exact ⟨rfl, h, by simp only []; omega⟩
  split
  · exact ⟨rfl, h, by simp only []; omega⟩
  · rcases like_raw h with ⟨h1, h2⟩ | ⟨R', D', h1, h2, h3, h4, h5, h6⟩
    · rw [h1, h2]; exact ⟨rfl, h, by simp only []; omega⟩
    · rw [h1, h2]; exact ⟨rfl, like_put h3 s _, by show D'.writes ≤ _; omega⟩
theorem like_remove {R D : DM} (h : DM.Like R D) (hR : R.Ok) (hD : D.Ok) (s : ByteArray) : LikeP (R.remove s) (D.remove s) D 1 := by
  have hf := h.same.files s
  unfold DM.remove
  rw [hf]
  split
  · exact ⟨rfl, h, by simp only []; omega⟩
  · rcases like_raw h with ⟨h1, h2⟩ | ⟨R', D', h1, h2, h3, h4, h5, h6⟩
    · rw [h1, h2]; exact ⟨rfl, h, by simp only []; omega⟩
    · rw [h1, h2]; exact ⟨rfl, like_del h3 (by rw [h4]; exact hR.nodup) (by rw [h5]; exact hD.nodup) s, by show D'.writes ≤ _; omega⟩
theorem like_rename {R D : DM} (h : DM.Like R D) (hR : R.Ok) (hD : D.Ok) (f t : ByteArray) : LikeP (R.rename f t) (D.rename f t) D 1 := by
  have hby := h.same.bytes f
  have hf := h.same.files f
  unfold DM.rename
  rw [hf, hby]
  split
  · exact ⟨rfl, h, by simp only []; omega⟩
  split
  · exact ⟨rfl, h, by simp only []; omega⟩
  split
  · exact ⟨rfl, h, by simp only []; omega⟩
  · rcases like_raw h with ⟨h1, h2⟩ | ⟨R', D', h1, h2, h3, h4, h5, h6⟩
    · rw [h1, h2]; exact ⟨rfl, h, by simp only []; omega⟩
    · rw [h1, h2]; exact ⟨rfl, like_put (like_del h3 (by rw [h4]; exact hR.nodup) (by rw [h5]; exact hD.nodup) f) t _, by show D'.writes ≤ _; omega⟩
theorem DM.Like.trans {X Y Z : DM} (h : DM.Like X Y) (k : DM.Like Y Z) : DM.Like X Z := ⟨h.same.trans k.same, h.writes.trans k.writes, h.left.trans k.left, h.cut.trans k.cut⟩
end Go.Proofs.YtjnhkepgoghogaaDoor
