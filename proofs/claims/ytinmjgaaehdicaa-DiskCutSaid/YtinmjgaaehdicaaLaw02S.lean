/- A disk that is cut beside one that is not: what a step does to both. -/
import Derived.Test.YtinmjgaaehdicaaLaw02D
namespace Go.Proofs.Ytinmjgaaehdicaa
open Go.RowKit Go.ChangeMaps Go.MapKept

structure CutRel (D E : DM) (r s : Int × DM) : Prop where
  rc : r.2.cut = false
  sc : s.2.cut = true
  up : D.writes ≤ r.2.writes
  quiet : r.2.writes = D.writes → DM.Same r.2 D
  sum : s.2.writes + s.2.left = E.writes + E.left
  sl : 0 ≤ s.2.left
  is : (r.2.writes - D.writes ≤ E.left ∧ r.1 = s.1 ∧ DM.Same r.2 s.2 ∧ s.2.writes - E.writes = r.2.writes - D.writes) ∨
    (E.left < r.2.writes - D.writes ∧ r.1 = 0 ∧ s.1 = 6 ∧ s.2.writes = E.writes + E.left ∧ (E.left = 0 → DM.Same s.2 E))

/-- Where nothing is left, a disk that is cut stays as it is. -/
theorem CutRel.stays {D E : DM} {r s : Int × DM} (h : CutRel D E r s) (hS : DM.Same D E) (h0 : E.left = 0) : DM.Same s.2 E ∧ s.2.writes = E.writes := by
  rcases h.is with ⟨h1, h2, h3, h4⟩ | ⟨h1, h2, h3, h4, h5⟩
  · have hup := h.up
    have : r.2.writes = D.writes := by omega
    exact ⟨h3.symm.trans ((h.quiet this).trans hS), by omega⟩
  · exact ⟨h5 h0, by omega⟩

theorem DM.raw_uncut {D : DM} (h : D.cut = false) : D.raw = some { D with writes := D.writes + 1 } := by unfold DM.raw; simp [h]

section
variable {D E : DM} (hS : DM.Same D E) (hD : D.cut = false) (hE : E.cut = true) (hl : 0 ≤ E.left)
include hS hD hE hl

theorem CutRel.none (x : Int) : CutRel D E (x, D) (x, E) :=
  ⟨hD, hE, Int.le_refl _, fun _ => DM.Same.refl _, rfl, hl, .inl ⟨by simp; exact hl, rfl, hS, by simp⟩⟩

omit hS in
theorem CutRel.one (F G : DM → DM) (hF : ∀ X, (F X).writes = X.writes ∧ (F X).left = X.left ∧ (F X).cut = X.cut) (hG : ∀ X, (G X).writes = X.writes ∧ (G X).left = X.left ∧ (G X).cut = X.cut)
    (hFS : ∀ X Y : DM, X.files = D.files → Y.files = E.files → DM.Same (F X) (G Y)) :
    CutRel D E (match D.raw with | .none => (6, D) | some D' => (0, F D')) (match E.raw with | .none => (6, E) | some D' => (0, G D')) := by
  rw [DM.raw_uncut hD]
  obtain ⟨a1, a2, a3⟩ := hF { D with writes := D.writes + 1 }
  by_cases h0 : E.left = 0
  · rw [show E.raw = Option.none from by unfold DM.raw; rw [if_pos hE, if_pos h0]]
    show CutRel D E (0, F { D with writes := D.writes + 1 }) (6, E)
    refine ⟨by rw [a3]; exact hD, hE, ?_, ?_, rfl, hl, .inr ⟨?_, rfl, rfl, ?_, fun _ => DM.Same.refl _⟩⟩
    · rw [a1]; simp only []; omega
    · intro h; rw [a1] at h; simp only [] at h; omega
    · rw [a1]; simp only []; omega
    · simp only []; omega
  · rw [show E.raw = some { E with left := E.left - 1, writes := E.writes + 1 } from by unfold DM.raw; rw [if_pos hE, if_neg h0]]
    show CutRel D E (0, F { D with writes := D.writes + 1 }) (0, G { E with left := E.left - 1, writes := E.writes + 1 })
    obtain ⟨b1, b2, b3⟩ := hG { E with left := E.left - 1, writes := E.writes + 1 }
    refine ⟨by rw [a3]; exact hD, by rw [b3]; exact hE, ?_, ?_, ?_, ?_, .inl ⟨?_, rfl, hFS _ _ rfl rfl, ?_⟩⟩
    · rw [a1]; simp only []; omega
    · intro h; rw [a1] at h; simp only [] at h; omega
    · rw [b1, b2]; simp only []; omega
    · rw [b2]; simp only []; omega
    · rw [a1]; simp only []; omega
    · rw [a1, b1]; simp only []; omega
end

theorem DM.Same.putSame {X Y : DM} (h : DM.Same X Y) (s : ByteArray) (x : List UInt8) : DM.Same (X.put s x) (Y.put s x) := by
  refine ⟨fun t => ?_, ?_⟩
  · simp only [DM.put]
    by_cases e : t = s
    · subst e; rw [getA_putA_same, getA_putA_same]
    · rw [getA_putA_ne e, getA_putA_ne e]; exact h.files t
  · simp only [DM.put, length_putA, h.files s, h.len]

theorem DM.Same.delSame {X Y : DM} (h : DM.Same X Y) (hX : NodupA X.files) (hY : NodupA Y.files) (s : ByteArray) : DM.Same (X.del s) (Y.del s) := by
  refine ⟨fun t => ?_, ?_⟩
  · simp only [DM.del]
    by_cases e : t = s
    · subst e; rw [getA_delA_same hX, getA_delA_same hY]
    · rw [getA_delA_ne e, getA_delA_ne e]; exact h.files t
  · simp only [DM.del, length_delA, h.files s, h.len]

theorem DM.Same.ofFiles {D E X Y : DM} (h : DM.Same D E) (hX : X.files = D.files) (hY : Y.files = E.files) : DM.Same X Y := ⟨fun s => by rw [hX, hY]; exact h.files s, by rw [hX, hY]; exact h.len⟩

theorem DM.pieces_uncut (s : ByteArray) (bs : List UInt8) (D : DM) (hD : D.cut = false) : (DM.pieces s bs D).1 = 0 ∧ (DM.pieces s bs D).2.cut = false ∧ D.writes ≤ (DM.pieces s bs D).2.writes ∧ (DM.pieces s bs D).2.writes ≤ D.writes + bs.length ∧ (bs ≠ [] → D.writes + 1 ≤ (DM.pieces s bs D).2.writes) := by
  induction hn : bs.length using Nat.strongRecOn generalizing bs D with
  | _ n ih =>
    by_cases hb : bs = []
    · subst hb; rw [DM.pieces_nil]; exact ⟨rfl, hD, Int.le_refl _, by simp only []; omega, fun h => absurd rfl h⟩
    · have hpos : 0 < bs.length := List.length_pos_iff.2 hb
      rw [DM.pieces_step hb (DM.raw_uncut hD) (.inl rfl)]
      have := ih (bs.drop 32).length (by rw [List.length_drop]; omega) (bs.drop 32) (DM.put { D with writes := D.writes + 1 } s (DM.bytes { D with writes := D.writes + 1 } s ++ bs.take 32)) hD rfl
      obtain ⟨h1, h2, h3, h4, -⟩ := this
      simp only [DM.put, List.length_drop] at h3 h4 ⊢
      simp only [DM.put] at h1 h2
      exact ⟨h1, h2, by omega, by omega, fun _ => h3⟩

theorem CutRel.pieces (s : ByteArray) (bs : List UInt8) (D E : DM) (hS : DM.Same D E) (hD : D.cut = false) (hE : E.cut = true) (hl : 0 ≤ E.left) : CutRel D E (DM.pieces s bs D) (DM.pieces s bs E) := by
  induction hn : bs.length using Nat.strongRecOn generalizing bs D E with
  | _ n ih =>
    by_cases hb : bs = []
    · subst hb; rw [DM.pieces_nil, DM.pieces_nil]; exact CutRel.none hS hD hE hl 0
    · have hpos : 0 < bs.length := List.length_pos_iff.2 hb
      by_cases h0 : E.left = 0
      · have hr : E.raw = Option.none := by unfold DM.raw; rw [if_pos hE, if_pos h0]
        rw [DM.pieces_no hb hr]
        obtain ⟨h1, h2, h3, -, h5⟩ := DM.pieces_uncut s bs D hD
        have h5 := h5 hb
        exact ⟨h2, hE, h3, fun h => by omega, rfl, hl, .inr ⟨by omega, h1, rfl, by simp only []; omega, fun _ => DM.Same.refl _⟩⟩
      · have hr : E.raw = some { E with left := E.left - 1, writes := E.writes + 1 } := by unfold DM.raw; rw [if_pos hE, if_neg h0]
        rw [DM.pieces_step hb (DM.raw_uncut hD) (.inl rfl), DM.pieces_step hb hr (.inl rfl)]
        have hby : DM.bytes { E with left := E.left - 1, writes := E.writes + 1 } s = DM.bytes { D with writes := D.writes + 1 } s := (DM.Same.ofFiles hS (X := { D with writes := D.writes + 1 }) (Y := { E with left := E.left - 1, writes := E.writes + 1 }) rfl rfl).symm.bytes s
        rw [hby]
        have k := ih (bs.drop 32).length (by rw [List.length_drop]; omega) (bs.drop 32) (DM.put { D with writes := D.writes + 1 } s (DM.bytes { D with writes := D.writes + 1 } s ++ bs.take 32)) (DM.put { E with left := E.left - 1, writes := E.writes + 1 } s (DM.bytes { D with writes := D.writes + 1 } s ++ bs.take 32))
          ((DM.Same.ofFiles hS (X := { D with writes := D.writes + 1 }) (Y := { E with left := E.left - 1, writes := E.writes + 1 }) rfl rfl).putSame s _) hD hE (by simp only [DM.put]; omega) rfl
        obtain ⟨k1, k2, k3, k4, k5, k6, k7⟩ := k
        generalize DM.pieces s _ _ = r at *
        generalize DM.pieces s _ _ = t at *
        simp only [DM.put] at k3 k4 k5 k7
        refine ⟨k1, k2, by omega, fun h => by omega, by omega, k6, ?_⟩
        rcases k7 with ⟨p1, p2, p3, p4⟩ | ⟨p1, p2, p3, p4, p5⟩
        · exact .inl ⟨by omega, p2, p3, by omega⟩
        · exact .inr ⟨by omega, p2, p3, by omega, fun h => absurd h h0⟩

theorem step_cut (o : OpV) (D E : DM) (hS : DM.Same D E) (hD : D.cut = false) (hE : E.cut = true) (hl : 0 ≤ E.left) (hn1 : NodupA D.files) (hn2 : NodupA E.files) : CutRel D E (D.step o) (E.step o) := by
  unfold DM.step
  split
  · unfold DM.append
    rw [← hS.files, ← hS.len, ← hS.bytes]
    split
    · exact CutRel.none hS hD hE hl 2
    · split
      · exact CutRel.none hS hD hE hl 3
      · split
        · exact CutRel.none hS hD hE hl 3
        · split
          · exact CutRel.one hD hE hl (fun X => X.put o.name []) (fun X => X.put o.name []) (fun _ => ⟨rfl, rfl, rfl⟩) (fun _ => ⟨rfl, rfl, rfl⟩) (fun X Y hX hY => (hS.ofFiles hX hY).putSame _ _)
          · exact CutRel.pieces _ _ _ _ hS hD hE hl
  · unfold DM.truncate
    rw [← hS.files, ← hS.bytes]
    split
    · exact CutRel.none hS hD hE hl 4
    · split
      · exact CutRel.none hS hD hE hl 2
      · split
        · exact CutRel.none hS hD hE hl 0
        · exact CutRel.one hD hE hl (fun X => X.put o.name ((D.bytes o.name).take o.n.toNat)) (fun X => X.put o.name ((D.bytes o.name).take o.n.toNat)) (fun _ => ⟨rfl, rfl, rfl⟩) (fun _ => ⟨rfl, rfl, rfl⟩) (fun X Y hX hY => (hS.ofFiles hX hY).putSame _ _)
  · unfold DM.rename
    rw [← hS.files, ← hS.bytes]
    split
    · exact CutRel.none hS hD hE hl 2
    · split
      · exact CutRel.none hS hD hE hl 4
      · split
        · exact CutRel.none hS hD hE hl 0
        · exact CutRel.one hD hE hl (fun X => (X.del o.name).put o.to (D.bytes o.name)) (fun X => (X.del o.name).put o.to (D.bytes o.name)) (fun _ => ⟨rfl, rfl, rfl⟩) (fun _ => ⟨rfl, rfl, rfl⟩) (fun X Y hX hY => ((hS.ofFiles hX hY).delSame (hX ▸ hn1) (hY ▸ hn2) _).putSame _ _)
  · unfold DM.remove
    rw [← hS.files]
    split
    · exact CutRel.none hS hD hE hl 4
    · exact CutRel.one hD hE hl (fun X => X.del o.name) (fun X => X.del o.name) (fun _ => ⟨rfl, rfl, rfl⟩) (fun _ => ⟨rfl, rfl, rfl⟩) (fun X Y hX hY => (hS.ofFiles hX hY).delSame (hX ▸ hn1) (hY ▸ hn2) _)

theorem step_most (o : OpV) (D : DM) (hD : D.cut = false) : (D.step o).2.writes ≤ D.writes + 4194304 := by
  unfold DM.step
  split
  · unfold DM.append
    rw [DM.raw_uncut hD]
    split
    · simp only []; omega
    · split
      · simp only []; omega
      · split
        · simp only []; omega
        · rename_i hle
          split
          · simp only [DM.put]; omega
          · have := (DM.pieces_uncut o.name o.bytes D hD).2.2.2.1
            omega
  · unfold DM.truncate
    rw [DM.raw_uncut hD]
    dsimp only
    repeat' split
    all_goals (simp only [DM.put]; omega)
  · unfold DM.rename
    rw [DM.raw_uncut hD]
    dsimp only
    repeat' split
    all_goals (simp only [DM.put, DM.del]; omega)
  · unfold DM.remove
    rw [DM.raw_uncut hD]
    dsimp only
    repeat' split
    all_goals (simp only [DM.del]; omega)

/-- A disk that is not cut never says that it is. -/
theorem append_uncut (D : DM) (s : ByteArray) (bs : List UInt8) (hD : D.cut = false) : (D.append s bs).1 ≠ 6 := by
  unfold DM.append
  rw [DM.raw_uncut hD]
  dsimp only
  repeat' split
  all_goals first | (rw [(DM.pieces_uncut s bs D hD).1]; decide) | (dsimp only; decide)
end Go.Proofs.Ytinmjgaaehdicaa
