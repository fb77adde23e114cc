/- memo: write. -/
import Derived.Test.YtemilbemdlpkaaaGreatDoorPbl
namespace Go.Proofs.YtemilbemdlpkaaaGreatDoor
open Go.RowKit Go.ChangeMaps Go.MapKept
set_option linter.unusedSimpArgs false

theorem bytesOf_bound (l : List (Nat × Nat)) (h : l.length ≤ 65536) : (bytesOf l).length ≤ 2000000 := by
  have h1 := uintB_short l.length (by omega)
  have h2 : (bodyB l).length = 16 * l.length := by
    induction l with
    | nil => rfl
    | cons p l ih =>
      have h3 : (wordB p.1).length = 8 := wordB_len8 _
      have h4 : (wordB p.2).length = 8 := wordB_len8 _
      have := ih (by simp at h; omega) (uintB_short _ (by simp at h; omega))
      simp only [bodyB, List.flatMap_cons, List.length_append, List.length_cons] at this ⊢
      omega
  have h3 : (wordB (hashB (bytesHead l))).length = 8 := wordB_len8 _
  unfold bytesOf bytesHead at *
  simp only [List.length_append]
  omega
theorem makeOf_bound (l : List (Nat × Nat)) : (makeOf l).1.length ≤ 2000000 := by
  unfold makeOf
  split
  · simp
  · split
    · simp
    · split
      · simp
      · exact bytesOf_bound _ (by rw [(sortedP_perm l).length_eq]; omega)
theorem mergeOf_bound (bss : List (List UInt8)) : (mergeOf bss).1.length ≤ 2000000 := by
  unfold mergeOf
  split
  · split
    · simp
    · exact bytesOf_bound _ (by omega)
  · simp
theorem pairsOf_len18 (bs : List UInt8) : (pairsOf bs).1.length ≤ 65536 := by
  unfold pairsOf
  split
  · simp
  · rename_i hc
    obtain ⟨q, hq⟩ : ∃ q, pairsGo (RM.mk bs 0).uint.1 (RM.mk bs 0).uint.2 0 [] = q := ⟨_, rfl⟩
    rw [hq]
    cases q with
    | none => simp [pairsEnd]
    | some q =>
      obtain ⟨l, r⟩ := q
      obtain ⟨l2, rfl, h1, -⟩ := pairsGo_rising _ _ _ _ l r hq
      simp only [pairsEnd]
      omega
theorem OwnR.one (w : World) (u : Value) (bs : List UInt8) (n0 : Nat) (hn : n0 ≤ w.heap.size) (hu : IsB w u bs) (hb : BK n0 w u bs) : OwnR n0 (w.alloc (.cells #[u] 25)) (.slice (some ⟨w.heap.size, 0, none⟩) 1 1) [bs] := by
  have hk : Kept (fun _ => False) w (w.alloc (.cells #[u] 25)) := (Kept.refl _ _).alloc _
  refine ⟨[u], ⟨rfl, .inr ⟨w.heap.size, 1, #[u], rfl, hn, heap_alloc_new _ _, Nat.le_refl _, by simp [maxLen], rfl, rfl⟩⟩, rfl, fun i x b hx hb2 => ?_⟩
  match i, hx, hb2 with
  | 0, hx, hb2 =>
    cases hx; cases hb2
    exact ⟨hu.keptF hk (fun _ _ f => f), hb.kept hk (fun _ f => f.elim)⟩
  | i + 1, hx, hb2 => simp at hx

/-- What write, Add leave. -/
def WrEnd (w : World) (a : MAd) (O : Int × DM × JM × MP) (w' : World) : Prop :=
  ∃ a', MemR w' a' O.2.1 O.2.2.1 O.2.2.2 ∧ a'.p = a.p ∧ a'.km = a.km ∧ a'.j = a.j ∧ a'.b = a.b ∧ a'.m = a.m ∧ (∀ k, a'.F k → a.F k ∨ w.heap.size ≤ k) ∧ (∀ k, a'.P k → a.P k ∨ w.heap.size ≤ k) ∧ Kept a.F w w'
section
variable {w w' : World} {a : MAd} {D D' : DM} {J : JM} {M : MP}
/-- A memo's map of ids, turned. -/
theorem MemR.knew (h : MemR w a D J M) {kes' : Array MapEntry} {kclk' : Nat} {kn : List (Nat × Nat)} (hk : KnAt w' a.km kes' kclk' kn) (hkept : Kept (fun k => k = a.km) w w') (hl : kn.length ≤ 65536 * 5) : MemR w' { a with kes := kes', kclk := kclk' } D J { M with known := kn } := by
  obtain ⟨a1, a2, a3, a4⟩ := h.apart
  have hs := h.mem.small
  refine ⟨h.jour.kept hkept (fun k hj (e : k = a.km) => by subst e; exact a2 hj), ⟨(hkept.block a.p (Array.getElem?_eq_some_iff.1 h.mem.cell).1 a4).trans h.mem.cell, hk, rowKept18 h.mem.row hkept (fun g e (e2 : g = a.km) => a3 g (.inl e) (.inr (.inl e2))), fun x hx => OwnB.kept (h.mem.bytes x hx) (fun g e => hkept.block g ((h.mem.bytes x hx).lt g e) (fun (e2 : g = a.km) => a3 g (.inr ⟨x, hx, e⟩) (.inr (.inl e2)))), h.mem.runs, ⟨hs.1, hs.2.1, hs.2.2.1, hs.2.2.2.1, hl⟩⟩, h.kmm, h.out⟩
end
theorem put_fresh {kn fr : List (Nat × Nat)} (hfr : ∀ p ∈ fr, getA p.1 kn = none) (hnd : (fr.map (·.1)).Nodup) {k : Nat} (hk : k < fr.length) : putA fr[k].1 fr[k].2 (kn ++ fr.take k) = kn ++ fr.take (k + 1) := by
  have h1 : getA fr[k].1 (kn ++ fr.take k) = none := by
    rw [getA_append, hfr _ (List.getElem_mem hk)]
    refine getA_of_not_mem (fun hm => ?_)
    obtain ⟨q, hq, e⟩ := List.mem_map.1 hm
    obtain ⟨i, hi, rfl⟩ := List.getElem_of_mem hq
    rw [List.length_take] at hi
    rw [List.getElem_take] at e
    rw [List.Nodup, List.pairwise_map, List.pairwise_iff_getElem] at hnd
    exact hnd i k (by omega) hk (by omega) e
  rw [putA_of_none h1, List.take_succ_eq_append_getElem hk, List.append_assoc]
theorem makeOf_nodup {l : List (Nat × Nat)} (h : (makeOf l).2 = 0) : (l.map (·.1)).Nodup ∧ l.length ≤ 65536 ∧ (∀ p ∈ l, p.1 ≠ 0) ∧ (makeOf l).1 = bytesOf (sortedP l) := by
  unfold makeOf at h ⊢
  split at h
  · cases h
  · rename_i h1
    split at h
    · cases h
    · rename_i h2
      split at h
      · cases h
      · rename_i h3
        rw [if_neg h1, if_neg h2, if_neg h3]
        exact ⟨by simpa using h3, by omega, fun p hp e => h2 ⟨p, hp, e⟩, rfl⟩
end Go.Proofs.YtemilbemdlpkaaaGreatDoor
