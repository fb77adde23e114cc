/- from []api.Ref and [][]api.Ref that came in to the words of the walk. -/
import Derived.Test.YtjnhkepgoghogaaGreatDoorRowKit
import Derived.Test.YtjnhkepgoghogaaGreatDoorRsG
import Derived.Test.YtjnhkepgoghogaaGreatDoorRsV
namespace Go.Proofs.YtjnhkepgoghogaaGreatDoor
open Go.RowKit Go.ChangeShapes Go.WideShapes Go.Deep

theorem wf_u64 {n : Int} (h : (Lit.int .u64 n).wf = true) : ∃ x : Nat, n = (x : Int) ∧ x < 18446744073709551616 := by
  simp only [Lit.wf, Bool.and_eq_true, decide_eq_true_eq] at h
  have h' : 0 ≤ n ∧ n ≤ 18446744073709551615 := h
  exact ⟨n.toNat, by omega, by omega⟩
section
variable {H : Type} {enc : TypeId × Value → H} {w : World} {base : Nat} {spare : Nat → Bool} {held : Bool}
theorem word_of_trod {P : Program} {t : TypeId} {fuel : Nat} {v : Value} {x : DataW H × List MemPlace} (ht : P.underlying t = some (.int .u64)) (h : DataW.trod enc P w base spare held fuel t [v] = some x) :
    ∃ n : Nat, v = .int .u64 n ∧ n < 18446744073709551616 := by
  obtain ⟨n, hn, -, hw⟩ := DataW.trod_int ht h
  obtain ⟨k, rfl, hk⟩ := wf_u64 hw
  exact ⟨k, by simpa using hn, hk⟩
theorem text_of_trod {P : Program} {t : TypeId} {fuel : Nat} {v : Value} {x : DataW H × List MemPlace} (ht : P.underlying t = some .string) (h : DataW.trod enc P w base spare held fuel t [v] = some x) :
    ∃ s : ByteArray, v = .string s ∧ s.size ≤ maxLen := by
  obtain ⟨s, hs, -, hw⟩ := DataW.trod_string ht h
  exact ⟨s, by simpa using hs, hw⟩
theorem refs_of_cells {cs : List Value} {fuel : Nat} {x : DataW H × List MemPlace} (hf : DataW.trod enc Tryz.prog w base spare held fuel 30 cs = some x) : ∃ (a : Option Addr) (l : IdsL) (cap : Nat), cs = [.slice a l.length cap] ∧ IsR w (.slice a l.length cap) l ∧ ∀ p ∈ l, p.2 < 18446744073709551616 := by
  rcases fields_of_trod Tryz.underlying30 Tryz.underlying38 (by kernel_rfl) (by kernel_rfl) hf with hcs | ⟨x, l, c, hcs, hl, hm, hcell⟩
  · exact ⟨none, [], 0, hcs, ⟨none, 0, rfl, Nat.le_refl _, by simp [maxLen], .inl rfl⟩, fun p hp => by simp at hp⟩
  · obtain ⟨pl, hpl, hr⟩ := list_of (α := ByteArray × Nat) l (fun i p => w.cell? (x.add (i * 2)) = some (.string p.1) ∧ w.cell? (x.add (i * 2 + 1)) = some (.int .u64 p.2) ∧ p.2 < 18446744073709551616) (fun i hi => by
      obtain ⟨v0, y0, n0, hc0, h0⟩ := hcell i hi 0 _ rfl
      obtain ⟨v1, y1, n1, hc1, h1⟩ := hcell i hi 1 _ rfl
      obtain ⟨f, rfl, -⟩ := text_of_trod Tryz.underlying9 h0
      obtain ⟨t, rfl, ht1⟩ := word_of_trod Tryz.underlying36 h1
      exact ⟨(f, t), hc0, hc1, ht1⟩)
    subst hpl
    refine ⟨some x, pl, c, hcs, ⟨some x, c, rfl, hl, hm, ?_⟩, fun p hp => ?_⟩
    · by_cases hne : pl = []
      · exact .inl hne
      · right
        have hlen : 0 < pl.length := List.length_pos_iff.2 hne
        have hsp := spot_none (x := x) (by
          have := (hr 0 pl[0] (List.getElem?_eq_getElem hlen)).1
          rwa [show x.add (0 * 2) = x from rfl] at this)
        obtain ⟨g, o, sp⟩ := x
        cases hsp
        refine ⟨g, o, rfl, World.block_lt_of_cell? w ⟨g, o, none⟩ (by
          have := (hr 0 pl[0] (List.getElem?_eq_getElem hlen)).1
          rwa [show (⟨g, o, none⟩ : Addr).add (0 * 2) = ⟨g, o, none⟩ from rfl] at this), fun i u hu => ?_⟩
        have hil : i < pl.length * 2 := by rw [← flatR_length]; exact (List.getElem?_eq_some_iff.1 hu).1
        obtain ⟨j, hj⟩ : ∃ j, i = j * 2 ∨ i = j * 2 + 1 := ⟨i / 2, by omega⟩
        have hk : j < pl.length := by omega
        obtain ⟨h0, h1, -⟩ := hr j _ (List.getElem?_eq_getElem hk)
        obtain ⟨g0, g1⟩ := flatR_get pl j hk
        rw [addr_add] at h0 h1
        rcases hj with rfl | rfl
        · rw [g0] at hu
          cases hu
          exact h0
        · rw [g1] at hu
          cases hu
          exact h1
    · obtain ⟨i, hi⟩ := List.mem_iff_getElem?.1 hp
      exact (hr i p hi).2.2
theorem refs_of_trod {a : Option Addr} {len cap : Nat} {d : DataW H} {ps : List MemPlace} (h : DataW.Trod enc Tryz.prog w base spare held 30 (.slice a len cap) d ps) : ∃ l : IdsL, l.length = len ∧ IsR w (.slice a len cap) l ∧ ∀ p ∈ l, p.2 < 18446744073709551616 := by
  obtain ⟨fuel, hf⟩ := h
  obtain ⟨a', l, c', he, hB⟩ := refs_of_cells hf
  simp [Value.cells] at he
  obtain ⟨rfl, rfl, rfl⟩ := he
  exact ⟨l, rfl, hB⟩
end
end Go.Proofs.YtjnhkepgoghogaaGreatDoor

/- from [][]api.Ref that came in to the words of the walk. -/
namespace Go.Proofs.YtjnhkepgoghogaaGreatDoor
open Go.RowKit Go.ChangeShapes Go.WideShapes Go.Deep

section
variable {H : Type} {enc : TypeId × Value → H} {w : World} {base : Nat} {spare : Nat → Bool} {held : Bool}
theorem rrows_of_trod {a : Option Addr} {len cap : Nat} {d : DataW H} {ps : List MemPlace} (h : DataW.Trod enc Tryz.prog w base spare held 22 (.slice a len cap) d ps) : ∃ ls : List IdsL, ls.length = len ∧ RowsR w (.slice a len cap) ls := by
  obtain ⟨fuel, hf⟩ := h
  rcases open_slice Tryz.underlying22 hf with ⟨h0, -⟩ | ⟨a', len', cap', m, n, D, Pl, hcs, -, hl, hm, hmm, -, hi⟩
  · simp [Value.cells] at h0
    obtain ⟨rfl, rfl, rfl⟩ := h0
    exact ⟨[], rfl, none, 0, rfl, Nat.le_refl _, by simp [maxLen], fun i l h => by simp at h⟩
  · simp [Value.cells] at hcs
    obtain ⟨rfl, rfl, rfl⟩ := hcs
    have hC : Tryz.prog.cellsOf 30 = 1 := by kernel_rfl
    obtain ⟨pl, hpl, hr⟩ := list_of (α := IdsL) len (fun i l => ∃ b c, w.cell? (a'.add i) = some (.slice b l.length c) ∧ IsR w (.slice b l.length c) l ∧ ∀ p ∈ l, p.2 < 18446744073709551616) (fun i hil => by
      have him : i < m := by rw [hmm]; split <;> omega
      obtain ⟨cs', hc, ht'⟩ := hi i him
      obtain ⟨b, l, c, rfl, hI⟩ := refs_of_cells ht'
      rw [hC] at hc
      obtain ⟨-, -, hat⟩ := World.cells?_some hc
      have h1 := hat 0 (by omega)
      rw [Nat.mul_one, show (a'.add i).add 0 = a'.add i from rfl] at h1
      exact ⟨l, b, c, h1, hI⟩)
    subst hpl
    refine ⟨pl, rfl, some a', cap, rfl, hl, hm, fun i l hil => ?_⟩
    obtain ⟨b, c, hc, hI⟩ := hr i l hil
    have hsp : a'.spot = none := by
      have h0 : 0 < pl.length := by have := (List.getElem?_eq_some_iff.1 hil).1; omega
      obtain ⟨b0, c0, h1, -⟩ := hr 0 pl[0] (List.getElem?_eq_getElem h0)
      exact spot_none h1
    obtain ⟨g, o, sp⟩ := a'
    cases hsp
    exact ⟨g, o, _, _, rfl, by rwa [addr_add] at hc, hI⟩
end
end Go.Proofs.YtjnhkepgoghogaaGreatDoor
