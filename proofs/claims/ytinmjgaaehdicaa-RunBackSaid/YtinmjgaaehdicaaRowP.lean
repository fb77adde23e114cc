/- from []api.Pair and bytes that came in to the words of the walks. -/
import Derived.Test.YtinmjgaaehdicaaRowOps
import Derived.Test.YtinmjgaaehdicaaRunB
namespace Go.Proofs.Ytinmjgaaehdicaa
open Go.RowKit Go.ChangeShapes Go.WideShapes Go.Deep

theorem wf_int64 {n : Int} (h : (Lit.int .i64 n).wf = true) : -9223372036854775808 ≤ n ∧ n ≤ 9223372036854775807 := by
  simp only [Lit.wf, Bool.and_eq_true, decide_eq_true_eq] at h
  exact h
theorem wf_u8 {n : Int} (h : (Lit.int .u8 n).wf = true) : ∃ x : UInt8, n = (x.toNat : Int) := by
  simp only [Lit.wf, Bool.and_eq_true, decide_eq_true_eq] at h
  have h' : 0 ≤ n ∧ n ≤ 255 := h
  refine ⟨UInt8.ofNat n.toNat, ?_⟩
  rw [UInt8.toNat_ofNat']
  omega
theorem wf_u64 {n : Int} (h : (Lit.int .u64 n).wf = true) : ∃ x : Nat, n = (x : Int) ∧ x < 18446744073709551616 := by
  simp only [Lit.wf, Bool.and_eq_true, decide_eq_true_eq] at h
  have h' : 0 ≤ n ∧ n ≤ 18446744073709551615 := h
  exact ⟨n.toNat, by omega, by omega⟩

section
variable {H : Type} {enc : TypeId × Value → H} {w : World} {base : Nat} {spare : Nat → Bool} {held : Bool}
theorem word_of_trod {P : Program} {t : TypeId} {fuel : Nat} {v : Value} {x : DataW H × List MemPlace} (ht : P.underlying t = some (.int .u64)) (h : DataW.trod enc P w base spare held fuel t [v] = some x) :
    ∃ n : Nat, v = .int .u64 n ∧ n < 18446744073709551616 := by
  obtain ⟨n, hn, -, hw⟩ := DataW.trod_int ht h
  obtain ⟨k, rfl, hk⟩ := wf_u64 hw
  exact ⟨k, by simpa using hn, hk⟩
theorem bytes_of_trod {a : Option Addr} {len cap : Nat} {d : DataW H} {ps : List MemPlace} (h : DataW.Trod enc Try.prog w base spare held 22 (.slice a len cap) d ps) : ∃ l : List UInt8, l.length = len ∧ IsB w (.slice a len cap) l := by
  obtain ⟨fuel, hf⟩ := h
  obtain ⟨a', c', bs, he, hB⟩ := isB_of_trod Try.underlying22 Try.underlying5 (by kernel_rfl) hf
  cases he
  exact ⟨bs, rfl, hB⟩
theorem pairs_of_cells {cs : List Value} {fuel : Nat} {x : DataW H × List MemPlace} (hf : DataW.trod enc Try.prog w base spare held fuel 54 cs = some x) : ∃ (a : Option Addr) (l : List (Nat × Nat)) (cap : Nat), cs = [.slice a l.length cap] ∧ IsP w (.slice a l.length cap) l := by
  rcases fields_of_trod Try.underlying54 Try.underlying75 (by kernel_rfl) (by kernel_rfl) hf with hcs | ⟨x, l, c, hcs, hl, hm, hcell⟩
  · exact ⟨none, [], 0, hcs, none, 0, rfl, Nat.le_refl _, by simp [maxLen], fun p hp => by simp at hp, .inl rfl⟩
  · obtain ⟨pl, hpl, hr⟩ := list_of (α := Nat × Nat) l (fun i p => w.cell? (x.add (i * 2)) = some (.int .u64 p.1) ∧ w.cell? (x.add (i * 2 + 1)) = some (.int .u64 p.2) ∧ p.1 < 18446744073709551616 ∧ p.2 < 18446744073709551616) (fun i hi => by
      obtain ⟨v0, y0, n0, hc0, h0⟩ := hcell i hi 0 _ rfl
      obtain ⟨v1, y1, n1, hc1, h1⟩ := hcell i hi 1 _ rfl
      obtain ⟨f, rfl, hf1⟩ := word_of_trod Try.underlying62 h0
      obtain ⟨t, rfl, ht1⟩ := word_of_trod Try.underlying62 h1
      exact ⟨(f, t), hc0, hc1, hf1, ht1⟩)
    subst hpl
    refine ⟨some x, pl, c, hcs, some x, c, rfl, hl, hm, fun p hp => ?_, ?_⟩
    · obtain ⟨i, hi⟩ := List.mem_iff_getElem?.1 hp
      exact (hr i p hi).2.2
    · by_cases hne : pl = []
      · exact .inl hne
      · right
        have hlen : 0 < pl.length := List.length_pos_iff.2 hne
        have hsp := spot_none (x := x) (by
          have := (hr 0 pl[0] (List.getElem?_eq_getElem hlen)).1
          rwa [show x.add (0 * 2) = x from rfl] at this)
        obtain ⟨g, o, sp⟩ := x
        cases hsp
        refine ⟨g, o, rfl, World.block_lt_of_cell? w ⟨g, o, none⟩ (by
          have := (hr 0 pl[0] (List.getElem?_eq_getElem hlen)).1
          rwa [show (⟨g, o, none⟩ : Addr).add (0 * 2) = ⟨g, o, none⟩ from rfl] at this), fun i u hu => ?_⟩
        have hil : i < pl.length * 2 := by rw [← flatP_length]; exact (List.getElem?_eq_some_iff.1 hu).1
        obtain ⟨j, hj⟩ : ∃ j, i = j * 2 ∨ i = j * 2 + 1 := ⟨i / 2, by omega⟩
        have hk : j < pl.length := by omega
        obtain ⟨h0, h1, -⟩ := hr j _ (List.getElem?_eq_getElem hk)
        obtain ⟨g0, g1⟩ := flatP_get pl j hk
        rw [addr_add] at h0 h1
        rcases hj with rfl | rfl
        · rw [g0] at hu
          cases hu
          exact h0
        · rw [g1] at hu
          cases hu
          exact h1
theorem pairs_of_trod {a : Option Addr} {len cap : Nat} {d : DataW H} {ps : List MemPlace} (h : DataW.Trod enc Try.prog w base spare held 54 (.slice a len cap) d ps) : ∃ l : List (Nat × Nat), l.length = len ∧ IsP w (.slice a len cap) l := by
  obtain ⟨fuel, hf⟩ := h
  obtain ⟨a', l, c', he, hB⟩ := pairs_of_cells hf
  simp [Value.cells] at he
  obtain ⟨rfl, rfl, rfl⟩ := he
  exact ⟨l, rfl, hB⟩
end
end Go.Proofs.Ytinmjgaaehdicaa
