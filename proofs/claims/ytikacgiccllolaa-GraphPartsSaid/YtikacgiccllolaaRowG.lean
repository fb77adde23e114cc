/- from []int and []espalierlaw11.Born that came in to the words of the walks. -/
import Derived.Test.YtikacgiccllolaaRowKit
import Derived.Test.YtikacgiccllolaaBornA
namespace Go.Proofs.Ytikacgiccllolaa
open Go.RowKit Go.ChangeShapes Go.WideShapes Go.Deep

theorem wf_i64 {n : Int} (h : (Lit.int .i64 n).wf = true) : -9223372036854775808 ≤ n ∧ n < 9223372036854775808 := by
  simp only [Lit.wf, Bool.and_eq_true, decide_eq_true_eq] at h
  have h' : -9223372036854775808 ≤ n ∧ n ≤ 9223372036854775807 := h
  omega
theorem wf_id {n : Int} (h : (Lit.int .u64 n).wf = true) : ∃ x : Nat, n = (x : Int) ∧ x < 18446744073709551616 := by
  simp only [Lit.wf, Bool.and_eq_true, decide_eq_true_eq] at h
  have h' : 0 ≤ n ∧ n ≤ 18446744073709551615 := h
  exact ⟨n.toNat, by omega, by omega⟩
section
variable {H : Type} {enc : TypeId × Value → H} {w : World} {base : Nat} {spare : Nat → Bool} {held : Bool}
theorem isZ_of_trod {P : Program} {t e : TypeId} {fuel : Nat} {cs : List Value} {x : DataW H × List MemPlace} (ht : P.underlying t = some (.slice e)) (he : P.underlying e = some (.int .i64)) (hc : P.cellsOf e = 1)
    (h : DataW.trod enc P w base spare held fuel t cs = some x) : ∃ (a : Option Addr) (c : Nat) (l : List Int), cs = [.slice a l.length c] ∧ IsZ w (.slice a l.length c) l ∧ ∀ n ∈ l, -9223372036854775808 ≤ n ∧ n < 9223372036854775808 := by
  rcases open_ints ht he hc h with ⟨hcs, -⟩ | ⟨a, len, cap, zs, hcs, -, hl, hm, hz, -, hcell, hwz⟩
  · exact ⟨none, 0, [], hcs, ⟨none, 0, rfl, Nat.le_refl _, by simp [maxLen], .inl rfl⟩, by simp⟩
  · have hzl : len ≤ zs.length := by rw [hz]; split <;> omega
    have hll : (zs.take len).length = len := by simp; omega
    refine ⟨some a, cap, zs.take len, by rw [hll]; exact hcs, ?_, fun n hn => wf_i64 (hwz n (List.mem_of_mem_take hn))⟩
    by_cases h0 : len = 0
    · exact ⟨some a, cap, rfl, by rw [hll]; exact hl, hm, .inl (List.length_eq_zero_iff.1 (by rw [hll]; exact h0))⟩
    · have hsp := spot_none (x := a) (by have := hcell 0 (by omega); rwa [show a.add 0 = a from rfl] at this)
      obtain ⟨g, o, sp⟩ := a
      cases hsp
      refine ⟨some ⟨g, o, none⟩, cap, rfl, by rw [hll]; exact hl, hm, .inr ⟨g, o, rfl, World.block_lt_of_cell? w ⟨g, o, none⟩ (hcell 0 (by omega)), fun k hk => ?_⟩⟩
      have hk' : k < zs.length := by rw [hll] at hk; omega
      have hci := hcell k hk'
      rw [addr_add] at hci
      rw [hci, List.getElem_take, List.getD_eq_getElem?_getD, List.getElem?_eq_getElem hk', Option.getD_some]
theorem ints_of_trod {a : Option Addr} {len cap : Nat} {d : DataW H} {ps : List MemPlace} (h : DataW.Trod enc Try.prog w base spare held 23 (.slice a len cap) d ps) : ∃ l : List Int, l.length = len ∧ IsZ w (.slice a len cap) l := by
  obtain ⟨fuel, hf⟩ := h
  obtain ⟨a', c', l, he, hB, -⟩ := isZ_of_trod Try.underlying23 Try.underlying3 (by kernel_rfl) hf
  simp [Value.cells] at he
  obtain ⟨rfl, rfl, rfl⟩ := he
  exact ⟨l, rfl, hB⟩
theorem borns_of_trod {a : Option Addr} {len cap : Nat} {d : DataW H} {ps : List MemPlace} (h : DataW.Trod enc Try.prog w base spare held 22 (.slice a len cap) d ps) : ∃ l : List BornM, l.length = len ∧ IsBn w (.slice a len cap) l := by
  obtain ⟨fuel, hf⟩ := h
  rcases fields_of_trod Try.underlying22 Try.underlying62 (by kernel_rfl) (by kernel_rfl) hf with hcs | ⟨x, l, c, hcs, hl, hm, hcell⟩
  · simp [Value.cells] at hcs
    obtain ⟨rfl, rfl, rfl⟩ := hcs
    exact ⟨[], rfl, none, 0, rfl, Nat.le_refl _, by simp [maxLen], by simp, .inl rfl⟩
  · simp [Value.cells] at hcs
    obtain ⟨rfl, rfl, rfl⟩ := hcs
    obtain ⟨pl, hpl, hr⟩ := list_of (α := BornM) len (fun i b => (∃ ba bc, IsZ w (.slice ba b.back.length bc) b.back ∧ w.cell? (x.add (i * 5)) = some (.slice ba b.back.length bc)) ∧ w.cell? (x.add (i * 5 + 1)) = some (.int .i64 b.date) ∧ w.cell? (x.add (i * 5 + 2)) = some (.bool b.blob) ∧ w.cell? (x.add (i * 5 + 3)) = some (.bool b.lost) ∧ w.cell? (x.add (i * 5 + 4)) = some (.bool b.bare) ∧ b.Fit) (fun i hi => by
      obtain ⟨v0, y0, n0, hc0, h0⟩ := hcell i hi 0 _ rfl
      obtain ⟨v1, y1, n1, hc1, h1⟩ := hcell i hi 1 _ rfl
      obtain ⟨v2, y2, n2, hc2, h2⟩ := hcell i hi 2 _ rfl
      obtain ⟨v3, y3, n3, hc3, h3⟩ := hcell i hi 3 _ rfl
      obtain ⟨v4, y4, n4, hc4, h4⟩ := hcell i hi 4 _ rfl
      obtain ⟨ba, bc, bl, e0, hz, hzb⟩ := isZ_of_trod Try.underlying23 Try.underlying3 (by kernel_rfl) h0
      obtain rfl : v0 = .slice ba bl.length bc := by simpa using e0
      obtain ⟨k, hk, -, hkw⟩ := DataW.trod_int Try.underlying2 h1
      obtain rfl : v1 = .int .i64 k := by simpa using hk
      obtain ⟨b2, e2, -⟩ := DataW.trod_bool Try.underlying4 h2
      obtain ⟨b3, e3, -⟩ := DataW.trod_bool Try.underlying4 h3
      obtain ⟨b4, e4, -⟩ := DataW.trod_bool Try.underlying4 h4
      obtain rfl : v2 = .bool b2 := by simpa using e2
      obtain rfl : v3 = .bool b3 := by simpa using e3
      obtain rfl : v4 = .bool b4 := by simpa using e4
      exact ⟨⟨bl, k, b2, b3, b4⟩, ⟨ba, bc, hz, hc0⟩, hc1, hc2, hc3, hc4, (wf_i64 hkw).1, (wf_i64 hkw).2, hzb⟩)
    subst hpl
    refine ⟨pl, rfl, some x, cap, rfl, hl, hm, fun b hb => ?_, ?_⟩
    · obtain ⟨i, hi⟩ := List.mem_iff_getElem?.1 hb
      exact (hr i b hi).2.2.2.2.2
    · by_cases hne : pl = []
      · exact .inl hne
      · right
        have hlen : 0 < pl.length := List.length_pos_iff.2 hne
        have h00 := (hr 0 pl[0] (List.getElem?_eq_getElem hlen)).1
        obtain ⟨ba, bc, -, hcx⟩ := h00
        rw [show x.add (0 * 5) = x from rfl] at hcx
        have hsp := spot_none (x := x) hcx
        obtain ⟨g, o, sp⟩ := x
        cases hsp
        refine ⟨g, o, rfl, World.block_lt_of_cell? w ⟨g, o, none⟩ hcx, fun k hk => ?_⟩
        obtain ⟨⟨ba, bc, q0, q1⟩, q2, q3, q4, q5, -⟩ := hr k _ (List.getElem?_eq_getElem hk)
        rw [addr_add] at q1 q2 q3 q4 q5
        exact ⟨ba, bc, q0, q1, q2, q3, q4, q5⟩
end
end Go.Proofs.Ytikacgiccllolaa
