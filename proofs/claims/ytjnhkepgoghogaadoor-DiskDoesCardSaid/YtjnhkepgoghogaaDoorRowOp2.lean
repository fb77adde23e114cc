/- from []espalierlaw02.Op that came in to the words of the walk. -/
import Derived.Test.YtjnhkepgoghogaaDoorRowKit
import Derived.Test.YtjnhkepgoghogaaDoorLaw02C
namespace Go.Proofs.YtjnhkepgoghogaaDoor
open Go.RowKit Go.ChangeShapes Go.WideShapes Go.Deep

theorem wf_i64 {n : Int} (h : (Lit.int .i64 n).wf = true) : -9223372036854775808 ≤ n ∧ n ≤ 9223372036854775807 := by
  simp only [Lit.wf, Bool.and_eq_true, decide_eq_true_eq] at h
  exact h

theorem int_of_trod {H : Type} {enc : TypeId × Value → H} {P : Program} {w : World} {base : Nat} {spare : Nat → Bool} {held : Bool} {t : TypeId} {fuel : Nat} {v : Value} {x : DataW H × List MemPlace} (ht : P.underlying t = some (.int .i64)) (h : DataW.trod enc P w base spare held fuel t [v] = some x) :
    ∃ n : Int, v = .int .i64 n ∧ -9223372036854775808 ≤ n ∧ n ≤ 9223372036854775807 := by
  obtain ⟨n, hn, -, hw⟩ := DataW.trod_int ht h
  simp only [Lit.wf, Bool.and_eq_true, decide_eq_true_eq] at hw
  exact ⟨n, by simpa using hn, hw⟩

theorem string_of_trod {H : Type} {enc : TypeId × Value → H} {P : Program} {w : World} {base : Nat} {spare : Nat → Bool} {held : Bool} {t : TypeId} {fuel : Nat} {v : Value} {x : DataW H × List MemPlace} (ht : P.underlying t = some .string) (h : DataW.trod enc P w base spare held fuel t [v] = some x) :
    ∃ s : ByteArray, v = .string s ∧ s.size ≤ maxLen := by
  obtain ⟨s, hs, -, hw⟩ := DataW.trod_string ht h
  exact ⟨s, by simpa using hs, hw⟩

theorem inOps_of_trod {H : Type} {enc : TypeId × Value → H} {w : World} {base : Nat} {spare : Nat → Bool} {held : Bool} {a : Option Addr} {len cap : Nat} {d : DataW H} {ps : List MemPlace}
    (h : DataW.Trod enc Tryd.prog w base spare held 22 (.slice a len cap) d ps) : ∃ l : List OpV, l.length = len ∧ InOps w a len cap l := by
  obtain ⟨fuel, hf⟩ := h
  rcases fields_of_trod Tryd.underlying22 Tryd.underlying34 (by kernel_rfl) (by kernel_rfl) hf with hcs | ⟨x, l, c, hcs, hl, hm, hcell⟩
  · simp [Value.cells] at hcs
    obtain ⟨rfl, rfl, rfl⟩ := hcs
    exact ⟨[], rfl, rfl, Nat.le_refl _, by simp [maxLen], .inl rfl, fun o ho => by simp at ho⟩
  · simp [Value.cells] at hcs
    obtain ⟨rfl, rfl, rfl⟩ := hcs
    obtain ⟨ol, hol, hr⟩ := list_of (α := OpV) len (fun i o => (∀ j u, o.cells[j]? = some u → w.cell? (x.add (i * 5 + j)) = some u) ∧ IsB w o.bv o.bytes ∧ o.name.size ≤ maxLen ∧ o.to.size ≤ maxLen ∧ -9223372036854775808 ≤ o.kind ∧ o.kind ≤ 9223372036854775807 ∧ -9223372036854775808 ≤ o.n ∧ o.n ≤ 9223372036854775807) (fun i hi => by
      obtain ⟨v0, y0, n0, hc0, h0⟩ := hcell i hi 0 _ rfl
      obtain ⟨v1, y1, n1, hc1, h1⟩ := hcell i hi 1 _ rfl
      obtain ⟨v2, y2, n2, hc2, h2⟩ := hcell i hi 2 _ rfl
      obtain ⟨v3, y3, n3, hc3, h3⟩ := hcell i hi 3 _ rfl
      obtain ⟨v4, y4, n4, hc4, h4⟩ := hcell i hi 4 _ rfl
      obtain ⟨kd, rfl, hk1, hk2⟩ := int_of_trod Tryd.underlying3 h0
      obtain ⟨s1, rfl, hs1⟩ := string_of_trod Tryd.underlying9 h1
      obtain ⟨s2, rfl, hs2⟩ := string_of_trod Tryd.underlying9 h2
      obtain ⟨nn, rfl, hn1, hn2⟩ := int_of_trod Tryd.underlying3 h3
      obtain ⟨ba, bc, bs, rfl, hB⟩ := isB_of_trod Tryd.underlying32 Tryd.underlying5 (by kernel_rfl) h4
      refine ⟨⟨kd, s1, s2, nn, bs, ba, bc⟩, ?_, hB, hs1, hs2, hk1, hk2, hn1, hn2⟩
      intro j u hu
      match j, hu with
      | 0, hu => cases hu; exact hc0
      | 1, hu => cases hu; exact hc1
      | 2, hu => cases hu; exact hc2
      | 3, hu => cases hu; exact hc3
      | 4, hu => cases hu; exact hc4
      | j + 5, hu => simp [OpV.cells] at hu)
    refine ⟨ol, hol, hol.symm, hl, hm, ?_, fun o ho => ?_⟩
    · by_cases hne : ol = []
      · exact .inl hne
      · right
        have hlen : 0 < ol.length := List.length_pos_iff.2 hne
        have hsp := spot_none (x := x) (by
          have := (hr 0 ol[0] (List.getElem?_eq_getElem hlen)).1 0 _ rfl
          rwa [show x.add (0 * 5 + 0) = x from rfl] at this)
        obtain ⟨g, o, sp⟩ := x
        cases hsp
        refine ⟨g, o, rfl, fun i u hu => ?_⟩
        have hil : i < ol.length * 5 := by rw [← flatO_length]; exact (List.getElem?_eq_some_iff.1 hu).1
        have hi5 : i = i / 5 * 5 + i % 5 := by omega
        have hk : i / 5 < ol.length := by omega
        rw [hi5, flatO_get ol (i / 5) (i % 5) hk (by omega)] at hu
        have := (hr (i / 5) _ (List.getElem?_eq_getElem hk)).1 (i % 5) u hu
        rw [addr_add, ← hi5] at this
        exact this
    · obtain ⟨i, hi⟩ := List.mem_iff_getElem?.1 ho
      exact (hr i o hi).2
end Go.Proofs.YtjnhkepgoghogaaDoor
