/- operations that came in, with a bound on their bytes. -/
import Derived.Test.YtjnhkepgoghogaaDoorRowOp2
import Derived.Test.YtjnhkepgoghogaaDoorRfdW
import Derived.SizedLaws
namespace Go.Proofs.YtjnhkepgoghogaaDoor
open Go.RowKit Go.ChangeShapes Go.WideShapes Go.Deep

section
variable {H : Type} {enc : TypeId × Value → H} {P : Program} {w : World} {base : Nat} {spare : Nat → Bool} {held : Bool}

theorem weightsAll_mem {e : TypeId} : ∀ {l : List (DataW H)} {d : DataW H}, d ∈ l → ∀ n ∈ d.weights P e, n ∈ DataW.weightsAll P e l
  | _ :: _, _, .head _, n, hn => by simp only [DataW.weightsAll, List.mem_append]; exact .inl hn
  | _ :: _, _, .tail _ h, n, hn => by simp only [DataW.weightsAll, List.mem_append]; exact .inr (weightsAll_mem h n hn)

/-- The fields of the structs of a slice that came in, one by one, each of no more weight. -/
theorem fields_of_trodW {t e : TypeId} {fs : Array Field} {fuel : Nat} {cs : List Value} {x : DataW H × List MemPlace} (ht : P.underlying t = some (.slice e)) (he : P.underlying e = some (.struct fs)) (hone : oneCellFields P fs = true) (hC : P.cellsOf e = fs.size)
    (h : DataW.trod enc P w base spare held fuel t cs = some x) :
    cs = [.slice none 0 0] ∨ ∃ (a : Addr) (len cap : Nat), cs = [.slice (some a) len cap] ∧ len ≤ cap ∧ cap ≤ maxLen ∧
      ∀ i, i < len → ∀ (j : Nat) (f : Field), fs[j]? = some f → ∃ (v : Value) (y : DataW H × List MemPlace) (n : Nat), w.cell? (a.add (i * fs.size + j)) = some v ∧ DataW.trod enc P w base spare held n f.type [v] = some y ∧ ∀ z ∈ y.1.weights P f.type, z ∈ x.1.weights P t := by
  rcases open_slice ht h with ⟨h0, -⟩ | ⟨a, len, cap, m, n, D, Pl, hcs, -, hl, hm, hmm, hx, hi⟩
  · exact .inl h0
  · refine .inr ⟨a, len, cap, hcs, hl, hm, fun i hil j f hj => ?_⟩
    have him : i < m := by rw [hmm]; split <;> omega
    obtain ⟨cs', hc, ht'⟩ := hi i him
    rw [hC] at hc
    obtain ⟨ys, n', -, hD, hlen, hyl, hf⟩ := DataW.trod_struct he ht'
    obtain ⟨-, hcl, hat⟩ := World.cells?_some hc
    have hjl : j < fs.size := (Array.getElem?_eq_some_iff.1 hj).1
    obtain ⟨ho, hk⟩ := hone_of hone j f hj
    have hlt : j < cs'.length := by omega
    have hv : cs'[j]? = some cs'[j] := List.getElem?_eq_getElem hlt
    have h1 := hf j f hj
    rw [ho, hk, show (cs'.drop j).take 1 = [cs'[j]] from by rw [List.drop_eq_getElem_cons hlt]; rfl] at h1
    have hys : ∃ y, ys[j]? = some y := ⟨_, List.getElem?_eq_getElem (by omega)⟩
    obtain ⟨y, hy⟩ := hys
    refine ⟨_, y, n', by rw [← Go.Deep.add_add, hat j hjl, hv], h1.trans hy, fun z hz => ?_⟩
    have hDi : D i = .agg (ys.map (·.1)) := (Prod.mk.inj hD).1
    have hz2 : z ∈ (D i).weights P e := by
      rw [hDi]
      simp only [DataW.weights, he]
      exact DataW.weights_mem_each (j := j) (t := f.type) (d := y.1) (by simp [hj]) (by simp [hy]) z hz
    rw [hx]
    simp only [DataW.weights, ht]
    exact List.mem_cons_of_mem _ (List.mem_append_left _ (weightsAll_mem (List.mem_map.2 ⟨i, List.mem_range.2 hil, rfl⟩) z hz2))

theorem lenB_of_trod {t e : TypeId} {fuel : Nat} {a : Option Addr} {l c : Nat} {x : DataW H × List MemPlace} (ht : P.underlying t = some (.slice e)) (hb : P.bytesOf e = 1)
    (h : DataW.trod enc P w base spare held fuel t [.slice a l c] = some x) : l = 0 ∨ ∃ z ∈ x.1.weights P t, l ≤ z := by
  rcases open_slice ht h with ⟨h0, -⟩ | ⟨a, len, cap, m, n, D, Pl, hcs, -, hl, hm, hmm, hx, hi⟩
  · simp at h0; exact .inl h0.2.1
  · simp at hcs
    obtain ⟨-, rfl, -⟩ := hcs
    refine .inr ⟨_, by rw [hx]; simp only [DataW.weights, ht]; exact List.mem_cons_self, ?_⟩
    rw [hb]
    simp
end

theorem inOps2_of_trod {H : Type} {enc : TypeId × Value → H} {w : World} {base : Nat} {spare : Nat → Bool} {held : Bool} {a : Option Addr} {len cap : Nat} {d : DataW H} {ps : List MemPlace}
    (h : DataW.Trod enc Tryd.prog w base spare held 22 (.slice a len cap) d ps) (hwt : ∀ z ∈ d.weights Tryd.prog 22, z ≤ 140737488351232) : ∃ l : List OpV, l.length = len ∧ InOps2 w a len cap l := by
  obtain ⟨l, hl, hin⟩ := inOps_of_trod h
  refine ⟨l, hl, hin, fun o ho => ?_⟩
  obtain ⟨fuel, hf⟩ := h
  rcases fields_of_trodW Tryd.underlying22 Tryd.underlying34 (by kernel_rfl) (by kernel_rfl) hf with hcs | ⟨x, l', c, hcs, -, -, hcell⟩
  · simp [Value.cells] at hcs
    obtain ⟨rfl, rfl, rfl⟩ := hcs
    have : l = [] := List.length_eq_zero_iff.1 hl
    subst this
    simp at ho
  · simp [Value.cells] at hcs
    obtain ⟨rfl, rfl, rfl⟩ := hcs
    obtain ⟨i, hi⟩ := List.mem_iff_getElem?.1 ho
    obtain ⟨hil, hio⟩ := List.getElem?_eq_some_iff.1 hi
    obtain ⟨v, y, n, hc, hy, hz⟩ := hcell i (by omega) 4 _ rfl
    rcases hin.at_ with e | ⟨g, o', hx, hcl⟩
    · subst e; simp at hil
    · cases hx
      have h4 := hcl (i * 5 + 4) _ (by rw [flatO_get l i 4 hil (by omega), hio]; rfl)
      rw [addr_add] at hc
      rw [show (5 : Nat) = _ from rfl] at h4
      have hv : v = .slice o.ba o.bytes.length o.bc := Option.some.inj (hc.symm.trans h4)
      subst hv
      rcases lenB_of_trod Tryd.underlying32 (by kernel_rfl) hy with e | ⟨z, hz1, hz2⟩
      · omega
      · exact Nat.le_trans hz2 (hwt z (hz z hz1))
end Go.Proofs.YtjnhkepgoghogaaDoor
