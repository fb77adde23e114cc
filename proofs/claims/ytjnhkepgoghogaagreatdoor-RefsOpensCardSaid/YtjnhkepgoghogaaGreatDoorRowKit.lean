/- from a row of integers that came in to the words of the walks. -/
import Derived.Test.YtjnhkepgoghogaaGreatDoorBytes
import Derived.Deep.Slices
import Derived.Deep.Fields
import Derived.ChangeSame
namespace Go.Proofs.YtjnhkepgoghogaaGreatDoor
open Go.RowKit

theorem spot_none {w : World} {x : Addr} {v : Value} (h : w.cell? x = some v) : x.spot = none := by
  unfold World.cell? at h
  split at h
  · split at h
    · cases h
    · rename_i hs; simpa using hs
  · cases h

/-- A row of bytes that came in, as bytes. -/
theorem isB_of_row {w : World} {a : Option Addr} {len cap : Nat} {zs : List Int}
    (h : (a = none ∧ len = 0 ∧ cap = 0 ∧ zs = []) ∨ ∃ x, a = some x ∧ len ≤ cap ∧ cap ≤ maxLen ∧ zs.length = cap ∧ (∀ i, i < zs.length → w.cell? (x.add i) = some (.int .u8 (zs.getD i 0))) ∧ ∀ n ∈ zs, (Lit.int .u8 n).wf = true) :
    ∃ bs : List UInt8, bs.length = len ∧ IsB w (.slice a len cap) bs := by
  rcases h with ⟨rfl, rfl, rfl, rfl⟩ | ⟨x, rfl, hl, hm, hz, hc, hw⟩
  · exact ⟨[], rfl, none, 0, rfl, Nat.le_refl _, by simp [maxLen], .inl rfl⟩
  · refine ⟨(zs.take len).map (fun n => UInt8.ofNat n.toNat), by simp; omega, some x, cap, by simp; omega, by simp; omega, hm, ?_⟩
    by_cases h0 : len = 0
    · left; subst h0; simp
    · right
      have hx := spot_none (x := x) (by have := hc 0 (by omega); rwa [show x.add 0 = x from rfl] at this)
      obtain ⟨g, o, sp⟩ := x
      cases hx
      refine ⟨g, o, rfl, World.block_lt_of_cell? w ⟨g, o, none⟩ (hc 0 (by omega)), fun i v hv => ?_⟩
      have hi : i < len ∧ i < zs.length := by
        have := (List.getElem?_eq_some_iff.1 hv).1
        simp [bytesV] at this; omega
      have hci := hc i hi.2
      rw [addr_add] at hci
      rw [hci]
      have hb : zs.getD i 0 ∈ zs := by
        rw [List.getD_eq_getElem?_getD, List.getElem?_eq_getElem hi.2]; exact List.getElem_mem _
      have hwf := hw _ hb
      have hbd : 0 ≤ zs.getD i 0 ∧ zs.getD i 0 ≤ 255 := by
        simp only [Lit.wf, Bool.and_eq_true, decide_eq_true_eq] at hwf
        exact hwf
      have hv2 : v = .int .u8 ((UInt8.ofNat (zs.getD i 0).toNat).toNat : Int) := by
        simp only [bytesV, List.map_map, List.getElem?_map, List.getElem?_take, hi.1, if_true, List.getElem?_eq_getElem hi.2, Option.map_some, Option.some.injEq, Function.comp] at hv
        rw [← hv, List.getD_eq_getElem?_getD, List.getElem?_eq_getElem hi.2]; rfl
      rw [hv2]
      have : (UInt8.ofNat (zs.getD i 0).toNat).toNat = (zs.getD i 0).toNat := by
        rw [UInt8.toNat_ofNat']; omega
      rw [this, Int.toNat_of_nonneg hbd.1]
end Go.Proofs.YtjnhkepgoghogaaGreatDoor

/- from slices of structs that came in to the words of the walks. -/
namespace Go.Proofs.YtjnhkepgoghogaaGreatDoor
open Go.RowKit Go.ChangeShapes Go.WideShapes Go.Deep

section
variable {H : Type} {enc : TypeId × Value → H} {P : Program} {w : World} {base : Nat} {spare : Nat → Bool} {held : Bool}

/-- The fields of the structs of a slice that came in, one by one. -/
theorem fields_of_trod {t e : TypeId} {fs : Array Field} {fuel : Nat} {cs : List Value} {x : DataW H × List MemPlace} (ht : P.underlying t = some (.slice e)) (he : P.underlying e = some (.struct fs)) (hone : oneCellFields P fs = true) (hC : P.cellsOf e = fs.size)
    (h : DataW.trod enc P w base spare held fuel t cs = some x) :
    cs = [.slice none 0 0] ∨ ∃ (a : Addr) (len cap : Nat), cs = [.slice (some a) len cap] ∧ len ≤ cap ∧ cap ≤ maxLen ∧
      ∀ i, i < len → ∀ (j : Nat) (f : Field), fs[j]? = some f → ∃ (v : Value) (y : DataW H × List MemPlace) (n : Nat), w.cell? (a.add (i * fs.size + j)) = some v ∧ DataW.trod enc P w base spare held n f.type [v] = some y := by
  rcases open_slice ht h with ⟨h0, -⟩ | ⟨a, len, cap, m, n, D, Pl, hcs, -, hl, hm, hmm, -, hi⟩
  · exact .inl h0
  · refine .inr ⟨a, len, cap, hcs, hl, hm, fun i hil j f hj => ?_⟩
    have him : i < m := by rw [hmm]; split <;> omega
    obtain ⟨cs', hc, ht'⟩ := hi i him
    rw [hC] at hc
    obtain ⟨ys, n', -, -, hlen, hyl, hf⟩ := DataW.trod_struct he ht'
    obtain ⟨-, hcl, hat⟩ := World.cells?_some hc
    have hjl : j < fs.size := (Array.getElem?_eq_some_iff.1 hj).1
    obtain ⟨ho, hk⟩ := hone_of hone j f hj
    have hlt : j < cs'.length := by omega
    have hv : cs'[j]? = some cs'[j] := List.getElem?_eq_getElem hlt
    have h1 := hf j f hj
    rw [ho, hk, show (cs'.drop j).take 1 = [cs'[j]] from by rw [List.drop_eq_getElem_cons hlt]; rfl] at h1
    have hys : ∃ y, ys[j]? = some y := ⟨_, List.getElem?_eq_getElem (by omega)⟩
    obtain ⟨y, hy⟩ := hys
    exact ⟨_, y, n', by rw [← Go.Deep.add_add, hat j hjl, hv], h1.trans hy⟩

/-- A slice of bytes that came in. -/
theorem isB_of_trod {t e : TypeId} {fuel : Nat} {v : Value} {x : DataW H × List MemPlace} (ht : P.underlying t = some (.slice e)) (he : P.underlying e = some (.int .u8)) (hc : P.cellsOf e = 1)
    (h : DataW.trod enc P w base spare held fuel t [v] = some x) : ∃ (a : Option Addr) (c : Nat) (bs : List UInt8), v = .slice a bs.length c ∧ IsB w v bs := by
  rcases open_ints ht he hc h with ⟨hcs, -⟩ | ⟨a, len, cap, zs, hcs, -, hl, hm, hz, -, hcell, hwz⟩
  · obtain rfl : v = .slice none 0 0 := by simpa using hcs
    exact ⟨none, 0, [], rfl, none, 0, rfl, Nat.le_refl _, by simp [maxLen], .inl rfl⟩
  · obtain rfl : v = .slice (some a) len cap := by simpa using hcs
    have hzl : len ≤ zs.length := by rw [hz]; split <;> omega
    refine ⟨some a, cap, (zs.take len).map (fun n => UInt8.ofNat n.toNat), by simp; omega, ?_⟩
    by_cases h0 : len = 0
    · subst h0
      exact ⟨some a, cap, by simp, by simp, hm, .inl (by simp)⟩
    · have hsp := spot_none (x := a) (by have := hcell 0 (by omega); rwa [show a.add 0 = a from rfl] at this)
      obtain ⟨g, o, sp⟩ := a
      cases hsp
      refine ⟨some ⟨g, o, none⟩, cap, by simp; omega, by simp; omega, hm, .inr ⟨g, o, rfl, World.block_lt_of_cell? w ⟨g, o, none⟩ (hcell 0 (by omega)), fun i u hu => ?_⟩⟩
      have hi : i < len ∧ i < zs.length := by
        have := (List.getElem?_eq_some_iff.1 hu).1
        simp [bytesV] at this; omega
      have hci := hcell i hi.2
      rw [addr_add] at hci
      rw [hci]
      have hb : zs.getD i 0 ∈ zs := by
        rw [List.getD_eq_getElem?_getD, List.getElem?_eq_getElem hi.2]; exact List.getElem_mem _
      have hwf := hwz _ hb
      have hbd : 0 ≤ zs.getD i 0 ∧ zs.getD i 0 ≤ 255 := by
        simp only [Lit.wf, Bool.and_eq_true, decide_eq_true_eq] at hwf
        exact hwf
      have hv2 : u = .int .u8 ((UInt8.ofNat (zs.getD i 0).toNat).toNat : Int) := by
        simp only [bytesV, List.map_map, List.getElem?_map, List.getElem?_take, hi.1, if_true, List.getElem?_eq_getElem hi.2, Option.map_some, Option.some.injEq, Function.comp] at hu
        rw [← hu, List.getD_eq_getElem?_getD, List.getElem?_eq_getElem hi.2]; rfl
      rw [hv2]
      have : (UInt8.ofNat (zs.getD i 0).toNat).toNat = (zs.getD i 0).toNat := by
        rw [UInt8.toNat_ofNat']; omega
      rw [this, Int.toNat_of_nonneg hbd.1]

/-- Out of what is true of each place of a list's range: a list. -/
theorem list_of {α : Type} (n : Nat) (R : Nat → α → Prop) (h : ∀ i, i < n → ∃ x, R i x) : ∃ l : List α, l.length = n ∧ ∀ i x, l[i]? = some x → R i x := by
  induction n with
  | zero => exact ⟨[], rfl, fun i x hx => by simp at hx⟩
  | succ n ih =>
    obtain ⟨l, hl, hr⟩ := ih fun i hi => h i (by omega)
    obtain ⟨x, hx⟩ := h n (by omega)
    refine ⟨l ++ [x], by simp [hl], fun i y hy => ?_⟩
    by_cases hi : i < n
    · rw [List.getElem?_append_left (by omega)] at hy; exact hr i y hy
    · have : i < n + 1 := by have := (List.getElem?_eq_some_iff.1 hy).1; simp [hl] at this; omega
      obtain rfl : i = n := by omega
      rw [List.getElem?_append_right (by omega), hl, Nat.sub_self] at hy
      simp at hy; subst hy; exact hx
end
end Go.Proofs.YtjnhkepgoghogaaGreatDoor
