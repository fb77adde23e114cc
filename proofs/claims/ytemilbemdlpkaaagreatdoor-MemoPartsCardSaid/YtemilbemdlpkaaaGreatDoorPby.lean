/- from a row of integers that came in to the words of the walks. -/
import Derived.Deep.Slices
import Derived.Deep.Fields
import Derived.ChangeSame
import Derived.Test.YtemilbemdlpkaaaGreatDoorPab
import Derived.Test.YtemilbemdlpkaaaGreatDoorPav
import Derived.Lib.LaidTab
import Derived.LaidMore
import Derived.Test.YtemilbemdlpkaaaGreatDoorPai
import Derived.Test.YtemilbemdlpkaaaGreatDoorPbw
namespace Go.Proofs.YtemilbemdlpkaaaGreatDoor
open Go.RowKit

theorem spot_none {w : World} {x : Addr} {v : Value} (h : w.cell? x = some v) : x.spot = none := by
  unfold World.cell? at h
  split at h
  · split at h
    · cases h
    · rename_i hs; simpa using hs
  · cases h

/-- A row of bytes that came in, as bytes. -/
theorem isB_of_row {w : World} {a : Option Addr} {len cap : Nat} {zs : List Int}
    (h : (a = none ∧ len = 0 ∧ cap = 0 ∧ zs = []) ∨ ∃ x, a = some x ∧ len ≤ cap ∧ cap ≤ maxLen ∧ zs.length = cap ∧ (∀ i, i < zs.length → w.cell? (x.add i) = some (.int .u8 (zs.getD i 0))) ∧ ∀ n ∈ zs, (Lit.int .u8 n).wf = true) :
    ∃ bs : List UInt8, bs.length = len ∧ IsB w (.slice a len cap) bs := by
  rcases h with ⟨rfl, rfl, rfl, rfl⟩ | ⟨x, rfl, hl, hm, hz, hc, hw⟩
  · exact ⟨[], rfl, none, 0, rfl, Nat.le_refl _, by simp [maxLen], .inl rfl⟩
  · refine ⟨(zs.take len).map (fun n => UInt8.ofNat n.toNat), by simp; omega, some x, cap, by simp; omega, by simp; omega, hm, ?_⟩
    by_cases h0 : len = 0
    · left; subst h0; simp
    · right
      have hx := spot_none (x := x) (by have := hc 0 (by omega); rwa [show x.add 0 = x from rfl] at this)
      obtain ⟨g, o, sp⟩ := x
      cases hx
      refine ⟨g, o, rfl, World.block_lt_of_cell? w ⟨g, o, none⟩ (hc 0 (by omega)), fun i v hv => ?_⟩
      have hi : i < len ∧ i < zs.length := by
        have := (List.getElem?_eq_some_iff.1 hv).1
        simp [bytesV] at this; omega
      have hci := hc i hi.2
      rw [addr_add] at hci
      rw [hci]
      have hb : zs.getD i 0 ∈ zs := by
        rw [List.getD_eq_getElem?_getD, List.getElem?_eq_getElem hi.2]; exact List.getElem_mem _
      have hwf := hw _ hb
      have hbd : 0 ≤ zs.getD i 0 ∧ zs.getD i 0 ≤ 255 := by
        simp only [Lit.wf, Bool.and_eq_true, decide_eq_true_eq] at hwf
        exact hwf
      have hv2 : v = .int .u8 ((UInt8.ofNat (zs.getD i 0).toNat).toNat : Int) := by
        simp only [bytesV, List.map_map, List.getElem?_map, List.getElem?_take, hi.1, if_true, List.getElem?_eq_getElem hi.2, Option.map_some, Option.some.injEq, Function.comp] at hv
        rw [← hv, List.getD_eq_getElem?_getD, List.getElem?_eq_getElem hi.2]; rfl
      rw [hv2]
      have : (UInt8.ofNat (zs.getD i 0).toNat).toNat = (zs.getD i 0).toNat := by
        rw [UInt8.toNat_ofNat']; omega
      rw [this, Int.toNat_of_nonneg hbd.1]
end Go.Proofs.YtemilbemdlpkaaaGreatDoor

/- from slices of structs that came in to the words of the walks. -/
namespace Go.Proofs.YtemilbemdlpkaaaGreatDoor
open Go.RowKit Go.ChangeShapes Go.WideShapes Go.Deep

section
variable {H : Type} {enc : TypeId × Value → H} {P : Program} {w : World} {base : Nat} {spare : Nat → Bool} {held : Bool}

/-- The fields of the structs of a slice that came in, one by one. -/
theorem fields_of_trod {t e : TypeId} {fs : Array Field} {fuel : Nat} {cs : List Value} {x : DataW H × List MemPlace} (ht : P.underlying t = some (.slice e)) (he : P.underlying e = some (.struct fs)) (hone : oneCellFields P fs = true) (hC : P.cellsOf e = fs.size)
    (h : DataW.trod enc P w base spare held fuel t cs = some x) :
    cs = [.slice none 0 0] ∨ ∃ (a : Addr) (len cap : Nat), cs = [.slice (some a) len cap] ∧ len ≤ cap ∧ cap ≤ maxLen ∧
      ∀ i, i < len → ∀ (j : Nat) (f : Field), fs[j]? = some f → ∃ (v : Value) (y : DataW H × List MemPlace) (n : Nat), w.cell? (a.add (i * fs.size + j)) = some v ∧ DataW.trod enc P w base spare held n f.type [v] = some y := by
  rcases open_slice ht h with ⟨h0, -⟩ | ⟨a, len, cap, m, n, D, Pl, hcs, -, hl, hm, hmm, -, hi⟩
  · exact .inl h0
  · refine .inr ⟨a, len, cap, hcs, hl, hm, fun i hil j f hj => ?_⟩
    have him : i < m := by rw [hmm]; split <;> omega
    obtain ⟨cs', hc, ht'⟩ := hi i him
    rw [hC] at hc
    obtain ⟨ys, n', -, -, hlen, hyl, hf⟩ := DataW.trod_struct he ht'
    obtain ⟨-, hcl, hat⟩ := World.cells?_some hc
    have hjl : j < fs.size := (Array.getElem?_eq_some_iff.1 hj).1
    obtain ⟨ho, hk⟩ := hone_of hone j f hj
    have hlt : j < cs'.length := by omega
    have hv : cs'[j]? = some cs'[j] := List.getElem?_eq_getElem hlt
    have h1 := hf j f hj
    rw [ho, hk, show (cs'.drop j).take 1 = [cs'[j]] from by rw [List.drop_eq_getElem_cons hlt]; rfl] at h1
    have hys : ∃ y, ys[j]? = some y := ⟨_, List.getElem?_eq_getElem (by omega)⟩
    obtain ⟨y, hy⟩ := hys
    exact ⟨_, y, n', by rw [← Go.Deep.add_add, hat j hjl, hv], h1.trans hy⟩

/-- A slice of bytes that came in. -/
theorem isB_of_trod {t e : TypeId} {fuel : Nat} {v : Value} {x : DataW H × List MemPlace} (ht : P.underlying t = some (.slice e)) (he : P.underlying e = some (.int .u8)) (hc : P.cellsOf e = 1)
    (h : DataW.trod enc P w base spare held fuel t [v] = some x) : ∃ (a : Option Addr) (c : Nat) (bs : List UInt8), v = .slice a bs.length c ∧ IsB w v bs := by
  rcases open_ints ht he hc h with ⟨hcs, -⟩ | ⟨a, len, cap, zs, hcs, -, hl, hm, hz, -, hcell, hwz⟩
  · obtain rfl : v = .slice none 0 0 := by simpa using hcs
    exact ⟨none, 0, [], rfl, none, 0, rfl, Nat.le_refl _, by simp [maxLen], .inl rfl⟩
  · obtain rfl : v = .slice (some a) len cap := by simpa using hcs
    have hzl : len ≤ zs.length := by rw [hz]; split <;> omega
    refine ⟨some a, cap, (zs.take len).map (fun n => UInt8.ofNat n.toNat), by simp; omega, ?_⟩
    by_cases h0 : len = 0
    · subst h0
      exact ⟨some a, cap, by simp, by simp, hm, .inl (by simp)⟩
    · have hsp := spot_none (x := a) (by have := hcell 0 (by omega); rwa [show a.add 0 = a from rfl] at this)
      obtain ⟨g, o, sp⟩ := a
      cases hsp
      refine ⟨some ⟨g, o, none⟩, cap, by simp; omega, by simp; omega, hm, .inr ⟨g, o, rfl, World.block_lt_of_cell? w ⟨g, o, none⟩ (hcell 0 (by omega)), fun i u hu => ?_⟩⟩
      have hi : i < len ∧ i < zs.length := by
        have := (List.getElem?_eq_some_iff.1 hu).1
        simp [bytesV] at this; omega
      have hci := hcell i hi.2
      rw [addr_add] at hci
      rw [hci]
      have hb : zs.getD i 0 ∈ zs := by
        rw [List.getD_eq_getElem?_getD, List.getElem?_eq_getElem hi.2]; exact List.getElem_mem _
      have hwf := hwz _ hb
      have hbd : 0 ≤ zs.getD i 0 ∧ zs.getD i 0 ≤ 255 := by
        simp only [Lit.wf, Bool.and_eq_true, decide_eq_true_eq] at hwf
        exact hwf
      have hv2 : u = .int .u8 ((UInt8.ofNat (zs.getD i 0).toNat).toNat : Int) := by
        simp only [bytesV, List.map_map, List.getElem?_map, List.getElem?_take, hi.1, if_true, List.getElem?_eq_getElem hi.2, Option.map_some, Option.some.injEq, Function.comp] at hu
        rw [← hu, List.getD_eq_getElem?_getD, List.getElem?_eq_getElem hi.2]; rfl
      rw [hv2]
      have : (UInt8.ofNat (zs.getD i 0).toNat).toNat = (zs.getD i 0).toNat := by
        rw [UInt8.toNat_ofNat']; omega
      rw [this, Int.toNat_of_nonneg hbd.1]

/-- Out of what is true of each place of a list's range: a list. -/
theorem list_of {α : Type} (n : Nat) (R : Nat → α → Prop) (h : ∀ i, i < n → ∃ x, R i x) : ∃ l : List α, l.length = n ∧ ∀ i x, l[i]? = some x → R i x := by
  induction n with
  | zero => exact ⟨[], rfl, fun i x hx => by simp at hx⟩
  | succ n ih =>
    obtain ⟨l, hl, hr⟩ := ih fun i hi => h i (by omega)
    obtain ⟨x, hx⟩ := h n (by omega)
    refine ⟨l ++ [x], by simp [hl], fun i y hy => ?_⟩
    by_cases hi : i < n
    · rw [List.getElem?_append_left (by omega)] at hy; exact hr i y hy
    · have : i < n + 1 := by have := (List.getElem?_eq_some_iff.1 hy).1; simp [hl] at this; omega
      obtain rfl : i = n := by omega
      rw [List.getElem?_append_right (by omega), hl, Nat.sub_self] at hy
      simp at hy; subst hy; exact hx
end
end Go.Proofs.YtemilbemdlpkaaaGreatDoor

/- from []api.Pair and bytes that came in to the words of the walks. -/
namespace Go.Proofs.YtemilbemdlpkaaaGreatDoor
open Go.RowKit Go.ChangeShapes Go.WideShapes Go.Deep

theorem wf_int64 {n : Int} (h : (Lit.int .i64 n).wf = true) : -9223372036854775808 ≤ n ∧ n ≤ 9223372036854775807 := by
  simp only [Lit.wf, Bool.and_eq_true, decide_eq_true_eq] at h
  exact h
theorem wf_u8 {n : Int} (h : (Lit.int .u8 n).wf = true) : ∃ x : UInt8, n = (x.toNat : Int) := by
  simp only [Lit.wf, Bool.and_eq_true, decide_eq_true_eq] at h
  have h' : 0 ≤ n ∧ n ≤ 255 := h
  refine ⟨UInt8.ofNat n.toNat, ?_⟩
  rw [UInt8.toNat_ofNat']
  omega
theorem wf_u64 {n : Int} (h : (Lit.int .u64 n).wf = true) : ∃ x : Nat, n = (x : Int) ∧ x < 18446744073709551616 := by
  simp only [Lit.wf, Bool.and_eq_true, decide_eq_true_eq] at h
  have h' : 0 ≤ n ∧ n ≤ 18446744073709551615 := h
  exact ⟨n.toNat, by omega, by omega⟩

section
variable {H : Type} {enc : TypeId × Value → H} {w : World} {base : Nat} {spare : Nat → Bool} {held : Bool}
theorem word_of_trod {P : Program} {t : TypeId} {fuel : Nat} {v : Value} {x : DataW H × List MemPlace} (ht : P.underlying t = some (.int .u64)) (h : DataW.trod enc P w base spare held fuel t [v] = some x) :
    ∃ n : Nat, v = .int .u64 n ∧ n < 18446744073709551616 := by
  obtain ⟨n, hn, -, hw⟩ := DataW.trod_int ht h
  obtain ⟨k, rfl, hk⟩ := wf_u64 hw
  exact ⟨k, by simpa using hn, hk⟩
theorem bytes_of_trod {a : Option Addr} {len cap : Nat} {d : DataW H} {ps : List MemPlace} (h : DataW.Trod enc Tryz.prog w base spare held 25 (.slice a len cap) d ps) : ∃ l : List UInt8, l.length = len ∧ IsB w (.slice a len cap) l := by
  obtain ⟨fuel, hf⟩ := h
  obtain ⟨a', c', bs, he, hB⟩ := isB_of_trod Tryz.underlying25 Tryz.underlying5 (by kernel_rfl) hf
  cases he
  exact ⟨bs, rfl, hB⟩
theorem pairs_of_cells {cs : List Value} {fuel : Nat} {x : DataW H × List MemPlace} (hf : DataW.trod enc Tryz.prog w base spare held fuel 22 cs = some x) : ∃ (a : Option Addr) (l : List (Nat × Nat)) (cap : Nat), cs = [.slice a l.length cap] ∧ IsP w (.slice a l.length cap) l := by
  rcases fields_of_trod Tryz.underlying22 Tryz.underlying68 (by kernel_rfl) (by kernel_rfl) hf with hcs | ⟨x, l, c, hcs, hl, hm, hcell⟩
  · exact ⟨none, [], 0, hcs, none, 0, rfl, Nat.le_refl _, by simp [maxLen], fun p hp => by simp at hp, .inl rfl⟩
  · obtain ⟨pl, hpl, hr⟩ := list_of (α := Nat × Nat) l (fun i p => w.cell? (x.add (i * 2)) = some (.int .u64 p.1) ∧ w.cell? (x.add (i * 2 + 1)) = some (.int .u64 p.2) ∧ p.1 < 18446744073709551616 ∧ p.2 < 18446744073709551616) (fun i hi => by
      obtain ⟨v0, y0, n0, hc0, h0⟩ := hcell i hi 0 _ rfl
      obtain ⟨v1, y1, n1, hc1, h1⟩ := hcell i hi 1 _ rfl
      obtain ⟨f, rfl, hf1⟩ := word_of_trod Tryz.underlying35 h0
      obtain ⟨t, rfl, ht1⟩ := word_of_trod Tryz.underlying35 h1
      exact ⟨(f, t), hc0, hc1, hf1, ht1⟩)
    subst hpl
    refine ⟨some x, pl, c, hcs, some x, c, rfl, hl, hm, fun p hp => ?_, ?_⟩
    · obtain ⟨i, hi⟩ := List.mem_iff_getElem?.1 hp
      exact (hr i p hi).2.2
    · by_cases hne : pl = []
      · exact .inl hne
      · right
        have hlen : 0 < pl.length := List.length_pos_iff.2 hne
        have hsp := spot_none (x := x) (by
          have := (hr 0 pl[0] (List.getElem?_eq_getElem hlen)).1
          rwa [show x.add (0 * 2) = x from rfl] at this)
        obtain ⟨g, o, sp⟩ := x
        cases hsp
        refine ⟨g, o, rfl, World.block_lt_of_cell? w ⟨g, o, none⟩ (by
          have := (hr 0 pl[0] (List.getElem?_eq_getElem hlen)).1
          rwa [show (⟨g, o, none⟩ : Addr).add (0 * 2) = ⟨g, o, none⟩ from rfl] at this), fun i u hu => ?_⟩
        have hil : i < pl.length * 2 := by rw [← flatP_length]; exact (List.getElem?_eq_some_iff.1 hu).1
        obtain ⟨j, hj⟩ : ∃ j, i = j * 2 ∨ i = j * 2 + 1 := ⟨i / 2, by omega⟩
        have hk : j < pl.length := by omega
        obtain ⟨h0, h1, -⟩ := hr j _ (List.getElem?_eq_getElem hk)
        obtain ⟨g0, g1⟩ := flatP_get pl j hk
        rw [addr_add] at h0 h1
        rcases hj with rfl | rfl
        · rw [g0] at hu
          cases hu
          exact h0
        · rw [g1] at hu
          cases hu
          exact h1
theorem pairs_of_trod {a : Option Addr} {len cap : Nat} {d : DataW H} {ps : List MemPlace} (h : DataW.Trod enc Tryz.prog w base spare held 22 (.slice a len cap) d ps) : ∃ l : List (Nat × Nat), l.length = len ∧ IsP w (.slice a len cap) l := by
  obtain ⟨fuel, hf⟩ := h
  obtain ⟨a', l, c', he, hB⟩ := pairs_of_cells hf
  simp [Value.cells] at he
  obtain ⟨rfl, rfl, rfl⟩ := he
  exact ⟨l, rfl, hB⟩
end
end Go.Proofs.YtemilbemdlpkaaaGreatDoor

/- from a pair that came in to the words of the walks; the table of the powers of ten out of what is laid. -/
namespace Go.Proofs.YtemilbemdlpkaaaGreatDoor
open Go.RowKit Go.ChangeShapes Go.WideShapes Go.Deep

section
variable {H : Type} {enc : TypeId × Value → H} {w : World} {base : Nat} {spare : Nat → Bool} {held : Bool}
set_option maxRecDepth 100000 in
theorem pairArg_of_trod {r : Reach} {b2 : Nat} {w2 : World} {v : Value} {d : DataW H} {ps : List MemPlace} (hv : Value.okWide Tryz.prog w2 r b2 68 v) (h : DataW.Trod enc Tryz.prog w base spare held 68 v d ps) :
    ∃ x y : Nat, v = .agg #[.int .u64 x, .int .u64 y] := by
  simp only [Value.okWide, Tryz.underlying68] at hv
  obtain ⟨cs, rfl, hs, -⟩ := hv
  have hC : Tryz.prog.cellsOf 68 = 2 := by kernel_rfl
  rw [hC] at hs
  obtain ⟨x, y, rfl⟩ : ∃ x y, cs = #[x, y] := by
    obtain ⟨l⟩ := cs
    match l, hs with
    | [x, y], _ => exact ⟨x, y, rfl⟩
  obtain ⟨fuel, hf⟩ := h
  have hf2 : DataW.trod enc Tryz.prog w base spare held fuel 68 [x, y] = some (d, ps) := by simpa [Value.cells] using hf
  obtain ⟨y0, y1, n, -, -, h0, h1⟩ := ChangeShapes.trod_struct2 Tryz.underlying68 hf2
  have hc : Tryz.prog.cellsOf 35 = 1 := by kernel_rfl
  simp only [hc] at h0 h1
  obtain ⟨k0, e0, -, w0⟩ := DataW.trod_int Tryz.underlying35 h0
  obtain ⟨k1, e1, -, w1⟩ := DataW.trod_int Tryz.underlying35 h1
  simp only [List.drop_zero, List.drop_succ_cons, List.take_succ_cons, List.take_zero, List.cons.injEq, and_true] at e0 e1
  obtain ⟨a, rfl, -⟩ := wf_u64 w0
  obtain ⟨b, rfl, -⟩ := wf_u64 w1
  exact ⟨a, b, by rw [e0, e1]⟩
end
theorem gPow18 : Tryz.prog.globalNamed "internal/strconv.uint64pow10" = some 0 := by kernel_rfl
theorem tab_kept18 {W W' : World} (h : Tab10 W) (hk : Kept (fun _ => False) W W') : Tab10 W' := by
  unfold Tab10 Lib.TabIs World.var? at *
  rw [gPow18] at h ⊢
  simp only [Option.bind_some] at h ⊢
  have hb : 0 < W.heap.size := by
    cases hh : W.heap[0]? with
    | none => simp [hh] at h
    | some _ => exact (Array.getElem?_eq_some_iff.1 hh).1
  rw [hk.block 0 hb (fun f => f)]
  exact h
theorem tab_of_last18 {W : World} (h3 : laidMet Tryz.prog [("internal/strconv.uint64pow10", Lib.tabData .u64 Lib.pow10Tab)] W) : Tab10 W :=
  Lib.tabIs_of_head gPow18 (by kernel_rfl) Tryz.underlying252 Tryz.underlying34 (by kernel_rfl) (by kernel_rfl) h3
end Go.Proofs.YtemilbemdlpkaaaGreatDoor

/- from []int that came in to the words of the walks. -/
namespace Go.Proofs.YtemilbemdlpkaaaGreatDoor
open Go.RowKit Go.ChangeShapes Go.WideShapes Go.Deep

theorem wf18_i64 {n : Int} (h : (Lit.int .i64 n).wf = true) : -9223372036854775808 ≤ n ∧ n < 9223372036854775808 := by
  simp only [Lit.wf, Bool.and_eq_true, decide_eq_true_eq] at h
  have h' : -9223372036854775808 ≤ n ∧ n ≤ 9223372036854775807 := h
  omega
section
variable {H : Type} {enc : TypeId × Value → H} {w : World} {base : Nat} {spare : Nat → Bool} {held : Bool}
theorem isZ18_of_trod {P : Program} {t e : TypeId} {fuel : Nat} {cs : List Value} {x : DataW H × List MemPlace} (ht : P.underlying t = some (.slice e)) (he : P.underlying e = some (.int .i64)) (hc : P.cellsOf e = 1)
    (h : DataW.trod enc P w base spare held fuel t cs = some x) : ∃ (a : Option Addr) (c : Nat) (l : List Int), cs = [.slice a l.length c] ∧ IsZ18 w (.slice a l.length c) l ∧ ∀ n ∈ l, -9223372036854775808 ≤ n ∧ n < 9223372036854775808 := by
  rcases open_ints ht he hc h with ⟨hcs, -⟩ | ⟨a, len, cap, zs, hcs, -, hl, hm, hz, -, hcell, hwz⟩
  · exact ⟨none, 0, [], hcs, ⟨none, 0, rfl, Nat.le_refl _, by simp [maxLen], .inl rfl⟩, by simp⟩
  · have hzl : len ≤ zs.length := by rw [hz]; split <;> omega
    have hll : (zs.take len).length = len := by simp; omega
    refine ⟨some a, cap, zs.take len, by rw [hll]; exact hcs, ?_, fun n hn => wf18_i64 (hwz n (List.mem_of_mem_take hn))⟩
    by_cases h0 : len = 0
    · exact ⟨some a, cap, rfl, by rw [hll]; exact hl, hm, .inl (List.length_eq_zero_iff.1 (by rw [hll]; exact h0))⟩
    · have hsp := spot_none (x := a) (by have := hcell 0 (by omega); rwa [show a.add 0 = a from rfl] at this)
      obtain ⟨g, o, sp⟩ := a
      cases hsp
      refine ⟨some ⟨g, o, none⟩, cap, rfl, by rw [hll]; exact hl, hm, .inr ⟨g, o, rfl, World.block_lt_of_cell? w ⟨g, o, none⟩ (hcell 0 (by omega)), fun k hk => ?_⟩⟩
      have hk' : k < zs.length := by rw [hll] at hk; omega
      have hci := hcell k hk'
      rw [addr_add] at hci
      rw [hci, List.getElem_take, List.getD_eq_getElem?_getD, List.getElem?_eq_getElem hk', Option.getD_some]
theorem ints18_of_trod {a : Option Addr} {len cap : Nat} {d : DataW H} {ps : List MemPlace} (h : DataW.Trod enc Tryz.prog w base spare held 23 (.slice a len cap) d ps) : ∃ l : List Int, l.length = len ∧ IsZ18 w (.slice a len cap) l := by
  obtain ⟨fuel, hf⟩ := h
  obtain ⟨a', c', l, he, hB, -⟩ := isZ18_of_trod Tryz.underlying23 Tryz.underlying3 (by kernel_rfl) hf
  simp [Value.cells] at he
  obtain ⟨rfl, rfl, rfl⟩ := he
  exact ⟨l, rfl, hB⟩
end
end Go.Proofs.YtemilbemdlpkaaaGreatDoor
