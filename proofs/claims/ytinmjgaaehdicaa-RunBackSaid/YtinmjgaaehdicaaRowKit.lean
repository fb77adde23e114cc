/- from a row of integers that came in to the words of the walks. -/
import Derived.Test.YtinmjgaaehdicaaBytes
namespace Go.Proofs.Ytinmjgaaehdicaa
open Go.RowKit

theorem spot_none {w : World} {x : Addr} {v : Value} (h : w.cell? x = some v) : x.spot = none := by
  unfold World.cell? at h
  split at h
  · split at h
    · cases h
    · rename_i hs; simpa using hs
  · cases h

/-- A row of bytes that came in, as bytes. -/
theorem isB_of_row {w : World} {a : Option Addr} {len cap : Nat} {zs : List Int}
    (h : (a = none ∧ len = 0 ∧ cap = 0 ∧ zs = []) ∨ ∃ x, a = some x ∧ len ≤ cap ∧ cap ≤ maxLen ∧ zs.length = cap ∧ (∀ i, i < zs.length → w.cell? (x.add i) = some (.int .u8 (zs.getD i 0))) ∧ ∀ n ∈ zs, (Lit.int .u8 n).wf = true) :
    ∃ bs : List UInt8, bs.length = len ∧ IsB w (.slice a len cap) bs := by
  rcases h with ⟨rfl, rfl, rfl, rfl⟩ | ⟨x, rfl, hl, hm, hz, hc, hw⟩
  · exact ⟨[], rfl, none, 0, rfl, Nat.le_refl _, by simp [maxLen], .inl rfl⟩
  · refine ⟨(zs.take len).map (fun n => UInt8.ofNat n.toNat), by simp; omega, some x, cap, by simp; omega, by simp; omega, hm, ?_⟩
    by_cases h0 : len = 0
    · left; subst h0; simp
    · right
      have hx := spot_none (x := x) (by have := hc 0 (by omega); rwa [show x.add 0 = x from rfl] at this)
      obtain ⟨g, o, sp⟩ := x
      cases hx
      refine ⟨g, o, rfl, World.block_lt_of_cell? w ⟨g, o, none⟩ (hc 0 (by omega)), fun i v hv => ?_⟩
      have hi : i < len ∧ i < zs.length := by
        have := (List.getElem?_eq_some_iff.1 hv).1
        simp [bytesV] at this; omega
      have hci := hc i hi.2
      rw [addr_add] at hci
      rw [hci]
      have hb : zs.getD i 0 ∈ zs := by
        rw [List.getD_eq_getElem?_getD, List.getElem?_eq_getElem hi.2]; exact List.getElem_mem _
      have hwf := hw _ hb
      have hbd : 0 ≤ zs.getD i 0 ∧ zs.getD i 0 ≤ 255 := by
        simp only [Lit.wf, Bool.and_eq_true, decide_eq_true_eq] at hwf
        exact hwf
      have hv2 : v = .int .u8 ((UInt8.ofNat (zs.getD i 0).toNat).toNat : Int) := by
        simp only [bytesV, List.map_map, List.getElem?_map, List.getElem?_take, hi.1, if_true, List.getElem?_eq_getElem hi.2, Option.map_some, Option.some.injEq, Function.comp] at hv
        rw [← hv, List.getD_eq_getElem?_getD, List.getElem?_eq_getElem hi.2]; rfl
      rw [hv2]
      have : (UInt8.ofNat (zs.getD i 0).toNat).toNat = (zs.getD i 0).toNat := by
        rw [UInt8.toNat_ofNat']; omega
      rw [this, Int.toNat_of_nonneg hbd.1]
end Go.Proofs.Ytinmjgaaehdicaa
