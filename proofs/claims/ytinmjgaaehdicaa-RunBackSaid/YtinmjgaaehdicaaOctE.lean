/- octet: Word, Uint. -/
import Derived.Test.YtinmjgaaehdicaaOctD
namespace Go.Proofs.Ytinmjgaaehdicaa
open Go.RowKit Go.ChangeMaps Go.MapKept

theorem wordFrom_lt (x : Nat) (l : List UInt8) (hx : x < 18446744073709551616) : wordFrom x l < 18446744073709551616 := by
  induction l generalizing x with
  | nil => exact hx
  | cons c l ih => exact ih (x * 256 % 18446744073709551616 + c.toNat) (by have := c.toNat_lt; omega)

theorem word_put (x : Nat) (c : UInt8) : bits .or .u64 (IntKind.u64.wrap ((x : Int) * 256)) (c.toNat : Int) = ((x * 256 % 18446744073709551616 + c.toNat : Nat) : Int) ∧ x * 256 % 18446744073709551616 + c.toNat < 18446744073709551616 := by
  have hc := c.toNat_lt
  rw [IntKind.wrap_u64, show ((x : Int) * 256 % 18446744073709551616) = ((x * 256 % 18446744073709551616 : Nat) : Int) from by omega, bits_or_u64_nat _ _ (by omega) (by omega)]
  have h8 : x * 256 % 18446744073709551616 = (x % 72057594037927936) * 2 ^ 8 := by omega
  have := Nat.shiftLeft_add_eq_or_of_lt (show c.toNat < 2 ^ 8 by omega) (x % 72057594037927936)
  rw [Nat.shiftLeft_eq] at this
  refine ⟨?_, by omega⟩
  rw [h8, ← this]

set_option maxRecDepth 100000 in
theorem word_any {w : World} {B N : Nat} {r : RM} (h : RdrAt w B N r) : Calls Try.prog 84 #[.pointer (some ⟨B, 0, none⟩)] w fun e w' => e = .returned (.int .u64 r.word.1) ∧ RdrAt w' B N r.word.2 ∧ Kept (· = B) w w' := by
  unfold RM.word
  by_cases he : r.err = 0
  · rw [if_pos he]
    have he' : (r.err == 0) = true := by simp [he]
    by_cases hl : r.bs.length < 8
    · rw [if_pos hl]
      have hl' : (r.bs.length : Int) < 8 := by omega
      obtain ⟨a, c, c0, c1, c2, -, hB, -, -, -⟩ := h.cells
      clear he
      go_enter Try.func84, Try.ntmps84
      go_wp2_with (first | (go_at_call 95; refine (ready_any h).mono ?_; rintro e w' ⟨rfl, rfl⟩) | (go_at_call 97; refine (refuse_any h 110).mono ?_; rintro e w' ⟨rfl, hr', hk'⟩))
      go_ret
      exact ⟨rfl, hr', hk'⟩
    · rw [if_neg hl]
      have hl' : ¬ (r.bs.length : Int) < 8 := by omega
      obtain ⟨T, hTd⟩ : ∃ T, r.bs.take 8 = T := ⟨_, rfl⟩
      have hTl : T.length = 8 := by rw [← hTd, List.length_take]; omega
      rw [hTd]
      have HTD := Lib.hid hTd
      have HTL := Lib.hid hTl
      clear hTd hTl
      obtain ⟨a, c, c0, c1, c2, -, hB, -, -, -⟩ := h.cells
      clear he
      go_enter Try.func84, Try.ntmps84
      go_wp2_with (first | (go_at_call 95; refine (ready_any h).mono ?_; rintro e w' ⟨rfl, rfl⟩) | (go_at_call 98; refine (take_any h 8 (by omega)).mono ?_; rintro e w1 ⟨a1, rfl, hT, hr', hk'⟩))
      rw [HTD.out] at hT
      have hTl := HTL.out
      obtain ⟨a9, c9, hTe, -, -, hTc⟩ := id hT
      simp only [Value.slice.injEq] at hTe
      obtain ⟨rfl, -, -⟩ := hTe
      go_loopw [3, 31] (fun xv i wr => ∃ k X : Nat, k ≤ 8 ∧ i = .int .i64 k ∧ xv = .int .u64 X ∧ X < 18446744073709551616 ∧ Hid (X = wordFrom 0 (T.take k)) ∧ w1 = wr) (fun _ i _ => 8 - (intOf i).toNat)
      case atStart => exact ⟨0, 0, by omega, rfl, rfl, by omega, Lib.hid rfl, rfl⟩
      case round =>
        obtain ⟨k, X, hk8, rfl, rfl, hX, HX, rfl⟩ := hrel
        by_cases hlt : k < 8
        · obtain ⟨y, hy⟩ : ∃ y, T[k] = y := ⟨_, rfl⟩
          have hne : T ≠ [] := fun e => by rw [e] at hTl; simp at hTl
          obtain ⟨g, o, rfl, -, hcell⟩ := hTc.resolve_left hne
          have hc : w1.cell? ⟨g, o + k, none⟩ = some (.int .u8 (y.toNat : Int)) := hcell k _ (by simp [bytesV, List.getElem?_eq_getElem (show k < T.length by omega), hy])
          have hyl : y.toNat < 256 := y.toNat_lt
          obtain ⟨hv, hv64⟩ := word_put X y
          have h3 : IntKind.u64.wrap (y.toNat : Int) = (y.toNat : Int) := by rw [IntKind.wrap_u64]; omega
          have HS : Hid (X * 256 % 18446744073709551616 + y.toNat = wordFrom 0 (T.take (k + 1))) := Lib.hid (by
            have h9 := HX.out
            unfold wordFrom at *
            rw [List.take_succ_eq_append_getElem (by omega), List.foldl_append, ← h9, hy]; rfl)
          clear hy hcell
          generalize X * 256 % 18446744073709551616 + y.toNat = Z at *
          go_wp2
          go_roundw
          case rel => exact ⟨k + 1, Z, by omega, by go_num, rfl, hv64, HS, trivial⟩
          case measure => simp [intOf]; omega
        · go_wp2
          go_ret
          have h9 := HX.out
          rw [List.take_of_length_le (by omega)] at h9
          exact ⟨by rw [h9]; rfl, hr', hk'⟩
  · rw [if_neg he]
    have he' : (r.err == 0) = false := by simp [he]
    go_enter Try.func84, Try.ntmps84
    go_wp2_with (go_at_call 95; refine (ready_any h).mono ?_; rintro e w' ⟨rfl, rfl⟩)
    go_ret
    exact ⟨rfl, h, Kept.refl _ _⟩

theorem numFrom_le (i x : Nat) (l : List UInt8) : (numFrom i x l).2.1 ≤ i + l.length ∧ ((numFrom i x l).2.2 = 0 → 0 < (numFrom i x l).2.1) := by
  induction l generalizing i x with
  | nil => simp [numFrom]
  | cons c l ih =>
    unfold numFrom
    split
    · simp
    · split
      · simp
      · have := ih (i + 1) (x + c.toNat % 128 * 2 ^ (7 * i))
        exact ⟨by simp only [List.length_cons]; omega, this.2⟩

set_option maxRecDepth 100000 in
theorem uint_any {w : World} {B N : Nat} {r : RM} (h : RdrAt w B N r) : Calls Try.prog 82 #[.pointer (some ⟨B, 0, none⟩)] w fun e w' => e = .returned (.int .u64 r.uint.1) ∧ RdrAt w' B N r.uint.2 ∧ Kept (· = B) w w' := by
  unfold RM.uint
  by_cases he : r.err = 0
  · rw [if_pos he]
    have he' : (r.err == 0) = true := by simp [he]
    obtain ⟨a, c, c0, c1, c2, -, hB, -, -, -⟩ := h.cells
    have hnum := number_any w a c r.bs hB
    have hle := (numFrom_le 0 0 r.bs).1
    rw [show numFrom 0 0 r.bs = numB r.bs from rfl] at hle
    obtain ⟨⟨x, n, e⟩, hq⟩ : ∃ q, numB r.bs = q := ⟨_, rfl⟩
    rw [hq] at hnum hle ⊢
    simp only [Nat.zero_add] at hle
    clear he hq
    by_cases h0 : e = 0
    · subst h0
      rw [if_pos rfl]
      go_enter Try.func82, Try.ntmps82
      go_wp2_with (first | (go_at_call 95; refine (ready_any h).mono ?_; rintro e w' ⟨rfl, rfl⟩) | (go_at_call 96; refine hnum.mono ?_; rintro e w' ⟨rfl, rfl⟩) | (go_at_call 98; refine (take_any h n hle).mono ?_; rintro e w1 ⟨a1, rfl, hT, hr', hk'⟩))
      go_ret
      exact ⟨rfl, hr', hk'⟩
    · rw [if_neg h0]
      have h0' : (e != 0) = true := by simp [h0]
      go_enter Try.func82, Try.ntmps82
      go_wp2_with (first | (go_at_call 95; refine (ready_any h).mono ?_; rintro e' w' ⟨rfl, rfl⟩) | (go_at_call 96; refine hnum.mono ?_; rintro e' w' ⟨rfl, rfl⟩) | (go_at_call 97; refine (refuse_any h e).mono ?_; rintro e' w1 ⟨rfl, hr', hk'⟩))
      go_ret
      exact ⟨rfl, hr', hk'⟩
  · rw [if_neg he]
    have he' : (r.err == 0) = false := by simp [he]
    go_enter Try.func82, Try.ntmps82
    go_wp2_with (go_at_call 95; refine (ready_any h).mono ?_; rintro e w' ⟨rfl, rfl⟩)
    go_ret
    exact ⟨rfl, h, Kept.refl _ _⟩
end Go.Proofs.Ytinmjgaaehdicaa
