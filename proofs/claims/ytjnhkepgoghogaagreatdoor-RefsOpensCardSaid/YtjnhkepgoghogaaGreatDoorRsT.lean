/- octet: Text and Err, whatever is left. -/
import Derived.Test.YtjnhkepgoghogaaGreatDoorRsK
namespace Go.Proofs.YtjnhkepgoghogaaGreatDoor
open Go.RowKit Go.ChangeMaps Go.MapKept
set_option linter.unusedSimpArgs false

theorem errOf_any {w : World} {B N : Nat} {r : RM} (h : RdrAt w B N r) : Calls Tryz.prog 51 #[.pointer (some ⟨B, 0, none⟩)] w fun e w' => e = .returned (.int .i64 r.err) ∧ w = w' := by
  obtain ⟨a, c, c0, c1, c2, -, hB, -, -, -⟩ := h.cells
  go_enter Tryz.func51, Tryz.ntmps51
  go_wp2
  go_ret
  exact ⟨rfl, rfl⟩
set_option maxRecDepth 100000 in
theorem textOf_any {w : World} {B N : Nat} {r : RM} (h : RdrAt w B N r) (most : Nat) (hm : most ≤ 1000000) : Calls Tryz.prog 49 #[.pointer (some ⟨B, 0, none⟩), .int .i64 most] w fun e w' => e = .returned (.string (r.text most).1) ∧ RdrAt w' B N (r.text most).2 ∧ Kept (· = B) w w' := by
  have HR := Lib.hid (ready_any h)
  unfold RM.text
  by_cases he : r.err = 0
  · rw [if_pos he]
    have he' : (r.err == 0) = true := by simp [he]
    obtain ⟨a, c, c0, c1, c2, -, hB, -, -, -⟩ := h.cells
    have hcm : r.bs.length ≤ maxLen := by obtain ⟨_, _, e, h1, h2, -⟩ := id hB; exact Nat.le_trans h1 h2
    have hnum := number_any w a c r.bs hB
    have hle := (numFrom_le 0 0 r.bs).1
    rw [show numFrom 0 0 r.bs = numB r.bs from rfl, Nat.zero_add] at hle
    obtain ⟨⟨x, n, e⟩, hq⟩ : ∃ q, numB r.bs = q := ⟨_, rfl⟩
    rw [hq] at hnum hle ⊢
    simp only at hnum hle ⊢
    have HN := Lib.hid hnum
    have HF := Lib.hid (refuse_any h)
    have hL : IntKind.u64.wrap ((most : Nat) : Int) = (most : Int) := by rw [IntKind.wrap_u64]; omega
    clear hq hB hnum he
    by_cases h0 : e = 0
    · subst h0
      rw [if_pos rfl]
      by_cases h1 : most < x
      · rw [if_pos h1]
        have h1' : (most : Int) < (x : Int) := by omega
        clear h
        go_enter Tryz.func49, Tryz.ntmps49
        go_wp2_with (first | (go_at_call 71; refine HR.out.mono ?_; rintro e' w' ⟨rfl, rfl⟩) | (go_at_call 73; refine HN.out.mono ?_; rintro e' w' ⟨rfl, rfl⟩) | (go_at_call 72; refine (HF.out _).mono ?_; rintro e' w1 ⟨rfl, hr', hk'⟩))
        go_ret
        exact ⟨rfl, hr', hk'⟩
      · rw [if_neg h1]
        obtain ⟨d, hd⟩ : ∃ d, r.bs.length - n = d := ⟨_, rfl⟩
        rw [hd]
        have h1' : ¬ (most : Int) < (x : Int) := by omega
        have hL2 : IntKind.u64.wrap (wrap64 ((r.bs.length : Int) - (n : Int))) = (d : Int) := by
          unfold maxLen at hcm
          rw [IntKind.wrap_u64]; unfold wrap64; omega
        by_cases h2 : d < x
        · rw [if_pos h2]
          have h2' : (d : Int) < (x : Int) := by omega
          clear h hd
          go_enter Tryz.func49, Tryz.ntmps49
          go_wp2_with (first | (go_at_call 71; refine HR.out.mono ?_; rintro e' w' ⟨rfl, rfl⟩) | (go_at_call 73; refine HN.out.mono ?_; rintro e' w' ⟨rfl, rfl⟩) | (go_at_call 72; refine (HF.out _).mono ?_; rintro e' w1 ⟨rfl, hr', hk'⟩))
          go_ret
          exact ⟨rfl, hr', hk'⟩
        · rw [if_neg h2]
          have h2' : ¬ (d : Int) < (x : Int) := by omega
          have HT := Lib.hid (take_any h n hle)
          have HX : Hid (x ≤ ({ r with bs := r.bs.drop n } : RM).bs.length) := Lib.hid (by simp only [List.length_drop]; omega)
          clear h hd
          go_enter Tryz.func49, Tryz.ntmps49
          go_wp2_with (first | (go_at_call 71; refine HR.out.mono ?_; rintro e w' ⟨rfl, rfl⟩) | (go_at_call 73; refine HN.out.mono ?_; rintro e w' ⟨rfl, rfl⟩) | (go_at_call 74; refine (take_any hr' x HX.out).mono ?_; rintro e w2 ⟨a2, rfl, hT2, hr2, hk2⟩; have hcv := conv_any hT2) | (go_at_call 74; refine HT.out.mono ?_; rintro e w1 ⟨a1, rfl, hT, hr', hk'⟩))
          go_ret
          exact ⟨rfl, hr2, hk'.trans hk2 (fun _ _ h => h)⟩
    · rw [if_neg h0]
      have h0' : (e != 0) = true := by simp [h0]
      clear h
      go_enter Tryz.func49, Tryz.ntmps49
      go_wp2_with (first | (go_at_call 71; refine HR.out.mono ?_; rintro e' w' ⟨rfl, rfl⟩) | (go_at_call 73; refine HN.out.mono ?_; rintro e' w' ⟨rfl, rfl⟩) | (go_at_call 72; refine (HF.out _).mono ?_; rintro e' w1 ⟨rfl, hr', hk'⟩))
      go_ret
      exact ⟨rfl, hr', hk'⟩
  · rw [if_neg he]
    have he' : (r.err == 0) = false := by simp [he]
    go_enter Tryz.func49, Tryz.ntmps49
    go_wp2_with (go_at_call 71; refine HR.out.mono ?_; rintro e w' ⟨rfl, rfl⟩)
    go_ret
    exact ⟨rfl, h, Kept.refl _ _⟩
end Go.Proofs.YtjnhkepgoghogaaGreatDoor
