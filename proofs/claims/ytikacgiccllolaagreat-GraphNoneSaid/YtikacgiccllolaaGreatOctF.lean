/- octet: Byte, Raw, Text, Err where they may. -/
import Derived.Test.YtikacgiccllolaaGreatOctB
import Derived.Test.YtikacgiccllolaaGreatStr
namespace Go.Proofs.YtikacgiccllolaaGreat
open Go.RowKit Go.ChangeMaps Go.MapKept

theorem err_any {w : World} {B N : Nat} {r : RM} (h : RdrAt w B N r) : Calls Tryz.prog 60 #[.pointer (some ⟨B, 0, none⟩)] w fun e w' => e = .returned (.int .i64 r.err) ∧ w = w' := by
  obtain ⟨a, c, c0, c1, c2, -, hB, -, -, -⟩ := h.cells
  go_enter Tryz.func60, Tryz.ntmps60
  go_wp2
  go_ret
  exact ⟨rfl, rfl⟩
set_option maxRecDepth 100000 in
theorem byte_any {w : World} {B N : Nat} {x : UInt8} {bs : List UInt8} (h : RdrAt w B N ⟨x :: bs, 0⟩) : Calls Tryz.prog 66 #[.pointer (some ⟨B, 0, none⟩)] w fun e w' => e = .returned (.int .u8 (x.toNat : Int)) ∧ RdrAt w' B N ⟨bs, 0⟩ ∧ Kept (· = B) w w' := by
  obtain ⟨a, c, c0, c1, c2, -, hB, -, -, -⟩ := h.cells
  have hl : (((x :: bs).length : Int) == 0) = false := by simp; omega
  have hT0 := take_any h 1 (by simp)
  simp only [List.take_succ_cons, List.take_zero, List.drop_succ_cons, List.drop_zero] at c1 hl hT0
  have HT := Lib.hid hT0
  have HR := Lib.hid (ready_any h)
  clear h hB hT0
  generalize (x :: bs).length = n at *
  go_enter Tryz.func66, Tryz.ntmps66
  go_wp2_with (first | (go_at_call 96; refine HR.out.mono ?_; rintro e w' ⟨rfl, rfl⟩) | (go_at_call 99; refine HT.out.mono ?_; rintro e w1 ⟨a1, rfl, hT, hr', hk'⟩; obtain ⟨_, _, hTe, -, -, hTc⟩ := hT; simp only [Value.slice.injEq] at hTe; obtain ⟨rfl, -, -⟩ := hTe; obtain ⟨g, o, rfl, -, hcell⟩ := hTc.resolve_left (by simp); have hc := hcell 0 _ rfl; rw [Nat.add_zero] at hc; clear hcell hTc))
  go_ret
  exact ⟨rfl, hr', hk'⟩
set_option maxRecDepth 100000 in
theorem raw_any {w : World} {B N : Nat} {bs : List UInt8} (h : RdrAt w B N ⟨bs, 0⟩) (n : Nat) (hn : n ≤ bs.length) (hn2 : n ≤ 100000000000000) : Calls Tryz.prog 67 #[.pointer (some ⟨B, 0, none⟩), .int .i64 n] w fun e w' => ∃ v w1, e = .returned v ∧ RdrAt w1 B N ⟨bs.drop n, 0⟩ ∧ Kept (· = B) w w1 ∧ FreshB w1 v (bs.take n) w' := by
  obtain ⟨a, c, c0, c1, c2, -, hB, -, -, -⟩ := h.cells
  have hl : ¬ (bs.length : Int) < (n : Int) := by omega
  have HT := Lib.hid (take_any h n hn)
  have HR := Lib.hid (ready_any h)
  have HL : Hid ((bs.take n).length ≤ 100000000000000) := Lib.hid (by rw [List.length_take]; omega)
  clear h hB
  go_enter Tryz.func67, Tryz.ntmps67
  go_wp2_with (first | (go_at_call 96; refine HR.out.mono ?_; rintro e w' ⟨rfl, rfl⟩) | (go_at_call 99; refine HT.out.mono ?_; rintro e w1 ⟨a1, rfl, hT, hr', hk'⟩))
  refine (clone_any w1 _ _ hT (Nat.le_trans HL.out (by omega))).mono ?_
  rintro e w2 ⟨v, rfl, hf, -⟩
  go_wp2
  go_ret
  exact ⟨_, _, rfl, hr', hk', hf⟩
set_option maxRecDepth 100000 in
theorem text_any {w : World} {B N : Nat} {bs : List UInt8} (h : RdrAt w B N ⟨bs, 0⟩) (most x n : Nat) (hq : numB bs = (x, n, 0)) (hx : x ≤ most) (hm : most ≤ 1000000) (hn : n + x ≤ bs.length) : Calls Tryz.prog 58 #[.pointer (some ⟨B, 0, none⟩), .int .i64 most] w fun e w' => e = .returned (.string (strB ((bs.drop n).take x))) ∧ RdrAt w' B N ⟨(bs.drop n).drop x, 0⟩ ∧ Kept (· = B) w w' := by
  obtain ⟨a, c, c0, c1, c2, -, hB, -, -, -⟩ := h.cells
  have hnum := number_any w a c bs hB
  have hcm : bs.length ≤ maxLen := by obtain ⟨_, _, e, h1, h2, -⟩ := id hB; exact Nat.le_trans h1 h2
  rw [hq] at hnum
  have hL : IntKind.u64.wrap ((most : Nat) : Int) = (most : Int) := by rw [IntKind.wrap_u64]; omega
  obtain ⟨d, hd⟩ : ∃ d, bs.length - n = d := ⟨_, rfl⟩
  have hL2 : IntKind.u64.wrap (wrap64 ((bs.length : Int) - (n : Int))) = (d : Int) := by
    unfold maxLen at hcm
    rw [IntKind.wrap_u64]; unfold wrap64; omega
  have hdx : ¬ (d : Int) < (x : Int) := by omega
  have hl : ¬ (bs.length : Int) < (n : Int) := by omega
  have HT := Lib.hid (take_any h n (show n ≤ bs.length by omega))
  have HR := Lib.hid (ready_any h)
  have HN := Lib.hid hnum
  have HX : Hid (x ≤ ({ bs := bs.drop n, err := 0 } : RM).bs.length) := Lib.hid (by simp only [List.length_drop]; omega)
  clear h hB hnum hd
  go_enter Tryz.func58, Tryz.ntmps58
  go_wp2_with (first | (go_at_call 96; refine HR.out.mono ?_; rintro e w' ⟨rfl, rfl⟩) | (go_at_call 98; refine HN.out.mono ?_; rintro e w' ⟨rfl, rfl⟩) | (go_at_call 99; refine (take_any hr' x HX.out).mono ?_; rintro e w2 ⟨a2, rfl, hT2, hr2, hk2⟩; have hcv := conv_any hT2) | (go_at_call 99; refine HT.out.mono ?_; rintro e w1 ⟨a1, rfl, hT, hr', hk'⟩))
  go_ret
  exact ⟨rfl, hr2, hk'.trans hk2 (fun _ _ h => h)⟩
end Go.Proofs.YtikacgiccllolaaGreat
