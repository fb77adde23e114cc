/- espalierref02: Name, Find, write. -/
import Derived.Test.YtjnhkepgoghogaaDoorRfdA
import Derived.Test.YtjnhkepgoghogaaDoorDiskH
namespace Go.Proofs.YtjnhkepgoghogaaDoor
open Go.RowKit Go.ChangeMaps Go.MapKept
set_option linter.unusedSimpArgs false

set_option maxHeartbeats 2000000 in
theorem rname_any (s : ByteArray) (w : World) (hs : s.size ≤ maxLen) :
    Calls Tryd.prog 66 #[.string s] w fun e w' => e = .returned (.bool (mayB s)) ∧ w = w' := by
  unfold maxLen at hs
  go_enter Tryd.func66, Tryd.ntmps66
  go_wp2
  go_loop [3] (fun k => ∃ n : Nat, n ≤ s.size ∧ k = .int .i64 n ∧ Hid ((s.data.toList.take n).all okc = true)) (fun k => s.size - (intOf k).toNat)
  case atStart => exact ⟨0, Nat.zero_le _, rfl, Lib.hid rfl⟩
  case round =>
    obtain ⟨n, hn, rfl, hall⟩ := hrel
    by_cases hlt : n < s.size
    · go_wp2
      all_goals first
        | (go_round
           case rel => exact ⟨n + 1, by omega, by go_num, Lib.hid (all_snoc s n (by omega) hall.out (by simp only [okc, Bool.or_eq_true, Bool.and_eq_true, decide_eq_true_eq]; (try simp only [beq_iff_eq, bne_iff_ne, ne_eq, bne_eq_false_iff_eq, Bool.not_eq_true] at *); omega))⟩
           case measure => simp [intOf]; omega)
        | (go_ret
           have H : Hid (mayB s = false) := not_all s n hlt (by simp only [okc, Bool.or_eq_false_iff, Bool.and_eq_false_iff, decide_eq_false_iff_not]; (try simp only [beq_eq_false_iff_ne, bne_iff_ne, ne_eq, bne_eq_false_iff_eq] at *); omega)
           exact ⟨by rw [H.out]; rfl, rfl⟩)
    · have hA : Hid (s.data.toList.all okc = true) := Lib.hid (by have h1 := hall.out; rwa [List.take_of_length_le (by simp; omega)] at h1)
      have hM : Hid (mayB s = (decide (1 ≤ s.size) && decide (s.size ≤ 32))) := Lib.hid (by unfold mayB; rw [hA.out]; simp)
      by_cases h1 : 1 ≤ s.size
      · by_cases h2 : s.size ≤ 32
        · have HM : Hid (mayB s = true) := Lib.hid (by rw [hM.out]; simp [h1, h2])
          go_wp2
          go_ret
          exact ⟨by rw [HM.out]; simp; omega, rfl⟩
        · have HM : Hid (mayB s = false) := Lib.hid (by rw [hM.out]; simp; omega)
          go_wp2
          go_ret
          exact ⟨by rw [HM.out]; simp; omega, rfl⟩
      · have HM : Hid (mayB s = false) := Lib.hid (by rw [hM.out]; simp; omega)
        go_wp2
        go_ret
        exact ⟨by rw [HM.out]; simp, rfl⟩

theorem rfind_any {w : World} {b : Nat} {fv : Value} {S : List FileM} {D : DM} (h : RefAt w b fv S D) (s : ByteArray) :
    Calls Tryd.prog 65 #[.pointer (some ⟨b, 0, none⟩), .string s] w fun e w' => (∃ r : Int, e = .returned (.int .i64 r) ∧ FirstIn S (fun p => p.name = s) r) ∧ Kept (fun _ => False) w w' := by
  obtain ⟨a, c, rfl, h1, h2⟩ := h.row.form
  have c0 := h.c.1
  have H := Lib.hid h
  obtain ⟨n, hn⟩ : ∃ n, S.length = n := ⟨_, rfl⟩
  rw [hn] at c0
  have HN := Lib.hid hn
  unfold maxLen at h2
  have hn2 : n ≤ 9223372036854775807 := by omega
  clear h h1 h2 hn
  go_enter Tryd.func65, Tryd.ntmps65
  go_wp2_with fail
  go_loopw [12] (fun i wr => ∃ k : Nat, k ≤ n ∧ i = .int .i64 k ∧ Hid (∀ i (hi : i < S.length), i < k → S[i].name ≠ s) ∧ Hid (Kept (fun _ => False) w wr)) (fun i _ => n - (intOf i).toNat)
  case atStart => exact ⟨0, Nat.zero_le _, rfl, Lib.hid (fun _ _ h => absurd h (Nat.not_lt_zero _)), Lib.hid (Kept.refl _ _)⟩
  case round =>
    clear c0
    obtain ⟨k, hk, rfl, hno, HK⟩ := hrel
    by_cases hlt : k < n
    · have hkl : k < S.length := by have := HN.out; omega
      obtain ⟨g, c', e, c1, c2, -⟩ := (H.out.kept HK.out (fun _ _ f => f)).row.at hkl
      cases e
      obtain ⟨y, hy⟩ : ∃ y, S[k].name = y := ⟨_, rfl⟩
      obtain ⟨v, hv⟩ : ∃ v, S[k].bv = v := ⟨_, rfl⟩
      rw [hy] at c1
      rw [hv] at c2
      have hvf : ∃ a n c, v = .slice a n c := by
        obtain ⟨a, c, e, -⟩ := (H.out.own _ (List.getElem_mem hkl)).form
        exact ⟨a, _, c, hv.symm.trans e⟩
      obtain ⟨va, vn, vc, rfl⟩ := hvf
      have HY := Lib.hid hy
      clear hy hv
      by_cases hxy : y = s
      · have hM : Hid (S[k].name = s) := Lib.hid (HY.out.trans hxy)
        subst hxy
        go_wp2_with fail
        go_ret
        exact ⟨⟨_, rfl, .inr ⟨k, hkl, rfl, hM.out, hno.out⟩⟩, HK.out.alloc _⟩
      · have HK' : Hid (Kept (fun _ => False) w (wr.alloc (.cells #[.string y, .slice va vn vc] 76))) := Lib.hid (HK.out.alloc _)
        have HNO' : Hid (∀ i (hi : i < S.length), i < k + 1 → S[i].name ≠ s) := Lib.hid (fun i hi hik => by
          rcases Nat.lt_or_ge i k with h | h
          · exact hno.out i hi h
          · obtain rfl : i = k := by omega
            rw [HY.out]; exact hxy)
        have hxyb := (Lib.bytes_beq_false_iff y s).2 hxy
        go_wp2_with fail
        exact ⟨⟨k + 1, by omega, by go_num, HNO', HK'⟩, by simp [intOf]; omega⟩
    · have hM : Hid (FirstIn S (fun p => p.name = s) (-1)) := Lib.hid (.none (by have := HN.out; omega) hno.out)
      go_wp2_with fail
      go_ret
      exact ⟨⟨_, rfl, hM.out⟩, HK.out⟩
end Go.Proofs.YtjnhkepgoghogaaDoor
