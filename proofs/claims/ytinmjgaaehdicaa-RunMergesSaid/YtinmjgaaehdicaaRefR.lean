/- espalierref01: Number, the reader's words; espalierref17.Read. -/
import Derived.Test.YtinmjgaaehdicaaRefS
namespace Go.Proofs.Ytinmjgaaehdicaa
open Go.RowKit

theorem num_put (X k m : Nat) (hX : X < 2 ^ (7 * k)) (hk : k ≤ 9) (hm : m < 128) (h9 : k = 9 → m ≤ 1) : m * 2 ^ (7 * k) < 18446744073709551616 ∧ X + m * 2 ^ (7 * k) < 18446744073709551616 ∧ X + m * 2 ^ (7 * k) < 2 ^ (7 * (k + 1)) := by
  have hP : 2 ^ (7 * (k + 1)) = 2 ^ (7 * k) * 128 := by rw [Nat.mul_add, Nat.pow_add]
  have h1 : m * 2 ^ (7 * k) ≤ 127 * 2 ^ (7 * k) := Nat.mul_le_mul_right _ (by omega)
  have h2 : X + m * 2 ^ (7 * k) < 2 ^ (7 * (k + 1)) := by rw [hP]; omega
  by_cases h : k = 9
  · subst h
    have h3 : m * 2 ^ (7 * 9) ≤ 1 * 2 ^ (7 * 9) := Nat.mul_le_mul_right _ (h9 rfl)
    have e : (2 : Nat) ^ (7 * 9) = 9223372036854775808 := by decide
    rw [e] at h3 hX ⊢
    exact ⟨by omega, by omega, by rw [e] at h2; exact h2⟩
  · have h4 : 2 ^ (7 * (k + 1)) ≤ 2 ^ 63 := Nat.pow_le_pow_right (by omega) (by omega)
    have e : (2 : Nat) ^ 63 = 9223372036854775808 := by decide
    rw [e] at h4
    exact ⟨by omega, by omega, h2⟩

set_option maxRecDepth 100000 in
set_option maxHeartbeats 1000000 in
theorem rnumber_any (w : World) (a : Option Addr) (c : Nat) (bs : List UInt8) (h : IsB w (.slice a bs.length c) bs) :
    Calls Try.prog 63 #[.slice a bs.length c] w fun e w' => e = .returned (.tuple #[.int .u64 (numB bs).1, .int .i64 (numB bs).2.1, .int .i64 (numB bs).2.2]) ∧ w = w' := by
  obtain ⟨_, _, he, hlc, hcm, hcells⟩ := id h
  cases he
  have hnl : bs.length ≤ 9223372036854775807 := by unfold maxLen at hcm; omega
  go_enter Try.func63, Try.ntmps63
  go_wp2_with fail
  go_loopw [5, 6, 7] (fun xv sv i wr => ∃ k X : Nat, k ≤ bs.length ∧ k ≤ 9 ∧ i = .int .i64 k ∧ xv = .int .u64 X ∧ sv = .int .u64 ((2 ^ (7 * k) : Nat) : Int) ∧ X < 2 ^ (7 * k) ∧ Hid (numB bs = numFrom k X (bs.drop k)) ∧ w = wr) (fun _ _ i _ => bs.length - (intOf i).toNat)
  case atStart => exact ⟨0, 0, Nat.zero_le _, by omega, rfl, rfl, by simp, by simp, Lib.hid rfl, rfl⟩
  case round =>
    obtain ⟨k, X, hkn, hk9, rfl, rfl, rfl, hX, HN, rfl⟩ := hrel
    by_cases hlt : k < bs.length
    · obtain ⟨y, hy⟩ : ∃ y, bs[k] = y := ⟨_, rfl⟩
      have hne : bs ≠ [] := fun e => by rw [e] at hlt; simp at hlt
      obtain ⟨g, o, rfl, -, hcell⟩ := hcells.resolve_left hne
      have hc : w.cell? ⟨g, o + k, none⟩ = some (.int .u8 (y.toNat : Int)) := hcell k _ (by simp [bytesV, List.getElem?_eq_getElem hlt, hy])
      have hyl : y.toNat < 256 := y.toNat_lt
      have HD : Hid (bs.drop k = y :: bs.drop (k + 1)) := Lib.hid (by rw [List.drop_eq_getElem_cons hlt, hy])
      clear hy hcell
      obtain ⟨m, hm⟩ : ∃ m, y.toNat % 128 = m := ⟨_, rfl⟩
      have hmi : (y.toNat : Int) % 128 = (m : Int) := by omega
      have hm128 : m < 128 := by omega
      by_cases hbad : (k = 9 ∧ 1 < y.toNat) ∨ (0 < k ∧ y.toNat = 0)
      · by_cases h9 : k = 9 ∧ 1 < y.toNat
        · obtain ⟨rfl, h1⟩ := h9
          have h1' : (1 : Int) < (y.toNat : Int) := by omega
          go_wp2_with fail
          go_ret3
          rw [HN.out, HD.out]
          unfold numFrom
          rw [if_pos (by omega)]; exact ⟨rfl, rfl⟩
        · have hz : 0 < k ∧ y.toNat = 0 := hbad.resolve_left h9
          have hz' : (0 : Int) < (k : Int) := by omega
          have hz2 : ((y.toNat : Int) == 0) = true := by simp; omega
          have hz3 : ¬ (1 : Int) < (y.toNat : Int) := by omega
          by_cases h9 : k = 9
          · have h9b : ((k : Int) == 9) = true := by simp; omega
            clear h9
            go_wp2_with fail
            go_ret3
            rw [HN.out, HD.out]
            unfold numFrom
            rw [if_pos (by omega)]; exact ⟨rfl, rfl⟩
          · have h9b : ((k : Int) == 9) = false := by simp; omega
            go_wp2_with fail
            go_ret3
            rw [HN.out, HD.out]
            unfold numFrom
            rw [if_pos (by omega)]; exact ⟨rfl, rfl⟩
      · obtain ⟨b1, b2, b3⟩ := num_put X k m hX hk9 hm128 (fun h => by omega)
        obtain ⟨S, hS⟩ : ∃ S, 2 ^ (7 * k) = S := ⟨_, rfl⟩
        obtain ⟨Z, hZ⟩ : ∃ Z, X + m * 2 ^ (7 * k) = Z := ⟨_, rfl⟩
        rw [hZ] at b2 b3
        rw [hS] at hZ b1 ⊢
        obtain ⟨P, hP⟩ : ∃ P, m * S = P := ⟨_, rfl⟩
        rw [hP] at hZ b1
        have hmul : IntKind.u64.wrap ((m : Int) * (S : Int)) = (P : Int) := by rw [← hP, IntKind.wrap_u64, ← Int.natCast_mul]; omega
        have hadd : IntKind.u64.wrap ((X : Int) + (P : Int)) = (Z : Int) := by rw [IntKind.wrap_u64]; omega
        have HZ : Hid (X + y.toNat % 128 * 2 ^ (7 * k) = Z) := Lib.hid (by rw [hm, hS, hP, hZ])
        have HS2 : Hid (k ≤ 8 → S * 128 = 2 ^ (7 * (k + 1)) ∧ S * 128 < 18446744073709551616) := Lib.hid (fun h8 => by
          have e : 2 ^ (7 * (k + 1)) = S * 128 := by rw [Nat.mul_add, Nat.pow_add, hS]
          have h4 : 2 ^ (7 * (k + 1)) ≤ 2 ^ 63 := Nat.pow_le_pow_right (by omega) (by omega)
          have e2 : (2 : Nat) ^ 63 = 9223372036854775808 := by decide
          rw [e2, e] at h4
          exact ⟨e.symm, by omega⟩)
        have HB := Lib.hid hbad
        have HM := Lib.hid hm
        clear hS hZ hP hm
        by_cases hs : y.toNat < 128
        · have hs' : (y.toNat : Int) < 128 := by omega
          by_cases h9 : k = 9
          · have h9b : ((k : Int) == 9) = true := by simp; omega
            have h91 : ¬ (1 : Int) < (y.toNat : Int) := by omega
            have h90 : (0 : Int) < (k : Int) := by omega
            have hz2 : ((y.toNat : Int) == 0) = false := by simp; omega
            clear hbad h9
            go_wp2_with fail
            go_ret3
            rw [HN.out, HD.out]
            unfold numFrom
            rw [if_neg HB.out, if_pos hs, HZ.out]; exact ⟨rfl, rfl⟩
          · have h9b : ((k : Int) == 9) = false := by simp; omega
            by_cases h0 : k = 0
            · have h00 : ¬ (0 : Int) < (k : Int) := by omega
              clear hbad h0
              go_wp2_with fail
              go_ret3
              rw [HN.out, HD.out]
              unfold numFrom
              rw [if_neg HB.out, if_pos hs, HZ.out]; exact ⟨rfl, rfl⟩
            · have h90 : (0 : Int) < (k : Int) := by omega
              have hz2 : ((y.toNat : Int) == 0) = false := by simp; omega
              clear hbad
              go_wp2_with fail
              go_ret3
              rw [HN.out, HD.out]
              unfold numFrom
              rw [if_neg HB.out, if_pos hs, HZ.out]; exact ⟨rfl, rfl⟩
        · have hs' : ¬ (y.toNat : Int) < 128 := by omega
          have h9 : k ≠ 9 := by omega
          have h9b : ((k : Int) == 9) = false := by simp; omega
          have hz2 : ((y.toNat : Int) == 0) = false := by simp; omega
          have hsc : IntKind.u64.wrap ((S : Int) * 128) = ((S * 128 : Nat) : Int) := by
            have := (HS2.out (by omega)).2
            rw [IntKind.wrap_u64]; omega
          by_cases h0 : k = 0
          · have h00 : ¬ (0 : Int) < (k : Int) := by omega
            clear hbad h0
            go_wp2_with fail
            go_roundw
            case rel => exact ⟨k + 1, Z, hlt, by omega, by go_num, rfl, by rw [← (HS2.out (by omega)).1]; push_cast; rfl, b3, Lib.hid (by rw [HN.out, HD.out, numFrom, if_neg HB.out, if_neg hs, HZ.out]), trivial⟩
            case measure => simp [intOf]; omega
          · have h90 : (0 : Int) < (k : Int) := by omega
            clear hbad
            go_wp2_with fail
            go_roundw
            case rel => exact ⟨k + 1, Z, hlt, by omega, by go_num, rfl, by rw [← (HS2.out (by omega)).1]; push_cast; rfl, b3, Lib.hid (by rw [HN.out, HD.out, numFrom, if_neg HB.out, if_neg hs, HZ.out]), trivial⟩
            case measure => simp [intOf]; omega
    · go_wp2_with fail
      go_ret3
      rw [HN.out, List.drop_eq_nil_of_le (by omega)]
      exact ⟨rfl, rfl⟩
theorem word_take {bs : List UInt8} {k : Nat} (hk : k < bs.length) : wordFrom 0 (bs.take (k + 1)) = wordFrom 0 (bs.take k) * 256 % 18446744073709551616 + bs[k].toNat := by
  unfold wordFrom
  rw [List.take_succ_eq_append_getElem hk, List.foldl_append]; rfl
set_option maxRecDepth 100000 in
set_option maxHeartbeats 1000000 in
theorem rdo_any (w : World) (a : Option Addr) (c : Nat) (bs : List UInt8) (h : IsB w (.slice a bs.length c) bs) (h8 : 8 ≤ bs.length) (hlen : bs.length ≤ 100000000) :
    Calls Try.prog 64 #[.agg #[.slice a bs.length c, .int .i64 0], .agg #[.int .i64 2, .int .i64 0]] w fun e w' => ∃ a' c', e = .returned (.tuple #[.agg #[.slice a' (bs.length - 8) c', .int .i64 0], .agg #[.int .u64 (wordFrom 0 (bs.take 8)), .slice none 0 0]]) ∧ IsB w' (.slice a' (bs.length - 8) c') (bs.drop 8) ∧ (∀ g, (Value.slice a' (bs.length - 8) c').ownBlock = some g → (Value.slice a bs.length c).ownBlock = some g) ∧ Kept (fun _ => False) w w' := by
  obtain ⟨_, _, he, hlc, hcm, hcells⟩ := id h
  cases he
  obtain ⟨g, o, rfl, hgl, hcell⟩ := hcells.resolve_left (fun e => by rw [e] at h8; simp at h8)
  obtain ⟨W1, hW1⟩ : ∃ W, w.alloc (.cells #[.slice (some ⟨g, o, none⟩) bs.length c, .int .i64 0] 105) = W := ⟨_, rfl⟩
  obtain ⟨W2, hW2⟩ : ∃ W, W1.alloc (.cells #[.int .i64 2, .int .i64 0] 111) = W := ⟨_, rfl⟩
  obtain ⟨W3, hW3⟩ : ∃ W, W2.alloc (.cells #[.slice none 0 0, .int .i64 0] 105) = W := ⟨_, rfl⟩
  obtain ⟨W4, hW4⟩ : ∃ W, W3.alloc (.cells #[.int .u64 0, .slice none 0 0] 107) = W := ⟨_, rfl⟩
  have hk1 : Kept (fun _ => False) w W1 := by rw [← hW1]; exact (Kept.refl _ _).alloc _
  have hk2 : Kept (fun _ => False) W1 W2 := by rw [← hW2]; exact (Kept.refl _ _).alloc _
  have hk3 : Kept (fun _ => False) W2 W3 := by rw [← hW3]; exact (Kept.refl _ _).alloc _
  have hk4 : Kept (fun _ => False) W3 W4 := by rw [← hW4]; exact (Kept.refl _ _).alloc _
  have hs1 : W1.heap.size = w.heap.size + 1 := by rw [← hW1]; simp
  have hs2 : W2.heap.size = w.heap.size + 1 + 1 := by rw [← hW2]; simp [hs1]
  have hs3 : W3.heap.size = w.heap.size + 1 + 1 + 1 := by rw [← hW3]; simp [hs2]
  have hb1 : W1.heap[w.heap.size]? = some (.cells #[.slice (some ⟨g, o, none⟩) bs.length c, .int .i64 0] 105 (0, 0)) := by rw [← hW1]; exact World.alloc_heap_new _ _
  have hb3 : W3.heap[w.heap.size + 1 + 1]? = some (.cells #[.slice none 0 0, .int .i64 0] 105 (0, 0)) := by rw [← hW3, ← hs2]; exact World.alloc_heap_new _ _
  have hb4 : W4.heap[w.heap.size + 1 + 1 + 1]? = some (.cells #[.int .u64 0, .slice none 0 0] 107 (0, 0)) := by rw [← hW4, ← hs3]; exact World.alloc_heap_new _ _
  have hb1' := (hk4.block _ (by omega) (fun f => f)).trans ((hk3.block _ (by omega) (fun f => f)).trans ((hk2.block _ (by omega) (fun f => f)).trans hb1))
  have hb3' := (hk4.block _ (by omega) (fun f => f)).trans hb3
  have hkw : Kept (fun _ => False) w W4 := ((hk1.more hk2 (fun _ f => f.elim)).more hk3 (fun _ f => f.elim)).more hk4 (fun _ f => f.elim)
  have HWS := Lib.hid (And.intro hW1 (And.intro hW2 (And.intro hW3 hW4)))
  have HB := Lib.hid (And.intro hb1' (And.intro hb3' hb4))
  clear hW1 hW2 hW3 hW4 hk1 hk2 hk3 hk4 hs1 hs2 hs3 hb1 hb3 hb4 hb1' hb3'
  go_enter Try.func64, Try.ntmps64
  go_wp2_with fail
  rw [HWS.out.1, HWS.out.2.1, HWS.out.2.2.1, HWS.out.2.2.2]
  obtain ⟨hb1, hb3, hb4⟩ := HB.out
  have c0 : W4.cell? ⟨w.heap.size, 0, none⟩ = some (.slice (some ⟨g, o, none⟩) bs.length c) := by simp [World.cell?, hb1]
  have c3 : W4.cell? ⟨w.heap.size + 1 + 1, 0, none⟩ = some (.slice none 0 0) := by simp [World.cell?, hb3]
  have c4 : W4.cell? ⟨w.heap.size + 1 + 1, 1, none⟩ = some (.int .i64 0) := by simp [World.cell?, hb3]
  have c5 : W4.cell? ⟨w.heap.size + 1 + 1 + 1, 0, none⟩ = some (.int .u64 0) := by simp [World.cell?, hb4]
  have c6 : W4.cell? ⟨w.heap.size + 1 + 1 + 1, 1, none⟩ = some (.slice none 0 0) := by simp [World.cell?, hb4]
  have f3 : ∀ i, W4.frozen? ⟨w.heap.size + 1 + 1, i, none⟩ = false := fun i => by simp [World.frozen?, hb3]
  have f4 : ∀ i, W4.frozen? ⟨w.heap.size + 1 + 1 + 1, i, none⟩ = false := fun i => by simp [World.frozen?, hb4]
  have hcellW := fun i x hx => hkw.cell (hcell i x hx) (fun f => f)
  have HC := Lib.hid hcellW
  clear hcellW hcell
  go_loopw [10, 11] (fun xv i wr => wr = W4 ∧ ∃ k : Nat, k ≤ 8 ∧ i = .int .i64 k ∧ xv = .int .u64 (wordFrom 0 (bs.take k))) (fun _ i _ => 8 - (intOf i).toNat)
  case atStart => exact ⟨rfl, 0, by omega, rfl, by simp [wordFrom]⟩
  case round =>
    obtain ⟨rfl, k, hk, rfl, rfl⟩ := hrel
    by_cases hlt : k < 8
    · have hkb : k < bs.length := by omega
      have hci := HC.out k (.int .u8 (bs[k].toNat : Int)) (by simp [bytesV, hkb])
      have hst := word_take hkb
      obtain ⟨y, hy⟩ : ∃ y, bs[k] = y := ⟨_, rfl⟩
      rw [hy] at hci hst
      have HST := Lib.hid hst
      clear hy hst
      have hyl : y.toNat < 256 := y.toNat_lt
      obtain ⟨X, hX⟩ : ∃ X, wordFrom 0 (bs.take k) = X := ⟨_, rfl⟩
      rw [hX] at HST ⊢
      clear hX
      obtain ⟨Y, hY⟩ : ∃ Y, X * 256 % 18446744073709551616 = Y := ⟨_, rfl⟩
      have hw1 : IntKind.u64.wrap ((X : Int) * 256) = (Y : Int) := by rw [IntKind.wrap_u64]; omega
      have hw2 : IntKind.u64.wrap ((Y : Int) + (y.toNat : Int)) = ((Y + y.toNat : Nat) : Int) := by rw [IntKind.wrap_u64]; omega
      have hw3 : IntKind.u64.wrap (y.toNat : Int) = (y.toNat : Int) := by rw [IntKind.wrap_u64]; omega
      rw [hY] at HST
      clear hY
      go_wp2
      go_roundw
      case rel => exact ⟨trivial, k + 1, hlt, by go_num, by rw [HST.out]; push_cast; rfl⟩
      case measure => simp [intOf]; omega
    · obtain rfl : k = 8 := by omega
      obtain ⟨sv, hsl0, hB8, hob, -⟩ := bytes_low (h.keptF hkw (fun _ _ f => f)) h8
      have hsl : ∀ w', (Instr.slice 22 (.slice (some ⟨g, o, none⟩) bs.length c) (some (.int .i64 8)) none none).run Try.prog w' = .ok (.slice sv (bs.length - 8) (c - 8)) w' := hsl0
      clear hsl0
      obtain ⟨XX, hXX⟩ : ∃ XX, wordFrom 0 (bs.take 8) = XX := ⟨_, rfl⟩
      have HXX := Lib.hid hXX
      rw [hXX]
      clear hXX
      go_wp2_with fail
      obtain ⟨V, hV⟩ : ∃ V, Value.slice sv (bs.length - 8) (c - 8) = V := ⟨_, rfl⟩
      rw [hV]
      have r1 := heap_setCell_row (o := 0) hb3 V
      have r2 := heap_setCell_row (o := 1) r1 (.int .i64 0)
      have q1 := (heap_setCell_ne (w := wr) (b := w.heap.size + 1 + 1) (o := 0) (k := w.heap.size + 1 + 1 + 1) (by omega) V).trans hb4
      have q2 := (heap_setCell_ne (b := w.heap.size + 1 + 1) (o := 1) (k := w.heap.size + 1 + 1 + 1) (by omega) (.int .i64 0)).trans q1
      have q3 := heap_setCell_row (o := 0) q2 (.int .u64 (XX : Int))
      have q4 := heap_setCell_row (o := 1) q3 (.slice none 0 0)
      have r3 := (heap_setCell_ne (b := w.heap.size + 1 + 1 + 1) (o := 0) (k := w.heap.size + 1 + 1) (by omega) (.int .u64 (XX : Int))).trans r2
      have r4 := (heap_setCell_ne (b := w.heap.size + 1 + 1 + 1) (o := 1) (k := w.heap.size + 1 + 1) (by omega) (.slice none 0 0)).trans r3
      have hkR : Kept (fun i => w.heap.size ≤ i) wr _ := ((((Kept.refl _ wr).setCell (p := ⟨w.heap.size + 1 + 1, 0, none⟩) (fun _ => by simp only; omega) V).setCell (p := ⟨w.heap.size + 1 + 1, 1, none⟩) (fun _ => by simp only; omega) (.int .i64 0)).setCell (p := ⟨w.heap.size + 1 + 1 + 1, 0, none⟩) (fun _ => by simp only; omega) (.int .u64 (XX : Int))).setCell (p := ⟨w.heap.size + 1 + 1 + 1, 1, none⟩) (fun _ => by simp only; omega) (.slice none 0 0)
      obtain ⟨W5, hW5⟩ : ∃ W5, (((wr.setCell ⟨w.heap.size + 1 + 1, 0, none⟩ V).setCell ⟨w.heap.size + 1 + 1, 1, none⟩ (.int .i64 0)).setCell ⟨w.heap.size + 1 + 1 + 1, 0, none⟩ (.int .u64 (XX : Int))).setCell ⟨w.heap.size + 1 + 1 + 1, 1, none⟩ (.slice none 0 0) = W5 := ⟨_, rfl⟩
      rw [hW5] at r4 q4 hkR ⊢
      clear hW5 r1 r2 r3 q1 q2 q3
      simp only [List.setIfInBounds_toArray, List.set_cons_zero, List.set_cons_succ] at r4 q4
      have L1 := run_loadVar_row (P := Try.prog) W5 (w.heap.size + 1 + 1) 105 105 _ (0, 0) _ r4 Try.underlying105 rfl (by kernel_rfl)
      have L2 := run_loadVar_row (P := Try.prog) W5 (w.heap.size + 1 + 1 + 1) 107 107 _ (0, 0) _ q4 Try.underlying107 rfl (by kernel_rfl)
      refine bodyPost_ret (v := .tuple #[.agg #[V, .int .i64 0], .agg #[.int .u64 (XX : Int), .slice none 0 0]]) (by simp [results, Try.f64, asAddr, L1, L2, Sem.run_bind, Result.andThen]) rfl ?_
      refine ⟨sv, c - 8, by rw [← HXX.out, hV], ?_, hob, hkw.more hkR (fun i hi => hi)⟩
      exact IsB.keptF hB8 (F := fun i => w.heap.size ≤ i) hkR (fun g' e f => by
        have f' : w.heap.size ≤ g' := f
        have h1 : some g = some g' := hob g' e
        cases h1
        omega)
end Go.Proofs.Ytinmjgaaehdicaa
