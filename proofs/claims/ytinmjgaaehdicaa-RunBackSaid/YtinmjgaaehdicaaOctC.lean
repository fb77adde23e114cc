/- octet: number; the reader. -/
import Derived.Test.YtinmjgaaehdicaaOctB
namespace Go.Proofs.Ytinmjgaaehdicaa
open Go.RowKit Go.ChangeMaps Go.MapKept

def numFrom (i x : Nat) : List UInt8 → Nat × Nat × Int
  | [] => (0, 0, 110)
  | c :: l => if (i = 9 ∧ 1 < c.toNat) ∨ (0 < i ∧ c.toNat = 0) then (0, 0, 8) else
      if c.toNat < 128 then (x + c.toNat % 128 * 2 ^ (7 * i), i + 1, 0) else numFrom (i + 1) (x + c.toNat % 128 * 2 ^ (7 * i)) l
def numB (l : List UInt8) : Nat × Nat × Int := numFrom 0 0 l

theorem bits_or_u64_nat (a b : Nat) (ha : a < 18446744073709551616) (hb : b < 18446744073709551616) : bits .or .u64 (a : Int) (b : Int) = ((a ||| b : Nat) : Int) := by
  have hx : a ||| b < 2 ^ 64 := Nat.or_lt_two_pow (by omega) (by omega)
  have h1 : (BitVec.ofInt 64 (a : Int)).toNat = a := by
    rw [BitVec.ofInt_natCast, BitVec.toNat_ofNat]; exact Nat.mod_eq_of_lt (by omega)
  have h2 : (BitVec.ofInt 64 (b : Int)).toNat = b := by
    rw [BitVec.ofInt_natCast, BitVec.toNat_ofNat]; exact Nat.mod_eq_of_lt (by omega)
  show IntKind.u64.wrap ((BitVec.ofInt 64 (a : Int) ||| BitVec.ofInt 64 (b : Int)).toNat : Int) = _
  rw [BitVec.toNat_or, h1, h2, IntKind.wrap_u64]
  omega

theorem and_127 (y : UInt8) : bits .and .u8 (y.toNat : Int) 127 = ((y.toNat % 128 : Nat) : Int) := by
  have : ∀ m : Nat, m < 256 → bits .and .u8 (m : Int) 127 = ((m % 128 : Nat) : Int) := by decide +kernel
  exact this _ y.toNat_lt

theorem or_put (X k : Nat) (y : UInt8) (hX : X < 2 ^ (7 * k)) (hk : k ≤ 9) (h9 : k = 9 → y.toNat ≤ 1) :
    bits .or .u64 (X : Int) (IntKind.u64.wrap (IntKind.u64.wrap (bits .and .u8 (y.toNat : Int) 127) * 2 ^ (7 * k))) = ((X + y.toNat % 128 * 2 ^ (7 * k) : Nat) : Int) ∧ X + y.toNat % 128 * 2 ^ (7 * k) < 18446744073709551616 ∧ X + y.toNat % 128 * 2 ^ (7 * k) < 2 ^ (7 * (k + 1)) := by
  obtain ⟨c, hc⟩ : ∃ c, y.toNat % 128 = c := ⟨_, rfl⟩
  have hc128 : c < 128 := by omega
  have hP : 2 ^ (7 * (k + 1)) = 2 ^ (7 * k) * 128 := by rw [Nat.mul_add, Nat.pow_add]
  have hm : c * 2 ^ (7 * k) ≤ 127 * 2 ^ (7 * k) := Nat.mul_le_mul_right _ (by omega)
  have hlt : X + c * 2 ^ (7 * k) < 2 ^ (7 * (k + 1)) := by rw [hP]; omega
  have h64 : X + c * 2 ^ (7 * k) < 18446744073709551616 := by
    by_cases h : k = 9
    · have := h9 h
      subst h
      have hc1 : c ≤ 1 := by omega
      have : c * 2 ^ (7 * 9) ≤ 1 * 2 ^ (7 * 9) := Nat.mul_le_mul_right _ hc1
      omega
    · have : 2 ^ (7 * (k + 1)) ≤ 2 ^ 63 := Nat.pow_le_pow_right (by omega) (by omega)
      omega
  refine ⟨?_, by rw [hc]; exact h64, by rw [hc]; exact hlt⟩
  rw [and_127, hc, IntKind.wrap_u64, IntKind.wrap_u64]
  have e1 : ((c : Nat) : Int) % 18446744073709551616 = ((c : Nat) : Int) := by omega
  rw [e1, show ((c : Int) * 2 ^ (7 * k)) = ((c * 2 ^ (7 * k) : Nat) : Int) from by push_cast; rfl]
  have e2 : ((c * 2 ^ (7 * k) : Nat) : Int) % 18446744073709551616 = ((c * 2 ^ (7 * k) : Nat) : Int) := by omega
  rw [e2, bits_or_u64_nat _ _ (by omega) (by omega)]
  congr 1
  have := Nat.shiftLeft_add_eq_or_of_lt hX c
  rw [Nat.shiftLeft_eq] at this
  rw [Nat.or_comm, ← this, Nat.add_comm]


set_option maxRecDepth 100000 in
theorem number_any (w : World) (a : Option Addr) (c : Nat) (bs : List UInt8) (h : IsB w (.slice a bs.length c) bs) :
    Calls Try.prog 96 #[.slice a bs.length c] w fun e w' => e = .returned (.tuple #[.int .u64 (numB bs).1, .int .i64 (numB bs).2.1, .int .i64 (numB bs).2.2]) ∧ w = w' := by
  obtain ⟨_, _, he, hlc, hcm, hcells⟩ := id h
  cases he
  have hnl : bs.length ≤ 9223372036854775807 := by unfold maxLen at hcm; omega
  go_enter Try.func96, Try.ntmps96
  go_wp2_with fail
  go_loopw [5, 10] (fun xv i wr => ∃ k X : Nat, k ≤ bs.length ∧ k ≤ 9 ∧ i = .int .i64 k ∧ xv = .int .u64 X ∧ X < 2 ^ (7 * k) ∧ Hid (numB bs = numFrom k X (bs.drop k)) ∧ w = wr) (fun _ i _ => bs.length - (intOf i).toNat)
  case atStart => exact ⟨0, 0, Nat.zero_le _, by omega, rfl, rfl, by simp, Lib.hid rfl, rfl⟩
  case round =>
    obtain ⟨k, X, hkn, hk9, rfl, rfl, hX, HN, rfl⟩ := hrel
    by_cases hlt : k < bs.length
    · obtain ⟨y, hy⟩ : ∃ y, bs[k] = y := ⟨_, rfl⟩
      have hne : bs ≠ [] := fun e => by rw [e] at hlt; simp at hlt
      obtain ⟨g, o, rfl, -, hcell⟩ := hcells.resolve_left hne
      have hc : w.cell? ⟨g, o + k, none⟩ = some (.int .u8 (y.toNat : Int)) := hcell k _ (by simp [bytesV, List.getElem?_eq_getElem hlt, hy])
      have hyl : y.toNat < 256 := y.toNat_lt
      have HD : Hid (bs.drop k = y :: bs.drop (k + 1)) := Lib.hid (by rw [List.drop_eq_getElem_cons hlt, hy])
      clear hy hcell
      by_cases h9 : k = 9
      · subst h9
        by_cases h1 : 1 < y.toNat
        · have h1' : (1 : Int) < (y.toNat : Int) := by omega
          go_wp2_with fail
          go_ret3
          rw [HN.out, HD.out]
          unfold numFrom
          rw [if_pos (by omega)]; exact ⟨rfl, rfl⟩
        · have h1' : ¬ (1 : Int) < (y.toNat : Int) := by omega
          by_cases hz : y.toNat = 0
          · have hz' : ((y.toNat : Int) == 0) = true := by simp; omega
            go_wp2_with fail
            go_ret3
            rw [HN.out, HD.out]
            unfold numFrom
            rw [if_pos (by omega)]; exact ⟨rfl, rfl⟩
          · have hz' : ((y.toNat : Int) == 0) = false := by simp; omega
            have hs' : (y.toNat : Int) < 128 := by omega
            obtain ⟨hv, hv64, -⟩ := or_put X 9 y hX (by omega) (by omega)
            rw [show (2 : Int) ^ (7 * 9) = 9223372036854775808 from rfl] at hv
            go_wp2_with fail
            go_ret3
            rw [HN.out, HD.out]
            unfold numFrom
            rw [if_neg (by omega), if_pos (by omega)]; exact ⟨rfl, rfl⟩
      · have h9' : ((k : Int) == 9) = false := by simp; omega
        obtain ⟨hv, hv64, hvk⟩ := or_put X k y hX hk9 (by omega)
        obtain ⟨Z, hZ⟩ : ∃ Z, X + y.toNat % 128 * 2 ^ (7 * k) = Z := ⟨_, rfl⟩
        rw [hZ] at hv hv64 hvk
        have HZ := Lib.hid hZ
        clear hZ
        by_cases h0 : k = 0
        · have h0' : ¬ (0 : Int) < (k : Int) := by omega
          have hc0 : w.cell? ⟨g, o, none⟩ = some (.int .u8 (y.toNat : Int)) := by rw [h0] at hc; exact hc
          have hv0 : bits .or .u64 (X : Int) (IntKind.u64.wrap (IntKind.u64.wrap (bits .and .u8 (y.toNat : Int) 127))) = (Z : Int) := by rw [← hv, h0]; simp
          by_cases hs : y.toNat < 128
          · have hs' : (y.toNat : Int) < 128 := by omega
            go_wp2_with fail
            go_ret3
            rw [HN.out, HD.out]
            unfold numFrom
            rw [if_neg (by omega), if_pos hs, HZ.out]; subst h0; exact ⟨rfl, rfl⟩
          · have hs' : ¬ (y.toNat : Int) < 128 := by omega
            go_wp2_with fail
            go_roundw
            case rel => exact ⟨k + 1, _, by omega, by omega, by go_num, rfl, hvk, Lib.hid (by rw [HN.out, HD.out]; rw [numFrom, if_neg (by omega), if_neg hs, HZ.out]), trivial⟩
            case measure => simp [intOf]; omega
        · have h0' : (0 : Int) < (k : Int) := by omega
          by_cases hz : y.toNat = 0
          · have hz' : ((y.toNat : Int) == 0) = true := by simp; omega
            go_wp2_with fail
            go_ret3
            rw [HN.out, HD.out]
            unfold numFrom
            rw [if_pos (by omega)]; exact ⟨rfl, rfl⟩
          · have hz' : ((y.toNat : Int) == 0) = false := by simp; omega
            by_cases hs : y.toNat < 128
            · have hs' : (y.toNat : Int) < 128 := by omega
              go_wp2_with fail
              go_ret3
              rw [HN.out, HD.out]
              unfold numFrom
              rw [if_neg (by omega), if_pos hs, HZ.out]; exact ⟨rfl, rfl⟩
            · have hs' : ¬ (y.toNat : Int) < 128 := by omega
              go_wp2_with fail
              go_roundw
              case rel => exact ⟨k + 1, _, by omega, by omega, by go_num, rfl, hvk, Lib.hid (by rw [HN.out, HD.out]; rw [numFrom, if_neg (by omega), if_neg hs, HZ.out]), trivial⟩
              case measure => simp [intOf]; omega
    · go_wp2_with fail
      go_ret3
      rw [HN.out, List.drop_eq_nil_of_le (by omega)]
      exact ⟨rfl, rfl⟩
end Go.Proofs.Ytinmjgaaehdicaa
