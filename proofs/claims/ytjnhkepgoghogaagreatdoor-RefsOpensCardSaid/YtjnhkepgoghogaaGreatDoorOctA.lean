/- octet: Hash, PutWord, PutUint. -/
import Derived.Test.YtjnhkepgoghogaaGreatDoorDiskD
import Derived.Laws.Bits64
namespace Go.Proofs.YtjnhkepgoghogaaGreatDoor
open Go.RowKit Go.ChangeMaps Go.MapKept

def hashStep (h : Nat) (x : UInt8) : Nat := ((h ^^^ x.toNat) * 1099511628211) % 18446744073709551616
def hashFrom (h : Nat) (l : List UInt8) : Nat := l.foldl hashStep h
def hashB (l : List UInt8) : Nat := hashFrom 14695981039346656037 l

theorem hashStep_lt (h : Nat) (x : UInt8) : hashStep h x < 18446744073709551616 := Nat.mod_lt _ (by omega)
theorem hashFrom_lt (h : Nat) (l : List UInt8) (hh : h < 18446744073709551616) : hashFrom h l < 18446744073709551616 := by
  induction l generalizing h with
  | nil => exact hh
  | cons x l ih => exact ih _ (hashStep_lt _ _)
theorem hashB_lt (l : List UInt8) : hashB l < 18446744073709551616 := hashFrom_lt _ _ (by omega)

theorem hash_nil : ((hashB [] : Nat) : Int) = 14695981039346656037 := by unfold hashB hashFrom; rw [List.foldl_nil]; omega
theorem hashStep_wrap (h : Nat) (x : UInt8) : IntKind.u64.wrap (((h ^^^ x.toNat : Nat) : Int) * 1099511628211) = ((hashStep h x : Nat) : Int) := by
  rw [IntKind.wrap_u64]; unfold hashStep
  generalize h ^^^ x.toNat = y
  omega
theorem hash_take {bs : List UInt8} {k : Nat} (h : k < bs.length) : hashB (bs.take (k + 1)) = hashStep (hashB (bs.take k)) bs[k] := by
  unfold hashB hashFrom
  rw [List.take_succ_eq_append_getElem h, List.foldl_append, List.foldl_cons, List.foldl_nil]

set_option maxRecDepth 100000 in
theorem hash_any (w : World) (a : Option Addr) (c : Nat) (bs : List UInt8) (h : IsB w (.slice a bs.length c) bs) :
    Calls Tryz.prog 52 #[.slice a bs.length c] w fun e w' => e = .returned (.int .u64 (hashB bs)) ∧ w = w' := by
  obtain ⟨_, _, he, hlc, hcm, hcells⟩ := id h
  cases he
  have hnl : bs.length ≤ 9223372036854775807 := by unfold maxLen at hcm; omega
  go_enter Tryz.func52, Tryz.ntmps52
  go_wp2_with fail
  go_loopw [3, 8] (fun hv i wr => ∃ k : Nat, k ≤ bs.length ∧ i = .int .i64 k ∧ hv = .int .u64 (hashB (bs.take k)) ∧ w = wr) (fun _ i _ => bs.length - (intOf i).toNat)
  case atStart => exact ⟨0, Nat.zero_le _, rfl, by rw [List.take_zero, hash_nil], rfl⟩
  case round =>
    obtain ⟨k, hkn, rfl, rfl, rfl⟩ := hrel
    by_cases hlt : k < bs.length
    · obtain ⟨x, hx⟩ : ∃ x, bs[k] = x := ⟨_, rfl⟩
      have hne : bs ≠ [] := fun e => by rw [e] at hlt; simp at hlt
      obtain ⟨g, o, rfl, -, hcell⟩ := hcells.resolve_left hne
      have hc : w.cell? ⟨g, o + k, none⟩ = some (.int .u8 (x.toNat : Int)) := hcell k _ (by simp [bytesV, List.getElem?_eq_getElem hlt, hx])
      have hxl : x.toNat < 256 := x.toNat_lt
      have hstep := hash_take hlt
      rw [hx] at hstep
      have hHl := hashB_lt (bs.take k)
      have HST := Lib.hid hstep
      have HX := Lib.hid hx
      clear hx hstep hcell
      generalize hashB (bs.take k) = hh at *
      have h1 : bits .xor .u64 (hh : Int) (x.toNat : Int) = ((hh ^^^ x.toNat : Nat) : Int) := bits_xor_u64_nat _ _ hHl (by omega)
      have h2 : IntKind.u64.wrap (((hh ^^^ x.toNat : Nat) : Int) * 1099511628211) = ((hashStep hh x : Nat) : Int) := hashStep_wrap _ _
      have h3 : IntKind.u64.wrap (x.toNat : Int) = (x.toNat : Int) := by rw [IntKind.wrap_u64]; omega
      go_wp2
      go_roundw
      case rel => exact ⟨k + 1, by omega, by go_num, by rw [HST.out], trivial⟩
      case measure => simp [intOf]; omega
    · go_wp2
      go_ret
      rw [List.take_of_length_le (by omega)]
      exact ⟨rfl, rfl⟩
end Go.Proofs.YtjnhkepgoghogaaGreatDoor
