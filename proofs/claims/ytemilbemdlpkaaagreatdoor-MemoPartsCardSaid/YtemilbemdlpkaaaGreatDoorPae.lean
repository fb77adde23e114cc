/- octet: PutWord, PutUint. -/
import Derived.Maps.AppendAt
import Derived.Test.YtemilbemdlpkaaaGreatDoorPad
namespace Go.Proofs.YtemilbemdlpkaaaGreatDoor
open Go.RowKit Go.ChangeMaps Go.MapKept

/-- A row of bytes of our own, laid since a world. -/
def NewB (w0 : World) (w : World) (v : Value) (bs : List UInt8) : Prop := w.ownsRow w0.heap.size 5 1 v bs.length (bytesV bs)

theorem FreshB.row {w : World} {v : Value} {bs : List UInt8} {w' : World} (h : FreshB w v bs w') : NewB w w' v bs := by
  obtain ⟨h1, h2⟩ := h.own
  refine ⟨h1, ?_⟩
  rcases h2 with h2 | ⟨g, cap, cur, rfl, -, h3⟩
  · exact .inl h2
  · exact .inr ⟨g, cap, cur, rfl, h.new g rfl, h3⟩

theorem NewB.fresh {w w' : World} {v : Value} {bs : List UInt8} (h : NewB w w' v bs) (hk : Kept (fun _ => False) w w') : FreshB w v bs w' := by
  obtain ⟨h1, h2⟩ := h
  refine ⟨⟨h1, ?_⟩, hk, fun g hg => ?_⟩
  · rcases h2 with h2 | ⟨g, cap, cur, rfl, -, h3⟩
    · exact .inl h2
    · exact .inr ⟨g, cap, cur, rfl, Nat.zero_le _, h3⟩
  · rcases h2 with ⟨rfl, -⟩ | ⟨g', cap, cur, rfl, hb, -⟩
    · cases hg
    · cases hg; exact hb

theorem NewB.form {w w' : World} {v : Value} {bs : List UInt8} (h : NewB w w' v bs) : ∃ a c, v = .slice a bs.length c ∧ bs.length ≤ c ∧ c ≤ maxLen := by
  rcases h.2 with ⟨rfl, h0⟩ | ⟨g, cap, cur, rfl, _, _, hn, hm, _⟩
  · exact ⟨none, 0, by rw [h0], by omega, by simp [maxLen]⟩
  · exact ⟨_, cap, rfl, hn, hm⟩

theorem NewB.keptN {w0 w w' : World} {v : Value} {bs : List UInt8} (h : NewB w0 w v bs) (hk : Kept (fun _ => False) w w') : NewB w0 w' v bs :=
  World.ownsRow.kept h (hk.grownBy none) (by cases v.ownBlock <;> simp)

theorem NewB.none (w0 w : World) : NewB w0 w (.slice none 0 0) [] := World.ownsRow_nil _ _ _ _

/-- One byte more behind a row of our own. -/
theorem NewB.push {w0 w : World} {v : Value} {bs : List UInt8} (h : NewB w0 w v bs) (hk0 : w0.heap.size ≤ w.heap.size) (a : Addr) (x : UInt8) (ha : w.cell? a = some (.int .u8 (x.toNat : Int))) (hl : bs.length + 1 ≤ 140737488355328) :
    ∃ v' w', (Builtin.append_ #[25, 25] 25 #[v, .slice (some a) 1 1]).run Tryz.prog w = .ok v' w' ∧ NewB w0 w' v' (bs ++ [x]) ∧ Kept (fun k => w0.heap.size ≤ k) w w' := by
  obtain ⟨i0, hi, hz0, hz1, hz2⟩ := info_parts Tryz.info5
  obtain ⟨v', w', hrun, ho2, hg2, -, hb2⟩ := run_append_own_at (P := Tryz.prog) w w0.heap.size 25 25 5 i0 _ 1 1 Tryz.underlying25 hi hz0 hz1 hz2 rfl (by decide) _ _ _ h a 1 1 [.int .u8 (x.toNat : Int)] rfl (by
    intro j u hu
    match j, hu with
    | 0, hu => cases hu; exact ha
    | j + 1, hu => simp at hu) (by intro u hu; simp at hu; subst hu; rfl) (by unfold maxLen; omega) (by omega) hk0
  refine ⟨v', w', hrun, ?_, Kept.grown (F := fun k => w0.heap.size ≤ k) (Kept.refl _ _) hg2 (fun k hk _ => (World.ownsRow.lt h k hk).1)⟩
  have : bytesV (bs ++ [x]) = bytesV bs ++ [.int .u8 (x.toNat : Int)] := by simp [bytesV]
  unfold NewB
  rw [this, List.length_append]
  exact ho2

/-- A box of one byte that the walk lays. -/
theorem byte_new (w : World) (n : Int) (x : UInt8) (hn : n = (x.toNat : Int)) : ∃ w2, w.alloc (.cells #[.int .u8 n] 5) = w2 ∧ Kept (fun _ => False) w w2 ∧ w2.heap.size = w.heap.size + 1 ∧ w2.cell? ⟨w.heap.size, 0, none⟩ = some (.int .u8 (x.toNat : Int)) := by
  subst hn
  exact ⟨_, rfl, (Kept.refl _ _).alloc _, by simp, by rw [World.cell?_alloc_new]; rfl⟩


def wordB (x : Nat) : List UInt8 := (List.range 8).map fun i => UInt8.ofNat (x / 2 ^ (56 - 8 * i))

set_option maxRecDepth 100000 in
theorem putWord_any (w : World) (v : Value) (bs : List UInt8) (x : Nat) (h : IsB w v bs) (hlen : bs.length ≤ 100000000000000) :
    Calls Tryz.prog 80 #[v, .int .u64 x] w fun e w' => ∃ v', e = .returned v' ∧ FreshB w v' (bs ++ wordB x) w' := by
  go_enter Tryz.func80, Tryz.ntmps80
  go_wp2_with fail
  refine (clone_any w v bs h (by omega)).mono ?_
  rintro e w1 ⟨v1, rfl, hf, -⟩
  have hr := hf.row
  have hk1 := hf.kept
  clear hf
  go_wp2_with fail
  go_loopw [5, 6] (fun ov i wr => ∃ k : Nat, k ≤ 8 ∧ i = .int .i64 (56 - 8 * (k : Int)) ∧ NewB w wr ov (bs ++ (wordB x).take k) ∧ Kept (fun _ => False) w wr) (fun _ i _ => match i with | .int _ n => (n + 8).toNat | _ => 0)
  case atStart => exact ⟨0, by omega, rfl, by simpa using hr, hk1⟩
  case round =>
    obtain ⟨k, hkn, rfl, hrow, hkr⟩ := hrel
    by_cases hlt : k < 8
    · obtain ⟨s, hs, hs2⟩ : ∃ s : Nat, (56 - 8 * (k : Int)) = (s : Int) ∧ s = 56 - 8 * k := ⟨56 - 8 * k, by omega, rfl⟩
      have HS := Lib.hid hs2
      clear hs2
      rw [hs]
      clear hs
      obtain ⟨y, hy⟩ : ∃ y : UInt8, y = UInt8.ofNat (x / 2 ^ s) := ⟨_, rfl⟩
      have hb : (x : Int) / 2 ^ min s 64 % 256 = (y.toNat : Int) := by
        rw [hy, Nat.min_eq_left (by have := HS.out; omega), UInt8.toNat_ofNat']; norm_cast
      have HY : Hid (bs ++ (wordB x).take (k + 1) = bs ++ (wordB x).take k ++ [y]) := by
        refine Lib.hid ?_
        have hlw : (wordB x).length = 8 := by simp [wordB]
        rw [List.append_assoc, List.take_succ_eq_append_getElem (by omega)]
        congr 2
        rw [hy, HS.out]; simp [wordB]
      have HL : Hid ((bs ++ (wordB x).take k).length + 1 ≤ 140737488355328) := Lib.hid (by
        have : ((wordB x).take k).length ≤ k := by rw [List.length_take]; omega
        rw [List.length_append]; omega)
      clear hy
      generalize bs ++ (wordB x).take k = out at *
      obtain ⟨oa, oc, rfl, -, -⟩ := hrow.form
      obtain ⟨wA, hwA, hkA, hszA, hA0⟩ := byte_new wr ((y.toNat : Int)) y rfl
      obtain ⟨v', w', hrun, hro2, hk2⟩ := (NewB.keptN hrow hkA).push (by have := hkr.size; omega) ⟨wr.heap.size, 0, none⟩ y hA0 HL.out
      have hkw : Kept (fun _ => False) w w' := (hkr.more hkA (fun _ h => h.elim)).more hk2 (fun _ h => h)
      have HRO := Lib.hid hro2
      clear hro2
      go_wp2_with (at_builtin; refine wpList_append_run rfl (.tmp 13) (.tmp 18) #[25, 25] rfl _ _ _ _ rfl rfl hrun ?_)
      clear hrun
      have hw64 : wrap64 ((s : Int) - 8) = (s : Int) - 8 := by have := HS.out; unfold wrap64; omega
      rw [hw64]
      go_roundw
      case rel =>
        have hs8 := HS.out
        exact ⟨k + 1, by omega, by rw [show ((s : Int) - 8) = 56 - 8 * ((k + 1 : Nat) : Int) from by omega], by rw [HY.out]; exact HRO.out, hkw⟩
      case measure =>
        have hs8 := HS.out
        simp only []
        omega
    · go_wp2
      go_ret
      have hlw : (wordB x).length = 8 := by simp [wordB]
      rw [List.take_of_length_le (by omega)] at hrow
      exact ⟨_, rfl, hrow.fresh hkr⟩

def uintB (x : Nat) : List UInt8 := if _h : x < 128 then [UInt8.ofNat x] else UInt8.ofNat (x % 128 + 128) :: uintB (x / 128)
termination_by x
decreasing_by omega

theorem uintB_small {x : Nat} (h : x < 128) : uintB x = [UInt8.ofNat x] := by rw [uintB]; simp [h]
theorem uintB_big {x : Nat} (h : ¬ x < 128) : uintB x = UInt8.ofNat (x % 128 + 128) :: uintB (x / 128) := by rw [uintB]; simp [h]
theorem uintB_len (x n : Nat) (h : x < 2 ^ (7 * n)) (hn : 0 < n) : (uintB x).length ≤ n := by
  induction n generalizing x with
  | zero => omega
  | succ n ih =>
    by_cases hx : x < 128
    · rw [uintB_small hx]; simp
    · rw [uintB_big hx, List.length_cons]
      have hn0 : 0 < n := by
        rcases Nat.eq_zero_or_pos n with rfl | h0
        · simp at h; omega
        · exact h0
      have := ih (x / 128) (by rw [Nat.div_lt_iff_lt_mul (by omega), show 2 ^ (7 * n) * 128 = 2 ^ (7 * (n + 1)) from by rw [Nat.mul_add, Nat.pow_add]]; exact h) hn0
      omega

theorem or_128 (x : Nat) : bits .or .u8 ((x : Int) % 256) 128 = ((UInt8.ofNat (x % 128 + 128)).toNat : Int) := by
  rw [UInt8.toNat_ofNat', show ((x : Int) % 256) = ((x % 256 : Nat) : Int) from by omega]
  have : ∀ m : Nat, m < 256 → bits .or .u8 (m : Int) 128 = (((m % 128 + 128) % 2 ^ 8 : Nat) : Int) := by decide +kernel
  rw [this _ (by omega)]
  omega

set_option maxRecDepth 100000 in
theorem putUint_any (w : World) (v : Value) (bs : List UInt8) (x : Nat) (hx : x < 18446744073709551616) (h : IsB w v bs) (hlen : bs.length ≤ 100000000000000) :
    Calls Tryz.prog 78 #[v, .int .u64 x] w fun e w' => ∃ v', e = .returned v' ∧ FreshB w v' (bs ++ uintB x) w' := by
  go_enter Tryz.func78, Tryz.ntmps78
  go_wp2_with fail
  refine (clone_any w v bs h (by omega)).mono ?_
  rintro e w1 ⟨v1, rfl, hf, -⟩
  have hr := hf.row
  have hk1 := hf.kept
  clear hf
  go_wp2_with fail
  go_loopw [5, 1] (fun ov i wr => ∃ (k : Nat) (pre : List UInt8) (j : Nat), i = .int .u64 k ∧ k < 18446744073709551616 ∧ NewB w wr ov pre ∧ pre ++ uintB k = bs ++ uintB x ∧ pre.length = bs.length + j ∧ j ≤ 10 ∧ k < 2 ^ (7 * (10 - j)) ∧ Kept (fun _ => False) w wr) (fun _ i _ => (intOf i).toNat)
  case atStart => exact ⟨x, bs, 0, rfl, hx, hr, rfl, rfl, by omega, by omega, hk1⟩
  case round =>
    obtain ⟨k, pre, j, rfl, hk64, hrow, hpre, hpl, hj, hkj, hkr⟩ := hrel
    have HPL := Lib.hid hpl
    have HPRE := Lib.hid hpre
    clear hpl hpre
    by_cases hbig : k < 128
    · have hle : ¬ (128 : Int) ≤ (k : Int) := by omega
      obtain ⟨y, hy⟩ : ∃ y : UInt8, y = UInt8.ofNat k := ⟨_, rfl⟩
      have hb : (k : Int) % 256 = (y.toNat : Int) := by rw [hy, UInt8.toNat_ofNat']; omega
      have hb2 : IntKind.u8.wrap (k : Int) = (y.toNat : Int) := by rw [hy, UInt8.toNat_ofNat']; go_num
      have HY : Hid (pre ++ [y] = bs ++ uintB x) := Lib.hid (by rw [← HPRE.out, uintB_small hbig, hy])
      clear hy
      obtain ⟨oa, oc, rfl, -, -⟩ := hrow.form
      obtain ⟨wA, hwA, hkA, hszA, hA0⟩ := byte_new wr ((y.toNat : Int)) y rfl
      obtain ⟨v', w', hrun, hro2, hk2⟩ := (NewB.keptN hrow hkA).push (by have := hkr.size; omega) ⟨wr.heap.size, 0, none⟩ y hA0 (by have := HPL.out; omega)
      have hkw : Kept (fun _ => False) w w' := (hkr.more hkA (fun _ h => h.elim)).more hk2 (fun _ h => h)
      have HRO := Lib.hid hro2
      clear hro2
      go_wp2_with (at_builtin; refine wpList_append_run rfl (.tmp 18) (.tmp 21) #[25, 25] rfl _ _ _ _ rfl rfl hrun ?_)
      clear hrun
      go_ret
      have h1 := HRO.out
      rw [HY.out] at h1
      exact ⟨_, rfl, h1.fresh hkw⟩
    · have hle : (128 : Int) ≤ (k : Int) := by omega
      obtain ⟨y, hy⟩ : ∃ y : UInt8, y = UInt8.ofNat (k % 128 + 128) := ⟨_, rfl⟩
      have hb : bits .or .u8 ((k : Int) % 256) 128 = (y.toNat : Int) := by rw [hy]; exact or_128 k
      have HY : Hid (pre ++ [y] ++ uintB (k / 128) = bs ++ uintB x) := Lib.hid (by rw [← HPRE.out, uintB_big hbig, hy]; simp)
      clear hy
      obtain ⟨oa, oc, rfl, -, -⟩ := hrow.form
      obtain ⟨wA, hwA, hkA, hszA, hA0⟩ := byte_new wr ((y.toNat : Int)) y rfl
      obtain ⟨v', w', hrun, hro2, hk2⟩ := (NewB.keptN hrow hkA).push (by have := hkr.size; omega) ⟨wr.heap.size, 0, none⟩ y hA0 (by have := HPL.out; omega)
      have hkw : Kept (fun _ => False) w w' := (hkr.more hkA (fun _ h => h.elim)).more hk2 (fun _ h => h)
      have HRO := Lib.hid hro2
      clear hro2
      go_wp2_with (at_builtin; refine wpList_append_run rfl (.tmp 10) (.tmp 14) #[25, 25] rfl _ _ _ _ rfl rfl hrun ?_)
      clear hrun
      have hj9 : j ≤ 9 := by
        apply Classical.byContradiction
        intro hn
        obtain rfl : j = 10 := by omega
        simp at hkj; omega
      have hk7 : k / 128 < 2 ^ (7 * (10 - (j + 1))) := by
        rw [Nat.div_lt_iff_lt_mul (by omega), show 128 = 2 ^ 7 from rfl, ← Nat.pow_add, show 7 * (10 - (j + 1)) + 7 = 7 * (10 - j) from by omega]
        exact hkj
      go_roundw
      case rel => exact ⟨k / 128, pre ++ [y], j + 1, by simp, by omega, HRO.out, HY.out, by have := HPL.out; simp; omega, by omega, hk7, hkw⟩
      case measure => simp [intOf]; omega
end Go.Proofs.YtemilbemdlpkaaaGreatDoor

/- octet: number; the reader. -/
namespace Go.Proofs.YtemilbemdlpkaaaGreatDoor
open Go.RowKit Go.ChangeMaps Go.MapKept

def numFrom (i x : Nat) : List UInt8 → Nat × Nat × Int
  | [] => (0, 0, 110)
  | c :: l => if (i = 9 ∧ 1 < c.toNat) ∨ (0 < i ∧ c.toNat = 0) then (0, 0, 8) else
      if c.toNat < 128 then (x + c.toNat % 128 * 2 ^ (7 * i), i + 1, 0) else numFrom (i + 1) (x + c.toNat % 128 * 2 ^ (7 * i)) l
def numB (l : List UInt8) : Nat × Nat × Int := numFrom 0 0 l

theorem bits_or_u64_nat (a b : Nat) (ha : a < 18446744073709551616) (hb : b < 18446744073709551616) : bits .or .u64 (a : Int) (b : Int) = ((a ||| b : Nat) : Int) := by
  have hx : a ||| b < 2 ^ 64 := Nat.or_lt_two_pow (by omega) (by omega)
  have h1 : (BitVec.ofInt 64 (a : Int)).toNat = a := by
    rw [BitVec.ofInt_natCast, BitVec.toNat_ofNat]; exact Nat.mod_eq_of_lt (by omega)
  have h2 : (BitVec.ofInt 64 (b : Int)).toNat = b := by
    rw [BitVec.ofInt_natCast, BitVec.toNat_ofNat]; exact Nat.mod_eq_of_lt (by omega)
  show IntKind.u64.wrap ((BitVec.ofInt 64 (a : Int) ||| BitVec.ofInt 64 (b : Int)).toNat : Int) = _
  rw [BitVec.toNat_or, h1, h2, IntKind.wrap_u64]
  omega

theorem and_127 (y : UInt8) : bits .and .u8 (y.toNat : Int) 127 = ((y.toNat % 128 : Nat) : Int) := by
  have : ∀ m : Nat, m < 256 → bits .and .u8 (m : Int) 127 = ((m % 128 : Nat) : Int) := by decide +kernel
  exact this _ y.toNat_lt

theorem or_put (X k : Nat) (y : UInt8) (hX : X < 2 ^ (7 * k)) (hk : k ≤ 9) (h9 : k = 9 → y.toNat ≤ 1) :
    bits .or .u64 (X : Int) (IntKind.u64.wrap (IntKind.u64.wrap (bits .and .u8 (y.toNat : Int) 127) * 2 ^ (7 * k))) = ((X + y.toNat % 128 * 2 ^ (7 * k) : Nat) : Int) ∧ X + y.toNat % 128 * 2 ^ (7 * k) < 18446744073709551616 ∧ X + y.toNat % 128 * 2 ^ (7 * k) < 2 ^ (7 * (k + 1)) := by
  obtain ⟨c, hc⟩ : ∃ c, y.toNat % 128 = c := ⟨_, rfl⟩
  have hc128 : c < 128 := by omega
  have hP : 2 ^ (7 * (k + 1)) = 2 ^ (7 * k) * 128 := by rw [Nat.mul_add, Nat.pow_add]
  have hm : c * 2 ^ (7 * k) ≤ 127 * 2 ^ (7 * k) := Nat.mul_le_mul_right _ (by omega)
  have hlt : X + c * 2 ^ (7 * k) < 2 ^ (7 * (k + 1)) := by rw [hP]; omega
  have h64 : X + c * 2 ^ (7 * k) < 18446744073709551616 := by
    by_cases h : k = 9
    · have := h9 h
      subst h
      have hc1 : c ≤ 1 := by omega
      have : c * 2 ^ (7 * 9) ≤ 1 * 2 ^ (7 * 9) := Nat.mul_le_mul_right _ hc1
      omega
    · have : 2 ^ (7 * (k + 1)) ≤ 2 ^ 63 := Nat.pow_le_pow_right (by omega) (by omega)
      omega
  refine ⟨?_, by rw [hc]; exact h64, by rw [hc]; exact hlt⟩
  rw [and_127, hc, IntKind.wrap_u64, IntKind.wrap_u64]
  have e1 : ((c : Nat) : Int) % 18446744073709551616 = ((c : Nat) : Int) := by omega
  rw [e1, show ((c : Int) * 2 ^ (7 * k)) = ((c * 2 ^ (7 * k) : Nat) : Int) from by push_cast; rfl]
  have e2 : ((c * 2 ^ (7 * k) : Nat) : Int) % 18446744073709551616 = ((c * 2 ^ (7 * k) : Nat) : Int) := by omega
  rw [e2, bits_or_u64_nat _ _ (by omega) (by omega)]
  congr 1
  have := Nat.shiftLeft_add_eq_or_of_lt hX c
  rw [Nat.shiftLeft_eq] at this
  rw [Nat.or_comm, ← this, Nat.add_comm]


set_option maxRecDepth 100000 in
theorem number_any (w : World) (a : Option Addr) (c : Nat) (bs : List UInt8) (h : IsB w (.slice a bs.length c) bs) :
    Calls Tryz.prog 122 #[.slice a bs.length c] w fun e w' => e = .returned (.tuple #[.int .u64 (numB bs).1, .int .i64 (numB bs).2.1, .int .i64 (numB bs).2.2]) ∧ w = w' := by
  obtain ⟨_, _, he, hlc, hcm, hcells⟩ := id h
  cases he
  have hnl : bs.length ≤ 9223372036854775807 := by unfold maxLen at hcm; omega
  go_enter Tryz.func122, Tryz.ntmps122
  go_wp2_with fail
  go_loopw [5, 10] (fun xv i wr => ∃ k X : Nat, k ≤ bs.length ∧ k ≤ 9 ∧ i = .int .i64 k ∧ xv = .int .u64 X ∧ X < 2 ^ (7 * k) ∧ Hid (numB bs = numFrom k X (bs.drop k)) ∧ w = wr) (fun _ i _ => bs.length - (intOf i).toNat)
  case atStart => exact ⟨0, 0, Nat.zero_le _, by omega, rfl, rfl, by simp, Lib.hid rfl, rfl⟩
  case round =>
    obtain ⟨k, X, hkn, hk9, rfl, rfl, hX, HN, rfl⟩ := hrel
    by_cases hlt : k < bs.length
    · obtain ⟨y, hy⟩ : ∃ y, bs[k] = y := ⟨_, rfl⟩
      have hne : bs ≠ [] := fun e => by rw [e] at hlt; simp at hlt
      obtain ⟨g, o, rfl, -, hcell⟩ := hcells.resolve_left hne
      have hc : w.cell? ⟨g, o + k, none⟩ = some (.int .u8 (y.toNat : Int)) := hcell k _ (by simp [bytesV, List.getElem?_eq_getElem hlt, hy])
      have hyl : y.toNat < 256 := y.toNat_lt
      have HD : Hid (bs.drop k = y :: bs.drop (k + 1)) := Lib.hid (by rw [List.drop_eq_getElem_cons hlt, hy])
      clear hy hcell
      by_cases h9 : k = 9
      · subst h9
        by_cases h1 : 1 < y.toNat
        · have h1' : (1 : Int) < (y.toNat : Int) := by omega
          go_wp2_with fail
          go_ret3
          rw [HN.out, HD.out]
          unfold numFrom
          rw [if_pos (by omega)]; exact ⟨rfl, rfl⟩
        · have h1' : ¬ (1 : Int) < (y.toNat : Int) := by omega
          by_cases hz : y.toNat = 0
          · have hz' : ((y.toNat : Int) == 0) = true := by simp; omega
            go_wp2_with fail
            go_ret3
            rw [HN.out, HD.out]
            unfold numFrom
            rw [if_pos (by omega)]; exact ⟨rfl, rfl⟩
          · have hz' : ((y.toNat : Int) == 0) = false := by simp; omega
            have hs' : (y.toNat : Int) < 128 := by omega
            obtain ⟨hv, hv64, -⟩ := or_put X 9 y hX (by omega) (by omega)
            rw [show (2 : Int) ^ (7 * 9) = 9223372036854775808 from rfl] at hv
            go_wp2_with fail
            go_ret3
            rw [HN.out, HD.out]
            unfold numFrom
            rw [if_neg (by omega), if_pos (by omega)]; exact ⟨rfl, rfl⟩
      · have h9' : ((k : Int) == 9) = false := by simp; omega
        obtain ⟨hv, hv64, hvk⟩ := or_put X k y hX hk9 (by omega)
        obtain ⟨Z, hZ⟩ : ∃ Z, X + y.toNat % 128 * 2 ^ (7 * k) = Z := ⟨_, rfl⟩
        rw [hZ] at hv hv64 hvk
        have HZ := Lib.hid hZ
        clear hZ
        by_cases h0 : k = 0
        · have h0' : ¬ (0 : Int) < (k : Int) := by omega
          have hc0 : w.cell? ⟨g, o, none⟩ = some (.int .u8 (y.toNat : Int)) := by rw [h0] at hc; exact hc
          have hv0 : bits .or .u64 (X : Int) (IntKind.u64.wrap (IntKind.u64.wrap (bits .and .u8 (y.toNat : Int) 127))) = (Z : Int) := by rw [← hv, h0]; simp
          by_cases hs : y.toNat < 128
          · have hs' : (y.toNat : Int) < 128 := by omega
            go_wp2_with fail
            go_ret3
            rw [HN.out, HD.out]
            unfold numFrom
            rw [if_neg (by omega), if_pos hs, HZ.out]; subst h0; exact ⟨rfl, rfl⟩
          · have hs' : ¬ (y.toNat : Int) < 128 := by omega
            go_wp2_with fail
            go_roundw
            case rel => exact ⟨k + 1, _, by omega, by omega, by go_num, rfl, hvk, Lib.hid (by rw [HN.out, HD.out]; rw [numFrom, if_neg (by omega), if_neg hs, HZ.out]), trivial⟩
            case measure => simp [intOf]; omega
        · have h0' : (0 : Int) < (k : Int) := by omega
          by_cases hz : y.toNat = 0
          · have hz' : ((y.toNat : Int) == 0) = true := by simp; omega
            go_wp2_with fail
            go_ret3
            rw [HN.out, HD.out]
            unfold numFrom
            rw [if_pos (by omega)]; exact ⟨rfl, rfl⟩
          · have hz' : ((y.toNat : Int) == 0) = false := by simp; omega
            by_cases hs : y.toNat < 128
            · have hs' : (y.toNat : Int) < 128 := by omega
              go_wp2_with fail
              go_ret3
              rw [HN.out, HD.out]
              unfold numFrom
              rw [if_neg (by omega), if_pos hs, HZ.out]; exact ⟨rfl, rfl⟩
            · have hs' : ¬ (y.toNat : Int) < 128 := by omega
              go_wp2_with fail
              go_roundw
              case rel => exact ⟨k + 1, _, by omega, by omega, by go_num, rfl, hvk, Lib.hid (by rw [HN.out, HD.out]; rw [numFrom, if_neg (by omega), if_neg hs, HZ.out]), trivial⟩
              case measure => simp [intOf]; omega
    · go_wp2_with fail
      go_ret3
      rw [HN.out, List.drop_eq_nil_of_le (by omega)]
      exact ⟨rfl, rfl⟩
end Go.Proofs.YtemilbemdlpkaaaGreatDoor

/- octet: the reader. -/
namespace Go.Proofs.YtemilbemdlpkaaaGreatDoor
open Go.RowKit Go.ChangeMaps Go.MapKept

/-- A reader, as plain data. -/
structure RM where
  bs : List UInt8
  err : Int

/-- A reader at block B. -/
structure RdrAt (w : World) (B N : Nat) (r : RM) : Prop where
  at_ : ∃ a c, w.heap[B]? = some (.cells #[.bool true, .slice a r.bs.length c, .int .i64 r.err] 186 (0, 0)) ∧ IsB w (.slice a r.bs.length c) r.bs ∧ B < N ∧ (r.bs ≠ [] → ∀ g, (Value.slice a r.bs.length c).ownBlock = some g → g ≠ B ∧ g < N)

def wordFrom (x : Nat) (l : List UInt8) : Nat := l.foldl (fun x c => x * 256 % 18446744073709551616 + c.toNat) x
def RM.word (r : RM) : Nat × RM := if r.err = 0 then (if r.bs.length < 8 then (0, { r with err := 110 }) else (wordFrom 0 (r.bs.take 8), { r with bs := r.bs.drop 8 })) else (0, r)
def RM.uint (r : RM) : Nat × RM := if r.err = 0 then (if (numB r.bs).2.2 = 0 then ((numB r.bs).1, { r with bs := r.bs.drop (numB r.bs).2.1 }) else (0, { r with err := (numB r.bs).2.2 })) else (0, r)
def RM.stop (r : RM) : Int := if r.err = 0 then (if r.bs = [] then 0 else 111) else r.err

theorem RdrAt.cells {w : World} {B N : Nat} {r : RM} (h : RdrAt w B N r) : ∃ a c, w.cell? ⟨B, 0, none⟩ = some (.bool true) ∧ w.cell? ⟨B, 1, none⟩ = some (.slice a r.bs.length c) ∧ w.cell? ⟨B, 2, none⟩ = some (.int .i64 r.err) ∧
    (∀ i, w.frozen? ⟨B, i, none⟩ = false) ∧ IsB w (.slice a r.bs.length c) r.bs ∧ w.heap[B]? = some (.cells #[.bool true, .slice a r.bs.length c, .int .i64 r.err] 186 (0, 0)) ∧ B < N ∧ (r.bs ≠ [] → ∀ g, (Value.slice a r.bs.length c).ownBlock = some g → g ≠ B ∧ g < N) := by
  obtain ⟨a, c, hc, hB, hN, hn⟩ := h.at_
  exact ⟨a, c, by simp [World.cell?, hc], by simp [World.cell?, hc], by simp [World.cell?, hc], fun i => by simp [World.frozen?, hc], hB, hc, hN, hn⟩

set_option maxRecDepth 100000 in
theorem reader_any (w : World) (v : Value) (bs : List UInt8) (h : IsB w v bs) (hlen : bs.length ≤ 100000000000000) :
    Calls Tryz.prog 82 #[v] w fun e w' => ∃ B, e = .returned (.pointer (some ⟨B, 0, none⟩)) ∧ w.heap.size ≤ B ∧ RdrAt w' B w'.heap.size ⟨bs, 0⟩ ∧ Kept (fun _ => False) w w' := by
  go_enter Tryz.func82, Tryz.ntmps82
  go_wp2_with fail
  refine (clone_any w v bs h (by omega)).mono ?_
  rintro e w1 ⟨v1, rfl, hf, -⟩
  have hk1 := hf.kept
  have hB := hf.own.isB
  obtain ⟨a, c, rfl, -, -⟩ := hf.own.form
  go_wp2
  go_ret
  refine ⟨_, rfl, hk1.size, ⟨a, c, heap_alloc_new _ _, hB.keptF ((Kept.refl (fun _ => False) _).alloc _) (fun _ _ h => h), by simp, ?_⟩, hk1.alloc _⟩
  intro hne g hg
  have := hB.block_lt hne g hg
  simp; omega
theorem left_any {w : World} {B N : Nat} {r : RM} (h : RdrAt w B N r) : Calls Tryz.prog 83 #[.pointer (some ⟨B, 0, none⟩)] w fun e w' => e = .returned (.int .i64 r.bs.length) ∧ w = w' := by
  obtain ⟨a, c, c0, c1, c2, -, hB, -, -, -⟩ := h.cells
  go_enter Tryz.func83, Tryz.ntmps83
  go_wp2
  go_ret
  exact ⟨rfl, rfl⟩
theorem stop_any {w : World} {B N : Nat} {r : RM} (h : RdrAt w B N r) : Calls Tryz.prog 93 #[.pointer (some ⟨B, 0, none⟩)] w fun e w' => e = .returned (.int .i64 r.stop) ∧ w = w' := by
  obtain ⟨a, c, c0, c1, c2, -, hB, -, -, -⟩ := h.cells
  unfold RM.stop
  by_cases he : r.err = 0
  · have he' : (r.err != 0) = false := by simp [he]
    rw [if_pos he]
    by_cases hb : r.bs = []
    · rw [if_pos hb]
      have hl : ¬ (0 : Int) < (r.bs.length : Int) := by rw [hb]; simp
      clear he hb
      go_enter Tryz.func93, Tryz.ntmps93
      go_wp2
      go_ret
      exact ⟨rfl, rfl⟩
    · rw [if_neg hb]
      have hl : (0 : Int) < (r.bs.length : Int) := by have := List.length_pos_iff.2 hb; omega
      clear he
      go_enter Tryz.func93, Tryz.ntmps93
      go_wp2
      go_ret
      exact ⟨rfl, rfl⟩
  · have he' : (r.err != 0) = true := by simp [he]
    rw [if_neg he]
    go_enter Tryz.func93, Tryz.ntmps93
    go_wp2
    go_ret
    exact ⟨rfl, rfl⟩
theorem ready_any {w : World} {B N : Nat} {r : RM} (h : RdrAt w B N r) : Calls Tryz.prog 120 #[.pointer (some ⟨B, 0, none⟩)] w fun e w' => e = .returned (.bool (r.err == 0)) ∧ w = w' := by
  obtain ⟨a, c, c0, c1, c2, -, hB, -, -, -⟩ := h.cells
  go_enter Tryz.func120, Tryz.ntmps120
  go_wp2
  go_ret
  exact ⟨rfl, rfl⟩
theorem refuse_any {w : World} {B N : Nat} {r : RM} (h : RdrAt w B N r) (e : Int) : Calls Tryz.prog 121 #[.pointer (some ⟨B, 0, none⟩), .int .i64 e] w fun en w' => en = .returned (.tuple #[]) ∧ RdrAt w' B N { r with err := e } ∧ Kept (· = B) w w' := by
  obtain ⟨a, c, c0, c1, c2, hfz, hB, hc, hN, hn⟩ := h.cells
  have f2 := hfz 2
  go_enter Tryz.func121, Tryz.ntmps121
  go_wp2
  go_end0
  have hk : Kept (· = B) w (w.setCell ⟨B, 2, none⟩ (.int .i64 e)) := (Kept.refl (· = B) w).setCell (p := ⟨B, 2, none⟩) (fun _ => rfl) _
  refine ⟨rfl, ⟨a, c, ?_, hB.keptS hk (fun hne g hg => (hn hne g hg).1), hN, hn⟩, hk⟩
  rw [heap_setCell_row hc _]; rfl
theorem IsB.recap {w : World} {a : Option Addr} {n c : Nat} {bs : List UInt8} (h : IsB w (.slice a n c) bs) : IsB w (.slice a n n) bs := by
  obtain ⟨a', c', hv, h1, h2, h3⟩ := h
  cases hv
  exact ⟨a, _, rfl, Nat.le_refl _, Nat.le_trans h1 h2, h3⟩
theorem take_any {w : World} {B N : Nat} {r : RM} (h : RdrAt w B N r) (n : Nat) (hnl : n ≤ r.bs.length) : Calls Tryz.prog 123 #[.pointer (some ⟨B, 0, none⟩), .int .i64 n] w fun en w' => ∃ a, en = .returned (.slice a n n) ∧ IsB w' (.slice a n n) (r.bs.take n) ∧ RdrAt w' B N { r with bs := r.bs.drop n } ∧ Kept (· = B) w w' := by
  obtain ⟨a, c, c0, c1, c2, hfz, hB, hc, hN, hn⟩ := h.cells
  have f1 := hfz 1
  have hnc : n ≤ c := by obtain ⟨_, _, e, h1, _⟩ := id hB; cases e; omega
  obtain ⟨a2, hsl, hd, hob, ha2⟩ := bytes_low hB hnl
  clear ha2
  go_enter Tryz.func123, Tryz.ntmps123
  go_wp2
  go_ret
  have hk : Kept (· = B) w (w.setCell ⟨B, 1, none⟩ (.slice a2 (r.bs.length - n) (c - n))) := (Kept.refl (· = B) w).setCell (p := ⟨B, 1, none⟩) (fun _ => rfl) _
  have hl : (r.bs.drop n).length = r.bs.length - n := List.length_drop
  have hlt : (r.bs.take n).length = n := by rw [List.length_take]; omega
  have hT := (hB.take hnl).recap
  have hne1 : r.bs.take n ≠ [] → r.bs ≠ [] := fun h e => h (by rw [e]; simp)
  have hne2 : r.bs.drop n ≠ [] → r.bs ≠ [] := fun h e => h (by rw [e]; simp)
  refine ⟨a, rfl, hT.keptS hk (fun hne g hg => (hn (hne1 hne) g (by rw [ob_same a r.bs.length c n n]; exact hg)).1), ⟨a2, c - n, ?_, ?_, hN, ?_⟩, hk⟩
  · show _ = some (Obj.cells #[.bool true, .slice a2 (r.bs.drop n).length (c - n), .int .i64 r.err] 186 (0, 0))
    rw [heap_setCell_row hc _, hl]; rfl
  · show IsB _ (.slice a2 (r.bs.drop n).length (c - n)) (r.bs.drop n)
    rw [hl]
    exact hd.keptS hk (fun hne g hg => (hn (hne2 hne) g (hob g hg)).1)
  · intro hne g hg
    refine hn (hne2 hne) g (hob g ?_)
    rw [← hl]; exact hg

/-- What is done at or beyond N leaves a reader as it is. -/
theorem RdrAt.kept {w w' : World} {B N : Nat} {r : RM} {G : Nat → Prop} (h : RdrAt w B N r) (hk : Kept G w w') (hG : ∀ k, G k → N ≤ k) : RdrAt w' B N r := by
  obtain ⟨a, c, hc, hB, hN, hn⟩ := h.at_
  refine ⟨a, c, (hk.block B (Array.getElem?_eq_some_iff.1 hc).1 (fun hg => by have := hG B hg; omega)).trans hc, hB.keptS hk (fun hne g hg hgg => ?_), hN, hn⟩
  have h1 := (hn hne g hg).2
  have h2 := hG g hgg
  omega
theorem RdrAt.mono {w : World} {B N N' : Nat} {r : RM} (h : RdrAt w B N r) (hN : N ≤ N') : RdrAt w B N' r := by
  obtain ⟨a, c, hc, hB, h1, hn⟩ := h.at_
  exact ⟨a, c, hc, hB, by omega, fun hne g hg => ⟨(hn hne g hg).1, by have := (hn hne g hg).2; omega⟩⟩
end Go.Proofs.YtemilbemdlpkaaaGreatDoor

/- octet: Word, Uint. -/
namespace Go.Proofs.YtemilbemdlpkaaaGreatDoor
open Go.RowKit Go.ChangeMaps Go.MapKept

theorem wordFrom_lt (x : Nat) (l : List UInt8) (hx : x < 18446744073709551616) : wordFrom x l < 18446744073709551616 := by
  induction l generalizing x with
  | nil => exact hx
  | cons c l ih => exact ih (x * 256 % 18446744073709551616 + c.toNat) (by have := c.toNat_lt; omega)

theorem word_put (x : Nat) (c : UInt8) : bits .or .u64 (IntKind.u64.wrap ((x : Int) * 256)) (c.toNat : Int) = ((x * 256 % 18446744073709551616 + c.toNat : Nat) : Int) ∧ x * 256 % 18446744073709551616 + c.toNat < 18446744073709551616 := by
  have hc := c.toNat_lt
  rw [IntKind.wrap_u64, show ((x : Int) * 256 % 18446744073709551616) = ((x * 256 % 18446744073709551616 : Nat) : Int) from by omega, bits_or_u64_nat _ _ (by omega) (by omega)]
  have h8 : x * 256 % 18446744073709551616 = (x % 72057594037927936) * 2 ^ 8 := by omega
  have := Nat.shiftLeft_add_eq_or_of_lt (show c.toNat < 2 ^ 8 by omega) (x % 72057594037927936)
  rw [Nat.shiftLeft_eq] at this
  refine ⟨?_, by omega⟩
  rw [h8, ← this]

set_option maxRecDepth 100000 in
theorem word_any {w : World} {B N : Nat} {r : RM} (h : RdrAt w B N r) : Calls Tryz.prog 85 #[.pointer (some ⟨B, 0, none⟩)] w fun e w' => e = .returned (.int .u64 r.word.1) ∧ RdrAt w' B N r.word.2 ∧ Kept (· = B) w w' := by
  unfold RM.word
  by_cases he : r.err = 0
  · rw [if_pos he]
    have he' : (r.err == 0) = true := by simp [he]
    by_cases hl : r.bs.length < 8
    · rw [if_pos hl]
      have hl' : (r.bs.length : Int) < 8 := by omega
      obtain ⟨a, c, c0, c1, c2, -, hB, -, -, -⟩ := h.cells
      clear he
      go_enter Tryz.func85, Tryz.ntmps85
      go_wp2_with (first | (go_at_call 120; refine (ready_any h).mono ?_; rintro e w' ⟨rfl, rfl⟩) | (go_at_call 121; refine (refuse_any h 110).mono ?_; rintro e w' ⟨rfl, hr', hk'⟩))
      go_ret
      exact ⟨rfl, hr', hk'⟩
    · rw [if_neg hl]
      have hl' : ¬ (r.bs.length : Int) < 8 := by omega
      obtain ⟨T, hTd⟩ : ∃ T, r.bs.take 8 = T := ⟨_, rfl⟩
      have hTl : T.length = 8 := by rw [← hTd, List.length_take]; omega
      rw [hTd]
      have HTD := Lib.hid hTd
      have HTL := Lib.hid hTl
      clear hTd hTl
      obtain ⟨a, c, c0, c1, c2, -, hB, -, -, -⟩ := h.cells
      clear he
      go_enter Tryz.func85, Tryz.ntmps85
      go_wp2_with (first | (go_at_call 120; refine (ready_any h).mono ?_; rintro e w' ⟨rfl, rfl⟩) | (go_at_call 123; refine (take_any h 8 (by omega)).mono ?_; rintro e w1 ⟨a1, rfl, hT, hr', hk'⟩))
      rw [HTD.out] at hT
      have hTl := HTL.out
      obtain ⟨a9, c9, hTe, -, -, hTc⟩ := id hT
      simp only [Value.slice.injEq] at hTe
      obtain ⟨rfl, -, -⟩ := hTe
      go_loopw [3, 31] (fun xv i wr => ∃ k X : Nat, k ≤ 8 ∧ i = .int .i64 k ∧ xv = .int .u64 X ∧ X < 18446744073709551616 ∧ Hid (X = wordFrom 0 (T.take k)) ∧ w1 = wr) (fun _ i _ => 8 - (intOf i).toNat)
      case atStart => exact ⟨0, 0, by omega, rfl, rfl, by omega, Lib.hid rfl, rfl⟩
      case round =>
        obtain ⟨k, X, hk8, rfl, rfl, hX, HX, rfl⟩ := hrel
        by_cases hlt : k < 8
        · obtain ⟨y, hy⟩ : ∃ y, T[k] = y := ⟨_, rfl⟩
          have hne : T ≠ [] := fun e => by rw [e] at hTl; simp at hTl
          obtain ⟨g, o, rfl, -, hcell⟩ := hTc.resolve_left hne
          have hc : w1.cell? ⟨g, o + k, none⟩ = some (.int .u8 (y.toNat : Int)) := hcell k _ (by simp [bytesV, List.getElem?_eq_getElem (show k < T.length by omega), hy])
          have hyl : y.toNat < 256 := y.toNat_lt
          obtain ⟨hv, hv64⟩ := word_put X y
          have h3 : IntKind.u64.wrap (y.toNat : Int) = (y.toNat : Int) := by rw [IntKind.wrap_u64]; omega
          have HS : Hid (X * 256 % 18446744073709551616 + y.toNat = wordFrom 0 (T.take (k + 1))) := Lib.hid (by
            have h9 := HX.out
            unfold wordFrom at *
            rw [List.take_succ_eq_append_getElem (by omega), List.foldl_append, ← h9, hy]; rfl)
          clear hy hcell
          generalize X * 256 % 18446744073709551616 + y.toNat = Z at *
          go_wp2
          go_roundw
          case rel => exact ⟨k + 1, Z, by omega, by go_num, rfl, hv64, HS, trivial⟩
          case measure => simp [intOf]; omega
        · go_wp2
          go_ret
          have h9 := HX.out
          rw [List.take_of_length_le (by omega)] at h9
          exact ⟨by rw [h9]; rfl, hr', hk'⟩
  · rw [if_neg he]
    have he' : (r.err == 0) = false := by simp [he]
    go_enter Tryz.func85, Tryz.ntmps85
    go_wp2_with (go_at_call 120; refine (ready_any h).mono ?_; rintro e w' ⟨rfl, rfl⟩)
    go_ret
    exact ⟨rfl, h, Kept.refl _ _⟩

theorem numFrom_le (i x : Nat) (l : List UInt8) : (numFrom i x l).2.1 ≤ i + l.length ∧ ((numFrom i x l).2.2 = 0 → 0 < (numFrom i x l).2.1) := by
  induction l generalizing i x with
  | nil => simp [numFrom]
  | cons c l ih =>
    unfold numFrom
    split
    · simp
    · split
      · simp
      · have := ih (i + 1) (x + c.toNat % 128 * 2 ^ (7 * i))
        exact ⟨by simp only [List.length_cons]; omega, this.2⟩

set_option maxRecDepth 100000 in
theorem uint_any {w : World} {B N : Nat} {r : RM} (h : RdrAt w B N r) : Calls Tryz.prog 92 #[.pointer (some ⟨B, 0, none⟩)] w fun e w' => e = .returned (.int .u64 r.uint.1) ∧ RdrAt w' B N r.uint.2 ∧ Kept (· = B) w w' := by
  unfold RM.uint
  by_cases he : r.err = 0
  · rw [if_pos he]
    have he' : (r.err == 0) = true := by simp [he]
    obtain ⟨a, c, c0, c1, c2, -, hB, -, -, -⟩ := h.cells
    have hnum := number_any w a c r.bs hB
    have hle := (numFrom_le 0 0 r.bs).1
    rw [show numFrom 0 0 r.bs = numB r.bs from rfl] at hle
    obtain ⟨⟨x, n, e⟩, hq⟩ : ∃ q, numB r.bs = q := ⟨_, rfl⟩
    rw [hq] at hnum hle ⊢
    simp only [Nat.zero_add] at hle
    clear he hq
    by_cases h0 : e = 0
    · subst h0
      rw [if_pos rfl]
      go_enter Tryz.func92, Tryz.ntmps92
      go_wp2_with (first | (go_at_call 120; refine (ready_any h).mono ?_; rintro e w' ⟨rfl, rfl⟩) | (go_at_call 122; refine hnum.mono ?_; rintro e w' ⟨rfl, rfl⟩) | (go_at_call 123; refine (take_any h n hle).mono ?_; rintro e w1 ⟨a1, rfl, hT, hr', hk'⟩))
      go_ret
      exact ⟨rfl, hr', hk'⟩
    · rw [if_neg h0]
      have h0' : (e != 0) = true := by simp [h0]
      go_enter Tryz.func92, Tryz.ntmps92
      go_wp2_with (first | (go_at_call 120; refine (ready_any h).mono ?_; rintro e' w' ⟨rfl, rfl⟩) | (go_at_call 122; refine hnum.mono ?_; rintro e' w' ⟨rfl, rfl⟩) | (go_at_call 121; refine (refuse_any h e).mono ?_; rintro e' w1 ⟨rfl, hr', hk'⟩))
      go_ret
      exact ⟨rfl, hr', hk'⟩
  · rw [if_neg he]
    have he' : (r.err == 0) = false := by simp [he]
    go_enter Tryz.func92, Tryz.ntmps92
    go_wp2_with (go_at_call 120; refine (ready_any h).mono ?_; rintro e w' ⟨rfl, rfl⟩)
    go_ret
    exact ⟨rfl, h, Kept.refl _ _⟩
end Go.Proofs.YtemilbemdlpkaaaGreatDoor
