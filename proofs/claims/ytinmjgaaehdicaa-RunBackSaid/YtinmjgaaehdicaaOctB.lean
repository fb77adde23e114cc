/- octet: PutWord, PutUint. -/
import Derived.Test.YtinmjgaaehdicaaOctA
import Derived.Test.YtinmjgaaehdicaaDiskE
import Derived.Maps.AppendAt
namespace Go.Proofs.Ytinmjgaaehdicaa
open Go.RowKit Go.ChangeMaps Go.MapKept

/-- A row of bytes of our own, laid since a world. -/
def NewB (w0 : World) (w : World) (v : Value) (bs : List UInt8) : Prop := w.ownsRow w0.heap.size 5 1 v bs.length (bytesV bs)

theorem FreshB.row {w : World} {v : Value} {bs : List UInt8} {w' : World} (h : FreshB w v bs w') : NewB w w' v bs := by
  obtain ⟨h1, h2⟩ := h.own
  refine ⟨h1, ?_⟩
  rcases h2 with h2 | ⟨g, cap, cur, rfl, -, h3⟩
  · exact .inl h2
  · exact .inr ⟨g, cap, cur, rfl, h.new g rfl, h3⟩

theorem NewB.fresh {w w' : World} {v : Value} {bs : List UInt8} (h : NewB w w' v bs) (hk : Kept (fun _ => False) w w') : FreshB w v bs w' := by
  obtain ⟨h1, h2⟩ := h
  refine ⟨⟨h1, ?_⟩, hk, fun g hg => ?_⟩
  · rcases h2 with h2 | ⟨g, cap, cur, rfl, -, h3⟩
    · exact .inl h2
    · exact .inr ⟨g, cap, cur, rfl, Nat.zero_le _, h3⟩
  · rcases h2 with ⟨rfl, -⟩ | ⟨g', cap, cur, rfl, hb, -⟩
    · cases hg
    · cases hg; exact hb

theorem NewB.form {w w' : World} {v : Value} {bs : List UInt8} (h : NewB w w' v bs) : ∃ a c, v = .slice a bs.length c ∧ bs.length ≤ c ∧ c ≤ maxLen := by
  rcases h.2 with ⟨rfl, h0⟩ | ⟨g, cap, cur, rfl, _, _, hn, hm, _⟩
  · exact ⟨none, 0, by rw [h0], by omega, by simp [maxLen]⟩
  · exact ⟨_, cap, rfl, hn, hm⟩

theorem NewB.keptN {w0 w w' : World} {v : Value} {bs : List UInt8} (h : NewB w0 w v bs) (hk : Kept (fun _ => False) w w') : NewB w0 w' v bs :=
  World.ownsRow.kept h (hk.grownBy none) (by cases v.ownBlock <;> simp)

theorem NewB.none (w0 w : World) : NewB w0 w (.slice none 0 0) [] := World.ownsRow_nil _ _ _ _

/-- One byte more behind a row of our own. -/
theorem NewB.push {w0 w : World} {v : Value} {bs : List UInt8} (h : NewB w0 w v bs) (hk0 : w0.heap.size ≤ w.heap.size) (a : Addr) (x : UInt8) (ha : w.cell? a = some (.int .u8 (x.toNat : Int))) (hl : bs.length + 1 ≤ 140737488355328) :
    ∃ v' w', (Builtin.append_ #[22, 22] 22 #[v, .slice (some a) 1 1]).run Try.prog w = .ok v' w' ∧ NewB w0 w' v' (bs ++ [x]) ∧ Kept (fun k => w0.heap.size ≤ k) w w' := by
  obtain ⟨i0, hi, hz0, hz1, hz2⟩ := info_parts Try.info5
  obtain ⟨v', w', hrun, ho2, hg2, -, hb2⟩ := run_append_own_at (P := Try.prog) w w0.heap.size 22 22 5 i0 _ 1 1 Try.underlying22 hi hz0 hz1 hz2 rfl (by decide) _ _ _ h a 1 1 [.int .u8 (x.toNat : Int)] rfl (by
    intro j u hu
    match j, hu with
    | 0, hu => cases hu; exact ha
    | j + 1, hu => simp at hu) (by intro u hu; simp at hu; subst hu; rfl) (by unfold maxLen; omega) (by omega) hk0
  refine ⟨v', w', hrun, ?_, Kept.grown (F := fun k => w0.heap.size ≤ k) (Kept.refl _ _) hg2 (fun k hk _ => (World.ownsRow.lt h k hk).1)⟩
  have : bytesV (bs ++ [x]) = bytesV bs ++ [.int .u8 (x.toNat : Int)] := by simp [bytesV]
  unfold NewB
  rw [this, List.length_append]
  exact ho2

/-- A box of one byte that the walk lays. -/
theorem byte_new (w : World) (n : Int) (x : UInt8) (hn : n = (x.toNat : Int)) : ∃ w2, w.alloc (.cells #[.int .u8 n] 5) = w2 ∧ Kept (fun _ => False) w w2 ∧ w2.heap.size = w.heap.size + 1 ∧ w2.cell? ⟨w.heap.size, 0, none⟩ = some (.int .u8 (x.toNat : Int)) := by
  subst hn
  exact ⟨_, rfl, (Kept.refl _ _).alloc _, by simp, by rw [World.cell?_alloc_new]; rfl⟩


def wordB (x : Nat) : List UInt8 := (List.range 8).map fun i => UInt8.ofNat (x / 2 ^ (56 - 8 * i))

set_option maxRecDepth 100000 in
theorem putWord_any (w : World) (v : Value) (bs : List UInt8) (x : Nat) (h : IsB w v bs) (hlen : bs.length ≤ 100000000000000) :
    Calls Try.prog 79 #[v, .int .u64 x] w fun e w' => ∃ v', e = .returned v' ∧ FreshB w v' (bs ++ wordB x) w' := by
  go_enter Try.func79, Try.ntmps79
  go_wp2_with fail
  refine (clone_any w v bs h (by omega)).mono ?_
  rintro e w1 ⟨v1, rfl, hf, -⟩
  have hr := hf.row
  have hk1 := hf.kept
  clear hf
  go_wp2_with fail
  go_loopw [5, 6] (fun ov i wr => ∃ k : Nat, k ≤ 8 ∧ i = .int .i64 (56 - 8 * (k : Int)) ∧ NewB w wr ov (bs ++ (wordB x).take k) ∧ Kept (fun _ => False) w wr) (fun _ i _ => match i with | .int _ n => (n + 8).toNat | _ => 0)
  case atStart => exact ⟨0, by omega, rfl, by simpa using hr, hk1⟩
  case round =>
    obtain ⟨k, hkn, rfl, hrow, hkr⟩ := hrel
    by_cases hlt : k < 8
    · obtain ⟨s, hs, hs2⟩ : ∃ s : Nat, (56 - 8 * (k : Int)) = (s : Int) ∧ s = 56 - 8 * k := ⟨56 - 8 * k, by omega, rfl⟩
      have HS := Lib.hid hs2
      clear hs2
      rw [hs]
      clear hs
      obtain ⟨y, hy⟩ : ∃ y : UInt8, y = UInt8.ofNat (x / 2 ^ s) := ⟨_, rfl⟩
      have hb : (x : Int) / 2 ^ min s 64 % 256 = (y.toNat : Int) := by
        rw [hy, Nat.min_eq_left (by have := HS.out; omega), UInt8.toNat_ofNat']; norm_cast
      have HY : Hid (bs ++ (wordB x).take (k + 1) = bs ++ (wordB x).take k ++ [y]) := by
        refine Lib.hid ?_
        have hlw : (wordB x).length = 8 := by simp [wordB]
        rw [List.append_assoc, List.take_succ_eq_append_getElem (by omega)]
        congr 2
        rw [hy, HS.out]; simp [wordB]
      have HL : Hid ((bs ++ (wordB x).take k).length + 1 ≤ 140737488355328) := Lib.hid (by
        have : ((wordB x).take k).length ≤ k := by rw [List.length_take]; omega
        rw [List.length_append]; omega)
      clear hy
      generalize bs ++ (wordB x).take k = out at *
      obtain ⟨oa, oc, rfl, -, -⟩ := hrow.form
      obtain ⟨wA, hwA, hkA, hszA, hA0⟩ := byte_new wr ((y.toNat : Int)) y rfl
      obtain ⟨v', w', hrun, hro2, hk2⟩ := (NewB.keptN hrow hkA).push (by have := hkr.size; omega) ⟨wr.heap.size, 0, none⟩ y hA0 HL.out
      have hkw : Kept (fun _ => False) w w' := (hkr.more hkA (fun _ h => h.elim)).more hk2 (fun _ h => h)
      have HRO := Lib.hid hro2
      clear hro2
      go_wp2_with (at_builtin; refine wpList_append_run rfl (.tmp 13) (.tmp 18) #[22, 22] rfl _ _ _ _ rfl rfl hrun ?_)
      clear hrun
      have hw64 : wrap64 ((s : Int) - 8) = (s : Int) - 8 := by have := HS.out; unfold wrap64; omega
      rw [hw64]
      go_roundw
      case rel =>
        have hs8 := HS.out
        exact ⟨k + 1, by omega, by rw [show ((s : Int) - 8) = 56 - 8 * ((k + 1 : Nat) : Int) from by omega], by rw [HY.out]; exact HRO.out, hkw⟩
      case measure =>
        have hs8 := HS.out
        simp only []
        omega
    · go_wp2
      go_ret
      have hlw : (wordB x).length = 8 := by simp [wordB]
      rw [List.take_of_length_le (by omega)] at hrow
      exact ⟨_, rfl, hrow.fresh hkr⟩

def uintB (x : Nat) : List UInt8 := if _h : x < 128 then [UInt8.ofNat x] else UInt8.ofNat (x % 128 + 128) :: uintB (x / 128)
termination_by x
decreasing_by omega

theorem uintB_small {x : Nat} (h : x < 128) : uintB x = [UInt8.ofNat x] := by rw [uintB]; simp [h]
theorem uintB_big {x : Nat} (h : ¬ x < 128) : uintB x = UInt8.ofNat (x % 128 + 128) :: uintB (x / 128) := by rw [uintB]; simp [h]
theorem uintB_len (x n : Nat) (h : x < 2 ^ (7 * n)) (hn : 0 < n) : (uintB x).length ≤ n := by
  induction n generalizing x with
  | zero => omega
  | succ n ih =>
    by_cases hx : x < 128
    · rw [uintB_small hx]; simp
    · rw [uintB_big hx, List.length_cons]
      have hn0 : 0 < n := by
        rcases Nat.eq_zero_or_pos n with rfl | h0
        · simp at h; omega
        · exact h0
      have := ih (x / 128) (by rw [Nat.div_lt_iff_lt_mul (by omega), show 2 ^ (7 * n) * 128 = 2 ^ (7 * (n + 1)) from by rw [Nat.mul_add, Nat.pow_add]]; exact h) hn0
      omega

theorem or_128 (x : Nat) : bits .or .u8 ((x : Int) % 256) 128 = ((UInt8.ofNat (x % 128 + 128)).toNat : Int) := by
  rw [UInt8.toNat_ofNat', show ((x : Int) % 256) = ((x % 256 : Nat) : Int) from by omega]
  have : ∀ m : Nat, m < 256 → bits .or .u8 (m : Int) 128 = (((m % 128 + 128) % 2 ^ 8 : Nat) : Int) := by decide +kernel
  rw [this _ (by omega)]
  omega

set_option maxRecDepth 100000 in
theorem putUint_any (w : World) (v : Value) (bs : List UInt8) (x : Nat) (hx : x < 18446744073709551616) (h : IsB w v bs) (hlen : bs.length ≤ 100000000000000) :
    Calls Try.prog 77 #[v, .int .u64 x] w fun e w' => ∃ v', e = .returned v' ∧ FreshB w v' (bs ++ uintB x) w' := by
  go_enter Try.func77, Try.ntmps77
  go_wp2_with fail
  refine (clone_any w v bs h (by omega)).mono ?_
  rintro e w1 ⟨v1, rfl, hf, -⟩
  have hr := hf.row
  have hk1 := hf.kept
  clear hf
  go_wp2_with fail
  go_loopw [5, 1] (fun ov i wr => ∃ (k : Nat) (pre : List UInt8) (j : Nat), i = .int .u64 k ∧ k < 18446744073709551616 ∧ NewB w wr ov pre ∧ pre ++ uintB k = bs ++ uintB x ∧ pre.length = bs.length + j ∧ j ≤ 10 ∧ k < 2 ^ (7 * (10 - j)) ∧ Kept (fun _ => False) w wr) (fun _ i _ => (intOf i).toNat)
  case atStart => exact ⟨x, bs, 0, rfl, hx, hr, rfl, rfl, by omega, by omega, hk1⟩
  case round =>
    obtain ⟨k, pre, j, rfl, hk64, hrow, hpre, hpl, hj, hkj, hkr⟩ := hrel
    have HPL := Lib.hid hpl
    have HPRE := Lib.hid hpre
    clear hpl hpre
    by_cases hbig : k < 128
    · have hle : ¬ (128 : Int) ≤ (k : Int) := by omega
      obtain ⟨y, hy⟩ : ∃ y : UInt8, y = UInt8.ofNat k := ⟨_, rfl⟩
      have hb : (k : Int) % 256 = (y.toNat : Int) := by rw [hy, UInt8.toNat_ofNat']; omega
      have hb2 : IntKind.u8.wrap (k : Int) = (y.toNat : Int) := by rw [hy, UInt8.toNat_ofNat']; go_num
      have HY : Hid (pre ++ [y] = bs ++ uintB x) := Lib.hid (by rw [← HPRE.out, uintB_small hbig, hy])
      clear hy
      obtain ⟨oa, oc, rfl, -, -⟩ := hrow.form
      obtain ⟨wA, hwA, hkA, hszA, hA0⟩ := byte_new wr ((y.toNat : Int)) y rfl
      obtain ⟨v', w', hrun, hro2, hk2⟩ := (NewB.keptN hrow hkA).push (by have := hkr.size; omega) ⟨wr.heap.size, 0, none⟩ y hA0 (by have := HPL.out; omega)
      have hkw : Kept (fun _ => False) w w' := (hkr.more hkA (fun _ h => h.elim)).more hk2 (fun _ h => h)
      have HRO := Lib.hid hro2
      clear hro2
      go_wp2_with (at_builtin; refine wpList_append_run rfl (.tmp 18) (.tmp 21) #[22, 22] rfl _ _ _ _ rfl rfl hrun ?_)
      clear hrun
      go_ret
      have h1 := HRO.out
      rw [HY.out] at h1
      exact ⟨_, rfl, h1.fresh hkw⟩
    · have hle : (128 : Int) ≤ (k : Int) := by omega
      obtain ⟨y, hy⟩ : ∃ y : UInt8, y = UInt8.ofNat (k % 128 + 128) := ⟨_, rfl⟩
      have hb : bits .or .u8 ((k : Int) % 256) 128 = (y.toNat : Int) := by rw [hy]; exact or_128 k
      have HY : Hid (pre ++ [y] ++ uintB (k / 128) = bs ++ uintB x) := Lib.hid (by rw [← HPRE.out, uintB_big hbig, hy]; simp)
      clear hy
      obtain ⟨oa, oc, rfl, -, -⟩ := hrow.form
      obtain ⟨wA, hwA, hkA, hszA, hA0⟩ := byte_new wr ((y.toNat : Int)) y rfl
      obtain ⟨v', w', hrun, hro2, hk2⟩ := (NewB.keptN hrow hkA).push (by have := hkr.size; omega) ⟨wr.heap.size, 0, none⟩ y hA0 (by have := HPL.out; omega)
      have hkw : Kept (fun _ => False) w w' := (hkr.more hkA (fun _ h => h.elim)).more hk2 (fun _ h => h)
      have HRO := Lib.hid hro2
      clear hro2
      go_wp2_with (at_builtin; refine wpList_append_run rfl (.tmp 10) (.tmp 14) #[22, 22] rfl _ _ _ _ rfl rfl hrun ?_)
      clear hrun
      have hj9 : j ≤ 9 := by
        apply Classical.byContradiction
        intro hn
        obtain rfl : j = 10 := by omega
        simp at hkj; omega
      have hk7 : k / 128 < 2 ^ (7 * (10 - (j + 1))) := by
        rw [Nat.div_lt_iff_lt_mul (by omega), show 128 = 2 ^ 7 from rfl, ← Nat.pow_add, show 7 * (10 - (j + 1)) + 7 = 7 * (10 - j) from by omega]
        exact hkj
      go_roundw
      case rel => exact ⟨k / 128, pre ++ [y], j + 1, by simp, by omega, HRO.out, HY.out, by have := HPL.out; simp; omega, by omega, hk7, hkw⟩
      case measure => simp [intOf]; omega
end Go.Proofs.Ytinmjgaaehdicaa
