/- espalierlaw17.RunSpoilt. -/
import Derived.Test.YtinmjgaaehdicaaLaw17A
namespace Go.Proofs.Ytinmjgaaehdicaa
open Go.RowKit

theorem makeOf_cases (m : List (Nat × Nat)) (hl : m.length ≤ 65536) (hb : ∀ p ∈ m, p.1 < 18446744073709551616 ∧ p.2 < 18446744073709551616) :
    (∃ k : Int, k ≠ 0 ∧ makeOf m = ([], k)) ∨ ∃ s, Rising 0 s ∧ s.length = m.length ∧ makeOf m = (bytesOf s, 0) := by
  unfold makeOf
  rw [if_neg (by omega)]
  by_cases h0 : ∃ p ∈ m, p.1 = 0
  · rw [if_pos h0]; exact .inl ⟨2, by omega, rfl⟩
  · rw [if_neg h0]
    by_cases h1 : (m.map (·.1)).Nodup
    · rw [if_neg (by simpa using h1)]
      have hp := sortedP_perm m
      have hs := strict_of (sortedP_le m) ((hp.map _).nodup_iff.2 h1)
      refine .inr ⟨sortedP m, Rising.of_strict hs (fun p hpm => ?_), hp.length_eq, rfl⟩
      have hpm' := hp.mem_iff.1 hpm
      exact ⟨Nat.pos_of_ne_zero (fun e => h0 ⟨p, hpm', e⟩), hb p hpm'⟩
    · rw [if_pos h1]; exact .inl ⟨5, by omega, rfl⟩

theorem emptyP (w : World) : OwnP w.heap.size (w.alloc (.cells #[] 75)) (.slice (some ⟨w.heap.size, 0, none⟩) 0 0) [] :=
  ⟨rfl, .inr ⟨w.heap.size, 0, #[], rfl, Nat.le_refl _, World.alloc_heap_new _ _, Nat.le_refl _, by simp [maxLen], rfl, rfl⟩⟩
theorem emptyB (w : World) : NewB w (w.alloc (.cells #[] 5)) (.slice (some ⟨w.heap.size, 0, none⟩) 0 0) [] :=
  ⟨rfl, .inr ⟨w.heap.size, 0, #[], rfl, Nat.le_refl _, World.alloc_heap_new _ _, Nat.le_refl _, by simp [maxLen], rfl, rfl⟩⟩

theorem NewB.cellAt {w0 w : World} {g c : Nat} {n : Nat} {bs : List UInt8} (h : NewB w0 w (.slice (some ⟨g, 0, .none⟩) n c) bs) (k : Nat) (hk : k < bs.length) : w.cell? ⟨g, k, .none⟩ = some (.int .u8 (bs[k].toNat : Int)) := by
  rcases h.2 with ⟨e, -⟩ | ⟨g', c', cur, e, hb, hg, hn, hm, hs, ht⟩
  · cases e
  · cases e
    rw [cell_of_row w g k cur 5 (0, 0) hg]
    have h1 : (bytesV bs)[k]? = some (.int .u8 (bs[k].toNat : Int)) := by simp [bytesV, hk]
    rw [← ht, List.getElem?_take, if_pos (by omega)] at h1
    simpa using h1
theorem NewB.set {w0 w : World} {g c n : Nat} {bs : List UInt8} (h : NewB w0 w (.slice (some ⟨g, 0, .none⟩) n c) bs) (k : Nat) (y : UInt8) : NewB w0 (w.setCell ⟨g, k, .none⟩ (.int .u8 (y.toNat : Int))) (.slice (some ⟨g, 0, .none⟩) n c) (bs.set k y) := by
  obtain ⟨h1, h2⟩ := h
  refine ⟨by simp, ?_⟩
  rcases h2 with ⟨e, -⟩ | ⟨g', c', cur, e, hb, hg, hn, hm, hs, ht⟩
  · cases e
  · cases e
    refine .inr ⟨g, c, cur.setIfInBounds k (.int .u8 (y.toNat : Int)), by simp, hb, heap_setCell_row hg _, by simpa using hn, hm, by simpa using hs, ?_⟩
    simp only [Array.toList_setIfInBounds, List.length_set]
    rw [List.take_set, ht]
    simp [bytesV, List.map_set]
theorem check_is {w : World} {a : Option Addr} {n c : Nat} {bs : List UInt8} (h : IsB w (.slice a n c) bs) (hlen : bs.length ≤ 100000000000000) :
    Calls Try.prog 32 #[.slice a n c] w fun e w' => e = .returned (.tuple #[.int .i64 (checkOf bs).1, .int .i64 (checkOf bs).2]) ∧ Kept (fun _ => False) w w' := by
  obtain rfl : n = bs.length := by obtain ⟨_, _, e, _⟩ := h; cases e; rfl
  exact check_any w a c bs h hlen
theorem checkOf_ok {bs : List UInt8} (h : (pairsOf bs).2 = true) : ∃ k : Int, checkOf bs = (k, 0) := by unfold checkOf; rw [if_pos h]; exact ⟨_, rfl⟩
theorem checkOf_no {bs : List UInt8} (h : (pairsOf bs).2 = false) : checkOf bs = (0, 8) := by unfold checkOf; rw [if_neg (by simp [h])]
theorem xor_u8 (y x : UInt8) : bits .xor .u8 (y.toNat : Int) (x.toNat : Int) = ((y ^^^ x).toNat : Int) := by
  have hx : y.toNat ^^^ x.toNat < 2 ^ 8 := Nat.xor_lt_two_pow y.toNat_lt x.toNat_lt
  have h1 : ∀ a : UInt8, (BitVec.ofInt 8 (a.toNat : Int)).toNat = a.toNat := fun a => by
    have := a.toNat_lt
    rw [BitVec.ofInt_natCast, BitVec.toNat_ofNat]; exact Nat.mod_eq_of_lt (by omega)
  show IntKind.u8.wrap ((BitVec.ofInt 8 (y.toNat : Int) ^^^ BitVec.ofInt 8 (x.toNat : Int)).toNat : Int) = _
  rw [BitVec.toNat_xor, h1, h1, UInt8.toNat_xor]
  have : ∀ m : Nat, m < 256 → IntKind.u8.wrap (m : Int) = (m : Int) := by decide +kernel
  exact this _ (by simpa using hx)
theorem xor_ne {y x : UInt8} (h : x ≠ 0) : y ≠ y ^^^ x := by
  intro e
  apply h
  have := congrArg (fun z => y ^^^ z) e
  simp only [UInt8.xor_self] at this
  rw [← UInt8.xor_assoc, UInt8.xor_self, UInt8.zero_xor] at this
  exact this.symm

set_option maxRecDepth 100000 in
set_option maxHeartbeats 1000000 in
theorem spoilt_any (w : World) (a : Option Addr) (c : Nat) (l : List (Nat × Nat)) (h : IsP w (.slice a l.length c) l) (n : Int) (hn1 : -9223372036854775808 ≤ n) (hn2 : n ≤ 9223372036854775807) (x : UInt8) :
    Calls Try.prog 6 #[.slice a l.length c, .int .i64 n, .int .u8 (x.toNat : Int)] w fun e w' => e = .returned (.bool true) ∧ Kept (fun _ => False) w w' := by
  have hlc : l.length ≤ c := by obtain ⟨_, _, e, h1, -⟩ := h; cases e; exact h1
  have hm := h.take 60
  have hml : (l.take 60).length ≤ 60 := by rw [List.length_take]; omega
  obtain ⟨m, hmm⟩ : ∃ m, l.take 60 = m := ⟨_, rfl⟩
  obtain ⟨nm, hnm⟩ : ∃ nm, min l.length 60 = nm := ⟨_, rfl⟩
  have HS := fun W => some_any W a l.length c 60 hlc (by omega)
  rw [hmm, hnm] at hm
  rw [hmm] at hml
  simp only [hnm] at HS
  clear hmm hnm
  have hmb : ∀ p ∈ m, p.1 < 18446744073709551616 ∧ p.2 < 18446744073709551616 := by obtain ⟨_, _, _, _, _, h1, _⟩ := hm; exact h1
  go_enter Try.func6, Try.ntmps6
  go_wp2_with fail
  refine (wakes_any w).mono ?_
  rintro e w1 ⟨rfl, hk1⟩
  obtain ⟨WE, hWE⟩ : ∃ WE, w1.alloc (.cells #[] 75) = WE := ⟨_, rfl⟩
  have hkE : Kept (fun _ => False) w1 WE := by rw [← hWE]; exact (Kept.refl _ _).alloc _
  have hszE : WE.heap.size = w1.heap.size + 1 := by rw [← hWE]; simp
  have hoE := emptyP w1
  rw [hWE] at hoE
  have hk1E := hk1.more hkE (fun _ f => f.elim)
  obtain ⟨v2, w2, hrun2, ho2, hk2, -⟩ := hoE.app (by omega) (hm.kept hk1E) (by simp; omega)
  have hk2' : Kept (fun _ => False) w w2 := hk1E.more hk2 (fun i hi => by have := hk1.size; omega)
  obtain ⟨va2, vc2, rfl, -, -⟩ := ho2.form
  simp only [List.nil_append] at ho2 hrun2
  have HM := Lib.hid (make_any w2 _ va2 vc2 m ho2 hmb (by omega))
  go_wp2_with fail
  refine (HS WE).mono ?_
  rintro e w1' ⟨rfl, rfl⟩
  go_wp2_with (at_builtin; refine wpList_append_run rfl (.tmp 17) (.tmp 19) #[54, 54] rfl _ _ _ _ rfl rfl hrun2 ?_)
  clear hrun2
  rcases makeOf_cases m (by omega) hmb with ⟨k, hk0, hMk⟩ | ⟨s, hrs, hsl, hMk⟩
  · rw [hMk] at HM
    clear hMk
    refine HM.out.mono ?_
    rintro e w3 ⟨v3, rfl, hf3⟩
    obtain ⟨a3, c3, rfl, -, -⟩ := hf3.own.form
    simp only [List.length_nil] at hf3
    go_wp2_with fail
    refine (wakes_any w3).mono ?_
    rintro e w4 ⟨rfl, hk4⟩
    go_wp2
    go_ret
    exact ⟨rfl, (hk2'.more hf3.kept (fun _ f => f.elim)).more hk4 (fun _ f => f.elim)⟩
  · rw [hMk] at HM
    clear hMk
    refine HM.out.mono ?_
    rintro e w3 ⟨v3, rfl, hf3⟩
    have HBL : Hid ((bytesOf s).length = 16 * m.length + 9) := Lib.hid (by rw [bytesOf_length s (by omega), hsl])
    have HXok : Hid ((pairsOf (bytesOf s)).2 = true) := Lib.hid (by rw [pairsOf_bytesOf s hrs (by omega)])
    have HXless : Hid ((pairsOf ((bytesOf s).take ((bytesOf s).length - 1))).2 = false) := Lib.hid (pairsOf_less s (by omega))
    have HXmore : Hid (∀ y, (pairsOf (bytesOf s ++ [y])).2 = false) := Lib.hid (fun y => pairsOf_more s (by omega) y)
    have HXturn : Hid (∀ k (_ : 0 < k) (hk : k < (bytesOf s).length) y, (bytesOf s)[k] ≠ y → (pairsOf ((bytesOf s).set k y)).2 = false) := Lib.hid (fun k h0 hk y hy => pairsOf_turned s (by omega) k h0 hk y hy)
    generalize bytesOf s = B at *
    have hB9 : 9 ≤ B.length := by have := HBL.out; omega
    have hB969 : B.length ≤ 969 := by have := HBL.out; omega
    clear HBL hsl hrs s
    have hB3 := hf3.own.isB
    have hk3' := hk2'.more hf3.kept (fun _ f => f.elim)
    obtain ⟨WC, hWC⟩ : ∃ WC, w3.alloc (.cells #[] 5) = WC := ⟨_, rfl⟩
    have hkC : Kept (fun _ => False) w3 WC := by rw [← hWC]; exact (Kept.refl _ _).alloc _
    have hszC : WC.heap.size = w3.heap.size + 1 := by rw [← hWC]; simp
    have hoC := emptyB w3
    rw [hWC] at hoC
    obtain ⟨a3, c3, rfl, hlc3, hcm3⟩ := hf3.own.form
    obtain ⟨v4, w4, hrun4, ho4, hk4, -⟩ := hoC.appAny (by omega) (hB3.keptF hkC (fun _ _ f => f)) (by simp; omega)
    have hk4' : Kept (fun _ => False) w w4 := (hk3'.more hkC (fun _ f => f.elim)).more hk4 (fun i hi => by have := hk3'.size; omega)
    simp only [List.nil_append] at ho4 hrun4
    obtain ⟨hbl4, ⟨rfl, h40⟩ | ⟨g, c4, cur, rfl, hbg, hg, hn4, hm4, hs4, ht4⟩⟩ := id ho4
    · omega
    have hgl : g < w4.heap.size := (Array.getElem?_eq_some_iff.1 hg).1
    obtain ⟨b1, hb1, hb1l⟩ : ∃ b1 : Nat, (B.length : Int) - 1 = (b1 : Int) ∧ Hid (B.length - 1 = b1) := ⟨B.length - 1, by omega, Lib.hid rfl⟩
    have hb1' : b1 < B.length ∧ 1 ≤ b1 := by omega
    obtain ⟨k, hk0, hkl, hkw⟩ : ∃ k : Nat, 0 < k ∧ k < B.length ∧ wrap64 (1 + max n 0 % (b1 : Int)) = (k : Int) := by
      have h1 := Int.emod_nonneg (max n 0) (b := (b1 : Int)) (by omega)
      have h2 := Int.emod_lt_of_pos (max n 0) (b := (b1 : Int)) (by omega)
      refine ⟨(1 + max n 0 % (b1 : Int)).toNat, by omega, by omega, ?_⟩
      unfold wrap64
      omega
    obtain ⟨y, hy⟩ : ∃ y, B[k] = y := ⟨_, rfl⟩
    have hck := ho4.cellAt k hkl
    rw [hy] at hck
    have hfz : w4.frozen? ⟨g, k, none⟩ = false := by simp [World.frozen?, hg]
    have hbx := xor_u8 y x
    have hset := ho4.set k (y ^^^ x)
    obtain ⟨w5, hw5⟩ : ∃ w5, w4.setCell ⟨g, k, none⟩ (.int .u8 ((y ^^^ x).toNat : Int)) = w5 := ⟨_, rfl⟩
    have hk5 : Kept (fun _ => False) w w5 := by rw [← hw5]; exact hk4'.setCell (fun h => by have := hk3'.size; simp only at h; omega) _
    have hB5 : IsB w5 (.slice a3 B.length c3) B := by
      have hk35 : Kept (fun _ => False) w3 w5 := by rw [← hw5]; exact (hkC.more hk4 (fun i hi => hi)).setCell (fun h => by simp only at h; omega) _
      exact hB3.keptF hk35 (fun _ _ f => f)
    rw [hw5] at hset
    have hO : ∃ q : Int, checkOf (B.set k (y ^^^ x)) = (q, if x = 0 then 0 else 8) := by
      by_cases hx : x = 0
      · subst hx
        rw [UInt8.xor_zero, ← hy, List.set_getElem_self, if_pos rfl]
        exact checkOf_ok HXok.out
      · rw [if_neg hx]
        exact ⟨0, checkOf_no (HXturn.out k hk0 hkl _ (by rw [hy]; exact xor_ne hx))⟩
    have hC1 := check_is hset.isB (by simp; omega)
    obtain ⟨q, hq⟩ := hO
    obtain ⟨er, her⟩ : ∃ er : Int, Hid ((if x = 0 then 0 else 8) = er) := ⟨_, Lib.hid rfl⟩
    rw [hq, her.out] at hC1
    generalize y ^^^ x = z at *
    have HC1 := Lib.hid hC1
    clear hC1 hq hy HXok HXturn hset
    go_wp2_with (at_builtin; refine wpList_append_run rfl (.tmp 32) (.tmp 33) #[22, 22] rfl _ _ _ _ rfl rfl hrun4 ?_)
    clear hrun4
    clear hw5 hck hfz hbx
    refine HC1.out.mono ?_
    rintro e w6 ⟨rfl, hk6⟩
    have HC2 : Hid (∀ W, Kept (fun _ => False) w5 W → Calls Try.prog 32 #[.slice a3 b1 c3] W fun e w' => e = .returned (.tuple #[.int .i64 0, .int .i64 8]) ∧ Kept (fun _ => False) W w') := Lib.hid (fun W hW => by
      have := check_is (IsB.take (k := b1) (hB5.keptF hW (fun _ _ f => f)) (by omega)) (by simp; omega)
      rwa [checkOf_no (by rw [← hb1l.out]; exact HXless.out)] at this)
    go_wp2_with fail
    refine (HC2.out w6 hk6).mono ?_
    rintro e w7 ⟨rfl, hk7⟩
    have hk57 := hk6.more hk7 (fun _ f => f.elim)
    have hk7' := hk5.more hk57 (fun _ f => f.elim)
    obtain ⟨WD, hWD⟩ : ∃ WD, w7.alloc (.cells #[] 5) = WD := ⟨_, rfl⟩
    have hkD : Kept (fun _ => False) w7 WD := by rw [← hWD]; exact (Kept.refl _ _).alloc _
    have hszD : WD.heap.size = w7.heap.size + 1 := by rw [← hWD]; simp
    have hoD := emptyB w7
    rw [hWD] at hoD
    obtain ⟨v9, w9, hrun9, ho9, hk9, -⟩ := hoD.appAny (by omega) ((hB5.keptF hk57 (fun _ _ f => f)).keptF hkD (fun _ _ f => f)) (by simp; omega)
    simp only [List.nil_append] at ho9 hrun9
    obtain ⟨a9, c9, rfl, -, -⟩ := ho9.form
    obtain ⟨wA, hwA, hkA, hszA, hA0⟩ := byte_new w9 x.toNat x rfl
    have hsz9 : w7.heap.size ≤ w9.heap.size := by have := hk9.size; omega
    obtain ⟨v10, w10, hrun10, ho10, hk10⟩ := (NewB.keptN ho9 hkA).push (by omega) ⟨w9.heap.size, 0, none⟩ x hA0 (by omega)
    obtain ⟨a10, c10, rfl, -, -⟩ := ho10.form
    have hC3 := check_is ho10.isB (by simp; omega)
    rw [checkOf_no (HXmore.out x)] at hC3
    simp only [List.length_append, List.length_singleton] at hC3
    have HC3 := Lib.hid hC3
    clear hC3
    go_wp2_with (first | (at_builtin; refine wpList_append_run rfl (.tmp 64) (.tmp 65) #[22, 22] rfl _ _ _ _ rfl rfl hrun9 ?_) | (at_builtin; refine wpList_append_run rfl (.tmp 66) (.tmp 68) #[22, 22] rfl _ _ _ _ rfl rfl hrun10 ?_))
    refine HC3.out.mono ?_
    rintro e w11 ⟨rfl, hk11⟩
    have hk10' := ((((hk7'.more hkD (fun _ f => f.elim)).more hk9 (fun i hi => by have := hk7'.size; omega)).more hkA (fun _ f => f.elim)).more hk10 (fun i hi => by have := hk7'.size; omega)).more hk11 (fun _ f => f.elim)
    by_cases hx : x = 0
    · have her' := her.out
      rw [if_pos hx] at her'
      subst her'
      have hxt : (x.toNat : Int) = 0 := by rw [hx]; rfl
      clear hx her HC1 HC2 HC3
      go_wp2_with fail
      refine (wakes_any w11).mono ?_
      rintro e w12 ⟨rfl, hk12⟩
      go_wp2
      go_ret
      exact ⟨by first | (simp; done) | (simp; omega), hk10'.more hk12 (fun _ f => f.elim)⟩
    · have her' := her.out
      rw [if_neg hx] at her'
      subst her'
      have hxt : ¬ (x.toNat : Int) = 0 := fun e => hx (UInt8.toNat_inj.1 (by simpa using e))
      clear hx her HC1 HC2 HC3
      go_wp2_with fail
      refine (wakes_any w11).mono ?_
      rintro e w12 ⟨rfl, hk12⟩
      go_wp2
      go_ret
      exact ⟨by first | (simp; done) | (simp; omega), hk10'.more hk12 (fun _ f => f.elim)⟩
end Go.Proofs.Ytinmjgaaehdicaa
