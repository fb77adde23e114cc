/- run: pairs, Check. -/
import Derived.Maps.AppendAt
import Derived.Test.YtemilbemdlpkaaaGreatDoorPae
namespace Go.Proofs.YtemilbemdlpkaaaGreatDoor
open Go.RowKit Go.ChangeMaps Go.MapKept

def encP (p : Nat × Nat) : List Value := [.int .u64 p.1, .int .u64 p.2]
def flatP (l : List (Nat × Nat)) : List Value := l.flatMap encP
def OwnP (b : Nat) (w : World) (v : Value) (l : List (Nat × Nat)) : Prop := w.ownsRow b 68 2 v l.length (flatP l)

def pairsGo : Nat → RM → Nat → List (Nat × Nat) → Option (List (Nat × Nat) × RM)
  | 0, r, _, acc => some (acc, r)
  | n + 1, r, last, acc => if r.word.1 ≤ last then none else pairsGo n r.word.2.word.2 r.word.1 (acc ++ [(r.word.1, r.word.2.word.1)])
def pairsEnd (bs : List UInt8) : Option (List (Nat × Nat) × RM) → List (Nat × Nat) × Bool
  | none => ([], false)
  | some (l, r) => (l, decide (r.word.1 = hashB (bs.take (bs.length - 8))) && decide (r.word.2.stop = 0))
def pairsOf (bs : List UInt8) : List (Nat × Nat) × Bool :=
  if 65536 < (RM.mk bs 0).uint.1 ∨ (RM.mk bs 0).uint.2.bs.length ≠ 16 * (RM.mk bs 0).uint.1 + 8 then ([], false)
  else pairsEnd bs (pairsGo (RM.mk bs 0).uint.1 (RM.mk bs 0).uint.2 0 [])

theorem Tryz.info68 : (Tryz.prog.info? 68).map (fun i => (i.zero, i.size, i.bytes)) = some (some (.agg #[.int .u64 0, .int .u64 0]), 2, 16) := by kernel_rfl

theorem flatP_length (l : List (Nat × Nat)) : (flatP l).length = l.length * 2 := by
  induction l with
  | nil => rfl
  | cons p l ih => simp only [flatP, List.flatMap_cons, List.length_append, List.length_cons] at *; rw [ih]; simp [encP]; omega
theorem flatP_append (l m : List (Nat × Nat)) : flatP (l ++ m) = flatP l ++ flatP m := by simp [flatP]

theorem OwnP.form {b : Nat} {w : World} {v : Value} {l : List (Nat × Nat)} (h : OwnP b w v l) : ∃ a c, v = .slice a l.length c ∧ l.length ≤ c ∧ c ≤ maxLen := by
  rcases h.2 with ⟨rfl, h0⟩ | ⟨g, cap, cur, rfl, _, _, hn, hm, _⟩
  · exact ⟨none, 0, by rw [h0], by omega, by simp [maxLen]⟩
  · exact ⟨_, cap, rfl, hn, hm⟩
theorem ownsRow_keptF {b : Nat} {w w' : World} {t k : Nat} {v : Value} {n : Nat} {l : List Value} {F : Nat → Prop} (h : w.ownsRow b t k v n l) (hk : Kept F w w') (hF : ∀ g, b ≤ g → v.ownBlock = some g → ¬ F g) : w'.ownsRow b t k v n l := by
  refine ⟨h.1, ?_⟩
  rcases h.2 with h2 | ⟨g, cap, cur, rfl, h3, h4, h5⟩
  · exact .inl h2
  · exact .inr ⟨g, cap, cur, rfl, h3, (hk.block g (Array.getElem?_eq_some_iff.1 h4).1 (hF g h3 rfl)).trans h4, h5⟩
theorem OwnP.kept {b : Nat} {w w' : World} {v : Value} {l : List (Nat × Nat)} {F : Nat → Prop} (h : OwnP b w v l) (hk : Kept F w w') (hF : ∀ k, F k → k < b) : OwnP b w' v l :=
  ownsRow_keptF h hk (fun g hg _ hf => by have := hF g hf; omega)
theorem OwnP.mono {b b' : Nat} {w : World} {v : Value} {l : List (Nat × Nat)} (h : OwnP b w v l) (hb : b' ≤ b) : OwnP b' w v l := by
  refine ⟨h.1, ?_⟩
  rcases h.2 with h2 | ⟨g, cap, cur, rfl, h3, h4⟩
  · exact .inl h2
  · exact .inr ⟨g, cap, cur, rfl, by omega, h4⟩
theorem OwnP.nil (b : Nat) (w : World) : OwnP b w (.slice none 0 0) [] := World.ownsRow_nil _ _ _ _

/-- One pair more behind a row of our own. -/
theorem OwnP.push {b : Nat} {w : World} {v : Value} {l : List (Nat × Nat)} (h : OwnP b w v l) (hk0 : b ≤ w.heap.size) (a : Addr) (p : Nat × Nat) (h0 : w.cell? a = some (.int .u64 p.1)) (h1 : w.cell? (a.add 1) = some (.int .u64 p.2)) (hl : l.length + 1 ≤ 1000000000000) :
    ∃ v' w', (Builtin.append_ #[22, 22] 22 #[v, .slice (some a) 1 1]).run Tryz.prog w = .ok v' w' ∧ OwnP b w' v' (l ++ [p]) ∧ Kept (fun k => b ≤ k) w w' := by
  obtain ⟨i0, hi, hz0, hz1, hz2⟩ := info_parts Tryz.info68
  obtain ⟨v', w', hrun, ho2, hg2, -, hb2⟩ := run_append_own_at (P := Tryz.prog) w b 22 22 68 i0 _ 2 16 Tryz.underlying22 hi hz0 hz1 hz2 rfl (by decide) _ _ _ h a 1 1 (encP p) rfl (by
    intro j u hu
    match j, hu with
    | 0, hu => cases hu; exact h0
    | 1, hu => cases hu; exact h1
    | j + 2, hu => simp [encP] at hu) (by intro u hu; simp [encP] at hu; rcases hu with rfl | rfl <;> rfl) (by unfold maxLen; omega) (by omega) hk0
  refine ⟨v', w', hrun, ?_, Kept.grown (F := fun k => b ≤ k) (Kept.refl _ _) hg2 (fun k hk _ => (World.ownsRow.lt h k hk).1)⟩
  unfold OwnP
  rw [flatP_append, List.length_append, show flatP [p] = encP p from by simp [flatP]]
  exact ho2

theorem kept_drew (w : World) : Kept (fun _ => False) w w.drew := (Kept.refl _ _).drew
theorem uint_len (r : RM) : r.uint.2.bs.length ≤ r.bs.length := by
  unfold RM.uint
  split
  · split
    · simp
    · exact Nat.le_refl _
  · exact Nat.le_refl _
theorem hash_eq {w : World} {a : Option Addr} {n c : Nat} {bs : List UInt8} (h : IsB w (.slice a n c) bs) :
    Calls Tryz.prog 81 #[.slice a n c] w fun e w' => e = .returned (.int .u64 (hashB bs)) ∧ w = w' := by
  obtain rfl : n = bs.length := by obtain ⟨_, _, e, _⟩ := h; cases e; rfl
  exact hash_any w a c bs h
theorem hash_at {w : World} {a : Option Addr} {n c : Nat} {bs : List UInt8} {x : Nat} (h : IsB w (.slice a n c) bs) (hx : hashB bs = x) :
    Calls Tryz.prog 81 #[.slice a n c] w fun e w' => e = .returned (.int .u64 x) ∧ w = w' := by rw [← hx]; exact hash_eq h
theorem RM.word_lt (r : RM) : r.word.1 < 18446744073709551616 := by
  unfold RM.word
  split
  · split
    · simp
    · exact wordFrom_lt 0 _ (by omega)
  · simp

/-- A box of two numbers that the walk lays. -/
theorem pair_new (w : World) (x y : Nat) (t : TypeId) : ∃ w2, w.alloc (.cells #[.int .u64 x, .int .u64 y] t) = w2 ∧ Kept (fun _ => False) w w2 ∧ w2.heap.size = w.heap.size + 1 ∧ w2.cell? ⟨w.heap.size, 0, none⟩ = some (.int .u64 x) ∧ w2.cell? ⟨w.heap.size, 1, none⟩ = some (.int .u64 y) :=
  ⟨_, rfl, (Kept.refl _ _).alloc _, by simp, by rw [World.cell?_alloc_new]; rfl, by rw [World.cell?_alloc_new]; rfl⟩





set_option linter.unusedSimpArgs false in
set_option maxRecDepth 100000 in
set_option maxHeartbeats 1000000 in
theorem pairs_any (w : World) (a : Option Addr) (c : Nat) (bs : List UInt8) (h : IsB w (.slice a bs.length c) bs) (hlen : bs.length ≤ 100000000000000) :
    Calls Tryz.prog 125 #[.slice a bs.length c] w fun e w' => ∃ v, e = .returned (.tuple #[v, .bool (pairsOf bs).2]) ∧ OwnP w.heap.size w' v (pairsOf bs).1 ∧ Kept (fun _ => False) w w' := by
  have hpo : pairsOf bs = if 65536 < (RM.mk bs 0).uint.1 ∨ (RM.mk bs 0).uint.2.bs.length ≠ 16 * (RM.mk bs 0).uint.1 + 8 then ([], false) else pairsEnd bs (pairsGo (RM.mk bs 0).uint.1 (RM.mk bs 0).uint.2 0 []) := rfl
  obtain ⟨⟨n, r2⟩, hq⟩ : ∃ q, (RM.mk bs 0).uint = q := ⟨_, rfl⟩
  rw [hq] at hpo
  have HQ := Lib.hid hq
  simp only at hpo
  clear hq
  by_cases hbig : 65536 < n
  · rw [if_pos (.inl hbig)] at hpo
    rw [hpo]
    clear hpo
    have hbig' : (65536 : Int) < (n : Int) := by omega
    go_enter Tryz.func125, Tryz.ntmps125
    go_wp2_with fail
    refine (reader_any w _ bs h hlen).mono ?_
    rintro e w1 ⟨B, rfl, hB, hr1, hk1⟩
    have hu := uint_any hr1
    rw [HQ.out] at hu
    go_wp2_with fail
    refine hu.mono ?_
    rintro e w2 ⟨rfl, hr2, hk2⟩
    go_wp2_with fail
    go_ret2
    exact ⟨_, rfl, OwnP.nil _ _, hk1.more hk2 (fun i e => by omega)⟩
  · have hbig' : ¬ (65536 : Int) < (n : Int) := by omega
    by_cases hll : r2.bs.length = 16 * n + 8
    · rw [if_neg (by omega)] at hpo
      rw [hpo]
      have hll' : ((r2.bs.length : Int) != 16 * (n : Int) + 8) = false := by simp; omega
      have HLL := Lib.hid hll
      clear hpo hll
      go_enter Tryz.func125, Tryz.ntmps125
      go_wp2_with fail
      refine (reader_any w _ bs h hlen).mono ?_
      rintro e w1 ⟨B, rfl, hB, hr1, hk1⟩
      have hu := uint_any hr1
      rw [HQ.out] at hu
      go_wp2_with fail
      refine hu.mono ?_
      rintro e w2 ⟨rfl, hr2, hk2⟩
      go_wp2_with fail
      refine (left_any hr2).mono ?_
      rintro e w3 ⟨rfl, rfl⟩
      have hbl : 8 ≤ bs.length := by
        have h1 := uint_len ⟨bs, 0⟩
        rw [HQ.out] at h1
        have h2 := HLL.out
        simp only at h1
        omega
      have hBN := hr2.at_
      have hB1 : B < w1.heap.size := by obtain ⟨_, _, _, _, h5, _⟩ := hBN; exact h5
      have hk1S := hk1.size
      have hk2S := hk2.size
      have hr2' := hr2.mono hk2S
      have hk12 : Kept (fun _ => False) w w2 := hk1.more hk2 (fun i e => by omega)
      clear hBN hr1 hr2 hu
      go_wp2_with fail
      go_loopw [25, 6, 7] (fun i lv xv wr => ∃ (k last : Nat) (r : RM) (acc : List (Nat × Nat)), k ≤ n ∧ i = .int .u64 k ∧ xv = .int .u64 last ∧ RdrAt wr B w2.heap.size r ∧ OwnP w2.heap.size wr lv acc ∧ acc.length = k ∧ Kept (fun i => i = B ∨ w2.heap.size ≤ i) w2 wr ∧ Hid (pairsGo n r2 0 [] = pairsGo (n - k) r last acc)) (fun i _ _ _ => n - (intOf i).toNat)
      case atStart => exact ⟨0, 0, r2, [], Nat.zero_le _, rfl, rfl, hr2', OwnP.nil _ _, rfl, Kept.refl _ _, Lib.hid rfl⟩
      case round =>
        obtain ⟨k, last, r, acc, hkn, rfl, rfl, hr, hown, hacc, hkr, HG⟩ := hrel
        have HACC := Lib.hid hacc
        clear hacc
        have hkrS := hkr.size
        obtain ⟨la, lc, rfl, -, -⟩ := hown.form
        by_cases hlt : k < n
        · have hF1 := r.word_lt
          have hT1 := r.word.2.word_lt
          have hW1 := word_any hr
          have HF : Hid (pairsGo (n - k) r last acc = if r.word.1 ≤ last then none else pairsGo (n - (k + 1)) r.word.2.word.2 r.word.1 (acc ++ [(r.word.1, r.word.2.word.1)])) := Lib.hid (by
            rw [show n - k = (n - (k + 1)) + 1 from by omega]; rfl)
          obtain ⟨⟨f, r'⟩, hq1⟩ : ∃ q, r.word = q := ⟨_, rfl⟩
          rw [hq1] at hW1 hF1 hT1 HF
          simp only at hW1 hF1 hT1 HF
          clear hq1
          go_wp2_with fail
          refine hW1.mono ?_
          rintro e w3 ⟨rfl, hr3, hk3⟩
          have hW2 := word_any hr3
          obtain ⟨⟨g, r''⟩, hq2⟩ : ∃ q, r'.word = q := ⟨_, rfl⟩
          rw [hq2] at hW2 hT1 HF
          simp only at hW2 hT1 HF
          clear hq2
          go_wp2_with fail
          refine hW2.mono ?_
          rintro e w4 ⟨rfl, hr4, hk4⟩
          have hk34 : Kept (· = B) wr w4 := hk3.trans hk4 (fun _ _ h => h)
          have hk34S := hk34.size
          obtain ⟨wA, hwA, hkA, hszA, hA0, hA1⟩ := pair_new w4 f g 68
          have hownA : OwnP w2.heap.size wA (.slice la acc.length lc) acc := (hown.kept hk34 (fun k e => by omega)).kept hkA (fun k e => e.elim)
          have hrA := hr4.kept hkA (fun k e => e.elim)
          by_cases hle : f ≤ last
          · have hle' : (f : Int) ≤ (last : Int) := by omega
            have HN : Hid (pairsGo n r2 0 [] = none) := Lib.hid (by rw [HG.out, HF.out, if_pos hle])
            go_wp2_with fail
            go_ret2
            rw [HN.out]
            refine ⟨_, rfl, OwnP.nil _ _, ((hk12.more hkr (fun i e => by rcases e with e | e <;> omega)).more hk34 (fun i e => by omega)).more hkA (fun _ h => h.elim)⟩
          · have hle' : ¬ (f : Int) ≤ (last : Int) := by omega
            obtain ⟨wB, hwB, hkB, hszB, hB0, hB1⟩ := pair_new wA f g 68
            obtain ⟨v', w', hrun, ho2, hkp⟩ := (hownA.kept hkB (fun k e => e.elim)).push (by omega) ⟨wA.heap.size, 0, none⟩ (f, g) hB0 hB1 (by have := HACC.out; omega)
            rw [hszA] at hrun
            have HO := Lib.hid ho2
            clear ho2
            go_wp2_with (at_builtin; refine wpList_append_run rfl (.tmp 38) (.tmp 40) #[22, 22] rfl _ _ _ _ rfl rfl hrun ?_)
            clear hrun
            go_roundw
            case rel => exact ⟨k + 1, f, r'', acc ++ [(f, g)], by omega, by go_num, rfl, (hrA.kept hkB (fun k e => e.elim)).kept hkp (fun _ h => h), HO.out, by have := HACC.out; simp; omega, (((hkr.trans hk34 (fun i _ e => .inl e)).trans hkA (fun _ _ h => h.elim)).trans hkB (fun _ _ h => h.elim)).trans hkp (fun _ _ h => .inr h), Lib.hid (by rw [HG.out, HF.out, if_neg hle])⟩
            case measure => simp [intOf]; omega
        · have HN : Hid (pairsGo n r2 0 [] = some (acc, r)) := Lib.hid (by rw [HG.out, show n - k = 0 from by omega]; rfl)
          have hB5 : IsB wr (.slice a bs.length c) bs := (h.keptF hk12 (fun _ _ h => h)).keptS hkr (fun hne g hg e => by have h1 := h.block_lt hne g hg; rcases e with e | e <;> omega)
          have hr0 := hr.kept (kept_drew wr) (fun _ e => e.elim)
          have hW1 := word_any hr0
          have hPE : Hid (pairsEnd bs (some (acc, r)) = (acc, decide (r.word.1 = hashB (bs.take (bs.length - 8))) && decide (r.word.2.stop = 0))) := Lib.hid rfl
          obtain ⟨⟨f, r'⟩, hq1⟩ : ∃ q, r.word = q := ⟨_, rfl⟩
          rw [hq1] at hW1 hPE
          simp only at hW1 hPE
          clear hq1
          obtain ⟨m8, hm8, hm8l⟩ : ∃ m8 : Nat, (bs.length : Int) - 8 = (m8 : Int) ∧ m8 ≤ bs.length := ⟨bs.length - 8, by omega, by omega⟩
          have hm8w : IntKind.i64.wrap (m8 : Int) = (m8 : Int) := by rw [IntKind.wrap_i64]; omega
          have hm8e : bs.length - 8 = m8 := by omega
          have hm8c : m8 ≤ c := by obtain ⟨_, _, e, h1, _⟩ := id h; cases e; omega
          have hm8c' : (m8 : Int) ≤ (c : Int) := by omega
          rw [hm8e] at hPE
          clear hm8e
          obtain ⟨ga, oa, rfl⟩ : ∃ g o, a = some ⟨g, o, none⟩ := by
            obtain ⟨_, _, e, _, _, h3⟩ := id h
            cases e
            rcases h3 with h3 | ⟨g, o, rfl, -⟩
            · rw [h3] at hbl; simp at hbl
            · exact ⟨g, o, rfl⟩
          have hB0 := hB5.keptF (kept_drew wr) (fun _ _ h => h)
          obtain ⟨hsl, hT0⟩ := bytes_high hB0 hm8l
          have hT3 : ∀ w3, Kept (· = B) wr.drew w3 → IsB w3 (.slice (some ⟨ga, oa, none⟩) m8 c) (bs.take m8) := fun w3 hk => (bytes_high (hB0.keptS hk (fun hne g hg e => by have h1 := h.block_lt hne g hg; omega)) hm8l).2
          have HPE := Lib.hid hPE
          clear hPE hB5 hB0
          obtain ⟨hh, hhd⟩ : ∃ hh, hashB (bs.take m8) = hh := ⟨_, rfl⟩
          rw [hhd] at HPE
          have HHH := Lib.hid hhd
          clear hhd
          by_cases hfh : f = hh
          · have hfe : ((f : Int) == (hh : Int)) = true := by simp [hfh]
            have HFH := Lib.hid hfh
            clear hfh
            go_wp2_with fail
            go_region_held3 (fun _ => True) (trivial) ((first | (go_at_call 81; refine (hash_at (hT3 _ hk3) HHH.out).mono ?_; rintro e w4 ⟨rfl, rfl⟩) | (go_at_call 81; refine (hash_at hT0 HHH.out).mono ?_; rintro e w4 ⟨rfl, rfl⟩) | (go_at_call 93; refine (stop_any hr3).mono ?_; rintro e w5 ⟨rfl, rfl⟩) | (go_at_call 85; refine hW1.mono ?_; rintro e w3 ⟨rfl, hr3, hk3⟩)))
            go_wp2
            go_ret2
            have hP := HPE.out.out
            rw [HN.out, hP]
            have hownE := (hown.kept (kept_drew wr) (fun k e => e.elim)).kept hk3 (fun k e => by omega)
            have hkE : Kept (fun _ => False) w w3 := ((hk12.more hkr (fun i e => by rcases e with e | e <;> omega)).more (kept_drew wr) (fun _ h => h.elim)).more hk3 (fun i e => by omega)
            refine ⟨.slice la acc.length lc, ?_, hownE.mono (by omega), hkE⟩
            have hB9 : (decide (f = hh) && decide (r'.stop = 0)) = (r'.stop == 0) := (by by_cases h0 : r'.stop = 0 <;> simp [HFH.out, h0])
            rw [hB9]
            rfl
          · have hfe : ((f : Int) == (hh : Int)) = false := by simp; omega
            have HFH := Lib.hid hfh
            clear hfh
            go_wp2_with fail
            refine wp_region_held_drew (S := fun _ => True) (by kernel_rfl) trivial (fun hHeld => ?_)
            refine wpAnyH_take (i := 0) (v := ?_) rfl (by kernel_rfl) (by kernel_rfl) (by kernel_rfl) (fun _ _ _ h => h) (Or.inl ⟨by rfl, ?_⟩) (by assumption) ?_
            rotate_left
            (intro w' hSw'; go_simp; try with_reducible rfl)
            try simp only [Act.put, List.setIfInBounds_toArray, List.set_cons_zero, List.set_cons_succ, List.getElem_toArray, List.getElem_cons_zero, List.getElem_cons_succ]
            refine wpAnyH_take (i := 1) (v := ?_) rfl (by kernel_rfl) (by kernel_rfl) (by kernel_rfl) (fun _ _ _ h => h) (Or.inl ⟨by rfl, ?_⟩) (by assumption) ?_
            rotate_left
            (intro w' hSw'; go_simp; try with_reducible rfl)
            try simp only [Act.put, List.setIfInBounds_toArray, List.set_cons_zero, List.set_cons_succ, List.getElem_toArray, List.getElem_cons_zero, List.getElem_cons_succ]
            refine wpAnyH_take (i := 3) (v := ?_) rfl (by kernel_rfl) (by kernel_rfl) (by kernel_rfl) (fun _ _ _ h => h) (Or.inl ⟨by rfl, ?_⟩) (by assumption) ?_
            rotate_left
            (intro w' hSw'; go_simp; try with_reducible rfl)
            try simp only [Act.put, List.setIfInBounds_toArray, List.set_cons_zero, List.set_cons_succ, List.getElem_toArray, List.getElem_cons_zero, List.getElem_cons_succ]
            refine wpAnyH_take (i := 4) (v := ?_) rfl (by kernel_rfl) (by kernel_rfl) (by kernel_rfl) (fun _ _ _ h => h) (Or.inl ⟨by rfl, ?_⟩) (by assumption) ?_
            rotate_left
            (intro w' hSw'; go_simp; try with_reducible rfl)
            try simp only [Act.put, List.setIfInBounds_toArray, List.set_cons_zero, List.set_cons_succ, List.getElem_toArray, List.getElem_cons_zero, List.getElem_cons_succ]
            refine wpAnyH_take (i := 5) (v := ?_) rfl (by kernel_rfl) (by kernel_rfl) (by kernel_rfl) (fun _ _ _ h => h) (Or.inl ⟨by rfl, ?_⟩) (by assumption) ?_
            rotate_left
            (intro w' hSw'; go_simp; try with_reducible rfl)
            try simp only [Act.put, List.setIfInBounds_toArray, List.set_cons_zero, List.set_cons_succ, List.getElem_toArray, List.getElem_cons_zero, List.getElem_cons_succ]
            refine wpAnyH_take (i := 6) (v := ?_) rfl (by kernel_rfl) (by kernel_rfl) (by kernel_rfl) (fun _ _ _ h => h) (Or.inl ⟨by rfl, ?_⟩) (by assumption) ?_
            rotate_left
            (intro w' hSw'; go_simp; try with_reducible rfl)
            try simp only [Act.put, List.setIfInBounds_toArray, List.set_cons_zero, List.set_cons_succ, List.getElem_toArray, List.getElem_cons_zero, List.getElem_cons_succ]
            refine wpAnyH_take (i := 7) (v := ?_) rfl (by kernel_rfl) (by kernel_rfl) (by kernel_rfl) (fun _ _ _ h => h) (Or.inl ⟨by rfl, ?_⟩) (by assumption) ?_
            rotate_left
            (intro w' hSw'; go_simp; try with_reducible rfl)
            try simp only [Act.put, List.setIfInBounds_toArray, List.set_cons_zero, List.set_cons_succ, List.getElem_toArray, List.getElem_cons_zero, List.getElem_cons_succ]
            refine wpAnyH_ready (rs := [2]) (by kernel_rfl) (by simp) ?_
            refine AllReadyH.cons rfl (fun K hK => ?_) AllReadyH.nil
            (go_simp; go_at_call 85; refine hW1.mono ?_; rintro e w3 ⟨rfl, hr3, hk3⟩)
            refine hK.out _ _ trivial (fun hHeld => ?_)
            clear hK K
            try simp only [Act.put, List.setIfInBounds_toArray, List.set_cons_zero, List.set_cons_succ, List.getElem_toArray, List.getElem_cons_zero, List.getElem_cons_succ]
            refine wpAnyH_ready (rs := [8]) (by kernel_rfl) (by simp) ?_
            refine AllReadyH.cons rfl (fun K hK => ?_) AllReadyH.nil
            (go_simp; go_at_call 81; refine (hash_at (hT3 _ hk3) HHH.out).mono ?_; rintro e w4 ⟨rfl, rfl⟩)
            refine hK.out _ _ trivial (fun hHeld => ?_)
            clear hK K
            try simp only [Act.put, List.setIfInBounds_toArray, List.set_cons_zero, List.set_cons_succ, List.getElem_toArray, List.getElem_cons_zero, List.getElem_cons_succ]
            refine wpAnyH_take (i := 9) (v := ?_) rfl (by kernel_rfl) (by kernel_rfl) (by kernel_rfl) (fun _ _ _ h => h) (Or.inl ⟨by rfl, ?_⟩) (by assumption) ?_
            rotate_left
            (intro w' hSw'; go_simp; try with_reducible rfl)
            try simp only [Act.put, List.setIfInBounds_toArray, List.set_cons_zero, List.set_cons_succ, List.getElem_toArray, List.getElem_cons_zero, List.getElem_cons_succ]
            refine wpAnyH_take (i := 10) (v := ?_) rfl (by kernel_rfl) (by kernel_rfl) (by kernel_rfl) (fun _ _ _ h => h) (Or.inl ⟨by rfl, ?_⟩) (by assumption) ?_
            rotate_left
            (intro w' hSw'; go_simp; try with_reducible rfl)
            try simp only [Act.put, List.setIfInBounds_toArray, List.set_cons_zero, List.set_cons_succ, List.getElem_toArray, List.getElem_cons_zero, List.getElem_cons_succ]
            refine wpAnyH_take (i := 11) (v := undef) rfl (by kernel_rfl) (by kernel_rfl) (by kernel_rfl) (fun _ _ _ h => h) (Or.inr ⟨by rfl, rfl⟩) (by assumption) ?_
            try simp only [Act.put, List.setIfInBounds_toArray, List.set_cons_zero, List.set_cons_succ, List.getElem_toArray, List.getElem_cons_zero, List.getElem_cons_succ]
            refine wpAnyH_ready (rs := [12]) (by kernel_rfl) (by simp) ?_
            refine AllReadyH.cons rfl (fun K hK => ?_) AllReadyH.nil
            go_simp
            refine hK.out _ _ trivial (fun hHeld => ?_)
            clear hK K
            try simp only [Act.put, List.setIfInBounds_toArray, List.set_cons_zero, List.set_cons_succ, List.getElem_toArray, List.getElem_cons_zero, List.getElem_cons_succ]
            refine wpAnyH_take (i := 13) (v := undef) rfl (by kernel_rfl) (by kernel_rfl) (by kernel_rfl) (fun _ _ _ h => h) (Or.inr ⟨by rfl, rfl⟩) (by assumption) ?_
            try simp only [Act.put, List.setIfInBounds_toArray, List.set_cons_zero, List.set_cons_succ, List.getElem_toArray, List.getElem_cons_zero, List.getElem_cons_succ]
            refine wpAnyH_take (i := 14) (v := ?_) rfl (by kernel_rfl) (by kernel_rfl) (by kernel_rfl) (fun _ _ _ h => h) (Or.inl ⟨by rfl, ?_⟩) (by assumption) ?_
            rotate_left
            (intro w' hSw'; go_simp; try with_reducible rfl)
            try simp only [Act.put, List.setIfInBounds_toArray, List.set_cons_zero, List.set_cons_succ, List.getElem_toArray, List.getElem_cons_zero, List.getElem_cons_succ]
            refine wpAnyH_take (i := 15) (v := ?_) rfl (by kernel_rfl) (by kernel_rfl) (by kernel_rfl) (fun _ _ _ h => h) (Or.inl ⟨by rfl, ?_⟩) (by assumption) ?_
            rotate_left
            (intro w' hSw'; go_simp; try with_reducible rfl)
            try simp only [Act.put, List.setIfInBounds_toArray, List.set_cons_zero, List.set_cons_succ, List.getElem_toArray, List.getElem_cons_zero, List.getElem_cons_succ]
            refine wpAnyH_take (i := 16) (v := ?_) rfl (by kernel_rfl) (by kernel_rfl) (by kernel_rfl) (fun _ _ _ h => h) (Or.inl ⟨by rfl, ?_⟩) (by assumption) ?_
            rotate_left
            (intro w' hSw'; go_simp; try with_reducible rfl)
            try simp only [Act.put, List.setIfInBounds_toArray, List.set_cons_zero, List.set_cons_succ, List.getElem_toArray, List.getElem_cons_zero, List.getElem_cons_succ]
            refine wpAnyH_done (by kernel_rfl) ?_ _
            go_wp2
            go_ret2
            have hP := HPE.out.out
            rw [HN.out, hP]
            have hownE := (hown.kept (kept_drew wr) (fun k e => e.elim)).kept hk3 (fun k e => by omega)
            have hkE : Kept (fun _ => False) w w3 := ((hk12.more hkr (fun i e => by rcases e with e | e <;> omega)).more (kept_drew wr) (fun _ h => h.elim)).more hk3 (fun i e => by omega)
            refine ⟨.slice la acc.length lc, ?_, hownE.mono (by omega), hkE⟩
            have hB9 : (decide (f = hh) && decide (r'.stop = 0)) = false := (by simp [HFH.out])
            rw [hB9]
            rfl
    · rw [if_pos (.inr hll)] at hpo
      rw [hpo]
      have hll' : ((r2.bs.length : Int) != 16 * (n : Int) + 8) = true := by simp; omega
      clear hpo hll
      go_enter Tryz.func125, Tryz.ntmps125
      go_wp2_with fail
      refine (reader_any w _ bs h hlen).mono ?_
      rintro e w1 ⟨B, rfl, hB, hr1, hk1⟩
      have hu := uint_any hr1
      rw [HQ.out] at hu
      go_wp2_with fail
      refine hu.mono ?_
      rintro e w2 ⟨rfl, hr2, hk2⟩
      go_wp2_with fail
      refine (left_any hr2).mono ?_
      rintro e w3 ⟨rfl, rfl⟩
      go_wp2_with fail
      go_ret2
      exact ⟨_, rfl, OwnP.nil _ _, hk1.more hk2 (fun i e => by omega)⟩
end Go.Proofs.YtemilbemdlpkaaaGreatDoor
