/- run.Merge. -/
import Derived.Test.YtinmjgaaehdicaaStJ
import Derived.Test.YtinmjgaaehdicaaMgL
import Derived.Test.YtinmjgaaehdicaaRunF
namespace Go.Proofs.Ytinmjgaaehdicaa
open Go.RowKit

theorem insertion_nil (w : World) : Calls Try.prog 99 #[.slice none 0 0, .int .i64 0, .int .i64 0, .func (.func 55) #[] #[]] w fun e w' => e = .returned (.tuple #[]) ∧ Kept (fun _ => False) w w' := by
  go_enter Try.func99, Try.ntmps99
  go_wp2_with fail
  go_loopw [8] (fun iv wr => iv = .int .i64 1 ∧ Kept (fun _ => False) w wr) (fun _ _ => 0)
  case atStart => exact ⟨rfl, Kept.refl _ _⟩
  case round =>
    obtain ⟨rfl, hkr⟩ := hrel
    go_wp2
    go_end0
    exact ⟨rfl, hkr⟩
theorem stable_nil (w : World) : Calls Try.prog 88 #[.slice none 0 0, .int .i64 0, .func (.func 55) #[] #[]] w fun e w' => e = .returned (.tuple #[]) ∧ Kept (fun _ => False) w w' := by
  go_enter Try.func88, Try.ntmps88
  go_wp2_with fail
  go_loopw [7, 8] (fun av bv wr => av = .int .i64 0 ∧ bv = .int .i64 20 ∧ Kept (fun _ => False) w wr) (fun _ _ _ => 0)
  case atStart => exact ⟨rfl, rfl, Kept.refl _ _⟩
  case round =>
    obtain ⟨rfl, rfl, hkr⟩ := hrel
    go_wp2_with fail
    refine (insertion_nil _).mono ?_
    rintro e w2 ⟨rfl, hk2⟩
    go_wp2_with fail
    go_loopw [6] (fun sv wr2 => sv = .int .i64 20 ∧ Kept (fun _ => False) w wr2) (fun _ _ => 0)
    case atStart => exact ⟨rfl, hkr.more hk2 (fun _ f => f.elim)⟩
    case round =>
      obtain ⟨rfl, hkr2⟩ := hrel
      go_wp2
      go_end0
      exact ⟨rfl, hkr2⟩
theorem sortStable_nil (w : World) : Calls Try.prog 67 #[.slice none 0 0, .func (.func 55) #[] #[]] w fun e w' => e = .returned (.tuple #[]) ∧ Kept (fun _ => False) w w' := by
  go_enter Try.func67, Try.ntmps67
  go_wp2_with fail
  refine (stable_nil _).mono ?_
  rintro e w2 ⟨rfl, hk2⟩
  go_wp2
  go_end0
  exact ⟨rfl, hk2⟩
theorem compact_nil (w : World) : Calls Try.prog 68 #[.slice none 0 0, .func (.func 69) #[] #[]] w fun e w' => e = .returned (.slice none 0 0) ∧ w' = w := by
  go_enter Try.func68, Try.ntmps68
  go_wp2
  go_ret
  exact ⟨rfl, rfl⟩

def allOk (bss : List (List UInt8)) : Bool := bss.all fun bs => (pairsOf bs).2
def allP (bss : List (List UInt8)) : List (Nat × Nat) := bss.flatMap fun bs => (pairsOf bs).1
def mergeOf (bss : List (List UInt8)) : List UInt8 × Int :=
  if allOk bss = true then (if 65536 < (sortedR (allP bss)).length then ([], 3) else (bytesOf (sortedR (allP bss)), 0)) else ([], 8)
theorem allP_take {bss : List (List UInt8)} {k : Nat} (hk : k < bss.length) : allP (bss.take (k + 1)) = allP (bss.take k) ++ (pairsOf bss[k]).1 := by
  unfold allP
  rw [List.take_succ_eq_append_getElem hk, List.flatMap_append, List.flatMap_cons, List.flatMap_nil, List.append_nil]
theorem allOk_take {bss : List (List UInt8)} {k : Nat} (hk : k < bss.length) : allOk (bss.take (k + 1)) = (allOk (bss.take k) && (pairsOf bss[k]).2) := by
  unfold allOk
  rw [List.take_succ_eq_append_getElem hk, List.all_append, List.all_cons, List.all_nil, Bool.and_true]
theorem allOk_not {bss : List (List UInt8)} {k : Nat} (hk : k < bss.length) (h : (pairsOf bss[k]).2 = false) : allOk bss = false := by
  unfold allOk
  rw [List.all_eq_false]
  exact ⟨bss[k], List.getElem_mem hk, by rw [h]; simp⟩
theorem allP_take_len (bss : List (List UInt8)) (k : Nat) : (allP (bss.take k)).length ≤ (allP bss).length := by
  conv => rhs; rw [← List.take_append_drop k bss]
  unfold allP
  rw [List.flatMap_append, List.length_append]
  omega
theorem allP_bound {bss : List (List UInt8)} (h : allOk bss = true) : ∀ p ∈ allP bss, p.1 < 18446744073709551616 ∧ p.2 < 18446744073709551616 := by
  intro p hp
  unfold allP at hp
  obtain ⟨bs, hbs, hp⟩ := List.mem_flatMap.1 hp
  have hok := List.all_eq_true.1 h bs hbs
  exact ((pairsOf_rising bs hok).1.strict.2 p hp).2

set_option maxRecDepth 100000 in
set_option maxHeartbeats 1000000 in
theorem merge_any (w : World) (v : Value) (bss : List (List UInt8)) (h : RowsAt IsB w v bss) (hb : ∀ bs ∈ bss, bs.length ≤ 100000000000000) (hl : (allP bss).length ≤ 1000000) :
    Calls Try.prog 42 #[v] w fun e w' => ∃ r, e = .returned (.tuple #[r, .int .i64 (mergeOf bss).2]) ∧ FreshB w r (mergeOf bss).1 w' := by
  obtain ⟨a, c, rfl, hlc, hcm, hrows⟩ := h
  have hb63 : bss.length ≤ 9223372036854775807 := by unfold maxLen at hcm; omega
  have hM : Hid (mergeOf bss = if allOk bss = true then (if 65536 < (sortedR (allP bss)).length then ([], 3) else (bytesOf (sortedR (allP bss)), 0)) else ([], 8)) := Lib.hid rfl
  generalize mergeOf bss = M at hM ⊢
  go_enter Try.func42, Try.ntmps42
  go_wp2_with fail
  go_loopw [4, 11] (fun ov i wr => Kept (fun _ => False) w wr ∧ ∃ k : Nat, k ≤ bss.length ∧ i = .int .i64 k ∧ OwnP w.heap.size wr ov (allP (bss.take k)) ∧ Hid (allOk (bss.take k) = true)) (fun _ i _ => bss.length - (intOf i).toNat)
  case atStart => exact ⟨Kept.refl _ _, 0, Nat.zero_le _, rfl, World.ownsRow_nil _ _ _ _, Lib.hid rfl⟩
  case round =>
    obtain ⟨hkr, k, hk, rfl, hown, HOK⟩ := hrel
    by_cases hlt : k < bss.length
    · have hT := allP_take hlt
      have hO := allOk_take hlt
      have hN : (pairsOf bss[k]).2 = false → M = ([], 8) := fun e => by rw [hM.out, allOk_not hlt e]; rfl
      have hbk := hb bss[k] (List.getElem_mem hlt)
      obtain ⟨bs, hbs⟩ : ∃ bs, bss[k] = bs := ⟨_, rfl⟩
      obtain ⟨g, o, u, rfl, hc, hI⟩ := hrows k bs (by rw [List.getElem?_eq_getElem hlt, hbs])
      rw [hbs] at hT hO hN hbk
      obtain ⟨ua, uc, rfl, -⟩ := id hI
      have hcr := hkr.cell hc (fun f => f)
      have HPA := Lib.hid (pairs_any wr ua uc bs (hI.keptF hkr (fun _ _ f => f)) hbk)
      have hpr := pairsOf_rising bs
      have hL := allP_take_len bss (k + 1)
      rw [hT, List.length_append] at hL
      rw [HOK.out, Bool.true_and] at hO
      have HT := Lib.hid (And.intro hT (And.intro hO hL))
      have HN := Lib.hid hN
      clear hT hO hN hL hbs hc hI hbk
      obtain ⟨⟨l, ok⟩, hq⟩ : ∃ q, pairsOf bs = q := ⟨_, rfl⟩
      rw [hq] at HPA HT HN hpr
      clear hq
      simp only at HPA HT HN hpr
      cases ok with
      | true =>
        have hbd : ∀ p ∈ l, p.1 < 18446744073709551616 ∧ p.2 < 18446744073709551616 := fun p hp => ((hpr rfl).1.strict.2 p hp).2
        clear hpr HN
        go_wp2_with fail
        refine HPA.out.mono ?_
        rintro e w2 ⟨lv, rfl, ho2, hk2⟩
        have hI2 := ho2.isP hbd
        obtain ⟨la, lc, rfl, -, -⟩ := ho2.form
        obtain ⟨v', w', hrun, ho', hkp, -⟩ := (hown.kept hk2 (fun _ f => f.elim)).app (by have := (hkr.more hk2 (fun _ f => f.elim)).size; exact this) hI2 (by have := HT.out.2.2; omega)
        have hk' : Kept (fun _ => False) w w' := (hkr.more hk2 (fun _ f => f.elim)).more hkp (fun i hi => hi)
        have HO := Lib.hid (And.intro ho' hk')
        obtain ⟨oa, oc, rfl, -, -⟩ := hown.form
        clear ho' hk' hkp hI2 ho2 hown hcr
        go_wp2_with (at_builtin; refine wpList_append_run rfl (.tmp 22) (.tmp 23) #[54, 54] rfl _ _ _ _ rfl rfl hrun ?_)
        go_roundw
        case rel => exact ⟨HO.out.2, k + 1, hlt, by go_num, by rw [HT.out.1]; exact HO.out.1, Lib.hid HT.out.2.1⟩
        case measure => simp [intOf]; omega
      | false =>
        have hN2 := HN.out rfl
        clear HN HT hpr
        go_wp2_with fail
        refine HPA.out.mono ?_
        rintro e w2 ⟨lv, rfl, ho2, hk2⟩
        have HN3 := Lib.hid hN2
        clear hN2
        go_wp2
        go_ret2
        rw [HN3.out]
        exact ⟨_, rfl, .none (hkr.more hk2 (fun _ f => f.elim))⟩
    · obtain rfl : k = bss.length := by omega
      rw [List.take_length] at hown
      have HK : Hid (allOk bss = true) := Lib.hid (by have := HOK.out; rwa [List.take_length] at this)
      have hM2 : Hid (M = if 65536 < (sortedR (allP bss)).length then ([], 3) else (bytesOf (sortedR (allP bss)), 0)) := Lib.hid (by rw [hM.out, if_pos HK.out])
      have hSB : ∀ p ∈ sortedR (allP bss), p.1 < 18446744073709551616 ∧ p.2 < 18446744073709551616 := fun p hp => by
        have := ((sortedR_mem (allP bss) [] List.Pairwise.nil).2 p).1 hp
        exact allP_bound HK.out p (List.mem_of_find?_eq_some (by simpa using this))
      have hSL := sortedR_length (allP bss)
      have hXl : (allP bss).length ≤ 1000000 := hl
      generalize allP bss = X at *
      clear hM HOK HK hl
      rcases id hown.2 with ⟨rfl, h0⟩ | ⟨g, cap, cur, rfl, hgb, -, hnc, hcm2, -⟩
      · obtain rfl : X = [] := List.length_eq_zero_iff.1 h0
        have hM3 : Hid (M = (bytesOf [], 0)) := Lib.hid (by rw [hM2.out]; rfl)
        have HB := fun W => Lib.hid (bytes_any W none 0 [] ⟨none, 0, rfl, Nat.le_refl _, by simp [maxLen], fun p hp => by simp at hp, .inl rfl⟩ (by simp))
        clear hM2 hSL hSB hown h0 hXl
        go_wp2_with fail
        refine (sortStable_nil wr).mono ?_
        rintro e w2 ⟨rfl, hk2⟩
        go_wp2_with fail
        refine (compact_nil w2).mono ?_
        rintro e w3 ⟨rfl, rfl⟩
        go_wp2_with fail
        refine (HB w3).out.mono ?_
        rintro e w4 ⟨v4, rfl, hf4⟩
        go_wp2
        go_ret2
        rw [hM3.out]
        exact ⟨_, rfl, hf4.after (hkr.more hk2 (fun _ f => f.elim))⟩
      · have HS := Lib.hid (sortStable_any w.heap.size wr g cap X.length X hown rfl hXl)
        clear hown
        go_wp2_with fail
        refine HS.out.mono ?_
        rintro e w2 ⟨rfl, ⟨C, hC, ho2⟩, hk2⟩
        have HC := compact_any w.heap.size w2 g cap X.length C ho2 hC.len hXl hnc hcm2
        rw [compact_sorted hC] at HC
        have HC2 := Lib.hid HC
        have hk2' := hkr.more hk2 (fun i hi => by rw [hi]; exact hgb)
        clear hC ho2 HC
        go_wp2_with fail
        refine HC2.out.mono ?_
        rintro e w3 ⟨⟨v3, rfl, ho3⟩, hk3⟩
        have hk3' := hk2'.more hk3 (fun i hi => by rw [hi]; exact hgb)
        have hI3 := ho3.isP hSB
        obtain ⟨a3, c3, rfl, -, -⟩ := ho3.form
        by_cases hbig : 65536 < (sortedR X).length
        · have hbI : (65536 : Int) < ((sortedR X).length : Int) := by omega
          rw [if_pos hbig] at hM2
          clear hbig hSL ho3 hI3
          go_wp2
          go_ret2
          rw [hM2.out]
          exact ⟨_, rfl, .none hk3'⟩
        · have hbI : ¬ (65536 : Int) < ((sortedR X).length : Int) := by omega
          rw [if_neg hbig] at hM2
          have HB := Lib.hid (bytes_any w3 a3 c3 _ hI3 (by omega))
          clear hSL ho3 hI3 hbig
          generalize bytesOf (sortedR X) = bb at *
          generalize sortedR X = S at *
          go_wp2_with fail
          refine HB.out.mono ?_
          rintro e w4 ⟨v4, rfl, hf4⟩
          go_wp2
          go_ret2
          rw [hM2.out]
          exact ⟨_, rfl, hf4.after hk3'⟩
end Go.Proofs.Ytinmjgaaehdicaa
