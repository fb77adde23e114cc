/- slices.stableCmpFunc and slices.SortStableFunc at pairs. -/
import Derived.Test.YtemilbemdlpkaaaGreatDoorPba
import Derived.Test.YtemilbemdlpkaaaGreatDoorPax
namespace Go.Proofs.YtemilbemdlpkaaaGreatDoor
open Go.RowKit

theorem StP.of_keep {X C : List (Nat × Nat)} (h : KeepP X C) (hs : C.Pairwise leP) : StP X C := ⟨hs, h.keep, h.len⟩
set_option maxRecDepth 100000 in
set_option maxHeartbeats 1500000 in
theorem stable_any (bb : Nat) (w : World) (g c N : Nat) (X : List (Nat × Nat)) (h : OwnP bb w (.slice (some ⟨g, 0, none⟩) N c) X) (hN : X.length = N) (hlen : N ≤ 1000000) :
    Calls Tryz.prog 166 #[.slice (some ⟨g, 0, none⟩) N c, .int .i64 N, .func (.func 38) #[] #[]] w fun e w' => e = .returned (.tuple #[]) ∧ (∃ C, StP X C ∧ OwnP bb w' (.slice (some ⟨g, 0, none⟩) N c) C) ∧ Kept (fun i => i = g) w w' := by
  have HN := Lib.hid hN
  clear hN
  have H0 := Lib.hid h
  clear h
  go_enter Tryz.func166, Tryz.ntmps166
  go_wp2_with fail
  go_loopw [7, 8] (fun av bv wr => ∃ q a b : Nat, a = 20 * q ∧ b = a + 20 ∧ a ≤ N ∧ av = .int .i64 a ∧ bv = .int .i64 b ∧ Kept (fun i => i = g) w wr ∧ Hid (∃ C, KeepP X C ∧ SBu 20 a C ∧ OwnP bb wr (.slice (some ⟨g, 0, none⟩) N c) C)) (fun av _ _ => N - (intOf av).toNat)
  case atStart => exact ⟨0, 0, 20, rfl, rfl, Nat.zero_le _, rfl, rfl, Kept.refl _ _, Lib.hid ⟨X, ⟨fun _ => rfl, rfl⟩, SBu.none _ _, H0.out⟩⟩
  case round =>
    obtain ⟨q, a, b, haq, hab, haN, rfl, rfl, hkr, HC⟩ := hrel
    by_cases hlt : b ≤ N
    · obtain ⟨C, hC, hS, hown⟩ := HC.out
      have hCl : C.length = N := by rw [hC.len]; exact HN.out
      obtain ⟨P, A, Q, rfl, hP, hA⟩ := split3 C a 20 (by omega)
      have HI := Lib.hid (insertion_any bb wr g c N P A Q a b hown hCl hlen hP (by omega))
      have HH := Lib.hid (And.intro hP (And.intro hA (And.intro hC (And.intro hS (And.intro haq hab)))))
      clear hP hA hC hS haq hown HC hCl
      have hbM : b ≤ 1000000 := by omega
      have hab2 : a < b := by omega
      clear hab
      go_wp2_with fail
      refine HI.out.mono ?_
      rintro e w2 ⟨rfl, ⟨C', hC', ho2⟩, hk2⟩
      go_wp2_with fail
      go_roundw
      case rel =>
        obtain ⟨hP, hA, hC, hS, haq, hab⟩ := HH.out
        refine ⟨q + 1, b, b + 20, by omega, rfl, hlt, rfl, by go_num, hkr.trans hk2 (fun _ _ h => h), Lib.hid ⟨_, hC.upd hC', ?_, ho2⟩⟩
        exact hS.upd (by omega) hC'.sorted hC'.len (hP.trans haq) (by omega) (.inl (by omega))
      case measure => simp [intOf]; omega
    · obtain ⟨C, hC, hS, hown⟩ := HC.out
      have hCl : C.length = N := by rw [hC.len]; exact HN.out
      obtain ⟨P, A, Q, rfl, hP, hA⟩ := split3 C a (N - a) (by omega)
      have HI := Lib.hid (insertion_any bb wr g c N P A Q a N hown hCl hlen hP (by omega))
      have HH := Lib.hid (And.intro hP (And.intro hA (And.intro hC (And.intro hS (And.intro haq hCl)))))
      clear hP hA hC hS haq hown HC hCl hab
      go_wp2_with fail
      refine HI.out.mono ?_
      rintro e w2 ⟨rfl, ⟨C', hC', ho2⟩, hk2⟩
      have H1 : Hid (∃ C, KeepP X C ∧ SBu 20 N C ∧ OwnP bb w2 (.slice (some ⟨g, 0, none⟩) N c) C) := by
        obtain ⟨hP, hA, hC, hS, haq, hCl⟩ := HH.out
        exact Lib.hid ⟨_, hC.upd hC', hS.upd (by omega) hC'.sorted hC'.len (hP.trans haq) (by omega) (.inl (by omega)), ho2⟩
      have hkr2 := hkr.trans hk2 (fun _ _ h => h)
      clear HI HH hkr hk2 ho2 hC'
      go_wp2_with fail
      go_loopw [6] (fun sv wr2 => ∃ s : Nat, 0 < s ∧ s ≤ 2000000 ∧ sv = .int .i64 s ∧ Kept (fun i => i = g) w wr2 ∧ Hid (∃ C, KeepP X C ∧ SBu s N C ∧ OwnP bb wr2 (.slice (some ⟨g, 0, none⟩) N c) C)) (fun sv _ => N - (intOf sv).toNat)
      case atStart => exact ⟨20, by omega, by omega, rfl, hkr2, Lib.hid H1.out⟩
      case round =>
        clear hkr2 H1
        obtain ⟨s, hs0, hsM, rfl, hkr, HC⟩ := hrel
        by_cases hsN : s < N
        · go_wp2_with fail
          have hsM2 : s ≤ 1000000 := by omega
          go_loopw [7, 8] (fun av bv wr3 => ∃ q a b : Nat, b = a + 2 * s ∧ a ≤ N ∧ av = .int .i64 a ∧ bv = .int .i64 b ∧ Kept (fun i => i = g) w wr3 ∧ Hid (a = 2 * s * q ∧ ∃ C, KeepP X C ∧ SBu (2 * s) a C ∧ SBu s N C ∧ OwnP bb wr3 (.slice (some ⟨g, 0, none⟩) N c) C)) (fun av _ _ => N - (intOf av).toNat)
          case atStart =>
            obtain ⟨C, hC, hS, hown⟩ := HC.out
            exact ⟨0, 0, 2 * s, by omega, Nat.zero_le _, rfl, by go_num, hkr, Lib.hid ⟨by simp, C, hC, SBu.none _ _, hS, hown⟩⟩
          case round =>
            clear hkr HC
            obtain ⟨q, a, b, hab, haN, rfl, rfl, hkr, HC⟩ := hrel
            obtain ⟨m, hm⟩ : ∃ m, a + s = m := ⟨_, rfl⟩
            have hmi : (a : Int) + (s : Int) = (m : Int) := by omega
            have hmM : m ≤ 2000000 := by omega
            have haM : a ≤ 1000000 := by omega
            have hbM : b ≤ 3000000 := by omega
            by_cases hlt : b ≤ N
            · obtain ⟨haq, C, hC, hS2, hS, hown⟩ := HC.out
              have hCl : C.length = N := by rw [hC.len]; exact HN.out
              have hmul : 2 * s * q = s * (2 * q) := by rw [Nat.mul_comm 2 s, Nat.mul_assoc]
              have hmul2 : s * (2 * q + 1) = s * (2 * q) + s := by rw [Nat.mul_add, Nat.mul_one]
              have hmul3 : s * (2 * q + 2) = s * (2 * q) + 2 * s := by rw [Nat.mul_add, Nat.mul_comm s 2]
              have hmul4 : 2 * s * (q + 1) = 2 * s * q + 2 * s := by rw [Nat.mul_add, Nat.mul_one]
              obtain ⟨P, A, B, Q, rfl, hP, hA, hB⟩ := split4 C a s s (by omega)
              have hAs := hS.sorted hs0 (q := 2 * q) (by omega) (by omega) (by omega)
              have hBs := SBu.sorted (P := P ++ A) (A := B) (Q := Q) (by simpa using hS) hs0 (q := 2 * q + 1) (by rw [List.length_append]; omega) (by omega) (by rw [List.length_append]; omega)
              have HI := Lib.hid (symMerge_any (A.length + B.length) bb wr g c N P A B Q a m b (Nat.le_refl _) hown hCl hlen hAs hBs (List.length_pos_iff.1 (by omega)) (List.length_pos_iff.1 (by omega)) hP (by omega) (by omega))
              have e1 : P ++ (A ++ (B ++ Q)) = P ++ ((A ++ B) ++ Q) := by simp
              rw [e1] at hC hS2 hS
              have HH := Lib.hid (And.intro hP (And.intro hA (And.intro hB (And.intro hC (And.intro hS2 (And.intro hS (And.intro haq (And.intro hab (And.intro hmul (And.intro hmul3 hmul4))))))))))
              have hab2 : a < b := by omega
              clear hP hA hB hC hS2 hS haq hown HC hCl hAs hBs e1 hmul hmul2 hmul3 hmul4 hm hab
              go_wp2_with fail
              refine HI.out.mono ?_
              rintro e w2 ⟨rfl, ⟨C', hC', ho2⟩, hk2⟩
              go_wp2_with fail
              go_roundw
              case rel =>
                obtain ⟨hP, hA, hB, hC, hS2, hS, haq, hab, hmul, hmul3, hmul4⟩ := HH.out
                have hlAB : (A ++ B).length = 2 * s := by rw [List.length_append]; omega
                refine ⟨q + 1, b, b + 2 * s, by omega, hlt, rfl, by go_num, hkr.trans hk2 (fun _ _ h => h), Lib.hid ⟨by omega, _, hC.upd hC', ?_, ?_, ho2⟩⟩
                · exact hS2.upd (by omega) hC'.sorted hC'.len (hP.trans haq) (by omega) (.inl (by omega))
                · exact hS.upd (q := 2 * q) hs0 hC'.sorted hC'.len (by omega) (by omega) (.inr ⟨⟨2 * q + 2, by omega⟩, by omega⟩)
              case measure => simp [intOf]; omega
            · by_cases hmN : m < N
              · obtain ⟨haq, C, hC, hS2, hS, hown⟩ := HC.out
                have hCl : C.length = N := by rw [hC.len]; exact HN.out
                have hmul : 2 * s * q = s * (2 * q) := by rw [Nat.mul_comm 2 s, Nat.mul_assoc]
                have hmul2 : s * (2 * q + 1) = s * (2 * q) + s := by rw [Nat.mul_add, Nat.mul_one]
                obtain ⟨P, A, B, Q, rfl, hP, hA, hB⟩ := split4 C a s (N - m) (by omega)
                have hAs := hS.sorted hs0 (q := 2 * q) (by omega) (by omega) (by omega)
                have hBs := SBu.sorted (P := P ++ A) (A := B) (Q := Q) (by simpa using hS) hs0 (q := 2 * q + 1) (by rw [List.length_append]; omega) (by omega) (by rw [List.length_append]; omega)
                have HI := Lib.hid (symMerge_any (A.length + B.length) bb wr g c N P A B Q a m N (Nat.le_refl _) hown hCl hlen hAs hBs (List.length_pos_iff.1 (by omega)) (List.length_pos_iff.1 (by omega)) hP (by omega) (by omega))
                have e1 : P ++ (A ++ (B ++ Q)) = P ++ ((A ++ B) ++ Q) := by simp
                rw [e1] at hC hS2 hS
                have HH := Lib.hid (And.intro hP (And.intro hA (And.intro hB (And.intro hC (And.intro hS2 (And.intro hS (And.intro haq (And.intro hab hm))))))))
                clear hP hA hB hC hS2 hS haq hown HC hCl hAs hBs e1 hmul hmul2 hm hab
                go_wp2_with fail
                refine HI.out.mono ?_
                rintro e w2 ⟨rfl, ⟨C', hC', ho2⟩, hk2⟩
                go_wp2_with fail
                go_roundw
                case rel =>
                  obtain ⟨hP, hA, hB, hC, hS2, hS, haq, hab, hm⟩ := HH.out
                  have hlAB : (A ++ B).length = N - a := by rw [List.length_append]; omega
                  refine ⟨2 * s, by omega, by omega, by go_num, hkr.trans hk2 (fun _ _ h => h), Lib.hid ⟨_, hC.upd hC', ?_, ho2⟩⟩
                  exact hS2.upd (by omega) hC'.sorted hC'.len (hP.trans haq) (by omega) (.inl (by omega))
                case measure => simp [intOf]; omega
              · obtain ⟨haq, C, hC, hS2, hS, hown⟩ := HC.out
                have hCl : C.length = N := by rw [hC.len]; exact HN.out
                have hS3 : SBu (2 * s) N C := by
                  have := SBu.tail (s := s) (a := a) (q := q) hS2 (by rw [hCl]; exact hS) hs0 haq (by omega)
                  rwa [hCl] at this
                have HE := Lib.hid (And.intro hC (And.intro hS3 hown))
                clear haq hC hS2 hS hown hCl hS3 HC hm hab
                go_wp2_with fail
                go_roundw
                case rel => exact ⟨2 * s, by omega, by omega, by go_num, hkr, Lib.hid ⟨C, HE.out⟩⟩
                case measure => simp [intOf]; omega
        · obtain ⟨C, hC, hS, hown⟩ := HC.out
          have hCl : C.length = N := by rw [hC.len]; exact HN.out
          have HE := Lib.hid (And.intro (StP.of_keep hC (SBu.all (s := s) (by rw [hCl]; exact hS) (by omega))) hown)
          clear hC hS hown hCl HC
          go_wp2
          go_end0
          exact ⟨rfl, ⟨C, HE.out⟩, hkr⟩
end Go.Proofs.YtemilbemdlpkaaaGreatDoor

/- slices.SortStableFunc and slices.CompactFunc at pairs: plain law of the second; run.Merge's closure. -/
namespace Go.Proofs.YtemilbemdlpkaaaGreatDoor
open Go.RowKit

theorem sortStable_any (bb : Nat) (w : World) (g c N : Nat) (X : List (Nat × Nat)) (h : OwnP bb w (.slice (some ⟨g, 0, none⟩) N c) X) (hN : X.length = N) (hlen : N ≤ 1000000) :
    Calls Tryz.prog 129 #[.slice (some ⟨g, 0, none⟩) N c, .func (.func 38) #[] #[]] w fun e w' => e = .returned (.tuple #[]) ∧ (∃ C, StP X C ∧ OwnP bb w' (.slice (some ⟨g, 0, none⟩) N c) C) ∧ Kept (fun i => i = g) w w' := by
  have HS := Lib.hid (stable_any bb w g c N X h hN hlen)
  clear h hN
  go_enter Tryz.func129, Tryz.ntmps129
  go_wp2_with fail
  refine HS.out.mono ?_
  rintro e w2 ⟨rfl, hC, hk⟩
  go_wp2
  go_end0
  exact ⟨rfl, hC, hk⟩

/-- Of alike neighbours the first. -/
def compactFrom (k : Nat) : List (Nat × Nat) → List (Nat × Nat)
  | [] => []
  | y :: l => if y.1 = k then compactFrom k l else y :: compactFrom y.1 l
def compactP : List (Nat × Nat) → List (Nat × Nat)
  | [] => []
  | x :: l => x :: compactFrom x.1 l
theorem compactFrom_snoc (l : List (Nat × Nat)) (x y z : Nat × Nat) (k : Nat) (h : (x :: l).getLast? = some z) (hk : x.1 = k) : compactFrom k (l ++ [y]) = if y.1 = z.1 then compactFrom k l else compactFrom k l ++ [y] := by
  induction l generalizing x k with
  | nil =>
    simp at h
    subst h
    simp [compactFrom, hk]
  | cons u l ih =>
    rw [List.getLast?_cons_cons] at h
    simp only [List.cons_append, compactFrom]
    by_cases hu : u.1 = k
    · rw [if_pos hu, if_pos hu]
      exact ih u k h hu
    · rw [if_neg hu, if_neg hu, ih u u.1 h rfl]
      split <;> rfl
theorem compactP_snoc (l : List (Nat × Nat)) (y z : Nat × Nat) (h : l.getLast? = some z) : compactP (l ++ [y]) = if y.1 = z.1 then compactP l else compactP l ++ [y] := by
  cases l with
  | nil => simp at h
  | cons x l =>
    simp only [List.cons_append, compactP]
    rw [compactFrom_snoc l x y z x.1 h rfl]
    split <;> rfl
theorem compactP_take {l : List (Nat × Nat)} {n : Nat} (hn : n + 1 < l.length) : compactP (l.take (n + 2)) = if l[n + 1].1 = l[n].1 then compactP (l.take (n + 1)) else compactP (l.take (n + 1)) ++ [l[n + 1]] := by
  have e : l.take (n + 1 + 1) = l.take (n + 1) ++ [l[n + 1]] := by rw [List.take_succ_eq_append_getElem hn]
  rw [show n + 2 = n + 1 + 1 from rfl, e]
  refine compactP_snoc _ _ _ ?_
  have e2 : l.take (n + 1) = l.take n ++ [l[n]] := by rw [List.take_succ_eq_append_getElem (show n < l.length by omega)]
  rw [e2, List.getLast?_concat]
theorem compactP_len (l : List (Nat × Nat)) : (compactP l).length ≤ l.length := by
  have : ∀ (l : List (Nat × Nat)) k, (compactFrom k l).length ≤ l.length := by
    intro l
    induction l with
    | nil => intro k; exact Nat.le_refl _
    | cons y l ih =>
      intro k
      simp only [compactFrom]
      split
      · exact Nat.le_trans (ih k) (by simp)
      · simp only [List.length_cons]; exact Nat.succ_le_succ (ih _)
  cases l with
  | nil => exact Nat.le_refl _
  | cons x l => simp only [compactP, List.length_cons]; exact Nat.succ_le_succ (this l x.1)

set_option maxRecDepth 100000 in
theorem merge1_any (x y : Nat × Nat) (W : World) : Calls Tryz.prog 131 #[.agg #[.int .u64 x.1, .int .u64 x.2], .agg #[.int .u64 y.1, .int .u64 y.2]] W fun e w' => e = .returned (.bool ((x.1 : Int) == (y.1 : Int))) ∧ ∃ q os', w' = Sort.grow (W.drewN q) os' := by
  go_enter Tryz.func131, Tryz.ntmps131
  go_wp2
  all_goals go_ret
  all_goals refine ⟨?_, 0, #[.cells #[.int .u64 x.1, .int .u64 x.2] 68, .cells #[.int .u64 y.1, .int .u64 y.2] 68], by rw [Sort.alloc_eq_grow, Sort.alloc_eq_grow, Sort.grow_grow]; rfl⟩
  all_goals first | rfl | simp [*]
theorem eqAt {bb : Nat} {w : World} {g n c : Nat} {l : List (Nat × Nat)} (h : OwnP bb w (.slice (some ⟨g, 0, .none⟩) n c) l) {x y : Nat} (hx : x < l.length) (hy : y < l.length) :
    ∃ pf pt qf qt r, l[x] = (pf, pt) ∧ l[y] = (qf, qt) ∧ (∀ m os, (Sort.grow (w.drewN m) os).cell? ⟨g, x * 2, .none⟩ = some (.int .u64 (pf : Nat))) ∧ (∀ m os, (Sort.grow (w.drewN m) os).cell? ⟨g, x * 2 + 1, .none⟩ = some (.int .u64 (pt : Nat))) ∧ (∀ m os, (Sort.grow (w.drewN m) os).cell? ⟨g, y * 2, .none⟩ = some (.int .u64 (qf : Nat))) ∧ (∀ m os, (Sort.grow (w.drewN m) os).cell? ⟨g, y * 2 + 1, .none⟩ = some (.int .u64 (qt : Nat))) ∧ (r = decide (pf = qf)) ∧
      Hid (∀ W, Calls Tryz.prog 131 #[.agg #[.int .u64 pf, .int .u64 pt], .agg #[.int .u64 qf, .int .u64 qt]] W fun e w' => e = .returned (.bool r) ∧ ∃ q os', w' = Sort.grow (W.drewN q) os') := by
  obtain ⟨d0, d1⟩ := h.pair hx
  obtain ⟨d2, d3⟩ := h.pair hy
  refine ⟨l[x].1, l[x].2, l[y].1, l[y].2, decide (l[x].1 = l[y].1), rfl, rfl, fun m os => cell_grown (World.block_lt_of_cell? _ _ d0) d0 m os, fun m os => cell_grown (World.block_lt_of_cell? _ _ d1) d1 m os, fun m os => cell_grown (World.block_lt_of_cell? _ _ d2) d2 m os, fun m os => cell_grown (World.block_lt_of_cell? _ _ d3) d3 m os, rfl, Lib.hid fun W => ?_⟩
  have := merge1_any l[x] l[y] W
  have e : ((l[x].1 : Int) == (l[y].1 : Int)) = decide (l[x].1 = l[y].1) := by rw [Bool.eq_iff_iff]; simp; omega
  rw [e] at this
  exact this

theorem OwnP.above {b : Nat} {w : World} {g n c : Nat} {l : List (Nat × Nat)} (h : OwnP b w (.slice (some ⟨g, 0, .none⟩) n c) l) {o : Nat} (ho : 2 * l.length ≤ o) (v : Value) : OwnP b (w.setCell ⟨g, o, none⟩ v) (.slice (some ⟨g, 0, .none⟩) n c) l := by
  obtain ⟨h1, h2⟩ := h
  refine ⟨h1, ?_⟩
  rcases h2 with ⟨e, h0⟩ | ⟨g', c', cur, e, hb, hg, hn, hm, hs, ht⟩
  · cases e
  · cases e
    refine .inr ⟨g, c, cur.setIfInBounds o v, rfl, hb, heap_setCell_row (o := o) hg _, hn, hm, by simpa using hs, ?_⟩
    simp only [Array.toList_setIfInBounds]
    rw [List.take_set_of_le (by omega), ht]
theorem OwnP.aboves {b : Nat} {g n c : Nat} {l : List (Nat × Nat)} (vs : List Value) : ∀ (w : World) (o : Nat), OwnP b w (.slice (some ⟨g, 0, .none⟩) n c) l → 2 * l.length ≤ o → OwnP b (w.setCells g o vs) (.slice (some ⟨g, 0, .none⟩) n c) l ∧ Kept (fun i => i = g) w (w.setCells g o vs) := by
  induction vs with
  | nil => exact fun w o h _ => ⟨h, Kept.refl _ _⟩
  | cons v vs ih =>
    intro w o h ho
    obtain ⟨h1, h2⟩ := ih (w.setCell ⟨g, o, none⟩ v) (o + 1) (h.above ho v) (by omega)
    exact ⟨h1, ((Kept.refl (fun i => i = g) w).setCell (p := ⟨g, o, none⟩) (fun _ => rfl) v).trans h2 (fun _ _ h => h)⟩
theorem OwnP.cut {b : Nat} {w : World} {g n c : Nat} {l : List (Nat × Nat)} (h : OwnP b w (.slice (some ⟨g, 0, .none⟩) n c) l) {k : Nat} (hk : k ≤ l.length) : OwnP b w (.slice (some ⟨g, 0, .none⟩) k c) (l.take k) := by
  obtain ⟨h1, h2⟩ := h
  refine ⟨by rw [flatP_length], ?_⟩
  rcases h2 with ⟨e, h0⟩ | ⟨g', c', cur, e, hb, hg, hn, hm, hs, ht⟩
  · cases e
  · cases e
    refine .inr ⟨g, c, cur, by rw [List.length_take, Nat.min_eq_left hk], hb, hg, by rw [List.length_take]; omega, hm, hs, ?_⟩
    have e1 : flatP (l.take k) = (flatP l).take (k * 2) := by
      have e2 : flatP l = flatP (l.take k) ++ flatP (l.drop k) := by
        simp only [flatP]
        rw [← List.flatMap_append, List.take_append_drop]
      have e3 : (flatP (l.take k)).length = k * 2 := by rw [flatP_length, List.length_take, Nat.min_eq_left hk]
      rw [e2, ← e3, List.take_left']
      rfl
    rw [e1, ← ht, List.take_take, List.length_take, Nat.min_eq_left hk, Nat.min_eq_left (by omega)]
end Go.Proofs.YtemilbemdlpkaaaGreatDoor
