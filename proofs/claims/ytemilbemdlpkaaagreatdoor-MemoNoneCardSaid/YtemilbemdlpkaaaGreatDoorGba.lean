/- Rows of pairs that are written in place: a pair is put, two are swapped; slices.swapRangeCmpFunc at pairs. -/
import Derived.Shelf.RegionOpenPlain
import Derived.Test.YtemilbemdlpkaaaGreatDoorGay
import Derived.Test.YtemilbemdlpkaaaGreatDoorGaz
namespace Go.Proofs.YtemilbemdlpkaaaGreatDoor
open Go.RowKit

theorem flatP_set (l : List (Nat × Nat)) (k : Nat) (p : Nat × Nat) (hk : k < l.length) : flatP (l.set k p) = ((flatP l).set (k * 2) (.int .u64 p.1)).set (k * 2 + 1) (.int .u64 p.2) := by
  induction l generalizing k with
  | nil => simp at hk
  | cons q l ih =>
    cases k with
    | zero => simp [flatP, encP]
    | succ k =>
      have := ih k (by simpa using hk)
      simp only [flatP, List.set_cons_succ, List.flatMap_cons] at this ⊢
      rw [this, List.set_append_right _ _ (by simp [encP]; omega), List.set_append_right _ _ (by simp [encP]; omega)]
      congr 2
      · congr 1
        simp [encP]; omega
      · simp [encP]; omega

/-- A pair is put at a place. -/
def putW (w : World) (g k : Nat) (p : Nat × Nat) : World := (w.setCell ⟨g, k * 2, none⟩ (.int .u64 (p.1 : Int))).setCell ⟨g, k * 2 + 1, none⟩ (.int .u64 (p.2 : Int))
theorem OwnP.put {b : Nat} {w : World} {g n c : Nat} {l : List (Nat × Nat)} (h : OwnP b w (.slice (some ⟨g, 0, .none⟩) n c) l) {k : Nat} (hk : k < l.length) (p : Nat × Nat) : OwnP b (putW w g k p) (.slice (some ⟨g, 0, .none⟩) n c) (l.set k p) := by
  obtain ⟨h1, h2⟩ := h
  refine ⟨by simp [flatP_length], ?_⟩
  rcases h2 with ⟨e, h0⟩ | ⟨g', c', cur, e, hb, hg, hn, hm, hs, ht⟩
  · cases e
  · cases e
    refine .inr ⟨g, c, (cur.setIfInBounds (k * 2) (.int .u64 (p.1 : Int))).setIfInBounds (k * 2 + 1) (.int .u64 (p.2 : Int)), by simp, hb, heap_setCell_row (o := k * 2 + 1) (heap_setCell_row (o := k * 2) hg _) _, by simpa using hn, hm, by simpa using hs, ?_⟩
    simp only [Array.toList_setIfInBounds, List.length_set]
    rw [List.take_set, List.take_set, ht, flatP_set l k p hk]
theorem putW_size (w : World) (g k : Nat) (p : Nat × Nat) : (putW w g k p).heap.size = w.heap.size := by simp [putW]
theorem putW_kept (w : World) (g k : Nat) (p : Nat × Nat) : Kept (fun i => i = g) w (putW w g k p) :=
  (((Kept.refl (fun i => i = g) w).setCell (p := ⟨g, k * 2, none⟩) (fun _ => rfl) _).setCell (p := ⟨g, k * 2 + 1, none⟩) (fun _ => rfl) _)
theorem OwnP.fz {b : Nat} {w : World} {g n c : Nat} {l : List (Nat × Nat)} (h : OwnP b w (.slice (some ⟨g, 0, .none⟩) n c) l) (i : Nat) : w.frozen? ⟨g, i, .none⟩ = false := by
  rcases h.2 with ⟨e, -⟩ | ⟨g', c', cur, e, hb, hg, -⟩
  · cases e
  · cases e; simp [World.frozen?, hg]
theorem OwnP.pair {b : Nat} {w : World} {g n c : Nat} {l : List (Nat × Nat)} (h : OwnP b w (.slice (some ⟨g, 0, .none⟩) n c) l) {k : Nat} (hk : k < l.length) : w.cell? ⟨g, k * 2, .none⟩ = some (.int .u64 l[k].1) ∧ w.cell? ⟨g, k * 2 + 1, .none⟩ = some (.int .u64 l[k].2) := by
  obtain ⟨g', e, -, -, hc⟩ := h.at (fun e => by rw [e] at hk; simp at hk)
  cases e
  exact ⟨hc _ _ (flatP_get l k hk).1, hc _ _ (flatP_get l k hk).2⟩

/-- Two places change. -/
def swapL (l : List (Nat × Nat)) (i j : Nat) : List (Nat × Nat) := match l[i]?, l[j]? with | some p, some q => (l.set i q).set j p | _, _ => l
def swapsL (a b : Nat) : Nat → List (Nat × Nat) → List (Nat × Nat)
  | 0, l => l
  | n + 1, l => swapL (swapsL a b n l) (a + n) (b + n)
theorem swapL_length (l : List (Nat × Nat)) (i j : Nat) : (swapL l i j).length = l.length := by unfold swapL; split <;> simp
theorem swapsL_length (a b n : Nat) (l : List (Nat × Nat)) : (swapsL a b n l).length = l.length := by
  induction n with
  | zero => rfl
  | succ n ih => rw [swapsL, swapL_length, ih]

theorem swapL_of {l : List (Nat × Nat)} {i j : Nat} (hi : i < l.length) (hj : j < l.length) : swapL l i j = (l.set i l[j]).set j l[i] := by
  unfold swapL
  rw [List.getElem?_eq_getElem hi, List.getElem?_eq_getElem hj]


set_option maxRecDepth 100000 in
set_option maxHeartbeats 1000000 in
theorem swapRange_any (bb : Nat) (w : World) (g c : Nat) (l : List (Nat × Nat)) (a b n : Nat) (fv : Value) (h : OwnP bb w (.slice (some ⟨g, 0, none⟩) l.length c) l) (hlen : l.length ≤ 1000000) (ha : a + n ≤ b) (hb : b + n ≤ l.length) :
    Calls Tryz.prog 208 #[.slice (some ⟨g, 0, none⟩) l.length c, .int .i64 a, .int .i64 b, .int .i64 n, fv] w fun e w' => e = .returned (.tuple #[]) ∧ OwnP bb w' (.slice (some ⟨g, 0, none⟩) l.length c) (swapsL a b n l) ∧ Kept (fun i => i = g) w w' := by
  go_enter Tryz.func208, Tryz.ntmps208
  go_wp2_with fail
  go_loopw [10] (fun i wr => ∃ k : Nat, k ≤ n ∧ i = .int .i64 k ∧ OwnP bb wr (.slice (some ⟨g, 0, none⟩) l.length c) (swapsL a b k l) ∧ Kept (fun i => i = g) w wr) (fun i _ => n - (intOf i).toNat)
  case atStart => exact ⟨0, Nat.zero_le _, rfl, h, Kept.refl _ _⟩
  case round =>
    obtain ⟨k, hk, rfl, hown, hkr⟩ := hrel
    have hL := swapsL_length a b k l
    by_cases hlt : k < n
    · have hN : Hid (swapsL a b (k + 1) l = swapL (swapsL a b k l) (a + k) (b + k)) := Lib.hid rfl
      generalize swapsL a b k l = m at *
      obtain ⟨x, hx⟩ : ∃ x, a + k = x := ⟨_, rfl⟩
      obtain ⟨y, hy⟩ : ∃ y, b + k = y := ⟨_, rfl⟩
      rw [hx, hy] at hN
      have hx2 : (a : Int) + (k : Int) = (x : Int) := by omega
      have hy2 : (b : Int) + (k : Int) = (y : Int) := by omega
      have hxy : x < y := by omega
      have hym : y < m.length := by omega
      have hyl : y < l.length := by omega
      have hxl : x < l.length := by omega
      have HL := Lib.hid hL
      obtain ⟨⟨pf, pt⟩, hpe⟩ : ∃ p, m[x] = p := ⟨_, rfl⟩
      obtain ⟨⟨qf, qt⟩, hqe⟩ : ∃ q, m[y] = q := ⟨_, rfl⟩
      have hsw := swapL_of (l := m) (i := x) (j := y) (by omega) (by omega)
      rw [hpe, hqe] at hsw
      obtain ⟨e0, e1⟩ := (hown).pair (k := x) (by omega)
      obtain ⟨e2, e3⟩ := (hown).pair (k := y) (by omega)
      rw [hpe] at e0 e1
      rw [hqe] at e2 e3
      simp only at e0 e1 e2 e3
      have hput1 := (hown).put (k := x) (by omega) (qf, qt)
      have hput2 := hput1.put (k := y) (by simp only [List.length_set]; omega) (pf, pt)
      rw [← hsw] at hput2
      have hfz := (hown).fz
      have hkput := (putW_kept wr g x (qf, qt)).trans (putW_kept (putW wr g x (qf, qt)) g y (pf, pt)) (fun _ _ h => h)
      have n1 : ¬ x * 2 = y * 2 := by omega
      have n2 : ¬ x * 2 = y * 2 + 1 := by omega
      have n3 : ¬ x * 2 + 1 = y * 2 := by omega
      have n4 : ¬ y * 2 = x * 2 := by omega
      have n5 : ¬ y * 2 + 1 = x * 2 := by omega
      have n6 : ¬ y * 2 = x * 2 + 1 := by omega
      clear hpe hqe hsw hput1
      clear hL hx hy
      go_wp2_with fail
      have hmx : Tryz.prog.follows .mixedOrders = true := by kernel_rfl
      go_big_region_o
      all_goals go_wp2
      go_roundw
      case rel =>
        refine ⟨k + 1, hlt, by go_num, ?_, ?_⟩
        · rw [hN.out]
          exact hput2.kept (F := fun _ => False) ((Kept.refl _ _).drew) (fun _ f => f.elim)
        · exact (hkr.trans hkput (fun _ _ h => h)).drew
      case measure => simp [intOf]; omega
    · obtain rfl : k = n := by omega
      go_wp2
      go_end0
      exact ⟨rfl, hown, hkr⟩
end Go.Proofs.YtemilbemdlpkaaaGreatDoor

/- slices.rotateCmpFunc at pairs. -/
namespace Go.Proofs.YtemilbemdlpkaaaGreatDoor
open Go.RowKit

theorem swapL_mid (P M Q : List (Nat × Nat)) (x y : Nat × Nat) : swapL (P ++ x :: (M ++ y :: Q)) P.length (P.length + 1 + M.length) = P ++ y :: (M ++ x :: Q) := by
  rw [swapL_of (by simp) (by simp; omega)]
  have e1 : (P ++ x :: (M ++ y :: Q))[P.length]'(by simp) = x := by simp
  have e2 : (P ++ x :: (M ++ y :: Q))[P.length + 1 + M.length]'(by simp; omega) = y := by
    rw [List.getElem_append_right (by omega)]
    simp only [show P.length + 1 + M.length - P.length = M.length + 1 from by omega, List.getElem_cons_succ]
    simp
  rw [e1, e2, List.set_append_right _ _ (by omega), Nat.sub_self, List.set_cons_zero, List.set_append_right _ _ (by omega), show P.length + 1 + M.length - P.length = M.length + 1 from by omega, List.set_cons_succ, List.set_append_right _ _ (by omega), Nat.sub_self, List.set_cons_zero]
theorem swapsL_blocks (n : Nat) : ∀ (P X M Y Q : List (Nat × Nat)), X.length = n → Y.length = n → swapsL P.length (P.length + n + M.length) n (P ++ (X ++ (M ++ (Y ++ Q)))) = P ++ (Y ++ (M ++ (X ++ Q))) := by
  induction n with
  | zero =>
    intro P X M Y Q hx hy
    obtain rfl := List.length_eq_zero_iff.1 hx
    obtain rfl := List.length_eq_zero_iff.1 hy
    rfl
  | succ n ih =>
    intro P X M Y Q hx hy
    obtain ⟨X', x, rfl⟩ : ∃ X' x, X = X' ++ [x] := ⟨X.dropLast, X.getLast (by intro e; rw [e] at hx; simp at hx), (List.dropLast_concat_getLast _).symm⟩
    obtain ⟨Y', y, rfl⟩ : ∃ Y' y, Y = Y' ++ [y] := ⟨Y.dropLast, Y.getLast (by intro e; rw [e] at hy; simp at hy), (List.dropLast_concat_getLast _).symm⟩
    have hx' : X'.length = n := by simpa using hx
    have hy' : Y'.length = n := by simpa using hy
    have h1 := ih P X' ([x] ++ M) Y' ([y] ++ Q) hx' hy'
    have e1 : P.length + n + ([x] ++ M).length = P.length + (n + 1) + M.length := by simp; omega
    rw [e1] at h1
    have e2 : P ++ (X' ++ [x] ++ (M ++ (Y' ++ [y] ++ Q))) = P ++ (X' ++ ([x] ++ M ++ (Y' ++ ([y] ++ Q)))) := by simp
    rw [swapsL, e2, h1]
    have h2 := swapL_mid (P ++ Y') (M ++ X') Q x y
    have e3 : (P ++ Y').length = P.length + n := by simp [hy']
    have e4 : (P ++ Y').length + 1 + (M ++ X').length = P.length + (n + 1) + M.length + n := by simp [hy', hx']; omega
    rw [e4, e3] at h2
    have e5 : P ++ (Y' ++ ([x] ++ M ++ (X' ++ ([y] ++ Q)))) = P ++ Y' ++ x :: (M ++ X' ++ y :: Q) := by simp
    rw [e5, h2]
    simp

set_option maxRecDepth 100000 in
set_option maxHeartbeats 1000000 in
theorem rotate_any (bb : Nat) (w : World) (g c N : Nat) (P A B Q : List (Nat × Nat)) (fv : Value) (a m b : Nat) (h : OwnP bb w (.slice (some ⟨g, 0, none⟩) N c) (P ++ (A ++ (B ++ Q)))) (hN : (P ++ (A ++ (B ++ Q))).length = N) (hlen : N ≤ 1000000) (hA : A ≠ []) (hB : B ≠ []) (ha : P.length = a) (hm : a + A.length = m) (hb : m + B.length = b) :
    Calls Tryz.prog 202 #[.slice (some ⟨g, 0, none⟩) N c, .int .i64 a, .int .i64 m, .int .i64 b, fv] w fun e w' => e = .returned (.tuple #[]) ∧ OwnP bb w' (.slice (some ⟨g, 0, none⟩) N c) (P ++ (B ++ (A ++ Q))) ∧ Kept (fun i => i = g) w w' := by
  obtain ⟨T, hT⟩ : ∃ T, P ++ (B ++ (A ++ Q)) = T := ⟨_, rfl⟩
  rw [hT]
  have hTl : T.length = N := by rw [← hT, ← hN]; simp; omega
  obtain ⟨i0, hi0⟩ : ∃ i0, (m : Int) - (a : Int) = ((i0 : Nat) : Int) := ⟨A.length, by omega⟩
  obtain ⟨j0, hj0⟩ : ∃ j0, (b : Int) - (m : Int) = ((j0 : Nat) : Int) := ⟨B.length, by omega⟩
  have hmN : m ≤ N := by rw [← hN]; simp; omega
  have hbN : b ≤ N := by rw [← hN]; simp; omega
  have HINI : Hid (a + i0 = m ∧ m + j0 = b ∧ ∃ P' A' B' Q', A'.length = i0 ∧ B'.length = j0 ∧ P'.length + i0 = m ∧ A' ≠ [] ∧ B' ≠ [] ∧ P' ++ (B' ++ (A' ++ Q')) = T ∧ OwnP bb w (.slice (some ⟨g, 0, none⟩) N c) (P' ++ (A' ++ (B' ++ Q')))) :=
    Lib.hid ⟨by omega, by omega, P, A, B, Q, by omega, by omega, by omega, hA, hB, hT, h⟩
  clear h hN hA hB ha hm hb hT
  go_enter Tryz.func202, Tryz.ntmps202
  go_wp2_with fail
  go_loopw [10, 11] (fun iv jv wr => ∃ i j : Nat, iv = .int .i64 i ∧ jv = .int .i64 j ∧ Kept (fun i => i = g) w wr ∧ Hid (∃ P' A' B' Q', A'.length = i ∧ B'.length = j ∧ P'.length + i = m ∧ A' ≠ [] ∧ B' ≠ [] ∧ P' ++ (B' ++ (A' ++ Q')) = T ∧ OwnP bb wr (.slice (some ⟨g, 0, none⟩) N c) (P' ++ (A' ++ (B' ++ Q'))))) (fun iv jv _ => (intOf iv).toNat + (intOf jv).toNat)
  case atStart => exact ⟨i0, j0, rfl, rfl, Kept.refl _ _, Lib.hid HINI.out.2.2⟩
  case round =>
    obtain ⟨i, j, rfl, rfl, hkr, HI⟩ := hrel
    obtain ⟨P', A', B', Q', h1, h2, h3, h4, h5, h6, h7⟩ := HI.out
    have hA0 : 0 < i := by rw [← h1]; exact List.length_pos_iff.2 h4
    have hB0 : 0 < j := by rw [← h2]; exact List.length_pos_iff.2 h5
    have hL : (P' ++ (A' ++ (B' ++ Q'))).length = N := by rw [← hTl, ← h6]; simp; omega
    have hLe : P'.length + i + j ≤ N := by rw [← hL]; simp; omega
    obtain ⟨p, hp⟩ : ∃ p, P'.length = p := ⟨_, rfl⟩
    rw [hp] at h3 hLe
    have hpi : (m : Int) - (i : Int) = (p : Int) := by omega
    rcases Nat.lt_trichotomy i j with hij | hij | hij
    · have hS := swapsL_blocks i P' A' (B'.take (j - i)) (B'.drop (j - i)) Q' h1 (by rw [List.length_drop]; omega)
      obtain ⟨q, hq⟩ : ∃ q, p + i + (j - i) = q := ⟨_, rfl⟩
      rw [hp, show p + i + (B'.take (j - i)).length = q from by rw [List.length_take]; omega] at hS
      have hsp : P' ++ (A' ++ (B' ++ Q')) = P' ++ (A' ++ (B'.take (j - i) ++ (B'.drop (j - i) ++ Q'))) := by rw [← List.append_assoc (B'.take (j - i)), List.take_append_drop]
      rw [← hsp] at hS
      have hsr := swapRange_any bb wr g c (P' ++ (A' ++ (B' ++ Q'))) p q i fv (by rw [hL]; exact h7) (by rw [hL]; exact hlen) (by omega) (by rw [hL]; omega)
      rw [hL] at hsr
      have HSR := Lib.hid hsr
      clear hsr
      rw [hS] at HSR
      have hne1 : ((i : Int) != (j : Int)) = true := by simp; omega
      have hgt : ¬ (j : Int) < (i : Int) := by omega
      have hq1 : (m : Int) + (j : Int) - (i : Int) = (q : Int) := by omega
      clear HI h7
      go_wp2_with fail
      refine HSR.out.mono ?_
      rintro e w2 ⟨rfl, ho2, hk2⟩
      obtain ⟨d, hd⟩ : ∃ d : Nat, (j : Int) - (i : Int) = (d : Int) := ⟨j - i, by omega⟩
      have hdn : d = j - i := by omega
      have HD := Lib.hid hdn
      clear hdn
      go_wp2
      go_roundw
      case rel =>
        have hdn := HD.out
        refine ⟨i, d, rfl, rfl, hkr.trans hk2 (fun _ _ h => h), Lib.hid ⟨P', B'.drop (j - i), B'.take (j - i), A' ++ Q', by rw [List.length_drop]; omega, by rw [List.length_take]; omega, by omega, ?_, ?_, ?_, ?_⟩⟩
        · intro e; have := congrArg List.length e; rw [List.length_drop, List.length_nil] at this; omega
        · intro e; have := congrArg List.length e; rw [List.length_take, List.length_nil] at this; omega
        · rw [← h6, ← List.append_assoc (B'.take (j - i)), List.take_append_drop]
        · exact ho2
      case measure => have hdn := HD.out; simp [intOf]; omega
    · subst hij
      have hS := swapsL_blocks i P' A' [] B' Q' h1 h2
      rw [hp, show p + i + ([] : List (Nat × Nat)).length = m from by simp; omega] at hS
      simp only [List.nil_append] at hS
      have hsr := swapRange_any bb wr g c (P' ++ (A' ++ (B' ++ Q'))) p m i fv (by rw [hL]; exact h7) (by rw [hL]; exact hlen) (by omega) (by rw [hL]; omega)
      rw [hL] at hsr
      have HSR := Lib.hid hsr
      clear hsr
      rw [hS, h6] at HSR
      clear HI h7
      go_wp2_with fail
      refine HSR.out.mono ?_
      rintro e w2 ⟨rfl, ho2, hk2⟩
      go_wp2
      go_end0
      exact ⟨rfl, ho2, hkr.trans hk2 (fun _ _ h => h)⟩
    · have hS := swapsL_blocks j P' (A'.take j) (A'.drop j) B' Q' (by rw [List.length_take]; omega) h2
      rw [hp, show p + j + (A'.drop j).length = m from by rw [List.length_drop]; omega] at hS
      have hsp : P' ++ (A' ++ (B' ++ Q')) = P' ++ (A'.take j ++ (A'.drop j ++ (B' ++ Q'))) := by rw [← List.append_assoc (A'.take j), List.take_append_drop]
      rw [← hsp] at hS
      have hsr := swapRange_any bb wr g c (P' ++ (A' ++ (B' ++ Q'))) p m j fv (by rw [hL]; exact h7) (by rw [hL]; exact hlen) (by omega) (by rw [hL]; omega)
      rw [hL] at hsr
      have HSR := Lib.hid hsr
      clear hsr
      rw [hS] at HSR
      have hne1 : ((i : Int) != (j : Int)) = true := by simp; omega
      have hgt : (j : Int) < (i : Int) := by omega
      clear HI h7
      go_wp2_with fail
      refine HSR.out.mono ?_
      rintro e w2 ⟨rfl, ho2, hk2⟩
      obtain ⟨d, hd⟩ : ∃ d : Nat, (i : Int) - (j : Int) = (d : Int) := ⟨i - j, by omega⟩
      have hdn : d = i - j := by omega
      have HD := Lib.hid hdn
      clear hdn
      go_wp2
      go_roundw
      case rel =>
        have hdn := HD.out
        refine ⟨d, j, rfl, rfl, hkr.trans hk2 (fun _ _ h => h), Lib.hid ⟨P' ++ B', A'.drop j, A'.take j, Q', by rw [List.length_drop]; omega, by rw [List.length_take]; omega, by rw [List.length_append]; omega, ?_, ?_, ?_, ?_⟩⟩
        · intro e; have := congrArg List.length e; rw [List.length_drop, List.length_nil] at this; omega
        · intro e; have := congrArg List.length e; rw [List.length_take, List.length_nil] at this; omega
        · rw [← h6, List.append_assoc, ← List.append_assoc (A'.take j), List.take_append_drop]
        · rw [List.append_assoc]; exact ho2
      case measure => have hdn := HD.out; simp [intOf]; omega
end Go.Proofs.YtemilbemdlpkaaaGreatDoor
