/- Rows of pairs that are written in place: a pair is put, two are swapped; slices.swapRangeCmpFunc at pairs. -/
import Derived.Shelf.RegionOpenPlain
import Derived.Test.YtemilbemdlpkaaaGreatDoorPaw
namespace Go.Proofs.YtemilbemdlpkaaaGreatDoor
open Go.RowKit

theorem flatP_set (l : List (Nat × Nat)) (k : Nat) (p : Nat × Nat) (hk : k < l.length) : flatP (l.set k p) = ((flatP l).set (k * 2) (.int .u64 p.1)).set (k * 2 + 1) (.int .u64 p.2) := by
  induction l generalizing k with
  | nil => simp at hk
  | cons q l ih =>
    cases k with
    | zero => simp [flatP, encP]
    | succ k =>
      have := ih k (by simpa using hk)
      simp only [flatP, List.set_cons_succ, List.flatMap_cons] at this ⊢
      rw [this, List.set_append_right _ _ (by simp [encP]; omega), List.set_append_right _ _ (by simp [encP]; omega)]
      congr 2
      · congr 1
        simp [encP]; omega
      · simp [encP]; omega

/-- A pair is put at a place. -/
def putW (w : World) (g k : Nat) (p : Nat × Nat) : World := (w.setCell ⟨g, k * 2, none⟩ (.int .u64 (p.1 : Int))).setCell ⟨g, k * 2 + 1, none⟩ (.int .u64 (p.2 : Int))
theorem OwnP.put {b : Nat} {w : World} {g n c : Nat} {l : List (Nat × Nat)} (h : OwnP b w (.slice (some ⟨g, 0, .none⟩) n c) l) {k : Nat} (hk : k < l.length) (p : Nat × Nat) : OwnP b (putW w g k p) (.slice (some ⟨g, 0, .none⟩) n c) (l.set k p) := by
  obtain ⟨h1, h2⟩ := h
  refine ⟨by simp [flatP_length], ?_⟩
  rcases h2 with ⟨e, h0⟩ | ⟨g', c', cur, e, hb, hg, hn, hm, hs, ht⟩
  · cases e
  · cases e
    refine .inr ⟨g, c, (cur.setIfInBounds (k * 2) (.int .u64 (p.1 : Int))).setIfInBounds (k * 2 + 1) (.int .u64 (p.2 : Int)), by simp, hb, heap_setCell_row (o := k * 2 + 1) (heap_setCell_row (o := k * 2) hg _) _, by simpa using hn, hm, by simpa using hs, ?_⟩
    simp only [Array.toList_setIfInBounds, List.length_set]
    rw [List.take_set, List.take_set, ht, flatP_set l k p hk]
theorem putW_size (w : World) (g k : Nat) (p : Nat × Nat) : (putW w g k p).heap.size = w.heap.size := by simp [putW]
theorem putW_kept (w : World) (g k : Nat) (p : Nat × Nat) : Kept (fun i => i = g) w (putW w g k p) :=
  (((Kept.refl (fun i => i = g) w).setCell (p := ⟨g, k * 2, none⟩) (fun _ => rfl) _).setCell (p := ⟨g, k * 2 + 1, none⟩) (fun _ => rfl) _)
theorem OwnP.fz {b : Nat} {w : World} {g n c : Nat} {l : List (Nat × Nat)} (h : OwnP b w (.slice (some ⟨g, 0, .none⟩) n c) l) (i : Nat) : w.frozen? ⟨g, i, .none⟩ = false := by
  rcases h.2 with ⟨e, -⟩ | ⟨g', c', cur, e, hb, hg, -⟩
  · cases e
  · cases e; simp [World.frozen?, hg]
theorem OwnP.pair {b : Nat} {w : World} {g n c : Nat} {l : List (Nat × Nat)} (h : OwnP b w (.slice (some ⟨g, 0, .none⟩) n c) l) {k : Nat} (hk : k < l.length) : w.cell? ⟨g, k * 2, .none⟩ = some (.int .u64 l[k].1) ∧ w.cell? ⟨g, k * 2 + 1, .none⟩ = some (.int .u64 l[k].2) := by
  obtain ⟨g', e, -, -, hc⟩ := h.at (fun e => by rw [e] at hk; simp at hk)
  cases e
  exact ⟨hc _ _ (flatP_get l k hk).1, hc _ _ (flatP_get l k hk).2⟩

/-- Two places change. -/
def swapL (l : List (Nat × Nat)) (i j : Nat) : List (Nat × Nat) := match l[i]?, l[j]? with | some p, some q => (l.set i q).set j p | _, _ => l
def swapsL (a b : Nat) : Nat → List (Nat × Nat) → List (Nat × Nat)
  | 0, l => l
  | n + 1, l => swapL (swapsL a b n l) (a + n) (b + n)
theorem swapL_length (l : List (Nat × Nat)) (i j : Nat) : (swapL l i j).length = l.length := by unfold swapL; split <;> simp
theorem swapsL_length (a b n : Nat) (l : List (Nat × Nat)) : (swapsL a b n l).length = l.length := by
  induction n with
  | zero => rfl
  | succ n ih => rw [swapsL, swapL_length, ih]

theorem swapL_of {l : List (Nat × Nat)} {i j : Nat} (hi : i < l.length) (hj : j < l.length) : swapL l i j = (l.set i l[j]).set j l[i] := by
  unfold swapL
  rw [List.getElem?_eq_getElem hi, List.getElem?_eq_getElem hj]


set_option maxRecDepth 100000 in
set_option maxHeartbeats 1000000 in
theorem swapRange_any (bb : Nat) (w : World) (g c : Nat) (l : List (Nat × Nat)) (a b n : Nat) (fv : Value) (h : OwnP bb w (.slice (some ⟨g, 0, none⟩) l.length c) l) (hlen : l.length ≤ 1000000) (ha : a + n ≤ b) (hb : b + n ≤ l.length) :
    Calls Tryz.prog 208 #[.slice (some ⟨g, 0, none⟩) l.length c, .int .i64 a, .int .i64 b, .int .i64 n, fv] w fun e w' => e = .returned (.tuple #[]) ∧ OwnP bb w' (.slice (some ⟨g, 0, none⟩) l.length c) (swapsL a b n l) ∧ Kept (fun i => i = g) w w' := by
  go_enter Tryz.func208, Tryz.ntmps208
  go_wp2_with fail
  go_loopw [10] (fun i wr => ∃ k : Nat, k ≤ n ∧ i = .int .i64 k ∧ OwnP bb wr (.slice (some ⟨g, 0, none⟩) l.length c) (swapsL a b k l) ∧ Kept (fun i => i = g) w wr) (fun i _ => n - (intOf i).toNat)
  case atStart => exact ⟨0, Nat.zero_le _, rfl, h, Kept.refl _ _⟩
  case round =>
    obtain ⟨k, hk, rfl, hown, hkr⟩ := hrel
    have hL := swapsL_length a b k l
    by_cases hlt : k < n
    · have hN : Hid (swapsL a b (k + 1) l = swapL (swapsL a b k l) (a + k) (b + k)) := Lib.hid rfl
      generalize swapsL a b k l = m at *
      obtain ⟨x, hx⟩ : ∃ x, a + k = x := ⟨_, rfl⟩
      obtain ⟨y, hy⟩ : ∃ y, b + k = y := ⟨_, rfl⟩
      rw [hx, hy] at hN
      have hx2 : (a : Int) + (k : Int) = (x : Int) := by omega
      have hy2 : (b : Int) + (k : Int) = (y : Int) := by omega
      have hxy : x < y := by omega
      have hym : y < m.length := by omega
      have hyl : y < l.length := by omega
      have hxl : x < l.length := by omega
      have HL := Lib.hid hL
      obtain ⟨⟨pf, pt⟩, hpe⟩ : ∃ p, m[x] = p := ⟨_, rfl⟩
      obtain ⟨⟨qf, qt⟩, hqe⟩ : ∃ q, m[y] = q := ⟨_, rfl⟩
      have hsw := swapL_of (l := m) (i := x) (j := y) (by omega) (by omega)
      rw [hpe, hqe] at hsw
      obtain ⟨e0, e1⟩ := (hown).pair (k := x) (by omega)
      obtain ⟨e2, e3⟩ := (hown).pair (k := y) (by omega)
      rw [hpe] at e0 e1
      rw [hqe] at e2 e3
      simp only at e0 e1 e2 e3
      have hput1 := (hown).put (k := x) (by omega) (qf, qt)
      have hput2 := hput1.put (k := y) (by simp only [List.length_set]; omega) (pf, pt)
      rw [← hsw] at hput2
      have hfz := (hown).fz
      have hkput := (putW_kept wr g x (qf, qt)).trans (putW_kept (putW wr g x (qf, qt)) g y (pf, pt)) (fun _ _ h => h)
      have n1 : ¬ x * 2 = y * 2 := by omega
      have n2 : ¬ x * 2 = y * 2 + 1 := by omega
      have n3 : ¬ x * 2 + 1 = y * 2 := by omega
      have n4 : ¬ y * 2 = x * 2 := by omega
      have n5 : ¬ y * 2 + 1 = x * 2 := by omega
      have n6 : ¬ y * 2 = x * 2 + 1 := by omega
      clear hpe hqe hsw hput1
      clear hL hx hy
      go_wp2_with fail
      have hmx : Tryz.prog.follows .mixedOrders = true := by kernel_rfl
      go_big_region_o
      all_goals go_wp2
      go_roundw
      case rel =>
        refine ⟨k + 1, hlt, by go_num, ?_, ?_⟩
        · rw [hN.out]
          exact hput2.kept (F := fun _ => False) ((Kept.refl _ _).drew) (fun _ f => f.elim)
        · exact (hkr.trans hkput (fun _ _ h => h)).drew
      case measure => simp [intOf]; omega
    · obtain rfl : k = n := by omega
      go_wp2
      go_end0
      exact ⟨rfl, hown, hkr⟩
end Go.Proofs.YtemilbemdlpkaaaGreatDoor

/- slices.rotateCmpFunc at pairs. -/
namespace Go.Proofs.YtemilbemdlpkaaaGreatDoor
open Go.RowKit

theorem swapL_mid (P M Q : List (Nat × Nat)) (x y : Nat × Nat) : swapL (P ++ x :: (M ++ y :: Q)) P.length (P.length + 1 + M.length) = P ++ y :: (M ++ x :: Q) := by
  rw [swapL_of (by simp) (by simp; omega)]
  have e1 : (P ++ x :: (M ++ y :: Q))[P.length]'(by simp) = x := by simp
  have e2 : (P ++ x :: (M ++ y :: Q))[P.length + 1 + M.length]'(by simp; omega) = y := by
    rw [List.getElem_append_right (by omega)]
    simp only [show P.length + 1 + M.length - P.length = M.length + 1 from by omega, List.getElem_cons_succ]
    simp
  rw [e1, e2, List.set_append_right _ _ (by omega), Nat.sub_self, List.set_cons_zero, List.set_append_right _ _ (by omega), show P.length + 1 + M.length - P.length = M.length + 1 from by omega, List.set_cons_succ, List.set_append_right _ _ (by omega), Nat.sub_self, List.set_cons_zero]
theorem swapsL_blocks (n : Nat) : ∀ (P X M Y Q : List (Nat × Nat)), X.length = n → Y.length = n → swapsL P.length (P.length + n + M.length) n (P ++ (X ++ (M ++ (Y ++ Q)))) = P ++ (Y ++ (M ++ (X ++ Q))) := by
  induction n with
  | zero =>
    intro P X M Y Q hx hy
    obtain rfl := List.length_eq_zero_iff.1 hx
    obtain rfl := List.length_eq_zero_iff.1 hy
    rfl
  | succ n ih =>
    intro P X M Y Q hx hy
    obtain ⟨X', x, rfl⟩ : ∃ X' x, X = X' ++ [x] := ⟨X.dropLast, X.getLast (by intro e; rw [e] at hx; simp at hx), (List.dropLast_concat_getLast _).symm⟩
    obtain ⟨Y', y, rfl⟩ : ∃ Y' y, Y = Y' ++ [y] := ⟨Y.dropLast, Y.getLast (by intro e; rw [e] at hy; simp at hy), (List.dropLast_concat_getLast _).symm⟩
    have hx' : X'.length = n := by simpa using hx
    have hy' : Y'.length = n := by simpa using hy
    have h1 := ih P X' ([x] ++ M) Y' ([y] ++ Q) hx' hy'
    have e1 : P.length + n + ([x] ++ M).length = P.length + (n + 1) + M.length := by simp; omega
    rw [e1] at h1
    have e2 : P ++ (X' ++ [x] ++ (M ++ (Y' ++ [y] ++ Q))) = P ++ (X' ++ ([x] ++ M ++ (Y' ++ ([y] ++ Q)))) := by simp
    rw [swapsL, e2, h1]
    have h2 := swapL_mid (P ++ Y') (M ++ X') Q x y
    have e3 : (P ++ Y').length = P.length + n := by simp [hy']
    have e4 : (P ++ Y').length + 1 + (M ++ X').length = P.length + (n + 1) + M.length + n := by simp [hy', hx']; omega
    rw [e4, e3] at h2
    have e5 : P ++ (Y' ++ ([x] ++ M ++ (X' ++ ([y] ++ Q)))) = P ++ Y' ++ x :: (M ++ X' ++ y :: Q) := by simp
    rw [e5, h2]
    simp

set_option maxRecDepth 100000 in
set_option maxHeartbeats 1000000 in
theorem rotate_any (bb : Nat) (w : World) (g c N : Nat) (P A B Q : List (Nat × Nat)) (fv : Value) (a m b : Nat) (h : OwnP bb w (.slice (some ⟨g, 0, none⟩) N c) (P ++ (A ++ (B ++ Q)))) (hN : (P ++ (A ++ (B ++ Q))).length = N) (hlen : N ≤ 1000000) (hA : A ≠ []) (hB : B ≠ []) (ha : P.length = a) (hm : a + A.length = m) (hb : m + B.length = b) :
    Calls Tryz.prog 202 #[.slice (some ⟨g, 0, none⟩) N c, .int .i64 a, .int .i64 m, .int .i64 b, fv] w fun e w' => e = .returned (.tuple #[]) ∧ OwnP bb w' (.slice (some ⟨g, 0, none⟩) N c) (P ++ (B ++ (A ++ Q))) ∧ Kept (fun i => i = g) w w' := by
  obtain ⟨T, hT⟩ : ∃ T, P ++ (B ++ (A ++ Q)) = T := ⟨_, rfl⟩
  rw [hT]
  have hTl : T.length = N := by rw [← hT, ← hN]; simp; omega
  obtain ⟨i0, hi0⟩ : ∃ i0, (m : Int) - (a : Int) = ((i0 : Nat) : Int) := ⟨A.length, by omega⟩
  obtain ⟨j0, hj0⟩ : ∃ j0, (b : Int) - (m : Int) = ((j0 : Nat) : Int) := ⟨B.length, by omega⟩
  have hmN : m ≤ N := by rw [← hN]; simp; omega
  have hbN : b ≤ N := by rw [← hN]; simp; omega
  have HINI : Hid (a + i0 = m ∧ m + j0 = b ∧ ∃ P' A' B' Q', A'.length = i0 ∧ B'.length = j0 ∧ P'.length + i0 = m ∧ A' ≠ [] ∧ B' ≠ [] ∧ P' ++ (B' ++ (A' ++ Q')) = T ∧ OwnP bb w (.slice (some ⟨g, 0, none⟩) N c) (P' ++ (A' ++ (B' ++ Q')))) :=
    Lib.hid ⟨by omega, by omega, P, A, B, Q, by omega, by omega, by omega, hA, hB, hT, h⟩
  clear h hN hA hB ha hm hb hT
  go_enter Tryz.func202, Tryz.ntmps202
  go_wp2_with fail
  go_loopw [10, 11] (fun iv jv wr => ∃ i j : Nat, iv = .int .i64 i ∧ jv = .int .i64 j ∧ Kept (fun i => i = g) w wr ∧ Hid (∃ P' A' B' Q', A'.length = i ∧ B'.length = j ∧ P'.length + i = m ∧ A' ≠ [] ∧ B' ≠ [] ∧ P' ++ (B' ++ (A' ++ Q')) = T ∧ OwnP bb wr (.slice (some ⟨g, 0, none⟩) N c) (P' ++ (A' ++ (B' ++ Q'))))) (fun iv jv _ => (intOf iv).toNat + (intOf jv).toNat)
  case atStart => exact ⟨i0, j0, rfl, rfl, Kept.refl _ _, Lib.hid HINI.out.2.2⟩
  case round =>
    obtain ⟨i, j, rfl, rfl, hkr, HI⟩ := hrel
    obtain ⟨P', A', B', Q', h1, h2, h3, h4, h5, h6, h7⟩ := HI.out
    have hA0 : 0 < i := by rw [← h1]; exact List.length_pos_iff.2 h4
    have hB0 : 0 < j := by rw [← h2]; exact List.length_pos_iff.2 h5
    have hL : (P' ++ (A' ++ (B' ++ Q'))).length = N := by rw [← hTl, ← h6]; simp; omega
    have hLe : P'.length + i + j ≤ N := by rw [← hL]; simp; omega
    obtain ⟨p, hp⟩ : ∃ p, P'.length = p := ⟨_, rfl⟩
    rw [hp] at h3 hLe
    have hpi : (m : Int) - (i : Int) = (p : Int) := by omega
    rcases Nat.lt_trichotomy i j with hij | hij | hij
    · have hS := swapsL_blocks i P' A' (B'.take (j - i)) (B'.drop (j - i)) Q' h1 (by rw [List.length_drop]; omega)
      obtain ⟨q, hq⟩ : ∃ q, p + i + (j - i) = q := ⟨_, rfl⟩
      rw [hp, show p + i + (B'.take (j - i)).length = q from by rw [List.length_take]; omega] at hS
      have hsp : P' ++ (A' ++ (B' ++ Q')) = P' ++ (A' ++ (B'.take (j - i) ++ (B'.drop (j - i) ++ Q'))) := by rw [← List.append_assoc (B'.take (j - i)), List.take_append_drop]
      rw [← hsp] at hS
      have hsr := swapRange_any bb wr g c (P' ++ (A' ++ (B' ++ Q'))) p q i fv (by rw [hL]; exact h7) (by rw [hL]; exact hlen) (by omega) (by rw [hL]; omega)
      rw [hL] at hsr
      have HSR := Lib.hid hsr
      clear hsr
      rw [hS] at HSR
      have hne1 : ((i : Int) != (j : Int)) = true := by simp; omega
      have hgt : ¬ (j : Int) < (i : Int) := by omega
      have hq1 : (m : Int) + (j : Int) - (i : Int) = (q : Int) := by omega
      clear HI h7
      go_wp2_with fail
      refine HSR.out.mono ?_
      rintro e w2 ⟨rfl, ho2, hk2⟩
      obtain ⟨d, hd⟩ : ∃ d : Nat, (j : Int) - (i : Int) = (d : Int) := ⟨j - i, by omega⟩
      have hdn : d = j - i := by omega
      have HD := Lib.hid hdn
      clear hdn
      go_wp2
      go_roundw
      case rel =>
        have hdn := HD.out
        refine ⟨i, d, rfl, rfl, hkr.trans hk2 (fun _ _ h => h), Lib.hid ⟨P', B'.drop (j - i), B'.take (j - i), A' ++ Q', by rw [List.length_drop]; omega, by rw [List.length_take]; omega, by omega, ?_, ?_, ?_, ?_⟩⟩
        · intro e; have := congrArg List.length e; rw [List.length_drop, List.length_nil] at this; omega
        · intro e; have := congrArg List.length e; rw [List.length_take, List.length_nil] at this; omega
        · rw [← h6, ← List.append_assoc (B'.take (j - i)), List.take_append_drop]
        · exact ho2
      case measure => have hdn := HD.out; simp [intOf]; omega
    · subst hij
      have hS := swapsL_blocks i P' A' [] B' Q' h1 h2
      rw [hp, show p + i + ([] : List (Nat × Nat)).length = m from by simp; omega] at hS
      simp only [List.nil_append] at hS
      have hsr := swapRange_any bb wr g c (P' ++ (A' ++ (B' ++ Q'))) p m i fv (by rw [hL]; exact h7) (by rw [hL]; exact hlen) (by omega) (by rw [hL]; omega)
      rw [hL] at hsr
      have HSR := Lib.hid hsr
      clear hsr
      rw [hS, h6] at HSR
      clear HI h7
      go_wp2_with fail
      refine HSR.out.mono ?_
      rintro e w2 ⟨rfl, ho2, hk2⟩
      go_wp2
      go_end0
      exact ⟨rfl, ho2, hkr.trans hk2 (fun _ _ h => h)⟩
    · have hS := swapsL_blocks j P' (A'.take j) (A'.drop j) B' Q' (by rw [List.length_take]; omega) h2
      rw [hp, show p + j + (A'.drop j).length = m from by rw [List.length_drop]; omega] at hS
      have hsp : P' ++ (A' ++ (B' ++ Q')) = P' ++ (A'.take j ++ (A'.drop j ++ (B' ++ Q'))) := by rw [← List.append_assoc (A'.take j), List.take_append_drop]
      rw [← hsp] at hS
      have hsr := swapRange_any bb wr g c (P' ++ (A' ++ (B' ++ Q'))) p m j fv (by rw [hL]; exact h7) (by rw [hL]; exact hlen) (by omega) (by rw [hL]; omega)
      rw [hL] at hsr
      have HSR := Lib.hid hsr
      clear hsr
      rw [hS] at HSR
      have hne1 : ((i : Int) != (j : Int)) = true := by simp; omega
      have hgt : (j : Int) < (i : Int) := by omega
      clear HI h7
      go_wp2_with fail
      refine HSR.out.mono ?_
      rintro e w2 ⟨rfl, ho2, hk2⟩
      obtain ⟨d, hd⟩ : ∃ d : Nat, (i : Int) - (j : Int) = (d : Int) := ⟨i - j, by omega⟩
      have hdn : d = i - j := by omega
      have HD := Lib.hid hdn
      clear hdn
      go_wp2
      go_roundw
      case rel =>
        have hdn := HD.out
        refine ⟨d, j, rfl, rfl, hkr.trans hk2 (fun _ _ h => h), Lib.hid ⟨P' ++ B', A'.drop j, A'.take j, Q', by rw [List.length_drop]; omega, by rw [List.length_take]; omega, by rw [List.length_append]; omega, ?_, ?_, ?_, ?_⟩⟩
        · intro e; have := congrArg List.length e; rw [List.length_drop, List.length_nil] at this; omega
        · intro e; have := congrArg List.length e; rw [List.length_take, List.length_nil] at this; omega
        · rw [← h6, List.append_assoc, ← List.append_assoc (A'.take j), List.take_append_drop]
        · rw [List.append_assoc]; exact ho2
      case measure => have hdn := HD.out; simp [intOf]; omega
end Go.Proofs.YtemilbemdlpkaaaGreatDoor

/- A stable merge of pairs: the plain law. -/
namespace Go.Proofs.YtemilbemdlpkaaaGreatDoor

def leP (x y : Nat × Nat) : Prop := x.1 ≤ y.1
/-- C is X, sorted, alike keys in their order. -/
structure StP (X C : List (Nat × Nat)) : Prop where
  sorted : C.Pairwise leP
  keep : ∀ k, C.filter (fun p => decide (p.1 = k)) = X.filter (fun p => decide (p.1 = k))
  len : C.length = X.length
theorem StP.mem {X C : List (Nat × Nat)} (h : StP X C) (p : Nat × Nat) : p ∈ C ↔ p ∈ X := by
  have h1 : p ∈ C.filter (fun q => decide (q.1 = p.1)) ↔ p ∈ X.filter (fun q => decide (q.1 = p.1)) := by rw [h.keep]
  simpa using h1
theorem StP.refl {X : List (Nat × Nat)} (h : X.Pairwise leP) : StP X X := ⟨h, fun _ => rfl, rfl⟩
theorem StP.of_perm_keep {X Y C : List (Nat × Nat)} (h : StP Y C) (hk : ∀ k, Y.filter (fun p => decide (p.1 = k)) = X.filter (fun p => decide (p.1 = k))) (hl : Y.length = X.length) : StP X C := ⟨h.sorted, fun k => (h.keep k).trans (hk k), h.len.trans hl⟩
theorem filter_nil {l : List (Nat × Nat)} {k : Nat} (h : ∀ p ∈ l, p.1 ≠ k) : l.filter (fun p => decide (p.1 = k)) = [] := by
  rw [List.filter_eq_nil_iff]
  intro p hp
  simpa using h p hp

/-- Two halves that are merged. -/
theorem StP.halves {A1 A2 B1 B2 C1 C2 : List (Nat × Nat)} (h1 : StP (A1 ++ B1) C1) (h2 : StP (A2 ++ B2) C2) (hA : (A1 ++ A2).Pairwise leP) (hB : (B1 ++ B2).Pairwise leP) (hab : ∀ p ∈ A1, ∀ q ∈ B2, p.1 ≤ q.1) (hba : ∀ p ∈ B1, ∀ q ∈ A2, p.1 < q.1) : StP (A1 ++ A2 ++ (B1 ++ B2)) (C1 ++ C2) := by
  have hA' := List.pairwise_append.1 hA
  have hB' := List.pairwise_append.1 hB
  refine ⟨?_, fun k => ?_, ?_⟩
  · rw [List.pairwise_append]
    refine ⟨h1.sorted, h2.sorted, fun p hp q hq => ?_⟩
    have hp' := (h1.mem p).1 hp
    have hq' := (h2.mem q).1 hq
    rcases List.mem_append.1 hp' with hp' | hp' <;> rcases List.mem_append.1 hq' with hq' | hq'
    · exact hA'.2.2 p hp' q hq'
    · exact hab p hp' q hq'
    · exact Nat.le_of_lt (hba p hp' q hq')
    · exact hB'.2.2 p hp' q hq'
  · rw [List.filter_append, h1.keep, h2.keep]
    simp only [List.filter_append, List.append_assoc]
    by_cases hb : ∀ p ∈ B1, p.1 ≠ k
    · rw [filter_nil hb]; simp
    · have ha : ∀ q ∈ A2, q.1 ≠ k := by
        intro q hq e
        apply hb
        intro p hp e2
        have := hba p hp q hq
        omega
      rw [filter_nil ha]; simp
  · simp only [List.length_append, h1.len, h2.len]; omega
/-- One before many. -/
theorem StP.one_left {x : Nat × Nat} {B1 B2 : List (Nat × Nat)} (hB : (B1 ++ B2).Pairwise leP) (h1 : ∀ p ∈ B1, p.1 < x.1) (h2 : ∀ p ∈ B2, x.1 ≤ p.1) : StP (x :: (B1 ++ B2)) (B1 ++ x :: B2) := by
  have := StP.halves (A1 := []) (A2 := [x]) (B1 := B1) (B2 := B2) (C1 := B1) (C2 := x :: B2) (StP.refl (List.pairwise_append.1 hB).1) (StP.refl (List.pairwise_cons.2 ⟨fun p hp => h2 p hp, (List.pairwise_append.1 hB).2.1⟩)) (by simp) hB (fun p hp => by simp at hp) (fun p hp q hq => by rw [List.mem_singleton.1 hq]; exact h1 p hp)
  simpa using this
/-- One behind many. -/
theorem StP.one_right {x : Nat × Nat} {A1 A2 : List (Nat × Nat)} (hA : (A1 ++ A2).Pairwise leP) (h1 : ∀ p ∈ A1, p.1 ≤ x.1) (h2 : ∀ p ∈ A2, x.1 < p.1) : StP (A1 ++ A2 ++ [x]) (A1 ++ x :: A2) := by
  have hA' := List.pairwise_append.1 hA
  have := StP.halves (A1 := A1) (A2 := A2) (B1 := [x]) (B2 := []) (C1 := A1 ++ [x]) (C2 := A2) (StP.refl (by
    rw [List.pairwise_append]
    exact ⟨hA'.1, by simp, fun p hp q hq => by rw [List.mem_singleton.1 hq]; exact h1 p hp⟩)) (by simpa using StP.refl hA'.2.1) hA (by simp) (fun p hp q hq => by simp at hq) (fun p hp q hq => by rw [List.mem_singleton.1 hp]; exact h2 q hq)
  simpa using this
/-- A part of a stable sort that is sorted on. -/
theorem StP.trans {X Y C : List (Nat × Nat)} (h : StP Y C) (k : ∀ k, Y.filter (fun p => decide (p.1 = k)) = X.filter (fun p => decide (p.1 = k))) (hl : Y.length = X.length) : StP X C := h.of_perm_keep k hl

/-- A number of places below which a test says no: binary search's law. -/
theorem below_mono {l : List (Nat × Nat)} (h : l.Pairwise leP) {i j : Nat} (hi : i ≤ j) (hj : j < l.length) : (l[i]'(by omega)).1 ≤ l[j].1 := by
  rcases Nat.lt_or_ge i j with hlt | hge
  · exact List.pairwise_iff_getElem.1 h i j (by omega) hj hlt
  · obtain rfl : i = j := by omega
    exact Nat.le_refl _
theorem sorted_le {l : List (Nat × Nat)} (h : l.Pairwise leP) {i j : Nat} (hij : i ≤ j) (hj : j < l.length) : (l[i]'(by omega)).1 ≤ l[j].1 := by
  rcases Nat.lt_or_ge i j with h1 | h1
  · exact (List.pairwise_iff_getElem.1 h) i j (by omega) hj h1
  · obtain rfl : i = j := by omega
    exact Nat.le_refl _
end Go.Proofs.YtemilbemdlpkaaaGreatDoor

/- Blocks of pairs that are sorted: plain law. -/
namespace Go.Proofs.YtemilbemdlpkaaaGreatDoor

theorem split3 (C : List (Nat × Nat)) (a t : Nat) (h : a + t ≤ C.length) : ∃ P A Q, C = P ++ (A ++ Q) ∧ P.length = a ∧ A.length = t :=
  ⟨C.take a, (C.drop a).take t, (C.drop a).drop t, by rw [List.take_append_drop, List.take_append_drop], by rw [List.length_take]; omega, by rw [List.length_take, List.length_drop]; omega⟩
theorem split4 (C : List (Nat × Nat)) (a t u : Nat) (h : a + t + u ≤ C.length) : ∃ P A B Q, C = P ++ (A ++ (B ++ Q)) ∧ P.length = a ∧ A.length = t ∧ B.length = u := by
  obtain ⟨P, A, R, rfl, h1, h2⟩ := split3 C a t (by omega)
  simp only [List.length_append] at h
  obtain ⟨P', B, Q, rfl, h3, h4⟩ := split3 R 0 u (by omega)
  obtain rfl := List.length_eq_zero_iff.1 h3
  exact ⟨P, A, B, Q, rfl, h1, h2, h4⟩

/-- C has X's pairs, alike keys in their order. -/
structure KeepP (X C : List (Nat × Nat)) : Prop where
  keep : ∀ k, C.filter (fun p => decide (p.1 = k)) = X.filter (fun p => decide (p.1 = k))
  len : C.length = X.length
theorem KeepP.upd {X P A Q C : List (Nat × Nat)} (h : KeepP X (P ++ (A ++ Q))) (hs : StP A C) : KeepP X (P ++ (C ++ Q)) :=
  ⟨fun k => by rw [← h.keep k]; simp only [List.filter_append, hs.keep], by rw [← h.len]; simp only [List.length_append, hs.len]⟩

/-- The blocks of s below u are sorted. -/
def SBu (s u : Nat) (C : List (Nat × Nat)) : Prop := ∀ i j (x y : Nat × Nat), C[i]? = some x → C[j]? = some y → i < j → j < u → i / s = j / s → x.1 ≤ y.1
theorem SBu.none (s : Nat) (C : List (Nat × Nat)) : SBu s 0 C := fun _ _ _ _ _ _ _ h => absurd h (Nat.not_lt_zero _)
theorem div_sep {s q i j : Nat} (hi : i < s * q) (hj : s * q ≤ j) (hs : 0 < s) : i / s ≠ j / s := by
  have h1 : i / s < q := Nat.div_lt_of_lt_mul hi
  have h2 : q ≤ j / s := (Nat.le_div_iff_mul_le hs).2 (by rw [Nat.mul_comm]; exact hj)
  omega
theorem SBu.upd {s u u' q : Nat} {P A Q C : List (Nat × Nat)} (h : SBu s u (P ++ (A ++ Q))) (hs : 0 < s) (hC : C.Pairwise leP) (hl : C.length = A.length) (ha : P.length = s * q) (hu : P.length ≤ u) (hu' : u' ≤ P.length + A.length ∨ (∃ q', P.length + A.length = s * q') ∧ u' ≤ u) : SBu s u' (P ++ (C ++ Q)) := by
  intro i j x y hx hy hij hj hd
  rcases Nat.lt_or_ge j P.length with h1 | h1
  · rw [List.getElem?_append_left (by omega)] at hx hy
    exact h i j x y (by rw [List.getElem?_append_left (by omega)]; exact hx) (by rw [List.getElem?_append_left (by omega)]; exact hy) hij (by omega) hd
  · rcases Nat.lt_or_ge i P.length with h2 | h2
    · exact absurd hd (div_sep (q := q) (by omega) (by omega) hs)
    · rw [List.getElem?_append_right (by omega)] at hx hy
      rcases Nat.lt_or_ge j (P.length + A.length) with h3 | h3
      · rw [List.getElem?_append_left (by omega)] at hx hy
        obtain ⟨k1, e1⟩ := List.getElem?_eq_some_iff.1 hx
        obtain ⟨k2, e2⟩ := List.getElem?_eq_some_iff.1 hy
        have := sorted_le hC (show i - P.length ≤ j - P.length by omega) k2
        rw [e1, e2] at this
        exact this
      · rcases hu' with h4 | ⟨⟨q', h4⟩, h5⟩
        · omega
        · rcases Nat.lt_or_ge i (P.length + A.length) with h6 | h6
          · exact absurd hd (div_sep (q := q') (by omega) (by omega) hs)
          · rw [List.getElem?_append_right (by omega)] at hx hy
            refine h i j x y ?_ ?_ hij (by omega) hd
            · rw [List.getElem?_append_right (by omega), List.getElem?_append_right (by omega), ← hl]; exact hx
            · rw [List.getElem?_append_right (by omega), List.getElem?_append_right (by omega), ← hl]; exact hy
theorem SBu.sorted {s u q : Nat} {P A Q : List (Nat × Nat)} (h : SBu s u (P ++ (A ++ Q))) (hs : 0 < s) (ha : P.length = s * q) (hl : A.length ≤ s) (hu : P.length + A.length ≤ u) : A.Pairwise leP := by
  rw [List.pairwise_iff_getElem]
  intro i j hi hj hij
  refine h (P.length + i) (P.length + j) A[i] A[j] ?_ ?_ (by omega) (by omega) ?_
  · rw [List.getElem?_append_right (by omega), show P.length + i - P.length = i from by omega, List.getElem?_append_left hi, List.getElem?_eq_getElem hi]
  · rw [List.getElem?_append_right (by omega), show P.length + j - P.length = j from by omega, List.getElem?_append_left hj, List.getElem?_eq_getElem hj]
  · rw [ha, Nat.mul_add_div hs, Nat.mul_add_div hs, Nat.div_eq_of_lt (by omega), Nat.div_eq_of_lt (by omega)]
/-- The last block is no longer than a half. -/
theorem SBu.tail {s a q : Nat} {C : List (Nat × Nat)} (h2 : SBu (2 * s) a C) (h1 : SBu s C.length C) (hs : 0 < s) (ha : a = 2 * s * q) (hn : C.length ≤ a + s) : SBu (2 * s) C.length C := by
  intro i j x y hx hy hij hj hd
  rcases Nat.lt_or_ge j a with h3 | h3
  · exact h2 i j x y hx hy hij h3 hd
  · rcases Nat.lt_or_ge i a with h4 | h4
    · exact absurd hd (div_sep (q := q) (by omega) (by omega) (by omega))
    · refine h1 i j x y hx hy hij hj ?_
      have e : 2 * s * q = s * (2 * q) := by rw [Nat.mul_comm 2 s, Nat.mul_assoc]
      obtain ⟨i', rfl⟩ : ∃ i', i = s * (2 * q) + i' := ⟨i - s * (2 * q), by omega⟩
      obtain ⟨j', rfl⟩ : ∃ j', j = s * (2 * q) + j' := ⟨j - s * (2 * q), by omega⟩
      rw [Nat.mul_add_div hs, Nat.mul_add_div hs, Nat.div_eq_of_lt (by omega), Nat.div_eq_of_lt (by omega)]
theorem SBu.all {s : Nat} {C : List (Nat × Nat)} (h : SBu s C.length C) (hs : C.length ≤ s) : C.Pairwise leP := by
  rw [List.pairwise_iff_getElem]
  intro i j hi hj hij
  exact h i j C[i] C[j] (List.getElem?_eq_getElem hi) (List.getElem?_eq_getElem hj) hij hj (by rw [Nat.div_eq_of_lt (by omega), Nat.div_eq_of_lt (by omega)])
end Go.Proofs.YtemilbemdlpkaaaGreatDoor
