/- slices.symMergeCmpFunc at pairs. -/
import Derived.Shelf.SlSortCmp.QuietGrown
import Derived.Test.YtemilbemdlpkaaaGreatDoorPax
namespace Go.Proofs.YtemilbemdlpkaaaGreatDoor
open Go.RowKit

theorem cmpP_neg (x y : Nat × Nat) : (cmpP x y < 0 ↔ x.1 < y.1) := by
  unfold cmpP
  by_cases h1 : x.1 < y.1
  · simp [h1]
  · by_cases h2 : y.1 < x.1 <;> simp [h1, h2]
theorem cmpAt {bb : Nat} {w : World} {g n c : Nat} {l : List (Nat × Nat)} (h : OwnP bb w (.slice (some ⟨g, 0, .none⟩) n c) l) {x y : Nat} (hx : x < l.length) (hy : y < l.length) :
    ∃ pf pt qf qt r, l[x] = (pf, pt) ∧ l[y] = (qf, qt) ∧ (∀ m os, (Sort.grow (w.drewN m) os).cell? ⟨g, x * 2, .none⟩ = some (.int .u64 (pf : Nat))) ∧ (∀ m os, (Sort.grow (w.drewN m) os).cell? ⟨g, x * 2 + 1, .none⟩ = some (.int .u64 (pt : Nat))) ∧ (∀ m os, (Sort.grow (w.drewN m) os).cell? ⟨g, y * 2, .none⟩ = some (.int .u64 (qf : Nat))) ∧ (∀ m os, (Sort.grow (w.drewN m) os).cell? ⟨g, y * 2 + 1, .none⟩ = some (.int .u64 (qt : Nat))) ∧ (r < 0 ↔ pf < qf) ∧
      Hid (∀ W, Calls Tryz.prog 38 #[.agg #[.int .u64 pf, .int .u64 pt], .agg #[.int .u64 qf, .int .u64 qt]] W fun e w' => e = .returned (.int .i64 r) ∧ ∃ q os', w' = Sort.grow (W.drewN q) os') := by
  obtain ⟨d0, d1⟩ := h.pair hx
  obtain ⟨d2, d3⟩ := h.pair hy
  exact ⟨l[x].1, l[x].2, l[y].1, l[y].2, cmpP l[x] l[y], rfl, rfl, fun m os => cell_grown (World.block_lt_of_cell? _ _ d0) d0 m os, fun m os => cell_grown (World.block_lt_of_cell? _ _ d1) d1 m os, fun m os => cell_grown (World.block_lt_of_cell? _ _ d2) d2 m os, fun m os => cell_grown (World.block_lt_of_cell? _ _ d3) d3 m os, cmpP_neg _ _, Lib.hid fun W => byFrom_any l[x] l[y] W⟩
theorem kept_drew_grow {F : Nat → Prop} {w W : World} (h : Kept F w W) (q : Nat) (os : Array Obj) : Kept F w (Sort.grow (W.drewN q) os) := (h.drewN q).trans (grow_kept _ os) (fun _ _ f => f.elim)

theorem shift_right (P B Q : List (Nat × Nat)) (x : Nat × Nat) (k : Nat) (hk : k < B.length) : swapL (P ++ (B.take k ++ (x :: (B.drop k ++ Q)))) (P.length + k) (P.length + k + 1) = P ++ (B.take (k + 1) ++ (x :: (B.drop (k + 1) ++ Q))) := by
  have hsm := swapL_mid (P ++ B.take k) [] (B.drop (k + 1) ++ Q) x B[k]
  have h1 : (P ++ B.take k).length = P.length + k := by rw [List.length_append, List.length_take]; omega
  rw [h1] at hsm
  have h2 : P ++ List.take k B ++ x :: ([] ++ B[k] :: (List.drop (k + 1) B ++ Q)) = P ++ (B.take k ++ (x :: (B.drop k ++ Q))) := by
    rw [List.drop_eq_getElem_cons hk]; simp only [List.append_assoc, List.cons_append, List.nil_append]
  have h3 : P ++ List.take k B ++ B[k] :: ([] ++ x :: (List.drop (k + 1) B ++ Q)) = P ++ (B.take (k + 1) ++ (x :: (B.drop (k + 1) ++ Q))) := by
    rw [List.take_succ_eq_append_getElem hk]; simp only [List.append_assoc, List.cons_append, List.nil_append]
  rw [h2, h3] at hsm
  simpa using hsm
theorem swapL_comm {l : List (Nat × Nat)} {i j : Nat} (hi : i < l.length) (hj : j < l.length) (h : i ≠ j) : swapL l i j = swapL l j i := by
  rw [swapL_of hi hj, swapL_of hj hi, List.set_comm _ _ h]
theorem shift_left (P B Q : List (Nat × Nat)) (x : Nat × Nat) (k : Nat) (hk : k < B.length) : swapL (P ++ (B.take (k + 1) ++ (x :: (B.drop (k + 1) ++ Q)))) (P.length + k + 1) (P.length + k) = P ++ (B.take k ++ (x :: (B.drop k ++ Q))) := by
  have hsm := swapL_mid (P ++ B.take k) [] (B.drop (k + 1) ++ Q) B[k] x
  have h1 : (P ++ B.take k).length = P.length + k := by rw [List.length_append, List.length_take]; omega
  rw [h1] at hsm
  have h2 : P ++ List.take k B ++ B[k] :: ([] ++ x :: (List.drop (k + 1) B ++ Q)) = P ++ (B.take (k + 1) ++ (x :: (B.drop (k + 1) ++ Q))) := by
    rw [List.take_succ_eq_append_getElem hk]; simp only [List.append_assoc, List.cons_append, List.nil_append]
  have h3 : P ++ List.take k B ++ x :: ([] ++ B[k] :: (List.drop (k + 1) B ++ Q)) = P ++ (B.take k ++ (x :: (B.drop k ++ Q))) := by
    rw [List.drop_eq_getElem_cons hk]; simp only [List.append_assoc, List.cons_append, List.nil_append]
  rw [h2, h3] at hsm
  rw [swapL_comm (by simp; omega) (by simp; omega) (by omega)]
  simpa using hsm
theorem take_len (P B Q : List (Nat × Nat)) (x : Nat × Nat) (k : Nat) : (P ++ (B.take k ++ (x :: (B.drop k ++ Q)))).length = (P ++ (x :: (B ++ Q))).length := by
  simp only [List.length_append, List.length_cons, List.length_take, List.length_drop]; omega

set_option maxRecDepth 100000 in
set_option maxHeartbeats 1000000 in
theorem symMerge_left (bb : Nat) (w : World) (g c N : Nat) (P Q B : List (Nat × Nat)) (x : Nat × Nat) (a m b : Nat) (h : OwnP bb w (.slice (some ⟨g, 0, none⟩) N c) (P ++ (x :: (B ++ Q)))) (hN : (P ++ (x :: (B ++ Q))).length = N) (hlen : N ≤ 1000000) (hBs : B.Pairwise leP) (ha : P.length = a) (hm : a + 1 = m) (hb : m + B.length = b) :
    Calls Tryz.prog 189 #[.slice (some ⟨g, 0, none⟩) N c, .int .i64 a, .int .i64 m, .int .i64 b, .func (.func 38) #[] #[]] w fun e w' => e = .returned (.tuple #[]) ∧ (∃ C, StP (x :: B) C ∧ OwnP bb w' (.slice (some ⟨g, 0, none⟩) N c) (P ++ (C ++ Q))) ∧ Kept (fun i => i = g) w w' := by
  have hma : (m : Int) - (a : Int) = 1 := by omega
  go_enter Tryz.func189, Tryz.ntmps189
  go_wp2_with fail
  obtain ⟨L, hL⟩ : ∃ L, P ++ (x :: (B ++ Q)) = L := ⟨_, rfl⟩
  rw [hL] at h hN
  have hLa : ∀ hk : a < L.length, L[a] = x := fun hk => by
    have : L[a]? = some x := by rw [← hL, ← ha]; simp
    rw [List.getElem?_eq_getElem hk] at this
    exact Option.some.inj this
  have hLb : ∀ k (hk : k < B.length) (hk2 : m + k < L.length), L[m + k] = B[k] := fun k hk hk2 => by
    have : L[m + k]? = some B[k] := by
      rw [← hL, List.getElem?_append_right (by omega), show m + k - P.length = k + 1 from by omega, List.getElem?_cons_succ, List.getElem?_append_left hk, List.getElem?_eq_getElem hk]
    rw [List.getElem?_eq_getElem hk2] at this
    exact Option.some.inj this
  have hLl : b ≤ L.length := by rw [← hL]; simp; omega
  have HL := Lib.hid (And.intro hL (And.intro hLa (And.intro hLb (And.intro hLl (And.intro ha (And.intro hm (And.intro hb hN)))))))
  clear hL hLa hLb hLl ha hm hb hN
  obtain ⟨xf, xt⟩ := x
  go_loopw [10, 11] (fun iv jv wr => ∃ i j : Nat, iv = .int .i64 i ∧ jv = .int .i64 j ∧ m ≤ i ∧ i ≤ j ∧ j ≤ b ∧ Kept (fun _ => False) w wr ∧ Hid ((∀ k (hk : k < B.length), m + k < i → B[k].1 < xf) ∧ ∀ k (hk : k < B.length), j ≤ m + k → xf ≤ B[k].1)) (fun iv jv _ => (intOf jv).toNat - (intOf iv).toNat)
  case atStart => exact ⟨m, b, rfl, rfl, Nat.le_refl _, by have := HL.out; omega, Nat.le_refl _, Kept.refl _ _, Lib.hid ⟨fun k hk h => by omega, fun k hk h => by have := HL.out; omega⟩⟩
  case round =>
    obtain ⟨i, j, rfl, rfl, hmi, hij, hjb, hkr, HC⟩ := hrel
    have hown := h.kept hkr (fun _ f => f.elim)
    have hbN : b ≤ 1000000 := by obtain ⟨-, -, -, h1, -, -, -, h2⟩ := HL.out; omega
    by_cases hlt : i < j
    · obtain ⟨q, hq⟩ : ∃ q, (i + j) / 2 = q := ⟨_, rfl⟩
      have hq1 : i ≤ q ∧ q < j := by omega
      obtain ⟨-, hLa, hLb, hLl, -, hm1, hmb, hN1⟩ := HL.out
      obtain ⟨pf, pt, qf, qt, r, hX, hY, c0, c1, c2, c3, hrn, HCMP⟩ := cmpAt hown (x := q) (y := a) (by omega) (by omega)
      rw [hLa] at hY
      have hBq := hLb (q - m) (by omega) (by omega)
      simp only [show m + (q - m) = q from by omega] at hBq
      rw [hX] at hBq
      obtain ⟨rfl, rfl⟩ := Prod.mk.inj hY
      have HBq : Hid (B[q - m]? = some (pf, pt)) := Lib.hid (by rw [hBq]; exact List.getElem?_eq_getElem _)
      have hq2 : ((i : Int) + (j : Int)) / 2 = (q : Int) := by omega
      have hqN : (q : Int) < (N : Int) := by omega
      have haN : (a : Int) < (N : Int) := by omega
      have hqb : q ≤ 1000000 := by omega
      have hijb : i ≤ 1000000 ∧ j ≤ 1000000 := by omega
      have HM := Lib.hid hm1
      have hmb' : m ≤ b := by omega
      clear hY hX hBq hq hLa hLb hLl hm1 hmb hN1
      by_cases hlt2 : pf < xf
      · have hrz := hrn.2 hlt2
        clear hrn
        go_wp2_with fail
        have hmx : Tryz.prog.follows .mixedOrders = true := by kernel_rfl
        have eg : ∀ args w, (callFunc 38 args).run Tryz.prog w = .ok (.enter 38 args) w := enters_of Tryz.func38 (by kernel_rfl) rfl
        go_quiet_grown (first | (go_at_fn 38; refine Calls.grown_of (HCMP.out _)))
        clear hmx eg
        go_wp2_with fail
        go_roundw
        case rel =>
          refine ⟨q + 1, j, by go_num, rfl, by omega, by omega, hjb, kept_drew_grow hkr _ _, Lib.hid ⟨fun k hk hkq => ?_, HC.out.2⟩⟩
          have hq5 : q - m < B.length := by have := HL.out; omega
          have hBq : B[q - m] = (pf, pt) := by have h0 := HBq.out; rw [List.getElem?_eq_getElem hq5] at h0; exact Option.some.inj h0
          rcases Nat.lt_or_ge (m + k) q with h1 | h1
          · have h2 := (List.pairwise_iff_getElem.1 hBs) k (q - m) hk (by have := HL.out.2.2.1; omega) (by omega)
            rw [hBq] at h2
            exact Nat.lt_of_le_of_lt h2 hlt2
          · have : k = q - m := by omega
            subst this
            rw [hBq]
            exact hlt2
        case measure => simp [intOf]; omega
      · have hrz : ¬ r < 0 := fun h => hlt2 (hrn.1 h)
        clear hrn
        go_wp2_with fail
        have hmx : Tryz.prog.follows .mixedOrders = true := by kernel_rfl
        have eg : ∀ args w, (callFunc 38 args).run Tryz.prog w = .ok (.enter 38 args) w := enters_of Tryz.func38 (by kernel_rfl) rfl
        go_quiet_grown (first | (go_at_fn 38; refine Calls.grown_of (HCMP.out _)))
        clear hmx eg
        go_wp2_with fail
        go_roundw
        case rel =>
          refine ⟨i, q, rfl, rfl, hmi, by omega, by omega, kept_drew_grow hkr _ _, Lib.hid ⟨HC.out.1, fun k hk hkq => ?_⟩⟩
          have hq5 : q - m < B.length := by have := HL.out; omega
          have hBq : B[q - m] = (pf, pt) := by have h0 := HBq.out; rw [List.getElem?_eq_getElem hq5] at h0; exact Option.some.inj h0
          rcases Nat.lt_or_ge q (m + k) with h1 | h1
          · have h2 := (List.pairwise_iff_getElem.1 hBs) (q - m) k (by omega) hk (by omega)
            rw [hBq] at h2
            exact Nat.le_trans (Nat.not_lt.1 hlt2) h2
          · have : k = q - m := by omega
            subst this
            rw [hBq]
            exact Nat.not_lt.1 hlt2
        case measure => simp [intOf]; omega
    · obtain rfl : i = j := by omega
      obtain ⟨hC1, hC2⟩ := HC.out
      obtain ⟨hL, -, -, hLl, ha1, hm1, hmb, hN1⟩ := HL.out
      obtain ⟨n, hn⟩ : ∃ n, i = m + n := ⟨i - m, by omega⟩
      subst hn
      have hst : StP ((xf, xt) :: B) (B.take n ++ (xf, xt) :: B.drop n) := by
        have := StP.one_left (x := (xf, xt)) (B1 := B.take n) (B2 := B.drop n) (by rw [List.take_append_drop]; exact hBs) (fun p hp => by
          obtain ⟨k, hk, rfl⟩ := List.getElem_of_mem hp
          rw [List.length_take] at hk
          rw [List.getElem_take]
          exact hC1 k (by omega) (by omega)) (fun p hp => by
          obtain ⟨k, hk, rfl⟩ := List.getElem_of_mem hp
          rw [List.length_drop] at hk
          rw [List.getElem_drop]
          exact hC2 (n + k) (by omega) (by omega))
        rwa [List.take_append_drop] at this
      have HST := Lib.hid hst
      have hnB : Hid (n ≤ B.length) := Lib.hid (by omega)
      have hie : ((m : Int) + (n : Int)) - 1 = (a : Int) + (n : Int) := by omega
      have hmaN : (m : Int) = (a : Int) + 1 := by omega
      have hmna : m + n ≤ 1000000 := by omega
      have hLN := Lib.hid hN1
      rw [← hL] at hown
      have HP := Lib.hid (And.intro ha1 (show (P ++ ((xf, xt) :: (B ++ Q))).length = N by rw [hL]; exact hN1))
      have haN : a ≤ 1000000 := by omega
      clear HC hC1 hC2 hst hL hLl ha1 hm1 hmb hN1 HL h
      clear hma hij hmi hjb hlt
      go_wp2_with fail
      go_loopw [13] (fun kv wr2 => ∃ k : Nat, k ≤ n ∧ kv = .int .i64 ((a + k : Nat) : Int) ∧ OwnP bb wr2 (.slice (some ⟨g, 0, none⟩) N c) (P ++ (B.take k ++ ((xf, xt) :: (B.drop k ++ Q)))) ∧ Kept (fun i => i = g) w wr2) (fun kv _ => (a + n) - (intOf kv).toNat)
      case atStart => exact ⟨0, Nat.zero_le _, rfl, by simpa using hown, hkr.mono (fun _ _ f => f.elim)⟩
      case round =>
        obtain ⟨k, hk, rfl, hown2, hkr2⟩ := hrel
        by_cases hlt3 : k < n
        · have hkB : k < B.length := by have := hnB.out; omega
          obtain ⟨x, hx⟩ : ∃ x, a + k = x := ⟨_, rfl⟩
          obtain ⟨l2, hl2⟩ : ∃ l2, P ++ (B.take k ++ ((xf, xt) :: (B.drop k ++ Q))) = l2 := ⟨_, rfl⟩
          have hll : l2.length = N := by rw [← hl2, take_len]; exact HP.out.2
          have hsm := shift_right P B Q (xf, xt) k hkB
          obtain ⟨hPa, hPN⟩ := HP.out
          rw [hl2, hPa, hx] at hsm
          have hxN : x + 1 < N := by simp only [List.length_append, List.length_cons] at hPN; omega
          have hxi : (x : Int) + 1 = ((x + 1 : Nat) : Int) := by omega
          have hxlt : (x : Int) < (a : Int) + (n : Int) := by omega
          obtain ⟨y, hy⟩ : ∃ y, x + 1 = y := ⟨_, rfl⟩
          rw [hy] at hxi hxN hsm
          have HSM := Lib.hid (And.intro hsm (And.intro hx (And.intro hl2 hy)))
          rw [hl2] at hown2
          have hxy : x < y := by omega
          have hym : y < l2.length := by omega
          obtain ⟨⟨pf, pt⟩, hpe⟩ : ∃ p, l2[x] = p := ⟨_, rfl⟩
          obtain ⟨⟨qf, qt⟩, hqe⟩ : ∃ q, l2[y] = q := ⟨_, rfl⟩
          have hsw := swapL_of (l := l2) (i := x) (j := y) (by omega) (by omega)
          rw [hpe, hqe] at hsw
          obtain ⟨e0, e1⟩ := (hown2).pair (k := x) (by omega)
          obtain ⟨e2, e3⟩ := (hown2).pair (k := y) (by omega)
          rw [hpe] at e0 e1
          rw [hqe] at e2 e3
          simp only at e0 e1 e2 e3
          have hput1 := (hown2).put (k := x) (by omega) (qf, qt)
          have hput2 := hput1.put (k := y) (by simp only [List.length_set]; omega) (pf, pt)
          rw [← hsw] at hput2
          have hfz := (hown2).fz
          have hkput := (putW_kept wr g x (qf, qt)).trans (putW_kept (putW wr g x (qf, qt)) g y (pf, pt)) (fun _ _ h => h)
          have n1 : ¬ x * 2 = y * 2 := by omega
          have n2 : ¬ x * 2 = y * 2 + 1 := by omega
          have n3 : ¬ x * 2 + 1 = y * 2 := by omega
          have n4 : ¬ y * 2 = x * 2 := by omega
          have n5 : ¬ y * 2 + 1 = x * 2 := by omega
          have n6 : ¬ y * 2 = x * 2 + 1 := by omega
          clear hpe hqe hsw hput1
          rw [hx]
          have hxm : x ≤ 1000000 := by omega
          have HLL := Lib.hid hll
          have hyN : (y : Int) < (N : Int) := by omega
          have hxN2 : (x : Int) < (N : Int) := by omega
          clear hsm hl2 hll hx hy hPa hPN
          go_wp2_with fail
          have hmx : Tryz.prog.follows .mixedOrders = true := by kernel_rfl
          go_big_region_o
          all_goals go_wp2
          go_roundw
          case rel =>
            obtain ⟨hsm, hx, hl2, hy⟩ := HSM.out
            rw [hsm] at hput2
            refine ⟨k + 1, hlt3, by congr 1; omega, hput2.kept (F := fun _ => False) ((Kept.refl _ _).drew) (fun _ f => f.elim), (hkr2.trans hkput (fun _ _ h => h)).drew⟩
          case measure => have hx := HSM.out.2.1; simp [intOf]; omega
        · obtain rfl : k = n := by omega
          go_wp2
          refine bodyPost_ret (results_none rfl _ _ _) rfl ?_
          exact ⟨rfl, ⟨_, HST.out, by simpa using hown2⟩, hkr2⟩
end Go.Proofs.YtemilbemdlpkaaaGreatDoor

/- slices.symMergeCmpFunc at pairs: the right side is one. -/
namespace Go.Proofs.YtemilbemdlpkaaaGreatDoor
open Go.RowKit

set_option maxRecDepth 100000 in
set_option maxHeartbeats 1000000 in
theorem symMerge_right (bb : Nat) (w : World) (g c N : Nat) (P Q A : List (Nat × Nat)) (x : Nat × Nat) (a m b : Nat) (h : OwnP bb w (.slice (some ⟨g, 0, none⟩) N c) (P ++ (A ++ (x :: Q)))) (hN : (P ++ (A ++ (x :: Q))).length = N) (hlen : N ≤ 1000000) (hAs : A.Pairwise leP) (hA2 : 2 ≤ A.length) (ha : P.length = a) (hm : a + A.length = m) (hb : m + 1 = b) :
    Calls Tryz.prog 189 #[.slice (some ⟨g, 0, none⟩) N c, .int .i64 a, .int .i64 m, .int .i64 b, .func (.func 38) #[] #[]] w fun e w' => e = .returned (.tuple #[]) ∧ (∃ C, StP (A ++ [x]) C ∧ OwnP bb w' (.slice (some ⟨g, 0, none⟩) N c) (P ++ (C ++ Q))) ∧ Kept (fun i => i = g) w w' := by
  have hma : (((m : Int) - (a : Int)) == 1) = false := by simp; omega
  have hbm : (b : Int) - (m : Int) = 1 := by omega
  have hmN : m ≤ 1000000 ∧ b ≤ 1000000 ∧ a ≤ 1000000 := by rw [← hb, ← hm, ← ha]; rw [← hN] at hlen; simp at hlen; omega
  obtain ⟨hmN, hbN, haN⟩ := hmN
  have ham0 : a + 2 ≤ m := by omega
  go_enter Tryz.func189, Tryz.ntmps189
  obtain ⟨L, hL⟩ : ∃ L, P ++ (A ++ (x :: Q)) = L := ⟨_, rfl⟩
  rw [hL] at h hN
  have hLm : ∀ hk : m < L.length, L[m] = x := fun hk => by
    have : L[m]? = some x := by rw [← hL, List.getElem?_append_right (by omega), List.getElem?_append_right (by omega), show m - P.length - A.length = 0 from by omega]; simp
    rw [List.getElem?_eq_getElem hk] at this
    exact Option.some.inj this
  have hLb : ∀ k (hk : k < A.length) (hk2 : a + k < L.length), L[a + k] = A[k] := fun k hk hk2 => by
    have : L[a + k]? = some A[k] := by
      rw [← hL, List.getElem?_append_right (by omega), show a + k - P.length = k from by omega, List.getElem?_append_left hk, List.getElem?_eq_getElem hk]
    rw [List.getElem?_eq_getElem hk2] at this
    exact Option.some.inj this
  have hLl : b ≤ L.length := by rw [← hL]; simp; omega
  have HL := Lib.hid (And.intro hL (And.intro hLm (And.intro hLb (And.intro hLl (And.intro ha (And.intro hm (And.intro hb hN)))))))
  clear hL hLm hLb hLl ha hm hb hN
  obtain ⟨xf, xt⟩ := x
  go_wp2_with fail
  go_loopw [14, 15] (fun iv jv wr => ∃ i j : Nat, iv = .int .i64 i ∧ jv = .int .i64 j ∧ a ≤ i ∧ i ≤ j ∧ j ≤ m ∧ Kept (fun _ => False) w wr ∧ Hid ((∀ k (hk : k < A.length), a + k < i → A[k].1 ≤ xf) ∧ ∀ k (hk : k < A.length), j ≤ a + k → xf < A[k].1)) (fun iv jv _ => (intOf jv).toNat - (intOf iv).toNat)
  case atStart => exact ⟨a, m, rfl, rfl, Nat.le_refl _, by omega, Nat.le_refl _, Kept.refl _ _, Lib.hid ⟨fun k hk h => by omega, fun k hk h => by have := HL.out; omega⟩⟩
  case round =>
    obtain ⟨i, j, rfl, rfl, hmi, hij, hjb, hkr, HC⟩ := hrel
    have hown := h.kept hkr (fun _ f => f.elim)
    by_cases hlt : i < j
    · obtain ⟨q, hq⟩ : ∃ q, (i + j) / 2 = q := ⟨_, rfl⟩
      have hq1 : i ≤ q ∧ q < j := by omega
      obtain ⟨-, hLm, hLb, hLl, -, hm1, hmb, hN1⟩ := HL.out
      obtain ⟨pf, pt, qf, qt, r, hY, hX, c0, c1, c2, c3, hrn, HCMP⟩ := cmpAt hown (x := m) (y := q) (by omega) (by omega)
      rw [hLm] at hY
      have hBq := hLb (q - a) (by omega) (by omega)
      simp only [show a + (q - a) = q from by omega] at hBq
      rw [hX] at hBq
      obtain ⟨rfl, rfl⟩ := Prod.mk.inj hY
      have HBq : Hid (A[q - a]? = some (qf, qt)) := Lib.hid (by rw [hBq]; exact List.getElem?_eq_getElem _)
      have hq2 : ((i : Int) + (j : Int)) / 2 = (q : Int) := by omega
      have hqN : (q : Int) < (N : Int) := by omega
      have hmN2 : (m : Int) < (N : Int) := by omega
      have hqb : q ≤ 1000000 := by omega
      have hijb : i ≤ 1000000 ∧ j ≤ 1000000 := by omega
      clear hY hX hBq hq hLm hLb hLl hm1 hmb hN1
      by_cases hlt2 : xf < qf
      · have hrz := hrn.2 hlt2
        clear hrn
        go_wp2_with fail
        have hmx : Tryz.prog.follows .mixedOrders = true := by kernel_rfl
        have eg : ∀ args w, (callFunc 38 args).run Tryz.prog w = .ok (.enter 38 args) w := enters_of Tryz.func38 (by kernel_rfl) rfl
        go_quiet_grown (first | (go_at_fn 38; refine Calls.grown_of (HCMP.out _)))
        clear hmx eg
        go_wp2_with fail
        go_roundw
        case rel =>
          refine ⟨i, q, rfl, rfl, hmi, by omega, by omega, kept_drew_grow hkr _ _, Lib.hid ⟨HC.out.1, fun k hk hkq => ?_⟩⟩
          have hq5 : q - a < A.length := by have := HL.out; omega
          have hBq : A[q - a] = (qf, qt) := by have h0 := HBq.out; rw [List.getElem?_eq_getElem hq5] at h0; exact Option.some.inj h0
          rcases Nat.lt_or_ge q (a + k) with h1 | h1
          · have h2 := (List.pairwise_iff_getElem.1 hAs) (q - a) k (by omega) hk (by omega)
            rw [hBq] at h2
            exact Nat.lt_of_lt_of_le hlt2 h2
          · have : k = q - a := by omega
            subst this
            rw [hBq]
            exact hlt2
        case measure => simp [intOf]; omega
      · have hrz : ¬ r < 0 := fun h => hlt2 (hrn.1 h)
        have hrz2 : decide (r < 0) = false := decide_eq_false hrz
        have hrz3 : 0 ≤ r := by omega
        clear hrn
        go_wp2_with fail
        have hmx : Tryz.prog.follows .mixedOrders = true := by kernel_rfl
        have eg : ∀ args w, (callFunc 38 args).run Tryz.prog w = .ok (.enter 38 args) w := enters_of Tryz.func38 (by kernel_rfl) rfl
        go_quiet_grown (first | (go_at_fn 38; refine Calls.grown_of (HCMP.out _)))
        clear hmx eg
        go_wp2_with fail
        go_roundw
        case rel =>
          refine ⟨q + 1, j, by go_num, rfl, by omega, by omega, hjb, kept_drew_grow hkr _ _, Lib.hid ⟨fun k hk hkq => ?_, HC.out.2⟩⟩
          have hq5 : q - a < A.length := by have := HL.out; omega
          have hBq : A[q - a] = (qf, qt) := by have h0 := HBq.out; rw [List.getElem?_eq_getElem hq5] at h0; exact Option.some.inj h0
          rcases Nat.lt_or_ge (a + k) q with h1 | h1
          · have h2 := (List.pairwise_iff_getElem.1 hAs) k (q - a) hk hq5 (by omega)
            rw [hBq] at h2
            exact Nat.le_trans h2 (Nat.not_lt.1 hlt2)
          · have : k = q - a := by omega
            subst this
            rw [hBq]
            exact Nat.not_lt.1 hlt2
        case measure => simp [intOf]; omega
    · obtain rfl : i = j := by omega
      obtain ⟨hC1, hC2⟩ := HC.out
      obtain ⟨hL, -, -, hLl, ha1, hm1, hmb, hN1⟩ := HL.out
      obtain ⟨n, hn⟩ : ∃ n, i = a + n := ⟨i - a, by omega⟩
      subst hn
      have hst : StP (A ++ [(xf, xt)]) (A.take n ++ (xf, xt) :: A.drop n) := by
        have := StP.one_right (x := (xf, xt)) (A1 := A.take n) (A2 := A.drop n) (by rw [List.take_append_drop]; exact hAs) (fun p hp => by
          obtain ⟨k, hk, rfl⟩ := List.getElem_of_mem hp
          rw [List.length_take] at hk
          rw [List.getElem_take]
          exact hC1 k (by omega) (by omega)) (fun p hp => by
          obtain ⟨k, hk, rfl⟩ := List.getElem_of_mem hp
          rw [List.length_drop] at hk
          rw [List.getElem_drop]
          exact hC2 (n + k) (by omega) (by omega))
        rwa [List.take_append_drop] at this
      have HST := Lib.hid hst
      have hnB : n ≤ A.length := by omega
      rw [← hL] at hown
      have HP := Lib.hid (And.intro ha1 (And.intro hm1 (show (P ++ ((xf, xt) :: (A ++ Q))).length = N by rw [← hN1, ← hL]; simp; omega)))
      have hown0 : OwnP bb wr (.slice (some ⟨g, 0, none⟩) N c) (P ++ (A.take A.length ++ ((xf, xt) :: (A.drop A.length ++ Q)))) := by simpa using hown
      obtain ⟨t, ht⟩ : ∃ t, A.length = t := ⟨_, rfl⟩
      rw [ht] at hown0 hnB hm1 hA2
      have HT := Lib.hid (And.intro ht hm1)
      have hmt : (m : Int) = (a : Int) + (t : Int) := by omega
      have hat : a + t ≤ 1000000 := by omega
      clear HC hC1 hC2 hst hL hLl ha1 hm1 hmb hN1 HL h ht hown hA2
      clear hma hij hmi hjb hlt hbm ham0
      go_wp2_with fail
      go_loopw [17] (fun kv wr2 => ∃ k : Nat, n ≤ k ∧ k ≤ t ∧ kv = .int .i64 ((a + k : Nat) : Int) ∧ OwnP bb wr2 (.slice (some ⟨g, 0, none⟩) N c) (P ++ (A.take k ++ ((xf, xt) :: (A.drop k ++ Q)))) ∧ Kept (fun i => i = g) w wr2) (fun kv _ => (intOf kv).toNat)
      case atStart => exact ⟨t, hnB, Nat.le_refl _, by simp [hmt], hown0, hkr.mono (fun _ _ f => f.elim)⟩
      case round =>
        obtain ⟨k, hnk, hkt, rfl, hown2, hkr2⟩ := hrel
        clear hown0 hmt
        by_cases hlt3 : n < k
        · obtain ⟨k, rfl⟩ : ∃ k', k = k' + 1 := ⟨k - 1, by omega⟩
          have hkB : k < A.length := by have := HT.out; omega
          obtain ⟨x, hx⟩ : ∃ x, a + k + 1 = x := ⟨_, rfl⟩
          obtain ⟨y, hy⟩ : ∃ y, a + k = y := ⟨_, rfl⟩
          obtain ⟨l2, hl2⟩ : ∃ l2, P ++ (A.take (k + 1) ++ ((xf, xt) :: (A.drop (k + 1) ++ Q))) = l2 := ⟨_, rfl⟩
          have hll : l2.length = N := by rw [← hl2, take_len]; exact HP.out.2.2
          have hsm := shift_left P A Q (xf, xt) k hkB
          obtain ⟨hPa, -, hPN⟩ := HP.out
          rw [hl2, hPa, hx, hy] at hsm
          have hxN : x < N := by simp only [List.length_append, List.length_cons] at hPN; omega
          have hxi : (x : Int) - 1 = (y : Int) := by omega
          have hxlt : (a : Int) + (n : Int) < (x : Int) := by omega
          have HSM := Lib.hid (And.intro hsm (And.intro hx (And.intro hl2 hy)))
          rw [hl2] at hown2
          have hxy : y < x := by omega
          have hym : x < l2.length := by omega
          obtain ⟨⟨pf, pt⟩, hpe⟩ : ∃ p, l2[x] = p := ⟨_, rfl⟩
          obtain ⟨⟨qf, qt⟩, hqe⟩ : ∃ q, l2[y] = q := ⟨_, rfl⟩
          have hsw := swapL_of (l := l2) (i := x) (j := y) (by omega) (by omega)
          rw [hpe, hqe] at hsw
          obtain ⟨e0, e1⟩ := (hown2).pair (k := x) (by omega)
          obtain ⟨e2, e3⟩ := (hown2).pair (k := y) (by omega)
          rw [hpe] at e0 e1
          rw [hqe] at e2 e3
          simp only at e0 e1 e2 e3
          have hput1 := (hown2).put (k := x) (by omega) (qf, qt)
          have hput2 := hput1.put (k := y) (by simp only [List.length_set]; omega) (pf, pt)
          rw [← hsw] at hput2
          have hfz := (hown2).fz
          have hkput := (putW_kept wr g x (qf, qt)).trans (putW_kept (putW wr g x (qf, qt)) g y (pf, pt)) (fun _ _ h => h)
          have n1 : ¬ x * 2 = y * 2 := by omega
          have n2 : ¬ x * 2 = y * 2 + 1 := by omega
          have n3 : ¬ x * 2 + 1 = y * 2 := by omega
          have n4 : ¬ y * 2 = x * 2 := by omega
          have n5 : ¬ y * 2 + 1 = x * 2 := by omega
          have n6 : ¬ y * 2 = x * 2 + 1 := by omega
          clear hpe hqe hsw hput1
          rw [show a + (k + 1) = x from by omega]
          have hxm : x ≤ 1000000 := by omega
          have HLL := Lib.hid hll
          have hyN : (y : Int) < (N : Int) := by omega
          have hxN2 : (x : Int) < (N : Int) := by omega
          clear hsm hl2 hll hx hy hPa hPN
          go_wp2_with fail
          have hmx : Tryz.prog.follows .mixedOrders = true := by kernel_rfl
          go_big_region_o
          all_goals go_wp2
          go_roundw
          case rel =>
            obtain ⟨hsm, hx, hl2, hy⟩ := HSM.out
            rw [hsm] at hput2
            refine ⟨k, by omega, by omega, by congr 1; omega, hput2.kept (F := fun _ => False) ((Kept.refl _ _).drew) (fun _ f => f.elim), (hkr2.trans hkput (fun _ _ h => h)).drew⟩
          case measure => have hx := HSM.out.2.1; simp [intOf]; omega
        · obtain rfl : k = n := by omega
          go_wp2
          refine bodyPost_ret (results_none rfl _ _ _) rfl ?_
          exact ⟨rfl, ⟨_, HST.out, by simpa using hown2⟩, hkr2⟩
end Go.Proofs.YtemilbemdlpkaaaGreatDoor
