/- slices.symMergeCmpFunc at pairs: every pair of sorted sides. -/
import Derived.Deep.CutRange
import Derived.Test.YtemilbemdlpkaaaGreatDoorPay
namespace Go.Proofs.YtemilbemdlpkaaaGreatDoor
open Go.RowKit

/-- Where the search has ended. -/
theorem sym_split {A B : List (Nat × Nat)} (hA : A.Pairwise leP) (hB : B.Pairwise leP) {a m b M lo hi s : Nat} (hm : a + A.length = m) (hb : m + B.length = b) (hlo : a ≤ lo) (hls : lo ≤ s) (hsh : s ≤ hi) (hhm : hi ≤ m) (hhM : hi ≤ M) (hMb : M + m ≤ b + lo) (hlo2 : lo = a ∨ M + m = b + lo) (hhi2 : hi = m ∨ hi = M)
    (h1 : ∀ k, lo ≤ k → k < s → ∀ (u : k - a < A.length) (v : M + m - 1 - k - m < B.length), A[k - a].1 ≤ B[M + m - 1 - k - m].1) (h2 : ∀ k, s ≤ k → k < hi → ∀ (u : k - a < A.length) (v : M + m - 1 - k - m < B.length), B[M + m - 1 - k - m].1 < A[k - a].1) :
    ∃ A1 A2 B1 B2, A = A1 ++ A2 ∧ B = B1 ++ B2 ∧ a + A1.length = s ∧ s + A2.length = m ∧ s + B1.length = M ∧ M + m - s + B2.length = b ∧ (∀ p ∈ A1, ∀ q ∈ B2, p.1 ≤ q.1) ∧ (∀ p ∈ B1, ∀ q ∈ A2, p.1 < q.1) := by
  refine ⟨A.take (s - a), A.drop (s - a), B.take (M - s), B.drop (M - s), (List.take_append_drop _ _).symm, (List.take_append_drop _ _).symm, by rw [List.length_take]; omega, by rw [List.length_drop]; omega, by rw [List.length_take]; omega, by rw [List.length_drop]; omega, ?_, ?_⟩
  · intro p hp q hq
    obtain ⟨i, hi', rfl⟩ := List.getElem_of_mem hp
    obtain ⟨j, hj', rfl⟩ := List.getElem_of_mem hq
    rw [List.length_take] at hi'
    rw [List.length_drop] at hj'
    rw [List.getElem_take, List.getElem_drop]
    have hs : lo < s := by rcases hlo2 with h | h <;> omega
    have h3 := h1 (s - 1) (by omega) (by omega) (by omega) (by omega)
    exact Nat.le_trans (sorted_le hA (show i ≤ s - 1 - a by omega) (by omega)) (Nat.le_trans h3 (sorted_le hB (by omega) (by omega)))
  · intro p hp q hq
    obtain ⟨i, hi', rfl⟩ := List.getElem_of_mem hp
    obtain ⟨j, hj', rfl⟩ := List.getElem_of_mem hq
    rw [List.length_take] at hi'
    rw [List.length_drop] at hj'
    rw [List.getElem_take, List.getElem_drop]
    have hs : s < hi := by rcases hhi2 with h | h <;> omega
    have h3 := h2 s (by omega) (by omega) (by omega) (by omega)
    exact Nat.lt_of_le_of_lt (sorted_le hB (show i ≤ M + m - 1 - s - m by omega) (by omega)) (Nat.lt_of_lt_of_le h3 (sorted_le hA (show s - a ≤ s - a + j by omega) (by omega)))

set_option maxRecDepth 100000 in
set_option maxHeartbeats 1500000 in
theorem symMerge_any (n : Nat) : ∀ (bb : Nat) (w : World) (g c N : Nat) (P A B Q : List (Nat × Nat)) (a m b : Nat), A.length + B.length ≤ n → OwnP bb w (.slice (some ⟨g, 0, none⟩) N c) (P ++ (A ++ (B ++ Q))) → (P ++ (A ++ (B ++ Q))).length = N → N ≤ 1000000 → A.Pairwise leP → B.Pairwise leP → A ≠ [] → B ≠ [] → P.length = a → a + A.length = m → m + B.length = b →
    Calls Tryz.prog 189 #[.slice (some ⟨g, 0, none⟩) N c, .int .i64 a, .int .i64 m, .int .i64 b, .func (.func 38) #[] #[]] w fun e w' => e = .returned (.tuple #[]) ∧ (∃ C, StP (A ++ B) C ∧ OwnP bb w' (.slice (some ⟨g, 0, none⟩) N c) (P ++ (C ++ Q))) ∧ Kept (fun i => i = g) w w' := by
  induction n with
  | zero => 
    intro bb w g c N P A B Q a m b hn h hN hlen hAs hBs hA hB ha hm hb
    exact absurd (List.length_pos_iff.2 hA) (by omega)
  | succ n ih =>
  intro bb w g c N P A B Q a m b hn h hN hlen hAs hBs hA hB ha hm hb
  have hA0 := List.length_pos_iff.2 hA
  have hB0 := List.length_pos_iff.2 hB
  by_cases hA1 : A.length = 1
  · obtain ⟨x, rfl⟩ : ∃ x, A = [x] := by
      match A, hA1 with
      | [x], _ => exact ⟨x, rfl⟩
    exact symMerge_left bb w g c N P Q B x a m b h hN hlen hBs ha hm hb
  by_cases hB1 : B.length = 1
  · obtain ⟨x, rfl⟩ : ∃ x, B = [x] := by
      match B, hB1 with
      | [x], _ => exact ⟨x, rfl⟩
    exact symMerge_right bb w g c N P Q A x a m b h hN hlen hAs (by omega) ha hm hb
  have hma : (((m : Int) - (a : Int)) == 1) = false := by simp; omega
  have hbm : (((b : Int) - (m : Int)) == 1) = false := by simp; omega
  have hbN : b ≤ 1000000 := by rw [← hb, ← hm, ← ha]; rw [← hN] at hlen; simp only [List.length_append] at hlen; omega
  have hbN2 : b ≤ N := by rw [← hb, ← hm, ← ha, ← hN]; simp only [List.length_append]; omega
  have ham0 : a + 2 ≤ m := by omega
  have hmb0 : m + 2 ≤ b := by omega
  obtain ⟨M, hM⟩ : ∃ M, (a + b) / 2 = M := ⟨_, rfl⟩
  have hMi : ((a : Int) + (b : Int)) / 2 = (M : Int) := by omega
  have hMb : a < M ∧ M < b := by omega
  obtain ⟨nn, hnn⟩ : ∃ nn, M + m = nn := ⟨_, rfl⟩
  have hnni : (M : Int) + (m : Int) = (nn : Int) := by omega
  obtain ⟨p, hp⟩ : ∃ p, nn - 1 = p := ⟨_, rfl⟩
  have hpi : (nn : Int) - 1 = (p : Int) := by omega
  have hnb : nn ≤ 2000000 := by omega
  have hM2 : a + b ≤ 2 * M + 1 ∧ 2 * M ≤ a + b := by omega
  have HH := Lib.hid (And.intro ha (And.intro hm (And.intro hb (And.intro hnn (And.intro hp (And.intro hN (And.intro hn hM2)))))))
  clear ha hm hb hM hnn hp hN hn hA1 hB1 hA0 hB0 hM2
  have IH := Lib.hid ih
  clear ih
  go_enter Tryz.func189, Tryz.ntmps189
  go_upto_if 140 with fail
  go_cut [20, 21] from 141 to 146 (fun s20 s21 wx => ∃ lo hi : Nat, s20 = .int .i64 lo ∧ s21 = .int .i64 hi ∧ a ≤ lo ∧ lo ≤ hi ∧ hi ≤ m ∧ hi ≤ M ∧ nn ≤ b + lo ∧ (lo = a ∨ nn = b + lo) ∧ (hi = m ∨ hi = M) ∧ wx = w)
  case first =>
    by_cases hmm : M < m
    · obtain ⟨lo, hlo⟩ : ∃ lo : Nat, (nn : Int) - (b : Int) = (lo : Int) := ⟨nn - b, by have := HH.out; omega⟩
      go_wp2_with fail
      go_meet
      case rel => exact ⟨lo, M, rfl, rfl, by have := HH.out; omega, by have := HH.out; omega, by omega, Nat.le_refl _, by omega, .inr (by omega), .inr rfl, rfl⟩
    · go_wp2_with fail
      go_meet
      case rel => exact ⟨a, m, rfl, rfl, Nat.le_refl _, by omega, Nat.le_refl _, by omega, by have := HH.out; omega, .inl rfl, .inl rfl, rfl⟩
  case rest =>
    obtain ⟨lo, hi, rfl, rfl, f1, f2, f3, f4, f5, f6, f7, hwx⟩ := hcut
    obtain rfl := hwx.symm
    go_wp2_with fail
    obtain ⟨L, hL⟩ : ∃ L, P ++ (A ++ (B ++ Q)) = L := ⟨_, rfl⟩
    rw [hL] at h
    have HG : Hid (L.length = N ∧ (∀ q (u : q - a < A.length), a ≤ q → L[q]? = some (A[q - a]'u)) ∧ (∀ t (v : t - m < B.length), m ≤ t → L[t]? = some (B[t - m]'v))) := by
      refine Lib.hid ⟨by rw [← hL]; exact HH.out.2.2.2.2.2.1, fun q u haq => ?_, fun t v hmt => ?_⟩
      · have := HH.out
        rw [← hL, List.getElem?_append_right (by omega), List.getElem?_append_left (by omega), show q - P.length = q - a from by omega, List.getElem?_eq_getElem u]
      · have := HH.out
        rw [← hL, List.getElem?_append_right (by omega), List.getElem?_append_right (by omega), List.getElem?_append_left (by omega), show t - P.length - A.length = t - m from by omega, List.getElem?_eq_getElem v]
    have HLL := Lib.hid hL
    clear hL
    go_loopw [20, 21] (fun iv jv wr => ∃ i j : Nat, iv = .int .i64 i ∧ jv = .int .i64 j ∧ lo ≤ i ∧ i ≤ j ∧ j ≤ hi ∧ Kept (fun _ => False) w wr ∧ Hid ((∀ k, lo ≤ k → k < i → ∀ (u : k - a < A.length) (v : M + m - 1 - k - m < B.length), A[k - a].1 ≤ B[M + m - 1 - k - m].1) ∧ (∀ k, j ≤ k → k < hi → ∀ (u : k - a < A.length) (v : M + m - 1 - k - m < B.length), B[M + m - 1 - k - m].1 < A[k - a].1))) (fun iv jv _ => (intOf jv).toNat - (intOf iv).toNat)
    case atStart => exact ⟨lo, hi, rfl, rfl, Nat.le_refl _, f2, Nat.le_refl _, Kept.refl _ _, Lib.hid ⟨fun k _ _ => by omega, fun k _ _ => by omega⟩⟩
    case round =>
      obtain ⟨i, j, rfl, rfl, hli, hij, hjh, hkr, HC⟩ := hrel
      have hown := h.kept hkr (fun _ f => f.elim)
      by_cases hlt : i < j
      · obtain ⟨q, hq⟩ : ∃ q, (i + j) / 2 = q := ⟨_, rfl⟩
        have hq1 : i ≤ q ∧ q < j := by omega
        obtain ⟨t, ht⟩ : ∃ t, p - q = t := ⟨_, rfl⟩
        have hti : (p : Int) - (q : Int) = (t : Int) := by have := HH.out; omega
        have hq2 : ((i : Int) + (j : Int)) / 2 = (q : Int) := by omega
        have htm : m ≤ t ∧ t < b := by have := HH.out; omega
        have haq : a ≤ q ∧ q < m := by omega
        have hqN : (q : Int) < (N : Int) := by omega
        have htN : (t : Int) < (N : Int) := by omega
        have hqb : q ≤ 1000000 ∧ t ≤ 1000000 := by omega
        have hijb : i ≤ 1000000 ∧ j ≤ 1000000 := by omega
        have hpb : p ≤ 2000000 := by have := HH.out; omega
        obtain ⟨pf, pt, qf, qt, r, hX, hY, c0, c1, c2, c3, hrn, HCMP⟩ := cmpAt hown (x := t) (y := q) (by have := HG.out.1; omega) (by have := HG.out.1; omega)
        have HAB : Hid (∃ (u : q - a < A.length) (v : M + m - 1 - q - m < B.length), A[q - a].1 = qf ∧ B[M + m - 1 - q - m].1 = pf) := by
          have hA3 : q - a < A.length := by have := HH.out; omega
          have hB3 : t - m < B.length := by have := HH.out; omega
          have h1 := HG.out.2.1 q hA3 haq.1
          have h2 := HG.out.2.2 t hB3 htm.1
          rw [List.getElem?_eq_getElem (by have := HG.out.1; omega), hY] at h1
          rw [List.getElem?_eq_getElem (by have := HG.out.1; omega), hX] at h2
          have h3 := Option.some.inj h1
          have h4 := Option.some.inj h2
          have h5 : M + m - 1 - q - m = t - m := by have := HH.out; omega
          refine Lib.hid ⟨hA3, by omega, by rw [← h3], ?_⟩
          simp only [h5]
          rw [← h4]
        have hqb1 : q ≤ 1000000 := hqb.1
        have htb1 : t ≤ 1000000 := hqb.2
        have hwt : IntKind.i64.wrap (t : Int) = (t : Int) := IntWalk.i64_in _ (by omega)
        clear hY hX hq ht
        by_cases hlt2 : pf < qf
        · have hrz := hrn.2 hlt2
          have hrz2 : decide (r < 0) = true := decide_eq_true hrz
          clear hrn
          go_wp2_with fail
          have hmx : Tryz.prog.follows .mixedOrders = true := by kernel_rfl
          have eg : ∀ args w, (callFunc 38 args).run Tryz.prog w = .ok (.enter 38 args) w := enters_of Tryz.func38 (by kernel_rfl) rfl
          go_quiet_grown (first | (go_at_fn 38; refine Calls.grown_of (HCMP.out _)))
          clear hmx eg
          go_wp2_with fail
          go_roundw
          case rel =>
            refine ⟨i, q, rfl, rfl, hli, by omega, by omega, kept_drew_grow hkr _ _, Lib.hid ⟨HC.out.1, fun k hk1 hk2 u v => ?_⟩⟩
            obtain ⟨u0, v0, e1, e2⟩ := HAB.out
            have e3 := sorted_le hBs (show M + m - 1 - k - m ≤ M + m - 1 - q - m by omega) v0
            have e4 := sorted_le hAs (show q - a ≤ k - a by omega) u
            omega
          case measure => simp [intOf]; omega
        · have hrz : ¬ r < 0 := fun h => hlt2 (hrn.1 h)
          have hrz2 : decide (r < 0) = false := decide_eq_false hrz
          have hrz3 : 0 ≤ r := by omega
          clear hrn
          go_wp2_with fail
          have hmx : Tryz.prog.follows .mixedOrders = true := by kernel_rfl
          have eg : ∀ args w, (callFunc 38 args).run Tryz.prog w = .ok (.enter 38 args) w := enters_of Tryz.func38 (by kernel_rfl) rfl
          go_quiet_grown (first | (go_at_fn 38; refine Calls.grown_of (HCMP.out _)))
          clear hmx eg
          go_wp2_with fail
          go_roundw
          case rel =>
            refine ⟨q + 1, j, by go_num, rfl, by omega, by omega, hjh, kept_drew_grow hkr _ _, Lib.hid ⟨fun k hk1 hk2 u v => ?_, HC.out.2⟩⟩
            obtain ⟨u0, v0, e1, e2⟩ := HAB.out
            have e3 := sorted_le hBs (show M + m - 1 - q - m ≤ M + m - 1 - k - m by omega) v
            have e4 := sorted_le hAs (show k - a ≤ q - a by omega) u0
            omega
          case measure => simp [intOf]; omega
      · obtain rfl : i = j := by omega
        have hsp := sym_split hAs hBs (a := a) (m := m) (b := b) (M := M) (lo := lo) (hi := hi) (s := i) HH.out.2.1 HH.out.2.2.1 f1 hli hjh f3 f4 (by have := HH.out; omega) (by have := HH.out; omega) f7 HC.out.1 HC.out.2
        obtain ⟨A1, A2, B1, B2, hAe, hBe, g1, g2, g3, g4, g5, g6⟩ := hsp
        obtain ⟨e, he⟩ : ∃ e, M + m - i = e := ⟨_, rfl⟩
        rw [he] at g4
        have hei : (nn : Int) - (i : Int) = (e : Int) := by have := HH.out; omega
        have heb : m ≤ e ∧ e ≤ b ∧ M ≤ e ∧ i ≤ M ∧ i ≤ m ∧ a ≤ i := by have := HH.out; omega
        have hL := HLL.out
        rw [← hL, hAe, hBe] at hown
        rw [hAe] at hAs
        rw [hBe] at hBs
        have HS := Lib.hid (And.intro hAe (And.intro hBe (And.intro g1 (And.intro g2 (And.intro g3 (And.intro g4 (And.intro g5 (And.intro g6 (And.intro hAs (And.intro hBs he))))))))))
        clear hAe hBe g1 g2 g3 g4 g5 g6 he hL hAs hBs
        go_upto_region 39 with fail
        go_cut [185] from 178 to 185 (fun s185 wx => s185 = .bool (decide (i < m) && decide (m < e)) ∧ wx = wr)
        case first =>
          by_cases hs1 : i < m
          · by_cases hs2 : m < e
            · go_wp2_with fail
              go_meet
              case rel => exact ⟨by simp [hs1, hs2], rfl⟩
            · go_wp2_with fail
              go_meet
              case rel => exact ⟨by simp [hs1, hs2], rfl⟩
          · go_wp2_with fail
            go_meet
            case rel => exact ⟨by simp [hs1], rfl⟩
        case rest =>
          obtain ⟨rfl, hwx⟩ := hcut
          obtain rfl := hwx.symm
          obtain ⟨k1, hk1⟩ : ∃ k1, (decide (i < m) && decide (m < e)) = k1 := ⟨_, rfl⟩
          rw [hk1]
          have K1 := Lib.hid hk1
          clear hk1
          go_upto_if 185 with fail
          go_cut [] from 186 to 191 (fun wx => OwnP bb wx (.slice (some ⟨g, 0, none⟩) N c) (P ++ (A1 ++ (B1 ++ (A2 ++ (B2 ++ Q))))) ∧ Kept (fun i => i = g) w wx)
          case first =>
            cases k1
            · go_wp2_with fail
              go_meet
              case rel =>
                refine ⟨?_, hkr.mono (fun _ _ f => f.elim)⟩
                have h0 := HS.out
                have hk := K1.out
                simp only [Bool.and_eq_false_iff, decide_eq_false_iff_not] at hk
                have h00 : A2.length = 0 ∨ B1.length = 0 := by
                  rcases hk with hk | hk
                  · left; omega
                  · right; omega
                rcases h00 with h00 | h00
                · obtain rfl := List.length_eq_zero_iff.1 h00
                  simpa using hown
                · obtain rfl := List.length_eq_zero_iff.1 h00
                  simpa using hown
            · have hk := K1.out
              simp only [Bool.and_eq_true, decide_eq_true_eq] at hk
              have h0 := HS.out
              have hN0 := HH.out.2.2.2.2.2.1
              rw [h0.1, h0.2.1] at hN0
              have hro := rotate_any bb wr g c N (P ++ A1) A2 B1 (B2 ++ Q) (.func (.func 38) #[] #[]) i m e (by simpa using hown) (by simpa using hN0) hlen (fun h => by have h9 := congrArg List.length h; rw [List.length_nil] at h9; omega) (fun h => by have h9 := congrArg List.length h; rw [List.length_nil] at h9; omega) (by rw [List.length_append]; have := HH.out.1; omega) (by omega) (by omega)
              have HRO := Lib.hid hro
              clear hk h0 hN0 hro hown
              go_wp2_with fail
              refine HRO.out.mono ?_
              rintro e2 w2 ⟨rfl, ho2, hk2⟩
              go_wp2_with fail
              go_meet
              case rel => exact ⟨by simpa using ho2, (hkr.mono (fun _ _ f => f.elim)).trans hk2 (fun _ _ h => h)⟩
          case rest =>
            clear hown hkr
            obtain ⟨hown, hkr⟩ := hcut
            go_upto_region 41 with fail
            go_cut [199] from 192 to 199 (fun s199 wx => s199 = .bool (decide (a < i) && decide (i < M)) ∧ wx = wc)
            case first =>
              by_cases hs1 : a < i
              · by_cases hs2 : i < M
                · go_wp2_with fail
                  go_meet
                  case rel => exact ⟨by simp [hs1, hs2], rfl⟩
                · go_wp2_with fail
                  go_meet
                  case rel => exact ⟨by simp [hs1, hs2], rfl⟩
              · go_wp2_with fail
                go_meet
                case rel => exact ⟨by simp [hs1], rfl⟩
            case rest =>
              obtain ⟨rfl, hwx⟩ := hcut
              obtain rfl := hwx.symm
              obtain ⟨k2, hk2⟩ : ∃ k2, (decide (a < i) && decide (i < M)) = k2 := ⟨_, rfl⟩
              rw [hk2]
              have K2 := Lib.hid hk2
              clear hk2
              go_upto_if 199 with fail
              go_cut [] from 200 to 205 (fun wx => (∃ C1, StP (A1 ++ B1) C1 ∧ OwnP bb wx (.slice (some ⟨g, 0, none⟩) N c) (P ++ (C1 ++ (A2 ++ (B2 ++ Q))))) ∧ Kept (fun i => i = g) w wx)
              case first =>
                cases k2
                · go_wp2_with fail
                  go_meet
                  case rel =>
                    have h0 := HS.out
                    have hk := K2.out
                    simp only [Bool.and_eq_false_iff, decide_eq_false_iff_not] at hk
                    have h00 : A1.length = 0 ∨ B1.length = 0 := by
                      rcases hk with hk | hk
                      · left; omega
                      · right; omega
                    refine ⟨⟨A1 ++ B1, ?_, by simpa using hown⟩, hkr⟩
                    obtain ⟨-, -, -, -, -, -, -, -, hAs, hBs, -⟩ := h0
                    refine StP.refl ?_
                    rcases h00 with h00 | h00
                    · obtain rfl := List.length_eq_zero_iff.1 h00
                      simpa using (List.pairwise_append.1 hBs).1
                    · obtain rfl := List.length_eq_zero_iff.1 h00
                      simpa using (List.pairwise_append.1 hAs).1
                · have hk := K2.out
                  simp only [Bool.and_eq_true, decide_eq_true_eq] at hk
                  have h0 := HS.out
                  obtain ⟨i1, i2, i3, i4, i5, hN0, i6, -⟩ := HH.out
                  have hl1 := congrArg List.length h0.1
                  have hl2 := congrArg List.length h0.2.1
                  rw [h0.1, h0.2.1] at hN0
                  simp only [List.length_append] at hl1 hl2 hN0
                  have hro := IH.out bb wc g c N P A1 B1 (A2 ++ (B2 ++ Q)) a i M (by omega) hown (by simp only [List.length_append]; omega) hlen (List.pairwise_append.1 h0.2.2.2.2.2.2.2.2.1).1 (List.pairwise_append.1 h0.2.2.2.2.2.2.2.2.2.1).1 (fun h => by have h9 := congrArg List.length h; rw [List.length_nil] at h9; omega) (fun h => by have h9 := congrArg List.length h; rw [List.length_nil] at h9; omega) i1 (by omega) (by omega)
                  have HRO := Lib.hid hro
                  clear hk h0 hN0 hro hown i1 i2 i3 i4 i5 i6 hl1 hl2
                  go_wp2_with fail
                  refine HRO.out.mono ?_
                  rintro e2 w2 ⟨rfl, ⟨C1, hC1, ho2⟩, hk2⟩
                  go_wp2_with fail
                  go_meet
                  case rel => exact ⟨⟨C1, hC1, ho2⟩, hkr.trans hk2 (fun _ _ h => h)⟩
              case rest =>
                clear hown hkr
                obtain ⟨⟨C1, hC1, hown⟩, hkr⟩ := hcut
                go_upto_region 43 with fail
                go_cut [213] from 206 to 213 (fun s213 wx => s213 = .bool (decide (M < e) && decide (e < b)) ∧ wx = wc)
                case first =>
                  by_cases hs1 : M < e
                  · by_cases hs2 : e < b
                    · go_wp2_with fail
                      go_meet
                      case rel => exact ⟨by simp [hs1, hs2], rfl⟩
                    · go_wp2_with fail
                      go_meet
                      case rel => exact ⟨by simp [hs1, hs2], rfl⟩
                  · go_wp2_with fail
                    go_meet
                    case rel => exact ⟨by simp [hs1], rfl⟩
                case rest =>
                  obtain ⟨rfl, hwx⟩ := hcut
                  obtain rfl := hwx.symm
                  obtain ⟨k3, hk3⟩ : ∃ k3, (decide (M < e) && decide (e < b)) = k3 := ⟨_, rfl⟩
                  rw [hk3]
                  have K3 := Lib.hid hk3
                  clear hk3
                  go_upto_if 213 with fail
                  cases k3
                  · go_wp2
                    go_end0
                    refine ⟨rfl, ?_, hkr⟩
                    have h0 := HS.out
                    have hk := K3.out
                    simp only [Bool.and_eq_false_iff, decide_eq_false_iff_not] at hk
                    have h00 : A2.length = 0 ∨ B2.length = 0 := by
                      rcases hk with hk | hk
                      · left; omega
                      · right; omega
                    obtain ⟨rfl, rfl, -, -, -, -, hab, hba, hAs, hBs, -⟩ := h0
                    refine ⟨C1 ++ (A2 ++ B2), StP.halves hC1 ?_ hAs hBs hab hba, by simpa using hown⟩
                    refine StP.refl ?_
                    rcases h00 with h00 | h00
                    · obtain rfl := List.length_eq_zero_iff.1 h00
                      simpa using (List.pairwise_append.1 hBs).2.1
                    · obtain rfl := List.length_eq_zero_iff.1 h00
                      simpa using (List.pairwise_append.1 hAs).2.1
                  · have hk := K3.out
                    simp only [Bool.and_eq_true, decide_eq_true_eq] at hk
                    have h0 := HS.out
                    obtain ⟨i1, i2, i3, i4, i5, hN0, i6, -⟩ := HH.out
                    have hl1 := congrArg List.length h0.1
                    have hl2 := congrArg List.length h0.2.1
                    have hl3 := hC1.len
                    rw [h0.1, h0.2.1] at hN0
                    simp only [List.length_append] at hl1 hl2 hl3 hN0
                    have hro := IH.out bb wc g c N (P ++ C1) A2 B2 Q M e b (by omega) (by simpa using hown) (by simp only [List.length_append]; omega) hlen (List.pairwise_append.1 h0.2.2.2.2.2.2.2.2.1).2.1 (List.pairwise_append.1 h0.2.2.2.2.2.2.2.2.2.1).2.1 (fun h => by have h9 := congrArg List.length h; rw [List.length_nil] at h9; omega) (fun h => by have h9 := congrArg List.length h; rw [List.length_nil] at h9; omega) (by rw [List.length_append]; omega) (by omega) (by omega)
                    have HRO := Lib.hid hro
                    clear hk h0 hN0 hro hown i1 i2 i3 i4 i5 i6 hl1 hl2 hl3
                    go_wp2_with fail
                    refine HRO.out.mono ?_
                    rintro e2 w2 ⟨rfl, ⟨C2, hC2, ho2⟩, hk2⟩
                    go_wp2
                    go_end0
                    obtain ⟨rfl, rfl, -, -, -, -, hab, hba, hAs, hBs, -⟩ := HS.out
                    exact ⟨rfl, ⟨C1 ++ C2, StP.halves hC1 hC2 hAs hBs hab hba, by simpa using ho2⟩, hkr.trans hk2 (fun _ _ h => h)⟩
end Go.Proofs.YtemilbemdlpkaaaGreatDoor
