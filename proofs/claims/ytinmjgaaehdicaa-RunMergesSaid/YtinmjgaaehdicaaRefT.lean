/- espalierref17.Read. -/
import Derived.Test.YtinmjgaaehdicaaRefR
import Derived.Test.YtinmjgaaehdicaaStr
namespace Go.Proofs.Ytinmjgaaehdicaa
open Go.RowKit

/-- n pairs of words. -/
def wordsP : Nat → List UInt8 → List (Nat × Nat)
  | 0, _ => []
  | n + 1, l => (wordFrom 0 (l.take 8), wordFrom 0 ((l.drop 8).take 8)) :: wordsP n (l.drop 16)
def risesB : Nat → List (Nat × Nat) → Bool
  | _, [] => true
  | last, p :: l => decide (last < p.1) && risesB p.1 l
def readR (bs : List UInt8) : List (Nat × Nat) × Bool :=
  if (numB bs).2.2 ≠ 0 ∨ 65536 < (numB bs).1 ∨ bs.length ≠ (numB bs).2.1 + 16 * (numB bs).1 + 8 then ([], false)
  else if risesB 0 (wordsP (numB bs).1 (bs.drop (numB bs).2.1)) = true then (wordsP (numB bs).1 (bs.drop (numB bs).2.1), decide (bytesOf (wordsP (numB bs).1 (bs.drop (numB bs).2.1)) = bs)) else ([], false)

theorem numFrom_bounds (l : List UInt8) (i x : Nat) (hi : i ≤ 9) : (numFrom i x l).2.2 = 0 → i < (numFrom i x l).2.1 ∧ (numFrom i x l).2.1 ≤ i + l.length ∧ (numFrom i x l).2.1 ≤ 10 := by
  induction l generalizing i x with
  | nil => intro h; simp [numFrom] at h
  | cons c l ih =>
    intro h
    unfold numFrom at h ⊢
    split at h
    · simp at h
    · rename_i hc
      rw [if_neg hc]
      split at h
      · rename_i hs
        rw [if_pos hs]
        simp only [List.length_cons]
        omega
      · rename_i hs
        rw [if_neg hs]
        have h9 : i ≠ 9 := by intro e; subst e; have := c.toNat_lt; omega
        have := ih (i + 1) _ (by omega) h
        simp only [List.length_cons]
        omega

theorem risesB_iff (last : Nat) (l : List (Nat × Nat)) : risesB last l = true ↔ l.Pairwise (fun x y => x.1 < y.1) ∧ ∀ p ∈ l, last < p.1 := by
  induction l generalizing last with
  | nil => simp [risesB]
  | cons q l ih =>
    unfold risesB
    rw [Bool.and_eq_true, decide_eq_true_eq, ih, List.pairwise_cons]
    constructor
    · rintro ⟨h1, h2, h3⟩
      refine ⟨⟨h3, h2⟩, fun p hp => ?_⟩
      rcases List.mem_cons.1 hp with rfl | hp
      · exact h1
      · have := h3 p hp; omega
    · rintro ⟨⟨h3, h2⟩, h4⟩
      exact ⟨h4 q (by simp), h2, h3⟩
theorem rises_yes {l : List (Nat × Nat)} (h : ∀ t (ht : t < l.length), l[t].1 ≠ 0 ∧ ∀ s (hs : s < l.length), t = s + 1 → l[s].1 < l[t].1) : risesB 0 l = true := by
  rw [risesB_iff]
  constructor
  · rw [List.pairwise_iff_getElem]
    intro i j hi hj hij
    induction j generalizing i with
    | zero => omega
    | succ j ih =>
      have h1 := (h (j + 1) hj).2 j (by omega) rfl
      rcases Nat.lt_or_ge i j with hlt | hge
      · have := ih i hi (by omega) hlt; omega
      · obtain rfl : i = j := by omega
        exact h1
  · intro p hp
    obtain ⟨i, hi, rfl⟩ := List.getElem_of_mem hp
    exact Nat.pos_of_ne_zero (h i hi).1
theorem rises_no {l : List (Nat × Nat)} (t : Nat) (ht : t < l.length) (h : l[t].1 = 0 ∨ ∃ s, ∃ hs : s < l.length, t = s + 1 ∧ l[t].1 ≤ l[s].1) : risesB 0 l = false := by
  cases hr : risesB 0 l with
  | false => rfl
  | true =>
    rw [risesB_iff] at hr
    rcases h with h | ⟨s, hs, rfl, h⟩
    · have := hr.2 _ (List.getElem_mem ht); omega
    · have := List.pairwise_iff_getElem.1 hr.1 s (s + 1) hs ht (by omega); omega

theorem strB_toList (x : List UInt8) : (strB x).toList = x := by rw [Lib.toList_data]; simp [strB]
theorem strB_eq (x y : List UInt8) : ((strB x).toList == (strB y).toList) = decide (x = y) := by
  rw [strB_toList, strB_toList]
  by_cases h : x = y
  · simp [h]
  · simp [h]
set_option maxRecDepth 100000 in
set_option maxHeartbeats 1500000 in
theorem rread_new (w : World) (a : Option Addr) (c : Nat) (bs : List UInt8) (h : IsB w (.slice a bs.length c) bs) (hlen : bs.length ≤ 10000) :
    Calls Try.prog 38 #[.slice a bs.length c] w fun e w' => ∃ v, e = .returned (.tuple #[v, .bool (readR bs).2]) ∧ IsP w' v (readR bs).1 ∧ Kept (fun _ => False) w w' ∧ NewP w.heap.size w' v := by
  have hR : Hid (readR bs = if (numB bs).2.2 ≠ 0 ∨ 65536 < (numB bs).1 ∨ bs.length ≠ (numB bs).2.1 + 16 * (numB bs).1 + 8 then ([], false)
  else if risesB 0 (wordsP (numB bs).1 (bs.drop (numB bs).2.1)) = true then (wordsP (numB bs).1 (bs.drop (numB bs).2.1), decide (bytesOf (wordsP (numB bs).1 (bs.drop (numB bs).2.1)) = bs)) else ([], false)) := Lib.hid rfl
  have hN := rnumber_any w a c bs h
  have hbd := numFrom_bounds bs 0 0 (by omega)
  change (numB bs).2.2 = 0 → _ < (numB bs).2.1 ∧ (numB bs).2.1 ≤ 0 + bs.length ∧ (numB bs).2.1 ≤ 10 at hbd
  generalize readR bs = R at hR ⊢
  obtain ⟨⟨n, k, er⟩, hnb⟩ : ∃ q, numB bs = q := ⟨_, rfl⟩
  rw [hnb] at hR hN hbd
  simp only at hR hN hbd
  clear hnb
  have HN := Lib.hid hN
  clear hN
  go_enter Try.func38, Try.ntmps38
  go_wp2_with fail
  refine HN.out.mono ?_
  rintro e w1 ⟨rfl, rfl⟩
  by_cases he : er = 0
  · obtain ⟨hk0, hkb, hk10⟩ := hbd he
    by_cases hbig : 65536 < n
    · have hbig2 : (65536 : Int) < (n : Int) := by omega
      rw [if_pos (.inr (.inl hbig))] at hR
      clear hbig
      go_wp2
      go_ret2
      rw [hR.out]
      exact ⟨_, rfl, ⟨none, 0, rfl, Nat.le_refl _, by simp [maxLen], fun p hp => by simp at hp, .inl rfl⟩, Kept.refl _ _, NewP.nil _ _ _ _⟩
    · have hbig2 : ¬ (65536 : Int) < (n : Int) := by omega
      by_cases hle : bs.length = k + 16 * n + 8
      · have hle2 : ((bs.length : Int) != (k : Int) + 16 * (n : Int) + 8) = false := by simp; omega
        rw [if_neg (by omega)] at hR
        have HLE := Lib.hid hle
        have hn600 : n ≤ 625 := by omega
        clear hle
        obtain ⟨sv, hsl, hBk, hob, -⟩ := bytes_low h (k := k) (by omega)
        obtain ⟨W1, hW1⟩ : ∃ W, w.alloc (.cells #[.slice sv (bs.length - k) (c - k), .int .i64 0] 105) = W := ⟨_, rfl⟩
        have hkW : Kept (fun _ => False) w W1 := by rw [← hW1]; exact (Kept.refl _ _).alloc _
        have hsW : W1.heap.size = w.heap.size + 1 := by rw [← hW1]; simp
        have hbW : W1.heap[w.heap.size]? = some (.cells #[.slice sv (bs.length - k) (c - k), .int .i64 0] 105 (0, 0)) := by rw [← hW1]; exact World.alloc_heap_new _ _
        have hBW := hBk.keptF hkW (fun _ _ f => f)
        obtain ⟨L, hL⟩ : ∃ L, bs.drop k = L := ⟨_, rfl⟩
        have hLl : L.length = 16 * n + 8 := by rw [← hL, List.length_drop]; have := HLE.out; omega
        rw [hL] at hR hBW
        have HH := Lib.hid (And.intro hkW (And.intro hsW (And.intro hbW (And.intro hBW (And.intro hL (And.intro hLl hW1))))))
        clear hkW hsW hbW hBW hL hLl hW1 hBk
        go_wp2_with fail
        rw [HH.out.2.2.2.2.2.2]
        obtain ⟨hkW, hsW, hbW, hBW, hL, hLl, -⟩ := HH.out
        go_loopw [8, 9] (fun ov' i wr => Kept (fun _ => False) w wr ∧ ∃ (j : Nat) (acc : List (Nat × Nat)) (ra : Option Addr) (rc : Nat), j ≤ n ∧ i = .int .i64 j ∧ acc.length = j ∧ Hid (wordsP n L = acc ++ wordsP (n - j) (L.drop (16 * j))) ∧ OwnP W1.heap.size wr ov' acc ∧ (∀ p ∈ acc, p.1 < 18446744073709551616 ∧ p.2 < 18446744073709551616) ∧ wr.heap[w.heap.size]? = some (.cells #[.slice ra (L.drop (16 * j)).length rc, .int .i64 0] 105 (0, 0)) ∧ IsB wr (.slice ra (L.drop (16 * j)).length rc) (L.drop (16 * j)) ∧ (∀ g, (Value.slice ra (L.drop (16 * j)).length rc).ownBlock = some g → g < w.heap.size) ∧ W1.heap.size ≤ wr.heap.size) (fun _ i _ => n - (intOf i).toNat)
        case atStart =>
          have e0 : L.drop (16 * 0) = L := by simp
          have e1 : bs.length - k = L.length := by rw [← hL, List.length_drop]
          refine ⟨hkW, 0, [], sv, c - k, Nat.zero_le _, rfl, rfl, Lib.hid (by rw [e0]; rfl), OwnP.nil _ _, fun p hp => by simp at hp, ?_, ?_, ?_, Nat.le_refl _⟩
          · rw [e0, ← e1]; exact hbW
          · rw [e0, ← e1]; exact hBW
          · rw [e0, ← e1]
            intro g' e
            exact IsB.block_lt h (fun e => by rw [e] at hkb; simp at hkb; omega) g' (hob g' e)
        case round =>
          obtain ⟨hkr, j, acc, ra, rc, hj, rfl, hacc, HW, hown, hab, hrb, hrB, hro, hws⟩ := hrel
          have c0 : wr.cell? ⟨w.heap.size, 0, none⟩ = some (.slice ra (L.drop (16 * j)).length rc) := by simp [World.cell?, hrb]
          have c1 : wr.cell? ⟨w.heap.size, 1, none⟩ = some (.int .i64 0) := by simp [World.cell?, hrb]
          have hwj : IntKind.i64.wrap (n : Int) = (n : Int) := by rw [IntKind.wrap_i64]; omega
          by_cases hlt : j < n
          · have hLj : (L.drop (16 * j)).length = 16 * n + 8 - 16 * j := by rw [List.length_drop, hLl]
            have HLj := Lib.hid hLj
            have hD := Lib.hid (rdo_any wr ra rc (L.drop (16 * j)) hrB (by omega) (by omega))
            have hWn : Hid (wordsP (n - j) (L.drop (16 * j)) = (wordFrom 0 ((L.drop (16 * j)).take 8), wordFrom 0 (((L.drop (16 * j)).drop 8).take 8)) :: wordsP (n - (j + 1)) (L.drop (16 * (j + 1)))) := Lib.hid (by
              rw [show n - j = (n - (j + 1)) + 1 from by omega]
              have e : L.drop (16 * (j + 1)) = (L.drop (16 * j)).drop 16 := by rw [List.drop_drop]; congr 1
              rw [e]; rfl)
            have hDD : Hid (L.drop (16 * (j + 1)) = ((L.drop (16 * j)).drop 8).drop 8) := Lib.hid (by rw [List.drop_drop, List.drop_drop]; congr 1)
            clear hLj hL hLl
            generalize L.drop (16 * j) = M at *
            go_wp2_with fail
            refine hD.out.mono ?_
            rintro e w3 ⟨a3, c3, rfl, hB3, ho3, hk3⟩
            obtain ⟨X, hX⟩ : ∃ X, wordFrom 0 (M.take 8) = X := ⟨_, rfl⟩
            rw [hX] at hWn ⊢
            have HX := Lib.hid hX
            clear hX
            obtain ⟨W4, hW4⟩ : ∃ W, w3.alloc (.cells #[.slice a3 (M.length - 8) c3, .int .i64 0] 105) = W := ⟨_, rfl⟩
            obtain ⟨W5, hW5⟩ : ∃ W, W4.alloc (.cells #[.int .u64 (X : Int), .slice none 0 0] 107) = W := ⟨_, rfl⟩
            have hk4 : Kept (fun _ => False) w3 W4 := by rw [← hW4]; exact (Kept.refl _ _).alloc _
            have hk5 : Kept (fun _ => False) W4 W5 := by rw [← hW5]; exact (Kept.refl _ _).alloc _
            have hs4 : W4.heap.size = w3.heap.size + 1 := by rw [← hW4]; simp
            have hs5 : W5.heap.size = w3.heap.size + 1 + 1 := by rw [← hW5]; simp [hs4]
            have hb4 : W4.heap[w3.heap.size]? = some (.cells #[.slice a3 (M.length - 8) c3, .int .i64 0] 105 (0, 0)) := by rw [← hW4]; exact World.alloc_heap_new _ _
            have hb5 : W5.heap[w3.heap.size + 1]? = some (.cells #[.int .u64 (X : Int), .slice none 0 0] 107 (0, 0)) := by rw [← hW5, ← hs4]; exact World.alloc_heap_new _ _
            have hb4' := (hk5.block _ (by omega) (fun f => f)).trans hb4
            have hk35 := hk4.more hk5 (fun _ f => f.elim)
            have hD2 := rdo_any W5 a3 c3 (M.drop 8) (by rw [List.length_drop]; exact hB3.keptF hk35 (fun _ _ f => f)) (by rw [List.length_drop]; have := HLj.out; omega) (by rw [List.length_drop]; have := HLj.out; omega)
            rw [List.length_drop] at hD2
            have HD2 := Lib.hid hD2
            have HWS := Lib.hid (And.intro hW4 (And.intro hW5 (And.intro hs4 (And.intro hs5 (And.intro hb4' hb5)))))
            clear hD2 hW4 hW5 hs4 hs5 hb4 hb4' hb5
            go_wp2_with fail
            rw [HWS.out.1, HWS.out.2.1]
            refine HD2.out.mono ?_
            rintro e w6 ⟨a6, c6, rfl, hB6, ho6, hk6⟩
            obtain ⟨-, -, hs4, hs5, hb4, hb5⟩ := HWS.out
            obtain ⟨Y, hY⟩ : ∃ Y, wordFrom 0 ((M.drop 8).take 8) = Y := ⟨_, rfl⟩
            rw [hY] at hWn ⊢
            have HY := Lib.hid hY
            clear hY
            have b10 := (hk6.block _ (by omega) (fun f => f)).trans hb4
            have b11 := (hk6.block _ (by omega) (fun f => f)).trans hb5
            have hk36 := hk35.more hk6 (fun _ f => f.elim)
            have hwlt : w.heap.size < wr.heap.size := by omega
            have b7 := (hk36.block _ (by have := hk3.size; omega) (fun f => f)).trans ((hk3.block _ hwlt (fun f => f)).trans hrb)
            obtain ⟨W7, hW7⟩ : ∃ W, w6.alloc (.cells #[.int .u64 0, .slice none 0 0] 107) = W := ⟨_, rfl⟩
            have hk7 : Kept (fun _ => False) w6 W7 := by rw [← hW7]; exact (Kept.refl _ _).alloc _
            have hs7 : W7.heap.size = w6.heap.size + 1 := by rw [← hW7]; simp
            have b12 : W7.heap[w6.heap.size]? = some (.cells #[.int .u64 0, .slice none 0 0] 107 (0, 0)) := by rw [← hW7]; exact World.alloc_heap_new _ _
            have l7 := (Array.getElem?_eq_some_iff.1 b7).1
            have l10 := (Array.getElem?_eq_some_iff.1 b10).1
            have l11 := (Array.getElem?_eq_some_iff.1 b11).1
            have b7 := (hk7.block _ l7 (fun f => f)).trans b7
            have b10 := (hk7.block _ l10 (fun f => f)).trans b10
            have b11 := (hk7.block _ l11 (fun f => f)).trans b11
            have hne0 : w.heap.size < w3.heap.size := by have := hk3.size; omega
            obtain ⟨p10, hp10⟩ : ∃ p, w3.heap.size = p := ⟨_, rfl⟩
            obtain ⟨p12, hp12⟩ : ∃ p, w6.heap.size = p := ⟨_, rfl⟩
            obtain ⟨p7, hp7⟩ : ∃ p, w.heap.size = p := ⟨_, rfl⟩
            rw [hp7] at b7 l7 hne0
            rw [hp10] at b10 b11 l10 l11 hne0
            rw [hp12] at b12 l7 l10 l11
            have d0 : W7.cell? ⟨p10, 0, none⟩ = some (.slice a3 (M.length - 8) c3) := by simp [World.cell?, b10]
            have d1 : W7.cell? ⟨p10, 1, none⟩ = some (.int .i64 0) := by simp [World.cell?, b10]
            have d2 : ∀ i, W7.frozen? ⟨p10, i, none⟩ = false := fun i => by simp [World.frozen?, b10]
            have d3 : W7.cell? ⟨p10 + 1, 0, none⟩ = some (.int .u64 X) := by simp [World.cell?, b11]
            have d5 : W7.cell? ⟨p7, 0, none⟩ = some (.slice ra M.length rc) := by simp [World.cell?, b7]
            have d6 : W7.cell? ⟨p7, 1, none⟩ = some (.int .i64 0) := by simp [World.cell?, b7]
            have d7 : ∀ i, W7.frozen? ⟨p7, i, none⟩ = false := fun i => by simp [World.frozen?, b7]
            have d8 : W7.cell? ⟨p12, 0, none⟩ = some (.int .u64 0) := by simp [World.cell?, b12]
            have d9 : W7.cell? ⟨p12, 1, none⟩ = some (.slice none 0 0) := by simp [World.cell?, b12]
            have d10 : ∀ i, W7.frozen? ⟨p12, i, none⟩ = false := fun i => by simp [World.frozen?, b12]
            have n1 : ¬ p10 = p7 := by omega
            have n2 : ¬ p7 = p10 := by omega
            have n3 : ¬ p12 = p7 := by omega
            have n4 : ¬ p7 = p12 := by omega
            have n5 : ¬ p12 = p10 := by omega
            have n6 : ¬ p10 = p12 := by omega
            have n7 : ¬ p10 + 1 = p12 := by omega
            have n8 : ¬ p12 = p10 + 1 := by omega
            have n9 : ¬ p10 + 1 = p7 := by omega
            have n10 : ¬ p7 = p10 + 1 := by omega
            have hk67 := (hk3.more hk36 (fun _ f => f.elim)).more hk7 (fun _ f => f.elim)
            obtain ⟨V, hV⟩ : ∃ V, Value.slice a6 (M.length - 8 - 8) c6 = V := ⟨_, rfl⟩
            obtain ⟨W8, hW8⟩ : ∃ W, (((((W7.setCell ⟨p10, 0, none⟩ V).setCell ⟨p10, 1, none⟩ (.int .i64 0)).setCell ⟨p12, 0, none⟩ (.int .u64 (Y : Int))).setCell ⟨p12, 1, none⟩ (.slice none 0 0)).setCell ⟨p7, 0, none⟩ V).setCell ⟨p7, 1, none⟩ (.int .i64 0) = W := ⟨_, rfl⟩
            have hwr10 : wr.heap.size ≤ p10 := by rw [← hp10]; exact hk3.size
            have hkS : Kept (fun i => i = p7 ∨ wr.heap.size ≤ i) W7 W8 := by
              rw [← hW8]
              exact ((((((Kept.refl _ W7).setCell (p := ⟨p10, 0, none⟩) (fun _ => .inr hwr10) V).setCell (p := ⟨p10, 1, none⟩) (fun _ => .inr hwr10) (.int .i64 0)).setCell (p := ⟨p12, 0, none⟩) (fun _ => .inr (by simp only; omega)) (.int .u64 (Y : Int))).setCell (p := ⟨p12, 1, none⟩) (fun _ => .inr (by simp only; omega)) (.slice none 0 0)).setCell (p := ⟨p7, 0, none⟩) (fun _ => .inl rfl) V).setCell (p := ⟨p7, 1, none⟩) (fun _ => .inl rfl) (.int .i64 0)
            have hk8 : Kept (fun i => i = p7 ∨ wr.heap.size ≤ i) wr W8 := (hk67.mono (fun _ _ f => f.elim)).trans hkS (fun _ _ f => f)
            have b7' : W8.heap[p7]? = some (.cells #[V, .int .i64 0] 105 (0, 0)) := by
              rw [← hW8]
              have q0 := (heap_setCell_ne (w := W7) (b := p10) (o := 0) (k := p7) (by omega) V).trans b7
              have q1 := (heap_setCell_ne (b := p10) (o := 1) (k := p7) (by omega) (.int .i64 0)).trans q0
              have q2 := (heap_setCell_ne (b := p12) (o := 0) (k := p7) (by omega) (.int .u64 (Y : Int))).trans q1
              have q3 := (heap_setCell_ne (b := p12) (o := 1) (k := p7) (by omega) (.slice none 0 0)).trans q2
              exact heap_setCell_row (o := 1) (heap_setCell_row (o := 0) q3 V) (.int .i64 0)
            have b11' : W8.heap[p10 + 1]? = some (.cells #[.int .u64 (X : Int), .slice none 0 0] 107 (0, 0)) := by
              rw [← hW8]
              have q0 := (heap_setCell_ne (w := W7) (b := p10) (o := 0) (k := p10 + 1) (by omega) V).trans b11
              have q1 := (heap_setCell_ne (b := p10) (o := 1) (k := p10 + 1) (by omega) (.int .i64 0)).trans q0
              have q2 := (heap_setCell_ne (b := p12) (o := 0) (k := p10 + 1) (by omega) (.int .u64 (Y : Int))).trans q1
              have q3 := (heap_setCell_ne (b := p12) (o := 1) (k := p10 + 1) (by omega) (.slice none 0 0)).trans q2
              have q4 := (heap_setCell_ne (b := p7) (o := 0) (k := p10 + 1) (by omega) V).trans q3
              exact (heap_setCell_ne (b := p7) (o := 1) (k := p10 + 1) (by omega) (.int .i64 0)).trans q4
            have b12' : W8.heap[p12]? = some (.cells #[.int .u64 (Y : Int), .slice none 0 0] 107 (0, 0)) := by
              rw [← hW8]
              have q0 := (heap_setCell_ne (w := W7) (b := p10) (o := 0) (k := p12) (by omega) V).trans b12
              have q1 := (heap_setCell_ne (b := p10) (o := 1) (k := p12) (by omega) (.int .i64 0)).trans q0
              have q3 := heap_setCell_row (o := 1) (heap_setCell_row (o := 0) q1 (.int .u64 (Y : Int))) (.slice none 0 0)
              have q4 := (heap_setCell_ne (b := p7) (o := 0) (k := p12) (by omega) V).trans q3
              exact (heap_setCell_ne (b := p7) (o := 1) (k := p12) (by omega) (.int .i64 0)).trans q4
            have e11 : W8.cell? ⟨p10 + 1, 0, none⟩ = some (.int .u64 X) := by simp [World.cell?, b11']
            have e12 : W8.cell? ⟨p12, 0, none⟩ = some (.int .u64 Y) := by simp [World.cell?, b12']
            clear b11' b12'
            have hown8 : OwnP W1.heap.size W8 u8 acc := ownsRow_keptF hown hk8 (fun g' hg' e f => by
              have := (World.ownsRow.lt hown g' e).2
              rcases f with f | f <;> omega)
            have hB8 : IsB W8 V ((M.drop 8).drop 8) := by
              rw [← hV]
              refine IsB.keptF (hB6.keptF hk7 (fun _ _ f => f)) hkS (fun g' e f => ?_)
              have := hro g' (ho3 g' (ho6 g' e))
              rcases f with f | f <;> omega
            have hV8 : ∀ g', V.ownBlock = some g' → g' < p7 := fun g' e => by
              rw [← hV] at e
              have := hro g' (ho3 g' (ho6 g' e)); omega
            have hkw8 : Kept (fun _ => False) w W8 := hkr.more hk8 (fun i f => by rcases f with f | f <;> omega)
            obtain ⟨wA, hwA, hkA, hszA, hA0, hA1⟩ := pair_new W8 X Y 75
            have hs8 : wr.heap.size ≤ W8.heap.size := hk8.size
            obtain ⟨v9, w9, hrun9, ho9, hk9⟩ := (hown8.kept hkA (fun _ f => f.elim)).push (by omega) ⟨W8.heap.size, 0, none⟩ (X, Y) hA0 hA1 (by omega)
            have hVl : V = .slice a6 (L.drop (16 * (j + 1))).length c6 := by rw [← hV, hDD.out, List.length_drop, List.length_drop]
            have hXl : X < 18446744073709551616 ∧ Y < 18446744073709551616 := ⟨by rw [← HX.out]; exact wordFrom_lt 0 _ (by omega), by rw [← HY.out]; exact wordFrom_lt 0 _ (by omega)⟩
            have HF := Lib.hid (And.intro b7' (And.intro hB8 (And.intro hV8 (And.intro hkw8 (And.intro hkA (And.intro ho9 (And.intro hk9 (And.intro hVl (And.intro hszA hs8)))))))))
            clear b7' hB8 hV8 hkw8 ho9 hk9 hVl
            subst hV
            clear l7 l10 l11 hne0 b7 b10 b11 b12 hs7 hown8 hkS hk8 hs8 hszA
            go_wp2_with (at_builtin; refine wpList_append_run rfl (.tmp 60) (.tmp 66) #[54, 54] rfl _ _ _ _ rfl rfl hrun9 ?_)
            subst hp7
            go_roundw
            case rel =>
              obtain ⟨b7', hB8, hV8, hkw8, hkA, ho9, hk9, hVl, hszA, hs8⟩ := HF.out
              have hpW : w.heap.size < W1.heap.size := by rw [hsW]; omega
              have hA8 : W8.heap.size ≤ wA.heap.size := hkA.size
              have hp8 : w.heap.size < W8.heap.size := (Array.getElem?_eq_some_iff.1 b7').1
              refine ⟨(hkw8.more hkA (fun _ f => f.elim)).more hk9 (fun i f => by omega), j + 1, acc ++ [(X, Y)], a6, c6, hlt, by go_num, by simp [hacc], Lib.hid (by rw [HW.out, hWn.out, List.append_assoc, List.singleton_append]), ho9, ?_, ?_, ?_, ?_, by have := hk9.size; omega⟩
              · intro p hp
                rcases List.mem_append.1 hp with hp | hp
                · exact hab p hp
                · rw [List.mem_singleton.1 hp]; exact hXl
              · rw [← hVl]
                exact (hk9.block w.heap.size (by omega) (fun f => by omega)).trans ((hkA.block w.heap.size hp8 (fun f => f)).trans b7')
              · rw [← hVl, hDD.out]
                exact IsB.keptF (hB8.keptF hkA (fun _ _ f => f)) hk9 (fun g' e f => by have := hV8 g' e; omega)
              · rw [← hVl]
                exact hV8
            case measure => simp [intOf]; omega
          · obtain rfl : j = n := by omega
            have HA : Hid (wordsP acc.length L = acc) := Lib.hid (by rw [hacc]; have := HW.out; rw [Nat.sub_self] at this; simpa [wordsP] using this)
            have hacl : acc.length ≤ 625 := by omega
            have HAC := Lib.hid hacc
            clear hacc hj
            obtain ⟨oa, oc, rfl, hoc, -⟩ := hown.form
            have hkwr := hkr
            go_wp2_with fail
            go_loopw [13] (fun i wr' => Kept (fun _ => False) wr wr' ∧ ∃ t : Nat, t ≤ acc.length ∧ i = .int .i64 t ∧ Hid (∀ u (hu : u < acc.length), u < t → acc[u].1 ≠ 0 ∧ ∀ s (hs : s < acc.length), u = s + 1 → acc[s].1 < acc[u].1)) (fun i _ => acc.length - (intOf i).toNat)
            case atStart => exact ⟨Kept.refl _ _, 0, Nat.zero_le _, rfl, Lib.hid (fun _ _ h => absurd h (Nat.not_lt_zero _))⟩
            case round =>
              obtain ⟨hk2, t, ht, rfl, hall⟩ := hrel
              have hown2 := hown.kept hk2 (fun _ f => f.elim)
              by_cases hlt2 : t < acc.length
              · obtain ⟨g2, rfl, -, -, hc2⟩ := hown2.at (by intro e; rw [e] at hlt2; simp at hlt2)
                have e0 := hc2 _ _ (flatP_get acc t hlt2).1
                obtain ⟨x, hx⟩ : ∃ x, acc[t].1 = x := ⟨_, rfl⟩
                rw [hx] at e0
                have HXX := Lib.hid hx
                have hno : ∀ hz : x = 0, Hid (R = ([], false)) := fun hz => Lib.hid (by rw [hR.out, ← HAC.out, HA.out, rises_no t hlt2 (.inl (by rw [hx, hz]))]; rfl)
                clear hx
                by_cases hx0 : x = 0
                · have hRR := hno hx0
                  subst hx0
                  clear hno hc2
                  go_wp2_with fail
                  go_quiet (fail)
                  go_wp2
                  go_ret2
                  rw [hRR.out]
                  exact ⟨_, rfl, ⟨none, 0, rfl, Nat.le_refl _, by simp [maxLen], fun p hp => by simp at hp, .inl rfl⟩, (hkwr.more hk2 (fun _ f => f.elim)).drewN _, NewP.nil _ _ _ _⟩
                · have hx1 : ((x : Int) == 0) = false := by simp; omega
                  clear hno
                  by_cases ht0 : t = 0
                  · have ht1 : decide ((0 : Int) < (t : Int)) = false := by simp; omega
                    have ht1b : decide (0 < t) = false := by simp; omega
                    have HT0 := Lib.hid ht0
                    clear hc2 ht0
                    go_wp2_with fail
                    go_quiet (fail)
                    go_wp2
                    go_roundw
                    case rel =>
                      refine ⟨hk2.drewN _, t + 1, hlt2, by go_num, Lib.hid (fun u hu hut => ?_)⟩
                      obtain rfl : u = t := by have := HT0.out; omega
                      exact ⟨by rw [HXX.out]; exact hx0, fun s hs e => by have := HT0.out; omega⟩
                    case measure => simp [intOf]; omega
                  · obtain ⟨m, hmt⟩ : ∃ m, Hid (t = m + 1) := ⟨t - 1, Lib.hid (by omega)⟩
                    have hml : m < acc.length := by have := hmt.out; omega
                    have ht1 : decide ((0 : Int) < (t : Int)) = true := by simp; omega
                    have ht1b : decide (0 < t) = true := by simp; omega
                    have hwm : IntKind.i64.wrap ((t : Int) - 1) = (m : Int) := by have := hmt.out; rw [IntKind.wrap_i64]; omega
                    have e1 := hc2 _ _ (flatP_get acc m hml).1
                    obtain ⟨y, hy⟩ : ∃ y, acc[m].1 = y := ⟨_, rfl⟩
                    rw [hy] at e1
                    have HYY := Lib.hid hy
                    clear hy hc2 ht0
                    by_cases hyx : x ≤ y
                    · have hyx2 : (x : Int) ≤ (y : Int) := by omega
                      have hRR : Hid (R = ([], false)) := Lib.hid (by rw [hR.out, ← HAC.out, HA.out, rises_no t hlt2 (.inr ⟨m, hml, hmt.out, by rw [HXX.out, HYY.out]; exact hyx⟩)]; rfl)
                      go_wp2_with fail
                      go_quiet (fail)
                      go_wp2
                      go_ret2
                      rw [hRR.out]
                      exact ⟨_, rfl, ⟨none, 0, rfl, Nat.le_refl _, by simp [maxLen], fun p hp => by simp at hp, .inl rfl⟩, (hkwr.more hk2 (fun _ f => f.elim)).drewN _, NewP.nil _ _ _ _⟩
                    · have hyx2 : ¬ (x : Int) ≤ (y : Int) := by omega
                      go_wp2_with fail
                      go_quiet (fail)
                      go_wp2
                      go_roundw
                      case rel =>
                        refine ⟨hk2.drewN _, t + 1, hlt2, by go_num, Lib.hid (fun u hu hut => ?_)⟩
                        rcases Nat.lt_or_ge u t with hh | hh
                        · exact hall.out u hu hh
                        · obtain rfl : u = t := by omega
                          refine ⟨by rw [HXX.out]; exact hx0, fun s hs e => ?_⟩
                          obtain rfl : s = m := by have := hmt.out; omega
                          rw [HXX.out, HYY.out]; omega
                      case measure => simp [intOf]; omega
              · have hkww := hkwr.more hk2 (fun _ f => f.elim)
                have hRR : Hid (R = (acc, decide (bytesOf acc = bs))) := Lib.hid (by rw [hR.out, ← HAC.out, HA.out, rises_yes (fun u hu => hall.out u hu (by omega)), if_pos rfl])
                have hI2 := hown2.isP hab
                have hBb := (h.keptF hkww (fun _ _ f => f)).keptF (kept_drew wr) (fun _ _ f => f)
                have hRB := Lib.hid (rbytes_any wr.drew oa oc acc (hI2.kept (kept_drew wr)) (by omega))
                have hcv := conv_any hBb
                have HNP : Hid (NewP w.heap.size wr.drew (.slice oa acc.length oc)) := Lib.hid ((hown2.newP (by rw [hsW]; omega)).kept (kept_drew wr))
                have HI := Lib.hid (And.intro (hI2.kept (kept_drew wr)) (And.intro hBb (And.intro hkww hRR)))
                have hBb2 := Lib.hid hBb
                clear hI2 hBb hall hown hown2 hR hRR
                go_wp2_with fail
                go_region_held (fun w' => (convert 22 9 (.slice a bs.length c)).run Try.prog w' = .ok (.string (strB bs)) w')
                  (first | exact conv_any (IsB.keptF hBb2.out hf7.kept (fun _ _ f => f)) | exact hcv)
                  ((go_at_call 35; refine hRB.out.mono ?_; rintro e' w7 ⟨v7, rfl, hf7⟩; have hcv7 := conv_any hf7.own.isB; have hcv8 := conv_any (IsB.keptF hBb2.out hf7.kept (fun _ _ f => f)); obtain ⟨a7, c7, rfl, -, -⟩ := hf7.own.form))
                go_wp2
                go_ret2
                obtain ⟨q1, -, q3, q4⟩ := HI.out
                rw [q4]
                refine ⟨_, by rw [← strB_eq]; rfl, q1.kept hf7.kept, (q3.more (kept_drew wr) (fun _ f => f.elim)).more hf7.kept (fun _ f => f.elim), HNP.out.kept hf7.kept⟩
      · have hle2 : ((bs.length : Int) != (k : Int) + 16 * (n : Int) + 8) = true := by simp; omega
        rw [if_pos (.inr (.inr hle))] at hR
        clear hle
        go_wp2
        go_ret2
        rw [hR.out]
        exact ⟨_, rfl, ⟨none, 0, rfl, Nat.le_refl _, by simp [maxLen], fun p hp => by simp at hp, .inl rfl⟩, Kept.refl _ _, NewP.nil _ _ _ _⟩
  · rw [if_pos (.inl he)] at hR
    go_wp2
    go_ret2
    rw [hR.out]
    exact ⟨_, rfl, ⟨none, 0, rfl, Nat.le_refl _, by simp [maxLen], fun p hp => by simp at hp, .inl rfl⟩, Kept.refl _ _, NewP.nil _ _ _ _⟩
theorem rread_any (w : World) (a : Option Addr) (c : Nat) (bs : List UInt8) (h : IsB w (.slice a bs.length c) bs) (hlen : bs.length ≤ 10000) :
    Calls Try.prog 38 #[.slice a bs.length c] w fun e w' => ∃ v, e = .returned (.tuple #[v, .bool (readR bs).2]) ∧ IsP w' v (readR bs).1 ∧ Kept (fun _ => False) w w' :=
  (rread_new w a c bs h hlen).mono fun _ _ ⟨v, h1, h2, h3, _⟩ => ⟨v, h1, h2, h3⟩
end Go.Proofs.Ytinmjgaaehdicaa
