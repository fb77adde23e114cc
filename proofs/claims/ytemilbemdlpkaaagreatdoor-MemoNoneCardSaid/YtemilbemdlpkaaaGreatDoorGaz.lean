/- run.Make. -/
import Derived.Test.YtemilbemdlpkaaaGreatDoorGay
namespace Go.Proofs.YtemilbemdlpkaaaGreatDoor
open Go.RowKit Go.Shelf

def sortedP (l : List (Nat × Nat)) : List (Nat × Nat) := l.mergeSort fun x y => decide (x.1 ≤ y.1)
def makeOf (l : List (Nat × Nat)) : List UInt8 × Int :=
  if 65536 < l.length then ([], 3)
  else if ∃ p ∈ l, p.1 = 0 then ([], 2)
  else if ¬ (l.map (·.1)).Nodup then ([], 5)
  else (bytesOf (sortedP l), 0)

theorem sortedP_perm (l : List (Nat × Nat)) : (sortedP l).Perm l := List.mergeSort_perm _ _
theorem sortedP_le (l : List (Nat × Nat)) : (sortedP l).Pairwise (fun x y => x.1 ≤ y.1) := by
  have := List.pairwise_mergeSort (le := fun x y : Nat × Nat => decide (x.1 ≤ y.1)) (by intro a b c h1 h2; simp at *; omega) (by intro a b; simp; omega) l
  exact this.imp (fun h => by simpa using h)
theorem strict_of {l : List (Nat × Nat)} (h : l.Pairwise (fun x y => x.1 ≤ y.1)) (hn : (l.map (·.1)).Nodup) : l.Pairwise (fun x y => x.1 < y.1) := by
  rw [List.Nodup, List.pairwise_map] at hn
  exact (h.and hn).imp (fun ⟨h1, h2⟩ => by omega)
theorem sorted_eq {l l' : List (Nat × Nat)} (hp : l'.Perm l) (hs : l'.Pairwise (fun x y => x.1 < y.1)) : (l.map (·.1)).Nodup ∧ l' = sortedP l := by
  have hn : (l'.map (·.1)).Nodup := by
    rw [List.Nodup, List.pairwise_map]
    exact hs.imp (fun h => by omega)
  have hn2 : (l.map (·.1)).Nodup := (hp.map _).nodup_iff.1 hn
  have hs2 := strict_of (sortedP_le l) (((sortedP_perm l).map _).nodup_iff.2 hn2)
  exact ⟨hn2, List.Perm.eq_of_pairwise (fun a b _ _ h1 h2 => by omega) hs hs2 (hp.trans (sortedP_perm l).symm)⟩

theorem neighbours {l : List (Nat × Nat)} (hs : l.Pairwise (fun x y => x.1 ≤ y.1)) (h : ∀ k (hk : k + 1 < l.length), l[k + 1].1 ≠ l[k].1) : l.Pairwise (fun x y => x.1 < y.1) := by
  rw [List.pairwise_iff_getElem] at hs ⊢
  intro i j hi hj hij
  have h1 := hs i (j - 1 + 1) hi (by omega) (by omega)
  have h2 := h (j - 1) (by omega)
  have e : j - 1 + 1 = j := by omega
  simp only [e] at h1 h2
  rcases Nat.lt_or_ge i (j - 1) with hlt | hge
  · have h3 := hs i (j - 1) hi (by omega) hlt
    have h4 := hs (j - 1) j (by omega) hj (by omega)
    omega
  · have : i = j - 1 := by omega
    subst this
    omega
theorem dup_of {l l' : List (Nat × Nat)} (hp : l'.Perm l) (k : Nat) (hk : k + 1 < l'.length) (h : l'[k + 1].1 = l'[k].1) : ¬ (l.map (·.1)).Nodup := by
  intro hn
  have hn2 := (hp.map (·.1)).nodup_iff.2 hn
  rw [List.Nodup, List.pairwise_map, List.pairwise_iff_getElem] at hn2
  exact hn2 k (k + 1) (by omega) hk (by omega) h.symm
theorem zero_of {l l' : List (Nat × Nat)} (hp : l'.Perm l) (hs : l'.Pairwise (fun x y => x.1 ≤ y.1)) : (∃ p ∈ l, p.1 = 0) ↔ ∃ h : 0 < l'.length, l'[0].1 = 0 := by
  constructor
  · rintro ⟨p, hm, h0⟩
    have hm2 := hp.mem_iff.2 hm
    obtain ⟨i, hi, rfl⟩ := List.getElem_of_mem hm2
    refine ⟨by omega, ?_⟩
    rw [List.pairwise_iff_getElem] at hs
    rcases Nat.eq_zero_or_pos i with rfl | hpos
    · exact h0
    · have := hs 0 i (by omega) hi hpos
      omega
  · rintro ⟨h, h0⟩
    exact ⟨l'[0], hp.mem_iff.1 (List.getElem_mem h), h0⟩

theorem FreshB.after {w w1 w2 : World} {v : Value} {bs : List UInt8} (h : FreshB w1 v bs w2) (hk : Kept (fun _ => False) w w1) : FreshB w v bs w2 :=
  ⟨h.own, hk.more h.kept (fun _ h => h.elim), fun g hg => Nat.le_trans hk.size (h.new g hg)⟩
theorem FreshB.none {w w' : World} (hk : Kept (fun _ => False) w w') : FreshB w (.slice .none 0 0) [] w' := ⟨World.ownsRow_nil _ _ _ _, hk, fun g hg => by cases hg⟩

theorem OwnP.at {b : Nat} {w : World} {a : Option Addr} {n c : Nat} {l : List (Nat × Nat)} (h : OwnP b w (.slice a n c) l) (hne : l ≠ []) : ∃ g, a = some ⟨g, 0, none⟩ ∧ g < w.heap.size ∧ b ≤ g ∧ ∀ i x, (flatP l)[i]? = some x → w.cell? ⟨g, i, none⟩ = some x := by
  rcases h.2 with ⟨e, h0⟩ | ⟨g, cap, cur, e, hb, hg, hn, hm, hs, ht⟩
  · exact absurd (List.length_eq_zero_iff.1 h0) hne
  · cases e
    refine ⟨g, rfl, (Array.getElem?_eq_some_iff.1 hg).1, hb, fun i x hx => ?_⟩
    have hi : i < l.length * 2 := by rw [← flatP_length]; exact (List.getElem?_eq_some_iff.1 hx).1
    rw [cell_of_row w g i cur 68 (0, 0) hg]
    rw [← ht, List.getElem?_take, if_pos hi] at hx
    simpa using hx
theorem OwnP.isP {b : Nat} {w : World} {v : Value} {l : List (Nat × Nat)} (h : OwnP b w v l) (hb : ∀ p ∈ l, p.1 < 18446744073709551616 ∧ p.2 < 18446744073709551616) : IsP w v l := by
  obtain ⟨a, c, rfl, h1, h2⟩ := h.form
  refine ⟨a, c, rfl, h1, h2, hb, ?_⟩
  by_cases hne : l = []
  · exact .inl hne
  · obtain ⟨g, rfl, hg, -, hc⟩ := h.at hne
    exact .inr ⟨g, 0, rfl, hg, fun i x hx => by rw [Nat.zero_add]; exact hc i x hx⟩
theorem OwnP.pairsIn {b : Nat} {w : World} {v : Value} {l : List (Nat × Nat)} (h : OwnP b w v l) : PairsIn w.heap.size w v l := by
  rcases h.2 with ⟨rfl, h0⟩ | ⟨g, cap, cur, rfl, hb, hg, hn, hm, hs, ht⟩
  · exact .inl ⟨⟨_, _, rfl⟩, List.length_eq_zero_iff.1 h0⟩
  · refine .inr ⟨g, 0, cap, rfl, (Array.getElem?_eq_some_iff.1 hg).1, fun j hj => ?_⟩
    have hne : l ≠ [] := fun e => by rw [e] at hj; simp at hj
    obtain ⟨g', e, -, -, hc⟩ := OwnP.at (a := some ⟨g, 0, none⟩) (n := l.length) (c := cap) h hne
    cases e
    obtain ⟨h0, h1⟩ := flatP_get l j hj
    exact ⟨by rw [Nat.zero_add]; exact hc _ _ h0, by rw [Nat.zero_add]; exact hc _ _ h1⟩

theorem IsP.pairsIn {w w1 : World} {v : Value} {l : List (Nat × Nat)} (h : IsP w v l) (hk : Kept (fun _ => False) w w1) : PairsIn w1.heap.size w1 v l := by
  obtain ⟨a, c, rfl, h1, h2, h3, rfl | ⟨g, o, rfl, hg, hc⟩⟩ := h
  · exact .inl ⟨⟨_, _, rfl⟩, rfl⟩
  · refine .inr ⟨g, o, c, rfl, Nat.lt_of_lt_of_le hg hk.size, fun j hj => ?_⟩
    obtain ⟨h0, h1⟩ := flatP_get l j hj
    exact ⟨hk.cell (hc _ _ h0) (fun f => f), by rw [Nat.add_assoc]; exact hk.cell (hc _ _ h1) (fun f => f)⟩
set_option maxRecDepth 100000 in
set_option maxHeartbeats 1000000 in
theorem makeP_any (w : World) (a : Option Addr) (c : Nat) (l : List (Nat × Nat)) (h : IsP w (.slice a l.length c) l) (hlen : l.length ≤ 1000000) :
    Calls Tryz.prog 9 #[.slice a l.length c] w fun e w' => ∃ v, e = .returned (.tuple #[v, .int .i64 (makeOf l).2]) ∧ FreshB w v (makeOf l).1 w' := by
  have hlo : ∀ p ∈ l, p.1 < 18446744073709551616 ∧ p.2 < 18446744073709551616 := by obtain ⟨_, _, _, _, _, h3, _⟩ := h; exact h3
  have hM : Hid (makeOf l = if 65536 < l.length then ([], 3) else if ∃ p ∈ l, p.1 = 0 then ([], 2) else if ¬ (l.map (·.1)).Nodup then ([], 5) else (bytesOf (sortedP l), 0)) := Lib.hid rfl
  generalize makeOf l = M at hM ⊢
  go_enter Tryz.func9, Tryz.ntmps9
  by_cases hbig : 65536 < l.length
  · go_wp2
    go_ret2
    rw [hM.out, if_pos hbig]
    exact ⟨_, rfl, FreshB.nil w⟩
  rw [if_neg hbig] at hM
  go_wp2_with fail
  refine (values_any a l.length c w).mono ?_
  rintro e w1 ⟨rfl, hw1⟩
  have hk1 : Kept (fun _ => False) w w1 := by rw [hw1]; exact (Kept.refl _ _).alloc _
  have hsz1 : w1.heap.size = w.heap.size + 1 := by rw [hw1]; simp
  have hbox : w1.cell? ⟨w.heap.size, 0, none⟩ = some (.slice a l.length c) := by rw [hw1, World.cell?_alloc_new]; rfl
  clear hw1
  have hin : PairsIn w1.heap.size w1 (.slice a l.length c) l := h.pairsIn hk1
  go_wp2_with fail
  refine (sortedFunc_any w.heap.size w1.heap.size _ l hlen w1 (by omega) (Nat.le_refl _) hbox hin).mono ?_
  rintro e w2 ⟨v, l', rfl, hp, hs, hown, hbel⟩
  have hk2 : Kept (fun _ => False) w w2 := hk1.more (Kept.of_below (Nat.le_refl _) hbel) (fun _ h => h)
  have hlo' : ∀ p ∈ l', p.1 < 18446744073709551616 ∧ p.2 < 18446744073709551616 := fun p hm => hlo p (hp.mem_iff.1 hm)
  have hll : Hid (l'.length ≤ 65536) := Lib.hid (by rw [hp.length_eq]; omega)
  obtain ⟨la, lc, rfl, hlc, hlm⟩ := hown.form
  have hZ := zero_of hp hs
  by_cases hz : ∃ p ∈ l, p.1 = 0
  · rw [if_pos hz] at hM
    obtain ⟨h0, hz0⟩ := hZ.1 hz
    obtain ⟨g, rfl, hg, hbg, hcell⟩ := hown.at (by intro e; rw [e] at h0; simp at h0)
    have hc0 := hcell _ _ (flatP_get l' 0 h0).1
    rw [hz0] at hc0
    clear hcell
    go_wp2
    go_ret2
    rw [hM.out]
    exact ⟨_, rfl, FreshB.none hk2⟩
  rw [if_neg hz] at hM
  by_cases hne : l' = []
  · subst hne
    obtain ⟨hnd, hse⟩ := sorted_eq hp List.Pairwise.nil
    rw [if_neg (by simpa using hnd), ← hse] at hM
    clear hse hnd hZ
    go_wp2_with fail
    go_loopw [5] (fun i wr => wr = w2 ∧ i = .int .i64 1) (fun _ _ => 0)
    case atStart => exact ⟨rfl, rfl⟩
    case round =>
      obtain ⟨rfl, rfl⟩ := hrel
      go_wp2_with fail
      refine (bytes_any _ _ _ [] (hown.isP hlo') hll.out).mono ?_
      rintro e w3 ⟨v3, rfl, hf3⟩
      go_wp2
      go_ret2
      rw [hM.out]
      exact ⟨_, rfl, hf3.after hk2⟩
  · have h0 : 0 < l'.length := List.length_pos_iff.2 hne
    have hz0 : ¬ l'[0].1 = 0 := fun e => hz (hZ.2 ⟨h0, e⟩)
    obtain ⟨g, rfl, hg, hbg, hcell⟩ := hown.at hne
    have hc0 := hcell _ _ (flatP_get l' 0 h0).1
    obtain ⟨x0, hx0⟩ : ∃ x, l'[0].1 = x := ⟨_, rfl⟩
    rw [hx0] at hc0 hz0
    have HC := Lib.hid hcell
    clear hcell hx0
    go_wp2_with fail
    go_loopw [5] (fun i wr => Kept (fun _ => False) w2 wr ∧ ∃ k : Nat, 1 ≤ k ∧ k ≤ l'.length ∧ i = .int .i64 k ∧ Hid (∀ j (hj : j + 1 < l'.length), j + 1 < k → l'[j + 1].1 ≠ l'[j].1)) (fun i _ => l'.length - (intOf i).toNat)
    case atStart => exact ⟨Kept.refl _ _, 1, Nat.le_refl _, h0, rfl, Lib.hid (fun _ _ h => absurd h (by omega))⟩
    case round =>
      obtain ⟨hkr, k, hk1', hk, rfl, hne⟩ := hrel
      by_cases hlt : k < l'.length
      · obtain ⟨m, hmk⟩ : ∃ m, Hid (k = m + 1) := ⟨k - 1, Lib.hid (by omega)⟩
        have hwk : IntKind.i64.wrap ((k : Int) - 1) = (m : Int) := by have := hmk.out; have := hll.out; rw [IntKind.wrap_i64]; omega
        have hkb : k ≤ 65536 := by have := hll.out; omega
        have hml : m < l'.length := by have := hmk.out; omega
        have hc0 := hkr.cell (HC.out _ _ (flatP_get l' m hml).1) (fun f => f)
        have hc1 := hkr.cell (HC.out _ _ (flatP_get l' k hlt).1) (fun f => f)
        have hD : Hid (l'[k].1 = l'[m].1 → ¬ (l.map (·.1)).Nodup) := Lib.hid (fun e => dup_of hp m (by have := hmk.out; omega) (by have h := hmk.out; subst h; exact e))
        have hN : Hid (l'[k].1 ≠ l'[m].1 → ∀ j (hj : j + 1 < l'.length), j + 1 < k + 1 → l'[j + 1].1 ≠ l'[j].1) := Lib.hid (fun e j hj hjm => by
          have h := hmk.out; subst h
          rcases Nat.lt_or_ge j m with h | h
          · exact hne.out j hj (by omega)
          · have : j = m := by omega
            subst this; exact e)
        obtain ⟨x, hx⟩ : ∃ x, l'[m].1 = x := ⟨_, rfl⟩
        obtain ⟨y, hy⟩ : ∃ y, l'[k].1 = y := ⟨_, rfl⟩
        rw [hx] at hc0 hD hN
        rw [hy] at hc1 hD hN
        clear hx hy
        by_cases hxy : y = x
        · have hDD := Lib.hid (hD.out hxy)
          clear hD hN
          subst hxy
          go_wp2_with fail
          go_quiet (skip)
          go_wp2
          go_ret2
          rw [hM.out, if_pos hDD.out]
          exact ⟨_, rfl, FreshB.none ((hk2.more hkr (fun _ h => h.elim)).drewN _)⟩
        · have hxy2 : ¬ ((y : Int) = (x : Int)) := by omega
          go_wp2_with fail
          go_quiet (skip)
          go_wp2
          go_roundw
          case rel => exact ⟨hkr.drewN _, k + 1, by omega, hlt, by go_num, Lib.hid (hN.out hxy)⟩
          case measure => simp [intOf]; omega
      · have hs' := neighbours hs (fun j hj => hne.out j hj (by omega))
        obtain ⟨hnd, hse⟩ := sorted_eq hp hs'
        rw [if_neg (by simpa using hnd), ← hse] at hM
        clear hse hnd
        go_wp2_with fail
        refine (bytes_any _ _ _ l' ((hown.kept hkr (fun _ f => f.elim)).isP hlo') hll.out).mono ?_
        rintro e w3 ⟨v3, rfl, hf3⟩
        go_wp2
        go_ret2
        rw [hM.out]
        exact ⟨_, rfl, hf3.after (hk2.more hkr (fun _ h => h.elim))⟩
theorem make_any (w : World) (b : Nat) (a : Option Addr) (c : Nat) (l : List (Nat × Nat)) (h : OwnP b w (.slice a l.length c) l) (hlo : ∀ p ∈ l, p.1 < 18446744073709551616 ∧ p.2 < 18446744073709551616) (hlen : l.length ≤ 1000000) :
    Calls Tryz.prog 9 #[.slice a l.length c] w fun e w' => ∃ v, e = .returned (.tuple #[v, .int .i64 (makeOf l).2]) ∧ FreshB w v (makeOf l).1 w' := makeP_any w a c l (h.isP hlo) hlen
end Go.Proofs.YtemilbemdlpkaaaGreatDoor
