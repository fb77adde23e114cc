/- run.Find. -/
import Derived.Test.YtinmjgaaehdicaaRunC
import Derived.Test.YtinmjgaaehdicaaRunS
import Derived.Test.YtinmjgaaehdicaaSeqB
import Derived.Test.YtinmjgaaehdicaaShelfS
import Derived.Shelf.SlSorted.Search
namespace Go.Proofs.Ytinmjgaaehdicaa
open Go.RowKit Go.Shelf Go.Lib

theorem cl_any (bx bl g c : Nat) (l : List (Nat × Nat)) (x i : Nat) (W : World) (hi : i < l.length)
    (hx : W.cell? ⟨bx, 0, none⟩ = some (.int .u64 x)) (hl : W.cell? ⟨bl, 0, none⟩ = some (.slice (some ⟨g, 0, none⟩) l.length c)) (hc : W.cell? ⟨g, i * 2, none⟩ = some (.int .u64 l[i].1)) :
    Calls Try.prog 66 (#[.int .i64 i] ++ #[.pointer (some ⟨bl, 0, none⟩), .pointer (some ⟨bx, 0, none⟩)]) W fun e w' => e = .returned (.bool (decide (x ≤ l[i].1))) ∧ ∃ q, w' = W.drewN q := by
  generalize l[i].1 = y at hc ⊢
  go_enter Try.func66, Try.ntmps66
  go_wp2
  go_region
  all_goals go_wp2
  all_goals go_ret
  all_goals exact ⟨by first | rfl | simp, 1, rfl⟩

def findIn (l : List (Nat × Nat)) (x : Nat) : Nat × Int := match l.find? (fun p => p.1 = x) with | some p => (p.2, 0) | none => (0, 4)
def findOf (bs : List UInt8) (x : Nat) : Nat × Int := if (pairsOf bs).2 = true then findIn (pairsOf bs).1 x else (0, 8)

theorem pairsGo_rising (n : Nat) (r : RM) (last : Nat) (acc : List (Nat × Nat)) : ∀ l r', pairsGo n r last acc = some (l, r') → ∃ l2, l = acc ++ l2 ∧ l2.length = n ∧ Rising last l2 := by
  induction n generalizing r last acc with
  | zero => intro l r' h; simp [pairsGo] at h; exact ⟨[], by simp [h.1], rfl, trivial⟩
  | succ n ih =>
    intro l r' h
    unfold pairsGo at h
    split at h
    · cases h
    · obtain ⟨l2, rfl, h1, h2⟩ := ih _ _ _ l r' h
      exact ⟨(r.word.1, r.word.2.word.1) :: l2, by simp, by simp [h1], by omega, r.word_lt, r.word.2.word_lt, h2⟩
theorem pairsOf_rising (bs : List UInt8) (h : (pairsOf bs).2 = true) : Rising 0 (pairsOf bs).1 ∧ (pairsOf bs).1.length ≤ 65536 := by
  unfold pairsOf at *
  split at h
  · cases h
  · rename_i hc
    rw [if_neg hc]
    obtain ⟨q, hq⟩ : ∃ q, pairsGo (RM.mk bs 0).uint.1 (RM.mk bs 0).uint.2 0 [] = q := ⟨_, rfl⟩
    rw [hq] at h ⊢
    cases q with
    | none => cases h
    | some q =>
      obtain ⟨l, r⟩ := q
      obtain ⟨l2, rfl, h1, h2⟩ := pairsGo_rising _ _ _ _ l r hq
      simp only [pairsEnd]
      exact ⟨h2, by omega⟩

theorem Rising.strict {l : List (Nat × Nat)} {last : Nat} (h : Rising last l) : l.Pairwise (fun x y => x.1 < y.1) ∧ ∀ p ∈ l, last < p.1 ∧ p.1 < 18446744073709551616 ∧ p.2 < 18446744073709551616 := by
  induction l generalizing last with
  | nil => exact ⟨List.Pairwise.nil, fun p hp => by simp at hp⟩
  | cons q l ih =>
    obtain ⟨h1, h2, h3, h4⟩ := h
    obtain ⟨i1, i2⟩ := ih h4
    refine ⟨List.Pairwise.cons (fun p hp => (i2 p hp).1) i1, fun p hp => ?_⟩
    rcases List.mem_cons.1 hp with rfl | hp
    · exact ⟨h1, h2, h3⟩
    · have := i2 p hp
      exact ⟨by omega, this.2⟩
theorem Rising.of_strict {l : List (Nat × Nat)} {last : Nat} (h : l.Pairwise (fun x y => x.1 < y.1)) (hb : ∀ p ∈ l, last < p.1 ∧ p.1 < 18446744073709551616 ∧ p.2 < 18446744073709551616) : Rising last l := by
  induction l generalizing last with
  | nil => trivial
  | cons q l ih =>
    obtain ⟨h1, h2⟩ := List.pairwise_cons.1 h
    have hq := hb q (by simp)
    exact ⟨hq.1, hq.2.1, hq.2.2, ih h2 (fun p hp => ⟨h1 p hp, (hb p (by simp [hp])).2⟩)⟩

/-- What the search's place says. -/
theorem find_place (l : List (Nat × Nat)) (x : Nat) (h : l.Pairwise (fun x y => x.1 < y.1)) :
    (∃ hk : l.countP (fun p => !decide (x ≤ p.1)) < l.length, l[l.countP (fun p => !decide (x ≤ p.1))].1 = x ∧ findIn l x = (l[l.countP (fun p => !decide (x ≤ p.1))].2, 0)) ∨
    ((∀ hk : l.countP (fun p => !decide (x ≤ p.1)) < l.length, l[l.countP (fun p => !decide (x ≤ p.1))].1 ≠ x) ∧ findIn l x = (0, 4)) := by
  unfold findIn
  induction l with
  | nil => right; exact ⟨fun hk => by simp at hk, rfl⟩
  | cons q l ih =>
    obtain ⟨h1, h2⟩ := List.pairwise_cons.1 h
    by_cases hq : x ≤ q.1
    · have h0 : l.countP (fun p => !decide (x ≤ p.1)) = 0 := by
        rw [List.countP_eq_zero]
        intro p hp
        have := h1 p hp
        simp; omega
      have hc : (q :: l).countP (fun p => !decide (x ≤ p.1)) = 0 := by rw [List.countP_cons_of_neg (by simpa using hq), h0]
      simp only [hc, List.getElem_cons_zero]
      by_cases he : q.1 = x
      · left; exact ⟨by simp, he, by simp [he]⟩
      · right
        refine ⟨fun _ => he, ?_⟩
        have : (q :: l).find? (fun p => decide (p.1 = x)) = none := by
          rw [List.find?_eq_none]
          intro p hp
          rcases List.mem_cons.1 hp with rfl | hp
          · simpa using he
          · have := h1 p hp
            simp; omega
        rw [this]
    · have hc : (q :: l).countP (fun p => !decide (x ≤ p.1)) = l.countP (fun p => !decide (x ≤ p.1)) + 1 := List.countP_cons_of_pos (by simpa using hq)
      have hf : (q :: l).find? (fun p => decide (p.1 = x)) = l.find? (fun p => decide (p.1 = x)) := by rw [List.find?_cons_of_neg (by simp; omega)]
      simp only [hc, hf, List.getElem_cons_succ, List.length_cons, Nat.add_lt_add_iff_right]
      exact ih h2

theorem find_at (l : List (Nat × Nat)) (x : Nat) (h : l.Pairwise (fun x y => x.1 < y.1)) : ∃ k, l.countP (fun p => !decide (x ≤ p.1)) = k ∧ k ≤ l.length ∧ (∀ hk : k < l.length, findIn l x = if l[k].1 = x then (l[k].2, 0) else (0, 4)) ∧ (k = l.length → findIn l x = (0, 4)) := by
  refine ⟨_, rfl, List.countP_le_length, fun hk => ?_, fun hk => ?_⟩
  · rcases find_place l x h with ⟨_, h1, h2⟩ | ⟨h1, h2⟩
    · rw [if_pos h1, h2]
    · rw [if_neg (h1 hk), h2]
  · rcases find_place l x h with ⟨h1, -⟩ | ⟨-, h2⟩
    · omega
    · exact h2

theorem search_any (bx bl : Nat) (l : List (Nat × Nat)) (x : Nat) (W : World) (hlen : l.length ≤ 1000000) (hs : l.Pairwise (fun x y => x.1 < y.1)) (hbx : bx < W.heap.size) (hbl : bl < W.heap.size)
    (hx : W.cell? ⟨bx, 0, none⟩ = some (.int .u64 x)) (hl : l ≠ [] → ∃ g c, W.cell? ⟨bl, 0, none⟩ = some (.slice (some ⟨g, 0, none⟩) l.length c) ∧ g < W.heap.size ∧ ∀ i (hi : i < l.length), W.cell? ⟨g, i * 2, none⟩ = some (.int .u64 l[i].1)) :
    Calls Try.prog 65 #[.int .i64 l.length, .func (.func 66) #[] #[.pointer (some ⟨bl, 0, none⟩), .pointer (some ⟨bx, 0, none⟩)]] W fun e w' => e = .returned (.int .i64 (l.countP (fun p => !decide (x ≤ p.1)) : Nat)) ∧ Kept (fun _ => False) W w' := by
  have eg : ∀ args w, (callFunc 66 args).run Try.prog w = .ok (.enter 66 args) w := enters_of Try.func66 (by kernel_rfl) rfl
  have hd : ∀ i (hi : i < l.length), l.toArray[i]! = l[i] := fun i hi => by simp [hi]
  have hS := Any.sort_Search Try.search 66 #[.pointer (some ⟨bl, 0, none⟩), .pointer (some ⟨bx, 0, none⟩)] l.length (fun i => decide (x ≤ l.toArray[i]!.1)) W eg (by omega)
    (fun m os i hi => by
      obtain ⟨g, c, h1, hg, h2⟩ := hl (fun e => by rw [e] at hi; simp at hi)
      simp only [hd i hi]
      exact (cl_any bx bl g c l x i _ hi (cell_grown hbx hx m os) (cell_grown hbl h1 m os) (cell_grown hg (h2 i hi) m os)).mono fun _ _ ⟨he, q, hq⟩ => ⟨he, q, #[], by rw [hq, Sort.grow_empty]⟩)
    (fun a b hab hb h => by
      simp only [hd b hb, hd a (by omega), decide_eq_true_eq] at h ⊢
      rcases Nat.lt_or_ge a b with hlt | hge
      · have := List.pairwise_iff_getElem.1 hs a b (by omega) hb hlt
        omega
      · obtain rfl : a = b := by omega
        exact h)
  have hr := countP_range l.toArray (fun p => !decide (x ≤ p.1))
  simp only [List.size_toArray] at hr
  rw [hr] at hS
  refine hS.mono ?_
  rintro e w' ⟨rfl, q, os, rfl⟩
  exact ⟨rfl, ((Kept.refl _ W).drewN q).more (grow_kept _ os) (fun _ f => f.elim)⟩

set_option maxRecDepth 100000 in
set_option maxHeartbeats 1000000 in
theorem find_any (w : World) (a : Option Addr) (c : Nat) (bs : List UInt8) (x : Nat) (h : IsB w (.slice a bs.length c) bs) (hlen : bs.length ≤ 100000000000000) :
    Calls Try.prog 39 #[.slice a bs.length c, .int .u64 x] w fun e w' => e = .returned (.tuple #[.int .u64 (findOf bs x).1, .int .i64 (findOf bs x).2]) ∧ Kept (fun _ => False) w w' := by
  have hrs := pairsOf_rising bs
  have hp := fun W (hW : Kept (fun _ => False) w W) => pairs_any W a c bs (h.keptF hW (fun _ _ f => f)) hlen
  have hF : Hid (findOf bs x = if (pairsOf bs).2 = true then findIn (pairsOf bs).1 x else (0, 8)) := Lib.hid rfl
  generalize findOf bs x = R at hF ⊢
  obtain ⟨⟨l, ok⟩, hq⟩ : ∃ q, pairsOf bs = q := ⟨_, rfl⟩
  rw [hq] at hrs hF
  simp only [hq] at hp
  clear hq
  have HP := Lib.hid hp
  clear hp
  obtain ⟨W1, hW1⟩ : ∃ W1, w.alloc (.cells #[.int .u64 x] 62) = W1 := ⟨_, rfl⟩
  have hk1 : Kept (fun _ => False) w W1 := by rw [← hW1]; exact (Kept.refl _ _).alloc _
  have hsz1 : W1.heap.size = w.heap.size + 1 := by rw [← hW1]; simp
  have hcx : W1.cell? ⟨w.heap.size, 0, none⟩ = some (.int .u64 x) := by rw [← hW1, World.cell?_alloc_new]; rfl
  cases ok with
  | false =>
    clear hrs
    go_enter Try.func39, Try.ntmps39
    go_wp2_with fail
    refine (HP.out W1 hk1).mono ?_
    rintro e w2 ⟨v, rfl, hown, hk2⟩
    obtain ⟨la, lc, rfl, -, -⟩ := hown.form
    go_wp2
    go_ret2
    rw [hF.out]
    exact ⟨rfl, (hk1.more hk2 (fun _ f => f.elim)).alloc _⟩
  | true =>
    obtain ⟨hr, hl6⟩ := hrs rfl
    obtain ⟨hst, hbd⟩ := hr.strict
    go_enter Try.func39, Try.ntmps39
    go_wp2_with fail
    refine (HP.out W1 hk1).mono ?_
    rintro e w2 ⟨v, rfl, hown, hk2⟩
    obtain ⟨W3, hW3⟩ : ∃ W3, w2.alloc (.cells #[v] 54) = W3 := ⟨_, rfl⟩
    have hk3 : Kept (fun _ => False) w2 W3 := by rw [← hW3]; exact (Kept.refl _ _).alloc _
    have hsz3 : W3.heap.size = w2.heap.size + 1 := by rw [← hW3]; simp
    have hcv : W3.cell? ⟨w2.heap.size, 0, none⟩ = some v := by rw [← hW3, World.cell?_alloc_new]; rfl
    have hcx2 : w2.cell? ⟨w.heap.size, 0, none⟩ = some (.int .u64 x) := hk2.cell hcx (fun f => f)
    have hcx3 : W3.cell? ⟨w.heap.size, 0, none⟩ = some (.int .u64 x) := hk3.cell hcx2 (fun f => f)
    have hown3 := hown.kept hk3 (fun _ f => f.elim)
    obtain ⟨la, lc, rfl, hlc, hlm⟩ := hown.form
    have hG : l ≠ [] → ∃ g, la = some ⟨g, 0, none⟩ ∧ g < W3.heap.size ∧ ∀ i (hi : i < l.length), W3.cell? ⟨g, i * 2, none⟩ = some (.int .u64 l[i].1) ∧ W3.cell? ⟨g, i * 2 + 1, none⟩ = some (.int .u64 l[i].2) := fun hne => by
      obtain ⟨g, e, hg, -, hc⟩ := hown3.at hne
      exact ⟨g, e, hg, fun i hi => ⟨hc _ _ (flatP_get l i hi).1, hc _ _ (flatP_get l i hi).2⟩⟩
    have HG := Lib.hid hG
    clear hG
    have HS : Hid (Calls Try.prog 65 #[.int .i64 l.length, .func (.func 66) #[] #[.pointer (some ⟨w2.heap.size, 0, none⟩), .pointer (some ⟨w.heap.size, 0, none⟩)]] W3 fun e w' => e = .returned (.int .i64 (l.countP (fun p => !decide (x ≤ p.1)) : Nat)) ∧ Kept (fun _ => False) W3 w') :=
      Lib.hid (search_any w.heap.size w2.heap.size l x W3 (by omega) hst (by have := hk2.size; omega) (by omega) hcx3 (fun hne => by
        obtain ⟨g, rfl, hg, hc⟩ := HG.out hne
        exact ⟨g, lc, hcv, hg, fun i hi => (hc i hi).1⟩))
    obtain ⟨k, hk, hkl, hf1, hf2⟩ := find_at l x hst
    rw [hk] at HS
    have HF1 := Lib.hid hf1
    have HF2 := Lib.hid hf2
    clear hr hst hbd hk hf1 hf2
    go_wp2_with fail
    refine HS.out.mono ?_
    rintro e w4 ⟨rfl, hk4⟩
    have hcv4 : w4.cell? ⟨w2.heap.size, 0, none⟩ = some (.slice la l.length lc) := hk4.cell hcv (fun f => f)
    have hcx4 : w4.cell? ⟨w.heap.size, 0, none⟩ = some (.int .u64 x) := hk4.cell hcx3 (fun f => f)
    have hkw : Kept (fun _ => False) w w4 := (((hk1.more hk2 (fun _ f => f.elim)).more hk3 (fun _ f => f.elim)).more hk4 (fun _ f => f.elim))
    by_cases hlt : k < l.length
    · obtain ⟨g, rfl, hg, hc⟩ := HG.out (fun e => by rw [e] at hlt; simp at hlt)
      have hkne : ((k : Int) == (l.length : Int)) = false := by simp; omega
      have hc0 := hk4.cell (hc k hlt).1 (fun f => f)
      have hc1 := hk4.cell (hc k hlt).2 (fun f => f)
      have hR : Hid (R = if l[k].1 = x then (l[k].2, 0) else (0, 4)) := Lib.hid (by rw [hF.out, if_pos trivial, HF1.out hlt])
      obtain ⟨⟨f, t⟩, hq⟩ : ∃ q, l[k] = q := ⟨_, rfl⟩
      rw [hq] at hc0 hc1 hR
      simp only at hc0 hc1 hR
      clear hc hq HF1 HF2 HG hF
      by_cases hfx : f = x
      · rw [if_pos hfx] at hR
        subst hfx
        go_wp2_with fail
        go_quiet (fail)
        go_wp2
        go_ret2
        rw [hR.out]
        exact ⟨rfl, hkw.drewN _⟩
      · rw [if_neg hfx] at hR
        have hfx2 : ((f : Int) != (x : Int)) = true := by simp; omega
        go_wp2_with fail
        go_quiet (fail)
        go_wp2
        go_ret2
        rw [hR.out]
        exact ⟨rfl, hkw.drewN _⟩
    · obtain rfl : k = l.length := by omega
      have hR : Hid (R = (0, 4)) := Lib.hid (by rw [hF.out, if_pos trivial, HF2.out rfl])
      clear HF1 HF2 HG hF
      go_wp2_with fail
      go_quiet (fail)
      go_wp2
      go_ret2
      rw [hR.out]
      exact ⟨rfl, hkw.drewN _⟩
end Go.Proofs.Ytinmjgaaehdicaa
