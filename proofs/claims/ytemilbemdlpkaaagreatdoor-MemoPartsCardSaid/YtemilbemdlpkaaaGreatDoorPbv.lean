/- espalierlaw18: pairs. -/
import Derived.Test.YtemilbemdlpkaaaGreatDoorPbu
import Derived.Test.YtemilbemdlpkaaaGreatDoorPbs
namespace Go.Proofs.YtemilbemdlpkaaaGreatDoor
open Go.RowKit Go.Shelf
set_option linter.unusedSimpArgs false

set_option maxRecDepth 100000 in
set_option maxHeartbeats 1000000 in
theorem pairs18_any (w : World) (a b : Option Addr) (c d : Nat) (l m : List (Nat × Nat)) (hl : IsP w (.slice a l.length c) l) (hm : IsP w (.slice b m.length d) m) (hlen : l.length ≤ 1000000) (hlen2 : m.length ≤ 1000000) :
    Calls Tryz.prog 13 #[.slice a l.length c, .slice b m.length d] w fun e w' => e = .returned (.bool (decide (l = m))) ∧ Kept (fun _ => False) w w' := by
  obtain ⟨R, hR⟩ : ∃ R, decide (l = m) = R := ⟨_, rfl⟩
  rw [hR]
  have HR := Lib.hid hR
  have HP := Lib.hid (And.intro hl hm)
  obtain ⟨n, hn⟩ : ∃ n, l.length = n := ⟨_, rfl⟩
  obtain ⟨k, hk⟩ : ∃ k, m.length = k := ⟨_, rfl⟩
  have HN := Lib.hid (And.intro hn hk)
  rw [hn] at HP hlen ⊢
  rw [hk] at HP hlen2 ⊢
  clear hl hm hn hk hR
  go_enter Tryz.func13, Tryz.ntmps13
  by_cases hnk : n = k
  · subst hnk
    go_wp2_with fail
    go_loopg [5, 13] n (fun g _ iv wr => ∃ (j : Nat), j + g = n ∧ iv = .int .i64 j ∧ Hid (l.take j = m.take j) ∧ Hid (Kept (fun _ => False) w wr))
    case atStart => exact ⟨0, by omega, rfl, Lib.hid (by simp), Lib.hid (Kept.refl _ _)⟩
    case round =>
      obtain ⟨j, hj, rfl, HT, HK⟩ := hrel
      rcases Nat.eq_zero_or_pos gk with rfl | hpos
      · obtain rfl : j = n := by omega
        have hRt : R = true := by
          rw [← HR.out, decide_eq_true_eq]
          have h1 := HT.out
          rwa [List.take_of_length_le (by rw [HN.out.1]; exact Nat.le_refl _), List.take_of_length_le (by rw [HN.out.2]; exact Nat.le_refl _)] at h1
        subst hRt
        go_wp2
        go_ret
        exact ⟨rfl, HK.out⟩
      · have hlt : j < n := by omega
        have hjl : j < l.length := by rw [HN.out.1]; exact hlt
        have hjm : j < m.length := by rw [HN.out.2]; exact hlt
        obtain ⟨g1, o1, rfl, hg1, hc1⟩ := (HP.out.1.keptF HK.out (fun _ _ f => f)).at (k := j) hjl
        obtain ⟨g2, o2, rfl, hg2, hc2⟩ := (HP.out.2.keptF HK.out (fun _ _ f => f)).at (k := j) hjm
        obtain ⟨x0, x1⟩ := hc1 j hjl
        obtain ⟨y0, y1⟩ := hc2 j hjm
        have HT1 := Lib.hid (List.take_succ_eq_append_getElem hjl)
        have HT2 := Lib.hid (List.take_succ_eq_append_getElem hjm)
        have HE1 : Hid (l = m → l[j] = m[j]) := Lib.hid (fun e => by subst e; rfl)
        generalize l[j] = x at x0 x1 HT1 HE1
        generalize m[j] = y at y0 y1 HT2 HE1
        obtain ⟨xf, xt⟩ := x
        obtain ⟨yf, yt⟩ := y
        simp only at x0 x1 y0 y1
        clear hc1 hc2
        by_cases hxy : xf = yf ∧ xt = yt
        · obtain ⟨rfl, rfl⟩ := hxy
          go_wp2_with fail
          go_quiet (fail)
          rename_i nq
          go_wp2_with fail
          have HK2 : Hid (Kept (fun _ => False) w (wr.drewN nq)) := Lib.hid (HK.out.drewN _)
          go_roundg (gk - 1)
          case measure => omega
          case rel => exact ⟨j + 1, by omega, by go_num, Lib.hid (by rw [HT1.out, HT2.out, HT.out]), HK2⟩
        · have hRf : R = false := by
            rw [← HR.out, decide_eq_false_iff_not]
            intro e
            have := HE1.out e
            cases this
            exact hxy ⟨rfl, rfl⟩
          subst hRf
          by_cases hf : xf = yf
          · have ht : ¬ ((xt : Int) = (yt : Int)) := fun e => hxy ⟨hf, by omega⟩
            subst hf
            clear hxy
            go_wp2_with fail
            go_quiet (fail)
            rename_i nq
            have HK2 : Hid (Kept (fun _ => False) w (wr.drewN nq)) := Lib.hid (HK.out.drewN _)
            go_wp2
            go_ret
            exact ⟨rfl, HK2.out⟩
          · have hf2 : ¬ ((xf : Int) = (yf : Int)) := by omega
            clear hxy hf
            go_wp2_with fail
            go_quiet (fail)
            rename_i nq
            have HK2 : Hid (Kept (fun _ => False) w (wr.drewN nq)) := Lib.hid (HK.out.drewN _)
            go_wp2
            go_ret
            exact ⟨rfl, HK2.out⟩
  · have hRf : R = false := by
      rw [← HR.out, decide_eq_false_iff_not]
      intro e
      subst e
      exact hnk (HN.out.1.symm.trans HN.out.2)
    subst hRf
    have hnk2 : ((n : Int) != (k : Int)) = true := by simp; omega
    go_wp2
    go_ret
    exact ⟨rfl, Kept.refl _ _⟩
end Go.Proofs.YtemilbemdlpkaaaGreatDoor

/- memo: the plain law of its files' names. -/
namespace Go.Proofs.YtemilbemdlpkaaaGreatDoor
open Go.RowKit
set_option linter.unusedSimpArgs false

theorem decD_digit (u : Nat) : ∀ c ∈ Lib.decDigits u, 48 ≤ c.toNat ∧ c.toNat ≤ 57 := by
  induction u using Nat.strongRecOn with
  | _ u ih =>
    have hc : ∀ x < 10, 48 ≤ (UInt8.ofNat (48 + x)).toNat ∧ (UInt8.ofNat (48 + x)).toNat ≤ 57 := by decide
    rw [Lib.decDigits]
    by_cases h : u < 10
    · rw [dif_pos h]
      intro c hm
      rw [List.mem_singleton.1 hm]
      exact hc u h
    · rw [dif_neg h]
      intro c hm
      rcases List.mem_append.1 hm with hm | hm
      · exact ih (u / 10) (by omega) c hm
      · rw [List.mem_singleton.1 hm]
        exact hc (u % 10) (by omega)
theorem decD_len (u : Nat) : ∀ k, 1 ≤ k → u < 10 ^ k → (Lib.decDigits u).length ≤ k := by
  induction u using Nat.strongRecOn with
  | _ u ih =>
    intro k hk hu
    rw [Lib.decDigits]
    by_cases h : u < 10
    · rw [dif_pos h]; simpa using hk
    · rw [dif_neg h, List.length_append]
      obtain ⟨j, rfl⟩ : ∃ j, k = j + 1 := ⟨k - 1, by omega⟩
      have hj : 1 ≤ j := by
        apply Classical.byContradiction
        intro hn
        obtain rfl : j = 0 := by omega
        simp at hu
        omega
      rw [Nat.pow_succ] at hu
      have := ih (u / 10) (by omega) j hj (by omega)
      simp
      omega
def decVal (l : List UInt8) : Nat := l.foldl (fun n c => 10 * n + (c.toNat - 48)) 0
theorem decVal_dec (u : Nat) : decVal (Lib.decDigits u) = u := by
  induction u using Nat.strongRecOn with
  | _ u ih =>
    have hc : ∀ x < 10, (UInt8.ofNat (48 + x)).toNat - 48 = x := by decide
    rw [Lib.decDigits]
    by_cases h : u < 10
    · rw [dif_pos h]
      simp only [decVal, List.foldl_cons, List.foldl_nil, Nat.mul_zero, Nat.zero_add]
      exact hc u h
    · rw [dif_neg h]
      have h1 := ih (u / 10) (by omega)
      unfold decVal at h1 ⊢
      rw [List.foldl_append, h1]
      simp only [List.foldl_cons, List.foldl_nil]
      rw [hc (u % 10) (by omega)]
      omega
theorem itS_list (n : Nat) : (itS n).data.toList = Lib.decDigits n := by
  unfold itS Lib.itoa
  rw [if_neg (by omega)]
  simp
theorem runN_list (f : ByteArray) (n : Nat) : (runN f n).data.toList = f.data.toList ++ 45 :: Lib.decDigits n := by
  unfold runN runName
  rw [ByteArray.data_append, ByteArray.data_append, Array.toList_append, Array.toList_append, itS_list]
  simp
theorem runN_inj {f : ByteArray} {a b : Nat} (h : runN f a = runN f b) : a = b := by
  have h1 := congrArg (fun s : ByteArray => s.data.toList) h
  simp only [runN_list] at h1
  have h2 := (List.cons.inj (List.append_cancel_left h1)).2
  rw [← decVal_dec a, ← decVal_dec b, h2]
theorem runN_ne_file (f : ByteArray) (n : Nat) : runN f n ≠ f := by
  intro h
  have h1 := congrArg (fun s : ByteArray => s.data.toList.length) h
  simp only [runN_list, List.length_append, List.length_cons] at h1
  omega
theorem okc_digit {c : UInt8} (h : 48 ≤ c.toNat ∧ c.toNat ≤ 57) : okc c = true := by
  simp only [okc, Bool.or_eq_true, Bool.and_eq_true, decide_eq_true_eq]
  omega
theorem mayB_list {s : ByteArray} (h1 : 1 ≤ s.data.toList.length) (h2 : s.data.toList.length ≤ 32) (h3 : s.data.toList.all okc = true) : mayB s = true := by
  have hs : s.data.toList.length = s.size := by rw [Array.length_toList]; rfl
  rw [hs] at h1 h2
  simp [mayB, h1, h2] at h3 ⊢
  exact h3
theorem may_runN {f : ByteArray} (hf : mayB f = true) (hs : f.size ≤ 21) {n : Nat} (hn : n < 10000000000) : mayB (runN f n) = true := by
  have hl := decD_len n 10 (by omega) (by simpa using hn)
  have hfl : f.data.toList.length = f.size := by rw [Array.length_toList]; rfl
  refine mayB_list ?_ ?_ ?_
  · rw [runN_list]; simp; omega
  · rw [runN_list, List.length_append, List.length_cons]; omega
  · rw [runN_list, List.all_append]
    have h1 : f.data.toList.all okc = true := by
      simp only [mayB, Bool.and_eq_true] at hf
      exact hf.2
    rw [h1, List.all_cons, Bool.true_and]
    have h2 : (Lib.decDigits n).all okc = true := List.all_eq_true.2 (fun c hc => okc_digit (decD_digit n c hc))
    rw [h2]
    decide
theorem may_fileN (key : Nat) : mayB (fileN key) = true := by
  have hd : ∀ d < 16, okc (hexD d) = true := by decide
  have hl : (fileN key).data.toList = [109, 101, 109, 111, 45] ++ hexL key := by
    unfold fileN strB
    rw [ByteArray.data_append, Array.toList_append]
  refine mayB_list (by rw [hl]; simp) (by rw [hl, List.length_append, hexL_length]; simp) ?_
  rw [hl, List.all_append]
  have h1 : (hexL key).all okc = true := List.all_eq_true.2 (fun c hc => by
    obtain ⟨i, -, rfl⟩ := List.mem_map.1 hc
    exact hd _ (Nat.mod_lt _ (by omega)))
  rw [h1]
  decide
end Go.Proofs.YtemilbemdlpkaaaGreatDoor

/- memo: the plain law of Add on a disk that is not cut. -/
namespace Go.Proofs.YtemilbemdlpkaaaGreatDoor
open Go.RowKit
set_option linter.unusedSimpArgs false

theorem delA_length_le {α β : Type} [DecidableEq α] (k : α) : ∀ l : List (α × β), (delA k l).length ≤ l.length
  | [] => Nat.le_refl _
  | p :: l => by
    rw [show delA k (p :: l) = if p.1 = k then l else p :: delA k l from rfl]
    have := delA_length_le k l
    split <;> simp only [List.length_cons] <;> omega
theorem putA_length_le {α β : Type} [DecidableEq α] (k : α) (v : β) (l : List (α × β)) : (putA k v l).length ≤ l.length + 1 := by
  rw [length_putA]; split <;> omega

/-! ### pairs -/
theorem bytesOf_le (l : List (Nat × Nat)) (hl : l.length ≤ 100000) : (bytesOf l).length ≤ 16 * l.length + 13 := by
  unfold bytesOf bytesHead
  rw [List.length_append, List.length_append, bodyB_length, wordB_length]
  have := uintB_short l.length (by omega)
  omega
theorem bytesOf_ne (l : List (Nat × Nat)) : bytesOf l ≠ [] := by
  intro h
  have := congrArg List.length h
  unfold bytesOf at this
  rw [List.length_append, wordB_length] at this
  simp at this
theorem makeOf_zero {l : List (Nat × Nat)} (h : (makeOf l).2 = 0) : l.length ≤ 65536 ∧ (∀ p ∈ l, p.1 ≠ 0) ∧ (l.map (·.1)).Nodup := by
  unfold makeOf at h
  by_cases h1 : 65536 < l.length
  · rw [if_pos h1] at h; simp at h
  · rw [if_neg h1] at h
    by_cases h2 : ∃ p ∈ l, p.1 = 0
    · rw [if_pos h2] at h; simp at h
    · rw [if_neg h2] at h
      by_cases h3 : (l.map (·.1)).Nodup
      · exact ⟨by omega, fun p hp e => h2 ⟨p, hp, e⟩, h3⟩
      · rw [if_pos h3] at h; simp at h
theorem makeOf_of {l : List (Nat × Nat)} (h1 : l.length ≤ 65536) (h2 : ∀ p ∈ l, p.1 ≠ 0) (h3 : (l.map (·.1)).Nodup) : makeOf l = (bytesOf (sortedP l), 0) := by
  unfold makeOf
  rw [if_neg (by omega), if_neg (by rintro ⟨p, hp, e⟩; exact h2 p hp e), if_neg (by simpa using h3)]
theorem freshOf_some {kn : List (Nat × Nat)} : ∀ (l acc fr : List (Nat × Nat)), freshOf kn acc l = some fr → ∃ s, fr = acc ++ s ∧ s.Sublist l ∧ ∀ p ∈ s, getA p.1 kn = none
  | [], acc, fr, h => ⟨[], by rw [freshOf] at h; cases h; simp, List.Sublist.refl _, by simp⟩
  | p :: l, acc, fr, h => by
    rw [freshOf] at h
    cases hg : getA p.1 kn with
    | some t =>
      rw [hg] at h
      simp only at h
      split at h
      · obtain ⟨s, h1, h2, h3⟩ := freshOf_some l acc fr h
        exact ⟨s, h1, h2.cons _, h3⟩
      · cases h
    | none =>
      rw [hg] at h
      obtain ⟨s, h1, h2, h3⟩ := freshOf_some l _ fr h
      refine ⟨p :: s, by rw [h1]; simp, h2.cons_cons _, fun q hq => ?_⟩
      rcases List.mem_cons.1 hq with rfl | hq
      · exact hg
      · exact h3 q hq
theorem freshOf_new {kn : List (Nat × Nat)} : ∀ (l acc : List (Nat × Nat)), (∀ p ∈ l, getA p.1 kn = none) → freshOf kn acc l = some (acc ++ l)
  | [], acc, _ => by rw [freshOf]; simp
  | p :: l, acc, h => by
    rw [freshOf, h p (by simp)]
    simp only
    rw [freshOf_new l _ (fun q hq => h q (by simp [hq]))]
    simp
theorem find_nodup : ∀ {X : List (Nat × Nat)}, (X.map (·.1)).Nodup → ∀ p, X.find? (fun q => decide (q.1 = p.1)) = some p ↔ p ∈ X
  | [], _, p => by simp
  | x :: X, h, p => by
    rw [List.map_cons, List.nodup_cons] at h
    by_cases hx : x.1 = p.1
    · rw [List.find?_cons_of_pos (by simpa using hx)]
      constructor
      · intro e; cases e; simp
      · intro hm
        rcases List.mem_cons.1 hm with rfl | hm
        · rfl
        · exact absurd (List.mem_map.2 ⟨p, hm, hx.symm⟩) h.1
    · rw [List.find?_cons_of_neg (by simpa using hx), find_nodup h.2 p]
      constructor
      · exact List.mem_cons_of_mem _
      · intro hm
        rcases List.mem_cons.1 hm with rfl | hm
        · exact absurd rfl hx
        · exact hm
theorem sortedR_perm {X : List (Nat × Nat)} (h : (X.map (·.1)).Nodup) : (sortedR X).Pairwise (fun x y => x.1 < y.1) ∧ (sortedR X).Perm X := by
  obtain ⟨h1, h2⟩ := sortedR_mem X [] List.Pairwise.nil
  change (sortedR X).Pairwise _ at h1
  refine ⟨h1, (List.perm_ext_iff_of_nodup (h1.imp (fun hlt e => by subst e; omega)) (List.Pairwise.of_map (fun p : Nat × Nat => p.1) (fun a b hab e => hab (by rw [e])) h)).2 (fun p => ?_)⟩
  have h3 := h2 p
  rw [List.nil_append] at h3
  exact h3.trans (find_nodup h p)
theorem rising_of18 {s : List (Nat × Nat)} (hs : s.Pairwise (fun x y => x.1 < y.1)) (hb : ∀ p ∈ s, 0 < p.1 ∧ p.1 < 18446744073709551616 ∧ p.2 < 18446744073709551616) (hl : s.length ≤ 65536) : pairsOf (bytesOf s) = (s, true) := pairsOf_bytesOf s (Rising.of_strict hs hb) hl

/-! ### files -/
theorem remove_good {fl : ByteArray} : ∀ (ns : List Nat) (D : DM), D.cut = false → ns.Nodup → (∀ x ∈ ns, getA (runN fl x) D.files ≠ none) →
    ∃ D', removeM D fl ns = (0, D') ∧ D'.cut = false ∧ D'.writes ≤ D.writes + ns.length ∧ D'.files.length ≤ D.files.length ∧ ∀ s, (∀ x ∈ ns, s ≠ runN fl x) → getA s D'.files = getA s D.files
  | [], D, hc, _, _ => ⟨D, rfl, hc, by simp, Nat.le_refl _, fun _ _ => rfl⟩
  | x :: ns, D, hc, hn, hf => by
    obtain ⟨hn1, hn2⟩ := List.nodup_cons.1 hn
    have hr : D.remove (runN fl x) = (0, DM.del { D with writes := D.writes + 1 } (runN fl x)) := by
      unfold DM.remove
      rw [if_neg (hf x (by simp)), raw_free18 hc]
    obtain ⟨D', h1, h2, h3, h4, h5⟩ := remove_good (fl := fl) ns (DM.del { D with writes := D.writes + 1 } (runN fl x)) hc hn2 (fun y hy => by
      show getA (runN fl y) (delA (runN fl x) D.files) ≠ none
      rw [getA_delA_ne (fun e => by have := runN_inj e; subst this; exact hn1 hy)]
      exact hf y (by simp [hy]))
    refine ⟨D', ?_, h2, ?_, ?_, fun s hs => ?_⟩
    · rw [removeM_cons, hr]
      simp only [ne_eq, not_true_eq_false, if_false]
      exact h1
    · have e1 : (DM.del { D with writes := D.writes + 1 } (runN fl x)).writes = D.writes + 1 := rfl
      rw [e1] at h3
      simp only [List.length_cons]
      omega
    · have e1 : (DM.del { D with writes := D.writes + 1 } (runN fl x)).files = delA (runN fl x) D.files := rfl
      rw [e1] at h4
      exact Nat.le_trans h4 (delA_length_le _ _)
    · rw [h5 s (fun y hy => hs y (by simp [hy]))]
      exact getA_delA_ne (hs x (by simp)) _
theorem lay_good {fl : ByteArray} {n : Nat} {D : DM} {J : JM} {M : MP} (hfl : mayB fl = true) (hfs : fl.size ≤ 21) (hc : D.cut = false) (hjf : J.file = fl) (hmf : M.file = fl) (hml : M.last = n) (hn : n < 1000)
    (hfree : getA (runN fl (n + 1)) D.files = none) (hcount : D.files.length ≤ 200) (hjb : (D.bytes fl).length ≤ 100000) (bs : List UInt8) (hne : bs ≠ []) (hbl : bs.length ≤ 100000) (os : List RunP) (hol : os.length ≤ 3) (hos : ∀ x ∈ os, x.n ≤ 1000) :
    ∃ D' q, layM D J M bs os = (0, D', J.add (recordB ((n + 1) :: os.map (·.n))) q, { M with parts := ⟨n + 1, bs⟩ :: os, last := n + 1 }) ∧ q ≤ 36 ∧ (recordB ((n + 1) :: os.map (·.n))).length ≤ 25 ∧
      q = (recB (recordB ((n + 1) :: os.map (·.n)))).length ∧ D'.cut = false ∧ D'.writes ≤ D.writes + bs.length + 36 ∧ D'.files = putA fl (D.bytes fl ++ recB (recordB ((n + 1) :: os.map (·.n)))) (putA (runN fl (n + 1)) bs D.files) := by
  have hb0 : D.bytes (runN fl (n + 1)) = [] := by unfold DM.bytes; rw [hfree]; rfl
  obtain ⟨k, hk1, hk2, h1⟩ := append_free18 (D := D) hne (may_runN hfl hfs (n := n + 1) (by omega)) hc (fun _ => by omega) (by rw [hb0]; simp only [List.length_nil]; omega)
  rw [hb0, List.nil_append] at h1
  obtain ⟨D2, hD2⟩ : ∃ D2, D.wrote (putA (runN fl (n + 1)) bs D.files) k = D2 := ⟨_, rfl⟩
  rw [hD2] at h1
  have hf2 : D2.files = putA (runN fl (n + 1)) bs D.files := by rw [← hD2]; rfl
  have hc2 : D2.cut = false := by rw [← hD2]; exact hc
  have hw2 : D2.writes = D.writes + k := by rw [← hD2]; rfl
  have hb2 : D2.bytes fl = D.bytes fl := by
    unfold DM.bytes
    rw [hf2, getA_putA_ne (fun e => runN_ne_file fl (n + 1) e.symm)]
  have hrl0 : (recordB ((n + 1) :: os.map (·.n))).length ≤ 25 := by
    have := recordB2_len ((n + 1) :: os.map (·.n)).length ((n + 1) :: os.map (·.n)) (by simp; omega) (fun x hx => by
      rcases List.mem_cons.1 hx with rfl | hx
      · omega
      · obtain ⟨y, hy, rfl⟩ := List.mem_map.1 hx
        have := hos y hy
        omega)
    rw [recordB_eq]
    simp only [List.length_cons, List.length_map] at this ⊢
    omega
  have hrl := recordB_len25 (recordB ((n + 1) :: os.map (·.n))) hrl0
  obtain ⟨k2, hk3, hk4, h2⟩ := append_free18 (D := D2) (s := fl) (bs := recB (recordB ((n + 1) :: os.map (·.n)))) (recB_ne _) hfl hc2 (fun _ => by
    rw [hf2]
    have := putA_length_le (runN fl (n + 1)) bs D.files
    omega) (by rw [hb2]; omega)
  rw [hb2] at h2
  obtain ⟨D3, hD3⟩ : ∃ D3, D2.wrote (putA fl (D.bytes fl ++ recB (recordB ((n + 1) :: os.map (·.n)))) D2.files) k2 = D3 := ⟨_, rfl⟩
  rw [hD3] at h2
  have hput : J.put D2 (recordB ((n + 1) :: os.map (·.n))) = (0, D3, J.add (recordB ((n + 1) :: os.map (·.n))) (recB (recordB ((n + 1) :: os.map (·.n)))).length) := by
    unfold JM.put
    rw [hjf]
    simp only [h2, if_true]
  refine ⟨D3, _, ?_, hrl, hrl0, rfl, by rw [← hD3]; exact hc2, ?_, by rw [← hD3, ← hf2]; rfl⟩
  · unfold layM
    rw [hmf, hml]
    simp only [h1, hput, ne_eq, not_true_eq_false, if_false]
  · have e3 : D3.writes = D2.writes + k2 := by rw [← hD3]; rfl
    omega
end Go.Proofs.YtemilbemdlpkaaaGreatDoor
