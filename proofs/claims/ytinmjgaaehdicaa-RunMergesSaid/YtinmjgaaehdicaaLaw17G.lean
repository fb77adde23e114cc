/- espalierlaw17.RunMerges. -/
import Derived.Test.YtinmjgaaehdicaaMerge
import Derived.Test.YtinmjgaaehdicaaReadL
import Derived.Test.YtinmjgaaehdicaaStr
import Derived.Test.YtinmjgaaehdicaaSrc
namespace Go.Proofs.Ytinmjgaaehdicaa
open Go.RowKit

theorem some2_any (w : World) (a : Option Addr) (c : Nat) (bs : List UInt8) (h : IsB w (.slice a bs.length c) bs) :
    Calls Try.prog 41 #[.slice a bs.length c] w fun e w' => e = .returned (.slice a (bs.take 3000).length c) ∧ w' = w := by
  obtain ⟨_, _, e, hlc, hcm, -⟩ := id h
  cases e
  have hm : (bs.take 3000).length = min bs.length 3000 := by rw [List.length_take, Nat.min_comm]
  rw [hm]
  clear hm h
  go_enter Try.func41, Try.ntmps41
  by_cases h : bs.length ≤ 3000
  · have hm : min bs.length 3000 = bs.length := Nat.min_eq_left h
    have hi : min (bs.length : Int) 3000 = (bs.length : Int) := by omega
    go_wp2
    go_ret
    simp [hm]
  · have hm : min bs.length 3000 = 3000 := Nat.min_eq_right (by omega)
    have hi : min (bs.length : Int) 3000 = 3000 := by omega
    go_wp2
    go_ret
    simp [hm]
theorem IsB.takeTo {w : World} {a : Option Addr} {c : Nat} {bs : List UInt8} (h : IsB w (.slice a bs.length c) bs) (k : Nat) : IsB w (.slice a (bs.take k).length c) (bs.take k) := by
  obtain ⟨_, _, e, h1, h2, h3⟩ := h
  cases e
  refine ⟨a, c, rfl, by rw [List.length_take]; omega, h2, ?_⟩
  rcases h3 with h3 | ⟨g, o, rfl, hg, h4⟩
  · exact .inl (by rw [h3]; simp)
  · refine .inr ⟨g, o, rfl, hg, fun i x hx => h4 i x ?_⟩
    unfold bytesV at *
    rw [List.map_take, List.getElem?_take] at hx
    split at hx
    · exact hx
    · cases hx
theorem IsP.tail {w : World} {a : Option Addr} {n c : Nat} {p : Nat × Nat} {l : List (Nat × Nat)} (h : IsP w (.slice a n c) (p :: l)) : ∃ g o, a = some ⟨g, o, none⟩ ∧ n = l.length + 1 ∧ l.length + 1 ≤ c ∧ c ≤ maxLen ∧ IsP w (.slice (some ⟨g, o + 2, none⟩) l.length (c - 1)) l := by
  obtain ⟨a', c', e, h1, h2, h3, h4⟩ := h
  cases e
  obtain ⟨g, o, rfl, hg, hc⟩ := h4.resolve_left (by simp)
  refine ⟨g, o, rfl, rfl, by simpa using h1, h2, _, _, rfl, by simp at h1; omega, by omega, fun q hq => h3 q (List.mem_cons_of_mem _ hq), .inr ⟨g, o + 2, rfl, hg, fun i x hx => ?_⟩⟩
  rw [Nat.add_assoc]
  exact hc (2 + i) x (by
    have : flatP (p :: l) = encP p ++ flatP l := by simp [flatP]
    rw [this, List.getElem?_append_right (by simp [encP])]
    simpa [encP] using hx)
theorem readR_len (bs : List UInt8) : (readR bs).1.length ≤ bs.length := by
  unfold readR
  split
  · simp
  · rename_i h
    split
    · rw [wordsP_length]; omega
    · simp

def cutZ : List (Nat × Nat) → List (Nat × Nat)
  | [] => []
  | p :: l => if p.1 = 0 then l else p :: l
theorem cutZ_rising {s : List (Nat × Nat)} (hs : s.Pairwise (fun x y => x.1 < y.1)) (hb : ∀ p ∈ s, p.1 < 18446744073709551616 ∧ p.2 < 18446744073709551616) : Rising 0 (cutZ s) := by
  match s, hs with
  | [], _ => trivial
  | p :: l, hs =>
    obtain ⟨hp, hl⟩ := List.pairwise_cons.1 hs
    show Rising 0 (if p.1 = 0 then l else p :: l)
    by_cases h0 : p.1 = 0
    · rw [if_pos h0]
      exact Rising.of_strict hl (fun q hq => ⟨by have := hp q hq; omega, hb q (List.mem_cons_of_mem _ hq)⟩)
    · rw [if_neg h0]
      exact Rising.of_strict hs (fun q hq => ⟨by
        rcases List.mem_cons.1 hq with rfl | hq
        · omega
        · have := hp q hq; omega, hb q hq⟩)
/-- What the rounds keep. -/
structure MInv (k : Nat) (bss : List (List UInt8)) (pl : List (Nat × Nat)) : Prop where
  n : bss.length = k
  pn : pl.length ≤ 4000 * k
  bn : ∀ bs ∈ bss, bs.length ≤ 3000
  eq : allOk bss = true → pl = allP bss
theorem MInv.step {k : Nat} {bss : List (List UInt8)} {pl : List (Nat × Nat)} (h : MInv k bss pl) (bs : List UInt8) (l : List (Nat × Nat)) (hb : bs.length ≤ 3000) (hl : l.length ≤ 3000) (he : (pairsOf bs).2 = true → l = (pairsOf bs).1) :
    MInv (k + 1) (bss ++ [bs]) (pl ++ l) ∧ (!allOk (bss ++ [bs])) = (!allOk bss || !(pairsOf bs).2) := by
  have ha : allOk (bss ++ [bs]) = (allOk bss && (pairsOf bs).2) := by simp [allOk]
  refine ⟨⟨by simp [h.n], by have := h.pn; rw [List.length_append]; omega, fun b hb2 => ?_, fun hok => ?_⟩, by rw [ha, Bool.not_and]⟩
  · rcases List.mem_append.1 hb2 with h2 | h2
    · exact h.bn b h2
    · rw [List.mem_singleton.1 h2]; exact hb
  · rw [ha, Bool.and_eq_true] at hok
    rw [h.eq hok.1, he hok.2]
    simp [allP]
theorem allP_len3000 {bss : List (List UInt8)} (h : ∀ bs ∈ bss, bs.length ≤ 3000) (hok : allOk bss = true) (hn : bss.length ≤ 10) : (allP bss).length ≤ 30000 := by
  have : ∀ l : List (List UInt8), (∀ bs ∈ l, bs.length ≤ 3000) → allOk l = true → (allP l).length ≤ 3000 * l.length := by
    intro l
    induction l with
    | nil => intro _ _; simp [allP]
    | cons b l ih =>
      intro h1 h2
      have h3 := ih (fun x hx => h1 x (List.mem_cons_of_mem _ hx)) (by simp only [allOk, List.all_cons, Bool.and_eq_true] at h2 ⊢; exact h2.2)
      have h4 := h1 b List.mem_cons_self
      have h5 : (pairsOf b).2 = true := by simp only [allOk, List.all_cons, Bool.and_eq_true] at h2; exact h2.1
      have h6 := read_same b
      have h7 := readR_len b
      rw [h6.2 (by rw [← h6.1]; exact h5)] at h7
      have e : allP (b :: l) = (pairsOf b).1 ++ allP l := by simp [allP]
      rw [e, List.length_append, List.length_cons]
      omega
  have := this bss h hok
  omega

theorem BK.mono {n0 n1 : Nat} {w : World} {u : Value} {bs : List UInt8} (h : BK n0 w u bs) (hn : n0 ≤ n1) : BK n1 w u bs := h.imp id fun h k e => (h k e).imp (fun h => Nat.lt_of_lt_of_le h hn) id
theorem NewP.same {n0 : Nat} {w : World} {g o o' n c n' c' : Nat} (h : NewP n0 w (.slice (some ⟨g, o, none⟩) n c)) : NewP n0 w (.slice (some ⟨g, o', none⟩) n' c') := fun k e => h k (by cases e; rfl)

theorem allP_len (bss : List (List UInt8)) : (allP bss).length ≤ 65536 * bss.length := by
  induction bss with
  | nil => simp [allP]
  | cons b l ih =>
    have e : allP (b :: l) = (pairsOf b).1 ++ allP l := by simp [allP]
    have := pairsOf_len b
    rw [e, List.length_append, List.length_cons]
    omega

set_option maxRecDepth 100000 in
set_option maxHeartbeats 3000000 in
theorem merges_any (w : World) (a sa : Option Addr) (c sc : Nat) (ls : List (List (Nat × Nat))) (sp : List UInt8) (x : Int) (h : RowsAt IsP w (.slice a ls.length c) ls) (hsp : IsB w (.slice sa sp.length sc) sp) :
    Calls Try.prog 9 #[.slice a ls.length c, .slice sa sp.length sc, .int .i64 x] w fun e w' => e = .returned (.bool true) ∧ Kept (fun _ => False) w w' := by
  obtain ⟨_, _, he, hlc, hcm, hrows⟩ := h
  cases he
  have HLT : Hid (∀ W sp2, sp.take 3000 = sp2 → BK w.heap.size W (.slice sa sp2.length sc) sp2) := Lib.hid (fun W sp2 e2 => by
    rcases hsp with ⟨_, _, e3, -, -, h3⟩
    cases e3
    rcases h3 with h3 | ⟨g, o, rfl, hg, -⟩
    · exact .inl (by rw [← e2, h3]; rfl)
    · exact .inr (fun k e => by cases e; exact .inl hg))
  go_enter Try.func9, Try.ntmps9
  go_wp2_with fail
  refine (wakes_any w).mono ?_
  rintro e w1 ⟨rfl, hk1⟩
  go_wp2_with fail
  go_loopw [7, 8, 9, 21] (fun av rv bv iv wr => ∃ (k : Nat) (bss : List (List UInt8)) (pl : List (Nat × Nat)), k ≤ ls.length ∧ k ≤ 10 ∧ iv = .int .i64 k ∧ bv = .bool (!allOk bss) ∧ Hid (OwnP w1.heap.size wr av pl ∧ OwnR w1.heap.size wr rv bss ∧ Kept (fun _ => False) w1 wr ∧ MInv k bss pl)) (fun _ _ _ iv _ => ls.length - (intOf iv).toNat)
  case atStart => exact ⟨0, [], [], Nat.zero_le _, Nat.zero_le _, rfl, rfl, Lib.hid ⟨World.ownsRow_nil _ _ _ _, OwnR.nil _ _, Kept.refl _ _, rfl, by simp, fun _ h => by simp at h, fun _ => rfl⟩⟩
  case round =>
    obtain ⟨k, bss, pl, hk, hk10, rfl, rfl, HST⟩ := hrel
    by_cases hlt : k < ls.length
    · by_cases hten : k = 10
      · have hk1i : ((k : Int) == 10) = true := by simp; omega
        obtain ⟨l0, hl0⟩ : ∃ l0, ls[k]? = some l0 := ⟨_, List.getElem?_eq_getElem hlt⟩
        obtain ⟨g, o, u, rfl, hc, hI⟩ := hrows k l0 hl0
        have hcr := (hk1.more HST.out.2.2.1 (fun _ f => f.elim)).cell hc (fun f => f)
        clear hl0 hc hI hten
        obtain ⟨ra, rc, rfl, -, -⟩ := HST.out.2.1.form
        obtain ⟨aa, ac, rfl, -, -⟩ := HST.out.1.form
        have hPL : (allP bss).length ≤ 1000000 := by
          have := allP_len bss
          have := HST.out.2.2.2.n
          omega
        have HMG := Lib.hid (merge_any wr _ bss HST.out.2.1.rows (fun b hb => by have := HST.out.2.2.2.bn b hb; omega) hPL)
        have hkr1 := hk1.more HST.out.2.2.1 (fun _ f => f.elim)
        obtain ⟨ab, hab⟩ : ∃ ab, allOk bss = ab := ⟨_, rfl⟩
        cases ab with
        | false =>
          have hM : mergeOf bss = ([], 8) := by unfold mergeOf; rw [hab]; rfl
          rw [hM] at HMG
          rw [hab]
          clear hM hab
          go_wp2_with fail
          refine HMG.out.mono ?_
          rintro e w5 ⟨v5, rfl, hf5⟩
          obtain ⟨a5, c5, rfl, -, -⟩ := hf5.own.form
          go_wp2_with fail
          refine (wakes_any w5).mono ?_
          rintro e w6 ⟨rfl, hk6⟩
          go_wp2
          go_ret
          exact ⟨rfl, (hkr1.more hf5.kept (fun _ f => f.elim)).more hk6 (fun _ f => f.elim)⟩
        | true =>
          have hpe := HST.out.2.2.2.eq hab
          have hp3 := allP_len3000 HST.out.2.2.2.bn hab (by have := HST.out.2.2.2.n; omega)
          have hM : mergeOf bss = (bytesOf (sortedR pl), 0) := by
            unfold mergeOf
            rw [hab, if_pos rfl, if_neg (by have := sortedR_length (allP bss); omega), ← hpe]
          rw [hM] at HMG
          rw [hab]
          have hpb := allP_bound hab
          rw [← hpe] at hpb hp3
          have hI := HST.out.1.isP hpb
          have hsl : (sortedR pl).length ≤ 30000 := by have := sortedR_length pl; omega
          clear hM hab hpe hpb hPL
          go_wp2_with fail
          refine HMG.out.mono ?_
          rintro e w5 ⟨v5, rfl, hf5⟩
          obtain ⟨a5, c5, rfl, -, -⟩ := hf5.own.form
          have hB5 := hf5.own.isB.keptF (kept_drew w5) (fun _ _ f => f)
          have hI5 := (hI.kept hf5.kept).kept (kept_drew w5)
          have hk5 := (hkr1.more hf5.kept (fun _ f => f.elim)).more (kept_drew w5) (fun _ f => f.elim)
          have hSO := Lib.hid (rsorted_any w5.drew _ ac pl hI5 (by omega))
          have hBR : Hid (∀ W a c, IsP W (.slice a (sortedR pl).length c) (sortedR pl) → Calls Try.prog 35 #[.slice a (sortedR pl).length c] W fun e w' => ∃ v, e = .returned v ∧ FreshB W v (bytesOf (sortedR pl)) w') := Lib.hid (fun W a c hI => rbytes_any W a c _ hI (by omega))
          have hcv := conv_any hB5
          generalize bytesOf (sortedR pl) = bb at *
          generalize sortedR pl = sl at *
          go_wp2_with fail
          go_region_held (fun w' => (convert 22 9 (.slice a5 bb.length c5)).run Try.prog w' = .ok (.string (strB bb)) w')
            (first | exact conv_any (((hB5.keptF hk7 (fun _ _ f => f)).keptF hf8.kept (fun _ _ f => f)).keptF hk9 (fun _ _ f => f)) | exact conv_any ((hB5.keptF hk7 (fun _ _ f => f)).keptF hf8.kept (fun _ _ f => f)) | exact conv_any (hB5.keptF hk7 (fun _ _ f => f)) | exact hcv)
            ((first
              | (go_at_call 29; refine (wakes_any _).mono ?_; rintro e' w9 ⟨rfl, hk9⟩)
              | (go_at_call 35; refine (hBR.out _ _ _ hI7).mono ?_; rintro e' w8 ⟨v8, rfl, hf8⟩; have hcv8 := conv_any hf8.own.isB; have hcv8b := conv_any ((hB5.keptF hk7 (fun _ _ f => f)).keptF hf8.kept (fun _ _ f => f)); obtain ⟨a8, c8, rfl, -, -⟩ := hf8.own.form)
              | (go_at_call 33; refine hSO.out.mono ?_; rintro e' w7 ⟨v7, rfl, hI7, hk7⟩; have hcv7 := conv_any (hB5.keptF hk7 (fun _ _ f => f)); obtain ⟨a7, c7, rfl, -⟩ := id hI7)))
          go_wp2
          go_ret
          exact ⟨rfl, ((hk5.more hk7 (fun _ f => f.elim)).more hf8.kept (fun _ f => f.elim)).more hk9 (fun _ f => f.elim)⟩
      · have hk1i : ((k : Int) == 10) = false := by simp; omega
        have hk9 : k ≤ 9 := by omega
        obtain ⟨l0, hl0⟩ : ∃ l0, ls[k]? = some l0 := ⟨_, List.getElem?_eq_getElem hlt⟩
        obtain ⟨g, o, u, rfl, hc, hI⟩ := hrows k l0 hl0
        have hkr1 := hk1.more HST.out.2.2.1 (fun _ f => f.elim)
        have hcr := hkr1.cell hc (fun f => f)
        have hIr := hI.kept hkr1
        obtain ⟨la, lc, rfl, hlc0, -⟩ := id hI
        have hm := hIr.take 60
        have hml : (l0.take 60).length ≤ 60 := by rw [List.length_take]; omega
        obtain ⟨m, hmm⟩ : ∃ m, l0.take 60 = m := ⟨_, rfl⟩
        have hnm : min l0.length 60 = m.length := by rw [← hmm, List.length_take, Nat.min_comm]
        have HS := fun W => some_any W la l0.length lc 60 hlc0 (by omega)
        rw [hmm, hnm] at hm
        rw [hmm] at hml
        simp only [hnm] at HS
        have HSO := Lib.hid (rsorted_new wr la lc m hm (by omega))
        have hmb : ∀ p ∈ m, p.1 < 18446744073709551616 ∧ p.2 < 18446744073709551616 := by obtain ⟨_, _, _, _, _, h1, _⟩ := hm; exact h1
        clear hmm hnm hl0 hc hI hIr hten hm
        go_wp2_with fail
        refine (HS wr).mono ?_
        rintro e w2' ⟨rfl, rfl⟩
        go_wp2_with fail
        refine HSO.out.mono ?_
        rintro e w2 ⟨v2, rfl, hI2, hk2, hN2⟩
        have hss := (sortedR_mem m [] List.Pairwise.nil).1
        have hsl := sortedR_length m
        change (sortedR m).Pairwise _ at hss
        generalize sortedR m = s at *
        have hsb : ∀ p ∈ s, p.1 < 18446744073709551616 ∧ p.2 < 18446744073709551616 := by obtain ⟨_, _, _, _, _, h1, _⟩ := hI2; exact h1
        have hri := cutZ_rising hss hsb
        have hsl2 : s.length ≤ 60 := by omega
        clear hss hsb hmb HSO hsl
        match s, hri, hI2, hsl2 with
        | [], hri, hI2, hsl2 =>
          obtain ⟨a2, c2, rfl, -⟩ := id hI2
          have HRI := Lib.hid hri
          clear hri
          have hBY := Lib.hid (rbytes_any w2 a2 c2 ([] : List (Nat × Nat)) hI2 (by omega))
          have HPB := Lib.hid (pairsOf_bytesOf ([] : List (Nat × Nat)) HRI.out (by omega))
          have hbl : (bytesOf ([] : List (Nat × Nat))).length ≤ 3000 := by
            have := uintB_len (([] : List (Nat × Nat))).length 3 (by omega) (by omega)
            unfold bytesOf bytesHead
            rw [List.length_append, List.length_append, bodyB_length, wordB_length]
            omega
          generalize bytesOf ([] : List (Nat × Nat)) = bb at hBY HPB hbl
          go_wp2_with fail
          refine hBY.out.mono ?_
          rintro e w3 ⟨v3, rfl, hf3⟩
          have hk23 := hk2.more hf3.kept (fun _ f => f.elim)
          have hPI3 := hI2.kept hf3.kept
          have hPN3 := hN2.kept hf3.kept
          by_cases hat : (k : Int) = x
          · have hat2 : ((k : Int) == x) = true := by simp [hat]
            have hsp3 := hsp.keptF (hkr1.more hk23 (fun _ f => f.elim)) (fun _ _ f => f)
            have HS2 := fun W => some2_any W sa sc sp
            have hspT := hsp3.takeTo 3000
            have hsl3 : (sp.take 3000).length ≤ 3000 := by rw [List.length_take]; omega
            have HRD := Lib.hid (rread_new w3 sa sc (sp.take 3000) hspT (by omega))
            have hrl := readR_len (sp.take 3000)
            have HRS := Lib.hid (read_same (sp.take 3000))
            have HSB : Hid (∀ W, Kept (fun _ => False) w W → IsB W (.slice sa sp.length sc) sp) := Lib.hid (fun W hW => hsp.keptF hW (fun _ _ f => f))
            generalize hS2 : sp.take 3000 = sp2 at *
            clear hPI3 hPN3 hBY
            obtain ⟨⟨rl, ok⟩, hq⟩ : ∃ q, readR sp2 = q := ⟨_, rfl⟩
            rw [hq] at HRD HRS hrl
            simp only at HRD HRS hrl
            clear hq hat
            obtain ⟨a3, c3, rfl, -, -⟩ := hf3.own.form
            go_wp2_with fail
            refine (HS2 w3 hsp3).mono ?_
            rintro e w3' ⟨rfl, rfl⟩
            go_wp2_with fail
            refine HRD.out.mono ?_
            rintro e w4 ⟨v4, rfl, hI4, hk4, hN4⟩
            have hk24 := hk23.more hk4 (fun _ f => f.elim)
            obtain ⟨a4, c4, rfl, -⟩ := id hI4
            have hkr4 := hkr1.more hk24 (fun _ f => f.elim)
            have hsp4 := HSB.out w4 hkr4
            have hspB : IsB w4 (.slice sa sp2.length sc) sp2 := by rw [← hS2]; exact hsp4.takeTo 3000
            have hspK : BK w1.heap.size w4 (.slice sa sp2.length sc) sp2 := (HLT.out w4 sp2 rfl).mono hk1.size
            have HPO : Hid ((pairsOf sp2).2 = ok) := Lib.hid HRS.out.1
            have HPE : Hid ((pairsOf sp2).2 = true → rl = (pairsOf sp2).1) := Lib.hid (fun e => HRS.out.2 (by rw [← HRS.out.1]; exact e))
            have hkW := hk24
            obtain ⟨ab, hab⟩ : ∃ ab, allOk bss = ab := ⟨_, rfl⟩
            have HAB := Lib.hid hab
            rw [hab]
            clear hab
            cases ab <;> cases ok
            all_goals
              go_wp2_with fail
              refine (HS2 w4 hsp4).mono ?_
              rintro e w4' ⟨rfl, rfl⟩
              obtain ⟨rv', wR, av', wE, hrun1, hrun2, hoE, hrE, hkE⟩ := push_both (HST.out.1.kept hkW (fun _ f => f.elim)) (HST.out.2.1.keptN hkW) (HST.out.2.2.1.more hkW (fun _ f => f.elim)).size (by have := HST.out.2.2.2.n; omega) (by have := HST.out.2.2.2.pn; omega) hspB hspK hI4 (hN4.mono (HST.out.2.2.1.more hk23 (fun _ f => f.elim)).size) (by omega)
              have HMI := Lib.hid (HST.out.2.2.2.step sp2 rl (by omega) (by omega) (HPE.out))
              have HE := Lib.hid (And.intro hoE (And.intro hrE ((HST.out.2.2.1.more hkW (fun _ f => f.elim)).more hkE (fun i hi => hi))))
              clear hoE hrE hkE
              obtain ⟨ra, rc, rfl, -, -⟩ := HST.out.2.1.form
              obtain ⟨aa, ac, rfl, -, -⟩ := HST.out.1.form
              go_wp2_with (first | (at_builtin; refine wpList_append_run rfl (.tmp 63) (.tmp 65) #[79, 79] rfl _ _ _ _ rfl rfl hrun1 ?_) | (at_builtin; refine wpList_append_run rfl (.tmp 67) (.tmp 68) #[54, 54] rfl _ _ _ _ rfl rfl hrun2 ?_))
              go_roundw
              case rel => exact ⟨k + 1, bss ++ [sp2], pl ++ rl, hlt, by omega, by go_num, by rw [HMI.out.2, HAB.out, HPO.out]; first | rfl | simp, Lib.hid ⟨HE.out.1, HE.out.2.1, HE.out.2.2, HMI.out.1⟩⟩
              case measure => simp [intOf]; omega
          · have hat2 : ((k : Int) == x) = false := by simp [hat]
            have hB3 := hf3.own.isB
            have hK3 := hf3.bk w1.heap.size
            have hkW := hk23
            obtain ⟨a3, c3, rfl, -, -⟩ := hf3.own.form
            have HPO : Hid ((pairsOf bb).2 = true) := Lib.hid (by rw [HPB.out])
            obtain ⟨ab, hab⟩ : ∃ ab, allOk bss = ab := ⟨_, rfl⟩
            have HAB := Lib.hid hab
            rw [hab]
            clear hab hat hBY hf3
            obtain ⟨rv', wR, av', wE, hrun1, hrun2, hoE, hrE, hkE⟩ := push_both (HST.out.1.kept hkW (fun _ f => f.elim)) (HST.out.2.1.keptN hkW) (HST.out.2.2.1.more hkW (fun _ f => f.elim)).size (by have := HST.out.2.2.2.n; omega) (by have := HST.out.2.2.2.pn; omega) hB3 hK3 hPI3 (hPN3.mono (HST.out.2.2.1.size)) (by omega)
            have HMI := Lib.hid (HST.out.2.2.2.step bb ([] : List (Nat × Nat)) (by omega) (by omega) (fun _ => by rw [HPB.out]))
            have HE := Lib.hid (And.intro hoE (And.intro hrE ((HST.out.2.2.1.more hkW (fun _ f => f.elim)).more hkE (fun i hi => hi))))
            clear hoE hrE hkE
            obtain ⟨ra, rc, rfl, -, -⟩ := HST.out.2.1.form
            obtain ⟨aa, ac, rfl, -, -⟩ := HST.out.1.form
            go_wp2_with (first | (at_builtin; refine wpList_append_run rfl (.tmp 63) (.tmp 65) #[79, 79] rfl _ _ _ _ rfl rfl hrun1 ?_) | (at_builtin; refine wpList_append_run rfl (.tmp 67) (.tmp 68) #[54, 54] rfl _ _ _ _ rfl rfl hrun2 ?_))
            go_roundw
            case rel => exact ⟨k + 1, bss ++ [bb], pl ++ ([] : List (Nat × Nat)), hlt, by omega, by go_num, by rw [HMI.out.2, HAB.out, HPO.out]; first | rfl | simp, Lib.hid ⟨HE.out.1, HE.out.2.1, HE.out.2.2, HMI.out.1⟩⟩
            case measure => simp [intOf]; omega
        | ⟨pf, pt⟩ :: s, hri, hI2, hsl2 =>
          obtain ⟨a2, c2, rfl, -⟩ := id hI2
          have hc0 := (hI2.at (k := 0) (by simp))
          obtain ⟨g2, o2, rfl, hln, hlc2, hcm2, hIt⟩ := hI2.tail
          obtain ⟨_, _, e2, -, hc0⟩ := hc0
          cases e2
          have hd0 := (hc0 0 (by simp)).1
          simp only [List.getElem_cons_zero, Nat.zero_mul, Nat.add_zero] at hd0
          have hsl3 : s.length + 1 ≤ 60 := by simpa using hsl2
          clear hc0 hln
          by_cases hp0 : pf = 0
          · have hri2 : Rising 0 s := by
              have : cutZ ((pf, pt) :: s) = s := by show (if pf = 0 then s else _) = s; rw [if_pos hp0]
              rwa [this] at hri
            have HRI := Lib.hid hri2
            subst hp0
            by_cases hc2 : c2 = 1
            · subst hc2
              obtain rfl : s = [] := List.length_eq_zero_iff.1 (by omega)
              have hI0 : IsP w2 (.slice (some ⟨g2, o2, none⟩) 0 0) [] := ⟨_, _, rfl, Nat.le_refl _, by simp [maxLen], fun p hp => by simp at hp, .inl rfl⟩
              have hNt := hN2.same (o' := o2) (n' := 0) (c' := 0)
              clear hri hri2 hI2 hIt
              have hBY := Lib.hid (rbytes_any w2 (some ⟨g2, o2, none⟩) 0 ([] : List (Nat × Nat)) hI0 (by omega))
              have HPB := Lib.hid (pairsOf_bytesOf ([] : List (Nat × Nat)) HRI.out (by omega))
              have hbl : (bytesOf ([] : List (Nat × Nat))).length ≤ 3000 := by
                have := uintB_len (([] : List (Nat × Nat))).length 3 (by omega) (by omega)
                unfold bytesOf bytesHead
                rw [List.length_append, List.length_append, bodyB_length, wordB_length]
                omega
              generalize bytesOf ([] : List (Nat × Nat)) = bb at hBY HPB hbl
              go_wp2_with fail
              refine hBY.out.mono ?_
              rintro e w3 ⟨v3, rfl, hf3⟩
              have hk23 := hk2.more hf3.kept (fun _ f => f.elim)
              have hPI3 := hI0.kept hf3.kept
              have hPN3 := hNt.kept hf3.kept
              by_cases hat : (k : Int) = x
              · have hat2 : ((k : Int) == x) = true := by simp [hat]
                have hsp3 := hsp.keptF (hkr1.more hk23 (fun _ f => f.elim)) (fun _ _ f => f)
                have HS2 := fun W => some2_any W sa sc sp
                have hspT := hsp3.takeTo 3000
                have hsl3 : (sp.take 3000).length ≤ 3000 := by rw [List.length_take]; omega
                have HRD := Lib.hid (rread_new w3 sa sc (sp.take 3000) hspT (by omega))
                have hrl := readR_len (sp.take 3000)
                have HRS := Lib.hid (read_same (sp.take 3000))
                have HSB : Hid (∀ W, Kept (fun _ => False) w W → IsB W (.slice sa sp.length sc) sp) := Lib.hid (fun W hW => hsp.keptF hW (fun _ _ f => f))
                generalize hS2 : sp.take 3000 = sp2 at *
                clear hPI3 hPN3 hBY
                obtain ⟨⟨rl, ok⟩, hq⟩ : ∃ q, readR sp2 = q := ⟨_, rfl⟩
                rw [hq] at HRD HRS hrl
                simp only at HRD HRS hrl
                clear hq hat
                obtain ⟨a3, c3, rfl, -, -⟩ := hf3.own.form
                go_wp2_with fail
                refine (HS2 w3 hsp3).mono ?_
                rintro e w3' ⟨rfl, rfl⟩
                go_wp2_with fail
                refine HRD.out.mono ?_
                rintro e w4 ⟨v4, rfl, hI4, hk4, hN4⟩
                have hk24 := hk23.more hk4 (fun _ f => f.elim)
                obtain ⟨a4, c4, rfl, -⟩ := id hI4
                have hkr4 := hkr1.more hk24 (fun _ f => f.elim)
                have hsp4 := HSB.out w4 hkr4
                have hspB : IsB w4 (.slice sa sp2.length sc) sp2 := by rw [← hS2]; exact hsp4.takeTo 3000
                have hspK : BK w1.heap.size w4 (.slice sa sp2.length sc) sp2 := (HLT.out w4 sp2 rfl).mono hk1.size
                have HPO : Hid ((pairsOf sp2).2 = ok) := Lib.hid HRS.out.1
                have HPE : Hid ((pairsOf sp2).2 = true → rl = (pairsOf sp2).1) := Lib.hid (fun e => HRS.out.2 (by rw [← HRS.out.1]; exact e))
                have hkW := hk24
                obtain ⟨ab, hab⟩ : ∃ ab, allOk bss = ab := ⟨_, rfl⟩
                have HAB := Lib.hid hab
                rw [hab]
                clear hab
                cases ab <;> cases ok
                all_goals
                  go_wp2_with fail
                  refine (HS2 w4 hsp4).mono ?_
                  rintro e w4' ⟨rfl, rfl⟩
                  obtain ⟨rv', wR, av', wE, hrun1, hrun2, hoE, hrE, hkE⟩ := push_both (HST.out.1.kept hkW (fun _ f => f.elim)) (HST.out.2.1.keptN hkW) (HST.out.2.2.1.more hkW (fun _ f => f.elim)).size (by have := HST.out.2.2.2.n; omega) (by have := HST.out.2.2.2.pn; omega) hspB hspK hI4 (hN4.mono (HST.out.2.2.1.more hk23 (fun _ f => f.elim)).size) (by omega)
                  have HMI := Lib.hid (HST.out.2.2.2.step sp2 rl (by omega) (by omega) (HPE.out))
                  have HE := Lib.hid (And.intro hoE (And.intro hrE ((HST.out.2.2.1.more hkW (fun _ f => f.elim)).more hkE (fun i hi => hi))))
                  clear hoE hrE hkE
                  obtain ⟨ra, rc, rfl, -, -⟩ := HST.out.2.1.form
                  obtain ⟨aa, ac, rfl, -, -⟩ := HST.out.1.form
                  go_wp2_with (first | (at_builtin; refine wpList_append_run rfl (.tmp 63) (.tmp 65) #[79, 79] rfl _ _ _ _ rfl rfl hrun1 ?_) | (at_builtin; refine wpList_append_run rfl (.tmp 67) (.tmp 68) #[54, 54] rfl _ _ _ _ rfl rfl hrun2 ?_))
                  go_roundw
                  case rel => exact ⟨k + 1, bss ++ [sp2], pl ++ rl, hlt, by omega, by go_num, by rw [HMI.out.2, HAB.out, HPO.out]; first | rfl | simp, Lib.hid ⟨HE.out.1, HE.out.2.1, HE.out.2.2, HMI.out.1⟩⟩
                  case measure => simp [intOf]; omega
              · have hat2 : ((k : Int) == x) = false := by simp [hat]
                have hB3 := hf3.own.isB
                have hK3 := hf3.bk w1.heap.size
                have hkW := hk23
                obtain ⟨a3, c3, rfl, -, -⟩ := hf3.own.form
                have HPO : Hid ((pairsOf bb).2 = true) := Lib.hid (by rw [HPB.out])
                obtain ⟨ab, hab⟩ : ∃ ab, allOk bss = ab := ⟨_, rfl⟩
                have HAB := Lib.hid hab
                rw [hab]
                clear hab hat hBY hf3
                obtain ⟨rv', wR, av', wE, hrun1, hrun2, hoE, hrE, hkE⟩ := push_both (HST.out.1.kept hkW (fun _ f => f.elim)) (HST.out.2.1.keptN hkW) (HST.out.2.2.1.more hkW (fun _ f => f.elim)).size (by have := HST.out.2.2.2.n; omega) (by have := HST.out.2.2.2.pn; omega) hB3 hK3 hPI3 (hPN3.mono (HST.out.2.2.1.size)) (by omega)
                have HMI := Lib.hid (HST.out.2.2.2.step bb ([] : List (Nat × Nat)) (by omega) (by omega) (fun _ => by rw [HPB.out]))
                have HE := Lib.hid (And.intro hoE (And.intro hrE ((HST.out.2.2.1.more hkW (fun _ f => f.elim)).more hkE (fun i hi => hi))))
                clear hoE hrE hkE
                obtain ⟨ra, rc, rfl, -, -⟩ := HST.out.2.1.form
                obtain ⟨aa, ac, rfl, -, -⟩ := HST.out.1.form
                go_wp2_with (first | (at_builtin; refine wpList_append_run rfl (.tmp 63) (.tmp 65) #[79, 79] rfl _ _ _ _ rfl rfl hrun1 ?_) | (at_builtin; refine wpList_append_run rfl (.tmp 67) (.tmp 68) #[54, 54] rfl _ _ _ _ rfl rfl hrun2 ?_))
                go_roundw
                case rel => exact ⟨k + 1, bss ++ [bb], pl ++ ([] : List (Nat × Nat)), hlt, by omega, by go_num, by rw [HMI.out.2, HAB.out, HPO.out]; first | rfl | simp, Lib.hid ⟨HE.out.1, HE.out.2.1, HE.out.2.2, HMI.out.1⟩⟩
                case measure => simp [intOf]; omega
            · have hNt := hN2.same (o' := o2 + 2) (n' := s.length) (c' := c2 - 1)
              have hc3 : ¬ c2 - 1 = 0 := by omega
              clear hri hri2 hI2
              have hBY := Lib.hid (rbytes_any w2 (some ⟨g2, o2 + 2, none⟩) (c2 - 1) s hIt (by omega))
              have HPB := Lib.hid (pairsOf_bytesOf s HRI.out (by omega))
              have hbl : (bytesOf s).length ≤ 3000 := by
                have := uintB_len (s).length 3 (by omega) (by omega)
                unfold bytesOf bytesHead
                rw [List.length_append, List.length_append, bodyB_length, wordB_length]
                omega
              generalize bytesOf s = bb at hBY HPB hbl
              go_wp2_with fail
              refine hBY.out.mono ?_
              rintro e w3 ⟨v3, rfl, hf3⟩
              have hk23 := hk2.more hf3.kept (fun _ f => f.elim)
              have hPI3 := hIt.kept hf3.kept
              have hPN3 := hNt.kept hf3.kept
              by_cases hat : (k : Int) = x
              · have hat2 : ((k : Int) == x) = true := by simp [hat]
                have hsp3 := hsp.keptF (hkr1.more hk23 (fun _ f => f.elim)) (fun _ _ f => f)
                have HS2 := fun W => some2_any W sa sc sp
                have hspT := hsp3.takeTo 3000
                have hsl3 : (sp.take 3000).length ≤ 3000 := by rw [List.length_take]; omega
                have HRD := Lib.hid (rread_new w3 sa sc (sp.take 3000) hspT (by omega))
                have hrl := readR_len (sp.take 3000)
                have HRS := Lib.hid (read_same (sp.take 3000))
                have HSB : Hid (∀ W, Kept (fun _ => False) w W → IsB W (.slice sa sp.length sc) sp) := Lib.hid (fun W hW => hsp.keptF hW (fun _ _ f => f))
                generalize hS2 : sp.take 3000 = sp2 at *
                clear hPI3 hPN3 hBY
                obtain ⟨⟨rl, ok⟩, hq⟩ : ∃ q, readR sp2 = q := ⟨_, rfl⟩
                rw [hq] at HRD HRS hrl
                simp only at HRD HRS hrl
                clear hq hat
                obtain ⟨a3, c3, rfl, -, -⟩ := hf3.own.form
                go_wp2_with fail
                refine (HS2 w3 hsp3).mono ?_
                rintro e w3' ⟨rfl, rfl⟩
                go_wp2_with fail
                refine HRD.out.mono ?_
                rintro e w4 ⟨v4, rfl, hI4, hk4, hN4⟩
                have hk24 := hk23.more hk4 (fun _ f => f.elim)
                obtain ⟨a4, c4, rfl, -⟩ := id hI4
                have hkr4 := hkr1.more hk24 (fun _ f => f.elim)
                have hsp4 := HSB.out w4 hkr4
                have hspB : IsB w4 (.slice sa sp2.length sc) sp2 := by rw [← hS2]; exact hsp4.takeTo 3000
                have hspK : BK w1.heap.size w4 (.slice sa sp2.length sc) sp2 := (HLT.out w4 sp2 rfl).mono hk1.size
                have HPO : Hid ((pairsOf sp2).2 = ok) := Lib.hid HRS.out.1
                have HPE : Hid ((pairsOf sp2).2 = true → rl = (pairsOf sp2).1) := Lib.hid (fun e => HRS.out.2 (by rw [← HRS.out.1]; exact e))
                have hkW := hk24
                obtain ⟨ab, hab⟩ : ∃ ab, allOk bss = ab := ⟨_, rfl⟩
                have HAB := Lib.hid hab
                rw [hab]
                clear hab
                cases ab <;> cases ok
                all_goals
                  go_wp2_with fail
                  refine (HS2 w4 hsp4).mono ?_
                  rintro e w4' ⟨rfl, rfl⟩
                  obtain ⟨rv', wR, av', wE, hrun1, hrun2, hoE, hrE, hkE⟩ := push_both (HST.out.1.kept hkW (fun _ f => f.elim)) (HST.out.2.1.keptN hkW) (HST.out.2.2.1.more hkW (fun _ f => f.elim)).size (by have := HST.out.2.2.2.n; omega) (by have := HST.out.2.2.2.pn; omega) hspB hspK hI4 (hN4.mono (HST.out.2.2.1.more hk23 (fun _ f => f.elim)).size) (by omega)
                  have HMI := Lib.hid (HST.out.2.2.2.step sp2 rl (by omega) (by omega) (HPE.out))
                  have HE := Lib.hid (And.intro hoE (And.intro hrE ((HST.out.2.2.1.more hkW (fun _ f => f.elim)).more hkE (fun i hi => hi))))
                  clear hoE hrE hkE
                  obtain ⟨ra, rc, rfl, -, -⟩ := HST.out.2.1.form
                  obtain ⟨aa, ac, rfl, -, -⟩ := HST.out.1.form
                  go_wp2_with (first | (at_builtin; refine wpList_append_run rfl (.tmp 63) (.tmp 65) #[79, 79] rfl _ _ _ _ rfl rfl hrun1 ?_) | (at_builtin; refine wpList_append_run rfl (.tmp 67) (.tmp 68) #[54, 54] rfl _ _ _ _ rfl rfl hrun2 ?_))
                  go_roundw
                  case rel => exact ⟨k + 1, bss ++ [sp2], pl ++ rl, hlt, by omega, by go_num, by rw [HMI.out.2, HAB.out, HPO.out]; first | rfl | simp, Lib.hid ⟨HE.out.1, HE.out.2.1, HE.out.2.2, HMI.out.1⟩⟩
                  case measure => simp [intOf]; omega
              · have hat2 : ((k : Int) == x) = false := by simp [hat]
                have hB3 := hf3.own.isB
                have hK3 := hf3.bk w1.heap.size
                have hkW := hk23
                obtain ⟨a3, c3, rfl, -, -⟩ := hf3.own.form
                have HPO : Hid ((pairsOf bb).2 = true) := Lib.hid (by rw [HPB.out])
                obtain ⟨ab, hab⟩ : ∃ ab, allOk bss = ab := ⟨_, rfl⟩
                have HAB := Lib.hid hab
                rw [hab]
                clear hab hat hBY hf3
                obtain ⟨rv', wR, av', wE, hrun1, hrun2, hoE, hrE, hkE⟩ := push_both (HST.out.1.kept hkW (fun _ f => f.elim)) (HST.out.2.1.keptN hkW) (HST.out.2.2.1.more hkW (fun _ f => f.elim)).size (by have := HST.out.2.2.2.n; omega) (by have := HST.out.2.2.2.pn; omega) hB3 hK3 hPI3 (hPN3.mono (HST.out.2.2.1.size)) (by omega)
                have HMI := Lib.hid (HST.out.2.2.2.step bb s (by omega) (by omega) (fun _ => by rw [HPB.out]))
                have HE := Lib.hid (And.intro hoE (And.intro hrE ((HST.out.2.2.1.more hkW (fun _ f => f.elim)).more hkE (fun i hi => hi))))
                clear hoE hrE hkE
                obtain ⟨ra, rc, rfl, -, -⟩ := HST.out.2.1.form
                obtain ⟨aa, ac, rfl, -, -⟩ := HST.out.1.form
                go_wp2_with (first | (at_builtin; refine wpList_append_run rfl (.tmp 63) (.tmp 65) #[79, 79] rfl _ _ _ _ rfl rfl hrun1 ?_) | (at_builtin; refine wpList_append_run rfl (.tmp 67) (.tmp 68) #[54, 54] rfl _ _ _ _ rfl rfl hrun2 ?_))
                go_roundw
                case rel => exact ⟨k + 1, bss ++ [bb], pl ++ s, hlt, by omega, by go_num, by rw [HMI.out.2, HAB.out, HPO.out]; first | rfl | simp, Lib.hid ⟨HE.out.1, HE.out.2.1, HE.out.2.2, HMI.out.1⟩⟩
                case measure => simp [intOf]; omega
          · have hri2 : Rising 0 ((pf, pt) :: s) := by
              have : cutZ ((pf, pt) :: s) = (pf, pt) :: s := by show (if pf = 0 then s else _) = _; rw [if_neg hp0]
              rwa [this] at hri
            have HRI := Lib.hid hri2
            have hp1 : ((pf : Int) == 0) = false := by simp; omega
            clear hri hri2 hIt
            have hBY := Lib.hid (rbytes_any w2 (some ⟨g2, o2, none⟩) c2 ((pf, pt) :: s) hI2 (by omega))
            have HPB := Lib.hid (pairsOf_bytesOf ((pf, pt) :: s) HRI.out (by omega))
            have hbl : (bytesOf ((pf, pt) :: s)).length ≤ 3000 := by
              have := uintB_len (((pf, pt) :: s)).length 3 (by omega) (by omega)
              unfold bytesOf bytesHead
              rw [List.length_append, List.length_append, bodyB_length, wordB_length]
              omega
            generalize bytesOf ((pf, pt) :: s) = bb at hBY HPB hbl
            go_wp2_with fail
            refine hBY.out.mono ?_
            rintro e w3 ⟨v3, rfl, hf3⟩
            have hk23 := hk2.more hf3.kept (fun _ f => f.elim)
            have hPI3 := hI2.kept hf3.kept
            have hPN3 := hN2.kept hf3.kept
            by_cases hat : (k : Int) = x
            · have hat2 : ((k : Int) == x) = true := by simp [hat]
              have hsp3 := hsp.keptF (hkr1.more hk23 (fun _ f => f.elim)) (fun _ _ f => f)
              have HS2 := fun W => some2_any W sa sc sp
              have hspT := hsp3.takeTo 3000
              have hsl3 : (sp.take 3000).length ≤ 3000 := by rw [List.length_take]; omega
              have HRD := Lib.hid (rread_new w3 sa sc (sp.take 3000) hspT (by omega))
              have hrl := readR_len (sp.take 3000)
              have HRS := Lib.hid (read_same (sp.take 3000))
              have HSB : Hid (∀ W, Kept (fun _ => False) w W → IsB W (.slice sa sp.length sc) sp) := Lib.hid (fun W hW => hsp.keptF hW (fun _ _ f => f))
              generalize hS2 : sp.take 3000 = sp2 at *
              clear hPI3 hPN3 hBY
              obtain ⟨⟨rl, ok⟩, hq⟩ : ∃ q, readR sp2 = q := ⟨_, rfl⟩
              rw [hq] at HRD HRS hrl
              simp only at HRD HRS hrl
              clear hq hat
              obtain ⟨a3, c3, rfl, -, -⟩ := hf3.own.form
              go_wp2_with fail
              refine (HS2 w3 hsp3).mono ?_
              rintro e w3' ⟨rfl, rfl⟩
              go_wp2_with fail
              refine HRD.out.mono ?_
              rintro e w4 ⟨v4, rfl, hI4, hk4, hN4⟩
              have hk24 := hk23.more hk4 (fun _ f => f.elim)
              obtain ⟨a4, c4, rfl, -⟩ := id hI4
              have hkr4 := hkr1.more hk24 (fun _ f => f.elim)
              have hsp4 := HSB.out w4 hkr4
              have hspB : IsB w4 (.slice sa sp2.length sc) sp2 := by rw [← hS2]; exact hsp4.takeTo 3000
              have hspK : BK w1.heap.size w4 (.slice sa sp2.length sc) sp2 := (HLT.out w4 sp2 rfl).mono hk1.size
              have HPO : Hid ((pairsOf sp2).2 = ok) := Lib.hid HRS.out.1
              have HPE : Hid ((pairsOf sp2).2 = true → rl = (pairsOf sp2).1) := Lib.hid (fun e => HRS.out.2 (by rw [← HRS.out.1]; exact e))
              have hkW := hk24
              obtain ⟨ab, hab⟩ : ∃ ab, allOk bss = ab := ⟨_, rfl⟩
              have HAB := Lib.hid hab
              rw [hab]
              clear hab
              cases ab <;> cases ok
              all_goals
                go_wp2_with fail
                refine (HS2 w4 hsp4).mono ?_
                rintro e w4' ⟨rfl, rfl⟩
                obtain ⟨rv', wR, av', wE, hrun1, hrun2, hoE, hrE, hkE⟩ := push_both (HST.out.1.kept hkW (fun _ f => f.elim)) (HST.out.2.1.keptN hkW) (HST.out.2.2.1.more hkW (fun _ f => f.elim)).size (by have := HST.out.2.2.2.n; omega) (by have := HST.out.2.2.2.pn; omega) hspB hspK hI4 (hN4.mono (HST.out.2.2.1.more hk23 (fun _ f => f.elim)).size) (by omega)
                have HMI := Lib.hid (HST.out.2.2.2.step sp2 rl (by omega) (by omega) (HPE.out))
                have HE := Lib.hid (And.intro hoE (And.intro hrE ((HST.out.2.2.1.more hkW (fun _ f => f.elim)).more hkE (fun i hi => hi))))
                clear hoE hrE hkE
                obtain ⟨ra, rc, rfl, -, -⟩ := HST.out.2.1.form
                obtain ⟨aa, ac, rfl, -, -⟩ := HST.out.1.form
                go_wp2_with (first | (at_builtin; refine wpList_append_run rfl (.tmp 63) (.tmp 65) #[79, 79] rfl _ _ _ _ rfl rfl hrun1 ?_) | (at_builtin; refine wpList_append_run rfl (.tmp 67) (.tmp 68) #[54, 54] rfl _ _ _ _ rfl rfl hrun2 ?_))
                go_roundw
                case rel => exact ⟨k + 1, bss ++ [sp2], pl ++ rl, hlt, by omega, by go_num, by rw [HMI.out.2, HAB.out, HPO.out]; first | rfl | simp, Lib.hid ⟨HE.out.1, HE.out.2.1, HE.out.2.2, HMI.out.1⟩⟩
                case measure => simp [intOf]; omega
            · have hat2 : ((k : Int) == x) = false := by simp [hat]
              have hB3 := hf3.own.isB
              have hK3 := hf3.bk w1.heap.size
              have hkW := hk23
              obtain ⟨a3, c3, rfl, -, -⟩ := hf3.own.form
              have HPO : Hid ((pairsOf bb).2 = true) := Lib.hid (by rw [HPB.out])
              obtain ⟨ab, hab⟩ : ∃ ab, allOk bss = ab := ⟨_, rfl⟩
              have HAB := Lib.hid hab
              rw [hab]
              clear hab hat hBY hf3
              obtain ⟨rv', wR, av', wE, hrun1, hrun2, hoE, hrE, hkE⟩ := push_both (HST.out.1.kept hkW (fun _ f => f.elim)) (HST.out.2.1.keptN hkW) (HST.out.2.2.1.more hkW (fun _ f => f.elim)).size (by have := HST.out.2.2.2.n; omega) (by have := HST.out.2.2.2.pn; omega) hB3 hK3 hPI3 (hPN3.mono (HST.out.2.2.1.size)) (by omega)
              have HMI := Lib.hid (HST.out.2.2.2.step bb ((pf, pt) :: s) (by omega) (by omega) (fun _ => by rw [HPB.out]))
              have HE := Lib.hid (And.intro hoE (And.intro hrE ((HST.out.2.2.1.more hkW (fun _ f => f.elim)).more hkE (fun i hi => hi))))
              clear hoE hrE hkE
              obtain ⟨ra, rc, rfl, -, -⟩ := HST.out.2.1.form
              obtain ⟨aa, ac, rfl, -, -⟩ := HST.out.1.form
              go_wp2_with (first | (at_builtin; refine wpList_append_run rfl (.tmp 63) (.tmp 65) #[79, 79] rfl _ _ _ _ rfl rfl hrun1 ?_) | (at_builtin; refine wpList_append_run rfl (.tmp 67) (.tmp 68) #[54, 54] rfl _ _ _ _ rfl rfl hrun2 ?_))
              go_roundw
              case rel => exact ⟨k + 1, bss ++ [bb], pl ++ ((pf, pt) :: s), hlt, by omega, by go_num, by rw [HMI.out.2, HAB.out, HPO.out]; first | rfl | simp, Lib.hid ⟨HE.out.1, HE.out.2.1, HE.out.2.2, HMI.out.1⟩⟩
              case measure => simp [intOf]; omega
    · obtain rfl : k = ls.length := by omega
      obtain ⟨ra, rc, rfl, -, -⟩ := HST.out.2.1.form
      obtain ⟨aa, ac, rfl, -, -⟩ := HST.out.1.form
      have hPL : (allP bss).length ≤ 1000000 := by
        have := allP_len bss
        have := HST.out.2.2.2.n
        omega
      have HMG := Lib.hid (merge_any wr _ bss HST.out.2.1.rows (fun b hb => by have := HST.out.2.2.2.bn b hb; omega) hPL)
      have hkr1 := hk1.more HST.out.2.2.1 (fun _ f => f.elim)
      obtain ⟨ab, hab⟩ : ∃ ab, allOk bss = ab := ⟨_, rfl⟩
      cases ab with
      | false =>
        have hM : mergeOf bss = ([], 8) := by unfold mergeOf; rw [hab]; rfl
        rw [hM] at HMG
        rw [hab]
        clear hM hab
        go_wp2_with fail
        refine HMG.out.mono ?_
        rintro e w5 ⟨v5, rfl, hf5⟩
        obtain ⟨a5, c5, rfl, -, -⟩ := hf5.own.form
        go_wp2_with fail
        refine (wakes_any w5).mono ?_
        rintro e w6 ⟨rfl, hk6⟩
        go_wp2
        go_ret
        exact ⟨rfl, (hkr1.more hf5.kept (fun _ f => f.elim)).more hk6 (fun _ f => f.elim)⟩
      | true =>
        have hpe := HST.out.2.2.2.eq hab
        have hp3 := allP_len3000 HST.out.2.2.2.bn hab (by have := HST.out.2.2.2.n; omega)
        have hM : mergeOf bss = (bytesOf (sortedR pl), 0) := by
          unfold mergeOf
          rw [hab, if_pos rfl, if_neg (by have := sortedR_length (allP bss); omega), ← hpe]
        rw [hM] at HMG
        rw [hab]
        have hpb := allP_bound hab
        rw [← hpe] at hpb hp3
        have hI := HST.out.1.isP hpb
        have hsl : (sortedR pl).length ≤ 30000 := by have := sortedR_length pl; omega
        clear hM hab hpe hpb hPL
        go_wp2_with fail
        refine HMG.out.mono ?_
        rintro e w5 ⟨v5, rfl, hf5⟩
        obtain ⟨a5, c5, rfl, -, -⟩ := hf5.own.form
        have hB5 := hf5.own.isB.keptF (kept_drew w5) (fun _ _ f => f)
        have hI5 := (hI.kept hf5.kept).kept (kept_drew w5)
        have hk5 := (hkr1.more hf5.kept (fun _ f => f.elim)).more (kept_drew w5) (fun _ f => f.elim)
        have hSO := Lib.hid (rsorted_any w5.drew _ ac pl hI5 (by omega))
        have hBR : Hid (∀ W a c, IsP W (.slice a (sortedR pl).length c) (sortedR pl) → Calls Try.prog 35 #[.slice a (sortedR pl).length c] W fun e w' => ∃ v, e = .returned v ∧ FreshB W v (bytesOf (sortedR pl)) w') := Lib.hid (fun W a c hI => rbytes_any W a c _ hI (by omega))
        have hcv := conv_any hB5
        generalize bytesOf (sortedR pl) = bb at *
        generalize sortedR pl = sl at *
        go_wp2_with fail
        go_region_held (fun w' => (convert 22 9 (.slice a5 bb.length c5)).run Try.prog w' = .ok (.string (strB bb)) w')
          (first | exact conv_any (((hB5.keptF hk7 (fun _ _ f => f)).keptF hf8.kept (fun _ _ f => f)).keptF hk9 (fun _ _ f => f)) | exact conv_any ((hB5.keptF hk7 (fun _ _ f => f)).keptF hf8.kept (fun _ _ f => f)) | exact conv_any (hB5.keptF hk7 (fun _ _ f => f)) | exact hcv)
          ((first
            | (go_at_call 29; refine (wakes_any _).mono ?_; rintro e' w9 ⟨rfl, hk9⟩)
            | (go_at_call 35; refine (hBR.out _ _ _ hI7).mono ?_; rintro e' w8 ⟨v8, rfl, hf8⟩; have hcv8 := conv_any hf8.own.isB; have hcv8b := conv_any ((hB5.keptF hk7 (fun _ _ f => f)).keptF hf8.kept (fun _ _ f => f)); obtain ⟨a8, c8, rfl, -, -⟩ := hf8.own.form)
            | (go_at_call 33; refine hSO.out.mono ?_; rintro e' w7 ⟨v7, rfl, hI7, hk7⟩; have hcv7 := conv_any (hB5.keptF hk7 (fun _ _ f => f)); obtain ⟨a7, c7, rfl, -⟩ := id hI7)))
        go_wp2
        go_ret
        exact ⟨rfl, ((hk5.more hk7 (fun _ f => f.elim)).more hf8.kept (fun _ f => f.elim)).more hk9 (fun _ f => f.elim)⟩
end Go.Proofs.Ytinmjgaaehdicaa
