/- espalierlaw18.MemoParts: in whatever parts the pairs came. -/
import Derived.Test.YtemilbemdlpkaaaGreatDoorPbw
namespace Go.Proofs.YtemilbemdlpkaaaGreatDoor
open Go.RowKit Go.Shelf
set_option linter.unusedSimpArgs false

theorem OwnP.cut18 {b : Nat} {w : World} {a : Option Addr} {n c : Nat} {l : List (Nat × Nat)} (h : OwnP b w (.slice a n c) l) {k : Nat} (hk : k ≤ l.length) : OwnP b w (.slice a k c) (l.take k) := by
  have h2 := h.2
  rcases h2 with ⟨e, h0⟩ | ⟨g, cap, cur, e, -⟩
  · cases e
    obtain rfl : k = 0 := by omega
    exact OwnP.nil _ _
  · cases e
    exact h.cut hk
theorem IsP.none18 (w : World) (a : Option Addr) : IsP w (.slice a 0 0) [] := ⟨a, 0, rfl, Nat.le_refl _, by simp [maxLen], by simp, .inl rfl⟩
theorem pairsL_mem {l : List (Nat × Nat)} {p : Nat × Nat} (h : p ∈ pairsL l) : p ∈ l := by
  obtain ⟨f, hf, rfl⟩ := List.mem_map.1 h
  have hf2 : f ∈ l.map (·.1) := (List.mergeSort_perm _ _).mem_iff.1 hf
  cases hg : getA f l with
  | none =>
    obtain ⟨q, hq, rfl⟩ := List.mem_map.1 hf2
    exact absurd rfl (getA_none hg q hq)
  | some v => exact getA_mem hg
theorem part_ok {L : List (Nat × Nat)} (h : (makeOf L).2 = 0) {rl x : Nat} (hx : x ≤ rl) (hr : rl ≤ L.length) {kn : List (Nat × Nat)} (hk : kn.Perm (L.drop rl)) :
    (makeOf ((L.take rl).drop x)).2 = 0 ∧ freshOf kn [] ((L.take rl).drop x) = some ((L.take rl).drop x) ∧ (kn ++ (L.take rl).drop x).Perm (L.drop x) := by
  obtain ⟨m1, m2, m3⟩ := makeOf_zero h
  have hsub : ((L.take rl).drop x).Sublist L := (List.drop_sublist _ _).trans (List.take_sublist _ _)
  have he : L.drop x = (L.take rl).drop x ++ L.drop rl := by
    conv => lhs; rw [← List.take_append_drop rl L]
    rw [List.drop_append_of_le_length (by rw [List.length_take]; omega)]
  refine ⟨by rw [makeOf_of (Nat.le_trans hsub.length_le m1) (fun p hp => m2 p (hsub.subset hp)) ((hsub.map _).nodup m3)], ?_, ?_⟩
  · rw [freshOf_new _ [] (fun p hp => ?_), List.nil_append]
    refine getA_of_not_mem (fun hm => ?_)
    have hm2 := (hk.map (·.1)).mem_iff.1 hm
    rw [← List.take_append_drop rl L, List.map_append, List.nodup_append] at m3
    exact m3.2.2 p.1 (List.mem_map.2 ⟨p, List.mem_of_mem_drop hp, rfl⟩) p.1 hm2 rfl
  · rw [he]
    exact (hk.append_right _).trans List.perm_append_comm
theorem mod18 (z : Int) (rl : Nat) (h : rl ≤ 60) : ∃ k : Nat, k ≤ rl ∧ IntKind.i64.wrap ((IntKind.u64.wrap z).tmod ((rl : Int) + 1)) = k := by
  have hw : IntKind.u64.wrap z = z % 18446744073709551616 := by go_num
  refine ⟨((z % 18446744073709551616) % ((rl : Int) + 1)).toNat, by have := Int.emod_lt_of_pos (z % 18446744073709551616) (show (0 : Int) < (rl : Int) + 1 by omega); omega, ?_⟩
  have h1 := Int.emod_nonneg (z % 18446744073709551616) (show (rl : Int) + 1 ≠ 0 by omega)
  have h2 := Int.emod_lt_of_pos (z % 18446744073709551616) (show (0 : Int) < (rl : Int) + 1 by omega)
  rw [hw, Int.tmod_eq_emod_of_nonneg (by omega), IntKind.wrap_i64]
  omega
section
variable {w : World} {p : Nat} {jp dp : Value} {km : Nat} {kes : Array MapEntry} {kclk : Nat} {tv : Value} {ps : List PtM} {M : MP}
theorem all18_at (h : MemI w p jp dp km kes kclk tv ps M) {PL : List (Nat × Nat)} (hPL : pairsL M.known = PL) {N : Nat} (hN : PL.length = N) :
    Calls Tryz.prog 14 #[.pointer (some ⟨p, 0, none⟩)] w fun e w' => ∃ a c, e = .returned (.slice a N c) ∧ OwnP w.heap.size w' (.slice a N c) PL ∧ Kept (fun _ => False) w w' := by
  subst hPL hN
  refine (all18_any h).mono ?_
  rintro e w' ⟨v, rfl, ho, hk⟩
  obtain ⟨a, c, rfl, -, -⟩ := ho.form
  exact ⟨a, c, rfl, ho, hk⟩
theorem runs18_at (h : MemI w p jp dp km kes kclk tv ps M) (h4 : M.parts.length ≤ 4) :
    Calls Tryz.prog 15 #[.pointer (some ⟨p, 0, none⟩)] w fun e w' => ∃ a n c, e = .returned (.slice a n c) ∧ n ≤ 4 ∧ Kept (fun _ => False) w w' := by
  refine (mruns_any h).mono ?_
  rintro e w' ⟨v, rfl, ho, hk⟩
  obtain ⟨a, c, rfl, -, -⟩ := ho.form
  exact ⟨a, _, c, rfl, by rw [List.length_map]; exact h4, hk⟩
theorem pairs18_same {PL : List (Nat × Nat)} {N : Nat} (hN : PL.length = N) (hb : ∀ x ∈ PL, x.1 < 18446744073709551616 ∧ x.2 < 18446744073709551616) (hl : N ≤ 1000000) {n1 n2 : Nat} {a b : Option Addr} {c d : Nat} {w1 w2 w3 : World} (h1 : OwnP n1 w1 (.slice a N c) PL) (hk1 : Kept (fun _ => False) w1 w3) (h2 : OwnP n2 w2 (.slice b N d) PL) (hk2 : Kept (fun _ => False) w2 w3) :
    Calls Tryz.prog 13 #[.slice a N c, .slice b N d] w3 fun e w' => e = .returned (.bool true) ∧ Kept (fun _ => False) w3 w' := by
  subst hN
  have := pairs18_any w3 a b c d PL PL ((OwnP.isP h1 hb).kept hk1) ((OwnP.isP h2 hb).kept hk2) hl hl
  simpa using this
end

set_option maxRecDepth 100000 in
set_option maxHeartbeats 1000000 in
theorem parts18_any (w : World) (la : Option Addr) (lc ln : Nat) (l0 : List (Nat × Nat)) (hln : l0.length = ln) (hl : IsP w (.slice la ln lc) l0) (za : Option Addr) (zc zn : Nat) (zs : List Int) (hz : IsZ18 w (.slice za zn zc) zs) (hT : ∀ W, Kept (fun _ => False) w W → Tab10 W) :
    Calls Tryz.prog 3 #[.slice la ln lc, .slice za zn zc] w fun e w' => e = .returned (.bool true) ∧ Kept (fun _ => False) w w' := by
  have HT := Lib.hid hT
  have HL := Lib.hid hl
  have HZ := Lib.hid hz
  have HLN := Lib.hid hln
  have hlm : ln ≤ 9223372036854775807 := by obtain ⟨_, _, e, q1, q2, -⟩ := hl; cases e; unfold maxLen at q2; omega
  obtain ⟨-, -, hzm⟩ := hz.len
  clear hT hl hz hln
  go_enter Tryz.func3, Tryz.ntmps3
  go_wp2_with fail
  refine (wakes18_any w (tabB_of HT.out (Kept.refl _ _))).mono ?_
  rintro e w1 ⟨rfl, hk1⟩
  have HK1 := Lib.hid hk1
  clear hk1
  have hlc : ln ≤ lc := by obtain ⟨_, _, e, q1, q2, -⟩ := HL.out; cases e; omega
  go_upto_if 19 with fail
  go_cut [0] from 19 to 21 (fun v0 W => W = w1 ∧ ∃ n : Nat, v0 = .slice la n lc ∧ n ≤ 60 ∧ Hid (∃ L, L.length = n ∧ IsP w (.slice la n lc) L))
  case first =>
    by_cases h60 : 60 < ln
    · have h60b : (60 : Int) < (ln : Int) := by omega
      have h60c : (60 : Nat) ≤ lc := by omega
      go_wp2_with fail
      go_meet
      case rel => exact ⟨rfl, 60, rfl, Nat.le_refl _, Lib.hid ⟨l0.take 60, by rw [List.length_take, HLN.out]; omega, by
        have h1 := HL.out
        rw [← HLN.out] at h1
        have := h1.take 60
        rwa [HLN.out, show min ln 60 = 60 from by omega] at this⟩⟩
    · have h60b : ¬ (60 : Int) < (ln : Int) := by omega
      go_wp2_with fail
      go_meet
      case rel => exact ⟨rfl, ln, rfl, by omega, Lib.hid ⟨l0, HLN.out, HL.out⟩⟩
  case rest =>
    obtain ⟨rfl, n, rfl, hn60, HLL⟩ := hcut
    obtain ⟨L, hLn, hLP⟩ := HLL.out
    have hMK := makeP_any wc la lc L (by rw [hLn]; exact hLP.kept HK1.out) (by omega)
    rw [hLn] at hMK
    have HMK := Lib.hid hMK
    obtain ⟨⟨mb, me⟩, hq⟩ : ∃ q, makeOf L = q := ⟨_, rfl⟩
    rw [hq] at HMK
    simp only at HMK
    have HQ : Hid ((makeOf L).2 = me) := Lib.hid (by rw [hq])
    have HLP := Lib.hid hLP
    have HLn := Lib.hid hLn
    clear hMK hq hLP hLn HLL
    go_wp2_with fail
    refine HMK.out.mono ?_
    rintro e w2 ⟨mv, rfl, hf2⟩
    have HK2 := Lib.hid (HK1.out.trans hf2.kept (fun _ _ f => f))
    clear hf2 HMK
    by_cases hme : me = 0
    · have hme0 : (me != 0) = false := by simp [hme]
      have HMZ : Hid ((makeOf L).2 = 0) := Lib.hid (by rw [HQ.out, hme])
      clear hme
      go_wp2_with fail
      refine (new_any w2).mono ?_
      rintro e w3 ⟨b1, m1, rfl, hb1, hm1, hd1, hk3⟩
      have HO1 := Lib.hid (openNew_any hd1 1 (by omega) (by omega) w2.heap.size ((tabB_of HT.out HK2.out).keptN hk3) hb1 hm1 hk3.size)
      have HB1 := Lib.hid (And.intro hb1 hm1)
      have HK3 := Lib.hid (HK2.out.trans hk3 (fun _ _ f => f))
      clear hb1 hm1 hd1
      go_wp2_with fail
      refine HO1.out.mono ?_
      rintro e w4 ⟨a1, rfl, hM1, hF1, hP1, hk4⟩
      have hk04 : Kept (fun _ => False) w w4 := HK3.out.more hk4 (fun i e => by have := HB1.out; have := HK2.out.size; omega)
      have hF1w : ∀ k, a1.F k → w.heap.size ≤ k := fun k hk => by
        have := HB1.out; have := HK2.out.size; have := HK3.out.size
        rcases hF1 k hk with e | e | e <;> omega
      have HS4 := Lib.hid (And.intro hM1 (And.intro hk04 (And.intro hF1w hP1)))
      clear hM1 hF1 hP1 hk4 hk04 hF1w HO1
      go_wp2_with fail
      refine (new_any w4).mono ?_
      rintro e w5 ⟨b2, m2, rfl, hb2, hm2, hd2, hk5⟩
      have HO2 := Lib.hid (openNew_any hd2 1 (by omega) (by omega) w4.heap.size ((tabB_of HT.out HS4.out.2.1).keptN hk5) hb2 hm2 hk5.size)
      have HB2 := Lib.hid (And.intro hb2 (And.intro hm2 hk5))
      clear hb2 hm2 hd2 hk5
      go_wp2_with fail
      refine HO2.out.mono ?_
      rintro e w6 ⟨a2, rfl, hM2, hF2, hP2, hk6⟩
      have hk46 : Kept (fun _ => False) w4 w6 := HB2.out.2.2.more hk6 (fun i e => by have := HB2.out; omega)
      have hM1 := HS4.out.1.keptN hk46
      have hF2w : ∀ k, a2.F k → w4.heap.size ≤ k := fun k hk => by
        have := HB2.out; have := HB2.out.2.2.size
        rcases hF2 k hk with e | e | e <;> omega
      have hP2w : ∀ k, a2.P k → w4.heap.size ≤ k := fun k hk => Nat.le_trans HB2.out.2.2.size (hP2 k hk)
      have hA12 : Apart18 a1 a2 := fun k hk hf => by
        have h1 := HS4.out.1.lt.1 k hf
        rcases hk with h2 | h2
        · have := hF2w k h2; omega
        · have := hP2w k h2; omega
      have hA21 : Apart18 a2 a1 := fun k hk hf => by
        have h1 := hF2w k hf
        rcases hk with h2 | h2
        · have := HS4.out.1.lt.1 k h2; omega
        · have := HS4.out.1.lt.2 k h2; omega
      have hk06 := HS4.out.2.1.trans hk46 (fun _ _ f => f)
      have hF1w := HS4.out.2.2.1
      have hF2w2 : ∀ k, a2.F k → w.heap.size ≤ k := fun k hk => Nat.le_trans HS4.out.2.1.size (hF2w k hk)
      have HAD := Lib.hid (addGood_any hM1 (good_new (fileN 1)) (may_fileN 1) (Nat.le_of_eq (fileN_size 1)) (by omega) w.heap.size ((tabB_of HT.out (Kept.refl _ _)).keptN hk06) hF1w hk06.size la lc n L L HLn.out (HLP.out.kept hk06) HMZ.out (freshOf_new L [] (fun _ _ => rfl)) (by simp only [List.length_nil]; rw [HLn.out]; omega))
      have HS6 := Lib.hid (And.intro hM2 (And.intro hk06 (And.intro hF1w (And.intro hF2w2 (And.intro hA12 hA21)))))
      clear hM1 hM2 hF2 hP2 hk6 hk46 hF2w hP2w hA12 hA21 hk06 hF1w hF2w2 HO2 HS4
      go_wp2_with (first
        | (go_at_call 12; refine HAD.out.mono ?_; rintro e w7 ⟨rfl, a1', n1, D1, J1, M1, hM1, hg1, -, hkn1, hp1, hF1', hP1', hk7⟩
           have hk7A : Kept (fun _ => False) w7 (w7.alloc (.cells #[] 68)) := (Kept.refl _ _).alloc _
           obtain ⟨v8, w8, hrun, ho8, hk8, -⟩ := (emptyP w7).app (by simp) (a := la) (n := n) (c := lc) (m := L) ((HLP.out.kept (HS6.out.2.1.more hk7 (fun i e => HS6.out.2.2.1 i e))).kept hk7A) (by rw [HLn.out]; simp; omega)
           obtain ⟨ra, rc, hv8, -, -⟩ := ho8.form
           rw [List.nil_append, HLn.out] at hv8
           subst hv8)
        | (at_builtin; refine wpList_append_run rfl (.tmp 52) (.tmp 53) #[22, 22] rfl _ _ _ _ rfl rfl hrun ?_))
      obtain ⟨hM2, hk06, hF1w, hF2w, hA12, hA21⟩ := HS6.out
      have hM2' := hM2.other hk7 hA12
      have hA21' : Apart18 a2 a1' := hA21.grow2 hM2 hF1' hP1'
      have hk07 : Kept (fun _ => False) w w7 := hk06.more hk7 (fun i e => hF1w i e)
      have hF2lt := hM2'.lt.1
      rw [List.nil_append] at hkn1
      have HS7 := Lib.hid (And.intro hM1 (And.intro hg1 (And.intro hkn1 (And.intro hp1 (And.intro hM2' (And.intro hA21' (And.intro hk07 hF2w)))))))
      clear hM1 hg1 hkn1 hp1 hF1' hP1' hk7 hM2 hk06 hF1w hF2w hA12 hA21 hM2' hA21' hk07 HS6 HAD hF2lt
      have HO8 := Lib.hid (And.intro ho8 (hk7A.more hk8 (fun i (e : w7.heap.size ≤ i) => e)))
      clear ho8 hk8 hk7A
      go_loopg [11, 57] zn (fun g rv iv wr => ∃ (j rl : Nat) (ra : Option Addr) (rc : Nat) (a2' : MAd) (n2 : Nat) (D2 : DM) (J2 : JM) (M2 : MP), j + g = zn ∧ iv = .int .i64 j ∧ rv = .slice ra rl rc ∧ rl ≤ n ∧ j ≤ 9 ∧ n2 ≤ j ∧
        Hid (OwnP w7.heap.size wr (.slice ra rl rc) (L.take rl)) ∧ Hid (∀ g, (Value.slice ra rl rc).ownBlock = some g → ¬ a2'.F g) ∧ Hid (MemR wr a2' D2 J2 M2 ∧ Good18 (fileN 1) n2 D2 J2 M2 ∧ M2.known.Perm (L.drop rl) ∧ a2'.p = a2.p) ∧ Hid (MemR wr a1' D1 J1 M1 ∧ Apart18 a2' a1') ∧ Hid (∀ k, a2'.F k → w.heap.size ≤ k) ∧ Hid (Kept (fun _ => False) w wr))
      case atStart =>
        obtain ⟨hM1, hg1, hkn1, hp1, hM2, hA21, hk07, hF2w⟩ := HS7.out
        obtain ⟨ho8, hk8⟩ := HO8.out
        refine ⟨0, n, ra, rc, a2, 0, disk0, ⟨fileN 1, [], 0, false⟩, ⟨fileN 1, [], [], 0, false⟩, by omega, rfl, rfl, Nat.le_refl _, by omega, Nat.le_refl _, Lib.hid ?_, Lib.hid ?_, Lib.hid ⟨hM2.keptN hk8, good_new _, ?_, rfl⟩, Lib.hid ⟨hM1.keptN hk8, hA21⟩, Lib.hid hF2w, Lib.hid (hk07.trans hk8 (fun _ _ f => f))⟩
        · rw [List.nil_append] at ho8
          rwa [List.take_of_length_le (by rw [HLn.out]; exact Nat.le_refl _)]
        · intro g e hf
          have h1 := (World.ownsRow.lt ho8 g e).1
          have h2 := hM2.lt.1 g hf
          omega
        · rw [List.drop_eq_nil_of_le (by rw [HLn.out]; exact Nat.le_refl _)]
      case round =>
        obtain ⟨j, rl, ra, rc, a2', n2, D2, J2, M2, hjg, rfl, rfl, hrl, hj9, hn2, HO, HB, HM, H1, HF, HK⟩ := hrel
        rcases Nat.eq_zero_or_pos gk with rfl | hpos
        · obtain rfl : j = zn := by omega
          obtain ⟨hM2, hg2, hkp, hp2⟩ := HM.out
          obtain ⟨q1, q2, q3⟩ := part_ok HMZ.out (x := 0) (rl := rl) (Nat.zero_le _) (by rw [HLn.out]; exact hrl) hkp
          rw [List.drop_zero] at q1 q2 q3
          rw [List.drop_zero] at q3
          have hkl := hkp.length_eq
          rw [List.length_drop, HLn.out] at hkl
          have hLb : ∀ p ∈ L, p.1 < 18446744073709551616 ∧ p.2 < 18446744073709551616 := by obtain ⟨_, _, _, _, _, h3, _⟩ := HLP.out; exact h3
          have hAD2 := addGood_any hM2 hg2 (may_fileN 1) (Nat.le_of_eq (fileN_size 1)) (by omega) w.heap.size ((tabB_of HT.out (Kept.refl _ _)).keptN HK.out) HF.out HK.out.size ra rc rl (L.take rl) (L.take rl) (by rw [List.length_take, HLn.out]; omega) (OwnP.isP HO.out (fun p hp => hLb p (List.mem_of_mem_take hp))) q1 q2 (by rw [List.length_take, HLn.out]; omega)
          rw [hp2] at hAD2
          have HAD2 := Lib.hid hAD2
          have HQ3 := Lib.hid q3
          have HLb := Lib.hid hLb
          clear hM2 hg2 hkp hp2 q1 q2 q3 hkl hLb hAD2
          go_wp2_with fail
          refine HAD2.out.mono ?_
          rintro e w9 ⟨rfl, a3, n3, D3, J3, M3, hM3, hg3, -, hkn3, hp3, hF3, hP3, hk9⟩
          have hM1 := H1.out.1.other hk9 H1.out.2
          have hk09 : Kept (fun _ => False) w w9 := HK.out.more hk9 (fun i e => HF.out i e)
          have hkp3 : M3.known.Perm L := by rw [hkn3]; exact HQ3.out
          obtain ⟨PL, hPL⟩ : ∃ PL, pairsL M3.known = PL := ⟨_, rfl⟩
          have hPL1 : pairsL M1.known = PL := by
            rw [← hPL, HS7.out.2.2.1]
            exact (pairsL_perm hg3.kn hkp3).symm
          obtain ⟨N, hN⟩ : ∃ N, PL.length = N := ⟨_, rfl⟩
          have HPB : Hid (∀ x ∈ PL, x.1 < 18446744073709551616 ∧ x.2 < 18446744073709551616) := Lib.hid (fun x hx => by
            rw [← hPL] at hx
            exact HLb.out x (hkp3.mem_iff.1 (pairsL_mem hx)))
          have HN := Lib.hid hN
          have hNl : N ≤ 60 := by
            have h1 := hkp3.length_eq
            rw [HLn.out] at h1
            rw [← hN, ← hPL, pairsL_length]
            omega
          have hp3' : a3.p = a2.p := hp3
          have hp1' : a1'.p = a1.p := HS7.out.2.2.2.1
          have HAL3 : Hid (∀ W, Kept (fun _ => False) w9 W → Calls Tryz.prog 14 #[.pointer (some ⟨a2.p, 0, none⟩)] W fun e w' => ∃ a c, e = .returned (.slice a N c) ∧ OwnP W.heap.size w' (.slice a N c) PL ∧ Kept (fun _ => False) W w') := Lib.hid (fun W hW => by
            have := all18_at (hM3.keptN hW).mem hPL hN
            rwa [hp3'] at this)
          have HAL1 : Hid (Calls Tryz.prog 14 #[.pointer (some ⟨a1.p, 0, none⟩)] w9 fun e w' => ∃ a c, e = .returned (.slice a N c) ∧ OwnP w9.heap.size w' (.slice a N c) PL ∧ Kept (fun _ => False) w9 w') := Lib.hid (by
            have := all18_at hM1.mem hPL1 hN
            rwa [hp1'] at this)
          have HRN3 : Hid (∀ W, Kept (fun _ => False) w9 W → Calls Tryz.prog 15 #[.pointer (some ⟨a2.p, 0, none⟩)] W fun e w' => ∃ a n c, e = .returned (.slice a n c) ∧ n ≤ 4 ∧ Kept (fun _ => False) W w') := Lib.hid (fun W hW => by
            have := runs18_at (hM3.keptN hW).mem hg3.plen
            rwa [hp3'] at this)
          have HRN1 : Hid (∀ W, Kept (fun _ => False) w9 W → Calls Tryz.prog 15 #[.pointer (some ⟨a1.p, 0, none⟩)] W fun e w' => ∃ a n c, e = .returned (.slice a n c) ∧ n ≤ 4 ∧ Kept (fun _ => False) W w') := Lib.hid (fun W hW => by
            have := runs18_at (hM1.keptN hW).mem HS7.out.2.1.plen
            rwa [hp1'] at this)
          have HK09 := Lib.hid hk09
          clear hM3 hg3 hkn3 hp3 hF3 hP3 hk9 hM1 hk09 hkp3 hPL hPL1 hN hp3' hp1' HAD2
          go_wp2_with (first
            | (go_at_call 14; refine (HAL3.out wa hka).mono ?_; rintro e wb ⟨pb, cb, rfl, hob, hkb⟩)
            | (go_at_call 14; refine HAL1.out.mono ?_; rintro e wa ⟨pa, ca, rfl, hoa, hka⟩)
            | (go_at_call 13; refine (pairs18_same HN.out HPB.out (by omega) hoa hkb hob (Kept.refl _ _)).mono ?_; rintro e wc ⟨rfl, hkc⟩; have hk9c := (hka.trans hkb (fun _ _ f => f)).trans hkc (fun _ _ f => f))
            | (go_at_call 8; refine (wakes18_any _ (tabB_of HT.out ((HK09.out.trans hk9d (fun _ _ f => f)).trans hke (fun _ _ f => f)))).mono ?_; rintro e wf ⟨rfl, hkf⟩)
            | (go_at_call 15; refine (HRN3.out wd hk9d).mono ?_; rintro e we ⟨re, ne, ce, rfl, hne, hke⟩)
            | (go_at_call 15; refine (HRN1.out _ hk9c).mono ?_; rintro e wd ⟨rd, nd, cd, rfl, hnd, hkd⟩; have hk9d := hk9c.trans hkd (fun _ _ f => f); have hnd' : (nd : Int) ≤ 4 := by omega))
          go_ret
          exact ⟨rfl, ((HK09.out.trans hk9d (fun _ _ f => f)).trans hke (fun _ _ f => f)).trans hkf (fun _ _ f => f)⟩
        · have hlt : j < zn := by omega
          have hjl : j < zs.length := by have := HZ.out.len; omega
          obtain ⟨zg, zo, rfl, hzg, hzc⟩ := (HZ.out.kept HK.out (fun _ _ f => f)).at hjl
          generalize zs[j] = z at hzc
          by_cases h9 : j = 9
          · subst h9
            obtain ⟨hM2, hg2, hkp, hp2⟩ := HM.out
            obtain ⟨q1, q2, q3⟩ := part_ok HMZ.out (x := 0) (rl := rl) (Nat.zero_le _) (by rw [HLn.out]; exact hrl) hkp
            rw [List.drop_zero] at q1 q2 q3
            rw [List.drop_zero] at q3
            have hkl := hkp.length_eq
            rw [List.length_drop, HLn.out] at hkl
            have hLb : ∀ p ∈ L, p.1 < 18446744073709551616 ∧ p.2 < 18446744073709551616 := by obtain ⟨_, _, _, _, _, h3, _⟩ := HLP.out; exact h3
            have hAD2 := addGood_any hM2 hg2 (may_fileN 1) (Nat.le_of_eq (fileN_size 1)) (by omega) w.heap.size ((tabB_of HT.out (Kept.refl _ _)).keptN HK.out) HF.out HK.out.size ra rc rl (L.take rl) (L.take rl) (by rw [List.length_take, HLn.out]; omega) (OwnP.isP HO.out (fun p hp => hLb p (List.mem_of_mem_take hp))) q1 q2 (by rw [List.length_take, HLn.out]; omega)
            rw [hp2] at hAD2
            have HAD2 := Lib.hid hAD2
            have HQ3 := Lib.hid q3
            have HLb := Lib.hid hLb
            clear hM2 hg2 hkp hp2 q1 q2 q3 hkl hLb hAD2
            go_wp2_with fail
            refine HAD2.out.mono ?_
            rintro e w9 ⟨rfl, a3, n3, D3, J3, M3, hM3, hg3, -, hkn3, hp3, hF3, hP3, hk9⟩
            have hM1 := H1.out.1.other hk9 H1.out.2
            have hk09 : Kept (fun _ => False) w w9 := HK.out.more hk9 (fun i e => HF.out i e)
            have hkp3 : M3.known.Perm L := by rw [hkn3]; exact HQ3.out
            obtain ⟨PL, hPL⟩ : ∃ PL, pairsL M3.known = PL := ⟨_, rfl⟩
            have hPL1 : pairsL M1.known = PL := by
              rw [← hPL, HS7.out.2.2.1]
              exact (pairsL_perm hg3.kn hkp3).symm
            obtain ⟨N, hN⟩ : ∃ N, PL.length = N := ⟨_, rfl⟩
            have HPB : Hid (∀ x ∈ PL, x.1 < 18446744073709551616 ∧ x.2 < 18446744073709551616) := Lib.hid (fun x hx => by
              rw [← hPL] at hx
              exact HLb.out x (hkp3.mem_iff.1 (pairsL_mem hx)))
            have HN := Lib.hid hN
            have hNl : N ≤ 60 := by
              have h1 := hkp3.length_eq
              rw [HLn.out] at h1
              rw [← hN, ← hPL, pairsL_length]
              omega
            have hp3' : a3.p = a2.p := hp3
            have hp1' : a1'.p = a1.p := HS7.out.2.2.2.1
            have HAL3 : Hid (∀ W, Kept (fun _ => False) w9 W → Calls Tryz.prog 14 #[.pointer (some ⟨a2.p, 0, none⟩)] W fun e w' => ∃ a c, e = .returned (.slice a N c) ∧ OwnP W.heap.size w' (.slice a N c) PL ∧ Kept (fun _ => False) W w') := Lib.hid (fun W hW => by
              have := all18_at (hM3.keptN hW).mem hPL hN
              rwa [hp3'] at this)
            have HAL1 : Hid (Calls Tryz.prog 14 #[.pointer (some ⟨a1.p, 0, none⟩)] w9 fun e w' => ∃ a c, e = .returned (.slice a N c) ∧ OwnP w9.heap.size w' (.slice a N c) PL ∧ Kept (fun _ => False) w9 w') := Lib.hid (by
              have := all18_at hM1.mem hPL1 hN
              rwa [hp1'] at this)
            have HRN3 : Hid (∀ W, Kept (fun _ => False) w9 W → Calls Tryz.prog 15 #[.pointer (some ⟨a2.p, 0, none⟩)] W fun e w' => ∃ a n c, e = .returned (.slice a n c) ∧ n ≤ 4 ∧ Kept (fun _ => False) W w') := Lib.hid (fun W hW => by
              have := runs18_at (hM3.keptN hW).mem hg3.plen
              rwa [hp3'] at this)
            have HRN1 : Hid (∀ W, Kept (fun _ => False) w9 W → Calls Tryz.prog 15 #[.pointer (some ⟨a1.p, 0, none⟩)] W fun e w' => ∃ a n c, e = .returned (.slice a n c) ∧ n ≤ 4 ∧ Kept (fun _ => False) W w') := Lib.hid (fun W hW => by
              have := runs18_at (hM1.keptN hW).mem HS7.out.2.1.plen
              rwa [hp1'] at this)
            have HK09 := Lib.hid hk09
            clear hM3 hg3 hkn3 hp3 hF3 hP3 hk9 hM1 hk09 hkp3 hPL hPL1 hN hp3' hp1' HAD2
            go_wp2_with (first
              | (go_at_call 14; refine (HAL3.out wa hka).mono ?_; rintro e wb ⟨pb, cb, rfl, hob, hkb⟩)
              | (go_at_call 14; refine HAL1.out.mono ?_; rintro e wa ⟨pa, ca, rfl, hoa, hka⟩)
              | (go_at_call 13; refine (pairs18_same HN.out HPB.out (by omega) hoa hkb hob (Kept.refl _ _)).mono ?_; rintro e wc ⟨rfl, hkc⟩; have hk9c := (hka.trans hkb (fun _ _ f => f)).trans hkc (fun _ _ f => f))
              | (go_at_call 8; refine (wakes18_any _ (tabB_of HT.out ((HK09.out.trans hk9d (fun _ _ f => f)).trans hke (fun _ _ f => f)))).mono ?_; rintro e wf ⟨rfl, hkf⟩)
              | (go_at_call 15; refine (HRN3.out wd hk9d).mono ?_; rintro e we ⟨re, ne, ce, rfl, hne, hke⟩)
              | (go_at_call 15; refine (HRN1.out _ hk9c).mono ?_; rintro e wd ⟨rd, nd, cd, rfl, hnd, hkd⟩; have hk9d := hk9c.trans hkd (fun _ _ f => f); have hnd' : (nd : Int) ≤ 4 := by omega))
            go_ret
            exact ⟨rfl, ((HK09.out.trans hk9d (fun _ _ f => f)).trans hke (fun _ _ f => f)).trans hkf (fun _ _ f => f)⟩
          · have hj8 : j < 9 := by omega
            have h9b : ((j : Int) == 9) = false := by simp; omega
            obtain ⟨k, hkr, hkz⟩ := mod18 z rl (by omega)
            have hrc : rl ≤ rc := by
              obtain ⟨_, _, e, h1, -⟩ := OwnP.form HO.out
              simp only [Value.slice.injEq] at e
              omega
            obtain ⟨hM2, hg2, hkp, hp2⟩ := HM.out
            obtain ⟨q1, q2, q3⟩ := part_ok HMZ.out (x := rl - k) (rl := rl) (Nat.sub_le _ _) (by rw [HLn.out]; exact hrl) hkp
            have hkl := hkp.length_eq
            rw [List.length_drop, HLn.out] at hkl
            have hLb : ∀ p ∈ L, p.1 < 18446744073709551616 ∧ p.2 < 18446744073709551616 := by obtain ⟨_, _, _, _, _, h3, _⟩ := HLP.out; exact h3
            have hlt2 : (L.take rl).length = rl := by rw [List.length_take, HLn.out]; omega
            have hdl : ((L.take rl).drop (rl - k)).length = rl - (rl - k) := by rw [List.length_drop, hlt2]
            have hAD2 := fun (sa : Option Addr) (sc : Nat) (hP : IsP wr (.slice sa (rl - (rl - k)) sc) ((L.take rl).drop (rl - k))) => addGood_any hM2 hg2 (may_fileN 1) (Nat.le_of_eq (fileN_size 1)) (by omega) w.heap.size ((tabB_of HT.out (Kept.refl _ _)).keptN HK.out) HF.out HK.out.size sa sc (rl - (rl - k)) ((L.take rl).drop (rl - k)) ((L.take rl).drop (rl - k)) hdl hP q1 q2 (by rw [hdl]; omega)
            rw [hp2] at hAD2
            have HAD2 := Lib.hid hAD2
            have HQ3 := Lib.hid q3
            have hP0 := OwnP.isP HO.out (fun p hp => hLb p (List.mem_of_mem_take hp))
            have HPM : Hid (IsP wr (.slice (ra.map fun a => a.add ((rl - k) * 2)) (rl - (rl - k)) (rc - (rl - k))) ((L.take rl).drop (rl - k))) := Lib.hid (by
              have h1 : IsP wr (.slice ra (L.take rl).length rc) (L.take rl) := by rw [hlt2]; exact hP0
              have := h1.mid (x := rl - k) (by rw [hlt2]; exact Nat.sub_le _ _)
              rwa [hlt2] at this)
            have HPE : Hid (rl - (rl - k) = 0 → IsP wr (.slice ra (rl - (rl - k)) 0) ((L.take rl).drop (rl - k))) := Lib.hid (fun e => by
              have h1 : (L.take rl).drop (rl - k) = [] := List.length_eq_zero_iff.1 (by rw [hdl]; exact e)
              rw [h1, e]
              exact IsP.none18 _ _)
            clear hM2 hg2 hkp hp2 q1 q2 q3 hkl hLb hAD2 hlt2 hdl hP0
            go_wp2_with fail
            · obtain rfl : rc = rl - k := by omega
              refine (HAD2.out _ _ (HPE.out (by omega))).mono ?_
              rintro e w9 ⟨rfl, a3, n3, D3, J3, M3, hM3, hg3, hn3, hkn3, hp3, hF3, hP3, hk9⟩
              have hM1 := H1.out.1.other hk9 H1.out.2
              have hA31 : Apart18 a3 a1' := H1.out.2.grow H1.out.1 hF3
              have hk09 : Kept (fun _ => False) w w9 := HK.out.more hk9 (fun i e => HF.out i e)
              have hFw : ∀ i, a3.F i → w.heap.size ≤ i := fun i hi => by
                rcases hF3 i hi with h1 | h1
                · exact HF.out i h1
                · exact Nat.le_trans HK.out.size h1
              have hO9 := OwnP.cut18 (rowKept18 HO.out hk9 (fun g e => HB.out g e)) (k := rl - k) (by rw [List.length_take, HLn.out]; omega)
              rw [List.take_take, Nat.min_eq_left (Nat.sub_le _ _)] at hO9
              have hB9 : ∀ g, (Value.slice ra (rl - k) (rl - k)).ownBlock = some g → ¬ a3.F g := fun g e hf => by
                have e2 : (Value.slice ra rl (rl - k)).ownBlock = some g := by cases ra with | none => cases e | some x => exact e
                rcases hF3 g hf with h1 | h1
                · exact HB.out g e2 h1
                · have := (World.ownsRow.lt HO.out g e2).2; omega
              have hkp3 : M3.known.Perm (L.drop (rl - k)) := by rw [hkn3]; exact HQ3.out
              have HS9 := Lib.hid (And.intro hO9 (And.intro hB9 (And.intro hM3 (And.intro hg3 (And.intro hkp3 (And.intro hp3 (And.intro hM1 (And.intro hA31 (And.intro hFw hk09)))))))))
              clear hM3 hg3 hkn3 hp3 hF3 hP3 hk9 hM1 hA31 hk09 hFw hO9 hB9 hkp3
              go_wp2_with fail
              go_roundg (gk - 1)
              case measure => omega
              case rel =>
                obtain ⟨hO9, hB9, hM3, hg3, hkp3, hp3, hM1, hA31, hFw, hk09⟩ := HS9.out
                exact ⟨j + 1, rl - k, _, _, a3, n3, D3, J3, M3, by omega, by go_num, rfl, by omega, by omega, by omega, Lib.hid hO9, Lib.hid hB9, Lib.hid ⟨hM3, hg3, hkp3, hp3⟩, Lib.hid ⟨hM1, hA31⟩, Lib.hid hFw, Lib.hid hk09⟩
            · refine (HAD2.out _ _ HPM.out).mono ?_
              rintro e w9 ⟨rfl, a3, n3, D3, J3, M3, hM3, hg3, hn3, hkn3, hp3, hF3, hP3, hk9⟩
              have hM1 := H1.out.1.other hk9 H1.out.2
              have hA31 : Apart18 a3 a1' := H1.out.2.grow H1.out.1 hF3
              have hk09 : Kept (fun _ => False) w w9 := HK.out.more hk9 (fun i e => HF.out i e)
              have hFw : ∀ i, a3.F i → w.heap.size ≤ i := fun i hi => by
                rcases hF3 i hi with h1 | h1
                · exact HF.out i h1
                · exact Nat.le_trans HK.out.size h1
              have hO9 := OwnP.cut18 (rowKept18 HO.out hk9 (fun g e => HB.out g e)) (k := rl - k) (by rw [List.length_take, HLn.out]; omega)
              rw [List.take_take, Nat.min_eq_left (Nat.sub_le _ _)] at hO9
              have hB9 : ∀ g, (Value.slice ra (rl - k) rc).ownBlock = some g → ¬ a3.F g := fun g e hf => by
                have e2 : (Value.slice ra rl rc).ownBlock = some g := by cases ra with | none => cases e | some x => exact e
                rcases hF3 g hf with h1 | h1
                · exact HB.out g e2 h1
                · have := (World.ownsRow.lt HO.out g e2).2; omega
              have hkp3 : M3.known.Perm (L.drop (rl - k)) := by rw [hkn3]; exact HQ3.out
              have HS9 := Lib.hid (And.intro hO9 (And.intro hB9 (And.intro hM3 (And.intro hg3 (And.intro hkp3 (And.intro hp3 (And.intro hM1 (And.intro hA31 (And.intro hFw hk09)))))))))
              clear hM3 hg3 hkn3 hp3 hF3 hP3 hk9 hM1 hA31 hk09 hFw hO9 hB9 hkp3
              go_wp2_with fail
              go_roundg (gk - 1)
              case measure => omega
              case rel =>
                obtain ⟨hO9, hB9, hM3, hg3, hkp3, hp3, hM1, hA31, hFw, hk09⟩ := HS9.out
                exact ⟨j + 1, rl - k, _, _, a3, n3, D3, J3, M3, by omega, by go_num, rfl, by omega, by omega, by omega, Lib.hid hO9, Lib.hid hB9, Lib.hid ⟨hM3, hg3, hkp3, hp3⟩, Lib.hid ⟨hM1, hA31⟩, Lib.hid hFw, Lib.hid hk09⟩
    · have hme0 : (me != 0) = true := by simp [hme]
      clear hme
      go_wp2_with fail
      refine (wakes18_any w2 (tabB_of HT.out HK2.out)).mono ?_
      rintro e w3 ⟨rfl, hk3⟩
      have HK3 := Lib.hid (HK2.out.trans hk3 (fun _ _ f => f))
      go_wp2
      go_ret
      exact ⟨rfl, HK3.out⟩
end Go.Proofs.YtemilbemdlpkaaaGreatDoor
