/- espalierref02: Append, the walk. -/
import Derived.Test.YtjnhkepgoghogaaDoorRfdG
namespace Go.Proofs.YtjnhkepgoghogaaDoor
open Go.RowKit Go.ChangeMaps Go.MapKept
set_option linter.unusedSimpArgs false

set_option maxRecDepth 100000 in
set_option maxHeartbeats 4000000 in
theorem rappend_any {w : World} {b : Nat} {fv : Value} {S : List FileM} {D : DM} (h : RefAt w b fv S D) (s : ByteArray) (hs : s.size ≤ maxLen) (a : Option Addr) (c : Nat) (bs : List UInt8) (hv : IsB w (.slice a bs.length c) bs) (hsep : bs ≠ [] → ∀ g, (Value.slice a bs.length c).ownBlock = some g → ¬ refF b fv S g) (hw : D.writes < 2305843009213693952) :
    Calls Tryd.prog 37 #[.pointer (some ⟨b, 0, none⟩), .string s, .slice a bs.length c] w (EndR w b fv S (D.append s bs).1 (D.append s bs).2) := by
  have H := Lib.hid h
  have HW := Lib.hid hw
  have HAC := Lib.hid (DM.app_cases D s bs)
  have hN := rname_any s w hs
  have hF := Lib.hid (rfind_any h s)
  have HV := Lib.hid hv
  have HSEP := Lib.hid hsep
  obtain ⟨n, hn⟩ : ∃ n, bs.length = n := ⟨_, rfl⟩
  have HN := Lib.hid hn
  have hn63 : n ≤ 9223372036854775807 := by
    obtain ⟨a', c', e, h1, h2, -⟩ := hv
    cases e
    unfold maxLen at h2
    omega
  rw [hn] at HV HSEP ⊢
  obtain ⟨m, hm⟩ : ∃ m, mayB s = m := ⟨_, rfl⟩
  rw [hm] at hN
  have HM := Lib.hid hm
  clear h hw hm hv hsep hn
  cases m with
  | false =>
    have HD := Lib.hid (HAC.out.1 HM.out)
    go_enter Tryd.func37, Tryd.ntmps37
    go_wp2_with fail
    refine hN.mono ?_
    rintro e w1 ⟨rfl, rfl⟩
    clear hN
    go_wp2_with fail
    go_ret
    rw [HD.out]
    exact EndR.same H.out rfl (Kept.refl _ _)
  | true =>
    have HAC2 := Lib.hid (HAC.out.2 HM.out)
    go_enter Tryd.func37, Tryd.ntmps37
    go_wp2_with fail
    refine hN.mono ?_
    rintro e w1 ⟨rfl, rfl⟩
    clear hN
    go_wp2_with fail
    refine hF.out.mono ?_
    rintro e w1 ⟨⟨r, rfl, hr⟩, hk1⟩
    clear hF
    have H1 := Lib.hid (H.out.kept hk1 (fun _ _ f => f))
    have HK1 := Lib.hid hk1
    have c0 := H1.out.c.1
    obtain ⟨fa, fc, hfv, -, -⟩ := H1.out.row.form
    obtain ⟨sn, hsn⟩ : ∃ sn, S.length = sn := ⟨_, rfl⟩
    have HSN := Lib.hid hsn
    have hlen : sn = D.files.length := by rw [← hsn]; exact H.out.len
    have hsn2 : sn ≤ 256 := by have := H.out.ok.count; omega
    rw [hsn] at hfv
    clear hsn
    subst hfv
    have HLEN := Lib.hid hlen
    -- what holds when the loop begins
    have HST : Hid (∀ kv : Int, ¬ ((getA s D.files = none ∧ D.files.length = 256) ∨ 4194304 < (D.bytes s).length + bs.length) → ((kv = -1 ∧ getA s D.files = none) ∨ ∃ kk : Nat, ∃ hk : kk < S.length, kv = kk ∧ S[kk].name = s ∧ (∀ i (hi : i < S.length), i < kk → S[i].name ≠ s) ∧ getA s D.files ≠ none) → AppSt w b (.slice fa sn fc) S s (D.append s bs) w1 (.slice a n c) bs kv true (.slice fa sn fc) S D) := Lib.hid (fun kv hno hst => ⟨H1.out, hk1.mono (fun _ _ f => f.elim), fun i e => .inl e, HV.out.keptF hk1 (fun _ _ f => f), fun hne g e => ⟨HV.out.block_lt hne g e, HSEP.out hne g e⟩, by
      have := HW.out; have h9 : ¬ 4194304 < (D.bytes s).length + bs.length := fun e => hno (.inr e); simp only [if_true]; omega, by
      have h9 : ¬ 4194304 < (D.bytes s).length + bs.length := fun e => hno (.inr e); omega, by
      rcases hst with ⟨h1, h2⟩ | ⟨kk, hk, h1, h2, h3, h4⟩
      · exact .inl ⟨h1, rfl, h2, by
          have h9 : ¬ D.files.length = 256 := fun e => hno (.inl ⟨h2, e⟩)
          have := H.out.ok.count; omega, ((HAC2.out.2 hno).1 h2).symm⟩
      · exact .inr ⟨kk, hk, h1, h2, h3, ((HAC2.out.2 hno).2 h4).symm⟩⟩)
    clear hlen hk1
    rcases find_cases H.out hr with ⟨rfl, hg⟩ | ⟨k, hk, rfl, hks, hg, hno⟩
    · have hby : D.bytes s = [] := by unfold DM.bytes; rw [hg]; rfl
      by_cases h256 : sn = 256
      · have HD := Lib.hid (HAC2.out.1 (.inl ⟨hg, by have := HLEN.out; omega⟩))
        clear hr hby
        subst h256
        go_wp2_with fail
        go_ret
        rw [HD.out]
        exact EndR.same H.out rfl HK1.out
      · by_cases hbig : 4194304 < n
        · have HD := Lib.hid (HAC2.out.1 (.inr (by rw [hby, HN.out]; simp; omega)))
          have hs256 : sn < 256 := by omega
          clear hr hby h256 hg
          go_wp2_with fail
          go_ret
          rw [HD.out]
          exact EndR.same H.out rfl HK1.out
        · have hnoL : ¬ ((getA s D.files = none ∧ D.files.length = 256) ∨ 4194304 < (D.bytes s).length + bs.length) := by
            rw [hby, HN.out]
            simp only [List.length_nil]
            have := HLEN.out
            omega
          have HA := Lib.hid (HST.out (-1) hnoL (.inl ⟨rfl, hg⟩))
          have hs256 : sn < 256 := by omega
          have hnn : n ≤ 4194304 := by omega
          clear hr hby h256 hg hnoL hbig
          go_wp2_with fail
          have HAX : Hid (AppSt w b (.slice fa sn fc) S s (D.append s bs) w1 (.slice a n c) bs (-1) true (.slice fa sn fc) S D) := HA
          obtain ⟨R, hR⟩ : ∃ R, D.append s bs = R := ⟨_, rfl⟩
          rw [hR] at HAX
          have HRR := Lib.hid hR
          clear hR HA HST HAC2 HAC c0
          go_loopg [2, 7, 8] (n + 1) (fun gg u2 u7 u8 wr => ∃ (a' : Option Addr) (n' c' : Nat) (bs' : List UInt8) (kv : Int) (first : Bool) (fv' : Value) (S' : List FileM) (D' : DM), u2 = .slice a' n' c' ∧ u7 = .int .i64 kv ∧ u8 = .bool first ∧ gg = n' + (if first = true then 1 else 0) ∧ Hid (bs'.length = n') ∧ Hid (True) ∧ Hid (AppSt w b (.slice fa sn fc) S s R wr (.slice a' n' c') bs' kv first fv' S' D'))
          case atStart => exact ⟨a, n, c, bs, _, true, _, S, D, rfl, rfl, rfl, rfl, HN, Lib.hid trivial, HAX⟩
          case round =>
            clear HAX
            obtain ⟨a', n', c', bs', kv, first, fv', S', D', rfl, rfl, rfl, hgg, HNN, HGD, HA⟩ := hrel
            have hnc : n' ≤ c' ∧ n' ≤ 9223372036854775807 := by
              obtain ⟨a9, c9, e, h1, h2, -⟩ := HA.out.src
              cases e
              unfold maxLen at h2
              have := HNN.out
              exact ⟨by omega, by omega⟩
            obtain ⟨hnc1, hnc2⟩ := hnc
            have hwr := Lib.hid (rwrite_any HA.out.ref (by have := HA.out.bound; split at this <;> omega))
            rcases HA.out.stage with ⟨rfl, rfl, hg, hc, hR⟩ | ⟨kk, hk, rfl, hks, hno, hR⟩
            · skip
              have hge : n' + 1 ≤ gk := by rw [hgg]; exact Nat.le_refl _
              have HR := Lib.hid hR
              have HGN := Lib.hid hg
              have HCN := Lib.hid hc
              clear hR hg hc hgg
              by_cases hz : n' = 0
              · subst hz
                cases hraw : D'.raw with
                | none =>
                  rw [hraw] at hwr
                  have HE : Hid (R = (6, D')) := Lib.hid (by
                    rw [← HR.out]
                    unfold appR
                    split
                    · rw [hraw]
                    · rename_i hne; rw [DM.pieces_no hne hraw])
                  have HEND : Hid (EndR w b (.slice fa sn fc) S 6 D' (.returned (.int .i64 6)) wr) := Lib.hid ⟨rfl, _, _, HA.out.ref, HA.out.kept, HA.out.new⟩
                  clear hraw
                  go_wp2_with fail
                  refine hwr.out.mono ?_
                  rintro e w2 ⟨rfl, rfl⟩
                  go_wp2_with fail
                  go_ret
                  rw [HRR.out, HE.out]
                  exact HEND.out
                | some D0 =>
                  rw [hraw] at hwr
                  have HRW := Lib.hid hraw
                  have HD0 : Hid (D0.writes = D'.writes + 1 ∧ D0.files = D'.files) := Lib.hid ⟨(DM.raw_ok HA.out.ref.ok hraw).2.1, DM.raw_files hraw⟩
                  clear hraw
                  go_wp2_with fail
                  refine hwr.out.mono ?_
                  rintro e wq ⟨rfl, hq, hkq⟩
                  obtain ⟨fv1, w3, hrunp, ⟨pa, pn, pc, rfl⟩, p0, pf, r3, r3k, r3n⟩ := hq.pushF s HM.out (by rw [HD0.out.2]; exact HGN.out) (by rw [HD0.out.2]; exact HCN.out)
                  obtain ⟨kk, hkk⟩ : ∃ kk, S'.length = kk := ⟨_, rfl⟩
                  have hpn : pn = kk + 1 := by
                    obtain ⟨_, _, e, -⟩ := r3.row.form
                    injection e with _ e2 _
                    rw [e2]; simp [hkk]
                  subst hpn
                  obtain ⟨SN, hSN⟩ : ∃ SN, S' ++ [⟨s, .slice none 0 0, []⟩] = SN := ⟨_, rfl⟩
                  have HX : Hid (∃ hk : kk < SN.length, SN[kk].name = s ∧ SN[kk].bytes = [] ∧ ∀ i (hi : i < SN.length), i < kk → SN[i].name ≠ s) := Lib.hid (by
                    subst hSN
                    subst hkk
                    refine ⟨by simp, by simp, by simp, fun i hi hik => ?_⟩
                    rw [List.getElem_append_left hik]
                    intro e
                    have h9 := HGN.out
                    rw [HA.out.ref.sync] at h9
                    exact getA_none h9 _ (List.mem_map_of_mem (List.getElem_mem hik)) e)
                  obtain ⟨hk1, hkn, hkb, hkno⟩ := HX.out
                  have HKS := Lib.hid hkn
                  have HNO := Lib.hid hkno
                  rw [hSN] at r3 r3n
                  obtain ⟨w2, hw2⟩ : ∃ W, w3.setCell ⟨b, 0, none⟩ (.slice pa (kk + 1) pc) = W := ⟨_, rfl⟩
                  rw [hw2] at r3 r3k
                  have HP2 := Lib.hid r3
                  have HK2 : Hid (Kept (refF b fv' S') wr w2) := Lib.hid ((hkq.mono (fun _ _ e => .inl e)).trans r3k (fun i hi e => e))
                  have HN2 : Hid (∀ i, refF b (.slice pa (kk + 1) pc) SN i → refF b fv' S' i ∨ wr.heap.size ≤ i) := Lib.hid (fun i e => (r3n i e).imp id (fun h => Nat.le_trans hkq.size h))
                  have HDW : Hid ((D0.put s []).writes = D'.writes + 1) := Lib.hid HD0.out.1
                  have HBY : Hid ((D0.put s []).bytes s = SN[kk].bytes ∧ ((D0.put s []).bytes s).length = (D'.bytes s).length) := Lib.hid (by
                    rw [DM.bytes_put, hkb]
                    refine ⟨rfl, ?_⟩
                    unfold DM.bytes
                    rw [HGN.out]
                    rfl)
                  have pc0 := r3.c.1
                  have qc0 := hq.c.1
                  obtain ⟨oa, oc, hov, -, -⟩ := hq.row.form
                  rw [hkk] at hov
                  have HOV := Lib.hid hov
                  rw [hov] at hrunp qc0 p0
                  have hzf : ∀ w, (zeroValue 76).run Tryd.prog w = .ok (.agg #[.string { data := #[] }, .slice none 0 0]) w := fun _ => by kernel_rfl
                  have hkkb : kk < 256 := by have h8 := HA.out.ref.len; have h9 := HCN.out; omega
                  clear hkn hkb hkno hSN hkk r3 r3k r3n hq hkq hwr hov
                  go_wp2_with (at_builtin; refine wpList_append_run rfl (.tmp 73) (.tmp 76) #[71, 71] rfl _ _ _ _ rfl rfl hrunp ?_)
                  have h2d := HP2.out.kept (drew_kept w2) (fun _ _ f => f)
                  obtain ⟨g, cc, hfv, q0, q1, qf⟩ := h2d.row.at hk1
                  injection hfv with hpa hpn hpc
                  subst hpa
                  subst hpc
                  have HS1N : Hid (SN.length = kk + 1) := Lib.hid hpn.symm
                  have hL1 : (kk : Int) < (kk : Int) + 1 := by omega
                  have hL2 : (kk : Int) ≤ (kk : Int) := Int.le_refl _
                  have hk1n : kk < kk + 1 := by omega
                  have hs256' : kk + 1 ≤ 256 := by have := h2d.ok.count; have := h2d.len; omega
                  clear hpn
                  obtain ⟨va, vc, hvv, -, -⟩ := (h2d.own _ (List.getElem_mem hk1)).form
                  obtain ⟨vl, hvl⟩ : ∃ n, SN[kk].bytes.length = n := ⟨_, rfl⟩
                  rw [hvl] at hvv
                  have HVV := Lib.hid hvv
                  have hmc : 0 ≤ c' := by omega
                  have hmn : 0 ≤ 0 := by omega
                  have hmi : (0 : Int) ≤ (0 : Int) := by omega
                  have hmci : (0 : Int) ≤ (c' : Int) := by omega
                  have hsrc : IsB w2.drew (.slice a' 0 c') (bs'.take 0) := by
                    have h9 : IsB w2 (.slice a' 0 c') bs' := HA.out.src.keptS HK2.out (fun hne q e hf => by
                      obtain ⟨z1, z2⟩ := HA.out.sep hne q e
                      rcases HA.out.new q hf with h | h
                      · exact z2 h
                      · omega)
                    exact (h9.keptF (drew_kept w2) (fun _ _ f => f)).take (by have := HNN.out; omega)
                  obtain ⟨v1, W1, hrun, ⟨xa, xn, xc, rfl⟩, k0, k1, kf, r5, r5k, r5n⟩ := h2d.piece' HS1N.out hk1 (fun i hi hik => by rw [HKS.out]; exact HNO.out i hi hik) (.slice a' 0 c') (bs'.take 0) hsrc (by
                    have h8 := HA.out.size
                    have h9 := HBY.out
                    rw [← h9.1, h9.2, List.length_take]
                    omega)
                  obtain ⟨a2, hlow, hIs2, hvb2, -⟩ := bytes_low HA.out.src (k := 0) (by have := HNN.out; omega)
                  rw [show 0 - 0 = 0 from by omega, show (((0 : Nat)) : Int) = (0 : Int) from rfl] at hlow
                  rw [show 0 - 0 = 0 from by omega] at hIs2
                  have HNX := Lib.hid (HA.out.next (kk := kk) ((HK2.out.trans (drew_kept w2) (fun _ _ f => f.elim))) (fun i e => HN2.out i e) hk1 HKS.out HNO.out r5 r5k r5n HDW.out (fun hne => by have h8 := HNN.out; have h9 := List.length_pos_iff.2 hne; omega) (fun e => by rfl) HBY.out hIs2 (fun q e => hvb2 q (by rw [show 0 - 0 = 0 from by omega]; exact e)) (app_left HGN.out HRW.out (.inr ⟨HNN.out.symm, by have := HNN.out; omega⟩) HR.out))
                  have HN3 : Hid ((bs'.drop 0).length = 0) := Lib.hid (by rw [List.length_drop]; have := HNN.out; omega)
                  rw [HVV.out] at hrun k1
                  clear r5 r5k r5n hIs2 hvb2 hsrc hvv hvl qf q0
                  have HS0 : w2.drew.cell? ⟨b, 0, none⟩ = some (.slice (some ⟨g, 0, none⟩) (kk + 1) pc) ∧ w2.drew.cell? ⟨g, kk * 2 + 1, none⟩ = some (.slice va vl vc) := ⟨h2d.c.1, by rw [q1, HVV.out]⟩
                  have HS1 : W1.cell? ⟨b, 0, none⟩ = some (.slice (some ⟨g, 0, none⟩) (kk + 1) pc) ∧ W1.cell? ⟨g, kk * 2 + 1, none⟩ = some (.slice va vl vc) := ⟨k0, k1⟩
                  have hkki : (kk : Int) < ((kk + 1) : Int) := by omega
                  have hkk00 : (0 : Int) ≤ (kk : Int) := by omega
                  clear h2d q1
                  go_wp2_with fail
                  refine wp_region_phase (fun W => W.cell? ⟨b, 0, none⟩ = some (.slice (some ⟨g, 0, none⟩) (kk + 1) pc) ∧ W.cell? ⟨g, kk * 2 + 1, none⟩ = some (.slice va vl vc)) (fun i => i == 19) (by kernel_rfl) HS0 (fun _ => ?_)
                  refine wpAnyG_take (i := 0) (v := ?_) rfl (by kernel_rfl) (by kernel_rfl) (by kernel_rfl) (by kernel_rfl) (fun _ _ _ h => h) (Or.inl ⟨by rfl, ?_⟩) HS0 ?_
                  rotate_left
                  (intro w' hSw'; have ⟨_, _⟩ := hSw'; go_simp; try with_reducible rfl)
                  try simp only [Act.put, List.setIfInBounds_toArray, List.set_cons_zero, List.set_cons_succ, List.getElem_toArray, List.getElem_cons_zero, List.getElem_cons_succ]
                  refine wpAnyG_take (i := 1) (v := ?_) rfl (by kernel_rfl) (by kernel_rfl) (by kernel_rfl) (by kernel_rfl) (fun _ _ _ h => h) (Or.inl ⟨by rfl, ?_⟩) HS0 ?_
                  rotate_left
                  (intro w' hSw'; have ⟨_, _⟩ := hSw'; go_simp; try with_reducible rfl)
                  try simp only [Act.put, List.setIfInBounds_toArray, List.set_cons_zero, List.set_cons_succ, List.getElem_toArray, List.getElem_cons_zero, List.getElem_cons_succ]
                  refine wpAnyG_take (i := 2) (v := ?_) rfl (by kernel_rfl) (by kernel_rfl) (by kernel_rfl) (by kernel_rfl) (fun _ _ _ h => h) (Or.inl ⟨by rfl, ?_⟩) HS0 ?_
                  rotate_left
                  (intro w' hSw'; have ⟨_, _⟩ := hSw'; go_simp; try with_reducible rfl)
                  try simp only [Act.put, List.setIfInBounds_toArray, List.set_cons_zero, List.set_cons_succ, List.getElem_toArray, List.getElem_cons_zero, List.getElem_cons_succ]
                  refine wpAnyG_take (i := 3) (v := ?_) rfl (by kernel_rfl) (by kernel_rfl) (by kernel_rfl) (by kernel_rfl) (fun _ _ _ h => h) (Or.inl ⟨by rfl, ?_⟩) HS0 ?_
                  rotate_left
                  (intro w' hSw'; have ⟨_, _⟩ := hSw'; go_simp; try with_reducible rfl)
                  try simp only [Act.put, List.setIfInBounds_toArray, List.set_cons_zero, List.set_cons_succ, List.getElem_toArray, List.getElem_cons_zero, List.getElem_cons_succ]
                  refine wpAnyG_take (i := 4) (v := ?_) rfl (by kernel_rfl) (by kernel_rfl) (by kernel_rfl) (by kernel_rfl) (fun _ _ _ h => h) (Or.inl ⟨by rfl, ?_⟩) HS0 ?_
                  rotate_left
                  (intro w' hSw'; have ⟨_, _⟩ := hSw'; go_simp; try with_reducible rfl)
                  try simp only [Act.put, List.setIfInBounds_toArray, List.set_cons_zero, List.set_cons_succ, List.getElem_toArray, List.getElem_cons_zero, List.getElem_cons_succ]
                  refine wpAnyG_take (i := 5) (v := ?_) rfl (by kernel_rfl) (by kernel_rfl) (by kernel_rfl) (by kernel_rfl) (fun _ _ _ h => h) (Or.inl ⟨by rfl, ?_⟩) HS0 ?_
                  rotate_left
                  (intro w' hSw'; have ⟨_, _⟩ := hSw'; go_simp; try with_reducible rfl)
                  try simp only [Act.put, List.setIfInBounds_toArray, List.set_cons_zero, List.set_cons_succ, List.getElem_toArray, List.getElem_cons_zero, List.getElem_cons_succ]
                  refine wpAnyG_take (i := 6) (v := ?_) rfl (by kernel_rfl) (by kernel_rfl) (by kernel_rfl) (by kernel_rfl) (fun _ _ _ h => h) (Or.inl ⟨by rfl, ?_⟩) HS0 ?_
                  rotate_left
                  (intro w' hSw'; have ⟨_, _⟩ := hSw'; go_simp; try with_reducible rfl)
                  try simp only [Act.put, List.setIfInBounds_toArray, List.set_cons_zero, List.set_cons_succ, List.getElem_toArray, List.getElem_cons_zero, List.getElem_cons_succ]
                  refine wpAnyG_take (i := 7) (v := ?_) rfl (by kernel_rfl) (by kernel_rfl) (by kernel_rfl) (by kernel_rfl) (fun _ _ _ h => h) (Or.inl ⟨by rfl, ?_⟩) HS0 ?_
                  rotate_left
                  (intro w' hSw'; have ⟨_, _⟩ := hSw'; go_simp; try with_reducible rfl)
                  try simp only [Act.put, List.setIfInBounds_toArray, List.set_cons_zero, List.set_cons_succ, List.getElem_toArray, List.getElem_cons_zero, List.getElem_cons_succ]
                  refine wpAnyG_take (i := 8) (v := ?_) rfl (by kernel_rfl) (by kernel_rfl) (by kernel_rfl) (by kernel_rfl) (fun _ _ _ h => h) (Or.inl ⟨by rfl, ?_⟩) HS0 ?_
                  rotate_left
                  (intro w' hSw'; have ⟨_, _⟩ := hSw'; go_simp; try with_reducible rfl)
                  try simp only [Act.put, List.setIfInBounds_toArray, List.set_cons_zero, List.set_cons_succ, List.getElem_toArray, List.getElem_cons_zero, List.getElem_cons_succ]
                  refine wpAnyG_take (i := 9) (v := ?_) rfl (by kernel_rfl) (by kernel_rfl) (by kernel_rfl) (by kernel_rfl) (fun _ _ _ h => h) (Or.inl ⟨by rfl, ?_⟩) HS0 ?_
                  rotate_left
                  (intro w' hSw'; have ⟨_, _⟩ := hSw'; go_simp; try with_reducible rfl)
                  try simp only [Act.put, List.setIfInBounds_toArray, List.set_cons_zero, List.set_cons_succ, List.getElem_toArray, List.getElem_cons_zero, List.getElem_cons_succ]
                  refine wpAnyG_take (i := 10) (v := ?_) rfl (by kernel_rfl) (by kernel_rfl) (by kernel_rfl) (by kernel_rfl) (fun _ _ _ h => h) (Or.inl ⟨by rfl, ?_⟩) HS0 ?_
                  rotate_left
                  (intro w' hSw'; have ⟨_, _⟩ := hSw'; go_simp; try with_reducible rfl)
                  try simp only [Act.put, List.setIfInBounds_toArray, List.set_cons_zero, List.set_cons_succ, List.getElem_toArray, List.getElem_cons_zero, List.getElem_cons_succ]
                  refine wpAnyG_take (i := 11) (v := ?_) rfl (by kernel_rfl) (by kernel_rfl) (by kernel_rfl) (by kernel_rfl) (fun _ _ _ h => h) (Or.inl ⟨by rfl, ?_⟩) HS0 ?_
                  rotate_left
                  (intro w' hSw'; have ⟨_, _⟩ := hSw'; go_simp; try with_reducible rfl)
                  try simp only [Act.put, List.setIfInBounds_toArray, List.set_cons_zero, List.set_cons_succ, List.getElem_toArray, List.getElem_cons_zero, List.getElem_cons_succ]
                  refine wpAnyG_take (i := 12) (v := ?_) rfl (by kernel_rfl) (by kernel_rfl) (by kernel_rfl) (by kernel_rfl) (fun _ _ _ h => h) (Or.inl ⟨by rfl, ?_⟩) HS0 ?_
                  rotate_left
                  (intro w' hSw'; have ⟨_, _⟩ := hSw'; go_simp; try with_reducible rfl)
                  try simp only [Act.put, List.setIfInBounds_toArray, List.set_cons_zero, List.set_cons_succ, List.getElem_toArray, List.getElem_cons_zero, List.getElem_cons_succ]
                  refine wpAnyG_take (i := 13) (v := ?_) rfl (by kernel_rfl) (by kernel_rfl) (by kernel_rfl) (by kernel_rfl) (fun _ _ _ h => h) (Or.inl ⟨by rfl, ?_⟩) HS0 ?_
                  rotate_left
                  (intro w' hSw'; have ⟨_, _⟩ := hSw'; go_simp; try with_reducible rfl)
                  try simp only [Act.put, List.setIfInBounds_toArray, List.set_cons_zero, List.set_cons_succ, List.getElem_toArray, List.getElem_cons_zero, List.getElem_cons_succ]
                  refine wpAnyG_take (i := 14) (v := ?_) rfl (by kernel_rfl) (by kernel_rfl) (by kernel_rfl) (by kernel_rfl) (fun _ _ _ h => h) (Or.inl ⟨by rfl, ?_⟩) HS0 ?_
                  rotate_left
                  (intro w' hSw'; have ⟨_, _⟩ := hSw'; go_simp; try with_reducible rfl)
                  try simp only [Act.put, List.setIfInBounds_toArray, List.set_cons_zero, List.set_cons_succ, List.getElem_toArray, List.getElem_cons_zero, List.getElem_cons_succ]
                  refine wpAnyG_take (i := 15) (v := ?_) rfl (by kernel_rfl) (by kernel_rfl) (by kernel_rfl) (by kernel_rfl) (fun _ _ _ h => h) (Or.inl ⟨by rfl, ?_⟩) HS0 ?_
                  rotate_left
                  (intro w' hSw'; have ⟨_, _⟩ := hSw'; go_simp; try with_reducible rfl)
                  try simp only [Act.put, List.setIfInBounds_toArray, List.set_cons_zero, List.set_cons_succ, List.getElem_toArray, List.getElem_cons_zero, List.getElem_cons_succ]
                  refine wpAnyG_ready (rs := [16]) (by kernel_rfl) (by simp) ?_
                  refine AllG.cons rfl (ph' := false) (by kernel_rfl) (fun K hK => ?_) AllG.nil
                  refine step_append_run rfl (.tmp 98) (.tmp 101) #[32, 32] rfl _ _ _ _ rfl rfl hrun ?_
                  refine hK.out _ _ (fun _ => HS1) ?_
                  clear hK K
                  try simp only [Act.put, List.setIfInBounds_toArray, List.set_cons_zero, List.set_cons_succ, List.getElem_toArray, List.getElem_cons_zero, List.getElem_cons_succ]
                  refine wpAnyG_takeU (i := 17) (v := ?_) rfl (by kernel_rfl) (by kernel_rfl) (by kernel_rfl) (by kernel_rfl) (fun _ _ _ h => h) (Or.inl ⟨by rfl, ?_⟩) (fun _ => HS1) ?_
                  rotate_left
                  (intro w' hSw'; go_simp; try with_reducible rfl)
                  try simp only [Act.put, List.setIfInBounds_toArray, List.set_cons_zero, List.set_cons_succ, List.getElem_toArray, List.getElem_cons_zero, List.getElem_cons_succ]
                  refine wpAnyG_takeU (i := 18) (v := ?_) rfl (by kernel_rfl) (by kernel_rfl) (by kernel_rfl) (by kernel_rfl) (fun _ _ _ h => h) (Or.inl ⟨by rfl, ?_⟩) (fun _ => HS1) ?_
                  rotate_left
                  (intro w' hSw'; go_simp; try with_reducible rfl)
                  try simp only [Act.put, List.setIfInBounds_toArray, List.set_cons_zero, List.set_cons_succ, List.getElem_toArray, List.getElem_cons_zero, List.getElem_cons_succ]
                  refine wpAnyG_ready (rs := [19]) (by kernel_rfl) (by simp) ?_
                  refine AllG.cons rfl (ph' := true) (by kernel_rfl) (fun K hK => ?_) AllG.nil
                  go_simp
                  refine hK.out _ _ (fun h => by cases h) ?_
                  clear hK K
                  try simp only [Act.put, List.setIfInBounds_toArray, List.set_cons_zero, List.set_cons_succ, List.getElem_toArray, List.getElem_cons_zero, List.getElem_cons_succ]
                  refine wpAnyG_done (by kernel_rfl) ?_ _
                  clear HS0 HS1 hrun k0 k1 kf
                  go_wp2_with fail
                  go_roundg (0)
                  case measure => omega
                  case rel => exact ⟨a2, _, _, _, _, false, _, _, _, rfl, rfl, rfl, by simp, HN3, Lib.hid trivial, HNX⟩
              · have hzp : 0 < n' := by omega
                have hzpi : (0 : Int) < (n' : Int) := by omega
                clear hz
                by_cases h32 : 32 < n'
                · skip
                  cases hraw : D'.raw with
                  | none =>
                    rw [hraw] at hwr
                    have HE : Hid (R = (6, D')) := Lib.hid (by
                      rw [← HR.out]
                      unfold appR
                      split
                      · rw [hraw]
                      · rename_i hne; rw [DM.pieces_no hne hraw])
                    have HEND : Hid (EndR w b (.slice fa sn fc) S 6 D' (.returned (.int .i64 6)) wr) := Lib.hid ⟨rfl, _, _, HA.out.ref, HA.out.kept, HA.out.new⟩
                    clear hraw
                    go_wp2_with fail
                    refine hwr.out.mono ?_
                    rintro e w2 ⟨rfl, rfl⟩
                    go_wp2_with fail
                    go_ret
                    rw [HRR.out, HE.out]
                    exact HEND.out
                  | some D0 =>
                    rw [hraw] at hwr
                    have HRW := Lib.hid hraw
                    have HD0 : Hid (D0.writes = D'.writes + 1 ∧ D0.files = D'.files) := Lib.hid ⟨(DM.raw_ok HA.out.ref.ok hraw).2.1, DM.raw_files hraw⟩
                    clear hraw
                    go_wp2_with fail
                    refine hwr.out.mono ?_
                    rintro e wq ⟨rfl, hq, hkq⟩
                    obtain ⟨fv1, w3, hrunp, ⟨pa, pn, pc, rfl⟩, p0, pf, r3, r3k, r3n⟩ := hq.pushF s HM.out (by rw [HD0.out.2]; exact HGN.out) (by rw [HD0.out.2]; exact HCN.out)
                    obtain ⟨kk, hkk⟩ : ∃ kk, S'.length = kk := ⟨_, rfl⟩
                    have hpn : pn = kk + 1 := by
                      obtain ⟨_, _, e, -⟩ := r3.row.form
                      injection e with _ e2 _
                      rw [e2]; simp [hkk]
                    subst hpn
                    obtain ⟨SN, hSN⟩ : ∃ SN, S' ++ [⟨s, .slice none 0 0, []⟩] = SN := ⟨_, rfl⟩
                    have HX : Hid (∃ hk : kk < SN.length, SN[kk].name = s ∧ SN[kk].bytes = [] ∧ ∀ i (hi : i < SN.length), i < kk → SN[i].name ≠ s) := Lib.hid (by
                      subst hSN
                      subst hkk
                      refine ⟨by simp, by simp, by simp, fun i hi hik => ?_⟩
                      rw [List.getElem_append_left hik]
                      intro e
                      have h9 := HGN.out
                      rw [HA.out.ref.sync] at h9
                      exact getA_none h9 _ (List.mem_map_of_mem (List.getElem_mem hik)) e)
                    obtain ⟨hk1, hkn, hkb, hkno⟩ := HX.out
                    have HKS := Lib.hid hkn
                    have HNO := Lib.hid hkno
                    rw [hSN] at r3 r3n
                    obtain ⟨w2, hw2⟩ : ∃ W, w3.setCell ⟨b, 0, none⟩ (.slice pa (kk + 1) pc) = W := ⟨_, rfl⟩
                    rw [hw2] at r3 r3k
                    have HP2 := Lib.hid r3
                    have HK2 : Hid (Kept (refF b fv' S') wr w2) := Lib.hid ((hkq.mono (fun _ _ e => .inl e)).trans r3k (fun i hi e => e))
                    have HN2 : Hid (∀ i, refF b (.slice pa (kk + 1) pc) SN i → refF b fv' S' i ∨ wr.heap.size ≤ i) := Lib.hid (fun i e => (r3n i e).imp id (fun h => Nat.le_trans hkq.size h))
                    have HDW : Hid ((D0.put s []).writes = D'.writes + 1) := Lib.hid HD0.out.1
                    have HBY : Hid ((D0.put s []).bytes s = SN[kk].bytes ∧ ((D0.put s []).bytes s).length = (D'.bytes s).length) := Lib.hid (by
                      rw [DM.bytes_put, hkb]
                      refine ⟨rfl, ?_⟩
                      unfold DM.bytes
                      rw [HGN.out]
                      rfl)
                    have pc0 := r3.c.1
                    have qc0 := hq.c.1
                    obtain ⟨oa, oc, hov, -, -⟩ := hq.row.form
                    rw [hkk] at hov
                    have HOV := Lib.hid hov
                    rw [hov] at hrunp qc0 p0
                    have hzf : ∀ w, (zeroValue 76).run Tryd.prog w = .ok (.agg #[.string { data := #[] }, .slice none 0 0]) w := fun _ => by kernel_rfl
                    have hkkb : kk < 256 := by have h8 := HA.out.ref.len; have h9 := HCN.out; omega
                    clear hkn hkb hkno hSN hkk r3 r3k r3n hq hkq hwr hov
                    go_wp2_with (at_builtin; refine wpList_append_run rfl (.tmp 73) (.tmp 76) #[71, 71] rfl _ _ _ _ rfl rfl hrunp ?_)
                    have h2d := HP2.out.kept (drew_kept w2) (fun _ _ f => f)
                    obtain ⟨g, cc, hfv, q0, q1, qf⟩ := h2d.row.at hk1
                    injection hfv with hpa hpn hpc
                    subst hpa
                    subst hpc
                    have HS1N : Hid (SN.length = kk + 1) := Lib.hid hpn.symm
                    have hL1 : (kk : Int) < (kk : Int) + 1 := by omega
                    have hL2 : (kk : Int) ≤ (kk : Int) := Int.le_refl _
                    have hk1n : kk < kk + 1 := by omega
                    have hs256' : kk + 1 ≤ 256 := by have := h2d.ok.count; have := h2d.len; omega
                    clear hpn
                    obtain ⟨va, vc, hvv, -, -⟩ := (h2d.own _ (List.getElem_mem hk1)).form
                    obtain ⟨vl, hvl⟩ : ∃ n, SN[kk].bytes.length = n := ⟨_, rfl⟩
                    rw [hvl] at hvv
                    have HVV := Lib.hid hvv
                    have hmc : 32 ≤ c' := by omega
                    have hmn : 32 ≤ n' := by omega
                    have hmi : (0 : Int) ≤ (32 : Int) := by omega
                    have hmci : (32 : Int) ≤ (c' : Int) := by omega
                    have hsrc : IsB w2.drew (.slice a' 32 c') (bs'.take 32) := by
                      have h9 : IsB w2 (.slice a' n' c') bs' := HA.out.src.keptS HK2.out (fun hne q e hf => by
                        obtain ⟨z1, z2⟩ := HA.out.sep hne q e
                        rcases HA.out.new q hf with h | h
                        · exact z2 h
                        · omega)
                      exact (h9.keptF (drew_kept w2) (fun _ _ f => f)).take (by have := HNN.out; omega)
                    obtain ⟨v1, W1, hrun, ⟨xa, xn, xc, rfl⟩, k0, k1, kf, r5, r5k, r5n⟩ := h2d.piece' HS1N.out hk1 (fun i hi hik => by rw [HKS.out]; exact HNO.out i hi hik) (.slice a' 32 c') (bs'.take 32) hsrc (by
                      have h8 := HA.out.size
                      have h9 := HBY.out
                      rw [← h9.1, h9.2, List.length_take]
                      omega)
                    obtain ⟨a2, hlow, hIs2, hvb2, -⟩ := bytes_low HA.out.src (k := 32) (by have := HNN.out; omega)
                    rw [show n' - 32 = (n' - 32) from by omega, show (((32 : Nat)) : Int) = (32 : Int) from rfl] at hlow
                    rw [show n' - 32 = (n' - 32) from by omega] at hIs2
                    have HNX := Lib.hid (HA.out.next (kk := kk) ((HK2.out.trans (drew_kept w2) (fun _ _ f => f.elim))) (fun i e => HN2.out i e) hk1 HKS.out HNO.out r5 r5k r5n HDW.out (fun hne => by have h8 := HNN.out; have h9 := List.length_pos_iff.2 hne; omega) (fun e => by rfl) HBY.out hIs2 (fun q e => hvb2 q (by rw [show n' - 32 = (n' - 32) from by omega]; exact e)) (app_left HGN.out HRW.out (.inl rfl) HR.out))
                    have HN3 : Hid ((bs'.drop 32).length = (n' - 32)) := Lib.hid (by rw [List.length_drop]; have := HNN.out; omega)
                    rw [HVV.out] at hrun k1
                    clear r5 r5k r5n hIs2 hvb2 hsrc hvv hvl qf q0
                    have HS0 : w2.drew.cell? ⟨b, 0, none⟩ = some (.slice (some ⟨g, 0, none⟩) (kk + 1) pc) ∧ w2.drew.cell? ⟨g, kk * 2 + 1, none⟩ = some (.slice va vl vc) := ⟨h2d.c.1, by rw [q1, HVV.out]⟩
                    have HS1 : W1.cell? ⟨b, 0, none⟩ = some (.slice (some ⟨g, 0, none⟩) (kk + 1) pc) ∧ W1.cell? ⟨g, kk * 2 + 1, none⟩ = some (.slice va vl vc) := ⟨k0, k1⟩
                    have hkki : (kk : Int) < ((kk + 1) : Int) := by omega
                    have hkk00 : (0 : Int) ≤ (kk : Int) := by omega
                    clear h2d q1
                    go_wp2_with fail
                    refine wp_region_phase (fun W => W.cell? ⟨b, 0, none⟩ = some (.slice (some ⟨g, 0, none⟩) (kk + 1) pc) ∧ W.cell? ⟨g, kk * 2 + 1, none⟩ = some (.slice va vl vc)) (fun i => i == 19) (by kernel_rfl) HS0 (fun _ => ?_)
                    refine wpAnyG_take (i := 0) (v := ?_) rfl (by kernel_rfl) (by kernel_rfl) (by kernel_rfl) (by kernel_rfl) (fun _ _ _ h => h) (Or.inl ⟨by rfl, ?_⟩) HS0 ?_
                    rotate_left
                    (intro w' hSw'; have ⟨_, _⟩ := hSw'; go_simp; try with_reducible rfl)
                    try simp only [Act.put, List.setIfInBounds_toArray, List.set_cons_zero, List.set_cons_succ, List.getElem_toArray, List.getElem_cons_zero, List.getElem_cons_succ]
                    refine wpAnyG_take (i := 1) (v := ?_) rfl (by kernel_rfl) (by kernel_rfl) (by kernel_rfl) (by kernel_rfl) (fun _ _ _ h => h) (Or.inl ⟨by rfl, ?_⟩) HS0 ?_
                    rotate_left
                    (intro w' hSw'; have ⟨_, _⟩ := hSw'; go_simp; try with_reducible rfl)
                    try simp only [Act.put, List.setIfInBounds_toArray, List.set_cons_zero, List.set_cons_succ, List.getElem_toArray, List.getElem_cons_zero, List.getElem_cons_succ]
                    refine wpAnyG_take (i := 2) (v := ?_) rfl (by kernel_rfl) (by kernel_rfl) (by kernel_rfl) (by kernel_rfl) (fun _ _ _ h => h) (Or.inl ⟨by rfl, ?_⟩) HS0 ?_
                    rotate_left
                    (intro w' hSw'; have ⟨_, _⟩ := hSw'; go_simp; try with_reducible rfl)
                    try simp only [Act.put, List.setIfInBounds_toArray, List.set_cons_zero, List.set_cons_succ, List.getElem_toArray, List.getElem_cons_zero, List.getElem_cons_succ]
                    refine wpAnyG_take (i := 3) (v := ?_) rfl (by kernel_rfl) (by kernel_rfl) (by kernel_rfl) (by kernel_rfl) (fun _ _ _ h => h) (Or.inl ⟨by rfl, ?_⟩) HS0 ?_
                    rotate_left
                    (intro w' hSw'; have ⟨_, _⟩ := hSw'; go_simp; try with_reducible rfl)
                    try simp only [Act.put, List.setIfInBounds_toArray, List.set_cons_zero, List.set_cons_succ, List.getElem_toArray, List.getElem_cons_zero, List.getElem_cons_succ]
                    refine wpAnyG_take (i := 4) (v := ?_) rfl (by kernel_rfl) (by kernel_rfl) (by kernel_rfl) (by kernel_rfl) (fun _ _ _ h => h) (Or.inl ⟨by rfl, ?_⟩) HS0 ?_
                    rotate_left
                    (intro w' hSw'; have ⟨_, _⟩ := hSw'; go_simp; try with_reducible rfl)
                    try simp only [Act.put, List.setIfInBounds_toArray, List.set_cons_zero, List.set_cons_succ, List.getElem_toArray, List.getElem_cons_zero, List.getElem_cons_succ]
                    refine wpAnyG_take (i := 5) (v := ?_) rfl (by kernel_rfl) (by kernel_rfl) (by kernel_rfl) (by kernel_rfl) (fun _ _ _ h => h) (Or.inl ⟨by rfl, ?_⟩) HS0 ?_
                    rotate_left
                    (intro w' hSw'; have ⟨_, _⟩ := hSw'; go_simp; try with_reducible rfl)
                    try simp only [Act.put, List.setIfInBounds_toArray, List.set_cons_zero, List.set_cons_succ, List.getElem_toArray, List.getElem_cons_zero, List.getElem_cons_succ]
                    refine wpAnyG_take (i := 6) (v := ?_) rfl (by kernel_rfl) (by kernel_rfl) (by kernel_rfl) (by kernel_rfl) (fun _ _ _ h => h) (Or.inl ⟨by rfl, ?_⟩) HS0 ?_
                    rotate_left
                    (intro w' hSw'; have ⟨_, _⟩ := hSw'; go_simp; try with_reducible rfl)
                    try simp only [Act.put, List.setIfInBounds_toArray, List.set_cons_zero, List.set_cons_succ, List.getElem_toArray, List.getElem_cons_zero, List.getElem_cons_succ]
                    refine wpAnyG_take (i := 7) (v := ?_) rfl (by kernel_rfl) (by kernel_rfl) (by kernel_rfl) (by kernel_rfl) (fun _ _ _ h => h) (Or.inl ⟨by rfl, ?_⟩) HS0 ?_
                    rotate_left
                    (intro w' hSw'; have ⟨_, _⟩ := hSw'; go_simp; try with_reducible rfl)
                    try simp only [Act.put, List.setIfInBounds_toArray, List.set_cons_zero, List.set_cons_succ, List.getElem_toArray, List.getElem_cons_zero, List.getElem_cons_succ]
                    refine wpAnyG_take (i := 8) (v := ?_) rfl (by kernel_rfl) (by kernel_rfl) (by kernel_rfl) (by kernel_rfl) (fun _ _ _ h => h) (Or.inl ⟨by rfl, ?_⟩) HS0 ?_
                    rotate_left
                    (intro w' hSw'; have ⟨_, _⟩ := hSw'; go_simp; try with_reducible rfl)
                    try simp only [Act.put, List.setIfInBounds_toArray, List.set_cons_zero, List.set_cons_succ, List.getElem_toArray, List.getElem_cons_zero, List.getElem_cons_succ]
                    refine wpAnyG_take (i := 9) (v := ?_) rfl (by kernel_rfl) (by kernel_rfl) (by kernel_rfl) (by kernel_rfl) (fun _ _ _ h => h) (Or.inl ⟨by rfl, ?_⟩) HS0 ?_
                    rotate_left
                    (intro w' hSw'; have ⟨_, _⟩ := hSw'; go_simp; try with_reducible rfl)
                    try simp only [Act.put, List.setIfInBounds_toArray, List.set_cons_zero, List.set_cons_succ, List.getElem_toArray, List.getElem_cons_zero, List.getElem_cons_succ]
                    refine wpAnyG_take (i := 10) (v := ?_) rfl (by kernel_rfl) (by kernel_rfl) (by kernel_rfl) (by kernel_rfl) (fun _ _ _ h => h) (Or.inl ⟨by rfl, ?_⟩) HS0 ?_
                    rotate_left
                    (intro w' hSw'; have ⟨_, _⟩ := hSw'; go_simp; try with_reducible rfl)
                    try simp only [Act.put, List.setIfInBounds_toArray, List.set_cons_zero, List.set_cons_succ, List.getElem_toArray, List.getElem_cons_zero, List.getElem_cons_succ]
                    refine wpAnyG_take (i := 11) (v := ?_) rfl (by kernel_rfl) (by kernel_rfl) (by kernel_rfl) (by kernel_rfl) (fun _ _ _ h => h) (Or.inl ⟨by rfl, ?_⟩) HS0 ?_
                    rotate_left
                    (intro w' hSw'; have ⟨_, _⟩ := hSw'; go_simp; try with_reducible rfl)
                    try simp only [Act.put, List.setIfInBounds_toArray, List.set_cons_zero, List.set_cons_succ, List.getElem_toArray, List.getElem_cons_zero, List.getElem_cons_succ]
                    refine wpAnyG_take (i := 12) (v := ?_) rfl (by kernel_rfl) (by kernel_rfl) (by kernel_rfl) (by kernel_rfl) (fun _ _ _ h => h) (Or.inl ⟨by rfl, ?_⟩) HS0 ?_
                    rotate_left
                    (intro w' hSw'; have ⟨_, _⟩ := hSw'; go_simp; try with_reducible rfl)
                    try simp only [Act.put, List.setIfInBounds_toArray, List.set_cons_zero, List.set_cons_succ, List.getElem_toArray, List.getElem_cons_zero, List.getElem_cons_succ]
                    refine wpAnyG_take (i := 13) (v := ?_) rfl (by kernel_rfl) (by kernel_rfl) (by kernel_rfl) (by kernel_rfl) (fun _ _ _ h => h) (Or.inl ⟨by rfl, ?_⟩) HS0 ?_
                    rotate_left
                    (intro w' hSw'; have ⟨_, _⟩ := hSw'; go_simp; try with_reducible rfl)
                    try simp only [Act.put, List.setIfInBounds_toArray, List.set_cons_zero, List.set_cons_succ, List.getElem_toArray, List.getElem_cons_zero, List.getElem_cons_succ]
                    refine wpAnyG_take (i := 14) (v := ?_) rfl (by kernel_rfl) (by kernel_rfl) (by kernel_rfl) (by kernel_rfl) (fun _ _ _ h => h) (Or.inl ⟨by rfl, ?_⟩) HS0 ?_
                    rotate_left
                    (intro w' hSw'; have ⟨_, _⟩ := hSw'; go_simp; try with_reducible rfl)
                    try simp only [Act.put, List.setIfInBounds_toArray, List.set_cons_zero, List.set_cons_succ, List.getElem_toArray, List.getElem_cons_zero, List.getElem_cons_succ]
                    refine wpAnyG_take (i := 15) (v := ?_) rfl (by kernel_rfl) (by kernel_rfl) (by kernel_rfl) (by kernel_rfl) (fun _ _ _ h => h) (Or.inl ⟨by rfl, ?_⟩) HS0 ?_
                    rotate_left
                    (intro w' hSw'; have ⟨_, _⟩ := hSw'; go_simp; try with_reducible rfl)
                    try simp only [Act.put, List.setIfInBounds_toArray, List.set_cons_zero, List.set_cons_succ, List.getElem_toArray, List.getElem_cons_zero, List.getElem_cons_succ]
                    refine wpAnyG_ready (rs := [16]) (by kernel_rfl) (by simp) ?_
                    refine AllG.cons rfl (ph' := false) (by kernel_rfl) (fun K hK => ?_) AllG.nil
                    refine step_append_run rfl (.tmp 98) (.tmp 101) #[32, 32] rfl _ _ _ _ rfl rfl hrun ?_
                    refine hK.out _ _ (fun _ => HS1) ?_
                    clear hK K
                    try simp only [Act.put, List.setIfInBounds_toArray, List.set_cons_zero, List.set_cons_succ, List.getElem_toArray, List.getElem_cons_zero, List.getElem_cons_succ]
                    refine wpAnyG_takeU (i := 17) (v := ?_) rfl (by kernel_rfl) (by kernel_rfl) (by kernel_rfl) (by kernel_rfl) (fun _ _ _ h => h) (Or.inl ⟨by rfl, ?_⟩) (fun _ => HS1) ?_
                    rotate_left
                    (intro w' hSw'; go_simp; try with_reducible rfl)
                    try simp only [Act.put, List.setIfInBounds_toArray, List.set_cons_zero, List.set_cons_succ, List.getElem_toArray, List.getElem_cons_zero, List.getElem_cons_succ]
                    refine wpAnyG_takeU (i := 18) (v := ?_) rfl (by kernel_rfl) (by kernel_rfl) (by kernel_rfl) (by kernel_rfl) (fun _ _ _ h => h) (Or.inl ⟨by rfl, ?_⟩) (fun _ => HS1) ?_
                    rotate_left
                    (intro w' hSw'; go_simp; try with_reducible rfl)
                    try simp only [Act.put, List.setIfInBounds_toArray, List.set_cons_zero, List.set_cons_succ, List.getElem_toArray, List.getElem_cons_zero, List.getElem_cons_succ]
                    refine wpAnyG_ready (rs := [19]) (by kernel_rfl) (by simp) ?_
                    refine AllG.cons rfl (ph' := true) (by kernel_rfl) (fun K hK => ?_) AllG.nil
                    go_simp
                    refine hK.out _ _ (fun h => by cases h) ?_
                    clear hK K
                    try simp only [Act.put, List.setIfInBounds_toArray, List.set_cons_zero, List.set_cons_succ, List.getElem_toArray, List.getElem_cons_zero, List.getElem_cons_succ]
                    refine wpAnyG_done (by kernel_rfl) ?_ _
                    clear HS0 HS1 hrun k0 k1 kf
                    go_wp2_with fail
                    go_roundg ((n' - 32))
                    case measure => omega
                    case rel => exact ⟨a2, _, _, _, _, false, _, _, _, rfl, rfl, rfl, by simp, HN3, Lib.hid trivial, HNX⟩
                · skip
                  cases hraw : D'.raw with
                  | none =>
                    rw [hraw] at hwr
                    have HE : Hid (R = (6, D')) := Lib.hid (by
                      rw [← HR.out]
                      unfold appR
                      split
                      · rw [hraw]
                      · rename_i hne; rw [DM.pieces_no hne hraw])
                    have HEND : Hid (EndR w b (.slice fa sn fc) S 6 D' (.returned (.int .i64 6)) wr) := Lib.hid ⟨rfl, _, _, HA.out.ref, HA.out.kept, HA.out.new⟩
                    clear hraw
                    go_wp2_with fail
                    refine hwr.out.mono ?_
                    rintro e w2 ⟨rfl, rfl⟩
                    go_wp2_with fail
                    go_ret
                    rw [HRR.out, HE.out]
                    exact HEND.out
                  | some D0 =>
                    rw [hraw] at hwr
                    have HRW := Lib.hid hraw
                    have HD0 : Hid (D0.writes = D'.writes + 1 ∧ D0.files = D'.files) := Lib.hid ⟨(DM.raw_ok HA.out.ref.ok hraw).2.1, DM.raw_files hraw⟩
                    clear hraw
                    go_wp2_with fail
                    refine hwr.out.mono ?_
                    rintro e wq ⟨rfl, hq, hkq⟩
                    obtain ⟨fv1, w3, hrunp, ⟨pa, pn, pc, rfl⟩, p0, pf, r3, r3k, r3n⟩ := hq.pushF s HM.out (by rw [HD0.out.2]; exact HGN.out) (by rw [HD0.out.2]; exact HCN.out)
                    obtain ⟨kk, hkk⟩ : ∃ kk, S'.length = kk := ⟨_, rfl⟩
                    have hpn : pn = kk + 1 := by
                      obtain ⟨_, _, e, -⟩ := r3.row.form
                      injection e with _ e2 _
                      rw [e2]; simp [hkk]
                    subst hpn
                    obtain ⟨SN, hSN⟩ : ∃ SN, S' ++ [⟨s, .slice none 0 0, []⟩] = SN := ⟨_, rfl⟩
                    have HX : Hid (∃ hk : kk < SN.length, SN[kk].name = s ∧ SN[kk].bytes = [] ∧ ∀ i (hi : i < SN.length), i < kk → SN[i].name ≠ s) := Lib.hid (by
                      subst hSN
                      subst hkk
                      refine ⟨by simp, by simp, by simp, fun i hi hik => ?_⟩
                      rw [List.getElem_append_left hik]
                      intro e
                      have h9 := HGN.out
                      rw [HA.out.ref.sync] at h9
                      exact getA_none h9 _ (List.mem_map_of_mem (List.getElem_mem hik)) e)
                    obtain ⟨hk1, hkn, hkb, hkno⟩ := HX.out
                    have HKS := Lib.hid hkn
                    have HNO := Lib.hid hkno
                    rw [hSN] at r3 r3n
                    obtain ⟨w2, hw2⟩ : ∃ W, w3.setCell ⟨b, 0, none⟩ (.slice pa (kk + 1) pc) = W := ⟨_, rfl⟩
                    rw [hw2] at r3 r3k
                    have HP2 := Lib.hid r3
                    have HK2 : Hid (Kept (refF b fv' S') wr w2) := Lib.hid ((hkq.mono (fun _ _ e => .inl e)).trans r3k (fun i hi e => e))
                    have HN2 : Hid (∀ i, refF b (.slice pa (kk + 1) pc) SN i → refF b fv' S' i ∨ wr.heap.size ≤ i) := Lib.hid (fun i e => (r3n i e).imp id (fun h => Nat.le_trans hkq.size h))
                    have HDW : Hid ((D0.put s []).writes = D'.writes + 1) := Lib.hid HD0.out.1
                    have HBY : Hid ((D0.put s []).bytes s = SN[kk].bytes ∧ ((D0.put s []).bytes s).length = (D'.bytes s).length) := Lib.hid (by
                      rw [DM.bytes_put, hkb]
                      refine ⟨rfl, ?_⟩
                      unfold DM.bytes
                      rw [HGN.out]
                      rfl)
                    have pc0 := r3.c.1
                    have qc0 := hq.c.1
                    obtain ⟨oa, oc, hov, -, -⟩ := hq.row.form
                    rw [hkk] at hov
                    have HOV := Lib.hid hov
                    rw [hov] at hrunp qc0 p0
                    have hzf : ∀ w, (zeroValue 76).run Tryd.prog w = .ok (.agg #[.string { data := #[] }, .slice none 0 0]) w := fun _ => by kernel_rfl
                    have hkkb : kk < 256 := by have h8 := HA.out.ref.len; have h9 := HCN.out; omega
                    clear hkn hkb hkno hSN hkk r3 r3k r3n hq hkq hwr hov
                    go_wp2_with (at_builtin; refine wpList_append_run rfl (.tmp 73) (.tmp 76) #[71, 71] rfl _ _ _ _ rfl rfl hrunp ?_)
                    have h2d := HP2.out.kept (drew_kept w2) (fun _ _ f => f)
                    obtain ⟨g, cc, hfv, q0, q1, qf⟩ := h2d.row.at hk1
                    injection hfv with hpa hpn hpc
                    subst hpa
                    subst hpc
                    have HS1N : Hid (SN.length = kk + 1) := Lib.hid hpn.symm
                    have hL1 : (kk : Int) < (kk : Int) + 1 := by omega
                    have hL2 : (kk : Int) ≤ (kk : Int) := Int.le_refl _
                    have hk1n : kk < kk + 1 := by omega
                    have hs256' : kk + 1 ≤ 256 := by have := h2d.ok.count; have := h2d.len; omega
                    clear hpn
                    obtain ⟨va, vc, hvv, -, -⟩ := (h2d.own _ (List.getElem_mem hk1)).form
                    obtain ⟨vl, hvl⟩ : ∃ n, SN[kk].bytes.length = n := ⟨_, rfl⟩
                    rw [hvl] at hvv
                    have HVV := Lib.hid hvv
                    have hmc : n' ≤ c' := by omega
                    have hmn : n' ≤ n' := by omega
                    have hmi : (0 : Int) ≤ (n' : Int) := by omega
                    have hmci : (n' : Int) ≤ (c' : Int) := by omega
                    have hsrc : IsB w2.drew (.slice a' n' c') (bs'.take n') := by
                      have h9 : IsB w2 (.slice a' n' c') bs' := HA.out.src.keptS HK2.out (fun hne q e hf => by
                        obtain ⟨z1, z2⟩ := HA.out.sep hne q e
                        rcases HA.out.new q hf with h | h
                        · exact z2 h
                        · omega)
                      exact (h9.keptF (drew_kept w2) (fun _ _ f => f)).take (by have := HNN.out; omega)
                    obtain ⟨v1, W1, hrun, ⟨xa, xn, xc, rfl⟩, k0, k1, kf, r5, r5k, r5n⟩ := h2d.piece' HS1N.out hk1 (fun i hi hik => by rw [HKS.out]; exact HNO.out i hi hik) (.slice a' n' c') (bs'.take n') hsrc (by
                      have h8 := HA.out.size
                      have h9 := HBY.out
                      rw [← h9.1, h9.2, List.length_take]
                      omega)
                    obtain ⟨a2, hlow, hIs2, hvb2, -⟩ := bytes_low HA.out.src (k := n') (by have := HNN.out; omega)
                    rw [show n' - n' = 0 from by omega, show (((n' : Nat)) : Int) = (n' : Int) from rfl] at hlow
                    rw [show n' - n' = 0 from by omega] at hIs2
                    have HNX := Lib.hid (HA.out.next (kk := kk) ((HK2.out.trans (drew_kept w2) (fun _ _ f => f.elim))) (fun i e => HN2.out i e) hk1 HKS.out HNO.out r5 r5k r5n HDW.out (fun hne => by have h8 := HNN.out; have h9 := List.length_pos_iff.2 hne; omega) (fun e => by rfl) HBY.out hIs2 (fun q e => hvb2 q (by rw [show n' - n' = 0 from by omega]; exact e)) (app_left HGN.out HRW.out (.inr ⟨HNN.out.symm, by have := HNN.out; omega⟩) HR.out))
                    have HN3 : Hid ((bs'.drop n').length = 0) := Lib.hid (by rw [List.length_drop]; have := HNN.out; omega)
                    rw [HVV.out] at hrun k1
                    clear r5 r5k r5n hIs2 hvb2 hsrc hvv hvl qf q0
                    have HS0 : w2.drew.cell? ⟨b, 0, none⟩ = some (.slice (some ⟨g, 0, none⟩) (kk + 1) pc) ∧ w2.drew.cell? ⟨g, kk * 2 + 1, none⟩ = some (.slice va vl vc) := ⟨h2d.c.1, by rw [q1, HVV.out]⟩
                    have HS1 : W1.cell? ⟨b, 0, none⟩ = some (.slice (some ⟨g, 0, none⟩) (kk + 1) pc) ∧ W1.cell? ⟨g, kk * 2 + 1, none⟩ = some (.slice va vl vc) := ⟨k0, k1⟩
                    have hkki : (kk : Int) < ((kk + 1) : Int) := by omega
                    have hkk00 : (0 : Int) ≤ (kk : Int) := by omega
                    clear h2d q1
                    go_wp2_with fail
                    refine wp_region_phase (fun W => W.cell? ⟨b, 0, none⟩ = some (.slice (some ⟨g, 0, none⟩) (kk + 1) pc) ∧ W.cell? ⟨g, kk * 2 + 1, none⟩ = some (.slice va vl vc)) (fun i => i == 19) (by kernel_rfl) HS0 (fun _ => ?_)
                    refine wpAnyG_take (i := 0) (v := ?_) rfl (by kernel_rfl) (by kernel_rfl) (by kernel_rfl) (by kernel_rfl) (fun _ _ _ h => h) (Or.inl ⟨by rfl, ?_⟩) HS0 ?_
                    rotate_left
                    (intro w' hSw'; have ⟨_, _⟩ := hSw'; go_simp; try with_reducible rfl)
                    try simp only [Act.put, List.setIfInBounds_toArray, List.set_cons_zero, List.set_cons_succ, List.getElem_toArray, List.getElem_cons_zero, List.getElem_cons_succ]
                    refine wpAnyG_take (i := 1) (v := ?_) rfl (by kernel_rfl) (by kernel_rfl) (by kernel_rfl) (by kernel_rfl) (fun _ _ _ h => h) (Or.inl ⟨by rfl, ?_⟩) HS0 ?_
                    rotate_left
                    (intro w' hSw'; have ⟨_, _⟩ := hSw'; go_simp; try with_reducible rfl)
                    try simp only [Act.put, List.setIfInBounds_toArray, List.set_cons_zero, List.set_cons_succ, List.getElem_toArray, List.getElem_cons_zero, List.getElem_cons_succ]
                    refine wpAnyG_take (i := 2) (v := ?_) rfl (by kernel_rfl) (by kernel_rfl) (by kernel_rfl) (by kernel_rfl) (fun _ _ _ h => h) (Or.inl ⟨by rfl, ?_⟩) HS0 ?_
                    rotate_left
                    (intro w' hSw'; have ⟨_, _⟩ := hSw'; go_simp; try with_reducible rfl)
                    try simp only [Act.put, List.setIfInBounds_toArray, List.set_cons_zero, List.set_cons_succ, List.getElem_toArray, List.getElem_cons_zero, List.getElem_cons_succ]
                    refine wpAnyG_take (i := 3) (v := ?_) rfl (by kernel_rfl) (by kernel_rfl) (by kernel_rfl) (by kernel_rfl) (fun _ _ _ h => h) (Or.inl ⟨by rfl, ?_⟩) HS0 ?_
                    rotate_left
                    (intro w' hSw'; have ⟨_, _⟩ := hSw'; go_simp; try with_reducible rfl)
                    try simp only [Act.put, List.setIfInBounds_toArray, List.set_cons_zero, List.set_cons_succ, List.getElem_toArray, List.getElem_cons_zero, List.getElem_cons_succ]
                    refine wpAnyG_take (i := 4) (v := ?_) rfl (by kernel_rfl) (by kernel_rfl) (by kernel_rfl) (by kernel_rfl) (fun _ _ _ h => h) (Or.inl ⟨by rfl, ?_⟩) HS0 ?_
                    rotate_left
                    (intro w' hSw'; have ⟨_, _⟩ := hSw'; go_simp; try with_reducible rfl)
                    try simp only [Act.put, List.setIfInBounds_toArray, List.set_cons_zero, List.set_cons_succ, List.getElem_toArray, List.getElem_cons_zero, List.getElem_cons_succ]
                    refine wpAnyG_take (i := 5) (v := ?_) rfl (by kernel_rfl) (by kernel_rfl) (by kernel_rfl) (by kernel_rfl) (fun _ _ _ h => h) (Or.inl ⟨by rfl, ?_⟩) HS0 ?_
                    rotate_left
                    (intro w' hSw'; have ⟨_, _⟩ := hSw'; go_simp; try with_reducible rfl)
                    try simp only [Act.put, List.setIfInBounds_toArray, List.set_cons_zero, List.set_cons_succ, List.getElem_toArray, List.getElem_cons_zero, List.getElem_cons_succ]
                    refine wpAnyG_take (i := 6) (v := ?_) rfl (by kernel_rfl) (by kernel_rfl) (by kernel_rfl) (by kernel_rfl) (fun _ _ _ h => h) (Or.inl ⟨by rfl, ?_⟩) HS0 ?_
                    rotate_left
                    (intro w' hSw'; have ⟨_, _⟩ := hSw'; go_simp; try with_reducible rfl)
                    try simp only [Act.put, List.setIfInBounds_toArray, List.set_cons_zero, List.set_cons_succ, List.getElem_toArray, List.getElem_cons_zero, List.getElem_cons_succ]
                    refine wpAnyG_take (i := 7) (v := ?_) rfl (by kernel_rfl) (by kernel_rfl) (by kernel_rfl) (by kernel_rfl) (fun _ _ _ h => h) (Or.inl ⟨by rfl, ?_⟩) HS0 ?_
                    rotate_left
                    (intro w' hSw'; have ⟨_, _⟩ := hSw'; go_simp; try with_reducible rfl)
                    try simp only [Act.put, List.setIfInBounds_toArray, List.set_cons_zero, List.set_cons_succ, List.getElem_toArray, List.getElem_cons_zero, List.getElem_cons_succ]
                    refine wpAnyG_take (i := 8) (v := ?_) rfl (by kernel_rfl) (by kernel_rfl) (by kernel_rfl) (by kernel_rfl) (fun _ _ _ h => h) (Or.inl ⟨by rfl, ?_⟩) HS0 ?_
                    rotate_left
                    (intro w' hSw'; have ⟨_, _⟩ := hSw'; go_simp; try with_reducible rfl)
                    try simp only [Act.put, List.setIfInBounds_toArray, List.set_cons_zero, List.set_cons_succ, List.getElem_toArray, List.getElem_cons_zero, List.getElem_cons_succ]
                    refine wpAnyG_take (i := 9) (v := ?_) rfl (by kernel_rfl) (by kernel_rfl) (by kernel_rfl) (by kernel_rfl) (fun _ _ _ h => h) (Or.inl ⟨by rfl, ?_⟩) HS0 ?_
                    rotate_left
                    (intro w' hSw'; have ⟨_, _⟩ := hSw'; go_simp; try with_reducible rfl)
                    try simp only [Act.put, List.setIfInBounds_toArray, List.set_cons_zero, List.set_cons_succ, List.getElem_toArray, List.getElem_cons_zero, List.getElem_cons_succ]
                    refine wpAnyG_take (i := 10) (v := ?_) rfl (by kernel_rfl) (by kernel_rfl) (by kernel_rfl) (by kernel_rfl) (fun _ _ _ h => h) (Or.inl ⟨by rfl, ?_⟩) HS0 ?_
                    rotate_left
                    (intro w' hSw'; have ⟨_, _⟩ := hSw'; go_simp; try with_reducible rfl)
                    try simp only [Act.put, List.setIfInBounds_toArray, List.set_cons_zero, List.set_cons_succ, List.getElem_toArray, List.getElem_cons_zero, List.getElem_cons_succ]
                    refine wpAnyG_take (i := 11) (v := ?_) rfl (by kernel_rfl) (by kernel_rfl) (by kernel_rfl) (by kernel_rfl) (fun _ _ _ h => h) (Or.inl ⟨by rfl, ?_⟩) HS0 ?_
                    rotate_left
                    (intro w' hSw'; have ⟨_, _⟩ := hSw'; go_simp; try with_reducible rfl)
                    try simp only [Act.put, List.setIfInBounds_toArray, List.set_cons_zero, List.set_cons_succ, List.getElem_toArray, List.getElem_cons_zero, List.getElem_cons_succ]
                    refine wpAnyG_take (i := 12) (v := ?_) rfl (by kernel_rfl) (by kernel_rfl) (by kernel_rfl) (by kernel_rfl) (fun _ _ _ h => h) (Or.inl ⟨by rfl, ?_⟩) HS0 ?_
                    rotate_left
                    (intro w' hSw'; have ⟨_, _⟩ := hSw'; go_simp; try with_reducible rfl)
                    try simp only [Act.put, List.setIfInBounds_toArray, List.set_cons_zero, List.set_cons_succ, List.getElem_toArray, List.getElem_cons_zero, List.getElem_cons_succ]
                    refine wpAnyG_take (i := 13) (v := ?_) rfl (by kernel_rfl) (by kernel_rfl) (by kernel_rfl) (by kernel_rfl) (fun _ _ _ h => h) (Or.inl ⟨by rfl, ?_⟩) HS0 ?_
                    rotate_left
                    (intro w' hSw'; have ⟨_, _⟩ := hSw'; go_simp; try with_reducible rfl)
                    try simp only [Act.put, List.setIfInBounds_toArray, List.set_cons_zero, List.set_cons_succ, List.getElem_toArray, List.getElem_cons_zero, List.getElem_cons_succ]
                    refine wpAnyG_take (i := 14) (v := ?_) rfl (by kernel_rfl) (by kernel_rfl) (by kernel_rfl) (by kernel_rfl) (fun _ _ _ h => h) (Or.inl ⟨by rfl, ?_⟩) HS0 ?_
                    rotate_left
                    (intro w' hSw'; have ⟨_, _⟩ := hSw'; go_simp; try with_reducible rfl)
                    try simp only [Act.put, List.setIfInBounds_toArray, List.set_cons_zero, List.set_cons_succ, List.getElem_toArray, List.getElem_cons_zero, List.getElem_cons_succ]
                    refine wpAnyG_take (i := 15) (v := ?_) rfl (by kernel_rfl) (by kernel_rfl) (by kernel_rfl) (by kernel_rfl) (fun _ _ _ h => h) (Or.inl ⟨by rfl, ?_⟩) HS0 ?_
                    rotate_left
                    (intro w' hSw'; have ⟨_, _⟩ := hSw'; go_simp; try with_reducible rfl)
                    try simp only [Act.put, List.setIfInBounds_toArray, List.set_cons_zero, List.set_cons_succ, List.getElem_toArray, List.getElem_cons_zero, List.getElem_cons_succ]
                    refine wpAnyG_ready (rs := [16]) (by kernel_rfl) (by simp) ?_
                    refine AllG.cons rfl (ph' := false) (by kernel_rfl) (fun K hK => ?_) AllG.nil
                    refine step_append_run rfl (.tmp 98) (.tmp 101) #[32, 32] rfl _ _ _ _ rfl rfl hrun ?_
                    refine hK.out _ _ (fun _ => HS1) ?_
                    clear hK K
                    try simp only [Act.put, List.setIfInBounds_toArray, List.set_cons_zero, List.set_cons_succ, List.getElem_toArray, List.getElem_cons_zero, List.getElem_cons_succ]
                    refine wpAnyG_takeU (i := 17) (v := ?_) rfl (by kernel_rfl) (by kernel_rfl) (by kernel_rfl) (by kernel_rfl) (fun _ _ _ h => h) (Or.inl ⟨by rfl, ?_⟩) (fun _ => HS1) ?_
                    rotate_left
                    (intro w' hSw'; go_simp; try with_reducible rfl)
                    try simp only [Act.put, List.setIfInBounds_toArray, List.set_cons_zero, List.set_cons_succ, List.getElem_toArray, List.getElem_cons_zero, List.getElem_cons_succ]
                    refine wpAnyG_takeU (i := 18) (v := ?_) rfl (by kernel_rfl) (by kernel_rfl) (by kernel_rfl) (by kernel_rfl) (fun _ _ _ h => h) (Or.inl ⟨by rfl, ?_⟩) (fun _ => HS1) ?_
                    rotate_left
                    (intro w' hSw'; go_simp; try with_reducible rfl)
                    try simp only [Act.put, List.setIfInBounds_toArray, List.set_cons_zero, List.set_cons_succ, List.getElem_toArray, List.getElem_cons_zero, List.getElem_cons_succ]
                    refine wpAnyG_ready (rs := [19]) (by kernel_rfl) (by simp) ?_
                    refine AllG.cons rfl (ph' := true) (by kernel_rfl) (fun K hK => ?_) AllG.nil
                    go_simp
                    refine hK.out _ _ (fun h => by cases h) ?_
                    clear hK K
                    try simp only [Act.put, List.setIfInBounds_toArray, List.set_cons_zero, List.set_cons_succ, List.getElem_toArray, List.getElem_cons_zero, List.getElem_cons_succ]
                    refine wpAnyG_done (by kernel_rfl) ?_ _
                    clear HS0 HS1 hrun k0 k1 kf
                    go_wp2_with fail
                    go_roundg (0)
                    case measure => omega
                    case rel => exact ⟨a2, _, _, _, _, false, _, _, _, rfl, rfl, rfl, by simp, HN3, Lib.hid trivial, HNX⟩
            · have hge : n' ≤ gk := by rw [hgg]; exact Nat.le_add_right _ _
              have HR := Lib.hid hR
              have HKS := Lib.hid hks
              have HNO := Lib.hid hno
              clear hR hks hno
              by_cases hz : n' = 0
              · have HE : Hid (R = (0, D')) := Lib.hid (by rw [← HR.out, List.length_eq_zero_iff.1 (HNN.out.trans hz), DM.pieces_nil])
                have HEND : Hid (EndR w b (.slice fa sn fc) S 0 D' (.returned (.int .i64 0)) wr) := Lib.hid ⟨rfl, _, _, HA.out.ref, HA.out.kept, HA.out.new⟩
                have hkk0 : ¬ ((kk : Int) < 0) := by omega
                subst hz
                clear hgg
                cases first with
                | true =>
                  go_wp2_with fail
                  go_ret
                  rw [HRR.out, HE.out]
                  exact HEND.out
                | false =>
                  go_wp2_with fail
                  go_ret
                  rw [HRR.out, HE.out]
                  exact HEND.out
              · have hzp : 0 < n' := by omega
                have hzpi : (0 : Int) < (n' : Int) := by omega
                have HBN : Hid (bs' ≠ []) := Lib.hid (fun e => hz (by rw [← HNN.out, e]; rfl))
                have hkk0 : ¬ ((kk : Int) < 0) := by omega
                cases hraw : D'.raw with
                | none =>
                  rw [hraw] at hwr
                  have HE : Hid (R = (6, D')) := Lib.hid (by rw [← HR.out, DM.pieces_no HBN.out hraw])
                  clear hraw hgg hz
                  go_wp2_with fail
                  refine hwr.out.mono ?_
                  rintro e w2 ⟨rfl, rfl⟩
                  have HEND : Hid (EndR w b (.slice fa sn fc) S 6 D' (.returned (.int .i64 6)) wr) := Lib.hid ⟨rfl, _, _, HA.out.ref, HA.out.kept, HA.out.new⟩
                  go_wp2_with fail
                  go_ret
                  rw [HRR.out, HE.out]
                  exact HEND.out
                | some D1 =>
                  rw [hraw] at hwr
                  have HRW := Lib.hid hraw
                  have HD1 : Hid (D1.writes = D'.writes + 1 ∧ D1.files = D'.files) := Lib.hid ⟨(DM.raw_ok HA.out.ref.ok hraw).2.1, DM.raw_files hraw⟩
                  clear hraw hz
                  go_wp2_with fail
                  refine hwr.out.mono ?_
                  rintro e w2 ⟨rfl, h2, hk2⟩
                  have H2 := Lib.hid h2
                  have HK2 : Hid (Kept (refF b fv' S') wr w2) := Lib.hid (hk2.mono (fun _ _ e => .inl e))
                  have HN2 : Hid (∀ i, refF b fv' S' i → refF b fv' S' i ∨ wr.heap.size ≤ i) := Lib.hid (fun _ e => .inl e)
                  have hk1 := hk
                  have HBY : Hid (D1.bytes s = S'[kk].bytes ∧ (D1.bytes s).length = (D'.bytes s).length) := Lib.hid (by
                    have h9 : getA s D'.files = some S'[kk].bytes := by rw [HA.out.ref.sync]; exact (filesD_at hk HKS.out HNO.out).1
                    unfold DM.bytes
                    rw [HD1.out.2, h9]
                    exact ⟨rfl, rfl⟩)
                  have HDW := Lib.hid HD1.out.1
                  have HP2 := H2
                  clear h2 hk2 hwr
                  by_cases h32 : 32 < n'
                  · skip
                    have h2d := HP2.out.kept (drew_kept w2) (fun _ _ f => f)
                    obtain ⟨g, cc, hfv, q0, q1, qf⟩ := h2d.row.at hk1
                    obtain ⟨s1n, hs1n⟩ : ∃ n, S'.length = n := ⟨_, rfl⟩
                    have HS1N := Lib.hid hs1n
                    have hk1n : kk < s1n := by omega
                    have hs256' : s1n ≤ 256 := by have := h2d.ok.count; have := h2d.len; omega
                    rw [hs1n] at hfv
                    clear hs1n
                    cases hfv
                    obtain ⟨va, vc, hvv, -, -⟩ := (h2d.own _ (List.getElem_mem hk1)).form
                    obtain ⟨vl, hvl⟩ : ∃ n, S'[kk].bytes.length = n := ⟨_, rfl⟩
                    rw [hvl] at hvv
                    have HVV := Lib.hid hvv
                    have hmc : 32 ≤ c' := by omega
                    have hmn : 32 ≤ n' := by omega
                    have hmi : (0 : Int) ≤ (32 : Int) := by omega
                    have hmci : (32 : Int) ≤ (c' : Int) := by omega
                    have hsrc : IsB w2.drew (.slice a' 32 c') (bs'.take 32) := by
                      have h9 : IsB w2 (.slice a' n' c') bs' := HA.out.src.keptS HK2.out (fun hne q e hf => by
                        obtain ⟨z1, z2⟩ := HA.out.sep hne q e
                        rcases HA.out.new q hf with h | h
                        · exact z2 h
                        · omega)
                      exact (h9.keptF (drew_kept w2) (fun _ _ f => f)).take (by have := HNN.out; omega)
                    obtain ⟨v1, W1, hrun, ⟨xa, xn, xc, rfl⟩, k0, k1, kf, r5, r5k, r5n⟩ := h2d.piece' HS1N.out hk1 (fun i hi hik => by rw [HKS.out]; exact HNO.out i hi hik) (.slice a' 32 c') (bs'.take 32) hsrc (by
                      have h8 := HA.out.size
                      have h9 := HBY.out
                      rw [← h9.1, h9.2, List.length_take]
                      omega)
                    obtain ⟨a2, hlow, hIs2, hvb2, -⟩ := bytes_low HA.out.src (k := 32) (by have := HNN.out; omega)
                    rw [show n' - 32 = (n' - 32) from by omega, show (((32 : Nat)) : Int) = (32 : Int) from rfl] at hlow
                    rw [show n' - 32 = (n' - 32) from by omega] at hIs2
                    have HNX := Lib.hid (HA.out.next (kk := kk) ((HK2.out.trans (drew_kept w2) (fun _ _ f => f.elim))) (fun i e => HN2.out i e) hk1 HKS.out HNO.out r5 r5k r5n HDW.out (fun hne => by have h8 := HNN.out; have h9 := List.length_pos_iff.2 hne; omega) (fun e => by exact absurd e HBN.out) HBY.out hIs2 (fun q e => hvb2 q (by rw [show n' - 32 = (n' - 32) from by omega]; exact e)) (app_right HBN.out HRW.out (.inl rfl) HR.out))
                    have HN3 : Hid ((bs'.drop 32).length = (n' - 32)) := Lib.hid (by rw [List.length_drop]; have := HNN.out; omega)
                    rw [HVV.out] at hrun k1
                    clear r5 r5k r5n hIs2 hvb2 hsrc hvv hvl qf q0
                    have HS0 : w2.drew.cell? ⟨b, 0, none⟩ = some (.slice (some ⟨g, 0, none⟩) s1n cc) ∧ w2.drew.cell? ⟨g, kk * 2 + 1, none⟩ = some (.slice va vl vc) := ⟨h2d.c.1, by rw [q1, HVV.out]⟩
                    have HS1 : W1.cell? ⟨b, 0, none⟩ = some (.slice (some ⟨g, 0, none⟩) s1n cc) ∧ W1.cell? ⟨g, kk * 2 + 1, none⟩ = some (.slice va vl vc) := ⟨k0, k1⟩
                    have hkki : (kk : Int) < (s1n : Int) := by omega
                    have hkk00 : (0 : Int) ≤ (kk : Int) := by omega
                    clear h2d q1
                    go_wp2_with fail
                    refine wp_region_phase (fun W => W.cell? ⟨b, 0, none⟩ = some (.slice (some ⟨g, 0, none⟩) s1n cc) ∧ W.cell? ⟨g, kk * 2 + 1, none⟩ = some (.slice va vl vc)) (fun i => i == 19) (by kernel_rfl) HS0 (fun _ => ?_)
                    refine wpAnyG_take (i := 0) (v := ?_) rfl (by kernel_rfl) (by kernel_rfl) (by kernel_rfl) (by kernel_rfl) (fun _ _ _ h => h) (Or.inl ⟨by rfl, ?_⟩) HS0 ?_
                    rotate_left
                    (intro w' hSw'; have ⟨_, _⟩ := hSw'; go_simp; try with_reducible rfl)
                    try simp only [Act.put, List.setIfInBounds_toArray, List.set_cons_zero, List.set_cons_succ, List.getElem_toArray, List.getElem_cons_zero, List.getElem_cons_succ]
                    refine wpAnyG_take (i := 1) (v := ?_) rfl (by kernel_rfl) (by kernel_rfl) (by kernel_rfl) (by kernel_rfl) (fun _ _ _ h => h) (Or.inl ⟨by rfl, ?_⟩) HS0 ?_
                    rotate_left
                    (intro w' hSw'; have ⟨_, _⟩ := hSw'; go_simp; try with_reducible rfl)
                    try simp only [Act.put, List.setIfInBounds_toArray, List.set_cons_zero, List.set_cons_succ, List.getElem_toArray, List.getElem_cons_zero, List.getElem_cons_succ]
                    refine wpAnyG_take (i := 2) (v := ?_) rfl (by kernel_rfl) (by kernel_rfl) (by kernel_rfl) (by kernel_rfl) (fun _ _ _ h => h) (Or.inl ⟨by rfl, ?_⟩) HS0 ?_
                    rotate_left
                    (intro w' hSw'; have ⟨_, _⟩ := hSw'; go_simp; try with_reducible rfl)
                    try simp only [Act.put, List.setIfInBounds_toArray, List.set_cons_zero, List.set_cons_succ, List.getElem_toArray, List.getElem_cons_zero, List.getElem_cons_succ]
                    refine wpAnyG_take (i := 3) (v := ?_) rfl (by kernel_rfl) (by kernel_rfl) (by kernel_rfl) (by kernel_rfl) (fun _ _ _ h => h) (Or.inl ⟨by rfl, ?_⟩) HS0 ?_
                    rotate_left
                    (intro w' hSw'; have ⟨_, _⟩ := hSw'; go_simp; try with_reducible rfl)
                    try simp only [Act.put, List.setIfInBounds_toArray, List.set_cons_zero, List.set_cons_succ, List.getElem_toArray, List.getElem_cons_zero, List.getElem_cons_succ]
                    refine wpAnyG_take (i := 4) (v := ?_) rfl (by kernel_rfl) (by kernel_rfl) (by kernel_rfl) (by kernel_rfl) (fun _ _ _ h => h) (Or.inl ⟨by rfl, ?_⟩) HS0 ?_
                    rotate_left
                    (intro w' hSw'; have ⟨_, _⟩ := hSw'; go_simp; try with_reducible rfl)
                    try simp only [Act.put, List.setIfInBounds_toArray, List.set_cons_zero, List.set_cons_succ, List.getElem_toArray, List.getElem_cons_zero, List.getElem_cons_succ]
                    refine wpAnyG_take (i := 5) (v := ?_) rfl (by kernel_rfl) (by kernel_rfl) (by kernel_rfl) (by kernel_rfl) (fun _ _ _ h => h) (Or.inl ⟨by rfl, ?_⟩) HS0 ?_
                    rotate_left
                    (intro w' hSw'; have ⟨_, _⟩ := hSw'; go_simp; try with_reducible rfl)
                    try simp only [Act.put, List.setIfInBounds_toArray, List.set_cons_zero, List.set_cons_succ, List.getElem_toArray, List.getElem_cons_zero, List.getElem_cons_succ]
                    refine wpAnyG_take (i := 6) (v := ?_) rfl (by kernel_rfl) (by kernel_rfl) (by kernel_rfl) (by kernel_rfl) (fun _ _ _ h => h) (Or.inl ⟨by rfl, ?_⟩) HS0 ?_
                    rotate_left
                    (intro w' hSw'; have ⟨_, _⟩ := hSw'; go_simp; try with_reducible rfl)
                    try simp only [Act.put, List.setIfInBounds_toArray, List.set_cons_zero, List.set_cons_succ, List.getElem_toArray, List.getElem_cons_zero, List.getElem_cons_succ]
                    refine wpAnyG_take (i := 7) (v := ?_) rfl (by kernel_rfl) (by kernel_rfl) (by kernel_rfl) (by kernel_rfl) (fun _ _ _ h => h) (Or.inl ⟨by rfl, ?_⟩) HS0 ?_
                    rotate_left
                    (intro w' hSw'; have ⟨_, _⟩ := hSw'; go_simp; try with_reducible rfl)
                    try simp only [Act.put, List.setIfInBounds_toArray, List.set_cons_zero, List.set_cons_succ, List.getElem_toArray, List.getElem_cons_zero, List.getElem_cons_succ]
                    refine wpAnyG_take (i := 8) (v := ?_) rfl (by kernel_rfl) (by kernel_rfl) (by kernel_rfl) (by kernel_rfl) (fun _ _ _ h => h) (Or.inl ⟨by rfl, ?_⟩) HS0 ?_
                    rotate_left
                    (intro w' hSw'; have ⟨_, _⟩ := hSw'; go_simp; try with_reducible rfl)
                    try simp only [Act.put, List.setIfInBounds_toArray, List.set_cons_zero, List.set_cons_succ, List.getElem_toArray, List.getElem_cons_zero, List.getElem_cons_succ]
                    refine wpAnyG_take (i := 9) (v := ?_) rfl (by kernel_rfl) (by kernel_rfl) (by kernel_rfl) (by kernel_rfl) (fun _ _ _ h => h) (Or.inl ⟨by rfl, ?_⟩) HS0 ?_
                    rotate_left
                    (intro w' hSw'; have ⟨_, _⟩ := hSw'; go_simp; try with_reducible rfl)
                    try simp only [Act.put, List.setIfInBounds_toArray, List.set_cons_zero, List.set_cons_succ, List.getElem_toArray, List.getElem_cons_zero, List.getElem_cons_succ]
                    refine wpAnyG_take (i := 10) (v := ?_) rfl (by kernel_rfl) (by kernel_rfl) (by kernel_rfl) (by kernel_rfl) (fun _ _ _ h => h) (Or.inl ⟨by rfl, ?_⟩) HS0 ?_
                    rotate_left
                    (intro w' hSw'; have ⟨_, _⟩ := hSw'; go_simp; try with_reducible rfl)
                    try simp only [Act.put, List.setIfInBounds_toArray, List.set_cons_zero, List.set_cons_succ, List.getElem_toArray, List.getElem_cons_zero, List.getElem_cons_succ]
                    refine wpAnyG_take (i := 11) (v := ?_) rfl (by kernel_rfl) (by kernel_rfl) (by kernel_rfl) (by kernel_rfl) (fun _ _ _ h => h) (Or.inl ⟨by rfl, ?_⟩) HS0 ?_
                    rotate_left
                    (intro w' hSw'; have ⟨_, _⟩ := hSw'; go_simp; try with_reducible rfl)
                    try simp only [Act.put, List.setIfInBounds_toArray, List.set_cons_zero, List.set_cons_succ, List.getElem_toArray, List.getElem_cons_zero, List.getElem_cons_succ]
                    refine wpAnyG_take (i := 12) (v := ?_) rfl (by kernel_rfl) (by kernel_rfl) (by kernel_rfl) (by kernel_rfl) (fun _ _ _ h => h) (Or.inl ⟨by rfl, ?_⟩) HS0 ?_
                    rotate_left
                    (intro w' hSw'; have ⟨_, _⟩ := hSw'; go_simp; try with_reducible rfl)
                    try simp only [Act.put, List.setIfInBounds_toArray, List.set_cons_zero, List.set_cons_succ, List.getElem_toArray, List.getElem_cons_zero, List.getElem_cons_succ]
                    refine wpAnyG_take (i := 13) (v := ?_) rfl (by kernel_rfl) (by kernel_rfl) (by kernel_rfl) (by kernel_rfl) (fun _ _ _ h => h) (Or.inl ⟨by rfl, ?_⟩) HS0 ?_
                    rotate_left
                    (intro w' hSw'; have ⟨_, _⟩ := hSw'; go_simp; try with_reducible rfl)
                    try simp only [Act.put, List.setIfInBounds_toArray, List.set_cons_zero, List.set_cons_succ, List.getElem_toArray, List.getElem_cons_zero, List.getElem_cons_succ]
                    refine wpAnyG_take (i := 14) (v := ?_) rfl (by kernel_rfl) (by kernel_rfl) (by kernel_rfl) (by kernel_rfl) (fun _ _ _ h => h) (Or.inl ⟨by rfl, ?_⟩) HS0 ?_
                    rotate_left
                    (intro w' hSw'; have ⟨_, _⟩ := hSw'; go_simp; try with_reducible rfl)
                    try simp only [Act.put, List.setIfInBounds_toArray, List.set_cons_zero, List.set_cons_succ, List.getElem_toArray, List.getElem_cons_zero, List.getElem_cons_succ]
                    refine wpAnyG_take (i := 15) (v := ?_) rfl (by kernel_rfl) (by kernel_rfl) (by kernel_rfl) (by kernel_rfl) (fun _ _ _ h => h) (Or.inl ⟨by rfl, ?_⟩) HS0 ?_
                    rotate_left
                    (intro w' hSw'; have ⟨_, _⟩ := hSw'; go_simp; try with_reducible rfl)
                    try simp only [Act.put, List.setIfInBounds_toArray, List.set_cons_zero, List.set_cons_succ, List.getElem_toArray, List.getElem_cons_zero, List.getElem_cons_succ]
                    refine wpAnyG_ready (rs := [16]) (by kernel_rfl) (by simp) ?_
                    refine AllG.cons rfl (ph' := false) (by kernel_rfl) (fun K hK => ?_) AllG.nil
                    refine step_append_run rfl (.tmp 98) (.tmp 101) #[32, 32] rfl _ _ _ _ rfl rfl hrun ?_
                    refine hK.out _ _ (fun _ => HS1) ?_
                    clear hK K
                    try simp only [Act.put, List.setIfInBounds_toArray, List.set_cons_zero, List.set_cons_succ, List.getElem_toArray, List.getElem_cons_zero, List.getElem_cons_succ]
                    refine wpAnyG_takeU (i := 17) (v := ?_) rfl (by kernel_rfl) (by kernel_rfl) (by kernel_rfl) (by kernel_rfl) (fun _ _ _ h => h) (Or.inl ⟨by rfl, ?_⟩) (fun _ => HS1) ?_
                    rotate_left
                    (intro w' hSw'; go_simp; try with_reducible rfl)
                    try simp only [Act.put, List.setIfInBounds_toArray, List.set_cons_zero, List.set_cons_succ, List.getElem_toArray, List.getElem_cons_zero, List.getElem_cons_succ]
                    refine wpAnyG_takeU (i := 18) (v := ?_) rfl (by kernel_rfl) (by kernel_rfl) (by kernel_rfl) (by kernel_rfl) (fun _ _ _ h => h) (Or.inl ⟨by rfl, ?_⟩) (fun _ => HS1) ?_
                    rotate_left
                    (intro w' hSw'; go_simp; try with_reducible rfl)
                    try simp only [Act.put, List.setIfInBounds_toArray, List.set_cons_zero, List.set_cons_succ, List.getElem_toArray, List.getElem_cons_zero, List.getElem_cons_succ]
                    refine wpAnyG_ready (rs := [19]) (by kernel_rfl) (by simp) ?_
                    refine AllG.cons rfl (ph' := true) (by kernel_rfl) (fun K hK => ?_) AllG.nil
                    go_simp
                    refine hK.out _ _ (fun h => by cases h) ?_
                    clear hK K
                    try simp only [Act.put, List.setIfInBounds_toArray, List.set_cons_zero, List.set_cons_succ, List.getElem_toArray, List.getElem_cons_zero, List.getElem_cons_succ]
                    refine wpAnyG_done (by kernel_rfl) ?_ _
                    clear HS0 HS1 hrun k0 k1 kf
                    go_wp2_with fail
                    go_roundg ((n' - 32))
                    case measure => omega
                    case rel => exact ⟨a2, _, _, _, _, false, _, _, _, rfl, rfl, rfl, by simp, HN3, Lib.hid trivial, HNX⟩
                  · skip
                    have h2d := HP2.out.kept (drew_kept w2) (fun _ _ f => f)
                    obtain ⟨g, cc, hfv, q0, q1, qf⟩ := h2d.row.at hk1
                    obtain ⟨s1n, hs1n⟩ : ∃ n, S'.length = n := ⟨_, rfl⟩
                    have HS1N := Lib.hid hs1n
                    have hk1n : kk < s1n := by omega
                    have hs256' : s1n ≤ 256 := by have := h2d.ok.count; have := h2d.len; omega
                    rw [hs1n] at hfv
                    clear hs1n
                    cases hfv
                    obtain ⟨va, vc, hvv, -, -⟩ := (h2d.own _ (List.getElem_mem hk1)).form
                    obtain ⟨vl, hvl⟩ : ∃ n, S'[kk].bytes.length = n := ⟨_, rfl⟩
                    rw [hvl] at hvv
                    have HVV := Lib.hid hvv
                    have hmc : n' ≤ c' := by omega
                    have hmn : n' ≤ n' := by omega
                    have hmi : (0 : Int) ≤ (n' : Int) := by omega
                    have hmci : (n' : Int) ≤ (c' : Int) := by omega
                    have hsrc : IsB w2.drew (.slice a' n' c') (bs'.take n') := by
                      have h9 : IsB w2 (.slice a' n' c') bs' := HA.out.src.keptS HK2.out (fun hne q e hf => by
                        obtain ⟨z1, z2⟩ := HA.out.sep hne q e
                        rcases HA.out.new q hf with h | h
                        · exact z2 h
                        · omega)
                      exact (h9.keptF (drew_kept w2) (fun _ _ f => f)).take (by have := HNN.out; omega)
                    obtain ⟨v1, W1, hrun, ⟨xa, xn, xc, rfl⟩, k0, k1, kf, r5, r5k, r5n⟩ := h2d.piece' HS1N.out hk1 (fun i hi hik => by rw [HKS.out]; exact HNO.out i hi hik) (.slice a' n' c') (bs'.take n') hsrc (by
                      have h8 := HA.out.size
                      have h9 := HBY.out
                      rw [← h9.1, h9.2, List.length_take]
                      omega)
                    obtain ⟨a2, hlow, hIs2, hvb2, -⟩ := bytes_low HA.out.src (k := n') (by have := HNN.out; omega)
                    rw [show n' - n' = 0 from by omega, show (((n' : Nat)) : Int) = (n' : Int) from rfl] at hlow
                    rw [show n' - n' = 0 from by omega] at hIs2
                    have HNX := Lib.hid (HA.out.next (kk := kk) ((HK2.out.trans (drew_kept w2) (fun _ _ f => f.elim))) (fun i e => HN2.out i e) hk1 HKS.out HNO.out r5 r5k r5n HDW.out (fun hne => by have h8 := HNN.out; have h9 := List.length_pos_iff.2 hne; omega) (fun e => by exact absurd e HBN.out) HBY.out hIs2 (fun q e => hvb2 q (by rw [show n' - n' = 0 from by omega]; exact e)) (app_right HBN.out HRW.out (.inr ⟨HNN.out.symm, by have := HNN.out; omega⟩) HR.out))
                    have HN3 : Hid ((bs'.drop n').length = 0) := Lib.hid (by rw [List.length_drop]; have := HNN.out; omega)
                    rw [HVV.out] at hrun k1
                    clear r5 r5k r5n hIs2 hvb2 hsrc hvv hvl qf q0
                    have HS0 : w2.drew.cell? ⟨b, 0, none⟩ = some (.slice (some ⟨g, 0, none⟩) s1n cc) ∧ w2.drew.cell? ⟨g, kk * 2 + 1, none⟩ = some (.slice va vl vc) := ⟨h2d.c.1, by rw [q1, HVV.out]⟩
                    have HS1 : W1.cell? ⟨b, 0, none⟩ = some (.slice (some ⟨g, 0, none⟩) s1n cc) ∧ W1.cell? ⟨g, kk * 2 + 1, none⟩ = some (.slice va vl vc) := ⟨k0, k1⟩
                    have hkki : (kk : Int) < (s1n : Int) := by omega
                    have hkk00 : (0 : Int) ≤ (kk : Int) := by omega
                    clear h2d q1
                    go_wp2_with fail
                    refine wp_region_phase (fun W => W.cell? ⟨b, 0, none⟩ = some (.slice (some ⟨g, 0, none⟩) s1n cc) ∧ W.cell? ⟨g, kk * 2 + 1, none⟩ = some (.slice va vl vc)) (fun i => i == 19) (by kernel_rfl) HS0 (fun _ => ?_)
                    refine wpAnyG_take (i := 0) (v := ?_) rfl (by kernel_rfl) (by kernel_rfl) (by kernel_rfl) (by kernel_rfl) (fun _ _ _ h => h) (Or.inl ⟨by rfl, ?_⟩) HS0 ?_
                    rotate_left
                    (intro w' hSw'; have ⟨_, _⟩ := hSw'; go_simp; try with_reducible rfl)
                    try simp only [Act.put, List.setIfInBounds_toArray, List.set_cons_zero, List.set_cons_succ, List.getElem_toArray, List.getElem_cons_zero, List.getElem_cons_succ]
                    refine wpAnyG_take (i := 1) (v := ?_) rfl (by kernel_rfl) (by kernel_rfl) (by kernel_rfl) (by kernel_rfl) (fun _ _ _ h => h) (Or.inl ⟨by rfl, ?_⟩) HS0 ?_
                    rotate_left
                    (intro w' hSw'; have ⟨_, _⟩ := hSw'; go_simp; try with_reducible rfl)
                    try simp only [Act.put, List.setIfInBounds_toArray, List.set_cons_zero, List.set_cons_succ, List.getElem_toArray, List.getElem_cons_zero, List.getElem_cons_succ]
                    refine wpAnyG_take (i := 2) (v := ?_) rfl (by kernel_rfl) (by kernel_rfl) (by kernel_rfl) (by kernel_rfl) (fun _ _ _ h => h) (Or.inl ⟨by rfl, ?_⟩) HS0 ?_
                    rotate_left
                    (intro w' hSw'; have ⟨_, _⟩ := hSw'; go_simp; try with_reducible rfl)
                    try simp only [Act.put, List.setIfInBounds_toArray, List.set_cons_zero, List.set_cons_succ, List.getElem_toArray, List.getElem_cons_zero, List.getElem_cons_succ]
                    refine wpAnyG_take (i := 3) (v := ?_) rfl (by kernel_rfl) (by kernel_rfl) (by kernel_rfl) (by kernel_rfl) (fun _ _ _ h => h) (Or.inl ⟨by rfl, ?_⟩) HS0 ?_
                    rotate_left
                    (intro w' hSw'; have ⟨_, _⟩ := hSw'; go_simp; try with_reducible rfl)
                    try simp only [Act.put, List.setIfInBounds_toArray, List.set_cons_zero, List.set_cons_succ, List.getElem_toArray, List.getElem_cons_zero, List.getElem_cons_succ]
                    refine wpAnyG_take (i := 4) (v := ?_) rfl (by kernel_rfl) (by kernel_rfl) (by kernel_rfl) (by kernel_rfl) (fun _ _ _ h => h) (Or.inl ⟨by rfl, ?_⟩) HS0 ?_
                    rotate_left
                    (intro w' hSw'; have ⟨_, _⟩ := hSw'; go_simp; try with_reducible rfl)
                    try simp only [Act.put, List.setIfInBounds_toArray, List.set_cons_zero, List.set_cons_succ, List.getElem_toArray, List.getElem_cons_zero, List.getElem_cons_succ]
                    refine wpAnyG_take (i := 5) (v := ?_) rfl (by kernel_rfl) (by kernel_rfl) (by kernel_rfl) (by kernel_rfl) (fun _ _ _ h => h) (Or.inl ⟨by rfl, ?_⟩) HS0 ?_
                    rotate_left
                    (intro w' hSw'; have ⟨_, _⟩ := hSw'; go_simp; try with_reducible rfl)
                    try simp only [Act.put, List.setIfInBounds_toArray, List.set_cons_zero, List.set_cons_succ, List.getElem_toArray, List.getElem_cons_zero, List.getElem_cons_succ]
                    refine wpAnyG_take (i := 6) (v := ?_) rfl (by kernel_rfl) (by kernel_rfl) (by kernel_rfl) (by kernel_rfl) (fun _ _ _ h => h) (Or.inl ⟨by rfl, ?_⟩) HS0 ?_
                    rotate_left
                    (intro w' hSw'; have ⟨_, _⟩ := hSw'; go_simp; try with_reducible rfl)
                    try simp only [Act.put, List.setIfInBounds_toArray, List.set_cons_zero, List.set_cons_succ, List.getElem_toArray, List.getElem_cons_zero, List.getElem_cons_succ]
                    refine wpAnyG_take (i := 7) (v := ?_) rfl (by kernel_rfl) (by kernel_rfl) (by kernel_rfl) (by kernel_rfl) (fun _ _ _ h => h) (Or.inl ⟨by rfl, ?_⟩) HS0 ?_
                    rotate_left
                    (intro w' hSw'; have ⟨_, _⟩ := hSw'; go_simp; try with_reducible rfl)
                    try simp only [Act.put, List.setIfInBounds_toArray, List.set_cons_zero, List.set_cons_succ, List.getElem_toArray, List.getElem_cons_zero, List.getElem_cons_succ]
                    refine wpAnyG_take (i := 8) (v := ?_) rfl (by kernel_rfl) (by kernel_rfl) (by kernel_rfl) (by kernel_rfl) (fun _ _ _ h => h) (Or.inl ⟨by rfl, ?_⟩) HS0 ?_
                    rotate_left
                    (intro w' hSw'; have ⟨_, _⟩ := hSw'; go_simp; try with_reducible rfl)
                    try simp only [Act.put, List.setIfInBounds_toArray, List.set_cons_zero, List.set_cons_succ, List.getElem_toArray, List.getElem_cons_zero, List.getElem_cons_succ]
                    refine wpAnyG_take (i := 9) (v := ?_) rfl (by kernel_rfl) (by kernel_rfl) (by kernel_rfl) (by kernel_rfl) (fun _ _ _ h => h) (Or.inl ⟨by rfl, ?_⟩) HS0 ?_
                    rotate_left
                    (intro w' hSw'; have ⟨_, _⟩ := hSw'; go_simp; try with_reducible rfl)
                    try simp only [Act.put, List.setIfInBounds_toArray, List.set_cons_zero, List.set_cons_succ, List.getElem_toArray, List.getElem_cons_zero, List.getElem_cons_succ]
                    refine wpAnyG_take (i := 10) (v := ?_) rfl (by kernel_rfl) (by kernel_rfl) (by kernel_rfl) (by kernel_rfl) (fun _ _ _ h => h) (Or.inl ⟨by rfl, ?_⟩) HS0 ?_
                    rotate_left
                    (intro w' hSw'; have ⟨_, _⟩ := hSw'; go_simp; try with_reducible rfl)
                    try simp only [Act.put, List.setIfInBounds_toArray, List.set_cons_zero, List.set_cons_succ, List.getElem_toArray, List.getElem_cons_zero, List.getElem_cons_succ]
                    refine wpAnyG_take (i := 11) (v := ?_) rfl (by kernel_rfl) (by kernel_rfl) (by kernel_rfl) (by kernel_rfl) (fun _ _ _ h => h) (Or.inl ⟨by rfl, ?_⟩) HS0 ?_
                    rotate_left
                    (intro w' hSw'; have ⟨_, _⟩ := hSw'; go_simp; try with_reducible rfl)
                    try simp only [Act.put, List.setIfInBounds_toArray, List.set_cons_zero, List.set_cons_succ, List.getElem_toArray, List.getElem_cons_zero, List.getElem_cons_succ]
                    refine wpAnyG_take (i := 12) (v := ?_) rfl (by kernel_rfl) (by kernel_rfl) (by kernel_rfl) (by kernel_rfl) (fun _ _ _ h => h) (Or.inl ⟨by rfl, ?_⟩) HS0 ?_
                    rotate_left
                    (intro w' hSw'; have ⟨_, _⟩ := hSw'; go_simp; try with_reducible rfl)
                    try simp only [Act.put, List.setIfInBounds_toArray, List.set_cons_zero, List.set_cons_succ, List.getElem_toArray, List.getElem_cons_zero, List.getElem_cons_succ]
                    refine wpAnyG_take (i := 13) (v := ?_) rfl (by kernel_rfl) (by kernel_rfl) (by kernel_rfl) (by kernel_rfl) (fun _ _ _ h => h) (Or.inl ⟨by rfl, ?_⟩) HS0 ?_
                    rotate_left
                    (intro w' hSw'; have ⟨_, _⟩ := hSw'; go_simp; try with_reducible rfl)
                    try simp only [Act.put, List.setIfInBounds_toArray, List.set_cons_zero, List.set_cons_succ, List.getElem_toArray, List.getElem_cons_zero, List.getElem_cons_succ]
                    refine wpAnyG_take (i := 14) (v := ?_) rfl (by kernel_rfl) (by kernel_rfl) (by kernel_rfl) (by kernel_rfl) (fun _ _ _ h => h) (Or.inl ⟨by rfl, ?_⟩) HS0 ?_
                    rotate_left
                    (intro w' hSw'; have ⟨_, _⟩ := hSw'; go_simp; try with_reducible rfl)
                    try simp only [Act.put, List.setIfInBounds_toArray, List.set_cons_zero, List.set_cons_succ, List.getElem_toArray, List.getElem_cons_zero, List.getElem_cons_succ]
                    refine wpAnyG_take (i := 15) (v := ?_) rfl (by kernel_rfl) (by kernel_rfl) (by kernel_rfl) (by kernel_rfl) (fun _ _ _ h => h) (Or.inl ⟨by rfl, ?_⟩) HS0 ?_
                    rotate_left
                    (intro w' hSw'; have ⟨_, _⟩ := hSw'; go_simp; try with_reducible rfl)
                    try simp only [Act.put, List.setIfInBounds_toArray, List.set_cons_zero, List.set_cons_succ, List.getElem_toArray, List.getElem_cons_zero, List.getElem_cons_succ]
                    refine wpAnyG_ready (rs := [16]) (by kernel_rfl) (by simp) ?_
                    refine AllG.cons rfl (ph' := false) (by kernel_rfl) (fun K hK => ?_) AllG.nil
                    refine step_append_run rfl (.tmp 98) (.tmp 101) #[32, 32] rfl _ _ _ _ rfl rfl hrun ?_
                    refine hK.out _ _ (fun _ => HS1) ?_
                    clear hK K
                    try simp only [Act.put, List.setIfInBounds_toArray, List.set_cons_zero, List.set_cons_succ, List.getElem_toArray, List.getElem_cons_zero, List.getElem_cons_succ]
                    refine wpAnyG_takeU (i := 17) (v := ?_) rfl (by kernel_rfl) (by kernel_rfl) (by kernel_rfl) (by kernel_rfl) (fun _ _ _ h => h) (Or.inl ⟨by rfl, ?_⟩) (fun _ => HS1) ?_
                    rotate_left
                    (intro w' hSw'; go_simp; try with_reducible rfl)
                    try simp only [Act.put, List.setIfInBounds_toArray, List.set_cons_zero, List.set_cons_succ, List.getElem_toArray, List.getElem_cons_zero, List.getElem_cons_succ]
                    refine wpAnyG_takeU (i := 18) (v := ?_) rfl (by kernel_rfl) (by kernel_rfl) (by kernel_rfl) (by kernel_rfl) (fun _ _ _ h => h) (Or.inl ⟨by rfl, ?_⟩) (fun _ => HS1) ?_
                    rotate_left
                    (intro w' hSw'; go_simp; try with_reducible rfl)
                    try simp only [Act.put, List.setIfInBounds_toArray, List.set_cons_zero, List.set_cons_succ, List.getElem_toArray, List.getElem_cons_zero, List.getElem_cons_succ]
                    refine wpAnyG_ready (rs := [19]) (by kernel_rfl) (by simp) ?_
                    refine AllG.cons rfl (ph' := true) (by kernel_rfl) (fun K hK => ?_) AllG.nil
                    go_simp
                    refine hK.out _ _ (fun h => by cases h) ?_
                    clear hK K
                    try simp only [Act.put, List.setIfInBounds_toArray, List.set_cons_zero, List.set_cons_succ, List.getElem_toArray, List.getElem_cons_zero, List.getElem_cons_succ]
                    refine wpAnyG_done (by kernel_rfl) ?_ _
                    clear HS0 HS1 hrun k0 k1 kf
                    go_wp2_with fail
                    go_roundg (0)
                    case measure => omega
                    case rel => exact ⟨a2, _, _, _, _, false, _, _, _, rfl, rfl, rfl, by simp, HN3, Lib.hid trivial, HNX⟩
    · obtain ⟨g, c', hfv, q0, q1, -⟩ := H1.out.row.at hk
      obtain ⟨va, vc, hv, -, -⟩ := (H.out.own _ (List.getElem_mem hk)).form
      obtain ⟨m, hm⟩ : ∃ m, S[k].bytes.length = m := ⟨_, rfl⟩
      have hsk : k < sn := by have := HSN.out; omega
      have hm4 : m ≤ 4194304 ∧ (D.bytes s).length = m := by
        have h1 := DM.bytes_le H.out.ok s
        unfold DM.bytes at h1 ⊢
        rw [hg] at h1 ⊢
        exact ⟨by simpa [hm] using h1, by simpa using hm⟩
      obtain ⟨hm4, hbm⟩ := hm4
      rw [hm] at hv
      rw [hv] at q1
      rw [HSN.out] at hfv
      cases hfv
      have HG : Hid (getA s D.files ≠ none) := Lib.hid (by rw [hg]; simp)
      have HST2 : Hid (∃ kk : Nat, ∃ hk : kk < S.length, ((k : Int) = kk) ∧ S[kk].name = s ∧ (∀ i (hi : i < S.length), i < kk → S[i].name ≠ s) ∧ getA s D.files ≠ none) := Lib.hid ⟨k, hk, rfl, hks, hno, by rw [hg]; simp⟩
      have hk0 : ¬ ((k : Int) < 0) := by omega
      have hk00 : (0 : Int) ≤ (k : Int) := by omega
      have hksi : (k : Int) < (sn : Int) := by omega
      have HBM := Lib.hid hbm
      clear hr q0 hv hm hg hks hno hbm
      by_cases hbig : 4194304 < n
      · have HD := Lib.hid (HAC2.out.1 (.inr (by have := HN.out; have := HBM.out; omega)))
        go_wp2_with fail
        go_ret
        rw [HD.out]
        exact EndR.same H.out rfl HK1.out
      · by_cases hsum : 4194304 < m + n
        · have HD := Lib.hid (HAC2.out.1 (.inr (by have := HN.out; have := HBM.out; omega)))
          have hsi : (4194304 : Int) < (m : Int) + (n : Int) := by omega
          go_wp2_with fail
          go_ret
          rw [HD.out]
          exact EndR.same H.out rfl HK1.out
        · have HA := Lib.hid (HST.out (k : Int) (fun e => by
            rcases e with e | e
            · exact HG.out e.1
            · have := HN.out; have := HBM.out; omega) (.inr HST2.out))
          have hsi : ¬ (4194304 : Int) < (m : Int) + (n : Int) := by omega
          have hnn : n ≤ 4194304 := by omega
          clear HST2 hbig hsum
          go_wp2_with fail
          have HAX : Hid (AppSt w b (.slice (some ⟨g, 0, none⟩) sn fc) S s (D.append s bs) w1 (.slice a n c) bs (k : Int) true (.slice (some ⟨g, 0, none⟩) sn fc) S D) := HA
          obtain ⟨R, hR⟩ : ∃ R, D.append s bs = R := ⟨_, rfl⟩
          rw [hR] at HAX
          have HRR := Lib.hid hR
          clear hR HA HST HAC2 HAC c0
          go_loopg [2, 7, 8] (n + 1) (fun gg u2 u7 u8 wr => ∃ (a' : Option Addr) (n' c' : Nat) (bs' : List UInt8) (kv : Int) (first : Bool) (fv' : Value) (S' : List FileM) (D' : DM), u2 = .slice a' n' c' ∧ u7 = .int .i64 kv ∧ u8 = .bool first ∧ gg = n' + (if first = true then 1 else 0) ∧ Hid (bs'.length = n') ∧ Hid (getA s D'.files ≠ none) ∧ Hid (AppSt w b (.slice (some ⟨g, 0, none⟩) sn fc) S s R wr (.slice a' n' c') bs' kv first fv' S' D'))
          case atStart => exact ⟨a, n, c, bs, _, true, _, S, D, rfl, rfl, rfl, rfl, HN, HG, HAX⟩
          case round =>
            clear HAX
            obtain ⟨a', n', c', bs', kv, first, fv', S', D', rfl, rfl, rfl, hgg, HNN, HGD, HA⟩ := hrel
            have hnc : n' ≤ c' ∧ n' ≤ 9223372036854775807 := by
              obtain ⟨a9, c9, e, h1, h2, -⟩ := HA.out.src
              cases e
              unfold maxLen at h2
              have := HNN.out
              exact ⟨by omega, by omega⟩
            obtain ⟨hnc1, hnc2⟩ := hnc
            have hwr := Lib.hid (rwrite_any HA.out.ref (by have := HA.out.bound; split at this <;> omega))
            rcases HA.out.stage with ⟨rfl, rfl, hg, hc, hR⟩ | ⟨kk, hk, rfl, hks, hno, hR⟩
            · skip
              exact absurd hg HGD.out
            · have hge : n' ≤ gk := by rw [hgg]; exact Nat.le_add_right _ _
              have HR := Lib.hid hR
              have HKS := Lib.hid hks
              have HNO := Lib.hid hno
              clear hR hks hno
              by_cases hz : n' = 0
              · have HE : Hid (R = (0, D')) := Lib.hid (by rw [← HR.out, List.length_eq_zero_iff.1 (HNN.out.trans hz), DM.pieces_nil])
                have HEND : Hid (EndR w b (.slice (some ⟨g, 0, none⟩) sn fc) S 0 D' (.returned (.int .i64 0)) wr) := Lib.hid ⟨rfl, _, _, HA.out.ref, HA.out.kept, HA.out.new⟩
                have hkk0 : ¬ ((kk : Int) < 0) := by omega
                subst hz
                clear hgg
                cases first with
                | true =>
                  go_wp2_with fail
                  go_ret
                  rw [HRR.out, HE.out]
                  exact HEND.out
                | false =>
                  go_wp2_with fail
                  go_ret
                  rw [HRR.out, HE.out]
                  exact HEND.out
              · have hzp : 0 < n' := by omega
                have hzpi : (0 : Int) < (n' : Int) := by omega
                have HBN : Hid (bs' ≠ []) := Lib.hid (fun e => hz (by rw [← HNN.out, e]; rfl))
                have hkk0 : ¬ ((kk : Int) < 0) := by omega
                cases hraw : D'.raw with
                | none =>
                  rw [hraw] at hwr
                  have HE : Hid (R = (6, D')) := Lib.hid (by rw [← HR.out, DM.pieces_no HBN.out hraw])
                  clear hraw hgg hz
                  go_wp2_with fail
                  refine hwr.out.mono ?_
                  rintro e w2 ⟨rfl, rfl⟩
                  have HEND : Hid (EndR w b (.slice (some ⟨g, 0, none⟩) sn fc) S 6 D' (.returned (.int .i64 6)) wr) := Lib.hid ⟨rfl, _, _, HA.out.ref, HA.out.kept, HA.out.new⟩
                  go_wp2_with fail
                  go_ret
                  rw [HRR.out, HE.out]
                  exact HEND.out
                | some D1 =>
                  rw [hraw] at hwr
                  have HRW := Lib.hid hraw
                  have HD1 : Hid (D1.writes = D'.writes + 1 ∧ D1.files = D'.files) := Lib.hid ⟨(DM.raw_ok HA.out.ref.ok hraw).2.1, DM.raw_files hraw⟩
                  clear hraw hz
                  go_wp2_with fail
                  refine hwr.out.mono ?_
                  rintro e w2 ⟨rfl, h2, hk2⟩
                  have H2 := Lib.hid h2
                  have HK2 : Hid (Kept (refF b fv' S') wr w2) := Lib.hid (hk2.mono (fun _ _ e => .inl e))
                  have HN2 : Hid (∀ i, refF b fv' S' i → refF b fv' S' i ∨ wr.heap.size ≤ i) := Lib.hid (fun _ e => .inl e)
                  have hk1 := hk
                  have HBY : Hid (D1.bytes s = S'[kk].bytes ∧ (D1.bytes s).length = (D'.bytes s).length) := Lib.hid (by
                    have h9 : getA s D'.files = some S'[kk].bytes := by rw [HA.out.ref.sync]; exact (filesD_at hk HKS.out HNO.out).1
                    unfold DM.bytes
                    rw [HD1.out.2, h9]
                    exact ⟨rfl, rfl⟩)
                  have HDW := Lib.hid HD1.out.1
                  have HP2 := H2
                  clear h2 hk2 hwr
                  by_cases h32 : 32 < n'
                  · skip
                    have h2d := HP2.out.kept (drew_kept w2) (fun _ _ f => f)
                    obtain ⟨g, cc, hfv, q0, q1, qf⟩ := h2d.row.at hk1
                    obtain ⟨s1n, hs1n⟩ : ∃ n, S'.length = n := ⟨_, rfl⟩
                    have HS1N := Lib.hid hs1n
                    have hk1n : kk < s1n := by omega
                    have hs256' : s1n ≤ 256 := by have := h2d.ok.count; have := h2d.len; omega
                    rw [hs1n] at hfv
                    clear hs1n
                    cases hfv
                    obtain ⟨va, vc, hvv, -, -⟩ := (h2d.own _ (List.getElem_mem hk1)).form
                    obtain ⟨vl, hvl⟩ : ∃ n, S'[kk].bytes.length = n := ⟨_, rfl⟩
                    rw [hvl] at hvv
                    have HVV := Lib.hid hvv
                    have hmc : 32 ≤ c' := by omega
                    have hmn : 32 ≤ n' := by omega
                    have hmi : (0 : Int) ≤ (32 : Int) := by omega
                    have hmci : (32 : Int) ≤ (c' : Int) := by omega
                    have hsrc : IsB w2.drew (.slice a' 32 c') (bs'.take 32) := by
                      have h9 : IsB w2 (.slice a' n' c') bs' := HA.out.src.keptS HK2.out (fun hne q e hf => by
                        obtain ⟨z1, z2⟩ := HA.out.sep hne q e
                        rcases HA.out.new q hf with h | h
                        · exact z2 h
                        · omega)
                      exact (h9.keptF (drew_kept w2) (fun _ _ f => f)).take (by have := HNN.out; omega)
                    obtain ⟨v1, W1, hrun, ⟨xa, xn, xc, rfl⟩, k0, k1, kf, r5, r5k, r5n⟩ := h2d.piece' HS1N.out hk1 (fun i hi hik => by rw [HKS.out]; exact HNO.out i hi hik) (.slice a' 32 c') (bs'.take 32) hsrc (by
                      have h8 := HA.out.size
                      have h9 := HBY.out
                      rw [← h9.1, h9.2, List.length_take]
                      omega)
                    obtain ⟨a2, hlow, hIs2, hvb2, -⟩ := bytes_low HA.out.src (k := 32) (by have := HNN.out; omega)
                    rw [show n' - 32 = (n' - 32) from by omega, show (((32 : Nat)) : Int) = (32 : Int) from rfl] at hlow
                    rw [show n' - 32 = (n' - 32) from by omega] at hIs2
                    have HNX := Lib.hid (HA.out.next (kk := kk) ((HK2.out.trans (drew_kept w2) (fun _ _ f => f.elim))) (fun i e => HN2.out i e) hk1 HKS.out HNO.out r5 r5k r5n HDW.out (fun hne => by have h8 := HNN.out; have h9 := List.length_pos_iff.2 hne; omega) (fun e => by exact absurd e HBN.out) HBY.out hIs2 (fun q e => hvb2 q (by rw [show n' - 32 = (n' - 32) from by omega]; exact e)) (app_right HBN.out HRW.out (.inl rfl) HR.out))
                    have HN3 : Hid ((bs'.drop 32).length = (n' - 32)) := Lib.hid (by rw [List.length_drop]; have := HNN.out; omega)
                    rw [HVV.out] at hrun k1
                    clear r5 r5k r5n hIs2 hvb2 hsrc hvv hvl qf q0
                    have HS0 : w2.drew.cell? ⟨b, 0, none⟩ = some (.slice (some ⟨g, 0, none⟩) s1n cc) ∧ w2.drew.cell? ⟨g, kk * 2 + 1, none⟩ = some (.slice va vl vc) := ⟨h2d.c.1, by rw [q1, HVV.out]⟩
                    have HS1 : W1.cell? ⟨b, 0, none⟩ = some (.slice (some ⟨g, 0, none⟩) s1n cc) ∧ W1.cell? ⟨g, kk * 2 + 1, none⟩ = some (.slice va vl vc) := ⟨k0, k1⟩
                    have hkki : (kk : Int) < (s1n : Int) := by omega
                    have hkk00 : (0 : Int) ≤ (kk : Int) := by omega
                    clear h2d q1
                    go_wp2_with fail
                    refine wp_region_phase (fun W => W.cell? ⟨b, 0, none⟩ = some (.slice (some ⟨g, 0, none⟩) s1n cc) ∧ W.cell? ⟨g, kk * 2 + 1, none⟩ = some (.slice va vl vc)) (fun i => i == 19) (by kernel_rfl) HS0 (fun _ => ?_)
                    refine wpAnyG_take (i := 0) (v := ?_) rfl (by kernel_rfl) (by kernel_rfl) (by kernel_rfl) (by kernel_rfl) (fun _ _ _ h => h) (Or.inl ⟨by rfl, ?_⟩) HS0 ?_
                    rotate_left
                    (intro w' hSw'; have ⟨_, _⟩ := hSw'; go_simp; try with_reducible rfl)
                    try simp only [Act.put, List.setIfInBounds_toArray, List.set_cons_zero, List.set_cons_succ, List.getElem_toArray, List.getElem_cons_zero, List.getElem_cons_succ]
                    refine wpAnyG_take (i := 1) (v := ?_) rfl (by kernel_rfl) (by kernel_rfl) (by kernel_rfl) (by kernel_rfl) (fun _ _ _ h => h) (Or.inl ⟨by rfl, ?_⟩) HS0 ?_
                    rotate_left
                    (intro w' hSw'; have ⟨_, _⟩ := hSw'; go_simp; try with_reducible rfl)
                    try simp only [Act.put, List.setIfInBounds_toArray, List.set_cons_zero, List.set_cons_succ, List.getElem_toArray, List.getElem_cons_zero, List.getElem_cons_succ]
                    refine wpAnyG_take (i := 2) (v := ?_) rfl (by kernel_rfl) (by kernel_rfl) (by kernel_rfl) (by kernel_rfl) (fun _ _ _ h => h) (Or.inl ⟨by rfl, ?_⟩) HS0 ?_
                    rotate_left
                    (intro w' hSw'; have ⟨_, _⟩ := hSw'; go_simp; try with_reducible rfl)
                    try simp only [Act.put, List.setIfInBounds_toArray, List.set_cons_zero, List.set_cons_succ, List.getElem_toArray, List.getElem_cons_zero, List.getElem_cons_succ]
                    refine wpAnyG_take (i := 3) (v := ?_) rfl (by kernel_rfl) (by kernel_rfl) (by kernel_rfl) (by kernel_rfl) (fun _ _ _ h => h) (Or.inl ⟨by rfl, ?_⟩) HS0 ?_
                    rotate_left
                    (intro w' hSw'; have ⟨_, _⟩ := hSw'; go_simp; try with_reducible rfl)
                    try simp only [Act.put, List.setIfInBounds_toArray, List.set_cons_zero, List.set_cons_succ, List.getElem_toArray, List.getElem_cons_zero, List.getElem_cons_succ]
                    refine wpAnyG_take (i := 4) (v := ?_) rfl (by kernel_rfl) (by kernel_rfl) (by kernel_rfl) (by kernel_rfl) (fun _ _ _ h => h) (Or.inl ⟨by rfl, ?_⟩) HS0 ?_
                    rotate_left
                    (intro w' hSw'; have ⟨_, _⟩ := hSw'; go_simp; try with_reducible rfl)
                    try simp only [Act.put, List.setIfInBounds_toArray, List.set_cons_zero, List.set_cons_succ, List.getElem_toArray, List.getElem_cons_zero, List.getElem_cons_succ]
                    refine wpAnyG_take (i := 5) (v := ?_) rfl (by kernel_rfl) (by kernel_rfl) (by kernel_rfl) (by kernel_rfl) (fun _ _ _ h => h) (Or.inl ⟨by rfl, ?_⟩) HS0 ?_
                    rotate_left
                    (intro w' hSw'; have ⟨_, _⟩ := hSw'; go_simp; try with_reducible rfl)
                    try simp only [Act.put, List.setIfInBounds_toArray, List.set_cons_zero, List.set_cons_succ, List.getElem_toArray, List.getElem_cons_zero, List.getElem_cons_succ]
                    refine wpAnyG_take (i := 6) (v := ?_) rfl (by kernel_rfl) (by kernel_rfl) (by kernel_rfl) (by kernel_rfl) (fun _ _ _ h => h) (Or.inl ⟨by rfl, ?_⟩) HS0 ?_
                    rotate_left
                    (intro w' hSw'; have ⟨_, _⟩ := hSw'; go_simp; try with_reducible rfl)
                    try simp only [Act.put, List.setIfInBounds_toArray, List.set_cons_zero, List.set_cons_succ, List.getElem_toArray, List.getElem_cons_zero, List.getElem_cons_succ]
                    refine wpAnyG_take (i := 7) (v := ?_) rfl (by kernel_rfl) (by kernel_rfl) (by kernel_rfl) (by kernel_rfl) (fun _ _ _ h => h) (Or.inl ⟨by rfl, ?_⟩) HS0 ?_
                    rotate_left
                    (intro w' hSw'; have ⟨_, _⟩ := hSw'; go_simp; try with_reducible rfl)
                    try simp only [Act.put, List.setIfInBounds_toArray, List.set_cons_zero, List.set_cons_succ, List.getElem_toArray, List.getElem_cons_zero, List.getElem_cons_succ]
                    refine wpAnyG_take (i := 8) (v := ?_) rfl (by kernel_rfl) (by kernel_rfl) (by kernel_rfl) (by kernel_rfl) (fun _ _ _ h => h) (Or.inl ⟨by rfl, ?_⟩) HS0 ?_
                    rotate_left
                    (intro w' hSw'; have ⟨_, _⟩ := hSw'; go_simp; try with_reducible rfl)
                    try simp only [Act.put, List.setIfInBounds_toArray, List.set_cons_zero, List.set_cons_succ, List.getElem_toArray, List.getElem_cons_zero, List.getElem_cons_succ]
                    refine wpAnyG_take (i := 9) (v := ?_) rfl (by kernel_rfl) (by kernel_rfl) (by kernel_rfl) (by kernel_rfl) (fun _ _ _ h => h) (Or.inl ⟨by rfl, ?_⟩) HS0 ?_
                    rotate_left
                    (intro w' hSw'; have ⟨_, _⟩ := hSw'; go_simp; try with_reducible rfl)
                    try simp only [Act.put, List.setIfInBounds_toArray, List.set_cons_zero, List.set_cons_succ, List.getElem_toArray, List.getElem_cons_zero, List.getElem_cons_succ]
                    refine wpAnyG_take (i := 10) (v := ?_) rfl (by kernel_rfl) (by kernel_rfl) (by kernel_rfl) (by kernel_rfl) (fun _ _ _ h => h) (Or.inl ⟨by rfl, ?_⟩) HS0 ?_
                    rotate_left
                    (intro w' hSw'; have ⟨_, _⟩ := hSw'; go_simp; try with_reducible rfl)
                    try simp only [Act.put, List.setIfInBounds_toArray, List.set_cons_zero, List.set_cons_succ, List.getElem_toArray, List.getElem_cons_zero, List.getElem_cons_succ]
                    refine wpAnyG_take (i := 11) (v := ?_) rfl (by kernel_rfl) (by kernel_rfl) (by kernel_rfl) (by kernel_rfl) (fun _ _ _ h => h) (Or.inl ⟨by rfl, ?_⟩) HS0 ?_
                    rotate_left
                    (intro w' hSw'; have ⟨_, _⟩ := hSw'; go_simp; try with_reducible rfl)
                    try simp only [Act.put, List.setIfInBounds_toArray, List.set_cons_zero, List.set_cons_succ, List.getElem_toArray, List.getElem_cons_zero, List.getElem_cons_succ]
                    refine wpAnyG_take (i := 12) (v := ?_) rfl (by kernel_rfl) (by kernel_rfl) (by kernel_rfl) (by kernel_rfl) (fun _ _ _ h => h) (Or.inl ⟨by rfl, ?_⟩) HS0 ?_
                    rotate_left
                    (intro w' hSw'; have ⟨_, _⟩ := hSw'; go_simp; try with_reducible rfl)
                    try simp only [Act.put, List.setIfInBounds_toArray, List.set_cons_zero, List.set_cons_succ, List.getElem_toArray, List.getElem_cons_zero, List.getElem_cons_succ]
                    refine wpAnyG_take (i := 13) (v := ?_) rfl (by kernel_rfl) (by kernel_rfl) (by kernel_rfl) (by kernel_rfl) (fun _ _ _ h => h) (Or.inl ⟨by rfl, ?_⟩) HS0 ?_
                    rotate_left
                    (intro w' hSw'; have ⟨_, _⟩ := hSw'; go_simp; try with_reducible rfl)
                    try simp only [Act.put, List.setIfInBounds_toArray, List.set_cons_zero, List.set_cons_succ, List.getElem_toArray, List.getElem_cons_zero, List.getElem_cons_succ]
                    refine wpAnyG_take (i := 14) (v := ?_) rfl (by kernel_rfl) (by kernel_rfl) (by kernel_rfl) (by kernel_rfl) (fun _ _ _ h => h) (Or.inl ⟨by rfl, ?_⟩) HS0 ?_
                    rotate_left
                    (intro w' hSw'; have ⟨_, _⟩ := hSw'; go_simp; try with_reducible rfl)
                    try simp only [Act.put, List.setIfInBounds_toArray, List.set_cons_zero, List.set_cons_succ, List.getElem_toArray, List.getElem_cons_zero, List.getElem_cons_succ]
                    refine wpAnyG_take (i := 15) (v := ?_) rfl (by kernel_rfl) (by kernel_rfl) (by kernel_rfl) (by kernel_rfl) (fun _ _ _ h => h) (Or.inl ⟨by rfl, ?_⟩) HS0 ?_
                    rotate_left
                    (intro w' hSw'; have ⟨_, _⟩ := hSw'; go_simp; try with_reducible rfl)
                    try simp only [Act.put, List.setIfInBounds_toArray, List.set_cons_zero, List.set_cons_succ, List.getElem_toArray, List.getElem_cons_zero, List.getElem_cons_succ]
                    refine wpAnyG_ready (rs := [16]) (by kernel_rfl) (by simp) ?_
                    refine AllG.cons rfl (ph' := false) (by kernel_rfl) (fun K hK => ?_) AllG.nil
                    refine step_append_run rfl (.tmp 98) (.tmp 101) #[32, 32] rfl _ _ _ _ rfl rfl hrun ?_
                    refine hK.out _ _ (fun _ => HS1) ?_
                    clear hK K
                    try simp only [Act.put, List.setIfInBounds_toArray, List.set_cons_zero, List.set_cons_succ, List.getElem_toArray, List.getElem_cons_zero, List.getElem_cons_succ]
                    refine wpAnyG_takeU (i := 17) (v := ?_) rfl (by kernel_rfl) (by kernel_rfl) (by kernel_rfl) (by kernel_rfl) (fun _ _ _ h => h) (Or.inl ⟨by rfl, ?_⟩) (fun _ => HS1) ?_
                    rotate_left
                    (intro w' hSw'; go_simp; try with_reducible rfl)
                    try simp only [Act.put, List.setIfInBounds_toArray, List.set_cons_zero, List.set_cons_succ, List.getElem_toArray, List.getElem_cons_zero, List.getElem_cons_succ]
                    refine wpAnyG_takeU (i := 18) (v := ?_) rfl (by kernel_rfl) (by kernel_rfl) (by kernel_rfl) (by kernel_rfl) (fun _ _ _ h => h) (Or.inl ⟨by rfl, ?_⟩) (fun _ => HS1) ?_
                    rotate_left
                    (intro w' hSw'; go_simp; try with_reducible rfl)
                    try simp only [Act.put, List.setIfInBounds_toArray, List.set_cons_zero, List.set_cons_succ, List.getElem_toArray, List.getElem_cons_zero, List.getElem_cons_succ]
                    refine wpAnyG_ready (rs := [19]) (by kernel_rfl) (by simp) ?_
                    refine AllG.cons rfl (ph' := true) (by kernel_rfl) (fun K hK => ?_) AllG.nil
                    go_simp
                    refine hK.out _ _ (fun h => by cases h) ?_
                    clear hK K
                    try simp only [Act.put, List.setIfInBounds_toArray, List.set_cons_zero, List.set_cons_succ, List.getElem_toArray, List.getElem_cons_zero, List.getElem_cons_succ]
                    refine wpAnyG_done (by kernel_rfl) ?_ _
                    clear HS0 HS1 hrun k0 k1 kf
                    go_wp2_with fail
                    go_roundg ((n' - 32))
                    case measure => omega
                    case rel => exact ⟨a2, _, _, _, _, false, _, _, _, rfl, rfl, rfl, by simp, HN3, Lib.hid (by rw [DM.get_put]; simp), HNX⟩
                  · skip
                    have h2d := HP2.out.kept (drew_kept w2) (fun _ _ f => f)
                    obtain ⟨g, cc, hfv, q0, q1, qf⟩ := h2d.row.at hk1
                    obtain ⟨s1n, hs1n⟩ : ∃ n, S'.length = n := ⟨_, rfl⟩
                    have HS1N := Lib.hid hs1n
                    have hk1n : kk < s1n := by omega
                    have hs256' : s1n ≤ 256 := by have := h2d.ok.count; have := h2d.len; omega
                    rw [hs1n] at hfv
                    clear hs1n
                    cases hfv
                    obtain ⟨va, vc, hvv, -, -⟩ := (h2d.own _ (List.getElem_mem hk1)).form
                    obtain ⟨vl, hvl⟩ : ∃ n, S'[kk].bytes.length = n := ⟨_, rfl⟩
                    rw [hvl] at hvv
                    have HVV := Lib.hid hvv
                    have hmc : n' ≤ c' := by omega
                    have hmn : n' ≤ n' := by omega
                    have hmi : (0 : Int) ≤ (n' : Int) := by omega
                    have hmci : (n' : Int) ≤ (c' : Int) := by omega
                    have hsrc : IsB w2.drew (.slice a' n' c') (bs'.take n') := by
                      have h9 : IsB w2 (.slice a' n' c') bs' := HA.out.src.keptS HK2.out (fun hne q e hf => by
                        obtain ⟨z1, z2⟩ := HA.out.sep hne q e
                        rcases HA.out.new q hf with h | h
                        · exact z2 h
                        · omega)
                      exact (h9.keptF (drew_kept w2) (fun _ _ f => f)).take (by have := HNN.out; omega)
                    obtain ⟨v1, W1, hrun, ⟨xa, xn, xc, rfl⟩, k0, k1, kf, r5, r5k, r5n⟩ := h2d.piece' HS1N.out hk1 (fun i hi hik => by rw [HKS.out]; exact HNO.out i hi hik) (.slice a' n' c') (bs'.take n') hsrc (by
                      have h8 := HA.out.size
                      have h9 := HBY.out
                      rw [← h9.1, h9.2, List.length_take]
                      omega)
                    obtain ⟨a2, hlow, hIs2, hvb2, -⟩ := bytes_low HA.out.src (k := n') (by have := HNN.out; omega)
                    rw [show n' - n' = 0 from by omega, show (((n' : Nat)) : Int) = (n' : Int) from rfl] at hlow
                    rw [show n' - n' = 0 from by omega] at hIs2
                    have HNX := Lib.hid (HA.out.next (kk := kk) ((HK2.out.trans (drew_kept w2) (fun _ _ f => f.elim))) (fun i e => HN2.out i e) hk1 HKS.out HNO.out r5 r5k r5n HDW.out (fun hne => by have h8 := HNN.out; have h9 := List.length_pos_iff.2 hne; omega) (fun e => by exact absurd e HBN.out) HBY.out hIs2 (fun q e => hvb2 q (by rw [show n' - n' = 0 from by omega]; exact e)) (app_right HBN.out HRW.out (.inr ⟨HNN.out.symm, by have := HNN.out; omega⟩) HR.out))
                    have HN3 : Hid ((bs'.drop n').length = 0) := Lib.hid (by rw [List.length_drop]; have := HNN.out; omega)
                    rw [HVV.out] at hrun k1
                    clear r5 r5k r5n hIs2 hvb2 hsrc hvv hvl qf q0
                    have HS0 : w2.drew.cell? ⟨b, 0, none⟩ = some (.slice (some ⟨g, 0, none⟩) s1n cc) ∧ w2.drew.cell? ⟨g, kk * 2 + 1, none⟩ = some (.slice va vl vc) := ⟨h2d.c.1, by rw [q1, HVV.out]⟩
                    have HS1 : W1.cell? ⟨b, 0, none⟩ = some (.slice (some ⟨g, 0, none⟩) s1n cc) ∧ W1.cell? ⟨g, kk * 2 + 1, none⟩ = some (.slice va vl vc) := ⟨k0, k1⟩
                    have hkki : (kk : Int) < (s1n : Int) := by omega
                    have hkk00 : (0 : Int) ≤ (kk : Int) := by omega
                    clear h2d q1
                    go_wp2_with fail
                    refine wp_region_phase (fun W => W.cell? ⟨b, 0, none⟩ = some (.slice (some ⟨g, 0, none⟩) s1n cc) ∧ W.cell? ⟨g, kk * 2 + 1, none⟩ = some (.slice va vl vc)) (fun i => i == 19) (by kernel_rfl) HS0 (fun _ => ?_)
                    refine wpAnyG_take (i := 0) (v := ?_) rfl (by kernel_rfl) (by kernel_rfl) (by kernel_rfl) (by kernel_rfl) (fun _ _ _ h => h) (Or.inl ⟨by rfl, ?_⟩) HS0 ?_
                    rotate_left
                    (intro w' hSw'; have ⟨_, _⟩ := hSw'; go_simp; try with_reducible rfl)
                    try simp only [Act.put, List.setIfInBounds_toArray, List.set_cons_zero, List.set_cons_succ, List.getElem_toArray, List.getElem_cons_zero, List.getElem_cons_succ]
                    refine wpAnyG_take (i := 1) (v := ?_) rfl (by kernel_rfl) (by kernel_rfl) (by kernel_rfl) (by kernel_rfl) (fun _ _ _ h => h) (Or.inl ⟨by rfl, ?_⟩) HS0 ?_
                    rotate_left
                    (intro w' hSw'; have ⟨_, _⟩ := hSw'; go_simp; try with_reducible rfl)
                    try simp only [Act.put, List.setIfInBounds_toArray, List.set_cons_zero, List.set_cons_succ, List.getElem_toArray, List.getElem_cons_zero, List.getElem_cons_succ]
                    refine wpAnyG_take (i := 2) (v := ?_) rfl (by kernel_rfl) (by kernel_rfl) (by kernel_rfl) (by kernel_rfl) (fun _ _ _ h => h) (Or.inl ⟨by rfl, ?_⟩) HS0 ?_
                    rotate_left
                    (intro w' hSw'; have ⟨_, _⟩ := hSw'; go_simp; try with_reducible rfl)
                    try simp only [Act.put, List.setIfInBounds_toArray, List.set_cons_zero, List.set_cons_succ, List.getElem_toArray, List.getElem_cons_zero, List.getElem_cons_succ]
                    refine wpAnyG_take (i := 3) (v := ?_) rfl (by kernel_rfl) (by kernel_rfl) (by kernel_rfl) (by kernel_rfl) (fun _ _ _ h => h) (Or.inl ⟨by rfl, ?_⟩) HS0 ?_
                    rotate_left
                    (intro w' hSw'; have ⟨_, _⟩ := hSw'; go_simp; try with_reducible rfl)
                    try simp only [Act.put, List.setIfInBounds_toArray, List.set_cons_zero, List.set_cons_succ, List.getElem_toArray, List.getElem_cons_zero, List.getElem_cons_succ]
                    refine wpAnyG_take (i := 4) (v := ?_) rfl (by kernel_rfl) (by kernel_rfl) (by kernel_rfl) (by kernel_rfl) (fun _ _ _ h => h) (Or.inl ⟨by rfl, ?_⟩) HS0 ?_
                    rotate_left
                    (intro w' hSw'; have ⟨_, _⟩ := hSw'; go_simp; try with_reducible rfl)
                    try simp only [Act.put, List.setIfInBounds_toArray, List.set_cons_zero, List.set_cons_succ, List.getElem_toArray, List.getElem_cons_zero, List.getElem_cons_succ]
                    refine wpAnyG_take (i := 5) (v := ?_) rfl (by kernel_rfl) (by kernel_rfl) (by kernel_rfl) (by kernel_rfl) (fun _ _ _ h => h) (Or.inl ⟨by rfl, ?_⟩) HS0 ?_
                    rotate_left
                    (intro w' hSw'; have ⟨_, _⟩ := hSw'; go_simp; try with_reducible rfl)
                    try simp only [Act.put, List.setIfInBounds_toArray, List.set_cons_zero, List.set_cons_succ, List.getElem_toArray, List.getElem_cons_zero, List.getElem_cons_succ]
                    refine wpAnyG_take (i := 6) (v := ?_) rfl (by kernel_rfl) (by kernel_rfl) (by kernel_rfl) (by kernel_rfl) (fun _ _ _ h => h) (Or.inl ⟨by rfl, ?_⟩) HS0 ?_
                    rotate_left
                    (intro w' hSw'; have ⟨_, _⟩ := hSw'; go_simp; try with_reducible rfl)
                    try simp only [Act.put, List.setIfInBounds_toArray, List.set_cons_zero, List.set_cons_succ, List.getElem_toArray, List.getElem_cons_zero, List.getElem_cons_succ]
                    refine wpAnyG_take (i := 7) (v := ?_) rfl (by kernel_rfl) (by kernel_rfl) (by kernel_rfl) (by kernel_rfl) (fun _ _ _ h => h) (Or.inl ⟨by rfl, ?_⟩) HS0 ?_
                    rotate_left
                    (intro w' hSw'; have ⟨_, _⟩ := hSw'; go_simp; try with_reducible rfl)
                    try simp only [Act.put, List.setIfInBounds_toArray, List.set_cons_zero, List.set_cons_succ, List.getElem_toArray, List.getElem_cons_zero, List.getElem_cons_succ]
                    refine wpAnyG_take (i := 8) (v := ?_) rfl (by kernel_rfl) (by kernel_rfl) (by kernel_rfl) (by kernel_rfl) (fun _ _ _ h => h) (Or.inl ⟨by rfl, ?_⟩) HS0 ?_
                    rotate_left
                    (intro w' hSw'; have ⟨_, _⟩ := hSw'; go_simp; try with_reducible rfl)
                    try simp only [Act.put, List.setIfInBounds_toArray, List.set_cons_zero, List.set_cons_succ, List.getElem_toArray, List.getElem_cons_zero, List.getElem_cons_succ]
                    refine wpAnyG_take (i := 9) (v := ?_) rfl (by kernel_rfl) (by kernel_rfl) (by kernel_rfl) (by kernel_rfl) (fun _ _ _ h => h) (Or.inl ⟨by rfl, ?_⟩) HS0 ?_
                    rotate_left
                    (intro w' hSw'; have ⟨_, _⟩ := hSw'; go_simp; try with_reducible rfl)
                    try simp only [Act.put, List.setIfInBounds_toArray, List.set_cons_zero, List.set_cons_succ, List.getElem_toArray, List.getElem_cons_zero, List.getElem_cons_succ]
                    refine wpAnyG_take (i := 10) (v := ?_) rfl (by kernel_rfl) (by kernel_rfl) (by kernel_rfl) (by kernel_rfl) (fun _ _ _ h => h) (Or.inl ⟨by rfl, ?_⟩) HS0 ?_
                    rotate_left
                    (intro w' hSw'; have ⟨_, _⟩ := hSw'; go_simp; try with_reducible rfl)
                    try simp only [Act.put, List.setIfInBounds_toArray, List.set_cons_zero, List.set_cons_succ, List.getElem_toArray, List.getElem_cons_zero, List.getElem_cons_succ]
                    refine wpAnyG_take (i := 11) (v := ?_) rfl (by kernel_rfl) (by kernel_rfl) (by kernel_rfl) (by kernel_rfl) (fun _ _ _ h => h) (Or.inl ⟨by rfl, ?_⟩) HS0 ?_
                    rotate_left
                    (intro w' hSw'; have ⟨_, _⟩ := hSw'; go_simp; try with_reducible rfl)
                    try simp only [Act.put, List.setIfInBounds_toArray, List.set_cons_zero, List.set_cons_succ, List.getElem_toArray, List.getElem_cons_zero, List.getElem_cons_succ]
                    refine wpAnyG_take (i := 12) (v := ?_) rfl (by kernel_rfl) (by kernel_rfl) (by kernel_rfl) (by kernel_rfl) (fun _ _ _ h => h) (Or.inl ⟨by rfl, ?_⟩) HS0 ?_
                    rotate_left
                    (intro w' hSw'; have ⟨_, _⟩ := hSw'; go_simp; try with_reducible rfl)
                    try simp only [Act.put, List.setIfInBounds_toArray, List.set_cons_zero, List.set_cons_succ, List.getElem_toArray, List.getElem_cons_zero, List.getElem_cons_succ]
                    refine wpAnyG_take (i := 13) (v := ?_) rfl (by kernel_rfl) (by kernel_rfl) (by kernel_rfl) (by kernel_rfl) (fun _ _ _ h => h) (Or.inl ⟨by rfl, ?_⟩) HS0 ?_
                    rotate_left
                    (intro w' hSw'; have ⟨_, _⟩ := hSw'; go_simp; try with_reducible rfl)
                    try simp only [Act.put, List.setIfInBounds_toArray, List.set_cons_zero, List.set_cons_succ, List.getElem_toArray, List.getElem_cons_zero, List.getElem_cons_succ]
                    refine wpAnyG_take (i := 14) (v := ?_) rfl (by kernel_rfl) (by kernel_rfl) (by kernel_rfl) (by kernel_rfl) (fun _ _ _ h => h) (Or.inl ⟨by rfl, ?_⟩) HS0 ?_
                    rotate_left
                    (intro w' hSw'; have ⟨_, _⟩ := hSw'; go_simp; try with_reducible rfl)
                    try simp only [Act.put, List.setIfInBounds_toArray, List.set_cons_zero, List.set_cons_succ, List.getElem_toArray, List.getElem_cons_zero, List.getElem_cons_succ]
                    refine wpAnyG_take (i := 15) (v := ?_) rfl (by kernel_rfl) (by kernel_rfl) (by kernel_rfl) (by kernel_rfl) (fun _ _ _ h => h) (Or.inl ⟨by rfl, ?_⟩) HS0 ?_
                    rotate_left
                    (intro w' hSw'; have ⟨_, _⟩ := hSw'; go_simp; try with_reducible rfl)
                    try simp only [Act.put, List.setIfInBounds_toArray, List.set_cons_zero, List.set_cons_succ, List.getElem_toArray, List.getElem_cons_zero, List.getElem_cons_succ]
                    refine wpAnyG_ready (rs := [16]) (by kernel_rfl) (by simp) ?_
                    refine AllG.cons rfl (ph' := false) (by kernel_rfl) (fun K hK => ?_) AllG.nil
                    refine step_append_run rfl (.tmp 98) (.tmp 101) #[32, 32] rfl _ _ _ _ rfl rfl hrun ?_
                    refine hK.out _ _ (fun _ => HS1) ?_
                    clear hK K
                    try simp only [Act.put, List.setIfInBounds_toArray, List.set_cons_zero, List.set_cons_succ, List.getElem_toArray, List.getElem_cons_zero, List.getElem_cons_succ]
                    refine wpAnyG_takeU (i := 17) (v := ?_) rfl (by kernel_rfl) (by kernel_rfl) (by kernel_rfl) (by kernel_rfl) (fun _ _ _ h => h) (Or.inl ⟨by rfl, ?_⟩) (fun _ => HS1) ?_
                    rotate_left
                    (intro w' hSw'; go_simp; try with_reducible rfl)
                    try simp only [Act.put, List.setIfInBounds_toArray, List.set_cons_zero, List.set_cons_succ, List.getElem_toArray, List.getElem_cons_zero, List.getElem_cons_succ]
                    refine wpAnyG_takeU (i := 18) (v := ?_) rfl (by kernel_rfl) (by kernel_rfl) (by kernel_rfl) (by kernel_rfl) (fun _ _ _ h => h) (Or.inl ⟨by rfl, ?_⟩) (fun _ => HS1) ?_
                    rotate_left
                    (intro w' hSw'; go_simp; try with_reducible rfl)
                    try simp only [Act.put, List.setIfInBounds_toArray, List.set_cons_zero, List.set_cons_succ, List.getElem_toArray, List.getElem_cons_zero, List.getElem_cons_succ]
                    refine wpAnyG_ready (rs := [19]) (by kernel_rfl) (by simp) ?_
                    refine AllG.cons rfl (ph' := true) (by kernel_rfl) (fun K hK => ?_) AllG.nil
                    go_simp
                    refine hK.out _ _ (fun h => by cases h) ?_
                    clear hK K
                    try simp only [Act.put, List.setIfInBounds_toArray, List.set_cons_zero, List.set_cons_succ, List.getElem_toArray, List.getElem_cons_zero, List.getElem_cons_succ]
                    refine wpAnyG_done (by kernel_rfl) ?_ _
                    clear HS0 HS1 hrun k0 k1 kf
                    go_wp2_with fail
                    go_roundg (0)
                    case measure => omega
                    case rel => exact ⟨a2, _, _, _, _, false, _, _, _, rfl, rfl, rfl, by simp, HN3, Lib.hid (by rw [DM.get_put]; simp), HNX⟩
end Go.Proofs.YtjnhkepgoghogaaDoor
