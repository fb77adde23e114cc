/- espalierref02: Remove, Truncate, Rename. -/
import Derived.Test.YtjnhkepgoghogaaDoorRfdC
import Derived.StillTailTactics
namespace Go.Proofs.YtjnhkepgoghogaaDoor
open Go.RowKit Go.ChangeMaps Go.MapKept
set_option linter.unusedSimpArgs false

/-- How a call of the document's disk ends. -/
def EndR (w : World) (b : Nat) (fv : Value) (S : List FileM) (r : Int) (D' : DM) (e : Ending) (w' : World) : Prop :=
  e = .returned (.int .i64 r) ∧ ∃ fv' S', RefAt w' b fv' S' D' ∧ Kept (refF b fv S) w w' ∧ ∀ k, refF b fv' S' k → refF b fv S k ∨ w.heap.size ≤ k
theorem EndR.same {w w' : World} {b : Nat} {fv : Value} {S : List FileM} {D : DM} {r : Int} {e : Ending} (h : RefAt w b fv S D) (he : e = .returned (.int .i64 r)) (hk : Kept (fun _ => False) w w') : EndR w b fv S r D e w' :=
  ⟨he, fv, S, h.kept hk (fun _ _ f => f), hk.mono (fun _ _ f => f.elim), fun _ e => .inl e⟩
theorem find_cases {w : World} {b : Nat} {fv : Value} {S : List FileM} {D : DM} (h : RefAt w b fv S D) {s : ByteArray} {r : Int} (hr : FirstIn S (fun p => p.name = s) r) :
    (r = -1 ∧ getA s D.files = none) ∨ ∃ k, ∃ hk : k < S.length, r = (k : Int) ∧ S[k].name = s ∧ getA s D.files = some S[k].bytes ∧ ∀ i (hi : i < S.length), i < k → S[i].name ≠ s := by
  rcases hr with ⟨h1, h2⟩ | ⟨k, hk, h1, h2, h3⟩
  · exact .inl ⟨h1, by rw [h.sync]; exact getA_filesD_none h2⟩
  · exact .inr ⟨k, hk, h1, h2, by rw [h.sync]; exact (filesD_at hk h2 h3).1, h3⟩
theorem DM.raw_files {D D' : DM} (h : D.raw = some D') : D'.files = D.files := by
  unfold DM.raw at h
  split at h
  · split at h
    · cases h
    · cases h; rfl
  · cases h; rfl

theorem rremove_any {w : World} {b : Nat} {fv : Value} {S : List FileM} {D : DM} (h : RefAt w b fv S D) (s : ByteArray) (hw : D.writes < 2305843009213693952) :
    Calls Tryd.prog 43 #[.pointer (some ⟨b, 0, none⟩), .string s] w (EndR w b fv S (D.remove s).1 (D.remove s).2) := by
  have H := Lib.hid h
  have HW := Lib.hid hw
  clear hw
  have hF := rfind_any h s
  clear h
  go_enter Tryd.func43, Tryd.ntmps43
  go_wp2_with fail
  refine hF.mono ?_
  rintro e w1 ⟨⟨r, rfl, hr⟩, hk1⟩
  clear hF
  have H1 := Lib.hid (H.out.kept hk1 (fun _ _ f => f))
  rcases find_cases H.out hr with ⟨rfl, hg⟩ | ⟨k, hk, rfl, -, hg, -⟩
  · have HR : Hid (EndR w b fv S (D.remove s).1 (D.remove s).2 (.returned (.int .i64 4)) w1) := Lib.hid (by unfold DM.remove; rw [if_pos hg]; exact EndR.same H.out rfl hk1)
    clear hg hr hk1
    go_wp2_with fail
    go_ret
    exact HR.out
  · have HG := Lib.hid hg
    have HK1 := Lib.hid hk1
    have hwr := rwrite_any H1.out (by have := HW.out; omega)
    clear hg hr hk1
    have hDR : Hid (D.remove s = match D.raw with | none => (6, D) | some D' => (0, D'.del s)) := Lib.hid (by unfold DM.remove; rw [if_neg (by rw [HG.out]; simp)]; cases D.raw <;> rfl)
    cases hraw : D.raw with
    | none =>
      rw [hraw] at hwr
      have HD : Hid (D.remove s = (6, D)) := Lib.hid (by rw [hDR.out, hraw])
      clear hraw
      go_wp2_with fail
      refine hwr.mono ?_
      rintro e w2 ⟨rfl, rfl⟩
      go_wp2_with fail
      go_ret
      rw [HD.out]
      exact EndR.same H.out rfl HK1.out
    | some D' =>
      rw [hraw] at hwr
      have HD : Hid (D.remove s = (0, D'.del s)) := Lib.hid (by rw [hDR.out, hraw])
      clear hraw
      go_wp2_with fail
      refine hwr.mono ?_
      rintro e w2 ⟨rfl, h2, hk2⟩
      have hT := rtake_any h2 s
      have HK2 : Hid (Kept (refF b fv S) w w2) := Lib.hid ((HK1.out.mono (fun _ _ f => f.elim)).trans hk2 (fun _ _ e => .inl e))
      clear h2 hwr hk2
      go_wp2_with fail
      refine hT.mono ?_
      rintro e w3 ⟨rfl, ⟨fv', h3, hnew⟩, hk3⟩
      have HE : Hid (EndR w b fv S 0 (D'.del s) (.returned (.int .i64 0)) w3) := Lib.hid ⟨rfl, fv', _, h3, HK2.out.trans hk3 (fun _ _ e => .inl e), fun k e => by
        rcases e with rfl | e | ⟨p, hp, e⟩
        · exact .inl (.inl rfl)
        · exact .inr (Nat.le_trans HK2.out.size (hnew k e))
        · exact .inl (.inr (.inr ⟨p, (List.mem_filter.1 hp).1, e⟩))⟩
      clear h3 hnew hk3 hT
      go_wp2_with fail
      go_ret
      rw [HD.out]
      exact HE.out

/-- One file's bytes are laid anew: its place in the row is set. -/
theorem RefAt.setB {w w' : World} {b : Nat} {S : List FileM} {D : DM} {g c k : Nat} (h : RefAt w b (.slice (some ⟨g, 0, none⟩) S.length c) S D) (hk : k < S.length) (hno : ∀ i (hi : i < S.length), i < k → S[i].name ≠ S[k].name) (v : Value) (x : List UInt8)
    (hkw : Kept (fun i => S[k].bv.ownBlock = some i) w w') (hv : OwnB w' v x) (hvb : ∀ i, v.ownBlock = some i → S[k].bv.ownBlock = some i ∨ w.heap.size ≤ i) (hx : x.length ≤ 4194304) :
    RefAt (w'.setCell ⟨g, k * 2 + 1, none⟩ v) b (.slice (some ⟨g, 0, none⟩) S.length c) (S.set k ⟨S[k].name, v, x⟩) (D.put S[k].name x) ∧ Kept (refF b (.slice (some ⟨g, 0, none⟩) S.length c) S) w (w'.setCell ⟨g, k * 2 + 1, none⟩ v) ∧ ∀ i, refF b (.slice (some ⟨g, 0, none⟩) S.length c) (S.set k ⟨S[k].name, v, x⟩) i → refF b (.slice (some ⟨g, 0, none⟩) S.length c) S i ∨ w.heap.size ≤ i := by
  obtain ⟨n1, n2, n3⟩ := h.ne
  have hmem : S[k] ∈ S := List.getElem_mem hk
  have hgb : g ≠ b := fun e => n1 (by rw [e]; rfl)
  have hkc := keptCellR w' g (k * 2 + 1) v
  have hlt : ∀ i, refF b (.slice (some ⟨g, 0, none⟩) S.length c) S i → i < w.heap.size := h.lt
  have hbg : ∀ p ∈ S, p.bv.ownBlock ≠ some g := n3 g rfl
  have hother : ∀ i (hi : i < S.length), i ≠ k → ∀ q, S[i].bv.ownBlock = some q → S[k].bv.ownBlock ≠ some q := fun i hi hik q e e2 => by
    rcases Nat.lt_or_ge i k with hl | hl
    · exact List.pairwise_iff_getElem.1 h.apart i k hi hk hl q e e2
    · exact List.pairwise_iff_getElem.1 h.apart k i hk hi (by omega) q e2 e
  refine ⟨⟨?_, ?_, ?_, ?_, ?_, ?_⟩, ?_, ?_⟩
  · exact (hkc.block b (Nat.lt_of_lt_of_le (hlt b (.inl rfl)) hkw.size) (fun e => hgb e.symm)).trans ((hkw.block b (hlt b (.inl rfl)) (n2 _ hmem)).trans h.cell)
  · have h1 := h.row.keptF hkw (fun i e => by cases e; exact hbg _ hmem)
    rw [show OwnF 0 (w'.setCell ⟨g, k * 2 + 1, none⟩ v) (.slice (some ⟨g, 0, none⟩) S.length c) (S.set k ⟨S[k].name, v, x⟩) = _ from rfl]
    exact h1.setAt (k * 2 + 1) v (by simp) (cellsF_set1 S hk v x)
  · show putA S[k].name x D.files = _
    rw [h.sync]
    exact (filesD_at hk rfl hno).2.1 v x
  · intro p hp
    obtain ⟨i, hi, rfl⟩ := List.getElem_of_mem hp
    rw [List.length_set] at hi
    rw [List.getElem_set]
    split
    · exact hv.kept (fun i e => hkc.block i (hv.lt i e) (fun e2 => by
        subst e2
        rcases hvb _ e with e | e
        · exact hbg _ hmem e
        · have := hlt i (.inr (.inl rfl)); omega))
    · rename_i hne
      have ho := h.own _ (List.getElem_mem hi)
      have ho' : OwnB w' S[i].bv S[i].bytes := ho.kept (fun q e => hkw.block q (ho.lt q e) (fun e2 => hother i hi (fun f => hne f.symm) q e e2))
      exact ho'.kept (fun q e => hkc.block q (ho'.lt q e) (fun e2 => by subst e2; exact hbg _ (List.getElem_mem hi) e))
  · rw [List.pairwise_iff_getElem]
    intro i j hi hj hij q
    rw [List.length_set] at hi hj
    rw [List.getElem_set, List.getElem_set]
    have hvo : ∀ m (hm : m < S.length), m ≠ k → v.ownBlock = some q → S[m].bv.ownBlock = some q → False := fun m hm hmk e e2 => by
      rcases hvb q e with e3 | e3
      · exact hother m hm hmk q e2 e3
      · have := (h.own _ (List.getElem_mem hm)).lt q e2; omega
    split
    · rename_i hik
      split
      · omega
      · intro e e2; exact hvo j hj (by omega) e e2
    · rename_i hik
      split
      · intro e e2; exact hvo i hi (by omega) e2 e
      · exact List.pairwise_iff_getElem.1 h.apart i j hi hj hij q
  · refine DM.put_ok h.ok ?_ hx (fun e => ?_)
    · have hm : (S[k].name, S[k].bytes) ∈ D.files := by rw [h.sync]; exact List.mem_map_of_mem hmem
      exact (h.ok.names _ hm).1
    · rw [h.sync, (filesD_at hk rfl hno).1] at e; cases e
  · exact (hkw.mono (fun i _ e => .inr (.inr ⟨_, hmem, e⟩))).trans hkc (fun i _ e => .inr (.inl (by rw [e]; rfl)))
  · rintro i (rfl | e | ⟨p, hp, e⟩)
    · exact .inl (.inl rfl)
    · exact .inl (.inr (.inl e))
    · obtain ⟨j, hj, rfl⟩ := List.getElem_of_mem hp
      rw [List.length_set] at hj
      rw [List.getElem_set] at e
      split at e
      · rcases hvb i e with e | e
        · exact .inl (.inr (.inr ⟨_, hmem, e⟩))
        · exact .inr e
      · exact .inl (.inr (.inr ⟨_, List.getElem_mem hj, e⟩))

/-- A slice that is cut short owns what is left. -/
theorem OwnB.cutTo {w : World} {a : Option Addr} {n c : Nat} {bs : List UInt8} (h : OwnB w (.slice a n c) bs) {m : Nat} (hm : m ≤ bs.length) : OwnB w (.slice a m c) (bs.take m) := by
  obtain ⟨h1, h2⟩ := h
  refine ⟨by simp, ?_⟩
  have hl : (bs.take m).length = m := by rw [List.length_take]; omega
  rcases h2 with ⟨e, h0⟩ | ⟨g, c', cur, e, hb, hg, hn, hmx, hs, ht⟩
  · cases e; exact .inl ⟨by rw [show m = 0 from by omega], by omega⟩
  · cases e
    refine .inr ⟨g, c, cur, by rw [hl], hb, hg, by omega, hmx, hs, ?_⟩
    rw [hl]
    have e1 : bytesV (bs.take m) = (bytesV bs).take m := by simp [bytesV]
    rw [e1, ← ht, List.take_take, Nat.mul_one, Nat.mul_one, Nat.min_eq_left hm]
theorem DM.trunc_cases (D : DM) (s : ByteArray) (x : List UInt8) (n : Int) (hg : getA s D.files = some x) :
    ((n < 0 ∨ (x.length : Int) < n) → D.truncate s n = (2, D)) ∧ (n = x.length → D.truncate s n = (0, D)) ∧
    (¬ (n < 0 ∨ (x.length : Int) < n) → n ≠ x.length → (D.raw = none → D.truncate s n = (6, D)) ∧ ∀ D', D.raw = some D' → D.truncate s n = (0, D'.put s (x.take n.toNat))) := by
  have hb : D.bytes s = x := by unfold DM.bytes; rw [hg]; rfl
  refine ⟨fun h => ?_, fun h => ?_, fun h h2 => ⟨fun h3 => ?_, fun D' h3 => ?_⟩⟩
  · unfold DM.truncate; rw [if_neg (by rw [hg]; simp), hb, if_pos h]
  · unfold DM.truncate; rw [if_neg (by rw [hg]; simp), hb, if_neg (by omega), if_pos h]
  · unfold DM.truncate; rw [if_neg (by rw [hg]; simp), hb, if_neg h, if_neg h2, h3]
  · unfold DM.truncate; rw [if_neg (by rw [hg]; simp), hb, if_neg h, if_neg h2, h3]
set_option maxRecDepth 100000 in
set_option maxHeartbeats 1000000 in
theorem rtruncate_any {w : World} {b : Nat} {fv : Value} {S : List FileM} {D : DM} (h : RefAt w b fv S D) (s : ByteArray) (n : Int) (hn1 : -9223372036854775808 ≤ n) (hn2 : n ≤ 9223372036854775807) (hw : D.writes < 2305843009213693952) :
    Calls Tryd.prog 39 #[.pointer (some ⟨b, 0, none⟩), .string s, .int .i64 n] w (EndR w b fv S (D.truncate s n).1 (D.truncate s n).2) := by
  have H := Lib.hid h
  have HW := Lib.hid hw
  clear hw
  have hF := rfind_any h s
  clear h
  go_enter Tryd.func39, Tryd.ntmps39
  go_wp2_with fail
  refine hF.mono ?_
  rintro e w1 ⟨⟨r, rfl, hr⟩, hk1⟩
  clear hF
  have H1 := Lib.hid (H.out.kept hk1 (fun _ _ f => f))
  rcases find_cases H.out hr with ⟨rfl, hg⟩ | ⟨k, hk, rfl, hks, hg, hno⟩
  · have HR : Hid (EndR w b fv S (D.truncate s n).1 (D.truncate s n).2 (.returned (.int .i64 4)) w1) := Lib.hid (by unfold DM.truncate; rw [if_pos hg]; exact EndR.same H.out rfl hk1)
    clear hg hr hk1
    go_wp2_with fail
    go_ret
    exact HR.out
  · obtain ⟨g, c, hfv, q0, q1, -⟩ := H1.out.row.at hk
    subst hfv
    obtain ⟨va, vc, hv, hvc, -⟩ := (H.out.own _ (List.getElem_mem hk)).form
    have c0 := H1.out.c.1
    obtain ⟨sn, hsn⟩ : ∃ n, S.length = n := ⟨_, rfl⟩
    obtain ⟨m, hm⟩ : ∃ m, S[k].bytes.length = m := ⟨_, rfl⟩
    rw [hm] at hv hvc
    rw [hv] at q1
    have hsk : k < sn := by omega
    have hcnt : sn ≤ 256 := by have := H.out.ok.count; have := H.out.len; omega
    have hm4 : m ≤ 4194304 := by
      have h1 := DM.bytes_le H.out.ok s
      unfold DM.bytes at h1
      rw [hg] at h1
      simpa [hm] using h1
    have HG : Hid (getA s D.files = some S[k].bytes) := Lib.hid hg
    have HB : Hid (D.bytes s = S[k].bytes) := Lib.hid (by unfold DM.bytes; rw [hg]; rfl)
    have HM := Lib.hid hm
    have HV := Lib.hid hv
    have HS := Lib.hid hks
    have HNO := Lib.hid hno
    have HK1 := Lib.hid hk1
    have HSN := Lib.hid hsn
    rw [hsn] at c0
    have HTC := Lib.hid (DM.trunc_cases D s S[k].bytes n hg)
    rw [hm] at HTC
    clear hg hr hk1 hks hno hv hm hsn q0
    by_cases hbad : n < 0 ∨ (m : Int) < n
    · have HD : Hid (D.truncate s n = (2, D)) := Lib.hid (HTC.out.1 hbad)
      by_cases hn0 : n < 0
      · clear hbad
        go_wp2_with fail
        go_ret
        rw [HD.out]
        exact EndR.same H.out rfl HK1.out
      · have hmn : (m : Int) < n := hbad.resolve_left hn0
        clear hbad
        go_wp2_with fail
        go_ret
        rw [HD.out]
        exact EndR.same H.out rfl HK1.out
    · obtain ⟨j, rfl⟩ : ∃ j : Nat, n = j := ⟨n.toNat, by omega⟩
      have hjm : j ≤ m := by omega
      have hj0 : ¬ (j : Int) < 0 := by omega
      have hjl : ¬ (m : Int) < (j : Int) := by omega
      have hjc : j ≤ vc := by omega
      have hjc2 : (j : Int) ≤ (vc : Int) := by omega
      have hj02 : (0 : Int) ≤ (j : Int) := by omega
      by_cases hje : j = m
      · have HD : Hid (D.truncate s j = (0, D)) := Lib.hid (HTC.out.2.1 (by omega))
        have hjb : ((j : Int) == (m : Int)) = true := by simp [hje]
        clear hbad
        subst hje
        go_wp2_with fail
        go_ret
        rw [HD.out]
        exact EndR.same H.out rfl HK1.out
      · have hjb : ((j : Int) == (m : Int)) = false := by simp; omega
        have hwr := rwrite_any H1.out (by have := HW.out; omega)
        rw [HSN.out] at hwr
        have hDR2 := Lib.hid (HTC.out.2.2 hbad (by omega))
        clear hbad HTC
        cases hraw : D.raw with
        | none =>
          rw [hraw] at hwr
          have HD : Hid (D.truncate s j = (6, D)) := Lib.hid (hDR2.out.1 hraw)
          clear hraw
          go_wp2_with fail
          refine hwr.mono ?_
          rintro e w2 ⟨rfl, rfl⟩
          clear hwr
          go_wp2_with fail
          go_ret
          rw [HD.out]
          exact EndR.same H.out rfl HK1.out
        | some D' =>
          rw [hraw] at hwr
          have HD : Hid (D.truncate s j = (0, D'.put s (S[k].bytes.take j))) := Lib.hid (hDR2.out.2 D' hraw)
          have HF : Hid (D'.files = D.files) := Lib.hid (DM.raw_files hraw)
          clear hraw
          go_wp2_with fail
          refine hwr.mono ?_
          rintro e w2 ⟨rfl, h2, hk2⟩
          clear hwr
          have H2 := Lib.hid h2
          rw [← HSN.out] at h2
          obtain ⟨g', c', e1, q2, q3, qf⟩ := h2.row.at hk
          cases e1
          have d0 := h2.c.1
          rw [HSN.out] at d0
          rw [HV.out] at q3
          have HK2 := Lib.hid hk2
          clear h2 hk2 q2 qf q1 c0
          go_wp2_with fail
          go_still_tail 17, (by kernel_rfl)
          change wpList _ _ _ _ _ w2.drew
          generalize hwe : w2.drew = we
          have hke : Kept (fun _ => False) w2 we := by rw [← hwe]; exact drew_kept w2
          have HE2 := H2.out.kept hke (fun _ _ f => f)
          rw [← HSN.out] at HE2
          obtain ⟨g', c', e1, z0, z1, zf⟩ := HE2.row.at hk
          cases e1
          rw [HV.out] at z1
          have z2 := zf (k * 2 + 1)
          have hown : OwnB we (.slice va m vc) S[k].bytes := by have h9 := HE2.own _ (List.getElem_mem hk); rwa [HV.out] at h9
          have hset := HE2.setB hk (fun i hi hik => by rw [HS.out]; exact HNO.out i hi hik) (.slice va j vc) (S[k].bytes.take j) ((Kept.refl _ _)) (hown.cutTo (by rw [HM.out]; exact hjm)) (fun i e => .inl (by rw [HV.out]; cases va <;> exact e)) (by rw [List.length_take, HM.out]; omega)
          rw [HS.out] at hset
          have HSET := Lib.hid hset
          have HKE : Hid (Kept (refF b (.slice (some ⟨g, 0, none⟩) S.length c) S) w we) := Lib.hid (((HK1.out.mono (fun _ _ f => f.elim)).trans HK2.out (fun _ _ e => .inl e)).trans (hke.mono (fun _ _ f => f.elim)) (fun _ _ e => e))
          clear hset hown HE2 z0 zf hke hwe d0 q3
          go_wp2_with fail
          go_ret
          rw [HD.out]
          exact ⟨rfl, _, _, HSET.out.1, HKE.out.trans HSET.out.2.1 (fun _ _ e => e), fun i e => (HSET.out.2.2 i e).imp id (fun h => Nat.le_trans HKE.out.size h)⟩
end Go.Proofs.YtjnhkepgoghogaaDoor
