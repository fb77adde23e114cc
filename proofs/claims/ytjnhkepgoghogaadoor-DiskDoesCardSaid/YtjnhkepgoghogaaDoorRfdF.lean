/- espalierref02: Copy. -/
import Derived.Test.YtjnhkepgoghogaaDoorRfdE
namespace Go.Proofs.YtjnhkepgoghogaaDoor
open Go.RowKit Go.ChangeMaps Go.MapKept
set_option linter.unusedSimpArgs false

/-- What a copy has of the first files. -/
structure RCopy (n0 : Nat) (w : World) (b : Nat) (fv : Value) (S : List FileM) (k : Nat) (T : List FileM) : Prop where
  ref : RefAt w b fv T ⟨filesD (S.take k), 0, 0, false⟩
  len : T.length = k
  new : ∀ i, refF b fv T i → n0 ≤ i
theorem RCopy.keptN {n0 : Nat} {w w' : World} {b : Nat} {fv : Value} {S T : List FileM} {k : Nat} (h : RCopy n0 w b fv S k T) (hk : Kept (fun _ => False) w w') : RCopy n0 w' b fv S k T := ⟨h.ref.kept hk (fun _ _ f => f), h.len, h.new⟩
theorem nodup_take {S : List FileM} (k : Nat) (h : NodupA (filesD S)) : NodupA (filesD (S.take k)) := by
  unfold NodupA filesD at *
  rw [List.map_map] at *
  rw [List.map_take]
  exact h.sublist (List.take_sublist _ _)
set_option maxRecDepth 100000 in
/-- One file more: its bytes are copied, the file is appended, the row is laid. -/
theorem RCopy.step {n0 : Nat} {w : World} {b : Nat} {fv : Value} {S T : List FileM} {k : Nat} (h : RCopy n0 w b fv S k T) (hk : k < S.length) (hn : NodupA (filesD S)) (hcnt : S.length ≤ 256) (hm : mayB S[k].name = true) (hl : S[k].bytes.length ≤ 4194304) (hn0 : n0 ≤ w.heap.size)
    (v2 : Value) (hp : IsB w v2 S[k].bytes) :
    ∃ v' w2 fv' w4, (Builtin.append_ #[32, 32] 32 #[.slice (some ⟨w.heap.size, 0, none⟩) 0 0, v2]).run Tryd.prog (w.alloc (.cells #[] 5)) = .ok v' w2 ∧
      (Builtin.append_ #[71, 71] 71 #[fv, .slice (some ⟨w2.heap.size, 0, none⟩) 1 1]).run Tryd.prog (w2.alloc (.cells #[.string S[k].name, v'] 76)) = .ok fv' w4 ∧
      (∃ a n c, v' = .slice a n c) ∧ (∃ a n c, fv' = .slice a n c) ∧ Kept (fun _ => False) w w2 ∧ Kept (fun i => fv.ownBlock = some i) w w4 ∧ RCopy n0 (w4.setCell ⟨b, 0, none⟩ fv') b fv' S (k + 1) (T ++ [⟨S[k].name, v', S[k].bytes⟩]) ∧ Kept (fun i => n0 ≤ i) w (w4.setCell ⟨b, 0, none⟩ fv') := by
  have hlt := h.ref.lt
  have hb := hlt b (.inl rfl)
  obtain ⟨W1, hW1⟩ : ∃ W, w.alloc (.cells #[] 5) = W := ⟨_, rfl⟩
  have hk1 : Kept (fun _ => False) w W1 := by rw [← hW1]; exact (Kept.refl _ _).alloc _
  have hs1 : W1.heap.size = w.heap.size + 1 := by rw [← hW1]; simp
  have hE : OwnB W1 (.slice (some ⟨w.heap.size, 0, none⟩) 0 0) [] := by rw [← hW1]; exact empty_new w
  obtain ⟨v', w2, hr1, hov, hg1, hvb, -⟩ := run_append_bytes W1 _ v2 [] S[k].bytes hE (hp.keptF hk1 (fun _ _ f => f)) (by simp only [List.length_nil, Nat.zero_add]; omega)
  rw [List.nil_append] at hov
  have hk2' : Kept (· = w.heap.size) W1 w2 := Kept.grown (Kept.refl _ _) hg1 (fun i e _ => by cases e; rfl)
  have hk2 : Kept (fun _ => False) w w2 := hk1.more hk2' (fun i e => Nat.le_of_eq e.symm)
  have hvb' : ∀ i, v'.ownBlock = some i → w.heap.size ≤ i := fun i e => by
    rcases hvb i e with e | ⟨e, -⟩
    · cases e; exact Nat.le_refl _
    · omega
  obtain ⟨W3, hW3⟩ : ∃ W, w2.alloc (.cells #[.string S[k].name, v'] 76) = W := ⟨_, rfl⟩
  have hk3 : Kept (fun _ => False) w2 W3 := by rw [← hW3]; exact (Kept.refl _ _).alloc _
  have hb3 : W3.heap[w2.heap.size]? = some (.cells #[.string S[k].name, v'] 76 (0, 0)) := by rw [← hW3]; exact heap_alloc_new _ _
  have hk13 : Kept (fun _ => False) w W3 := hk2.trans hk3 (fun _ _ f => f)
  obtain ⟨va, vc, hvf, -, -⟩ := hov.form
  have hrow := h.ref.row
  have hTl : T.length ≤ 256 := by have := h.len; omega
  obtain ⟨fv', w4, hr2, ho4, hk4, hfb⟩ := (hrow.keptF hk13 (fun _ _ f => f)).push (p := ⟨S[k].name, v', S[k].bytes⟩) (Nat.zero_le _) w2.heap.size hb3 ⟨_, _, _, hvf⟩ (by omega)
  have hk14 : Kept (fun i => fv.ownBlock = some i) w w4 := (hk13.mono (fun _ _ f => f.elim)).trans hk4 (fun _ _ e => e)
  have hfb' : ∀ i, fv'.ownBlock = some i → fv.ownBlock = some i ∨ w.heap.size ≤ i := fun i e => by
    rcases hfb with e2 | e2
    · exact .inl (e2 ▸ e)
    · rw [e2] at e; cases e; exact .inr hk13.size
  obtain ⟨n1, n2, n3⟩ := h.ref.ne
  have hkc := keptCellR w4 b 0 fv'
  have hlt4 : ∀ p ∈ T, ∀ g, p.bv.ownBlock = some g → g < w.heap.size := fun p hp g e => hlt g (.inr (.inr ⟨p, hp, e⟩))
  have hfl : ∀ g, fv.ownBlock = some g → g < w.heap.size := fun g e => hlt g (.inr (.inl e))
  refine ⟨v', w2, fv', w4, by rw [hW1]; exact hr1, by rw [hW3]; exact hr2, ⟨_, _, _, hvf⟩, ⟨_, _, _, ho4.form.choose_spec.choose_spec.1⟩, hk2, hk14, ⟨⟨?_, ?_, ?_, ?_, ?_, ?_⟩, by simp [h.len], ?_⟩, ?_⟩
  · exact heap_setCell_row ((hk14.block b hb n1).trans h.ref.cell) fv'
  · exact ho4.keptF hkc (fun g e e2 => by
      rcases hfb' g e with e3 | e3
      · exact n1 (by rw [e3, e2])
      · omega)
  · show filesD (S.take (k + 1)) = filesD (T ++ [_])
    have h9 : filesD (S.take k) = filesD T := h.ref.sync
    rw [List.take_succ_eq_append_getElem hk]
    unfold filesD at *
    rw [List.map_append, List.map_append, h9]
    rfl
  · intro p hp
    rcases List.mem_append.1 hp with hp | hp
    · have ho := h.ref.own p hp
      have ho4 : OwnB w4 p.bv p.bytes := ho.kept (fun g e => hk14.block g (hlt4 p hp g e) (fun e2 => n3 g e2 p hp e))
      exact ho4.kept (fun g e => hkc.block g (ho4.lt g e) (fun e2 => n2 p hp (by rw [e, e2])))
    · rw [List.mem_singleton.1 hp]
      have ho3 : OwnB W3 v' S[k].bytes := hov.kept (fun g e => hk3.block g (hov.lt g e) (fun f => f))
      have ho4 : OwnB w4 v' S[k].bytes := ho3.kept (fun g e => hk4.block g (ho3.lt g e) (fun e2 => by have := hfl g e2; have := hvb' g e; omega))
      exact ho4.kept (fun g e => hkc.block g (ho4.lt g e) (fun e2 => by have := hvb' g e; omega))
  · rw [List.pairwise_append]
    refine ⟨h.ref.apart, List.pairwise_singleton _ _, fun p hp q hq g e e2 => ?_⟩
    rw [List.mem_singleton.1 hq] at e2
    have := hlt4 p hp g e
    have := hvb' g e2
    omega
  · refine ⟨by simp, by simp, by simp, ?_, fun p hp => ?_, nodup_take (k + 1) hn⟩
    · show (filesD (S.take (k + 1))).length ≤ 256
      simp [filesD]; omega
    · have h9 : filesD (S.take (k + 1)) = filesD (S.take k) ++ [(S[k].name, S[k].bytes)] := by
        rw [List.take_succ_eq_append_getElem hk]; unfold filesD; rw [List.map_append]; rfl
      have hp' : p ∈ filesD (S.take k) ++ [(S[k].name, S[k].bytes)] := by rw [← h9]; exact hp
      rcases List.mem_append.1 hp' with hp | hp
      · exact h.ref.ok.names p hp
      · rw [List.mem_singleton.1 hp]; exact ⟨hm, hl⟩
  · rintro i (rfl | e | ⟨p, hp, e⟩)
    · exact h.new _ (.inl rfl)
    · rcases hfb' i e with e | e
      · exact h.new i (.inr (.inl e))
      · omega
    · rcases List.mem_append.1 hp with hp | hp
      · exact h.new i (.inr (.inr ⟨p, hp, e⟩))
      · rw [List.mem_singleton.1 hp] at e
        have := hvb' i e
        omega
  · exact (hk14.mono (fun i _ e => h.new i (.inr (.inl e)))).trans hkc (fun i _ e => by rw [e]; exact h.new b (.inl rfl))
set_option maxRecDepth 100000 in
set_option maxHeartbeats 1000000 in
theorem rcopy_any {w : World} {b : Nat} {fv : Value} {S : List FileM} {D : DM} (h : RefAt w b fv S D) :
    Calls Tryd.prog 12 #[.pointer (some ⟨b, 0, none⟩)] w fun e w' => (∃ b' fv' S', e = .returned (.pointer (some ⟨b', 0, none⟩)) ∧ RefAt w' b' fv' S' ⟨D.files, 0, 0, false⟩ ∧ ∀ i, refF b' fv' S' i → w.heap.size ≤ i) ∧ Kept (fun _ => False) w w' := by
  obtain ⟨a, c, rfl, h1, h2⟩ := h.row.form
  have H := Lib.hid h
  obtain ⟨n, hn⟩ : ∃ n, S.length = n := ⟨_, rfl⟩
  have HN := Lib.hid hn
  have hcnt := h.ok.count
  have hlen := h.len
  have hn2 : n ≤ 256 := by omega
  have hN := rnew_any w
  clear h h1 h2 hcnt hlen
  go_enter Tryd.func12, Tryd.ntmps12
  go_wp2_with fail
  refine hN.mono ?_
  rintro e w1 ⟨⟨b', rfl, hb', hR⟩, hk1⟩
  clear hN
  have c0 := (H.out.kept hk1 (fun _ _ f => f)).c.1
  rw [hn] at c0
  have HRC : Hid (RCopy w.heap.size w1 b' (.slice none 0 0) S 0 []) := Lib.hid ⟨hR, rfl, fun i e => by
    rcases e with rfl | e | ⟨p, hp, e⟩
    · exact hb'
    · cases e
    · simp at hp⟩
  have HK1 := Lib.hid hk1
  clear hR hk1 hn
  go_wp2_with fail
  go_loopg [12] n (fun g i wr => ∃ k fv' T, k + g = n ∧ i = .int .i64 k ∧ Hid (RCopy w.heap.size wr b' fv' S k T) ∧ Hid (Kept (fun _ => False) w wr))
  case atStart => exact ⟨0, _, _, by omega, rfl, HRC, HK1⟩
  case round =>
    clear c0 HRC
    obtain ⟨k, fv', T, hkg, rfl, HR, HK⟩ := hrel
    by_cases hlt : k < n
    · have hkl : k < S.length := by have := HN.out; omega
      have Hr := H.out.kept HK.out (fun _ _ f => f)
      obtain ⟨g, c', e, q1, q2, -⟩ := Hr.row.at hkl
      cases e
      obtain ⟨va, vc, hv, -, -⟩ := (H.out.own _ (List.getElem_mem hkl)).form
      obtain ⟨y, hy⟩ : ∃ y, S[k].name = y := ⟨_, rfl⟩
      obtain ⟨vn, hvn⟩ : ∃ vn, S[k].bytes.length = vn := ⟨_, rfl⟩
      have HY := Lib.hid hy
      have HV := Lib.hid hv
      have HVN := Lib.hid hvn
      rw [hvn] at hv
      rw [hv] at q2
      rw [hy] at q1
      clear hy hv hvn
      obtain ⟨W1, hW1⟩ : ∃ W, wr.alloc (.cells #[.string y, .slice va vn vc] 76) = W := ⟨_, rfl⟩
      have hkA : Kept (fun _ => False) wr W1 := by rw [← hW1]; exact (Kept.refl _ _).alloc _
      have hbA : W1.heap[wr.heap.size]? = some (.cells #[.string y, .slice va vn vc] 76 (0, 0)) := by rw [← hW1]; exact heap_alloc_new _ _
      have hkw1 : Kept (fun _ => False) w W1 := HK.out.trans hkA (fun _ _ f => f)
      have hkd : Kept (fun _ => False) W1 W1.drew := drew_kept W1
      have HRd := HR.out.keptN (hkA.trans hkd (fun _ _ f => f))
      have hIs : IsB W1.drew (.slice va vn vc) S[k].bytes := by
        have h9 := ((H.out.kept HK.out (fun _ _ f => f)).own _ (List.getElem_mem hkl)).isB
        rw [HV.out, HVN.out] at h9
        exact h9.keptF (hkA.trans hkd (fun _ _ f => f)) (fun _ _ f => f)
      have hfit : (S[k].name, S[k].bytes) ∈ D.files := by rw [H.out.sync]; exact List.mem_map_of_mem (List.getElem_mem hkl)
      have hnm := H.out.ok.names _ hfit
      obtain ⟨v', w2, fv2, w4, hr1, hr2, ⟨xa, xn, xc, rfl⟩, ⟨ya, yn, yc, rfl⟩, hk12, hk14, hRC, hkE⟩ := HRd.step hkl (by rw [← H.out.sync]; exact H.out.ok.nodup) (by rw [HN.out]; exact hn2) hnm.1 hnm.2 (hkw1.trans hkd (fun _ _ f => f)).size _ hIs
      rw [HY.out] at hr2
      rw [show W1.drew.heap.size = W1.heap.size from rfl] at hr1
      have HRC := Lib.hid hRC
      have HKE : Hid (Kept (fun _ => False) w (w4.setCell ⟨b', 0, none⟩ (.slice ya yn yc))) := Lib.hid ((hkw1.trans hkd (fun _ _ f => f)).more hkE (fun _ e => e))
      have hne := HRd.ref.ne.1
      have hbl : b' < wr.heap.size := HR.out.ref.lt b' (.inl rfl)
      have cA := HRd.ref.c.1
      have hA0 : W1.drew.cell? ⟨wr.heap.size, 0, none⟩ = some (.string y) := hkd.cell (by simp [World.cell?, hbA]) (fun f => f)
      have hA1 : W1.drew.cell? ⟨wr.heap.size, 1, none⟩ = some (.slice va vn vc) := hkd.cell (by simp [World.cell?, hbA]) (fun f => f)
      have HS0 : W1.drew.cell? ⟨b', 0, none⟩ = some fv' ∧ W1.drew.cell? ⟨wr.heap.size, 0, none⟩ = some (.string y) ∧ W1.drew.cell? ⟨wr.heap.size, 1, none⟩ = some (.slice va vn vc) := ⟨cA, hA0, hA1⟩
      have kS : ∀ (G : Nat → Prop) W, Kept G W1.drew W → ¬ G b' → ¬ G wr.heap.size → W.cell? ⟨b', 0, none⟩ = some fv' ∧ W.cell? ⟨wr.heap.size, 0, none⟩ = some (.string y) ∧ W.cell? ⟨wr.heap.size, 1, none⟩ = some (.slice va vn vc) := fun G W hk g1 g2 => ⟨hk.cell cA g1, hk.cell hA0 g2, hk.cell hA1 g2⟩
      have HS1 := kS _ (W1.drew.alloc (.cells #[] 5)) ((Kept.refl (fun _ => False) _).alloc _) (fun f => f) (fun f => f)
      have HS2 := kS _ w2 hk12 (fun f => f) (fun f => f)
      have HS3 := kS _ (w2.alloc (.cells #[.string y, .slice xa xn xc] 76)) (hk12.alloc _) (fun f => f) (fun f => f)
      have hnf : fv'.ownBlock ≠ some wr.heap.size := fun e => by have := (HR.out.ref.lt _ (.inr (.inl e))); omega
      have HS4 := kS _ w4 hk14 hne hnf
      have hc5 := HS4.1
      have hc4 : w4.frozen? ⟨b', 0, none⟩ = false := by
        have h9 := (hk14.block b' (HRd.ref.lt b' (.inl rfl)) hne).trans HRd.ref.cell
        simp [World.frozen?, h9]
      have hzf : ∀ w, (zeroValue 76).run Tryd.prog w = .ok (.agg #[.string { data := #[] }, .slice none 0 0]) w := fun _ => by kernel_rfl
      clear kS hRC hkE hne hbl cA hA0 hA1 hk12 hk14 hIs HRd hkw1 hkd hkA hbA hnf hnm hfit
      go_wp2_with fail
      refine wp_region_phase (fun W => W.cell? ⟨b', 0, none⟩ = some fv' ∧ W.cell? ⟨wr.heap.size, 0, none⟩ = some (.string y) ∧ W.cell? ⟨wr.heap.size, 1, none⟩ = some (.slice va vn vc)) (fun i => i == 16) (by kernel_rfl) HS0 (fun _ => ?_)
      refine wpAnyG_take (i := 0) (v := ?_) rfl (by kernel_rfl) (by kernel_rfl) (by kernel_rfl) (by kernel_rfl) (fun _ _ _ h => h) (Or.inl ⟨by rfl, ?_⟩) HS0 ?_
      rotate_left
      (intro w' hSw'; have ⟨_, _, _⟩ := hSw'; go_simp; try with_reducible rfl)
      try simp only [Act.put, List.setIfInBounds_toArray, List.set_cons_zero, List.set_cons_succ, List.getElem_toArray, List.getElem_cons_zero, List.getElem_cons_succ]
      refine wpAnyG_take (i := 1) (v := ?_) rfl (by kernel_rfl) (by kernel_rfl) (by kernel_rfl) (by kernel_rfl) (fun _ _ _ h => h) (Or.inl ⟨by rfl, ?_⟩) HS0 ?_
      rotate_left
      (intro w' hSw'; have ⟨_, _, _⟩ := hSw'; go_simp; try with_reducible rfl)
      try simp only [Act.put, List.setIfInBounds_toArray, List.set_cons_zero, List.set_cons_succ, List.getElem_toArray, List.getElem_cons_zero, List.getElem_cons_succ]
      refine wpAnyG_take (i := 2) (v := ?_) rfl (by kernel_rfl) (by kernel_rfl) (by kernel_rfl) (by kernel_rfl) (fun _ _ _ h => h) (Or.inl ⟨by rfl, ?_⟩) HS0 ?_
      rotate_left
      (intro w' hSw'; have ⟨_, _, _⟩ := hSw'; go_simp; try with_reducible rfl)
      try simp only [Act.put, List.setIfInBounds_toArray, List.set_cons_zero, List.set_cons_succ, List.getElem_toArray, List.getElem_cons_zero, List.getElem_cons_succ]
      refine wpAnyG_take (i := 3) (v := ?_) rfl (by kernel_rfl) (by kernel_rfl) (by kernel_rfl) (by kernel_rfl) (fun _ _ _ h => h) (Or.inl ⟨by rfl, ?_⟩) HS0 ?_
      rotate_left
      (intro w' hSw'; have ⟨_, _, _⟩ := hSw'; go_simp; try with_reducible rfl)
      try simp only [Act.put, List.setIfInBounds_toArray, List.set_cons_zero, List.set_cons_succ, List.getElem_toArray, List.getElem_cons_zero, List.getElem_cons_succ]
      refine wpAnyG_take (i := 4) (v := ?_) rfl (by kernel_rfl) (by kernel_rfl) (by kernel_rfl) (by kernel_rfl) (fun _ _ _ h => h) (Or.inl ⟨by rfl, ?_⟩) HS0 ?_
      rotate_left
      (intro w' hSw'; have ⟨_, _, _⟩ := hSw'; go_simp; try with_reducible rfl)
      try simp only [Act.put, List.setIfInBounds_toArray, List.set_cons_zero, List.set_cons_succ, List.getElem_toArray, List.getElem_cons_zero, List.getElem_cons_succ]
      refine wpAnyG_take (i := 5) (v := ?_) rfl (by kernel_rfl) (by kernel_rfl) (by kernel_rfl) (by kernel_rfl) (fun _ _ _ h => h) (Or.inl ⟨by rfl, ?_⟩) HS0 ?_
      rotate_left
      (intro w' hSw'; have ⟨_, _, _⟩ := hSw'; go_simp; try with_reducible rfl)
      try simp only [Act.put, List.setIfInBounds_toArray, List.set_cons_zero, List.set_cons_succ, List.getElem_toArray, List.getElem_cons_zero, List.getElem_cons_succ]
      refine wpAnyG_take (i := 6) (v := ?_) rfl (by kernel_rfl) (by kernel_rfl) (by kernel_rfl) (by kernel_rfl) (fun _ _ _ h => h) (Or.inl ⟨by rfl, ?_⟩) HS0 ?_
      rotate_left
      (intro w' hSw'; have ⟨_, _, _⟩ := hSw'; go_simp; try with_reducible rfl)
      try simp only [Act.put, List.setIfInBounds_toArray, List.set_cons_zero, List.set_cons_succ, List.getElem_toArray, List.getElem_cons_zero, List.getElem_cons_succ]
      refine wpAnyG_take (i := 8) (v := ?_) rfl (by kernel_rfl) (by kernel_rfl) (by kernel_rfl) (by kernel_rfl) (fun _ _ _ h => h) (Or.inl ⟨by rfl, ?_⟩) HS0 ?_
      rotate_left
      (intro w' hSw'; have ⟨_, _, _⟩ := hSw'; go_simp; try with_reducible rfl)
      try simp only [Act.put, List.setIfInBounds_toArray, List.set_cons_zero, List.set_cons_succ, List.getElem_toArray, List.getElem_cons_zero, List.getElem_cons_succ]
      refine wpAnyG_take (i := 9) (v := ?_) rfl (by kernel_rfl) (by kernel_rfl) (by kernel_rfl) (by kernel_rfl) (fun _ _ _ h => h) (Or.inl ⟨by rfl, ?_⟩) HS0 ?_
      rotate_left
      (intro w' hSw'; have ⟨_, _, _⟩ := hSw'; go_simp; try with_reducible rfl)
      try simp only [Act.put, List.setIfInBounds_toArray, List.set_cons_zero, List.set_cons_succ, List.getElem_toArray, List.getElem_cons_zero, List.getElem_cons_succ]
      refine wpAnyG_ready (rs := [7]) (by kernel_rfl) (by simp) ?_
      refine AllG.cons rfl (ph' := false) (by kernel_rfl) (fun K hK => ?_) AllG.nil
      go_simp
      refine hK.out _ _ (fun _ => HS1) ?_
      clear hK K
      try simp only [Act.put, List.setIfInBounds_toArray, List.set_cons_zero, List.set_cons_succ, List.getElem_toArray, List.getElem_cons_zero, List.getElem_cons_succ]
      refine wpAnyG_ready (rs := [10]) (by kernel_rfl) (by simp) ?_
      refine AllG.cons rfl (ph' := false) (by kernel_rfl) (fun K hK => ?_) AllG.nil
      refine step_append_run rfl (.tmp 23) (.tmp 25) #[32, 32] rfl _ _ _ _ rfl rfl hr1 ?_
      refine hK.out _ _ (fun _ => HS2) ?_
      clear hK K
      try simp only [Act.put, List.setIfInBounds_toArray, List.set_cons_zero, List.set_cons_succ, List.getElem_toArray, List.getElem_cons_zero, List.getElem_cons_succ]
      refine wpAnyG_ready (rs := [11]) (by kernel_rfl) (by simp) ?_
      refine AllG.cons rfl (ph' := false) (by kernel_rfl) (fun K hK => ?_) AllG.nil
      go_simp
      refine hK.out _ _ (fun _ => HS2) ?_
      clear hK K
      try simp only [Act.put, List.setIfInBounds_toArray, List.set_cons_zero, List.set_cons_succ, List.getElem_toArray, List.getElem_cons_zero, List.getElem_cons_succ]
      refine wpAnyG_ready (rs := [12]) (by kernel_rfl) (by simp) ?_
      refine AllG.cons rfl (ph' := false) (by kernel_rfl) (fun K hK => ?_) AllG.nil
      go_simp
      refine hK.out _ _ (fun _ => HS3) ?_
      clear hK K
      try simp only [Act.put, List.setIfInBounds_toArray, List.set_cons_zero, List.set_cons_succ, List.getElem_toArray, List.getElem_cons_zero, List.getElem_cons_succ]
      refine wpAnyG_ready (rs := [13]) (by kernel_rfl) (by simp) ?_
      refine AllG.cons rfl (ph' := false) (by kernel_rfl) (fun K hK => ?_) AllG.nil
      refine step_append_run rfl (.tmp 20) (.tmp 28) #[71, 71] rfl _ _ _ _ rfl rfl hr2 ?_
      refine hK.out _ _ (fun _ => HS4) ?_
      clear hK K
      try simp only [Act.put, List.setIfInBounds_toArray, List.set_cons_zero, List.set_cons_succ, List.getElem_toArray, List.getElem_cons_zero, List.getElem_cons_succ]
      refine wpAnyG_takeU (i := 14) (v := ?_) rfl (by kernel_rfl) (by kernel_rfl) (by kernel_rfl) (by kernel_rfl) (fun _ _ _ h => h) (Or.inl ⟨by rfl, ?_⟩) (fun _ => HS4) ?_
      rotate_left
      (intro w' hSw'; go_simp; try with_reducible rfl)
      try simp only [Act.put, List.setIfInBounds_toArray, List.set_cons_zero, List.set_cons_succ, List.getElem_toArray, List.getElem_cons_zero, List.getElem_cons_succ]
      refine wpAnyG_takeU (i := 15) (v := ?_) rfl (by kernel_rfl) (by kernel_rfl) (by kernel_rfl) (by kernel_rfl) (fun _ _ _ h => h) (Or.inl ⟨by rfl, ?_⟩) (fun _ => HS4) ?_
      rotate_left
      (intro w' hSw'; go_simp; try with_reducible rfl)
      try simp only [Act.put, List.setIfInBounds_toArray, List.set_cons_zero, List.set_cons_succ, List.getElem_toArray, List.getElem_cons_zero, List.getElem_cons_succ]
      refine wpAnyG_ready (rs := [16]) (by kernel_rfl) (by simp) ?_
      refine AllG.cons rfl (ph' := true) (by kernel_rfl) (fun K hK => ?_) AllG.nil
      go_simp
      refine hK.out _ _ (fun h => by cases h) ?_
      clear hK K
      try simp only [Act.put, List.setIfInBounds_toArray, List.set_cons_zero, List.set_cons_succ, List.getElem_toArray, List.getElem_cons_zero, List.getElem_cons_succ]
      refine wpAnyG_done (by kernel_rfl) ?_ _
      clear HS0 HS1 HS2 HS3 HS4 hr1 hr2 hc4 hc5 hzf
      go_wp2_with fail
      go_roundg (gk - 1)
      case measure => omega
      case rel => exact ⟨k + 1, _, _, by omega, by go_num, HRC, HKE⟩
    · obtain rfl : k = n := by omega
      have HFIN : Hid (RefAt wr b' fv' T ⟨D.files, 0, 0, false⟩ ∧ ∀ i, refF b' fv' T i → w.heap.size ≤ i) := Lib.hid ⟨by
        have h9 := HR.out.ref
        rw [List.take_of_length_le (Nat.le_of_eq HN.out)] at h9
        rw [H.out.sync]
        exact h9, HR.out.new⟩
      go_wp2_with fail
      go_ret
      exact ⟨⟨_, _, _, rfl, HFIN.out⟩, HK.out⟩
end Go.Proofs.YtjnhkepgoghogaaDoor
