/- espalierref02: Rename. -/
import Derived.Test.YtjnhkepgoghogaaDoorRfdD
import Derived.Test.YtjnhkepgoghogaaDoorPhase
namespace Go.Proofs.YtjnhkepgoghogaaDoor
open Go.RowKit Go.ChangeMaps Go.MapKept
set_option linter.unusedSimpArgs false

def renA {β : Type} (f t : ByteArray) (l : List (ByteArray × β)) : List (ByteArray × β) := l.map fun p => if p.1 = f then (t, p.2) else p
theorem getA_ren {β : Type} (f t : ByteArray) (s : ByteArray) : ∀ l : List (ByteArray × β), getA t l = none → getA s (renA f t l) = if s = t then getA f l else if s = f then none else getA s l := by
  intro l
  induction l with
  | nil => intro _; simp [renA, getA]
  | cons p l ih =>
    intro ht
    have hp : p.1 ≠ t := getA_none ht p List.mem_cons_self
    have ht' : getA t l = none := by
      simp only [getA, if_neg hp] at ht
      exact ht
    have hi := ih ht'
    simp only [renA, List.map_cons] at hi ⊢
    by_cases hf : p.1 = f
    · simp only [hf, if_true, getA]
      by_cases hst : s = t
      · subst hst; simp
      · rw [if_neg (fun e => hst e.symm), hi, if_neg hst]
        by_cases hsf : s = f
        · subst hsf; simp [hst]
        · simp [hst, hsf, Ne.symm hsf]
    · simp only [hf, if_false, getA]
      by_cases hps : p.1 = s
      · rw [if_pos hps]
        have hst : s ≠ t := fun e => hp (hps.trans e)
        have hsf : s ≠ f := fun e => hf (hps.trans e)
        rw [if_neg hst, if_neg hsf, if_pos hps]
      · rw [if_neg hps, hi]
        by_cases hst : s = t
        · simp [hst]
        · by_cases hsf : s = f
          · simp [hst, hsf]
          · simp [hst, hsf, hps]
theorem nodup_ren {β : Type} {f t : ByteArray} {l : List (ByteArray × β)} (hn : NodupA l) (ht : getA t l = none) : NodupA (renA f t l) := by
  unfold NodupA renA at *
  rw [List.map_map]
  unfold List.Nodup at *
  rw [List.pairwise_map] at hn ⊢
  refine hn.imp_of_mem (fun {a b} ha hb hab e => ?_)
  have h1 := getA_none ht a ha
  have h2 := getA_none ht b hb
  simp only [Function.comp] at e
  by_cases e1 : a.1 = f
  · by_cases e2 : b.1 = f
    · exact hab (e1.trans e2.symm)
    · rw [if_pos e1, if_neg e2] at e; exact h2 e.symm
  · by_cases e2 : b.1 = f
    · rw [if_neg e1, if_pos e2] at e; exact h1 e
    · rw [if_neg e1, if_neg e2] at e; exact hab e
theorem filesD_ren {S : List FileM} {f : ByteArray} (t : ByteArray) : ∀ {k : Nat} (hk : k < S.length), S[k].name = f → NodupA (filesD S) → filesD (S.set k ⟨t, S[k].bv, S[k].bytes⟩) = renA f t (filesD S) := by
  induction S with
  | nil => intro k hk; simp at hk
  | cons p S ih =>
    intro k hk e hn
    have hn' : NodupA (filesD S) ∧ ∀ q ∈ S, q.name ≠ p.name := by
      unfold NodupA filesD at *
      simp only [List.map_cons, List.nodup_cons, List.map_map] at hn
      exact ⟨by rw [List.map_map]; exact hn.2, fun q hq e => hn.1 (List.mem_map.2 ⟨q, hq, by simp [e]⟩)⟩
    cases k with
    | zero =>
      simp only [List.getElem_cons_zero] at e
      have hrest : renA f t (filesD S) = filesD S := by
        unfold renA filesD
        rw [List.map_map]
        refine List.map_congr_left (fun q hq => ?_)
        simp only [Function.comp]
        rw [if_neg (fun e2 => hn'.2 q hq (e2.trans e.symm))]
      unfold renA filesD at hrest ⊢
      simp only [List.set_cons_zero, List.map_cons, List.getElem_cons_zero, e, if_true]
      rw [hrest]
    | succ k =>
      have hi := ih (k := k) (by simpa using hk) (by simpa using e) hn'.1
      have hk' : k < S.length := by simpa using hk
      have he' : S[k].name = f := by simpa using e
      have hp : p.name ≠ f := fun e2 => hn'.2 _ (List.getElem_mem hk') (he'.trans e2.symm)
      unfold renA filesD at hi ⊢
      simp only [List.set_cons_succ, List.map_cons, List.getElem_cons_succ, if_neg hp]
      rw [hi]
/-- The same but for the order of the files. -/
structure DM.Like (D E : DM) : Prop where
  same : DM.Same D E
  writes : D.writes = E.writes
  left : D.left = E.left
  cut : D.cut = E.cut
theorem rename_like {D D' : DM} (hD : D.Ok) (hr : D.raw = some D') {f t : ByteArray} (hne : f ≠ t) (ht : mayB t = true) {x : List UInt8} (hg : getA f D.files = some x) :
    DM.Like { D' with files := renA f t (delA t D.files) } ((D'.del f).put t x) ∧ DM.Ok { D' with files := renA f t (delA t D.files) } := by
  have hok' := (DM.raw_ok hD hr).1
  have hf' := DM.raw_files hr
  have hnone := getA_delA_same hD.nodup (k := t)
  have hnd := hD.nodup.del t
  refine ⟨⟨⟨fun s => ?_, ?_⟩, rfl, rfl, rfl⟩, ⟨hok'.w0, hok'.l0, hok'.l1, ?_, fun p hp => ?_, nodup_ren hnd hnone⟩⟩
  · show getA s (renA f t (delA t D.files)) = getA s (putA t x (delA f D'.files))
    rw [hf', getA_ren f t s _ hnone]
    by_cases hst : s = t
    · subst hst
      rw [if_pos rfl, getA_putA_same, getA_delA_ne hne, hg]
    · rw [if_neg hst, getA_putA_ne hst]
      by_cases hsf : s = f
      · subst hsf
        rw [if_pos rfl, getA_delA_same hD.nodup]
      · rw [if_neg hsf, getA_delA_ne hst, getA_delA_ne hsf]
  · show (renA f t (delA t D.files)).length = (putA t x (delA f D'.files)).length
    have hpos : 0 < D.files.length := List.length_pos_of_mem (getA_mem hg)
    rw [hf', length_putA, getA_delA_ne (Ne.symm hne), length_delA, hg]
    unfold renA
    rw [List.length_map, length_delA]
    simp only [Option.isSome_some, if_true]
    split <;> omega
  · show (renA f t (delA t D.files)).length ≤ 256
    unfold renA
    rw [List.length_map, length_delA]
    have := hD.count
    split <;> omega
  · obtain ⟨q, hq, rfl⟩ := List.mem_map.1 hp
    have h1 := hD.names q (mem_delA hq)
    split
    · exact ⟨ht, h1.2⟩
    · exact h1

/-- One file's name is laid anew. -/
theorem RefAt.setN {w : World} {b : Nat} {S : List FileM} {D : DM} {g c k : Nat} (h : RefAt w b (.slice (some ⟨g, 0, none⟩) S.length c) S D) (hk : k < S.length) (t : ByteArray) (ht : getA t D.files = none) (hm : mayB t = true) :
    RefAt (w.setCell ⟨g, k * 2, none⟩ (.string t)) b (.slice (some ⟨g, 0, none⟩) S.length c) (S.set k ⟨t, S[k].bv, S[k].bytes⟩) { D with files := renA S[k].name t D.files } ∧ Kept (refF b (.slice (some ⟨g, 0, none⟩) S.length c) S) w (w.setCell ⟨g, k * 2, none⟩ (.string t)) ∧ ∀ i, refF b (.slice (some ⟨g, 0, none⟩) S.length c) (S.set k ⟨t, S[k].bv, S[k].bytes⟩) i → refF b (.slice (some ⟨g, 0, none⟩) S.length c) S i := by
  obtain ⟨n1, n2, n3⟩ := h.ne
  have hgb : g ≠ b := fun e => n1 (by rw [e]; rfl)
  have hkc := keptCellR w g (k * 2) (.string t)
  have hbg : ∀ p ∈ S, p.bv.ownBlock ≠ some g := n3 g rfl
  have hset : ∀ i (hi : i < S.length), ((S.set k ⟨t, S[k].bv, S[k].bytes⟩)[i]'(by simpa using hi)).bv = S[i].bv ∧ ((S.set k ⟨t, S[k].bv, S[k].bytes⟩)[i]'(by simpa using hi)).bytes = S[i].bytes := fun i hi => by
    rw [List.getElem_set]
    split
    · rename_i e; subst e; exact ⟨rfl, rfl⟩
    · exact ⟨rfl, rfl⟩
  refine ⟨⟨?_, ?_, ?_, ?_, ?_, ?_⟩, hkc.mono (fun i _ e => .inr (.inl (by rw [e]; rfl))), ?_⟩
  · exact (hkc.block b (h.lt b (.inl rfl)) (fun e => hgb e.symm)).trans h.cell
  · exact h.row.setAt (k * 2) (.string t) (by simp) (cellsF_set0 S hk t)
  · show renA S[k].name t D.files = _
    rw [h.sync]
    exact (filesD_ren t hk rfl (by rw [← h.sync]; exact h.ok.nodup)).symm
  · intro p hp
    obtain ⟨i, hi, rfl⟩ := List.getElem_of_mem hp
    rw [List.length_set] at hi
    obtain ⟨e1, e2⟩ := hset i hi
    rw [e1, e2]
    have ho := h.own _ (List.getElem_mem hi)
    exact ho.kept (fun q e => hkc.block q (ho.lt q e) (fun e2 => by subst e2; exact hbg _ (List.getElem_mem hi) e))
  · rw [List.pairwise_iff_getElem]
    intro i j hi hj hij q
    rw [List.length_set] at hi hj
    rw [(hset i hi).1, (hset j hj).1]
    exact List.pairwise_iff_getElem.1 h.apart i j hi hj hij q
  · refine ⟨h.ok.w0, h.ok.l0, h.ok.l1, ?_, fun p hp => ?_, nodup_ren h.ok.nodup ht⟩
    · show (renA _ _ _).length ≤ 256
      unfold renA
      rw [List.length_map]
      exact h.ok.count
    · obtain ⟨q, hq, rfl⟩ := List.mem_map.1 hp
      have h1 := h.ok.names q hq
      split
      · exact ⟨hm, h1.2⟩
      · exact h1
  · rintro i (rfl | e | ⟨p, hp, e⟩)
    · exact .inl rfl
    · exact .inr (.inl e)
    · obtain ⟨j, hj, rfl⟩ := List.getElem_of_mem hp
      rw [List.length_set] at hj
      rw [(hset j hj).1] at e
      exact .inr (.inr ⟨_, List.getElem_mem hj, e⟩)

def EndRL (w : World) (b : Nat) (fv : Value) (S : List FileM) (r : Int) (D' : DM) (e : Ending) (w' : World) : Prop := ∃ D'', DM.Like D'' D' ∧ EndR w b fv S r D'' e w'
theorem DM.Like.refl (D : DM) : DM.Like D D := ⟨⟨fun _ => rfl, rfl⟩, rfl, rfl, rfl⟩
theorem DM.ren_cases (D : DM) (f t : ByteArray) : (mayB t = false → D.rename f t = (2, D)) ∧ (mayB t = true → (getA f D.files = none → D.rename f t = (4, D)) ∧ (∀ x, getA f D.files = some x → (f = t → D.rename f t = (0, D)) ∧ (f ≠ t → (D.raw = none → D.rename f t = (6, D)) ∧ ∀ D', D.raw = some D' → D.rename f t = (0, (D'.del f).put t x)))) := by
  refine ⟨fun h => ?_, fun h => ⟨fun h2 => ?_, fun x h2 => ⟨fun h3 => ?_, fun h3 => ⟨fun h4 => ?_, fun D' h4 => ?_⟩⟩⟩⟩
  · unfold DM.rename; rw [if_pos h]
  · unfold DM.rename; rw [if_neg (by rw [h]; simp), if_pos h2]
  · unfold DM.rename; rw [if_neg (by rw [h]; simp), if_neg (by rw [h2]; simp), if_pos h3]
  · unfold DM.rename; rw [if_neg (by rw [h]; simp), if_neg (by rw [h2]; simp), if_neg h3, h4]
  · unfold DM.rename
    rw [if_neg (by rw [h]; simp), if_neg (by rw [h2]; simp), if_neg h3, h4]
    have : D.bytes f = x := by unfold DM.bytes; rw [h2]; rfl
    rw [this]
set_option maxRecDepth 100000 in
set_option maxHeartbeats 1000000 in
theorem rrename_any {w : World} {b : Nat} {fv : Value} {S : List FileM} {D : DM} (h : RefAt w b fv S D) (f t : ByteArray) (ht : t.size ≤ maxLen) (hw : D.writes < 2305843009213693952) :
    Calls Tryd.prog 41 #[.pointer (some ⟨b, 0, none⟩), .string f, .string t] w (EndRL w b fv S (D.rename f t).1 (D.rename f t).2) := by
  have H := Lib.hid h
  have HW := Lib.hid hw
  have HRC := Lib.hid (DM.ren_cases D f t)
  have hN := rname_any t w ht
  have hF := Lib.hid (rfind_any h f)
  obtain ⟨m, hm⟩ : ∃ m, mayB t = m := ⟨_, rfl⟩
  rw [hm] at hN
  have HM := Lib.hid hm
  clear h hw hm
  cases m with
  | false =>
    have HD := Lib.hid (HRC.out.1 HM.out)
    go_enter Tryd.func41, Tryd.ntmps41
    go_wp2_with fail
    refine hN.mono ?_
    rintro e w1 ⟨rfl, rfl⟩
    clear hN
    go_wp2_with fail
    go_ret
    rw [HD.out]
    exact ⟨D, .refl D, EndR.same H.out rfl (Kept.refl _ _)⟩
  | true =>
    have HRC2 := Lib.hid (HRC.out.2 HM.out)
    go_enter Tryd.func41, Tryd.ntmps41
    go_wp2_with fail
    refine hN.mono ?_
    rintro e w1 ⟨rfl, rfl⟩
    clear hN
    go_wp2_with fail
    refine hF.out.mono ?_
    rintro e w1 ⟨⟨r, rfl, hr⟩, hk1⟩
    clear hF
    have H1 := Lib.hid (H.out.kept hk1 (fun _ _ f => f))
    have HK1 := Lib.hid hk1
    rcases find_cases H.out hr with ⟨rfl, hg⟩ | ⟨k, hk, rfl, -, hg, -⟩
    · have HD := Lib.hid (HRC2.out.1 hg)
      clear hg hr hk1
      go_wp2_with fail
      go_ret
      rw [HD.out]
      exact ⟨D, .refl D, EndR.same H.out rfl HK1.out⟩
    · obtain ⟨x, hx⟩ : ∃ x, S[k].bytes = x := ⟨_, rfl⟩
      rw [hx] at hg
      have HG := Lib.hid hg
      have HRC3 := Lib.hid (HRC2.out.2 x hg)
      clear hg hr hk1 hx hk
      by_cases hft : f = t
      · have HD := Lib.hid (HRC3.out.1 hft)
        subst hft
        go_wp2_with fail
        go_ret
        rw [HD.out]
        exact ⟨D, .refl D, EndR.same H.out rfl HK1.out⟩
      · have hftb := (Lib.bytes_beq_false_iff f t).2 hft
        have HRC4 := Lib.hid (HRC3.out.2 hft)
        have hwr := rwrite_any H1.out (by have := HW.out; omega)
        cases hraw : D.raw with
        | none =>
          rw [hraw] at hwr
          have HD := Lib.hid (HRC4.out.1 hraw)
          clear hraw
          go_wp2_with fail
          refine hwr.mono ?_
          rintro e w2 ⟨rfl, rfl⟩
          clear hwr
          go_wp2_with fail
          go_ret
          rw [HD.out]
          exact ⟨D, .refl D, EndR.same H.out rfl HK1.out⟩
        | some D' =>
          rw [hraw] at hwr
          have HD := Lib.hid (HRC4.out.2 D' hraw)
          have HLK := Lib.hid (rename_like H.out.ok hraw hft HM.out HG.out)
          have HFF := Lib.hid (DM.raw_files hraw)
          clear hraw
          go_wp2_with fail
          refine hwr.mono ?_
          rintro e w2 ⟨rfl, h2, hk2⟩
          clear hwr
          have hT := rtake_any h2 t
          have HK2 : Hid (Kept (refF b fv S) w w2) := Lib.hid ((HK1.out.mono (fun _ _ f => f.elim)).trans hk2 (fun _ _ e => .inl e))
          clear h2 hk2
          go_wp2_with fail
          refine hT.mono ?_
          rintro e w3 ⟨rfl, ⟨fv', h3, hnew⟩, hk3⟩
          clear hT
          have hgf : getA f (D'.del t).files = some x := by
            show getA f (delA t D'.files) = some x
            rw [HFF.out, getA_delA_ne hft, HG.out]
          have hnt : getA t (D'.del t).files = none := by
            show getA t (delA t D'.files) = none
            rw [HFF.out]
            exact getA_delA_same H.out.ok.nodup
          have hne : 0 < (S.filter (fun p => !decide (p.name = t))).length := by
            rw [h3.len]
            exact List.length_pos_of_mem (getA_mem hgf)
          obtain ⟨g, c, hfv, -⟩ := h3.row.at hne
          subst hfv
          have HK3 : Hid (Kept (refF b fv S) w w3) := Lib.hid (HK2.out.trans hk3 (fun _ _ e => .inl e))
          have HNEW : Hid (∀ i, refF b (.slice (some ⟨g, 0, none⟩) (S.filter (fun p => !decide (p.name = t))).length c) (S.filter (fun p => !decide (p.name = t))) i → refF b fv S i ∨ w.heap.size ≤ i) := Lib.hid (fun i e => by
            rcases e with rfl | e | ⟨p, hp, e⟩
            · exact .inl (.inl rfl)
            · exact .inr (Nat.le_trans HK2.out.size (hnew i e))
            · exact .inl (.inr (.inr ⟨p, (List.mem_filter.1 hp).1, e⟩)))
          obtain ⟨S', hS'⟩ : ∃ S', S.filter (fun p => !decide (p.name = t)) = S' := ⟨_, rfl⟩
          rw [hS'] at h3 HNEW hne
          have hkd : Kept (fun _ => False) w3 w3.drew := drew_kept w3
          have h4 := h3.kept hkd (fun _ _ f => f)
          have HF4 := Lib.hid (rfind_any h4 f)
          have H4 := Lib.hid h4
          have HS0 := h4.c.1
          have HGF := Lib.hid hgf
          have HNT := Lib.hid hnt
          obtain ⟨sn, hsn⟩ : ∃ n, S'.length = n := ⟨_, rfl⟩
          have HSN := Lib.hid hsn
          have hsn2 : sn ≤ 256 := by have := h3.ok.count; have := h3.len; omega
          rw [hsn] at HS0
          have HKD := Lib.hid hkd
          clear hgf hnt hnew hk3 hS' h3 h4 hkd hne
          go_wp2_with fail
          refine wp_region_phase (fun W => W.cell? ⟨b, 0, none⟩ = some (.slice (some ⟨g, 0, none⟩) S'.length c)) (fun _ => false) (by kernel_rfl) (by rw [hsn]; exact HS0) (fun _ => ?_)
          rw [hsn]
          refine wpAnyG_take (i := 0) (v := ?_) rfl (by kernel_rfl) (by kernel_rfl) (by kernel_rfl) (by kernel_rfl) (fun _ _ _ h => h) (Or.inl ⟨by rfl, ?_⟩) HS0 ?_
          rotate_left
          (intro w' hSw'; have _ := hSw'; go_simp; try with_reducible rfl)
          try simp only [Act.put, List.setIfInBounds_toArray, List.set_cons_zero, List.set_cons_succ, List.getElem_toArray, List.getElem_cons_zero, List.getElem_cons_succ]
          refine wpAnyG_take (i := 1) (v := ?_) rfl (by kernel_rfl) (by kernel_rfl) (by kernel_rfl) (by kernel_rfl) (fun _ _ _ h => h) (Or.inl ⟨by rfl, ?_⟩) HS0 ?_
          rotate_left
          (intro w' hSw'; have _ := hSw'; go_simp; try with_reducible rfl)
          try simp only [Act.put, List.setIfInBounds_toArray, List.set_cons_zero, List.set_cons_succ, List.getElem_toArray, List.getElem_cons_zero, List.getElem_cons_succ]
          refine wpAnyG_take (i := 2) (v := ?_) rfl (by kernel_rfl) (by kernel_rfl) (by kernel_rfl) (by kernel_rfl) (fun _ _ _ h => h) (Or.inl ⟨by rfl, ?_⟩) HS0 ?_
          rotate_left
          (intro w' hSw'; have _ := hSw'; go_simp; try with_reducible rfl)
          try simp only [Act.put, List.setIfInBounds_toArray, List.set_cons_zero, List.set_cons_succ, List.getElem_toArray, List.getElem_cons_zero, List.getElem_cons_succ]
          refine wpAnyG_take (i := 3) (v := ?_) rfl (by kernel_rfl) (by kernel_rfl) (by kernel_rfl) (by kernel_rfl) (fun _ _ _ h => h) (Or.inl ⟨by rfl, ?_⟩) HS0 ?_
          rotate_left
          (intro w' hSw'; have _ := hSw'; go_simp; try with_reducible rfl)
          try simp only [Act.put, List.setIfInBounds_toArray, List.set_cons_zero, List.set_cons_succ, List.getElem_toArray, List.getElem_cons_zero, List.getElem_cons_succ]
          refine wpAnyG_take (i := 4) (v := ?_) rfl (by kernel_rfl) (by kernel_rfl) (by kernel_rfl) (by kernel_rfl) (fun _ _ _ h => h) (Or.inl ⟨by rfl, ?_⟩) HS0 ?_
          rotate_left
          (intro w' hSw'; have _ := hSw'; go_simp; try with_reducible rfl)
          try simp only [Act.put, List.setIfInBounds_toArray, List.set_cons_zero, List.set_cons_succ, List.getElem_toArray, List.getElem_cons_zero, List.getElem_cons_succ]
          refine wpAnyG_take (i := 5) (v := ?_) rfl (by kernel_rfl) (by kernel_rfl) (by kernel_rfl) (by kernel_rfl) (fun _ _ _ h => h) (Or.inl ⟨by rfl, ?_⟩) HS0 ?_
          rotate_left
          (intro w' hSw'; have _ := hSw'; go_simp; try with_reducible rfl)
          try simp only [Act.put, List.setIfInBounds_toArray, List.set_cons_zero, List.set_cons_succ, List.getElem_toArray, List.getElem_cons_zero, List.getElem_cons_succ]
          refine wpAnyG_take (i := 7) (v := ?_) rfl (by kernel_rfl) (by kernel_rfl) (by kernel_rfl) (by kernel_rfl) (fun _ _ _ h => h) (Or.inl ⟨by rfl, ?_⟩) HS0 ?_
          rotate_left
          (intro w' hSw'; have _ := hSw'; go_simp; try with_reducible rfl)
          try simp only [Act.put, List.setIfInBounds_toArray, List.set_cons_zero, List.set_cons_succ, List.getElem_toArray, List.getElem_cons_zero, List.getElem_cons_succ]
          refine wpAnyG_ready (rs := [6]) (by kernel_rfl) (by simp) ?_
          refine AllG.cons rfl (ph' := false) (by kernel_rfl) (fun K hK => ?_) AllG.nil
          go_simp
          go_at_call 65
          refine HF4.out.mono ?_
          rintro e wf ⟨⟨r, rfl, hr⟩, hkf⟩
          have H5 := H4.out.kept hkf (fun _ _ f => f)
          rcases find_cases H4.out hr with ⟨rfl, hg⟩ | ⟨k', hk', rfl, hks, hg, -⟩
          · rw [HGF.out] at hg; cases hg
          obtain ⟨g', c', e1, z0, z1, zf⟩ := H5.row.at hk'
          cases e1
          have z2 := zf (k' * 2)
          have hset := H5.setN hk' t HNT.out HM.out
          rw [hks] at z0
          have HKS := Lib.hid hks
          have HSET := Lib.hid hset
          have HKF := Lib.hid hkf
          have HS5 := H5.c.1
          rw [HSN.out] at HS5
          have hk'' : k' < sn := by have := HSN.out; omega
          have hki : (k' : Int) < (sn : Int) := by omega
          have hki0 : (0 : Int) ≤ (k' : Int) := by omega
          refine hK.out _ _ (fun _ => HS5) ?_
          clear hK K
          try simp only [Act.put, List.setIfInBounds_toArray, List.set_cons_zero, List.set_cons_succ, List.getElem_toArray, List.getElem_cons_zero, List.getElem_cons_succ]
          refine wpAnyG_takeU (i := 8) (v := ?_) rfl (by kernel_rfl) (by kernel_rfl) (by kernel_rfl) (by kernel_rfl) (fun _ _ _ h => h) (Or.inl ⟨by rfl, ?_⟩) (fun _ => HS5) ?_
          rotate_left
          (intro w' hSw'; go_simp; try with_reducible rfl)
          try simp only [Act.put, List.setIfInBounds_toArray, List.set_cons_zero, List.set_cons_succ, List.getElem_toArray, List.getElem_cons_zero, List.getElem_cons_succ]
          refine wpAnyG_takeU (i := 9) (v := ?_) rfl (by kernel_rfl) (by kernel_rfl) (by kernel_rfl) (by kernel_rfl) (fun _ _ _ h => h) (Or.inl ⟨by rfl, ?_⟩) (fun _ => HS5) ?_
          rotate_left
          (intro w' hSw'; go_simp; try with_reducible rfl)
          try simp only [Act.put, List.setIfInBounds_toArray, List.set_cons_zero, List.set_cons_succ, List.getElem_toArray, List.getElem_cons_zero, List.getElem_cons_succ]
          have HS6 : (wf.setCell ⟨g, k' * 2, none⟩ (.string t)).cell? ⟨b, 0, none⟩ = some (.slice (some ⟨g, 0, none⟩) sn c) := by rw [← HSN.out]; exact HSET.out.1.c.1
          refine wpAnyG_ready (rs := [10]) (by kernel_rfl) (by simp) ?_
          refine AllG.cons rfl (ph' := false) (by kernel_rfl) (fun K hK => ?_) AllG.nil
          go_simp
          refine hK.out _ _ (fun _ => HS6) ?_
          clear hK K
          try simp only [Act.put, List.setIfInBounds_toArray, List.set_cons_zero, List.set_cons_succ, List.getElem_toArray, List.getElem_cons_zero, List.getElem_cons_succ]
          refine wpAnyG_done (by kernel_rfl) ?_ _
          clear hset hg hr hkf z0 z1 zf z2 HS5 HS6 HS0 H5 hks hk''
          go_wp2_with fail
          go_ret
          rw [HD.out]
          refine ⟨_, ?_, rfl, _, _, HSET.out.1, (HK3.out.trans ((HKD.out.trans HKF.out (fun _ _ f => f)).mono (fun _ _ f => f.elim)) (fun _ _ e => e)).trans HSET.out.2.1 (fun i hi e => ?_), fun i e => HNEW.out i (HSET.out.2.2 i e)⟩
          · have h9 := HLK.out.1
            rw [HKS.out]
            have e2 : ({ D'.del t with files := renA f t (D'.del t).files } : DM) = { D' with files := renA f t (delA t D.files) } := by
              show ({ D' with files := renA f t (delA t D'.files) } : DM) = _
              rw [HFF.out]
            rw [e2]
            exact h9
          · rcases HNEW.out i e with e | e
            · exact e
            · omega
end Go.Proofs.YtjnhkepgoghogaaDoor
