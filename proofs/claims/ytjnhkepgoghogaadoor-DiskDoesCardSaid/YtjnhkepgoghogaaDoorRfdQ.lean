/- espalierlaw02: world.whole. -/
import Derived.Test.YtjnhkepgoghogaaDoorRfdP
import Derived.Lib.MinMax
namespace Go.Proofs.YtjnhkepgoghogaaDoor
open Go.RowKit Go.ChangeMaps Go.MapKept
set_option linter.unusedSimpArgs false

theorem OwnN.keptF {F : Nat → Prop} {n0 : Nat} {w w' : World} {v : Value} {xs : List (List UInt8)} (h : OwnN n0 w v xs) (hk : Kept F w w') (hF : ∀ g, v.ownBlock = some g → ¬ F g) : OwnN n0 w' v xs := ownsRow_keptR h hk hF
theorem OwnN.cellAt {n0 : Nat} {w : World} {a : Option Addr} {n c : Nat} {l : List (List UInt8)} (h : OwnN n0 w (.slice a n c) l) {k : Nat} (hk : k < l.length) : ∃ g, a = some ⟨g, 0, none⟩ ∧ w.cell? ⟨g, k, none⟩ = some (encStr l[k]) ∧ w.frozen? ⟨g, k, none⟩ = false := by
  rcases h.2 with ⟨e, h0⟩ | ⟨g, c', cur, e, hb, hg, hn, hm, hs, ht⟩
  · rw [h0] at hk; exact absurd hk (Nat.not_lt_zero _)
  · cases e
    refine ⟨g, rfl, ?_, by simp [World.frozen?, hg]⟩
    rw [cell_of_row w g k cur _ (0, 0) hg]
    have h1 : (l.map encStr)[k]? = some (encStr l[k]) := by simp [hk]
    rw [← ht, List.getElem?_take, if_pos (by omega)] at h1
    simpa using h1
theorem OwnN.setAt {n0 : Nat} {w : World} {g n c : Nat} {l : List (List UInt8)} (h : OwnN n0 w (.slice (some ⟨g, 0, none⟩) n c) l) (k : Nat) (x : List UInt8) : OwnN n0 (w.setCell ⟨g, k, none⟩ (encStr x)) (.slice (some ⟨g, 0, none⟩) n c) (l.set k x) := by
  obtain ⟨h1, h2⟩ := h
  refine ⟨by simp, ?_⟩
  rcases h2 with ⟨e, -⟩ | ⟨g', c', cur, e, hb, hg, hn, hm, hs, ht⟩
  · cases e
  · cases e
    refine .inr ⟨g, c, cur.setIfInBounds k (encStr x), by simp, hb, heap_setCell_row hg _, by simpa using hn, hm, by simpa using hs, ?_⟩
    simp only [Array.toList_setIfInBounds, List.length_set]
    rw [List.take_set, ht]
    simp [List.map_set]

set_option maxRecDepth 100000 in
set_option maxHeartbeats 2000000 in
theorem whole_any {w : World} {b rb : Nat} {F : Nat → Prop} {D : DM} {m : Nat} {es : Array MapEntry} {clock : Nat} {fv : Value} {S : List FileM} {R : DM} (h : DocAt w b rb F D m es clock fv S R) :
    Calls Tryd.prog 13 #[.agg #[.pointer (some ⟨b, 0, none⟩), .pointer (some ⟨rb, 0, none⟩)]] w fun e w' => e = .returned (.bool true) ∧ Kept (fun _ => False) w w' := by
  have H := Lib.hid h
  obtain ⟨w0, hw0⟩ : ∃ W, w.alloc (.cells #[.pointer (some ⟨b, 0, none⟩), .pointer (some ⟨rb, 0, none⟩)] 29) = W := ⟨_, rfl⟩
  have hk0 : Kept (fun _ => False) w w0 := by rw [← hw0]; exact (Kept.refl _ _).alloc _
  have b0 : w0.heap[w.heap.size]? = some (.cells #[.pointer (some ⟨b, 0, none⟩), .pointer (some ⟨rb, 0, none⟩)] 29 (0, 0)) := by rw [← hw0]; exact heap_alloc_new _ _
  have HBX : Hid (∀ W, Kept (fun _ => False) w0 W → W.cell? ⟨w.heap.size, 0, none⟩ = some (.pointer (some ⟨b, 0, none⟩)) ∧ W.cell? ⟨w.heap.size, 1, none⟩ = some (.pointer (some ⟨rb, 0, none⟩))) := Lib.hid (fun W hk => ⟨hk.cell (by simp [World.cell?, b0]) (fun f => f), hk.cell (by simp [World.cell?, b0]) (fun f => f)⟩)
  have HD : Hid (∀ W, Kept (fun _ => False) w0 W → DocAt W b rb F D m es clock fv S R) := Lib.hid (fun W hk => (h.keptN hk0).keptN hk)
  have HK0 := Lib.hid hk0
  have ⟨x0, x1⟩ := HBX.out w0 (Kept.refl _ _)
  have hN1 := names_any (HD.out w0 (Kept.refl _ _)).disk
  obtain ⟨L, hL⟩ : ∃ L, namesOf D.files = L := ⟨_, rfl⟩
  have hL2 : namesOf R.files = L := by rw [names_same h.like.same h.ref.ok.nodup h.disk.ok.nodup]; exact hL
  have HMEM : Hid (L.length ≤ 256) := Lib.hid (by
    rw [← hL]; unfold namesOf; rw [List.length_mergeSort, List.length_map]; exact h.disk.ok.count)
  rw [hL] at hN1
  have HL2 := Lib.hid hL2
  clear h hk0 b0 hL hL2
  go_enter Tryd.func13, Tryd.ntmps13
  go_wp2_with fail
  refine hN1.mono ?_
  rintro e w1 ⟨v1, rfl, ho1, hk1, hnew1⟩
  have HK1 := Lib.hid hk1
  have ⟨y0, y1⟩ := HBX.out w1 HK1.out
  have hN2 := rnames_any (HD.out w1 HK1.out).ref
  rw [HL2.out] at hN2
  clear hk1 x0 x1 hN1
  go_wp2_with fail
  refine hN2.mono ?_
  rintro e w2 ⟨⟨v2, rfl, ho2⟩, hk2⟩
  have HK2 : Hid (Kept (fun _ => False) w0 w2) := Lib.hid (HK1.out.trans hk2 (fun _ _ f => f))
  have ho1' : OwnN 0 w2 v1 L := ownsRow_keptR ho1 hk2 (fun _ _ f => f)
  obtain ⟨a1, c1, rfl, -, -⟩ := ho1'.form
  obtain ⟨a2, c2, rfl, -, -⟩ := ho2.form
  obtain ⟨n, hn⟩ : ∃ n, L.length = n := ⟨_, rfl⟩
  have hn2 : n ≤ 256 := by have := HMEM.out; omega
  have HO1 := Lib.hid ho1'
  have HO2 := Lib.hid ho2
  have HN1 := Lib.hid hnew1
  have HN := Lib.hid hn
  have HV2 : Hid (∀ g, (Value.slice a2 L.length c2).ownBlock = some g → w1.heap.size ≤ g) := Lib.hid (fun g e => (ownsRow_blockR ho2 e).1)
  have HV1 : Hid (∀ g, (Value.slice a1 L.length c1).ownBlock = some g → g < w1.heap.size) := Lib.hid (fun g e => World.ownsRow.lt ho1 g e |>.2)
  rw [hn] at HO1 HO2 HN1 HV1 HV2 ⊢
  clear ho1 ho1' ho2 hk2 hnew1 hn y0 y1 hN2
  go_wp2_with fail
  go_loopg [21] n (fun gg i wr => ∃ k : Nat, k + gg = n ∧ i = .int .i64 k ∧ Hid (∃ xs, OwnN 0 wr (.slice a1 n c1) xs ∧ xs.length = n ∧ ∀ j, k ≤ j → xs[j]? = L[j]?) ∧ Hid (Kept (fun q => (Value.slice a1 n c1).ownBlock = some q) w2 wr))
  case atStart => exact ⟨0, by omega, rfl, Lib.hid ⟨L, HO1.out, HN.out, fun _ _ => rfl⟩, Lib.hid (Kept.refl _ _)⟩
  case round =>
    obtain ⟨k, hkg, rfl, HXS, HKL⟩ := hrel
    have HKW : Hid (Kept (fun _ => False) w0 wr) := Lib.hid (HK2.out.more HKL.out (fun i e => HN1.out i e))
    by_cases hlt : k < n
    · obtain ⟨xs, hx, hxl, hxe⟩ := HXS.out
      have hkL : k < L.length := by have := HN.out; omega
      obtain ⟨q, rfl, hcq, hfq⟩ := hx.cellAt (k := k) (by omega)
      have hxk : xs[k]'(by omega) = L[k] := by
        have h9 := hxe k (Nat.le_refl _)
        rw [List.getElem?_eq_getElem (by omega), List.getElem?_eq_getElem hkL] at h9
        exact Option.some.inj h9
      rw [hxk] at hcq
      have hO2 := HO2.out.keptF HKL.out (fun g e e2 => by have := HV2.out g e; have := HV1.out g e2; omega)
      obtain ⟨q2, rfl, hcq2, -⟩ := hO2.cellAt hkL
      obtain ⟨s, hs⟩ : ∃ s : ByteArray, encStr L[k] = .string s := ⟨_, rfl⟩
      rw [hs] at hcq hcq2
      have hkd : Kept (fun _ => False) wr wr.drew := drew_kept wr
      have HKD : Hid (Kept (fun _ => False) w0 wr.drew) := Lib.hid (HKW.out.trans hkd (fun _ _ f => f))
      have ⟨z0, z1⟩ := HBX.out _ HKD.out
      have HFL := Lib.hid (file_any (HD.out _ HKD.out) s)
      have hss := (Lib.bytes_beq_false_iff s s)
      have HX2 : Hid (∀ W, Kept (fun _ => False) wr W → W.cell? ⟨q, k, none⟩ = some (.string s) ∧ W.frozen? ⟨q, k, none⟩ = false ∧ (∃ xs, OwnN 0 (W.setCell ⟨q, k, none⟩ (.string { data := #[33] })) (.slice (some ⟨q, 0, none⟩) n c1) xs ∧ xs.length = n ∧ ∀ j, k + 1 ≤ j → xs[j]? = L[j]?) ∧ Kept (fun q' => (Value.slice (some ⟨q, 0, none⟩) n c1).ownBlock = some q') w2 (W.setCell ⟨q, k, none⟩ (.string { data := #[33] }))) := Lib.hid (fun W hk => by
        have hx' := hx.keptF hk (fun _ _ f => f)
        obtain ⟨q', e, -, hf'⟩ := hx'.cellAt (k := k) (by omega)
        cases e
        refine ⟨hk.cell hcq (fun f => f), hf', ⟨xs.set k [33], hx'.setAt k [33], by rw [List.length_set]; exact hxl, fun j hj => ?_⟩, (HKL.out.trans (hk.mono (fun _ _ f => f.elim)) (fun _ _ e => e)).trans (keptCellR W q k _) (fun i _ e => by rw [e]; rfl)⟩
        rw [List.getElem?_set_ne (by omega)]
        exact hxe j (by omega))
      have HS0 : wr.drew.cell? ⟨q, k, none⟩ = some (.string s) ∧ wr.drew.cell? ⟨q2, k, none⟩ = some (.string s) ∧ wr.drew.cell? ⟨w.heap.size, 0, none⟩ = some (.pointer (some ⟨b, 0, none⟩)) ∧ wr.drew.cell? ⟨w.heap.size, 1, none⟩ = some (.pointer (some ⟨rb, 0, none⟩)) := ⟨hcq, hcq2, z0, z1⟩
      have hki : (k : Int) < (n : Int) := by omega
      have hk00 : (0 : Int) ≤ (k : Int) := by omega
      clear hxe hxl hx hO2 hfq hxk hs hkd hss z0 z1 hcq hcq2
      go_wp2_with fail
      refine wp_region_phase (fun W => W.cell? ⟨q, k, none⟩ = some (.string s) ∧ W.cell? ⟨q2, k, none⟩ = some (.string s) ∧ W.cell? ⟨w.heap.size, 0, none⟩ = some (.pointer (some ⟨b, 0, none⟩)) ∧ W.cell? ⟨w.heap.size, 1, none⟩ = some (.pointer (some ⟨rb, 0, none⟩))) (fun _ => false) (by kernel_rfl) HS0 (fun _ => ?_)
      refine wpAnyG_take (i := 0) (v := ?_) rfl (by kernel_rfl) (by kernel_rfl) (by kernel_rfl) (by kernel_rfl) (fun _ _ _ h => h) (Or.inl ⟨by rfl, ?_⟩) HS0 ?_
      rotate_left
      (intro w' hSw'; have ⟨_, _, _, _⟩ := hSw'; go_simp; try with_reducible rfl)
      try simp only [Act.put, List.setIfInBounds_toArray, List.set_cons_zero, List.set_cons_succ, List.getElem_toArray, List.getElem_cons_zero, List.getElem_cons_succ]
      refine wpAnyG_take (i := 1) (v := ?_) rfl (by kernel_rfl) (by kernel_rfl) (by kernel_rfl) (by kernel_rfl) (fun _ _ _ h => h) (Or.inl ⟨by rfl, ?_⟩) HS0 ?_
      rotate_left
      (intro w' hSw'; have ⟨_, _, _, _⟩ := hSw'; go_simp; try with_reducible rfl)
      try simp only [Act.put, List.setIfInBounds_toArray, List.set_cons_zero, List.set_cons_succ, List.getElem_toArray, List.getElem_cons_zero, List.getElem_cons_succ]
      refine wpAnyG_take (i := 2) (v := ?_) rfl (by kernel_rfl) (by kernel_rfl) (by kernel_rfl) (by kernel_rfl) (fun _ _ _ h => h) (Or.inl ⟨by rfl, ?_⟩) HS0 ?_
      rotate_left
      (intro w' hSw'; have ⟨_, _, _, _⟩ := hSw'; go_simp; try with_reducible rfl)
      try simp only [Act.put, List.setIfInBounds_toArray, List.set_cons_zero, List.set_cons_succ, List.getElem_toArray, List.getElem_cons_zero, List.getElem_cons_succ]
      refine wpAnyG_take (i := 3) (v := ?_) rfl (by kernel_rfl) (by kernel_rfl) (by kernel_rfl) (by kernel_rfl) (fun _ _ _ h => h) (Or.inl ⟨by rfl, ?_⟩) HS0 ?_
      rotate_left
      (intro w' hSw'; have ⟨_, _, _, _⟩ := hSw'; go_simp; try with_reducible rfl)
      try simp only [Act.put, List.setIfInBounds_toArray, List.set_cons_zero, List.set_cons_succ, List.getElem_toArray, List.getElem_cons_zero, List.getElem_cons_succ]
      refine wpAnyG_take (i := 4) (v := ?_) rfl (by kernel_rfl) (by kernel_rfl) (by kernel_rfl) (by kernel_rfl) (fun _ _ _ h => h) (Or.inl ⟨by rfl, ?_⟩) HS0 ?_
      rotate_left
      (intro w' hSw'; have ⟨_, _, _, _⟩ := hSw'; go_simp; try with_reducible rfl)
      try simp only [Act.put, List.setIfInBounds_toArray, List.set_cons_zero, List.set_cons_succ, List.getElem_toArray, List.getElem_cons_zero, List.getElem_cons_succ]
      refine wpAnyG_take (i := 5) (v := ?_) rfl (by kernel_rfl) (by kernel_rfl) (by kernel_rfl) (by kernel_rfl) (fun _ _ _ h => h) (Or.inl ⟨by rfl, ?_⟩) HS0 ?_
      rotate_left
      (intro w' hSw'; have ⟨_, _, _, _⟩ := hSw'; go_simp; try with_reducible rfl)
      try simp only [Act.put, List.setIfInBounds_toArray, List.set_cons_zero, List.set_cons_succ, List.getElem_toArray, List.getElem_cons_zero, List.getElem_cons_succ]
      refine wpAnyG_take (i := 6) (v := ?_) rfl (by kernel_rfl) (by kernel_rfl) (by kernel_rfl) (by kernel_rfl) (fun _ _ _ h => h) (Or.inl ⟨by rfl, ?_⟩) HS0 ?_
      rotate_left
      (intro w' hSw'; have ⟨_, _, _, _⟩ := hSw'; go_simp; try with_reducible rfl)
      try simp only [Act.put, List.setIfInBounds_toArray, List.set_cons_zero, List.set_cons_succ, List.getElem_toArray, List.getElem_cons_zero, List.getElem_cons_succ]
      refine wpAnyG_take (i := 7) (v := ?_) rfl (by kernel_rfl) (by kernel_rfl) (by kernel_rfl) (by kernel_rfl) (fun _ _ _ h => h) (Or.inl ⟨by rfl, ?_⟩) HS0 ?_
      rotate_left
      (intro w' hSw'; have ⟨_, _, _, _⟩ := hSw'; go_simp; try with_reducible rfl)
      try simp only [Act.put, List.setIfInBounds_toArray, List.set_cons_zero, List.set_cons_succ, List.getElem_toArray, List.getElem_cons_zero, List.getElem_cons_succ]
      refine wpAnyG_take (i := 8) (v := ?_) rfl (by kernel_rfl) (by kernel_rfl) (by kernel_rfl) (by kernel_rfl) (fun _ _ _ h => h) (Or.inl ⟨by rfl, ?_⟩) HS0 ?_
      rotate_left
      (intro w' hSw'; have ⟨_, _, _, _⟩ := hSw'; go_simp; try with_reducible rfl)
      try simp only [Act.put, List.setIfInBounds_toArray, List.set_cons_zero, List.set_cons_succ, List.getElem_toArray, List.getElem_cons_zero, List.getElem_cons_succ]
      refine wpAnyG_take (i := 9) (v := ?_) rfl (by kernel_rfl) (by kernel_rfl) (by kernel_rfl) (by kernel_rfl) (fun _ _ _ h => h) (Or.inl ⟨by rfl, ?_⟩) HS0 ?_
      rotate_left
      (intro w' hSw'; have ⟨_, _, _, _⟩ := hSw'; go_simp; try with_reducible rfl)
      try simp only [Act.put, List.setIfInBounds_toArray, List.set_cons_zero, List.set_cons_succ, List.getElem_toArray, List.getElem_cons_zero, List.getElem_cons_succ]
      refine wpAnyG_take (i := 10) (v := ?_) rfl (by kernel_rfl) (by kernel_rfl) (by kernel_rfl) (by kernel_rfl) (fun _ _ _ h => h) (Or.inl ⟨by rfl, ?_⟩) HS0 ?_
      rotate_left
      (intro w' hSw'; have ⟨_, _, _, _⟩ := hSw'; go_simp; try with_reducible rfl)
      try simp only [Act.put, List.setIfInBounds_toArray, List.set_cons_zero, List.set_cons_succ, List.getElem_toArray, List.getElem_cons_zero, List.getElem_cons_succ]
      refine wpAnyG_take (i := 11) (v := ?_) rfl (by kernel_rfl) (by kernel_rfl) (by kernel_rfl) (by kernel_rfl) (fun _ _ _ h => h) (Or.inl ⟨by rfl, ?_⟩) HS0 ?_
      rotate_left
      (intro w' hSw'; have ⟨_, _, _, _⟩ := hSw'; go_simp; try with_reducible rfl)
      try simp only [Act.put, List.setIfInBounds_toArray, List.set_cons_zero, List.set_cons_succ, List.getElem_toArray, List.getElem_cons_zero, List.getElem_cons_succ]
      refine wpAnyG_take (i := 12) (v := ?_) rfl (by kernel_rfl) (by kernel_rfl) (by kernel_rfl) (by kernel_rfl) (fun _ _ _ h => h) (Or.inl ⟨by rfl, ?_⟩) HS0 ?_
      rotate_left
      (intro w' hSw'; have ⟨_, _, _, _⟩ := hSw'; go_simp; try with_reducible rfl)
      try simp only [Act.put, List.setIfInBounds_toArray, List.set_cons_zero, List.set_cons_succ, List.getElem_toArray, List.getElem_cons_zero, List.getElem_cons_succ]
      refine wpAnyG_take (i := 13) (v := ?_) rfl (by kernel_rfl) (by kernel_rfl) (by kernel_rfl) (by kernel_rfl) (fun _ _ _ h => h) (Or.inl ⟨by rfl, ?_⟩) HS0 ?_
      rotate_left
      (intro w' hSw'; have ⟨_, _, _, _⟩ := hSw'; go_simp; try with_reducible rfl)
      try simp only [Act.put, List.setIfInBounds_toArray, List.set_cons_zero, List.set_cons_succ, List.getElem_toArray, List.getElem_cons_zero, List.getElem_cons_succ]
      refine wpAnyG_take (i := 14) (v := ?_) rfl (by kernel_rfl) (by kernel_rfl) (by kernel_rfl) (by kernel_rfl) (fun _ _ _ h => h) (Or.inl ⟨by rfl, ?_⟩) HS0 ?_
      rotate_left
      (intro w' hSw'; have ⟨_, _, _, _⟩ := hSw'; go_simp; try with_reducible rfl)
      try simp only [Act.put, List.setIfInBounds_toArray, List.set_cons_zero, List.set_cons_succ, List.getElem_toArray, List.getElem_cons_zero, List.getElem_cons_succ]
      refine wpAnyG_ready (rs := [15]) (by kernel_rfl) (by simp) ?_
      refine AllG.cons rfl (ph' := false) (by kernel_rfl) (fun K hK => ?_) AllG.nil
      go_simp
      go_at_call 33
      refine HFL.out.mono ?_
      rintro e wf ⟨rfl, hkf⟩
      have HS1 : wf.cell? ⟨q, k, none⟩ = some (.string s) ∧ wf.cell? ⟨q2, k, none⟩ = some (.string s) ∧ wf.cell? ⟨w.heap.size, 0, none⟩ = some (.pointer (some ⟨b, 0, none⟩)) ∧ wf.cell? ⟨w.heap.size, 1, none⟩ = some (.pointer (some ⟨rb, 0, none⟩)) := ⟨hkf.cell HS0.1 (fun f => f), hkf.cell HS0.2.1 (fun f => f), hkf.cell HS0.2.2.1 (fun f => f), hkf.cell HS0.2.2.2 (fun f => f)⟩
      refine hK.out _ _ (fun _ => HS1) ?_
      clear hK K
      try simp only [Act.put, List.setIfInBounds_toArray, List.set_cons_zero, List.set_cons_succ, List.getElem_toArray, List.getElem_cons_zero, List.getElem_cons_succ]
      refine wpAnyG_takeU (i := 16) (v := ?_) rfl (by kernel_rfl) (by kernel_rfl) (by kernel_rfl) (by kernel_rfl) (fun _ _ _ h => h) (Or.inl ⟨by rfl, ?_⟩) (fun _ => HS1) ?_
      rotate_left
      (intro w' hSw'; go_simp; try with_reducible rfl)
      try simp only [Act.put, List.setIfInBounds_toArray, List.set_cons_zero, List.set_cons_succ, List.getElem_toArray, List.getElem_cons_zero, List.getElem_cons_succ]
      refine wpAnyG_takeU (i := 17) (v := ?_) rfl (by kernel_rfl) (by kernel_rfl) (by kernel_rfl) (by kernel_rfl) (fun _ _ _ h => h) (Or.inl ⟨by rfl, ?_⟩) (fun _ => HS1) ?_
      rotate_left
      (intro w' hSw'; go_simp; try with_reducible rfl)
      try simp only [Act.put, List.setIfInBounds_toArray, List.set_cons_zero, List.set_cons_succ, List.getElem_toArray, List.getElem_cons_zero, List.getElem_cons_succ]
      refine wpAnyG_done (by kernel_rfl) ?_ _
      obtain ⟨hcx, hfx, hxs, hkx⟩ := HX2.out wf ((drew_kept wr).trans hkf (fun _ _ f => f))
      have HXS2 := Lib.hid hxs
      have HKX := Lib.hid hkx
      clear HS0 HS1 HX2 hkf hxs hkx HFL
      go_wp2_with fail
      go_roundg (gk - 1)
      case measure => omega
      case rel => exact ⟨k + 1, by omega, by go_num, HXS2, HKX⟩
    · have ⟨z0, z1⟩ := HBX.out wr HKW.out
      have hCU := cutting_any (HD.out wr HKW.out).disk
      have HKD : Hid (Kept (fun _ => False) w0 wr.drew) := Lib.hid (HKW.out.trans (drew_kept wr) (fun _ _ f => f))
      have HWR := Lib.hid (writes_any (HD.out wr.drew HKD.out).disk)
      obtain ⟨-, r1, r2, -⟩ := (HD.out wr HKW.out).ref.c
      have hcu := H.out.like.cut
      have hle := H.out.like.left
      have hwe := H.out.like.writes
      have l0 := H.out.disk.ok.l0
      rw [hcu, hle] at r2
      rw [hwe] at r1
      clear hcu hle hwe HXS
      obtain ⟨dl, hdl⟩ : ∃ x, D.left = x := ⟨_, rfl⟩
      obtain ⟨dw, hdw⟩ : ∃ x, D.writes = x := ⟨_, rfl⟩
      rw [hdl] at r2 hCU l0
      rw [hdw] at r1 HWR
      have HS0 : wr.drew.cell? ⟨w.heap.size, 0, none⟩ = some (.pointer (some ⟨b, 0, none⟩)) ∧ wr.drew.cell? ⟨w.heap.size, 1, none⟩ = some (.pointer (some ⟨rb, 0, none⟩)) ∧ wr.drew.cell? ⟨rb, 1, none⟩ = some (.int .i64 dw) := ⟨z0, z1, r1⟩
      clear hdl hdw
      cases hc : D.cut with
      | true =>
        rw [hc] at hCU r2
        simp only [if_true] at hCU r2
        clear hc
        go_wp2_with fail
        refine hCU.mono ?_
        rintro e w9 ⟨rfl, rfl⟩
        go_wp2_with fail
        refine wp_region_phase (fun W => W.cell? ⟨w.heap.size, 0, none⟩ = some (.pointer (some ⟨b, 0, none⟩)) ∧ W.cell? ⟨w.heap.size, 1, none⟩ = some (.pointer (some ⟨rb, 0, none⟩)) ∧ W.cell? ⟨rb, 1, none⟩ = some (.int .i64 dw)) (fun _ => false) (by kernel_rfl) HS0 (fun _ => ?_)
        refine wpAnyG_take (i := 0) (v := ?_) rfl (by kernel_rfl) (by kernel_rfl) (by kernel_rfl) (by kernel_rfl) (fun _ _ _ h => h) (Or.inl ⟨by rfl, ?_⟩) HS0 ?_
        rotate_left
        (intro w' hSw'; have ⟨_, _, _⟩ := hSw'; go_simp; try with_reducible rfl)
        try simp only [Act.put, List.setIfInBounds_toArray, List.set_cons_zero, List.set_cons_succ, List.getElem_toArray, List.getElem_cons_zero, List.getElem_cons_succ]
        refine wpAnyG_take (i := 1) (v := ?_) rfl (by kernel_rfl) (by kernel_rfl) (by kernel_rfl) (by kernel_rfl) (fun _ _ _ h => h) (Or.inl ⟨by rfl, ?_⟩) HS0 ?_
        rotate_left
        (intro w' hSw'; have ⟨_, _, _⟩ := hSw'; go_simp; try with_reducible rfl)
        try simp only [Act.put, List.setIfInBounds_toArray, List.set_cons_zero, List.set_cons_succ, List.getElem_toArray, List.getElem_cons_zero, List.getElem_cons_succ]
        refine wpAnyG_take (i := 3) (v := ?_) rfl (by kernel_rfl) (by kernel_rfl) (by kernel_rfl) (by kernel_rfl) (fun _ _ _ h => h) (Or.inl ⟨by rfl, ?_⟩) HS0 ?_
        rotate_left
        (intro w' hSw'; have ⟨_, _, _⟩ := hSw'; go_simp; try with_reducible rfl)
        try simp only [Act.put, List.setIfInBounds_toArray, List.set_cons_zero, List.set_cons_succ, List.getElem_toArray, List.getElem_cons_zero, List.getElem_cons_succ]
        refine wpAnyG_take (i := 4) (v := ?_) rfl (by kernel_rfl) (by kernel_rfl) (by kernel_rfl) (by kernel_rfl) (fun _ _ _ h => h) (Or.inl ⟨by rfl, ?_⟩) HS0 ?_
        rotate_left
        (intro w' hSw'; have ⟨_, _, _⟩ := hSw'; go_simp; try with_reducible rfl)
        try simp only [Act.put, List.setIfInBounds_toArray, List.set_cons_zero, List.set_cons_succ, List.getElem_toArray, List.getElem_cons_zero, List.getElem_cons_succ]
        refine wpAnyG_take (i := 5) (v := ?_) rfl (by kernel_rfl) (by kernel_rfl) (by kernel_rfl) (by kernel_rfl) (fun _ _ _ h => h) (Or.inl ⟨by rfl, ?_⟩) HS0 ?_
        rotate_left
        (intro w' hSw'; have ⟨_, _, _⟩ := hSw'; go_simp; try with_reducible rfl)
        try simp only [Act.put, List.setIfInBounds_toArray, List.set_cons_zero, List.set_cons_succ, List.getElem_toArray, List.getElem_cons_zero, List.getElem_cons_succ]
        refine wpAnyG_take (i := 6) (v := ?_) rfl (by kernel_rfl) (by kernel_rfl) (by kernel_rfl) (by kernel_rfl) (fun _ _ _ h => h) (Or.inl ⟨by rfl, ?_⟩) HS0 ?_
        rotate_left
        (intro w' hSw'; have ⟨_, _, _⟩ := hSw'; go_simp; try with_reducible rfl)
        try simp only [Act.put, List.setIfInBounds_toArray, List.set_cons_zero, List.set_cons_succ, List.getElem_toArray, List.getElem_cons_zero, List.getElem_cons_succ]
        refine wpAnyG_take (i := 7) (v := ?_) rfl (by kernel_rfl) (by kernel_rfl) (by kernel_rfl) (by kernel_rfl) (fun _ _ _ h => h) (Or.inl ⟨by rfl, ?_⟩) HS0 ?_
        rotate_left
        (intro w' hSw'; have ⟨_, _, _⟩ := hSw'; go_simp; try with_reducible rfl)
        try simp only [Act.put, List.setIfInBounds_toArray, List.set_cons_zero, List.set_cons_succ, List.getElem_toArray, List.getElem_cons_zero, List.getElem_cons_succ]
        refine wpAnyG_ready (rs := [2]) (by kernel_rfl) (by simp) ?_
        refine AllG.cons rfl (ph' := false) (by kernel_rfl) (fun K hK => ?_) AllG.nil
        go_simp
        go_at_call 20
        refine HWR.out.mono ?_
        rintro e wf ⟨rfl, rfl⟩
        refine hK.out _ _ (fun _ => HS0) ?_
        clear hK K
        try simp only [Act.put, List.setIfInBounds_toArray, List.set_cons_zero, List.set_cons_succ, List.getElem_toArray, List.getElem_cons_zero, List.getElem_cons_succ]
        refine wpAnyG_takeU (i := 8) (v := ?_) rfl (by kernel_rfl) (by kernel_rfl) (by kernel_rfl) (by kernel_rfl) (fun _ _ _ h => h) (Or.inl ⟨by rfl, ?_⟩) (fun _ => HS0) ?_
        rotate_left
        (intro w' hSw'; go_simp; try with_reducible rfl)
        try simp only [Act.put, List.setIfInBounds_toArray, List.set_cons_zero, List.set_cons_succ, List.getElem_toArray, List.getElem_cons_zero, List.getElem_cons_succ]
        refine wpAnyG_takeU (i := 9) (v := ?_) rfl (by kernel_rfl) (by kernel_rfl) (by kernel_rfl) (by kernel_rfl) (fun _ _ _ h => h) (Or.inl ⟨by rfl, ?_⟩) (fun _ => HS0) ?_
        rotate_left
        (intro w' hSw'; go_simp; try with_reducible rfl)
        try simp only [Act.put, List.setIfInBounds_toArray, List.set_cons_zero, List.set_cons_succ, List.getElem_toArray, List.getElem_cons_zero, List.getElem_cons_succ]
        refine wpAnyG_done (by kernel_rfl) ?_ _
        go_wp2_with fail
        go_ret
        exact ⟨rfl, HK0.out.trans HKD.out (fun _ _ f => f)⟩
      | false =>
        rw [hc] at hCU r2
        simp only [Bool.false_eq_true, if_false] at hCU r2
        clear hc
        go_wp2_with fail
        refine hCU.mono ?_
        rintro e w9 ⟨rfl, rfl⟩
        go_wp2_with fail
        refine wp_region_phase (fun W => W.cell? ⟨w.heap.size, 0, none⟩ = some (.pointer (some ⟨b, 0, none⟩)) ∧ W.cell? ⟨w.heap.size, 1, none⟩ = some (.pointer (some ⟨rb, 0, none⟩)) ∧ W.cell? ⟨rb, 1, none⟩ = some (.int .i64 dw)) (fun _ => false) (by kernel_rfl) HS0 (fun _ => ?_)
        refine wpAnyG_take (i := 0) (v := ?_) rfl (by kernel_rfl) (by kernel_rfl) (by kernel_rfl) (by kernel_rfl) (fun _ _ _ h => h) (Or.inl ⟨by rfl, ?_⟩) HS0 ?_
        rotate_left
        (intro w' hSw'; have ⟨_, _, _⟩ := hSw'; go_simp; try with_reducible rfl)
        try simp only [Act.put, List.setIfInBounds_toArray, List.set_cons_zero, List.set_cons_succ, List.getElem_toArray, List.getElem_cons_zero, List.getElem_cons_succ]
        refine wpAnyG_take (i := 1) (v := ?_) rfl (by kernel_rfl) (by kernel_rfl) (by kernel_rfl) (by kernel_rfl) (fun _ _ _ h => h) (Or.inl ⟨by rfl, ?_⟩) HS0 ?_
        rotate_left
        (intro w' hSw'; have ⟨_, _, _⟩ := hSw'; go_simp; try with_reducible rfl)
        try simp only [Act.put, List.setIfInBounds_toArray, List.set_cons_zero, List.set_cons_succ, List.getElem_toArray, List.getElem_cons_zero, List.getElem_cons_succ]
        refine wpAnyG_take (i := 3) (v := ?_) rfl (by kernel_rfl) (by kernel_rfl) (by kernel_rfl) (by kernel_rfl) (fun _ _ _ h => h) (Or.inl ⟨by rfl, ?_⟩) HS0 ?_
        rotate_left
        (intro w' hSw'; have ⟨_, _, _⟩ := hSw'; go_simp; try with_reducible rfl)
        try simp only [Act.put, List.setIfInBounds_toArray, List.set_cons_zero, List.set_cons_succ, List.getElem_toArray, List.getElem_cons_zero, List.getElem_cons_succ]
        refine wpAnyG_take (i := 4) (v := ?_) rfl (by kernel_rfl) (by kernel_rfl) (by kernel_rfl) (by kernel_rfl) (fun _ _ _ h => h) (Or.inl ⟨by rfl, ?_⟩) HS0 ?_
        rotate_left
        (intro w' hSw'; have ⟨_, _, _⟩ := hSw'; go_simp; try with_reducible rfl)
        try simp only [Act.put, List.setIfInBounds_toArray, List.set_cons_zero, List.set_cons_succ, List.getElem_toArray, List.getElem_cons_zero, List.getElem_cons_succ]
        refine wpAnyG_take (i := 5) (v := ?_) rfl (by kernel_rfl) (by kernel_rfl) (by kernel_rfl) (by kernel_rfl) (fun _ _ _ h => h) (Or.inl ⟨by rfl, ?_⟩) HS0 ?_
        rotate_left
        (intro w' hSw'; have ⟨_, _, _⟩ := hSw'; go_simp; try with_reducible rfl)
        try simp only [Act.put, List.setIfInBounds_toArray, List.set_cons_zero, List.set_cons_succ, List.getElem_toArray, List.getElem_cons_zero, List.getElem_cons_succ]
        refine wpAnyG_take (i := 6) (v := ?_) rfl (by kernel_rfl) (by kernel_rfl) (by kernel_rfl) (by kernel_rfl) (fun _ _ _ h => h) (Or.inl ⟨by rfl, ?_⟩) HS0 ?_
        rotate_left
        (intro w' hSw'; have ⟨_, _, _⟩ := hSw'; go_simp; try with_reducible rfl)
        try simp only [Act.put, List.setIfInBounds_toArray, List.set_cons_zero, List.set_cons_succ, List.getElem_toArray, List.getElem_cons_zero, List.getElem_cons_succ]
        refine wpAnyG_take (i := 7) (v := ?_) rfl (by kernel_rfl) (by kernel_rfl) (by kernel_rfl) (by kernel_rfl) (fun _ _ _ h => h) (Or.inl ⟨by rfl, ?_⟩) HS0 ?_
        rotate_left
        (intro w' hSw'; have ⟨_, _, _⟩ := hSw'; go_simp; try with_reducible rfl)
        try simp only [Act.put, List.setIfInBounds_toArray, List.set_cons_zero, List.set_cons_succ, List.getElem_toArray, List.getElem_cons_zero, List.getElem_cons_succ]
        refine wpAnyG_ready (rs := [2]) (by kernel_rfl) (by simp) ?_
        refine AllG.cons rfl (ph' := false) (by kernel_rfl) (fun K hK => ?_) AllG.nil
        go_simp
        go_at_call 20
        refine HWR.out.mono ?_
        rintro e wf ⟨rfl, rfl⟩
        refine hK.out _ _ (fun _ => HS0) ?_
        clear hK K
        try simp only [Act.put, List.setIfInBounds_toArray, List.set_cons_zero, List.set_cons_succ, List.getElem_toArray, List.getElem_cons_zero, List.getElem_cons_succ]
        refine wpAnyG_takeU (i := 8) (v := ?_) rfl (by kernel_rfl) (by kernel_rfl) (by kernel_rfl) (by kernel_rfl) (fun _ _ _ h => h) (Or.inl ⟨by rfl, ?_⟩) (fun _ => HS0) ?_
        rotate_left
        (intro w' hSw'; go_simp; try with_reducible rfl)
        try simp only [Act.put, List.setIfInBounds_toArray, List.set_cons_zero, List.set_cons_succ, List.getElem_toArray, List.getElem_cons_zero, List.getElem_cons_succ]
        refine wpAnyG_takeU (i := 9) (v := ?_) rfl (by kernel_rfl) (by kernel_rfl) (by kernel_rfl) (by kernel_rfl) (fun _ _ _ h => h) (Or.inl ⟨by rfl, ?_⟩) (fun _ => HS0) ?_
        rotate_left
        (intro w' hSw'; go_simp; try with_reducible rfl)
        try simp only [Act.put, List.setIfInBounds_toArray, List.set_cons_zero, List.set_cons_succ, List.getElem_toArray, List.getElem_cons_zero, List.getElem_cons_succ]
        refine wpAnyG_done (by kernel_rfl) ?_ _
        go_wp2_with fail
        go_ret
        exact ⟨rfl, HK0.out.trans HKD.out (fun _ _ f => f)⟩
end Go.Proofs.YtjnhkepgoghogaaDoor
