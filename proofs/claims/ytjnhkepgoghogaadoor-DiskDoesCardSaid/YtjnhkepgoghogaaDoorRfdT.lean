/- espalierlaw02: room; world.does, an append. -/
import Derived.Test.YtjnhkepgoghogaaDoorRfdS
import Derived.Laws.MakeOwn
namespace Go.Proofs.YtjnhkepgoghogaaDoor
open Go.RowKit Go.ChangeMaps Go.MapKept
set_option linter.unusedSimpArgs false

set_option maxRecDepth 100000 in
theorem room_any (w : World) (a : Option Addr) (n c : Nat) (bs : List UInt8) (hv : IsB w (.slice a n c) bs) (hn : bs.length = n) (hb : n ≤ 140737488351232) :
    Calls Tryd.prog 35 #[.slice a n c] w fun e w' => (∃ g c', e = .returned (.slice (some ⟨g, 0, none⟩) (n + 3) c') ∧ OwnB w' (.slice (some ⟨g, 0, none⟩) (n + 3) c') (bs ++ [7, 7, 7]) ∧ w.heap.size ≤ g) ∧ Kept (fun _ => False) w w' := by
  obtain ⟨i0, hi, hz0, hz1, hz2⟩ := info_parts Tryd.info5
  obtain ⟨w1, hmk, ho1, hg1⟩ := run_make_own (P := Tryd.prog) w 0 32 5 i0 _ 1 Tryd.underlying32 hi hz0 hz1 .i64 .i64 (n + 9) (by rw [hz2]; omega) (by unfold maxLen; omega) (Nat.zero_le _)
  have hk1 : Kept (fun _ => False) w w1 := Kept.grown (Kept.refl _ _) hg1 (fun k e _ => by cases e)
  have ho1' : OwnB w1 (.slice (some ⟨w.heap.size, 0, none⟩) 0 (n + 9)) [] := ho1
  obtain ⟨v1, w2, hr2, ho2, hg2, hb2, -⟩ := run_append_bytes w1 _ (.slice a n c) [] bs ho1' (hv.keptF hk1 (fun _ _ f => f)) (by rw [hn]; simp only [List.length_nil]; omega)
  rw [List.nil_append] at ho2
  have hb2' : ∀ g, v1.ownBlock = some g → w.heap.size ≤ g := fun g e => by
    rcases hb2 g e with h | ⟨h, -⟩
    · cases h; exact Nat.le_refl _
    · have := hk1.size; omega
  have hk2 : Kept (fun _ => False) w w2 := hk1.more (Kept.grown (F := fun k => k = w.heap.size) (Kept.refl _ _) hg2 (fun k e _ => by cases e; rfl)) (fun i e => Nat.le_of_eq e.symm)
  obtain ⟨a1, c1, rfl, -, -⟩ := ho2.form
  obtain ⟨w3, hw3⟩ : ∃ W, w2.alloc (.cells #[.int .u8 7, .int .u8 7, .int .u8 7] 5) = W := ⟨_, rfl⟩
  have hk3 : Kept (fun _ => False) w2 w3 := by rw [← hw3]; exact (Kept.refl _ _).alloc _
  have hbA : w3.heap[w2.heap.size]? = some (.cells #[.int .u8 7, .int .u8 7, .int .u8 7] 5 (0, 0)) := by rw [← hw3]; exact heap_alloc_new _ _
  have hIs : IsB w3 (.slice (some ⟨w2.heap.size, 0, none⟩) 3 3) [7, 7, 7] := OwnB.isB (bs := [7, 7, 7]) ⟨rfl, .inr ⟨w2.heap.size, 3, _, rfl, Nat.zero_le _, hbA, Nat.le_refl _, by simp [maxLen], rfl, rfl⟩⟩
  obtain ⟨v4, w4, hr4, ho4, hg4, hb4, -⟩ := run_append_bytes w3 _ _ bs [7, 7, 7] (ho2.kept (fun g e => hk3.block g (ho2.lt g e) (fun f => f))) hIs (by rw [hn]; simp only [List.length_cons, List.length_nil]; omega)
  have hk4 : Kept (fun _ => False) w w4 := (hk2.trans hk3 (fun _ _ f => f)).more (Kept.grown (F := fun k => (Value.slice a1 bs.length c1).ownBlock = some k) (Kept.refl _ _) hg4 (fun k e _ => e)) (fun i e => hb2' i e)
  have HF : Hid ((∃ g c', v4 = .slice (some ⟨g, 0, none⟩) (n + 3) c' ∧ OwnB w4 (.slice (some ⟨g, 0, none⟩) (n + 3) c') (bs ++ [7, 7, 7]) ∧ w.heap.size ≤ g) ∧ Kept (fun _ => False) w w4) := Lib.hid ⟨by
    have hl : List.length (bs ++ ([7, 7, 7] : List UInt8)) = n + 3 := by simp [hn]
    rcases ho4.2 with ⟨e, h0⟩ | ⟨g, cap, cur, e, hrest⟩
    · rw [hl] at h0; omega
    · rw [hl] at e
      subst e
      refine ⟨g, cap, rfl, ho4, ?_⟩
      rcases hb4 g rfl with h | ⟨h, -⟩
      · exact hb2' g h
      · have := hk2.size; have := hk3.size; omega, hk4⟩
  rw [hn] at hr4 hr2
  have hmk' : (Instr.makeSlice 32 (.int .i64 0) (.int .i64 ((n : Int) + 9))).run Tryd.prog w = .ok (.slice (some ⟨w.heap.size, 0, none⟩) 0 (n + 9)) w1 := hmk
  clear hmk ho1 ho1' hg1 hk1 ho2 hg2 hb2 hb2' hk2 hk3 hbA hIs ho4 hg4 hb4 hk4 hi hz0 hz1 hz2
  have hn63 : n ≤ 9223372036854775000 := by omega
  go_enter Tryd.func35, Tryd.ntmps35
  go_wp2_with (first | (at_builtin; refine wpList_append_run rfl (.tmp 7) (.tmp 8) #[32, 32] rfl _ _ _ _ rfl rfl hr2 ?_) | (at_builtin; refine wpList_append_run rfl (.tmp 10) (.tmp 11) #[32, 32] rfl _ _ _ _ rfl rfl hr4 ?_))
  go_ret
  obtain ⟨⟨g, c', e, h1, h2⟩, hk⟩ := HF.out
  exact ⟨⟨g, c', congrArg Ending.returned e, h1, h2⟩, hk⟩
theorem append_big (D : DM) (s : ByteArray) (bs : List UInt8) (h : 4194304 < bs.length) : (D.append s bs).2 = D := by
  unfold DM.append
  split
  · rfl
  · split
    · rfl
    · rw [if_pos (by omega)]
def BoxN (W : World) (B OB b rb : Nat) (kind : Int) (name to : ByteArray) (nn : Int) (ba : Option Addr) (n bc : Nat) : Prop := W.cell? ⟨B, 0, none⟩ = some (.pointer (some ⟨b, 0, none⟩)) ∧ W.cell? ⟨B, 1, none⟩ = some (.pointer (some ⟨rb, 0, none⟩)) ∧ W.cell? ⟨OB, 0, none⟩ = some (.int .i64 kind) ∧ W.cell? ⟨OB, 1, none⟩ = some (.string name) ∧ W.cell? ⟨OB, 2, none⟩ = some (.string to) ∧ W.cell? ⟨OB, 3, none⟩ = some (.int .i64 nn) ∧ W.cell? ⟨OB, 4, none⟩ = some (.slice ba n bc)
theorem BoxN.kept {W W' : World} {B OB b rb : Nat} {kind : Int} {name to : ByteArray} {nn : Int} {ba : Option Addr} {n bc : Nat} (h : BoxN W B OB b rb kind name to nn ba n bc) {G : Nat → Prop} (hk : Kept G W W') (h1 : ¬ G B) (h2 : ¬ G OB) : BoxN W' B OB b rb kind name to nn ba n bc := by
  obtain ⟨e0, e1, e2, e3, e4, e5, e6⟩ := h
  exact ⟨hk.cell e0 h1, hk.cell e1 h1, hk.cell e2 h2, hk.cell e3 h2, hk.cell e4 h2, hk.cell e5 h2, hk.cell e6 h2⟩
set_option maxRecDepth 100000 in
set_option maxHeartbeats 4000000 in
theorem does0 {w : World} {b rb : Nat} {F : Nat → Prop} {D : DM} {m : Nat} {es : Array MapEntry} {clock : Nat} {fv : Value} {S : List FileM} {R : DM} (h : DocAt w b rb F D m es clock fv S R) (o : OpV) (hjw : (IntKind.u64.wrap o.kind).tmod 9 = 0) (hsn : o.name.size ≤ maxLen) (hv : IsB w o.bv o.bytes) (hbl : o.bytes.length ≤ 140737488351232) (hsep : o.bytes ≠ [] → ∀ g, o.bv.ownBlock = some g → ¬ F g) (hw : D.writes < 1000000000000000) :
    Calls Tryd.prog 14 #[.agg #[.pointer (some ⟨b, 0, none⟩), .pointer (some ⟨rb, 0, none⟩)], o.valD] w fun e w' => e = .returned (.bool true) ∧ NextD w b rb F D w' := by
  have HV0 := Lib.hid hv
  have HSEP := Lib.hid hsep
  clear hv hsep
  have H := Lib.hid h
  unfold OpV.valD
  obtain ⟨wa, hwa⟩ : ∃ W, w.alloc (.cells #[.pointer (some ⟨b, 0, none⟩), .pointer (some ⟨rb, 0, none⟩)] 29) = W := ⟨_, rfl⟩
  obtain ⟨w0, hw0⟩ : ∃ W, wa.alloc (.cells #[.int .i64 o.kind, .string o.name, .string o.to, .int .i64 o.n, .slice o.ba o.bytes.length o.bc] 34) = W := ⟨_, rfl⟩
  have hka : Kept (fun _ => False) w wa := by rw [← hwa]; exact (Kept.refl _ _).alloc _
  have hkb : Kept (fun _ => False) wa w0 := by rw [← hw0]; exact (Kept.refl _ _).alloc _
  have hk0 := hka.trans hkb (fun _ _ f => f)
  have hsa : wa.heap.size = w.heap.size + 1 := by rw [← hwa]; simp
  have ba : wa.heap[w.heap.size]? = some (.cells #[.pointer (some ⟨b, 0, none⟩), .pointer (some ⟨rb, 0, none⟩)] 29 (0, 0)) := by rw [← hwa]; exact heap_alloc_new _ _
  have bb : w0.heap[wa.heap.size]? = some (.cells #[.int .i64 o.kind, .string o.name, .string o.to, .int .i64 o.n, .slice o.ba o.bytes.length o.bc] 34 (0, 0)) := by rw [← hw0]; exact heap_alloc_new _ _
  have ba' := (hkb.block w.heap.size (by omega) (fun f => f)).trans ba
  have hB0 : BoxD w0 w.heap.size wa.heap.size b rb o := by
    refine ⟨?_, ?_, ?_, ?_, ?_, ?_, ?_⟩ <;> simp [World.cell?, ba', bb]
  have HB := Lib.hid hB0
  have HBX : Hid (∀ W, Kept F w0 W → BoxD W w.heap.size wa.heap.size b rb o) := Lib.hid (fun W hk => HB.out.kept hk (fun e => by have := H.out.lt _ e; omega) (fun e => by have := H.out.lt _ e; omega))
  have HK0 := Lib.hid hk0
  have H0 := Lib.hid (h.keptN hk0)
  have HS : Hid (w.heap.size ≤ w0.heap.size) := Lib.hid hk0.size
  obtain ⟨x0, x1, x2, x3, x4, x5, x6⟩ := hB0
  clear h hka hkb hk0 hsa ba bb ba'
  obtain ⟨kind, name, to, nn, bytes, ba, bc⟩ := o
  simp only [OpV.bv] at *
  obtain ⟨n, hn⟩ : ∃ n, bytes.length = n := ⟨_, rfl⟩
  have HN := Lib.hid hn
  have HV : Hid (IsB w0 (.slice ba n bc) bytes) := Lib.hid (by rw [← hn]; exact HV0.out.keptF HK0.out (fun _ _ f => f))
  have HVL : Hid (bytes ≠ [] → ∀ g, (Value.slice ba n bc).ownBlock = some g → g < w0.heap.size ∧ ¬ F g) := Lib.hid (fun hne g e => ⟨HV.out.block_lt hne g e, HSEP.out hne g (by rw [hn]; exact e)⟩)
  have HBY : Hid (∀ W, Kept F w0 W → BoxN W w.heap.size wa.heap.size b rb kind name to nn ba n bc) := Lib.hid (fun W hk => by
    have h9 := HBX.out W hk
    unfold BoxD at h9
    simp only [] at h9
    rw [hn] at h9
    exact h9)
  have HKF : Hid (∀ W, Kept (fun _ => False) w0 W → Kept F w0 W) := Lib.hid (fun W hk => hk.mono (fun _ _ f => f.elim))
  rw [hn] at hbl x6 hw0 ⊢
  have hnb : n ≤ 9223372036854775000 := by omega
  have HRM := Lib.hid (room_any w0 ba n bc bytes HV.out hn hbl)
  clear hn HV0 HSEP HBX
  go_enter Tryd.func14, Tryd.ntmps14
  go_wp2_with fail
  refine HRM.out.mono ?_
  rintro e w1 ⟨⟨g, c', rfl, ho1, hg⟩, hk1⟩
  have HO1 := Lib.hid ho1
  have HG := Lib.hid hg
  have HK1 := Lib.hid hk1
  have hkd : Kept (fun _ => False) w0 w1.drew := hk1.trans (drew_kept w1) (fun _ _ f => f)
  have HS0 := HBY.out w1.drew (HKF.out _ hkd)
  have hn3 : n ≤ n + 3 ∧ n + 3 ≤ c' := by
    obtain ⟨_, _, e, h1, -⟩ := ho1.form
    injection e with _ e2 e3
    simp only [List.length_append, List.length_cons, List.length_nil] at h1 e2
    omega
  obtain ⟨-, hnc⟩ := hn3
  have hnc2 : n ≤ c' := by omega
  have hnc3 : (n : Int) ≤ (c' : Int) := by omega
  have hn0 : (0 : Int) ≤ (n : Int) := by omega
  have HIN : Hid (∀ W, Kept (fun _ => False) w1 W → IsB W (.slice (some ⟨g, 0, none⟩) n c') bytes) := Lib.hid (fun W hk => by
    have h8 := (HO1.out.isB).keptF hk (fun _ _ f => f)
    have h9 := h8.take (k := n) (by simp [HN.out])
    rwa [List.take_left' HN.out] at h9)
  have HC1 := Lib.hid (append_any ((H0.out.keptN hkd)).disk hsn (some ⟨g, 0, none⟩) c' bytes (by rw [HN.out]; exact HIN.out _ (drew_kept w1)) (fun _ q e f => by
    have h7 := H0.out.lt q ((H0.out.all q).2 (.inl f))
    have h8 := HG.out
    have h9 : g = q := by injection e
    omega) (by omega))
  have HLP := Lib.hid (like_append H.out.like name bytes)
  obtain ⟨P, hP⟩ : ∃ P, D.append name bytes = P := ⟨_, rfl⟩
  obtain ⟨Q, hQ⟩ : ∃ Q, R.append name bytes = Q := ⟨_, rfl⟩
  have HPP := Lib.hid hP
  rw [hP, HN.out] at HC1
  rw [hP, hQ] at HLP
  have hwR : R.writes < 2305843009213693952 := by have := H.out.like.writes; omega
  have HKD := Lib.hid hkd
  clear hk1 ho1 hg hkd hP x0 x1 x2 x3 x4 x5 x6
  go_wp2_with fail
  refine wp_region_phase (fun W => BoxN W w.heap.size wa.heap.size b rb kind name to nn ba n bc) (fun _ => false) (by kernel_rfl) HS0 (fun _ => ?_)
  refine wpAnyG_take (i := 0) (v := ?_) rfl (by kernel_rfl) (by kernel_rfl) (by kernel_rfl) (by kernel_rfl) (fun _ _ _ h => h) (Or.inl ⟨by rfl, ?_⟩) HS0 ?_
  rotate_left
  (intro w' hSw'; have ⟨_, _, _, _, _, _, _⟩ := hSw'; go_simp; try with_reducible rfl)
  try simp only [Act.put, List.setIfInBounds_toArray, List.set_cons_zero, List.set_cons_succ, List.getElem_toArray, List.getElem_cons_zero, List.getElem_cons_succ]
  refine wpAnyG_take (i := 1) (v := ?_) rfl (by kernel_rfl) (by kernel_rfl) (by kernel_rfl) (by kernel_rfl) (fun _ _ _ h => h) (Or.inl ⟨by rfl, ?_⟩) HS0 ?_
  rotate_left
  (intro w' hSw'; have ⟨_, _, _, _, _, _, _⟩ := hSw'; go_simp; try with_reducible rfl)
  try simp only [Act.put, List.setIfInBounds_toArray, List.set_cons_zero, List.set_cons_succ, List.getElem_toArray, List.getElem_cons_zero, List.getElem_cons_succ]
  refine wpAnyG_take (i := 2) (v := ?_) rfl (by kernel_rfl) (by kernel_rfl) (by kernel_rfl) (by kernel_rfl) (fun _ _ _ h => h) (Or.inl ⟨by rfl, ?_⟩) HS0 ?_
  rotate_left
  (intro w' hSw'; have ⟨_, _, _, _, _, _, _⟩ := hSw'; go_simp; try with_reducible rfl)
  try simp only [Act.put, List.setIfInBounds_toArray, List.set_cons_zero, List.set_cons_succ, List.getElem_toArray, List.getElem_cons_zero, List.getElem_cons_succ]
  refine wpAnyG_take (i := 3) (v := ?_) rfl (by kernel_rfl) (by kernel_rfl) (by kernel_rfl) (by kernel_rfl) (fun _ _ _ h => h) (Or.inl ⟨by rfl, ?_⟩) HS0 ?_
  rotate_left
  (intro w' hSw'; have ⟨_, _, _, _, _, _, _⟩ := hSw'; go_simp; try with_reducible rfl)
  try simp only [Act.put, List.setIfInBounds_toArray, List.set_cons_zero, List.set_cons_succ, List.getElem_toArray, List.getElem_cons_zero, List.getElem_cons_succ]
  refine wpAnyG_take (i := 4) (v := ?_) rfl (by kernel_rfl) (by kernel_rfl) (by kernel_rfl) (by kernel_rfl) (fun _ _ _ h => h) (Or.inl ⟨by rfl, ?_⟩) HS0 ?_
  rotate_left
  (intro w' hSw'; have ⟨_, _, _, _, _, _, _⟩ := hSw'; go_simp; try with_reducible rfl)
  try simp only [Act.put, List.setIfInBounds_toArray, List.set_cons_zero, List.set_cons_succ, List.getElem_toArray, List.getElem_cons_zero, List.getElem_cons_succ]
  refine wpAnyG_take (i := 5) (v := ?_) rfl (by kernel_rfl) (by kernel_rfl) (by kernel_rfl) (by kernel_rfl) (fun _ _ _ h => h) (Or.inl ⟨by rfl, ?_⟩) HS0 ?_
  rotate_left
  (intro w' hSw'; have ⟨_, _, _, _, _, _, _⟩ := hSw'; go_simp; try with_reducible rfl)
  try simp only [Act.put, List.setIfInBounds_toArray, List.set_cons_zero, List.set_cons_succ, List.getElem_toArray, List.getElem_cons_zero, List.getElem_cons_succ]
  refine wpAnyG_take (i := 6) (v := ?_) rfl (by kernel_rfl) (by kernel_rfl) (by kernel_rfl) (by kernel_rfl) (fun _ _ _ h => h) (Or.inl ⟨by rfl, ?_⟩) HS0 ?_
  rotate_left
  (intro w' hSw'; have ⟨_, _, _, _, _, _, _⟩ := hSw'; go_simp; try with_reducible rfl)
  try simp only [Act.put, List.setIfInBounds_toArray, List.set_cons_zero, List.set_cons_succ, List.getElem_toArray, List.getElem_cons_zero, List.getElem_cons_succ]
  refine wpAnyG_take (i := 7) (v := ?_) rfl (by kernel_rfl) (by kernel_rfl) (by kernel_rfl) (by kernel_rfl) (fun _ _ _ h => h) (Or.inl ⟨by rfl, ?_⟩) HS0 ?_
  rotate_left
  (intro w' hSw'; have ⟨_, _, _, _, _, _, _⟩ := hSw'; go_simp; try with_reducible rfl)
  try simp only [Act.put, List.setIfInBounds_toArray, List.set_cons_zero, List.set_cons_succ, List.getElem_toArray, List.getElem_cons_zero, List.getElem_cons_succ]
  refine wpAnyG_take (i := 8) (v := ?_) rfl (by kernel_rfl) (by kernel_rfl) (by kernel_rfl) (by kernel_rfl) (fun _ _ _ h => h) (Or.inl ⟨by rfl, ?_⟩) HS0 ?_
  rotate_left
  (intro w' hSw'; have ⟨_, _, _, _, _, _, _⟩ := hSw'; go_simp; try with_reducible rfl)
  try simp only [Act.put, List.setIfInBounds_toArray, List.set_cons_zero, List.set_cons_succ, List.getElem_toArray, List.getElem_cons_zero, List.getElem_cons_succ]
  refine wpAnyG_ready (rs := [9]) (by kernel_rfl) (by simp) ?_
  refine AllG.cons rfl (ph' := false) (by kernel_rfl) (fun K hK => ?_) AllG.nil
  go_simp
  go_at_call 28
  refine HC1.out.mono ?_
  rintro e w2 ⟨rfl, es1, clk1, hA1⟩
  have hA1F : Kept F w1.drew w2 := hA1.kept.mono (fun i _ e => (H0.out.all i).2 (.inl e))
  have HK2 : Hid (Kept F w0 w2) := Lib.hid ((HKF.out _ HKD.out).trans hA1F (fun _ _ e => e))
  have HS1 := HBY.out w2 HK2.out
  refine hK.out _ _ (fun _ => HS1) ?_
  clear hK K
  try simp only [Act.put, List.setIfInBounds_toArray, List.set_cons_zero, List.set_cons_succ, List.getElem_toArray, List.getElem_cons_zero, List.getElem_cons_succ]
  refine wpAnyG_takeU (i := 10) (v := ?_) rfl (by kernel_rfl) (by kernel_rfl) (by kernel_rfl) (by kernel_rfl) (fun _ _ _ h => h) (Or.inl ⟨by rfl, ?_⟩) (fun _ => HS1) ?_
  rotate_left
  (intro w' hSw'; go_simp; try with_reducible rfl)
  try simp only [Act.put, List.setIfInBounds_toArray, List.set_cons_zero, List.set_cons_succ, List.getElem_toArray, List.getElem_cons_zero, List.getElem_cons_succ]
  refine wpAnyG_done (by kernel_rfl) ?_ _
  have HGF : Hid (¬ F g) := Lib.hid (fun e => by have h7 := H0.out.lt g e; have h8 := HG.out; omega)
  have HGD : Hid (∀ k, diskF b m es1 k → k ≠ g) := Lib.hid (fun k e f => by
    subst f
    rcases hA1.foot k e with e | e
    · exact HGF.out ((H0.out.all k).2 (.inl e))
    · have h9 := HO1.out.lt k rfl
      have h8 : w1.heap.size ≤ k := e
      omega)
  have HK2D : Hid (Kept F w1.drew w2.drew) := Lib.hid (hA1F.trans (drew_kept w2) (fun _ _ f => f.elim))
  have HO2 : Hid (OwnB w2.drew (.slice (some ⟨g, 0, none⟩) (n + 3) c') (bytes ++ [7, 7, 7])) := Lib.hid (HO1.out.kept (fun q e => by
    cases e
    exact HK2D.out.block g (HO1.out.lt g rfl) HGF.out))
  have HIN2 : Hid (IsB w2.drew (.slice (some ⟨g, 0, none⟩) n c') bytes) := Lib.hid (by
    have h9 := HO2.out.isB.take (k := n) (by simp [HN.out])
    rwa [List.take_left' HN.out] at h9)
  have HSRC : Hid (IsB w2.drew (.slice ba n bc) bytes) := Lib.hid (HV.out.keptS (HK2.out.trans (drew_kept w2) (fun _ _ f => f.elim)) (fun hne q e f => (HVL.out hne q e).2 f))
  have HEQ := Lib.hid (equal_any w2.drew _ _ bytes bytes HIN2.out HSRC.out)
  rw [show decide (bytes = bytes) = true from by simp] at HEQ
  have h7 : w2.drew.cell? ⟨g, n, none⟩ = some (.int .u8 7) := by
    obtain ⟨q, e, hc, -⟩ := HO2.out.cellAt (k := n) (by simp [HN.out])
    cases e
    rw [hc]
    have : (bytes ++ [7, 7, 7])[n]'(by simp [HN.out]) = 7 := by
      rw [List.getElem_append_right (by rw [HN.out]; exact Nat.le_refl _)]
      simp [HN.out]
    rw [this]
    rfl
  have HS5 : BoxN w2.drew w.heap.size wa.heap.size b rb kind name to nn ba n bc ∧ w2.drew.cell? ⟨g, n, none⟩ = some (.int .u8 7) := ⟨HBY.out _ (HK2.out.trans (drew_kept w2) (fun _ _ f => f.elim)), h7⟩
  have hnn3 : (n : Int) < (n : Int) + 3 := by omega
  have hnn4 : n < n + 3 := by omega
  have HA1 := Lib.hid hA1
  clear hA1 hA1F HS0 HS1 h7 HC1
  go_wp2_with fail
  refine wp_region_phase (fun W => BoxN W w.heap.size wa.heap.size b rb kind name to nn ba n bc ∧ W.cell? ⟨g, n, none⟩ = some (.int .u8 7)) (fun _ => false) (by kernel_rfl) HS5 (fun _ => ?_)
  refine wpAnyG_take (i := 0) (v := ?_) rfl (by kernel_rfl) (by kernel_rfl) (by kernel_rfl) (by kernel_rfl) (fun _ _ _ h => h) (Or.inl ⟨by rfl, ?_⟩) HS5 ?_
  rotate_left
  (intro w' hSw'; have ⟨⟨_, _, _, _, _, _, _⟩, _⟩ := hSw'; go_simp; try with_reducible rfl)
  try simp only [Act.put, List.setIfInBounds_toArray, List.set_cons_zero, List.set_cons_succ, List.getElem_toArray, List.getElem_cons_zero, List.getElem_cons_succ]
  refine wpAnyG_take (i := 1) (v := ?_) rfl (by kernel_rfl) (by kernel_rfl) (by kernel_rfl) (by kernel_rfl) (fun _ _ _ h => h) (Or.inl ⟨by rfl, ?_⟩) HS5 ?_
  rotate_left
  (intro w' hSw'; have ⟨⟨_, _, _, _, _, _, _⟩, _⟩ := hSw'; go_simp; try with_reducible rfl)
  try simp only [Act.put, List.setIfInBounds_toArray, List.set_cons_zero, List.set_cons_succ, List.getElem_toArray, List.getElem_cons_zero, List.getElem_cons_succ]
  refine wpAnyG_take (i := 2) (v := ?_) rfl (by kernel_rfl) (by kernel_rfl) (by kernel_rfl) (by kernel_rfl) (fun _ _ _ h => h) (Or.inl ⟨by rfl, ?_⟩) HS5 ?_
  rotate_left
  (intro w' hSw'; have ⟨⟨_, _, _, _, _, _, _⟩, _⟩ := hSw'; go_simp; try with_reducible rfl)
  try simp only [Act.put, List.setIfInBounds_toArray, List.set_cons_zero, List.set_cons_succ, List.getElem_toArray, List.getElem_cons_zero, List.getElem_cons_succ]
  refine wpAnyG_take (i := 3) (v := ?_) rfl (by kernel_rfl) (by kernel_rfl) (by kernel_rfl) (by kernel_rfl) (fun _ _ _ h => h) (Or.inl ⟨by rfl, ?_⟩) HS5 ?_
  rotate_left
  (intro w' hSw'; have ⟨⟨_, _, _, _, _, _, _⟩, _⟩ := hSw'; go_simp; try with_reducible rfl)
  try simp only [Act.put, List.setIfInBounds_toArray, List.set_cons_zero, List.set_cons_succ, List.getElem_toArray, List.getElem_cons_zero, List.getElem_cons_succ]
  refine wpAnyG_take (i := 4) (v := ?_) rfl (by kernel_rfl) (by kernel_rfl) (by kernel_rfl) (by kernel_rfl) (fun _ _ _ h => h) (Or.inl ⟨by rfl, ?_⟩) HS5 ?_
  rotate_left
  (intro w' hSw'; have ⟨⟨_, _, _, _, _, _, _⟩, _⟩ := hSw'; go_simp; try with_reducible rfl)
  try simp only [Act.put, List.setIfInBounds_toArray, List.set_cons_zero, List.set_cons_succ, List.getElem_toArray, List.getElem_cons_zero, List.getElem_cons_succ]
  refine wpAnyG_take (i := 5) (v := ?_) rfl (by kernel_rfl) (by kernel_rfl) (by kernel_rfl) (by kernel_rfl) (fun _ _ _ h => h) (Or.inl ⟨by rfl, ?_⟩) HS5 ?_
  rotate_left
  (intro w' hSw'; have ⟨⟨_, _, _, _, _, _, _⟩, _⟩ := hSw'; go_simp; try with_reducible rfl)
  try simp only [Act.put, List.setIfInBounds_toArray, List.set_cons_zero, List.set_cons_succ, List.getElem_toArray, List.getElem_cons_zero, List.getElem_cons_succ]
  refine wpAnyG_take (i := 6) (v := ?_) rfl (by kernel_rfl) (by kernel_rfl) (by kernel_rfl) (by kernel_rfl) (fun _ _ _ h => h) (Or.inl ⟨by rfl, ?_⟩) HS5 ?_
  rotate_left
  (intro w' hSw'; have ⟨⟨_, _, _, _, _, _, _⟩, _⟩ := hSw'; go_simp; try with_reducible rfl)
  try simp only [Act.put, List.setIfInBounds_toArray, List.set_cons_zero, List.set_cons_succ, List.getElem_toArray, List.getElem_cons_zero, List.getElem_cons_succ]
  refine wpAnyG_ready (rs := [7]) (by kernel_rfl) (by simp) ?_
  refine AllG.cons rfl (ph' := false) (by kernel_rfl) (fun K hK => ?_) AllG.nil
  go_simp
  go_at_call 36
  refine HEQ.out.mono ?_
  rintro e w3 ⟨rfl, rfl⟩
  refine hK.out _ _ (fun _ => HS5) ?_
  clear hK K
  try simp only [Act.put, List.setIfInBounds_toArray, List.set_cons_zero, List.set_cons_succ, List.getElem_toArray, List.getElem_cons_zero, List.getElem_cons_succ]
  refine wpAnyG_takeU (i := 8) (v := ?_) rfl (by kernel_rfl) (by kernel_rfl) (by kernel_rfl) (by kernel_rfl) (fun _ _ _ h => h) (Or.inl ⟨by rfl, ?_⟩) (fun _ => HS5) ?_
  rotate_left
  (intro w' hSw'; go_simp; try with_reducible rfl)
  try simp only [Act.put, List.setIfInBounds_toArray, List.set_cons_zero, List.set_cons_succ, List.getElem_toArray, List.getElem_cons_zero, List.getElem_cons_succ]
  refine wpAnyG_takeU (i := 9) (v := ?_) rfl (by kernel_rfl) (by kernel_rfl) (by kernel_rfl) (by kernel_rfl) (fun _ _ _ h => h) (Or.inl ⟨by rfl, ?_⟩) (fun _ => HS5) ?_
  rotate_left
  (intro w' hSw'; go_simp; try with_reducible rfl)
  try simp only [Act.put, List.setIfInBounds_toArray, List.set_cons_zero, List.set_cons_succ, List.getElem_toArray, List.getElem_cons_zero, List.getElem_cons_succ]
  refine wpAnyG_take (i := 10) (v := ?_) rfl (by kernel_rfl) (by kernel_rfl) (by kernel_rfl) (by kernel_rfl) (fun _ _ _ h => h) (Or.inl ⟨by rfl, ?_⟩) HS5 ?_
  rotate_left
  (intro w' hSw'; have ⟨⟨_, _, _, _, _, _, _⟩, _⟩ := hSw'; go_simp; try with_reducible rfl)
  try simp only [Act.put, List.setIfInBounds_toArray, List.set_cons_zero, List.set_cons_succ, List.getElem_toArray, List.getElem_cons_zero, List.getElem_cons_succ]
  refine wpAnyG_take (i := 11) (v := ?_) rfl (by kernel_rfl) (by kernel_rfl) (by kernel_rfl) (by kernel_rfl) (fun _ _ _ h => h) (Or.inl ⟨by rfl, ?_⟩) HS5 ?_
  rotate_left
  (intro w' hSw'; have ⟨⟨_, _, _, _, _, _, _⟩, _⟩ := hSw'; go_simp; try with_reducible rfl)
  try simp only [Act.put, List.setIfInBounds_toArray, List.set_cons_zero, List.set_cons_succ, List.getElem_toArray, List.getElem_cons_zero, List.getElem_cons_succ]
  refine wpAnyG_take (i := 12) (v := ?_) rfl (by kernel_rfl) (by kernel_rfl) (by kernel_rfl) (by kernel_rfl) (fun _ _ _ h => h) (Or.inl ⟨by rfl, ?_⟩) HS5 ?_
  rotate_left
  (intro w' hSw'; have ⟨⟨_, _, _, _, _, _, _⟩, _⟩ := hSw'; go_simp; try with_reducible rfl)
  try simp only [Act.put, List.setIfInBounds_toArray, List.set_cons_zero, List.set_cons_succ, List.getElem_toArray, List.getElem_cons_zero, List.getElem_cons_succ]
  refine wpAnyG_take (i := 13) (v := ?_) rfl (by kernel_rfl) (by kernel_rfl) (by kernel_rfl) (by kernel_rfl) (fun _ _ _ h => h) (Or.inl ⟨by rfl, ?_⟩) HS5 ?_
  rotate_left
  (intro w' hSw'; have ⟨⟨_, _, _, _, _, _, _⟩, _⟩ := hSw'; go_simp; try with_reducible rfl)
  try simp only [Act.put, List.setIfInBounds_toArray, List.set_cons_zero, List.set_cons_succ, List.getElem_toArray, List.getElem_cons_zero, List.getElem_cons_succ]
  refine wpAnyG_take (i := 14) (v := ?_) rfl (by kernel_rfl) (by kernel_rfl) (by kernel_rfl) (by kernel_rfl) (fun _ _ _ h => h) (Or.inl ⟨by rfl, ?_⟩) HS5 ?_
  rotate_left
  (intro w' hSw'; have ⟨⟨_, _, _, _, _, _, _⟩, _⟩ := hSw'; go_simp; try with_reducible rfl)
  try simp only [Act.put, List.setIfInBounds_toArray, List.set_cons_zero, List.set_cons_succ, List.getElem_toArray, List.getElem_cons_zero, List.getElem_cons_succ]
  refine wpAnyG_take (i := 15) (v := ?_) rfl (by kernel_rfl) (by kernel_rfl) (by kernel_rfl) (by kernel_rfl) (fun _ _ _ h => h) (Or.inl ⟨by rfl, ?_⟩) HS5 ?_
  rotate_left
  (intro w' hSw'; have ⟨⟨_, _, _, _, _, _, _⟩, _⟩ := hSw'; go_simp; try with_reducible rfl)
  try simp only [Act.put, List.setIfInBounds_toArray, List.set_cons_zero, List.set_cons_succ, List.getElem_toArray, List.getElem_cons_zero, List.getElem_cons_succ]
  refine wpAnyG_takeU (i := 16) (v := ?_) rfl (by kernel_rfl) (by kernel_rfl) (by kernel_rfl) (by kernel_rfl) (fun _ _ _ h => h) (Or.inl ⟨by rfl, ?_⟩) (fun _ => HS5) ?_
  rotate_left
  (intro w' hSw'; go_simp; try with_reducible rfl)
  try simp only [Act.put, List.setIfInBounds_toArray, List.set_cons_zero, List.set_cons_succ, List.getElem_toArray, List.getElem_cons_zero, List.getElem_cons_succ]
  refine wpAnyG_takeU (i := 17) (v := ?_) rfl (by kernel_rfl) (by kernel_rfl) (by kernel_rfl) (by kernel_rfl) (fun _ _ _ h => h) (Or.inl ⟨by rfl, ?_⟩) (fun _ => HS5) ?_
  rotate_left
  (intro w' hSw'; go_simp; try with_reducible rfl)
  try simp only [Act.put, List.setIfInBounds_toArray, List.set_cons_zero, List.set_cons_succ, List.getElem_toArray, List.getElem_cons_zero, List.getElem_cons_succ]
  refine wpAnyG_done (by kernel_rfl) ?_ _
  clear HS5 HEQ
  go_wp2_with fail
  obtain ⟨n3, hn3⟩ : ∃ x, n + 3 = x := ⟨_, rfl⟩
  have HN3 := Lib.hid hn3
  have hO2 := HO2.out
  have hll : (bytes ++ [7, 7, 7]).length = n3 := by simp [HN.out]; omega
  rw [hn3] at hO2
  have hn3b : n3 ≤ 9223372036854775000 := by omega
  rw [show ((n : Int) + 3) = (n3 : Int) from by omega, hn3]
  clear hn3 hnn3 hnn4 hnc
  go_loopg [50] n3 (fun gg i wr => ∃ j : Nat, j + gg = n3 ∧ i = .int .i64 j ∧ Hid (∃ l, OwnB wr (.slice (some ⟨g, 0, none⟩) n3 c') l ∧ l.length = n3) ∧ Hid (Kept (· = g) w2.drew wr))
  case atStart => exact ⟨0, by omega, rfl, Lib.hid ⟨_, hO2, hll⟩, Lib.hid (Kept.refl _ _)⟩
  case round =>
    clear hO2 hll
    obtain ⟨j, hjg, rfl, HL, HKL⟩ := hrel
    by_cases hlt : j < n3
    · obtain ⟨l, hl, hll⟩ := HL.out
      obtain ⟨q, e, hcq, hfq⟩ := hl.cellAt (k := j) (by omega)
      cases e
      have HL2 : Hid (∃ l, OwnB (wr.setCell ⟨g, j, none⟩ (.int .u8 187)) (.slice (some ⟨g, 0, none⟩) n3 c') l ∧ l.length = n3) := Lib.hid ⟨l.set j 187, hl.setAt j 187, by rw [List.length_set]; exact hll⟩
      have HKL2 : Hid (Kept (· = g) w2.drew (wr.setCell ⟨g, j, none⟩ (.int .u8 187))) := Lib.hid (HKL.out.trans (keptCellR wr g j _) (fun i _ e => e))
      obtain ⟨cx, hcx⟩ : ∃ cx : Int, (l[j].toNat : Int) = cx := ⟨_, rfl⟩
      rw [hcx] at hcq
      clear hcx hl hll
      go_wp2_with fail
      go_roundg (gk - 1)
      case measure => omega
      case rel => exact ⟨j + 1, by omega, by go_num, HL2, HKL2⟩
    · have HKR : Hid (Kept (fun k => F k ∨ k = g) w0 wr) := Lib.hid (((HK2.out.trans (drew_kept w2) (fun _ _ f => f.elim)).mono (fun _ _ e => .inl e)).trans (HKL.out) (fun _ _ e => .inr e))
      have hb1 : w.heap.size < w0.heap.size := World.block_lt_of_cell? w0 _ HB.out.1
      have hb2 : wa.heap.size < w0.heap.size := World.block_lt_of_cell? w0 _ HB.out.2.2.1
      have hgg := HG.out
      have HBR : Hid (∀ W, Kept F wr W → BoxN W w.heap.size wa.heap.size b rb kind name to nn ba n bc) := Lib.hid (fun W hk => by
        have h1 := HBY.out _ (HK2.out.trans (drew_kept w2) (fun _ _ f => f.elim))
        have h2 := h1.kept HKL.out (fun e => by omega) (fun e => by omega)
        exact h2.kept hk (fun e => by have := H.out.lt _ e; omega) (fun e => by have h4 := H.out.lt _ e; have h5 := HS.out; have h6 : w.heap.size ≤ wa.heap.size := by rw [← hwa]; simp
                                                                                omega))
      obtain ⟨y0, y1, y2, y3, y4, y5, y6⟩ := HBR.out wr (Kept.refl _ _)
      have hdR : DiskAt wr b m es1 clk1 P.2 := ((HA1.out.disk.kept (drew_kept w2) (fun _ _ f => f)).kept HKL.out (fun k e f => HGD.out k e f))
      have hdF : ∀ k, diskF b m es1 k → F k ∨ w0.heap.size ≤ k := fun k e => by
        rcases HA1.out.foot k e with e | e
        · exact .inl ((H0.out.all k).2 (.inl e))
        · exact .inr (Nat.le_trans HKD.out.size e)
      have hdS : ∀ k, diskF b m es1 k → ¬ refF rb fv S k := fun k e f => by
        rcases HA1.out.foot k e with e | e
        · exact H0.out.sep k e f
        · have h4 := H0.out.ref.lt k f; have h5 := HKD.out.size; omega
      have hrR : RefAt wr rb fv S R := ((H0.out.ref.kept HKD.out (fun _ _ f => f)).kept (HA1.out.kept.trans (drew_kept w2) (fun _ _ f => f.elim)) (fun k e f => H0.out.sep k f e)).kept HKL.out (fun k e f => by have h4 := H0.out.ref.lt k e; omega)
      have hsR : IsB wr (.slice ba n bc) bytes := HSRC.out.keptS HKL.out (fun hne q e f => by have h4 := (HVL.out hne q e).1; omega)
      have HRA := Lib.hid (rappend_any hrR name hsn ba bc bytes (by rw [HN.out]; exact hsR) (fun hne q e f => (HVL.out hne q (by rw [← HN.out]; exact e)).2 ((H0.out.all q).2 (.inr f))) hwR)
      rw [hQ, HN.out] at HRA
      rw [HLP.out.1] at HRA
      have HDR := Lib.hid (And.intro hdR (And.intro hdF hdS))
      clear hdR hdF hdS hrR hsR HL hgg
      go_wp2_with fail
      refine HRA.out.mono ?_
      rintro e w5 ⟨rfl, fv2, S2, hr2, hkr2, hnr2⟩
      have hkF : Kept F wr w5 := hkr2.mono (fun k _ e => (H0.out.all k).2 (.inr e))
      obtain ⟨z0, z1, z2, z3, z4, z5, z6⟩ := HBR.out w5 hkF
      have hd5 : DocAt w5 b rb (fun k => diskF b m es1 k ∨ refF rb fv2 S2 k) P.2 m es1 clk1 fv2 S2 Q.2 := ⟨HDR.out.1.kept hkr2 (fun k e f => HDR.out.2.2 k e f), hr2, HLP.out.2.1, fun k => Iff.rfl, fun k e f => by
        rcases hnr2 k f with f | f
        · exact HDR.out.2.2 k e f
        · have h4 := HDR.out.1.lt k e; omega⟩
      have HD5 := Lib.hid hd5
      have HNX : Hid (NextD w b rb F D w5) := Lib.hid ⟨_, _, _, _, _, _, _, _, hd5, ((HK0.out.mono (fun _ _ f => f.elim)).trans HKR.out (fun i hi e => by
          rcases e with e | e
          · exact e
          · have h4 := HG.out; omega)).trans hkF (fun _ _ e => e), fun k e => by
        rcases e with e | e
        · exact (HDR.out.2.1 k e).imp id (fun h => by omega)
        · rcases hnr2 k e with e | e
          · exact .inl ((H0.out.all k).2 (.inr e))
          · have h4 := HKR.out.size; exact .inr (by omega), by
        have h4 := HLP.out.2.2
        by_cases h5 : bytes.length ≤ 4194304
        · omega
        · have h6 := append_big D name bytes (by omega)
          rw [HPP.out] at h6
          rw [h6]
          omega⟩
      clear hr2 hkr2 hnr2 hkF hd5
      go_wp2_with fail
      refine (file_any HD5.out name).mono ?_
      rintro e w6 ⟨rfl, hk6⟩
      have HN6 := Lib.hid (HNX.out.after hk6)
      clear hk6
      go_wp2_with fail
      go_ret
      exact ⟨rfl, HN6.out⟩
end Go.Proofs.YtjnhkepgoghogaaDoor
