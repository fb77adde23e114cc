/- espalierlaw02: world.does. -/
import Derived.Test.YtjnhkepgoghogaaDoorRfdQ
import Derived.Test.YtjnhkepgoghogaaDoorRfdL
import Derived.Test.YtjnhkepgoghogaaDoorLaw02C
namespace Go.Proofs.YtjnhkepgoghogaaDoor
open Go.RowKit Go.ChangeMaps Go.MapKept
set_option linter.unusedSimpArgs false

def OpV.valD (o : OpV) : Value := .agg #[.int .i64 o.kind, .string o.name, .string o.to, .int .i64 o.n, .slice o.ba o.bytes.length o.bc]
/-- Behind something that was done to a disk and to the document's. -/
def NextD (w : World) (b rb : Nat) (F : Nat → Prop) (D : DM) (w' : World) : Prop := ∃ F' D' m' es' clock' fv' S' R', DocAt w' b rb F' D' m' es' clock' fv' S' R' ∧ Kept F w w' ∧ (∀ k, F' k → F k ∨ w.heap.size ≤ k) ∧ D'.writes ≤ D.writes + 5000000
section
variable {w w' w'' : World} {b rb : Nat} {F : Nat → Prop} {D : DM} {m : Nat} {es : Array MapEntry} {clock : Nat} {fv : Value} {S : List FileM} {R : DM}
theorem NextD.same (h : DocAt w b rb F D m es clock fv S R) (hk : Kept (fun _ => False) w w') : NextD w b rb F D w' :=
  ⟨F, D, m, es, clock, fv, S, R, h.keptN hk, hk.mono (fun _ _ f => f.elim), fun _ e => .inl e, by omega⟩
theorem NextD.after (h : NextD w b rb F D w') (hk : Kept (fun _ => False) w' w'') : NextD w b rb F D w'' := by
  obtain ⟨F', D', m', es', c', fv', S', R', h1, h2, h3, h4⟩ := h
  exact ⟨F', D', m', es', c', fv', S', R', h1.keptN hk, h2.trans (hk.mono (fun _ _ f => f.elim)) (fun _ _ e => e), h3, h4⟩
/-- The program's disk has turned, then the document's. -/
theorem DocAt.op (h : DocAt w b rb F D m es clock fv S R) {D1 R1 : DM} {es1 : Array MapEntry} {clk1 : Nat} {w1 w2 w3 : World} (hA : DiskAfter w b m es D1 w1 es1 clk1) (hk : Kept (fun _ => False) w1 w2) {fv' : Value} {S' : List FileM} (hr : RefAt w3 rb fv' S' R1) (hkr : Kept (refF rb fv S) w2 w3) (hnr : ∀ k, refF rb fv' S' k → refF rb fv S k ∨ w2.heap.size ≤ k) (hl : DM.Like R1 D1) :
    DocAt w3 b rb (fun k => diskF b m es1 k ∨ refF rb fv' S' k) D1 m es1 clk1 fv' S' R1 ∧ Kept F w w3 ∧ ∀ k, (diskF b m es1 k ∨ refF rb fv' S' k) → F k ∨ w.heap.size ≤ k := by
  have h12 : w1.heap.size ≤ w2.heap.size := hk.size
  have h01 : w.heap.size ≤ w1.heap.size := hA.kept.size
  have hdl : ∀ k, diskF b m es1 k → k < w1.heap.size := hA.disk.lt
  have hnd : ∀ k, diskF b m es1 k → ¬ refF rb fv S k := fun k e f => by
    rcases hA.foot k e with e | e
    · exact h.sep k e f
    · have := h.ref.lt k f; omega
  refine ⟨⟨(hA.disk.kept hk (fun _ _ f => f)).kept hkr (fun k e => hnd k e), hr, hl, fun k => Iff.rfl, fun k e f => ?_⟩, ?_, fun k e => ?_⟩
  · rcases hnr k f with f | f
    · exact hnd k e f
    · have := hdl k e; omega
  · refine ((hA.kept.mono (fun k _ e => (h.all k).2 (.inl e))).trans (hk.mono (fun _ _ f => f.elim)) (fun _ _ e => e)).trans hkr (fun k _ e => (h.all k).2 (.inr e))
  · rcases e with e | e
    · exact (hA.foot k e).imp (fun e => (h.all k).2 (.inl e)) id
    · rcases hnr k e with e | e
      · exact .inl ((h.all k).2 (.inr e))
      · exact .inr (by omega)
end
/-- What stands in the two boxes of does. -/
def BoxD (W : World) (B OB b rb : Nat) (o : OpV) : Prop := W.cell? ⟨B, 0, none⟩ = some (.pointer (some ⟨b, 0, none⟩)) ∧ W.cell? ⟨B, 1, none⟩ = some (.pointer (some ⟨rb, 0, none⟩)) ∧ W.cell? ⟨OB, 0, none⟩ = some (.int .i64 o.kind) ∧ W.cell? ⟨OB, 1, none⟩ = some (.string o.name) ∧ W.cell? ⟨OB, 2, none⟩ = some (.string o.to) ∧ W.cell? ⟨OB, 3, none⟩ = some (.int .i64 o.n) ∧ W.cell? ⟨OB, 4, none⟩ = some (.slice o.ba o.bytes.length o.bc)
theorem BoxD.kept {W W' : World} {B OB b rb : Nat} {o : OpV} (h : BoxD W B OB b rb o) {G : Nat → Prop} (hk : Kept G W W') (h1 : ¬ G B) (h2 : ¬ G OB) : BoxD W' B OB b rb o := by
  obtain ⟨e0, e1, e2, e3, e4, e5, e6⟩ := h
  exact ⟨hk.cell e0 h1, hk.cell e1 h1, hk.cell e2 h2, hk.cell e3 h2, hk.cell e4 h2, hk.cell e5 h2, hk.cell e6 h2⟩
set_option maxRecDepth 100000 in
set_option maxHeartbeats 2000000 in
theorem does1 {w : World} {b rb : Nat} {F : Nat → Prop} {D : DM} {m : Nat} {es : Array MapEntry} {clock : Nat} {fv : Value} {S : List FileM} {R : DM} (h : DocAt w b rb F D m es clock fv S R) (o : OpV) (hjw : (IntKind.u64.wrap o.kind).tmod 9 = 1) (hn1 : -9223372036854775808 ≤ o.n) (hn2 : o.n ≤ 9223372036854775807) (hw : D.writes < 1000000000000000) :
    Calls Tryd.prog 14 #[.agg #[.pointer (some ⟨b, 0, none⟩), .pointer (some ⟨rb, 0, none⟩)], o.valD] w fun e w' => e = .returned (.bool true) ∧ NextD w b rb F D w' := by
  have H := Lib.hid h
  unfold OpV.valD
  obtain ⟨wa, hwa⟩ : ∃ W, w.alloc (.cells #[.pointer (some ⟨b, 0, none⟩), .pointer (some ⟨rb, 0, none⟩)] 29) = W := ⟨_, rfl⟩
  obtain ⟨w0, hw0⟩ : ∃ W, wa.alloc (.cells #[.int .i64 o.kind, .string o.name, .string o.to, .int .i64 o.n, .slice o.ba o.bytes.length o.bc] 34) = W := ⟨_, rfl⟩
  have hka : Kept (fun _ => False) w wa := by rw [← hwa]; exact (Kept.refl _ _).alloc _
  have hkb : Kept (fun _ => False) wa w0 := by rw [← hw0]; exact (Kept.refl _ _).alloc _
  have hk0 := hka.trans hkb (fun _ _ f => f)
  have hsa : wa.heap.size = w.heap.size + 1 := by rw [← hwa]; simp
  have ba : wa.heap[w.heap.size]? = some (.cells #[.pointer (some ⟨b, 0, none⟩), .pointer (some ⟨rb, 0, none⟩)] 29 (0, 0)) := by rw [← hwa]; exact heap_alloc_new _ _
  have bb : w0.heap[wa.heap.size]? = some (.cells #[.int .i64 o.kind, .string o.name, .string o.to, .int .i64 o.n, .slice o.ba o.bytes.length o.bc] 34 (0, 0)) := by rw [← hw0]; exact heap_alloc_new _ _
  have ba' := (hkb.block w.heap.size (by omega) (fun f => f)).trans ba
  have hB0 : BoxD w0 w.heap.size wa.heap.size b rb o := by
    refine ⟨?_, ?_, ?_, ?_, ?_, ?_, ?_⟩ <;> simp [World.cell?, ba', bb]
  have HB := Lib.hid hB0
  have HBX : Hid (∀ W, Kept F w0 W → BoxD W w.heap.size wa.heap.size b rb o) := Lib.hid (fun W hk => HB.out.kept hk (fun e => by have := H.out.lt _ e; omega) (fun e => by have := H.out.lt _ e; omega))
  have HK0 := Lib.hid hk0
  have H0 := Lib.hid (h.keptN hk0)
  have HS : Hid (w.heap.size ≤ w0.heap.size) := Lib.hid hk0.size
  obtain ⟨x0, x1, x2, x3, x4, x5, x6⟩ := hB0
  clear h hka hkb hk0 hsa ba bb ba'
  go_enter Tryd.func14, Tryd.ntmps14
  go_wp2_with fail
  have HS0 := HBX.out w0.drew ((Kept.refl _ _).drew)
  have HLP := Lib.hid (like_truncate H.out.like o.name o.n)
  have HC1 := Lib.hid (truncate_any (H0.out.keptN (drew_kept w0)).disk o.name o.n (by omega))
  obtain ⟨P, hP⟩ : ∃ P, D.truncate o.name o.n = P := ⟨_, rfl⟩
  obtain ⟨Q, hQ⟩ : ∃ Q, R.truncate o.name o.n = Q := ⟨_, rfl⟩
  rw [hP] at HC1
  rw [hP, hQ] at HLP
  have hwR : R.writes < 2305843009213693952 := by have := H.out.like.writes; omega
  refine wp_region_phase (fun W => BoxD W w.heap.size wa.heap.size b rb o) (fun _ => false) (by kernel_rfl) HS0 (fun _ => ?_)
  refine wpAnyG_take (i := 0) (v := ?_) rfl (by kernel_rfl) (by kernel_rfl) (by kernel_rfl) (by kernel_rfl) (fun _ _ _ h => h) (Or.inl ⟨by rfl, ?_⟩) HS0 ?_
  rotate_left
  (intro w' hSw'; have ⟨_, _, _, _, _, _, _⟩ := hSw'; go_simp; try with_reducible rfl)
  try simp only [Act.put, List.setIfInBounds_toArray, List.set_cons_zero, List.set_cons_succ, List.getElem_toArray, List.getElem_cons_zero, List.getElem_cons_succ]
  refine wpAnyG_take (i := 1) (v := ?_) rfl (by kernel_rfl) (by kernel_rfl) (by kernel_rfl) (by kernel_rfl) (fun _ _ _ h => h) (Or.inl ⟨by rfl, ?_⟩) HS0 ?_
  rotate_left
  (intro w' hSw'; have ⟨_, _, _, _, _, _, _⟩ := hSw'; go_simp; try with_reducible rfl)
  try simp only [Act.put, List.setIfInBounds_toArray, List.set_cons_zero, List.set_cons_succ, List.getElem_toArray, List.getElem_cons_zero, List.getElem_cons_succ]
  refine wpAnyG_take (i := 2) (v := ?_) rfl (by kernel_rfl) (by kernel_rfl) (by kernel_rfl) (by kernel_rfl) (fun _ _ _ h => h) (Or.inl ⟨by rfl, ?_⟩) HS0 ?_
  rotate_left
  (intro w' hSw'; have ⟨_, _, _, _, _, _, _⟩ := hSw'; go_simp; try with_reducible rfl)
  try simp only [Act.put, List.setIfInBounds_toArray, List.set_cons_zero, List.set_cons_succ, List.getElem_toArray, List.getElem_cons_zero, List.getElem_cons_succ]
  refine wpAnyG_take (i := 3) (v := ?_) rfl (by kernel_rfl) (by kernel_rfl) (by kernel_rfl) (by kernel_rfl) (fun _ _ _ h => h) (Or.inl ⟨by rfl, ?_⟩) HS0 ?_
  rotate_left
  (intro w' hSw'; have ⟨_, _, _, _, _, _, _⟩ := hSw'; go_simp; try with_reducible rfl)
  try simp only [Act.put, List.setIfInBounds_toArray, List.set_cons_zero, List.set_cons_succ, List.getElem_toArray, List.getElem_cons_zero, List.getElem_cons_succ]
  refine wpAnyG_take (i := 4) (v := ?_) rfl (by kernel_rfl) (by kernel_rfl) (by kernel_rfl) (by kernel_rfl) (fun _ _ _ h => h) (Or.inl ⟨by rfl, ?_⟩) HS0 ?_
  rotate_left
  (intro w' hSw'; have ⟨_, _, _, _, _, _, _⟩ := hSw'; go_simp; try with_reducible rfl)
  try simp only [Act.put, List.setIfInBounds_toArray, List.set_cons_zero, List.set_cons_succ, List.getElem_toArray, List.getElem_cons_zero, List.getElem_cons_succ]
  refine wpAnyG_take (i := 5) (v := ?_) rfl (by kernel_rfl) (by kernel_rfl) (by kernel_rfl) (by kernel_rfl) (fun _ _ _ h => h) (Or.inl ⟨by rfl, ?_⟩) HS0 ?_
  rotate_left
  (intro w' hSw'; have ⟨_, _, _, _, _, _, _⟩ := hSw'; go_simp; try with_reducible rfl)
  try simp only [Act.put, List.setIfInBounds_toArray, List.set_cons_zero, List.set_cons_succ, List.getElem_toArray, List.getElem_cons_zero, List.getElem_cons_succ]
  refine wpAnyG_take (i := 7) (v := ?_) rfl (by kernel_rfl) (by kernel_rfl) (by kernel_rfl) (by kernel_rfl) (fun _ _ _ h => h) (Or.inl ⟨by rfl, ?_⟩) HS0 ?_
  rotate_left
  (intro w' hSw'; have ⟨_, _, _, _, _, _, _⟩ := hSw'; go_simp; try with_reducible rfl)
  try simp only [Act.put, List.setIfInBounds_toArray, List.set_cons_zero, List.set_cons_succ, List.getElem_toArray, List.getElem_cons_zero, List.getElem_cons_succ]
  refine wpAnyG_take (i := 8) (v := ?_) rfl (by kernel_rfl) (by kernel_rfl) (by kernel_rfl) (by kernel_rfl) (fun _ _ _ h => h) (Or.inl ⟨by rfl, ?_⟩) HS0 ?_
  rotate_left
  (intro w' hSw'; have ⟨_, _, _, _, _, _, _⟩ := hSw'; go_simp; try with_reducible rfl)
  try simp only [Act.put, List.setIfInBounds_toArray, List.set_cons_zero, List.set_cons_succ, List.getElem_toArray, List.getElem_cons_zero, List.getElem_cons_succ]
  refine wpAnyG_take (i := 9) (v := ?_) rfl (by kernel_rfl) (by kernel_rfl) (by kernel_rfl) (by kernel_rfl) (fun _ _ _ h => h) (Or.inl ⟨by rfl, ?_⟩) HS0 ?_
  rotate_left
  (intro w' hSw'; have ⟨_, _, _, _, _, _, _⟩ := hSw'; go_simp; try with_reducible rfl)
  try simp only [Act.put, List.setIfInBounds_toArray, List.set_cons_zero, List.set_cons_succ, List.getElem_toArray, List.getElem_cons_zero, List.getElem_cons_succ]
  refine wpAnyG_take (i := 10) (v := ?_) rfl (by kernel_rfl) (by kernel_rfl) (by kernel_rfl) (by kernel_rfl) (fun _ _ _ h => h) (Or.inl ⟨by rfl, ?_⟩) HS0 ?_
  rotate_left
  (intro w' hSw'; have ⟨_, _, _, _, _, _, _⟩ := hSw'; go_simp; try with_reducible rfl)
  try simp only [Act.put, List.setIfInBounds_toArray, List.set_cons_zero, List.set_cons_succ, List.getElem_toArray, List.getElem_cons_zero, List.getElem_cons_succ]
  refine wpAnyG_take (i := 11) (v := ?_) rfl (by kernel_rfl) (by kernel_rfl) (by kernel_rfl) (by kernel_rfl) (fun _ _ _ h => h) (Or.inl ⟨by rfl, ?_⟩) HS0 ?_
  rotate_left
  (intro w' hSw'; have ⟨_, _, _, _, _, _, _⟩ := hSw'; go_simp; try with_reducible rfl)
  try simp only [Act.put, List.setIfInBounds_toArray, List.set_cons_zero, List.set_cons_succ, List.getElem_toArray, List.getElem_cons_zero, List.getElem_cons_succ]
  refine wpAnyG_take (i := 12) (v := ?_) rfl (by kernel_rfl) (by kernel_rfl) (by kernel_rfl) (by kernel_rfl) (fun _ _ _ h => h) (Or.inl ⟨by rfl, ?_⟩) HS0 ?_
  rotate_left
  (intro w' hSw'; have ⟨_, _, _, _, _, _, _⟩ := hSw'; go_simp; try with_reducible rfl)
  try simp only [Act.put, List.setIfInBounds_toArray, List.set_cons_zero, List.set_cons_succ, List.getElem_toArray, List.getElem_cons_zero, List.getElem_cons_succ]
  refine wpAnyG_ready (rs := [6]) (by kernel_rfl) (by simp) ?_
  refine AllG.cons rfl (ph' := false) (by kernel_rfl) (fun K hK => ?_) AllG.nil
  go_simp
  go_at_call 38
  refine HC1.out.mono ?_
  rintro e w1 ⟨rfl, es1, clk1, hA1⟩
  have HKA : Hid (Kept F w0 w1) := Lib.hid (((drew_kept w0).mono (fun _ _ f => f.elim)).trans hA1.kept (fun i hi e => (H0.out.all i).2 (.inl e)))
  have HS1 := HBX.out w1 HKA.out
  refine hK.out _ _ (fun _ => HS1) ?_
  clear hK K
  try simp only [Act.put, List.setIfInBounds_toArray, List.set_cons_zero, List.set_cons_succ, List.getElem_toArray, List.getElem_cons_zero, List.getElem_cons_succ]
  refine wpAnyG_ready (rs := [13]) (by kernel_rfl) (by simp) ?_
  refine AllG.cons rfl (ph' := false) (by kernel_rfl) (fun K hK => ?_) AllG.nil
  go_simp
  go_at_call 39
  refine (rtruncate_any ((H0.out.keptN (drew_kept w0)).ref.kept hA1.kept (fun k e f => H0.out.sep k f e)) o.name o.n hn1 hn2 hwR).mono ?_
  rintro e w2 ⟨rfl, fv2, S2, hr2, hkr2, hnr2⟩
  obtain ⟨hD2, hk02, hn2⟩ := (H0.out.keptN (drew_kept w0)).op hA1 (Kept.refl _ _) hr2 hkr2 hnr2 (by rw [hQ]; exact HLP.out.2.1)
  have HKB : Hid (Kept F w0 w2) := Lib.hid (((drew_kept w0).mono (fun _ _ f => f.elim)).trans hk02 (fun _ _ e => e))
  have HNX : Hid (NextD w b rb F D w2) := Lib.hid ⟨_, _, _, _, _, _, _, _, hD2, (HK0.out.mono (fun _ _ f => f.elim)).trans HKB.out (fun _ _ e => e), fun k e => (hn2 k e).imp id (fun h => Nat.le_trans HK0.out.size h), by have := HLP.out.2.2; omega⟩
  have HD2 := Lib.hid hD2
  have HS2 := HBX.out w2 HKB.out
  refine hK.out _ _ (fun _ => HS2) ?_
  clear hK K
  try simp only [Act.put, List.setIfInBounds_toArray, List.set_cons_zero, List.set_cons_succ, List.getElem_toArray, List.getElem_cons_zero, List.getElem_cons_succ]
  rw [hQ, HLP.out.1]
  refine wpAnyG_takeU (i := 14) (v := ?_) rfl (by kernel_rfl) (by kernel_rfl) (by kernel_rfl) (by kernel_rfl) (fun _ _ _ h => h) (Or.inl ⟨by rfl, ?_⟩) (fun _ => HS2) ?_
  rotate_left
  (intro w' hSw'; go_simp; try with_reducible rfl)
  try simp only [Act.put, List.setIfInBounds_toArray, List.set_cons_zero, List.set_cons_succ, List.getElem_toArray, List.getElem_cons_zero, List.getElem_cons_succ]
  refine wpAnyG_takeU (i := 15) (v := ?_) rfl (by kernel_rfl) (by kernel_rfl) (by kernel_rfl) (by kernel_rfl) (fun _ _ _ h => h) (Or.inl ⟨by rfl, ?_⟩) (fun _ => HS2) ?_
  rotate_left
  (intro w' hSw'; go_simp; try with_reducible rfl)
  try simp only [Act.put, List.setIfInBounds_toArray, List.set_cons_zero, List.set_cons_succ, List.getElem_toArray, List.getElem_cons_zero, List.getElem_cons_succ]
  refine wpAnyG_take (i := 16) (v := ?_) rfl (by kernel_rfl) (by kernel_rfl) (by kernel_rfl) (by kernel_rfl) (fun _ _ _ h => h) (Or.inl ⟨by rfl, ?_⟩) HS2 ?_
  rotate_left
  (intro w' hSw'; have ⟨_, _, _, _, _, _, _⟩ := hSw'; go_simp; try with_reducible rfl)
  try simp only [Act.put, List.setIfInBounds_toArray, List.set_cons_zero, List.set_cons_succ, List.getElem_toArray, List.getElem_cons_zero, List.getElem_cons_succ]
  refine wpAnyG_take (i := 17) (v := ?_) rfl (by kernel_rfl) (by kernel_rfl) (by kernel_rfl) (by kernel_rfl) (fun _ _ _ h => h) (Or.inl ⟨by rfl, ?_⟩) HS2 ?_
  rotate_left
  (intro w' hSw'; have ⟨_, _, _, _, _, _, _⟩ := hSw'; go_simp; try with_reducible rfl)
  try simp only [Act.put, List.setIfInBounds_toArray, List.set_cons_zero, List.set_cons_succ, List.getElem_toArray, List.getElem_cons_zero, List.getElem_cons_succ]
  refine wpAnyG_take (i := 18) (v := ?_) rfl (by kernel_rfl) (by kernel_rfl) (by kernel_rfl) (by kernel_rfl) (fun _ _ _ h => h) (Or.inl ⟨by rfl, ?_⟩) HS2 ?_
  rotate_left
  (intro w' hSw'; have ⟨_, _, _, _, _, _, _⟩ := hSw'; go_simp; try with_reducible rfl)
  try simp only [Act.put, List.setIfInBounds_toArray, List.set_cons_zero, List.set_cons_succ, List.getElem_toArray, List.getElem_cons_zero, List.getElem_cons_succ]
  refine wpAnyG_ready (rs := [19]) (by kernel_rfl) (by simp) ?_
  refine AllG.cons rfl (ph' := false) (by kernel_rfl) (fun K hK => ?_) AllG.nil
  go_simp
  go_at_call 33
  refine (file_any (HD2.out) o.name).mono ?_
  rintro e w3 ⟨rfl, hk3⟩
  have HS3 := BoxD.kept HS2 hk3 (fun f => f) (fun f => f)
  refine hK.out _ _ (fun _ => HS3) ?_
  clear hK K
  try simp only [Act.put, List.setIfInBounds_toArray, List.set_cons_zero, List.set_cons_succ, List.getElem_toArray, List.getElem_cons_zero, List.getElem_cons_succ]
  refine wpAnyG_takeU (i := 20) (v := ?_) rfl (by kernel_rfl) (by kernel_rfl) (by kernel_rfl) (by kernel_rfl) (fun _ _ _ h => h) (Or.inl ⟨by rfl, ?_⟩) (fun _ => HS3) ?_
  rotate_left
  (intro w' hSw'; go_simp; try with_reducible rfl)
  try simp only [Act.put, List.setIfInBounds_toArray, List.set_cons_zero, List.set_cons_succ, List.getElem_toArray, List.getElem_cons_zero, List.getElem_cons_succ]
  refine wpAnyG_takeU (i := 21) (v := ?_) rfl (by kernel_rfl) (by kernel_rfl) (by kernel_rfl) (by kernel_rfl) (fun _ _ _ h => h) (Or.inl ⟨by rfl, ?_⟩) (fun _ => HS3) ?_
  rotate_left
  (intro w' hSw'; go_simp; try with_reducible rfl)
  try simp only [Act.put, List.setIfInBounds_toArray, List.set_cons_zero, List.set_cons_succ, List.getElem_toArray, List.getElem_cons_zero, List.getElem_cons_succ]
  refine wpAnyG_done (by kernel_rfl) ?_ _
  go_wp2_with fail
  go_ret
  exact ⟨rfl, HNX.out.after hk3⟩
set_option maxRecDepth 100000 in
set_option maxHeartbeats 2000000 in
theorem does2 {w : World} {b rb : Nat} {F : Nat → Prop} {D : DM} {m : Nat} {es : Array MapEntry} {clock : Nat} {fv : Value} {S : List FileM} {R : DM} (h : DocAt w b rb F D m es clock fv S R) (o : OpV) (hjw : (IntKind.u64.wrap o.kind).tmod 9 = 2) (hst : o.to.size ≤ maxLen) (hw : D.writes < 1000000000000000) :
    Calls Tryd.prog 14 #[.agg #[.pointer (some ⟨b, 0, none⟩), .pointer (some ⟨rb, 0, none⟩)], o.valD] w fun e w' => e = .returned (.bool true) ∧ NextD w b rb F D w' := by
  have H := Lib.hid h
  unfold OpV.valD
  obtain ⟨wa, hwa⟩ : ∃ W, w.alloc (.cells #[.pointer (some ⟨b, 0, none⟩), .pointer (some ⟨rb, 0, none⟩)] 29) = W := ⟨_, rfl⟩
  obtain ⟨w0, hw0⟩ : ∃ W, wa.alloc (.cells #[.int .i64 o.kind, .string o.name, .string o.to, .int .i64 o.n, .slice o.ba o.bytes.length o.bc] 34) = W := ⟨_, rfl⟩
  have hka : Kept (fun _ => False) w wa := by rw [← hwa]; exact (Kept.refl _ _).alloc _
  have hkb : Kept (fun _ => False) wa w0 := by rw [← hw0]; exact (Kept.refl _ _).alloc _
  have hk0 := hka.trans hkb (fun _ _ f => f)
  have hsa : wa.heap.size = w.heap.size + 1 := by rw [← hwa]; simp
  have ba : wa.heap[w.heap.size]? = some (.cells #[.pointer (some ⟨b, 0, none⟩), .pointer (some ⟨rb, 0, none⟩)] 29 (0, 0)) := by rw [← hwa]; exact heap_alloc_new _ _
  have bb : w0.heap[wa.heap.size]? = some (.cells #[.int .i64 o.kind, .string o.name, .string o.to, .int .i64 o.n, .slice o.ba o.bytes.length o.bc] 34 (0, 0)) := by rw [← hw0]; exact heap_alloc_new _ _
  have ba' := (hkb.block w.heap.size (by omega) (fun f => f)).trans ba
  have hB0 : BoxD w0 w.heap.size wa.heap.size b rb o := by
    refine ⟨?_, ?_, ?_, ?_, ?_, ?_, ?_⟩ <;> simp [World.cell?, ba', bb]
  have HB := Lib.hid hB0
  have HBX : Hid (∀ W, Kept F w0 W → BoxD W w.heap.size wa.heap.size b rb o) := Lib.hid (fun W hk => HB.out.kept hk (fun e => by have := H.out.lt _ e; omega) (fun e => by have := H.out.lt _ e; omega))
  have HK0 := Lib.hid hk0
  have H0 := Lib.hid (h.keptN hk0)
  have HS : Hid (w.heap.size ≤ w0.heap.size) := Lib.hid hk0.size
  obtain ⟨x0, x1, x2, x3, x4, x5, x6⟩ := hB0
  clear h hka hkb hk0 hsa ba bb ba'
  go_enter Tryd.func14, Tryd.ntmps14
  go_wp2_with fail
  have HS0 := HBX.out w0.drew ((Kept.refl _ _).drew)
  have HLP := Lib.hid (like_rename H.out.like H.out.ref.ok H.out.disk.ok o.name o.to)
  have HC1 := Lib.hid (rename_any (H0.out.keptN (drew_kept w0)).disk o.name o.to hst (by omega))
  obtain ⟨P, hP⟩ : ∃ P, D.rename o.name o.to = P := ⟨_, rfl⟩
  obtain ⟨Q, hQ⟩ : ∃ Q, R.rename o.name o.to = Q := ⟨_, rfl⟩
  rw [hP] at HC1
  rw [hP, hQ] at HLP
  have hwR : R.writes < 2305843009213693952 := by have := H.out.like.writes; omega
  refine wp_region_phase (fun W => BoxD W w.heap.size wa.heap.size b rb o) (fun _ => false) (by kernel_rfl) HS0 (fun _ => ?_)
  refine wpAnyG_take (i := 0) (v := ?_) rfl (by kernel_rfl) (by kernel_rfl) (by kernel_rfl) (by kernel_rfl) (fun _ _ _ h => h) (Or.inl ⟨by rfl, ?_⟩) HS0 ?_
  rotate_left
  (intro w' hSw'; have ⟨_, _, _, _, _, _, _⟩ := hSw'; go_simp; try with_reducible rfl)
  try simp only [Act.put, List.setIfInBounds_toArray, List.set_cons_zero, List.set_cons_succ, List.getElem_toArray, List.getElem_cons_zero, List.getElem_cons_succ]
  refine wpAnyG_take (i := 1) (v := ?_) rfl (by kernel_rfl) (by kernel_rfl) (by kernel_rfl) (by kernel_rfl) (fun _ _ _ h => h) (Or.inl ⟨by rfl, ?_⟩) HS0 ?_
  rotate_left
  (intro w' hSw'; have ⟨_, _, _, _, _, _, _⟩ := hSw'; go_simp; try with_reducible rfl)
  try simp only [Act.put, List.setIfInBounds_toArray, List.set_cons_zero, List.set_cons_succ, List.getElem_toArray, List.getElem_cons_zero, List.getElem_cons_succ]
  refine wpAnyG_take (i := 2) (v := ?_) rfl (by kernel_rfl) (by kernel_rfl) (by kernel_rfl) (by kernel_rfl) (fun _ _ _ h => h) (Or.inl ⟨by rfl, ?_⟩) HS0 ?_
  rotate_left
  (intro w' hSw'; have ⟨_, _, _, _, _, _, _⟩ := hSw'; go_simp; try with_reducible rfl)
  try simp only [Act.put, List.setIfInBounds_toArray, List.set_cons_zero, List.set_cons_succ, List.getElem_toArray, List.getElem_cons_zero, List.getElem_cons_succ]
  refine wpAnyG_take (i := 3) (v := ?_) rfl (by kernel_rfl) (by kernel_rfl) (by kernel_rfl) (by kernel_rfl) (fun _ _ _ h => h) (Or.inl ⟨by rfl, ?_⟩) HS0 ?_
  rotate_left
  (intro w' hSw'; have ⟨_, _, _, _, _, _, _⟩ := hSw'; go_simp; try with_reducible rfl)
  try simp only [Act.put, List.setIfInBounds_toArray, List.set_cons_zero, List.set_cons_succ, List.getElem_toArray, List.getElem_cons_zero, List.getElem_cons_succ]
  refine wpAnyG_take (i := 4) (v := ?_) rfl (by kernel_rfl) (by kernel_rfl) (by kernel_rfl) (by kernel_rfl) (fun _ _ _ h => h) (Or.inl ⟨by rfl, ?_⟩) HS0 ?_
  rotate_left
  (intro w' hSw'; have ⟨_, _, _, _, _, _, _⟩ := hSw'; go_simp; try with_reducible rfl)
  try simp only [Act.put, List.setIfInBounds_toArray, List.set_cons_zero, List.set_cons_succ, List.getElem_toArray, List.getElem_cons_zero, List.getElem_cons_succ]
  refine wpAnyG_take (i := 5) (v := ?_) rfl (by kernel_rfl) (by kernel_rfl) (by kernel_rfl) (by kernel_rfl) (fun _ _ _ h => h) (Or.inl ⟨by rfl, ?_⟩) HS0 ?_
  rotate_left
  (intro w' hSw'; have ⟨_, _, _, _, _, _, _⟩ := hSw'; go_simp; try with_reducible rfl)
  try simp only [Act.put, List.setIfInBounds_toArray, List.set_cons_zero, List.set_cons_succ, List.getElem_toArray, List.getElem_cons_zero, List.getElem_cons_succ]
  refine wpAnyG_take (i := 7) (v := ?_) rfl (by kernel_rfl) (by kernel_rfl) (by kernel_rfl) (by kernel_rfl) (fun _ _ _ h => h) (Or.inl ⟨by rfl, ?_⟩) HS0 ?_
  rotate_left
  (intro w' hSw'; have ⟨_, _, _, _, _, _, _⟩ := hSw'; go_simp; try with_reducible rfl)
  try simp only [Act.put, List.setIfInBounds_toArray, List.set_cons_zero, List.set_cons_succ, List.getElem_toArray, List.getElem_cons_zero, List.getElem_cons_succ]
  refine wpAnyG_take (i := 8) (v := ?_) rfl (by kernel_rfl) (by kernel_rfl) (by kernel_rfl) (by kernel_rfl) (fun _ _ _ h => h) (Or.inl ⟨by rfl, ?_⟩) HS0 ?_
  rotate_left
  (intro w' hSw'; have ⟨_, _, _, _, _, _, _⟩ := hSw'; go_simp; try with_reducible rfl)
  try simp only [Act.put, List.setIfInBounds_toArray, List.set_cons_zero, List.set_cons_succ, List.getElem_toArray, List.getElem_cons_zero, List.getElem_cons_succ]
  refine wpAnyG_take (i := 9) (v := ?_) rfl (by kernel_rfl) (by kernel_rfl) (by kernel_rfl) (by kernel_rfl) (fun _ _ _ h => h) (Or.inl ⟨by rfl, ?_⟩) HS0 ?_
  rotate_left
  (intro w' hSw'; have ⟨_, _, _, _, _, _, _⟩ := hSw'; go_simp; try with_reducible rfl)
  try simp only [Act.put, List.setIfInBounds_toArray, List.set_cons_zero, List.set_cons_succ, List.getElem_toArray, List.getElem_cons_zero, List.getElem_cons_succ]
  refine wpAnyG_take (i := 10) (v := ?_) rfl (by kernel_rfl) (by kernel_rfl) (by kernel_rfl) (by kernel_rfl) (fun _ _ _ h => h) (Or.inl ⟨by rfl, ?_⟩) HS0 ?_
  rotate_left
  (intro w' hSw'; have ⟨_, _, _, _, _, _, _⟩ := hSw'; go_simp; try with_reducible rfl)
  try simp only [Act.put, List.setIfInBounds_toArray, List.set_cons_zero, List.set_cons_succ, List.getElem_toArray, List.getElem_cons_zero, List.getElem_cons_succ]
  refine wpAnyG_take (i := 11) (v := ?_) rfl (by kernel_rfl) (by kernel_rfl) (by kernel_rfl) (by kernel_rfl) (fun _ _ _ h => h) (Or.inl ⟨by rfl, ?_⟩) HS0 ?_
  rotate_left
  (intro w' hSw'; have ⟨_, _, _, _, _, _, _⟩ := hSw'; go_simp; try with_reducible rfl)
  try simp only [Act.put, List.setIfInBounds_toArray, List.set_cons_zero, List.set_cons_succ, List.getElem_toArray, List.getElem_cons_zero, List.getElem_cons_succ]
  refine wpAnyG_take (i := 12) (v := ?_) rfl (by kernel_rfl) (by kernel_rfl) (by kernel_rfl) (by kernel_rfl) (fun _ _ _ h => h) (Or.inl ⟨by rfl, ?_⟩) HS0 ?_
  rotate_left
  (intro w' hSw'; have ⟨_, _, _, _, _, _, _⟩ := hSw'; go_simp; try with_reducible rfl)
  try simp only [Act.put, List.setIfInBounds_toArray, List.set_cons_zero, List.set_cons_succ, List.getElem_toArray, List.getElem_cons_zero, List.getElem_cons_succ]
  refine wpAnyG_ready (rs := [6]) (by kernel_rfl) (by simp) ?_
  refine AllG.cons rfl (ph' := false) (by kernel_rfl) (fun K hK => ?_) AllG.nil
  go_simp
  go_at_call 40
  refine HC1.out.mono ?_
  rintro e w1 ⟨rfl, es1, clk1, hA1⟩
  have HKA : Hid (Kept F w0 w1) := Lib.hid (((drew_kept w0).mono (fun _ _ f => f.elim)).trans hA1.kept (fun i hi e => (H0.out.all i).2 (.inl e)))
  have HS1 := HBX.out w1 HKA.out
  refine hK.out _ _ (fun _ => HS1) ?_
  clear hK K
  try simp only [Act.put, List.setIfInBounds_toArray, List.set_cons_zero, List.set_cons_succ, List.getElem_toArray, List.getElem_cons_zero, List.getElem_cons_succ]
  refine wpAnyG_ready (rs := [13]) (by kernel_rfl) (by simp) ?_
  refine AllG.cons rfl (ph' := false) (by kernel_rfl) (fun K hK => ?_) AllG.nil
  go_simp
  go_at_call 41
  refine (rrename_any ((H0.out.keptN (drew_kept w0)).ref.kept hA1.kept (fun k e f => H0.out.sep k f e)) o.name o.to hst hwR).mono ?_
  rintro e w2 ⟨D9, hlk, rfl, fv2, S2, hr2, hkr2, hnr2⟩
  obtain ⟨hD2, hk02, hn2⟩ := (H0.out.keptN (drew_kept w0)).op hA1 (Kept.refl _ _) hr2 hkr2 hnr2 (by rw [hQ] at hlk; exact hlk.trans HLP.out.2.1)
  have HKB : Hid (Kept F w0 w2) := Lib.hid (((drew_kept w0).mono (fun _ _ f => f.elim)).trans hk02 (fun _ _ e => e))
  have HNX : Hid (NextD w b rb F D w2) := Lib.hid ⟨_, _, _, _, _, _, _, _, hD2, (HK0.out.mono (fun _ _ f => f.elim)).trans HKB.out (fun _ _ e => e), fun k e => (hn2 k e).imp id (fun h => Nat.le_trans HK0.out.size h), by have := HLP.out.2.2; omega⟩
  have HD2 := Lib.hid hD2
  have HS2 := HBX.out w2 HKB.out
  refine hK.out _ _ (fun _ => HS2) ?_
  clear hK K
  try simp only [Act.put, List.setIfInBounds_toArray, List.set_cons_zero, List.set_cons_succ, List.getElem_toArray, List.getElem_cons_zero, List.getElem_cons_succ]
  rw [hQ, HLP.out.1]
  refine wpAnyG_takeU (i := 14) (v := ?_) rfl (by kernel_rfl) (by kernel_rfl) (by kernel_rfl) (by kernel_rfl) (fun _ _ _ h => h) (Or.inl ⟨by rfl, ?_⟩) (fun _ => HS2) ?_
  rotate_left
  (intro w' hSw'; go_simp; try with_reducible rfl)
  try simp only [Act.put, List.setIfInBounds_toArray, List.set_cons_zero, List.set_cons_succ, List.getElem_toArray, List.getElem_cons_zero, List.getElem_cons_succ]
  refine wpAnyG_takeU (i := 15) (v := ?_) rfl (by kernel_rfl) (by kernel_rfl) (by kernel_rfl) (by kernel_rfl) (fun _ _ _ h => h) (Or.inl ⟨by rfl, ?_⟩) (fun _ => HS2) ?_
  rotate_left
  (intro w' hSw'; go_simp; try with_reducible rfl)
  try simp only [Act.put, List.setIfInBounds_toArray, List.set_cons_zero, List.set_cons_succ, List.getElem_toArray, List.getElem_cons_zero, List.getElem_cons_succ]
  refine wpAnyG_take (i := 16) (v := ?_) rfl (by kernel_rfl) (by kernel_rfl) (by kernel_rfl) (by kernel_rfl) (fun _ _ _ h => h) (Or.inl ⟨by rfl, ?_⟩) HS2 ?_
  rotate_left
  (intro w' hSw'; have ⟨_, _, _, _, _, _, _⟩ := hSw'; go_simp; try with_reducible rfl)
  try simp only [Act.put, List.setIfInBounds_toArray, List.set_cons_zero, List.set_cons_succ, List.getElem_toArray, List.getElem_cons_zero, List.getElem_cons_succ]
  refine wpAnyG_take (i := 17) (v := ?_) rfl (by kernel_rfl) (by kernel_rfl) (by kernel_rfl) (by kernel_rfl) (fun _ _ _ h => h) (Or.inl ⟨by rfl, ?_⟩) HS2 ?_
  rotate_left
  (intro w' hSw'; have ⟨_, _, _, _, _, _, _⟩ := hSw'; go_simp; try with_reducible rfl)
  try simp only [Act.put, List.setIfInBounds_toArray, List.set_cons_zero, List.set_cons_succ, List.getElem_toArray, List.getElem_cons_zero, List.getElem_cons_succ]
  refine wpAnyG_take (i := 18) (v := ?_) rfl (by kernel_rfl) (by kernel_rfl) (by kernel_rfl) (by kernel_rfl) (fun _ _ _ h => h) (Or.inl ⟨by rfl, ?_⟩) HS2 ?_
  rotate_left
  (intro w' hSw'; have ⟨_, _, _, _, _, _, _⟩ := hSw'; go_simp; try with_reducible rfl)
  try simp only [Act.put, List.setIfInBounds_toArray, List.set_cons_zero, List.set_cons_succ, List.getElem_toArray, List.getElem_cons_zero, List.getElem_cons_succ]
  refine wpAnyG_ready (rs := [19]) (by kernel_rfl) (by simp) ?_
  refine AllG.cons rfl (ph' := false) (by kernel_rfl) (fun K hK => ?_) AllG.nil
  go_simp
  go_at_call 33
  refine (file_any (HD2.out) o.name).mono ?_
  rintro e w3 ⟨rfl, hk3⟩
  have HS3 := BoxD.kept HS2 hk3 (fun f => f) (fun f => f)
  refine hK.out _ _ (fun _ => HS3) ?_
  clear hK K
  try simp only [Act.put, List.setIfInBounds_toArray, List.set_cons_zero, List.set_cons_succ, List.getElem_toArray, List.getElem_cons_zero, List.getElem_cons_succ]
  refine wpAnyG_takeU (i := 20) (v := ?_) rfl (by kernel_rfl) (by kernel_rfl) (by kernel_rfl) (by kernel_rfl) (fun _ _ _ h => h) (Or.inl ⟨by rfl, ?_⟩) (fun _ => HS3) ?_
  rotate_left
  (intro w' hSw'; go_simp; try with_reducible rfl)
  try simp only [Act.put, List.setIfInBounds_toArray, List.set_cons_zero, List.set_cons_succ, List.getElem_toArray, List.getElem_cons_zero, List.getElem_cons_succ]
  refine wpAnyG_takeU (i := 21) (v := ?_) rfl (by kernel_rfl) (by kernel_rfl) (by kernel_rfl) (by kernel_rfl) (fun _ _ _ h => h) (Or.inl ⟨by rfl, ?_⟩) (fun _ => HS3) ?_
  rotate_left
  (intro w' hSw'; go_simp; try with_reducible rfl)
  try simp only [Act.put, List.setIfInBounds_toArray, List.set_cons_zero, List.set_cons_succ, List.getElem_toArray, List.getElem_cons_zero, List.getElem_cons_succ]
  refine wpAnyG_take (i := 22) (v := ?_) rfl (by kernel_rfl) (by kernel_rfl) (by kernel_rfl) (by kernel_rfl) (fun _ _ _ h => h) (Or.inl ⟨by rfl, ?_⟩) HS3 ?_
  rotate_left
  (intro w' hSw'; have ⟨_, _, _, _, _, _, _⟩ := hSw'; go_simp; try with_reducible rfl)
  try simp only [Act.put, List.setIfInBounds_toArray, List.set_cons_zero, List.set_cons_succ, List.getElem_toArray, List.getElem_cons_zero, List.getElem_cons_succ]
  refine wpAnyG_take (i := 23) (v := ?_) rfl (by kernel_rfl) (by kernel_rfl) (by kernel_rfl) (by kernel_rfl) (fun _ _ _ h => h) (Or.inl ⟨by rfl, ?_⟩) HS3 ?_
  rotate_left
  (intro w' hSw'; have ⟨_, _, _, _, _, _, _⟩ := hSw'; go_simp; try with_reducible rfl)
  try simp only [Act.put, List.setIfInBounds_toArray, List.set_cons_zero, List.set_cons_succ, List.getElem_toArray, List.getElem_cons_zero, List.getElem_cons_succ]
  refine wpAnyG_take (i := 24) (v := ?_) rfl (by kernel_rfl) (by kernel_rfl) (by kernel_rfl) (by kernel_rfl) (fun _ _ _ h => h) (Or.inl ⟨by rfl, ?_⟩) HS3 ?_
  rotate_left
  (intro w' hSw'; have ⟨_, _, _, _, _, _, _⟩ := hSw'; go_simp; try with_reducible rfl)
  try simp only [Act.put, List.setIfInBounds_toArray, List.set_cons_zero, List.set_cons_succ, List.getElem_toArray, List.getElem_cons_zero, List.getElem_cons_succ]
  refine wpAnyG_ready (rs := [25]) (by kernel_rfl) (by simp) ?_
  refine AllG.cons rfl (ph' := false) (by kernel_rfl) (fun K hK => ?_) AllG.nil
  go_simp
  go_at_call 33
  refine (file_any (HD2.out.keptN hk3) o.to).mono ?_
  rintro e w4 ⟨rfl, hk4⟩
  have HS4 := BoxD.kept HS3 hk4 (fun f => f) (fun f => f)
  refine hK.out _ _ (fun _ => HS4) ?_
  clear hK K
  try simp only [Act.put, List.setIfInBounds_toArray, List.set_cons_zero, List.set_cons_succ, List.getElem_toArray, List.getElem_cons_zero, List.getElem_cons_succ]
  refine wpAnyG_takeU (i := 26) (v := ?_) rfl (by kernel_rfl) (by kernel_rfl) (by kernel_rfl) (by kernel_rfl) (fun _ _ _ h => h) (Or.inl ⟨by rfl, ?_⟩) (fun _ => HS4) ?_
  rotate_left
  (intro w' hSw'; go_simp; try with_reducible rfl)
  try simp only [Act.put, List.setIfInBounds_toArray, List.set_cons_zero, List.set_cons_succ, List.getElem_toArray, List.getElem_cons_zero, List.getElem_cons_succ]
  refine wpAnyG_takeU (i := 27) (v := ?_) rfl (by kernel_rfl) (by kernel_rfl) (by kernel_rfl) (by kernel_rfl) (fun _ _ _ h => h) (Or.inl ⟨by rfl, ?_⟩) (fun _ => HS4) ?_
  rotate_left
  (intro w' hSw'; go_simp; try with_reducible rfl)
  try simp only [Act.put, List.setIfInBounds_toArray, List.set_cons_zero, List.set_cons_succ, List.getElem_toArray, List.getElem_cons_zero, List.getElem_cons_succ]
  refine wpAnyG_done (by kernel_rfl) ?_ _
  go_wp2_with fail
  go_ret
  exact ⟨rfl, (HNX.out.after hk3).after hk4⟩
set_option maxRecDepth 100000 in
set_option maxHeartbeats 2000000 in
theorem does3 {w : World} {b rb : Nat} {F : Nat → Prop} {D : DM} {m : Nat} {es : Array MapEntry} {clock : Nat} {fv : Value} {S : List FileM} {R : DM} (h : DocAt w b rb F D m es clock fv S R) (o : OpV) (hjw : (IntKind.u64.wrap o.kind).tmod 9 = 3) (hw : D.writes < 1000000000000000) :
    Calls Tryd.prog 14 #[.agg #[.pointer (some ⟨b, 0, none⟩), .pointer (some ⟨rb, 0, none⟩)], o.valD] w fun e w' => e = .returned (.bool true) ∧ NextD w b rb F D w' := by
  have H := Lib.hid h
  unfold OpV.valD
  obtain ⟨wa, hwa⟩ : ∃ W, w.alloc (.cells #[.pointer (some ⟨b, 0, none⟩), .pointer (some ⟨rb, 0, none⟩)] 29) = W := ⟨_, rfl⟩
  obtain ⟨w0, hw0⟩ : ∃ W, wa.alloc (.cells #[.int .i64 o.kind, .string o.name, .string o.to, .int .i64 o.n, .slice o.ba o.bytes.length o.bc] 34) = W := ⟨_, rfl⟩
  have hka : Kept (fun _ => False) w wa := by rw [← hwa]; exact (Kept.refl _ _).alloc _
  have hkb : Kept (fun _ => False) wa w0 := by rw [← hw0]; exact (Kept.refl _ _).alloc _
  have hk0 := hka.trans hkb (fun _ _ f => f)
  have hsa : wa.heap.size = w.heap.size + 1 := by rw [← hwa]; simp
  have ba : wa.heap[w.heap.size]? = some (.cells #[.pointer (some ⟨b, 0, none⟩), .pointer (some ⟨rb, 0, none⟩)] 29 (0, 0)) := by rw [← hwa]; exact heap_alloc_new _ _
  have bb : w0.heap[wa.heap.size]? = some (.cells #[.int .i64 o.kind, .string o.name, .string o.to, .int .i64 o.n, .slice o.ba o.bytes.length o.bc] 34 (0, 0)) := by rw [← hw0]; exact heap_alloc_new _ _
  have ba' := (hkb.block w.heap.size (by omega) (fun f => f)).trans ba
  have hB0 : BoxD w0 w.heap.size wa.heap.size b rb o := by
    refine ⟨?_, ?_, ?_, ?_, ?_, ?_, ?_⟩ <;> simp [World.cell?, ba', bb]
  have HB := Lib.hid hB0
  have HBX : Hid (∀ W, Kept F w0 W → BoxD W w.heap.size wa.heap.size b rb o) := Lib.hid (fun W hk => HB.out.kept hk (fun e => by have := H.out.lt _ e; omega) (fun e => by have := H.out.lt _ e; omega))
  have HK0 := Lib.hid hk0
  have H0 := Lib.hid (h.keptN hk0)
  have HS : Hid (w.heap.size ≤ w0.heap.size) := Lib.hid hk0.size
  obtain ⟨x0, x1, x2, x3, x4, x5, x6⟩ := hB0
  clear h hka hkb hk0 hsa ba bb ba'
  go_enter Tryd.func14, Tryd.ntmps14
  go_wp2_with fail
  have HS0 := HBX.out w0.drew ((Kept.refl _ _).drew)
  have HLP := Lib.hid (like_remove H.out.like H.out.ref.ok H.out.disk.ok o.name)
  have HC1 := Lib.hid (remove_any (H0.out.keptN (drew_kept w0)).disk o.name (by omega))
  obtain ⟨P, hP⟩ : ∃ P, D.remove o.name = P := ⟨_, rfl⟩
  obtain ⟨Q, hQ⟩ : ∃ Q, R.remove o.name = Q := ⟨_, rfl⟩
  rw [hP] at HC1
  rw [hP, hQ] at HLP
  have hwR : R.writes < 2305843009213693952 := by have := H.out.like.writes; omega
  refine wp_region_phase (fun W => BoxD W w.heap.size wa.heap.size b rb o) (fun _ => false) (by kernel_rfl) HS0 (fun _ => ?_)
  refine wpAnyG_take (i := 0) (v := ?_) rfl (by kernel_rfl) (by kernel_rfl) (by kernel_rfl) (by kernel_rfl) (fun _ _ _ h => h) (Or.inl ⟨by rfl, ?_⟩) HS0 ?_
  rotate_left
  (intro w' hSw'; have ⟨_, _, _, _, _, _, _⟩ := hSw'; go_simp; try with_reducible rfl)
  try simp only [Act.put, List.setIfInBounds_toArray, List.set_cons_zero, List.set_cons_succ, List.getElem_toArray, List.getElem_cons_zero, List.getElem_cons_succ]
  refine wpAnyG_take (i := 1) (v := ?_) rfl (by kernel_rfl) (by kernel_rfl) (by kernel_rfl) (by kernel_rfl) (fun _ _ _ h => h) (Or.inl ⟨by rfl, ?_⟩) HS0 ?_
  rotate_left
  (intro w' hSw'; have ⟨_, _, _, _, _, _, _⟩ := hSw'; go_simp; try with_reducible rfl)
  try simp only [Act.put, List.setIfInBounds_toArray, List.set_cons_zero, List.set_cons_succ, List.getElem_toArray, List.getElem_cons_zero, List.getElem_cons_succ]
  refine wpAnyG_take (i := 2) (v := ?_) rfl (by kernel_rfl) (by kernel_rfl) (by kernel_rfl) (by kernel_rfl) (fun _ _ _ h => h) (Or.inl ⟨by rfl, ?_⟩) HS0 ?_
  rotate_left
  (intro w' hSw'; have ⟨_, _, _, _, _, _, _⟩ := hSw'; go_simp; try with_reducible rfl)
  try simp only [Act.put, List.setIfInBounds_toArray, List.set_cons_zero, List.set_cons_succ, List.getElem_toArray, List.getElem_cons_zero, List.getElem_cons_succ]
  refine wpAnyG_take (i := 3) (v := ?_) rfl (by kernel_rfl) (by kernel_rfl) (by kernel_rfl) (by kernel_rfl) (fun _ _ _ h => h) (Or.inl ⟨by rfl, ?_⟩) HS0 ?_
  rotate_left
  (intro w' hSw'; have ⟨_, _, _, _, _, _, _⟩ := hSw'; go_simp; try with_reducible rfl)
  try simp only [Act.put, List.setIfInBounds_toArray, List.set_cons_zero, List.set_cons_succ, List.getElem_toArray, List.getElem_cons_zero, List.getElem_cons_succ]
  refine wpAnyG_take (i := 5) (v := ?_) rfl (by kernel_rfl) (by kernel_rfl) (by kernel_rfl) (by kernel_rfl) (fun _ _ _ h => h) (Or.inl ⟨by rfl, ?_⟩) HS0 ?_
  rotate_left
  (intro w' hSw'; have ⟨_, _, _, _, _, _, _⟩ := hSw'; go_simp; try with_reducible rfl)
  try simp only [Act.put, List.setIfInBounds_toArray, List.set_cons_zero, List.set_cons_succ, List.getElem_toArray, List.getElem_cons_zero, List.getElem_cons_succ]
  refine wpAnyG_take (i := 6) (v := ?_) rfl (by kernel_rfl) (by kernel_rfl) (by kernel_rfl) (by kernel_rfl) (fun _ _ _ h => h) (Or.inl ⟨by rfl, ?_⟩) HS0 ?_
  rotate_left
  (intro w' hSw'; have ⟨_, _, _, _, _, _, _⟩ := hSw'; go_simp; try with_reducible rfl)
  try simp only [Act.put, List.setIfInBounds_toArray, List.set_cons_zero, List.set_cons_succ, List.getElem_toArray, List.getElem_cons_zero, List.getElem_cons_succ]
  refine wpAnyG_take (i := 7) (v := ?_) rfl (by kernel_rfl) (by kernel_rfl) (by kernel_rfl) (by kernel_rfl) (fun _ _ _ h => h) (Or.inl ⟨by rfl, ?_⟩) HS0 ?_
  rotate_left
  (intro w' hSw'; have ⟨_, _, _, _, _, _, _⟩ := hSw'; go_simp; try with_reducible rfl)
  try simp only [Act.put, List.setIfInBounds_toArray, List.set_cons_zero, List.set_cons_succ, List.getElem_toArray, List.getElem_cons_zero, List.getElem_cons_succ]
  refine wpAnyG_take (i := 8) (v := ?_) rfl (by kernel_rfl) (by kernel_rfl) (by kernel_rfl) (by kernel_rfl) (fun _ _ _ h => h) (Or.inl ⟨by rfl, ?_⟩) HS0 ?_
  rotate_left
  (intro w' hSw'; have ⟨_, _, _, _, _, _, _⟩ := hSw'; go_simp; try with_reducible rfl)
  try simp only [Act.put, List.setIfInBounds_toArray, List.set_cons_zero, List.set_cons_succ, List.getElem_toArray, List.getElem_cons_zero, List.getElem_cons_succ]
  refine wpAnyG_ready (rs := [4]) (by kernel_rfl) (by simp) ?_
  refine AllG.cons rfl (ph' := false) (by kernel_rfl) (fun K hK => ?_) AllG.nil
  go_simp
  go_at_call 42
  refine HC1.out.mono ?_
  rintro e w1 ⟨rfl, es1, clk1, hA1⟩
  have HKA : Hid (Kept F w0 w1) := Lib.hid (((drew_kept w0).mono (fun _ _ f => f.elim)).trans hA1.kept (fun i hi e => (H0.out.all i).2 (.inl e)))
  have HS1 := HBX.out w1 HKA.out
  refine hK.out _ _ (fun _ => HS1) ?_
  clear hK K
  try simp only [Act.put, List.setIfInBounds_toArray, List.set_cons_zero, List.set_cons_succ, List.getElem_toArray, List.getElem_cons_zero, List.getElem_cons_succ]
  refine wpAnyG_ready (rs := [9]) (by kernel_rfl) (by simp) ?_
  refine AllG.cons rfl (ph' := false) (by kernel_rfl) (fun K hK => ?_) AllG.nil
  go_simp
  go_at_call 43
  refine (rremove_any ((H0.out.keptN (drew_kept w0)).ref.kept hA1.kept (fun k e f => H0.out.sep k f e)) o.name hwR).mono ?_
  rintro e w2 ⟨rfl, fv2, S2, hr2, hkr2, hnr2⟩
  obtain ⟨hD2, hk02, hn2⟩ := (H0.out.keptN (drew_kept w0)).op hA1 (Kept.refl _ _) hr2 hkr2 hnr2 (by rw [hQ]; exact HLP.out.2.1)
  have HKB : Hid (Kept F w0 w2) := Lib.hid (((drew_kept w0).mono (fun _ _ f => f.elim)).trans hk02 (fun _ _ e => e))
  have HNX : Hid (NextD w b rb F D w2) := Lib.hid ⟨_, _, _, _, _, _, _, _, hD2, (HK0.out.mono (fun _ _ f => f.elim)).trans HKB.out (fun _ _ e => e), fun k e => (hn2 k e).imp id (fun h => Nat.le_trans HK0.out.size h), by have := HLP.out.2.2; omega⟩
  have HD2 := Lib.hid hD2
  have HS2 := HBX.out w2 HKB.out
  refine hK.out _ _ (fun _ => HS2) ?_
  clear hK K
  try simp only [Act.put, List.setIfInBounds_toArray, List.set_cons_zero, List.set_cons_succ, List.getElem_toArray, List.getElem_cons_zero, List.getElem_cons_succ]
  rw [hQ, HLP.out.1]
  refine wpAnyG_takeU (i := 10) (v := ?_) rfl (by kernel_rfl) (by kernel_rfl) (by kernel_rfl) (by kernel_rfl) (fun _ _ _ h => h) (Or.inl ⟨by rfl, ?_⟩) (fun _ => HS2) ?_
  rotate_left
  (intro w' hSw'; go_simp; try with_reducible rfl)
  try simp only [Act.put, List.setIfInBounds_toArray, List.set_cons_zero, List.set_cons_succ, List.getElem_toArray, List.getElem_cons_zero, List.getElem_cons_succ]
  refine wpAnyG_takeU (i := 11) (v := ?_) rfl (by kernel_rfl) (by kernel_rfl) (by kernel_rfl) (by kernel_rfl) (fun _ _ _ h => h) (Or.inl ⟨by rfl, ?_⟩) (fun _ => HS2) ?_
  rotate_left
  (intro w' hSw'; go_simp; try with_reducible rfl)
  try simp only [Act.put, List.setIfInBounds_toArray, List.set_cons_zero, List.set_cons_succ, List.getElem_toArray, List.getElem_cons_zero, List.getElem_cons_succ]
  refine wpAnyG_take (i := 12) (v := ?_) rfl (by kernel_rfl) (by kernel_rfl) (by kernel_rfl) (by kernel_rfl) (fun _ _ _ h => h) (Or.inl ⟨by rfl, ?_⟩) HS2 ?_
  rotate_left
  (intro w' hSw'; have ⟨_, _, _, _, _, _, _⟩ := hSw'; go_simp; try with_reducible rfl)
  try simp only [Act.put, List.setIfInBounds_toArray, List.set_cons_zero, List.set_cons_succ, List.getElem_toArray, List.getElem_cons_zero, List.getElem_cons_succ]
  refine wpAnyG_take (i := 13) (v := ?_) rfl (by kernel_rfl) (by kernel_rfl) (by kernel_rfl) (by kernel_rfl) (fun _ _ _ h => h) (Or.inl ⟨by rfl, ?_⟩) HS2 ?_
  rotate_left
  (intro w' hSw'; have ⟨_, _, _, _, _, _, _⟩ := hSw'; go_simp; try with_reducible rfl)
  try simp only [Act.put, List.setIfInBounds_toArray, List.set_cons_zero, List.set_cons_succ, List.getElem_toArray, List.getElem_cons_zero, List.getElem_cons_succ]
  refine wpAnyG_take (i := 14) (v := ?_) rfl (by kernel_rfl) (by kernel_rfl) (by kernel_rfl) (by kernel_rfl) (fun _ _ _ h => h) (Or.inl ⟨by rfl, ?_⟩) HS2 ?_
  rotate_left
  (intro w' hSw'; have ⟨_, _, _, _, _, _, _⟩ := hSw'; go_simp; try with_reducible rfl)
  try simp only [Act.put, List.setIfInBounds_toArray, List.set_cons_zero, List.set_cons_succ, List.getElem_toArray, List.getElem_cons_zero, List.getElem_cons_succ]
  refine wpAnyG_ready (rs := [15]) (by kernel_rfl) (by simp) ?_
  refine AllG.cons rfl (ph' := false) (by kernel_rfl) (fun K hK => ?_) AllG.nil
  go_simp
  go_at_call 33
  refine (file_any (HD2.out) o.name).mono ?_
  rintro e w3 ⟨rfl, hk3⟩
  have HS3 := BoxD.kept HS2 hk3 (fun f => f) (fun f => f)
  refine hK.out _ _ (fun _ => HS3) ?_
  clear hK K
  try simp only [Act.put, List.setIfInBounds_toArray, List.set_cons_zero, List.set_cons_succ, List.getElem_toArray, List.getElem_cons_zero, List.getElem_cons_succ]
  refine wpAnyG_takeU (i := 16) (v := ?_) rfl (by kernel_rfl) (by kernel_rfl) (by kernel_rfl) (by kernel_rfl) (fun _ _ _ h => h) (Or.inl ⟨by rfl, ?_⟩) (fun _ => HS3) ?_
  rotate_left
  (intro w' hSw'; go_simp; try with_reducible rfl)
  try simp only [Act.put, List.setIfInBounds_toArray, List.set_cons_zero, List.set_cons_succ, List.getElem_toArray, List.getElem_cons_zero, List.getElem_cons_succ]
  refine wpAnyG_takeU (i := 17) (v := ?_) rfl (by kernel_rfl) (by kernel_rfl) (by kernel_rfl) (by kernel_rfl) (fun _ _ _ h => h) (Or.inl ⟨by rfl, ?_⟩) (fun _ => HS3) ?_
  rotate_left
  (intro w' hSw'; go_simp; try with_reducible rfl)
  try simp only [Act.put, List.setIfInBounds_toArray, List.set_cons_zero, List.set_cons_succ, List.getElem_toArray, List.getElem_cons_zero, List.getElem_cons_succ]
  refine wpAnyG_done (by kernel_rfl) ?_ _
  go_wp2_with fail
  go_ret
  exact ⟨rfl, HNX.out.after hk3⟩
end Go.Proofs.YtjnhkepgoghogaaDoor
