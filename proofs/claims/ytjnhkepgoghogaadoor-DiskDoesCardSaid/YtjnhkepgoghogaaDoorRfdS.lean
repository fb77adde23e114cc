/- espalierlaw02: world.does, the small kinds. -/
import Derived.Test.YtjnhkepgoghogaaDoorRfdR
namespace Go.Proofs.YtjnhkepgoghogaaDoor
open Go.RowKit Go.ChangeMaps Go.MapKept
set_option linter.unusedSimpArgs false

theorem RefAt.setLeft {w : World} {b : Nat} {fv : Value} {S : List FileM} {D : DM} (h : RefAt w b fv S D) (D' : DM) (n : Int) (hn : n = if D'.cut = true then D'.left else -1) (hf : D'.files = D.files) (hw : D'.writes = D.writes) (ho : D'.Ok) :
    RefAt (w.setCell ⟨b, 2, none⟩ (.int .i64 n)) b fv S D' ∧ Kept (· = b) w (w.setCell ⟨b, 2, none⟩ (.int .i64 n)) := by
  have hk := keptCellR w b 2 (.int .i64 n)
  refine ⟨h.setW hk ?_ hf ho, hk⟩
  have h1 := heap_setCell_row (o := 2) h.cell (.int .i64 n)
  rw [h1, hn, hw]
  rfl
theorem DocAt.b {w : World} {b rb : Nat} {F : Nat → Prop} {D : DM} {m : Nat} {es : Array MapEntry} {clock : Nat} {fv : Value} {S : List FileM} {R : DM} (h : DocAt w b rb F D m es clock fv S R) : F b ∧ F rb ∧ b ≠ rb :=
  ⟨(h.all b).2 (.inl (.inl rfl)), (h.all rb).2 (.inr (.inl rfl)), fun e => h.sep b (.inl rfl) (.inl e)⟩
set_option maxRecDepth 100000 in
set_option maxHeartbeats 2000000 in
theorem does7 {w : World} {b rb : Nat} {F : Nat → Prop} {D : DM} {m : Nat} {es : Array MapEntry} {clock : Nat} {fv : Value} {S : List FileM} {R : DM} (h : DocAt w b rb F D m es clock fv S R) (o : OpV) (j : Int) (hj : j = 6 ∨ j = 7) (hjw : (IntKind.u64.wrap o.kind).tmod 9 = j) :
    Calls Tryd.prog 14 #[.agg #[.pointer (some ⟨b, 0, none⟩), .pointer (some ⟨rb, 0, none⟩)], o.valD] w fun e w' => e = .returned (.bool true) ∧ NextD w b rb F D w' := by
  have H := Lib.hid h
  unfold OpV.valD
  obtain ⟨wa, hwa⟩ : ∃ W, w.alloc (.cells #[.pointer (some ⟨b, 0, none⟩), .pointer (some ⟨rb, 0, none⟩)] 29) = W := ⟨_, rfl⟩
  obtain ⟨w0, hw0⟩ : ∃ W, wa.alloc (.cells #[.int .i64 o.kind, .string o.name, .string o.to, .int .i64 o.n, .slice o.ba o.bytes.length o.bc] 34) = W := ⟨_, rfl⟩
  have hka : Kept (fun _ => False) w wa := by rw [← hwa]; exact (Kept.refl _ _).alloc _
  have hkb : Kept (fun _ => False) wa w0 := by rw [← hw0]; exact (Kept.refl _ _).alloc _
  have hk0 := hka.trans hkb (fun _ _ f => f)
  have hsa : wa.heap.size = w.heap.size + 1 := by rw [← hwa]; simp
  have ba : wa.heap[w.heap.size]? = some (.cells #[.pointer (some ⟨b, 0, none⟩), .pointer (some ⟨rb, 0, none⟩)] 29 (0, 0)) := by rw [← hwa]; exact heap_alloc_new _ _
  have bb : w0.heap[wa.heap.size]? = some (.cells #[.int .i64 o.kind, .string o.name, .string o.to, .int .i64 o.n, .slice o.ba o.bytes.length o.bc] 34 (0, 0)) := by rw [← hw0]; exact heap_alloc_new _ _
  have ba' := (hkb.block w.heap.size (by omega) (fun f => f)).trans ba
  have hB0 : BoxD w0 w.heap.size wa.heap.size b rb o := by
    refine ⟨?_, ?_, ?_, ?_, ?_, ?_, ?_⟩ <;> simp [World.cell?, ba', bb]
  have HB := Lib.hid hB0
  have HBX : Hid (∀ W, Kept F w0 W → BoxD W w.heap.size wa.heap.size b rb o) := Lib.hid (fun W hk => HB.out.kept hk (fun e => by have := H.out.lt _ e; omega) (fun e => by have := H.out.lt _ e; omega))
  have HK0 := Lib.hid hk0
  have H0 := Lib.hid (h.keptN hk0)
  have HS : Hid (w.heap.size ≤ w0.heap.size) := Lib.hid hk0.size
  obtain ⟨x0, x1, x2, x3, x4, x5, x6⟩ := hB0
  clear h hka hkb hk0 hsa ba bb ba'
  have HFI := Lib.hid (file_any H0.out o.name)
  rcases hj with rfl | rfl
  all_goals
    go_enter Tryd.func14, Tryd.ntmps14
    go_wp2_with fail
    refine HFI.out.mono ?_
    rintro e w3 ⟨rfl, hk3⟩
    have HE : Hid (NextD w b rb F D w3) := Lib.hid (NextD.same H.out (HK0.out.trans hk3 (fun _ _ f => f)))
    clear hk3
    go_wp2_with fail
    go_ret
    exact ⟨rfl, HE.out⟩
set_option maxRecDepth 100000 in
set_option maxHeartbeats 2000000 in
theorem does5 {w : World} {b rb : Nat} {F : Nat → Prop} {D : DM} {m : Nat} {es : Array MapEntry} {clock : Nat} {fv : Value} {S : List FileM} {R : DM} (h : DocAt w b rb F D m es clock fv S R) (o : OpV) (hjw : (IntKind.u64.wrap o.kind).tmod 9 = 5) :
    Calls Tryd.prog 14 #[.agg #[.pointer (some ⟨b, 0, none⟩), .pointer (some ⟨rb, 0, none⟩)], o.valD] w fun e w' => e = .returned (.bool true) ∧ NextD w b rb F D w' := by
  have H := Lib.hid h
  unfold OpV.valD
  obtain ⟨wa, hwa⟩ : ∃ W, w.alloc (.cells #[.pointer (some ⟨b, 0, none⟩), .pointer (some ⟨rb, 0, none⟩)] 29) = W := ⟨_, rfl⟩
  obtain ⟨w0, hw0⟩ : ∃ W, wa.alloc (.cells #[.int .i64 o.kind, .string o.name, .string o.to, .int .i64 o.n, .slice o.ba o.bytes.length o.bc] 34) = W := ⟨_, rfl⟩
  have hka : Kept (fun _ => False) w wa := by rw [← hwa]; exact (Kept.refl _ _).alloc _
  have hkb : Kept (fun _ => False) wa w0 := by rw [← hw0]; exact (Kept.refl _ _).alloc _
  have hk0 := hka.trans hkb (fun _ _ f => f)
  have hsa : wa.heap.size = w.heap.size + 1 := by rw [← hwa]; simp
  have ba : wa.heap[w.heap.size]? = some (.cells #[.pointer (some ⟨b, 0, none⟩), .pointer (some ⟨rb, 0, none⟩)] 29 (0, 0)) := by rw [← hwa]; exact heap_alloc_new _ _
  have bb : w0.heap[wa.heap.size]? = some (.cells #[.int .i64 o.kind, .string o.name, .string o.to, .int .i64 o.n, .slice o.ba o.bytes.length o.bc] 34 (0, 0)) := by rw [← hw0]; exact heap_alloc_new _ _
  have ba' := (hkb.block w.heap.size (by omega) (fun f => f)).trans ba
  have hB0 : BoxD w0 w.heap.size wa.heap.size b rb o := by
    refine ⟨?_, ?_, ?_, ?_, ?_, ?_, ?_⟩ <;> simp [World.cell?, ba', bb]
  have HB := Lib.hid hB0
  have HBX : Hid (∀ W, Kept F w0 W → BoxD W w.heap.size wa.heap.size b rb o) := Lib.hid (fun W hk => HB.out.kept hk (fun e => by have := H.out.lt _ e; omega) (fun e => by have := H.out.lt _ e; omega))
  have HK0 := Lib.hid hk0
  have H0 := Lib.hid (h.keptN hk0)
  have HS : Hid (w.heap.size ≤ w0.heap.size) := Lib.hid hk0.size
  obtain ⟨x0, x1, x2, x3, x4, x5, x6⟩ := hB0
  clear h hka hkb hk0 hsa ba bb ba'
  obtain ⟨r0, r1, r2, rf⟩ := H0.out.ref.c
  have rf2 := rf 2
  obtain ⟨W1, hW1⟩ : ∃ W, w0.setCell ⟨rb, 2, none⟩ (.int .i64 (-1)) = W := ⟨_, rfl⟩
  obtain ⟨hr1, hkr⟩ := H0.out.ref.setLeft R.mend (-1) (by simp [DM.mend]) rfl rfl ⟨H0.out.ref.ok.w0, by simp [DM.mend], by simp [DM.mend], H0.out.ref.ok.count, H0.out.ref.ok.names, H0.out.ref.ok.nodup⟩
  rw [hW1] at hr1 hkr
  have hd1 := H0.out.disk.kept hkr (fun k e f => H0.out.sep k e (.inl f))
  have HM := Lib.hid (mend_any hd1)
  have HR1 := Lib.hid hr1
  have HKR := Lib.hid hkr
  have b1 := (HBX.out W1 (hkr.mono (fun i _ e => by rw [e]; exact H0.out.b.2.1))).1
  clear hr1 hkr hd1 r0 r1 rf
  go_enter Tryd.func14, Tryd.ntmps14
  go_wp2_with fail
  refine HM.out.mono ?_
  rintro e w2 ⟨rfl, hd2, hk2⟩
  have HE : Hid (NextD w b rb F D w2) := Lib.hid ⟨F, D.mend, m, es, clock, fv, S, R.mend, ⟨hd2, HR1.out.kept hk2 (fun k e f => H0.out.sep k (.inl f) e), ⟨⟨H0.out.like.same.files, H0.out.like.same.len⟩, H0.out.like.writes, rfl, rfl⟩, H0.out.all, H0.out.sep⟩,
    (((HK0.out.mono (fun _ _ f => f.elim)).trans (HKR.out.mono (fun i _ e => by rw [e]; exact H0.out.b.2.1)) (fun _ _ e => e)).trans hk2 (fun i _ e => by rw [e]; exact H0.out.b.1)), fun _ e => .inl e, by show D.writes ≤ _; omega⟩
  clear hd2 hk2
  go_wp2_with fail
  go_ret
  exact ⟨rfl, HE.out⟩
set_option maxRecDepth 100000 in
set_option maxHeartbeats 2000000 in
theorem does4 {w : World} {b rb : Nat} {F : Nat → Prop} {D : DM} {m : Nat} {es : Array MapEntry} {clock : Nat} {fv : Value} {S : List FileM} {R : DM} (h : DocAt w b rb F D m es clock fv S R) (o : OpV) (hjw : (IntKind.u64.wrap o.kind).tmod 9 = 4) (hn1 : -9223372036854775808 ≤ o.n) (hn2 : o.n ≤ 9223372036854775807) :
    Calls Tryd.prog 14 #[.agg #[.pointer (some ⟨b, 0, none⟩), .pointer (some ⟨rb, 0, none⟩)], o.valD] w fun e w' => e = .returned (.bool true) ∧ NextD w b rb F D w' := by
  have H := Lib.hid h
  unfold OpV.valD
  obtain ⟨wa, hwa⟩ : ∃ W, w.alloc (.cells #[.pointer (some ⟨b, 0, none⟩), .pointer (some ⟨rb, 0, none⟩)] 29) = W := ⟨_, rfl⟩
  obtain ⟨w0, hw0⟩ : ∃ W, wa.alloc (.cells #[.int .i64 o.kind, .string o.name, .string o.to, .int .i64 o.n, .slice o.ba o.bytes.length o.bc] 34) = W := ⟨_, rfl⟩
  have hka : Kept (fun _ => False) w wa := by rw [← hwa]; exact (Kept.refl _ _).alloc _
  have hkb : Kept (fun _ => False) wa w0 := by rw [← hw0]; exact (Kept.refl _ _).alloc _
  have hk0 := hka.trans hkb (fun _ _ f => f)
  have hsa : wa.heap.size = w.heap.size + 1 := by rw [← hwa]; simp
  have ba : wa.heap[w.heap.size]? = some (.cells #[.pointer (some ⟨b, 0, none⟩), .pointer (some ⟨rb, 0, none⟩)] 29 (0, 0)) := by rw [← hwa]; exact heap_alloc_new _ _
  have bb : w0.heap[wa.heap.size]? = some (.cells #[.int .i64 o.kind, .string o.name, .string o.to, .int .i64 o.n, .slice o.ba o.bytes.length o.bc] 34 (0, 0)) := by rw [← hw0]; exact heap_alloc_new _ _
  have ba' := (hkb.block w.heap.size (by omega) (fun f => f)).trans ba
  have hB0 : BoxD w0 w.heap.size wa.heap.size b rb o := by
    refine ⟨?_, ?_, ?_, ?_, ?_, ?_, ?_⟩ <;> simp [World.cell?, ba', bb]
  have HB := Lib.hid hB0
  have HBX : Hid (∀ W, Kept F w0 W → BoxD W w.heap.size wa.heap.size b rb o) := Lib.hid (fun W hk => HB.out.kept hk (fun e => by have := H.out.lt _ e; omega) (fun e => by have := H.out.lt _ e; omega))
  have HK0 := Lib.hid hk0
  have H0 := Lib.hid (h.keptN hk0)
  have HS : Hid (w.heap.size ≤ w0.heap.size) := Lib.hid hk0.size
  obtain ⟨x0, x1, x2, x3, x4, x5, x6⟩ := hB0
  clear h hka hkb hk0 hsa ba bb ba'
  by_cases hn : o.n < 0
  · have HC := Lib.hid (cut_neg b o.n hn w0)
    go_enter Tryd.func14, Tryd.ntmps14
    go_wp2_with fail
    refine HC.out.mono ?_
    rintro e w2 ⟨rfl, rfl⟩
    go_wp2_with fail
    go_ret
    exact ⟨rfl, NextD.same H.out HK0.out⟩
  · have HC := Lib.hid (cut_any H0.out.disk o.n (by omega) hn2)
    have hn0 : (0 : Int) ≤ o.n := by omega
    go_enter Tryd.func14, Tryd.ntmps14
    go_wp2_with fail
    refine HC.out.mono ?_
    rintro e w1 ⟨rfl, hd1, hk1⟩
    have hkF : Kept F w0 w1 := hk1.mono (fun i _ e => by rw [e]; exact H0.out.b.1)
    have hr1 := H0.out.ref.kept hk1 (fun k e f => H0.out.sep k (.inl f) e)
    obtain ⟨y0, y1, y2, y3, y4, y5, y6⟩ := HBX.out w1 hkF
    obtain ⟨r0, r1, r2, rf⟩ := hr1.c
    have rf2 := rf 2
    obtain ⟨hr2, hk2⟩ := hr1.setLeft (R.cutAt o.n) o.n (by simp [DM.cutAt]) rfl rfl ⟨hr1.ok.w0, hn0, hn2, hr1.ok.count, hr1.ok.names, hr1.ok.nodup⟩
    have HE : Hid (NextD w b rb F D (w1.setCell ⟨rb, 2, none⟩ (.int .i64 o.n))) := Lib.hid ⟨F, D.cutAt o.n, m, es, clock, fv, S, R.cutAt o.n, ⟨hd1.kept hk2 (fun k e f => H0.out.sep k e (.inl f)), hr2, ⟨⟨H0.out.like.same.files, H0.out.like.same.len⟩, H0.out.like.writes, rfl, rfl⟩, H0.out.all, H0.out.sep⟩,
      ((HK0.out.mono (fun _ _ f => f.elim)).trans hkF (fun _ _ e => e)).trans hk2 (fun i _ e => by rw [e]; exact H0.out.b.2.1), fun _ e => .inl e, by show D.writes ≤ _; omega⟩
    clear hd1 hk1 hkF hr1 rf hr2 hk2 r0 r1
    go_wp2_with fail
    go_ret
    exact ⟨rfl, HE.out⟩
end Go.Proofs.YtjnhkepgoghogaaDoor
