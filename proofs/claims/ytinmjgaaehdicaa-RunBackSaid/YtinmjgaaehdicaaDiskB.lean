/- disk: raw over a disk; Append. -/
import Derived.Test.YtinmjgaaehdicaaDiskM
namespace Go.Proofs.Ytinmjgaaehdicaa
open Go.RowKit Go.ChangeMaps Go.MapKept

section
variable {w : World} {b m : Nat} {es : Array MapEntry} {clock : Nat} {D : DM}

theorem raw_no (h : DiskAt w b m es clock D) (hr : D.raw = none) (f : Value) :
    Calls Try.prog 44 #[.pointer (some ⟨b, 0, none⟩), f] w fun e w' => e = .returned (.int .i64 6) ∧ w = w' := by
  unfold DM.raw at hr
  split at hr
  · rename_i hc
    split at hr
    · rename_i hl
      have c3 := h.c3
      have c2 := h.c2
      rw [hc] at c3; rw [hl] at c2
      exact raw_cut b w f c3 c2
    · cases hr
  · cases hr

theorem raw_yes (h : DiskAt w b m es clock D) {D' : DM} (hr : D.raw = some D') (hw : D.writes < 4611686018427387904) :
    ∃ w1, DiskAt w1 b m es clock D' ∧ Kept (· = b) w w1 ∧ w1.heap.size = w.heap.size ∧ ∀ (f : Nat) (caps : Array Value) (R : World → Prop), (∀ w, (callFunc f caps).run Try.prog w = .ok (.enter f caps) w) →
      (Calls Try.prog f caps w1 fun e w' => e = .returned (.tuple #[]) ∧ R w') →
      Calls Try.prog 44 #[.pointer (some ⟨b, 0, none⟩), .func (.func f) #[] caps] w fun e w' => e = .returned (.int .i64 0) ∧ R w' := by
  obtain ⟨hok, -, hfi, hcu⟩ := DM.raw_ok h.ok hr
  unfold DM.raw at hr
  split at hr
  · rename_i hc
    split at hr
    · cases hr
    · rename_i hl
      cases hr
      have c3 := h.c3
      rw [hc] at c3
      have h0 := h.ok.l0
      refine ⟨(w.setCell ⟨b, 2, none⟩ (.int .i64 (D.left - 1))).setCell ⟨b, 1, none⟩ (.int .i64 (D.writes + 1)), h.cells rfl hok (((Kept.refl (· = b) w).setCell (p := ⟨b, 2, none⟩) (fun _ => rfl) _).setCell (p := ⟨b, 1, none⟩) (fun _ => rfl) _) ?_, ?_, ?_, ?_⟩
      · rw [heap_setCell_row (heap_setCell_row h.cell _)]
        simp
      · exact (((Kept.refl (· = b) w).setCell (p := ⟨b, 2, none⟩) (fun _ => rfl) _).setCell (p := ⟨b, 1, none⟩) (fun _ => rfl) _)
      · simp
      · intro f caps R hcall hf
        exact raw_left b D.writes D.left w f caps R h.ok.w0 hw (by omega) h.ok.l1 c3 h.c1 (h.fr 1) h.c2 (h.fr 2) hcall hf
  · rename_i hc
    cases hr
    have hc' : D.cut = false := by simpa using hc
    have c3 := h.c3
    rw [hc'] at c3
    refine ⟨w.setCell ⟨b, 1, none⟩ (.int .i64 (D.writes + 1)), h.cells rfl hok ((Kept.refl (· = b) w).setCell (p := ⟨b, 1, none⟩) (fun _ => rfl) _) ?_, ?_, ?_, ?_⟩
    · rw [heap_setCell_row h.cell _]
      simp
    · exact ((Kept.refl (· = b) w).setCell (p := ⟨b, 1, none⟩) (fun _ => rfl) _)
    · simp
    · intro f caps R hcall hf
      exact raw_free b D.writes w f caps R h.ok.w0 hw c3 h.c1 (h.fr 1) hcall hf
end

theorem call_app2 (caps : Array Value) (w : World) : (callFunc 46 caps).run Try.prog w = .ok (.enter 46 caps) w := by kernel_rfl

/-- What is known behind a call that may have changed a disk. -/
structure DiskAfter (w : World) (b m : Nat) (es : Array MapEntry) (D' : DM) (w' : World) (es' : Array MapEntry) (clock' : Nat) : Prop where
  disk : DiskAt w' b m es' clock' D'
  foot : ∀ k, diskF b m es' k → diskF b m es k ∨ w.heap.size ≤ k
  kept : Kept (diskF b m es) w w'

theorem DiskAfter.trans {w w1 w2 : World} {b m : Nat} {es es1 es2 : Array MapEntry} {c1 c2 : Nat} {D1 D2 : DM} (h : DiskAfter w b m es D1 w1 es1 c1) (k : DiskAfter w1 b m es1 D2 w2 es2 c2) : DiskAfter w b m es D2 w2 es2 c2 :=
  ⟨k.disk, fun i hi => by
    rcases k.foot i hi with h1 | h1
    · exact h.foot i h1
    · exact .inr (Nat.le_trans h.kept.size h1),
   h.kept.trans k.kept fun i hi hf => by
    rcases h.foot i hf with h1 | h1
    · exact h1
    · omega⟩

/-- Other blocks are laid or written ahead of what is done to a disk. -/
theorem DiskAfter.of_kept {w w1 w2 : World} {b m : Nat} {es es2 : Array MapEntry} {c2 : Nat} {D2 : DM} (h : Kept (fun _ => False) w w1) (k : DiskAfter w1 b m es D2 w2 es2 c2) : DiskAfter w b m es D2 w2 es2 c2 :=
  ⟨k.disk, fun i hi => by
    rcases k.foot i hi with h1 | h1
    · exact .inl h1
    · exact .inr (Nat.le_trans h.size h1),
   h.mono (fun _ _ hf => hf.elim) |>.trans k.kept fun _ _ hf => hf⟩

/-- One raw write that puts a file's bytes: the closure of Append's first kind. -/
theorem raw_app1 {w : World} {b m : Nat} {es : Array MapEntry} {clock : Nat} {D D' : DM} (h : DiskAt w b m es clock D) (hr : D.raw = some D') (hw : D.writes < 4611686018427387904) (Bd Bn : Nat) (s : ByteArray)
    (hd : w.cell? ⟨Bd, 0, none⟩ = some (.pointer (some ⟨b, 0, none⟩))) (hn : w.cell? ⟨Bn, 0, none⟩ = some (.string s)) (hdb : Bd ≠ b) (hnb : Bn ≠ b) (hs : mayB s = true) (hc : D.files.length < 256) :
    Calls Try.prog 44 #[.pointer (some ⟨b, 0, none⟩), .func (.func 45) #[] #[.pointer (some ⟨Bd, 0, none⟩), .pointer (some ⟨Bn, 0, none⟩)]] w fun e w' => e = .returned (.int .i64 0) ∧
      ∃ es' clock', DiskAfter w b m es (D'.put s []) w' es' clock' := by
  obtain ⟨w1, h1, hk1, hsz, hcall⟩ := raw_yes h hr hw
  obtain ⟨hok, hwr, hfi, hcu⟩ := DM.raw_ok h.ok hr
  have hd1 : w1.cell? ⟨Bd, 0, none⟩ = some (.pointer (some ⟨b, 0, none⟩)) := (World.cell?_of_block (w := w) (hk1.block Bd (World.block_lt_of_cell? w _ hd) hdb)).trans hd
  have hn1 : w1.cell? ⟨Bn, 0, none⟩ = some (.string s) := (World.cell?_of_block (w := w) (hk1.block Bn (World.block_lt_of_cell? w _ hn) hnb)).trans hn
  obtain ⟨es', clock', hrun, h2, hF, hk2⟩ := h1.put (s := s) (w1 := w1.drew) (v' := .slice none 0 0) (x := []) (row := none) ⟨rfl, rfl, rfl, Nat.le_refl _, fun _ _ _ => rfl⟩ (fun g e => (by cases e)) (World.ownsRow_nil _ _ _ _) (fun g e => (by cases e))
    (DM.put_ok hok hs (by simp) (fun _ => by rw [hfi]; exact hc))
  refine hcall _ _ (fun w' => ∃ es' clock', DiskAfter w b m es (D'.put s []) w' es' clock') (call_app1 _) ((app1 Bd Bn b m s w1 _ hd1 hn1 h1.c0 hrun).mono ?_)
  rintro e w' ⟨rfl, rfl⟩
  exact ⟨rfl, es', clock', h2, fun k hk => by rw [← hsz]; exact hF k hk, (hk1.mono (fun k _ e => .inl e)).trans hk2 fun _ _ hf => hf⟩

/-- One raw write that puts a piece behind a file. -/
theorem raw_app2 {w : World} {b m : Nat} {es : Array MapEntry} {clock : Nat} {D D' : DM} (h : DiskAt w b m es clock D) (hr : D.raw = some D') (hw : D.writes < 4611686018427387904) (Bd Bn Bp : Nat) (s : ByteArray) (p : Value) (x : List UInt8)
    (hd : w.cell? ⟨Bd, 0, none⟩ = some (.pointer (some ⟨b, 0, none⟩))) (hn : w.cell? ⟨Bn, 0, none⟩ = some (.string s)) (hp : w.cell? ⟨Bp, 0, none⟩ = some p) (hdb : ¬ diskF b m es Bd) (hnb : ¬ diskF b m es Bn) (hpb : ¬ diskF b m es Bp)
    (hpx : IsB w p x) (hpo : ∀ g, p.ownBlock = some g → ¬ diskF b m es g) (hs : mayB s = true) (hc : getA s D.files = none → D.files.length < 256) (hlen : (D.bytes s).length + x.length ≤ 4194304) :
    Calls Try.prog 44 #[.pointer (some ⟨b, 0, none⟩), .func (.func 46) #[] #[.pointer (some ⟨Bd, 0, none⟩), .pointer (some ⟨Bn, 0, none⟩), .pointer (some ⟨Bp, 0, none⟩)]] w fun e w' => e = .returned (.int .i64 0) ∧
      ∃ es' clock', DiskAfter w b m es (D'.put s (D'.bytes s ++ x)) w' es' clock' := by
  obtain ⟨w1, h1, hk1, hsz, hcall⟩ := raw_yes h hr hw
  obtain ⟨hok, hwr, hfi, hcu⟩ := DM.raw_ok h.ok hr
  have hby : D'.bytes s = D.bytes s := by unfold DM.bytes; rw [hfi]
  have hkb : ∀ B v, w.cell? ⟨B, 0, none⟩ = some v → ¬ diskF b m es B → w1.cell? ⟨B, 0, none⟩ = some v := fun B v hB hnB =>
    (World.cell?_of_block (w := w) (hk1.block B (World.block_lt_of_cell? w _ hB) (fun e => hnB (.inl e)))).trans hB
  have hpx1 : IsB w1 p x := hpx.kept hk1.size fun g hg => by
    by_cases hlt : g < w.heap.size
    · exact hk1.block g hlt (fun e => hpo g hg (.inl e))
    · rw [Array.getElem?_eq_none (by omega), Array.getElem?_eq_none (by omega)]
  obtain ⟨v, hl, hvO, hvg, hvn⟩ := h1.look s false
  obtain ⟨v', w2, ha, hvO', hgr, hvb, -⟩ := run_append_bytes w1.drew v p (D'.bytes s) x (OwnB.kept hvO fun _ _ => rfl) (hpx1.kept (Nat.le_refl _) fun _ _ => rfl) (by rw [hby]; omega)
  have hrow : ∀ g, v.ownBlock = some g → (∃ e ∈ es.toList, e.key = .string s ∧ e.val.ownBlock = some g) ∨ w1.heap.size ≤ g := fun g hg => .inl (hvg g hg)
  obtain ⟨es', clock', hrun, h2, hF, hk2⟩ := h1.put (s := s) (w1 := w2) (v' := v') (x := D'.bytes s ++ x) (row := v.ownBlock) ⟨hgr.os, hgr.tape, hgr.output, hgr.size, hgr.block⟩ hrow hvO' (fun g hg => by
      rcases hvb g hg with h3 | ⟨h3, _⟩
      · exact .inl (hvg g h3)
      · exact .inr (by rw [h3]; exact Nat.le_refl _))
    (DM.put_ok hok hs (by rw [hby, List.length_append]; exact hlen) (fun e => by rw [hfi] at e ⊢; exact hc e))
  have hk12 : ∀ B u, w.cell? ⟨B, 0, none⟩ = some u → ¬ diskF b m es B → w2.cell? ⟨B, 0, none⟩ = some u := fun B u hB hnB =>
    hgr.cell (w := w1.drew) (hkb B u hB hnB) (fun e => by
      obtain ⟨e', he', _, hg'⟩ := hvg B e.symm
      exact hnB (.inr (.inr ⟨e', he', hg'⟩)))
  have hk13 : ∀ B u, w.cell? ⟨B, 0, none⟩ = some u → ¬ diskF b m es B → (setBlock w2 m (.map es' clock')).cell? ⟨B, 0, none⟩ = some u := fun B u hB hnB =>
    (World.cell?_of_block (w := w2) (heap_setBlock_ne (fun e => hnB (.inr (.inl e))) _)).trans (hk12 B u hB hnB)
  have hb2 : w2.cell? ⟨b, 0, none⟩ = some (.map (some m)) := hgr.cell (w := w1.drew) h1.c0 (fun e => by
      obtain ⟨e', he', _, hg'⟩ := hvg b e.symm
      exact (h1.own he' hg').1 rfl)
  refine hcall _ _ (fun w' => ∃ es' clock', DiskAfter w b m es (D'.put s (D'.bytes s ++ x)) w' es' clock') (call_app2 _) ((app2 Bd Bn Bp b m s p v v' w1 w2 _ (hkb _ _ hd hdb) (hkb _ _ hn hnb) (hkb _ _ hp hpb) h1.c0 (hk12 _ _ hd hdb) (hk12 _ _ hn hnb) hb2 (hk12 _ _ hp hpb)
    (hk13 _ _ hd hdb) (hk13 _ _ hn hnb) h2.c0 (hk13 _ _ hp hpb) (hl 1) ha hrun).mono ?_)
  rintro e w' ⟨rfl, rfl⟩
  exact ⟨rfl, es', clock', h2, fun k hk => by rw [← hsz]; exact hF k hk, (hk1.mono (fun k _ e => .inl e)).trans hk2 fun _ _ hf => hf⟩
end Go.Proofs.Ytinmjgaaehdicaa
