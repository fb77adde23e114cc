/- disk: Remove, Truncate, Rename. -/
import Derived.Test.YtemilbemdlpkaaaGreatDoorPad
namespace Go.Proofs.YtemilbemdlpkaaaGreatDoor
open Go.RowKit Go.ChangeMaps Go.MapKept

section
variable {P : Program} {ops : Array Oper} {o : Oper} {a : Act} {w : World} {K : Act → World → Prop} {Q : Exit → Act → World → Prop} {E : Prop}
theorem wp_delete_run (s x : Operand) (ts : Array TypeId) (hop : o.op = Op.call { callee := Callee.builtin Builtin.delete, args := #[s, x], argTypes := ts })
    (v u v' : Value) (w' : World) (hs : a.eval s = v) (hx : a.eval x = u) (hrun : (Builtin.delete_ ts o.type #[v, u]).run P w = .ok v' w') (hK : K (a.put o.dst v') w') : Oper.wp P o a w K Q := by
  unfold Oper.wp execOp
  simp only [hop, resolve, invoke, builtin, Sem.run_bind, Sem.run_pure, Result.andThen_ok, List.map_toArray, List.map_cons, List.map_nil, hs, hx, hrun]
  exact hK
theorem step_delete_run (hg : o.guard = none) (s x : Operand) (ts : Array TypeId) (hop : o.op = Op.call { callee := Callee.builtin Builtin.delete, args := #[s, x], argTypes := ts })
    (v u v' : Value) (w' : World) (hs : a.eval s = v) (hx : a.eval x = u) (hrun : (Builtin.delete_ ts o.type #[v, u]).run P w = .ok v' w') (hK : K (a.put o.dst v') w') :
    if Region.wanted o (yielded ops a.tmps) = true then Oper.wp P o a w K Q else E := by
  have hw : Region.wanted o (yielded ops a.tmps) = true := by simp [Region.wanted, hg]
  rw [if_pos hw]
  exact wp_delete_run s x ts hop v u v' w' hs hx hrun hK
end

section
variable {w : World} {b m : Nat} {es : Array MapEntry} {clock : Nat} {D : DM}

/-- A file is taken away, in the machine's map. -/
theorem DiskAt.del (h : DiskAt w b m es clock D) (s : ByteArray) :
    ∃ es', (Builtin.delete_ #[104, 9] 0 #[.map (some m), .string s]).run Tryz.prog w = .ok (.tuple #[]) (setBlock w m (.map es' clock)) ∧
      DiskAt (setBlock w m (.map es' clock)) b m es' clock (D.del s) ∧ (∀ e ∈ es'.toList, e ∈ es.toList ∧ e.key ≠ .string s) ∧ Kept (· = m) w (setBlock w m (.map es' clock)) := by
  obtain ⟨es', hrun, hrel, hst, hmem⟩ := run_delete_rel (m := m) (ty := 0) (keyEnc_string Tryz.underlying9) Tryz.underlying104 h.rel h.stamped s
  have hlt := h.lt m (.inr (.inl rfl))
  refine ⟨es', hrun w h.map, ⟨?_, ?_, hst, ?_, ?_, DM.del_ok h.ok s⟩, hmem, (Kept.refl (· = m) w).setBlock (fun _ => rfl) _⟩
  · rw [heap_setBlock_ne h.bm]; exact h.cell
  · simp [ChangeMaps.setBlock, hlt]
  · exact hrel.mono fun e he bs hO => OwnB.kept hO fun g hg => heap_setBlock_ne (h.own (hmem e he).1 hg).2.1 _
  · intro e he e' he' hne g hg hg'
    exact h.apart e (hmem e he).1 e' (hmem e' he').1 hne g hg hg'

/-- A slice that no other file owns is put as a file. -/
theorem DiskAt.put2 (h : DiskAt w b m es clock D) {s : ByteArray} {v' : Value} {x : List UInt8} (hv : OwnB w v' x) (hsep : ∀ g, v'.ownBlock = some g → g ≠ b ∧ g ≠ m ∧ ∀ e ∈ es.toList, e.key ≠ .string s → e.val.ownBlock ≠ some g) (ho : (D.put s x).Ok) :
    ∃ es' clock', (Instr.mapUpdate 104 (.map (some m)) (.string s) v').run Tryz.prog w = .ok () (setBlock w m (.map es' clock')) ∧
      DiskAt (setBlock w m (.map es' clock')) b m es' clock' (D.put s x) ∧ (∀ k, diskF b m es' k → diskF b m es k ∨ v'.ownBlock = some k) ∧ Kept (· = m) w (setBlock w m (.map es' clock')) := by
  obtain ⟨es', clock', hrun, hrel, hst, hmem⟩ := run_mapUpdate_rel (m := m) (R' := OwnB w) (keyEnc_string Tryz.underlying9) Tryz.underlying104 h.rel h.stamped s v' x hv (fun _ _ _ _ h => h)
  have hlt := h.lt m (.inr (.inl rfl))
  have hne' : ∀ e ∈ es'.toList, ∀ g, e.val.ownBlock = some g → g ≠ m := by
    intro e he g hgo
    rcases hmem e he with ⟨hv', _⟩ | ⟨he', _⟩
    · rw [hv'] at hgo; exact (hsep g hgo).2.1
    · exact (h.own he' hgo).2.1
  refine ⟨es', clock', hrun w h.map, ⟨?_, ?_, hst, ?_, ?_, ho⟩, ?_, (Kept.refl (· = m) w).setBlock (fun _ => rfl) _⟩
  · rw [heap_setBlock_ne h.bm]; exact h.cell
  · simp [ChangeMaps.setBlock, hlt]
  · exact hrel.mono fun e he bs hO => OwnB.kept hO fun g hg => heap_setBlock_ne (hne' e he g hg) _
  · intro e he e' he' hne g hgo hgo'
    rcases hmem e he with ⟨hv1, hk1⟩ | ⟨he1, hn1⟩ <;> rcases hmem e' he' with ⟨hv2, hk2⟩ | ⟨he2, hn2⟩
    · exact hne (hk1.trans hk2.symm)
    · rw [hv1] at hgo; exact (hsep g hgo).2.2 e' he2 hn2 hgo'
    · rw [hv2] at hgo'; exact (hsep g hgo').2.2 e he1 hn1 hgo
    · exact h.apart e he1 e' he2 hne g hgo hgo'
  · rintro k (rfl | rfl | ⟨e, he, hgo⟩)
    · exact .inl (.inl rfl)
    · exact .inl (.inr (.inl rfl))
    · rcases hmem e he with ⟨hv', _⟩ | ⟨he', _⟩
      · rw [hv'] at hgo; exact .inr hgo
      · exact .inl (.inr (.inr ⟨e, he', hgo⟩))
end

/-! ### Remove -/

theorem remove1 (Bd Bn b m : Nat) (s : ByteArray) (w w2 : World)
    (hd : w.cell? ⟨Bd, 0, none⟩ = some (.pointer (some ⟨b, 0, none⟩))) (hn : w.cell? ⟨Bn, 0, none⟩ = some (.string s))
    (hb : w.cell? ⟨b, 0, none⟩ = some (.map (some m)))
    (hrun : (Builtin.delete_ #[104, 9] 0 #[.map (some m), .string s]).run Tryz.prog (w.drew) = .ok (.tuple #[]) w2) :
    Calls Tryz.prog 128 #[.pointer (some ⟨Bd, 0, none⟩), .pointer (some ⟨Bn, 0, none⟩)] w fun e w' => e = .returned (.tuple #[]) ∧ w' = w2 := by
  go_enter Tryz.func128, Tryz.ntmps128
  go_wp2
  go_region
  go_end0
  exact ⟨rfl, rfl⟩

theorem call_remove1 (caps : Array Value) (w : World) : (callFunc 128 caps).run Tryz.prog w = .ok (.enter 128 caps) w := by kernel_rfl
theorem call_truncate1 (caps : Array Value) (w : World) : (callFunc 124 caps).run Tryz.prog w = .ok (.enter 124 caps) w := by kernel_rfl
def DM.remove (D : DM) (s : ByteArray) : Int × DM :=
  if getA s D.files = none then (4, D)
  else match D.raw with
    | none => (6, D)
    | some D' => (0, D'.del s)

theorem drew_kept (w : World) : Kept (fun _ => False) w w.drew := (Kept.refl _ _).drew

theorem raw_remove {w : World} {b m : Nat} {es : Array MapEntry} {clock : Nat} {D D' : DM} (h : DiskAt w b m es clock D) (hr : D.raw = some D') (hw : D.writes < 4611686018427387904) (Bd Bn : Nat) (s : ByteArray)
    (hd : w.cell? ⟨Bd, 0, none⟩ = some (.pointer (some ⟨b, 0, none⟩))) (hn : w.cell? ⟨Bn, 0, none⟩ = some (.string s)) (hdb : Bd ≠ b) (hnb : Bn ≠ b) :
    Calls Tryz.prog 51 #[.pointer (some ⟨b, 0, none⟩), .func (.func 128) #[] #[.pointer (some ⟨Bd, 0, none⟩), .pointer (some ⟨Bn, 0, none⟩)]] w (EndD w b m es 0 (D'.del s)) := by
  obtain ⟨w1, h1, hk1, hsz, hcall⟩ := raw_yes h hr hw
  have hd1 : w1.cell? ⟨Bd, 0, none⟩ = some (.pointer (some ⟨b, 0, none⟩)) := hk1.cell hd hdb
  have hn1 : w1.cell? ⟨Bn, 0, none⟩ = some (.string s) := hk1.cell hn hnb
  obtain ⟨es', hrun, h2, hmem, hk2⟩ := (h1.kept (drew_kept w1) (fun _ _ h => h)).del s
  refine hcall _ _ (fun w' => ∃ es' clock', DiskAfter w b m es (D'.del s) w' es' clock') (call_remove1 _) ((remove1 Bd Bn b m s w1 _ hd1 hn1 h1.c0 hrun).mono ?_)
  rintro e w' ⟨rfl, rfl⟩
  refine ⟨rfl, es', clock, h2, fun k hk => .inl ?_, ((hk1.mono (fun k _ e => .inl e)).trans (drew_kept w1) (fun _ _ h => h.elim)).trans hk2 (fun _ _ e => .inr (.inl e))⟩
  rcases hk with rfl | rfl | ⟨e, he, hg⟩
  · exact .inl rfl
  · exact .inr (.inl rfl)
  · exact .inr (.inr ⟨e, (hmem e he).1, hg⟩)

theorem remove_any {w : World} {b m : Nat} {es : Array MapEntry} {clock : Nat} {D : DM} (h : DiskAt w b m es clock D) (s : ByteArray) (hw : D.writes < 2305843009213693952) :
    Calls Tryz.prog 100 #[.pointer (some ⟨b, 0, none⟩), .string s] w (EndD w b m es (D.remove s).1 (D.remove s).2) := by
  obtain ⟨w2, hw2, hk, hsz, hBd, hBn⟩ := two_new w (.pointer (some ⟨b, 0, none⟩)) (.string s) 32 9
  have hlt : ∀ k, diskF b m es k → k < w.heap.size := h.lt
  have h1 : DiskAt w2 b m es clock D := h.kept hk (fun _ _ hf => hf)
  have hc0 := h1.c0
  obtain ⟨old, hl, -, -, -⟩ := h1.look s true
  have hnF : ∀ k, w.heap.size ≤ k → k ≠ b := fun k hk e => by have := hlt b (.inl rfl); omega
  cases hg : getA s D.files with
  | none =>
    have e0 : D.remove s = (4, D) := by unfold DM.remove; rw [if_pos hg]
    rw [hg] at hl
    rw [e0]
    clear e0 hg
    go_enter Tryz.func100, Tryz.ntmps100
    go_wp2_with fail
    clear hw2
    go_quiet (fail)
    rename_i nq
    go_wp2
    go_ret
    exact EndD.same h 4 (hk.drewN nq)
  | some x =>
    rw [hg] at hl
    cases hraw : D.raw with
    | none =>
      have e0 : D.remove s = (6, D) := by unfold DM.remove; rw [if_neg (by rw [hg]; simp), hraw]
      rw [e0]
      clear e0 hg
      go_enter Tryz.func100, Tryz.ntmps100
      go_wp2_with fail
      clear hw2
      go_quiet (fail)
      rename_i nq
      clear hl
      have h3 : DiskAt (w2.drewN nq) b m es clock D := h1.kept ((Kept.refl (fun _ => False) _).drewN nq) (fun _ _ hf => hf)
      go_wp2_with fail
      refine (raw_no h3 hraw _).mono ?_
      clear hraw
      rintro e w5 ⟨rfl, rfl⟩
      go_wp2
      go_ret
      exact EndD.same h 6 (hk.drewN nq)
    | some D' =>
      have e0 : D.remove s = (0, D'.del s) := by unfold DM.remove; rw [if_neg (by rw [hg]; simp), hraw]
      rw [e0]
      clear e0 hg
      go_enter Tryz.func100, Tryz.ntmps100
      go_wp2_with fail
      clear hw2
      go_quiet (fail)
      rename_i nq
      clear hl
      have h3 : DiskAt (w2.drewN nq) b m es clock D := h1.kept ((Kept.refl (fun _ => False) _).drewN nq) (fun _ _ hf => hf)
      go_wp2_with fail
      refine (raw_remove h3 hraw (by omega) w.heap.size (w.heap.size + 1) s hBd hBn (hnF _ (Nat.le_refl _)) (hnF _ (Nat.le_succ _))).mono ?_
      clear hraw
      rintro e w5 ⟨rfl, es2, clk2, h8⟩
      go_wp2
      go_ret
      exact ⟨rfl, es2, clk2, DiskAfter.of_kept (hk.drewN nq) h8⟩
end Go.Proofs.YtemilbemdlpkaaaGreatDoor
