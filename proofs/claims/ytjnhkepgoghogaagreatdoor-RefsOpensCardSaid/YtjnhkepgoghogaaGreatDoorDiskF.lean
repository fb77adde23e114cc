/- disk: Remove, Truncate, Rename. -/
import Derived.Test.YtjnhkepgoghogaaGreatDoorDiskE
namespace Go.Proofs.YtjnhkepgoghogaaGreatDoor
open Go.RowKit Go.ChangeMaps Go.MapKept

section
variable {P : Program} {ops : Array Oper} {o : Oper} {a : Act} {w : World} {K : Act → World → Prop} {Q : Exit → Act → World → Prop} {E : Prop}
theorem wp_delete_run (s x : Operand) (ts : Array TypeId) (hop : o.op = Op.call { callee := Callee.builtin Builtin.delete, args := #[s, x], argTypes := ts })
    (v u v' : Value) (w' : World) (hs : a.eval s = v) (hx : a.eval x = u) (hrun : (Builtin.delete_ ts o.type #[v, u]).run P w = .ok v' w') (hK : K (a.put o.dst v') w') : Oper.wp P o a w K Q := by
  unfold Oper.wp execOp
  simp only [hop, resolve, invoke, builtin, Sem.run_bind, Sem.run_pure, Result.andThen_ok, List.map_toArray, List.map_cons, List.map_nil, hs, hx, hrun]
  exact hK
theorem step_delete_run (hg : o.guard = none) (s x : Operand) (ts : Array TypeId) (hop : o.op = Op.call { callee := Callee.builtin Builtin.delete, args := #[s, x], argTypes := ts })
    (v u v' : Value) (w' : World) (hs : a.eval s = v) (hx : a.eval x = u) (hrun : (Builtin.delete_ ts o.type #[v, u]).run P w = .ok v' w') (hK : K (a.put o.dst v') w') :
    if Region.wanted o (yielded ops a.tmps) = true then Oper.wp P o a w K Q else E := by
  have hw : Region.wanted o (yielded ops a.tmps) = true := by simp [Region.wanted, hg]
  rw [if_pos hw]
  exact wp_delete_run s x ts hop v u v' w' hs hx hrun hK
end

section
variable {w : World} {b m : Nat} {es : Array MapEntry} {clock : Nat} {D : DM}

/-- A file is taken away, in the machine's map. -/
theorem DiskAt.del (h : DiskAt w b m es clock D) (s : ByteArray) :
    ∃ es', (Builtin.delete_ #[57, 9] 0 #[.map (some m), .string s]).run Tryz.prog w = .ok (.tuple #[]) (setBlock w m (.map es' clock)) ∧
      DiskAt (setBlock w m (.map es' clock)) b m es' clock (D.del s) ∧ (∀ e ∈ es'.toList, e ∈ es.toList ∧ e.key ≠ .string s) ∧ Kept (· = m) w (setBlock w m (.map es' clock)) := by
  obtain ⟨es', hrun, hrel, hst, hmem⟩ := run_delete_rel (m := m) (ty := 0) (keyEnc_string Tryz.underlying9) Tryz.underlying57 h.rel h.stamped s
  have hlt := h.lt m (.inr (.inl rfl))
  refine ⟨es', hrun w h.map, ⟨?_, ?_, hst, ?_, ?_, DM.del_ok h.ok s⟩, hmem, (Kept.refl (· = m) w).setBlock (fun _ => rfl) _⟩
  · rw [heap_setBlock_ne h.bm]; exact h.cell
  · simp [ChangeMaps.setBlock, hlt]
  · exact hrel.mono fun e he bs hO => OwnB.kept hO fun g hg => heap_setBlock_ne (h.own (hmem e he).1 hg).2.1 _
  · intro e he e' he' hne g hg hg'
    exact h.apart e (hmem e he).1 e' (hmem e' he').1 hne g hg hg'

/-- A slice that no other file owns is put as a file. -/
theorem DiskAt.put2 (h : DiskAt w b m es clock D) {s : ByteArray} {v' : Value} {x : List UInt8} (hv : OwnB w v' x) (hsep : ∀ g, v'.ownBlock = some g → g ≠ b ∧ g ≠ m ∧ ∀ e ∈ es.toList, e.key ≠ .string s → e.val.ownBlock ≠ some g) (ho : (D.put s x).Ok) :
    ∃ es' clock', (Instr.mapUpdate 57 (.map (some m)) (.string s) v').run Tryz.prog w = .ok () (setBlock w m (.map es' clock')) ∧
      DiskAt (setBlock w m (.map es' clock')) b m es' clock' (D.put s x) ∧ (∀ k, diskF b m es' k → diskF b m es k ∨ v'.ownBlock = some k) ∧ Kept (· = m) w (setBlock w m (.map es' clock')) := by
  obtain ⟨es', clock', hrun, hrel, hst, hmem⟩ := run_mapUpdate_rel (m := m) (R' := OwnB w) (keyEnc_string Tryz.underlying9) Tryz.underlying57 h.rel h.stamped s v' x hv (fun _ _ _ _ h => h)
  have hlt := h.lt m (.inr (.inl rfl))
  have hne' : ∀ e ∈ es'.toList, ∀ g, e.val.ownBlock = some g → g ≠ m := by
    intro e he g hgo
    rcases hmem e he with ⟨hv', _⟩ | ⟨he', _⟩
    · rw [hv'] at hgo; exact (hsep g hgo).2.1
    · exact (h.own he' hgo).2.1
  refine ⟨es', clock', hrun w h.map, ⟨?_, ?_, hst, ?_, ?_, ho⟩, ?_, (Kept.refl (· = m) w).setBlock (fun _ => rfl) _⟩
  · rw [heap_setBlock_ne h.bm]; exact h.cell
  · simp [ChangeMaps.setBlock, hlt]
  · exact hrel.mono fun e he bs hO => OwnB.kept hO fun g hg => heap_setBlock_ne (hne' e he g hg) _
  · intro e he e' he' hne g hgo hgo'
    rcases hmem e he with ⟨hv1, hk1⟩ | ⟨he1, hn1⟩ <;> rcases hmem e' he' with ⟨hv2, hk2⟩ | ⟨he2, hn2⟩
    · exact hne (hk1.trans hk2.symm)
    · rw [hv1] at hgo; exact (hsep g hgo).2.2 e' he2 hn2 hgo'
    · rw [hv2] at hgo'; exact (hsep g hgo').2.2 e he1 hn1 hgo
    · exact h.apart e he1 e' he2 hne g hgo hgo'
  · rintro k (rfl | rfl | ⟨e, he, hgo⟩)
    · exact .inl (.inl rfl)
    · exact .inl (.inr (.inl rfl))
    · rcases hmem e he with ⟨hv', _⟩ | ⟨he', _⟩
      · rw [hv'] at hgo; exact .inr hgo
      · exact .inl (.inr (.inr ⟨e, he', hgo⟩))
end

/-! ### Remove -/

theorem call_truncate1 (caps : Array Value) (w : World) : (callFunc 75 caps).run Tryz.prog w = .ok (.enter 75 caps) w := by kernel_rfl
def DM.remove (D : DM) (s : ByteArray) : Int × DM :=
  if getA s D.files = none then (4, D)
  else match D.raw with
    | none => (6, D)
    | some D' => (0, D'.del s)

theorem drew_kept (w : World) : Kept (fun _ => False) w w.drew := (Kept.refl _ _).drew

end Go.Proofs.YtjnhkepgoghogaaGreatDoor
