/- espalierlaw02.DiskDoes: two disks beside two of the document's; what one operation does to them. -/
import Derived.Test.YtjnhkepgoghogaaDoorRfdU
import Derived.Test.YtjnhkepgoghogaaDoorLaw02A
namespace Go.Proofs.YtjnhkepgoghogaaDoor
open Go.RowKit Go.ChangeMaps Go.MapKept
set_option linter.unusedSimpArgs false

structure OpOk (w : World) (o : OpV) : Prop where
  src : IsB w o.bv o.bytes
  len : o.bytes.length ≤ 140737488351232
  sn : o.name.size ≤ maxLen
  st : o.to.size ≤ maxLen
  k1 : -9223372036854775808 ≤ o.kind
  k2 : o.kind ≤ 9223372036854775807
  n1 : -9223372036854775808 ≤ o.n
  n2 : o.n ≤ 9223372036854775807
theorem does_any {w : World} {b rb : Nat} {F : Nat → Prop} {D : DM} {m : Nat} {es : Array MapEntry} {clock : Nat} {fv : Value} {S : List FileM} {R : DM} (h : DocAt w b rb F D m es clock fv S R) (o : OpV) (ho : OpOk w o) (hsep : o.bytes ≠ [] → ∀ g, o.bv.ownBlock = some g → ¬ F g) (hT : ∀ W, Kept F w W → Tab10 W) (hw : D.writes < 1000000000000000) :
    Calls Tryd.prog 14 #[.agg #[.pointer (some ⟨b, 0, none⟩), .pointer (some ⟨rb, 0, none⟩)], o.valD] w fun e w' => e = .returned (.bool true) ∧ NextD w b rb F D w' := by
  have hwr : IntKind.u64.wrap o.kind = o.kind % 18446744073709551616 := by have := ho.k1; have := ho.k2; go_num
  have hj : ∃ j : Nat, j < 9 ∧ (IntKind.u64.wrap o.kind).tmod 9 = (j : Int) := by
    refine ⟨((o.kind % 18446744073709551616) % 9).toNat, by omega, ?_⟩
    rw [hwr, Int.tmod_eq_emod_of_nonneg (by omega)]
    omega
  obtain ⟨j, hj9, hjw⟩ := hj
  have hcase : j = 0 ∨ j = 1 ∨ j = 2 ∨ j = 3 ∨ j = 4 ∨ j = 5 ∨ j = 6 ∨ j = 7 ∨ j = 8 := by omega
  rcases hcase with rfl | rfl | rfl | rfl | rfl | rfl | rfl | rfl | rfl
  · exact does0 h o hjw ho.sn ho.src ho.len hsep hw
  · exact does1 h o hjw ho.n1 ho.n2 hw
  · exact does2 h o hjw ho.st hw
  · exact does3 h o hjw hw
  · exact does4 h o hjw ho.n1 ho.n2
  · exact does5 h o hjw
  · exact does7 h o _ (.inl rfl) hjw
  · exact does7 h o _ (.inr rfl) hjw
  · exact does8 h o hjw hT hw

def DocAny (w : World) (b rb : Nat) (F : Nat → Prop) (D : DM) : Prop := ∃ m es clock fv S R, DocAt w b rb F D m es clock fv S R
theorem DocAny.kept {w w' : World} {b rb : Nat} {F : Nat → Prop} {D : DM} (h : DocAny w b rb F D) {G : Nat → Prop} (hk : Kept G w w') (hG : ∀ k, F k → ¬ G k) : DocAny w' b rb F D := by
  obtain ⟨m, es, c, fv, S, R, h⟩ := h
  exact ⟨m, es, c, fv, S, R, h.kept hk hG⟩
theorem DocAny.lt {w : World} {b rb : Nat} {F : Nat → Prop} {D : DM} (h : DocAny w b rb F D) : ∀ k, F k → k < w.heap.size := by
  obtain ⟨m, es, c, fv, S, R, h⟩ := h
  exact h.lt
/-- Two disks, each beside the document's; X: blocks that are apart from them. -/
structure TwoAt (w : World) (n0 : Nat) (X : Nat → Prop) (N : Int) (b0 r0 : Nat) (F0 : Nat → Prop) (D0 : DM) (b1 r1 : Nat) (F1 : Nat → Prop) (D1 : DM) : Prop where
  d0 : DocAny w b0 r0 F0 D0
  d1 : DocAny w b1 r1 F1 D1
  sep : ∀ k, F0 k → ¬ F1 k
  new : ∀ k, F0 k ∨ F1 k → n0 ≤ k ∧ ¬ X k
  w0 : D0.writes ≤ N
  w1 : D1.writes ≤ N
section
variable {w w' : World} {n0 : Nat} {X : Nat → Prop} {N N' : Int} {b0 r0 : Nat} {F0 : Nat → Prop} {D0 : DM} {b1 r1 : Nat} {F1 : Nat → Prop} {D1 : DM}
theorem TwoAt.swap (h : TwoAt w n0 X N b0 r0 F0 D0 b1 r1 F1 D1) : TwoAt w n0 X N b1 r1 F1 D1 b0 r0 F0 D0 := ⟨h.d1, h.d0, fun k e f => h.sep k f e, fun k e => h.new k e.symm, h.w1, h.w0⟩
theorem TwoAt.keptX (h : TwoAt w n0 X N b0 r0 F0 D0 b1 r1 F1 D1) {G : Nat → Prop} (hk : Kept G w w') (hG : ∀ k, G k → X k ∨ k < n0) : TwoAt w' n0 X N b0 r0 F0 D0 b1 r1 F1 D1 :=
  ⟨h.d0.kept hk (fun k e g => by have := h.new k (.inl e); rcases hG k g with h1 | h1; exact this.2 h1; omega), h.d1.kept hk (fun k e g => by have := h.new k (.inr e); rcases hG k g with h1 | h1; exact this.2 h1; omega), h.sep, h.new, h.w0, h.w1⟩
theorem TwoAt.mono (h : TwoAt w n0 X N b0 r0 F0 D0 b1 r1 F1 D1) (hN : N ≤ N') : TwoAt w n0 X N' b0 r0 F0 D0 b1 r1 F1 D1 := ⟨h.d0, h.d1, h.sep, h.new, by have := h.w0; omega, by have := h.w1; omega⟩
/-- Something was done to the first disk. -/
theorem TwoAt.next (h : TwoAt w n0 X N b0 r0 F0 D0 b1 r1 F1 D1) (hX : ∀ k, X k → k < w.heap.size) (hn0 : n0 ≤ w.heap.size) (hN : N + 5000000 ≤ N') (hn : NextD w b0 r0 F0 D0 w') : (∃ F0' D0', TwoAt w' n0 X N' b0 r0 F0' D0' b1 r1 F1 D1) ∧ Kept F0 w w' := by
  obtain ⟨F', D', m', es', c', fv', S', R', h1, h2, h3, h4⟩ := hn
  refine ⟨⟨F', D', ⟨⟨_, _, _, _, _, _, h1⟩, h.d1.kept h2 (fun k e f => h.sep k f e), fun k e f => ?_, fun k e => ?_, by have := h.w0; omega, by have := h.w1; omega⟩⟩, h2⟩
  · rcases h3 k e with e | e
    · exact h.sep k e f
    · have := h.d1.lt k f; omega
  · rcases e with e | e
    · rcases h3 k e with e | e
      · exact h.new k (.inl e)
      · exact ⟨by omega, fun x => by have := hX k x; omega⟩
    · exact h.new k (.inr e)
/-- The second disk is laid anew. -/
theorem TwoAt.fresh (h : TwoAt w n0 X N b0 r0 F0 D0 b1 r1 F1 D1) (hX : ∀ k, X k → k < w.heap.size) (hn0 : n0 ≤ w.heap.size) {b r : Nat} {F : Nat → Prop} {D : DM} (hd : DocAny w' b r F D) (hk : Kept (fun _ => False) w w') (hF : ∀ k, F k → w.heap.size ≤ k) (hD : D.writes ≤ N) : TwoAt w' n0 X N b0 r0 F0 D0 b r F D := by
  refine ⟨h.d0.kept hk (fun _ _ f => f), hd, fun k e f => ?_, fun k e => ?_, h.w0, hD⟩
  · have h1 := h.d0.lt k e; have h2 := hF k f; omega
  · rcases e with e | e
    · exact h.new k (.inl e)
    · exact ⟨Nat.le_trans hn0 (hF k e), fun x => by have h1 := hX k x; have h2 := hF k e; omega⟩
end
end Go.Proofs.YtjnhkepgoghogaaDoor
