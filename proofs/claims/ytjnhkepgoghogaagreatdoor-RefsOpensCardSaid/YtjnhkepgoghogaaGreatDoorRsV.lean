/- espalierlaw08.RefsAgain: the walk. -/
import Derived.Test.YtjnhkepgoghogaaGreatDoorRsP
import Derived.Test.YtjnhkepgoghogaaGreatDoorDiskD
namespace Go.Proofs.YtjnhkepgoghogaaGreatDoor
open Go.RowKit Go.ChangeMaps Go.MapKept
set_option linter.unusedSimpArgs false

/-- Refs over a disk of theirs, apart from the blocks P. -/
structure HeldR (n0 : Nat) (P : Nat → Prop) (r im j b m : Nat) (cut : Bool) (N : Int) (z : Nat) (S : IdsL) (W : World) (ies : Array MapEntry) (iclk : Nat) (es : Array MapEntry) (clk : Nat) (av pv : Value) (l : IdsL) (D : DM) (J : JM) : Prop where
  refs : RefsAt W r im ies iclk j b m es clk av pv l D J S
  file : FileOk D J S
  cutting : D.cut = cut
  writes : D.writes ≤ N
  size : J.size ≤ z
  new : n0 ≤ r ∧ n0 ≤ im ∧ ∀ k, jourF j b m es av pv k → n0 ≤ k ∧ ¬ P k
def Held (n0 : Nat) (P : Nat → Prop) (r im j b m : Nat) (cut : Bool) (N : Int) (z : Nat) (S : IdsL) (W : World) : Prop := ∃ ies iclk es clk av pv l D J, HeldR n0 P r im j b m cut N z S W ies iclk es clk av pv l D J
theorem Held.keptN {n0 : Nat} {P : Nat → Prop} {r im j b m : Nat} {cut : Bool} {N : Int} {z : Nat} {S : IdsL} {W W' : World} (h : Held n0 P r im j b m cut N z S W) (hk : Kept (fun _ => False) W W') : Held n0 P r im j b m cut N z S W' := by
  obtain ⟨ies, iclk, es, clk, av, pv, l, D, J, h1, h2, h3, h4, h5, h6⟩ := h
  exact ⟨ies, iclk, es, clk, av, pv, l, D, J, h1.keptN hk, h2, h3, h4, h5, h6⟩
/-- What is done to the protected blocks, or to new ones, leaves the refs as they are. -/
theorem Held.keptP {n0 : Nat} {P : Nat → Prop} {r im j b m : Nat} {cut : Bool} {N : Int} {z : Nat} {S : IdsL} {W W' : World} (h : Held n0 P r im j b m cut N z S W) {G : Nat → Prop} (hk : Kept G W W') (hG : ∀ k, G k → P k) (hr : ¬ P r) (hi : ¬ P im) : Held n0 P r im j b m cut N z S W' := by
  obtain ⟨ies, iclk, es, clk, av, pv, l, D, J, h1, h2, h3, h4, h5, h6⟩ := h
  exact ⟨ies, iclk, es, clk, av, pv, l, D, J, h1.kept hk (fun k hk e => by
    rcases hk with rfl | rfl | hk
    · exact hr (hG _ e)
    · exact hi (hG _ e)
    · exact (h6.2.2 k hk).2 (hG _ e)), h2, h3, h4, h5, h6⟩
/-- Set. -/
theorem Held.set {n0 : Nat} {P : Nat → Prop} {r im j b m : Nat} {N : Int} {z : Nat} {S : IdsL} {w : World} (h : Held n0 P r im j b m false N z S w) (hP : ∀ k, P k → k < w.heap.size) (hn : n0 ≤ w.heap.size) (la : Option Addr) (lc n : Nat) (l : IdsL) (hl : IsR w (.slice la n lc) l)
    (hll : l.length ≤ 1000) (hid : ∀ p ∈ l, p.2 < 18446744073709551616) (hz : z + 250000 ≤ 4194304) (hw : N < 2305843009213693952) :
    Calls Tryz.prog 9 #[.pointer (some ⟨r, 0, none⟩), .slice la n lc] w fun e w' => e = .returned (.int .i64 (setErr S l)) ∧ Held n0 P r im j b m false (N + 250000) (z + 20 + 210 * l.length) (if setErr S l = 0 then layL S (scanOf S l).2.cs else S) w' ∧
      Kept (fun k => k = im ∨ (n0 ≤ k ∧ ¬ P k)) w w' := by
  obtain ⟨ies, iclk, es, clk, av, pv, l0, D, J, h1, h2, h3, h4, h5, h6⟩ := h
  refine (set_ok h1 h2 la lc n l hl hll hid (by omega) (by omega)).mono ?_
  rintro e w' ⟨rfl, hs, ies', iclk', es', clk', av', pv', l', hR, hj, hk⟩
  have hlv := hs.leave.resolve_right (fun h => by rw [h3] at h; cases h.1)
  obtain ⟨k1, k2, k3, k4, -⟩ := hlv
  refine ⟨by rw [k1], ⟨ies', iclk', es', clk', av', pv', l', _, _, by rw [← k2]; exact hR, by rw [← k2]; exact k3, by rw [hs.cut, h3], by have := hs.writes; omega, by omega, h6.1, h6.2.1, fun k hk' => ?_⟩, hk.mono (fun i _ e => ?_)⟩
  · rcases hj k hk' with h | h
    · exact h6.2.2 k h
    · exact ⟨by omega, fun hp => by have := hP k hp; omega⟩
  · rcases e with e | e
    · exact .inl e
    · exact .inr (h6.2.2 i e)

/-- More blocks are protected; fewer are. -/
theorem Held.addP {n0 : Nat} {P Q : Nat → Prop} {r im j b m : Nat} {cut : Bool} {N : Int} {z : Nat} {S : IdsL} {W : World} (h : Held n0 P r im j b m cut N z S W) (hQ : ∀ k, Q k → P k ∨ W.heap.size ≤ k) : Held n0 Q r im j b m cut N z S W := by
  obtain ⟨ies, iclk, es, clk, av, pv, l, D, J, h1, h2, h3, h4, h5, h6⟩ := h
  exact ⟨ies, iclk, es, clk, av, pv, l, D, J, h1, h2, h3, h4, h5, h6.1, h6.2.1, fun k hk => ⟨(h6.2.2 k hk).1, fun hq => (hQ k hq).elim (h6.2.2 k hk).2 (fun h => by have := h1.jour.lt k hk; omega)⟩⟩
theorem Held.more {n0 : Nat} {P : Nat → Prop} {r im j b m : Nat} {cut : Bool} {N N' : Int} {z z' : Nat} {S : IdsL} {W : World} (h : Held n0 P r im j b m cut N z S W) (hN : N ≤ N') (hz : z ≤ z') : Held n0 P r im j b m cut N' z' S W := by
  obtain ⟨ies, iclk, es, clk, av, pv, l, D, J, h1, h2, h3, h4, h5, h6⟩ := h
  exact ⟨ies, iclk, es, clk, av, pv, l, D, J, h1, h2, h3, by omega, by omega, h6⟩
theorem Held.refsI {n0 : Nat} {P : Nat → Prop} {r im j b m : Nat} {cut : Bool} {N : Int} {z : Nat} {S : IdsL} {W : World} (h : Held n0 P r im j b m cut N z S W) : (∃ ies iclk jp l, RefsI W r im ies iclk jp l S) ∧ (∀ p ∈ S, mayOf p.1 = 0 ∧ p.2 ≠ 0 ∧ p.2 < 18446744073709551616) ∧ S.length ≤ 64 := by
  obtain ⟨ies, iclk, es, clk, av, pv, l, D, J, h1, h2, -⟩ := h
  exact ⟨⟨_, _, _, _, h1.refs⟩, h2.names, h2.most⟩
theorem isR_one {W : World} {g : Nat} {s : ByteArray} {n : Nat} (h : W.heap[g]? = some (.cells #[.string s, .int .u64 n] 38 (0, 0))) : IsR W (.slice (some ⟨g, 0, none⟩) 1 1) [(s, n)] :=
  ⟨_, _, rfl, by simp, by simp [maxLen], .inr ⟨g, 0, rfl, (Array.getElem?_eq_some_iff.1 h).1, fun i x hx => by
    match i, hx with
    | 0, hx => cases hx; simp [World.cell?, h]
    | 1, hx => cases hx; simp [World.cell?, h]
    | i + 2, hx => simp [flatR, encR] at hx⟩⟩
theorem cutL_id {l : IdsL} (h : ∀ p ∈ l, p.2 < 18446744073709551616) : ∀ p ∈ cutL l, p.2 < 18446744073709551616 := by
  intro p hp
  unfold cutL at hp
  obtain ⟨q, hq, rfl⟩ := List.mem_map.1 hp
  exact h q (List.mem_of_mem_take hq)
theorem cutL_len (l : IdsL) : (cutL l).length ≤ 80 := by unfold cutL; rw [List.length_map, List.length_take]; omega
theorem scanOf_one {S : IdsL} {s : ByteArray} {id : Nat} (h : setErr S [(s, id)] = 0) : (scanOf S [(s, id)]).2.cs = if (getA s S).getD 0 = id then [] else [(s, id)] := by
  unfold setErr at h
  by_cases h1 : (scanOf S [(s, id)]).1 ≠ 0
  · rw [if_pos h1] at h; exact absurd h h1
  · unfold scanOf at h1 ⊢
    rw [scanGo_step] at h1 ⊢
    by_cases h2 : mayOf s ≠ 0
    · rw [if_pos h2] at h1; exact absurd h2 h1
    rw [if_neg h2] at h1 ⊢
    rw [if_neg (by simp [getA])] at h1 ⊢
    by_cases h3 : id = 0 ∧ getA s S = none
    · rw [if_pos h3] at h1; simp at h1
    rw [if_neg h3]
    simp [scanGo]
/-- What 'last' has is what the refs have. -/
def LastOk (ll S : IdsL) : Prop := ∀ s id, getA s ll = some id → (getA s S).getD 0 = id ∧ ((getA s S).isSome = true ↔ id ≠ 0)
theorem LastOk.step {ll S : IdsL} (h : LastOk ll S) (hS : NodupA S) (hz : ∀ p ∈ S, p.2 ≠ 0) {s : ByteArray} {id : Nat} (he : setErr S [(s, id)] = 0) : LastOk (putA s id ll) (layL S (scanOf S [(s, id)]).2.cs) := by
  intro t x ht
  rw [scanOf_one he]
  by_cases hw : (getA s S).getD 0 = id
  · rw [if_pos hw]
    show (getA t S).getD 0 = x ∧ _
    by_cases hts : t = s
    · subst hts
      rw [getA_putA_same] at ht
      cases ht
      refine ⟨hw, ?_⟩
      show (getA t S).isSome = true ↔ _
      cases hg : getA t S with
      | none => rw [hg] at hw; simp at hw; simp [hw]
      | some y => rw [hg] at hw; simp at hw; subst hw; simp [hz _ (getA_mem hg)]
    · rw [getA_putA_ne hts] at ht
      exact h t x ht
  · rw [if_neg hw]
    have hg : getA t (layL S [(s, id)]) = if t = s then (if id = 0 then none else some id) else getA t S := getA_layOne hS (s, id) t
    rw [hg]
    by_cases hts : t = s
    · subst hts
      rw [getA_putA_same] at ht
      cases ht
      rw [if_pos rfl]
      by_cases h0 : id = 0
      · simp [h0]
      · simp [h0]
    · rw [getA_putA_ne hts] at ht
      rw [if_neg hts]
      exact h t x ht
theorem setErr_self {S : IdsL} (hS : NodupA S) (hm : ∀ p ∈ S, mayOf p.1 = 0 ∧ p.2 ≠ 0) (hl : S.length ≤ 64) : setErr S (allOf S) = 0 ∧ (scanOf S (allOf S)).2.cs = [] := by
  have h := scan_self hS hm (allOf S) ⟨[], []⟩ (fun p hp => (allOf_self hS).mem_iff.1 hp) (allOf_nodup hS) (fun _ _ => by simp [getA])
  refine ⟨?_, h.2⟩
  unfold setErr scanOf
  rw [if_neg (by rw [h.1]; decide), h.2]
  show (if 64 < S.length then (3 : Int) else 0) = 0
  rw [if_neg (by omega)]

end Go.Proofs.YtjnhkepgoghogaaGreatDoor

/- espalierlaw08.RefsCut: the walk. -/
namespace Go.Proofs.YtjnhkepgoghogaaGreatDoor
open Go.RowKit Go.ChangeMaps Go.MapKept
set_option linter.unusedSimpArgs false

/-- A row of rows of refs. -/
def RowsR (w : World) (v : Value) (ls : List IdsL) : Prop :=
  ∃ a c, v = .slice a ls.length c ∧ ls.length ≤ c ∧ c ≤ maxLen ∧ ∀ i l, ls[i]? = some l → ∃ g o b d, a = some ⟨g, o, none⟩ ∧ w.cell? ⟨g, o + i, none⟩ = some (.slice b l.length d) ∧ IsR w (.slice b l.length d) l ∧ ∀ p ∈ l, p.2 < 18446744073709551616
theorem RowsR.keptN {w w' : World} {v : Value} {ls : List IdsL} (h : RowsR w v ls) (hk : Kept (fun _ => False) w w') : RowsR w' v ls := by
  obtain ⟨a, c, rfl, h1, h2, h3⟩ := h
  refine ⟨a, c, rfl, h1, h2, fun i l hi => ?_⟩
  obtain ⟨g, o, b, d, e, hc, hI, hid⟩ := h3 i l hi
  exact ⟨g, o, b, d, e, hk.cell hc (fun f => f), hI.keptN hk, hid⟩

theorem FileOk.turn {D D' : DM} {J : JM} {S : IdsL} (h : FileOk D J S) (hf : D'.files = D.files) (ho : D'.Ok) : FileOk D' J S :=
  ⟨ho, by rw [hf]; exact h.room, h.cut, h.file, h.recs, h.size, by rw [← h.bytes]; unfold DM.bytes; rw [hf], h.back, h.names, h.most⟩
theorem FileOk.alike {D D' : DM} {J : JM} {S : IdsL} (h : FileOk D J S) (hs : DM.Same D' D) (ho : D'.Ok) : FileOk D' J S :=
  ⟨ho, fun e => by rw [hs.len]; exact h.room (by rw [← hs.files]; exact e), h.cut, h.file, h.recs, h.size, by rw [← h.bytes]; unfold DM.bytes; rw [hs.files], h.back, h.names, h.most⟩
theorem RefsAt.turn {w w' : World} {r im : Nat} {ies : Array MapEntry} {iclk j b m : Nat} {es : Array MapEntry} {clock : Nat} {av pv : Value} {l : IdsL} {D D' : DM} {J : JM} {S : IdsL} (h : RefsAt w r im ies iclk j b m es clock av pv l D J S) (hd : DiskAt w' b m es clock D') (hk : Kept (· = b) w w') : RefsAt w' r im ies iclk j b m es clock av pv l D' J S := by
  obtain ⟨h1, h2, -⟩ := h.out
  have hbj : jourF j b m es av pv b := .inr (.inr (.inr (.inl rfl)))
  exact ⟨h.refs.kept hk (fun e => h1 (e ▸ hbj)) (fun e => h2 (e ▸ hbj)), h.jour.over hd (fun k hk => .inl hk) (hk.mono (fun i _ e => .inl e)), h.apart⟩
theorem setErr_perm {S T l : IdsL} (hT : NodupA T) (hp : T.Perm S) : setErr T l = setErr S l ∧ (scanOf T l) = (scanOf S l) := by
  have hg := get_of_perm hT hp
  have h1 : scanOf T l = scanOf S l := scanGo_perm hg l _
  refine ⟨?_, h1⟩
  unfold setErr
  rw [h1, (layL_perm2 hT (scanOf_ok S l).nodup hp).length_eq]
/-- What Set leaves, alike on both. -/
def afterS (S l : IdsL) : IdsL := if setErr S l = 0 then layL S (scanOf S l).2.cs else S
theorem afterS_perm {S T l : IdsL} (hT : NodupA T) (hp : T.Perm S) : (afterS T l).Perm (afterS S l) := by
  obtain ⟨h1, h2⟩ := setErr_perm (l := l) hT hp
  unfold afterS
  rw [h1, h2]
  split
  · exact layL_perm2 hT (scanOf_ok S l).nodup hp
  · exact hp
theorem afterS_nodup {S l : IdsL} (h : NodupA S) : NodupA (afterS S l) := by
  unfold afterS
  split
  · exact layL_nodup h _
  · exact h

end Go.Proofs.YtjnhkepgoghogaaGreatDoor
