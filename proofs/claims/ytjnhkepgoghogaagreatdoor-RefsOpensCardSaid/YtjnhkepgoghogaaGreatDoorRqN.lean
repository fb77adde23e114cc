/- espalierlaw08.RefsDoes: what its round wants. -/
import Derived.Test.YtjnhkepgoghogaaGreatDoorRqM
import Derived.Test.YtjnhkepgoghogaaGreatDoorRsV
import Derived.Test.YtjnhkepgoghogaaGreatDoorEqual
namespace Go.Proofs.YtjnhkepgoghogaaGreatDoor
open Go.RowKit Go.ChangeMaps Go.MapKept
set_option linter.unusedSimpArgs false

theorem refs_make (w : World) (n0 c : Nat) (h0 : n0 ≤ w.heap.size) (hc : c ≤ 1000000000) : ∃ w', (Instr.makeSlice 30 (.int .i64 0) (.int .i64 (c : Int))).run Tryz.prog w = .ok (.slice (some ⟨w.heap.size, 0, none⟩) 0 c) w' ∧ OwnR n0 w' (.slice (some ⟨w.heap.size, 0, none⟩) 0 c) [] ∧ Kept (fun _ => False) w w' := by
  obtain ⟨i0, hi, hz0, hz1, hz2⟩ := info_parts Tryz.info38
  obtain ⟨w', h1, h2, h3⟩ := run_make_own (P := Tryz.prog) w n0 30 38 i0 _ 2 Tryz.underlying30 hi hz0 hz1 .i64 .i64 c (by rw [hz2]; omega) (by unfold maxLen; omega) h0
  exact ⟨w', h1, h2, Kept.grown (Kept.refl _ _) h3 (fun k e _ => by cases e)⟩
theorem flatR_one (l : IdsL) : ∀ u ∈ flatR l, u.oneCell' = true := by
  intro u hu
  unfold flatR at hu
  obtain ⟨p, -, hp⟩ := List.mem_flatMap.1 hu
  simp [encR] at hp
  rcases hp with rfl | rfl <;> rfl
/-- A slice of refs is appended. -/
theorem OwnR.appAny {b : Nat} {w : World} {v : Value} {l m : IdsL} (h : OwnR b w v l) (hk0 : b ≤ w.heap.size) {a : Option Addr} {n c : Nat} (hy : IsR w (.slice a n c) m) (hl : l.length + m.length ≤ 1000000000000) :
    ∃ v' w', (Builtin.append_ #[30, 30] 30 #[v, .slice a n c]).run Tryz.prog w = .ok v' w' ∧ OwnR b w' v' (l ++ m) ∧ Kept (fun k => v.ownBlock = some k) w w' ∧ (v'.ownBlock = v.ownBlock ∨ v'.ownBlock = some w.heap.size) := by
  obtain ⟨i0, hi, hz0, hz1, hz2⟩ := info_parts Tryz.info38
  obtain ⟨a', c', he, h1, h2, h3⟩ := hy
  cases he
  by_cases hne : m = []
  · subst hne
    obtain ⟨va, vc, rfl, hv1, hv2⟩ := h.form
    exact ⟨_, w, run_append_none _ _ _ i0 Tryz.underlying30 hi va l.length vc hv1 a c w, by simpa using h, Kept.refl _ _, .inl rfl⟩
  · obtain ⟨g, o, rfl, hg, hcell⟩ := h3.resolve_left hne
    obtain ⟨v', w', hrun, ho2, hg2, -, hb2⟩ := run_append_own_at (P := Tryz.prog) w b 30 30 38 i0 _ 2 24 Tryz.underlying30 hi hz0 hz1 hz2 rfl (by decide) _ _ _ h ⟨g, o, Option.none⟩ m.length c (flatR m) (by rw [flatR_length]) (fun j u hu => by rw [addr_add]; exact hcell j u hu) (flatR_one m) (by unfold maxLen; omega) (by omega) hk0
    refine ⟨v', w', hrun, ?_, Kept.grown (F := fun k => v.ownBlock = some k) (Kept.refl _ _) hg2 (fun k hk _ => hk), hb2⟩
    unfold OwnR
    rw [flatR_append, List.length_append]
    exact ho2

/-- A row of texts of our own. -/
def OwnT (b : Nat) (w : World) (v : Value) (l : List ByteArray) : Prop := w.ownsRow b 9 1 v l.length (l.map .string)
theorem OwnT.form {b : Nat} {w : World} {v : Value} {l : List ByteArray} (h : OwnT b w v l) : ∃ a c, v = .slice a l.length c ∧ l.length ≤ c ∧ c ≤ maxLen := by
  rcases h.2 with ⟨rfl, h0⟩ | ⟨g, cap, cur, rfl, _, _, hn, hm, _⟩
  · exact ⟨none, 0, by rw [h0], by omega, by simp [maxLen]⟩
  · exact ⟨_, cap, rfl, hn, hm⟩
theorem OwnT.nil (b : Nat) (w : World) : OwnT b w (.slice none 0 0) [] := World.ownsRow_nil _ _ _ _
theorem OwnT.keptN {b : Nat} {w w' : World} {v : Value} {l : List ByteArray} (h : OwnT b w v l) (hk : Kept (fun _ => False) w w') : OwnT b w' v l := rowKeptF h hk (fun _ _ _ f => f)
theorem OwnT.isS {b : Nat} {w : World} {v : Value} {l : List ByteArray} (h : OwnT b w v l) : IsS w v l := by
  obtain ⟨h1, h2⟩ := h
  rcases h2 with ⟨rfl, h0⟩ | ⟨g, cap, cur, rfl, hb, hg, hn, hm, hs, ht⟩
  · exact ⟨none, 0, by rw [h0], by omega, by simp [maxLen], .inl (List.length_eq_zero_iff.1 h0)⟩
  · refine ⟨_, cap, rfl, hn, hm, .inr ⟨g, 0, rfl, (Array.getElem?_eq_some_iff.1 hg).1, fun i x hx => ?_⟩⟩
    have h3 : (l.map Value.string)[i]? = some (.string x) := by rw [List.getElem?_map, hx]; rfl
    have hil := (List.getElem?_eq_some_iff.1 hx).1
    rw [← ht, List.getElem?_take, if_pos (by omega), Array.getElem?_toList] at h3
    rw [Nat.zero_add]
    simp [World.cell?, hg, h3]
theorem OwnT.push {b : Nat} {w : World} {v : Value} {l : List ByteArray} (h : OwnT b w v l) (hk0 : b ≤ w.heap.size) (g : Nat) (s : ByteArray) (hb : w.cell? ⟨g, 0, none⟩ = some (.string s)) (hl : l.length + 1 ≤ 1000000000) :
    ∃ v' w', (Builtin.append_ #[47, 47] 47 #[v, .slice (some ⟨g, 0, none⟩) 1 1]).run Tryz.prog w = .ok v' w' ∧ OwnT b w' v' (l ++ [s]) ∧ Kept (fun k => v.ownBlock = some k) w w' := by
  have hinf : (Tryz.prog.info? 9).map (fun i => (i.zero, i.size, i.bytes)) = some (some (.string { data := #[] }), 1, 16) := by kernel_rfl
  obtain ⟨i0, hi, hz0, hz1, hz2⟩ := info_parts hinf
  obtain ⟨v', w', hrun, ho2, hg2, -, hb2⟩ := run_append_own_at (P := Tryz.prog) w b 47 47 9 i0 _ 1 16 Tryz.underlying47 hi hz0 hz1 hz2 rfl (by decide) _ _ _ h ⟨g, 0, none⟩ 1 1 [.string s] rfl (by
    intro j u hu
    match j, hu with
    | 0, hu => cases hu; exact hb
    | j + 1, hu => simp at hu) (by intro u hu; simp at hu; subst hu; rfl) (by unfold maxLen; omega) (by omega) hk0
  refine ⟨v', w', hrun, ?_, Kept.grown (F := fun k => v.ownBlock = some k) (Kept.refl _ _) hg2 (fun k hk _ => hk)⟩
  unfold OwnT
  rw [List.map_append, List.length_append]
  exact ho2

theorem set_err {D : DM} {J : JM} {S l : IdsL} (he : setErr S l ≠ 0) : setR D J S l = (setErr S l, D, J, S) := by
  unfold setErr at he
  unfold setR setOf setErr
  by_cases h1 : (scanOf S l).1 ≠ 0
  · rw [if_pos h1, if_pos h1]
  rw [if_neg h1] at he ⊢
  rw [if_neg h1]
  by_cases h2 : 64 < (layL S (scanOf S l).2.cs).length
  · rw [if_pos h2, if_pos h2]
  · rw [if_neg h2] at he; exact absurd rfl he

/-- The bytes of a journal. -/
def bytesJ (J : JM) : List UInt8 := (J.recs.map recB).flatten
/-- What the law holds at a round's head. -/
structure DoesR (w : World) (B r im j b m : Nat) (N : Int) (z : Nat) (S : IdsL) (wv v7 : Value) (W : World) (ies : Array MapEntry) (iclk : Nat) (es : Array MapEntry) (clk : Nat) (av pv : Value) (l : IdsL) (D : DM) (J : JM) : Prop where
  held : HeldR w.heap.size (fun k => k = B ∨ v7.ownBlock = some k ∨ (allOf S ≠ [] ∧ wv.ownBlock = some k)) r im j b m false N z S W ies iclk es clk av pv l D J
  bare : J.recs = [] ↔ getA refsB D.files = none
  box : W.heap[B]? = some (.cells #[wv] 32 (0, 0))
  new : w.heap.size ≤ B
  want : IsR W wv (allOf S)
  recs : NewB w W v7 (bytesJ J)
  sep : allOf S ≠ [] → ∀ g, wv.ownBlock = some g → v7.ownBlock ≠ some g
theorem DoesR.bytes {w : World} {B r im j b m : Nat} {N : Int} {z : Nat} {S : IdsL} {wv v7 : Value} {W : World} {ies : Array MapEntry} {iclk : Nat} {es : Array MapEntry} {clk : Nat} {av pv : Value} {l : IdsL} {D : DM} {J : JM} (h : DoesR w B r im j b m N z S wv v7 W ies iclk es clk av pv l D J) : D.bytes refsB = bytesJ J := h.held.file.bytes
theorem DoesR.keptN {w : World} {B r im j b m : Nat} {N : Int} {z : Nat} {S : IdsL} {wv v7 : Value} {W W' : World} {ies : Array MapEntry} {iclk : Nat} {es : Array MapEntry} {clk : Nat} {av pv : Value} {l : IdsL} {D : DM} {J : JM} (h : DoesR w B r im j b m N z S wv v7 W ies iclk es clk av pv l D J) (hk : Kept (fun _ => False) W W') : DoesR w B r im j b m N z S wv v7 W' ies iclk es clk av pv l D J :=
  ⟨⟨h.held.refs.keptN hk, h.held.file, h.held.cutting, h.held.writes, h.held.size, h.held.new⟩, h.bare, (hk.block _ (Array.getElem?_eq_some_iff.1 h.box).1 (fun f => f)).trans h.box, h.new, h.want.keptN hk, rowKeptF h.recs hk (fun _ _ _ f => f), h.sep⟩
theorem IsR.block {W : World} {v : Value} {l : IdsL} (h : IsR W v l) (hne : l ≠ []) {g : Nat} (e : v.ownBlock = some g) : ∃ o s, W.cell? ⟨g, o, none⟩ = some (.string s) ∧ g < W.heap.size := by
  obtain ⟨a, c, rfl, -, -, h3⟩ := h
  obtain ⟨g', o, rfl, hg, hc⟩ := h3.resolve_left hne
  cases e
  obtain ⟨p, l', rfl⟩ := List.exists_cons_of_ne_nil hne
  exact ⟨o, p.1, by simpa using hc 0 _ rfl, hg⟩
/-- What lies apart. -/
theorem DoesR.apart {w : World} {B r im j b m : Nat} {N : Int} {z : Nat} {S : IdsL} {wv v7 : Value} {W : World} {ies : Array MapEntry} {iclk : Nat} {es : Array MapEntry} {clk : Nat} {av pv : Value} {l : IdsL} {D : DM} {J : JM} (h : DoesR w B r im j b m N z S wv v7 W ies iclk es clk av pv l D J) :
    (B ≠ r ∧ B ≠ im ∧ ¬ jourF j b m es av pv B) ∧ (∀ g, v7.ownBlock = some g → g ≠ B ∧ g ≠ r ∧ g ≠ im ∧ ¬ jourF j b m es av pv g ∧ w.heap.size ≤ g ∧ g < W.heap.size) ∧ (allOf S ≠ [] → ∀ g, wv.ownBlock = some g → g ≠ B ∧ g ≠ im ∧ ¬ jourF j b m es av pv g ∧ g < W.heap.size ∧ v7.ownBlock ≠ some g) := by
  have hr := h.held.refs.refs.cell
  have hi := h.held.refs.refs.ids.map
  have hB := h.box
  have hn := h.held.new.2.2
  refine ⟨⟨fun e => ?_, fun e => ?_, fun hj => (hn B hj).2 (.inl rfl)⟩, fun g e => ⟨fun e2 => ?_, fun e2 => ?_, fun e2 => ?_, fun hj => (hn g hj).2 (.inr (.inl e)), World.ownsRow.lt h.recs g e⟩, fun hne g e => ⟨fun e2 => ?_, fun e2 => ?_, fun hj => (hn g hj).2 (.inr (.inr ⟨hne, e⟩)), ?_, fun e2 => ?_⟩⟩
  · subst e; rw [hr] at hB; cases hB
  · subst e; rw [hi] at hB; cases hB
  · subst e2
    rcases h.recs.2 with ⟨rfl, -⟩ | ⟨g', cap, cur, rfl, -, hg, -⟩
    · cases e
    · cases e; rw [hg] at hB; cases hB
  · subst e2
    rcases h.recs.2 with ⟨rfl, -⟩ | ⟨g', cap, cur, rfl, -, hg, -⟩
    · cases e
    · cases e; rw [hg] at hr; cases hr
  · subst e2
    rcases h.recs.2 with ⟨rfl, -⟩ | ⟨g', cap, cur, rfl, -, hg, -⟩
    · cases e
    · cases e; rw [hg] at hi; cases hi
  · subst e2
    obtain ⟨o, s, hc, -⟩ := h.want.block hne e
    have hwv : ∃ a n c, wv = .slice a n c := by obtain ⟨a, c, rfl, -⟩ := h.want; exact ⟨_, _, _, rfl⟩
    obtain ⟨a, n, c, rfl⟩ := hwv
    rcases o with _ | o
    · simp [World.cell?, hB] at hc
    · simp [World.cell?, hB] at hc
  · subst e2
    obtain ⟨o, s, hc, -⟩ := h.want.block hne e
    simp [World.cell?, hi] at hc
  · obtain ⟨o, s, -, hlt⟩ := h.want.block hne e
    exact hlt
  · exact h.sep hne g e e2
/-- The record that Set writes. -/
def wroteL (S l : IdsL) : IdsL := if setErr S l = 0 then (scanOf S l).2.cs else []
def wroteB (S l : IdsL) : List UInt8 := if wroteL S l = [] then [] else recB (recOf (wroteL S l))
/-- Behind Set. -/
structure MidR (w : World) (B r im j b m : Nat) (N : Int) (z : Nat) (S S' : IdsL) (bs : List UInt8) (wv v7 : Value) (W : World) (ies : Array MapEntry) (iclk : Nat) (es : Array MapEntry) (clk : Nat) (av pv : Value) (l : IdsL) (D : DM) (J : JM) : Prop where
  held : HeldR w.heap.size (fun k => k = B ∨ v7.ownBlock = some k ∨ (allOf S ≠ [] ∧ wv.ownBlock = some k)) r im j b m false N z S' W ies iclk es clk av pv l D J
  bare : J.recs = [] ↔ getA refsB D.files = none
  box : W.heap[B]? = some (.cells #[wv] 32 (0, 0))
  want : IsR W wv (allOf S)
  recs : NewB w W v7 bs
set_option maxRecDepth 100000 in
theorem DoesR.set {w : World} {B r im j b m : Nat} {N : Int} {z : Nat} {S : IdsL} {wv v7 : Value} {W : World} {ies : Array MapEntry} {iclk : Nat} {es : Array MapEntry} {clk : Nat} {av pv : Value} {l0 : IdsL} {D : DM} {J : JM} (h : DoesR w B r im j b m N z S wv v7 W ies iclk es clk av pv l0 D J)
    (la : Option Addr) (lc n : Nat) (l : IdsL) (hl : IsR W (.slice la n lc) l) (hll : l.length ≤ 1000) (hid : ∀ p ∈ l, p.2 < 18446744073709551616) (hz : z + 250000 ≤ 4194304) (hw : N < 2305843009213693952) :
    Calls Tryz.prog 9 #[.pointer (some ⟨r, 0, none⟩), .slice la n lc] W fun e W' => e = .returned (.int .i64 (setErr S l)) ∧ Kept (fun k => k = im ∨ jourF j b m es av pv k) W W' ∧
      ∃ ies' iclk' es' clk' av' pv' l' D' J', MidR w B r im j b m (N + 250000) (z + 20 + 210 * l.length) S (afterS S l) (bytesJ J) wv v7 W' ies' iclk' es' clk' av' pv' l' D' J' ∧ bytesJ J' = bytesJ J ++ wroteB S l := by
  obtain ⟨⟨a1, a2, a3⟩, a4, a5⟩ := h.apart
  obtain ⟨h1, h2, h3, h4, h5, h6⟩ := h.held
  refine (set_ok h1 h2 la lc n l hl hll hid (by omega) (by omega)).mono ?_
  rintro e w' ⟨rfl, hs, ies', iclk', es', clk', av', pv', l', hR, hj, hk⟩
  have hlv := hs.leave.resolve_right (fun h => by rw [h3] at h; cases h.1)
  obtain ⟨k1, k2, k3, k4, k5⟩ := hlv
  have hlt : ∀ k, (k = B ∨ v7.ownBlock = some k ∨ (allOf S ≠ [] ∧ wv.ownBlock = some k)) → k < W.heap.size := fun k hk => by
    rcases hk with rfl | e | ⟨hne, e⟩
    · exact (Array.getElem?_eq_some_iff.1 h.box).1
    · exact (a4 k e).2.2.2.2.2
    · exact (a5 hne k e).2.2.2.1
  have hb : bytesJ (setR D J S l).2.2.1 = bytesJ J ++ wroteB S l := by
    unfold wroteB wroteL
    by_cases he : setErr S l = 0
    · rw [if_pos he]
      by_cases hc : (scanOf S l).2.cs = []
      · rw [if_pos hc, (k5 hc).2, List.append_nil]
      · rw [if_neg hc]
        unfold bytesJ
        rw [set_recs he (by rw [k1, he]) hc]
        simp
    · rw [if_neg he, if_pos rfl, set_err he, List.append_nil]
  have hnn : (setR D J S l).2.2.1.recs = [] ↔ getA refsB (setR D J S l).2.1.files = none := by
    by_cases he : setErr S l = 0
    · by_cases hc : (scanOf S l).2.cs = []
      · rw [(k5 hc).1, (k5 hc).2]; exact h.bare
      · have hr := set_recs he (by rw [k1, he]) hc (D := D) (J := J)
        constructor
        · intro e; rw [hr] at e; exact absurd e (by simp)
        · intro e
          have h7 := k3.bytes
          unfold DM.bytes at h7
          rw [e, hr] at h7
          simp only [Option.getD_none, List.map_append, List.flatten_append, List.map_cons, List.map_nil, List.flatten_cons, List.flatten_nil, List.append_nil] at h7
          exact absurd (List.append_eq_nil_iff.1 h7.symm).2 (recB_ne _)
    · rw [set_err he]; exact h.bare
  refine ⟨by rw [k1], hk, ies', iclk', es', clk', av', pv', l', _, _, ⟨⟨by have := k2; unfold afterS; rw [← k2]; exact hR, by unfold afterS; rw [← k2]; exact k3, by rw [hs.cut, h3], by have := hs.writes; omega, by omega, h6.1, h6.2.1, fun k hk' => ?_⟩, hnn, ?_, ?_, ?_⟩, hb⟩
  · rcases hj k hk' with h7 | h7
    · exact h6.2.2 k h7
    · exact ⟨by have := h.new; have := (Array.getElem?_eq_some_iff.1 h.box).1; omega, fun hp => by have := hlt k hp; omega⟩
  · exact (hk.block _ (Array.getElem?_eq_some_iff.1 h.box).1 (fun e => e.elim a2 a3)).trans h.box
  · exact h.want.keptS hk (fun hne g e f => f.elim (a5 hne g e).2.1 (a5 hne g e).2.2.1)
  · exact rowKeptF h.recs hk (fun g _ e f => f.elim (a4 g e).2.2.1 (a4 g e).2.2.2.1)
theorem wrote_small {S l : IdsL} (hl : l.length ≤ 80) (hid : ∀ p ∈ l, p.2 < 18446744073709551616) : (∀ p ∈ wroteL S l, p.1.size ≤ 200 ∧ p.2 < 18446744073709551616) ∧ (wroteL S l).length ≤ 80 ∧ (recOf (wroteL S l)).length ≤ 20000 ∧ (recB (recOf (wroteL S l))).length ≤ 30000 := by
  have hsc := scanOf_ok S l
  have hlen : (scanOf S l).2.cs.length ≤ l.length := by have := scanGo_len (S := S) (l := l) (st := ⟨[], []⟩); unfold scanOf; simpa using this
  have hids : ∀ c ∈ (scanOf S l).2.cs, c.2 < 18446744073709551616 := scanGo_ids l ⟨[], []⟩ hid (by simp)
  have h1 : (∀ p ∈ wroteL S l, p.1.size ≤ 200 ∧ p.2 < 18446744073709551616) ∧ (wroteL S l).length ≤ 80 := by
    unfold wroteL
    split
    · exact ⟨fun p hp => ⟨path_size (hsc.may p hp), hids p hp⟩, by omega⟩
    · exact ⟨fun p hp => by simp at hp, by simp⟩
  have hpay := payB_len (wroteL S l) (fun c hc => (h1.1 c hc).1)
  have hul := uintB_len (wroteL S l).length 2 (by omega) (by omega)
  have hrl : (recOf (wroteL S l)).length ≤ 20000 := by unfold recOf; rw [List.length_append]; omega
  have hrb := recB_length (recOf (wroteL S l)) (by omega)
  exact ⟨h1.1, h1.2, hrl, by omega⟩
/-- Bytes are appended; where they lie then. -/
theorem NewB.appB {w0 w : World} {v : Value} {bs ys : List UInt8} (h : NewB w0 w v bs) (hk0 : w0.heap.size ≤ w.heap.size) {a : Option Addr} {n c : Nat} (hy : IsB w (.slice a n c) ys) (hne : ys ≠ []) (hl : bs.length + ys.length ≤ 140737488355328) :
    ∃ v' w', (Builtin.append_ #[33, 33] 33 #[v, .slice a n c]).run Tryz.prog w = .ok v' w' ∧ NewB w0 w' v' (bs ++ ys) ∧ Kept (fun k => v.ownBlock = some k) w w' ∧ (v'.ownBlock = v.ownBlock ∨ v'.ownBlock = some w.heap.size) := by
  obtain ⟨i0, hi, hz0, hz1, hz2⟩ := info_parts Tryz.info5
  obtain ⟨a', c', he, h1, h2, h3⟩ := hy
  cases he
  obtain ⟨g, o, rfl, hg, hcell⟩ := h3.resolve_left hne
  obtain ⟨v', w', hrun, ho2, hg2, -, hb2⟩ := run_append_own_at (P := Tryz.prog) w w0.heap.size 33 33 5 i0 _ 1 1 Tryz.underlying33 hi hz0 hz1 hz2 rfl (by decide) _ _ _ h ⟨g, o, Option.none⟩ ys.length c (bytesV ys) (by simp) (fun j u hu => by rw [addr_add]; exact hcell j u hu) (bytesV_one ys) (by unfold maxLen; omega) (by omega) hk0
  refine ⟨v', w', hrun, ?_, Kept.grown (F := fun k => v.ownBlock = some k) (Kept.refl _ _) hg2 (fun k hk _ => hk), hb2⟩
  unfold NewB
  rw [bytesV_append, List.length_append]
  exact ho2
end Go.Proofs.YtjnhkepgoghogaaGreatDoor

/- espalierlaw08.RefsDoes: the walk. -/
namespace Go.Proofs.YtjnhkepgoghogaaGreatDoor
open Go.RowKit Go.ChangeMaps Go.MapKept
set_option linter.unusedSimpArgs false

theorem IsS.keptS {w w' : World} {v : Value} {l : List ByteArray} {F : Nat → Prop} (h : IsS w v l) (hk : Kept F w w') (hF : l ≠ [] → ∀ g, v.ownBlock = some g → ¬ F g) : IsS w' v l := by
  obtain ⟨a, c, rfl, h1, h2, h3⟩ := h
  refine ⟨a, c, rfl, h1, h2, ?_⟩
  rcases h3 with h3 | ⟨g, o, rfl, hg, hc⟩
  · exact .inl h3
  · by_cases hne : l = []
    · exact .inl hne
    · exact .inr ⟨g, o, rfl, Nat.lt_of_lt_of_le hg hk.size, fun i x hx => hk.cell (hc i x hx) (hF hne g rfl)⟩
theorem allOf_nil : allOf [] = [] := List.length_eq_zero_iff.1 (by rw [allOf_length]; rfl)
theorem rset_eq {S l : IdsL} (h : NodupA S) (hz : ∀ p ∈ S, p.2 ≠ 0) : rsetL (allOf S) l = (setErr S l, allOf (afterS S l), wroteL S l) := by
  rw [rsetL_allOf h hz]
  unfold afterS wroteL
  by_cases he : setErr S l = 0
  · rw [if_pos he, if_pos he, if_pos he, he]
  · rw [if_neg he, if_neg he, if_neg he]
/-- The invariant of the law's loop. -/
def Does (w : World) (B r b m : Nat) (N : Int) (z : Nat) (S : IdsL) (v7 : Value) (W : World) : Prop := ∃ im j wv ies iclk es clk av pv l D J, DoesR w B r im j b m N z S wv v7 W ies iclk es clk av pv l D J
set_option maxRecDepth 100000 in
set_option maxHeartbeats 2000000 in
theorem does_law (w : World) (a : Option Addr) (c : Nat) (ls : List IdsL) (h : RowsR w (.slice a ls.length c) ls) : Calls Tryz.prog 3 #[.slice a ls.length c] w fun e w' => e = .returned (.bool true) ∧ Kept (fun _ => False) w w' := by
  have HL := Lib.hid h
  have hnM : ls.length ≤ maxLen := by obtain ⟨_, _, e, h1, h2, -⟩ := h; exact Nat.le_trans h1 h2
  unfold maxLen at hnM
  obtain ⟨n, hn⟩ : ∃ n, ls.length = n := ⟨_, rfl⟩
  rw [hn] at HL hnM ⊢
  have HN := Lib.hid hn
  clear h hn
  go_enter Tryz.func3, Tryz.ntmps3
  go_wp2_with fail
  refine (wakes08_any w).mono ?_
  rintro e w1 ⟨rfl, hk1⟩
  have HK1 := Lib.hid hk1
  clear hk1
  go_wp2_with fail
  refine (new_any w1).mono ?_
  rintro e w2 ⟨b, m, rfl, hb, hm, hd, hk2⟩
  have HOP := Lib.hid (open_ok hd FileOk.fresh (by simp))
  have HK2 := Lib.hid (HK1.out.more hk2 (fun _ f => f.elim))
  have HBM : Hid (w.heap.size ≤ b ∧ w.heap.size ≤ m) := Lib.hid (by have := HK1.out.size; omega)
  clear hd hk2 hb hm
  go_wp2_with fail
  refine HOP.out.mono ?_
  rintro e w3 ⟨es3, clk3, r, im, ies3, iclk3, j, av3, pv3, l3, T, rfl, hR, hp, hF, hA, hr, him, hjf⟩
  obtain rfl := hp.eq_nil
  have hdf : ∀ k, diskF b m #[] k → w.heap.size ≤ k := fun k hk => by
    rcases hk with rfl | rfl | ⟨e, he, -⟩
    · exact HBM.out.1
    · exact HBM.out.2
    · simp at he
  have HK3 : Hid (Kept (fun _ => False) w w3) := Lib.hid (HK2.out.more hA.kept hdf)
  have hs2 := HK2.out.size
  obtain ⟨w4, hw4⟩ : ∃ W, w3.alloc (.cells #[.slice none 0 0] 32) = W := ⟨_, rfl⟩
  have hk4 : Kept (fun _ => False) w3 w4 := by rw [← hw4]; exact (Kept.refl _ _).alloc _
  have hb4 : w4.heap[w3.heap.size]? = some (.cells #[.slice none 0 0] 32 (0, 0)) := by rw [← hw4]; exact heap_alloc_new _ _
  have HD4 : Hid (Does w w3.heap.size r b m (0 : Nat) 0 [] (.slice none 0 0) w4) := Lib.hid ⟨im, j, .slice none 0 0, ies3, iclk3, es3, clk3, av3, pv3, l3, _, _, ⟨hR.keptN hk4, hF, rfl, by simp, by simp, by omega, by omega, fun k hk => ⟨(hjf k hk).elim (hdf k) (fun h => by omega), fun e => by
    rcases e with e | e | e
    · have := hR.jour.lt k hk; omega
    · cases e
    · cases e.2⟩⟩, by simp [getA], hb4, by have := HK3.out.size; omega, by rw [allOf_nil]; exact ⟨none, 0, rfl, Nat.le_refl _, by simp [maxLen], .inl rfl⟩, World.ownsRow_nil _ _ _ _, fun _ g e => by cases e⟩
  have HK4 : Hid (Kept (fun _ => False) w w4) := Lib.hid (HK3.out.more hk4 (fun _ f => f.elim))
  clear hR hp hF hA hr him hjf hdf hs2 HOP hk4 hb4
  go_wp2_with fail
  obtain ⟨B, hB⟩ : ∃ B, w3.heap.size = B := ⟨_, rfl⟩
  rw [hB] at HD4
  clear hw4
  rw [hB]
  go_loopg [4, 7, 37] n (fun g rv v7 i wr => ∃ k S r, k + g = n ∧ k ≤ 25 ∧ rv = .pointer (some ⟨r, 0, none⟩) ∧ i = .int .i64 k ∧ Hid (Does w B r b m (k * 260000 : Nat) (k * 17000) S v7 wr) ∧ Hid (Kept (fun _ => False) w wr))
  case atStart => exact ⟨0, [], r, by omega, by omega, rfl, rfl, HD4, HK4⟩
  case round =>
    obtain ⟨k, S, r, hkg, hk25, rfl, rfl, HH, HK⟩ := hrel
    clear HD4 HK4
    rcases Nat.eq_zero_or_pos gk with rfl | hpos
    · obtain rfl : k = n := by omega
      go_wp2_with fail
      refine (wakes08_any wr).mono ?_
      rintro e w6 ⟨rfl, hk6⟩
      go_wp2_with fail
      go_ret
      exact ⟨rfl, HK.out.more hk6 (fun _ f => f.elim)⟩
    · have hlt : (k : Int) < (n : Int) := by omega
      have hki : k < ls.length := by rw [HN.out]; omega
      obtain ⟨_, _, hae, -, -, hrow⟩ := HL.out.keptN HK.out
      cases hae
      obtain ⟨ga, oa, ba, bd, rfl, hcl, hIl, hidl⟩ := hrow k _ (List.getElem?_eq_getElem hki)
      clear hrow
      obtain ⟨l, hl⟩ : ∃ l, ls[k] = l := ⟨_, rfl⟩
      rw [hl] at hcl hIl hidl
      clear hl
      obtain ⟨nl, hnl⟩ : ∃ z, l.length = z := ⟨_, rfl⟩
      rw [hnl] at hcl
      by_cases h25 : k = 25
      · have h25b : ((k : Int) == 25) = true := by simp [h25]
        clear h25
        go_wp2_with fail
        refine (wakes08_any wr).mono ?_
        rintro e w6 ⟨rfl, hk6⟩
        go_wp2_with fail
        go_ret
        exact ⟨rfl, HK.out.more hk6 (fun _ f => f.elim)⟩
      · have h25b : ((k : Int) == 25) = false := by simp; omega
        have HC := Lib.hid (cutRefs_any wr ba bd l hIl)
        rw [hnl] at HC
        have HIDL := Lib.hid (cutL_id hidl)
        obtain ⟨im, j, wv, ies, iclk, es, clk, av, pv, l0, D, J, hH⟩ := HH.out
        have HD := Lib.hid hH
        have H25 := Lib.hid h25
        clear hH hIl hidl hnl h25 HH
        go_wp2_with fail
        refine HC.out.mono ?_
        rintro e w1 ⟨vl, rfl, hol, hk1⟩
        obtain ⟨al, cl, rfl, -, -⟩ := hol.form
        have hLlen := cutL_len l
        obtain ⟨L, hL⟩ : ∃ L, cutL l = L := ⟨_, rfl⟩
        rw [hL] at hol hLlen HIDL ⊢
        obtain ⟨q, hq⟩ : ∃ z, L.length = z := ⟨_, rfl⟩
        rw [hq] at hol hLlen ⊢
        have HQ := Lib.hid hq
        obtain ⟨wm, hmk, hom, hkm⟩ := refs_make w1 w1.heap.size (q + 4) (Nat.le_refl _) (by omega)
        have hmk' : (Instr.makeSlice 30 (.int .i64 0) (.int .i64 ((q : Int) + 4))).run Tryz.prog w1 = .ok (.slice (some ⟨w1.heap.size, 0, none⟩) 0 (q + 4)) wm := by simpa using hmk
        have hIl1 : IsR w1 (.slice al q cl) L := by rw [← hq]; have h9 := hol.isR; rwa [← hq] at h9
        obtain ⟨vf, wn, hap, hof, hkf, hbf⟩ := hom.appAny (by exact hkm.size) (hIl1.keptN hkm) (by simp; omega)
        rw [List.nil_append] at hof
        obtain ⟨fa0, fc0, rfl, -, -⟩ := hof.form
        obtain ⟨wA, hwA, hkA, hsA, hbA⟩ := ref_new wn ⟨#[126]⟩ 0
        have hA0 : wA.cell? ⟨wn.heap.size, 0, none⟩ = some (.string ⟨#[126]⟩) := by simp [World.cell?, hbA]
        have hA1 : wA.cell? ⟨wn.heap.size, 1, none⟩ = some (.int .u64 0) := by simp [World.cell?, hbA]
        obtain ⟨vg, wp, hrun, hog, hgg, hbg⟩ := (hof.keptN hkA).push (by have := hkm.size; have := hkf.size; have := hkA.size; omega) ⟨wn.heap.size, 0, none⟩ (⟨#[126]⟩, 0) hA0 hA1 (by simp; omega)
        rw [← hwA] at hrun
        rw [hq] at hap hrun
        obtain ⟨fa, fc, rfl, hfc, -⟩ := hog.form
        have hfl : (L ++ [((⟨#[126]⟩ : ByteArray), 0)]).length = q + 1 := by simp [hq]
        rw [hfl] at hog hrun hfc
        clear HC
        go_wp2_with (at_builtin; first | (refine wpList_append_run rfl (.tmp 49) (.tmp 50) #[30, 30] rfl _ _ _ _ rfl rfl hap ?_) | (refine wpList_append_run rfl (.tmp 51) (.tmp 53) #[30, 30] rfl _ _ _ _ rfl rfl hrun ?_))
        have hkfb : Kept (fun i => w1.heap.size ≤ i) w1 wp := ((((hkm.mono (fun _ _ f => f.elim)).trans hkf (fun i _ e => (World.ownsRow.lt hom i e).1)).trans hkA (fun _ _ f => f.elim)).trans (Kept.grown (F := fun i => w1.heap.size ≤ i) (Kept.refl _ _) hgg (fun i hi _ => (World.ownsRow.lt hof i hi).1)) (fun _ _ e => e))
        have HK1P : Hid (Kept (fun _ => False) w1 wp) := Lib.hid ((Kept.refl _ _).more hkfb (fun _ e => e))
        have HKP : Hid (Kept (fun _ => False) wr wp) := Lib.hid (hk1.more HK1P.out (fun _ f => f.elim))
        have HFU : Hid (IsR wp (.slice fa (q + 1) fc) (L ++ [(⟨#[126]⟩, 0)])) := Lib.hid hog.isR
        have HIL := Lib.hid (hIl1.keptN HK1P.out)
        have HFQ : Hid (IsR wp (.slice fa q fc) L) := Lib.hid (by
          have h9 := HFU.out
          rw [← hfl] at h9
          have h8 := h9.take q (by rw [hfl]; omega)
          rwa [List.take_append_of_le_length (by omega), List.take_of_length_le (by omega)] at h8)
        have HAB : Hid (∀ g, ((Value.slice al q cl).ownBlock = some g ∨ (Value.slice fa (q + 1) fc).ownBlock = some g) → wr.heap.size ≤ g ∧ g < wp.heap.size) := Lib.hid (fun g e => by
          have h8 := HK1P.out.size
          rcases e with e | e
          · have h9 := World.ownsRow.lt hol g e; omega
          · have h9 := World.ownsRow.lt hog g e; have := hk1.size; omega)
        have HDP := Lib.hid (HD.out.keptN HKP.out)
        have HOLD : Hid (im < wr.heap.size ∧ ∀ g, jourF j b m es av pv g → g < wr.heap.size) := Lib.hid ⟨HD.out.held.refs.refs.ids.lt, fun g hg => HD.out.held.refs.jour.lt g hg⟩
        have HSET := Lib.hid (HDP.out.set fa fc q L HFQ.out (by omega) HIDL.out (by omega) (by omega))
        have HQL := Lib.hid hLlen
        clear hol hL hmk hmk' hom hkm hap hof hkf hbf hrun hog hgg hbg hfl hfc hIl1 hk1 hq hA0 hA1 hbA hsA hwA hkA hkfb
        refine HSET.out.mono ?_
        rintro e w2 ⟨rfl, hk2, ies2, iclk2, es2, clk2, av2, pv2, l2, D2, J2, hM, hbJ⟩
        obtain ⟨wa, wc, rfl, -, -, -⟩ := id hM.want
        have HM := Lib.hid hM
        have HBJ := Lib.hid hbJ
        have HK2 := Lib.hid hk2
        have cB : w2.cell? ⟨B, 0, none⟩ = some (.slice wa (allOf S).length wc) := by simp [World.cell?, hM.box]
        have HIL2 : Hid (IsR w2 (.slice al q cl) L) := Lib.hid (HIL.out.keptS hk2 (fun _ g e f => by
          have h8 := HAB.out g (.inl e)
          have h9 := HOLD.out
          rcases f with f | f
          · omega
          · have := h9.2 g f; omega))
        have HRS := Lib.hid (rset_any w2 wa al wc cl (allOf S) L hM.want (by rw [HQ.out]; exact HIL2.out) (by rw [allOf_length]; have := HD.out.held.file.most; omega) (by have := HQL.out; have := HQ.out; omega))
        rw [HQ.out, rset_eq HD.out.held.file.nodup (fun p hp => (HD.out.held.file.names p hp).2.1)] at HRS
        clear hM hbJ hk2
        go_wp2_with fail
        refine HRS.out.mono ?_
        rintro e w3 ⟨vn, vw, rfl, hvn, hvw, hk3, hfr⟩
        obtain ⟨na, nc, hvne, -, -, -⟩ := id hvn
        obtain ⟨xa, xc, hvwe, -, -, -⟩ := id hvw
        subst hvne hvwe
        obtain ⟨wy, hwy⟩ : ∃ W, w3.alloc (.cells #[.slice none 0 0] 32) = W := ⟨_, rfl⟩
        have hky : Kept (fun _ => False) w3 wy := by rw [← hwy]; exact (Kept.refl _ _).alloc _
        have hby : wy.heap[w3.heap.size]? = some (.cells #[.slice none 0 0] 32 (0, 0)) := by rw [← hwy]; exact heap_alloc_new _ _
        have cy : wy.cell? ⟨w3.heap.size, 0, none⟩ = some (.slice none 0 0) := by simp [World.cell?, hby]
        have fy : wy.frozen? ⟨w3.heap.size, 0, none⟩ = false := by simp [World.frozen?, hby]
        obtain ⟨w4, hw4⟩ : ∃ W, wy.setCell ⟨w3.heap.size, 0, none⟩ (.slice na (allOf (afterS S L)).length nc) = W := ⟨_, rfl⟩
        have HB4 : Hid (w4.heap[w3.heap.size]? = some (.cells #[.slice na (allOf (afterS S L)).length nc] 32 (0, 0))) := Lib.hid (by rw [← hw4]; exact (heap_setCell_row hby _).trans rfl)
        have hk4 : Kept (fun _ => False) w3 w4 := hky.more (hw4 ▸ (Kept.refl (· = w3.heap.size) wy).setCell (p := ⟨w3.heap.size, 0, none⟩) (fun _ => rfl) _) (fun i e => by cases e; exact Nat.le_refl _)
        have HK4 := Lib.hid (hk3.trans hk4 (fun _ _ f => f))
        have HK34 := Lib.hid hk4
        clear hky hby hk4
        have HVN := Lib.hid hvn
        have HVW := Lib.hid hvw
        have HK3 := Lib.hid hk3
        have HFR := Lib.hid hfr
        clear hvn hvw hk3 hfr cB
        go_wp2_with fail
        clear cy fy hw4 hwy
        obtain ⟨E, hE⟩ : ∃ E, setErr S L = E := ⟨_, rfl⟩
        rw [hE]
        have HE := Lib.hid hE
        have hee : (E != E) = false := by simp
        clear hE
        obtain ⟨Y, hY⟩ : ∃ Y, w3.heap.size = Y := ⟨_, rfl⟩
        rw [hY] at HB4 ⊢
        have HYB : Hid (w2.heap.size ≤ Y) := Lib.hid (by have := HK3.out.size; omega)
        clear hY
        have HAL4 : Hid (IsR w4 (.slice al q cl) L) := Lib.hid (HIL2.out.keptN HK4.out)
        have HFU4 : Hid (IsR w4 (.slice fa (q + 1) fc) (L ++ [(⟨#[126]⟩, 0)])) := Lib.hid ((HFU.out.keptS HK2.out (fun _ g e f => by
          have h8 := HAB.out g (.inr e)
          have h9 := HOLD.out
          rcases f with f | f
          · omega
          · have := h9.2 g f; omega)).keptN HK4.out)
        obtain ⟨w0, rfl⟩ : ∃ W : World, W = wr := ⟨_, rfl⟩
        go_loopg [70] q (fun g iv wx => ∃ i, i + g = q ∧ iv = .int .i64 i ∧ Hid (Kept (fun _ => False) w4 wx))
        case atStart => exact ⟨0, by omega, rfl, Lib.hid (Kept.refl _ _)⟩
        case round =>
          obtain ⟨i, hig, rfl, HX⟩ := hrel
          rcases Nat.eq_zero_or_pos gk with rfl | hipos
          · obtain rfl : i = q := by omega
            have HM6 := Lib.hid HX.out
            obtain ⟨gf, of, rfl, hgf, hf0, -⟩ := (HFU4.out.keptN HX.out).at (k := i) (by simp [HQ.out])
            have hfs : (L ++ [((⟨#[126]⟩ : ByteArray), 0)])[i]'(by simp [HQ.out]) = (⟨#[126]⟩, 0) := by
              rw [List.getElem_append_right (by rw [HQ.out]; exact Nat.le_refl _)]
              simp [HQ.out]
            rw [hfs] at hf0
            simp only at hf0
            have hbB := ((HK4.out.trans HX.out (fun _ _ f => f)).block _ (Array.getElem?_eq_some_iff.1 HM.out.box).1 (fun f => f)).trans HM.out.box
            have hbY := (HX.out.block _ (Array.getElem?_eq_some_iff.1 HB4.out).1 (fun f => f)).trans HB4.out
            have cB : wr.cell? ⟨B, 0, none⟩ = some (.slice wa (allOf S).length wc) := by simp [World.cell?, hbB]
            have fB : wr.frozen? ⟨B, 0, none⟩ = false := by simp [World.frozen?, hbB]
            have cY : wr.cell? ⟨Y, 0, none⟩ = some (.slice na (allOf (afterS S L)).length nc) := by simp [World.cell?, hbY]
            have HBB := Lib.hid hbB
            clear hbB hbY hfs hgf
            go_upto_if 98 with fail
            obtain ⟨w5, hw5⟩ : ∃ W, wr.setCell ⟨B, 0, none⟩ (.slice na (allOf (afterS S L)).length nc) = W := ⟨_, rfl⟩
            have hk5 : Kept (· = B) wr w5 := by rw [← hw5]; exact (Kept.refl (· = B) wr).setCell (p := ⟨B, 0, none⟩) (fun _ => rfl) _
            have hb5 : w5.heap[B]? = some (.cells #[.slice na (allOf (afterS S L)).length nc] 32 (0, 0)) := by rw [← hw5]; exact (heap_setCell_row HBB.out _).trans rfl
            rw [hw5]
            have hk25 : Kept (· = B) w2 w5 := ((HK4.out.trans HX.out (fun _ _ f => f)).mono (fun _ _ f => f.elim)).trans hk5 (fun _ _ e => e)
            have hmr := HM.out.held.refs
            have hrB : ¬ r = B := fun e => by have h7 := hmr.refs.cell; rw [e, HM.out.box] at h7; cases h7
            have hiB : ¬ im = B := fun e => by have h7 := hmr.refs.ids.map; rw [e, HM.out.box] at h7; cases h7
            have hu7 : ∀ g, u7.ownBlock = some g → g ≠ B := fun g e => (HDP.out.apart.2.1 g e).1
            have hjB : ∀ g, jourF j b m es2 av2 pv2 g → g ≠ B := fun g hg e => (HM.out.held.new.2.2 g hg).2 (.inl e)
            have hold : (Value.slice na (allOf (afterS S L)).length nc) = .slice wa (allOf S).length wc → allOf (afterS S L) ≠ [] → allOf S ≠ [] := fun e hne e2 => by
              injection e with e3 e4 e5
              rw [e2] at e4
              exact hne (List.length_eq_zero_iff.1 (by simpa using e4))
            have HH5 : Hid (HeldR w.heap.size (fun k => k = B ∨ u7.ownBlock = some k ∨ (allOf (afterS S L) ≠ [] ∧ (Value.slice na (allOf (afterS S L)).length nc).ownBlock = some k)) r im j b m false ((k + 1) * 260000 : Nat) ((k + 1) * 17000) (afterS S L) w5 ies2 iclk2 es2 clk2 av2 pv2 l2 D2 J2) := Lib.hid (by
              obtain ⟨g1, g2, g3, g4, g5, g6⟩ := HM.out.held
              refine ⟨g1.kept hk25 (fun g hg e => ?_), g2, g3, by omega, by have := HQL.out; have := HQ.out; omega, g6.1, g6.2.1, fun g hg => ⟨(g6.2.2 g hg).1, fun e => ?_⟩⟩
              · rcases hg with rfl | rfl | hg
                · exact hrB e
                · exact hiB e
                · exact hjB g hg e
              · have h7 := (g6.2.2 g hg).2
                rcases e with e | e | ⟨hne, e⟩
                · exact h7 (.inl e)
                · exact h7 (.inr (.inl e))
                · rcases HFR.out with h8 | h8
                  · exact h7 (.inr (.inr ⟨hold h8 hne, h8 ▸ e⟩))
                  · have := h8 g e
                    have := g1.jour.lt g hg
                    omega)
            have HW5 : Hid (IsR w5 (.slice na (allOf (afterS S L)).length nc) (allOf (afterS S L))) := Lib.hid (((HVN.out.keptN HK34.out).keptN HX.out).keptS hk5 (fun hne g e (e2 : g = B) => by
              obtain ⟨o, s, hc, -⟩ := HVN.out.block hne e
              have hb3 := (HK3.out.block _ (Array.getElem?_eq_some_iff.1 HM.out.box).1 (fun f => f)).trans HM.out.box
              subst e2
              rcases o with _ | o
              · simp [World.cell?, hb3] at hc
              · simp [World.cell?, hb3] at hc))
            have HS5 : Hid (allOf (afterS S L) ≠ [] → ∀ g, (Value.slice na (allOf (afterS S L)).length nc).ownBlock = some g → u7.ownBlock ≠ some g) := Lib.hid (fun hne g e e2 => by
              rcases HFR.out with h8 | h8
              · exact HD.out.sep (hold h8 hne) g (h8 ▸ e) e2
              · have := h8 g e
                have := (HDP.out.apart.2.1 g e2).2.2.2.2.2
                have := HK2.out.size
                omega)
            have HN5 : Hid (NewB w w5 u7 (bytesJ J)) := Lib.hid (rowKeptF HM.out.recs hk25 (fun g _ e e2 => hu7 g e e2))
            have hkw5 : Kept (fun _ => False) w w5 := ((HK.out.more HKP.out (fun _ f => f.elim)).more HK2.out (fun g e => by
              have h9 := HDP.out.held.new
              rcases e with e | e
              · omega
              · exact (h9.2.2 g e).1)).more hk25 (fun g (e : g = B) => e ▸ HDP.out.new)
            have HKW5 := Lib.hid hkw5
            have HB5 := Lib.hid hb5
            have HAL5 : Hid (IsR w5 (.slice al i cl) L) := Lib.hid ((HAL4.out.keptN HX.out).keptS hk5 (fun _ g e (e2 : g = B) => by
              have h8 := HAB.out g (.inl e)
              have h9 := (Array.getElem?_eq_some_iff.1 HD.out.box).1
              omega))
            have HIN : Hid (∀ v W, Kept (fun g => u7.ownBlock = some g) w5 W → NewB w W v (bytesJ J2) → (∀ g, v.ownBlock = some g → u7.ownBlock = some g ∨ w5.heap.size ≤ g) → DoesR w B r im j b m ((k + 1) * 260000 : Nat) ((k + 1) * 17000) (afterS S L) (.slice na (allOf (afterS S L)).length nc) v W ies2 iclk2 es2 clk2 av2 pv2 l2 D2 J2) := Lib.hid (fun v W hk hn hv => by
              obtain ⟨g1, g2, g3, g4, g5, g6⟩ := HH5.out
              refine ⟨⟨g1.kept hk (fun g hg e => ?_), g2, g3, g4, g5, g6.1, g6.2.1, fun g hg => ⟨(g6.2.2 g hg).1, fun e => ?_⟩⟩, HM.out.bare, (hk.block _ (Array.getElem?_eq_some_iff.1 HB5.out).1 (fun e => hu7 _ e rfl)).trans HB5.out, HDP.out.new, HW5.out.keptS hk (fun hne g e e2 => HS5.out hne g e e2), hn, fun hne g e e2 => ?_⟩
              · rcases hg with rfl | rfl | hg
                · exact (HDP.out.apart.2.1 _ e).2.1 rfl
                · exact (HDP.out.apart.2.1 _ e).2.2.1 rfl
                · exact (g6.2.2 g hg).2 (.inr (.inl e))
              · have h7 := (g6.2.2 g hg).2
                rcases e with e | e | e
                · exact h7 (.inl e)
                · rcases hv g e with h8 | h8
                  · exact h7 (.inr (.inl h8))
                  · have := g1.jour.lt g hg; omega
                · exact h7 (.inr (.inr e))
              · rcases hv g e2 with h8 | h8
                · exact HS5.out hne g e h8
                · obtain ⟨_, _, _, hlt⟩ := HW5.out.block hne e
                  omega)
            have HVW5 : Hid (IsR w5 (.slice xa (wroteL S L).length xc) (wroteL S L)) := Lib.hid (((HVW.out.keptN HK34.out).keptN HX.out).keptS hk5 (fun hne g e (e2 : g = B) => by
              obtain ⟨o, s, hc, -⟩ := HVW.out.block hne e
              have hb3 := (HK3.out.block _ (Array.getElem?_eq_some_iff.1 HM.out.box).1 (fun f => f)).trans HM.out.box
              subst e2
              rcases o with _ | o
              · simp [World.cell?, hb3] at hc
              · simp [World.cell?, hb3] at hc))
            have HWS := Lib.hid (wrote_small (S := S) (l := L) (by have := HQL.out; have := HQ.out; omega) HIDL.out)
            have HJZ : Hid ((bytesJ J).length ≤ 500000) := Lib.hid (by have h7 := HD.out.held.file.size; have h8 := HD.out.held.size; unfold bytesJ; omega)
            have HBJ2 : Hid (bytesJ J2 = bytesJ J ++ if wroteL S L = [] then [] else recB (recOf (wroteL S L))) := HBJ
            obtain ⟨wl, hwl⟩ : ∃ x, wroteL S L = x := ⟨_, rfl⟩
            rw [hwl] at HVW5 HWS HBJ2 ⊢
            clear hw5 hk5 hb5 hk25 hmr hrB hiB hu7 hjB hold hkw5 cB fB cY hf0 hwl
            go_cut [7] from 98 to 103 (fun s7 wx => Hid (DoesR w B r im j b m ((k + 1) * 260000 : Nat) ((k + 1) * 17000) (afterS S L) (.slice na (allOf (afterS S L)).length nc) s7 wx ies2 iclk2 es2 clk2 av2 pv2 l2 D2 J2) ∧ Hid (Kept (fun _ => False) w wx) ∧ Hid (IsR wx (.slice al i cl) L))
            case first =>
              by_cases hw0 : wl = []
              · subst hw0
                have hb0 : bytesJ J2 = bytesJ J := by rw [HBJ2.out, if_pos rfl, List.append_nil]
                have hd0 : decide ((([] : IdsL).length : Int) > 0) = false := by decide
                have HDN := Lib.hid (HIN.out u7 w5 (Kept.refl _ _) (by rw [hb0]; exact HN5.out) (fun _ e => .inl e))
                clear hb0
                go_wp2_with fail
                go_meet
                case rel => exact ⟨HDN, HKW5, HAL5⟩
              · have hp0 : 0 < wl.length := List.length_pos_iff.2 hw0
                have hd0 : decide ((wl.length : Int) > 0) = true := by simp; omega
                have hd1 : decide (0 < (wl.length : Int)) = true := by simp; omega
                have hd2 : decide (0 < wl.length) = true := by simpa using hp0
                have hb0 : bytesJ J2 = bytesJ J ++ recB (recOf wl) := by rw [HBJ2.out, if_neg hw0]
                have HB0 := Lib.hid hb0
                have HPAY := Lib.hid (rpayload_any w5 xa xc wl HVW5.out HWS.out.1 (by have := HWS.out.2.1; omega))
                clear hb0 hw0
                go_wp2_with fail
                refine HPAY.out.mono ?_
                rintro e w6 ⟨v6, rfl, hf6⟩
                obtain ⟨a6, c6, h6e, -, -, -⟩ := id hf6.own.isB
                subst h6e
                have HREC := Lib.hid (rrecord_any w6 a6 c6 (recOf wl) hf6.own.isB (by have := HWS.out.2.2.1; omega))
                have HK6 := Lib.hid hf6.kept
                clear hf6
                go_wp2_with fail
                refine HREC.out.mono ?_
                rintro e w7 ⟨v8, rfl, hf7⟩
                obtain ⟨a8, c8, h8e, -, -, -⟩ := id hf7.own.isB
                subst h8e
                have hk57 : Kept (fun _ => False) w5 w7 := HK6.out.trans hf7.kept (fun _ _ f => f)
                have hn7 : NewB w w7 u7 (bytesJ J) := rowKeptF HN5.out hk57 (fun _ _ _ f => f)
                obtain ⟨v9, w9, hrun9, hn9, hk9, hb9⟩ := hn7.appB (by have := HKW5.out.size; have := hk57.size; omega) hf7.own.isB (recB_ne _) (by have := HJZ.out; have := HWS.out.2.2.2; omega)
                have hk59 : Kept (fun g => u7.ownBlock = some g) w5 w9 := (hk57.mono (fun _ _ f => f.elim)).trans hk9 (fun _ _ e => e)
                have HDN := Lib.hid (HIN.out v9 w9 hk59 (by rw [HB0.out]; exact hn9) (fun g e => by
                  rcases hb9 with h9 | h9
                  · exact .inl (h9 ▸ e)
                  · rw [h9] at e
                    cases e
                    exact .inr hk57.size))
                have HKW9 : Hid (Kept (fun _ => False) w w9) := Lib.hid (HKW5.out.more hk59 (fun g e => (World.ownsRow.lt HN5.out g e).1))
                have HAL9 : Hid (IsR w9 (.slice al i cl) L) := Lib.hid (HAL5.out.keptS hk59 (fun _ g e e2 => by
                  have h8 := HAB.out g (.inl e)
                  have h9 := (HD.out.apart.2.1 g e2).2.2.2.2.2
                  omega))
                obtain ⟨ua, uc, hue, -, -⟩ := HN5.out.form
                subst hue
                clear hf7 hk57 hn7 hn9 hk9 hb9 hk59
                go_wp2_with (at_builtin; refine wpList_append_run rfl (.tmp 99) (.tmp 102) #[33, 33] rfl _ _ _ _ rfl rfl hrun9 ?_)
                go_meet
                case rel => exact ⟨HDN, HKW9, HAL9⟩
            case rest =>
              obtain ⟨HDN, HKN, HALN⟩ := hcut
              obtain ⟨wx, hwx⟩ : ∃ wq, wq = wc := ⟨_, rfl⟩
              subst hwx
              clear HIN HS5 HN5 HB5 HW5 HH5 HKW5 HAL5 HVW5 HBJ2 HJZ HWS
              have HRD := Lib.hid (read_any HDN.out.held.refs.jour.disk refsB)
              unfold ReadEnd at HRD
              rw [HDN.out.bytes] at HRD
              unfold refsB at HRD
              go_wp2_with fail
              refine HRD.out.mono ?_
              rintro e w8 ⟨v8, rfl, hf8, hnone⟩
              have HBA : Hid (bytesJ J2 = [] ↔ getA refsB D2.files = none) := Lib.hid (by
                rw [← HM.out.bare]
                unfold bytesJ
                constructor
                · intro e
                  cases hj : J2.recs with
                  | nil => rfl
                  | cons x l => rw [hj, List.map_cons, List.flatten_cons] at e; exact absurd (List.append_eq_nil_iff.1 e).1 (recB_ne _)
                · intro e; rw [e]; rfl)
              obtain ⟨a8, c8, h8e, -, -, -⟩ := id hf8.own.isB
              subst h8e
              obtain ⟨ua, uc, hue, -, -⟩ := HDN.out.recs.form
              subst hue
              have HDN8 := Lib.hid (HDN.out.keptN hf8.kept)
              have HKN8 : Hid (Kept (fun _ => False) w w8) := Lib.hid (HKN.out.more hf8.kept (fun _ f => f.elim))
              have HAL8 := Lib.hid (HALN.out.keptN hf8.kept)
              have HEQ := Lib.hid (equal_any w8 _ _ (bytesJ J2) (bytesJ J2) hf8.own.isB HDN8.out.recs.isB)
              rw [decide_eq_true rfl] at HEQ
              have HFE : Hid ((if (getA refsB D2.files).isSome = true then (0 : Int) else 4) = if bytesJ J2 = [] then 4 else 0) := Lib.hid (by
                by_cases hb : bytesJ J2 = []
                · rw [if_pos hb, HBA.out.1 hb]; rfl
                · rw [if_neg hb]
                  cases hg : getA refsB D2.files with
                  | none => exact absurd (HBA.out.2 hg) hb
                  | some x => rfl)
              have hfe := HFE.out
              unfold refsB at hfe
              rw [hfe]
              clear hfe hf8 hnone HDN HKN HALN
              obtain ⟨nb, hnb⟩ : ∃ x, (bytesJ J2).length = x := ⟨_, rfl⟩
              have HNB : Hid (bytesJ J2 = [] ↔ nb = 0) := Lib.hid (by rw [← hnb]; exact List.length_eq_zero_iff.symm)
              obtain ⟨fe, hfe⟩ : ∃ x, (if bytesJ J2 = [] then (4 : Int) else 0) = x := ⟨_, rfl⟩
              have HF0 : Hid (nb = 0 ∧ fe = 4 ∨ nb ≠ 0 ∧ fe = 0) := Lib.hid (by
                rw [← hfe]
                by_cases hb : nb = 0
                · rw [if_pos (HNB.out.2 hb)]; exact .inl ⟨hb, rfl⟩
                · rw [if_neg (fun e => hb (HNB.out.1 e))]; exact .inr ⟨hb, rfl⟩)
              rw [hnb] at HEQ HDN8 ⊢
              rw [hfe]
              clear hfe
              go_upto_region 29 with fail
              go_cut [130] from 109 to 129 (fun s wz => s = .bool false ∧ wz = w8)
              case first =>
                rcases HF0.out with ⟨rfl, rfl⟩ | ⟨hn0, rfl⟩
                · go_wp2_with fail
                  refine HEQ.out.mono ?_
                  rintro e w9 ⟨rfl, rfl⟩
                  go_wp2_with fail
                  go_meet
                  case rel => exact ⟨rfl, rfl⟩
                · have hn1 : ((nb : Int) == 0) = false := by simp; omega
                  have hn2 : decide ((nb : Int) > 0) = true := by simp; omega
                  have hn3 : decide (0 < (nb : Int)) = true := by simp; omega
                  go_wp2_with fail
                  refine HEQ.out.mono ?_
                  rintro e w9 ⟨rfl, rfl⟩
                  go_wp2_with fail
                  go_meet
                  case rel => exact ⟨rfl, rfl⟩
              case rest =>
                obtain ⟨rfl, hwc⟩ := hcut
                subst hwc
                clear HEQ HF0 HNB HRD HFE
                go_wp2_with fail
                obtain ⟨w9, hw9⟩ : ∃ W : World, W = wc := ⟨_, rfl⟩
                rw [← hw9] at HDN8 HKN8 HAL8 ⊢
                clear hw9
                go_loopg [18, 133] i (fun g sv iv wz => ∃ x, x + g = i ∧ iv = .int .i64 x ∧ Hid (OwnT w9.heap.size wz sv ((L.take x).map (·.1))) ∧ Hid (Kept (fun _ => False) w9 wz))
                case atStart => exact ⟨0, by omega, rfl, Lib.hid (OwnT.nil _ _), Lib.hid (Kept.refl _ _)⟩
                case round =>
                  obtain ⟨x, hxg, rfl, HT, HKZ⟩ := hrel
                  rcases Nat.eq_zero_or_pos gk with rfl | hxpos
                  · obtain rfl : x = i := by omega
                    rw [List.take_of_length_le (by rw [HQ.out]; exact Nat.le_refl _)] at HT
                    obtain ⟨ns, hns⟩ : ∃ l, L.map (·.1) = l := ⟨_, rfl⟩
                    rw [hns] at HT
                    obtain ⟨nsa, nsc, hsv, -, -⟩ := HT.out.form
                    subst hsv
                    obtain ⟨wz, rfl⟩ : ∃ W : World, W = wr := ⟨_, rfl⟩
                    have HNSB : Hid (∀ g, (Value.slice nsa ns.length nsc).ownBlock = some g → ¬ jourF j b m es2 av2 pv2 g) := Lib.hid (fun g e h => by
                      have h8 := (World.ownsRow.lt HT.out g e).1
                      have h9 := HDN8.out.held.refs.jour.lt g h
                      omega)
                    have HDZ := Lib.hid (HDN8.out.keptN HKZ.out)
                    have HKWZ : Hid (Kept (fun _ => False) w wz) := Lib.hid (HKN8.out.more HKZ.out (fun _ f => f.elim))
                    clear HDN8 HKN8 HAL8 HKZ
                    obtain ⟨S2, hS2⟩ : ∃ l, afterS S L = l := ⟨_, rfl⟩
                    rw [hS2] at HDZ ⊢
                    clear hS2
                    have hks : ∀ p ∈ S2, p.1.size ≤ 1000 := fun p hp => by have := path_size (HDZ.out.held.file.names p hp).1; omega
                    have hz : ∀ p ∈ S2, p.2 ≠ 0 := fun p hp => (HDZ.out.held.file.names p hp).2.1
                    have hl64 : S2.length ≤ 64 := HDZ.out.held.file.most
                    have HSM := Lib.hid (same_any HDZ.out.held.refs.refs hks hz (by omega) na nc HDZ.out.want nsa nsc ns HT.out.isS)
                    have HNM := Lib.hid (And.intro hks (And.intro hz hl64))
                    clear hks hz hl64
                    obtain ⟨q3, hq3, hq3l⟩ : ∃ q3 : Nat, (k : Int).tmod 3 = (q3 : Int) ∧ q3 < 3 := ⟨k % 3, by rw [Int.tmod_eq_emod_of_nonneg (by omega)]; omega, by omega⟩
                    have cB : wz.cell? ⟨B, 0, none⟩ = some (.slice na (allOf S2).length nc) := by simp [World.cell?, HDZ.out.box]
                    go_wp2_with fail
                    refine HSM.out.mono ?_
                    rintro e wy ⟨rfl, hky⟩
                    have HDY := Lib.hid (HDZ.out.keptN hky)
                    have HKWY : Hid (Kept (fun _ => False) w wy) := Lib.hid (HKWZ.out.more hky (fun _ f => f.elim))
                    have HTY : Hid (IsS wy (.slice nsa ns.length nsc) ns) := Lib.hid (HT.out.isS.keptN hky)
                    have cB2 : wy.cell? ⟨B, 0, none⟩ = some (.slice na (allOf S2).length nc) := hky.cell cB (fun f => f)
                    clear hky cB HDZ HKWZ HSM HT
                    by_cases h2 : q3 = 2
                    · have h2b : ((q3 : Int) == 2) = true := by simp [h2]
                      clear h2
                      have HOP2 := Lib.hid (open_ok HDY.out.held.refs.jour.disk HDY.out.held.file (by have := HDY.out.held.writes; omega))
                      go_wp2_with fail
                      refine HOP2.out.mono ?_
                      rintro e wv2 ⟨es9, clk9, r9, im9, ies9, iclk9, j9, av9, pv9, l9, T9, rfl, hR9, hp9, hF9, hA9, hr9, him9, hjf9⟩
                      have hap := HDY.out.apart
                      have hk9 := hA9.kept
                      have hall : allOf T9 = allOf S2 := allOf_perm hF9.nodup hp9
                      have hdj : ∀ g, diskF b m es2 g → jourF j b m es2 av2 pv2 g := fun g e => .inr (.inr (.inr e))
                      have hB9 := (hk9.block _ (Array.getElem?_eq_some_iff.1 HDY.out.box).1 (fun e => hap.1.2.2 (hdj _ e))).trans HDY.out.box
                      have HW9 : Hid (IsR wv2 (.slice na (allOf S2).length nc) (allOf T9)) := Lib.hid (by rw [hall]; exact HDY.out.want.keptS hk9 (fun hne g e e2 => (hap.2.2 hne g e).2.2.1 (hdj _ e2)))
                      have HD9 : Hid (DoesR w B r9 im9 j9 b m ((k + 1) * 260000 : Nat) ((k + 1) * 17000) T9 (.slice na (allOf S2).length nc) (.slice ua nb uc) wv2 ies9 iclk9 es9 clk9 av9 pv9 l9 D2 J2) := Lib.hid (by
                        obtain ⟨g1, g2, g3, g4, g5, g6⟩ := HDY.out.held
                        have hs0 := HKWY.out.size
                        refine ⟨⟨hR9, hF9, g3, g4, g5, by omega, by omega, fun g hg => ?_⟩, HDY.out.bare, hB9, HDY.out.new, HW9.out, rowKeptF HDY.out.recs hk9 (fun g _ e e2 => (hap.2.1 g e).2.2.2.1 (hdj _ e2)), fun hne g e => HDY.out.sep (hall ▸ hne) g e⟩
                        rcases hjf9 g hg with h9 | h9
                        · refine ⟨(g6.2.2 g (hdj g h9)).1, fun e => (g6.2.2 g (hdj g h9)).2 ?_⟩
                          rcases e with e | e | ⟨hne, e⟩
                          · exact .inl e
                          · exact .inr (.inl e)
                          · exact .inr (.inr ⟨hall ▸ hne, e⟩)
                        · refine ⟨by omega, fun e => ?_⟩
                          rcases e with e | e | ⟨hne, e⟩
                          · have := (Array.getElem?_eq_some_iff.1 HDY.out.box).1; omega
                          · have := (hap.2.1 g e).2.2.2.2.2; omega
                          · have := (hap.2.2 (hall ▸ hne) g e).2.2.2.1; omega)
                      have HK9 : Hid (Kept (fun _ => False) w wv2) := Lib.hid (HKWY.out.more hk9 (fun g e => (HDY.out.held.new.2.2 g (hdj g e)).1))
                      have HT9 : Hid (IsS wv2 (.slice nsa ns.length nsc) ns) := Lib.hid (HTY.out.keptS hk9 (fun _ g e e2 => HNSB.out g e (hdj g e2)))
                      have hks : ∀ p ∈ T9, p.1.size ≤ 1000 := fun p hp => HNM.out.1 p (hp9.mem_iff.1 hp)
                      have hz : ∀ p ∈ T9, p.2 ≠ 0 := fun p hp => HNM.out.2.1 p (hp9.mem_iff.1 hp)
                      have HSM := Lib.hid (same_any hR9.refs hks hz (by rw [hp9.length_eq]; have := HNM.out.2.2; omega) na nc (by rw [hall] at HW9 ⊢; exact HW9.out) nsa nsc ns HT9.out)
                      rw [hall] at HSM
                      have cB3 : wv2.cell? ⟨B, 0, none⟩ = some (.slice na (allOf S2).length nc) := by simp [World.cell?, hB9]
                      clear hR9 hp9 hF9 hA9 hr9 him9 hjf9 hap hk9 hall hdj hB9 hks hz HOP2 cB2
                      go_wp2_with fail
                      refine HSM.out.mono ?_
                      rintro e wv3 ⟨rfl, hkv3⟩
                      have HD10 := Lib.hid (HD9.out.keptN hkv3)
                      have HK10 : Hid (Kept (fun _ => False) w wv3) := Lib.hid (HK9.out.more hkv3 (fun _ f => f.elim))
                      clear hkv3
                      go_wp2_with fail
                      go_roundg (gk - 1)
                      case measure => omega
                      case rel => exact ⟨k + 1, T9, r9, by omega, by have := H25.out; omega, rfl, by go_num, Lib.hid ⟨im9, j9, _, _, _, _, _, _, _, _, _, _, HD10.out⟩, HK10⟩
                    · have h2b : ((q3 : Int) == 2) = false := by simp; omega
                      clear h2
                      go_wp2_with fail
                      go_roundg (gk - 1)
                      case measure => omega
                      case rel => exact ⟨k + 1, S2, r, by omega, by have := H25.out; omega, rfl, by go_num, Lib.hid ⟨im, j, _, _, _, _, _, _, _, _, _, _, HDY.out⟩, HKWY⟩
                  · have hxlt : (x : Int) < (i : Int) := by omega
                    have hxq : x < L.length := by rw [HQ.out]; omega
                    obtain ⟨gl, ol, rfl, hgl, hl0, hl1⟩ := (HAL8.out.keptN HKZ.out).at (k := x) hxq
                    have HTK : Hid ((L.take (x + 1)).map (·.1) = (L.take x).map (·.1) ++ [L[x].1]) := Lib.hid (by rw [List.take_succ_eq_append_getElem hxq, List.map_append]; rfl)
                    generalize L[x] = y at *
                    obtain ⟨xs, xi⟩ := y
                    simp only at hl0 hl1 HTK
                    obtain ⟨wA, hwA, hkA, hsA, hbA⟩ := ref_new wr xs xi
                    have hA0 : wA.cell? ⟨wr.heap.size, 0, none⟩ = some (.string xs) := by simp [World.cell?, hbA]
                    obtain ⟨wB, hwB⟩ : ∃ W, wA.alloc (.cells #[.string xs] 9) = W := ⟨_, rfl⟩
                    have hkB : Kept (fun _ => False) wA wB := by rw [← hwB]; exact (Kept.refl _ _).alloc _
                    have hbB : wB.heap[wA.heap.size]? = some (.cells #[.string xs] 9 (0, 0)) := by rw [← hwB]; exact heap_alloc_new _ _
                    have hB0 : wB.cell? ⟨wA.heap.size, 0, none⟩ = some (.string xs) := by simp [World.cell?, hbB]
                    have hkAB := hkA.trans hkB (fun _ _ f => f)
                    obtain ⟨v2, w2', hrun2, ho2, hk2'⟩ := (HT.out.keptN hkAB).push (by have := HKZ.out.size; have := hkAB.size; omega) wA.heap.size xs hB0 (by have := HQL.out; simp; omega)
                    have HKN2 : Hid (Kept (fun _ => False) w9 w2') := Lib.hid ((HKZ.out.trans hkAB (fun _ _ f => f)).more hk2' (fun g e => (World.ownsRow.lt HT.out g e).1))
                    have HON2 : Hid (OwnT w9.heap.size w2' v2 ((L.take (x + 1)).map (·.1))) := Lib.hid (by rw [HTK.out]; exact ho2)
                    obtain ⟨sa, sc, hsve, -, -⟩ := HT.out.form
                    subst hsve
                    rw [← hwB, ← hwA, World.size_alloc] at hrun2
                    clear hkA hsA hbA hwB hwA hkB hbB hB0 hkAB ho2 hk2' hA0 hgl hxq
                    go_wp2_with (at_builtin; refine wpList_append_run rfl (.tmp 137) (.tmp 140) #[47, 47] rfl _ _ _ _ rfl rfl hrun2 ?_)
                    clear hrun2
                    go_roundg (gk - 1)
                    case measure => omega
                    case rel => exact ⟨x + 1, by omega, by go_num, HON2, HKN2⟩
          · have hilt : (i : Int) < (q : Int) := by omega
            have hiq : i < L.length := by rw [HQ.out]; omega
            obtain ⟨gf, of, rfl, hgf, hf0, hf1⟩ := (HFU4.out.keptN HX.out).at (k := i) (by simp; omega)
            rw [List.getElem_append_left hiq] at hf0 hf1
            obtain ⟨gl, ol, rfl, hgl, hl0, hl1⟩ := (HAL4.out.keptN HX.out).at (k := i) hiq
            generalize L[i] = x at *
            obtain ⟨xs, xi⟩ := x
            simp only at hf0 hf1 hl0 hl1
            have hi1 : (i : Int) < (q : Int) + 1 := by omega
            clear hgf hgl hiq
            go_wp2_with fail
            go_quiet (fail)
            have HX2 : Hid (Kept (fun _ => False) w4 (wr.drewN nq)) := Lib.hid (HX.out.drewN nq)
            go_wp2_with fail
            go_roundg (gk - 1)
            case measure => omega
            case rel => exact ⟨i + 1, by omega, by go_num, HX2⟩
end Go.Proofs.YtjnhkepgoghogaaGreatDoor
