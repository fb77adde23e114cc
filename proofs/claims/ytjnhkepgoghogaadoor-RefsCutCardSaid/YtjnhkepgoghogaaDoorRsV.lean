/- espalierlaw08.RefsAgain: the walk. -/
import Derived.Test.YtjnhkepgoghogaaDoorRsQ
import Derived.Test.YtjnhkepgoghogaaDoorDiskD
namespace Go.Proofs.YtjnhkepgoghogaaDoor
open Go.RowKit Go.ChangeMaps Go.MapKept
set_option linter.unusedSimpArgs false

/-- Refs over a disk of theirs, apart from the blocks P. -/
structure HeldR (n0 : Nat) (P : Nat → Prop) (r im j b m : Nat) (cut : Bool) (N : Int) (z : Nat) (S : IdsL) (W : World) (ies : Array MapEntry) (iclk : Nat) (es : Array MapEntry) (clk : Nat) (av pv : Value) (l : IdsL) (D : DM) (J : JM) : Prop where
  refs : RefsAt W r im ies iclk j b m es clk av pv l D J S
  file : FileOk D J S
  cutting : D.cut = cut
  writes : D.writes ≤ N
  size : J.size ≤ z
  new : n0 ≤ r ∧ n0 ≤ im ∧ ∀ k, jourF j b m es av pv k → n0 ≤ k ∧ ¬ P k
def Held (n0 : Nat) (P : Nat → Prop) (r im j b m : Nat) (cut : Bool) (N : Int) (z : Nat) (S : IdsL) (W : World) : Prop := ∃ ies iclk es clk av pv l D J, HeldR n0 P r im j b m cut N z S W ies iclk es clk av pv l D J
theorem Held.keptN {n0 : Nat} {P : Nat → Prop} {r im j b m : Nat} {cut : Bool} {N : Int} {z : Nat} {S : IdsL} {W W' : World} (h : Held n0 P r im j b m cut N z S W) (hk : Kept (fun _ => False) W W') : Held n0 P r im j b m cut N z S W' := by
  obtain ⟨ies, iclk, es, clk, av, pv, l, D, J, h1, h2, h3, h4, h5, h6⟩ := h
  exact ⟨ies, iclk, es, clk, av, pv, l, D, J, h1.keptN hk, h2, h3, h4, h5, h6⟩
/-- What is done to the protected blocks, or to new ones, leaves the refs as they are. -/
theorem Held.keptP {n0 : Nat} {P : Nat → Prop} {r im j b m : Nat} {cut : Bool} {N : Int} {z : Nat} {S : IdsL} {W W' : World} (h : Held n0 P r im j b m cut N z S W) {G : Nat → Prop} (hk : Kept G W W') (hG : ∀ k, G k → P k) (hr : ¬ P r) (hi : ¬ P im) : Held n0 P r im j b m cut N z S W' := by
  obtain ⟨ies, iclk, es, clk, av, pv, l, D, J, h1, h2, h3, h4, h5, h6⟩ := h
  exact ⟨ies, iclk, es, clk, av, pv, l, D, J, h1.kept hk (fun k hk e => by
    rcases hk with rfl | rfl | hk
    · exact hr (hG _ e)
    · exact hi (hG _ e)
    · exact (h6.2.2 k hk).2 (hG _ e)), h2, h3, h4, h5, h6⟩
/-- Set. -/
theorem Held.set {n0 : Nat} {P : Nat → Prop} {r im j b m : Nat} {N : Int} {z : Nat} {S : IdsL} {w : World} (h : Held n0 P r im j b m false N z S w) (hP : ∀ k, P k → k < w.heap.size) (hn : n0 ≤ w.heap.size) (la : Option Addr) (lc n : Nat) (l : IdsL) (hl : IsR w (.slice la n lc) l)
    (hll : l.length ≤ 1000) (hid : ∀ p ∈ l, p.2 < 18446744073709551616) (hz : z + 250000 ≤ 4194304) (hw : N < 2305843009213693952) :
    Calls Tryd.prog 18 #[.pointer (some ⟨r, 0, none⟩), .slice la n lc] w fun e w' => e = .returned (.int .i64 (setErr S l)) ∧ Held n0 P r im j b m false (N + 250000) (z + 20 + 210 * l.length) (if setErr S l = 0 then layL S (scanOf S l).2.cs else S) w' ∧
      Kept (fun k => k = im ∨ (n0 ≤ k ∧ ¬ P k)) w w' := by
  obtain ⟨ies, iclk, es, clk, av, pv, l0, D, J, h1, h2, h3, h4, h5, h6⟩ := h
  refine (set_ok h1 h2 la lc n l hl hll hid (by omega) (by omega)).mono ?_
  rintro e w' ⟨rfl, hs, ies', iclk', es', clk', av', pv', l', hR, hj, hk⟩
  have hlv := hs.leave.resolve_right (fun h => by rw [h3] at h; cases h.1)
  obtain ⟨k1, k2, k3, k4, -⟩ := hlv
  refine ⟨by rw [k1], ⟨ies', iclk', es', clk', av', pv', l', _, _, by rw [← k2]; exact hR, by rw [← k2]; exact k3, by rw [hs.cut, h3], by have := hs.writes; omega, by omega, h6.1, h6.2.1, fun k hk' => ?_⟩, hk.mono (fun i _ e => ?_)⟩
  · rcases hj k hk' with h | h
    · exact h6.2.2 k h
    · exact ⟨by omega, fun hp => by have := hP k hp; omega⟩
  · rcases e with e | e
    · exact .inl e
    · exact .inr (h6.2.2 i e)

/-- More blocks are protected; fewer are. -/
theorem Held.addP {n0 : Nat} {P Q : Nat → Prop} {r im j b m : Nat} {cut : Bool} {N : Int} {z : Nat} {S : IdsL} {W : World} (h : Held n0 P r im j b m cut N z S W) (hQ : ∀ k, Q k → P k ∨ W.heap.size ≤ k) : Held n0 Q r im j b m cut N z S W := by
  obtain ⟨ies, iclk, es, clk, av, pv, l, D, J, h1, h2, h3, h4, h5, h6⟩ := h
  exact ⟨ies, iclk, es, clk, av, pv, l, D, J, h1, h2, h3, h4, h5, h6.1, h6.2.1, fun k hk => ⟨(h6.2.2 k hk).1, fun hq => (hQ k hq).elim (h6.2.2 k hk).2 (fun h => by have := h1.jour.lt k hk; omega)⟩⟩
theorem Held.more {n0 : Nat} {P : Nat → Prop} {r im j b m : Nat} {cut : Bool} {N N' : Int} {z z' : Nat} {S : IdsL} {W : World} (h : Held n0 P r im j b m cut N z S W) (hN : N ≤ N') (hz : z ≤ z') : Held n0 P r im j b m cut N' z' S W := by
  obtain ⟨ies, iclk, es, clk, av, pv, l, D, J, h1, h2, h3, h4, h5, h6⟩ := h
  exact ⟨ies, iclk, es, clk, av, pv, l, D, J, h1, h2, h3, by omega, by omega, h6⟩
theorem Held.refsI {n0 : Nat} {P : Nat → Prop} {r im j b m : Nat} {cut : Bool} {N : Int} {z : Nat} {S : IdsL} {W : World} (h : Held n0 P r im j b m cut N z S W) : (∃ ies iclk jp l, RefsI W r im ies iclk jp l S) ∧ (∀ p ∈ S, mayOf p.1 = 0 ∧ p.2 ≠ 0 ∧ p.2 < 18446744073709551616) ∧ S.length ≤ 64 := by
  obtain ⟨ies, iclk, es, clk, av, pv, l, D, J, h1, h2, -⟩ := h
  exact ⟨⟨_, _, _, _, h1.refs⟩, h2.names, h2.most⟩
theorem isR_one {W : World} {g : Nat} {s : ByteArray} {n : Nat} (h : W.heap[g]? = some (.cells #[.string s, .int .u64 n] 48 (0, 0))) : IsR W (.slice (some ⟨g, 0, none⟩) 1 1) [(s, n)] :=
  ⟨_, _, rfl, by simp, by simp [maxLen], .inr ⟨g, 0, rfl, (Array.getElem?_eq_some_iff.1 h).1, fun i x hx => by
    match i, hx with
    | 0, hx => cases hx; simp [World.cell?, h]
    | 1, hx => cases hx; simp [World.cell?, h]
    | i + 2, hx => simp [flatR, encR] at hx⟩⟩
theorem cutL_id {l : IdsL} (h : ∀ p ∈ l, p.2 < 18446744073709551616) : ∀ p ∈ cutL l, p.2 < 18446744073709551616 := by
  intro p hp
  unfold cutL at hp
  obtain ⟨q, hq, rfl⟩ := List.mem_map.1 hp
  exact h q (List.mem_of_mem_take hq)
theorem cutL_len (l : IdsL) : (cutL l).length ≤ 80 := by unfold cutL; rw [List.length_map, List.length_take]; omega
theorem scanOf_one {S : IdsL} {s : ByteArray} {id : Nat} (h : setErr S [(s, id)] = 0) : (scanOf S [(s, id)]).2.cs = if (getA s S).getD 0 = id then [] else [(s, id)] := by
  unfold setErr at h
  by_cases h1 : (scanOf S [(s, id)]).1 ≠ 0
  · rw [if_pos h1] at h; exact absurd h h1
  · unfold scanOf at h1 ⊢
    rw [scanGo_step] at h1 ⊢
    by_cases h2 : mayOf s ≠ 0
    · rw [if_pos h2] at h1; exact absurd h2 h1
    rw [if_neg h2] at h1 ⊢
    rw [if_neg (by simp [getA])] at h1 ⊢
    by_cases h3 : id = 0 ∧ getA s S = none
    · rw [if_pos h3] at h1; simp at h1
    rw [if_neg h3]
    simp [scanGo]
/-- What 'last' has is what the refs have. -/
def LastOk (ll S : IdsL) : Prop := ∀ s id, getA s ll = some id → (getA s S).getD 0 = id ∧ ((getA s S).isSome = true ↔ id ≠ 0)
theorem LastOk.step {ll S : IdsL} (h : LastOk ll S) (hS : NodupA S) (hz : ∀ p ∈ S, p.2 ≠ 0) {s : ByteArray} {id : Nat} (he : setErr S [(s, id)] = 0) : LastOk (putA s id ll) (layL S (scanOf S [(s, id)]).2.cs) := by
  intro t x ht
  rw [scanOf_one he]
  by_cases hw : (getA s S).getD 0 = id
  · rw [if_pos hw]
    show (getA t S).getD 0 = x ∧ _
    by_cases hts : t = s
    · subst hts
      rw [getA_putA_same] at ht
      cases ht
      refine ⟨hw, ?_⟩
      show (getA t S).isSome = true ↔ _
      cases hg : getA t S with
      | none => rw [hg] at hw; simp at hw; simp [hw]
      | some y => rw [hg] at hw; simp at hw; subst hw; simp [hz _ (getA_mem hg)]
    · rw [getA_putA_ne hts] at ht
      exact h t x ht
  · rw [if_neg hw]
    have hg : getA t (layL S [(s, id)]) = if t = s then (if id = 0 then none else some id) else getA t S := getA_layOne hS (s, id) t
    rw [hg]
    by_cases hts : t = s
    · subst hts
      rw [getA_putA_same] at ht
      cases ht
      rw [if_pos rfl]
      by_cases h0 : id = 0
      · simp [h0]
      · simp [h0]
    · rw [getA_putA_ne hts] at ht
      rw [if_neg hts]
      exact h t x ht
theorem setErr_self {S : IdsL} (hS : NodupA S) (hm : ∀ p ∈ S, mayOf p.1 = 0 ∧ p.2 ≠ 0) (hl : S.length ≤ 64) : setErr S (allOf S) = 0 ∧ (scanOf S (allOf S)).2.cs = [] := by
  have h := scan_self hS hm (allOf S) ⟨[], []⟩ (fun p hp => (allOf_self hS).mem_iff.1 hp) (allOf_nodup hS) (fun _ _ => by simp [getA])
  refine ⟨?_, h.2⟩
  unfold setErr scanOf
  rw [if_neg (by rw [h.1]; decide), h.2]
  show (if 64 < S.length then (3 : Int) else 0) = 0
  rw [if_neg (by omega)]

set_option maxRecDepth 100000 in
set_option maxHeartbeats 2000000 in
theorem again_law (w : World) (a : Option Addr) (c : Nat) (l : IdsL) (h : IsR w (.slice a l.length c) l) (hid : ∀ p ∈ l, p.2 < 18446744073709551616) : Calls Tryd.prog 4 #[.slice a l.length c] w fun e w' => e = .returned (.bool true) ∧ Kept (fun _ => False) w w' := by
  have HL := Lib.hid h
  have HID := Lib.hid hid
  clear h hid
  have hmm := @run_makeMap Tryd.prog
  go_enter Tryd.func4, Tryd.ntmps4
  go_wp2_with fail
  refine (wakes08_any w).mono ?_
  rintro e w1 ⟨rfl, hk1⟩
  have HK1 := Lib.hid hk1
  clear hk1
  go_wp2_with fail
  refine (new_any w1).mono ?_
  rintro e w2 ⟨b, m, rfl, hb, hm, hd, hk2⟩
  have HOP := Lib.hid (open_ok hd FileOk.fresh (by simp))
  have HK2 := Lib.hid (HK1.out.more hk2 (fun _ f => f.elim))
  have HBM : Hid (w.heap.size ≤ b ∧ w.heap.size ≤ m) := Lib.hid (by have := HK1.out.size; omega)
  clear hd hk2 hb hm
  go_wp2_with fail
  refine HOP.out.mono ?_
  rintro e w3 ⟨es3, clk3, r, im, ies3, iclk3, j, av3, pv3, l3, T, rfl, hR, hp, hF, hA, hr, him, hjf⟩
  obtain rfl := hp.eq_nil
  have hdf : ∀ k, diskF b m #[] k → w.heap.size ≤ k := fun k hk => by
    rcases hk with rfl | rfl | ⟨e, he, -⟩
    · exact HBM.out.1
    · exact HBM.out.2
    · simp at he
  have HK3 : Hid (Kept (fun _ => False) w w3) := Lib.hid (HK2.out.more hA.kept hdf)
  have hs2 := HK2.out.size
  obtain ⟨w4, hw4⟩ : ∃ W, w3.alloc (.map #[] 0) = W := ⟨_, rfl⟩
  have hk4 : Kept (fun _ => False) w3 w4 := by rw [← hw4]; exact (Kept.refl _ _).alloc _
  have hb4 : w4.heap[w3.heap.size]? = some (.map #[] 0) := by rw [← hw4]; exact heap_alloc_new _ _
  have hs4 : w4.heap.size = w3.heap.size + 1 := by rw [← hw4]; simp
  have HK4 : Hid (Kept (fun _ => False) w w4) := Lib.hid (HK3.out.more hk4 (fun _ f => f.elim))
  have HC := Lib.hid (cutRefs_any w4 a c l (HL.out.keptN HK4.out))
  have hrlt := (Array.getElem?_eq_some_iff.1 hR.refs.cell).1
  have hilt := hR.refs.ids.lt
  have HH4 : Hid (HeldR w.heap.size (fun _ => False) r im j b m false 0 0 [] w4 ies3 iclk3 es3 clk3 av3 pv3 l3 ⟨[], 0, 0, false⟩ ⟨refsB, [], 0, false⟩) := Lib.hid ⟨hR.keptN hk4, hF, rfl, by simp, by simp, by omega, by omega, fun k hk => ⟨(hjf k hk).elim (hdf k) (fun h => by omega), fun f => f⟩⟩
  have HB4 := Lib.hid hb4
  have HS4 : Hid (w4.heap.size = w3.heap.size + 1 ∧ r < w3.heap.size ∧ im < w3.heap.size ∧ w.heap.size ≤ w3.heap.size ∧ (∀ k, jourF j b m es3 av3 pv3 k → k < w3.heap.size) ∧ w.heap.size ≤ im) := Lib.hid ⟨hs4, hrlt, hilt, HK3.out.size, fun k hk => hR.jour.lt k hk, by omega⟩
  clear hR hp hF hA hr him hjf hdf hs2 hk4 hb4 hs4 hrlt hilt
  go_wp2_with fail
  clear hmm hw4
  refine HC.out.mono ?_
  rintro e w5 ⟨v5, rfl, ho5, hk5⟩
  obtain ⟨va, vc, rfl, -, -⟩ := ho5.form
  have hLlen := cutL_len l
  have HLID := Lib.hid (cutL_id HID.out)
  obtain ⟨L, hL⟩ : ∃ L, cutL l = L := ⟨_, rfl⟩
  rw [hL] at ho5 hLlen HLID ⊢
  obtain ⟨N, hN⟩ : ∃ n, L.length = n := ⟨_, rfl⟩
  rw [hN] at ho5 hLlen ⊢
  have HN := Lib.hid hN
  obtain ⟨LM, hLM⟩ : ∃ n, w3.heap.size = n := ⟨_, rfl⟩
  rw [hLM] at HS4 HB4 ⊢
  have HO5 : Hid (OwnR w4.heap.size w5 (.slice va N vc) L) := Lib.hid ho5
  have hvb : ∀ k, (Value.slice va N vc).ownBlock = some k → LM + 1 ≤ k := fun k e => by have h5 := (World.ownsRow.lt ho5 k e).1; have := HS4.out.1; omega
  have HVB := Lib.hid hvb
  have HK5 : Hid (Kept (fun _ => False) w w5) := Lib.hid (HK4.out.more hk5 (fun _ f => f.elim))
  have HH5 : Hid (Held w.heap.size (fun k => k = LM ∨ (Value.slice va N vc).ownBlock = some k) r im j b m false 0 0 [] w5) := Lib.hid (by
    have h0 : Held w.heap.size (fun _ => False) r im j b m false 0 0 [] w4 := ⟨_, _, _, _, _, _, _, _, _, HH4.out⟩
    obtain ⟨ies, iclk, es, clk, av, pv, l9, D, J, h1, h2, h3, h4, h5, h6⟩ := h0.keptN hk5
    refine ⟨_, _, _, _, _, _, _, _, _, HH4.out.refs.keptN hk5, HH4.out.file, HH4.out.cutting, HH4.out.writes, HH4.out.size, HH4.out.new.1, HH4.out.new.2.1, fun k hk => ⟨(HH4.out.new.2.2 k hk).1, fun e => ?_⟩⟩
    have h7 := HS4.out.2.2.2.2.1 k hk
    rcases e with e | e
    · omega
    · have := hvb k e; omega)
  have HM5 : Hid (IdsAt w5 LM #[] 0 []) := Lib.hid ⟨(hk5.block LM (by have := HS4.out.1; omega) (fun f => f)).trans HB4.out, stamped_empty 0, trivial, by simp [NodupA]⟩
  have HS5 : Hid (LM < w5.heap.size) := Lib.hid (by have := HS4.out.1; have := hk5.size; omega)
  clear hL hN hLM ho5 hvb hk5 HB4 HH4 HC HOP
  go_wp2_with fail
  go_loopg [28] N (fun g i wr => ∃ k S ll les lclk, k + g = N ∧ i = .int .i64 k ∧ Hid (Held w.heap.size (fun k => k = LM ∨ (Value.slice va N vc).ownBlock = some k) r im j b m false (k * 250000 : Nat) (k * 230) S wr) ∧ Hid (IdsAt wr LM les lclk ll) ∧ Hid (LastOk ll S) ∧ Hid (OwnR w4.heap.size wr (.slice va N vc) L) ∧ Hid (Kept (fun _ => False) w wr) ∧ Hid (LM < wr.heap.size ∧ w.heap.size ≤ wr.heap.size))
  case atStart => exact ⟨0, [], [], #[], 0, by omega, rfl, HH5, HM5, Lib.hid (fun s id h => by cases h), HO5, HK5, Lib.hid ⟨HS5.out, HK5.out.size⟩⟩
  case round =>
    obtain ⟨k, S, ll, les, lclk, hkg, rfl, HH, HM, HLO, HO, HK, HW⟩ := hrel
    clear HH5 HM5 HO5 HK5 HS5
    rcases Nat.eq_zero_or_pos gk with rfl | hpos
    · obtain rfl : k = N := by omega
      have hN80 : k ≤ 80 := hLlen
      have HN80 := Lib.hid hN80
      have hrange := run_range_map (P := Tryd.prog) (es := les) (clock := lclk) Tryd.underlying43 wr HM.out.map
      have hst : IterAt (wr.alloc (.mapIter (some LM) lclk #[] lclk)) wr.heap.size LM les lclk [] := IterAt.start
      have hk0 : Kept (fun _ => False) wr (wr.alloc (.mapIter (some LM) lclk #[] lclk)) := (Kept.refl _ wr).alloc _
      obtain ⟨W0, hW0⟩ : ∃ W, wr.alloc (.mapIter (some LM) lclk #[] lclk) = W := ⟨_, rfl⟩
      rw [hW0] at hst hk0
      obtain ⟨I, hI⟩ : ∃ n, wr.heap.size = n := ⟨_, rfl⟩
      have hIL : LM < I ∧ w.heap.size ≤ I := by have := HW.out; omega
      have HH0 : Hid (Held w.heap.size (fun q => q = I) r im j b m false (k * 250000 : Nat) (k * 230) S W0) := Lib.hid ((HH.out.addP (Q := fun q => q = I) (fun q e => .inr (by omega))).keptN hk0)
      have HIL := Lib.hid hIL
      have HST := Lib.hid hst
      have HM0 := Lib.hid (HM.out.keptF hk0)
      have HKW0 : Hid (Kept (fun _ => False) w W0) := Lib.hid (HK.out.more hk0 (fun _ f => f.elim))
      obtain ⟨nl, hnl⟩ : ∃ n, les.size = n := ⟨_, rfl⟩
      have HNL := Lib.hid hnl
      clear hst hk0 HH HM HK HW hnl hIL hN80 HO
      go_wp2_with fail
      rw [hI] at HST
      clear hrange hW0 hI
      go_loopg [] nl (fun g wx => ∃ vis, vis.length + g = nl ∧ Hid (IterAt wx I LM les lclk vis) ∧ Hid (Kept (· = I) W0 wx))
      case atStart => exact ⟨[], by simp, HST, Lib.hid (Kept.refl _ _)⟩
      case round =>
        obtain ⟨vis, hg, HI, HX⟩ := hrel
        have hcm : Hid (IdsAt wr LM les lclk ll) := Lib.hid (HM0.out.kept HX.out (by have := HIL.out; omega))
        have HHX : Hid (Held w.heap.size (fun q => q = I) r im j b m false (k * 250000 : Nat) (k * 230) S wr) := Lib.hid (HH0.out.keptP HX.out (fun q e => e) (fun e => by have := HS4.out; have := HIL.out; omega) (fun e => by have := HS4.out; have := HIL.out; omega))
        have HKX : Hid (Kept (fun _ => False) w wr) := Lib.hid (HKW0.out.more HX.out (fun i (e : i = I) => by have := HIL.out; omega))
        rcases HI.out.next (P := Tryd.prog) hcm.out.map hcm.out.stamped 0 with ⟨hall, hnx⟩ | ⟨e, he, hnew, w3', hnx, hen, hi3, hk3, hsz3⟩
        · obtain ⟨ies, iclk, es, clk, av, pv, l0, D, J, hH⟩ := HHX.out
          have HH := Lib.hid hH
          have HW1 := Lib.hid (writes_any hH.refs.jour.disk)
          have hmn : ∀ p ∈ S, p.1.size ≤ 1000 := fun p hp => by have := path_size (hH.file.names p hp).1; omega
          have hAL := all_any hH.refs.refs hmn (by have := hH.file.most; omega)
          have HAL := Lib.hid hAL
          have HMN := Lib.hid hmn
          clear hall hH hAL hmn
          go_wp2_with (go_at_call 20; refine HW1.out.mono ?_; rintro e w6 ⟨rfl, rfl⟩)
          refine HAL.out.mono ?_
          rintro e w7 ⟨v7, rfl, ho7, hk7⟩
          obtain ⟨a7, c7, rfl, -, -⟩ := ho7.form
          have hself := setErr_self HH.out.file.nodup (fun p hp => ⟨(HH.out.file.names p hp).1, (HH.out.file.names p hp).2.1⟩) HH.out.file.most
          have hlen7 : (allOf S).length ≤ 64 := by rw [allOf_length]; exact HH.out.file.most
          have HS7 := Lib.hid (set_ok (HH.out.refs.keptN hk7) HH.out.file a7 c7 _ (allOf S) ho7.isR (by omega) (fun p hp => (HH.out.file.names p ((allOf_self HH.out.file.nodup).mem_iff.1 hp)).2.2) (by have := HH.out.size; have := HN80.out; omega) (by have := HH.out.writes; have := HN80.out; omega))
          have HSF := Lib.hid hself
          have HK7 : Hid (Kept (fun _ => False) w w7) := Lib.hid (HKX.out.more hk7 (fun _ f => f.elim))
          clear ho7 hk7 hself hlen7 HW1 HAL
          go_wp2_with fail
          refine HS7.out.mono ?_
          rintro e w8 ⟨rfl, hs8, ies8, iclk8, es8, clk8, av8, pv8, l8, hR8, hj8, hk8⟩
          have hlv := hs8.leave.resolve_right (fun h => by have h2 := h.1; rw [HH.out.cutting] at h2; cases h2)
          obtain ⟨q1, q2, q3, -, q5⟩ := hlv
          obtain ⟨q6, q7⟩ := q5 HSF.out.2
          rw [HSF.out.1, if_pos rfl, HSF.out.2] at q2
          rw [HSF.out.1] at q1
          rw [q2, q6, q7] at q3 hR8
          have HR8 : Hid (RefsAt w8 r im ies8 iclk8 j b m es8 clk8 av8 pv8 l8 D J S) := Lib.hid hR8
          have HW8 := Lib.hid (writes_any hR8.jour.disk)
          have HOP8 := Lib.hid (open_ok hR8.jour.disk HH.out.file (by have := HH.out.writes; have := HN80.out; omega))
          have HK8 : Hid (Kept (fun _ => False) w w8) := Lib.hid (HK7.out.more hk8 (fun i e => e.elim (fun h => by have := HH.out.new.2.1; omega) (fun h => (HH.out.new.2.2 i h).1)))
          have HJ8 : Hid (∀ q, jourF j b m es8 av8 pv8 q → w.heap.size ≤ q) := Lib.hid (fun q hq => (hj8 q hq).elim (fun h => (HH.out.new.2.2 q h).1) (fun h => by have := HK7.out.size; omega))
          rw [q1]
          clear hs8 hR8 hj8 hk8 q1 q2 q3 q6 q7
          go_wp2_with (go_at_call 20; refine HW8.out.mono ?_; rintro e w9 ⟨rfl, rfl⟩)
          refine HOP8.out.mono ?_
          rintro e w9 ⟨es9, clk9, r9, im9, ies9, iclk9, j9, av9, pv9, l9, T, rfl, hR9, hp9, hF9, hA9, hr9, him9, hjf9⟩
          have hrr : RefsI w9 r im ies8 iclk8 (.pointer (some ⟨j, 0, none⟩)) l8 S := HR8.out.refs.kept hA9.kept (fun e => HR8.out.out.1 (.inr (.inr (.inr e)))) (fun e => HR8.out.out.2.1 (.inr (.inr (.inr e))))
          have hTS : allOf T = allOf S := allOf_perm hF9.nodup hp9
          have hT64 : T.length ≤ 64 := hF9.most
          have HA9 := Lib.hid (all_any hR9.refs (fun p hp => HMN.out p (hp9.mem_iff.1 hp)) (by omega))
          have hK9 : Kept (fun _ => False) w w9 := HK8.out.more hA9.kept (fun i e => HJ8.out i (.inr (.inr (.inr e))))
          have HK9 := Lib.hid hK9
          have HRR := Lib.hid hrr
          have HD9 := Lib.hid hA9.disk
          have HTS := Lib.hid hTS
          clear hR9 hp9 hF9 hA9 hr9 him9 hjf9 hrr hTS hT64 hK9
          go_wp2_with fail
          refine HA9.out.mono ?_
          rintro e w10 ⟨v10, rfl, ho10, hk10⟩
          rw [HTS.out] at ho10
          obtain ⟨a10, c10, rfl, -, -⟩ := ho10.form
          have HA10 := Lib.hid (all_any (HRR.out.keptN hk10) HMN.out (by have := HH.out.file.most; omega))
          have HO10 := Lib.hid ho10.isR
          have HK10 := Lib.hid hk10
          clear ho10 hk10
          go_wp2_with fail
          refine HA10.out.mono ?_
          rintro e w11 ⟨v11, rfl, ho11, hk11⟩
          obtain ⟨a11, c11, rfl, -, -⟩ := ho11.form
          have HAK := Lib.hid (alike_any w11 a10 a11 c10 c11 (allOf S) (allOf S) (HO10.out.keptN hk11) ho11.isR)
          have HK11 : Hid (Kept (fun _ => False) w9 w11) := Lib.hid (HK10.out.more hk11 (fun _ f => f.elim))
          clear ho11 hk11
          go_wp2_with fail
          refine HAK.out.mono ?_
          rintro e w12 ⟨rfl, hk12⟩
          have HK12 : Hid (Kept (fun _ => False) w9 w12) := Lib.hid (HK11.out.more hk12 (fun _ f => f.elim))
          have HW12 := Lib.hid (writes_any (HD9.out.kept HK12.out (fun _ _ f => f)))
          clear hk12
          go_wp2_with (go_at_call 20; refine HW12.out.mono ?_; rintro e w13 ⟨rfl, rfl⟩)
          refine (wakes08_any w12).mono ?_
          rintro e w13 ⟨rfl, hk13⟩
          go_wp2_with fail
          go_ret
          exact ⟨rfl, (HK9.out.more HK12.out (fun _ f => f.elim)).more hk13 (fun _ f => f.elim)⟩
        · obtain ⟨⟨s, id⟩, hp, hek, hev⟩ := hcm.out.rel.mem e he
          have hsk : getA s ll = some id := getA_of_mem hcm.out.nodup hp
          have hlo := HLO.out s id hsk
          unfold idR at hev
          simp only at hek hev
          obtain ⟨⟨ies, iclk, jp, l0, hRI⟩, -⟩ := HHX.out.refsI
          have HG := Lib.hid (get_any (hRI.kept hk3 (fun e => by have := HS4.out; have := HIL.out; omega) (fun e => by have := HS4.out; have := HIL.out; omega)) s)
          rw [hlo.1] at HG
          have HKN : Hid (Kept (· = I) W0 w3') := Lib.hid (HX.out.trans hk3 (fun i hi e => e))
          have HIN := Lib.hid hi3
          have hg2 : Hid (vis.length + 1 ≤ nl) := Lib.hid (by have := hi3.le; rw [HNL.out] at this; simpa using this)
          rw [hek, hev] at hnx hen
          clear hRI hp hsk
          cases hgs : (getA s S).isSome with
          | true =>
            rw [hgs] at HG
            have h0 : id ≠ 0 := hlo.2.1 hgs
            have h0b : ((id : Int) != 0) = true := by simp; omega
            have h0c : ((id : Int) != (id : Int)) = false := by simp
            clear hlo
            simp only [if_true] at HG
            go_wp2_with (go_at_call 19; refine HG.out.mono ?_; rintro e6 w6 ⟨rfl, rfl⟩)
            go_roundg (gk - 1)
            case measure => have := hg2.out; omega
            case rel => exact ⟨vis ++ [e], by have := hg2.out; simp; omega, HIN, HKN⟩
          | false =>
            rw [hgs] at HG
            have h0 : id = 0 := by
              by_cases h : id = 0
              · exact h
              · have := hlo.2.2 h; rw [hgs] at this; cases this
            have h0b : ((id : Int) != 0) = false := by simp [h0]
            have h0c : ((id : Int) != (id : Int)) = false := by simp
            clear hlo h0
            simp only [Bool.false_eq_true, if_false] at HG
            go_wp2_with (go_at_call 19; refine HG.out.mono ?_; rintro e6 w6 ⟨rfl, rfl⟩)
            go_roundg (gk - 1)
            case measure => have := hg2.out; omega
            case rel => exact ⟨vis ++ [e], by have := hg2.out; simp; omega, HIN, HKN⟩
    · have hlt : (k : Int) < (N : Int) := by omega
      obtain ⟨ga, oa, hga0, hga, hx0, hx1⟩ := HO.out.isR.at (k := k) (by rw [HN.out]; omega)
      subst hga0
      have hidk := HLID.out (L[k]'(by rw [HN.out]; omega)) (List.getElem_mem _)
      generalize (L[k]'(by rw [HN.out]; omega)) = p at *
      obtain ⟨s, id⟩ := p
      simp only at hx0 hx1 hidk
      obtain ⟨wA, hwA, hkA, hsA, hbA⟩ := ref_new wr s id
      obtain ⟨wB, hwB, hkB, hsB, hbB⟩ := ref_new wA s id
      have hbAB := (hkB.block _ (Array.getElem?_eq_some_iff.1 hbA).1 (fun f => f)).trans hbA
      have hkAB := hkA.more hkB (fun _ f => f.elim)
      have hr1 := HS4.out
      have hvl : ∀ q, (Value.slice (some ⟨ga, oa, none⟩) N vc).ownBlock = some q → q < wr.heap.size := fun q e => (World.ownsRow.lt HO.out q e).2
      have HSET := Lib.hid (Held.set ((HH.out.addP (Q := fun k => (k = LM ∨ (Value.slice (some ⟨ga, oa, none⟩) N vc).ownBlock = some k) ∨ k = wr.heap.size) (fun q hq => hq.elim .inl (fun e => .inr (by omega)))).keptN hkAB) (fun q hq => by
        rcases hq with (e | e) | e
        · have := HW.out.1; omega
        · have := hvl q e; omega
        · omega) (by have := HW.out.2; omega) (some ⟨wA.heap.size, 0, none⟩) 1 1 [(s, id)] (isR_one hbB) (by simp) (by simpa using hidk) (by omega) (by omega))
      have x0 : wB.cell? ⟨wr.heap.size, 0, none⟩ = some (.string s) := by simp [World.cell?, hbAB]
      have x1 : wB.cell? ⟨wr.heap.size, 1, none⟩ = some (.int .u64 id) := by simp [World.cell?, hbAB]
      have y0 : wA.cell? ⟨wr.heap.size, 0, none⟩ = some (.string s) := by simp [World.cell?, hbA]
      have y1 : wA.cell? ⟨wr.heap.size, 1, none⟩ = some (.int .u64 id) := by simp [World.cell?, hbA]
      have HMB := Lib.hid (HM.out.keptF hkAB)
      have HOB := Lib.hid (HO.out.keptN hkAB)
      have HKB : Hid (Kept (fun _ => False) w wB) := Lib.hid (HK.out.more hkAB (fun _ f => f.elim))
      have hnS := HH.out.refsI
      have HSN : Hid (NodupA S ∧ ∀ p ∈ S, p.2 ≠ 0) := Lib.hid ⟨by obtain ⟨⟨_, _, _, _, h⟩, -⟩ := hnS; exact h.nodup, fun p hp => (hnS.2.1 p hp).2.1⟩
      rw [hsA] at HSET
      clear hbA hbB hkA hkB hnS hvl hr1 hga HH HM HO HK
      go_wp2_with fail
      refine HSET.out.mono ?_
      rintro e w6 ⟨rfl, hH6, hk6⟩
      have HH6 : Hid (Held w.heap.size (fun k => k = LM ∨ (Value.slice (some ⟨ga, oa, none⟩) N vc).ownBlock = some k) r im j b m false ((k + 1) * 250000 : Nat) ((k + 1) * 230) (if setErr S [(s, id)] = 0 then layL S (scanOf S [(s, id)]).2.cs else S) w6) := Lib.hid ((hH6.addP (fun q hq => .inl (.inl hq))).more (by omega) (by simp; omega))
      have hkim : LM ≠ im := by have := HS4.out; omega
      have HM6 : Hid (IdsAt w6 LM les lclk ll) := Lib.hid (HMB.out.kept hk6 (fun e => e.elim hkim (fun h => h.2 (.inl (.inl rfl)))))
      have HO6 : Hid (OwnR w4.heap.size w6 (.slice (some ⟨ga, oa, none⟩) N vc) L) := Lib.hid (rowKeptF HOB.out hk6 (fun g hg e h => by
        rcases h with h | h
        · have := HS4.out; omega
        · exact h.2 (.inl (.inr e))))
      have z0 : w6.cell? ⟨wr.heap.size, 0, none⟩ = some (.string s) := hk6.cell x0 (fun h => by
        rcases h with h | h
        · have h5 := HS4.out; have h6 := HW.out; simp only at h; omega
        · exact h.2 (.inr rfl))
      have z1 : w6.cell? ⟨wr.heap.size, 1, none⟩ = some (.int .u64 id) := hk6.cell x1 (fun h => by
        rcases h with h | h
        · have h5 := HS4.out; have h6 := HW.out; simp only at h; omega
        · exact h.2 (.inr rfl))
      have HK6 : Hid (Kept (fun _ => False) w w6) := Lib.hid (HKB.out.more hk6 (fun i e => e.elim (fun h => by have := HS4.out; omega) (fun h => h.1)))
      have HW6 : Hid (LM < w6.heap.size ∧ w.heap.size ≤ w6.heap.size) := Lib.hid (by have := hk6.size; have := HW.out; omega)
      clear hH6 hk6 x0 x1 y0 y1
      by_cases he : setErr S [(s, id)] = 0
      · have heb : (setErr S [(s, id)] == 0) = true := by simp [he]
        rw [if_pos he] at HH6
        have HL7 := Lib.hid (HLO.out.step HSN.out.1 HSN.out.2 he)
        obtain ⟨les7, lclk7, hrun7, hid7⟩ := HM6.out.put s id
        have hd7 := hrun7 w6 HM6.out.map
        have HM7 := Lib.hid (hid7 w6 HM6.out.map)
        obtain ⟨w7, hw7⟩ : ∃ W, setBlock w6 LM (.map les7 lclk7) = W := ⟨_, rfl⟩
        have hk7 : Kept (· = LM) w6 w7 := by rw [← hw7]; exact (Kept.refl (· = LM) w6).setBlock (fun _ => rfl) _
        rw [hw7] at hd7 HM7
        have HH7 := Lib.hid (HH6.out.keptP hk7 (fun q e => .inl e) (fun e => by have := HS4.out; exact e.elim (fun e => by omega) (fun e => by have := HVB.out r e; omega)) (fun e => by have := HS4.out; exact e.elim (fun e => by omega) (fun e => by have := HVB.out im e; omega)))
        have HO7 : Hid (OwnR w4.heap.size w7 (.slice (some ⟨ga, oa, none⟩) N vc) L) := Lib.hid (rowKeptF HO6.out hk7 (fun g hg e h => by have := HS4.out; omega))
        have HK7 : Hid (Kept (fun _ => False) w w7) := Lib.hid (HK6.out.more hk7 (fun i (e : i = LM) => by have := HS4.out; omega))
        have HW7 : Hid (LM < w7.heap.size ∧ w.heap.size ≤ w7.heap.size) := Lib.hid (by have := hk7.size; have := HW6.out; omega)
        clear hrun7 hid7 hw7 hk7 he
        go_wp2_with fail
        go_roundg (gk - 1)
        case measure => omega
        case rel => exact ⟨k + 1, _, _, les7, lclk7, by omega, by go_num, HH7, HM7, HL7, HO7, HK7, HW7⟩
      · have heb : (setErr S [(s, id)] == 0) = false := by simp [he]
        rw [if_neg he] at HH6
        clear he
        go_wp2_with fail
        go_roundg (gk - 1)
        case measure => omega
        case rel => exact ⟨k + 1, S, ll, les, lclk, by omega, by go_num, HH6, HM6, HLO, HO6, HK6, HW6⟩
end Go.Proofs.YtjnhkepgoghogaaDoor
