/- espalierlaw08.wakes; Open and Set where the file leads back. -/
import Derived.Test.YtjnhkepgoghogaaDoorRsP
import Derived.Test.YtjnhkepgoghogaaDoorRsJ
import Derived.Test.YtjnhkepgoghogaaDoorRsN
namespace Go.Proofs.YtjnhkepgoghogaaDoor
open Go.RowKit Go.ChangeMaps Go.MapKept
set_option linter.unusedSimpArgs false

/-- Refs whose blocks are at or beyond n0. -/
structure NewRefs (n0 r im j b m : Nat) (es : Array MapEntry) (av pv : Value) : Prop where
  r : n0 ≤ r
  im : n0 ≤ im
  jour : ∀ k, jourF j b m es av pv k → n0 ≤ k

/-- Open, where the file leads back. -/
theorem open_ok {w : World} {b m : Nat} {es : Array MapEntry} {clock : Nat} {D : DM} {J : JM} {S : IdsL} (hd : DiskAt w b m es clock D) (hF : FileOk D J S) (hw : D.writes < 2305843009213693952) :
    Calls Tryd.prog 16 #[.pointer (some ⟨b, 0, none⟩)] w fun e w' => ∃ es' clock' r im ies iclk j av pv l T, e = .returned (.tuple #[.pointer (some ⟨r, 0, none⟩), .int .i64 0]) ∧
      RefsAt w' r im ies iclk j b m es' clock' av pv l D J T ∧ T.Perm S ∧ FileOk D J T ∧ DiskAfter w b m es D w' es' clock' ∧ w.heap.size ≤ r ∧ w.heap.size ≤ im ∧ (∀ k, jourF j b m es' av pv k → diskF b m es k ∨ w.heap.size ≤ k) := by
  obtain ⟨T, hO, hp, hT⟩ := hF.opened
  have h := open_any hd hw
  rw [hO] at h
  refine h.mono ?_
  rintro e w' ⟨es', clk', hA, -, h0⟩
  obtain ⟨r, im, ies, iclk, j, av, pv, l, rfl, hR, h1, h2, h3, h4, h5⟩ := h0 rfl
  refine ⟨es', clk', r, im, ies, iclk, j, av, pv, l, T, rfl, hR, hp, hT, hA, h1, h2, ?_⟩
  rintro k (rfl | e | e | e)
  · exact .inr h3
  · exact .inr (h4 k e)
  · exact .inr (h5 k e)
  · exact hA.foot k e
/-- Set, where the file leads back. -/
theorem set_ok {w : World} {r im : Nat} {ies : Array MapEntry} {iclk j b m : Nat} {es : Array MapEntry} {clock : Nat} {av pv : Value} {S0 S : IdsL} {D : DM} {J : JM} (h : RefsAt w r im ies iclk j b m es clock av pv S0 D J S) (hF : FileOk D J S) (la : Option Addr) (lc n : Nat) (l : IdsL) (hl : IsR w (.slice la n lc) l)
    (hn : l.length ≤ 1000) (hid : ∀ p ∈ l, p.2 < 18446744073709551616) (hz : J.size + 250000 ≤ 4194304) (hw : D.writes < 2305843009213693952) :
    Calls Tryd.prog 18 #[.pointer (some ⟨r, 0, none⟩), .slice la n lc] w fun e w' => e = .returned (.int .i64 (setR D J S l).1) ∧ SetOk D J S l (setR D J S l) ∧ SetEnd w r im j b m es av pv (setR D J S l) w' := by
  obtain rfl : n = l.length := by obtain ⟨_, _, e, -⟩ := hl; cases e; rfl
  have hs := hF.small
  refine (set_any h la lc l hl hn hid hF.most hF.cut (by omega) (by omega) (by omega) hw).mono ?_
  rintro e w' ⟨h1, h2⟩
  exact ⟨h1, set_plain hF hn hid hz, h2⟩

theorem scan_ab : (scanOf [] [(⟨#[97, 47, 98]⟩, 7)]).1 = 0 ∧ (scanOf [] [(⟨#[97, 47, 98]⟩, 7)]).2.cs = [(⟨#[97, 47, 98]⟩, 7)] := by
  unfold scanOf
  rw [scanGo_step, if_neg (by rw [may_ab]; decide)]
  simp [scanGo, getA]
theorem setErr_ab : setErr [] [(⟨#[97, 47, 98]⟩, 7)] = 0 := by
  unfold setErr
  rw [if_neg (by rw [scan_ab.1]; decide), scan_ab.2]
  rfl

set_option maxRecDepth 100000 in
set_option maxHeartbeats 1000000 in
theorem wakes08_any (w : World) : Calls Tryd.prog 15 #[] w fun e w' => e = .returned (.bool true) ∧ Kept (fun _ => False) w w' := by
  go_enter Tryd.func15, Tryd.ntmps15
  go_wp2_with fail
  refine (new_any w).mono ?_
  rintro e w1 ⟨b, m, rfl, hb, hm, hd, hk1⟩
  have HOP := Lib.hid (open_ok hd FileOk.fresh (by simp))
  have HK1 := Lib.hid hk1
  have HBM := Lib.hid (And.intro hb hm)
  clear hd hk1 hb hm
  go_wp2_with fail
  refine HOP.out.mono ?_
  rintro e w2 ⟨es2, clk2, r, im, ies, iclk, j, av, pv, l, T, rfl, hR, hp, hF, hA, hr, him, hjf⟩
  obtain rfl := hp.eq_nil
  have hdf : ∀ k, diskF b m #[] k → w.heap.size ≤ k := fun k hk => by
    rcases hk with rfl | rfl | ⟨e, he, -⟩
    · exact HBM.out.1
    · exact HBM.out.2
    · simp at he
  have HK2 : Hid (Kept (fun _ => False) w w2) := Lib.hid (HK1.out.more hA.kept hdf)
  have hs1 := HK1.out.size
  have HNF : Hid (w.heap.size ≤ im ∧ ∀ k, jourF j b m es2 av pv k → w.heap.size ≤ k) := Lib.hid ⟨by omega, fun k hk => (hjf k hk).elim (hdf k) (fun h => Nat.le_trans hs1 h)⟩
  obtain ⟨w3, hw3, hk3, hs3, hb3⟩ := ref_new w2 ⟨#[97, 47, 98]⟩ 7
  have hw3' : w2.alloc (.cells #[.string { data := #[97, 47, 98] }, .int .u64 7] 48) = w3 := hw3
  clear hw3
  have hIS : IsR w3 (.slice (some ⟨w2.heap.size, 0, none⟩) 1 1) [(⟨#[97, 47, 98]⟩, 7)] := ⟨_, _, rfl, by simp, by simp [maxLen], .inr ⟨w2.heap.size, 0, rfl, by omega, fun i x hx => by
    match i, hx with
    | 0, hx => cases hx; simp [World.cell?, hb3]
    | 1, hx => cases hx; simp [World.cell?, hb3]
    | i + 2, hx => simp [flatR, encR] at hx⟩⟩
  have HST := Lib.hid (set_ok (hR.keptN hk3) hF (some ⟨w2.heap.size, 0, none⟩) 1 1 _ hIS (by simp) (by simp) (by simp) (by simp))
  have HK3 : Hid (Kept (fun _ => False) w w3) := Lib.hid (HK2.out.more hk3 (fun _ f => f.elim))
  clear hR hp hF hA hr him hjf hdf hs1 hk3 hs3 hb3 hIS
  go_wp2_with fail
  refine HST.out.mono ?_
  rintro e w4 ⟨rfl, hSO, ies4, iclk4, es4, clk4, av4, pv4, l4, hR4, hj4, hk4⟩
  have hlv := hSO.leave.resolve_right (fun h => by cases h.1)
  rw [setErr_ab, if_pos rfl, scan_ab.2] at hlv
  obtain ⟨h1, h2, -⟩ := hlv
  obtain ⟨⟨er, D4, J4, S4⟩, hO⟩ : ∃ o, setR ⟨[], 0, 0, false⟩ ⟨refsB, [], 0, false⟩ [] [(⟨#[97, 47, 98]⟩, 7)] = o := ⟨_, rfl⟩
  rw [hO] at h1 h2 hR4 ⊢
  simp only at h1 h2 hR4 ⊢
  subst h1
  subst h2
  have hI4 := hR4.refs
  have hg := get_any hI4 ⟨#[97, 47, 98]⟩
  have hgv : getA (⟨#[97, 47, 98]⟩ : ByteArray) (layL [] [(⟨#[97, 47, 98]⟩, 7)]) = some 7 := by simp [layL, layOne, putA, getA]
  rw [hgv] at hg
  have HG := Lib.hid hg
  have HL := Lib.hid (len_any hI4)
  have HK4 : Hid (Kept (fun _ => False) w w4) := Lib.hid (HK3.out.more hk4 (fun i e => e.elim (fun h => by have := HNF.out.1; omega) (HNF.out.2 i)))
  clear hSO hR4 hj4 hk4 hI4 hg hgv hO
  go_wp2_with (first | (go_at_call 19; refine HG.out.mono ?_; rintro e w5 ⟨rfl, rfl⟩) | (go_at_call 27; refine HL.out.mono ?_; rintro e w6 ⟨rfl, rfl⟩))
  go_ret
  exact ⟨rfl, HK4.out⟩
end Go.Proofs.YtjnhkepgoghogaaDoor
