/- espalierlaw08.RefsCut: the walk. -/
import Derived.Test.YtjnhkepgoghogaaDoorRsV
namespace Go.Proofs.YtjnhkepgoghogaaDoor
open Go.RowKit Go.ChangeMaps Go.MapKept
set_option linter.unusedSimpArgs false

/-- A row of rows of refs. -/
def RowsR (w : World) (v : Value) (ls : List IdsL) : Prop :=
  ∃ a c, v = .slice a ls.length c ∧ ls.length ≤ c ∧ c ≤ maxLen ∧ ∀ i l, ls[i]? = some l → ∃ g o b d, a = some ⟨g, o, none⟩ ∧ w.cell? ⟨g, o + i, none⟩ = some (.slice b l.length d) ∧ IsR w (.slice b l.length d) l ∧ ∀ p ∈ l, p.2 < 18446744073709551616
theorem RowsR.keptN {w w' : World} {v : Value} {ls : List IdsL} (h : RowsR w v ls) (hk : Kept (fun _ => False) w w') : RowsR w' v ls := by
  obtain ⟨a, c, rfl, h1, h2, h3⟩ := h
  refine ⟨a, c, rfl, h1, h2, fun i l hi => ?_⟩
  obtain ⟨g, o, b, d, e, hc, hI, hid⟩ := h3 i l hi
  exact ⟨g, o, b, d, e, hk.cell hc (fun f => f), hI.keptN hk, hid⟩

theorem FileOk.turn {D D' : DM} {J : JM} {S : IdsL} (h : FileOk D J S) (hf : D'.files = D.files) (ho : D'.Ok) : FileOk D' J S :=
  ⟨ho, by rw [hf]; exact h.room, h.cut, h.file, h.recs, h.size, by rw [← h.bytes]; unfold DM.bytes; rw [hf], h.back, h.names, h.most⟩
theorem FileOk.alike {D D' : DM} {J : JM} {S : IdsL} (h : FileOk D J S) (hs : DM.Same D' D) (ho : D'.Ok) : FileOk D' J S :=
  ⟨ho, fun e => by rw [hs.len]; exact h.room (by rw [← hs.files]; exact e), h.cut, h.file, h.recs, h.size, by rw [← h.bytes]; unfold DM.bytes; rw [hs.files], h.back, h.names, h.most⟩
theorem RefsAt.turn {w w' : World} {r im : Nat} {ies : Array MapEntry} {iclk j b m : Nat} {es : Array MapEntry} {clock : Nat} {av pv : Value} {l : IdsL} {D D' : DM} {J : JM} {S : IdsL} (h : RefsAt w r im ies iclk j b m es clock av pv l D J S) (hd : DiskAt w' b m es clock D') (hk : Kept (· = b) w w') : RefsAt w' r im ies iclk j b m es clock av pv l D' J S := by
  obtain ⟨h1, h2, -⟩ := h.out
  have hbj : jourF j b m es av pv b := .inr (.inr (.inr (.inl rfl)))
  exact ⟨h.refs.kept hk (fun e => h1 (e ▸ hbj)) (fun e => h2 (e ▸ hbj)), h.jour.over hd (fun k hk => .inl hk) (hk.mono (fun i _ e => .inl e)), h.apart⟩
theorem setErr_perm {S T l : IdsL} (hT : NodupA T) (hp : T.Perm S) : setErr T l = setErr S l ∧ (scanOf T l) = (scanOf S l) := by
  have hg := get_of_perm hT hp
  have h1 : scanOf T l = scanOf S l := scanGo_perm hg l _
  refine ⟨?_, h1⟩
  unfold setErr
  rw [h1, (layL_perm2 hT (scanOf_ok S l).nodup hp).length_eq]
/-- What Set leaves, alike on both. -/
def afterS (S l : IdsL) : IdsL := if setErr S l = 0 then layL S (scanOf S l).2.cs else S
theorem afterS_perm {S T l : IdsL} (hT : NodupA T) (hp : T.Perm S) : (afterS T l).Perm (afterS S l) := by
  obtain ⟨h1, h2⟩ := setErr_perm (l := l) hT hp
  unfold afterS
  rw [h1, h2]
  split
  · exact layL_perm2 hT (scanOf_ok S l).nodup hp
  · exact hp
theorem afterS_nodup {S l : IdsL} (h : NodupA S) : NodupA (afterS S l) := by
  unfold afterS
  split
  · exact layL_nodup h _
  · exact h

set_option maxRecDepth 100000 in
set_option maxHeartbeats 2000000 in
theorem cut_law (w : World) (a : Option Addr) (c : Nat) (ls : List IdsL) (x : Int) (h : RowsR w (.slice a ls.length c) ls) : Calls Tryd.prog 5 #[.slice a ls.length c, .int .i64 x] w fun e w' => e = .returned (.bool true) ∧ Kept (fun _ => False) w w' := by
  have HL := Lib.hid h
  have hnM : ls.length ≤ maxLen := by obtain ⟨_, _, e, h1, h2, -⟩ := h; exact Nat.le_trans h1 h2
  unfold maxLen at hnM
  obtain ⟨n, hn⟩ : ∃ n, ls.length = n := ⟨_, rfl⟩
  rw [hn] at HL hnM ⊢
  have HN := Lib.hid hn
  obtain ⟨y, hy⟩ : ∃ y : Nat, IntKind.u64.wrap x = (y : Int) := by
    have : 0 ≤ IntKind.u64.wrap x := by rw [IntKind.wrap_u64]; omega
    exact ⟨(IntKind.u64.wrap x).toNat, by omega⟩
  obtain ⟨q, hq, hq2⟩ : ∃ q : Nat, (y : Int).tmod 60 = (q : Int) ∧ q < 60 := ⟨y % 60, by rw [Int.tmod_eq_emod_of_nonneg (by omega)]; omega, by omega⟩
  have hqw : IntKind.i64.wrap (q : Int) = (q : Int) := by rw [IntKind.wrap_i64]; omega
  clear h hn
  go_enter Tryd.func5, Tryd.ntmps5
  go_wp2_with fail
  refine (wakes08_any w).mono ?_
  rintro e w1 ⟨rfl, hk1⟩
  have HK1 := Lib.hid hk1
  clear hk1
  go_wp2_with fail
  refine (new_any w1).mono ?_
  rintro e w2 ⟨b, m, rfl, hb, hm, hd, hk2⟩
  have HOP := Lib.hid (open_ok hd FileOk.fresh (by simp))
  have HK2 := Lib.hid (HK1.out.more hk2 (fun _ f => f.elim))
  have HBM : Hid (w.heap.size ≤ b ∧ w.heap.size ≤ m) := Lib.hid (by have := HK1.out.size; omega)
  clear hd hk2 hb hm
  go_wp2_with fail
  refine HOP.out.mono ?_
  rintro e w3 ⟨es3, clk3, r, im, ies3, iclk3, j, av3, pv3, l3, T, rfl, hR, hp, hF, hA, hr, him, hjf⟩
  obtain rfl := hp.eq_nil
  have hdf : ∀ k, diskF b m #[] k → w.heap.size ≤ k := fun k hk => by
    rcases hk with rfl | rfl | ⟨e, he, -⟩
    · exact HBM.out.1
    · exact HBM.out.2
    · simp at he
  have HK3 : Hid (Kept (fun _ => False) w w3) := Lib.hid (HK2.out.more hA.kept hdf)
  have hs2 := HK2.out.size
  have HCU := Lib.hid (Go.Proofs.YtjnhkepgoghogaaDoor.cut_any hR.jour.disk q (by omega) (by omega))
  have HR3 := Lib.hid hR
  have HF3 := Lib.hid hF
  have HNW : Hid (w.heap.size ≤ r ∧ w.heap.size ≤ im ∧ ∀ k, jourF j b m es3 av3 pv3 k → w.heap.size ≤ k) := Lib.hid ⟨by omega, by omega, fun k hk => (hjf k hk).elim (hdf k) (fun h => by omega)⟩
  clear hR hp hF hA hr him hjf hdf hs2 HOP
  go_wp2_with fail
  refine HCU.out.mono ?_
  rintro e w4 ⟨rfl, hd4, hk4⟩
  have HR4 := Lib.hid (HR3.out.turn hd4 hk4)
  have HF4 := Lib.hid (HF3.out.turn (D' := DM.cutAt ⟨[], 0, 0, false⟩ q) rfl hd4.ok)
  have HK4 : Hid (Kept (fun _ => False) w w4) := Lib.hid (HK3.out.more hk4 (fun i (e : i = b) => by have := HBM.out; omega))
  have HAL := Lib.hid (all_any HR4.out.refs (by simp) (by simp))
  clear hd4 hk4 HR3 HF3 HCU hqw hq hy
  go_wp2_with fail
  refine HAL.out.mono ?_
  rintro e w5 ⟨v5, rfl, ho5, hk5⟩
  have HK5 : Hid (Kept (fun _ => False) w w5) := Lib.hid (HK4.out.more hk5 (fun _ f => f.elim))
  have HO5 : Hid (OwnR w.heap.size w5 v5 (allOf [])) := Lib.hid (ho5.mono HK4.out.size)
  have HH5 : Hid (Held w.heap.size (fun z => v5.ownBlock = some z) r im j b m true (0 : Nat) 0 [] w5) := Lib.hid ⟨_, _, _, _, _, _, _, _, _, HR4.out.keptN hk5, HF4.out, rfl, by simp [DM.cutAt], by simp, HNW.out.1, HNW.out.2.1, fun k hk => ⟨HNW.out.2.2 k hk, fun e => by
    have h5 := (World.ownsRow.lt ho5 k e).1
    have h6 := HR4.out.jour.lt k hk
    omega⟩⟩
  clear ho5 hk5 HAL HR4 HF4 HK4
  go_wp2_with fail
  go_loopg [9, 47] n (fun g v9 i wr => ∃ k S, k + g = n ∧ k ≤ 25 ∧ i = .int .i64 k ∧ Hid (Held w.heap.size (fun z => v9.ownBlock = some z) r im j b m true (k * 260000 : Nat) (k * 17000) S wr) ∧ Hid (OwnR w.heap.size wr v9 (allOf S)) ∧ Hid (Kept (fun _ => False) w wr))
  case atStart => exact ⟨0, [], by omega, by omega, rfl, HH5, HO5, HK5⟩
  case round =>
    obtain ⟨k, S, hkg, hk25, rfl, HH, HO, HK⟩ := hrel
    clear HH5 HO5 HK5
    rcases Nat.eq_zero_or_pos gk with rfl | hpos
    · obtain rfl : k = n := by omega
      go_wp2_with fail
      refine (wakes08_any wr).mono ?_
      rintro e w6 ⟨rfl, hk6⟩
      go_wp2_with fail
      go_ret
      exact ⟨rfl, HK.out.more hk6 (fun _ f => f.elim)⟩
    · have hlt : (k : Int) < (n : Int) := by omega
      have hki : k < ls.length := by rw [HN.out]; omega
      obtain ⟨_, _, hae, -, -, hrow⟩ := HL.out.keptN HK.out
      cases hae
      obtain ⟨ga, oa, ba, bd, rfl, hcl, hIl, hidl⟩ := hrow k _ (List.getElem?_eq_getElem hki)
      clear hrow
      obtain ⟨l, hl⟩ : ∃ l, ls[k] = l := ⟨_, rfl⟩
      rw [hl] at hcl hIl hidl
      clear hl
      obtain ⟨nl, hnl⟩ : ∃ z, l.length = z := ⟨_, rfl⟩
      rw [hnl] at hcl
      by_cases h25 : k = 25
      · have h25b : ((k : Int) == 25) = true := by simp [h25]
        clear h25
        go_wp2_with fail
        refine (wakes08_any wr).mono ?_
        rintro e w6 ⟨rfl, hk6⟩
        go_wp2_with fail
        go_ret
        exact ⟨rfl, HK.out.more hk6 (fun _ f => f.elim)⟩
      · have h25b : ((k : Int) == 25) = false := by simp; omega
        have HC := Lib.hid (cutRefs_any wr ba bd l hIl)
        rw [hnl] at HC
        have HIDL := Lib.hid (cutL_id hidl)
        obtain ⟨ies, iclk, es, clk, av, pv, l0, D, J, hH⟩ := HH.out
        have HH := Lib.hid hH
        have H25 := Lib.hid h25
        clear hH hIl hidl hnl h25
        go_wp2_with fail
        refine HC.out.mono ?_
        rintro e w1 ⟨vl, rfl, hol, hk1⟩
        obtain ⟨al, cl, rfl, -, -⟩ := hol.form
        have hLlen := cutL_len l
        obtain ⟨L, hL⟩ : ∃ L, cutL l = L := ⟨_, rfl⟩
        rw [hL] at hol hLlen HIDL ⊢
        have HLL := Lib.hid hLlen
        obtain ⟨nl2, hnl2⟩ : ∃ z, L.length = z := ⟨_, rfl⟩
        have hIL1 : IsR w1 (.slice al nl2 cl) L := by rw [← hnl2]; exact hol.isR
        have hvl1 : ∀ z, (Value.slice al nl2 cl).ownBlock = some z → wr.heap.size ≤ z ∧ z < w1.heap.size := fun z e => by rw [ob_same al nl2 cl L.length cl] at e; exact World.ownsRow.lt hol z e
        rw [hnl2]
        have HIL1 := Lib.hid hIL1
        have HVL := Lib.hid hvl1
        have HKR1 := Lib.hid hk1
        have HBL : Hid (∀ z, (z = r ∨ z = im ∨ jourF j b m es av pv z) → z < wr.heap.size) := Lib.hid (fun z hz => by
          rcases hz with rfl | rfl | hz
          · exact (Array.getElem?_eq_some_iff.1 HH.out.refs.refs.cell).1
          · exact HH.out.refs.refs.ids.lt
          · exact HH.out.refs.jour.lt z hz)
        have HVB : Hid (∀ z, u9.ownBlock = some z → z < wr.heap.size) := Lib.hid (fun z e => (World.ownsRow.lt HO.out z e).2)
        have HCP := Lib.hid (copy_any (HH.out.refs.keptN hk1).jour.disk)
        clear hol hL hnl2 hIL1 hvl1 hk1 HC
        go_wp2_with fail
        refine HCP.out.mono ?_
        rintro e w2 ⟨b2, m2, es2, clk2, fs2, rfl, hnd, hsm⟩
        have hFE := HH.out.file.alike hsm hnd.disk.ok
        have HOP2 := Lib.hid (open_ok hnd.disk hFE (by simp))
        have HND := Lib.hid hnd
        clear hnd hsm hFE HCP
        go_wp2_with fail
        refine HOP2.out.mono ?_
        rintro e w3 ⟨es3, clk3, r2, im2, ies2, iclk2, j2, av2, pv2, l2, T, rfl, hR2, hp2, hF2, hA2, hr2, him2, hjf2⟩
        have HK13 : Hid (Kept (fun z => w1.heap.size ≤ z) w1 w3) := Lib.hid ((HND.out.kept.mono (fun _ _ f => f.elim)).trans hA2.kept (fun i _ e => HND.out.new i e))
        have hs12 := HND.out.kept.size
        have HN2 : Hid (∀ z, (z = r2 ∨ z = im2 ∨ jourF j2 b2 m2 es3 av2 pv2 z) → w1.heap.size ≤ z) := Lib.hid (fun z hz => by
          rcases hz with rfl | rfl | hz
          · omega
          · omega
          · exact (hjf2 z hz).elim (HND.out.new z) (fun h => by omega))
        have HR2 := Lib.hid hR2
        have HP2 := Lib.hid hp2
        have HF2 := Lib.hid hF2
        have HMN : Hid (∀ p ∈ S, p.1.size ≤ 1000) := Lib.hid (fun p hp => by have := path_size (HH.out.file.names p hp).1; omega)
        have HA3 := Lib.hid (all_any hR2.refs (fun p hp => HMN.out p (hp2.mem_iff.1 hp)) (by have := hF2.most; omega))
        clear hR2 hp2 hF2 hA2 hr2 him2 hjf2 hs12 HOP2
        go_wp2_with fail
        refine HA3.out.mono ?_
        rintro e w4 ⟨v4, rfl, ho4, hk4⟩
        rw [show allOf T = allOf S from allOf_perm HF2.out.nodup HP2.out] at ho4
        obtain ⟨a4, c4, rfl, -, -⟩ := ho4.form
        have hkr4 : Kept (fun z => wr.heap.size ≤ z) wr w4 := ((HKR1.out.mono (fun _ _ f => f.elim)).trans HK13.out (fun i _ e => by have := HKR1.out.size; omega)).trans hk4 (fun _ _ f => f.elim)
        obtain ⟨a9, c9, h9, -, -⟩ := HO.out.form
        have hI9 : IsR w4 (.slice a9 (allOf S).length c9) (allOf S) := by rw [← h9]; exact HO.out.isR.keptS hkr4 (fun _ z e h => by have := HVB.out z e; omega)
        have HAK := Lib.hid (alike_any w4 a4 a9 c4 c9 (allOf S) (allOf S) ho4.isR hI9)
        rw [← h9] at HAK
        have HK14 := Lib.hid (HK13.out.trans hk4 (fun _ _ f => f.elim))
        have HK34 := Lib.hid hk4
        clear ho4 hk4 hkr4 hI9 h9 HA3
        go_wp2_with fail
        refine HAK.out.mono ?_
        rintro e w5 ⟨rfl, hk5⟩
        have HK15 : Hid (Kept (fun z => w1.heap.size ≤ z) w1 w5) := Lib.hid (HK14.out.trans hk5 (fun _ _ f => f.elim))
        have HK35 : Hid (Kept (fun _ => False) w3 w5) := Lib.hid (HK34.out.more hk5 (fun _ f => f.elim))
        have HS2 := Lib.hid (set_ok (HR2.out.keptN HK35.out) HF2.out al cl _ L (HIL1.out.keptS HK15.out (fun _ z e h => by have := (HVL.out z e).2; omega)) (by have := HLL.out; omega) HIDL.out (by have := HH.out.size; omega) (by simp))
        clear hk5 HAK HK34 HK14
        go_wp2_with fail
        refine HS2.out.mono ?_
        rintro e w6 ⟨rfl, hs6, ies6, iclk6, es6, clk6, av6, pv6, l6, hR6, hj6, hk6⟩
        have hlv2 := hs6.leave.resolve_right (fun h => by cases h.1)
        obtain ⟨q1, q2, q3, -, -⟩ := hlv2
        obtain ⟨hse, hsc⟩ := setErr_perm (l := L) HF2.out.nodup HP2.out
        have hpf : (setR ⟨fs2, 0, 0, false⟩ J T L).2.2.2.Perm (afterS S L) := by rw [q2]; exact afterS_perm HF2.out.nodup HP2.out
        rw [q1, hse]
        have HPF := Lib.hid hpf
        have HF6 := Lib.hid q3
        have HR6 := Lib.hid hR6
        have hk56 : Kept (fun z => w1.heap.size ≤ z) w5 w6 := hk6.mono (fun i _ e => HN2.out i (.inr e))
        have HK16 : Hid (Kept (fun z => w1.heap.size ≤ z) w1 w6) := Lib.hid (HK15.out.trans hk56 (fun _ _ e => e))
        have HKR6 : Hid (Kept (fun z => wr.heap.size ≤ z) wr w6) := Lib.hid ((HKR1.out.mono (fun _ _ f => f.elim)).trans HK16.out (fun i _ e => by have := HKR1.out.size; omega))
        have HN6 : Hid (∀ z, (z = r2 ∨ z = im2 ∨ jourF j2 b2 m2 es6 av6 pv6 z) → w1.heap.size ≤ z) := Lib.hid (fun z hz => by
          rcases hz with h | h | h
          · exact HN2.out z (.inl h)
          · exact HN2.out z (.inr (.inl h))
          · rcases hj6 z h with h2 | h2
            · exact HN2.out z (.inr (.inr h2))
            · have := HK15.out.size; omega)
        have HS3 := Lib.hid (set_ok (HH.out.refs.kept HKR6.out (fun z hz e => by have := HBL.out z hz; omega)) HH.out.file al cl _ L (HIL1.out.keptS HK16.out (fun _ z e h => by have := (HVL.out z e).2; omega)) (by have := HLL.out; omega) HIDL.out (by have := HH.out.size; omega) (by have := HH.out.writes; omega))
        clear hs6 hR6 hj6 hk6 q1 q2 q3 hse hsc hpf hk56 HS2
        go_wp2_with fail
        refine HS3.out.mono ?_
        rintro e w7 ⟨rfl, hs7, ies7, iclk7, es7, clk7, av7, pv7, l7, hR7, hj7, hk7⟩
        obtain ⟨⟨er, D7, J7, S7⟩, hO7⟩ : ∃ o, setR D J S L = o := ⟨_, rfl⟩
        rw [hO7] at hs7 hR7 ⊢
        obtain ⟨hcut7, hwr7, hlv7⟩ := hs7
        simp only at hcut7 hwr7 hlv7 hR7 ⊢
        have HR7 := Lib.hid hR7
        have HKF7 : Hid (Kept (fun z => z = im ∨ jourF j b m es av pv z) w6 w7) := Lib.hid hk7
        have HJ7 : Hid (∀ z, jourF j b m es7 av7 pv7 z → jourF j b m es av pv z ∨ w6.heap.size ≤ z) := Lib.hid hj7
        have HCW7 := Lib.hid (And.intro hcut7 hwr7)
        have HR27 : Hid (RefsI w7 r2 im2 ies6 iclk6 (.pointer (some ⟨j2, 0, none⟩)) l6 (setR ⟨fs2, 0, 0, false⟩ J T L).2.2.2) := Lib.hid (HR6.out.refs.kept hk7 (fun e => by
          have h5 := HN6.out r2 (.inl rfl)
          have h6 := HBL.out r2 (.inr e)
          have := HKR1.out.size
          omega) (fun e => by
          have h5 := HN6.out im2 (.inr (.inl rfl))
          have h6 := HBL.out im2 (.inr e)
          have := HKR1.out.size
          omega))
        have HKW7 : Hid (Kept (fun _ => False) w w7) := Lib.hid ((HK.out.more HKR6.out (fun i e => by have := HK.out.size; omega)).more hk7 (fun i e => e.elim (fun h => by have := HH.out.new.2.1; omega) (fun h => (HH.out.new.2.2 i h).1)))
        clear hO7 hcut7 hwr7 hR7 hj7 hk7 HS3
        rcases hlv7 with ⟨q1, q2, q3, q4, -⟩ | ⟨-, q1, q2, q3, q4, q5, p, qq, q6, q7, q8, q9⟩
        · have hne6 := setErr_ne S L
          rw [← q1] at hne6 ⊢
          have hne6b : (er == 6) = false := by simp [hne6]
          have hee : (er != er) = false := by simp
          have hS7 : S7 = afterS S L := by rw [q2]; unfold afterS; rfl
          have HF7 := Lib.hid q3
          have HMN7 : Hid (∀ p ∈ S7, p.1.size ≤ 1000) := Lib.hid (fun p hp => by have := path_size (q3.names p hp).1; omega)
          have hp67 : (setR ⟨fs2, 0, 0, false⟩ J T L).2.2.2.Perm S7 := by rw [hS7]; exact HPF.out
          have HP67 := Lib.hid hp67
          have HA1 := Lib.hid (all_any HR7.out.refs HMN7.out (by have := q3.most; omega))
          have HZ7 : Hid (J7.size ≤ (k + 1) * 17000) := Lib.hid (by have := HH.out.size; have := HLL.out; omega)
          clear q1 q2 q3 q4 hne6 hS7 hp67
          go_wp2_with fail
          refine HA1.out.mono ?_
          rintro e w8 ⟨v8, rfl, ho8, hk8⟩
          obtain ⟨a8, c8, rfl, -, -⟩ := ho8.form
          have HA2 := Lib.hid (all_any (HR27.out.keptN hk8) (fun p hp => HMN7.out p (HP67.out.mem_iff.1 hp)) (by rw [HP67.out.length_eq]; have := HF7.out.most; omega))
          have HO8 := Lib.hid ho8.isR
          have HK8 := Lib.hid hk8
          clear ho8 hk8 HA1
          go_wp2_with fail
          refine HA2.out.mono ?_
          rintro e w9 ⟨v9, rfl, ho9, hk9⟩
          rw [show allOf (setR ⟨fs2, 0, 0, false⟩ J T L).2.2.2 = allOf S7 from (allOf_perm HF7.out.nodup HP67.out.symm).symm] at ho9
          obtain ⟨a9', c9', rfl, -, -⟩ := ho9.form
          have HAK := Lib.hid (alike_any w9 a8 a9' c8 c9' (allOf S7) (allOf S7) (HO8.out.keptN hk9) ho9.isR)
          have HK9 : Hid (Kept (fun _ => False) w7 w9) := Lib.hid (HK8.out.more hk9 (fun _ f => f.elim))
          clear ho9 hk9 HA2
          go_wp2_with fail
          refine HAK.out.mono ?_
          rintro e w10 ⟨rfl, hk10⟩
          have HK10 : Hid (Kept (fun _ => False) w7 w10) := Lib.hid (HK9.out.more hk10 (fun _ f => f.elim))
          have HA3 := Lib.hid (all_any (HR7.out.refs.keptN HK10.out) HMN7.out (by have := HF7.out.most; omega))
          clear hk10 HAK
          go_wp2_with fail
          refine HA3.out.mono ?_
          rintro e w11 ⟨v11, rfl, ho11, hk11⟩
          have hk711 := HK10.out.more hk11 (fun _ f => f.elim)
          have HO11 : Hid (OwnR w.heap.size w11 v11 (allOf S7)) := Lib.hid (ho11.mono (by have := HKW7.out.size; have := HK10.out.size; omega))
          have HKN : Hid (Kept (fun _ => False) w w11) := Lib.hid (HKW7.out.more hk711 (fun _ f => f.elim))
          have HHN : Hid (Held w.heap.size (fun z => v11.ownBlock = some z) r im j b m true ((k + 1) * 260000 : Nat) ((k + 1) * 17000) S7 w11) := Lib.hid ⟨_, _, _, _, _, _, _, _, _, HR7.out.keptN hk711, HF7.out, by rw [HCW7.out.1]; exact HH.out.cutting, by have := HCW7.out.2; have := HH.out.writes; omega, HZ7.out, HH.out.new.1, HH.out.new.2.1, fun z hz => ⟨(HJ7.out z hz).elim (fun h => (HH.out.new.2.2 z h).1) (fun h => by have := HKR6.out.size; have := HK.out.size; omega), fun e => by
            have h5 := (World.ownsRow.lt ho11 z e).1
            have h6 := HR7.out.jour.lt z hz
            have := HK10.out.size
            omega⟩⟩
          clear ho11 hk11 hk711 HA3
          go_wp2_with fail
          go_roundg (gk - 1)
          case measure => omega
          case rel => exact ⟨k + 1, S7, by omega, by have := H25.out; omega, by go_num, HHN, HO11, HKN⟩
        · subst q1
          subst q3
          rw [q2]
          have H2 := Lib.hid q2
          have HBAD := Lib.hid (And.intro q4 (And.intro q5 (And.intro q6 (And.intro q7 (And.intro q8 q9)))))
          have him9 : ¬ u9.ownBlock = some im := fun e => by
            obtain ⟨cur, hc⟩ := ownsRow_block HO.out e
            have h5 := HH.out.refs.refs.ids.map
            rw [hc] at h5
            cases h5
          have HU : Hid (∀ z, u9.ownBlock = some z → z < wr.heap.size ∧ z ≠ im ∧ ¬ jourF j b m es av pv z ∧ ¬ jourF j b m es7 av7 pv7 z) := Lib.hid (fun z e => by
            have h1 := HVB.out z e
            have h2 : ¬ jourF j b m es av pv z := fun h => (HH.out.new.2.2 z h).2 e
            refine ⟨h1, fun h => him9 (h ▸ e), h2, fun h => (HJ7.out z h).elim h2 (fun h3 => ?_)⟩
            have := HKR6.out.size
            omega)
          have H2LT : Hid (w1.heap.size ≤ r2 ∧ r2 < w6.heap.size ∧ w1.heap.size ≤ im2 ∧ im2 < w6.heap.size) := Lib.hid ⟨HN6.out _ (.inl rfl), (Array.getElem?_eq_some_iff.1 HR6.out.refs.cell).1, HN6.out _ (.inr (.inl rfl)), HR6.out.refs.ids.lt⟩
          have HA1 := Lib.hid (all_any HR7.out.refs HMN.out (by have := HH.out.file.most; omega))
          have hkr7 : Kept (fun z => wr.heap.size ≤ z ∨ z = im ∨ jourF j b m es av pv z) wr w7 := (HKR6.out.mono (fun _ _ e => .inl e)).trans HKF7.out (fun i _ e => .inr e)
          have HKR7 := Lib.hid hkr7
          obtain ⟨a9, c9, h9, -, -⟩ := HO.out.form
          have hI9 : IsR w7 (.slice a9 (allOf S7).length c9) (allOf S7) := by rw [← h9]; exact HO.out.isR.keptS hkr7 (fun _ z e h => by
            obtain ⟨h1, h2, h3, -⟩ := HU.out z e
            rcases h with h | h | h
            · omega
            · exact h2 h
            · exact h3 h)
          have HI9 := Lib.hid hI9
          have H9 := Lib.hid h9
          clear q2 q4 q5 q6 q7 q8 q9 him9 hkr7 hI9 h9
          go_wp2_with fail
          refine HA1.out.mono ?_
          rintro e w8 ⟨v8, rfl, ho8, hk8⟩
          obtain ⟨a8, c8, rfl, -, -⟩ := ho8.form
          have HAK := Lib.hid (alike_any w8 a8 a9 c8 c9 (allOf S7) (allOf S7) ho8.isR (HI9.out.keptN hk8))
          rw [← H9.out] at HAK
          have HK8 := Lib.hid hk8
          clear ho8 hk8 HA1
          go_wp2_with fail
          refine HAK.out.mono ?_
          rintro e w9 ⟨rfl, hk9⟩
          have HK9 : Hid (Kept (fun _ => False) w7 w9) := Lib.hid (HK8.out.more hk9 (fun _ f => f.elim))
          have HME := Lib.hid (mend_any (HR7.out.jour.disk.kept HK9.out (fun _ _ f => f)))
          clear hk9 HAK HK8
          go_wp2_with fail
          refine HME.out.mono ?_
          rintro e w10 ⟨rfl, hd10, hk10⟩
          obtain ⟨o1, o2, o3, o4, o5, o6⟩ := HBAD.out
          obtain ⟨D9, T9, hO9, hp9, hF9, hc9, hw9⟩ := HH.out.file.mended (D1 := D7.mend) hd10.ok rfl o2 o3 o4 o5 o6
          have hop := open_any hd10 (by have := HCW7.out.2; have := HH.out.writes; show D7.writes < _; omega)
          rw [hO9] at hop
          have HOP9 := Lib.hid hop
          have HP9 := Lib.hid hp9
          have HF9 := Lib.hid hF9
          have HD9 : Hid (D9.cut = false ∧ D9.writes ≤ 10000000) := Lib.hid ⟨hc9, by have := HCW7.out.2; have := HH.out.writes; have h5 : D7.mend.writes = D7.writes := rfl; omega⟩
          have HK10 : Hid (Kept (fun z => z = b) w7 w10) := Lib.hid ((HK9.out.mono (fun _ _ f => f.elim)).trans hk10 (fun i _ e => e))
          clear hd10 hk10 o1 o2 o3 o4 o5 o6 hO9 hp9 hF9 hc9 hw9 hop HME
          go_wp2_with fail
          refine HOP9.out.mono ?_
          rintro e w11 ⟨es11, clk11, hA11, -, h0⟩
          obtain ⟨r9, im9, ies9, iclk9, j9, av9, pv9, l9, rfl, hR9, n1, n2, n3, n4, n5⟩ := h0 trivial
          have hs7 := HKF7.out.size
          have hs10 := HK10.out.size
          have hN11 : ∀ z, (z = r9 ∨ z = im9 ∨ jourF j9 b m es11 av9 pv9 z) → jourF j b m es7 av7 pv7 z ∨ w10.heap.size ≤ z := fun z hz => by
            rcases hz with rfl | rfl | h | h | h | h
            · exact .inr n1
            · exact .inr n2
            · exact .inr (h ▸ n3)
            · exact .inr (n4 z h)
            · exact .inr (n5 z h)
            · exact (hA11.foot z h).imp (fun h => .inr (.inr (.inr h))) id
          have HN11 := Lib.hid hN11
          have HR9 := Lib.hid hR9
          have HKD : Hid (Kept (fun z => jourF j b m es7 av7 pv7 z) w7 w11) := Lib.hid ((HK10.out.mono (fun i _ (e : i = b) => e ▸ .inr (.inr (.inr (.inl rfl))))).trans hA11.kept (fun i _ e => .inr (.inr (.inr e))))
          have HJB : Hid (∀ z, jourF j b m es7 av7 pv7 z → jourF j b m es av pv z ∨ w6.heap.size ≤ z) := HJ7
          have HA9 := Lib.hid (all_any hR9.refs (fun p hp => HMN.out p (HP9.out.mem_iff.1 hp)) (by have := HF9.out.most; omega))
          clear hA11 hR9 hN11 h0 n1 n2 n3 n4 n5 HOP9
          go_wp2_with fail
          refine HA9.out.mono ?_
          rintro e w12 ⟨v12, rfl, ho12, hk12⟩
          rw [show allOf T9 = allOf S7 from allOf_perm HF9.out.nodup HP9.out] at ho12
          obtain ⟨a12, c12, rfl, -, -⟩ := ho12.form
          have HKD12 : Hid (Kept (fun z => jourF j b m es7 av7 pv7 z) w7 w12) := Lib.hid (HKD.out.trans hk12 (fun _ _ f => f.elim))
          have hI9b : IsR w12 u9 (allOf S7) := by rw [H9.out]; exact HI9.out.keptS HKD12.out (fun _ z e h => by rw [← H9.out] at e; exact (HU.out z e).2.2.2 h)
          have HO12 := Lib.hid ho12
          have HAK2 := Lib.hid (alike_any w12 a12 a9 c12 c9 (allOf S7) (allOf S7) ho12.isR (by rw [← H9.out]; exact hI9b))
          rw [← H9.out] at HAK2
          have HK12 := Lib.hid hk12
          clear ho12 hk12 hI9b HA9
          go_wp2_with fail
          refine HAK2.out.mono ?_
          rintro e w13 ⟨rfl, hk13⟩
          have HK1213 := Lib.hid hk13
          have HK113 : Hid (Kept (fun _ => False) w11 w13) := Lib.hid (HK12.out.more hk13 (fun _ f => f.elim))
          have HKD13 : Hid (Kept (fun z => jourF j b m es7 av7 pv7 z) w7 w13) := Lib.hid (HKD.out.trans HK113.out (fun _ _ f => f.elim))
          have HKL13 : Hid (IsR w13 (.slice al nl2 cl) L) := Lib.hid (((HIL1.out.keptS HK16.out (fun _ z e h => by have := (HVL.out z e).2; omega)).keptS HKF7.out (fun _ z e h => by
            have h5 := (HVL.out z e).1
            have h6 := HBL.out z (.inr h)
            omega)).keptS HKD13.out (fun _ z e h => by
            have h5 := HVL.out z e
            have h8 := HK16.out.size
            rcases HJ7.out z h with h7 | h7
            · have h6 := HBL.out z (.inr (.inr h7)); omega
            · omega))
          have HSA := Lib.hid (set_ok (HR9.out.keptN HK113.out) HF9.out al cl nl2 L HKL13.out (by have := HLL.out; omega) HIDL.out (by have := HH.out.size; omega) (by have := HD9.out.2; omega))
          clear hk13 HAK2
          go_wp2_with fail
          refine HSA.out.mono ?_
          rintro e w14 ⟨rfl, hs14, ies14, iclk14, es14, clk14, av14, pv14, l14, hR14, hj14, hk14⟩
          have hlv := hs14.leave.resolve_right (fun h => by have h2 := h.1; rw [HD9.out.1] at h2; cases h2)
          obtain ⟨q1, q2, q3, -, -⟩ := hlv
          obtain ⟨hse, hsc⟩ := setErr_perm (l := L) HF9.out.nodup HP9.out
          have hp14 : (setR D9 J T9 L).2.2.2.Perm (afterS S7 L) := by rw [q2]; exact afterS_perm HF9.out.nodup HP9.out
          have hall : allOf (setR D9 J T9 L).2.2.2 = allOf (setR ⟨fs2, 0, 0, false⟩ J T L).2.2.2 := allOf_perm q3.nodup (hp14.trans HPF.out.symm)
          have HALL := Lib.hid hall
          have HF14 := Lib.hid q3
          rw [q1, hse, H2.out]
          have HR14 := Lib.hid hR14.refs
          have hs10 := HK10.out.size
          have hs7 := HKF7.out.size
          have hs1 := HKR1.out.size
          have nj : ∀ z, w1.heap.size ≤ z → z < w6.heap.size → ¬ jourF j b m es7 av7 pv7 z := fun z h1 h2 h3 => by
            rcases HJ7.out z h3 with h4 | h4
            · have := HBL.out z (.inr (.inr h4)); omega
            · omega
          have n9 : ∀ z, w1.heap.size ≤ z → z < w6.heap.size → ¬ (z = im9 ∨ jourF j9 b m es11 av9 pv9 z) := fun z h1 h2 h3 => by
            rcases HN11.out z (.inr h3) with h4 | h4
            · exact nj z h1 h2 h4
            · omega
          have HT14 : Hid (RefsI w14 r2 im2 ies6 iclk6 (.pointer (some ⟨j2, 0, none⟩)) l6 (setR ⟨fs2, 0, 0, false⟩ J T L).2.2.2) := Lib.hid ((HR27.out.kept HKD13.out (nj r2 H2LT.out.1 H2LT.out.2.1) (nj im2 H2LT.out.2.2.1 H2LT.out.2.2.2)).kept hk14 (n9 r2 H2LT.out.1 H2LT.out.2.1) (n9 im2 H2LT.out.2.2.1 H2LT.out.2.2.2))
          have HI14 : Hid (IsR w14 (.slice a12 (allOf S7).length c12) (allOf S7)) := Lib.hid ((HO12.out.isR.keptN HK1213.out).keptS hk14 (fun _ z e h => by
            have h1 := (World.ownsRow.lt HO12.out z e).1
            rcases h with h | h
            · have := HR9.out.refs.ids.lt; omega
            · have := HR9.out.jour.lt z h; omega))
          have hj7n : ∀ z, jourF j b m es7 av7 pv7 z → w.heap.size ≤ z := fun z hz => by
            rcases HJ7.out z hz with h4 | h4
            · exact (HH.out.new.2.2 z h4).1
            · have := HKR6.out.size; have := HK.out.size; omega
          have HKW14 : Hid (Kept (fun _ => False) w w14) := Lib.hid ((HKW7.out.more HKD13.out hj7n).more hk14 (fun i e => by
            rcases HN11.out i (.inr e) with h4 | h4
            · exact hj7n i h4
            · have := HKW7.out.size; omega))
          have hT6 : ∀ p ∈ (setR ⟨fs2, 0, 0, false⟩ J T L).2.2.2, p.1.size ≤ 1000 := fun p hp => by have := path_size (HF6.out.names p hp).1; omega
          have HT6 := Lib.hid hT6
          have HAT := Lib.hid (all_any HT14.out hT6 (by have := HF6.out.most; omega))
          clear hs14 hR14 hj14 hk14 q1 q2 q3 hse hsc hp14 hall hs10 hs7 hs1 nj n9 hT6 hj7n HSA
          go_wp2_with fail
          refine HAT.out.mono ?_
          rintro e w15 ⟨v15, rfl, ho15, hk15⟩
          obtain ⟨a15, c15, rfl, -, -⟩ := ho15.form
          have HAK3 := Lib.hid (alike_any w15 a12 a15 c12 c15 _ _ (HI14.out.keptN hk15) ho15.isR)
          have HK15b := Lib.hid hk15
          clear ho15 hk15 HAT
          go_wp2_with fail
          refine HAK3.out.mono ?_
          rintro e w16 ⟨rfl, hk16⟩
          have HK1416 : Hid (Kept (fun _ => False) w14 w16) := Lib.hid (HK15b.out.more hk16 (fun _ f => f.elim))
          clear hk16 HAK3
          by_cases hB : allOf S7 = allOf (setR ⟨fs2, 0, 0, false⟩ J T L).2.2.2
          · rw [decide_eq_true hB]
            clear hB
            go_wp2_with fail
            refine (wakes08_any w16).mono ?_
            rintro e w17 ⟨rfl, hk17⟩
            go_wp2_with fail
            go_ret
            exact ⟨rfl, HKW14.out.more (HK1416.out.more hk17 (fun _ f => f.elim)) (fun _ f => f.elim)⟩
          · rw [decide_eq_false hB]
            have HM14 : Hid (∀ p ∈ (setR D9 J T9 L).2.2.2, p.1.size ≤ 1000) := Lib.hid (fun p hp => by have := path_size (HF14.out.names p hp).1; omega)
            have HAA := Lib.hid (all_any (HR14.out.keptN HK1416.out) HM14.out (by have := HF14.out.most; omega))
            clear hB
            go_wp2_with fail
            refine HAA.out.mono ?_
            rintro e w17 ⟨v17, rfl, ho17, hk17⟩
            rw [HALL.out] at ho17
            obtain ⟨a17, c17, rfl, -, -⟩ := ho17.form
            have HAB := Lib.hid (all_any ((HT14.out.keptN HK1416.out).keptN hk17) HT6.out (by have := HF6.out.most; omega))
            have HO17 := Lib.hid ho17.isR
            have HK17 := Lib.hid hk17
            clear ho17 hk17 HAA
            go_wp2_with fail
            refine HAB.out.mono ?_
            rintro e w18 ⟨v18, rfl, ho18, hk18⟩
            obtain ⟨a18, c18, rfl, -, -⟩ := ho18.form
            have HAC := Lib.hid (alike_any w18 a17 a18 c17 c18 _ _ (HO17.out.keptN hk18) ho18.isR)
            have HK18 : Hid (Kept (fun _ => False) w16 w18) := Lib.hid (HK17.out.more hk18 (fun _ f => f.elim))
            clear ho18 hk18 HAB
            go_wp2_with fail
            refine HAC.out.mono ?_
            rintro e w19 ⟨rfl, hk19⟩
            have HK19 : Hid (Kept (fun _ => False) w16 w19) := Lib.hid (HK18.out.more hk19 (fun _ f => f.elim))
            clear hk19 HAC
            go_wp2_with fail
            refine (wakes08_any w19).mono ?_
            rintro e w20 ⟨rfl, hk20⟩
            go_wp2_with fail
            go_ret
            exact ⟨rfl, HKW14.out.more ((HK1416.out.more HK19.out (fun _ f => f.elim)).more hk20 (fun _ f => f.elim)) (fun _ f => f.elim)⟩
end Go.Proofs.YtjnhkepgoghogaaDoor
