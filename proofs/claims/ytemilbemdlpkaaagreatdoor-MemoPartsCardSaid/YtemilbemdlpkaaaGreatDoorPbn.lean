/- memo: write. -/
import Derived.Test.YtemilbemdlpkaaaGreatDoorPbm
namespace Go.Proofs.YtemilbemdlpkaaaGreatDoor
open Go.RowKit Go.ChangeMaps Go.MapKept
set_option linter.unusedSimpArgs false

theorem JM.put_disk (J : JM) (D : DM) (p : List UInt8) : (J.put D p).2.1 = (D.append J.file (recB p)).2 := by unfold JM.put; split <;> rfl
theorem layM_known (D : DM) (J : JM) (M : MP) (b : List UInt8) (os : List RunP) : (layM D J M b os).2.2.2.known = M.known ∧ (layM D J M b os).2.2.2.file = M.file := by
  unfold layM
  split
  · exact ⟨rfl, rfl⟩
  · split <;> exact ⟨rfl, rfl⟩
theorem layM_writes (D : DM) (J : JM) (M : MP) (b : List UInt8) (os : List RunP) (h : (recB (recordB ((M.last + 1) :: os.map (·.n)))).length ≤ 1000) : (layM D J M b os).2.1.writes ≤ D.writes + b.length + 2000 := by
  have h1 := DM.append_writes D (runN M.file (M.last + 1)) b
  unfold layM
  split
  · simp only; omega
  · have h2 := DM.append_writes (D.append (runN M.file (M.last + 1)) b).2 J.file (recB (recordB ((M.last + 1) :: os.map (·.n))))
    split
    · simp only [JM.put_disk]; omega
    · simp only [JM.put_disk]; omega
theorem recordB_eq (ns : List Nat) : recordB ns = recordB2 ns.length ns := rfl


theorem allP_len18 (bss : List (List UInt8)) : (allP bss).length ≤ bss.length * 65536 := by
  induction bss with
  | nil => simp [allP]
  | cons b bss ih =>
    have := pairsOf_len18 b
    simp only [allP, List.flatMap_cons, List.length_append, List.length_cons] at ih ⊢
    omega
set_option maxRecDepth 100000 in
set_option maxHeartbeats 2000000 in
theorem write_any {w : World} {a : MAd} {D : DM} {J : JM} {M : MP} (h : MemR w a D J M) (hcut : J.cut = false) (B : Nat) (hT : TabB B w) (hBF : ∀ k, a.F k → B ≤ k) (hBw : B ≤ w.heap.size)
    (fa : Option Addr) (fc : Nat) (fr : List (Nat × Nat)) (hf : IsP w (.slice fa fr.length fc) fr) (hfs : ∀ g, (Value.slice fa fr.length fc).ownBlock = some g → ¬ a.F g) (hfl : fr.length + M.known.length ≤ 65536) (hfr : ∀ p ∈ fr, getA p.1 M.known = none)
    (hl : M.last + 1 ≤ 4294967296) (hJ : J.all.length ≤ 4000000 ∧ J.size ≤ 4000000 ∧ J.recs.length ≤ 4000000) (hw : D.writes < 100000000000000) :
    Calls Tryz.prog 48 #[.pointer (some ⟨a.p, 0, none⟩), .slice fa fr.length fc] w fun e w' => e = .returned (.int .i64 (writeM D J M fr).1) ∧ WrEnd w a (writeM D J M fr) w' := by
  obtain ⟨c0, c1, c2, c3, c4, c5, c6, cz⟩ := h.mem.fields
  obtain ⟨ta, tc, htv, htl, htm⟩ := h.mem.tvForm
  rw [htv] at c4
  have hpl := h.mem.small.1
  have HMK := Lib.hid (makeP_any w fa fc fr hf (by omega))
  have HMN := Lib.hid (makeOf_nodup (l := fr))
  have HMB := Lib.hid (makeOf_bound fr)
  obtain ⟨O, hO⟩ : ∃ O, writeM D J M fr = O := ⟨_, rfl⟩
  rw [hO]
  have HO := Lib.hid hO.symm
  unfold writeM at HO
  have hpsl : M.parts.length = a.ps.length := by rw [h.mem.runs, List.length_map]
  rw [hpsl] at HO
  obtain ⟨⟨mb, me⟩, hq⟩ : ∃ q, makeOf fr = q := ⟨_, rfl⟩
  rw [hq] at HMK HMN HO HMB
  simp only at HMK HMN HO HMB
  have HH := Lib.hid (And.intro h (And.intro hT (And.intro hf (And.intro hfs (And.intro hfr (And.intro hBF (And.intro hBw hcut)))))))
  obtain ⟨n, hn⟩ : ∃ n, fr.length = n := ⟨_, rfl⟩
  rw [hn] at HMK hfl HH ⊢
  have HN := Lib.hid hn
  obtain ⟨pl, hpl2⟩ : ∃ n, a.ps.length = n := ⟨_, rfl⟩
  rw [hpl2] at HO htv htl c4 hpl
  have HPL := Lib.hid hpl2
  have HTV := Lib.hid htv
  clear h hT hf hfs hfr hBF hBw hO hq hn hpl2 htv hpsl c0 c1 c2 c5 c6 cz htl htm hcut
  go_enter Tryz.func48, Tryz.ntmps48
  go_wp2_with fail
  refine HMK.out.mono ?_
  rintro e w1 ⟨bv, rfl, hf1⟩
  have hx1 := hf1.kept.cell c3 (fun f => f)
  have hx2 := hf1.kept.cell c4 (fun f => f)
  by_cases hme : me = 0
  · have hmeb : (me != 0) = false := by simp [hme]
    obtain ⟨ba, bc, hbv, -, -⟩ := hf1.own.form
    obtain ⟨bl, hbl⟩ : ∃ n, mb.length = n := ⟨_, rfl⟩
    rw [hbl] at hbv
    subst hbv
    have HBL := Lib.hid hbl
    have HF1 := Lib.hid hf1
    have HND := Lib.hid (HMN.out hme)
    by_cases h4 : pl = 4
    · have h4b : ((pl : Int) == 4) = true := by simp [h4]
      have H4 := Lib.hid h4
      have HME := Lib.hid hme
      clear h4 hme
      go_wp2_with fail
      go_quiet (fail)
      rename_i nq
      obtain ⟨W5, hW5⟩ : ∃ W, w1.drewN nq = W := ⟨_, rfl⟩
      rw [hW5]
      have hk5 : Kept (fun _ => False) w1 W5 := by rw [← hW5]; exact (Kept.refl _ _).drewN _
      have HF5 : Hid (FreshB w (.slice ba bl bc) mb W5) := Lib.hid ⟨OwnB.kept hf1.own (fun g e => hk5.block g (hf1.own.lt g e) (fun f => f)), hf1.kept.more hk5 (fun _ f => f.elim), hf1.new⟩
      have hx3 := hk5.cell hx2 (fun f => f)
      clear hW5 hx2 hk5
      obtain ⟨W6, hW6⟩ : ∃ X, W5.alloc (.cells #[.slice ba bl bc] 25) = X := ⟨_, rfl⟩
      have hk6 : Kept (fun _ => False) W5 W6 := by rw [← hW6]; exact (Kept.refl _ _).alloc _
      have hone : OwnR W5.heap.size W6 (.slice (some ⟨W5.heap.size, 0, none⟩) 1 1) [mb] := by rw [← hW6]; exact OwnR.one W5 _ mb _ (Nat.le_refl _) HF5.out.own.isB (HF5.out.bk _)
      have hx4 := hk6.cell hx3 (fun f => f)
      have HK6 : Hid (Kept (fun _ => False) w W6) := Lib.hid (HF5.out.kept.more hk6 (fun _ f => f.elim))
      have HS6 : Hid (W5.heap.size < W6.heap.size) := Lib.hid (by rw [← hW6]; simp)
      have HONE := Lib.hid hone
      have HB6 := Lib.hid (HF5.out.own.isB.keptF hk6 (fun _ _ f => f))
      clear hone hk6
      go_wp2_with fail
      clear hW6
      go_loopg [9, 47] pl (fun g rv iv wr => ∃ (k : Nat) (ra : Option Addr) (rl rc : Nat), k + g = pl ∧ iv = .int .i64 k ∧ rv = .slice ra rl rc ∧ Hid (rl = k + 1) ∧ Hid (OwnR W5.heap.size wr (.slice ra rl rc) (mb :: (a.ps.map (·.bs)).take k)) ∧ Hid (Kept (fun k => W5.heap.size ≤ k) W6 wr))
      case atStart => exact ⟨0, _, 1, 1, by omega, rfl, rfl, Lib.hid rfl, HONE, Lib.hid (Kept.refl _ _)⟩
      case round =>
        obtain ⟨k, ra, rl, rc, hkg, rfl, rfl, HRL, HRO, HKR6⟩ := hrel
        have hk5w : W5.heap.size ≤ W6.heap.size := Nat.le_of_lt HS6.out
        have hwr : Kept (fun _ => False) w wr := HK6.out.more HKR6.out (fun i e => Nat.le_trans (Nat.le_trans HF5.out.kept.size (Nat.le_refl _)) e)
        rcases Nat.eq_zero_or_pos gk with rfl | hpos
        · obtain rfl : pl = k := by omega
          have hro := HRO.out
          rw [List.take_of_length_le (by rw [List.length_map, HPL.out]; exact Nat.le_refl _)] at hro
          have hMG := merge_any wr (.slice ra rl rc) _ hro.rows (fun bs hbs => by
            rcases List.mem_cons.1 hbs with rfl | hbs
            · have := HMB.out; omega
            · obtain ⟨y, hy, rfl⟩ := List.mem_map.1 hbs
              have := (HH.out.1.mem.small.2.1 y hy).2
              omega) (by
            have := allP_len18 (mb :: a.ps.map (·.bs))
            simp only [List.length_cons, List.length_map, HPL.out] at this
            omega)
          have HMG := Lib.hid hMG
          have HMB2 := Lib.hid (mergeOf_bound (mb :: a.ps.map (·.bs)))
          have hMP : M.parts.map (·.bs) = a.ps.map (·.bs) := by rw [HH.out.1.mem.runs, List.map_map]; rfl
          have hMQ : M.parts.map (·.n) = a.ps.map (·.n) := by rw [HH.out.1.mem.runs, List.map_map]; rfl
          have HO4 := HO.out
          rw [if_neg (by simp [HME.out]), if_pos H4.out, hMP, hMQ] at HO4
          obtain ⟨⟨gb, ge⟩, hq4⟩ : ∃ q, mergeOf (mb :: a.ps.map (·.bs)) = q := ⟨_, rfl⟩
          rw [hq4] at HMG HMB2 HO4
          simp only at HMG HMB2 HO4
          have HO5 := Lib.hid HO4
          have HWR := Lib.hid hwr
          clear hro hMG hMP hMQ HO4 HO hq4 hwr HMK HMN
          go_wp2_with fail
          refine HMG.out.mono ?_
          rintro e w7 ⟨rv, rfl, hf7⟩
          by_cases hge : ge = 0
          · have hgeb : (ge != 0) = false := by simp [hge]
            have HR0 : Hid (O = doneM fr (a.ps.map (·.n)) (layM D J M gb (([] : List PtM).map PtM.run))) := Lib.hid (by rw [HO5.out, if_neg (by simp [hge])]; rfl)
            obtain ⟨ga, gc, hgv, -, -⟩ := hf7.own.form
            obtain ⟨gl, hgl⟩ : ∃ n, gb.length = n := ⟨_, rfl⟩
            rw [hgl] at hgv
            subst hgv
            have HGBL := Lib.hid hgl
            have HF7 := Lib.hid (hf7.behind HWR.out)
            have HKR : Hid (w.ownsRow 0 109 2 (.slice none 0 0) ([] : List PtM).length (partsV []) ∧ (∀ x ∈ ([] : List PtM), OwnB w x.v x.bs ∧ (∀ g, x.v.ownBlock = some g → ¬ a.F g) ∧ x.n ≤ 4294967296 ∧ x.bs.length ≤ 4194304) ∧ ([] : List PtM).length ≤ 3 ∧ (∀ g, (Value.slice none 0 0).ownBlock = some g → ¬ a.F g)) := Lib.hid ⟨World.ownsRow_nil _ _ _ _, fun x hx => by simp at hx, by simp, fun g e => by cases e⟩
            have HGB : Hid (∀ y ∈ a.ps, y.n ≤ 4294967296) := Lib.hid (fun y hy => (HH.out.1.mem.small.2.1 y hy).1)
            have HGQ : Hid (pl ≤ 4) := Lib.hid hpl
            clear hge hf7 hgl HO5 HMG HWR HONE HB6 HRO HKR6 HF5 hx3 hx4
            have hk1 : Kept (fun _ => False) w w7 := HF7.out.kept
            have h1 := HH.out.1.keptN hk1
            have HLAY := Lib.hid (lay_any h1 HH.out.2.2.2.2.2.2.2 B (HH.out.2.1.keptN hk1) ga gc gb (by rw [HGBL.out]; exact HF7.out.own) (fun g e hF => by rw [HGBL.out] at e; have h3 := HF7.out.new g e; have h4 := HH.out.1.lt.1 g hF; omega) (by have := HMB2.out; omega) (.slice none 0 0) ([] : List PtM)
              (rowKept18 HKR.out.1 hk1 (fun _ _ f => f)) (fun x hx => ⟨OwnB.kept (HKR.out.2.1 x hx).1 (fun g e => hk1.block g ((HKR.out.2.1 x hx).1.lt g e) (fun f => f)), (HKR.out.2.1 x hx).2⟩) HKR.out.2.2.1 HKR.out.2.2.2 hl hJ (by omega))
            have HLW := Lib.hid (layM_writes D J M gb (([] : List PtM).map PtM.run) (by
              have h5 := recordB2_len ((M.last + 1) :: (([] : List PtM).map PtM.run).map (·.n)).length ((M.last + 1) :: (([] : List PtM).map PtM.run).map (·.n)) (by have h8 := HKR.out.2.2.1; simp only [List.length_cons, List.length_map]; omega) (fun x hx => by
                rcases List.mem_cons.1 hx with rfl | hx
                · exact hl
                · obtain ⟨y, hy, rfl⟩ := List.mem_map.1 hx
                  obtain ⟨z, hz, rfl⟩ := List.mem_map.1 hy
                  exact (HKR.out.2.1 z hz).2.2.1)
              rw [← recordB_eq] at h5
              have h8 := HKR.out.2.2.1
              have h7 : ((M.last + 1) :: (([] : List PtM).map PtM.run).map (·.n)).length = ([] : List PtM).length + 1 := by simp only [List.length_cons, List.length_map]
              rw [h7] at h5
              have h6 := recB_length (recordB ((M.last + 1) :: (([] : List PtM).map PtM.run).map (·.n))) (by omega)
              omega))
            have HLK := Lib.hid (layM_known D J M gb (([] : List PtM).map PtM.run))
            obtain ⟨⟨e1, D1, J1, M1⟩, hq1⟩ : ∃ q, layM D J M gb (([] : List PtM).map PtM.run) = q := ⟨_, rfl⟩
            rw [HGBL.out, hq1] at HLAY
            rw [hq1] at HR0 HLW HLK
            simp only at HLAY HLW HLK
            clear hq1 h1
            go_wp2_with fail
            refine HLAY.out.mono ?_
            rintro e w2 ⟨rfl, hE⟩
            obtain ⟨a1, r1, p1, p2, p3, p4, p5, p6, p7, r2, r3, r4⟩ := hE.after (a := a) ⟨rfl, rfl, rfl, rfl, rfl, rfl, rfl, rfl, rfl⟩ (fun _ e => .inl e) (hk1.mono (fun _ _ f => f.elim))
            simp only at r1 r4
            have HR1 := Lib.hid (And.intro r1 (And.intro (And.intro p1 (And.intro p2 (And.intro p3 (And.intro p4 p5)))) (And.intro r2 (And.intro r3 r4))))
            clear r1 p1 p2 p3 p4 p5 p6 p7 r2 r3 r4 hk1 hE
            by_cases he1 : e1 = 0
            · have he1b : (e1 != 0) = false := by simp [he1]
              have HR2 : Hid (O = ((removeM D1 M.file (upL (a.ps.map (·.n)))).1, (removeM D1 M.file (upL (a.ps.map (·.n)))).2, J1, { M1 with known := M.known ++ fr })) := Lib.hid (by
                rw [HR0.out, doneM, if_neg (by simp [he1])]
                simp only [HLK.out.1, HLK.out.2])
              have HW1 : Hid (D1.writes < 1000000000000000) := Lib.hid (by have := HLW.out; have := HMB2.out; omega)
              have HE0 := Lib.hid he1
              clear he1 HLAY HLW
              go_wp2_with fail
              go_loopg [74] n (fun g iv wr => ∃ (k : Nat) (kes' : Array MapEntry) (kclk' : Nat), k + g = n ∧ iv = .int .i64 k ∧ Hid (MemR wr { a1 with kes := kes', kclk := kclk' } D1 J1 { M1 with known := M.known ++ fr.take k }) ∧ Hid (Kept (fun i => i = a1.km) w2 wr))
              case atStart => exact ⟨0, a1.kes, a1.kclk, by omega, rfl, Lib.hid (by rw [List.take_zero, List.append_nil, ← HLK.out.1]; exact HR1.out.1), Lib.hid (Kept.refl _ _)⟩
              case round =>
                obtain ⟨k, kes', kclk', hkg, rfl, HMR, HKW⟩ := hrel
                rcases Nat.eq_zero_or_pos gk with rfl | hpos
                · obtain rfl : k = n := by omega
                  obtain ⟨r1, ⟨p1, p2, p3, p4, p5⟩, r2, r3, r4⟩ := HR1.out
                  have hRr := HMR.out
                  rw [List.take_of_length_le (by rw [HN.out]; exact Nat.le_refl _)] at hRr
                  have hKr : Kept a.F w wr := r3.trans HKW.out (fun i _ (e : i = a1.km) => .inr (.inl (by rw [e, p2])))
                  have HRr := Lib.hid (And.intro hRr hKr)
                  clear hRr hKr r1 p1 p2 p3 p4 p5 r2 r3 r4 HMR
                  obtain ⟨wo, hwo⟩ : ∃ wo, wo = wr := ⟨_, rfl⟩
                  rw [← hwo] at HRr HKW ⊢
                  clear hwo wr
                  go_wp2_with fail
                  go_loopg [15, 89] pl (fun g nv iv wr => ∃ (k2 : Nat) (na : Option Addr) (nc : Nat), k2 + g = pl ∧ iv = .int .i64 k2 ∧ nv = .slice na k2 nc ∧ Hid (OwnZ wo.heap.size wr (.slice na k2 nc) ((a.ps.map (·.n)).take k2)) ∧ Hid (Kept (fun _ => False) wo wr))
                  case atStart => exact ⟨0, none, 0, by omega, rfl, rfl, Lib.hid (OwnZ.nil _ _), Lib.hid (Kept.refl _ _)⟩
                  case round =>
                    obtain ⟨k2, na, nc, hkg2, rfl, rfl, HZ, HKZ⟩ := hrel
                    rcases Nat.eq_zero_or_pos gk with rfl | hpos2
                    · obtain rfl : pl = k2 := by omega
                      have hz := HZ.out
                      rw [List.take_of_length_le (by rw [List.length_map, HPL.out]; exact Nat.le_refl _)] at hz
                      obtain ⟨r1, ⟨p1, p2, p3, p4, p5⟩, r2, r3, r4⟩ := HR1.out
                      have hR2 := HRr.out.1.keptN HKZ.out
                      have hF2 : ∀ i, MAd.F { a1 with kes := kes', kclk := kclk' } i → a.F i ∨ w.heap.size ≤ i := fun i hi => r2 i hi
                      have hKw2 : Kept a.F w wr := HRr.out.2.trans HKZ.out (fun _ _ f => f.elim)
                      have hRM := mremove_any (es := a1.es) (b := a1.b) (m := a1.m) (D := D1) (file := M.file) B wo.heap.size (.slice na pl nc) (a.ps.map (·.n)) (p := a1.p) (w := wr) (by have := hR2.file; rw [HLK.out.2] at this; exact this) hR2.jour.disk (fun hd => hR2.apart.1 (.inr (.inr (.inr hd)))) hz
                        (fun x hx => by obtain ⟨y, hy, rfl⟩ := List.mem_map.1 hx; have := HGB.out y hy; omega) (by rw [List.length_map, HPL.out]; have := HH.out.1.mem.small.1; have := HGQ.out; omega)
                        (fun g e => by
                          have h1 := (hz.base e).1
                          have h2 := HRr.out.1.lt.1
                          exact ⟨fun hd => by have := h2 g (.inr (.inr (.inr (.inr (.inr hd))))); omega, fun e2 => by have := h2 g (.inl e2); omega⟩)
                        (HH.out.2.1.kept hKw2 HH.out.2.2.2.2.2.1) (fun i hi => by
                          rcases hF2 i (.inr (.inr (.inr (.inr (.inr hi))))) with h1 | h1
                          · exact HH.out.2.2.2.2.2.1 i h1
                          · have := HH.out.2.2.2.2.2.2.1; omega) (fun g e => by have h1 := (hz.base e).1; have := hKw2.size; have := HKZ.out.size; have := HRr.out.2.size; have := HH.out.2.2.2.2.2.2.1; omega)
                        (by have := hKw2.size; have := HH.out.2.2.2.2.2.2.1; omega) (by have := HH.out.1.mem.small.2.2.2.1; omega) HW1.out
                      rw [p1] at hRM
                      have HRM := Lib.hid hRM
                      have HS2 := Lib.hid (And.intro hR2 (And.intro hF2 (And.intro hKw2 hz)))
                      clear hR2 hF2 hKw2 hRM hz r1 p1 p2 p3 p4 p5 r2 r3 r4
                      go_wp2_with fail
                      refine HRM.out.mono ?_
                      rintro e w5 ⟨rfl, es5, clk5, hd5, hf5, hk5⟩
                      go_wp2
                      go_ret
                      rw [HR2.out]
                      obtain ⟨hR2, hF2, hKw2, hz⟩ := HS2.out
                      obtain ⟨r1, ⟨p1, p2, p3, p4, p5⟩, r2, r3, r4⟩ := HR1.out
                      have hzb : ∀ g, (Value.slice na pl nc).ownBlock = some g → wo.heap.size ≤ g := fun g e => (hz.base e).1
                      have hlt2 := HRr.out.1.lt
                      have hout : ∀ i, MAd.F { a1 with kes := kes', kclk := kclk' } i ∨ MAd.P { a1 with kes := kes', kclk := kclk' } i → ¬ (Value.slice na pl nc).ownBlock = some i := fun i hi e => by
                        have h1 := hzb i e
                        rcases hi with hi | hi
                        · have := hlt2.1 i hi; omega
                        · have := hlt2.2 i hi; omega
                      obtain ⟨q1, q2, q3⟩ := hR2.jour.apart
                      have hap := hR2.apart
                      have hj5 : JAt w5 a1.j a1.b a1.m es5 clk5 a1.av a1.pv (removeM D1 M.file (upL (a.ps.map (·.n)))).2 J1 := by
                        refine ⟨hd5, (hk5.block a1.j (Array.getElem?_eq_some_iff.1 hR2.jour.cell).1 ?_).trans hR2.jour.cell, rowKept hR2.jour.all hk5 (fun g _ e hf => ?_), rowKept hR2.jour.parts hk5 (fun g _ e hf => ?_), fun g e hg => ?_, hR2.jour.small⟩
                        · rintro (e | e)
                          · exact q3 e
                          · exact hout a1.j (.inl (.inr (.inr (.inl rfl)))) e
                        · rcases hf with hf | hf
                          · exact hR2.jour.sep g e hf
                          · exact hout g (.inl (.inr (.inr (.inr (.inl e))))) hf
                        · rcases hf with hf | hf
                          · exact (q2 g e).2.2 hf
                          · exact hout g (.inl (.inr (.inr (.inr (.inr (.inl e)))))) hf
                        · rcases hf5 g hg with h1 | h1
                          · exact hR2.jour.sep g e h1
                          · have := hR2.jour.lt g (.inr (.inl e)); omega
                      have hkF : Kept (fun i => MAd.F { a1 with kes := kes', kclk := kclk' } i ∨ (Value.slice na pl nc).ownBlock = some i) wr w5 := hk5.mono (fun i _ e => e.imp (fun h => .inr (.inr (.inr (.inr (.inr h))))) id)
                      have hR5 : MemR w5 { a1 with kes := kes', kclk := kclk', es := es5, clock := clk5 } (removeM D1 M.file (upL (a.ps.map (·.n)))).2 J1 { M1 with known := M.known ++ fr } := by
                        refine ⟨hj5, hR2.mem.kept hk5 ?_ ?_ ?_, hR2.kmm, fun x hx g e hF => ?_⟩
                        · rintro (e | e)
                          · exact hap.1 (.inr (.inr (.inr e)))
                          · exact hout _ (.inl (.inl rfl)) e
                        · rintro (e | e)
                          · exact hap.2.1 (.inr (.inr (.inr e)))
                          · exact hout _ (.inl (.inr (.inl rfl))) e
                        · rintro i hi (e | e)
                          · exact hap.2.2.1 i hi (.inr (.inr (.inr (.inr (.inr e)))))
                          · exact hout i (.inr hi) e
                        · have hg2 := hR2.lt.2 g (.inr ⟨x, hx, e⟩)
                          rcases hF with e2 | e2 | e2 | e2
                          · exact hR2.out x hx g e (.inl e2)
                          · exact hR2.out x hx g e (.inr (.inl e2))
                          · exact hR2.out x hx g e (.inr (.inr (.inl e2)))
                          · rcases hf5 g e2 with h1 | h1
                            · exact hR2.out x hx g e (.inr (.inr (.inr h1)))
                            · omega
                      refine ⟨rfl, _, hR5, p1, p2, p3, p4, p5, ?_, ?_, ?_⟩
                      · rintro i (e | e | e | e | e | e)
                        · exact hF2 i (.inl e)
                        · exact hF2 i (.inr (.inl e))
                        · exact hF2 i (.inr (.inr (.inl e)))
                        · exact hF2 i (.inr (.inr (.inr (.inl e))))
                        · exact hF2 i (.inr (.inr (.inr (.inr (.inl e)))))
                        · rcases hf5 i e with h1 | h1
                          · exact hF2 i (.inr (.inr (.inr (.inr (.inr h1)))))
                          · exact .inr (Nat.le_trans hKw2.size h1)
                      · rcases r4 with ⟨q0, -⟩ | ⟨-, q1, q2⟩
                        · exact absurd HE0.out q0
                        · rintro i (e | ⟨x, hx, e⟩)
                          · exact .inr (q1 i e)
                          · simp only [q2] at hx
                            rcases List.mem_cons.1 hx with rfl | hx
                            · exact .inr (HF7.out.new i e)
                            · exact (by simp at hx)
                      · exact hKw2.trans hk5 (fun i hi e => by
                          rcases e with e | e
                          · rcases hF2 i (.inr (.inr (.inr (.inr (.inr e))))) with h1 | h1
                            · exact h1
                            · omega
                          · have := hzb i e; have := HRr.out.2.size; omega)
                    · skip
                      have hlt2 : k2 < pl := by omega
                      have hkl : k2 < a.ps.length := by rw [HPL.out]; exact hlt2
                      have hkw2 : Kept a.F w wr := HRr.out.2.trans HKZ.out (fun _ _ f => f.elim)
                      have hrow : wr.ownsRow 0 109 2 (.slice ta pl tc) a.ps.length (partsV a.ps) := rowKept18 (by rw [← HTV.out]; exact HH.out.1.mem.row) hkw2 (fun g e => HH.out.1.apart.2.2.1 g (.inl (by rw [HTV.out]; exact e)))
                      obtain ⟨g2, rfl, hg2, -, e0, e1⟩ := parts_at hrow hkl
                      obtain ⟨xa, xc, hxv, -, -⟩ := (HH.out.1.mem.bytes a.ps[k2] (List.getElem_mem hkl)).form
                      have hT : (a.ps.map (·.n)).take (k2 + 1) = (a.ps.map (·.n)).take k2 ++ [a.ps[k2].n] := by
                        rw [List.take_succ_eq_append_getElem (by rw [List.length_map]; exact hkl), List.getElem_map]
                      obtain ⟨xl, hxl⟩ : ∃ n, a.ps[k2].bs.length = n := ⟨_, rfl⟩
                      rw [hxv, hxl] at e1
                      obtain ⟨x, hx⟩ : ∃ x, a.ps[k2].n = x := ⟨_, rfl⟩
                      rw [hx] at e0 hT
                      have HTK := Lib.hid hT
                      obtain ⟨WA, hWA⟩ : ∃ X, wr.alloc (.cells #[.int .i64 (x : Int), .slice xa xl xc] 109) = X := ⟨_, rfl⟩
                      have hkA : Kept (fun _ => False) wr WA := by rw [← hWA]; exact (Kept.refl _ _).alloc _
                      have hA0 : WA.cell? ⟨wr.heap.size, 0, none⟩ = some (.int .i64 (x : Int)) := by rw [← hWA, World.cell?_alloc_new]; rfl
                      obtain ⟨WB, hWB⟩ : ∃ X, WA.alloc (.cells #[.int .i64 (x : Int)] 3) = X := ⟨_, rfl⟩
                      have hkB : Kept (fun _ => False) WA WB := by rw [← hWB]; exact (Kept.refl _ _).alloc _
                      have hB0 : WB.cell? ⟨WA.heap.size, 0, none⟩ = some (.int .i64 (x : Int)) := by rw [← hWB, World.cell?_alloc_new]; rfl
                      have htl : ((a.ps.map (·.n)).take k2).length = k2 := by rw [List.length_take, List.length_map]; omega
                      obtain ⟨v', w', hrun, ho', hg', -⟩ := ((HZ.out.kept hkA (fun _ _ _ f => f)).kept hkB (fun _ _ _ f => f)).push (by have := HKZ.out.size; have := hkA.size; have := hkB.size; omega) ⟨WA.heap.size, 0, none⟩ x hB0 (by rw [htl]; omega)
                      have hvb : ∀ g, (Value.slice na k2 nc).ownBlock = some g → wo.heap.size ≤ g := fun g e => (HZ.out.base e).1
                      have hkp : Kept (fun k => (Value.slice na k2 nc).ownBlock = some k) WB w' := Kept.grown (F := fun k => (Value.slice na k2 nc).ownBlock = some k) (Kept.refl _ _) hg' (fun k hk _ => hk)
                      obtain ⟨oa, oc, hov, -, -⟩ := ho'.form
                      rw [List.length_append, htl] at hov
                      simp only [List.length_cons, List.length_nil, Nat.zero_add] at hov
                      subst hov
                      have HFN : Hid (OwnZ wo.heap.size w' (.slice oa (k2 + 1) oc) ((a.ps.map (·.n)).take (k2 + 1)) ∧ Kept (fun _ => False) wo w') := Lib.hid ⟨by rw [HTK.out]; exact ho', ((HKZ.out.trans hkA (fun _ _ f => f)).trans hkB (fun _ _ f => f)).more hkp (fun i e => hvb i e)⟩
                      clear hrow hkl hkw2 hxv hT hxl hx hkA hkB ho' hg' hkp hvb htl
                      go_wp2_with (at_builtin; refine wpList_append_run rfl (.tmp 93) (.tmp 96) #[23, 23] rfl _ _ _ _ rfl rfl hrun ?_)
                      go_roundg (gk - 1)
                      case measure => omega
                      case rel => exact ⟨k2 + 1, oa, oc, by omega, by go_num, rfl, Lib.hid HFN.out.1, Lib.hid HFN.out.2⟩
                · have hlt : k < n := by omega
                  have hkw : Kept a.F w wr := HR1.out.2.2.2.1.trans HKW.out (fun i _ (e : i = a1.km) => .inr (.inl (by rw [e, HR1.out.2.1.2.1])))
                  have hP := (show IsP w (.slice fa n fc) fr from HH.out.2.2.1).keptF hkw (fun g e => HH.out.2.2.2.1 g e)
                  obtain ⟨g, o, rfl, hg, hc⟩ := hP.at (k := k) (by rw [HN.out]; exact hlt)
                  obtain ⟨h0, h1⟩ := hc k (by rw [HN.out]; exact hlt)
                  have hput := put_fresh HH.out.2.2.2.2.1 HND.out.1 (k := k) (by rw [HN.out]; exact hlt)
                  generalize fr[k]'(by rw [HN.out]; exact hlt) = x at h0 h1 hput
                  obtain ⟨xf, xt⟩ := x
                  simp only at h0 h1 hput
                  obtain ⟨wA, hwA, hkA, hsA, hA0, hA1⟩ := pair_new wr xf xt 68
                  have hRA := (HMR.out.keptN hkA).keptN (drew_kept wA)
                  have hA3 : wA.cell? ⟨a.p, 3, none⟩ = some (.map (some a1.km)) := by have := (HMR.out.keptN hkA).mem.fields.2.2.2.1; rw [HR1.out.2.1.1] at this; exact this
                  obtain ⟨es6, clk6, hrun6, hkn6⟩ := hRA.mem.known.put xf xt
                  have hrun := hrun6 wA.drew hRA.mem.known.map
                  have hkn := hkn6 wA.drew hRA.mem.known.map
                  simp only [hput] at hkn
                  have hkS : Kept (fun i => i = a1.km) wA.drew (setBlock wA.drew a1.km (.map es6 clk6)) := (Kept.refl (fun i => i = a1.km) wA.drew).setBlock (fun _ => rfl) _
                  have HS := Lib.hid (And.intro hRA (And.intro hkn (And.intro hkS hkA)))
                  clear hRA hkn hkS hkA hsA hkn6 hrun6 hP hc hput hkw
                  go_wp2_with fail
                  go_region
                  go_wp2
                  go_roundg (gk - 1)
                  case measure => omega
                  case rel =>
                    obtain ⟨hRA, hkn, hkS, hkA⟩ := HS.out
                    exact ⟨k + 1, es6, clk6, by omega, by go_num, Lib.hid (hRA.knew hkn hkS (by rw [List.length_append, List.length_take]; omega)), Lib.hid ((HKW.out.trans (hkA.trans (drew_kept wA) (fun _ _ f => f)) (fun _ _ f => f.elim)).trans hkS (fun _ _ e => e))⟩
            · have he1b : (e1 != 0) = true := by simp [he1]
              have HR2 : Hid (O = (e1, D1, J1, M1)) := Lib.hid (by rw [HR0.out, doneM, if_pos he1])
              have HE1 := Lib.hid he1
              clear he1
              go_wp2
              go_ret
              rw [HR2.out]
              obtain ⟨r1, ⟨p1, p2, p3, p4, p5⟩, r2, r3, r4⟩ := HR1.out
              rcases r4 with ⟨-, q1, q2⟩ | ⟨q0, -⟩
              · exact ⟨rfl, a1, r1, p1, p2, p3, p4, p5, r2, fun k hk => .inl (by unfold MAd.P at hk; rw [q1, q2] at hk; exact hk), r3⟩
              · exact absurd q0 HE1.out
          · have hgeb : (ge != 0) = true := by simp [hge]
            have HO2 : Hid (O = (ge, D, J, M)) := Lib.hid (by rw [HO5.out, if_pos hge])
            clear hge
            go_wp2
            go_ret
            rw [HO2.out]
            have hkf : Kept (fun _ => False) w w7 := HWR.out.trans hf7.kept (fun _ _ f => f)
            exact ⟨rfl, a, HH.out.1.keptN hkf, rfl, rfl, rfl, rfl, rfl, fun _ e => .inl e, fun _ e => .inl e, hkf.mono (fun _ _ f => f.elim)⟩
        · have hlt : k < pl := by omega
          have hkl : k < a.ps.length := by rw [HPL.out]; exact hlt
          have hrow : wr.ownsRow 0 109 2 (.slice ta pl tc) a.ps.length (partsV a.ps) := rowKept18 (by rw [← HTV.out]; exact HH.out.1.mem.row) hwr (fun _ _ f => f)
          obtain ⟨g2, rfl, hg2, -, e0, e1⟩ := parts_at hrow hkl
          have hby := OwnB.kept (HH.out.1.mem.bytes a.ps[k] (List.getElem_mem hkl)) (fun g e => hwr.block g ((HH.out.1.mem.bytes a.ps[k] (List.getElem_mem hkl)).lt g e) (fun f => f))
          obtain ⟨xa, xc, hxv, -, -⟩ := hby.form
          have hT : (a.ps.map (·.bs)).take (k + 1) = (a.ps.map (·.bs)).take k ++ [a.ps[k].bs] := by
            rw [List.take_succ_eq_append_getElem (by rw [List.length_map]; exact hkl), List.getElem_map]
          obtain ⟨xb, hxb⟩ : ∃ x, a.ps[k].bs = x := ⟨_, rfl⟩
          rw [hxb] at hxv hby hT
          obtain ⟨xl, hxl⟩ : ∃ n, xb.length = n := ⟨_, rfl⟩
          rw [hxl] at hxv
          rw [hxv] at e1 hby
          obtain ⟨x, hx⟩ : ∃ x, a.ps[k].n = x := ⟨_, rfl⟩
          rw [hx] at e0
          have HTK := Lib.hid hT
          obtain ⟨WA, hWA⟩ : ∃ X, wr.alloc (.cells #[.int .i64 (x : Int), .slice xa xl xc] 109) = X := ⟨_, rfl⟩
          have hkA : Kept (fun _ => False) wr WA := by rw [← hWA]; exact (Kept.refl _ _).alloc _
          have hA1 : WA.cell? ⟨wr.heap.size, 1, none⟩ = some (.slice xa xl xc) := by rw [← hWA, World.cell?_alloc_new]; rfl
          obtain ⟨WB, hWB⟩ : ∃ X, WA.alloc (.cells #[.slice xa xl xc] 25) = X := ⟨_, rfl⟩
          have hkB : Kept (fun _ => False) WA WB := by rw [← hWB]; exact (Kept.refl _ _).alloc _
          have hB0 : WB.cell? ⟨WA.heap.size, 0, none⟩ = some (.slice xa xl xc) := by rw [← hWB, World.cell?_alloc_new]; rfl
          have hby2 : OwnB WB (.slice xa xl xc) xb := OwnB.kept (OwnB.kept hby (fun g e => hkA.block g (hby.lt g e) (fun f => f))) (fun g e => hkB.block g (Nat.lt_of_lt_of_le (hby.lt g e) hkA.size) (fun f => f))
          have hbk : BK W5.heap.size WB (.slice xa xl xc) xb := .inr fun g e => by
            obtain ⟨cur, hc⟩ := ownsRow_block hby2 e
            exact .inr ⟨cur, _, hc⟩
          have hro2 := (HRO.out.keptN hkA).keptN hkB
          obtain ⟨v', w', hrun, ho', hkp⟩ := hro2.push (by have := HKR6.out.size; have := hkA.size; have := hkB.size; omega) ⟨WA.heap.size, 0, none⟩ (.slice xa xl xc) xb hB0 hby2.isB hbk (by simp only [List.length_cons, List.length_take, List.length_map]; omega)
          obtain ⟨oa, oc, hov, -, -⟩ := ho'.form
          have hvb : ∀ g, (Value.slice ra rl rc).ownBlock = some g → W5.heap.size ≤ g := fun g e => (hro2.blockF g e).1
          have hln : (mb :: (a.ps.map (·.bs)).take k ++ [xb]).length = k + 2 := by simp only [List.length_append, List.length_cons, List.length_take, List.length_map, List.length_nil]; omega
          rw [hln] at hov
          subst hov
          have HFN : Hid (OwnR W5.heap.size w' (.slice oa (k + 2) oc) (mb :: (a.ps.map (·.bs)).take (k + 1)) ∧ Kept (fun k => W5.heap.size ≤ k) W6 w') := Lib.hid ⟨by rw [HTK.out]; exact ho', ((HKR6.out.trans hkA (fun _ _ f => f.elim)).trans hkB (fun _ _ f => f.elim)).trans hkp (fun i _ e => hvb i e)⟩
          clear hrow hkl hwr hxv hT hxl hx hkA hkB ho' hkp hvb hby hby2 hbk hro2 hln hxb
          go_wp2_with (at_builtin; refine wpList_append_run rfl (.tmp 51) (.tmp 54) #[44, 44] rfl _ _ _ _ rfl rfl hrun ?_)
          go_roundg (gk - 1)
          case measure => omega
          case rel => exact ⟨k + 1, oa, k + 2, oc, by omega, by go_num, rfl, Lib.hid rfl, Lib.hid HFN.out.1, Lib.hid HFN.out.2⟩
    · have h4b : ((pl : Int) == 4) = false := by simp; omega
      have HR0 : Hid (O = doneM fr (([] : List PtM).map (·.n)) (layM D J M mb (a.ps.map PtM.run))) := Lib.hid (by rw [HO.out, if_neg (by simp [hme]), if_neg h4, HH.out.1.mem.runs]; rfl)
      have HKR : Hid (w.ownsRow 0 109 2 (.slice ta pl tc) a.ps.length (partsV a.ps) ∧ (∀ x ∈ a.ps, OwnB w x.v x.bs ∧ (∀ g, x.v.ownBlock = some g → ¬ a.F g) ∧ x.n ≤ 4294967296 ∧ x.bs.length ≤ 4194304) ∧ a.ps.length ≤ 3 ∧ (∀ g, (Value.slice ta pl tc).ownBlock = some g → ¬ a.F g)) := Lib.hid (by
        have hm := HH.out.1.mem
        have ap := HH.out.1.apart.2.2.1
        refine ⟨by rw [← HTV.out]; exact hm.row, fun x hx => ⟨hm.bytes x hx, fun g e => ap g (.inr ⟨x, hx, e⟩), hm.small.2.1 x hx⟩, by rw [HPL.out]; omega, fun g e => ap g (.inl (by rw [HTV.out]; exact e))⟩)
      have HGL : Hid (([] : List PtM).length = 0) := Lib.hid rfl
      have HGB : Hid (∀ y ∈ ([] : List PtM), y.n ≤ 4294967296) := Lib.hid (fun y hy => by simp at hy)
      have HGQ : Hid ((0 : Nat) ≤ 4) := Lib.hid (by omega)
      clear hme h4 HO hf1 hbl HMK HMN
      have hk1 : Kept (fun _ => False) w w1 := HF1.out.kept
      have h1 := HH.out.1.keptN hk1
      have HLAY := Lib.hid (lay_any h1 HH.out.2.2.2.2.2.2.2 B (HH.out.2.1.keptN hk1) ba bc mb (by rw [HBL.out]; exact HF1.out.own) (fun g e hF => by rw [HBL.out] at e; have h3 := HF1.out.new g e; have h4 := HH.out.1.lt.1 g hF; omega) (by have := HMB.out; omega) (.slice ta pl tc) a.ps
        (rowKept18 HKR.out.1 hk1 (fun _ _ f => f)) (fun x hx => ⟨OwnB.kept (HKR.out.2.1 x hx).1 (fun g e => hk1.block g ((HKR.out.2.1 x hx).1.lt g e) (fun f => f)), (HKR.out.2.1 x hx).2⟩) HKR.out.2.2.1 HKR.out.2.2.2 hl hJ (by omega))
      have HLW := Lib.hid (layM_writes D J M mb (a.ps.map PtM.run) (by
        have h5 := recordB2_len ((M.last + 1) :: (a.ps.map PtM.run).map (·.n)).length ((M.last + 1) :: (a.ps.map PtM.run).map (·.n)) (by have h8 := HKR.out.2.2.1; simp only [List.length_cons, List.length_map]; omega) (fun x hx => by
          rcases List.mem_cons.1 hx with rfl | hx
          · exact hl
          · obtain ⟨y, hy, rfl⟩ := List.mem_map.1 hx
            obtain ⟨z, hz, rfl⟩ := List.mem_map.1 hy
            exact (HKR.out.2.1 z hz).2.2.1)
        rw [← recordB_eq] at h5
        have h8 := HKR.out.2.2.1
        have h7 : ((M.last + 1) :: (a.ps.map PtM.run).map (·.n)).length = a.ps.length + 1 := by simp only [List.length_cons, List.length_map]
        rw [h7] at h5
        have h6 := recB_length (recordB ((M.last + 1) :: (a.ps.map PtM.run).map (·.n))) (by omega)
        omega))
      have HLK := Lib.hid (layM_known D J M mb (a.ps.map PtM.run))
      obtain ⟨⟨e1, D1, J1, M1⟩, hq1⟩ : ∃ q, layM D J M mb (a.ps.map PtM.run) = q := ⟨_, rfl⟩
      rw [HBL.out, hq1] at HLAY
      rw [hq1] at HR0 HLW HLK
      simp only at HLAY HLW HLK
      clear hq1 h1
      go_wp2_with fail
      refine HLAY.out.mono ?_
      rintro e w2 ⟨rfl, hE⟩
      obtain ⟨a1, r1, p1, p2, p3, p4, p5, p6, p7, r2, r3, r4⟩ := hE.after (a := a) ⟨rfl, rfl, rfl, rfl, rfl, rfl, rfl, rfl, rfl⟩ (fun _ e => .inl e) (hk1.mono (fun _ _ f => f.elim))
      simp only at r1 r4
      have HR1 := Lib.hid (And.intro r1 (And.intro (And.intro p1 (And.intro p2 (And.intro p3 (And.intro p4 p5)))) (And.intro r2 (And.intro r3 r4))))
      clear r1 p1 p2 p3 p4 p5 p6 p7 r2 r3 r4 hk1 hE
      by_cases he1 : e1 = 0
      · have he1b : (e1 != 0) = false := by simp [he1]
        have HR2 : Hid (O = ((removeM D1 M.file (upL (([] : List PtM).map (·.n)))).1, (removeM D1 M.file (upL (([] : List PtM).map (·.n)))).2, J1, { M1 with known := M.known ++ fr })) := Lib.hid (by
          rw [HR0.out, doneM, if_neg (by simp [he1])]
          simp only [HLK.out.1, HLK.out.2])
        have HW1 : Hid (D1.writes < 1000000000000000) := Lib.hid (by have := HLW.out; have := HMB.out; omega)
        have HE0 := Lib.hid he1
        clear he1 HLAY HLW
        go_wp2_with fail
        go_loopg [74] n (fun g iv wr => ∃ (k : Nat) (kes' : Array MapEntry) (kclk' : Nat), k + g = n ∧ iv = .int .i64 k ∧ Hid (MemR wr { a1 with kes := kes', kclk := kclk' } D1 J1 { M1 with known := M.known ++ fr.take k }) ∧ Hid (Kept (fun i => i = a1.km) w2 wr))
        case atStart => exact ⟨0, a1.kes, a1.kclk, by omega, rfl, Lib.hid (by rw [List.take_zero, List.append_nil, ← HLK.out.1]; exact HR1.out.1), Lib.hid (Kept.refl _ _)⟩
        case round =>
          obtain ⟨k, kes', kclk', hkg, rfl, HMR, HKW⟩ := hrel
          rcases Nat.eq_zero_or_pos gk with rfl | hpos
          · obtain rfl : k = n := by omega
            obtain ⟨r1, ⟨p1, p2, p3, p4, p5⟩, r2, r3, r4⟩ := HR1.out
            have hRr := HMR.out
            rw [List.take_of_length_le (by rw [HN.out]; exact Nat.le_refl _)] at hRr
            have hKr : Kept a.F w wr := r3.trans HKW.out (fun i _ (e : i = a1.km) => .inr (.inl (by rw [e, p2])))
            have HRr := Lib.hid (And.intro hRr hKr)
            clear hRr hKr r1 p1 p2 p3 p4 p5 r2 r3 r4 HMR
            obtain ⟨wo, hwo⟩ : ∃ wo, wo = wr := ⟨_, rfl⟩
            rw [← hwo] at HRr HKW ⊢
            clear hwo wr
            go_wp2_with fail
            go_loopg [15, 89] 0 (fun g nv iv wr => ∃ (k2 : Nat) (na : Option Addr) (nc : Nat), k2 + g = 0 ∧ iv = .int .i64 k2 ∧ nv = .slice na k2 nc ∧ Hid (OwnZ wo.heap.size wr (.slice na k2 nc) ((([] : List PtM).map (·.n)).take k2)) ∧ Hid (Kept (fun _ => False) wo wr))
            case atStart => exact ⟨0, none, 0, by omega, rfl, rfl, Lib.hid (OwnZ.nil _ _), Lib.hid (Kept.refl _ _)⟩
            case round =>
              obtain ⟨k2, na, nc, hkg2, rfl, rfl, HZ, HKZ⟩ := hrel
              rcases Nat.eq_zero_or_pos gk with rfl | hpos2
              · obtain rfl : 0 = k2 := by omega
                have hz := HZ.out
                rw [List.take_of_length_le (by rw [List.length_map, HGL.out]; exact Nat.le_refl _)] at hz
                obtain ⟨r1, ⟨p1, p2, p3, p4, p5⟩, r2, r3, r4⟩ := HR1.out
                have hR2 := HRr.out.1.keptN HKZ.out
                have hF2 : ∀ i, MAd.F { a1 with kes := kes', kclk := kclk' } i → a.F i ∨ w.heap.size ≤ i := fun i hi => r2 i hi
                have hKw2 : Kept a.F w wr := HRr.out.2.trans HKZ.out (fun _ _ f => f.elim)
                have hRM := mremove_any (es := a1.es) (b := a1.b) (m := a1.m) (D := D1) (file := M.file) B wo.heap.size (.slice na 0 nc) (([] : List PtM).map (·.n)) (p := a1.p) (w := wr) (by have := hR2.file; rw [HLK.out.2] at this; exact this) hR2.jour.disk (fun hd => hR2.apart.1 (.inr (.inr (.inr hd)))) hz
                  (fun x hx => by obtain ⟨y, hy, rfl⟩ := List.mem_map.1 hx; have := HGB.out y hy; omega) (by rw [List.length_map, HGL.out]; have := HH.out.1.mem.small.1; have := HGQ.out; omega)
                  (fun g e => by
                    have h1 := (hz.base e).1
                    have h2 := HRr.out.1.lt.1
                    exact ⟨fun hd => by have := h2 g (.inr (.inr (.inr (.inr (.inr hd))))); omega, fun e2 => by have := h2 g (.inl e2); omega⟩)
                  (HH.out.2.1.kept hKw2 HH.out.2.2.2.2.2.1) (fun i hi => by
                    rcases hF2 i (.inr (.inr (.inr (.inr (.inr hi))))) with h1 | h1
                    · exact HH.out.2.2.2.2.2.1 i h1
                    · have := HH.out.2.2.2.2.2.2.1; omega) (fun g e => by have h1 := (hz.base e).1; have := hKw2.size; have := HKZ.out.size; have := HRr.out.2.size; have := HH.out.2.2.2.2.2.2.1; omega)
                  (by have := hKw2.size; have := HH.out.2.2.2.2.2.2.1; omega) (by have := HH.out.1.mem.small.2.2.2.1; omega) HW1.out
                rw [p1] at hRM
                have HRM := Lib.hid hRM
                have HS2 := Lib.hid (And.intro hR2 (And.intro hF2 (And.intro hKw2 hz)))
                clear hR2 hF2 hKw2 hRM hz r1 p1 p2 p3 p4 p5 r2 r3 r4
                go_wp2_with fail
                refine HRM.out.mono ?_
                rintro e w5 ⟨rfl, es5, clk5, hd5, hf5, hk5⟩
                go_wp2
                go_ret
                rw [HR2.out]
                obtain ⟨hR2, hF2, hKw2, hz⟩ := HS2.out
                obtain ⟨r1, ⟨p1, p2, p3, p4, p5⟩, r2, r3, r4⟩ := HR1.out
                have hzb : ∀ g, (Value.slice na 0 nc).ownBlock = some g → wo.heap.size ≤ g := fun g e => (hz.base e).1
                have hlt2 := HRr.out.1.lt
                have hout : ∀ i, MAd.F { a1 with kes := kes', kclk := kclk' } i ∨ MAd.P { a1 with kes := kes', kclk := kclk' } i → ¬ (Value.slice na 0 nc).ownBlock = some i := fun i hi e => by
                  have h1 := hzb i e
                  rcases hi with hi | hi
                  · have := hlt2.1 i hi; omega
                  · have := hlt2.2 i hi; omega
                obtain ⟨q1, q2, q3⟩ := hR2.jour.apart
                have hap := hR2.apart
                have hj5 : JAt w5 a1.j a1.b a1.m es5 clk5 a1.av a1.pv (removeM D1 M.file (upL (([] : List PtM).map (·.n)))).2 J1 := by
                  refine ⟨hd5, (hk5.block a1.j (Array.getElem?_eq_some_iff.1 hR2.jour.cell).1 ?_).trans hR2.jour.cell, rowKept hR2.jour.all hk5 (fun g _ e hf => ?_), rowKept hR2.jour.parts hk5 (fun g _ e hf => ?_), fun g e hg => ?_, hR2.jour.small⟩
                  · rintro (e | e)
                    · exact q3 e
                    · exact hout a1.j (.inl (.inr (.inr (.inl rfl)))) e
                  · rcases hf with hf | hf
                    · exact hR2.jour.sep g e hf
                    · exact hout g (.inl (.inr (.inr (.inr (.inl e))))) hf
                  · rcases hf with hf | hf
                    · exact (q2 g e).2.2 hf
                    · exact hout g (.inl (.inr (.inr (.inr (.inr (.inl e)))))) hf
                  · rcases hf5 g hg with h1 | h1
                    · exact hR2.jour.sep g e h1
                    · have := hR2.jour.lt g (.inr (.inl e)); omega
                have hkF : Kept (fun i => MAd.F { a1 with kes := kes', kclk := kclk' } i ∨ (Value.slice na 0 nc).ownBlock = some i) wr w5 := hk5.mono (fun i _ e => e.imp (fun h => .inr (.inr (.inr (.inr (.inr h))))) id)
                have hR5 : MemR w5 { a1 with kes := kes', kclk := kclk', es := es5, clock := clk5 } (removeM D1 M.file (upL (([] : List PtM).map (·.n)))).2 J1 { M1 with known := M.known ++ fr } := by
                  refine ⟨hj5, hR2.mem.kept hk5 ?_ ?_ ?_, hR2.kmm, fun x hx g e hF => ?_⟩
                  · rintro (e | e)
                    · exact hap.1 (.inr (.inr (.inr e)))
                    · exact hout _ (.inl (.inl rfl)) e
                  · rintro (e | e)
                    · exact hap.2.1 (.inr (.inr (.inr e)))
                    · exact hout _ (.inl (.inr (.inl rfl))) e
                  · rintro i hi (e | e)
                    · exact hap.2.2.1 i hi (.inr (.inr (.inr (.inr (.inr e)))))
                    · exact hout i (.inr hi) e
                  · have hg2 := hR2.lt.2 g (.inr ⟨x, hx, e⟩)
                    rcases hF with e2 | e2 | e2 | e2
                    · exact hR2.out x hx g e (.inl e2)
                    · exact hR2.out x hx g e (.inr (.inl e2))
                    · exact hR2.out x hx g e (.inr (.inr (.inl e2)))
                    · rcases hf5 g e2 with h1 | h1
                      · exact hR2.out x hx g e (.inr (.inr (.inr h1)))
                      · omega
                refine ⟨rfl, _, hR5, p1, p2, p3, p4, p5, ?_, ?_, ?_⟩
                · rintro i (e | e | e | e | e | e)
                  · exact hF2 i (.inl e)
                  · exact hF2 i (.inr (.inl e))
                  · exact hF2 i (.inr (.inr (.inl e)))
                  · exact hF2 i (.inr (.inr (.inr (.inl e))))
                  · exact hF2 i (.inr (.inr (.inr (.inr (.inl e)))))
                  · rcases hf5 i e with h1 | h1
                    · exact hF2 i (.inr (.inr (.inr (.inr (.inr h1)))))
                    · exact .inr (Nat.le_trans hKw2.size h1)
                · rcases r4 with ⟨q0, -⟩ | ⟨-, q1, q2⟩
                  · exact absurd HE0.out q0
                  · rintro i (e | ⟨x, hx, e⟩)
                    · exact .inr (q1 i e)
                    · simp only [q2] at hx
                      rcases List.mem_cons.1 hx with rfl | hx
                      · exact .inr (HF1.out.new i e)
                      · exact (.inl (.inr ⟨x, hx, e⟩))
                · exact hKw2.trans hk5 (fun i hi e => by
                    rcases e with e | e
                    · rcases hF2 i (.inr (.inr (.inr (.inr (.inr e))))) with h1 | h1
                      · exact h1
                      · omega
                    · have := hzb i e; have := HRr.out.2.size; omega)
              · skip
                exact absurd hkg2 (by omega)
          · have hlt : k < n := by omega
            have hkw : Kept a.F w wr := HR1.out.2.2.2.1.trans HKW.out (fun i _ (e : i = a1.km) => .inr (.inl (by rw [e, HR1.out.2.1.2.1])))
            have hP := (show IsP w (.slice fa n fc) fr from HH.out.2.2.1).keptF hkw (fun g e => HH.out.2.2.2.1 g e)
            obtain ⟨g, o, rfl, hg, hc⟩ := hP.at (k := k) (by rw [HN.out]; exact hlt)
            obtain ⟨h0, h1⟩ := hc k (by rw [HN.out]; exact hlt)
            have hput := put_fresh HH.out.2.2.2.2.1 HND.out.1 (k := k) (by rw [HN.out]; exact hlt)
            generalize fr[k]'(by rw [HN.out]; exact hlt) = x at h0 h1 hput
            obtain ⟨xf, xt⟩ := x
            simp only at h0 h1 hput
            obtain ⟨wA, hwA, hkA, hsA, hA0, hA1⟩ := pair_new wr xf xt 68
            have hRA := (HMR.out.keptN hkA).keptN (drew_kept wA)
            have hA3 : wA.cell? ⟨a.p, 3, none⟩ = some (.map (some a1.km)) := by have := (HMR.out.keptN hkA).mem.fields.2.2.2.1; rw [HR1.out.2.1.1] at this; exact this
            obtain ⟨es6, clk6, hrun6, hkn6⟩ := hRA.mem.known.put xf xt
            have hrun := hrun6 wA.drew hRA.mem.known.map
            have hkn := hkn6 wA.drew hRA.mem.known.map
            simp only [hput] at hkn
            have hkS : Kept (fun i => i = a1.km) wA.drew (setBlock wA.drew a1.km (.map es6 clk6)) := (Kept.refl (fun i => i = a1.km) wA.drew).setBlock (fun _ => rfl) _
            have HS := Lib.hid (And.intro hRA (And.intro hkn (And.intro hkS hkA)))
            clear hRA hkn hkS hkA hsA hkn6 hrun6 hP hc hput hkw
            go_wp2_with fail
            go_region
            go_wp2
            go_roundg (gk - 1)
            case measure => omega
            case rel =>
              obtain ⟨hRA, hkn, hkS, hkA⟩ := HS.out
              exact ⟨k + 1, es6, clk6, by omega, by go_num, Lib.hid (hRA.knew hkn hkS (by rw [List.length_append, List.length_take]; omega)), Lib.hid ((HKW.out.trans (hkA.trans (drew_kept wA) (fun _ _ f => f)) (fun _ _ f => f.elim)).trans hkS (fun _ _ e => e))⟩
      · have he1b : (e1 != 0) = true := by simp [he1]
        have HR2 : Hid (O = (e1, D1, J1, M1)) := Lib.hid (by rw [HR0.out, doneM, if_pos he1])
        have HE1 := Lib.hid he1
        clear he1
        go_wp2
        go_ret
        rw [HR2.out]
        obtain ⟨r1, ⟨p1, p2, p3, p4, p5⟩, r2, r3, r4⟩ := HR1.out
        rcases r4 with ⟨-, q1, q2⟩ | ⟨q0, -⟩
        · exact ⟨rfl, a1, r1, p1, p2, p3, p4, p5, r2, fun k hk => .inl (by unfold MAd.P at hk; rw [q1, q2] at hk; exact hk), r3⟩
        · exact absurd q0 HE1.out
  · have hmeb : (me != 0) = true := by simp [hme]
    have HO2 : Hid (O = (me, D, J, M)) := Lib.hid (by rw [HO.out, if_pos hme])
    clear hme
    go_wp2
    go_ret
    rw [HO2.out]
    exact ⟨rfl, a, HH.out.1.keptN hf1.kept, rfl, rfl, rfl, rfl, rfl, fun _ e => .inl e, fun _ e => .inl e, hf1.kept.mono (fun _ _ f => f.elim)⟩
end Go.Proofs.YtemilbemdlpkaaaGreatDoor
