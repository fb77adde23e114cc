/- espalierlaw11.GraphTells. -/
import Derived.Test.YtikacgiccllolaaUni
import Derived.Test.YtikacgiccllolaaWake
namespace Go.Proofs.Ytikacgiccllolaa
open Go.RowKit Go.ChangeMaps Go.MapKept

theorem keptDrewT (w : World) (n : Nat) : Kept (fun _ => False) w (w.drewN n) := keptDrewM w n
set_option maxRecDepth 100000 in
set_option maxHeartbeats 2000000 in
theorem tells_law (w : World) (a : Option Addr) (n c : Nat) (l : List BornM) (hB : IsBn w (.slice a n c) l) (x y : Int) :
    Calls Try.prog 4 #[.slice a n c, .int .i64 x, .int .i64 y] w fun e w' => e = .returned (.bool true) ∧ Kept (fun _ => False) w w' := by
  have HB := Lib.hid hB
  clear hB
  go_enter Try.func4, Try.ntmps4
  go_wp2_with fail
  refine (wakes_any w).mono ?_
  rintro e w1 ⟨rfl, hk1⟩
  have HK1 := Lib.hid hk1
  have HBO := Lib.hid (born_is w1 a n c l (HB.out.keptN hk1))
  clear hk1
  go_wp2_with fail
  refine HBO.out.mono ?_
  rintro e w2 ⟨hbr, hk2⟩
  have HK2 : Hid (Kept (fun _ => False) w w2) := Lib.hid (HK1.out.more hk2 (fun _ f => f.elim))
  clear hk2
  cases hbf : bornF l with
  | none =>
    rw [hbf] at hbr
    obtain rfl := hbr
    clear hbf
    go_wp2_with fail
    refine (wakes_any w2).mono ?_
    rintro e w3 ⟨rfl, hk3⟩
    have HK3 : Hid (Kept (fun _ => False) w w3) := Lib.hid (HK2.out.more hk3 (fun _ f => f.elim))
    clear hk3
    go_wp2_with fail
    go_ret
    exact ⟨rfl, HK3.out⟩
  | some st =>
    rw [hbf] at hbr
    obtain ⟨Hb, s, F, na, ia, ta, nc, ic, tc, S, rfl, hH⟩ := hbr
    have HH := Lib.hid hH
    clear hbf hH
    go_wp2_with fail
    refine (wakes_any w2).mono ?_
    rintro e w3 ⟨rfl, hk3⟩
    have HK3 : Hid (Kept (fun _ => False) w w3) := Lib.hid (HK2.out.more hk3 (fun _ f => f.elim))
    have HH3 := Lib.hid (HH.out.kept hk3)
    clear hk3
    obtain ⟨W, hW⟩ : ∃ W, w3.alloc (.cells #[.int .i64 x, .int .i64 y] 3) = W := ⟨_, rfl⟩
    have hkW : Kept (fun _ => False) w3 W := by rw [← hW]; exact (Kept.refl _ _).alloc _
    have hZ : IsZ W (.slice (some ⟨w3.heap.size, 0, none⟩) 2 2) [x, y] := isZ_new [x, y] #[.int .i64 x, .int .i64 y] (by rw [← hW]; exact allocs_heap [.cells #[.int .i64 x, .int .i64 y] 3] w3 0 _ rfl) rfl (by simp [maxLen])
    have HHW := Lib.hid (HH3.out.kept hkW)
    have HHD := Lib.hid (heads_any HHW.out _ _ _ _ hZ)
    have HHS := Lib.hid (HH.out.ok.heads [x, y])
    have HK4 := Lib.hid (HK3.out.trans hkW (fun _ _ f => f))
    rw [show headsOf st.ids [x, y] = [headI st.ids x, headI st.ids y] from rfl] at HHD HHS
    generalize headI st.ids x = p at *
    generalize headI st.ids y = q at *
    clear hZ hkW
    go_wp2_with fail
    refine HHD.out.mono ?_
    rintro e w4 ⟨⟨v, rfl, hv⟩, hk4⟩
    clear hW
    have hi := hv.isI HHS.out.2
    obtain ⟨va, vc, rfl, -, -⟩ := hv.form
    obtain ⟨vg, vo, rfl, -, i0⟩ := hi.at (k := 0) (by simp)
    obtain ⟨vg', vo', he, -, i1⟩ := hi.at (k := 1) (by simp)
    cases he
    have HH4 := Lib.hid (HHW.out.kept hk4)
    have HK5 := Lib.hid (HK4.out.trans hk4 (fun _ _ f => f))
    have HI := Lib.hid hi
    have i0' : w4.cell? ⟨vg, vo, none⟩ = some (.int .u64 p) := i0
    have i1' : w4.cell? ⟨vg, vo + 1, none⟩ = some (.int .u64 q) := i1
    clear hk4 hi hv i0 i1
    go_wp2_with fail
    go_quiet (fail)
    generalize hwd : World.drewN w4 _ = w5
    have hkd : Kept (fun _ => False) w4 w5 := by rw [← hwd]; exact keptDrewT _ _
    have HH5 := Lib.hid (HH4.out.kept hkd)
    have HI5 := Lib.hid (HI.out.keptN hkd)
    have HK6 := Lib.hid (HK5.out.trans hkd (fun _ _ f => f))
    clear hwd hkd i0' i1'
    have c1 := HH5.out.c1
    obtain ⟨sn, hsn⟩ : ∃ sn, S.length = sn := ⟨_, rfl⟩
    rw [hsn] at c1
    have HRO := Lib.hid (HH5.out.rorder_u (some ⟨vg, vo, none⟩) 2 vc [p, q] HI5.out HHS.out.1)
    have hp := HHS.out.2 p (by simp)
    have hq := HHS.out.2 q (by simp)
    have hzq : zId ≠ q := fun h => HHS.out.1 (by simp [h])
    have HAN : Hid (∀ W, Kept (fun _ => False) w5 W → _) := Lib.hid (fun W hk => (HH5.out.kept hk).ancestor_u p q hp hq)
    have HLI : Hid (∀ W, Kept (fun _ => False) w5 W → _) := Lib.hid (fun W hk => (HH5.out.kept hk).lines_u p q hp hq)
    have HDE : Hid (∀ W, Kept (fun _ => False) w5 W → _) := Lib.hid (fun W hk => (HH5.out.kept hk).depth_u q hq)
    have HRD : Hid (∀ W o, Kept (fun _ => False) w5 W → orderR (nodesO st.os) st.os.length [q] = .ok o → ∀ (oa : Option Addr) (on oc : Nat), IsI W (.slice oa on oc) o → Calls Try.prog 17 #[.slice na S.length nc, .slice oa on oc, .int .u64 q] W fun e w' => e = .returned (.int .i64 (depE2 (nodesO st.os) (orderR (nodesO st.os) st.os.length [q]) q : Nat)) ∧ Kept (fun _ => False) W w') := Lib.hid (fun W o hk ho oa on oc hI => (HH5.out.kept hk).rdepth_u hzq ho oa on oc hI)
    have HRL : Hid (∀ W o, Kept (fun _ => False) w5 W → orderR (nodesO st.os) st.os.length [q] = .ok o → ∀ (oa : Option Addr) (on oc : Nat), IsI W (.slice oa on oc) o → Calls Try.prog 19 #[.slice na S.length nc, .slice oa on oc, .int .u64 p] W fun e w' => e = .returned (.int .i64 (wayF (parN (nodesO st.os)) p o q : Nat)) ∧ Kept (fun _ => False) W w') := Lib.hid (fun W o hk ho oa on oc hI => (HH5.out.kept hk).rlines_u hzq ho oa on oc hI)
    have HRP : Hid (∀ o, orderR (nodesO st.os) st.os.length [p, q] = .ok o → ∃ o2, orderR (nodesO st.os) st.os.length [q] = .ok o2) := Lib.hid (fun o h => pair_ok (by simp [nodesO]) h)
    have HRN : Hid (∀ W, Kept (fun _ => False) w5 W → Calls Try.prog 11 #[.slice na S.length nc, .slice (some ⟨W.heap.size, 0, none⟩) 1 1] (W.alloc (.cells #[.int .u64 q] 37)) fun e w' => ordU w' (W.heap.size + 1) e (orderR (nodesO st.os) st.os.length [q]) ∧ Kept (fun _ => False) W w') := Lib.hid (fun W hk => by
      have hkA : Kept (fun _ => False) W (W.alloc (.cells #[.int .u64 q] 37)) := (Kept.refl _ _).alloc _
      have h9 := ((HH5.out.kept hk).kept hkA).rorder_u _ _ _ [q] (ids_new W [q] (by simp [hq]) (by simp [maxLen]) _ rfl) (by simpa using hzq)
      refine h9.mono ?_
      rintro e w' ⟨h1, h2⟩
      rw [show (W.alloc (.cells #[.int .u64 q] 37)).heap.size = W.heap.size + 1 from by simp] at h1
      exact ⟨h1, hkA.more h2 (fun _ f => f.elim)⟩)
    have HLT : Hid (∀ x ∈ okL (orderR (nodesO st.os) st.os.length [q]), x < 18446744073709551616) := Lib.hid okL_lt
    rw [hsn] at HRO HRD HRL HRN
    obtain ⟨R1, hR1⟩ : ∃ R, orderR (nodesO st.os) st.os.length [p, q] = R := ⟨_, rfl⟩
    obtain ⟨R2, hR2⟩ : ∃ R, orderR (nodesO st.os) st.os.length [q] = R := ⟨_, rfl⟩
    rw [hR1] at HRO HAN HLI HRP
    rw [hR2] at HAN HLI HRP HDE HRN HRD HRL HLT
    have HC1 : Hid (∀ W, Kept (fun _ => False) w5 W → W.cell? ⟨Hb, 1, none⟩ = some (.slice na sn nc)) := Lib.hid (fun W hk => hk.cell c1 (fun f => f))
    clear hR1 hR2 hp hq hzq hsn
    go_wp2_with fail
    refine HRO.out.mono ?_
    rintro e w6 ⟨⟨⟨v6, rfl, -⟩, hS⟩, hk6⟩
    have HS1 := Lib.hid hS
    have c0 := hk6.cell HH5.out.c0 (fun f => f)
    have HAN6 := Lib.hid (HAN.out w6 hk6)
    have HK7 : Hid (Kept (fun _ => False) w5 w6) := Lib.hid hk6
    obtain ⟨e1, he1⟩ : ∃ c, codeE R1 = c := ⟨_, rfl⟩
    rw [he1] at HAN6 HLI ⊢
    have HE1 := Lib.hid he1
    clear hS c1 hk6 he1
    go_wp2_with fail
    refine HAN6.out.mono ?_
    rintro e w7 ⟨⟨rfl, -⟩, hk7⟩
    have c0' := hk7.cell c0 (fun f => f)
    have HK8 : Hid (Kept (fun _ => False) w5 w7) := Lib.hid (HK7.out.trans hk7 (fun _ _ f => f))
    have HLI7 := Lib.hid (HLI.out w7 HK8.out)
    clear c0 hk7
    go_wp2_with fail
    refine HLI7.out.mono ?_
    rintro e w8 ⟨⟨rfl, -⟩, hk8⟩
    have c0 := hk8.cell c0' (fun f => f)
    have HK9 : Hid (Kept (fun _ => False) w5 w8) := Lib.hid (HK8.out.trans hk8 (fun _ _ f => f))
    have c1 := HC1.out _ HK9.out
    have HRN8 := Lib.hid (HRN.out w8 HK9.out)
    clear c0' hk8
    go_wp2_with fail
    refine HRN8.out.mono ?_
    rintro e w9 ⟨⟨⟨v9, rfl, hv9⟩, hS⟩, hk9⟩
    have HO9 := Lib.hid hv9
    have HS2 := Lib.hid hS
    have c0' := hk9.cell c0 (fun f => f)
    have HK10 : Hid (Kept (fun _ => False) w5 w9) := Lib.hid (HK9.out.trans hk9 (fun _ _ f => f))
    have HDE9 := Lib.hid (HDE.out w9 HK10.out)
    obtain ⟨e2, he2⟩ : ∃ c, codeE R2 = c := ⟨_, rfl⟩
    rw [he2] at HDE9 ⊢
    have HE2 := Lib.hid he2
    obtain ⟨d, hd⟩ : ∃ d, depE2 (nodesO st.os) R2 q = d := ⟨_, rfl⟩
    rw [hd] at HDE9 HRD
    have HD := Lib.hid hd
    clear hS c0 c1 hk9 he2 hv9 hd
    go_wp2_with fail
    refine HDE9.out.mono ?_
    rintro e w10 ⟨rfl, hk10⟩
    have HK11 : Hid (Kept (fun _ => False) w5 w10) := Lib.hid (HK10.out.trans hk10 (fun _ _ f => f))
    have HO10 := Lib.hid (HO9.out.keptF hk10 (fun _ _ f => f))
    have c1 := HC1.out _ HK11.out
    clear c0' hk10
    by_cases hz2 : e2 = 0
    · subst hz2
      obtain ⟨o2, ho2⟩ := HS2.out HE2.out
      obtain ⟨u9, uc, hvv, -, -⟩ := HO10.out.form
      subst hvv
      have hi10 := HO10.out.isI HLT.out
      subst ho2
      have HRD10 := Lib.hid (HRD.out w10 o2 HK11.out rfl u9 o2.length uc hi10)
      have HI10 := Lib.hid hi10
      obtain ⟨on, hon⟩ : ∃ n, o2.length = n := ⟨_, rfl⟩
      simp only [okL] at HI10 HRD10 ⊢
      rw [hon] at HI10 HRD10 ⊢
      clear hi10
      go_wp2_with fail
      refine HRD10.out.mono ?_
      rintro e w11 ⟨rfl, hk11⟩
      have HK12 : Hid (Kept (fun _ => False) w5 w11) := Lib.hid (HK11.out.trans hk11 (fun _ _ f => f))
      have HI11 := Lib.hid (HI10.out.keptN hk11)
      have c1' := HC1.out _ HK12.out
      clear c1 hk11
      by_cases hz1 : e1 = 0
      · subst hz1
        obtain ⟨o1, ho1⟩ := HS1.out HE1.out
        subst ho1
        have HRL11 := Lib.hid (HRL.out w11 o2 HK12.out rfl u9 on uc HI11.out)
        have HHAS := Lib.hid (rhas_any w11 u9 on uc o2 p HI11.out)
        rw [show wayE (nodesO st.os) (.ok o1) (.ok o2) p q = wayF (parN (nodesO st.os)) p o2 q from rfl, show yesE (.ok o1) (.ok o2) p = decide (p ∈ o2) from rfl]
        generalize wayF (parN (nodesO st.os)) p o2 q = m at *
        generalize decide (p ∈ o2) = yes at *
        go_wp2_with fail
        refine HHAS.out.mono ?_
        rintro e w12 ⟨rfl, rfl⟩
        have hyy : (yes == yes) = true := by simp
        go_wp2_with fail
        refine HRL11.out.mono ?_
        rintro e w13 ⟨rfl, hk13⟩
        have HK13 : Hid (Kept (fun _ => False) w w13) := Lib.hid ((HK6.out.more HK12.out (fun _ f => f.elim)).more hk13 (fun _ f => f.elim))
        clear hk13 c1'
        go_wp2_with fail
        go_ret
        exact ⟨rfl, HK13.out⟩
      · have hz1b : (e1 == 0) = false := by simp [hz1]
        cases R1 with
        | ok o1 => exact absurd HE1.out.symm hz1
        | error c9 =>
          rw [show wayE (nodesO st.os) (.error c9) (.ok o2) p q = 0 from rfl, show yesE (.error c9) (.ok o2) p = false from rfl]
          go_wp2_with fail
          go_ret
          exact ⟨rfl, HK6.out.more HK12.out (fun _ f => f.elim)⟩
    · have hz2b : (e2 == 0) = false := by simp [hz2]
      cases R2 with
      | ok o2 => exact absurd HE2.out.symm hz2
      | error c8 =>
        cases R1 with
        | ok o1 => exact absurd (HRP.out o1 rfl) (by rintro ⟨_, h⟩; cases h)
        | error c9 =>
          rw [show wayE (nodesO st.os) (.error c9) (.error c8) p q = 0 from rfl, show yesE (.error c9) (.error c8) p = false from rfl]
          obtain rfl : 0 = d := HD.out
          have hz1 : e1 ≠ 0 := fun h => absurd (HS1.out (HE1.out.trans h)) (by rintro ⟨_, h⟩; cases h)
          have hz1b : (e1 == 0) = false := by simp [hz1]
          go_wp2_with fail
          go_ret
          exact ⟨rfl, HK6.out.more HK11.out (fun _ f => f.elim)⟩
end Go.Proofs.Ytikacgiccllolaa
