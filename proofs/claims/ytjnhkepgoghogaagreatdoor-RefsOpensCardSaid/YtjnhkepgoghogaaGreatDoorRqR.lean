/- espalierref08.read. -/
import Derived.Test.YtjnhkepgoghogaaGreatDoorRqQ
namespace Go.Proofs.YtjnhkepgoghogaaGreatDoor
open Go.RowKit Go.ChangeMaps Go.MapKept
set_option linter.unusedSimpArgs false

theorem refs2_ret {R : Ending → World → Prop} {W : World} {B : Nat} {v v2 : Value} {t u1 : Tmp} {fn : Func} {a : Act} (hf : fn.results = #[.cell t 32, .tmp u1]) (ht : a.tmps.getD t undef = .pointer (some ⟨B, 0, none⟩)) (h1 : a.tmps.getD u1 undef = v2) (hd : a.defers = [])
    (hB : W.heap[B]? = some (.cells #[v] 32 (0, 0))) (hR : R (.returned (.tuple #[.agg #[v], v2])) W) : bodyPost Tryz.prog fn R .ret a W := by
  have hx := run_loadVar_row (P := Tryz.prog) W B 32 32 _ (0, 0) _ hB Tryz.underlying32 rfl (by kernel_rfl)
  have ht2 : a.tmps[t]?.getD undef = .pointer (some ⟨B, 0, none⟩) := by simpa using ht
  have hu1 : a.tmps[u1]?.getD undef = v2 := by simpa using h1
  refine bodyPost_ret (v := .tuple #[.agg #[v], v2]) ?_ hd hR
  simp [results, hf, ht2, hu1, asAddr, Result.andThen, hx]
/-- What read answers. -/
def ReadPost (w : World) (o : Option IdsL) (e : Ending) (w' : World) : Prop :=
  ∃ a n c, (∃ ok, e = .returned (.tuple #[.agg #[.slice a n c], .bool ok]) ∧ (o = none → ok = false) ∧ ∀ L', o = some L' → ok = true ∧ IsR w' (.slice a n c) L') ∧ Kept (fun _ => False) w w'
theorem rdGo_one (L : IdsL) (n : Nat) (rest : List UInt8) (l : IdsL) : rdGo L (n + 1) rest l = if (numB rest).2.2 ≠ 0 ∨ 200 < (numB rest).1 ∨ rest.length < (numB rest).2.1 + (numB rest).1 + 8 then none
    else if chgBad L l (chgAt rest) then none
    else rdGo L n (rest.drop ((numB rest).2.1 + (numB rest).1 + 8)) (l ++ [chgAt rest]) := by rw [rdGo]
set_option maxRecDepth 100000 in
set_option maxHeartbeats 2000000 in
theorem rread08_any (w : World) (la : Option Addr) (lc : Nat) (L : IdsL) (h : IsR w (.slice la L.length lc) L) (hL : L.length ≤ 100000) (a : Option Addr) (c : Nat) (b : List UInt8) (hb : IsB w (.slice a b.length c) b) (hc : b.length < c) (hl : b.length ≤ 100000) :
    Calls Tryz.prog 46 #[.agg #[.slice la L.length lc], .slice a b.length c] w (ReadPost w (rdR L b)) := by
  have HL := Lib.hid h
  have HB := Lib.hid hb
  obtain ⟨_, _, he, hlc, hcm, -⟩ := id hb
  cases he
  have HBN : Hid (b ≠ [] → ∀ g, (Value.slice a b.length c).ownBlock = some g → g < w.heap.size) := Lib.hid (fun hne => HB.out.block_lt hne)
  have HNU := Lib.hid (fun W (hW : Kept (fun _ => False) w W) => rnumber_any W a c b (HB.out.keptF hW (fun _ _ f => f)))
  have HRD : Hid (rdR L b = if (numB b).2.2 ≠ 0 ∨ (numB b).1 = 0 ∨ b.length < (numB b).1 then none else rdEnd L (rdGo L (numB b).1 (b.drop (numB b).2.1) [])) := Lib.hid rfl
  generalize rdR L b = O at HRD ⊢
  obtain ⟨m, hm⟩ : ∃ n, b.length = n := ⟨_, rfl⟩
  have HM := Lib.hid hm
  rw [hm] at HB hl hlc hc HBN HNU ⊢
  obtain ⟨nL, hnL⟩ : ∃ n, L.length = n := ⟨_, rfl⟩
  have HNL := Lib.hid hnL
  rw [hnL] at HL hL ⊢
  obtain ⟨⟨n, k, e⟩, hnu⟩ : ∃ q, numB b = q := ⟨_, rfl⟩
  rw [hnu] at HNU HRD
  simp only at HNU HRD
  have HNM := Lib.hid hnu
  clear h hb hm hnL hnu
  obtain ⟨w1, hw1⟩ : ∃ W, (w.alloc (.cells #[.slice la nL lc] 32)).alloc (.cells #[.slice none 0 0] 32) = W := ⟨_, rfl⟩
  have hk1 : Kept (fun _ => False) w w1 := by rw [← hw1]; exact ((Kept.refl _ _).alloc _).alloc _
  have hs1 : w1.heap.size = w.heap.size + 1 + 1 := by rw [← hw1]; simp
  have hb0 : w1.heap[w.heap.size]? = some (.cells #[.slice la nL lc] 32 (0, 0)) := by rw [← hw1]; exact alloc_old (heap_alloc_new _ _)
  have hb1 : w1.heap[w.heap.size + 1]? = some (.cells #[.slice none 0 0] 32 (0, 0)) := by
    have h7 := heap_alloc_new (w.alloc (.cells #[.slice la nL lc] 32)) (.cells #[.slice none 0 0] 32)
    rw [World.size_alloc] at h7
    rw [← hw1]; exact h7
  have b0 : w1.cell? ⟨w.heap.size, 0, none⟩ = some (.slice la nL lc) := by simp [World.cell?, hb0]
  have b1 : w1.cell? ⟨w.heap.size + 1, 0, none⟩ = some (.slice none 0 0) := by simp [World.cell?, hb1]
  have b2 : w1.frozen? ⟨w.heap.size + 1, 0, none⟩ = false := by simp [World.frozen?, hb1]
  have H1 := Lib.hid (And.intro hb0 (And.intro hb1 (And.intro hk1 hs1)))
  have HNU1 := Lib.hid (HNU.out w1 hk1)
  clear hb0 hb1 hk1 hs1
  go_enter Tryz.func46, Tryz.ntmps46
  go_wp2_with fail
  refine HNU1.out.mono ?_
  rintro e9 w5 ⟨rfl, rfl⟩
  have HSC : Hid (∀ (W : World) (v : Value), Kept (fun i => i = w.heap.size + 1) W (W.setCell ⟨w.heap.size + 1, 0, none⟩ v)) := Lib.hid (fun W v => (Kept.refl (fun i => i = w.heap.size + 1) W).setCell (p := ⟨w.heap.size + 1, 0, none⟩) (fun _ => rfl) _)
  by_cases he : e = 0
  · subst he
    obtain ⟨hcan, hk0, hkm⟩ := numB_canon HNM.out
    rw [HM.out] at hkm
    have HO0 : Hid ((n = 0 ∨ m < n) → O = none) := Lib.hid (fun h => by rw [HRD.out, if_pos (.inr (by rw [HM.out]; exact h))])
    by_cases hn0 : n = 0
    · have hn0b : ((n : Int) == 0) = true := by simp [hn0]
      have HO : Hid (O = none) := Lib.hid (HO0.out (.inl hn0))
      clear hcan
      go_wp2_with fail
      refine refs2_ret rfl rfl rfl rfl ((heap_setCell_row H1.out.2.1 _).trans rfl) ?_
      exact ⟨_, _, _, ⟨false, rfl, fun _ => rfl, fun L' h => by rw [HO.out] at h; cases h⟩, (H1.out.2.2.1.more (HSC.out _ _) (fun i (e : i = _) => by omega))⟩
    · have hn0b : ((n : Int) == 0) = false := by simp [hn0]
      by_cases hnm : m < n
      · have hnmb : decide ((n : Int) > (m : Int)) = true := by simp; omega
        have hnmc : decide ((m : Int) < (n : Int)) = true := by simp; omega
        have HO : Hid (O = none) := Lib.hid (HO0.out (.inr hnm))
        clear hcan
        go_wp2_with fail
        refine refs2_ret rfl rfl rfl rfl ((heap_setCell_row H1.out.2.1 _).trans rfl) ?_
        exact ⟨_, _, _, ⟨false, rfl, fun _ => rfl, fun L' h => by rw [HO.out] at h; cases h⟩, (H1.out.2.2.1.more (HSC.out _ _) (fun i (e : i = _) => by omega))⟩
      · have hnmb : decide ((n : Int) > (m : Int)) = false := by simp; omega
        have hnmc : decide ((m : Int) < (n : Int)) = false := by simp; omega
        have HO : Hid (O = rdEnd L (rdGo L n (b.drop k) [])) := Lib.hid (by rw [HRD.out, if_neg (by rw [HM.out]; simp [hn0]; omega)])
        have hkc : k < c := by omega
        have hmpos : 0 < m := by omega
        have hbne : b ≠ [] := fun e => by have h9 := HM.out; rw [e] at h9; simp at h9; omega
        obtain ⟨ra0, hra0⟩ : ∃ x, a.map (fun x => x.add k) = x := ⟨_, rfl⟩
        obtain ⟨rm0, hrm0⟩ : ∃ x, m - k = x := ⟨_, rfl⟩
        obtain ⟨rc0, hrc0⟩ : ∃ x, c - k = x := ⟨_, rfl⟩
        obtain ⟨R, hR⟩ : ∃ R, w.heap.size = R := ⟨_, rfl⟩
        have HR := Lib.hid hR
        have HI0 : Hid (IsB w1 (.slice ra0 rm0 rc0) (b.drop k)) := Lib.hid (by
          have h7 := (HB.out.keptF H1.out.2.2.1 (fun _ _ f => f)).drop (k := k) (by rw [HM.out]; exact hkm)
          rwa [if_neg (by omega), Nat.mul_one, hra0, hrm0, hrc0] at h7)
        have HO9 : Hid (∀ g, (Value.slice ra0 rm0 rc0).ownBlock = some g → g < R) := Lib.hid (fun g e => by
          rw [← hra0, ob_add a k rm0 rc0 m c] at e
          have := HBN.out hbne g e
          omega)
        obtain ⟨bb, hbb⟩ : ∃ x, w1.heap.size = x := ⟨_, rfl⟩
        have HBB : Hid (w1.heap.size = bb ∧ bb = R + 1 + 1) := Lib.hid ⟨hbb, by rw [← hbb, ← hR]; exact H1.out.2.2.2⟩
        have HRL0 : Hid ((b.drop k).length = rm0) := Lib.hid (by rw [List.length_drop, HM.out, hrm0])
        have hrmc : rm0 < rc0 := by omega
        have hrmm : rm0 ≤ m := by omega
        have hrcm : rc0 ≤ maxLen := by omega
        clear hcan hbne hbb
        rw [hR] at b0 b1 b2 HSC
        go_wp2_with fail
        clear hra0 hrm0 hrc0 hkc hR
        go_loopg [9, 10, 11] n (fun g rv lv iv wr => ∃ i rest l ra rm rc, i + g = n ∧ rv = .slice ra rm rc ∧ rm < rc ∧ rm ≤ m ∧ rc ≤ maxLen ∧ iv = .int .i64 i ∧ Hid (l.length = i) ∧ Hid (rest.length = rm) ∧ Hid (IsB wr (.slice ra rm rc) rest) ∧ Hid (∀ g, (Value.slice ra rm rc).ownBlock = some g → g < R) ∧ Hid (OwnR bb wr lv l) ∧ Hid (rdGo L (n - i) rest l = rdGo L n (b.drop k) []) ∧ Hid (Kept (fun z => bb ≤ z) w1 wr))
        case atStart => exact ⟨0, b.drop k, [], ra0, rm0, rc0, by omega, rfl, hrmc, hrmm, hrcm, rfl, Lib.hid rfl, HRL0, HI0, HO9, Lib.hid (OwnR.nil _ _), Lib.hid rfl, Lib.hid (Kept.refl _ _)⟩
        case round =>
          clear HI0 HO9 HRL0 hrmc hrmm hrcm
          obtain ⟨i, rest, l, ra, rm, rc, hig, rfl, hrmc, hrmm, hrcm, rfl, HLL, HRL, HI, HOB, HO1, HGO, HK⟩ := hrel
          have HBW : Hid (bb ≤ wr.heap.size) := Lib.hid (by have := HK.out.size; have := HBB.out.1; omega)
          have hA0 : wr.heap[R]? = some (.cells #[.slice la nL lc] 32 (0, 0)) := (HK.out.block R (by have := HBB.out; omega) (by have := HBB.out; omega)).trans (by have h9 := H1.out.1; rwa [HR.out] at h9)
          have hA1 : wr.heap[R + 1]? = some (.cells #[.slice none 0 0] 32 (0, 0)) := (HK.out.block (R + 1) (by have := HBB.out; omega) (by have := HBB.out; omega)).trans (by have h9 := H1.out.2.1; rwa [HR.out] at h9)
          have d0 : wr.cell? ⟨R, 0, none⟩ = some (.slice la nL lc) := by simp [World.cell?, hA0]
          have d1 : wr.cell? ⟨R + 1, 0, none⟩ = some (.slice none 0 0) := by simp [World.cell?, hA1]
          have d2 : wr.frozen? ⟨R + 1, 0, none⟩ = false := by simp [World.frozen?, hA1]
          have HKW : Hid (Kept (fun _ => False) w wr) := Lib.hid (H1.out.2.2.1.more HK.out (fun z hz => by have := HBB.out; have := HR.out; omega))
          rcases Nat.eq_zero_or_pos gk with rfl | hpos
          · obtain rfl : i = n := by omega
            have hie : ¬ (i : Int) < (i : Int) := by omega
            have HFIN : Hid (rdGo L i (b.drop k) [] = some (rest, l)) := Lib.hid (by rw [← HGO.out, Nat.sub_self]; rfl)
            obtain ⟨va, vc, hu10, -, -⟩ := HO1.out.form
            rw [HLL.out] at hu10
            subst hu10
            obtain ⟨wO, hwO⟩ : ∃ W, wr.alloc (.cells #[.slice la nL lc] 32) = W := ⟨_, rfl⟩
            have hkO : Kept (fun _ => False) wr wO := by rw [← hwO]; exact (Kept.refl _ _).alloc _
            have hbO : wO.heap[wr.heap.size]? = some (.cells #[.slice la nL lc] 32 (0, 0)) := by rw [← hwO]; exact heap_alloc_new _ _
            have HwO := Lib.hid hwO
            have HKO := Lib.hid hkO
            have HIO : Hid (IsR wO (.slice la nL lc) L) := Lib.hid (HL.out.keptN (HKW.out.trans hkO (fun _ _ f => f)))
            have HIL : Hid (IsR wO (.slice va i vc) l) := Lib.hid (HO1.out.isR.keptN hkO)
            have HVB : Hid (∀ g, (Value.slice va i vc).ownBlock = some g → g < wr.heap.size) := Lib.hid (fun g e => (World.ownsRow.lt HO1.out g e).2)
            have HLB : Hid (∀ g, (Value.slice la nL lc).ownBlock = some g → L ≠ [] → g < wr.heap.size) := Lib.hid (fun g e hne => by
              obtain ⟨_, _, h9⟩ := (HL.out.keptN HKW.out).block hne e
              exact h9.2)
            have HWN : Hid (w.heap.size ≤ wr.heap.size) := Lib.hid HKW.out.size
            have hA1' := hkO.block _ (Array.getElem?_eq_some_iff.1 hA1).1 (fun f => f) |>.trans hA1
            have HA1 := Lib.hid hA1'
            have HR1 : Hid (R + 1 < wr.heap.size) := Lib.hid (by have := HBW.out; have := HBB.out; omega)
            have HBO := Lib.hid hbO
            clear hwO hkO hbO hA1' hA0 hA1 d0 d1 d2
            have hib : i ≤ 100000 := by omega
            have d0 : wr.cell? ⟨R, 0, none⟩ = some (.slice la nL lc) := by
              have h9 : wr.heap[R]? = some (.cells #[.slice la nL lc] 32 (0, 0)) := (HK.out.block R (by have := HBB.out; omega) (by have := HBB.out; omega)).trans (by have h9 := H1.out.1; rwa [HR.out] at h9)
              simp [World.cell?, h9]
            go_wp2_with fail
            rw [HwO.out]
            clear d0 HwO
            obtain ⟨Q, hQ⟩ : ∃ Q, wr.heap.size = Q := ⟨_, rfl⟩
            rw [hQ] at HBO HVB HLB HR1 HWN ⊢
            have HQ := Lib.hid hQ
            clear hQ
            have HOQ : Hid (Q < wO.heap.size) := Lib.hid (Array.getElem?_eq_some_iff.1 HBO.out).1
            obtain ⟨wo, rfl⟩ : ∃ W : World, W = wr := ⟨_, rfl⟩
            go_loopg [146] i (fun g iv wx => ∃ j cur oa oc, j + g = i ∧ iv = .int .i64 j ∧ Hid (cur = (l.take j).foldl withL L) ∧ cur.length ≤ nL + j ∧ Hid (wx.heap[Q]? = some (.cells #[.slice oa cur.length oc] 32 (0, 0))) ∧ Hid (IsR wx (.slice oa cur.length oc) cur) ∧ Hid (cur ≠ [] → ∀ g, (Value.slice oa cur.length oc).ownBlock = some g → g ≠ Q ∧ g ≠ R + 1) ∧ Hid (Kept (· = Q) wO wx))
            case atStart => exact ⟨0, L, la, lc, by omega, rfl, Lib.hid rfl, by rw [HNL.out]; omega, Lib.hid (by rw [HNL.out]; exact HBO.out), Lib.hid (by rw [HNL.out]; exact HIO.out), Lib.hid (fun hne g e => by
              rw [HNL.out] at e
              refine ⟨by have := HLB.out g e hne; omega, fun e2 => ?_⟩
              obtain ⟨o, s, hc, -⟩ := HIO.out.block hne e
              have h9 := HA1.out
              subst e2
              rcases o with _ | o
              · simp [World.cell?, h9] at hc
              · simp [World.cell?, h9] at hc), Lib.hid (Kept.refl _ _)⟩
            case round =>
              obtain ⟨j, cur, oa, oc, hjg, rfl, HCU, hcl, HQC, HIC, HBC, HKQ⟩ := hrel
              have HIN : Hid (IsR wr (.slice va i vc) l) := Lib.hid (HIL.out.keptS HKQ.out (fun _ g e (e2 : g = Q) => by have := HVB.out g e; omega))
              obtain ⟨nc, hnc⟩ : ∃ x, cur.length = x := ⟨_, rfl⟩
              rw [hnc] at HQC HIC HBC hcl
              have HNC := Lib.hid hnc
              clear hnc
              have q0 : wr.cell? ⟨Q, 0, none⟩ = some (.slice oa nc oc) := by simp [World.cell?, HQC.out]
              have q1 : wr.frozen? ⟨Q, 0, none⟩ = false := by simp [World.frozen?, HQC.out]
              rcases Nat.eq_zero_or_pos gk with rfl | hjpos
              · obtain rfl : j = i := by omega
                have hr1 := (HKQ.out.block (R + 1) (by have := HR1.out; have := HOQ.out; omega) (by have := HR1.out; show ¬ R + 1 = Q; omega)).trans HA1.out
                have r0 : wr.cell? ⟨R + 1, 0, none⟩ = some (.slice none 0 0) := by simp [World.cell?, hr1]
                have r1 : wr.frozen? ⟨R + 1, 0, none⟩ = false := by simp [World.frozen?, hr1]
                have HR1c := Lib.hid hr1
                have HCF : Hid (cur = l.foldl withL L) := Lib.hid (by rw [HCU.out, List.take_of_length_le (by rw [HLL.out]; exact Nat.le_refl _)])
                have HOF : Hid (O = if rm = 0 ∧ nc ≤ 64 then some cur else none) := Lib.hid (by
                  rw [HO.out, HFIN.out]
                  unfold rdEnd
                  simp only
                  rw [← HCF.out, HNC.out]
                  have h9 : rest = [] ↔ rm = 0 := by rw [← HRL.out]; exact List.length_eq_zero_iff.symm
                  by_cases h8 : rest = [] ∧ nc ≤ 64
                  · rw [if_pos h8, if_pos ⟨h9.1 h8.1, h8.2⟩]
                  · rw [if_neg h8, if_neg (fun e => h8 ⟨h9.2 e.1, e.2⟩)])
                clear hr1
                have HEND : Hid (∀ (bz : Bool), bz = decide (rm = 0 ∧ nc ≤ 64) → ReadPost w O (.returned (.tuple #[.agg #[.slice oa nc oc], .bool bz])) (wr.setCell ⟨R + 1, 0, none⟩ (.slice oa nc oc)).drew) := Lib.hid (fun bz hbz => by
                  have hkS := (HSC.out wr (.slice oa nc oc)).trans ((Kept.refl (fun _ => False) _).drew) (fun _ _ f => f.elim)
                  refine ⟨oa, nc, oc, ⟨bz, rfl, fun h => ?_, fun L' h => ?_⟩, ?_⟩
                  · rw [hbz]
                    by_cases h8 : rm = 0 ∧ nc ≤ 64
                    · rw [HOF.out, if_pos h8] at h; cases h
                    · rw [decide_eq_false h8]
                  · by_cases h8 : rm = 0 ∧ nc ≤ 64
                    · rw [HOF.out, if_pos h8] at h
                      cases h
                      exact ⟨by rw [hbz, decide_eq_true h8], HIC.out.keptS hkS (fun hne g e e2 => (HBC.out hne g e).2 e2)⟩
                    · rw [HOF.out, if_neg h8] at h; cases h
                  · have h7 := HKO.out
                    refine (((H1.out.2.2.1.more HK.out (fun z hz => by have := HBB.out; have := HR.out; omega)).more h7 (fun _ f => f.elim)).more HKQ.out (fun z (e : z = Q) => by have := HWN.out; omega)).more hkS (fun z (e : z = R + 1) => by have := HR.out; omega))
                have s9 : (wr.setCell ⟨R + 1, 0, none⟩ (.slice oa nc oc)).cell? ⟨Q, 0, none⟩ = some (.slice oa nc oc) := (HSC.out wr _).cell q0 (by have := HR1.out; show ¬ Q = R + 1; omega)
                by_cases hrm0 : rm = 0
                · have hb1 : ((rm : Int) == 0) = true := by simp [hrm0]
                  by_cases h64 : nc ≤ 64
                  · have hb2 : decide ((nc : Int) ≤ 64) = true := by simp; omega
                    go_wp2_with fail
                    go_region
                    go_wp2_with fail
                    refine refs2_ret rfl rfl rfl rfl (((heap_setCell_row HR1c.out _).trans rfl : (wr.setCell ⟨R + 1, 0, none⟩ (.slice oa nc oc)).heap[R + 1]? = _)) ?_
                    exact HEND.out _ (by rw [decide_eq_true (show rm = 0 ∧ nc ≤ 64 from ⟨hrm0, h64⟩)])
                  · have hb2 : decide ((nc : Int) ≤ 64) = false := by simp; omega
                    go_wp2_with fail
                    go_region
                    go_wp2_with fail
                    refine refs2_ret rfl rfl rfl rfl (((heap_setCell_row HR1c.out _).trans rfl : (wr.setCell ⟨R + 1, 0, none⟩ (.slice oa nc oc)).heap[R + 1]? = _)) ?_
                    exact HEND.out _ (by rw [decide_eq_false (fun e : rm = 0 ∧ nc ≤ 64 => h64 e.2)])
                · have hb1 : ((rm : Int) == 0) = false := by simp; omega
                  go_wp2_with fail
                  go_region
                  go_wp2_with fail
                  refine refs2_ret rfl rfl rfl rfl (((heap_setCell_row HR1c.out _).trans rfl : (wr.setCell ⟨R + 1, 0, none⟩ (.slice oa nc oc)).heap[R + 1]? = _)) ?_
                  exact HEND.out _ (by rw [decide_eq_false (fun e : rm = 0 ∧ nc ≤ 64 => hrm0 e.1)])
              · have hjlt : (j : Int) < (i : Int) := by omega
                obtain ⟨gl, ol, rfl, hgl, hl0, hl1⟩ := HIN.out.at (k := j) (by rw [HLL.out]; omega)
                have HTK : Hid ((l.take (j + 1)).foldl withL L = withL cur (l[j]'(by rw [HLL.out]; omega))) := Lib.hid (by rw [List.take_succ_eq_append_getElem (by rw [HLL.out]; omega), List.foldl_append, ← HCU.out]; rfl)
                generalize (l[j]'(by rw [HLL.out]; omega)) = y at *
                obtain ⟨ys, yi⟩ := y
                simp only at hl0 hl1
                obtain ⟨wA, hwA, hkA, hsA, hbA⟩ := ref_new wr ys yi
                have a0 : wA.cell? ⟨wr.heap.size, 0, none⟩ = some (.string ys) := by simp [World.cell?, hbA]
                have a1 : wA.cell? ⟨wr.heap.size, 1, none⟩ = some (.int .u64 yi) := by simp [World.cell?, hbA]
                have hqA := (hkA.block _ (Array.getElem?_eq_some_iff.1 HQC.out).1 (fun f => f)).trans HQC.out
                have a2 : wA.cell? ⟨Q, 0, none⟩ = some (.slice oa nc oc) := by simp [World.cell?, hqA]
                have HWI := Lib.hid (rwith_any wA oa oc cur (by rw [HNC.out]; exact HIC.out.keptN hkA) (by rw [HNC.out]; omega) ys yi)
                rw [HNC.out] at HWI
                have HQA := Lib.hid hqA
                have HKA := Lib.hid hkA
                have hwl := withL_len cur (ys, yi)
                rw [HNC.out] at hwl
                clear hbA hqA hkA hgl
                go_wp2_with fail
                refine HWI.out.mono ?_
                rintro e9 wG ⟨v9, rfl, ho9, hk9⟩
                obtain ⟨a9, c9, rfl, -, -⟩ := ho9.form
                have hQG := (hk9.block _ (Array.getElem?_eq_some_iff.1 HQA.out).1 (fun f => f)).trans HQA.out
                have g0 : wG.cell? ⟨Q, 0, none⟩ = some (.slice oa nc oc) := by simp [World.cell?, hQG]
                have g1 : wG.frozen? ⟨Q, 0, none⟩ = false := by simp [World.frozen?, hQG]
                have hkS := (Kept.refl (· = Q) wG).setCell (p := ⟨Q, 0, none⟩) (fun _ => rfl) (.slice a9 (withL cur (ys, yi)).length c9)
                have hQW : Q < wA.heap.size := (Array.getElem?_eq_some_iff.1 HQA.out).1
                have HQN : Hid ((wG.setCell ⟨Q, 0, none⟩ (.slice a9 (withL cur (ys, yi)).length c9)).heap[Q]? = some (.cells #[.slice a9 (withL cur (ys, yi)).length c9] 32 (0, 0))) := Lib.hid ((heap_setCell_row hQG _).trans rfl)
                have HINN : Hid (IsR (wG.setCell ⟨Q, 0, none⟩ (.slice a9 (withL cur (ys, yi)).length c9)) (.slice a9 (withL cur (ys, yi)).length c9) (withL cur (ys, yi))) := Lib.hid (ho9.isR.keptS hkS (fun _ g e (e2 : g = Q) => by have := (World.ownsRow.lt ho9 g e).1; omega))
                have HBN2 : Hid (withL cur (ys, yi) ≠ [] → ∀ g, (Value.slice a9 (withL cur (ys, yi)).length c9).ownBlock = some g → g ≠ Q ∧ g ≠ R + 1) := Lib.hid (fun _ g e => by have := (World.ownsRow.lt ho9 g e).1; have := HR1.out; omega)
                have HKN2 : Hid (Kept (· = Q) wO (wG.setCell ⟨Q, 0, none⟩ (.slice a9 (withL cur (ys, yi)).length c9))) := Lib.hid (((HKQ.out.trans HKA.out (fun _ _ f => f.elim)).trans hk9 (fun _ _ f => f.elim)).trans hkS (fun _ _ e => e))
                have HCN : Hid (withL cur (ys, yi) = (l.take (j + 1)).foldl withL L) := Lib.hid HTK.out.symm
                clear ho9 hk9 hQG hkS hQW HTK
                go_wp2_with fail
                go_roundg (gk - 1)
                case measure => omega
                case rel => exact ⟨j + 1, withL cur (ys, yi), a9, c9, by omega, by go_num, HCN, by omega, HQN, HINN, HBN2, HKN2⟩
          · have hlt : (i : Int) < (n : Int) := by omega
            have HNUr := Lib.hid (rnumber_any wr ra rc rest (by rw [HRL.out]; exact HI.out))
            rw [HRL.out] at HNUr
            obtain ⟨⟨x, q, e2⟩, hnu⟩ : ∃ y, numB rest = y := ⟨_, rfl⟩
            rw [hnu] at HNUr
            simp only at HNUr
            obtain ⟨f, hf⟩ : ∃ f, n - i = f + 1 := ⟨n - i - 1, by omega⟩
            have HST : Hid (rdGo L n (b.drop k) [] = if (x, q, e2).2.2 ≠ 0 ∨ 200 < (x, q, e2).1 ∨ rm < (x, q, e2).2.1 + (x, q, e2).1 + 8 then none else if chgBad L l (chgAt rest) then none else rdGo L f (rest.drop ((x, q, e2).2.1 + (x, q, e2).1 + 8)) (l ++ [chgAt rest])) := Lib.hid (by rw [← HGO.out, hf, rdGo_one, hnu, HRL.out])
            simp only at HST
            have HF := Lib.hid hf
            have HNR := Lib.hid hnu
            have HH1 := Lib.hid hA1
            clear hnu hf hA0 hA1
            have HNO : Hid (rdGo L n (b.drop k) [] = none → O = none) := Lib.hid (fun h => by rw [HO.out, h]; rfl)
            clear HO
            go_wp2_with fail
            refine HNUr.out.mono ?_
            rintro e9 w5 ⟨rfl, rfl⟩
            by_cases he2 : e2 = 0
            · subst he2
              obtain ⟨-, hq0, hqm⟩ := numB_canon HNR.out
              rw [HRL.out] at hqm
              by_cases hx : 200 < x
              · have hxb : decide ((x : Int) > 200) = true := by simp; omega
                have hxc : decide ((200 : Int) < (x : Int)) = true := by simp; omega
                have HO : Hid (O = none) := Lib.hid (HNO.out (by rw [HST.out, if_pos (by simp [hx])]))
                go_wp2_with fail
                refine refs2_ret rfl rfl rfl rfl ((heap_setCell_row HH1.out _).trans rfl) ?_
                exact ⟨_, _, _, ⟨false, rfl, fun _ => rfl, fun L' h => by rw [HO.out] at h; cases h⟩, (HKW.out.more (HSC.out _ _) (fun i (e : i = _) => by have := HR.out; omega))⟩
              · have hxb : decide ((x : Int) > 200) = false := by simp; omega
                have hxc : decide ((200 : Int) < (x : Int)) = false := by simp; omega
                by_cases hsh : rm < q + x + 8
                · have hshb : decide ((rm : Int) < (q : Int) + (x : Int) + 8) = true := by simp; omega
                  have HO : Hid (O = none) := Lib.hid (HNO.out (by rw [HST.out, if_pos (by simp [hsh])]))
                  go_wp2_with fail
                  refine refs2_ret rfl rfl rfl rfl ((heap_setCell_row HH1.out _).trans rfl) ?_
                  exact ⟨_, _, _, ⟨false, rfl, fun _ => rfl, fun L' h => by rw [HO.out] at h; cases h⟩, (HKW.out.more (HSC.out _ _) (fun i (e : i = _) => by have := HR.out; omega))⟩
                · have hshb : decide ((rm : Int) < (q : Int) + (x : Int) + 8) = false := by simp; omega
                  have HS2 : Hid (rdGo L n (b.drop k) [] = if chgBad L l (chgAt rest) then none else rdGo L f (rest.drop (q + x + 8)) (l ++ [chgAt rest])) := Lib.hid (by rw [HST.out, if_neg (by simp [hx, hsh])])
                  clear HST
                  have hrne : rest ≠ [] := fun e => by have h8 := HRL.out; rw [e] at h8; simp at h8; omega
                  obtain ⟨g, o, hra⟩ : ∃ g o, ra = some ⟨g, o, none⟩ := by
                    obtain ⟨_, _, e9, -, -, h3⟩ := HI.out
                    injection e9 with e9
                    obtain ⟨g, o, h9, -, -⟩ := h3.resolve_left hrne
                    exact ⟨g, o, e9.trans h9⟩
                  subst hra
                  have had : ∀ z, (some (⟨g, o, none⟩ : Addr)).map (fun y => y.add z) = some ⟨g, o + z, none⟩ := fun z => congrArg some (addr_add _ _ _)
                  obtain ⟨pc, hpc⟩ : ∃ z, rc - q = z := ⟨_, rfl⟩
                  obtain ⟨tc, htc⟩ : ∃ z, rc - (q + x) = z := ⟨_, rfl⟩
                  obtain ⟨zm, hzm⟩ : ∃ z, rm - (q + x + 8) = z := ⟨_, rfl⟩
                  obtain ⟨zc, hzc⟩ : ∃ z, rc - (q + x + 8) = z := ⟨_, rfl⟩
                  have hpx : q + x - q = x := by omega
                  have htx : q + x + 8 - (q + x) = 8 := by omega
                  have hP : IsB wr (.slice (some ⟨g, o + q, none⟩) x pc) (payAt rest) := by
                    have h7 := (HI.out.drop (k := q) (by rw [HRL.out]; omega)).take (k := x) (by rw [List.length_drop, HRL.out]; omega)
                    rw [if_neg (by omega), Nat.mul_one, had, hpc] at h7
                    have h8 : payAt rest = (rest.drop q).take x := by unfold payAt; rw [HNR.out]
                    rwa [h8]
                  obtain ⟨T, hT⟩ : ∃ T, (rest.drop (q + x)).take 8 = T := ⟨_, rfl⟩
                  have hTB : IsB wr (.slice (some ⟨g, o + (q + x), none⟩) 8 tc) T := by
                    have h7 := (HI.out.drop (k := q + x) (by rw [HRL.out]; omega)).take (k := 8) (by rw [List.length_drop, HRL.out]; omega)
                    rwa [if_neg (by omega), Nat.mul_one, had, htc, hT] at h7
                  have hZB : IsB wr (.slice (some ⟨g, o + (q + x + 8), none⟩) zm zc) (rest.drop (q + x + 8)) := by
                    have h7 := HI.out.drop (k := q + x + 8) (by rw [HRL.out]; omega)
                    rwa [if_neg (by omega), Nat.mul_one, had, hzm, hzc] at h7
                  have hTl : T.length = 8 := by rw [← hT, List.length_take, List.length_drop, HRL.out]; omega
                  have hcg : chgAt rest = (strB (payAt rest), wordFrom 0 T) := by unfold chgAt; rw [HNR.out]; simp only; rw [hT]
                  have hcv := conv_any hP
                  rw [hcg] at HS2
                  obtain ⟨s, hs⟩ : ∃ s, strB (payAt rest) = s := ⟨_, rfl⟩
                  rw [hs] at hcv HS2
                  obtain ⟨wA, hwA, hkA, hsA, hbA⟩ := ref_new wr s 0
                  have hA0 : wA.cell? ⟨wr.heap.size, 0, none⟩ = some (.string s) := by simp [World.cell?, hbA]
                  have HwA : Hid (wr.alloc (.cells #[.string s, .int .u64 0] 38) = wA) := Lib.hid hwA
                  have HTB := Lib.hid (hTB.keptF hkA (fun _ _ f => f))
                  have HZB := Lib.hid (hZB.keptF hkA (fun _ _ f => f))
                  have HTL := Lib.hid hTl
                  have HbA := Lib.hid hbA
                  have HkA := Lib.hid hkA
                  have HsA := Lib.hid hsA
                  have HZL : Hid ((rest.drop (q + x + 8)).length = zm) := Lib.hid (by rw [List.length_drop, HRL.out, hzm])
                  have HGR : Hid (g < R) := Lib.hid (HOB.out g rfl)
                  have h8tc : 8 ≤ tc := by omega
                  have hzmc : zm < zc := by omega
                  have hzmm : zm ≤ m := by omega
                  have hzcm : zc ≤ maxLen := by omega
                  have hqx1 : (q : Int) + (x : Int) ≤ (rc : Int) := by omega
                  have hqx2 : (q : Int) + (x : Int) + 8 ≤ (rc : Int) := by omega
                  have hqxc : q + x < rc := by omega
                  have hqxd : q + x + 8 < rc := by omega
                  have hqc : q < rc := by omega
                  clear hP hTB hZB hT hcg hs hTl hbA hkA hsA hwA
                  go_wp2_with fail
                  rw [HwA.out]
                  clear hcv hA0 d0 d1 d2 had
                  obtain ⟨wo, rfl⟩ : ∃ W : World, W = wr := ⟨_, rfl⟩
                  obtain ⟨C, hC⟩ : ∃ C, wo.heap.size = C := ⟨_, rfl⟩
                  rw [hC] at HbA HBW ⊢
                  have HC := Lib.hid hC
                  have HRC : Hid (R + 1 < C) := Lib.hid (by have := HBW.out; have := HBB.out; omega)
                  clear hC
                  go_loopg [94] 8 (fun g iv wx => ∃ j X, j + g = 8 ∧ iv = .int .i64 j ∧ X < 18446744073709551616 ∧ Hid (X = wordFrom 0 (T.take j)) ∧ Hid (wx.heap[C]? = some (.cells #[.string s, .int .u64 X] 38 (0, 0))) ∧ Hid (Kept (· = C) wA wx))
                  case atStart => exact ⟨0, 0, by omega, rfl, by omega, Lib.hid rfl, HbA, Lib.hid (Kept.refl _ _)⟩
                  case round =>
                    obtain ⟨j, X, hjg, rfl, hX, HX, HCX, HKX⟩ := hrel
                    have c0 : wr.cell? ⟨C, 0, none⟩ = some (.string s) := by simp [World.cell?, HCX.out]
                    have c1 : wr.cell? ⟨C, 1, none⟩ = some (.int .u64 X) := by simp [World.cell?, HCX.out]
                    have c2 : wr.frozen? ⟨C, 1, none⟩ = false := by simp [World.frozen?, HCX.out]
                    rcases Nat.eq_zero_or_pos gk with rfl | hjpos
                    · obtain rfl : j = 8 := by omega
                      have HW8 : Hid (X = wordFrom 0 T) := Lib.hid (by have h9 := HX.out; rwa [List.take_of_length_le (by rw [HTL.out]; exact Nat.le_refl _)] at h9)
                      rw [← HW8.out] at HS2
                      have hkw : Kept (fun z => bb ≤ z) wo wr := (HkA.out.mono (fun _ _ f => f.elim)).trans HKX.out (fun z _ (e : z = C) => by have := HBW.out; omega)
                      have hlb : l.length + 1 ≤ 200000 := by have := HLL.out; omega
                      obtain ⟨wB, hwB, hkB, hsB, hbB⟩ := ref_new wr s X
                      have hB0 : wB.cell? ⟨wr.heap.size, 0, none⟩ = some (.string s) := by simp [World.cell?, hbB]
                      have hB1 : wB.cell? ⟨wr.heap.size, 1, none⟩ = some (.int .u64 X) := by simp [World.cell?, hbB]
                      have hko : Kept (fun z => z = C) wo wB := ((HkA.out.mono (fun _ _ f => f.elim)).trans HKX.out (fun _ _ e => e)).trans hkB (fun _ _ f => f.elim)
                      have hlt1 : ∀ z, u10.ownBlock = some z → z < C := fun z e => by have h9 := (World.ownsRow.lt HO1.out z e).2; rw [HC.out] at h9; exact h9
                      obtain ⟨v2, w2, hrun2, ho2, hg2, hb2⟩ := (show OwnR bb wB u10 l from rowKeptF HO1.out hko (fun z _ e e2 => by have := hlt1 z e; omega)).push (by have := HkA.out.size; have := HKX.out.size; have := hkB.size; have := HC.out; have := HBW.out; omega) ⟨wr.heap.size, 0, none⟩ (s, X) hB0 hB1 (by omega)
                      have hk2 : Kept (fun z => bb ≤ z) wo w2 := (hko.mono (fun z _ (e : z = C) => by have := HBW.out; omega)).trans (Kept.grown (F := fun z => bb ≤ z) (Kept.refl _ _) hg2 (fun z hz _ => (World.ownsRow.lt HO1.out z hz).1)) (fun _ _ e => e)
                      have hkC2 : Kept (fun z => u10.ownBlock = some z) wr w2 := (hkB.mono (fun _ _ f => f.elim)).trans (Kept.grown (F := fun z => u10.ownBlock = some z) (Kept.refl _ _) hg2 (fun z hz _ => hz)) (fun _ _ e => e)
                      have hC2 := (hkC2.block _ (Array.getElem?_eq_some_iff.1 HCX.out).1 (fun e => by have := hlt1 C e; omega)).trans HCX.out
                      have t0 : w2.cell? ⟨C, 0, none⟩ = some (.string s) := by simp [World.cell?, hC2]
                      have t1 : w2.cell? ⟨C, 1, none⟩ = some (.int .u64 X) := by simp [World.cell?, hC2]
                      have HO2 := Lib.hid ho2
                      have HK2 : Hid (Kept (fun z => bb ≤ z) w1 w2) := Lib.hid (HK.out.trans hk2 (fun _ _ e => e))
                      have hA2 : w2.heap[R]? = some (.cells #[.slice la nL lc] 32 (0, 0)) := (HK2.out.block R (by have := HBB.out; omega) (by have := HBB.out; omega)).trans (by have h9 := H1.out.1; rwa [HR.out] at h9)
                      have hA3 : w2.heap[R + 1]? = some (.cells #[.slice none 0 0] 32 (0, 0)) := (HK2.out.block (R + 1) (by have := HBB.out; omega) (by have := HBB.out; omega)).trans (by have h9 := H1.out.2.1; rwa [HR.out] at h9)
                      have d0 : w2.cell? ⟨R, 0, none⟩ = some (.slice la nL lc) := by simp [World.cell?, hA2]
                      have d1 : w2.cell? ⟨R + 1, 0, none⟩ = some (.slice none 0 0) := by simp [World.cell?, hA3]
                      have d2 : w2.frozen? ⟨R + 1, 0, none⟩ = false := by simp [World.frozen?, hA3]
                      have HA3 := Lib.hid hA3
                      have HKW2 : Hid (Kept (fun _ => False) w w2) := Lib.hid (H1.out.2.2.1.more HK2.out (fun z hz => by have := HBB.out; have := HR.out; omega))
                      have HZ2 : Hid (IsB w2 (.slice (some ⟨g, o + (q + x + 8), none⟩) zm zc) (rest.drop (q + x + 8))) := Lib.hid ((HZB.out.keptS HKX.out (fun _ k e e2 => by have e3 : g = k := Option.some.inj e; have e4 : k = C := e2; have := HGR.out; have := HRC.out; omega)).keptS hkC2 (fun _ k e e2 => by have e3 : g = k := Option.some.inj e; have h9 := (World.ownsRow.lt HO1.out k e2).1; have := HGR.out; have := HBB.out; omega))
                      have HZO : Hid (∀ k, (Value.slice (some ⟨g, o + (q + x + 8), none⟩) zm zc).ownBlock = some k → k < R) := Lib.hid (fun k e => by have e3 : g = k := Option.some.inj e; have := HGR.out; omega)
                      obtain ⟨va, vc, hu10, -, -⟩ := HO1.out.form
                      rw [HLL.out] at hu10
                      subst hu10
                      obtain ⟨v2a, v2c, hv2, -, -⟩ := ho2.form
                      have hl1 : (l ++ [(s, X)]).length = i + 1 := by rw [List.length_append, HLL.out]; rfl
                      rw [hl1] at hv2
                      subst hv2
                      have HL1 := Lib.hid hl1
                      have htk : (l ++ [(s, X)]).take i = l := by rw [List.take_append_of_le_length (by rw [HLL.out]; exact Nat.le_refl _), List.take_of_length_le (by rw [HLL.out]; exact Nat.le_refl _)]
                      have hgi : (l ++ [(s, X)])[i]'(by rw [hl1]; omega) = (s, X) := by rw [List.getElem_append_right (by rw [HLL.out]; exact Nat.le_refl _)]; simp [HLL.out]
                      have HTW : Hid (∀ W, Kept (fun _ => False) w2 W → Calls Tryz.prog 30 #[.slice v2a (i + 1) v2c, .int .i64 i] W fun e w' => e = .returned (.bool (decide (∃ y ∈ l, y.1 = s))) ∧ Kept (fun _ => False) W w') := Lib.hid (fun W hW => by
                        have h9 := twice_any W v2a v2c (l ++ [(s, X)]) (by rw [hl1]; exact ho2.isR.keptN hW) i (by rw [hl1]; omega)
                        simp only [hgi, htk] at h9
                        rw [hl1] at h9
                        exact h9)
                      have HGT := Lib.hid (fun W (hW : Kept (fun _ => False) w2 W) => rget_any W la lc L (by rw [HNL.out]; exact HL.out.keptN (HKW2.out.trans hW (fun _ _ f => f))) s)
                      rw [HNL.out] at HGT
                      rw [← hwB] at hrun2
                      clear hkw hkB hsB hbB hB0 hB1 hko hlt1 ho2 hg2 hb2 hk2 hkC2 hC2 hA2 hA3 hwB hl1 htk hgi
                      have HBAD : Hid (chgBad L l (s, X) → O = none) := Lib.hid (fun h => HNO.out (by rw [HS2.out, if_pos h]))
                      have HGN : Hid (¬ chgBad L l (s, X) → rdGo L (n - (i + 1)) (rest.drop (q + x + 8)) (l ++ [(s, X)]) = rdGo L n (b.drop k) []) := Lib.hid (fun h => by rw [HS2.out, if_neg h, show n - (i + 1) = f by have := HF.out; omega])
                      clear HS2
                      by_cases hs0 : s = ⟨#[]⟩
                      · have HO : Hid (O = none) := Lib.hid (HBAD.out (.inl hs0))
                        subst hs0
                        go_wp2_with (at_builtin; refine wpList_append_run rfl (.tmp 113) (.tmp 115) #[30, 30] rfl _ _ _ _ rfl rfl hrun2 ?_)
                        refine refs2_ret rfl rfl rfl rfl ((heap_setCell_row HA3.out _).trans rfl) ?_
                        exact ⟨_, _, _, ⟨false, rfl, fun _ => rfl, fun L' h => by rw [HO.out] at h; cases h⟩, HKW2.out.more (HSC.out _ _) (fun i (e : i = _) => by have := HR.out; omega)⟩
                      · have hs0b := ne_empty hs0
                        have HS0 := Lib.hid hs0
                        clear hs0
                        go_wp2_with (at_builtin; refine wpList_append_run rfl (.tmp 113) (.tmp 115) #[30, 30] rfl _ _ _ _ rfl rfl hrun2 ?_)
                        clear hrun2
                        refine (rwrong_any s w2).mono ?_
                        rintro e9 wC ⟨rfl, hkC⟩
                        have t0 : wC.cell? ⟨C, 0, none⟩ = some (.string s) := (hkC).cell t0 (fun f => f)
                        have t1 : wC.cell? ⟨C, 1, none⟩ = some (.int .u64 X) := (hkC).cell t1 (fun f => f)
                        have d0 : wC.cell? ⟨R, 0, none⟩ = some (.slice la nL lc) := (hkC).cell d0 (fun f => f)
                        have d1 : wC.cell? ⟨R + 1, 0, none⟩ = some (.slice none 0 0) := (hkC).cell d1 (fun f => f)
                        have hr4 := ((hkC).block _ (Array.getElem?_eq_some_iff.1 HA3.out).1 (fun f => f)).trans HA3.out
                        have d2 : wC.frozen? ⟨R + 1, 0, none⟩ = false := by simp [World.frozen?, hr4]
                        have HA4 := Lib.hid hr4
                        clear hr4
                        by_cases hwr : (pathOf s).1 ≠ 0
                        · have HO : Hid (O = none) := Lib.hid (HBAD.out (.inr (.inl hwr)))
                          rw [decide_eq_true hwr]
                          have HKC := Lib.hid hkC
                          clear hkC hwr
                          go_wp2_with fail
                          refine refs2_ret rfl rfl rfl rfl ((heap_setCell_row HA4.out _).trans rfl) ?_
                          exact ⟨_, _, _, ⟨false, rfl, fun _ => rfl, fun L' h => by rw [HO.out] at h; cases h⟩, ((HKW2.out.trans HKC.out (fun _ _ f => f)).more (HSC.out _ _) (fun i (e : i = _) => by have := HR.out; omega))⟩
                        · rw [decide_eq_false hwr]
                          have HWR := Lib.hid hwr
                          have HKC := Lib.hid hkC
                          clear hkC hwr
                          go_wp2_with fail
                          refine (HTW.out wC HKC.out).mono ?_
                          rintro e9 wD ⟨rfl, hkD0⟩
                          have t0 : wD.cell? ⟨C, 0, none⟩ = some (.string s) := (hkD0).cell t0 (fun f => f)
                          have t1 : wD.cell? ⟨C, 1, none⟩ = some (.int .u64 X) := (hkD0).cell t1 (fun f => f)
                          have d0 : wD.cell? ⟨R, 0, none⟩ = some (.slice la nL lc) := (hkD0).cell d0 (fun f => f)
                          have d1 : wD.cell? ⟨R + 1, 0, none⟩ = some (.slice none 0 0) := (hkD0).cell d1 (fun f => f)
                          have hr5 := ((hkD0).block _ (Array.getElem?_eq_some_iff.1 HA4.out).1 (fun f => f)).trans HA4.out
                          have d2 : wD.frozen? ⟨R + 1, 0, none⟩ = false := by simp [World.frozen?, hr5]
                          have HA5 := Lib.hid hr5
                          clear hr5
                          have HKD : Hid (Kept (fun _ => False) w2 wD) := Lib.hid (HKC.out.trans hkD0 (fun _ _ f => f))
                          clear hkD0
                          by_cases htw : ∃ y ∈ l, y.1 = s
                          · have HO : Hid (O = none) := Lib.hid (HBAD.out (.inr (.inr (.inl htw))))
                            rw [decide_eq_true htw]
                            clear htw
                            go_wp2_with fail
                            refine refs2_ret rfl rfl rfl rfl ((heap_setCell_row HA5.out _).trans rfl) ?_
                            exact ⟨_, _, _, ⟨false, rfl, fun _ => rfl, fun L' h => by rw [HO.out] at h; cases h⟩, ((HKW2.out.trans HKD.out (fun _ _ f => f)).more (HSC.out _ _) (fun i (e : i = _) => by have := HR.out; omega))⟩
                          · rw [decide_eq_false htw]
                            have HTWN := Lib.hid htw
                            clear htw
                            by_cases hX0 : X = 0
                            · have hxb : ((X : Int) == 0) = true := by simp [hX0]
                              have HX0 := Lib.hid hX0
                              clear hX0
                              go_wp2_with fail
                              refine (HGT.out wD HKD.out).mono ?_
                              rintro e9 wE ⟨rfl, hkE0⟩
                              have t0 : wE.cell? ⟨C, 0, none⟩ = some (.string s) := (hkE0).cell t0 (fun f => f)
                              have t1 : wE.cell? ⟨C, 1, none⟩ = some (.int .u64 X) := (hkE0).cell t1 (fun f => f)
                              have d0 : wE.cell? ⟨R, 0, none⟩ = some (.slice la nL lc) := (hkE0).cell d0 (fun f => f)
                              have d1 : wE.cell? ⟨R + 1, 0, none⟩ = some (.slice none 0 0) := (hkE0).cell d1 (fun f => f)
                              have hr6 := ((hkE0).block _ (Array.getElem?_eq_some_iff.1 HA5.out).1 (fun f => f)).trans HA5.out
                              have d2 : wE.frozen? ⟨R + 1, 0, none⟩ = false := by simp [World.frozen?, hr6]
                              have HA6 := Lib.hid hr6
                              clear hr6
                              have HKE : Hid (Kept (fun _ => False) w2 wE) := Lib.hid (HKD.out.trans hkE0 (fun _ _ f => f))
                              clear hkE0
                              by_cases hgz : getL s L = 0
                              · have HO : Hid (O = none) := Lib.hid (HBAD.out (.inr (.inr (.inr ⟨HX0.out, hgz⟩))))
                                have hgb : ((getL s L : Int) == 0) = true := by simp [hgz]
                                clear hgz
                                go_wp2_with fail
                                refine refs2_ret rfl rfl rfl rfl ((heap_setCell_row HA6.out _).trans rfl) ?_
                                exact ⟨_, _, _, ⟨false, rfl, fun _ => rfl, fun L' h => by rw [HO.out] at h; cases h⟩, ((HKW2.out.trans HKE.out (fun _ _ f => f)).more (HSC.out _ _) (fun i (e : i = _) => by have := HR.out; omega))⟩
                              · have hgb : ((getL s L : Int) == 0) = false := by simp; omega
                                have HGN := Lib.hid (HGN.out (fun h => by
                                  rcases h with h | h | h | h
                                  · exact HS0.out h
                                  · exact HWR.out h
                                  · exact HTWN.out h
                                  · exact hgz h.2))
                                clear hgz
                                go_wp2_with fail
                                go_roundg (gk - 1)
                                case measure => omega
                                case rel => exact ⟨i + 1, rest.drop (q + x + 8), l ++ [(s, X)], some ⟨g, o + (q + x + 8), none⟩, zm, zc, by omega, rfl, hzmc, hzmm, hzcm, by go_num, HL1, HZL, Lib.hid (HZ2.out.keptF HKE.out (fun _ _ f => f)), HZO, Lib.hid (HO2.out.keptN HKE.out), HGN, Lib.hid (HK2.out.trans HKE.out (fun _ _ f => f.elim))⟩
                            · have hxb : ((X : Int) == 0) = false := by simp; omega
                              have HGN := Lib.hid (HGN.out (fun h => by
                                rcases h with h | h | h | h
                                · exact HS0.out h
                                · exact HWR.out h
                                · exact HTWN.out h
                                · exact hX0 h.1))
                              clear hX0
                              go_wp2_with fail
                              go_roundg (gk - 1)
                              case measure => omega
                              case rel => exact ⟨i + 1, rest.drop (q + x + 8), l ++ [(s, X)], some ⟨g, o + (q + x + 8), none⟩, zm, zc, by omega, rfl, hzmc, hzmm, hzcm, by go_num, HL1, HZL, Lib.hid (HZ2.out.keptF HKD.out (fun _ _ f => f)), HZO, Lib.hid (HO2.out.keptN HKD.out), HGN, Lib.hid (HK2.out.trans HKD.out (fun _ _ f => f.elim))⟩
                    · have hjlt : (j : Int) < 8 := by omega
                      have hj8 : j < 8 := by omega
                      obtain ⟨y, hy⟩ : ∃ y, T[j]'(by rw [HTL.out]; exact hj8) = y := ⟨_, rfl⟩
                      have hcell : wr.cell? ⟨g, o + (q + x) + j, none⟩ = some (.int .u8 (y.toNat : Int)) := by
                        have h9 : IsB wr (.slice (some ⟨g, o + (q + x), none⟩) 8 tc) T := HTB.out.keptS HKX.out (fun _ k e e2 => by have e3 : g = k := Option.some.inj e; have e4 : k = C := e2; have := HGR.out; have := HRC.out; omega)
                        obtain ⟨_, _, e9, -, -, h3⟩ := h9
                        injection e9 with e9 _ _
                        obtain ⟨g', o', e8, -, hc⟩ := h3.resolve_left (fun e => by have h8 := HTL.out; rw [e] at h8; simp at h8)
                        cases e9.trans e8
                        exact hc j (.int .u8 (y.toNat : Int)) (by simp [bytesV, List.getElem?_eq_getElem (show j < T.length by rw [HTL.out]; exact hj8), hy])
                      have hyl : y.toNat < 256 := y.toNat_lt
                      obtain ⟨hv, hv64⟩ := word_put X y
                      have h3 : IntKind.u64.wrap (y.toNat : Int) = (y.toNat : Int) := by rw [IntKind.wrap_u64]; omega
                      have HS : Hid (X * 256 % 18446744073709551616 + y.toNat = wordFrom 0 (T.take (j + 1))) := Lib.hid (by
                        have h9 := HX.out
                        unfold wordFrom at *
                        rw [List.take_succ_eq_append_getElem (by rw [HTL.out]; exact hj8), List.foldl_append, ← h9, hy]; rfl)
                      clear hy
                      generalize X * 256 % 18446744073709551616 + y.toNat = Z at *
                      have HCZ : Hid ((wr.setCell ⟨C, 1, none⟩ (.int .u64 Z)).heap[C]? = some (.cells #[.string s, .int .u64 Z] 38 (0, 0))) := Lib.hid ((heap_setCell_row HCX.out _).trans rfl)
                      have HKZ : Hid (Kept (· = C) wA (wr.setCell ⟨C, 1, none⟩ (.int .u64 Z))) := Lib.hid (HKX.out.trans ((Kept.refl (· = C) wr).setCell (p := ⟨C, 1, none⟩) (fun _ => rfl) _) (fun _ _ e => e))
                      go_wp2_with fail
                      go_roundg (gk - 1)
                      case measure => omega
                      case rel => exact ⟨j + 1, Z, by omega, by go_num, hv64, HS, HCZ, HKZ⟩
            · have he2b : (e2 != 0) = true := by simp [he2]
              have HO : Hid (O = none) := Lib.hid (HNO.out (by rw [HST.out, if_pos (Or.inl he2)]))
              go_wp2_with fail
              refine refs2_ret rfl rfl rfl rfl ((heap_setCell_row HH1.out _).trans rfl) ?_
              exact ⟨_, _, _, ⟨false, rfl, fun _ => rfl, fun L' h => by rw [HO.out] at h; cases h⟩, (HKW.out.more (HSC.out _ _) (fun i (e : i = _) => by have := HR.out; omega))⟩
  · have heb : (e != 0) = true := by simp [he]
    have HO : Hid (O = none) := Lib.hid (by rw [HRD.out, if_pos (Or.inl he)])
    go_wp2_with fail
    refine refs2_ret rfl rfl rfl rfl ((heap_setCell_row H1.out.2.1 _).trans rfl) ?_
    exact ⟨_, _, _, ⟨false, rfl, fun _ => rfl, fun L' h => by rw [HO.out] at h; cases h⟩, (H1.out.2.2.1.more (HSC.out _ _) (fun i (e : i = _) => by omega))⟩
end Go.Proofs.YtjnhkepgoghogaaGreatDoor

/- espalierref08.Open. -/
namespace Go.Proofs.YtjnhkepgoghogaaGreatDoor
open Go.RowKit Go.ChangeMaps Go.MapKept
set_option linter.unusedSimpArgs false

theorem rfGo_small : ∀ (f : Nat) (bs : List UInt8) (recs : List (List UInt8)) (sz : Nat), ∀ r ∈ (rfGo f bs recs sz).1, r ∈ recs ∨ r.length ≤ bs.length
  | 0, bs, recs, sz, r, h => .inl h
  | f + 1, bs, recs, sz, r, h => by
    rw [rfGo] at h
    have hp : (payAt bs).length ≤ bs.length := by unfold payAt; rw [List.length_take, List.length_drop]; omega
    by_cases h0 : bs = []
    · rw [if_pos h0] at h; exact .inl h
    rw [if_neg h0] at h
    by_cases h1 : (numB bs).2.2 = 110
    · rw [if_pos h1] at h; exact .inl h
    rw [if_neg h1] at h
    by_cases h2 : (numB bs).2.2 ≠ 0 ∨ 262144 < (numB bs).1
    · rw [if_pos h2] at h; exact .inl h
    rw [if_neg h2] at h
    by_cases h3 : bs.length - (numB bs).2.1 < (numB bs).1 + 8
    · rw [if_pos h3] at h; exact .inl h
    rw [if_neg h3] at h
    by_cases h4 : recB (payAt bs) ≠ bs.take (recB (payAt bs)).length
    · rw [if_pos h4] at h; exact .inl h
    rw [if_neg h4] at h
    rcases rfGo_small f _ _ _ r h with h5 | h5
    · rcases List.mem_append.1 h5 with h6 | h6
      · exact .inl h6
      · rw [List.mem_singleton.1 h6]; exact .inr hp
    · exact .inr (Nat.le_trans h5 (by rw [List.length_drop]; omega))
theorem rdR_small {L b L'} (h : rdR L b = some L') : L'.length ≤ 64 := by
  unfold rdR at h
  split at h
  · cases h
  · unfold rdEnd at h
    split at h
    · cases h
    · split at h
      · rename_i h9
        cases h
        exact h9.2
      · cases h
theorem foldlM_snoc {α β : Type} (f : β → α → Option β) : ∀ (l : List α) (b : β) (x : α), List.foldlM f b (l ++ [x]) = (List.foldlM f b l).bind (fun c => f c x) := by
  intro l b x
  rw [List.foldlM_append]
  cases List.foldlM f b l with
  | none => rfl
  | some c => simp [List.foldlM]
theorem foldlM_none {α β : Type} (f : β → α → Option β) (l m : List α) (b : β) (h : List.foldlM f b l = none) : List.foldlM f b (l ++ m) = none := by
  rw [List.foldlM_append, h]; rfl
/-- What Open answers. -/
def OpenPost (w : World) (o : Option (IdsL × Nat)) (e : Ending) (w' : World) : Prop :=
  ∃ a n c, (∃ sz ok, e = .returned (.tuple #[.agg #[.slice a n c], .int .i64 (sz : Nat), .bool ok]) ∧ (o = none → ok = false) ∧ ∀ q, o = some q → ok = true ∧ sz = q.2 ∧ IsR w' (.slice a n c) q.1) ∧ Kept (fun _ => False) w w'
theorem open3_ret {R : Ending → World → Prop} {W : World} {B : Nat} {v v2 v3 : Value} {t u1 u2 : Tmp} {fn : Func} {a : Act} (hf : fn.results = #[.cell t 32, .tmp u1, .tmp u2]) (ht : a.tmps.getD t undef = .pointer (some ⟨B, 0, none⟩)) (h1 : a.tmps.getD u1 undef = v2) (h2 : a.tmps.getD u2 undef = v3) (hd : a.defers = [])
    (hB : W.heap[B]? = some (.cells #[v] 32 (0, 0))) (hR : R (.returned (.tuple #[.agg #[v], v2, v3])) W) : bodyPost Tryz.prog fn R .ret a W := refs3_ret hf ht h1 h2 hd hB hR
set_option maxRecDepth 100000 in
set_option maxHeartbeats 2000000 in
theorem ropen_any (w : World) (a : Option Addr) (c : Nat) (b : List UInt8) (h : IsB w (.slice a b.length c) b) (hl : b.length ≤ 100000) :
    Calls Tryz.prog 17 #[.slice a b.length c] w (OpenPost w (roOf b)) := by
  have HB := Lib.hid h
  have HRO : Hid (roOf b = if (rfOf b).2.2 = true then none else (List.foldlM rdR [] (rfOf b).1).map (fun L => (L, (rfOf b).2.1))) := Lib.hid rfl
  have HSM : Hid (∀ r ∈ (rfOf b).1, r.length ≤ 100000) := Lib.hid (fun r hr => by
    rcases rfGo_small _ _ _ _ r hr with h9 | h9
    · simp at h9
    · omega)
  have HRF := Lib.hid (fun W (hW : Kept (fun _ => False) w W) => rfile_any W a c b (HB.out.keptF hW (fun _ _ f => f)) hl)
  obtain ⟨n, hn⟩ : ∃ n, b.length = n := ⟨_, rfl⟩
  rw [hn] at HRF hl ⊢
  generalize roOf b = O at HRO ⊢
  obtain ⟨⟨recs, sz, wrong⟩, hrf⟩ : ∃ q, rfOf b = q := ⟨_, rfl⟩
  rw [hrf] at HRF HRO HSM
  simp only at HRF HRO HSM
  clear h hn hrf
  obtain ⟨w1, hw1⟩ : ∃ W, w.alloc (.cells #[.slice none 0 0] 32) = W := ⟨_, rfl⟩
  have hk1 : Kept (fun _ => False) w w1 := by rw [← hw1]; exact (Kept.refl _ _).alloc _
  have hs1 : w1.heap.size = w.heap.size + 1 := by rw [← hw1]; simp
  have hb1 : w1.heap[w.heap.size]? = some (.cells #[.slice none 0 0] 32 (0, 0)) := by rw [← hw1]; exact heap_alloc_new _ _
  have H1 := Lib.hid (And.intro hb1 (And.intro hk1 hs1))
  have HRF1 := Lib.hid (HRF.out w1 hk1)
  clear hb1 hk1 hs1 HRF
  go_enter Tryz.func17, Tryz.ntmps17
  go_wp2_with fail
  refine HRF1.out.mono ?_
  rintro e w2 ⟨v, rfl, hov, hk2⟩
  obtain ⟨va, vc, hve, hm1, hm2⟩ := hov.form
  have hrm : recs.length ≤ 9223372036854775807 := by unfold maxLen at hm2; omega
  clear hm1 hm2
  subst hve
  have HV := Lib.hid hov
  have HK2 := Lib.hid hk2
  clear HRF1 hw1
  unfold fileV
  obtain ⟨w3, hw3⟩ : ∃ W, (w2.alloc (.cells #[.slice va recs.length vc, .int .i64 sz, .bool wrong] 95)).alloc (.cells #[.slice none 0 0] 32) = W := ⟨_, rfl⟩
  have hk3 : Kept (fun _ => False) w2 w3 := by rw [← hw3]; exact ((Kept.refl _ _).alloc _).alloc _
  have hbF : w3.heap[w2.heap.size]? = some (.cells #[.slice va recs.length vc, .int .i64 sz, .bool wrong] 95 (0, 0)) := by rw [← hw3]; exact alloc_old (heap_alloc_new _ _)
  have hbG : w3.heap[w2.heap.size + 1]? = some (.cells #[.slice none 0 0] 32 (0, 0)) := by
    have h7 := heap_alloc_new (w2.alloc (.cells #[.slice va recs.length vc, .int .i64 sz, .bool wrong] 95)) (.cells #[.slice none 0 0] 32)
    rw [World.size_alloc] at h7
    rw [← hw3]; exact h7
  have hbP : w3.heap[w.heap.size]? = some (.cells #[.slice none 0 0] 32 (0, 0)) := ((hk2.trans hk3 (fun _ _ f => f)).block _ (Array.getElem?_eq_some_iff.1 H1.out.1).1 (fun f => f)).trans H1.out.1
  obtain ⟨P, hP⟩ : ∃ P, w.heap.size = P := ⟨_, rfl⟩
  obtain ⟨F, hF⟩ : ∃ F, w2.heap.size = F := ⟨_, rfl⟩
  have HPF : Hid (P < F ∧ w.heap.size = P ∧ w1.heap.size = P + 1 ∧ P + 1 ≤ F ∧ F + 1 + 1 = w3.heap.size ∧ w2.heap.size = F) := Lib.hid (by
    have h7 := hk2.size
    have h8 := H1.out.2.2
    have h9 : w3.heap.size = w2.heap.size + 1 + 1 := by rw [← hw3]; simp
    omega)
  rw [hP] at hbP
  rw [hF] at hbF hbG
  have cP : w3.cell? ⟨P, 0, none⟩ = some (.slice none 0 0) := by simp [World.cell?, hbP]
  have fP : w3.frozen? ⟨P, 0, none⟩ = false := by simp [World.frozen?, hbP]
  have cF0 : w3.cell? ⟨F, 0, none⟩ = some (.slice va recs.length vc) := by simp [World.cell?, hbF]
  have cF1 : w3.cell? ⟨F, 1, none⟩ = some (.int .i64 sz) := by simp [World.cell?, hbF]
  have cF2 : w3.cell? ⟨F, 2, none⟩ = some (.bool wrong) := by simp [World.cell?, hbF]
  have cG : w3.cell? ⟨F + 1, 0, none⟩ = some (.slice none 0 0) := by simp [World.cell?, hbG]
  have HKW3 : Hid (Kept (fun _ => False) w w3) := Lib.hid ((H1.out.2.1.trans HK2.out (fun _ _ f => f)).trans hk3 (fun _ _ f => f))
  have HB3 := Lib.hid (And.intro hbP (And.intro hbF hbG))
  have HV3 := Lib.hid (HV.out.keptN hk3)
  have HSC : Hid (∀ (W : World) (v : Value), Kept (fun i => i = P) W (W.setCell ⟨P, 0, none⟩ v)) := Lib.hid (fun W v => (Kept.refl (fun i => i = P) W).setCell (p := ⟨P, 0, none⟩) (fun _ => rfl) _)
  clear hov hk2 hk3 hbF hbG hbP
  cases wrong with
  | true =>
    have HO : Hid (O = none) := Lib.hid (by rw [HRO.out, if_pos rfl])
    go_wp2_with fail
    refine refs3_ret rfl rfl rfl rfl rfl ((heap_setCell_row HB3.out.1 _).trans rfl) ?_
    exact ⟨_, _, _, ⟨0, false, rfl, fun _ => rfl, fun q h => by rw [HO.out] at h; cases h⟩, HKW3.out.more (HSC.out _ _) (fun i (e : i = P) => by have := HPF.out; omega)⟩
  | false =>
    have HO : Hid (O = (List.foldlM rdR [] recs).map (fun L => (L, sz))) := Lib.hid (by rw [HRO.out, if_neg (by simp)])
    clear HRO
    go_wp2_with fail
    clear hw3 hP hF
    obtain ⟨N, hN⟩ : ∃ N, recs.length = N := ⟨_, rfl⟩
    have HN := Lib.hid hN
    rw [hN] at HV3 HB3 HV hrm ⊢
    clear hN cP fP cF0 cF1 cF2 cG
    have HNB : Hid (∀ (W : World) (v : Value) (l : IdsL) (x : Value) (B : Nat), W.heap[B]? = some (.cells #[x] 32 (0, 0)) → (∃ a n c, x = .slice a n c) → IsR W v l → l ≠ [] → ∀ g, v.ownBlock = some g → g ≠ B) := Lib.hid (fun W v l x B hB hx hI hne g e e2 => by
      obtain ⟨o, s, hc, -⟩ := hI.block hne e
      obtain ⟨_, _, _, rfl⟩ := hx
      subst e2
      rcases o with _ | o
      · simp [World.cell?, hB] at hc
      · simp [World.cell?, hB] at hc)
    go_loopg [18] N (fun g iv wx => ∃ j cur oa oc, j + g = N ∧ iv = .int .i64 j ∧ Hid (List.foldlM rdR [] (recs.take j) = some cur) ∧ cur.length ≤ 64 ∧ Hid (wx.heap[F + 1]? = some (.cells #[.slice oa cur.length oc] 32 (0, 0))) ∧ Hid (IsR wx (.slice oa cur.length oc) cur) ∧ Hid (Kept (· = F + 1) w3 wx))
    case atStart => exact ⟨0, [], none, 0, by omega, rfl, Lib.hid rfl, by simp, Lib.hid HB3.out.2.2, Lib.hid ⟨none, 0, rfl, Nat.le_refl _, by simp [maxLen], .inl rfl⟩, Lib.hid (Kept.refl _ _)⟩
    case round =>
      obtain ⟨j, cur, oa, oc, hjg, rfl, HFO, hcl, HQ, HI, HK⟩ := hrel
      obtain ⟨nc, hnc⟩ : ∃ x, cur.length = x := ⟨_, rfl⟩
      have HNC := Lib.hid hnc
      rw [hnc] at HQ HI hcl
      clear hnc
      have hbP := (HK.out.block P (by have := HPF.out; omega) (by have := HPF.out; show ¬ P = F + 1; omega)).trans HB3.out.1
      have hbF := (HK.out.block F (by have := HPF.out; omega) (by show ¬ F = F + 1; omega)).trans HB3.out.2.1
      have HbP := Lib.hid hbP
      have cP : wr.cell? ⟨P, 0, none⟩ = some (.slice none 0 0) := by simp [World.cell?, hbP]
      have fP : wr.frozen? ⟨P, 0, none⟩ = false := by simp [World.frozen?, hbP]
      have cF1 : wr.cell? ⟨F, 1, none⟩ = some (.int .i64 sz) := by simp [World.cell?, hbF]
      have cG : wr.cell? ⟨F + 1, 0, none⟩ = some (.slice oa nc oc) := by simp [World.cell?, HQ.out]
      have fG : wr.frozen? ⟨F + 1, 0, none⟩ = false := by simp [World.frozen?, HQ.out]
      have HKWR : Hid (Kept (fun _ => False) w wr) := Lib.hid (HKW3.out.more HK.out (fun i (e : i = F + 1) => by have := HPF.out; omega))
      clear hbP hbF
      rcases Nat.eq_zero_or_pos gk with rfl | hpos
      · obtain rfl : j = N := by omega
        have HO2 : Hid (O = some (cur, sz)) := Lib.hid (by
          have h9 := HFO.out
          rw [List.take_of_length_le (by rw [HN.out]; exact Nat.le_refl _)] at h9
          rw [HO.out, h9]
          rfl)
        have HNBP := Lib.hid (fun (hne : cur ≠ []) => HNB.out wr _ cur _ P HbP.out ⟨_, _, _, rfl⟩ HI.out hne)
        go_wp2_with fail
        go_region
        go_wp2_with fail
        refine refs3_ret rfl rfl rfl rfl rfl (((heap_setCell_row HbP.out _).trans rfl : (wr.setCell ⟨P, 0, none⟩ (.slice oa nc oc)).heap[P]? = _)) ?_
        have hkS := (HSC.out wr (.slice oa nc oc)).trans ((Kept.refl (fun _ => False) _).drew) (fun _ _ f => f.elim)
        refine ⟨oa, nc, oc, ⟨sz, true, rfl, (fun h => by rw [HO2.out] at h; cases h), fun q h => ?_⟩, HKWR.out.more hkS (fun i (e : i = P) => by have := HPF.out; omega)⟩
        rw [HO2.out] at h
        cases h
        exact ⟨rfl, rfl, HI.out.keptS hkS (fun hne g e e2 => HNBP.out hne g e e2)⟩
      · have hlt : (j : Int) < (N : Int) := by omega
        have hjr : j < recs.length := by rw [HN.out]; omega
        obtain ⟨gv, u, hva, hgF, -, hcu, hIu, hbu, ua, uc, hue, huc⟩ := (HV3.out.kept HK.out (fun k (e : k = F + 1) => ⟨by have := HPF.out; omega, fun e2 => by have := HV.out.lt k e2; have := HPF.out; omega⟩)).at (i := j) hjr
        subst hva
        have HTK : Hid (List.foldlM rdR [] (recs.take (j + 1)) = rdR cur recs[j]) := Lib.hid (by rw [List.take_succ_eq_append_getElem hjr, foldlM_snoc, HFO.out]; rfl)
        have HNX : Hid (rdR cur recs[j] = none → O = none) := Lib.hid (fun h => by
          have h9 : List.foldlM rdR [] recs = none := by
            rw [← List.take_append_drop (j + 1) recs]
            exact foldlM_none _ _ _ _ (by rw [HTK.out, h])
          rw [HO.out, h9]
          rfl)
        have hpl := HSM.out recs[j] (List.getElem_mem hjr)
        obtain ⟨p, hp⟩ : ∃ p, recs[j] = p := ⟨_, rfl⟩
        rw [hp] at hIu hue huc HTK HNX hpl
        subst hue
        have HRD := Lib.hid (rread08_any wr oa oc cur (by rw [HNC.out]; exact HI.out) (by rw [HNC.out]; omega) ua uc p hIu huc hpl)
        rw [HNC.out] at HRD
        clear hp hIu hbu
        go_wp2_with fail
        refine HRD.out.mono ?_
        rintro e9 w5 ⟨xa, xn, xc, ⟨ok, rfl, h1, h2⟩, hk5⟩
        have hbG := (hk5.block _ (Array.getElem?_eq_some_iff.1 HQ.out).1 (fun f => f)).trans HQ.out
        have hbP5 := (hk5.block _ (Array.getElem?_eq_some_iff.1 HbP.out).1 (fun f => f)).trans HbP.out
        have cG5 : w5.cell? ⟨F + 1, 0, none⟩ = some (.slice oa nc oc) := by simp [World.cell?, hbG]
        have fG5 : w5.frozen? ⟨F + 1, 0, none⟩ = false := by simp [World.frozen?, hbG]
        obtain ⟨w6, hw6⟩ : ∃ W, w5.setCell ⟨F + 1, 0, none⟩ (.slice xa xn xc) = W := ⟨_, rfl⟩
        have hkS : Kept (· = F + 1) w5 w6 := by rw [← hw6]; exact (Kept.refl (· = F + 1) w5).setCell (p := ⟨F + 1, 0, none⟩) (fun _ => rfl) _
        have hbG6 : w6.heap[F + 1]? = some (.cells #[.slice xa xn xc] 32 (0, 0)) := by rw [← hw6]; exact (heap_setCell_row hbG _).trans rfl
        have hbP6 := (hkS.block P (Array.getElem?_eq_some_iff.1 hbP5).1 (by have := HPF.out; show ¬ P = F + 1; omega)).trans hbP5
        have cP6 : w6.cell? ⟨P, 0, none⟩ = some (.slice none 0 0) := by simp [World.cell?, hbP6]
        have fP6 : w6.frozen? ⟨P, 0, none⟩ = false := by simp [World.frozen?, hbP6]
        have HK6 : Hid (Kept (· = F + 1) w3 w6) := Lib.hid ((HK.out.trans hk5 (fun _ _ f => f.elim)).trans hkS (fun _ _ e => e))
        have HKW6 : Hid (Kept (fun _ => False) w w6) := Lib.hid (HKW3.out.more HK6.out (fun i (e : i = F + 1) => by have := HPF.out; omega))
        have HP6 := Lib.hid hbP6
        have HG6 := Lib.hid hbG6
        cases hr : rdR cur p with
        | none =>
          obtain rfl := h1 hr
          have HO2 := Lib.hid (HNX.out hr)
          clear h1 h2 hr hkS hbG6 hbP6 hbG hbP5
          go_wp2_with fail
          refine refs3_ret rfl rfl rfl rfl rfl ((heap_setCell_row HP6.out _).trans rfl) ?_
          exact ⟨_, _, _, ⟨0, false, rfl, fun _ => rfl, fun q h => by rw [HO2.out] at h; cases h⟩, HKW6.out.more (HSC.out _ _) (fun i (e : i = P) => by have := HPF.out; omega)⟩
        | some L' =>
          obtain ⟨rfl, hI'⟩ := h2 L' hr
          have hL64 := rdR_small hr
          obtain rfl : xn = L'.length := by obtain ⟨_, _, e9, -⟩ := hI'; injection e9
          have HI6 : Hid (IsR w6 (.slice xa L'.length xc) L') := Lib.hid (hI'.keptS hkS (fun hne g e (e2 : g = F + 1) => HNB.out w5 _ L' _ (F + 1) hbG ⟨_, _, _, rfl⟩ hI' hne g e e2))
          have HT2 : Hid (List.foldlM rdR [] (recs.take (j + 1)) = some L') := Lib.hid (by rw [HTK.out, hr])
          clear h1 h2 hr hkS hbG6 hbP6 hbG hbP5 hI'
          go_wp2_with fail
          go_roundg (gk - 1)
          case measure => omega
          case rel => exact ⟨j + 1, L', xa, xc, by omega, by go_num, HT2, hL64, HG6, HI6, HK6⟩
end Go.Proofs.YtjnhkepgoghogaaGreatDoor

/- espalierlaw08.RefsOpens: the plain part and the walk. -/
namespace Go.Proofs.YtjnhkepgoghogaaGreatDoor
open Go.RowKit Go.ChangeMaps Go.MapKept
set_option linter.unusedSimpArgs false

theorem rfGo_sz : ∀ (f : Nat) (bs : List UInt8) (recs : List (List UInt8)) (sz : Nat), (rfGo f bs recs sz).2.1 ≤ sz + bs.length
  | 0, bs, recs, sz => by simp [rfGo]
  | f + 1, bs, recs, sz => by
    rw [rfGo]
    by_cases h0 : bs = []
    · rw [if_pos h0]; simp
    rw [if_neg h0]
    by_cases h1 : (numB bs).2.2 = 110
    · rw [if_pos h1]; simp
    rw [if_neg h1]
    by_cases h2 : (numB bs).2.2 ≠ 0 ∨ 262144 < (numB bs).1
    · rw [if_pos h2]; simp
    rw [if_neg h2]
    by_cases h3 : bs.length - (numB bs).2.1 < (numB bs).1 + 8
    · rw [if_pos h3]; simp
    rw [if_neg h3]
    by_cases h4 : recB (payAt bs) ≠ bs.take (recB (payAt bs)).length
    · rw [if_pos h4]; simp
    rw [if_neg h4]
    have h5 := rfGo_sz f (bs.drop (recB (payAt bs)).length) (recs ++ [payAt bs]) (sz + (recB (payAt bs)).length)
    have h6 : (recB (payAt bs)).length ≤ bs.length := by
      have h7 : recB (payAt bs) = bs.take (recB (payAt bs)).length := by simpa using h4
      have h8 := congrArg List.length h7
      rw [List.length_take] at h8
      omega
    rw [List.length_drop] at h5
    omega
def disk0 : DM := ⟨[], 0, 0, false⟩
structure FileIs (D : DM) (b : List UInt8) : Prop where
  ok : D.Ok
  cut : D.cut = false
  bytes : D.bytes refsB = b
  writes : D.writes ≤ 5000
  there : b ≠ [] → getA refsB D.files ≠ none
theorem append_file (b : List UInt8) (hb : b.length ≤ 4000) (h0 : disk0.Ok) : (DM.append disk0 refsB b).1 = 0 ∧ FileIs (DM.append disk0 refsB b).2 b := by
  have hby : disk0.bytes refsB = [] := rfl
  have hg : getA refsB disk0.files = none := rfl
  by_cases hn : b = []
  · subst hn
    have hra := DM.raw_free (D := disk0) rfl
    have he : DM.append disk0 refsB [] = (0, DM.put { disk0 with writes := disk0.writes + 1 } refsB []) := by
      unfold DM.append
      rw [if_neg (by rw [mayB_refs]; decide), if_neg (fun e => by cases e.2), if_neg (by rw [hby]; simp), if_pos ⟨rfl, hg⟩, hra]
    rw [he]
    have hor := (DM.raw_ok h0 hra).1
    exact ⟨rfl, DM.put_ok hor mayB_refs (by simp) (fun _ => by decide), rfl, DM.bytes_put _ _ _, by decide, fun h => absurd rfl h⟩
  · have he := append_leave refsB mayB_refs b hn disk0 (by rw [hby]; simp; omega) (fun _ => by decide)
    have hp := pieces_leave refsB mayB_refs b disk0 h0 (by rw [hby]; simp; omega) (fun _ => by decide)
    rw [he]
    obtain ⟨p1, p2, p3, p4, p5⟩ := hp
    rcases p5 with ⟨q1, q2⟩ | ⟨-, q2, -⟩
    · refine ⟨q1, p1, p2, by rw [q2, hby]; rfl, by have : disk0.writes = 0 := rfl; omega, fun _ e => ?_⟩
      have h7 := q2
      unfold DM.bytes at h7
      rw [e] at h7
      have h8 : (getA refsB disk0.files).getD [] ++ b = b := rfl
      rw [h8] at h7
      exact hn h7.symm
    · cases q2
/-- What refs.Open makes of a file. -/
theorem openR_of {D : DM} {b : List UInt8} (h : FileIs D b) : (roOf b = none → (openR D).1 = 8) ∧ ∀ L sz, roOf b = some (L, sz) → ∃ D2 J S, openR D = (0, D2, J, S) ∧ L = allOf S ∧ ReadOk S ∧ D2.bytes refsB = b.take sz ∧ sz ≤ b.length := by
  have hsz : ∀ L sz, roOf b = some (L, sz) → sz ≤ b.length := fun L sz e => by
    unfold roOf at e
    split at e
    · cases e
    · cases hm : List.foldlM rdR [] (rfOf b).1 with
      | none => rw [hm] at e; cases e
      | some x =>
        rw [hm] at e
        cases e
        have := rfGo_sz b.length b [] 0
        unfold rfOf
        omega
  have hj : openJ D refsB = openOf D refsB b.length (jOpen b) := by unfold openJ; rw [h.bytes]
  rw [roOf_eq] at hsz ⊢
  cases hjo : jOpen b with
  | none =>
    rw [hjo] at hj hsz
    refine ⟨fun _ => ?_, fun L sz e => by cases e⟩
    have hj2 : openJ D refsB = (8, D, ⟨refsB, [], 0, false⟩) := hj
    unfold openR
    rw [hj2]
    rfl
  | some q =>
    obtain ⟨recs, sz⟩ := q
    rw [hjo] at hj hsz
    simp only at hsz ⊢
    have hd : ∃ D2, openJ D refsB = (0, D2, ⟨refsB, recs, sz, false⟩) ∧ (sz ≤ b.length → D2.bytes refsB = b.take sz) := by
      rw [hj]
      unfold openOf
      simp only
      by_cases hlt : sz < b.length
      · have hne : b ≠ [] := fun e => by rw [e] at hlt; simp at hlt
        have hra := DM.raw_free h.cut
        have htr : D.truncate refsB sz = (0, DM.put { D with writes := D.writes + 1 } refsB (b.take sz)) := by
          unfold DM.truncate
          rw [if_neg (h.there hne), h.bytes, if_neg (by omega), if_neg (by omega), hra]
          simp
        rw [if_pos hlt, htr]
        exact ⟨_, rfl, fun _ => DM.bytes_put _ _ _⟩
      · rw [if_neg hlt]
        exact ⟨_, rfl, fun hle => by rw [h.bytes, List.take_of_length_le (by omega)]⟩
    obtain ⟨D2, hd, hb2⟩ := hd
    have ho : openR D = openRec (0, D2, ⟨refsB, recs, sz, false⟩) (replay recs) := by
      unfold openR
      rw [hd]
      simp only [if_true]
    have hro := (ReadOk.nil.replay (recs := recs)).1
    rw [ho]
    cases hr : replay recs with
    | none =>
      refine ⟨fun _ => rfl, fun L s e => by cases e⟩
    | some S =>
      refine ⟨fun e => (by cases e), fun L s e => ?_⟩
      rw [hr] at hsz
      simp only [Option.map_some] at hsz
      have hs := hsz _ _ rfl
      cases e
      exact ⟨D2, _, S, rfl, rfl, hro S hr, hb2 hs, hs⟩
set_option maxRecDepth 100000 in
set_option maxHeartbeats 2000000 in
theorem opens_law (w : World) (a : Option Addr) (c : Nat) (b0 : List UInt8) (h : IsB w (.slice a b0.length c) b0) : Calls Tryz.prog 4 #[.slice a b0.length c] w fun e w' => e = .returned (.bool true) ∧ Kept (fun _ => False) w w' := by
  obtain ⟨_, _, he, hlc, hcm, -⟩ := id h
  cases he
  obtain ⟨n0, hn0⟩ : ∃ n, b0.length = n := ⟨_, rfl⟩
  obtain ⟨m, hm⟩ : ∃ m : Nat, min n0 4000 = m := ⟨_, rfl⟩
  have hmz : min (n0 : Int) 4000 = (m : Int) := by omega
  have HB : Hid (IsB w (.slice a m c) (b0.take m)) := Lib.hid (h.take (by omega))
  have hbl : (b0.take m).length = m := by rw [List.length_take]; omega
  obtain ⟨b, hb⟩ : ∃ l, b0.take m = l := ⟨_, rfl⟩
  rw [hb] at HB hbl
  rw [hn0] at hlc ⊢
  have hn63 : n0 ≤ 9223372036854775807 := by unfold maxLen at hcm; omega
  have hmc : m ≤ c := by omega
  have hm4 : m ≤ 4000 := by omega
  have HBL := Lib.hid hbl
  clear h hb hn0 hm hbl
  go_enter Tryz.func4, Tryz.ntmps4
  go_wp2_with fail
  refine (wakes08_any w).mono ?_
  rintro e w1 ⟨rfl, hk1⟩
  have HK1 := Lib.hid hk1
  clear hk1
  go_wp2_with fail
  refine (new_any w1).mono ?_
  rintro e w2 ⟨db, dm, rfl, hdb, hdm, hd, hk2⟩
  have HK2 : Hid (Kept (fun _ => False) w w2) := Lib.hid (HK1.out.more hk2 (fun _ f => f.elim))
  have hdf : ∀ k, diskF db dm #[] k → w.heap.size ≤ k := fun k hk => by
    have := HK1.out.size
    rcases hk with rfl | rfl | ⟨e, he, -⟩
    · omega
    · omega
    · simp at he
  have HDF := Lib.hid hdf
  have hblt : b ≠ [] → ∀ g, (Value.slice a m c).ownBlock = some g → g < w.heap.size := fun hne => HB.out.block_lt hne
  have HBLT := Lib.hid hblt
  have HAP := Lib.hid (append_any hd (s := refsB) (by decide) a c b (by rw [HBL.out]; exact HB.out.keptF HK2.out (fun _ _ f => f)) (by rw [HBL.out]; exact fun hne g e f => by have := hblt hne g e; have := hdf g f; omega) (by decide))
  rw [HBL.out] at HAP
  obtain ⟨hz, hfi⟩ := append_file b (by rw [HBL.out]; exact hm4) hd.ok
  have hd0 : (⟨[], 0, 0, false⟩ : DM) = disk0 := rfl
  rw [hd0, hz] at HAP
  obtain ⟨D1, hD1⟩ : ∃ D, (DM.append disk0 refsB b).2 = D := ⟨_, rfl⟩
  rw [hD1] at HAP hfi
  have HFI := Lib.hid hfi
  unfold refsB at HAP
  clear hz hfi hD1 hd hk2 hdb hdm hdf hblt
  go_wp2_with fail
  refine HAP.out.mono ?_
  rintro e w3 ⟨rfl, es3, clk3, hA3⟩
  have HK3 : Hid (Kept (fun _ => False) w w3) := Lib.hid (HK2.out.more hA3.kept HDF.out)
  have hf3 : ∀ k, diskF db dm es3 k → w.heap.size ≤ k := fun k hk => (hA3.foot k hk).elim (HDF.out k) (fun h => by have := HK2.out.size; omega)
  have HF3 := Lib.hid hf3
  have HOP := Lib.hid (open_any hA3.disk (by have := HFI.out.writes; omega))
  have HOR := Lib.hid (openR_of HFI.out)
  have HB3 : Hid (IsB w3 (.slice a m c) b) := Lib.hid (HB.out.keptF HK3.out (fun _ _ f => f))
  clear hA3 hf3 HAP
  obtain ⟨⟨er, D2, J2, S2⟩, hO⟩ : ∃ o, openR D1 = o := ⟨_, rfl⟩
  rw [hO] at HOP HOR
  simp only at HOP HOR
  clear hO
  go_wp2_with fail
  refine HOP.out.mono ?_
  rintro e w4 ⟨es4, clk4, hA4, hne, heq⟩
  have HK4 : Hid (Kept (fun _ => False) w w4) := Lib.hid (HK3.out.more hA4.kept HF3.out)
  have HB4 : Hid (IsB w4 (.slice a m c) b) := Lib.hid (HB.out.keptF HK4.out (fun _ _ f => f))
  have HRO := Lib.hid (ropen_any w4 a c b (by rw [HBL.out]; exact HB4.out) (by rw [HBL.out]; omega))
  rw [HBL.out] at HRO
  cases hro : roOf b with
  | none =>
    have he8 : er = 8 := HOR.out.1 hro
    subst he8
    obtain rfl := hne (by decide)
    rw [hro] at HRO
    clear hne heq hro hA4
    go_wp2_with fail
    refine HRO.out.mono ?_
    rintro e w5 ⟨ra, rn, rc, ⟨sz, ok, rfl, h1, -⟩, hk5⟩
    obtain rfl := h1 rfl
    have HK5 : Hid (Kept (fun _ => False) w w5) := Lib.hid (HK4.out.more hk5 (fun _ f => f.elim))
    clear h1 hk5
    go_wp2_with fail
    refine (wakes08_any _).mono ?_
    rintro e w6 ⟨rfl, hk6⟩
    go_wp2_with fail
    go_ret
    exact ⟨rfl, (HK5.out.more ((Kept.refl (fun _ => False) _).alloc _) (fun _ f => f.elim)).more hk6 (fun _ f => f.elim)⟩
  | some q =>
    obtain ⟨L, sz⟩ := q
    obtain ⟨D3, J3, S3, ho, rfl, hrk, hby, hsz⟩ := HOR.out.2 L sz hro
    injection ho with h1 h2
    injection h2 with h2 h3
    injection h3 with h3 h4
    subst h1 h2 h3 h4
    obtain ⟨r, im, ies, iclk, j, av, pv, l, rfl, hR, hr, him, hj, -, -⟩ := heq rfl
    rw [hro] at HRO
    clear hne heq hro
    go_wp2_with fail
    refine HRO.out.mono ?_
    rintro e w5 ⟨ra, rn, rc, ⟨sz', ok, rfl, -, h1⟩, hk5⟩
    obtain ⟨rfl, rfl, hI5⟩ := h1 _ rfl
    simp only at hI5 ⊢
    obtain rfl : rn = (allOf S2).length := by obtain ⟨_, _, e9, -⟩ := hI5; injection e9
    obtain ⟨w6, hw6⟩ : ∃ W, w5.alloc (.cells #[.slice ra (allOf S2).length rc] 32) = W := ⟨_, rfl⟩
    have hk56 : Kept (fun _ => False) w5 w6 := by rw [← hw6]; exact (Kept.refl _ _).alloc _
    have hbX : w6.heap[w5.heap.size]? = some (.cells #[.slice ra (allOf S2).length rc] 32 (0, 0)) := by rw [← hw6]; exact heap_alloc_new _ _
    have hk46 := hk5.trans hk56 (fun _ _ f => f)
    have HR6 := Lib.hid (hR.keptN hk46)
    have HI6 := Lib.hid (hI5.keptN hk56)
    have HK6 : Hid (Kept (fun _ => False) w w6) := Lib.hid (HK4.out.more hk46 (fun _ f => f.elim))
    have HBX := Lib.hid hbX
    have HRD := Lib.hid (read_any HR6.out.jour.disk refsB)
    unfold ReadEnd at HRD
    rw [hby] at HRD
    unfold refsB at HRD
    generalize (if Option.isSome _ = true then (0 : Int) else 4) = ef at HRD
    have HRK := Lib.hid hrk
    obtain ⟨X, hX⟩ : ∃ X, w5.heap.size = X := ⟨_, rfl⟩
    have hszm : sz' ≤ m := by rw [HBL.out] at hsz; exact hsz
    have hszc : sz' ≤ c := by omega
    rw [hX] at HBX
    clear hbX hk56 hk46 hR hI5 hk5 h1 hby hsz hA4 hrk hr him hj HOR HOP HRO
    go_wp2_with fail
    refine HRD.out.mono ?_
    rintro e w7 ⟨v7, rfl, hf7, -⟩
    obtain ⟨a7, c7, h7e, -, -, -⟩ := id hf7.own.isB
    subst h7e
    have HR7 := Lib.hid (HR6.out.keptN hf7.kept)
    have HI7 := Lib.hid (HI6.out.keptN hf7.kept)
    have HK7 : Hid (Kept (fun _ => False) w w7) := Lib.hid (HK6.out.more hf7.kept (fun _ f => f.elim))
    have hX7 := (hf7.kept.block _ (Array.getElem?_eq_some_iff.1 HBX.out).1 (fun f => f)).trans HBX.out
    have cX : w7.cell? ⟨X, 0, none⟩ = some (.slice ra (allOf S2).length rc) := by simp [World.cell?, hX7]
    obtain ⟨w8, hw8⟩ : ∃ W, w7.alloc (.cells #[.string ⟨#[97]⟩, .string ⟨#[]⟩, .string ⟨#[98, 47, 99]⟩] 9) = W := ⟨_, rfl⟩
    have hk8 : Kept (fun _ => False) w7 w8 := by rw [← hw8]; exact (Kept.refl _ _).alloc _
    have hb8 : w8.heap[w7.heap.size]? = some (.cells #[.string ⟨#[97]⟩, .string ⟨#[]⟩, .string ⟨#[98, 47, 99]⟩] 9 (0, 0)) := by rw [← hw8]; exact heap_alloc_new _ _
    have hIS : IsS w8 (.slice (some ⟨w7.heap.size, 0, none⟩) 3 3) [⟨#[97]⟩, ⟨#[]⟩, ⟨#[98, 47, 99]⟩] := ⟨_, _, rfl, by simp, by simp [maxLen], .inr ⟨w7.heap.size, 0, rfl, (Array.getElem?_eq_some_iff.1 hb8).1, fun i x hx => by
      match i, hx with
      | 0, hx => cases hx; simp [World.cell?, hb8]
      | 1, hx => cases hx; simp [World.cell?, hb8]
      | 2, hx => cases hx; simp [World.cell?, hb8]
      | i + 3, hx => simp at hx⟩⟩
    have HSM := Lib.hid (same_any (HR7.out.keptN hk8).refs (fun p hp => by have := path_size (HRK.out.names p hp).1; omega) (fun p hp => (HRK.out.names p hp).2) (by have := HRK.out.most; omega) ra rc (HI7.out.keptN hk8) (some ⟨w7.heap.size, 0, none⟩) 3 [⟨#[97]⟩, ⟨#[]⟩, ⟨#[98, 47, 99]⟩] hIS)
    have HL7 := Lib.hid (hf7.own.isB.keptF hk8 (fun _ _ f => f))
    have HK8 : Hid (Kept (fun _ => False) w w8) := Lib.hid (HK7.out.more hk8 (fun _ f => f.elim))
    have hlt7 : (b.take sz').length = sz' := by rw [List.length_take, HBL.out]; omega
    rw [hlt7] at HL7 ⊢
    clear hf7 hX7 hk8 hb8 hIS hlt7
    go_wp2_with fail
    refine HSM.out.mono ?_
    rintro e w9 ⟨rfl, hk9⟩
    have HEQ := Lib.hid (equal_any w9 _ _ (b.take sz') (b.take sz') (HL7.out.keptF hk9 (fun _ _ f => f)) (((HB.out.keptF HK8.out (fun _ _ f => f)).keptF hk9 (fun _ _ f => f)).take (k := sz') (by rw [HBL.out]; exact hszm)))
    rw [decide_eq_true rfl] at HEQ
    have HK9 : Hid (Kept (fun _ => False) w w9) := Lib.hid (HK8.out.more hk9 (fun _ f => f.elim))
    clear hk9
    go_wp2_with fail
    refine HEQ.out.mono ?_
    rintro e w10 ⟨rfl, rfl⟩
    go_wp2_with fail
    refine (wakes08_any _).mono ?_
    rintro e w11 ⟨rfl, hk11⟩
    go_wp2_with fail
    go_ret
    exact ⟨rfl, HK9.out.more hk11 (fun _ f => f.elim)⟩
end Go.Proofs.YtjnhkepgoghogaaGreatDoor
