/- graph: from. -/
import Derived.Test.YtikacgiccllolaaGreatFromA
import Derived.BigQuiet
import Derived.Deep.RegionHeld
set_option linter.unusedSimpArgs false
namespace Go.Proofs.YtikacgiccllolaaGreat
open Go.RowKit Go.ChangeMaps Go.MapKept

def fromE (w' : World) (n0 s : Nat) (F : Nat → Prop) (os : List OM) (Wb M : Nat) (e : Ending) : Except Int (List Nat) → Prop
  | .ok o => e = .returned (.int .i64 0) ∧ ∃ es clock ov L, WalkAt w' n0 s F os Wb M es clock ov L o []
  | .error c => e = .returned (.int .i64 c) ∧ c ≠ 0
theorem keptDrewN (w : World) (n : Nat) : Kept (fun _ => False) w (w.drewN n) := ⟨rfl, rfl, rfl, Nat.le_refl _, fun _ _ _ => rfl⟩
theorem resume_at {N : List NodeM} {Fu : Nat} {order : List Nat} {T : List StopM} {p : StopM} {nx : Nat} (hn : nx < p.ps.length) (hF : N.length ≤ Fu) (hg : GoodP N order ((T ++ [p]).map StopM.id)) {x : Nat} (hx : p.ps[nx] = x) :
    (stN order ((T ++ [p]).map StopM.id) x = some 1 → resume N Fu (pileF (T ++ [{ p with next := nx }])) order = .error 210) ∧
    (stN order ((T ++ [p]).map StopM.id) x = some 2 → resume N Fu (pileF (T ++ [{ p with next := nx }])) order = resume N Fu (pileF (T ++ [{ p with next := nx + 1 }])) order) ∧
    (stN order ((T ++ [p]).map StopM.id) x = none → (findN N x = none → resume N Fu (pileF (T ++ [{ p with next := nx }])) order = .error 4) ∧
      (∀ d, findN N x = some d → d.other = true → resume N Fu (pileF (T ++ [{ p with next := nx }])) order = .error 170) ∧
      (∀ d, findN N x = some d → d.other = false → ∀ u, resume N Fu (pileF (T ++ [{ p with next := nx }])) order = resume N Fu (pileF (T ++ [{ p with next := nx + 1 }] ++ [⟨x, u, d.parents, 0⟩])) order)) := by
  subst hx
  have hm : (T ++ [{ p with next := nx }]).map StopM.id = (T ++ [p]).map StopM.id := by simp
  have := resume_step (p := { p with next := nx }) (T := T) (N := N) (Fu := Fu) (order := order) hn (by
    have h8 := hg.len
    simp at h8
    omega) (by rw [hm]; exact hg)
  rw [hm] at this
  exact this
set_option maxRecDepth 100000 in
set_option maxHeartbeats 1000000 in
theorem from_any {w : World} {n0 s : Nat} {F : Nat → Prop} {os : List OM} {Wb M : Nat} {es : Array MapEntry} {clock : Nat} {ov : Value} {L : List (Int × Nat)} {order : List Nat} (h : WalkAt w n0 s F os Wb M es clock ov L order []) (head : Nat) (hg : GoodP (nodesO os) order []) (Fu : Nat) (hFu : os.length ≤ Fu) (hos : os.length ≤ 100000) :
    Calls Tryz.prog 51 #[.pointer (some ⟨Wb, 0, none⟩), .int .u64 head] w fun e w' => fromE w' n0 s F os Wb M e (fromR (nodesO os) (Fu + 1) head order []) ∧ Kept (fun i => n0 ≤ i) w w' := by
  have hn0 : n0 ≤ w.heap.size := Nat.le_trans h.nW (Nat.le_of_lt (Array.getElem?_eq_some_iff.1 h.cell).1)
  obtain ⟨w1, hw1⟩ : ∃ w1, w.alloc (.cells #[.pointer (some ⟨Wb, 0, none⟩)] 79) = w1 := ⟨_, rfl⟩
  have hk1 : Kept (fun _ => False) w w1 := by rw [← hw1]; exact (Kept.refl _ _).alloc _
  have hb1 : w1.heap[w.heap.size]? = some (.cells #[.pointer (some ⟨Wb, 0, none⟩)] 79 (0, 0)) := by rw [← hw1]; exact heap_alloc_new _ _
  have h1 := h.keptN hk1
  obtain ⟨c0, c1, c2, -⟩ := h1.c
  have d0 : w1.cell? ⟨w.heap.size, 0, none⟩ = some (.pointer (some ⟨Wb, 0, none⟩)) := by simp [World.cell?, hb1]
  have hl := h1.look head w1 h1.map
  by_cases hin : head ∈ order
  · rw [show stN order [] head = some 2 from if_pos hin] at hl
    have hF : Hid (fromR (nodesO os) (Fu + 1) head order [] = .ok order) := Lib.hid (fromR_seen _ _ _ _ hin)
    have H1 := Lib.hid h1
    have HK := Lib.hid hk1
    rw [hF.out]
    simp only [Option.getD_some] at hl
    rw [show ((2 : Nat) : Int) = 2 from rfl] at hl
    clear h h1 hk1 hin hb1
    go_enter Tryz.func51, Tryz.ntmps51
    go_wp2_with fail
    go_step3
    go_wp2_with fail
    (try rw [Exit.noGoto_ret])
    go_ret
    exact ⟨⟨rfl, _, _, _, _, H1.out⟩, HK.out.mono (fun _ _ f => f.elim)⟩
  · rw [show stN order [] head = none from by unfold stN; rw [if_neg hin, if_neg (by simp)]] at hl
    simp only [Option.getD_none] at hl
    rw [show ((0 : Nat) : Int) = 0 from rfl] at hl
    obtain ⟨R, hR⟩ : ∃ R, fromR (nodesO os) (Fu + 1) head order [] = R := ⟨_, rfl⟩
    rw [hR]
    have HR := Lib.hid hR
    clear hR
    go_enter Tryz.func51, Tryz.ntmps51
    go_wp2_with fail
    go_step3
    go_wp2_with fail
    refine callsAt ?_
    intro W hW
    have hkW : Kept (fun _ => False) w1 W := by rw [hW]; exact ((Kept.refl _ _).alloc _).alloc _
    have hbp : W.heap[w1.heap.size + 1]? = some (.cells #[.slice (some ⟨w1.heap.size, 0, none⟩) 0 0] 174 (0, 0)) := by rw [hW, ← World.size_alloc w1 (.cells #[] 176)]; exact heap_alloc_new _ _
    have hrow : W.heap[w1.heap.size]? = some (.cells #[] 176 (0, 0)) := by rw [hW, Below.heap_alloc _ _ _ (by simp)]; exact heap_alloc_new _ _
    have hFA : FromAt W n0 s F os Wb M w.heap.size (w1.heap.size + 1) es clock ov (.slice (some ⟨w1.heap.size, 0, none⟩) 0 0) L order [] :=
      ⟨h1.keptN hkW, (hkW.block _ (Array.getElem?_eq_some_iff.1 hb1).1 (fun f => f)).trans hb1, hbp, hn0, by have := hk1.size; omega, ⟨rfl, .inr ⟨_, 0, #[], rfl, by have := hk1.size; omega, hrow, Nat.le_refl _, by simp [maxLen], rfl, rfl⟩⟩, fun p hp => by simp at hp⟩
    have hkWW := hk1.more hkW (fun _ f => f.elim)
    have HPU := Lib.hid (push_any hFA head hin (by simp))
    have HK0 := Lib.hid hkWW
    have HW : Hid (w.heap.size < w1.heap.size + 1 ∧ n0 ≤ w.heap.size) := Lib.hid ⟨by have := hk1.size; omega, hn0⟩
    obtain ⟨BP, hBP⟩ : ∃ BP, w1.heap.size + 1 = BP := ⟨_, rfl⟩
    rw [hBP] at HPU HW ⊢
    have HIN := Lib.hid hin
    have HGD := Lib.hid hg
    have HFU : Hid (os.length ≤ Fu ∧ os.length ≤ 100000) := Lib.hid ⟨hFu, hos⟩
    clear hW hkW hbp hrow hFA hkWW h h1 hk1 hb1 hw1 hl c0 c1 c2 d0 hBP hn0 hin hg hFu hos
    refine HPU.out.mono ?_
    rintro e w2 ⟨rfl, hk2, hok⟩
    have HK2 := Lib.hid hk2
    clear hk2
    rcases comR_nodes os head with ⟨hf, hc⟩ | ⟨d, hf, hd, hc⟩ | ⟨d, hf, hd, hc, hps⟩
    · rw [hc]
      have HQ : R = .error 4 := HR.out.symm.trans (fromR_none _ _ _ _ HIN.out hf)
      clear hc hok hf
      subst HQ
      go_wp2_with fail
      (try rw [Exit.noGoto_ret])
      go_ret
      exact ⟨⟨rfl, by decide⟩, (HK0.out.mono (fun _ _ f => f.elim)).trans HK2.out (fun _ _ h => h)⟩
    · rw [hc]
      have HQ : R = .error 170 := HR.out.symm.trans (fromR_other _ _ _ _ HIN.out hf hd)
      clear hc hok hf hd
      subst HQ
      go_wp2_with fail
      (try rw [Exit.noGoto_ret])
      go_ret
      exact ⟨⟨rfl, by decide⟩, (HK0.out.mono (fun _ _ f => f.elim)).trans HK2.out (fun _ _ h => h)⟩
    · obtain ⟨es2, clock2, pv2, L2, u, hA⟩ := hok hc
      rw [hc]
      rw [hps] at hA
      have HA := Lib.hid hA
      have HQ : Hid (resume (nodesO os) Fu (pileF [⟨head, u, d.parents, 0⟩]) order = R) := Lib.hid (by
        rw [← HR.out, fromR_push _ _ _ _ HIN.out hf hd]
        simp [pileF])
      have HG2 : Hid (GoodP (nodesO os) order ([(⟨head, u, d.parents, 0⟩ : StopM)].map StopM.id)) := Lib.hid (HGD.out.push HIN.out (by simp) hf)
      have HKK := Lib.hid ((HK0.out.mono (fun _ _ f => f.elim) : Kept (fun i => n0 ≤ i) w W).trans HK2.out (fun _ _ h => h))
      clear hc hps hok hf hd hA HR HIN HGD HK0 HK2 HPU
      go_wp2_with fail
      go_step3
      go_wp2_with fail
      go_loopg [] (2 * ((nodesO os).length - (order.length + 1)) + 1) (fun g wr => ∃ es clock ov pv L order S, Hid (FromAt wr n0 s F os Wb M w.heap.size BP es clock ov pv L order S) ∧ Hid (GoodP (nodesO os) order (S.map StopM.id) ∧ 2 * ((nodesO os).length - (order.length + S.length)) + S.length ≤ g ∧ resume (nodesO os) Fu (pileF S) order = R) ∧ Hid (Kept (fun i => n0 ≤ i) w wr))
      case atStart => exact ⟨_, _, _, _, _, _, _, HA, Lib.hid ⟨HG2.out, by simp, HQ.out⟩, HKK⟩
      case round =>
        clear HA HQ HG2 HKK
        obtain ⟨es, clock, ov, pv, L, order, S, HA, HI, HK⟩ := hrel
        obtain ⟨G, hG⟩ : ∃ G, G = gk := ⟨_, rfl⟩
        subst hG
        rcases List.eq_nil_or_concat S with rfl | ⟨T, p, hS⟩
        · have hp := HA.out.pile
          obtain ⟨va, vc, rfl, -, -⟩ := hp.form
          obtain ⟨-, d1, -⟩ := HA.out.cs
          rw [List.length_nil] at d1
          have hQ : R = .ok order := HI.out.2.2.symm
          subst hQ
          clear hp
          go_wp2_with fail
          (try rw [Exit.noGoto_ret])
          go_ret
          exact ⟨⟨rfl, _, _, _, _, HA.out.walk⟩, HK.out⟩
        · rw [List.concat_eq_append] at hS
          subst hS
          have hlen : T.length + 1 ≤ 100000 := by
            have h8 := HI.out.1.len
            have h9 := HFU.out.2
            simp [nodesO] at h8
            omega
          obtain ⟨g, c, rfl, hgc, hgm, -, hng, -⟩ := HA.out.pile.top
          obtain ⟨-, d1, -⟩ := HA.out.cs
          obtain ⟨n, hn⟩ : ∃ n, T.length = n := ⟨_, rfl⟩
          have HN := Lib.hid hn
          rw [hn] at HA d1 hlen
          clear hgc hgm hng hn
          have hpos : (0 : Int) < ((n : Int) + 1) := by omega
          go_wp2_with fail
          go_loopg [] (p.ps.length - p.next) (fun g2 wy => ∃ nx, nx + g2 = p.ps.length ∧ Hid (FromAt wy n0 s F os Wb M w.heap.size BP es clock ov (.slice (some ⟨g, 0, none⟩) (n + 1) c) L order (T ++ [{ p with next := nx }])) ∧ Hid (resume (nodesO os) Fu (pileF (T ++ [{ p with next := nx }])) order = R) ∧ Hid (Kept (fun i => n0 ≤ i) w wy))
          case atStart => exact ⟨p.next, by have := (HA.out.par p (by simp)).2.2; omega, HA, Lib.hid HI.out.2.2, HK⟩
          case round =>
            clear HA HK
            obtain ⟨nx, hnx, HA, HQ, HK⟩ := hrel
            obtain ⟨m, hm⟩ : ∃ m, p.ps.length = m := ⟨_, rfl⟩
            have hT := HA.out.pile.top
            rw [HN.out] at hT
            obtain ⟨g', c', e, -, -, -, -, t0, t1, t2, t3⟩ := hT
            cases e
            obtain ⟨-, d1, f1⟩ := HA.out.cs
            obtain ⟨b0, -, -⟩ := HA.out.cs
            obtain ⟨c0, c1, c2, cf⟩ := HA.out.walk.c
            by_cases hlt : nx < m
            · have hxl : nx < p.ps.length := by omega
              have hpar : OwnI n0 wr p.pv p.ps := (HA.out.par { p with next := nx } (by simp)).1
              obtain ⟨pg, pc, hpv, pcell⟩ := ownI_at hpar hxl
              rw [hm] at hpv
              have q1 : wr.cell? ⟨g, n * 3 + 1, none⟩ = some (.slice (some ⟨pg, 0, none⟩) m pc) := t1.trans (congrArg some hpv)
              obtain ⟨x, hx⟩ : ∃ x, p.ps[nx] = x := ⟨_, rfl⟩
              have HST := Lib.hid (resume_at (T := T) (N := nodesO os) (Fu := Fu) (order := order) hxl (by have := HFU.out.1; simpa [nodesO] using this) HI.out.1 hx)
              rw [hx] at pcell
              have HX : Hid (∃ h : nx < p.ps.length, p.ps[nx] = x) := Lib.hid ⟨hxl, hx⟩
              have HM := Lib.hid hm
              have hi1 : (0 : Int) ≤ (nx : Int) := by omega
              have hi2 : (nx : Int) < (m : Int) := by omega
              have hi3 : (m : Int) ≤ 9223372036854775807 := by
                obtain ⟨_, _, _, z1, z2⟩ := hpar.form
                rw [hm] at z1
                unfold maxLen at z2
                omega
              clear hpar hpv t1 hx hm
              go_wp2_with fail
              go_quiet (fail)
              go_wp2_with fail
              go_quiet (fail)
              generalize hwd : World.drewN (World.drewN wr _) _ = wd
              have hkd : Kept (fun _ => False) wr wd := by rw [← hwd]; exact (keptDrewN _ _).trans (keptDrewN _ _) (fun _ _ h => h)
              have hAd := HA.out.keptN hkd
              have hfz := hAd.pile.top
              rw [HN.out] at hfz
              obtain ⟨g', c', e, -, -, -, -, -, -, r2, r3⟩ := hfz
              cases e
              have hNX := HN.out
              subst hNX
              have hAN := (hAd.next (nx + 1) (by have := HX.out.1; show nx + 1 ≤ p.ps.length; omega))
              obtain ⟨w3, hw3⟩ : ∃ w3, wd.setCell ⟨g, T.length * 3 + 2, none⟩ (.int .i64 ((nx : Int) + 1)) = w3 := ⟨_, rfl⟩
              have hcst : ((nx + 1 : Nat) : Int) = (nx : Int) + 1 := by omega
              rw [hcst, hw3] at hAN
              obtain ⟨hA3, hk3⟩ := hAN
              have hlk := hA3.walk.look x w3 hA3.walk.map
              obtain ⟨e0, e1, e2, -⟩ := hA3.walk.c
              have e3 := hA3.cs.1
              have p2 : wd.cell? ⟨g, T.length * 3 + 2, none⟩ = some (.int .i64 nx) := r2
              have HA3 := Lib.hid hA3
              have HK3 := Lib.hid ((HK.out.trans (hkd.mono (fun _ _ f => f.elim)) (fun _ _ h => h)).trans hk3 (fun _ _ h => h))
              have hm9 : (T ++ [{ p with next := nx + 1 }]).map StopM.id = (T ++ [p]).map StopM.id := by simp
              rw [hm9] at hlk
              have hid9 : Hid (stN order ((T ++ [p]).map StopM.id) x = none → x ∉ order) := Lib.hid (fun h h2 => by unfold stN at h; rw [if_pos h2] at h; cases h)
              have HNX := Lib.hid hnx
              clear hwd hkd hAd r2 hcst hA3 hk3 hm9 t0 t2 t3 d1 f1 b0 c0 c1 c2 cf pcell q1 hnx
              rcases hst : stN order ((T ++ [p]).map StopM.id) x with _ | v
              · rw [hst, Option.getD_none, show ((0 : Nat) : Int) = 0 from rfl] at hlk
                have HX2 := Lib.hid hst
                have HPU := Lib.hid (push_any HA3.out x (hid9.out hst) (by simp; omega))
                clear hst
                go_wp2_with fail
                refine HPU.out.mono ?_
                rintro e w4 ⟨rfl, hk4, hok⟩
                have HK4 := Lib.hid (HK3.out.trans hk4 (fun _ _ h => h))
                clear hk4
                rcases comR_nodes os x with ⟨hf, hc⟩ | ⟨d, hf, hd, hc⟩ | ⟨d, hf, hd, hc, hps⟩
                · rw [hc]
                  have HR9 : R = .error 4 := HQ.out.symm.trans ((HST.out.2.2 HX2.out).1 hf)
                  clear hc hok hf
                  subst HR9
                  go_wp2_with fail
                  (try rw [Exit.noGoto_ret])
                  go_ret
                  exact ⟨⟨rfl, by decide⟩, HK4.out⟩
                · rw [hc]
                  have HR9 : R = .error 170 := HQ.out.symm.trans ((HST.out.2.2 HX2.out).2.1 d hf hd)
                  clear hc hok hf hd
                  subst HR9
                  go_wp2_with fail
                  (try rw [Exit.noGoto_ret])
                  go_ret
                  exact ⟨⟨rfl, by decide⟩, HK4.out⟩
                · obtain ⟨es5, clock5, pv5, L5, u5, hA5⟩ := hok hc
                  rw [hc]
                  rw [hps] at hA5
                  have HA5 := Lib.hid hA5
                  have HQ5 := Lib.hid (((HST.out.2.2 HX2.out).2.2 d hf hd u5).symm.trans HQ.out)
                  have hnon : x ∉ (T ++ [p]).map StopM.id := by
                    intro h9
                    have h8 := HX2.out
                    unfold stN at h8
                    rw [if_neg (hid9.out HX2.out), if_pos h9] at h8
                    cases h8
                  have HG5 := Lib.hid (HI.out.1.push (hid9.out HX2.out) hnon hf)
                  clear hc hps hok hf hd hA5 hnon
                  go_wp2_with fail
                  have h7 := HG5.out.len
                  have h6 := HI.out.2.1
                  simp only [List.length_append, List.length_map, List.length_singleton] at h7 h6
                  go_roundg (G - 1)
                  case measure => omega
                  case rel =>
                    refine ⟨_, _, _, _, _, _, _, HA5, Lib.hid ⟨by have h5 := HG5.out; simpa using h5, ?_, HQ5.out⟩, HK4⟩
                    simp only [List.length_append, List.length_singleton]
                    omega
              · have hv : v = 1 ∨ v = 2 := by
                  unfold stN at hst
                  split at hst
                  · right; simpa using hst.symm
                  · split at hst
                    · left; simpa using hst.symm
                    · cases hst
                rw [hst, Option.getD_some] at hlk
                have HX2 := Lib.hid hst
                clear hst
                rcases hv with rfl | rfl
                · have HR9 : R = .error 210 := HQ.out.symm.trans (HST.out.1 HX2.out)
                  rw [show ((1 : Nat) : Int) = 1 from rfl] at hlk
                  subst HR9
                  go_wp2_with fail
                  (try rw [Exit.noGoto_ret])
                  go_ret
                  exact ⟨⟨rfl, by decide⟩, HK3.out⟩
                · rw [show ((2 : Nat) : Int) = 2 from rfl] at hlk
                  go_wp2_with fail
                  go_roundg (gk - 1)
                  case measure => have := HNX.out; have := HX.out.1; omega
                  case rel => exact ⟨nx + 1, by have := HNX.out; have := HX.out.1; omega, HA3, Lib.hid ((HST.out.2.1 HX2.out).symm.trans HQ.out), HK3⟩
            · obtain rfl : nx = m := by have := HA.out.par { p with next := nx } (by simp); have h2 : nx ≤ p.ps.length := this.2.2; omega
              have hpar : OwnI n0 wr p.pv p.ps := (HA.out.par { p with next := nx } (by simp)).1
              obtain ⟨pa, pc, hpv, -, -⟩ := hpar.form
              rw [hm] at hpv
              have q1 : wr.cell? ⟨g, n * 3 + 1, none⟩ = some (.slice pa nx pc) := t1.trans (congrArg some hpv)
              have HM := Lib.hid hm
              have hi2 : ¬ (nx : Int) < (nx : Int) := by omega
              have t0' : wr.cell? ⟨g, n * 3, none⟩ = some (.int .u64 p.id) := t0
              clear hpar hpv t1 hm hlt t0
              go_wp2_with fail
              go_quiet (fail)
              generalize hwd : World.drewN wr _ = wd
              have hkd : Kept (fun _ => False) wr wd := by rw [← hwd]; exact keptDrewN _ _
              have hAd := HA.out.keptN hkd
              have hNX := HN.out
              subst hNX
              have hGP := HI.out.1
              rw [List.map_append] at hGP
              have hpn : p.id ∉ T.map StopM.id := fun h9 => (List.nodup_append.1 (List.nodup_append.1 hGP.1).2.1).2.2 _ h9 _ (by simp) rfl
              obtain ⟨wm, es', clock', L', ova, ovc, w6, hr20, hr21, hW, hW7, hF8, hk8⟩ := hAd.pop (p := { p with next := nx }) hpn (by have := HI.out.1.len; have := HFU.out.2; simp [nodesO] at *; omega)
              change (Instr.mapUpdate 82 (.map (some M)) (.int .u64 p.id) (.int .i64 2)).run Tryz.prog wd.drew = .ok () wm at hr20
              change (Builtin.append_ _ _ _).run Tryz.prog (wm.alloc (.cells #[.int .u64 p.id] 37)).drew = _ at hr21
              obtain ⟨m0, m1, m2, -⟩ := hW wm (.inl rfl)
              obtain ⟨n0', n1, n2, -⟩ := hW _ (.inr (.inr (.inl rfl)))
              have nz0 : (wm.alloc (.cells #[.int .u64 p.id] 37)).cell? ⟨w.heap.size, 0, none⟩ = some (.pointer (some ⟨Wb, 0, none⟩)) := n0'
              have nz1 : (wm.alloc (.cells #[.int .u64 p.id] 37)).cell? ⟨g, T.length * 3, none⟩ = some (.int .u64 p.id) := n1
              have nz2 : (wm.alloc (.cells #[.int .u64 p.id] 37)).cell? ⟨Wb, 2, none⟩ = some ov := n2
              obtain ⟨o0, o1, o2, o3⟩ := hW w6 (.inr (.inr (.inr rfl)))
              obtain ⟨z0, z1, z2, z3⟩ := hW7 _ rfl
              have e0 : wd.cell? ⟨w.heap.size, 0, none⟩ = some (.pointer (some ⟨Wb, 0, none⟩)) := hAd.cs.1
              obtain ⟨-, e1, e2, -⟩ := hAd.walk.c
              have e3 : wd.cell? ⟨g, T.length * 3, none⟩ = some (.int .u64 p.id) := hkd.cell t0' (fun f => f)
              have HF8 := Lib.hid hF8
              have HTC : Hid (T.length ≤ c) := Lib.hid (by
                obtain ⟨_, _, e9, h9, -⟩ := hAd.pile.form
                injection e9 with _ e2 e3
                rw [← e3] at h9
                simp at h9
                omega)
              have HK8 := Lib.hid ((HK.out.trans (hkd.mono (fun _ _ f => f.elim)) (fun _ _ h => h)).trans hk8 (fun _ _ h => h))
              clear hwd hkd hAd hGP hpn hF8 hk8 hW hW7 d1 f1 b0 c0 c1 c2 cf t0' t2 t3 q1 hnx
              go_wp2_with fail
              go_region
              go_wp2_with fail
              refine wp_region_held_drew (S := fun w' => w'.cell? ⟨w.heap.size, 0, none⟩ = some (.pointer (some ⟨Wb, 0, none⟩)) ∧ w'.cell? ⟨g, T.length * 3, none⟩ = some (.int .u64 p.id)) (by kernel_rfl) ⟨m0, m1⟩ (fun hHeld => ?_)
              refine wpAnyH_take (i := 0) (v := ?_) rfl (by kernel_rfl) (by kernel_rfl) (by kernel_rfl) (fun _ _ _ h => h) (Or.inl ⟨by rfl, ?_⟩) (by assumption) ?_
              rotate_left
              (intro w' hSw'; have ⟨_, _⟩ := hSw'; go_simp; try with_reducible rfl)
              try simp only [Act.put, List.setIfInBounds_toArray, List.set_cons_zero, List.set_cons_succ, List.getElem_toArray, List.getElem_cons_zero, List.getElem_cons_succ]
              refine wpAnyH_take (i := 1) (v := ?_) rfl (by kernel_rfl) (by kernel_rfl) (by kernel_rfl) (fun _ _ _ h => h) (Or.inl ⟨by rfl, ?_⟩) (by assumption) ?_
              rotate_left
              (intro w' hSw'; have ⟨_, _⟩ := hSw'; go_simp; try with_reducible rfl)
              try simp only [Act.put, List.setIfInBounds_toArray, List.set_cons_zero, List.set_cons_succ, List.getElem_toArray, List.getElem_cons_zero, List.getElem_cons_succ]
              refine wpAnyH_take (i := 2) (v := ?_) rfl (by kernel_rfl) (by kernel_rfl) (by kernel_rfl) (fun _ _ _ h => h) (Or.inl ⟨by rfl, ?_⟩) (by assumption) ?_
              rotate_left
              (intro w' hSw'; have ⟨_, _⟩ := hSw'; go_simp; try with_reducible rfl)
              try simp only [Act.put, List.setIfInBounds_toArray, List.set_cons_zero, List.set_cons_succ, List.getElem_toArray, List.getElem_cons_zero, List.getElem_cons_succ]
              refine wpAnyH_take (i := 3) (v := ?_) rfl (by kernel_rfl) (by kernel_rfl) (by kernel_rfl) (fun _ _ _ h => h) (Or.inl ⟨by rfl, ?_⟩) (by assumption) ?_
              rotate_left
              (intro w' hSw'; have ⟨_, _⟩ := hSw'; go_simp; try with_reducible rfl)
              try simp only [Act.put, List.setIfInBounds_toArray, List.set_cons_zero, List.set_cons_succ, List.getElem_toArray, List.getElem_cons_zero, List.getElem_cons_succ]
              refine wpAnyH_take (i := 5) (v := ?_) rfl (by kernel_rfl) (by kernel_rfl) (by kernel_rfl) (fun _ _ _ h => h) (Or.inl ⟨by rfl, ?_⟩) (by assumption) ?_
              rotate_left
              (intro w' hSw'; have ⟨_, _⟩ := hSw'; go_simp; try with_reducible rfl)
              try simp only [Act.put, List.setIfInBounds_toArray, List.set_cons_zero, List.set_cons_succ, List.getElem_toArray, List.getElem_cons_zero, List.getElem_cons_succ]
              refine wpAnyH_take (i := 6) (v := ?_) rfl (by kernel_rfl) (by kernel_rfl) (by kernel_rfl) (fun _ _ _ h => h) (Or.inl ⟨by rfl, ?_⟩) (by assumption) ?_
              rotate_left
              (intro w' hSw'; have ⟨_, _⟩ := hSw'; go_simp; try with_reducible rfl)
              try simp only [Act.put, List.setIfInBounds_toArray, List.set_cons_zero, List.set_cons_succ, List.getElem_toArray, List.getElem_cons_zero, List.getElem_cons_succ]
              refine wpAnyH_take (i := 7) (v := ?_) rfl (by kernel_rfl) (by kernel_rfl) (by kernel_rfl) (fun _ _ _ h => h) (Or.inl ⟨by rfl, ?_⟩) (by assumption) ?_
              rotate_left
              (intro w' hSw'; have ⟨_, _⟩ := hSw'; go_simp; try with_reducible rfl)
              try simp only [Act.put, List.setIfInBounds_toArray, List.set_cons_zero, List.set_cons_succ, List.getElem_toArray, List.getElem_cons_zero, List.getElem_cons_succ]
              refine wpAnyH_take (i := 8) (v := ?_) rfl (by kernel_rfl) (by kernel_rfl) (by kernel_rfl) (fun _ _ _ h => h) (Or.inl ⟨by rfl, ?_⟩) (by assumption) ?_
              rotate_left
              (intro w' hSw'; have ⟨_, _⟩ := hSw'; go_simp; try with_reducible rfl)
              try simp only [Act.put, List.setIfInBounds_toArray, List.set_cons_zero, List.set_cons_succ, List.getElem_toArray, List.getElem_cons_zero, List.getElem_cons_succ]
              refine wpAnyH_ready (rs := [4, 9]) (by kernel_rfl) (by simp) ?_
              refine AllReadyH.cons rfl (fun K hK => ?_) (AllReadyH.cons rfl (fun K hK => ?_) AllReadyH.nil)
              · go_simp
                refine hK.out _ _ ⟨m0, m1⟩ (fun hHeld => ?_)
                clear hK K
                try simp only [Act.put, List.setIfInBounds_toArray, List.set_cons_zero, List.set_cons_succ, List.getElem_toArray, List.getElem_cons_zero, List.getElem_cons_succ]
                refine wpAnyH_ready (rs := [9]) (by kernel_rfl) (by simp) ?_
                refine AllReadyH.cons rfl (fun K hK => ?_) AllReadyH.nil
                go_simp
                refine hK.out _ _ ⟨nz0, nz1⟩ (fun hHeld => ?_)
                clear hK K
                try simp only [Act.put, List.setIfInBounds_toArray, List.set_cons_zero, List.set_cons_succ, List.getElem_toArray, List.getElem_cons_zero, List.getElem_cons_succ]
                refine wpAnyH_ready (rs := [10]) (by kernel_rfl) (by simp) ?_
                refine AllReadyH.cons rfl (fun K hK => ?_) AllReadyH.nil
                refine step_append_run rfl (.tmp 89) (.tmp 94) #[28, 28] rfl _ _ _ _ rfl rfl hr21 ?_
                refine hK.out _ _ ⟨o0, o1⟩ (fun hHeld => ?_)
                clear hK K
                try simp only [Act.put, List.setIfInBounds_toArray, List.set_cons_zero, List.set_cons_succ, List.getElem_toArray, List.getElem_cons_zero, List.getElem_cons_succ]
                refine wpAnyH_take (i := 11) (v := ?_) rfl (by kernel_rfl) (by kernel_rfl) (by kernel_rfl) (fun _ _ _ h => h) (Or.inl ⟨by rfl, ?_⟩) (by assumption) ?_
                rotate_left
                (intro w' hSw'; have ⟨_, _⟩ := hSw'; go_simp; try with_reducible rfl)
                try simp only [Act.put, List.setIfInBounds_toArray, List.set_cons_zero, List.set_cons_succ, List.getElem_toArray, List.getElem_cons_zero, List.getElem_cons_succ]
                refine wpAnyH_take (i := 12) (v := ?_) rfl (by kernel_rfl) (by kernel_rfl) (by kernel_rfl) (fun _ _ _ h => h) (Or.inl ⟨by rfl, ?_⟩) (by assumption) ?_
                rotate_left
                (intro w' hSw'; have ⟨_, _⟩ := hSw'; go_simp; try with_reducible rfl)
                try simp only [Act.put, List.setIfInBounds_toArray, List.set_cons_zero, List.set_cons_succ, List.getElem_toArray, List.getElem_cons_zero, List.getElem_cons_succ]
                refine wpAnyH_ready (rs := [13]) (by kernel_rfl) (by simp) ?_
                refine AllReadyH.cons rfl (fun K hK => ?_) AllReadyH.nil
                go_simp
                refine hK.out _ _ ⟨z2, z3⟩ (fun hHeld => ?_)
                clear hK K
                try simp only [Act.put, List.setIfInBounds_toArray, List.set_cons_zero, List.set_cons_succ, List.getElem_toArray, List.getElem_cons_zero, List.getElem_cons_succ]
                refine wpAnyH_done (by kernel_rfl) ?_ _
                have hTc : (T.length : Int) ≤ (c : Int) := by have := HTC.out; omega
                go_wp2_with fail
                go_roundg (G - 1)
                case measure => have := HI.out.2.1; simp at this; omega
                case rel =>
                  refine ⟨_, _, _, _, _, _, _, HF8, Lib.hid ⟨by have h5 := HI.out.1; rw [List.map_append] at h5; exact h5.pop, ?_, ?_⟩, HK8⟩
                  · have := HI.out.2.1
                    simp at this ⊢
                    omega
                  · have h5 := HQ.out
                    rw [pileF_snoc] at h5
                    rw [show ({ p with next := nx } : StopM).ps.drop ({ p with next := nx } : StopM).next = [] from List.drop_of_length_le (by show p.ps.length ≤ nx; rw [HM.out]; exact Nat.le_refl _), resume_done] at h5
                    exact h5
              · go_simp
                refine hK.out _ _ ⟨nz0, nz1⟩ (fun hHeld => ?_)
                clear hK K
                try simp only [Act.put, List.setIfInBounds_toArray, List.set_cons_zero, List.set_cons_succ, List.getElem_toArray, List.getElem_cons_zero, List.getElem_cons_succ]
                refine wpAnyH_ready (rs := [4]) (by kernel_rfl) (by simp) ?_
                refine AllReadyH.cons rfl (fun K hK => ?_) AllReadyH.nil
                go_simp
                refine hK.out _ _ ⟨nz0, nz1⟩ (fun hHeld => ?_)
                clear hK K
                try simp only [Act.put, List.setIfInBounds_toArray, List.set_cons_zero, List.set_cons_succ, List.getElem_toArray, List.getElem_cons_zero, List.getElem_cons_succ]
                refine wpAnyH_ready (rs := [10]) (by kernel_rfl) (by simp) ?_
                refine AllReadyH.cons rfl (fun K hK => ?_) AllReadyH.nil
                refine step_append_run rfl (.tmp 89) (.tmp 94) #[28, 28] rfl _ _ _ _ rfl rfl hr21 ?_
                refine hK.out _ _ ⟨o0, o1⟩ (fun hHeld => ?_)
                clear hK K
                try simp only [Act.put, List.setIfInBounds_toArray, List.set_cons_zero, List.set_cons_succ, List.getElem_toArray, List.getElem_cons_zero, List.getElem_cons_succ]
                refine wpAnyH_take (i := 11) (v := ?_) rfl (by kernel_rfl) (by kernel_rfl) (by kernel_rfl) (fun _ _ _ h => h) (Or.inl ⟨by rfl, ?_⟩) (by assumption) ?_
                rotate_left
                (intro w' hSw'; have ⟨_, _⟩ := hSw'; go_simp; try with_reducible rfl)
                try simp only [Act.put, List.setIfInBounds_toArray, List.set_cons_zero, List.set_cons_succ, List.getElem_toArray, List.getElem_cons_zero, List.getElem_cons_succ]
                refine wpAnyH_take (i := 12) (v := ?_) rfl (by kernel_rfl) (by kernel_rfl) (by kernel_rfl) (fun _ _ _ h => h) (Or.inl ⟨by rfl, ?_⟩) (by assumption) ?_
                rotate_left
                (intro w' hSw'; have ⟨_, _⟩ := hSw'; go_simp; try with_reducible rfl)
                try simp only [Act.put, List.setIfInBounds_toArray, List.set_cons_zero, List.set_cons_succ, List.getElem_toArray, List.getElem_cons_zero, List.getElem_cons_succ]
                refine wpAnyH_ready (rs := [13]) (by kernel_rfl) (by simp) ?_
                refine AllReadyH.cons rfl (fun K hK => ?_) AllReadyH.nil
                go_simp
                refine hK.out _ _ ⟨z2, z3⟩ (fun hHeld => ?_)
                clear hK K
                try simp only [Act.put, List.setIfInBounds_toArray, List.set_cons_zero, List.set_cons_succ, List.getElem_toArray, List.getElem_cons_zero, List.getElem_cons_succ]
                refine wpAnyH_done (by kernel_rfl) ?_ _
                have hTc : (T.length : Int) ≤ (c : Int) := by have := HTC.out; omega
                go_wp2_with fail
                go_roundg (G - 1)
                case measure => have := HI.out.2.1; simp at this; omega
                case rel =>
                  refine ⟨_, _, _, _, _, _, _, HF8, Lib.hid ⟨by have h5 := HI.out.1; rw [List.map_append] at h5; exact h5.pop, ?_, ?_⟩, HK8⟩
                  · have := HI.out.2.1
                    simp at this ⊢
                    omega
                  · have h5 := HQ.out
                    rw [pileF_snoc] at h5
                    rw [show ({ p with next := nx } : StopM).ps.drop ({ p with next := nx } : StopM).next = [] from List.drop_of_length_le (by show p.ps.length ≤ nx; rw [HM.out]; exact Nat.le_refl _), resume_done] at h5
                    exact h5
end Go.Proofs.YtikacgiccllolaaGreat
