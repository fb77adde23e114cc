/- espalierlaw11.GraphLaws. -/
import Derived.Test.YtikacgiccllolaaLawL
import Derived.Test.YtikacgiccllolaaWake
namespace Go.Proofs.Ytikacgiccllolaa
open Go.RowKit Go.ChangeMaps Go.MapKept

theorem isZ_newT {W : World} {g t : Nat} (l : List Int) (vs : Array Value) (hb : W.heap[g]? = some (.cells vs t (0, 0))) (hv : vs = (l.map (Value.int .i64)).toArray) (hm : l.length ≤ maxLen) : IsZ W (.slice (some ⟨g, 0, none⟩) l.length l.length) l := by
  subst hv
  refine ⟨_, _, rfl, Nat.le_refl _, hm, .inr ⟨g, 0, rfl, (Array.getElem?_eq_some_iff.1 hb).1, fun k hk => ?_⟩⟩
  simp [World.cell?, hb, hk]
set_option maxRecDepth 100000 in
set_option maxHeartbeats 2000000 in
theorem laws_law (w : World) (a : Option Addr) (n c : Nat) (l : List BornM) (hB : IsBn w (.slice a n c) l) (x y z : Int) :
    Calls Try.prog 5 #[.slice a n c, .agg #[.int .i64 x, .int .i64 y, .int .i64 z]] w fun e w' => e = .returned (.bool true) ∧ Kept (fun _ => False) w w' := by
  have HB := Lib.hid hB
  clear hB
  go_enter Try.func5, Try.ntmps5
  go_wp2_with fail
  obtain ⟨w0, hw0⟩ : ∃ w0, w.alloc (.cells #[.int .i64 x, .int .i64 y, .int .i64 z] 51) = w0 := ⟨_, rfl⟩
  have hk0 : Kept (fun _ => False) w w0 := by rw [← hw0]; exact (Kept.refl _ _).alloc _
  have HZ0 : Hid (IsZ w0 (.slice (some ⟨w.heap.size, 0, none⟩) 3 3) [x, y, z]) := Lib.hid (isZ_newT [x, y, z] #[.int .i64 x, .int .i64 y, .int .i64 z] (by rw [← hw0]; exact allocs_heap [.cells #[.int .i64 x, .int .i64 y, .int .i64 z] 51] w 0 _ rfl) rfl (by simp [maxLen]))
  obtain ⟨zg, hzg⟩ : ∃ g, w.heap.size = g := ⟨_, rfl⟩
  rw [hw0, hzg]
  rw [hzg] at HZ0
  have HK0 := Lib.hid hk0
  clear hw0 hzg
  refine (wakes_any w0).mono ?_
  rintro e w1 ⟨rfl, hk1⟩
  have HK1 := Lib.hid (hk0.trans hk1 (fun _ _ f => f))
  have HW1 : Hid (Kept (fun _ => False) w0 w1) := Lib.hid hk1
  clear hk0
  have HBO := Lib.hid (born_is w1 a n c l (HB.out.keptN HK1.out))
  clear hk1
  go_wp2_with fail
  refine HBO.out.mono ?_
  rintro e w2 ⟨hbr, hk2⟩
  have HK2 : Hid (Kept (fun _ => False) w w2) := Lib.hid (HK1.out.more hk2 (fun _ f => f.elim))
  have HW2 : Hid (Kept (fun _ => False) w0 w2) := Lib.hid (HW1.out.more hk2 (fun _ f => f.elim))
  clear hk2
  cases hbf : bornF l with
  | none =>
    rw [hbf] at hbr
    obtain rfl := hbr
    clear hbf
    go_wp2_with fail
    refine (wakes_any w2).mono ?_
    rintro e w3 ⟨rfl, hk3⟩
    have HK3 : Hid (Kept (fun _ => False) w w3) := Lib.hid (HK2.out.more hk3 (fun _ f => f.elim))
    clear hk3
    go_wp2_with fail
    go_ret
    exact ⟨rfl, HK3.out⟩
  | some st =>
    rw [hbf] at hbr
    obtain ⟨Hb, s, F, na, ia, ta, nc, ic, tc, S, rfl, hH⟩ := hbr
    have HH := Lib.hid hH
    clear hbf hH
    go_wp2_with fail
    refine (wakes_any w2).mono ?_
    rintro e w3 ⟨rfl, hk3⟩
    have HK3 : Hid (Kept (fun _ => False) w w3) := Lib.hid (HK2.out.more hk3 (fun _ f => f.elim))
    have HH3 := Lib.hid (HH.out.kept hk3)
    have HHD := Lib.hid (heads_any HH3.out _ _ _ _ ((HZ0.out.kept HW2.out (fun _ _ f => f)).kept hk3 (fun _ _ f => f)))
    have HHS := Lib.hid (HH.out.ok.heads [x, y, z])
    rw [show headsOf st.ids [x, y, z] = [headI st.ids x, headI st.ids y, headI st.ids z] from rfl] at HHD HHS
    generalize headI st.ids x = p at *
    generalize headI st.ids y = q at *
    generalize headI st.ids z = r at *
    clear hk3 HW1 HW2 HZ0
    go_wp2_with fail
    refine HHD.out.mono ?_
    rintro e w4 ⟨⟨v, rfl, hv⟩, hk4⟩
    have hi := hv.isI HHS.out.2
    obtain ⟨va, vc, rfl, -, -⟩ := hv.form
    obtain ⟨vg, vo, rfl, -, i0⟩ := hi.at (k := 0) (by simp)
    have i0' : w4.cell? ⟨vg, vo, none⟩ = some (.int .u64 p) := i0
    have i1' : w4.cell? ⟨vg, vo + 1, none⟩ = some (.int .u64 q) := by
      obtain ⟨vg', vo', he, -, i1⟩ := hi.at (k := 1) (by simp)
      cases he
      exact i1
    have i2' : w4.cell? ⟨vg, vo + 2, none⟩ = some (.int .u64 r) := by
      obtain ⟨vg', vo', he, -, i2⟩ := hi.at (k := 2) (by simp)
      cases he
      exact i2
    have HC : Hid (∀ W, Kept (fun _ => False) w4 W → W.cell? ⟨vg, vo, none⟩ = some (.int .u64 p) ∧ W.cell? ⟨vg, vo + 1, none⟩ = some (.int .u64 q) ∧ W.cell? ⟨vg, vo + 2, none⟩ = some (.int .u64 r)) := Lib.hid (fun W hk => ⟨hk.cell i0' (fun f => f), hk.cell i1' (fun f => f), hk.cell i2' (fun f => f)⟩)
    have HH4 := Lib.hid (HH3.out.kept hk4)
    have HK4 : Hid (Kept (fun _ => False) w w4) := Lib.hid (HK3.out.trans hk4 (fun _ _ f => f))
    have HRO := Lib.hid (HH4.out.order_u _ _ _ [p, q, r] hi)
    have c0 := HH4.out.c0
    clear hk4 hi hv i0 i0' i1' i2'
    obtain ⟨R, hR⟩ : ∃ R, orderR (nodesO st.os) st.os.length [p, q, r] = R := ⟨_, rfl⟩
    rw [hR] at HRO
    have HR := Lib.hid hR
    clear hR
    go_wp2_with fail
    refine HRO.out.mono ?_
    rintro e w5 ⟨⟨⟨v5, rfl, hv5⟩, hS⟩, hk5⟩
    have HK5 : Hid (Kept (fun _ => False) w4 w5) := Lib.hid hk5
    cases R with
    | error c9 =>
      obtain ⟨u5, uc, hvv, -, -⟩ := hv5.form
      have hc9 : (c9 == 0) = false := by
        by_cases h : c9 = 0
        · obtain ⟨_, h⟩ := hS h; cases h
        · simp [h]
      subst hvv
      clear hS hv5 hk5
      simp only [codeE, okL, List.length_nil]
      go_wp2_with fail
      go_ret
      exact ⟨rfl, HK4.out.more HK5.out (fun _ f => f.elim)⟩
    | ok o =>
      have hT := orderR_ok HR.out
      have hi5 := hv5.isI hT.1.lt
      obtain ⟨u5, uc, hvv, -, -⟩ := hv5.form
      subst hvv
      simp only [codeE, okL] at hi5 ⊢
      have HI5 := Lib.hid hi5
      have HT := Lib.hid hT
      obtain ⟨on, hon⟩ : ∃ n, o.length = n := ⟨_, rfl⟩
      have HON := Lib.hid hon
      rw [hon] at HI5 ⊢
      clear hS hv5 hk5 hT hi5 hon c0
      have HH5 := Lib.hid (HH4.out.kept HK5.out)
      have hon63 : on ≤ 9223372036854775807 := by have h1 := HT.out.1.good.len; have h2 := HH5.out.sl.2.1; have h3 := HON.out; simp [nodesO] at h1; omega
      have hosl : (nodesO st.os).length ≤ st.os.length := by simp [nodesO]
      have HDP : Hid (∀ W, Kept (fun _ => False) w5 W → ∀ x ∈ o, Calls Try.prog 16 #[.pointer (some ⟨s, 0, none⟩), .int .u64 x] W fun e w' => e = .returned (.tuple #[.int .i64 (depF (parN (nodesO st.os)) o x : Nat), .int .i64 0]) ∧ Kept (fun _ => False) W w') := Lib.hid (fun W hk x hx => by
        obtain ⟨ox, h1, h2⟩ := orderR_one (Fu := st.os.length) hosl HT.out.1 hx
        have h9 := (HH5.out.kept hk).depth_u x (HT.out.1.lt x hx)
        rw [h1] at h9
        have e : depE2 (nodesO st.os) (.ok ox) x = depF (parN (nodesO st.os)) o x := h2
        rw [e] at h9
        exact h9)
      have HCM : Hid (∀ W, Kept (fun _ => False) w5 W → ∀ x ∈ o, ∃ t d, Calls Try.prog 20 #[.pointer (some ⟨s, 0, none⟩), .int .u64 x] W fun e w' => ∃ u, e = .returned (.tuple #[comV t u d, .int .i64 0]) ∧ OwnI W.heap.size w' u (parN (nodesO st.os) x) ∧ Kept (fun _ => False) W w') := Lib.hid (fun W hk x hx => by
        obtain ⟨t, d, h1⟩ := comR_topo HT.out.1 hx
        have h9 := scommit_any (HH5.out.kept hk).ob x
        rw [h1] at h9
        exact ⟨t, d, h9⟩)
      have HPA : Hid (∀ x ∈ o, (∀ p ∈ parN (nodesO st.os) x, p < 18446744073709551616 ∧ p ∈ o ∧ depF (parN (nodesO st.os)) o p < depF (parN (nodesO st.os)) o x) ∧ 1 ≤ depF (parN (nodesO st.os)) o x) := Lib.hid (fun x hx => ⟨fun p hp => by
        have hpo := HT.out.1.closed x hx p (HT.out.1.parN hx hp)
        exact ⟨HT.out.1.lt p hpo, hpo, depF_less HT.out.1 hx hp⟩, depF_pos HT.out.1 hx⟩)
      have HPX : Hid (∀ i (hi : i < o.length), ∀ p ∈ parN (nodesO st.os) o[i], ∃ j, ∃ hj : j < o.length, j < i ∧ o[j] = p) := Lib.hid (topo_ahead HT.out.1)
      have HFI : Hid (∀ x ∈ [p, q, r], Fine (nodesO st.os) x) := Lib.hid ((orderR_iff (F := st.os.length) hosl).1 ⟨_, HR.out⟩)
      obtain ⟨Y, hY⟩ : ∃ Y : Nat → Nat → Bool, Y = fun x y => yesE (orderR (nodesO st.os) st.os.length [x, y]) (orderR (nodesO st.os) st.os.length [y]) x := ⟨_, rfl⟩
      obtain ⟨Wy, hWy⟩ : ∃ Wy : Nat → Nat → Nat, Wy = fun x y => wayE (nodesO st.os) (orderR (nodesO st.os) st.os.length [x, y]) (orderR (nodesO st.os) st.os.length [y]) x y := ⟨_, rfl⟩
      have HYA : Hid (∀ x ∈ [p, q, r], ∀ y ∈ [p, q, r], codeE (orderR (nodesO st.os) st.os.length [x, y]) = 0 ∧ (Y x y = true ↔ Anc (nodesO st.os) y x) ∧ (0 < Wy x y ↔ Anc (nodesO st.os) y x)) := Lib.hid (fun x hx y hy => by subst hY; subst hWy; exact orderR_pair hosl (HFI.out x hx) (HFI.out y hy))
      have HAN : Hid (∀ W, Kept (fun _ => False) w5 W → ∀ x ∈ [p, q, r], ∀ y ∈ [p, q, r], Calls Try.prog 14 #[.pointer (some ⟨s, 0, none⟩), .int .u64 x, .int .u64 y] W fun e w' => e = .returned (.tuple #[.bool (Y x y), .int .i64 0]) ∧ Kept (fun _ => False) W w') := Lib.hid (fun W hk x hx y hy => by
        have h9 := (HH5.out.kept hk).ancestor_u x y (HHS.out.2 x hx) (HHS.out.2 y hy)
        rw [(HYA.out x hx y hy).1] at h9
        subst hY
        exact h9.mono (fun e w' h => ⟨h.1.1, h.2⟩))
      have HLN : Hid (∀ W, Kept (fun _ => False) w5 W → ∀ x ∈ [p, q, r], ∀ y ∈ [p, q, r], Calls Try.prog 15 #[.pointer (some ⟨s, 0, none⟩), .int .u64 x, .int .u64 y] W fun e w' => e = .returned (.tuple #[.int .i64 (Wy x y : Nat), .int .i64 0]) ∧ Kept (fun _ => False) W w') := Lib.hid (fun W hk x hx y hy => by
        have h9 := (HH5.out.kept hk).lines_u x y (HHS.out.2 x hx) (HHS.out.2 y hy)
        rw [(HYA.out x hx y hy).1] at h9
        subst hWy
        exact h9.mono (fun e w' h => ⟨h.1.1, h.2⟩))
      have c0 := HH5.out.c0
      have HC5 : Hid (∀ W, Kept (fun _ => False) w5 W → W.cell? ⟨Hb, 0, none⟩ = some (.pointer (some ⟨s, 0, none⟩)) ∧ W.cell? ⟨vg, vo, none⟩ = some (.int .u64 p) ∧ W.cell? ⟨vg, vo + 1, none⟩ = some (.int .u64 q) ∧ W.cell? ⟨vg, vo + 2, none⟩ = some (.int .u64 r) ∧ Kept (fun _ => False) w5 W) := Lib.hid (fun W hk => ⟨hk.cell c0 (fun f => f), HC.out W (HK5.out.trans hk (fun _ _ f => f)) |>.1, HC.out W (HK5.out.trans hk (fun _ _ f => f)) |>.2.1, HC.out W (HK5.out.trans hk (fun _ _ f => f)) |>.2.2, hk⟩)
      clear hosl hY hWy
      generalize depF (parN (nodesO st.os)) o = D at *
      generalize parN (nodesO st.os) = P at *
      go_wp2_with fail
      go_loopg [66] on (fun g i wr => ∃ k, k + g = on ∧ i = .int .i64 k ∧ Hid (Kept (fun _ => False) w5 wr))
      case atStart => exact ⟨0, by omega, rfl, Lib.hid (Kept.refl _ _)⟩
      case round =>
        obtain ⟨k, hkg, rfl, HK6⟩ := hrel
        obtain ⟨gx, hgx⟩ : ∃ gx, gx = gk := ⟨_, rfl⟩
        subst hgx
        obtain ⟨wo, hwo⟩ : ∃ wo, wo = wr := ⟨_, rfl⟩
        subst hwo
        by_cases hlt : k < on
        · have hko : k < o.length := by have := HON.out; omega
          obtain ⟨g, off, rfl, hg, hc⟩ := (HI5.out.kept HK6.out (fun _ _ f => f)).at hko
          have HPK := Lib.hid (HPX.out k hko)
          have HXK : Hid (∀ r, FirstAt o (fun y => y = o[k]) r → r = (k : Int)) := Lib.hid (fun r h => h.self HT.out.1.nodup hko)
          have hxo : o[k] ∈ o := List.getElem_mem hko
          obtain ⟨x1, hx1⟩ : ∃ x, o[k] = x := ⟨_, rfl⟩
          rw [hx1] at hc HPK HXK hxo
          obtain ⟨t, d, hCM⟩ := HCM.out wo HK6.out x1 hxo
          have HCM1 := Lib.hid hCM
          have HXO := Lib.hid hxo
          have c0' := HK6.out.cell c0 (fun f => f)
          clear hx1 hg hCM hxo
          go_wp2_with fail
          refine HCM1.out.mono ?_
          rintro e w7 ⟨u, rfl, hu, hk7⟩
          have HPB := HPA.out x1 HXO.out
          have hu7 := hu.isI (fun p hp => (HPB.1 p hp).1)
          have HPB := Lib.hid HPB
          obtain ⟨pa, pc, rfl, hpm1, hpm2⟩ := hu.form
          have hpm3 : (P x1).length ≤ 9223372036854775807 := by unfold maxLen at hpm2; omega
          clear hpm1 hpm2
          obtain ⟨pn, hpn⟩ : ∃ n, (P x1).length = n := ⟨_, rfl⟩
          have HPN := Lib.hid hpn
          rw [hpn] at hu7 hpm3 ⊢
          have hk7' : Kept (fun _ => False) w5 w7 := HK6.out.trans hk7 (fun _ _ f => f)
          have HU7 := Lib.hid hu7
          clear hu hpn hu7
          have c07 := hk7'.cell c0 (fun f => f)
          have c08 : (w7.alloc (.cells #[.int .u64 t, .slice pa pn pc, .string { data := #[] }, .int .i64 d, .string { data := #[] }] 53)).cell? ⟨Hb, 0, none⟩ = some (.pointer (some ⟨s, 0, none⟩)) := ((Kept.refl (fun _ => False) w7).alloc _).cell c07 (fun f => f)
          clear c0'
          unfold comV
          go_wp2_with fail
          refine callsAt ?_
          intro w8 hW
          have hkA : Kept (fun _ => False) w7 w8 := by rw [hW]; exact (Kept.refl _ _).alloc _
          have HP8 : Hid (w8.cell? ⟨w7.heap.size, 1, none⟩ = some (.slice pa pn pc)) := Lib.hid (by rw [hW, World.cell?_alloc_new]; rfl)
          have HK8 : Hid (Kept (fun _ => False) w5 w8) := Lib.hid (hk7'.trans hkA (fun _ _ f => f))
          have HU8 := Lib.hid (HU7.out.keptN hkA)
          obtain ⟨gc, hgc⟩ : ∃ g, w7.heap.size = g := ⟨_, rfl⟩
          rw [hgc] at HP8 ⊢
          have HDP8 := Lib.hid (HDP.out w8 HK8.out x1 HXO.out)
          have HDX := Lib.hid HPB.out.2
          obtain ⟨dx, hdx⟩ : ∃ d, D x1 = d := ⟨_, rfl⟩
          rw [hdx] at HDP8 HDX HPB
          clear hW hgc hkA hk7' hk7 c07 c08 HU7 HCM1 hdx hc
          refine HDP8.out.mono ?_
          rintro e w9 ⟨rfl, hk9⟩
          have HK9 : Hid (Kept (fun _ => False) w5 w9) := Lib.hid (HK8.out.trans hk9 (fun _ _ f => f))
          have hpar := hk9.cell HP8.out (fun f => f)
          have HPL := Lib.hid (place_any w9 (some ⟨g, off, none⟩) on uc o x1 (HI5.out.kept HK9.out (fun _ _ f => f)))
          have hdx1 : ¬ (dx : Int) < 1 := by have := HDX.out; omega
          have HU9 := Lib.hid (HU8.out.keptN hk9)
          clear hk9
          go_wp2_with fail
          refine HPL.out.mono ?_
          rintro e w10 ⟨⟨r1, rfl, hr1⟩, rfl⟩
          obtain rfl := HXK.out r1 hr1
          clear hr1
          go_wp2_with fail
          obtain ⟨ps, hps⟩ : ∃ ps, P x1 = ps := ⟨_, rfl⟩
          rw [hps] at HPB HPK HPN HU9
          clear hps hdx1 hpar
          go_loopg [109] pn (fun g i wr => ∃ j, j + g = pn ∧ i = .int .i64 j ∧ Hid (Kept (fun _ => False) w9 wr))
          case atStart => exact ⟨0, by omega, rfl, Lib.hid (Kept.refl _ _)⟩
          case round =>
            obtain ⟨j, hjg, rfl, HK10⟩ := hrel
            by_cases hjl : j < pn
            · have hjp : j < ps.length := by have := HPN.out; omega
              obtain ⟨g2, off2, rfl, hg2, hc2⟩ := (HU9.out.kept HK10.out (fun _ _ f => f)).at hjp
              have hpm : ps[j] ∈ ps := List.getElem_mem hjp
              obtain ⟨p1, hp1⟩ : ∃ p, ps[j] = p := ⟨_, rfl⟩
              rw [hp1] at hc2 hpm
              obtain ⟨hpl, hpo, hpd⟩ := HPB.out.1 p1 hpm
              have HPJ := Lib.hid (HPK.out p1 hpm)
              have HK11 : Hid (Kept (fun _ => False) w5 wr) := Lib.hid (HK9.out.trans HK10.out (fun _ _ f => f))
              have c0' := HK11.out.cell c0 (fun f => f)
              have HDP11 := Lib.hid (HDP.out wr HK11.out p1 hpo)
              obtain ⟨dp, hdp⟩ : ∃ d, D p1 = d := ⟨_, rfl⟩
              rw [hdp] at HDP11 hpd
              have hpd1 : ¬ (dx : Int) ≤ (dp : Int) := by omega
              clear hp1 hpm hg2 hpo hdp hpd
              go_wp2_with fail
              refine HDP11.out.mono ?_
              rintro e w11 ⟨rfl, hk11⟩
              have HK12 : Hid (Kept (fun _ => False) w9 w11) := Lib.hid (HK10.out.trans hk11 (fun _ _ f => f))
              have HPL2 := Lib.hid (place_any w11 (some ⟨g, off, none⟩) on uc o p1 (HI5.out.kept (HK11.out.trans hk11 (fun _ _ f => f)) (fun _ _ f => f)))
              clear hk11 hc2
              go_wp2_with fail
              refine HPL2.out.mono ?_
              rintro e w12 ⟨⟨r2, rfl, hr2⟩, rfl⟩
              obtain ⟨hr0, hrk⟩ := hr2.ahead HPJ.out
              have hr0' : ¬ r2 < 0 := by omega
              have hrk' : ¬ (k : Int) ≤ r2 := by omega
              clear hr2 hr0 hrk
              go_wp2_with fail
              go_roundg (gk - 1)
              case measure => omega
              case rel => exact ⟨j + 1, by omega, by go_num, HK12⟩
            · obtain rfl : j = pn := by omega
              clear hjl
              go_wp2_with fail
              go_roundg (gx - 1)
              case measure => omega
              case rel => exact ⟨k + 1, by omega, by go_num, Lib.hid (HK9.out.trans HK10.out (fun _ _ f => f))⟩
        · obtain rfl : k = on := by omega
          clear hlt
          go_wp2_with fail
          clear HCM HDP HPA HPX
          have HA1 := Lib.hid (fun W hk => HAN.out W hk p (by simp) q (by simp))
          have HA2 := Lib.hid (fun W hk => HAN.out W hk q (by simp) r (by simp))
          have HA3 := Lib.hid (fun W hk => HAN.out W hk p (by simp) r (by simp))
          have HA4 := Lib.hid (fun W hk => HAN.out W hk q (by simp) p (by simp))
          have HA5 := Lib.hid (fun W hk => HLN.out W hk p (by simp) q (by simp))
          have hS1 := HC5.out wo.drew (HK6.out.trans ((Kept.refl _ _).drew) (fun _ _ f => f))
          go_region_held3 (fun W => W.cell? ⟨Hb, 0, none⟩ = some (.pointer (some ⟨s, 0, none⟩)) ∧ W.cell? ⟨vg, vo, none⟩ = some (.int .u64 p) ∧ W.cell? ⟨vg, vo + 1, none⟩ = some (.int .u64 q) ∧ W.cell? ⟨vg, vo + 2, none⟩ = some (.int .u64 r) ∧ Kept (fun _ => False) w5 W) (first | exact hS1 | exact HC5.out _ (hS1.2.2.2.2.trans hkq1 (fun _ _ f => f))) ((go_at_call 14; refine (HA1.out _ hS1.2.2.2.2).mono ?_; rintro e wq1 ⟨rfl, hkq1⟩))
          have HQ1 := Lib.hid (hS1.2.2.2.2.trans hkq1 (fun _ _ f => f))
          clear hS1 hkq1 HA1
          go_wp2_with fail
          have hS2 := HC5.out wq1.drew (HQ1.out.trans ((Kept.refl _ _).drew) (fun _ _ f => f))
          go_region_held3 (fun W => W.cell? ⟨Hb, 0, none⟩ = some (.pointer (some ⟨s, 0, none⟩)) ∧ W.cell? ⟨vg, vo, none⟩ = some (.int .u64 p) ∧ W.cell? ⟨vg, vo + 1, none⟩ = some (.int .u64 q) ∧ W.cell? ⟨vg, vo + 2, none⟩ = some (.int .u64 r) ∧ Kept (fun _ => False) w5 W) (first | exact hS2 | exact HC5.out _ (hS2.2.2.2.2.trans hkq2 (fun _ _ f => f))) ((go_at_call 14; refine (HA2.out _ hS2.2.2.2.2).mono ?_; rintro e wq2 ⟨rfl, hkq2⟩))
          have HQ2 := Lib.hid (hS2.2.2.2.2.trans hkq2 (fun _ _ f => f))
          clear hS2 hkq2 HA2
          go_wp2_with fail
          have hS3 := HC5.out wq2.drew (HQ2.out.trans ((Kept.refl _ _).drew) (fun _ _ f => f))
          go_region_held3 (fun W => W.cell? ⟨Hb, 0, none⟩ = some (.pointer (some ⟨s, 0, none⟩)) ∧ W.cell? ⟨vg, vo, none⟩ = some (.int .u64 p) ∧ W.cell? ⟨vg, vo + 1, none⟩ = some (.int .u64 q) ∧ W.cell? ⟨vg, vo + 2, none⟩ = some (.int .u64 r) ∧ Kept (fun _ => False) w5 W) (first | exact hS3 | exact HC5.out _ (hS3.2.2.2.2.trans hkq3 (fun _ _ f => f))) ((go_at_call 14; refine (HA3.out _ hS3.2.2.2.2).mono ?_; rintro e wq3 ⟨rfl, hkq3⟩))
          have HQ3 := Lib.hid (hS3.2.2.2.2.trans hkq3 (fun _ _ f => f))
          clear hS3 hkq3 HA3
          go_wp2_with fail
          have hS4 := HC5.out wq3.drew (HQ3.out.trans ((Kept.refl _ _).drew) (fun _ _ f => f))
          go_region_held3 (fun W => W.cell? ⟨Hb, 0, none⟩ = some (.pointer (some ⟨s, 0, none⟩)) ∧ W.cell? ⟨vg, vo, none⟩ = some (.int .u64 p) ∧ W.cell? ⟨vg, vo + 1, none⟩ = some (.int .u64 q) ∧ W.cell? ⟨vg, vo + 2, none⟩ = some (.int .u64 r) ∧ Kept (fun _ => False) w5 W) (first | exact hS4 | exact HC5.out _ (hS4.2.2.2.2.trans hkq4 (fun _ _ f => f))) ((go_at_call 14; refine (HA4.out _ hS4.2.2.2.2).mono ?_; rintro e wq4 ⟨rfl, hkq4⟩))
          have HQ4 := Lib.hid (hS4.2.2.2.2.trans hkq4 (fun _ _ f => f))
          clear hS4 hkq4 HA4
          go_wp2_with fail
          have hS5 := HC5.out wq4.drew (HQ4.out.trans ((Kept.refl _ _).drew) (fun _ _ f => f))
          go_region_held3 (fun W => W.cell? ⟨Hb, 0, none⟩ = some (.pointer (some ⟨s, 0, none⟩)) ∧ W.cell? ⟨vg, vo, none⟩ = some (.int .u64 p) ∧ W.cell? ⟨vg, vo + 1, none⟩ = some (.int .u64 q) ∧ W.cell? ⟨vg, vo + 2, none⟩ = some (.int .u64 r) ∧ Kept (fun _ => False) w5 W) (first | exact hS5 | exact HC5.out _ (hS5.2.2.2.2.trans hkq5 (fun _ _ f => f))) ((go_at_call 15; refine (HA5.out _ hS5.2.2.2.2).mono ?_; rintro e wq5 ⟨rfl, hkq5⟩))
          have HQ5 := Lib.hid (hS5.2.2.2.2.trans hkq5 (fun _ _ f => f))
          clear hS5 hkq5 HA5
          go_wp2_with fail
          obtain ⟨hcp, hcq⟩ : wq5.cell? ⟨vg, vo, none⟩ = some (.int .u64 p) ∧ wq5.cell? ⟨vg, vo + 1, none⟩ = some (.int .u64 q) := ⟨(HC5.out wq5 HQ5.out).2.1, (HC5.out wq5 HQ5.out).2.2.1⟩
          have hl1 := (HYA.out p (by simp) q (by simp)).2
          have htr : Y p q = true → Y q r = true → Y p r = true := fun h1 h2 => (HYA.out p (by simp) r (by simp)).2.1.2 (((HYA.out q (by simp) r (by simp)).2.1.1 h2).trans (hl1.1.1 h1))
          have han : Y p q = true → Y q p = true → p = q := fun h1 h2 => ((hl1.1.1 h1).anti (HFI.out q (by simp)) ((HYA.out q (by simp) p (by simp)).2.1.1 h2)).symm
          have hln : decide (0 < Wy p q) = Y p q := by
            by_cases h : Y p q = true
            · rw [h]; simpa using hl1.2.2 (hl1.1.1 h)
            · have h2 : ¬ 0 < Wy p q := fun h0 => h (hl1.1.2 (hl1.2.1 h0))
              rw [decide_eq_false h2]; simpa using h
          have HKZ : Hid (Kept (fun _ => False) w wq5) := Lib.hid ((HK4.out.more HK5.out (fun _ f => f.elim)).more HQ5.out (fun _ f => f.elim))
          generalize Wy p q = m at *
          generalize Y p q = b1 at *
          generalize Y q r = b2 at *
          generalize Y p r = b3 at *
          generalize Y q p = b4 at *
          have hlz : decide ((0 : Int) < (m : Int)) = b1 := by rw [← hln]; simp
          cases b1 with
          | false =>
            have hl0 : decide (0 < m) = false := hln
            clear htr han hln
            go_quiet (fail)
            go_wp2_with fail
            go_ret
            exact ⟨rfl, HKZ.out.trans (keptDrewM _ _) (fun _ _ f => f)⟩
          | true =>
            have hl0 : decide (0 < m) = true := hln
            clear hln
            cases b2 with
            | false =>
              cases b4 with
              | false =>
                clear htr han
                go_quiet (fail)
                go_wp2_with fail
                go_ret
                exact ⟨rfl, HKZ.out.trans (keptDrewM _ _) (fun _ _ f => f)⟩
              | true =>
                have hpq : ((p : Int) == (q : Int)) = true := by simp [han rfl rfl]
                clear htr han
                go_quiet (fail)
                go_wp2_with fail
                go_ret
                exact ⟨rfl, HKZ.out.trans (keptDrewM _ _) (fun _ _ f => f)⟩
            | true =>
              obtain rfl := htr rfl rfl
              cases b4 with
              | false =>
                clear htr han
                go_quiet (fail)
                go_wp2_with fail
                go_ret
                exact ⟨rfl, HKZ.out.trans (keptDrewM _ _) (fun _ _ f => f)⟩
              | true =>
                have hpq : ((p : Int) == (q : Int)) = true := by simp [han rfl rfl]
                clear htr han
                go_quiet (fail)
                go_wp2_with fail
                go_ret
                exact ⟨rfl, HKZ.out.trans (keptDrewM _ _) (fun _ _ f => f)⟩
end Go.Proofs.Ytikacgiccllolaa
