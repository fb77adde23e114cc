/- espalierlaw11.GraphBetween. -/
import Derived.Test.YtikacgiccllolaaBetw
import Derived.Test.YtikacgiccllolaaLawL
import Derived.Test.YtikacgiccllolaaWake
namespace Go.Proofs.Ytikacgiccllolaa
open Go.RowKit Go.ChangeMaps Go.MapKept

theorem HistAt.between_u {w : World} {Hb s : Nat} {F : Nat → Prop} {st : HSt} {na ia ta : Option Addr} {nc ic tc : Nat} {S : List NdM} (h : HistAt w Hb s F st na ia ta nc ic tc S) (a b : Option Addr) (n c n2 c2 : Nat) (hs ws : List Nat) (hI : IsI w (.slice a n c) hs) (hJ : IsI w (.slice b n2 c2) ws) (hl : hs.length + ws.length ≤ 1000) :
    Calls Try.prog 22 #[.pointer (some ⟨s, 0, none⟩), .slice a n c, .slice b n2 c2] w fun e w' => (∃ v, e = .returned (.tuple #[v, .int .i64 (codeE (orderR (nodesO st.os) st.os.length (hs ++ ws)))]) ∧ OwnI w.heap.size w' v (betL (nodesO st.os) st.os.length hs ws) ∧ Sound (orderR (nodesO st.os) st.os.length (hs ++ ws))) ∧ Kept (fun _ => False) w w' :=
  between_any h.ob (by have := h.sl.2.1; omega) a b n c n2 c2 hs ws hI hJ hl
theorem join_ok {N : List NodeM} {Fu : Nat} (hF : N.length ≤ Fu) {hs ws oh ow : List Nat} (h : orderR N Fu hs = .ok oh) (h2 : orderR N Fu ws = .ok ow) : ∃ o, orderR N Fu (hs ++ ws) = .ok o := by
  have h1 := (orderR_iff hF).1 ⟨_, h⟩
  have h3 := (orderR_iff hF).1 ⟨_, h2⟩
  exact (orderR_iff hF).2 (fun s hs' => (List.mem_append.1 hs').elim (h1 s) (h3 s))
theorem betL_nil (N : List NodeM) (Fu : Nat) (ws : List Nat) : betL N Fu [] ws = okL (orderR N Fu ws) := by
  unfold betL
  rw [List.nil_append, show orderR N Fu [] = .ok [] from rfl]
  cases orderR N Fu ws with
  | error c => rfl
  | ok o => simp [okL]
theorem Sound.no {R : OrdR} (h : Sound R) : (∃ o, R = .ok o) ∨ ∃ c, R = .error c ∧ c ≠ 0 := by
  cases R with
  | ok o => exact .inl ⟨o, rfl⟩
  | error c => exact .inr ⟨c, rfl, fun e => by obtain ⟨o, h⟩ := h e; cases h⟩
set_option maxRecDepth 100000 in
set_option maxHeartbeats 2000000 in
theorem between_law (w : World) (a : Option Addr) (n c : Nat) (l : List BornM) (hB : IsBn w (.slice a n c) l) (ya : Option Addr) (yn yc : Nat) (yl : List Int) (hY : IsZ w (.slice ya yn yc) yl) (za : Option Addr) (zn zc : Nat) (zl : List Int) (hZ : IsZ w (.slice za zn zc) zl) :
    Calls Try.prog 6 #[.slice a n c, .slice ya yn yc, .slice za zn zc] w fun e w' => e = .returned (.bool true) ∧ Kept (fun _ => False) w w' := by
  have HB := Lib.hid hB
  have HY := Lib.hid hY
  have HZ := Lib.hid hZ
  clear hB hY hZ
  go_enter Try.func6, Try.ntmps6
  go_wp2_with fail
  refine (wakes_any w).mono ?_
  rintro e w1 ⟨rfl, hk1⟩
  have HK1 := Lib.hid hk1
  have HBO := Lib.hid (born_is w1 a n c l (HB.out.keptN hk1))
  clear hk1
  go_wp2_with fail
  refine HBO.out.mono ?_
  rintro e w2 ⟨hbr, hk2⟩
  have HK2 : Hid (Kept (fun _ => False) w w2) := Lib.hid (HK1.out.more hk2 (fun _ f => f.elim))
  clear hk2
  cases hbf : bornF l with
  | none =>
    rw [hbf] at hbr
    obtain rfl := hbr
    clear hbf
    go_wp2_with fail
    refine (wakes_any w2).mono ?_
    rintro e w3 ⟨rfl, hk3⟩
    have HK3 : Hid (Kept (fun _ => False) w w3) := Lib.hid (HK2.out.more hk3 (fun _ f => f.elim))
    clear hk3
    go_wp2_with fail
    go_ret
    exact ⟨rfl, HK3.out⟩
  | some st =>
    rw [hbf] at hbr
    obtain ⟨Hb, s, F, na, ia, ta, nc, ic, tc, S, rfl, hH⟩ := hbr
    have HH := Lib.hid hH
    clear hbf hH
    go_wp2_with fail
    refine (wakes_any w2).mono ?_
    rintro e w3 ⟨rfl, hk3⟩
    have HK3 : Hid (Kept (fun _ => False) w w3) := Lib.hid (HK2.out.more hk3 (fun _ f => f.elim))
    have HH3 := Lib.hid (HH.out.kept hk3)
    clear hk3
    have HH1 := Lib.hid (heads_any HH3.out ya yn yc yl (HY.out.kept HK3.out (fun _ _ f => f)))
    have HH2 : Hid (∀ W, Kept (fun _ => False) w3 W → Calls Try.prog 10 #[.pointer (some ⟨Hb, 0, none⟩), .slice za zn zc] W fun e w' => (∃ v, e = .returned v ∧ OwnI W.heap.size w' v (headsOf st.ids zl)) ∧ Kept (fun _ => False) W w') := Lib.hid (fun W hk => heads_any (HH3.out.kept hk) za zn zc zl ((HZ.out.kept HK3.out (fun _ _ f => f)).kept hk (fun _ _ f => f)))
    have HHS := Lib.hid (HH.out.ok.heads yl)
    have HWS := Lib.hid (HH.out.ok.heads zl)
    have HHL : Hid ((headsOf st.ids yl).length + (headsOf st.ids zl).length ≤ 1000) := Lib.hid (by rw [headsOf_length, headsOf_length]; omega)
    generalize headsOf st.ids yl = hs at *
    generalize headsOf st.ids zl = ws at *
    go_wp2_with fail
    refine HH1.out.mono ?_
    rintro e w4 ⟨⟨v4, rfl, hv4⟩, hk4⟩
    obtain ⟨ha, hc, rfl, -, -⟩ := hv4.form
    have hi4 := hv4.isI HHS.out.2
    obtain ⟨hn, hhn⟩ : ∃ n, hs.length = n := ⟨_, rfl⟩
    rw [hhn] at hi4 ⊢
    have HI4 := Lib.hid hi4
    have HK4 := Lib.hid hk4
    have HHW := Lib.hid (HH2.out w4 hk4)
    clear hv4 hi4 hhn hk4
    go_wp2_with fail
    refine HHW.out.mono ?_
    rintro e w5 ⟨⟨v5, rfl, hv5⟩, hk5⟩
    obtain ⟨wa, wc, rfl, -, -⟩ := hv5.form
    have hi5 := hv5.isI HWS.out.2
    obtain ⟨wn, hwn⟩ : ∃ n, ws.length = n := ⟨_, rfl⟩
    rw [hwn] at hi5 ⊢
    have HJ5 := Lib.hid hi5
    have HI5 := Lib.hid (HI4.out.keptN hk5)
    have HH5 := Lib.hid (HH3.out.kept (HK4.out.trans hk5 (fun _ _ f => f)))
    have HK5 : Hid (Kept (fun _ => False) w w5) := Lib.hid ((HK3.out.trans HK4.out (fun _ _ f => f)).trans hk5 (fun _ _ f => f))
    clear hv5 hi5 hwn hk5 HK4 HI4 HH1 HH2 HHW
    have HOH : Hid (∀ W, Kept (fun _ => False) w5 W → _) := Lib.hid (fun W hk => (HH5.out.kept hk).order_u ha hn hc hs (HI5.out.keptN hk))
    have HOW : Hid (∀ W, Kept (fun _ => False) w5 W → _) := Lib.hid (fun W hk => (HH5.out.kept hk).order_u wa wn wc ws (HJ5.out.keptN hk))
    have HBW : Hid (∀ W, Kept (fun _ => False) w5 W → _) := Lib.hid (fun W hk => (HH5.out.kept hk).between_u ha wa hn hc wn wc hs ws (HI5.out.keptN hk) (HJ5.out.keptN hk) HHL.out)
    have HB0 : Hid (∀ W, Kept (fun _ => False) w5 W → _) := Lib.hid (fun W hk => (HH5.out.kept hk).between_u none wa 0 0 wn wc [] ws ⟨none, 0, rfl, Nat.le_refl _, by simp [maxLen], by simp, .inl rfl⟩ (HJ5.out.keptN hk) (by have := HHL.out; simp; omega))
    simp only [betL_nil, List.nil_append] at HB0
    have hosl : (nodesO st.os).length ≤ st.os.length := by simp [nodesO]
    have HPO : Hid (∀ o, orderR (nodesO st.os) st.os.length (hs ++ ws) = .ok o → (∃ oh, orderR (nodesO st.os) st.os.length hs = .ok oh) ∧ ∃ ow, orderR (nodesO st.os) st.os.length ws = .ok ow) := Lib.hid (fun o h => parts_ok hosl h)
    have HJO : Hid (∀ oh ow, orderR (nodesO st.os) st.os.length hs = .ok oh → orderR (nodesO st.os) st.os.length ws = .ok ow → ∃ o, orderR (nodesO st.os) st.os.length (hs ++ ws) = .ok o) := Lib.hid (fun oh ow h1 h2 => join_ok hosl h1 h2)
    have HLH : Hid (∀ x ∈ okL (orderR (nodesO st.os) st.os.length hs), x < 18446744073709551616) := Lib.hid okL_lt
    have HLW : Hid (∀ x ∈ okL (orderR (nodesO st.os) st.os.length ws), x < 18446744073709551616) := Lib.hid okL_lt
    have HBL : Hid (∀ oh ow o, orderR (nodesO st.os) st.os.length hs = .ok oh → orderR (nodesO st.os) st.os.length ws = .ok ow → orderR (nodesO st.os) st.os.length (hs ++ ws) = .ok o → betL (nodesO st.os) st.os.length hs ws = ow.filter (fun x => !decide (x ∈ oh))) := Lib.hid (fun oh ow o h1 h2 h3 => by unfold betL; rw [h1, h2, h3]; rfl)
    have HLNW : Hid (∀ ow, orderR (nodesO st.os) st.os.length ws = .ok ow → ow.length ≤ 100000) := Lib.hid (fun ow h => by have h1 := (orderR_ok h).1.good.len; have h2 := HH5.out.sl.2.1; simp [nodesO] at h1; omega)
    generalize betL (nodesO st.os) st.os.length hs ws = bl at *
    generalize orderR (nodesO st.os) st.os.length hs = Rh at *
    generalize orderR (nodesO st.os) st.os.length ws = Rw at *
    generalize orderR (nodesO st.os) st.os.length (hs ++ ws) = Rb at *
    have c0 := HH5.out.c0
    have HO5 := Lib.hid (HOH.out w5 (Kept.refl _ _))
    clear hosl
    go_wp2_with fail
    refine HO5.out.mono ?_
    rintro e w6 ⟨⟨⟨vh, rfl, hvh⟩, hSh⟩, hk6⟩
    have HSH := Lib.hid hSh
    have HVH := Lib.hid hvh
    have HK6 : Hid (Kept (fun _ => False) w5 w6) := Lib.hid hk6
    have HO6 := Lib.hid (HOW.out w6 hk6)
    have c0' := hk6.cell c0 (fun f => f)
    clear c0 hk6 hSh hvh
    go_wp2_with fail
    refine HO6.out.mono ?_
    rintro e w7 ⟨⟨⟨vw, rfl, hvw⟩, hSw⟩, hk7⟩
    have HSW := Lib.hid hSw
    have HVW := Lib.hid hvw
    have HVH7 := Lib.hid (HVH.out.keptF hk7 (fun _ _ f => f))
    have HK7 : Hid (Kept (fun _ => False) w5 w7) := Lib.hid (HK6.out.trans hk7 (fun _ _ f => f))
    have HB7 := Lib.hid (HBW.out w7 HK7.out)
    have c0 := hk7.cell c0' (fun f => f)
    clear c0' hk7 hSw hvw
    go_wp2_with fail
    refine HB7.out.mono ?_
    rintro e w8 ⟨⟨vb, rfl, hvb, hSb⟩, hk8⟩
    have HSB := Lib.hid hSb
    have HVB := Lib.hid hvb
    have HVH8 := Lib.hid (HVH7.out.keptF hk8 (fun _ _ f => f))
    have HVW8 := Lib.hid (HVW.out.keptF hk8 (fun _ _ f => f))
    have HK8 : Hid (Kept (fun _ => False) w5 w8) := Lib.hid (HK7.out.trans hk8 (fun _ _ f => f))
    have HB8 := Lib.hid (HB0.out w8 HK8.out)
    have c0' := hk8.cell c0 (fun f => f)
    clear c0 hk8 hSb hvb
    go_wp2_with fail
    refine HB8.out.mono ?_
    rintro e w9 ⟨⟨va, rfl, hva, -⟩, hk9⟩
    have HVA := Lib.hid hva
    have HVH9 := Lib.hid (HVH8.out.keptF hk9 (fun _ _ f => f))
    have HVW9 := Lib.hid (HVW8.out.keptF hk9 (fun _ _ f => f))
    have HVB9 := Lib.hid (HVB.out.keptF hk9 (fun _ _ f => f))
    have HK9 : Hid (Kept (fun _ => False) w5 w9) := Lib.hid (HK8.out.trans hk9 (fun _ _ f => f))
    clear c0' hk9 hva HO5 HO6 HB7 HB8 HVH HVH7 HVH8 HVW HVW8 HVB HOH HOW HBW HB0 HK6 HK7 HK8
    rcases HSH.out.no with ⟨oh, rfl⟩ | ⟨ch, rfl, hch⟩
    · rcases HSW.out.no with ⟨ow, rfl⟩ | ⟨cw, rfl, hcw⟩
      · obtain ⟨ob, rfl⟩ := HJO.out oh ow rfl rfl
        have hbl := HBL.out oh ow ob rfl rfl rfl
        subst hbl
        obtain ⟨ua, uac, rfl, -, -⟩ := HVA.out.form
        obtain ⟨uw, uwc, rfl, -, -⟩ := HVW9.out.form
        obtain ⟨uh, uhc, rfl, -, -⟩ := HVH9.out.form
        obtain ⟨ub, ubc, rfl, -, -⟩ := HVB9.out.form
        have iw := HVW9.out.isI HLW.out
        have ih := HVH9.out.isI HLH.out
        have ib := HVB9.out.isI (fun x hx => HLW.out x (List.mem_filter.1 hx).1)
        have ia := HVA.out.isI HLW.out
        simp only [okL, codeE] at iw ih ib ia ⊢
        have HSAME := Lib.hid (same_any w9 ua uw ow.length uac ow.length uwc ow ow ia iw)
        rw [show decide (ow = ow) = true from by simp] at HSAME
        have hwl := HLNW.out ow rfl
        have HIW := Lib.hid iw
        have HIH := Lib.hid ih
        have HIB := Lib.hid ib
        obtain ⟨nl, hnl⟩ : ∃ nl, ow.filter (fun x => !decide (x ∈ oh)) = nl := ⟨_, rfl⟩
        have HNL : Hid (∀ x, x ∈ nl ↔ x ∈ ow ∧ x ∉ oh) := Lib.hid (fun x => by rw [← hnl]; simp)
        have hbn : nl.length ≤ 100000 := by rw [← hnl]; have := List.length_filter_le (fun x => !decide (x ∈ oh)) ow; omega
        rw [hnl] at HIB ⊢
        obtain ⟨on, hon⟩ : ∃ n, ow.length = n := ⟨_, rfl⟩
        obtain ⟨nn, hnn⟩ : ∃ n, nl.length = n := ⟨_, rfl⟩
        obtain ⟨hn2, hhn2⟩ : ∃ n, oh.length = n := ⟨_, rfl⟩
        rw [hon] at HSAME HIW hwl ⊢
        rw [hnn] at HIB hbn ⊢
        rw [hhn2] at HIH ⊢
        have HON := Lib.hid hon
        have HNN := Lib.hid hnn
        clear iw ih ib ia hnl hon hnn hhn2 HVA HVW9 HVH9 HVB9
        go_wp2_with fail
        refine HSAME.out.mono ?_
        rintro e w10 ⟨rfl, hk10⟩
        have HK10 : Hid (Kept (fun _ => False) w9 w10) := Lib.hid hk10
        have HIW1 := Lib.hid (HIW.out.keptN hk10)
        have HIH1 := Lib.hid (HIH.out.keptN hk10)
        have HIB1 := Lib.hid (HIB.out.keptN hk10)
        have HKZ : Hid (Kept (fun _ => False) w w10) := Lib.hid ((HK5.out.more HK9.out (fun _ f => f.elim)).more hk10 (fun _ f => f.elim))
        clear hk10
        go_wp2_with fail
        go_loopg [112] nn (fun g i wr => ∃ k, k + g = nn ∧ i = .int .i64 k ∧ Hid (Kept (fun _ => False) w10 wr))
        case atStart => exact ⟨0, by omega, rfl, Lib.hid (Kept.refl _ _)⟩
        case round =>
          obtain ⟨k, hkg, rfl, HK11⟩ := hrel
          by_cases hlt : k < nn
          · have hkl : k < nl.length := by have := HNN.out; omega
            obtain ⟨g, o, rfl, hg, hc⟩ := (HIB1.out.keptN HK11.out).at hkl
            have hxm : nl[k] ∈ nl := List.getElem_mem hkl
            obtain ⟨x, hx⟩ : ∃ x, nl[k] = x := ⟨_, rfl⟩
            rw [hx] at hc hxm
            obtain ⟨hx1, hx2⟩ := (HNL.out x).1 hxm
            have HP1 := Lib.hid (place_any wr uw on uwc ow x (HIW1.out.keptN HK11.out))
            have HP2 := Lib.hid (place_any wr uh hn2 uhc oh x (HIH1.out.keptN HK11.out))
            have HX1 := Lib.hid hx1
            have HX2 := Lib.hid hx2
            clear hx hxm hg hx1 hx2
            go_wp2_with fail
            refine HP1.out.mono ?_
            rintro e w11 ⟨⟨r1, rfl, hr1⟩, rfl⟩
            have hr1' : ¬ r1 < 0 := by have := hr1.mem; simp [HX1.out] at this; omega
            clear hr1
            go_wp2_with fail
            refine HP2.out.mono ?_
            rintro e w11 ⟨⟨r2, rfl, hr2⟩, rfl⟩
            have hr2' : ¬ (0 : Int) ≤ r2 := by have := hr2.mem; simp [HX2.out] at this; omega
            clear hr2
            go_wp2_with fail
            go_roundg (gk - 1)
            case measure => omega
            case rel => exact ⟨k + 1, by omega, by go_num, HK11⟩
          · obtain rfl : k = nn := by omega
            clear hlt
            go_wp2_with fail
            obtain ⟨wz, hwz⟩ : ∃ wz, wz = wr := ⟨_, rfl⟩
            subst hwz
            go_loopg [129] on (fun g i wr => ∃ k, k + g = on ∧ i = .int .i64 k ∧ Hid (Kept (fun _ => False) w10 wr))
            case atStart => exact ⟨0, by omega, rfl, HK11⟩
            case round =>
              obtain ⟨m, hmg, rfl, HK12⟩ := hrel
              by_cases hlt : m < on
              · have hkl : m < ow.length := by have := HON.out; omega
                obtain ⟨g, o, rfl, hg, hc⟩ := (HIW1.out.keptN HK12.out).at hkl
                have hxm : ow[m] ∈ ow := List.getElem_mem hkl
                obtain ⟨x, hx⟩ : ∃ x, ow[m] = x := ⟨_, rfl⟩
                rw [hx] at hc hxm
                have HP1 := Lib.hid (place_any wr ub k ubc nl x (HIB1.out.keptN HK12.out))
                have HP2 := Lib.hid (place_any wr uh hn2 uhc oh x (HIH1.out.keptN HK12.out))
                have HXN : Hid (x ∈ nl ↔ x ∉ oh) := Lib.hid (by rw [HNL.out x]; exact ⟨fun h => h.2, fun h => ⟨hxm, h⟩⟩)
                clear hx hxm hg
                go_wp2_with fail
                refine HP1.out.mono ?_
                rintro e w11 ⟨⟨r1, rfl, hr1⟩, rfl⟩
                have HR1 := Lib.hid hr1.mem
                clear hr1
                go_wp2_with fail
                refine HP2.out.mono ?_
                rintro e w11 ⟨⟨r2, rfl, hr2⟩, rfl⟩
                have HR2 := Lib.hid hr2.mem
                clear hr2
                by_cases hxo : x ∈ oh
                · have hxn : x ∉ nl := fun h => HXN.out.1 h hxo
                  have h1 : decide ((0 : Int) ≤ r1) = false := by rw [HR1.out]; simp [hxn]
                  have h2 : decide ((0 : Int) ≤ r2) = true := by rw [HR2.out]; simp [hxo]
                  clear hxn hxo
                  go_wp2_with fail
                  go_roundg (gk - 1)
                  case measure => omega
                  case rel => exact ⟨m + 1, by omega, by go_num, HK12⟩
                · have hxn : x ∈ nl := HXN.out.2 hxo
                  have h1 : decide ((0 : Int) ≤ r1) = true := by rw [HR1.out]; simp [hxn]
                  have h2 : decide ((0 : Int) ≤ r2) = false := by rw [HR2.out]; simp [hxo]
                  clear hxn hxo
                  go_wp2_with fail
                  go_roundg (gk - 1)
                  case measure => omega
                  case rel => exact ⟨m + 1, by omega, by go_num, HK12⟩
              · obtain rfl : m = on := by omega
                clear hlt
                go_wp2_with fail
                go_ret
                exact ⟨rfl, HKZ.out.more HK12.out (fun _ f => f.elim)⟩
      · have hRb : ∃ cb, Rb = .error cb ∧ cb ≠ 0 := by
          rcases HSB.out.no with ⟨ob, rfl⟩ | h
          · obtain ⟨-, ow, h⟩ := HPO.out ob rfl; cases h
          · exact h
        obtain ⟨cb, rfl, hcb⟩ := hRb
        simp only [codeE]
        have h1 : (cb == 0) = false := by simp [hcb]
        have h2 : (cw == 0) = false := by simp [hcw]
        go_wp2_with fail
        go_ret
        exact ⟨by simp [hcb], HK5.out.more HK9.out (fun _ f => f.elim)⟩
    · have hRb : ∃ cb, Rb = .error cb ∧ cb ≠ 0 := by
        rcases HSB.out.no with ⟨ob, rfl⟩ | h
        · obtain ⟨⟨oh, h⟩, -⟩ := HPO.out ob rfl; cases h
        · exact h
      obtain ⟨cb, rfl, hcb⟩ := hRb
      obtain ⟨ww, hww⟩ : ∃ c, codeE Rw = c := ⟨_, rfl⟩
      simp only [hww]
      simp only [codeE]
      have h1 : (cb == 0) = false := by simp [hcb]
      have h2 : (ch == 0) = false := by simp [hch]
      clear hww
      go_wp2_with fail
      all_goals
        go_ret
        exact ⟨by simp [hcb], HK5.out.more HK9.out (fun _ f => f.elim)⟩
end Go.Proofs.Ytikacgiccllolaa
