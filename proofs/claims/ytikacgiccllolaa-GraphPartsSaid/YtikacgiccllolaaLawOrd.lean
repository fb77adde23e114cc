/- espalierlaw11.GraphOrders. -/
import Derived.Test.YtikacgiccllolaaWake
import Derived.Test.YtikacgiccllolaaNodC
namespace Go.Proofs.Ytikacgiccllolaa
open Go.RowKit Go.ChangeMaps Go.MapKept

theorem HistAt.orders {w : World} {Hb s : Nat} {F : Nat → Prop} {st : HSt} {na ia ta : Option Addr} {nc ic tc : Nat} {S : List NdM} (h : HistAt w Hb s F st na ia ta nc ic tc S) (hs : List Nat) (hz : zId ∉ hs) : orderR (nodesD S) st.os.length hs = orderR (nodesO st.os) st.os.length hs := by
  rw [h.ndS]
  exact (h.ok.order _ hs hz).symm
set_option maxRecDepth 100000 in
set_option maxHeartbeats 1000000 in
theorem orders_law (w : World) (a : Option Addr) (n c : Nat) (l : List BornM) (hB : IsBn w (.slice a n c) l) (za : Option Addr) (zn zc : Nat) (zl : List Int) (hZ : IsZ w (.slice za zn zc) zl) :
    Calls Try.prog 3 #[.slice a n c, .slice za zn zc] w fun e w' => e = .returned (.bool true) ∧ Kept (fun _ => False) w w' := by
  have HB := Lib.hid hB
  have HZ := Lib.hid hZ
  clear hB hZ
  go_enter Try.func3, Try.ntmps3
  go_wp2_with fail
  refine (wakes_any w).mono ?_
  rintro e w1 ⟨rfl, hk1⟩
  have HK1 := Lib.hid hk1
  have HBO := Lib.hid (born_is w1 a n c l (HB.out.keptN hk1))
  clear hk1
  go_wp2_with fail
  refine HBO.out.mono ?_
  rintro e w2 ⟨hbr, hk2⟩
  have HK2 : Hid (Kept (fun _ => False) w w2) := Lib.hid (HK1.out.more hk2 (fun _ f => f.elim))
  clear hk2
  cases hbf : bornF l with
  | none =>
    rw [hbf] at hbr
    obtain rfl := hbr
    clear hbf
    go_wp2_with fail
    refine (wakes_any w2).mono ?_
    rintro e w3 ⟨rfl, hk3⟩
    have HK3 : Hid (Kept (fun _ => False) w w3) := Lib.hid (HK2.out.more hk3 (fun _ f => f.elim))
    clear hk3
    go_wp2_with fail
    go_ret
    exact ⟨rfl, HK3.out⟩
  | some st =>
    rw [hbf] at hbr
    obtain ⟨Hb, s, F, na, ia, ta, nc, ic, tc, S, rfl, hH⟩ := hbr
    have HH := Lib.hid hH
    clear hbf hH
    go_wp2_with fail
    refine (wakes_any w2).mono ?_
    rintro e w3 ⟨rfl, hk3⟩
    have HK3 : Hid (Kept (fun _ => False) w w3) := Lib.hid (HK2.out.more hk3 (fun _ f => f.elim))
    have HH3 := Lib.hid (HH.out.kept hk3)
    clear hk3
    have HHD := Lib.hid (heads_any HH3.out za zn zc zl (HZ.out.kept HK3.out (fun _ _ f => f)))
    have HHS := Lib.hid (HH.out.ok.heads zl)
    have HHL : Hid ((headsOf st.ids zl).length ≤ 8) := Lib.hid (by rw [headsOf_length]; omega)
    generalize headsOf st.ids zl = hs at *
    go_wp2_with fail
    refine HHD.out.mono ?_
    rintro e w4 ⟨⟨v, rfl, hv⟩, hk4⟩
    obtain ⟨va, vc, rfl, -, -⟩ := hv.form
    have hi := hv.isI HHS.out.2
    obtain ⟨vn, hvn⟩ : ∃ vn, hs.length = vn := ⟨_, rfl⟩
    have hH4 := HH3.out.kept hk4
    have hsl := hH4.sl
    have HRO := Lib.hid (rorder_any w4 na S.length nc S va hs.length vc hs st.os.length hH4.nd (by omega) hi (by have := hsl.2.2; simp [nodesO] at this; omega))
    have HGO : Hid (∀ W, Kept (fun _ => False) w4 W → Calls Try.prog 12 #[.pointer (some ⟨s, 0, none⟩), .slice va hs.length vc] W fun e w' => orderE w' W.heap.size e (orderR (nodesO st.os) st.os.length hs) ∧ Kept (fun _ => False) W w') := Lib.hid (fun W hk => order_any (hH4.kept hk).ob (by omega) va vc hs (hi.keptN hk))
    have HEQ := Lib.hid (hH4.orders hs HHS.out.1)
    rw [HEQ.out] at HRO
    have HLT : Hid (∀ o, orderR (nodesO st.os) st.os.length hs = .ok o → ∀ x ∈ o, x < 18446744073709551616) := Lib.hid (fun o h => (orderR_ok h).1.lt)
    have c0 := hH4.c0
    have c1 := hH4.c1
    have HH4 := Lib.hid hH4
    have HK4 : Hid (Kept (fun _ => False) w w4) := Lib.hid (HK3.out.more hk4 (fun _ f => f.elim))
    obtain ⟨sn, hsn⟩ : ∃ sn, S.length = sn := ⟨_, rfl⟩
    rw [hsn] at c1 HRO
    rw [hvn] at HRO HGO ⊢
    obtain ⟨R, hR⟩ : ∃ R, orderR (nodesO st.os) st.os.length hs = R := ⟨_, rfl⟩
    rw [hR] at HRO HGO HLT
    clear hv hi hvn hH4 hsl hk4 hsn hR
    go_wp2_with fail
    refine HRO.out.mono ?_
    rintro e w5 ⟨he5, hk5⟩
    have c0' := hk5.cell c0 (fun f => f)
    have HG5 := Lib.hid (HGO.out w5 hk5)
    have HK5 := Lib.hid hk5
    clear c0 c1 hk5
    cases R with
    | error c9 =>
      obtain ⟨rfl, hc9⟩ := he5
      have HC9 := Lib.hid hc9
      clear hc9
      go_wp2_with fail
      refine HG5.out.mono ?_
      rintro e w6 ⟨⟨rfl, -⟩, hk6⟩
      have HSA := Lib.hid (same_any w6 none none 0 0 0 0 [] [] ⟨none, 0, rfl, Nat.le_refl _, by simp [maxLen], by simp, .inl rfl⟩ ⟨none, 0, rfl, Nat.le_refl _, by simp [maxLen], by simp, .inl rfl⟩)
      rw [show decide (([] : List Nat) = []) = true from by simp] at HSA
      go_wp2_with fail
      refine HSA.out.mono ?_
      rintro e w7 ⟨rfl, hk7⟩
      go_wp2_with fail
      go_ret
      exact ⟨rfl, ((HK4.out.more HK5.out (fun _ f => f.elim)).more hk6 (fun _ f => f.elim)).more hk7 (fun _ f => f.elim)⟩
    | ok o =>
      obtain ⟨u, rfl, hu⟩ := he5
      obtain ⟨ua, uc, rfl, -, -⟩ := hu.form
      go_wp2_with fail
      refine HG5.out.mono ?_
      rintro e w6 ⟨⟨v, rfl, hv⟩, hk6⟩
      obtain ⟨va2, vc2, rfl, -, -⟩ := hv.form
      have hlt := HLT.out o rfl
      have HSA := Lib.hid (same_any w6 va2 ua o.length vc2 o.length uc o o (hv.isI hlt) ((hu.keptF hk6 (fun _ _ f => f)).isI hlt))
      rw [show decide (o = o) = true from by simp] at HSA
      clear hlt hu hv
      go_wp2_with fail
      refine HSA.out.mono ?_
      rintro e w7 ⟨rfl, hk7⟩
      go_wp2_with fail
      go_ret
      exact ⟨rfl, ((HK4.out.more HK5.out (fun _ f => f.elim)).more hk6 (fun _ f => f.elim)).more hk7 (fun _ f => f.elim)⟩
end Go.Proofs.Ytikacgiccllolaa
