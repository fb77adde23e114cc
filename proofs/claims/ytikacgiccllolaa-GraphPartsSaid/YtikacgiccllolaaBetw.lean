/- graph: Between, Roots. -/
import Derived.Test.YtikacgiccllolaaIdsB
import Derived.Test.YtikacgiccllolaaUni
namespace Go.Proofs.Ytikacgiccllolaa
open Go.RowKit Go.ChangeMaps Go.MapKept

theorem IsI.lt {w : World} {v : Value} {l : List Nat} (h : IsI w v l) : ∀ x ∈ l, x < 18446744073709551616 := by
  obtain ⟨_, _, _, _, _, h, _⟩ := h
  exact h
theorem btw1_any (W : World) (n0 s Wb M Bh : Nat) (F : Nat → Prop) (os : List OM) (es : Array MapEntry) (clock : Nat) (ov : Value) (L : List (Int × Nat)) (o : List Nat) (h : WalkAt W n0 s F os Wb M es clock ov L o []) (hB : W.cell? ⟨Bh, 0, none⟩ = some (.pointer (some ⟨Wb, 0, none⟩))) (x : Nat) :
    Calls Try.prog 37 (#[.int .u64 (x : Int)] ++ #[.pointer (some ⟨Bh, 0, none⟩)]) W fun e w' => e = .returned (.bool (decide (x ∈ o))) ∧ Kept (fun _ => False) W w' := by
  obtain ⟨-, c1, -, -⟩ := h.c
  have hl := h.look x W h.map
  by_cases hx : x ∈ o
  · rw [show ((stN o [] x).getD 0) = 2 from by simp [stN, hx]] at hl
    have hd : decide (x ∈ o) = true := by simp [hx]
    rw [hd]
    clear h hx hd
    show Calls Try.prog 37 #[.int .u64 (x : Int), .pointer (some ⟨Bh, 0, none⟩)] W _
    go_enter Try.func37, Try.ntmps37
    go_wp2_with fail
    go_ret
    exact ⟨rfl, Kept.refl _ _⟩
  · rw [show ((stN o [] x).getD 0) = 0 from by simp [stN, hx]] at hl
    have hd : decide (x ∈ o) = false := by simp [hx]
    rw [hd]
    clear h hx hd
    show Calls Try.prog 37 #[.int .u64 (x : Int), .pointer (some ⟨Bh, 0, none⟩)] W _
    go_enter Try.func37, Try.ntmps37
    go_wp2_with fail
    go_ret
    exact ⟨rfl, Kept.refl _ _⟩
theorem roots1_any (W : World) (s Bh : Nat) (F : Nat → Prop) (os : List OM) (h : ObAt W s F os) (hB : W.cell? ⟨Bh, 0, none⟩ = some (.pointer (some ⟨s, 0, none⟩))) (x : Nat) :
    Calls Try.prog 38 (#[.int .u64 (x : Int)] ++ #[.pointer (some ⟨Bh, 0, none⟩)]) W fun e w' => e = .returned (.bool (decide (0 < (comR os x).2.1.length))) ∧ Kept (fun _ => False) W w' := by
  have HP := Lib.hid (parents_any h x)
  generalize (comR os x).2.1 = ps at *
  show Calls Try.prog 38 #[.int .u64 (x : Int), .pointer (some ⟨Bh, 0, none⟩)] W _
  clear h
  go_enter Try.func38, Try.ntmps38
  go_wp2_with fail
  refine HP.out.mono ?_
  rintro e w1 ⟨u, rfl, hu, hk⟩
  obtain ⟨ua, uc, rfl, -, -⟩ := hu.form
  obtain ⟨n, hn⟩ : ∃ n, ps.length = n := ⟨_, rfl⟩
  rw [hn]
  have HN := Lib.hid hn
  clear hu hn
  go_wp2_with fail
  go_ret
  exact ⟨by simp [HN.out], hk⟩

def betL (N : List NodeM) (Fu : Nat) (have_ want : List Nat) : List Nat :=
  match orderR N Fu (have_ ++ want) with
  | .ok _ => (okL (orderR N Fu want)).filter (fun x => !decide (x ∈ okL (orderR N Fu have_)))
  | .error _ => []
theorem parts_ok {N : List NodeM} {Fu : Nat} (hF : N.length ≤ Fu) {hs ws o : List Nat} (h : orderR N Fu (hs ++ ws) = .ok o) : (∃ oh, orderR N Fu hs = .ok oh) ∧ ∃ ow, orderR N Fu ws = .ok ow := by
  have h1 := (orderR_iff hF).1 ⟨_, h⟩
  exact ⟨(orderR_iff hF).2 (fun s hs' => h1 s (List.mem_append_left _ hs')), (orderR_iff hF).2 (fun s hs' => h1 s (List.mem_append_right _ hs'))⟩
set_option maxRecDepth 100000 in
set_option maxHeartbeats 1000000 in
theorem between_any {w : World} {s : Nat} {F : Nat → Prop} {os : List OM} (h : ObAt w s F os) (hos : os.length ≤ 100000) (a b : Option Addr) (n c n2 c2 : Nat) (hs ws : List Nat) (hI : IsI w (.slice a n c) hs) (hJ : IsI w (.slice b n2 c2) ws) (hl : hs.length + ws.length ≤ 1000) :
    Calls Try.prog 22 #[.pointer (some ⟨s, 0, none⟩), .slice a n c, .slice b n2 c2] w fun e w' => (∃ v, e = .returned (.tuple #[v, .int .i64 (codeE (orderR (nodesO os) os.length (hs ++ ws)))]) ∧ OwnI w.heap.size w' v (betL (nodesO os) os.length hs ws) ∧ Sound (orderR (nodesO os) os.length (hs ++ ws))) ∧ Kept (fun _ => False) w w' := by
  obtain ⟨rfl, -, -⟩ := hI.len
  obtain ⟨rfl, -, -⟩ := hJ.len
  have HH := Lib.hid h
  have HI := Lib.hid hI
  have HJ := Lib.hid hJ
  obtain ⟨an, han⟩ : ∃ n, hs.length = n := ⟨_, rfl⟩
  obtain ⟨bn, hbn⟩ : ∃ n, ws.length = n := ⟨_, rfl⟩
  obtain ⟨w1, hw1⟩ : ∃ w1, w.alloc (.cells #[.slice a hs.length c, .slice b ws.length c2] 28) = w1 := ⟨_, rfl⟩
  have hk1 : Kept (fun _ => False) w w1 := by rw [← hw1]; exact (Kept.refl _ _).alloc _
  have hC := concat_any w1 w.heap.size 2 2 [hs, ws] rfl (by omega) (by simp; omega) (fun k hk => by
    match k, hk with
    | 0, _ => exact ⟨a, c, by rw [← hw1, World.cell?_alloc_new]; rfl, hI.keptN hk1⟩
    | 1, _ => exact ⟨b, c2, by rw [← hw1, World.cell?_alloc_new]; rfl, hJ.keptN hk1⟩)
  rw [show [hs, ws].flatten = hs ++ ws from by simp] at hC
  have HC := Lib.hid hC
  have HK1 := Lib.hid hk1
  rw [han, hbn] at hw1 ⊢
  clear h hI hJ hC hk1
  go_enter Try.func22, Try.ntmps22
  go_wp2_with fail
  refine HC.out.mono ?_
  rintro e w2 ⟨v2, rfl, hv2, hk2⟩
  have hk12 : Kept (fun _ => False) w w2 := HK1.out.trans hk2 (fun _ _ f => f)
  have hi2 := hv2.isI (fun x hx => by
    rcases List.mem_append.1 hx with hx | hx
    · exact HI.out.lt x hx
    · exact HJ.out.lt x hx)
  obtain ⟨va, vc, rfl, -, -⟩ := hv2.form
  have HW := Lib.hid (walk_any (HH.out.keptN hk12) hos va vc (hs ++ ws) hi2)
  have HPO : Hid (∀ o, orderR (nodesO os) os.length (hs ++ ws) = .ok o → (∃ oh, orderR (nodesO os) os.length hs = .ok oh) ∧ ∃ ow, orderR (nodesO os) os.length ws = .ok ow) := Lib.hid (fun o h => parts_ok (by simp [nodesO]) h)
  have HBL : Hid (betL (nodesO os) os.length hs ws = match orderR (nodesO os) os.length (hs ++ ws) with
    | .ok _ => (okL (orderR (nodesO os) os.length ws)).filter (fun x => !decide (x ∈ okL (orderR (nodesO os) os.length hs)))
    | .error _ => []) := Lib.hid rfl
  have HK2 := Lib.hid hk12
  obtain ⟨R, hR⟩ : ∃ R, orderR (nodesO os) os.length (hs ++ ws) = R := ⟨_, rfl⟩
  rw [hR] at HW HPO HBL
  have HR := Lib.hid hR
  obtain ⟨ln, hln⟩ : ∃ n, (hs ++ ws).length = n := ⟨_, rfl⟩
  rw [hln] at HW ⊢
  clear hR hw1 hk2 hk12 hi2 hv2 hln HC
  go_wp2_with fail
  refine HW.out.mono ?_
  rintro e w3 ⟨he, hk3⟩
  have HK3 : Hid (Kept (fun _ => False) w w3) := Lib.hid (HK2.out.trans hk3 (fun _ _ f => f))
  clear hk3
  cases R with
  | error cc =>
    obtain ⟨rfl, hc0⟩ := he
    have hcb : (cc != 0) = true := by simp [hc0]
    have HC0 := Lib.hid hc0
    clear hc0
    go_wp2_with fail
    go_ret2
    exact ⟨⟨_, by rw [HR.out]; rfl, by rw [HBL.out]; exact OwnI.none _ _, by rw [HR.out]; exact fun h => absurd h HC0.out⟩, HK3.out⟩
  | ok o =>
    obtain ⟨Wb0, M0, es0, clock0, ov0, L0, rfl, -⟩ := he
    obtain ⟨⟨oh, hoh⟩, ⟨ow, how⟩⟩ := HPO.out o rfl
    have HW2 := Lib.hid (walk_any (HH.out.keptN HK3.out) hos a c hs (HI.out.keptN HK3.out))
    have HORD : Hid (∀ W, Kept (fun _ => False) w W → Calls Try.prog 12 #[.pointer (some ⟨s, 0, none⟩), .slice b ws.length c2] W fun e w' => orderE w' W.heap.size e (orderR (nodesO os) os.length ws) ∧ Kept (fun _ => False) W w') := Lib.hid (fun W hk => order_any (HH.out.keptN hk) hos b c2 ws (HJ.out.keptN hk))
    have HLT : Hid (∀ x ∈ ow, x < 18446744073709551616) := Lib.hid (orderR_ok how).1.lt
    have HLN : Hid (ow.length ≤ 1000000) := Lib.hid (by have := (orderR_ok how).1.good.len; simp [nodesO] at this; omega)
    rw [hoh] at HW2 HBL
    rw [how] at HORD HBL
    have hbl : betL (nodesO os) os.length hs ws = ow.filter (fun x => !decide (x ∈ oh)) := HBL.out
    rw [han] at HW2
    rw [hbn] at HORD
    have HBB := Lib.hid hbl
    clear hoh how hbl han hbn
    go_wp2_with fail
    refine HW2.out.mono ?_
    rintro e w4 ⟨he4, hk4⟩
    obtain ⟨Wb, M, es, clock, ov, L, rfl, hw4⟩ := he4
    have HW4 := Lib.hid hw4
    clear hw4
    go_wp2_with fail
    refine callsAt ?_
    intro w5 hw5
    have hk5 : Kept (fun _ => False) w4 w5 := by rw [hw5]; exact (Kept.refl _ _).alloc _
    have HB5 : Hid (w5.cell? ⟨w4.heap.size, 0, none⟩ = some (.pointer (some ⟨Wb, 0, none⟩))) := Lib.hid (by rw [hw5, World.cell?_alloc_new]; rfl)
    have HW5 := Lib.hid (HW4.out.keptN hk5)
    have HK5 : Hid (Kept (fun _ => False) w w5) := Lib.hid ((HK3.out.trans hk4 (fun _ _ f => f)).trans hk5 (fun _ _ f => f))
    obtain ⟨bg, hbg⟩ : ∃ g, w4.heap.size = g := ⟨_, rfl⟩
    rw [hbg] at HB5 ⊢
    have HO5 := Lib.hid (HORD.out w5 HK5.out)
    clear hw5 hk5 hbg hk4
    refine HO5.out.mono ?_
    rintro e w6 ⟨he6, hk6⟩
    obtain ⟨v6, rfl, hv6⟩ := he6
    obtain ⟨u6, uc, rfl, -, -⟩ := hv6.form
    have HB6 : Hid (∀ g, (Value.slice u6 ow.length uc).ownBlock = some g → w5.heap.size ≤ g) := Lib.hid (fun g e => (hv6.base e).1)
    have HDF := Lib.hid (deleteFunc_any w.heap.size w6 u6 ow.length uc ow (hv6.low HK5.out.size) HLT.out HLN.out (fun x => decide (x ∈ oh)) 37 #[.pointer (some ⟨bg, 0, none⟩)] (enters_of Try.func37 (by kernel_rfl) rfl) (fun W x hk hx => by
      have hk5W : Kept (fun _ => False) w5 W := hk6.more hk (fun i e => HB6.out i e)
      exact btw1_any W _ s Wb M bg F os es clock ov L oh (HW5.out.keptN hk5W) (hk5W.cell HB5.out (fun f => f)) x))
    have HK6 := Lib.hid hk6
    obtain ⟨on, hon⟩ : ∃ n, ow.length = n := ⟨_, rfl⟩
    rw [hon] at HDF HB6 ⊢
    clear hv6 hk6 hon
    go_wp2_with fail
    refine HDF.out.mono ?_
    rintro e w7 ⟨⟨v7, rfl, hv7⟩, hk7⟩
    have HK7 : Hid (Kept (fun _ => False) w w7) := Lib.hid ((HK5.out.trans HK6.out (fun _ _ f => f)).more hk7 (fun i e => Nat.le_trans HK5.out.size (HB6.out i e)))
    have HV7 := Lib.hid hv7
    clear hk7 hv7
    go_wp2_with fail
    go_ret2
    exact ⟨⟨_, by rw [HR.out]; rfl, by rw [HBB.out]; exact HV7.out, by rw [HR.out]; exact fun _ => ⟨_, rfl⟩⟩, HK7.out⟩

set_option maxRecDepth 100000 in
set_option maxHeartbeats 1000000 in
theorem roots_any {w : World} {s : Nat} {F : Nat → Prop} {os : List OM} (h : ObAt w s F os) (hos : os.length ≤ 100000) (b : Option Addr) (n2 c2 : Nat) (ws : List Nat) (hJ : IsI w (.slice b n2 c2) ws) :
    Calls Try.prog 23 #[.pointer (some ⟨s, 0, none⟩), .slice b n2 c2] w fun e w' => (∃ v, e = .returned (.tuple #[v, .int .i64 (codeE (orderR (nodesO os) os.length ws))]) ∧ OwnI w.heap.size w' v ((okL (orderR (nodesO os) os.length ws)).filter (fun x => !decide (0 < (comR os x).2.1.length))) ∧ Sound (orderR (nodesO os) os.length ws)) ∧ Kept (fun _ => False) w w' := by
  obtain ⟨rfl, -, -⟩ := hJ.len
  have HH := Lib.hid h
  obtain ⟨bn, hbn⟩ : ∃ n, ws.length = n := ⟨_, rfl⟩
  obtain ⟨w5, hw5⟩ : ∃ w1, w.alloc (.cells #[.pointer (some ⟨s, 0, none⟩)] 33) = w1 := ⟨_, rfl⟩
  have hk5 : Kept (fun _ => False) w w5 := by rw [← hw5]; exact (Kept.refl _ _).alloc _
  have hB5 : w5.cell? ⟨w.heap.size, 0, none⟩ = some (.pointer (some ⟨s, 0, none⟩)) := by rw [← hw5, World.cell?_alloc_new]; rfl
  have HO5 := Lib.hid (order_any (HH.out.keptN hk5) hos b c2 ws (hJ.keptN hk5))
  have HB5 := Lib.hid hB5
  have HK5 := Lib.hid hk5
  obtain ⟨R, hR⟩ : ∃ R, orderR (nodesO os) os.length ws = R := ⟨_, rfl⟩
  rw [hR] at HO5 ⊢
  have HLT : Hid (∀ ow, R = .ok ow → (∀ x ∈ ow, x < 18446744073709551616) ∧ ow.length ≤ 1000000) := Lib.hid (fun ow e => by
    rw [e] at hR
    refine ⟨(orderR_ok hR).1.lt, ?_⟩
    have := (orderR_ok hR).1.good.len
    simp [nodesO] at this
    omega)
  rw [hbn] at HO5 ⊢
  clear h hJ hbn hk5 hR
  go_enter Try.func23, Try.ntmps23
  go_wp2_with fail
  refine HO5.out.mono ?_
  rintro e w6 ⟨he6, hk6⟩
  have HK6 := Lib.hid hk6
  have c0 := hk6.cell HB5.out (fun f => f)
  clear hB5 hw5 hk6
  cases R with
  | error cc =>
    obtain ⟨rfl, hc0⟩ := he6
    have hcb : (cc != 0) = true := by simp [hc0]
    have HC0 := Lib.hid hc0
    clear hc0
    go_wp2_with fail
    go_ret2
    exact ⟨⟨_, rfl, OwnI.none _ _, fun h => absurd h HC0.out⟩, HK5.out.trans HK6.out (fun _ _ f => f)⟩
  | ok ow =>
    obtain ⟨v6, rfl, hv6⟩ := he6
    obtain ⟨u6, uc, rfl, -, -⟩ := hv6.form
    have HB6 : Hid (∀ g, (Value.slice u6 ow.length uc).ownBlock = some g → w5.heap.size ≤ g) := Lib.hid (fun g e => (hv6.base e).1)
    obtain ⟨hlt, hln⟩ := HLT.out ow rfl
    have HDF := Lib.hid (deleteFunc_any w.heap.size w6 u6 ow.length uc ow (hv6.low HK5.out.size) hlt hln (fun x => decide (0 < (comR os x).2.1.length)) 38 #[.pointer (some ⟨w.heap.size, 0, none⟩)] (enters_of Try.func38 (by kernel_rfl) rfl) (fun W x hk hx => by
      have hk5W : Kept (fun _ => False) w5 W := HK6.out.more hk (fun i e => HB6.out i e)
      exact roots1_any W s w.heap.size F os (HH.out.keptN (HK5.out.trans hk5W (fun _ _ f => f))) (hk5W.cell HB5.out (fun f => f)) x))
    obtain ⟨on, hon⟩ : ∃ n, ow.length = n := ⟨_, rfl⟩
    rw [hon] at HDF HB6 ⊢
    clear hv6 hon hlt hln
    go_wp2_with fail
    refine HDF.out.mono ?_
    rintro e w7 ⟨⟨v7, rfl, hv7⟩, hk7⟩
    have HK7 : Hid (Kept (fun _ => False) w w7) := Lib.hid ((HK5.out.trans HK6.out (fun _ _ f => f)).more hk7 (fun i e => Nat.le_trans HK5.out.size (HB6.out i e)))
    have HV7 := Lib.hid hv7
    clear hk7 hv7
    go_wp2_with fail
    go_ret2
    exact ⟨⟨_, rfl, HV7.out, fun _ => ⟨_, rfl⟩⟩, HK7.out⟩
end Go.Proofs.Ytikacgiccllolaa
