/- espalierlaw11.GraphParts. -/
import Derived.Test.YtikacgiccllolaaLawBet
namespace Go.Proofs.Ytikacgiccllolaa
open Go.RowKit Go.ChangeMaps Go.MapKept

theorem own_empty (W : World) : OwnI W.heap.size (W.alloc (.cells #[] 37)) (.slice (some ⟨W.heap.size, 0, .none⟩) 0 0) [] :=
  ⟨by simp [idsV], .inr ⟨W.heap.size, 0, #[], rfl, Nat.le_refl _, heap_alloc_new _ _, Nat.le_refl _, by simp [maxLen], rfl, rfl⟩⟩
theorem HistAt.roots_u {w : World} {Hb s : Nat} {F : Nat → Prop} {st : HSt} {na ia ta : Option Addr} {nc ic tc : Nat} {S : List NdM} (h : HistAt w Hb s F st na ia ta nc ic tc S) (b : Option Addr) (n2 c2 : Nat) (ws : List Nat) (hJ : IsI w (.slice b n2 c2) ws) :
    Calls Try.prog 23 #[.pointer (some ⟨s, 0, none⟩), .slice b n2 c2] w fun e w' => (∃ v, e = .returned (.tuple #[v, .int .i64 (codeE (orderR (nodesO st.os) st.os.length ws))]) ∧ OwnI w.heap.size w' v ((okL (orderR (nodesO st.os) st.os.length ws)).filter (fun x => !decide (0 < (comR st.os x).2.1.length))) ∧ Sound (orderR (nodesO st.os) st.os.length ws)) ∧ Kept (fun _ => False) w w' :=
  roots_any h.ob (by have := h.sl.2.1; omega) b n2 c2 ws hJ
theorem HistAt.parents_u {w : World} {Hb s : Nat} {F : Nat → Prop} {st : HSt} {na ia ta : Option Addr} {nc ic tc : Nat} {S : List NdM} (h : HistAt w Hb s F st na ia ta nc ic tc S) {hs o : List Nat} (hz : zId ∉ hs) (ho : orderR (nodesO st.os) st.os.length hs = .ok o) {x : Nat} (hx : x ∈ o) :
    Calls Try.prog 24 #[.slice na S.length nc, .int .u64 x] w fun e w' => (∃ a c, e = .returned (.slice a (comR st.os x).2.1.length c)) ∧ w = w' := by
  obtain ⟨ht, -⟩ := h.topoD hz ho
  refine (rparents_any w _ na S.length nc S x h.nd (ht.found x hx)).mono ?_
  rintro e w' ⟨⟨p, hp, hfp, rfl⟩, rfl⟩
  refine ⟨?_, rfl⟩
  obtain ⟨a, c, e, -⟩ := (h.nd.mem p hp).2.1
  have e1 : parN (nodesD S) x = p.ps := by unfold Proofs.Ytikacgiccllolaa.parN; rw [hfp]; rfl
  have e2 : (comR st.os x).2.1 = p.ps := by
    rw [comR_parN (orderR_ok ho).1 hx, ← e1]
    rw [h.ndS] at ht ⊢
    exact h.ok.parN ht hx
  exact ⟨a, c, by rw [e2, e]⟩
/-- A copy of ids behind an empty row: what append makes of it. -/
theorem copy_run (W : World) (a : Option Addr) (n c : Nat) (hs : List Nat) (hI : IsI W (.slice a n c) hs) (hl : hs.length ≤ 1000) :
    ∃ v' w', (Builtin.append_ #[28, 28] 28 #[.slice (some ⟨W.heap.size, 0, none⟩) 0 0, .slice a n c]).run Try.prog (W.alloc (.cells #[] 37)) = .ok v' w' ∧ OwnI W.heap.size w' v' hs ∧ Kept (fun _ => False) W w' := by
  have hkA : Kept (fun _ => False) W (W.alloc (.cells #[] 37)) := (Kept.refl _ _).alloc _
  obtain ⟨v', w', h1, h2, h3, -⟩ := (own_empty W).appAll hkA.size (hI.keptN hkA) (by simp; omega)
  exact ⟨v', w', h1, h2, hkA.more h3 (fun i e => ((own_empty W).base e).1)⟩
/-- Two copies behind two empty rows that lie there already. -/
theorem two_run (w0 W : World) (hk : Kept (fun _ => False) w0 W) (g1 g2 : Nat) (h1 : OwnI w0.heap.size W (.slice (some ⟨g1, 0, none⟩) 0 0) []) (h2 : OwnI w0.heap.size W (.slice (some ⟨g2, 0, none⟩) 0 0) []) (hne : g1 ≠ g2) (a b : Option Addr) (n c n2 c2 : Nat) (hs ws : List Nat) (hI : IsI w0 (.slice a n c) hs) (hJ : IsI w0 (.slice b n2 c2) ws) (hl : hs.length + ws.length ≤ 1000) :
    ∃ v1 w1 v2 w2, (Builtin.append_ #[28, 28] 28 #[.slice (some ⟨g1, 0, none⟩) 0 0, .slice a n c]).run Try.prog W = .ok v1 w1 ∧ (Builtin.append_ #[28, 28] 28 #[.slice (some ⟨g2, 0, none⟩) 0 0, .slice b n2 c2]).run Try.prog w1 = .ok v2 w2 ∧ Kept (fun _ => False) w0 w1 ∧ Kept (fun _ => False) w0 w2 ∧ OwnI w0.heap.size w2 v1 hs ∧ OwnI w0.heap.size w2 v2 ws := by
  have b1 := h1.base (g := g1) rfl
  have b2 := h2.base (g := g2) rfl
  obtain ⟨v1, w1, r1, o1, k1, e1⟩ := h1.appAll hk.size (hI.keptN hk) (by simp; omega)
  have hk1 : Kept (fun _ => False) w0 w1 := hk.more k1 (fun i e => (h1.base e).1)
  have h2' := h2.keptF k1 (fun g e f => by cases e; cases f; exact hne rfl)
  obtain ⟨v2, w2, r2, o2, k2, -⟩ := h2'.appAll hk1.size (hJ.keptN hk1) (by simp; omega)
  have hk2 : Kept (fun _ => False) w0 w2 := hk1.more k2 (fun i e => (h2'.base e).1)
  rw [List.nil_append] at o1 o2
  refine ⟨v1, w1, v2, w2, r1, r2, hk1, hk2, o1.keptF k2 (fun g e f => ?_), o2⟩
  cases f
  rcases e1 g2 e with h | h
  · cases h; exact hne rfl
  · omega
/-- Two copies, one behind the other. -/
theorem seq_run (w0 W : World) (hk : Kept (fun _ => False) w0 W) (a b : Option Addr) (n c n2 c2 : Nat) (hs ws : List Nat) (hI : IsI w0 (.slice a n c) hs) (hJ : IsI w0 (.slice b n2 c2) ws) (hl : hs.length + ws.length ≤ 1000) :
    ∃ v1 w1 v2 w2, (Builtin.append_ #[28, 28] 28 #[.slice (some ⟨W.heap.size, 0, none⟩) 0 0, .slice a n c]).run Try.prog (W.alloc (.cells #[] 37)) = .ok v1 w1 ∧ (Builtin.append_ #[28, 28] 28 #[.slice (some ⟨w1.heap.size, 0, none⟩) 0 0, .slice b n2 c2]).run Try.prog (w1.alloc (.cells #[] 37)) = .ok v2 w2 ∧ Kept (fun _ => False) w0 w1 ∧ Kept (fun _ => False) w0 w2 ∧ OwnI w0.heap.size w2 v1 hs ∧ OwnI w0.heap.size w2 v2 ws := by
  obtain ⟨v1, w1, r1, o1, k1⟩ := copy_run W a n c hs (hI.keptN hk) (by omega)
  have hk1 : Kept (fun _ => False) w0 w1 := hk.trans k1 (fun _ _ f => f)
  obtain ⟨v2, w2, r2, o2, k2⟩ := copy_run w1 b n2 c2 ws (hJ.keptN hk1) (by omega)
  exact ⟨v1, w1, v2, w2, r1, r2, hk1, hk1.trans k2 (fun _ _ f => f), (o1.keptF k2 (fun _ _ f => f)).low hk.size, o2.low hk1.size⟩
set_option maxRecDepth 100000 in
set_option maxHeartbeats 2000000 in
theorem parts_law (w : World) (a : Option Addr) (n c : Nat) (l : List BornM) (hB : IsBn w (.slice a n c) l) (ya : Option Addr) (yn yc : Nat) (yl : List Int) (hY : IsZ w (.slice ya yn yc) yl) (za : Option Addr) (zn zc : Nat) (zl : List Int) (hZ : IsZ w (.slice za zn zc) zl) :
    Calls Try.prog 7 #[.slice a n c, .slice ya yn yc, .slice za zn zc] w fun e w' => e = .returned (.bool true) ∧ Kept (fun _ => False) w w' := by
  have HB := Lib.hid hB
  have HY := Lib.hid hY
  have HZ := Lib.hid hZ
  clear hB hY hZ
  go_enter Try.func7, Try.ntmps7
  go_wp2_with fail
  refine (wakes_any w).mono ?_
  rintro e w1 ⟨rfl, hk1⟩
  have HK1 := Lib.hid hk1
  have HBO := Lib.hid (born_is w1 a n c l (HB.out.keptN hk1))
  clear hk1
  go_wp2_with fail
  refine HBO.out.mono ?_
  rintro e w2 ⟨hbr, hk2⟩
  have HK2 : Hid (Kept (fun _ => False) w w2) := Lib.hid (HK1.out.more hk2 (fun _ f => f.elim))
  clear hk2
  cases hbf : bornF l with
  | none =>
    rw [hbf] at hbr
    obtain rfl := hbr
    clear hbf
    go_wp2_with fail
    refine (wakes_any w2).mono ?_
    rintro e w3 ⟨rfl, hk3⟩
    have HK3 : Hid (Kept (fun _ => False) w w3) := Lib.hid (HK2.out.more hk3 (fun _ f => f.elim))
    clear hk3
    go_wp2_with fail
    go_ret
    exact ⟨rfl, HK3.out⟩
  | some st =>
    rw [hbf] at hbr
    obtain ⟨Hb, s, F, na, ia, ta, nc, ic, tc, S, rfl, hH⟩ := hbr
    have HH := Lib.hid hH
    clear hbf hH
    go_wp2_with fail
    refine (wakes_any w2).mono ?_
    rintro e w3 ⟨rfl, hk3⟩
    have HK3 : Hid (Kept (fun _ => False) w w3) := Lib.hid (HK2.out.more hk3 (fun _ f => f.elim))
    have HH3 := Lib.hid (HH.out.kept hk3)
    clear hk3
    have HH1 := Lib.hid (heads_any HH3.out ya yn yc yl (HY.out.kept HK3.out (fun _ _ f => f)))
    have HH2 : Hid (∀ W, Kept (fun _ => False) w3 W → Calls Try.prog 10 #[.pointer (some ⟨Hb, 0, none⟩), .slice za zn zc] W fun e w' => (∃ v, e = .returned v ∧ OwnI W.heap.size w' v (headsOf st.ids zl)) ∧ Kept (fun _ => False) W w') := Lib.hid (fun W hk => heads_any (HH3.out.kept hk) za zn zc zl ((HZ.out.kept HK3.out (fun _ _ f => f)).kept hk (fun _ _ f => f)))
    have HHS := Lib.hid (HH.out.ok.heads yl)
    have HWS := Lib.hid (HH.out.ok.heads zl)
    have HHL : Hid ((headsOf st.ids yl).length + (headsOf st.ids zl).length ≤ 1000) := Lib.hid (by rw [headsOf_length, headsOf_length]; omega)
    generalize headsOf st.ids yl = hs at *
    generalize headsOf st.ids zl = ws at *
    go_wp2_with fail
    refine HH1.out.mono ?_
    rintro e w4 ⟨⟨v4, rfl, hv4⟩, hk4⟩
    obtain ⟨ha, hc, rfl, -, -⟩ := hv4.form
    have hi4 := hv4.isI HHS.out.2
    obtain ⟨hn, hhn⟩ : ∃ n, hs.length = n := ⟨_, rfl⟩
    rw [hhn] at hi4 ⊢
    have HI4 := Lib.hid hi4
    have HK4 := Lib.hid hk4
    have HHW := Lib.hid (HH2.out w4 hk4)
    clear hv4 hi4 hhn hk4
    go_wp2_with fail
    refine HHW.out.mono ?_
    rintro e w5 ⟨⟨v5, rfl, hv5⟩, hk5⟩
    obtain ⟨wa, wq, rfl, -, -⟩ := hv5.form
    have hi5 := hv5.isI HWS.out.2
    obtain ⟨wn, hwn⟩ : ∃ n, ws.length = n := ⟨_, rfl⟩
    rw [hwn] at hi5 ⊢
    have HJ5 := Lib.hid hi5
    have HI5 := Lib.hid (HI4.out.keptN hk5)
    have HH5 := Lib.hid (HH3.out.kept (HK4.out.trans hk5 (fun _ _ f => f)))
    have HK5 : Hid (Kept (fun _ => False) w w5) := Lib.hid ((HK3.out.trans HK4.out (fun _ _ f => f)).trans hk5 (fun _ _ f => f))
    clear hv5 hi5 hwn hk5 HK4 HI4 HH1 HH2 HHW
    have hzh : zId ∉ hs := HHS.out.1
    have hzw : zId ∉ ws := HWS.out.1
    have HZA : Hid (zId ∉ hs ++ ws) := Lib.hid (by simp [hzh, hzw])
    have HLA : Hid (∀ x ∈ hs ++ ws, x < 18446744073709551616) := Lib.hid (fun x hx => (List.mem_append.1 hx).elim (HHS.out.2 x) (HWS.out.2 x))
    obtain ⟨sn, hsn⟩ : ∃ sn, S.length = sn := ⟨_, rfl⟩
    have HSN := Lib.hid hsn
    have HCC : Hid (∀ W, Kept (fun _ => False) w5 W → W.cell? ⟨Hb, 0, none⟩ = some (.pointer (some ⟨s, 0, none⟩)) ∧ W.cell? ⟨Hb, 1, none⟩ = some (.slice na sn nc)) := Lib.hid (fun W hk => ⟨hk.cell HH5.out.c0 (fun f => f), by rw [← hsn]; exact hk.cell HH5.out.c1 (fun f => f)⟩)
    clear hzh hzw hsn
    go_wp2_with fail
    have hkd : Kept (fun _ => False) w5 w5.drew := (Kept.refl _ _).drew
    have hkA : Kept (fun _ => False) w5.drew (w5.drew.alloc (.cells #[] 37)) := (Kept.refl _ _).alloc _
    obtain ⟨v1, w6, hrun1, ho1, hk6⟩ := copy_run w5.drew ha hn hc hs (HI5.out.keptN hkd) (by have := HHL.out; omega)
    have hk6' : Kept (fun _ => False) w5 w6 := hkd.trans hk6 (fun _ _ f => f)
    obtain ⟨v2, w7, hrun2, ho2, hk7, -⟩ := ho1.appAll hk6.size (HJ5.out.keptN hk6') (by have := HHL.out; omega)
    have hk7' : Kept (fun _ => False) w5 w7 := hkd.trans (hk6.more hk7 (fun i e => (ho1.base e).1)) (fun _ _ f => f)
    obtain ⟨va, vc, rfl, -, -⟩ := ho2.form
    have HRO := Lib.hid ((HH5.out.kept hk7').rorder_u va (hs ++ ws).length vc (hs ++ ws) (ho2.isI HLA.out) HZA.out)
    rw [HSN.out] at HRO
    obtain ⟨ln, hln⟩ : ∃ n, (hs ++ ws).length = n := ⟨_, rfl⟩
    rw [hln] at HRO hrun2
    have HS0 : w5.drew.cell? ⟨Hb, 1, none⟩ = some (.slice na sn nc) := (HCC.out _ hkd).2
    have HS1 : (w5.drew.alloc (.cells #[] 37)).cell? ⟨Hb, 1, none⟩ = some (.slice na sn nc) := (HCC.out _ (hkd.trans hkA (fun _ _ f => f))).2
    have HS6 : w6.cell? ⟨Hb, 1, none⟩ = some (.slice na sn nc) := (HCC.out _ hk6').2
    have HS7 : w7.cell? ⟨Hb, 1, none⟩ = some (.slice na sn nc) := (HCC.out _ hk7').2
    have HK7 := Lib.hid hk7'
    clear ho1 ho2 hk6 hk7 hk6' hk7' hln hkA hkd
    refine wp_region_phase (fun W => W.cell? ⟨Hb, 1, none⟩ = some (.slice na sn nc)) (fun _ => false) (by kernel_rfl) HS0 (fun _ => ?_)
    refine wpAnyG_take (i := 0) (v := ?_) rfl (by kernel_rfl) (by kernel_rfl) (by kernel_rfl) (by kernel_rfl) (fun _ _ _ h => h) (Or.inl ⟨by rfl, ?_⟩) HS0 ?_
    rotate_left
    (intro w' hSw'; have _ := hSw'; go_simp; try with_reducible rfl)
    try simp only [Act.put, List.setIfInBounds_toArray, List.set_cons_zero, List.set_cons_succ, List.getElem_toArray, List.getElem_cons_zero, List.getElem_cons_succ]
    refine wpAnyG_take (i := 1) (v := ?_) rfl (by kernel_rfl) (by kernel_rfl) (by kernel_rfl) (by kernel_rfl) (fun _ _ _ h => h) (Or.inl ⟨by rfl, ?_⟩) HS0 ?_
    rotate_left
    (intro w' hSw'; have _ := hSw'; go_simp; try with_reducible rfl)
    try simp only [Act.put, List.setIfInBounds_toArray, List.set_cons_zero, List.set_cons_succ, List.getElem_toArray, List.getElem_cons_zero, List.getElem_cons_succ]
    refine wpAnyG_take (i := 2) (v := ?_) rfl (by kernel_rfl) (by kernel_rfl) (by kernel_rfl) (by kernel_rfl) (fun _ _ _ h => h) (Or.inl ⟨by rfl, ?_⟩) HS0 ?_
    rotate_left
    (intro w' hSw'; have _ := hSw'; go_simp; try with_reducible rfl)
    try simp only [Act.put, List.setIfInBounds_toArray, List.set_cons_zero, List.set_cons_succ, List.getElem_toArray, List.getElem_cons_zero, List.getElem_cons_succ]
    refine wpAnyG_take (i := 3) (v := ?_) rfl (by kernel_rfl) (by kernel_rfl) (by kernel_rfl) (by kernel_rfl) (fun _ _ _ h => h) (Or.inl ⟨by rfl, ?_⟩) HS0 ?_
    rotate_left
    (intro w' hSw'; have _ := hSw'; go_simp; try with_reducible rfl)
    try simp only [Act.put, List.setIfInBounds_toArray, List.set_cons_zero, List.set_cons_succ, List.getElem_toArray, List.getElem_cons_zero, List.getElem_cons_succ]
    refine wpAnyG_take (i := 5) (v := ?_) rfl (by kernel_rfl) (by kernel_rfl) (by kernel_rfl) (by kernel_rfl) (fun _ _ _ h => h) (Or.inl ⟨by rfl, ?_⟩) HS0 ?_
    rotate_left
    (intro w' hSw'; have _ := hSw'; go_simp; try with_reducible rfl)
    try simp only [Act.put, List.setIfInBounds_toArray, List.set_cons_zero, List.set_cons_succ, List.getElem_toArray, List.getElem_cons_zero, List.getElem_cons_succ]
    refine wpAnyG_take (i := 7) (v := ?_) rfl (by kernel_rfl) (by kernel_rfl) (by kernel_rfl) (by kernel_rfl) (fun _ _ _ h => h) (Or.inl ⟨by rfl, ?_⟩) HS0 ?_
    rotate_left
    (intro w' hSw'; have _ := hSw'; go_simp; try with_reducible rfl)
    try simp only [Act.put, List.setIfInBounds_toArray, List.set_cons_zero, List.set_cons_succ, List.getElem_toArray, List.getElem_cons_zero, List.getElem_cons_succ]
    refine wpAnyG_ready (rs := [4]) (by kernel_rfl) (by simp) ?_
    refine AllG.cons rfl (ph' := false) (by kernel_rfl) (fun K hK => ?_) AllG.nil
    go_simp
    refine hK.out _ _ (fun _ => HS1) ?_
    clear hK K
    try simp only [Act.put, List.setIfInBounds_toArray, List.set_cons_zero, List.set_cons_succ, List.getElem_toArray, List.getElem_cons_zero, List.getElem_cons_succ]
    refine wpAnyG_ready (rs := [6]) (by kernel_rfl) (by simp) ?_
    refine AllG.cons rfl (ph' := false) (by kernel_rfl) (fun K hK => ?_) AllG.nil
    refine step_append_run rfl (.tmp 55) (.tmp 56) #[28, 28] rfl _ _ _ _ rfl rfl hrun1 ?_
    refine hK.out _ _ (fun _ => HS6) ?_
    clear hK K
    try simp only [Act.put, List.setIfInBounds_toArray, List.set_cons_zero, List.set_cons_succ, List.getElem_toArray, List.getElem_cons_zero, List.getElem_cons_succ]
    refine wpAnyG_ready (rs := [8]) (by kernel_rfl) (by simp) ?_
    refine AllG.cons rfl (ph' := false) (by kernel_rfl) (fun K hK => ?_) AllG.nil
    refine step_append_run rfl (.tmp 57) (.tmp 58) #[28, 28] rfl _ _ _ _ rfl rfl hrun2 ?_
    refine hK.out _ _ (fun _ => HS7) ?_
    clear hK K
    try simp only [Act.put, List.setIfInBounds_toArray, List.set_cons_zero, List.set_cons_succ, List.getElem_toArray, List.getElem_cons_zero, List.getElem_cons_succ]
    refine wpAnyG_ready (rs := [9]) (by kernel_rfl) (by simp) ?_
    refine AllG.cons rfl (ph' := false) (by kernel_rfl) (fun K hK => ?_) AllG.nil
    go_simp
    go_at_call 11
    refine HRO.out.mono ?_
    rintro e w8 ⟨⟨⟨v8, rfl, -⟩, hS8⟩, hk8⟩
    have hk8' : Kept (fun _ => False) w5 w8 := HK7.out.trans hk8 (fun _ _ f => f)
    have HS8 : w8.cell? ⟨Hb, 1, none⟩ = some (.slice na sn nc) := (HCC.out _ hk8').2
    refine hK.out _ _ (fun _ => HS8) ?_
    clear hK K
    try simp only [Act.put, List.setIfInBounds_toArray, List.set_cons_zero, List.set_cons_succ, List.getElem_toArray, List.getElem_cons_zero, List.getElem_cons_succ]
    refine wpAnyG_takeU (i := 10) (v := ?_) rfl (by kernel_rfl) (by kernel_rfl) (by kernel_rfl) (by kernel_rfl) (fun _ _ _ h => h) (Or.inl ⟨by rfl, ?_⟩) (fun _ => HS8) ?_
    rotate_left
    (intro w' hSw'; go_simp; try with_reducible rfl)
    try simp only [Act.put, List.setIfInBounds_toArray, List.set_cons_zero, List.set_cons_succ, List.getElem_toArray, List.getElem_cons_zero, List.getElem_cons_succ]
    refine wpAnyG_takeU (i := 11) (v := ?_) rfl (by kernel_rfl) (by kernel_rfl) (by kernel_rfl) (by kernel_rfl) (fun _ _ _ h => h) (Or.inl ⟨by rfl, ?_⟩) (fun _ => HS8) ?_
    rotate_left
    (intro w' hSw'; go_simp; try with_reducible rfl)
    try simp only [Act.put, List.setIfInBounds_toArray, List.set_cons_zero, List.set_cons_succ, List.getElem_toArray, List.getElem_cons_zero, List.getElem_cons_succ]
    refine wpAnyG_takeU (i := 12) (v := ?_) rfl (by kernel_rfl) (by kernel_rfl) (by kernel_rfl) (by kernel_rfl) (fun _ _ _ h => h) (Or.inl ⟨by rfl, ?_⟩) (fun _ => HS8) ?_
    rotate_left
    (intro w' hSw'; go_simp; try with_reducible rfl)
    try simp only [Act.put, List.setIfInBounds_toArray, List.set_cons_zero, List.set_cons_succ, List.getElem_toArray, List.getElem_cons_zero, List.getElem_cons_succ]
    refine wpAnyG_ready (rs := [13]) (by kernel_rfl) (by simp) ?_
    refine AllG.cons rfl (ph' := false) (by kernel_rfl) (fun K hK => ?_) AllG.nil
    go_simp
    refine hK.out _ _ (fun _ => HS8) ?_
    clear hK K
    try simp only [Act.put, List.setIfInBounds_toArray, List.set_cons_zero, List.set_cons_succ, List.getElem_toArray, List.getElem_cons_zero, List.getElem_cons_succ]
    refine wpAnyG_ready (rs := [14]) (by kernel_rfl) (by simp) ?_
    refine AllG.cons rfl (ph' := false) (by kernel_rfl) (fun K hK => ?_) AllG.nil
    go_simp
    refine hK.out _ _ (fun _ => HS8) ?_
    clear hK K
    try simp only [Act.put, List.setIfInBounds_toArray, List.set_cons_zero, List.set_cons_succ, List.getElem_toArray, List.getElem_cons_zero, List.getElem_cons_succ]
    refine wpAnyG_done (by kernel_rfl) ?_ _
    have HS1e := Lib.hid hS8
    have HK8 := Lib.hid hk8'
    clear HS0 HS1 HS6 HS7 HS8 HRO hrun1 hrun2 hk8 hk8' hS8
    have HI8 := Lib.hid (HI5.out.keptN HK8.out)
    have HJ8 := Lib.hid (HJ5.out.keptN HK8.out)
    have HBW : Hid (∀ W (a b : Option Addr) (n c n2 c2 : Nat), Kept (fun _ => False) w8 W → IsI W (.slice a n c) hs → IsI W (.slice b n2 c2) ws → _) := Lib.hid (fun W a b n c n2 c2 hk i1 i2 => ((HH5.out.kept HK8.out).kept hk).between_u a b n c n2 c2 hs ws i1 i2 HHL.out)
    obtain ⟨ec, hec⟩ : ∃ ec, codeE (orderR (nodesO st.os) st.os.length (hs ++ ws)) = ec := ⟨_, rfl⟩
    obtain ⟨Rb, hRb⟩ : ∃ R, orderR (nodesO st.os) st.os.length (hs ++ ws) = R := ⟨_, rfl⟩
    have HRB := Lib.hid hRb
    have HEC := Lib.hid hec
    rw [hec] at HBW ⊢
    clear hec hRb
    go_upto_region 8 with fail
    go_cut [13, 14] from 63 to 76 (fun u13 u14 wx => u14 = .int .i64 ec ∧ Hid (OwnI w8.heap.size wx u13 (betL (nodesO st.os) st.os.length hs ws)) ∧ Hid (Kept (fun _ => False) w8 wx))
    case first =>
      have HCD : Hid (∀ W, Kept (fun _ => False) w8 W → W.cell? ⟨Hb, 0, none⟩ = some (.pointer (some ⟨s, 0, none⟩))) := Lib.hid (fun W hk => (HCC.out W (HK8.out.trans hk (fun _ _ f => f))).1)
      have hkd : Kept (fun _ => False) w8 w8.drew := (Kept.refl _ _).drew
      obtain ⟨A1, hA1⟩ : ∃ A, w8.drew.alloc (.cells #[] 37) = A := ⟨_, rfl⟩
      obtain ⟨A2, hA2⟩ : ∃ A, A1.alloc (.cells #[] 37) = A := ⟨_, rfl⟩
      have hkA1 : Kept (fun _ => False) w8 A1 := by rw [← hA1]; exact hkd.alloc _
      have hkA12 : Kept (fun _ => False) A1 A2 := by rw [← hA2]; exact (Kept.refl _ _).alloc _
      have hkA2 : Kept (fun _ => False) w8 A2 := hkA1.trans hkA12 (fun _ _ f => f)
      have hz1 : A1.heap.size = w8.drew.heap.size + 1 := by rw [← hA1]; simp
      have oE1 : OwnI w8.heap.size A1 (.slice (some ⟨w8.drew.heap.size, 0, none⟩) 0 0) [] := by rw [← hA1]; exact (own_empty w8.drew).low hkd.size
      have oE1' : OwnI w8.heap.size A2 (.slice (some ⟨w8.drew.heap.size, 0, none⟩) 0 0) [] := oE1.keptF hkA12 (fun _ _ f => f)
      have oE2 : OwnI w8.heap.size A2 (.slice (some ⟨A1.heap.size, 0, none⟩) 0 0) [] := by rw [← hA2]; exact (own_empty A1).low hkA1.size
      have HD0 := HCD.out _ hkd
      have HD1 := HCD.out _ hkA1
      have HD2 := HCD.out _ hkA2
      have PA := Lib.hid (seq_run w8 w8.drew hkd ha wa hn hc wn wq hs ws HI8.out HJ8.out HHL.out)
      have PB := Lib.hid (two_run w8 A2 hkA2 w8.drew.heap.size A1.heap.size oE1' oE2 (by omega) ha wa hn hc wn wq hs ws HI8.out HJ8.out HHL.out)
      have PC := Lib.hid (two_run w8 A2 hkA2 A1.heap.size w8.drew.heap.size oE2 oE1' (by omega) ha wa hn hc wn wq hs ws HI8.out HJ8.out HHL.out)
      clear oE1 oE1' oE2 hz1 hkA12 hkA1 hkA2 hkd
      refine wp_region_phase (fun W => W.cell? ⟨Hb, 0, none⟩ = some (.pointer (some ⟨s, 0, none⟩))) (fun _ => false) (by kernel_rfl) HD0 (fun _ => ?_)
      refine wpAnyG_take (i := 0) (v := ?_) rfl (by kernel_rfl) (by kernel_rfl) (by kernel_rfl) (by kernel_rfl) (fun _ _ _ h => h) (Or.inl ⟨by rfl, ?_⟩) HD0 ?_
      rotate_left
      (intro w' hSw'; have _ := hSw'; go_simp; try with_reducible rfl)
      try simp only [Act.put, List.setIfInBounds_toArray, List.set_cons_zero, List.set_cons_succ, List.getElem_toArray, List.getElem_cons_zero, List.getElem_cons_succ]
      refine wpAnyG_take (i := 1) (v := ?_) rfl (by kernel_rfl) (by kernel_rfl) (by kernel_rfl) (by kernel_rfl) (fun _ _ _ h => h) (Or.inl ⟨by rfl, ?_⟩) HD0 ?_
      rotate_left
      (intro w' hSw'; have _ := hSw'; go_simp; try with_reducible rfl)
      try simp only [Act.put, List.setIfInBounds_toArray, List.set_cons_zero, List.set_cons_succ, List.getElem_toArray, List.getElem_cons_zero, List.getElem_cons_succ]
      refine wpAnyG_take (i := 2) (v := ?_) rfl (by kernel_rfl) (by kernel_rfl) (by kernel_rfl) (by kernel_rfl) (fun _ _ _ h => h) (Or.inl ⟨by rfl, ?_⟩) HD0 ?_
      rotate_left
      (intro w' hSw'; have _ := hSw'; go_simp; try with_reducible rfl)
      try simp only [Act.put, List.setIfInBounds_toArray, List.set_cons_zero, List.set_cons_succ, List.getElem_toArray, List.getElem_cons_zero, List.getElem_cons_succ]
      refine wpAnyG_take (i := 3) (v := ?_) rfl (by kernel_rfl) (by kernel_rfl) (by kernel_rfl) (by kernel_rfl) (fun _ _ _ h => h) (Or.inl ⟨by rfl, ?_⟩) HD0 ?_
      rotate_left
      (intro w' hSw'; have _ := hSw'; go_simp; try with_reducible rfl)
      try simp only [Act.put, List.setIfInBounds_toArray, List.set_cons_zero, List.set_cons_succ, List.getElem_toArray, List.getElem_cons_zero, List.getElem_cons_succ]
      refine wpAnyG_take (i := 5) (v := ?_) rfl (by kernel_rfl) (by kernel_rfl) (by kernel_rfl) (by kernel_rfl) (fun _ _ _ h => h) (Or.inl ⟨by rfl, ?_⟩) HD0 ?_
      rotate_left
      (intro w' hSw'; have _ := hSw'; go_simp; try with_reducible rfl)
      try simp only [Act.put, List.setIfInBounds_toArray, List.set_cons_zero, List.set_cons_succ, List.getElem_toArray, List.getElem_cons_zero, List.getElem_cons_succ]
      refine wpAnyG_take (i := 8) (v := ?_) rfl (by kernel_rfl) (by kernel_rfl) (by kernel_rfl) (by kernel_rfl) (fun _ _ _ h => h) (Or.inl ⟨by rfl, ?_⟩) HD0 ?_
      rotate_left
      (intro w' hSw'; have _ := hSw'; go_simp; try with_reducible rfl)
      try simp only [Act.put, List.setIfInBounds_toArray, List.set_cons_zero, List.set_cons_succ, List.getElem_toArray, List.getElem_cons_zero, List.getElem_cons_succ]
      refine wpAnyG_ready (rs := [4, 7]) (by kernel_rfl) (by simp) ?_
      refine AllG.cons rfl (ph' := false) (by kernel_rfl) (fun K hK => ?_) (AllG.cons rfl (ph' := false) (by kernel_rfl) (fun K hK => ?_) AllG.nil)
      · go_simp
        try rw [hA1]
        refine hK.out _ _ (fun _ => HD1) ?_
        clear hK K
        try simp only [Act.put, List.setIfInBounds_toArray, List.set_cons_zero, List.set_cons_succ, List.getElem_toArray, List.getElem_cons_zero, List.getElem_cons_succ]
        refine wpAnyG_ready (rs := [6, 7]) (by kernel_rfl) (by simp) ?_
        refine AllG.cons rfl (ph' := false) (by kernel_rfl) (fun K hK => ?_) (AllG.cons rfl (ph' := false) (by kernel_rfl) (fun K hK => ?_) AllG.nil)
        · obtain ⟨v1, w1, v2, w2, r1, r2, hk1, hk2, o1, o2⟩ := PA.out
          obtain ⟨x1, y1, rfl, -, -⟩ := o1.form
          obtain ⟨x2, y2, rfl, -, -⟩ := o2.form
          rw [hA1] at r1
          have HDa := HCD.out _ hk1
          have HDb := HCD.out _ (hk1.alloc (.cells #[] 37))
          have HDc := HCD.out _ hk2
          refine step_append_run rfl (.tmp 68) (.tmp 69) #[28, 28] rfl _ _ _ _ rfl rfl r1 ?_
          refine hK.out _ _ (fun _ => HDa) ?_
          clear hK K
          try simp only [Act.put, List.setIfInBounds_toArray, List.set_cons_zero, List.set_cons_succ, List.getElem_toArray, List.getElem_cons_zero, List.getElem_cons_succ]
          refine wpAnyG_ready (rs := [7]) (by kernel_rfl) (by simp) ?_
          refine AllG.cons rfl (ph' := false) (by kernel_rfl) (fun K hK => ?_) AllG.nil
          go_simp
          refine hK.out _ _ (fun _ => HDb) ?_
          clear hK K
          try simp only [Act.put, List.setIfInBounds_toArray, List.set_cons_zero, List.set_cons_succ, List.getElem_toArray, List.getElem_cons_zero, List.getElem_cons_succ]
          refine wpAnyG_ready (rs := [9]) (by kernel_rfl) (by simp) ?_
          refine AllG.cons rfl (ph' := false) (by kernel_rfl) (fun K hK => ?_) AllG.nil
          refine step_append_run rfl (.tmp 71) (.tmp 72) #[28, 28] rfl _ _ _ _ rfl rfl r2 ?_
          refine hK.out _ _ (fun _ => HDc) ?_
          clear hK K
          try simp only [Act.put, List.setIfInBounds_toArray, List.set_cons_zero, List.set_cons_succ, List.getElem_toArray, List.getElem_cons_zero, List.getElem_cons_succ]
          refine wpAnyG_ready (rs := [10]) (by kernel_rfl) (by simp) ?_
          refine AllG.cons rfl (ph' := false) (by kernel_rfl) (fun K hK => ?_) AllG.nil
          go_simp
          go_at_call 22
          refine (HBW.out w2 x1 x2 _ y1 _ y2 hk2 (o1.isI HHS.out.2) (o2.isI HWS.out.2)).mono ?_
          rintro e w9 ⟨⟨v9, rfl, hv9, -⟩, hk9⟩
          have hk9' : Kept (fun _ => False) w8 w9 := hk2.trans hk9 (fun _ _ f => f)
          have HD9 := HCD.out _ hk9'
          have HV9 := Lib.hid (hv9.low hk2.size)
          refine hK.out _ _ (fun _ => HD9) ?_
          clear hK K
          try simp only [Act.put, List.setIfInBounds_toArray, List.set_cons_zero, List.set_cons_succ, List.getElem_toArray, List.getElem_cons_zero, List.getElem_cons_succ]
          refine wpAnyG_takeU (i := 11) (v := ?_) rfl (by kernel_rfl) (by kernel_rfl) (by kernel_rfl) (by kernel_rfl) (fun _ _ _ h => h) (Or.inl ⟨by rfl, ?_⟩) (fun _ => HD9) ?_
          rotate_left
          (intro w' hSw'; go_simp; try with_reducible rfl)
          try simp only [Act.put, List.setIfInBounds_toArray, List.set_cons_zero, List.set_cons_succ, List.getElem_toArray, List.getElem_cons_zero, List.getElem_cons_succ]
          refine wpAnyG_takeU (i := 12) (v := ?_) rfl (by kernel_rfl) (by kernel_rfl) (by kernel_rfl) (by kernel_rfl) (fun _ _ _ h => h) (Or.inl ⟨by rfl, ?_⟩) (fun _ => HD9) ?_
          rotate_left
          (intro w' hSw'; go_simp; try with_reducible rfl)
          try simp only [Act.put, List.setIfInBounds_toArray, List.set_cons_zero, List.set_cons_succ, List.getElem_toArray, List.getElem_cons_zero, List.getElem_cons_succ]
          refine wpAnyG_takeU (i := 13) (v := ?_) rfl (by kernel_rfl) (by kernel_rfl) (by kernel_rfl) (by kernel_rfl) (fun _ _ _ h => h) (Or.inl ⟨by rfl, ?_⟩) (fun _ => HD9) ?_
          rotate_left
          (intro w' hSw'; go_simp; try with_reducible rfl)
          try simp only [Act.put, List.setIfInBounds_toArray, List.set_cons_zero, List.set_cons_succ, List.getElem_toArray, List.getElem_cons_zero, List.getElem_cons_succ]
          refine wpAnyG_ready (rs := [14]) (by kernel_rfl) (by simp) ?_
          refine AllG.cons rfl (ph' := false) (by kernel_rfl) (fun K hK => ?_) AllG.nil
          go_simp
          refine hK.out _ _ (fun _ => HD9) ?_
          clear hK K
          try simp only [Act.put, List.setIfInBounds_toArray, List.set_cons_zero, List.set_cons_succ, List.getElem_toArray, List.getElem_cons_zero, List.getElem_cons_succ]
          refine wpAnyG_ready (rs := [15]) (by kernel_rfl) (by simp) ?_
          refine AllG.cons rfl (ph' := false) (by kernel_rfl) (fun K hK => ?_) AllG.nil
          go_simp
          refine hK.out _ _ (fun _ => HD9) ?_
          clear hK K
          try simp only [Act.put, List.setIfInBounds_toArray, List.set_cons_zero, List.set_cons_succ, List.getElem_toArray, List.getElem_cons_zero, List.getElem_cons_succ]
          refine wpAnyG_done (by kernel_rfl) ?_ _
          clear r1 r2
          go_wp2_with fail
          go_meet
          exact ⟨rfl, HV9, Lib.hid hk9'⟩
        · obtain ⟨v1, w1, v2, w2, r1, r2, hk1, hk2, o1, o2⟩ := PB.out
          obtain ⟨x1, y1, rfl, -, -⟩ := o1.form
          obtain ⟨x2, y2, rfl, -, -⟩ := o2.form
          have HDa := HCD.out _ hk1
          have HDc := HCD.out _ hk2
          go_simp
          try rw [hA2]
          refine hK.out _ _ (fun _ => HD2) ?_
          clear hK K
          try simp only [Act.put, List.setIfInBounds_toArray, List.set_cons_zero, List.set_cons_succ, List.getElem_toArray, List.getElem_cons_zero, List.getElem_cons_succ]
          refine wpAnyG_ready (rs := [6]) (by kernel_rfl) (by simp) ?_
          refine AllG.cons rfl (ph' := false) (by kernel_rfl) (fun K hK => ?_) AllG.nil
          refine step_append_run rfl (.tmp 68) (.tmp 69) #[28, 28] rfl _ _ _ _ rfl rfl r1 ?_
          refine hK.out _ _ (fun _ => HDa) ?_
          clear hK K
          try simp only [Act.put, List.setIfInBounds_toArray, List.set_cons_zero, List.set_cons_succ, List.getElem_toArray, List.getElem_cons_zero, List.getElem_cons_succ]
          refine wpAnyG_ready (rs := [9]) (by kernel_rfl) (by simp) ?_
          refine AllG.cons rfl (ph' := false) (by kernel_rfl) (fun K hK => ?_) AllG.nil
          refine step_append_run rfl (.tmp 71) (.tmp 72) #[28, 28] rfl _ _ _ _ rfl rfl r2 ?_
          refine hK.out _ _ (fun _ => HDc) ?_
          clear hK K
          try simp only [Act.put, List.setIfInBounds_toArray, List.set_cons_zero, List.set_cons_succ, List.getElem_toArray, List.getElem_cons_zero, List.getElem_cons_succ]
          refine wpAnyG_ready (rs := [10]) (by kernel_rfl) (by simp) ?_
          refine AllG.cons rfl (ph' := false) (by kernel_rfl) (fun K hK => ?_) AllG.nil
          go_simp
          go_at_call 22
          refine (HBW.out w2 x1 x2 _ y1 _ y2 hk2 (o1.isI HHS.out.2) (o2.isI HWS.out.2)).mono ?_
          rintro e w9 ⟨⟨v9, rfl, hv9, -⟩, hk9⟩
          have hk9' : Kept (fun _ => False) w8 w9 := hk2.trans hk9 (fun _ _ f => f)
          have HD9 := HCD.out _ hk9'
          have HV9 := Lib.hid (hv9.low hk2.size)
          refine hK.out _ _ (fun _ => HD9) ?_
          clear hK K
          try simp only [Act.put, List.setIfInBounds_toArray, List.set_cons_zero, List.set_cons_succ, List.getElem_toArray, List.getElem_cons_zero, List.getElem_cons_succ]
          refine wpAnyG_takeU (i := 11) (v := ?_) rfl (by kernel_rfl) (by kernel_rfl) (by kernel_rfl) (by kernel_rfl) (fun _ _ _ h => h) (Or.inl ⟨by rfl, ?_⟩) (fun _ => HD9) ?_
          rotate_left
          (intro w' hSw'; go_simp; try with_reducible rfl)
          try simp only [Act.put, List.setIfInBounds_toArray, List.set_cons_zero, List.set_cons_succ, List.getElem_toArray, List.getElem_cons_zero, List.getElem_cons_succ]
          refine wpAnyG_takeU (i := 12) (v := ?_) rfl (by kernel_rfl) (by kernel_rfl) (by kernel_rfl) (by kernel_rfl) (fun _ _ _ h => h) (Or.inl ⟨by rfl, ?_⟩) (fun _ => HD9) ?_
          rotate_left
          (intro w' hSw'; go_simp; try with_reducible rfl)
          try simp only [Act.put, List.setIfInBounds_toArray, List.set_cons_zero, List.set_cons_succ, List.getElem_toArray, List.getElem_cons_zero, List.getElem_cons_succ]
          refine wpAnyG_takeU (i := 13) (v := ?_) rfl (by kernel_rfl) (by kernel_rfl) (by kernel_rfl) (by kernel_rfl) (fun _ _ _ h => h) (Or.inl ⟨by rfl, ?_⟩) (fun _ => HD9) ?_
          rotate_left
          (intro w' hSw'; go_simp; try with_reducible rfl)
          try simp only [Act.put, List.setIfInBounds_toArray, List.set_cons_zero, List.set_cons_succ, List.getElem_toArray, List.getElem_cons_zero, List.getElem_cons_succ]
          refine wpAnyG_ready (rs := [14]) (by kernel_rfl) (by simp) ?_
          refine AllG.cons rfl (ph' := false) (by kernel_rfl) (fun K hK => ?_) AllG.nil
          go_simp
          refine hK.out _ _ (fun _ => HD9) ?_
          clear hK K
          try simp only [Act.put, List.setIfInBounds_toArray, List.set_cons_zero, List.set_cons_succ, List.getElem_toArray, List.getElem_cons_zero, List.getElem_cons_succ]
          refine wpAnyG_ready (rs := [15]) (by kernel_rfl) (by simp) ?_
          refine AllG.cons rfl (ph' := false) (by kernel_rfl) (fun K hK => ?_) AllG.nil
          go_simp
          refine hK.out _ _ (fun _ => HD9) ?_
          clear hK K
          try simp only [Act.put, List.setIfInBounds_toArray, List.set_cons_zero, List.set_cons_succ, List.getElem_toArray, List.getElem_cons_zero, List.getElem_cons_succ]
          refine wpAnyG_done (by kernel_rfl) ?_ _
          clear r1 r2
          go_wp2_with fail
          go_meet
          exact ⟨rfl, HV9, Lib.hid hk9'⟩
      · go_simp
        try rw [hA1]
        refine hK.out _ _ (fun _ => HD1) ?_
        clear hK K
        try simp only [Act.put, List.setIfInBounds_toArray, List.set_cons_zero, List.set_cons_succ, List.getElem_toArray, List.getElem_cons_zero, List.getElem_cons_succ]
        obtain ⟨v1, w1, v2, w2, r1, r2, hk1, hk2, o1, o2⟩ := PC.out
        obtain ⟨x1, y1, rfl, -, -⟩ := o1.form
        obtain ⟨x2, y2, rfl, -, -⟩ := o2.form
        have HDa := HCD.out _ hk1
        have HDc := HCD.out _ hk2
        refine wpAnyG_ready (rs := [4]) (by kernel_rfl) (by simp) ?_
        refine AllG.cons rfl (ph' := false) (by kernel_rfl) (fun K hK => ?_) AllG.nil
        go_simp
        try rw [hA2]
        refine hK.out _ _ (fun _ => HD2) ?_
        clear hK K
        try simp only [Act.put, List.setIfInBounds_toArray, List.set_cons_zero, List.set_cons_succ, List.getElem_toArray, List.getElem_cons_zero, List.getElem_cons_succ]
        refine wpAnyG_ready (rs := [6]) (by kernel_rfl) (by simp) ?_
        refine AllG.cons rfl (ph' := false) (by kernel_rfl) (fun K hK => ?_) AllG.nil
        refine step_append_run rfl (.tmp 68) (.tmp 69) #[28, 28] rfl _ _ _ _ rfl rfl r1 ?_
        refine hK.out _ _ (fun _ => HDa) ?_
        clear hK K
        try simp only [Act.put, List.setIfInBounds_toArray, List.set_cons_zero, List.set_cons_succ, List.getElem_toArray, List.getElem_cons_zero, List.getElem_cons_succ]
        refine wpAnyG_ready (rs := [9]) (by kernel_rfl) (by simp) ?_
        refine AllG.cons rfl (ph' := false) (by kernel_rfl) (fun K hK => ?_) AllG.nil
        refine step_append_run rfl (.tmp 71) (.tmp 72) #[28, 28] rfl _ _ _ _ rfl rfl r2 ?_
        refine hK.out _ _ (fun _ => HDc) ?_
        clear hK K
        try simp only [Act.put, List.setIfInBounds_toArray, List.set_cons_zero, List.set_cons_succ, List.getElem_toArray, List.getElem_cons_zero, List.getElem_cons_succ]
        refine wpAnyG_ready (rs := [10]) (by kernel_rfl) (by simp) ?_
        refine AllG.cons rfl (ph' := false) (by kernel_rfl) (fun K hK => ?_) AllG.nil
        go_simp
        go_at_call 22
        refine (HBW.out w2 x1 x2 _ y1 _ y2 hk2 (o1.isI HHS.out.2) (o2.isI HWS.out.2)).mono ?_
        rintro e w9 ⟨⟨v9, rfl, hv9, -⟩, hk9⟩
        have hk9' : Kept (fun _ => False) w8 w9 := hk2.trans hk9 (fun _ _ f => f)
        have HD9 := HCD.out _ hk9'
        have HV9 := Lib.hid (hv9.low hk2.size)
        refine hK.out _ _ (fun _ => HD9) ?_
        clear hK K
        try simp only [Act.put, List.setIfInBounds_toArray, List.set_cons_zero, List.set_cons_succ, List.getElem_toArray, List.getElem_cons_zero, List.getElem_cons_succ]
        refine wpAnyG_takeU (i := 11) (v := ?_) rfl (by kernel_rfl) (by kernel_rfl) (by kernel_rfl) (by kernel_rfl) (fun _ _ _ h => h) (Or.inl ⟨by rfl, ?_⟩) (fun _ => HD9) ?_
        rotate_left
        (intro w' hSw'; go_simp; try with_reducible rfl)
        try simp only [Act.put, List.setIfInBounds_toArray, List.set_cons_zero, List.set_cons_succ, List.getElem_toArray, List.getElem_cons_zero, List.getElem_cons_succ]
        refine wpAnyG_takeU (i := 12) (v := ?_) rfl (by kernel_rfl) (by kernel_rfl) (by kernel_rfl) (by kernel_rfl) (fun _ _ _ h => h) (Or.inl ⟨by rfl, ?_⟩) (fun _ => HD9) ?_
        rotate_left
        (intro w' hSw'; go_simp; try with_reducible rfl)
        try simp only [Act.put, List.setIfInBounds_toArray, List.set_cons_zero, List.set_cons_succ, List.getElem_toArray, List.getElem_cons_zero, List.getElem_cons_succ]
        refine wpAnyG_takeU (i := 13) (v := ?_) rfl (by kernel_rfl) (by kernel_rfl) (by kernel_rfl) (by kernel_rfl) (fun _ _ _ h => h) (Or.inl ⟨by rfl, ?_⟩) (fun _ => HD9) ?_
        rotate_left
        (intro w' hSw'; go_simp; try with_reducible rfl)
        try simp only [Act.put, List.setIfInBounds_toArray, List.set_cons_zero, List.set_cons_succ, List.getElem_toArray, List.getElem_cons_zero, List.getElem_cons_succ]
        refine wpAnyG_ready (rs := [14]) (by kernel_rfl) (by simp) ?_
        refine AllG.cons rfl (ph' := false) (by kernel_rfl) (fun K hK => ?_) AllG.nil
        go_simp
        refine hK.out _ _ (fun _ => HD9) ?_
        clear hK K
        try simp only [Act.put, List.setIfInBounds_toArray, List.set_cons_zero, List.set_cons_succ, List.getElem_toArray, List.getElem_cons_zero, List.getElem_cons_succ]
        refine wpAnyG_ready (rs := [15]) (by kernel_rfl) (by simp) ?_
        refine AllG.cons rfl (ph' := false) (by kernel_rfl) (fun K hK => ?_) AllG.nil
        go_simp
        refine hK.out _ _ (fun _ => HD9) ?_
        clear hK K
        try simp only [Act.put, List.setIfInBounds_toArray, List.set_cons_zero, List.set_cons_succ, List.getElem_toArray, List.getElem_cons_zero, List.getElem_cons_succ]
        refine wpAnyG_done (by kernel_rfl) ?_ _
        clear r1 r2
        go_wp2_with fail
        go_meet
        exact ⟨rfl, HV9, Lib.hid hk9'⟩
    case rest =>
      obtain ⟨rfl, HV, HKc⟩ := hcut
      have HK9 : Hid (Kept (fun _ => False) w5 wc) := Lib.hid (HK8.out.trans HKc.out (fun _ _ f => f))
      have HRT := Lib.hid ((HH5.out.kept HK9.out).roots_u wa wn wq ws (HJ5.out.keptN HK9.out))
      have HRW : Hid (∀ W, Kept (fun _ => False) w5 W → _) := Lib.hid (fun W hk => (HH5.out.kept hk).rorder_u wa wn wq ws (HJ5.out.keptN hk) HWS.out.1)
      have HRH : Hid (∀ W, Kept (fun _ => False) w5 W → _) := Lib.hid (fun W hk => (HH5.out.kept hk).rorder_u ha hn hc hs (HI5.out.keptN hk) HHS.out.1)
      have HPU : Hid (∀ W o, Kept (fun _ => False) w5 W → orderR (nodesO st.os) st.os.length ws = .ok o → ∀ x ∈ o, Calls Try.prog 24 #[.slice na S.length nc, .int .u64 x] W fun e w' => (∃ a c, e = .returned (.slice a (comR st.os x).2.1.length c)) ∧ W = w') := Lib.hid (fun W o hk ho x hx => (HH5.out.kept hk).parents_u HWS.out.1 ho hx)
      simp only [HSN.out] at HRW HRH HPU
      have hosl : (nodesO st.os).length ≤ st.os.length := by simp [nodesO]
      have HPO : Hid (∀ o, Rb = .ok o → (∃ oh, orderR (nodesO st.os) st.os.length hs = .ok oh) ∧ ∃ ow, orderR (nodesO st.os) st.os.length ws = .ok ow) := Lib.hid (fun o h => parts_ok hosl (HRB.out.trans h))
      have HLW : Hid (∀ x ∈ okL (orderR (nodesO st.os) st.os.length ws), x < 18446744073709551616) := Lib.hid okL_lt
      have HLH : Hid (∀ x ∈ okL (orderR (nodesO st.os) st.os.length hs), x < 18446744073709551616) := Lib.hid okL_lt
      have HLNW : Hid (∀ ow, orderR (nodesO st.os) st.os.length ws = .ok ow → ow.length ≤ 100000) := Lib.hid (fun ow h => by have h1 := (orderR_ok h).1.good.len; have h2 := HH5.out.sl.2.1; simp [nodesO] at h1; omega)
      have HBLo : Hid (∀ ob, Rb = .ok ob → betL (nodesO st.os) st.os.length hs ws = (okL (orderR (nodesO st.os) st.os.length ws)).filter (fun x => !decide (x ∈ okL (orderR (nodesO st.os) st.os.length hs)))) := Lib.hid (fun ob h => by unfold betL; rw [HRB.out, h])
      have HBLe : Hid (∀ ce, Rb = .error ce → betL (nodesO st.os) st.os.length hs ws = []) := Lib.hid (fun ob h => by unfold betL; rw [HRB.out, h])
      generalize betL (nodesO st.os) st.os.length hs ws = bl at *
      generalize orderR (nodesO st.os) st.os.length hs = Rh at *
      generalize orderR (nodesO st.os) st.os.length ws = Rw at *
      have c0 := (HCC.out _ HK9.out).1
      clear hosl HBW
      go_wp2_with fail
      refine HRT.out.mono ?_
      rintro e w10 ⟨⟨vr, rfl, hvr, hSw⟩, hk10⟩
      have HK10 : Hid (Kept (fun _ => False) w5 w10) := Lib.hid (HK9.out.trans hk10 (fun _ _ f => f))
      have c1 := (HCC.out _ HK10.out).2
      have HRW10 := Lib.hid (HRW.out _ HK10.out)
      have HV10 := Lib.hid (HV.out.keptF hk10 (fun _ _ f => f))
      have HVR := Lib.hid hvr
      clear c0 hvr hk10
      go_wp2_with fail
      refine HRW10.out.mono ?_
      rintro e w11 ⟨⟨⟨vw, rfl, hvw⟩, -⟩, hk11⟩
      have HK11 : Hid (Kept (fun _ => False) w5 w11) := Lib.hid (HK10.out.trans hk11 (fun _ _ f => f))
      have HVR1 := Lib.hid (HVR.out.keptF hk11 (fun _ _ f => f))
      have HV11 := Lib.hid (HV10.out.keptF hk11 (fun _ _ f => f))
      have HVW := Lib.hid hvw
      have HRWE : Hid (∀ x ∈ okL Rw, Rw = .ok (okL Rw)) := Lib.hid (fun x hx => by
        cases Rw with
        | ok o => rfl
        | error c => simp [okL] at hx)
      have HLN : Hid ((okL Rw).length ≤ 100000) := Lib.hid (by
        cases Rw with
        | ok o => exact HLNW.out o rfl
        | error c => simp [okL])
      obtain ⟨ewc, hewc⟩ : ∃ c, codeE Rw = c := ⟨_, rfl⟩
      rw [hewc]
      have HPW : Hid (∀ W, Kept (fun _ => False) w5 W → ∀ x ∈ okL Rw, Calls Try.prog 24 #[.slice na sn nc, .int .u64 x] W fun e w' => (∃ a c, e = .returned (.slice a (comR st.os x).2.1.length c)) ∧ W = w') := Lib.hid (fun W hk x hx => HPU.out W _ hk (HRWE.out x hx) x hx)
      obtain ⟨ow, how⟩ : ∃ ow, okL Rw = ow := ⟨_, rfl⟩
      rw [how] at HVW HVR1 HLN HPW HLW HBLo
      obtain ⟨uw, uwc, rfl, -, -⟩ := HVW.out.form
      have HIW := Lib.hid (HVW.out.isI HLW.out)
      obtain ⟨on, hon⟩ : ∃ n, ow.length = n := ⟨_, rfl⟩
      rw [hon] at HIW HLN ⊢
      have HON := Lib.hid hon
      have honn := HLN.out
      clear hk11 hvw hewc how hon HVW HVR HV10 HRW10 HRT c1
      go_wp2_with fail
      go_loopg [19, 105] on (fun g ov i wr => ∃ k, k + g = on ∧ i = .int .i64 k ∧ Hid (OwnI w11.heap.size wr ov ((ow.take k).filter (fun x => !decide (0 < (comR st.os x).2.1.length)))) ∧ Hid (Kept (fun _ => False) w11 wr))
      case atStart => exact ⟨0, by omega, rfl, Lib.hid (by simp; exact OwnI.none _ _), Lib.hid (Kept.refl _ _)⟩
      case round =>
        obtain ⟨k, hkg, rfl, HO, HK⟩ := hrel
        obtain ⟨va1, vc1, rfl, -, -⟩ := HO.out.form
        obtain ⟨vn, hvn⟩ : ∃ vn, ((ow.take k).filter (fun x => !decide (0 < (comR st.os x).2.1.length))).length = vn := ⟨_, rfl⟩
        rw [hvn] at HO ⊢
        have hvl : ((ow.take k).filter (fun x => !decide (0 < (comR st.os x).2.1.length))).length ≤ 100000 := by
          have h1 := List.length_filter_le (fun x => !decide (0 < (comR st.os x).2.1.length)) (ow.take k)
          have h2 := HON.out
          rw [List.length_take] at h1
          omega
        have HVL := Lib.hid hvl
        have HVN := Lib.hid hvn
        clear hvn hvl
        by_cases hlt : k < on
        · have hkl : k < ow.length := by have := HON.out; omega
          obtain ⟨g, off, rfl, hg, hc⟩ := (HIW.out.kept HK.out (fun _ _ f => f)).at hkl
          have hxm : ow[k] ∈ ow := List.getElem_mem hkl
          have hst0 := List.take_succ_eq_append_getElem hkl
          obtain ⟨x, hx⟩ : ∃ x, ow[k] = x := ⟨_, rfl⟩
          rw [hx] at hc hxm hst0
          have HST := Lib.hid hst0
          have hk5r : Kept (fun _ => False) w5 wr := HK11.out.trans HK.out (fun _ _ f => f)
          have HPX := Lib.hid (HPW.out wr hk5r x hxm)
          have c1 := (HCC.out _ hk5r).2
          obtain ⟨m, hm⟩ : ∃ m, (comR st.os x).2.1.length = m := ⟨_, rfl⟩
          have HM := Lib.hid hm
          rw [hm] at HPX
          clear hx hxm hg hst0 hm hk5r
          by_cases hm0 : m = 0
          · subst hm0
            obtain ⟨v', w', hrun, ho', hk', -⟩ := ids_app HO.out HK.out.size x (by have := HVL.out; omega)
            have HO' : Hid (OwnI w11.heap.size w' v' ((ow.take (k + 1)).filter (fun x => !decide (0 < (comR st.os x).2.1.length)))) := Lib.hid (by rw [HST.out, List.filter_append]; simpa [HM.out] using ho')
            have HK' : Hid (Kept (fun _ => False) w11 w') := Lib.hid (HK.out.more hk' (fun i e => (HO.out.base e).1))
            clear ho' hk'
            go_wp2_with fail
            refine HPX.out.mono ?_
            rintro e wz ⟨⟨pa, pc, rfl⟩, rfl⟩
            go_wp2_with (at_builtin; refine wpList_append_run rfl (.tmp 117) (.tmp 119) #[28, 28] rfl _ _ _ _ rfl rfl hrun ?_)
            go_roundg (gk - 1)
            case measure => omega
            case rel => exact ⟨k + 1, by omega, by go_num, HO', HK'⟩
          · have HO' : Hid (OwnI w11.heap.size wr (.slice va1 vn vc1) ((ow.take (k + 1)).filter (fun x => !decide (0 < (comR st.os x).2.1.length)))) := Lib.hid (by
              rw [HST.out, List.filter_append]
              have h0 : 0 < (comR st.os x).2.1.length := by rw [HM.out]; omega
              simpa [h0] using HO.out)
            have hmb : ((m : Int) == 0) = false := by simp; omega
            go_wp2_with fail
            refine HPX.out.mono ?_
            rintro e wz ⟨⟨pa, pc, rfl⟩, rfl⟩
            go_wp2_with fail
            go_roundg (gk - 1)
            case measure => omega
            case rel => exact ⟨k + 1, by omega, by go_num, HO', HK⟩
        · obtain rfl : k = on := by omega
          clear hlt
          have hFL : (ow.take k).filter (fun x => !decide (0 < (comR st.os x).2.1.length)) = ow.filter (fun x => !decide (0 < (comR st.os x).2.1.length)) := by rw [List.take_of_length_le (Nat.le_of_eq HON.out)]
          rw [hFL] at HO
          have iF := HO.out.isI (fun x hx => HLW.out x (List.mem_filter.1 hx).1)
          have iR := (HVR1.out.keptF HK.out (fun _ _ f => f)).isI (fun x hx => HLW.out x (List.mem_filter.1 hx).1)
          obtain ⟨vra, vrc, hvr, -, -⟩ := HVR1.out.form
          subst hvr
          have hVN : (ow.filter (fun x => !decide (0 < (comR st.os x).2.1.length))).length = vn := by rw [← hFL]; exact HVN.out
          rw [hVN] at iR ⊢
          have HSA := Lib.hid (same_any wr vra va1 vn vrc vn vc1 _ _ iR iF)
          rw [show ∀ l : List Nat, decide (l = l) = true from fun l => by simp] at HSA
          have HK12 : Hid (Kept (fun _ => False) w5 wr) := Lib.hid (HK11.out.trans HK.out (fun _ _ f => f))
          have HV12 := Lib.hid (HV11.out.keptF HK.out (fun _ _ f => f))
          clear hFL iF iR hVN
          go_wp2_with fail
          refine HSA.out.mono ?_
          rintro e wz ⟨rfl, hkz⟩
          have HK13 : Hid (Kept (fun _ => False) w5 wz) := Lib.hid (HK12.out.trans hkz (fun _ _ f => f))
          have HV13 := Lib.hid (HV12.out.keptF hkz (fun _ _ f => f))
          have HKR : Hid (∀ W, Kept (fun _ => False) w5 W → Kept (fun _ => False) w W) := Lib.hid (fun W hk => HK5.out.more hk (fun _ f => f.elim))
          have hkz2 := Lib.hid hkz
          clear hkz
          rcases HS1e.out.no with ⟨ob, hob⟩ | ⟨ce, hce, hce0⟩
          · have hRbe : Rb = .ok ob := HRB.out.symm.trans hob
            have hec : ec = 0 := by rw [← HEC.out, hob]; rfl
            subst hec
            have hbl := HBLo.out ob hRbe
            subst hbl
            have c1 := (HCC.out _ HK13.out).2
            have HRH13 := Lib.hid (HRH.out _ HK13.out)
            clear hob hRbe
            go_wp2_with fail
            refine HRH13.out.mono ?_
            rintro e w14 ⟨⟨⟨vh, rfl, hvh⟩, -⟩, hk14⟩
            have HK14 : Hid (Kept (fun _ => False) w5 w14) := Lib.hid (HK13.out.trans hk14 (fun _ _ f => f))
            have HV14 := Lib.hid (HV13.out.keptF hk14 (fun _ _ f => f))
            have HIW14 := Lib.hid (((HIW.out.keptN (HK.out)).keptN (show Kept (fun _ => False) wr w14 from hkz2.out.trans hk14 (fun _ _ f => f))))
            obtain ⟨oh, hoh⟩ : ∃ oh, okL Rh = oh := ⟨_, rfl⟩
            rw [hoh] at HLH HV14 hvh
            obtain ⟨uh, uhc, rfl, -, -⟩ := hvh.form
            have HIH := Lib.hid (hvh.isI HLH.out)
            obtain ⟨hn2, hhn2⟩ : ∃ n, oh.length = n := ⟨_, rfl⟩
            rw [hhn2] at HIH ⊢
            clear hvh hk14 hoh hhn2 c1
            go_wp2_with fail
            go_loopg [24, 142] k (fun g ov i wr => ∃ j, j + g = k ∧ i = .int .i64 j ∧ Hid (OwnI w14.heap.size wr ov ((ow.take j).filter (fun x => !decide (x ∈ oh)))) ∧ Hid (Kept (fun _ => False) w14 wr))
            case atStart => exact ⟨0, by omega, rfl, Lib.hid (by simp; exact OwnI.none _ _), Lib.hid (Kept.refl _ _)⟩
            case round =>
              obtain ⟨j, hjg, rfl, HO2, HK2⟩ := hrel
              obtain ⟨va2, vc2, rfl, -, -⟩ := HO2.out.form
              obtain ⟨vm, hvm⟩ : ∃ vm, ((ow.take j).filter (fun x => !decide (x ∈ oh))).length = vm := ⟨_, rfl⟩
              rw [hvm] at HO2 ⊢
              have hvl : ((ow.take j).filter (fun x => !decide (x ∈ oh))).length ≤ 100000 := by
                have h1 := List.length_filter_le (fun x => !decide (x ∈ oh)) (ow.take j)
                have h2 := HON.out
                rw [List.length_take] at h1
                omega
              have HVL := Lib.hid hvl
              have HVM := Lib.hid hvm
              clear hvm hvl
              by_cases hlt : j < k
              · have hkl : j < ow.length := by have := HON.out; omega
                obtain ⟨g, off, rfl, hg, hc⟩ := (HIW14.out.keptN HK2.out).at hkl
                have hst0 := List.take_succ_eq_append_getElem hkl
                obtain ⟨x, hx⟩ : ∃ x, ow[j] = x := ⟨_, rfl⟩
                rw [hx] at hc hst0
                have HST := Lib.hid hst0
                have HPX := Lib.hid (rhas_any wr uh hn2 uhc oh x (HIH.out.keptN HK2.out))
                clear hx hg hst0
                by_cases hxo : x ∈ oh
                · rw [show decide (x ∈ oh) = true from by simp [hxo]] at HPX
                  have HO' : Hid (OwnI w14.heap.size wr (.slice va2 vm vc2) ((ow.take (j + 1)).filter (fun x => !decide (x ∈ oh)))) := Lib.hid (by
                    rw [HST.out, List.filter_append]
                    simpa [hxo] using HO2.out)
                  clear hxo
                  go_wp2_with fail
                  refine HPX.out.mono ?_
                  rintro e wz2 ⟨rfl, rfl⟩
                  go_wp2_with fail
                  go_roundg (gk - 1)
                  case measure => omega
                  case rel => exact ⟨j + 1, by omega, by go_num, HO', HK2⟩
                · rw [show decide (x ∈ oh) = false from by simp [hxo]] at HPX
                  obtain ⟨v', w', hrun, ho', hk', -⟩ := ids_app HO2.out HK2.out.size x (by have := HVL.out; omega)
                  have HO' : Hid (OwnI w14.heap.size w' v' ((ow.take (j + 1)).filter (fun x => !decide (x ∈ oh)))) := Lib.hid (by rw [HST.out, List.filter_append]; simpa [hxo] using ho')
                  have HK' : Hid (Kept (fun _ => False) w14 w') := Lib.hid (HK2.out.more hk' (fun i e => (HO2.out.base e).1))
                  clear ho' hk' hxo
                  go_wp2_with fail
                  refine HPX.out.mono ?_
                  rintro e wz2 ⟨rfl, rfl⟩
                  go_wp2_with (at_builtin; refine wpList_append_run rfl (.tmp 150) (.tmp 152) #[28, 28] rfl _ _ _ _ rfl rfl hrun ?_)
                  go_roundg (gk - 1)
                  case measure => omega
                  case rel => exact ⟨j + 1, by omega, by go_num, HO', HK'⟩
              · obtain rfl : j = k := by omega
                have hFL : (ow.take j).filter (fun x => !decide (x ∈ oh)) = ow.filter (fun x => !decide (x ∈ oh)) := by rw [List.take_of_length_le (Nat.le_of_eq HON.out)]
                have hVM := HVM.out
                rw [hFL] at HO2 hVM
                have iF := HO2.out.isI (fun x hx => HLW.out x (List.mem_filter.1 hx).1)
                have o9 := HV14.out.keptF HK2.out (fun _ _ f => f)
                have iR := o9.isI (fun x hx => HLW.out x (List.mem_filter.1 hx).1)
                obtain ⟨vga, vgc, hvg, -, -⟩ := o9.form
                subst hvg
                rw [hVM] at iR ⊢
                have HSA2 := Lib.hid (same_any wr vga va2 vm vgc vm vc2 _ _ iR iF)
                rw [show ∀ l : List Nat, decide (l = l) = true from fun l => by simp] at HSA2
                clear hFL iF iR hVM o9 hlt
                go_wp2_with fail
                refine HSA2.out.mono ?_
                rintro e wz3 ⟨rfl, hkz3⟩
                have HKE := Lib.hid (HKR.out _ ((HK14.out.trans HK2.out (fun _ _ f => f)).trans hkz3 (fun _ _ f => f)))
                clear hkz3
                go_wp2_with fail
                go_ret
                exact ⟨rfl, HKE.out⟩
          · have hec : ec ≠ 0 := by rw [← HEC.out, hce]; exact hce0
            have hecb : (ec == 0) = false := by simp [hec]
            have hbl := HBLe.out ce (HRB.out.symm.trans hce)
            rw [hbl] at HV13
            obtain ⟨xa, xc, hx, -, -⟩ := HV13.out.form
            subst hx
            clear hce hbl
            go_wp2_with fail
            go_ret
            exact ⟨rfl, HKR.out _ HK13.out⟩
end Go.Proofs.Ytikacgiccllolaa
