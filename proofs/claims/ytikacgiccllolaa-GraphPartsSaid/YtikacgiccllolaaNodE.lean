/- espalierref11: Depth, walked. -/
import Derived.Test.YtikacgiccllolaaNodD
namespace Go.Proofs.Ytikacgiccllolaa
open Go.RowKit Go.ChangeMaps Go.MapKept

theorem ret_int {a b : Int} (h : a = b) : Ending.returned (.int .i64 a) = .returned (.int .i64 b) := by rw [h]
set_option maxRecDepth 100000 in
set_option maxHeartbeats 1000000 in
theorem rdepth_any (w : World) (B : Nat) (la : Option Addr) (ln lc : Nat) (S : List NdM) (oa : Option Addr) (on oc : Nat) (o : List Nat) (c : Nat) (hD : IsD w B (.slice la ln lc) S) (hI : IsI w (.slice oa on oc) o) (hT : Topo (nodesD S) o) (hc : c ∈ o) (hl : o.length ≤ 100000) :
    Calls Try.prog 17 #[.slice la ln lc, .slice oa on oc, .int .u64 c] w fun e w' => e = .returned (.int .i64 (depF (parN (nodesD S)) o c : Nat)) ∧ Kept (fun _ => False) w w' := by
  obtain ⟨rfl, hn2, hn3⟩ := hI.len
  obtain ⟨wm, hmk, hrow, hkm⟩ := nats_make w o (fun _ => 0) (by omega)
  obtain ⟨Dp, hDp⟩ : ∃ Dp, depF (parN (nodesD S)) o c = Dp := ⟨_, rfl⟩
  have HDp := Lib.hid hDp
  rw [hDp]
  clear hDp
  obtain ⟨n, hn⟩ : ∃ n, o.length = n := ⟨_, rfl⟩
  have HN := Lib.hid hn
  rw [hn] at hmk hI hn2 hn3 ⊢
  have HRow : Hid (RowN wm w.heap.size (rowD o (runF (depS (parN (nodesD S))) (o.take 0) (fun _ => 0)) 0 0)) := Lib.hid hrow
  have HKM := Lib.hid hkm
  have HALL := Lib.hid (And.intro hD (And.intro hI (And.intro hT hc)))
  have hn5 : n ≤ 100000 := by omega
  clear hrow hkm hD hI hT hc hn hl
  go_enter Try.func17, Try.ntmps17
  go_wp2_with fail
  clear hmk
  go_loopw [8] (fun i wr => ∃ k, k ≤ n ∧ i = .int .i64 k ∧ Hid (RowN wr w.heap.size (rowD o (runF (depS (parN (nodesD S))) (o.take k) (fun _ => 0)) k 0)) ∧ Hid (Kept (fun _ => False) w wr) ∧ Hid (∀ j (hj : j < o.length), j < k → o[j] ≠ c)) (fun i _ => n - (intOf i).toNat)
  case atStart => exact ⟨0, Nat.zero_le _, rfl, HRow, HKM, Lib.hid (fun _ _ h => absurd h (Nat.not_lt_zero _))⟩
  case round =>
    clear HRow HKM
    obtain ⟨i, hi, rfl, HRow, HK, HNC⟩ := hrel
    by_cases hlt : i < n
    · have hil : i < o.length := by have := HN.out; omega
      obtain ⟨g, off, rfl, hg, hcx⟩ := (HALL.out.2.1.keptN HK.out).at hil
      obtain ⟨x, hx⟩ : ∃ x, o[i] = x := ⟨_, rfl⟩
      rw [hx] at hcx
      have hxo : x ∈ o := by rw [← hx]; exact List.getElem_mem hil
      have HPA := Lib.hid (rparents_any wr B la ln lc S x (HALL.out.1.keptN HK.out) (HALL.out.2.2.1.found x hxo))
      have HBD := Lib.hid (dep_le (parN (nodesD S)) o i (by have := HN.out; omega))
      have HBF := Lib.hid (topo_before HALL.out.2.2.1 i hil)
      have HST := Lib.hid (runF_take (depS (parN (nodesD S))) o hil hx (fun _ => 0))
      have HOLD := Lib.hid (fun k (hk : k < i) => runF_old HALL.out.2.2.1 (depS (parN (nodesD S))) hil hk (fun _ => 0))
      rw [hx] at HBF
      have HX := Lib.hid hx
      have b0 : (0 : Int) ≤ (i : Int) := by omega
      have b1 : (i : Int) < (n : Int) := by omega
      obtain ⟨m, hm⟩ : ∃ m, runF (depS (parN (nodesD S))) (o.take i) (fun _ => 0) = m := ⟨_, rfl⟩
      obtain ⟨m', hm'⟩ : ∃ m', runF (depS (parN (nodesD S))) (o.take (i + 1)) (fun _ => 0) = m' := ⟨_, rfl⟩
      rw [hm] at HRow HBD HST HOLD
      rw [hm'] at HST HOLD
      have HM' := Lib.hid hm'
      clear hx hg hxo hm hm'
      go_wp2_with fail
      refine HPA.out.mono ?_
      rintro e w9 ⟨⟨p, hpS, hpf, rfl⟩, rfl⟩
      have hpar : parN (nodesD S) x = p.ps := by unfold parN; rw [hpf]; rfl
      have hpi := (HALL.out.1.mem p hpS).2.1
      have HPI := Lib.hid (fun W (h : Kept (fun _ => False) w W) => hpi.keptN h)
      obtain ⟨pa, pc, hpv, -⟩ := hpi
      rw [hpv] at HPI ⊢
      have HSTV : Hid (m' x = accF p.ps m (o.take i) + 1) := Lib.hid (by
        rw [HST.out, setF_at]
        unfold depS
        rw [hpar, accF_all (by rw [← hpar]; exact HBF.out)])
      obtain ⟨pn, hpn⟩ : ∃ pn, p.ps.length = pn := ⟨_, rfl⟩
      rw [hpn] at HPI ⊢
      obtain ⟨ps, hps⟩ : ∃ ps, p.ps = ps := ⟨_, rfl⟩
      rw [hps] at HPI HSTV
      clear hpar hpS hpf hpv hpn hps hcx
      have HRow0 : Hid (RowN wr w.heap.size (rowD o m i (accF ps m (o.take 0)))) := Lib.hid HRow.out
      go_wp2_with fail
      go_loopw [10] (fun kv wy => ∃ k, k ≤ i ∧ kv = .int .i64 k ∧ Hid (RowN wy w.heap.size (rowD o m i (accF ps m (o.take k)))) ∧ Hid (Kept (fun _ => False) w wy)) (fun kv _ => i - (intOf kv).toNat)
      case atStart => exact ⟨0, Nat.zero_le _, rfl, HRow0, HK⟩
      case round =>
        clear HRow0 HRow HK
        obtain ⟨k, hk, rfl, HRow, HK⟩ := hrel
        by_cases hki : k < i
        · have hkl : k < o.length := by omega
          obtain ⟨g, off, he, hg, hcx⟩ := (HALL.out.2.1.keptN HK.out).at hkl
          cases he
          obtain ⟨y, hy⟩ : ∃ y, o[k] = y := ⟨_, rfl⟩
          rw [hy] at hcx
          have c1 := HRow.out.at (k := k) (by simpa using hkl)
          have c2 := HRow.out.at (k := i) (by simpa using hil)
          rw [rowD_lt hkl hki, hy] at c1
          rw [rowD_eq hil] at c2
          have HAS : Hid (accF ps m (o.take (k + 1)) = if y ∈ ps then max (accF ps m (o.take k)) (m y) else accF ps m (o.take k)) := Lib.hid (accF_step hkl hy)
          have hab := accF_bd (ps := ps) (l := o.take k) HBD.out
          have hmb := HBD.out y
          obtain ⟨acc, hacc⟩ : ∃ acc, accF ps m (o.take k) = acc := ⟨_, rfl⟩
          obtain ⟨q, hq⟩ : ∃ q, m y = q := ⟨_, rfl⟩
          rw [hacc] at c2 HAS hab HRow
          rw [hq] at c1 HAS hmb
          have d0 : (0 : Int) ≤ (k : Int) := by omega
          have d1 : (k : Int) < (n : Int) := by omega
          have HHAS : Hid (∀ z, Calls Try.prog 18 #[.slice pa pn pc, .int .u64 y] (wr.drewN z) fun e w' => e = .returned (.bool (decide (y ∈ ps))) ∧ w' = wr.drewN z) := Lib.hid (fun z => (rhas_any (wr.drewN z) pa pn pc ps y (HPI.out _ (HK.out.drewN z))).mono (fun _ _ ⟨h1, h2⟩ => ⟨h1, h2.symm⟩))
          have f2 := HRow.out.fz i
          clear hy hg hacc hq
          by_cases hyp : y ∈ ps
          · by_cases hgt : acc < q
            · have hb : (acc : Int) < (q : Int) := by omega
              have HAS2 : Hid (accF ps m (o.take (k + 1)) = q) := Lib.hid (by rw [HAS.out, if_pos hyp]; omega)
              rw [show decide (y ∈ ps) = true from by simp [hyp]] at HHAS
              go_wp2_with fail
              go_quiet ((go_at_call 18; exact Calls.quiet_of_same (HHAS.out _)))
              generalize hwd : World.drewN wr _ = wd
              have hkd : Kept (fun _ => False) wr wd := by rw [← hwd]; exact keptDrewM _ _
              have HRS := (HRow.out.kept hkd (fun f => f)).set i q
              rw [rowD_set _ _ _ _ hil] at HRS
              have HRS2 : Hid (RowN (wd.setCell ⟨w.heap.size, i, none⟩ (.int .i64 q)) w.heap.size (rowD o m i (accF ps m (o.take (k + 1)))) ∧ Kept (· = w.heap.size) wd (wd.setCell ⟨w.heap.size, i, none⟩ (.int .i64 q))) := Lib.hid (by rw [HAS2.out]; exact HRS)
              have e3 := hkd.cell c2 (fun f => f)
              have HKD := Lib.hid (HK.out.trans hkd (fun _ _ h => h))
              have e1 := hkd.cell c1 (fun f => f)
              have e2 := (HRow.out.kept hkd (fun f => f)).fz i
              clear hwd hkd HRS c1 c2 f2 hcx
              go_wp2_with fail
              go_roundw
              case rel => exact ⟨k + 1, by omega, by go_num, Lib.hid HRS2.out.1, Lib.hid (HKD.out.more HRS2.out.2 (fun i e => Nat.le_of_eq e.symm))⟩
              case measure => simp [intOf]; omega
            · have hbg : decide ((acc : Int) < (q : Int)) = false := by simp; omega
              have HAS2 : Hid (accF ps m (o.take (k + 1)) = acc) := Lib.hid (by rw [HAS.out, if_pos hyp]; omega)
              rw [show decide (y ∈ ps) = true from by simp [hyp]] at HHAS
              go_wp2_with fail
              go_quiet ((go_at_call 18; exact Calls.quiet_of_same (HHAS.out _)))
              generalize hwd : World.drewN wr _ = wd
              have hkd : Kept (fun _ => False) wr wd := by rw [← hwd]; exact keptDrewM _ _
              have HRS := HRow.out.kept hkd (fun f => f)
              rw [← HAS2.out] at HRS
              have HRS2 := Lib.hid HRS
              have HKD := Lib.hid (HK.out.trans hkd (fun _ _ h => h))
              clear hwd hkd HRS c1 c2 f2 hcx
              go_wp2_with fail
              go_roundw
              case rel => exact ⟨k + 1, by omega, by go_num, HRS2, HKD⟩
              case measure => simp [intOf]; omega
          · have HAS2 : Hid (accF ps m (o.take (k + 1)) = acc) := Lib.hid (by rw [HAS.out, if_neg hyp])
            rw [show decide (y ∈ ps) = false from by simp [hyp]] at HHAS
            go_wp2_with fail
            go_quiet ((go_at_call 18; exact Calls.quiet_of_same (HHAS.out _)))
            generalize hwd : World.drewN wr _ = wd
            have hkd : Kept (fun _ => False) wr wd := by rw [← hwd]; exact keptDrewM _ _
            have HRS := HRow.out.kept hkd (fun f => f)
            rw [← HAS2.out] at HRS
            have HRS2 := Lib.hid HRS
            have HKD := Lib.hid (HK.out.trans hkd (fun _ _ h => h))
            clear hwd hkd HRS c1 c2 f2 hcx
            go_wp2_with fail
            go_roundw
            case rel => exact ⟨k + 1, by omega, by go_num, HRS2, HKD⟩
            case measure => simp [intOf]; omega
        · obtain rfl : k = i := by omega
          have c2 := HRow.out.at (k := k) (by simpa using hil)
          rw [rowD_eq hil] at c2
          have hab := accF_bd (ps := ps) (l := o.take k) HBD.out
          have f2 := HRow.out.fz k
          have HRS := HRow.out.set k (accF ps m (o.take k) + 1)
          obtain ⟨acc, hacc⟩ : ∃ acc, accF ps m (o.take k) = acc := ⟨_, rfl⟩
          rw [hacc] at c2 hab HRS HSTV
          rw [rowD_set _ _ _ _ hil, show ((acc + 1 : Nat) : Int) = (acc : Int) + 1 from by omega] at HRS
          have HRS2 : Hid (RowN (wr.setCell ⟨w.heap.size, k, none⟩ (.int .i64 ((acc : Int) + 1))) w.heap.size (rowD o (runF (depS (parN (nodesD S))) (o.take (k + 1)) (fun _ => 0)) (k + 1) 0) ∧ Kept (· = w.heap.size) wr (wr.setCell ⟨w.heap.size, k, none⟩ (.int .i64 ((acc : Int) + 1)))) := Lib.hid (by
            rw [HM'.out, ← rowD_next hil (m := m) (v := acc + 1) (fun j hj hjk => HOLD.out j hjk) (by rw [HX.out, HSTV.out])]
            exact HRS)
          obtain ⟨g, off, he, hg, hcx⟩ := HALL.out.2.1.at hil
          cases he
          rw [HX.out] at hcx
          have hne : ¬ w.heap.size = g := by omega
          have e1 := HK.out.cell hcx (fun f => f)
          have HKS : Hid (Kept (fun _ => False) w (wr.setCell ⟨w.heap.size, k, none⟩ (.int .i64 ((acc : Int) + 1)))) := Lib.hid (HK.out.more HRS.2 (fun i e => Nat.le_of_eq e.symm))
          clear HRS hg hcx hacc
          by_cases hxc : x = c
          · have HE : Hid (depF (parN (nodesD S)) o c = acc + 1) := Lib.hid (by
              unfold depF
              have h1 := runF_end HALL.out.2.2.1 (depS (parN (nodesD S))) (k := k) (fun _ => 0) o.length (Nat.le_refl _) hil
              rw [List.take_length, HM'.out, HX.out, HSTV.out] at h1
              rw [← hxc]
              exact h1)
            have hxcb : ((x : Int) == (c : Int)) = true := by simp [hxc]
            clear hxc
            go_wp2_with fail
            go_ret
            exact ⟨ret_int (by have := HE.out; have := HDp.out; omega), HKS.out⟩
          · have hxcb : ((x : Int) == (c : Int)) = false := by simp; omega
            have HNC2 : Hid (∀ j (hj : j < o.length), j < k + 1 → o[j] ≠ c) := Lib.hid (fun j hj hjk => by
              rcases Nat.lt_or_ge j k with h | h
              · exact HNC.out j hj h
              · obtain rfl : j = k := by omega
                rw [HX.out]; exact hxc)
            clear hxc
            go_wp2_with fail
            go_roundw
            case rel => exact ⟨k + 1, by omega, by go_num, Lib.hid HRS2.out.1, HKS, HNC2⟩
            case measure => simp [intOf]; omega
    · exact absurd HALL.out.2.2.2 (fun hm => by
        obtain ⟨j, hj, e⟩ := List.getElem_of_mem hm
        have := HN.out
        exact HNC.out j hj (by omega) e)
end Go.Proofs.Ytikacgiccllolaa
