/- espalierref11: Lines. -/
import Derived.Test.YtikacgiccllolaaNodE
import Derived.StillTailTactics
import Derived.Lib.MinMax
namespace Go.Proofs.Ytikacgiccllolaa
open Go.RowKit Go.ChangeMaps Go.MapKept

/-- What stands at a commit while one parent is looked for among those ahead. -/
def oneF (m : Nat → Nat) (l : List Nat) (a p : Nat) : Nat := if p ∈ l then addW a (m p) else a
theorem oneF_step {N : List NodeM} {o : List Nat} (h : Topo N o) (m : Nat → Nat) {k : Nat} (hk : k < o.length) {x : Nat} (hx : o[k] = x) (a p : Nat) : oneF m (o.take (k + 1)) a p = if x = p then addW (oneF m (o.take k) a p) (m x) else oneF m (o.take k) a p := by
  unfold oneF
  rw [List.take_succ_eq_append_getElem hk, hx]
  by_cases hxp : x = p
  · have : p ∉ o.take k := by rw [← hxp, ← hx]; exact topo_take_off h hk
    rw [if_pos hxp, if_neg this, if_pos (by simp [hxp]), hxp]
  · rw [if_neg hxp]
    have : p ∈ o.take k ++ [x] ↔ p ∈ o.take k := by simp [Ne.symm hxp]
    simp only [this]
theorem oneF_bd (m : Nat → Nat) (l : List Nat) {a : Nat} (p : Nat) (ha : a ≤ 4611686018427387904) : oneF m l a p ≤ 4611686018427387904 := by
  unfold oneF addW
  split <;> omega

set_option maxRecDepth 100000 in
set_option maxHeartbeats 1000000 in
theorem rlines_any (w : World) (B : Nat) (la : Option Addr) (ln lc : Nat) (S : List NdM) (oa : Option Addr) (on oc : Nat) (o : List Nat) (t b : Nat) (hD : IsD w B (.slice la ln lc) S) (hI : IsI w (.slice oa on oc) o) (hT : Topo (nodesD S) o) (l : Nat) (hol : o.length = l + 1) (hob : ∀ h : l < o.length, o[l] = b) (hl : o.length ≤ 100000) :
    Calls Try.prog 19 #[.slice la ln lc, .slice oa on oc, .int .u64 t] w fun e w' => e = .returned (.int .i64 (wayF (parN (nodesD S)) t o b : Nat)) ∧ Kept (fun _ => False) w w' := by
  obtain ⟨rfl, hn2, hn3⟩ := hI.len
  obtain ⟨wm, hmk, hrow, hkm⟩ := nats_make w o (fun _ => 0) (by omega)
  obtain ⟨Dp, hDp⟩ : ∃ Dp, wayF (parN (nodesD S)) t o b = Dp := ⟨_, rfl⟩
  have HDp := Lib.hid hDp
  rw [hDp]
  clear hDp
  obtain ⟨n, hn⟩ : ∃ n, o.length = n := ⟨_, rfl⟩
  have HN := Lib.hid hn
  rw [hn] at hmk hI hn2 hn3 ⊢
  have HRow : Hid (RowN wm w.heap.size (rowD o (runF (wayS (parN (nodesD S)) t) (o.take 0) (fun _ => 0)) 0 0)) := Lib.hid hrow
  have HKM := Lib.hid hkm
  have HALL := Lib.hid (And.intro hD (And.intro hI (And.intro hT (And.intro hol hob))))
  have hn5 : n ≤ 100000 := by omega
  have hn1 : 1 ≤ n := by omega
  clear hrow hkm hD hI hT hn hl hob hol
  go_enter Try.func19, Try.ntmps19
  go_wp2_with fail
  clear hmk
  go_loopw [8] (fun i wr => ∃ k, k ≤ n ∧ i = .int .i64 k ∧ Hid (RowN wr w.heap.size (rowD o (runF (wayS (parN (nodesD S)) t) (o.take k) (fun _ => 0)) k 0)) ∧ Hid (Kept (fun _ => False) w wr)) (fun i _ => n - (intOf i).toNat)
  case atStart => exact ⟨0, Nat.zero_le _, rfl, HRow, HKM⟩
  case round =>
    clear HRow HKM
    obtain ⟨i, hi, rfl, HRow, HK⟩ := hrel
    by_cases hlt : i < n
    · have hil : i < o.length := by have := HN.out; omega
      obtain ⟨g, off, rfl, hg, hcx⟩ := HALL.out.2.1.at hil
      obtain ⟨x, hx⟩ : ∃ x, o[i] = x := ⟨_, rfl⟩
      rw [hx] at hcx
      have hcx' := HK.out.cell hcx (fun f => f)
      have hxo : x ∈ o := by rw [← hx]; exact List.getElem_mem hil
      have HPA := Lib.hid (rparents_any wr B la ln lc S x (HALL.out.1.keptN HK.out) (HALL.out.2.2.1.found x hxo))
      have HBD := Lib.hid (way_le (parN (nodesD S)) t o i (by have := HN.out; omega))
      have HBF := Lib.hid (topo_before HALL.out.2.2.1 i hil)
      have HST := Lib.hid (runF_take (wayS (parN (nodesD S)) t) o hil hx (fun _ => 0))
      have HOLD := Lib.hid (fun k (hk : k < i) => runF_old HALL.out.2.2.1 (wayS (parN (nodesD S)) t) hil hk (fun _ => 0))
      rw [hx] at HBF
      have HX := Lib.hid hx
      have b0 : (0 : Int) ≤ (i : Int) := by omega
      have b1 : (i : Int) < (n : Int) := by omega
      have hne : ¬ w.heap.size = g := by omega
      have c2 := HRow.out.at (k := i) (by simpa using hil)
      rw [rowD_eq hil] at c2
      have f2 := HRow.out.fz i
      obtain ⟨m, hm⟩ : ∃ m, runF (wayS (parN (nodesD S)) t) (o.take i) (fun _ => 0) = m := ⟨_, rfl⟩
      obtain ⟨m', hm'⟩ : ∃ m', runF (wayS (parN (nodesD S)) t) (o.take (i + 1)) (fun _ => 0) = m' := ⟨_, rfl⟩
      rw [hm] at HRow HBD HST HOLD
      rw [hm'] at HST HOLD
      have HM' := Lib.hid hm'
      have HNE := Lib.hid hg
      clear hx hg hxo hm hm' hcx
      by_cases hxt : x = t
      · have HSTV : Hid (m' x = 1) := Lib.hid (by rw [HST.out, setF_at]; unfold wayS; rw [if_pos hxt])
        have HRS := HRow.out.set i 1
        rw [rowD_set _ _ _ _ hil, show ((1 : Nat) : Int) = 1 from rfl] at HRS
        have HRS2 : Hid (RowN (wr.setCell ⟨w.heap.size, i, none⟩ (.int .i64 1)) w.heap.size (rowD o (runF (wayS (parN (nodesD S)) t) (o.take (i + 1)) (fun _ => 0)) (i + 1) 0)) := Lib.hid (by
          rw [HM'.out, ← rowD_next hil (m := m) (v := 1) (fun j hj hjk => HOLD.out j hjk) (by rw [HX.out, HSTV.out])]
          exact HRS.1)
        have HKS : Hid (Kept (fun _ => False) w (wr.setCell ⟨w.heap.size, i, none⟩ (.int .i64 1))) := Lib.hid (HK.out.more HRS.2 (fun i e => Nat.le_of_eq e.symm))
        have hxtb : ((x : Int) == (t : Int)) = true := by simp [hxt]
        clear HRS hxt
        go_wp2_with fail
        go_roundw
        case rel => exact ⟨i + 1, by omega, by go_num, HRS2, HKS⟩
        case measure => simp [intOf]; omega
      · have hxtb : ((x : Int) == (t : Int)) = false := by simp; omega
        have HXT := Lib.hid hxt
        clear hxt
        go_wp2_with fail
        refine HPA.out.mono ?_
        rintro e w9 ⟨⟨p, hpS, hpf, rfl⟩, rfl⟩
        have hpar : parN (nodesD S) x = p.ps := by unfold parN; rw [hpf]; rfl
        have hpi := (HALL.out.1.mem p hpS).2.1
        have hpb := (HALL.out.1.mem p hpS).2.2
        have HPI := Lib.hid (fun W (h : Kept (fun _ => False) w W) => hpi.keptN h)
        obtain ⟨pa, pc, hpv, hpl, hpm, -, -⟩ := hpi
        have hpn63 : p.ps.length ≤ 9223372036854775807 := by unfold maxLen at hpm; omega
        rw [hpv] at HPI ⊢
        have HSTV : Hid (m' x = p.ps.foldl (fun a q => addW a (m q)) 0 ∧ ∀ q ∈ p.ps, q ∈ o.take i) := Lib.hid (by
          rw [HST.out, setF_at]
          unfold wayS
          rw [if_neg HXT.out, hpar]
          exact ⟨rfl, by rw [← hpar]; exact HBF.out⟩)
        obtain ⟨ps, hps⟩ : ∃ ps, p.ps = ps := ⟨_, rfl⟩
        rw [hps] at HPI HSTV hpn63 ⊢
        obtain ⟨pn, hpn⟩ : ∃ pn, ps.length = pn := ⟨_, rfl⟩
        have HPN := Lib.hid hpn
        rw [hpn] at HPI hpn63 ⊢
        clear hpar hpS hpf hpv hpn hps hpm hpl hpb c2 f2 hcx'
        have HRow0 : Hid (RowN wr w.heap.size (rowD o m i ((ps.take 0).foldl (fun a q => addW a (m q)) 0))) := Lib.hid HRow.out
        go_wp2_with fail
        go_loopw [10] (fun pv wy => ∃ k, k ≤ pn ∧ pv = .int .i64 k ∧ Hid (RowN wy w.heap.size (rowD o m i ((ps.take k).foldl (fun a q => addW a (m q)) 0))) ∧ Hid (Kept (fun _ => False) w wy)) (fun pv _ => pn - (intOf pv).toNat)
        case atStart => exact ⟨0, Nat.zero_le _, rfl, HRow0, HK⟩
        case round =>
          clear HRow0 HRow HK
          obtain ⟨q, hq, rfl, HRow, HK⟩ := hrel
          by_cases hqn : q < pn
          · have hql : q < ps.length := by have := HPN.out; omega
            obtain ⟨y, hy⟩ : ∃ y, ps[q] = y := ⟨_, rfl⟩
            have HSTQ := Lib.hid (foldl_take_succ (fun a q => addW a (m q)) 0 ps hql hy)
            have HYT : Hid (y ∈ o.take i) := Lib.hid (HSTV.out.2 y (by rw [← hy]; exact List.getElem_mem hql))
            have hab := foldl_add_bd (ps.take q) m 0 (Nat.zero_le _)
            obtain ⟨acc, hacc⟩ : ∃ acc, (ps.take q).foldl (fun a q => addW a (m q)) 0 = acc := ⟨_, rfl⟩
            rw [hacc] at HSTQ HRow hab
            have HY := Lib.hid hy
            have HRow0 : Hid (RowN wr w.heap.size (rowD o m i (oneF m (o.take 0) acc y))) := Lib.hid (by
              have : oneF m (o.take 0) acc y = acc := by simp [oneF]
              rw [this]; exact HRow.out)
            clear hy hacc
            go_wp2_with fail
            go_loopw [11] (fun kv wz => ∃ k, k ≤ i ∧ kv = .int .i64 k ∧ Hid (RowN wz w.heap.size (rowD o m i (oneF m (o.take k) acc y))) ∧ Hid (Kept (fun _ => False) w wz)) (fun kv _ => i - (intOf kv).toNat)
            case atStart => exact ⟨0, Nat.zero_le _, rfl, HRow0, HK⟩
            case round =>
              clear HRow0 HRow HK
              obtain ⟨k, hk, rfl, HRow, HK⟩ := hrel
              by_cases hki : k < i
              · have hkl : k < o.length := by omega
                obtain ⟨g, off, he, hg, hcx⟩ := HALL.out.2.1.at hkl
                cases he
                obtain ⟨z, hz⟩ : ∃ z, o[k] = z := ⟨_, rfl⟩
                rw [hz] at hcx
                have hcx' := HK.out.cell hcx (fun f => f)
                obtain ⟨pg, poff, rfl, hpg, hpc⟩ := (HPI.out _ HK.out).at hql
                rw [HY.out] at hpc
                have c1 := HRow.out.at (k := k) (by simpa using hkl)
                have c2 := HRow.out.at (k := i) (by simpa using hil)
                rw [rowD_lt hkl hki, hz] at c1
                rw [rowD_eq hil] at c2
                have HOS := Lib.hid (oneF_step HALL.out.2.2.1 m hkl hz acc y)
                have hob := oneF_bd m (o.take k) y hab
                have hmb := HBD.out z
                obtain ⟨ac, hac⟩ : ∃ ac, oneF m (o.take k) acc y = ac := ⟨_, rfl⟩
                obtain ⟨r, hr⟩ : ∃ r, m z = r := ⟨_, rfl⟩
                rw [hac] at c2 HOS hob HRow
                rw [hr] at c1 HOS hmb
                have d0 : (0 : Int) ≤ (k : Int) := by omega
                have d1 : (k : Int) < (n : Int) := by omega
                have d2 : (0 : Int) ≤ (q : Int) := by omega
                have d3 : (q : Int) < (pn : Int) := by omega
                clear hz hac hr hg hpg hcx
                go_wp2_with fail
                go_quiet (fail)
                generalize hwd : World.drewN wr _ = wd
                have hkd : Kept (fun _ => False) wr wd := by rw [← hwd]; exact keptDrewM _ _
                have HRD := HRow.out.kept hkd (fun f => f)
                have HKD := Lib.hid (HK.out.trans hkd (fun _ _ h => h))
                by_cases hzy : z = y
                · have hzyb : ((z : Int) == (y : Int)) = true := by simp [hzy]
                  have e1 := hkd.cell c1 (fun f => f)
                  have e2 := hkd.cell c2 (fun f => f)
                  have e3 := HRD.fz i
                  clear hwd hkd c1 c2 hcx' hpc
                  go_wp2_with fail
                  go_still_tail 18, (by kernel_rfl)
                  change wpList _ _ _ _ _ wd.drew
                  generalize hwe : wd.drew = we
                  have hke : Kept (fun _ => False) wd we := by rw [← hwe]; exact keptDrewM wd 1
                  have g2 := hke.cell e2 (fun f => f)
                  have g3 := (HRD.kept hke (fun f => f)).fz i
                  have HRS := (HRD.kept hke (fun f => f)).set i (addW ac r)
                  rw [rowD_set _ _ _ _ hil, show ((addW ac r : Nat) : Int) = min (4611686018427387904 - (ac : Int)) (r : Int) + (ac : Int) from by unfold addW; omega] at HRS
                  have HRS2 : Hid (RowN (we.setCell ⟨w.heap.size, i, none⟩ (.int .i64 (min (4611686018427387904 - (ac : Int)) (r : Int) + (ac : Int)))) w.heap.size (rowD o m i (oneF m (o.take (k + 1)) acc y)) ∧ Kept (· = w.heap.size) we (we.setCell ⟨w.heap.size, i, none⟩ (.int .i64 (min (4611686018427387904 - (ac : Int)) (r : Int) + (ac : Int))))) := Lib.hid (by rw [HOS.out, if_pos hzy]; exact HRS)
                  have HKE := Lib.hid (HKD.out.trans hke (fun _ _ h => h))
                  clear hwe e1 e2 e3 HRS HRD hzy
                  go_wp2_with fail
                  go_roundw
                  case rel => exact ⟨k + 1, by omega, by go_num, Lib.hid HRS2.out.1, Lib.hid (HKE.out.more HRS2.out.2 (fun i e => Nat.le_of_eq e.symm))⟩
                  case measure => simp [intOf]; omega
                · have hzyb : ((z : Int) == (y : Int)) = false := by simp; omega
                  have HRS : Hid (RowN wd w.heap.size (rowD o m i (oneF m (o.take (k + 1)) acc y))) := Lib.hid (by rw [HOS.out, if_neg hzy]; exact HRD)
                  clear hwd hkd c1 c2 hcx' hpc hzy HRD
                  go_wp2_with fail
                  go_roundw
                  case rel => exact ⟨k + 1, by omega, by go_num, HRS, HKD⟩
                  case measure => simp [intOf]; omega
              · obtain rfl : k = i := by omega
                have HRS : Hid (RowN wr w.heap.size (rowD o m k ((ps.take (q + 1)).foldl (fun a q => addW a (m q)) 0))) := Lib.hid (by
                  rw [HSTQ.out]
                  have := HRow.out
                  unfold oneF at this
                  rw [if_pos HYT.out] at this
                  exact this)
                go_wp2_with fail
                go_roundw
                case rel => exact ⟨q + 1, by omega, by go_num, HRS, HK⟩
                case measure => simp [intOf]; omega
          · obtain rfl : q = pn := by omega
            have HRS2 : Hid (RowN wr w.heap.size (rowD o (runF (wayS (parN (nodesD S)) t) (o.take (i + 1)) (fun _ => 0)) (i + 1) 0)) := Lib.hid (by
              rw [HM'.out, ← rowD_next hil (m := m) (v := ps.foldl (fun a q => addW a (m q)) 0) (fun j hj hjk => HOLD.out j hjk) (by rw [HX.out, HSTV.out.1])]
              have := HRow.out
              rwa [List.take_of_length_le (Nat.le_of_eq HPN.out)] at this)
            go_wp2_with fail
            go_roundw
            case rel => exact ⟨i + 1, by omega, by go_num, HRS2, HK⟩
            case measure => simp [intOf]; omega
    · obtain rfl : i = n := by omega
      have hll : l < o.length := by have := HALL.out.2.2.2.1; omega
      have c1 := HRow.out.at (k := l) (by simpa using hll)
      rw [rowD_lt hll (by have := HN.out; omega)] at c1
      have HE : Hid (runF (wayS (parN (nodesD S)) t) (o.take i) (fun _ => 0) o[l] = Dp) := Lib.hid (by
        rw [← HDp.out, List.take_of_length_le (Nat.le_of_eq HN.out), HALL.out.2.2.2.2 hll]
        rfl)
      rw [HE.out] at c1
      have hi1 : (i : Int) - 1 = (l : Int) := by have := HN.out; have := HALL.out.2.2.2.1; omega
      have hib : ((i : Int) == 0) = false := by simp; omega
      have b0 : (0 : Int) ≤ (l : Int) := by omega
      have b1 : (l : Int) < (i : Int) := by omega
      go_wp2_with fail
      go_ret
      exact ⟨rfl, HK.out⟩
end Go.Proofs.Ytikacgiccllolaa
