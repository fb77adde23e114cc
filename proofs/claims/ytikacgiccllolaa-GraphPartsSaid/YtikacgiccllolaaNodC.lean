/- espalierref11: Order. -/
import Derived.Test.YtikacgiccllolaaNodB
namespace Go.Proofs.Ytikacgiccllolaa
open Go.RowKit Go.ChangeMaps Go.MapKept

set_option maxRecDepth 100000 in
theorem rorder_any (w : World) (la : Option Addr) (ln lc : Nat) (S : List NdM) (ha : Option Addr) (hn hc : Nat) (hs : List Nat) (Fu : Nat) (hD : IsD w w.heap.size (.slice la ln lc) S) (hSl : S.length ≤ 1000) (hI : IsI w (.slice ha hn hc) hs) (hF : S.length ≤ Fu) :
    Calls Try.prog 11 #[.slice la ln lc, .slice ha hn hc] w fun e w' => orderE w' w.heap.size e (orderR (nodesD S) Fu hs) ∧ Kept (fun _ => False) w w' := by
  obtain ⟨R, hR⟩ : ∃ R, orderR (nodesD S) Fu hs = R := ⟨_, rfl⟩
  rw [hR]
  obtain ⟨hn1, hn2, hn3⟩ := hI.len
  have HN1 := Lib.hid hn1
  have HR : Hid (foldE (headF (nodesD S) Fu) (hs.drop 0) [] = R) := Lib.hid hR
  have HD := Lib.hid hD
  have HI := Lib.hid hI
  clear hR hn1 hD hI
  go_enter Try.func11, Try.ntmps11
  go_wp2_with fail
  go_loopw [6, 7] (fun ov i wr => ∃ k o, k ≤ hn ∧ i = .int .i64 k ∧ Hid (OwnI w.heap.size wr ov o) ∧ Hid (Topo (nodesD S) o ∧ foldE (headF (nodesD S) Fu) (hs.drop k) o = R) ∧ Hid (Kept (fun _ => False) w wr)) (fun _ i _ => hn - (intOf i).toNat)
  case atStart => exact ⟨0, [], Nat.zero_le _, rfl, Lib.hid (OwnI.none _ _), Lib.hid ⟨.nil, HR.out⟩, Lib.hid (Kept.refl _ _)⟩
  case round =>
    clear HR
    obtain ⟨k, o, hk, rfl, HO, HR, HK⟩ := hrel
    obtain ⟨va, vc, rfl, -, -⟩ := HO.out.form
    by_cases hlt : k < hn
    · have hkl : k < hs.length := by have := HN1.out; omega
      obtain ⟨g, off, rfl, hg, hc⟩ := (HI.out.keptN HK.out).at hkl
      obtain ⟨x, hx⟩ : ∃ x, hs[k] = x := ⟨_, rfl⟩
      rw [hx] at hc
      have HST := Lib.hid (foldE_at (f := headF (nodesD S) Fu) hkl hx o)
      have HFR := Lib.hid (rfrom_any (Fu + 1) wr w.heap.size la ln lc S x (.slice va o.length vc) o none 0 0 [] (HD.out.keptN HK.out) hSl HO.out HK.out.size ⟨none, 0, rfl, Nat.le_refl _, by simp [maxLen], by simp, .inl rfl⟩ (fun g _ e => by simp [Value.ownBlock] at e) (fun g e => by simp [Value.ownBlock] at e) HR.out.1 List.nodup_nil (by simp) (by simp) (by simp [nodesD]; omega))
      have HT := Lib.hid (fun o' (h' : fromR (nodesD S) (Fu + 1) x o [] = .ok o') => (fromR_went _ x o [] o' HR.out.1 (by simp) h').1.topo)
      obtain ⟨r, hr⟩ : ∃ r, fromR (nodesD S) (Fu + 1) x o [] = r := ⟨_, rfl⟩
      have HRE : Hid (R = thenE (headF (nodesD S) Fu) (hs.drop (k + 1)) r) := Lib.hid (by
        have h1 := HR.out.2
        rw [HST.out] at h1
        have h2 : headF (nodesD S) Fu x o = r := hr
        rw [h2] at h1
        exact h1.symm)
      rw [hr] at HFR HT
      have b0 : (0 : Int) ≤ (k : Int) := by omega
      have b1 : (k : Int) < (hn : Int) := by omega
      clear hx hg hr
      go_wp2_with fail
      refine HFR.out.mono ?_
      rintro e w2 ⟨he, hk2⟩
      have HK2 : Hid (Kept (fun _ => False) w w2) := Lib.hid (HK.out.more hk2 (fun i e => (HO.out.base e).1))
      clear hk2
      cases r with
      | error c9 =>
        obtain ⟨rfl, hc0⟩ := he
        have HE : R = .error c9 := HRE.out
        have hcb : (c9 != 0) = true := by simp [hc0]
        have HC0 := Lib.hid hc0
        clear hc0
        subst HE
        go_wp2_with fail
        go_ret2
        exact ⟨⟨rfl, HC0.out⟩, HK2.out⟩
      | ok o9 =>
        obtain ⟨v9, rfl, ho9, -⟩ := he
        have HO9 := Lib.hid ho9
        have HR9 : Hid (Topo (nodesD S) o9 ∧ foldE (headF (nodesD S) Fu) (hs.drop (k + 1)) o9 = R) := Lib.hid ⟨HT.out o9 rfl, HRE.out.symm⟩
        clear ho9
        go_wp2_with fail
        go_roundw
        case rel => exact ⟨k + 1, o9, by omega, by go_num, HO9, HR9, HK2⟩
        case measure => simp [intOf]; omega
    · obtain rfl : k = hn := by omega
      have HE : R = .ok o := by
        have h1 := HR.out.2
        rw [List.drop_of_length_le (Nat.le_of_eq HN1.out.symm)] at h1
        exact h1.symm
      subst HE
      go_wp2_with fail
      go_ret2
      exact ⟨⟨_, rfl, HO.out⟩, HK.out⟩
end Go.Proofs.Ytikacgiccllolaa
