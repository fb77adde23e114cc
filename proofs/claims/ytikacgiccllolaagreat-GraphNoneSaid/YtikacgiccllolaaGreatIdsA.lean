/- slices of ids: append of many, slices.Grow, slices.Concat. -/
import Derived.Test.YtikacgiccllolaaGreatNodB
import Derived.Test.YtikacgiccllolaaGreatShelfG
namespace Go.Proofs.YtikacgiccllolaaGreat
open Go.RowKit Go.ChangeMaps Go.MapKept

theorem idsV_one (l : List Nat) : ∀ u ∈ idsV l, u.oneCell' = true := by
  intro u hu
  simp only [idsV, List.mem_map] at hu
  obtain ⟨x, -, rfl⟩ := hu
  rfl
/-- append of ids that lie anywhere onto ids that are owned. -/
theorem OwnI.appAll {n0 : Nat} {w : World} {v v2 : Value} {xs ys : List Nat} (h : OwnI n0 w v xs) (hk0 : n0 ≤ w.heap.size) (hp : IsI w v2 ys) (hlen : xs.length + ys.length ≤ 1000000000) :
    ∃ v' w', (Builtin.append_ #[28, 28] 28 #[v, v2]).run Tryz.prog w = .ok v' w' ∧ OwnI n0 w' v' (xs ++ ys) ∧ Kept (fun k => v.ownBlock = some k) w w' ∧ (∀ g, v'.ownBlock = some g → v.ownBlock = some g ∨ w.heap.size ≤ g) := by
  obtain ⟨i0, hi, hz0, hz1, hz2⟩ := info_parts Tryz.info37
  obtain ⟨a, c, rfl, hc, hcm, hb, hsrc⟩ := hp
  rcases hsrc with rfl | ⟨g, o, rfl, hgl, hcells⟩
  · obtain ⟨b, n, rfl, hn, -⟩ := h.form
    exact ⟨_, w, run_append_none _ _ _ i0 Tryz.underlying28 hi b xs.length n hn a c w, by simpa using h, Kept.refl _ _, fun g hg => .inl hg⟩
  · obtain ⟨v', w', hr, h2, h3, -, h5⟩ := run_append_own_at (P := Tryz.prog) w n0 28 28 37 i0 _ 1 8 Tryz.underlying28 hi hz0 hz1 hz2 rfl (by decide) v xs.length (idsV xs) h ⟨g, o, Option.none⟩ ys.length c (idsV ys) (by simp [idsV]) (fun j u hu => by rw [addr_add]; exact hcells j u hu) (idsV_one _) (by unfold maxLen; omega) (by omega) hk0
    refine ⟨v', w', hr, ?_, Kept.grown (F := fun k => v.ownBlock = some k) (Kept.refl _ _) h3 (fun k hk _ => hk), fun g' hg' => ?_⟩
    · have : idsV (xs ++ ys) = idsV xs ++ idsV ys := by simp [idsV]
      unfold OwnI
      rw [this, List.length_append]
      exact h2
    · rcases h5 with h5 | h5
      · exact .inl (h5 ▸ hg')
      · rw [h5] at hg'
        cases hg'
        exact .inr (Nat.le_refl _)
/-- slices.Grow of nothing. -/
theorem grow_any (w : World) (n : Nat) (hn : n ≤ 1000000000) :
    Calls Tryz.prog 53 #[.slice none 0 0, .int .i64 n] w fun e w' => ∃ v', e = .returned v' ∧ OwnI w.heap.size w' v' [] ∧ Kept (fun _ => False) w w' := by
  obtain ⟨i0, hi, hz0, hz1, hz2⟩ := info_parts Tryz.info37
  by_cases hn0 : n = 0
  · subst hn0
    refine (Any8.slices_Grow_room Tryz.growI none 0 0 0 w (by omega) (by omega) (by omega) (by omega)).mono ?_
    rintro e w' ⟨rfl, rfl⟩
    exact ⟨_, rfl, OwnI.none _ _, Kept.refl _ _⟩
  · refine (Any8.slices_Grow_grow Tryz.growI i0 _ hi hz0 (by rw [hz1]; decide) none 0 0 n [] w (by omega) (by omega) (by rw [hz2]; omega) (by omega) (by rw [hz1]; simp) (fun _ => rfl) (fun a ha => by cases ha)).mono ?_
    rintro e w' ⟨rfl, rfl⟩
    refine ⟨_, rfl, ?_, ((Kept.refl _ _).drew).alloc _⟩
    have hG := grownCap_ge w (0 + n) 0 37
    have hGm := grownCap_le_maxLen w (0 + n) 0 37 (by unfold maxLen; omega)
    refine ⟨by simp, .inr ⟨w.heap.size, _, _, rfl, Nat.le_refl _, heap_alloc_new w.drew _, ?_, hGm, ?_, ?_⟩⟩
    · exact Nat.zero_le _
    · simp only [Array.size_append, List.size_toArray, size_zeroCells]
      show 0 + (0 + n - 0) * 1 + (grownCap w (0 + n) 0 37 - (0 + n)) * 1 = grownCap w (0 + n) 0 37 * 1
      omega
    · simp [idsV]

theorem flat_take {L : List (List Nat)} {k : Nat} (hk : k < L.length) {x : List Nat} (hx : L[k] = x) : (L.take (k + 1)).flatten = (L.take k).flatten ++ x := by
  rw [List.take_succ_eq_append_getElem hk, List.flatten_append, hx]
  simp
theorem flat_take_le {L : List (List Nat)} {m : Nat} (hm : L.flatten.length ≤ m) (k : Nat) : (L.take k).flatten.length ≤ m := by
  have : L.flatten = (L.take k).flatten ++ (L.drop k).flatten := by rw [← List.flatten_append, List.take_append_drop]
  rw [this, List.length_append] at hm
  omega
set_option maxRecDepth 100000 in
set_option maxHeartbeats 1000000 in
theorem concat_any (w : World) (g m c : Nat) (L : List (List Nat)) (hm : L.length = m) (hmc : m ≤ 1000) (hL : L.flatten.length ≤ 1000000) (hc : ∀ k (hk : k < L.length), ∃ a c, w.cell? ⟨g, k, none⟩ = some (.slice a L[k].length c) ∧ IsI w (.slice a L[k].length c) L[k]) :
    Calls Tryz.prog 32 #[.slice (some ⟨g, 0, none⟩) m c] w fun e w' => ∃ v', e = .returned v' ∧ OwnI w.heap.size w' v' L.flatten ∧ Kept (fun _ => False) w w' := by
  have HC := Lib.hid hc
  have HM := Lib.hid hm
  have HL : Hid (∀ k, (L.take k).flatten.length ≤ 1000000) := Lib.hid (fun k => flat_take_le hL k)
  have HFL : Hid ((L.take m).flatten = L.flatten) := Lib.hid (by rw [← hm, List.take_length])
  clear hc hm hL
  go_enter Tryz.func32, Tryz.ntmps32
  go_wp2_with fail
  go_loopw [3, 11] (fun sz i wr => w = wr ∧ ∃ k : Nat, k ≤ m ∧ i = .int .i64 k ∧ ∃ t : Nat, sz = .int .i64 t ∧ Hid (t = (L.take k).flatten.length)) (fun _ i _ => m - (intOf i).toNat)
  case atStart => exact ⟨rfl, 0, Nat.zero_le _, rfl, 0, rfl, Lib.hid rfl⟩
  case round =>
    obtain ⟨rfl, k, hk, rfl, t, rfl, HT⟩ := hrel
    by_cases hlt : k < m
    · have hkl : k < L.length := by have := HM.out; omega
      obtain ⟨a, c2, hcc, -⟩ := HC.out k hkl
      obtain ⟨x, hx⟩ : ∃ x, L[k] = x := ⟨_, rfl⟩
      rw [hx] at hcc
      obtain ⟨xn, hxn⟩ : ∃ n, x.length = n := ⟨_, rfl⟩
      rw [hxn] at hcc
      have hst : t + xn = (L.take (k + 1)).flatten.length := by rw [flat_take hkl hx, List.length_append, ← HT.out, hxn]
      have h10 := HL.out (k + 1)
      have htb : t + xn ≤ 1000000 := by omega
      have HST := Lib.hid hst
      clear hx hxn hst h10
      go_wp2_with fail
      go_roundw
      case rel => exact ⟨(by first | rfl | trivial), k + 1, by omega, by go_num, t + xn, by go_num, HST⟩
      case measure => simp [intOf]; omega
    · obtain rfl : k = m := by omega
      have htb : t ≤ 1000000 := by have := HL.out k; have := HT.out; omega
      have hg := Lib.hid (grow_any w t (by omega))
      have ht0 : ¬ (t : Int) < 0 := by omega
      clear hlt
      go_wp2_with fail
      refine hg.out.mono ?_
      rintro e w1 ⟨v1, rfl, hv1, hk1⟩
      have HC1 : Hid (∀ j (hj : j < L.length), ∃ a c, w1.cell? ⟨g, j, none⟩ = some (.slice a L[j].length c) ∧ IsI w1 (.slice a L[j].length c) L[j]) := Lib.hid (fun j hj => by
        obtain ⟨a, c2, h1, h2⟩ := HC.out j hj
        exact ⟨a, c2, hk1.cell h1 (fun f => f), h2.keptN hk1⟩)
      have HK1 := Lib.hid hk1
      have HV1 : Hid (OwnI w.heap.size w1 v1 (L.take 0).flatten) := Lib.hid hv1
      clear hv1 hk1 ht0 htb
      go_wp2_with fail
      go_loopg [6, 27] k (fun gg ov i wr => ∃ j, j + gg = k ∧ i = .int .i64 j ∧ Hid (OwnI w.heap.size wr ov (L.take j).flatten) ∧ Hid (Kept (fun _ => False) w wr))
      case atStart => exact ⟨0, by omega, rfl, HV1, HK1⟩
      case round =>
        obtain ⟨j, hjg, rfl, HO, HK⟩ := hrel
        by_cases hjl : j < k
        · have hjL : j < L.length := by have := HM.out; omega
          obtain ⟨a, c2, hcc, hii⟩ := HC.out j hjL
          have hcc := HK.out.cell hcc (fun f => f)
          have hii := hii.keptN HK.out
          obtain ⟨x, hx⟩ : ∃ x, L[j] = x := ⟨_, rfl⟩
          rw [hx] at hcc hii
          have h11 := HL.out (j + 1)
          rw [flat_take hjL hx, List.length_append] at h11
          obtain ⟨v', w', hrun, ho', hk', -⟩ := HO.out.appAll HK.out.size hii (by omega)
          have HO' : Hid (OwnI w.heap.size w' v' (L.take (j + 1)).flatten) := Lib.hid (by rw [flat_take hjL hx]; exact ho')
          have HK' : Hid (Kept (fun _ => False) w w') := Lib.hid (HK.out.more hk' (fun i e => (HO.out.base e).1))
          clear hx h11 ho' hk' hii
          go_wp2_with (at_builtin; refine wpList_append_run rfl (.tmp 31) (.tmp 32) #[28, 28] rfl _ _ _ _ rfl rfl hrun ?_)
          go_roundg (gk - 1)
          case measure => omega
          case rel => exact ⟨j + 1, by omega, by go_num, HO', HK'⟩
        · obtain rfl : j = k := by omega
          go_wp2_with fail
          go_ret
          exact ⟨_, rfl, by rw [← HFL.out]; exact HO.out, HK.out⟩
end Go.Proofs.YtikacgiccllolaaGreat
