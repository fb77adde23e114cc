/- espalierlaw02.DiskParts: the walk. -/
import Derived.Test.YtinmjgaaehdicaaLaw02A
import Derived.Test.YtinmjgaaehdicaaParts
namespace Go.Proofs.Ytinmjgaaehdicaa
open Go.RowKit Go.ChangeMaps Go.MapKept

set_option maxRecDepth 100000 in
set_option maxHeartbeats 1000000 in
theorem parts_any (w : World) (a1 : Option Addr) (c1 : Nat) (xs : List UInt8) (a2 : Option Addr) (c2 : Nat) (ys : List UInt8) (k : Int) (h1 : IsB w (.slice a1 xs.length c1) xs) (h2 : IsB w (.slice a2 ys.length c2) ys) :
    Calls Try.prog 3 #[.slice a1 xs.length c1, .slice a2 ys.length c2, .int .i64 k] w fun e w' => e = .returned (.bool true) ∧ Kept (fun _ => False) w w' := by
  go_enter Try.func3, Try.ntmps3
  go_wp2_with fail
  refine (wakes02_any w).mono ?_
  rintro e w1 ⟨rfl, hk1⟩
  obtain ⟨m1, hm1, hm1x, hm1y⟩ : ∃ m1 : Nat, (if (500 : Int) < (xs.length : Int) then (500 : Int) else (xs.length : Int)) = (m1 : Int) ∧ m1 ≤ xs.length ∧ m1 ≤ 500 := ⟨min xs.length 500, by split <;> omega, by omega, by omega⟩
  obtain ⟨m2, hm2, hm2x, hm2y⟩ : ∃ m2 : Nat, (if (1000 : Int) < (ys.length : Int) then (1000 : Int) else (ys.length : Int)) = (m2 : Int) ∧ m2 ≤ ys.length ∧ m2 ≤ 1000 := ⟨min ys.length 1000, by split <;> omega, by omega, by omega⟩
  have h1' := (h1.keptF hk1 (fun _ _ h => h))
  have h2' := (h2.keptF hk1 (fun _ _ h => h))
  obtain ⟨hs1, hr1⟩ := bytes_high h1' hm1x
  obtain ⟨hs2, hr2⟩ := bytes_high h2' hm2x
  go_wp2_with fail
  go_quiet (fail)
  have hk2 : Kept (fun _ => False) w (w1.drewN nq) := hk1.drewN nq
  have hX : IsB (w1.drewN nq) (.slice a1 m1 c1) (xs.take m1) := hr1.keptF ((Kept.refl (fun _ => False) _).drewN nq) (fun _ _ h => h)
  have hY : IsB (w1.drewN nq) (.slice a2 m2 c2) (ys.take m2) := hr2.keptF ((Kept.refl (fun _ => False) _).drewN nq) (fun _ _ h => h)
  have hXl : (xs.take m1).length = m1 := by simp [Nat.min_eq_left hm1x]
  have hYl : (ys.take m2).length = m2 := by simp [Nat.min_eq_left hm2x]
  clear hm1 hm2 h1' h2' hs1 hs2 hr1 hr2
  generalize w1.drewN nq = w2 at *
  generalize xs.take m1 = X at *
  generalize ys.take m2 = Y at *
  go_wp2_with fail
  refine (new_any w2).mono ?_
  rintro e w3 ⟨b, m, rfl, hb, hm, hd3, hk3⟩
  obtain ⟨D1, hD1, hA1, hA2, hA3, hA4, hA5, hA6⟩ : ∃ D1, DM.append ⟨[], 0, 0, false⟩ nameA X = (0, D1) ∧ D1.cut = false ∧ D1.bytes nameA = X ∧ 0 ≤ D1.writes ∧ D1.writes ≤ 1000 ∧ getA nameA D1.files = some X ∧ D1.files.length < 256 := by
    obtain ⟨h1, h2, h3, h4, h5⟩ := append_free (D := ⟨[], 0, 0, false⟩) (s := nameA) X may_a rfl (by simp) (by simp [DM.bytes, getA]; omega)
    have h6 := append_len ⟨[], 0, 0, false⟩ nameA X
    refine ⟨_, Prod.ext h1 rfl, h2, h3, ?_, ?_, h5, Nat.lt_of_le_of_lt h6 (by simp)⟩
    · rw [h4]; simp only []; split <;> omega
    · rw [h4]; simp only []; split <;> omega
  have hlt3 := hd3.lt
  have hF3 : ∀ k, diskF b m #[] k → w2.heap.size ≤ k := by
    rintro k (rfl | rfl | ⟨e, he, _⟩)
    · exact hb
    · exact hm
    · simp at he
  have hX3 := hX.keptF hk3 (fun _ _ h => h)
  have hY3 := hY.keptF hk3 (fun _ _ h => h)
  have hXs : X ≠ [] → ∀ g, (Value.slice a1 m1 c1).ownBlock = some g → g < w2.heap.size := fun hne => hX.block_lt hne
  have hYs : Y ≠ [] → ∀ g, (Value.slice a2 m2 c2).ownBlock = some g → g < w2.heap.size := fun hne => hY.block_lt hne
  go_wp2_with fail
  refine (append_eq hD1 hd3 (by decide) hX3 (fun hne g hg hf => by have h5 := hXs hne g hg; have h6 := hF3 g hf; omega) (by simp)).mono ?_
  rintro e w4 ⟨rfl, es4, clk4, ha4⟩
  have hF4 : ∀ k, diskF b m es4 k → w2.heap.size ≤ k := fun k hk => by
    rcases ha4.foot k hk with h5 | h5
    · exact hF3 k h5
    · have := hk3.size; omega
  have hX4 := hX3.keptS ha4.kept (fun hne g hg hf => by have h5 := hXs hne g hg; have h6 := hF3 g hf; omega)
  have hY4 := hY3.keptS ha4.kept (fun hne g hg hf => by have h5 := hYs hne g hg; have h6 := hF3 g hf; omega)
  have hk4 : Kept (fun _ => False) w2 w4 := hk3.more ha4.kept hF3
  go_wp2_with fail
  refine (writes_any ha4.disk).mono ?_
  rintro e w4' ⟨rfl, rfl⟩
  go_wp2_with fail
  refine (copy_any ha4.disk).mono ?_
  rintro e w5 ⟨b', m', es', clk', files', rfl, hn5, hsame⟩
  have hd5 : DiskAt w5 b m es4 clk4 D1 := ha4.disk.kept hn5.kept (fun _ _ h => h)
  have hX5 := hX4.keptF hn5.kept (fun _ _ h => h)
  have hY5 := hY4.keptF hn5.kept (fun _ _ h => h)
  have hk5 := hk4.more hn5.kept (fun _ h => h.elim)
  have hcnt := hd5.ok.count
  obtain ⟨P, hP, hPx⟩ : ∃ P : Nat, ((m2 : Int) + 32 - 1) / 32 = (P : Int) ∧ P = (m2 + 31) / 32 := ⟨(m2 + 31) / 32, by omega, rfl⟩
  obtain ⟨D2, hD2, hB1, hB2, hB3⟩ : ∃ D2, D1.append nameA Y = (0, D2) ∧ D2.bytes nameA = X ++ Y ∧ D2.writes = D1.writes + (P : Int) ∧ getA nameA D2.files = some (X ++ Y) := by
    obtain ⟨h1, h2, h3, h4, h5⟩ := append_free (D := D1) (s := nameA) Y may_a hA1 hA6 (by rw [hA2]; omega)
    refine ⟨_, Prod.ext h1 rfl, ?_, ?_, ?_⟩
    · rw [h3, hA2]
    · rw [h4, if_neg (fun e => by rw [hA5] at e; cases e.2), hYl, hPx]
    · rw [h5, hA2]
  go_wp2_with fail
  refine (append_eq hD2 hd5 (by decide) hY5 (fun hne g hg hf => by have h5 := hYs hne g hg; have h6 := hF4 g hf; omega) (by omega)).mono ?_
  rintro e w6 ⟨rfl, es6, clk6, ha6⟩
  have hX6 := hX5.keptS ha6.kept (fun hne g hg hf => by have h5 := hXs hne g hg; have h6 := hF4 g hf; omega)
  have hY6 := hY5.keptS ha6.kept (fun hne g hg hf => by have h5 := hYs hne g hg; have h6 := hF4 g hf; omega)
  have hk6 := hk5.more ha6.kept hF4
  have hc6 : DiskAt w6 b' m' es' clk' ⟨files', 0, 0, false⟩ := hn5.disk.kept ha6.kept (fun k hk hf => by
    have h5 := hn5.new k hk
    have h6 := ha4.disk.lt k hf
    omega)
  go_wp2_with fail
  refine (read_any ha6.disk nameA).mono ?_
  rintro e w7 ⟨v7, rfl, hf7, -⟩
  rw [hB1] at hf7
  rw [hB3]
  obtain ⟨va, vc, rfl, -, -⟩ := hf7.own.form
  have hX7 := hX6.keptF hf7.kept (fun _ _ h => h)
  have hY7 := hY6.keptF hf7.kept (fun _ _ h => h)
  have hd7 := ha6.disk.kept hf7.kept (fun _ _ h => h)
  have hc7 := hc6.kept hf7.kept (fun _ _ h => h)
  have hk7 := hk6.more hf7.kept (fun _ h => h.elim)
  have hPX := Lib.hid hPx
  have hA5' := hA5
  have HA5 := Lib.hid hA5'
  clear hPx hB3 hA6 hA1 hA5 hA5' hlt3 hD1 hD2
  have hk8 : Kept (fun _ => False) w7 (w7.alloc (.cells #[] 5)) := (Kept.refl _ _).alloc _
  obtain ⟨v8, w8, hr8, hO8, hg8, hb8, -⟩ := run_append_bytes _ _ _ [] X (empty_new w7) (hX7.keptF hk8 (fun _ _ h => h)) (by simp; omega)
  have hK8 : Kept (fun _ => False) w7 w8 := hk8.more (Kept.grown (F := fun k => w7.heap.size ≤ k) (Kept.refl _ _) hg8 (fun k hk _ => by simp [Value.ownBlock] at hk; omega)) (fun _ h => h)
  obtain ⟨v9, w9, hr9, hO9, hg9, hb9, -⟩ := run_append_bytes w8 v8 _ X Y hO8 (hY7.keptF hK8 (fun _ _ h => h)) (by omega)
  have hb8' : ∀ g, v8.ownBlock = some g → w7.heap.size ≤ g := fun g hg => by
    rcases hb8 g hg with h5 | ⟨h5, _⟩
    · simp [Value.ownBlock] at h5; omega
    · rw [h5]; simp
  have hK9 : Kept (fun _ => False) w7 w9 := hK8.more (Kept.grown (F := fun k => w7.heap.size ≤ k) (Kept.refl _ _) hg9 (fun k hk _ => hb8' k hk)) (fun _ h => h)
  have hv9 : IsB w9 (.slice va (X ++ Y).length vc) (X ++ Y) := hf7.own.isB.keptF hK9 (fun _ _ h => h)
  go_wp2_with (first
    | (go_at_call 14; refine (writes_any hd7).mono ?_; rintro e w7' ⟨rfl, rfl⟩)
    | (at_builtin; refine wpList_append_run_g rfl (.tmp 58) (.tmp 59) #[22, 22] rfl _ _ _ _ rfl rfl hr8 ?_)
    | (at_builtin; refine wpList_append_run_g rfl (.tmp 60) (.tmp 61) #[22, 22] rfl _ _ _ _ rfl rfl hr9 ?_))
  refine (equal_any w9 _ v9 (X ++ Y) (X ++ Y) (by rw [List.length_append, hXl, hYl] at hv9; exact hv9) hO9.isB).mono ?_
  rintro e w9' ⟨rfl, rfl⟩
  have hc9 := hc7.kept hK9 (fun _ _ h => h)
  have hk9 := hk7.more hK9 (fun _ h => h.elim)
  have hX9 := hX7.keptF hK9 (fun _ _ h => h)
  have hY9 := hY7.keptF hK9 (fun _ _ h => h)
  have hdt : decide (X ++ Y = X ++ Y) = true := decide_eq_true rfl
  clear hr8 hr9 hO8 hg8 hb8 hk8
  by_cases hP0 : P = 0
  · subst hP0
    go_wp2_with (go_at_call 11; refine (wakes02_any _).mono ?_; rintro e w10 ⟨rfl, hk10⟩)
    go_ret
    exact ⟨rfl, (hk2.more hk9 (fun _ h => h.elim)).more hk10 (fun _ h => h.elim)⟩
  · have hPle : P ≤ 32 := by have := hPX.out; omega
    obtain ⟨kk, hkk, hkP⟩ : ∃ kk : Nat, wrap64 ((IntKind.u64.wrap k).tmod (P : Int)) = (kk : Int) ∧ kk < P := by
      have h0 : 0 ≤ IntKind.u64.wrap k := by
        have : IntKind.u64.wrap k = k % 18446744073709551616 := by simp [IntKind.wrap, IntKind.signed, IntKind.bits]
        omega
      have e1 : (IntKind.u64.wrap k).tmod (P : Int) = (IntKind.u64.wrap k) % (P : Int) := Int.tmod_eq_emod_of_nonneg h0
      have h5 : 0 ≤ (IntKind.u64.wrap k) % (P : Int) := Int.emod_nonneg _ (by omega)
      have h6 : (IntKind.u64.wrap k) % (P : Int) < (P : Int) := Int.emod_lt_of_pos _ (by omega)
      refine ⟨((IntKind.u64.wrap k) % (P : Int)).toNat, ?_, by omega⟩
      rw [e1]
      unfold wrap64
      omega
    have hYne : Y ≠ [] := by intro e; rw [e] at hYl; have := hPX.out; simp at hYl; omega
    obtain ⟨D3, hD3, hE1⟩ : ∃ D3, DM.append (DM.cutAt ⟨files', 0, 0, false⟩ kk) nameA Y = (6, D3) ∧ D3.bytes nameA = X ++ Y.take (32 * kk) := by
      have hg : getA nameA files' = some X := (hsame.files nameA).trans HA5.out
      obtain ⟨h5, h6⟩ := append_cut (D := DM.cutAt ⟨files', 0, 0, false⟩ kk) (s := nameA) Y X (k := kk) may_a rfl rfl hg (by have := hPX.out; omega) (by omega)
      exact ⟨_, Prod.ext h5 rfl, h6⟩
    have hnewF : ∀ k, diskF b' m' es' k → w2.heap.size ≤ k := fun k hk => by have := hn5.new k hk; have := hk4.size; omega
    go_wp2_with fail
    refine (cut_any hc9 kk (by omega) (by omega)).mono ?_
    rintro e w10 ⟨rfl, hd10, hk10⟩
    have hY10 := hY9.keptS hk10 (fun hne g hg hf => by have h5 := hYs hne g hg; have h6 := hnewF g (.inl hf); omega)
    have hK10 := hk9.more hk10 (fun g hg => hnewF g (.inl hg))
    have hv10 := hv9.keptF hk10 (fun g hg hf => by
      have h5 := hf7.new g ((ob_same _ _ _ _ _).trans hg)
      have h6 := hc7.lt g (.inl hf)
      have h7 := hc6.lt g (.inl hf)
      omega)
    go_wp2_with fail
    refine (append_eq hD3 hd10 (by decide) hY10 (fun hne g hg hf => by have h5 := hYs hne g hg; have h6 := hnewF g hf; omega) (by simp [DM.cutAt])).mono ?_
    rintro e w11 ⟨rfl, es11, clk11, ha11⟩
    have hK11 := hK10.more ha11.kept hnewF
    have hv11 := hv10.keptF ha11.kept (fun g hg hf => by
      have h5 := hf7.new g ((ob_same _ _ _ _ _).trans hg)
      have h7 := hc6.lt g hf
      omega)
    go_wp2_with fail
    refine (read_any ha11.disk nameA).mono ?_
    rintro e w12 ⟨v12, rfl, hf12, -⟩
    rw [hE1] at hf12
    have hK12 := hK11.more hf12.kept (fun _ h => h.elim)
    have hv12 := hv11.keptF hf12.kept (fun _ _ h => h)
    have hvc : m1 + kk * 32 ≤ vc := by
      obtain ⟨_, _, e5, h5, _⟩ := hv12
      cases e5
      rw [List.length_append, hXl, hYl] at h5
      have := hPX.out; omega
    obtain ⟨hsl, hr12⟩ := bytes_high hv12 (k := m1 + kk * 32) (by rw [List.length_append, hXl, hYl]; have := hPX.out; omega)
    rw [List.length_append, hXl, hYl] at hsl
    have hXY : (X ++ Y).take (m1 + kk * 32) = X ++ Y.take (32 * kk) := by
      rw [List.take_append, List.take_of_length_le (by omega), hXl, show m1 + kk * 32 - m1 = 32 * kk from by omega]
    rw [hXY] at hr12
    have hdt2 : decide (X ++ Y.take (32 * kk) = X ++ Y.take (32 * kk)) = true := decide_eq_true rfl
    go_wp2_with fail
    all_goals
      refine (equal_any w12 v12 _ _ _ hf12.own.isB hr12).mono ?_
      rintro e w13 ⟨rfl, rfl⟩
      go_wp2_with (go_at_call 11; refine (wakes02_any _).mono ?_; rintro e w14 ⟨rfl, hk14⟩)
      go_ret
      exact ⟨rfl, (hk2.more hK12 (fun _ h => h.elim)).more hk14 (fun _ h => h.elim)⟩
end Go.Proofs.Ytinmjgaaehdicaa
