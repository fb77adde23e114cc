/- slices.CompactFunc at pairs. -/
import Derived.Lib.SliceRun
import Derived.Test.YtemilbemdlpkaaaGreatDoorPbb
import Derived.Test.YtemilbemdlpkaaaGreatDoorPav
namespace Go.Proofs.YtemilbemdlpkaaaGreatDoor
open Go.RowKit

theorem zeroCells_two (n : Nat) : (Builtin.zeroCells #[Value.int .u64 0, .int .u64 0] n).toList = List.replicate (2 * n) (.int .u64 0) := by
  apply List.ext_getElem
  · simp [Builtin.zeroCells]; omega
  · intro i h1 h2
    rcases Nat.mod_two_eq_zero_or_one i with h | h <;> simp [Builtin.zeroCells, h]
theorem run_clear_pairs {P : Program} (w : World) (t e ty : TypeId) (ht : P.underlying t = some (.slice e)) (hv : ∀ w, (zeroValue e).run P w = .ok (.agg #[.int .u64 0, .int .u64 0]) w) (b o n c : Nat) (hn : 0 < n)
    (hc : ∀ j, j < 2 * n → (w.cell? ⟨b, o + j, none⟩).isSome = true) (hf : ∀ j, j < 2 * n → w.frozen? ⟨b, o + j, none⟩ = false) :
    (Builtin.clear_ #[t] ty #[.slice (some ⟨b, o, none⟩) n c]).run P w = .ok (.tuple #[]) (w.setCells b o (List.replicate (2 * n) (.int .u64 0))) := by
  have hst := run_storeCells_cells (P := P) b o (List.replicate (2 * n) (.int .u64 0)) 0 w (by simpa using hc) (by simpa using hf) (by intro v hv'; rw [List.eq_of_mem_replicate hv']; rfl)
  simp only [Nat.add_zero] at hst
  obtain ⟨m, rfl⟩ : ∃ m, n = m + 1 := ⟨n - 1, by omega⟩
  simp [Builtin.clear_, run_underlying ht, hv, Value.cells, zeroCells_two, hst]
theorem OwnP.cells {b : Nat} {w : World} {g n c : Nat} {l : List (Nat × Nat)} (h : OwnP b w (.slice (some ⟨g, 0, .none⟩) n c) l) (i : Nat) (hi : i < c * 2) : (w.cell? ⟨g, i, none⟩).isSome = true := by
  obtain ⟨h1, h2⟩ := h
  rcases h2 with ⟨e, h0⟩ | ⟨g', c', cur, e, hb, hg, hn, hm, hs, ht⟩
  · cases e
  · cases e
    simp [World.cell?, hg, hs, hi]

set_option maxRecDepth 100000 in
set_option maxHeartbeats 1500000 in
theorem compact_any (bb : Nat) (w : World) (g c N : Nat) (X : List (Nat × Nat)) (h : OwnP bb w (.slice (some ⟨g, 0, none⟩) N c) X) (hN : X.length = N) (hlen : N ≤ 1000000) (hNc : N ≤ c) (hc : c ≤ maxLen) :
    Calls Tryz.prog 130 #[.slice (some ⟨g, 0, none⟩) N c, .func (.func 131) #[] #[]] w fun e w' => (∃ v, e = .returned v ∧ OwnP bb w' v (compactP X)) ∧ Kept (fun i => i = g) w w' := by
  have HN := Lib.hid hN
  clear hN
  go_enter Tryz.func130, Tryz.ntmps130
  by_cases hN2 : N < 2
  · have hX : compactP X = X := by
      have := HN.out
      match X, this with
      | [], _ => rfl
      | [x], _ => rfl
      | x :: y :: l, h => simp at h; omega
    rw [hX]
    clear hX
    go_wp2
    go_ret
    exact ⟨⟨_, rfl, h⟩, Kept.refl _ _⟩
  · have hN3 : ¬ (N : Int) < 2 := by omega
    go_wp2_with fail
    go_loopw [5] (fun kv wr => ∃ k : Nat, kv = .int .i64 k ∧ 1 ≤ k ∧ k ≤ N ∧ Kept (fun _ => False) w wr ∧ Hid (compactP (X.take k) = X.take k)) (fun kv _ => N - (intOf kv).toNat)
    case atStart => exact ⟨1, rfl, Nat.le_refl _, by omega, Kept.refl _ _, Lib.hid (by
      have := HN.out
      match X, this with
      | [], h => simp at h; omega
      | x :: l, _ => rfl)⟩
    case round =>
      obtain ⟨k, rfl, hk1, hkN, hkr, HC⟩ := hrel
      have hown := h.kept hkr (fun _ f => f.elim)
      by_cases hlt : k < N
      · obtain ⟨y, hy⟩ : ∃ y, k - 1 = y := ⟨_, rfl⟩
        have hyi : (k : Int) - 1 = (y : Int) := by omega
        obtain ⟨pf, pt, qf, qt, r, hX, hY, c0, c1, c2, c3, hr, HE⟩ := eqAt hown (x := k) (y := y) (by have := HN.out; omega) (by have := HN.out; omega)
        have hkI : (k : Int) < (N : Int) := by omega
        have hyI : (y : Int) < (N : Int) := by omega
        have hkM : k ≤ 1000000 := by omega
        have hwy : IntKind.i64.wrap (y : Int) = (y : Int) := IntWalk.i64_in _ (by omega)
        have HX : Hid (compactP (X.take (k + 1)) = if r then X.take k else X.take (k + 1)) := by
          have hXl := HN.out
          obtain ⟨y', rfl⟩ : ∃ y', k = y' + 1 := ⟨k - 1, by omega⟩
          obtain rfl : y' = y := by omega
          have h1 := compactP_take (l := X) (n := y') (by omega)
          rw [hX, hY, HC.out] at h1
          refine Lib.hid (h1.trans ?_)
          subst hr
          by_cases he : pf = qf
          · simp [he]
          · rw [if_neg he, if_neg (by simpa using he), ← hX, List.take_succ_eq_append_getElem (show y' + 1 < X.length by omega)]
        clear hX hY hr hy
        cases r
        · go_wp2_with fail
          have hmx : Tryz.prog.follows .mixedOrders = true := by kernel_rfl
          have eg : ∀ args w, (callFunc 131 args).run Tryz.prog w = .ok (.enter 131 args) w := enters_of Tryz.func131 (by kernel_rfl) rfl
          go_quiet_grown (first | (go_at_fn 131; refine Calls.grown_of (HE.out _)))
          clear hmx eg
          go_wp2_with fail
          go_roundw
          case rel => exact ⟨k + 1, by go_num, by omega, by omega, kept_drew_grow hkr _ _, Lib.hid (by have := HX.out; simpa using this)⟩
          case measure => simp [intOf]; omega
        · go_wp2_with fail
          have hmx : Tryz.prog.follows .mixedOrders = true := by kernel_rfl
          have eg : ∀ args w, (callFunc 131 args).run Tryz.prog w = .ok (.enter 131 args) w := enters_of Tryz.func131 (by kernel_rfl) rfl
          go_quiet_grown (first | (go_at_fn 131; refine Calls.grown_of (HE.out _)))
          clear hmx eg
          go_wp2_with fail
          have hkr2 := (kept_drew_grow hkr nq osq).mono (G := fun i => i = g) (fun _ _ f => f.elim)
          have hown2 := h.kept (kept_drew_grow hkr nq osq) (fun _ f => f.elim)
          have H0 := Lib.hid (And.intro hkr2 hown2)
          clear hkr2 hown2 hown c0 c1 c2 c3 hkr HC HE
          generalize Sort.grow (wr.drewN nq) osq = wz at *
          obtain ⟨M, hM⟩ : ∃ M, N - k = M := ⟨_, rfl⟩
          obtain ⟨cM, hcM⟩ : ∃ cM, c - k = cM := ⟨_, rfl⟩
          rw [hM, hcM]
          have hMb : M ≤ 1000000 ∧ cM ≤ maxLen ∧ k + M = N ∧ M ≤ cM := by omega
          have hM1 : M ≤ 1000000 := hMb.1
          clear hM hcM
          go_loopw [5, 7] (fun kv tv wr => ∃ kk t : Nat, kv = .int .i64 kk ∧ tv = .int .i64 t ∧ 1 ≤ t ∧ t ≤ M ∧ k ≤ kk ∧ kk + 1 ≤ k + t ∧ Kept (fun i => i = g) w wr ∧ Hid (∃ Y, OwnP bb wr (.slice (some ⟨g, 0, none⟩) N c) Y ∧ Y.length = N ∧ Y.take kk = compactP (X.take (k + t)) ∧ ∀ i, k + t ≤ i + 1 → Y[i]? = X[i]?)) (fun _ tv _ => M - (intOf tv).toNat)
          case atStart => exact ⟨k, 1, rfl, rfl, Nat.le_refl _, by omega, Nat.le_refl _, Nat.le_refl _, H0.out.1, Lib.hid ⟨X, H0.out.2, HN.out, by have := HX.out; simpa using this.symm, fun _ _ => rfl⟩⟩
          case round =>
            obtain ⟨kk, t, rfl, rfl, ht1, htM, hkk, hkt, hkr, HY⟩ := hrel
            by_cases hlt2 : t < M
            · obtain ⟨Y, hown, hYl, hYt, hYs⟩ := HY.out
              obtain ⟨z, hz⟩ : ∃ z, t - 1 = z := ⟨_, rfl⟩
              have hzi : (t : Int) - 1 = (z : Int) := by omega
              obtain ⟨pf2, pt2, qf2, qt2, r, hX, hY, c0, c1, c2, c3, hr, HE⟩ := eqAt hown (x := k + t) (y := k + z) (by omega) (by omega)
              have htI : (t : Int) < (M : Int) := by omega
              have hzI : (z : Int) < (M : Int) := by omega
              have htM2 : t ≤ 1000000 := by omega
              have hwz : IntKind.i64.wrap (z : Int) = (z : Int) := IntWalk.i64_in _ (by omega)
              have HX2 : Hid (compactP (X.take (k + t + 1)) = (if r then Y.take kk else Y.take kk ++ [(pf2, pt2)])) := by
                have hXl := HN.out
                obtain ⟨t', rfl⟩ : ∃ t', t = t' + 1 := ⟨t - 1, by omega⟩
                obtain rfl : t' = z := by omega
                have h1 := compactP_take (l := X) (n := k + t') (by omega)
                have h2 : X[k + t' + 1]'(by omega) = (pf2, pt2) := by
                  have := hYs (k + t' + 1) (by omega)
                  rw [List.getElem?_eq_getElem (by omega), List.getElem?_eq_getElem (by omega)] at this
                  rw [← Option.some.inj this]; exact hX
                have h3 : X[k + t']'(by omega) = (qf2, qt2) := by
                  have := hYs (k + t') (by omega)
                  rw [List.getElem?_eq_getElem (by omega), List.getElem?_eq_getElem (by omega)] at this
                  rw [← Option.some.inj this]; exact hY
                rw [h2, h3] at h1
                refine Lib.hid (h1.trans ?_)
                rw [hYt]
                subst hr
                by_cases he : pf2 = qf2 <;> simp [he]
                all_goals rfl
              rw [Nat.add_mul] at c0 c1 c2 c3
              have hX2 : Y[k + t]? = some (pf2, pt2) := by rw [List.getElem?_eq_getElem (by omega), hX]
              have HP := Lib.hid (And.intro hX2 (And.intro hYl (And.intro hYt (And.intro hYs hown))))
              clear hX hX2 hY hr hz hYt hYs HY
              have hkkI : (kk : Int) < (N : Int) := by omega
              have hkkM : kk ≤ 1000000 := by omega
              have hYl2 : kk < Y.length := by omega
              clear hYl hown
              cases r
              · go_wp2_with fail
                have hmx : Tryz.prog.follows .mixedOrders = true := by kernel_rfl
                have eg : ∀ args w, (callFunc 131 args).run Tryz.prog w = .ok (.enter 131 args) w := enters_of Tryz.func131 (by kernel_rfl) rfl
                go_quiet_grown (first | (go_at_fn 131; refine Calls.grown_of (HE.out _)))
                clear hmx eg
                have hown := HP.out.2.2.2.2.kept (kept_drew_grow (Kept.refl (fun _ => False) wr) nq osq) (fun _ f => f.elim)
                have hkr3 := kept_drew_grow hkr nq osq
                have d0 := c0 nq osq
                have d1 := c1 nq osq
                clear hkr c0 c1 c2 c3
                generalize Sort.grow (wr.drewN nq) osq = wz at *
                have hput := hown.put (k := kk) hYl2 (pf2, pt2)
                have hfz := hown.fz
                have hkput := putW_kept wz g kk (pf2, pt2)
                have HPUT := Lib.hid hput
                obtain ⟨e0, e1⟩ := hown.pair hYl2
                obtain ⟨old, hold⟩ : ∃ o, Y[kk] = o := ⟨_, rfl⟩
                rw [hold] at e0 e1
                clear hput hown hold
                go_wp2_with fail
                go_roundw
                case rel =>
                  obtain ⟨hX, hYl, hYt, hYs, -⟩ := HP.out
                  refine ⟨kk + 1, t + 1, by go_num, by go_num, by omega, by omega, by omega, by omega, hkr3.trans hkput (fun _ _ h => h), Lib.hid ⟨_, HPUT.out, by rw [List.length_set]; exact hYl, ?_, fun i hi => ?_⟩⟩
                  · have h9 := HX2.out
                    rw [show k + (t + 1) = k + t + 1 from by omega, h9, List.take_succ_eq_append_getElem (by rw [List.length_set]; omega), List.take_set_of_le (Nat.le_refl _), List.getElem_set_self]
                    simp
                  · rw [List.getElem?_set_ne (by omega)]
                    exact hYs i (by omega)
                case measure => simp [intOf]; omega
              · go_wp2_with fail
                have hmx : Tryz.prog.follows .mixedOrders = true := by kernel_rfl
                have eg : ∀ args w, (callFunc 131 args).run Tryz.prog w = .ok (.enter 131 args) w := enters_of Tryz.func131 (by kernel_rfl) rfl
                go_quiet_grown (first | (go_at_fn 131; refine Calls.grown_of (HE.out _)))
                clear hmx eg
                go_wp2_with fail
                go_roundw
                case rel =>
                  obtain ⟨hX, hYl, hYt, hYs, hown⟩ := HP.out
                  refine ⟨kk, t + 1, rfl, by go_num, by omega, by omega, by omega, by omega, kept_drew_grow hkr _ _, Lib.hid ⟨Y, hown.kept (kept_drew_grow (Kept.refl (fun _ => False) wr) nq osq) (fun _ f => f.elim), hYl, ?_, fun i hi => hYs i (by omega)⟩⟩
                  have h9 := HX2.out
                  rw [show k + (t + 1) = k + t + 1 from by omega, h9]
                  simp
                case measure => simp [intOf]; omega
            · obtain rfl : t = M := by omega
              have HE2 : Hid (∃ D, OwnP bb wr (.slice (some ⟨g, 0, none⟩) N c) D ∧ D.length = N ∧ D.take kk = compactP X) := Lib.hid (by
                obtain ⟨Y, h1, h2, h3, -⟩ := HY.out
                exact ⟨Y, h1, h2, by rw [h3, hMb.2.2.1, List.take_of_length_le (Nat.le_of_eq HN.out)]⟩)
              have hcl : ∀ ty, (Builtin.clear_ #[22] ty #[.slice (some ⟨g, kk * 2, none⟩) (N - kk) (c - kk)]).run Tryz.prog wr = .ok (.tuple #[]) (wr.setCells g (kk * 2) (List.replicate (2 * (N - kk)) (.int .u64 0))) := fun ty => by
                obtain ⟨D, hD, -⟩ := HE2.out
                exact run_clear_pairs wr _ 68 ty Tryz.underlying22 (fun _ => by kernel_rfl) g (kk * 2) _ _ (by omega) (fun j hj => hD.cells _ (by omega)) (fun j _ => hD.fz _)
              have HE3 : Hid (OwnP bb (wr.setCells g (kk * 2) (List.replicate (2 * (N - kk)) (.int .u64 0))) (.slice (some ⟨g, 0, none⟩) kk c) (compactP X) ∧ Kept (fun i => i = g) wr (wr.setCells g (kk * 2) (List.replicate (2 * (N - kk)) (.int .u64 0)))) := Lib.hid (by
                obtain ⟨D, hD, hDl, hDt⟩ := HE2.out
                have h1 := hD.cut (k := kk) (by omega)
                rw [hDt] at h1
                exact OwnP.aboves _ _ _ h1 (by rw [← hDt, List.length_take]; omega))
              generalize wr.setCells g (kk * 2) (List.replicate (2 * (N - kk)) (.int .u64 0)) = wz2 at hcl HE3
              go_wp2_with fail
              go_ret
              exact ⟨⟨_, rfl, HE3.out.1⟩, hkr.trans HE3.out.2 (fun _ _ h => h)⟩
      · obtain rfl : k = N := by omega
        have hX : compactP X = X := by
          have := HC.out
          rwa [List.take_of_length_le (by have := HN.out; omega)] at this
        have HX := Lib.hid hX
        clear hX HC
        go_wp2
        go_ret
        exact ⟨⟨_, rfl, by rw [HX.out]; exact hown⟩, hkr.mono (fun _ _ f => f.elim)⟩
end Go.Proofs.YtemilbemdlpkaaaGreatDoor

/- run: the plain law of its bytes. -/
namespace Go.Proofs.YtemilbemdlpkaaaGreatDoor

theorem mul_odd (a b : Nat) (ha : a < 18446744073709551616) (hb : b < 18446744073709551616) (h : a * 1099511628211 % 18446744073709551616 = b * 1099511628211 % 18446744073709551616) : a = b := by
  have h2 : (a * 1099511628211 % 18446744073709551616) * 14886173955864302971 % 18446744073709551616 = (b * 1099511628211 % 18446744073709551616) * 14886173955864302971 % 18446744073709551616 := by rw [h]
  have e : ∀ c : Nat, (c * 1099511628211 % 18446744073709551616) * 14886173955864302971 % 18446744073709551616 = c % 18446744073709551616 := by
    intro c
    rw [Nat.mul_mod, Nat.mod_mod, ← Nat.mul_mod, Nat.mul_assoc, Nat.mul_mod, show 1099511628211 * 14886173955864302971 % 18446744073709551616 = 1 from by decide, Nat.mul_one, Nat.mod_mod]
  rw [e, e, Nat.mod_eq_of_lt ha, Nat.mod_eq_of_lt hb] at h2
  exact h2

theorem xor_lt64 (h : Nat) (x : UInt8) (hh : h < 18446744073709551616) : h ^^^ x.toNat < 18446744073709551616 :=
  Nat.xor_lt_two_pow (n := 64) (by omega) (by have := x.toNat_lt; omega)

theorem xor_cancel {a b c : Nat} (h : a ^^^ c = b ^^^ c) : a = b := by
  have := congrArg (· ^^^ c) h
  simpa [Nat.xor_assoc] using this

theorem hashStep_inj {h h' : Nat} (x : UInt8) (hh : h < 18446744073709551616) (hh' : h' < 18446744073709551616) (e : hashStep h x = hashStep h' x) : h = h' :=
  xor_cancel (mul_odd _ _ (xor_lt64 h x hh) (xor_lt64 h' x hh') e)
theorem hashStep_byte {h : Nat} {x y : UInt8} (hh : h < 18446744073709551616) (e : hashStep h x = hashStep h y) : x = y := by
  have h1 := mul_odd _ _ (xor_lt64 h x hh) (xor_lt64 h y hh) e
  rw [Nat.xor_comm h, Nat.xor_comm h] at h1
  exact UInt8.toNat_inj.1 (xor_cancel h1)
theorem hashFrom_inj {h h' : Nat} (l : List UInt8) (hh : h < 18446744073709551616) (hh' : h' < 18446744073709551616) (e : hashFrom h l = hashFrom h' l) : h = h' := by
  induction l generalizing h h' with
  | nil => exact e
  | cons x l ih => exact hashStep_inj x hh hh' (ih (hashStep_lt _ _) (hashStep_lt _ _) e)
/-- A byte that is turned is seen. -/
theorem hash_turned (pre post : List UInt8) (x y : UInt8) (e : hashB (pre ++ x :: post) = hashB (pre ++ y :: post)) : x = y := by
  unfold hashB hashFrom at e
  rw [List.foldl_append, List.foldl_append, List.foldl_cons, List.foldl_cons] at e
  have hp := hashFrom_lt 14695981039346656037 pre (by omega)
  exact hashStep_byte hp (hashFrom_inj post (hashStep_lt _ _) (hashStep_lt _ _) e)

theorem wordFrom_wordB (x : Nat) (hx : x < 18446744073709551616) : wordFrom 0 (wordB x) = x := by
  unfold wordB wordFrom
  rw [show List.range 8 = [0, 1, 2, 3, 4, 5, 6, 7] from rfl]
  simp only [List.map_cons, List.map_nil, List.foldl_cons, List.foldl_nil, UInt8.toNat_ofNat']
  omega

theorem word_read (x : Nat) (hx : x < 18446744073709551616) (rest : List UInt8) : (RM.mk (wordB x ++ rest) 0).word = (x, ⟨rest, 0⟩) := by
  have h8 := wordB_length x
  unfold RM.word
  rw [if_pos rfl, if_neg (by simp only [List.length_append]; omega)]
  simp only []
  rw [List.take_append_of_le_length (by omega), List.take_of_length_le (by omega), wordFrom_wordB x hx, List.drop_append_of_le_length (by omega), List.drop_eq_nil_of_le (by omega), List.nil_append]

/-- Pairs that rise, each behind a number. -/
def Rising : Nat → List (Nat × Nat) → Prop
  | _, [] => True
  | last, p :: l => last < p.1 ∧ p.1 < 18446744073709551616 ∧ p.2 < 18446744073709551616 ∧ Rising p.1 l

theorem pairsGo_read (l : List (Nat × Nat)) (rest : List UInt8) (last : Nat) (acc : List (Nat × Nat)) (h : Rising last l) : pairsGo l.length ⟨bodyB l ++ rest, 0⟩ last acc = some (acc ++ l, ⟨rest, 0⟩) := by
  induction l generalizing last acc with
  | nil => simp [pairsGo, bodyB]
  | cons p l ih =>
    obtain ⟨h1, h2, h3, h4⟩ := h
    have hb : bodyB (p :: l) ++ rest = wordB p.1 ++ (wordB p.2 ++ (bodyB l ++ rest)) := by unfold bodyB; simp
    show pairsGo (l.length + 1) _ _ _ = _
    unfold pairsGo
    rw [hb, word_read p.1 h2]
    simp only []
    rw [word_read p.2 h3]
    simp only []
    rw [if_neg (by omega), ih p.1 _ h4]
    simp

/-- Whatever is read: what is left behind the pairs is the rest. -/
theorem pairsGo_rest (n : Nat) (bs : List UInt8) (last : Nat) (acc : List (Nat × Nat)) (h : 16 * n ≤ bs.length) : ∀ l r, pairsGo n ⟨bs, 0⟩ last acc = some (l, r) → r = ⟨bs.drop (16 * n), 0⟩ := by
  induction n generalizing bs last acc with
  | zero => intro l r e; simp [pairsGo] at e; simp [e.2.symm]
  | succ n ih =>
    intro l r e
    unfold pairsGo at e
    have hw1 : (RM.mk bs 0).word.2 = ⟨bs.drop 8, 0⟩ := by unfold RM.word; rw [if_pos rfl, if_neg (by simp only []; omega)]
    have hw2 : (RM.mk (bs.drop 8) 0).word.2 = ⟨bs.drop 16, 0⟩ := by unfold RM.word; rw [if_pos rfl, if_neg (by simp only [List.length_drop]; omega)]; simp [List.drop_drop]
    rw [hw1, hw2] at e
    split at e
    · cases e
    · rw [ih (bs.drop 16) _ _ (by rw [List.length_drop]; omega) l r e, List.drop_drop]
      congr 2
      omega

theorem numFrom_uint (x : Nat) (rest : List UInt8) : ∀ (i acc : Nat), i ≤ 8 → x < 2 ^ (7 * (9 - i)) → (0 < i → 0 < x) → numFrom i acc (uintB x ++ rest) = (acc + x * 2 ^ (7 * i), i + (uintB x).length, 0) := by
  induction x using Nat.strongRecOn with
  | _ x ih =>
    intro i acc hi hx hpos
    by_cases h : x < 128
    · rw [uintB_small h]
      have hc : (UInt8.ofNat x).toNat = x := by rw [UInt8.toNat_ofNat']; omega
      simp only [List.cons_append, List.nil_append, List.length_cons, List.length_nil]
      unfold numFrom
      rw [hc, if_neg (by omega), if_pos h, Nat.mod_eq_of_lt h]
    · rw [uintB_big h]
      have hc : (UInt8.ofNat (x % 128 + 128)).toNat = x % 128 + 128 := by rw [UInt8.toNat_ofNat']; omega
      simp only [List.cons_append, List.length_cons]
      unfold numFrom
      rw [hc, if_neg (by omega), if_neg (by omega)]
      have hi7 : i ≤ 7 := by
        apply Classical.byContradiction
        intro hn
        obtain rfl : i = 8 := by omega
        simp at hx; omega
      have hP : 2 ^ (7 * (9 - i)) = 2 ^ (7 * (9 - (i + 1))) * 128 := by rw [show 7 * (9 - i) = 7 * (9 - (i + 1)) + 7 from by omega, Nat.pow_add]
      rw [ih (x / 128) (by omega) (i + 1) _ (by omega) (by rw [Nat.div_lt_iff_lt_mul (by omega)]; omega) (by omega)]
      have hP2 : 2 ^ (7 * (i + 1)) = 128 * 2 ^ (7 * i) := by rw [Nat.mul_add, Nat.pow_add]; omega
      have hx2 : x = x % 128 + 128 * (x / 128) := by omega
      refine Prod.ext ?_ (Prod.ext ?_ rfl)
      · simp only []
        rw [hP2, show (x % 128 + 128) % 128 = x % 128 from by omega, ← Nat.mul_assoc, Nat.add_assoc, ← Nat.add_mul, Nat.mul_comm (x / 128) 128, ← hx2]
      · simp only []; omega

theorem uint_read (x : Nat) (rest : List UInt8) (hx : x < 9223372036854775808) : (RM.mk (uintB x ++ rest) 0).uint = (x, ⟨rest, 0⟩) := by
  have h := numFrom_uint x rest 0 0 (by omega) (by simpa using hx) (by omega)
  simp only [Nat.mul_zero, Nat.pow_zero, Nat.mul_one, Nat.zero_add] at h
  unfold RM.uint numB
  rw [if_pos rfl]
  simp only []
  rw [h]
  simp only [if_true]
  rw [List.drop_append_of_le_length (Nat.le_refl _), List.drop_length, List.nil_append]

theorem pairsOf_bytesOf (l : List (Nat × Nat)) (h : Rising 0 l) (hl : l.length ≤ 65536) : pairsOf (bytesOf l) = (l, true) := by
  have hb : bytesOf l = uintB l.length ++ (bodyB l ++ wordB (hashB (bytesHead l))) := by unfold bytesOf bytesHead; simp
  have hu := uint_read l.length (bodyB l ++ wordB (hashB (bytesHead l))) (by omega)
  unfold pairsOf
  rw [hb, hu]
  simp only []
  rw [if_neg (by rw [List.length_append, bodyB_length, wordB_length]; omega), pairsGo_read l _ 0 [] h]
  unfold pairsEnd
  simp only [List.nil_append]
  have hw : (RM.mk (wordB (hashB (bytesHead l))) 0).word = (hashB (bytesHead l), ⟨[], 0⟩) := by
    have := word_read (hashB (bytesHead l)) (hashB_lt _) []
    rwa [List.append_nil] at this
  rw [hw]
  have hT : (uintB l.length ++ (bodyB l ++ wordB (hashB (bytesHead l)))).take ((uintB l.length ++ (bodyB l ++ wordB (hashB (bytesHead l)))).length - 8) = bytesHead l := by
    have e : uintB l.length ++ (bodyB l ++ wordB (hashB (bytesHead l))) = bytesHead l ++ wordB (hashB (bytesHead l)) := by unfold bytesHead; simp
    rw [e, List.length_append, wordB_length, Nat.add_sub_cancel, List.take_append_of_le_length (Nat.le_refl _), List.take_length]
  rw [hT]
  simp [RM.stop]
end Go.Proofs.YtemilbemdlpkaaaGreatDoor
