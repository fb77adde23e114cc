/- slices.insertionSortCmpFunc at pairs. -/
import Derived.Test.YtemilbemdlpkaaaGreatDoorPaz
namespace Go.Proofs.YtemilbemdlpkaaaGreatDoor
open Go.RowKit

theorem getElem_mid {P X Q : List (Nat × Nat)} {x : Nat × Nat} {l : List (Nat × Nat)} (h : P ++ (X ++ (x :: Q)) = l) (hk : P.length + X.length < l.length) : l[P.length + X.length] = x := by
  have : l[P.length + X.length]? = some x := by rw [← h, ← List.append_assoc, List.getElem?_append_right (by simp), show P.length + X.length - (P ++ X).length = 0 from by simp]; rfl
  rw [List.getElem?_eq_getElem hk] at this
  exact Option.some.inj this
theorem StP.app {X Y C D : List (Nat × Nat)} (h : StP (Y ++ D) C) (hy : StP X Y) : StP (X ++ D) C :=
  h.of_perm_keep (fun k => by rw [List.filter_append, List.filter_append, hy.keep]) (by rw [List.length_append, List.length_append, hy.len])

theorem ins_step {A C : List (Nat × Nat)} {k t : Nat} {x : Nat × Nat} (hC : StP (A.take k) C) (hA : A.take (k + 1) = A.take k ++ [x]) (h1 : ∀ p ∈ C.take t, p.1 ≤ x.1) (h2 : ∀ p ∈ C.drop t, x.1 < p.1) : StP (A.take (k + 1)) (C.take t ++ x :: C.drop t) := by
  rw [hA]
  refine StP.app ?_ hC
  have := StP.one_right (x := x) (A1 := C.take t) (A2 := C.drop t) (by rw [List.take_append_drop]; exact hC.sorted) h1 h2
  rwa [List.take_append_drop] at this

set_option maxRecDepth 100000 in
set_option maxHeartbeats 1500000 in
theorem insertion_any (bb : Nat) (w : World) (g c N : Nat) (P A Q : List (Nat × Nat)) (a b : Nat) (h : OwnP bb w (.slice (some ⟨g, 0, none⟩) N c) (P ++ (A ++ Q))) (hN : (P ++ (A ++ Q)).length = N) (hlen : N ≤ 1000000) (ha : P.length = a) (hb : a + A.length = b) :
    Calls Tryz.prog 150 #[.slice (some ⟨g, 0, none⟩) N c, .int .i64 a, .int .i64 b, .func (.func 38) #[] #[]] w fun e w' => e = .returned (.tuple #[]) ∧ (∃ C, StP A C ∧ OwnP bb w' (.slice (some ⟨g, 0, none⟩) N c) (P ++ (C ++ Q))) ∧ Kept (fun i => i = g) w w' := by
  have hbN : b ≤ N := by rw [← hb, ← ha, ← hN]; simp only [List.length_append]; omega
  have hbM : b ≤ 1000000 := by omega
  have haM : a ≤ 1000000 := by omega
  have h0 : ∃ C, StP (A.take 1) C ∧ OwnP bb w (.slice (some ⟨g, 0, none⟩) N c) (P ++ (C ++ (A.drop 1 ++ Q))) := by
    refine ⟨A.take 1, StP.refl ?_, ?_⟩
    · cases A with
      | nil => simp
      | cons x A => simp
    · rw [← List.append_assoc (A.take 1), List.take_append_drop]; exact h
  have H0 := Lib.hid h0
  have HH := Lib.hid (And.intro ha (And.intro hb hN))
  clear h ha hb hN h0
  go_enter Tryz.func150, Tryz.ntmps150
  go_wp2_with fail
  go_loopw [8] (fun iv wr => ∃ k : Nat, iv = .int .i64 ((a + k : Nat) : Int) ∧ 1 ≤ k ∧ (k = 1 ∨ a + k ≤ b) ∧ Kept (fun i => i = g) w wr ∧ Hid (∃ C, StP (A.take k) C ∧ OwnP bb wr (.slice (some ⟨g, 0, none⟩) N c) (P ++ (C ++ (A.drop k ++ Q))))) (fun iv _ => b - (intOf iv).toNat)
  case atStart => exact ⟨1, by simp, Nat.le_refl _, .inl rfl, Kept.refl _ _, Lib.hid H0.out⟩
  case round =>
    obtain ⟨k, rfl, hk1, hk2, hkr, HC⟩ := hrel
    obtain ⟨z, hz⟩ : ∃ z, a + k = z := ⟨_, rfl⟩
    rw [hz]
    by_cases hlt : z < b
    · have hltz : (z : Int) < (b : Int) := by omega
      obtain ⟨C, hC, hown⟩ := HC.out
      have hkA : k < A.length := by have := HH.out; omega
      obtain ⟨x, hx⟩ : ∃ x, A[k] = x := ⟨_, rfl⟩
      obtain ⟨D, hD⟩ : ∃ D, A.drop (k + 1) ++ Q = D := ⟨_, rfl⟩
      have hAD : A.drop k ++ Q = x :: D := by rw [List.drop_eq_getElem_cons hkA, hx, ← hD]; rfl
      have hAk : A.take (k + 1) = A.take k ++ [x] := by rw [List.take_succ_eq_append_getElem hkA, hx]
      rw [hAD] at hown
      have hCl : C.length = k := by rw [hC.len, List.length_take]; omega
      have hown0 : OwnP bb wr (.slice (some ⟨g, 0, none⟩) N c) (P ++ (C.take k ++ (x :: (C.drop k ++ D)))) := by
        rw [← hCl, List.take_length, List.drop_length]; simpa using hown
      have hNl : (P ++ (x :: (C ++ D))).length = N := by
        have := HH.out.2.2
        rw [← this]
        have h9 := congrArg List.length hAD
        simp only [List.length_append, List.length_cons, List.length_drop] at h9 ⊢
        omega
      have HD := Lib.hid (And.intro hD (And.intro hAk (And.intro hCl (And.intro hC (And.intro hNl hz)))))
      obtain ⟨xf, xt⟩ := x
      clear hx hD hAD hAk hC hown HC hkA hCl hNl hz hk2
      go_wp2_with fail
      have hzM : z ≤ 1000000 := by omega
      go_loopw [9] (fun jv wr2 => ∃ t : Nat, jv = .int .i64 ((a + t : Nat) : Int) ∧ t ≤ k ∧ Kept (fun i => i = g) w wr2 ∧ Hid (OwnP bb wr2 (.slice (some ⟨g, 0, none⟩) N c) (P ++ (C.take t ++ ((xf, xt) :: (C.drop t ++ D)))) ∧ ∀ p ∈ C.drop t, xf < p.1)) (fun jv _ => (intOf jv).toNat)
      case atStart => exact ⟨k, by rw [HD.out.2.2.2.2.2], Nat.le_refl _, hkr, Lib.hid ⟨hown0, fun p hp => by rw [← HD.out.2.2.1, List.drop_length] at hp; simp at hp⟩⟩
      case round =>
        obtain ⟨t, rfl, htk, hkr2, HO⟩ := hrel
        clear hown0
        by_cases ht0 : t = 0
        · subst ht0
          have hjaz : decide (((a + 0 : Nat) : Int) > (a : Int)) = false := decide_eq_false (by omega)
          have hjaz2 : decide ((a : Int) < (a : Int)) = false := decide_eq_false (by omega)
          have hjaz3 : ¬ (a : Int) < ((a + 0 : Nat) : Int) := by omega
          have hown2 := HO.out.1.kept (F := fun _ => False) ((Kept.refl _ _).drew) (fun _ f => f.elim)
          have HO2 := Lib.hid (And.intro hown2 HO.out.2)
          clear hown2
          go_wp2_with fail
          have hmx : Tryz.prog.follows .mixedOrders = true := by kernel_rfl
          go_big_region_o
          all_goals go_wp2
          go_roundw
          case rel =>
            obtain ⟨hD, hAk, hCl, hC, hNl, hz⟩ := HD.out
            obtain ⟨ho, hg⟩ := HO2.out
            refine ⟨k + 1, by congr 1; omega, by omega, .inr (by omega), hkr2.drew, Lib.hid ⟨_, ins_step (t := 0) hC hAk (fun p hp => by simp at hp) hg, ?_⟩⟩
            rw [hD]
            simpa using ho
          case measure => have := HD.out; simp [intOf]; omega
        · obtain ⟨t, rfl⟩ : ∃ t', t = t' + 1 := ⟨t - 1, by omega⟩
          obtain ⟨hown, hgt⟩ := HO.out
          obtain ⟨-, -, hCl, -, hNl, hz⟩ := HD.out
          obtain ⟨ha1, hb1, -⟩ := HH.out
          have htC : t < C.length := by omega
          obtain ⟨l, hl⟩ : ∃ l, P ++ (C.take (t + 1) ++ ((xf, xt) :: (C.drop (t + 1) ++ D))) = l := ⟨_, rfl⟩
          have hll : l.length = N := by rw [← hl, take_len]; exact hNl
          obtain ⟨x, hx⟩ : ∃ x, a + t + 1 = x := ⟨_, rfl⟩
          obtain ⟨y, hy⟩ : ∃ y, a + t = y := ⟨_, rfl⟩
          have hxN0 : x < N := by omega
          have hlx : ∀ h : x < l.length, l[x] = (xf, xt) := fun h => by
            have h9 := getElem_mid hl (by rw [List.length_take]; omega)
            have e9 : P.length + (C.take (t + 1)).length = x := by rw [List.length_take]; omega
            simp only [e9] at h9
            exact h9
          have hly : ∀ h : y < l.length, l[y] = C[t] := fun h => by
            have hl' : P ++ (C.take t ++ (C[t] :: ((xf, xt) :: (C.drop (t + 1) ++ D)))) = l := by rw [← hl, List.take_succ_eq_append_getElem htC]; simp only [List.append_assoc, List.cons_append, List.nil_append]
            have h9 := getElem_mid hl' (by rw [List.length_take]; omega)
            have e9 : P.length + (C.take t).length = y := by rw [List.length_take]; omega
            simp only [e9] at h9
            exact h9
          rw [hl] at hown
          obtain ⟨pf, pt, qf, qt, r, hX, hY, c0, c1, c2, c3, hrn, HCMP⟩ := cmpAt hown (x := x) (y := y) (by omega) (by omega)
          rw [hlx] at hX
          obtain ⟨rfl, rfl⟩ := Prod.mk.inj hX
          rw [hly] at hY
          have hY2 : C[t]? = some (qf, qt) := by rw [List.getElem?_eq_getElem htC, hY]
          have hsm := shift_left P C D (xf, xt) t htC
          rw [hl, ha1, hx, hy] at hsm
          have HS := Lib.hid (And.intro hsm (And.intro hx (And.intro hy (And.intro hl (And.intro hll (And.intro hY2 hgt))))))
          have hxi : (x : Int) - 1 = (y : Int) := by omega
          have hja : decide ((a : Int) < (x : Int)) = true := decide_eq_true (by omega)
          have hja2 : (a : Int) < (x : Int) := by omega
          have hxN : (x : Int) < (N : Int) := by omega
          have hyN : (y : Int) < (N : Int) := by omega
          have hxM : x ≤ 1000000 := by omega
          have hyM : y ≤ 1000000 := by omega
          have hwy : IntKind.i64.wrap (y : Int) = (y : Int) := IntWalk.i64_in _ (by omega)
          have hyx : y < x := by omega
          rw [show a + (t + 1) = x from by omega]
          have hxl : x < l.length := by omega
          have HOWN := Lib.hid hown
          clear hsm hx hy hl hll hY hY2 hgt hlx hly hCl hNl hz ha1 hb1 hown hxN0 htC
          by_cases hlt2 : xf < qf
          · have hrz := hrn.2 hlt2
            have hrz2 : decide (r < 0) = true := decide_eq_true hrz
            clear hrn
            go_wp2_with fail
            have hmx : Tryz.prog.follows .mixedOrders = true := by kernel_rfl
            have eg : ∀ args w, (callFunc 38 args).run Tryz.prog w = .ok (.enter 38 args) w := enters_of Tryz.func38 (by kernel_rfl) rfl
            go_quiet_grown (first | (go_at_fn 38; refine Calls.grown_of (HCMP.out _)))
            clear hmx eg
            have hown3 := HOWN.out.kept (kept_drew_grow (Kept.refl (fun _ => False) wr) nq osq) (fun _ f => f.elim)
            have hkr3 := kept_drew_grow hkr2 nq osq
            clear HOWN hkr2 c0 c1 c2 c3
            generalize Sort.grow (wr.drewN nq) osq = wz at *
            obtain ⟨⟨pf, pt⟩, hpe⟩ : ∃ p, l[x] = p := ⟨_, rfl⟩
            obtain ⟨⟨qf, qt⟩, hqe⟩ : ∃ q, l[y] = q := ⟨_, rfl⟩
            have hsw := swapL_of (l := l) (i := x) (j := y) (by omega) (by omega)
            rw [hpe, hqe] at hsw
            obtain ⟨e0, e1⟩ := (hown3).pair (k := x) (by omega)
            obtain ⟨e2, e3⟩ := (hown3).pair (k := y) (by omega)
            rw [hpe] at e0 e1
            rw [hqe] at e2 e3
            simp only at e0 e1 e2 e3
            have hput1 := (hown3).put (k := x) (by omega) (qf, qt)
            have hput2 := hput1.put (k := y) (by simp only [List.length_set]; omega) (pf, pt)
            rw [← hsw] at hput2
            have hfz := (hown3).fz
            have hkput := (putW_kept wz g x (qf, qt)).trans (putW_kept (putW wz g x (qf, qt)) g y (pf, pt)) (fun _ _ h => h)
            have n1 : ¬ x * 2 = y * 2 := by omega
            have n2 : ¬ x * 2 = y * 2 + 1 := by omega
            have n3 : ¬ x * 2 + 1 = y * 2 := by omega
            have n4 : ¬ y * 2 = x * 2 := by omega
            have n5 : ¬ y * 2 + 1 = x * 2 := by omega
            have n6 : ¬ y * 2 = x * 2 + 1 := by omega
            clear hpe hqe hsw hput1
            go_wp2_with fail
            have hmx : Tryz.prog.follows .mixedOrders = true := by kernel_rfl
            go_big_region_o
            all_goals go_wp2
            go_roundw
            case rel =>
              obtain ⟨hsm, hx, hy, hl, hll, hY2, hgt⟩ := HS.out
              obtain ⟨hD, hAk, hCl, hC, hNl, hz⟩ := HD.out
              rw [hsm] at hput2
              have htC : t < C.length := by omega
              refine ⟨t, by rw [hy], by omega, (hkr3.trans hkput (fun _ _ h => h)).drew, Lib.hid ⟨hput2.kept (F := fun _ => False) ((Kept.refl _ _).drew) (fun _ f => f.elim), fun p hp => ?_⟩⟩
              rw [List.getElem?_eq_getElem htC] at hY2
              rw [List.drop_eq_getElem_cons htC, Option.some.inj hY2] at hp
              rcases List.mem_cons.1 hp with rfl | hp
              · exact hlt2
              · exact hgt p hp
            case measure => simp [intOf]; omega
          · have hrz : ¬ r < 0 := fun h => hlt2 (hrn.1 h)
            have hrz2 : decide (r < 0) = false := decide_eq_false hrz
            have hrz3 : 0 ≤ r := by omega
            clear hrn
            go_wp2_with fail
            have hmx : Tryz.prog.follows .mixedOrders = true := by kernel_rfl
            have eg : ∀ args w, (callFunc 38 args).run Tryz.prog w = .ok (.enter 38 args) w := enters_of Tryz.func38 (by kernel_rfl) rfl
            go_quiet_grown (first | (go_at_fn 38; refine Calls.grown_of (HCMP.out _)))
            clear hmx eg
            go_wp2_with fail
            go_roundw
            case rel =>
              obtain ⟨hD, hAk, hCl, hC, hNl, hz⟩ := HD.out
              obtain ⟨hsm, hx, hy, hl, hll, hY2, hgt⟩ := HS.out
              have hown3 := HOWN.out.kept (kept_drew_grow (Kept.refl (fun _ => False) wr) nq osq) (fun _ f => f.elim)
              have htC : t < C.length := by omega
              rw [List.getElem?_eq_getElem htC] at hY2
              have hY := Option.some.inj hY2
              refine ⟨k + 1, by congr 1; omega, by omega, .inr (by omega), kept_drew_grow hkr2 _ _, Lib.hid ⟨_, ins_step (t := t + 1) hC hAk (fun p hp => ?_) hgt, ?_⟩⟩
              · obtain ⟨i, hi, rfl⟩ := List.getElem_of_mem hp
                rw [List.length_take] at hi
                rw [List.getElem_take]
                refine Nat.le_trans (sorted_le hC.sorted (show i ≤ t by omega) htC) ?_
                rw [hY]
                exact Nat.not_lt.1 hlt2
              · rw [hD]
                rw [← hl] at hown3
                simpa using hown3
            case measure => have := HD.out; simp [intOf]; omega
    · obtain ⟨C, hC, hown⟩ := HC.out
      have hkA : A.length ≤ k := by have := HH.out; omega
      rw [List.take_of_length_le hkA] at hC
      rw [List.drop_of_length_le hkA, List.nil_append] at hown
      have HE := Lib.hid (And.intro hC hown)
      have hltz : ¬ (z : Int) < (b : Int) := by omega
      clear hC hown HC hkA hk2 hz
      go_wp2
      go_end0
      exact ⟨rfl, ⟨C, HE.out.1, HE.out.2⟩, hkr⟩
end Go.Proofs.YtemilbemdlpkaaaGreatDoor
