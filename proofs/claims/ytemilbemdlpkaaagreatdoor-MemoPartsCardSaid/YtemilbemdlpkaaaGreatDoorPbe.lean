/- espalierref17: Find, Put. -/
import Derived.Test.YtemilbemdlpkaaaGreatDoorPbd
namespace Go.Proofs.YtemilbemdlpkaaaGreatDoor
open Go.RowKit

/-- The place of a pair, from a place on. -/
def ixOf (x : Nat) : List (Nat × Nat) → Option Nat
  | [] => none
  | p :: l => if p.1 = x then some 0 else (ixOf x l).map (· + 1)
def ixI (x : Nat) (l : List (Nat × Nat)) : Int := match ixOf x l with | some k => k | none => -1

theorem ixOf_some {x : Nat} {l : List (Nat × Nat)} {k : Nat} (hk : k < l.length) (h : l[k].1 = x) (hb : ∀ j (hj : j < l.length), j < k → l[j].1 ≠ x) : ixOf x l = some k := by
  induction l generalizing k with
  | nil => simp at hk
  | cons p l ih =>
    unfold ixOf
    cases k with
    | zero => rw [if_pos (by simpa using h)]
    | succ k =>
      rw [if_neg (fun e => hb 0 (by simp) (by omega) (by simpa using e))]
      rw [ih (k := k) (by simpa using hk) (by simpa using h) (fun j hj hjk e => hb (j + 1) (by simp; omega) (by omega) (by simpa using e))]
      rfl
theorem ixOf_none {x : Nat} {l : List (Nat × Nat)} (hb : ∀ j (hj : j < l.length), l[j].1 ≠ x) : ixOf x l = none := by
  induction l with
  | nil => rfl
  | cons p l ih =>
    unfold ixOf
    rw [if_neg (fun e => hb 0 (by simp) (by simpa using e)), ih (fun j hj e => hb (j + 1) (by simpa using hj) (by simpa using e))]
    rfl

theorem IsP.at {w : World} {a : Option Addr} {n c : Nat} {l : List (Nat × Nat)} (h : IsP w (.slice a n c) l) {k : Nat} (hk : k < l.length) : ∃ g o, a = some ⟨g, o, none⟩ ∧ g < w.heap.size ∧ ∀ j (hj : j < l.length), w.cell? ⟨g, o + j * 2, none⟩ = some (.int .u64 l[j].1) ∧ w.cell? ⟨g, o + j * 2 + 1, none⟩ = some (.int .u64 l[j].2) := by
  obtain ⟨a', c', e, h1, h2, h3, h4⟩ := h
  cases e
  obtain ⟨g, o, rfl, hg, hc⟩ := h4.resolve_left (fun e => by rw [e] at hk; simp at hk)
  exact ⟨g, o, rfl, hg, fun j hj => ⟨hc _ _ (flatP_get l j hj).1, by rw [Nat.add_assoc]; exact hc _ _ (flatP_get l j hj).2⟩⟩

set_option maxRecDepth 100000 in
set_option maxHeartbeats 1000000 in
theorem rfind_any (w : World) (a : Option Addr) (c : Nat) (l : List (Nat × Nat)) (x : Nat) (h : IsP w (.slice a l.length c) l) (hlen : l.length ≤ 1000000) :
    Calls Tryz.prog 59 #[.slice a l.length c, .int .u64 x] w fun e w' => e = .returned (.int .i64 (ixI x l)) ∧ Kept (fun _ => False) w w' := by
  have hF : Hid (ixI x l = match ixOf x l with | some k => (k : Int) | none => -1) := Lib.hid rfl
  have hS : Hid (∀ k (hk : k < l.length), l[k].1 = x → (∀ j (hj : j < l.length), j < k → l[j].1 ≠ x) → ixOf x l = some k) := Lib.hid (fun k hk h1 h2 => ixOf_some hk h1 h2)
  have hN : Hid ((∀ j (hj : j < l.length), l[j].1 ≠ x) → ixOf x l = none) := Lib.hid ixOf_none
  generalize ixI x l = R at hF ⊢
  generalize ixOf x l = O at hF hS hN
  obtain ⟨_, _, he, hlc, hcm, -⟩ := id h
  cases he
  go_enter Tryz.func59, Tryz.ntmps59
  go_wp2_with fail
  go_loopw [5] (fun i wr => Kept (fun _ => False) w wr ∧ ∃ k : Nat, k ≤ l.length ∧ i = .int .i64 k ∧ Hid (∀ j (hj : j < l.length), j < k → l[j].1 ≠ x)) (fun i _ => l.length - (intOf i).toNat)
  case atStart => exact ⟨Kept.refl _ _, 0, Nat.zero_le _, rfl, Lib.hid (fun _ _ h => absurd h (Nat.not_lt_zero _))⟩
  case round =>
    obtain ⟨hkr, k, hk, rfl, hne⟩ := hrel
    by_cases hlt : k < l.length
    · obtain ⟨g, o, rfl, hg, hc⟩ := h.at hlt
      have hc0 := hkr.cell (hc k hlt).1 (fun f => f)
      obtain ⟨y, hy⟩ : ∃ y, l[k].1 = y := ⟨_, rfl⟩
      rw [hy] at hc0
      have HY := Lib.hid hy
      clear hy hc
      by_cases hxy : y = x
      · have hR : Hid (R = k) := Lib.hid (by rw [hF.out, hS.out k hlt (by rw [HY.out, hxy]) (fun j hj hjk => hne.out j hj hjk)])
        subst hxy
        go_wp2
        go_ret
        rw [hR.out]
        exact ⟨rfl, hkr⟩
      · have hxy2 : ((y : Int) == (x : Int)) = false := by simp; omega
        go_wp2
        go_roundw
        case rel => exact ⟨hkr, k + 1, by omega, by go_num, Lib.hid (fun j hj hjk => by
          rcases Nat.lt_or_ge j k with h | h
          · exact hne.out j hj h
          · obtain rfl : j = k := by omega
            rw [HY.out]; exact hxy)⟩
        case measure => simp [intOf]; omega
    · have hR : Hid (R = -1) := Lib.hid (by rw [hF.out, hN.out (fun j hj => hne.out j hj (by omega))])
      go_wp2
      go_ret
      rw [hR.out]
      exact ⟨rfl, hkr⟩

/-- A slice of pairs in new memory. -/
def NewP (n0 : Nat) (w : World) (v : Value) : Prop := ∀ k, v.ownBlock = some k → n0 ≤ k ∧ ∃ cur f, w.heap[k]? = some (.cells cur 68 f)
theorem NewP.nil (n0 : Nat) (w : World) (n c : Nat) : NewP n0 w (.slice none n c) := fun k e => by cases e
theorem NewP.kept {n0 : Nat} {w w' : World} {v : Value} (h : NewP n0 w v) (hk : Kept (fun _ => False) w w') : NewP n0 w' v := fun k e => by
  obtain ⟨h1, cur, f, h2⟩ := h k e
  exact ⟨h1, cur, f, (hk.block k (Array.getElem?_eq_some_iff.1 h2).1 (fun f => f)).trans h2⟩
theorem NewP.mono {n0 n1 : Nat} {w : World} {v : Value} (h : NewP n1 w v) (hn : n0 ≤ n1) : NewP n0 w v := fun k e => ⟨Nat.le_trans hn (h k e).1, (h k e).2⟩
theorem OwnP.newP {b n0 : Nat} {w : World} {v : Value} {l : List (Nat × Nat)} (h : OwnP b w v l) (hb : n0 ≤ b) : NewP n0 w v := fun k e => by
  rcases h.2 with ⟨rfl, -⟩ | ⟨g, cap, cur, rfl, hb2, hg, -⟩
  · cases e
  · cases e; exact ⟨Nat.le_trans hb hb2, cur, _, hg⟩

theorem while_at (l : List (Nat × Nat)) (x k : Nat) (hk : k ≤ l.length) (h1 : ∀ j (hj : j < l.length), j < k → l[j].1 < x) (h2 : ∀ hk : k < l.length, ¬ l[k].1 < x) : l.takeWhile (fun q => decide (q.1 < x)) = l.take k ∧ l.dropWhile (fun q => decide (q.1 < x)) = l.drop k := by
  induction l generalizing k with
  | nil => simp
  | cons p l ih =>
    cases k with
    | zero =>
      have := h2 (by simp)
      simp only [List.getElem_cons_zero] at this
      simp [this]
    | succ k =>
      have h0 := h1 0 (by simp) (by omega)
      simp only [List.getElem_cons_zero] at h0
      obtain ⟨i1, i2⟩ := ih k (by simpa using hk) (fun j hj hjk => h1 (j + 1) (by simp; omega) (by omega)) (fun hk => h2 (by simp; omega))
      simp [h0, i1, i2]


/-- Sorted pairs with one more. -/
def putR (l : List (Nat × Nat)) (p : Nat × Nat) : List (Nat × Nat) := if ixOf p.1 l = none then l.takeWhile (fun q => decide (q.1 < p.1)) ++ p :: l.dropWhile (fun q => decide (q.1 < p.1)) else l

set_option maxRecDepth 100000 in
set_option maxHeartbeats 1000000 in
theorem rput_any (w : World) (a : Option Addr) (c : Nat) (l : List (Nat × Nat)) (x t : Nat) (h : IsP w (.slice a l.length c) l) (hlen : l.length ≤ 1000000) (hx : x < 18446744073709551616) (ht : t < 18446744073709551616) :
    Calls Tryz.prog 60 #[.slice a l.length c, .agg #[.int .u64 x, .int .u64 t]] w fun e w' => ∃ v, e = .returned v ∧ IsP w' v (putR l (x, t)) ∧ Kept (fun _ => False) w w' ∧ (v = .slice a l.length c ∨ NewP w.heap.size w' v) := by
  obtain ⟨_, _, he, hlc, hcm, hbd, -⟩ := id h
  cases he
  obtain ⟨wA, hwA, hkA, hszA, hA0, hA1⟩ := pair_new w x t 68
  have hFi := rfind_any wA a c l x (h.kept hkA) hlen
  have hP : Hid (putR l (x, t) = if ixOf x l = none then l.takeWhile (fun q => decide (q.1 < x)) ++ (x, t) :: l.dropWhile (fun q => decide (q.1 < x)) else l) := Lib.hid rfl
  generalize putR l (x, t) = P at hP ⊢
  unfold ixI at hFi
  obtain ⟨O, hO⟩ : ∃ O, ixOf x l = O := ⟨_, rfl⟩
  rw [hO] at hFi hP
  clear hO
  have HFi := Lib.hid hFi
  clear hFi
  cases O with
  | some k =>
    go_enter Tryz.func60, Tryz.ntmps60
    go_wp2_with fail
    refine HFi.out.mono ?_
    rintro e w2 ⟨rfl, hk2⟩
    go_wp2
    go_ret
    rw [hP.out, if_neg (by simp)]
    exact ⟨_, rfl, (h.kept hkA).kept hk2, hkA.more hk2 (fun _ f => f.elim), .inl rfl⟩
  | none =>
    rw [if_pos rfl] at hP
    go_enter Tryz.func60, Tryz.ntmps60
    go_wp2_with fail
    refine HFi.out.mono ?_
    rintro e w2 ⟨rfl, hk2⟩
    have hp0 : w2.cell? ⟨w.heap.size, 0, none⟩ = some (.int .u64 x) := hk2.cell hA0 (fun f => f)
    have hp1 : w2.cell? ⟨w.heap.size, 1, none⟩ = some (.int .u64 t) := hk2.cell hA1 (fun f => f)
    have hkw : Kept (fun _ => False) w w2 := hkA.more hk2 (fun _ f => f.elim)
    have h2 := h.kept hkw
    clear h HFi hA0 hA1
    go_wp2_with fail
    go_loopw [5, 6] (fun ov i wr => Kept (fun _ => False) w2 wr ∧ ∃ k : Nat, k ≤ l.length ∧ i = .int .i64 k ∧ OwnP w2.heap.size wr ov (l.take k) ∧ Hid (∀ j (hj : j < l.length), j < k → l[j].1 < x)) (fun _ i _ => l.length - (intOf i).toNat)
    case atStart => exact ⟨Kept.refl _ _, 0, Nat.zero_le _, rfl, OwnP.nil _ _, Lib.hid (fun _ _ h => absurd h (Nat.not_lt_zero _))⟩
    case round =>
      obtain ⟨hkr, k, hk, rfl, hown, hne⟩ := hrel
      by_cases hlt : k < l.length
      · obtain ⟨g, o, rfl, hg, hc⟩ := h2.at hlt
        obtain ⟨⟨f, u⟩, hy⟩ : ∃ y, l[k] = y := ⟨_, rfl⟩
        have hcc := hc k hlt
        rw [hy] at hcc
        obtain ⟨hd0, hd1⟩ := hcc
        have hc0 := hkr.cell hd0 (fun f => f)
        have hc1 := hkr.cell hd1 (fun f => f)
        have hp0' := hkr.cell hp0 (fun f => f)
        have hp1' := hkr.cell hp1 (fun f => f)
        simp only at hc0 hc1 hd0 hd1
        have HY := Lib.hid hy
        clear hy hc
        by_cases hfx : f < x
        · have hfx2 : (f : Int) < (x : Int) := by omega
          go_wp2_with fail
          go_quiet (fail)
          obtain ⟨wq, hwq⟩ : ∃ wq, wr.drewN nq = wq := ⟨_, rfl⟩
          have hkq : Kept (fun _ => False) wr wq := by rw [← hwq]; exact (Kept.refl _ wr).drewN nq
          have hkr := hkr.more hkq (fun _ f => f.elim)
          have hown := hown.kept hkq (fun _ f => f.elim)
          rw [hwq]
          clear hwq
          have hc0 := hkr.cell hd0 (fun f => f)
          have hc1 := hkr.cell hd1 (fun f => f)
          obtain ⟨wA', hwA', hkA', hszA', hA0', hA1'⟩ := pair_new wq f u 68
          obtain ⟨v', w', hrun', ho', hkp'⟩ := ((hown).kept hkA' (fun _ f => f.elim)).push (by have := (hkr).size; omega) ⟨(wq).heap.size, 0, none⟩ (f, u) hA0' hA1' (by rw [List.length_take]; omega)
          have hk' := ((hkr).more hkA' (fun _ f => f.elim)).more hkp' (fun i hi => hi)
          have HO' := Lib.hid ho'
          clear ho' hkp'
          go_wp2_with (at_builtin; refine wpList_append_run rfl (.tmp 27) (.tmp 32) #[22, 22] rfl _ _ _ _ rfl rfl hrun' ?_)
          go_roundw
          case rel => exact ⟨hk', k + 1, hlt, by go_num, by rw [List.take_succ_eq_append_getElem hlt, HY.out]; exact HO'.out, Lib.hid (fun j hj hjk => by
            rcases Nat.lt_or_ge j k with h | h
            · exact hne.out j hj h
            · obtain rfl : j = k := by omega
              rw [HY.out]; exact hfx)⟩
          case measure => simp [intOf]; omega
        · have hfx2 : ¬ (f : Int) < (x : Int) := by omega
          go_wp2_with fail
          go_quiet (fail)
          obtain ⟨wq, hwq⟩ : ∃ wq, wr.drewN nq = wq := ⟨_, rfl⟩
          have hkq : Kept (fun _ => False) wr wq := by rw [← hwq]; exact (Kept.refl _ wr).drewN nq
          have hkr := hkr.more hkq (fun _ f => f.elim)
          have hown := hown.kept hkq (fun _ f => f.elim)
          rw [hwq]
          clear hwq
          have hp0' := hkr.cell hp0 (fun f => f)
          have hp1' := hkr.cell hp1 (fun f => f)
          have HW := Lib.hid (while_at l x k hk hne.out (fun _ => by rw [HY.out]; exact hfx))
          obtain ⟨wA', hwA', hkA', hszA', hA0', hA1'⟩ := pair_new wq x t 68
          obtain ⟨v', w', hrun', ho', hkp'⟩ := ((hown).kept hkA' (fun _ f => f.elim)).push (by have := (hkr).size; omega) ⟨(wq).heap.size, 0, none⟩ (x, t) hA0' hA1' (by rw [List.length_take]; omega)
          have hk' := ((hkr).more hkA' (fun _ f => f.elim)).more hkp' (fun i hi => hi)
          have HO' := Lib.hid ho'
          clear ho' hkp'
          go_wp2_with (at_builtin; refine wpList_append_run rfl (.tmp 36) (.tmp 38) #[22, 22] rfl _ _ _ _ rfl rfl hrun' ?_)
          have HO0 := HO'
          have hk0 := hk'
          clear HO' hk' hA0' hA1' hkA' hwA' hszA' hrun' hown hkr hkq
          go_loopw [5, 6] (fun ov i wr => Kept (fun _ => False) w2 wr ∧ ∃ j : Nat, k ≤ j ∧ j ≤ l.length ∧ i = .int .i64 j ∧ OwnP w2.heap.size wr ov ((l.take k ++ [(x, t)]) ++ (l.drop k).take (j - k))) (fun _ i _ => l.length - (intOf i).toNat)
          case atStart => exact ⟨hk0, k, Nat.le_refl _, hk, rfl, by rw [Nat.sub_self, List.take_zero, List.append_nil]; exact HO0.out⟩
          case round =>
            obtain ⟨hkr2, j, hkj, hj, rfl, hown2⟩ := hrel
            by_cases hlt2 : j < l.length
            · rcases Nat.lt_or_ge k l.length with hkk | hkk
              case inr => exact absurd hlt2 (by omega)
              first | exact absurd hkk hlt | skip
              all_goals
                obtain ⟨g2, o2, he2, hg2, hc⟩ := h2.at hlt2
                obtain ⟨⟨f2, u2⟩, hy⟩ : ∃ y, l[j] = y := ⟨_, rfl⟩
                have hcc := hc j hlt2
                rw [hy] at hcc
                obtain ⟨hd2, hd3⟩ := hcc
                have hc2 := hkr2.cell hd2 (fun f => f)
                have hc3 := hkr2.cell hd3 (fun f => f)
                simp only at hc2 hc3
                have hN : Hid ((l.drop k).take (j + 1 - k) = (l.drop k).take (j - k) ++ [(f2, u2)]) := Lib.hid (by
                  rw [show j + 1 - k = (j - k) + 1 from by omega, List.take_succ_eq_append_getElem (by rw [List.length_drop]; omega), List.getElem_drop]
                  simp only [show k + (j - k) = j from by omega, hy])
                clear hy hc hd2 hd3
                first | cases he2 | skip
                have hL : Hid (((l.take k ++ [(x, t)]) ++ (l.drop k).take (j - k)).length + 1 ≤ 1000000000000) := Lib.hid (by simp only [List.length_append, List.length_take, List.length_drop, List.length_singleton]; omega)
                generalize hacc : (l.take k ++ [(x, t)]) ++ (l.drop k).take (j - k) = acc at hown2 hL
                obtain ⟨wA', hwA', hkA', hszA', hA0', hA1'⟩ := pair_new wr f2 u2 68
                obtain ⟨v', w', hrun', ho', hkp'⟩ := ((hown2).kept hkA' (fun _ f => f.elim)).push (by have := (hkr2).size; omega) ⟨(wr).heap.size, 0, none⟩ (f2, u2) hA0' hA1' (by exact hL.out)
                have hk' := ((hkr2).more hkA' (fun _ f => f.elim)).more hkp' (fun i hi => hi)
                have HO' := Lib.hid ho'
                clear ho' hkp'
                go_wp2_with (at_builtin; refine wpList_append_run rfl (.tmp 44) (.tmp 49) #[22, 22] rfl _ _ _ _ rfl rfl hrun' ?_)
                go_roundw
                case rel => exact ⟨hk', j + 1, by omega, hlt2, by go_num, by rw [hN.out, ← List.append_assoc, hacc]; exact HO'.out⟩
                case measure => simp [intOf]; omega
            · have hE : Hid ((l.take k ++ [(x, t)]) ++ (l.drop k).take (j - k) = P) := Lib.hid (by
                rw [hP.out, HW.out.1, HW.out.2, List.take_of_length_le (l := l.drop k) (by rw [List.length_drop]; omega), List.append_assoc, List.singleton_append])
              rw [hE.out] at hown2
              have hPb : ∀ p ∈ P, p.1 < 18446744073709551616 ∧ p.2 < 18446744073709551616 := by
                rw [hP.out, HW.out.1, HW.out.2]
                intro p hp
                rcases List.mem_append.1 hp with hp | hp
                · exact hbd p (List.mem_of_mem_take hp)
                · rcases List.mem_cons.1 hp with rfl | hp
                  · exact ⟨hx, ht⟩
                  · exact hbd p (List.mem_of_mem_drop hp)
              have hI := hown2.isP hPb
              obtain ⟨fa, fc, rfl, -, -⟩ := hown2.form
              go_wp2
              go_ret
              exact ⟨_, rfl, hI, hkw.more hkr2 (fun _ f => f.elim), .inr (hown2.newP hkw.size)⟩
      · go_wp2_with fail
        go_quiet (fail)
        obtain ⟨wq, hwq⟩ : ∃ wq, wr.drewN nq = wq := ⟨_, rfl⟩
        have hkq : Kept (fun _ => False) wr wq := by rw [← hwq]; exact (Kept.refl _ wr).drewN nq
        have hkr := hkr.more hkq (fun _ f => f.elim)
        have hown := hown.kept hkq (fun _ f => f.elim)
        rw [hwq]
        clear hwq
        have hp0' := hkr.cell hp0 (fun f => f)
        have hp1' := hkr.cell hp1 (fun f => f)
        have HW := Lib.hid (while_at l x k hk hne.out (fun h => absurd h hlt))
        obtain ⟨wA', hwA', hkA', hszA', hA0', hA1'⟩ := pair_new wq x t 68
        obtain ⟨v', w', hrun', ho', hkp'⟩ := ((hown).kept hkA' (fun _ f => f.elim)).push (by have := (hkr).size; omega) ⟨(wq).heap.size, 0, none⟩ (x, t) hA0' hA1' (by rw [List.length_take]; omega)
        have hk' := ((hkr).more hkA' (fun _ f => f.elim)).more hkp' (fun i hi => hi)
        have HO' := Lib.hid ho'
        clear ho' hkp'
        go_wp2_with (at_builtin; refine wpList_append_run rfl (.tmp 36) (.tmp 38) #[22, 22] rfl _ _ _ _ rfl rfl hrun' ?_)
        have HO0 := HO'
        have hk0 := hk'
        clear HO' hk' hA0' hA1' hkA' hwA' hszA' hrun' hown hkr hkq
        go_loopw [5, 6] (fun ov i wr => Kept (fun _ => False) w2 wr ∧ ∃ j : Nat, k ≤ j ∧ j ≤ l.length ∧ i = .int .i64 j ∧ OwnP w2.heap.size wr ov ((l.take k ++ [(x, t)]) ++ (l.drop k).take (j - k))) (fun _ i _ => l.length - (intOf i).toNat)
        case atStart => exact ⟨hk0, k, Nat.le_refl _, hk, rfl, by rw [Nat.sub_self, List.take_zero, List.append_nil]; exact HO0.out⟩
        case round =>
          obtain ⟨hkr2, j, hkj, hj, rfl, hown2⟩ := hrel
          by_cases hlt2 : j < l.length
          · rcases Nat.lt_or_ge k l.length with hkk | hkk
            case inr => exact absurd hlt2 (by omega)
            first | exact absurd hkk hlt | skip
            all_goals
              obtain ⟨g2, o2, he2, hg2, hc⟩ := h2.at hlt2
              obtain ⟨⟨f2, u2⟩, hy⟩ : ∃ y, l[j] = y := ⟨_, rfl⟩
              have hcc := hc j hlt2
              rw [hy] at hcc
              obtain ⟨hd2, hd3⟩ := hcc
              have hc2 := hkr2.cell hd2 (fun f => f)
              have hc3 := hkr2.cell hd3 (fun f => f)
              simp only at hc2 hc3
              have hN : Hid ((l.drop k).take (j + 1 - k) = (l.drop k).take (j - k) ++ [(f2, u2)]) := Lib.hid (by
                rw [show j + 1 - k = (j - k) + 1 from by omega, List.take_succ_eq_append_getElem (by rw [List.length_drop]; omega), List.getElem_drop]
                simp only [show k + (j - k) = j from by omega, hy])
              clear hy hc hd2 hd3
              first | cases he2 | skip
              have hL : Hid (((l.take k ++ [(x, t)]) ++ (l.drop k).take (j - k)).length + 1 ≤ 1000000000000) := Lib.hid (by simp only [List.length_append, List.length_take, List.length_drop, List.length_singleton]; omega)
              generalize hacc : (l.take k ++ [(x, t)]) ++ (l.drop k).take (j - k) = acc at hown2 hL
              obtain ⟨wA', hwA', hkA', hszA', hA0', hA1'⟩ := pair_new wr f2 u2 68
              obtain ⟨v', w', hrun', ho', hkp'⟩ := ((hown2).kept hkA' (fun _ f => f.elim)).push (by have := (hkr2).size; omega) ⟨(wr).heap.size, 0, none⟩ (f2, u2) hA0' hA1' (by exact hL.out)
              have hk' := ((hkr2).more hkA' (fun _ f => f.elim)).more hkp' (fun i hi => hi)
              have HO' := Lib.hid ho'
              clear ho' hkp'
              go_wp2_with (at_builtin; refine wpList_append_run rfl (.tmp 44) (.tmp 49) #[22, 22] rfl _ _ _ _ rfl rfl hrun' ?_)
              go_roundw
              case rel => exact ⟨hk', j + 1, by omega, hlt2, by go_num, by rw [hN.out, ← List.append_assoc, hacc]; exact HO'.out⟩
              case measure => simp [intOf]; omega
          · have hE : Hid ((l.take k ++ [(x, t)]) ++ (l.drop k).take (j - k) = P) := Lib.hid (by
              rw [hP.out, HW.out.1, HW.out.2, List.take_of_length_le (l := l.drop k) (by rw [List.length_drop]; omega), List.append_assoc, List.singleton_append])
            rw [hE.out] at hown2
            have hPb : ∀ p ∈ P, p.1 < 18446744073709551616 ∧ p.2 < 18446744073709551616 := by
              rw [hP.out, HW.out.1, HW.out.2]
              intro p hp
              rcases List.mem_append.1 hp with hp | hp
              · exact hbd p (List.mem_of_mem_take hp)
              · rcases List.mem_cons.1 hp with rfl | hp
                · exact ⟨hx, ht⟩
                · exact hbd p (List.mem_of_mem_drop hp)
            have hI := hown2.isP hPb
            obtain ⟨fa, fc, rfl, -, -⟩ := hown2.form
            go_wp2
            go_ret
            exact ⟨_, rfl, hI, hkw.more hkr2 (fun _ f => f.elim), .inr (hown2.newP hkw.size)⟩
end Go.Proofs.YtemilbemdlpkaaaGreatDoor
