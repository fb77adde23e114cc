/- slices of ids: cells of an owned row; slices.IndexFunc, slices.DeleteFunc with a function value that may allocate. -/
import Derived.Test.YtikacgiccllolaaGreatIdsA
import Derived.Lib.SliceRun
namespace Go.Proofs.YtikacgiccllolaaGreat
open Go.RowKit Go.ChangeMaps Go.MapKept

theorem OwnI.cellAt {b : Nat} {w : World} {g c n : Nat} {l : List Nat} (h : OwnI b w (.slice (some ⟨g, 0, .none⟩) n c) l) (k : Nat) (hk : k < l.length) : w.cell? ⟨g, k, .none⟩ = some (.int .u64 (l[k] : Nat)) := by
  rcases h.2 with ⟨e, -⟩ | ⟨g', c', cur, e, hb, hg, hn, hm, hs, ht⟩
  · cases e
  · cases e
    rw [cell_of_row w g k cur 37 (0, 0) hg]
    have h1 : (idsV l)[k]? = some (.int .u64 (l[k] : Nat)) := by simp [idsV, hk]
    rw [← ht, List.getElem?_take, if_pos (by omega)] at h1
    simpa using h1
theorem OwnI.set {b : Nat} {w : World} {g c n : Nat} {l : List Nat} (h : OwnI b w (.slice (some ⟨g, 0, .none⟩) n c) l) (k x : Nat) : OwnI b (w.setCell ⟨g, k, .none⟩ (.int .u64 (x : Int))) (.slice (some ⟨g, 0, .none⟩) n c) (l.set k x) := by
  obtain ⟨h1, h2⟩ := h
  refine ⟨by simp [idsV], ?_⟩
  rcases h2 with ⟨e, -⟩ | ⟨g', c', cur, e, hb, hg, hn, hm, hs, ht⟩
  · cases e
  · cases e
    refine .inr ⟨g, c, cur.setIfInBounds k (.int .u64 (x : Int)), by simp, hb, heap_setCell_row hg _, by simpa using hn, hm, by simpa using hs, ?_⟩
    simp only [Array.toList_setIfInBounds, List.length_set]
    rw [List.take_set, ht]
    simp [idsV, List.map_set]
theorem OwnI.fz {b : Nat} {w : World} {g c n : Nat} {l : List Nat} (h : OwnI b w (.slice (some ⟨g, 0, .none⟩) n c) l) (k : Nat) : w.frozen? ⟨g, k, .none⟩ = false := by
  rcases h.2 with ⟨e, -⟩ | ⟨g', c', cur, e, hb, hg, hn, hm, hs, ht⟩
  · cases e
  · cases e
    simp [World.frozen?, hg]
theorem OwnI.cells {b : Nat} {w : World} {g n c : Nat} {l : List Nat} (h : OwnI b w (.slice (some ⟨g, 0, .none⟩) n c) l) (i : Nat) (hi : i < c) : (w.cell? ⟨g, i, .none⟩).isSome = true := by
  rcases h.2 with ⟨e, -⟩ | ⟨g', c', cur, e, hb, hg, hn, hm, hs, ht⟩
  · cases e
  · cases e
    simp [World.cell?, hg, hs, hi]
theorem OwnI.cut {b : Nat} {w : World} {g n c : Nat} {l : List Nat} (h : OwnI b w (.slice (some ⟨g, 0, .none⟩) n c) l) {k : Nat} (hk : k ≤ l.length) : OwnI b w (.slice (some ⟨g, 0, .none⟩) k c) (l.take k) := by
  obtain ⟨h1, h2⟩ := h
  refine ⟨by simp [idsV], ?_⟩
  rcases h2 with ⟨e, h0⟩ | ⟨g', c', cur, e, hb, hg, hn, hm, hs, ht⟩
  · cases e
  · cases e
    refine .inr ⟨g, c, cur, by rw [List.length_take, Nat.min_eq_left hk], hb, hg, by rw [List.length_take]; omega, hm, hs, ?_⟩
    have e1 : idsV (l.take k) = (idsV l).take k := by simp [idsV]
    rw [e1, ← ht, List.take_take, List.length_take, Nat.min_eq_left hk, Nat.mul_one, Nat.mul_one, Nat.min_eq_left hk]
theorem OwnI.above {b : Nat} {w : World} {g n c : Nat} {l : List Nat} (h : OwnI b w (.slice (some ⟨g, 0, .none⟩) n c) l) {o : Nat} (ho : l.length ≤ o) (v : Value) : OwnI b (w.setCell ⟨g, o, .none⟩ v) (.slice (some ⟨g, 0, .none⟩) n c) l := by
  obtain ⟨h1, h2⟩ := h
  refine ⟨h1, ?_⟩
  rcases h2 with ⟨e, -⟩ | ⟨g', c', cur, e, hb, hg, hn, hm, hs, ht⟩
  · cases e
  · cases e
    refine .inr ⟨g, c, cur.setIfInBounds o v, rfl, hb, heap_setCell_row (o := o) hg _, hn, hm, by simpa using hs, ?_⟩
    simp only [Array.toList_setIfInBounds]
    rw [List.take_set_of_le (by omega), ht]
theorem OwnI.aboves {b : Nat} {g n c : Nat} {l : List Nat} (vs : List Value) : ∀ (w : World) (o : Nat), OwnI b w (.slice (some ⟨g, 0, .none⟩) n c) l → l.length ≤ o → OwnI b (w.setCells g o vs) (.slice (some ⟨g, 0, .none⟩) n c) l ∧ Kept (fun i => i = g) w (w.setCells g o vs) := by
  induction vs with
  | nil => exact fun w o h _ => ⟨h, Kept.refl _ _⟩
  | cons v vs ih =>
    intro w o h ho
    obtain ⟨h1, h2⟩ := ih (w.setCell ⟨g, o, Option.none⟩ v) (o + 1) (h.above ho v) (by omega)
    exact ⟨h1, ((Kept.refl (fun i => i = g) w).setCell (p := ⟨g, o, Option.none⟩) (fun _ => rfl) v).trans h2 (fun _ _ h => h)⟩
theorem zeroCells_one (n : Nat) : (Builtin.zeroCells #[Value.int .u64 0] n).toList = List.replicate n (.int .u64 0) := by
  apply List.ext_getElem
  · simp [Builtin.zeroCells]
  · intro i h1 h2
    simp [Builtin.zeroCells, Nat.mod_one]
theorem run_clear_ids {P : Program} (w : World) (t e ty : TypeId) (ht : P.underlying t = some (.slice e)) (hv : ∀ w, (zeroValue e).run P w = .ok (.int .u64 0) w) (b o n c : Nat) (hn : 0 < n)
    (hc : ∀ j, j < n → (w.cell? ⟨b, o + j, none⟩).isSome = true) (hf : ∀ j, j < n → w.frozen? ⟨b, o + j, none⟩ = false) :
    (Builtin.clear_ #[t] ty #[.slice (some ⟨b, o, none⟩) n c]).run P w = .ok (.tuple #[]) (w.setCells b o (List.replicate n (.int .u64 0))) := by
  have hst := run_storeCells_cells (P := P) b o (List.replicate n (.int .u64 0)) 0 w (by simpa using hc) (by simpa using hf) (by intro v hv'; rw [List.eq_of_mem_replicate hv']; rfl)
  simp only [Nat.add_zero] at hst
  obtain ⟨m, rfl⟩ : ∃ m, n = m + 1 := ⟨n - 1, by omega⟩
  simp [Builtin.clear_, run_underlying ht, hv, Value.cells, zeroCells_one, hst]

set_option maxRecDepth 100000 in
set_option maxHeartbeats 1000000 in
/-- slices.IndexFunc with a function value that answers of each id of the list. -/
theorem indexFunc_any (w : World) (a : Option Addr) (n c : Nat) (l : List Nat) (hI : IsI w (.slice a n c) l) (p : Nat → Bool) (gf : Nat) (lb : Array Value) (eg : ∀ args w, (callFunc gf args).run Tryz.prog w = .ok (.enter gf args) w)
    (hp : ∀ W x, Kept (fun _ => False) w W → x ∈ l → Calls Tryz.prog gf (#[.int .u64 (x : Int)] ++ lb) W fun e w' => e = .returned (.bool (p x)) ∧ Kept (fun _ => False) W w') :
    Calls Tryz.prog 54 #[.slice a n c, .func (.func gf) #[] lb] w fun e w' => (∃ r : Int, e = .returned (.int .i64 r) ∧ FirstAt l (fun x => p x = true) r) ∧ Kept (fun _ => False) w w' := by
  obtain ⟨hn1, hlc, hl⟩ := hI.len
  have HN := Lib.hid hn1
  have HP := Lib.hid hp
  have HI := Lib.hid hI
  clear hp hI hn1
  go_enter Tryz.func54, Tryz.ntmps54
  go_wp2_with fail
  go_loopg [5, 8] n (fun g _ i wr => ∃ k, k + g = n ∧ i = .int .i64 k ∧ Hid (∀ i (hi : i < l.length), i < k → ¬ p l[i] = true) ∧ Hid (Kept (fun _ => False) w wr))
  case atStart => exact ⟨0, by omega, rfl, Lib.hid (fun _ _ h => absurd h (Nat.not_lt_zero _)), Lib.hid (Kept.refl _ _)⟩
  case round =>
    obtain ⟨k, hkg, rfl, hno, HK⟩ := hrel
    by_cases hlt : k < n
    · have hkl : k < l.length := by have := HN.out; omega
      obtain ⟨g, o, rfl, hg, hc⟩ := (HI.out.keptN HK.out).at hkl
      have hm : l[k] ∈ l := List.getElem_mem hkl
      obtain ⟨x, hx⟩ : ∃ x, l[k] = x := ⟨_, rfl⟩
      rw [hx] at hc hm
      have HC := Lib.hid (HP.out wr x HK.out hm)
      obtain ⟨b, hb⟩ : ∃ b, p x = b := ⟨_, rfl⟩
      have HX : Hid (p l[k] = b) := Lib.hid (by rw [hx]; exact hb)
      rw [hb] at HC
      clear hx hb hm hg
      cases b with
      | true =>
        go_wp2_with (go_at_fn gf; refine HC.out.mono ?_; rintro e w' ⟨rfl, hk'⟩)
        go_ret
        exact ⟨⟨_, rfl, .inr ⟨k, hkl, rfl, HX.out, hno.out⟩⟩, HK.out.trans hk' (fun _ _ f => f)⟩
      | false =>
        go_wp2_with (go_at_fn gf; refine HC.out.mono ?_; rintro e w' ⟨rfl, hk'⟩)
        go_roundg (gk - 1)
        case measure => omega
        case rel => exact ⟨k + 1, by omega, by go_num, Lib.hid (fun i hi hik => by
          rcases Nat.lt_or_ge i k with h | h
          · exact hno.out i hi h
          · obtain rfl : i = k := by omega
            simp [HX.out]), Lib.hid (HK.out.trans hk' (fun _ _ f => f))⟩
    · have hM : Hid (FirstAt l (fun x => p x = true) (-1)) := Lib.hid (.none (k := k) (by have := HN.out; omega) hno.out)
      go_wp2_with fail
      go_ret
      exact ⟨⟨_, rfl, hM.out⟩, HK.out⟩

set_option maxRecDepth 100000 in
set_option maxHeartbeats 2000000 in
/-- slices.DeleteFunc on a row that is owned: what the function value answers 'yes' to goes. -/
theorem deleteFunc_any (n0 : Nat) (w : World) (a : Option Addr) (n c : Nat) (l : List Nat) (hO : OwnI n0 w (.slice a n c) l) (hl64 : ∀ x ∈ l, x < 18446744073709551616) (hln : l.length ≤ 1000000) (p : Nat → Bool) (gf : Nat) (lb : Array Value) (eg : ∀ args w, (callFunc gf args).run Tryz.prog w = .ok (.enter gf args) w)
    (hp : ∀ W x, Kept (fun k => (Value.slice a n c).ownBlock = some k) w W → x ∈ l → Calls Tryz.prog gf (#[.int .u64 (x : Int)] ++ lb) W fun e w' => e = .returned (.bool (p x)) ∧ Kept (fun _ => False) W w') :
    Calls Tryz.prog 33 #[.slice a n c, .func (.func gf) #[] lb] w fun e w' => (∃ v, e = .returned v ∧ OwnI n0 w' v (l.filter (fun x => !p x))) ∧ Kept (fun k => (Value.slice a n c).ownBlock = some k) w w' := by
  have hI := hO.isI hl64
  obtain ⟨hn1, hlc, hl⟩ := hI.len
  have HIX := Lib.hid (indexFunc_any w a n c l hI p gf lb eg (fun W x hk hx => hp W x (hk.mono (fun _ _ f => f.elim)) hx))
  have HN := Lib.hid hn1
  have HP := Lib.hid hp
  have HO := Lib.hid hO
  have HL := Lib.hid hln
  clear hp hI hn1 hO
  go_enter Tryz.func33, Tryz.ntmps33
  go_wp2_with fail
  refine HIX.out.mono ?_
  rintro e w1 ⟨⟨r, rfl, hr⟩, hk1⟩
  have HK1 : Hid (Kept (fun k => (Value.slice a n c).ownBlock = some k) w w1) := Lib.hid (hk1.mono (fun _ _ f => f.elim))
  rcases hr with ⟨rfl, hno⟩ | ⟨k, hk, rfl, hpk, hno⟩
  · have HF : Hid (l.filter (fun x => !p x) = l) := Lib.hid (List.filter_eq_self.2 (fun x hx => by simpa using hno x hx))
    have HO1 := Lib.hid (HO.out.keptF hk1 (fun _ _ f => f))
    clear hk1 hno
    go_wp2_with fail
    go_ret
    exact ⟨⟨_, rfl, by rw [HF.out]; exact HO1.out⟩, HK1.out⟩
  · obtain ⟨g, rfl⟩ : ∃ g, a = some ⟨g, 0, none⟩ := by
      rcases HO.out.2 with ⟨e, h0⟩ | ⟨g, cap, cur, e, -⟩
      · rw [h0] at hk; exact absurd hk (Nat.not_lt_zero _)
      · cases e; exact ⟨g, rfl⟩
    have HG1 : Hid (Kept (fun i => i = g) w w1) := Lib.hid (hk1.mono (fun _ _ f => f.elim))
    have HO1 := Lib.hid (HO.out.keptF hk1 (fun _ _ f => f))
    have HF1 : Hid (l.take k = (l.take (k + 1)).filter (fun x => !p x)) := Lib.hid (by
      rw [List.take_succ_eq_append_getElem hk, List.filter_append, List.filter_eq_self.2 (fun x hx => by
        obtain ⟨i, hi, e⟩ := List.getElem_of_mem hx
        rw [List.length_take] at hi
        rw [List.getElem_take] at e
        rw [← e]
        simpa using hno i (by omega) (by omega))]
      simp [hpk])
    have hkn : k < n := by have := HN.out; omega
    have hk1n : ((k : Int) == -1) = false := by simp
    have hn6 : n ≤ 1000000 := by have := HN.out; have := HL.out; omega
    clear hno hpk hk1 HIX
    go_wp2_with fail
    go_loopg [5, 6] n (fun gg iv jv wr => ∃ i j : Nat, iv = .int .i64 i ∧ jv = .int .i64 j ∧ j + gg = n + k + 1 ∧ i < j ∧ j ≤ n ∧ Hid (Kept (fun i => i = g) w wr) ∧ Hid (∃ Y, OwnI n0 wr (.slice (some ⟨g, 0, none⟩) n c) Y ∧ Y.length = n ∧ Y.take i = (l.take j).filter (fun x => !p x) ∧ ∀ z, j ≤ z → Y[z]? = l[z]?))
    case atStart => exact ⟨k, k + 1, rfl, by go_num, by omega, by omega, by omega, HG1, Lib.hid ⟨l, HO1.out, HN.out.symm, HF1.out, fun _ _ => rfl⟩⟩
    case round =>
      obtain ⟨i, j, rfl, rfl, hjg, hij, hjn, HK, HY⟩ := hrel
      by_cases hlt : j < n
      · obtain ⟨Y, hO, hYl, hYt, hYs⟩ := HY.out
        have hjl : j < l.length := by have := HN.out; omega
        have hjY : j < Y.length := by omega
        have hc := hO.cellAt j hjY
        obtain ⟨x, hx⟩ : ∃ x, l[j] = x := ⟨_, rfl⟩
        have hYx : Y[j] = x := by
          have h9 := hYs j (Nat.le_refl _)
          rw [List.getElem?_eq_getElem hjY, List.getElem?_eq_getElem hjl, hx] at h9
          exact Option.some.inj h9
        rw [hYx] at hc
        have hxm : x ∈ l := by rw [← hx]; exact List.getElem_mem hjl
        have HC := Lib.hid (HP.out wr x (HK.out.mono (fun q _ e => by rw [e]; rfl)) hxm)
        obtain ⟨b, hb⟩ : ∃ b, p x = b := ⟨_, rfl⟩
        have HST : Hid ((l.take (j + 1)).filter (fun x => !p x) = (l.take j).filter (fun x => !p x) ++ (if b then [] else [x])) := Lib.hid (by
          rw [List.take_succ_eq_append_getElem hjl, List.filter_append, hx]
          congr 1
          cases b <;> simp [hb])
        rw [hb] at HC
        have HYY := Lib.hid (And.intro hO (And.intro hYl (And.intro hYt hYs)))
        clear hx hYx hxm hb hYl hYt hYs hO hjl
        cases b with
        | true =>
          go_wp2_with (go_at_fn gf; refine HC.out.mono ?_; rintro e w' ⟨rfl, hk'⟩)
          go_roundg (gk - 1)
          case measure => omega
          case rel =>
            obtain ⟨hO, hYl, hYt, hYs⟩ := HYY.out
            exact ⟨i, j + 1, rfl, by go_num, by omega, by omega, by omega, Lib.hid (HK.out.trans hk' (fun _ _ f => f.elim)), Lib.hid ⟨Y, hO.keptF hk' (fun _ _ f => f), hYl, by rw [hYt, HST.out]; simp, fun z hz => hYs z (by omega)⟩⟩
        | false =>
          have hiY : i < Y.length := by have := HYY.out.2.1; omega
          go_wp2_with (go_at_fn gf; refine HC.out.mono ?_; rintro e w' ⟨rfl, hk'⟩; have hO' := HYY.out.1.keptF hk' (fun _ _ f => f); have hei := hO'.cellAt i hiY; have hfi := hO'.fz i)
          go_roundg (gk - 1)
          case measure => omega
          case rel =>
            obtain ⟨-, hYl, hYt, hYs⟩ := HYY.out
            refine ⟨i + 1, j + 1, by go_num, by go_num, by omega, by omega, by omega, Lib.hid ((HK.out.trans hk' (fun _ _ f => f.elim)).trans ((Kept.refl (fun i => i = g) _).setCell (p := ⟨g, i, none⟩) (fun _ => rfl) _) (fun _ _ h => h)), Lib.hid ⟨Y.set i x, hO'.set i x, by rw [List.length_set]; exact hYl, ?_, fun z hz => ?_⟩⟩
            · rw [List.take_succ_eq_append_getElem (by rw [List.length_set]; exact hiY), List.take_set_of_le (Nat.le_refl _), List.getElem_set_self, hYt, HST.out]
              rfl
            · rw [List.getElem?_set_ne (by omega)]
              exact hYs z (by omega)
      · obtain rfl : j = n := by omega
        have hin : (i : Int) < (j : Int) := by omega
        have HD : Hid (∃ D, OwnI n0 wr (.slice (some ⟨g, 0, none⟩) j c) D ∧ D.length = j ∧ D.take i = l.filter (fun x => !p x)) := Lib.hid (by
          obtain ⟨Y, h1, h2, h3, -⟩ := HY.out
          exact ⟨Y, h1, h2, by rw [h3, List.take_of_length_le (Nat.le_of_eq HN.out.symm)]⟩)
        have hcl : ∀ ty, (Builtin.clear_ #[28] ty #[.slice (some ⟨g, i, none⟩) (j - i) (c - i)]).run Tryz.prog wr = .ok (.tuple #[]) (wr.setCells g i (List.replicate (j - i) (.int .u64 0))) := fun ty => by
          obtain ⟨D, hD, -⟩ := HD.out
          exact run_clear_ids wr _ 37 ty Tryz.underlying28 (fun _ => by kernel_rfl) g i _ _ (by omega) (fun z hz => hD.cells _ (by omega)) (fun z _ => hD.fz _)
        have HE3 : Hid (OwnI n0 (wr.setCells g i (List.replicate (j - i) (.int .u64 0))) (.slice (some ⟨g, 0, none⟩) i c) (l.filter (fun x => !p x)) ∧ Kept (fun i => i = g) wr (wr.setCells g i (List.replicate (j - i) (.int .u64 0)))) := Lib.hid (by
          obtain ⟨D, hD, hDl, hDt⟩ := HD.out
          have h1 := hD.cut (k := i) (by omega)
          rw [hDt] at h1
          exact OwnI.aboves _ _ _ h1 (by rw [← hDt, List.length_take]; omega))
        have HKD : Hid (Kept (fun i => i = g) w (wr.setCells g i (List.replicate (j - i) (.int .u64 0)))) := Lib.hid (HK.out.trans HE3.out.2 (fun _ _ h => h))
        have hij' : ¬ c = i := by omega
        generalize wr.setCells g i (List.replicate (j - i) (.int .u64 0)) = wz2 at hcl HE3 HKD
        go_wp2_with fail
        go_ret
        exact ⟨⟨_, rfl, HE3.out.1⟩, HKD.out.mono (fun q _ e => by rw [e]; rfl)⟩
end Go.Proofs.YtikacgiccllolaaGreat
