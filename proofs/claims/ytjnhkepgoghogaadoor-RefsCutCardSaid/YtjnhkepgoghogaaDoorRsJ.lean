/- espalierlaw08.all. -/
import Derived.Test.YtjnhkepgoghogaaDoorRsI
import Derived.Test.YtjnhkepgoghogaaDoorRefsP
import Derived.Test.YtjnhkepgoghogaaDoorRound
namespace Go.Proofs.YtjnhkepgoghogaaDoor
open Go.RowKit Go.Shelf
set_option linter.unusedSimpArgs false
attribute [local go_sem] Oper.semAt_some

set_option maxRecDepth 100000 in
set_option maxHeartbeats 1000000 in
theorem all_any {w : World} {r im : Nat} {ies : Array MapEntry} {iclk : Nat} {jp : Value} {l S : IdsL} (h : RefsI w r im ies iclk jp l S) (hks : ∀ p ∈ S, p.1.size ≤ 1000) (hl : S.length ≤ 100000) :
    Calls Tryd.prog 21 #[.pointer (some ⟨r, 0, none⟩)] w fun e w' => ∃ v, e = .returned v ∧ OwnR w.heap.size w' v (allOf S) ∧ Kept (fun _ => False) w w' := by
  obtain ⟨W5, hW5⟩ : ∃ W, w.alloc (.cells #[.slice none 0 0] 38) = W := ⟨_, rfl⟩
  have hk5 : Kept (fun _ => False) w W5 := by rw [← hW5]; exact (Kept.refl _ _).alloc _
  have hs5 : W5.heap.size = w.heap.size + 1 := by rw [← hW5]; simp
  have hb5 : W5.heap[w.heap.size]? = some (.cells #[.slice none 0 0] 38 (0, 0)) := by rw [← hW5]; exact World.alloc_heap_new _ _
  have HW5 := Lib.hid hW5
  have H5 := Lib.hid (And.intro hk5 (And.intro hs5 hb5))
  have hlen : (allOf S).length ≤ 100000 := by rw [allOf_length]; exact hl
  clear hW5
  refine (callsIn_wide (n := 5)).1 ?_
  refine callsIn_of_wp_marks Tryd.func21 rfl trivial ?_ rfl
  refine (wpIn_wide (n := 5)).2 ?_
  simp only [Tryd.ntmps21, List.size_toArray, List.length_cons, List.length_nil, Nat.reduceAdd, Nat.reduceSub, Array.replicate_succ, Array.replicate_zero, List.push_toArray, List.append_toArray, List.nil_append, List.cons_append]
  go_wp2_with fail
  rw [HW5.out]
  refine (rall_any (some ⟨r, 0, none⟩) W5).mono ?_
  rintro e W6 ⟨rfl, hW6⟩
  have hk6 : Kept (fun _ => False) W5 W6 := by rw [hW6]; exact (Kept.refl _ _).alloc _
  have hs6 : W6.heap.size = w.heap.size + 2 := by rw [hW6]; simp [hs5]
  have hbs : W6.heap[w.heap.size + 1]? = some (.cells #[.pointer (some ⟨r, 0, none⟩)] 39 (0, 0)) := by rw [hW6, ← hs5]; exact World.alloc_heap_new _ _
  have hb6 : W6.heap[w.heap.size]? = some (.cells #[.slice none 0 0] 38 (0, 0)) := (hk6.block _ (by omega) (fun f => f)).trans hb5
  have hk06 := hk5.more hk6 (fun _ f => f.elim)
  have hI6 := h.keptN hk06
  have hnown : ∀ k, ¬ Owned w.heap.size W6 k := fun k ⟨u, hu, hku⟩ => by
    simp [World.cell?, hb6] at hu
    subst hu
    cases hku
  have HSEQ := Lib.hid (rall_seq 4 (by omega) (w.heap.size + 1) w.heap.size hI6 hks hl hbs (by omega) hnown)
  have hrl := (Array.getElem?_eq_some_iff.1 h.cell).1
  have hil := h.ids.lt
  rw [hs5]
  clear hW6 hnown hI6 hk5 hk6 hbs hb5 H5
  go_wp2_with fail
  refine name_act ?_
  intro A0 hA0
  refine (wpIn_wide (n := 5)).1 ?_
  refine wpIn_rangeV (by omega) (gf := 54) (lb := #[.pointer (some ⟨w.heap.size + 1, 0, none⟩)]) (by rw [hA0]; simp [Act.eval]) (enters_of Tryd.func54 (by kernel_rfl) rfl) HSEQ.out KeepZ.trans (keepZ_b (by omega) (fun k hk => by rcases hk with e | e | e <;> omega)) (fun _ => rfl)
    (fun pre W => (∃ v, W.heap[w.heap.size]? = some (.cells #[v] 38 (0, 0)) ∧ OwnR W6.heap.size W v pre) ∧ W6.heap.size ≤ W.heap.size ∧ Kept (fun i => i = w.heap.size) W6 W)
    (fun _ _ _ => False) ?hI (fun _ _ _ _ _ hs _ _ => hs) ⟨⟨_, hb6, OwnR.nil _ _⟩, Nat.le_refl _, Kept.refl _ _⟩ (fun _ _ _ _ _ _ _ => trivial) (fun x a' _ => a' = { tmps := (((A0.tmps.setIfInBounds 8 (.string x.1)).setIfInBounds 9 (.int .u64 x.2)).setIfInBounds 4 (.string x.1)).setIfInBounds 5 (.int .u64 x.2), defers := [] }) (fun _ _ _ _ _ _ h _ _ => h) ?assign ?body ?done ?stop
  case hI =>
    rintro pre A B row ⟨⟨v, hb, ho⟩, hs, hk⟩ hg hr
    have hne : ∀ k, k < W6.heap.size → some k ≠ row := fun k hk e => by have := (hr k e.symm).1; omega
    have hkG : Kept (fun k => row = some k) A B := Kept.grown (F := fun k => row = some k) (Kept.refl _ _) hg (fun k hk _ => hk)
    refine ⟨⟨v, (hg.block _ (by omega) (hne _ (by omega))).trans hb, rowKeptF ho hkG (fun g _ e hf => ?_)⟩, Nat.le_trans hs hg.size, hk.grown hg (fun k e hk => absurd e.symm (hne k (by omega)))⟩
    obtain ⟨-, o, ho2, hc⟩ := hr g hf
    rcases ho.2 with ⟨rfl, -⟩ | ⟨g', cap, cur, rfl, -, hg', -⟩
    · cases e
    · cases e; rw [hg'] at ho2; cases ho2; cases hc
  case assign =>
    rintro l' pre x W K hi hv hK
    have HK := Lib.hid hK
    have HI := Lib.hid hi
    clear hK hi hv
    subst hA0
    unfold refArgs
    gi_wp2
    exact HK.out _ W (KeepsFrom.refl _ _) ⟨⟨Nat.le_refl _, fun k o _ ho _ _ => ho, fun k h => .inl h⟩, fun _ _ => rfl⟩ HI.out trivial rfl
  case body =>
    rintro l' pre x a' W hl' ⟨⟨v, hb, ho⟩, hs, hk⟩ - rfl hpre
    have hvc : W.cell? ⟨w.heap.size, 0, none⟩ = some v := by simp [World.cell?, hb]
    have hvf : W.frozen? ⟨w.heap.size, 0, none⟩ = false := by simp [World.frozen?, hb]
    obtain ⟨va, vc, rfl, -, -⟩ := ho.form
    obtain ⟨wA, hwA, hkA, hszA, hbA⟩ := ref_new W x.1 x.2
    have hA0' : wA.cell? ⟨W.heap.size, 0, none⟩ = some (.string x.1) := by simp [World.cell?, hbA]
    have hA1' : wA.cell? ⟨W.heap.size, 1, none⟩ = some (.int .u64 x.2) := by simp [World.cell?, hbA]
    obtain ⟨v', w', hrun, ho', hgw, hob⟩ := (ho.keptN hkA).push (by omega) ⟨W.heap.size, 0, none⟩ x hA0' hA1' (by omega)
    obtain ⟨va', vc', rfl, -, -⟩ := ho'.form
    have hnb : ∀ k, (Value.slice va pre.length vc).ownBlock = some k → W6.heap.size ≤ k := fun k e => (World.ownsRow.lt ho k e).1
    have hbA := (hkA.block _ (Array.getElem?_eq_some_iff.1 hb).1 (fun f => f)).trans hb
    have hbw : w'.heap[w.heap.size]? = some (.cells #[.slice va pre.length vc] 38 (0, 0)) := (hgw.block _ (Array.getElem?_eq_some_iff.1 hbA).1 (fun e => by have := hnb _ e.symm; omega)).trans hbA
    have hwc : w'.cell? ⟨w.heap.size, 0, none⟩ = some (.slice va pre.length vc) := by simp [World.cell?, hbw]
    have hwf : w'.frozen? ⟨w.heap.size, 0, none⟩ = false := by simp [World.frozen?, hbw]
    have HP := Lib.hid (And.intro ho' (And.intro hgw (And.intro hob (And.intro hbw (And.intro hkA hnb)))))
    clear ho' hgw hob hbw hkA hnb hbA
    subst hA0
    simp only [List.setIfInBounds_toArray, List.set_cons_zero, List.set_cons_succ]
    gi_wp2_with (gi_at_builtin; refine wpListIn_append_run rfl (.tmp 10) (.tmp 14) #[38, 38] rfl _ _ _ _ rfl rfl hrun ?_)
    obtain ⟨ho', hgw, hob, hbw, hkA, hnb⟩ := HP.out
    have hrow := ho.keptN hkA
    have hbl := (Array.getElem?_eq_some_iff.1 hb).1
    have hkw : Kept (fun k => (Value.slice va pre.length vc).ownBlock = some k) wA w' := Kept.grown (F := fun k => (Value.slice va pre.length vc).ownBlock = some k) (Kept.refl _ _) hgw (fun k hk _ => hk)
    have hko : KeepsOthers W (w'.setCell ⟨w.heap.size, 0, none⟩ (.slice va' (pre.length + 1) vc')) := by
      refine ((show KeepsOthers W wA from hwA ▸ KeepsOthers.alloc W _).trans (KeepsOthers.of_grownBy hgw fun j o ej hj => ?_)).trans (KeepsOthers.setCell _ _ _)
      rcases hrow.2 with ⟨e2, _⟩ | ⟨g, cap, cur, e2, _, hgb, _⟩
      · rw [e2] at ej; cases ej
      · rw [e2] at ej; cases ej; rw [hgb] at hj; cases hj; rfl
    have hkS := (Kept.refl (fun i => i = w.heap.size) w').setCell (p := ⟨w.heap.size, 0, none⟩) (fun _ => rfl) (.slice va' (pre.length + 1) vc')
    have hf := hko.from W6.heap.size
    have hl1 : (pre ++ [x]).length = pre.length + 1 := by simp
    have hkall : Kept (fun i => i = w.heap.size ∨ (Value.slice va pre.length vc).ownBlock = some i) W (w'.setCell ⟨w.heap.size, 0, none⟩ (.slice va' (pre.length + 1) vc')) := ((hkA.mono (fun _ _ f => f.elim)).trans hkw (fun i _ e => .inr e)).trans hkS (fun i _ e => .inl e)
    refine ⟨⟨hf.size, hf.same⟩, ⟨⟨Nat.le_trans hkA.size (Nat.le_trans hgw.size hkS.size), fun k o hk' ho2 _ hn => ?_, fun k ⟨u, hu, hku⟩ => ?_⟩, fun k hk' => ?_⟩, ⟨⟨_, heap_setCell_row (o := 0) hbw _, ?_⟩, Nat.le_trans hs (Nat.le_trans hkA.size (Nat.le_trans hgw.size hkS.size)), ?_⟩⟩
    · exact (hkall.block k (Array.getElem?_eq_some_iff.1 ho2).1 (fun e => by
        rcases e with e | e
        · omega
        · exact hn ⟨_, hvc, e⟩)).trans ho2
    · rw [World.cell?_setCell_same' _ _ _ (by rw [hwc]; rfl)] at hu
      cases hu
      rw [hl1] at hob
      rcases hob with e | e
      · rw [e] at hku; exact .inl ⟨_, hvc, hku⟩
      · rw [e] at hku; cases hku; exact .inr hkA.size
    · have hk7 : k < w.heap.size ∨ k = w.heap.size + 1 := by rcases hk' with e | e | e <;> omega
      exact hkall.block k (by omega) (fun e => by
        rcases e with e | e
        · omega
        · have := hnb k e; omega)
    · rw [hl1] at ho'
      exact rowKeptF ho' hkS (fun g hg e hf => by omega)
    · exact hk.trans hkall (fun i hi e => by
        rcases e with e | e
        · exact e
        · have := hnb i e; omega)
  case done =>
    rintro D xs W hD rfl ⟨⟨v, hb, ho⟩, hs, hk⟩ hK
    have hvc : W.cell? ⟨w.heap.size, 0, none⟩ = some v := by simp [World.cell?, hb]
    have HF := Lib.hid (And.intro ho (And.intro hk hK))
    have HKW := Lib.hid hk06
    clear ho hk hK
    subst hA0
    go_wp2_with fail
    obtain ⟨ho, hk, hK⟩ := HF.out
    refine ⟨by simp, .inl ⟨_, _, rfl, run_takeDeferred hK, ?_⟩⟩
    have hkD : Kept (· = D) W (W.putObj D (.deferred none)) := (Kept.refl _ _).grown (grownBy_putObj' W D (.deferred none)) (fun k e _ => by cases e; rfl)
    refine ⟨_, results_tmp rfl _ _ _, v, rfl, ?_, ?_⟩
    · refine OwnR.mono (rowKeptF ho hkD (fun g hg e he => ?_)) (by omega)
      obtain rfl : g = D := he
      rcases ho.2 with ⟨rfl, -⟩ | ⟨g', cap, cur, rfl, -, hg', -⟩
      · cases e
      · cases e; rw [hg'] at hK; cases hK
    · exact (HKW.out.more hk (fun i (e : i = w.heap.size) => by omega)).more hkD (fun i (e : i = D) => by omega)
  case stop =>
    rintro D cc pre W hD hS hf
    exact hf.elim
end Go.Proofs.YtjnhkepgoghogaaDoor
