/- espalierlaw17.RunBack. -/
import Derived.Test.YtinmjgaaehdicaaBackL
import Derived.Test.YtinmjgaaehdicaaSeqE
import Derived.Test.YtinmjgaaehdicaaRound
import Derived.Test.YtinmjgaaehdicaaStr
import Derived.Test.YtinmjgaaehdicaaLaw17S
namespace Go.Proofs.Ytinmjgaaehdicaa
open Go.RowKit Go.Shelf

attribute [local go_sem] Oper.semAt_some

theorem name_act {P : Program} {c : Code} {Q : Exit → Act → World → Prop} {a : Act} {w : World} (h : ∀ A0, A0 = a → c.wp P Q A0 w) : c.wp P Q a w := h a rfl


set_option maxRecDepth 100000 in
set_option maxHeartbeats 1000000 in
theorem back_any (w : World) (a0 a1 a2 : Option Addr) (c0 c1 c2 : Nat) (l0 l1 l2 : List (Nat × Nat)) (x : Nat) (h0 : IsP w (.slice a0 l0.length c0) l0) (h1 : IsP w (.slice a1 l1.length c1) l1) (h2 : IsP w (.slice a2 l2.length c2) l2) :
    Calls Try.prog 10 #[.agg #[.slice a0 l0.length c0, .slice a1 l1.length c1, .slice a2 l2.length c2], .int .u64 x] w fun e w' => e = .returned (.bool true) ∧ Kept (fun _ => False) w w' := by
  have hlc0 : l0.length ≤ c0 := by obtain ⟨_, _, e, h1, -⟩ := h0; cases e; exact h1
  have hm0 := h0.take 60
  have hml0 : (l0.take 60).length ≤ 60 := by rw [List.length_take]; omega
  obtain ⟨m0, hmm⟩ : ∃ m, l0.take 60 = m := ⟨_, rfl⟩
  obtain ⟨nm0, hnm⟩ : ∃ nm, min l0.length 60 = nm := ⟨_, rfl⟩
  have HS0 := fun W => some_any W a0 l0.length c0 60 hlc0 (by omega)
  rw [hmm, hnm] at hm0
  rw [hmm] at hml0
  simp only [hnm] at HS0
  clear hmm hnm hlc0
  have hb0 : ∀ p ∈ m0, p.1 < 18446744073709551616 ∧ p.2 < 18446744073709551616 := by obtain ⟨_, _, _, _, _, h1, _⟩ := hm0; exact h1
  have hlc1 : l1.length ≤ c1 := by obtain ⟨_, _, e, h1, -⟩ := h1; cases e; exact h1
  have hm1 := h1.take 60
  have hml1 : (l1.take 60).length ≤ 60 := by rw [List.length_take]; omega
  obtain ⟨m1, hmm⟩ : ∃ m, l1.take 60 = m := ⟨_, rfl⟩
  obtain ⟨nm1, hnm⟩ : ∃ nm, min l1.length 60 = nm := ⟨_, rfl⟩
  have HS1 := fun W => some_any W a1 l1.length c1 60 hlc1 (by omega)
  rw [hmm, hnm] at hm1
  rw [hmm] at hml1
  simp only [hnm] at HS1
  clear hmm hnm hlc1
  have hb1 : ∀ p ∈ m1, p.1 < 18446744073709551616 ∧ p.2 < 18446744073709551616 := by obtain ⟨_, _, _, _, _, h1, _⟩ := hm1; exact h1
  have hlc2 : l2.length ≤ c2 := by obtain ⟨_, _, e, h1, -⟩ := h2; cases e; exact h1
  have hm2 := h2.take 60
  have hml2 : (l2.take 60).length ≤ 60 := by rw [List.length_take]; omega
  obtain ⟨m2, hmm⟩ : ∃ m, l2.take 60 = m := ⟨_, rfl⟩
  obtain ⟨nm2, hnm⟩ : ∃ nm, min l2.length 60 = nm := ⟨_, rfl⟩
  have HS2 := fun W => some_any W a2 l2.length c2 60 hlc2 (by omega)
  rw [hmm, hnm] at hm2
  rw [hmm] at hml2
  simp only [hnm] at HS2
  clear hmm hnm hlc2
  have hb2 : ∀ p ∈ m2, p.1 < 18446744073709551616 ∧ p.2 < 18446744073709551616 := by obtain ⟨_, _, _, _, _, h1, _⟩ := hm2; exact h1
  obtain ⟨W0, hW0⟩ : ∃ W, w.alloc (.cells #[.slice a0 l0.length c0, .slice a1 l1.length c1, .slice a2 l2.length c2] 83) = W := ⟨_, rfl⟩
  have hkW0 : Kept (fun _ => False) w W0 := by rw [← hW0]; exact (Kept.refl _ _).alloc _
  have hbW0 : W0.heap[w.heap.size]? = some (.cells #[.slice a0 l0.length c0, .slice a1 l1.length c1, .slice a2 l2.length c2] 83 (0, 0)) := by rw [← hW0]; exact World.alloc_heap_new _ _
  have HW0 := Lib.hid hW0
  clear hW0
  refine (callsIn_wide (n := 5)).1 ?_
  refine callsIn_of_wp_marks Try.func10 rfl trivial ?_ rfl
  refine (wpIn_wide (n := 5)).2 ?_
  simp only [Try.ntmps10, List.size_toArray, List.length_cons, List.length_nil, Nat.reduceAdd, Nat.reduceSub, Array.replicate_succ, Array.replicate_zero, List.push_toArray, List.append_toArray, List.nil_append, List.cons_append]
  go_wp2_with fail
  rw [HW0.out]
  refine (wakes_any W0).mono ?_
  rintro e w1 ⟨rfl, hk1⟩
  have hbw : w1.heap[w.heap.size]? = some (.cells #[.slice a0 l0.length c0, .slice a1 l1.length c1, .slice a2 l2.length c2] 83 (0, 0)) := (hk1.block _ (Array.getElem?_eq_some_iff.1 hbW0).1 (fun f => f)).trans hbW0
  have hd0 : w1.cell? ⟨w.heap.size, 0, none⟩ = some (.slice a0 l0.length c0) := by simp [World.cell?, hbw]
  have hd1 : w1.cell? ⟨w.heap.size, 1, none⟩ = some (.slice a1 l1.length c1) := by simp [World.cell?, hbw]
  have hd2 : w1.cell? ⟨w.heap.size, 2, none⟩ = some (.slice a2 l2.length c2) := by simp [World.cell?, hbw]
  have hkw1 := hkW0.more hk1 (fun _ f => f.elim)
  clear hbw hbW0 HW0
  go_wp2_with fail
  go_quiet (fail)
  have hkq := hkw1.drewN nq
  generalize w1.drewN nq = wq at *
  clear hd0 hd1 hd2 hkw1 hk1
  obtain ⟨WE0, hWE⟩ : ∃ WE, (wq).alloc (.cells #[] 75) = WE := ⟨_, rfl⟩
  have hkE : Kept (fun _ => False) wq WE0 := by rw [← hWE]; exact (Kept.refl _ _).alloc _
  have hszE : WE0.heap.size = (wq).heap.size + 1 := by rw [← hWE]; simp
  have hoE := emptyP wq
  rw [hWE] at hoE
  have hkWE := (hkq).more hkE (fun _ f => f.elim)
  obtain ⟨v0, wA0, hrun, ho, hkA, -⟩ := hoE.app (by omega) (hm0.kept hkWE) (by simp; omega)
  have hkA' : Kept (fun _ => False) w wA0 := hkWE.more hkA (fun i hi => by have := (hkq).size; omega)
  have hkS := hkE.more hkA (fun i hi => hi)
  obtain ⟨va0, vc0, rfl, -, -⟩ := ho.form
  simp only [List.nil_append] at ho hrun
  have HM := Lib.hid (make_any wA0 _ va0 vc0 m0 ho hb0 (by omega))
  clear hoE ho hkE hkA hkWE hszE
  go_wp2_with fail
  refine (HS0 WE0).mono ?_
  rintro e w' ⟨rfl, rfl⟩
  go_wp2_with (at_builtin; refine wpList_append_run rfl (.tmp 37) (.tmp 39) #[54, 54] rfl _ _ _ _ rfl rfl hrun ?_)
  clear hrun hWE
  have HC0 := Lib.hid (makeOf_cases m0 (by omega) hb0)
  generalize makeOf m0 = q0 at HM HC0 ⊢
  refine HM.out.mono ?_
  rintro e wB0 ⟨vb0, rfl, hf0⟩
  have hk0 := hkA'.more hf0.kept (fun _ f => f.elim)
  have hkT0 := hkS.more hf0.kept (fun _ f => f.elim)
  clear HM hkA' hkS
  obtain ⟨ba0, bc0, rfl, -, -⟩ := hf0.own.form
  have hB0 := hf0.own.isB
  obtain ⟨WE1, hWE⟩ : ∃ WE, (wB0).alloc (.cells #[] 75) = WE := ⟨_, rfl⟩
  have hkE : Kept (fun _ => False) wB0 WE1 := by rw [← hWE]; exact (Kept.refl _ _).alloc _
  have hszE : WE1.heap.size = (wB0).heap.size + 1 := by rw [← hWE]; simp
  have hoE := emptyP wB0
  rw [hWE] at hoE
  have hkWE := (hk0).more hkE (fun _ f => f.elim)
  obtain ⟨v1, wA1, hrun, ho, hkA, -⟩ := hoE.app (by omega) (hm1.kept hkWE) (by simp; omega)
  have hkA' : Kept (fun _ => False) w wA1 := hkWE.more hkA (fun i hi => by have := (hk0).size; omega)
  have hkS := hkE.more hkA (fun i hi => hi)
  obtain ⟨va1, vc1, rfl, -, -⟩ := ho.form
  simp only [List.nil_append] at ho hrun
  have HM := Lib.hid (make_any wA1 _ va1 vc1 m1 ho hb1 (by omega))
  clear hoE ho hkE hkA hkWE hszE
  go_wp2_with fail
  refine (HS1 WE1).mono ?_
  rintro e w' ⟨rfl, rfl⟩
  go_wp2_with (at_builtin; refine wpList_append_run rfl (.tmp 45) (.tmp 47) #[54, 54] rfl _ _ _ _ rfl rfl hrun ?_)
  clear hrun hWE
  have HC1 := Lib.hid (makeOf_cases m1 (by omega) hb1)
  generalize makeOf m1 = q1 at HM HC1 ⊢
  refine HM.out.mono ?_
  rintro e wB1 ⟨vb1, rfl, hf1⟩
  have hk1 := hkA'.more hf1.kept (fun _ f => f.elim)
  have hkT1 := hkS.more hf1.kept (fun _ f => f.elim)
  clear HM hkA' hkS
  obtain ⟨ba1, bc1, rfl, -, -⟩ := hf1.own.form
  have hB1 := hf1.own.isB
  obtain ⟨WE2, hWE⟩ : ∃ WE, (wB1).alloc (.cells #[] 75) = WE := ⟨_, rfl⟩
  have hkE : Kept (fun _ => False) wB1 WE2 := by rw [← hWE]; exact (Kept.refl _ _).alloc _
  have hszE : WE2.heap.size = (wB1).heap.size + 1 := by rw [← hWE]; simp
  have hoE := emptyP wB1
  rw [hWE] at hoE
  have hkWE := (hk1).more hkE (fun _ f => f.elim)
  obtain ⟨v2, wA2, hrun, ho, hkA, -⟩ := hoE.app (by omega) (hm2.kept hkWE) (by simp; omega)
  have hkA' : Kept (fun _ => False) w wA2 := hkWE.more hkA (fun i hi => by have := (hk1).size; omega)
  have hkS := hkE.more hkA (fun i hi => hi)
  obtain ⟨va2, vc2, rfl, -, -⟩ := ho.form
  simp only [List.nil_append] at ho hrun
  have HM := Lib.hid (make_any wA2 _ va2 vc2 m2 ho hb2 (by omega))
  clear hoE ho hkE hkA hkWE hszE
  go_wp2_with fail
  refine (HS2 WE2).mono ?_
  rintro e w' ⟨rfl, rfl⟩
  go_wp2_with (at_builtin; refine wpList_append_run rfl (.tmp 53) (.tmp 55) #[54, 54] rfl _ _ _ _ rfl rfl hrun ?_)
  clear hrun hWE
  have HC2 := Lib.hid (makeOf_cases m2 (by omega) hb2)
  generalize makeOf m2 = q2 at HM HC2 ⊢
  refine HM.out.mono ?_
  rintro e wB2 ⟨vb2, rfl, hf2⟩
  have hk2 := hkA'.more hf2.kept (fun _ f => f.elim)
  have hkT2 := hkS.more hf2.kept (fun _ f => f.elim)
  clear HM hkA' hkS
  obtain ⟨ba2, bc2, rfl, -, -⟩ := hf2.own.form
  have hB2 := hf2.own.isB
  rcases HC0.out with ⟨k, hk0n, rfl⟩ | ⟨A, hrA, hAl, rfl⟩
  · skip
    go_wp2_with fail
    refine (wakes_any wB2).mono ?_
    rintro e w9 ⟨rfl, hk9⟩
    go_wp2
    exact ⟨_, results_tmp rfl _ _ _, rfl, hk2.more hk9 (fun _ f => f.elim)⟩
  · rcases HC1.out with ⟨k, hk1n, rfl⟩ | ⟨B, hrB, hBl, rfl⟩
    · skip
      go_wp2_with fail
      refine (wakes_any wB2).mono ?_
      rintro e w9 ⟨rfl, hk9⟩
      go_wp2
      exact ⟨_, results_tmp rfl _ _ _, rfl, hk2.more hk9 (fun _ f => f.elim)⟩
    · rcases HC2.out with ⟨k, hk2n, rfl⟩ | ⟨C, hrC, hCl, rfl⟩
      · skip
        go_wp2_with fail
        refine (wakes_any wB2).mono ?_
        rintro e w9 ⟨rfl, hk9⟩
        go_wp2
        exact ⟨_, results_tmp rfl _ _ _, rfl, hk2.more hk9 (fun _ f => f.elim)⟩
      · have hBa := (hB0.keptF hkT1 (fun _ _ f => f)).keptF hkT2 (fun _ _ f => f)
        have hBb := hB1.keptF hkT2 (fun _ _ f => f)
        have hBc := hB2
        obtain ⟨bAB, bABC, hBB⟩ := back_b hrA hrB hrC (by omega) (by omega) (by omega) x
        simp only at hBa hBb hBc
        generalize bytesOf A = bA at hBa hBB ⊢
        generalize bytesOf B = bB at hBb hBB ⊢
        generalize bytesOf C = bC at hBc hBB ⊢
        generalize [A, B, C] = Ls at hBB
        have HBB := Lib.hid hBB
        have HAL : Hid (A.length ≤ 60) := Lib.hid (by omega)
        have HBa := Lib.hid hBa
        have HBb := Lib.hid hBb
        have HBc := Lib.hid hBc
        have hkB := hk2
        clear hBB hBa hBb hBc hf0 hf1 hf2 hkT0 hkT1 hkT2 hB0 hB1 hB2 hk0 hk1 hk2 hkq HC0 HC1 HC2 hrA hrB hrC hAl hBl hCl hm0 hm1 hm2 hml0 hml1 hml2 hb0 hb1 hb2 HS0 HS1 HS2 h0 h1 h2
        obtain ⟨W5, hW5⟩ : ∃ W, wB2.alloc (.cells #[.slice none 0 0] 54) = W := ⟨_, rfl⟩
        have hk5 : Kept (fun _ => False) wB2 W5 := by rw [← hW5]; exact (Kept.refl _ _).alloc _
        have hs5 : W5.heap.size = wB2.heap.size + 1 := by rw [← hW5]; simp
        have hb5 : W5.heap[wB2.heap.size]? = some (.cells #[.slice none 0 0] 54 (0, 0)) := by rw [← hW5]; exact World.alloc_heap_new _ _
        have hE := Lib.hid (each_any W5 ba0 bc0 bA (HBa.out.keptF hk5 (fun _ _ f => f)) (by have := HBB.out.len; omega))
        have HW5 := Lib.hid hW5
        have H5 := Lib.hid (And.intro hk5 (And.intro hs5 hb5))
        clear hW5 hk5 hs5 hb5
        go_wp2_with fail
        rw [HW5.out]
        refine hE.out.mono ?_
        rintro e W6 ⟨rfl, hBs, ⟨bv, hbv, hbB⟩, hk6⟩
        obtain ⟨hk5, hs5, hb5⟩ := H5.out
        have hb6 : W6.heap[wB2.heap.size]? = some (.cells #[.slice none 0 0] 54 (0, 0)) := (hk6.block _ (by omega) (fun f => f)).trans hb5
        have hs6 := hk6.size
        have hnown : ∀ k, ¬ Owned wB2.heap.size W6 k := fun k ⟨u, hu, hku⟩ => by
          simp [World.cell?, hb6] at hu
          subst hu
          cases hku
        have hkB6 := (hkB.more hk5 (fun _ f => f.elim)).more hk6 (fun _ f => f.elim)
        have hlA : A.length ≤ 60 := HAL.out
        go_wp2_with fail
        refine name_act ?_
        intro A0 hA0
        refine (wpIn_wide (n := 5)).1 ?_
        refine wpIn_rangeFunc_ownH (F := Fence.wide) rfl (by omega) (gf := 62) (lb := #[.pointer (some ⟨W5.heap.size, 0, none⟩)]) (by rw [hA0]; simp [Act.eval]) trivial (enters_of Try.func62 (by kernel_rfl) rfl)
          (each_stops 4 (by omega) W5.heap.size wB2.heap.size bA (by have := HBB.out.len; omega) W6 bv hbv hbB (by omega) hnown) KeepX.trans (keepX_b (by omega)) (Below.refl _ _) (fun _ => rfl)
          (fun pre W => (∃ v, W.heap[wB2.heap.size]? = some (.cells #[v] 54 (0, 0)) ∧ OwnP W6.heap.size W v pre) ∧ W6.heap.size ≤ W.heap.size ∧ Kept (fun i => i = wB2.heap.size) W6 W)
          (fun _ _ _ => False) ?hI (fun _ _ _ _ _ hs _ _ => hs) ⟨⟨_, hb6, OwnP.nil _ _⟩, Nat.le_refl _, Kept.refl _ _⟩
          (fun x a' W => ∃ Bx, W6.heap.size ≤ Bx ∧ W.heap[Bx]? = some (.cells #[.int .u64 x.1, .int .u64 x.2] 75 (0, 0)) ∧ a' = { tmps := (A0.tmps.setIfInBounds 73 (valP x)).setIfInBounds 15 (.pointer (some ⟨Bx, 0, none⟩)), defers := [] })
          ?hAx ?assign ?body ?done ?stop
        case hI =>
          rintro pre A B row ⟨⟨v, hb, ho⟩, hs, hk⟩ hg hr
          have hne : ∀ k, k < W6.heap.size → some k ≠ row := fun k hk e => by have := (hr k e.symm).1; omega
          have hkG : Kept (fun k => row = some k) A B := Kept.grown (F := fun k => row = some k) (Kept.refl _ _) hg (fun k hk _ => hk)
          refine ⟨⟨v, (hg.block _ (by omega) (hne _ (by omega))).trans hb, ownsRow_keptF ho hkG (fun g _ e hf => ?_)⟩, Nat.le_trans hs hg.size, hk.grown hg (fun k e hk => absurd e.symm (hne k (by omega)))⟩
          obtain ⟨-, o, ho2, hc⟩ := hr g hf
          rcases ho.2 with ⟨rfl, -⟩ | ⟨g', cap, cur, rfl, -, hg', -⟩
          · cases e
          · cases e; rw [hg'] at ho2; cases ho2; cases hc
        case hAx =>
          rintro x a' s A B row ⟨Bx, hBx, hbX, ha⟩ hg hr
          refine ⟨Bx, hBx, (hg.block Bx (Array.getElem?_eq_some_iff.1 hbX).1 (fun e => ?_)).trans hbX, ha⟩
          obtain ⟨-, o, ho, hc⟩ := hr Bx e.symm
          rw [hbX] at ho; cases ho; cases hc
        case assign =>
          rintro l' pre x W K ⟨⟨v, hb, ho⟩, hs, hk⟩ hK
          have HK := Lib.hid hK
          clear hK
          subst hA0
          unfold valP at *
          gi_wp2
          have hkA : Kept (fun _ => False) W (W.alloc (.cells #[.int .u64 x.1, .int .u64 x.2] 75)) := (Kept.refl _ _).alloc _
          exact HK.out _ _ ((KeepsOthers.alloc _ _).from _) (KeepX.of_kept hkA (by omega))
            ⟨⟨v, (hkA.block _ (by omega) (fun f => f)).trans hb, ho.kept hkA (fun _ f => f.elim)⟩, Nat.le_trans hs hkA.size, hk.trans hkA (fun _ _ f => f.elim)⟩
            ⟨W.heap.size, hs, World.alloc_heap_new W _, rfl⟩
        case body =>
          rintro l' pre x a' W hl' ⟨r, hr⟩ ⟨⟨v, hb, ho⟩, hs, hk⟩ ⟨Bx, hBx, hbX, rfl⟩ hpre
          have hpl : pre.length < 60 := by have := HBB.out.pairs; omega
          have hvc : W.cell? ⟨wB2.heap.size, 0, none⟩ = some v := by simp [World.cell?, hb]
          have hvf : W.frozen? ⟨wB2.heap.size, 0, none⟩ = false := by simp [World.frozen?, hb]
          have hx0 : W.cell? ⟨Bx, 0, none⟩ = some (.int .u64 x.1) := by simp [World.cell?, hbX]
          have hx1 : W.cell? ⟨Bx, 1, none⟩ = some (.int .u64 x.2) := by simp [World.cell?, hbX]
          obtain ⟨va, vc, rfl, -, -⟩ := ho.form
          obtain ⟨wA, hwA, hkA, hszA, hA0', hA1'⟩ := pair_new W x.1 x.2 75
          obtain ⟨v', w', hrun, ho', hgw, hob⟩ := (ho.kept hkA (fun _ f => f.elim)).push2 (by omega) ⟨W.heap.size, 0, none⟩ x hA0' hA1' (by omega)
          obtain ⟨va', vc', rfl, -, -⟩ := ho'.form
          have hnb : ∀ k, (Value.slice va pre.length vc).ownBlock = some k → W6.heap.size ≤ k := fun k e => (World.ownsRow.lt ho k e).1
          have hbA := (hkA.block _ (Array.getElem?_eq_some_iff.1 hb).1 (fun f => f)).trans hb
          have hbw : w'.heap[wB2.heap.size]? = some (.cells #[.slice va pre.length vc] 54 (0, 0)) := (hgw.block _ (Array.getElem?_eq_some_iff.1 hbA).1 (fun e => by have := hnb _ e.symm; omega)).trans hbA
          have hwc : w'.cell? ⟨wB2.heap.size, 0, none⟩ = some (.slice va pre.length vc) := by simp [World.cell?, hbw]
          have hwf : w'.frozen? ⟨wB2.heap.size, 0, none⟩ = false := by simp [World.frozen?, hbw]
          have HP := Lib.hid (And.intro ho' (And.intro hgw (And.intro hob (And.intro hbw (And.intro hkA hnb)))))
          clear ho' hgw hob hbw hkA hnb hbA
          subst hA0
          simp only [List.setIfInBounds_toArray, List.set_cons_zero, List.set_cons_succ]
          gi_wp2_with (gi_at_builtin; refine wpListIn_append_run rfl (.tmp 74) (.tmp 76) #[54, 54] rfl _ _ _ _ rfl rfl hrun ?_)
          obtain ⟨ho', hgw, hob, hbw, hkA, hnb⟩ := HP.out
          have hrow := ho.kept hkA (fun _ f => f.elim)
          have hbl := (Array.getElem?_eq_some_iff.1 hb).1
          have hkw : Kept (fun k => (Value.slice va pre.length vc).ownBlock = some k) wA w' := Kept.grown (F := fun k => (Value.slice va pre.length vc).ownBlock = some k) (Kept.refl _ _) hgw (fun k hk _ => hk)
          have hko : KeepsOthers W (w'.setCell ⟨wB2.heap.size, 0, none⟩ (.slice va' (pre.length + 1) vc')) := by
            refine ((show KeepsOthers W wA from hwA ▸ KeepsOthers.alloc W _).trans (KeepsOthers.of_grownBy hgw fun j o ej hj => ?_)).trans (KeepsOthers.setCell _ _ _)
            rcases hrow.2 with ⟨e2, _⟩ | ⟨g, cap, cur, e2, _, hgb, _⟩
            · rw [e2] at ej; cases ej
            · rw [e2] at ej; cases ej; rw [hgb] at hj; cases hj; rfl
          have hkS := (Kept.refl (fun i => i = wB2.heap.size) w').setCell (p := ⟨wB2.heap.size, 0, none⟩) (fun _ => rfl) (.slice va' (pre.length + 1) vc')
          have hf := hko.from W6.heap.size
          have hl1 : (pre ++ [x]).length = pre.length + 1 := by simp
          refine ⟨⟨hf.size, hf.same⟩, ⟨Nat.le_trans hkA.size (Nat.le_trans hgw.size hkS.size), fun k o hk' ho2 _ hn => ?_, fun k ⟨u, hu, hku⟩ => ?_⟩, ⟨⟨_, heap_setCell_row (o := 0) hbw _, ?_⟩, Nat.le_trans hs (Nat.le_trans hkA.size (Nat.le_trans hgw.size hkS.size)), ?_⟩⟩
          · have hkl := (Array.getElem?_eq_some_iff.1 ho2).1
            have h1 := (hkA.block k hkl (fun f => f)).trans ho2
            exact (heap_setCell_ne (by omega) _).trans ((hgw.block k (Array.getElem?_eq_some_iff.1 h1).1 (fun e => hn ⟨_, hvc, e.symm⟩)).trans h1)
          · rw [World.cell?_setCell_same' _ _ _ (by rw [hwc]; rfl)] at hu
            cases hu
            rw [hl1] at hob
            rcases hob with e | e
            · rw [e] at hku; exact .inl ⟨_, hvc, hku⟩
            · rw [e] at hku; cases hku; exact .inr hkA.size
          · rw [hl1] at ho'
            exact ownsRow_keptF ho' hkS (fun g hg e hf => by omega)
          · exact ((hk.trans hkA (fun _ _ f => f.elim)).trans hkw (fun i hi e => by have := hnb i e; omega)).trans hkS (fun _ _ f => f)
        case done =>
          rintro D xs W hD rfl ⟨⟨v, hb, ho⟩, hs, hk⟩ hK
          rw [HBB.out.each] at ho
          have hvc : W.cell? ⟨wB2.heap.size, 0, none⟩ = some v := by simp [World.cell?, hb]
          obtain ⟨va, vc, rfl, -, -⟩ := ho.form
          have hkD : Kept (fun _ => False) wB2 W := (hk5.more hk6 (fun _ f => f.elim)).more hk (fun i hi => by omega)
          have hMK := make_any W W6.heap.size va vc A ho HBB.out.bnd (by omega)
          rw [HBB.out.make] at hMK
          have HMK := Lib.hid hMK
          have HF : Hid (∀ W', Kept (fun _ => False) W W' → IsB W' (.slice ba0 bA.length bc0) bA ∧ IsB W' (.slice ba1 bB.length bc1) bB ∧ IsB W' (.slice ba2 bC.length bc2) bC) := Lib.hid (fun W' hW => ⟨(HBa.out.keptF hkD (fun _ _ f => f)).keptF hW (fun _ _ f => f), (HBb.out.keptF hkD (fun _ _ f => f)).keptF hW (fun _ _ f => f), (HBc.out.keptF hkD (fun _ _ f => f)).keptF hW (fun _ _ f => f)⟩)
          have HKW := Lib.hid (And.intro (hkB.more hkD (fun _ f => f.elim)) (And.intro hK (show w.heap.size ≤ D by have := hkB6.size; omega)))
          have HL := Lib.hid HBB.out.len
          subst hA0
          clear hMK ho hb hk hs hK hD hkD hkB hk5 hs5 hb5 hb6 hs6 hnown hkB6 hk6 hBs hbv hbB HBa HBb HBc hE H5 HW5
          go_wp2_with fail
          refine HMK.out.mono ?_
          rintro e W7 ⟨v7, rfl, hf7⟩
          obtain ⟨a7, c7, rfl, -, -⟩ := hf7.own.form
          have hB7 := hf7.own.isB
          have hk7 := hf7.kept
          have HM1 := Lib.hid (merge_new W7 [.slice ba0 bA.length bc0] [bA] bA 1 rfl rfl (by omega) (fun i u bs hu hbs => by
            match i with
            | 0 => cases hu; cases hbs; exact (HF.out W7 hk7).1
            | i + 1 => simp at hu) (fun b hb => by have := HL.out; simp at hb; subst hb; omega) HBB.out.one)
          go_wp2_with fail
          refine HM1.out.mono ?_
          rintro e W8 ⟨v8, rfl, hf8⟩
          obtain ⟨a8, c8, rfl, -, -⟩ := hf8.own.form
          have hB8 := hf8.own.isB
          have hk8 := hk7.more hf8.kept (fun _ f => f.elim)
          have HM2 := Lib.hid (merge_new W8 [.slice ba0 bA.length bc0, .slice ba1 bB.length bc1, .slice ba2 bC.length bc2] [bA, bB, bC] bABC 3 rfl rfl (by omega) (fun i u bs hu hbs => by
            match i with
            | 0 => cases hu; cases hbs; exact (HF.out W8 hk8).1
            | 1 => cases hu; cases hbs; exact (HF.out W8 hk8).2.1
            | 2 => cases hu; cases hbs; exact (HF.out W8 hk8).2.2
            | i + 3 => simp at hu) (fun b hb => by have := HL.out; simp at hb; rcases hb with rfl | rfl | rfl <;> omega) HBB.out.three)
          go_wp2_with fail
          refine HM2.out.mono ?_
          rintro e W9 ⟨v9, rfl, hf9⟩
          obtain ⟨a9, c9, rfl, -, -⟩ := hf9.own.form
          have hB9 := hf9.own.isB
          have hk9 := hk8.more hf9.kept (fun _ f => f.elim)
          have HM3 := Lib.hid (merge_new W9 [.slice ba0 bA.length bc0, .slice ba1 bB.length bc1] [bA, bB] bAB 2 rfl rfl (by omega) (fun i u bs hu hbs => by
            match i with
            | 0 => cases hu; cases hbs; exact (HF.out W9 hk9).1
            | 1 => cases hu; cases hbs; exact (HF.out W9 hk9).2.1
            | i + 2 => simp at hu) (fun b hb => by have := HL.out; simp at hb; rcases hb with rfl | rfl <;> omega) HBB.out.two)
          go_wp2_with fail
          refine HM3.out.mono ?_
          rintro e W10 ⟨v10, rfl, hf10⟩
          obtain ⟨a10, c10, rfl, -, -⟩ := hf10.own.form
          have hB10 := hf10.own.isB
          have hk10 := hk9.more hf10.kept (fun _ f => f.elim)
          have HM4 := Lib.hid (merge_new W10 [.slice a10 bAB.length c10, .slice ba2 bC.length bc2] [bAB, bC] bABC 2 rfl rfl (by omega) (fun i u bs hu hbs => by
            match i with
            | 0 => cases hu; cases hbs; exact hB10
            | 1 => cases hu; cases hbs; exact (HF.out W10 hk10).2.2
            | i + 2 => simp at hu) (fun b hb => by have := HL.out; simp at hb; rcases hb with rfl | rfl <;> omega) HBB.out.parts)
          go_wp2_with fail
          refine HM4.out.mono ?_
          rintro e W11 ⟨v11, rfl, hf11⟩
          obtain ⟨a11, c11, rfl, -, -⟩ := hf11.own.form
          have hk11 := hk10.more hf11.kept (fun _ f => f.elim)
          have hcA := conv_any (HF.out W11 hk11).1
          have hc7 := conv_any (((((hB7.keptF hf8.kept (fun _ _ f => f)).keptF hf9.kept (fun _ _ f => f)).keptF hf10.kept (fun _ _ f => f)).keptF hf11.kept (fun _ _ f => f)))
          have hc8 := conv_any ((((hB8.keptF hf9.kept (fun _ _ f => f)).keptF hf10.kept (fun _ _ f => f)).keptF hf11.kept (fun _ _ f => f)))
          have hB9' := (hB9.keptF hf10.kept (fun _ _ f => f)).keptF hf11.kept (fun _ _ f => f)
          have hc9 := conv_any hB9'
          have hc11 := conv_any hf11.own.isB
          have hFD := find_any W11 a9 c9 bABC x hB9' (by have := HL.out; omega)
          rw [HBB.out.all] at hFD
          have HFD := Lib.hid hFD
          clear hFD
          obtain ⟨⟨rx, re⟩, hR⟩ : ∃ R, findFirst x Ls = R := ⟨_, rfl⟩
          rw [hR] at HFD
          have HR := Lib.hid hR
          clear hR
          go_wp2_with fail
          refine HFD.out.mono ?_
          rintro e W12 ⟨rfl, hk12⟩
          clear hcA hc7 hc8 hc9 hc11
          obtain ⟨W13, hW13⟩ : ∃ W, W12.alloc (.cells #[.slice ba0 bA.length bc0, .slice ba1 bB.length bc1, .slice ba2 bC.length bc2] 22) = W := ⟨_, rfl⟩
          have hkA3 : Kept (fun _ => False) W12 W13 := by rw [← hW13]; exact (Kept.refl _ _).alloc _
          have hb13 : W13.heap[W12.heap.size]? = some (.cells #[.slice ba0 bA.length bc0, .slice ba1 bB.length bc1, .slice ba2 bC.length bc2] 22 (0, 0)) := by rw [← hW13]; exact World.alloc_heap_new _ _
          have hk13 := (hk11.more hk12 (fun _ f => f.elim)).more hkA3 (fun _ f => f.elim)
          have HROW : Hid (∀ k, k < 3 → ∃ (ua : Option Addr) (uc : Nat) (bs : List UInt8) (l : List (Nat × Nat)), [bA, bB, bC][k]? = some bs ∧ Ls[k]? = some l ∧ W13.cell? ⟨W12.heap.size, k, none⟩ = some (.slice ua bs.length uc) ∧ bs.length ≤ 100000 ∧ IsB W13 (.slice ua bs.length uc) bs) := Lib.hid (fun k hk => by
            obtain ⟨i1, i2, i3⟩ := HF.out W13 hk13
            have hn := HBB.out.n
            have hl := HL.out
            have hlk : Ls[k]? = some (Ls[k]'(by omega)) := List.getElem?_eq_getElem (by omega)
            match k, hk, hlk with
            | 0, _, hlk => exact ⟨_, _, _, _, rfl, hlk, by simp [World.cell?, hb13], by omega, i1⟩
            | 1, _, hlk => exact ⟨_, _, _, _, rfl, hlk, by simp [World.cell?, hb13], by omega, i2⟩
            | 2, _, hlk => exact ⟨_, _, _, _, rfl, hlk, by simp [World.cell?, hb13], by omega, i3⟩)
          have HW13 := Lib.hid hW13
          clear hW13 hb13 hkA3
          go_wp2_with fail
          go_loopw [161] (fun iv wr => Kept (fun _ => False) W13 wr ∧ ∃ k : Nat, k ≤ 3 ∧ iv = .int .i64 k ∧ Hid (findFirst x (Ls.drop k) = (rx, re))) (fun iv _ => 3 - (intOf iv).toNat)
          case atStart =>
            rw [HW13.out]
            exact ⟨Kept.refl _ _, 0, by omega, rfl, Lib.hid (by rw [List.drop_zero]; exact HR.out)⟩
          case round =>
            obtain ⟨hkr, k, hk3, rfl, HK⟩ := hrel
            by_cases hlt : k < 3
            · obtain ⟨ua, uc, bs, l, hbs, hl, hc, hbl, hI⟩ := HROW.out k hlt
              have hcr := hkr.cell hc (fun f => f)
              have hFD := find_any wr ua uc bs x (hI.keptF hkr (fun _ _ f => f)) (by omega)
              rw [HBB.out.find k bs l hbs hl] at hFD
              have hdr : Ls.drop k = l :: Ls.drop (k + 1) := by
                obtain ⟨hkl, hke⟩ := List.getElem?_eq_some_iff.1 hl
                rw [List.drop_eq_getElem_cons hkl, hke]
              have HK2 : Hid ((if (findIn l x).2 = 0 then findIn l x else findFirst x (Ls.drop (k + 1))) = (rx, re)) := Lib.hid (by
                have := HK.out
                rw [hdr] at this
                exact this)
              obtain ⟨⟨fx, fe⟩, hfi⟩ : ∃ q, findIn l x = q := ⟨_, rfl⟩
              rw [hfi] at HK2 hFD
              have HFD2 := Lib.hid hFD
              clear hFD hdr hfi hbs hl hc hI HK
              go_wp2_with fail
              refine HFD2.out.mono ?_
              rintro e W14 ⟨rfl, hk14⟩
              by_cases hfe : fe = 0
              · subst hfe
                have hq : (fx, (0 : Int)) = (rx, re) := HK2.out
                obtain ⟨rfl, rfl⟩ : fx = rx ∧ 0 = re := by simpa using hq
                have hkE := Lib.hid (((HKW.out.1.more hk13 (fun _ f => f.elim)).more hkr (fun _ f => f.elim)).more hk14 (fun _ f => f.elim))
                have hDE := Lib.hid ((hkr.more hk14 (fun _ f => f.elim)).block D (Array.getElem?_eq_some_iff.1 ((hk13.block D (Array.getElem?_eq_some_iff.1 HKW.out.2.1).1 (fun f => f)).trans HKW.out.2.1)).1 (fun f => f) |>.trans ((hk13.block D (Array.getElem?_eq_some_iff.1 HKW.out.2.1).1 (fun f => f)).trans HKW.out.2.1))
                go_wp2_with fail
                refine (wakes_any W14).mono ?_
                rintro e W15 ⟨rfl, hk15⟩
                go_wp2
                refine ⟨by simp, .inl ⟨_, _, rfl, run_takeDeferred ((hk15.block D (Array.getElem?_eq_some_iff.1 hDE.out).1 (fun f => f)).trans hDE.out), ?_⟩⟩
                exact ⟨_, results_tmp rfl _ _ _, rfl, (hkE.out.more hk15 (fun _ f => f.elim)).grown (grownBy_putObj' _ D (.deferred none)) (fun k e hk => by cases e; have := HKW.out.2.2; omega)⟩
              · have hfe2 : ¬ fe = 0 := hfe
                have HK3 : Hid (findFirst x (Ls.drop (k + 1)) = (rx, re)) := Lib.hid (by have := HK2.out; rwa [if_neg hfe] at this)
                go_wp2_with fail
                go_roundw
                case rel => exact ⟨hkr.more hk14 (fun _ f => f.elim), k + 1, by omega, by go_num, HK3⟩
                case measure => simp [intOf]; omega
            · obtain rfl : k = 3 := by omega
              have hq : ((0 : Nat), (4 : Int)) = (rx, re) := by
                have := HK.out
                rwa [List.drop_eq_nil_of_le (by have := HBB.out.n; omega)] at this
              obtain ⟨rfl, rfl⟩ : 0 = rx ∧ 4 = re := by simpa using hq
              have hkE := Lib.hid ((HKW.out.1.more hk13 (fun _ f => f.elim)).more hkr (fun _ f => f.elim))
              have hDE := Lib.hid (hkr.block D (Array.getElem?_eq_some_iff.1 ((hk13.block D (Array.getElem?_eq_some_iff.1 HKW.out.2.1).1 (fun f => f)).trans HKW.out.2.1)).1 (fun f => f) |>.trans ((hk13.block D (Array.getElem?_eq_some_iff.1 HKW.out.2.1).1 (fun f => f)).trans HKW.out.2.1))
              go_wp2_with fail
              refine (wakes_any wr).mono ?_
              rintro e W15 ⟨rfl, hk15⟩
              go_wp2
              refine ⟨by simp, .inl ⟨_, _, rfl, run_takeDeferred ((hk15.block D (Array.getElem?_eq_some_iff.1 hDE.out).1 (fun f => f)).trans hDE.out), ?_⟩⟩
              exact ⟨_, results_tmp rfl _ _ _, rfl, (hkE.out.more hk15 (fun _ f => f.elim)).grown (grownBy_putObj' _ D (.deferred none)) (fun k e hk => by cases e; have := HKW.out.2.2; omega)⟩
        case stop =>
          rintro D c pre W _ _ h _
          exact h.elim
end Go.Proofs.Ytinmjgaaehdicaa
