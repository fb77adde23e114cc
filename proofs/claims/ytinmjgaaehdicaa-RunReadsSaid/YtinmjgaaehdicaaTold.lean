/- espalierlaw17.told. -/
import Derived.Test.YtinmjgaaehdicaaSeqE
import Derived.Test.YtinmjgaaehdicaaRefA
import Derived.Test.YtinmjgaaehdicaaRound
namespace Go.Proofs.Ytinmjgaaehdicaa
open Go.RowKit Go.Shelf

attribute [local go_sem] Oper.semAt_some

def toldOf (bs : List UInt8) (l : List (Nat × Nat)) : Bool := decide (eachOf bs = l)

set_option maxRecDepth 100000 in
set_option maxHeartbeats 2000000 in
theorem told_any (w : World) (a : Option Addr) (c : Nat) (bs : List UInt8) (la : Option Addr) (lc : Nat) (l : List (Nat × Nat)) (h : IsB w (.slice a bs.length c) bs) (hl : IsP w (.slice la l.length lc) l) (hlen : bs.length ≤ 100000000000000) :
    Calls Try.prog 36 #[.slice a bs.length c, .slice la l.length lc] w fun e w' => e = .returned (.bool (toldOf bs l)) ∧ Kept (fun _ => False) w w' := by
  refine (callsIn_wide (n := 5)).1 ?_
  refine callsIn_of_wp_marks Try.func36 rfl trivial ?_ rfl
  simp only [Try.ntmps36, List.size_toArray, List.length_cons, List.length_nil, Nat.reduceAdd, Nat.reduceSub, Array.replicate_succ, Array.replicate_zero, List.push_toArray, List.append_toArray, List.nil_append, List.cons_append]
  obtain ⟨W1, hW1⟩ : ∃ W1, w.alloc (.cells #[.slice la l.length lc] 54) = W1 := ⟨_, rfl⟩
  obtain ⟨W2, hW2⟩ : ∃ W2, W1.alloc (.cells #[.bool false] 4) = W2 := ⟨_, rfl⟩
  obtain ⟨W3, hW3⟩ : ∃ W3, W2.alloc (.cells #[.int .i64 0] 3) = W3 := ⟨_, rfl⟩
  have hk1 : Kept (fun _ => False) w W1 := by rw [← hW1]; exact (Kept.refl _ _).alloc _
  have hk2 : Kept (fun _ => False) W1 W2 := by rw [← hW2]; exact (Kept.refl _ _).alloc _
  have hk3 : Kept (fun _ => False) W2 W3 := by rw [← hW3]; exact (Kept.refl _ _).alloc _
  have hs1 : W1.heap.size = w.heap.size + 1 := by rw [← hW1]; simp
  have hs2 : W2.heap.size = w.heap.size + 2 := by rw [← hW2]; simp [hs1]
  have hs3 : W3.heap.size = w.heap.size + 3 := by rw [← hW3]; simp [hs2]
  have hb1 : W1.heap[w.heap.size]? = some (.cells #[.slice la l.length lc] 54 (0, 0)) := by rw [← hW1]; exact World.alloc_heap_new _ _
  have hb2 : W2.heap[w.heap.size + 1]? = some (.cells #[.bool false] 4 (0, 0)) := by rw [← hW2, ← hs1]; exact World.alloc_heap_new _ _
  have hb3 : W3.heap[w.heap.size + 2]? = some (.cells #[.int .i64 0] 3 (0, 0)) := by rw [← hW3, ← hs2]; exact World.alloc_heap_new _ _
  have hk13 : Kept (fun _ => False) w W3 := (hk1.more hk2 (fun _ f => f.elim)).more hk3 (fun _ f => f.elim)
  have hE := Lib.hid (each_any W3 a c bs (h.keptF hk13 (fun _ _ f => f)) hlen)
  have hb1' : W3.heap[w.heap.size]? = some (.cells #[.slice la l.length lc] 54 (0, 0)) := (hk3.block _ (by omega) (fun f => f)).trans ((hk2.block _ (by omega) (fun f => f)).trans hb1)
  have hb2' : W3.heap[w.heap.size + 1]? = some (.cells #[.bool false] 4 (0, 0)) := (hk3.block _ (by omega) (fun f => f)).trans hb2
  have HW1 := Lib.hid hW1
  have HW2 := Lib.hid hW2
  have HW3 := Lib.hid hW3
  have HB := Lib.hid (And.intro hb1' (And.intro hb2' hb3))
  have HS3 := Lib.hid hs3
  clear hW1 hW2 hW3 hb1 hb2 hb3 hb1' hb2' hk1 hk2 hk3 hs1 hs2 hs3
  gi_wp2_with fail
  rw [HW1.out, HW2.out, HW3.out]
  have hs3 := HS3.out
  obtain ⟨hb1, hb2, hb3⟩ := HB.out
  refine ⟨trivial, (callsIn_wide.2 hE.out).mono ?_⟩
  rintro e W4 ⟨rfl, hBs, ⟨bv, hbv, hbB⟩, hk4⟩
  have hB4 := hk4.size
  have hb1 : W4.heap[w.heap.size]? = some (.cells #[.slice la l.length lc] 54 (0, 0)) := (hk4.block _ (by omega) (fun f => f)).trans hb1
  have hb2 : W4.heap[w.heap.size + 1]? = some (.cells #[.bool false] 4 (0, 0)) := (hk4.block _ (by omega) (fun f => f)).trans hb2
  have hb3 : W4.heap[w.heap.size + 1 + 1]? = some (.cells #[.int .i64 0] 3 (0, 0)) := (hk4.block _ (by omega) (fun f => f)).trans hb3
  have hk14 : Kept (fun _ => False) w W4 := hk13.more hk4 (fun _ f => f.elim)
  have hnown : ∀ k, ¬ Owned (w.heap.size + 1 + 1) W4 k := fun k ⟨u, hu, hku⟩ => by
    simp [World.cell?, hb3] at hu
    subst hu
    cases hku
  gi_wp2_with fail
  refine wpIn_rangeFunc_ownH rfl (by omega) (gf := 62) (lb := #[.pointer (some ⟨w.heap.size + 3, 0, none⟩)]) rfl trivial (enters_of Try.func62 (by kernel_rfl) rfl)
    (each_stops 4 (by omega) (w.heap.size + 3) (w.heap.size + 1 + 1) bs hlen W4 bv (by rw [← hs3]; exact hbv) hbB (by omega) hnown) KeepX.trans (keepX_b (by omega)) (Below.refl _ _) (fun _ => rfl)
    (fun pre W => (W.heap[w.heap.size]? = some (.cells #[.slice la l.length lc] 54 (0, 0)) ∧ W.heap[w.heap.size + 1]? = some (.cells #[.bool false] 4 (0, 0)) ∧ W.heap[w.heap.size + 1 + 1]? = some (.cells #[.int .i64 pre.length] 3 (0, 0))) ∧ pre <+: l ∧ W4.heap.size ≤ W.heap.size ∧ Kept (fun _ => False) w W)
    (fun c pre W => c = .ret ∧ ¬ pre <+: l ∧ W.heap[w.heap.size + 1]? = some (.cells #[.bool false] 4 (0, 0)) ∧ Kept (fun _ => False) w W)
    ?hI ?hIx ⟨⟨hb1, hb2, hb3⟩, List.nil_prefix, Nat.le_refl _, hk14⟩
    (fun x a' W => ∃ Bx, W4.heap.size ≤ Bx ∧ W.heap[Bx]? = some (.cells #[.int .u64 x.1, .int .u64 x.2] 75 (0, 0)) ∧ a' = { tmps := #[.slice a bs.length c, .slice la l.length lc, undef, .pointer (some ⟨w.heap.size, 0, none⟩), .pointer (some ⟨w.heap.size + 1, 0, none⟩), .pointer (some ⟨w.heap.size + 1 + 1, 0, none⟩), .pointer (some ⟨Bx, 0, none⟩), .slice a bs.length c, .func (.func 62) #[] #[.pointer (some ⟨w.heap.size + 3, 0, none⟩)], valP x, undef, undef, undef, undef, undef, undef, undef, undef, undef, undef, undef, undef, undef, undef, undef, undef, undef, undef], defers := [] })
    ?hAx ?assign ?body ?done ?stop
  case hI =>
    rintro pre A B row ⟨⟨h1, h2, h3⟩, hp, hs, hk⟩ hg hr
    have hne : ∀ k, k < W4.heap.size → some k ≠ row := fun k hk e => by have := (hr k e.symm).1; omega
    exact ⟨⟨(hg.block _ (by omega) (hne _ (by omega))).trans h1, (hg.block _ (by omega) (hne _ (by omega))).trans h2, (hg.block _ (by omega) (hne _ (by omega))).trans h3⟩, hp, Nat.le_trans hs hg.size, hk.grown hg (fun k e hk => hne k (by omega) e.symm)⟩
  case hIx =>
    rintro c pre A B row ⟨h0, hp, h2, hk⟩ hg hr
    have hne : ∀ k, k < W4.heap.size → some k ≠ row := fun k hk e => by have := (hr k e.symm).1; omega
    have hlt := (Array.getElem?_eq_some_iff.1 h2).1
    exact ⟨h0, hp, (hg.block _ hlt (hne _ (by omega))).trans h2, hk.grown hg (fun k e hk => hne k (by omega) e.symm)⟩
  case hAx =>
    rintro x a' s A B row ⟨Bx, hBx, hbX, ha⟩ hg hr
    refine ⟨Bx, hBx, (hg.block Bx (Array.getElem?_eq_some_iff.1 hbX).1 (fun e => ?_)).trans hbX, ha⟩
    obtain ⟨-, o, ho, hc⟩ := hr Bx e.symm
    rw [hbX] at ho; cases ho; cases hc
  case assign =>
    rintro l' pre x W K ⟨⟨h1, h2, h3⟩, hp, hs, hk⟩ hK
    obtain ⟨W', hW'⟩ : ∃ W', W.alloc (.cells #[.int .u64 x.1, .int .u64 x.2] 75) = W' := ⟨_, rfl⟩
    have hkA : Kept (fun _ => False) W W' := by rw [← hW']; exact (Kept.refl _ _).alloc _
    have hK' := hK { tmps := #[.slice a bs.length c, .slice la l.length lc, undef, .pointer (some ⟨w.heap.size, 0, none⟩), .pointer (some ⟨w.heap.size + 1, 0, none⟩), .pointer (some ⟨w.heap.size + 1 + 1, 0, none⟩), .pointer (some ⟨W.heap.size, 0, none⟩), .slice a bs.length c, .func (.func 62) #[] #[.pointer (some ⟨w.heap.size + 3, 0, none⟩)], valP x, undef, undef, undef, undef, undef, undef, undef, undef, undef, undef, undef, undef, undef, undef, undef, undef, undef, undef], defers := [] } W'
      (by rw [← hW']; exact (KeepsOthers.alloc _ _).from _) (KeepX.of_kept hkA (by omega))
      ⟨⟨(hkA.block _ (by omega) (fun f => f)).trans h1, (hkA.block _ (by omega) (fun f => f)).trans h2, (hkA.block _ (by omega) (fun f => f)).trans h3⟩, hp, Nat.le_trans hs hkA.size, hk.more hkA (fun _ f => f.elim)⟩
      ⟨W.heap.size, hs, by rw [← hW']; exact World.alloc_heap_new W _, rfl⟩
    have HK := Lib.hid hK'
    clear hK hK'
    unfold valP at *
    gi_wp2
    exact HK.out
  case body =>
    rintro l' pre x a' W hl' ⟨r, hr⟩ ⟨⟨h1, h2, h3⟩, hp, hs, hk⟩ ⟨Bx, hBx, hbX, rfl⟩ -
    have c1 : W.cell? ⟨w.heap.size, 0, none⟩ = some (.slice la l.length lc) := by simp [World.cell?, h1]
    have c2 : W.cell? ⟨w.heap.size + 1, 0, none⟩ = some (.bool false) := by simp [World.cell?, h2]
    have c3 : W.cell? ⟨w.heap.size + 1 + 1, 0, none⟩ = some (.int .i64 pre.length) := by simp [World.cell?, h3]
    have f2 : W.frozen? ⟨w.heap.size + 1, 0, none⟩ = false := by simp [World.frozen?, h2]
    have f3 : W.frozen? ⟨w.heap.size + 1 + 1, 0, none⟩ = false := by simp [World.frozen?, h3]
    have x0 : W.cell? ⟨Bx, 0, none⟩ = some (.int .u64 x.1) := by simp [World.cell?, hbX]
    have x1 : W.cell? ⟨Bx, 1, none⟩ = some (.int .u64 x.2) := by simp [World.cell?, hbX]
    have hlW := hl.kept hk
    have hret : Hid (∀ q, KeepsFrom W4.heap.size W ((W.drewN q).setCell ⟨w.heap.size + 1, 0, none⟩ (.bool false)) ∧ (((W.drewN q).setCell ⟨w.heap.size + 1, 0, none⟩ (.bool false)).heap[w.heap.size + 1]? = some (.cells #[.bool false] 4 (0, 0)) ∧ Kept (fun _ => False) w ((W.drewN q).setCell ⟨w.heap.size + 1, 0, none⟩ (.bool false)))) := Lib.hid (by
      intro q
      have hkf : KeepsFrom W4.heap.size W (W.setCell ⟨w.heap.size + 1, 0, none⟩ (.bool false)) := (KeepsOthers.setCell _ _ _).from _
      have h2' := heap_setCell_row (o := 0) h2 (.bool false)
      exact ⟨⟨hkf.size, hkf.same⟩, h2', (hk.drewN q).setCell (p := ⟨w.heap.size + 1, 0, none⟩) (fun h => by simp only at h; omega) _⟩)
    by_cases hge : l.length ≤ pre.length
    · have hge' : (l.length : Int) ≤ (pre.length : Int) := by omega
      gi_wp2
      refine wpIn_region_quiet_round (F := Fence.wide) l' rfl (noDefer (by kernel_rfl)) (by kernel_rfl) (by kernel_rfl) ?_
      repeat (quiet_step_in (fail))
      refine wpQuietIn_nil ?_
      intro _ hw'
      obtain ⟨nq, hw''⟩ := hw'
      subst hw''
      gi_wp2
      obtain ⟨q1, q2, q3⟩ := hret.out nq
      exact ⟨q1, rfl, fun hq => by have := hq.length_le; simp at this; omega, q2, q3⟩
    · have hge' : ¬ (l.length : Int) ≤ (pre.length : Int) := by omega
      obtain ⟨g, o, rfl, hg, hc⟩ := hlW.at (k := pre.length) (by omega)
      obtain ⟨d0, d1⟩ := hc pre.length (by omega)
      by_cases hxy : l[pre.length] = x
      · rw [hxy] at d0 d1
        gi_wp2
        refine wpIn_region_quiet_round (F := Fence.wide) l' rfl (noDefer (by kernel_rfl)) (by kernel_rfl) (by kernel_rfl) ?_
        repeat (quiet_step_in (fail))
        refine wpQuietIn_nil ?_
        intro _ hw'
        obtain ⟨nq, hw''⟩ := hw'
        subst hw''
        gi_wp2
        have hlm : l.length ≤ maxLen := by obtain ⟨_, _, e, q1, q2, -⟩ := hl; cases e; omega
        have hw64 : wrap64 ((pre.length : Int) + 1) = (((pre ++ [x]).length : Nat) : Int) := by
          rw [List.length_append, List.length_singleton]
          unfold maxLen at hlm
          unfold wrap64
          omega
        rw [hw64]
        have h2' := heap_setCell_ne (w := W) (b := w.heap.size + 1 + 1) (o := 0) (k := w.heap.size + 1) (by omega) (.int .i64 (((pre ++ [x]).length : Nat) : Int))
        have h1' := heap_setCell_ne (w := W) (b := w.heap.size + 1 + 1) (o := 0) (k := w.heap.size) (by omega) (.int .i64 (((pre ++ [x]).length : Nat) : Int))
        have h3' := heap_setCell_row (o := 0) h3 (.int .i64 (((pre ++ [x]).length : Nat) : Int))
        have hkf : KeepsFrom W4.heap.size W (W.setCell ⟨w.heap.size + 1 + 1, 0, none⟩ (.int .i64 (((pre ++ [x]).length : Nat) : Int))) := (KeepsOthers.setCell _ _ _).from _
        have hkx : KeepX (w.heap.size + 1 + 1) W4.heap.size W (W.setCell ⟨w.heap.size + 1 + 1, 0, none⟩ (.int .i64 (((pre ++ [x]).length : Nat) : Int))) := by
          refine ⟨by simp, fun k o hk' ho _ _ => (heap_setCell_ne (by omega) _).trans ho, fun k ⟨u, hu, hku⟩ => ?_⟩
          rw [World.cell?_setCell_same' _ _ _ (by rw [c3]; rfl)] at hu
          cases hu
          cases hku
        have hpx : (pre ++ [x]) <+: l := by
          obtain ⟨t, ht⟩ := hp
          have e1 : l.take pre.length = pre := by rw [← ht]; simp
          have e2 := List.take_succ_eq_append_getElem (l := l) (i := pre.length) (by omega)
          rw [e1, hxy] at e2
          rw [← e2]
          exact List.take_prefix _ _
        exact ⟨⟨hkf.size, hkf.same⟩, ⟨hkx.size, hkx.block, hkx.own⟩, ⟨h1'.trans h1, h2'.trans h2, h3'⟩, hpx, by simp; omega, (((hk.drewN nq).setCell (p := ⟨w.heap.size + 1 + 1, 0, none⟩) (fun h => by simp only at h; omega) _))⟩
      · have hxy2 : ¬ (x.1 = l[pre.length].1 ∧ x.2 = l[pre.length].2) := fun e => hxy (Prod.ext e.1.symm e.2.symm)
        have hNP : Hid (¬ (pre ++ [x]) <+: l) := Lib.hid (fun hq => hxy (by
          have := hq.getElem (i := pre.length) (by simp)
          simpa using this.symm))
        generalize l[pre.length] = y at *
        obtain ⟨yf, yt⟩ := y
        obtain ⟨xf, xt⟩ := x
        simp only at d0 d1 hxy2 x0 x1
        by_cases hf : xf = yf
        · have ht : ¬ ((xt : Int) = (yt : Int)) := fun e => hxy2 ⟨hf, by omega⟩
          subst hf
          gi_wp2
          refine wpIn_region_quiet_round (F := Fence.wide) l' rfl (noDefer (by kernel_rfl)) (by kernel_rfl) (by kernel_rfl) ?_
          repeat (quiet_step_in (fail))
          refine wpQuietIn_nil ?_
          intro _ hw'
          obtain ⟨nq, hw''⟩ := hw'
          subst hw''
          gi_wp2
          obtain ⟨q1, q2, q3⟩ := hret.out nq
          exact ⟨q1, rfl, hNP.out, q2, q3⟩
        · have hf2 : ¬ ((xf : Int) = (yf : Int)) := by omega
          gi_wp2
          refine wpIn_region_quiet_round (F := Fence.wide) l' rfl (noDefer (by kernel_rfl)) (by kernel_rfl) (by kernel_rfl) ?_
          repeat (quiet_step_in (fail))
          refine wpQuietIn_nil ?_
          intro _ hw'
          obtain ⟨nq, hw''⟩ := hw'
          subst hw''
          gi_wp2
          obtain ⟨q1, q2, q3⟩ := hret.out nq
          exact ⟨q1, rfl, hNP.out, q2, q3⟩
  case done =>
    rintro D xs W hD rfl ⟨⟨h1, h2, h3⟩, hp, hs, hk⟩ hK
    have c1 : W.cell? ⟨w.heap.size, 0, none⟩ = some (.slice la l.length lc) := by simp [World.cell?, h1]
    have c2 : W.cell? ⟨w.heap.size + 1, 0, none⟩ = some (.bool false) := by simp [World.cell?, h2]
    have c3 : W.cell? ⟨w.heap.size + 1 + 1, 0, none⟩ = some (.int .i64 (eachOf bs).length) := by simp [World.cell?, h3]
    have f2 : W.frozen? ⟨w.heap.size + 1, 0, none⟩ = false := by simp [World.frozen?, h2]
    gi_wp2
    obtain ⟨r, hr⟩ : ∃ r : Bool, (((eachOf bs).length : Int) == (l.length : Int)) = r := ⟨_, rfl⟩
    rw [hr]
    have hK' : (W.setCell ⟨w.heap.size + 1, 0, none⟩ (.bool r)).heap[D]? = some (.deferred (some [])) := (heap_setCell_ne (by omega) _).trans hK
    refine ⟨by simp, .inl ⟨_, _, rfl, run_takeDeferred hK', ?_⟩⟩
    have hc5 : ((W.setCell ⟨w.heap.size + 1, 0, none⟩ (.bool r)).putObj D (.deferred none)).cell? ⟨w.heap.size + 1, 0, none⟩ = some (.bool r) :=
      (World.cell?_of_block (World.putObj_heap_other (k := w.heap.size + 1) (by omega))).trans (World.cell?_setCell_same' _ _ _ (by rw [c2]; rfl))
    refine ⟨.bool r, by simp [results, Try.f36, go_sem, hc5], ?_, (hk.setCell (p := ⟨w.heap.size + 1, 0, none⟩) (fun h => by simp only at h; omega) _).grown (grownBy_putObj' _ D (.deferred none)) (fun k e hk => by cases e; omega)⟩
    unfold toldOf
    rw [← hr]
    have : (eachOf bs = l) ↔ ((eachOf bs).length : Int) = (l.length : Int) := by
      constructor
      · intro e; rw [e]
      · intro e; exact hp.eq_of_length (by omega)
    by_cases he : eachOf bs = l
    · simp [he]
    · simp only [he, decide_false]
      simpa using fun e => he (this.2 (by omega))
  case stop =>
    rintro D cc pre W hD hpre ⟨rfl, hnp, h2, hk⟩ hK
    have c2 : W.cell? ⟨w.heap.size + 1, 0, none⟩ = some (.bool false) := by simp [World.cell?, h2]
    gi_wp2
    refine ⟨by simp, .inl ⟨_, _, rfl, run_takeDeferred hK, ?_⟩⟩
    have hc5 : (W.putObj D (.deferred none)).cell? ⟨w.heap.size + 1, 0, none⟩ = some (.bool false) :=
      (World.cell?_of_block (World.putObj_heap_other (k := w.heap.size + 1) (by omega))).trans c2
    refine ⟨.bool false, by simp [results, Try.f36, go_sem, hc5], ?_, hk.grown (grownBy_putObj' _ D (.deferred none)) (fun k e hk => by cases e; omega)⟩
    unfold toldOf
    rw [decide_eq_false (p := eachOf bs = l) (fun e => hnp (by rw [← e]; exact hpre))]
end Go.Proofs.Ytinmjgaaehdicaa
