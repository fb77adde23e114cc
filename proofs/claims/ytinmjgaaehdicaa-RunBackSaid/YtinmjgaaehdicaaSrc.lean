/- run.Sources. -/
import Derived.Test.YtinmjgaaehdicaaRound
namespace Go.Proofs.Ytinmjgaaehdicaa
open Go.RowKit Go.Shelf

attribute [local go_sem] Oper.semAt_some

def idsV (l : List Nat) : List Value := l.map fun x : Nat => Value.int .u64 (x : Int)
def OwnI (b : Nat) (w : World) (v : Value) (l : List Nat) : Prop := w.ownsRow b 62 1 v l.length (idsV l)
theorem OwnI.form {b : Nat} {w : World} {v : Value} {l : List Nat} (h : OwnI b w v l) : ∃ a c, v = .slice a l.length c ∧ l.length ≤ c ∧ c ≤ maxLen := by
  rcases h.2 with ⟨rfl, h0⟩ | ⟨g, cap, cur, rfl, _, _, hn, hm, _⟩
  · exact ⟨none, 0, by rw [h0], by omega, by simp [maxLen]⟩
  · exact ⟨_, cap, rfl, hn, hm⟩
theorem Try.info62 : (Try.prog.info? 62).map (fun i => (i.zero, i.size, i.bytes)) = some (some (.int .u64 0), 1, 8) := by kernel_rfl
/-- The ids for which an id stands. -/
def srcOf (t : Nat) (l : List (Nat × Nat)) : List Nat := (l.filter fun p => decide (p.2 = t)).map (·.1)

theorem OwnI.push {b : Nat} {w : World} {v : Value} {l : List Nat} (h : OwnI b w v l) (hk0 : b ≤ w.heap.size) (a : Addr) (p : Nat) (h0 : w.cell? a = some (.int .u64 p)) (hl : l.length + 1 ≤ 1000000000000) :
    ∃ v' w', (Builtin.append_ #[73, 73] 73 #[v, .slice (some a) 1 1]).run Try.prog w = .ok v' w' ∧ OwnI b w' v' (l ++ [p]) ∧ w.grownBy w' v.ownBlock ∧ (v'.ownBlock = v.ownBlock ∨ v'.ownBlock = some w.heap.size) := by
  obtain ⟨i0, hi, hz0, hz1, hz2⟩ := info_parts Try.info62
  obtain ⟨v', w', hrun, ho2, hg2, -, hb2⟩ := run_append_own_at (P := Try.prog) w b 73 73 62 i0 _ 1 8 Try.underlying73 hi hz0 hz1 hz2 rfl (by decide) _ _ _ h a 1 1 [.int .u64 (p : Int)] rfl (by
    intro j u hu
    match j, hu with
    | 0, hu => cases hu; exact h0
    | j + 1, hu => simp at hu) (by intro u hu; simp at hu; subst hu; rfl) (by unfold maxLen; omega) (by omega) hk0
  refine ⟨v', w', hrun, ?_, hg2, hb2⟩
  unfold OwnI idsV
  rw [List.map_append, List.length_append]
  exact ho2

theorem pairsOf_len (bs : List UInt8) : (pairsOf bs).1.length ≤ 65536 := by
  unfold pairsOf
  split
  · simp
  · rename_i hc
    obtain ⟨q, hq⟩ : ∃ q, pairsGo (RM.mk bs 0).uint.1 (RM.mk bs 0).uint.2 0 [] = q := ⟨_, rfl⟩
    rw [hq]
    cases q with
    | none => simp [pairsEnd]
    | some q =>
      obtain ⟨l, r⟩ := q
      obtain ⟨l2, rfl, h1, -⟩ := pairsGo_rising _ _ _ _ l r hq
      simp only [pairsEnd]
      omega
theorem OwnI.at {b : Nat} {w : World} {a : Option Addr} {n c : Nat} {l : List Nat} (h : OwnI b w (.slice a n c) l) {k : Nat} (hk : k < l.length) : ∃ g, a = some ⟨g, 0, none⟩ ∧ g < w.heap.size ∧ ∀ j (hj : j < l.length), w.cell? ⟨g, j, none⟩ = some (.int .u64 l[j]) := by
  rcases h.2 with ⟨e, h0⟩ | ⟨g, cap, cur, e, hb, hg, hn, hm, hs, ht⟩
  · rw [h0] at hk; omega
  · cases e
    refine ⟨g, rfl, (Array.getElem?_eq_some_iff.1 hg).1, fun j hj => ?_⟩
    rw [cell_of_row w g j cur 62 (0, 0) hg]
    have h1 : (idsV l)[j]? = some (.int .u64 (l[j] : Int)) := by simp [idsV, hj]
    rw [← ht, List.getElem?_take, if_pos (by omega)] at h1
    simpa using h1
theorem OwnI.kept {b : Nat} {w w' : World} {v : Value} {l : List Nat} {F : Nat → Prop} (h : OwnI b w v l) (hk : Kept F w w') (hF : ∀ g, b ≤ g → v.ownBlock = some g → ¬ F g) : OwnI b w' v l := ownsRow_keptF h hk hF
theorem OwnI.mono {b b' : Nat} {w : World} {v : Value} {l : List Nat} (h : OwnI b w v l) (hb : b' ≤ b) : OwnI b' w v l := by
  refine ⟨h.1, ?_⟩
  rcases h.2 with h2 | ⟨g, cap, cur, rfl, h3, h4⟩
  · exact .inl h2
  · exact .inr ⟨g, cap, cur, rfl, by omega, h4⟩
theorem srcOf_yes (t f : Nat) (pre : List (Nat × Nat)) : srcOf t (pre ++ [(f, t)]) = srcOf t pre ++ [f] := by simp [srcOf, List.filter_append]
theorem srcOf_no (t f u : Nat) (pre : List (Nat × Nat)) (h : u ≠ t) : srcOf t (pre ++ [(f, u)]) = srcOf t pre := by simp [srcOf, List.filter_append, h]
theorem srcOf_length (t : Nat) (l : List (Nat × Nat)) : (srcOf t l).length ≤ l.length := by unfold srcOf; rw [List.length_map]; exact List.length_filter_le _ _

set_option maxRecDepth 100000 in
set_option maxHeartbeats 2000000 in
theorem sources_any (w : World) (a : Option Addr) (c : Nat) (bs : List UInt8) (to : Nat) (h : IsB w (.slice a bs.length c) bs) (hlen : bs.length ≤ 10000) :
    Calls Try.prog 40 #[.slice a bs.length c, .int .u64 to] w fun e w' => ∃ v, e = .returned v ∧ OwnI w.heap.size w' v (srcOf to (eachOf bs)) ∧ Kept (fun _ => False) w w' := by
  refine (callsIn_wide (n := 5)).1 ?_
  refine callsIn_of_wp_marks Try.func40 rfl trivial ?_ rfl
  simp only [Try.ntmps40, List.size_toArray, List.length_cons, List.length_nil, Nat.reduceAdd, Nat.reduceSub, Array.replicate_succ, Array.replicate_zero, List.push_toArray, List.append_toArray, List.nil_append, List.cons_append]
  obtain ⟨W1, hW1⟩ : ∃ W1, w.alloc (.cells #[.int .u64 to] 62) = W1 := ⟨_, rfl⟩
  obtain ⟨W2, hW2⟩ : ∃ W2, W1.alloc (.cells #[.slice none 0 0] 73) = W2 := ⟨_, rfl⟩
  have hk1 : Kept (fun _ => False) w W1 := by rw [← hW1]; exact (Kept.refl _ _).alloc _
  have hk2 : Kept (fun _ => False) W1 W2 := by rw [← hW2]; exact (Kept.refl _ _).alloc _
  have hs1 : W1.heap.size = w.heap.size + 1 := by rw [← hW1]; simp
  have hs2 : W2.heap.size = w.heap.size + 2 := by rw [← hW2]; simp [hs1]
  have hb1 : W1.heap[w.heap.size]? = some (.cells #[.int .u64 to] 62 (0, 0)) := by rw [← hW1]; exact World.alloc_heap_new _ _
  have hb2 : W2.heap[w.heap.size + 1]? = some (.cells #[.slice none 0 0] 73 (0, 0)) := by rw [← hW2, ← hs1]; exact World.alloc_heap_new _ _
  have hk12 : Kept (fun _ => False) w W2 := hk1.more hk2 (fun _ f => f.elim)
  have hE := Lib.hid (each_any W2 a c bs (h.keptF hk12 (fun _ _ f => f)) (by omega))
  have hb1' : W2.heap[w.heap.size]? = some (.cells #[.int .u64 to] 62 (0, 0)) := (hk2.block _ (by omega) (fun f => f)).trans hb1
  have HW1 := Lib.hid hW1
  have HW2 := Lib.hid hW2
  have HB := Lib.hid (And.intro hb1' hb2)
  have HS2 := Lib.hid hs2
  clear hW1 hW2 hb1 hb2 hb1' hk1 hk2 hs1 hs2
  gi_wp2_with fail
  rw [HW1.out, HW2.out]
  have hs2 := HS2.out
  obtain ⟨hb1, hb2⟩ := HB.out
  refine ⟨trivial, (callsIn_wide.2 hE.out).mono ?_⟩
  rintro e W4 ⟨rfl, hBs, ⟨bv, hbv, hbB⟩, hk4⟩
  have hB4 := hk4.size
  have hb1 : W4.heap[w.heap.size]? = some (.cells #[.int .u64 to] 62 (0, 0)) := (hk4.block _ (by omega) (fun f => f)).trans hb1
  have hb2 : W4.heap[w.heap.size + 1]? = some (.cells #[.slice none 0 0] 73 (0, 0)) := (hk4.block _ (by omega) (fun f => f)).trans hb2
  have hk14 : Kept (fun _ => False) w W4 := hk12.more hk4 (fun _ f => f.elim)
  have hpl : (pairsOf bs).1.length ≤ 65536 := pairsOf_len bs
  have hnown : ∀ k, ¬ Owned (w.heap.size + 1) W4 k := fun k ⟨u, hu, hku⟩ => by
    simp [World.cell?, hb2] at hu
    subst hu
    cases hku
  gi_wp2_with fail
  refine wpIn_rangeFunc_ownH rfl (by omega) (gf := 62) (lb := #[.pointer (some ⟨w.heap.size + 2, 0, none⟩)]) rfl trivial (enters_of Try.func62 (by kernel_rfl) rfl)
    (each_stops 4 (by omega) (w.heap.size + 2) (w.heap.size + 1) bs (by omega) W4 bv (by rw [← hs2]; exact hbv) hbB (by omega) hnown) KeepX.trans (keepX_b (by omega)) (Below.refl _ _) (fun _ => rfl)
    (fun pre W => W.heap[w.heap.size]? = some (.cells #[.int .u64 to] 62 (0, 0)) ∧ (∃ v, W.heap[w.heap.size + 1]? = some (.cells #[v] 73 (0, 0)) ∧ OwnI W4.heap.size W v (srcOf to pre)) ∧ pre.length ≤ 65536 ∧ W4.heap.size ≤ W.heap.size ∧ Kept (fun _ => False) w W)
    (fun _ _ _ => False)
    ?hI (fun _ _ _ _ _ hs _ _ => hs) ⟨hb1, ⟨_, hb2, World.ownsRow_nil _ _ _ _⟩, by simp, Nat.le_refl _, hk14⟩
    (fun x a' W => ∃ Bx, W4.heap.size ≤ Bx ∧ W.heap[Bx]? = some (.cells #[.int .u64 x.1, .int .u64 x.2] 75 (0, 0)) ∧ a' = { tmps := #[.slice a bs.length c, .int .u64 to, undef, .pointer (some ⟨w.heap.size, 0, none⟩), .slice none 0 0, .pointer (some ⟨w.heap.size + 1, 0, none⟩), .pointer (some ⟨Bx, 0, none⟩), .slice a bs.length c, .func (.func 62) #[] #[.pointer (some ⟨w.heap.size + 2, 0, none⟩)], valP x, undef, undef, undef, undef, undef, undef, undef, undef, undef, undef], defers := [] })
    ?hAx ?assign ?body ?done ?stop
  case hI =>
    rintro pre A B row ⟨h1, ⟨v, h2, h3⟩, hp, hs, hk⟩ hg hr
    have hne : ∀ k, k < W4.heap.size → some k ≠ row := fun k hk e => by have := (hr k e.symm).1; omega
    refine ⟨(hg.block _ (by omega) (hne _ (by omega))).trans h1, ⟨v, (hg.block _ (by omega) (hne _ (by omega))).trans h2, World.ownsRow.kept h3 hg ?_⟩, hp, Nat.le_trans hs hg.size, hk.grown hg (fun k e hk => hne k (by omega) e.symm)⟩
    rcases h3.2 with ⟨rfl, -⟩ | ⟨g, cap, cur, rfl, -, hg', -⟩
    · exact .inl rfl
    · right
      intro e
      obtain ⟨-, o, ho, hc⟩ := hr g e.symm
      rw [hg'] at ho; cases ho; cases hc
  case hAx =>
    rintro x a' s A B row ⟨Bx, hBx, hbX, ha⟩ hg hr
    refine ⟨Bx, hBx, (hg.block Bx (Array.getElem?_eq_some_iff.1 hbX).1 (fun e => ?_)).trans hbX, ha⟩
    obtain ⟨-, o, ho, hc⟩ := hr Bx e.symm
    rw [hbX] at ho; cases ho; cases hc
  case assign =>
    rintro l' pre x W K ⟨h1, ⟨v, h2, h3⟩, hp, hs, hk⟩ hK
    obtain ⟨W', hW'⟩ : ∃ W', W.alloc (.cells #[.int .u64 x.1, .int .u64 x.2] 75) = W' := ⟨_, rfl⟩
    have hkA : Kept (fun _ => False) W W' := by rw [← hW']; exact (Kept.refl _ _).alloc _
    have hK' := hK { tmps := #[.slice a bs.length c, .int .u64 to, undef, .pointer (some ⟨w.heap.size, 0, none⟩), .slice none 0 0, .pointer (some ⟨w.heap.size + 1, 0, none⟩), .pointer (some ⟨W.heap.size, 0, none⟩), .slice a bs.length c, .func (.func 62) #[] #[.pointer (some ⟨w.heap.size + 2, 0, none⟩)], valP x, undef, undef, undef, undef, undef, undef, undef, undef, undef, undef], defers := [] } W'
      (by rw [← hW']; exact (KeepsOthers.alloc _ _).from _) (KeepX.of_kept hkA (by omega))
      ⟨(hkA.block _ (by omega) (fun f => f)).trans h1, ⟨v, (hkA.block _ (by omega) (fun f => f)).trans h2, ownsRow_keptF h3 hkA (fun _ _ _ f => f)⟩, hp, Nat.le_trans hs hkA.size, hk.more hkA (fun _ f => f.elim)⟩
      ⟨W.heap.size, hs, by rw [← hW']; exact World.alloc_heap_new W _, rfl⟩
    have HK := Lib.hid hK'
    clear hK hK'
    unfold valP at *
    gi_wp2
    exact HK.out
  case body =>
    rintro l' pre x a' W hl' ⟨r, hr⟩ ⟨h1, ⟨v, h2, h3⟩, hp, hs, hk⟩ ⟨Bx, hBx, hbX, rfl⟩ hpl2
    have c1 : W.cell? ⟨w.heap.size, 0, none⟩ = some (.int .u64 to) := by simp [World.cell?, h1]
    have c2 : W.cell? ⟨w.heap.size + 1, 0, none⟩ = some v := by simp [World.cell?, h2]
    have f2 : W.frozen? ⟨w.heap.size + 1, 0, none⟩ = false := by simp [World.frozen?, h2]
    have x0 : W.cell? ⟨Bx, 0, none⟩ = some (.int .u64 x.1) := by simp [World.cell?, hbX]
    have x1 : W.cell? ⟨Bx, 1, none⟩ = some (.int .u64 x.2) := by simp [World.cell?, hbX]
    obtain ⟨xf, xt⟩ := x
    simp only at x0 x1
    by_cases hto : xt = to
    · subst hto
      obtain ⟨WA, hWA⟩ : ∃ WA, W.alloc (.cells #[.int .u64 xf] 62) = WA := ⟨_, rfl⟩
      have hkA : Kept (fun _ => False) W WA := by rw [← hWA]; exact (Kept.refl _ _).alloc _
      have hsA : WA.heap.size = W.heap.size + 1 := by rw [← hWA]; simp
      have hA0 : WA.cell? ⟨W.heap.size, 0, none⟩ = some (.int .u64 xf) := by rw [← hWA, World.cell?_alloc_new]; rfl
      have h3A : OwnI W4.heap.size WA v (srcOf xt pre) := ownsRow_keptF h3 hkA (fun _ _ _ f => f)
      have hln : (srcOf xt pre).length + 1 ≤ 1000000000000 := by have := srcOf_length xt pre; omega
      obtain ⟨v', w', hrun, ho', hg', hob⟩ := h3A.push (by omega) ⟨W.heap.size, 0, none⟩ xf hA0 hln
      obtain ⟨oa', oc', rfl, -, -⟩ := ho'.form
      have hlt1 : w.heap.size + 1 < WA.heap.size := by omega
      have hvb : ∀ g', v.ownBlock = some g' → W4.heap.size ≤ g' ∧ g' < W.heap.size := fun g' e => World.ownsRow.lt h3 g' e
      have h2' : w'.heap[w.heap.size + 1]? = some (.cells #[v] 73 (0, 0)) := (hg'.block _ hlt1 (fun e => by have := hvb _ e.symm; omega)).trans ((hkA.block _ (by omega) (fun f => f)).trans h2)
      have h1' : w'.heap[w.heap.size]? = some (.cells #[.int .u64 xt] 62 (0, 0)) := (hg'.block _ (by omega) (fun e => by have := hvb _ e.symm; omega)).trans ((hkA.block _ (by omega) (fun f => f)).trans h1)
      have c2' : w'.cell? ⟨w.heap.size + 1, 0, none⟩ = some v := by simp [World.cell?, h2']
      have f2' : w'.frozen? ⟨w.heap.size + 1, 0, none⟩ = false := by simp [World.frozen?, h2']
      have hgs := hg'.size
      have hblk : ∀ k o, W4.heap.size ≤ k → W.heap[k]? = some o → v.ownBlock ≠ some k → (w'.setCell ⟨w.heap.size + 1, 0, none⟩ (.slice oa' (srcOf xt pre ++ [xf]).length oc')).heap[k]? = some o := fun k o hk' ho hne => by
        have hlt := (Array.getElem?_eq_some_iff.1 ho).1
        rw [heap_setCell_ne (by omega)]
        exact (hg'.block k (by omega) (fun e => hne e.symm)).trans ((hkA.block k hlt (fun f => f)).trans ho)
      have hkf : KeepsFrom W4.heap.size W (w'.setCell ⟨w.heap.size + 1, 0, none⟩ (.slice oa' (srcOf xt pre ++ [xf]).length oc')) := by
        refine ⟨by rw [heap_size_setCell]; omega, fun k o hk' ho hnc => hblk k o hk' ho (fun e => ?_)⟩
        rcases h3.2 with ⟨rfl, -⟩ | ⟨g, cap, cur, rfl, -, hg2, -⟩
        · cases e
        · cases e
          rw [hg2] at ho; cases ho; cases hnc
      have hkx : KeepX (w.heap.size + 1) W4.heap.size W (w'.setCell ⟨w.heap.size + 1, 0, none⟩ (.slice oa' (srcOf xt pre ++ [xf]).length oc')) := by
        refine ⟨by rw [heap_size_setCell]; omega, fun k o hk' ho _ hno => hblk k o hk' ho (fun e => hno ⟨v, c2, e⟩), fun k ⟨u, hu, hku⟩ => ?_⟩
        rw [World.cell?_setCell_same' _ _ _ (by rw [c2']; rfl)] at hu
        cases hu
        rcases hob with hob | hob
        · rw [hob] at hku; exact .inl ⟨v, c2, hku⟩
        · rw [hob] at hku; cases hku; exact .inr (by omega)
      have hown' : OwnI W4.heap.size (w'.setCell ⟨w.heap.size + 1, 0, none⟩ (.slice oa' (srcOf xt pre ++ [xf]).length oc')) (.slice oa' (srcOf xt pre ++ [xf]).length oc') (srcOf xt pre ++ [xf]) :=
        ownsRow_keptF ho' ((Kept.refl (fun i => i = w.heap.size + 1) w').setCell (p := ⟨w.heap.size + 1, 0, none⟩) (fun _ => rfl) _) (fun g' hg2 _ f => by omega)
      have hkw : Kept (fun _ => False) w (w'.setCell ⟨w.heap.size + 1, 0, none⟩ (.slice oa' (srcOf xt pre ++ [xf]).length oc')) := by
        refine Kept.setCell ?_ (fun h => by simp only at h; omega) _
        exact (hk.more hkA (fun _ f => f.elim)).grown hg' (fun k e hk' => by have := hvb k e; omega)
      have h1f := (heap_setCell_ne (w := w') (b := w.heap.size + 1) (o := 0) (k := w.heap.size) (by omega) (.slice oa' (srcOf xt pre ++ [xf]).length oc')).trans h1'
      have h2f := heap_setCell_row (o := 0) h2' (.slice oa' (srcOf xt pre ++ [xf]).length oc')
      have HFIN := Lib.hid (And.intro hkf (And.intro hkx (And.intro hown' (And.intro hkw (And.intro h1f h2f)))))
      clear hkf hkx hown' hkw h1f h2f hblk ho' hg' hob h2' h1'
      gi_wp2_with (gi_at_builtin; refine wpListIn_append_run rfl (.tmp 14) (.tmp 17) #[73, 73] rfl _ _ _ _ rfl rfl hrun ?_)
      obtain ⟨hkf, hkx, hown', hkw, h1f, h2f⟩ := HFIN.out
      have hsy := srcOf_yes xt xf pre
      simp only [List.length_append, List.length_singleton] at hkf hkx hkw h1f h2f hown'
      refine ⟨hkf, hkx, h1f, ⟨_, by simpa using h2f, ?_⟩, by simp; omega, Nat.le_trans hs hkf.size, hkw⟩
      rw [hsy]
      exact hown'
    · have hto2 : ¬ ((xt : Int) = (to : Int)) := by omega
      have hns := srcOf_no to xf xt pre hto
      gi_wp2
      refine ⟨KeepsFrom.refl _ _, KeepX.of_kept (Kept.refl _ _) (by omega), h1, ⟨v, h2, ?_⟩, by simp; omega, hs, hk⟩
      rw [hns]
      exact h3
  case done =>
    rintro D xs W hD rfl ⟨h1, ⟨v, h2, h3⟩, hp, hs, hk⟩ hK
    have c2 : W.cell? ⟨w.heap.size + 1, 0, none⟩ = some v := by simp [World.cell?, h2]
    obtain ⟨oa, oc, rfl, -, -⟩ := h3.form
    gi_wp2
    refine ⟨by simp, .inl ⟨_, _, rfl, run_takeDeferred hK, ?_⟩⟩
    refine ⟨_, results_tmp rfl _ _ _, _, rfl, OwnI.mono (b := W4.heap.size) ?_ (by omega), hk.grown (grownBy_putObj' _ D (.deferred none)) (fun k e hk => by cases e; omega)⟩
    refine World.ownsRow.kept h3 (grownBy_putObj' W D (.deferred Option.none)) ?_
    rcases h3.2 with ⟨e, -⟩ | ⟨g, cap, cur, e, -, hg', -⟩
    · rw [e]; exact .inl rfl
    · rw [e]
      right
      intro e2
      cases e2
      rw [hg'] at hK; cases hK
  case stop =>
    rintro D cc pre W hD hpre hf hK
    exact hf.elim
end Go.Proofs.Ytinmjgaaehdicaa
