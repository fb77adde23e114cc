/- espalierlaw08.same. -/
import Derived.Test.YtjnhkepgoghogaaGreatDoorRqI
import Derived.Test.YtjnhkepgoghogaaGreatDoorRqL
import Derived.LoopN
namespace Go.Proofs.YtjnhkepgoghogaaGreatDoor
open Go.RowKit Go.Shelf
set_option linter.unusedSimpArgs false
attribute [local go_sem] Oper.semAt_some

/-- A slice of strings. -/
def IsS (w : World) (v : Value) (l : List ByteArray) : Prop :=
  ∃ a c, v = .slice a l.length c ∧ l.length ≤ c ∧ c ≤ maxLen ∧ (l = [] ∨ ∃ g o, a = some ⟨g, o, none⟩ ∧ g < w.heap.size ∧ ∀ i x, l[i]? = some x → w.cell? ⟨g, o + i, none⟩ = some (.string x))
theorem IsS.at {w : World} {a : Option Addr} {n c : Nat} {l : List ByteArray} (h : IsS w (.slice a n c) l) {k : Nat} (hk : k < l.length) : ∃ g o, a = some ⟨g, o, none⟩ ∧ g < w.heap.size ∧ w.cell? ⟨g, o + k, none⟩ = some (.string l[k]) := by
  obtain ⟨a', c', e, -, -, h3⟩ := h
  cases e
  rcases h3 with rfl | ⟨g, o, rfl, hg, hc⟩
  · simp at hk
  · exact ⟨g, o, rfl, hg, hc k _ (List.getElem?_eq_getElem hk)⟩
theorem IsS.keptN {w w' : World} {v : Value} {l : List ByteArray} (h : IsS w v l) (hk : Kept (fun _ => False) w w') : IsS w' v l := by
  obtain ⟨a, c, rfl, h1, h2, h3⟩ := h
  refine ⟨a, c, rfl, h1, h2, h3.imp id ?_⟩
  rintro ⟨g, o, rfl, hg, hc⟩
  exact ⟨g, o, rfl, Nat.lt_of_lt_of_le hg hk.size, fun i x hx => hk.cell (hc i x hx) (fun f => f)⟩

/-- What stands while same goes on. -/
structure SameAt (w : World) (r n c : Nat) (a : Option Addr) (W : World) : Prop where
  b0 : W.heap[w.heap.size]? = some (.cells #[.pointer (some ⟨r, 0, none⟩)] 26 (0, 0))
  b1 : W.heap[w.heap.size + 1]? = some (.cells #[.slice a n c] 32 (0, 0))
  b2 : W.heap[w.heap.size + 1 + 1]? = some (.cells #[.bool false] 4 (0, 0))
  b3 : W.heap[w.heap.size + 1 + 1 + 1]? = some (.cells #[.pointer (some ⟨r, 0, none⟩)] 26 (0, 0))
  size : w.heap.size + 1 + 1 + 1 + 1 ≤ W.heap.size
  kept : Kept (fun _ => False) w W
theorem SameAt.on {w W W' : World} {r n c : Nat} {a : Option Addr} (h : SameAt w r n c a W) {G : Nat → Prop} (hk : Kept G W W') (hG : ∀ k, k < w.heap.size + 1 + 1 + 1 + 1 → ¬ G k) : SameAt w r n c a W' :=
  have hs := h.size
  ⟨(hk.block _ (by omega) (hG _ (by omega))).trans h.b0, (hk.block _ (by omega) (hG _ (by omega))).trans h.b1, (hk.block _ (by omega) (hG _ (by omega))).trans h.b2, (hk.block _ (by omega) (hG _ (by omega))).trans h.b3, Nat.le_trans hs hk.size,
    h.kept.trans hk (fun k hlt g => absurd g (hG k (by omega)))⟩

/-- What the ranges over functions have laid by is taken, all of it nothing. -/
theorem leaves_taken {F : Fence} {n : Nat} {P : Program} {fn : Func} {tmps : Array Value} {R : Ending → World → Prop} : ∀ (Ds : List Nat) (W : World), Ds.Nodup → (∀ D ∈ Ds, W.heap[D]? = some (.deferred (some []))) →
    (∀ W', Kept (fun k => k ∈ Ds) W W' → LeavesInM F n P fn tmps R [] .returning W') → LeavesInM F n P fn tmps R (Ds.map fun D => { target := .collected D, args := #[] }) .returning W
  | [], W, _, _, h => h W (Kept.refl _ _)
  | D :: Ds, W, hn, hD, h => by
    have hn' := List.nodup_cons.1 hn
    have hK := hD D (by simp)
    refine ⟨by simp, .inl ⟨_, _, rfl, run_takeDeferred hK, ?_⟩⟩
    have hkD : Kept (· = D) W (W.putObj D (.deferred none)) := (Kept.refl _ _).grown (grownBy_putObj' W D (.deferred none)) (fun k e _ => by cases e; rfl)
    refine leaves_taken Ds _ hn'.2 (fun E hE => ?_) (fun W' hk => h W' ((hkD.mono (fun _ _ e => by rw [e]; exact List.mem_cons_self ..)).trans hk (fun k _ hk' => List.mem_cons_of_mem _ hk')))
    have hne : ¬ E = D := fun e => hn'.1 (e ▸ hE)
    have h2 := hD E (List.mem_cons_of_mem _ hE)
    exact (hkD.block E (Array.getElem?_eq_some_iff.1 h2).1 hne).trans h2
theorem name_post {F : Fence} {n : Nat} {P : Program} {c : Code} {Q : Exit → Act → World → Prop} {a : Act} {w : World} (h : ∀ Q0, Q0 = Q → c.wpIn F n P Q0 a w) : c.wpIn F n P Q a w := h Q rfl
set_option maxRecDepth 100000 in
set_option maxHeartbeats 2000000 in
theorem same_any {w : World} {r im : Nat} {ies : Array MapEntry} {iclk : Nat} {jp : Value} {l S : IdsL} (h : RefsI w r im ies iclk jp l S) (hks : ∀ p ∈ S, p.1.size ≤ 1000) (hz : ∀ p ∈ S, p.2 ≠ 0) (hl : S.length ≤ 100000) (a : Option Addr) (c : Nat) (h2 : IsR w (.slice a (allOf S).length c) (allOf S))
    (na : Option Addr) (nc : Nat) (ns : List ByteArray) (hns : IsS w (.slice na ns.length nc) ns) :
    Calls Tryz.prog 15 #[.pointer (some ⟨r, 0, none⟩), .agg #[.slice a (allOf S).length c], .slice na ns.length nc] w fun e w' => e = .returned (.bool true) ∧ Kept (fun _ => False) w w' := by
  have HI := Lib.hid h
  have HRL : Hid (r < w.heap.size ∧ im < w.heap.size) := Lib.hid ⟨(Array.getElem?_eq_some_iff.1 h.cell).1, h.ids.lt⟩
  have HL := Lib.hid h2
  have HNS := Lib.hid hns
  have hlen : (allOf S).length ≤ 100000 := by rw [allOf_length]; exact hl
  obtain ⟨n, hn⟩ : ∃ n, (allOf S).length = n := ⟨_, rfl⟩
  rw [hn] at HL hlen ⊢
  have HN := Lib.hid hn
  have hnl : S.length = n := by rw [← hn, allOf_length]
  obtain ⟨q, hq⟩ : ∃ n, ns.length = n := ⟨_, rfl⟩
  have hqm : q ≤ maxLen := by obtain ⟨_, _, e, h1, h2, -⟩ := hns; cases e; omega
  unfold maxLen at hqm
  rw [hq] at HNS ⊢
  have HQ := Lib.hid hq
  have HNL := Lib.hid hnl
  obtain ⟨w3, hw3⟩ : ∃ W, ((w.alloc (.cells #[.pointer (some ⟨r, 0, none⟩)] 26)).alloc (.cells #[.slice a n c] 32)).alloc (.cells #[.bool false] 4) = W := ⟨_, rfl⟩
  have hk3 : Kept (fun _ => False) w w3 := by rw [← hw3]; exact (((Kept.refl _ _).alloc _).alloc _).alloc _
  have hs3 : w3.heap.size = w.heap.size + 1 + 1 + 1 := by rw [← hw3]; simp
  have hb0 : w3.heap[w.heap.size]? = some (.cells #[.pointer (some ⟨r, 0, none⟩)] 26 (0, 0)) := by rw [← hw3]; exact alloc_old (alloc_old (heap_alloc_new _ _))
  have hb1 : w3.heap[w.heap.size + 1]? = some (.cells #[.slice a n c] 32 (0, 0)) := by
    have h7 := heap_alloc_new (w.alloc (.cells #[.pointer (some ⟨r, 0, none⟩)] 26)) (.cells #[.slice a n c] 32)
    rw [World.size_alloc] at h7
    rw [← hw3]; exact alloc_old h7
  have hb2 : w3.heap[w.heap.size + 1 + 1]? = some (.cells #[.bool false] 4 (0, 0)) := by
    have h7 := heap_alloc_new ((w.alloc (.cells #[.pointer (some ⟨r, 0, none⟩)] 26)).alloc (.cells #[.slice a n c] 32)) (.cells #[.bool false] 4)
    rw [World.size_alloc, World.size_alloc] at h7
    rw [← hw3]; exact h7
  have HB3 := Lib.hid (And.intro hb0 (And.intro hb1 (And.intro hb2 (And.intro hk3 hs3))))
  have c0 : w3.cell? ⟨w.heap.size, 0, none⟩ = some (.pointer (some ⟨r, 0, none⟩)) := by simp [World.cell?, hb0]
  have HW3 := Lib.hid hw3
  clear hw3 hk3 hs3 hb0 hb1 hb2 h h2 hns hn hq hnl
  refine (callsIn_wide (n := 5)).1 ?_
  refine callsIn_of_wp_marks Tryz.func15 rfl trivial ?_ rfl
  refine (wpIn_wide (n := 5)).2 ?_
  simp only [Tryz.ntmps15, List.size_toArray, List.length_cons, List.length_nil, Nat.reduceAdd, Nat.reduceSub, Array.replicate_succ, Array.replicate_zero, List.push_toArray, List.append_toArray, List.nil_append, List.cons_append]
  go_wp2_with fail
  rw [HW3.out]
  clear HW3
  refine (rall_any (some ⟨r, 0, none⟩) w3).mono ?_
  rintro e W4 ⟨rfl, hW4⟩
  have hk4 : Kept (fun _ => False) w3 W4 := by rw [hW4]; exact (Kept.refl _ _).alloc _
  obtain ⟨hb0, hb1, hb2, hk3, hs3⟩ := HB3.out
  have hs4 : W4.heap.size = w3.heap.size + 1 := by rw [hW4]; simp
  have hb4 : W4.heap[w3.heap.size]? = some (.cells #[.pointer (some ⟨r, 0, none⟩)] 26 (0, 0)) := by rw [hW4]; exact heap_alloc_new _ _
  have hb0' := (hk4.block _ (by omega) (fun f => f)).trans hb0
  have hb1' := (hk4.block _ (by omega) (fun f => f)).trans hb1
  have hb2' := (hk4.block _ (by omega) (fun f => f)).trans hb2
  have HA4 : Hid (SameAt w r n c a W4) := Lib.hid ⟨hb0', hb1', hb2', by rw [← hs3]; exact hb4, by omega, hk3.more hk4 (fun _ f => f.elim)⟩
  have c0' : W4.cell? ⟨w.heap.size, 0, none⟩ = some (.pointer (some ⟨r, 0, none⟩)) := by simp [World.cell?, hb0']
  have c1' : W4.cell? ⟨w.heap.size + 1, 0, none⟩ = some (.slice a n c) := by simp [World.cell?, hb1']
  have HLEN : Hid (∀ z, Calls Tryz.prog 19 #[.pointer (some ⟨r, 0, none⟩)] (W4.drewN z) fun e w' => e = .returned (.int .i64 (n : Nat)) ∧ w' = W4.drewN z) := Lib.hid (fun z => by
    have h7 := len_any (HI.out.keptN ((hk3.more hk4 (fun _ f => f.elim)).drewN z))
    rw [HNL.out] at h7
    exact h7.mono (fun _ _ ⟨h1, h2⟩ => ⟨h1, h2.symm⟩))
  have HS3 := Lib.hid hs3
  clear hW4 hk4 hb4 hb0' hb1' hb2' hb0 hb1 hb2 hk3 hs3 hs4 c0 HB3
  have hnf : ∀ W, (binOp BinOp.eql 88 (.func (.func 64) #[] #[.pointer (some ⟨w3.heap.size, 0, none⟩)]) .nilFunc).run Tryz.prog W = .ok (.bool false) W := fun W => by kernel_rfl
  go_wp2_with fail
  go_quiet ((go_at_call 19; exact Calls.quiet_of_same (HLEN.out _)))
  obtain ⟨W5, hW5⟩ : ∃ W, W4.drewN nq = W := ⟨_, rfl⟩
  have hk5 : Kept (fun _ => False) W4 W5 := by rw [← hW5]; exact (Kept.refl _ _).drewN _
  rw [hW5]
  have HA5 := Lib.hid (HA4.out.on hk5 (fun _ _ f => f))
  rw [HS3.out]
  clear hW5 hk5 c0' c1' HLEN HA4
  go_wp2_with fail
  refine wp_loop_rounds 3 ?_
  rw [rounds_succ]
  obtain ⟨Wa0, hWa0⟩ : ∃ W, W5.alloc (.cells #[.int .i64 0] 3) = W := ⟨_, rfl⟩
  obtain ⟨W60, hW60⟩ : ∃ W, Wa0.setCell ⟨W5.heap.size, 0, none⟩ (.int .i64 0) = W := ⟨_, rfl⟩
  have hka : Kept (fun _ => False) W5 Wa0 := by rw [← hWa0]; exact (Kept.refl _ _).alloc _
  have hsa : Wa0.heap.size = W5.heap.size + 1 := by rw [← hWa0]; simp
  have hba : Wa0.heap[W5.heap.size]? = some (.cells #[.int .i64 0] 3 (0, 0)) := by rw [← hWa0]; exact heap_alloc_new _ _
  have hk6 : Kept (fun _ => False) W5 W60 := hka.more (hW60 ▸ (Kept.refl (· = W5.heap.size) Wa0).setCell (p := ⟨W5.heap.size, 0, none⟩) (fun _ => rfl) _) (fun k e => by cases e; exact Nat.le_refl _)
  have hs6 : W60.heap.size = W5.heap.size + 1 := by rw [← hW60]; simp [hsa]
  have hb6 : W60.heap[W5.heap.size]? = some (.cells #[.int .i64 0] 3 (0, 0)) := by rw [← hW60]; exact (heap_setCell_row hba _).trans rfl
  have ca : Wa0.cell? ⟨W5.heap.size, 0, none⟩ = some (.int .i64 0) := by simp [World.cell?, hba]
  have fa : Wa0.frozen? ⟨W5.heap.size, 0, none⟩ = false := by simp [World.frozen?, hba]
  have HA6 := Lib.hid (HA5.out.on hk6 (fun _ _ f => f))
  have HKA0 := Lib.hid hk6
  have c6 : W60.cell? ⟨W5.heap.size, 0, none⟩ = some (.int .i64 0) := by simp [World.cell?, hb6]
  have hnown : ∀ k, ¬ Owned W5.heap.size W60 k := fun k ⟨u, hu, hku⟩ => by
    rw [c6] at hu
    cases hu
    cases hku
  have HSEQ := Lib.hid (rall_seq 4 (by omega) (w.heap.size + 1 + 1 + 1) W5.heap.size (HI.out.keptN HA6.out.kept) hks hl HA6.out.b3 (by omega) hnown)
  have HB6 := Lib.hid hb6
  have HS6 := Lib.hid hs6
  clear hk6 hs6 hb6 hnown hka hsa hba
  go_wp2_with fail
  clear ca fa c6 hW60 hWa0
  refine name_act ?_
  intro A0 hA0
  refine (wpIn_wide (n := 5)).1 ?_
  refine wpIn_rangeV (by omega) (gf := 64) (lb := #[.pointer (some ⟨w.heap.size + 1 + 1 + 1, 0, none⟩)]) (by rw [hA0]; simp [Act.eval]) (enters_of Tryz.func64 (by kernel_rfl) rfl) HSEQ.out KeepZ.trans (keepZ_b (by have := HS6.out; omega) (fun k hk => by have := HS6.out; have := HA6.out.size; have := HRL.out; rcases hk with e | e | e <;> omega)) (fun _ => rfl)
    (fun pre W => W.heap[W5.heap.size]? = some (.cells #[.int .i64 pre.length] 3 (0, 0)) ∧ Kept (· = W5.heap.size) W60 W)
    (fun _ _ _ => False) ?hI (fun _ _ _ _ _ hs _ _ => hs) ⟨HB6.out, Kept.refl _ _⟩ (fun _ _ _ _ _ _ _ => trivial) (fun x a' _ => a' = { tmps := (((A0.tmps.setIfInBounds 36 (.string x.1)).setIfInBounds 37 (.int .u64 x.2)).setIfInBounds 10 (.string x.1)).setIfInBounds 11 (.int .u64 x.2), defers := [] }) (fun _ _ _ _ _ _ h _ _ => h) ?assign ?body ?done ?stop
  case hI =>
    rintro pre A B row ⟨hb, hk⟩ hg hr
    have hne : ∀ k, k < W60.heap.size → some k ≠ row := fun k hk e => by have := (hr k e.symm).1; omega
    exact ⟨(hg.block _ (by have := HS6.out; have := hk.size; omega) (hne _ (by have := HS6.out; omega))).trans hb, hk.grown hg (fun k e hk => absurd e.symm (hne k hk))⟩
  case assign =>
    rintro l' pre x W K hi hv hK
    have HK := Lib.hid hK
    have HI2 := Lib.hid hi
    clear hK hi hv
    subst hA0
    unfold refArgs
    gi_wp2
    exact HK.out _ W (KeepsFrom.refl _ _) ⟨⟨Nat.le_refl _, fun k o _ ho _ _ => ho, fun k h => .inl h⟩, fun _ _ => rfl⟩ HI2.out trivial rfl
  case body =>
    rintro l' pre x a' W0 hl' ⟨hb0, hk0⟩ - rfl hpre
    have hple : pre.length < (allOf S).length := by have h9 := hpre.length_le; rw [List.length_append, List.length_singleton] at h9; omega
    have hpx : (allOf S)[pre.length] = x := by
      obtain ⟨t, ht⟩ := hpre
      have h9 : (allOf S)[pre.length]? = some x := by rw [← ht]; simp
      rw [List.getElem?_eq_getElem hple] at h9
      exact Option.some.inj h9
    have hA0' := HA6.out.on hk0 (fun k hk e => by have := HA5.out.size; omega)
    have c9 : W0.cell? ⟨W5.heap.size, 0, none⟩ = some (.int .i64 pre.length) := by simp [World.cell?, hb0]
    have f9 : W0.frozen? ⟨W5.heap.size, 0, none⟩ = false := by simp [World.frozen?, hb0]
    have cw0 : W0.cell? ⟨w.heap.size, 0, none⟩ = some (.pointer (some ⟨r, 0, none⟩)) := by simp [World.cell?, hA0'.b0]
    have cw1 : W0.cell? ⟨w.heap.size + 1, 0, none⟩ = some (.slice a n c) := by simp [World.cell?, hA0'.b1]
    have hgx : getA x.1 S = some x.2 := getA_of_mem HI.out.nodup ((allOf_self HI.out.nodup).mem_iff.1 (hpx ▸ List.getElem_mem hple))
    obtain ⟨ga, oa, rfl, hga, hx0, hx1⟩ := (HL.out.keptN hA0'.kept).at (k := pre.length) hple
    rw [hpx] at hx0 hx1
    have hge : ¬ (n : Int) ≤ (pre.length : Int) := by have := HN.out; omega
    have HG : Hid (Calls Tryz.prog 18 #[.pointer (some ⟨r, 0, none⟩), .string x.1] W0 fun e w' => e = .returned (.tuple #[.int .u64 x.2, .int .i64 0]) ∧ W0 = w') := Lib.hid (by
      have h9 := get_any (HI.out.keptN hA0'.kept) x.1
      rw [hgx] at h9
      exact h9)
    have HAW := Lib.hid hA0'
    have HK0 := Lib.hid hk0
    have HB0 := Lib.hid hb0
    have hplen : pre.length ≤ 100000 := by omega
    obtain ⟨xs, xi⟩ := x
    simp only at hx0 hx1 HG
    clear hA0' hk0 hb0 hpx hgx hga hple hpre
    subst hA0
    simp only [List.setIfInBounds_toArray, List.set_cons_zero, List.set_cons_succ]
    gi_wp2_with fail
    refine ⟨trivial, (callsIn_wide.2 HG.out).mono ?_⟩
    rintro e w9 ⟨rfl, rfl⟩
    gi_wp2
    have hsP := HS6.out
    have hrl := HRL.out
    have hsA := HA5.out.size
    have hkS := (Kept.refl (· = W5.heap.size) W0).setCell (p := ⟨W5.heap.size, 0, none⟩) (fun _ => rfl) (.int .i64 ((pre.length : Int) + 1))
    have hel : ((pre ++ [(xs, xi)]).length : Int) = (pre.length : Int) + 1 := by simp
    refine ⟨(KeepsOthers.setCell _ _ _).from _, ⟨⟨by simp, fun k o hk' ho _ _ => (heap_setCell_ne (by omega) _).trans ho, fun k ⟨u, hu, hku⟩ => ?_⟩, fun k hk' => heap_setCell_ne (by rcases hk' with e | e | e <;> omega) _⟩, ⟨by rw [hel]; exact (heap_setCell_row HB0.out _).trans rfl, HK0.out.trans hkS (fun _ _ e => e)⟩⟩
    rw [World.cell?_setCell_same' _ _ _ (by rw [c9]; rfl)] at hu
    cases hu
    cases hku
  case stop =>
    rintro D cc pre W hD hS hf
    exact hf.elim
  case done =>
    rintro D0 xs W70 hD rfl ⟨hb7, hk7⟩ hK7
    have hA7 := HA6.out.on hk7 (fun k hk e => by have := HA5.out.size; omega)
    rw [HN.out] at hb7
    have c9 : W70.cell? ⟨W5.heap.size, 0, none⟩ = some (.int .i64 n) := by simp [World.cell?, hb7]
    have cw1 : W70.cell? ⟨w.heap.size + 1, 0, none⟩ = some (.slice a n c) := by simp [World.cell?, hA7.b1]
    have HA70 := Lib.hid hA7
    have HD70 : Hid (W5.heap.size ≤ D0 ∧ W70.heap[D0]? = some (.deferred (some []))) := Lib.hid ⟨by have := HS6.out; have := HA5.out.size; omega, hK7⟩
    have HB70 : Hid (W5.heap.size < W70.heap.size ∧ Kept (fun k => W5.heap.size ≤ k) W5 W70) := Lib.hid ⟨World.block_lt_of_cell? _ _ c9, (HKA0.out.mono (fun _ _ f => f.elim)).trans hk7 (fun k _ (e : k = W5.heap.size) => by omega)⟩
    clear hA7 hb7 hk7 hK7 hD
    subst hA0
    go_wp2_with fail
    have hsW : W5.heap.size < W70.heap.size := (World.block_lt_of_cell? _ _ c9)
    have HSEQ2 := Lib.hid (rall_seq 4 (by omega) (w.heap.size + 1 + 1 + 1) W5.heap.size (HI.out.keptN HA70.out.kept) hks hl HA70.out.b3 hsW (fun k ⟨u, hu, hku⟩ => by
      rw [c9] at hu
      cases hu
      cases hku))
    clear c9 cw1
    refine name_act ?_
    intro A1 hA1
    refine (wpIn_wide (n := 5)).1 ?_
    refine name_post ?_
    intro Q1 hQ1
    have hcont : ∀ D W, W70.heap.size ≤ D → Kept (fun _ => False) W70 W → W.heap[D]? = some (.deferred (some [])) → Q1 .normal { A1 with defers := { target := .collected D, args := #[] } :: A1.defers } W := ?cont
    refine wpIn_rangeV (by omega) (gf := 64) (lb := #[.pointer (some ⟨w.heap.size + 1 + 1 + 1, 0, none⟩)]) (by rw [hA1]; simp [Act.eval]) (enters_of Tryz.func64 (by kernel_rfl) rfl) HSEQ2.out KeepZ.trans (keepZ_b hsW (fun k hk => by have := HA70.out.size; have := HRL.out; rcases hk with e | e | e <;> omega)) (fun _ => rfl)
      (fun pre W => Kept (fun _ => False) W70 W) (fun c pre W => c = .exit 4 ∧ Kept (fun _ => False) W70 W) ?hI ?hIx (Kept.refl _ _) (fun _ _ _ _ _ _ _ => trivial) (fun x a' _ => a' = { tmps := (A1.tmps.setIfInBounds 75 (.string x.1)).setIfInBounds 76 (.int .u64 x.2), defers := [] }) (fun _ _ _ _ _ _ h _ _ => h) ?assign ?body (fun D xs W hD _ hi hK => hcont D W hD hi hK) ?stop
    case hI =>
      rintro pre A B row hk hg hr
      exact hk.grown hg (fun k e hk => by have := (hr k e).1; omega)
    case hIx =>
      rintro c pre A B row ⟨h0, hk⟩ hg hr
      exact ⟨h0, hk.grown hg (fun k e hk => by have := (hr k e).1; omega)⟩
    case assign =>
      rintro l' pre x W K hi hv hK
      have HK := Lib.hid hK
      have HI2 := Lib.hid hi
      clear hK hi hv
      subst hA1
      unfold refArgs
      gi_wp2
      exact HK.out _ W (KeepsFrom.refl _ _) ⟨⟨Nat.le_refl _, fun k o _ ho _ _ => ho, fun k h => .inl h⟩, fun _ _ => rfl⟩ HI2.out trivial rfl
    case body =>
      rintro l' pre x a' W0 hl' hk0 - rfl hpre
      have HK0 := Lib.hid hk0
      clear hk0
      subst hA1
      gi_wp2
      exact ⟨KeepsFrom.refl _ _, rfl, HK0.out⟩
    case stop =>
      rintro D cc pre W hD hS ⟨rfl, hk⟩ hK
      have h9 := hcont D W hD hk hK
      rw [hQ1] at h9 ⊢
      refine wpIn_exit ?_
      simp only [Exit.inBlock, if_true] at h9 ⊢
      exact h9
    case cont =>
      intro E0 W80 hD hk hK
      rw [hQ1]
      subst hA1
      have HA80 := Lib.hid (HA70.out.on hk (fun _ _ f => f))
      have HD80 : Hid (W5.heap.size ≤ D0 ∧ D0 < E0 ∧ W80.heap[D0]? = some (.deferred (some [])) ∧ W80.heap[E0]? = some (.deferred (some []))) := Lib.hid (by
        obtain ⟨h5, h6⟩ := HD70.out
        have h7 := (Array.getElem?_eq_some_iff.1 h6).1
        exact ⟨h5, by omega, (hk.block _ h7 (fun f => f)).trans h6, hK⟩)
      have HK80 : Hid (∀ k, k < W5.heap.size → W5.heap[k]? = some (.deferred (some [])) → W80.heap[k]? = some (.deferred (some []))) := Lib.hid (fun k hlt h => (hk.block k (by have := HB70.out.1; have := HB70.out.2.size; omega) (fun f => f)).trans ((HB70.out.2.block k hlt (fun e => by omega)).trans h))
      clear hQ1 HD70 HSEQ HSEQ2 HB6 HB70
      go_wp2_with fail
      rw [rounds_succ]
      have HA80 := HA80
      obtain ⟨Wa1, hWa1⟩ : ∃ W, W80.alloc (.cells #[.int .i64 0] 3) = W := ⟨_, rfl⟩
      obtain ⟨W61, hW61⟩ : ∃ W, Wa1.setCell ⟨W80.heap.size, 0, none⟩ (.int .i64 0) = W := ⟨_, rfl⟩
      have hka : Kept (fun _ => False) W80 Wa1 := by rw [← hWa1]; exact (Kept.refl _ _).alloc _
      have hsa : Wa1.heap.size = W80.heap.size + 1 := by rw [← hWa1]; simp
      have hba : Wa1.heap[W80.heap.size]? = some (.cells #[.int .i64 0] 3 (0, 0)) := by rw [← hWa1]; exact heap_alloc_new _ _
      have hk6 : Kept (fun _ => False) W80 W61 := hka.more (hW61 ▸ (Kept.refl (· = W80.heap.size) Wa1).setCell (p := ⟨W80.heap.size, 0, none⟩) (fun _ => rfl) _) (fun k e => by cases e; exact Nat.le_refl _)
      have hs6 : W61.heap.size = W80.heap.size + 1 := by rw [← hW61]; simp [hsa]
      have hb6 : W61.heap[W80.heap.size]? = some (.cells #[.int .i64 0] 3 (0, 0)) := by rw [← hW61]; exact (heap_setCell_row hba _).trans rfl
      have ca : Wa1.cell? ⟨W80.heap.size, 0, none⟩ = some (.int .i64 0) := by simp [World.cell?, hba]
      have fa : Wa1.frozen? ⟨W80.heap.size, 0, none⟩ = false := by simp [World.frozen?, hba]
      have HA6 := Lib.hid (HA80.out.on hk6 (fun _ _ f => f))
      have HKA1 := Lib.hid hk6
      have c6 : W61.cell? ⟨W80.heap.size, 0, none⟩ = some (.int .i64 0) := by simp [World.cell?, hb6]
      have hnown : ∀ k, ¬ Owned W80.heap.size W61 k := fun k ⟨u, hu, hku⟩ => by
        rw [c6] at hu
        cases hu
        cases hku
      have HSEQ := Lib.hid (rall_seq 4 (by omega) (w.heap.size + 1 + 1 + 1) W80.heap.size (HI.out.keptN HA6.out.kept) hks hl HA6.out.b3 (by omega) hnown)
      have HB6 := Lib.hid hb6
      have HS6 := Lib.hid hs6
      clear hk6 hs6 hb6 hnown hka hsa hba
      go_wp2_with fail
      clear ca fa c6 hW61 hWa1
      refine name_act ?_
      intro A0 hA0
      refine (wpIn_wide (n := 5)).1 ?_
      refine wpIn_rangeV (by omega) (gf := 64) (lb := #[.pointer (some ⟨w.heap.size + 1 + 1 + 1, 0, none⟩)]) (by rw [hA0]; simp [Act.eval]) (enters_of Tryz.func64 (by kernel_rfl) rfl) HSEQ.out KeepZ.trans (keepZ_b (by have := HS6.out; omega) (fun k hk => by have := HS6.out; have := HA6.out.size; have := HRL.out; rcases hk with e | e | e <;> omega)) (fun _ => rfl)
        (fun pre W => W.heap[W80.heap.size]? = some (.cells #[.int .i64 pre.length] 3 (0, 0)) ∧ Kept (· = W80.heap.size) W61 W)
        (fun _ _ _ => False) ?hI (fun _ _ _ _ _ hs _ _ => hs) ⟨HB6.out, Kept.refl _ _⟩ (fun _ _ _ _ _ _ _ => trivial) (fun x a' _ => a' = { tmps := (((A0.tmps.setIfInBounds 36 (.string x.1)).setIfInBounds 37 (.int .u64 x.2)).setIfInBounds 10 (.string x.1)).setIfInBounds 11 (.int .u64 x.2), defers := [] }) (fun _ _ _ _ _ _ h _ _ => h) ?assign ?body ?done ?stop
      case hI =>
        rintro pre A B row ⟨hb, hk⟩ hg hr
        have hne : ∀ k, k < W61.heap.size → some k ≠ row := fun k hk e => by have := (hr k e.symm).1; omega
        exact ⟨(hg.block _ (by have := HS6.out; have := hk.size; omega) (hne _ (by have := HS6.out; omega))).trans hb, hk.grown hg (fun k e hk => absurd e.symm (hne k hk))⟩
      case assign =>
        rintro l' pre x W K hi hv hK
        have HK := Lib.hid hK
        have HI2 := Lib.hid hi
        clear hK hi hv
        subst hA0
        unfold refArgs
        gi_wp2
        exact HK.out _ W (KeepsFrom.refl _ _) ⟨⟨Nat.le_refl _, fun k o _ ho _ _ => ho, fun k h => .inl h⟩, fun _ _ => rfl⟩ HI2.out trivial rfl
      case body =>
        rintro l' pre x a' W0 hl' ⟨hb0, hk0⟩ - rfl hpre
        have hple : pre.length < (allOf S).length := by have h9 := hpre.length_le; rw [List.length_append, List.length_singleton] at h9; omega
        have hpx : (allOf S)[pre.length] = x := by
          obtain ⟨t, ht⟩ := hpre
          have h9 : (allOf S)[pre.length]? = some x := by rw [← ht]; simp
          rw [List.getElem?_eq_getElem hple] at h9
          exact Option.some.inj h9
        have hA0' := HA6.out.on hk0 (fun k hk e => by have := HA80.out.size; omega)
        have c9 : W0.cell? ⟨W80.heap.size, 0, none⟩ = some (.int .i64 pre.length) := by simp [World.cell?, hb0]
        have f9 : W0.frozen? ⟨W80.heap.size, 0, none⟩ = false := by simp [World.frozen?, hb0]
        have cw0 : W0.cell? ⟨w.heap.size, 0, none⟩ = some (.pointer (some ⟨r, 0, none⟩)) := by simp [World.cell?, hA0'.b0]
        have cw1 : W0.cell? ⟨w.heap.size + 1, 0, none⟩ = some (.slice a n c) := by simp [World.cell?, hA0'.b1]
        have hgx : getA x.1 S = some x.2 := getA_of_mem HI.out.nodup ((allOf_self HI.out.nodup).mem_iff.1 (hpx ▸ List.getElem_mem hple))
        obtain ⟨ga, oa, rfl, hga, hx0, hx1⟩ := (HL.out.keptN hA0'.kept).at (k := pre.length) hple
        rw [hpx] at hx0 hx1
        have hge : ¬ (n : Int) ≤ (pre.length : Int) := by have := HN.out; omega
        have HG : Hid (Calls Tryz.prog 18 #[.pointer (some ⟨r, 0, none⟩), .string x.1] W0 fun e w' => e = .returned (.tuple #[.int .u64 x.2, .int .i64 0]) ∧ W0 = w') := Lib.hid (by
          have h9 := get_any (HI.out.keptN hA0'.kept) x.1
          rw [hgx] at h9
          exact h9)
        have HAW := Lib.hid hA0'
        have HK0 := Lib.hid hk0
        have HB0 := Lib.hid hb0
        have hplen : pre.length ≤ 100000 := by omega
        obtain ⟨xs, xi⟩ := x
        simp only at hx0 hx1 HG
        clear hA0' hk0 hb0 hpx hgx hga hple hpre
        subst hA0
        simp only [List.setIfInBounds_toArray, List.set_cons_zero, List.set_cons_succ]
        gi_wp2_with fail
        refine ⟨trivial, (callsIn_wide.2 HG.out).mono ?_⟩
        rintro e w9 ⟨rfl, rfl⟩
        gi_wp2
        have hsP := HS6.out
        have hrl := HRL.out
        have hsA := HA80.out.size
        have hkS := (Kept.refl (· = W80.heap.size) W0).setCell (p := ⟨W80.heap.size, 0, none⟩) (fun _ => rfl) (.int .i64 ((pre.length : Int) + 1))
        have hel : ((pre ++ [(xs, xi)]).length : Int) = (pre.length : Int) + 1 := by simp
        refine ⟨(KeepsOthers.setCell _ _ _).from _, ⟨⟨by simp, fun k o hk' ho _ _ => (heap_setCell_ne (by omega) _).trans ho, fun k ⟨u, hu, hku⟩ => ?_⟩, fun k hk' => heap_setCell_ne (by rcases hk' with e | e | e <;> omega) _⟩, ⟨by rw [hel]; exact (heap_setCell_row HB0.out _).trans rfl, HK0.out.trans hkS (fun _ _ e => e)⟩⟩
        rw [World.cell?_setCell_same' _ _ _ (by rw [c9]; rfl)] at hu
        cases hu
        cases hku
      case stop =>
        rintro D cc pre W hD hS hf
        exact hf.elim
      case done =>
        rintro D1 xs W71 hD rfl ⟨hb7, hk7⟩ hK7
        have hA7 := HA6.out.on hk7 (fun k hk e => by have := HA80.out.size; omega)
        rw [HN.out] at hb7
        have c9 : W71.cell? ⟨W80.heap.size, 0, none⟩ = some (.int .i64 n) := by simp [World.cell?, hb7]
        have cw1 : W71.cell? ⟨w.heap.size + 1, 0, none⟩ = some (.slice a n c) := by simp [World.cell?, hA7.b1]
        have HA71 := Lib.hid hA7
        have HD71 : Hid (W80.heap.size ≤ D1 ∧ W71.heap[D1]? = some (.deferred (some []))) := Lib.hid ⟨by have := HS6.out; have := HA80.out.size; omega, hK7⟩
        have HB71 : Hid (W80.heap.size < W71.heap.size ∧ Kept (fun k => W80.heap.size ≤ k) W80 W71) := Lib.hid ⟨World.block_lt_of_cell? _ _ c9, (HKA1.out.mono (fun _ _ f => f.elim)).trans hk7 (fun k _ (e : k = W80.heap.size) => by omega)⟩
        clear hA7 hb7 hk7 hK7 hD
        subst hA0
        go_wp2_with fail
        have hsW : W80.heap.size < W71.heap.size := (World.block_lt_of_cell? _ _ c9)
        have HSEQ2 := Lib.hid (rall_seq 4 (by omega) (w.heap.size + 1 + 1 + 1) W80.heap.size (HI.out.keptN HA71.out.kept) hks hl HA71.out.b3 hsW (fun k ⟨u, hu, hku⟩ => by
          rw [c9] at hu
          cases hu
          cases hku))
        clear c9 cw1
        refine name_act ?_
        intro A1 hA1
        refine (wpIn_wide (n := 5)).1 ?_
        refine name_post ?_
        intro Q1 hQ1
        have hcont : ∀ D W, W71.heap.size ≤ D → Kept (fun _ => False) W71 W → W.heap[D]? = some (.deferred (some [])) → Q1 .normal { A1 with defers := { target := .collected D, args := #[] } :: A1.defers } W := ?cont
        refine wpIn_rangeV (by omega) (gf := 64) (lb := #[.pointer (some ⟨w.heap.size + 1 + 1 + 1, 0, none⟩)]) (by rw [hA1]; simp [Act.eval]) (enters_of Tryz.func64 (by kernel_rfl) rfl) HSEQ2.out KeepZ.trans (keepZ_b hsW (fun k hk => by have := HA71.out.size; have := HRL.out; rcases hk with e | e | e <;> omega)) (fun _ => rfl)
          (fun pre W => Kept (fun _ => False) W71 W) (fun c pre W => c = .exit 4 ∧ Kept (fun _ => False) W71 W) ?hI ?hIx (Kept.refl _ _) (fun _ _ _ _ _ _ _ => trivial) (fun x a' _ => a' = { tmps := (A1.tmps.setIfInBounds 75 (.string x.1)).setIfInBounds 76 (.int .u64 x.2), defers := [] }) (fun _ _ _ _ _ _ h _ _ => h) ?assign ?body (fun D xs W hD _ hi hK => hcont D W hD hi hK) ?stop
        case hI =>
          rintro pre A B row hk hg hr
          exact hk.grown hg (fun k e hk => by have := (hr k e).1; omega)
        case hIx =>
          rintro c pre A B row ⟨h0, hk⟩ hg hr
          exact ⟨h0, hk.grown hg (fun k e hk => by have := (hr k e).1; omega)⟩
        case assign =>
          rintro l' pre x W K hi hv hK
          have HK := Lib.hid hK
          have HI2 := Lib.hid hi
          clear hK hi hv
          subst hA1
          unfold refArgs
          gi_wp2
          exact HK.out _ W (KeepsFrom.refl _ _) ⟨⟨Nat.le_refl _, fun k o _ ho _ _ => ho, fun k h => .inl h⟩, fun _ _ => rfl⟩ HI2.out trivial rfl
        case body =>
          rintro l' pre x a' W0 hl' hk0 - rfl hpre
          have HK0 := Lib.hid hk0
          clear hk0
          subst hA1
          gi_wp2
          exact ⟨KeepsFrom.refl _ _, rfl, HK0.out⟩
        case stop =>
          rintro D cc pre W hD hS ⟨rfl, hk⟩ hK
          have h9 := hcont D W hD hk hK
          rw [hQ1] at h9 ⊢
          refine wpIn_exit ?_
          simp only [Exit.inBlock, if_true] at h9 ⊢
          exact h9
        case cont =>
          intro E1 W81 hD hk hK
          rw [hQ1]
          subst hA1
          have HA81 := Lib.hid (HA71.out.on hk (fun _ _ f => f))
          have HD81 : Hid (W80.heap.size ≤ D1 ∧ D1 < E1 ∧ W81.heap[D1]? = some (.deferred (some [])) ∧ W81.heap[E1]? = some (.deferred (some []))) := Lib.hid (by
            obtain ⟨h5, h6⟩ := HD71.out
            have h7 := (Array.getElem?_eq_some_iff.1 h6).1
            exact ⟨h5, by omega, (hk.block _ h7 (fun f => f)).trans h6, hK⟩)
          have HK81 : Hid (∀ k, k < W80.heap.size → W80.heap[k]? = some (.deferred (some [])) → W81.heap[k]? = some (.deferred (some []))) := Lib.hid (fun k hlt h => (hk.block k (by have := HB71.out.1; have := HB71.out.2.size; omega) (fun f => f)).trans ((HB71.out.2.block k hlt (fun e => by omega)).trans h))
          clear hQ1 HD71 HSEQ HSEQ2 HB6 HB71
          go_wp2_with fail
          rw [rounds_succ]
          have HT : Hid (∀ s, (getA s S = none ∧ getL s (allOf S) = 0) ∨ ∃ v, getA s S = some v ∧ v ≠ 0 ∧ getL s (allOf S) = v) := Lib.hid (fun s => by
            rw [getL_allOf HI.out.nodup]
            cases hg : getA s S with
            | none => exact .inl ⟨rfl, rfl⟩
            | some v => exact .inr ⟨v, rfl, hz _ (getA_mem hg), rfl⟩)
          go_wp2_with fail
          go_loopg [79] q (fun g iv wr => ∃ k, k + g = q ∧ iv = .int .i64 k ∧ Hid (Kept (fun _ => False) W81 wr))
          case atStart => exact ⟨0, by omega, rfl, Lib.hid (Kept.refl _ _)⟩
          case round =>
            obtain ⟨k, hkg, rfl, HK⟩ := hrel
            have HAR := Lib.hid (HA81.out.on HK.out (fun _ _ f => f))
            have cw0 : wr.cell? ⟨w.heap.size, 0, none⟩ = some (.pointer (some ⟨r, 0, none⟩)) := by simp [World.cell?, HAR.out.b0]
            have cw1 : wr.cell? ⟨w.heap.size + 1, 0, none⟩ = some (.slice a n c) := by simp [World.cell?, HAR.out.b1]
            rcases Nat.eq_zero_or_pos gk with rfl | hpos
            · obtain rfl : k = q := by omega
              have hb2 := HAR.out.b2
              have hkk := HAR.out.kept
              have hsz := HAR.out.size
              have hKK := HK.out
              have HRET := Lib.hid (And.intro hb2 (And.intro hkk (And.intro hsz hKK)))
              clear hb2 hkk hsz hKK
              have cw2 : wr.cell? ⟨w.heap.size + 1 + 1, 0, none⟩ = some (.bool false) := by simp [World.cell?, HAR.out.b2]
              have fw2 : wr.frozen? ⟨w.heap.size + 1 + 1, 0, none⟩ = false := by simp [World.frozen?, HAR.out.b2]
              go_wp2_with fail
              obtain ⟨hb2, hkk, hsz, hKK⟩ := HRET.out
              obtain ⟨d1, d2, d3, d4⟩ := HD80.out
              obtain ⟨e1, e2, e3, e4⟩ := HD81.out
              have hkS := (Kept.refl (· = w.heap.size + 1 + 1) wr).setCell (p := ⟨w.heap.size + 1 + 1, 0, none⟩) (fun _ => rfl) (.bool true)
              have hb9 : (wr.setCell ⟨w.heap.size + 1 + 1, 0, none⟩ (.bool true)).heap[w.heap.size + 1 + 1]? = some (.cells #[.bool true] 4 (0, 0)) := (heap_setCell_row hb2 _).trans rfl
              have l3 := (Array.getElem?_eq_some_iff.1 d3).1
              have l4 := (Array.getElem?_eq_some_iff.1 d4).1
              have g3 := (Array.getElem?_eq_some_iff.1 e3).1
              have g4 := (Array.getElem?_eq_some_iff.1 e4).1
              have up : ∀ D, w.heap.size + 1 + 1 + 1 + 1 ≤ D → W81.heap[D]? = some (.deferred (some [])) → (wr.setCell ⟨w.heap.size + 1 + 1, 0, none⟩ (.bool true)).heap[D]? = some (.deferred (some [])) := fun D hD h => (hkS.block D (Nat.lt_of_lt_of_le (Array.getElem?_eq_some_iff.1 h).1 hKK.size) (by show ¬ D = w.heap.size + 1 + 1; omega)).trans ((hKK.block D (Array.getElem?_eq_some_iff.1 h).1 (fun f => f)).trans h)
              have z5 := HA5.out.size
              have z8 := HA80.out.size
              have k3 := HK81.out D0 l3 d3
              have k4 := HK81.out E0 l4 d4
              refine leaves_taken [E1, D1, E0, D0] _ (by simp; omega) (fun D hD => ?_) (fun W' hk => ?_)
              · simp only [List.mem_cons, List.not_mem_nil, or_false] at hD
                rcases hD with rfl | rfl | rfl | rfl
                · exact up _ (by omega) e4
                · exact up _ (by omega) e3
                · exact up _ (by omega) k4
                · exact up _ (by omega) k3
              · have hbW := (hk.block _ (Array.getElem?_eq_some_iff.1 hb9).1 (by simp; omega)).trans hb9
                have hcW : W'.cell? ⟨w.heap.size + 1 + 1, 0, none⟩ = some (.bool true) := by simp [World.cell?, hbW]
                refine ⟨.bool true, by simp [results, Tryz.f15, go_sem, hcW], rfl, ?_⟩
                exact (hkk.more hkS (fun i (e : i = _) => by omega)).more hk (fun i hi => by
                  simp only [List.mem_cons, List.not_mem_nil, or_false] at hi
                  omega)
            · have hlt : (k : Int) < (q : Int) := by omega
              obtain ⟨gs, os, rfl, hgs, hxs⟩ := (HNS.out.keptN HAR.out.kept).at (k := k) (by rw [HQ.out]; omega)
              generalize ns[k]'(by rw [HQ.out]; omega) = s at *
              have HG := Lib.hid (get_any (HI.out.keptN HAR.out.kept) s)
              have HRG := Lib.hid (rget_any wr a c (allOf S) (by rw [HN.out]; exact HL.out.keptN HAR.out.kept) s)
              rw [HN.out] at HRG
              rcases HT.out s with ⟨h7, h8⟩ | ⟨v, h7, hv0, h8⟩
              · rw [h7] at HG
                rw [h8] at HRG
                simp only [Option.isSome_none, Option.getD_none] at HG
                go_wp2_with (go_at_call 18; refine HG.out.mono ?_; rintro e w6 ⟨rfl, rfl⟩)
                refine HRG.out.mono ?_
                rintro e w7 ⟨rfl, hk7⟩
                have HK7 := Lib.hid (HK.out.trans hk7 (fun _ _ f => f))
                have hI7 := HI.out.keptN (HAR.out.kept.trans hk7 (fun _ _ f => f))
                have HU := Lib.hid (lawUnder_any hI7 hks hl a c (by rw [HN.out]; exact HL.out.keptN (HAR.out.kept.trans hk7 (fun _ _ f => f))) s)
                rw [HN.out] at HU
                have d0 := hk7.cell cw0 (fun f => f)
                have d1 := hk7.cell cw1 (fun f => f)
                clear hk7 hI7 cw0 cw1
                go_wp2_with fail
                refine HU.out.mono ?_
                rintro e w8 ⟨rfl, hk8⟩
                have HK8 := Lib.hid (HK7.out.trans hk8 (fun _ _ f => f))
                clear hk8
                go_wp2_with fail
                go_roundg (gk - 1)
                case measure => omega
                case rel => exact ⟨k + 1, by omega, by go_num, HK8⟩
              · rw [h7] at HG
                rw [h8] at HRG
                have hvb : ((v : Int) == 0) = false := by simp; omega
                have hvc : ((v : Int) != 0) = true := by simp; omega
                simp only [Option.isSome_some, Option.getD_some, if_true] at HG
                go_wp2_with (go_at_call 18; refine HG.out.mono ?_; rintro e w6 ⟨rfl, rfl⟩)
                refine HRG.out.mono ?_
                rintro e w7 ⟨rfl, hk7⟩
                have HK7 := Lib.hid (HK.out.trans hk7 (fun _ _ f => f))
                have hI7 := HI.out.keptN (HAR.out.kept.trans hk7 (fun _ _ f => f))
                have HU := Lib.hid (lawUnder_any hI7 hks hl a c (by rw [HN.out]; exact HL.out.keptN (HAR.out.kept.trans hk7 (fun _ _ f => f))) s)
                rw [HN.out] at HU
                have d0 := hk7.cell cw0 (fun f => f)
                have d1 := hk7.cell cw1 (fun f => f)
                clear hk7 hI7 cw0 cw1
                go_wp2_with fail
                refine HU.out.mono ?_
                rintro e w8 ⟨rfl, hk8⟩
                have HK8 := Lib.hid (HK7.out.trans hk8 (fun _ _ f => f))
                clear hk8
                go_wp2_with fail
                go_roundg (gk - 1)
                case measure => omega
                case rel => exact ⟨k + 1, by omega, by go_num, HK8⟩
end Go.Proofs.YtjnhkepgoghogaaGreatDoor
