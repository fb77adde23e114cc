/- espalierlaw08.RefsNone: the walk. -/
import Derived.Test.YtjnhkepgoghogaaDoorRsQ
import Derived.Test.YtjnhkepgoghogaaDoorRefsP
namespace Go.Proofs.YtjnhkepgoghogaaDoor
open Go.RowKit Go.Shelf
set_option linter.unusedSimpArgs false
attribute [local go_sem] Oper.semAt_some

/-- All of no refs tells nothing. -/
theorem nil_seq {w : World} (n Bs : Nat) (h : w.heap[Bs]? = some (.cells #[.pointer none] 39 (0, 0))) (Kp : World → World → Prop) :
    SeqV n Tryd.prog 54 #[.pointer (some ⟨Bs, 0, none⟩)] refArgs (fun _ _ => True) Kp (fun xs => xs = []) (fun _ => False) 0 w := by
  intro l JJ Jx W hW hJ hY h0
  have hb := (hW.block Bs (Array.getElem?_eq_some_iff.1 h).1).trans h
  refine (callsIn_wide.2 (rall1Nil_any (.func (.yield l) #[] #[]) Bs W (by simp [World.cell?, hb]))).mono ?_
  rintro e W' ⟨rfl, rfl⟩
  exact ⟨⟨_, rfl⟩, .inl ⟨[], rfl, h0⟩⟩

set_option maxRecDepth 100000 in
set_option maxHeartbeats 1000000 in
theorem underNil_any (w : World) (s : ByteArray) : Calls Tryd.prog 26 #[.pointer none, .string s] w fun e w' => e = .returned (.slice none 0 0) ∧ Kept (fun _ => False) w w' := by
  obtain ⟨W5, hW5⟩ : ∃ W, (w.alloc (.cells #[.string s] 9)).alloc (.cells #[.slice none 0 0] 38) = W := ⟨_, rfl⟩
  have hk5 : Kept (fun _ => False) w W5 := by rw [← hW5]; exact ((Kept.refl _ _).alloc _).alloc _
  have hs5 : W5.heap.size = w.heap.size + 2 := by rw [← hW5]; simp
  have hb5 : W5.heap[w.heap.size + 1]? = some (.cells #[.slice none 0 0] 38 (0, 0)) := by
    rw [← hW5]
    have h := World.alloc_heap_new (w.alloc (.cells #[.string s] 9)) (.cells #[.slice none 0 0] 38)
    rwa [World.size_alloc] at h
  have HW5 := Lib.hid hW5
  clear hW5
  refine (callsIn_wide (n := 5)).1 ?_
  refine callsIn_of_wp_marks Tryd.func26 rfl trivial ?_ rfl
  refine (wpIn_wide (n := 5)).2 ?_
  simp only [Tryd.ntmps26, List.size_toArray, List.length_cons, List.length_nil, Nat.reduceAdd, Nat.reduceSub, Array.replicate_succ, Array.replicate_zero, List.push_toArray, List.append_toArray, List.nil_append, List.cons_append]
  go_wp2_with fail
  rw [HW5.out]
  refine (rall_any none W5).mono ?_
  rintro e W6 ⟨rfl, hW6⟩
  have hk6 : Kept (fun _ => False) W5 W6 := by rw [hW6]; exact (Kept.refl _ _).alloc _
  have hs6 : W6.heap.size = w.heap.size + 3 := by rw [hW6]; simp [hs5]
  have hbs : W6.heap[w.heap.size + 2]? = some (.cells #[.pointer none] 39 (0, 0)) := by rw [hW6, ← hs5]; exact World.alloc_heap_new _ _
  have hb6 := (hk6.block _ (by omega) (fun f => f)).trans hb5
  have hk06 := hk5.more hk6 (fun _ f => f.elim)
  have HSEQ := Lib.hid (nil_seq 4 (w.heap.size + 2) hbs (fun _ _ => True))
  rw [hs5]
  clear hW6 hk5 hk6 hbs hb5
  go_wp2_with fail
  refine name_act ?_
  intro A0 hA0
  refine (wpIn_wide (n := 5)).1 ?_
  refine wpIn_rangeV (by omega) (gf := 54) (lb := #[.pointer (some ⟨w.heap.size + 2, 0, none⟩)]) (by rw [hA0]; simp [Act.eval]) (enters_of Tryd.func54 (by kernel_rfl) rfl) HSEQ.out (fun _ _ => trivial) (fun _ _ _ _ _ _ _ _ => trivial) (fun _ => rfl)
    (fun _ W => Kept (fun _ => False) W6 W)
    (fun _ _ _ => False) ?hI (fun _ _ _ _ _ hs _ _ => hs) (Kept.refl _ _) (fun _ _ _ _ _ _ _ => trivial) (fun x a' _ => True) (fun _ _ _ _ _ _ h _ _ => h) ?assign ?body ?done ?stop
  case hI =>
    rintro pre A B row hk hg hr
    exact hk.grown hg (fun k e hk => absurd (hr k e).1 (by omega))
  case assign =>
    rintro l' pre x W K hi hv hK
    have HK := Lib.hid hK
    have HI := Lib.hid hi
    clear hK hi hv
    subst hA0
    unfold refArgs
    gi_wp2
    exact HK.out _ W (KeepsFrom.refl _ _) trivial HI.out trivial trivial
  case body =>
    intro l' pre x a' W hl' hi hv ha hpre
    exact absurd hpre (Nat.not_lt_zero _)
  case done =>
    rintro D xs W hD rfl hk hK
    have hb7 := (hk.block _ (by omega) (fun f => f)).trans hb6
    have c7 : W.cell? ⟨w.heap.size + 1, 0, none⟩ = some (.slice none 0 0) := by simp [World.cell?, hb7]
    have HF := Lib.hid (And.intro hk hK)
    have HKW := Lib.hid hk06
    clear hk hK
    subst hA0
    go_wp2_with fail
    obtain ⟨hk, hK⟩ := HF.out
    refine ⟨by simp, .inl ⟨_, _, rfl, run_takeDeferred hK, ?_⟩⟩
    have hkD : Kept (· = D) W (W.putObj D (.deferred none)) := (Kept.refl _ _).grown (grownBy_putObj' W D (.deferred none)) (fun k e _ => by cases e; rfl)
    exact ⟨_, results_tmp rfl _ _ _, rfl, (HKW.out.more hk (fun _ f => f.elim)).more hkD (fun i (e : i = D) => by omega)⟩
  case stop =>
    rintro D cc pre W hD hS hf
    exact hf.elim

set_option maxRecDepth 100000 in
set_option maxHeartbeats 2000000 in
theorem none_law (w : World) (s : ByteArray) (id : Nat) : Calls Tryd.prog 6 #[.string s, .int .u64 id] w fun e w' => e = .returned (.bool true) ∧ Kept (fun _ => False) w w' := by
  obtain ⟨W0, hW0⟩ : ∃ W, w.alloc (.cells #[.bool false] 4) = W := ⟨_, rfl⟩
  have hk0 : Kept (fun _ => False) w W0 := by rw [← hW0]; exact (Kept.refl _ _).alloc _
  have hs0 : W0.heap.size = w.heap.size + 1 := by rw [← hW0]; simp
  have hb0 : W0.heap[w.heap.size]? = some (.cells #[.bool false] 4 (0, 0)) := by rw [← hW0]; exact World.alloc_heap_new _ _
  have HW0 := Lib.hid hW0
  clear hW0
  refine (callsIn_wide (n := 5)).1 ?_
  refine callsIn_of_wp_marks Tryd.func6 rfl trivial ?_ rfl
  refine (wpIn_wide (n := 5)).2 ?_
  simp only [Tryd.ntmps6, List.size_toArray, List.length_cons, List.length_nil, Nat.reduceAdd, Nat.reduceSub, Array.replicate_succ, Array.replicate_zero, List.push_toArray, List.append_toArray, List.nil_append, List.cons_append]
  go_wp2_with fail
  rw [HW0.out]
  refine (wakes08_any W0).mono ?_
  rintro e W1 ⟨rfl, hk1⟩
  have hk01 := hk0.more hk1 (fun _ f => f.elim)
  have hb1 := (hk1.block _ (Array.getElem?_eq_some_iff.1 hb0).1 (fun f => f)).trans hb0
  clear hk0 hk1 hb0 hs0
  go_wp2_with fail
  refine (openNil_any W1).mono ?_
  rintro e W2 ⟨rfl, hk2⟩
  have hk02 := hk01.more hk2 (fun _ f => f.elim)
  have hb2 := (hk2.block _ (Array.getElem?_eq_some_iff.1 hb1).1 (fun f => f)).trans hb1
  clear hk01 hk2 hb1
  go_wp2_with (first | (go_at_call 18; refine (setNil_any _ _).mono ?_; rintro e W3 ⟨rfl, rfl⟩) | (go_at_call 19; refine (getNil_any _ _).mono ?_; rintro e W4 ⟨rfl, rfl⟩))
  obtain ⟨W3, hW3⟩ : ∃ W, W2.alloc (.cells #[.string s, .int .u64 id] 48) = W := ⟨_, rfl⟩
  rw [hW3]
  have hk3 : Kept (fun _ => False) W2 W3 := by rw [← hW3]; exact (Kept.refl _ _).alloc _
  refine (rall_any none W3).mono ?_
  rintro e W6 ⟨rfl, hW6⟩
  have hk6 : Kept (fun _ => False) W3 W6 := by rw [hW6]; exact (Kept.refl _ _).alloc _
  have hbs : W6.heap[W3.heap.size]? = some (.cells #[.pointer none] 39 (0, 0)) := by rw [hW6]; exact World.alloc_heap_new _ _
  have hk36 := hk3.more hk6 (fun _ f => f.elim)
  have hk06 := hk02.more hk36 (fun _ f => f.elim)
  have hb6 := (hk36.block _ (Array.getElem?_eq_some_iff.1 hb2).1 (fun f => f)).trans hb2
  have HSEQ := Lib.hid (nil_seq 4 W3.heap.size hbs (fun _ _ => True))
  have HB6 := Lib.hid hb6
  have HK06 := Lib.hid hk06
  clear hW6 hk3 hk6 hbs hk36 hW3 hk02 hb2 hb6 hk06
  go_wp2_with fail
  refine name_act ?_
  intro A0 hA0
  refine (wpIn_wide (n := 5)).1 ?_
  refine wpIn_rangeV (by omega) (gf := 54) (lb := #[.pointer (some ⟨W3.heap.size, 0, none⟩)]) (by rw [hA0]; simp [Act.eval]) (enters_of Tryd.func54 (by kernel_rfl) rfl) HSEQ.out (fun _ _ => trivial) (fun _ _ _ _ _ _ _ _ => trivial) (fun _ => rfl)
    (fun _ W => Kept (fun _ => False) W6 W)
    (fun _ _ _ => False) ?hI (fun _ _ _ _ _ hs _ _ => hs) (Kept.refl _ _) (fun _ _ _ _ _ _ _ => trivial) (fun x a' _ => True) (fun _ _ _ _ _ _ h _ _ => h) ?assign ?body ?done ?stop
  case hI =>
    rintro pre A B row hk hg hr
    exact hk.grown hg (fun k e hk => absurd (hr k e).1 (by omega))
  case assign =>
    rintro l' pre x W K hi hv hK
    have HK := Lib.hid hK
    have HI := Lib.hid hi
    clear hK hi hv
    subst hA0
    unfold refArgs
    gi_wp2
    exact HK.out _ W (KeepsFrom.refl _ _) trivial HI.out trivial trivial
  case body =>
    intro l' pre x a' W hl' hi hv ha hpre
    exact absurd hpre (Nat.not_lt_zero _)
  case done =>
    rintro D xs W hD rfl hk hK
    have hb7 := (hk.block _ (Array.getElem?_eq_some_iff.1 HB6.out).1 (fun f => f)).trans HB6.out
    have HU := Lib.hid (underNil_any W s)
    have HF := Lib.hid (And.intro hk (And.intro hK (And.intro hD hb7)))
    clear hk hK hD hb7
    subst hA0
    go_wp2_with fail
    refine HU.out.mono ?_
    rintro e W7 ⟨rfl, hk7⟩
    have HK7 := Lib.hid hk7
    have HWK := Lib.hid (wakes08_any W7)
    clear hk7
    go_wp2_with (go_at_call 27; refine (lenNil_any _).mono ?_; rintro e W8 ⟨rfl, rfl⟩)
    refine HWK.out.mono ?_
    rintro e W8 ⟨rfl, hk8⟩
    obtain ⟨hk, hK, hD, hb7⟩ := HF.out
    have hk78 := HK7.out.more hk8 (fun _ f => f.elim)
    have hb8 := (hk78.block _ (Array.getElem?_eq_some_iff.1 hb7).1 (fun f => f)).trans hb7
    have hK8 := (hk78.block _ (Array.getElem?_eq_some_iff.1 hK).1 (fun f => f)).trans hK
    have c8 : W8.cell? ⟨w.heap.size, 0, none⟩ = some (.bool false) := by simp [World.cell?, hb8]
    have f8 : W8.frozen? ⟨w.heap.size, 0, none⟩ = false := by simp [World.frozen?, hb8]
    have HK8 := Lib.hid (And.intro (HK06.out.more (hk.more hk78 (fun _ f => f.elim)) (fun _ f => f.elim)) (And.intro hK8 (And.intro hD (And.intro HK06.out.size hb8))))
    clear hk hK hD hb7 hk78 hb8 hK8 HF hk8
    go_wp2_with fail
    obtain ⟨hk, hK, hD, hsz, hb8⟩ := HK8.out
    have hlt := (Array.getElem?_eq_some_iff.1 HB6.out).1
    have hK9 : (W8.setCell ⟨w.heap.size, 0, none⟩ (.bool true)).heap[D]? = some (.deferred (some [])) := (heap_setCell_ne (by omega) _).trans hK
    refine ⟨by simp, .inl ⟨_, _, rfl, run_takeDeferred hK9, ?_⟩⟩
    have hb9 := heap_setCell_row (o := 0) hb8 (.bool true)
    have hb10 : ((W8.setCell ⟨w.heap.size, 0, none⟩ (.bool true)).putObj D (.deferred none)).heap[w.heap.size]? = _ := (World.putObj_heap_other (by omega)).trans hb9
    have hkE : Kept (fun _ => False) w ((W8.setCell ⟨w.heap.size, 0, none⟩ (.bool true)).putObj D (.deferred none)) := (hk.setCell (p := ⟨w.heap.size, 0, none⟩) (fun h => absurd h (Nat.lt_irrefl _)) _).grown (grownBy_putObj' _ D (.deferred none)) (fun k e hk => by cases e; omega)
    generalize (W8.setCell ⟨w.heap.size, 0, none⟩ (.bool true)).putObj D (.deferred none) = W9 at *
    have c9 : W9.cell? ⟨w.heap.size, 0, none⟩ = some (.bool true) := by simp [World.cell?, hb10]
    exact ⟨.bool true, by simp [results, Tryd.f6, go_sem, c9], rfl, hkE⟩
  case stop =>
    rintro D cc pre W hD hS hf
    exact hf.elim
end Go.Proofs.YtjnhkepgoghogaaDoor
