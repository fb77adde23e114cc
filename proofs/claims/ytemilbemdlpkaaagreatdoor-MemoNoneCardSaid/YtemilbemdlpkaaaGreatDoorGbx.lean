/- espalierlaw18.MemoNone: no disk, no memo, the key 0. -/
import Derived.Test.YtemilbemdlpkaaaGreatDoorGbw
namespace Go.Proofs.YtemilbemdlpkaaaGreatDoor
open Go.RowKit Go.Shelf
set_option linter.unusedSimpArgs false
attribute [local go_sem] Oper.semAt_some

theorem tabB_of {w W : World} (hT : ∀ W, Kept (fun _ => False) w W → Tab10 W) (hk : Kept (fun _ => False) w W) : TabB W.heap.size W := fun W' hW => hT W' (hk.more hW (fun _ e => Nat.le_trans hk.size e))

set_option maxRecDepth 100000 in
set_option maxHeartbeats 1000000 in
theorem none18_any (w : World) (key pf pt : Nat) (hT : ∀ W, Kept (fun _ => False) w W → Tab10 W) :
    Calls Tryz.prog 6 #[.int .u64 key, .agg #[.int .u64 pf, .int .u64 pt]] w fun e w' => e = .returned (.bool true) ∧ Kept (fun _ => False) w w' := by
  obtain ⟨W1, hW1⟩ : ∃ W, (w.alloc (.cells #[.int .u64 pf, .int .u64 pt] 68)).alloc (.cells #[.bool false] 4) = W := ⟨_, rfl⟩
  have hk1 : Kept (fun _ => False) w W1 := by rw [← hW1]; exact ((Kept.refl _ _).alloc _).alloc _
  have hs1 : W1.heap.size = w.heap.size + 2 := by rw [← hW1]; simp
  have hbp : W1.heap[w.heap.size]? = some (.cells #[.int .u64 pf, .int .u64 pt] 68 (0, 0)) := by rw [← hW1]; exact alloc_old18 (heap_alloc_new _ _)
  have hbr : W1.heap[w.heap.size + 1]? = some (.cells #[.bool false] 4 (0, 0)) := by
    rw [← hW1]
    have h := heap_alloc_new (w.alloc (.cells #[.int .u64 pf, .int .u64 pt] 68)) (.cells #[.bool false] 4)
    rwa [World.size_alloc] at h
  have HW1 := Lib.hid hW1
  have HT := Lib.hid hT
  have HB := Lib.hid (And.intro hk1 (And.intro hs1 (And.intro hbp hbr)))
  clear hW1 hT hk1 hs1 hbp hbr
  refine (callsIn_wide (n := 5)).1 ?_
  refine callsIn_of_wp_marks Tryz.func6 rfl trivial ?_ rfl
  refine (wpIn_wide (n := 5)).2 ?_
  simp only [Tryz.ntmps6, List.size_toArray, List.length_cons, List.length_nil, Nat.reduceAdd, Nat.reduceSub, Array.replicate_succ, Array.replicate_zero, List.push_toArray, List.append_toArray, List.nil_append, List.cons_append]
  go_wp2_with fail
  rw [HW1.out]
  obtain ⟨hk1, hs1, hbp, hbr⟩ := HB.out
  refine (wakes18_any W1 (tabB_of HT.out hk1)).mono ?_
  rintro e W2 ⟨rfl, hk2⟩
  have hk02 := hk1.trans hk2 (fun _ _ f => f)
  have HK02 := Lib.hid hk02
  have HB2 := Lib.hid (And.intro ((hk2.block _ (by omega) (fun f => f)).trans hbp) ((hk2.block _ (by omega) (fun f => f)).trans hbr))
  have HS2 : Hid (w.heap.size + 2 ≤ W2.heap.size) := Lib.hid (by have := hk2.size; omega)
  clear hk1 hs1 hbp hbr hk2 hk02 HB HW1
  go_wp2_with fail
  refine (openNil_any W2 key).mono ?_
  rintro e W3 ⟨rfl, rfl⟩
  go_wp2_with fail
  refine (new_any _).mono ?_
  rintro e W4 ⟨b, m, rfl, -, -, -, hk4⟩
  have HK04 := Lib.hid (HK02.out.trans hk4 (fun _ _ f => f))
  have HS4 := Lib.hid (Nat.le_trans HS2.out hk4.size)
  have hb4 := (hk4.block _ (by have := HS2.out; omega) (fun f => f)).trans HB2.out.1
  have hr4 := (hk4.block _ (by have := HS2.out; omega) (fun f => f)).trans HB2.out.2
  have HB4 := Lib.hid (And.intro hb4 hr4)
  clear hk4 hb4 hr4
  go_wp2_with fail
  refine (openZero_any W4 b).mono ?_
  rintro e W5 ⟨rfl, rfl⟩
  have c0 : W5.cell? ⟨w.heap.size, 0, none⟩ = some (.int .u64 pf) := by have := HB4.out.1; simp [World.cell?, this]
  go_wp2_with fail
  refine (standinNil_any W5 pf).mono ?_
  rintro e W6 ⟨rfl, rfl⟩
  go_wp2_with fail
  refine (each_any18 W6 none).mono ?_
  rintro e W7 ⟨rfl, hW7⟩
  have hk7 : Kept (fun _ => False) W6 W7 := by rw [hW7]; exact (Kept.refl _ _).alloc _
  have hbs : W7.heap[W6.heap.size]? = some (.cells #[.pointer none] 29 (0, 0)) := by rw [hW7]; exact World.alloc_heap_new _ _
  have hs7 : W7.heap.size = W6.heap.size + 1 := by rw [hW7]; simp
  have HSEQ := Lib.hid (nilSeq18 4 W6.heap.size hbs (fun _ _ => True))
  have HB7 := Lib.hid (And.intro ((hk7.block _ (by have := HS4.out; omega) (fun f => f)).trans HB4.out.1) ((hk7.block _ (by have := HS4.out; omega) (fun f => f)).trans HB4.out.2))
  have HK07 := Lib.hid (HK04.out.trans hk7 (fun _ _ f => f))
  have HS7 : Hid (w.heap.size + 2 ≤ W7.heap.size) := Lib.hid (by have := HS4.out; omega)
  clear hW7 hk7 hbs hs7 c0
  go_wp2_with fail
  refine nameAct18 ?_
  intro A0 hA0
  refine (wpIn_wide (n := 5)).1 ?_
  refine wpIn_rangeV (by omega) (gf := 67) (lb := #[.pointer (some ⟨W6.heap.size, 0, none⟩)]) (by rw [hA0]; simp [Act.eval]) (enters_of Tryz.func67 (by kernel_rfl) rfl) HSEQ.out (fun _ _ => trivial) (fun _ _ _ _ _ _ _ _ => trivial) (fun _ => rfl)
    (fun _ W => Kept (fun _ => False) W7 W)
    (fun _ _ _ => False) ?hI (fun _ _ _ _ _ hs _ _ => hs) (Kept.refl _ _) (fun _ _ _ _ _ _ _ => trivial) (fun x a' _ => True) (fun _ _ _ _ _ _ h _ _ => h) ?assign ?body ?done ?stop
  case hI =>
    rintro pre A B row hk hg hr
    exact hk.grown hg (fun k e hk => absurd (hr k e).1 (by omega))
  case assign =>
    rintro l' pre x W K hi hv hK
    have HK := Lib.hid hK
    have HI := Lib.hid hi
    clear hK hi hv
    subst hA0
    unfold pairArgs18 valP
    gi_wp2
    exact HK.out _ W (KeepsFrom.refl _ _) trivial HI.out trivial trivial
  case body =>
    intro l' pre x a' W hl' hi hv ha hpre
    exact hpre.elim
  case stop =>
    rintro D cc pre W hD hS hf
    exact hf.elim
  case done =>
    rintro D xs W hD rfl hk hK
    have hb := (hk.block _ (by have := HS7.out; omega) (fun f => f)).trans HB7.out.1
    have hr := (hk.block _ (by have := HS7.out; omega) (fun f => f)).trans HB7.out.2
    have c0 : W.cell? ⟨w.heap.size, 0, none⟩ = some (.int .u64 pf) := by simp [World.cell?, hb]
    have c1 : W.cell? ⟨w.heap.size, 1, none⟩ = some (.int .u64 pt) := by simp [World.cell?, hb]
    have HK0 := Lib.hid (HK07.out.trans hk (fun _ _ f => f))
    have HF := Lib.hid (And.intro hr (And.intro hK hD))
    obtain ⟨WA, hWA⟩ : ∃ X, W.alloc (.cells #[.int .u64 pf, .int .u64 pt] 68) = X := ⟨_, rfl⟩
    have hkA : Kept (fun _ => False) W WA := by rw [← hWA]; exact (Kept.refl _ _).alloc _
    have c2 := hkA.cell c1 (fun f => f)
    have HKA := Lib.hid hkA
    have HAD := Lib.hid (addNil_any WA)
    have HSR := Lib.hid (sourcesNil_any WA pt)
    clear hk hK hb hr hkA
    subst hA0
    go_wp2_with (first
      | (go_at_call 12; refine (HAD.out _).mono ?_; rintro e w2 ⟨rfl, rfl⟩)
      | (go_at_call 31; refine HSR.out.mono ?_; rintro e w3 ⟨rfl, hk3⟩)
      | (go_at_call 32; refine (lenNil_any _).mono ?_; rintro e w4 ⟨rfl, rfl⟩)
      | (go_at_call 15; refine (runsNil_any _).mono ?_; rintro e w5 ⟨rfl, rfl⟩)
      | (go_at_call 33; refine (keysNil_any _).mono ?_; rintro e w6 ⟨rfl, hk6⟩))
    refine (wakes18_any _ (tabB_of HT.out (((HK0.out.trans HKA.out (fun _ _ f => f)).trans hk3 (fun _ _ f => f)).trans hk6 (fun _ _ f => f)))).mono ?_
    rintro e w7 ⟨rfl, hk7⟩
    have hkA7 := Lib.hid (((HKA.out.trans hk3 (fun _ _ f => f)).trans hk6 (fun _ _ f => f)).trans hk7 (fun _ _ f => f))
    have hr7 := Lib.hid ((hkA7.out.block _ (Array.getElem?_eq_some_iff.1 HF.out.1).1 (fun f => f)).trans HF.out.1)
    have cr : w7.cell? ⟨w.heap.size + 1, 0, none⟩ = some (.bool false) := by have := hr7.out; simp [World.cell?, this]
    have fr : w7.frozen? ⟨w.heap.size + 1, 0, none⟩ = false := by have := hr7.out; simp [World.frozen?, this]
    go_wp2_with fail
    obtain ⟨hr, hK, hD⟩ := HF.out
    have hkS := (Kept.refl (· = w.heap.size + 1) w7).setCell (p := ⟨w.heap.size + 1, 0, none⟩) (fun _ => rfl) (.bool true)
    have hb9 : (w7.setCell ⟨w.heap.size + 1, 0, none⟩ (.bool true)).heap[w.heap.size + 1]? = some (.cells #[.bool true] 4 (0, 0)) := (heap_setCell_row hr7.out _).trans rfl
    have hK7 := (hkS.block D (Nat.lt_of_lt_of_le (Array.getElem?_eq_some_iff.1 hK).1 hkA7.out.size) (by show ¬ D = w.heap.size + 1; have := HS7.out; omega)).trans ((hkA7.out.block D (Array.getElem?_eq_some_iff.1 hK).1 (fun f => f)).trans hK)
    refine leaves_taken18 [D] _ (by simp) (fun E hE => by rw [List.mem_singleton.1 hE]; exact hK7) (fun W' hk => ?_)
    have hbW := (hk.block _ (Array.getElem?_eq_some_iff.1 hb9).1 (by simp; have := HS7.out; omega)).trans hb9
    have hcW : W'.cell? ⟨w.heap.size + 1, 0, none⟩ = some (.bool true) := by simp [World.cell?, hbW]
    refine ⟨.bool true, by simp [results, Tryz.f6, go_sem, hcW], rfl, ?_⟩
    refine (((HK0.out.trans hkA7.out (fun _ _ f => f)).more hkS (fun i (e : i = _) => by omega)).more hk (fun i hi => ?_))
    have h8 := List.mem_singleton.1 hi
    have := HS7.out
    omega
end Go.Proofs.YtemilbemdlpkaaaGreatDoor
