/- refs: what a Refs that is nil answers. -/
import Derived.Test.YtjnhkepgoghogaaGreatDoorNamD
import Derived.Test.YtjnhkepgoghogaaGreatDoorJourD
namespace Go.Proofs.YtjnhkepgoghogaaGreatDoor
open Go.RowKit Go.ChangeMaps Go.MapKept
set_option linter.unusedSimpArgs false
theorem may_ab : mayOf ⟨#[97, 47, 98]⟩ = 0 := by
  decide +kernel
theorem getNil_any (s : ByteArray) (w : World) : Calls Tryz.prog 18 #[.pointer none, .string s] w fun e w' => e = .returned (.tuple #[.int .u64 0, .int .i64 1]) ∧ w' = w := by
  go_enter Tryz.func18, Tryz.ntmps18
  go_wp2_with fail
  go_ret2
  exact ⟨rfl, rfl⟩
theorem lenNil_any (w : World) : Calls Tryz.prog 19 #[.pointer none] w fun e w' => e = .returned (.int .i64 0) ∧ w' = w := by
  go_enter Tryz.func19, Tryz.ntmps19
  go_wp2_with fail
  go_ret
  exact ⟨rfl, rfl⟩
theorem setNil_any (v : Value) (w : World) : Calls Tryz.prog 9 #[.pointer none, v] w fun e w' => e = .returned (.int .i64 1) ∧ w' = w := by
  go_enter Tryz.func9, Tryz.ntmps9
  go_wp2_with fail
  (try go_step3)
  go_wp2_with fail
  (try rw [Exit.noGoto_ret])
  go_ret
  exact ⟨rfl, rfl⟩
end Go.Proofs.YtjnhkepgoghogaaGreatDoor

/- refs.Open at no disk. -/
namespace Go.Proofs.YtjnhkepgoghogaaGreatDoor
open Go.RowKit Go.ChangeMaps Go.MapKept
set_option linter.unusedSimpArgs false
theorem jopenNil_any (s : ByteArray) (w : World) : Calls Tryz.prog 20 #[.pointer none, .string s] w fun e w' => e = .returned (.tuple #[.pointer none, .int .i64 1]) ∧ Kept (fun _ => False) w w' := by
  go_enter Tryz.func20, Tryz.ntmps20
  go_wp2_with fail
  go_step3
  go_wp2_with fail
  (try rw [Exit.noGoto_ret])
  go_ret2
  exact ⟨rfl, Kept.refl _ _⟩
/-- Two results through cells. -/
theorem cells2_ret {R : Ending → World → Prop} {W : World} {B C : Nat} {x y : Value} {t u : Tmp} {tx ty : TypeId} {fn : Func} {a : Act} (hf : fn.results = #[.cell t tx, .cell u ty]) (ht : a.tmps.getD t undef = .pointer (some ⟨B, 0, none⟩)) (hu : a.tmps.getD u undef = .pointer (some ⟨C, 0, none⟩)) (hd : a.defers = [])
    (hx : (loadVar tx ⟨B, 0, none⟩).run Tryz.prog W = .ok x W) (hy : (loadVar ty ⟨C, 0, none⟩).run Tryz.prog W = .ok y W) (hR : R (.returned (.tuple #[x, y])) W) : bodyPost Tryz.prog fn R .ret a W := by
  refine bodyPost_ret (v := .tuple #[x, y]) ?_ hd hR
  have ht2 : a.tmps[t]?.getD undef = .pointer (some ⟨B, 0, none⟩) := by simpa using ht
  have hu2 : a.tmps[u]?.getD undef = .pointer (some ⟨C, 0, none⟩) := by simpa using hu
  simp [results, hf, ht2, hu2, asAddr, Result.andThen, hx, hy]
theorem openNil_any (w : World) : Calls Tryz.prog 7 #[.pointer none] w fun e w' => e = .returned (.tuple #[.pointer none, .int .i64 1]) ∧ Kept (fun _ => False) w w' := by
  go_enter Tryz.func7, Tryz.ntmps7
  go_wp2_with fail
  have hb0 : ((w.alloc (.cells #[.pointer none] 26)).alloc (.cells #[.int .i64 0] 27)).heap[w.heap.size]? = some (.cells #[.pointer none] 26 (0, 0)) := alloc_old (heap_alloc_new _ _)
  have hb1 : ((w.alloc (.cells #[.pointer none] 26)).alloc (.cells #[.int .i64 0] 27)).heap[w.heap.size + 1]? = some (.cells #[.int .i64 0] 27 (0, 0)) := by
    have h := heap_alloc_new (w.alloc (.cells #[.pointer none] 26)) (.cells #[.int .i64 0] 27)
    rwa [show (w.alloc (.cells #[.pointer none] 26)).heap.size = w.heap.size + 1 by simp] at h
  refine (jopenNil_any _ _).mono ?_
  rintro e w1 ⟨rfl, hk⟩
  have hc0 := (hk.block _ (Array.getElem?_eq_some_iff.1 hb0).1 (fun f => f)).trans hb0
  have hc1 := (hk.block _ (Array.getElem?_eq_some_iff.1 hb1).1 (fun f => f)).trans hb1
  have y0 : w1.cell? ⟨w.heap.size, 0, none⟩ = some (.pointer none) := by simp [World.cell?, hc0]
  have y1 : w1.cell? ⟨w.heap.size + 1, 0, none⟩ = some (.int .i64 0) := by simp [World.cell?, hc1]
  have y2 : w1.frozen? ⟨w.heap.size, 0, none⟩ = false := by simp [World.frozen?, hc0]
  have y3 : w1.frozen? ⟨w.heap.size + 1, 0, none⟩ = false := by simp [World.frozen?, hc1]
  have HC0 := Lib.hid hc0
  have HC1 := Lib.hid hc1
  clear hb0 hb1 hc0 hc1
  have HK : Hid (Kept (fun _ => False) w w1) := Lib.hid ((((Kept.refl _ _).alloc _).alloc _).trans hk (fun _ _ f => f))
  go_wp2_with fail
  have hk2 : Kept (fun _ => False) w ((w1.setCell ⟨w.heap.size, 0, none⟩ (.pointer none)).setCell ⟨w.heap.size + 1, 0, none⟩ (.int .i64 1)) := (HK.out.setCell (p := ⟨w.heap.size, 0, none⟩) (fun h => by simp at h) _).setCell (p := ⟨w.heap.size + 1, 0, none⟩) (fun h => by simp at h; omega) _
  have h0 := (heap_setCell_ne (w := w1.setCell ⟨w.heap.size, 0, none⟩ (.pointer none)) (b := w.heap.size + 1) (o := 0) (k := w.heap.size) (by omega) (.int .i64 1)).trans (heap_setCell_row HC0.out (.pointer none))
  have h1 := heap_setCell_row (o := 0) ((heap_setCell_ne (w := w1) (b := w.heap.size) (o := 0) (k := w.heap.size + 1) (by omega) (.pointer none)).trans HC1.out) (.int .i64 1)
  obtain ⟨W, hW⟩ : ∃ W, (w1.setCell ⟨w.heap.size, 0, none⟩ (.pointer none)).setCell ⟨w.heap.size + 1, 0, none⟩ (.int .i64 1) = W := ⟨_, rfl⟩
  rw [hW] at hk2 h0 h1 ⊢
  have z0 : W.cell? ⟨w.heap.size, 0, none⟩ = some (.pointer none) := by simp [World.cell?, h0]
  have z1 : W.cell? ⟨w.heap.size + 1, 0, none⟩ = some (.int .i64 1) := by simp [World.cell?, h1]
  clear hW y0 y1 y2 y3
  exact cells2_ret rfl rfl rfl rfl (by go_simp) (by go_simp) ⟨rfl, hk2⟩
end Go.Proofs.YtjnhkepgoghogaaGreatDoor
