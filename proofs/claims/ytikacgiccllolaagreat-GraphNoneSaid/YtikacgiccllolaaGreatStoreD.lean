/- store: Open over a disk without its file. -/
import Derived.Test.YtikacgiccllolaaGreatStoreA
import Derived.Test.YtikacgiccllolaaGreatJourD
import Derived.RangeFuncNested
import Derived.RangeFuncBound
import Derived.RangeFuncCalls
import Derived.RangeFuncLeaves
import Derived.RangeFuncBox
import Derived.Shelf.Abstract
import Derived.OwnWalkIn
import Derived.TacticsInMore
import Derived.LoopNIn
import Derived.LoopIn
import Derived.Maps.OwnIn
import Derived.RangeFuncWrites
import Derived.RangeFuncFrom
namespace Go.Proofs.YtikacgiccllolaaGreat
open Go.RowKit Go.ChangeMaps Go.MapKept

attribute [local go_sem] Oper.semAt_some

theorem each_none {w : World} {j b m : Nat} {es : Array MapEntry} {clock : Nat} {av pv : Value} {D : DM} {J : JM} (h : JAt w j b m es clock av pv D J) (hr : J.recs = []) (Bs : Nat) (hc : w.cell? ⟨Bs, 0, none⟩ = some (.pointer (some ⟨j, 0, none⟩))) :
    SeqStopsK Fence.wide 4 Tryz.prog 64 #[.pointer (some ⟨Bs, 0, none⟩)] (fun x : Nat × Value => #[.int .i64 x.1, x.2]) (fun _ _ => True) (fun ys => ys = []) (fun _ => False) 0 w := fun l K Kx W hW hJ _ hY h0 => by
  have hk : Kept (fun _ => False) w W := Kept.of_below (Nat.le_refl _) hW
  have hL := jlen_any (h.keptN hk)
  rw [hr, List.length_nil] at hL
  have HL := Lib.hid hL
  have hc' := hk.cell hc (fun f => f)
  have HK0 := Lib.hid h0
  refine callsIn_of_wp Tryz.func64 rfl trivial ?_ rfl
  simp only [Tryz.ntmps64, List.size_toArray, List.length_cons, List.length_nil, Nat.reduceAdd, Nat.reduceSub, Array.replicate_succ, Array.replicate_zero, List.push_toArray, List.append_toArray, List.nil_append, List.cons_append]
  clear hL hY h0
  gi_wp2_with fail
  refine ⟨trivial, (callsIn_wide.2 HL.out).mono ?_⟩
  rintro e W1 ⟨rfl, rfl⟩
  gi_wp2_with fail
  gi_loopw [6] (fun i wr => i = .int .i64 0 ∧ wr = W) (fun _ _ => 0)
  case atStart => exact ⟨rfl, rfl⟩
  case round =>
    obtain ⟨rfl, rfl⟩ := hrel
    gi_wp2
    go_end0
    exact ⟨⟨_, rfl⟩, .inl ⟨[], rfl, HK0.out⟩⟩

theorem each_any {w : World} (a : Option Addr) : Calls Tryz.prog 38 #[.pointer a] w fun e w' => e = .returned (.func (.func 64) #[] #[.pointer (some ⟨w.heap.size, 0, none⟩)]) ∧ w' = w.alloc (.cells #[.pointer a] 89) := by
  go_enter Tryz.func38, Tryz.ntmps38
  go_wp2
  go_ret
  exact ⟨rfl, rfl⟩
def objF : ByteArray := { data := #[111, 98, 106, 101, 99, 116, 115] }
theorem name_act {P : Program} {c : Code} {Q : Exit → Act → World → Prop} {a : Act} {w : World} (h : ∀ A0, A0 = a → c.wp P Q A0 w) : c.wp P Q a w := h a rfl

set_option maxRecDepth 100000 in
set_option maxHeartbeats 1000000 in
theorem sopen_any {w : World} {b m : Nat} {es : Array MapEntry} {clock : Nat} {D : DM} (hd : DiskAt w b m es clock D) (hg : getA objF D.files = none) :
    Calls Tryz.prog 19 #[.pointer (some ⟨b, 0, none⟩)] w fun e w' => ∃ s F, e = .returned (.tuple #[.pointer (some ⟨s, 0, none⟩), .int .i64 0]) ∧ StoreAt w' s F D ⟨objF, [], 0, false⟩ ∧ (∀ k, F k → diskF b m es k ∨ w.heap.size ≤ k) ∧ Kept (fun _ => False) w w' := by
  refine (callsIn_wide (n := 5)).1 ?_
  refine callsIn_of_wp_marks Tryz.func19 rfl trivial ?_ rfl
  refine (wpIn_wide (n := 5)).2 ?_
  simp only [Tryz.ntmps19, List.size_toArray, List.length_cons, List.length_nil, Nat.reduceAdd, Nat.reduceSub, Array.replicate_succ, Array.replicate_zero, List.push_toArray, List.append_toArray, List.nil_append, List.cons_append]
  obtain ⟨W1, hW1⟩ : ∃ W, w.alloc (.cells #[.pointer none] 33) = W := ⟨_, rfl⟩
  obtain ⟨W2, hW2⟩ : ∃ W, W1.alloc (.cells #[.int .i64 0] 30) = W := ⟨_, rfl⟩
  have hk1 : Kept (fun _ => False) w W1 := by rw [← hW1]; exact (Kept.refl _ _).alloc _
  have hk2 : Kept (fun _ => False) W1 W2 := by rw [← hW2]; exact (Kept.refl _ _).alloc _
  have hs1 : W1.heap.size = w.heap.size + 1 := by rw [← hW1]; simp
  have hs2 : W2.heap.size = w.heap.size + 2 := by rw [← hW2]; simp [hs1]
  have hb1 : W2.heap[w.heap.size]? = some (.cells #[.pointer none] 33 (0, 0)) := (hk2.block _ (by omega) (fun f => f)).trans (by rw [← hW1]; exact heap_alloc_new _ _)
  have hb2 : W2.heap[w.heap.size + 1]? = some (.cells #[.int .i64 0] 30 (0, 0)) := by rw [← hW2, ← hs1]; exact heap_alloc_new _ _
  have hJO := Lib.hid (jopen_empty (hd.kept (hk1.more hk2 (fun _ f => f.elim)) (fun _ _ f => f)) objF (by decide) hg)
  have hk12 := hk1.more hk2 (fun _ f => f.elim)
  clear hk1 hk2
  have hmm := @run_makeMap Tryz.prog
  go_wp2_with fail
  refine hJO.out.mono ?_
  rintro e W3 ⟨j, rfl, hj, hja, hk3⟩
  have hs3 := hk3.size
  obtain ⟨W4, hW4⟩ : ∃ W, W3.alloc (.map #[] 0) = W := ⟨_, rfl⟩
  have hk4 : Kept (fun _ => False) W3 W4 := by rw [← hW4]; exact (Kept.refl _ _).alloc _
  have hs4 : W4.heap.size = W3.heap.size + 1 := by rw [← hW4]; simp
  have hb4 : W4.heap[W3.heap.size]? = some (.map #[] 0) := by rw [← hW4]; exact heap_alloc_new _ _
  obtain ⟨W5, hW5⟩ : ∃ W, W4.alloc (.cells #[.pointer (some ⟨j, 0, none⟩), .map (some W3.heap.size), .slice none 0 0] 93) = W := ⟨_, rfl⟩
  have hk5 : Kept (fun _ => False) W4 W5 := by rw [← hW5]; exact (Kept.refl _ _).alloc _
  have hs5 : W5.heap.size = W3.heap.size + 2 := by rw [← hW5]; simp [hs4]
  have hb5 : W5.heap[W3.heap.size + 1]? = some (.cells #[.pointer (some ⟨j, 0, none⟩), .map (some W3.heap.size), .slice none 0 0] 93 (0, 0)) := by rw [← hW5, ← hs4]; exact heap_alloc_new _ _
  obtain ⟨W6, hW6⟩ : ∃ W, W5.alloc (.cells #[.pointer none] 33) = W := ⟨_, rfl⟩
  have hk6 : Kept (fun _ => False) W5 W6 := by rw [← hW6]; exact (Kept.refl _ _).alloc _
  have hs6 : W6.heap.size = W3.heap.size + 3 := by rw [← hW6]; simp [hs5]
  have hb6 : W6.heap[W3.heap.size + 2]? = some (.cells #[.pointer none] 33 (0, 0)) := by rw [← hW6, ← hs5]; exact heap_alloc_new _ _
  obtain ⟨W7, hW7⟩ : ∃ W, W6.setCell ⟨W3.heap.size + 2, 0, none⟩ (.pointer (some ⟨W3.heap.size + 1, 0, none⟩)) = W := ⟨_, rfl⟩
  have hk7 : Kept (· = W3.heap.size + 2) W6 W7 := by rw [← hW7]; exact (Kept.refl (· = W3.heap.size + 2) W6).setCell (p := ⟨W3.heap.size + 2, 0, none⟩) (fun _ => rfl) _
  have hb7 : W7.heap[W3.heap.size + 2]? = some (.cells #[.pointer (some ⟨W3.heap.size + 1, 0, none⟩)] 33 (0, 0)) := by rw [← hW7]; exact heap_setCell_row (o := 0) hb6 _
  have hs7 : W7.heap.size = W3.heap.size + 3 := by rw [← hW7, heap_size_setCell, hs6]
  obtain ⟨W8, hW8⟩ : ∃ W, W7.alloc (.cells #[.pointer (some ⟨j, 0, none⟩)] 89) = W := ⟨_, rfl⟩
  have hk8 : Kept (fun _ => False) W7 W8 := by rw [← hW8]; exact (Kept.refl _ _).alloc _
  have hs8 : W8.heap.size = W3.heap.size + 4 := by rw [← hW8]; simp [hs7]
  have hc8 : W8.cell? ⟨W7.heap.size, 0, none⟩ = some (.pointer (some ⟨j, 0, none⟩)) := by rw [← hW8, World.cell?_alloc_new]; rfl
  have hk36 : Kept (fun _ => False) W3 W6 := (hk4.more hk5 (fun _ f => f.elim)).more hk6 (fun _ f => f.elim)
  have hk38 : Kept (fun _ => False) W3 W8 := (hk36.more hk7 (fun i e => by omega)).more hk8 (fun _ f => f.elim)
  have hk58 : Kept (· = W3.heap.size + 2) W5 W8 := ((hk6.mono (fun _ _ f => f.elim)).trans hk7 (fun _ _ h => h)).trans hk8 (fun _ _ f => f.elim)
  have hm8 : W8.heap[W3.heap.size]? = some (.map #[] 0) := (hk58.block _ (by omega) (fun e => by omega)).trans ((hk5.block _ (by omega) (fun f => f)).trans hb4)
  have hst8 : W8.heap[W3.heap.size + 1]? = some (.cells #[.pointer (some ⟨j, 0, none⟩), .map (some W3.heap.size), .slice none 0 0] 93 (0, 0)) := (hk58.block _ (by omega) (fun e => by omega)).trans hb5
  have hv8 : W8.heap[W3.heap.size + 2]? = some (.cells #[.pointer (some ⟨W3.heap.size + 1, 0, none⟩)] 33 (0, 0)) := (hk8.block _ (by omega) (fun f => f)).trans hb7
  have hmlt := hd.lt m (.inr (.inl rfl))
  have hSA : StAt W8 (W3.heap.size + 1) j b m W3.heap.size es #[] clock 0 (.slice none 0 0) (.slice none 0 0) (.slice none 0 0) D ⟨objF, [], 0, false⟩ :=
    ⟨hja.keptN hk38, hst8, hm8, stamped_empty 0, trivial, World.ownsRow_nil _ _ _ _, by omega, List.nodup_nil⟩
  have hEN := each_none (hja.keptN hk38) rfl W7.heap.size hc8
  have hw8 : W8.heap[w.heap.size]? = some (.cells #[.pointer none] 33 (0, 0)) := (hk38.block _ (by omega) (fun f => f)).trans ((hk3.block _ (by omega) (fun f => f)).trans hb1)
  have hw81 : W8.heap[w.heap.size + 1]? = some (.cells #[.int .i64 0] 30 (0, 0)) := (hk38.block _ (by omega) (fun f => f)).trans ((hk3.block _ (by omega) (fun f => f)).trans hb2)
  have hk08 : Kept (fun _ => False) w W8 := (hk12.more hk3 (fun _ f => f.elim)).more hk38 (fun _ f => f.elim)
  have HW := Lib.hid (And.intro hW4 (And.intro hW5 (And.intro hW6 (And.intro hW7 hW8))))
  have HJ : Hid (j < W3.heap.size ∧ w.heap.size ≤ j) := Lib.hid ⟨(Array.getElem?_eq_some_iff.1 hja.cell).1, by omega⟩
  have hEA := Lib.hid (each_any (w := W7) (some ⟨j, 0, none⟩))
  have d6 : W6.cell? ⟨W3.heap.size + 2, 0, none⟩ = some (.pointer none) := by simp [World.cell?, hb6]
  have f6 : W6.frozen? ⟨W3.heap.size + 2, 0, none⟩ = false := by simp [World.frozen?, hb6]
  clear hk4 hk5 hk6 hk7 hk8 hb4 hb5 hb6 hb7 hc8 hk36 hk58 hm8 hst8
  go_wp2_with fail
  refine hEA.out.mono ?_
  rintro e W8' ⟨rfl, hw8e⟩
  rw [hW8] at hw8e
  obtain rfl := hw8e
  go_wp2_with fail
  refine name_act ?_
  intro A0 hA0
  refine (wpIn_wide (n := 5)).1 ?_
  refine wpIn_rangeFunc_ownH (F := Fence.wide) rfl (by omega) (gf := 64) (lb := #[.pointer (some ⟨W7.heap.size, 0, none⟩)]) (by rw [hA0]; simp [Act.eval]) trivial (enters_of Tryz.func64 (by kernel_rfl) rfl)
    hEN (fun _ _ => trivial) (fun _ _ _ _ _ _ _ _ => trivial) (Below.refl _ _) (fun _ => rfl)
    (fun _ W => Kept (fun _ => False) W8' W) (fun _ _ _ => False) ?hI (fun _ _ _ _ _ hs _ _ => hs) (Kept.refl _ _) (fun _ _ _ => True) (fun _ _ _ _ _ _ _ _ _ => trivial) ?assign ?body ?done ?stop
  case hI =>
    rintro pre A B row hk hg hr
    exact hk.grown hg (fun k e hk => by have := (hr k e).1; omega)
  case assign =>
    rintro l' pre x W K hk hK
    have HK := Lib.hid hK
    clear hK
    subst hA0
    gi_wp2
    exact HK.out _ _ ((KeepsOthers.refl _).from _) trivial hk trivial
  case body =>
    intro l' pre x a' W _ _ _ _ hp
    exact absurd hp (Nat.not_lt_zero _)
  case stop =>
    rintro D' c pre W _ _ h _
    exact h.elim
  case done =>
    rintro D' xs W hD rfl hk hK
    subst hA0
    have k2 := (hk.block _ (by omega) (fun f => f)).trans hv8
    have k3 := (hk.block _ (Array.getElem?_eq_some_iff.1 hSA.cell).1 (fun f => f)).trans hSA.cell
    have k4 := (hk.block _ (by omega) (fun f => f)).trans hw8
    have k5 := (hk.block _ (by omega) (fun f => f)).trans hw81
    have d2 : W.cell? ⟨W3.heap.size + 2, 0, none⟩ = some (.pointer (some ⟨W3.heap.size + 1, 0, none⟩)) := by simp [World.cell?, k2]
    have d3 : W.cell? ⟨W3.heap.size + 1, 2, none⟩ = some (.slice none 0 0) := by simp [World.cell?, k3]
    have d4 : W.cell? ⟨w.heap.size, 0, none⟩ = some (.pointer none) := by simp [World.cell?, k4]
    have f4 : W.frozen? ⟨w.heap.size, 0, none⟩ = false := by simp [World.frozen?, k4]
    have d5 : W.cell? ⟨w.heap.size + 1, 0, none⟩ = some (.int .i64 0) := by simp [World.cell?, k5]
    have f5 : W.frozen? ⟨w.heap.size + 1, 0, none⟩ = false := by simp [World.frozen?, k5]
    have n1 : ¬ w.heap.size = w.heap.size + 1 := by omega
    have n2 : ¬ w.heap.size + 1 = w.heap.size := by omega
    have HP := Lib.hid (And.intro k4 (And.intro k5 (And.intro hk (And.intro hK hD))))
    clear k2 k3 k4 k5 hk hK
    go_wp2
    obtain ⟨k4, k5, hk, hK, hD⟩ := HP.out
    have hS1 := (Kept.refl (· = w.heap.size) W).setCell (p := ⟨w.heap.size, 0, none⟩) (fun _ => rfl) (.pointer (some ⟨W3.heap.size + 1, 0, none⟩))
    have hS2 := (Kept.refl (· = w.heap.size + 1) (W.setCell ⟨w.heap.size, 0, none⟩ (.pointer (some ⟨W3.heap.size + 1, 0, none⟩)))).setCell (p := ⟨w.heap.size + 1, 0, none⟩) (fun _ => rfl) (.int .i64 0)
    have hDw := (Array.getElem?_eq_some_iff.1 hK).1
    have hK2 := (hS2.block D' (by rw [heap_size_setCell]; exact hDw) (fun e => by omega)).trans ((hS1.block D' hDw (fun e => by omega)).trans hK)
    have k4' := heap_setCell_row (o := 0) k4 (.pointer (some ⟨W3.heap.size + 1, 0, none⟩))
    have k4s := (hS2.block w.heap.size (Array.getElem?_eq_some_iff.1 k4').1 (fun e => by omega)).trans k4'
    have k5' := (hS1.block (w.heap.size + 1) (Array.getElem?_eq_some_iff.1 k5).1 (fun e => by omega)).trans k5
    have k5s := heap_setCell_row (o := 0) k5' (.int .i64 0)
    refine ⟨by simp, .inl ⟨_, _, rfl, run_takeDeferred hK2, ?_⟩⟩
    have hP2 := grownBy_putObj' ((W.setCell ⟨w.heap.size, 0, none⟩ (.pointer (some ⟨W3.heap.size + 1, 0, none⟩))).setCell ⟨w.heap.size + 1, 0, none⟩ (.int .i64 0)) D' (.deferred none)
    have e4 := (hP2.block w.heap.size (Array.getElem?_eq_some_iff.1 k4s).1 (fun e => by cases e; omega)).trans k4s
    have e5 := (hP2.block (w.heap.size + 1) (Array.getElem?_eq_some_iff.1 k5s).1 (fun e => by cases e; omega)).trans k5s
    generalize hWZ : ((W.setCell ⟨w.heap.size, 0, none⟩ (.pointer (some ⟨W3.heap.size + 1, 0, none⟩))).setCell ⟨w.heap.size + 1, 0, none⟩ (.int .i64 0)).putObj D' (.deferred none) = WZ at *
    have c4 : WZ.cell? ⟨w.heap.size, 0, none⟩ = some (.pointer (some ⟨W3.heap.size + 1, 0, none⟩)) := by simp [World.cell?, e4]
    have c5 : WZ.cell? ⟨w.heap.size + 1, 0, none⟩ = some (.int .i64 0) := by simp [World.cell?, e5]
    have hkZ : Kept (fun k => k = w.heap.size ∨ k = w.heap.size + 1 ∨ k = D') W WZ := ((hS1.mono (fun i _ e => .inl e)).trans hS2 (fun i _ e => .inr (.inl e))).grown hP2 (fun k e _ => by cases e; exact .inr (.inr rfl))
    have hkF : Kept (fun k => k = w.heap.size ∨ k = w.heap.size + 1 ∨ k = D') W8' WZ := (hk.mono (fun _ _ f => f.elim)).trans hkZ (fun _ _ h => h)
    refine ⟨.tuple #[.pointer (some ⟨W3.heap.size + 1, 0, none⟩), .int .i64 0], by simp [results, Tryz.f19, go_sem, c4, c5], W3.heap.size + 1, _, rfl, ⟨j, b, m, _, es, #[], clock, 0, _, _, _, hSA.kept hkF (fun k hF e => ?_), rfl⟩, fun k hF => ?_, hk08.more hkF (fun i e => by rcases e with e | e | e <;> omega)⟩
    · have hlt := hSA.lt k hF
      rcases hF with h1 | h1 | h1 | h1 | h1 | h1 | h1
      · rcases e with e | e | e <;> omega
      · rcases e with e | e | e <;> omega
      · cases h1
      · have := HJ.out
        have hj2 := hj
        rcases e with e | e | e
        · omega
        · omega
        · omega
      · cases h1
      · cases h1
      · have := hd.lt k h1
        rcases e with e | e | e <;> omega
    · rcases hF with h1 | h1 | h1 | h1 | h1 | h1 | h1
      · exact .inr (by omega)
      · exact .inr (by omega)
      · cases h1
      · exact .inr (by have := HJ.out; omega)
      · cases h1
      · cases h1
      · exact .inl h1
end Go.Proofs.YtikacgiccllolaaGreat
