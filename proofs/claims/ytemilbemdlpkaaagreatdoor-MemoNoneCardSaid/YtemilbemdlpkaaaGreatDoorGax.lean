/- slices.Values at pairs: its contract. -/
import Derived.RangeFuncNested
import Derived.RangeFuncBound
import Derived.RangeFuncCalls
import Derived.RangeFuncLeaves
import Derived.RangeFuncBox
import Derived.Shelf.Abstract
import Derived.OwnWalkIn
import Derived.TacticsInMore
import Derived.LoopNIn
import Derived.LoopIn
import Derived.Maps.OwnIn
import Derived.RangeFuncWrites
import Derived.RangeFuncFrom
import Derived.Test.YtemilbemdlpkaaaGreatDoorGaw
namespace Go.Proofs.YtemilbemdlpkaaaGreatDoor
open Go.RowKit Go.Shelf

attribute [local go_sem] Oper.semAt_some

/-- A pair as a value. -/
def valP (p : Nat × Nat) : Value := .agg #[.int .u64 p.1, .int .u64 p.2]

/-- A row of pairs in a block below n₀. -/
def PairsIn (n₀ : Nat) (W : World) (sv : Value) (l : List (Nat × Nat)) : Prop :=
  ((∃ a c, sv = .slice a 0 c) ∧ l = []) ∨ ∃ b off cap, sv = .slice (some ⟨b, off, none⟩) l.length cap ∧ b < n₀ ∧ ∀ j (h : j < l.length), W.cell? ⟨b, off + j * 2, none⟩ = some (.int .u64 l[j].1) ∧ W.cell? ⟨b, off + j * 2 + 1, none⟩ = some (.int .u64 l[j].2)
theorem PairsIn.below {n₀ : Nat} {A B : World} (h : Below n₀ A B) {sv : Value} {l : List (Nat × Nat)} : PairsIn n₀ A sv l → PairsIn n₀ B sv l
  | .inl e => .inl e
  | .inr ⟨b, off, cap, e, hb, hc⟩ => .inr ⟨b, off, cap, e, hb, fun j hj => ⟨(h.cell (p := ⟨b, off + j * 2, none⟩) hb).trans (hc j hj).1, (h.cell (p := ⟨b, off + j * 2 + 1, none⟩) hb).trans (hc j hj).2⟩⟩

set_option maxRecDepth 100000 in
set_option maxHeartbeats 2000000 in
theorem values1_in (F : Fence) (n : Nat) (h7 : F.fn 76) (hro : F.round = none) (hn : 1 ≤ n) (l Bs n₀ b off cap : Nat) (zs : List (Nat × Nat)) (hlen : zs.length ≤ 1000000000000) (hb : b < n₀) (J Jx : List (Nat × Nat) → World → Prop) (W : World) (hn₀ : n₀ ≤ W.heap.size) (hJ : AbidesFrom W.heap.size J)
    (hY : ∀ pre x W, J pre W → pre.length < zs.length → YieldAt F (n - 1) Tryz.prog l #[valP x] W fun e W' =>
      (e = .returned (.bool true) ∧ J (pre ++ [x]) W' ∧ Below n₀ W W') ∨ (e = .returned (.bool false) ∧ Jx (pre ++ [x]) W'))
    (hBs : W.cell? ⟨Bs, 0, none⟩ = some (.slice (some ⟨b, off, none⟩) zs.length cap)) (hc : ∀ j (h : j < zs.length), W.cell? ⟨b, off + j * 2, none⟩ = some (.int .u64 zs[j].1) ∧ W.cell? ⟨b, off + j * 2 + 1, none⟩ = some (.int .u64 zs[j].2)) (h0 : J [] W) :
    CallsIn F n Tryz.prog 76 #[.func (.yield l) #[] #[], .pointer (some ⟨Bs, 0, none⟩)] W fun e W' => (∃ v, e = .returned v) ∧
      ((∃ ys, ys = zs ∧ J ys W') ∨ (∃ pre, (∃ k, k ≤ zs.length ∧ pre = zs.take k) ∧ Jx pre W')) := by
  refine callsIn_of_wp Tryz.func76 rfl h7 ?_ hro
  simp only [Tryz.ntmps76, List.size_toArray, List.length_cons, List.length_nil, Nat.reduceAdd, Nat.reduceSub, Array.replicate_succ, Array.replicate_zero, List.push_toArray, List.append_toArray, List.nil_append, List.cons_append]
  gi_wp2
  gi_loopw [7] (fun i wr => ∃ k : Nat, k ≤ zs.length ∧ i = .int .i64 k ∧ J (zs.take k) wr ∧ Below n₀ W wr) (fun i _ => zs.length - (intOf i).toNat)
  case atStart => exact ⟨0, Nat.zero_le _, rfl, h0, Below.refl _ _⟩
  case round =>
    obtain ⟨k, hk, rfl, hJs, hnx⟩ := hrel
    by_cases hlt : k < zs.length
    · have hc0 : wr.cell? ⟨b, off + k * 2, none⟩ = some (.int .u64 zs[k].1) := (hnx.cell (p := ⟨b, off + k * 2, none⟩) hb).trans (hc k hlt).1
      have hc1 : wr.cell? ⟨b, off + k * 2 + 1, none⟩ = some (.int .u64 zs[k].2) := (hnx.cell (p := ⟨b, off + k * 2 + 1, none⟩) hb).trans (hc k hlt).2
      obtain ⟨wA, hwA, hkA, hszA, hA0, hA1⟩ := pair_new wr zs[k].1 zs[k].2 68
      have hJA : J (zs.take k) wA := by
        rw [← hwA]
        exact hJ _ _ _ Option.none hJs (World.grownBy_alloc wr _ Option.none) (fun r e => by cases e)
      have hBA : Below n₀ wr wA := by rw [← hwA]; exact (Below.refl n₀ wr).alloc (Nat.le_trans hn₀ hnx.size) _
      obtain ⟨fn, tmps, assign, body, hy, hR⟩ := hY _ zs[k] wA hJA (by rw [List.length_take]; omega)
      unfold valP at hy
      gi_wp2
      refine hR.mono ?_
      rintro e W3 (⟨rfl, hJ3, hk3⟩ | ⟨rfl, hJx3⟩)
      · gi_wp2
        go_roundw
        case rel => exact ⟨k + 1, by omega, by go_num, by rw [List.take_succ_eq_append_getElem hlt]; exact hJ3, (hnx.trans hBA).trans hk3⟩
        case measure => simp [intOf]; omega
      · gi_wp2
        refine bodyPost_ret (results_none rfl _ _ _) rfl ?_
        exact ⟨⟨_, rfl⟩, .inr ⟨_, ⟨k + 1, by omega, (List.take_succ_eq_append_getElem hlt).symm⟩, hJx3⟩⟩
    · gi_wp2
      go_end0
      refine ⟨⟨_, rfl⟩, .inl ⟨_, rfl, ?_⟩⟩
      rw [List.take_of_length_le (by omega)] at hJs
      exact hJs

set_option maxRecDepth 100000 in
set_option maxHeartbeats 1000000 in
theorem values1_nil_in (F : Fence) (n : Nat) (h7 : F.fn 76) (hro : F.round = none) (l Bs : Nat) (J : List (Nat × Nat) → World → Prop) (W : World) (a0 : Option Addr) (c0 : Nat) (hBs : W.cell? ⟨Bs, 0, none⟩ = some (.slice a0 0 c0)) (h0 : J [] W) :
    CallsIn F n Tryz.prog 76 #[.func (.yield l) #[] #[], .pointer (some ⟨Bs, 0, none⟩)] W fun e W' => (∃ v, e = .returned v) ∧ J [] W' := by
  refine callsIn_of_wp Tryz.func76 rfl h7 ?_ hro
  simp only [Tryz.ntmps76, List.size_toArray, List.length_cons, List.length_nil, Nat.reduceAdd, Nat.reduceSub, Array.replicate_succ, Array.replicate_zero, List.push_toArray, List.append_toArray, List.nil_append, List.cons_append]
  gi_wp2
  gi_loopw [7] (fun i wr => i = .int .i64 0 ∧ J [] wr) (fun _ _ => 0)
  case atStart => exact ⟨rfl, h0⟩
  case round =>
    obtain ⟨rfl, hJs⟩ := hrel
    gi_wp2
    go_end0
    exact ⟨⟨_, rfl⟩, hJs⟩

theorem values_stops (F : Fence) (n : Nat) (h7 : F.fn 76) (hro : F.round = none) (hn : 1 ≤ n) (Bs n₀ : Nat) (sv : Value) (zs : List (Nat × Nat)) (hlen : zs.length ≤ 1000000000000) (w : World) (hBs : Bs < w.heap.size) (hn₀ : n₀ ≤ w.heap.size)
    (hc : w.cell? ⟨Bs, 0, none⟩ = some sv) (hI : PairsIn n₀ w sv zs) :
    SeqStopsK F n Tryz.prog 76 #[.pointer (some ⟨Bs, 0, none⟩)] (fun x : Nat × Nat => #[valP x]) (Below n₀) (fun ys => ys = zs) (fun pre => pre <+: zs) zs.length w := fun l J Jx W hW hJ _ hY h0 => by
  have hc' := (hW.cell (p := ⟨Bs, 0, none⟩) hBs).trans hc
  rcases hI.below (hW.mono hn₀) with ⟨⟨_, _, rfl⟩, rfl⟩ | ⟨b, off, cap, rfl, hb, hcs⟩
  · exact (values1_nil_in F n h7 hro l Bs J W _ _ hc' h0).mono fun e W' ⟨he, hj⟩ => ⟨he, .inl ⟨_, rfl, hj⟩⟩
  · refine (values1_in F n h7 hro hn l Bs n₀ b off cap zs hlen hb J Jx W (Nat.le_trans hn₀ hW.size) hJ hY hc' hcs h0).mono ?_
    rintro e W' ⟨he, ⟨ys, rfl, hj⟩ | ⟨pre, ⟨k, hk, rfl⟩, hj⟩⟩
    · exact ⟨he, .inl ⟨_, rfl, hj⟩⟩
    · exact ⟨he, .inr ⟨_, List.take_prefix _ _, hj⟩⟩
theorem values_any (a : Option Addr) (len cap : Nat) (w : World) :
    Calls Tryz.prog 37 #[.slice a len cap] w fun e w' => e = .returned (.func (.func 76) #[] #[.pointer (some ⟨w.heap.size, 0, none⟩)]) ∧ w' = w.alloc (.cells #[.slice a len cap] 22) := by
  go_enter Tryz.func37, Tryz.ntmps37
  go_wp2
  go_ret
  exact ⟨rfl, rfl⟩

set_option maxRecDepth 100000 in
set_option maxHeartbeats 2000000 in
/-- AppendSeq at pairs, over whatever gives these pairs. -/
theorem appendSeq_in (F : Fence) (n : Nat) (h3 : F.fn 117) (hro : F.round = none) (hn : 3 ≤ n) (gf : Nat) (lb : Array Value) (hFg : F.fn gf) (eg : ∀ args w, (callFunc gf args).run Tryz.prog w = .ok (.enter gf args) w) (n₀ : Nat) (zs : List (Nat × Nat)) (w : World) (hn₀ : n₀ ≤ w.heap.size) (hlen : zs.length ≤ 1000000)
    (hseq : SeqStopsK F (n - 1) Tryz.prog gf lb (fun x : Nat × Nat => #[valP x]) (Below n₀) (fun ys => ys = zs) (fun pre => pre <+: zs) zs.length w) :
    CallsIn F n Tryz.prog 117 #[.slice none 0 0, .func (.func gf) #[] lb] w fun e w' => ∃ v, e = .returned v ∧ OwnP w.heap.size w' v zs ∧ Below n₀ w w' := by
  have h1 : 1 ≤ n := by omega
  refine callsIn_of_wp_marks Tryz.func117 rfl h3 ?_ hro
  simp only [Tryz.ntmps117, List.size_toArray, List.length_cons, List.length_nil, Nat.reduceAdd, Nat.reduceSub, Array.replicate_succ, Array.replicate_zero, List.push_toArray, List.append_toArray, List.nil_append, List.cons_append]
  gi_wp2
  obtain ⟨i0, hi, hz0, hz1, hz2⟩ := info_parts Tryz.info68
  obtain ⟨W0, hW0⟩ : ∃ W0, w.alloc (.cells #[.slice none 0 0] 22) = W0 := ⟨_, rfl⟩
  have hsz0 : W0.heap.size = w.heap.size + 1 := by rw [← hW0]; simp
  have hbW0 : Below w.heap.size w W0 := by rw [← hW0]; exact (Below.refl _ w).alloc (Nat.le_refl _) _
  have hbox0 : Boxed W0 w.heap.size 22 (.slice none 0 0) := by rw [← hW0]; exact Boxed.new w _ _
  rw [hW0]
  refine wpIn_rangeFunc_ownH hro h1 (gf := gf) (lb := lb) rfl hFg eg hseq (fun h k => h.trans k) (fun W l o o' hl ho hc _ => belowK_b (n₀ := n₀) (w := W0) (by omega) W l o o' hl ho hc (by assumption)) hbW0 (fun _ => rfl)
    (fun pre W => (∃ v, Boxed W w.heap.size 22 v ∧ W.ownsRow w.heap.size 68 2 v pre.length (flatP pre) ∧ True) ∧ Below w.heap.size w W)
    (fun _ _ _ => False) ?hI (fun _ _ _ _ _ hs _ _ => hs) ⟨⟨_, hbox0, OwnP.nil _ _, trivial⟩, hbW0⟩
    (fun x a' W => ∃ Bx, w.heap.size + 1 ≤ Bx ∧ W.heap[Bx]? = some (.cells #[.int .u64 x.1, .int .u64 x.2] 68 (0, 0)) ∧ a' = { tmps := #[.slice none 0 0, .func (.func gf) #[] lb, .pointer (some ⟨w.heap.size, 0, none⟩), undef, .slice none 0 0, .pointer (some ⟨Bx, 0, none⟩), .func (.func gf) #[] lb, valP x, undef, undef, undef, undef, undef], defers := [] })
    ?hAx ?assign ?body ?done ?stop
  case hI =>
    refine OwnFrom.and (Own.from (holdsRow_own w.heap.size w.heap.size 22 68 2 (fun pre => pre.length) (fun pre => flatP pre) (fun _ _ => True)) _) (ownFrom_below (Nat.le_refl _) (by omega))
  case hAx =>
    rintro x a' s A B row ⟨Bx, hBx, hbX, ha⟩ hg hr
    refine ⟨Bx, hBx, (hg.block Bx (Array.getElem?_eq_some_iff.1 hbX).1 (fun e => ?_)).trans hbX, ha⟩
    obtain ⟨-, o, ho, hc⟩ := hr Bx e.symm
    rw [hbX] at ho; cases ho; cases hc
  case assign =>
    intro l pre x W K hI hK
    obtain ⟨⟨v, hbox, hrow, -⟩, hbel⟩ := hI
    have hle : w.heap.size ≤ W.heap.size := hbel.size
    have hlt : w.heap.size < W.heap.size := hbox.lt
    obtain ⟨W2, hW2⟩ : ∃ W2, W.alloc (.cells #[.int .u64 x.1, .int .u64 x.2] 68) = W2 := ⟨_, rfl⟩
    have hK' := hK { tmps := #[.slice none 0 0, .func (.func gf) #[] lb, .pointer (some ⟨w.heap.size, 0, none⟩), undef, .slice none 0 0, .pointer (some ⟨W.heap.size, 0, none⟩), .func (.func gf) #[] lb, valP x, undef, undef, undef, undef, undef], defers := [] } W2
      (by rw [← hW2]; exact (KeepsOthers.alloc _ _).from _) (by rw [← hW2]; exact (Below.refl n₀ W).alloc (by omega) _)
      ⟨⟨v, by rw [← hW2]; exact hbox.alloc _, by rw [← hW2]; exact hrow.kept (World.grownBy_alloc W _ Option.none) (by cases v.ownBlock <;> simp), trivial⟩, by rw [← hW2]; exact hbel.trans ((Below.refl w.heap.size W).alloc hle _)⟩
      ⟨W.heap.size, by omega, by rw [← hW2]; exact World.alloc_heap_new W _, rfl⟩
    have HK := Lib.hid hK'
    clear hK hK'
    unfold valP at *
    gi_wp2
    exact HK.out
  case body =>
    rintro l pre x a' W hl ⟨r, hr⟩ ⟨⟨v, hbox, hrow, -⟩, hbel⟩ ⟨Bx, hBx, hbX, rfl⟩ hpre
    have hv := hbox.cell
    have hf := hbox.frozen
    have hx0 : W.cell? ⟨Bx, 0, none⟩ = some (.int .u64 x.1) := by simp [World.cell?, hbX]
    have hx1 : W.cell? ⟨Bx, 1, none⟩ = some (.int .u64 x.2) := by simp [World.cell?, hbX]
    obtain ⟨va, vc, rfl, -, -⟩ := OwnP.form hrow
    have hle : w.heap.size ≤ W.heap.size := hbel.size
    have hpl : pre.length < 1000000 := by omega
    have hnew : ∀ j u, (encP x)[j]? = some u → (W.alloc (.cells #[.int .u64 x.1, .int .u64 x.2] 68)).cell? ((⟨W.heap.size, 0, Option.none⟩ : Addr).add j) = some u := by
      intro j u hu
      rw [addr_add, Nat.zero_add, World.cell?_alloc_new]
      simpa [encP] using hu
    have hFP : Hid (flatP (pre ++ [x]) = flatP pre ++ encP x ∧ (pre ++ [x]).length = pre.length + 1) := Lib.hid ⟨by rw [flatP_append]; simp [flatP], by simp⟩
    gi_wp2_with (gi_at_builtin; refine wpListIn_append_own _ rfl (.tmp 8) (.tmp 10) 22 rfl w.heap.size 68 i0 _ 2 16 Tryz.underlying22 hi hz0 hz1 hz2 rfl (by decide) _ _ _ rfl (hrow.kept (World.grownBy_alloc W _ Option.none) (by cases va <;> simp [Value.ownBlock])) ⟨W.heap.size, 0, Option.none⟩ 1 1 (encP x) rfl rfl hnew (by intro u hu; simp [encP] at hu; rcases hu with rfl | rfl <;> rfl) (by unfold maxLen; omega) (by omega) (by simp; omega) ?_; intro v' w1 hown' hgrow _; obtain ⟨g', cap', rfl⟩ := ownsRow_succ hown'; obtain ⟨hv1, hv2, hr2, hk2, hb2⟩ := hbox.appended (by decide) hrow hle (Nat.le_refl _) hown' hgrow; have hc1 := hv1.cell; have hf1 := hv1.frozen)
    refine ⟨hk2.from _, hb2.mono hn₀, ⟨_, hv2, ?_, trivial⟩, hbel.trans hb2⟩
    rw [hFP.out.1, hFP.out.2]
    exact hr2
  case done =>
    rintro D xs W hD rfl ⟨⟨v, hbox, hrow, -⟩, hbel⟩ hK
    have hv := hbox.cell
    gi_wp2
    refine ⟨by simp, .inl ⟨_, _, rfl, run_takeDeferred hK, ?_⟩⟩
    refine ⟨_, results_tmp rfl _ _ _, v, rfl, ?_, (hbel.trans (belowK_b (w := w) (Nat.le_refl _) W D _ _ (by omega) hK rfl rfl)).mono hn₀⟩
    refine World.ownsRow.kept hrow (grownBy_putObj' W D (.deferred Option.none)) (.inr fun e => ?_)
    rcases hrow.2 with ⟨rfl, -⟩ | ⟨g, cap, cur, rfl, -, hg, -⟩
    · cases e
    · cases e
      rw [hK] at hg; cases hg
  case stop =>
    rintro D c pre W _ _ h _
    exact h.elim
end Go.Proofs.YtemilbemdlpkaaaGreatDoor
