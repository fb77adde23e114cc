/- run.Each: the maker and the closure's contract. -/
import Derived.Test.YtinmjgaaehdicaaSeqA
import Derived.Test.YtinmjgaaehdicaaRunF
namespace Go.Proofs.Ytinmjgaaehdicaa
open Go.RowKit Go.Shelf

attribute [local go_sem] Oper.semAt_some

set_option maxRecDepth 100000 in
theorem each_any (w : World) (a : Option Addr) (c : Nat) (bs : List UInt8) (h : IsB w (.slice a bs.length c) bs) (hlen : bs.length ≤ 100000000000000) :
    Calls Try.prog 37 #[.slice a bs.length c] w fun e w' => e = .returned (.func (.func 62) #[] #[.pointer (some ⟨w.heap.size, 0, none⟩)]) ∧ w.heap.size < w'.heap.size ∧ (∃ v, w'.cell? ⟨w.heap.size, 0, none⟩ = some v ∧ IsB w' v bs) ∧ Kept (fun _ => False) w w' := by
  obtain ⟨W1, hW1⟩ : ∃ W1, w.alloc (.cells #[.slice a bs.length c] 22) = W1 := ⟨_, rfl⟩
  have hk1 : Kept (fun _ => False) w W1 := by rw [← hW1]; exact (Kept.refl _ _).alloc _
  have hsz1 : W1.heap.size = w.heap.size + 1 := by rw [← hW1]; simp
  have hblk : W1.heap[w.heap.size]? = some (.cells #[.slice a bs.length c] 22 (0, 0)) := by rw [← hW1]; exact World.alloc_heap_new _ _
  have hc : W1.cell? ⟨w.heap.size, 0, none⟩ = some (.slice a bs.length c) := by rw [← hW1, World.cell?_alloc_new]; rfl
  go_enter Try.func37, Try.ntmps37
  go_wp2_with fail
  refine (clone_any W1 _ bs (h.keptF hk1 (fun _ _ f => f)) (by omega)).mono ?_
  rintro e w2 ⟨v2, rfl, hf, -⟩
  have hk2 := hf.kept
  have hblk2 : w2.heap[w.heap.size]? = some (.cells #[.slice a bs.length c] 22 (0, 0)) := (hk2.block _ (by omega) (fun f => f)).trans hblk
  have hc2 : w2.cell? ⟨w.heap.size, 0, none⟩ = some (.slice a bs.length c) := hk2.cell hc (fun f => f)
  have hfz : w2.frozen? ⟨w.heap.size, 0, none⟩ = false := by simp [World.frozen?, hblk2]
  have hB2 := hf.own.isB
  obtain ⟨va, vc, rfl, -, -⟩ := hf.own.form
  have hnew := hf.new
  go_wp2
  go_ret
  refine ⟨rfl, by rw [heap_size_setCell]; have := hk2.size; omega, ⟨_, World.cell?_setCell_same' _ _ _ (by rw [hc2]; rfl), ?_⟩, ((hk1.more hk2 (fun _ f => f.elim))).setCell (fun h => absurd h (Nat.lt_irrefl _)) _⟩
  exact hB2.keptF ((Kept.refl (fun g => g = w.heap.size) w2).setCell (p := ⟨w.heap.size, 0, none⟩) (fun _ => rfl) _) (fun g e f => by have := hnew g e; omega)

/-- What a block of a box holds. -/
def Owned (box : Nat) (W : World) (k : Nat) : Prop := ∃ v, W.cell? ⟨box, 0, none⟩ = some v ∧ v.ownBlock = some k
/-- What a round keeps: all cells at or beyond B that the box does not own. -/
structure KeepX (box B : Nat) (W W' : World) : Prop where
  size : W.heap.size ≤ W'.heap.size
  block : ∀ k o, B ≤ k → W.heap[k]? = some o → o.isCells = true → ¬ Owned box W k → W'.heap[k]? = some o
  own : ∀ k, Owned box W' k → Owned box W k ∨ W.heap.size ≤ k
theorem KeepX.trans {box B : Nat} {W1 W2 W3 : World} (h : KeepX box B W1 W2) (k : KeepX box B W2 W3) : KeepX box B W1 W3 where
  size := Nat.le_trans h.size k.size
  block := fun i o hi ho hc hn => k.block i o hi (h.block i o hi ho hc hn) hc (fun hw => by
    rcases h.own i hw with h1 | h1
    · exact hn h1
    · have := (Array.getElem?_eq_some_iff.1 ho).1; omega)
  own := fun i hw => by
    rcases k.own i hw with h1 | h1
    · exact h.own i h1
    · exact .inr (Nat.le_trans h.size h1)
theorem KeepX.of_kept {box B : Nat} {W W' : World} (h : Kept (fun _ => False) W W') (hb : box < W.heap.size) : KeepX box B W W' where
  size := h.size
  block := fun k o _ ho _ _ => (h.block k (Array.getElem?_eq_some_iff.1 ho).1 (fun f => f)).trans ho
  own := fun k ⟨v, hv, hk⟩ => by
    left
    refine ⟨v, ?_, hk⟩
    rwa [World.cell?_of_block (w := W) (w' := W') (a := ⟨box, 0, none⟩) (h.block box hb (fun f => f))] at hv
theorem keepX_b {box B : Nat} {w : World} (hb : box < w.heap.size) (W : World) (l : Nat) (o o' : Obj) (hl : w.heap.size ≤ l) (h : W.heap[l]? = some o) (hc : o.isCells = false) (_ : o.isWalk = false) : KeepX box B W (W.putObj l o') := by
  have hg := grownBy_putObj' W l o'
  refine ⟨hg.size, fun k u _ hu huc _ => ?_, fun k ⟨v, hv, hk⟩ => .inl ⟨v, ?_, hk⟩⟩
  · have hne : k ≠ l := fun e => by subst e; rw [hu] at h; cases h; rw [hc] at huc; cases huc
    exact (hg.block k (Array.getElem?_eq_some_iff.1 hu).1 (fun e => hne (Option.some.inj e))).trans hu
  · have hlt : l < W.heap.size := (Array.getElem?_eq_some_iff.1 h).1
    rwa [World.cell?_of_block (w := W) (w' := W.putObj l o') (a := ⟨box, 0, none⟩) (hg.block box (by show box < _; omega) (fun e => by cases e; omega))] at hv

def eachOf (bs : List UInt8) : List (Nat × Nat) := if (pairsOf bs).2 = true then (pairsOf bs).1 else []

set_option maxRecDepth 100000 in
set_option maxHeartbeats 2000000 in
theorem each1_in (n : Nat) (hn : 2 ≤ n) (l Bs box B : Nat) (bs : List UInt8) (hlen : bs.length ≤ 100000000000000) (J Jx : List (Nat × Nat) → World → Prop) (W : World) (hJ : AbidesFrom W.heap.size J)
    (hY : ∀ pre x W1, J pre W1 → pre.length < (pairsOf bs).1.length → YieldAt Fence.wide (n - 1) Try.prog l #[valP x] W1 fun e W' =>
      (e = .returned (.bool true) ∧ J (pre ++ [x]) W' ∧ KeepX box B W1 W') ∨ (e = .returned (.bool false) ∧ Jx (pre ++ [x]) W'))
    (v : Value) (hBs : W.cell? ⟨Bs, 0, none⟩ = some v) (hv : IsB W v bs) (hbox : box < W.heap.size) (hown : ∀ k, ¬ Owned box W k) (hB : B ≤ W.heap.size) (h0 : J [] W) :
    CallsIn Fence.wide n Try.prog 62 #[.func (.yield l) #[] #[], .pointer (some ⟨Bs, 0, none⟩)] W fun e W' => (∃ v, e = .returned v) ∧
      ((∃ ys, ys = eachOf bs ∧ J ys W') ∨ (∃ pre, pre <+: eachOf bs ∧ Jx pre W')) := by
  obtain ⟨va, vc, rfl, -⟩ := id hv
  have hP := pairs_any W va vc bs hv hlen
  have hrs := pairsOf_rising bs
  unfold eachOf
  obtain ⟨⟨zs, ok⟩, hq⟩ : ∃ q, pairsOf bs = q := ⟨_, rfl⟩
  rw [hq] at hP hY hrs ⊢
  simp only at hP hY hrs
  clear hq
  have HP := Lib.hid hP
  have HY := Lib.hid hY
  clear hP hY
  refine callsIn_of_wp Try.func62 rfl trivial ?_ rfl
  simp only [Try.ntmps62, List.size_toArray, List.length_cons, List.length_nil, Nat.reduceAdd, Nat.reduceSub, Array.replicate_succ, Array.replicate_zero, List.push_toArray, List.append_toArray, List.nil_append, List.cons_append]
  gi_wp2_with fail
  refine ⟨trivial, fun _ => by omega, (callsIn_wide.2 HP.out).mono ?_⟩
  rintro e W1 ⟨pv, rfl, hownP, hk1⟩
  obtain ⟨pa, pc, rfl, -, -⟩ := hownP.form
  have hJ1 : J [] W1 := hJ _ _ _ none h0 (hk1.grownBy none) (fun r e => by cases e)
  have hJA := Lib.hid hJ
  have hOw1 : ∀ k, ¬ Owned box W1 k := fun k hw => by
    rcases (KeepX.of_kept (B := B) hk1 hbox).own k hw with h1 | h1
    · exact hown k h1
    · obtain ⟨u, hu, hku⟩ := hw
      rw [World.cell?_of_block (w := W) (w' := W1) (a := ⟨box, 0, none⟩) (hk1.block box hbox (fun f => f))] at hu
      exact hown k ⟨u, hu, hku⟩
  cases ok with
  | false =>
    gi_wp2
    refine bodyPost_ret (results_none rfl _ _ _) rfl ?_
    exact ⟨⟨_, rfl⟩, .inl hJ1⟩
  | true =>
    have hz6 := (hrs rfl).2
    clear hrs hJ
    have hGB : Hid (zs ≠ [] → ∃ g cur, pa = some ⟨g, 0, none⟩ ∧ W.heap.size ≤ g ∧ W1.heap[g]? = some (.cells cur 75 (0, 0)) ∧ ∀ j (hj : j < zs.length), W1.cell? ⟨g, j * 2, none⟩ = some (.int .u64 zs[j].1) ∧ W1.cell? ⟨g, j * 2 + 1, none⟩ = some (.int .u64 zs[j].2)) := Lib.hid (fun hne => by
      obtain ⟨g, rfl, -, -, hc⟩ := hownP.at hne
      rcases hownP.2 with ⟨e, -⟩ | ⟨g', cap, cur, e, hb, hg, -⟩
      · cases e
      · cases e
        exact ⟨g, cur, rfl, hb, hg, fun j hj => ⟨hc _ _ (flatP_get zs j hj).1, hc _ _ (flatP_get zs j hj).2⟩⟩)
    gi_wp2_with fail
    gi_loopw [16] (fun i wr => ∃ k : Nat, k ≤ zs.length ∧ i = .int .i64 k ∧ J (zs.take k) wr ∧ W1.heap.size ≤ wr.heap.size ∧ Hid (∀ g, W.heap.size ≤ g → pa = some ⟨g, 0, none⟩ → wr.heap[g]? = W1.heap[g]? ∧ ¬ Owned box wr g)) (fun i _ => zs.length - (intOf i).toNat)
    case atStart => exact ⟨0, Nat.zero_le _, rfl, hJ1, Nat.le_refl _, Lib.hid (fun g _ _ => ⟨rfl, hOw1 g⟩)⟩
    case round =>
      obtain ⟨k, hk, rfl, hJs, hsz, hkeep⟩ := hrel
      by_cases hlt : k < zs.length
      · obtain ⟨g, cur, rfl, hgW, hgo, hcs⟩ := hGB.out (fun e => by rw [e] at hlt; simp at hlt)
        obtain ⟨hblk, hno⟩ := hkeep.out g hgW rfl
        have hc0 : wr.cell? ⟨g, k * 2, none⟩ = some (.int .u64 zs[k].1) := (World.cell?_of_block (w := W1) (w' := wr) (a := ⟨g, k * 2, none⟩) hblk).trans (hcs k hlt).1
        have hc1 : wr.cell? ⟨g, k * 2 + 1, none⟩ = some (.int .u64 zs[k].2) := (World.cell?_of_block (w := W1) (w' := wr) (a := ⟨g, k * 2 + 1, none⟩) hblk).trans (hcs k hlt).2
        obtain ⟨wA, hwA, hkA, hszA, hA0, hA1⟩ := pair_new wr zs[k].1 zs[k].2 75
        have hJA' : J (zs.take k) wA := hJA.out _ _ _ none hJs (hkA.grownBy none) (fun r e => by cases e)
        have hbw : box < wr.heap.size := by have := hk1.size; omega
        have hKA : KeepX box B wr wA := KeepX.of_kept hkA hbw
        have hglt : g < wr.heap.size := by have := (Array.getElem?_eq_some_iff.1 hgo).1; omega
        have hblkA : wA.heap[g]? = some (.cells cur 75 (0, 0)) := (hkA.block g hglt (fun f => f)).trans (hblk.trans hgo)
        have hnoA : ¬ Owned box wA g := fun hw => by
          rcases hKA.own g hw with h1 | h1
          · exact hno h1
          · omega
        obtain ⟨fn, tmps, assign, body, hy, hR⟩ := HY.out _ zs[k] wA hJA' (by rw [List.length_take]; omega)
        unfold valP at hy
        have hcsH := Lib.hid hcs
        clear hcs
        gi_wp2
        refine ⟨fun _ => by omega, hR.mono ?_⟩
        rintro e W3 (⟨rfl, hJ3, hk3⟩ | ⟨rfl, hJx3⟩)
        · gi_wp2
          go_roundw
          case rel =>
            refine ⟨k + 1, by omega, by go_num, by rw [List.take_succ_eq_append_getElem hlt]; exact hJ3, by have := hk3.size; omega, Lib.hid (fun g' _ e => ?_)⟩
            cases e
            refine ⟨(hk3.block g _ (by omega) hblkA rfl hnoA).trans hgo.symm, fun hw => ?_⟩
            rcases hk3.own g hw with h1 | h1
            · exact hnoA h1
            · omega
          case measure => simp [intOf]; omega
        · gi_wp2
          refine bodyPost_ret (results_none rfl _ _ _) rfl ?_
          exact ⟨⟨_, rfl⟩, .inr ⟨_, List.take_prefix _ _, by rw [List.take_succ_eq_append_getElem hlt]; exact hJx3⟩⟩
      · rw [List.take_of_length_le (by omega)] at hJs
        gi_wp2
        go_end0
        exact ⟨⟨_, rfl⟩, .inl hJs⟩

theorem each_stops (n : Nat) (hn : 2 ≤ n) (Bs box : Nat) (bs : List UInt8) (hlen : bs.length ≤ 100000000000000) (w : World) (v : Value) (hBs : w.cell? ⟨Bs, 0, none⟩ = some v) (hv : IsB w v bs) (hbox : box < w.heap.size) (hown : ∀ k, ¬ Owned box w k) :
    SeqStopsK Fence.wide n Try.prog 62 #[.pointer (some ⟨Bs, 0, none⟩)] (fun x : Nat × Nat => #[valP x]) (KeepX box w.heap.size) (fun ys => ys = eachOf bs) (fun pre => pre <+: eachOf bs) (pairsOf bs).1.length w := fun l J Jx W hW hJ _ hY h0 => by
  have hk : Kept (fun _ => False) w W := Kept.of_below (Nat.le_refl _) hW
  refine each1_in n hn l Bs box w.heap.size bs hlen J Jx W hJ hY v (hk.cell hBs (fun f => f)) (hv.keptF hk (fun _ _ f => f)) (by have := hk.size; omega) (fun k ⟨u, hu, hku⟩ => ?_) hk.size h0
  rw [World.cell?_of_block (w := w) (w' := W) (a := ⟨box, 0, none⟩) (hk.block box hbox (fun f => f))] at hu
  exact hown k ⟨u, hu, hku⟩
end Go.Proofs.Ytinmjgaaehdicaa
