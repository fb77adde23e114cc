/- run.Each: the maker and the closure's contract. -/
import Derived.Test.YtemilbemdlpkaaaGreatDoorPav
import Derived.Test.YtemilbemdlpkaaaGreatDoorPbd
import Derived.Test.YtemilbemdlpkaaaGreatDoorPbf
namespace Go.Proofs.YtemilbemdlpkaaaGreatDoor
open Go.RowKit Go.Shelf

attribute [local go_sem] Oper.semAt_some

set_option maxRecDepth 100000 in
theorem each_any (w : World) (a : Option Addr) (c : Nat) (bs : List UInt8) (h : IsB w (.slice a bs.length c) bs) (hlen : bs.length ≤ 100000000000000) :
    Calls Tryz.prog 96 #[.slice a bs.length c] w fun e w' => e = .returned (.func (.func 126) #[] #[.pointer (some ⟨w.heap.size, 0, none⟩)]) ∧ w.heap.size < w'.heap.size ∧ (∃ v, w'.cell? ⟨w.heap.size, 0, none⟩ = some v ∧ IsB w' v bs) ∧ Kept (fun _ => False) w w' := by
  obtain ⟨W1, hW1⟩ : ∃ W1, w.alloc (.cells #[.slice a bs.length c] 25) = W1 := ⟨_, rfl⟩
  have hk1 : Kept (fun _ => False) w W1 := by rw [← hW1]; exact (Kept.refl _ _).alloc _
  have hsz1 : W1.heap.size = w.heap.size + 1 := by rw [← hW1]; simp
  have hblk : W1.heap[w.heap.size]? = some (.cells #[.slice a bs.length c] 25 (0, 0)) := by rw [← hW1]; exact World.alloc_heap_new _ _
  have hc : W1.cell? ⟨w.heap.size, 0, none⟩ = some (.slice a bs.length c) := by rw [← hW1, World.cell?_alloc_new]; rfl
  go_enter Tryz.func96, Tryz.ntmps96
  go_wp2_with fail
  refine (clone_any W1 _ bs (h.keptF hk1 (fun _ _ f => f)) (by omega)).mono ?_
  rintro e w2 ⟨v2, rfl, hf, -⟩
  have hk2 := hf.kept
  have hblk2 : w2.heap[w.heap.size]? = some (.cells #[.slice a bs.length c] 25 (0, 0)) := (hk2.block _ (by omega) (fun f => f)).trans hblk
  have hc2 : w2.cell? ⟨w.heap.size, 0, none⟩ = some (.slice a bs.length c) := hk2.cell hc (fun f => f)
  have hfz : w2.frozen? ⟨w.heap.size, 0, none⟩ = false := by simp [World.frozen?, hblk2]
  have hB2 := hf.own.isB
  obtain ⟨va, vc, rfl, -, -⟩ := hf.own.form
  have hnew := hf.new
  go_wp2
  go_ret
  refine ⟨rfl, by rw [heap_size_setCell]; have := hk2.size; omega, ⟨_, World.cell?_setCell_same' _ _ _ (by rw [hc2]; rfl), ?_⟩, ((hk1.more hk2 (fun _ f => f.elim))).setCell (fun h => absurd h (Nat.lt_irrefl _)) _⟩
  exact hB2.keptF ((Kept.refl (fun g => g = w.heap.size) w2).setCell (p := ⟨w.heap.size, 0, none⟩) (fun _ => rfl) _) (fun g e f => by have := hnew g e; omega)

def eachOf (bs : List UInt8) : List (Nat × Nat) := if (pairsOf bs).2 = true then (pairsOf bs).1 else []

set_option maxRecDepth 100000 in
set_option maxHeartbeats 2000000 in
theorem each1_in (n : Nat) (hn : 2 ≤ n) (l Bs box B : Nat) (bs : List UInt8) (hlen : bs.length ≤ 100000000000000) (J Jx : List (Nat × Nat) → World → Prop) (W : World) (hJ : AbidesFrom W.heap.size J)
    (hY : ∀ pre x W1, J pre W1 → pre.length < (pairsOf bs).1.length → YieldAt Fence.wide (n - 1) Tryz.prog l #[valP x] W1 fun e W' =>
      (e = .returned (.bool true) ∧ J (pre ++ [x]) W' ∧ KeepX box B W1 W') ∨ (e = .returned (.bool false) ∧ Jx (pre ++ [x]) W'))
    (v : Value) (hBs : W.cell? ⟨Bs, 0, none⟩ = some v) (hv : IsB W v bs) (hbox : box < W.heap.size) (hown : ∀ k, ¬ Owned box W k) (hB : B ≤ W.heap.size) (h0 : J [] W) :
    CallsIn Fence.wide n Tryz.prog 126 #[.func (.yield l) #[] #[], .pointer (some ⟨Bs, 0, none⟩)] W fun e W' => (∃ v, e = .returned v) ∧
      ((∃ ys, ys = eachOf bs ∧ J ys W') ∨ (∃ pre, pre <+: eachOf bs ∧ Jx pre W')) := by
  obtain ⟨va, vc, rfl, -⟩ := id hv
  have hP := pairs_any W va vc bs hv hlen
  have hrs := pairsOf_rising bs
  unfold eachOf
  obtain ⟨⟨zs, ok⟩, hq⟩ : ∃ q, pairsOf bs = q := ⟨_, rfl⟩
  rw [hq] at hP hY hrs ⊢
  simp only at hP hY hrs
  clear hq
  have HP := Lib.hid hP
  have HY := Lib.hid hY
  clear hP hY
  refine callsIn_of_wp Tryz.func126 rfl trivial ?_ rfl
  simp only [Tryz.ntmps126, List.size_toArray, List.length_cons, List.length_nil, Nat.reduceAdd, Nat.reduceSub, Array.replicate_succ, Array.replicate_zero, List.push_toArray, List.append_toArray, List.nil_append, List.cons_append]
  gi_wp2_with fail
  refine ⟨trivial, fun _ => by omega, (callsIn_wide.2 HP.out).mono ?_⟩
  rintro e W1 ⟨pv, rfl, hownP, hk1⟩
  obtain ⟨pa, pc, rfl, -, -⟩ := hownP.form
  have hJ1 : J [] W1 := hJ _ _ _ none h0 (hk1.grownBy none) (fun r e => by cases e)
  have hJA := Lib.hid hJ
  have hOw1 : ∀ k, ¬ Owned box W1 k := fun k hw => by
    rcases (KeepX.of_kept (B := B) hk1 hbox).own k hw with h1 | h1
    · exact hown k h1
    · obtain ⟨u, hu, hku⟩ := hw
      rw [World.cell?_of_block (w := W) (w' := W1) (a := ⟨box, 0, none⟩) (hk1.block box hbox (fun f => f))] at hu
      exact hown k ⟨u, hu, hku⟩
  cases ok with
  | false =>
    gi_wp2
    refine bodyPost_ret (results_none rfl _ _ _) rfl ?_
    exact ⟨⟨_, rfl⟩, .inl hJ1⟩
  | true =>
    have hz6 := (hrs rfl).2
    clear hrs hJ
    have hGB : Hid (zs ≠ [] → ∃ g cur, pa = some ⟨g, 0, none⟩ ∧ W.heap.size ≤ g ∧ W1.heap[g]? = some (.cells cur 68 (0, 0)) ∧ ∀ j (hj : j < zs.length), W1.cell? ⟨g, j * 2, none⟩ = some (.int .u64 zs[j].1) ∧ W1.cell? ⟨g, j * 2 + 1, none⟩ = some (.int .u64 zs[j].2)) := Lib.hid (fun hne => by
      obtain ⟨g, rfl, -, -, hc⟩ := hownP.at hne
      rcases hownP.2 with ⟨e, -⟩ | ⟨g', cap, cur, e, hb, hg, -⟩
      · cases e
      · cases e
        exact ⟨g, cur, rfl, hb, hg, fun j hj => ⟨hc _ _ (flatP_get zs j hj).1, hc _ _ (flatP_get zs j hj).2⟩⟩)
    gi_wp2_with fail
    gi_loopw [16] (fun i wr => ∃ k : Nat, k ≤ zs.length ∧ i = .int .i64 k ∧ J (zs.take k) wr ∧ W1.heap.size ≤ wr.heap.size ∧ Hid (∀ g, W.heap.size ≤ g → pa = some ⟨g, 0, none⟩ → wr.heap[g]? = W1.heap[g]? ∧ ¬ Owned box wr g)) (fun i _ => zs.length - (intOf i).toNat)
    case atStart => exact ⟨0, Nat.zero_le _, rfl, hJ1, Nat.le_refl _, Lib.hid (fun g _ _ => ⟨rfl, hOw1 g⟩)⟩
    case round =>
      obtain ⟨k, hk, rfl, hJs, hsz, hkeep⟩ := hrel
      by_cases hlt : k < zs.length
      · obtain ⟨g, cur, rfl, hgW, hgo, hcs⟩ := hGB.out (fun e => by rw [e] at hlt; simp at hlt)
        obtain ⟨hblk, hno⟩ := hkeep.out g hgW rfl
        have hc0 : wr.cell? ⟨g, k * 2, none⟩ = some (.int .u64 zs[k].1) := (World.cell?_of_block (w := W1) (w' := wr) (a := ⟨g, k * 2, none⟩) hblk).trans (hcs k hlt).1
        have hc1 : wr.cell? ⟨g, k * 2 + 1, none⟩ = some (.int .u64 zs[k].2) := (World.cell?_of_block (w := W1) (w' := wr) (a := ⟨g, k * 2 + 1, none⟩) hblk).trans (hcs k hlt).2
        obtain ⟨wA, hwA, hkA, hszA, hA0, hA1⟩ := pair_new wr zs[k].1 zs[k].2 68
        have hJA' : J (zs.take k) wA := hJA.out _ _ _ none hJs (hkA.grownBy none) (fun r e => by cases e)
        have hbw : box < wr.heap.size := by have := hk1.size; omega
        have hKA : KeepX box B wr wA := KeepX.of_kept hkA hbw
        have hglt : g < wr.heap.size := by have := (Array.getElem?_eq_some_iff.1 hgo).1; omega
        have hblkA : wA.heap[g]? = some (.cells cur 68 (0, 0)) := (hkA.block g hglt (fun f => f)).trans (hblk.trans hgo)
        have hnoA : ¬ Owned box wA g := fun hw => by
          rcases hKA.own g hw with h1 | h1
          · exact hno h1
          · omega
        obtain ⟨fn, tmps, assign, body, hy, hR⟩ := HY.out _ zs[k] wA hJA' (by rw [List.length_take]; omega)
        unfold valP at hy
        have hcsH := Lib.hid hcs
        clear hcs
        gi_wp2
        refine ⟨fun _ => by omega, hR.mono ?_⟩
        rintro e W3 (⟨rfl, hJ3, hk3⟩ | ⟨rfl, hJx3⟩)
        · gi_wp2
          go_roundw
          case rel =>
            refine ⟨k + 1, by omega, by go_num, by rw [List.take_succ_eq_append_getElem hlt]; exact hJ3, by have := hk3.size; omega, Lib.hid (fun g' _ e => ?_)⟩
            cases e
            refine ⟨(hk3.block g _ (by omega) hblkA rfl hnoA).trans hgo.symm, fun hw => ?_⟩
            rcases hk3.own g hw with h1 | h1
            · exact hnoA h1
            · omega
          case measure => simp [intOf]; omega
        · gi_wp2
          refine bodyPost_ret (results_none rfl _ _ _) rfl ?_
          exact ⟨⟨_, rfl⟩, .inr ⟨_, List.take_prefix _ _, by rw [List.take_succ_eq_append_getElem hlt]; exact hJx3⟩⟩
      · rw [List.take_of_length_le (by omega)] at hJs
        gi_wp2
        go_end0
        exact ⟨⟨_, rfl⟩, .inl hJs⟩

theorem each_stops (n : Nat) (hn : 2 ≤ n) (Bs box : Nat) (bs : List UInt8) (hlen : bs.length ≤ 100000000000000) (w : World) (v : Value) (hBs : w.cell? ⟨Bs, 0, none⟩ = some v) (hv : IsB w v bs) (hbox : box < w.heap.size) (hown : ∀ k, ¬ Owned box w k) :
    SeqStopsK Fence.wide n Tryz.prog 126 #[.pointer (some ⟨Bs, 0, none⟩)] (fun x : Nat × Nat => #[valP x]) (KeepX box w.heap.size) (fun ys => ys = eachOf bs) (fun pre => pre <+: eachOf bs) (pairsOf bs).1.length w := fun l J Jx W hW hJ _ hY h0 => by
  have hk : Kept (fun _ => False) w W := Kept.of_below (Nat.le_refl _) hW
  refine each1_in n hn l Bs box w.heap.size bs hlen J Jx W hJ hY v (hk.cell hBs (fun f => f)) (hv.keptF hk (fun _ _ f => f)) (by have := hk.size; omega) (fun k ⟨u, hu, hku⟩ => ?_) hk.size h0
  rw [World.cell?_of_block (w := w) (w' := W) (a := ⟨box, 0, none⟩) (hk.block box hbox (fun f => f))] at hu
  exact hown k ⟨u, hu, hku⟩
end Go.Proofs.YtemilbemdlpkaaaGreatDoor

/- run against the document's answer: the plain law. -/
namespace Go.Proofs.YtemilbemdlpkaaaGreatDoor

theorem ixOf_none_iff (x : Nat) (l : List (Nat × Nat)) : ixOf x l = none ↔ ∀ p ∈ l, p.1 ≠ x := by
  induction l with
  | nil => simp [ixOf]
  | cons p l ih =>
    unfold ixOf
    by_cases h : p.1 = x
    · rw [if_pos h]; simp [h]
    · rw [if_neg h, Option.map_eq_none_iff, ih]
      simp [h]
theorem ixI_nonneg (x : Nat) (l : List (Nat × Nat)) : 0 ≤ ixI x l ↔ ∃ p ∈ l, p.1 = x := by
  unfold ixI
  have h := ixOf_none_iff x l
  cases hO : ixOf x l with
  | none =>
    have h2 := h.1 hO
    simp only []
    constructor
    · intro h3; omega
    · rintro ⟨p, hp, e⟩; exact absurd e (h2 p hp)
  | some k =>
    simp only []
    constructor
    · intro _
      apply Classical.byContradiction
      intro h3
      have := h.2 (fun p hp e => h3 ⟨p, hp, e⟩)
      rw [this] at hO; cases hO
    · intro _; omega

theorem takeWhile_lt (l : List (Nat × Nat)) (x : Nat) : ∀ p ∈ l.takeWhile (fun q => decide (q.1 < x)), p.1 < x := by
  induction l with
  | nil => intro p hp; simp at hp
  | cons q l ih =>
    intro p hp
    by_cases h : q.1 < x
    · rw [List.takeWhile_cons_of_pos (by simpa using h)] at hp
      rcases List.mem_cons.1 hp with rfl | hp
      · exact h
      · exact ih p hp
    · rw [List.takeWhile_cons_of_neg (by simpa using h)] at hp
      simp at hp
theorem dropWhile_ge {l : List (Nat × Nat)} (hs : l.Pairwise (fun x y => x.1 < y.1)) (x : Nat) : ∀ p ∈ l.dropWhile (fun q => decide (q.1 < x)), x ≤ p.1 := by
  induction l with
  | nil => intro p hp; simp at hp
  | cons q l ih =>
    obtain ⟨h1, h2⟩ := List.pairwise_cons.1 hs
    intro p hp
    by_cases h : q.1 < x
    · rw [List.dropWhile_cons_of_pos (by simpa using h)] at hp
      exact ih h2 p hp
    · rw [List.dropWhile_cons_of_neg (by simpa using h)] at hp
      rcases List.mem_cons.1 hp with rfl | hp
      · omega
      · have := h1 p hp; omega
theorem putR_new {l : List (Nat × Nat)} (hs : l.Pairwise (fun x y => x.1 < y.1)) (p : Nat × Nat) (hn : ixOf p.1 l = none) : (putR l p).Pairwise (fun x y => x.1 < y.1) ∧ (putR l p).Perm (p :: l) := by
  unfold putR
  rw [if_pos hn]
  have hne := (ixOf_none_iff _ _).1 hn
  have hT := takeWhile_lt l p.1
  have hD := dropWhile_ge hs p.1
  have hTD := List.takeWhile_append_dropWhile (p := fun q : Nat × Nat => decide (q.1 < p.1)) (l := l)
  have hmem : ∀ q ∈ l.dropWhile (fun q => decide (q.1 < p.1)), q ∈ l := fun q hq => by rw [← hTD]; exact List.mem_append_right _ hq
  have hs' := hs
  rw [← hTD, List.pairwise_append] at hs'
  constructor
  · rw [List.pairwise_append]
    refine ⟨hs'.1, List.pairwise_cons.2 ⟨fun q hq => ?_, hs'.2.1⟩, fun a ha b hb => ?_⟩
    · have h1 := hD q hq
      have h2 := hne q (hmem q hq)
      omega
    · rcases List.mem_cons.1 hb with rfl | hb
      · exact hT a ha
      · exact hs'.2.2 a ha b hb
  · refine List.perm_middle.trans ?_
    rw [hTD]
theorem foldR (l acc : List (Nat × Nat)) (hs : acc.Pairwise (fun x y => x.1 < y.1)) :
    (l.foldl putR acc).Pairwise (fun x y => x.1 < y.1) ∧ ((((acc ++ l).map (·.1)).Nodup ∧ (l.foldl putR acc).Perm (acc ++ l)) ∨ (¬ ((acc ++ l).map (·.1)).Nodup ∧ (l.foldl putR acc).length < acc.length + l.length)) := by
  induction l generalizing acc with
  | nil =>
    refine ⟨hs, .inl ⟨?_, by simp⟩⟩
    rw [List.append_nil, List.Nodup, List.pairwise_map]
    exact hs.imp (fun h => by omega)
  | cons p l ih =>
    rw [List.foldl_cons]
    by_cases hn : ixOf p.1 acc = none
    · obtain ⟨h1, h2⟩ := putR_new hs p hn
      have hp2 : (putR acc p ++ l).Perm (acc ++ p :: l) := (h2.append_right l).trans (by
        rw [List.cons_append]
        exact (List.perm_middle (a := p) (l₁ := acc) (l₂ := l)).symm)
      have hl2 : (putR acc p).length = acc.length + 1 := by rw [h2.length_eq]; simp
      obtain ⟨h3, h4⟩ := ih (putR acc p) h1
      refine ⟨h3, ?_⟩
      have hnd := (hp2.map (·.1)).nodup_iff
      rcases h4 with ⟨h4, h5⟩ | ⟨h4, h5⟩
      · exact .inl ⟨hnd.1 h4, h5.trans hp2⟩
      · refine .inr ⟨fun h => h4 (hnd.2 h), ?_⟩
        rw [List.length_cons]; omega
    · have hp : putR acc p = acc := by unfold putR; rw [if_neg hn]
      rw [hp]
      obtain ⟨h3, h4⟩ := ih acc hs
      refine ⟨h3, .inr ⟨fun hnd => ?_, ?_⟩⟩
      · apply hn
        rw [ixOf_none_iff]
        intro q hq e
        rw [List.map_append, List.nodup_append] at hnd
        exact hnd.2.2 q.1 (List.mem_map_of_mem hq) p.1 (by simp) e
      · rcases h4 with ⟨-, h5⟩ | ⟨-, h5⟩
        · have := h5.length_eq
          rw [List.length_append] at this
          rw [List.length_cons]; omega
        · rw [List.length_cons]; omega
theorem sortedR_spec (l : List (Nat × Nat)) : (sortedR l).Pairwise (fun x y => x.1 < y.1) ∧ ((sortedR l).length = l.length ↔ (l.map (·.1)).Nodup) ∧ ((l.map (·.1)).Nodup → sortedR l = sortedP l) := by
  obtain ⟨h1, h2⟩ := foldR l [] List.Pairwise.nil
  simp only [List.nil_append, List.length_nil, Nat.zero_add] at h2
  refine ⟨h1, ?_, fun hn => ?_⟩
  · rcases h2 with ⟨h3, h4⟩ | ⟨h3, h4⟩
    · exact ⟨fun _ => h3, fun _ => h4.length_eq⟩
    · refine ⟨fun h5 => ?_, fun h5 => absurd h5 h3⟩
      unfold sortedR at h5
      omega
  · rcases h2 with ⟨-, h4⟩ | ⟨h3, -⟩
    · exact (sorted_eq h4 h1).2
    · exact absurd hn h3

/-- What RunMakes asks of Make. -/
theorem make_spec (m : List (Nat × Nat)) (hl : m.length ≤ 200) (hb : ∀ p ∈ m, p.1 < 18446744073709551616 ∧ p.2 < 18446744073709551616) :
    (0 ≤ ixI 0 m ∧ makeOf m = ([], 2)) ∨ (¬ 0 ≤ ixI 0 m ∧ (sortedR m).length ≠ m.length ∧ makeOf m = ([], 5)) ∨
    (¬ 0 ≤ ixI 0 m ∧ (sortedR m).length = m.length ∧ makeOf m = (bytesOf (sortedR m), 0) ∧ eachOf (bytesOf (sortedR m)) = sortedR m) := by
  obtain ⟨hs, hL, hE⟩ := sortedR_spec m
  have hI := ixI_nonneg 0 m
  unfold makeOf
  rw [if_neg (by omega)]
  by_cases h0 : ∃ p ∈ m, p.1 = 0
  · rw [if_pos h0]; exact .inl ⟨hI.2 h0, rfl⟩
  · rw [if_neg h0]
    have hI' : ¬ 0 ≤ ixI 0 m := fun h => h0 (hI.1 h)
    by_cases h1 : (m.map (·.1)).Nodup
    · rw [if_neg (by simpa using h1), ← hE h1]
      refine .inr (.inr ⟨hI', hL.2 h1, rfl, ?_⟩)
      have hr : Rising 0 (sortedR m) := Rising.of_strict hs (fun p hp => by
        have hp' : p ∈ m := by rw [hE h1] at hp; exact (sortedP_perm m).mem_iff.1 hp
        exact ⟨Nat.pos_of_ne_zero (fun e => h0 ⟨p, hp', e⟩), hb p hp'⟩)
      unfold eachOf
      rw [pairsOf_bytesOf _ hr (by have := sortedR_length m; omega)]
      rfl
    · rw [if_pos h1]
      exact .inr (.inl ⟨hI', fun e => h1 (hL.1 e), rfl⟩)
end Go.Proofs.YtemilbemdlpkaaaGreatDoor
