/- memo: Open. -/
import Derived.Test.YtemilbemdlpkaaaGreatDoorPbq
import Derived.Test.YtemilbemdlpkaaaGreatDoorPap
namespace Go.Proofs.YtemilbemdlpkaaaGreatDoor
open Go.RowKit Go.ChangeMaps Go.MapKept
set_option linter.unusedSimpArgs false
attribute [local go_sem] Oper.semAt_some

/-- A memo's journal's file. -/
def fileN (key : Nat) : ByteArray := { data := #[109, 101, 109, 111, 45] } ++ strB (hexL key)
theorem fileN_size (key : Nat) : (fileN key).size = 21 := by
  have h1 : ({ data := #[109, 101, 109, 111, 45] } : ByteArray).size = 5 := rfl
  have h2 : (hexL key).length = 16 := by simp [hexL]
  unfold fileN
  rw [ByteArray.size_append, h1, strB_size, h2]
theorem recsOf_snoc (rs : List (List UInt8)) (b : List UInt8) : recsOf (rs ++ [b]) = recOf (recsOf rs).last b := by simp [recsOf, List.foldl_append]
theorem recGo_len : ∀ (f n : Nat) (r : RM) (s : RecS), s.l.length ≤ 4 → (∀ x ∈ s.l, x ≤ 2147483648) → s.last ≤ 2147483648 → (recGo18 f n r s).1.l.length ≤ 4 ∧ (∀ x ∈ (recGo18 f n r s).1.l, x ≤ 2147483648) ∧ (recGo18 f n r s).1.last ≤ 2147483648
  | 0, n, r, s, h1, h2, h3 => by rw [recGo18]; exact ⟨h1, h2, h3⟩
  | f + 1, n, r, s, h1, h2, h3 => by
    rw [recGo18]
    split
    · exact ⟨h1, h2, h3⟩
    · split
      · exact ⟨h1, h2, h3⟩
      · refine recGo_len f _ _ _ (RecS.step_len h1 _) ?_ ?_
        · intro x hx
          unfold RecS.step at hx
          simp only at hx
          split at hx
          · rename_i hc
            rcases List.mem_append.1 hx with hx | hx
            · exact h2 x hx
            · rw [List.mem_singleton.1 hx]; exact hc.2
          · exact h2 x hx
        · unfold RecS.step
          simp only
          split <;> omega
theorem recOf_len (last : Nat) (b : List UInt8) (h : last ≤ 2147483648) : (recOf last b).l.length ≤ 4 ∧ (∀ x ∈ (recOf last b).l, x ≤ 2147483648) ∧ (recOf last b).last ≤ 2147483648 := by
  unfold recOf
  exact recGo_len _ _ _ ⟨[], last, true⟩ (by simp) (fun x hx => by simp at hx) h
theorem recsFold_len : ∀ (rs : List (List UInt8)) (s : RecS), (s.l.length ≤ 4 ∧ (∀ x ∈ s.l, x ≤ 2147483648) ∧ s.last ≤ 2147483648) → ((rs.foldl (fun s b => recOf s.last b) s).l.length ≤ 4 ∧ (∀ x ∈ (rs.foldl (fun s b => recOf s.last b) s).l, x ≤ 2147483648) ∧ (rs.foldl (fun s b => recOf s.last b) s).last ≤ 2147483648)
  | [], _, h => h
  | b :: rs, s, h => recsFold_len rs (recOf s.last b) (recOf_len _ _ h.2.2)
theorem recsOf_len (rs : List (List UInt8)) : (recsOf rs).l.length ≤ 4 ∧ (∀ x ∈ (recsOf rs).l, x ≤ 2147483648) ∧ (recsOf rs).last ≤ 2147483648 :=
  recsFold_len rs ⟨[], 0, true⟩ ⟨by simp, fun x hx => by simp at hx, by simp⟩
theorem alloc_old18 {w : World} {o p : Obj} {k : Nat} (h : w.heap[k]? = some o) : (w.alloc p).heap[k]? = some o := (Below.heap_alloc _ _ _ (Array.getElem?_eq_some_iff.1 h).1).trans h
theorem set_twoB {w1 : World} {B : Nat} {x y x' y' : Value} {tx ty : TypeId} (hb0 : w1.heap[B]? = some (.cells #[x] tx (0, 0))) (hb1 : w1.heap[B + 1]? = some (.cells #[y] ty (0, 0))) :
    ∃ W, (w1.setCell ⟨B, 0, none⟩ x').setCell ⟨B + 1, 0, none⟩ y' = W ∧ Kept (fun k => k = B ∨ k = B + 1) w1 W ∧ W.heap[B]? = some (.cells #[x'] tx (0, 0)) ∧ W.heap[B + 1]? = some (.cells #[y'] ty (0, 0)) := by
  have h0 := (heap_setCell_ne (w := w1.setCell ⟨B, 0, none⟩ x') (b := B + 1) (o := 0) (k := B) (by omega) y').trans (heap_setCell_row hb0 x')
  have h1 := heap_setCell_row (o := 0) ((heap_setCell_ne (w := w1) (b := B) (o := 0) (k := B + 1) (by omega) x').trans hb1) y'
  refine ⟨_, rfl, ((Kept.refl (fun k => k = B ∨ k = B + 1) w1).setCell (p := ⟨B, 0, none⟩) (fun _ => .inl rfl) _).setCell (p := ⟨B + 1, 0, none⟩) (fun _ => .inr rfl) _, by simpa using h0, by simpa using h1⟩

theorem OwnZ.grown {b : Nat} {A B : World} {v : Value} {l : List Nat} {row : Option Nat} (h : OwnZ b A v l) (hg : A.grownBy B row) (hr : ∀ k, row = some k → ∃ o : Obj, A.heap[k]? = some o ∧ o.isCells = false) : OwnZ b B v l := by
  refine ⟨h.1, ?_⟩
  rcases h.2 with h2 | ⟨g, cap, cur, rfl, h3, h4, h5⟩
  · exact .inl h2
  · refine .inr ⟨g, cap, cur, rfl, h3, (hg.block g (Array.getElem?_eq_some_iff.1 h4).1 (fun e => ?_)).trans h4, h5⟩
    obtain ⟨o, ho, hc⟩ := hr g e.symm
    rw [h4] at ho; cases ho; cases hc
theorem DiskAfter.mark18 {w w1 w2 : World} {b m : Nat} {es es1 : Array MapEntry} {c1 : Nat} {D1 : DM} (h : DiskAfter w b m es D1 w1 es1 c1) {G : Nat → Prop} (hk : Kept G w1 w2) (h1 : ∀ k, diskF b m es1 k → ¬ G k) (h2 : ∀ k, k < w.heap.size → ¬ G k) : DiskAfter w b m es D1 w2 es1 c1 :=
  ⟨h.disk.kept hk h1, h.foot, h.kept.trans hk fun i hi g => absurd g (h2 i hi)⟩
theorem digGo_le {l : List UInt8} {n : Nat} (h : digGo 0 0 l = some n) : n ≤ 10000000000 := by
  obtain ⟨h1, h2⟩ := digGo_lt 0 0 l n h (by decide)
  rcases h2 with h2 | h2
  · rw [h2] at h1
    simp at h1
    omega
  · have h9 : 10 ^ (0 + l.length) ≤ 10 ^ 10 := Nat.pow_le_pow_right (by omega) h2
    have e9 : (10 : Nat) ^ 10 = 10000000000 := by decide
    omega
theorem numOf_le (f s : ByteArray) : numOf f s ≤ 10000000000 := by
  unfold numOf
  split
  · omega
  · cases hd : digGo 0 0 (cutP s (f ++ { data := #[45] })).1.data.toList with
    | none => simp only []; omega
    | some n =>
      have := digGo_le hd
      simp only []
      split <;> omega
theorem MemR.removed {w w5 : World} {a : MAd} {D D5 : DM} {J : JM} {M : MP} (hR2 : MemR w a D J M) {v : Value} {es5 : Array MapEntry} {clk5 : Nat} (hd5 : DiskAt w5 a.b a.m es5 clk5 D5) (hf5 : ∀ k, diskF a.b a.m es5 k → diskF a.b a.m a.es k ∨ w.heap.size ≤ k)
    (hk5 : Kept (fun k => diskF a.b a.m a.es k ∨ v.ownBlock = some k) w w5) (hout : ∀ i, a.F i ∨ a.P i → ¬ v.ownBlock = some i) : MemR w5 { a with es := es5, clock := clk5 } D5 J M := by
  obtain ⟨q1, q2, q3⟩ := hR2.jour.apart
  have hap := hR2.apart
  have hj5 : JAt w5 a.j a.b a.m es5 clk5 a.av a.pv D5 J := by
    refine ⟨hd5, (hk5.block a.j (Array.getElem?_eq_some_iff.1 hR2.jour.cell).1 ?_).trans hR2.jour.cell, rowKept hR2.jour.all hk5 (fun g _ e hf => ?_), rowKept hR2.jour.parts hk5 (fun g _ e hf => ?_), fun g e hg => ?_, hR2.jour.small⟩
    · rintro (e | e)
      · exact q3 e
      · exact hout a.j (.inl (.inr (.inr (.inl rfl)))) e
    · rcases hf with hf | hf
      · exact hR2.jour.sep g e hf
      · exact hout g (.inl (.inr (.inr (.inr (.inl e))))) hf
    · rcases hf with hf | hf
      · exact (q2 g e).2.2 hf
      · exact hout g (.inl (.inr (.inr (.inr (.inr (.inl e)))))) hf
    · rcases hf5 g hg with h1 | h1
      · exact hR2.jour.sep g e h1
      · have := hR2.jour.lt g (.inr (.inl e)); omega
  refine ⟨hj5, hR2.mem.kept hk5 ?_ ?_ ?_, hR2.kmm, fun x hx g e hF => ?_⟩
  · rintro (e | e)
    · exact hap.1 (.inr (.inr (.inr e)))
    · exact hout _ (.inl (.inl rfl)) e
  · rintro (e | e)
    · exact hap.2.1 (.inr (.inr (.inr e)))
    · exact hout _ (.inl (.inr (.inl rfl))) e
  · rintro i hi (e | e)
    · exact hap.2.2.1 i hi (.inr (.inr (.inr (.inr (.inr e)))))
    · exact hout i (.inr hi) e
  · have hg2 := hR2.lt.2 g (.inr ⟨x, hx, e⟩)
    rcases hF with e2 | e2 | e2 | e2
    · exact hR2.out x hx g e (.inl e2)
    · exact hR2.out x hx g e (.inr (.inl e2))
    · exact hR2.out x hx g e (.inr (.inr (.inl e2)))
    · rcases hf5 g e2 with h1 | h1
      · exact hR2.out x hx g e (.inr (.inr (.inr h1)))
      · omega
/-- The numbers of run files that do not count, among the first names. -/
def goneK (fl : ByteArray) (nms : List (List UInt8)) (ns : List Nat) (k : Nat) : List Nat := ((nms.take k).map fun s => numOf fl (strB s)).filter fun n => decide (0 < n) && !decide (n ∈ ns)
theorem goneK_succ (fl : ByteArray) (nms : List (List UInt8)) (ns : List Nat) {k : Nat} (hk : k < nms.length) : goneK fl nms ns (k + 1) = goneK fl nms ns k ++ (if decide (0 < numOf fl (strB nms[k])) && !decide (numOf fl (strB nms[k]) ∈ ns) then [numOf fl (strB nms[k])] else []) := by
  unfold goneK
  rw [List.take_succ_eq_append_getElem hk, List.map_append, List.filter_append]
  congr 1
  simp only [List.map_cons, List.map_nil, List.filter_cons, List.filter_nil]
theorem goneK_all (D : DM) (fl : ByteArray) (ns : List Nat) : goneK fl (namesOf D.files) ns (namesOf D.files).length = goneOf D fl ns := by unfold goneK goneOf; rw [List.take_length]
theorem goneK_len (fl : ByteArray) (nms : List (List UInt8)) (ns : List Nat) (k : Nat) : (goneK fl nms ns k).length ≤ k := by
  unfold goneK
  refine Nat.le_trans (List.length_filter_le _ _) ?_
  rw [List.length_map, List.length_take]
  omega
theorem goneK_le (fl : ByteArray) (nms : List (List UInt8)) (ns : List Nat) (k : Nat) : ∀ x ∈ goneK fl nms ns k, x ≤ 10000000000 := by
  intro x hx
  unfold goneK at hx
  obtain ⟨y, -, rfl⟩ := List.mem_map.1 (List.mem_filter.1 hx).1
  exact numOf_le _ _
theorem namesOf_size {D : DM} (h : D.Ok) : (namesOf D.files).length ≤ 256 ∧ ∀ s ∈ namesOf D.files, s.length ≤ 32 := by
  refine ⟨?_, fun s hs => ?_⟩
  · unfold namesOf
    rw [List.length_mergeSort, List.length_map]
    exact h.count
  · unfold namesOf at hs
    obtain ⟨q, hq, rfl⟩ := List.mem_map.1 ((List.mergeSort_perm _ _).mem_iff.1 hs)
    have := (h.names q hq).1
    unfold mayB at this
    simp only [Bool.and_eq_true, decide_eq_true_eq] at this
    rw [Array.length_toList]
    exact this.1.2
theorem DM.truncate_writes (D : DM) (s : ByteArray) (n : Int) : (D.truncate s n).2.writes ≤ D.writes + 1 := by
  unfold DM.truncate
  split
  · simp only []; omega
  · split
    · simp only []; omega
    · split
      · simp only []; omega
      · cases hr : D.raw with
        | none => simp only []; omega
        | some D' =>
          have h2 := DM.raw_writes18 hr
          simp only [DM.put]
          omega
theorem openJ_writes (D : DM) (s : ByteArray) : (openJ D s).2.1.writes ≤ D.writes + 1 := by
  unfold openJ openOf
  split
  · simp only []; omega
  · split
    · exact DM.truncate_writes _ _ _
    · simp only []; omega
/-- What Open leaves. -/
def OpEnd (w : World) (b m : Nat) (es : Array MapEntry) (O : Int × DM × JM × Option MP) (e : Ending) (w' : World) : Prop :=
  ∃ es' clock', DiskAfter w b m es O.2.1 w' es' clock' ∧ (O.2.2.2 = none → e = .returned (.tuple #[.pointer none, .int .i64 O.1])) ∧
    (∀ M, O.2.2.2 = some M → O.1 = 0 ∧ ∃ a, e = .returned (.tuple #[.pointer (some ⟨a.p, 0, none⟩), .int .i64 0]) ∧ MemR w' a O.2.1 O.2.2.1 M ∧ a.b = b ∧ a.m = m ∧ a.es = es' ∧ (∀ k, a.F k → diskF b m es' k ∨ w.heap.size ≤ k) ∧ (∀ k, a.P k → w.heap.size ≤ k))

set_option maxRecDepth 100000 in
set_option maxHeartbeats 1000000 in
theorem mopen_any {w : World} {b m : Nat} {es : Array MapEntry} {clock : Nat} {D : DM} (hd : DiskAt w b m es clock D) (key : Nat) (hk0 : key ≠ 0) (hk64 : key < 18446744073709551616) (B : Nat) (hT : TabB B w) (hBF : ∀ k, diskF b m es k → B ≤ k) (hBw : B ≤ w.heap.size) (hw : D.writes < 100000000000000)
    (hRD : ReadC (recsOf (openJ D (fileN key)).2.2.recs).l) :
    Calls Tryz.prog 10 #[.pointer (some ⟨b, 0, none⟩), .int .u64 key] w (OpEnd w b m es (openM D (fileN key))) := by
  have hz := fileN_size key
  have HHX := Lib.hid (hex_any w key hk64)
  have hk0b : ((key : Int) == 0) = false := by simp; omega
  obtain ⟨hx, hhx⟩ : ∃ hx, strB (hexL key) = hx := ⟨_, rfl⟩
  have hxs : hx.size ≤ 16 := by rw [← hhx, strB_size]; simp [hexL]
  obtain ⟨fl, hfl⟩ : ∃ fl, fileN key = fl := ⟨_, rfl⟩
  have hfl2 : ({ data := #[109, 101, 109, 111, 45] } : ByteArray) ++ hx = fl := by rw [← hfl, fileN, hhx]
  rw [hhx] at HHX
  rw [hfl] at hz hRD ⊢
  have HJO := Lib.hid (fun (W : World) (hk : Kept (fun _ => False) w W) => jopen_any (hd.kept hk (fun _ _ f => f)) fl (by omega) (by omega))
  obtain ⟨O, hO⟩ : ∃ O, openM D fl = O := ⟨_, rfl⟩
  rw [hO]
  have HO := Lib.hid hO.symm
  unfold openM at HO
  obtain ⟨⟨e1, D1, J1⟩, hj1⟩ : ∃ o, openJ D fl = o := ⟨_, rfl⟩
  rw [hj1] at HJO HO hRD
  simp only at HJO HO hRD
  have HH := Lib.hid (And.intro hd (And.intro hT (And.intro hBF (And.intro hBw (And.intro hRD hz)))))
  have HDW : Hid (D1.writes < 1000000000000000) := Lib.hid (by have := openJ_writes D fl; rw [hj1] at this; simp only at this; omega)
  clear hj1 hO hd hT hBF hBw hRD hhx hfl hz
  have hmm := @run_makeMap Tryz.prog
  refine (callsIn_wide (n := 5)).1 ?_
  refine callsIn_of_wp_marks Tryz.func10 rfl trivial ?_ rfl
  refine (wpIn_wide (n := 5)).2 ?_
  simp only [Tryz.ntmps10, List.size_toArray, List.length_cons, List.length_nil, Nat.reduceAdd, Nat.reduceSub, Array.replicate_succ, Array.replicate_zero, List.push_toArray, List.append_toArray, List.nil_append, List.cons_append]
  go_wp2_with fail
  refine HHX.out.mono ?_
  rintro e w1 ⟨rfl, hk1⟩
  obtain ⟨w2, hw2⟩ : ∃ W, ((w1.alloc (.map #[] 0)).alloc (.cells #[.pointer (some ⟨b, 0, none⟩), .pointer none, .string fl, .map (some w1.heap.size), .slice none 0 0, .int .i64 0, .bool false] 92)).alloc (.cells #[.pointer (some ⟨w1.heap.size + 1, 0, none⟩)] 29) = W := ⟨_, rfl⟩
  have hk2 : Kept (fun _ => False) w1 w2 := by rw [← hw2]; exact (((Kept.refl _ _).alloc _).alloc _).alloc _
  have hs2 : w2.heap.size = w1.heap.size + 3 := by rw [← hw2]; simp
  have hbm : w2.heap[w1.heap.size]? = some (.map #[] 0) := by rw [← hw2]; exact alloc_old18 (alloc_old18 (heap_alloc_new _ _))
  have hbp : w2.heap[w1.heap.size + 1]? = some (.cells #[.pointer (some ⟨b, 0, none⟩), .pointer none, .string fl, .map (some w1.heap.size), .slice none 0 0, .int .i64 0, .bool false] 92 (0, 0)) := by
    rw [← hw2]
    refine alloc_old18 ?_
    have h := heap_alloc_new (w1.alloc (.map #[] 0)) (.cells #[.pointer (some ⟨b, 0, none⟩), .pointer none, .string fl, .map (some w1.heap.size), .slice none 0 0, .int .i64 0, .bool false] 92)
    rwa [World.size_alloc] at h
  have hbv : w2.heap[w1.heap.size + 1 + 1]? = some (.cells #[.pointer (some ⟨w1.heap.size + 1, 0, none⟩)] 29 (0, 0)) := by
    rw [← hw2]
    have h := heap_alloc_new ((w1.alloc (.map #[] 0)).alloc (.cells #[.pointer (some ⟨b, 0, none⟩), .pointer none, .string fl, .map (some w1.heap.size), .slice none 0 0, .int .i64 0, .bool false] 92)) (.cells #[.pointer (some ⟨w1.heap.size + 1, 0, none⟩)] 29)
    rwa [World.size_alloc, World.size_alloc] at h
  have cv : w2.cell? ⟨w1.heap.size + 1 + 1, 0, none⟩ = some (.pointer (some ⟨w1.heap.size + 1, 0, none⟩)) := by simp [World.cell?, hbv]
  have cf : w2.cell? ⟨w1.heap.size + 1, 2, none⟩ = some (.string fl) := by simp [World.cell?, hbp]
  have HJO2 := Lib.hid (HJO.out w2 (hk1.more hk2 (fun _ f => f.elim)))
  have HW2 := Lib.hid hw2
  have HB2 := Lib.hid (And.intro hk1 (And.intro hk2 (And.intro hs2 (And.intro hbm (And.intro hbp hbv)))))
  clear hw2 hk1 hk2 hs2 hbm hbp hbv HJO
  go_wp2_with fail
  rw [HW2.out]
  refine HJO2.out.mono ?_
  rintro e w3 ⟨es1, clk1, hA1, hne, heq⟩
  obtain ⟨hk1, hk2, hs2, hbm, hbp, hbv⟩ := HB2.out
  have hk12 : Kept (fun _ => False) w w2 := hk1.more hk2 (fun _ f => f.elim)
  obtain ⟨km, hkm⟩ : ∃ km, w1.heap.size = km := ⟨_, rfl⟩
  have hkw : w.heap.size ≤ km := by rw [← hkm]; exact hk1.size
  have hnd : ∀ k, km ≤ k → ¬ diskF b m es k := fun k hk hf => by have := HH.out.1.lt k hf; omega
  rw [hkm] at hbm hbp hbv hs2
  rw [hkm]
  have hbm3 := (hA1.kept.block km (by omega) (hnd _ (Nat.le_refl _))).trans hbm
  have hbp3 := (hA1.kept.block (km + 1) (by omega) (hnd _ (by omega))).trans hbp
  have hbv3 := (hA1.kept.block (km + 1 + 1) (by omega) (hnd _ (by omega))).trans hbv
  have HA3 : Hid (DiskAfter w b m es D1 w3 es1 clk1) := Lib.hid (DiskAfter.of_kept hk12 hA1)
  have HS3 : Hid (w.heap.size ≤ km ∧ km + 3 ≤ w3.heap.size) := Lib.hid ⟨hkw, by have := hA1.kept.size; omega⟩
  have HF3 : Hid (∀ k, diskF b m es1 k → k < w.heap.size ∨ km + 3 ≤ k) := Lib.hid (fun k hk => by
    rcases hA1.foot k hk with h | h
    · exact .inl (HH.out.1.lt k h)
    · exact .inr (by omega))
  have HS2 := Lib.hid hs2
  clear hA1 hk1 hk2 hs2 hbm hbp hbv hk12 hkm hkw hnd HB2 HW2 HJO2 cv cf hfl2
  by_cases h0 : e1 = 0
  · subst h0
    obtain ⟨j, av, pv, rfl, hjn, havn, hpvn, hJ⟩ := heq rfl
    have HNW : Hid (km + 3 ≤ j ∧ (∀ g, av.ownBlock = some g → km + 3 ≤ g) ∧ (∀ g, pv.ownBlock = some g → km + 3 ≤ g)) := Lib.hid (by have := HS2.out; exact ⟨by omega, fun g e => by have := havn g e; omega, fun g e => by have := hpvn g e; omega⟩)
    have HJ3 := Lib.hid hJ
    have HO1 := HO.out
    rw [if_neg (by simp)] at HO1
    replace HO1 := Lib.hid HO1
    have HJF : Hid (∀ k, jourF j b m es1 av pv k → (k < w.heap.size ∨ km + 3 ≤ k) ∧ k < w3.heap.size) := Lib.hid (fun k hk => by
      refine ⟨?_, HJ3.out.lt k hk⟩
      rcases hk with rfl | e | e | e
      · exact .inr HNW.out.1
      · exact .inr (HNW.out.2.1 k e)
      · exact .inr (HNW.out.2.2 k e)
      · exact HF3.out k e)
    have cv3 : w3.cell? ⟨km + 1 + 1, 0, none⟩ = some (.pointer (some ⟨km + 1, 0, none⟩)) := by simp [World.cell?, hbv3]
    have cp3 : w3.cell? ⟨km + 1, 1, none⟩ = some (.pointer none) := by simp [World.cell?, hbp3]
    have fp3 : w3.frozen? ⟨km + 1, 1, none⟩ = false := by simp [World.frozen?, hbp3]
    obtain ⟨w4, hw4⟩ : ∃ X, w3.setCell ⟨km + 1, 1, none⟩ (.pointer (some ⟨j, 0, none⟩)) = X := ⟨_, rfl⟩
    have hk4 : Kept (fun k => k = km + 1) w3 w4 := by rw [← hw4]; exact (Kept.refl (fun k => k = km + 1) w3).setCell (p := ⟨km + 1, 1, none⟩) (fun _ => rfl) _
    have hs4 : w4.heap.size = w3.heap.size := by rw [← hw4]; simp
    have hbp4 : w4.heap[km + 1]? = some (memRow (.pointer (some ⟨b, 0, none⟩)) (.pointer (some ⟨j, 0, none⟩)) fl (.map (some km)) (.slice none 0 0) 0 false) := by rw [← hw4, heap_setCell_row hbp3]; rfl
    obtain ⟨W5, hW5⟩ : ∃ X, (w4.alloc (.cells #[.slice none 0 0] 23)).alloc (.cells #[.bool true] 4) = X := ⟨_, rfl⟩
    have hk5 : Kept (fun _ => False) w4 W5 := by rw [← hW5]; exact ((Kept.refl _ _).alloc _).alloc _
    have hs5 : W5.heap.size = w3.heap.size + 2 := by rw [← hW5]; simp [hs4]
    have hbn5 : W5.heap[w3.heap.size]? = some (.cells #[.slice none 0 0] 23 (0, 0)) := by rw [← hW5, ← hs4]; exact alloc_old18 (heap_alloc_new _ _)
    have hbr5 : W5.heap[w3.heap.size + 1]? = some (.cells #[.bool true] 4 (0, 0)) := by
      have h := heap_alloc_new (w4.alloc (.cells #[.slice none 0 0] 23)) (.cells #[.bool true] 4)
      rw [World.size_alloc, hs4] at h
      rw [← hW5]; exact h
    have HW5 := Lib.hid (And.intro hw4 hW5)
    have HB5 := Lib.hid (And.intro hk4 (And.intro hs4 (And.intro hbp4 (And.intro hk5 (And.intro hs5 (And.intro hbn5 hbr5))))))
    have HB3 := Lib.hid (And.intro hbm3 hbv3)
    clear hk4 hbp4 hk5 hs5 hbn5 hbr5 hw4 hW5 hbm3 hbp3 hbv3 heq hne hjn havn hpvn hJ HO
    go_wp2_with fail
    rw [HW5.out.1, HW5.out.2]
    refine (jeach_any (some ⟨j, 0, none⟩) W5).mono ?_
    rintro e w6 ⟨rfl, hw6⟩
    obtain ⟨hk4, -, hbp4, hk5, hs5, hbn5, hbr5⟩ := HB5.out
    obtain ⟨hbm3, hbv3⟩ := HB3.out
    obtain ⟨nb, hnb⟩ : ∃ nb, w3.heap.size = nb := ⟨_, rfl⟩
    rw [hnb] at hs5 hbn5 hbr5 HS3 HJF
    have hk6 : Kept (fun _ => False) W5 w6 := by rw [hw6]; exact (Kept.refl _ _).alloc _
    have hs6 : w6.heap.size = nb + 3 := by rw [hw6]; simp [hs5]
    have hbs6 : w6.heap[nb + 2]? = some (.cells #[.pointer (some ⟨j, 0, none⟩)] 89 (0, 0)) := by rw [hw6, ← hs5]; exact heap_alloc_new _ _
    have hk36 : Kept (fun k => k = km + 1) w3 w6 := (hk4.trans hk5 (fun _ _ f => f.elim)).trans hk6 (fun _ _ f => f.elim)
    have hk46 : Kept (fun _ => False) w4 w6 := hk5.trans hk6 (fun _ _ f => f)
    have l3 := HS3.out
    have HJ6 := Lib.hid (HJ3.out.kept hk36 (fun k hk (e : k = km + 1) => by have := HJF.out k hk; omega))
    have HD6 : Hid (DiskAfter w b m es D1 w6 es1 clk1) := Lib.hid (DiskAfter.mark18 HA3.out hk36 (fun k hk (e : k = km + 1) => by have := HF3.out k hk; omega) (fun k hk (e : k = km + 1) => by omega))
    have HBM : Hid (w6.heap[km]? = some (.map #[] 0)) := Lib.hid ((hk36.block km (by omega) (by omega)).trans hbm3)
    have HBV : Hid (w6.heap[km + 1 + 1]? = some (.cells #[.pointer (some ⟨km + 1, 0, none⟩)] 29 (0, 0))) := Lib.hid ((hk36.block (km + 1 + 1) (by omega) (by omega)).trans hbv3)
    have HBP : Hid (w6.heap[km + 1]? = some (memRow (.pointer (some ⟨b, 0, none⟩)) (.pointer (some ⟨j, 0, none⟩)) fl (.map (some km)) (.slice none 0 0) 0 false)) := Lib.hid ((hk46.block (km + 1) (Array.getElem?_eq_some_iff.1 hbp4).1 (fun f => f)).trans hbp4)
    have HBN : Hid (w6.heap[nb]? = some (.cells #[.slice none 0 0] 23 (0, 0))) := Lib.hid ((hk6.block nb (by omega) (fun f => f)).trans hbn5)
    have HBR : Hid (w6.heap[nb + 1]? = some (.cells #[.bool true] 4 (0, 0))) := Lib.hid ((hk6.block (nb + 1) (by omega) (fun f => f)).trans hbr5)
    have HSEQ := Lib.hid (jeach_seq 4 (by omega) (nb + 2) HJ6.out hbs6)
    have HS6 := Lib.hid hs6
    have HSB : Hid (∀ k, (k = nb + 2 ∨ jourF j b m es1 av pv k) → k < w6.heap.size) := Lib.hid (fun k hk => by
      rcases hk with rfl | hk
      · omega
      · have := HJF.out k hk; omega)
    rw [hs5, hnb]
    clear hk4 hbp4 hk5 hs5 hbn5 hbr5 hbm3 hbv3 hw6 hk6 hs6 hbs6 hk36 hk46 HB5 HB3 HW5 HJ3 l3 cv3 cp3 fp3
    go_wp2_with fail
    refine name_act18 ?_
    intro A0 hA0
    refine (wpIn_wide (n := 5)).1 ?_
    refine wpIn_rangeV (by omega) (gf := 89) (lb := #[.pointer (some ⟨nb + 2, 0, none⟩)]) (by rw [hA0]; simp [Act.eval]) (enters_of Tryz.func89 (by kernel_rfl) rfl) HSEQ.out KeepS.trans (keepS_b HSB.out) (fun _ => rfl)
      (fun pre W => ∃ nv, W.heap[nb]? = some (.cells #[nv] 23 (0, 0)) ∧ OwnZ (nb + 3) W nv (recsOf (pre.map (·.2.2))).l ∧ W.heap[nb + 1]? = some (.cells #[.bool (recsOf (pre.map (·.2.2))).right] 4 (0, 0)) ∧
        W.heap[km + 1]? = some (memRow (.pointer (some ⟨b, 0, none⟩)) (.pointer (some ⟨j, 0, none⟩)) fl (.map (some km)) (.slice none 0 0) (recsOf (pre.map (·.2.2))).last false) ∧ Kept (fun k => k = km + 1 ∨ k = nb ∨ k = nb + 1) w6 W)
      (fun _ _ _ => False)
      ?hI (fun _ _ _ _ _ hs _ _ => hs) ?h0 ?hV (fun x a' _ => a' = { tmps := ((A0.tmps.setIfInBounds 49 (.int .i64 x.1)).setIfInBounds 50 x.2.1).setIfInBounds 12 x.2.1, defers := [] }) (fun _ _ _ _ _ _ h _ _ => h) ?assign ?body ?done ?stop
    case hI =>
      rintro pre A B' row ⟨nv, h1, h2, h3, h4, h5⟩ hg hr
      have hs6 := HS6.out
      have hne : ∀ k, k < w6.heap.size → some k ≠ row := fun k hk e => by have := (hr k e.symm).1; omega
      have l3 := HS3.out
      exact ⟨nv, (hg.block _ (Array.getElem?_eq_some_iff.1 h1).1 (hne _ (by omega))).trans h1, h2.grown hg (fun k e => (hr k e).2), (hg.block _ (Array.getElem?_eq_some_iff.1 h3).1 (hne _ (by omega))).trans h3, (hg.block _ (Array.getElem?_eq_some_iff.1 h4).1 (hne _ (by omega))).trans h4, h5.grown hg (fun k e hk => absurd e.symm (hne k hk))⟩
    case h0 => exact ⟨_, HBN.out, OwnZ.nil _ _, HBR.out, HBP.out, Kept.refl _ _⟩
    case hV =>
      rintro x A B' row ⟨hB, hx⟩ hg hr
      exact ⟨isB_grown18 hB hg (fun k e => (hr k e).2), hx⟩
    case assign =>
      rintro l' pre x W K hi hv hK
      have HK := Lib.hid hK
      have HI := Lib.hid hi
      have HV := Lib.hid hv
      clear hK hi hv
      subst hA0
      unfold recArgs
      gi_wp2
      exact HK.out _ W (KeepsFrom.refl _ _) ⟨Nat.le_refl _, fun _ _ => rfl⟩ HI.out HV.out rfl
    case body =>
      rintro l' pre x a' W hl' ⟨nv, h1, h2, h3, h4, h5⟩ ⟨hvB, hvr⟩ rfl -
      have hs6 := HS6.out
      have l3 := HS3.out
      have hbvW := (h5.block (km + 1 + 1) (by omega) (by omega)).trans HBV.out
      have cv : W.cell? ⟨km + 1 + 1, 0, none⟩ = some (.pointer (some ⟨km + 1, 0, none⟩)) := by simp [World.cell?, hbvW]
      obtain ⟨xi, xv, xb⟩ := x
      simp only at hvB hvr
      have hxl : xb.length ≤ 100000000 := by
        obtain ⟨hi, he⟩ := List.getElem?_eq_some_iff.1 hvr
        have h2 := flatten_take_le J1.recs xi hi
        have h3 := HJ6.out.small.1
        rw [← he]
        unfold JM.all at h3
        omega
      obtain ⟨xa, xc, rfl, -⟩ := id hvB
      have hlast := (recsOf_len (pre.map (·.2.2))).2.2
      have HREC := Lib.hid (recTake_any h4 xa xc xb hvB hxl (by omega) (fun n => ⟨by simp, by simp, by simp, by simp⟩))
      have HSN : Hid (recsOf ((pre ++ [(xi, Value.slice xa xb.length xc, xb)]).map (·.2.2)) = recOf (recsOf (pre.map (·.2.2))).last xb) := Lib.hid (by rw [List.map_append]; exact recsOf_snoc _ _)
      have HI1 := Lib.hid (And.intro h1 (And.intro h3 h5))
      clear h1 h2 h3 h4 h5 hbvW hvB hvr hxl hlast
      subst hA0
      simp only [List.setIfInBounds_toArray, List.set_cons_zero, List.set_cons_succ]
      gi_wp2_with fail
      refine ⟨trivial, (callsIn_wide.2 HREC.out).mono ?_⟩
      rintro e w4 ⟨v, rfl, hz4, hr4, hk4⟩
      obtain ⟨h1, h3, h5⟩ := HI1.out
      obtain ⟨va, vc, hvf, -, -⟩ := hz4.form
      obtain ⟨vl, hvl⟩ : ∃ n, (recOf (recsOf (pre.map (·.2.2))).last xb).l.length = n := ⟨_, rfl⟩
      rw [hvl] at hvf
      subst hvf
      clear hvl
      have b0 := (hk4.block nb (Array.getElem?_eq_some_iff.1 h1).1 (by omega)).trans h1
      have b1 := (hk4.block (nb + 1) (Array.getElem?_eq_some_iff.1 h3).1 (by omega)).trans h3
      obtain ⟨Ws5, hws5, hkW5, z0, z1⟩ := set_twoB (x' := .slice va vl vc) (y' := .bool (recOf (recsOf (pre.map (·.2.2))).last xb).right) b0 b1
      have y0 : w4.cell? ⟨nb, 0, none⟩ = some nv := by simp [World.cell?, b0]
      have y1 : w4.cell? ⟨nb + 1, 0, none⟩ = some (.bool (recsOf (pre.map (·.2.2))).right) := by simp [World.cell?, b1]
      have y2 : w4.frozen? ⟨nb, 0, none⟩ = false := by simp [World.frozen?, b0]
      have y3 : w4.frozen? ⟨nb + 1, 0, none⟩ = false := by simp [World.frozen?, b1]
      have HF := Lib.hid (And.intro hz4 (And.intro hr4 (And.intro hk4 (And.intro hkW5 (And.intro z0 (And.intro z1 h5))))))
      have HWS5 := Lib.hid hws5
      clear hz4 hr4 hk4 hkW5 z0 z1 h5 h1 h3 b0 b1 hws5
      gi_wp2
      rw [HWS5.out]
      obtain ⟨hz4, hr4, hk4, hkW5, z0, z1, h5⟩ := HF.out
      have hk45 : Kept (fun k => k = km + 1 ∨ k = nb ∨ k = nb + 1) W Ws5 := (hk4.mono (fun _ _ e => .inl e)).trans hkW5 (fun _ _ e => .inr e)
      have hWs := h5.size
      refine ⟨⟨hk45.size, fun k o hB ho _ => (hk45.block k (Array.getElem?_eq_some_iff.1 ho).1 (by omega)).trans ho⟩, KeepS.of_kept hk45 (fun k hk => Nat.lt_of_lt_of_le (HSB.out k hk) hWs) (fun k hk e => ?_), _, z0, ?_, by rw [HSN.out]; exact z1, by rw [HSN.out]; exact (hkW5.block (km + 1) (Array.getElem?_eq_some_iff.1 hr4).1 (by omega)).trans hr4, h5.trans hk45 (fun _ _ e => e)⟩
      · rcases hk with h | h
        · omega
        · have := HJF.out k h; omega
      · rw [HSN.out]
        exact OwnZ.mono (hz4.kept hkW5 (fun g hg _ e => by omega)) (by omega)
    case stop =>
      rintro D cc pre W hD hS f hK
      exact f.elim
    case done =>
      rintro DD xs W hD hS ⟨nv, h1, h2, h3, h4, h5⟩ hK
      rw [hS] at h2 h3 h4
      have hs6 := HS6.out
      have l3 := HS3.out
      have hbvW := (h5.block (km + 1 + 1) (by omega) (by omega)).trans HBV.out
      have hbmW := (h5.block km (by omega) (by omega)).trans HBM.out
      have cv : W.cell? ⟨km + 1 + 1, 0, none⟩ = some (.pointer (some ⟨km + 1, 0, none⟩)) := by simp [World.cell?, hbvW]
      have cn : W.cell? ⟨nb, 0, none⟩ = some nv := by simp [World.cell?, h1]
      have cr : W.cell? ⟨nb + 1, 0, none⟩ = some (.bool (recsOf J1.recs).right) := by simp [World.cell?, h3]
      have HD7 := Lib.hid (DiskAfter.mark18 HD6.out h5 (fun k hk e => by have := HF3.out k hk; have := HD6.out.disk.lt k hk; have := HJF.out k (.inr (.inr (.inr hk))); omega) (fun k hk e => by omega))
      have HJ7 := Lib.hid (HJ6.out.kept h5 (fun k hk e => by have := HJF.out k hk; omega))
      have HP7 := Lib.hid (And.intro h2 (And.intro h4 (And.intro hbmW (And.intro h5 (And.intro hK hD)))))
      have HE : Hid (O = ((openAt D1 J1 fl).1, (openAt D1 J1 fl).2.1, J1, (openAt D1 J1 fl).2.2)) := HO1
      have HTW : Hid (TabB B W) := Lib.hid (HH.out.2.1.kept (HD7.out.kept.mono (fun _ _ e => e)) (fun k hk => HH.out.2.2.1 k hk))
      subst hA0
      unfold openAt at HE
      cases hrt : (recsOf J1.recs).right with
      | false =>
        rw [hrt] at cr
        have HO2 : Hid (O = (8, D1, J1, none)) := Lib.hid (by rw [HE.out]; simp only [hrt, if_true])
        clear hrt h1 h2 h3 h4 h5 hK
        go_wp2_with fail
        rw [HO2.out]
        obtain ⟨-, -, -, -, hK, hD⟩ := HP7.out
        refine leaves_taken18 [DD] _ (by simp) (fun D hD => by rw [List.mem_singleton.1 hD]; exact hK) (fun W' hk => ?_)
        exact ⟨_, results_tmp2 rfl _ _ _, es1, clk1, DiskAfter.mark18 HD7.out hk (fun k hk e => by have := List.mem_singleton.1 e; have := HJF.out k (.inr (.inr (.inr hk))); omega) (fun k hk e => by have := List.mem_singleton.1 e; omega), fun _ => rfl, fun M hM => by simp at hM⟩
      | true =>
        rw [hrt] at cr
        obtain ⟨va, vc, hvf, -, -⟩ := h2.form
        have HV := Lib.hid hvf
        have HRD := Lib.hid (HH.out.2.2.2.2.1 W (km + 1) km b m es1 clk1 D1 (.pointer (some ⟨j, 0, none⟩)) fl (recsOf J1.recs).last false #[] 0 B (nb + 3) nv h4 ⟨hbmW, stamped_empty 0, trivial, by simp [NodupA]⟩ HD7.out.disk (fun hf => by have := HF3.out _ hf; omega) (fun hf => by have := HF3.out _ hf; omega) h2 HTW.out (by have := HH.out.2.2.2.1; omega) (by have := HH.out.2.2.2.1; omega) (by have := HH.out.2.2.2.1; have := h5.size; omega) (by have := HH.out.2.2.2.2.2; omega))
        have HE1 := HE.out
        rw [if_neg (by simp [hrt])] at HE1
        replace HE1 := Lib.hid HE1
        clear hrt h1 h2 h3 h4 h5 hK HE hvf
        cases hrm : readM D1 fl (recsOf J1.recs).l [] [] with
        | none =>
          rw [hrm] at HRD HE1
          simp only [RdEnd] at HRD HE1
          have HO2 : Hid (O = (8, D1, J1, none)) := HE1
          clear hrm
          go_wp2_with fail
          refine HRD.out.mono ?_
          rintro e W2 ⟨rfl, hk2⟩
          go_wp2_with fail
          rw [HO2.out]
          obtain ⟨-, -, -, -, hK, hD⟩ := HP7.out
          have hK2 := (hk2.block DD (Array.getElem?_eq_some_iff.1 hK).1 (by omega)).trans hK
          refine leaves_taken18 [DD] _ (by simp) (fun D hD => by rw [List.mem_singleton.1 hD]; exact hK2) (fun W' hk => ?_)
          have hD2 := DiskAfter.mark18 HD7.out hk2 (fun k hk e => by have := HJF.out k (.inr (.inr (.inr hk))); omega) (fun k hk e => by omega)
          exact ⟨_, results_tmp2 rfl _ _ _, es1, clk1, DiskAfter.mark18 hD2 hk (fun k hk e => by have := List.mem_singleton.1 e; have := HJF.out k (.inr (.inr (.inr hk))); omega) (fun k hk e => by have := List.mem_singleton.1 e; omega), fun _ => rfl, fun M hM => by simp at hM⟩
        | some q =>
          obtain ⟨kn, pts0⟩ := q
          rw [hrm] at HRD HE1
          simp only [RdEnd] at HRD HE1
          clear hrm
          go_wp2_with fail
          refine HRD.out.mono ?_
          rintro e W2 ⟨rfl, pts, tv, kes, kclk, rfl, hrow2, hkn2, hpr2, hpb2, htv2, hpl2, hkl2, hk2⟩
          have HD2 := Lib.hid (DiskAfter.mark18 HD7.out hk2 (fun k hk e => by have := HJF.out k (.inr (.inr (.inr hk))); omega) (fun k hk e => by omega))
          obtain ⟨hz7, -, -, h57, hK, hD⟩ := HP7.out
          have hWs := h57.size
          have hJ2 := HJ7.out.kept hk2 (fun k hk e => by have := HJF.out k hk; omega)
          have hR2 : MemR W2 ⟨km + 1, km, j, b, m, kes, kclk, es1, clk1, av, pv, tv, pts⟩ D1 J1 ⟨fl, kn, pts.map PtM.run, (recsOf J1.recs).last, false⟩ := by
            refine ⟨hJ2, ⟨hrow2, hkn2, hpr2, fun x hx => (hpb2 x hx).1, rfl, ⟨hpl2, fun x hx => (hpb2 x hx).2.2, by have := (recsOf_len J1.recs).2.2; show (recsOf J1.recs).last ≤ _; omega, by have := HH.out.2.2.2.2.2; show fl.size ≤ _; omega, hkl2⟩⟩, fun (e : km = m) => by have := HF3.out m (.inr (.inl rfl)); omega, fun x hx g e hF => ?_⟩
            have h8 := (hpb2 x hx).2.1 g e
            have h9 := HJF.out g hF
            omega
          have hP2 : ∀ k, MAd.P ⟨km + 1, km, j, b, m, kes, kclk, es1, clk1, av, pv, tv, pts⟩ k → w.heap.size ≤ k := by
            rintro k (e | ⟨x, hx, e⟩)
            · have := htv2 k e; omega
            · have := (hpb2 x hx).2.1 k e; omega
          have hF2 : ∀ k, MAd.F ⟨km + 1, km, j, b, m, kes, kclk, es1, clk1, av, pv, tv, pts⟩ k → diskF b m es1 k ∨ w.heap.size ≤ k := by
            rintro k (e | e | e | e | e | e)
            · have e' : k = km + 1 := e; exact .inr (by omega)
            · have e' : k = km := e; exact .inr (by omega)
            · have e' : k = j := e; exact .inr (by have := HNW.out.1; omega)
            · exact .inr (by have := HNW.out.2.1 k e; omega)
            · exact .inr (by have := HNW.out.2.2 k e; omega)
            · exact .inl e
          have hz2 : OwnZ (nb + 3) W2 nv (recsOf J1.recs).l := hz7.kept hk2 (fun g hg _ e => by omega)
          have hv2 := HV.out
          rw [hv2] at hz2
          have cv2 : W2.cell? ⟨km + 1 + 1, 0, none⟩ = some (.pointer (some ⟨km + 1, 0, none⟩)) := hk2.cell cv (by show ¬ (km + 1 + 1 = km + 1 ∨ km + 1 + 1 = km); omega)
          have cn2 : W2.cell? ⟨nb, 0, none⟩ = some nv := hk2.cell cn (by show ¬ (nb = km + 1 ∨ nb = km); omega)
          have hK2 := (hk2.block DD (Array.getElem?_eq_some_iff.1 hK).1 (by omega)).trans hK
          have HNA := Lib.hid (names_any HD2.out.disk)
          have HM2 := Lib.hid (And.intro hR2 (And.intro hP2 (And.intro hF2 (And.intro hz2 (And.intro hK2 hD)))))
          have HT2 : Hid (TabB B W2) := Lib.hid (HTW.out.kept hk2 (fun k e => by have := HH.out.2.2.2.1; omega))
          rw [hv2] at cn2
          have HS2b : Hid (W.heap.size ≤ W2.heap.size ∧ w6.heap.size ≤ W.heap.size) := Lib.hid ⟨hk2.size, hWs⟩
          clear hrow2 hkn2 hpr2 hpb2 htv2 hpl2 hkl2 hk2 hz7 h57 hK hD hWs hJ2 hR2 hP2 hF2 hz2 hv2 hK2 HRD cv cn cr hbmW hbvW
          go_wp2_with fail
          refine HNA.out.mono ?_
          rintro e W3 ⟨nmv, rfl, hnm, hk3, hnew⟩
          obtain ⟨nms, hnms⟩ : ∃ n, namesOf D1.files = n := ⟨_, rfl⟩
          have hnsz := namesOf_size HD2.out.disk.ok
          have hgall := goneK_all D1 fl (recsOf J1.recs).l
          rw [hnms] at hnm hnsz hgall
          obtain ⟨nl, hnl⟩ : ∃ n, nms.length = n := ⟨_, rfl⟩
          obtain ⟨na, nc, hnv⟩ : ∃ na nc, nmv = .slice na nl nc := by
            rcases hnm.2 with ⟨h1, h0⟩ | ⟨g, cap, cur, h1, _, _, hn, hm, _⟩
            · exact ⟨none, 0, by rw [h1, ← hnl, h0]⟩
            · exact ⟨_, cap, by rw [h1, hnl]⟩
          subst hnv
          have HNL := Lib.hid (And.intro hnl (And.intro hnsz hgall))
          have HNM := Lib.hid (And.intro hnm (And.intro hk3 hnew))
          have cv3 := hk3.cell cv2 (fun f => f)
          have cn3 := hk3.cell cn2 (fun f => f)
          have hnl2 : nl ≤ 256 := by have := hnsz.1; omega
          clear hnms hnl hnsz hgall hnm hk3 hnew cv2 cn2
          go_wp2_with fail
          go_loopg [13, 68] nl (fun g gv iv wr => ∃ (k gl : Nat) (ga : Option Addr) (gc : Nat), k + g = nl ∧ iv = .int .i64 k ∧ gv = .slice ga gl gc ∧ Hid ((goneK fl nms (recsOf J1.recs).l k).length = gl) ∧ Hid (OwnZ W3.heap.size wr (.slice ga gl gc) (goneK fl nms (recsOf J1.recs).l k)) ∧ Hid (Kept (fun _ => False) W3 wr))
          case atStart => exact ⟨0, 0, none, 0, by omega, rfl, rfl, Lib.hid (by simp [goneK]), Lib.hid (by simpa [goneK] using OwnZ.nil _ _), Lib.hid (Kept.refl _ _)⟩
          case round =>
            obtain ⟨k, gl, ga, gc, hkg, rfl, rfl, HGL, HGZ, HKr⟩ := hrel
            have x1 := HKr.out.cell cv3 (fun f => f)
            have x2 := HKr.out.cell cn3 (fun f => f)
            rcases Nat.eq_zero_or_pos gk with rfl | hpos
            · obtain rfl : nl = k := by omega
              obtain ⟨hnl, hnsz, hgall⟩ := HNL.out
              rw [hnl] at hgall
              have hgz := HGZ.out
              rw [hgall] at hgz
              have hgl := goneK_len fl nms (recsOf J1.recs).l nl
              have hgb := goneK_le fl nms (recsOf J1.recs).l nl
              rw [hgall] at hgl hgb
              obtain ⟨hR2, hP2, hF2, hz2, hK2, hD⟩ := HM2.out
              have hk3r : Kept (fun _ => False) W2 wr := HNM.out.2.1.trans HKr.out (fun _ _ f => f)
              have hR4 := hR2.keptN hk3r
              have hgz3 : ∀ g, (Value.slice ga gl gc).ownBlock = some g → W3.heap.size ≤ g := fun g e => (hgz.base e).1
              have hlt2 := hR2.lt
              have hs23 := HNM.out.2.1.size
              have hs2b := HS2b.out
              have hkwW := HD7.out.kept.size
              have hRM := mremove_any B W3.heap.size (.slice ga gl gc) (goneOf D1 fl (recsOf J1.recs).l) hR4.file hR4.jour.disk (fun hd => hR4.apart.1 (.inr (.inr (.inr hd)))) hgz (fun x hx => by have := hgb x hx; omega) (by have := hnsz.1; omega)
                (fun g e => by
                  have h1 := hgz3 g e
                  exact ⟨fun hd => by have := hlt2.1 g (.inr (.inr (.inr (.inr (.inr hd))))); omega, fun e2 => by have := hlt2.1 g (.inl e2); omega⟩)
                (HT2.out.keptN hk3r) (fun k hk => by
                  rcases hF2 k (.inr (.inr (.inr (.inr (.inr hk))))) with h1 | h1
                  · rcases HD2.out.foot k h1 with h2 | h2
                    · exact HH.out.2.2.1 k h2
                    · have := HH.out.2.2.2.1; omega
                  · have := HH.out.2.2.2.1; omega) (fun g e => by have := hgz3 g e; have := HH.out.2.2.2.1; omega) (by have := hk3r.size; have := HH.out.2.2.2.1; omega) (by have := HH.out.2.2.2.2.2; show fl.size ≤ _; omega) HDW.out
              have HRM := Lib.hid hRM
              have HS4 := Lib.hid (And.intro hR4 (And.intro hk3r (And.intro hgz3 (And.intro hlt2 (And.intro hs23 (And.intro hs2b hkwW))))))
              obtain ⟨⟨e5, D5⟩, hq5⟩ : ∃ q, removeM D1 fl (upL (goneOf D1 fl (recsOf J1.recs).l)) = q := ⟨_, rfl⟩
              rw [hq5] at HRM HE1
              simp only at HRM HE1
              clear hq5 hnl hnsz hgall hgz hgl hgb hR2 hP2 hF2 hz2 hK2 hD hk3r hR4 hgz3 hlt2 hs23 hs2b hkwW hRM
              go_wp2_with fail
              refine HRM.out.mono ?_
              rintro e W5 ⟨rfl, es5, clk5, hd5, hf5, hk5⟩
              obtain ⟨hR4, hk3r, hgz3, hlt2, hs23, hs2b, hkwW⟩ := HS4.out
              obtain ⟨hR2, hP2, hF2, hz2, hK2, hD⟩ := HM2.out
              have hK5 : W5.heap[DD]? = some (.deferred (some [])) := by
                have hDl := (Array.getElem?_eq_some_iff.1 hK2).1
                refine (hk5.block DD (Nat.lt_of_lt_of_le hDl hk3r.size) ?_).trans ((hk3r.block DD hDl (fun f => f)).trans hK2)
                rintro (e | e)
                · have := HJF.out DD (.inr (.inr (.inr e))); have := HS6.out; omega
                · have := hgz3 DD e; omega
              have HD5 : Hid (DiskAfter w b m es D5 W5 es5 clk5) := Lib.hid ⟨hd5, fun k hk => by
                rcases hf5 k hk with h1 | h1
                · exact HD2.out.foot k h1
                · have := hk3r.size; exact .inr (by omega), (HD2.out.kept.trans hk3r (fun _ _ f => f.elim)).trans hk5 (fun i hi e => by
                rcases e with e | e
                · rcases HD2.out.foot i e with h1 | h1
                  · exact h1
                  · omega
                · have := hgz3 i e; omega)⟩
              have hc5 : W5.cell? ⟨km + 1 + 1, 0, none⟩ = some (.pointer (some ⟨km + 1, 0, none⟩)) := hk5.cell x1 (by
                show ¬ (diskF b m es1 (km + 1 + 1) ∨ _)
                rintro (e | e)
                · have := HF3.out _ e; omega
                · have h8 := hgz3 (km + 1 + 1) e; have h6 := HS6.out; have h3 := HS3.out; omega)
              have HX5 := Lib.hid (And.intro hd5 (And.intro hf5 (And.intro hk5 hK5)))
              clear hd5 hf5 hk5 hK5 hR4 hk3r hgz3 hlt2 hs23 hs2b hkwW hR2 hP2 hF2 hz2 hK2 hD
              by_cases he5 : e5 = 0
              · have he5b : (e5 != 0) = false := by simp [he5]
                have HO2 : Hid (O = (0, D5, J1, some ⟨fl, kn, pts.map PtM.run, (recsOf J1.recs).last, false⟩)) := Lib.hid (by
                  have h1 := HE1.out
                  rw [if_neg (by simp [he5])] at h1
                  exact h1)
                clear he5
                go_wp2_with fail
                rw [HO2.out]
                obtain ⟨hd5, hf5, hk5, hK5⟩ := HX5.out
                obtain ⟨hR4, hk3r, hgz3, hlt2, hs23, hs2b, hkwW⟩ := HS4.out
                obtain ⟨hR2, hP2, hF2, hz2, hK2, hD⟩ := HM2.out
                refine leaves_taken18 [DD] _ (by simp) (fun D hD => by rw [List.mem_singleton.1 hD]; exact hK5) (fun W' hk => ?_)
                have hR5 := hR4.removed hd5 hf5 hk5 (fun i hi e => by
                  have h8 := hgz3 i e
                  rcases hi with hi | hi
                  · have := hlt2.1 i hi; omega
                  · have := hlt2.2 i hi; omega)
                have hDDw := (Array.getElem?_eq_some_iff.1 hK5).1
                have hR6 := hR5.kept hk (fun i hi e => by
                  have h8 : i = DD := List.mem_singleton.1 e
                  rw [h8] at hi
                  have hDl := (Array.getElem?_eq_some_iff.1 hK2).1
                  rcases hi with hi | hi
                  · rcases hi with e | e | e | e | e | e
                    · have e' : DD = km + 1 := e; have h6 := HS6.out; have h3 := HS3.out; omega
                    · have e' : DD = km := e; have h6 := HS6.out; have h3 := HS3.out; omega
                    · have h3 := HJF.out DD (.inl e); have h6 := HS6.out; omega
                    · have h3 := HJF.out DD (.inr (.inl e)); have h6 := HS6.out; omega
                    · have h3 := HJF.out DD (.inr (.inr (.inl e))); have h6 := HS6.out; omega
                    · rcases hf5 DD e with h1 | h1
                      · have h3 := HJF.out DD (.inr (.inr (.inr h1))); have h6 := HS6.out; omega
                      · have h3 := hk3r.size; omega
                  · obtain ⟨o, ho⟩ : ∃ o : Obj, W5.heap[DD]? = some o ∧ o.isCells = true := by
                      rcases hi with e | ⟨x, hx, e⟩
                      · obtain ⟨cur, hc⟩ := hR5.mem.types.1 DD e
                        exact ⟨_, hc, rfl⟩
                      · obtain ⟨cur, hc⟩ := hR5.mem.types.2 x hx DD e
                        exact ⟨_, hc, rfl⟩
                    rw [hK5] at ho
                    obtain ⟨h1, h2⟩ := ho
                    cases h1
                    cases h2)
                have hD6 := DiskAfter.mark18 HD5.out hk (fun i hi e => by
                  have h8 : i = DD := List.mem_singleton.1 e
                  rw [h8] at hi
                  have hDl := (Array.getElem?_eq_some_iff.1 hK2).1
                  rcases hf5 DD hi with h1 | h1
                  · have h3 := HJF.out DD (.inr (.inr (.inr h1))); have h6 := HS6.out; omega
                  · have h3 := hk3r.size; omega) (fun i hi e => by have h8 : i = DD := List.mem_singleton.1 e; have h6 := HS6.out; have h3 := HS3.out; omega)
                refine ⟨_, results_tmp2 rfl _ _ _, es5, clk5, hD6, fun hM => by simp at hM, fun M hM => ?_⟩
                obtain rfl : _ = M := Option.some.inj hM
                refine ⟨rfl, _, rfl, hR6, rfl, rfl, rfl, ?_, ?_⟩
                · rintro k (e | e | e | e | e | e)
                  · exact (hF2 k (.inl e)).elim (fun h1 => .inr (by have e' : k = km + 1 := e; have := HS3.out; omega)) .inr
                  · exact (hF2 k (.inr (.inl e))).elim (fun h1 => .inr (by have e' : k = km := e; have := HS3.out; omega)) .inr
                  · exact .inr (by have e' : k = j := e; have := HNW.out.1; have := HS3.out; omega)
                  · exact .inr (by have := HNW.out.2.1 k e; have := HS3.out; omega)
                  · exact .inr (by have := HNW.out.2.2 k e; have := HS3.out; omega)
                  · exact .inl e
                · exact fun k hk => hP2 k hk
              · have he5b : (e5 != 0) = true := by simp [he5]
                have HO2 : Hid (O = (e5, D5, J1, none)) := Lib.hid (by
                  have h1 := HE1.out
                  rw [if_pos he5] at h1
                  exact h1)
                clear he5
                go_wp2_with fail
                rw [HO2.out]
                obtain ⟨hd5, hf5, hk5, hK5⟩ := HX5.out
                obtain ⟨hR4, hk3r, hgz3, hlt2, hs23, hs2b, hkwW⟩ := HS4.out
                obtain ⟨hR2, hP2, hF2, hz2, hK2, hD⟩ := HM2.out
                refine leaves_taken18 [DD] _ (by simp) (fun D hD => by rw [List.mem_singleton.1 hD]; exact hK5) (fun W' hk => ?_)
                have hD6 := DiskAfter.mark18 HD5.out hk (fun i hi e => by
                  have h8 : i = DD := List.mem_singleton.1 e
                  rw [h8] at hi
                  have hDl := (Array.getElem?_eq_some_iff.1 hK2).1
                  rcases hf5 DD hi with h1 | h1
                  · have h3 := HJF.out DD (.inr (.inr (.inr h1))); have h6 := HS6.out; omega
                  · have h3 := hk3r.size; omega) (fun i hi e => by have h8 : i = DD := List.mem_singleton.1 e; have h6 := HS6.out; have h3 := HS3.out; omega)
                exact ⟨_, results_tmp2 rfl _ _ _, es5, clk5, hD6, fun _ => rfl, fun M hM => by simp at hM⟩
            · have hlt : k < nl := by omega
              obtain ⟨hnl, hnsz, hgall⟩ := HNL.out
              have hkl : k < nms.length := by rw [hnl]; exact hlt
              have hsuc := goneK_succ fl nms (recsOf J1.recs).l hkl
              have hsl : (strB nms[k]).size ≤ 1000 := by rw [strB_size]; have := hnsz.2 nms[k] (List.getElem_mem hkl); omega
              have hnmr : OwnS wr (.slice na nl nc) nms := rowKept18 HNM.out.1 HKr.out (fun _ _ f => f)
              obtain ⟨g, cur, rfl, hg2, hcur⟩ : ∃ g cur, na = some ⟨g, 0, none⟩ ∧ wr.heap[g]? = some (.cells cur 9 (0, 0)) ∧ cur[k]? = some (.string (strB nms[k])) := by
                rcases hnmr.2 with ⟨h1, h2⟩ | ⟨g, cap, cur, h1, hg1, hg2, -, -, -, ht⟩
                · omega
                · cases h1
                  refine ⟨g, cur, rfl, hg2, ?_⟩
                  have h3 : (nms.map encStr)[k]? = some (encStr nms[k]) := by rw [List.getElem?_map, List.getElem?_eq_getElem hkl]; rfl
                  rw [← ht, List.getElem?_take] at h3
                  split at h3
                  · rw [Array.getElem?_toList] at h3; exact h3
                  · cases h3
              have hc : wr.cell? ⟨g, k, none⟩ = some (.string (strB nms[k])) := by simp [World.cell?, hg2, hcur]
              have hk3r : Kept (fun _ => False) W2 wr := HNM.out.2.1.trans HKr.out (fun _ _ f => f)
              have hcf := hk3r.cell HM2.out.1.mem.fields.2.2.1 (fun f => f)
              have HNUM := Lib.hid (numbered_any B wr (km + 1) fl (strB nms[k]) hcf (by have := HH.out.2.2.2.2.2; omega) hsl (HT2.out.keptN hk3r))
              have hnle := numOf_le fl (strB nms[k])
              have HCT := Lib.hid (fun (W' : World) (hk : Kept (fun _ => False) wr W') => containsZ_any (nb + 3) W' va vc (recsOf J1.recs).l (numOf fl (strB nms[k])) ((HM2.out.2.2.2.1.kept hk3r (fun _ _ _ f => f)).kept hk (fun _ _ _ f => f)))
              generalize numOf fl (strB nms[k]) = x at *
              generalize strB nms[k] = s at *
              have HSC := Lib.hid hsuc
              clear hcf hk3r hnmr hg2 hcur hsuc hkl hnl hnsz hgall hsl
              go_wp2_with fail
              refine HNUM.out.mono ?_
              rintro e W5 ⟨rfl, hk5⟩
              have y2 := hk5.cell x2 (fun f => f)
              have HCT2 := Lib.hid (HCT.out W5 hk5)
              have HK5 := Lib.hid hk5
              clear hk5 HCT HNUM
              by_cases hx0 : x = 0
              · have hx0b : decide ((0 : Int) < (x : Int)) = false := by simp [hx0]
                have hx0c : decide ((x : Int) > (0 : Int)) = false := by simp [hx0]
                have hx0p : ¬ (0 : Int) < (x : Int) := by omega
                have hsame : Hid (goneK fl nms (recsOf J1.recs).l (k + 1) = goneK fl nms (recsOf J1.recs).l k) := Lib.hid (by rw [HSC.out, hx0]; simp)
                clear hx0
                go_wp2_with fail
                go_roundg (gk - 1)
                case measure => omega
                case rel => exact ⟨k + 1, gl, ga, gc, by omega, by go_num, rfl, Lib.hid (by rw [hsame.out]; exact HGL.out), Lib.hid (by rw [hsame.out]; exact HGZ.out.kept HK5.out (fun _ _ _ f => f)), Lib.hid (HKr.out.trans HK5.out (fun _ _ f => f))⟩
              · have hx0b : decide ((0 : Int) < (x : Int)) = true := by simp; omega
                have hx0c : decide ((x : Int) > (0 : Int)) = true := by simp; omega
                have hx0p : (0 : Int) < (x : Int) := by omega
                by_cases hmem : x ∈ (recsOf J1.recs).l
                · have hsame : Hid (goneK fl nms (recsOf J1.recs).l (k + 1) = goneK fl nms (recsOf J1.recs).l k) := Lib.hid (by rw [HSC.out]; simp [hmem])
                  rw [decide_eq_true hmem] at HCT2
                  clear hx0 hmem
                  go_wp2_with (first | (go_at_call 46; refine HCT2.out.mono ?_; rintro e w9 ⟨rfl, rfl⟩))
                  go_roundg (gk - 1)
                  case measure => omega
                  case rel => exact ⟨k + 1, gl, ga, gc, by omega, by go_num, rfl, Lib.hid (by rw [hsame.out]; exact HGL.out), Lib.hid (by rw [hsame.out]; exact HGZ.out.kept HK5.out (fun _ _ _ f => f)), Lib.hid (HKr.out.trans HK5.out (fun _ _ f => f))⟩
                · have hmore : Hid (goneK fl nms (recsOf J1.recs).l (k + 1) = goneK fl nms (recsOf J1.recs).l k ++ [x]) := Lib.hid (by rw [HSC.out]; simp [hmem]; omega)
                  rw [decide_eq_false hmem] at HCT2
                  clear hx0 hmem
                  obtain ⟨WB, hWB⟩ : ∃ X, W5.alloc (.cells #[.int .i64 (x : Int)] 3) = X := ⟨_, rfl⟩
                  have hkB : Kept (fun _ => False) W5 WB := by rw [← hWB]; exact (Kept.refl _ _).alloc _
                  have hB0 : WB.cell? ⟨W5.heap.size, 0, none⟩ = some (.int .i64 (x : Int)) := by rw [← hWB, World.cell?_alloc_new]; rfl
                  obtain ⟨v', w', hrun, ho', hg', -⟩ := ((HGZ.out.kept HK5.out (fun _ _ _ f => f)).kept hkB (fun _ _ _ f => f)).push (by have := HKr.out.size; have := HK5.out.size; have := hkB.size; omega) ⟨W5.heap.size, 0, none⟩ x hB0 (by rw [HGL.out]; have := goneK_len fl nms (recsOf J1.recs).l k; rw [HGL.out] at this; have := HNL.out.2.1.1; have := HNL.out.1; omega)
                  have hvb : ∀ g, (Value.slice ga gl gc).ownBlock = some g → W3.heap.size ≤ g := fun g e => (HGZ.out.base e).1
                  have hkp : Kept (fun k => (Value.slice ga gl gc).ownBlock = some k) WB w' := Kept.grown (F := fun k => (Value.slice ga gl gc).ownBlock = some k) (Kept.refl _ _) hg' (fun k hk _ => hk)
                  obtain ⟨oa, oc, hov, -, -⟩ := ho'.form
                  rw [List.length_append, HGL.out] at hov
                  simp only [List.length_cons, List.length_nil, Nat.zero_add] at hov
                  subst hov
                  have HFN : Hid (OwnZ W3.heap.size w' (.slice oa (gl + 1) oc) (goneK fl nms (recsOf J1.recs).l (k + 1)) ∧ Kept (fun _ => False) W3 w') := Lib.hid ⟨by rw [hmore.out]; exact ho', ((HKr.out.trans HK5.out (fun _ _ f => f)).trans hkB (fun _ _ f => f)).more hkp (fun i e => hvb i e)⟩
                  clear hkB ho' hg' hvb hkp
                  go_wp2_with (first | (go_at_call 46; refine HCT2.out.mono ?_; rintro e w9 ⟨rfl, rfl⟩) | (at_builtin; refine wpList_append_run rfl (.tmp 83) (.tmp 85) #[23, 23] rfl _ _ _ _ rfl rfl hrun ?_))
                  go_roundg (gk - 1)
                  case measure => omega
                  case rel => exact ⟨k + 1, gl + 1, oa, oc, by omega, by go_num, rfl, Lib.hid (by rw [hmore.out, List.length_append, HGL.out]; rfl), Lib.hid HFN.out.1, Lib.hid HFN.out.2⟩
  · obtain rfl := hne h0
    have h0b : (e1 != 0) = true := by simp [h0]
    have HO2 : Hid (O = (e1, D1, J1, none)) := Lib.hid (by rw [HO.out, if_pos h0])
    clear h0 hne heq hbm3 hbp3 hbv3
    go_wp2_with fail
    refine leaves_taken18 [] _ (by simp) (fun D hD => by simp at hD) (fun W' hk => ?_)
    rw [HO2.out]
    have hkf : Kept (fun _ => False) w3 W' := hk.mono (fun i _ hi => by simp at hi)
    exact ⟨_, results_tmp2 rfl _ _ _, es1, clk1, HA3.out.after hkf, fun _ => rfl, fun M hM => by simp at hM⟩
end Go.Proofs.YtemilbemdlpkaaaGreatDoor
