/- slices.Sort of ids that are owned. -/
import Derived.Sort.OwnSortedInts
import Derived.Test.YtemilbemdlpkaaaGreatDoorPao
import Derived.Test.YtemilbemdlpkaaaGreatDoorPad
import Derived.Test.YtemilbemdlpkaaaGreatDoorPai
import Derived.OwnWalkIn
import Derived.TacticsInMore
import Derived.Test.YtemilbemdlpkaaaGreatDoorPaf
import Derived.Test.YtemilbemdlpkaaaGreatDoorPac
import Derived.Test.YtemilbemdlpkaaaGreatDoorPah
namespace Go.Proofs.YtemilbemdlpkaaaGreatDoor
open Go.RowKit Go.Sort Go.ChangeShapes Go.WideShapes

section
variable {α : Type} [Inhabited α] {enc : α → Value}
theorem holds_of_blockE {w : World} {g : Nat} {cur : Array Value} {e : TypeId} {ss : List α} (hb : w.heap[g]? = some (.cells cur e (0, 0))) (ht : cur.toList.take ss.length = ss.map enc) : Holds enc w g 0 ss.toArray := by
  intro j hj
  have hj' : j < ss.length := by simpa using hj
  refine ⟨?_, by simp [World.frozen?, hb]⟩
  have h1 : (cur.toList.take ss.length)[j]? = (ss.map enc)[j]? := by rw [ht]
  rw [List.getElem?_take_of_lt hj'] at h1
  simp only [World.cell?, hb, Nat.zero_add]
  simp only [Option.isSome_none, Bool.false_eq_true, if_false]
  rw [← Array.getElem?_toList, h1]
  simp [hj']
theorem grownBy_sortedE {w : World} {g n : Nat} {os : Array Obj} (d : Array α) : w.grownBy (grow (putRow enc (Sort.ahead w n) g 0 d) os) (some g) := by
  refine ⟨rfl, rfl, rfl, by simp, fun k hk hne => ?_⟩
  rw [heap_grow_old _ _ (by simpa using hk)]
  have : g ≠ k := fun e => hne (by rw [e])
  simp [putRow, mapBlock, Sort.ahead, Array.getElem?_modify, this]
theorem heap_sortedE {w : World} {g n : Nat} {os : Array Obj} {cur : Array Value} {e : TypeId} {fr : Nat × Nat} (d : Array α) (hb : w.heap[g]? = some (.cells cur e fr)) :
    (grow (putRow enc (Sort.ahead w n) g 0 d) os).heap[g]? = some (.cells (putCells enc 0 d cur) e fr) := by
  have hg : g < w.heap.size := (Array.getElem?_eq_some_iff.1 hb).1
  rw [heap_grow_old _ _ (by simpa using hg)]
  simp [putRow, mapBlock, Sort.ahead, Array.getElem?_modify, hb, onCells]
theorem take_putCellsE (cur : Array Value) (ts : List α) (h : ts.length ≤ cur.size) : (putCells enc 0 ts.toArray cur).toList.take ts.length = ts.map enc := by
  apply List.ext_getElem?
  intro j
  by_cases hj : j < ts.length
  · rw [List.getElem?_take_of_lt hj, Array.getElem?_toList]
    simp [putCells, hj, show j < cur.size by omega]
  · rw [List.getElem?_take_eq_none (by omega), List.getElem?_eq_none (by simp; omega)]
theorem ownsRow_sortedE {w : World} {base g cap n : Nat} {e : TypeId} {os : Array Obj} {cur : Array Value} {ss ts : List α} (hl : ts.length = ss.length) (hbase : base ≤ g) (hb : w.heap[g]? = some (.cells cur e (0, 0)))
    (h1 : ss.length ≤ cap) (h2 : cap ≤ maxLen) (h3 : cur.size = cap * 1) :
    (grow (putRow enc (Sort.ahead w n) g 0 ts.toArray) os).ownsRow base e 1 (.slice (some ⟨g, 0, none⟩) ss.length cap) ss.length (ts.map enc) :=
  ⟨by simp [hl], .inr ⟨g, cap, _, rfl, hbase, heap_sortedE _ hb, h1, h2, by simp [putCells, h3], by rw [Nat.mul_one, ← hl]; exact take_putCellsE cur ts (by omega)⟩⟩
end

def upL (l : List Nat) : List Nat := l.mergeSort fun x y => decide (x ≤ y)
theorem upL_length (l : List Nat) : (upL l).length = l.length := List.length_mergeSort _
theorem upL_ints (l : List Nat) : (l.map fun x : Nat => (x : Int)).mergeSort (fun x y => decide (x ≤ y)) = (upL l).map fun x : Nat => (x : Int) := by
  unfold upL
  rw [List.map_mergeSort (s := fun x y : Int => decide (x ≤ y))]
  intro a _ b _
  simp
/-- slices.Sort of ids that a slice owns: they rise. -/
theorem sortU_any (n0 : Nat) (w : World) (T : TypeId) (v : Value) (l : List Nat) (h : w.ownsRow n0 T 1 v l.length (l.map fun x : Nat => Value.int .u64 (x : Int))) (hl : l.length ≤ 1000000) :
    Calls Tryz.prog 68 #[v] w fun e w' => e = .returned (.tuple #[]) ∧ w'.ownsRow n0 T 1 v l.length ((upL l).map fun x : Nat => Value.int .u64 (x : Int)) ∧ Kept (fun k => v.ownBlock = some k) w w' := by
  rcases h.2 with ⟨rfl, h0⟩ | ⟨g, cap, cur, rfl, hb, hg, hn, hm, hs, ht⟩
  · refine (u_Sort_int_nil _ _ w).mono ?_
    rintro e w' ⟨rfl, rfl⟩
    obtain rfl : l = [] := List.length_eq_zero_iff.1 h0
    exact ⟨rfl, ⟨by simp [upL], .inl ⟨rfl, by simp⟩⟩, Kept.refl _ _⟩
  · have e1 : (l.map fun x : Nat => (x : Int)).length = l.length := List.length_map _
    have ht' : cur.toList.take (l.map fun x : Nat => (x : Int)).length = (l.map fun x : Nat => (x : Int)).map (Value.int .u64) := by
      rw [e1, List.map_map]; rw [Nat.mul_one] at ht; exact ht
    have H := u_slices_Sort_int g 0 cap (l.map fun x : Nat => (x : Int)) w (holds_of_blockE hg ht') (Array.getElem?_eq_some_iff.1 hg).1 (by omega)
    rw [upL_ints, e1] at H
    refine H.mono ?_
    rintro e w' ⟨rfl, n, os, rfl⟩
    refine ⟨rfl, ?_, Kept.grown (F := fun k => (Value.slice (some ⟨g, 0, none⟩) l.length cap).ownBlock = some k) (Kept.refl _ _) (grownBy_sortedE _) (fun k hk _ => by cases hk; rfl)⟩
    have h9 := ownsRow_sortedE (enc := Value.int .u64) (n := n) (os := os) (ss := l.map fun x : Nat => (x : Int)) (ts := (upL l).map fun x : Nat => (x : Int)) (by simp [upL_length]) hb hg (by rw [e1]; exact hn) hm hs
    rw [e1, List.map_map] at h9
    exact h9
end Go.Proofs.YtemilbemdlpkaaaGreatDoor

/- memo: the plain model: pairs by rising From; a record. -/
namespace Go.Proofs.YtemilbemdlpkaaaGreatDoor
open Go.RowKit Go.ChangeMaps Go.MapKept
set_option linter.unusedSimpArgs false

/-! ### pairs -/
def pairsL (l : List (Nat × Nat)) : List (Nat × Nat) := (upL (l.map (·.1))).map fun f => (f, (getA f l).getD 0)
theorem pairsL_length (l : List (Nat × Nat)) : (pairsL l).length = l.length := by simp [pairsL, upL_length]
theorem upL_perm {l l' : List Nat} (h : l.Perm l') : upL l = upL l' := by
  refine List.Perm.eq_of_pairwise (le := fun a b => a ≤ b) (fun a b _ _ h1 h2 => by omega) ?_ ?_ (((List.mergeSort_perm _ _).trans h).trans (List.mergeSort_perm _ _).symm)
  · exact (List.pairwise_mergeSort (le := fun x y : Nat => decide (x ≤ y)) (by intro a b c h1 h2; simp at *; omega) (by intro a b; simp; omega) l).imp (fun h => by simpa using h)
  · exact (List.pairwise_mergeSort (le := fun x y : Nat => decide (x ≤ y)) (by intro a b c h1 h2; simp at *; omega) (by intro a b; simp; omega) l').imp (fun h => by simpa using h)
theorem pairsL_perm {l l' : List (Nat × Nat)} (hn : NodupA l) (hp : l.Perm l') : pairsL l = pairsL l' := by
  unfold pairsL
  rw [upL_perm (hp.map (·.1))]
  exact List.map_congr_left fun f _ => by rw [get_of_perm hn hp]

/-! ### a record -/
structure RecS where
  l : List Nat
  last : Nat
  right : Bool
def RecS.step (s : RecS) (x : Nat) : RecS :=
  ⟨if s.l.length < 4 ∧ x ≤ 2147483648 then s.l ++ [x] else s.l,
   if x ≤ 2147483648 then max s.last x else s.last,
   (if x = 0 ∨ 2147483648 < x ∨ s.l.length = 4 then false else s.right) && (if x ≤ 2147483648 then !decide (x ∈ s.l) else true)⟩
def recGo18 : Nat → Nat → RM → RecS → RecS × RM
  | 0, _, r, s => (s, r)
  | f + 1, n, r, s => if n = 0 ∨ r.err ≠ 0 then (s, r) else if r.uint.2.err ≠ 0 then (s, r.uint.2) else recGo18 f (n - 1) r.uint.2 (s.step r.uint.1)
def recOf (last : Nat) (b : List UInt8) : RecS :=
  ⟨(recGo18 b.length (RM.mk b 0).uint.1 (RM.mk b 0).uint.2 ⟨[], last, true⟩).1.l, (recGo18 b.length (RM.mk b 0).uint.1 (RM.mk b 0).uint.2 ⟨[], last, true⟩).1.last,
   (recGo18 b.length (RM.mk b 0).uint.1 (RM.mk b 0).uint.2 ⟨[], last, true⟩).1.right && (recGo18 b.length (RM.mk b 0).uint.1 (RM.mk b 0).uint.2 ⟨[], last, true⟩).2.stop == 0⟩
/-- All records, the last of which counts. -/
def recsOf (rs : List (List UInt8)) : RecS := rs.foldl (fun s b => recOf s.last b) ⟨[], 0, true⟩
end Go.Proofs.YtemilbemdlpkaaaGreatDoor

/- slices.Sorted(maps.Keys(..)) over a disk's files. -/
namespace Go.Proofs.YtemilbemdlpkaaaGreatDoor
open Go.RowKit Go.Maps Go.Sort Go.Shelf

theorem sorts_files (m : Nat) : AnyZ.SortsIn Tryz.prog Tryz.sortedF_ren Fence.wide m :=
  ⟨fun blk off cap ss W hH hblk hsz => callsIn_wide.2 (AnyM.slices_Sort_string Tryz.sortF blk off cap ss W hH hblk hsz),
   fun p cap W => callsIn_wide.2 (AnyM.slices_Sort_string_none Tryz.sortF p cap W)⟩

theorem keys_files (mb : Option Nat) (W : World) : CallsIn Fence.wide 5 Tryz.prog 66 #[.map mb] W fun e w' => e = .returned (.func (.func 110) #[] #[.pointer (some ⟨W.heap.size, 0, none⟩)]) ∧ w' = W.alloc (.cells #[.map mb] 104) :=
  AnyZ.keys_in Tryz.keysF Fence.wide 5 trivial rfl mb W

set_option maxHeartbeats 1000000 in
theorem sorted_files {H : Type} (b nn : Nat) (D0 : DataW H) (R : Value → Option (DataW H × List MemPlace)) (w : World) (hown : w.ownsMap Tryz.prog 9 R b nn D0) (hmax : Maps.size D0 ≤ maxLen) (hbytes : Maps.size D0 * 16 ≤ 140737488355328) :
    CallsIn Fence.wide 5 Tryz.prog 65 #[.func (.func 110) #[] #[.pointer (some ⟨w.heap.size, 0, none⟩)]] (w.alloc (.cells #[.map (some b)] 104)) fun e w' => ∃ (v : Value) (ss : List (List UInt8)), e = .returned v ∧ ss.Perm (strKeys D0) ∧
      w'.ownsRow (w.alloc (.cells #[.map (some b)] 104)).heap.size 9 1 v ss.length ((ss.mergeSort (fun x y => decide (x ≤ y))).map encStr) ∧ (v = .slice none 0 0 ↔ ss = []) ∧ Below (w.alloc (.cells #[.map (some b)] 104)).heap.size (w.alloc (.cells #[.map (some b)] 104)) w' := by
  have hbl := hown.lt
  have hseq : SeqGives Fence.wide 2 Tryz.prog 110 #[.pointer (some ⟨w.heap.size, 0, none⟩)] encStr (fun ss => ss.Perm (strKeys D0)) (Maps.size D0) (w.alloc (.cells #[.map (some b)] 104)) :=
    AnyZ.keys_gives (ρ := Tryz.keysF_ren) { Tryz.keysF with } Fence.wide _ trivial rfl (by omega) w.heap.size b nn D0 _ (by simp) (by simp) (by
      obtain ⟨es, clock, hb, Ft, hs, hD⟩ := hown
      exact ⟨es, clock, (Below.heap_alloc _ _ b hbl).trans hb, Ft, hs, hD⟩)
  exact AnyZ.sorted_in Tryz.sortedF Fence.wide 5 trivial trivial trivial trivial rfl (by omega) (sorts_files _) (enters_of Tryz.func109 (by kernel_rfl) rfl) 110 #[.pointer (some ⟨w.heap.size, 0, none⟩)] trivial (enters_of Tryz.func110 (by kernel_rfl) rfl) _ _ hmax hbytes _ hseq

theorem sort_perm {l l' : List (List UInt8)} (h : l.Perm l') : l.mergeSort (fun x y => decide (x ≤ y)) = l'.mergeSort (fun x y => decide (x ≤ y)) := by
  have hs : ∀ m : List (List UInt8), List.Pairwise (fun a b => decide (a ≤ b) = true) (m.mergeSort (fun x y => decide (x ≤ y))) := fun m =>
    List.pairwise_mergeSort (fun a b c h1 h2 => by simp only [decide_eq_true_eq] at *; exact List.le_trans h1 h2) (fun a b => by simp only [Bool.or_eq_true, decide_eq_true_eq]; exact List.le_total a b) m
  refine List.Perm.eq_of_pairwise (le := fun a b => decide (a ≤ b) = true) (fun a b _ _ h1 h2 => ?_) (hs l) (hs l') (((List.mergeSort_perm l _).trans h).trans (List.mergeSort_perm l' _).symm)
  simp only [decide_eq_true_eq] at h1 h2
  exact List.le_antisymm h1 h2

/-- The keys of a list of pairs, as rows of bytes, rising. -/
def namesOf {β : Type} (l : List (ByteArray × β)) : List (List UInt8) := (l.map (·.1.data.toList)).mergeSort (fun x y => decide (x ≤ y))

/-- A slice of strings of the call's own. -/
def OwnS (w : World) (v : Value) (xs : List (List UInt8)) : Prop := w.ownsRow 0 9 1 v xs.length (xs.map encStr)

theorem keys_perm {w : World} {b m : Nat} {es : Array MapEntry} {clock : Nat} {D : DM} (h : DiskAt w b m es clock D) :
    ∃ D0 : DataW Unit, w.ownsMap Tryz.prog 9 (fun _ => some (.nil, [])) m es.size D0 ∧ Maps.size D0 = D.files.length ∧ (strKeys D0).Perm (D.files.map (·.1.data.toList)) := by
  have hU : ∀ e ∈ es.toList, ∃ p ∈ D.files, e.key = .string p.1 := fun e he => by
    obtain ⟨p, hp, hk, _⟩ := h.rel.mem e he
    exact ⟨p, hp, hk⟩
  have hrd : ∀ e ∈ es.toList, WideElems.rd (H := Unit) Tryz.prog 9 (fun _ => some (.nil, [])) e = some (.string (match e.key with | .string s => s.data.toList | _ => []), .nil) := fun e he => by
    obtain ⟨p, hp, hk⟩ := hU e he
    have hl : p.1.size ≤ maxLen := by
      have := (h.ok.names p hp).1
      unfold maxLen
      simp [mayB] at this
      omega
    have hkey : keyOf Tryz.prog 9 e.key = some (.string p.1.data.toList) := by
      rw [hk]
      simp [keyOf, mapKey, Tryz.underlying9, hl]
    simp only [WideElems.rd, hkey, Option.bind_some, Option.map_some]
    rw [hk]
  have hlen : es.toList.length = D.files.length := h.rel.length
  have hcnt := h.ok.count
  refine ⟨_, ⟨es, clock, h.map, ⟨by rw [← Array.length_toList, hlen]; unfold maxLen; omega, h.stamped, fun e he => ⟨_, hrd e he⟩⟩, Nat.le_refl _, rfl⟩, ?_, ?_⟩
  · rw [Maps.size_eq, length_sorted, List.length_map, hlen]
  · show ((((es.toList.map _).foldr DataW.insert [])).map fun p => strOf p.1).Perm _
    refine (List.Perm.map _ (WideShapes.sorted_perm _)).trans ?_
    rw [List.map_map]
    have e1 : es.toList.map ((fun p => strOf p.1) ∘ WideElems.rg (H := Unit) Tryz.prog 9 (fun _ => some (.nil, []))) = D.files.map (·.1.data.toList) := by
      have : ∀ (l : List MapEntry) (m : List (ByteArray × List UInt8)) (R : Value → List UInt8 → Prop), RelM Value.string R l m → (∀ e ∈ l, e ∈ es.toList) → l.map ((fun p => strOf p.1) ∘ WideElems.rg (H := Unit) Tryz.prog 9 (fun _ => some (.nil, []))) = m.map (·.1.data.toList) := by
        intro l
        induction l with
        | nil => intro m R hr _; cases m with
          | nil => rfl
          | cons _ _ => exact hr.elim
        | cons e l ih =>
          intro m R hr hmem
          cases m with
          | nil => exact hr.elim
          | cons p m =>
            simp only [List.map_cons, Function.comp]
            rw [WideElems.rg_of (hrd e (hmem e (by simp))), hr.1.1]
            congr 1
            exact ih m R hr.2 (fun x hx => hmem x (by simp [hx]))
      exact this es.toList D.files _ h.rel (fun e he => he)
    rw [e1]

set_option maxHeartbeats 400000 in
theorem names_any {w : World} {b m : Nat} {es : Array MapEntry} {clock : Nat} {D : DM} (h : DiskAt w b m es clock D) : Calls Tryz.prog 24 #[.pointer (some ⟨b, 0, none⟩)] w fun e w' =>
    ∃ v, e = .returned v ∧ OwnS w' v (namesOf D.files) ∧ Kept (fun _ => False) w w' ∧ (∀ g, v.ownBlock = some g → w.heap.size ≤ g) := by
  obtain ⟨D0, hown, hsz, hperm⟩ := keys_perm h
  have hc := h.ok.count
  have c0 := h.c0
  have hfK : Fence.wide.fn 66 := trivial
  have hfS : Fence.wide.fn 65 := trivial
  refine (callsIn_wide (n := 6)).1 ?_
  refine callsIn_of_wp Tryz.func24 rfl trivial ?_ rfl
  simp only [Tryz.ntmps24, List.size_toArray, List.length_cons, List.length_nil, Nat.reduceAdd, Nat.reduceSub, Array.replicate_succ, Array.replicate_zero, List.push_toArray, List.append_toArray, List.nil_append, List.cons_append]
  gi_wp2_with (first
    | (gi_at_call 66; refine (keys_files _ _).mono ?_; rintro e w' ⟨rfl, rfl⟩)
    | (gi_at_call 65; refine (sorted_files m es.size D0 _ w hown (by unfold maxLen; omega) (by omega)).mono ?_; rintro e w' ⟨v, ss, rfl, hS, hrow, hnil, hb⟩))
  go_ret
  have hsort : ss.mergeSort (fun x y => decide (x ≤ y)) = namesOf D.files := sort_perm (hS.trans hperm)
  have hlen : ss.length = (namesOf D.files).length := by rw [← hsort, List.length_mergeSort]
  have hk : Kept (fun _ => False) w (w.alloc (.cells #[.map (some m)] 104)) := (Kept.refl _ w).alloc _
  refine ⟨v, rfl, ?_, hk.trans (Kept.of_below (Nat.le_refl _) hb) (fun _ _ h => h), fun g hg => ?_⟩
  · unfold OwnS
    rw [hsort, hlen] at hrow
    exact ownsRow_base_a hrow (Nat.zero_le _)
  · have := (World.ownsRow.lt hrow g hg).1
    simp at this; omega
end Go.Proofs.YtemilbemdlpkaaaGreatDoor

/- octet: Text and Err, whatever is left. -/
namespace Go.Proofs.YtemilbemdlpkaaaGreatDoor
open Go.RowKit Go.ChangeMaps Go.MapKept
set_option linter.unusedSimpArgs false

theorem errOf_any {w : World} {B N : Nat} {r : RM} (h : RdrAt w B N r) : Calls Tryz.prog 86 #[.pointer (some ⟨B, 0, none⟩)] w fun e w' => e = .returned (.int .i64 r.err) ∧ w = w' := by
  obtain ⟨a, c, c0, c1, c2, -, hB, -, -, -⟩ := h.cells
  go_enter Tryz.func86, Tryz.ntmps86
  go_wp2
  go_ret
  exact ⟨rfl, rfl⟩
set_option maxRecDepth 100000 in
theorem textOf_any {w : World} {B N : Nat} {r : RM} (h : RdrAt w B N r) (most : Nat) (hm : most ≤ 1000000) : Calls Tryz.prog 84 #[.pointer (some ⟨B, 0, none⟩), .int .i64 most] w fun e w' => e = .returned (.string (r.text most).1) ∧ RdrAt w' B N (r.text most).2 ∧ Kept (· = B) w w' := by
  have HR := Lib.hid (ready_any h)
  unfold RM.text
  by_cases he : r.err = 0
  · rw [if_pos he]
    have he' : (r.err == 0) = true := by simp [he]
    obtain ⟨a, c, c0, c1, c2, -, hB, -, -, -⟩ := h.cells
    have hcm : r.bs.length ≤ maxLen := by obtain ⟨_, _, e, h1, h2, -⟩ := id hB; exact Nat.le_trans h1 h2
    have hnum := number_any w a c r.bs hB
    have hle := (numFrom_le 0 0 r.bs).1
    rw [show numFrom 0 0 r.bs = numB r.bs from rfl, Nat.zero_add] at hle
    obtain ⟨⟨x, n, e⟩, hq⟩ : ∃ q, numB r.bs = q := ⟨_, rfl⟩
    rw [hq] at hnum hle ⊢
    simp only at hnum hle ⊢
    have HN := Lib.hid hnum
    have HF := Lib.hid (refuse_any h)
    have hL : IntKind.u64.wrap ((most : Nat) : Int) = (most : Int) := by rw [IntKind.wrap_u64]; omega
    clear hq hB hnum he
    by_cases h0 : e = 0
    · subst h0
      rw [if_pos rfl]
      by_cases h1 : most < x
      · rw [if_pos h1]
        have h1' : (most : Int) < (x : Int) := by omega
        clear h
        go_enter Tryz.func84, Tryz.ntmps84
        go_wp2_with (first | (go_at_call 120; refine HR.out.mono ?_; rintro e' w' ⟨rfl, rfl⟩) | (go_at_call 122; refine HN.out.mono ?_; rintro e' w' ⟨rfl, rfl⟩) | (go_at_call 121; refine (HF.out _).mono ?_; rintro e' w1 ⟨rfl, hr', hk'⟩))
        go_ret
        exact ⟨rfl, hr', hk'⟩
      · rw [if_neg h1]
        obtain ⟨d, hd⟩ : ∃ d, r.bs.length - n = d := ⟨_, rfl⟩
        rw [hd]
        have h1' : ¬ (most : Int) < (x : Int) := by omega
        have hL2 : IntKind.u64.wrap (wrap64 ((r.bs.length : Int) - (n : Int))) = (d : Int) := by
          unfold maxLen at hcm
          rw [IntKind.wrap_u64]; unfold wrap64; omega
        by_cases h2 : d < x
        · rw [if_pos h2]
          have h2' : (d : Int) < (x : Int) := by omega
          clear h hd
          go_enter Tryz.func84, Tryz.ntmps84
          go_wp2_with (first | (go_at_call 120; refine HR.out.mono ?_; rintro e' w' ⟨rfl, rfl⟩) | (go_at_call 122; refine HN.out.mono ?_; rintro e' w' ⟨rfl, rfl⟩) | (go_at_call 121; refine (HF.out _).mono ?_; rintro e' w1 ⟨rfl, hr', hk'⟩))
          go_ret
          exact ⟨rfl, hr', hk'⟩
        · rw [if_neg h2]
          have h2' : ¬ (d : Int) < (x : Int) := by omega
          have HT := Lib.hid (take_any h n hle)
          have HX : Hid (x ≤ ({ r with bs := r.bs.drop n } : RM).bs.length) := Lib.hid (by simp only [List.length_drop]; omega)
          clear h hd
          go_enter Tryz.func84, Tryz.ntmps84
          go_wp2_with (first | (go_at_call 120; refine HR.out.mono ?_; rintro e w' ⟨rfl, rfl⟩) | (go_at_call 122; refine HN.out.mono ?_; rintro e w' ⟨rfl, rfl⟩) | (go_at_call 123; refine (take_any hr' x HX.out).mono ?_; rintro e w2 ⟨a2, rfl, hT2, hr2, hk2⟩; have hcv := conv_any hT2) | (go_at_call 123; refine HT.out.mono ?_; rintro e w1 ⟨a1, rfl, hT, hr', hk'⟩))
          go_ret
          exact ⟨rfl, hr2, hk'.trans hk2 (fun _ _ h => h)⟩
    · rw [if_neg h0]
      have h0' : (e != 0) = true := by simp [h0]
      clear h
      go_enter Tryz.func84, Tryz.ntmps84
      go_wp2_with (first | (go_at_call 120; refine HR.out.mono ?_; rintro e' w' ⟨rfl, rfl⟩) | (go_at_call 122; refine HN.out.mono ?_; rintro e' w' ⟨rfl, rfl⟩) | (go_at_call 121; refine (HF.out _).mono ?_; rintro e' w1 ⟨rfl, hr', hk'⟩))
      go_ret
      exact ⟨rfl, hr', hk'⟩
  · rw [if_neg he]
    have he' : (r.err == 0) = false := by simp [he]
    go_enter Tryz.func84, Tryz.ntmps84
    go_wp2_with (go_at_call 120; refine HR.out.mono ?_; rintro e w' ⟨rfl, rfl⟩)
    go_ret
    exact ⟨rfl, h, Kept.refl _ _⟩
end Go.Proofs.YtemilbemdlpkaaaGreatDoor
