/- slices.Sorted(maps.Keys(..)) over a disk's files. -/
import Derived.Test.YtjnhkepgoghogaaDoorShelf
import Derived.Test.YtjnhkepgoghogaaDoorDiskM
import Derived.OwnWalkIn
import Derived.TacticsInMore
namespace Go.Proofs.YtjnhkepgoghogaaDoor
open Go.RowKit Go.Maps Go.Sort Go.Shelf

theorem sorts_files (m : Nat) : AnyZ.SortsIn Tryd.prog Tryd.sortedF_ren Fence.wide m :=
  ⟨fun blk off cap ss W hH hblk hsz => callsIn_wide.2 (AnyM.slices_Sort_string Tryd.sortF blk off cap ss W hH hblk hsz),
   fun p cap W => callsIn_wide.2 (AnyM.slices_Sort_string_none Tryd.sortF p cap W)⟩

theorem keys_files (mb : Option Nat) (W : World) : CallsIn Fence.wide 5 Tryd.prog 62 #[.map mb] W fun e w' => e = .returned (.func (.func 91) #[] #[.pointer (some ⟨W.heap.size, 0, none⟩)]) ∧ w' = W.alloc (.cells #[.map mb] 68) :=
  AnyZ.keys_in Tryd.keysF Fence.wide 5 trivial rfl mb W

set_option maxHeartbeats 1000000 in
theorem sorted_files {H : Type} (b nn : Nat) (D0 : DataW H) (R : Value → Option (DataW H × List MemPlace)) (w : World) (hown : w.ownsMap Tryd.prog 9 R b nn D0) (hmax : Maps.size D0 ≤ maxLen) (hbytes : Maps.size D0 * 16 ≤ 140737488355328) :
    CallsIn Fence.wide 5 Tryd.prog 55 #[.func (.func 91) #[] #[.pointer (some ⟨w.heap.size, 0, none⟩)]] (w.alloc (.cells #[.map (some b)] 68)) fun e w' => ∃ (v : Value) (ss : List (List UInt8)), e = .returned v ∧ ss.Perm (strKeys D0) ∧
      w'.ownsRow (w.alloc (.cells #[.map (some b)] 68)).heap.size 9 1 v ss.length ((ss.mergeSort (fun x y => decide (x ≤ y))).map encStr) ∧ (v = .slice none 0 0 ↔ ss = []) ∧ Below (w.alloc (.cells #[.map (some b)] 68)).heap.size (w.alloc (.cells #[.map (some b)] 68)) w' := by
  have hbl := hown.lt
  have hseq : SeqGives Fence.wide 2 Tryd.prog 91 #[.pointer (some ⟨w.heap.size, 0, none⟩)] encStr (fun ss => ss.Perm (strKeys D0)) (Maps.size D0) (w.alloc (.cells #[.map (some b)] 68)) :=
    AnyZ.keys_gives (ρ := Tryd.keysF_ren) { Tryd.keysF with } Fence.wide _ trivial rfl (by omega) w.heap.size b nn D0 _ (by simp) (by simp) (by
      obtain ⟨es, clock, hb, Ft, hs, hD⟩ := hown
      exact ⟨es, clock, (Below.heap_alloc _ _ b hbl).trans hb, Ft, hs, hD⟩)
  exact AnyZ.sorted_in Tryd.sortedF Fence.wide 5 trivial trivial trivial trivial rfl (by omega) (sorts_files _) (enters_of Tryd.func88 (by kernel_rfl) rfl) 91 #[.pointer (some ⟨w.heap.size, 0, none⟩)] trivial (enters_of Tryd.func91 (by kernel_rfl) rfl) _ _ hmax hbytes _ hseq

theorem sort_perm {l l' : List (List UInt8)} (h : l.Perm l') : l.mergeSort (fun x y => decide (x ≤ y)) = l'.mergeSort (fun x y => decide (x ≤ y)) := by
  have hs : ∀ m : List (List UInt8), List.Pairwise (fun a b => decide (a ≤ b) = true) (m.mergeSort (fun x y => decide (x ≤ y))) := fun m =>
    List.pairwise_mergeSort (fun a b c h1 h2 => by simp only [decide_eq_true_eq] at *; exact List.le_trans h1 h2) (fun a b => by simp only [Bool.or_eq_true, decide_eq_true_eq]; exact List.le_total a b) m
  refine List.Perm.eq_of_pairwise (le := fun a b => decide (a ≤ b) = true) (fun a b _ _ h1 h2 => ?_) (hs l) (hs l') (((List.mergeSort_perm l _).trans h).trans (List.mergeSort_perm l' _).symm)
  simp only [decide_eq_true_eq] at h1 h2
  exact List.le_antisymm h1 h2

/-- The keys of a list of pairs, as rows of bytes, rising. -/
def namesOf {β : Type} (l : List (ByteArray × β)) : List (List UInt8) := (l.map (·.1.data.toList)).mergeSort (fun x y => decide (x ≤ y))

/-- A slice of strings of the call's own. -/
def OwnS (w : World) (v : Value) (xs : List (List UInt8)) : Prop := w.ownsRow 0 9 1 v xs.length (xs.map encStr)

theorem keys_perm {w : World} {b m : Nat} {es : Array MapEntry} {clock : Nat} {D : DM} (h : DiskAt w b m es clock D) :
    ∃ D0 : DataW Unit, w.ownsMap Tryd.prog 9 (fun _ => some (.nil, [])) m es.size D0 ∧ Maps.size D0 = D.files.length ∧ (strKeys D0).Perm (D.files.map (·.1.data.toList)) := by
  have hU : ∀ e ∈ es.toList, ∃ p ∈ D.files, e.key = .string p.1 := fun e he => by
    obtain ⟨p, hp, hk, _⟩ := h.rel.mem e he
    exact ⟨p, hp, hk⟩
  have hrd : ∀ e ∈ es.toList, WideElems.rd (H := Unit) Tryd.prog 9 (fun _ => some (.nil, [])) e = some (.string (match e.key with | .string s => s.data.toList | _ => []), .nil) := fun e he => by
    obtain ⟨p, hp, hk⟩ := hU e he
    have hl : p.1.size ≤ maxLen := by
      have := (h.ok.names p hp).1
      unfold maxLen
      simp [mayB] at this
      omega
    have hkey : keyOf Tryd.prog 9 e.key = some (.string p.1.data.toList) := by
      rw [hk]
      simp [keyOf, mapKey, Tryd.underlying9, hl]
    simp only [WideElems.rd, hkey, Option.bind_some, Option.map_some]
    rw [hk]
  have hlen : es.toList.length = D.files.length := h.rel.length
  have hcnt := h.ok.count
  refine ⟨_, ⟨es, clock, h.map, ⟨by rw [← Array.length_toList, hlen]; unfold maxLen; omega, h.stamped, fun e he => ⟨_, hrd e he⟩⟩, Nat.le_refl _, rfl⟩, ?_, ?_⟩
  · rw [Maps.size_eq, length_sorted, List.length_map, hlen]
  · show ((((es.toList.map _).foldr DataW.insert [])).map fun p => strOf p.1).Perm _
    refine (List.Perm.map _ (WideShapes.sorted_perm _)).trans ?_
    rw [List.map_map]
    have e1 : es.toList.map ((fun p => strOf p.1) ∘ WideElems.rg (H := Unit) Tryd.prog 9 (fun _ => some (.nil, []))) = D.files.map (·.1.data.toList) := by
      have : ∀ (l : List MapEntry) (m : List (ByteArray × List UInt8)) (R : Value → List UInt8 → Prop), RelM Value.string R l m → (∀ e ∈ l, e ∈ es.toList) → l.map ((fun p => strOf p.1) ∘ WideElems.rg (H := Unit) Tryd.prog 9 (fun _ => some (.nil, []))) = m.map (·.1.data.toList) := by
        intro l
        induction l with
        | nil => intro m R hr _; cases m with
          | nil => rfl
          | cons _ _ => exact hr.elim
        | cons e l ih =>
          intro m R hr hmem
          cases m with
          | nil => exact hr.elim
          | cons p m =>
            simp only [List.map_cons, Function.comp]
            rw [WideElems.rg_of (hrd e (hmem e (by simp))), hr.1.1]
            congr 1
            exact ih m R hr.2 (fun x hx => hmem x (by simp [hx]))
      exact this es.toList D.files _ h.rel (fun e he => he)
    rw [e1]

set_option maxHeartbeats 400000 in
theorem names_any {w : World} {b m : Nat} {es : Array MapEntry} {clock : Nat} {D : DM} (h : DiskAt w b m es clock D) : Calls Tryd.prog 31 #[.pointer (some ⟨b, 0, none⟩)] w fun e w' =>
    ∃ v, e = .returned v ∧ OwnS w' v (namesOf D.files) ∧ Kept (fun _ => False) w w' ∧ (∀ g, v.ownBlock = some g → w.heap.size ≤ g) := by
  obtain ⟨D0, hown, hsz, hperm⟩ := keys_perm h
  have hc := h.ok.count
  have c0 := h.c0
  have hfK : Fence.wide.fn 62 := trivial
  have hfS : Fence.wide.fn 55 := trivial
  refine (callsIn_wide (n := 6)).1 ?_
  refine callsIn_of_wp Tryd.func31 rfl trivial ?_ rfl
  simp only [Tryd.ntmps31, List.size_toArray, List.length_cons, List.length_nil, Nat.reduceAdd, Nat.reduceSub, Array.replicate_succ, Array.replicate_zero, List.push_toArray, List.append_toArray, List.nil_append, List.cons_append]
  gi_wp2_with (first
    | (gi_at_call 62; refine (keys_files _ _).mono ?_; rintro e w' ⟨rfl, rfl⟩)
    | (gi_at_call 55; refine (sorted_files m es.size D0 _ w hown (by unfold maxLen; omega) (by omega)).mono ?_; rintro e w' ⟨v, ss, rfl, hS, hrow, hnil, hb⟩))
  go_ret
  have hsort : ss.mergeSort (fun x y => decide (x ≤ y)) = namesOf D.files := sort_perm (hS.trans hperm)
  have hlen : ss.length = (namesOf D.files).length := by rw [← hsort, List.length_mergeSort]
  have hk : Kept (fun _ => False) w (w.alloc (.cells #[.map (some m)] 68)) := (Kept.refl _ w).alloc _
  refine ⟨v, rfl, ?_, hk.trans (Kept.of_below (Nat.le_refl _) hb) (fun _ _ h => h), fun g hg => ?_⟩
  · unfold OwnS
    rw [hsort, hlen] at hrow
    exact ownsRow_base_a hrow (Nat.zero_le _)
  · have := (World.ownsRow.lt hrow g hg).1
    simp at this; omega
end Go.Proofs.YtjnhkepgoghogaaDoor
