/- slices.Clone at bytes; disk: New, Read, Size, Writes, Cut, Cutting, Mend. -/
import Derived.Test.YtemilbemdlpkaaaGreatDoorPac
import Derived.Laws.Bits64
import Derived.Maps.RangeRun
import Derived.Test.YtemilbemdlpkaaaGreatDoorPaa
namespace Go.Proofs.YtemilbemdlpkaaaGreatDoor
open Go.RowKit Go.ChangeMaps Go.MapKept

/-- A fresh slice of bytes: nothing that was there has turned, and its block is new. -/
structure FreshB (w : World) (v : Value) (bs : List UInt8) (w' : World) : Prop where
  own : OwnB w' v bs
  kept : Kept (fun _ => False) w w'
  new : ∀ g, v.ownBlock = some g → w.heap.size ≤ g

theorem FreshB.nil (w : World) : FreshB w (.slice none 0 0) [] w := ⟨World.ownsRow_nil _ _ _ _, Kept.refl _ _, fun g hg => by cases hg⟩

set_option maxRecDepth 100000 in
theorem clone_any (w : World) (v : Value) (bs : List UInt8) (hv : IsB w v bs) (hlen : bs.length ≤ 140737488355328) :
    Calls Tryz.prog 49 #[v] w fun e w' => ∃ v', e = .returned v' ∧ FreshB w v' bs w' ∧ (v' = .slice none 0 0 ↔ v.ownBlock = none) := by
  obtain ⟨a, c, rfl, hc, hcm, hsrc⟩ := id hv
  cases a with
  | none =>
    have hb : bs = [] := by
      rcases hsrc with h | ⟨g, o, h, _⟩
      · exact h
      · cases h
    subst hb
    have hnil := @Lib.run_eql_slice_nil Tryz.prog
    go_enter Tryz.func49, Tryz.ntmps49
    go_wp2
    go_ret
    exact ⟨_, rfl, FreshB.nil w, by simp [Value.ownBlock]⟩
  | some ad =>
    clear hsrc
    have hnil := @Lib.run_eql_slice_nil Tryz.prog
    have hk : Kept (fun _ => False) w (w.alloc (.cells #[] 5)) := (Kept.refl _ w).alloc _
    obtain ⟨v', w', ha, hO, hg, hb, hn⟩ := run_append_bytes (w.alloc (.cells #[] 5)) _ (.slice (some ad) bs.length c) [] bs (empty_new w) (hv.keptF hk (fun _ _ h => h)) (by simpa using hlen)
    go_enter Tryz.func49, Tryz.ntmps49
    go_wp2_with (at_builtin; refine wpList_append_run rfl (.tmp 5) (.tmp 6) #[25, 25] rfl _ _ _ _ rfl rfl ha ?_)
    go_ret
    refine ⟨v', rfl, ⟨hO, ?_, fun g hgo => ?_⟩, ?_⟩
    · refine hk.trans (Kept.grown (F := fun k => w.heap.size ≤ k) (Kept.refl _ _) hg ?_) (fun i hi hf => by omega)
      intro k hk _
      simp only [Value.ownBlock, Option.some.injEq] at hk
      omega
    · rcases hb g hgo with h1 | ⟨h1, _⟩
      · simp only [Value.ownBlock, Option.some.injEq] at h1; omega
      · rw [h1]; simp
    · rw [hn]; simp [Value.ownBlock]

section
variable {w : World} {b m : Nat} {es : Array MapEntry} {clock : Nat} {D : DM} {s : ByteArray}

theorem new_any (w : World) : Calls Tryz.prog 11 #[] w fun e w' => ∃ b m, e = .returned (.pointer (some ⟨b, 0, none⟩)) ∧ w.heap.size ≤ b ∧ w.heap.size ≤ m ∧ DiskAt w' b m #[] 0 ⟨[], 0, 0, false⟩ ∧ Kept (fun _ => False) w w' := by
  have hmm := @run_makeMap Tryz.prog
  go_enter Tryz.func11, Tryz.ntmps11
  go_wp2
  go_ret
  refine ⟨w.heap.size + 1, w.heap.size, rfl, by omega, by omega, ⟨?_, ?_, stamped_empty 0, trivial, fun e he => by simp at he, ⟨by simp, by simp, by simp, by simp, by simp, by simp [NodupA]⟩⟩, ((Kept.refl _ w).alloc _).alloc _⟩
  · simpa using heap_alloc_new (w.alloc (.map #[] 0)) (.cells #[.map (some w.heap.size), .int .i64 0, .int .i64 0, .bool false] 106)
  · rw [Below.heap_alloc _ _ _ (by simp)]; exact heap_alloc_new w _

theorem writes_any (h : DiskAt w b m es clock D) : Calls Tryz.prog 28 #[.pointer (some ⟨b, 0, none⟩)] w fun e w' => e = .returned (.int .i64 D.writes) ∧ w = w' := by
  have c1 := h.c1
  go_enter Tryz.func28, Tryz.ntmps28
  go_wp2
  go_ret
  exact ⟨rfl, rfl⟩

theorem cut_neg (b : Nat) (n : Int) (hn : n < 0) (w : World) : Calls Tryz.prog 25 #[.pointer (some ⟨b, 0, none⟩), .int .i64 n] w fun e w' => e = .returned (.int .i64 2) ∧ w = w' := by
  go_enter Tryz.func25, Tryz.ntmps25
  go_wp2
  go_ret
  exact ⟨rfl, rfl⟩

def DM.cutAt (D : DM) (n : Int) : DM := { D with left := n, cut := true }
def DM.mend (D : DM) : DM := { D with left := 0, cut := false }

theorem cut_any (h : DiskAt w b m es clock D) (n : Int) (hn : 0 ≤ n) (hn2 : n ≤ 9223372036854775807) : Calls Tryz.prog 25 #[.pointer (some ⟨b, 0, none⟩), .int .i64 n] w fun e w' =>
    e = .returned (.int .i64 0) ∧ DiskAt w' b m es clock (D.cutAt n) ∧ Kept (· = b) w w' := by
  have c2 := h.c2
  have c3 := h.c3
  have f2 := h.fr 2
  have f3 := h.fr 3
  go_enter Tryz.func25, Tryz.ntmps25
  go_wp2
  go_ret
  refine ⟨rfl, h.cells rfl ⟨h.ok.w0, hn, hn2, h.ok.count, h.ok.names, h.ok.nodup⟩ (((Kept.refl (· = b) w).setCell (p := ⟨b, 2, none⟩) (fun _ => rfl) _).setCell (p := ⟨b, 3, none⟩) (fun _ => rfl) _) ?_, ((Kept.refl (· = b) w).setCell (p := ⟨b, 2, none⟩) (fun _ => rfl) _).setCell (p := ⟨b, 3, none⟩) (fun _ => rfl) _⟩
  rw [heap_setCell_row (heap_setCell_row h.cell _)]
  simp [DM.cutAt]

theorem mend_any (h : DiskAt w b m es clock D) : Calls Tryz.prog 27 #[.pointer (some ⟨b, 0, none⟩)] w fun e w' =>
    e = .returned (.int .i64 0) ∧ DiskAt w' b m es clock D.mend ∧ Kept (· = b) w w' := by
  have c2 := h.c2
  have c3 := h.c3
  have f2 := h.fr 2
  have f3 := h.fr 3
  go_enter Tryz.func27, Tryz.ntmps27
  go_wp2
  go_ret
  refine ⟨rfl, h.cells rfl ⟨h.ok.w0, by simp [DM.mend], by simp [DM.mend], h.ok.count, h.ok.names, h.ok.nodup⟩ (((Kept.refl (· = b) w).setCell (p := ⟨b, 2, none⟩) (fun _ => rfl) _).setCell (p := ⟨b, 3, none⟩) (fun _ => rfl) _) ?_, ((Kept.refl (· = b) w).setCell (p := ⟨b, 2, none⟩) (fun _ => rfl) _).setCell (p := ⟨b, 3, none⟩) (fun _ => rfl) _⟩
  rw [heap_setCell_row (heap_setCell_row h.cell _)]
  simp [DM.mend]

/-- What Read answers: the bytes in new memory, or that there is no such file. -/
def ReadEnd (w : World) (D : DM) (s : ByteArray) (e : Ending) (w' : World) : Prop :=
  ∃ v, e = .returned (.tuple #[v, .int .i64 (if (getA s D.files).isSome then 0 else 4)]) ∧ FreshB w v (D.bytes s) w' ∧ (getA s D.files = none → v = .slice none 0 0)

theorem read_any (h : DiskAt w b m es clock D) (s : ByteArray) : Calls Tryz.prog 16 #[.pointer (some ⟨b, 0, none⟩), .string s] w (ReadEnd w D s) := by
  obtain ⟨old, hl0, hold, -, ho⟩ := h.lookW s true
  have c0 := h.c0
  have hle := DM.bytes_le h.ok s
  have hB := hold.isB
  cases hg : getA s D.files with
  | none =>
    rw [hg] at hl0
    obtain rfl := ho hg
    have HG := Lib.hid hg; clear hg
    have hl1 := hl0 w h.map
    clear hl0
    go_enter Tryz.func16, Tryz.ntmps16
    go_wp2
    go_ret2
    exact ⟨_, by rw [HG.out]; rfl, by unfold DM.bytes; rw [HG.out]; exact FreshB.nil w, fun _ => rfl⟩
  | some x =>
    rw [hg] at hl0
    have HG := Lib.hid hg; clear hg
    have hl1 := hl0 w h.map
    clear hl0
    go_enter Tryz.func16, Tryz.ntmps16
    go_wp2_with (go_at_call 49; refine (clone_any _ old (D.bytes s) hB (by omega)).mono ?_; rintro e w' ⟨v', rfl, hf, -⟩)
    go_ret2
    exact ⟨v', by rw [HG.out]; rfl, hf, fun e => by rw [HG.out] at e; cases e⟩

end
end Go.Proofs.YtemilbemdlpkaaaGreatDoor

/- octet: Hash, PutWord, PutUint. -/
namespace Go.Proofs.YtemilbemdlpkaaaGreatDoor
open Go.RowKit Go.ChangeMaps Go.MapKept

def hashStep (h : Nat) (x : UInt8) : Nat := ((h ^^^ x.toNat) * 1099511628211) % 18446744073709551616
def hashFrom (h : Nat) (l : List UInt8) : Nat := l.foldl hashStep h
def hashB (l : List UInt8) : Nat := hashFrom 14695981039346656037 l

theorem hashStep_lt (h : Nat) (x : UInt8) : hashStep h x < 18446744073709551616 := Nat.mod_lt _ (by omega)
theorem hashFrom_lt (h : Nat) (l : List UInt8) (hh : h < 18446744073709551616) : hashFrom h l < 18446744073709551616 := by
  induction l generalizing h with
  | nil => exact hh
  | cons x l ih => exact ih _ (hashStep_lt _ _)
theorem hashB_lt (l : List UInt8) : hashB l < 18446744073709551616 := hashFrom_lt _ _ (by omega)

theorem hash_nil : ((hashB [] : Nat) : Int) = 14695981039346656037 := by unfold hashB hashFrom; rw [List.foldl_nil]; omega
theorem hashStep_wrap (h : Nat) (x : UInt8) : IntKind.u64.wrap (((h ^^^ x.toNat : Nat) : Int) * 1099511628211) = ((hashStep h x : Nat) : Int) := by
  rw [IntKind.wrap_u64]; unfold hashStep
  generalize h ^^^ x.toNat = y
  omega
theorem hash_take {bs : List UInt8} {k : Nat} (h : k < bs.length) : hashB (bs.take (k + 1)) = hashStep (hashB (bs.take k)) bs[k] := by
  unfold hashB hashFrom
  rw [List.take_succ_eq_append_getElem h, List.foldl_append, List.foldl_cons, List.foldl_nil]

set_option maxRecDepth 100000 in
theorem hash_any (w : World) (a : Option Addr) (c : Nat) (bs : List UInt8) (h : IsB w (.slice a bs.length c) bs) :
    Calls Tryz.prog 81 #[.slice a bs.length c] w fun e w' => e = .returned (.int .u64 (hashB bs)) ∧ w = w' := by
  obtain ⟨_, _, he, hlc, hcm, hcells⟩ := id h
  cases he
  have hnl : bs.length ≤ 9223372036854775807 := by unfold maxLen at hcm; omega
  go_enter Tryz.func81, Tryz.ntmps81
  go_wp2_with fail
  go_loopw [3, 8] (fun hv i wr => ∃ k : Nat, k ≤ bs.length ∧ i = .int .i64 k ∧ hv = .int .u64 (hashB (bs.take k)) ∧ w = wr) (fun _ i _ => bs.length - (intOf i).toNat)
  case atStart => exact ⟨0, Nat.zero_le _, rfl, by rw [List.take_zero, hash_nil], rfl⟩
  case round =>
    obtain ⟨k, hkn, rfl, rfl, rfl⟩ := hrel
    by_cases hlt : k < bs.length
    · obtain ⟨x, hx⟩ : ∃ x, bs[k] = x := ⟨_, rfl⟩
      have hne : bs ≠ [] := fun e => by rw [e] at hlt; simp at hlt
      obtain ⟨g, o, rfl, -, hcell⟩ := hcells.resolve_left hne
      have hc : w.cell? ⟨g, o + k, none⟩ = some (.int .u8 (x.toNat : Int)) := hcell k _ (by simp [bytesV, List.getElem?_eq_getElem hlt, hx])
      have hxl : x.toNat < 256 := x.toNat_lt
      have hstep := hash_take hlt
      rw [hx] at hstep
      have hHl := hashB_lt (bs.take k)
      have HST := Lib.hid hstep
      have HX := Lib.hid hx
      clear hx hstep hcell
      generalize hashB (bs.take k) = hh at *
      have h1 : bits .xor .u64 (hh : Int) (x.toNat : Int) = ((hh ^^^ x.toNat : Nat) : Int) := bits_xor_u64_nat _ _ hHl (by omega)
      have h2 : IntKind.u64.wrap (((hh ^^^ x.toNat : Nat) : Int) * 1099511628211) = ((hashStep hh x : Nat) : Int) := hashStep_wrap _ _
      have h3 : IntKind.u64.wrap (x.toNat : Int) = (x.toNat : Int) := by rw [IntKind.wrap_u64]; omega
      go_wp2
      go_roundw
      case rel => exact ⟨k + 1, by omega, by go_num, by rw [HST.out], trivial⟩
      case measure => simp [intOf]; omega
    · go_wp2
      go_ret
      rw [List.take_of_length_le (by omega)]
      exact ⟨rfl, rfl⟩
end Go.Proofs.YtemilbemdlpkaaaGreatDoor

/- a range over a map, entry by entry. -/
namespace Go.Proofs.YtemilbemdlpkaaaGreatDoor
open Go.RowKit Go.ChangeMaps Go.MapKept

/-- How many steps an iterator at block r has made. -/
def iterSeen (w : World) (r : Nat) : Nat := match w.heap[r]? with | some (.mapIter _ _ seen _) => seen.size | _ => 0

/-- An iterator at block r over the map at m with these entries, behind these. -/
structure IterAt (w : World) (r m : Nat) (es : Array MapEntry) (clock : Nat) (vis : List MapEntry) : Prop where
  at_ : ∃ c, clock ≤ c ∧ w.heap[r]? = some (.mapIter (some m) clock (vis.map (·.born)).toArray c)
  sub : ∀ e ∈ vis, e ∈ es.toList
  nodup : (vis.map (·.born)).Nodup

theorem run_range_map {P : Program} {T K E m : TypeId} {es : Array MapEntry} {clock : Nat} (hT : P.underlying T = some (.map K E)) (w : World) (hm : w.heap[m]? = some (.map es clock)) :
    (Instr.range T (.map (some m))).run P w = .ok (.pointer (some ⟨w.heap.size, 0, none⟩)) (w.alloc (.mapIter (some m) clock #[] clock)) := by
  simp only [Instr.range, Sem.run_bind, run_underlying hT, Result.andThen, MapKept.run_getObj_map hm, Sem.run_pure]
  rfl

theorem IterAt.start {w : World} {m : Nat} {es : Array MapEntry} {clock : Nat} : IterAt (w.alloc (.mapIter (some m) clock #[] clock)) w.heap.size m es clock [] :=
  ⟨⟨clock, Nat.le_refl _, by show (w.heap.push _)[w.heap.size]? = _; simp⟩, fun e he => (by cases he), by simp⟩

theorem IterAt.seen {w : World} {r m : Nat} {es : Array MapEntry} {clock : Nat} {vis : List MapEntry} (h : IterAt w r m es clock vis) : iterSeen w r = vis.length := by
  obtain ⟨c, _, hr⟩ := h.at_
  unfold iterSeen
  rw [hr]; simp

theorem IterAt.lt {w : World} {r m : Nat} {es : Array MapEntry} {clock : Nat} {vis : List MapEntry} (h : IterAt w r m es clock vis) : r < w.heap.size := by
  obtain ⟨c, _, hr⟩ := h.at_
  exact (Array.getElem?_eq_some_iff.1 hr).1

theorem IterAt.kept {w w' : World} {r m : Nat} {es : Array MapEntry} {clock : Nat} {vis : List MapEntry} (h : IterAt w r m es clock vis) (hk : w'.heap[r]? = w.heap[r]?) : IterAt w' r m es clock vis := by
  obtain ⟨⟨c, hc, hr⟩, h2, h3⟩ := h
  exact ⟨⟨c, hc, hk.trans hr⟩, h2, h3⟩

theorem born_inj {es : Array MapEntry} {clock : Nat} (hs : Stamped es clock) {x y : MapEntry} (hx : x ∈ es.toList) (hy : y ∈ es.toList) (h : x.born = y.born) : x = y := by
  have hn := hs.2.1
  obtain ⟨i, hi, rfl⟩ := List.mem_iff_getElem.1 hx
  obtain ⟨j, hj, rfl⟩ := List.mem_iff_getElem.1 hy
  have : i = j := by
    have h1 : (es.toList.map (·.born))[i]'(by simpa using hi) = (es.toList.map (·.born))[j]'(by simpa using hj) := by simpa using h
    have hi' : i < (es.toList.map (·.born)).length := by simpa using hi
    have hj' : j < (es.toList.map (·.born)).length := by simpa using hj
    rcases Nat.lt_trichotomy i j with hlt | heq | hlt
    · exact absurd h1 (List.pairwise_iff_getElem.1 hn i j hi' hj' hlt)
    · exact heq
    · exact absurd h1.symm (List.pairwise_iff_getElem.1 hn j i hj' hi' hlt)
  subst this; rfl

/-- One step: nothing is left, or one of those that are left comes. -/
theorem IterAt.next {P : Program} {w : World} {r m : Nat} {es : Array MapEntry} {clock : Nat} {vis : List MapEntry} (h : IterAt w r m es clock vis) (hm : w.heap[m]? = some (.map es clock)) (hs : Stamped es clock) (ty : TypeId) :
    ((∀ e ∈ es.toList, e ∈ vis) ∧ (Instr.next (.pointer (some ⟨r, 0, none⟩)) false ty).run P w = .ok (.tuple #[.bool false]) w) ∨
    ∃ e ∈ es.toList, (∀ x ∈ vis, x.born ≠ e.born) ∧ ∃ w', (Instr.next (.pointer (some ⟨r, 0, none⟩)) false ty).run P w = .ok (.tuple #[.bool true, e.key, e.val]) w' ∧ (Instr.entry (.pointer (some ⟨r, 0, none⟩))).run P w' = .ok (.tuple #[e.key, e.val]) w' ∧
      IterAt w' r m es clock (vis ++ [e]) ∧ Kept (· = r) w w' ∧ w'.heap.size = w.heap.size := by
  obtain ⟨⟨c, hc, hr⟩, hsub, hnd⟩ := h
  have hrm : r ≠ m := by intro e; subst e; rw [hr] at hm; cases hm
  rcases run_next_at (P := P) w ty r m clock c (vis.map (·.born)).toArray es clock hr hm hs.1 hc with ⟨h0, hrun⟩ | ⟨e, he, w1, hw1, hrun⟩
  · left
    refine ⟨fun e he => ?_, hrun⟩
    have hemp : leftOf es (vis.map (·.born)).toArray = #[] := Array.eq_empty_of_size_eq_zero h0
    unfold leftOf at hemp
    rw [Array.filter_eq_empty_iff] at hemp
    have := hemp e (by simpa using he)
    simp only [List.contains_toArray, Bool.not_eq_true', Bool.not_eq_false, List.contains_iff_mem, List.mem_map] at this
    obtain ⟨x, hx, hxb⟩ := this
    rw [← born_inj hs (hsub x hx) he hxb]; exact hx
  · right
    unfold leftOf at he
    simp only [Array.toList_filter, List.mem_filter, List.contains_toArray, Bool.not_eq_true'] at he
    obtain ⟨he1, he2⟩ := he
    have hnew : ∀ x ∈ vis, x.born ≠ e.born := by
      intro x hx hb
      have : (vis.map (·.born)).contains e.born = true := List.contains_iff_mem.2 (List.mem_map.2 ⟨x, hx, hb⟩)
      rw [this] at he2; cases he2
    have hk1 : Kept (fun _ => False) w w1 := by
      rcases hw1 with rfl | rfl
      · exact Kept.refl _ _
      · exact (Kept.refl _ _).drew
    have hlt : r < w1.heap.size := Nat.lt_of_lt_of_le (Array.getElem?_eq_some_iff.1 hr).1 hk1.size
    have hr' : (setBlock w1 r (.mapIter (some m) clock ((vis.map (·.born)).toArray.push e.born) clock)).heap[r]? = some (.mapIter (some m) clock ((vis.map (·.born)).toArray.push e.born) clock) := by
      simp [ChangeMaps.setBlock, hlt]
    have hm' : (setBlock w1 r (.mapIter (some m) clock ((vis.map (·.born)).toArray.push e.born) clock)).heap[m]? = some (.map es clock) := by
      rw [heap_setBlock_ne (Ne.symm hrm)]
      rcases hw1 with rfl | rfl
      · exact hm
      · exact hm
    refine ⟨e, he1, hnew, _, hrun, run_entry_at (P := P) _ r m clock _ es clock e hr' hm' he1 hs.2.1, ⟨⟨clock, Nat.le_refl _, ?_⟩, ?_, ?_⟩, ?_, ?_⟩
    · rw [hr']; simp
    · intro x hx
      rcases List.mem_append.1 hx with hx | hx
      · exact hsub x hx
      · rw [List.mem_singleton.1 hx]; exact he1
    · rw [List.map_append, List.nodup_append]
      refine ⟨hnd, by simp, ?_⟩
      intro a ha b hb hab
      simp only [List.map_cons, List.map_nil, List.mem_singleton] at hb
      obtain ⟨x, hx, rfl⟩ := List.mem_map.1 ha
      exact hnew x hx (hab.trans hb)
    · exact (hk1.mono (G := (· = r)) (fun _ _ hf => hf.elim)).setBlock (fun _ => rfl) _
    · rcases hw1 with rfl | rfl <;> simp [ChangeMaps.setBlock]

theorem nodup_sub_len {α : Type} [DecidableEq α] : ∀ {l l' : List α}, l.Nodup → (∀ x ∈ l, x ∈ l') → l.length ≤ l'.length
  | [], _, _, _ => Nat.zero_le _
  | x :: l, l', hn, hs => by
    have hx := hs x (by simp)
    have h1 := nodup_sub_len (l := l) (l' := l'.erase x) (List.nodup_cons.1 hn).2 (fun y hy => by
      refine (List.mem_erase_of_ne ?_).2 (hs y (by simp [hy]))
      intro e; subst e; exact (List.nodup_cons.1 hn).1 hy)
    rw [List.length_erase_of_mem hx] at h1
    have h2 : 0 < l'.length := List.length_pos_of_mem hx
    simp only [List.length_cons]; omega

theorem IterAt.le {w : World} {r m : Nat} {es : Array MapEntry} {clock : Nat} {vis : List MapEntry} (h : IterAt w r m es clock vis) : vis.length ≤ es.size := by
  have := nodup_sub_len (l := vis.map (·.born)) (l' := es.toList.map (·.born)) h.nodup (fun x hx => by
    obtain ⟨e, he, rfl⟩ := List.mem_map.1 hx
    exact List.mem_map.2 ⟨e, h.sub e he, rfl⟩)
  simpa using this

theorem IterAt.all_len {w : World} {r m : Nat} {es : Array MapEntry} {clock : Nat} {vis : List MapEntry} (h : IterAt w r m es clock vis) (hs : Stamped es clock) (ha : ∀ e ∈ es.toList, e ∈ vis) : vis.length = es.size := by
  have h1 := h.le
  have := nodup_sub_len (l := es.toList.map (·.born)) (l' := vis.map (·.born)) hs.2.1 (fun x hx => by
    obtain ⟨e, he, rfl⟩ := List.mem_map.1 hx
    exact List.mem_map.2 ⟨e, ha e he, rfl⟩)
  simp at this
  omega

theorem key_inj {es : Array MapEntry} {clock : Nat} (hs : Stamped es clock) {x y : MapEntry} (hx : x ∈ es.toList) (hy : y ∈ es.toList) (h : x.key = y.key) : x = y := by
  have hn := hs.2.2
  obtain ⟨i, hi, rfl⟩ := List.mem_iff_getElem.1 hx
  obtain ⟨j, hj, rfl⟩ := List.mem_iff_getElem.1 hy
  have h1 : (es.toList.map (·.key))[i]'(by simpa using hi) = (es.toList.map (·.key))[j]'(by simpa using hj) := by simpa using h
  have hi' : i < (es.toList.map (·.key)).length := by simpa using hi
  have hj' : j < (es.toList.map (·.key)).length := by simpa using hj
  have : i = j := by
    rcases Nat.lt_trichotomy i j with hlt | heq | hlt
    · exact absurd h1 (List.pairwise_iff_getElem.1 hn i j hi' hj' hlt)
    · exact heq
    · exact absurd h1.symm (List.pairwise_iff_getElem.1 hn j i hj' hi' hlt)
  subst this; rfl
end Go.Proofs.YtemilbemdlpkaaaGreatDoor

/- disk: Copy. -/
namespace Go.Proofs.YtemilbemdlpkaaaGreatDoor
open Go.RowKit Go.ChangeMaps Go.MapKept

theorem Kept.grownBy {w w' : World} (h : Kept (fun _ => False) w w') (row : Option Nat) : w.grownBy w' row := ⟨h.os, h.tape, h.output, h.size, fun k hk _ => h.block k hk (fun f => f)⟩

theorem getA_of_mem {α β : Type} [DecidableEq α] {l : List (α × β)} (h : NodupA l) {k : α} {v : β} (hm : (k, v) ∈ l) : getA k l = some v := by
  induction l with
  | nil => cases hm
  | cons p l ih =>
    simp only [NodupA, List.map_cons, List.nodup_cons, List.mem_map] at h
    rcases List.mem_cons.1 hm with rfl | hm
    · simp [getA]
    · have : p.1 ≠ k := fun e => h.1 ⟨(k, v), hm, e.symm⟩
      simp [getA, this, ih h.2 hm]

/-- What a copy has when these entries have come. -/
structure CopyRel (D : DM) (vis : List MapEntry) (files2 : List (ByteArray × List UInt8)) : Prop where
  got : ∀ s x, getA s files2 = some x → getA s D.files = some x ∧ ∃ e ∈ vis, e.key = .string s
  all : ∀ e ∈ vis, ∀ s, e.key = .string s → (getA s files2).isSome = true
  len : files2.length = vis.length

theorem CopyRel.step {D : DM} {vis : List MapEntry} {files2 : List (ByteArray × List UInt8)} (h : CopyRel D vis files2) {e : MapEntry} {s : ByteArray} {x : List UInt8} (he : e.key = .string s) (hx : getA s D.files = some x) (hnew : ∀ y ∈ vis, y.key ≠ e.key) :
    CopyRel D (vis ++ [e]) (putA s x files2) := by
  have hnone : getA s files2 = none := by
    cases hg : getA s files2 with
    | none => rfl
    | some y =>
      obtain ⟨_, e', he', hk'⟩ := h.got s y hg
      exact absurd (hk'.trans he.symm) (hnew e' he')
  refine ⟨fun t y hy => ?_, fun e' he' t ht => ?_, ?_⟩
  · by_cases hts : t = s
    · subst hts
      rw [getA_putA_same] at hy
      cases hy
      exact ⟨hx, e, by simp, he⟩
    · rw [getA_putA_ne hts] at hy
      obtain ⟨h1, e', h2, h3⟩ := h.got t y hy
      exact ⟨h1, e', by simp [h2], h3⟩
  · rcases List.mem_append.1 he' with he' | he'
    · by_cases hts : t = s
      · subst hts; rw [getA_putA_same]; rfl
      · rw [getA_putA_ne hts]; exact h.all e' he' t ht
    · rw [List.mem_singleton.1 he', he] at ht
      cases ht
      rw [getA_putA_same]; rfl
  · rw [length_putA, hnone, h.len]; simp

/-- The same files, told in whatever order. -/
structure DM.Same (D D' : DM) : Prop where
  files : ∀ s, getA s D.files = getA s D'.files
  len : D.files.length = D'.files.length

section
variable {w : World} {b m : Nat} {es : Array MapEntry} {clock : Nat} {D : DM}

/-- A new disk. -/
structure NewDisk (w : World) (D' : DM) (w' : World) (b' m' : Nat) (es' : Array MapEntry) (clock' : Nat) : Prop where
  disk : DiskAt w' b' m' es' clock' D'
  new : ∀ k, diskF b' m' es' k → w.heap.size ≤ k
  kept : Kept (fun _ => False) w w'

end
end Go.Proofs.YtemilbemdlpkaaaGreatDoor
