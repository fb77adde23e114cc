/- object: right of nothing, commit, Check. -/
import Derived.Test.YtikacgiccllolaaGreatStoreD
import Derived.Laws.RangeAny
namespace Go.Proofs.YtikacgiccllolaaGreat
open Go.RowKit Go.ChangeMaps Go.MapKept

def idsV (l : List Nat) : List Value := l.map fun n : Nat => .int .u64 (n : Int)
@[simp] theorem idsV_length (l : List Nat) : (idsV l).length = l.length := by simp [idsV]
/-- A slice value that reads as these ids, wherever it lies. -/
def IsI (w : World) (v : Value) (l : List Nat) : Prop :=
  ∃ a c, v = .slice a l.length c ∧ l.length ≤ c ∧ c ≤ maxLen ∧ (∀ n ∈ l, n < 18446744073709551616) ∧ (l = [] ∨ ∃ g o, a = some ⟨g, o, none⟩ ∧ g < w.heap.size ∧ ∀ i x, (idsV l)[i]? = some x → w.cell? ⟨g, o + i, none⟩ = some x)
theorem IsI.kept {F : Nat → Prop} {w w' : World} {v : Value} {l : List Nat} (h : IsI w v l) (hk : Kept F w w') (hF : ∀ g, v.ownBlock = some g → ¬ F g) : IsI w' v l := by
  obtain ⟨a, c, e, h1, h2, h3, h4⟩ := h
  refine ⟨a, c, e, h1, h2, h3, ?_⟩
  rcases h4 with h4 | ⟨g, o, rfl, hg, hc⟩
  · exact .inl h4
  · subst e
    exact .inr ⟨g, o, rfl, Nat.lt_of_lt_of_le hg hk.size, fun i x hx => hk.cell (hc i x hx) (hF g rfl)⟩
theorem IsI.keptN {w w' : World} {v : Value} {l : List Nat} (h : IsI w v l) (hk : Kept (fun _ => False) w w') : IsI w' v l := h.kept hk (fun _ _ f => f)
theorem IsI.at {w : World} {a : Option Addr} {n c : Nat} {l : List Nat} (h : IsI w (.slice a n c) l) {k : Nat} (hk : k < l.length) : ∃ g o, a = some ⟨g, o, none⟩ ∧ g < w.heap.size ∧ w.cell? ⟨g, o + k, none⟩ = some (.int .u64 (l[k] : Nat)) := by
  obtain ⟨a', c', e, h1, h2, h3, h4⟩ := h
  cases e
  obtain ⟨g, o, rfl, hg, hc⟩ := h4.resolve_left (fun e => by rw [e] at hk; simp at hk)
  exact ⟨g, o, rfl, hg, hc k _ (by simp [idsV, hk])⟩
def OwnI (n0 : Nat) (w : World) (v : Value) (l : List Nat) : Prop := w.ownsRow n0 37 1 v l.length (idsV l)
theorem OwnI.form {n0 : Nat} {w : World} {v : Value} {l : List Nat} (h : OwnI n0 w v l) : ∃ a c, v = .slice a l.length c ∧ l.length ≤ c ∧ c ≤ maxLen := by
  rcases h.2 with ⟨rfl, h0⟩ | ⟨g, cap, cur, rfl, _, _, hn, hm, _⟩
  · exact ⟨none, 0, by rw [h0], by omega, by simp [maxLen]⟩
  · exact ⟨_, cap, rfl, hn, hm⟩
theorem OwnI.isI {n0 : Nat} {w : World} {v : Value} {l : List Nat} (h : OwnI n0 w v l) (hb : ∀ n ∈ l, n < 18446744073709551616) : IsI w v l := by
  obtain ⟨h1, h2⟩ := h
  rcases h2 with ⟨rfl, h0⟩ | ⟨g, cap, cur, rfl, _, hg, hn, hc, hs, ht⟩
  · have : l = [] := List.length_eq_zero_iff.1 h0
    subst this
    exact ⟨none, 0, rfl, Nat.le_refl _, by simp [maxLen], hb, .inl rfl⟩
  · refine ⟨some ⟨g, 0, none⟩, cap, rfl, hn, hc, hb, .inr ⟨g, 0, rfl, (Array.getElem?_eq_some_iff.1 hg).1, fun i x hx => ?_⟩⟩
    rw [Nat.zero_add, cell_of_row w g i cur _ (0, 0) hg]
    rw [← ht, List.getElem?_take] at hx
    split at hx
    · simpa using hx
    · cases hx

theorem right_empty (w : World) : Calls Tryz.prog 106 #[.string { data := #[] }] w fun e w' => e = .returned (.bool true) ∧ Kept (fun _ => False) w w' := by
  have hk : Kept (fun _ => False) w (w.iter { data := #[] } 0) := (Kept.refl _ _).alloc _
  go_enter Tryz.func106, Tryz.ntmps106
  go_wp2_with fail
  go_loopw [3, 4] (fun a b wr => a = .int .i32 32 ∧ b = .int .i64 0 ∧ wr = w.iter { data := #[] } 0) (fun _ _ _ => 0)
  case atStart => exact ⟨rfl, rfl, rfl⟩
  case round =>
    obtain ⟨rfl, rfl, rfl⟩ := hrel
    have hnx : ∀ ty, (Instr.next (.pointer (some ⟨w.heap.size, 0, none⟩)) true ty).run Tryz.prog (w.iter { data := #[] } 0) = .ok (.tuple #[.bool false]) (w.iter { data := #[] } 0) := fun ty => run_next_end w _ 0 ty (by decide)
    go_wp2
    go_ret
    exact ⟨rfl, hk⟩

set_option maxRecDepth 100000 in
theorem index_any (w : World) (a : Option Addr) (c : Nat) (l : List Nat) (x : Nat) (h : IsI w (.slice a l.length c) l) :
    Calls Tryz.prog 52 #[.slice a l.length c, .int .u64 x] w fun e w' => ∃ r : Int, e = .returned (.int .i64 r) ∧ w = w' ∧ (0 ≤ r ↔ x ∈ l) := by
  have hl63 : l.length ≤ 9223372036854775807 := by obtain ⟨_, _, e, h1, h2, -⟩ := h; cases e; unfold maxLen at h2; omega
  go_enter Tryz.func52, Tryz.ntmps52
  go_wp2_with fail
  go_loopw [8] (fun i wr => w = wr ∧ ∃ k : Nat, k ≤ l.length ∧ i = .int .i64 k ∧ Hid (∀ i (hi : i < l.length), i < k → l[i] ≠ x)) (fun i _ => l.length - (intOf i).toNat)
  case atStart => exact ⟨rfl, 0, Nat.zero_le _, rfl, Lib.hid (fun _ _ h => absurd h (Nat.not_lt_zero _))⟩
  case round =>
    obtain ⟨rfl, k, hk, rfl, hno⟩ := hrel
    by_cases hlt : k < l.length
    · obtain ⟨g, o, rfl, hg, hc⟩ := h.at hlt
      obtain ⟨y, hy⟩ : ∃ y, l[k] = y := ⟨_, rfl⟩
      rw [hy] at hc
      have HY := Lib.hid hy
      clear hy
      by_cases hxy : x = y
      · have hM : Hid (x ∈ l) := Lib.hid (by rw [hxy, ← HY.out]; exact List.getElem_mem hlt)
        subst hxy
        go_wp2
        go_ret
        exact ⟨_, rfl, rfl, ⟨fun _ => hM.out, fun _ => by omega⟩⟩
      · have hxy2 : ((x : Int) == (y : Int)) = false := by simp; omega
        go_wp2
        go_roundw
        case rel => exact ⟨(by first | rfl | trivial), k + 1, by omega, by go_num, Lib.hid (fun i hi hik => by
          rcases Nat.lt_or_ge i k with h | h
          · exact hno.out i hi h
          · obtain rfl : i = k := by omega
            rw [HY.out]; exact fun e => hxy e.symm)⟩
        case measure => simp [intOf]; omega
    · have hM : Hid (x ∉ l) := Lib.hid (fun hm => by
        obtain ⟨i, hi, e⟩ := List.getElem_of_mem hm
        exact hno.out i hi (by omega) e)
      go_wp2
      go_ret
      exact ⟨_, rfl, by first | rfl | trivial, ⟨fun h => by omega, fun h => absurd h hM.out⟩⟩
theorem contains_any (w : World) (a : Option Addr) (c : Nat) (l : List Nat) (x : Nat) (h : IsI w (.slice a l.length c) l) :
    Calls Tryz.prog 31 #[.slice a l.length c, .int .u64 x] w fun e w' => e = .returned (.bool (decide (x ∈ l))) ∧ w = w' := by
  have hI := Lib.hid (index_any w a c l x h)
  go_enter Tryz.func31, Tryz.ntmps31
  go_wp2_with fail
  refine hI.out.mono ?_
  rintro e w1 ⟨r, rfl, rfl, hr⟩
  go_wp2
  go_ret
  refine ⟨?_, rfl⟩
  by_cases hm : x ∈ l
  · have := hr.2 hm
    simp [hm]
  · have : ¬ 0 ≤ r := fun h => hm (hr.1 h)
    simp [hm]
end Go.Proofs.YtikacgiccllolaaGreat

/- object: commit, tree of nothing, Check. -/
namespace Go.Proofs.YtikacgiccllolaaGreat
open Go.RowKit Go.ChangeMaps Go.MapKept

/-- A commit without author and text. -/
def comV (tree : Nat) (pv : Value) (date : Int) : Value := .agg #[.int .u64 tree, pv, .string { data := #[] }, .int .i64 date, .string { data := #[] }]

set_option maxRecDepth 100000 in
theorem commit_any (w : World) (tree : Nat) (pa : Option Addr) (pc : Nat) (ps : List Nat) (date : Int) (h : IsI w (.slice pa ps.length pc) ps) (ht : tree ≠ 0) (hl : ps.length ≤ 8) (h0 : 0 ∉ ps) :
    Calls Tryz.prog 82 #[comV tree (.slice pa ps.length pc) date] w fun e w' => e = .returned (.int .i64 0) ∧ Kept (fun _ => False) w w' := by
  obtain ⟨w1, hw1⟩ : ∃ w1, w.alloc (.cells #[.int .u64 tree, .slice pa ps.length pc, .string { data := #[] }, .int .i64 date, .string { data := #[] }] 61) = w1 := ⟨_, rfl⟩
  have hk1 : Kept (fun _ => False) w w1 := by rw [← hw1]; exact (Kept.refl _ _).alloc _
  have hb1 : w1.heap[w.heap.size]? = some (.cells #[.int .u64 tree, .slice pa ps.length pc, .string { data := #[] }, .int .i64 date, .string { data := #[] }] 61 (0, 0)) := by rw [← hw1]; exact heap_alloc_new _ _
  have c0 : w1.cell? ⟨w.heap.size, 0, none⟩ = some (.int .u64 tree) := by simp [World.cell?, hb1]
  have c1 : w1.cell? ⟨w.heap.size, 1, none⟩ = some (.slice pa ps.length pc) := by simp [World.cell?, hb1]
  have c2 : w1.cell? ⟨w.heap.size, 2, none⟩ = some (.string { data := #[] }) := by simp [World.cell?, hb1]
  have c4 : w1.cell? ⟨w.heap.size, 4, none⟩ = some (.string { data := #[] }) := by simp [World.cell?, hb1]
  have hCO := contains_any w1 pa pc ps 0 (h.keptN hk1)
  rw [decide_eq_false h0] at hCO
  have HCO := Lib.hid hCO
  have ht2 : ((tree : Int) == 0) = false := by simp; omega
  have hl2 : ¬ (8 : Int) < (ps.length : Int) := by omega
  have hR1 := Lib.hid (right_empty w1)
  clear hCO hb1 h h0 ht
  unfold comV
  go_enter Tryz.func82, Tryz.ntmps82
  go_wp2_with fail
  refine HCO.out.mono ?_
  rintro e w2 ⟨rfl, rfl⟩
  go_wp2_with fail
  refine hR1.out.mono ?_
  rintro e w3 ⟨rfl, hk3⟩
  have d4 := hk3.cell c4 (fun f => f)
  have hR2 := Lib.hid (right_empty w3)
  go_wp2_with fail
  refine hR2.out.mono ?_
  rintro e w4 ⟨rfl, hk4⟩
  go_wp2
  go_ret
  exact ⟨rfl, (hk1.more hk3 (fun _ f => f.elim)).more hk4 (fun _ f => f.elim)⟩
theorem tree0_any (w : World) : Calls Tryz.prog 81 #[.slice none 0 0] w fun e w' => e = .returned (.int .i64 0) ∧ w = w' := by
  go_enter Tryz.func81, Tryz.ntmps81
  go_wp2_with fail
  go_loopw [12, 3] (fun i s wr => i = .int .i64 0 ∧ wr = w) (fun _ _ _ => 0)
  case atStart => exact ⟨rfl, rfl⟩
  case round =>
    obtain ⟨rfl, rfl⟩ := hrel
    go_wp2
    go_ret
    exact ⟨rfl, rfl⟩
theorem ta_yes {P : Program} {T xT : TypeId} {fs : Array Field} (hu : P.underlying T = some (.struct fs)) (v : Value) (w : World) : (Instr.typeAssert (.iface T v) xT T true).run P w = .ok (.tuple #[v, .bool true]) w := by
  simp [Instr.typeAssert, run_underlying hu, Result.andThen]
theorem ta_one {P : Program} {T xT : TypeId} {fs : Array Field} (hu : P.underlying T = some (.struct fs)) (v : Value) (w : World) : (Instr.typeAssert (.iface T v) xT T false).run P w = .ok v w := by
  simp [Instr.typeAssert, run_underlying hu, Result.andThen]
theorem ta_no {P : Program} {T U xT : TypeId} {fs : Array Field} {z : Value} (hu : P.underlying U = some (.struct fs)) (hne : T ≠ U) (hz : ∀ w, (zeroValue U).run P w = .ok z w) (v : Value) (w : World) : (Instr.typeAssert (.iface T v) xT U true).run P w = .ok (.tuple #[z, .bool false]) w := by
  simp [Instr.typeAssert, run_underlying hu, Result.andThen, hne, hz]
theorem zero_blob (w : World) : (zeroValue 66).run Tryz.prog w = .ok (.agg #[.slice none 0 0]) w := by kernel_rfl
theorem zero_tree (w : World) : (zeroValue 106).run Tryz.prog w = .ok (.agg #[.slice none 0 0]) w := by kernel_rfl
theorem zero_commit (w : World) : (zeroValue 61).run Tryz.prog w = .ok (.agg #[.int .u64 0, .slice none 0 0, .string { data := #[] }, .int .i64 0, .string { data := #[] }]) w := by kernel_rfl
set_option maxRecDepth 100000 in
theorem check_commit (w : World) (tree : Nat) (pa : Option Addr) (pc : Nat) (ps : List Nat) (date : Int) (h : IsI w (.slice pa ps.length pc) ps) (ht : tree ≠ 0) (hl : ps.length ≤ 8) (h0 : 0 ∉ ps) :
    Calls Tryz.prog 48 #[.iface 61 (comV tree (.slice pa ps.length pc) date)] w fun e w' => e = .returned (.int .i64 0) ∧ Kept (fun _ => False) w w' := by
  have hk1 : Kept (fun _ => False) w (w.alloc (.cells #[.int .u64 tree, .slice pa ps.length pc, .string { data := #[] }, .int .i64 date, .string { data := #[] }] 61)) := (Kept.refl _ _).alloc _
  have hC := Lib.hid (commit_any _ tree pa pc ps date (h.keptN hk1) ht hl h0)
  unfold comV at *
  have tb : ∀ w, (Instr.typeAssert (.iface 61 (.agg #[.int .u64 tree, .slice pa ps.length pc, .string { data := #[] }, .int .i64 date, .string { data := #[] }])) 63 66 true).run Tryz.prog w = .ok (.tuple #[.agg #[.slice none 0 0], .bool false]) w := fun w => ta_no Tryz.underlying66 (by decide) zero_blob _ w
  have tt : ∀ w, (Instr.typeAssert (.iface 61 (.agg #[.int .u64 tree, .slice pa ps.length pc, .string { data := #[] }, .int .i64 date, .string { data := #[] }])) 63 106 true).run Tryz.prog w = .ok (.tuple #[.agg #[.slice none 0 0], .bool false]) w := fun w => ta_no Tryz.underlying106 (by decide) zero_tree _ w
  have tc : ∀ w, (Instr.typeAssert (.iface 61 (.agg #[.int .u64 tree, .slice pa ps.length pc, .string { data := #[] }, .int .i64 date, .string { data := #[] }])) 63 61 true).run Tryz.prog w = .ok (.tuple #[(.agg #[.int .u64 tree, .slice pa ps.length pc, .string { data := #[] }, .int .i64 date, .string { data := #[] }]), .bool true]) w := fun w => ta_yes Tryz.underlying61 _ w
  clear h ht hl h0
  go_enter Tryz.func48, Tryz.ntmps48
  go_wp2_with fail
  refine hC.out.mono ?_
  rintro e w2 ⟨rfl, hk2⟩
  go_wp2
  go_ret
  exact ⟨rfl, hk1.more hk2 (fun _ f => f.elim)⟩
theorem check_tree0 (w : World) : Calls Tryz.prog 48 #[.iface 106 (.agg #[.slice none 0 0])] w fun e w' => e = .returned (.int .i64 0) ∧ Kept (fun _ => False) w w' := by
  have tb : ∀ w, (Instr.typeAssert (.iface 106 (.agg #[.slice none 0 0])) 63 66 true).run Tryz.prog w = .ok (.tuple #[.agg #[.slice none 0 0], .bool false]) w := fun w => ta_no Tryz.underlying66 (by decide) zero_blob _ w
  have tt : ∀ w, (Instr.typeAssert (.iface 106 (.agg #[.slice none 0 0])) 63 106 true).run Tryz.prog w = .ok (.tuple #[.agg #[.slice none 0 0], .bool true]) w := fun w => ta_yes Tryz.underlying106 _ w
  go_enter Tryz.func48, Tryz.ntmps48
  go_wp2_with fail
  refine (tree0_any _).mono ?_
  rintro e w2 ⟨rfl, rfl⟩
  go_wp2
  go_ret
  exact ⟨rfl, (Kept.refl _ _).alloc _⟩
theorem check_blob (w : World) (a : Option Addr) (n c : Nat) (hn : n ≤ 4096) : Calls Tryz.prog 48 #[.iface 66 (.agg #[.slice a n c])] w fun e w' => e = .returned (.int .i64 0) ∧ Kept (fun _ => False) w w' := by
  have tb : ∀ w, (Instr.typeAssert (.iface 66 (.agg #[.slice a n c])) 63 66 true).run Tryz.prog w = .ok (.tuple #[.agg #[.slice a n c], .bool true]) w := fun w => ta_yes Tryz.underlying66 _ w
  have hn2 : ¬ (4096 : Int) < (n : Int) := by omega
  go_enter Tryz.func48, Tryz.ntmps48
  go_wp2
  go_ret
  exact ⟨rfl, (Kept.refl _ _).alloc _⟩
end Go.Proofs.YtikacgiccllolaaGreat

/- object: Encode. -/
namespace Go.Proofs.YtikacgiccllolaaGreat
open Go.RowKit Go.ChangeMaps Go.MapKept

def wordsB (l : List Nat) : List UInt8 := l.flatMap wordB
theorem wordsB_length (l : List Nat) : (wordsB l).length = 8 * l.length := by
  induction l with
  | nil => rfl
  | cons x l ih => unfold wordsB at *; rw [List.flatMap_cons, List.length_append, ih]; simp [wordB]; omega
/-- A box with a slice of bytes. -/
def BoxB (w : World) (B : Nat) (bs : List UInt8) : Prop := ∃ v, w.heap[B]? = some (.cells #[v] 64 (0, 0)) ∧ IsB w v bs ∧ ∀ g, v.ownBlock = some g → g ≠ B
theorem BoxB.kept {w w' : World} {B : Nat} {bs : List UInt8} (h : BoxB w B bs) (hk : Kept (fun _ => False) w w') : BoxB w' B bs := by
  obtain ⟨v, h1, h2, h3⟩ := h
  exact ⟨v, (hk.block B (Array.getElem?_eq_some_iff.1 h1).1 (fun f => f)).trans h1, h2.keptF hk (fun _ _ f => f), h3⟩
theorem BoxB.set {w : World} {B : Nat} {bs : List UInt8} (h : BoxB w B bs) {w1 : World} {v : Value} {ys : List UInt8} (hf : FreshB w v ys w1) : BoxB (w1.setCell ⟨B, 0, none⟩ v) B ys ∧ Kept (· = B) w (w1.setCell ⟨B, 0, none⟩ v) := by
  obtain ⟨u, h1, -, -⟩ := h
  have hB := (Array.getElem?_eq_some_iff.1 h1).1
  have hn : ∀ g, v.ownBlock = some g → g ≠ B := fun g e => by have := hf.new g e; omega
  have e1 := (hf.kept.block B hB (fun f => f)).trans h1
  have hk := (Kept.refl (· = B) w1).setCell (p := ⟨B, 0, none⟩) (fun _ => rfl) v
  exact ⟨⟨v, heap_setCell_row (o := 0) e1 v, hf.own.isB.keptF hk (fun g e e2 => hn g e e2), hn⟩, (hf.kept.mono (fun _ _ f => f.elim)).trans hk (fun _ _ h => h)⟩

set_option maxRecDepth 100000 in
set_option maxHeartbeats 1000000 in
theorem word1_any (w : World) (B : Nat) (bs : List UInt8) (hb : BoxB w B bs) (a : Option Addr) (c : Nat) (ids : List Nat) (h : IsI w (.slice a ids.length c) ids) (hsep : ∀ g, (Value.slice a ids.length c).ownBlock = some g → g ≠ B ∨ ids = []) (hlen : bs.length + 8 * ids.length ≤ 1000000) :
    Calls Tryz.prog 70 #[.slice a ids.length c, .pointer (some ⟨B, 0, none⟩)] w fun e w' => e = .returned (.tuple #[]) ∧ BoxB w' B (bs ++ wordsB ids) ∧ Kept (· = B) w w' := by
  have hl63 : ids.length ≤ 9223372036854775807 := by omega
  go_enter Tryz.func70, Tryz.ntmps70
  go_wp2_with fail
  go_loopw [7] (fun i wr => ∃ k : Nat, k ≤ ids.length ∧ i = .int .i64 k ∧ Hid (BoxB wr B (bs ++ wordsB (ids.take k))) ∧ Kept (· = B) w wr) (fun i _ => ids.length - (intOf i).toNat)
  case atStart => exact ⟨0, Nat.zero_le _, rfl, Lib.hid (by simpa [wordsB] using hb), Kept.refl _ _⟩
  case round =>
    obtain ⟨k, hk, rfl, HB, hkr⟩ := hrel
    by_cases hlt : k < ids.length
    · obtain ⟨g, o, rfl, hg, hc⟩ := (h.kept hkr (fun g e e2 => (hsep g e).elim (fun h => h e2) (fun h => by rw [h] at hlt; simp at hlt))).at hlt
      obtain ⟨v, hv, hI, hn⟩ := HB.out
      have hcv : wr.cell? ⟨B, 0, none⟩ = some v := by simp [World.cell?, hv]
      have hT : Hid (bs ++ wordsB (ids.take (k + 1)) = bs ++ wordsB (ids.take k) ++ wordB ids[k]) := Lib.hid (by unfold wordsB; rw [List.take_succ_eq_append_getElem hlt, List.flatMap_append, List.flatMap_cons, List.flatMap_nil, List.append_nil, List.append_assoc])
      have hPW := Lib.hid (putWord_any wr v _ ids[k] hI (by rw [List.length_append, wordsB_length, List.length_take]; omega))
      generalize ids[k] = x at *
      have HS := Lib.hid (fun (w1 : World) (u : Value) (ys : List UInt8) (hf : FreshB wr u ys w1) => HB.out.set hf)
      clear hI hn
      go_wp2_with fail
      refine hPW.out.mono ?_
      rintro e w1 ⟨u, rfl, hf⟩
      have e1 := (hf.kept.block B (Array.getElem?_eq_some_iff.1 hv).1 (fun f => f)).trans hv
      have d1 : w1.cell? ⟨B, 0, none⟩ = some v := by simp [World.cell?, e1]
      have f1 : w1.frozen? ⟨B, 0, none⟩ = false := by simp [World.frozen?, e1]
      obtain ⟨ua, uc, rfl, -, -⟩ := hf.own.form
      have HF := Lib.hid hf
      clear hf e1 hv
      generalize hnn : (bs ++ wordsB (List.take k ids) ++ wordB x).length = nn at *
      go_wp2
      go_roundw
      case rel =>
        have h1 := HS.out _ _ _ HF.out
        exact ⟨k + 1, hlt, by go_num, Lib.hid (by rw [hT.out]; exact h1.1), hkr.trans h1.2 (fun _ _ h => h)⟩
      case measure => simp [intOf]; omega
    · obtain rfl : k = ids.length := by omega
      have HE := HB.out
      rw [List.take_length] at HE
      go_wp2
      go_end0
      exact ⟨rfl, HE, hkr⟩
end Go.Proofs.YtikacgiccllolaaGreat
