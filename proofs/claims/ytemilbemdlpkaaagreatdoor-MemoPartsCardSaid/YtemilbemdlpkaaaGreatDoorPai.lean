/- strings.HasPrefix, CutPrefix. -/
import Derived.Test.YtemilbemdlpkaaaGreatDoorPaa
import Derived.Test.YtemilbemdlpkaaaGreatDoorPaf
import Derived.Test.YtemilbemdlpkaaaGreatDoorPah
namespace Go.Proofs.YtemilbemdlpkaaaGreatDoor
open Go.RowKit Go.ChangeMaps Go.MapKept
set_option linter.unusedSimpArgs false

/-- Does a text begin with another one? -/
def preB (s p : ByteArray) : Bool := decide (p.size ≤ s.size) && ((s.extract 0 p.size).toList == p.toList)
theorem hasPre_any (s p : ByteArray) (w : World) : Calls Tryz.prog 149 #[.string s, .string p] w fun e w' => e = .returned (.bool (preB s p)) ∧ w = w' := by
  by_cases h : p.size ≤ s.size
  · have hb : decide ((p.size : Int) ≤ (s.size : Int)) = true := by simp; omega
    have hp : preB s p = ((s.extract 0 p.size).toList == p.toList) := by unfold preB; rw [decide_eq_true h, Bool.true_and]
    rw [hp]
    clear hp
    go_enter Tryz.func149, Tryz.ntmps149
    go_wp2_with fail
    go_ret
    exact ⟨rfl, rfl⟩
  · have hb : decide ((p.size : Int) ≤ (s.size : Int)) = false := by simp; omega
    have hp : preB s p = false := by unfold preB; rw [decide_eq_false h, Bool.false_and]
    rw [hp]
    clear hp
    go_enter Tryz.func149, Tryz.ntmps149
    go_wp2_with fail
    go_ret
    exact ⟨rfl, rfl⟩
def cutP (s p : ByteArray) : ByteArray × Bool := if preB s p = true then (s.extract p.size s.size, true) else (s, false)
theorem preB_le {s p : ByteArray} (h : preB s p = true) : p.size ≤ s.size := by
  unfold preB at h
  simp at h
  exact h.1
theorem cutPre_any (s p : ByteArray) (w : World) : Calls Tryz.prog 113 #[.string s, .string p] w fun e w' => e = .returned (.tuple #[.string (cutP s p).1, .bool (cutP s p).2]) ∧ w = w' := by
  by_cases h : preB s p = true
  · have hle := preB_le h
    have hc : cutP s p = (s.extract p.size s.size, true) := if_pos h
    rw [hc]
    clear hc
    go_enter Tryz.func113, Tryz.ntmps113
    go_wp2_with fail
    refine (hasPre_any s p w).mono ?_
    rw [h]
    rintro e w1 ⟨rfl, rfl⟩
    go_wp2_with fail
    go_ret2
    exact ⟨rfl, rfl⟩
  · have hc : cutP s p = (s, false) := if_neg h
    rw [hc]
    clear hc
    go_enter Tryz.func113, Tryz.ntmps113
    go_wp2_with fail
    refine (hasPre_any s p w).mono ?_
    rw [Bool.eq_false_iff.2 h]
    rintro e w1 ⟨rfl, rfl⟩
    go_wp2_with fail
    go_ret2
    exact ⟨rfl, rfl⟩
theorem cutPrefix_any (s p : ByteArray) (w : World) : Calls Tryz.prog 69 #[.string s, .string p] w fun e w' => e = .returned (.tuple #[.string (cutP s p).1, .bool (cutP s p).2]) ∧ w = w' := by
  go_enter Tryz.func69, Tryz.ntmps69
  go_wp2_with fail
  refine (cutPre_any s p w).mono ?_
  rintro e w1 ⟨rfl, rfl⟩
  go_wp2_with fail
  go_ret2
  exact ⟨rfl, rfl⟩
end Go.Proofs.YtemilbemdlpkaaaGreatDoor

/- memo: the plain model's words. -/
namespace Go.Proofs.YtemilbemdlpkaaaGreatDoor
open Go.RowKit Go.ChangeMaps Go.MapKept
/-! ### names -/
def itS (n : Nat) : ByteArray := ⟨(Lib.itoa (n : Int)).toArray⟩
def runN (file : ByteArray) (n : Nat) : ByteArray := runName file (itS n)
theorem itS_size (n : Nat) (h : n ≤ 4611686018427387904) : (itS n).size ≤ 21 := by
  have := Lib.itoa_length_le (n : Int) (by omega) (by omega)
  simpa [itS, ByteArray.size] using this

/-! ### a memo -/
structure RunP where
  n : Nat
  bs : List UInt8
structure MP where
  file : ByteArray
  known : List (Nat × Nat)
  parts : List RunP
  last : Nat
  dead : Bool
/-- The number of a run file, out of its name; 0: it is none. -/
def digGo : Nat → Nat → List UInt8 → Option Nat
  | _, n, [] => some n
  | i, n, c :: l => if c < 48 ∨ 57 < c ∨ 10 ≤ i then none else digGo (i + 1) (10 * n + (c.toNat - 48)) l
def numOf (file s : ByteArray) : Nat :=
  if (cutP s (file ++ { data := #[45] })).2 = false then 0
  else match digGo 0 0 (cutP s (file ++ { data := #[45] })).1.data.toList with
    | none => 0
    | some n => if runN file n = s then n else 0
end Go.Proofs.YtemilbemdlpkaaaGreatDoor

/- rows of whole numbers; slices.Contains at them; the number of a run file's name. -/
namespace Go.Proofs.YtemilbemdlpkaaaGreatDoor
open Go.RowKit Go.ChangeMaps Go.MapKept
set_option linter.unusedSimpArgs false

def intsV (l : List Nat) : List Value := l.map fun x : Nat => Value.int .i64 (x : Int)
/-- A slice that owns these whole numbers. -/
def OwnZ (b : Nat) (w : World) (v : Value) (l : List Nat) : Prop := w.ownsRow b 3 1 v l.length (intsV l)
theorem OwnZ.form {b : Nat} {w : World} {v : Value} {l : List Nat} (h : OwnZ b w v l) : ∃ a c, v = .slice a l.length c ∧ l.length ≤ c ∧ c ≤ maxLen := by
  rcases h.2 with ⟨rfl, h0⟩ | ⟨g, cap, cur, rfl, _, _, hn, hm, _⟩
  · exact ⟨none, 0, by rw [h0], by omega, by simp [maxLen]⟩
  · exact ⟨_, cap, rfl, hn, hm⟩
theorem OwnZ.nil (b : Nat) (w : World) : OwnZ b w (.slice none 0 0) [] := World.ownsRow_nil _ _ _ _
theorem OwnZ.at {b : Nat} {w : World} {a : Option Addr} {n c : Nat} {l : List Nat} (h : OwnZ b w (.slice a n c) l) {k : Nat} (hk : k < l.length) : ∃ g, a = some ⟨g, 0, none⟩ ∧ g < w.heap.size ∧ b ≤ g ∧ ∀ j (hj : j < l.length), w.cell? ⟨g, j, none⟩ = some (.int .i64 l[j]) := by
  rcases h.2 with ⟨e, h0⟩ | ⟨g, cap, cur, e, hb, hg, hn, hm, hs, ht⟩
  · rw [h0] at hk; omega
  · cases e
    refine ⟨g, rfl, (Array.getElem?_eq_some_iff.1 hg).1, hb, fun j hj => ?_⟩
    rw [cell_of_row w g j cur 3 (0, 0) hg]
    have h1 : (intsV l)[j]? = some (.int .i64 (l[j] : Int)) := by simp [intsV, hj]
    rw [← ht, List.getElem?_take, if_pos (by omega)] at h1
    simpa using h1
theorem OwnZ.kept {b : Nat} {w w' : World} {v : Value} {l : List Nat} {F : Nat → Prop} (h : OwnZ b w v l) (hk : Kept F w w') (hF : ∀ g, b ≤ g → v.ownBlock = some g → ¬ F g) : OwnZ b w' v l := by
  refine ⟨h.1, ?_⟩
  rcases h.2 with h2 | ⟨g, cap, cur, rfl, h3, h4, h5⟩
  · exact .inl h2
  · exact .inr ⟨g, cap, cur, rfl, h3, (hk.block g (Array.getElem?_eq_some_iff.1 h4).1 (hF g h3 rfl)).trans h4, h5⟩
theorem OwnZ.mono {b b' : Nat} {w : World} {v : Value} {l : List Nat} (h : OwnZ b w v l) (hb : b' ≤ b) : OwnZ b' w v l := by
  refine ⟨h.1, ?_⟩
  rcases h.2 with h2 | ⟨g, cap, cur, rfl, h3, h4⟩
  · exact .inl h2
  · exact .inr ⟨g, cap, cur, rfl, by omega, h4⟩
theorem OwnZ.base {b : Nat} {w : World} {v : Value} {l : List Nat} (h : OwnZ b w v l) {g : Nat} (e : v.ownBlock = some g) : b ≤ g ∧ g < w.heap.size := World.ownsRow.lt h g e
theorem Tryz.info3 : (Tryz.prog.info? 3).map (fun i => (i.zero, i.size, i.bytes)) = some (some (.int .i64 0), 1, 8) := by kernel_rfl
theorem OwnZ.push {b : Nat} {w : World} {v : Value} {l : List Nat} (h : OwnZ b w v l) (hk0 : b ≤ w.heap.size) (a : Addr) (p : Nat) (h0 : w.cell? a = some (.int .i64 p)) (hl : l.length + 1 ≤ 1000000000000) :
    ∃ v' w', (Builtin.append_ #[23, 23] 23 #[v, .slice (some a) 1 1]).run Tryz.prog w = .ok v' w' ∧ OwnZ b w' v' (l ++ [p]) ∧ w.grownBy w' v.ownBlock ∧ (v'.ownBlock = v.ownBlock ∨ v'.ownBlock = some w.heap.size) := by
  obtain ⟨i0, hi, hz0, hz1, hz2⟩ := info_parts Tryz.info3
  obtain ⟨v', w', hrun, ho2, hg2, -, hb2⟩ := run_append_own_at (P := Tryz.prog) w b 23 23 3 i0 _ 1 8 Tryz.underlying23 hi hz0 hz1 hz2 rfl (by decide) _ _ _ h a 1 1 [.int .i64 (p : Int)] rfl (by
    intro j u hu
    match j, hu with
    | 0, hu => cases hu; exact h0
    | j + 1, hu => simp at hu) (by intro u hu; simp at hu; subst hu; rfl) (by unfold maxLen; omega) (by omega) hk0
  refine ⟨v', w', hrun, ?_, hg2, hb2⟩
  unfold OwnZ intsV
  rw [List.map_append, List.length_append]
  exact ho2

set_option maxRecDepth 100000 in
theorem indexZ_any (b : Nat) (w : World) (a : Option Addr) (c : Nat) (l : List Nat) (x : Nat) (h : OwnZ b w (.slice a l.length c) l) :
    Calls Tryz.prog 97 #[.slice a l.length c, .int .i64 x] w fun e w' => ∃ r : Int, e = .returned (.int .i64 r) ∧ w = w' ∧ (0 ≤ r ↔ x ∈ l) := by
  have hl63 : l.length ≤ 9223372036854775807 := by obtain ⟨_, _, e, h1, h2⟩ := h.form; unfold maxLen at h2; omega
  go_enter Tryz.func97, Tryz.ntmps97
  go_wp2_with fail
  go_loopw [8] (fun i wr => w = wr ∧ ∃ k : Nat, k ≤ l.length ∧ i = .int .i64 k ∧ Hid (∀ i (hi : i < l.length), i < k → l[i] ≠ x)) (fun i _ => l.length - (intOf i).toNat)
  case atStart => exact ⟨rfl, 0, Nat.zero_le _, rfl, Lib.hid (fun _ _ h => absurd h (Nat.not_lt_zero _))⟩
  case round =>
    obtain ⟨rfl, k, hk, rfl, hno⟩ := hrel
    by_cases hlt : k < l.length
    · obtain ⟨g, rfl, hg, -, hcs⟩ := h.at hlt
      have hc := hcs k hlt
      obtain ⟨y, hy⟩ : ∃ y, l[k] = y := ⟨_, rfl⟩
      rw [hy] at hc
      have HY := Lib.hid hy
      clear hy hcs
      by_cases hxy : x = y
      · have hM : Hid (x ∈ l) := Lib.hid (by rw [hxy, ← HY.out]; exact List.getElem_mem hlt)
        subst hxy
        go_wp2
        go_ret
        exact ⟨_, rfl, rfl, ⟨fun _ => hM.out, fun _ => by omega⟩⟩
      · have hxy2 : ((x : Int) == (y : Int)) = false := by simp; omega
        go_wp2
        go_roundw
        case rel => exact ⟨(by first | rfl | trivial), k + 1, by omega, by go_num, Lib.hid (fun i hi hik => by
          rcases Nat.lt_or_ge i k with h | h
          · exact hno.out i hi h
          · obtain rfl : i = k := by omega
            rw [HY.out]; exact fun e => hxy e.symm)⟩
        case measure => simp [intOf]; omega
    · have hM : Hid (x ∉ l) := Lib.hid (fun hm => by
        obtain ⟨i, hi, e⟩ := List.getElem_of_mem hm
        exact hno.out i hi (by omega) e)
      go_wp2
      go_ret
      exact ⟨_, rfl, by first | rfl | trivial, ⟨fun h => by omega, fun h => absurd h hM.out⟩⟩
theorem containsZ_any (b : Nat) (w : World) (a : Option Addr) (c : Nat) (l : List Nat) (x : Nat) (h : OwnZ b w (.slice a l.length c) l) :
    Calls Tryz.prog 46 #[.slice a l.length c, .int .i64 x] w fun e w' => e = .returned (.bool (decide (x ∈ l))) ∧ w = w' := by
  have hI := Lib.hid (indexZ_any b w a c l x h)
  go_enter Tryz.func46, Tryz.ntmps46
  go_wp2_with fail
  refine hI.out.mono ?_
  rintro e w1 ⟨r, rfl, rfl, hr⟩
  go_wp2
  go_ret
  refine ⟨?_, rfl⟩
  by_cases hm : x ∈ l
  · have := hr.2 hm
    simp [hm]
  · have : ¬ 0 ≤ r := fun h => hm (hr.1 h)
    simp [hm]

/-! ### strconv.Itoa's table -/
def Tab10 (w : World) : Prop := Lib.TabIs Tryz.prog w "internal/strconv.uint64pow10" .u64 Lib.pow10Tab
/-- The table is there, whatever is written from block B on. -/
def TabB (B : Nat) (w : World) : Prop := ∀ W, Kept (fun k => B ≤ k) w W → Tab10 W
theorem TabB.kept {B : Nat} {w w' : World} (h : TabB B w) {F : Nat → Prop} (hk : Kept F w w') (hF : ∀ k, F k → B ≤ k) : TabB B w' := fun W hW => h W ((hk.mono (fun i _ e => hF i e)).trans hW (fun _ _ e => e))
theorem TabB.keptN {B : Nat} {w w' : World} (h : TabB B w) (hk : Kept (fun _ => False) w w') : TabB B w' := h.kept hk (fun _ f => f.elim)
theorem kept_grow (w : World) (k : Nat) (os : Array Obj) : Kept (fun _ => False) w (Sort.grow (w.drewN k) os) := by
  refine ⟨rfl, rfl, rfl, ?_, fun i hi _ => ?_⟩
  · show w.heap.size ≤ (w.heap ++ os).size
    simp
  · show (w.heap ++ os)[i]? = w.heap[i]?
    rw [Array.getElem?_append_left hi]
theorem itoa_any (B : Nat) (w : World) (n : Nat) (hn : n ≤ 4611686018427387904) (hT : TabB B w) : Calls Tryz.prog 107 #[.int .i64 n] w fun e w' => e = .returned (.string (itS n)) ∧ Kept (fun _ => False) w w' := by
  refine (Any.strconv_Itoa Tryz.itoaL (n : Int) (by omega) (by omega) w (hT w (Kept.refl _ _))).mono ?_
  rintro e w' ⟨rfl, k, os, rfl⟩
  exact ⟨rfl, kept_grow _ _ _⟩
/-- The name of a run file. -/
theorem runName_any (B : Nat) (w : World) (m : Nat) (file : ByteArray) (n : Nat) (hn : n ≤ 4611686018427387904) (hf : w.cell? ⟨m, 2, none⟩ = some (.string file)) (hfs : file.size ≤ 100) (hT : TabB B w) :
    Calls Tryz.prog 94 #[.pointer (some ⟨m, 0, none⟩), .int .i64 n] w fun e w' => e = .returned (.string (runN file n)) ∧ Kept (fun _ => False) w w' :=
  name_any w m file (itS n) n hf hfs (by have := itS_size n hn; omega) (fun W hW => itoa_any B W n hn (hT.keptN hW))
theorem runN_size (file : ByteArray) (n : Nat) (hn : n ≤ 4611686018427387904) (hf : file.size ≤ 100) : (runN file n).size ≤ 200 := by
  have h1 := itS_size n hn
  have h2 : ({ data := #[45] } : ByteArray).size = 1 := rfl
  unfold runN runName
  rw [ByteArray.size_append, ByteArray.size_append]
  omega

theorem digGo_snoc : ∀ (i n : Nat) (l : List UInt8) (c : UInt8) (m : Nat), digGo i n l = some m → digGo i n (l ++ [c]) = if c < 48 ∨ 57 < c ∨ 10 ≤ i + l.length then none else some (10 * m + (c.toNat - 48))
  | i, n, [], c, m, h => by
    simp only [digGo, Option.some.injEq] at h
    subst h
    simp [digGo]
  | i, n, d :: l, c, m, h => by
    unfold digGo at h
    split at h
    · cases h
    · rename_i hc
      rw [List.cons_append, digGo, if_neg hc, digGo_snoc (i + 1) _ l c m h]
      simp only [List.length_cons]
      have e : i + 1 + l.length = i + (l.length + 1) := by omega
      rw [e]
theorem digGo_none : ∀ (i n : Nat) (l l' : List UInt8), digGo i n l = none → digGo i n (l ++ l') = none
  | i, n, [], l', h => by simp [digGo] at h
  | i, n, d :: l, l', h => by
    unfold digGo at h
    rw [List.cons_append, digGo]
    split at h
    · rename_i hc; rw [if_pos hc]
    · rename_i hc; rw [if_neg hc]; exact digGo_none _ _ l l' h
theorem digGo_lt : ∀ (i n : Nat) (l : List UInt8) (m : Nat), digGo i n l = some m → n < 10 ^ i → m < 10 ^ (i + l.length) ∧ (l = [] ∨ i + l.length ≤ 10)
  | i, n, [], m, h, hn => by simp only [digGo, Option.some.injEq] at h; subst h; exact ⟨by simpa using hn, .inl rfl⟩
  | i, n, d :: l, m, h, hn => by
    unfold digGo at h
    split at h
    · cases h
    · rename_i hc
      have h9 : d.toNat ≤ 57 := by
        have : ¬ 57 < d := fun e => hc (.inr (.inl e))
        have h2 : ¬ (57 : UInt8).toNat < d.toNat := fun e => this (UInt8.lt_iff_toNat_lt.2 e)
        have : (57 : UInt8).toNat = 57 := rfl
        omega
      obtain ⟨h1, h2⟩ := digGo_lt (i + 1) _ l m h (by rw [Nat.pow_succ]; omega)
      have e : i + 1 + l.length = i + (d :: l).length := by simp only [List.length_cons]; omega
      rw [e] at h1 h2
      refine ⟨h1, .inr ?_⟩
      rcases h2 with rfl | h2
      · have : ¬ 10 ≤ i := fun e => hc (.inr (.inr e))
        simp only [List.length_cons, List.length_nil]; omega
      · exact h2
end Go.Proofs.YtemilbemdlpkaaaGreatDoor
