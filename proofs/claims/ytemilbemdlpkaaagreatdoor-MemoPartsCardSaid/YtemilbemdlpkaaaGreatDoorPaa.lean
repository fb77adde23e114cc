/- Shared words: frames with a footprint, byte slices, maps keyed by strings as lists of pairs. -/
import Derived.WalkKit
import Derived.WalkSpells
import Derived.WalkLawsBesides
import Derived.Maps.OwnOps
import Derived.ChangeMaps4
import Derived.MapKept
import Derived.Lib.Hide
import Derived.Test.YtemilbemdlpkaaaGreatDoorRows
namespace Go.Proofs.YtemilbemdlpkaaaGreatDoor
open Go.RowKit Go.ChangeMaps Go.MapKept

/-- Outside the blocks F, what lay in w lies in w' as it lay. -/
structure Kept (F : Nat → Prop) (w w' : World) : Prop where
  os : w'.os = w.os
  tape : w'.tape = w.tape
  output : w'.output = w.output
  size : w.heap.size ≤ w'.heap.size
  block : ∀ k, k < w.heap.size → ¬ F k → w'.heap[k]? = w.heap[k]?

theorem Kept.refl (F : Nat → Prop) (w : World) : Kept F w w := ⟨rfl, rfl, rfl, Nat.le_refl _, fun _ _ _ => rfl⟩

theorem Kept.trans {F G : Nat → Prop} {a b c : World} (h : Kept F a b) (k : Kept G b c) (hG : ∀ i, i < a.heap.size → G i → F i) : Kept F a c :=
  ⟨k.os.trans h.os, k.tape.trans h.tape, k.output.trans h.output, Nat.le_trans h.size k.size,
    fun i hi hf => (k.block i (Nat.lt_of_lt_of_le hi h.size) (fun g => hf (hG i hi g))).trans (h.block i hi hf)⟩

theorem Kept.mono {F G : Nat → Prop} {a b : World} (h : Kept F a b) (hG : ∀ i, i < a.heap.size → F i → G i) : Kept G a b :=
  ⟨h.os, h.tape, h.output, h.size, fun i hi hg => h.block i hi (fun f => hg (hG i hi f))⟩

theorem Kept.drew {F : Nat → Prop} {a w : World} (h : Kept F a w) : Kept F a w.drew := ⟨h.os, h.tape, h.output, h.size, h.block⟩
theorem Kept.drewN {F : Nat → Prop} {a w : World} (h : Kept F a w) (n : Nat) : Kept F a (w.drewN n) := ⟨h.os, h.tape, h.output, h.size, h.block⟩

theorem Kept.alloc {F : Nat → Prop} {a w : World} (h : Kept F a w) (o : Obj) : Kept F a (w.alloc o) :=
  ⟨h.os, h.tape, h.output, Nat.le_trans h.size (by simp), fun k hk hf => (Below.heap_alloc _ _ _ (Nat.lt_of_lt_of_le hk h.size)).trans (h.block k hk hf)⟩

theorem Kept.setCell {F : Nat → Prop} {a w : World} (h : Kept F a w) {p : Addr} (hp : p.block < a.heap.size → F p.block) (u : Value) : Kept F a (w.setCell p u) :=
  ⟨h.os, h.tape, h.output, Nat.le_trans h.size (by simp [World.setCell]), fun k hk hf =>
    (Below.heap_setCell _ _ _ _ (fun e => hf (by rw [e]; exact hp (e ▸ hk)))).trans (h.block k hk hf)⟩

theorem Kept.setBlock {F : Nat → Prop} {a w : World} (h : Kept F a w) {b : Nat} (hp : b < a.heap.size → F b) (o : Obj) : Kept F a (setBlock w b o) :=
  ⟨h.os, h.tape, h.output, Nat.le_trans h.size (by simp [ChangeMaps.setBlock]), fun k hk hf => by
    have hne : b ≠ k := fun e => hf (by subst e; exact hp hk)
    rw [show (ChangeMaps.setBlock w b o).heap[k]? = w.heap[k]? from by simp [ChangeMaps.setBlock, hne]]
    exact h.block k hk hf⟩

theorem Kept.of_below {F : Nat → Prop} {w w' : World} {B : Nat} (hB : w.heap.size ≤ B) (h : Below B w w') : Kept F w w' :=
  ⟨h.os, h.tape, h.output, h.size, fun k hk _ => h.block k (by omega)⟩

theorem Kept.below {F : Nat → Prop} {w w' : World} {B : Nat} (h : Kept F w w') (hB : B ≤ w.heap.size) (hF : ∀ k, k < B → ¬ F k) : Below B w w' :=
  ⟨h.os, h.tape, h.output, h.size, fun k hk => h.block k (by omega) (hF k hk)⟩

theorem Kept.grown {F : Nat → Prop} {a w w' : World} {row : Option Nat} (h : Kept F a w) (hg : w.grownBy w' row) (hr : ∀ k, row = some k → k < a.heap.size → F k) : Kept F a w' :=
  ⟨hg.os.trans h.os, hg.tape.trans h.tape, hg.output.trans h.output, Nat.le_trans h.size hg.size,
    fun k hk hf => (hg.block k (Nat.lt_of_lt_of_le hk h.size) (fun e => hf (hr k e.symm hk))).trans (h.block k hk hf)⟩

/-- What is new may be written. -/
theorem Kept.more {F : Nat → Prop} {a b c : World} (h : Kept (fun _ => False) a b) (k : Kept F b c) (hF : ∀ i, F i → a.heap.size ≤ i) : Kept (fun _ => False) a c :=
  ⟨k.os.trans h.os, k.tape.trans h.tape, k.output.trans h.output, Nat.le_trans h.size k.size,
    fun i hi hf => (k.block i (Nat.lt_of_lt_of_le hi h.size) (fun g => by have := hF i g; omega)).trans (h.block i hi hf)⟩

/-- Bytes as cells. -/
def bytesV (bs : List UInt8) : List Value := bs.map fun b => .int .u8 (b.toNat : Int)
@[simp] theorem bytesV_length (bs : List UInt8) : (bytesV bs).length = bs.length := by simp [bytesV]
@[simp] theorem bytesV_append (a b : List UInt8) : bytesV (a ++ b) = bytesV a ++ bytesV b := by simp [bytesV]
theorem bytesV_one (bs : List UInt8) : ∀ u ∈ bytesV bs, u.oneCell' = true := by
  intro u hu; obtain ⟨b, _, rfl⟩ := List.mem_map.1 hu; rfl
theorem bytesV_inj {a b : List UInt8} (h : bytesV a = bytesV b) : a = b :=
  (List.map_inj_right (fun x y e => by simp only [Value.int.injEq, true_and] at e; exact UInt8.toNat_inj.1 (by omega))).1 h

/-- A slice value that reads as these bytes, wherever it lies. -/
def IsB (w : World) (v : Value) (bs : List UInt8) : Prop :=
  ∃ a c, v = .slice a bs.length c ∧ bs.length ≤ c ∧ c ≤ maxLen ∧ (bs = [] ∨ ∃ g o, a = some ⟨g, o, none⟩ ∧ g < w.heap.size ∧ ∀ i x, (bytesV bs)[i]? = some x → w.cell? ⟨g, o + i, none⟩ = some x)

/-- The slice value owns these bytes. -/
def OwnB (w : World) (v : Value) (bs : List UInt8) : Prop := w.ownsRow 0 5 1 v bs.length (bytesV bs)

theorem OwnB.form {w : World} {v : Value} {bs : List UInt8} (h : OwnB w v bs) : ∃ a c, v = .slice a bs.length c ∧ bs.length ≤ c ∧ c ≤ maxLen := by
  rcases h.2 with ⟨rfl, h0⟩ | ⟨g, cap, cur, rfl, _, _, hn, hm, _⟩
  · exact ⟨none, 0, by rw [h0], by omega, by simp [maxLen]⟩
  · exact ⟨_, cap, rfl, hn, hm⟩

theorem OwnB.isB {w : World} {v : Value} {bs : List UInt8} (h : OwnB w v bs) : IsB w v bs := by
  obtain ⟨_, h2⟩ := h
  rcases h2 with ⟨rfl, h0⟩ | ⟨g, cap, cur, rfl, _, hg, hn, hc, hs, ht⟩
  · have : bs = [] := List.length_eq_zero_iff.1 h0
    subst this
    exact ⟨none, 0, rfl, Nat.le_refl _, by simp [maxLen], .inl rfl⟩
  · refine ⟨some ⟨g, 0, none⟩, cap, rfl, hn, hc, .inr ⟨g, 0, rfl, (Array.getElem?_eq_some_iff.1 hg).1, fun i x hx => ?_⟩⟩
    rw [Nat.zero_add, cell_of_row w g i cur 5 (0, 0) hg]
    rw [← ht, List.getElem?_take] at hx
    split at hx
    · simpa using hx
    · cases hx

theorem IsB.kept {w w' : World} {v : Value} {bs : List UInt8} (h : IsB w v bs) (hs : w.heap.size ≤ w'.heap.size) (hk : ∀ g, v.ownBlock = some g → w'.heap[g]? = w.heap[g]?) : IsB w' v bs := by
  obtain ⟨a, c, rfl, h1, h2, h3⟩ := h
  refine ⟨a, c, rfl, h1, h2, ?_⟩
  rcases h3 with h3 | ⟨g, o, rfl, hg, h4⟩
  · exact .inl h3
  · exact .inr ⟨g, o, rfl, by omega, fun i x hx => (World.cell?_of_block (w := w) (hk g rfl)).trans (h4 i x hx)⟩

theorem OwnB.kept {w w' : World} {v : Value} {bs : List UInt8} (h : OwnB w v bs) (hk : ∀ g, v.ownBlock = some g → w'.heap[g]? = w.heap[g]?) : OwnB w' v bs := by
  refine ⟨h.1, ?_⟩
  rcases h.2 with hn | ⟨g, cap, cur, rfl, hb, hgg, rest⟩
  · exact .inl hn
  · exact .inr ⟨g, cap, cur, rfl, hb, by rw [hk g rfl]; exact hgg, rest⟩

theorem OwnB.lt {w : World} {v : Value} {bs : List UInt8} (h : OwnB w v bs) : ∀ k, v.ownBlock = some k → k < w.heap.size := fun k hk => (World.ownsRow.lt h k hk).2

theorem heap_setCell_row {w : World} {b o : Nat} {c : Array Value} {e : TypeId} {f : Nat × Nat} (h : w.heap[b]? = some (.cells c e f)) (v : Value) :
    (w.setCell ⟨b, o, none⟩ v).heap[b]? = some (.cells (c.setIfInBounds o v) e f) := by
  simp [World.setCell, Array.getElem?_modify, h]
theorem heap_setCell_ne {w : World} {b o k : Nat} (h : k ≠ b) (v : Value) : (w.setCell ⟨b, o, none⟩ v).heap[k]? = w.heap[k]? := Below.heap_setCell _ _ _ _ h
@[simp] theorem heap_size_setCell (w : World) (a : Addr) (v : Value) : (w.setCell a v).heap.size = w.heap.size := by simp [World.setCell]
@[simp] theorem heap_size_setBlock (w : World) (b : Nat) (o : Obj) : (setBlock w b o).heap.size = w.heap.size := by simp [ChangeMaps.setBlock]
theorem heap_setBlock_ne {w : World} {b k : Nat} (h : k ≠ b) (o : Obj) : (setBlock w b o).heap[k]? = w.heap[k]? := by
  simp [ChangeMaps.setBlock, Ne.symm h]

theorem ne_map_of_cell {w : World} {m : Nat} {es : Array MapEntry} {clock : Nat} {a : Addr} {v : Value} (hm : w.heap[m]? = some (.map es clock)) (h : w.cell? a = some v) : a.block ≠ m := by
  intro e
  unfold World.cell? at h
  rw [e, hm] at h
  cases h
theorem cell_setBlock_map {w : World} {m : Nat} {es : Array MapEntry} {clock : Nat} {a : Addr} {v : Value} (hm : w.heap[m]? = some (.map es clock)) (o : Obj) (h : w.cell? a = some v) : (setBlock w m o).cell? a = some v :=
  (World.cell?_of_block (w := w) (heap_setBlock_ne (ne_map_of_cell hm h) o)).trans h

/-! ### maps, entry by entry -/

/-- Keys of one kind: how they stand as values, and that the machine tells them apart. -/
structure KeyEnc {α : Type} (P : Program) (K : TypeId) (enc : α → Value) : Prop where
  same : ∃ d, P.underlying K = some d ∧ ∀ a b, (Instr.sameNow d (enc a) (enc b) = some true ∧ a = b) ∨ (Instr.sameNow d (enc a) (enc b) = some false ∧ a ≠ b)
  check : ∀ b a w, (Instr.checkKey b 10000 K (enc a)).run P w = .ok () w
  stays : ∀ a, Instr.sameBits 10000 (enc a) (enc a) = true

theorem KeyEnc.inj {α : Type} {P : Program} {K : TypeId} {enc : α → Value} (E : KeyEnc P K enc) {a b : α} (h : enc a = enc b) : a = b := by
  obtain ⟨d, _, hd⟩ := E.same
  rcases hd a b with ⟨_, h1⟩ | ⟨h1, h2⟩
  · exact h1
  · rcases hd a a with ⟨h3, _⟩ | ⟨_, h4⟩
    · rw [← h, h3] at h1
      cases h1
    · exact absurd rfl h4

section
variable {α β : Type} [DecidableEq α]

/-- What a list of pairs has for a key (the first that has it). -/
def getA (k : α) : List (α × β) → Option β
  | [] => none
  | p :: l => if p.1 = k then some p.2 else getA k l
/-- .. with another one for a key; a new key comes last. -/
def putA (k : α) (v : β) : List (α × β) → List (α × β)
  | [] => [(k, v)]
  | p :: l => if p.1 = k then (k, v) :: l else p :: putA k v l
/-- .. without a key. -/
def delA (k : α) : List (α × β) → List (α × β)
  | [] => []
  | p :: l => if p.1 = k then l else p :: delA k l

theorem getA_mem {k : α} {l : List (α × β)} {v : β} (h : getA k l = some v) : (k, v) ∈ l := by
  induction l with
  | nil => cases h
  | cons p l ih =>
    unfold getA at h
    split at h
    · rename_i hp; cases h; subst hp; simp
    · exact List.mem_cons_of_mem _ (ih h)

theorem getA_none {k : α} {l : List (α × β)} (h : getA k l = none) : ∀ p ∈ l, p.1 ≠ k := by
  induction l with
  | nil => simp
  | cons p l ih =>
    unfold getA at h
    split at h
    · cases h
    · rename_i hp
      intro q hq
      rcases List.mem_cons.1 hq with rfl | hq
      · exact hp
      · exact ih h q hq

theorem getA_putA_same (k : α) (v : β) (l : List (α × β)) : getA k (putA k v l) = some v := by
  induction l with
  | nil => simp [putA, getA]
  | cons p l ih =>
    unfold putA
    split
    · simp [getA]
    · rename_i h; simp [getA, h, ih]

theorem getA_putA_ne {k k' : α} (h : k' ≠ k) (v : β) (l : List (α × β)) : getA k' (putA k v l) = getA k' l := by
  induction l with
  | nil => simp [putA, getA, h.symm]
  | cons p l ih =>
    unfold putA
    split
    · rename_i hp; subst hp; simp [getA, Ne.symm h]
    · simp [getA, ih]

theorem putA_of_none {k : α} {l : List (α × β)} (h : getA k l = none) (v : β) : putA k v l = l ++ [(k, v)] := by
  induction l with
  | nil => rfl
  | cons p l ih =>
    unfold getA at h
    split at h
    · cases h
    · rename_i hp
      unfold putA
      rw [if_neg hp, ih h]; rfl

theorem length_putA (k : α) (v : β) (l : List (α × β)) : (putA k v l).length = if (getA k l).isSome then l.length else l.length + 1 := by
  induction l with
  | nil => simp [putA, getA]
  | cons p l ih =>
    unfold putA getA
    split
    · simp
    · simp only [List.length_cons, ih]; split <;> rfl

theorem mem_putA {k : α} {v : β} {l : List (α × β)} {q : α × β} (h : q ∈ putA k v l) : q = (k, v) ∨ q ∈ l := by
  induction l with
  | nil => simpa [putA] using h
  | cons p l ih =>
    unfold putA at h
    split at h
    · rcases List.mem_cons.1 h with h | h
      · exact .inl h
      · exact .inr (List.mem_cons_of_mem _ h)
    · rcases List.mem_cons.1 h with h | h
      · exact .inr (by simp [h])
      · rcases ih h with h | h
        · exact .inl h
        · exact .inr (List.mem_cons_of_mem _ h)

theorem mem_delA {k : α} {l : List (α × β)} {q : α × β} (h : q ∈ delA k l) : q ∈ l := by
  induction l with
  | nil => cases h
  | cons p l ih =>
    unfold delA at h
    split at h
    · exact List.mem_cons_of_mem _ h
    · rcases List.mem_cons.1 h with h | h
      · simp [h]
      · exact List.mem_cons_of_mem _ (ih h)

theorem getA_delA_ne {k k' : α} (h : k' ≠ k) (l : List (α × β)) : getA k' (delA k l) = getA k' l := by
  induction l with
  | nil => rfl
  | cons p l ih =>
    unfold delA
    split
    · rename_i hp; subst hp; simp [getA, Ne.symm h]
    · simp [getA, ih]

/-- No key twice. -/
def NodupA (l : List (α × β)) : Prop := (l.map (·.1)).Nodup

theorem NodupA.put {l : List (α × β)} (h : NodupA l) (k : α) (v : β) : NodupA (putA k v l) := by
  induction l with
  | nil => simp [NodupA, putA]
  | cons p l ih =>
    simp only [NodupA, List.map_cons, List.nodup_cons, List.mem_map] at h
    unfold putA
    split
    · rename_i hp
      simp only [NodupA, List.map_cons, List.nodup_cons, List.mem_map]
      exact ⟨hp ▸ h.1, h.2⟩
    · rename_i hp
      simp only [NodupA, List.map_cons, List.nodup_cons, List.mem_map]
      refine ⟨?_, ih h.2⟩
      rintro ⟨q, hq, he⟩
      rcases mem_putA hq with rfl | hq
      · exact hp he.symm
      · exact h.1 ⟨q, hq, he⟩

theorem NodupA.del {l : List (α × β)} (h : NodupA l) (k : α) : NodupA (delA k l) := by
  induction l with
  | nil => simp [NodupA, delA]
  | cons p l ih =>
    simp only [NodupA, List.map_cons, List.nodup_cons, List.mem_map] at h
    unfold delA
    split
    · exact h.2
    · simp only [NodupA, List.map_cons, List.nodup_cons, List.mem_map]
      refine ⟨?_, ih h.2⟩
      rintro ⟨q, hq, he⟩
      exact h.1 ⟨q, mem_delA hq, he⟩

theorem getA_delA_same {k : α} {l : List (α × β)} (h : NodupA l) : getA k (delA k l) = none := by
  induction l with
  | nil => rfl
  | cons p l ih =>
    simp only [NodupA, List.map_cons, List.nodup_cons, List.mem_map] at h
    unfold delA
    split
    · rename_i hp
      subst hp
      cases hg : getA p.1 l with
      | none => rfl
      | some v => exact absurd ⟨(p.1, v), getA_mem hg, rfl⟩ h.1
    · rename_i hp
      simp [getA, hp, ih h.2]

theorem length_delA {k : α} {l : List (α × β)} : (delA k l).length = if (getA k l).isSome then l.length - 1 else l.length := by
  induction l with
  | nil => rfl
  | cons p l ih =>
    unfold delA getA
    split
    · simp
    · simp only [List.length_cons, ih]
      split
      · rename_i hs
        cases l with
        | nil => simp [getA] at hs
        | cons _ _ => simp
      · rfl

/-- The entries are these pairs, one by one. -/
def RelM (enc : α → Value) (R : Value → β → Prop) : List MapEntry → List (α × β) → Prop
  | [], [] => True
  | e :: es, p :: l => (e.key = enc p.1 ∧ R e.val p.2) ∧ RelM enc R es l
  | _, _ => False

variable {P : Program} {K : TypeId} {enc : α → Value} {R R' : Value → β → Prop}

omit [DecidableEq α] in
theorem RelM.length : ∀ {es : List MapEntry} {l : List (α × β)}, RelM enc R es l → es.length = l.length
  | [], [], _ => rfl
  | _ :: _, _ :: _, h => by simp [RelM.length h.2]
  | [], _ :: _, h => h.elim
  | _ :: _, [], h => h.elim

omit [DecidableEq α] in
theorem RelM.mono : ∀ {es : List MapEntry} {l : List (α × β)}, RelM enc R es l → (∀ e ∈ es, ∀ b, R e.val b → R' e.val b) → RelM enc R' es l
  | [], [], _, _ => trivial
  | e :: _, _ :: _, h, k => ⟨⟨h.1.1, k e (by simp) _ h.1.2⟩, RelM.mono h.2 (fun x hx => k x (by simp [hx]))⟩
  | [], _ :: _, h, _ => h.elim
  | _ :: _, [], h, _ => h.elim

omit [DecidableEq α] in
theorem RelM.mem : ∀ {es : List MapEntry} {l : List (α × β)}, RelM enc R es l → ∀ e ∈ es, ∃ p ∈ l, e.key = enc p.1 ∧ R e.val p.2
  | _ :: _, p :: _, h, e, he => by
    rcases List.mem_cons.1 he with rfl | he
    · exact ⟨p, by simp, h.1⟩
    · obtain ⟨q, hq, h2⟩ := RelM.mem h.2 e he
      exact ⟨q, by simp [hq], h2⟩
  | [], [], _, _, he => by cases he
  | _ :: _, [], h, _, _ => h.elim

omit [DecidableEq α] in
theorem RelM.mem' : ∀ {es : List MapEntry} {l : List (α × β)}, RelM enc R es l → ∀ p ∈ l, ∃ e ∈ es, e.key = enc p.1 ∧ R e.val p.2
  | e :: _, _ :: _, h, p, hp => by
    rcases List.mem_cons.1 hp with rfl | hp
    · exact ⟨e, by simp, h.1⟩
    · obtain ⟨q, hq, h2⟩ := RelM.mem' h.2 p hp
      exact ⟨q, by simp [hq], h2⟩
  | [], [], _, _, hp => by cases hp
  | [], _ :: _, h, _, _ => h.elim

/-- What the machine's search finds. -/
theorem findNow_rel {d : TypeDesc} (hd : ∀ a b, (Instr.sameNow d (enc a) (enc b) = some true ∧ a = b) ∨ (Instr.sameNow d (enc a) (enc b) = some false ∧ a ≠ b)) (k : α) :
    ∀ (es : List MapEntry) (l : List (α × β)) (i : Nat), RelM enc R es l →
      (Instr.findNow d (enc k) es i = some none ∧ getA k l = none) ∨
      ∃ (pre post : List MapEntry) (e : MapEntry) (b : β) (lpre lpost : List (α × β)), es = pre ++ e :: post ∧ l = lpre ++ (k, b) :: lpost ∧ Instr.findNow d (enc k) es i = some (some (i + pre.length, e.val)) ∧ e.key = enc k ∧ R e.val b ∧
        RelM enc R pre lpre ∧ RelM enc R post lpost ∧ getA k lpre = none
  | [], [], i, _ => .inl ⟨rfl, rfl⟩
  | e :: es, p :: l, i, h => by
    rcases hd k p.1 with ⟨h1, h2⟩ | ⟨h1, h2⟩
    · right
      refine ⟨[], es, e, p.2, [], l, rfl, by simp [h2], ?_, by rw [h.1.1, h2], h.1.2, trivial, h.2, rfl⟩
      unfold Instr.findNow
      rw [h.1.1, h1]
      rfl
    · rcases findNow_rel hd k es l (i + 1) h.2 with ⟨h3, h4⟩ | ⟨pre, post, e', b, lpre, lpost, h3, h4, h5, h6, h7, h8, h9, h10⟩
      · left
        refine ⟨?_, by simp [getA, Ne.symm h2, h4]⟩
        unfold Instr.findNow
        rw [h.1.1, h1]
        exact h3
      · right
        refine ⟨e :: pre, post, e', b, p :: lpre, lpost, by simp [h3], by simp [h4], ?_, h6, h7, ⟨h.1, h8⟩, h9, by simp [getA, Ne.symm h2, h10]⟩
        unfold Instr.findNow
        rw [h.1.1, h1]
        simp only []
        rw [h5]
        simp only [List.length_cons, Option.some.injEq, Prod.mk.injEq, and_true]
        omega
  | [], _ :: _, _, h => h.elim
  | _ :: _, [], _, h => h.elim

theorem getA_append_same {k : α} {b : β} {l l' : List (α × β)} (h : getA k l = none) : getA k (l ++ (k, b) :: l') = some b := by
  induction l with
  | nil => simp [getA]
  | cons p l ih =>
    unfold getA at h
    split at h
    · cases h
    · rename_i hp; simp [getA, hp, ih h]

theorem putA_append_same {k : α} {b v : β} {l l' : List (α × β)} (h : getA k l = none) : putA k v (l ++ (k, b) :: l') = l ++ (k, v) :: l' := by
  induction l with
  | nil => simp [putA]
  | cons p l ih =>
    unfold getA at h
    split at h
    · cases h
    · rename_i hp; simp [putA, hp, ih h]

theorem delA_append_same {k : α} {b : β} {l l' : List (α × β)} (h : getA k l = none) : delA k (l ++ (k, b) :: l') = l ++ l' := by
  induction l with
  | nil => simp [delA]
  | cons p l ih =>
    unfold getA at h
    split at h
    · cases h
    · rename_i hp; simp [delA, hp, ih h]

theorem delA_of_none {k : α} {l : List (α × β)} (h : getA k l = none) : delA k l = l := by
  induction l with
  | nil => rfl
  | cons p l ih =>
    unfold getA at h
    split at h
    · cases h
    · rename_i hp; simp [delA, hp, ih h]

omit [DecidableEq α] in
theorem RelM.append : ∀ {es es' : List MapEntry} {l l' : List (α × β)}, RelM enc R es l → RelM enc R es' l' → RelM enc R (es ++ es') (l ++ l')
  | [], _, [], _, _, h => h
  | _ :: _, _, _ :: _, _, h, h' => ⟨h.1, RelM.append h.2 h'⟩
  | [], _, _ :: _, _, h, _ => h.elim
  | _ :: _, _, [], _, h, _ => h.elim

theorem run_findKey_of {d : TypeDesc} {k : Value} {es : List MapEntry} {r : Option (Nat × Value)} (hK : P.underlying K = some d) (h : Instr.findNow d k es 0 = some r) (w : World) :
    (Instr.findKey K k es).run P w = .ok r w := by
  simp only [Instr.findKey, Sem.run_bind, run_underlying hK, Result.andThen, h, Sem.run_pure]

theorem run_lookup_rel {T E m : TypeId} {es : Array MapEntry} {clock : Nat} {z : Value} {l : List (α × β)} (hE : KeyEnc P K enc) (hT : P.underlying T = some (.map K E)) (hz : ∀ w, (zeroValue E).run P w = .ok z w)
    (h : RelM enc R es.toList l) (k : α) (ok : Bool) :
    ∃ v, (∀ w, w.heap[m]? = some (.map es clock) → (Instr.lookup T (.map (some m)) (enc k) ok).run P w = .ok (if ok then .tuple #[v, .bool (getA k l).isSome] else v) w) ∧
      ((getA k l = none ∧ v = z) ∨ ∃ b e, getA k l = some b ∧ R v b ∧ e ∈ es.toList ∧ e.key = enc k ∧ e.val = v) := by
  obtain ⟨d, hK, hd⟩ := hE.same
  rcases findNow_rel hd k es.toList l 0 h with ⟨h1, h2⟩ | ⟨pre, post, e, b, lpre, lpost, h1, h2, h3, h4, h5, h6, h7, h8⟩
  · refine ⟨z, fun w hm => ?_, .inl ⟨h2, rfl⟩⟩
    simp only [Instr.lookup, Sem.run_bind, run_underlying hT, Result.andThen, MapKept.run_getObj_map hm, hE.check, run_findKey_of hK h1, Sem.run_pure, hz, h2]
    cases ok <;> simp
  · refine ⟨e.val, fun w hm => ?_, .inr ⟨b, e, by rw [h2]; exact getA_append_same h8, h5, by rw [h1]; simp, h4, rfl⟩⟩
    simp only [Instr.lookup, Sem.run_bind, run_underlying hT, Result.andThen, MapKept.run_getObj_map hm, hE.check, run_findKey_of hK h3, Sem.run_pure, h2, getA_append_same h8]
    cases ok <;> simp

theorem run_keyThatStays_same {v : Value} (h : Instr.sameBits 10000 v v = true) (w : World) : (Instr.keyThatStays v v).run P w = .ok v w := by
  simp [Instr.keyThatStays, h]

theorem modify_at {pre post : List MapEntry} {e : MapEntry} {es : Array MapEntry} (h : es.toList = pre ++ e :: post) (f : MapEntry → MapEntry) : (es.modify pre.length f).toList = pre ++ f e :: post := by
  rw [Array.toList_modify, h]
  clear h
  induction pre with
  | nil => rfl
  | cons x pre ih => simpa using ih

theorem run_mapUpdate_rel {T E m : TypeId} {es : Array MapEntry} {clock : Nat} {l : List (α × β)} (hE : KeyEnc P K enc) (hT : P.underlying T = some (.map K E))
    (h : RelM enc R es.toList l) (hs : Stamped es clock) (k : α) (v : Value) (b : β) (hv : R' v b) (hR : ∀ e ∈ es.toList, e.key ≠ enc k → ∀ b, R e.val b → R' e.val b) :
    ∃ es' clock', (∀ w, w.heap[m]? = some (.map es clock) → (Instr.mapUpdate T (.map (some m)) (enc k) v).run P w = .ok () (setBlock w m (.map es' clock'))) ∧
      RelM enc R' es'.toList (putA k b l) ∧ Stamped es' clock' ∧ (∀ e ∈ es'.toList, (e.val = v ∧ e.key = enc k) ∨ (e ∈ es.toList ∧ e.key ≠ enc k)) := by
  obtain ⟨d, hK, hd⟩ := hE.same
  rcases findNow_rel hd k es.toList l 0 h with ⟨h1, h2⟩ | ⟨pre, post, e, b', lpre, lpost, h1, h2, h3, h4, h5, h6, h7, h8⟩
  · have hne : ∀ e ∈ es.toList, e.key ≠ enc k := by
      intro e he hk
      obtain ⟨p, hp, h3, _⟩ := h.mem e he
      exact getA_none h2 p hp (hE.inj (h3.symm.trans hk))
    refine ⟨es.push { key := enc k, val := v, born := clock }, clock + 1, fun w hm => ?_, ?_, stamped_push hs (by simpa using hne), ?_⟩
    · simp only [Instr.mapUpdate, Sem.run_bind, run_underlying hT, Result.andThen, MapKept.run_getObj_map hm, hE.check, run_findKey_of hK h1]
      rw [MapKept.run_setObj_map _ hm]; rfl
    · rw [putA_of_none h2, Array.toList_push]
      exact (h.mono (fun e he => hR e he (hne e he))).append ⟨⟨rfl, hv⟩, trivial⟩
    · intro e he
      rw [Array.toList_push, List.mem_append] at he
      rcases he with he | he
      · exact .inr ⟨he, hne e he⟩
      · rw [List.mem_singleton] at he; subst he; exact .inl ⟨rfl, rfl⟩
  · have he' : es[pre.length]? = some e := by
      rw [← Array.getElem?_toList, h1]; simp
    have hmod := modify_at h1 (fun x => { x with key := enc k, val := v })
    have hkeys : ∀ x ∈ pre ++ post, x.key ≠ enc k := by
      intro x hx hk
      have hn := (stamped_iff es clock).1 hs
      have hp := hn.2.2
      rw [h1, List.pairwise_append] at hp
      rcases List.mem_append.1 hx with hx | hx
      · exact hp.2.2 x hx e (by simp) (by rw [hk, h4])
      · exact (List.pairwise_cons.1 hp.2.1).1 x hx (by rw [hk, h4])
    refine ⟨es.modify pre.length fun x => { x with key := enc k, val := v }, clock, fun w hm => ?_, ?_, ?_, ?_⟩
    · simp only [Instr.mapUpdate, Sem.run_bind, run_underlying hT, Result.andThen, MapKept.run_getObj_map hm, hE.check, run_findKey_of hK h3, Nat.zero_add, he', Option.map_some, Option.getD_some, h4, run_keyThatStays_same (hE.stays k)]
      rw [MapKept.run_setObj_map _ hm]; rfl
    · rw [hmod, h2, putA_append_same h8]
      exact (h6.mono (fun x hx => hR x (by rw [h1]; simp [hx]) (hkeys x (by simp [hx])))).append ⟨⟨rfl, hv⟩, h7.mono (fun x hx => hR x (by rw [h1]; simp [hx]) (hkeys x (by simp [hx])))⟩
    · refine stamped_modify hs _ _ (fun _ _ => rfl) (fun x _ hx => ?_)
      rw [he'] at hx; cases hx; exact h4.symm
    · intro x hx
      rw [hmod] at hx
      rcases List.mem_append.1 hx with hx | hx
      · exact .inr ⟨by rw [h1]; simp [hx], hkeys x (by simp [hx])⟩
      · rcases List.mem_cons.1 hx with rfl | hx
        · exact .inl ⟨rfl, rfl⟩
        · exact .inr ⟨by rw [h1]; simp [hx], hkeys x (by simp [hx])⟩

theorem run_delete_rel {T E m ty : TypeId} {es : Array MapEntry} {clock : Nat} {l : List (α × β)} (hE : KeyEnc P K enc) (hT : P.underlying T = some (.map K E))
    (h : RelM enc R es.toList l) (hs : Stamped es clock) (k : α) :
    ∃ es', (∀ w, w.heap[m]? = some (.map es clock) → (Builtin.delete_ #[T, K] ty #[.map (some m), enc k]).run P w = .ok (.tuple #[]) (setBlock w m (.map es' clock))) ∧
      RelM enc R es'.toList (delA k l) ∧ Stamped es' clock ∧ (∀ e ∈ es'.toList, e ∈ es.toList ∧ e.key ≠ enc k) := by
  obtain ⟨d, hK, hd⟩ := hE.same
  rcases findNow_rel hd k es.toList l 0 h with ⟨h1, h2⟩ | ⟨pre, post, e, b', lpre, lpost, h1, h2, h3, h4, h5, h6, h7, h8⟩
  · refine ⟨es, fun w hm => ?_, by rw [delA_of_none h2]; exact h, hs, fun e he => ⟨he, fun hk => ?_⟩⟩
    · simp only [Builtin.delete_, List.getElem?_toArray, List.getElem?_cons_zero, List.getElem?_cons_succ, Sem.run_bind, run_underlying hT, Result.andThen, MapKept.run_getObj_map hm, hE.check, run_findKey_of hK h1, MapKept.run_setObj_map _ hm]
      rfl
    · obtain ⟨p, hp, h3, _⟩ := h.mem e he
      exact getA_none h2 p hp (hE.inj (h3.symm.trans hk))
  · have hlt : pre.length < es.size := by rw [← Array.length_toList, h1]; simp
    have hdel : (es.eraseIdxIfInBounds pre.length).toList = pre ++ post := by
      simp [Array.eraseIdxIfInBounds, hlt, h1, List.eraseIdx_append_of_length_le]
    refine ⟨es.eraseIdxIfInBounds pre.length, fun w hm => ?_, ?_, stamped_erase hs _, ?_⟩
    · simp only [Builtin.delete_, List.getElem?_toArray, List.getElem?_cons_zero, List.getElem?_cons_succ, Sem.run_bind, run_underlying hT, Result.andThen, MapKept.run_getObj_map hm, hE.check, run_findKey_of hK h3, MapKept.run_setObj_map _ hm, Nat.zero_add]
      rfl
    · rw [hdel, h2, delA_append_same h8]
      exact h6.append h7
    · intro x hx
      rw [hdel] at hx
      refine ⟨by rw [h1]; rcases List.mem_append.1 hx with hx | hx <;> simp [hx], fun hk => ?_⟩
      have hp := ((stamped_iff es clock).1 hs).2.2
      rw [h1, List.pairwise_append] at hp
      rcases List.mem_append.1 hx with hx | hx
      · exact hp.2.2 x hx e (by simp) (by rw [hk, h4])
      · exact (List.pairwise_cons.1 hp.2.1).1 x hx (by rw [hk, h4])
end

theorem keyEnc_string {P : Program} {K : TypeId} (hK : P.underlying K = some .string) : KeyEnc P K Value.string := by
  refine ⟨⟨.string, hK, fun a b => ?_⟩, fun b a w => ?_, fun a => (bytes_beq a a).2 rfl⟩
  · by_cases h : a = b
    · exact .inl ⟨by simp only [Instr.sameNow, (bytes_beq a b).2 h], h⟩
    · refine .inr ⟨?_, h⟩
      have : (a == b) = false := by
        cases e : (a == b)
        · rfl
        · exact absurd ((bytes_beq a b).1 e) h
      simp only [Instr.sameNow, this]
  · unfold Instr.checkKey
    simp [run_underlying hK, Result.andThen]

theorem keyEnc_int {P : Program} {K : TypeId} {q : IntKind} (hK : P.underlying K = some (.int q)) : KeyEnc P K (Value.int q) := by
  refine ⟨⟨.int q, hK, fun a b => ?_⟩, fun b a w => ?_, fun a => by simp [Instr.sameBits]⟩
  · by_cases h : a = b
    · exact .inl ⟨by simp [Instr.sameNow, h], h⟩
    · exact .inr ⟨by simp [Instr.sameNow, h], h⟩
  · unfold Instr.checkKey
    simp [run_underlying hK, Result.andThen]
end Go.Proofs.YtemilbemdlpkaaaGreatDoor
