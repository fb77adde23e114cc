/- espalierref02: a disk of the document, as it lies in memory. -/
import Derived.Test.YtjnhkepgoghogaaDoorDiskE
namespace Go.Proofs.YtjnhkepgoghogaaDoor
open Go.RowKit Go.ChangeMaps Go.MapKept

/-- Where a list has what it looks for first. -/
def FirstIn {α : Type} (l : List α) (q : α → Prop) (r : Int) : Prop := (r = -1 ∧ ∀ y ∈ l, ¬ q y) ∨ ∃ k, ∃ h : k < l.length, r = (k : Int) ∧ q l[k] ∧ ∀ i (hi : i < l.length), i < k → ¬ q l[i]
theorem FirstIn.none {α : Type} {l : List α} {q : α → Prop} {k : Nat} (hk : l.length ≤ k) (h : ∀ i (hi : i < l.length), i < k → ¬ q l[i]) : FirstIn l q (-1) :=
  .inl ⟨rfl, fun y hy => by obtain ⟨i, hi, e⟩ := List.getElem_of_mem hy; rw [← e]; exact h i hi (by omega)⟩

/-- A file of the document's disk. -/
structure FileM where
  name : ByteArray
  bv : Value
  bytes : List UInt8
def filesD (S : List FileM) : List (ByteArray × List UInt8) := S.map fun p => (p.name, p.bytes)
def cellsF (S : List FileM) : List Value := S.flatMap fun p => [.string p.name, p.bv]
theorem cellsF_length (S : List FileM) : (cellsF S).length = S.length * 2 := by
  induction S with
  | nil => rfl
  | cons p S ih => unfold cellsF at *; rw [List.flatMap_cons, List.length_append, ih]; simp; omega
theorem cellsF_append (S T : List FileM) : cellsF (S ++ T) = cellsF S ++ cellsF T := by simp [cellsF]
theorem cellsF_at (S : List FileM) : ∀ {k : Nat} (hk : k < S.length), (cellsF S)[k * 2]? = some (.string S[k].name) ∧ (cellsF S)[k * 2 + 1]? = some S[k].bv := by
  induction S with
  | nil => intro k hk; simp at hk
  | cons p S ih =>
    intro k hk
    cases k with
    | zero => exact ⟨rfl, rfl⟩
    | succ k =>
      have h := ih (k := k) (by simpa using hk)
      have e : cellsF (p :: S) = [.string p.name, p.bv] ++ cellsF S := by simp [cellsF]
      rw [e]
      simp only [List.getElem_cons_succ]
      refine ⟨?_, ?_⟩
      · rw [List.getElem?_append_right (by simp; omega), show (k + 1) * 2 - [Value.string p.name, p.bv].length = k * 2 from by simp; omega]; exact h.1
      · rw [List.getElem?_append_right (by simp; omega), show (k + 1) * 2 + 1 - [Value.string p.name, p.bv].length = k * 2 + 1 from by simp; omega]; exact h.2
theorem cellsF_set1 (S : List FileM) : ∀ {k : Nat} (hk : k < S.length) (v : Value) (x : List UInt8), (cellsF S).set (k * 2 + 1) v = cellsF (S.set k ⟨S[k].name, v, x⟩) := by
  induction S with
  | nil => intro k hk; simp at hk
  | cons p S ih =>
    intro k hk v x
    cases k with
    | zero => simp [cellsF]
    | succ k =>
      have h := ih (k := k) (by simpa using hk) v x
      simp only [cellsF, List.flatMap_cons] at h ⊢
      rw [show (k + 1) * 2 + 1 = (k * 2 + 1) + 1 + 1 from by omega]
      simp only [List.cons_append, List.nil_append, List.set_cons_succ, List.getElem_cons_succ, List.flatMap_cons]
      rw [h]
theorem cellsF_set0 (S : List FileM) : ∀ {k : Nat} (hk : k < S.length) (s : ByteArray), (cellsF S).set (k * 2) (.string s) = cellsF (S.set k ⟨s, S[k].bv, S[k].bytes⟩) := by
  induction S with
  | nil => intro k hk; simp at hk
  | cons p S ih =>
    intro k hk s
    cases k with
    | zero => simp [cellsF]
    | succ k =>
      have h := ih (k := k) (by simpa using hk) s
      simp only [cellsF, List.flatMap_cons] at h ⊢
      rw [show (k + 1) * 2 = (k * 2) + 1 + 1 from by omega]
      simp only [List.cons_append, List.nil_append, List.set_cons_succ, List.getElem_cons_succ, List.flatMap_cons]
      rw [h]

/-- The files' row. -/
def OwnF (n0 : Nat) (w : World) (v : Value) (S : List FileM) : Prop := w.ownsRow n0 76 2 v S.length (cellsF S)
theorem OwnF.form {n0 : Nat} {w : World} {v : Value} {S : List FileM} (h : OwnF n0 w v S) : ∃ a c, v = .slice a S.length c ∧ S.length ≤ c ∧ c ≤ maxLen := by
  rcases h.2 with ⟨rfl, h0⟩ | ⟨g, cap, cur, rfl, _, _, hn, hm, _⟩
  · exact ⟨none, 0, by rw [h0], by omega, by simp [maxLen]⟩
  · exact ⟨_, cap, rfl, hn, hm⟩
theorem ownsRow_keptR {F : Nat → Prop} {n0 : Nat} {w w' : World} {v : Value} {T : TypeId} {z n : Nat} {l : List Value} (h : w.ownsRow n0 T z v n l) (hk : Kept F w w') (hF : ∀ g, v.ownBlock = some g → ¬ F g) : w'.ownsRow n0 T z v n l := by
  obtain ⟨h1, h2⟩ := h
  refine ⟨h1, ?_⟩
  rcases h2 with h2 | ⟨g, cap, cur, rfl, hb, hg, hr⟩
  · exact .inl h2
  · exact .inr ⟨g, cap, cur, rfl, hb, (hk.block g (Array.getElem?_eq_some_iff.1 hg).1 (hF g rfl)).trans hg, hr⟩
theorem ownsRow_blockR {n0 : Nat} {w : World} {v : Value} {T : TypeId} {z n : Nat} {l : List Value} (h : w.ownsRow n0 T z v n l) {g : Nat} (e : v.ownBlock = some g) : n0 ≤ g ∧ g < w.heap.size ∧ ∃ cur, w.heap[g]? = some (.cells cur T (0, 0)) := by
  rcases h.2 with ⟨rfl, h0⟩ | ⟨g', cap, cur, rfl, hb, hg, hn, hm, _⟩
  · cases e
  · cases e; exact ⟨hb, (Array.getElem?_eq_some_iff.1 hg).1, cur, hg⟩
theorem OwnF.keptF {F : Nat → Prop} {n0 : Nat} {w w' : World} {v : Value} {S : List FileM} (h : OwnF n0 w v S) (hk : Kept F w w') (hF : ∀ g, v.ownBlock = some g → ¬ F g) : OwnF n0 w' v S := ownsRow_keptR h hk hF
theorem OwnF.at {n0 : Nat} {w : World} {v : Value} {S : List FileM} (h : OwnF n0 w v S) {k : Nat} (hk : k < S.length) : ∃ g c, v = .slice (some ⟨g, 0, none⟩) S.length c ∧ w.cell? ⟨g, k * 2, none⟩ = some (.string S[k].name) ∧ w.cell? ⟨g, k * 2 + 1, none⟩ = some S[k].bv ∧ ∀ i, w.frozen? ⟨g, i, none⟩ = false := by
  rcases h.2 with ⟨-, h0⟩ | ⟨g, cap, cur, rfl, hb, hg, hn, hm, hs, ht⟩
  · rw [h0] at hk; exact absurd hk (Nat.not_lt_zero _)
  · obtain ⟨h1, h2⟩ := cellsF_at S hk
    have key : ∀ i (x : Value), i < S.length * 2 → (cellsF S)[i]? = some x → w.cell? ⟨g, i, none⟩ = some x := by
      intro i x hi hx
      rw [cell_of_row w g i cur _ (0, 0) hg]
      rw [← ht, List.getElem?_take, if_pos hi] at hx
      simpa using hx
    exact ⟨g, cap, rfl, key _ _ (by omega) h1, key _ _ (by omega) h2, fun i => by simp [World.frozen?, hg]⟩
/-- A cell of the row is set. -/
theorem OwnF.setAt {n0 g c : Nat} {w : World} {S T : List FileM} (h : OwnF n0 w (.slice (some ⟨g, 0, none⟩) S.length c) S) (i : Nat) (v : Value) (hT : T.length = S.length) (e : (cellsF S).set i v = cellsF T) : OwnF n0 (w.setCell ⟨g, i, none⟩ v) (.slice (some ⟨g, 0, none⟩) S.length c) T := by
  rcases h.2 with ⟨e1, -⟩ | ⟨g', cap, cur, e1, hb, hg, hn, hm, hs, ht⟩
  · cases e1
  · cases e1
    refine ⟨cellsF_length T, .inr ⟨g, c, cur.setIfInBounds i v, by rw [hT], hb, heap_setCell_row hg v, by omega, hm, by simpa using hs, ?_⟩⟩
    rw [hT, Array.toList_setIfInBounds, List.take_set, ht, e]

/-- The document's disk at block b. -/
structure RefAt (w : World) (b : Nat) (fv : Value) (S : List FileM) (D : DM) : Prop where
  cell : w.heap[b]? = some (.cells #[fv, .int .i64 D.writes, .int .i64 (if D.cut = true then D.left else -1)] 73 (0, 0))
  row : OwnF 0 w fv S
  sync : D.files = filesD S
  own : ∀ p ∈ S, OwnB w p.bv p.bytes
  apart : S.Pairwise (fun p q => ∀ g, p.bv.ownBlock = some g → q.bv.ownBlock ≠ some g)
  ok : D.Ok
def refF (b : Nat) (fv : Value) (S : List FileM) (k : Nat) : Prop := k = b ∨ fv.ownBlock = some k ∨ ∃ p ∈ S, p.bv.ownBlock = some k
section
variable {w w' : World} {b : Nat} {fv : Value} {S : List FileM} {D : DM}
theorem RefAt.lt (h : RefAt w b fv S D) : ∀ k, refF b fv S k → k < w.heap.size := by
  rintro k (rfl | e | ⟨p, hp, e⟩)
  · exact (Array.getElem?_eq_some_iff.1 h.cell).1
  · exact (ownsRow_blockR h.row e).2.1
  · exact (h.own p hp).lt k e
theorem RefAt.kept (h : RefAt w b fv S D) {G : Nat → Prop} (hk : Kept G w w') (hG : ∀ k, refF b fv S k → ¬ G k) : RefAt w' b fv S D :=
  ⟨(hk.block b (h.lt b (.inl rfl)) (hG b (.inl rfl))).trans h.cell, h.row.keptF hk (fun g e => hG g (.inr (.inl e))), h.sync, fun p hp => (h.own p hp).kept (fun g e => hk.block g ((h.own p hp).lt g e) (hG g (.inr (.inr ⟨p, hp, e⟩)))), h.apart, h.ok⟩
theorem RefAt.c (h : RefAt w b fv S D) : w.cell? ⟨b, 0, none⟩ = some fv ∧ w.cell? ⟨b, 1, none⟩ = some (.int .i64 D.writes) ∧ w.cell? ⟨b, 2, none⟩ = some (.int .i64 (if D.cut = true then D.left else -1)) ∧ ∀ i, w.frozen? ⟨b, i, none⟩ = false := by
  refine ⟨?_, ?_, ?_, fun i => ?_⟩ <;> simp [World.cell?, World.frozen?, h.cell]
theorem RefAt.len (h : RefAt w b fv S D) : S.length = D.files.length := by rw [h.sync]; simp [filesD]
/-- The blocks are apart by what they hold. -/
theorem RefAt.ne (h : RefAt w b fv S D) : fv.ownBlock ≠ some b ∧ (∀ p ∈ S, p.bv.ownBlock ≠ some b) ∧ ∀ g, fv.ownBlock = some g → ∀ p ∈ S, p.bv.ownBlock ≠ some g := by
  have hc := h.cell
  refine ⟨fun e => ?_, fun p hp e => ?_, fun g e p hp e2 => ?_⟩
  · obtain ⟨-, -, cur, h2⟩ := ownsRow_blockR h.row e; rw [hc] at h2; simp at h2
  · obtain ⟨-, -, cur, h2⟩ := ownsRow_blockR (h.own p hp) e; rw [hc] at h2; simp at h2
  · obtain ⟨-, -, cur, h2⟩ := ownsRow_blockR h.row e; obtain ⟨-, -, cur2, h3⟩ := ownsRow_blockR (h.own p hp) e2; rw [h2] at h3; simp at h3
end
theorem getA_filesD_none {S : List FileM} {s : ByteArray} (h : ∀ p ∈ S, p.name ≠ s) : getA s (filesD S) = none := by
  induction S with
  | nil => rfl
  | cons p S ih =>
    have h1 := h p List.mem_cons_self
    simp only [filesD, List.map_cons, getA] at ih ⊢
    rw [if_neg h1]
    exact ih (fun q hq => h q (List.mem_cons_of_mem _ hq))
theorem filesD_at {S : List FileM} {s : ByteArray} : ∀ {k : Nat} (hk : k < S.length), S[k].name = s → (∀ i (hi : i < S.length), i < k → S[i].name ≠ s) → getA s (filesD S) = some S[k].bytes ∧ (∀ v x, putA s x (filesD S) = filesD (S.set k ⟨s, v, x⟩)) ∧ delA s (filesD S) = filesD (S.eraseIdx k) := by
  induction S with
  | nil => intro k hk; simp at hk
  | cons p S ih =>
    intro k hk e hno
    cases k with
    | zero =>
      simp only [List.getElem_cons_zero] at e
      refine ⟨?_, fun v x => ?_, ?_⟩
      · simp [filesD, getA, e]
      · simp [filesD, putA, e]
      · simp [filesD, delA, e]
    | succ k =>
      have h0 := hno 0 (by simp) (Nat.succ_pos _)
      simp only [List.getElem_cons_zero] at h0
      obtain ⟨i1, i2, i3⟩ := ih (k := k) (by simpa using hk) (by simpa using e) (fun i hi hik => hno (i + 1) (by simpa using hi) (by omega))
      simp only [filesD, List.map_cons] at i1 i2 i3 ⊢
      refine ⟨?_, fun v x => ?_, ?_⟩
      · simp only [getA, if_neg h0, List.getElem_cons_succ]; exact i1
      · simp only [putA, if_neg h0, List.set_cons_succ, List.map_cons]; rw [i2 v x]
      · simp only [delA, if_neg h0, List.eraseIdx_cons_succ, List.map_cons]; rw [i3]
end Go.Proofs.YtjnhkepgoghogaaDoor
