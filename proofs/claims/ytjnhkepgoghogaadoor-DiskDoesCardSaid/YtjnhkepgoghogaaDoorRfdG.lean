/- espalierref02: Append. -/
import Derived.Test.YtjnhkepgoghogaaDoorRfdF
namespace Go.Proofs.YtjnhkepgoghogaaDoor
open Go.RowKit Go.ChangeMaps Go.MapKept
set_option linter.unusedSimpArgs false

theorem putA_putA {α β : Type} [DecidableEq α] (k : α) (x y : β) : ∀ l : List (α × β), putA k y (putA k x l) = putA k y l := by
  intro l
  induction l with
  | nil => simp [putA]
  | cons p l ih =>
    by_cases h : p.1 = k
    · simp [putA, h]
    · simp only [putA, if_neg h]; rw [ih]
theorem DM.put_put (D : DM) (s : ByteArray) (x y : List UInt8) : (D.put s x).put s y = D.put s y := by
  unfold DM.put
  simp only [putA_putA]
/-- What is to be done of an append: the first file is not there yet, or it is. -/
def appR (s : ByteArray) (bs : List UInt8) (D : DM) : Int × DM :=
  if bs = [] then (match D.raw with | none => (6, D) | some D' => (0, D'.put s [])) else DM.pieces s bs D
theorem DM.app_cases (D : DM) (s : ByteArray) (bs : List UInt8) : (mayB s = false → D.append s bs = (2, D)) ∧
    (mayB s = true → ((getA s D.files = none ∧ D.files.length = 256) ∨ 4194304 < (D.bytes s).length + bs.length → D.append s bs = (3, D)) ∧
      (¬ ((getA s D.files = none ∧ D.files.length = 256) ∨ 4194304 < (D.bytes s).length + bs.length) → (getA s D.files = none → D.append s bs = appR s bs D) ∧ (getA s D.files ≠ none → D.append s bs = DM.pieces s bs D))) := by
  refine ⟨fun h => ?_, fun h => ⟨fun h2 => ?_, fun h2 => ⟨fun h3 => ?_, fun h3 => ?_⟩⟩⟩
  · unfold DM.append; rw [if_pos h]
  · unfold DM.append
    rw [if_neg (by rw [h]; simp)]
    split
    · rfl
    · rename_i h4
      rw [if_pos (h2.resolve_left h4)]
  · unfold DM.append appR
    rw [if_neg (by rw [h]; simp), if_neg (fun e => h2 (.inl e)), if_neg (fun e => h2 (.inr e))]
    by_cases hb : bs = []
    · rw [if_pos ⟨hb, h3⟩, if_pos hb]; cases D.raw <;> rfl
    · rw [if_neg (fun e => hb e.1), if_neg hb]
  · unfold DM.append
    rw [if_neg (by rw [h]; simp), if_neg (fun e => h2 (.inl e)), if_neg (fun e => h2 (.inr e)), if_neg (fun e => h3 e.2)]

/-- Where an append stands. -/
structure AppSt (w : World) (b : Nat) (fv : Value) (S : List FileM) (s : ByteArray) (R : Int × DM) (wr : World) (v : Value) (bs : List UInt8) (kv : Int) (first : Bool) (fv' : Value) (S' : List FileM) (D : DM) : Prop where
  ref : RefAt wr b fv' S' D
  kept : Kept (refF b fv S) w wr
  new : ∀ i, refF b fv' S' i → refF b fv S i ∨ w.heap.size ≤ i
  src : IsB wr v bs
  sep : bs ≠ [] → ∀ g, v.ownBlock = some g → g < w.heap.size ∧ ¬ refF b fv S g
  bound : D.writes + bs.length + (if first = true then 1 else 0) ≤ 2305843009220000000
  size : (D.bytes s).length + bs.length ≤ 4194304
  stage : (kv = -1 ∧ first = true ∧ getA s D.files = none ∧ D.files.length < 256 ∧ appR s bs D = R) ∨ ∃ kk : Nat, ∃ hk : kk < S'.length, kv = kk ∧ S'[kk].name = s ∧ (∀ i (hi : i < S'.length), i < kk → S'[i].name ≠ s) ∧ DM.pieces s bs D = R
/-- A new file, with no bytes, at the end. -/
theorem RefAt.pushF {w : World} {b : Nat} {fv : Value} {S : List FileM} {D : DM} (h : RefAt w b fv S D) (s : ByteArray) (hm : mayB s = true) (hn : getA s D.files = none) (hc : D.files.length < 256) :
    ∃ fv' w2, (Builtin.append_ #[71, 71] 71 #[fv, .slice (some ⟨w.heap.size, 0, none⟩) 1 1]).run Tryd.prog (w.alloc (.cells #[.string s, .slice none 0 0] 76)) = .ok fv' w2 ∧ (∃ a n c, fv' = .slice a n c) ∧
      w2.cell? ⟨b, 0, none⟩ = some fv ∧ w2.frozen? ⟨b, 0, none⟩ = false ∧ RefAt (w2.setCell ⟨b, 0, none⟩ fv') b fv' (S ++ [⟨s, .slice none 0 0, []⟩]) (D.put s []) ∧ Kept (refF b fv S) w (w2.setCell ⟨b, 0, none⟩ fv') ∧ ∀ i, refF b fv' (S ++ [⟨s, .slice none 0 0, []⟩]) i → refF b fv S i ∨ w.heap.size ≤ i := by
  have hlt := h.lt
  have hb := hlt b (.inl rfl)
  obtain ⟨W1, hW1⟩ : ∃ W, w.alloc (.cells #[.string s, .slice none 0 0] 76) = W := ⟨_, rfl⟩
  have hk1 : Kept (fun _ => False) w W1 := by rw [← hW1]; exact (Kept.refl _ _).alloc _
  have hb1 : W1.heap[w.heap.size]? = some (.cells #[.string s, .slice none 0 0] 76 (0, 0)) := by rw [← hW1]; exact heap_alloc_new _ _
  have hlen := h.len
  obtain ⟨fv', w2, hr, ho, hk2, hfb⟩ := (h.row.keptF hk1 (fun _ _ f => f)).push (p := ⟨s, .slice none 0 0, []⟩) (Nat.zero_le _) w.heap.size hb1 ⟨_, _, _, rfl⟩ (by omega)
  have hk12 : Kept (fun i => fv.ownBlock = some i) w w2 := (hk1.mono (fun _ _ f => f.elim)).trans hk2 (fun _ _ e => e)
  have hfb' : ∀ i, fv'.ownBlock = some i → fv.ownBlock = some i ∨ w.heap.size ≤ i := fun i e => by
    rcases hfb with e2 | e2
    · exact .inl (e2 ▸ e)
    · rw [e2] at e; cases e; exact .inr hk1.size
  obtain ⟨n1, n2, n3⟩ := h.ne
  have hcell := (hk12.block b hb n1).trans h.cell
  have hkc := keptCellR w2 b 0 fv'
  have hputeq : putA s [] D.files = D.files ++ [(s, [])] := putA_of_none hn []
  refine ⟨fv', w2, by rw [hW1]; exact hr, ⟨_, _, _, ho.form.choose_spec.choose_spec.1⟩, by simp [World.cell?, hcell], by simp [World.frozen?, hcell], ⟨?_, ?_, ?_, ?_, ?_, ?_⟩, ?_, ?_⟩
  · exact heap_setCell_row hcell fv'
  · exact ho.keptF hkc (fun g e e2 => by
      rcases hfb' g e with e3 | e3
      · exact n1 (by rw [e3, e2])
      · omega)
  · show putA s [] D.files = _
    rw [hputeq, h.sync]
    simp [filesD]
  · intro p hp
    rcases List.mem_append.1 hp with hp | hp
    · have hop := h.own p hp
      have ho2 : OwnB w2 p.bv p.bytes := hop.kept (fun g e => hk12.block g (hop.lt g e) (fun e2 => n3 g e2 p hp e))
      exact ho2.kept (fun g e => hkc.block g (ho2.lt g e) (fun e2 => n2 p hp (by rw [e, e2])))
    · rw [List.mem_singleton.1 hp]; exact ⟨rfl, .inl ⟨rfl, rfl⟩⟩
  · rw [List.pairwise_append]
    exact ⟨h.apart, List.pairwise_singleton _ _, fun p hp q hq g e e2 => by rw [List.mem_singleton.1 hq] at e2; cases e2⟩
  · exact DM.put_ok h.ok hm (by simp) (fun _ => hc)
  · exact (hk12.mono (fun i _ e => .inr (.inl e))).trans hkc (fun i _ e => .inl e)
  · rintro i (rfl | e | ⟨p, hp, e⟩)
    · exact .inl (.inl rfl)
    · exact (hfb' i e).imp (fun e => .inr (.inl e)) id
    · rcases List.mem_append.1 hp with hp | hp
      · exact .inl (.inr (.inr ⟨p, hp, e⟩))
      · rw [List.mem_singleton.1 hp] at e; cases e
theorem app_right {s : ByteArray} {bs : List UInt8} {D D2 : DM} {R : Int × DM} (hne : bs ≠ []) (hr : D.raw = some D2) {m : Nat} (hm : m = 32 ∨ (m = bs.length ∧ bs.length ≤ 32)) (hR : DM.pieces s bs D = R) : DM.pieces s (bs.drop m) (D2.put s (D2.bytes s ++ bs.take m)) = R := by
  rw [← hR, DM.pieces_step hne hr hm]
theorem app_left {s : ByteArray} {bs : List UInt8} {D D2 : DM} {R : Int × DM} (hn : getA s D.files = none) (hr : D.raw = some D2) {m : Nat} (hm : m = 32 ∨ (m = bs.length ∧ bs.length ≤ 32)) (hR : appR s bs D = R) : DM.pieces s (bs.drop m) ((D2.put s []).put s ((D2.put s []).bytes s ++ bs.take m)) = R := by
  rw [DM.bytes_put, DM.put_put, List.nil_append]
  unfold appR at hR
  by_cases hb : bs = []
  · subst hb
    rw [if_pos rfl, hr] at hR
    simp only [List.drop_nil, List.take_nil]
    rw [DM.pieces_nil]
    exact hR
  · rw [if_neg hb] at hR
    rw [← hR, DM.pieces_step hb hr hm]
    have : D2.bytes s = [] := by unfold DM.bytes; rw [DM.raw_files hr, hn]; rfl
    rw [this, List.nil_append]
/-- Where an append stands behind one piece. -/
theorem AppSt.next {w : World} {b : Nat} {fv : Value} {S : List FileM} {s : ByteArray} {R : Int × DM} {wr : World} {v : Value} {bs : List UInt8} {kv : Int} {first : Bool} {fv' : Value} {S' : List FileM} {D' : DM} (hA : AppSt w b fv S s R wr v bs kv first fv' S' D')
    {w2 w5 : World} {fv1 : Value} {S1 : List FileM} {D1 : DM} (hk2 : Kept (refF b fv' S') wr w2) (hn2 : ∀ i, refF b fv1 S1 i → refF b fv' S' i ∨ wr.heap.size ≤ i) {kk : Nat} (hk : kk < S1.length) (hname : S1[kk].name = s) (hno : ∀ i (hi : i < S1.length), i < kk → S1[i].name ≠ s) {m : Nat} {v1 : Value}
    (h5 : RefAt w5 b fv1 (S1.set kk ⟨S1[kk].name, v1, S1[kk].bytes ++ bs.take m⟩) (D1.put S1[kk].name (S1[kk].bytes ++ bs.take m))) (hk5 : Kept (refF b fv1 S1) w2 w5) (hn5 : ∀ i, refF b fv1 (S1.set kk ⟨S1[kk].name, v1, S1[kk].bytes ++ bs.take m⟩) i → refF b fv1 S1 i ∨ w2.heap.size ≤ i)
    (hD : D1.writes = D'.writes + 1) (hmm : bs ≠ [] → 1 ≤ m) (hff : bs = [] → first = true) (hby : D1.bytes s = S1[kk].bytes ∧ (D1.bytes s).length = (D'.bytes s).length) {v2 : Value} (hv2 : IsB wr v2 (bs.drop m)) (hvb : ∀ g, v2.ownBlock = some g → v.ownBlock = some g)
    (hR : DM.pieces s (bs.drop m) (D1.put s (D1.bytes s ++ bs.take m)) = R) :
    AppSt w b fv S s R w5 v2 (bs.drop m) (kk : Int) false fv1 (S1.set kk ⟨S1[kk].name, v1, S1[kk].bytes ++ bs.take m⟩) (D1.put s (D1.bytes s ++ bs.take m)) := by
  have hk25 : Kept (fun i => refF b fv' S' i ∨ wr.heap.size ≤ i) wr w5 := (hk2.mono (fun _ _ e => .inl e)).trans hk5 (fun i _ e => hn2 i e)
  have hkw5 : Kept (refF b fv S) w w5 := hA.kept.trans hk25 (fun i hi e => by
    rcases e with e | e
    · rcases hA.new i e with e | e
      · exact e
      · omega
    · have := hA.kept.size; omega)
  have hdm : bs.drop m ≠ [] → bs ≠ [] := fun h e => h (by rw [e]; simp)
  have hsep : ∀ g, bs.drop m ≠ [] → v2.ownBlock = some g → ¬ (refF b fv' S' g ∨ wr.heap.size ≤ g) := fun g hne e hf => by
    obtain ⟨q1, q2⟩ := hA.sep (hdm hne) g (hvb g e)
    rcases hf with hf | hf
    · rcases hA.new g hf with h | h
      · exact q2 h
      · omega
    · have := hA.kept.size; omega
  refine ⟨by rw [hby.1, ← hname]; exact h5, hkw5, fun i e => ?_, hv2.keptS hk25 (fun hne g e => hsep g hne e), fun hne g e => hA.sep (hdm hne) g (hvb g e), ?_, ?_, .inr ⟨kk, by simpa using hk, rfl, ?_, fun i hi hik => ?_, hR⟩⟩
  · rcases hn5 i e with e | e
    · rcases hn2 i e with e | e
      · exact hA.new i e
      · exact .inr (Nat.le_trans hA.kept.size e)
    · exact .inr (Nat.le_trans hA.kept.size (Nat.le_trans hk2.size e))
  · have hb := hA.bound
    show D1.writes + _ + _ ≤ _
    rw [hD, List.length_drop]
    by_cases hbs : bs = []
    · subst hbs
      rw [hff rfl] at hb
      simp at hb ⊢
      omega
    · have := hmm hbs
      have hl : 0 < bs.length := List.length_pos_iff.2 hbs
      split at hb
      · simp only [Bool.false_eq_true, if_false]; omega
      · simp only [Bool.false_eq_true, if_false]; omega
  · rw [DM.bytes_put, List.length_append, List.length_take, List.length_drop, hby.2]
    have := hA.size
    omega
  · rw [List.getElem_set_self]; exact hname
  · rw [List.getElem_set_ne (by omega)]
    exact hno i (by simpa using hi) hik
/-- Bytes are put behind a file's bytes. -/
theorem RefAt.piece {w : World} {b : Nat} {S : List FileM} {D : DM} {g c k : Nat} (h : RefAt w b (.slice (some ⟨g, 0, none⟩) S.length c) S D) (hk : k < S.length) (hno : ∀ i (hi : i < S.length), i < k → S[i].name ≠ S[k].name) (v2 : Value) (ys : List UInt8) (hp : IsB w v2 ys) (hl : S[k].bytes.length + ys.length ≤ 4194304) :
    ∃ v1 W1, (Builtin.append_ #[32, 32] 32 #[S[k].bv, v2]).run Tryd.prog w = .ok v1 W1 ∧ (∃ a n c, v1 = .slice a n c) ∧ W1.cell? ⟨b, 0, none⟩ = some (.slice (some ⟨g, 0, none⟩) S.length c) ∧ W1.cell? ⟨g, k * 2 + 1, none⟩ = some S[k].bv ∧ W1.frozen? ⟨g, k * 2 + 1, none⟩ = false ∧
      RefAt (W1.setCell ⟨g, k * 2 + 1, none⟩ v1) b (.slice (some ⟨g, 0, none⟩) S.length c) (S.set k ⟨S[k].name, v1, S[k].bytes ++ ys⟩) (D.put S[k].name (S[k].bytes ++ ys)) ∧ Kept (refF b (.slice (some ⟨g, 0, none⟩) S.length c) S) w (W1.setCell ⟨g, k * 2 + 1, none⟩ v1) ∧
      ∀ i, refF b (.slice (some ⟨g, 0, none⟩) S.length c) (S.set k ⟨S[k].name, v1, S[k].bytes ++ ys⟩) i → refF b (.slice (some ⟨g, 0, none⟩) S.length c) S i ∨ w.heap.size ≤ i := by
  have hmem : S[k] ∈ S := List.getElem_mem hk
  obtain ⟨v1, W1, hr, hov, hg, hvb, -⟩ := run_append_bytes w S[k].bv v2 S[k].bytes ys (h.own _ hmem) hp (by omega)
  have hkw : Kept (fun i => S[k].bv.ownBlock = some i) w W1 := Kept.grown (Kept.refl _ _) hg (fun i e _ => e)
  have hvb' : ∀ i, v1.ownBlock = some i → S[k].bv.ownBlock = some i ∨ w.heap.size ≤ i := fun i e => (hvb i e).imp id (fun h => by omega)
  obtain ⟨n1, n2, n3⟩ := h.ne
  obtain ⟨g', c', e1, q0, q1, qf⟩ := h.row.at hk
  cases e1
  have hgl := h.lt g (.inr (.inl rfl))
  obtain ⟨va, vc, hvf, -, -⟩ := hov.form
  obtain ⟨r1, r2, r3⟩ := h.setB hk hno v1 (S[k].bytes ++ ys) hkw hov hvb' (by simp; omega)
  have hgk : W1.heap[g]? = w.heap[g]? := hkw.block g hgl (n3 g rfl _ hmem)
  have hfz : W1.frozen? ⟨g, k * 2 + 1, none⟩ = false := by
    have := qf (k * 2 + 1)
    unfold World.frozen? at this ⊢
    simp only at this ⊢
    rw [hgk]
    exact this
  exact ⟨v1, W1, hr, ⟨_, _, _, hvf⟩, hkw.cell h.c.1 (n2 _ hmem), hkw.cell q1 (n3 g rfl _ hmem), hfz, r1, r2, r3⟩
theorem RefAt.piece' {w : World} {b : Nat} {S : List FileM} {D : DM} {g c k n : Nat} (h : RefAt w b (.slice (some ⟨g, 0, none⟩) n c) S D) (hn : S.length = n) (hk : k < S.length) (hno : ∀ i (hi : i < S.length), i < k → S[i].name ≠ S[k].name) (v2 : Value) (ys : List UInt8) (hp : IsB w v2 ys) (hl : S[k].bytes.length + ys.length ≤ 4194304) :
    ∃ v1 W1, (Builtin.append_ #[32, 32] 32 #[S[k].bv, v2]).run Tryd.prog w = .ok v1 W1 ∧ (∃ a n c, v1 = .slice a n c) ∧ W1.cell? ⟨b, 0, none⟩ = some (.slice (some ⟨g, 0, none⟩) n c) ∧ W1.cell? ⟨g, k * 2 + 1, none⟩ = some S[k].bv ∧ W1.frozen? ⟨g, k * 2 + 1, none⟩ = false ∧
      RefAt (W1.setCell ⟨g, k * 2 + 1, none⟩ v1) b (.slice (some ⟨g, 0, none⟩) n c) (S.set k ⟨S[k].name, v1, S[k].bytes ++ ys⟩) (D.put S[k].name (S[k].bytes ++ ys)) ∧ Kept (refF b (.slice (some ⟨g, 0, none⟩) n c) S) w (W1.setCell ⟨g, k * 2 + 1, none⟩ v1) ∧
      ∀ i, refF b (.slice (some ⟨g, 0, none⟩) n c) (S.set k ⟨S[k].name, v1, S[k].bytes ++ ys⟩) i → refF b (.slice (some ⟨g, 0, none⟩) n c) S i ∨ w.heap.size ≤ i := by
  subst hn
  exact h.piece hk hno v2 ys hp hl
end Go.Proofs.YtjnhkepgoghogaaDoor
