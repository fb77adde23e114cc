/- espalierlaw11: born's arguments; a history that is being made. -/
import Derived.Test.YtikacgiccllolaaGreatBornL
import Derived.Test.YtikacgiccllolaaGreatNodA
import Derived.Test.YtikacgiccllolaaGreatFromA
namespace Go.Proofs.YtikacgiccllolaaGreat
open Go.RowKit Go.ChangeMaps Go.MapKept

/-- A slice value that reads as these ints, wherever it lies. -/
def IsZ (w : World) (v : Value) (l : List Int) : Prop :=
  ∃ a c, v = .slice a l.length c ∧ l.length ≤ c ∧ c ≤ maxLen ∧ (l = [] ∨ ∃ g o, a = some ⟨g, o, none⟩ ∧ g < w.heap.size ∧ ∀ k (hk : k < l.length), w.cell? ⟨g, o + k, none⟩ = some (.int .i64 l[k]))
theorem IsZ.kept {G : Nat → Prop} {w w' : World} {v : Value} {l : List Int} (h : IsZ w v l) (hk : Kept G w w') (hG : ∀ k, k < w.heap.size → ¬ G k) : IsZ w' v l := by
  obtain ⟨a, c, e, h1, h2, h3⟩ := h
  refine ⟨a, c, e, h1, h2, ?_⟩
  rcases h3 with h3 | ⟨g, o, rfl, hg, hc⟩
  · exact .inl h3
  · exact .inr ⟨g, o, rfl, Nat.lt_of_lt_of_le hg hk.size, fun k hkk => hk.cell (hc k hkk) (hG g hg)⟩
theorem IsZ.at {w : World} {a : Option Addr} {n c : Nat} {l : List Int} (h : IsZ w (.slice a n c) l) {k : Nat} (hk : k < l.length) : ∃ g o, a = some ⟨g, o, none⟩ ∧ g < w.heap.size ∧ w.cell? ⟨g, o + k, none⟩ = some (.int .i64 l[k]) := by
  obtain ⟨a', c', e, h1, h2, h3⟩ := h
  cases e
  obtain ⟨g, o, rfl, hg, hc⟩ := h3.resolve_left (fun e => by rw [e] at hk; simp at hk)
  exact ⟨g, o, rfl, hg, hc k hk⟩
theorem IsZ.len {w : World} {a : Option Addr} {n c : Nat} {l : List Int} (h : IsZ w (.slice a n c) l) : n = l.length ∧ n ≤ c ∧ n ≤ 9223372036854775807 := by
  obtain ⟨a', c', e, h1, h2, h3⟩ := h
  cases e
  unfold maxLen at h2
  exact ⟨rfl, h1, by omega⟩
/-- A slice value that reads as these commits to be made. -/
def IsBn (w : World) (v : Value) (l : List BornM) : Prop :=
  ∃ a c, v = .slice a l.length c ∧ l.length ≤ c ∧ c ≤ maxLen ∧ (∀ b ∈ l, b.Fit) ∧ (l = [] ∨ ∃ g o, a = some ⟨g, o, none⟩ ∧ g < w.heap.size ∧ ∀ k (hk : k < l.length), ∃ ba bc, IsZ w (.slice ba l[k].back.length bc) l[k].back ∧ w.cell? ⟨g, o + k * 5, none⟩ = some (.slice ba l[k].back.length bc) ∧ w.cell? ⟨g, o + k * 5 + 1, none⟩ = some (.int .i64 l[k].date) ∧ w.cell? ⟨g, o + k * 5 + 2, none⟩ = some (.bool l[k].blob) ∧ w.cell? ⟨g, o + k * 5 + 3, none⟩ = some (.bool l[k].lost) ∧ w.cell? ⟨g, o + k * 5 + 4, none⟩ = some (.bool l[k].bare))
theorem IsBn.kept {G : Nat → Prop} {w w' : World} {v : Value} {l : List BornM} (h : IsBn w v l) (hk : Kept G w w') (hG : ∀ k, k < w.heap.size → ¬ G k) : IsBn w' v l := by
  obtain ⟨a, c, e, h1, h2, hf, h3⟩ := h
  refine ⟨a, c, e, h1, h2, hf, ?_⟩
  rcases h3 with h3 | ⟨g, o, rfl, hg, hc⟩
  · exact .inl h3
  · refine .inr ⟨g, o, rfl, Nat.lt_of_lt_of_le hg hk.size, fun k hkk => ?_⟩
    obtain ⟨ba, bc, q0, q1, q2, q3, q4, q5⟩ := hc k hkk
    exact ⟨ba, bc, q0.kept hk hG, hk.cell q1 (hG g hg), hk.cell q2 (hG g hg), hk.cell q3 (hG g hg), hk.cell q4 (hG g hg), hk.cell q5 (hG g hg)⟩
theorem IsBn.keptN {w w' : World} {v : Value} {l : List BornM} (h : IsBn w v l) (hk : Kept (fun _ => False) w w') : IsBn w' v l := h.kept hk (fun _ _ f => f)
theorem IsBn.at {w : World} {a : Option Addr} {n c : Nat} {l : List BornM} (h : IsBn w (.slice a n c) l) {k : Nat} (hk : k < l.length) : ∃ g o, a = some ⟨g, o, none⟩ ∧ g < w.heap.size ∧ ∃ ba bc, IsZ w (.slice ba l[k].back.length bc) l[k].back ∧ w.cell? ⟨g, o + k * 5, none⟩ = some (.slice ba l[k].back.length bc) ∧ w.cell? ⟨g, o + k * 5 + 1, none⟩ = some (.int .i64 l[k].date) ∧ w.cell? ⟨g, o + k * 5 + 2, none⟩ = some (.bool l[k].blob) ∧ w.cell? ⟨g, o + k * 5 + 3, none⟩ = some (.bool l[k].lost) ∧ w.cell? ⟨g, o + k * 5 + 4, none⟩ = some (.bool l[k].bare) := by
  obtain ⟨a', c', e, h1, h2, hf, h3⟩ := h
  cases e
  obtain ⟨g, o, rfl, hg, hc⟩ := h3.resolve_left (fun e => by rw [e] at hk; simp at hk)
  exact ⟨g, o, rfl, hg, hc k hk⟩
theorem IsBn.len {w : World} {a : Option Addr} {n c : Nat} {l : List BornM} (h : IsBn w (.slice a n c) l) : n = l.length ∧ n ≤ c ∧ n ≤ 9223372036854775807 ∧ ∀ b ∈ l, b.Fit := by
  obtain ⟨a', c', e, h1, h2, hf, h3⟩ := h
  cases e
  unfold maxLen at h2
  exact ⟨rfl, h1, by omega, hf⟩

/-- A slice of nodes of the call's own. -/
def cellsD (S : List NdM) : List Value := S.flatMap fun p => [.int .u64 p.id, p.pv, .bool p.other]
theorem cellsD_length (S : List NdM) : (cellsD S).length = S.length * 3 := by
  induction S with
  | nil => rfl
  | cons p S ih => unfold cellsD at *; rw [List.flatMap_cons, List.length_append, ih]; simp; omega
theorem cellsD_append (S T : List NdM) : cellsD (S ++ T) = cellsD S ++ cellsD T := by simp [cellsD]
theorem cellsD_at (S : List NdM) : ∀ {k : Nat} (hk : k < S.length), (cellsD S)[k * 3]? = some (.int .u64 S[k].id) ∧ (cellsD S)[k * 3 + 1]? = some S[k].pv ∧ (cellsD S)[k * 3 + 2]? = some (.bool S[k].other) := by
  induction S with
  | nil => intro k hk; simp at hk
  | cons p S ih =>
    intro k hk
    cases k with
    | zero => exact ⟨rfl, rfl, rfl⟩
    | succ k =>
      have h := ih (k := k) (by simpa using hk)
      have e : cellsD (p :: S) = [.int .u64 p.id, p.pv, .bool p.other] ++ cellsD S := by simp [cellsD]
      rw [e]
      simp only [List.getElem_cons_succ]
      refine ⟨?_, ?_, ?_⟩
      · rw [List.getElem?_append_right (by simp; omega), show (k + 1) * 3 - [Value.int .u64 (p.id : Int), p.pv, .bool p.other].length = k * 3 from by simp; omega]; exact h.1
      · rw [List.getElem?_append_right (by simp; omega), show (k + 1) * 3 + 1 - [Value.int .u64 (p.id : Int), p.pv, .bool p.other].length = k * 3 + 1 from by simp; omega]; exact h.2.1
      · rw [List.getElem?_append_right (by simp; omega), show (k + 1) * 3 + 2 - [Value.int .u64 (p.id : Int), p.pv, .bool p.other].length = k * 3 + 2 from by simp; omega]; exact h.2.2
theorem Tryz.info70 : (Tryz.prog.info? 70).map (fun i => (i.zero, i.size, i.bytes)) = some (some (.agg #[.int .u64 0, .slice none 0 0, .bool false]), 3, 40) := by kernel_rfl
theorem Tryz.info4 : (Tryz.prog.info? 4).map (fun i => (i.zero, i.size, i.bytes)) = some (some (.bool false), 1, 1) := by kernel_rfl
def OwnD (n0 : Nat) (w : World) (v : Value) (S : List NdM) : Prop := w.ownsRow n0 70 3 v S.length (cellsD S)
def OwnT (n0 : Nat) (w : World) (v : Value) (l : List Bool) : Prop := w.ownsRow n0 4 1 v l.length (l.map Value.bool)
theorem OwnD.form {n0 : Nat} {w : World} {v : Value} {S : List NdM} (h : OwnD n0 w v S) : ∃ a c, v = .slice a S.length c ∧ S.length ≤ c ∧ c ≤ maxLen := by
  rcases h.2 with ⟨rfl, h0⟩ | ⟨g, cap, cur, rfl, _, _, hn, hm, _⟩
  · exact ⟨none, 0, by rw [h0], by omega, by simp [maxLen]⟩
  · exact ⟨_, cap, rfl, hn, hm⟩
theorem OwnT.form {n0 : Nat} {w : World} {v : Value} {l : List Bool} (h : OwnT n0 w v l) : ∃ a c, v = .slice a l.length c ∧ l.length ≤ c ∧ c ≤ maxLen := by
  rcases h.2 with ⟨rfl, h0⟩ | ⟨g, cap, cur, rfl, _, _, hn, hm, _⟩
  · exact ⟨none, 0, by rw [h0], by omega, by simp [maxLen]⟩
  · exact ⟨_, cap, rfl, hn, hm⟩
theorem ownsRow_keptG {F : Nat → Prop} {n0 : Nat} {w w' : World} {v : Value} {T : TypeId} {z n : Nat} {l : List Value} (h : w.ownsRow n0 T z v n l) (hk : Kept F w w') (hF : ∀ g, v.ownBlock = some g → ¬ F g) : w'.ownsRow n0 T z v n l := by
  obtain ⟨h1, h2⟩ := h
  refine ⟨h1, ?_⟩
  rcases h2 with h2 | ⟨g, cap, cur, rfl, hb, hg, hr⟩
  · exact .inl h2
  · exact .inr ⟨g, cap, cur, rfl, hb, (hk.block g (Array.getElem?_eq_some_iff.1 hg).1 (hF g rfl)).trans hg, hr⟩
theorem OwnD.keptF {F : Nat → Prop} {n0 : Nat} {w w' : World} {v : Value} {S : List NdM} (h : OwnD n0 w v S) (hk : Kept F w w') (hF : ∀ g, v.ownBlock = some g → ¬ F g) : OwnD n0 w' v S := ownsRow_keptG h hk hF
theorem OwnT.keptF {F : Nat → Prop} {n0 : Nat} {w w' : World} {v : Value} {l : List Bool} (h : OwnT n0 w v l) (hk : Kept F w w') (hF : ∀ g, v.ownBlock = some g → ¬ F g) : OwnT n0 w' v l := ownsRow_keptG h hk hF
theorem OwnD.base {n0 : Nat} {w : World} {v : Value} {S : List NdM} (h : OwnD n0 w v S) {g : Nat} (e : v.ownBlock = some g) : n0 ≤ g ∧ g < w.heap.size := World.ownsRow.lt h g e
theorem OwnT.base {n0 : Nat} {w : World} {v : Value} {l : List Bool} (h : OwnT n0 w v l) {g : Nat} (e : v.ownBlock = some g) : n0 ≤ g ∧ g < w.heap.size := World.ownsRow.lt h g e
theorem OwnD.blockT {n0 : Nat} {w : World} {v : Value} {S : List NdM} (h : OwnD n0 w v S) {g : Nat} (e : v.ownBlock = some g) : ∃ cur, w.heap[g]? = some (.cells cur 70 (0, 0)) := ownsRow_block h e
theorem OwnT.blockT {n0 : Nat} {w : World} {v : Value} {l : List Bool} (h : OwnT n0 w v l) {g : Nat} (e : v.ownBlock = some g) : ∃ cur, w.heap[g]? = some (.cells cur 4 (0, 0)) := ownsRow_block h e
/-- It reads as nodes. -/
theorem OwnD.isD {n0 B : Nat} {w : World} {v : Value} {S : List NdM} (h : OwnD n0 w v S) (hB : w.heap.size ≤ B) (hp : ∀ p ∈ S, p.id < 18446744073709551616 ∧ OwnI n0 w p.pv p.ps ∧ ∀ x ∈ p.ps, x < 18446744073709551616) : IsD w B v S := by
  obtain ⟨a, c, e, h1, h2⟩ := h.form
  subst e
  refine ⟨a, c, rfl, h1, h2, fun p hpp => ⟨(hp p hpp).1, (hp p hpp).2.1.isI (hp p hpp).2.2, fun g e => by have := ((hp p hpp).2.1.base e).2; omega⟩, ?_⟩
  obtain ⟨-, h4⟩ := h
  rcases h4 with ⟨e, h0⟩ | ⟨g, cap, cur, e, hb, hg, hn, hc, hs, ht⟩
  · exact .inl (List.length_eq_zero_iff.1 h0)
  · cases e
    refine .inr ⟨g, 0, rfl, by have := (Array.getElem?_eq_some_iff.1 hg).1; omega, fun k hk => ?_⟩
    obtain ⟨c0, c1, c2⟩ := cellsD_at S hk
    have key : ∀ i (x : Value), i < S.length * 3 → (cellsD S)[i]? = some x → w.cell? ⟨g, 0 + i, none⟩ = some x := by
      intro i x hi hx
      rw [Nat.zero_add, cell_of_row w g i cur _ (0, 0) hg]
      rw [← ht, List.getElem?_take, if_pos (by omega)] at hx
      simpa using hx
    exact ⟨key _ _ (by omega) c0, by rw [Nat.add_assoc]; exact key _ _ (by omega) c1, by rw [Nat.add_assoc]; exact key _ _ (by omega) c2⟩
theorem OwnD.push {n0 : Nat} {w : World} {v : Value} {S : List NdM} (h : OwnD n0 w v S) (hk0 : n0 ≤ w.heap.size) (b : Nat) (p : NdM) (hb : w.heap[b]? = some (.cells #[.int .u64 p.id, p.pv, .bool p.other] 70 (0, 0))) (hp : ∃ a n c, p.pv = .slice a n c) (hl : S.length + 1 ≤ 1000000000) :
    ∃ v' w', (Builtin.append_ #[34, 34] 34 #[v, .slice (some ⟨b, 0, none⟩) 1 1]).run Tryz.prog w = .ok v' w' ∧ OwnD n0 w' v' (S ++ [p]) ∧ Kept (fun k => v.ownBlock = some k) w w' ∧ (v'.ownBlock = v.ownBlock ∨ v'.ownBlock = some w.heap.size) := by
  obtain ⟨i0, hi, hz0, hz1, hz2⟩ := info_parts Tryz.info70
  obtain ⟨v', w', hrun, ho2, hg2, -, hb2⟩ := run_append_own_at (P := Tryz.prog) w n0 34 34 70 i0 _ 3 40 Tryz.underlying34 hi hz0 hz1 hz2 rfl (by decide) _ _ _ h ⟨b, 0, none⟩ 1 1 [.int .u64 p.id, p.pv, .bool p.other] rfl (by
    intro j u hu
    rw [addr_add]
    match j, hu with
    | 0, hu => cases hu; simp [World.cell?, hb]
    | 1, hu => cases hu; simp [World.cell?, hb]
    | 2, hu => cases hu; simp [World.cell?, hb]
    | j + 3, hu => simp at hu) (by
    intro u hu
    obtain ⟨a, n, c, e⟩ := hp
    simp only [List.mem_cons, List.not_mem_nil, or_false] at hu
    rcases hu with rfl | rfl | rfl
    · rfl
    · rw [e]; rfl
    · rfl) (by unfold maxLen; omega) (by omega) hk0
  refine ⟨v', w', hrun, ?_, Kept.grown (F := fun k => v.ownBlock = some k) (Kept.refl _ _) hg2 (fun k hk _ => hk), hb2⟩
  unfold OwnD
  rw [cellsD_append, List.length_append]
  have e : cellsD [p] = [.int .u64 p.id, p.pv, .bool p.other] := by simp [cellsD]
  rw [e]
  exact ho2
theorem OwnT.push {n0 : Nat} {w : World} {v : Value} {l : List Bool} (h : OwnT n0 w v l) (hk0 : n0 ≤ w.heap.size) (a : Addr) (x : Bool) (ha : w.cell? a = some (.bool x)) (hl : l.length + 1 ≤ 1000000000) :
    ∃ v' w', (Builtin.append_ #[35, 35] 35 #[v, .slice (some a) 1 1]).run Tryz.prog w = .ok v' w' ∧ OwnT n0 w' v' (l ++ [x]) ∧ Kept (fun k => v.ownBlock = some k) w w' ∧ (v'.ownBlock = v.ownBlock ∨ v'.ownBlock = some w.heap.size) := by
  obtain ⟨i0, hi, hz0, hz1, hz2⟩ := info_parts Tryz.info4
  obtain ⟨v', w', hrun, ho2, hg2, -, hb2⟩ := run_append_own_at (P := Tryz.prog) w n0 35 35 4 i0 _ 1 1 Tryz.underlying35 hi hz0 hz1 hz2 rfl (by decide) _ _ _ h a 1 1 [.bool x] rfl (by
    intro j u hu
    match j, hu with
    | 0, hu => cases hu; exact ha
    | j + 1, hu => simp at hu) (by intro u hu; simp at hu; subst hu; rfl) (by unfold maxLen; omega) (by omega) hk0
  refine ⟨v', w', hrun, ?_, Kept.grown (F := fun k => v.ownBlock = some k) (Kept.refl _ _) hg2 (fun k hk _ => hk), hb2⟩
  unfold OwnT
  rw [List.map_append, List.length_append]
  exact ho2

/-- A history that is being made, at block Hb. -/
structure BuildAt (w : World) (n0 Hb s : Nat) (F : Nat → Prop) (st : HSt) (m : Nat) (nv iv bv : Value) (S : List NdM) : Prop where
  ob : ObB w s F st.os m
  cell : w.heap[Hb]? = some (.cells #[.pointer (some ⟨s, 0, none⟩), nv, iv, bv, .int .u64 zId] 39 (0, 0))
  nd : OwnD n0 w nv S
  ndS : nodesD S = st.nd
  pv : ∀ p ∈ S, OwnI n0 w p.pv p.ps ∧ ∀ g, p.pv.ownBlock = some g → iv.ownBlock ≠ some g ∧ ¬ F g
  ids : OwnI n0 w iv st.ids
  bare : OwnT n0 w bv st.bare
  nH : n0 ≤ Hb
  sepF : ∀ k, F k → k ≠ Hb ∧ nv.ownBlock ≠ some k ∧ iv.ownBlock ≠ some k ∧ bv.ownBlock ≠ some k
section
variable {w w' : World} {n0 Hb s : Nat} {F : Nat → Prop} {st : HSt} {m : Nat} {nv iv bv : Value} {S : List NdM}
theorem BuildAt.lt (h : BuildAt w n0 Hb s F st m nv iv bv S) : Hb < w.heap.size := (Array.getElem?_eq_some_iff.1 h.cell).1
/-- The blocks of a history. -/
def histF (Hb : Nat) (F : Nat → Prop) (nv iv bv : Value) (S : List NdM) (k : Nat) : Prop := k = Hb ∨ F k ∨ nv.ownBlock = some k ∨ iv.ownBlock = some k ∨ bv.ownBlock = some k ∨ ∃ p ∈ S, p.pv.ownBlock = some k
theorem BuildAt.kept (h : BuildAt w n0 Hb s F st m nv iv bv S) {G : Nat → Prop} (hk : Kept G w w') (hG : ∀ k, histF Hb F nv iv bv S k → ¬ G k) : BuildAt w' n0 Hb s F st m nv iv bv S :=
  ⟨h.ob.kept hk (fun k e => hG k (.inr (.inl e))), (hk.block Hb h.lt (hG _ (.inl rfl))).trans h.cell, h.nd.keptF hk (fun g e => hG g (.inr (.inr (.inl e)))), h.ndS, fun p hp => ⟨(h.pv p hp).1.keptF hk (fun g e => hG g (.inr (.inr (.inr (.inr (.inr ⟨p, hp, e⟩)))))), (h.pv p hp).2⟩, h.ids.keptF hk (fun g e => hG g (.inr (.inr (.inr (.inl e))))), h.bare.keptF hk (fun g e => hG g (.inr (.inr (.inr (.inr (.inl e)))))), h.nH, h.sepF⟩
theorem BuildAt.keptN (h : BuildAt w n0 Hb s F st m nv iv bv S) (hk : Kept (fun _ => False) w w') : BuildAt w' n0 Hb s F st m nv iv bv S := h.kept hk (fun _ _ f => f)
theorem BuildAt.below (h : BuildAt w n0 Hb s F st m nv iv bv S) : ∀ k, histF Hb F nv iv bv S k → k < w.heap.size := by
  rintro k (rfl | e | e | e | e | ⟨p, hp, e⟩)
  · exact h.lt
  · exact h.ob.lt k e
  · exact (h.nd.base e).2
  · exact (h.ids.base e).2
  · exact (h.bare.base e).2
  · exact ((h.pv p hp).1.base e).2
theorem BuildAt.c (h : BuildAt w n0 Hb s F st m nv iv bv S) : w.cell? ⟨Hb, 0, none⟩ = some (.pointer (some ⟨s, 0, none⟩)) ∧ w.cell? ⟨Hb, 1, none⟩ = some nv ∧ w.cell? ⟨Hb, 2, none⟩ = some iv ∧ w.cell? ⟨Hb, 3, none⟩ = some bv ∧ w.cell? ⟨Hb, 4, none⟩ = some (.int .u64 zId) ∧ ∀ i, w.frozen? ⟨Hb, i, none⟩ = false := by
  refine ⟨?_, ?_, ?_, ?_, ?_, fun i => ?_⟩ <;> simp [World.cell?, World.frozen?, h.cell]
/-- The blocks are apart. -/
theorem BuildAt.ne (h : BuildAt w n0 Hb s F st m nv iv bv S) : nv.ownBlock ≠ some Hb ∧ iv.ownBlock ≠ some Hb ∧ bv.ownBlock ≠ some Hb ∧ (∀ p ∈ S, p.pv.ownBlock ≠ some Hb) ∧
    (∀ g, nv.ownBlock = some g → iv.ownBlock ≠ some g ∧ bv.ownBlock ≠ some g ∧ ∀ p ∈ S, p.pv.ownBlock ≠ some g) ∧ (∀ g, bv.ownBlock = some g → iv.ownBlock ≠ some g ∧ ∀ p ∈ S, p.pv.ownBlock ≠ some g) := by
  have hc := h.cell
  refine ⟨fun e => ?_, fun e => ?_, fun e => ?_, fun p hp e => ?_, fun g e => ⟨fun e2 => ?_, fun e2 => ?_, fun p hp e2 => ?_⟩, fun g e => ⟨fun e2 => ?_, fun p hp e2 => ?_⟩⟩
  · obtain ⟨cur, h2⟩ := h.nd.blockT e; rw [hc] at h2; simp at h2
  · obtain ⟨cur, h2⟩ := h.ids.blockT e; rw [hc] at h2; simp at h2
  · obtain ⟨cur, h2⟩ := h.bare.blockT e; rw [hc] at h2; simp at h2
  · obtain ⟨cur, h2⟩ := (h.pv p hp).1.blockT e; rw [hc] at h2; simp at h2
  · obtain ⟨cur, h2⟩ := h.nd.blockT e; obtain ⟨cur2, h3⟩ := h.ids.blockT e2; rw [h2] at h3; simp at h3
  · obtain ⟨cur, h2⟩ := h.nd.blockT e; obtain ⟨cur2, h3⟩ := h.bare.blockT e2; rw [h2] at h3; simp at h3
  · obtain ⟨cur, h2⟩ := h.nd.blockT e; obtain ⟨cur2, h3⟩ := (h.pv p hp).1.blockT e2; rw [h2] at h3; simp at h3
  · obtain ⟨cur, h2⟩ := h.bare.blockT e; obtain ⟨cur2, h3⟩ := h.ids.blockT e2; rw [h2] at h3; simp at h3
  · obtain ⟨cur, h2⟩ := h.bare.blockT e; obtain ⟨cur2, h3⟩ := (h.pv p hp).1.blockT e2; rw [h2] at h3; simp at h3
end
end Go.Proofs.YtikacgiccllolaaGreat
