/- espalierlaw11: born, what its statements do to memory. -/
import Derived.Test.YtikacgiccllolaaGreatBornA
import Derived.Test.YtikacgiccllolaaGreatNodB
namespace Go.Proofs.YtikacgiccllolaaGreat
open Go.RowKit Go.ChangeMaps Go.MapKept

/-- One parent more: its id laid, appended, stored. -/
theorem par_step {W : World} {n1 C tree : Nat} {cv : Value} {date : Int} {ps : List Nat} (hC : ComAt W C tree cv date) (hO : OwnI n1 W cv ps) (hn : n1 ≤ C) (x : Nat) (hl : ps.length ≤ 1000) :
    ∃ v' W', (Builtin.append_ #[28, 28] 28 #[cv, .slice (some ⟨W.heap.size, 0, none⟩) 1 1]).run Tryz.prog (W.alloc (.cells #[.int .u64 x] 37)) = .ok v' W' ∧
      W'.cell? ⟨C, 1, none⟩ = some cv ∧ W'.frozen? ⟨C, 1, none⟩ = false ∧
      ComAt (W'.setCell ⟨C, 1, none⟩ v') C tree v' date ∧ OwnI n1 (W'.setCell ⟨C, 1, none⟩ v') v' (ps ++ [x]) ∧ Kept (fun k => n1 ≤ k) W (W'.setCell ⟨C, 1, none⟩ v') ∧ Kept (fun k => k = C ∨ cv.ownBlock = some k) W (W'.setCell ⟨C, 1, none⟩ v') ∧ Kept (fun k => cv.ownBlock = some k) W W' := by
  have hCl : C < W.heap.size := (Array.getElem?_eq_some_iff.1 hC).1
  obtain ⟨v', W', hrun, ho, hk, -⟩ := ids_app hO (by omega) x (by omega)
  have hne : cv.ownBlock ≠ some C := fun e => by
    obtain ⟨cur, h2⟩ := hO.blockT e
    unfold ComAt at hC
    rw [hC] at h2
    simp at h2
  have hC' : ComAt W' C tree cv date := hC.kept hk hne
  have hk2 := keptCell W' C 1 v'
  have hk3 : Kept (fun k => k = C ∨ cv.ownBlock = some k) W (W'.setCell ⟨C, 1, none⟩ v') := (hk.mono (fun _ _ e => .inr e)).trans hk2 (fun _ _ e => .inl e)
  refine ⟨v', W', hrun, hC'.cells.2.1, hC'.cells.2.2.2.2.2 1, ?_, ho.keptF hk2 (fun g e e2 => ?_), hk3.mono (fun i _ e => ?_), hk3, hk⟩
  · unfold ComAt
    rw [heap_setCell_row hC' _]
    rfl
  · subst e2
    obtain ⟨cur, h2⟩ := ho.blockT e
    unfold ComAt at hC'
    rw [hC'] at h2
    simp at h2
  · rcases e with rfl | e
    · exact hn
    · exact (hO.base e).1
/-- One node more: laid, appended, stored. -/
theorem node_step {W : World} {n0 Hb s : Nat} {F : Nat → Prop} {st : HSt} {m : Nat} {nv iv bv : Value} {S : List NdM} (h : BuildAt W n0 Hb s F st m nv iv bv S) (p : NdM) (hp : OwnI n0 W p.pv p.ps) (hsep : ∀ g, p.pv.ownBlock = some g → ¬ histF Hb F nv iv bv S g) (hl : S.length ≤ 1000) :
    ∃ v' W', (Builtin.append_ #[34, 34] 34 #[nv, .slice (some ⟨W.heap.size, 0, none⟩) 1 1]).run Tryz.prog (W.alloc (.cells #[.int .u64 p.id, p.pv, .bool p.other] 70)) = .ok v' W' ∧
      W'.cell? ⟨Hb, 1, none⟩ = some nv ∧ W'.frozen? ⟨Hb, 1, none⟩ = false ∧
      BuildAt (W'.setCell ⟨Hb, 1, none⟩ v') n0 Hb s F { st with nd := st.nd ++ [p.node] } m v' iv bv (S ++ [p]) ∧ Kept (fun k => k = Hb ∨ nv.ownBlock = some k) W (W'.setCell ⟨Hb, 1, none⟩ v') ∧ Kept (fun k => nv.ownBlock = some k) W W' ∧ ∃ a n c, v' = .slice a n c := by
  have hlt := h.lt
  have hkA : Kept (fun _ => False) W (W.alloc (.cells #[.int .u64 p.id, p.pv, .bool p.other] 70)) := (Kept.refl _ _).alloc _
  have hbA : (W.alloc (.cells #[.int .u64 p.id, p.pv, .bool p.other] 70)).heap[W.heap.size]? = some (.cells #[.int .u64 p.id, p.pv, .bool p.other] 70 (0, 0)) := heap_alloc_new _ _
  have hA := h.keptN hkA
  have hszA : (W.alloc (.cells #[.int .u64 p.id, p.pv, .bool p.other] 70)).heap.size = W.heap.size + 1 := by simp
  generalize hWA : W.alloc (.cells #[.int .u64 p.id, p.pv, .bool p.other] 70) = WA at *
  obtain ⟨pa, pc, hpv, -, -⟩ := hp.form
  obtain ⟨v', W', hrun, ho, hk, hb⟩ := hA.nd.push (by have := h.nH; omega) W.heap.size p hbA ⟨_, _, _, hpv⟩ (by omega)
  have hne := hA.ne
  have hc' := (hk.block Hb hA.lt hne.1).trans hA.cell
  have hk2 := keptCell W' Hb 1 v'
  have hkk : Kept (fun k => k = Hb ∨ nv.ownBlock = some k) WA (W'.setCell ⟨Hb, 1, none⟩ v') := (hk.mono (fun _ _ e => .inr e)).trans hk2 (fun _ _ e => .inl e)
  have hkW : Kept (fun k => k = Hb ∨ nv.ownBlock = some k) W (W'.setCell ⟨Hb, 1, none⟩ v') := (hkA.mono (fun _ _ f => f.elim)).trans hkk (fun _ _ e => e)
  refine ⟨v', W', hrun, by simp [World.cell?, hc'], by simp [World.frozen?, hc'], ⟨hA.ob.kept hkk (fun k e e2 => ?_), ?_, ho.keptF hk2 (fun g e e2 => ?_), ?_, fun q hq => ?_, hA.ids.keptF hkk (fun g e e2 => ?_), hA.bare.keptF hkk (fun g e e2 => ?_), h.nH, fun k e => ⟨(h.sepF k e).1, ?_, (h.sepF k e).2.2.1, (h.sepF k e).2.2.2⟩⟩, hkW, (hkA.mono (fun _ _ f => f.elim)).trans hk (fun _ _ e => e), by obtain ⟨a, c, e, -, -⟩ := ho.form; exact ⟨_, _, _, e⟩⟩
  · rcases e2 with e2 | e2
    · exact (h.sepF k e).1 e2
    · exact (h.sepF k e).2.1 e2
  · rw [heap_setCell_row hc' _]
    rfl
  · subst e2
    obtain ⟨cur, h2⟩ := ho.blockT e
    rw [hc'] at h2
    simp at h2
  · show nodesD (S ++ [p]) = st.nd ++ [p.node]
    rw [← h.ndS]
    simp [nodesD]
  · rcases List.mem_append.1 hq with hq | hq
    · refine ⟨(hA.pv q hq).1.keptF hkk (fun g e e2 => ?_), (h.pv q hq).2⟩
      rcases e2 with e2 | e2
      · exact hne.2.2.2.1 q hq (e2 ▸ e)
      · exact (hne.2.2.2.2.1 g e2).2.2 q hq e
    · rw [List.mem_singleton.1 hq]
      refine ⟨hp.keptF hkW (fun g e e2 => ?_), fun g e => ⟨fun e2 => hsep g e (.inr (.inr (.inr (.inl e2)))), fun e2 => hsep g e (.inr (.inl e2))⟩⟩
      rcases e2 with e2 | e2
      · exact hsep g e (.inl e2)
      · exact hsep g e (.inr (.inr (.inl e2)))
  · rcases e2 with e2 | e2
    · exact hne.2.1 (e2 ▸ e)
    · exact (hne.2.2.2.2.1 g e2).1 e
  · rcases e2 with e2 | e2
    · exact hne.2.2.1 (e2 ▸ e)
    · exact (hne.2.2.2.2.1 g e2).2.1 e
  · intro e2
    rcases hb with hb | hb
    · rw [hb] at e2; exact (h.sepF k e).2.1 e2
    · rw [hb] at e2
      have := h.ob.lt k e
      cases e2
      omega

/-- An object is put in. -/
theorem BuildAt.put {W W' : World} {n0 Hb s : Nat} {F F' : Nat → Prop} {st : HSt} {m m' : Nat} {nv iv bv : Value} {S : List NdM} {os' : List OM} (h : BuildAt W n0 Hb s F st m nv iv bv S) (hob : ObB W' s F' os' m') (hF : ∀ k, F' k → F k ∨ W.heap.size ≤ k) (hk : Kept F W W') : BuildAt W' n0 Hb s F' { st with os := os' } m' nv iv bv S := by
  have hb := h.below
  refine ⟨hob, (hk.block Hb h.lt (fun e => (h.sepF _ e).1 rfl)).trans h.cell, h.nd.keptF hk (fun g e e2 => (h.sepF g e2).2.1 e), h.ndS, fun p hp => ⟨(h.pv p hp).1.keptF hk (fun g e e2 => ((h.pv p hp).2 g e).2 e2), fun g e => ⟨((h.pv p hp).2 g e).1, fun e2 => ?_⟩⟩, h.ids.keptF hk (fun g e e2 => (h.sepF g e2).2.2.1 e), h.bare.keptF hk (fun g e e2 => (h.sepF g e2).2.2.2 e), h.nH, fun k e => ?_⟩
  · rcases hF g e2 with h1 | h1
    · exact ((h.pv p hp).2 g e).2 h1
    · have := ((h.pv p hp).1.base e).2; omega
  · rcases hF k e with h1 | h1
    · exact h.sepF k h1
    · refine ⟨fun e2 => ?_, fun e2 => ?_, fun e2 => ?_, fun e2 => ?_⟩
      · have := h.lt; omega
      · have := (h.nd.base e2).2; omega
      · have := (h.ids.base e2).2; omega
      · have := (h.bare.base e2).2; omega
theorem HOk.node_lt {st : HSt} (h : HOk st) : ∀ d ∈ st.nd, d.id < 18446744073709551616 := fun d hd => by
  obtain ⟨os', -, h2⟩ := h.os
  have hm : normD d ∈ os'.map OM.node := by rw [← h2]; exact List.mem_map_of_mem hd
  obtain ⟨o, -, e⟩ := List.mem_map.1 hm
  rw [← normD_id d, ← e, OM.node_id]
  exact idB_lt _

/-! ### ids and bare, appended in whatever order -/
/-- How far the ids are: as they stand; the new one laid at c; appended as v. -/
def AI (W w : World) (n0 : Nat) (iv : Value) (ids : List Nat) (x : Nat) : Nat → Nat → Value → Prop
  | 0, _, _ => OwnI n0 w iv ids
  | 1, c, _ => OwnI n0 w iv ids ∧ w.cell? ⟨c, 0, none⟩ = some (.int .u64 x) ∧ W.heap.size ≤ c
  | _, _, v => OwnI n0 w v (ids ++ [x]) ∧ ∀ g, v.ownBlock = some g → iv.ownBlock = some g ∨ W.heap.size ≤ g
def AT (W w : World) (n0 : Nat) (bv : Value) (l : List Bool) (x : Bool) : Nat → Nat → Value → Prop
  | 0, _, _ => OwnT n0 w bv l
  | 1, c, _ => OwnT n0 w bv l ∧ w.cell? ⟨c, 0, none⟩ = some (.bool x) ∧ W.heap.size ≤ c
  | _, _, v => OwnT n0 w v (l ++ [x]) ∧ ∀ g, v.ownBlock = some g → bv.ownBlock = some g ∨ W.heap.size ≤ g
section
variable {W w w' : World} {n0 : Nat} {iv bv : Value} {ids : List Nat} {l : List Bool} {x : Nat} {y : Bool}
theorem AI.kept {k c : Nat} {v : Value} {G : Nat → Prop} (h : AI W w n0 iv ids x k c v) (hk : Kept G w w') (hG : ∀ g, iv.ownBlock = some g ∨ W.heap.size ≤ g → ¬ G g) : AI W w' n0 iv ids x k c v := by
  match k, h with
  | 0, h => exact OwnI.keptF h hk (fun g e => hG g (.inl e))
  | 1, h => exact ⟨h.1.keptF hk (fun g e => hG g (.inl e)), hk.cell h.2.1 (hG c (.inr h.2.2)), h.2.2⟩
  | k + 2, h => exact ⟨h.1.keptF hk (fun g e => hG g (h.2 g e)), h.2⟩
theorem AT.kept {k c : Nat} {v : Value} {G : Nat → Prop} (h : AT W w n0 bv l y k c v) (hk : Kept G w w') (hG : ∀ g, bv.ownBlock = some g ∨ W.heap.size ≤ g → ¬ G g) : AT W w' n0 bv l y k c v := by
  match k, h with
  | 0, h => exact OwnT.keptF h hk (fun g e => hG g (.inl e))
  | 1, h => exact ⟨h.1.keptF hk (fun g e => hG g (.inl e)), hk.cell h.2.1 (hG c (.inr h.2.2)), h.2.2⟩
  | k + 2, h => exact ⟨h.1.keptF hk (fun g e => hG g (h.2 g e)), h.2⟩
/-- What both have been laid into. -/
structure Both (W w : World) (n0 : Nat) (iv bv : Value) (ids : List Nat) (l : List Bool) (x : Nat) (y : Bool) (a ac : Nat) (av : Value) (b bc : Nat) (bv' : Value) : Prop where
  sz : n0 ≤ W.heap.size
  len : ids.length ≤ 100000 ∧ l.length ≤ 100000
  hiv : ∀ g, iv.ownBlock = some g → bv.ownBlock ≠ some g ∧ g < W.heap.size
  hbv : ∀ g, bv.ownBlock = some g → iv.ownBlock ≠ some g ∧ g < W.heap.size
  ai : AI W w n0 iv ids x a ac av
  at_ : AT W w n0 bv l y b bc bv'
  k : Kept (fun k => iv.ownBlock = some k ∨ bv.ownBlock = some k) W w
section
variable {a ac b bc : Nat} {av bv' : Value}
theorem Both.allocI (h : Both W w n0 iv bv ids l x y 0 ac av b bc bv') : Both W (w.alloc (.cells #[.int .u64 x] 37)) n0 iv bv ids l x y 1 w.heap.size av b bc bv' := by
  have hk : Kept (fun _ => False) w (w.alloc (.cells #[.int .u64 x] 37)) := (Kept.refl _ _).alloc _
  refine ⟨h.sz, h.len, h.hiv, h.hbv, ⟨OwnI.keptF h.ai hk (fun _ _ f => f), ?_, h.k.size⟩, h.at_.kept hk (fun _ _ f => f), h.k.trans hk (fun _ _ f => f.elim)⟩
  rw [World.cell?_alloc_new]
  rfl
theorem Both.allocT (h : Both W w n0 iv bv ids l x y a ac av 0 bc bv') : Both W (w.alloc (.cells #[.bool y] 4)) n0 iv bv ids l x y a ac av 1 w.heap.size bv' := by
  have hk : Kept (fun _ => False) w (w.alloc (.cells #[.bool y] 4)) := (Kept.refl _ _).alloc _
  refine ⟨h.sz, h.len, h.hiv, h.hbv, h.ai.kept hk (fun _ _ f => f), ⟨OwnT.keptF h.at_ hk (fun _ _ f => f), ?_, h.k.size⟩, h.k.trans hk (fun _ _ f => f.elim)⟩
  rw [World.cell?_alloc_new]
  rfl
theorem Both.appI (h : Both W w n0 iv bv ids l x y 1 ac av b bc bv') : ∃ v w', (Builtin.append_ #[28, 28] 28 #[iv, .slice (some ⟨ac, 0, none⟩) 1 1]).run Tryz.prog w = .ok v w' ∧ Both W w' n0 iv bv ids l x y 2 ac v b bc bv' := by
  obtain ⟨h1, h2, h3⟩ := h.ai
  obtain ⟨v, w', hrun, ho, hk, hb⟩ := h1.pushB (by have := h.sz; have := h.k.size; omega) _ x h2 (by have := h.len.1; omega)
  refine ⟨v, w', hrun, h.sz, h.len, h.hiv, h.hbv, ⟨ho, fun g e => ?_⟩, h.at_.kept hk (fun g e e2 => ?_), h.k.trans hk (fun _ _ e => .inl e)⟩
  · rcases hb with hb | hb
    · exact .inl (hb ▸ e)
    · rw [hb] at e; cases e; exact .inr h.k.size
  · rcases e with e | e
    · exact (h.hiv g e2).1 e
    · have := (h.hiv g e2).2; omega
theorem Both.appT (h : Both W w n0 iv bv ids l x y a ac av 1 bc bv') : ∃ v w', (Builtin.append_ #[35, 35] 35 #[bv, .slice (some ⟨bc, 0, none⟩) 1 1]).run Tryz.prog w = .ok v w' ∧ Both W w' n0 iv bv ids l x y a ac av 2 bc v := by
  obtain ⟨h1, h2, h3⟩ := h.at_
  obtain ⟨v, w', hrun, ho, hk, hb⟩ := h1.push (by have := h.sz; have := h.k.size; omega) _ y h2 (by have := h.len.2; omega)
  refine ⟨v, w', hrun, h.sz, h.len, h.hiv, h.hbv, h.ai.kept hk (fun g e e2 => ?_), ⟨ho, fun g e => ?_⟩, h.k.trans hk (fun _ _ e => .inr e)⟩
  · rcases e with e | e
    · exact (h.hbv g e2).1 e
    · have := (h.hbv g e2).2; omega
  · rcases hb with hb | hb
    · exact .inl (hb ▸ e)
    · rw [hb] at e; cases e; exact .inr h.k.size
end
variable {Hb s : Nat} {F : Nat → Prop} {st : HSt} {m : Nat} {nv : Value} {S : List NdM}
theorem BuildAt.both (h : BuildAt W n0 Hb s F st m nv iv bv S) (hl : st.ids.length ≤ 100000 ∧ st.bare.length ≤ 100000) (x : Nat) (y : Bool) : Both W W n0 iv bv st.ids st.bare x y 0 0 iv 0 0 bv :=
  ⟨by have := h.nH; have := h.lt; omega, hl, fun g e => ⟨fun e2 => (h.ne.2.2.2.2.2 g e2).1 e, (h.ids.base e).2⟩, fun g e => ⟨(h.ne.2.2.2.2.2 g e).1, (h.bare.base e).2⟩, h.ids, h.bare, Kept.refl _ _⟩
theorem Both.hcell (h : BuildAt W n0 Hb s F st m nv iv bv S) {a ac b bc : Nat} {av bv' : Value} (k : Both W w n0 iv bv st.ids st.bare x y a ac av b bc bv') : w.heap[Hb]? = some (.cells #[.pointer (some ⟨s, 0, none⟩), nv, iv, bv, .int .u64 zId] 39 (0, 0)) :=
  (k.k.block Hb h.lt (fun e => by rcases e with e | e; exact h.ne.2.1 e; exact h.ne.2.2.1 e)).trans h.cell
/-- Both are stored. -/
theorem Both.fin (h : BuildAt W n0 Hb s F st m nv iv bv S) {ac bc : Nat} {av bv' : Value} (k : Both W w n0 iv bv st.ids st.bare x y 2 ac av 2 bc bv') (hw : ∀ g, g ≠ Hb → w'.heap[g]? = w.heap[g]?) (hs : w'.heap.size = w.heap.size) (ho : w'.os = w.os ∧ w'.tape = w.tape ∧ w'.output = w.output) (hc : w'.heap[Hb]? = some (.cells #[.pointer (some ⟨s, 0, none⟩), nv, av, bv', .int .u64 zId] 39 (0, 0))) :
    BuildAt w' n0 Hb s F { st with ids := st.ids ++ [x], bare := st.bare ++ [y] } m nv av bv' S ∧ Kept (fun k => k = Hb ∨ iv.ownBlock = some k ∨ bv.ownBlock = some k) W w' := by
  have hk2 : Kept (· = Hb) w w' := ⟨ho.1, ho.2.1, ho.2.2, by omega, fun g _ hg => hw g hg⟩
  have hkk : Kept (fun k => k = Hb ∨ iv.ownBlock = some k ∨ bv.ownBlock = some k) W w' := (k.k.mono (fun _ _ e => .inr e)).trans hk2 (fun _ _ e => .inl e)
  have hne := h.ne
  have hcw := Both.hcell h k
  obtain ⟨a1, a2⟩ := k.ai
  obtain ⟨b1, b2⟩ := k.at_
  refine ⟨⟨h.ob.kept hkk (fun g e e2 => ?_), hc, h.nd.keptF hkk (fun g e e2 => ?_), h.ndS, fun p hp => ⟨(h.pv p hp).1.keptF hkk (fun g e e2 => ?_), fun g e => ⟨fun e2 => ?_, ((h.pv p hp).2 g e).2⟩⟩, a1.keptF hk2 (fun g e e2 => ?_), b1.keptF hk2 (fun g e e2 => ?_), h.nH, fun g e => ⟨(h.sepF g e).1, (h.sepF g e).2.1, fun e2 => ?_, fun e2 => ?_⟩⟩, hkk⟩
  · rcases e2 with e2 | e2 | e2
    · exact (h.sepF g e).1 e2
    · exact (h.sepF g e).2.2.1 e2
    · exact (h.sepF g e).2.2.2 e2
  · rcases e2 with e2 | e2 | e2
    · exact hne.1 (e2 ▸ e)
    · exact (hne.2.2.2.2.1 g e).1 e2
    · exact (hne.2.2.2.2.1 g e).2.1 e2
  · rcases e2 with e2 | e2 | e2
    · exact hne.2.2.2.1 p hp (e2 ▸ e)
    · exact ((h.pv p hp).2 g e).1 e2
    · exact (hne.2.2.2.2.2 g e2).2 p hp e
  · rcases a2 g e2 with e3 | e3
    · exact ((h.pv p hp).2 g e).1 e3
    · have := ((h.pv p hp).1.base e).2; omega
  · subst e2
    obtain ⟨cur, h2⟩ := a1.blockT e
    rw [hcw] at h2
    simp at h2
  · subst e2
    obtain ⟨cur, h2⟩ := b1.blockT e
    rw [hcw] at h2
    simp at h2
  · rcases a2 g e2 with e3 | e3
    · exact (h.sepF g e).2.2.1 e3
    · have := h.ob.lt g e; omega
  · rcases b2 g e2 with e3 | e3
    · exact (h.sepF g e).2.2.2 e3
    · have := h.ob.lt g e; omega
end
end Go.Proofs.YtikacgiccllolaaGreat
