/- graph: the walker, push. -/
import Derived.Test.YtikacgiccllolaaGreatGetA
import Derived.Test.YtikacgiccllolaaGreatGraphL
import Derived.Deep.LoopGhost
namespace Go.Proofs.YtikacgiccllolaaGreat
open Go.RowKit Go.ChangeMaps Go.MapKept

theorem Tryz.info176 : (Tryz.prog.info? 176).map (fun i => (i.zero, i.size, i.bytes)) = some (some (.agg #[.int .u64 0, .slice none 0 0, .int .i64 0]), 3, 40) := by kernel_rfl
/-- The objects as the document's commits. -/
def OM.node (o : OM) : NodeM := match o with
  | .com _ ps _ => ⟨o.id, ps, false⟩
  | .blob _ => ⟨o.id, [], true⟩
  | .empty => ⟨o.id, [], true⟩
def nodesO (os : List OM) : List NodeM := os.map OM.node
theorem OM.node_id (o : OM) : o.node.id = o.id := by cases o <;> rfl
theorem findN_nodes (os : List OM) (x : Nat) : findN (nodesO os) x = (findO os x).map OM.node := by
  unfold findN findO nodesO
  rw [List.find?_map]
  congr 2
  funext o
  simp only [Function.comp, OM.node_id]
theorem comR_nodes (os : List OM) (x : Nat) : (findN (nodesO os) x = none ∧ (comR os x).2.2.2 = 4) ∨ (∃ d, findN (nodesO os) x = some d ∧ d.other = true ∧ (comR os x).2.2.2 = 170) ∨ (∃ d, findN (nodesO os) x = some d ∧ d.other = false ∧ (comR os x).2.2.2 = 0 ∧ (comR os x).2.1 = d.parents) := by
  rw [findN_nodes]
  unfold comR
  cases findO os x with
  | none => exact .inl ⟨rfl, rfl⟩
  | some o =>
    cases o with
    | com t ps d => exact .inr (.inr ⟨_, rfl, rfl, rfl, rfl⟩)
    | blob y => exact .inr (.inl ⟨_, rfl, rfl, rfl⟩)
    | empty => exact .inr (.inl ⟨_, rfl, rfl, rfl⟩)

/-- What is known of a commit. -/
def stN (order on : List Nat) (x : Nat) : Option Nat := if x ∈ order then some 2 else if x ∈ on then some 1 else none

/-- A walker over a store: all of it at or behind block n0, the store ahead of it. -/
structure WalkAt (w : World) (n0 s : Nat) (F : Nat → Prop) (os : List OM) (Wb M : Nat) (es : Array MapEntry) (clock : Nat) (ov : Value) (L : List (Int × Nat)) (order on : List Nat) : Prop where
  ob : ObAt w s F os
  fl : ∀ k, F k → k < n0
  nW : n0 ≤ Wb
  nM : n0 ≤ M
  cell : w.heap[Wb]? = some (.cells #[.pointer (some ⟨s, 0, none⟩), .map (some M), ov] 84 (0, 0))
  map : w.heap[M]? = some (.map es clock)
  stamped : Stamped es clock
  rel : RelM (Value.int .u64) (fun v (n : Nat) => v = .int .i64 n) es.toList L
  st : ∀ x : Nat, getA (x : Int) L = stN order on x
  ord : OwnI n0 w ov order
section
variable {w w' : World} {n0 s : Nat} {F : Nat → Prop} {os : List OM} {Wb M : Nat} {es : Array MapEntry} {clock : Nat} {ov : Value} {L : List (Int × Nat)} {order on : List Nat}
theorem WalkAt.kept (h : WalkAt w n0 s F os Wb M es clock ov L order on) {G : Nat → Prop} (hk : Kept G w w') (hG : ∀ k, k < n0 ∨ k = Wb ∨ k = M ∨ ov.ownBlock = some k → ¬ G k) : WalkAt w' n0 s F os Wb M es clock ov L order on :=
  ⟨h.ob.kept hk (fun k hf => hG k (.inl (h.fl k hf))), h.fl, h.nW, h.nM, (hk.block Wb (Array.getElem?_eq_some_iff.1 h.cell).1 (hG _ (.inr (.inl rfl)))).trans h.cell, (hk.block M (Array.getElem?_eq_some_iff.1 h.map).1 (hG _ (.inr (.inr (.inl rfl))))).trans h.map, h.stamped, h.rel, h.st, h.ord.keptF hk (fun g e => hG g (.inr (.inr (.inr e))))⟩
theorem WalkAt.keptN (h : WalkAt w n0 s F os Wb M es clock ov L order on) (hk : Kept (fun _ => False) w w') : WalkAt w' n0 s F os Wb M es clock ov L order on := h.kept hk (fun _ _ f => f)
theorem WalkAt.c (h : WalkAt w n0 s F os Wb M es clock ov L order on) : w.cell? ⟨Wb, 0, none⟩ = some (.pointer (some ⟨s, 0, none⟩)) ∧ w.cell? ⟨Wb, 1, none⟩ = some (.map (some M)) ∧ w.cell? ⟨Wb, 2, none⟩ = some ov ∧ ∀ i, w.frozen? ⟨Wb, i, none⟩ = false := by
  refine ⟨?_, ?_, ?_, fun i => ?_⟩ <;> simp [World.cell?, World.frozen?, h.cell]
theorem WalkAt.wm (h : WalkAt w n0 s F os Wb M es clock ov L order on) : Wb ≠ M := fun e => by have := h.cell; rw [e, h.map] at this; cases this
theorem OwnI.blockT {n0 : Nat} {w : World} {v : Value} {l : List Nat} (h : OwnI n0 w v l) {g : Nat} (e : v.ownBlock = some g) : ∃ cur, w.heap[g]? = some (.cells cur 37 (0, 0)) := ownsRow_block h e
theorem WalkAt.ow (h : WalkAt w n0 s F os Wb M es clock ov L order on) {g : Nat} (e : ov.ownBlock = some g) : g ≠ Wb ∧ g ≠ M := by
  obtain ⟨cur, hc⟩ := h.ord.blockT e
  exact ⟨fun e2 => by rw [e2, h.cell] at hc; simp at hc, fun e2 => by rw [e2, h.map] at hc; cases hc⟩
/-- What the state of a commit is, looked up. -/
theorem WalkAt.look (h : WalkAt w n0 s F os Wb M es clock ov L order on) (x : Nat) :
    ∀ w' : World, w'.heap[M]? = some (.map es clock) → (Instr.lookup 82 (.map (some M)) (.int .u64 x) false).run Tryz.prog w' = .ok (.int .i64 ((stN order on x).getD 0 : Nat)) w' := by
  obtain ⟨v, hrun, hv⟩ := run_lookup_rel (m := M) (clock := clock) (keyEnc_int Tryz.underlying37) Tryz.underlying82 zero_int h.rel (x : Int) false
  intro w' hm
  have hr := hrun w' hm
  rw [h.st x] at hv
  rcases hv with ⟨h1, rfl⟩ | ⟨n, e, h1, rfl, -⟩
  · rw [h1]; simpa using hr
  · rw [h1]; simpa using hr
/-- A commit is noted as open, or as done. -/
theorem WalkAt.set (h : WalkAt w n0 s F os Wb M es clock ov L order on) (x n : Nat) (order' on' : List Nat) (hst : ∀ y : Nat, stN order' on' y = if y = x then some n else stN order on y) :
    ∃ es' clock', (∀ w' : World, w'.heap[M]? = some (.map es clock) → (Instr.mapUpdate 82 (.map (some M)) (.int .u64 x) (.int .i64 n)).run Tryz.prog w' = .ok () (setBlock w' M (.map es' clock'))) ∧ Stamped es' clock' ∧ ∃ L', RelM (Value.int .u64) (fun v (n : Nat) => v = .int .i64 n) es'.toList L' ∧ (∀ y : Nat, getA (y : Int) L' = stN order' on' y) := by
  obtain ⟨es', clock', hrun, hrel, hst', -⟩ := run_mapUpdate_rel (m := M) (R' := fun v (n : Nat) => v = .int .i64 n) (keyEnc_int Tryz.underlying37) Tryz.underlying82 h.rel h.stamped (x : Int) (.int .i64 n) n rfl (fun e _ _ b hb => hb)
  refine ⟨es', clock', hrun, hst', _, hrel, fun y => ?_⟩
  rw [hst y]
  by_cases hy : y = x
  · rw [if_pos hy, hy, getA_putA_same]
  · rw [if_neg hy, getA_putA_ne (by omega), h.st y]
end
end Go.Proofs.YtikacgiccllolaaGreat

/- graph: the pile, push. -/
namespace Go.Proofs.YtikacgiccllolaaGreat
open Go.RowKit Go.ChangeMaps Go.MapKept

/-- A commit that is being gone through. -/
structure StopM where
  id : Nat
  pv : Value
  ps : List Nat
  next : Nat
def StopM.cells (p : StopM) : List Value := [.int .u64 p.id, p.pv, .int .i64 p.next]
def cellsS (S : List StopM) : List Value := S.flatMap StopM.cells
theorem cellsS_length (S : List StopM) : (cellsS S).length = S.length * 3 := by
  induction S with
  | nil => rfl
  | cons p S ih => unfold cellsS at *; rw [List.flatMap_cons, List.length_append, ih]; simp [StopM.cells]; omega
theorem cellsS_append (S T : List StopM) : cellsS (S ++ T) = cellsS S ++ cellsS T := by simp [cellsS]
def OwnS (n0 : Nat) (w : World) (v : Value) (S : List StopM) : Prop := w.ownsRow n0 176 3 v S.length (cellsS S)
theorem OwnS.form {n0 : Nat} {w : World} {v : Value} {S : List StopM} (h : OwnS n0 w v S) : ∃ a c, v = .slice a S.length c ∧ S.length ≤ c ∧ c ≤ maxLen := by
  rcases h.2 with ⟨rfl, h0⟩ | ⟨g, cap, cur, rfl, _, _, hn, hm, _⟩
  · exact ⟨none, 0, by rw [h0], by omega, by simp [maxLen]⟩
  · exact ⟨_, cap, rfl, hn, hm⟩
theorem OwnS.keptF {F : Nat → Prop} {n0 : Nat} {w w' : World} {v : Value} {S : List StopM} (h : OwnS n0 w v S) (hk : Kept F w w') (hF : ∀ g, v.ownBlock = some g → ¬ F g) : OwnS n0 w' v S := by
  rcases h with ⟨h1, h2⟩
  refine ⟨h1, ?_⟩
  rcases h2 with h2 | ⟨g, cap, cur, rfl, hb, hg, hr⟩
  · exact .inl h2
  · exact .inr ⟨g, cap, cur, rfl, hb, (hk.block g (Array.getElem?_eq_some_iff.1 hg).1 (hF g rfl)).trans hg, hr⟩
theorem OwnS.base {n0 : Nat} {w : World} {v : Value} {S : List StopM} (h : OwnS n0 w v S) {g : Nat} (e : v.ownBlock = some g) : n0 ≤ g ∧ g < w.heap.size := World.ownsRow.lt h g e
theorem OwnS.blockT {n0 : Nat} {w : World} {v : Value} {S : List StopM} (h : OwnS n0 w v S) {g : Nat} (e : v.ownBlock = some g) : ∃ cur, w.heap[g]? = some (.cells cur 176 (0, 0)) := ownsRow_block h e
theorem OwnS.push {n0 : Nat} {w : World} {v : Value} {S : List StopM} (h : OwnS n0 w v S) (hk0 : n0 ≤ w.heap.size) (b : Nat) (p : StopM) (hb : w.heap[b]? = some (.cells #[.int .u64 p.id, p.pv, .int .i64 p.next] 176 (0, 0))) (hp : ∃ a n c, p.pv = .slice a n c) (hl : S.length + 1 ≤ 1000000000) :
    ∃ v' w', (Builtin.append_ #[174, 174] 174 #[v, .slice (some ⟨b, 0, none⟩) 1 1]).run Tryz.prog w = .ok v' w' ∧ OwnS n0 w' v' (S ++ [p]) ∧ Kept (fun k => v.ownBlock = some k) w w' := by
  obtain ⟨i0, hi, hz0, hz1, hz2⟩ := info_parts Tryz.info176
  obtain ⟨v', w', hrun, ho2, hg2, -, hb2⟩ := run_append_own_at (P := Tryz.prog) w n0 174 174 176 i0 _ 3 40 Tryz.underlying174 hi hz0 hz1 hz2 rfl (by decide) _ _ _ h ⟨b, 0, none⟩ 1 1 p.cells rfl (by
    intro j u hu
    rw [addr_add]
    match j, hu with
    | 0, hu => cases hu; simp [World.cell?, hb]
    | 1, hu => cases hu; simp [World.cell?, hb]
    | 2, hu => cases hu; simp [World.cell?, hb]
    | j + 3, hu => simp [StopM.cells] at hu) (by
    intro u hu
    obtain ⟨a, n, c, e⟩ := hp
    simp only [StopM.cells, List.mem_cons, List.not_mem_nil, or_false] at hu
    rcases hu with rfl | rfl | rfl
    · rfl
    · rw [e]; rfl
    · rfl) (by unfold maxLen; omega) (by omega) hk0
  refine ⟨v', w', hrun, ?_, Kept.grown (F := fun k => v.ownBlock = some k) (Kept.refl _ _) hg2 (fun k hk _ => hk)⟩
  unfold OwnS
  rw [cellsS_append, List.length_append]
  have e : cellsS [p] = p.cells := by simp [cellsS]
  rw [e]
  exact ho2

/-- The state within from. -/
structure FromAt (w : World) (n0 s : Nat) (F : Nat → Prop) (os : List OM) (Wb M BW BP : Nat) (es : Array MapEntry) (clock : Nat) (ov pv : Value) (L : List (Int × Nat)) (order : List Nat) (S : List StopM) : Prop where
  walk : WalkAt w n0 s F os Wb M es clock ov L order (S.map StopM.id)
  bw : w.heap[BW]? = some (.cells #[.pointer (some ⟨Wb, 0, none⟩)] 79 (0, 0))
  bp : w.heap[BP]? = some (.cells #[pv] 174 (0, 0))
  nBW : n0 ≤ BW
  nBP : n0 ≤ BP
  pile : OwnS n0 w pv S
  par : ∀ p ∈ S, OwnI n0 w p.pv p.ps ∧ (∀ g, p.pv.ownBlock = some g → ov.ownBlock ≠ some g) ∧ p.next ≤ p.ps.length
section
variable {w w' : World} {n0 s : Nat} {F : Nat → Prop} {os : List OM} {Wb M BW BP : Nat} {es : Array MapEntry} {clock : Nat} {ov pv : Value} {L : List (Int × Nat)} {order : List Nat} {S : List StopM}
theorem FromAt.kept (h : FromAt w n0 s F os Wb M BW BP es clock ov pv L order S) {G : Nat → Prop} (hk : Kept G w w') (hG : ∀ k, k < w.heap.size → ¬ G k) : FromAt w' n0 s F os Wb M BW BP es clock ov pv L order S := by
  have hk' : Kept (fun _ => False) w w' := hk.mono (fun i hi e => hG i hi e)
  exact ⟨h.walk.keptN hk', (hk'.block BW (Array.getElem?_eq_some_iff.1 h.bw).1 (fun f => f)).trans h.bw, (hk'.block BP (Array.getElem?_eq_some_iff.1 h.bp).1 (fun f => f)).trans h.bp, h.nBW, h.nBP, h.pile.keptF hk' (fun _ _ f => f), fun p hp => ⟨(h.par p hp).1.keptF hk' (fun _ _ f => f), (h.par p hp).2⟩⟩
theorem FromAt.keptN (h : FromAt w n0 s F os Wb M BW BP es clock ov pv L order S) (hk : Kept (fun _ => False) w w') : FromAt w' n0 s F os Wb M BW BP es clock ov pv L order S := h.kept hk (fun _ _ f => f)
theorem FromAt.cs (h : FromAt w n0 s F os Wb M BW BP es clock ov pv L order S) : w.cell? ⟨BW, 0, none⟩ = some (.pointer (some ⟨Wb, 0, none⟩)) ∧ w.cell? ⟨BP, 0, none⟩ = some pv ∧ w.frozen? ⟨BP, 0, none⟩ = false := by
  refine ⟨?_, ?_, ?_⟩ <;> simp [World.cell?, World.frozen?, h.bw, h.bp]
theorem FromAt.bounds (h : FromAt w n0 s F os Wb M BW BP es clock ov pv L order S) : n0 ≤ w.heap.size := Nat.le_trans h.nBP (Nat.le_of_lt (Array.getElem?_eq_some_iff.1 h.bp).1)
/-- The blocks are apart. -/
theorem FromAt.ne (h : FromAt w n0 s F os Wb M BW BP es clock ov pv L order S) : BW ≠ Wb ∧ BW ≠ M ∧ BP ≠ Wb ∧ BP ≠ M ∧ BP ≠ BW ∧
    (∀ g, ov.ownBlock = some g → g ≠ BW ∧ g ≠ BP ∧ g ≠ Wb ∧ g ≠ M ∧ pv.ownBlock ≠ some g) ∧ (∀ g, pv.ownBlock = some g → g ≠ BW ∧ g ≠ BP ∧ g ≠ Wb ∧ g ≠ M) ∧ (∀ p ∈ S, ∀ g, p.pv.ownBlock = some g → g ≠ BW ∧ g ≠ BP ∧ g ≠ Wb ∧ g ≠ M ∧ pv.ownBlock ≠ some g) := by
  have a1 : BW ≠ Wb := fun e => by have := h.bw; rw [e, h.walk.cell] at this; simp at this
  have a2 : BW ≠ M := fun e => by have := h.bw; rw [e, h.walk.map] at this; cases this
  have a3 : BP ≠ Wb := fun e => by have := h.bp; rw [e, h.walk.cell] at this; simp at this
  have a4 : BP ≠ M := fun e => by have := h.bp; rw [e, h.walk.map] at this; cases this
  have a5 : BP ≠ BW := fun e => by have := h.bp; rw [e, h.bw] at this; simp at this
  have ids : ∀ g cur, w.heap[g]? = some (.cells cur 37 (0, 0)) → g ≠ BW ∧ g ≠ BP ∧ g ≠ Wb ∧ g ≠ M ∧ pv.ownBlock ≠ some g := by
    intro g cur hc
    refine ⟨fun e => ?_, fun e => ?_, fun e => ?_, fun e => ?_, fun e => ?_⟩
    · rw [e, h.bw] at hc; simp at hc
    · rw [e, h.bp] at hc; simp at hc
    · rw [e, h.walk.cell] at hc; simp at hc
    · rw [e, h.walk.map] at hc; cases hc
    · obtain ⟨cur2, hc2⟩ := h.pile.blockT e
      rw [hc] at hc2; simp at hc2
  refine ⟨a1, a2, a3, a4, a5, fun g e => ?_, fun g e => ?_, fun p hp g e => ?_⟩
  · obtain ⟨cur, hc⟩ := h.walk.ord.blockT e
    exact ids g cur hc
  · obtain ⟨cur, hc⟩ := h.pile.blockT e
    refine ⟨fun e => ?_, fun e => ?_, fun e => ?_, fun e => ?_⟩
    · rw [e, h.bw] at hc; simp at hc
    · rw [e, h.bp] at hc; simp at hc
    · rw [e, h.walk.cell] at hc; simp at hc
    · rw [e, h.walk.map] at hc; cases hc
  · obtain ⟨cur, hc⟩ := (h.par p hp).1.blockT e
    exact ids g cur hc

theorem stN_open {order on : List Nat} {x : Nat} (ho : x ∉ order) (y : Nat) : stN order (on ++ [x]) y = if y = x then some 1 else stN order on y := by
  unfold stN
  by_cases h : y = x
  · subst h; rw [if_neg ho, if_pos (by simp), if_pos rfl]
  · rw [if_neg h]
    by_cases h2 : y ∈ order
    · rw [if_pos h2, if_pos h2]
    · rw [if_neg h2, if_neg h2]
      by_cases h3 : y ∈ on
      · rw [if_pos h3, if_pos (by simp [h3])]
      · rw [if_neg h3, if_neg (by simp [h3, h])]

set_option maxRecDepth 100000 in
theorem push_any (h : FromAt w n0 s F os Wb M BW BP es clock ov pv L order S) (id : Nat) (hid : id ∉ order) (hS : S.length ≤ 1000000) :
    Calls Tryz.prog 94 #[.int .u64 id, .pointer (some ⟨BW, 0, none⟩), .pointer (some ⟨BP, 0, none⟩)] w fun e w' => e = .returned (.int .i64 (comR os id).2.2.2) ∧ Kept (fun i => n0 ≤ i) w w' ∧ ((comR os id).2.2.2 = 0 → ∃ es' clock' pv' L' u, FromAt w' n0 s F os Wb M BW BP es' clock' ov pv' L' order (S ++ [⟨id, u, (comR os id).2.1, 0⟩])) := by
  obtain ⟨b0, -, -⟩ := h.cs
  obtain ⟨c0, c1, -, -⟩ := h.walk.c
  have hC := Lib.hid (scommit_any h.walk.ob id)
  have H := Lib.hid h
  generalize hR : comR os id = R at *
  obtain ⟨t, ps, d, c⟩ := R
  simp only at hC ⊢
  clear h hR
  go_enter Tryz.func94, Tryz.ntmps94
  go_wp2_with fail
  refine hC.out.mono ?_
  rintro e w1 ⟨u, rfl, hu, hk1⟩
  obtain ⟨ua, uc, rfl, -, -⟩ := hu.form
  by_cases hc : c = 0
  · subst hc
    have h1 := H.out.keptN hk1
    obtain ⟨es', clock', hrun, hst', L', hrel', hg'⟩ := h1.walk.set id 1 order (S.map StopM.id ++ [id]) (stN_open hid)
    have hn := H.out.ne
    have hb := h1.bounds
    obtain ⟨w2, hw2⟩ : ∃ w2, w1.alloc (.cells #[.int .u64 t, .slice ua ps.length uc, .string { data := #[] }, .int .i64 d, .string { data := #[] }] 61) = w2 := ⟨_, rfl⟩
    have hk2 : Kept (fun _ => False) w1 w2 := by rw [← hw2]; exact (Kept.refl _ _).alloc _
    have hA2 : ComAt w2 w1.heap.size t (.slice ua ps.length uc) d := by rw [← hw2]; exact heap_alloc_new _ _
    have h2 := h1.keptN hk2
    have hr := hrun w2 h2.walk.map
    obtain ⟨w3, hw3⟩ : ∃ w3, setBlock w2 M (.map es' clock') = w3 := ⟨_, rfl⟩
    rw [hw3, show ((1 : Nat) : Int) = 1 from rfl] at hr
    have hk3 : Kept (· = M) w2 w3 := by rw [← hw3]; exact (Kept.refl (· = M) w2).setBlock (fun _ => rfl) _
    have hM3 : w3.heap[M]? = some (.map es' clock') := by rw [← hw3]; exact heap_setBlock_same h2.walk.map _
    have hml := (Array.getElem?_eq_some_iff.1 h1.walk.map).1
    have hp3 : OwnS n0 w3 pv S := h2.pile.keptF hk3 (fun g e e2 => (hn.2.2.2.2.2.2.1 g e).2.2.2 e2)
    have hbp3 := (hk3.block BP (Array.getElem?_eq_some_iff.1 h2.bp).1 hn.2.2.2.1).trans h2.bp
    have d3 : w3.cell? ⟨BP, 0, none⟩ = some pv := by simp [World.cell?, hbp3]
    have d4 := (hA2.kept hk3 (fun e => by omega)).cells.2.1
    obtain ⟨w4, hw4⟩ : ∃ w4, w3.alloc (.cells #[.int .u64 id, .slice ua ps.length uc, .int .i64 0] 176) = w4 := ⟨_, rfl⟩
    have hk4 : Kept (fun _ => False) w3 w4 := by rw [← hw4]; exact (Kept.refl _ _).alloc _
    obtain ⟨v', w5, hrun5, ho5, hk5⟩ := (hp3.keptF hk4 (fun _ _ f => f)).push (by have := hk2.size; have := hk3.size; have := hk4.size; omega) w3.heap.size (StopM.mk id (.slice ua ps.length uc) ps 0) (by rw [← hw4]; exact heap_alloc_new _ _) ⟨_, _, _, rfl⟩ (by omega)
    obtain ⟨va, vc, rfl⟩ : ∃ va vc, v' = .slice va (S.length + 1) vc := by
      obtain ⟨va, vc, e, -, -⟩ := ho5.form
      rw [List.length_append] at e
      exact ⟨va, vc, e⟩
    have hbp5 := (hk5.block BP (Nat.lt_of_lt_of_le (Array.getElem?_eq_some_iff.1 hbp3).1 hk4.size) (fun e => (hn.2.2.2.2.2.2.1 BP e).2.1 rfl)).trans ((hk4.block BP (Array.getElem?_eq_some_iff.1 hbp3).1 (fun f => f)).trans hbp3)
    have d5 : w5.cell? ⟨BP, 0, none⟩ = some pv := by simp [World.cell?, hbp5]
    have f5 : w5.frozen? ⟨BP, 0, none⟩ = false := by simp [World.frozen?, hbp5]
    have e1 : w2.cell? ⟨BW, 0, none⟩ = some (.pointer (some ⟨Wb, 0, none⟩)) := h2.cs.1
    have e2 : w2.cell? ⟨Wb, 1, none⟩ = some (.map (some M)) := h2.walk.c.2.1
    rw [← hw4] at hrun5
    have HFIN : Hid (Kept (fun i => n0 ≤ i) w (w5.setCell ⟨BP, 0, none⟩ (.slice va (S.length + 1) vc)) ∧ FromAt (w5.setCell ⟨BP, 0, none⟩ (.slice va (S.length + 1) vc)) n0 s F os Wb M BW BP es' clock' ov (.slice va (S.length + 1) vc) L' order (S ++ [(StopM.mk id (.slice ua ps.length uc) ps 0)])) := Lib.hid (by
      have hk6 := keptCell w5 BP 0 (.slice va (S.length + 1) vc)
      have hb6 := heap_setCell_row (o := 0) hbp5 (.slice va (S.length + 1) vc)
      generalize w5.setCell ⟨BP, 0, none⟩ (.slice va (S.length + 1) vc) = w6 at *
      have hk36 : Kept (fun k => k = BP ∨ pv.ownBlock = some k) w3 w6 := ((Kept.mono hk4 (fun _ _ f => f.elim)).trans (Kept.mono hk5 (fun i _ e => Or.inr e)) (fun _ _ h => h)).trans (Kept.mono hk6 (fun i _ e => Or.inl e)) (fun _ _ h => h)
      have hk16 : Kept (fun k => k = M ∨ k = BP ∨ pv.ownBlock = some k) w1 w6 := ((Kept.mono hk2 (fun _ _ f => f.elim)).trans (Kept.mono hk3 (fun i _ e => Or.inl e)) (fun _ _ h => h)).trans (Kept.mono hk36 (fun i _ e => Or.inr e)) (fun _ _ h => h)
      refine ⟨(Kept.mono hk1 (fun _ _ f => f.elim)).trans (Kept.mono hk16 (fun i _ e => ?_)) (fun _ _ h => h), ⟨⟨h1.walk.ob.kept hk16 (fun k hk e => ?_), h1.walk.fl, h1.walk.nW, h1.walk.nM, (hk16.block Wb (Array.getElem?_eq_some_iff.1 h1.walk.cell).1 (fun e => ?_)).trans h1.walk.cell, (hk36.block M (Array.getElem?_eq_some_iff.1 hM3).1 (fun e => ?_)).trans hM3, hst', hrel', fun y => by rw [List.map_append]; exact hg' y, h1.walk.ord.keptF hk16 (fun g e e2 => ?_)⟩, (hk16.block BW (Array.getElem?_eq_some_iff.1 h1.bw).1 (fun e => ?_)).trans h1.bw, hb6, h1.nBW, h1.nBP, ho5.keptF hk6 (fun g e e2 => ?_), fun p hp => ?_⟩⟩
      · rcases e with rfl | rfl | e
        · exact h1.walk.nM
        · exact h1.nBP
        · exact (h1.pile.base e).1
      · have := h1.walk.fl k hk
        rcases e with rfl | rfl | e
        · have := h1.walk.nM; omega
        · have := h1.nBP; omega
        · have := (h1.pile.base e).1; omega
      · rcases e with e | e | e
        · exact h1.walk.wm e
        · exact hn.2.2.1 e.symm
        · exact (hn.2.2.2.2.2.2.1 _ e).2.2.1 rfl
      · rcases e with e | e
        · exact hn.2.2.2.1 e.symm
        · exact (hn.2.2.2.2.2.2.1 _ e).2.2.2 rfl
      · have h9 := hn.2.2.2.2.2.1 g e
        rcases e2 with e2 | e2 | e2
        · exact h9.2.2.2.1 e2
        · exact h9.2.1 e2
        · exact h9.2.2.2.2 e2
      · rcases e with e | e | e
        · exact hn.2.1 e
        · exact hn.2.2.2.2.1 e.symm
        · exact (hn.2.2.2.2.2.2.1 _ e).1 rfl
      · have := hn.2.2.2.2.1
        subst e2
        obtain ⟨cur, hc⟩ := ho5.blockT e
        rw [hbp5] at hc
        simp at hc
      · rcases List.mem_append.1 hp with hp | hp
        · obtain ⟨q1, q2, q3⟩ := h1.par p hp
          refine ⟨q1.keptF hk16 (fun g e e2 => ?_), q2, q3⟩
          have h9 := hn.2.2.2.2.2.2.2 p hp g e
          rcases e2 with e2 | e2 | e2
          · exact h9.2.2.2.1 e2
          · exact h9.2.1 e2
          · exact h9.2.2.2.2 e2
        · rw [List.mem_singleton.1 hp]
          refine ⟨(hu.low (n1 := n0) H.out.bounds).keptF hk16 (fun g e e2 => ?_), fun g e e2 => ?_, Nat.zero_le _⟩
          · have h9 := (hu.base e).1
            rcases e2 with e2 | e2 | e2
            · have := (Array.getElem?_eq_some_iff.1 H.out.walk.map).1; omega
            · have := (Array.getElem?_eq_some_iff.1 H.out.bp).1; omega
            · have := (H.out.pile.base e2).2; omega
          · have h9 := (hu.base e).1
            have := (H.out.walk.ord.base e2).2; omega)
    unfold comV
    clear hw3 hM3 hk2 hA2 h1 h2 hk3 hml hp3 hbp3 hk4 ho5 hk5 hbp5 hu hk1 hst' hrel' hg' hrun hb hn hid hS
    clear hw4
    subst hw2
    go_wp2_with (at_builtin; refine wpList_append_run rfl (.tmp 23) (.tmp 28) #[174, 174] rfl _ _ _ _ rfl rfl hrun5 ?_)
    go_ret
    refine ⟨rfl, HFIN.out.1, ?_⟩
    intros
    exact ⟨_, _, _, _, _, HFIN.out.2⟩
  · have hc' : (c == 0) = false := by simp [hc]
    unfold comV
    go_wp2
    go_ret
    exact ⟨rfl, ((hk1.more ((Kept.refl (fun _ => False) _).alloc _) (fun _ f => f.elim)).mono (fun _ _ f => f.elim)), fun e => absurd e hc⟩
end
end Go.Proofs.YtikacgiccllolaaGreat

/- graph: the pile's top; the plain part of from. -/
namespace Go.Proofs.YtikacgiccllolaaGreat
open Go.RowKit Go.ChangeMaps Go.MapKept

theorem cellsS_at (T : List StopM) (p : StopM) (i : Nat) (hi : i < 3) : (cellsS (T ++ [p]))[T.length * 3 + i]? = p.cells[i]? := by
  rw [cellsS_append, List.getElem?_append_right (by rw [cellsS_length]; omega), cellsS_length]
  have e : cellsS [p] = p.cells := by simp [cellsS]
  rw [e]
  congr 1
  omega
theorem OwnS.top {n0 : Nat} {w : World} {v : Value} {T : List StopM} {p : StopM} (h : OwnS n0 w v (T ++ [p])) :
    ∃ g c, v = .slice (some ⟨g, 0, none⟩) (T.length + 1) c ∧ T.length + 1 ≤ c ∧ c ≤ maxLen ∧ (∃ cur, w.heap[g]? = some (.cells cur 176 (0, 0)) ∧ cur.size = c * 3 ∧ cur.toList.take ((T.length + 1) * 3) = cellsS (T ++ [p])) ∧ n0 ≤ g ∧
      w.cell? ⟨g, T.length * 3, none⟩ = some (.int .u64 p.id) ∧ w.cell? ⟨g, T.length * 3 + 1, none⟩ = some p.pv ∧ w.cell? ⟨g, T.length * 3 + 2, none⟩ = some (.int .i64 p.next) ∧ w.frozen? ⟨g, T.length * 3 + 2, none⟩ = false := by
  obtain ⟨h1, h2⟩ := h
  rcases h2 with ⟨rfl, h0⟩ | ⟨g, cap, cur, rfl, hb, hg, hn, hc, hs, ht⟩
  · simp at h0
  · rw [List.length_append, List.length_singleton] at hn ht ⊢
    have key : ∀ i, i < 3 → w.cell? ⟨g, T.length * 3 + i, none⟩ = p.cells[i]? := by
      intro i hi
      rw [cell_of_row w g _ cur _ (0, 0) hg, ← cellsS_at T p i hi, ← ht, List.getElem?_take, if_pos (by omega)]
      simp
    refine ⟨g, cap, rfl, hn, hc, ⟨cur, hg, hs, ht⟩, hb, key 0 (by omega), key 1 (by omega), key 2 (by omega), ?_⟩
    simp [World.frozen?, hg]
theorem OwnS.pop {n0 : Nat} {w : World} {a : Option Addr} {c : Nat} {T : List StopM} {p : StopM} (h : OwnS n0 w (.slice a (T.length + 1) c) (T ++ [p])) : OwnS n0 w (.slice a T.length c) T := by
  obtain ⟨g, c', e, hn, hc, ⟨cur, hg, hs, ht⟩, hb, -⟩ := h.top
  cases e
  refine ⟨cellsS_length T, .inr ⟨g, c, cur, rfl, hb, hg, by omega, hc, hs, ?_⟩⟩
  have : cur.toList.take (T.length * 3) = (cur.toList.take ((T.length + 1) * 3)).take (T.length * 3) := by rw [List.take_take, Nat.min_eq_left (by omega)]
  rw [this, ht, cellsS_append, List.take_append_of_le_length (by rw [cellsS_length]; omega), List.take_of_length_le (by rw [cellsS_length]; omega)]
theorem OwnS.setNext {n0 : Nat} {w : World} {g c : Nat} {T : List StopM} {p : StopM} (h : OwnS n0 w (.slice (some ⟨g, 0, none⟩) (T.length + 1) c) (T ++ [p])) (nx : Nat) : OwnS n0 (w.setCell ⟨g, T.length * 3 + 2, none⟩ (.int .i64 nx)) (.slice (some ⟨g, 0, none⟩) (T.length + 1) c) (T ++ [{ p with next := nx }]) := by
  obtain ⟨g', c', e, hn, hc, ⟨cur, hg, hs, ht⟩, hb, -⟩ := h.top
  cases e
  have hg' := heap_setCell_row (o := T.length * 3 + 2) hg (.int .i64 nx)
  refine ⟨by rw [cellsS_length], .inr ⟨g, c, _, by simp, hb, hg', by simp; omega, hc, by simp [hs], ?_⟩⟩
  have e1 : (cur.setIfInBounds (T.length * 3 + 2) (.int .i64 nx)).toList = cur.toList.set (T.length * 3 + 2) (.int .i64 nx) := by simp
  have e2 : (T ++ [{ p with next := nx }]).length * 3 = (T.length + 1) * 3 := by simp
  rw [e1, e2, List.take_set, ht, cellsS_append, cellsS_append, List.set_append_right _ _ (by rw [cellsS_length]; omega), cellsS_length]
  congr 1
  rw [show T.length * 3 + 2 - T.length * 3 = 2 from by omega]
  simp [cellsS, StopM.cells]

/-- The pile, the last one first. -/
def pileF (S : List StopM) : Pile := S.reverse.map fun p => (p.id, p.ps.drop p.next)
theorem pileF_snoc (T : List StopM) (p : StopM) : pileF (T ++ [p]) = (p.id, p.ps.drop p.next) :: pileF T := by simp [pileF]
theorem below_pileF (S : List StopM) : below (pileF S) = S.map StopM.id := by
  simp [below, pileF, Function.comp_def]
theorem pileF_length (S : List StopM) : (pileF S).length = S.length := by simp [pileF]
/-- What holds of the order and the pile: each once, each there. -/
def GoodP (N : List NodeM) (order : List Nat) (on : List Nat) : Prop := (order ++ on).Nodup ∧ ∀ x ∈ order ++ on, ∃ d, findN N x = some d
theorem GoodP.len {N : List NodeM} {order on : List Nat} (h : GoodP N order on) : order.length + on.length ≤ N.length := by
  have := on_short h.1 h.2
  rwa [List.length_append] at this
theorem GoodP.push {N : List NodeM} {order on : List Nat} (h : GoodP N order on) {x : Nat} (h1 : x ∉ order) (h2 : x ∉ on) {d : NodeM} (hd : findN N x = some d) : GoodP N order (on ++ [x]) := by
  obtain ⟨a, b⟩ := h
  refine ⟨?_, fun y hy => ?_⟩
  · rw [← List.append_assoc]
    exact List.nodup_append.2 ⟨a, by simp, fun y hy z hz e => by
      rw [List.mem_singleton.1 hz] at e
      subst e
      rcases List.mem_append.1 hy with hy | hy
      · exact h1 hy
      · exact h2 hy⟩
  · rw [← List.append_assoc] at hy
    rcases List.mem_append.1 hy with hy | hy
    · exact b y hy
    · rw [List.mem_singleton.1 hy]; exact ⟨d, hd⟩
theorem GoodP.pop {N : List NodeM} {order on : List Nat} {x : Nat} (h : GoodP N order (on ++ [x])) : GoodP N (order ++ [x]) on := by
  obtain ⟨a, b⟩ := h
  have hp : (order ++ (on ++ [x])).Perm (order ++ [x] ++ on) := by
    rw [List.append_assoc]
    exact List.Perm.append_left _ List.perm_append_comm
  exact ⟨hp.nodup_iff.1 a, fun y hy => b y (hp.mem_iff.2 hy)⟩
theorem stN_done {order on : List Nat} {x : Nat} (hx : x ∉ on) (y : Nat) : stN (order ++ [x]) on y = if y = x then some 2 else stN order (on ++ [x]) y := by
  unfold stN
  by_cases h : y = x
  · subst h; rw [if_pos (by simp), if_pos rfl]
  · rw [if_neg h]
    by_cases h2 : y ∈ order
    · rw [if_pos h2, if_pos (by simp [h2])]
    · rw [if_neg h2, if_neg (by simp [h2, h])]
      by_cases h3 : y ∈ on
      · rw [if_pos h3, if_pos (by simp [h3])]
      · rw [if_neg h3, if_neg (by simp [h3, h])]
/-- One parent is looked at. -/
theorem resume_step {N : List NodeM} {Fu : Nat} {order : List Nat} {T : List StopM} {p : StopM} (hn : p.next < p.ps.length) (hl : T.length < Fu) (hg : GoodP N order ((T ++ [p]).map StopM.id)) :
    (stN order ((T ++ [p]).map StopM.id) p.ps[p.next] = some 1 → resume N Fu (pileF (T ++ [p])) order = .error 210) ∧
    (stN order ((T ++ [p]).map StopM.id) p.ps[p.next] = some 2 → resume N Fu (pileF (T ++ [p])) order = resume N Fu (pileF (T ++ [{ p with next := p.next + 1 }])) order) ∧
    (stN order ((T ++ [p]).map StopM.id) p.ps[p.next] = none → (findN N p.ps[p.next] = none → resume N Fu (pileF (T ++ [p])) order = .error 4) ∧
      (∀ d, findN N p.ps[p.next] = some d → d.other = true → resume N Fu (pileF (T ++ [p])) order = .error 170) ∧
      (∀ d, findN N p.ps[p.next] = some d → d.other = false → ∀ u, resume N Fu (pileF (T ++ [p])) order = resume N Fu (pileF (T ++ [{ p with next := p.next + 1 }] ++ [⟨p.ps[p.next], u, d.parents, 0⟩])) order)) := by
  have hd : p.ps.drop p.next = p.ps[p.next] :: p.ps.drop (p.next + 1) := List.drop_eq_getElem_cons hn
  have hb : below (pileF (T ++ [p])) = (T ++ [p]).map StopM.id := below_pileF _
  have e1 : pileF (T ++ [p]) = (p.id, p.ps[p.next] :: p.ps.drop (p.next + 1)) :: pileF T := by rw [pileF_snoc, hd]
  have e2 : pileF (T ++ [{ p with next := p.next + 1 }]) = (p.id, p.ps.drop (p.next + 1)) :: pileF T := pileF_snoc _ _
  have hl2 : (pileF T).length < Fu := by rw [pileF_length]; exact hl
  rw [e1] at hb ⊢
  rw [e2]
  generalize p.ps[p.next] = x at *
  unfold stN
  refine ⟨fun h => ?_, fun h => ?_, fun h => ?_⟩
  · refine resume_ring _ _ _ _ _ _ _ ?_
    rw [hb]
    by_cases h1 : x ∈ order
    · rw [if_pos h1] at h; simp at h
    · rw [if_neg h1] at h
      by_cases h2 : x ∈ (T ++ [p]).map StopM.id
      · exact h2
      · rw [if_neg h2] at h; cases h
  · have h1 : x ∈ order := by
      by_cases h1 : x ∈ order
      · exact h1
      · rw [if_neg h1] at h
        split at h <;> simp at h
    have h2 : x ∉ (T ++ [p]).map StopM.id := fun hm => (List.nodup_append.1 hg.1).2.2 x h1 x hm rfl
    exact resume_seen _ _ _ _ _ _ _ (by rw [hb]; exact h2) h1 hl2
  · have h1 : x ∉ order := fun h1 => by rw [if_pos h1] at h; cases h
    have h2 : x ∉ (T ++ [p]).map StopM.id := fun h2 => by rw [if_neg h1, if_pos h2] at h; cases h
    refine ⟨fun hf => resume_none _ _ _ _ _ _ _ (by rw [hb]; exact h2) h1 hl2 hf, fun d hf hd => resume_other _ _ _ _ _ _ _ (by rw [hb]; exact h2) h1 hl2 hf hd, fun d hf hd u => ?_⟩
    rw [resume_push _ _ _ _ _ _ _ (by rw [hb]; exact h2) h1 hl2 hf hd, pileF_snoc, e2]
    rfl
theorem ownI_at {n0 : Nat} {w : World} {v : Value} {l : List Nat} (h : OwnI n0 w v l) {k : Nat} (hk : k < l.length) : ∃ g c, v = .slice (some ⟨g, 0, none⟩) l.length c ∧ w.cell? ⟨g, k, none⟩ = some (.int .u64 (l[k] : Nat)) := by
  obtain ⟨h1, h2⟩ := h
  rcases h2 with ⟨rfl, h0⟩ | ⟨g, cap, cur, rfl, hb, hg, hn, hc, hs, ht⟩
  · omega
  · refine ⟨g, cap, rfl, ?_⟩
    have e : (idsV l)[k]? = some (.int .u64 (l[k] : Nat)) := by simp [idsV, hk]
    rw [cell_of_row w g k cur _ (0, 0) hg, ← e, ← ht, List.getElem?_take, if_pos (by omega)]
    simp
section
variable {w w' : World} {n0 s : Nat} {F : Nat → Prop} {os : List OM} {Wb M BW BP : Nat} {es : Array MapEntry} {clock : Nat} {ov pv : Value} {L : List (Int × Nat)} {order : List Nat} {S : List StopM}
/-- One parent more is gone through. -/
theorem FromAt.next {g c : Nat} {T : List StopM} {p : StopM} (h : FromAt w n0 s F os Wb M BW BP es clock ov (.slice (some ⟨g, 0, none⟩) (T.length + 1) c) L order (T ++ [p])) (nx : Nat) (hnx : nx ≤ p.ps.length) :
    FromAt (w.setCell ⟨g, T.length * 3 + 2, none⟩ (.int .i64 nx)) n0 s F os Wb M BW BP es clock ov (.slice (some ⟨g, 0, none⟩) (T.length + 1) c) L order (T ++ [{ p with next := nx }]) ∧ Kept (fun i => n0 ≤ i) w (w.setCell ⟨g, T.length * 3 + 2, none⟩ (.int .i64 nx)) := by
  have hk := keptCell w g (T.length * 3 + 2) (.int .i64 nx)
  have hn := h.ne
  have hg := hn.2.2.2.2.2.2.1 g rfl
  have hng := (h.pile.base (g := g) rfl).1
  have hw := h.walk.kept hk (by
    rintro k (hk | rfl | rfl | e) e2
    · omega
    · exact hg.2.2.1 e2.symm
    · exact hg.2.2.2 e2.symm
    · exact (hn.2.2.2.2.2.1 k e).2.2.2.2 (by rw [e2]; rfl))
  refine ⟨⟨by rw [List.map_append] at hw ⊢; exact hw, (hk.block BW (Array.getElem?_eq_some_iff.1 h.bw).1 (fun e => hg.1 e.symm)).trans h.bw, (hk.block BP (Array.getElem?_eq_some_iff.1 h.bp).1 (fun e => hg.2.1 e.symm)).trans h.bp, h.nBW, h.nBP, h.pile.setNext nx, fun q hq => ?_⟩, hk.mono (fun i _ e => by subst e; exact hng)⟩
  · have key : ∀ q ∈ T ++ [p], OwnI n0 (w.setCell ⟨g, T.length * 3 + 2, none⟩ (.int .i64 nx)) q.pv q.ps ∧ ∀ g, q.pv.ownBlock = some g → ov.ownBlock ≠ some g := fun q hq =>
      ⟨(h.par q hq).1.keptF hk (fun k e e2 => (hn.2.2.2.2.2.2.2 q hq k e).2.2.2.2 (by rw [e2]; rfl)), (h.par q hq).2.1⟩
    rcases List.mem_append.1 hq with hq | hq
    · exact ⟨(key q (List.mem_append_left _ hq)).1, (key q (List.mem_append_left _ hq)).2, (h.par q (List.mem_append_left _ hq)).2.2⟩
    · rw [List.mem_singleton.1 hq]
      exact ⟨(key p (by simp)).1, (key p (by simp)).2, hnx⟩
end
end Go.Proofs.YtikacgiccllolaaGreat

/- graph: a commit is done. -/
namespace Go.Proofs.YtikacgiccllolaaGreat
open Go.RowKit Go.ChangeMaps Go.MapKept

theorem OwnI.pushB {n0 : Nat} {w : World} {v : Value} {l : List Nat} (h : OwnI n0 w v l) (hk0 : n0 ≤ w.heap.size) (a : Addr) (x : Nat) (ha : w.cell? a = some (.int .u64 (x : Int))) (hl : l.length + 1 ≤ 1000000000000) :
    ∃ v' w', (Builtin.append_ #[28, 28] 28 #[v, .slice (some a) 1 1]).run Tryz.prog w = .ok v' w' ∧ OwnI n0 w' v' (l ++ [x]) ∧ Kept (fun k => v.ownBlock = some k) w w' ∧ (v'.ownBlock = v.ownBlock ∨ v'.ownBlock = some w.heap.size) := by
  obtain ⟨i0, hi, hz0, hz1, hz2⟩ := info_parts Tryz.info37
  obtain ⟨v', w', hrun, ho2, hg2, -, hb2⟩ := run_append_own_at (P := Tryz.prog) w n0 28 28 37 i0 _ 1 8 Tryz.underlying28 hi hz0 hz1 hz2 rfl (by decide) _ _ _ h a 1 1 [.int .u64 (x : Int)] rfl (by
    intro j u hu
    match j, hu with
    | 0, hu => cases hu; exact ha
    | j + 1, hu => simp at hu) (by intro u hu; simp at hu; subst hu; rfl) (by unfold maxLen; omega) (by omega) hk0
  refine ⟨v', w', hrun, ?_, Kept.grown (F := fun k => v.ownBlock = some k) (Kept.refl _ _) hg2 (fun k hk _ => hk), hb2⟩
  have : idsV (l ++ [x]) = idsV l ++ [.int .u64 (x : Int)] := by simp [idsV]
  unfold OwnI
  rw [this, List.length_append]
  exact ho2

section
variable {w w' : World} {n0 s : Nat} {F : Nat → Prop} {os : List OM} {Wb M BW BP : Nat} {es : Array MapEntry} {clock : Nat} {ov pv : Value} {L : List (Int × Nat)} {order : List Nat} {S : List StopM}
theorem FromAt.pop {g c : Nat} {T : List StopM} {p : StopM} (h : FromAt w n0 s F os Wb M BW BP es clock ov (.slice (some ⟨g, 0, none⟩) (T.length + 1) c) L order (T ++ [p])) (hp : p.id ∉ T.map StopM.id) (ho : order.length ≤ 100000) :
    ∃ wm es' clock' L' ova ovc w6, (Instr.mapUpdate 82 (.map (some M)) (.int .u64 p.id) (.int .i64 2)).run Tryz.prog w.drew = .ok () wm ∧
      (Builtin.append_ #[28, 28] 28 #[ov, .slice (some ⟨wm.heap.size, 0, none⟩) 1 1]).run Tryz.prog (wm.drew.alloc (.cells #[.int .u64 p.id] 37)) = .ok (.slice ova (order.length + 1) ovc) w6 ∧
      (∀ W, W = wm ∨ W = wm.drew ∨ W = wm.drew.alloc (.cells #[.int .u64 p.id] 37) ∨ W = w6 → W.cell? ⟨BW, 0, none⟩ = some (.pointer (some ⟨Wb, 0, none⟩)) ∧ W.cell? ⟨g, T.length * 3, none⟩ = some (.int .u64 p.id) ∧ W.cell? ⟨Wb, 2, none⟩ = some ov ∧ W.frozen? ⟨Wb, 2, none⟩ = false) ∧
      (∀ W, W = w6.setCell ⟨Wb, 2, none⟩ (.slice ova (order.length + 1) ovc) → W.cell? ⟨BP, 0, none⟩ = some (.slice (some ⟨g, 0, none⟩) (T.length + 1) c) ∧ W.frozen? ⟨BP, 0, none⟩ = false ∧ W.cell? ⟨BW, 0, none⟩ = some (.pointer (some ⟨Wb, 0, none⟩)) ∧ W.cell? ⟨g, T.length * 3, none⟩ = some (.int .u64 p.id)) ∧
      FromAt ((w6.setCell ⟨Wb, 2, none⟩ (.slice ova (order.length + 1) ovc)).setCell ⟨BP, 0, none⟩ (.slice (some ⟨g, 0, none⟩) T.length c)) n0 s F os Wb M BW BP es' clock' (.slice ova (order.length + 1) ovc) (.slice (some ⟨g, 0, none⟩) T.length c) L' (order ++ [p.id]) T ∧
      Kept (fun i => n0 ≤ i) w ((w6.setCell ⟨Wb, 2, none⟩ (.slice ova (order.length + 1) ovc)).setCell ⟨BP, 0, none⟩ (.slice (some ⟨g, 0, none⟩) T.length c)) := by
  have hn := h.ne
  have hgn := hn.2.2.2.2.2.2.1 g rfl
  obtain ⟨es', clock', hrun, hst', L', hrel', hg'⟩ := h.walk.set p.id 2 (order ++ [p.id]) (T.map StopM.id) (fun y => by
    rw [stN_done hp y, List.map_append]
    rfl)
  have hr := hrun w.drew h.walk.map
  rw [show ((2 : Nat) : Int) = 2 from rfl] at hr
  have hkm : Kept (· = M) w (setBlock w.drew M (.map es' clock')) := ((Kept.refl (· = M) w).drew).setBlock (fun _ => rfl) _
  have hMm : (setBlock w.drew M (.map es' clock')).heap[M]? = some (.map es' clock') := heap_setBlock_same h.walk.map _
  generalize setBlock w.drew M (.map es' clock') = wm at *
  have hka : Kept (fun _ => False) wm (wm.drew.alloc (.cells #[.int .u64 p.id] 37)) := ((Kept.refl _ _).drew).alloc _
  have hna : (wm.drew.alloc (.cells #[.int .u64 p.id] 37)).cell? ⟨wm.heap.size, 0, none⟩ = some (.int .u64 (p.id : Int)) := by
    have := World.cell?_alloc_new wm.drew #[.int .u64 (p.id : Int)] 37 0
    simpa using this
  have hka1 : Kept (· = M) w (wm.drew.alloc (.cells #[.int .u64 p.id] 37)) := hkm.trans (hka.mono (fun _ _ f => f.elim)) (fun _ _ h => h)
  generalize hwa : wm.drew.alloc (.cells #[.int .u64 p.id] 37) = wa at *
  have hoa := h.walk.ord.keptF hka1 (fun k e e2 => (hn.2.2.2.2.2.1 k e).2.2.2.1 e2)
  obtain ⟨v', w6, hrun6, ho6, hk6, hnb⟩ := hoa.pushB (by have := hka1.size; have := h.bounds; omega) ⟨wm.heap.size, 0, none⟩ p.id hna (by omega)
  obtain ⟨ova, ovc, rfl⟩ := ho6.form' (n := order.length + 1) (by simp)
  have hT := h.pile.top
  obtain ⟨g', c', e, -, -, -, -, t0, -⟩ := hT
  cases e
  have c3 := h.walk.c
  have hcell : ∀ W G, Kept G w W → (∀ k, G k → k = M ∨ ov.ownBlock = some k) → W.cell? ⟨BW, 0, none⟩ = some (.pointer (some ⟨Wb, 0, none⟩)) ∧ W.cell? ⟨g, T.length * 3, none⟩ = some (.int .u64 p.id) ∧ W.cell? ⟨Wb, 2, none⟩ = some ov ∧ W.frozen? ⟨Wb, 2, none⟩ = false := by
    intro W G hk hG
    have hWb := (hk.block Wb (Array.getElem?_eq_some_iff.1 h.walk.cell).1 (fun e => by
      rcases hG _ e with e | e
      · exact h.walk.wm e
      · exact (hn.2.2.2.2.2.1 _ e).2.2.1 rfl)).trans h.walk.cell
    refine ⟨hk.cell h.cs.1 (fun e => ?_), hk.cell t0 (fun e => ?_), by simp [World.cell?, hWb], by simp [World.frozen?, hWb]⟩
    · rcases hG _ e with e | e
      · exact hn.2.1 e
      · exact (hn.2.2.2.2.2.1 _ e).1 rfl
    · rcases hG _ e with e | e
      · exact hgn.2.2.2 e
      · exact (hn.2.2.2.2.2.1 _ e).2.2.2.2 rfl
  have hk06 : Kept (fun k => k = M ∨ ov.ownBlock = some k) w w6 := (Kept.mono hka1 (fun _ _ e => Or.inl e)).trans (Kept.mono hk6 (fun _ _ e => Or.inr e)) (fun _ _ h => h)
  have hk7 := keptCell w6 Wb 2 (.slice ova (order.length + 1) ovc)
  have hWb6 := (hk06.block Wb (Array.getElem?_eq_some_iff.1 h.walk.cell).1 (fun e => by
      rcases e with e | e
      · exact h.walk.wm e
      · exact (hn.2.2.2.2.2.1 _ e).2.2.1 rfl)).trans h.walk.cell
  have hWb7 := heap_setCell_row (o := 2) hWb6 (.slice ova (order.length + 1) ovc)
  refine ⟨wm, es', clock', L', ova, ovc, w6, hr, by rw [hwa]; exact hrun6, ?_, ?_, ?_⟩
  · rintro W (rfl | rfl | h9 | rfl)
    · exact hcell _ _ hkm (fun k e => .inl e)
    · exact hcell _ _ hkm.drew (fun k e => .inl e)
    · rw [h9, hwa]; exact hcell _ _ hka1 (fun k e => .inl e)
    · exact hcell _ _ hk06 (fun k e => e)
  all_goals generalize w6.setCell ⟨Wb, 2, none⟩ (.slice ova (order.length + 1) ovc) = w7 at *
  · rintro W rfl
    have hk07 : Kept (fun k => k = M ∨ ov.ownBlock = some k ∨ k = Wb) w W := (Kept.mono hk06 (fun _ _ e => by rcases e with e | e <;> simp [e])).trans (Kept.mono hk7 (fun _ _ e => by simp [e])) (fun _ _ h => h)
    have hbp := (hk07.block BP (Array.getElem?_eq_some_iff.1 h.bp).1 (fun e => by
      rcases e with e | e | e
      · exact hn.2.2.2.1 e
      · exact (hn.2.2.2.2.2.1 _ e).2.1 rfl
      · exact hn.2.2.1 e)).trans h.bp
    refine ⟨by simp [World.cell?, hbp], by simp [World.frozen?, hbp], hk07.cell h.cs.1 (fun e => ?_), hk07.cell t0 (fun e => ?_)⟩
    · rcases e with e | e | e
      · exact hn.2.1 e
      · exact (hn.2.2.2.2.2.1 _ e).1 rfl
      · exact hn.1 e
    · rcases e with e | e | e
      · exact hgn.2.2.2 e
      · exact (hn.2.2.2.2.2.1 _ e).2.2.2.2 rfl
      · exact hgn.2.2.1 e
  · have hk8 := keptCell w7 BP 0 (.slice (some ⟨g, 0, none⟩) T.length c)
    have hm6 : Kept (fun k => ov.ownBlock = some k) wm w6 := (Kept.mono hka (fun _ _ f => f.elim)).trans hk6 (fun _ _ h => h)
    have hk07 : Kept (fun k => k = M ∨ ov.ownBlock = some k ∨ k = Wb) w w7 := (Kept.mono hk06 (fun _ _ e => by rcases e with e | e <;> simp [e])).trans (Kept.mono hk7 (fun _ _ e => by simp [e])) (fun _ _ h => h)
    have hbp7 := (hk07.block BP (Array.getElem?_eq_some_iff.1 h.bp).1 (fun e => by
      rcases e with e | e | e
      · exact hn.2.2.2.1 e
      · exact (hn.2.2.2.2.2.1 _ e).2.1 rfl
      · exact hn.2.2.1 e)).trans h.bp
    have hbp6 := (hk06.block BP (Array.getElem?_eq_some_iff.1 h.bp).1 (fun e => by
      rcases e with e | e
      · exact hn.2.2.2.1 e
      · exact (hn.2.2.2.2.2.1 _ e).2.1 rfl)).trans h.bp
    have hb8 := heap_setCell_row (o := 0) hbp7 (.slice (some ⟨g, 0, none⟩) T.length c)
    generalize w7.setCell ⟨BP, 0, none⟩ (.slice (some ⟨g, 0, none⟩) T.length c) = w8 at *
    have hk08 : Kept (fun k => k = M ∨ ov.ownBlock = some k ∨ k = Wb ∨ k = BP) w w8 := (Kept.mono hk07 (fun _ _ e => by rcases e with e | e | e <;> simp [e])).trans (Kept.mono hk8 (fun _ _ e => by simp [e])) (fun _ _ h => h)
    have hge : ∀ k, k = M ∨ ov.ownBlock = some k ∨ k = Wb ∨ k = BP → n0 ≤ k := by
      rintro k (rfl | e | rfl | rfl)
      · exact h.walk.nM
      · exact (h.walk.ord.base e).1
      · exact h.walk.nW
      · exact h.nBP
    have hidn : ∀ k, k = M ∨ ov.ownBlock = some k ∨ k = Wb ∨ k = BP → ∀ q ∈ T ++ [p], q.pv.ownBlock ≠ some k := by
      rintro k e q hq e2
      have h9 := hn.2.2.2.2.2.2.2 q hq k e2
      rcases e with e | e | e | e
      · exact h9.2.2.2.1 e
      · exact (h.par q hq).2.1 k e2 e
      · exact h9.2.2.1 e
      · exact h9.2.1 e
    refine ⟨⟨⟨h.walk.ob.kept hk08 (fun k hk e => ?_), h.walk.fl, h.walk.nW, h.walk.nM, (hk8.block Wb (Array.getElem?_eq_some_iff.1 hWb7).1 (fun e => hn.2.2.1 e.symm)).trans hWb7, ?_, hst', hrel', hg', (ho6.keptF hk7 (fun k e e2 => ?_)).keptF hk8 (fun k e e2 => ?_)⟩, (hk08.block BW (Array.getElem?_eq_some_iff.1 h.bw).1 (fun e => ?_)).trans h.bw, hb8, h.nBW, h.nBP, h.pile.pop.keptF hk08 (fun k e e2 => ?_), fun q hq => ⟨(h.par q (List.mem_append_left _ hq)).1.keptF hk08 (fun k e e2 => hidn k e2 q (List.mem_append_left _ hq) e), fun k e e2 => ?_, (h.par q (List.mem_append_left _ hq)).2.2⟩⟩, hk08.mono (fun k _ e => hge k e)⟩
    · have := h.walk.fl k hk
      have := hge k e
      omega
    · have hl0 := (Array.getElem?_eq_some_iff.1 hMm).1
      have e1 := (hm6.block M hl0 (fun e => (hn.2.2.2.2.2.1 _ e).2.2.2.1 rfl)).trans hMm
      have e2 := (hk7.block M (Array.getElem?_eq_some_iff.1 e1).1 (fun e => h.walk.wm e.symm)).trans e1
      exact (hk8.block M (Array.getElem?_eq_some_iff.1 e2).1 (fun e => hn.2.2.2.1 e.symm)).trans e2
    · subst e2
      obtain ⟨cur, hc⟩ := ho6.blockT e
      rw [hWb6] at hc
      simp at hc
    · subst e2
      obtain ⟨cur, hc⟩ := ho6.blockT e
      rw [hbp6] at hc
      simp at hc
    · rcases e with e | e | e | e
      · exact hn.2.1 e
      · exact (hn.2.2.2.2.2.1 _ e).1 rfl
      · exact hn.1 e
      · exact hn.2.2.2.2.1 e.symm
    · cases e
      rcases e2 with e2 | e2 | e2 | e2
      · exact hgn.2.2.2 e2
      · exact (hn.2.2.2.2.2.1 _ e2).2.2.2.2 rfl
      · exact hgn.2.2.1 e2
      · exact hgn.2.1 e2
    · rcases hnb with h9 | h9
      · rw [h9] at e2
        exact (h.par q (List.mem_append_left _ hq)).2.1 k e e2
      · rw [h9] at e2
        cases e2
        have h8 := ((h.par q (List.mem_append_left _ hq)).1.base e).2
        have h7 := hka1.size
        omega
end
end Go.Proofs.YtikacgiccllolaaGreat
