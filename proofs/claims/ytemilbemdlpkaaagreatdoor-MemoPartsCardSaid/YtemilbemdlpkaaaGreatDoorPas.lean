/- A region whose stores wait for its loads: the loads are taken first; what they read need not hold behind the stores. -/
import Derived.Deep.RegionHeld
import Derived.Test.YtemilbemdlpkaaaGreatDoorPaa
import Derived.RangeFuncNested
namespace Go.Proofs.YtemilbemdlpkaaaGreatDoor
section
variable {P : Program} {ops : Array Oper} {Q : Exit → Act → World → Prop} {md : Region.Mode} {S : World → Prop} {T : Nat → Bool}

/-- Whatever order is picked; S holds till the first of the operations T has come up. -/
def wpAnyG (P : Program) (md : Region.Mode) (ops : Array Oper) (Q : Exit → Act → World → Prop) (S : World → Prop) (T : Nat → Bool) : Nat → Bool → Array Bool → Act → World → Prop
  | 0, _, listed, a, w => Region.ready md ops listed = [] ∧ Q .normal a w
  | n + 1, ph, listed, a, w =>
    (Region.ready md ops listed = [] → Q .normal a w) ∧
    ∀ i ∈ Region.ready md ops listed, wpOp P ops Q i (fun a' w' => ((ph || T i) = false → S w') ∧ wpAnyG P md ops Q S T n (ph || T i) (listed.setIfInBounds i true) a' w') a w
theorem wpAny_of_G : ∀ (n : Nat) (ph : Bool) (listed : Array Bool) (a : Act) (w : World), wpAnyG P md ops Q S T n ph listed a w → wpAny P md ops Q n listed a w
  | 0, _, _, _, _, h => h
  | n + 1, _, _, _, _, h => ⟨h.1, fun i hi => wpOp_mono (fun _ _ k => wpAny_of_G n _ _ _ _ k.2) (h.2 i hi)⟩
theorem wpAnyG_first {i : Nat} {oi : Oper} {v : Value} (hi : ops[i]? = some oi) (hsel : ∀ (j : Nat) (o : Oper) cs b, ops[j]? = some o → o.op ≠ .select cs b)
    (hQ : ∀ c a w, Q (.panic c) (a.put oi.dst v) w → Q (.panic c) a w) (hTi : T i = false) :
    ∀ (n : Nat) (listed : Array Bool) (a : Act) (w : World),
      (∀ j oj, ops[j]? = some oj → j ≠ i → listed.getD j true = false → (∀ e ∈ oj.after, Region.binds md e = true → e.on ≠ i) → oi.apart ops oj = true ∧ T j = false) →
      i ∈ Region.ready md ops listed → YieldsIf P ops S oi v a → S w →
      wpAnyG P md ops Q S T n false (listed.setIfInBounds i true) (a.put oi.dst v) w → wpAnyG P md ops Q S T (n + 1) false listed a w := by
  intro n
  induction n with
  | zero =>
    intro listed a w _ hr hy hS H
    refine ⟨fun h => (by rw [h] at hr; cases hr), fun j hj => ?_⟩
    by_cases hji : j = i
    · subst hji
      rw [hTi]
      exact hy.wpOp hi hS ⟨fun _ => hS, H⟩
    · have := ready_mono hj hji
      rw [H.1] at this
      cases this
  | succ n ih =>
    intro listed a w hfree hr hy hS H
    refine ⟨fun h => (by rw [h] at hr; cases hr), fun j hj => ?_⟩
    by_cases hji : j = i
    · subst hji
      rw [hTi]
      exact hy.wpOp hi hS ⟨fun _ => hS, H⟩
    · have h1 := H.2 j (ready_mono hj hji)
      obtain ⟨hun, oj, hoj, hall⟩ := mem_ready.1 hj
      have hno : ∀ e ∈ oj.after, Region.binds md e = true → e.on ≠ i := fun e he hb heq => by
        have k1 := hall e he hb
        have k0 := (mem_ready.1 hr).1
        rw [heq] at k1
        rcases Nat.lt_or_ge i listed.size with h' | h'
        · simp [h'] at k0 k1; rw [k0] at k1; cases k1
        · simp [Array.getElem?_eq_none h'] at k1
      obtain ⟨hap, hTj⟩ := hfree j oj hoj hji hun hno
      rw [hTj] at h1 ⊢
      have h2 := wpOp_putIf hoj hap (fun cs b => hsel i oi cs b hi) (fun cs b => hsel j oj cs b hoj) hQ hy h1
      refine wpOp_mono (fun a' w' h3 => ⟨h3.2.1, ih (listed.setIfInBounds j true) a' w' (fun k ok hk hki hku hkn => ?_) (ready_mono hr (Ne.symm hji)) h3.1 (h3.2.1 rfl) ?_⟩) h2
      · refine hfree k ok hk hki ?_ hkn
        by_cases hjk : j = k
        · subst hjk; exact hun
        · rwa [getD_set_ne true hjk] at hku
      · rw [Array.setIfInBounds_comm _ _ hji]
        exact h3.2.2
/-- The operations T that have not come up wait for number i. -/
def waitsT (md : Region.Mode) (ops : Array Oper) (T : Nat → Bool) (listed : Array Bool) (i : Nat) : Bool :=
  !T i && (List.range ops.size).all fun j => !T j || listed.getD j true || match ops[j]? with | some oj => oj.after.any fun e => Region.binds md e && e.on == i | none => true
theorem wpAnyG_take {i : Nat} {oi : Oper} {v : Value} {n : Nat} {listed : Array Bool} {a : Act} {w : World} (hi : ops[i]? = some oi)
    (hs : Region.noSelect ops = true) (hf : Region.free md ops listed i = true) (hr : (Region.ready md ops listed).contains i = true) (hT : waitsT md ops T listed i = true)
    (hQ : ∀ c a w, Q (.panic c) (a.put oi.dst v) w → Q (.panic c) a w) (hy : YieldsIf P ops S oi v a) (hS : S w)
    (h : wpAnyG P md ops Q S T n false (listed.setIfInBounds i true) (a.put oi.dst v) w) : wpAnyG P md ops Q S T (n + 1) false listed a w := by
  unfold waitsT at hT
  simp only [Bool.and_eq_true, Bool.not_eq_true', List.all_eq_true, Bool.or_eq_true] at hT
  refine wpAnyG_first hi (Region.noSelect_spec hs) hQ hT.1 n listed a w (fun j oj hoj hji hun hno => ⟨Region.free_spec hi hf j oj hoj hji hun hno, ?_⟩) (by simpa using hr) hy hS h
  have hlt : j < ops.size := (Array.getElem?_eq_some_iff.1 hoj).1
  rcases hT.2 j (by simpa using hlt) with (h1 | h1) | h1
  · exact h1
  · rw [hun] at h1; cases h1
  · rw [hoj] at h1
    simp only [Array.any_eq_true, Bool.and_eq_true, beq_iff_eq] at h1
    obtain ⟨k, hk, hb, he⟩ := h1
    exact absurd he (hno _ (Array.getElem_mem hk) hb)
/-- An operation that looks at no memory is taken first, whatever the stores wait for. -/
theorem wpAnyG_firstU {i : Nat} {oi : Oper} {v : Value} (hi : ops[i]? = some oi) (hsel : ∀ (j : Nat) (o : Oper) cs b, ops[j]? = some o → o.op ≠ .select cs b)
    (hQ : ∀ c a w, Q (.panic c) (a.put oi.dst v) w → Q (.panic c) a w) (hTi : T i = false) :
    ∀ (n : Nat) (ph : Bool) (listed : Array Bool) (a : Act) (w : World),
      (∀ j oj, ops[j]? = some oj → j ≠ i → listed.getD j true = false → (∀ e ∈ oj.after, Region.binds md e = true → e.on ≠ i) → oi.apart ops oj = true) →
      i ∈ Region.ready md ops listed → YieldsIf P ops (fun _ => True) oi v a → (ph = false → S w) →
      wpAnyG P md ops Q S T n ph (listed.setIfInBounds i true) (a.put oi.dst v) w → wpAnyG P md ops Q S T (n + 1) ph listed a w := by
  intro n
  induction n with
  | zero =>
    intro ph listed a w _ hr hy hS H
    refine ⟨fun h => (by rw [h] at hr; cases hr), fun j hj => ?_⟩
    by_cases hji : j = i
    · subst hji
      rw [hTi, Bool.or_false]
      exact hy.wpOp hi trivial ⟨hS, H⟩
    · have := ready_mono hj hji
      rw [H.1] at this
      cases this
  | succ n ih =>
    intro ph listed a w hfree hr hy hS H
    refine ⟨fun h => (by rw [h] at hr; cases hr), fun j hj => ?_⟩
    by_cases hji : j = i
    · subst hji
      rw [hTi, Bool.or_false]
      exact hy.wpOp hi trivial ⟨hS, H⟩
    · have h1 := H.2 j (ready_mono hj hji)
      obtain ⟨hun, oj, hoj, hall⟩ := mem_ready.1 hj
      have hno : ∀ e ∈ oj.after, Region.binds md e = true → e.on ≠ i := fun e he hb heq => by
        have k1 := hall e he hb
        have k0 := (mem_ready.1 hr).1
        rw [heq] at k1
        rcases Nat.lt_or_ge i listed.size with h' | h'
        · simp [h'] at k0 k1; rw [k0] at k1; cases k1
        · simp [Array.getElem?_eq_none h'] at k1
      have h2 := wpOp_putIf hoj (hfree j oj hoj hji hun hno) (fun cs b => hsel i oi cs b hi) (fun cs b => hsel j oj cs b hoj) hQ hy h1
      refine wpOp_mono (fun a' w' h3 => ⟨h3.2.1, ih (ph || T j) (listed.setIfInBounds j true) a' w' (fun k ok hk hki hku hkn => ?_) (ready_mono hr (Ne.symm hji)) h3.1 h3.2.1 ?_⟩) h2
      · refine hfree k ok hk hki ?_ hkn
        by_cases hjk : j = k
        · subst hjk; exact hun
        · rwa [getD_set_ne true hjk] at hku
      · rw [Array.setIfInBounds_comm _ _ hji]
        exact h3.2.2
theorem wpAnyG_takeU {i : Nat} {oi : Oper} {v : Value} {n : Nat} {ph : Bool} {listed : Array Bool} {a : Act} {w : World} (hi : ops[i]? = some oi)
    (hs : Region.noSelect ops = true) (hf : Region.free md ops listed i = true) (hr : (Region.ready md ops listed).contains i = true) (hT : T i = false)
    (hQ : ∀ c a w, Q (.panic c) (a.put oi.dst v) w → Q (.panic c) a w) (hy : YieldsIf P ops (fun _ => True) oi v a) (hS : ph = false → S w)
    (h : wpAnyG P md ops Q S T n ph (listed.setIfInBounds i true) (a.put oi.dst v) w) : wpAnyG P md ops Q S T (n + 1) ph listed a w :=
  wpAnyG_firstU hi (Region.noSelect_spec hs) hQ hT n ph listed a w (Region.free_spec hi hf) (by simpa using hr) hy hS h
/-- Each of these comes up next. -/
def AllG (P : Program) (md : Region.Mode) (ops : Array Oper) (Q : Exit → Act → World → Prop) (S : World → Prop) (T : Nat → Bool) (n : Nat) (ph : Bool) (listed : Array Bool) (a : Act) (w : World) (rs : List Nat) : Prop :=
  ∀ i ∈ rs, wpOp P ops Q i (fun a' w' => ((ph || T i) = false → S w') ∧ wpAnyG P md ops Q S T n (ph || T i) (listed.setIfInBounds i true) a' w') a w
theorem AllG.nil {n : Nat} {ph : Bool} {listed : Array Bool} {a : Act} {w : World} : AllG P md ops Q S T n ph listed a w [] := fun _ h => by cases h
theorem AllG.cons {n : Nat} {ph : Bool} {listed : Array Bool} {a : Act} {w : World} {i : Nat} {o : Oper} {rs : List Nat} (ho : ops[i]? = some o) {ph' : Bool} (hp : (ph || T i) = ph')
    (h : ∀ K' : Act → World → Prop, Shut (∀ a w, (ph' = false → S w) → wpAnyG P md ops Q S T n ph' (listed.setIfInBounds i true) a w → K' a w) → if Region.wanted o (yielded ops a.tmps) = true then Oper.wp P o a w K' Q else K' (a.put o.dst undef) w)
    (hs : AllG P md ops Q S T n ph listed a w rs) : AllG P md ops Q S T n ph listed a w (i :: rs) := fun j hj => by
  rcases List.mem_cons.1 hj with rfl | hj
  · subst hp
    exact wpOp_step ho (fun K' hK => h K' (fun a w hS hW => hK a w ⟨hS, hW⟩))
  · exact hs j hj
theorem wpAnyG_ready {rs : List Nat} {n : Nat} {ph : Bool} {listed : Array Bool} {a : Act} {w : World} (hr : Region.ready md ops listed = rs) (hne : rs ≠ [])
    (h : AllG P md ops Q S T n ph listed a w rs) : wpAnyG P md ops Q S T (n + 1) ph listed a w := ⟨fun h0 => absurd (hr ▸ h0) hne, hr ▸ h⟩
theorem wpAnyG_done {ph : Bool} {listed : Array Bool} {a : Act} {w : World} (hr : Region.ready md ops listed = []) (h : Q .normal a w) :
    ∀ n, wpAnyG P md ops Q S T n ph listed a w
  | 0 => ⟨hr, h⟩
  | _ + 1 => ⟨fun _ => h, by rw [hr]; simp⟩
theorem wp_region_phase {id : Nat} {a : Act} {w : World} (S : World → Prop) (T : Nat → Bool) (hm : P.follows .mixedOrders = true) (hS : S w.drew)
    (h : S w.drew → wpAnyG P .any ops Q S T ops.size false (Array.replicate ops.size false) a w.drew) : (Code.region id ops true).wp P Q a w :=
  wp_region_any hm (wpAny_of_G _ _ _ _ _ (h hS))
end
end Go.Proofs.YtemilbemdlpkaaaGreatDoor

/- A range over a function whose values are known to be something: V x W of each x that is handed out. -/
namespace Go.Proofs.YtemilbemdlpkaaaGreatDoor
open Go.RowKit

/-- What an iterator that hands out such values does with a yield. -/
def SeqV {α : Type} (n : Nat) (P : Program) (g : Nat) (lb : Array Value) (encs : α → Array Value) (V : α → World → Prop) (Kp : World → World → Prop) (S Sp : List α → Prop) (G : List α → α → Prop) (w : World) : Prop :=
  ∀ (l : Nat) (J Jx : List α → World → Prop) (W : World), Below w.heap.size w W → AbidesFrom W.heap.size J →
    (∀ pre x W1, J pre W1 → V x W1 → G pre x → YieldAt Fence.wide (n - 1) P l (encs x) W1 fun e W' => (e = .returned (.bool true) ∧ J (pre ++ [x]) W' ∧ Kp W1 W') ∨ (e = .returned (.bool false) ∧ Jx (pre ++ [x]) W')) →
    J [] W → CallsIn Fence.wide n P g (#[.func (.yield l) #[] #[]] ++ lb) W fun e W' => (∃ v, e = .returned v) ∧ ((∃ xs, S xs ∧ J xs W') ∨ (∃ pre, Sp pre ∧ Jx pre W'))

/-- The loop's two blocks of book-keeping. -/
structure Books (W : World) (D : Nat) (r : Loop) : Prop where
  loop : W.heap[D + 1]? = some (.loop r)
  mark : W.heap[D]? = some (.deferred (some []))
theorem Books.turned {W : World} {D : Nat} {r : Loop} (h : Books W D r) (r' : Loop) : Books (W.putObj (D + 1) (.loop r')) D r' :=
  ⟨World.putObj_heap_same (Array.getElem?_eq_some_iff.1 h.loop).1, (World.putObj_heap_other (by omega)).trans h.mark⟩
theorem Books.keeps {W W' : World} {D : Nat} {r : Loop} (h : Books W D r) (k : KeepsFrom D W W') : Books W' D r :=
  ⟨k.same _ _ (by omega) h.loop rfl, k.same _ _ (Nat.le_refl _) h.mark rfl⟩
theorem Books.abides {W W' : World} {D : Nat} {r : Loop} {row : Option Nat} (h : Books W D r) (hg : W.grownBy W' row) (hr : ∀ k, row = some k → ∃ o : Obj, W.heap[k]? = some o ∧ o.isWalk = true) : Books W' D r :=
  ⟨(grownBy_keeps hg hr h.loop rfl).trans h.loop, (grownBy_keeps hg hr h.mark rfl).trans h.mark⟩
theorem walk_row {W : World} {B B' : Nat} {row : Option Nat} (hB : B ≤ B') (hr : ∀ k, row = some k → B' ≤ k ∧ ∃ o : Obj, W.heap[k]? = some o ∧ o.isWalk = true) : ∀ k, row = some k → B ≤ k ∧ ∃ o : Obj, W.heap[k]? = some o ∧ o.isCells = false := fun k e => by
  obtain ⟨h1, o, h2, h3⟩ := hr k e
  exact ⟨Nat.le_trans hB h1, o, h2, Obj.not_cells_of_walk h3⟩

/-- **The statement 'for .. := range g', with V.** -/
theorem wpIn_rangeV {P : Program} {α : Type} {g : Operand} {ps : Array Tmp} {assign body : Code} {Q : Exit → Act → World → Prop} {a : Act} {w : World} {n gf : Nat} {lb : Array Value} (h1 : 1 ≤ n)
    (hg : a.eval g = .func (.func gf) #[] lb) (eg : ∀ args w, (callFunc gf args).run P w = .ok (.enter gf args) w)
    {encs : α → Array Value} {V : α → World → Prop} {Kp : World → World → Prop} {S Sp : List α → Prop} {G : List α → α → Prop} (hseq : SeqV (n - 1) P gf lb encs V Kp S Sp G w)
    (hKt : ∀ {A B C : World}, Kp A B → Kp B C → Kp A C) (hKb : ∀ (W : World) (l : Nat) (o o' : Obj), w.heap.size ≤ l → W.heap[l]? = some o → o.isCells = false → o.isWalk = false → Kp W (W.putObj l o')) (hps : ∀ x, (encs x).size = ps.size)
    (I : List α → World → Prop) (Ix : Code → List α → World → Prop) (hI : OwnFrom w.heap.size I) (hIx : ∀ c, OwnFrom w.heap.size (Ix c)) (h0 : I [] w) (hV : OwnFrom w.heap.size V) (Ax : α → Act → World → Prop) (hAx : ∀ x a', OwnFrom w.heap.size (fun (_ : Unit) W => Ax x a' W))
    (hassign : ∀ (l : Nat) (pre : List α) (x : α) (W : World) (K : Act → World → Prop), I pre W → V x W → (∀ a' W', KeepsFrom w.heap.size W W' → Kp W W' → I pre W' → V x W' → Ax x a' W' → K a' W') →
      assign.wpIn (Fence.wide.inRound l) (n - 1 - 1) P (Exit.then K (fun _ _ _ => False)) { tmps := (ps.zip (encs x)).foldl (fun t (p, v) => t.setIfInBounds p v) a.tmps, defers := [] } W)
    (hbody : ∀ (l : Nat) (pre : List α) (x : α) (a' : Act) (W : World), w.heap.size ≤ l → I pre W → V x W → Ax x a' W → G pre x → body.wpIn (Fence.wide.inRound l) (n - 1 - 1) P (ownPostG w.heap.size Kp I Ix (pre ++ [x]) W) a' W)
    (hdone : ∀ (D : Nat) (xs : List α) (W : World), w.heap.size ≤ D → S xs → I xs W → W.heap[D]? = some (.deferred (some [])) → Q .normal { a with defers := { target := .collected D, args := #[] } :: a.defers } W)
    (hstop : ∀ (D : Nat) (c : Code) (pre : List α) (W : World), w.heap.size ≤ D → Sp pre → Ix c pre W → W.heap[D]? = some (.deferred (some [])) → c.wpIn Fence.wide n P Q { a with defers := { target := .collected D, args := #[] } :: a.defers } W) :
    (Code.rangeFunc g ps assign body).wpIn Fence.wide n P Q a w := by
  refine wpIn_rangeFunc (fun fn hfn => ?_)
  let rc : LoopState → Option Code → Loop := fun st pe => { state := st, pending := pe, fn := fn, tmps := a.tmps, params := ps, assign := assign, body := body, defers := w.heap.size }
  obtain ⟨W1, hW1⟩ : ∃ W1, (w.alloc (.deferred (some []))).alloc (.loop (rc .ready none)) = W1 := ⟨_, rfl⟩
  have hB1 : Books W1 w.heap.size (rc .ready none) := by
    rw [← hW1]
    refine ⟨?_, (Below.heap_alloc _ _ _ (by simp)).trans (World.alloc_heap_new w _)⟩
    have h2 := World.alloc_heap_new (w.alloc (.deferred (some []))) (.loop (rc .ready none))
    rwa [World.size_alloc] at h2
  have hI1 : I [] W1 := by rw [← hW1]; exact hI.alloc _ (hI.alloc _ h0)
  have hbl : Below w.heap.size w W1 := by rw [← hW1]; exact ((Below.refl _ w).alloc (Nat.le_refl _) _).alloc (by simp) _
  have hs1 : w.heap.size ≤ W1.heap.size := hbl.size
  refine ⟨w.heap.size + 1, [{ target := .collected w.heap.size, args := #[] }], W1, { target := .fn (.func gf) lb, args := #[.func (.yield (w.heap.size + 1)) #[] #[]] }, W1, gf, #[.func (.yield (w.heap.size + 1)) #[] #[]] ++ lb, W1,
    by rw [← hW1]; exact run_enterLoop_outer _ _ _ _ _, ?_, fun f' _ => trivial, by simp [invoke, go_sem, eg], fun _ => h1, ?_⟩
  · simp only [resolve, hg]
    simp [go_sem]
  refine (hseq (w.heap.size + 1) (fun pre W => I pre W ∧ Books W w.heap.size (rc .ready none)) (fun pre W => ∃ c, Ix c pre W ∧ Books W w.heap.size (rc .done (some c))) W1 hbl
    (fun s A B row hs hgr hr => ⟨hI s A B row hs.1 hgr (walk_row hs1 hr), hs.2.abides hgr (fun k e => (hr k e).2)⟩) ?_ ⟨hI1, hB1⟩).mono ?_
  · rintro pre x W ⟨hi, hb⟩ hv hlen
    have hy := run_yield (P := P) (args := encs x) hb.loop (hps x)
    refine ⟨fn, _, assign, body, hy, roundIn_of_wpIn hfn (hassign _ pre x W _ hi hv ?_)⟩
    intro a' Wa hkf hkp hi2 hv2 hax
    have hb2 := hb.keeps hkf
    refine ⟨_, run_beginRound hb2.loop rfl, ?_⟩
    have hb3 := hb2.turned { rc .ready none with state := .busy }
    have hkp3 : Kp Wa (Wa.putObj (w.heap.size + 1) (.loop { rc .ready none with state := .busy })) := hKb _ _ _ _ (by omega) hb2.loop rfl rfl
    refine wpIn_mono (hbody _ pre x a' _ (by omega) (hI.putObj _ hi2 (by omega) hb2.loop rfl) (hV.putObj _ hv2 (by omega) hb2.loop rfl) ((hAx x a').putObj (s := ()) _ hax (by omega) hb2.loop rfl) hlen) ?_
    have left : ∀ (c : Code) (W3 : World), KeepsFrom w.heap.size (Wa.putObj (w.heap.size + 1) (.loop { rc .ready none with state := .busy })) W3 → Ix c (pre ++ [x]) W3 →
        ∃ v W4, (Instr.endRound (w.heap.size + 1) (some c)).run P W3 = .ok v W4 ∧ ((v = .bool true ∧ (I (pre ++ [x]) W4 ∧ Books W4 w.heap.size (rc .ready none)) ∧ Kp W W4) ∨ (v = .bool false ∧ ∃ c, Ix c (pre ++ [x]) W4 ∧ Books W4 w.heap.size (rc .done (some c)))) := fun c W3 hk3 hx3 =>
      ⟨_, _, run_endRound (P := P) (some c) (hb3.keeps hk3).loop, .inr ⟨rfl, c, (hIx c).putObj _ hx3 (by omega) (hb3.keeps hk3).loop rfl, (hb3.keeps hk3).turned _⟩⟩
    intro e a3 W3 hp
    cases e with
    | normal =>
      obtain ⟨hk3, hkp4, hi4⟩ := hp
      have hb4 := hb3.keeps hk3
      exact ⟨_, _, run_endRound (P := P) none hb4.loop, .inl ⟨rfl, ⟨hI.putObj _ hi4 (by omega) hb4.loop rfl, hb4.turned _⟩, hKt hkp (hKt hkp3 (hKt hkp4 (hKb _ _ _ _ (by omega) hb4.loop rfl rfl)))⟩⟩
    | ret =>
      obtain ⟨v, W4, h2, h3⟩ := left .ret W3 hp.1 hp.2
      exact ⟨v, W4, h2, by simpa using h3⟩
    | exit id =>
      obtain ⟨v, W4, h2, h3⟩ := left (.exit id) W3 hp.1 hp.2
      exact ⟨v, W4, h2, by simpa using h3⟩
    | goto t =>
      obtain ⟨v, W4, h2, h3⟩ := left (.goto t) W3 hp.1 hp.2
      exact ⟨v, W4, h2, by simpa using h3⟩
    | panic ch => exact hp.elim
    | outgrown => exact hp.elim
  · rintro e W2 ⟨⟨v, rfl⟩, ⟨xs, hS, hi, hb⟩ | ⟨pre, hSp, c, hi, hb⟩⟩
    · exact ⟨none, _, run_endLoop (P := P) hb.loop (by simp [rc]), hdone _ xs _ (Nat.le_refl _) hS (hI.putObj _ hi (by omega) hb.loop rfl) (hb.turned _).mark⟩
    · exact ⟨some c, _, run_endLoop (P := P) hb.loop (by simp [rc]), hstop _ c pre _ (Nat.le_refl _) hSp ((hIx c).putObj _ hi (by omega) hb.loop rfl) (hb.turned _).mark⟩
end Go.Proofs.YtemilbemdlpkaaaGreatDoor
