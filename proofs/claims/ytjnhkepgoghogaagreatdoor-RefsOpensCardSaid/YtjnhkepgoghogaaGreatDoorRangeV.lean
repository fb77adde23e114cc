/- A range over a function whose values are known to be something: V x W of each x that is handed out. -/
import Derived.Test.YtjnhkepgoghogaaGreatDoorBase
import Derived.RangeFuncNested
namespace Go.Proofs.YtjnhkepgoghogaaGreatDoor
open Go.RowKit

/-- What an iterator that hands out such values does with a yield. -/
def SeqV {α : Type} (n : Nat) (P : Program) (g : Nat) (lb : Array Value) (encs : α → Array Value) (V : α → World → Prop) (Kp : World → World → Prop) (S Sp : List α → Prop) (G : List α → α → Prop) (w : World) : Prop :=
  ∀ (l : Nat) (J Jx : List α → World → Prop) (W : World), Below w.heap.size w W → AbidesFrom W.heap.size J →
    (∀ pre x W1, J pre W1 → V x W1 → G pre x → YieldAt Fence.wide (n - 1) P l (encs x) W1 fun e W' => (e = .returned (.bool true) ∧ J (pre ++ [x]) W' ∧ Kp W1 W') ∨ (e = .returned (.bool false) ∧ Jx (pre ++ [x]) W')) →
    J [] W → CallsIn Fence.wide n P g (#[.func (.yield l) #[] #[]] ++ lb) W fun e W' => (∃ v, e = .returned v) ∧ ((∃ xs, S xs ∧ J xs W') ∨ (∃ pre, Sp pre ∧ Jx pre W'))

/-- The loop's two blocks of book-keeping. -/
structure Books (W : World) (D : Nat) (r : Loop) : Prop where
  loop : W.heap[D + 1]? = some (.loop r)
  mark : W.heap[D]? = some (.deferred (some []))
theorem Books.turned {W : World} {D : Nat} {r : Loop} (h : Books W D r) (r' : Loop) : Books (W.putObj (D + 1) (.loop r')) D r' :=
  ⟨World.putObj_heap_same (Array.getElem?_eq_some_iff.1 h.loop).1, (World.putObj_heap_other (by omega)).trans h.mark⟩
theorem Books.keeps {W W' : World} {D : Nat} {r : Loop} (h : Books W D r) (k : KeepsFrom D W W') : Books W' D r :=
  ⟨k.same _ _ (by omega) h.loop rfl, k.same _ _ (Nat.le_refl _) h.mark rfl⟩
theorem Books.abides {W W' : World} {D : Nat} {r : Loop} {row : Option Nat} (h : Books W D r) (hg : W.grownBy W' row) (hr : ∀ k, row = some k → ∃ o : Obj, W.heap[k]? = some o ∧ o.isWalk = true) : Books W' D r :=
  ⟨(grownBy_keeps hg hr h.loop rfl).trans h.loop, (grownBy_keeps hg hr h.mark rfl).trans h.mark⟩
theorem walk_row {W : World} {B B' : Nat} {row : Option Nat} (hB : B ≤ B') (hr : ∀ k, row = some k → B' ≤ k ∧ ∃ o : Obj, W.heap[k]? = some o ∧ o.isWalk = true) : ∀ k, row = some k → B ≤ k ∧ ∃ o : Obj, W.heap[k]? = some o ∧ o.isCells = false := fun k e => by
  obtain ⟨h1, o, h2, h3⟩ := hr k e
  exact ⟨Nat.le_trans hB h1, o, h2, Obj.not_cells_of_walk h3⟩

/-- **The statement 'for .. := range g', with V.** -/
theorem wpIn_rangeV {P : Program} {α : Type} {g : Operand} {ps : Array Tmp} {assign body : Code} {Q : Exit → Act → World → Prop} {a : Act} {w : World} {n gf : Nat} {lb : Array Value} (h1 : 1 ≤ n)
    (hg : a.eval g = .func (.func gf) #[] lb) (eg : ∀ args w, (callFunc gf args).run P w = .ok (.enter gf args) w)
    {encs : α → Array Value} {V : α → World → Prop} {Kp : World → World → Prop} {S Sp : List α → Prop} {G : List α → α → Prop} (hseq : SeqV (n - 1) P gf lb encs V Kp S Sp G w)
    (hKt : ∀ {A B C : World}, Kp A B → Kp B C → Kp A C) (hKb : ∀ (W : World) (l : Nat) (o o' : Obj), w.heap.size ≤ l → W.heap[l]? = some o → o.isCells = false → o.isWalk = false → Kp W (W.putObj l o')) (hps : ∀ x, (encs x).size = ps.size)
    (I : List α → World → Prop) (Ix : Code → List α → World → Prop) (hI : OwnFrom w.heap.size I) (hIx : ∀ c, OwnFrom w.heap.size (Ix c)) (h0 : I [] w) (hV : OwnFrom w.heap.size V) (Ax : α → Act → World → Prop) (hAx : ∀ x a', OwnFrom w.heap.size (fun (_ : Unit) W => Ax x a' W))
    (hassign : ∀ (l : Nat) (pre : List α) (x : α) (W : World) (K : Act → World → Prop), I pre W → V x W → (∀ a' W', KeepsFrom w.heap.size W W' → Kp W W' → I pre W' → V x W' → Ax x a' W' → K a' W') →
      assign.wpIn (Fence.wide.inRound l) (n - 1 - 1) P (Exit.then K (fun _ _ _ => False)) { tmps := (ps.zip (encs x)).foldl (fun t (p, v) => t.setIfInBounds p v) a.tmps, defers := [] } W)
    (hbody : ∀ (l : Nat) (pre : List α) (x : α) (a' : Act) (W : World), w.heap.size ≤ l → I pre W → V x W → Ax x a' W → G pre x → body.wpIn (Fence.wide.inRound l) (n - 1 - 1) P (ownPostG w.heap.size Kp I Ix (pre ++ [x]) W) a' W)
    (hdone : ∀ (D : Nat) (xs : List α) (W : World), w.heap.size ≤ D → S xs → I xs W → W.heap[D]? = some (.deferred (some [])) → Q .normal { a with defers := { target := .collected D, args := #[] } :: a.defers } W)
    (hstop : ∀ (D : Nat) (c : Code) (pre : List α) (W : World), w.heap.size ≤ D → Sp pre → Ix c pre W → W.heap[D]? = some (.deferred (some [])) → c.wpIn Fence.wide n P Q { a with defers := { target := .collected D, args := #[] } :: a.defers } W) :
    (Code.rangeFunc g ps assign body).wpIn Fence.wide n P Q a w := by
  refine wpIn_rangeFunc (fun fn hfn => ?_)
  let rc : LoopState → Option Code → Loop := fun st pe => { state := st, pending := pe, fn := fn, tmps := a.tmps, params := ps, assign := assign, body := body, defers := w.heap.size }
  obtain ⟨W1, hW1⟩ : ∃ W1, (w.alloc (.deferred (some []))).alloc (.loop (rc .ready none)) = W1 := ⟨_, rfl⟩
  have hB1 : Books W1 w.heap.size (rc .ready none) := by
    rw [← hW1]
    refine ⟨?_, (Below.heap_alloc _ _ _ (by simp)).trans (World.alloc_heap_new w _)⟩
    have h2 := World.alloc_heap_new (w.alloc (.deferred (some []))) (.loop (rc .ready none))
    rwa [World.size_alloc] at h2
  have hI1 : I [] W1 := by rw [← hW1]; exact hI.alloc _ (hI.alloc _ h0)
  have hbl : Below w.heap.size w W1 := by rw [← hW1]; exact ((Below.refl _ w).alloc (Nat.le_refl _) _).alloc (by simp) _
  have hs1 : w.heap.size ≤ W1.heap.size := hbl.size
  refine ⟨w.heap.size + 1, [{ target := .collected w.heap.size, args := #[] }], W1, { target := .fn (.func gf) lb, args := #[.func (.yield (w.heap.size + 1)) #[] #[]] }, W1, gf, #[.func (.yield (w.heap.size + 1)) #[] #[]] ++ lb, W1,
    by rw [← hW1]; exact run_enterLoop_outer _ _ _ _ _, ?_, fun f' _ => trivial, by simp [invoke, go_sem, eg], fun _ => h1, ?_⟩
  · simp only [resolve, hg]
    simp [go_sem]
  refine (hseq (w.heap.size + 1) (fun pre W => I pre W ∧ Books W w.heap.size (rc .ready none)) (fun pre W => ∃ c, Ix c pre W ∧ Books W w.heap.size (rc .done (some c))) W1 hbl
    (fun s A B row hs hgr hr => ⟨hI s A B row hs.1 hgr (walk_row hs1 hr), hs.2.abides hgr (fun k e => (hr k e).2)⟩) ?_ ⟨hI1, hB1⟩).mono ?_
  · rintro pre x W ⟨hi, hb⟩ hv hlen
    have hy := run_yield (P := P) (args := encs x) hb.loop (hps x)
    refine ⟨fn, _, assign, body, hy, roundIn_of_wpIn hfn (hassign _ pre x W _ hi hv ?_)⟩
    intro a' Wa hkf hkp hi2 hv2 hax
    have hb2 := hb.keeps hkf
    refine ⟨_, run_beginRound hb2.loop rfl, ?_⟩
    have hb3 := hb2.turned { rc .ready none with state := .busy }
    have hkp3 : Kp Wa (Wa.putObj (w.heap.size + 1) (.loop { rc .ready none with state := .busy })) := hKb _ _ _ _ (by omega) hb2.loop rfl rfl
    refine wpIn_mono (hbody _ pre x a' _ (by omega) (hI.putObj _ hi2 (by omega) hb2.loop rfl) (hV.putObj _ hv2 (by omega) hb2.loop rfl) ((hAx x a').putObj (s := ()) _ hax (by omega) hb2.loop rfl) hlen) ?_
    have left : ∀ (c : Code) (W3 : World), KeepsFrom w.heap.size (Wa.putObj (w.heap.size + 1) (.loop { rc .ready none with state := .busy })) W3 → Ix c (pre ++ [x]) W3 →
        ∃ v W4, (Instr.endRound (w.heap.size + 1) (some c)).run P W3 = .ok v W4 ∧ ((v = .bool true ∧ (I (pre ++ [x]) W4 ∧ Books W4 w.heap.size (rc .ready none)) ∧ Kp W W4) ∨ (v = .bool false ∧ ∃ c, Ix c (pre ++ [x]) W4 ∧ Books W4 w.heap.size (rc .done (some c)))) := fun c W3 hk3 hx3 =>
      ⟨_, _, run_endRound (P := P) (some c) (hb3.keeps hk3).loop, .inr ⟨rfl, c, (hIx c).putObj _ hx3 (by omega) (hb3.keeps hk3).loop rfl, (hb3.keeps hk3).turned _⟩⟩
    intro e a3 W3 hp
    cases e with
    | normal =>
      obtain ⟨hk3, hkp4, hi4⟩ := hp
      have hb4 := hb3.keeps hk3
      exact ⟨_, _, run_endRound (P := P) none hb4.loop, .inl ⟨rfl, ⟨hI.putObj _ hi4 (by omega) hb4.loop rfl, hb4.turned _⟩, hKt hkp (hKt hkp3 (hKt hkp4 (hKb _ _ _ _ (by omega) hb4.loop rfl rfl)))⟩⟩
    | ret =>
      obtain ⟨v, W4, h2, h3⟩ := left .ret W3 hp.1 hp.2
      exact ⟨v, W4, h2, by simpa using h3⟩
    | exit id =>
      obtain ⟨v, W4, h2, h3⟩ := left (.exit id) W3 hp.1 hp.2
      exact ⟨v, W4, h2, by simpa using h3⟩
    | goto t =>
      obtain ⟨v, W4, h2, h3⟩ := left (.goto t) W3 hp.1 hp.2
      exact ⟨v, W4, h2, by simpa using h3⟩
    | panic ch => exact hp.elim
    | outgrown => exact hp.elim
  · rintro e W2 ⟨⟨v, rfl⟩, ⟨xs, hS, hi, hb⟩ | ⟨pre, hSp, c, hi, hb⟩⟩
    · exact ⟨none, _, run_endLoop (P := P) hb.loop (by simp [rc]), hdone _ xs _ (Nat.le_refl _) hS (hI.putObj _ hi (by omega) hb.loop rfl) (hb.turned _).mark⟩
    · exact ⟨some c, _, run_endLoop (P := P) hb.loop (by simp [rc]), hstop _ c pre _ (Nat.le_refl _) hSp ((hIx c).putObj _ hi (by omega) hb.loop rfl) (hb.turned _).mark⟩
end Go.Proofs.YtjnhkepgoghogaaGreatDoor
