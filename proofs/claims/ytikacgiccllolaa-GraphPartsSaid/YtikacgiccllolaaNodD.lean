/- espalierref11: Depth. -/
import Derived.Test.YtikacgiccllolaaNodC
import Derived.Test.YtikacgiccllolaaDepB
import Derived.Deep.OwnRows
namespace Go.Proofs.Ytikacgiccllolaa
open Go.RowKit Go.ChangeMaps Go.MapKept

theorem Try.info3 : (Try.prog.info? 3).map (fun i => (i.zero, i.size, i.bytes)) = some (some (.int .i64 0), 1, 8) := by kernel_rfl
def natsV (D : List Nat) : Array Value := (D.map fun n : Nat => Value.int .i64 (n : Int)).toArray
/-- A block of numbers. -/
def RowN (w : World) (G : Nat) (D : List Nat) : Prop := w.heap[G]? = some (.cells (natsV D) 3 (0, 0))
theorem RowN.at {w : World} {G : Nat} {D : List Nat} (h : RowN w G D) {k : Nat} (hk : k < D.length) : w.cell? ⟨G, k, none⟩ = some (.int .i64 (D[k] : Nat)) := by
  unfold RowN at h
  simp [World.cell?, h, natsV, hk]
theorem RowN.fz {w : World} {G : Nat} {D : List Nat} (h : RowN w G D) (k : Nat) : w.frozen? ⟨G, k, none⟩ = false := by
  unfold RowN at h
  simp [World.frozen?, h]
theorem RowN.set {w : World} {G : Nat} {D : List Nat} (h : RowN w G D) (k v : Nat) : RowN (w.setCell ⟨G, k, none⟩ (.int .i64 v)) G (D.set k v) ∧ Kept (· = G) w (w.setCell ⟨G, k, none⟩ (.int .i64 v)) := by
  refine ⟨?_, keptCell w G k _⟩
  unfold RowN
  rw [heap_setCell_row h]
  simp [natsV, List.map_set]
theorem RowN.kept {w w' : World} {F : Nat → Prop} {G : Nat} {D : List Nat} (h : RowN w G D) (hk : Kept F w w') (hF : ¬ F G) : RowN w' G D := (hk.block G (Array.getElem?_eq_some_iff.1 h).1 hF).trans h
/-- What stands in the row while number i is reckoned. -/
def rowD (o : List Nat) (m : Nat → Nat) (i acc : Nat) : List Nat := (List.range o.length).map fun k => if k < i then m (o.getD k 0) else if k = i then acc else 0
@[simp] theorem rowD_length (o : List Nat) (m : Nat → Nat) (i acc : Nat) : (rowD o m i acc).length = o.length := by simp [rowD]
theorem rowD_lt {o : List Nat} {m : Nat → Nat} {i acc k : Nat} (hk : k < o.length) (hki : k < i) : (rowD o m i acc)[k]'(by simpa using hk) = m o[k] := by
  simp [rowD, hki, hk]
theorem rowD_eq {o : List Nat} {m : Nat → Nat} {i acc : Nat} (hi : i < o.length) : (rowD o m i acc)[i]'(by simpa using hi) = acc := by
  simp [rowD]
theorem rowD_set (o : List Nat) (m : Nat → Nat) {i : Nat} (acc v : Nat) (_hi : i < o.length) : (rowD o m i acc).set i v = rowD o m i v := by
  apply List.ext_getElem
  · simp
  · intro k h1 h2
    rw [List.getElem_set]
    simp only [rowD, List.getElem_map, List.getElem_range]
    by_cases h : i = k
    · subst h; simp
    · rw [if_neg h]
      have : ¬ k = i := fun e => h e.symm
      simp [this]
theorem rowD_next {o : List Nat} {m m' : Nat → Nat} {i v : Nat} (hi : i < o.length) (hlt : ∀ k (hk : k < o.length), k < i → m' o[k] = m o[k]) (hv : m' o[i] = v) : rowD o m i v = rowD o m' (i + 1) 0 := by
  apply List.ext_getElem
  · simp
  · intro k h1 h2
    simp only [rowD_length] at h1
    simp only [rowD, List.getElem_map, List.getElem_range]
    rw [List.getD_eq_getElem?_getD, List.getElem?_eq_getElem h1, Option.getD_some]
    rcases Nat.lt_trichotomy k i with h | h | h
    · rw [if_pos h, if_pos (by omega), hlt k h1 h]
    · subst h
      rw [if_neg (by omega), if_pos rfl, if_pos (by omega), hv]
    · rw [if_neg (by omega), if_neg (by omega), if_neg (by omega)]
      split <;> rfl
theorem nats_make (w : World) (o : List Nat) (m : Nat → Nat) (hc : o.length ≤ 1000000) : ∃ w', (Instr.makeSlice 23 (.int .i64 (o.length : Int)) (.int .i64 (o.length : Int))).run Try.prog w = .ok (.slice (some ⟨w.heap.size, 0, none⟩) o.length o.length) w' ∧ RowN w' w.heap.size (rowD o m 0 0) ∧ Kept (fun _ => False) w w' := by
  refine ⟨_, run_make_row' 23 3 _ 8 Try.underlying23 Try.info3 rfl .i64 .i64 o.length (by omega) (by omega) w, ?_, (Kept.refl _ _).alloc _⟩
  unfold RowN
  rw [heap_alloc_new]
  congr 2
  simp only [natsV, rowD]
  apply Array.ext
  · simp [madeCells]
  · intro k h1 h2
    simp [madeCells, Nat.mod_one]

theorem runF_old {N : List NodeM} {o : List Nat} (h : Topo N o) (f : (Nat → Nat) → Nat → Nat) {i k : Nat} (hi : i < o.length) (hk : k < i) (m : Nat → Nat) : runF f (o.take (i + 1)) m o[k] = runF f (o.take i) m o[k] := by
  rw [runF_take f o hi rfl]
  exact setF_off _ (fun e => by
    have := List.pairwise_iff_getElem.1 h.nodup k i (by omega) hi hk
    exact this e) _
theorem runF_end {N : List NodeM} {o : List Nat} (h : Topo N o) (f : (Nat → Nat) → Nat → Nat) {k : Nat} (m : Nat → Nat) : ∀ j (_ : j ≤ o.length) (hk : k < j), runF f (o.take j) m o[k] = runF f (o.take (k + 1)) m o[k] := by
  intro j
  induction j with
  | zero => intro _ hk; omega
  | succ j ih =>
    intro hj hk
    rcases Nat.lt_or_ge k j with h1 | h1
    · rw [runF_old h f (by omega) h1, ih (by omega) h1]
    · obtain rfl : k = j := by omega
      rfl
/-- The greatest of what stands at the parents, gone through by the order. -/
def accF (ps : List Nat) (m : Nat → Nat) (l : List Nat) : Nat := l.foldl (fun a x => if x ∈ ps then max a (m x) else a) 0
theorem accF_spec (ps : List Nat) (m : Nat → Nat) (l : List Nat) : ∀ a b, l.foldl (fun a x => if x ∈ ps then max a (m x) else a) a ≤ b ↔ a ≤ b ∧ ∀ x ∈ l, x ∈ ps → m x ≤ b := by
  induction l with
  | nil => intro a b; simp
  | cons y l ih =>
    intro a b
    simp only [List.foldl_cons]
    rw [ih]
    constructor
    · rintro ⟨h1, h2⟩
      by_cases hy : y ∈ ps
      · rw [if_pos hy] at h1
        refine ⟨by omega, fun x hx hp => ?_⟩
        rcases List.mem_cons.1 hx with rfl | hx
        · omega
        · exact h2 x hx hp
      · rw [if_neg hy] at h1
        refine ⟨h1, fun x hx hp => ?_⟩
        rcases List.mem_cons.1 hx with rfl | hx
        · exact absurd hp hy
        · exact h2 x hx hp
    · rintro ⟨h1, h2⟩
      refine ⟨?_, fun x hx hp => h2 x (List.mem_cons_of_mem _ hx) hp⟩
      split
      · rename_i hy; have := h2 y List.mem_cons_self hy; omega
      · exact h1
theorem foldl_max_spec (ps : List Nat) (m : Nat → Nat) : ∀ a b, ps.foldl (fun a p => max a (m p)) a ≤ b ↔ a ≤ b ∧ ∀ p ∈ ps, m p ≤ b := by
  induction ps with
  | nil => intro a b; simp
  | cons y l ih =>
    intro a b
    simp only [List.foldl_cons]
    rw [ih]
    constructor
    · rintro ⟨h1, h2⟩
      refine ⟨by omega, fun x hx => ?_⟩
      rcases List.mem_cons.1 hx with rfl | hx
      · omega
      · exact h2 x hx
    · rintro ⟨h1, h2⟩
      have := h2 y List.mem_cons_self
      exact ⟨by omega, fun x hx => h2 x (List.mem_cons_of_mem _ hx)⟩
theorem accF_all {ps : List Nat} {m : Nat → Nat} {l : List Nat} (h : ∀ p ∈ ps, p ∈ l) : accF ps m l = ps.foldl (fun a p => max a (m p)) 0 := by
  have h1 : accF ps m l ≤ ps.foldl (fun a p => max a (m p)) 0 := (accF_spec ps m l 0 _).2 ⟨Nat.zero_le _, fun x _ hp => ((foldl_max_spec ps m 0 _).1 (Nat.le_refl _)).2 x hp⟩
  have h2 : ps.foldl (fun a p => max a (m p)) 0 ≤ accF ps m l := (foldl_max_spec ps m 0 _).2 ⟨Nat.zero_le _, fun p hp => ((accF_spec ps m l 0 _).1 (Nat.le_refl _)).2 p (h p hp) hp⟩
  omega
theorem accF_step {ps : List Nat} {m : Nat → Nat} {o : List Nat} {k : Nat} (hk : k < o.length) {x : Nat} (hx : o[k] = x) : accF ps m (o.take (k + 1)) = if x ∈ ps then max (accF ps m (o.take k)) (m x) else accF ps m (o.take k) := by
  unfold accF
  rw [List.take_succ_eq_append_getElem hk, List.foldl_append, hx]
  rfl
theorem topo_before {N : List NodeM} {o : List Nat} (h : Topo N o) : ∀ i (hi : i < o.length), ∀ p ∈ parN N o[i], p ∈ o.take i := by
  induction h with
  | nil => intro i hi; simp at hi
  | @snoc o y d ht hy hf hd hp ih =>
    intro i hi p hpp
    rcases Nat.lt_or_ge i o.length with h | h
    · rw [List.getElem_append_left h] at hpp
      rw [List.take_append_of_le_length (by omega)]
      exact ih i h p hpp
    · have hi' : i = o.length := by simp at hi; omega
      subst hi'
      simp at hpp ⊢
      unfold parN at hpp
      rw [hf] at hpp
      exact hp p hpp
theorem accF_bd {ps : List Nat} {m : Nat → Nat} {l : List Nat} {b : Nat} (h : ∀ x, m x ≤ b) : accF ps m l ≤ b := (accF_spec ps m l 0 b).2 ⟨Nat.zero_le _, fun x _ _ => h x⟩
end Go.Proofs.Ytikacgiccllolaa
