/- The plain law of depths and of ways. -/
import Derived.Test.YtikacgiccllolaaGreatGraphL
namespace Go.Proofs.YtikacgiccllolaaGreat

/-- The program's reckoning: a map that is laid for one commit behind the other. -/
def setF (m : Nat → Nat) (x v : Nat) : Nat → Nat := fun y => if y = x then v else m y
def depS (par : Nat → List Nat) (m : Nat → Nat) (id : Nat) : Nat := (par id).foldl (fun a p => max a (m p)) 0 + 1
def addW (a b : Nat) : Nat := min (2 ^ 62) (a + b)
def wayS (par : Nat → List Nat) (t : Nat) (m : Nat → Nat) (id : Nat) : Nat := if id = t then 1 else (par id).foldl (fun a p => addW a (m p)) 0
def runF (f : (Nat → Nat) → Nat → Nat) (l : List Nat) (m : Nat → Nat) : Nat → Nat := l.foldl (fun m id => setF m id (f m id)) m
def depF (par : Nat → List Nat) (l : List Nat) : Nat → Nat := runF (depS par) l (fun _ => 0)
def wayF (par : Nat → List Nat) (t : Nat) (l : List Nat) : Nat → Nat := runF (wayS par t) l (fun _ => 0)
theorem runF_snoc (f : (Nat → Nat) → Nat → Nat) (l : List Nat) (x : Nat) (m : Nat → Nat) : runF f (l ++ [x]) m = setF (runF f l m) x (f (runF f l m) x) := by
  unfold runF; rw [List.foldl_append]; rfl
theorem runF_off (f : (Nat → Nat) → Nat → Nat) (l : List Nat) : ∀ m x, x ∉ l → runF f l m x = m x := by
  induction l with
  | nil => intro m x _; rfl
  | cons y l ih =>
    intro m x hx
    have h1 : x ∉ l := fun h => hx (List.mem_cons_of_mem _ h)
    have h2 : x ≠ y := fun h => hx (by rw [h]; exact List.mem_cons_self)
    show runF f l (setF m y (f m y)) x = m x
    rw [ih _ _ h1, setF, if_neg h2]
/-- f looks at the parents alone. -/
def Looks (par : Nat → List Nat) (f : (Nat → Nat) → Nat → Nat) : Prop := ∀ m m' x, (∀ p ∈ par x, m p = m' p) → f m x = f m' x
theorem depS_looks (par : Nat → List Nat) : Looks par (depS par) := fun m m' x h => by
  have : ∀ (l : List Nat) a, (∀ p ∈ l, m p = m' p) → l.foldl (fun a p => max a (m p)) a = l.foldl (fun a p => max a (m' p)) a := by
    intro l
    induction l with
    | nil => intro a _; rfl
    | cons q l ih => intro a hq; simp only [List.foldl_cons, hq q List.mem_cons_self]; exact ih _ (fun p hp => hq p (List.mem_cons_of_mem _ hp))
  unfold depS
  rw [this _ 0 h]
theorem wayS_looks (par : Nat → List Nat) (t : Nat) : Looks par (wayS par t) := fun m m' x h => by
  have : ∀ (l : List Nat) a, (∀ p ∈ l, m p = m' p) → l.foldl (fun a p => addW a (m p)) a = l.foldl (fun a p => addW a (m' p)) a := by
    intro l
    induction l with
    | nil => intro a _; rfl
    | cons q l ih => intro a hq; simp only [List.foldl_cons, hq q List.mem_cons_self]; exact ih _ (fun p hp => hq p (List.mem_cons_of_mem _ hp))
  unfold wayS
  rw [this _ 0 h]
def parN (N : List NodeM) (x : Nat) : List Nat := match findN N x with | some d => d.parents | none => []
theorem Topo.parN {N : List NodeM} {o : List Nat} (h : Topo N o) {x p : Nat} (hx : x ∈ o) (hp : p ∈ parN N x) : Par N x p := by
  cases h.fine x hx with
  | @mk _ d hf hd _ =>
    unfold Proofs.YtikacgiccllolaaGreat.parN at hp
    rw [hf] at hp
    exact ⟨d, hf, hd, hp⟩
/-- What stands in the end at a commit of an order. -/
theorem runF_at {N : List NodeM} {f : (Nat → Nat) → Nat → Nat} (hf : Looks (parN N) f) {o : List Nat} (h : Topo N o) : ∀ x ∈ o, runF f o (fun _ => 0) x = f (runF f o (fun _ => 0)) x := by
  induction h with
  | nil => intro x hx; simp at hx
  | @snoc o y d ht hy hfy hd hp ih =>
    intro x hx
    rw [runF_snoc]
    have hpo : ∀ z, z ∈ o ∨ z = y → ∀ p ∈ parN N z, p ≠ y := fun z hz p hpp e => by
      subst e
      rcases hz with hz | rfl
      · exact hy (ht.closed z hz _ (ht.parN hz hpp))
      · have hpp' : z ∈ d.parents := by unfold parN at hpp; rw [hfy] at hpp; exact hpp
        exact hy (hp z hpp')
    have hsame : ∀ z, z ∈ o ∨ z = y → f (setF (runF f o (fun _ => 0)) y (f (runF f o (fun _ => 0)) y)) z = f (runF f o (fun _ => 0)) z := fun z hz => hf _ _ z (fun p hpp => by rw [setF, if_neg (hpo z hz p hpp)])
    rcases List.mem_append.1 hx with hx | hx
    · have hne : x ≠ y := fun e => hy (by rw [← e]; exact hx)
      rw [hsame x (.inl hx), setF, if_neg hne]
      exact ih x hx
    · rw [List.mem_singleton.1 hx, hsame y (.inr rfl), setF, if_pos rfl]
theorem foldl_max_le (l : List Nat) (m : Nat → Nat) : ∀ a, a ≤ l.foldl (fun a p => max a (m p)) a ∧ ∀ p ∈ l, m p ≤ l.foldl (fun a p => max a (m p)) a := by
  induction l with
  | nil => intro a; exact ⟨Nat.le_refl _, fun p hp => by simp at hp⟩
  | cons q l ih =>
    intro a
    simp only [List.foldl_cons]
    obtain ⟨h1, h2⟩ := ih (max a (m q))
    refine ⟨by omega, fun p hp => ?_⟩
    rcases List.mem_cons.1 hp with rfl | hp
    · omega
    · exact h2 p hp
/-- A parent's depth is less. -/
theorem depF_less {N : List NodeM} {o : List Nat} (h : Topo N o) {x p : Nat} (hx : x ∈ o) (hp : p ∈ parN N x) : depF (parN N) o p < depF (parN N) o x := by
  have := runF_at (depS_looks (parN N)) h x hx
  unfold depF
  rw [this]
  have := (foldl_max_le (parN N x) (runF (depS (parN N)) o (fun _ => 0)) 0).2 p hp
  unfold depS at *
  omega
theorem depF_pos {N : List NodeM} {o : List Nat} (h : Topo N o) {x : Nat} (hx : x ∈ o) : 1 ≤ depF (parN N) o x := by
  unfold depF
  rw [runF_at (depS_looks (parN N)) h x hx]
  unfold depS
  omega
/-- What is laid for a commit does not hang on what else is in the order. -/
theorem runF_same {N : List NodeM} {f : (Nat → Nat) → Nat → Nat} (hf : Looks (parN N) f) {o o' : List Nat} (h : Topo N o) (h' : Topo N o') : ∀ x, x ∈ o → x ∈ o' → runF f o (fun _ => 0) x = runF f o' (fun _ => 0) x := by
  intro x hx hx'
  have hfine := h.fine x hx
  induction hfine with
  | @mk x d hfx hd hp ih =>
    rw [runF_at hf h x hx, runF_at hf h' x hx']
    refine hf _ _ x (fun p hpp => ?_)
    have hpar := h.parN hx hpp
    have hpp' : p ∈ d.parents := by unfold parN at hpp; rw [hfx] at hpp; exact hpp
    exact ih p hpp' (h.closed x hx p hpar) (h'.closed x hx' p hpar)
theorem foldl_add_pos (l : List Nat) (m : Nat → Nat) : ∀ a, 0 < l.foldl (fun a p => addW a (m p)) a ↔ 0 < a ∨ ∃ p ∈ l, 0 < m p := by
  induction l with
  | nil => intro a; simp
  | cons q l ih =>
    intro a
    simp only [List.foldl_cons]
    rw [ih]
    have : 0 < addW a (m q) ↔ 0 < a ∨ 0 < m q := by unfold addW; omega
    rw [this]
    constructor
    · rintro ((h | h) | ⟨p, hp, h⟩)
      · exact .inl h
      · exact .inr ⟨q, List.mem_cons_self, h⟩
      · exact .inr ⟨p, List.mem_cons_of_mem _ hp, h⟩
    · rintro (h | ⟨p, hp, h⟩)
      · exact .inl (.inl h)
      · rcases List.mem_cons.1 hp with rfl | hp
        · exact .inl (.inr h)
        · exact .inr ⟨p, hp, h⟩
/-- There is a way just to an ancestor. -/
theorem wayF_pos {N : List NodeM} {o : List Nat} (t : Nat) (h : Topo N o) : ∀ x ∈ o, (0 < wayF (parN N) t o x ↔ Anc N x t) := by
  intro x hx
  have hfine := h.fine x hx
  induction hfine with
  | @mk x d hfx hd hp ih =>
    unfold wayF
    rw [runF_at (wayS_looks (parN N) t) h x hx]
    unfold wayS
    by_cases hxt : x = t
    · rw [if_pos hxt]
      exact ⟨fun _ => hxt ▸ .refl _, fun _ => Nat.one_pos⟩
    · rw [if_neg hxt, foldl_add_pos]
      have hpe : parN N x = d.parents := by unfold parN; rw [hfx]
      constructor
      · rintro (h0 | ⟨p, hpp, h1⟩)
        · omega
        · have hpar := h.parN hx hpp
          exact .step hpar ((ih p (hpe ▸ hpp) (h.closed x hx p hpar)).1 h1)
      · intro ha
        right
        cases ha with
        | refl => exact absurd rfl hxt
        | @step _ q _ hq ha =>
          obtain ⟨d', hf', -, hq'⟩ := id hq
          rw [hfx] at hf'
          cases hf'
          exact ⟨q, hpe ▸ hq', (ih q hq' (h.closed x hx q hq)).2 ha⟩
end Go.Proofs.YtikacgiccllolaaGreat
