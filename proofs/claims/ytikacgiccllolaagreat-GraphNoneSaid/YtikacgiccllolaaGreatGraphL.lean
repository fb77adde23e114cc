/- The plain law of the order of a history: a pile of stops is the recursion. -/
import Derived.Test.YtikacgiccllolaaGreatBase
namespace Go.Proofs.YtikacgiccllolaaGreat

/-- A commit as the document has it. -/
structure NodeM where
  id : Nat
  parents : List Nat
  other : Bool

def foldE (f : Nat → List Nat → Except Int (List Nat)) : List Nat → List Nat → Except Int (List Nat)
  | [], order => .ok order
  | p :: ps, order => match f p order with
    | .ok o => foldE f ps o
    | .error e => .error e
def findN (N : List NodeM) (x : Nat) : Option NodeM := N.find? (fun d => decide (d.id = x))
def fromR (N : List NodeM) : Nat → Nat → List Nat → List Nat → Except Int (List Nat)
  | 0, _, _, _ => .error 0
  | n + 1, id, order, on =>
    if id ∈ order then .ok order else
    match findN N id with
    | none => .error 4
    | some d => if d.other = true then .error 170 else
      match foldE (fun p o => if p ∈ on ++ [id] then .error 210 else fromR N n p o (on ++ [id])) d.parents order with
      | .ok o => .ok (o ++ [id])
      | .error e => .error e
def orderR (N : List NodeM) (F : Nat) (heads : List Nat) : Except Int (List Nat) := foldE (fun h o => fromR N (F + 1) h o []) heads []

/-- The stops that are open, the last one first: each with the parents that it has not gone through. -/
abbrev Pile := List (Nat × List Nat)
def below (fs : Pile) : List Nat := (fs.map Prod.fst).reverse
def resume (N : List NodeM) (F : Nat) : Pile → List Nat → Except Int (List Nat)
  | [], order => .ok order
  | (id, rest) :: fs, order =>
    match foldE (fun p o => if p ∈ below ((id, rest) :: fs) then .error 210 else fromR N (F - fs.length) p o (below ((id, rest) :: fs))) rest order with
    | .ok o => resume N F fs (o ++ [id])
    | .error e => .error e

theorem below_cons (id : Nat) (rest : List Nat) (fs : Pile) : below ((id, rest) :: fs) = below fs ++ [id] := by simp [below]
theorem below_rest (id : Nat) (r1 r2 : List Nat) (fs : Pile) : below ((id, r1) :: fs) = below ((id, r2) :: fs) := by simp [below]
theorem resume_done (N : List NodeM) (F : Nat) (id : Nat) (fs : Pile) (order : List Nat) : resume N F ((id, []) :: fs) order = resume N F fs (order ++ [id]) := by
  simp [resume, foldE]
theorem resume_ring (N : List NodeM) (F : Nat) (id p : Nat) (ps : List Nat) (fs : Pile) (order : List Nat) (h : p ∈ below ((id, p :: ps) :: fs)) : resume N F ((id, p :: ps) :: fs) order = .error 210 := by
  simp only [resume, foldE, if_pos h]
theorem resume_seen (N : List NodeM) (F : Nat) (id p : Nat) (ps : List Nat) (fs : Pile) (order : List Nat) (h : p ∉ below ((id, p :: ps) :: fs)) (ho : p ∈ order) (hl : fs.length < F) : resume N F ((id, p :: ps) :: fs) order = resume N F ((id, ps) :: fs) order := by
  obtain ⟨n, hn⟩ : ∃ n, F - fs.length = n + 1 := ⟨F - fs.length - 1, by omega⟩
  simp only [resume, foldE, if_neg h, hn]
  rw [fromR, if_pos ho]
  rfl
theorem resume_none (N : List NodeM) (F : Nat) (id p : Nat) (ps : List Nat) (fs : Pile) (order : List Nat) (h : p ∉ below ((id, p :: ps) :: fs)) (ho : p ∉ order) (hl : fs.length < F) (hf : findN N p = none) : resume N F ((id, p :: ps) :: fs) order = .error 4 := by
  obtain ⟨n, hn⟩ : ∃ n, F - fs.length = n + 1 := ⟨F - fs.length - 1, by omega⟩
  simp only [resume, foldE, if_neg h, hn]
  rw [fromR, if_neg ho, hf]
theorem resume_other (N : List NodeM) (F : Nat) (id p : Nat) (ps : List Nat) (fs : Pile) (order : List Nat) (h : p ∉ below ((id, p :: ps) :: fs)) (ho : p ∉ order) (hl : fs.length < F) {d : NodeM} (hf : findN N p = some d) (hd : d.other = true) : resume N F ((id, p :: ps) :: fs) order = .error 170 := by
  obtain ⟨n, hn⟩ : ∃ n, F - fs.length = n + 1 := ⟨F - fs.length - 1, by omega⟩
  simp only [resume, foldE, if_neg h, hn]
  rw [fromR, if_neg ho, hf]
  simp only [if_pos hd]
theorem resume_push (N : List NodeM) (F : Nat) (id p : Nat) (ps : List Nat) (fs : Pile) (order : List Nat) (h : p ∉ below ((id, p :: ps) :: fs)) (ho : p ∉ order) (hl : fs.length < F) {d : NodeM} (hf : findN N p = some d) (hd : d.other = false) : resume N F ((id, p :: ps) :: fs) order = resume N F ((p, d.parents) :: (id, ps) :: fs) order := by
  obtain ⟨n, hn⟩ : ∃ n, F - fs.length = n + 1 := ⟨F - fs.length - 1, by omega⟩
  have hn2 : F - ((id, ps) :: fs).length = n := by simp only [List.length_cons]; omega
  have hb : below ((id, p :: ps) :: fs) = below ((id, ps) :: fs) := below_rest _ _ _ _
  rw [hb] at h
  conv => rhs; rw [resume]
  rw [hn2, below_cons p d.parents ((id, ps) :: fs)]
  rw [resume, hn, hb]
  simp only [foldE, if_neg h]
  rw [fromR, if_neg ho, hf]
  simp only [hd]
  rw [if_neg (by decide)]
  cases foldE (fun q o => if q ∈ below ((id, ps) :: fs) ++ [p] then .error 210 else fromR N n q o (below ((id, ps) :: fs) ++ [p])) d.parents order with
  | error e => rfl
  | ok o =>
    simp only []
    conv => rhs; rw [resume]
    rw [hn]
/-- A head. -/
theorem fromR_seen (N : List NodeM) (F : Nat) (id : Nat) (order : List Nat) (h : id ∈ order) : fromR N (F + 1) id order [] = .ok order := by rw [fromR, if_pos h]
theorem fromR_none (N : List NodeM) (F : Nat) (id : Nat) (order : List Nat) (h : id ∉ order) (hf : findN N id = none) : fromR N (F + 1) id order [] = .error 4 := by rw [fromR, if_neg h, hf]
theorem fromR_other (N : List NodeM) (F : Nat) (id : Nat) (order : List Nat) (h : id ∉ order) {d : NodeM} (hf : findN N id = some d) (hd : d.other = true) : fromR N (F + 1) id order [] = .error 170 := by
  rw [fromR, if_neg h, hf]
  simp only [if_pos hd]
theorem fromR_push (N : List NodeM) (F : Nat) (id : Nat) (order : List Nat) (h : id ∉ order) {d : NodeM} (hf : findN N id = some d) (hd : d.other = false) : fromR N (F + 1) id order [] = resume N F [(id, d.parents)] order := by
  rw [fromR, if_neg h, hf]
  simp only [hd]
  rw [if_neg (by decide)]
  simp only [resume, below, List.map_cons, List.map_nil, List.reverse_singleton, List.nil_append, List.length_nil, Nat.sub_zero]

/-- Sound: its ancestors are all there, are commits, and have no ring. -/
inductive Fine (N : List NodeM) : Nat → Prop
  | mk {x : Nat} {d : NodeM} (hf : findN N x = some d) (hd : d.other = false) (hp : ∀ p ∈ d.parents, Fine N p) : Fine N x
def Par (N : List NodeM) (x p : Nat) : Prop := ∃ d, findN N x = some d ∧ d.other = false ∧ p ∈ d.parents
/-- An ancestor, itself among them. -/
inductive Anc (N : List NodeM) : Nat → Nat → Prop
  | refl (x : Nat) : Anc N x x
  | step {x p y : Nat} (h : Par N x p) (k : Anc N p y) : Anc N x y
theorem Anc.trans {N : List NodeM} {x y z : Nat} (h : Anc N x y) (k : Anc N y z) : Anc N x z := by
  induction h with
  | refl => exact k
  | step h _ ih => exact .step h (ih k)
theorem Fine.par {N : List NodeM} {x p : Nat} (h : Fine N x) (k : Par N x p) : Fine N p := by
  cases h with
  | mk hf hd hp =>
    obtain ⟨d', hf', -, hp'⟩ := k
    rw [hf] at hf'
    cases hf'
    exact hp p hp'
theorem Fine.anc {N : List NodeM} {x y : Nat} (h : Fine N x) (k : Anc N x y) : Fine N y := by
  induction k with
  | refl => exact h
  | step hp _ ih => exact ih (h.par hp)
/-- No ring leads through what is sound. -/
theorem Fine.acyclic {N : List NodeM} {x : Nat} (h : Fine N x) : ∀ p, Par N x p → ¬ Anc N p x := by
  induction h with
  | mk hf hd hp ih =>
    intro p hpar hanc
    obtain ⟨d', hf', -, hp'⟩ := id hpar
    rw [hf] at hf'
    cases hf'
    cases hanc with
    | refl => exact ih _ hp' _ hpar (.refl _)
    | @step _ q _ h1 k1 => exact ih _ hp' q h1 (k1.trans (.step hpar (.refl _)))

/-- Each commit once, behind its parents. -/
inductive Topo (N : List NodeM) : List Nat → Prop
  | nil : Topo N []
  | snoc {o : List Nat} {x : Nat} {d : NodeM} (h : Topo N o) (hx : x ∉ o) (hf : findN N x = some d) (hd : d.other = false) (hp : ∀ p ∈ d.parents, p ∈ o) : Topo N (o ++ [x])
theorem Topo.fine {N : List NodeM} {o : List Nat} (h : Topo N o) : ∀ x ∈ o, Fine N x := by
  induction h with
  | nil => intro x hx; simp at hx
  | snoc h hx hf hd hp ih =>
    intro y hy
    rcases List.mem_append.1 hy with hy | hy
    · exact ih y hy
    · rw [List.mem_singleton.1 hy]
      exact .mk hf hd (fun p hpp => ih p (hp p hpp))
theorem Topo.closed {N : List NodeM} {o : List Nat} (h : Topo N o) : ∀ x ∈ o, ∀ p, Par N x p → p ∈ o := by
  induction h with
  | nil => intro x hx; simp at hx
  | snoc h hx hf hd hp ih =>
    intro y hy p hpp
    rcases List.mem_append.1 hy with hy | hy
    · exact List.mem_append_left _ (ih y hy p hpp)
    · rw [List.mem_singleton.1 hy] at hpp
      obtain ⟨d', hf', -, hp'⟩ := hpp
      rw [hf] at hf'
      cases hf'
      exact List.mem_append_left _ (hp p hp')
theorem Topo.anc {N : List NodeM} {o : List Nat} (h : Topo N o) {x y : Nat} (hx : x ∈ o) (k : Anc N x y) : y ∈ o := by
  induction k with
  | refl => exact hx
  | step hp _ ih => exact ih (h.closed _ hx _ hp)
theorem Topo.nodup {N : List NodeM} {o : List Nat} (h : Topo N o) : o.Nodup := by
  induction h with
  | nil => exact List.nodup_nil
  | snoc h hx hf hd hp ih => exact List.nodup_append.2 ⟨ih, by simp, fun a ha b hb e => by rw [List.mem_singleton.1 hb] at e; exact hx (e ▸ ha)⟩

/-- What a going through brings. -/
structure Went (N : List NodeM) (starts : Nat → Prop) (on order o : List Nat) : Prop where
  topo : Topo N o
  pre : order <+: o
  from_ : ∀ y ∈ o, y ∈ order ∨ ∃ s, starts s ∧ Anc N s y
  off : ∀ y ∈ on, y ∉ order → y ∉ o
theorem foldE_went {N : List NodeM} {on : List Nat} {f : Nat → List Nat → Except Int (List Nat)} (ps : List Nat) (hf : ∀ p ∈ ps, ∀ o o', Topo N o → f p o = .ok o' → Went N (· = p) on o o' ∧ p ∈ o') : ∀ order o, Topo N order → foldE f ps order = .ok o → Went N (· ∈ ps) on order o ∧ ∀ p ∈ ps, p ∈ o := by
  induction ps with
  | nil =>
    intro order o ht h
    cases h
    exact ⟨⟨ht, List.prefix_refl _, fun y hy => .inl hy, fun y _ hy => hy⟩, fun p hp => by simp at hp⟩
  | cons p ps ih =>
    intro order o ht h
    simp only [foldE] at h
    cases hfo : f p order with
    | error e => rw [hfo] at h; cases h
    | ok o1 =>
      rw [hfo] at h
      obtain ⟨w1, hp1⟩ := hf p List.mem_cons_self order o1 ht hfo
      obtain ⟨w2, hp2⟩ := ih (fun q hq => hf q (List.mem_cons_of_mem _ hq)) o1 o w1.topo h
      refine ⟨⟨w2.topo, w1.pre.trans w2.pre, fun y hy => ?_, fun y hy hn => w2.off y hy (w1.off y hy hn)⟩, fun q hq => ?_⟩
      · rcases w2.from_ y hy with hy | ⟨s, hs, ha⟩
        · rcases w1.from_ y hy with hy | ⟨s, hs, ha⟩
          · exact .inl hy
          · exact .inr ⟨s, by rw [hs]; exact List.mem_cons_self, ha⟩
        · exact .inr ⟨s, List.mem_cons_of_mem _ hs, ha⟩
      · rcases List.mem_cons.1 hq with rfl | hq
        · exact w2.pre.subset hp1
        · exact hp2 q hq
theorem fromR_went {N : List NodeM} (n : Nat) : ∀ (id : Nat) (order on o : List Nat), Topo N order → id ∉ on → fromR N n id order on = .ok o → Went N (· = id) on order o ∧ id ∈ o := by
  induction n with
  | zero => intro id order on o _ _ h; cases h
  | succ n ih =>
    intro id order on o ht hon h
    rw [fromR] at h
    by_cases hi : id ∈ order
    · rw [if_pos hi] at h
      cases h
      exact ⟨⟨ht, List.prefix_refl _, fun y hy => .inl hy, fun y _ hy => hy⟩, hi⟩
    · rw [if_neg hi] at h
      cases hf : findN N id with
      | none => rw [hf] at h; cases h
      | some d =>
        rw [hf] at h
        simp only at h
        cases hd : d.other with
        | true => rw [if_pos hd] at h; cases h
        | false =>
          rw [if_neg (by rw [hd]; decide)] at h
          cases hfo : foldE (fun p o => if p ∈ on ++ [id] then .error 210 else fromR N n p o (on ++ [id])) d.parents order with
          | error e => rw [hfo] at h; cases h
          | ok o1 =>
            rw [hfo] at h
            cases h
            obtain ⟨w, hps⟩ := foldE_went (N := N) (on := on ++ [id]) d.parents (fun p hp o o' ht' h' => by
              by_cases hb : p ∈ on ++ [id]
              · rw [if_pos hb] at h'; cases h'
              · rw [if_neg hb] at h'
                exact ih p o (on ++ [id]) o' ht' hb h') order o1 ht hfo
            have hno : id ∉ o1 := w.off id (List.mem_append_right _ (by simp)) hi
            refine ⟨⟨.snoc w.topo hno hf hd hps, w.pre.trans (List.prefix_append _ _), fun y hy => ?_, fun y hy hn hm => ?_⟩, List.mem_append_right _ (by simp)⟩
            · rcases List.mem_append.1 hy with hy | hy
              · rcases w.from_ y hy with hy | ⟨s, hs, ha⟩
                · exact .inl hy
                · exact .inr ⟨id, rfl, .step ⟨d, hf, hd, hs⟩ ha⟩
              · rw [List.mem_singleton.1 hy]; exact .inr ⟨id, rfl, .refl _⟩
            · rcases List.mem_append.1 hm with hm | hm
              · exact w.off y (List.mem_append_left _ hy) hn hm
              · rw [List.mem_singleton.1 hm] at hy; exact hon hy
theorem foldE_fine {N : List NodeM} {f : Nat → List Nat → Except Int (List Nat)} (ps : List Nat) (hf : ∀ p ∈ ps, ∀ o, Topo N o → ∃ o', f p o = .ok o' ∧ Topo N o') : ∀ order, Topo N order → ∃ o, foldE f ps order = .ok o := by
  induction ps with
  | nil => intro order _; exact ⟨order, rfl⟩
  | cons p ps ih =>
    intro order ht
    obtain ⟨o1, h1, t1⟩ := hf p List.mem_cons_self order ht
    obtain ⟨o, h2⟩ := ih (fun q hq => hf q (List.mem_cons_of_mem _ hq)) o1 t1
    exact ⟨o, by simp only [foldE, h1, h2]⟩
theorem findN_some {N : List NodeM} {x : Nat} {d : NodeM} (h : findN N x = some d) : d ∈ N ∧ d.id = x := ⟨List.mem_of_find?_eq_some h, by simpa using List.find?_some h⟩
theorem on_short {N : List NodeM} {on : List Nat} (hn : on.Nodup) (h : ∀ y ∈ on, ∃ d, findN N y = some d) : on.length ≤ N.length := by
  have hs : on ⊆ N.map NodeM.id := fun y hy => by
    obtain ⟨d, hd⟩ := h y hy
    obtain ⟨h1, h2⟩ := findN_some hd
    exact List.mem_map.2 ⟨d, h1, h2⟩
  have := List.Nodup.length_le_of_subset hn hs
  simpa using this
/-- What is sound is gone through. -/
theorem fromR_fine {N : List NodeM} {id : Nat} (h : Fine N id) : ∀ (n : Nat) (order on : List Nat), Topo N order → on.Nodup → (∀ y ∈ on, ∃ p, Par N y p ∧ Anc N p id) → N.length + 1 ≤ on.length + n → ∃ o, fromR N n id order on = .ok o := by
  induction h with
  | @mk id d hf hd hp ih =>
    intro n order on ht hn hon hl
    have hfin : Fine N id := .mk hf hd hp
    have hid : id ∉ on := fun hm => by
      obtain ⟨p, h1, h2⟩ := hon id hm
      exact hfin.acyclic p h1 h2
    have hn2 : (on ++ [id]).Nodup := List.nodup_append.2 ⟨hn, by simp, fun a ha b hb e => by rw [List.mem_singleton.1 hb] at e; exact hid (e ▸ ha)⟩
    have hl2 := on_short (N := N) hn2 (fun y hy => by
      rcases List.mem_append.1 hy with hy | hy
      · obtain ⟨p, ⟨d', h1, -⟩, -⟩ := hon y hy; exact ⟨d', h1⟩
      · rw [List.mem_singleton.1 hy]; exact ⟨d, hf⟩)
    rw [List.length_append, List.length_singleton] at hl2
    obtain ⟨m, rfl⟩ : ∃ m, n = m + 1 := ⟨n - 1, by omega⟩
    rw [fromR]
    by_cases hi : id ∈ order
    · rw [if_pos hi]; exact ⟨_, rfl⟩
    · rw [if_neg hi, hf]
      simp only
      rw [if_neg (by rw [hd]; decide)]
      obtain ⟨o, ho⟩ := foldE_fine (N := N) (f := fun p o => if p ∈ on ++ [id] then .error 210 else fromR N m p o (on ++ [id])) d.parents (fun p hpp o ht' => by
        have hb : p ∉ on ++ [id] := fun hm => by
          have hpf := hp p hpp
          rcases List.mem_append.1 hm with hm | hm
          · obtain ⟨q, h1, h2⟩ := hon p hm
            exact hpf.acyclic q h1 (h2.trans (.step ⟨d, hf, hd, hpp⟩ (.refl _)))
          · rw [List.mem_singleton.1 hm] at hpp
            exact hfin.acyclic id ⟨d, hf, hd, hpp⟩ (.refl _)
        obtain ⟨o', h'⟩ := ih p hpp m o (on ++ [id]) ht' hn2 (fun y hy => by
          rcases List.mem_append.1 hy with hy | hy
          · obtain ⟨q, h1, h2⟩ := hon y hy
            exact ⟨q, h1, h2.trans (.step ⟨d, hf, hd, hpp⟩ (.refl _))⟩
          · rw [List.mem_singleton.1 hy]; exact ⟨p, ⟨d, hf, hd, hpp⟩, .refl _⟩) (by rw [List.length_append, List.length_singleton]; omega)
        refine ⟨o', by simp only [if_neg hb]; exact h', (fromR_went m p o (on ++ [id]) o' ht' hb h').1.topo⟩) order ht
      rw [ho]
      exact ⟨_, rfl⟩

/-- The order of heads: what it is, and when there is one. -/
theorem orderR_ok {N : List NodeM} {F : Nat} {hs o : List Nat} (h : orderR N F hs = .ok o) : Topo N o ∧ ∀ y, y ∈ o ↔ ∃ s ∈ hs, Anc N s y := by
  obtain ⟨w, hp⟩ := foldE_went (N := N) (on := []) hs (fun p _ o o' ht h' => fromR_went _ p o [] o' ht (by simp) h') [] o .nil h
  refine ⟨w.topo, fun y => ⟨fun hy => ?_, fun ⟨s, hs', ha⟩ => w.topo.anc (hp s hs') ha⟩⟩
  rcases w.from_ y hy with hy | ⟨s, hs', ha⟩
  · simp at hy
  · exact ⟨s, hs', ha⟩
theorem orderR_iff {N : List NodeM} {F : Nat} (hF : N.length ≤ F) {hs : List Nat} : (∃ o, orderR N F hs = .ok o) ↔ ∀ s ∈ hs, Fine N s := by
  constructor
  · rintro ⟨o, h⟩ s hs'
    obtain ⟨ht, hm⟩ := orderR_ok h
    exact ht.fine s ((hm s).2 ⟨s, hs', .refl _⟩)
  · intro h
    exact foldE_fine (N := N) hs (fun p hp o ht => by
      obtain ⟨o', h'⟩ := fromR_fine (h p hp) (F + 1) o [] ht List.nodup_nil (by simp) (by simp; omega)
      exact ⟨o', h', (fromR_went _ p o [] o' ht (by simp) h').1.topo⟩) [] .nil

/-- Two lists of commits that tell the same of all but one that nothing leads to. -/
theorem foldE_congr {f g : Nat → List Nat → Except Int (List Nat)} (ps : List Nat) (h : ∀ p ∈ ps, ∀ o, f p o = g p o) : ∀ o, foldE f ps o = foldE g ps o := by
  induction ps with
  | nil => intro o; rfl
  | cons p ps ih =>
    intro o
    simp only [foldE, h p List.mem_cons_self]
    cases g p o with
    | error e => rfl
    | ok o' => exact ih (fun q hq => h q (List.mem_cons_of_mem _ hq)) o'
theorem fromR_congr {N N' : List NodeM} {z : Nat} (h : ∀ x, x ≠ z → findN N x = findN N' x) (hz : ∀ x d, findN N x = some d → z ∉ d.parents) (n : Nat) : ∀ id order on, id ≠ z → fromR N n id order on = fromR N' n id order on := by
  induction n with
  | zero => intro id order on _; rfl
  | succ n ih =>
    intro id order on hid
    rw [fromR, fromR, ← h id hid]
    cases hf : findN N id with
    | none => rfl
    | some d =>
      simp only
      rw [foldE_congr (g := fun p o => if p ∈ on ++ [id] then .error 210 else fromR N' n p o (on ++ [id])) d.parents (fun p hp o => by
        rw [ih p o (on ++ [id]) (fun e => hz id d hf (e ▸ hp))])]
theorem orderR_congr {N N' : List NodeM} {z : Nat} (h : ∀ x, x ≠ z → findN N x = findN N' x) (hz : ∀ x d, findN N x = some d → z ∉ d.parents) (F : Nat) (hs : List Nat) (hh : z ∉ hs) : orderR N F hs = orderR N' F hs :=
  foldE_congr hs (fun p hp o => fromR_congr h hz (F + 1) p o [] (fun e => hh (e ▸ hp))) []
end Go.Proofs.YtikacgiccllolaaGreat
