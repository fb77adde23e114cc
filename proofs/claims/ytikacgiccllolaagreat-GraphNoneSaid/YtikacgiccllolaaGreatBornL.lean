/- espalierlaw11: born, as plain lists; what the reference and the program see of it. -/
import Derived.Test.YtikacgiccllolaaGreatPutA
import Derived.Test.YtikacgiccllolaaGreatWalkA
import Derived.Test.YtikacgiccllolaaGreatGraphD
namespace Go.Proofs.YtikacgiccllolaaGreat

structure BornM where
  back : List Int
  date : Int
  blob : Bool
  lost : Bool
  bare : Bool
structure HSt where
  os : List OM
  ids : List Nat
  nd : List NodeM
  bare : List Bool
def zId : Nat := 632773372940024569
theorem empty_id : OM.empty.id = zId := by decide +kernel
def pickI (ids : List Nat) (n : Int) : Nat := ids.getD (ids.length - 1 - (max n 0).toNat % ids.length) 0
def psOf (ids : List Nat) (b : BornM) : List Nat := (if ids = [] then [] else (b.back.take 7).map (pickI ids)) ++ if b.lost then [54321] else []
def objOf (ids : List Nat) (b : BornM) : OM := if b.blob then .blob [UInt8.ofNat (b.date % 256).toNat] else .com (if b.bare then 12345 else zId) (psOf ids b) b.date
def bornStep (st : HSt) (b : BornM) : Option HSt :=
  if (putO st.os (objOf st.ids b)).2.1 = 7 ∨ (putO st.os (objOf st.ids b)).1 = 12345 ∨ (putO st.os (objOf st.ids b)).1 = 54321 then none
  else some ⟨(putO st.os (objOf st.ids b)).2.2, st.ids ++ [(putO st.os (objOf st.ids b)).1], if (findN st.nd (putO st.os (objOf st.ids b)).1).isNone then st.nd ++ [⟨(putO st.os (objOf st.ids b)).1, psOf st.ids b, b.blob⟩] else st.nd, st.bare ++ [b.bare && !b.blob]⟩
def bornsF : HSt → List BornM → Option HSt
  | st, [] => some st
  | st, b :: l => match bornStep st b with | some st' => bornsF st' l | none => none
def st0 : HSt := ⟨[.empty], [], [], []⟩
def bornF (l : List BornM) : Option HSt := bornsF st0 (l.take 24)
def BornM.Fit (b : BornM) : Prop := -9223372036854775808 ≤ b.date ∧ b.date < 9223372036854775808 ∧ ∀ n ∈ b.back, -9223372036854775808 ≤ n ∧ n < 9223372036854775808

def normD (d : NodeM) : NodeM := if d.other then ⟨d.id, [], true⟩ else d
theorem normD_id (d : NodeM) : (normD d).id = d.id := by unfold normD; split <;> rfl
theorem normD_other (d : NodeM) : (normD d).other = d.other := by
  unfold normD
  split
  · rename_i h; exact h.symm
  · rfl
theorem findN_norm (N : List NodeM) (x : Nat) : findN (N.map normD) x = (findN N x).map normD := by
  unfold findN
  rw [List.find?_map]
  congr 2
  funext d
  simp only [Function.comp, normD_id]
theorem fromR_norm (N : List NodeM) (n : Nat) : ∀ id order on, fromR (N.map normD) n id order on = fromR N n id order on := by
  induction n with
  | zero => intro id order on; rfl
  | succ n ih =>
    intro id order on
    rw [fromR, fromR, findN_norm]
    cases hf : findN N id with
    | none => rfl
    | some d =>
      simp only [Option.map_some, normD_other]
      cases hd : d.other with
      | true => rfl
      | false =>
        have : normD d = d := by unfold normD; rw [hd]; rfl
        rw [this]
        simp only [ih]
theorem orderR_norm (N : List NodeM) (Fu : Nat) (hs : List Nat) : orderR (N.map normD) Fu hs = orderR N Fu hs :=
  foldE_congr hs (fun p _ o => fromR_norm N (Fu + 1) p o []) []

/-- What holds of a history. -/
structure HOk (st : HSt) : Prop where
  os : ∃ os', st.os = .empty :: os' ∧ st.nd.map normD = os'.map OM.node
  nz : ∀ d ∈ st.nd, d.id ≠ zId
  ids : ∀ x ∈ st.ids, (∃ d, findN st.nd x = some d) ∧ 1 ≤ x ∧ x < 18446744073709551616
  par : ∀ d ∈ st.nd, zId ∉ d.parents ∧ ∀ p ∈ d.parents, p < 18446744073709551616
  len : st.nd.length ≤ st.ids.length
  bare : st.bare.length = st.ids.length
theorem HOk.idz {st : HSt} (h : HOk st) {x : Nat} (hx : x ∈ st.ids) : x ≠ zId := by
  obtain ⟨⟨d, hd⟩, -⟩ := h.ids x hx
  obtain ⟨h1, h2⟩ := findN_some hd
  rw [← h2]
  exact h.nz d h1
theorem st0_ok : HOk st0 := ⟨⟨[], rfl, rfl⟩, by simp [st0], by simp [st0], by simp [st0], Nat.le_refl _, rfl⟩
theorem pickI_mem {ids : List Nat} (h : ids ≠ []) (n : Int) : pickI ids n ∈ ids := by
  unfold pickI
  have hl : 0 < ids.length := List.length_pos_iff.2 h
  rw [List.getD_eq_getElem?_getD, List.getElem?_eq_getElem (by omega), Option.getD_some]
  exact List.getElem_mem _
theorem psOf_mem {ids : List Nat} {b : BornM} {p : Nat} (h : p ∈ psOf ids b) : p ∈ ids ∨ p = 54321 := by
  unfold psOf at h
  rcases List.mem_append.1 h with h | h
  · split at h
    · simp at h
    · rename_i hne
      obtain ⟨n, -, rfl⟩ := List.mem_map.1 h
      exact .inl (pickI_mem hne n)
  · split at h
    · simp at h; exact .inr h
    · simp at h
theorem psOf_length (ids : List Nat) (b : BornM) : (psOf ids b).length ≤ 8 := by
  unfold psOf
  rw [List.length_append]
  have h1 : (if ids = [] then [] else (b.back.take 7).map (pickI ids)).length ≤ 7 := by
    split
    · simp
    · rw [List.length_map, List.length_take]; omega
  have h2 : (if b.lost then [54321] else ([] : List Nat)).length ≤ 1 := by split <;> simp
  omega
theorem HOk.ps {st : HSt} (h : HOk st) (b : BornM) : zId ∉ psOf st.ids b ∧ 0 ∉ psOf st.ids b ∧ ∀ p ∈ psOf st.ids b, p < 18446744073709551616 := by
  refine ⟨fun hm => ?_, fun hm => ?_, fun p hm => ?_⟩
  · rcases psOf_mem hm with h1 | h1
    · exact h.idz h1 rfl
    · revert h1; decide
  · rcases psOf_mem hm with h1 | h1
    · have := (h.ids _ h1).2.1; omega
    · omega
  · rcases psOf_mem hm with h1 | h1
    · exact (h.ids _ h1).2.2
    · omega
theorem objOf_ok {st : HSt} (h : HOk st) {b : BornM} (hb : b.Fit) : (objOf st.ids b).Ok := by
  unfold objOf
  split
  · show [_].length ≤ 4096
    simp
  · obtain ⟨-, h2, h3⟩ := h.ps b
    refine ⟨?_, ?_, psOf_length _ _, h2, h3, hb.1, hb.2.1⟩
    · split <;> decide
    · split <;> decide
theorem objOf_node (ids : List Nat) (b : BornM) : (objOf ids b).node = normD ⟨(objOf ids b).id, psOf ids b, b.blob⟩ := by
  unfold objOf
  cases b.blob <;> rfl
theorem objOf_enc (ids : List Nat) (b : BornM) : (objOf ids b).enc ≠ OM.empty.enc := by
  unfold objOf
  split
  · simp [OM.enc]
  · simp [OM.enc, encC]
theorem HOk.step {st st' : HSt} (h : HOk st) {b : BornM} (hb : bornStep st b = some st') : HOk st' := by
  unfold bornStep at hb
  split at hb
  · cases hb
  · rename_i hn
    cases hb
    obtain ⟨os', ho, hnd⟩ := h.os
    have hid : (objOf st.ids b).id < 18446744073709551616 := idB_lt _
    have hid1 : 1 ≤ (objOf st.ids b).id := idB_pos _
    have hnode : ∀ x, x ≠ zId → findN (st.nd.map normD) x = (findO st.os x).map OM.node := fun x hx => by
      rw [hnd, ← findN_nodes, ho]
      unfold findN nodesO
      rw [List.map_cons, List.find?_cons]
      have : decide (OM.empty.node.id = x) = false := by
        rw [OM.node_id, empty_id]
        simpa using fun e => hx e.symm
      rw [this]
    cases hf : findO st.os (objOf st.ids b).id with
    | some o' =>
      have hpo : putO st.os (objOf st.ids b) = if o'.enc = (objOf st.ids b).enc then ((objOf st.ids b).id, 0, st.os) else (0, 7, st.os) := by unfold putO; rw [hf]
      by_cases heq : o'.enc = (objOf st.ids b).enc
      · rw [if_pos heq] at hpo
        rw [hpo] at hn ⊢
        have hne : (objOf st.ids b).id ≠ zId := by
          intro e
          have h1 : findO st.os (objOf st.ids b).id = some .empty := by
            rw [ho, e]
            unfold findO
            rw [List.find?_cons, show decide (OM.empty.id = zId) = true from by rw [empty_id]; simp]
          rw [hf] at h1
          cases h1
          exact objOf_enc _ _ heq.symm
        have h1 := hnode _ hne
        rw [hf, findN_norm] at h1
        have h2 : ∃ d, findN st.nd (objOf st.ids b).id = some d := by
          cases hd : findN st.nd (objOf st.ids b).id with
          | none => rw [hd] at h1; cases h1
          | some d => exact ⟨d, rfl⟩
        obtain ⟨d, hd⟩ := h2
        simp only [hd, Option.isNone_some, Bool.false_eq_true, if_false]
        refine ⟨⟨os', ho, hnd⟩, h.nz, fun x hx => ?_, h.par, by simp only [List.length_append, List.length_singleton]; have := h.len; omega, by simp [h.bare]⟩
        rcases List.mem_append.1 hx with hx | hx
        · exact h.ids x hx
        · rw [List.mem_singleton.1 hx]; exact ⟨⟨d, hd⟩, hid1, hid⟩
      · rw [if_neg heq] at hpo
        rw [hpo] at hn
        exact absurd (Or.inl rfl) hn
    | none =>
      have hpo : putO st.os (objOf st.ids b) = ((objOf st.ids b).id, 0, st.os ++ [objOf st.ids b]) := by unfold putO; rw [hf]
      rw [hpo] at hn ⊢
      have hne : (objOf st.ids b).id ≠ zId := by
        intro e
        have h1 : findO st.os (objOf st.ids b).id = some .empty := by
          rw [ho, e]
          unfold findO
          rw [List.find?_cons, show decide (OM.empty.id = zId) = true from by rw [empty_id]; simp]
        rw [hf] at h1
        cases h1
      have h1 := hnode _ hne
      rw [hf, findN_norm] at h1
      have h2 : findN st.nd (objOf st.ids b).id = none := by
        cases hd : findN st.nd (objOf st.ids b).id with
        | none => rfl
        | some d => rw [hd] at h1; cases h1
      simp only [h2, Option.isNone_none, if_true]
      have hnew : findN (st.nd ++ [⟨(objOf st.ids b).id, psOf st.ids b, b.blob⟩]) (objOf st.ids b).id = some ⟨(objOf st.ids b).id, psOf st.ids b, b.blob⟩ := by
        unfold findN at h2 ⊢
        rw [List.find?_append, h2]
        simp
      have hold : ∀ x d, findN st.nd x = some d → findN (st.nd ++ [⟨(objOf st.ids b).id, psOf st.ids b, b.blob⟩]) x = some d := fun x d hd => by
        unfold findN at hd ⊢
        rw [List.find?_append, hd]
        rfl
      refine ⟨⟨os' ++ [objOf st.ids b], by rw [ho]; rfl, by rw [List.map_append, List.map_append, hnd, List.map_singleton, List.map_singleton, objOf_node]⟩, fun d hd => ?_, fun x hx => ?_, fun d hd => ?_, by simp only [List.length_append, List.length_singleton]; have := h.len; omega, by simp [h.bare]⟩
      · rcases List.mem_append.1 hd with hd | hd
        · exact h.nz d hd
        · rw [List.mem_singleton.1 hd]; exact hne
      · rcases List.mem_append.1 hx with hx | hx
        · obtain ⟨⟨d, hd⟩, h3⟩ := h.ids x hx
          exact ⟨⟨d, hold x d hd⟩, h3⟩
        · rw [List.mem_singleton.1 hx]; exact ⟨⟨_, hnew⟩, hid1, hid⟩
      · rcases List.mem_append.1 hd with hd | hd
        · exact h.par d hd
        · rw [List.mem_singleton.1 hd]
          obtain ⟨p1, -, p3⟩ := h.ps b
          exact ⟨p1, p3⟩
theorem HOk.step_len {st st' : HSt} {b : BornM} (hb : bornStep st b = some st') : st'.ids.length = st.ids.length + 1 := by
  unfold bornStep at hb
  split at hb
  · cases hb
  · cases hb; simp
/-- What the program sees, the reference sees. -/
theorem HOk.find {st : HSt} (h : HOk st) {x : Nat} (hx : x ≠ zId) : findN (nodesO st.os) x = (findN st.nd x).map normD := by
  obtain ⟨os', ho, hnd⟩ := h.os
  rw [← findN_norm, hnd, ho]
  unfold findN nodesO
  rw [List.map_cons, List.find?_cons]
  have : decide (OM.empty.node.id = x) = false := by
    rw [OM.node_id, empty_id]
    simpa using fun e => hx e.symm
  rw [this]
theorem HOk.order {st : HSt} (h : HOk st) (Fu : Nat) (hs : List Nat) (hh : zId ∉ hs) : orderR (nodesO st.os) Fu hs = orderR st.nd Fu hs := by
  rw [← orderR_norm st.nd]
  refine (orderR_congr (z := zId) (fun x hx => ?_) (fun x d hd hm => ?_) Fu hs hh).symm
  · rw [findN_norm, h.find hx]
  · rw [findN_norm] at hd
    cases hf : findN st.nd x with
    | none => rw [hf] at hd; cases hd
    | some d' =>
      rw [hf] at hd
      cases hd
      have := (h.par d' (findN_some hf).1).1
      unfold normD at hm
      split at hm
      · simp at hm
      · exact this hm
theorem HOk.oslen {st : HSt} (h : HOk st) : st.os.length = st.nd.length + 1 := by
  obtain ⟨os', ho, hnd⟩ := h.os
  have := congrArg List.length hnd
  rw [List.length_map, List.length_map] at this
  rw [ho, List.length_cons, this]
/-- The parents of what is in an order. -/
theorem HOk.parN {st : HSt} (h : HOk st) {o : List Nat} (ht : Topo st.nd o) {x : Nat} (hx : x ∈ o) : Proofs.YtikacgiccllolaaGreat.parN (nodesO st.os) x = Proofs.YtikacgiccllolaaGreat.parN st.nd x := by
  cases ht.fine x hx with
  | @mk _ d hf hd _ =>
    have hne : x ≠ zId := by rw [← (findN_some hf).2]; exact h.nz d (findN_some hf).1
    unfold Proofs.YtikacgiccllolaaGreat.parN
    rw [h.find hne, hf]
    simp [normD, hd]
theorem runF_par {f g : (Nat → Nat) → Nat → Nat} (l : List Nat) : (∀ x ∈ l, ∀ m, f m x = g m x) → ∀ m, runF f l m = runF g l m := by
  induction l with
  | nil => intro _ m; rfl
  | cons x l ih =>
    intro h m
    show runF f l (setF m x (f m x)) = runF g l (setF m x (g m x))
    rw [h x List.mem_cons_self, ih (fun y hy => h y (List.mem_cons_of_mem _ hy))]
theorem HOk.dep {st : HSt} (h : HOk st) {o : List Nat} (ht : Topo st.nd o) : depF (Proofs.YtikacgiccllolaaGreat.parN (nodesO st.os)) o = depF (Proofs.YtikacgiccllolaaGreat.parN st.nd) o :=
  runF_par o (fun x hx m => by unfold depS; rw [h.parN ht hx]) _
theorem HOk.way {st : HSt} (h : HOk st) {o : List Nat} (ht : Topo st.nd o) (t : Nat) : wayF (Proofs.YtikacgiccllolaaGreat.parN (nodesO st.os)) t o = wayF (Proofs.YtikacgiccllolaaGreat.parN st.nd) t o :=
  runF_par o (fun x hx m => by unfold wayS; rw [h.parN ht hx]) _

/-! ### The example -/
def wakeL : List BornM := [⟨[], 0, false, false, false⟩, ⟨[0], 0, false, false, false⟩, ⟨[1], 1, false, false, false⟩, ⟨[1, 0], 0, false, false, false⟩]
def wakeB : Bool :=
  match bornF wakeL with
  | none => false
  | some st =>
    st.ids.length == 4 &&
    (match orderR (nodesO st.os) st.os.length [st.ids.getD 3 0] with | .ok o => o == st.ids | .error _ => false) &&
    (match orderR (nodesO st.os) st.os.length [st.ids.getD 0 0, st.ids.getD 3 0] with | .ok _ => true | .error _ => false)
theorem wakeB_true : wakeB = true := by decide +kernel
theorem wake_st : ∃ st, bornF wakeL = some st ∧ st.ids.length = 4 ∧ orderR (nodesO st.os) st.os.length [st.ids.getD 3 0] = .ok st.ids ∧ ∃ o, orderR (nodesO st.os) st.os.length [st.ids.getD 0 0, st.ids.getD 3 0] = .ok o := by
  have h := wakeB_true
  unfold wakeB at h
  cases hb : bornF wakeL with
  | none => rw [hb] at h; cases h
  | some st =>
    rw [hb] at h
    simp only [Bool.and_eq_true, beq_iff_eq] at h
    obtain ⟨⟨h1, h2⟩, h3⟩ := h
    refine ⟨st, rfl, h1, ?_, ?_⟩
    · cases ho : orderR (nodesO st.os) st.os.length [st.ids.getD 3 0] with
      | error e => rw [ho] at h2; cases h2
      | ok o => rw [ho] at h2; simp at h2; rw [h2]
    · cases ho : orderR (nodesO st.os) st.os.length [st.ids.getD 0 0, st.ids.getD 3 0] with
      | error e => rw [ho] at h3; cases h3
      | ok o => exact ⟨o, rfl⟩
end Go.Proofs.YtikacgiccllolaaGreat
