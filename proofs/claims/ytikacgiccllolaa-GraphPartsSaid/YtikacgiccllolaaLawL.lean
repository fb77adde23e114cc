/- graph: the laws of orders, in plain Lean. -/
import Derived.Test.YtikacgiccllolaaUni
namespace Go.Proofs.Ytikacgiccllolaa
open Go.RowKit Go.ChangeMaps Go.MapKept

theorem topo_ahead {N : List NodeM} {o : List Nat} (h : Topo N o) : ∀ i (hi : i < o.length), ∀ p ∈ parN N o[i], ∃ j, ∃ hj : j < o.length, j < i ∧ o[j] = p := by
  induction h with
  | nil => intro i hi; simp at hi
  | @snoc o x d ht hx hf hd hp ih =>
    intro i hi p hpp
    rcases Nat.lt_or_ge i o.length with hlt | hge
    · rw [List.getElem_append_left hlt] at hpp
      obtain ⟨j, hj, h1, h2⟩ := ih i hlt p hpp
      exact ⟨j, by simp; omega, h1, by rw [List.getElem_append_left hj]; exact h2⟩
    · have hi' : i = o.length := by simp at hi; omega
      subst hi'
      rw [List.getElem_append_right (Nat.le_refl _)] at hpp
      simp only [Nat.sub_self, List.getElem_singleton] at hpp
      unfold parN at hpp
      rw [hf] at hpp
      obtain ⟨j, hj, e⟩ := List.getElem_of_mem (hp p hpp)
      exact ⟨j, by simp; omega, hj, by rw [List.getElem_append_left hj]; exact e⟩
theorem FirstAt.self {l : List Nat} (hd : l.Nodup) {i : Nat} (hi : i < l.length) {r : Int} (h : FirstAt l (fun y => y = l[i]) r) : r = (i : Int) := by
  rcases h with ⟨-, h⟩ | ⟨k, hk, rfl, h1, h2⟩
  · exact absurd rfl (h _ (List.getElem_mem hi))
  · have : k = i := (List.getElem_inj hd).1 h1
    rw [this]
theorem FirstAt.ahead {l : List Nat} {p i : Nat} {r : Int} (h : FirstAt l (fun y => y = p) r) (hj : ∃ j, ∃ hj : j < l.length, j < i ∧ l[j] = p) : 0 ≤ r ∧ r < (i : Int) := by
  obtain ⟨j, hj, hji, e⟩ := hj
  rcases h with ⟨-, h⟩ | ⟨k, hk, rfl, h1, h2⟩
  · exact absurd e (h _ (List.getElem_mem hj))
  · refine ⟨by omega, ?_⟩
    rcases Nat.lt_or_ge j k with hlt | hge
    · exact absurd e (h2 j hj hlt)
    · omega
theorem FirstAt.mem {l : List Nat} {p : Nat} {r : Int} (h : FirstAt l (fun y => y = p) r) : decide (0 ≤ r) = decide (p ∈ l) := by
  rcases h with ⟨rfl, h⟩ | ⟨k, hk, rfl, h1, h2⟩
  · simp; intro hm; exact h p hm rfl
  · have : p ∈ l := by rw [← h1]; exact List.getElem_mem hk
    simp [this]
theorem orderR_one {N : List NodeM} {Fu : Nat} (hF : N.length ≤ Fu) {o : List Nat} (h : Topo N o) {x : Nat} (hx : x ∈ o) : ∃ ox, orderR N Fu [x] = .ok ox ∧ depF (parN N) ox x = depF (parN N) o x := by
  obtain ⟨ox, hox⟩ := (orderR_iff hF (hs := [x])).2 (fun s hs => by rw [List.mem_singleton.1 hs]; exact h.fine x hx)
  obtain ⟨ht, hm⟩ := orderR_ok hox
  exact ⟨ox, hox, runF_same (depS_looks _) ht h x ((hm x).2 ⟨x, by simp, .refl _⟩) hx⟩
theorem Anc.anti {N : List NodeM} {x y : Nat} (hf : Fine N x) (h : Anc N x y) (k : Anc N y x) : x = y := by
  cases h with
  | refl => rfl
  | step hp ha => exact absurd (ha.trans k) (hf.acyclic _ hp)
theorem orderR_pair {N : List NodeM} {Fu : Nat} (hF : N.length ≤ Fu) {p q : Nat} (hp : Fine N p) (hq : Fine N q) : codeE (orderR N Fu [p, q]) = 0 ∧ (yesE (orderR N Fu [p, q]) (orderR N Fu [q]) p = true ↔ Anc N q p) ∧ (0 < wayE N (orderR N Fu [p, q]) (orderR N Fu [q]) p q ↔ Anc N q p) := by
  obtain ⟨o1, h1⟩ := (orderR_iff hF (hs := [p, q])).2 (fun s hs => by simp at hs; rcases hs with rfl | rfl <;> assumption)
  obtain ⟨o2, h2⟩ := (orderR_iff hF (hs := [q])).2 (fun s hs => by rw [List.mem_singleton.1 hs]; exact hq)
  obtain ⟨ht, hm⟩ := orderR_ok h2
  rw [h1, h2]
  refine ⟨rfl, ?_, ?_⟩
  · show decide (p ∈ o2) = true ↔ _
    rw [decide_eq_true_iff, hm p]
    exact ⟨fun ⟨s, hs, ha⟩ => by rw [List.mem_singleton.1 hs] at ha; exact ha, fun ha => ⟨q, by simp, ha⟩⟩
  · show 0 < wayF (parN N) p o2 q ↔ _
    exact wayF_pos p ht q ((hm q).2 ⟨q, by simp, .refl _⟩)
/-- What the store tells of a commit that stands in an order. -/
theorem comR_topo {os : List OM} {o : List Nat} (h : Topo (nodesO os) o) {x : Nat} (hx : x ∈ o) : ∃ t d, comR os x = (t, parN (nodesO os) x, d, 0) := by
  have hp := comR_parN h hx
  cases h.fine x hx with
  | @mk _ d hf hd _ =>
    rcases comR_nodes os x with ⟨h1, -⟩ | ⟨d', h1, h2, -⟩ | ⟨d', h1, -, h3, h2⟩
    · rw [hf] at h1; cases h1
    · rw [hf] at h1; cases h1; rw [hd] at h2; cases h2
    · exact ⟨(comR os x).1, (comR os x).2.2.1, by rw [← hp, ← h3]⟩
end Go.Proofs.Ytikacgiccllolaa
