/- espalierlaw17: wakes, some. -/
import Derived.Test.YtinmjgaaehdicaaRunF
namespace Go.Proofs.Ytinmjgaaehdicaa
open Go.RowKit

theorem make_wakes : Hid (makeOf [(7, 0), (3, 9)] = (bytesOf [(3, 9), (7, 0)], 0)) := Lib.hid (by
  obtain ⟨h1, h2⟩ := sorted_eq (l := [(7, 0), (3, 9)]) (l' := [(3, 9), (7, 0)]) (List.Perm.swap _ _ _) (by simp)
  unfold makeOf
  rw [if_neg (by simp), if_neg (by simp), if_neg (by simp), ← h2])
theorem rising_wakes : Rising 0 [(3, 9), (7, 0)] := ⟨by omega, by omega, by omega, by omega, by omega, by omega, trivial⟩
theorem check_wakes : checkOf (bytesOf [(3, 9), (7, 0)]) = (2, 0) := by
  unfold checkOf
  rw [pairsOf_bytesOf _ rising_wakes (by simp)]
  rfl
theorem find_wakes : findOf (bytesOf [(3, 9), (7, 0)]) 3 = (9, 0) := by
  unfold findOf
  rw [pairsOf_bytesOf _ rising_wakes (by simp)]
  rfl
theorem length_wakes : (bytesOf [(3, 9), (7, 0)]).length ≤ 1000 := by rw [bytesOf_length _ (by simp)]; simp

set_option maxRecDepth 100000 in
theorem wakes_any (w : World) : Calls Try.prog 29 #[] w fun e w' => e = .returned (.bool true) ∧ Kept (fun _ => False) w w' := by
  have hM : Hid (∀ W, OwnP w.heap.size W (.slice (some ⟨w.heap.size, 0, none⟩) 2 2) [(7, 0), (3, 9)] → Calls Try.prog 30 #[.slice (some ⟨w.heap.size, 0, none⟩) 2 2] W fun e w' => ∃ v, e = .returned (.tuple #[v, .int .i64 0]) ∧ FreshB W v (bytesOf [(3, 9), (7, 0)]) w') := Lib.hid fun W hW => by
    have := make_any W w.heap.size (some ⟨w.heap.size, 0, none⟩) 2 [(7, 0), (3, 9)] hW (by simp) (by simp)
    rwa [make_wakes.out] at this
  have hC : Hid (∀ W a n c, IsB W (.slice a n c) (bytesOf [(3, 9), (7, 0)]) → Calls Try.prog 32 #[.slice a n c] W fun e w' => e = .returned (.tuple #[.int .i64 2, .int .i64 0]) ∧ Kept (fun _ => False) W w') := Lib.hid fun W a n c hB => by
    obtain rfl : n = (bytesOf [(3, 9), (7, 0)]).length := by obtain ⟨_, _, e, _⟩ := hB; cases e; rfl
    have := check_any W a c _ hB (by have := length_wakes; omega)
    rwa [check_wakes] at this
  have hFi : Hid (∀ W a n c, IsB W (.slice a n c) (bytesOf [(3, 9), (7, 0)]) → Calls Try.prog 39 #[.slice a n c, .int .u64 3] W fun e w' => e = .returned (.tuple #[.int .u64 9, .int .i64 0]) ∧ Kept (fun _ => False) W w') := Lib.hid fun W a n c hB => by
    obtain rfl : n = (bytesOf [(3, 9), (7, 0)]).length := by obtain ⟨_, _, e, _⟩ := hB; cases e; rfl
    have := find_any W a c _ 3 hB (by have := length_wakes; omega)
    rwa [find_wakes] at this
  generalize bytesOf [(3, 9), (7, 0)] = B at *
  obtain ⟨W1, hW1⟩ : ∃ W1, w.alloc (.cells #[.int .u64 7, .int .u64 0, .int .u64 3, .int .u64 9] 75) = W1 := ⟨_, rfl⟩
  have hk1 : Kept (fun _ => False) w W1 := by rw [← hW1]; exact (Kept.refl _ _).alloc _
  have hown : OwnP w.heap.size W1 (.slice (some ⟨w.heap.size, 0, none⟩) 2 2) [(7, 0), (3, 9)] :=
    ⟨by simp [flatP, encP], .inr ⟨w.heap.size, 2, #[.int .u64 7, .int .u64 0, .int .u64 3, .int .u64 9], rfl, Nat.le_refl _, by rw [← hW1]; exact World.alloc_heap_new _ _, by simp, by simp [maxLen], rfl, rfl⟩⟩
  have HO := Lib.hid hown
  clear hown
  go_enter Try.func29, Try.ntmps29
  go_wp2_with fail
  refine (hM.out W1 HO.out).mono ?_
  rintro e w2 ⟨v, rfl, hf⟩
  obtain ⟨va, vc, rfl, -, -⟩ := hf.own.form
  have hB := hf.own.isB
  go_wp2_with fail
  refine (hFi.out w2 va B.length vc hB).mono ?_
  rintro e w3 ⟨rfl, hk3⟩
  go_wp2_with fail
  refine (hC.out w3 va B.length vc (hB.keptF hk3 (fun _ _ f => f))).mono ?_
  rintro e w4 ⟨rfl, hk4⟩
  go_wp2
  go_ret
  exact ⟨rfl, ((hk1.more hf.kept (fun _ f => f.elim)).more hk3 (fun _ f => f.elim)).more hk4 (fun _ f => f.elim)⟩

set_option maxRecDepth 100000 in
theorem some_any (w : World) (a : Option Addr) (n c : Nat) (k : Nat) (hn : n ≤ c) (hk : k ≤ 1000) : Calls Try.prog 31 #[.slice a n c, .int .i64 k] w fun e w' => e = .returned (.slice a (min n k) c) ∧ w' = w := by
  go_enter Try.func31, Try.ntmps31
  by_cases h : k < n
  · have hm : min n k = k := Nat.min_eq_right (by omega)
    go_wp2
    go_ret
    simp [hm]
  · have hm : min n k = n := Nat.min_eq_left (by omega)
    go_wp2
    go_ret
    simp [hm]

theorem IsP.take {w : World} {a : Option Addr} {c : Nat} {l : List (Nat × Nat)} (h : IsP w (.slice a l.length c) l) (k : Nat) : IsP w (.slice a (min l.length k) c) (l.take k) := by
  obtain ⟨a', c', he, h1, h2, h3, h4⟩ := h
  cases he
  refine ⟨a, c, by rw [List.length_take, Nat.min_comm], by rw [List.length_take]; omega, h2, fun p hp => h3 p (List.mem_of_mem_take hp), ?_⟩
  rcases h4 with rfl | ⟨g, o, rfl, hg, hc⟩
  · left; simp
  · right
    refine ⟨g, o, rfl, hg, fun i x hx => hc i x ?_⟩
    have e : flatP l = flatP (l.take k) ++ flatP (l.drop k) := by rw [← flatP_append, List.take_append_drop]
    rw [e, List.getElem?_append_left (List.getElem?_eq_some_iff.1 hx).1]
    exact hx
theorem IsP.kept {w w' : World} {v : Value} {l : List (Nat × Nat)} (h : IsP w v l) (hk : Kept (fun _ => False) w w') : IsP w' v l := by
  obtain ⟨a, c, rfl, h1, h2, h3, h4⟩ := h
  refine ⟨a, c, rfl, h1, h2, h3, ?_⟩
  rcases h4 with h4 | ⟨g, o, rfl, hg, hc⟩
  · exact .inl h4
  · exact .inr ⟨g, o, rfl, Nat.lt_of_lt_of_le hg hk.size, fun i x hx => hk.cell (hc i x hx) (fun f => f)⟩
/-- Pairs behind a row of our own. -/
theorem OwnP.app {b : Nat} {w : World} {v : Value} {l : List (Nat × Nat)} (h : OwnP b w v l) (hk0 : b ≤ w.heap.size) {a : Option Addr} {n c : Nat} {m : List (Nat × Nat)} (hm : IsP w (.slice a n c) m) (hl : l.length + m.length ≤ 1000000000000) :
    ∃ v' w', (Builtin.append_ #[54, 54] 54 #[v, .slice a n c]).run Try.prog w = .ok v' w' ∧ OwnP b w' v' (l ++ m) ∧ Kept (fun k => b ≤ k) w w' ∧ Kept (fun k => v.ownBlock = some k) w w' := by
  obtain ⟨i0, hi, hz0, hz1, hz2⟩ := info_parts Try.info75
  obtain ⟨a', c', he, h1, h2, h3, h4⟩ := hm
  cases he
  rcases h4 with rfl | ⟨g, o, rfl, hg, hc⟩
  · obtain ⟨va, vc, rfl, hv1, hv2⟩ := h.form
    exact ⟨_, w, run_append_none _ _ _ i0 Try.underlying54 hi va l.length vc hv1 a c w, by simpa using h, Kept.refl _ _, Kept.refl _ _⟩
  · obtain ⟨v', w', hrun, ho2, hg2, -, hb2⟩ := run_append_own_at (P := Try.prog) w b 54 54 75 i0 _ 2 16 Try.underlying54 hi hz0 hz1 hz2 rfl (by decide) _ _ _ h ⟨g, o, none⟩ m.length c (flatP m) (flatP_length m) (fun j u hu => by rw [addr_add]; exact hc j u hu) (by
      intro u hu
      simp only [flatP, List.mem_flatMap] at hu
      obtain ⟨p, -, hu⟩ := hu
      simp [encP] at hu; rcases hu with rfl | rfl <;> rfl) (by unfold maxLen; omega) (by omega) hk0
    refine ⟨v', w', hrun, ?_, Kept.grown (F := fun k => b ≤ k) (Kept.refl _ _) hg2 (fun k hk _ => (World.ownsRow.lt h k hk).1), Kept.grown (F := fun k => v.ownBlock = some k) (Kept.refl _ _) hg2 (fun k hk _ => hk)⟩
    unfold OwnP
    rw [flatP_append, List.length_append]
    exact ho2
theorem NewB.appAny {w0 w : World} {v : Value} {bs ys : List UInt8} (h : NewB w0 w v bs) (hk0 : w0.heap.size ≤ w.heap.size) {a : Option Addr} {n c : Nat} (hy : IsB w (.slice a n c) ys) (hl : bs.length + ys.length ≤ 140737488355328) :
    ∃ v' w', (Builtin.append_ #[22, 22] 22 #[v, .slice a n c]).run Try.prog w = .ok v' w' ∧ NewB w0 w' v' (bs ++ ys) ∧ Kept (fun k => w0.heap.size ≤ k) w w' ∧ Kept (fun k => v.ownBlock = some k) w w' := by
  by_cases hne : ys = []
  · subst hne
    obtain ⟨i0, hi, hz0, hz1, hz2⟩ := info_parts Try.info5
    obtain ⟨a', c', he, h1, h2, h3⟩ := hy
    cases he
    obtain ⟨va, vc, rfl, hv1, hv2⟩ := h.form
    exact ⟨_, w, run_append_none _ _ _ i0 Try.underlying22 hi va bs.length vc hv1 a c w, by simpa using h, Kept.refl _ _, Kept.refl _ _⟩
  · exact h.app hk0 hy hne hl
end Go.Proofs.Ytinmjgaaehdicaa
