/- slices.Collect and slices.SortedFunc at pairs. -/
import Derived.Test.YtinmjgaaehdicaaSeqA
import Derived.Test.YtinmjgaaehdicaaShelfP
import Derived.Shelf.SlSortCmp.WholeK
namespace Go.Proofs.Ytinmjgaaehdicaa
open Go.RowKit Go.Shelf

theorem collect_any (Bs n₀ : Nat) (sv : Value) (zs : List (Nat × Nat)) (hlen : zs.length ≤ 1000000) (w : World) (hBs : Bs < w.heap.size) (hn₀ : n₀ ≤ w.heap.size) (hc : w.cell? ⟨Bs, 0, none⟩ = some sv) (hI : PairsIn n₀ w sv zs) :
    Calls Try.prog 73 #[.func (.func 75) #[] #[.pointer (some ⟨Bs, 0, none⟩)]] w fun e w' => ∃ v, e = .returned v ∧ OwnP w.heap.size w' v zs ∧ Below n₀ w w' := by
  have hA : Calls Try.prog 92 #[.slice none 0 0, .func (.func 75) #[] #[.pointer (some ⟨Bs, 0, none⟩)]] w fun e w' => ∃ v, e = .returned v ∧ OwnP w.heap.size w' v zs ∧ Below n₀ w w' :=
    (callsIn_wide (n := 3)).1 (appendSeq_in _ 3 trivial rfl (by omega) 75 _ trivial (enters_of Try.func75 (by kernel_rfl) rfl) n₀ zs w hn₀ hlen (values_stops _ 2 trivial rfl (by omega) Bs n₀ sv zs (by omega) w hBs hn₀ hc hI))
  go_enter Try.func73, Try.ntmps73
  go_wp2_with fail
  refine hA.mono ?_
  rintro e w' ⟨v, rfl, h1, h2⟩
  go_wp2
  go_ret
  exact ⟨v, rfl, h1, h2⟩

def cmpP (x y : Nat × Nat) : Int := if x.1 < y.1 then -1 else if y.1 < x.1 then 1 else 0

set_option maxRecDepth 100000 in
theorem byFrom_any (x y : Nat × Nat) (W : World) : Calls Try.prog 55 #[.agg #[.int .u64 x.1, .int .u64 x.2], .agg #[.int .u64 y.1, .int .u64 y.2]] W fun e w' => e = .returned (.int .i64 (cmpP x y)) ∧ ∃ q os', w' = Sort.grow (W.drewN q) os' := by
  unfold cmpP
  have hself : ∀ n : Int, (n != n) = false := by intro n; simp
  go_enter Try.func55, Try.ntmps55
  go_wp2
  all_goals go_ret
  all_goals refine ⟨?_, 0, #[.cells #[.int .u64 x.1, .int .u64 x.2] 75, .cells #[.int .u64 y.1, .int .u64 y.2] 75], by rw [Sort.alloc_eq_grow, Sort.alloc_eq_grow, Sort.grow_grow]; rfl⟩
  all_goals first | rfl | simp [*]

theorem ltP (x y : Nat × Nat) : ltOf cmpP x y = decide (x.1 < y.1) := by
  unfold ltOf cmpP
  by_cases h1 : x.1 < y.1
  · simp [h1]
  · by_cases h2 : y.1 < x.1 <;> simp [h1, h2]
theorem swoP : Sort.SWO (ltOf cmpP) where
  irrefl x := by rw [ltP]; simp
  trans x y z h1 h2 := by rw [ltP] at *; simp at *; omega
  ntrans x y z h1 h2 := by rw [ltP] at *; simp at *; omega

theorem grow_kept (w : World) (os : Array Obj) : Kept (fun _ => False) w (Sort.grow w os) :=
  ⟨rfl, rfl, rfl, by simp [Sort.grow], fun k hk _ => by simp [Sort.grow, Array.getElem?_append_left hk]⟩

section
open Go.Lib Go.Sort
theorem flatK_get (l : List (Nat × Nat)) (j : Nat) (hj : j < l.length * 2) : (flatP l)[j]? = some ((flatK encP 2 l.toArray)[j]!) := by
  have hk : j / 2 < l.length := by omega
  rw [get_flatK encP 2 l.toArray j (by simpa using hj)]
  have hd : l.toArray[j / 2]! = l[j / 2] := by simp [hk]
  rw [hd]
  obtain ⟨h0, h1⟩ := flatP_get l (j / 2) hk
  rcases Nat.mod_two_eq_zero_or_one j with h | h
  · have e : j = j / 2 * 2 := by omega
    rw [h]
    conv => lhs; rw [e]
    rw [h0]; rfl
  · have e : j = j / 2 * 2 + 1 := by omega
    rw [h]
    conv => lhs; rw [e]
    rw [h1]; rfl

set_option maxRecDepth 100000 in
/-- slices.SortFunc by byFrom over a row of our own. -/
theorem sortFunc_any {b : Nat} {w : World} {v : Value} {l : List (Nat × Nat)} (h : OwnP b w v l) (hne : l ≠ []) (hlen : l.length ≤ 1000000) :
    Calls Try.prog 74 #[v, .func (.func 55) #[] #[]] w fun e w' => e = .returned (.tuple #[]) ∧ ∃ l', l'.Perm l ∧ l'.Pairwise (fun x y => x.1 ≤ y.1) ∧ OwnP b w' v l' ∧ Kept (fun k => v.ownBlock = some k) w w' := by
  rcases h.2 with ⟨rfl, h0⟩ | ⟨g, cap, cur, rfl, hb, hg, hn, hc, hs, ht⟩
  · exact absurd (List.length_eq_zero_iff.1 h0) hne
  have hcur : cur.size = cap * 2 := hs
  have hlt : g < w.heap.size := (Array.getElem?_eq_some_iff.1 hg).1
  have hH : HoldsK encP 2 w g 0 l.toArray := by
    intro j hj
    have hj2 : j < l.length * 2 := by simpa using hj
    refine ⟨?_, by simp [World.frozen?, hg]⟩
    rw [Nat.zero_add, cell_of_row w g j cur 75 (0, 0) hg]
    have h1 := flatK_get l j hj2
    rw [← ht, List.getElem?_take, if_pos hj2] at h1
    simpa using h1
  have eg : ∀ args w, (callFunc 55 args).run Try.prog w = .ok (.enter 55 args) w := enters_of Try.func55 (by kernel_rfl) rfl
  have hcon := AnyQ.slices_SortFunc Try.sortP 2 (fun w => by kernel_rfl) (fun w => by kernel_rfl) encP (fun _ => rfl) (fun x v hv => by simp [encP] at hv; rcases hv with rfl | rfl <;> rfl) cmpP swoP 55 #[] g 0 cap l.toArray w eg (fun _ _ _ _ x y => byFrom_any x y _) hH hlt (by simp; omega)
  refine hcon.mono ?_
  rintro e w' ⟨rfl, d', m, os, hp, hsd, rfl⟩
  have hds : d'.size = l.length := by simpa using hp.1
  refine ⟨rfl, d'.toList, ?_, ?_, ?_, ?_⟩
  · have := hp.2.2
    simp only [List.size_toArray] at this
    rw [Array.extract_eq_self_of_le (by omega), Array.extract_eq_self_of_le (by simp)] at this
    simpa using this
  · rw [List.pairwise_iff_getElem]
    intro i j hi hj hij
    have := hsd i j (Nat.zero_le _) hij (by simpa [hds] using hj)
    rw [ltP] at this
    simp only [decide_eq_false_iff_not, Nat.not_lt] at this
    simp only [Array.length_toList] at hi hj
    simpa [hi, hj] using this
  · refine ⟨by simp [flatP_length], .inr ⟨g, cap, putCells id 0 (flatK encP 2 d') cur, by rw [show d'.toList.length = l.length from by rw [Array.length_toList, hds]], hb, ?_, by rw [Array.length_toList, hds]; exact hn, hc, ?_, ?_⟩⟩
    · show (w.heap.modify g (onCells (putCells id 0 (flatK encP 2 d'))) ++ os)[g]? = _
      rw [Array.getElem?_append_left (by simpa using hlt), Array.getElem?_modify, if_pos rfl, hg]
      rfl
    · simp [putCells, hcur]
    · rw [Array.length_toList, hds]
      apply List.ext_getElem?
      intro j
      by_cases hj : j < l.length * 2
      · have hF := flatK_get d'.toList j (by rw [Array.length_toList, hds]; exact hj)
        rw [List.getElem?_take, if_pos hj, hF]
        have hjc : j < cur.size := by rw [hcur]; omega
        have hjF : j < (flatK encP 2 d').size := by simp [hds]; omega
        simp only [putCells, Array.getElem?_toList, Array.getElem?_mapIdx, Nat.sub_zero]
        rw [Array.getElem?_eq_getElem hjc]
        simp only [Option.map_some, id]
        rw [if_pos ⟨Nat.zero_le _, by omega⟩]
      · rw [List.getElem?_eq_none (by simp; omega), List.getElem?_eq_none (by rw [flatP_length, Array.length_toList, hds]; omega)]
  · refine ⟨rfl, rfl, rfl, by show w.heap.size ≤ (w.heap.modify g _ ++ os).size; simp, fun k hk hkg => ?_⟩
    show (w.heap.modify g (onCells (putCells id 0 (flatK encP 2 d'))) ++ os)[k]? = _
    rw [Array.getElem?_append_left (by simpa using hk), Array.getElem?_modify, if_neg (fun e => hkg (by rw [e]; rfl))]
end
end Go.Proofs.Ytinmjgaaehdicaa
