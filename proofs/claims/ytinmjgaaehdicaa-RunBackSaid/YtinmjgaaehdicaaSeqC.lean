/- slices.SortedFunc at pairs. -/
import Derived.Test.YtinmjgaaehdicaaSeqB
import Derived.Shelf.SlSortCmp.NoneTotal
namespace Go.Proofs.Ytinmjgaaehdicaa
open Go.RowKit Go.Shelf

set_option maxRecDepth 100000 in
theorem sortedFunc_any (Bs n₀ : Nat) (sv : Value) (zs : List (Nat × Nat)) (hlen : zs.length ≤ 1000000) (w : World) (hBs : Bs < w.heap.size) (hn₀ : n₀ ≤ w.heap.size) (hc : w.cell? ⟨Bs, 0, none⟩ = some sv) (hI : PairsIn n₀ w sv zs) :
    Calls Try.prog 53 #[.func (.func 75) #[] #[.pointer (some ⟨Bs, 0, none⟩)], .func (.func 55) #[] #[]] w fun e w' => ∃ v l', e = .returned v ∧ l'.Perm zs ∧ l'.Pairwise (fun x y => x.1 ≤ y.1) ∧ OwnP w.heap.size w' v l' ∧ Below n₀ w w' := by
  go_enter Try.func53, Try.ntmps53
  go_wp2_with fail
  refine (collect_any Bs n₀ sv zs hlen w hBs hn₀ hc hI).mono ?_
  rintro e w1 ⟨v, rfl, hown, hb⟩
  by_cases hne : zs = []
  · subst hne
    obtain ⟨a, c, rfl, -, -⟩ := hown.form
    go_wp2_with fail
    refine (AnyF.slices_SortFunc_none Try.sortP a c _ w1).mono ?_
    rintro e w2 ⟨rfl, rfl⟩
    go_wp2
    go_ret
    exact ⟨_, [], rfl, List.Perm.refl _, List.Pairwise.nil, hown, hb⟩
  · have hlt := fun k e => (World.ownsRow.lt hown k e).1
    go_wp2_with fail
    refine (sortFunc_any hown hne hlen).mono ?_
    rintro e w2 ⟨rfl, l', hp, hs, ho, hk⟩
    go_wp2
    go_ret
    exact ⟨_, l', rfl, hp, hs, ho, hb.trans (hk.below (Nat.le_trans hn₀ hb.size) (fun k hk' e => by have := hlt k e; omega))⟩
end Go.Proofs.Ytinmjgaaehdicaa
