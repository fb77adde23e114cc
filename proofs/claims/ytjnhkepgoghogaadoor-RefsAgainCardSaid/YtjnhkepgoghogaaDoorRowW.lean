/- An argument's number: a row's word for it. -/
import Derived.Test.YtjnhkepgoghogaaDoorRows
import Derived.WalkKit
import Derived.ProofKit
namespace Go.Proofs.YtjnhkepgoghogaaDoor
open Go.RowKit
theorem wf_u64 {n : Int} (h : (Lit.int .u64 n).wf = true) : ∃ x : Nat, n = (x : Int) ∧ x < 18446744073709551616 := by
  simp only [Lit.wf, Bool.and_eq_true, decide_eq_true_eq] at h
  have h' : 0 ≤ n ∧ n ≤ 18446744073709551615 := h
  exact ⟨n.toNat, by omega, by omega⟩
end Go.Proofs.YtjnhkepgoghogaaDoor
