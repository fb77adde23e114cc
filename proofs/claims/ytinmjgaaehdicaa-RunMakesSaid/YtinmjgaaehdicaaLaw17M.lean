/- espalierlaw17.RunMakes. -/
import Derived.Test.YtinmjgaaehdicaaRefL
import Derived.Test.YtinmjgaaehdicaaTold
import Derived.Test.YtinmjgaaehdicaaLaw17S
import Derived.Test.YtinmjgaaehdicaaStr
namespace Go.Proofs.Ytinmjgaaehdicaa
open Go.RowKit

set_option maxRecDepth 100000 in
set_option maxHeartbeats 1000000 in
theorem makes_any (w : World) (a : Option Addr) (c : Nat) (l : List (Nat × Nat)) (h : IsP w (.slice a l.length c) l) :
    Calls Try.prog 7 #[.slice a l.length c] w fun e w' => e = .returned (.bool true) ∧ Kept (fun _ => False) w w' := by
  have hlc : l.length ≤ c := by obtain ⟨_, _, e, h1, -⟩ := h; cases e; exact h1
  have hm := h.take 200
  have hml : (l.take 200).length ≤ 200 := by rw [List.length_take]; omega
  obtain ⟨m, hmm⟩ : ∃ m, l.take 200 = m := ⟨_, rfl⟩
  have hnm : min l.length 200 = m.length := by rw [← hmm, List.length_take, Nat.min_comm]
  have HS := fun W => some_any W a l.length c 200 hlc (by omega)
  rw [hmm, hnm] at hm
  rw [hmm] at hml
  simp only [hnm] at HS
  clear hmm hnm
  have hmb : ∀ p ∈ m, p.1 < 18446744073709551616 ∧ p.2 < 18446744073709551616 := by obtain ⟨_, _, _, _, _, h1, _⟩ := hm; exact h1
  have HSP := Lib.hid (make_spec m hml hmb)
  go_enter Try.func7, Try.ntmps7
  go_wp2_with fail
  refine (wakes_any w).mono ?_
  rintro e w1 ⟨rfl, hk1⟩
  go_wp2_with fail
  refine (HS w1).mono ?_
  rintro e w1' ⟨rfl, rfl⟩
  obtain ⟨WE, hWE⟩ : ∃ WE, w1'.alloc (.cells #[] 75) = WE := ⟨_, rfl⟩
  have hkE : Kept (fun _ => False) w1' WE := by rw [← hWE]; exact (Kept.refl _ _).alloc _
  have hszE : WE.heap.size = w1'.heap.size + 1 := by rw [← hWE]; simp
  have hoE := emptyP w1'
  rw [hWE] at hoE
  have hk1E := hk1.more hkE (fun _ f => f.elim)
  obtain ⟨v2, w2, hrun2, ho2, hk2, -⟩ := hoE.app (by omega) (hm.kept hk1E) (by simp; omega)
  have hk2' : Kept (fun _ => False) w w2 := hk1E.more hk2 (fun i hi => by have := hk1.size; omega)
  obtain ⟨va2, vc2, rfl, -, -⟩ := ho2.form
  simp only [List.nil_append] at ho2 hrun2
  have HM := Lib.hid (make_any w2 _ va2 vc2 m ho2 hmb (by omega))
  go_wp2_with (at_builtin; refine wpList_append_run rfl (.tmp 11) (.tmp 12) #[54, 54] rfl _ _ _ _ rfl rfl hrun2 ?_)
  clear hrun2
  refine HM.out.mono ?_
  rintro e w3 ⟨v3, rfl, hf3⟩
  have hk3 := hk2'.more hf3.kept (fun _ f => f.elim)
  have HSO := Lib.hid (rsorted_any w3 a c m (hm.kept hk3) (by omega))
  obtain ⟨a3, c3, rfl, -, -⟩ := hf3.own.form
  have hB3 := hf3.own.isB
  go_wp2_with fail
  refine HSO.out.mono ?_
  rintro e w4 ⟨v4, rfl, hI4, hk4⟩
  obtain ⟨a4, c4, rfl, hlc4, -⟩ := id hI4
  have hk4' := hk3.more hk4 (fun _ f => f.elim)
  go_wp2_with fail
  refine (wakes_any w4).mono ?_
  rintro e w5 ⟨rfl, hk5⟩
  have hk5' := hk4'.more hk5 (fun _ f => f.elim)
  have HFI := Lib.hid (rfind_any w5 a c m 0 (hm.kept hk5') (by omega))
  have hk5m := hf3.kept
  have hB5 := hB3.keptF (hk4.more hk5 (fun _ f => f.elim)) (fun _ _ f => f)
  have hI5 := hI4.kept hk5
  have hSL : (sortedR m).length ≤ 200 := by have := sortedR_length m; omega
  clear hf3 hB3
  rcases HSP.out with ⟨hi, hM⟩ | ⟨hi, hne, hM⟩ | ⟨hi, hne, hM, hEO⟩
  · rw [hM] at hB5 ⊢
    clear hM HSP HM
    generalize ixI 0 m = ix at *
    go_wp2_with fail
    refine HFI.out.mono ?_
    rintro e w6 ⟨rfl, hk6⟩
    go_wp2
    go_ret
    exact ⟨by rfl, hk5'.more hk6 (fun _ f => f.elim)⟩
  · rw [hM] at hB5 ⊢
    clear hM HSP HM
    generalize ixI 0 m = ix at *
    have hne2 : ¬ (((sortedR m).length : Int) = (m.length : Int)) := by omega
    generalize sortedR m = sm at *
    go_wp2_with fail
    refine HFI.out.mono ?_
    rintro e w6 ⟨rfl, hk6⟩
    go_wp2
    go_ret
    exact ⟨by rfl, hk5'.more hk6 (fun _ f => f.elim)⟩
  · rw [hM] at hB5 ⊢
    clear hM HSP HM
    generalize ixI 0 m = ix at *
    have hne2 : (((sortedR m).length : Int) != (m.length : Int)) = false := by simp; omega
    clear hne
    generalize sortedR m = sm at *
    go_wp2_with fail
    refine HFI.out.mono ?_
    rintro e w6 ⟨rfl, hk6⟩
    have hB6 := (hB5.keptF hk6 (fun _ _ f => f)).keptF (kept_drew w6) (fun _ _ f => f)
    have hI6 := (hI5.kept hk6).kept (kept_drew w6)
    have hBl : (bytesOf sm).length ≤ 100000 := by
      have := uintB_len sm.length 3 (by omega) (by omega)
      unfold bytesOf bytesHead
      rw [List.length_append, List.length_append, bodyB_length, wordB_length]
      omega
    have hTO : Hid (toldOf (bytesOf sm) sm = true) := Lib.hid (by unfold toldOf; rw [hEO]; simp)
    clear hEO
    have hRB := Lib.hid (rbytes_any w6.drew a4 c4 sm hI6 (by omega))
    have hTA : Hid (∀ W, Kept (fun _ => False) w6.drew W → Calls Try.prog 36 #[.slice a3 (bytesOf sm).length c3, .slice a4 sm.length c4] W fun e w' => e = .returned (.bool true) ∧ Kept (fun _ => False) W w') := Lib.hid (fun W hW => by
      have := told_any W a3 c3 (bytesOf sm) a4 c4 sm (hB6.keptF hW (fun _ _ f => f)) (hI6.kept hW) (by omega)
      rwa [hTO.out] at this)
    generalize bytesOf sm = bb at *
    have hcv := conv_any hB6
    go_wp2_with fail
    go_region_held (fun w' => (convert 22 9 (.slice a3 bb.length c3)).run Try.prog w' = .ok (.string (strB bb)) w')
      (first | exact conv_any ((hB6.keptF hf7.kept (fun _ _ f => f)).keptF hk8 (fun _ _ f => f)) | exact conv_any (hB6.keptF hf7.kept (fun _ _ f => f)) | exact hcv)
      ((first | (go_at_call 36; refine (hTA.out _ hf7.kept).mono ?_; rintro e' w8 ⟨rfl, hk8⟩) | (go_at_call 35; refine hRB.out.mono ?_; rintro e' w7 ⟨v7, rfl, hf7⟩; have hcv7 := conv_any hf7.own.isB; have hcv8 := conv_any (hB6.keptF hf7.kept (fun _ _ f => f)); obtain ⟨a7, c7, rfl, -, -⟩ := hf7.own.form)))
    go_wp2
    go_ret
    exact ⟨rfl, ((hk5'.more hk6 (fun _ f => f.elim)).more ((kept_drew w6).more hf7.kept (fun _ f => f.elim)) (fun _ f => f.elim)).more hk8 (fun _ f => f.elim)⟩
end Go.Proofs.Ytinmjgaaehdicaa
