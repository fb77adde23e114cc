/- refs.may. -/
import Derived.Test.YtjnhkepgoghogaaDoorNamD
namespace Go.Proofs.YtjnhkepgoghogaaDoor
open Go.RowKit Go.ChangeMaps Go.MapKept
set_option linter.unusedSimpArgs false
set_option maxRecDepth 100000 in
set_option maxHeartbeats 2000000 in
theorem refsMay_any (s : ByteArray) (w : World) :
    Calls Tryd.prog 48 #[.string s] w fun e w' => e = .returned (.int .i64 (mayOf s)) ∧ Kept (fun _ => False) w w' := by
  have hpa := Lib.hid (path_any s w)
  obtain ⟨C1, C2, hC⟩ : ∃ C1 C2, pathOf s = (C1, C2) := ⟨_, _, rfl⟩
  rw [hC] at hpa
  have hm : mayOf s = if C1 ≠ 0 then C1 else if s = ⟨#[]⟩ then 2 else 0 := by unfold mayOf; rw [hC]
  rw [hm]
  clear hm
  by_cases hz : C1 = 0
  · rw [if_neg (by simp [hz])]
    by_cases h0 : s = ⟨#[]⟩
    · rw [if_pos h0]
      clear hC
      subst h0
      go_enter Tryd.func48, Tryd.ntmps48
      go_wp2_with fail
      refine hpa.out.mono ?_
      rintro e w1 ⟨rfl, hk⟩
      subst hz
      have HK := Lib.hid hk
      clear hk
      go_wp2_with fail
      go_ret
      exact ⟨rfl, HK.out.alloc _⟩
    · rw [if_neg h0]
      have h0b : s.toList.isEmpty = false := by
        have h := (Lib.bytes_beq_false_iff s ⟨#[]⟩).2 h0
        rw [show ByteArray.toList ⟨#[]⟩ = [] from by kernel_rfl] at h
        cases hl : s.toList <;> simp_all
      go_enter Tryd.func48, Tryd.ntmps48
      go_wp2_with fail
      refine hpa.out.mono ?_
      rintro e w1 ⟨rfl, hk⟩
      subst hz
      have HK := Lib.hid hk
      clear hk
      go_wp2_with fail
      go_ret
      exact ⟨rfl, HK.out.alloc _⟩
  · rw [if_pos hz]
    have hzb : (C1 == 0) = false := by simp [hz]
    go_enter Tryd.func48, Tryd.ntmps48
    go_wp2_with fail
    refine hpa.out.mono ?_
    rintro e w1 ⟨rfl, hk⟩
    have HK := Lib.hid hk
    clear hk
    go_wp2_with fail
    go_ret
    exact ⟨rfl, HK.out.alloc _⟩
end Go.Proofs.YtjnhkepgoghogaaDoor
