/- espalierlaw08.cut, alike. -/
import Derived.Test.YtjnhkepgoghogaaGreatDoorRsG
import Derived.BigQuiet
namespace Go.Proofs.YtjnhkepgoghogaaGreatDoor
open Go.RowKit Go.ChangeMaps Go.MapKept
set_option linter.unusedSimpArgs false

def cutS (s : ByteArray) : ByteArray := s.extract 0 (min (s.size : Int) 250).toNat
def cutOne (c : ByteArray × Nat) : ByteArray × Nat := (cutS c.1, c.2)
def cutL (l : IdsL) : IdsL := (l.take 80).map cutOne

set_option maxRecDepth 100000 in
set_option maxHeartbeats 1000000 in
theorem cutRefs_any (w : World) (a : Option Addr) (c : Nat) (l : IdsL) (h : IsR w (.slice a l.length c) l) :
    Calls Tryz.prog 8 #[.slice a l.length c] w fun e w' => ∃ v, e = .returned v ∧ OwnR w.heap.size w' v (cutL l) ∧ Kept (fun _ => False) w w' := by
  have HL := Lib.hid h
  have hnM : l.length ≤ maxLen := by obtain ⟨_, _, e, h1, h2, -⟩ := h; exact Nat.le_trans h1 h2
  unfold maxLen at hnM
  obtain ⟨n, hn⟩ : ∃ n, l.length = n := ⟨_, rfl⟩
  rw [hn] at HL hnM ⊢
  have HN := Lib.hid hn
  clear h hn
  go_enter Tryz.func8, Tryz.ntmps8
  go_wp2_with fail
  go_loopg [3, 8] n (fun g vv i wr => ∃ k, k + g = n ∧ k ≤ 80 ∧ i = .int .i64 k ∧ Hid (OwnR w.heap.size wr vv ((l.take k).map cutOne)) ∧ Hid (Kept (fun _ => False) w wr))
  case atStart => exact ⟨0, by omega, by omega, rfl, Lib.hid (OwnR.nil _ _), Lib.hid (Kept.refl _ _)⟩
  case round =>
    obtain ⟨k, hkg, hk80, rfl, HO, HK⟩ := hrel
    rcases Nat.eq_zero_or_pos gk with rfl | hpos
    · obtain rfl : k = n := by omega
      have HF : Hid (OwnR w.heap.size wr u3 (cutL l)) := Lib.hid (by
        have h5 := HO.out
        rw [List.take_of_length_le (by rw [HN.out]; exact Nat.le_refl _)] at h5
        unfold cutL
        rw [List.take_of_length_le (by rw [HN.out]; exact hk80)]
        exact h5)
      go_wp2_with fail
      go_ret
      exact ⟨_, rfl, HF.out, HK.out⟩
    · have hlt : (k : Int) < (n : Int) := by omega
      have hkl : k < l.length := by rw [HN.out]; omega
      obtain ⟨ga, go, rfl, hga, hx0, hx1⟩ := (HL.out.keptN HK.out).at (k := k) hkl
      by_cases h80 : k = 80
      · subst h80
        have HF : Hid (OwnR w.heap.size wr u3 (cutL l)) := Lib.hid HO.out
        go_wp2_with fail
        go_ret
        exact ⟨_, rfl, HF.out.keptN ((Kept.refl _ wr).alloc _), HK.out.alloc _⟩
      · have h80b : ((k : Int) == 80) = false := by simp; omega
        obtain ⟨wA, hwA, hkA, hsA, hbA⟩ := ref_new wr (cutS l[k].1) l[k].2
        obtain ⟨wB, hwB, hkB, hsB, hbB⟩ := ref_new wA (cutS l[k].1) l[k].2
        have hB0 : wB.cell? ⟨wA.heap.size, 0, none⟩ = some (.string (cutS l[k].1)) := by simp [World.cell?, hbB]
        have hB1 : wB.cell? ⟨wA.heap.size, 1, none⟩ = some (.int .u64 l[k].2) := by simp [World.cell?, hbB]
        have hkAB := hkA.more hkB (fun _ f => f.elim)
        have hlw := HK.out.size
        obtain ⟨v', w', hrun, ho', hgw, hob⟩ := (HO.out.keptN hkAB).push (by omega) ⟨wA.heap.size, 0, none⟩ (cutOne l[k]) hB0 hB1 (by simp; omega)
        obtain ⟨va, vc, hv, -, -⟩ := HO.out.form
        subst hv
        have hml : ((l.take k).map cutOne).length = k := by rw [List.length_map, List.length_take]; omega
        have HO' : Hid (OwnR w.heap.size w' v' ((l.take (k + 1)).map cutOne)) := Lib.hid (by rw [List.take_succ_eq_append_getElem hkl, List.map_append]; exact ho')
        have hkw : Kept (fun i => w.heap.size ≤ i) wB w' := Kept.grown (F := fun i => w.heap.size ≤ i) (Kept.refl _ _) hgw (fun i hi _ => (World.ownsRow.lt HO.out i hi).1)
        have HK' : Hid (Kept (fun _ => False) w w') := Lib.hid ((HK.out.more hkAB (fun _ f => f.elim)).more hkw (fun i e => e))
        rw [← hwB, ← hwA, World.size_alloc] at hrun
        rw [hml] at hrun ⊢
        unfold cutS at hrun
        clear hwA hkA hsA hbA hwB hkB hsB hbB hB0 hB1 hkAB hlw ho' hgw hob hml hkw
        go_wp2_with (at_builtin; refine wpList_append_run rfl (.tmp 23) (.tmp 25) #[30, 30] rfl _ _ _ _ rfl rfl hrun ?_)
        go_roundg (gk - 1)
        case measure => omega
        case rel => exact ⟨k + 1, by omega, by omega, by go_num, HO', HK'⟩

theorem toList_ne {x y : ByteArray} (h : x ≠ y) : ¬ x.toList = y.toList := fun e => by
  have h2 := (Lib.bytes_beq_false_iff x y).2 h
  rw [e] at h2
  simp at h2
end Go.Proofs.YtjnhkepgoghogaaGreatDoor
