/- espalierref17: Sorted, Bytes. -/
import Derived.Test.YtinmjgaaehdicaaRefA
import Derived.Test.YtinmjgaaehdicaaRefO
namespace Go.Proofs.Ytinmjgaaehdicaa
open Go.RowKit

def sortedR (l : List (Nat × Nat)) : List (Nat × Nat) := l.foldl putR []
theorem sortedR_take {l : List (Nat × Nat)} {k : Nat} (hk : k < l.length) : sortedR (l.take (k + 1)) = putR (sortedR (l.take k)) l[k] := by
  unfold sortedR
  rw [List.take_succ_eq_append_getElem hk, List.foldl_append]; rfl
theorem putR_length (l : List (Nat × Nat)) (p : Nat × Nat) : (putR l p).length ≤ l.length + 1 := by
  unfold putR
  split
  · rw [List.length_append, List.length_cons]
    have := List.takeWhile_append_dropWhile (p := fun q : Nat × Nat => decide (q.1 < p.1)) (l := l)
    have := congrArg List.length this
    rw [List.length_append] at this
    omega
  · omega
theorem sortedR_length (l : List (Nat × Nat)) : (sortedR l).length ≤ l.length := by
  have : ∀ (acc l : List (Nat × Nat)), (l.foldl putR acc).length ≤ acc.length + l.length := by
    intro acc l
    induction l generalizing acc with
    | nil => simp
    | cons p l ih =>
      have h1 := ih (putR acc p)
      have h2 := putR_length acc p
      simp only [List.foldl_cons, List.length_cons]
      omega
  simpa [sortedR] using this [] l

set_option maxRecDepth 100000 in
set_option maxHeartbeats 1000000 in
theorem rsorted_new (w : World) (a : Option Addr) (c : Nat) (l : List (Nat × Nat)) (h : IsP w (.slice a l.length c) l) (hlen : l.length ≤ 100000) :
    Calls Try.prog 33 #[.slice a l.length c] w fun e w' => ∃ v, e = .returned v ∧ IsP w' v (sortedR l) ∧ Kept (fun _ => False) w w' ∧ NewP w.heap.size w' v := by
  obtain ⟨_, _, he, hlc, hcm, hbd, -⟩ := id h
  cases he
  go_enter Try.func33, Try.ntmps33
  go_wp2_with fail
  go_loopw [3, 4] (fun ov i wr => Kept (fun _ => False) w wr ∧ ∃ k : Nat, k ≤ l.length ∧ i = .int .i64 k ∧ IsP wr ov (sortedR (l.take k)) ∧ NewP w.heap.size wr ov) (fun _ i _ => l.length - (intOf i).toNat)
  case atStart => exact ⟨Kept.refl _ _, 0, Nat.zero_le _, rfl, ⟨none, 0, rfl, Nat.le_refl _, by simp [maxLen], fun p hp => by simp [sortedR] at hp, .inl rfl⟩, NewP.nil _ _ _ _⟩
  case round =>
    obtain ⟨hkr, k, hk, rfl, hI, hNew⟩ := hrel
    by_cases hlt : k < l.length
    · obtain ⟨g, o, rfl, hg, hc⟩ := h.at hlt
      have hN := Lib.hid (sortedR_take hlt)
      have hbk := hbd l[k] (List.getElem_mem hlt)
      have hSL : (sortedR (l.take k)).length ≤ 1000000 := by have := sortedR_length (l.take k); rw [List.length_take] at this; omega
      obtain ⟨⟨f, t⟩, hy⟩ : ∃ y, l[k] = y := ⟨_, rfl⟩
      have hcc := hc k hlt
      rw [hy] at hcc hN hbk
      obtain ⟨hd0, hd1⟩ := hcc
      have hc0 := hkr.cell hd0 (fun f => f)
      have hc1 := hkr.cell hd1 (fun f => f)
      simp only at hc0 hc1 hbk
      obtain ⟨oa, oc, rfl, -⟩ := id hI
      have HP := Lib.hid (rput_any wr oa oc _ f t hI hSL hbk.1 hbk.2)
      clear hy hc hd0 hd1 hbk
      generalize sortedR (l.take k) = acc at *
      go_wp2_with fail
      refine HP.out.mono ?_
      rintro e w2 ⟨v2, rfl, hI2, hk2, hnw⟩
      have HNW : Hid (NewP w.heap.size w2 v2) := Lib.hid (by
        rcases hnw with rfl | hnw
        · exact hNew.kept hk2
        · exact hnw.mono hkr.size)
      clear hnw
      go_wp2
      go_roundw
      case rel => exact ⟨hkr.more hk2 (fun _ f => f.elim), k + 1, hlt, by go_num, by rw [hN.out]; exact hI2, HNW.out⟩
      case measure => simp [intOf]; omega
    · rw [List.take_of_length_le (by omega)] at hI
      obtain ⟨oa, oc, rfl, -⟩ := id hI
      go_wp2
      go_ret
      exact ⟨_, rfl, hI, hkr, hNew⟩
theorem rsorted_any (w : World) (a : Option Addr) (c : Nat) (l : List (Nat × Nat)) (h : IsP w (.slice a l.length c) l) (hlen : l.length ≤ 100000) :
    Calls Try.prog 33 #[.slice a l.length c] w fun e w' => ∃ v, e = .returned v ∧ IsP w' v (sortedR l) ∧ Kept (fun _ => False) w w' :=
  (rsorted_new w a c l h hlen).mono fun _ _ ⟨v, h1, h2, h3, _⟩ => ⟨v, h1, h2, h3⟩
set_option maxRecDepth 100000 in
set_option maxHeartbeats 1000000 in
theorem rbytes_any (w : World) (a : Option Addr) (c : Nat) (l : List (Nat × Nat)) (h : IsP w (.slice a l.length c) l) (hlen : l.length ≤ 100000) :
    Calls Try.prog 35 #[.slice a l.length c] w fun e w' => ∃ v, e = .returned v ∧ FreshB w v (bytesOf l) w' := by
  obtain ⟨_, _, he, hlc, hcm, hbd, -⟩ := id h
  cases he
  go_enter Try.func35, Try.ntmps35
  go_wp2_with fail
  refine (ruint_any w l.length (by omega)).mono ?_
  rintro e w1 ⟨v1, rfl, hf1⟩
  have hk1 := hf1.kept
  have hr1 := hf1.row
  have hul : (uintB l.length).length ≤ 3 := uintB_len _ 3 (by omega) (by omega)
  clear hf1
  go_wp2_with fail
  go_loopw [3, 4] (fun ov i wr => Kept (fun _ => False) w wr ∧ ∃ k : Nat, k ≤ l.length ∧ i = .int .i64 k ∧ NewB w wr ov (uintB l.length ++ bodyB (l.take k))) (fun _ i _ => l.length - (intOf i).toNat)
  case atStart => exact ⟨hk1, 0, Nat.zero_le _, rfl, by simpa [bodyB] using hr1⟩
  case round =>
    obtain ⟨hkr, k, hk, rfl, hrow⟩ := hrel
    by_cases hlt : k < l.length
    · obtain ⟨g, o, rfl, hg, hc⟩ := h.at hlt
      have hbt := bodyB_take l k hlt
      have hbk := hbd l[k] (List.getElem_mem hlt)
      obtain ⟨⟨f, t⟩, hy⟩ : ∃ y, l[k] = y := ⟨_, rfl⟩
      have hcc := hc k hlt
      rw [hy] at hcc hbt hbk
      obtain ⟨hd0, hd1⟩ := hcc
      have hc0 := hkr.cell hd0 (fun f => f)
      have hc1 := hkr.cell hd1 (fun f => f)
      simp only at hc0 hc1 hbk hd0 hd1
      have hNEXT : Hid (uintB l.length ++ bodyB (l.take (k + 1)) = (uintB l.length ++ bodyB (l.take k) ++ wordB f) ++ wordB t) := Lib.hid (by rw [hbt]; simp)
      have hOL : Hid ((uintB l.length ++ bodyB (l.take k)).length ≤ 3000000) := Lib.hid (by
        rw [List.length_append, bodyB_length, List.length_take]; omega)
      clear hy hc hbt
      generalize uintB l.length ++ bodyB (l.take k) = out at *
      go_wp2_with fail
      refine (rword_any wr f hbk.1).mono ?_
      rintro e w3 ⟨v3, rfl, hf3⟩
      obtain ⟨a3, c3, rfl, -, -⟩ := hf3.own.form
      have hk3 := hkr.more hf3.kept (fun _ f => f.elim)
      obtain ⟨v4, w4, hrun4, ho4, hk4, -⟩ := (NewB.keptN hrow hf3.kept).appAny hk3.size hf3.own.isB (by have := hOL.out; rw [wordB_length]; omega)
      simp only [wordB_length] at hrun4
      have hk4' := hk3.more hk4 (fun i hi => hi)
      clear hf3
      have hc1' := hk4'.cell hd1 (fun f => f)
      go_wp2_with (at_builtin; refine wpList_append_run rfl (.tmp 15) (.tmp 21) #[22, 22] rfl _ _ _ _ rfl rfl hrun4 ?_)
      clear hrun4
      refine (rword_any w4 t hbk.2).mono ?_
      rintro e w5 ⟨v5, rfl, hf5⟩
      obtain ⟨a5, c5, rfl, -, -⟩ := hf5.own.form
      have hk5 := hk4'.more hf5.kept (fun _ f => f.elim)
      obtain ⟨v6, w6, hrun6, ho6, hk6, -⟩ := (NewB.keptN ho4 hf5.kept).appAny hk5.size hf5.own.isB (by have := hOL.out; rw [List.length_append, wordB_length, wordB_length]; omega)
      simp only [wordB_length] at hrun6
      have hk6' := hk5.more hk6 (fun i hi => hi)
      clear hf5
      go_wp2_with (at_builtin; refine wpList_append_run rfl (.tmp 23) (.tmp 29) #[22, 22] rfl _ _ _ _ rfl rfl hrun6 ?_)
      go_roundw
      case rel => exact ⟨hk6', k + 1, hlt, by go_num, by rw [hNEXT.out]; exact ho6⟩
      case measure => simp [intOf]; omega
    · have hE : Hid (uintB l.length ++ bodyB (l.take k) = bytesHead l) := Lib.hid (by rw [List.take_of_length_le (by omega)]; rfl)
      rw [hE.out] at hrow
      have hHL : Hid ((bytesHead l).length ≤ 2000000) := Lib.hid (by unfold bytesHead; rw [List.length_append, bodyB_length]; omega)
      have hBE : Hid (bytesOf l = bytesHead l ++ wordB (hashB (bytesHead l))) := Lib.hid rfl
      generalize bytesHead l = out at *
      obtain ⟨oa, oc, rfl, -, -⟩ := hrow.form
      go_wp2_with fail
      refine (rhash_any wr oa oc out hrow.isB).mono ?_
      rintro e w6 ⟨rfl, rfl⟩
      go_wp2_with fail
      refine (rword_any wr _ (hashB_lt out)).mono ?_
      rintro e w5 ⟨v5, rfl, hf5⟩
      obtain ⟨a5, c5, rfl, -, -⟩ := hf5.own.form
      have hk5 := hkr.more hf5.kept (fun _ f => f.elim)
      obtain ⟨v6, w6, hrun6, ho6, hk6, -⟩ := (NewB.keptN hrow hf5.kept).appAny hk5.size hf5.own.isB (by have := hHL.out; rw [wordB_length]; omega)
      simp only [wordB_length] at hrun6
      have hk6' := hk5.more hk6 (fun i hi => hi)
      clear hf5
      go_wp2_with (at_builtin; refine wpList_append_run rfl (.tmp 31) (.tmp 34) #[22, 22] rfl _ _ _ _ rfl rfl hrun6 ?_)
      go_ret
      refine ⟨_, rfl, ?_⟩
      rw [hBE.out]
      exact ho6.fresh hk6'
end Go.Proofs.Ytinmjgaaehdicaa
