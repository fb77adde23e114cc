/- espalierref02: Names. -/
import Derived.Test.YtjnhkepgoghogaaDoorRfdB
import Derived.Test.YtjnhkepgoghogaaDoorKeys
import Derived.Shelf.Slices.In.SortNone2
import Derived.Sort.OwnSorted
namespace Go.Proofs.YtjnhkepgoghogaaDoor
open Go.RowKit Go.ChangeMaps Go.MapKept
set_option linter.unusedSimpArgs false

def OwnN (n0 : Nat) (w : World) (v : Value) (xs : List (List UInt8)) : Prop := w.ownsRow n0 9 1 v xs.length (xs.map encStr)
theorem OwnN.form {n0 : Nat} {w : World} {v : Value} {xs : List (List UInt8)} (h : OwnN n0 w v xs) : ∃ a c, v = .slice a xs.length c ∧ xs.length ≤ c ∧ c ≤ maxLen := by
  rcases h.2 with ⟨rfl, h0⟩ | ⟨g, cap, cur, rfl, _, _, hn, hm, _⟩
  · exact ⟨none, 0, by rw [h0], by omega, by simp [maxLen]⟩
  · exact ⟨_, cap, rfl, hn, hm⟩
theorem OwnN.push {n0 : Nat} {w : World} {v : Value} {xs : List (List UInt8)} (h : OwnN n0 w v xs) (hk0 : n0 ≤ w.heap.size) (b : Nat) (s : ByteArray) (hb : w.cell? ⟨b, 0, none⟩ = some (.string s)) (hl : xs.length + 1 ≤ 1000000000) :
    ∃ v' w', (Builtin.append_ #[77, 77] 77 #[v, .slice (some ⟨b, 0, none⟩) 1 1]).run Tryd.prog w = .ok v' w' ∧ OwnN n0 w' v' (xs ++ [s.data.toList]) ∧ Kept (fun k => v.ownBlock = some k) w w' ∧ (v'.ownBlock = v.ownBlock ∨ v'.ownBlock = some w.heap.size) := by
  have hinf : (Tryd.prog.info? 9).map (fun i => (i.zero, i.size, i.bytes)) = some (some (.string { data := #[] }), 1, 16) := by kernel_rfl
  obtain ⟨i0, hi, hz0, hz1, hz2⟩ := info_parts hinf
  obtain ⟨v', w', hrun, ho2, hg2, -, hb2⟩ := run_append_own_at (P := Tryd.prog) w n0 77 77 9 i0 _ 1 16 Tryd.underlying77 hi hz0 hz1 hz2 rfl (by decide) _ _ _ h ⟨b, 0, none⟩ 1 1 [.string s] rfl (by
    intro j u hu
    match j, hu with
    | 0, hu => cases hu; exact hb
    | j + 1, hu => simp at hu) (by intro u hu; simp at hu; subst hu; rfl) (by unfold maxLen; omega) (by omega) hk0
  refine ⟨v', w', hrun, ?_, Kept.grown (F := fun k => v.ownBlock = some k) (Kept.refl _ _) hg2 (fun k hk _ => hk), hb2⟩
  unfold OwnN
  rw [List.map_append, List.length_append]
  exact ho2
/-- sort.Strings of strings that are owned. -/
theorem sortStrings_any (n0 : Nat) (w : World) (v : Value) (xs : List (List UInt8)) (h : OwnN n0 w v xs) (hl : xs.length ≤ 1000000) :
    Calls Tryd.prog 63 #[v] w fun e w' => e = .returned (.tuple #[]) ∧ OwnN n0 w' v (xs.mergeSort fun x y => decide (x ≤ y)) ∧ Kept (fun k => v.ownBlock = some k) w w' := by
  rcases h.2 with ⟨rfl, h0⟩ | ⟨g, cap, cur, rfl, hb, hg, hn, hm, hs, ht⟩
  · refine (Any.sort_Strings_none Tryd.strsL _ _ w).mono ?_
    rintro e w' ⟨rfl, rfl⟩
    obtain rfl : xs = [] := List.length_eq_zero_iff.1 h0
    exact ⟨rfl, ⟨by simp, .inl ⟨rfl, by simp⟩⟩, Kept.refl _ _⟩
  · refine (Any.sort_Strings Tryd.strsL g 0 cap xs w (holds_of_block hg (by simpa using ht)) (Array.getElem?_eq_some_iff.1 hg).1 (by omega)).mono ?_
    rintro e w' ⟨rfl, n, os, rfl⟩
    refine ⟨rfl, ?_, Kept.grown (F := fun k => (Value.slice (some ⟨g, 0, none⟩) xs.length cap).ownBlock = some k) (Kept.refl _ _) (grownBy_sorted _) (fun k hk _ => by cases hk; rfl)⟩
    have h9 := ownsRow_sorted (n := n) (os := os) (ss := xs) (ts := xs.mergeSort fun x y => decide (x ≤ y)) (List.length_mergeSort _) hb hg hn hm hs
    unfold OwnN
    rw [List.length_mergeSort]
    exact h9
theorem names_push {S : List FileM} {k : Nat} (hk : k < S.length) {p : FileM} (hp : S[k] = p) : ((S.take (k + 1)).map (·.name.data.toList)) = ((S.take k).map (·.name.data.toList)) ++ [p.name.data.toList] := by
  rw [List.take_succ_eq_append_getElem hk, List.map_append, hp]; rfl
set_option maxRecDepth 100000 in
set_option maxHeartbeats 1000000 in
theorem rnames_any {w : World} {b : Nat} {fv : Value} {S : List FileM} {D : DM} (h : RefAt w b fv S D) :
    Calls Tryd.prog 32 #[.pointer (some ⟨b, 0, none⟩)] w fun e w' => (∃ v, e = .returned v ∧ OwnN w.heap.size w' v (namesOf D.files)) ∧ Kept (fun _ => False) w w' := by
  obtain ⟨a, c, rfl, h1, h2⟩ := h.row.form
  have c0 := h.c.1
  have H := Lib.hid h
  obtain ⟨n, hn⟩ : ∃ n, S.length = n := ⟨_, rfl⟩
  rw [hn] at c0
  have HN := Lib.hid hn
  have hcnt := h.ok.count
  have hlen := h.len
  have hn2 : n ≤ 256 := by omega
  clear h h1 h2 hn hcnt hlen
  go_enter Tryd.func32, Tryd.ntmps32
  go_wp2_with fail
  go_loopg [3, 11] n (fun g lv i wr => ∃ k : Nat, k + g = n ∧ i = .int .i64 k ∧ Hid (OwnN w.heap.size wr lv ((S.take k).map (·.name.data.toList))) ∧ Hid (Kept (fun _ => False) w wr))
  case atStart => exact ⟨0, by omega, rfl, Lib.hid ⟨rfl, .inl ⟨rfl, rfl⟩⟩, Lib.hid (Kept.refl _ _)⟩
  case round =>
    clear c0
    obtain ⟨k, hk, rfl, HO, HK⟩ := hrel
    obtain ⟨la, lc, rfl, -, -⟩ := HO.out.form
    obtain ⟨ln, hln⟩ : ∃ n, ((S.take k).map (·.name.data.toList)).length = n := ⟨_, rfl⟩
    rw [hln] at HO ⊢
    have hlk : ln ≤ 256 := by rw [← hln]; simp; omega
    have HLN := Lib.hid hln
    clear hln
    by_cases hlt : k < n
    · have hkl : k < S.length := by have := HN.out; omega
      obtain ⟨g, c', e, c1, c2, -⟩ := (H.out.kept HK.out (fun _ _ f => f)).row.at hkl
      cases e
      have hvf : ∃ a n c, S[k].bv = .slice a n c := by
        obtain ⟨a, c, e, -⟩ := (H.out.own _ (List.getElem_mem hkl)).form
        exact ⟨a, _, c, e⟩
      obtain ⟨p, hp⟩ : ∃ p, S[k] = p := ⟨_, rfl⟩
      have HF := Lib.hid (names_push hkl hp)
      rw [hp] at c1 c2 hvf
      obtain ⟨y, v, x⟩ := p
      simp only at c1 c2 hvf
      obtain ⟨va, vn, vc, rfl⟩ := hvf
      clear hp
      obtain ⟨W1, hW1⟩ : ∃ W, wr.alloc (.cells #[.string y, .slice va vn vc] 76) = W := ⟨_, rfl⟩
      have hk1 : Kept (fun _ => False) wr W1 := by rw [← hW1]; exact (Kept.refl _ _).alloc _
      have b1 : W1.heap[wr.heap.size]? = some (.cells #[.string y, .slice va vn vc] 76 (0, 0)) := by rw [← hW1]; exact heap_alloc_new _ _
      obtain ⟨W2, hW2⟩ : ∃ W, W1.alloc (.cells #[.string y] 9) = W := ⟨_, rfl⟩
      have hk2 : Kept (fun _ => False) W1 W2 := by rw [← hW2]; exact (Kept.refl _ _).alloc _
      have b2 : W2.cell? ⟨W1.heap.size, 0, none⟩ = some (.string y) := by rw [← hW2, World.cell?_alloc_new]; rfl
      have hkx := HK.out.trans hk1 (fun _ _ f => f)
      have hky := hkx.trans hk2 (fun _ _ f => f)
      have hOW : OwnN w.heap.size W2 (.slice la ln lc) ((S.take k).map (·.name.data.toList)) := ownsRow_keptR (ownsRow_keptR HO.out hk1 (fun _ _ f => f)) hk2 (fun _ _ f => f)
      obtain ⟨v', W3, hrun, ho3, hk3, -⟩ := hOW.push hky.size W1.heap.size y b2 (by rw [HLN.out]; omega)
      have HO' : Hid (OwnN w.heap.size W3 v' ((S.take (k + 1)).map (·.name.data.toList))) := Lib.hid (by rw [HF.out]; exact ho3)
      have HK' : Hid (Kept (fun _ => False) w W3) := Lib.hid (hky.more hk3 (fun i e => (ownsRow_blockR HO.out e).1))
      have t0 : W1.cell? ⟨wr.heap.size, 0, none⟩ = some (.string y) := by simp [World.cell?, b1]
      clear hk1 hk2 hk3 ho3 b1 b2 hkx hky hOW
      go_wp2_with (at_builtin; refine wpList_append_run rfl (.tmp 15) (.tmp 18) #[77, 77] rfl _ _ _ _ rfl rfl hrun ?_)
      go_roundg (gk - 1)
      case measure => omega
      case rel => exact ⟨k + 1, by omega, by go_num, HO', HK'⟩
    · obtain rfl : k = n := by omega
      have hO := HO.out
      rw [List.take_of_length_le (Nat.le_of_eq HN.out)] at hO
      have hO2 : OwnN w.heap.size wr (.slice la ln lc) (D.files.map (·.1.data.toList)) := by
        rw [H.out.sync]; unfold filesD; rw [List.map_map]; exact hO
      have HS := Lib.hid (sortStrings_any _ wr _ _ hO2 (by rw [List.length_map]; have := H.out.ok.count; omega))
      have HB : Hid (∀ i, (Value.slice la ln lc).ownBlock = some i → w.heap.size ≤ i) := Lib.hid (fun i e => (ownsRow_blockR HO.out e).1)
      clear hO hO2
      go_wp2_with fail
      refine HS.out.mono ?_
      rintro e w2 ⟨rfl, hs2, hk2⟩
      have HK2 : Hid (Kept (fun _ => False) w w2) := Lib.hid (HK.out.more hk2 HB.out)
      have HS2 := Lib.hid hs2
      clear hs2 hk2
      go_wp2_with fail
      go_ret
      exact ⟨⟨_, rfl, HS2.out⟩, HK2.out⟩
end Go.Proofs.YtjnhkepgoghogaaDoor
