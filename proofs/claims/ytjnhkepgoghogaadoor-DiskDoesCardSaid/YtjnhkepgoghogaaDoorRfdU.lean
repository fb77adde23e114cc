/- espalierlaw02: world.does, many files more. -/
import Derived.Test.YtjnhkepgoghogaaDoorRfdT
import Derived.Test.YtjnhkepgoghogaaDoorShelf
import Derived.Shelf.Strconv.Itoa3
import Derived.Lib.ItoaLen
namespace Go.Proofs.YtjnhkepgoghogaaDoor
open Go.RowKit Go.ChangeMaps Go.MapKept
set_option linter.unusedSimpArgs false

theorem itoa_len (k : Nat) (hk : k < 260) : (Lib.itoa (k : Int)).length ≤ 20 := by
  unfold Lib.itoa
  rw [if_neg (by omega), Lib.decDigits_length]
  exact Lib.nDigits_le20 _ (by omega)
theorem kept_grow (w : World) (k : Nat) (os : Array Obj) : Kept (fun _ => False) w (Sort.grow (w.drewN k) os) := by
  refine ⟨rfl, rfl, rfl, ?_, fun i hi _ => ?_⟩
  · show w.heap.size ≤ (w.heap ++ os).size
    simp
  · show (w.heap ++ os)[i]? = w.heap[i]?
    rw [Array.getElem?_append_left hi]
def Tab10 (w : World) : Prop := Lib.TabIs Tryd.prog w "internal/strconv.uint64pow10" .u64 Lib.pow10Tab
set_option maxRecDepth 100000 in
set_option maxHeartbeats 4000000 in
theorem does8 {w : World} {b rb : Nat} {F : Nat → Prop} {D : DM} {m : Nat} {es : Array MapEntry} {clock : Nat} {fv : Value} {S : List FileM} {R : DM} (h : DocAt w b rb F D m es clock fv S R) (o : OpV) (hjw : (IntKind.u64.wrap o.kind).tmod 9 = 8) (hT : ∀ W, Kept F w W → Tab10 W) (hw : D.writes < 1000000000000000) :
    Calls Tryd.prog 14 #[.agg #[.pointer (some ⟨b, 0, none⟩), .pointer (some ⟨rb, 0, none⟩)], o.valD] w fun e w' => e = .returned (.bool true) ∧ NextD w b rb F D w' := by
  have HT := Lib.hid hT
  clear hT
  have H := Lib.hid h
  unfold OpV.valD
  obtain ⟨wa, hwa⟩ : ∃ W, w.alloc (.cells #[.pointer (some ⟨b, 0, none⟩), .pointer (some ⟨rb, 0, none⟩)] 29) = W := ⟨_, rfl⟩
  obtain ⟨w0, hw0⟩ : ∃ W, wa.alloc (.cells #[.int .i64 o.kind, .string o.name, .string o.to, .int .i64 o.n, .slice o.ba o.bytes.length o.bc] 34) = W := ⟨_, rfl⟩
  have hka : Kept (fun _ => False) w wa := by rw [← hwa]; exact (Kept.refl _ _).alloc _
  have hkb : Kept (fun _ => False) wa w0 := by rw [← hw0]; exact (Kept.refl _ _).alloc _
  have hk0 := hka.trans hkb (fun _ _ f => f)
  have hsa : wa.heap.size = w.heap.size + 1 := by rw [← hwa]; simp
  have ba : wa.heap[w.heap.size]? = some (.cells #[.pointer (some ⟨b, 0, none⟩), .pointer (some ⟨rb, 0, none⟩)] 29 (0, 0)) := by rw [← hwa]; exact heap_alloc_new _ _
  have bb : w0.heap[wa.heap.size]? = some (.cells #[.int .i64 o.kind, .string o.name, .string o.to, .int .i64 o.n, .slice o.ba o.bytes.length o.bc] 34 (0, 0)) := by rw [← hw0]; exact heap_alloc_new _ _
  have ba' := (hkb.block w.heap.size (by omega) (fun f => f)).trans ba
  have hB0 : BoxD w0 w.heap.size wa.heap.size b rb o := by
    refine ⟨?_, ?_, ?_, ?_, ?_, ?_, ?_⟩ <;> simp [World.cell?, ba', bb]
  have HB := Lib.hid hB0
  have HBX : Hid (∀ W, Kept F w0 W → BoxD W w.heap.size wa.heap.size b rb o) := Lib.hid (fun W hk => HB.out.kept hk (fun e => by have := H.out.lt _ e; omega) (fun e => by have := H.out.lt _ e; omega))
  have HK0 := Lib.hid hk0
  have H0 := Lib.hid (h.keptN hk0)
  have HS : Hid (w.heap.size ≤ w0.heap.size) := Lib.hid hk0.size
  obtain ⟨x0, x1, x2, x3, x4, x5, x6⟩ := hB0
  clear h hka hkb hk0 hsa ba bb ba'
  go_enter Tryd.func14, Tryd.ntmps14
  go_wp2_with fail
  go_loopg [9] 260 (fun gg i wr => ∃ k : Nat, k + gg = 260 ∧ i = .int .i64 k ∧ Hid (∃ F' D' m' es' clock' fv' S' R', DocAt wr b rb F' D' m' es' clock' fv' S' R' ∧ (∀ k, F' k → F k ∨ w0.heap.size ≤ k) ∧ D'.writes ≤ D.writes + k) ∧ Hid (Kept F w0 wr))
  case atStart => exact ⟨0, by omega, rfl, Lib.hid ⟨F, D, m, es, clock, fv, S, R, H0.out, fun _ e => .inl e, by omega⟩, Lib.hid (Kept.refl _ _)⟩
  case round =>
    clear x0 x1 x2 x3 x4 x5 x6
    obtain ⟨k, hkg, rfl, HX, HK⟩ := hrel
    obtain ⟨y0, y1, y2, y3, y4, y5, y6⟩ := HBX.out wr HK.out
    by_cases hlt : (k : Int) < min o.n 260
    · have hk260 : k < 260 := by omega
      have HIT := Lib.hid (Any.strconv_Itoa Tryd.itoaL (k : Int) (by omega) (by omega) wr (HT.out wr ((HK0.out.mono (fun _ _ f => f.elim)).trans HK.out (fun _ _ e => e))))
      obtain ⟨it, hit⟩ : ∃ it : ByteArray, ⟨(Lib.itoa (k : Int)).toArray⟩ = it := ⟨_, rfl⟩
      have hits : it.size ≤ 20 := by rw [← hit]; exact itoa_len k hk260
      rw [hit] at HIT
      clear hit
      go_wp2_with fail
      refine HIT.out.mono ?_
      rintro e w1 ⟨rfl, q, os, hw1⟩
      have HK1 : Hid (Kept (fun _ => False) wr w1) := Lib.hid (by rw [hw1]; exact kept_grow _ _ _)
      clear hw1 HIT y0 y1 y2 y3 y4 y5 y6
      have HKW1 : Hid (Kept F w0 w1) := Lib.hid (HK.out.trans HK1.out (fun _ _ f => f.elim))
      go_wp2_with fail
      obtain ⟨s, hs⟩ : ∃ s : ByteArray, ({ data := #[110] } ++ it : ByteArray) = s := ⟨_, rfl⟩
      have hss : s.size ≤ maxLen := by
        rw [← hs, ByteArray.size_append]
        have h1 : ({ data := #[110] } : ByteArray).size = 1 := rfl
        unfold maxLen
        omega
      rw [hs]
      clear hs hits
      obtain ⟨F', D', m', es', clock', fv', S', R', hX, hXF, hXW⟩ := HX.out
      have hXd := hX.keptN (HK1.out.trans (drew_kept w1) (fun _ _ f => f))
      have HX1 := Lib.hid hXd
      have HXF := Lib.hid hXF
      have hnil : ∀ W : World, IsB W (.slice none 0 0) [] := fun W => (OwnB.isB (bs := []) (World.ownsRow_nil _ _ _ _))
      have hwD : D'.writes < 2305843009213693952 := by omega
      have hwR : R'.writes < 2305843009213693952 := by have := hX.like.writes; omega
      have HC1 := Lib.hid (append_any hXd.disk hss none 0 [] (hnil _) (fun h => absurd rfl h) hwD)
      have HLP := Lib.hid (like_append hX.like s [])
      have HXW : Hid (D'.writes ≤ D.writes + k) := Lib.hid hXW
      obtain ⟨P, hP⟩ : ∃ P, D'.append s [] = P := ⟨_, rfl⟩
      obtain ⟨Q, hQ⟩ : ∃ Q, R'.append s [] = Q := ⟨_, rfl⟩
      rw [hP] at HC1
      rw [hP, hQ] at HLP
      have HS0 := HBX.out w1.drew (HKW1.out.trans (drew_kept w1) (fun _ _ f => f.elim))
      clear hP hX hXF hXW hXd HX
      refine wp_region_phase (fun W => BoxD W w.heap.size wa.heap.size b rb o) (fun _ => false) (by kernel_rfl) HS0 (fun _ => ?_)
      refine wpAnyG_take (i := 0) (v := ?_) rfl (by kernel_rfl) (by kernel_rfl) (by kernel_rfl) (by kernel_rfl) (fun _ _ _ h => h) (Or.inl ⟨by rfl, ?_⟩) HS0 ?_
      rotate_left
      (intro w' hSw'; have ⟨_, _, _, _, _, _, _⟩ := hSw'; go_simp; try with_reducible rfl)
      try simp only [Act.put, List.setIfInBounds_toArray, List.set_cons_zero, List.set_cons_succ, List.getElem_toArray, List.getElem_cons_zero, List.getElem_cons_succ]
      refine wpAnyG_take (i := 1) (v := ?_) rfl (by kernel_rfl) (by kernel_rfl) (by kernel_rfl) (by kernel_rfl) (fun _ _ _ h => h) (Or.inl ⟨by rfl, ?_⟩) HS0 ?_
      rotate_left
      (intro w' hSw'; have ⟨_, _, _, _, _, _, _⟩ := hSw'; go_simp; try with_reducible rfl)
      try simp only [Act.put, List.setIfInBounds_toArray, List.set_cons_zero, List.set_cons_succ, List.getElem_toArray, List.getElem_cons_zero, List.getElem_cons_succ]
      refine wpAnyG_take (i := 2) (v := ?_) rfl (by kernel_rfl) (by kernel_rfl) (by kernel_rfl) (by kernel_rfl) (fun _ _ _ h => h) (Or.inl ⟨by rfl, ?_⟩) HS0 ?_
      rotate_left
      (intro w' hSw'; have ⟨_, _, _, _, _, _, _⟩ := hSw'; go_simp; try with_reducible rfl)
      try simp only [Act.put, List.setIfInBounds_toArray, List.set_cons_zero, List.set_cons_succ, List.getElem_toArray, List.getElem_cons_zero, List.getElem_cons_succ]
      refine wpAnyG_take (i := 4) (v := ?_) rfl (by kernel_rfl) (by kernel_rfl) (by kernel_rfl) (by kernel_rfl) (fun _ _ _ h => h) (Or.inl ⟨by rfl, ?_⟩) HS0 ?_
      rotate_left
      (intro w' hSw'; have ⟨_, _, _, _, _, _, _⟩ := hSw'; go_simp; try with_reducible rfl)
      try simp only [Act.put, List.setIfInBounds_toArray, List.set_cons_zero, List.set_cons_succ, List.getElem_toArray, List.getElem_cons_zero, List.getElem_cons_succ]
      refine wpAnyG_take (i := 5) (v := ?_) rfl (by kernel_rfl) (by kernel_rfl) (by kernel_rfl) (by kernel_rfl) (fun _ _ _ h => h) (Or.inl ⟨by rfl, ?_⟩) HS0 ?_
      rotate_left
      (intro w' hSw'; have ⟨_, _, _, _, _, _, _⟩ := hSw'; go_simp; try with_reducible rfl)
      try simp only [Act.put, List.setIfInBounds_toArray, List.set_cons_zero, List.set_cons_succ, List.getElem_toArray, List.getElem_cons_zero, List.getElem_cons_succ]
      refine wpAnyG_take (i := 6) (v := ?_) rfl (by kernel_rfl) (by kernel_rfl) (by kernel_rfl) (by kernel_rfl) (fun _ _ _ h => h) (Or.inl ⟨by rfl, ?_⟩) HS0 ?_
      rotate_left
      (intro w' hSw'; have ⟨_, _, _, _, _, _, _⟩ := hSw'; go_simp; try with_reducible rfl)
      try simp only [Act.put, List.setIfInBounds_toArray, List.set_cons_zero, List.set_cons_succ, List.getElem_toArray, List.getElem_cons_zero, List.getElem_cons_succ]
      refine wpAnyG_ready (rs := [3]) (by kernel_rfl) (by simp) ?_
      refine AllG.cons rfl (ph' := false) (by kernel_rfl) (fun K hK => ?_) AllG.nil
      go_simp
      go_at_call 28
      refine HC1.out.mono ?_
      rintro e w2 ⟨rfl, es1, clk1, hA1⟩
      have hF'F : ∀ i, i < w0.heap.size → F' i → F i := fun i hi e => (HXF.out i e).elim id (fun h => by omega)
      have hA1F : Kept F w0 w2 := (HKW1.out.trans (drew_kept w1) (fun _ _ f => f.elim)).trans hA1.kept (fun i hi e => hF'F i hi ((HX1.out.all i).2 (.inl e)))
      have HS1 := HBX.out w2 hA1F
      refine hK.out _ _ (fun _ => HS1) ?_
      clear hK K
      try simp only [Act.put, List.setIfInBounds_toArray, List.set_cons_zero, List.set_cons_succ, List.getElem_toArray, List.getElem_cons_zero, List.getElem_cons_succ]
      refine wpAnyG_ready (rs := [7]) (by kernel_rfl) (by simp) ?_
      refine AllG.cons rfl (ph' := false) (by kernel_rfl) (fun K hK => ?_) AllG.nil
      go_simp
      go_at_call 37
      refine (rappend_any (HX1.out.ref.kept hA1.kept (fun k e f => HX1.out.sep k f e)) s hss none 0 [] (hnil _) (fun h => absurd rfl h) hwR).mono ?_
      rw [hQ, HLP.out.1]
      rintro e w3 ⟨rfl, fv2, S2, hr2, hkr2, hnr2⟩
      obtain ⟨hD2, hk02, hn2⟩ := HX1.out.op hA1 (Kept.refl _ _) hr2 hkr2 hnr2 HLP.out.2.1
      have hkw3 : Kept F w0 w3 := (HKW1.out.trans (drew_kept w1) (fun _ _ f => f.elim)).trans hk02 (fun i hi e => hF'F i hi e)
      have HKN : Hid (Kept F w0 w3) := Lib.hid hkw3
      have HXN : Hid (∃ F' D' m' es' clock' fv' S' R', DocAt w3 b rb F' D' m' es' clock' fv' S' R' ∧ (∀ k, F' k → F k ∨ w0.heap.size ≤ k) ∧ D'.writes ≤ D.writes + (k + 1 : Nat)) := Lib.hid ⟨_, _, _, _, _, _, _, _, hD2, fun i e => by
        rcases hn2 i e with e | e
        · exact HXF.out i e
        · have h4 := HKW1.out.size; have h5 : w1.heap.size ≤ i := e; exact .inr (by omega), by
        have h4 := HLP.out.2.2
        have h5 := HXW.out
        simp only [List.length_nil] at h4
        omega⟩
      have HS2 := HBX.out w3 hkw3
      refine hK.out _ _ (fun _ => HS2) ?_
      clear hK K
      try simp only [Act.put, List.setIfInBounds_toArray, List.set_cons_zero, List.set_cons_succ, List.getElem_toArray, List.getElem_cons_zero, List.getElem_cons_succ]
      refine wpAnyG_takeU (i := 8) (v := ?_) rfl (by kernel_rfl) (by kernel_rfl) (by kernel_rfl) (by kernel_rfl) (fun _ _ _ h => h) (Or.inl ⟨by rfl, ?_⟩) (fun _ => HS2) ?_
      rotate_left
      (intro w' hSw'; go_simp; try with_reducible rfl)
      try simp only [Act.put, List.setIfInBounds_toArray, List.set_cons_zero, List.set_cons_succ, List.getElem_toArray, List.getElem_cons_zero, List.getElem_cons_succ]
      refine wpAnyG_done (by kernel_rfl) ?_ _
      clear HS0 HS1 HS2 hD2 hk02 hn2 hr2 hkr2 hnr2 hA1 hA1F hF'F hkw3 hnil hwD hwR HC1
      go_wp2_with fail
      go_roundg (gk - 1)
      case measure => omega
      case rel => exact ⟨k + 1, by omega, by go_num, HXN, HKN⟩
    · obtain ⟨F', D', m', es', clock', fv', S', R', hX, hXF, hXW⟩ := HX.out
      have HFI := Lib.hid (file_any hX o.name)
      have HE : Hid (NextD w b rb F D wr) := Lib.hid ⟨F', D', m', es', clock', fv', S', R', hX, (HK0.out.mono (fun _ _ f => f.elim)).trans HK.out (fun _ _ e => e), fun i e => (hXF i e).imp id (fun h => Nat.le_trans HK0.out.size h), by omega⟩
      clear hX hXF hXW HX
      go_wp2_with fail
      refine HFI.out.mono ?_
      rintro e w3 ⟨rfl, hk3⟩
      have HE3 := Lib.hid (HE.out.after hk3)
      clear hk3
      go_wp2_with fail
      go_ret
      exact ⟨rfl, HE3.out⟩
end Go.Proofs.YtjnhkepgoghogaaDoor
