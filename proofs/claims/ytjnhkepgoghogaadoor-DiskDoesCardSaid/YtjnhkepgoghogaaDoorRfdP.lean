/- espalierlaw02: a disk beside the document's; world.file. -/
import Derived.Test.YtjnhkepgoghogaaDoorRfdH
import Derived.Test.YtjnhkepgoghogaaDoorRfdN
import Derived.Test.YtjnhkepgoghogaaDoorLaw02B
namespace Go.Proofs.YtjnhkepgoghogaaDoor
open Go.RowKit Go.ChangeMaps Go.MapKept
set_option linter.unusedSimpArgs false

/-- A disk at block b, the document's at block rb, alike; F: all their blocks. -/
structure DocAt (w : World) (b rb : Nat) (F : Nat → Prop) (D : DM) (m : Nat) (es : Array MapEntry) (clock : Nat) (fv : Value) (S : List FileM) (R : DM) : Prop where
  disk : DiskAt w b m es clock D
  ref : RefAt w rb fv S R
  like : DM.Like R D
  all : ∀ k, F k ↔ (diskF b m es k ∨ refF rb fv S k)
  sep : ∀ k, diskF b m es k → ¬ refF rb fv S k
section
variable {w w' : World} {b rb : Nat} {F : Nat → Prop} {D : DM} {m : Nat} {es : Array MapEntry} {clock : Nat} {fv : Value} {S : List FileM} {R : DM}
theorem DocAt.kept (h : DocAt w b rb F D m es clock fv S R) {G : Nat → Prop} (hk : Kept G w w') (hG : ∀ k, F k → ¬ G k) : DocAt w' b rb F D m es clock fv S R :=
  ⟨h.disk.kept hk (fun k e => hG k ((h.all k).2 (.inl e))), h.ref.kept hk (fun k e => hG k ((h.all k).2 (.inr e))), h.like, h.all, h.sep⟩
theorem DocAt.keptN (h : DocAt w b rb F D m es clock fv S R) (hk : Kept (fun _ => False) w w') : DocAt w' b rb F D m es clock fv S R := h.kept hk (fun _ _ f => f)
theorem DocAt.lt (h : DocAt w b rb F D m es clock fv S R) : ∀ k, F k → k < w.heap.size := fun k e => ((h.all k).1 e).elim (h.disk.lt k) (h.ref.lt k)
theorem DocAt.bytes (h : DocAt w b rb F D m es clock fv S R) (s : ByteArray) : R.bytes s = D.bytes s := h.like.same.bytes s
end
theorem OwnB.setAt {w : World} {g n c : Nat} {l : List UInt8} (h : OwnB w (.slice (some ⟨g, 0, none⟩) n c) l) (k : Nat) (x : UInt8) : OwnB (w.setCell ⟨g, k, none⟩ (.int .u8 (x.toNat : Int))) (.slice (some ⟨g, 0, none⟩) n c) (l.set k x) := by
  obtain ⟨h1, h2⟩ := h
  refine ⟨by simp, ?_⟩
  rcases h2 with ⟨e, -⟩ | ⟨g', c', cur, e, hb, hg, hn, hm, hs, ht⟩
  · cases e
  · cases e
    refine .inr ⟨g, c, cur.setIfInBounds k (.int .u8 (x.toNat : Int)), by simp, hb, heap_setCell_row hg _, by simpa using hn, hm, by simpa using hs, ?_⟩
    simp only [Array.toList_setIfInBounds, List.length_set]
    rw [List.take_set, ht]
    simp [bytesV, List.map_set]
theorem OwnB.cellAt {w : World} {a : Option Addr} {n c : Nat} {l : List UInt8} (h : OwnB w (.slice a n c) l) {k : Nat} (hk : k < l.length) : ∃ g, a = some ⟨g, 0, none⟩ ∧ w.cell? ⟨g, k, none⟩ = some (.int .u8 (l[k].toNat : Int)) ∧ w.frozen? ⟨g, k, none⟩ = false := by
  rcases h.2 with ⟨e, h0⟩ | ⟨g, c', cur, e, hb, hg, hn, hm, hs, ht⟩
  · rw [h0] at hk; exact absurd hk (Nat.not_lt_zero _)
  · cases e
    refine ⟨g, rfl, ?_, by simp [World.frozen?, hg]⟩
    rw [cell_of_row w g k cur _ (0, 0) hg]
    have h1 : (bytesV l)[k]? = some (.int .u8 (l[k].toNat : Int)) := by simp [bytesV, hk]
    rw [← ht, List.getElem?_take, if_pos (by omega)] at h1
    simpa using h1

set_option maxRecDepth 100000 in
set_option maxHeartbeats 2000000 in
theorem file_any {w : World} {b rb : Nat} {F : Nat → Prop} {D : DM} {m : Nat} {es : Array MapEntry} {clock : Nat} {fv : Value} {S : List FileM} {R : DM} (h : DocAt w b rb F D m es clock fv S R) (s : ByteArray) :
    Calls Tryd.prog 33 #[.agg #[.pointer (some ⟨b, 0, none⟩), .pointer (some ⟨rb, 0, none⟩)], .string s] w fun e w' => e = .returned (.bool true) ∧ Kept (fun _ => False) w w' := by
  have H := Lib.hid h
  obtain ⟨w0, hw0⟩ : ∃ W, w.alloc (.cells #[.pointer (some ⟨b, 0, none⟩), .pointer (some ⟨rb, 0, none⟩)] 29) = W := ⟨_, rfl⟩
  have hk0 : Kept (fun _ => False) w w0 := by rw [← hw0]; exact (Kept.refl _ _).alloc _
  have b0 : w0.heap[w.heap.size]? = some (.cells #[.pointer (some ⟨b, 0, none⟩), .pointer (some ⟨rb, 0, none⟩)] 29 (0, 0)) := by rw [← hw0]; exact heap_alloc_new _ _
  have HBX : Hid (∀ W, Kept (fun _ => False) w0 W → W.cell? ⟨w.heap.size, 0, none⟩ = some (.pointer (some ⟨b, 0, none⟩)) ∧ W.cell? ⟨w.heap.size, 1, none⟩ = some (.pointer (some ⟨rb, 0, none⟩))) := Lib.hid (fun W hk => ⟨hk.cell (by simp [World.cell?, b0]) (fun f => f), hk.cell (by simp [World.cell?, b0]) (fun f => f)⟩)
  have HR0 : Hid (∀ W, Kept (fun _ => False) w0 W → Calls Tryd.prog 29 #[.pointer (some ⟨b, 0, none⟩), .string s] W (ReadEnd W D s)) := Lib.hid (fun W hk => read_any ((h.keptN hk0).keptN hk).disk s)
  have HZ0 : Hid (∀ W, Kept (fun _ => False) w0 W → _) := Lib.hid (fun W hk => size_any ((h.keptN hk0).keptN hk).disk s)
  have HF : Hid (∀ W, Kept (fun _ => False) w0 W → _) := Lib.hid (fun W hk => rfind_any ((h.keptN hk0).keptN hk).ref s)
  cases hgD : getA s D.files with
  | none =>
    have HG := Lib.hid hgD
    have HR : Hid (∀ W, Kept (fun _ => False) w0 W → Calls Tryd.prog 29 #[.pointer (some ⟨b, 0, none⟩), .string s] W fun e w' => ∃ v, e = .returned (.tuple #[v, .int .i64 4]) ∧ FreshB W v (D.bytes s) w') := Lib.hid (fun W hk => (HR0.out W hk).mono (fun e w' ⟨v, h1, h2, h3⟩ => ⟨v, by rw [h1, HG.out]; rfl, h2⟩))
    have HZ : Hid (∀ W, Kept (fun _ => False) w0 W → Calls Tryd.prog 64 #[.pointer (some ⟨b, 0, none⟩), .string s] W fun e w' => e = .returned (.tuple #[.int .i64 (D.bytes s).length, .int .i64 4]) ∧ Kept (fun _ => False) W w') := Lib.hid (fun W hk => (HZ0.out W hk).mono (fun e w' ⟨h1, h2⟩ => ⟨by rw [h1, HG.out]; rfl, h2⟩))
    clear hgD HR0 HZ0
    have HK0 := Lib.hid hk0
    have ⟨x0, x1⟩ := HBX.out w0 (Kept.refl _ _)
    clear h hk0 b0
    go_enter Tryd.func33, Tryd.ntmps33
    go_wp2_with fail
    refine (HR.out w0 (Kept.refl _ _)).mono ?_
    rintro e w1 ⟨v, rfl, hf⟩
    have HK1 := Lib.hid hf.kept
    have HOV := Lib.hid hf.own
    have HVN := Lib.hid hf.new
    obtain ⟨va, vc, rfl, -, -⟩ := hf.own.form
    obtain ⟨bl, hbl⟩ : ∃ n, (D.bytes s).length = n := ⟨_, rfl⟩
    have hbl4 : bl ≤ 4194304 := by rw [← hbl]; exact DM.bytes_le H.out.disk.ok s
    have HBL := Lib.hid hbl
    rw [hbl] at HOV HVN HZ ⊢
    have ⟨y0, y1⟩ := HBX.out w1 HK1.out
    clear hf x0 x1 hbl
    go_wp2_with fail
    refine (HZ.out w1 HK1.out).mono ?_
    rintro e w2 ⟨rfl, hk2⟩
    have HK2 : Hid (Kept (fun _ => False) w0 w2) := Lib.hid (HK1.out.trans hk2 (fun _ _ f => f))
    have ⟨z0, z1⟩ := HBX.out w2 HK2.out
    have HOV2 := Lib.hid (HOV.out.kept (fun g e => hk2.block g (HOV.out.lt g e) (fun f => f)))
    clear hk2 y0 y1
    go_wp2_with fail
    refine (HF.out w2 HK2.out).mono ?_
    rintro e w3 ⟨⟨r, rfl, hr⟩, hk3⟩
    have HK3 : Hid (Kept (fun _ => False) w0 w3) := Lib.hid (HK2.out.trans hk3 (fun _ _ f => f))
    have ⟨x0, x1⟩ := HBX.out w3 HK3.out
    have HOV3 := Lib.hid (HOV2.out.kept (fun g e => hk3.block g (HOV2.out.lt g e) (fun f => f)))
    clear hk3 z0 z1
    rcases find_cases H.out.ref hr with ⟨rfl, hg⟩ | ⟨k, hk, rfl, hks, hg, -⟩
    · have hb0 : bl = 0 := by
        have h9 := HBL.out
        unfold DM.bytes at h9
        rw [HG.out] at h9
        exact h9.symm
      clear hg hr
      subst hb0
      go_wp2_with fail
      go_ret
      exact ⟨rfl, HK0.out.trans HK3.out (fun _ _ f => f)⟩
    · rw [H.out.like.same.files s, HG.out] at hg; cases hg
  | some xx =>
    have HG := Lib.hid hgD
    have HR : Hid (∀ W, Kept (fun _ => False) w0 W → Calls Tryd.prog 29 #[.pointer (some ⟨b, 0, none⟩), .string s] W fun e w' => ∃ v, e = .returned (.tuple #[v, .int .i64 0]) ∧ FreshB W v (D.bytes s) w') := Lib.hid (fun W hk => (HR0.out W hk).mono (fun e w' ⟨v, h1, h2, h3⟩ => ⟨v, by rw [h1, HG.out]; rfl, h2⟩))
    have HZ : Hid (∀ W, Kept (fun _ => False) w0 W → Calls Tryd.prog 64 #[.pointer (some ⟨b, 0, none⟩), .string s] W fun e w' => e = .returned (.tuple #[.int .i64 (D.bytes s).length, .int .i64 0]) ∧ Kept (fun _ => False) W w') := Lib.hid (fun W hk => (HZ0.out W hk).mono (fun e w' ⟨h1, h2⟩ => ⟨by rw [h1, HG.out]; rfl, h2⟩))
    clear hgD HR0 HZ0
    have HK0 := Lib.hid hk0
    have ⟨x0, x1⟩ := HBX.out w0 (Kept.refl _ _)
    clear h hk0 b0
    go_enter Tryd.func33, Tryd.ntmps33
    go_wp2_with fail
    refine (HR.out w0 (Kept.refl _ _)).mono ?_
    rintro e w1 ⟨v, rfl, hf⟩
    have HK1 := Lib.hid hf.kept
    have HOV := Lib.hid hf.own
    have HVN := Lib.hid hf.new
    obtain ⟨va, vc, rfl, -, -⟩ := hf.own.form
    obtain ⟨bl, hbl⟩ : ∃ n, (D.bytes s).length = n := ⟨_, rfl⟩
    have hbl4 : bl ≤ 4194304 := by rw [← hbl]; exact DM.bytes_le H.out.disk.ok s
    have HBL := Lib.hid hbl
    rw [hbl] at HOV HVN HZ ⊢
    have ⟨y0, y1⟩ := HBX.out w1 HK1.out
    clear hf x0 x1 hbl
    go_wp2_with fail
    refine (HZ.out w1 HK1.out).mono ?_
    rintro e w2 ⟨rfl, hk2⟩
    have HK2 : Hid (Kept (fun _ => False) w0 w2) := Lib.hid (HK1.out.trans hk2 (fun _ _ f => f))
    have ⟨z0, z1⟩ := HBX.out w2 HK2.out
    have HOV2 := Lib.hid (HOV.out.kept (fun g e => hk2.block g (HOV.out.lt g e) (fun f => f)))
    clear hk2 y0 y1
    go_wp2_with fail
    refine (HF.out w2 HK2.out).mono ?_
    rintro e w3 ⟨⟨r, rfl, hr⟩, hk3⟩
    have HK3 : Hid (Kept (fun _ => False) w0 w3) := Lib.hid (HK2.out.trans hk3 (fun _ _ f => f))
    have ⟨x0, x1⟩ := HBX.out w3 HK3.out
    have HOV3 := Lib.hid (HOV2.out.kept (fun g e => hk3.block g (HOV2.out.lt g e) (fun f => f)))
    clear hk3 z0 z1
    rcases find_cases H.out.ref hr with ⟨rfl, hg⟩ | ⟨k, hk, rfl, hks, hg, -⟩
    · rw [H.out.like.same.files s, HG.out] at hg; cases hg
    · have hgD : getA s D.files = some S[k].bytes := by rw [← H.out.like.same.files s]; exact hg
      have HBY : Hid (D.bytes s = S[k].bytes) := Lib.hid (by unfold DM.bytes; rw [hgD]; rfl)
      have H3 := Lib.hid (H.out.keptN (HK0.out.trans HK3.out (fun _ _ f => f)))
      obtain ⟨g, c, hfv, q0, q1, -⟩ := H3.out.ref.row.at hk
      subst hfv
      obtain ⟨sn, hsn⟩ : ∃ n, S.length = n := ⟨_, rfl⟩
      have hcnt : sn ≤ 256 := by have := H.out.ref.ok.count; have := H.out.ref.len; omega
      have hksn : k < sn := by omega
      have r0 := H3.out.ref.c.1
      rw [hsn] at r0
      have hkk0 : ¬ ((k : Int) < 0) := by omega
      have hkk00 : (0 : Int) ≤ (k : Int) := by omega
      have hkki : (k : Int) < (sn : Int) := by omega
      have HEQ := Lib.hid (equal_any w3 (.slice va bl vc) S[k].bv (D.bytes s) S[k].bytes HOV3.out.isB (H3.out.ref.own _ (List.getElem_mem hk)).isB)
      rw [HBY.out, show decide (S[k].bytes = S[k].bytes) = true from by simp] at HEQ
      obtain ⟨ka, kn, kc, hkv⟩ : ∃ a n c, S[k].bv = .slice a n c := by
        obtain ⟨a, c, e, -⟩ := (H.out.ref.own _ (List.getElem_mem hk)).form
        exact ⟨a, _, c, e⟩
      rw [hkv] at HEQ q1
      have HKV := Lib.hid hkv
      have HSN := Lib.hid hsn
      clear hg hgD hr hks q0 hsn hkv
      go_wp2_with fail
      refine HEQ.out.mono ?_
      rintro e w4 ⟨rfl, rfl⟩
      clear HEQ x0 x1 r0 q1
      go_wp2_with fail
      go_loopg [76] bl (fun gg i wr => ∃ j : Nat, j + gg = bl ∧ i = .int .i64 j ∧ Hid (∃ l, OwnB wr (.slice va bl vc) l ∧ l.length = bl) ∧ Hid (Kept (fun q => (Value.slice va bl vc).ownBlock = some q) w3 wr))
      case atStart => exact ⟨0, by omega, rfl, Lib.hid ⟨_, HOV3.out, HBL.out⟩, Lib.hid (Kept.refl _ _)⟩
      case round =>
        obtain ⟨j, hjg, rfl, HL, HKL⟩ := hrel
        by_cases hlt : j < bl
        · obtain ⟨l, hl, hll⟩ := HL.out
          obtain ⟨q, rfl, hcq, hfq⟩ := hl.cellAt (k := j) (by omega)
          have HL2 : Hid (∃ l, OwnB (wr.setCell ⟨q, j, none⟩ (.int .u8 170)) (.slice (some ⟨q, 0, none⟩) bl vc) l ∧ l.length = bl) := Lib.hid ⟨l.set j 170, hl.setAt j 170, by rw [List.length_set]; exact hll⟩
          have HKL2 : Hid (Kept (fun q' => (Value.slice (some ⟨q, 0, none⟩) bl vc).ownBlock = some q') w3 (wr.setCell ⟨q, j, none⟩ (.int .u8 170))) := Lib.hid (HKL.out.trans (keptCellR wr q j _) (fun i _ e => by rw [e]; rfl))
          obtain ⟨cx, hcx⟩ : ∃ cx : Int, (l[j].toNat : Int) = cx := ⟨_, rfl⟩
          rw [hcx] at hcq
          clear hcx hl hll
          go_wp2_with fail
          go_roundg (gk - 1)
          case measure => omega
          case rel => exact ⟨j + 1, by omega, by go_num, HL2, HKL2⟩
        · obtain ⟨l, hl, hll⟩ := HL.out
          have HKW : Hid (Kept (fun _ => False) w0 wr) := Lib.hid (HK3.out.more HKL.out (fun i e => HVN.out i e))
          obtain ⟨W1, hW1⟩ : ∃ W, wr.alloc (.cells #[.int .u8 170, .int .u8 170] 5) = W := ⟨_, rfl⟩
          have hkA : Kept (fun _ => False) wr W1 := by rw [← hW1]; exact (Kept.refl _ _).alloc _
          have hbA : W1.heap[wr.heap.size]? = some (.cells #[.int .u8 170, .int .u8 170] 5 (0, 0)) := by rw [← hW1]; exact heap_alloc_new _ _
          have hIs : IsB W1 (.slice (some ⟨wr.heap.size, 0, none⟩) 2 2) [170, 170] := OwnB.isB (bs := [170, 170]) ⟨rfl, .inr ⟨wr.heap.size, 2, _, rfl, Nat.zero_le _, hbA, Nat.le_refl _, by simp [maxLen], rfl, rfl⟩⟩
          obtain ⟨v5, w5, hrun, hov5, hg5, hvb5, -⟩ := run_append_bytes W1 _ _ l [170, 170] (hl.kept (fun g e => hkA.block g (hl.lt g e) (fun f => f))) hIs (by rw [hll]; simp; omega)
          have HK5 : Hid (Kept (fun _ => False) w0 w5) := Lib.hid ((HKW.out.trans hkA (fun _ _ f => f)).more (Kept.grown (F := fun k => (Value.slice va bl vc).ownBlock = some k) (Kept.refl _ _) hg5 (fun i e _ => e)) (fun i e => HVN.out i e))
          obtain ⟨a5, c5, rfl, -, -⟩ := hov5.form
          rw [show List.length (l ++ ([170, 170] : List UInt8)) = bl + 2 from by simp [hll]] at hrun
          have ⟨x0, x1⟩ := HBX.out w5 HK5.out
          have hbl2 : ¬ ((bl + 2 : Nat) : Int) < 2 := by omega
          have hbl3 : ¬ ((bl : Int) + 2 < 2) := by omega
          clear hl hll hkA hbA hIs hov5 hg5 hvb5
          go_wp2_with (at_builtin; refine wpList_append_run rfl (.tmp 83) (.tmp 84) #[32, 32] rfl _ _ _ _ rfl rfl hrun ?_)
          refine (HR.out w5 HK5.out).mono ?_
          rintro e w6 ⟨v6, rfl, hf6⟩
          have HK6 : Hid (Kept (fun _ => False) w0 w6) := Lib.hid (HK5.out.trans hf6.kept (fun _ _ f => f))
          have ⟨y0, y1⟩ := HBX.out w6 HK6.out
          have H6 := Lib.hid (H.out.keptN (HK0.out.trans HK6.out (fun _ _ f => f)))
          obtain ⟨g6, c6, e6, -, q1, -⟩ := H6.out.ref.row.at hk
          cases e6
          have r0 := H6.out.ref.c.1
          rw [HSN.out] at r0
          have HEQ := Lib.hid (equal_any w6 v6 S[k].bv (D.bytes s) S[k].bytes hf6.own.isB (H6.out.ref.own _ (List.getElem_mem hk)).isB)
          rw [HBY.out, show decide (S[k].bytes = S[k].bytes) = true from by simp, HKV.out] at HEQ
          rw [HKV.out] at q1
          obtain ⟨a6, c6', rfl, -, -⟩ := hf6.own.form
          clear hf6 x0 x1 hrun
          go_wp2_with fail
          refine HEQ.out.mono ?_
          rintro e w7 ⟨rfl, rfl⟩
          go_wp2_with fail
          go_ret
          exact ⟨rfl, HK0.out.trans HK6.out (fun _ _ f => f)⟩
end Go.Proofs.YtjnhkepgoghogaaDoor
