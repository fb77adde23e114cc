/- espalierref02: New, write, take. -/
import Derived.Test.YtjnhkepgoghogaaDoorRfdB
namespace Go.Proofs.YtjnhkepgoghogaaDoor
open Go.RowKit Go.ChangeMaps Go.MapKept
set_option linter.unusedSimpArgs false

theorem rnew_any (w : World) : Calls Tryd.prog 9 #[] w fun e w' => (∃ b, e = .returned (.pointer (some ⟨b, 0, none⟩)) ∧ w.heap.size ≤ b ∧ RefAt w' b (.slice none 0 0) [] ⟨[], 0, 0, false⟩) ∧ Kept (fun _ => False) w w' := by
  go_enter Tryd.func9, Tryd.ntmps9
  go_wp2
  go_ret
  refine ⟨⟨_, rfl, Nat.le_refl _, ⟨heap_alloc_new _ _, ⟨rfl, .inl ⟨rfl, rfl⟩⟩, rfl, by simp, List.Pairwise.nil, ⟨by simp, by simp, by simp, by simp, by simp, by simp [NodupA]⟩⟩⟩, (Kept.refl _ _).alloc _⟩

/-- A raw write of the document's disk. -/
def writeE (w w' : World) (b : Nat) (fv : Value) (S : List FileM) (e : Ending) : Option DM → Prop
  | none => e = .returned (.bool false) ∧ w = w'
  | some D' => e = .returned (.bool true) ∧ RefAt w' b fv S D' ∧ Kept (· = b) w w'
theorem RefAt.setW {w : World} {b : Nat} {fv : Value} {S : List FileM} {D D' : DM} (h : RefAt w b fv S D) {w' : World} (hk : Kept (· = b) w w') (hc : w'.heap[b]? = some (.cells #[fv, .int .i64 D'.writes, .int .i64 (if D'.cut = true then D'.left else -1)] 73 (0, 0))) (hf : D'.files = D.files) (ho : D'.Ok) : RefAt w' b fv S D' := by
  obtain ⟨n1, n2, n3⟩ := h.ne
  exact ⟨hc, h.row.keptF hk (fun g e f => n1 (e.trans (by rw [f]))), hf.trans h.sync, fun p hp => (h.own p hp).kept (fun g e => hk.block g ((h.own p hp).lt g e) (fun f => n2 p hp (e.trans (by rw [f])))), h.apart, ho⟩
theorem rwrite_any {w : World} {b : Nat} {fv : Value} {S : List FileM} {D : DM} (h : RefAt w b fv S D) (hw : D.writes < 4611686018427387904) :
    Calls Tryd.prog 67 #[.pointer (some ⟨b, 0, none⟩)] w fun e w' => writeE w w' b fv S e D.raw := by
  obtain ⟨-, c1, c2, cf⟩ := h.c
  have f1 := cf 1
  have f2 := cf 2
  have hok := h.ok
  have w0 := hok.w0
  have l0 := hok.l0
  have l1 := hok.l1
  have H := Lib.hid h
  unfold DM.raw
  by_cases hc : D.cut = true
  · rw [if_pos hc] at c2
    rw [if_pos hc]
    by_cases hl : D.left = 0
    · rw [if_pos hl]
      have hlb : (D.left == 0) = true := by simp [hl]
      clear h hok cf
      go_enter Tryd.func67, Tryd.ntmps67
      go_wp2_with fail
      go_ret
      exact ⟨rfl, rfl⟩
    · rw [if_neg hl]
      have hlb : (D.left == 0) = false := by simp [hl]
      have hlp : 0 < D.left := by omega
      have HR : Hid (D.raw = some { D with left := D.left - 1, writes := D.writes + 1 }) := Lib.hid (by unfold DM.raw; rw [if_pos hc, if_neg hl])
      have HC := Lib.hid hc
      clear h hok cf hc hl
      go_enter Tryd.func67, Tryd.ntmps67
      go_wp2_with fail
      go_ret
      have hk := ((Kept.refl (· = b) w).setCell (p := ⟨b, 2, none⟩) (fun _ => rfl) (.int .i64 (D.left - 1))).setCell (p := ⟨b, 1, none⟩) (fun _ => rfl) (.int .i64 (D.writes + 1))
      refine ⟨rfl, H.out.setW hk ?_ rfl (DM.raw_ok H.out.ok HR.out).1, hk⟩
      have h1 := heap_setCell_row (o := 1) (heap_setCell_row (o := 2) H.out.cell (.int .i64 (D.left - 1))) (.int .i64 (D.writes + 1))
      rw [h1]
      simp only [HC.out, if_true]
      rfl
  · rw [if_neg hc] at c2
    rw [if_neg hc]
    have HR : Hid (D.raw = some { D with writes := D.writes + 1 }) := Lib.hid (by unfold DM.raw; rw [if_neg hc])
    have HC := Lib.hid hc
    clear h hok cf hc
    go_enter Tryd.func67, Tryd.ntmps67
    go_wp2_with fail
    go_ret
    have hk := (Kept.refl (· = b) w).setCell (p := ⟨b, 1, none⟩) (fun _ => rfl) (.int .i64 (D.writes + 1))
    refine ⟨rfl, H.out.setW hk ?_ rfl (DM.raw_ok H.out.ok HR.out).1, hk⟩
    have h1 := heap_setCell_row (o := 1) H.out.cell (.int .i64 (D.writes + 1))
    rw [h1]
    rfl

/-- One file more in a row. -/
theorem OwnF.push {n0 : Nat} {w : World} {v : Value} {S : List FileM} (h : OwnF n0 w v S) (hk0 : n0 ≤ w.heap.size) (b : Nat) (p : FileM) (hb : w.heap[b]? = some (.cells #[.string p.name, p.bv] 76 (0, 0))) (hp : ∃ a n c, p.bv = .slice a n c) (hl : S.length + 1 ≤ 1000000000) :
    ∃ v' w', (Builtin.append_ #[71, 71] 71 #[v, .slice (some ⟨b, 0, none⟩) 1 1]).run Tryd.prog w = .ok v' w' ∧ OwnF n0 w' v' (S ++ [p]) ∧ Kept (fun k => v.ownBlock = some k) w w' ∧ (v'.ownBlock = v.ownBlock ∨ v'.ownBlock = some w.heap.size) := by
  have hinf : (Tryd.prog.info? 76).map (fun i => (i.zero, i.size, i.bytes)) = some (some (.agg #[.string { data := #[] }, .slice none 0 0]), 2, 40) := by kernel_rfl
  obtain ⟨i0, hi, hz0, hz1, hz2⟩ := info_parts hinf
  obtain ⟨v', w', hrun, ho2, hg2, -, hb2⟩ := run_append_own_at (P := Tryd.prog) w n0 71 71 76 i0 _ 2 40 Tryd.underlying71 hi hz0 hz1 hz2 rfl (by decide) _ _ _ h ⟨b, 0, none⟩ 1 1 [.string p.name, p.bv] rfl (by
    intro j u hu
    rw [addr_add]
    match j, hu with
    | 0, hu => cases hu; simp [World.cell?, hb]
    | 1, hu => cases hu; simp [World.cell?, hb]
    | j + 2, hu => simp at hu) (by
    intro u hu
    obtain ⟨a, n, c, e⟩ := hp
    simp only [List.mem_cons, List.not_mem_nil, or_false] at hu
    rcases hu with rfl | rfl
    · rfl
    · rw [e]; rfl) (by unfold maxLen; omega) (by omega) hk0
  refine ⟨v', w', hrun, ?_, Kept.grown (F := fun k => v.ownBlock = some k) (Kept.refl _ _) hg2 (fun k hk _ => hk), hb2⟩
  unfold OwnF
  rw [cellsF_append, List.length_append]
  have e : cellsF [p] = [.string p.name, p.bv] := by simp [cellsF]
  rw [e]
  exact ho2
theorem delA_filter {S : List FileM} (s : ByteArray) (hn : NodupA (filesD S)) : delA s (filesD S) = filesD (S.filter (fun p => !decide (p.name = s))) := by
  induction S with
  | nil => rfl
  | cons p S ih =>
    have hn' : NodupA (filesD S) := by unfold NodupA filesD at hn ⊢; simp only [List.map_cons, List.nodup_cons] at hn; exact hn.2
    by_cases h : p.name = s
    · have hno : ∀ q ∈ S, q.name ≠ s := fun q hq e => by
        unfold NodupA filesD at hn
        simp only [List.map_cons, List.nodup_cons, List.map_map] at hn
        exact hn.1 (List.mem_map.2 ⟨q, hq, by simp [e, h]⟩)
      have : S.filter (fun p => !decide (p.name = s)) = S := List.filter_eq_self.2 (fun q hq => by simpa using hno q hq)
      simp [filesD, delA, h, List.filter_cons, this]
    · simp only [filesD, List.map_cons, delA, if_neg h, List.filter_cons, decide_false, h, Bool.not_false, if_true] at ih ⊢
      rw [ih hn']
      rfl
theorem filter_take {S : List FileM} (q : FileM → Bool) {k : Nat} (hk : k < S.length) {p : FileM} (hp : S[k] = p) : (S.take (k + 1)).filter q = (S.take k).filter q ++ if q p = true then [p] else [] := by
  rw [List.take_succ_eq_append_getElem hk, List.filter_append, hp]
  cases h : q p <;> simp [h]

theorem OwnF.low {n0 n1 : Nat} {w : World} {v : Value} {S : List FileM} (h : OwnF n0 w v S) (hn : n1 ≤ n0) : OwnF n1 w v S := by
  obtain ⟨h1, h2⟩ := h
  refine ⟨h1, ?_⟩
  rcases h2 with h2 | ⟨g, cap, cur, e, hb, hr⟩
  · exact .inl h2
  · exact .inr ⟨g, cap, cur, e, Nat.le_trans hn hb, hr⟩
theorem keptCellR (w : World) (C i : Nat) (v : Value) : Kept (· = C) w (w.setCell ⟨C, i, none⟩ v) := (Kept.refl (· = C) w).setCell (p := ⟨C, i, none⟩) (fun _ => rfl) _
theorem RefAt.taken {w wr : World} {b : Nat} {fv fv' : Value} {S : List FileM} {D : DM} (h : RefAt w b fv S D) (s : ByteArray) (hk : Kept (fun _ => False) w wr) (ho : OwnF w.heap.size wr fv' (S.filter (fun p => !decide (p.name = s)))) : RefAt (wr.setCell ⟨b, 0, none⟩ fv') b fv' (S.filter (fun p => !decide (p.name = s))) (D.del s) ∧ Kept (· = b) w (wr.setCell ⟨b, 0, none⟩ fv') := by
  have hr := h.kept hk (fun _ _ f => f)
  have hb := h.lt b (.inl rfl)
  have hkc := keptCellR wr b 0 fv'
  refine ⟨⟨heap_setCell_row hr.cell fv', (ho.keptF hkc (fun g e e2 => ?_)).low (Nat.zero_le _), ?_, fun p hp => ?_, h.apart.filter _, DM.del_ok h.ok s⟩, (hk.mono (fun _ _ f => f.elim)).trans hkc (fun _ _ e => e)⟩
  · have := (ownsRow_blockR ho e).1
    omega
  · show delA s D.files = _
    rw [h.sync]
    exact delA_filter s (by rw [← h.sync]; exact h.ok.nodup)
  · have hp' := (List.mem_filter.1 hp).1
    exact (hr.own p hp').kept (fun g e => hkc.block g ((hr.own p hp').lt g e) (fun e2 => h.ne.2.1 p hp' (by rw [e, e2])))
set_option maxRecDepth 100000 in
set_option maxHeartbeats 1000000 in
/-- A file is taken away. -/
theorem rtake_any {w : World} {b : Nat} {fv : Value} {S : List FileM} {D : DM} (h : RefAt w b fv S D) (s : ByteArray) :
    Calls Tryd.prog 70 #[.pointer (some ⟨b, 0, none⟩), .string s] w fun e w' => e = .returned (.tuple #[]) ∧ (∃ fv', RefAt w' b fv' (S.filter (fun p => !decide (p.name = s))) (D.del s) ∧ ∀ g, fv'.ownBlock = some g → w.heap.size ≤ g) ∧ Kept (· = b) w w' := by
  obtain ⟨a, c, rfl, h1, h2⟩ := h.row.form
  have c0 := h.c.1
  have H := Lib.hid h
  obtain ⟨n, hn⟩ : ∃ n, S.length = n := ⟨_, rfl⟩
  rw [hn] at c0
  have HN := Lib.hid hn
  have hcnt := h.ok.count
  have hlen := h.len
  have hn2 : n ≤ 256 := by omega
  clear h h1 h2 hn hcnt hlen
  go_enter Tryd.func70, Tryd.ntmps70
  go_wp2_with fail
  go_loopg [4, 12] n (fun g lv i wr => ∃ k : Nat, k + g = n ∧ i = .int .i64 k ∧ Hid (OwnF w.heap.size wr lv ((S.take k).filter (fun p => !decide (p.name = s)))) ∧ Hid (Kept (fun _ => False) w wr))
  case atStart => exact ⟨0, by omega, rfl, Lib.hid ⟨rfl, .inl ⟨rfl, rfl⟩⟩, Lib.hid (Kept.refl _ _)⟩
  case round =>
    clear c0
    obtain ⟨k, hk, rfl, HO, HK⟩ := hrel
    obtain ⟨la, lc, rfl, -, -⟩ := HO.out.form
    obtain ⟨ln, hln⟩ : ∃ n, ((S.take k).filter (fun p => !decide (p.name = s))).length = n := ⟨_, rfl⟩
    rw [hln] at HO ⊢
    have HLN := Lib.hid hln
    clear hln
    by_cases hlt : k < n
    · have hkl : k < S.length := by have := HN.out; omega
      obtain ⟨g, c', e, c1, c2, -⟩ := (H.out.kept HK.out (fun _ _ f => f)).row.at hkl
      cases e
      have hvf : ∃ a n c, S[k].bv = .slice a n c := by
        obtain ⟨a, c, e, -⟩ := (H.out.own _ (List.getElem_mem hkl)).form
        exact ⟨a, _, c, e⟩
      obtain ⟨p, hp⟩ : ∃ p, S[k] = p := ⟨_, rfl⟩
      rw [hp] at c1 c2 hvf
      have HF := Lib.hid (filter_take (fun p : FileM => !decide (p.name = s)) hkl hp)
      obtain ⟨y, v, x⟩ := p
      simp only at c1 c2 hvf
      obtain ⟨va, vn, vc, rfl⟩ := hvf
      clear hp
      obtain ⟨W1, hW1⟩ : ∃ W, wr.alloc (.cells #[.string y, .slice va vn vc] 76) = W := ⟨_, rfl⟩
      have hk1 : Kept (fun _ => False) wr W1 := by rw [← hW1]; exact (Kept.refl _ _).alloc _
      by_cases hxy : y = s
      · have HO' : Hid (OwnF w.heap.size W1 (.slice la ln lc) ((S.take (k + 1)).filter (fun p => !decide (p.name = s)))) := Lib.hid (by rw [HF.out]; simp [hxy]; exact HO.out.keptF hk1 (fun _ _ f => f))
        have HK' : Hid (Kept (fun _ => False) w W1) := Lib.hid (HK.out.trans hk1 (fun _ _ f => f))
        subst hxy
        clear hk1
        subst hW1
        go_wp2_with fail
        go_roundg (gk - 1)
        case measure => omega
        case rel => exact ⟨k + 1, by omega, by go_num, HO', HK'⟩
      · have hxyb := (Lib.bytes_beq_false_iff y s).2 hxy
        have b1 : W1.heap[wr.heap.size]? = some (.cells #[.string y, .slice va vn vc] 76 (0, 0)) := by rw [← hW1]; exact heap_alloc_new _ _
        obtain ⟨W2, hW2⟩ : ∃ W, W1.alloc (.cells #[.string y, .slice va vn vc] 76) = W := ⟨_, rfl⟩
        have hk2 : Kept (fun _ => False) W1 W2 := by rw [← hW2]; exact (Kept.refl _ _).alloc _
        have b2 : W2.heap[W1.heap.size]? = some (.cells #[.string y, .slice va vn vc] 76 (0, 0)) := by rw [← hW2]; exact heap_alloc_new _ _
        have hkx := HK.out.trans hk1 (fun _ _ f => f)
        have hky := hkx.trans hk2 (fun _ _ f => f)
        obtain ⟨v', W3, hrun, ho3, hk3, -⟩ := ((HO.out.keptF hk1 (fun _ _ f => f)).keptF hk2 (fun _ _ f => f)).push (p := ⟨y, .slice va vn vc, x⟩) hky.size W1.heap.size b2 ⟨va, vn, vc, rfl⟩ (by
          have h1 := List.length_filter_le (fun p : FileM => !decide (p.name = s)) (S.take k)
          rw [List.length_take] at h1
          omega)
        have HO' : Hid (OwnF w.heap.size W3 v' ((S.take (k + 1)).filter (fun p => !decide (p.name = s)))) := Lib.hid (by rw [HF.out]; simp only [hxy, decide_false, Bool.not_false, if_true]; exact ho3)
        have HK' : Hid (Kept (fun _ => False) w W3) := Lib.hid (hky.more hk3 (fun i e => (ownsRow_blockR HO.out e).1))
        have ⟨t0, t1, _⟩ : W1.cell? ⟨wr.heap.size, 0, none⟩ = some (.string y) ∧ W1.cell? ⟨wr.heap.size, 1, none⟩ = some (.slice va vn vc) ∧ True := ⟨by simp [World.cell?, b1], by simp [World.cell?, b1], trivial⟩
        clear hk1 hk2 hk3 ho3 b1 b2 hkx hky
        go_wp2_with (at_builtin; refine wpList_append_run rfl (.tmp 20) (.tmp 22) #[71, 71] rfl _ _ _ _ rfl rfl hrun ?_)
        go_roundg (gk - 1)
        case measure => omega
        case rel => exact ⟨k + 1, by omega, by go_num, HO', HK'⟩
    · obtain rfl : k = n := by omega
      have hO := HO.out
      rw [List.take_of_length_le (Nat.le_of_eq HN.out)] at hO
      have HO2 := Lib.hid hO
      have hcell := (HK.out.block b (H.out.lt b (.inl rfl)) (fun f => f)).trans H.out.cell
      have f0 : wr.cell? ⟨b, 0, none⟩ = some (.slice a k c) := by rw [← HN.out]; simp [World.cell?, hcell]
      have f1 : wr.frozen? ⟨b, 0, none⟩ = false := by simp [World.frozen?, hcell]
      have HCE := Lib.hid hcell
      have HFIN := Lib.hid (H.out.taken s HK.out HO2.out)
      clear hO hcell
      go_wp2_with fail
      go_end0
      exact ⟨rfl, ⟨_, HFIN.out.1, fun g e => (ownsRow_blockR HO2.out e).1⟩, HFIN.out.2⟩
end Go.Proofs.YtjnhkepgoghogaaDoor
