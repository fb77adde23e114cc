/- disk: Append. -/
import Derived.Test.YtinmjgaaehdicaaDiskB
import Derived.Deep.Cut
namespace Go.Proofs.Ytinmjgaaehdicaa
open Go.RowKit Go.ChangeMaps Go.MapKept

/-- What is known at the end of a call that may have changed a disk and answers an error's number. -/
def EndD (w : World) (b m : Nat) (es : Array MapEntry) (r : Int) (D' : DM) (e : Ending) (w' : World) : Prop :=
  e = .returned (.int .i64 r) ∧ ∃ es' clock', DiskAfter w b m es D' w' es' clock'

theorem EndD.same {w w' : World} {b m : Nat} {es : Array MapEntry} {clock : Nat} {D : DM} (h : DiskAt w b m es clock D) (r : Int) (hk : Kept (fun _ => False) w w') : EndD w b m es r D (.returned (.int .i64 r)) w' :=
  ⟨rfl, es, clock, h.kept hk (fun _ _ hf => hf), fun _ hk => .inl hk, hk.mono fun _ _ hf => hf.elim⟩

theorem two_new (w : World) (x y : Value) (t u : TypeId) : ∃ w2, (w.alloc (.cells #[x] t)).alloc (.cells #[y] u) = w2 ∧ Kept (fun _ => False) w w2 ∧ w2.heap.size = w.heap.size + 2 ∧
    w2.cell? ⟨w.heap.size, 0, none⟩ = some x ∧ w2.cell? ⟨w.heap.size + 1, 0, none⟩ = some y :=
  ⟨_, rfl, ((Kept.refl _ w).alloc _).alloc _, by simp, by simp, by simp⟩

theorem len_map {P : Program} {T K E m : TypeId} {es : Array MapEntry} {clock : Nat} (hT : P.underlying T = some (.map K E)) (ty : TypeId) (w : World) (hm : w.heap[m]? = some (.map es clock)) :
    (Builtin.len_ #[T] ty #[.map (some m)]).run P w = .ok (.int .i64 es.size) w := by
  simp [Builtin.len_, run_underlying hT, MapKept.run_getObj_map hm, Result.andThen, goInt]

section
variable {w : World} {b m : Nat} {es : Array MapEntry} {clock : Nat} {D : DM} {s : ByteArray}

theorem DiskAfter.after {w w1 w2 : World} {b m : Nat} {es es1 : Array MapEntry} {c1 : Nat} {D1 : DM} (h : DiskAfter w b m es D1 w1 es1 c1) (k : Kept (fun _ => False) w1 w2) : DiskAfter w b m es D1 w2 es1 c1 :=
  ⟨h.disk.kept k (fun _ _ hf => hf), h.foot, h.kept.trans k fun _ _ hf => hf.elim⟩

theorem ob_same (a : Option Addr) (n c n' c' : Nat) : (Value.slice a n c).ownBlock = (Value.slice a n' c').ownBlock := by cases a <;> rfl

/-- How long a slice value is. -/
def lenOfV : Value → Nat | .slice _ n _ => n | _ => 0



set_option maxRecDepth 100000 in
set_option maxHeartbeats 1000000 in
theorem append_any (h : DiskAt w b m es clock D) (hs : s.size ≤ maxLen) (a : Option Addr) (c : Nat) (bs : List UInt8) (hv : IsB w (.slice a bs.length c) bs) (hsep : bs ≠ [] → ∀ g, (Value.slice a bs.length c).ownBlock = some g → ¬ diskF b m es g) (hw : D.writes < 2305843009213693952) :
    Calls Try.prog 13 #[.pointer (some ⟨b, 0, none⟩), .string s, .slice a bs.length c] w (EndD w b m es (D.append s bs).1 (D.append s bs).2) := by
  obtain ⟨w2, hw2, hk, hsz, hBd, hBn⟩ := two_new w (.pointer (some ⟨b, 0, none⟩)) (.string s) 24 9
  have hlt : ∀ k, diskF b m es k → k < w.heap.size := h.lt
  have h1 : DiskAt w2 b m es clock D := h.kept hk (fun _ _ hf => hf)
  have hv2 : IsB w2 (.slice a bs.length c) bs := hv.keptF hk (fun _ _ hf => hf)
  have hbl : bs.length ≤ 9223372036854775807 := by obtain ⟨_, _, hx, h5, h6, _⟩ := hv; unfold maxLen at h6; omega
  go_enter Try.func13, Try.ntmps13
  go_wp2_with fail
  clear hw2
  go_step3
  cases hm : mayB s with
  | false =>
    have HM := Lib.hid hm; clear hm
    go_wp2_with (go_at_call 43; refine (may_any _ _ hs).mono ?_; rw [HM.out]; rintro e w' ⟨rfl, rfl⟩)
    (try rw [Exit.noGoto_ret])
    go_ret
    have e1 : D.append s bs = (2, D) := by unfold DM.append; rw [if_pos HM.out]
    rw [e1]
    exact EndD.same h 2 hk
  | true =>
    have HM := Lib.hid hm; clear hm
    go_wp2_with (go_at_call 43; refine (may_any _ _ hs).mono ?_; rw [HM.out]; rintro e w' ⟨rfl, rfl⟩)
    obtain ⟨old, hl, hold, holdf, ho⟩ := h1.look s true
    obtain ⟨oa, oc, rfl, -, -⟩ := hold.form
    have hc0 := h1.c0
    have hes : es.size = D.files.length := by have := h1.rel.length; rw [← this]; simp
    have hole := DM.bytes_le h1.ok s
    have hlen : ∀ n, (Builtin.len_ #[85] 3 #[.map (some m)]).run Try.prog (w2.drewN n) = .ok (.int .i64 es.size) (w2.drewN n) := fun n => len_map Try.underlying85 _ _ h1.map
    rw [hes] at hlen
    have hcnt := h1.ok.count
    clear hes
    cases hg : getA s D.files with
    | none =>
      rw [hg] at hl
      have HG := Lib.hid hg; clear hg
      by_cases h256 : D.files.length = 256
      · have H256 := Lib.hid h256
        rw [h256] at hlen
        clear h256
        go_quiet (fail)
        rename_i nq
        have hl2 := hlen nq
        go_wp2
        (try rw [Exit.noGoto_ret])
        go_ret
        have e1 : D.append s bs = (3, D) := by unfold DM.append; rw [if_neg (by rw [HM.out]; simp), if_pos ⟨HG.out, H256.out⟩]
        rw [e1]
        exact EndD.same h 3 (hk.drewN nq)
      · have H256 := Lib.hid h256
        have hfalse : ((D.files.length : Int) == 256) = false := by simp; omega
        clear h256
        go_quiet (fail)
        rename_i nq
        have hl2 := hlen nq
        by_cases hbig : 4194304 < (D.bytes s).length + bs.length
        · go_wp2
          (try rw [Exit.noGoto_ret])
          go_ret
          have e1 : D.append s bs = (3, D) := by unfold DM.append; rw [if_neg (by rw [HM.out]; simp), if_neg (fun e => H256.out e.2), if_pos hbig]
          rw [e1]
          exact EndD.same h 3 (hk.drewN nq)
        · go_wp2_with fail
          · have hz : bs = [] := by assumption
            have h3 : DiskAt (w2.drewN nq) b m es clock D := h1.kept ((Kept.refl (fun _ => False) _).drewN nq) (fun _ _ hf => hf)
            have hnF : ∀ k, w.heap.size ≤ k → ¬ diskF b m es k := fun k hk hf => by have := hlt k hf; omega
            have e0 : D.append s bs = match D.raw with | none => (6, D) | some D' => (0, D'.put s []) := by
              unfold DM.append; rw [if_neg (by rw [HM.out]; simp), if_neg (fun e => H256.out e.2), if_neg hbig, if_pos ⟨hz, HG.out⟩]; cases D.raw <;> rfl
            cases hraw : D.raw with
            | none =>
              rw [hraw] at e0
              refine (raw_no h3 hraw _).mono ?_
              clear hraw
              rintro e w5 ⟨rfl, rfl⟩
              have E0 := Lib.hid e0; clear e0
              go_wp2
              (try rw [Exit.noGoto_ret])
              go_ret
              rw [E0.out]
              exact EndD.same h 6 (hk.drewN nq)
            | some D' =>
              rw [hraw] at e0
              refine (raw_app1 h3 hraw (by omega) w.heap.size (w.heap.size + 1) s hBd hBn (fun e => hnF _ (Nat.le_refl _) (.inl e)) (fun e => hnF _ (Nat.le_succ _) (.inl e)) HM.out (by have := H256.out; omega)).mono ?_
              clear hraw
              rintro e w5 ⟨rfl, es2, clock2, hr8⟩
              have E0 := Lib.hid e0; clear e0
              go_wp2
              (try rw [Exit.noGoto_ret])
              go_ret
              rw [E0.out]
              exact ⟨rfl, es2, clock2, DiskAfter.of_kept (hk.drewN nq) hr8⟩
          · have hz : bs ≠ [] := by assumption
            have h3 : DiskAt (w2.drewN nq) b m es clock D := h1.kept ((Kept.refl (fun _ => False) _).drewN nq) (fun _ _ hf => hf)
            have hk3 : Kept (fun _ => False) w (w2.drewN nq) := hk.drewN nq
            have hBd3 : (w2.drewN nq).cell? ⟨w.heap.size, 0, none⟩ = some (.pointer (some ⟨b, 0, none⟩)) := hBd
            have hBn3 : (w2.drewN nq).cell? ⟨w.heap.size + 1, 0, none⟩ = some (.string s) := hBn
            have hv3 : IsB (w2.drewN nq) (.slice a bs.length c) bs := hv2.kept (Nat.le_refl _) (fun _ _ => rfl)
            have hsz3 : (w2.drewN nq).heap.size = w.heap.size + 2 := hsz
            clear hl hlen hl2 hold holdf ho hBd hBn hv2 h1 hk hc0 hfalse
            generalize w2.drewN nq = w3 at *
            go_step3
            go_wp2_with fail
            go_loopw [2, 6] (fun v2 v6 wr => ∃ (a' : Option Addr) (c' : Nat) (rest : List UInt8) (es1 : Array MapEntry) (clock1 : Nat) (D1 : DM), v2 = .slice a' rest.length c' ∧ IsB w3 (.slice a' rest.length c') rest ∧ (rest ≠ [] → ∀ g, (Value.slice a' rest.length c').ownBlock = some g → ¬ diskF b m es g) ∧ v6 = .int .i64 0 ∧
                DiskAfter w3 b m es D1 wr es1 clock1 ∧ Hid (DM.pieces s rest D1 = DM.pieces s bs D) ∧ (D1.bytes s).length + rest.length ≤ 4194304 ∧ D1.writes + rest.length < 2305843009213693952 + 4194304 ∧ (getA s D1.files = none → D1.files.length < 256))
              (fun v2 _ _ => lenOfV v2)
            case atStart => exact ⟨a, c, bs, es, clock, D, rfl, hv3, hsep, rfl, ⟨h3, fun _ hk => .inl hk, Kept.refl _ _⟩, rfl, by omega, by omega, fun _ => by have := H256.out; omega⟩
            case round =>
              obtain ⟨a', c', rest, es1, clock1, D1, rfl, hr1, hr2, rfl, hr3, hr4, hr5, hr6, hr7⟩ := hrel
              have hbd1 := hr1
              obtain ⟨_, _, _, hcr, hcm, _⟩ := hbd1
              have hwr : Kept (diskF b m es) w3 wr := hr3.kept
              have hwsz : w.heap.size + 2 ≤ wr.heap.size := by have := hwr.size; omega
              have hnF : ∀ k, w.heap.size ≤ k → ¬ diskF b m es k := fun k hk hf => by have := hlt k hf; omega
              have hBdr := hwr.cell hBd3 (hnF _ (Nat.le_refl _))
              have hBnr := hwr.cell hBn3 (hnF _ (Nat.le_succ _))
              have hr1r := hr1.keptS hwr hr2
              by_cases hrz : rest.length = 0
              · obtain rfl : rest = [] := List.length_eq_zero_iff.1 hrz
                go_wp2
                (try rw [Exit.noGoto_ret])
                go_ret
                have e1 : D.append s bs = (0, D1) := by rw [show D.append s bs = DM.pieces s bs D from by unfold DM.append; rw [if_neg (by rw [HM.out]; simp), if_neg (fun e => H256.out e.2), if_neg hbig, if_neg (fun e => hz e.1)]]; rw [← hr4.out]; exact DM.pieces_nil s D1
                rw [e1]
                exact ⟨rfl, es1, clock1, DiskAfter.of_kept hk3 hr3⟩
              · by_cases h32 : 32 < rest.length
                · skip
                  have hsh := (bytes_high hr1r (k := 32) (by omega)).1
                  have hph := (bytes_high hr1r (k := 32) (by omega)).2
                  obtain ⟨a2, hsl, hrl, hrb, ha2⟩ := bytes_low hr1 (k := 32) (by omega)
                  have HA2 := Lib.hid ha2; clear ha2
                  obtain ⟨w4, hw4, hk4, hsz4, hBp⟩ := one_new wr (.slice a' 32 c') 22
                  have hBd4 := hk4.cell hBdr (fun h => h)
                  have hBn4 := hk4.cell hBnr (fun h => h)
                  have hne : rest ≠ [] := fun e => hrz (by rw [e]; rfl)
                  have hblt := hr1.block_lt hne
                  have hd4 : DiskAt w4 b m es1 clock1 D1 := hr3.disk.kept hk4 (fun _ _ hf => hf)
                  have hn1 : ∀ k, ¬ diskF b m es k → k < w3.heap.size → ¬ diskF b m es1 k := fun k h1 h2 hf => by
                    rcases hr3.foot k hf with h | h
                    · exact h1 h
                    · omega
                  have hph4 := hph.keptF hk4 (fun _ _ hf => hf)
                  go_wp2_with fail
                  cases hraw : D1.raw with
                  | none =>
                    have HR := Lib.hid hraw
                    refine (raw_no hd4 hraw _).mono ?_
                    clear hraw
                    rintro e w5 ⟨rfl, rfl⟩
                    clear hsh hsl hw4
                    go_wp2
                    (try rw [Exit.noGoto_ret])
                    go_ret
                    have e1 : D.append s bs = (6, D1) := by rw [show D.append s bs = DM.pieces s bs D from by unfold DM.append; rw [if_neg (by rw [HM.out]; simp), if_neg (fun e => H256.out e.2), if_neg hbig, if_neg (fun e => hz e.1)]]; rw [← hr4.out]; exact DM.pieces_no hne HR.out
                    rw [e1]
                    exact ⟨rfl, es1, clock1, DiskAfter.of_kept hk3 (hr3.after hk4)⟩
                  | some D1' =>
                    have HR := Lib.hid hraw
                    refine (raw_app2 hd4 hraw (by omega) w.heap.size (w.heap.size + 1) wr.heap.size s (.slice a' 32 c') (rest.take 32) hBd4 hBn4 hBp
                      (hn1 _ (hnF _ (Nat.le_refl _)) (by omega)) (hn1 _ (hnF _ (Nat.le_succ _)) (by omega)) (fun hf => by have := hr3.disk.lt _ hf; omega) hph4 (fun g hg => hn1 g (hr2 hne g ((ob_same _ _ _ _ _).trans hg)) (hblt g ((ob_same _ _ _ _ _).trans hg))) HM.out hr7 (by simp only [List.length_take]; omega)).mono ?_
                    clear hraw
                    rintro e w5 ⟨rfl, es2, clock2, hr8⟩
                    clear hsh hsl hw4
                    go_wp2
                    go_roundw
                    case rel =>
                      refine ⟨a2, c' - 32, rest.drop 32, es2, clock2, _, by first | (simp; done) | (rw [HA2.out, if_neg (by omega)]; simp [Addr.add]), by simpa using hrl, fun _ g hg => hr2 hne g (hrb g ((ob_same _ _ _ _ _).trans hg)), rfl, hr3.trans (DiskAfter.of_kept hk4 hr8), ?_, ?_, ?_, fun e => ?_⟩
                      · rw [← hr4.out]; exact (DM.pieces_step hne HR.out (by omega)).symm
                      · rw [DM.bytes_put]
                        have := (DM.raw_ok hr3.disk.ok HR.out).2.2.1
                        simp only [DM.bytes, this] at hr5 ⊢
                        simp only [List.length_append, List.length_take, List.length_drop]
                        omega
                      · have := (DM.raw_ok hr3.disk.ok HR.out).2.1
                        simp only [DM.put, this, List.length_drop]
                        omega
                      · rw [DM.get_put] at e; cases e
                    case measure => simp [lenOfV]; omega
                · skip
                  have hsh := (bytes_high hr1r (k := rest.length) (by omega)).1
                  have hph := (bytes_high hr1r (k := rest.length) (by omega)).2
                  obtain ⟨a2, hsl, hrl, hrb, ha2⟩ := bytes_low hr1 (k := rest.length) (by omega)
                  have HA2 := Lib.hid ha2; clear ha2
                  obtain ⟨w4, hw4, hk4, hsz4, hBp⟩ := one_new wr (.slice a' rest.length c') 22
                  have hBd4 := hk4.cell hBdr (fun h => h)
                  have hBn4 := hk4.cell hBnr (fun h => h)
                  have hne : rest ≠ [] := fun e => hrz (by rw [e]; rfl)
                  have hblt := hr1.block_lt hne
                  have hd4 : DiskAt w4 b m es1 clock1 D1 := hr3.disk.kept hk4 (fun _ _ hf => hf)
                  have hn1 : ∀ k, ¬ diskF b m es k → k < w3.heap.size → ¬ diskF b m es1 k := fun k h1 h2 hf => by
                    rcases hr3.foot k hf with h | h
                    · exact h1 h
                    · omega
                  have hph4 := hph.keptF hk4 (fun _ _ hf => hf)
                  go_wp2_with fail
                  cases hraw : D1.raw with
                  | none =>
                    have HR := Lib.hid hraw
                    refine (raw_no hd4 hraw _).mono ?_
                    clear hraw
                    rintro e w5 ⟨rfl, rfl⟩
                    clear hsh hsl hw4
                    go_wp2
                    (try rw [Exit.noGoto_ret])
                    go_ret
                    have e1 : D.append s bs = (6, D1) := by rw [show D.append s bs = DM.pieces s bs D from by unfold DM.append; rw [if_neg (by rw [HM.out]; simp), if_neg (fun e => H256.out e.2), if_neg hbig, if_neg (fun e => hz e.1)]]; rw [← hr4.out]; exact DM.pieces_no hne HR.out
                    rw [e1]
                    exact ⟨rfl, es1, clock1, DiskAfter.of_kept hk3 (hr3.after hk4)⟩
                  | some D1' =>
                    have HR := Lib.hid hraw
                    refine (raw_app2 hd4 hraw (by omega) w.heap.size (w.heap.size + 1) wr.heap.size s (.slice a' rest.length c') (rest.take rest.length) hBd4 hBn4 hBp
                      (hn1 _ (hnF _ (Nat.le_refl _)) (by omega)) (hn1 _ (hnF _ (Nat.le_succ _)) (by omega)) (fun hf => by have := hr3.disk.lt _ hf; omega) hph4 (fun g hg => hn1 g (hr2 hne g ((ob_same _ _ _ _ _).trans hg)) (hblt g ((ob_same _ _ _ _ _).trans hg))) HM.out hr7 (by simp only [List.length_take]; omega)).mono ?_
                    clear hraw
                    rintro e w5 ⟨rfl, es2, clock2, hr8⟩
                    clear hsh hsl hw4
                    go_wp2
                    go_roundw
                    case rel =>
                      refine ⟨a2, c' - rest.length, rest.drop rest.length, es2, clock2, _, by first | (simp; done) | (rw [HA2.out, if_neg (by omega)]; simp [Addr.add]), by simpa using hrl, fun _ g hg => hr2 hne g (hrb g ((ob_same _ _ _ _ _).trans hg)), rfl, hr3.trans (DiskAfter.of_kept hk4 hr8), ?_, ?_, ?_, fun e => ?_⟩
                      · rw [← hr4.out]; exact (DM.pieces_step hne HR.out (by omega)).symm
                      · rw [DM.bytes_put]
                        have := (DM.raw_ok hr3.disk.ok HR.out).2.2.1
                        simp only [DM.bytes, this] at hr5 ⊢
                        simp only [List.length_append, List.length_take, List.length_drop]
                        omega
                      · have := (DM.raw_ok hr3.disk.ok HR.out).2.1
                        simp only [DM.put, this, List.length_drop]
                        omega
                      · rw [DM.get_put] at e; cases e
                    case measure => simp [lenOfV]; omega
    | some old0 =>
      rw [hg] at hl
      have HG := Lib.hid hg; clear hg
      have hfalse := trivial
      have hl2 := trivial
      go_quiet (fail)
      rename_i nq
      by_cases hbig : 4194304 < (D.bytes s).length + bs.length
      · go_wp2
        (try rw [Exit.noGoto_ret])
        go_ret
        have e1 : D.append s bs = (3, D) := by unfold DM.append; rw [if_neg (by rw [HM.out]; simp), if_neg (fun e => by rw [HG.out] at e; cases e.1), if_pos hbig]
        rw [e1]
        exact EndD.same h 3 (hk.drewN nq)
      · by_cases hz : bs.length = 0
        · have hzb : ((bs.length : Int) == 0) = true := by simp [hz]
          clear hz
          go_wp2_with fail
          have h3 : DiskAt (w2.drewN nq) b m es clock D := h1.kept ((Kept.refl (fun _ => False) _).drewN nq) (fun _ _ hf => hf)
          have hk3 : Kept (fun _ => False) w (w2.drewN nq) := hk.drewN nq
          have hBd3 : (w2.drewN nq).cell? ⟨w.heap.size, 0, none⟩ = some (.pointer (some ⟨b, 0, none⟩)) := hBd
          have hBn3 : (w2.drewN nq).cell? ⟨w.heap.size + 1, 0, none⟩ = some (.string s) := hBn
          have hv3 : IsB (w2.drewN nq) (.slice a bs.length c) bs := hv2.kept (Nat.le_refl _) (fun _ _ => rfl)
          have hsz3 : (w2.drewN nq).heap.size = w.heap.size + 2 := hsz
          clear hl hlen hl2 hold holdf ho hBd hBn hv2 h1 hk hc0 hfalse
          generalize w2.drewN nq = w3 at *
          go_step3
          go_wp2_with fail
          go_loopw [2, 6] (fun v2 v6 wr => ∃ (a' : Option Addr) (c' : Nat) (rest : List UInt8) (es1 : Array MapEntry) (clock1 : Nat) (D1 : DM), v2 = .slice a' rest.length c' ∧ IsB w3 (.slice a' rest.length c') rest ∧ (rest ≠ [] → ∀ g, (Value.slice a' rest.length c').ownBlock = some g → ¬ diskF b m es g) ∧ v6 = .int .i64 0 ∧
              DiskAfter w3 b m es D1 wr es1 clock1 ∧ Hid (DM.pieces s rest D1 = DM.pieces s bs D) ∧ (D1.bytes s).length + rest.length ≤ 4194304 ∧ D1.writes + rest.length < 2305843009213693952 + 4194304 ∧ (getA s D1.files = none → D1.files.length < 256))
            (fun v2 _ _ => lenOfV v2)
          case atStart => exact ⟨a, c, bs, es, clock, D, rfl, hv3, hsep, rfl, ⟨h3, fun _ hk => .inl hk, Kept.refl _ _⟩, rfl, by omega, by omega, fun e => by rw [HG.out] at e; cases e⟩
          case round =>
            obtain ⟨a', c', rest, es1, clock1, D1, rfl, hr1, hr2, rfl, hr3, hr4, hr5, hr6, hr7⟩ := hrel
            have hbd1 := hr1
            obtain ⟨_, _, _, hcr, hcm, _⟩ := hbd1
            have hwr : Kept (diskF b m es) w3 wr := hr3.kept
            have hwsz : w.heap.size + 2 ≤ wr.heap.size := by have := hwr.size; omega
            have hnF : ∀ k, w.heap.size ≤ k → ¬ diskF b m es k := fun k hk hf => by have := hlt k hf; omega
            have hBdr := hwr.cell hBd3 (hnF _ (Nat.le_refl _))
            have hBnr := hwr.cell hBn3 (hnF _ (Nat.le_succ _))
            have hr1r := hr1.keptS hwr hr2
            by_cases hrz : rest.length = 0
            · obtain rfl : rest = [] := List.length_eq_zero_iff.1 hrz
              go_wp2
              (try rw [Exit.noGoto_ret])
              go_ret
              have e1 : D.append s bs = (0, D1) := by rw [show D.append s bs = DM.pieces s bs D from by unfold DM.append; rw [if_neg (by rw [HM.out]; simp), if_neg (fun e => by rw [HG.out] at e; cases e.1), if_neg hbig, if_neg (fun e => by rw [HG.out] at e; cases e.2)]]; rw [← hr4.out]; exact DM.pieces_nil s D1
              rw [e1]
              exact ⟨rfl, es1, clock1, DiskAfter.of_kept hk3 hr3⟩
            · by_cases h32 : 32 < rest.length
              · skip
                have hsh := (bytes_high hr1r (k := 32) (by omega)).1
                have hph := (bytes_high hr1r (k := 32) (by omega)).2
                obtain ⟨a2, hsl, hrl, hrb, ha2⟩ := bytes_low hr1 (k := 32) (by omega)
                have HA2 := Lib.hid ha2; clear ha2
                obtain ⟨w4, hw4, hk4, hsz4, hBp⟩ := one_new wr (.slice a' 32 c') 22
                have hBd4 := hk4.cell hBdr (fun h => h)
                have hBn4 := hk4.cell hBnr (fun h => h)
                have hne : rest ≠ [] := fun e => hrz (by rw [e]; rfl)
                have hblt := hr1.block_lt hne
                have hd4 : DiskAt w4 b m es1 clock1 D1 := hr3.disk.kept hk4 (fun _ _ hf => hf)
                have hn1 : ∀ k, ¬ diskF b m es k → k < w3.heap.size → ¬ diskF b m es1 k := fun k h1 h2 hf => by
                  rcases hr3.foot k hf with h | h
                  · exact h1 h
                  · omega
                have hph4 := hph.keptF hk4 (fun _ _ hf => hf)
                go_wp2_with fail
                cases hraw : D1.raw with
                | none =>
                  have HR := Lib.hid hraw
                  refine (raw_no hd4 hraw _).mono ?_
                  clear hraw
                  rintro e w5 ⟨rfl, rfl⟩
                  clear hsh hsl hw4
                  go_wp2
                  (try rw [Exit.noGoto_ret])
                  go_ret
                  have e1 : D.append s bs = (6, D1) := by rw [show D.append s bs = DM.pieces s bs D from by unfold DM.append; rw [if_neg (by rw [HM.out]; simp), if_neg (fun e => by rw [HG.out] at e; cases e.1), if_neg hbig, if_neg (fun e => by rw [HG.out] at e; cases e.2)]]; rw [← hr4.out]; exact DM.pieces_no hne HR.out
                  rw [e1]
                  exact ⟨rfl, es1, clock1, DiskAfter.of_kept hk3 (hr3.after hk4)⟩
                | some D1' =>
                  have HR := Lib.hid hraw
                  refine (raw_app2 hd4 hraw (by omega) w.heap.size (w.heap.size + 1) wr.heap.size s (.slice a' 32 c') (rest.take 32) hBd4 hBn4 hBp
                    (hn1 _ (hnF _ (Nat.le_refl _)) (by omega)) (hn1 _ (hnF _ (Nat.le_succ _)) (by omega)) (fun hf => by have := hr3.disk.lt _ hf; omega) hph4 (fun g hg => hn1 g (hr2 hne g ((ob_same _ _ _ _ _).trans hg)) (hblt g ((ob_same _ _ _ _ _).trans hg))) HM.out hr7 (by simp only [List.length_take]; omega)).mono ?_
                  clear hraw
                  rintro e w5 ⟨rfl, es2, clock2, hr8⟩
                  clear hsh hsl hw4
                  go_wp2
                  go_roundw
                  case rel =>
                    refine ⟨a2, c' - 32, rest.drop 32, es2, clock2, _, by first | (simp; done) | (rw [HA2.out, if_neg (by omega)]; simp [Addr.add]), by simpa using hrl, fun _ g hg => hr2 hne g (hrb g ((ob_same _ _ _ _ _).trans hg)), rfl, hr3.trans (DiskAfter.of_kept hk4 hr8), ?_, ?_, ?_, fun e => ?_⟩
                    · rw [← hr4.out]; exact (DM.pieces_step hne HR.out (by omega)).symm
                    · rw [DM.bytes_put]
                      have := (DM.raw_ok hr3.disk.ok HR.out).2.2.1
                      simp only [DM.bytes, this] at hr5 ⊢
                      simp only [List.length_append, List.length_take, List.length_drop]
                      omega
                    · have := (DM.raw_ok hr3.disk.ok HR.out).2.1
                      simp only [DM.put, this, List.length_drop]
                      omega
                    · rw [DM.get_put] at e; cases e
                  case measure => simp [lenOfV]; omega
              · skip
                have hsh := (bytes_high hr1r (k := rest.length) (by omega)).1
                have hph := (bytes_high hr1r (k := rest.length) (by omega)).2
                obtain ⟨a2, hsl, hrl, hrb, ha2⟩ := bytes_low hr1 (k := rest.length) (by omega)
                have HA2 := Lib.hid ha2; clear ha2
                obtain ⟨w4, hw4, hk4, hsz4, hBp⟩ := one_new wr (.slice a' rest.length c') 22
                have hBd4 := hk4.cell hBdr (fun h => h)
                have hBn4 := hk4.cell hBnr (fun h => h)
                have hne : rest ≠ [] := fun e => hrz (by rw [e]; rfl)
                have hblt := hr1.block_lt hne
                have hd4 : DiskAt w4 b m es1 clock1 D1 := hr3.disk.kept hk4 (fun _ _ hf => hf)
                have hn1 : ∀ k, ¬ diskF b m es k → k < w3.heap.size → ¬ diskF b m es1 k := fun k h1 h2 hf => by
                  rcases hr3.foot k hf with h | h
                  · exact h1 h
                  · omega
                have hph4 := hph.keptF hk4 (fun _ _ hf => hf)
                go_wp2_with fail
                cases hraw : D1.raw with
                | none =>
                  have HR := Lib.hid hraw
                  refine (raw_no hd4 hraw _).mono ?_
                  clear hraw
                  rintro e w5 ⟨rfl, rfl⟩
                  clear hsh hsl hw4
                  go_wp2
                  (try rw [Exit.noGoto_ret])
                  go_ret
                  have e1 : D.append s bs = (6, D1) := by rw [show D.append s bs = DM.pieces s bs D from by unfold DM.append; rw [if_neg (by rw [HM.out]; simp), if_neg (fun e => by rw [HG.out] at e; cases e.1), if_neg hbig, if_neg (fun e => by rw [HG.out] at e; cases e.2)]]; rw [← hr4.out]; exact DM.pieces_no hne HR.out
                  rw [e1]
                  exact ⟨rfl, es1, clock1, DiskAfter.of_kept hk3 (hr3.after hk4)⟩
                | some D1' =>
                  have HR := Lib.hid hraw
                  refine (raw_app2 hd4 hraw (by omega) w.heap.size (w.heap.size + 1) wr.heap.size s (.slice a' rest.length c') (rest.take rest.length) hBd4 hBn4 hBp
                    (hn1 _ (hnF _ (Nat.le_refl _)) (by omega)) (hn1 _ (hnF _ (Nat.le_succ _)) (by omega)) (fun hf => by have := hr3.disk.lt _ hf; omega) hph4 (fun g hg => hn1 g (hr2 hne g ((ob_same _ _ _ _ _).trans hg)) (hblt g ((ob_same _ _ _ _ _).trans hg))) HM.out hr7 (by simp only [List.length_take]; omega)).mono ?_
                  clear hraw
                  rintro e w5 ⟨rfl, es2, clock2, hr8⟩
                  clear hsh hsl hw4
                  go_wp2
                  go_roundw
                  case rel =>
                    refine ⟨a2, c' - rest.length, rest.drop rest.length, es2, clock2, _, by first | (simp; done) | (rw [HA2.out, if_neg (by omega)]; simp [Addr.add]), by simpa using hrl, fun _ g hg => hr2 hne g (hrb g ((ob_same _ _ _ _ _).trans hg)), rfl, hr3.trans (DiskAfter.of_kept hk4 hr8), ?_, ?_, ?_, fun e => ?_⟩
                    · rw [← hr4.out]; exact (DM.pieces_step hne HR.out (by omega)).symm
                    · rw [DM.bytes_put]
                      have := (DM.raw_ok hr3.disk.ok HR.out).2.2.1
                      simp only [DM.bytes, this] at hr5 ⊢
                      simp only [List.length_append, List.length_take, List.length_drop]
                      omega
                    · have := (DM.raw_ok hr3.disk.ok HR.out).2.1
                      simp only [DM.put, this, List.length_drop]
                      omega
                    · rw [DM.get_put] at e; cases e
                  case measure => simp [lenOfV]; omega
        · have hzb : ((bs.length : Int) == 0) = false := by simp; intro e; rw [e] at hz; exact hz rfl
          go_wp2_with fail
          have h3 : DiskAt (w2.drewN nq) b m es clock D := h1.kept ((Kept.refl (fun _ => False) _).drewN nq) (fun _ _ hf => hf)
          have hk3 : Kept (fun _ => False) w (w2.drewN nq) := hk.drewN nq
          have hBd3 : (w2.drewN nq).cell? ⟨w.heap.size, 0, none⟩ = some (.pointer (some ⟨b, 0, none⟩)) := hBd
          have hBn3 : (w2.drewN nq).cell? ⟨w.heap.size + 1, 0, none⟩ = some (.string s) := hBn
          have hv3 : IsB (w2.drewN nq) (.slice a bs.length c) bs := hv2.kept (Nat.le_refl _) (fun _ _ => rfl)
          have hsz3 : (w2.drewN nq).heap.size = w.heap.size + 2 := hsz
          clear hl hlen hl2 hold holdf ho hBd hBn hv2 h1 hk hc0 hfalse
          generalize w2.drewN nq = w3 at *
          go_step3
          go_wp2_with fail
          go_loopw [2, 6] (fun v2 v6 wr => ∃ (a' : Option Addr) (c' : Nat) (rest : List UInt8) (es1 : Array MapEntry) (clock1 : Nat) (D1 : DM), v2 = .slice a' rest.length c' ∧ IsB w3 (.slice a' rest.length c') rest ∧ (rest ≠ [] → ∀ g, (Value.slice a' rest.length c').ownBlock = some g → ¬ diskF b m es g) ∧ v6 = .int .i64 0 ∧
              DiskAfter w3 b m es D1 wr es1 clock1 ∧ Hid (DM.pieces s rest D1 = DM.pieces s bs D) ∧ (D1.bytes s).length + rest.length ≤ 4194304 ∧ D1.writes + rest.length < 2305843009213693952 + 4194304 ∧ (getA s D1.files = none → D1.files.length < 256))
            (fun v2 _ _ => lenOfV v2)
          case atStart => exact ⟨a, c, bs, es, clock, D, rfl, hv3, hsep, rfl, ⟨h3, fun _ hk => .inl hk, Kept.refl _ _⟩, rfl, by omega, by omega, fun e => by rw [HG.out] at e; cases e⟩
          case round =>
            obtain ⟨a', c', rest, es1, clock1, D1, rfl, hr1, hr2, rfl, hr3, hr4, hr5, hr6, hr7⟩ := hrel
            have hbd1 := hr1
            obtain ⟨_, _, _, hcr, hcm, _⟩ := hbd1
            have hwr : Kept (diskF b m es) w3 wr := hr3.kept
            have hwsz : w.heap.size + 2 ≤ wr.heap.size := by have := hwr.size; omega
            have hnF : ∀ k, w.heap.size ≤ k → ¬ diskF b m es k := fun k hk hf => by have := hlt k hf; omega
            have hBdr := hwr.cell hBd3 (hnF _ (Nat.le_refl _))
            have hBnr := hwr.cell hBn3 (hnF _ (Nat.le_succ _))
            have hr1r := hr1.keptS hwr hr2
            by_cases hrz : rest.length = 0
            · obtain rfl : rest = [] := List.length_eq_zero_iff.1 hrz
              go_wp2
              (try rw [Exit.noGoto_ret])
              go_ret
              have e1 : D.append s bs = (0, D1) := by rw [show D.append s bs = DM.pieces s bs D from by unfold DM.append; rw [if_neg (by rw [HM.out]; simp), if_neg (fun e => by rw [HG.out] at e; cases e.1), if_neg hbig, if_neg (fun e => by rw [HG.out] at e; cases e.2)]]; rw [← hr4.out]; exact DM.pieces_nil s D1
              rw [e1]
              exact ⟨rfl, es1, clock1, DiskAfter.of_kept hk3 hr3⟩
            · by_cases h32 : 32 < rest.length
              · skip
                have hsh := (bytes_high hr1r (k := 32) (by omega)).1
                have hph := (bytes_high hr1r (k := 32) (by omega)).2
                obtain ⟨a2, hsl, hrl, hrb, ha2⟩ := bytes_low hr1 (k := 32) (by omega)
                have HA2 := Lib.hid ha2; clear ha2
                obtain ⟨w4, hw4, hk4, hsz4, hBp⟩ := one_new wr (.slice a' 32 c') 22
                have hBd4 := hk4.cell hBdr (fun h => h)
                have hBn4 := hk4.cell hBnr (fun h => h)
                have hne : rest ≠ [] := fun e => hrz (by rw [e]; rfl)
                have hblt := hr1.block_lt hne
                have hd4 : DiskAt w4 b m es1 clock1 D1 := hr3.disk.kept hk4 (fun _ _ hf => hf)
                have hn1 : ∀ k, ¬ diskF b m es k → k < w3.heap.size → ¬ diskF b m es1 k := fun k h1 h2 hf => by
                  rcases hr3.foot k hf with h | h
                  · exact h1 h
                  · omega
                have hph4 := hph.keptF hk4 (fun _ _ hf => hf)
                go_wp2_with fail
                cases hraw : D1.raw with
                | none =>
                  have HR := Lib.hid hraw
                  refine (raw_no hd4 hraw _).mono ?_
                  clear hraw
                  rintro e w5 ⟨rfl, rfl⟩
                  clear hsh hsl hw4
                  go_wp2
                  (try rw [Exit.noGoto_ret])
                  go_ret
                  have e1 : D.append s bs = (6, D1) := by rw [show D.append s bs = DM.pieces s bs D from by unfold DM.append; rw [if_neg (by rw [HM.out]; simp), if_neg (fun e => by rw [HG.out] at e; cases e.1), if_neg hbig, if_neg (fun e => by rw [HG.out] at e; cases e.2)]]; rw [← hr4.out]; exact DM.pieces_no hne HR.out
                  rw [e1]
                  exact ⟨rfl, es1, clock1, DiskAfter.of_kept hk3 (hr3.after hk4)⟩
                | some D1' =>
                  have HR := Lib.hid hraw
                  refine (raw_app2 hd4 hraw (by omega) w.heap.size (w.heap.size + 1) wr.heap.size s (.slice a' 32 c') (rest.take 32) hBd4 hBn4 hBp
                    (hn1 _ (hnF _ (Nat.le_refl _)) (by omega)) (hn1 _ (hnF _ (Nat.le_succ _)) (by omega)) (fun hf => by have := hr3.disk.lt _ hf; omega) hph4 (fun g hg => hn1 g (hr2 hne g ((ob_same _ _ _ _ _).trans hg)) (hblt g ((ob_same _ _ _ _ _).trans hg))) HM.out hr7 (by simp only [List.length_take]; omega)).mono ?_
                  clear hraw
                  rintro e w5 ⟨rfl, es2, clock2, hr8⟩
                  clear hsh hsl hw4
                  go_wp2
                  go_roundw
                  case rel =>
                    refine ⟨a2, c' - 32, rest.drop 32, es2, clock2, _, by first | (simp; done) | (rw [HA2.out, if_neg (by omega)]; simp [Addr.add]), by simpa using hrl, fun _ g hg => hr2 hne g (hrb g ((ob_same _ _ _ _ _).trans hg)), rfl, hr3.trans (DiskAfter.of_kept hk4 hr8), ?_, ?_, ?_, fun e => ?_⟩
                    · rw [← hr4.out]; exact (DM.pieces_step hne HR.out (by omega)).symm
                    · rw [DM.bytes_put]
                      have := (DM.raw_ok hr3.disk.ok HR.out).2.2.1
                      simp only [DM.bytes, this] at hr5 ⊢
                      simp only [List.length_append, List.length_take, List.length_drop]
                      omega
                    · have := (DM.raw_ok hr3.disk.ok HR.out).2.1
                      simp only [DM.put, this, List.length_drop]
                      omega
                    · rw [DM.get_put] at e; cases e
                  case measure => simp [lenOfV]; omega
              · skip
                have hsh := (bytes_high hr1r (k := rest.length) (by omega)).1
                have hph := (bytes_high hr1r (k := rest.length) (by omega)).2
                obtain ⟨a2, hsl, hrl, hrb, ha2⟩ := bytes_low hr1 (k := rest.length) (by omega)
                have HA2 := Lib.hid ha2; clear ha2
                obtain ⟨w4, hw4, hk4, hsz4, hBp⟩ := one_new wr (.slice a' rest.length c') 22
                have hBd4 := hk4.cell hBdr (fun h => h)
                have hBn4 := hk4.cell hBnr (fun h => h)
                have hne : rest ≠ [] := fun e => hrz (by rw [e]; rfl)
                have hblt := hr1.block_lt hne
                have hd4 : DiskAt w4 b m es1 clock1 D1 := hr3.disk.kept hk4 (fun _ _ hf => hf)
                have hn1 : ∀ k, ¬ diskF b m es k → k < w3.heap.size → ¬ diskF b m es1 k := fun k h1 h2 hf => by
                  rcases hr3.foot k hf with h | h
                  · exact h1 h
                  · omega
                have hph4 := hph.keptF hk4 (fun _ _ hf => hf)
                go_wp2_with fail
                cases hraw : D1.raw with
                | none =>
                  have HR := Lib.hid hraw
                  refine (raw_no hd4 hraw _).mono ?_
                  clear hraw
                  rintro e w5 ⟨rfl, rfl⟩
                  clear hsh hsl hw4
                  go_wp2
                  (try rw [Exit.noGoto_ret])
                  go_ret
                  have e1 : D.append s bs = (6, D1) := by rw [show D.append s bs = DM.pieces s bs D from by unfold DM.append; rw [if_neg (by rw [HM.out]; simp), if_neg (fun e => by rw [HG.out] at e; cases e.1), if_neg hbig, if_neg (fun e => by rw [HG.out] at e; cases e.2)]]; rw [← hr4.out]; exact DM.pieces_no hne HR.out
                  rw [e1]
                  exact ⟨rfl, es1, clock1, DiskAfter.of_kept hk3 (hr3.after hk4)⟩
                | some D1' =>
                  have HR := Lib.hid hraw
                  refine (raw_app2 hd4 hraw (by omega) w.heap.size (w.heap.size + 1) wr.heap.size s (.slice a' rest.length c') (rest.take rest.length) hBd4 hBn4 hBp
                    (hn1 _ (hnF _ (Nat.le_refl _)) (by omega)) (hn1 _ (hnF _ (Nat.le_succ _)) (by omega)) (fun hf => by have := hr3.disk.lt _ hf; omega) hph4 (fun g hg => hn1 g (hr2 hne g ((ob_same _ _ _ _ _).trans hg)) (hblt g ((ob_same _ _ _ _ _).trans hg))) HM.out hr7 (by simp only [List.length_take]; omega)).mono ?_
                  clear hraw
                  rintro e w5 ⟨rfl, es2, clock2, hr8⟩
                  clear hsh hsl hw4
                  go_wp2
                  go_roundw
                  case rel =>
                    refine ⟨a2, c' - rest.length, rest.drop rest.length, es2, clock2, _, by first | (simp; done) | (rw [HA2.out, if_neg (by omega)]; simp [Addr.add]), by simpa using hrl, fun _ g hg => hr2 hne g (hrb g ((ob_same _ _ _ _ _).trans hg)), rfl, hr3.trans (DiskAfter.of_kept hk4 hr8), ?_, ?_, ?_, fun e => ?_⟩
                    · rw [← hr4.out]; exact (DM.pieces_step hne HR.out (by omega)).symm
                    · rw [DM.bytes_put]
                      have := (DM.raw_ok hr3.disk.ok HR.out).2.2.1
                      simp only [DM.bytes, this] at hr5 ⊢
                      simp only [List.length_append, List.length_take, List.length_drop]
                      omega
                    · have := (DM.raw_ok hr3.disk.ok HR.out).2.1
                      simp only [DM.put, this, List.length_drop]
                      omega
                    · rw [DM.get_put] at e; cases e
                  case measure => simp [lenOfV]; omega
end
end Go.Proofs.Ytinmjgaaehdicaa
