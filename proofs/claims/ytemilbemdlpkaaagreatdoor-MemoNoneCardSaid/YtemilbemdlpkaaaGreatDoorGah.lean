/- journal: Append, payload, Record. -/
import Derived.Test.YtemilbemdlpkaaaGreatDoorGag
namespace Go.Proofs.YtemilbemdlpkaaaGreatDoor
open Go.RowKit Go.ChangeMaps Go.MapKept

section
variable {w : World} {j b m : Nat} {es : Array MapEntry} {clock : Nat} {av pv : Value} {D : DM} {J : JM}
def JM.put (J : JM) (D : DM) (p : List UInt8) : Int × DM × JM :=
  if (D.append J.file (recB p)).1 = 0 then (0, (D.append J.file (recB p)).2, J.add p (recB p).length) else ((D.append J.file (recB p)).1, (D.append J.file (recB p)).2, { J with cut := (D.append J.file (recB p)).1 == 6 })
/-- The journal, when its disk has been written to. -/
theorem JAt.over (h : JAt w j b m es clock av pv D J) {w' : World} {es' : Array MapEntry} {clock' : Nat} {D' : DM} (hd : DiskAt w' b m es' clock' D') (hf : ∀ k, diskF b m es' k → diskF b m es k ∨ w.heap.size ≤ k) (hk : Kept (diskF b m es) w w') : JAt w' j b m es' clock' av pv D' J := by
  obtain ⟨a1, a2, a3⟩ := h.apart
  refine ⟨hd, (hk.block j (Array.getElem?_eq_some_iff.1 h.cell).1 a3).trans h.cell, rowKept h.all hk (fun g _ e => h.sep g e), rowKept h.parts hk (fun g _ e => (a2 g e).2.2), fun g e hg => ?_, h.small⟩
  rcases hf g hg with h1 | h1
  · exact h.sep g e h1
  · obtain ⟨cur, hc⟩ := ownsRow_block h.all e
    have := (Array.getElem?_eq_some_iff.1 hc).1
    omega
theorem JEnd.trans {w1 w2 : World} {es1 : Array MapEntry} {av1 pv1 : Value} {D2 : DM} {J2 : JM} (hs : w.heap.size ≤ w1.heap.size) (hf : ∀ k, jourF j b m es1 av1 pv1 k → jourF j b m es av pv k ∨ w.heap.size ≤ k) (hk : Kept (jourF j b m es av pv) w w1) (h2 : JEnd w1 j b m es1 av1 pv1 D2 J2 w2) : JEnd w j b m es av pv D2 J2 w2 := by
  obtain ⟨es', clock', av', pv', h3, h4, h5⟩ := h2
  refine ⟨es', clock', av', pv', h3, fun k hk' => ?_, hk.trans h5 (fun i hi hi' => ?_)⟩
  · rcases h4 k hk' with h6 | h6
    · exact hf k h6
    · exact .inr (Nat.le_trans hs h6)
  · rcases hf i hi' with h6 | h6
    · exact h6
    · omega

set_option maxRecDepth 100000 in
set_option maxHeartbeats 1000000 in
theorem jappend_any (h : JAt w j b m es clock av pv D J) (hcut : J.cut = false) (pa : Option Addr) (pc : Nat) (p : List UInt8) (hp : IsB w (.slice pa p.length pc) p) (hsep : ∀ g, (Value.slice pa p.length pc).ownBlock = some g → ¬ diskF b m es g) (hl : p.length ≤ 262144)
    (h1 : J.all.length + p.length ≤ 4194304) (h2 : J.size + (recB p).length ≤ 4194304) (h3 : J.recs.length + 1 ≤ 4194304) (hw : D.writes < 2305843009213693952) :
    Calls Tryz.prog 132 #[.pointer (some ⟨j, 0, none⟩), .slice pa p.length pc] w fun e w' => e = .returned (.int .i64 (J.put D p).1) ∧ JEnd w j b m es av pv (J.put D p).2.1 (J.put D p).2.2 w' := by
  obtain ⟨hc0, hc1, hc2, hc3, hc4, hc5, hfz⟩ := h.c
  rw [hcut] at hc5
  have HR := Lib.hid (record_any w pa pc p hp (by omega))
  have hpl : ¬ (262144 : Int) < (p.length : Int) := by omega
  have hP : Hid (J.put D p = if (D.append J.file (recB p)).1 = 0 then (0, (D.append J.file (recB p)).2, J.add p (recB p).length) else ((D.append J.file (recB p)).1, (D.append J.file (recB p)).2, { J with cut := (D.append J.file (recB p)).1 == 6 })) := Lib.hid rfl
  generalize J.put D p = R at hP ⊢
  have H0 := Lib.hid h
  clear hc0 hc1 hc2 hc3 hc4 h hcut
  go_enter Tryz.func132, Tryz.ntmps132
  go_wp2_with fail
  refine HR.out.mono ?_
  rintro e w1 ⟨rv, rfl, hf1⟩
  have hj1 := H0.out.keptN hf1.kept
  have hkD : Kept (fun _ => False) w1 w1.drew := (Kept.refl _ w1).drew
  have hjd := hj1.keptN hkD
  obtain ⟨d0, d1, d2, d3, d4, d5, dz⟩ := hjd.c
  obtain ⟨ra, rc, rfl, -, -⟩ := hf1.own.form
  have hBr := hf1.own.isB.keptF hkD (fun _ _ f => f)
  have hAP := Lib.hid (append_any (s := J.file) hjd.disk (by have := H0.out.small.2.2.2; unfold maxLen; omega) ra rc (recB p) hBr (fun _ g e hd => by have := hf1.new g e; have := H0.out.disk.lt g hd; omega) hw)
  obtain ⟨⟨r, D'⟩, hr⟩ : ∃ q, D.append J.file (recB p) = q := ⟨_, rfl⟩
  rw [hr] at hAP hP
  simp only at hAP hP
  clear hr hc5 hBr
  have HJ := Lib.hid hjd
  have HF1 := Lib.hid hf1
  clear hjd hj1 hf1 hpl
  generalize recB p = rb at *
  go_wp2_with fail
  go_region_held (fun w' => w'.cell? ⟨j, 0, none⟩ = some (.pointer (some ⟨b, 0, none⟩)) ∧ w'.cell? ⟨j, 1, none⟩ = some (.string J.file))
    (first | exact ⟨d0, d1⟩ | exact ⟨k0, k1⟩)
    ((go_at_call 17; refine hAP.out.mono ?_; rintro e' w2 ⟨rfl, es', clock', hda, hdf, hdk⟩; have hj2 := Lib.hid (HJ.out.over hda hdf hdk); have k0 := hj2.out.c.1; have k1 := hj2.out.c.2.1))
  have hk02 : Kept (jourF j b m es av pv) w w2 := ((HF1.out.kept.more hkD (fun _ f => f.elim)).mono (fun _ _ f => f.elim)).trans hdk (fun i _ e => .inr (.inr (.inr e)))
  have hs02 : w.heap.size ≤ w2.heap.size := hk02.size
  have hF02 : ∀ k, jourF j b m es' av pv k → jourF j b m es av pv k ∨ w.heap.size ≤ k := by
    have hs1 : w.heap.size ≤ w1.drew.heap.size := (HF1.out.kept.more hkD (fun _ f => f.elim)).size
    rintro k (e | e | e | hd)
    · exact .inl (.inl e)
    · exact .inl (.inr (.inl e))
    · exact .inl (.inr (.inr (.inl e)))
    · rcases hdf k hd with h4 | h4
      · exact .inl (.inr (.inr (.inr h4)))
      · exact .inr (Nat.le_trans hs1 h4)
  have HT := Lib.hid (And.intro hs02 (And.intro hF02 hk02))
  obtain ⟨-, -, -, -, -, k5, kz⟩ := hj2.out.c
  have k5z := kz 5
  by_cases hr0 : r = 0
  · subst hr0
    have hPR : Hid (R = (0, D', J.add p rb.length)) := Lib.hid (by rw [hP.out, if_pos rfl])
    have hpw := ((hp.keptF HF1.out.kept (fun _ _ f => f)).keptF hkD (fun _ _ f => f)).keptF hdk (fun g e hd => hsep g e hd)
    have hADD := Lib.hid (add_any hj2.out pa pc p hpw rb.length h1 h2 h3)
    clear hP hpw hk02 hs02 hF02 hdk hda hdf k0 k1 k5 kz k5z hkD
    go_wp2_with fail
    refine hADD.out.mono ?_
    rintro e w3 ⟨rfl, hE⟩
    go_wp2
    go_ret
    rw [hPR.out]
    exact ⟨rfl, JEnd.trans HT.out.1 HT.out.2.1 HT.out.2.2 hE⟩
  · have hr1 : (r != 0) = true := by simpa using hr0
    have hPR : Hid (R = (r, D', { J with cut := r == 6 })) := Lib.hid (by rw [hP.out, if_neg hr0])
    have hkS : Kept (· = j) w2 (w2.setCell ⟨j, 5, none⟩ (.bool (r == 6))) := (Kept.refl (· = j) w2).setCell (p := ⟨j, 5, none⟩) (fun _ => rfl) _
    have HE : Hid (JEnd w j b m es av pv D' { J with cut := r == 6 } (w2.setCell ⟨j, 5, none⟩ (.bool (r == 6)))) := Lib.hid (by
      have h0 := hj2.out
      obtain ⟨b1, b2, b3⟩ := h0.apart
      refine JEnd.trans HT.out.1 HT.out.2.1 HT.out.2.2 ⟨es', clock', av, pv, ⟨h0.disk.kept hkS (fun k hd e => b3 (e ▸ hd)), heap_setCell_row (o := 5) h0.cell _, rowKept h0.all hkS (fun g _ e e2 => b1 g e e2), rowKept h0.parts hkS (fun g _ e e2 => (b2 g e).1 e2), h0.sep, h0.small⟩, fun k hk => .inl hk, hkS.mono (fun i _ e => .inl e)⟩)
    clear hP hk02 hs02 hF02 hdk hda hdf k0 k1 kz hkD hkS
    go_wp2
    go_ret
    rw [hPR.out]
    exact ⟨rfl, HE.out⟩

theorem run_slice_range {P : Program} {T E : TypeId} (hT : P.underlying T = some (.slice E)) {i : TypeInfo} (hi : P.info? E = some i) (a : Option Addr) (n c k m : Nat) (hk : k ≤ m) (hm : m ≤ c) (w : World) :
    (Instr.slice T (.slice a n c) (some (.int .i64 k)) (some (.int .i64 m)) none).run P w = .ok (.slice (if c = k then a else a.map (·.add (k * i.size))) (m - k) (c - k)) w := by
  simp [Instr.slice, run_underlying hT, Instr.sliceBounds, Instr.sliceBound, asIntOf, sizeOf, typeInfo, hi, Result.andThen, hk, hm]
/-- A record's payload, in new memory. -/
theorem payload_any (h : JAt w j b m es clock av pv D J) (k : Nat) (hk : k < J.recs.length) :
    Calls Tryz.prog 91 #[.pointer (some ⟨j, 0, none⟩), .int .i64 k] w fun e w' => ∃ v, e = .returned v ∧ FreshB w v J.recs[k] w' := by
  obtain ⟨hc0, hc1, hc2, hc3, hc4, hc5, hfz⟩ := h.c
  obtain ⟨f1, f2⟩ := offsV_at 0 J.recs k hk
  have hle := flatten_take_le J.recs k hk
  have hsl := slice_of_flatten J.recs k hk
  obtain ⟨lo, hlo⟩ : ∃ lo, (J.recs.take k).flatten.length = lo := ⟨_, rfl⟩
  obtain ⟨n, hn⟩ : ∃ n, J.recs[k].length = n := ⟨_, rfl⟩
  rw [hlo, hn] at f2 hle hsl
  rw [hlo] at f1
  rw [Nat.zero_add] at f1 f2
  change lo + n ≤ J.all.length at hle
  obtain ⟨hi_, hhi⟩ : ∃ hi_, lo + n = hi_ := ⟨_, rfl⟩
  rw [hhi] at f2 hle
  obtain ⟨pg, pc, hpg, hpc1⟩ : ∃ pg pc, pv = .slice (some ⟨pg, 0, none⟩) J.recs.length pc ∧ ∀ i x, (offsV 0 J.recs)[i]? = some x → w.cell? ⟨pg, i, none⟩ = some x := by
    rcases h.parts.2 with ⟨rfl, h0⟩ | ⟨g, cap, cur, rfl, -, hg, -, -, -, ht⟩
    · omega
    · refine ⟨g, cap, rfl, fun i x hx => ?_⟩
      rw [cell_of_row w g i cur _ _ hg]
      rw [← ht, List.getElem?_take] at hx
      split at hx
      · simpa using hx
      · cases hx
  subst hpg
  have d0 := hpc1 _ _ f1
  have d1 := hpc1 _ _ f2
  have hB := h.all.isB
  have hsm := h.small.1
  have hsm3 := h.small.2.2.1
  obtain ⟨aa, ac, rfl, hac, hacm⟩ := h.all.form
  obtain ⟨i0, hi, hz0, hz1, hz2⟩ := info_parts Tryz.info5
  have hIB := (hB.drop (k := lo) (by omega)).take (k := n) (by rw [List.length_drop]; omega)
  rw [show (List.drop lo J.all).take n = J.recs[k] from hsl] at hIB
  obtain ⟨sa, hsa⟩ : ∃ sa, (if ac = lo then aa else aa.map (·.add (lo * 1))) = sa := ⟨_, rfl⟩
  rw [hsa] at hIB
  have hrun : ∀ W, (Instr.slice 25 (.slice aa J.all.length ac) (some (.int .i64 lo)) (some (.int .i64 hi_)) none).run Tryz.prog W = .ok (.slice sa n (ac - lo)) W := fun W => by
    rw [run_slice_range Tryz.underlying25 hi aa J.all.length ac lo hi_ (by omega) (by omega) W, hz1, hsa, show hi_ - lo = n from by omega]
  obtain ⟨w1, hw1⟩ : ∃ w1, w.alloc (.cells #[.int .i64 lo, .int .i64 hi_] 189) = w1 := ⟨_, rfl⟩
  have hk1 : Kept (fun _ => False) w w1 := by rw [← hw1]; exact (Kept.refl _ _).alloc _
  have e0 : w1.cell? ⟨w.heap.size, 0, none⟩ = some (.int .i64 lo) := by rw [← hw1, World.cell?_alloc_new]; rfl
  have e1 : w1.cell? ⟨w.heap.size, 1, none⟩ = some (.int .i64 hi_) := by rw [← hw1, World.cell?_alloc_new]; rfl
  have e2 := hk1.cell hc2 (fun f => f)
  have hkd : Kept (fun _ => False) w1 w1.drew := (Kept.refl _ w1).drew
  have hCL := Lib.hid (clone_any w1.drew _ _ ((hIB.keptF hk1 (fun _ _ f => f)).keptF hkd (fun _ _ f => f)) (by rw [hn]; omega))
  have hlo64 : lo ≤ 4194304 := by omega
  have hhi64 : hi_ ≤ 4194304 := by omega
  have hkI : (k : Int) < (J.recs.length : Int) := by omega
  have hkM : k ≤ 4194304 := by omega
  have HK := Lib.hid (hk1.more hkd (fun _ f => f.elim))
  generalize J.recs[k] = rk at *
  clear hi hz0 hz1 hz2 hsa hIB hB hac hacm hsm hsm3 hpc1 hle hsl hlo hn hhi f1 f2 hfz hc0 hc1 hc4 hc5 h hk1 hkd
  have hS : w1.drew.cell? ⟨j, 2, none⟩ = some (.slice aa J.all.length ac) ∧ w1.drew.cell? ⟨w.heap.size, 0, none⟩ = some (.int .i64 lo) ∧ w1.drew.cell? ⟨w.heap.size, 1, none⟩ = some (.int .i64 hi_) := ⟨e2, e0, e1⟩
  go_enter Tryz.func91, Tryz.ntmps91
  go_wp2_with fail
  go_region_held (fun w' => w'.cell? ⟨j, 2, none⟩ = some (.slice aa J.all.length ac) ∧ w'.cell? ⟨w.heap.size, 0, none⟩ = some (.int .i64 lo) ∧ w'.cell? ⟨w.heap.size, 1, none⟩ = some (.int .i64 hi_))
    (first | exact hS | exact hS2)
    ((go_at_call 49; refine hCL.out.mono ?_; rintro e' w2 ⟨v2, rfl, hf2, -⟩; have hS2 := And.intro (hf2.kept.cell hS.1 (fun f => f)) (And.intro (hf2.kept.cell hS.2.1 (fun f => f)) (hf2.kept.cell hS.2.2 (fun f => f)))))
  go_wp2
  go_ret
  exact ⟨_, rfl, hf2.behind HK.out⟩

end
end Go.Proofs.YtemilbemdlpkaaaGreatDoor

/- journal.Open of a file that is not there. -/
namespace Go.Proofs.YtemilbemdlpkaaaGreatDoor
open Go.RowKit Go.ChangeMaps Go.MapKept

set_option maxRecDepth 100000 in
theorem jopen_empty {w : World} {b m : Nat} {es : Array MapEntry} {clock : Nat} {D : DM} (hd : DiskAt w b m es clock D) (s : ByteArray) (hs : s.size ≤ 32) (hg : getA s D.files = none) :
    Calls Tryz.prog 41 #[.pointer (some ⟨b, 0, none⟩), .string s] w fun e w' => ∃ j, e = .returned (.tuple #[.pointer (some ⟨j, 0, none⟩), .int .i64 0]) ∧ w.heap.size ≤ j ∧ JAt w' j b m es clock (.slice none 0 0) (.slice none 0 0) D ⟨s, [], 0, false⟩ ∧ Kept (fun _ => False) w w' := by
  have hR := read_any hd s
  unfold ReadEnd at hR
  rw [hg] at hR
  have hbs : D.bytes s = [] := by unfold DM.bytes; rw [hg]; rfl
  rw [hbs] at hR
  have HR := Lib.hid hR
  have HD := Lib.hid hd
  clear hR hd
  go_enter Tryz.func41, Tryz.ntmps41
  go_wp2_with fail
  go_step3
  go_wp2_with fail
  refine HR.out.mono ?_
  rintro e w1 ⟨v1, rfl, hf1, hv1⟩
  obtain rfl := hv1 trivial
  obtain ⟨w2, hw2⟩ : ∃ w2, w1.alloc (.cells #[.pointer (some ⟨b, 0, none⟩), .string s, .slice none 0 0, .slice none 0 0, .int .i64 0, .bool false] 153) = w2 := ⟨_, rfl⟩
  have hk2 : Kept (fun _ => False) w1 w2 := by rw [← hw2]; exact (Kept.refl _ _).alloc _
  have hc2 : w2.heap[w1.heap.size]? = some (.cells #[.pointer (some ⟨b, 0, none⟩), .string s, .slice none 0 0, .slice none 0 0, .int .i64 0, .bool false] 153 (0, 0)) := by rw [← hw2]; exact heap_alloc_new _ _
  have hRD := Lib.hid (reader_any w2 (.slice none 0 0) [] ⟨none, 0, rfl, Nat.le_refl _, by simp [maxLen], .inl rfl⟩ (by simp))
  go_wp2_with fail
  refine hRD.out.mono ?_
  rintro e w3 ⟨B, rfl, hB, hRA, hk3⟩
  have hc3 := (hk3.block _ (Array.getElem?_eq_some_iff.1 hc2).1 (fun f => f)).trans hc2
  have hd34 : w3.cell? ⟨w1.heap.size, 4, none⟩ = some (.int .i64 0) := by simp [World.cell?, hc3]
  have hkA := (hf1.kept.more hk2 (fun _ f => f.elim)).more hk3 (fun _ f => f.elim)
  have HF : Hid (JAt w3 w1.heap.size b m es clock (.slice none 0 0) (.slice none 0 0) D ⟨s, [], 0, false⟩ ∧ w.heap.size ≤ w1.heap.size) := Lib.hid ⟨⟨HD.out.kept hkA (fun _ _ f => f), hc3, World.ownsRow_nil _ _ _ _, World.ownsRow_nil _ _ _ _, (fun g e => by cases e), by simp [JM.all], by simp, by simp, hs⟩, hf1.kept.size⟩
  have hL := Lib.hid (left_any hRA)
  clear hc3 hc2 hw2 hk2 hf1
  go_wp2_with fail
  go_step3
  go_wp2_with fail
  go_loopw [10] (fun u wr => wr = w3) (fun _ _ => 0)
  case atStart => exact rfl
  case round =>
    obtain rfl := hrel
    go_wp2_with fail
    refine hL.out.mono ?_
    rintro e w4 ⟨rfl, rfl⟩
    go_wp2
    (try rw [Exit.noGoto_ret])
    go_ret2
    exact ⟨_, rfl, HF.out.2, HF.out.1, hkA⟩
end Go.Proofs.YtemilbemdlpkaaaGreatDoor
