/- journal: Append, payload, Record. -/
import Derived.Test.YtemilbemdlpkaaaGreatDoorPag
import Derived.Test.YtemilbemdlpkaaaGreatDoorPad
namespace Go.Proofs.YtemilbemdlpkaaaGreatDoor
open Go.RowKit Go.ChangeMaps Go.MapKept

section
variable {w : World} {j b m : Nat} {es : Array MapEntry} {clock : Nat} {av pv : Value} {D : DM} {J : JM}
def JM.put (J : JM) (D : DM) (p : List UInt8) : Int × DM × JM :=
  if (D.append J.file (recB p)).1 = 0 then (0, (D.append J.file (recB p)).2, J.add p (recB p).length) else ((D.append J.file (recB p)).1, (D.append J.file (recB p)).2, { J with cut := (D.append J.file (recB p)).1 == 6 })
/-- The journal, when its disk has been written to. -/
theorem JAt.over (h : JAt w j b m es clock av pv D J) {w' : World} {es' : Array MapEntry} {clock' : Nat} {D' : DM} (hd : DiskAt w' b m es' clock' D') (hf : ∀ k, diskF b m es' k → diskF b m es k ∨ w.heap.size ≤ k) (hk : Kept (diskF b m es) w w') : JAt w' j b m es' clock' av pv D' J := by
  obtain ⟨a1, a2, a3⟩ := h.apart
  refine ⟨hd, (hk.block j (Array.getElem?_eq_some_iff.1 h.cell).1 a3).trans h.cell, rowKept h.all hk (fun g _ e => h.sep g e), rowKept h.parts hk (fun g _ e => (a2 g e).2.2), fun g e hg => ?_, h.small⟩
  rcases hf g hg with h1 | h1
  · exact h.sep g e h1
  · obtain ⟨cur, hc⟩ := ownsRow_block h.all e
    have := (Array.getElem?_eq_some_iff.1 hc).1
    omega
theorem JEnd.trans {w1 w2 : World} {es1 : Array MapEntry} {av1 pv1 : Value} {D2 : DM} {J2 : JM} (hs : w.heap.size ≤ w1.heap.size) (hf : ∀ k, jourF j b m es1 av1 pv1 k → jourF j b m es av pv k ∨ w.heap.size ≤ k) (hk : Kept (jourF j b m es av pv) w w1) (h2 : JEnd w1 j b m es1 av1 pv1 D2 J2 w2) : JEnd w j b m es av pv D2 J2 w2 := by
  obtain ⟨es', clock', av', pv', h3, h4, h5⟩ := h2
  refine ⟨es', clock', av', pv', h3, fun k hk' => ?_, hk.trans h5 (fun i hi hi' => ?_)⟩
  · rcases h4 k hk' with h6 | h6
    · exact hf k h6
    · exact .inr (Nat.le_trans hs h6)
  · rcases hf i hi' with h6 | h6
    · exact h6
    · omega

set_option maxRecDepth 100000 in
set_option maxHeartbeats 1000000 in
theorem jappend_any (h : JAt w j b m es clock av pv D J) (hcut : J.cut = false) (pa : Option Addr) (pc : Nat) (p : List UInt8) (hp : IsB w (.slice pa p.length pc) p) (hsep : ∀ g, (Value.slice pa p.length pc).ownBlock = some g → ¬ diskF b m es g) (hl : p.length ≤ 262144)
    (h1 : J.all.length + p.length ≤ 4194304) (h2 : J.size + (recB p).length ≤ 4194304) (h3 : J.recs.length + 1 ≤ 4194304) (hw : D.writes < 2305843009213693952) :
    Calls Tryz.prog 132 #[.pointer (some ⟨j, 0, none⟩), .slice pa p.length pc] w fun e w' => e = .returned (.int .i64 (J.put D p).1) ∧ JEnd w j b m es av pv (J.put D p).2.1 (J.put D p).2.2 w' := by
  obtain ⟨hc0, hc1, hc2, hc3, hc4, hc5, hfz⟩ := h.c
  rw [hcut] at hc5
  have HR := Lib.hid (record_any w pa pc p hp (by omega))
  have hpl : ¬ (262144 : Int) < (p.length : Int) := by omega
  have hP : Hid (J.put D p = if (D.append J.file (recB p)).1 = 0 then (0, (D.append J.file (recB p)).2, J.add p (recB p).length) else ((D.append J.file (recB p)).1, (D.append J.file (recB p)).2, { J with cut := (D.append J.file (recB p)).1 == 6 })) := Lib.hid rfl
  generalize J.put D p = R at hP ⊢
  have H0 := Lib.hid h
  clear hc0 hc1 hc2 hc3 hc4 h hcut
  go_enter Tryz.func132, Tryz.ntmps132
  go_wp2_with fail
  refine HR.out.mono ?_
  rintro e w1 ⟨rv, rfl, hf1⟩
  have hj1 := H0.out.keptN hf1.kept
  have hkD : Kept (fun _ => False) w1 w1.drew := (Kept.refl _ w1).drew
  have hjd := hj1.keptN hkD
  obtain ⟨d0, d1, d2, d3, d4, d5, dz⟩ := hjd.c
  obtain ⟨ra, rc, rfl, -, -⟩ := hf1.own.form
  have hBr := hf1.own.isB.keptF hkD (fun _ _ f => f)
  have hAP := Lib.hid (append_any (s := J.file) hjd.disk (by have := H0.out.small.2.2.2; unfold maxLen; omega) ra rc (recB p) hBr (fun _ g e hd => by have := hf1.new g e; have := H0.out.disk.lt g hd; omega) hw)
  obtain ⟨⟨r, D'⟩, hr⟩ : ∃ q, D.append J.file (recB p) = q := ⟨_, rfl⟩
  rw [hr] at hAP hP
  simp only at hAP hP
  clear hr hc5 hBr
  have HJ := Lib.hid hjd
  have HF1 := Lib.hid hf1
  clear hjd hj1 hf1 hpl
  generalize recB p = rb at *
  go_wp2_with fail
  go_region_held (fun w' => w'.cell? ⟨j, 0, none⟩ = some (.pointer (some ⟨b, 0, none⟩)) ∧ w'.cell? ⟨j, 1, none⟩ = some (.string J.file))
    (first | exact ⟨d0, d1⟩ | exact ⟨k0, k1⟩)
    ((go_at_call 17; refine hAP.out.mono ?_; rintro e' w2 ⟨rfl, es', clock', hda, hdf, hdk⟩; have hj2 := Lib.hid (HJ.out.over hda hdf hdk); have k0 := hj2.out.c.1; have k1 := hj2.out.c.2.1))
  have hk02 : Kept (jourF j b m es av pv) w w2 := ((HF1.out.kept.more hkD (fun _ f => f.elim)).mono (fun _ _ f => f.elim)).trans hdk (fun i _ e => .inr (.inr (.inr e)))
  have hs02 : w.heap.size ≤ w2.heap.size := hk02.size
  have hF02 : ∀ k, jourF j b m es' av pv k → jourF j b m es av pv k ∨ w.heap.size ≤ k := by
    have hs1 : w.heap.size ≤ w1.drew.heap.size := (HF1.out.kept.more hkD (fun _ f => f.elim)).size
    rintro k (e | e | e | hd)
    · exact .inl (.inl e)
    · exact .inl (.inr (.inl e))
    · exact .inl (.inr (.inr (.inl e)))
    · rcases hdf k hd with h4 | h4
      · exact .inl (.inr (.inr (.inr h4)))
      · exact .inr (Nat.le_trans hs1 h4)
  have HT := Lib.hid (And.intro hs02 (And.intro hF02 hk02))
  obtain ⟨-, -, -, -, -, k5, kz⟩ := hj2.out.c
  have k5z := kz 5
  by_cases hr0 : r = 0
  · subst hr0
    have hPR : Hid (R = (0, D', J.add p rb.length)) := Lib.hid (by rw [hP.out, if_pos rfl])
    have hpw := ((hp.keptF HF1.out.kept (fun _ _ f => f)).keptF hkD (fun _ _ f => f)).keptF hdk (fun g e hd => hsep g e hd)
    have hADD := Lib.hid (add_any hj2.out pa pc p hpw rb.length h1 h2 h3)
    clear hP hpw hk02 hs02 hF02 hdk hda hdf k0 k1 k5 kz k5z hkD
    go_wp2_with fail
    refine hADD.out.mono ?_
    rintro e w3 ⟨rfl, hE⟩
    go_wp2
    go_ret
    rw [hPR.out]
    exact ⟨rfl, JEnd.trans HT.out.1 HT.out.2.1 HT.out.2.2 hE⟩
  · have hr1 : (r != 0) = true := by simpa using hr0
    have hPR : Hid (R = (r, D', { J with cut := r == 6 })) := Lib.hid (by rw [hP.out, if_neg hr0])
    have hkS : Kept (· = j) w2 (w2.setCell ⟨j, 5, none⟩ (.bool (r == 6))) := (Kept.refl (· = j) w2).setCell (p := ⟨j, 5, none⟩) (fun _ => rfl) _
    have HE : Hid (JEnd w j b m es av pv D' { J with cut := r == 6 } (w2.setCell ⟨j, 5, none⟩ (.bool (r == 6)))) := Lib.hid (by
      have h0 := hj2.out
      obtain ⟨b1, b2, b3⟩ := h0.apart
      refine JEnd.trans HT.out.1 HT.out.2.1 HT.out.2.2 ⟨es', clock', av, pv, ⟨h0.disk.kept hkS (fun k hd e => b3 (e ▸ hd)), heap_setCell_row (o := 5) h0.cell _, rowKept h0.all hkS (fun g _ e e2 => b1 g e e2), rowKept h0.parts hkS (fun g _ e e2 => (b2 g e).1 e2), h0.sep, h0.small⟩, fun k hk => .inl hk, hkS.mono (fun i _ e => .inl e)⟩)
    clear hP hk02 hs02 hF02 hdk hda hdf k0 k1 kz hkD hkS
    go_wp2
    go_ret
    rw [hPR.out]
    exact ⟨rfl, HE.out⟩

theorem run_slice_range {P : Program} {T E : TypeId} (hT : P.underlying T = some (.slice E)) {i : TypeInfo} (hi : P.info? E = some i) (a : Option Addr) (n c k m : Nat) (hk : k ≤ m) (hm : m ≤ c) (w : World) :
    (Instr.slice T (.slice a n c) (some (.int .i64 k)) (some (.int .i64 m)) none).run P w = .ok (.slice (if c = k then a else a.map (·.add (k * i.size))) (m - k) (c - k)) w := by
  simp [Instr.slice, run_underlying hT, Instr.sliceBounds, Instr.sliceBound, asIntOf, sizeOf, typeInfo, hi, Result.andThen, hk, hm]
/-- A record's payload, in new memory. -/
theorem payload_any (h : JAt w j b m es clock av pv D J) (k : Nat) (hk : k < J.recs.length) :
    Calls Tryz.prog 91 #[.pointer (some ⟨j, 0, none⟩), .int .i64 k] w fun e w' => ∃ v, e = .returned v ∧ FreshB w v J.recs[k] w' := by
  obtain ⟨hc0, hc1, hc2, hc3, hc4, hc5, hfz⟩ := h.c
  obtain ⟨f1, f2⟩ := offsV_at 0 J.recs k hk
  have hle := flatten_take_le J.recs k hk
  have hsl := slice_of_flatten J.recs k hk
  obtain ⟨lo, hlo⟩ : ∃ lo, (J.recs.take k).flatten.length = lo := ⟨_, rfl⟩
  obtain ⟨n, hn⟩ : ∃ n, J.recs[k].length = n := ⟨_, rfl⟩
  rw [hlo, hn] at f2 hle hsl
  rw [hlo] at f1
  rw [Nat.zero_add] at f1 f2
  change lo + n ≤ J.all.length at hle
  obtain ⟨hi_, hhi⟩ : ∃ hi_, lo + n = hi_ := ⟨_, rfl⟩
  rw [hhi] at f2 hle
  obtain ⟨pg, pc, hpg, hpc1⟩ : ∃ pg pc, pv = .slice (some ⟨pg, 0, none⟩) J.recs.length pc ∧ ∀ i x, (offsV 0 J.recs)[i]? = some x → w.cell? ⟨pg, i, none⟩ = some x := by
    rcases h.parts.2 with ⟨rfl, h0⟩ | ⟨g, cap, cur, rfl, -, hg, -, -, -, ht⟩
    · omega
    · refine ⟨g, cap, rfl, fun i x hx => ?_⟩
      rw [cell_of_row w g i cur _ _ hg]
      rw [← ht, List.getElem?_take] at hx
      split at hx
      · simpa using hx
      · cases hx
  subst hpg
  have d0 := hpc1 _ _ f1
  have d1 := hpc1 _ _ f2
  have hB := h.all.isB
  have hsm := h.small.1
  have hsm3 := h.small.2.2.1
  obtain ⟨aa, ac, rfl, hac, hacm⟩ := h.all.form
  obtain ⟨i0, hi, hz0, hz1, hz2⟩ := info_parts Tryz.info5
  have hIB := (hB.drop (k := lo) (by omega)).take (k := n) (by rw [List.length_drop]; omega)
  rw [show (List.drop lo J.all).take n = J.recs[k] from hsl] at hIB
  obtain ⟨sa, hsa⟩ : ∃ sa, (if ac = lo then aa else aa.map (·.add (lo * 1))) = sa := ⟨_, rfl⟩
  rw [hsa] at hIB
  have hrun : ∀ W, (Instr.slice 25 (.slice aa J.all.length ac) (some (.int .i64 lo)) (some (.int .i64 hi_)) none).run Tryz.prog W = .ok (.slice sa n (ac - lo)) W := fun W => by
    rw [run_slice_range Tryz.underlying25 hi aa J.all.length ac lo hi_ (by omega) (by omega) W, hz1, hsa, show hi_ - lo = n from by omega]
  obtain ⟨w1, hw1⟩ : ∃ w1, w.alloc (.cells #[.int .i64 lo, .int .i64 hi_] 189) = w1 := ⟨_, rfl⟩
  have hk1 : Kept (fun _ => False) w w1 := by rw [← hw1]; exact (Kept.refl _ _).alloc _
  have e0 : w1.cell? ⟨w.heap.size, 0, none⟩ = some (.int .i64 lo) := by rw [← hw1, World.cell?_alloc_new]; rfl
  have e1 : w1.cell? ⟨w.heap.size, 1, none⟩ = some (.int .i64 hi_) := by rw [← hw1, World.cell?_alloc_new]; rfl
  have e2 := hk1.cell hc2 (fun f => f)
  have hkd : Kept (fun _ => False) w1 w1.drew := (Kept.refl _ w1).drew
  have hCL := Lib.hid (clone_any w1.drew _ _ ((hIB.keptF hk1 (fun _ _ f => f)).keptF hkd (fun _ _ f => f)) (by rw [hn]; omega))
  have hlo64 : lo ≤ 4194304 := by omega
  have hhi64 : hi_ ≤ 4194304 := by omega
  have hkI : (k : Int) < (J.recs.length : Int) := by omega
  have hkM : k ≤ 4194304 := by omega
  have HK := Lib.hid (hk1.more hkd (fun _ f => f.elim))
  generalize J.recs[k] = rk at *
  clear hi hz0 hz1 hz2 hsa hIB hB hac hacm hsm hsm3 hpc1 hle hsl hlo hn hhi f1 f2 hfz hc0 hc1 hc4 hc5 h hk1 hkd
  have hS : w1.drew.cell? ⟨j, 2, none⟩ = some (.slice aa J.all.length ac) ∧ w1.drew.cell? ⟨w.heap.size, 0, none⟩ = some (.int .i64 lo) ∧ w1.drew.cell? ⟨w.heap.size, 1, none⟩ = some (.int .i64 hi_) := ⟨e2, e0, e1⟩
  go_enter Tryz.func91, Tryz.ntmps91
  go_wp2_with fail
  go_region_held (fun w' => w'.cell? ⟨j, 2, none⟩ = some (.slice aa J.all.length ac) ∧ w'.cell? ⟨w.heap.size, 0, none⟩ = some (.int .i64 lo) ∧ w'.cell? ⟨w.heap.size, 1, none⟩ = some (.int .i64 hi_))
    (first | exact hS | exact hS2)
    ((go_at_call 49; refine hCL.out.mono ?_; rintro e' w2 ⟨v2, rfl, hf2, -⟩; have hS2 := And.intro (hf2.kept.cell hS.1 (fun f => f)) (And.intro (hf2.kept.cell hS.2.1 (fun f => f)) (hf2.kept.cell hS.2.2 (fun f => f)))))
  go_wp2
  go_ret
  exact ⟨_, rfl, hf2.behind HK.out⟩

end
end Go.Proofs.YtemilbemdlpkaaaGreatDoor

/- journal.Open of a file that is not there. -/
namespace Go.Proofs.YtemilbemdlpkaaaGreatDoor
open Go.RowKit Go.ChangeMaps Go.MapKept

set_option maxRecDepth 100000 in
theorem jopen_empty {w : World} {b m : Nat} {es : Array MapEntry} {clock : Nat} {D : DM} (hd : DiskAt w b m es clock D) (s : ByteArray) (hs : s.size ≤ 32) (hg : getA s D.files = none) :
    Calls Tryz.prog 41 #[.pointer (some ⟨b, 0, none⟩), .string s] w fun e w' => ∃ j, e = .returned (.tuple #[.pointer (some ⟨j, 0, none⟩), .int .i64 0]) ∧ w.heap.size ≤ j ∧ JAt w' j b m es clock (.slice none 0 0) (.slice none 0 0) D ⟨s, [], 0, false⟩ ∧ Kept (fun _ => False) w w' := by
  have hR := read_any hd s
  unfold ReadEnd at hR
  rw [hg] at hR
  have hbs : D.bytes s = [] := by unfold DM.bytes; rw [hg]; rfl
  rw [hbs] at hR
  have HR := Lib.hid hR
  have HD := Lib.hid hd
  clear hR hd
  go_enter Tryz.func41, Tryz.ntmps41
  go_wp2_with fail
  go_step3
  go_wp2_with fail
  refine HR.out.mono ?_
  rintro e w1 ⟨v1, rfl, hf1, hv1⟩
  obtain rfl := hv1 trivial
  obtain ⟨w2, hw2⟩ : ∃ w2, w1.alloc (.cells #[.pointer (some ⟨b, 0, none⟩), .string s, .slice none 0 0, .slice none 0 0, .int .i64 0, .bool false] 153) = w2 := ⟨_, rfl⟩
  have hk2 : Kept (fun _ => False) w1 w2 := by rw [← hw2]; exact (Kept.refl _ _).alloc _
  have hc2 : w2.heap[w1.heap.size]? = some (.cells #[.pointer (some ⟨b, 0, none⟩), .string s, .slice none 0 0, .slice none 0 0, .int .i64 0, .bool false] 153 (0, 0)) := by rw [← hw2]; exact heap_alloc_new _ _
  have hRD := Lib.hid (reader_any w2 (.slice none 0 0) [] ⟨none, 0, rfl, Nat.le_refl _, by simp [maxLen], .inl rfl⟩ (by simp))
  go_wp2_with fail
  refine hRD.out.mono ?_
  rintro e w3 ⟨B, rfl, hB, hRA, hk3⟩
  have hc3 := (hk3.block _ (Array.getElem?_eq_some_iff.1 hc2).1 (fun f => f)).trans hc2
  have hd34 : w3.cell? ⟨w1.heap.size, 4, none⟩ = some (.int .i64 0) := by simp [World.cell?, hc3]
  have hkA := (hf1.kept.more hk2 (fun _ f => f.elim)).more hk3 (fun _ f => f.elim)
  have HF : Hid (JAt w3 w1.heap.size b m es clock (.slice none 0 0) (.slice none 0 0) D ⟨s, [], 0, false⟩ ∧ w.heap.size ≤ w1.heap.size) := Lib.hid ⟨⟨HD.out.kept hkA (fun _ _ f => f), hc3, World.ownsRow_nil _ _ _ _, World.ownsRow_nil _ _ _ _, (fun g e => by cases e), by simp [JM.all], by simp, by simp, hs⟩, hf1.kept.size⟩
  have hL := Lib.hid (left_any hRA)
  clear hc3 hc2 hw2 hk2 hf1
  go_wp2_with fail
  go_step3
  go_wp2_with fail
  go_loopw [10] (fun u wr => wr = w3) (fun _ _ => 0)
  case atStart => exact rfl
  case round =>
    obtain rfl := hrel
    go_wp2_with fail
    refine hL.out.mono ?_
    rintro e w4 ⟨rfl, rfl⟩
    go_wp2
    (try rw [Exit.noGoto_ret])
    go_ret2
    exact ⟨_, rfl, HF.out.2, HF.out.1, hkA⟩
end Go.Proofs.YtemilbemdlpkaaaGreatDoor

/- octet and journal: the plain model of a text that is read, of a journal's file. -/
namespace Go.Proofs.YtemilbemdlpkaaaGreatDoor
theorem nodup_of_map {α β : Type} (f : α → β) : ∀ {l : List α}, (l.map f).Nodup → l.Nodup
  | [], _ => List.nodup_nil
  | x :: l, h => by
    rw [List.map_cons, List.nodup_cons] at h
    exact List.nodup_cons.2 ⟨fun hm => h.1 (List.mem_map_of_mem hm), nodup_of_map f h.2⟩

section
variable {α β : Type} [DecidableEq α]
theorem getA_cons (k : α) (p : α × β) (l : List (α × β)) : getA k (p :: l) = if p.1 = k then some p.2 else getA k l := rfl
theorem mem_iff_getA {l : List (α × β)} (h : NodupA l) (k : α) (v : β) : (k, v) ∈ l ↔ getA k l = some v := ⟨getA_of_mem h, getA_mem⟩
theorem perm_of_get {l l' : List (α × β)} (h : NodupA l) (h' : NodupA l') (hg : ∀ k, getA k l = getA k l') : l.Perm l' := by
  refine (List.perm_ext_iff_of_nodup (nodup_of_map _ h) (nodup_of_map _ h')).2 ?_
  rintro ⟨k, v⟩
  rw [mem_iff_getA h, mem_iff_getA h', hg]
omit [DecidableEq α] in
theorem NodupA.perm {l l' : List (α × β)} (h : NodupA l) (hp : l.Perm l') : NodupA l' := (hp.map _).nodup_iff.1 h
theorem get_of_perm {l l' : List (α × β)} (h : NodupA l) (hp : l.Perm l') (k : α) : getA k l = getA k l' := by
  have h' := h.perm hp
  cases hg : getA k l' with
  | some v => exact (mem_iff_getA h k v).1 (hp.mem_iff.2 ((mem_iff_getA h' k v).2 hg))
  | none =>
    cases hg2 : getA k l with
    | none => rfl
    | some v =>
      have := (mem_iff_getA h' k v).1 (hp.mem_iff.1 ((mem_iff_getA h k v).2 hg2))
      rw [hg] at this; cases this
theorem getA_of_not_mem {l : List (α × β)} {k : α} (h : k ∉ l.map (·.1)) : getA k l = none := by
  cases hg : getA k l with
  | none => rfl
  | some v => exact absurd (List.mem_map.2 ⟨_, getA_mem hg, rfl⟩) h
theorem mem_of_getA {l : List (α × β)} {k : α} {v : β} (h : getA k l = some v) : k ∈ l.map (·.1) := List.mem_map.2 ⟨_, getA_mem h, rfl⟩
theorem getA_append (k : α) (l l' : List (α × β)) : getA k (l ++ l') = match getA k l with | some v => some v | none => getA k l' := by
  induction l with
  | nil => rfl
  | cons p l ih =>
    rw [List.cons_append, getA_cons, getA_cons]
    by_cases h : p.1 = k
    · rw [if_pos h, if_pos h]
    · rw [if_neg h, if_neg h]; exact ih
end

theorem strB_data (s : ByteArray) : strB s.data.toList = s := by unfold strB; simp

theorem numFrom_uintB (n : Nat) : ∀ (x i a : Nat) (rest : List UInt8), x < 2 ^ (7 * n) → 0 < n → i + n ≤ 9 → (0 < i → 0 < x) → numFrom i a (uintB x ++ rest) = (a + x * 2 ^ (7 * i), i + (uintB x).length, 0) := by
  induction n with
  | zero => intro x i a rest _ h; omega
  | succ n ih =>
    intro x i a rest hx _ hi h0
    by_cases hs : x < 128
    · rw [uintB_small hs]
      have ht : (UInt8.ofNat x).toNat = x := by simp; omega
      rw [List.cons_append, List.nil_append]
      unfold numFrom
      rw [ht, if_neg (by omega), if_pos hs, Nat.mod_eq_of_lt hs]
      rfl
    · rw [uintB_big hs]
      have ht : (UInt8.ofNat (x % 128 + 128)).toNat = x % 128 + 128 := by simp; omega
      have hn0 : 0 < n := by
        rcases Nat.eq_zero_or_pos n with rfl | h1
        · simp at hx; omega
        · exact h1
      rw [List.cons_append]
      unfold numFrom
      rw [ht, if_neg (by omega), if_neg (by omega), ih (x / 128) (i + 1) _ rest (by rw [Nat.div_lt_iff_lt_mul (by omega), show 2 ^ (7 * n) * 128 = 2 ^ (7 * (n + 1)) from by rw [Nat.mul_add, Nat.pow_add]]; exact hx) hn0 (by omega) (fun _ => by omega)]
      have e1 : 2 ^ (7 * (i + 1)) = 128 * 2 ^ (7 * i) := by rw [Nat.mul_add, Nat.pow_add, Nat.mul_comm]
      have e2 : x * 2 ^ (7 * i) = (128 * (x / 128) + x % 128) * 2 ^ (7 * i) := by rw [Nat.div_add_mod]
      have e3 : (x % 128 + 128) % 128 = x % 128 := by omega
      have e4 : (128 * (x / 128)) * 2 ^ (7 * i) = x / 128 * (128 * 2 ^ (7 * i)) := by rw [Nat.mul_comm 128 (x / 128), Nat.mul_assoc]
      rw [e1, e2, e3, Nat.add_mul, e4, List.length_cons]
      simp only [Prod.mk.injEq, and_true]
      constructor <;> omega
theorem numB_uintB (x : Nat) (hx : x < 9223372036854775808) (rest : List UInt8) : numB (uintB x ++ rest) = (x, (uintB x).length, 0) := by
  have h := numFrom_uintB 9 x 0 0 rest (by omega) (by omega) (by omega) (by omega)
  unfold numB
  rw [h]
  simp
theorem numFrom_short (n : Nat) : ∀ (x i a : Nat) (q : List UInt8), x < 2 ^ (7 * n) → 0 < n → i + n ≤ 9 → q <+: uintB x → q.length < (uintB x).length → numFrom i a q = (0, 0, 110) := by
  induction n with
  | zero => intro x i a q _ h; omega
  | succ n ih =>
    intro x i a q hx _ hi hp hl
    cases q with
    | nil => rfl
    | cons c q =>
      by_cases hs : x < 128
      · rw [uintB_small hs] at hl; simp at hl
      · rw [uintB_big hs] at hp hl
        have ht : (UInt8.ofNat (x % 128 + 128)).toNat = x % 128 + 128 := by simp; omega
        have hn0 : 0 < n := by
          rcases Nat.eq_zero_or_pos n with rfl | h1
          · simp at hx; omega
          · exact h1
        obtain ⟨rfl, hp2⟩ := List.cons_prefix_cons.1 hp
        unfold numFrom
        rw [ht, if_neg (by omega), if_neg (by omega)]
        exact ih (x / 128) (i + 1) _ q (by rw [Nat.div_lt_iff_lt_mul (by omega), show 2 ^ (7 * n) * 128 = 2 ^ (7 * (n + 1)) from by rw [Nat.mul_add, Nat.pow_add]]; exact hx) hn0 (by omega) hp2 (by simpa using hl)
theorem numB_short (x : Nat) (hx : x < 9223372036854775808) (q : List UInt8) (hp : q <+: uintB x) (hl : q.length < (uintB x).length) : numB q = (0, 0, 110) :=
  numFrom_short 9 x 0 0 q (by omega) (by omega) (by omega) hp hl

/-- The next text. -/
def RM.text (r : RM) (most : Nat) : ByteArray × RM :=
  if r.err = 0 then
    (if (numB r.bs).2.2 = 0 then
      (if most < (numB r.bs).1 then (⟨#[]⟩, { r with err := 3 })
       else if r.bs.length - (numB r.bs).2.1 < (numB r.bs).1 then (⟨#[]⟩, { r with err := 110 })
       else (strB ((r.bs.drop (numB r.bs).2.1).take (numB r.bs).1), { r with bs := (r.bs.drop (numB r.bs).2.1).drop (numB r.bs).1 }))
     else (⟨#[]⟩, { r with err := (numB r.bs).2.2 }))
  else (⟨#[]⟩, r)
theorem wordB_len8 (x : Nat) : (wordB x).length = 8 := by simp [wordB]
theorem wordFrom_of_wordB (x : Nat) (hx : x < 18446744073709551616) : wordFrom 0 (wordB x) = x := by
  unfold wordB wordFrom
  rw [show List.range 8 = [0, 1, 2, 3, 4, 5, 6, 7] from rfl]
  simp only [List.map_cons, List.map_nil, List.foldl_cons, List.foldl_nil, UInt8.toNat_ofNat']
  omega
theorem RM.word_at (x : Nat) (hx : x < 18446744073709551616) (rest : List UInt8) : (RM.mk (wordB x ++ rest) 0).word = (x, ⟨rest, 0⟩) := by
  have h8 := wordB_len8 x
  unfold RM.word
  rw [if_pos rfl, if_neg (by simp only [List.length_append]; omega)]
  simp only []
  rw [List.take_append_of_le_length (by omega), List.take_of_length_le (by omega), wordFrom_of_wordB x hx, List.drop_append_of_le_length (by omega), List.drop_eq_nil_of_le (by omega), List.nil_append]
theorem RM.uint_at (x : Nat) (hx : x < 9223372036854775808) (rest : List UInt8) : (RM.mk (uintB x ++ rest) 0).uint = (x, ⟨rest, 0⟩) := by
  unfold RM.uint
  rw [if_pos rfl]
  simp only []
  rw [numB_uintB x hx, if_pos rfl]
  simp
theorem RM.text_at (s : ByteArray) (most : Nat) (hs : s.size ≤ most) (hm : most < 9223372036854775808) (rest : List UInt8) : (RM.mk (textB s ++ rest) 0).text most = (s, ⟨rest, 0⟩) := by
  have hl := txB_length s
  unfold RM.text textB
  rw [if_pos rfl]
  simp only []
  rw [List.append_assoc, numB_uintB s.size (by omega), if_pos rfl, if_neg (by omega)]
  simp only [List.length_append, List.drop_left]
  rw [if_neg (by omega), List.take_append_of_le_length (by omega), List.take_of_length_le (by omega), List.drop_append_of_le_length (by omega), List.drop_eq_nil_of_le (by omega), List.nil_append]
  simp [txB]; exact strB_data s
theorem RM.word_err (r : RM) (h : r.err ≠ 0) : r.word = (0, r) := by unfold RM.word; rw [if_neg h]
theorem RM.text_err (r : RM) (h : r.err ≠ 0) (most : Nat) : r.text most = (⟨#[]⟩, r) := by unfold RM.text; rw [if_neg h]
theorem RM.word_len (r : RM) : r.word.2.bs.length ≤ r.bs.length := by
  unfold RM.word
  split
  · split
    · exact Nat.le_refl _
    · simp
  · exact Nat.le_refl _
theorem RM.text_len (r : RM) (most : Nat) : (r.text most).2.bs.length + (r.text most).1.size ≤ r.bs.length ∧ ((r.text most).2.err = 0 → r.err = 0 ∧ (r.text most).2.bs.length < r.bs.length ∧ (r.text most).1.size ≤ most) := by
  have hnum := numFrom_le 0 0 r.bs
  rw [show numFrom 0 0 r.bs = numB r.bs from rfl] at hnum
  obtain ⟨n1, n2⟩ := hnum
  unfold RM.text
  by_cases he : r.err = 0
  · rw [if_pos he]
    by_cases h2 : (numB r.bs).2.2 = 0
    · rw [if_pos h2]
      have n3 := n2 h2
      split
      · exact ⟨by simp [ByteArray.size], fun h => (by cases h)⟩
      · split
        · exact ⟨by simp [ByteArray.size], fun h => (by cases h)⟩
        · simp only [strB_size, List.length_drop, List.length_take]
          exact ⟨by omega, fun _ => ⟨he, by omega, by omega⟩⟩
    · rw [if_neg h2]
      exact ⟨by simp [ByteArray.size], fun h => absurd h h2⟩
  · rw [if_neg he]
    exact ⟨by simp [ByteArray.size], fun h => absurd h he⟩

/-! ### a journal's file -/
def jGo : Nat → List UInt8 → List (List UInt8) → Nat → Option (List (List UInt8) × Nat)
  | 0, _, recs, sz => some (recs, sz)
  | f + 1, bs, recs, sz =>
    if bs = [] then some (recs, sz)
    else if ((RM.mk bs 0).text 262144).2.word.2.err = 110 then some (recs, sz)
    else if ((RM.mk bs 0).text 262144).2.word.2.err ≠ 0 ∨ ((RM.mk bs 0).text 262144).2.word.1 ≠ hashB (txB ((RM.mk bs 0).text 262144).1) then none
    else jGo f ((RM.mk bs 0).text 262144).2.word.2.bs (recs ++ [txB ((RM.mk bs 0).text 262144).1]) (sz + (bs.length - ((RM.mk bs 0).text 262144).2.word.2.bs.length))
def jOpen (bs : List UInt8) : Option (List (List UInt8) × Nat) := jGo bs.length bs [] 0
theorem jGo_nil (f : Nat) (recs : List (List UInt8)) (sz : Nat) : jGo f [] recs sz = some (recs, sz) := by cases f <;> simp [jGo]
theorem recB_ne (p : List UInt8) : recB p ≠ [] := by
  intro h
  have : (wordB (hashB p)).length = 8 := wordB_len8 _
  unfold recB at h
  rw [List.append_eq_nil_iff] at h
  rw [h.2] at this
  cases this
theorem jGo_rec (f : Nat) (p rest : List UInt8) (hp : p.length ≤ 262144) (recs : List (List UInt8)) (sz : Nat) : jGo (f + 1) (recB p ++ rest) recs sz = jGo f rest (recs ++ [p]) (sz + (recB p).length) := by
  have hb := recB_ne p
  unfold jGo
  rw [if_neg (by simp [hb])]
  have e1 : recB p ++ rest = textB (strB p) ++ (wordB (hashB p) ++ rest) := by unfold recB; rw [List.append_assoc]
  have e2 : (recB p ++ rest).length - rest.length = (recB p).length := by simp
  rw [e1, RM.text_at (strB p) 262144 (by rw [strB_size]; exact hp) (by omega), RM.word_at (hashB p) (hashB_lt p)]
  simp only []
  rw [if_neg (by simp), if_neg (by simp [txB_strB]), txB_strB, ← e1, e2]
  cases f with
  | zero => simp [jGo]
  | succ f => rfl
theorem jGo_part (f : Nat) (p q : List UInt8) (hp : p.length ≤ 262144) (hq : q <+: recB p) (hl : q.length < (recB p).length) (recs : List (List UInt8)) (sz : Nat) : jGo f q recs sz = some (recs, sz) := by
  cases f with
  | zero => rfl
  | succ f =>
    unfold jGo
    by_cases hn : q = []
    · rw [if_pos hn]
    rw [if_neg hn]
    have key : ((RM.mk q 0).text 262144).2.word.2.err = 110 := by
      rw [recB_eq] at hq hl
      by_cases h1 : q.length < (uintB p.length).length
      · have hq1 : q <+: uintB p.length := List.prefix_of_prefix_length_le hq ⟨p ++ wordB (hashB p), by simp⟩ (by omega)
        have e := numB_short p.length (by omega) q hq1 h1
        have : (RM.mk q 0).text 262144 = (⟨#[]⟩, ⟨q, 110⟩) := by
          unfold RM.text
          rw [if_pos rfl]
          simp only []
          rw [e]
          simp
        rw [this]
        rfl
      · obtain ⟨q1, rfl⟩ : ∃ q1, q = uintB p.length ++ q1 := by
          obtain ⟨t, ht⟩ := List.prefix_of_prefix_length_le (l₁ := uintB p.length) (l₂ := q) ⟨p ++ wordB (hashB p), by simp⟩ hq (by omega)
          exact ⟨t, ht.symm⟩
        rw [List.append_assoc] at hq
        have hq1 := (List.prefix_append_right_inj _).1 hq
        have e := numB_uintB p.length (by omega) q1
        by_cases h2 : q1.length < p.length
        · have : (RM.mk (uintB p.length ++ q1) 0).text 262144 = (⟨#[]⟩, ⟨uintB p.length ++ q1, 110⟩) := by
            unfold RM.text
            rw [if_pos rfl]
            simp only []
            rw [e]
            simp only [if_true]
            rw [if_neg (by omega), if_pos (by simp only [List.length_append]; omega)]
          rw [this]
          rfl
        · obtain ⟨q2, rfl⟩ : ∃ q2, q1 = p ++ q2 := by
            obtain ⟨t, ht⟩ := List.prefix_of_prefix_length_le (l₁ := p) (l₂ := q1) ⟨wordB (hashB p), rfl⟩ hq1 (by omega)
            exact ⟨t, ht.symm⟩
          have h8 : q2.length < 8 := by
            have := wordB_len8 (hashB p)
            simp only [List.length_append] at hl
            omega
          have e3 : uintB p.length ++ (p ++ q2) = textB (strB p) ++ q2 := by unfold textB; rw [strB_size, txB_strB, List.append_assoc]
          rw [e3, RM.text_at (strB p) 262144 (by rw [strB_size]; exact hp) (by omega)]
          unfold RM.word
          simp [h8]
    rw [if_pos key]
theorem jGo_all (p q : List UInt8) (hp : p.length ≤ 262144) (hq : q <+: recB p) (hl : q.length < (recB p).length) : ∀ (l : List (List UInt8)) (f : Nat) (recs : List (List UInt8)) (sz : Nat), (∀ x ∈ l, x.length ≤ 262144) → l.length ≤ f → jGo f ((l.map recB).flatten ++ q) recs sz = some (recs ++ l, sz + (l.map recB).flatten.length)
  | [], f, recs, sz, _, _ => by simpa using jGo_part f p q hp hq hl recs sz
  | x :: l, f + 1, recs, sz, h, hf => by
    rw [List.map_cons, List.flatten_cons, List.append_assoc, jGo_rec f x _ (h x (by simp)), jGo_all p q hp hq hl l f _ _ (fun y hy => h y (by simp [hy])) (by simpa using hf)]
    simp only [List.append_assoc, List.singleton_append, List.length_append, Option.some.injEq, Prod.mk.injEq, true_and]
    omega
  | x :: l, 0, _, _, _, hf => by simp at hf
theorem recB_flat_len (l : List (List UInt8)) : l.length ≤ (l.map recB).flatten.length := by
  induction l with
  | nil => simp
  | cons x l ih =>
    have := List.length_pos_iff.2 (recB_ne x)
    rw [List.map_cons, List.flatten_cons, List.length_append, List.length_cons]
    omega
theorem jOpen_part (l : List (List UInt8)) (p q : List UInt8) (h : ∀ x ∈ l, x.length ≤ 262144) (hp : p.length ≤ 262144) (hq : q <+: recB p) (hl : q.length < (recB p).length) : jOpen ((l.map recB).flatten ++ q) = some (l, (l.map recB).flatten.length) := by
  unfold jOpen
  rw [jGo_all p q hp hq hl l _ [] 0 h (by have := recB_flat_len l; simp only [List.length_append]; omega)]
  simp
theorem jOpen_whole (l : List (List UInt8)) (h : ∀ x ∈ l, x.length ≤ 262144) : jOpen (l.map recB).flatten = some (l, (l.map recB).flatten.length) := by
  have := jOpen_part l [] [] h (by simp) List.nil_prefix (List.length_pos_iff.2 (recB_ne []))
  rwa [List.append_nil] at this
end Go.Proofs.YtemilbemdlpkaaaGreatDoor
