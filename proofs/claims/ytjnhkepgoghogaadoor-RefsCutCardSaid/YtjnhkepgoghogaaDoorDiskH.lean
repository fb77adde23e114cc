/- disk: Rename. -/
import Derived.Test.YtjnhkepgoghogaaDoorDiskG
import Derived.Lib.SlicesS
namespace Go.Proofs.YtjnhkepgoghogaaDoor
open Go.RowKit Go.ChangeMaps Go.MapKept

def DM.rename (D : DM) (f t : ByteArray) : Int × DM :=
  if mayB t = false then (2, D)
  else if getA f D.files = none then (4, D)
  else if f = t then (0, D)
  else match D.raw with
    | none => (6, D)
    | some D' => (0, (D'.del f).put t (D.bytes f))

set_option maxRecDepth 100000 in
theorem rename1 {w : World} {b m : Nat} {es : Array MapEntry} {clock : Nat} {D : DM} (h : DiskAt w b m es clock D) (Bv Bf Bd Bt : Nat) (f t : ByteArray) (oa : Option Addr) (oc : Nat) (xs : List UInt8)
    (hd : w.cell? ⟨Bd, 0, none⟩ = some (.pointer (some ⟨b, 0, none⟩))) (hf : w.cell? ⟨Bf, 0, none⟩ = some (.string f)) (hv : w.cell? ⟨Bv, 0, none⟩ = some (.slice oa xs.length oc)) (ht : w.cell? ⟨Bt, 0, none⟩ = some (.string t))
    (hO : OwnB w (.slice oa xs.length oc) xs) (hOf : ∀ g, (Value.slice oa xs.length oc).ownBlock = some g → ∃ e ∈ es.toList, e.key = .string f ∧ e.val.ownBlock = some g) (hx : xs.length ≤ 4194304) (hs : mayB t = true) (hg : (getA f D.files).isSome = true)
    (hdm : Bd ≠ m ∧ Bf ≠ m ∧ Bv ≠ m ∧ Bt ≠ m) :
    Calls Tryd.prog 69 #[.pointer (some ⟨Bd, 0, none⟩), .pointer (some ⟨Bf, 0, none⟩), .pointer (some ⟨Bv, 0, none⟩), .pointer (some ⟨Bt, 0, none⟩)] w (ClosD w b m es ((D.del f).put t xs)) := by
  have hc0 := h.c0
  obtain ⟨es1, hrun1, h1, hmem1, hk1⟩ := (h.kept (drew_kept w) (fun _ _ h => h)).del f
  have hk1' : Kept (· = m) w (setBlock w.drew m (.map es1 clock)) := ((drew_kept w).mono (fun _ _ h => h.elim)).trans hk1 (fun _ _ h => h)
  have hO1 : OwnB (setBlock w.drew m (.map es1 clock)).drew (.slice oa xs.length oc) xs := OwnB.kept hO fun g hgo => by
    obtain ⟨e, he, _, hgo'⟩ := hOf g hgo
    have h5 := h.own he hgo'
    exact hk1'.block g h5.2.2 h5.2.1
  have hcount : (D.del f).files.length < 256 := by
    have := h.ok.count
    simp only [DM.del, length_delA, hg, if_true]
    have : 0 < D.files.length := by
      cases hl : D.files with
      | nil => rw [hl] at hg; simp [getA] at hg
      | cons _ _ => simp
    omega
  obtain ⟨es2, clk2, hrun2, h2, hF2, hk2⟩ := (h1.kept (drew_kept _) (fun _ _ h => h)).put2 (s := t) hO1 (fun g hgo => by
      obtain ⟨e, he, hek, hgo'⟩ := hOf g hgo
      have h5 := h.own he hgo'
      exact ⟨h5.1, h5.2.1, fun e' he' _ hg' => h.apart e he e' (hmem1 e' he').1 (by rw [hek]; exact Ne.symm (hmem1 e' he').2) g hgo' hg'⟩) (DM.put_ok h1.ok hs hx (fun _ => hcount))
  have hc1 := h1.c0
  have hd1 := hk1'.cell hd hdm.1
  have hf1 := hk1'.cell hf hdm.2.1
  have hv1 := hk1'.cell hv hdm.2.2.1
  have ht1 := hk1'.cell ht hdm.2.2.2
  have hfoot : ∀ k, diskF b m es2 k → diskF b m es k ∨ w.heap.size ≤ k := fun k hk => .inl (by
    rcases hF2 k hk with (rfl | rfl | ⟨e, he, hgo⟩) | hgo
    · exact .inl rfl
    · exact .inr (.inl rfl)
    · exact .inr (.inr ⟨e, (hmem1 e he).1, hgo⟩)
    · obtain ⟨e, he, _, hgo'⟩ := hOf k hgo
      exact .inr (.inr ⟨e, he, hgo'⟩))
  have hkept : Kept (diskF b m es) w (setBlock (setBlock w.drew m (.map es1 clock)).drew m (.map es2 clk2)) :=
    ((hk1'.mono (fun _ _ e => .inr (.inl e))).trans (drew_kept _) (fun _ _ h => h.elim)).trans hk2 (fun _ _ e => .inr (.inl e))
  clear hx
  generalize setBlock w.drew m (.map es1 clock) = w1 at *
  generalize setBlock w1.drew m (.map es2 clk2) = w2 at *
  go_enter Tryd.func69, Tryd.ntmps69
  go_wp2
  go_region
  go_wp2
  go_region
  go_end0
  exact ⟨rfl, es2, clk2, h2, hfoot, hkept⟩

theorem raw_rename {w : World} {b m : Nat} {es : Array MapEntry} {clock : Nat} {D D' : DM} (h : DiskAt w b m es clock D) (hr : D.raw = some D') (hw : D.writes < 4611686018427387904) (Bv Bf Bd Bt : Nat) (f t : ByteArray) (oa : Option Addr) (oc : Nat) (xs : List UInt8)
    (hd : w.cell? ⟨Bd, 0, none⟩ = some (.pointer (some ⟨b, 0, none⟩))) (hf : w.cell? ⟨Bf, 0, none⟩ = some (.string f)) (hv : w.cell? ⟨Bv, 0, none⟩ = some (.slice oa xs.length oc)) (ht : w.cell? ⟨Bt, 0, none⟩ = some (.string t))
    (hO : OwnB w (.slice oa xs.length oc) xs) (hOf : ∀ g, (Value.slice oa xs.length oc).ownBlock = some g → ∃ e ∈ es.toList, e.key = .string f ∧ e.val.ownBlock = some g) (hx : xs.length ≤ 4194304) (hs : mayB t = true) (hg : (getA f D.files).isSome = true)
    (hdb : Bd ≠ b ∧ Bf ≠ b ∧ Bv ≠ b ∧ Bt ≠ b) (hdm : Bd ≠ m ∧ Bf ≠ m ∧ Bv ≠ m ∧ Bt ≠ m) :
    Calls Tryd.prog 59 #[.pointer (some ⟨b, 0, none⟩), .func (.func 69) #[] #[.pointer (some ⟨Bd, 0, none⟩), .pointer (some ⟨Bf, 0, none⟩), .pointer (some ⟨Bv, 0, none⟩), .pointer (some ⟨Bt, 0, none⟩)]] w (EndD w b m es 0 ((D'.del f).put t xs)) := by
  obtain ⟨w1, h1, hk1, hsz, hcall⟩ := raw_yes h hr hw
  obtain ⟨hok, hwr, hfi, hcu⟩ := DM.raw_ok h.ok hr
  refine hcall _ _ (fun w' => ∃ es' clock', DiskAfter w b m es ((D'.del f).put t xs) w' es' clock') (call_rename1 _) ((rename1 h1 Bv Bf Bd Bt f t oa oc xs (hk1.cell hd hdb.1) (hk1.cell hf hdb.2.1) (hk1.cell hv hdb.2.2.1) (hk1.cell ht hdb.2.2.2)
    (OwnB.kept hO fun g hgo => by
      obtain ⟨e, he, _, hgo'⟩ := hOf g hgo
      have h5 := h.own he hgo'
      exact hk1.block g h5.2.2 h5.1) hOf hx hs (by rw [hfi]; exact hg) hdm).mono ?_)
  rintro e w' ⟨rfl, es', clock', h2⟩
  exact ⟨rfl, es', clock', h2.disk, fun k hk => by rw [← hsz]; exact h2.foot k hk, (hk1.mono (fun k _ e => .inl e)).trans h2.kept fun _ _ hf => hf⟩


set_option maxRecDepth 100000 in
set_option maxHeartbeats 1000000 in
theorem rename_none {w : World} {b m : Nat} {es : Array MapEntry} {clock : Nat} {D : DM} (h : DiskAt w b m es clock D) (f t : ByteArray) (hs : t.size ≤ maxLen) (hm : mayB t = true) (hg : getA f D.files = none) :
    Calls Tryd.prog 40 #[.pointer (some ⟨b, 0, none⟩), .string f, .string t] w (EndD w b m es 4 D) := by
  obtain ⟨w2, hw2, hk, hsz, hBd, hBf, hBt⟩ := three_new w (.pointer (some ⟨b, 0, none⟩)) (.string f) (.string t) 24 9 9
  have hlt : ∀ k, diskF b m es k → k < w.heap.size := h.lt
  have h1 : DiskAt w2 b m es clock D := h.kept hk (fun _ _ hf => hf)
  have hc0 := h1.c0
  obtain ⟨old, hl, hold, holdf, ho⟩ := h1.lookW f true
  obtain ⟨oa, oc, rfl, -, -⟩ := hold.form
  rw [hg] at hl
  have hl1 := hl w2.drew h1.map
  have hl2 := hl (w2.alloc (.cells #[.slice none 0 0] 32)).drew ((Below.heap_alloc w2 _ m (h1.lt m (.inr (.inl rfl)))).trans h1.map)
  have hb1 : b < w2.heap.size := h1.lt b (.inl rfl)
  have hb2 : w.heap.size < w2.heap.size := by omega
  have hb3 : w.heap.size + 1 < w2.heap.size := by omega
  have hb4 : w.heap.size + 1 + 1 < w2.heap.size := by omega
  have hkk : Kept (fun _ => False) w (w2.alloc (.cells #[.slice oa (D.bytes f).length oc] 32)).drew := (hk.alloc _).drew
  have hBt' : w2.cell? ⟨w.heap.size + 1 + 1, 0, none⟩ = some (.string t) := hBt
  have HSZ := Lib.hid hsz
  go_enter Tryd.func40, Tryd.ntmps40
  go_wp2_with fail
  clear hw2 hl hsz hBt
  have HM := Lib.hid hm; clear hm
  refine (may_any _ _ hs).mono ?_
  rw [HM.out]
  rintro e w' ⟨rfl, rfl⟩
  go_wp2_with fail
  go_region
  all_goals
    go_wp2
    go_ret
    exact EndD.same h 4 (hk.alloc _).drew

set_option maxRecDepth 100000 in
set_option maxHeartbeats 1000000 in
theorem rename_bad {w : World} {b m : Nat} {es : Array MapEntry} {clock : Nat} {D : DM} (h : DiskAt w b m es clock D) (f t : ByteArray) (hs : t.size ≤ maxLen) (hm : mayB t = false) :
    Calls Tryd.prog 40 #[.pointer (some ⟨b, 0, none⟩), .string f, .string t] w (EndD w b m es 2 D) := by
  have HM := Lib.hid hm; clear hm
  go_enter Tryd.func40, Tryd.ntmps40
  go_wp2_with (go_at_call 58; refine (may_any _ _ hs).mono ?_; rw [HM.out]; rintro e w' ⟨rfl, rfl⟩)
  go_ret
  exact EndD.same h 2 ((((Kept.refl _ _).alloc _).alloc _).alloc _)

set_option maxRecDepth 100000 in
set_option maxHeartbeats 1000000 in
theorem rename_same {w : World} {b m : Nat} {es : Array MapEntry} {clock : Nat} {D : DM} (h : DiskAt w b m es clock D) (f : ByteArray) (hs : f.size ≤ maxLen) (hm : mayB f = true) (x : List UInt8) (hg : getA f D.files = some x) :
    Calls Tryd.prog 40 #[.pointer (some ⟨b, 0, none⟩), .string f, .string f] w (EndD w b m es 0 D) := by
  have heq : (f.toList == f.toList) = true := by simp
  obtain ⟨w2, hw2, hk, hsz, hBd, hBf, hBt⟩ := three_new w (.pointer (some ⟨b, 0, none⟩)) (.string f) (.string f) 24 9 9
  have hlt : ∀ k, diskF b m es k → k < w.heap.size := h.lt
  have h1 : DiskAt w2 b m es clock D := h.kept hk (fun _ _ hf => hf)
  have hc0 := h1.c0
  obtain ⟨old, hl, hold, holdf, ho⟩ := h1.lookW f true
  obtain ⟨oa, oc, rfl, -, -⟩ := hold.form
  rw [hg] at hl
  have hl1 := hl w2.drew h1.map
  have hl2 := hl (w2.alloc (.cells #[.slice none 0 0] 32)).drew ((Below.heap_alloc w2 _ m (h1.lt m (.inr (.inl rfl)))).trans h1.map)
  have hb1 : b < w2.heap.size := h1.lt b (.inl rfl)
  have hb2 : w.heap.size < w2.heap.size := by omega
  have hb3 : w.heap.size + 1 < w2.heap.size := by omega
  have hb4 : w.heap.size + 1 + 1 < w2.heap.size := by omega
  have hkk : Kept (fun _ => False) w (w2.alloc (.cells #[.slice oa (D.bytes f).length oc] 32)).drew := (hk.alloc _).drew
  have hBt' : w2.cell? ⟨w.heap.size + 1 + 1, 0, none⟩ = some (.string f) := hBt
  have HSZ := Lib.hid hsz
  go_enter Tryd.func40, Tryd.ntmps40
  go_wp2_with fail
  clear hw2 hl hsz hBt
  have HM := Lib.hid hm; clear hm
  refine (may_any _ _ hs).mono ?_
  rw [HM.out]
  rintro e w' ⟨rfl, rfl⟩
  go_wp2_with fail
  go_region
  all_goals
    go_wp2
    go_ret
    exact EndD.same h 0 hkk


set_option maxRecDepth 100000 in
set_option maxHeartbeats 1000000 in
theorem rename_cut {w : World} {b m : Nat} {es : Array MapEntry} {clock : Nat} {D : DM} (h : DiskAt w b m es clock D) (f t : ByteArray) (hs : t.size ≤ maxLen) (hm : mayB t = true) (x : List UInt8) (hg : getA f D.files = some x) (hne : f ≠ t) (hraw : D.raw = none) :
    Calls Tryd.prog 40 #[.pointer (some ⟨b, 0, none⟩), .string f, .string t] w (EndD w b m es 6 D) := by
  have heq := (Lib.bytes_beq_false_iff f t).2 hne
  have HR := Lib.hid hraw
  clear hraw
  obtain ⟨w2, hw2, hk, hsz, hBd, hBf, hBt⟩ := three_new w (.pointer (some ⟨b, 0, none⟩)) (.string f) (.string t) 24 9 9
  have hlt : ∀ k, diskF b m es k → k < w.heap.size := h.lt
  have h1 : DiskAt w2 b m es clock D := h.kept hk (fun _ _ hf => hf)
  have hc0 := h1.c0
  obtain ⟨old, hl, hold, holdf, ho⟩ := h1.lookW f true
  obtain ⟨oa, oc, rfl, -, -⟩ := hold.form
  rw [hg] at hl
  have hl1 := hl w2.drew h1.map
  have hl2 := hl (w2.alloc (.cells #[.slice none 0 0] 32)).drew ((Below.heap_alloc w2 _ m (h1.lt m (.inr (.inl rfl)))).trans h1.map)
  have hb1 : b < w2.heap.size := h1.lt b (.inl rfl)
  have hb2 : w.heap.size < w2.heap.size := by omega
  have hb3 : w.heap.size + 1 < w2.heap.size := by omega
  have hb4 : w.heap.size + 1 + 1 < w2.heap.size := by omega
  have hkk : Kept (fun _ => False) w (w2.alloc (.cells #[.slice oa (D.bytes f).length oc] 32)).drew := (hk.alloc _).drew
  have hBt' : w2.cell? ⟨w.heap.size + 1 + 1, 0, none⟩ = some (.string t) := hBt
  have HSZ := Lib.hid hsz
  go_enter Tryd.func40, Tryd.ntmps40
  go_wp2_with fail
  clear hw2 hl hsz hBt
  have HM := Lib.hid hm; clear hm
  refine (may_any _ _ hs).mono ?_
  rw [HM.out]
  rintro e w' ⟨rfl, rfl⟩
  go_wp2_with fail
  go_region
  all_goals
    have h3 : DiskAt (w2.alloc (.cells #[.slice oa (D.bytes f).length oc] 32)).drew b m es clock D := h.kept hkk (fun _ _ h => h)
    have hBv : (w2.alloc (.cells #[.slice oa (D.bytes f).length oc] 32)).drew.cell? ⟨w2.heap.size, 0, none⟩ = some (.slice oa (D.bytes f).length oc) := World.cell?_alloc_new w2 _ _ 0
    have hBd3 : (w2.alloc (.cells #[.slice oa (D.bytes f).length oc] 32)).drew.cell? ⟨w.heap.size, 0, none⟩ = some (.pointer (some ⟨b, 0, none⟩)) := (World.cell?_alloc_lt w2 _ _ hb2).trans hBd
    have hBf3 : (w2.alloc (.cells #[.slice oa (D.bytes f).length oc] 32)).drew.cell? ⟨w.heap.size + 1, 0, none⟩ = some (.string f) := (World.cell?_alloc_lt w2 _ _ hb3).trans hBf
    have hBt3 : (w2.alloc (.cells #[.slice oa (D.bytes f).length oc] 32)).drew.cell? ⟨w.heap.size + 1 + 1, 0, none⟩ = some (.string t) := (World.cell?_alloc_lt w2 _ _ hb4).trans hBt'
    have hkk2 : Kept (fun _ => False) w2 (w2.alloc (.cells #[.slice oa (D.bytes f).length oc] 32)).drew := ((Kept.refl _ _).alloc _).drew
    have hB3 : OwnB (w2.alloc (.cells #[.slice oa (D.bytes f).length oc] 32)).drew (.slice oa (D.bytes f).length oc) (D.bytes f) := OwnB.kept hold fun g hg => hkk2.block g (hold.lt g hg) (fun h => h)
    generalize (w2.alloc (.cells #[.slice oa (D.bytes f).length oc] 32)).drew = w3 at *
    have hbw := hlt b (.inl rfl)
    have hmw := hlt m (.inr (.inl rfl))
    clear hl1 hl2
    go_wp2_with fail
    refine (raw_no h3 HR.out _).mono ?_
    rintro e w5 ⟨rfl, rfl⟩
    go_wp2
    go_ret
    exact EndD.same h 6 hkk

set_option maxRecDepth 100000 in
set_option maxHeartbeats 1000000 in
theorem rename_raw {w : World} {b m : Nat} {es : Array MapEntry} {clock : Nat} {D D' : DM} (h : DiskAt w b m es clock D) (f t : ByteArray) (hs : t.size ≤ maxLen) (hm : mayB t = true) (x : List UInt8) (hg : getA f D.files = some x) (hne : f ≠ t) (hw : D.writes < 2305843009213693952) (hraw : D.raw = some D') :
    Calls Tryd.prog 40 #[.pointer (some ⟨b, 0, none⟩), .string f, .string t] w (EndD w b m es 0 ((D'.del f).put t (D.bytes f))) := by
  have heq := (Lib.bytes_beq_false_iff f t).2 hne
  have hle := DM.bytes_le h.ok f
  have HLE := Lib.hid hle
  have HR := Lib.hid hraw
  clear hraw hle
  obtain ⟨w2, hw2, hk, hsz, hBd, hBf, hBt⟩ := three_new w (.pointer (some ⟨b, 0, none⟩)) (.string f) (.string t) 24 9 9
  have hlt : ∀ k, diskF b m es k → k < w.heap.size := h.lt
  have h1 : DiskAt w2 b m es clock D := h.kept hk (fun _ _ hf => hf)
  have hc0 := h1.c0
  obtain ⟨old, hl, hold, holdf, ho⟩ := h1.lookW f true
  obtain ⟨oa, oc, rfl, -, -⟩ := hold.form
  rw [hg] at hl
  have hl1 := hl w2.drew h1.map
  have hl2 := hl (w2.alloc (.cells #[.slice none 0 0] 32)).drew ((Below.heap_alloc w2 _ m (h1.lt m (.inr (.inl rfl)))).trans h1.map)
  have hb1 : b < w2.heap.size := h1.lt b (.inl rfl)
  have hb2 : w.heap.size < w2.heap.size := by omega
  have hb3 : w.heap.size + 1 < w2.heap.size := by omega
  have hb4 : w.heap.size + 1 + 1 < w2.heap.size := by omega
  have hkk : Kept (fun _ => False) w (w2.alloc (.cells #[.slice oa (D.bytes f).length oc] 32)).drew := (hk.alloc _).drew
  have hBt' : w2.cell? ⟨w.heap.size + 1 + 1, 0, none⟩ = some (.string t) := hBt
  have HSZ := Lib.hid hsz
  go_enter Tryd.func40, Tryd.ntmps40
  go_wp2_with fail
  clear hw2 hl hsz hBt
  have HM := Lib.hid hm; clear hm
  refine (may_any _ _ hs).mono ?_
  rw [HM.out]
  rintro e w' ⟨rfl, rfl⟩
  go_wp2_with fail
  go_region
  all_goals
    have h3 : DiskAt (w2.alloc (.cells #[.slice oa (D.bytes f).length oc] 32)).drew b m es clock D := h.kept hkk (fun _ _ h => h)
    have hBv : (w2.alloc (.cells #[.slice oa (D.bytes f).length oc] 32)).drew.cell? ⟨w2.heap.size, 0, none⟩ = some (.slice oa (D.bytes f).length oc) := World.cell?_alloc_new w2 _ _ 0
    have hBd3 : (w2.alloc (.cells #[.slice oa (D.bytes f).length oc] 32)).drew.cell? ⟨w.heap.size, 0, none⟩ = some (.pointer (some ⟨b, 0, none⟩)) := (World.cell?_alloc_lt w2 _ _ hb2).trans hBd
    have hBf3 : (w2.alloc (.cells #[.slice oa (D.bytes f).length oc] 32)).drew.cell? ⟨w.heap.size + 1, 0, none⟩ = some (.string f) := (World.cell?_alloc_lt w2 _ _ hb3).trans hBf
    have hBt3 : (w2.alloc (.cells #[.slice oa (D.bytes f).length oc] 32)).drew.cell? ⟨w.heap.size + 1 + 1, 0, none⟩ = some (.string t) := (World.cell?_alloc_lt w2 _ _ hb4).trans hBt'
    have hkk2 : Kept (fun _ => False) w2 (w2.alloc (.cells #[.slice oa (D.bytes f).length oc] 32)).drew := ((Kept.refl _ _).alloc _).drew
    have hB3 : OwnB (w2.alloc (.cells #[.slice oa (D.bytes f).length oc] 32)).drew (.slice oa (D.bytes f).length oc) (D.bytes f) := OwnB.kept hold fun g hg => hkk2.block g (hold.lt g hg) (fun h => h)
    generalize (w2.alloc (.cells #[.slice oa (D.bytes f).length oc] 32)).drew = w3 at *
    have hbw := hlt b (.inl rfl)
    have hmw := hlt m (.inr (.inl rfl))
    clear hl1 hl2
    go_wp2_with fail
    refine (raw_rename h3 HR.out (by omega) w2.heap.size (w.heap.size + 1) w.heap.size (w.heap.size + 1 + 1) f t oa oc (D.bytes f) hBd3 hBf3 hBv hBt3 hB3 holdf HLE.out HM.out (by rw [hg]; rfl) (by omega) (by omega)).mono ?_
    rintro e w5 ⟨rfl, es2, clk2, h8⟩
    go_wp2
    go_ret
    exact ⟨rfl, es2, clk2, DiskAfter.of_kept hkk h8⟩

theorem rename_any {w : World} {b m : Nat} {es : Array MapEntry} {clock : Nat} {D : DM} (h : DiskAt w b m es clock D) (f t : ByteArray) (hs : t.size ≤ maxLen) (hw : D.writes < 2305843009213693952) :
    Calls Tryd.prog 40 #[.pointer (some ⟨b, 0, none⟩), .string f, .string t] w (EndD w b m es (D.rename f t).1 (D.rename f t).2) := by
  unfold DM.rename
  cases hm : mayB t with
  | false => rw [if_pos rfl]; exact rename_bad h f t hs hm
  | true =>
    rw [if_neg (by simp)]
    cases hg : getA f D.files with
    | none => rw [if_pos rfl]; exact rename_none h f t hs hm hg
    | some x =>
      rw [if_neg (by simp)]
      by_cases hne : f = t
      · subst hne; rw [if_pos rfl]; exact rename_same h f hs hm x hg
      · rw [if_neg hne]
        cases hr : D.raw with
        | none => exact rename_cut h f t hs hm x hg hne hr
        | some D' => exact rename_raw h f t hs hm x hg hne hw hr
end Go.Proofs.YtjnhkepgoghogaaDoor
