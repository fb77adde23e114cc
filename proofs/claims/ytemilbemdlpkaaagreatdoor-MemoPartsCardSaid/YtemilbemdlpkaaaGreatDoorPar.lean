/- disk: Truncate. -/
import Derived.Test.YtemilbemdlpkaaaGreatDoorPaq
namespace Go.Proofs.YtemilbemdlpkaaaGreatDoor
open Go.RowKit Go.ChangeMaps Go.MapKept

theorem three_new (w : World) (x y z : Value) (t u v : TypeId) : ∃ w2, ((w.alloc (.cells #[x] t)).alloc (.cells #[y] u)).alloc (.cells #[z] v) = w2 ∧ Kept (fun _ => False) w w2 ∧ w2.heap.size = w.heap.size + 3 ∧
    w2.cell? ⟨w.heap.size, 0, none⟩ = some x ∧ w2.cell? ⟨w.heap.size + 1, 0, none⟩ = some y ∧ w2.cell? ⟨w.heap.size + 2, 0, none⟩ = some z := by
  refine ⟨_, rfl, (((Kept.refl _ w).alloc _).alloc _).alloc _, by simp, ?_, ?_, ?_⟩
  · rw [World.cell?_alloc_lt _ _ _ (by simp; omega), World.cell?_alloc_lt _ _ _ (by simp)]; simp
  · rw [World.cell?_alloc_lt _ _ _ (by simp)]; simp
  · simpa using World.cell?_alloc_new ((w.alloc (.cells #[x] t)).alloc (.cells #[y] u)) #[z] v 0

def DM.truncate (D : DM) (s : ByteArray) (n : Int) : Int × DM :=
  if getA s D.files = none then (4, D)
  else if n < 0 ∨ ((D.bytes s).length : Int) < n then (2, D)
  else if n = (D.bytes s).length then (0, D)
  else match D.raw with
    | none => (6, D)
    | some D' => (0, D'.put s ((D.bytes s).take n.toNat))

def ClosD (w : World) (b m : Nat) (es : Array MapEntry) (D' : DM) (e : Ending) (w' : World) : Prop := e = .returned (.tuple #[]) ∧ ∃ es' clock', DiskAfter w b m es D' w' es' clock'

set_option maxRecDepth 100000 in
theorem truncate1 {w : World} {b m : Nat} {es : Array MapEntry} {clock : Nat} {D : DM} (h : DiskAt w b m es clock D) (Bv Bi Bd Bn : Nat) (s : ByteArray) (oa : Option Addr) (oc n : Nat) (xs : List UInt8)
    (hd : w.cell? ⟨Bd, 0, none⟩ = some (.pointer (some ⟨b, 0, none⟩))) (hn : w.cell? ⟨Bn, 0, none⟩ = some (.string s)) (hv : w.cell? ⟨Bv, 0, none⟩ = some (.slice oa xs.length oc)) (hi : w.cell? ⟨Bi, 0, none⟩ = some (.int .i64 n))
    (hB : IsB w (.slice oa xs.length oc) xs) (hnx : n ≤ xs.length) (hx : xs.length ≤ 4194304) (hs : mayB s = true) (hgs : (getA s D.files).isSome = true) (hdm : Bd ≠ m ∧ Bn ≠ m ∧ Bv ≠ m ∧ Bi ≠ m) :
    Calls Tryz.prog 124 #[.pointer (some ⟨Bv, 0, none⟩), .pointer (some ⟨Bi, 0, none⟩), .pointer (some ⟨Bd, 0, none⟩), .pointer (some ⟨Bn, 0, none⟩)] w (ClosD w b m es (D.put s (xs.take n))) := by
  have hc0 := h.c0
  obtain ⟨hsl, hT⟩ := bytes_high hB hnx
  have hlen : (xs.take n).length ≤ 4194304 := by rw [List.length_take]; omega
  have hput : ∀ v' w4, FreshB w.drew v' (xs.take n) w4 → ∃ es' clock', (Instr.mapUpdate 104 (.map (some m)) (.string s) v').run Tryz.prog w4 = .ok () (setBlock w4 m (.map es' clock')) ∧
      DiskAfter w b m es (D.put s (xs.take n)) (setBlock w4 m (.map es' clock')) es' clock' ∧ Kept (· = m) w4 (setBlock w4 m (.map es' clock')) := by
    intro v' w4 hf
    have hg := hf.kept.grownBy none
    obtain ⟨es', clock', h1, h2, h3, h4⟩ := h.put (s := s) (x := xs.take n) (w1 := w4) (v' := v') (row := none) ⟨hg.os, hg.tape, hg.output, hg.size, hg.block⟩ (fun g e => by cases e) hf.own (fun g hg => .inr (hf.new g hg))
      (DM.put_ok h.ok hs hlen (fun e => by rw [e] at hgs; cases hgs))
    exact ⟨es', clock', h1, ⟨h2, h3, h4⟩, (Kept.refl (· = m) w4).setBlock (fun _ => rfl) _⟩
  have HL := Lib.hid hlen
  have HX := Lib.hid hx
  clear hlen hx
  go_enter Tryz.func124, Tryz.ntmps124
  go_wp2_with fail
  go_region_held3 (fun w' => w'.cell? ⟨Bd, 0, none⟩ = some (.pointer (some ⟨b, 0, none⟩)) ∧ w'.cell? ⟨Bn, 0, none⟩ = some (.string s) ∧ w'.cell? ⟨Bv, 0, none⟩ = some (.slice oa xs.length oc) ∧ w'.cell? ⟨Bi, 0, none⟩ = some (.int .i64 n) ∧ w'.cell? ⟨b, 0, none⟩ = some (.map (some m)))
    (first | exact ⟨hd, hn, hv, hi, hc0⟩ | exact ⟨hf.kept.cell hd (fun h => h), hf.kept.cell hn (fun h => h), hf.kept.cell hv (fun h => h), hf.kept.cell hi (fun h => h), hf.kept.cell hc0 (fun h => h)⟩ | exact ⟨hk5.cell (hf.kept.cell hd (fun h => h)) hdm.1, hk5.cell (hf.kept.cell hn (fun h => h)) hdm.2.1, hk5.cell (hf.kept.cell hv (fun h => h)) hdm.2.2.1, hk5.cell (hf.kept.cell hi (fun h => h)) hdm.2.2.2, hd5.disk.c0⟩)
    ((go_at_call 49; refine (clone_any _ _ (xs.take n) (hT.keptF (drew_kept w) (fun _ _ h => h)) (by have := HL.out; omega)).mono ?_; rintro e' w4 ⟨v', rfl, hf, -⟩; obtain ⟨es', clock', hup, hd5, hk5⟩ := hput v' w4 hf))
  go_end0
  exact ⟨rfl, es', clock', hd5⟩

theorem raw_truncate {w : World} {b m : Nat} {es : Array MapEntry} {clock : Nat} {D D' : DM} (h : DiskAt w b m es clock D) (hr : D.raw = some D') (hw : D.writes < 4611686018427387904) (Bv Bi Bd Bn : Nat) (s : ByteArray) (oa : Option Addr) (oc n : Nat) (xs : List UInt8)
    (hd : w.cell? ⟨Bd, 0, none⟩ = some (.pointer (some ⟨b, 0, none⟩))) (hn : w.cell? ⟨Bn, 0, none⟩ = some (.string s)) (hv : w.cell? ⟨Bv, 0, none⟩ = some (.slice oa xs.length oc)) (hi : w.cell? ⟨Bi, 0, none⟩ = some (.int .i64 n))
    (hB : IsB w (.slice oa xs.length oc) xs) (hB2 : ∀ g, (Value.slice oa xs.length oc).ownBlock = some g → g ≠ b) (hnx : n ≤ xs.length) (hx : xs.length ≤ 4194304) (hg : getA s D.files = some xs)
    (hdb : Bd ≠ b ∧ Bn ≠ b ∧ Bv ≠ b ∧ Bi ≠ b) (hdm : Bd ≠ m ∧ Bn ≠ m ∧ Bv ≠ m ∧ Bi ≠ m) :
    Calls Tryz.prog 51 #[.pointer (some ⟨b, 0, none⟩), .func (.func 124) #[] #[.pointer (some ⟨Bv, 0, none⟩), .pointer (some ⟨Bi, 0, none⟩), .pointer (some ⟨Bd, 0, none⟩), .pointer (some ⟨Bn, 0, none⟩)]] w (EndD w b m es 0 (D'.put s (xs.take n))) := by
  obtain ⟨w1, h1, hk1, hsz, hcall⟩ := raw_yes h hr hw
  obtain ⟨hok, hwr, hfi, hcu⟩ := DM.raw_ok h.ok hr
  refine hcall _ _ (fun w' => ∃ es' clock', DiskAfter w b m es (D'.put s (xs.take n)) w' es' clock') (call_truncate1 _) ((truncate1 h1 Bv Bi Bd Bn s oa oc n xs (hk1.cell hd hdb.1) (hk1.cell hn hdb.2.1) (hk1.cell hv hdb.2.2.1) (hk1.cell hi hdb.2.2.2) (hB.keptF hk1 hB2) hnx hx
    (h.ok.names _ (getA_mem hg)).1 (by rw [hfi, hg]; rfl) hdm).mono ?_)
  rintro e w' ⟨rfl, es', clock', h2⟩
  exact ⟨rfl, es', clock', h2.disk, fun k hk => by rw [← hsz]; exact h2.foot k hk, (hk1.mono (fun k _ e => .inl e)).trans h2.kept fun _ _ hf => hf⟩


set_option maxRecDepth 100000 in
set_option maxHeartbeats 1000000 in
theorem truncate_none {w : World} {b m : Nat} {es : Array MapEntry} {clock : Nat} {D : DM} (h : DiskAt w b m es clock D) (s : ByteArray) (n : Int) (hg : getA s D.files = none) :
    Calls Tryz.prog 88 #[.pointer (some ⟨b, 0, none⟩), .string s, .int .i64 n] w (EndD w b m es 4 D) := by
  obtain ⟨w2, hw2, hk, hsz, hBd, hBn, hBi⟩ := three_new w (.pointer (some ⟨b, 0, none⟩)) (.string s) (.int .i64 n) 32 9 3
  have hlt : ∀ k, diskF b m es k → k < w.heap.size := h.lt
  have h1 : DiskAt w2 b m es clock D := h.kept hk (fun _ _ hf => hf)
  have hc0 := h1.c0
  obtain ⟨old, hl, hold, holdf, ho⟩ := h1.lookW s true
  obtain ⟨oa, oc, rfl, -, -⟩ := hold.form
  rw [hg] at hl
  have hl1 := hl w2.drew h1.map
  have hl2 := hl (w2.alloc (.cells #[.slice none 0 0] 25)).drew ((Below.heap_alloc w2 _ m (h1.lt m (.inr (.inl rfl)))).trans h1.map)
  have hb1 : b < w2.heap.size := h1.lt b (.inl rfl)
  have hb2 : w.heap.size < w2.heap.size := by omega
  have hb3 : w.heap.size + 1 < w2.heap.size := by omega
  have hb4 : w.heap.size + 1 + 1 < w2.heap.size := by omega
  have hkk : Kept (fun _ => False) w (w2.alloc (.cells #[.slice oa (D.bytes s).length oc] 25)).drew := (hk.alloc _).drew
  have hBi' : w2.cell? ⟨w.heap.size + 1 + 1, 0, none⟩ = some (.int .i64 n) := hBi
  have HSZ := Lib.hid hsz
  go_enter Tryz.func88, Tryz.ntmps88
  go_wp2_with fail
  clear hw2 hl hsz hBi
  go_region
  all_goals
    go_wp2
    go_ret
    exact EndD.same h 4 (hk.alloc _).drew

set_option maxRecDepth 100000 in
set_option maxHeartbeats 1000000 in
theorem truncate_bad {w : World} {b m : Nat} {es : Array MapEntry} {clock : Nat} {D : DM} (h : DiskAt w b m es clock D) (s : ByteArray) (n : Int) (x : List UInt8) (hg : getA s D.files = some x) (hn : n < 0 ∨ ((D.bytes s).length : Int) < n) :
    Calls Tryz.prog 88 #[.pointer (some ⟨b, 0, none⟩), .string s, .int .i64 n] w (EndD w b m es 2 D) := by
  rcases hn with hn | hn
  · by_cases hn2 : ((D.bytes s).length : Int) < n
    · omega
    · --x
      skip
      obtain ⟨w2, hw2, hk, hsz, hBd, hBn, hBi⟩ := three_new w (.pointer (some ⟨b, 0, none⟩)) (.string s) (.int .i64 n) 32 9 3
      have hlt : ∀ k, diskF b m es k → k < w.heap.size := h.lt
      have h1 : DiskAt w2 b m es clock D := h.kept hk (fun _ _ hf => hf)
      have hc0 := h1.c0
      obtain ⟨old, hl, hold, holdf, ho⟩ := h1.lookW s true
      obtain ⟨oa, oc, rfl, -, -⟩ := hold.form
      rw [hg] at hl
      have hl1 := hl w2.drew h1.map
      have hl2 := hl (w2.alloc (.cells #[.slice none 0 0] 25)).drew ((Below.heap_alloc w2 _ m (h1.lt m (.inr (.inl rfl)))).trans h1.map)
      have hb1 : b < w2.heap.size := h1.lt b (.inl rfl)
      have hb2 : w.heap.size < w2.heap.size := by omega
      have hb3 : w.heap.size + 1 < w2.heap.size := by omega
      have hb4 : w.heap.size + 1 + 1 < w2.heap.size := by omega
      have hkk : Kept (fun _ => False) w (w2.alloc (.cells #[.slice oa (D.bytes s).length oc] 25)).drew := (hk.alloc _).drew
      have hBi' : w2.cell? ⟨w.heap.size + 1 + 1, 0, none⟩ = some (.int .i64 n) := hBi
      have HSZ := Lib.hid hsz
      go_enter Tryz.func88, Tryz.ntmps88
      go_wp2_with fail
      clear hw2 hl hsz hBi
      go_region
      all_goals
        go_wp2
        go_ret
        exact EndD.same h 2 hkk
  · have hn2 : ¬ n < 0 := by omega
    obtain ⟨w2, hw2, hk, hsz, hBd, hBn, hBi⟩ := three_new w (.pointer (some ⟨b, 0, none⟩)) (.string s) (.int .i64 n) 32 9 3
    have hlt : ∀ k, diskF b m es k → k < w.heap.size := h.lt
    have h1 : DiskAt w2 b m es clock D := h.kept hk (fun _ _ hf => hf)
    have hc0 := h1.c0
    obtain ⟨old, hl, hold, holdf, ho⟩ := h1.lookW s true
    obtain ⟨oa, oc, rfl, -, -⟩ := hold.form
    rw [hg] at hl
    have hl1 := hl w2.drew h1.map
    have hl2 := hl (w2.alloc (.cells #[.slice none 0 0] 25)).drew ((Below.heap_alloc w2 _ m (h1.lt m (.inr (.inl rfl)))).trans h1.map)
    have hb1 : b < w2.heap.size := h1.lt b (.inl rfl)
    have hb2 : w.heap.size < w2.heap.size := by omega
    have hb3 : w.heap.size + 1 < w2.heap.size := by omega
    have hb4 : w.heap.size + 1 + 1 < w2.heap.size := by omega
    have hkk : Kept (fun _ => False) w (w2.alloc (.cells #[.slice oa (D.bytes s).length oc] 25)).drew := (hk.alloc _).drew
    have hBi' : w2.cell? ⟨w.heap.size + 1 + 1, 0, none⟩ = some (.int .i64 n) := hBi
    have HSZ := Lib.hid hsz
    go_enter Tryz.func88, Tryz.ntmps88
    go_wp2_with fail
    clear hw2 hl hsz hBi
    go_region
    all_goals
      go_wp2
      go_ret
      exact EndD.same h 2 hkk

set_option maxRecDepth 100000 in
set_option maxHeartbeats 1000000 in
theorem truncate_all {w : World} {b m : Nat} {es : Array MapEntry} {clock : Nat} {D : DM} (h : DiskAt w b m es clock D) (s : ByteArray) (x : List UInt8) (hg : getA s D.files = some x) :
    Calls Tryz.prog 88 #[.pointer (some ⟨b, 0, none⟩), .string s, .int .i64 ((D.bytes s).length : Nat)] w (EndD w b m es 0 D) := by
  obtain ⟨w2, hw2, hk, hsz, hBd, hBn, hBi⟩ := three_new w (.pointer (some ⟨b, 0, none⟩)) (.string s) (.int .i64 ((D.bytes s).length : Nat)) 32 9 3
  have hlt : ∀ k, diskF b m es k → k < w.heap.size := h.lt
  have h1 : DiskAt w2 b m es clock D := h.kept hk (fun _ _ hf => hf)
  have hc0 := h1.c0
  obtain ⟨old, hl, hold, holdf, ho⟩ := h1.lookW s true
  obtain ⟨oa, oc, rfl, -, -⟩ := hold.form
  rw [hg] at hl
  have hl1 := hl w2.drew h1.map
  have hl2 := hl (w2.alloc (.cells #[.slice none 0 0] 25)).drew ((Below.heap_alloc w2 _ m (h1.lt m (.inr (.inl rfl)))).trans h1.map)
  have hb1 : b < w2.heap.size := h1.lt b (.inl rfl)
  have hb2 : w.heap.size < w2.heap.size := by omega
  have hb3 : w.heap.size + 1 < w2.heap.size := by omega
  have hb4 : w.heap.size + 1 + 1 < w2.heap.size := by omega
  have hkk : Kept (fun _ => False) w (w2.alloc (.cells #[.slice oa (D.bytes s).length oc] 25)).drew := (hk.alloc _).drew
  have hBi' : w2.cell? ⟨w.heap.size + 1 + 1, 0, none⟩ = some (.int .i64 ((D.bytes s).length : Nat)) := hBi
  have HSZ := Lib.hid hsz
  go_enter Tryz.func88, Tryz.ntmps88
  go_wp2_with fail
  clear hw2 hl hsz hBi
  go_region
  all_goals
    go_wp2
    go_ret
    exact EndD.same h 0 hkk

set_option maxRecDepth 100000 in
set_option maxHeartbeats 1000000 in
theorem truncate_cut {w : World} {b m : Nat} {es : Array MapEntry} {clock : Nat} {D : DM} (h : DiskAt w b m es clock D) (s : ByteArray) (n : Nat) (x : List UInt8) (hg : getA s D.files = some x) (hn : n < (D.bytes s).length) (hw : D.writes < 2305843009213693952) (hraw : D.raw = none) :
    Calls Tryz.prog 88 #[.pointer (some ⟨b, 0, none⟩), .string s, .int .i64 n] w (EndD w b m es 6 D) := by
  have hx : D.bytes s = x := by unfold DM.bytes; rw [hg]; rfl
  have HX := Lib.hid hx
  have hole := DM.bytes_le h.ok s
  have HOLE := Lib.hid hole
  have HW := Lib.hid hw
  have hne : ((n : Int) == ((D.bytes s).length : Int)) = false := by simp; omega
  have hn0 : ¬ ((n : Int) < 0) := by omega
  have hn1 : ¬ ((D.bytes s).length < n) := by omega
  have HR := Lib.hid hraw
  clear hole hw hx hraw
  obtain ⟨w2, hw2, hk, hsz, hBd, hBn, hBi⟩ := three_new w (.pointer (some ⟨b, 0, none⟩)) (.string s) (.int .i64 (n : Nat)) 32 9 3
  have hlt : ∀ k, diskF b m es k → k < w.heap.size := h.lt
  have h1 : DiskAt w2 b m es clock D := h.kept hk (fun _ _ hf => hf)
  have hc0 := h1.c0
  obtain ⟨old, hl, hold, holdf, ho⟩ := h1.lookW s true
  obtain ⟨oa, oc, rfl, -, -⟩ := hold.form
  rw [hg] at hl
  have hl1 := hl w2.drew h1.map
  have hl2 := hl (w2.alloc (.cells #[.slice none 0 0] 25)).drew ((Below.heap_alloc w2 _ m (h1.lt m (.inr (.inl rfl)))).trans h1.map)
  have hb1 : b < w2.heap.size := h1.lt b (.inl rfl)
  have hb2 : w.heap.size < w2.heap.size := by omega
  have hb3 : w.heap.size + 1 < w2.heap.size := by omega
  have hb4 : w.heap.size + 1 + 1 < w2.heap.size := by omega
  have hkk : Kept (fun _ => False) w (w2.alloc (.cells #[.slice oa (D.bytes s).length oc] 25)).drew := (hk.alloc _).drew
  have hBi' : w2.cell? ⟨w.heap.size + 1 + 1, 0, none⟩ = some (.int .i64 (n : Nat)) := hBi
  have HSZ := Lib.hid hsz
  go_enter Tryz.func88, Tryz.ntmps88
  go_wp2_with fail
  clear hw2 hl hsz hBi
  go_region
  all_goals
    have h3 : DiskAt (w2.alloc (.cells #[.slice oa (D.bytes s).length oc] 25)).drew b m es clock D := h.kept hkk (fun _ _ h => h)
    have hBv : (w2.alloc (.cells #[.slice oa (D.bytes s).length oc] 25)).drew.cell? ⟨w2.heap.size, 0, none⟩ = some (.slice oa (D.bytes s).length oc) := World.cell?_alloc_new w2 _ _ 0
    have hBd3 : (w2.alloc (.cells #[.slice oa (D.bytes s).length oc] 25)).drew.cell? ⟨w.heap.size, 0, none⟩ = some (.pointer (some ⟨b, 0, none⟩)) := (World.cell?_alloc_lt w2 _ _ hb2).trans hBd
    have hBn3 : (w2.alloc (.cells #[.slice oa (D.bytes s).length oc] 25)).drew.cell? ⟨w.heap.size + 1, 0, none⟩ = some (.string s) := (World.cell?_alloc_lt w2 _ _ hb3).trans hBn
    have hBi3 : (w2.alloc (.cells #[.slice oa (D.bytes s).length oc] 25)).drew.cell? ⟨w.heap.size + 1 + 1, 0, none⟩ = some (.int .i64 n) := (World.cell?_alloc_lt w2 _ _ hb4).trans hBi'
    have hkk2 : Kept (fun _ => False) w2 (w2.alloc (.cells #[.slice oa (D.bytes s).length oc] 25)).drew := ((Kept.refl _ _).alloc _).drew
    have hB3 := hold.isB.keptF hkk2 (fun _ _ h => h)
    generalize (w2.alloc (.cells #[.slice oa (D.bytes s).length oc] 25)).drew = w3 at *
    have hbw := hlt b (.inl rfl)
    have hmw := hlt m (.inr (.inl rfl))
    clear hl1 hl2
    go_wp2_with fail
    refine (raw_no h3 HR.out _).mono ?_
    rintro e w5 ⟨rfl, rfl⟩
    go_wp2
    go_ret
    exact EndD.same h 6 hkk

set_option maxRecDepth 100000 in
set_option maxHeartbeats 1000000 in
theorem truncate_raw {w : World} {b m : Nat} {es : Array MapEntry} {clock : Nat} {D D' : DM} (h : DiskAt w b m es clock D) (s : ByteArray) (n : Nat) (x : List UInt8) (hg : getA s D.files = some x) (hn : n < (D.bytes s).length) (hw : D.writes < 2305843009213693952) (hraw : D.raw = some D') :
    Calls Tryz.prog 88 #[.pointer (some ⟨b, 0, none⟩), .string s, .int .i64 n] w (EndD w b m es 0 (D'.put s ((D.bytes s).take n))) := by
  have hx : D.bytes s = x := by unfold DM.bytes; rw [hg]; rfl
  have HX := Lib.hid hx
  have hole := DM.bytes_le h.ok s
  have HOLE := Lib.hid hole
  have HW := Lib.hid hw
  have hne : ((n : Int) == ((D.bytes s).length : Int)) = false := by simp; omega
  have hn0 : ¬ ((n : Int) < 0) := by omega
  have hn1 : ¬ ((D.bytes s).length < n) := by omega
  have HR := Lib.hid hraw
  clear hole hw hx hraw
  obtain ⟨w2, hw2, hk, hsz, hBd, hBn, hBi⟩ := three_new w (.pointer (some ⟨b, 0, none⟩)) (.string s) (.int .i64 (n : Nat)) 32 9 3
  have hlt : ∀ k, diskF b m es k → k < w.heap.size := h.lt
  have h1 : DiskAt w2 b m es clock D := h.kept hk (fun _ _ hf => hf)
  have hc0 := h1.c0
  obtain ⟨old, hl, hold, holdf, ho⟩ := h1.lookW s true
  obtain ⟨oa, oc, rfl, -, -⟩ := hold.form
  rw [hg] at hl
  have hl1 := hl w2.drew h1.map
  have hl2 := hl (w2.alloc (.cells #[.slice none 0 0] 25)).drew ((Below.heap_alloc w2 _ m (h1.lt m (.inr (.inl rfl)))).trans h1.map)
  have hb1 : b < w2.heap.size := h1.lt b (.inl rfl)
  have hb2 : w.heap.size < w2.heap.size := by omega
  have hb3 : w.heap.size + 1 < w2.heap.size := by omega
  have hb4 : w.heap.size + 1 + 1 < w2.heap.size := by omega
  have hkk : Kept (fun _ => False) w (w2.alloc (.cells #[.slice oa (D.bytes s).length oc] 25)).drew := (hk.alloc _).drew
  have hBi' : w2.cell? ⟨w.heap.size + 1 + 1, 0, none⟩ = some (.int .i64 (n : Nat)) := hBi
  have HSZ := Lib.hid hsz
  go_enter Tryz.func88, Tryz.ntmps88
  go_wp2_with fail
  clear hw2 hl hsz hBi
  go_region
  all_goals
    have h3 : DiskAt (w2.alloc (.cells #[.slice oa (D.bytes s).length oc] 25)).drew b m es clock D := h.kept hkk (fun _ _ h => h)
    have hBv : (w2.alloc (.cells #[.slice oa (D.bytes s).length oc] 25)).drew.cell? ⟨w2.heap.size, 0, none⟩ = some (.slice oa (D.bytes s).length oc) := World.cell?_alloc_new w2 _ _ 0
    have hBd3 : (w2.alloc (.cells #[.slice oa (D.bytes s).length oc] 25)).drew.cell? ⟨w.heap.size, 0, none⟩ = some (.pointer (some ⟨b, 0, none⟩)) := (World.cell?_alloc_lt w2 _ _ hb2).trans hBd
    have hBn3 : (w2.alloc (.cells #[.slice oa (D.bytes s).length oc] 25)).drew.cell? ⟨w.heap.size + 1, 0, none⟩ = some (.string s) := (World.cell?_alloc_lt w2 _ _ hb3).trans hBn
    have hBi3 : (w2.alloc (.cells #[.slice oa (D.bytes s).length oc] 25)).drew.cell? ⟨w.heap.size + 1 + 1, 0, none⟩ = some (.int .i64 n) := (World.cell?_alloc_lt w2 _ _ hb4).trans hBi'
    have hkk2 : Kept (fun _ => False) w2 (w2.alloc (.cells #[.slice oa (D.bytes s).length oc] 25)).drew := ((Kept.refl _ _).alloc _).drew
    have hB3 := hold.isB.keptF hkk2 (fun _ _ h => h)
    generalize (w2.alloc (.cells #[.slice oa (D.bytes s).length oc] 25)).drew = w3 at *
    have hbw := hlt b (.inl rfl)
    have hmw := hlt m (.inr (.inl rfl))
    clear hl1 hl2
    go_wp2_with fail
    refine (raw_truncate h3 HR.out (by have := HW.out; omega) w2.heap.size (w.heap.size + 1 + 1) w.heap.size (w.heap.size + 1) s oa oc n (D.bytes s) hBd3 hBn3 hBv hBi3 hB3 (fun g hg' => by
        obtain ⟨e, he, _, hgo⟩ := holdf g hg'
        exact (h.own he hgo).1) (by omega) HOLE.out (by rw [hg, HX.out]) (by omega) (by omega)).mono ?_
    rintro e w5 ⟨rfl, es2, clk2, h8⟩
    go_wp2
    go_ret
    exact ⟨rfl, es2, clk2, DiskAfter.of_kept hkk h8⟩

theorem truncate_any {w : World} {b m : Nat} {es : Array MapEntry} {clock : Nat} {D : DM} (h : DiskAt w b m es clock D) (s : ByteArray) (n : Int) (hw : D.writes < 2305843009213693952) :
    Calls Tryz.prog 88 #[.pointer (some ⟨b, 0, none⟩), .string s, .int .i64 n] w (EndD w b m es (D.truncate s n).1 (D.truncate s n).2) := by
  unfold DM.truncate
  cases hg : getA s D.files with
  | none => rw [if_pos rfl]; exact truncate_none h s n hg
  | some x =>
    rw [if_neg (by simp)]
    by_cases h1 : n < 0 ∨ ((D.bytes s).length : Int) < n
    · rw [if_pos h1]; exact truncate_bad h s n x hg h1
    · rw [if_neg h1]
      by_cases h2 : n = (D.bytes s).length
      · rw [if_pos h2, h2]; exact truncate_all h s x hg
      · rw [if_neg h2]
        obtain ⟨k, rfl⟩ : ∃ k : Nat, n = k := ⟨n.toNat, by omega⟩
        cases hr : D.raw with
        | none => exact truncate_cut h s k x hg (by omega) hw hr
        | some D' => simpa using truncate_raw h s k x hg (by omega) hw hr
end Go.Proofs.YtemilbemdlpkaaaGreatDoor
