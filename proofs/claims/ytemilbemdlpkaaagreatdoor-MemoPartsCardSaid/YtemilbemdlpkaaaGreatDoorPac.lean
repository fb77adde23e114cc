/- disk: the model (files as a list of pairs), and what it means that a disk lies at a block. -/
import Derived.Deep.Cut
import Derived.Test.YtemilbemdlpkaaaGreatDoorPab
namespace Go.Proofs.YtemilbemdlpkaaaGreatDoor
open Go.RowKit Go.ChangeMaps Go.MapKept

/-- A disk, as plain data. -/
structure DM where
  files : List (ByteArray × List UInt8)
  writes : Int
  left : Int
  cut : Bool

def DM.raw (D : DM) : Option DM :=
  if D.cut = true then (if D.left = 0 then none else some { D with left := D.left - 1, writes := D.writes + 1 }) else some { D with writes := D.writes + 1 }

def DM.bytes (D : DM) (s : ByteArray) : List UInt8 := (getA s D.files).getD []
def DM.put (D : DM) (s : ByteArray) (x : List UInt8) : DM := { D with files := putA s x D.files }
def DM.del (D : DM) (s : ByteArray) : DM := { D with files := delA s D.files }

def DM.pieces (s : ByteArray) (bs : List UInt8) (D : DM) : Int × DM :=
  if _h : bs = [] then (0, D) else
    match D.raw with
    | none => (6, D)
    | some D' => DM.pieces s (bs.drop 32) (D'.put s (D'.bytes s ++ bs.take 32))
termination_by bs.length
decreasing_by
  have : 0 < bs.length := List.length_pos_iff.2 (by assumption)
  simp only [List.length_drop]; omega

def DM.append (D : DM) (s : ByteArray) (bs : List UInt8) : Int × DM :=
  if mayB s = false then (2, D)
  else if getA s D.files = none ∧ D.files.length = 256 then (3, D)
  else if 4194304 < (D.bytes s).length + bs.length then (3, D)
  else if bs = [] ∧ getA s D.files = none then
    match D.raw with
    | none => (6, D)
    | some D' => (0, D'.put s [])
  else DM.pieces s bs D

theorem DM.pieces_nil (s : ByteArray) (D : DM) : DM.pieces s [] D = (0, D) := by rw [DM.pieces]; simp
theorem DM.pieces_no {s : ByteArray} {bs : List UInt8} {D : DM} (h : bs ≠ []) (hr : D.raw = none) : DM.pieces s bs D = (6, D) := by rw [DM.pieces]; simp [h, hr]
theorem DM.pieces_step {s : ByteArray} {bs : List UInt8} {D D' : DM} (h : bs ≠ []) (hr : D.raw = some D') {k : Nat} (hk : k = 32 ∨ (k = bs.length ∧ bs.length ≤ 32)) :
    DM.pieces s bs D = DM.pieces s (bs.drop k) (D'.put s (D'.bytes s ++ bs.take k)) := by
  rw [DM.pieces]
  simp only [h, dite_false, hr]
  rcases hk with rfl | ⟨rfl, h32⟩
  · rfl
  · rw [List.take_of_length_le h32, List.drop_eq_nil_of_le h32]; simp
theorem DM.bytes_put (D : DM) (s : ByteArray) (x : List UInt8) : (D.put s x).bytes s = x := by simp [DM.bytes, DM.put, getA_putA_same]
theorem DM.get_put (D : DM) (s : ByteArray) (x : List UInt8) : getA s (D.put s x).files = some x := by simp [DM.put, getA_putA_same]

structure DM.Ok (D : DM) : Prop where
  w0 : 0 ≤ D.writes
  l0 : 0 ≤ D.left
  l1 : D.left ≤ 9223372036854775807
  count : D.files.length ≤ 256
  names : ∀ p ∈ D.files, mayB p.1 = true ∧ p.2.length ≤ 4194304
  nodup : NodupA D.files

theorem DM.raw_ok {D D' : DM} (h : D.Ok) (hr : D.raw = some D') : D'.Ok ∧ D'.writes = D.writes + 1 ∧ D'.files = D.files ∧ D'.cut = D.cut := by
  obtain ⟨h1, h2, h3, h4, h5, h6⟩ := h
  unfold DM.raw at hr
  split at hr
  · split at hr
    · cases hr
    · cases hr; exact ⟨⟨by simp only []; omega, by simp only []; omega, by simp only []; omega, h4, h5, h6⟩, rfl, rfl, rfl⟩
  · cases hr; exact ⟨⟨by simp only []; omega, h2, h3, h4, h5, h6⟩, rfl, rfl, rfl⟩

theorem DM.put_ok {D : DM} (h : D.Ok) {s : ByteArray} {x : List UInt8} (hs : mayB s = true) (hx : x.length ≤ 4194304) (hc : getA s D.files = none → D.files.length < 256) : (D.put s x).Ok := by
  obtain ⟨h1, h2, h3, h4, h5, h6⟩ := h
  refine ⟨h1, h2, h3, ?_, fun p hp => ?_, h6.put s x⟩
  · simp only [DM.put, length_putA]
    cases hg : getA s D.files with
    | none => have := hc hg; simp; omega
    | some y => simpa using h4
  · rcases mem_putA hp with rfl | hp
    · exact ⟨hs, hx⟩
    · exact h5 p hp

theorem DM.del_ok {D : DM} (h : D.Ok) (s : ByteArray) : (D.del s).Ok := by
  obtain ⟨h1, h2, h3, h4, h5, h6⟩ := h
  refine ⟨h1, h2, h3, ?_, fun p hp => h5 p (mem_delA hp), h6.del s⟩
  simp only [DM.del, length_delA]
  split <;> omega

theorem DM.bytes_le {D : DM} (h : D.Ok) (s : ByteArray) : (D.bytes s).length ≤ 4194304 := by
  unfold DM.bytes
  cases hg : getA s D.files with
  | none => simp
  | some y => exact (h.names _ (getA_mem hg)).2

/-- A disk at block b, its map at block m, with these entries. -/
structure DiskAt (w : World) (b m : Nat) (es : Array MapEntry) (clock : Nat) (D : DM) : Prop where
  cell : w.heap[b]? = some (.cells #[.map (some m), .int .i64 D.writes, .int .i64 D.left, .bool D.cut] 106 (0, 0))
  map : w.heap[m]? = some (.map es clock)
  stamped : Stamped es clock
  rel : RelM Value.string (OwnB w) es.toList D.files
  apart : ∀ e ∈ es.toList, ∀ e' ∈ es.toList, e.key ≠ e'.key → ∀ g, e.val.ownBlock = some g → e'.val.ownBlock ≠ some g
  ok : D.Ok

/-- The blocks of a disk. -/
def diskF (b m : Nat) (es : Array MapEntry) (k : Nat) : Prop := k = b ∨ k = m ∨ ∃ e ∈ es.toList, e.val.ownBlock = some k

section
variable {w w' : World} {b m : Nat} {es : Array MapEntry} {clock : Nat} {D : DM}

theorem DiskAt.bm (h : DiskAt w b m es clock D) : b ≠ m := by
  intro e; have := h.cell; rw [e, h.map] at this; cases this

theorem DiskAt.own (h : DiskAt w b m es clock D) {e : MapEntry} (he : e ∈ es.toList) {g : Nat} (hg : e.val.ownBlock = some g) : g ≠ b ∧ g ≠ m ∧ g < w.heap.size := by
  obtain ⟨p, _, _, hO⟩ := h.rel.mem e he
  rcases hO.2 with ⟨hv, _⟩ | ⟨g', cap, cur, hv, _, hh, _⟩
  · rw [hv] at hg; cases hg
  · rw [hv] at hg
    obtain rfl : g' = g := by simpa [Value.ownBlock] using hg
    refine ⟨?_, ?_, (Array.getElem?_eq_some_iff.1 hh).1⟩
    · intro e; rw [e, h.cell] at hh
      have h2 := congrArg (fun o => match o with | some (Obj.cells _ t _) => t | _ => 0) hh
      simp at h2
    · intro e; rw [e, h.map] at hh; cases hh

theorem DiskAt.lt (h : DiskAt w b m es clock D) : ∀ k, diskF b m es k → k < w.heap.size := by
  rintro k (rfl | rfl | ⟨e, he, hg⟩)
  · exact (Array.getElem?_eq_some_iff.1 h.cell).1
  · exact (Array.getElem?_eq_some_iff.1 h.map).1
  · exact (h.own he hg).2.2

/-- What is done elsewhere leaves a disk as it is. -/
theorem DiskAt.kept (h : DiskAt w b m es clock D) {G : Nat → Prop} (hk : Kept G w w') (hG : ∀ k, diskF b m es k → ¬ G k) : DiskAt w' b m es clock D := by
  have hb : ∀ k, diskF b m es k → w'.heap[k]? = w.heap[k]? := fun k hf => hk.block k (h.lt k hf) (hG k hf)
  refine ⟨(hb b (.inl rfl)).trans h.cell, (hb m (.inr (.inl rfl))).trans h.map, h.stamped, ?_, h.apart, h.ok⟩
  exact h.rel.mono fun e he bs ho => OwnB.kept ho fun g hg => hb g (.inr (.inr ⟨e, he, hg⟩))

theorem DiskAt.c0 (h : DiskAt w b m es clock D) : w.cell? ⟨b, 0, none⟩ = some (.map (some m)) := by simp [World.cell?, h.cell]
theorem DiskAt.c1 (h : DiskAt w b m es clock D) : w.cell? ⟨b, 1, none⟩ = some (.int .i64 D.writes) := by simp [World.cell?, h.cell]
theorem DiskAt.c2 (h : DiskAt w b m es clock D) : w.cell? ⟨b, 2, none⟩ = some (.int .i64 D.left) := by simp [World.cell?, h.cell]
theorem DiskAt.c3 (h : DiskAt w b m es clock D) : w.cell? ⟨b, 3, none⟩ = some (.bool D.cut) := by simp [World.cell?, h.cell]
theorem DiskAt.fr (h : DiskAt w b m es clock D) (i : Nat) : w.frozen? ⟨b, i, none⟩ = false := by simp [World.frozen?, h.cell]

/-- The disk's own cells are written. -/
theorem DiskAt.cells (h : DiskAt w b m es clock D) {D' : DM} (hf : D'.files = D.files) (ho : D'.Ok) (hk : Kept (· = b) w w')
    (hc : w'.heap[b]? = some (.cells #[.map (some m), .int .i64 D'.writes, .int .i64 D'.left, .bool D'.cut] 106 (0, 0))) : DiskAt w' b m es clock D' := by
  refine ⟨hc, (hk.block m ((h.lt m (.inr (.inl rfl)))) (Ne.symm h.bm)).trans h.map, h.stamped, ?_, h.apart, ho⟩
  rw [hf]
  exact h.rel.mono fun e he bs hO => OwnB.kept hO fun g hg => hk.block g (h.own he hg).2.2 (h.own he hg).1

/-- A file's bytes are put, in a world w1 in which only that file's own block may have been written. -/
theorem DiskAt.put (h : DiskAt w b m es clock D) {s : ByteArray} {w1 : World} {v' : Value} {x : List UInt8} {row : Option Nat}
    (hg : w.grownBy w1 row) (hrow : ∀ g, row = some g → (∃ e ∈ es.toList, e.key = .string s ∧ e.val.ownBlock = some g) ∨ w.heap.size ≤ g) (hv : OwnB w1 v' x) (hnew : ∀ g, v'.ownBlock = some g → (∃ e ∈ es.toList, e.key = .string s ∧ e.val.ownBlock = some g) ∨ w.heap.size ≤ g)
    (ho : (D.put s x).Ok) :
    ∃ es' clock', (Instr.mapUpdate 104 (.map (some m)) (.string s) v').run Tryz.prog w1 = .ok () (setBlock w1 m (.map es' clock')) ∧
      DiskAt (setBlock w1 m (.map es' clock')) b m es' clock' (D.put s x) ∧ (∀ k, diskF b m es' k → diskF b m es k ∨ w.heap.size ≤ k) ∧ Kept (diskF b m es) w (setBlock w1 m (.map es' clock')) := by
  have hblk : ∀ k, diskF b m es k → (∀ e ∈ es.toList, e.key = .string s → e.val.ownBlock ≠ some k) → w1.heap[k]? = w.heap[k]? := by
    intro k hf hn
    refine hg.block k (h.lt k hf) (fun e => ?_)
    rcases hrow k e.symm with ⟨e', he', hk', hg'⟩ | hge
    · exact hn e' he' hk' hg'
    · have := h.lt k hf; omega
  have hb1 : w1.heap[b]? = w.heap[b]? := hblk b (.inl rfl) fun e he _ hg => (h.own he hg).1 rfl
  have hm1 : w1.heap[m]? = w.heap[m]? := hblk m (.inr (.inl rfl)) fun e he _ hg => (h.own he hg).2.1 rfl
  have hother : ∀ e ∈ es.toList, e.key ≠ .string s → ∀ bs, OwnB w e.val bs → OwnB w1 e.val bs := by
    intro e he hne bs hO
    refine OwnB.kept hO fun g hgo => hblk g (.inr (.inr ⟨e, he, hgo⟩)) fun e' he' hk' hg' => ?_
    exact h.apart e he e' he' (by rw [hk']; exact hne) g hgo hg'
  obtain ⟨es', clock', hrun, hrel, hst, hmem⟩ := run_mapUpdate_rel (m := m) (R' := OwnB w1) (keyEnc_string Tryz.underlying9) Tryz.underlying104 h.rel h.stamped s v' x hv hother
  have hsz : w.heap.size ≤ w1.heap.size := hg.size
  have hmlt : m < w1.heap.size := by have := h.lt m (.inr (.inl rfl)); omega
  have hF : ∀ k, diskF b m es' k → diskF b m es k ∨ w.heap.size ≤ k := by
    rintro k (rfl | rfl | ⟨e, he, hgo⟩)
    · exact .inl (.inl rfl)
    · exact .inl (.inr (.inl rfl))
    · rcases hmem e he with ⟨hv', hk'⟩ | ⟨he', _⟩
      · rw [hv'] at hgo
        rcases hnew k hgo with ⟨e', he', _, hg'⟩ | hge
        · exact .inl (.inr (.inr ⟨e', he', hg'⟩))
        · exact .inr hge
      · exact .inl (.inr (.inr ⟨e, he', hgo⟩))
  have hne' : ∀ e ∈ es'.toList, ∀ g, e.val.ownBlock = some g → g ≠ m ∧ g ≠ b := by
    intro e he g hgo
    rcases hmem e he with ⟨hv', hk'⟩ | ⟨he', _⟩
    · rw [hv'] at hgo
      rcases hnew g hgo with ⟨e', he', _, hg'⟩ | hge
      · exact ⟨(h.own he' hg').2.1, (h.own he' hg').1⟩
      · have h1 := h.lt m (.inr (.inl rfl)); have h2 := h.lt b (.inl rfl); omega
    · exact ⟨(h.own he' hgo).2.1, (h.own he' hgo).1⟩
  refine ⟨es', clock', hrun w1 (hm1.trans h.map), ⟨?_, ?_, hst, ?_, ?_, ho⟩, hF, ?_⟩
  · rw [heap_setBlock_ne h.bm, hb1]; exact h.cell
  · simp [ChangeMaps.setBlock, hmlt]
  · exact hrel.mono fun e he bs hO => OwnB.kept hO fun g hgo => heap_setBlock_ne (hne' e he g hgo).1 _
  · intro e he e' he' hne g hgo hgo'
    rcases hmem e he with ⟨hv1, hk1⟩ | ⟨he1, hn1⟩ <;> rcases hmem e' he' with ⟨hv2, hk2⟩ | ⟨he2, hn2⟩
    · exact hne (hk1.trans hk2.symm)
    · rw [hv1] at hgo
      rcases hnew g hgo with ⟨e'', h1, h2, h3⟩ | hge
      · exact h.apart e'' h1 e' he2 (by rw [h2]; exact Ne.symm hn2) g h3 hgo'
      · have := (h.own he2 hgo').2.2; omega
    · rw [hv2] at hgo'
      rcases hnew g hgo' with ⟨e'', h1, h2, h3⟩ | hge
      · exact h.apart e'' h1 e he1 (by rw [h2]; exact Ne.symm hn1) g h3 hgo
      · have := (h.own he1 hgo).2.2; omega
    · exact h.apart e he1 e' he2 hne g hgo hgo'
  · refine Kept.setBlock (((Kept.refl _ w).grown hg ?_)) (fun _ => .inr (.inl rfl)) _
    intro k hk hlt
    rcases hrow k hk with ⟨e, he, _, hgo⟩ | hge
    · exact .inr (.inr ⟨e, he, hgo⟩)
    · omega

/-- A file is looked up, in whatever world in which the map lies. -/
theorem DiskAt.lookW (h : DiskAt w b m es clock D) (s : ByteArray) (ok : Bool) :
    ∃ v, (∀ w' : World, w'.heap[m]? = some (.map es clock) → (Instr.lookup 104 (.map (some m)) (.string s) ok).run Tryz.prog w' = .ok (if ok then .tuple #[v, .bool (getA s D.files).isSome] else v) w') ∧
      OwnB w v (D.bytes s) ∧ (∀ g, v.ownBlock = some g → ∃ e ∈ es.toList, e.key = .string s ∧ e.val.ownBlock = some g) ∧ (getA s D.files = none → v = .slice none 0 0) := by
  obtain ⟨v, hrun, hv⟩ := run_lookup_rel (m := m) (clock := clock) (keyEnc_string Tryz.underlying9) Tryz.underlying104 zero_bytes h.rel s ok
  refine ⟨v, hrun, ?_⟩
  rcases hv with ⟨h1, rfl⟩ | ⟨bs, e, h1, h2, h3, h4, rfl⟩
  · refine ⟨by unfold DM.bytes; rw [h1]; exact World.ownsRow_nil _ _ _ _, fun g hg => (by cases hg), fun _ => rfl⟩
  · refine ⟨by unfold DM.bytes; rw [h1]; exact h2, fun g hg => ⟨e, h3, h4, hg⟩, fun hn => (by rw [hn] at h1; cases h1)⟩

theorem DiskAt.look (h : DiskAt w b m es clock D) (s : ByteArray) (ok : Bool) :
    ∃ v, (∀ n, (Instr.lookup 104 (.map (some m)) (.string s) ok).run Tryz.prog (w.drewN n) = .ok (if ok then .tuple #[v, .bool (getA s D.files).isSome] else v) (w.drewN n)) ∧
      OwnB w v (D.bytes s) ∧ (∀ g, v.ownBlock = some g → ∃ e ∈ es.toList, e.key = .string s ∧ e.val.ownBlock = some g) ∧ (getA s D.files = none → v = .slice none 0 0) := by
  obtain ⟨v, hrun, hv⟩ := h.lookW s ok
  exact ⟨v, fun n => hrun (w.drewN n) h.map, hv⟩
end
end Go.Proofs.YtemilbemdlpkaaaGreatDoor

/- disk: raw over a disk; Append. -/
namespace Go.Proofs.YtemilbemdlpkaaaGreatDoor
open Go.RowKit Go.ChangeMaps Go.MapKept

section
variable {w : World} {b m : Nat} {es : Array MapEntry} {clock : Nat} {D : DM}

theorem raw_no (h : DiskAt w b m es clock D) (hr : D.raw = none) (f : Value) :
    Calls Tryz.prog 51 #[.pointer (some ⟨b, 0, none⟩), f] w fun e w' => e = .returned (.int .i64 6) ∧ w = w' := by
  unfold DM.raw at hr
  split at hr
  · rename_i hc
    split at hr
    · rename_i hl
      have c3 := h.c3
      have c2 := h.c2
      rw [hc] at c3; rw [hl] at c2
      exact raw_cut b w f c3 c2
    · cases hr
  · cases hr

theorem raw_yes (h : DiskAt w b m es clock D) {D' : DM} (hr : D.raw = some D') (hw : D.writes < 4611686018427387904) :
    ∃ w1, DiskAt w1 b m es clock D' ∧ Kept (· = b) w w1 ∧ w1.heap.size = w.heap.size ∧ ∀ (f : Nat) (caps : Array Value) (R : World → Prop), (∀ w, (callFunc f caps).run Tryz.prog w = .ok (.enter f caps) w) →
      (Calls Tryz.prog f caps w1 fun e w' => e = .returned (.tuple #[]) ∧ R w') →
      Calls Tryz.prog 51 #[.pointer (some ⟨b, 0, none⟩), .func (.func f) #[] caps] w fun e w' => e = .returned (.int .i64 0) ∧ R w' := by
  obtain ⟨hok, -, hfi, hcu⟩ := DM.raw_ok h.ok hr
  unfold DM.raw at hr
  split at hr
  · rename_i hc
    split at hr
    · cases hr
    · rename_i hl
      cases hr
      have c3 := h.c3
      rw [hc] at c3
      have h0 := h.ok.l0
      refine ⟨(w.setCell ⟨b, 2, none⟩ (.int .i64 (D.left - 1))).setCell ⟨b, 1, none⟩ (.int .i64 (D.writes + 1)), h.cells rfl hok (((Kept.refl (· = b) w).setCell (p := ⟨b, 2, none⟩) (fun _ => rfl) _).setCell (p := ⟨b, 1, none⟩) (fun _ => rfl) _) ?_, ?_, ?_, ?_⟩
      · rw [heap_setCell_row (heap_setCell_row h.cell _)]
        simp
      · exact (((Kept.refl (· = b) w).setCell (p := ⟨b, 2, none⟩) (fun _ => rfl) _).setCell (p := ⟨b, 1, none⟩) (fun _ => rfl) _)
      · simp
      · intro f caps R hcall hf
        exact raw_left b D.writes D.left w f caps R h.ok.w0 hw (by omega) h.ok.l1 c3 h.c1 (h.fr 1) h.c2 (h.fr 2) hcall hf
  · rename_i hc
    cases hr
    have hc' : D.cut = false := by simpa using hc
    have c3 := h.c3
    rw [hc'] at c3
    refine ⟨w.setCell ⟨b, 1, none⟩ (.int .i64 (D.writes + 1)), h.cells rfl hok ((Kept.refl (· = b) w).setCell (p := ⟨b, 1, none⟩) (fun _ => rfl) _) ?_, ?_, ?_, ?_⟩
    · rw [heap_setCell_row h.cell _]
      simp
    · exact ((Kept.refl (· = b) w).setCell (p := ⟨b, 1, none⟩) (fun _ => rfl) _)
    · simp
    · intro f caps R hcall hf
      exact raw_free b D.writes w f caps R h.ok.w0 hw c3 h.c1 (h.fr 1) hcall hf
end

theorem call_app2 (caps : Array Value) (w : World) : (callFunc 53 caps).run Tryz.prog w = .ok (.enter 53 caps) w := by kernel_rfl

/-- What is known behind a call that may have changed a disk. -/
structure DiskAfter (w : World) (b m : Nat) (es : Array MapEntry) (D' : DM) (w' : World) (es' : Array MapEntry) (clock' : Nat) : Prop where
  disk : DiskAt w' b m es' clock' D'
  foot : ∀ k, diskF b m es' k → diskF b m es k ∨ w.heap.size ≤ k
  kept : Kept (diskF b m es) w w'

theorem DiskAfter.trans {w w1 w2 : World} {b m : Nat} {es es1 es2 : Array MapEntry} {c1 c2 : Nat} {D1 D2 : DM} (h : DiskAfter w b m es D1 w1 es1 c1) (k : DiskAfter w1 b m es1 D2 w2 es2 c2) : DiskAfter w b m es D2 w2 es2 c2 :=
  ⟨k.disk, fun i hi => by
    rcases k.foot i hi with h1 | h1
    · exact h.foot i h1
    · exact .inr (Nat.le_trans h.kept.size h1),
   h.kept.trans k.kept fun i hi hf => by
    rcases h.foot i hf with h1 | h1
    · exact h1
    · omega⟩

/-- Other blocks are laid or written ahead of what is done to a disk. -/
theorem DiskAfter.of_kept {w w1 w2 : World} {b m : Nat} {es es2 : Array MapEntry} {c2 : Nat} {D2 : DM} (h : Kept (fun _ => False) w w1) (k : DiskAfter w1 b m es D2 w2 es2 c2) : DiskAfter w b m es D2 w2 es2 c2 :=
  ⟨k.disk, fun i hi => by
    rcases k.foot i hi with h1 | h1
    · exact .inl h1
    · exact .inr (Nat.le_trans h.size h1),
   h.mono (fun _ _ hf => hf.elim) |>.trans k.kept fun _ _ hf => hf⟩

/-- One raw write that puts a file's bytes: the closure of Append's first kind. -/
theorem raw_app1 {w : World} {b m : Nat} {es : Array MapEntry} {clock : Nat} {D D' : DM} (h : DiskAt w b m es clock D) (hr : D.raw = some D') (hw : D.writes < 4611686018427387904) (Bd Bn : Nat) (s : ByteArray)
    (hd : w.cell? ⟨Bd, 0, none⟩ = some (.pointer (some ⟨b, 0, none⟩))) (hn : w.cell? ⟨Bn, 0, none⟩ = some (.string s)) (hdb : Bd ≠ b) (hnb : Bn ≠ b) (hs : mayB s = true) (hc : D.files.length < 256) :
    Calls Tryz.prog 51 #[.pointer (some ⟨b, 0, none⟩), .func (.func 52) #[] #[.pointer (some ⟨Bd, 0, none⟩), .pointer (some ⟨Bn, 0, none⟩)]] w fun e w' => e = .returned (.int .i64 0) ∧
      ∃ es' clock', DiskAfter w b m es (D'.put s []) w' es' clock' := by
  obtain ⟨w1, h1, hk1, hsz, hcall⟩ := raw_yes h hr hw
  obtain ⟨hok, hwr, hfi, hcu⟩ := DM.raw_ok h.ok hr
  have hd1 : w1.cell? ⟨Bd, 0, none⟩ = some (.pointer (some ⟨b, 0, none⟩)) := (World.cell?_of_block (w := w) (hk1.block Bd (World.block_lt_of_cell? w _ hd) hdb)).trans hd
  have hn1 : w1.cell? ⟨Bn, 0, none⟩ = some (.string s) := (World.cell?_of_block (w := w) (hk1.block Bn (World.block_lt_of_cell? w _ hn) hnb)).trans hn
  obtain ⟨es', clock', hrun, h2, hF, hk2⟩ := h1.put (s := s) (w1 := w1.drew) (v' := .slice none 0 0) (x := []) (row := none) ⟨rfl, rfl, rfl, Nat.le_refl _, fun _ _ _ => rfl⟩ (fun g e => (by cases e)) (World.ownsRow_nil _ _ _ _) (fun g e => (by cases e))
    (DM.put_ok hok hs (by simp) (fun _ => by rw [hfi]; exact hc))
  refine hcall _ _ (fun w' => ∃ es' clock', DiskAfter w b m es (D'.put s []) w' es' clock') (call_app1 _) ((app1 Bd Bn b m s w1 _ hd1 hn1 h1.c0 hrun).mono ?_)
  rintro e w' ⟨rfl, rfl⟩
  exact ⟨rfl, es', clock', h2, fun k hk => by rw [← hsz]; exact hF k hk, (hk1.mono (fun k _ e => .inl e)).trans hk2 fun _ _ hf => hf⟩

/-- One raw write that puts a piece behind a file. -/
theorem raw_app2 {w : World} {b m : Nat} {es : Array MapEntry} {clock : Nat} {D D' : DM} (h : DiskAt w b m es clock D) (hr : D.raw = some D') (hw : D.writes < 4611686018427387904) (Bd Bn Bp : Nat) (s : ByteArray) (p : Value) (x : List UInt8)
    (hd : w.cell? ⟨Bd, 0, none⟩ = some (.pointer (some ⟨b, 0, none⟩))) (hn : w.cell? ⟨Bn, 0, none⟩ = some (.string s)) (hp : w.cell? ⟨Bp, 0, none⟩ = some p) (hdb : ¬ diskF b m es Bd) (hnb : ¬ diskF b m es Bn) (hpb : ¬ diskF b m es Bp)
    (hpx : IsB w p x) (hpo : ∀ g, p.ownBlock = some g → ¬ diskF b m es g) (hs : mayB s = true) (hc : getA s D.files = none → D.files.length < 256) (hlen : (D.bytes s).length + x.length ≤ 4194304) :
    Calls Tryz.prog 51 #[.pointer (some ⟨b, 0, none⟩), .func (.func 53) #[] #[.pointer (some ⟨Bd, 0, none⟩), .pointer (some ⟨Bn, 0, none⟩), .pointer (some ⟨Bp, 0, none⟩)]] w fun e w' => e = .returned (.int .i64 0) ∧
      ∃ es' clock', DiskAfter w b m es (D'.put s (D'.bytes s ++ x)) w' es' clock' := by
  obtain ⟨w1, h1, hk1, hsz, hcall⟩ := raw_yes h hr hw
  obtain ⟨hok, hwr, hfi, hcu⟩ := DM.raw_ok h.ok hr
  have hby : D'.bytes s = D.bytes s := by unfold DM.bytes; rw [hfi]
  have hkb : ∀ B v, w.cell? ⟨B, 0, none⟩ = some v → ¬ diskF b m es B → w1.cell? ⟨B, 0, none⟩ = some v := fun B v hB hnB =>
    (World.cell?_of_block (w := w) (hk1.block B (World.block_lt_of_cell? w _ hB) (fun e => hnB (.inl e)))).trans hB
  have hpx1 : IsB w1 p x := hpx.kept hk1.size fun g hg => by
    by_cases hlt : g < w.heap.size
    · exact hk1.block g hlt (fun e => hpo g hg (.inl e))
    · rw [Array.getElem?_eq_none (by omega), Array.getElem?_eq_none (by omega)]
  obtain ⟨v, hl, hvO, hvg, hvn⟩ := h1.look s false
  obtain ⟨v', w2, ha, hvO', hgr, hvb, -⟩ := run_append_bytes w1.drew v p (D'.bytes s) x (OwnB.kept hvO fun _ _ => rfl) (hpx1.kept (Nat.le_refl _) fun _ _ => rfl) (by rw [hby]; omega)
  have hrow : ∀ g, v.ownBlock = some g → (∃ e ∈ es.toList, e.key = .string s ∧ e.val.ownBlock = some g) ∨ w1.heap.size ≤ g := fun g hg => .inl (hvg g hg)
  obtain ⟨es', clock', hrun, h2, hF, hk2⟩ := h1.put (s := s) (w1 := w2) (v' := v') (x := D'.bytes s ++ x) (row := v.ownBlock) ⟨hgr.os, hgr.tape, hgr.output, hgr.size, hgr.block⟩ hrow hvO' (fun g hg => by
      rcases hvb g hg with h3 | ⟨h3, _⟩
      · exact .inl (hvg g h3)
      · exact .inr (by rw [h3]; exact Nat.le_refl _))
    (DM.put_ok hok hs (by rw [hby, List.length_append]; exact hlen) (fun e => by rw [hfi] at e ⊢; exact hc e))
  have hk12 : ∀ B u, w.cell? ⟨B, 0, none⟩ = some u → ¬ diskF b m es B → w2.cell? ⟨B, 0, none⟩ = some u := fun B u hB hnB =>
    hgr.cell (w := w1.drew) (hkb B u hB hnB) (fun e => by
      obtain ⟨e', he', _, hg'⟩ := hvg B e.symm
      exact hnB (.inr (.inr ⟨e', he', hg'⟩)))
  have hk13 : ∀ B u, w.cell? ⟨B, 0, none⟩ = some u → ¬ diskF b m es B → (setBlock w2 m (.map es' clock')).cell? ⟨B, 0, none⟩ = some u := fun B u hB hnB =>
    (World.cell?_of_block (w := w2) (heap_setBlock_ne (fun e => hnB (.inr (.inl e))) _)).trans (hk12 B u hB hnB)
  have hb2 : w2.cell? ⟨b, 0, none⟩ = some (.map (some m)) := hgr.cell (w := w1.drew) h1.c0 (fun e => by
      obtain ⟨e', he', _, hg'⟩ := hvg b e.symm
      exact (h1.own he' hg').1 rfl)
  refine hcall _ _ (fun w' => ∃ es' clock', DiskAfter w b m es (D'.put s (D'.bytes s ++ x)) w' es' clock') (call_app2 _) ((app2 Bd Bn Bp b m s p v v' w1 w2 _ (hkb _ _ hd hdb) (hkb _ _ hn hnb) (hkb _ _ hp hpb) h1.c0 (hk12 _ _ hd hdb) (hk12 _ _ hn hnb) hb2 (hk12 _ _ hp hpb)
    (hk13 _ _ hd hdb) (hk13 _ _ hn hnb) h2.c0 (hk13 _ _ hp hpb) (hl 1) ha hrun).mono ?_)
  rintro e w' ⟨rfl, rfl⟩
  exact ⟨rfl, es', clock', h2, fun k hk => by rw [← hsz]; exact hF k hk, (hk1.mono (fun k _ e => .inl e)).trans hk2 fun _ _ hf => hf⟩
end Go.Proofs.YtemilbemdlpkaaaGreatDoor

/- disk: Append. -/
namespace Go.Proofs.YtemilbemdlpkaaaGreatDoor
open Go.RowKit Go.ChangeMaps Go.MapKept

/-- What is known at the end of a call that may have changed a disk and answers an error's number. -/
def EndD (w : World) (b m : Nat) (es : Array MapEntry) (r : Int) (D' : DM) (e : Ending) (w' : World) : Prop :=
  e = .returned (.int .i64 r) ∧ ∃ es' clock', DiskAfter w b m es D' w' es' clock'

theorem EndD.same {w w' : World} {b m : Nat} {es : Array MapEntry} {clock : Nat} {D : DM} (h : DiskAt w b m es clock D) (r : Int) (hk : Kept (fun _ => False) w w') : EndD w b m es r D (.returned (.int .i64 r)) w' :=
  ⟨rfl, es, clock, h.kept hk (fun _ _ hf => hf), fun _ hk => .inl hk, hk.mono fun _ _ hf => hf.elim⟩

theorem two_new (w : World) (x y : Value) (t u : TypeId) : ∃ w2, (w.alloc (.cells #[x] t)).alloc (.cells #[y] u) = w2 ∧ Kept (fun _ => False) w w2 ∧ w2.heap.size = w.heap.size + 2 ∧
    w2.cell? ⟨w.heap.size, 0, none⟩ = some x ∧ w2.cell? ⟨w.heap.size + 1, 0, none⟩ = some y :=
  ⟨_, rfl, ((Kept.refl _ w).alloc _).alloc _, by simp, by simp, by simp⟩

theorem len_map {P : Program} {T K E m : TypeId} {es : Array MapEntry} {clock : Nat} (hT : P.underlying T = some (.map K E)) (ty : TypeId) (w : World) (hm : w.heap[m]? = some (.map es clock)) :
    (Builtin.len_ #[T] ty #[.map (some m)]).run P w = .ok (.int .i64 es.size) w := by
  simp [Builtin.len_, run_underlying hT, MapKept.run_getObj_map hm, Result.andThen, goInt]

section
variable {w : World} {b m : Nat} {es : Array MapEntry} {clock : Nat} {D : DM} {s : ByteArray}

theorem DiskAfter.after {w w1 w2 : World} {b m : Nat} {es es1 : Array MapEntry} {c1 : Nat} {D1 : DM} (h : DiskAfter w b m es D1 w1 es1 c1) (k : Kept (fun _ => False) w1 w2) : DiskAfter w b m es D1 w2 es1 c1 :=
  ⟨h.disk.kept k (fun _ _ hf => hf), h.foot, h.kept.trans k fun _ _ hf => hf.elim⟩

theorem ob_same (a : Option Addr) (n c n' c' : Nat) : (Value.slice a n c).ownBlock = (Value.slice a n' c').ownBlock := by cases a <;> rfl

/-- How long a slice value is. -/
def lenOfV : Value → Nat | .slice _ n _ => n | _ => 0



set_option maxRecDepth 100000 in
set_option maxHeartbeats 1000000 in
theorem append_any (h : DiskAt w b m es clock D) (hs : s.size ≤ maxLen) (a : Option Addr) (c : Nat) (bs : List UInt8) (hv : IsB w (.slice a bs.length c) bs) (hsep : bs ≠ [] → ∀ g, (Value.slice a bs.length c).ownBlock = some g → ¬ diskF b m es g) (hw : D.writes < 2305843009213693952) :
    Calls Tryz.prog 17 #[.pointer (some ⟨b, 0, none⟩), .string s, .slice a bs.length c] w (EndD w b m es (D.append s bs).1 (D.append s bs).2) := by
  obtain ⟨w2, hw2, hk, hsz, hBd, hBn⟩ := two_new w (.pointer (some ⟨b, 0, none⟩)) (.string s) 32 9
  have hlt : ∀ k, diskF b m es k → k < w.heap.size := h.lt
  have h1 : DiskAt w2 b m es clock D := h.kept hk (fun _ _ hf => hf)
  have hv2 : IsB w2 (.slice a bs.length c) bs := hv.keptF hk (fun _ _ hf => hf)
  have hbl : bs.length ≤ 9223372036854775807 := by obtain ⟨_, _, hx, h5, h6, _⟩ := hv; unfold maxLen at h6; omega
  go_enter Tryz.func17, Tryz.ntmps17
  go_wp2_with fail
  clear hw2
  go_step3
  cases hm : mayB s with
  | false =>
    have HM := Lib.hid hm; clear hm
    go_wp2_with (go_at_call 50; refine (may_any _ _ hs).mono ?_; rw [HM.out]; rintro e w' ⟨rfl, rfl⟩)
    (try rw [Exit.noGoto_ret])
    go_ret
    have e1 : D.append s bs = (2, D) := by unfold DM.append; rw [if_pos HM.out]
    rw [e1]
    exact EndD.same h 2 hk
  | true =>
    have HM := Lib.hid hm; clear hm
    go_wp2_with (go_at_call 50; refine (may_any _ _ hs).mono ?_; rw [HM.out]; rintro e w' ⟨rfl, rfl⟩)
    obtain ⟨old, hl, hold, holdf, ho⟩ := h1.look s true
    obtain ⟨oa, oc, rfl, -, -⟩ := hold.form
    have hc0 := h1.c0
    have hes : es.size = D.files.length := by have := h1.rel.length; rw [← this]; simp
    have hole := DM.bytes_le h1.ok s
    have hlen : ∀ n, (Builtin.len_ #[104] 3 #[.map (some m)]).run Tryz.prog (w2.drewN n) = .ok (.int .i64 es.size) (w2.drewN n) := fun n => len_map Tryz.underlying104 _ _ h1.map
    rw [hes] at hlen
    have hcnt := h1.ok.count
    clear hes
    cases hg : getA s D.files with
    | none =>
      rw [hg] at hl
      have HG := Lib.hid hg; clear hg
      by_cases h256 : D.files.length = 256
      · have H256 := Lib.hid h256
        rw [h256] at hlen
        clear h256
        go_quiet (fail)
        rename_i nq
        have hl2 := hlen nq
        go_wp2
        (try rw [Exit.noGoto_ret])
        go_ret
        have e1 : D.append s bs = (3, D) := by unfold DM.append; rw [if_neg (by rw [HM.out]; simp), if_pos ⟨HG.out, H256.out⟩]
        rw [e1]
        exact EndD.same h 3 (hk.drewN nq)
      · have H256 := Lib.hid h256
        have hfalse : ((D.files.length : Int) == 256) = false := by simp; omega
        clear h256
        go_quiet (fail)
        rename_i nq
        have hl2 := hlen nq
        by_cases hbig : 4194304 < (D.bytes s).length + bs.length
        · go_wp2
          (try rw [Exit.noGoto_ret])
          go_ret
          have e1 : D.append s bs = (3, D) := by unfold DM.append; rw [if_neg (by rw [HM.out]; simp), if_neg (fun e => H256.out e.2), if_pos hbig]
          rw [e1]
          exact EndD.same h 3 (hk.drewN nq)
        · go_wp2_with fail
          · have hz : bs = [] := by assumption
            have h3 : DiskAt (w2.drewN nq) b m es clock D := h1.kept ((Kept.refl (fun _ => False) _).drewN nq) (fun _ _ hf => hf)
            have hnF : ∀ k, w.heap.size ≤ k → ¬ diskF b m es k := fun k hk hf => by have := hlt k hf; omega
            have e0 : D.append s bs = match D.raw with | none => (6, D) | some D' => (0, D'.put s []) := by
              unfold DM.append; rw [if_neg (by rw [HM.out]; simp), if_neg (fun e => H256.out e.2), if_neg hbig, if_pos ⟨hz, HG.out⟩]; try (cases D.raw <;> rfl)
            cases hraw : D.raw with
            | none =>
              rw [hraw] at e0
              refine (raw_no h3 hraw _).mono ?_
              clear hraw
              rintro e w5 ⟨rfl, rfl⟩
              have E0 := Lib.hid e0; clear e0
              go_wp2
              (try rw [Exit.noGoto_ret])
              go_ret
              rw [E0.out]
              exact EndD.same h 6 (hk.drewN nq)
            | some D' =>
              rw [hraw] at e0
              refine (raw_app1 h3 hraw (by omega) w.heap.size (w.heap.size + 1) s hBd hBn (fun e => hnF _ (Nat.le_refl _) (.inl e)) (fun e => hnF _ (Nat.le_succ _) (.inl e)) HM.out (by have := H256.out; omega)).mono ?_
              clear hraw
              rintro e w5 ⟨rfl, es2, clock2, hr8⟩
              have E0 := Lib.hid e0; clear e0
              go_wp2
              (try rw [Exit.noGoto_ret])
              go_ret
              rw [E0.out]
              exact ⟨rfl, es2, clock2, DiskAfter.of_kept (hk.drewN nq) hr8⟩
          · have hz : bs ≠ [] := by assumption
            have h3 : DiskAt (w2.drewN nq) b m es clock D := h1.kept ((Kept.refl (fun _ => False) _).drewN nq) (fun _ _ hf => hf)
            have hk3 : Kept (fun _ => False) w (w2.drewN nq) := hk.drewN nq
            have hBd3 : (w2.drewN nq).cell? ⟨w.heap.size, 0, none⟩ = some (.pointer (some ⟨b, 0, none⟩)) := hBd
            have hBn3 : (w2.drewN nq).cell? ⟨w.heap.size + 1, 0, none⟩ = some (.string s) := hBn
            have hv3 : IsB (w2.drewN nq) (.slice a bs.length c) bs := hv2.kept (Nat.le_refl _) (fun _ _ => rfl)
            have hsz3 : (w2.drewN nq).heap.size = w.heap.size + 2 := hsz
            clear hl hlen hl2 hold holdf ho hBd hBn hv2 h1 hk hc0 hfalse
            generalize w2.drewN nq = w3 at *
            go_step3
            go_wp2_with fail
            go_loopw [2, 6] (fun v2 v6 wr => ∃ (a' : Option Addr) (c' : Nat) (rest : List UInt8) (es1 : Array MapEntry) (clock1 : Nat) (D1 : DM), v2 = .slice a' rest.length c' ∧ IsB w3 (.slice a' rest.length c') rest ∧ (rest ≠ [] → ∀ g, (Value.slice a' rest.length c').ownBlock = some g → ¬ diskF b m es g) ∧ v6 = .int .i64 0 ∧
                DiskAfter w3 b m es D1 wr es1 clock1 ∧ Hid (DM.pieces s rest D1 = DM.pieces s bs D) ∧ (D1.bytes s).length + rest.length ≤ 4194304 ∧ D1.writes + rest.length < 2305843009213693952 + 4194304 ∧ (getA s D1.files = none → D1.files.length < 256))
              (fun v2 _ _ => lenOfV v2)
            case atStart => exact ⟨a, c, bs, es, clock, D, rfl, hv3, hsep, rfl, ⟨h3, fun _ hk => .inl hk, Kept.refl _ _⟩, rfl, by omega, by omega, fun _ => by have := H256.out; omega⟩
            case round =>
              obtain ⟨a', c', rest, es1, clock1, D1, rfl, hr1, hr2, rfl, hr3, hr4, hr5, hr6, hr7⟩ := hrel
              have hbd1 := hr1
              obtain ⟨_, _, _, hcr, hcm, _⟩ := hbd1
              have hwr : Kept (diskF b m es) w3 wr := hr3.kept
              have hwsz : w.heap.size + 2 ≤ wr.heap.size := by have := hwr.size; omega
              have hnF : ∀ k, w.heap.size ≤ k → ¬ diskF b m es k := fun k hk hf => by have := hlt k hf; omega
              have hBdr := hwr.cell hBd3 (hnF _ (Nat.le_refl _))
              have hBnr := hwr.cell hBn3 (hnF _ (Nat.le_succ _))
              have hr1r := hr1.keptS hwr hr2
              by_cases hrz : rest.length = 0
              · obtain rfl : rest = [] := List.length_eq_zero_iff.1 hrz
                go_wp2
                (try rw [Exit.noGoto_ret])
                go_ret
                have e1 : D.append s bs = (0, D1) := by rw [show D.append s bs = DM.pieces s bs D from by unfold DM.append; rw [if_neg (by rw [HM.out]; simp), if_neg (fun e => H256.out e.2), if_neg hbig, if_neg (fun e => hz e.1)]]; rw [← hr4.out]; exact DM.pieces_nil s D1
                rw [e1]
                exact ⟨rfl, es1, clock1, DiskAfter.of_kept hk3 hr3⟩
              · by_cases h32 : 32 < rest.length
                · skip
                  have hsh := (bytes_high hr1r (k := 32) (by omega)).1
                  have hph := (bytes_high hr1r (k := 32) (by omega)).2
                  obtain ⟨a2, hsl, hrl, hrb, ha2⟩ := bytes_low hr1 (k := 32) (by omega)
                  have HA2 := Lib.hid ha2; clear ha2
                  obtain ⟨w4, hw4, hk4, hsz4, hBp⟩ := one_new wr (.slice a' 32 c') 25
                  have hBd4 := hk4.cell hBdr (fun h => h)
                  have hBn4 := hk4.cell hBnr (fun h => h)
                  have hne : rest ≠ [] := fun e => hrz (by rw [e]; rfl)
                  have hblt := hr1.block_lt hne
                  have hd4 : DiskAt w4 b m es1 clock1 D1 := hr3.disk.kept hk4 (fun _ _ hf => hf)
                  have hn1 : ∀ k, ¬ diskF b m es k → k < w3.heap.size → ¬ diskF b m es1 k := fun k h1 h2 hf => by
                    rcases hr3.foot k hf with h | h
                    · exact h1 h
                    · omega
                  have hph4 := hph.keptF hk4 (fun _ _ hf => hf)
                  go_wp2_with fail
                  cases hraw : D1.raw with
                  | none =>
                    have HR := Lib.hid hraw
                    refine (raw_no hd4 hraw _).mono ?_
                    clear hraw
                    rintro e w5 ⟨rfl, rfl⟩
                    clear hsh hsl hw4
                    go_wp2
                    (try rw [Exit.noGoto_ret])
                    go_ret
                    have e1 : D.append s bs = (6, D1) := by rw [show D.append s bs = DM.pieces s bs D from by unfold DM.append; rw [if_neg (by rw [HM.out]; simp), if_neg (fun e => H256.out e.2), if_neg hbig, if_neg (fun e => hz e.1)]]; rw [← hr4.out]; exact DM.pieces_no hne HR.out
                    rw [e1]
                    exact ⟨rfl, es1, clock1, DiskAfter.of_kept hk3 (hr3.after hk4)⟩
                  | some D1' =>
                    have HR := Lib.hid hraw
                    refine (raw_app2 hd4 hraw (by omega) w.heap.size (w.heap.size + 1) wr.heap.size s (.slice a' 32 c') (rest.take 32) hBd4 hBn4 hBp
                      (hn1 _ (hnF _ (Nat.le_refl _)) (by omega)) (hn1 _ (hnF _ (Nat.le_succ _)) (by omega)) (fun hf => by have := hr3.disk.lt _ hf; omega) hph4 (fun g hg => hn1 g (hr2 hne g ((ob_same _ _ _ _ _).trans hg)) (hblt g ((ob_same _ _ _ _ _).trans hg))) HM.out hr7 (by simp only [List.length_take]; omega)).mono ?_
                    clear hraw
                    rintro e w5 ⟨rfl, es2, clock2, hr8⟩
                    clear hsh hsl hw4
                    go_wp2
                    go_roundw
                    case rel =>
                      refine ⟨a2, c' - 32, rest.drop 32, es2, clock2, _, by first | (simp; done) | (rw [HA2.out, if_neg (by omega)]; simp [Addr.add]), by simpa using hrl, fun _ g hg => hr2 hne g (hrb g ((ob_same _ _ _ _ _).trans hg)), rfl, hr3.trans (DiskAfter.of_kept hk4 hr8), ?_, ?_, ?_, fun e => ?_⟩
                      · rw [← hr4.out]; exact (DM.pieces_step hne HR.out (by omega)).symm
                      · rw [DM.bytes_put]
                        have := (DM.raw_ok hr3.disk.ok HR.out).2.2.1
                        simp only [DM.bytes, this] at hr5 ⊢
                        simp only [List.length_append, List.length_take, List.length_drop]
                        omega
                      · have := (DM.raw_ok hr3.disk.ok HR.out).2.1
                        simp only [DM.put, this, List.length_drop]
                        omega
                      · rw [DM.get_put] at e; cases e
                    case measure => simp [lenOfV]; omega
                · skip
                  have hsh := (bytes_high hr1r (k := rest.length) (by omega)).1
                  have hph := (bytes_high hr1r (k := rest.length) (by omega)).2
                  obtain ⟨a2, hsl, hrl, hrb, ha2⟩ := bytes_low hr1 (k := rest.length) (by omega)
                  have HA2 := Lib.hid ha2; clear ha2
                  obtain ⟨w4, hw4, hk4, hsz4, hBp⟩ := one_new wr (.slice a' rest.length c') 25
                  have hBd4 := hk4.cell hBdr (fun h => h)
                  have hBn4 := hk4.cell hBnr (fun h => h)
                  have hne : rest ≠ [] := fun e => hrz (by rw [e]; rfl)
                  have hblt := hr1.block_lt hne
                  have hd4 : DiskAt w4 b m es1 clock1 D1 := hr3.disk.kept hk4 (fun _ _ hf => hf)
                  have hn1 : ∀ k, ¬ diskF b m es k → k < w3.heap.size → ¬ diskF b m es1 k := fun k h1 h2 hf => by
                    rcases hr3.foot k hf with h | h
                    · exact h1 h
                    · omega
                  have hph4 := hph.keptF hk4 (fun _ _ hf => hf)
                  go_wp2_with fail
                  cases hraw : D1.raw with
                  | none =>
                    have HR := Lib.hid hraw
                    refine (raw_no hd4 hraw _).mono ?_
                    clear hraw
                    rintro e w5 ⟨rfl, rfl⟩
                    clear hsh hsl hw4
                    go_wp2
                    (try rw [Exit.noGoto_ret])
                    go_ret
                    have e1 : D.append s bs = (6, D1) := by rw [show D.append s bs = DM.pieces s bs D from by unfold DM.append; rw [if_neg (by rw [HM.out]; simp), if_neg (fun e => H256.out e.2), if_neg hbig, if_neg (fun e => hz e.1)]]; rw [← hr4.out]; exact DM.pieces_no hne HR.out
                    rw [e1]
                    exact ⟨rfl, es1, clock1, DiskAfter.of_kept hk3 (hr3.after hk4)⟩
                  | some D1' =>
                    have HR := Lib.hid hraw
                    refine (raw_app2 hd4 hraw (by omega) w.heap.size (w.heap.size + 1) wr.heap.size s (.slice a' rest.length c') (rest.take rest.length) hBd4 hBn4 hBp
                      (hn1 _ (hnF _ (Nat.le_refl _)) (by omega)) (hn1 _ (hnF _ (Nat.le_succ _)) (by omega)) (fun hf => by have := hr3.disk.lt _ hf; omega) hph4 (fun g hg => hn1 g (hr2 hne g ((ob_same _ _ _ _ _).trans hg)) (hblt g ((ob_same _ _ _ _ _).trans hg))) HM.out hr7 (by simp only [List.length_take]; omega)).mono ?_
                    clear hraw
                    rintro e w5 ⟨rfl, es2, clock2, hr8⟩
                    clear hsh hsl hw4
                    go_wp2
                    go_roundw
                    case rel =>
                      refine ⟨a2, c' - rest.length, rest.drop rest.length, es2, clock2, _, by first | (simp; done) | (rw [HA2.out, if_neg (by omega)]; simp [Addr.add]), by simpa using hrl, fun _ g hg => hr2 hne g (hrb g ((ob_same _ _ _ _ _).trans hg)), rfl, hr3.trans (DiskAfter.of_kept hk4 hr8), ?_, ?_, ?_, fun e => ?_⟩
                      · rw [← hr4.out]; exact (DM.pieces_step hne HR.out (by omega)).symm
                      · rw [DM.bytes_put]
                        have := (DM.raw_ok hr3.disk.ok HR.out).2.2.1
                        simp only [DM.bytes, this] at hr5 ⊢
                        simp only [List.length_append, List.length_take, List.length_drop]
                        omega
                      · have := (DM.raw_ok hr3.disk.ok HR.out).2.1
                        simp only [DM.put, this, List.length_drop]
                        omega
                      · rw [DM.get_put] at e; cases e
                    case measure => simp [lenOfV]; omega
    | some old0 =>
      rw [hg] at hl
      have HG := Lib.hid hg; clear hg
      have hfalse := trivial
      have hl2 := trivial
      go_quiet (fail)
      rename_i nq
      by_cases hbig : 4194304 < (D.bytes s).length + bs.length
      · go_wp2
        (try rw [Exit.noGoto_ret])
        go_ret
        have e1 : D.append s bs = (3, D) := by unfold DM.append; rw [if_neg (by rw [HM.out]; simp), if_neg (fun e => by rw [HG.out] at e; cases e.1), if_pos hbig]
        rw [e1]
        exact EndD.same h 3 (hk.drewN nq)
      · by_cases hz : bs.length = 0
        · have hzb : ((bs.length : Int) == 0) = true := by simp [hz]
          clear hz
          go_wp2_with fail
          have h3 : DiskAt (w2.drewN nq) b m es clock D := h1.kept ((Kept.refl (fun _ => False) _).drewN nq) (fun _ _ hf => hf)
          have hk3 : Kept (fun _ => False) w (w2.drewN nq) := hk.drewN nq
          have hBd3 : (w2.drewN nq).cell? ⟨w.heap.size, 0, none⟩ = some (.pointer (some ⟨b, 0, none⟩)) := hBd
          have hBn3 : (w2.drewN nq).cell? ⟨w.heap.size + 1, 0, none⟩ = some (.string s) := hBn
          have hv3 : IsB (w2.drewN nq) (.slice a bs.length c) bs := hv2.kept (Nat.le_refl _) (fun _ _ => rfl)
          have hsz3 : (w2.drewN nq).heap.size = w.heap.size + 2 := hsz
          clear hl hlen hl2 hold holdf ho hBd hBn hv2 h1 hk hc0 hfalse
          generalize w2.drewN nq = w3 at *
          go_step3
          go_wp2_with fail
          go_loopw [2, 6] (fun v2 v6 wr => ∃ (a' : Option Addr) (c' : Nat) (rest : List UInt8) (es1 : Array MapEntry) (clock1 : Nat) (D1 : DM), v2 = .slice a' rest.length c' ∧ IsB w3 (.slice a' rest.length c') rest ∧ (rest ≠ [] → ∀ g, (Value.slice a' rest.length c').ownBlock = some g → ¬ diskF b m es g) ∧ v6 = .int .i64 0 ∧
              DiskAfter w3 b m es D1 wr es1 clock1 ∧ Hid (DM.pieces s rest D1 = DM.pieces s bs D) ∧ (D1.bytes s).length + rest.length ≤ 4194304 ∧ D1.writes + rest.length < 2305843009213693952 + 4194304 ∧ (getA s D1.files = none → D1.files.length < 256))
            (fun v2 _ _ => lenOfV v2)
          case atStart => exact ⟨a, c, bs, es, clock, D, rfl, hv3, hsep, rfl, ⟨h3, fun _ hk => .inl hk, Kept.refl _ _⟩, rfl, by omega, by omega, fun e => by rw [HG.out] at e; cases e⟩
          case round =>
            obtain ⟨a', c', rest, es1, clock1, D1, rfl, hr1, hr2, rfl, hr3, hr4, hr5, hr6, hr7⟩ := hrel
            have hbd1 := hr1
            obtain ⟨_, _, _, hcr, hcm, _⟩ := hbd1
            have hwr : Kept (diskF b m es) w3 wr := hr3.kept
            have hwsz : w.heap.size + 2 ≤ wr.heap.size := by have := hwr.size; omega
            have hnF : ∀ k, w.heap.size ≤ k → ¬ diskF b m es k := fun k hk hf => by have := hlt k hf; omega
            have hBdr := hwr.cell hBd3 (hnF _ (Nat.le_refl _))
            have hBnr := hwr.cell hBn3 (hnF _ (Nat.le_succ _))
            have hr1r := hr1.keptS hwr hr2
            by_cases hrz : rest.length = 0
            · obtain rfl : rest = [] := List.length_eq_zero_iff.1 hrz
              go_wp2
              (try rw [Exit.noGoto_ret])
              go_ret
              have e1 : D.append s bs = (0, D1) := by rw [show D.append s bs = DM.pieces s bs D from by unfold DM.append; rw [if_neg (by rw [HM.out]; simp), if_neg (fun e => by rw [HG.out] at e; cases e.1), if_neg hbig, if_neg (fun e => by rw [HG.out] at e; cases e.2)]]; rw [← hr4.out]; exact DM.pieces_nil s D1
              rw [e1]
              exact ⟨rfl, es1, clock1, DiskAfter.of_kept hk3 hr3⟩
            · by_cases h32 : 32 < rest.length
              · skip
                have hsh := (bytes_high hr1r (k := 32) (by omega)).1
                have hph := (bytes_high hr1r (k := 32) (by omega)).2
                obtain ⟨a2, hsl, hrl, hrb, ha2⟩ := bytes_low hr1 (k := 32) (by omega)
                have HA2 := Lib.hid ha2; clear ha2
                obtain ⟨w4, hw4, hk4, hsz4, hBp⟩ := one_new wr (.slice a' 32 c') 25
                have hBd4 := hk4.cell hBdr (fun h => h)
                have hBn4 := hk4.cell hBnr (fun h => h)
                have hne : rest ≠ [] := fun e => hrz (by rw [e]; rfl)
                have hblt := hr1.block_lt hne
                have hd4 : DiskAt w4 b m es1 clock1 D1 := hr3.disk.kept hk4 (fun _ _ hf => hf)
                have hn1 : ∀ k, ¬ diskF b m es k → k < w3.heap.size → ¬ diskF b m es1 k := fun k h1 h2 hf => by
                  rcases hr3.foot k hf with h | h
                  · exact h1 h
                  · omega
                have hph4 := hph.keptF hk4 (fun _ _ hf => hf)
                go_wp2_with fail
                cases hraw : D1.raw with
                | none =>
                  have HR := Lib.hid hraw
                  refine (raw_no hd4 hraw _).mono ?_
                  clear hraw
                  rintro e w5 ⟨rfl, rfl⟩
                  clear hsh hsl hw4
                  go_wp2
                  (try rw [Exit.noGoto_ret])
                  go_ret
                  have e1 : D.append s bs = (6, D1) := by rw [show D.append s bs = DM.pieces s bs D from by unfold DM.append; rw [if_neg (by rw [HM.out]; simp), if_neg (fun e => by rw [HG.out] at e; cases e.1), if_neg hbig, if_neg (fun e => by rw [HG.out] at e; cases e.2)]]; rw [← hr4.out]; exact DM.pieces_no hne HR.out
                  rw [e1]
                  exact ⟨rfl, es1, clock1, DiskAfter.of_kept hk3 (hr3.after hk4)⟩
                | some D1' =>
                  have HR := Lib.hid hraw
                  refine (raw_app2 hd4 hraw (by omega) w.heap.size (w.heap.size + 1) wr.heap.size s (.slice a' 32 c') (rest.take 32) hBd4 hBn4 hBp
                    (hn1 _ (hnF _ (Nat.le_refl _)) (by omega)) (hn1 _ (hnF _ (Nat.le_succ _)) (by omega)) (fun hf => by have := hr3.disk.lt _ hf; omega) hph4 (fun g hg => hn1 g (hr2 hne g ((ob_same _ _ _ _ _).trans hg)) (hblt g ((ob_same _ _ _ _ _).trans hg))) HM.out hr7 (by simp only [List.length_take]; omega)).mono ?_
                  clear hraw
                  rintro e w5 ⟨rfl, es2, clock2, hr8⟩
                  clear hsh hsl hw4
                  go_wp2
                  go_roundw
                  case rel =>
                    refine ⟨a2, c' - 32, rest.drop 32, es2, clock2, _, by first | (simp; done) | (rw [HA2.out, if_neg (by omega)]; simp [Addr.add]), by simpa using hrl, fun _ g hg => hr2 hne g (hrb g ((ob_same _ _ _ _ _).trans hg)), rfl, hr3.trans (DiskAfter.of_kept hk4 hr8), ?_, ?_, ?_, fun e => ?_⟩
                    · rw [← hr4.out]; exact (DM.pieces_step hne HR.out (by omega)).symm
                    · rw [DM.bytes_put]
                      have := (DM.raw_ok hr3.disk.ok HR.out).2.2.1
                      simp only [DM.bytes, this] at hr5 ⊢
                      simp only [List.length_append, List.length_take, List.length_drop]
                      omega
                    · have := (DM.raw_ok hr3.disk.ok HR.out).2.1
                      simp only [DM.put, this, List.length_drop]
                      omega
                    · rw [DM.get_put] at e; cases e
                  case measure => simp [lenOfV]; omega
              · skip
                have hsh := (bytes_high hr1r (k := rest.length) (by omega)).1
                have hph := (bytes_high hr1r (k := rest.length) (by omega)).2
                obtain ⟨a2, hsl, hrl, hrb, ha2⟩ := bytes_low hr1 (k := rest.length) (by omega)
                have HA2 := Lib.hid ha2; clear ha2
                obtain ⟨w4, hw4, hk4, hsz4, hBp⟩ := one_new wr (.slice a' rest.length c') 25
                have hBd4 := hk4.cell hBdr (fun h => h)
                have hBn4 := hk4.cell hBnr (fun h => h)
                have hne : rest ≠ [] := fun e => hrz (by rw [e]; rfl)
                have hblt := hr1.block_lt hne
                have hd4 : DiskAt w4 b m es1 clock1 D1 := hr3.disk.kept hk4 (fun _ _ hf => hf)
                have hn1 : ∀ k, ¬ diskF b m es k → k < w3.heap.size → ¬ diskF b m es1 k := fun k h1 h2 hf => by
                  rcases hr3.foot k hf with h | h
                  · exact h1 h
                  · omega
                have hph4 := hph.keptF hk4 (fun _ _ hf => hf)
                go_wp2_with fail
                cases hraw : D1.raw with
                | none =>
                  have HR := Lib.hid hraw
                  refine (raw_no hd4 hraw _).mono ?_
                  clear hraw
                  rintro e w5 ⟨rfl, rfl⟩
                  clear hsh hsl hw4
                  go_wp2
                  (try rw [Exit.noGoto_ret])
                  go_ret
                  have e1 : D.append s bs = (6, D1) := by rw [show D.append s bs = DM.pieces s bs D from by unfold DM.append; rw [if_neg (by rw [HM.out]; simp), if_neg (fun e => by rw [HG.out] at e; cases e.1), if_neg hbig, if_neg (fun e => by rw [HG.out] at e; cases e.2)]]; rw [← hr4.out]; exact DM.pieces_no hne HR.out
                  rw [e1]
                  exact ⟨rfl, es1, clock1, DiskAfter.of_kept hk3 (hr3.after hk4)⟩
                | some D1' =>
                  have HR := Lib.hid hraw
                  refine (raw_app2 hd4 hraw (by omega) w.heap.size (w.heap.size + 1) wr.heap.size s (.slice a' rest.length c') (rest.take rest.length) hBd4 hBn4 hBp
                    (hn1 _ (hnF _ (Nat.le_refl _)) (by omega)) (hn1 _ (hnF _ (Nat.le_succ _)) (by omega)) (fun hf => by have := hr3.disk.lt _ hf; omega) hph4 (fun g hg => hn1 g (hr2 hne g ((ob_same _ _ _ _ _).trans hg)) (hblt g ((ob_same _ _ _ _ _).trans hg))) HM.out hr7 (by simp only [List.length_take]; omega)).mono ?_
                  clear hraw
                  rintro e w5 ⟨rfl, es2, clock2, hr8⟩
                  clear hsh hsl hw4
                  go_wp2
                  go_roundw
                  case rel =>
                    refine ⟨a2, c' - rest.length, rest.drop rest.length, es2, clock2, _, by first | (simp; done) | (rw [HA2.out, if_neg (by omega)]; simp [Addr.add]), by simpa using hrl, fun _ g hg => hr2 hne g (hrb g ((ob_same _ _ _ _ _).trans hg)), rfl, hr3.trans (DiskAfter.of_kept hk4 hr8), ?_, ?_, ?_, fun e => ?_⟩
                    · rw [← hr4.out]; exact (DM.pieces_step hne HR.out (by omega)).symm
                    · rw [DM.bytes_put]
                      have := (DM.raw_ok hr3.disk.ok HR.out).2.2.1
                      simp only [DM.bytes, this] at hr5 ⊢
                      simp only [List.length_append, List.length_take, List.length_drop]
                      omega
                    · have := (DM.raw_ok hr3.disk.ok HR.out).2.1
                      simp only [DM.put, this, List.length_drop]
                      omega
                    · rw [DM.get_put] at e; cases e
                  case measure => simp [lenOfV]; omega
        · have hzb : ((bs.length : Int) == 0) = false := by simp; intro e; rw [e] at hz; exact hz rfl
          go_wp2_with fail
          have h3 : DiskAt (w2.drewN nq) b m es clock D := h1.kept ((Kept.refl (fun _ => False) _).drewN nq) (fun _ _ hf => hf)
          have hk3 : Kept (fun _ => False) w (w2.drewN nq) := hk.drewN nq
          have hBd3 : (w2.drewN nq).cell? ⟨w.heap.size, 0, none⟩ = some (.pointer (some ⟨b, 0, none⟩)) := hBd
          have hBn3 : (w2.drewN nq).cell? ⟨w.heap.size + 1, 0, none⟩ = some (.string s) := hBn
          have hv3 : IsB (w2.drewN nq) (.slice a bs.length c) bs := hv2.kept (Nat.le_refl _) (fun _ _ => rfl)
          have hsz3 : (w2.drewN nq).heap.size = w.heap.size + 2 := hsz
          clear hl hlen hl2 hold holdf ho hBd hBn hv2 h1 hk hc0 hfalse
          generalize w2.drewN nq = w3 at *
          go_step3
          go_wp2_with fail
          go_loopw [2, 6] (fun v2 v6 wr => ∃ (a' : Option Addr) (c' : Nat) (rest : List UInt8) (es1 : Array MapEntry) (clock1 : Nat) (D1 : DM), v2 = .slice a' rest.length c' ∧ IsB w3 (.slice a' rest.length c') rest ∧ (rest ≠ [] → ∀ g, (Value.slice a' rest.length c').ownBlock = some g → ¬ diskF b m es g) ∧ v6 = .int .i64 0 ∧
              DiskAfter w3 b m es D1 wr es1 clock1 ∧ Hid (DM.pieces s rest D1 = DM.pieces s bs D) ∧ (D1.bytes s).length + rest.length ≤ 4194304 ∧ D1.writes + rest.length < 2305843009213693952 + 4194304 ∧ (getA s D1.files = none → D1.files.length < 256))
            (fun v2 _ _ => lenOfV v2)
          case atStart => exact ⟨a, c, bs, es, clock, D, rfl, hv3, hsep, rfl, ⟨h3, fun _ hk => .inl hk, Kept.refl _ _⟩, rfl, by omega, by omega, fun e => by rw [HG.out] at e; cases e⟩
          case round =>
            obtain ⟨a', c', rest, es1, clock1, D1, rfl, hr1, hr2, rfl, hr3, hr4, hr5, hr6, hr7⟩ := hrel
            have hbd1 := hr1
            obtain ⟨_, _, _, hcr, hcm, _⟩ := hbd1
            have hwr : Kept (diskF b m es) w3 wr := hr3.kept
            have hwsz : w.heap.size + 2 ≤ wr.heap.size := by have := hwr.size; omega
            have hnF : ∀ k, w.heap.size ≤ k → ¬ diskF b m es k := fun k hk hf => by have := hlt k hf; omega
            have hBdr := hwr.cell hBd3 (hnF _ (Nat.le_refl _))
            have hBnr := hwr.cell hBn3 (hnF _ (Nat.le_succ _))
            have hr1r := hr1.keptS hwr hr2
            by_cases hrz : rest.length = 0
            · obtain rfl : rest = [] := List.length_eq_zero_iff.1 hrz
              go_wp2
              (try rw [Exit.noGoto_ret])
              go_ret
              have e1 : D.append s bs = (0, D1) := by rw [show D.append s bs = DM.pieces s bs D from by unfold DM.append; rw [if_neg (by rw [HM.out]; simp), if_neg (fun e => by rw [HG.out] at e; cases e.1), if_neg hbig, if_neg (fun e => by rw [HG.out] at e; cases e.2)]]; rw [← hr4.out]; exact DM.pieces_nil s D1
              rw [e1]
              exact ⟨rfl, es1, clock1, DiskAfter.of_kept hk3 hr3⟩
            · by_cases h32 : 32 < rest.length
              · skip
                have hsh := (bytes_high hr1r (k := 32) (by omega)).1
                have hph := (bytes_high hr1r (k := 32) (by omega)).2
                obtain ⟨a2, hsl, hrl, hrb, ha2⟩ := bytes_low hr1 (k := 32) (by omega)
                have HA2 := Lib.hid ha2; clear ha2
                obtain ⟨w4, hw4, hk4, hsz4, hBp⟩ := one_new wr (.slice a' 32 c') 25
                have hBd4 := hk4.cell hBdr (fun h => h)
                have hBn4 := hk4.cell hBnr (fun h => h)
                have hne : rest ≠ [] := fun e => hrz (by rw [e]; rfl)
                have hblt := hr1.block_lt hne
                have hd4 : DiskAt w4 b m es1 clock1 D1 := hr3.disk.kept hk4 (fun _ _ hf => hf)
                have hn1 : ∀ k, ¬ diskF b m es k → k < w3.heap.size → ¬ diskF b m es1 k := fun k h1 h2 hf => by
                  rcases hr3.foot k hf with h | h
                  · exact h1 h
                  · omega
                have hph4 := hph.keptF hk4 (fun _ _ hf => hf)
                go_wp2_with fail
                cases hraw : D1.raw with
                | none =>
                  have HR := Lib.hid hraw
                  refine (raw_no hd4 hraw _).mono ?_
                  clear hraw
                  rintro e w5 ⟨rfl, rfl⟩
                  clear hsh hsl hw4
                  go_wp2
                  (try rw [Exit.noGoto_ret])
                  go_ret
                  have e1 : D.append s bs = (6, D1) := by rw [show D.append s bs = DM.pieces s bs D from by unfold DM.append; rw [if_neg (by rw [HM.out]; simp), if_neg (fun e => by rw [HG.out] at e; cases e.1), if_neg hbig, if_neg (fun e => by rw [HG.out] at e; cases e.2)]]; rw [← hr4.out]; exact DM.pieces_no hne HR.out
                  rw [e1]
                  exact ⟨rfl, es1, clock1, DiskAfter.of_kept hk3 (hr3.after hk4)⟩
                | some D1' =>
                  have HR := Lib.hid hraw
                  refine (raw_app2 hd4 hraw (by omega) w.heap.size (w.heap.size + 1) wr.heap.size s (.slice a' 32 c') (rest.take 32) hBd4 hBn4 hBp
                    (hn1 _ (hnF _ (Nat.le_refl _)) (by omega)) (hn1 _ (hnF _ (Nat.le_succ _)) (by omega)) (fun hf => by have := hr3.disk.lt _ hf; omega) hph4 (fun g hg => hn1 g (hr2 hne g ((ob_same _ _ _ _ _).trans hg)) (hblt g ((ob_same _ _ _ _ _).trans hg))) HM.out hr7 (by simp only [List.length_take]; omega)).mono ?_
                  clear hraw
                  rintro e w5 ⟨rfl, es2, clock2, hr8⟩
                  clear hsh hsl hw4
                  go_wp2
                  go_roundw
                  case rel =>
                    refine ⟨a2, c' - 32, rest.drop 32, es2, clock2, _, by first | (simp; done) | (rw [HA2.out, if_neg (by omega)]; simp [Addr.add]), by simpa using hrl, fun _ g hg => hr2 hne g (hrb g ((ob_same _ _ _ _ _).trans hg)), rfl, hr3.trans (DiskAfter.of_kept hk4 hr8), ?_, ?_, ?_, fun e => ?_⟩
                    · rw [← hr4.out]; exact (DM.pieces_step hne HR.out (by omega)).symm
                    · rw [DM.bytes_put]
                      have := (DM.raw_ok hr3.disk.ok HR.out).2.2.1
                      simp only [DM.bytes, this] at hr5 ⊢
                      simp only [List.length_append, List.length_take, List.length_drop]
                      omega
                    · have := (DM.raw_ok hr3.disk.ok HR.out).2.1
                      simp only [DM.put, this, List.length_drop]
                      omega
                    · rw [DM.get_put] at e; cases e
                  case measure => simp [lenOfV]; omega
              · skip
                have hsh := (bytes_high hr1r (k := rest.length) (by omega)).1
                have hph := (bytes_high hr1r (k := rest.length) (by omega)).2
                obtain ⟨a2, hsl, hrl, hrb, ha2⟩ := bytes_low hr1 (k := rest.length) (by omega)
                have HA2 := Lib.hid ha2; clear ha2
                obtain ⟨w4, hw4, hk4, hsz4, hBp⟩ := one_new wr (.slice a' rest.length c') 25
                have hBd4 := hk4.cell hBdr (fun h => h)
                have hBn4 := hk4.cell hBnr (fun h => h)
                have hne : rest ≠ [] := fun e => hrz (by rw [e]; rfl)
                have hblt := hr1.block_lt hne
                have hd4 : DiskAt w4 b m es1 clock1 D1 := hr3.disk.kept hk4 (fun _ _ hf => hf)
                have hn1 : ∀ k, ¬ diskF b m es k → k < w3.heap.size → ¬ diskF b m es1 k := fun k h1 h2 hf => by
                  rcases hr3.foot k hf with h | h
                  · exact h1 h
                  · omega
                have hph4 := hph.keptF hk4 (fun _ _ hf => hf)
                go_wp2_with fail
                cases hraw : D1.raw with
                | none =>
                  have HR := Lib.hid hraw
                  refine (raw_no hd4 hraw _).mono ?_
                  clear hraw
                  rintro e w5 ⟨rfl, rfl⟩
                  clear hsh hsl hw4
                  go_wp2
                  (try rw [Exit.noGoto_ret])
                  go_ret
                  have e1 : D.append s bs = (6, D1) := by rw [show D.append s bs = DM.pieces s bs D from by unfold DM.append; rw [if_neg (by rw [HM.out]; simp), if_neg (fun e => by rw [HG.out] at e; cases e.1), if_neg hbig, if_neg (fun e => by rw [HG.out] at e; cases e.2)]]; rw [← hr4.out]; exact DM.pieces_no hne HR.out
                  rw [e1]
                  exact ⟨rfl, es1, clock1, DiskAfter.of_kept hk3 (hr3.after hk4)⟩
                | some D1' =>
                  have HR := Lib.hid hraw
                  refine (raw_app2 hd4 hraw (by omega) w.heap.size (w.heap.size + 1) wr.heap.size s (.slice a' rest.length c') (rest.take rest.length) hBd4 hBn4 hBp
                    (hn1 _ (hnF _ (Nat.le_refl _)) (by omega)) (hn1 _ (hnF _ (Nat.le_succ _)) (by omega)) (fun hf => by have := hr3.disk.lt _ hf; omega) hph4 (fun g hg => hn1 g (hr2 hne g ((ob_same _ _ _ _ _).trans hg)) (hblt g ((ob_same _ _ _ _ _).trans hg))) HM.out hr7 (by simp only [List.length_take]; omega)).mono ?_
                  clear hraw
                  rintro e w5 ⟨rfl, es2, clock2, hr8⟩
                  clear hsh hsl hw4
                  go_wp2
                  go_roundw
                  case rel =>
                    refine ⟨a2, c' - rest.length, rest.drop rest.length, es2, clock2, _, by first | (simp; done) | (rw [HA2.out, if_neg (by omega)]; simp [Addr.add]), by simpa using hrl, fun _ g hg => hr2 hne g (hrb g ((ob_same _ _ _ _ _).trans hg)), rfl, hr3.trans (DiskAfter.of_kept hk4 hr8), ?_, ?_, ?_, fun e => ?_⟩
                    · rw [← hr4.out]; exact (DM.pieces_step hne HR.out (by omega)).symm
                    · rw [DM.bytes_put]
                      have := (DM.raw_ok hr3.disk.ok HR.out).2.2.1
                      simp only [DM.bytes, this] at hr5 ⊢
                      simp only [List.length_append, List.length_take, List.length_drop]
                      omega
                    · have := (DM.raw_ok hr3.disk.ok HR.out).2.1
                      simp only [DM.put, this, List.length_drop]
                      omega
                    · rw [DM.get_put] at e; cases e
                  case measure => simp [lenOfV]; omega
end
end Go.Proofs.YtemilbemdlpkaaaGreatDoor
