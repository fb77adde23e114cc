/- disk: the model (files as a list of pairs), and what it means that a disk lies at a block. -/
import Derived.Test.YtinmjgaaehdicaaDiskA
namespace Go.Proofs.Ytinmjgaaehdicaa
open Go.RowKit Go.ChangeMaps Go.MapKept

/-- A disk, as plain data. -/
structure DM where
  files : List (ByteArray × List UInt8)
  writes : Int
  left : Int
  cut : Bool

def DM.raw (D : DM) : Option DM :=
  if D.cut = true then (if D.left = 0 then none else some { D with left := D.left - 1, writes := D.writes + 1 }) else some { D with writes := D.writes + 1 }

def DM.bytes (D : DM) (s : ByteArray) : List UInt8 := (getA s D.files).getD []
def DM.put (D : DM) (s : ByteArray) (x : List UInt8) : DM := { D with files := putA s x D.files }
def DM.del (D : DM) (s : ByteArray) : DM := { D with files := delA s D.files }

def DM.pieces (s : ByteArray) (bs : List UInt8) (D : DM) : Int × DM :=
  if _h : bs = [] then (0, D) else
    match D.raw with
    | none => (6, D)
    | some D' => DM.pieces s (bs.drop 32) (D'.put s (D'.bytes s ++ bs.take 32))
termination_by bs.length
decreasing_by
  have : 0 < bs.length := List.length_pos_iff.2 (by assumption)
  simp only [List.length_drop]; omega

def DM.append (D : DM) (s : ByteArray) (bs : List UInt8) : Int × DM :=
  if mayB s = false then (2, D)
  else if getA s D.files = none ∧ D.files.length = 256 then (3, D)
  else if 4194304 < (D.bytes s).length + bs.length then (3, D)
  else if bs = [] ∧ getA s D.files = none then
    match D.raw with
    | none => (6, D)
    | some D' => (0, D'.put s [])
  else DM.pieces s bs D

theorem DM.pieces_nil (s : ByteArray) (D : DM) : DM.pieces s [] D = (0, D) := by rw [DM.pieces]; simp
theorem DM.pieces_no {s : ByteArray} {bs : List UInt8} {D : DM} (h : bs ≠ []) (hr : D.raw = none) : DM.pieces s bs D = (6, D) := by rw [DM.pieces]; simp [h, hr]
theorem DM.pieces_step {s : ByteArray} {bs : List UInt8} {D D' : DM} (h : bs ≠ []) (hr : D.raw = some D') {k : Nat} (hk : k = 32 ∨ (k = bs.length ∧ bs.length ≤ 32)) :
    DM.pieces s bs D = DM.pieces s (bs.drop k) (D'.put s (D'.bytes s ++ bs.take k)) := by
  rw [DM.pieces]
  simp only [h, dite_false, hr]
  rcases hk with rfl | ⟨rfl, h32⟩
  · rfl
  · rw [List.take_of_length_le h32, List.drop_eq_nil_of_le h32]; simp
theorem DM.bytes_put (D : DM) (s : ByteArray) (x : List UInt8) : (D.put s x).bytes s = x := by simp [DM.bytes, DM.put, getA_putA_same]
theorem DM.get_put (D : DM) (s : ByteArray) (x : List UInt8) : getA s (D.put s x).files = some x := by simp [DM.put, getA_putA_same]

structure DM.Ok (D : DM) : Prop where
  w0 : 0 ≤ D.writes
  l0 : 0 ≤ D.left
  l1 : D.left ≤ 9223372036854775807
  count : D.files.length ≤ 256
  names : ∀ p ∈ D.files, mayB p.1 = true ∧ p.2.length ≤ 4194304
  nodup : NodupA D.files

theorem DM.raw_ok {D D' : DM} (h : D.Ok) (hr : D.raw = some D') : D'.Ok ∧ D'.writes = D.writes + 1 ∧ D'.files = D.files ∧ D'.cut = D.cut := by
  obtain ⟨h1, h2, h3, h4, h5, h6⟩ := h
  unfold DM.raw at hr
  split at hr
  · split at hr
    · cases hr
    · cases hr; exact ⟨⟨by simp only []; omega, by simp only []; omega, by simp only []; omega, h4, h5, h6⟩, rfl, rfl, rfl⟩
  · cases hr; exact ⟨⟨by simp only []; omega, h2, h3, h4, h5, h6⟩, rfl, rfl, rfl⟩

theorem DM.put_ok {D : DM} (h : D.Ok) {s : ByteArray} {x : List UInt8} (hs : mayB s = true) (hx : x.length ≤ 4194304) (hc : getA s D.files = none → D.files.length < 256) : (D.put s x).Ok := by
  obtain ⟨h1, h2, h3, h4, h5, h6⟩ := h
  refine ⟨h1, h2, h3, ?_, fun p hp => ?_, h6.put s x⟩
  · simp only [DM.put, length_putA]
    cases hg : getA s D.files with
    | none => have := hc hg; simp; omega
    | some y => simpa using h4
  · rcases mem_putA hp with rfl | hp
    · exact ⟨hs, hx⟩
    · exact h5 p hp

theorem DM.del_ok {D : DM} (h : D.Ok) (s : ByteArray) : (D.del s).Ok := by
  obtain ⟨h1, h2, h3, h4, h5, h6⟩ := h
  refine ⟨h1, h2, h3, ?_, fun p hp => h5 p (mem_delA hp), h6.del s⟩
  simp only [DM.del, length_delA]
  split <;> omega

theorem DM.bytes_le {D : DM} (h : D.Ok) (s : ByteArray) : (D.bytes s).length ≤ 4194304 := by
  unfold DM.bytes
  cases hg : getA s D.files with
  | none => simp
  | some y => exact (h.names _ (getA_mem hg)).2

/-- A disk at block b, its map at block m, with these entries. -/
structure DiskAt (w : World) (b m : Nat) (es : Array MapEntry) (clock : Nat) (D : DM) : Prop where
  cell : w.heap[b]? = some (.cells #[.map (some m), .int .i64 D.writes, .int .i64 D.left, .bool D.cut] 87 (0, 0))
  map : w.heap[m]? = some (.map es clock)
  stamped : Stamped es clock
  rel : RelM Value.string (OwnB w) es.toList D.files
  apart : ∀ e ∈ es.toList, ∀ e' ∈ es.toList, e.key ≠ e'.key → ∀ g, e.val.ownBlock = some g → e'.val.ownBlock ≠ some g
  ok : D.Ok

/-- The blocks of a disk. -/
def diskF (b m : Nat) (es : Array MapEntry) (k : Nat) : Prop := k = b ∨ k = m ∨ ∃ e ∈ es.toList, e.val.ownBlock = some k

section
variable {w w' : World} {b m : Nat} {es : Array MapEntry} {clock : Nat} {D : DM}

theorem DiskAt.bm (h : DiskAt w b m es clock D) : b ≠ m := by
  intro e; have := h.cell; rw [e, h.map] at this; cases this

theorem DiskAt.own (h : DiskAt w b m es clock D) {e : MapEntry} (he : e ∈ es.toList) {g : Nat} (hg : e.val.ownBlock = some g) : g ≠ b ∧ g ≠ m ∧ g < w.heap.size := by
  obtain ⟨p, _, _, hO⟩ := h.rel.mem e he
  rcases hO.2 with ⟨hv, _⟩ | ⟨g', cap, cur, hv, _, hh, _⟩
  · rw [hv] at hg; cases hg
  · rw [hv] at hg
    obtain rfl : g' = g := by simpa [Value.ownBlock] using hg
    refine ⟨?_, ?_, (Array.getElem?_eq_some_iff.1 hh).1⟩
    · intro e; rw [e, h.cell] at hh
      have h2 := congrArg (fun o => match o with | some (Obj.cells _ t _) => t | _ => 0) hh
      simp at h2
    · intro e; rw [e, h.map] at hh; cases hh

theorem DiskAt.lt (h : DiskAt w b m es clock D) : ∀ k, diskF b m es k → k < w.heap.size := by
  rintro k (rfl | rfl | ⟨e, he, hg⟩)
  · exact (Array.getElem?_eq_some_iff.1 h.cell).1
  · exact (Array.getElem?_eq_some_iff.1 h.map).1
  · exact (h.own he hg).2.2

/-- What is done elsewhere leaves a disk as it is. -/
theorem DiskAt.kept (h : DiskAt w b m es clock D) {G : Nat → Prop} (hk : Kept G w w') (hG : ∀ k, diskF b m es k → ¬ G k) : DiskAt w' b m es clock D := by
  have hb : ∀ k, diskF b m es k → w'.heap[k]? = w.heap[k]? := fun k hf => hk.block k (h.lt k hf) (hG k hf)
  refine ⟨(hb b (.inl rfl)).trans h.cell, (hb m (.inr (.inl rfl))).trans h.map, h.stamped, ?_, h.apart, h.ok⟩
  exact h.rel.mono fun e he bs ho => OwnB.kept ho fun g hg => hb g (.inr (.inr ⟨e, he, hg⟩))

theorem DiskAt.c0 (h : DiskAt w b m es clock D) : w.cell? ⟨b, 0, none⟩ = some (.map (some m)) := by simp [World.cell?, h.cell]
theorem DiskAt.c1 (h : DiskAt w b m es clock D) : w.cell? ⟨b, 1, none⟩ = some (.int .i64 D.writes) := by simp [World.cell?, h.cell]
theorem DiskAt.c2 (h : DiskAt w b m es clock D) : w.cell? ⟨b, 2, none⟩ = some (.int .i64 D.left) := by simp [World.cell?, h.cell]
theorem DiskAt.c3 (h : DiskAt w b m es clock D) : w.cell? ⟨b, 3, none⟩ = some (.bool D.cut) := by simp [World.cell?, h.cell]
theorem DiskAt.fr (h : DiskAt w b m es clock D) (i : Nat) : w.frozen? ⟨b, i, none⟩ = false := by simp [World.frozen?, h.cell]

/-- The disk's own cells are written. -/
theorem DiskAt.cells (h : DiskAt w b m es clock D) {D' : DM} (hf : D'.files = D.files) (ho : D'.Ok) (hk : Kept (· = b) w w')
    (hc : w'.heap[b]? = some (.cells #[.map (some m), .int .i64 D'.writes, .int .i64 D'.left, .bool D'.cut] 87 (0, 0))) : DiskAt w' b m es clock D' := by
  refine ⟨hc, (hk.block m ((h.lt m (.inr (.inl rfl)))) (Ne.symm h.bm)).trans h.map, h.stamped, ?_, h.apart, ho⟩
  rw [hf]
  exact h.rel.mono fun e he bs hO => OwnB.kept hO fun g hg => hk.block g (h.own he hg).2.2 (h.own he hg).1

/-- A file's bytes are put, in a world w1 in which only that file's own block may have been written. -/
theorem DiskAt.put (h : DiskAt w b m es clock D) {s : ByteArray} {w1 : World} {v' : Value} {x : List UInt8} {row : Option Nat}
    (hg : w.grownBy w1 row) (hrow : ∀ g, row = some g → (∃ e ∈ es.toList, e.key = .string s ∧ e.val.ownBlock = some g) ∨ w.heap.size ≤ g) (hv : OwnB w1 v' x) (hnew : ∀ g, v'.ownBlock = some g → (∃ e ∈ es.toList, e.key = .string s ∧ e.val.ownBlock = some g) ∨ w.heap.size ≤ g)
    (ho : (D.put s x).Ok) :
    ∃ es' clock', (Instr.mapUpdate 85 (.map (some m)) (.string s) v').run Try.prog w1 = .ok () (setBlock w1 m (.map es' clock')) ∧
      DiskAt (setBlock w1 m (.map es' clock')) b m es' clock' (D.put s x) ∧ (∀ k, diskF b m es' k → diskF b m es k ∨ w.heap.size ≤ k) ∧ Kept (diskF b m es) w (setBlock w1 m (.map es' clock')) := by
  have hblk : ∀ k, diskF b m es k → (∀ e ∈ es.toList, e.key = .string s → e.val.ownBlock ≠ some k) → w1.heap[k]? = w.heap[k]? := by
    intro k hf hn
    refine hg.block k (h.lt k hf) (fun e => ?_)
    rcases hrow k e.symm with ⟨e', he', hk', hg'⟩ | hge
    · exact hn e' he' hk' hg'
    · have := h.lt k hf; omega
  have hb1 : w1.heap[b]? = w.heap[b]? := hblk b (.inl rfl) fun e he _ hg => (h.own he hg).1 rfl
  have hm1 : w1.heap[m]? = w.heap[m]? := hblk m (.inr (.inl rfl)) fun e he _ hg => (h.own he hg).2.1 rfl
  have hother : ∀ e ∈ es.toList, e.key ≠ .string s → ∀ bs, OwnB w e.val bs → OwnB w1 e.val bs := by
    intro e he hne bs hO
    refine OwnB.kept hO fun g hgo => hblk g (.inr (.inr ⟨e, he, hgo⟩)) fun e' he' hk' hg' => ?_
    exact h.apart e he e' he' (by rw [hk']; exact hne) g hgo hg'
  obtain ⟨es', clock', hrun, hrel, hst, hmem⟩ := run_mapUpdate_rel (m := m) (R' := OwnB w1) (keyEnc_string Try.underlying9) Try.underlying85 h.rel h.stamped s v' x hv hother
  have hsz : w.heap.size ≤ w1.heap.size := hg.size
  have hmlt : m < w1.heap.size := by have := h.lt m (.inr (.inl rfl)); omega
  have hF : ∀ k, diskF b m es' k → diskF b m es k ∨ w.heap.size ≤ k := by
    rintro k (rfl | rfl | ⟨e, he, hgo⟩)
    · exact .inl (.inl rfl)
    · exact .inl (.inr (.inl rfl))
    · rcases hmem e he with ⟨hv', hk'⟩ | ⟨he', _⟩
      · rw [hv'] at hgo
        rcases hnew k hgo with ⟨e', he', _, hg'⟩ | hge
        · exact .inl (.inr (.inr ⟨e', he', hg'⟩))
        · exact .inr hge
      · exact .inl (.inr (.inr ⟨e, he', hgo⟩))
  have hne' : ∀ e ∈ es'.toList, ∀ g, e.val.ownBlock = some g → g ≠ m ∧ g ≠ b := by
    intro e he g hgo
    rcases hmem e he with ⟨hv', hk'⟩ | ⟨he', _⟩
    · rw [hv'] at hgo
      rcases hnew g hgo with ⟨e', he', _, hg'⟩ | hge
      · exact ⟨(h.own he' hg').2.1, (h.own he' hg').1⟩
      · have h1 := h.lt m (.inr (.inl rfl)); have h2 := h.lt b (.inl rfl); omega
    · exact ⟨(h.own he' hgo).2.1, (h.own he' hgo).1⟩
  refine ⟨es', clock', hrun w1 (hm1.trans h.map), ⟨?_, ?_, hst, ?_, ?_, ho⟩, hF, ?_⟩
  · rw [heap_setBlock_ne h.bm, hb1]; exact h.cell
  · simp [ChangeMaps.setBlock, hmlt]
  · exact hrel.mono fun e he bs hO => OwnB.kept hO fun g hgo => heap_setBlock_ne (hne' e he g hgo).1 _
  · intro e he e' he' hne g hgo hgo'
    rcases hmem e he with ⟨hv1, hk1⟩ | ⟨he1, hn1⟩ <;> rcases hmem e' he' with ⟨hv2, hk2⟩ | ⟨he2, hn2⟩
    · exact hne (hk1.trans hk2.symm)
    · rw [hv1] at hgo
      rcases hnew g hgo with ⟨e'', h1, h2, h3⟩ | hge
      · exact h.apart e'' h1 e' he2 (by rw [h2]; exact Ne.symm hn2) g h3 hgo'
      · have := (h.own he2 hgo').2.2; omega
    · rw [hv2] at hgo'
      rcases hnew g hgo' with ⟨e'', h1, h2, h3⟩ | hge
      · exact h.apart e'' h1 e he1 (by rw [h2]; exact Ne.symm hn1) g h3 hgo
      · have := (h.own he1 hgo).2.2; omega
    · exact h.apart e he1 e' he2 hne g hgo hgo'
  · refine Kept.setBlock (((Kept.refl _ w).grown hg ?_)) (fun _ => .inr (.inl rfl)) _
    intro k hk hlt
    rcases hrow k hk with ⟨e, he, _, hgo⟩ | hge
    · exact .inr (.inr ⟨e, he, hgo⟩)
    · omega

/-- A file is looked up, in whatever world in which the map lies. -/
theorem DiskAt.lookW (h : DiskAt w b m es clock D) (s : ByteArray) (ok : Bool) :
    ∃ v, (∀ w' : World, w'.heap[m]? = some (.map es clock) → (Instr.lookup 85 (.map (some m)) (.string s) ok).run Try.prog w' = .ok (if ok then .tuple #[v, .bool (getA s D.files).isSome] else v) w') ∧
      OwnB w v (D.bytes s) ∧ (∀ g, v.ownBlock = some g → ∃ e ∈ es.toList, e.key = .string s ∧ e.val.ownBlock = some g) ∧ (getA s D.files = none → v = .slice none 0 0) := by
  obtain ⟨v, hrun, hv⟩ := run_lookup_rel (m := m) (clock := clock) (keyEnc_string Try.underlying9) Try.underlying85 zero_bytes h.rel s ok
  refine ⟨v, hrun, ?_⟩
  rcases hv with ⟨h1, rfl⟩ | ⟨bs, e, h1, h2, h3, h4, rfl⟩
  · refine ⟨by unfold DM.bytes; rw [h1]; exact World.ownsRow_nil _ _ _ _, fun g hg => (by cases hg), fun _ => rfl⟩
  · refine ⟨by unfold DM.bytes; rw [h1]; exact h2, fun g hg => ⟨e, h3, h4, hg⟩, fun hn => (by rw [hn] at h1; cases h1)⟩

theorem DiskAt.look (h : DiskAt w b m es clock D) (s : ByteArray) (ok : Bool) :
    ∃ v, (∀ n, (Instr.lookup 85 (.map (some m)) (.string s) ok).run Try.prog (w.drewN n) = .ok (if ok then .tuple #[v, .bool (getA s D.files).isSome] else v) (w.drewN n)) ∧
      OwnB w v (D.bytes s) ∧ (∀ g, v.ownBlock = some g → ∃ e ∈ es.toList, e.key = .string s ∧ e.val.ownBlock = some g) ∧ (getA s D.files = none → v = .slice none 0 0) := by
  obtain ⟨v, hrun, hv⟩ := h.lookW s ok
  exact ⟨v, fun n => hrun (w.drewN n) h.map, hv⟩
end
end Go.Proofs.Ytinmjgaaehdicaa
