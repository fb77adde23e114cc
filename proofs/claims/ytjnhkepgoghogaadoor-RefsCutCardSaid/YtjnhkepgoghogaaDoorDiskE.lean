/- disk: Copy. -/
import Derived.Test.YtjnhkepgoghogaaDoorDiskD
import Derived.Test.YtjnhkepgoghogaaDoorIter
namespace Go.Proofs.YtjnhkepgoghogaaDoor
open Go.RowKit Go.ChangeMaps Go.MapKept

theorem Kept.grownBy {w w' : World} (h : Kept (fun _ => False) w w') (row : Option Nat) : w.grownBy w' row := ⟨h.os, h.tape, h.output, h.size, fun k hk _ => h.block k hk (fun f => f)⟩

theorem getA_of_mem {α β : Type} [DecidableEq α] {l : List (α × β)} (h : NodupA l) {k : α} {v : β} (hm : (k, v) ∈ l) : getA k l = some v := by
  induction l with
  | nil => cases hm
  | cons p l ih =>
    simp only [NodupA, List.map_cons, List.nodup_cons, List.mem_map] at h
    rcases List.mem_cons.1 hm with rfl | hm
    · simp [getA]
    · have : p.1 ≠ k := fun e => h.1 ⟨(k, v), hm, e.symm⟩
      simp [getA, this, ih h.2 hm]

/-- What a copy has when these entries have come. -/
structure CopyRel (D : DM) (vis : List MapEntry) (files2 : List (ByteArray × List UInt8)) : Prop where
  got : ∀ s x, getA s files2 = some x → getA s D.files = some x ∧ ∃ e ∈ vis, e.key = .string s
  all : ∀ e ∈ vis, ∀ s, e.key = .string s → (getA s files2).isSome = true
  len : files2.length = vis.length

theorem CopyRel.step {D : DM} {vis : List MapEntry} {files2 : List (ByteArray × List UInt8)} (h : CopyRel D vis files2) {e : MapEntry} {s : ByteArray} {x : List UInt8} (he : e.key = .string s) (hx : getA s D.files = some x) (hnew : ∀ y ∈ vis, y.key ≠ e.key) :
    CopyRel D (vis ++ [e]) (putA s x files2) := by
  have hnone : getA s files2 = none := by
    cases hg : getA s files2 with
    | none => rfl
    | some y =>
      obtain ⟨_, e', he', hk'⟩ := h.got s y hg
      exact absurd (hk'.trans he.symm) (hnew e' he')
  refine ⟨fun t y hy => ?_, fun e' he' t ht => ?_, ?_⟩
  · by_cases hts : t = s
    · subst hts
      rw [getA_putA_same] at hy
      cases hy
      exact ⟨hx, e, by simp, he⟩
    · rw [getA_putA_ne hts] at hy
      obtain ⟨h1, e', h2, h3⟩ := h.got t y hy
      exact ⟨h1, e', by simp [h2], h3⟩
  · rcases List.mem_append.1 he' with he' | he'
    · by_cases hts : t = s
      · subst hts; rw [getA_putA_same]; rfl
      · rw [getA_putA_ne hts]; exact h.all e' he' t ht
    · rw [List.mem_singleton.1 he', he] at ht
      cases ht
      rw [getA_putA_same]; rfl
  · rw [length_putA, hnone, h.len]; simp

/-- The same files, told in whatever order. -/
structure DM.Same (D D' : DM) : Prop where
  files : ∀ s, getA s D.files = getA s D'.files
  len : D.files.length = D'.files.length

section
variable {w : World} {b m : Nat} {es : Array MapEntry} {clock : Nat} {D : DM}

/-- A new disk. -/
structure NewDisk (w : World) (D' : DM) (w' : World) (b' m' : Nat) (es' : Array MapEntry) (clock' : Nat) : Prop where
  disk : DiskAt w' b' m' es' clock' D'
  new : ∀ k, diskF b' m' es' k → w.heap.size ≤ k
  kept : Kept (fun _ => False) w w'

set_option maxRecDepth 100000 in
theorem copy_any (h : DiskAt w b m es clock D) : Calls Tryd.prog 11 #[.pointer (some ⟨b, 0, none⟩)] w fun e w' =>
    ∃ b' m' es' clock' files', e = .returned (.pointer (some ⟨b', 0, none⟩)) ∧ NewDisk w ⟨files', 0, 0, false⟩ w' b' m' es' clock' ∧ DM.Same ⟨files', 0, 0, false⟩ D := by
  have c0 := h.c0
  go_enter Tryd.func11, Tryd.ntmps11
  go_wp2_with fail
  refine (new_any w).mono ?_
  rintro e w1 ⟨b1, m1, rfl, hb1, hm1, hd1, hk1⟩
  have h1 : DiskAt w1 b m es clock D := h.kept hk1 (fun _ _ hf => hf)
  have c01 := h1.c0
  clear c0
  have hrng := run_range_map (P := Tryd.prog) Tryd.underlying68 w1 h1.map
  have hit : IterAt (w1.alloc (.mapIter (some m) clock #[] clock)) w1.heap.size m es clock [] := IterAt.start
  have hk2 : Kept (fun _ => False) w1 (w1.alloc (.mapIter (some m) clock #[] clock)) := (Kept.refl _ _).alloc _
  have hsz1 : w1.heap.size < (w1.alloc (.mapIter (some m) clock #[] clock)).heap.size := by simp
  generalize w1.alloc (.mapIter (some m) clock #[] clock) = w2 at *
  have hd2 : DiskAt w2 b1 m1 #[] 0 ⟨[], 0, 0, false⟩ := hd1.kept hk2 (fun _ _ hf => hf)
  have hb1lt := hd1.lt b1 (.inl rfl)
  have hm1lt := hd1.lt m1 (.inr (.inl rfl))
  go_wp2
  go_loopw [4] (fun _ wr => ∃ vis es2 clock2 files2, IterAt wr w1.heap.size m es clock vis ∧ DiskAt wr b1 m1 es2 clock2 ⟨files2, 0, 0, false⟩ ∧ (∀ k, diskF b1 m1 es2 k → w.heap.size ≤ k ∧ k ≠ w1.heap.size) ∧ CopyRel D vis files2 ∧
      Kept (fun k => w.heap.size ≤ k) w wr ∧ w1.heap.size < wr.heap.size)
    (fun _ wr => es.size - iterSeen wr w1.heap.size)
  case atStart =>
    refine ⟨[], #[], 0, [], hit, hd2, ?_, ⟨fun _ _ e => (by cases e), fun _ e => (by cases e), rfl⟩, (hk1.trans hk2 (fun _ _ h => h)).mono (fun _ _ h => h.elim), hsz1⟩
    rintro k (rfl | rfl | ⟨e, he, _⟩)
    · exact ⟨hb1, by omega⟩
    · exact ⟨hm1, by omega⟩
    · simp at he
  case round =>
    obtain ⟨vis, es2, clock2, files2, hi, hdo, hfo, hcr, hkr, hszr⟩ := hrel
    have hdr : DiskAt wr b m es clock D := h.kept hkr (fun k hk hf => by have := h.lt k hk; omega)
    have hdr0 := hdo.c0
    rcases hi.next (P := Tryd.prog) hdr.map hdr.stamped 0 with ⟨hall, hn⟩ | ⟨e, he, hnew, w3, hn, hen, hi3, hk3, hsz3⟩
    · go_wp2
      go_ret
      refine ⟨b1, m1, es2, clock2, files2, rfl, ⟨hdo, fun k hk => (hfo k hk).1, ⟨hkr.os, hkr.tape, hkr.output, hkr.size, fun k hk _ => hkr.block k hk (by omega)⟩⟩, fun s => ?_, ?_⟩
      · show getA s files2 = getA s D.files
        cases hg : getA s files2 with
        | some x => exact (hcr.got s x hg).1.symm
        | none =>
          cases hg2 : getA s D.files with
          | none => rfl
          | some x =>
            obtain ⟨e, he, hek, _⟩ := h.rel.mem' _ (getA_mem hg2)
            have := hcr.all e (hall e he) s hek
            rw [hg] at this; cases this
      · show files2.length = D.files.length
        rw [hcr.len, hi.all_len h.stamped hall, ← h.rel.length]; simp
    · obtain ⟨p, hp, hek, hev⟩ := hdr.rel.mem e he
      have hgp : getA p.1 D.files = some p.2 := getA_of_mem h.ok.nodup hp
      have hpl := (h.ok.names p hp).2
      have hd3 : DiskAt w3 b1 m1 es2 clock2 ⟨files2, 0, 0, false⟩ := hdo.kept hk3 (fun k hk e => (hfo k hk).2 e)
      have hd30 := hd3.c0
      have hev3 : IsB w3 e.val p.2 := hev.isB.keptF hk3 (fun g hg e' => by
        have h1 := (h.own he hg).2.2
        have := hk1.size
        omega)
      have hput : ∀ v' w4, FreshB w3.drew v' p.2 w4 → ∃ es' clock', (Instr.mapUpdate 68 (.map (some m1)) (.string p.1) v').run Tryd.prog w4 = .ok () (setBlock w4 m1 (.map es' clock')) ∧
          DiskAt (setBlock w4 m1 (.map es' clock')) b1 m1 es' clock' ⟨putA p.1 p.2 files2, 0, 0, false⟩ ∧ (∀ k, diskF b1 m1 es' k → diskF b1 m1 es2 k ∨ w3.heap.size ≤ k) ∧ Kept (diskF b1 m1 es2) w3 (setBlock w4 m1 (.map es' clock')) := by
        intro v' w4 hf
        have hg := hf.kept.grownBy none
        refine hd3.put (s := p.1) (x := p.2) (row := none) ⟨hg.os, hg.tape, hg.output, hg.size, hg.block⟩ (fun g e => by cases e) hf.own (fun g hg => .inr (hf.new g hg)) ?_
        refine DM.put_ok (D := ⟨files2, 0, 0, false⟩) hd3.ok (h.ok.names p hp).1 hpl (fun _ => ?_)
        show files2.length < 256
        have h5 := hi3.le
        have h6 := h.ok.count
        have h7 := h.rel.length
        have h8 := hcr.len
        simp only [List.length_append, List.length_cons, List.length_nil, Array.length_toList] at h5 h7
        omega
      have HPL := Lib.hid hpl; clear hpl
      go_wp2_with fail
      go_region_held3 (fun w' => w'.cell? ⟨b1, 0, none⟩ = some (.map (some m1)))
        (first | exact hd30 | exact hc4 | exact hc5)
        ((go_at_call 30; refine (clone_any _ e.val p.2 (hev3.keptF ((Kept.refl (fun _ => False) _).drew) (fun _ _ h => h)) (by have := HPL.out; omega)).mono ?_; rintro e' w4 ⟨v', rfl, hf, -⟩; obtain ⟨es', clock', hup, hd5, hF5, hk5⟩ := hput v' w4 hf; have hc4 := hf.kept.cell hd30 (fun h => h); have hc5 := hd5.c0))
      go_wp2
      go_roundw
      case rel =>
        have hF3 : ∀ k, diskF b1 m1 es' k → w.heap.size ≤ k ∧ k ≠ w1.heap.size := by
          intro k hk
          rcases hF5 k hk with h1 | h1
          · exact hfo k h1
          · omega
        have hlt5 := hd5.lt
        have hi5 : IterAt (setBlock w4 m1 (.map es' clock')) w1.heap.size m es clock (vis ++ [e]) := by
          refine hi3.kept (hk5.block _ (by omega) (fun hf => (hfo _ hf).2 rfl))
        refine ⟨vis ++ [e], es', clock', _, hi5, hd5, hF3, hcr.step hek hgp (fun y hy hy2 => hnew y hy (by rw [key_inj h.stamped (hi.sub y hy) he hy2])), ?_, ?_⟩
        · refine (hkr.trans hk3 (fun k hk e => by omega)).trans hk5 (fun k hk hf => (hfo k hf).1)
        · have := hk5.size; omega
      case measure =>
        have h1 := hi.seen
        have h2 := hi3.seen
        have h3 : iterSeen (setBlock w4 m1 (.map es' clock')) w1.heap.size = (vis ++ [e]).length := by
          refine IterAt.seen (hi3.kept (hk5.block _ (by omega) (fun hf => (hfo _ hf).2 rfl)))
        rw [h1, h3]
        have h4 := hi3.le
        simp only [List.length_append, List.length_cons, List.length_nil] at h4 ⊢
        omega
end
end Go.Proofs.YtjnhkepgoghogaaDoor
